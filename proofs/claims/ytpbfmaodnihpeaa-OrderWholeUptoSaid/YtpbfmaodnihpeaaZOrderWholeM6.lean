/-
  Parts of the proof of OrderWholeUptoSaid, put together: the abstract evaluation and its contracts. Own work.
  What is proved: each lemma as it stands; no condition.
-/
import Derived.Test.YtpbfmaodnihpeaaZOrderWholeM5

section
/-
  OrderWhole answers true. Own work.
  What is proved: laws on sorted terms; a contract of the abstract evaluation; no condition but on sizes.
-/
namespace Go.Proofs.Ytpbfmaodnihpeaa
open Go.Av
open Classical in
noncomputable def cntT (t : Tm) (l : List Tm) : Nat := (l.filter fun x => decide (x = t)).length
theorem mrg_perm : ∀ (n : Nat) (a b : List Tm), a.length + b.length = n → (mrg a b).Perm (a ++ b) := by
  intro n
  induction n with
  | zero =>
    intro a b h
    obtain rfl : a = [] := List.length_eq_zero_iff.1 (by omega)
    simp
  | succ n ih =>
    intro a b h
    match a, b with
    | [], b => simp
    | x :: a, [] => simp
    | x :: a, y :: b =>
      by_cases hc : cmpT x y ≤ 0
      · rw [mrg_le hc]
        exact (ih a (y :: b) (by simp at h ⊢; omega)).cons x
      · rw [mrg_gt hc]
        exact ((ih (x :: a) b (by simp at h ⊢; omega)).cons y).trans List.perm_middle.symm
theorem sortT_perm (l : List Tm) : (sortT l).Perm l := by
  induction l using list_snoc_ind with
  | h0 => exact List.Perm.refl _
  | h1 l x ih =>
    rw [sortT_snoc]
    exact (mrg_perm _ _ _ rfl).trans (ih.append_right [x])
theorem cntT_sort (t : Tm) (l : List Tm) : cntT t (sortT l) = cntT t l := ((sortT_perm l).filter _).length_eq
theorem uniqG_strict : ∀ (l : List Tm) (p : Tm), SortedT (p :: l) → (uniqG p l).Pairwise (fun a b => cmpT a b < 0) ∧ (∀ z ∈ uniqG p l, cmpT p z < 0) ∧ ∀ z ∈ p :: l, ∃ u ∈ p :: uniqG p l, cmpT u z = 0
  | [], p, _ => by
    refine ⟨by simp [uniqG], by simp [uniqG], fun z hz => ?_⟩
    obtain rfl : z = p := by simpa using hz
    exact ⟨z, by simp, cmpT_self z⟩
  | y :: l, p, h => by
    have h1 : cmpT p y ≤ 0 := (List.pairwise_cons.1 h).1 y (by simp)
    have hl : SortedT (y :: l) := (List.pairwise_cons.1 h).2
    obtain ⟨i1, i2, i3⟩ := uniqG_strict l y hl
    by_cases hz : cmpT p y = 0
    · rw [uniqG, if_pos hz]
      refine ⟨i1, fun z hzm => (cmpT_C3 p y z).2.2.1 h1 (i2 z hzm), fun z hzm => ?_⟩
      rcases List.mem_cons.1 hzm with rfl | hzm
      · exact ⟨z, by simp, cmpT_self z⟩
      · obtain ⟨u, hu, hu0⟩ := i3 z hzm
        rcases List.mem_cons.1 hu with rfl | hu
        · refine ⟨p, by simp, ?_⟩
          have c := cmpT_C3 p u z
          have c1 := c.1 (by omega) (by omega)
          have c2 := c.2.2.2.1 (by omega) (by omega)
          omega
        · exact ⟨u, by simp [hu], hu0⟩
    · rw [uniqG, if_neg hz]
      refine ⟨List.pairwise_cons.2 ⟨i2, i1⟩, fun z hzm => ?_, fun z hzm => ?_⟩
      · rcases List.mem_cons.1 hzm with rfl | hzm
        · omega
        · exact (cmpT_C3 p y z).2.2.1 h1 (i2 z hzm)
      · rcases List.mem_cons.1 hzm with rfl | hzm
        · exact ⟨z, by simp, cmpT_self z⟩
        · obtain ⟨u, hu, hu0⟩ := i3 z hzm
          exact ⟨u, List.mem_cons_of_mem _ hu, hu0⟩
theorem uniqT_strict {l : List Tm} (h : SortedT l) : (uniqT l).Pairwise (fun a b => cmpT a b < 0) ∧ ∀ z ∈ l, ∃ u ∈ uniqT l, cmpT u z = 0 := by
  cases l with
  | nil => exact ⟨by simp [uniqT], fun z hz => by simp at hz⟩
  | cons p l =>
    obtain ⟨i1, i2, i3⟩ := uniqG_strict l p h
    exact ⟨List.pairwise_cons.2 ⟨i2, i1⟩, i3⟩
theorem findT_strict {x : Tm} : ∀ {U : List Tm}, U.Pairwise (fun a b => cmpT a b < 0) → (∃ u ∈ U, cmpT u x = 0) → (findT x U).2 = true ∧ ∃ w, U[(findT x U).1]? = some w ∧ cmpT w x = 0
  | [], _, ⟨u, hu, _⟩ => by simp at hu
  | y :: U, hp, ⟨u, hu, h0⟩ => by
    obtain ⟨p1, p2⟩ := List.pairwise_cons.1 hp
    rw [findT]
    rcases List.mem_cons.1 hu with rfl | hu
    · rw [if_pos (by omega)]
      exact ⟨decide_eq_true h0, u, rfl, h0⟩
    · have hyx : cmpT y x < 0 := (cmpT_C3 y u x).2.1 (p1 u hu) (by omega)
      rw [if_neg (by omega)]
      exact findT_strict p2 ⟨u, hu, h0⟩
theorem cnt_ev {l : List Tm} (hok : OkL l) (hlen : l.length < 1099511627776) (t : Tm) : EVs (EV cfg) 32 [.sl (rowsT l), t.av] = some (.int .i64 (cntT t l)) := by
  have loop : ∀ (d i c : Nat), i + d = l.length → c ≤ i → Gets (wk32_0 (rowsT l) t.kind t.num t.str (rowsT t.subs) c i) (· = .int .i64 ((c + cntT t (l.drop i) : Nat) : Int)) := by
    intro d
    induction d with
    | zero =>
      intro i c hi hc
      refine wk32_0_step _ _ _ _ _ _ _ ?_
      rw [rowsT_length, decide_eq_false (by omega), List.drop_eq_nil_of_le (by omega)]
      exact ⟨_, rfl, by simp [cntT]⟩
    | succ d ih =>
      intro i c hi hc
      have hil : i < l.length := by omega
      refine wk32_0_step _ _ _ _ _ _ _ ?_
      have hx : l[i]? = some l[i] := List.getElem?_eq_getElem hil
      have hs := sameT_ev l[i] (hok.get (List.mem_of_getElem? hx)) t
      have hd : l.drop i = l[i] :: l.drop (i + 1) := List.drop_eq_getElem_cons hil
      rw [rowsT_length, decide_eq_true (show (i : Int) < (l.length : Int) by omega), leInt_zero, ltInt_nat, decide_eq_true hil, rowsT_at hx, wrap_succ hil hlen]
      simp only [cond_true, Bool.and_self, length_cells, Nat.beq_refl, take_cells, kTmC_cells, show Nat.ble 4 4 = true from rfl]
      rw [← Tm.cells_eq, ← Tm.cells_eq]
      obtain ⟨_, hs1, b, rfl, hb⟩ := hs
      have e1 : AV.agg l[i].cells = l[i].av := rfl
      have e2 : AV.agg t.cells = t.av := rfl
      rw [e1, e2, hs1, hd]
      simp only [kOptSome, kBool_bool]
      cases b with
      | true =>
        have hb' : l[i] = t := hb.1 rfl
        have := ih (i + 1) (c + 1) (by omega) (by omega)
        rw [wrap_succ (i := c) (n := l.length) (by omega) hlen]
        have e : cntT t (l[i] :: l.drop (i + 1)) = 1 + cntT t (l.drop (i + 1)) := by
          unfold cntT
          rw [List.filter_cons_of_pos (by simpa using hb'), List.length_cons]; omega
        rw [e, ← Nat.add_assoc]
        exact this
      | false =>
        have hb' : ¬ l[i] = t := fun h => by simpa using hb.2 h
        have := ih (i + 1) c (by omega) (by omega)
        have e : cntT t (l[i] :: l.drop (i + 1)) = cntT t (l.drop (i + 1)) := by
          unfold cntT
          rw [List.filter_cons_of_neg (by simpa using hb')]
        rw [e]
        exact this
  apply Gets.get
  rw [Tm.av, Tm.cells_eq]
  refine cnt_run _ _ _ _ _ ?_
  have := loop l.length 0 0 (by omega) (by omega)
  rw [List.drop_zero, Nat.zero_add] at this
  exact this

theorem wholeA {L rs1 : List (List AV)} {b : Bool} {nb : Nat} {S : List Tm} (hS : SortedT S) (hok : OkL S) (hl : S.length < 1099511627776) {P : AV → Prop} (h : Gets (wk6_3 L (rowsT S) rs1 b S.length nb 1) P) :
    ∀ (d i : Nat), i + d = S.length → Gets (wk6_2 L (rowsT S) rs1 b S.length nb ((i : Int) + 1)) P := by
  intro d
  induction d with
  | zero =>
    intro i hi
    refine wk6_2_step _ _ _ _ _ _ _ ?_
    rw [decide_eq_false (by omega), cond_false]; exact h
  | succ d ih =>
    intro i hi
    refine wk6_2_step _ _ _ _ _ _ _ ?_
    by_cases hin : i + 1 < S.length
    · have hx : S[i]? = some S[i] := List.getElem?_eq_getElem (by omega)
      have hy : S[i + 1]? = some S[i + 1] := List.getElem?_eq_getElem hin
      have hc := compare_ev (hok.get (List.mem_of_getElem? hx)) (hok.get (List.mem_of_getElem? hy))
      have hle := sorted_get hS hx hy (by omega)
      have w1 : IntKind.wrap .i64 ((i : Int) + 1 - 1) = i := by rw [wrap64 (by omega) (by omega)]; omega
      have w2 : IntKind.wrap .i64 ((i : Int) + 1 + 1) = ((i + 1 : Nat) : Int) + 1 := by rw [wrap64 (by omega) (by omega)]; omega
      have g1 : ((i : Int) + 1).toNat = i + 1 := by omega
      have c1 : leInt 0 ((i : Int) + 1) = true := by simp [leInt] <;> omega
      have c2 : ltInt ((i : Int) + 1) (S.length : Int) = true := by simp [ltInt] <;> omega
      have := ih (i + 1) (by omega)
      rw [decide_eq_true (show (i : Int) + 1 < (S.length : Int) by omega), w1, w2, leInt_zero, ltInt_nat, decide_eq_true (show i < S.length by omega), c1, c2]
      simp only [cond_true, Bool.and_self, get?Internal_eq, Nat.zero_add, Int.toNat_natCast, g1, rowsT_get, hx, hy, Option.map_some, kOptSome, length_cells, take_cells, kTmC_cells, show Nat.ble 4 4 = true from rfl]
      rw [← Tm.cells_eq, ← Tm.cells_eq]
      have e1 : AV.agg S[i].cells = S[i].av := rfl
      have e2 : AV.agg S[i + 1].cells = S[i + 1].av := rfl
      rw [e1, e2, hc]
      simp only [kOptSome, kInt_int, decide_eq_false (show ¬ cmpT S[i] S[i + 1] > 0 by omega), cond_false]
      exact this
    · rw [decide_eq_false (by omega), cond_false]; exact h
theorem wholeB {L rs : List (List AV)} {b : Bool} {na : Nat} {U : List Tm} {Z : List (List AV)} (hU : U.Pairwise fun a b => cmpT a b < 0) (hok : OkL U) (hl : U.length < 1099511627776) {P : AV → Prop} (h : Gets (wk6_4 L rs (rowsT U ++ Z) b na U.length 0) P) :
    ∀ (d i : Nat), i + d = U.length → Gets (wk6_3 L rs (rowsT U ++ Z) b na U.length ((i : Int) + 1)) P := by
  intro d
  induction d with
  | zero =>
    intro i hi
    refine wk6_3_step _ _ _ _ _ _ _ ?_
    rw [decide_eq_false (by omega), cond_false]; exact h
  | succ d ih =>
    intro i hi
    refine wk6_3_step _ _ _ _ _ _ _ ?_
    by_cases hin : i + 1 < U.length
    · have hx : U[i]? = some U[i] := List.getElem?_eq_getElem (by omega)
      have hy : U[i + 1]? = some U[i + 1] := List.getElem?_eq_getElem hin
      have gx : (rowsT U ++ Z)[i]? = some U[i].cells := by rw [List.getElem?_append_left (by simp; omega), rowsT_get, hx]; rfl
      have gy : (rowsT U ++ Z)[i + 1]? = some U[i + 1].cells := by rw [List.getElem?_append_left (by simp; omega), rowsT_get, hy]; rfl
      have hc := compare_ev (hok.get (List.mem_of_getElem? hx)) (hok.get (List.mem_of_getElem? hy))
      have hle : cmpT U[i] U[i + 1] < 0 := List.pairwise_iff_getElem.1 hU i (i + 1) (by omega) hin (by omega)
      have w1 : IntKind.wrap .i64 ((i : Int) + 1 - 1) = i := by rw [wrap64 (by omega) (by omega)]; omega
      have w2 : IntKind.wrap .i64 ((i : Int) + 1 + 1) = ((i + 1 : Nat) : Int) + 1 := by rw [wrap64 (by omega) (by omega)]; omega
      have g1 : ((i : Int) + 1).toNat = i + 1 := by omega
      have c1 : leInt 0 ((i : Int) + 1) = true := by simp [leInt] <;> omega
      have c2 : ltInt ((i : Int) + 1) (U.length : Int) = true := by simp [ltInt] <;> omega
      have := ih (i + 1) (by omega)
      rw [decide_eq_true (show (i : Int) + 1 < (U.length : Int) by omega), w1, w2, leInt_zero, ltInt_nat, decide_eq_true (show i < U.length by omega), c1, c2]
      simp only [cond_true, Bool.and_self, get?Internal_eq, Nat.zero_add, Int.toNat_natCast, g1, gx, gy, kOptSome, length_cells, take_cells, kTmC_cells, show Nat.ble 4 4 = true from rfl]
      rw [← Tm.cells_eq, ← Tm.cells_eq]
      have e1 : AV.agg U[i].cells = U[i].av := rfl
      have e2 : AV.agg U[i + 1].cells = U[i + 1].av := rfl
      rw [e1, e2, hc]
      simp only [kOptSome, kInt_int, decide_eq_false (show ¬ cmpT U[i] U[i + 1] ≥ 0 by omega), cond_false]
      exact this
    · rw [decide_eq_false (by omega), cond_false]; exact h
theorem wholeC {l : List Tm} {Z : List (List AV)} (hok : OkL l) (hl : l.length < 1099511627776) :
    ∀ (d i : Nat), i + d = l.length → Gets (wk6_4 (rowsT l) (rowsT (sortT l)) (rowsT (uniqT (sortT l)) ++ Z) true l.length (uniqT (sortT l)).length i) (· = .bool true) := by
  have hSl : (sortT l).length = l.length := sortT_length l
  have hUl : (uniqT (sortT l)).length ≤ l.length := by have := uniqT_len (sortT l); omega
  have hst := uniqT_strict (sortT_sorted l)
  have okS := sortT_ok hok
  have okU := uniqT_ok okS
  have tk : List.take l.length (rowsT (sortT l)) = rowsT (sortT l) := List.take_of_length_le (by simp [hSl])
  have tu : List.take (uniqT (sortT l)).length (rowsT (uniqT (sortT l)) ++ Z) = rowsT (uniqT (sortT l)) := take_tops
  have b1 : Nat.ble l.length (rowsT (sortT l)).length = true := by rw [rowsT_length, hSl, Nat.ble_eq]; exact Nat.le_refl _
  have b2 : Nat.ble (uniqT (sortT l)).length (rowsT (uniqT (sortT l)) ++ Z).length = true := by rw [Nat.ble_eq]; simp
  intro d
  induction d with
  | zero =>
    intro i hi
    refine wk6_4_step _ _ _ _ _ _ _ ?_
    rw [rowsT_length, decide_eq_false (by omega)]
    have : decide ((((uniqT (sortT l)).length : Nat) : Int) ≤ (l.length : Int)) = true := decide_eq_true (by omega)
    rw [this]
    simp
  | succ d ih =>
    intro i hi
    have hil : i < l.length := by omega
    refine wk6_4_step _ _ _ _ _ _ _ ?_
    have hx : l[i]? = some l[i] := List.getElem?_eq_getElem hil
    have hxl := List.mem_of_getElem? hx
    have c1 := cnt_ev okS (by omega) l[i]
    have c2 := cnt_ev hok hl l[i]
    rw [cntT_sort] at c1
    have hf := find_ev okU (by omega) (hok.get hxl)
    obtain ⟨f1, w, f2, f3⟩ := findT_strict hst.1 (hst.2 l[i] (mem_sortT.2 hxl))
    rw [f1] at hf
    obtain ⟨f4, f5⟩ := List.getElem?_eq_some_iff.1 f2
    generalize (findT l[i] (uniqT (sortT l))).1 = q at *
    have hcw := compare_ev (okU.get (List.mem_of_getElem? f2)) (hok.get hxl)
    rw [f3] at hcw
    have gw : (rowsT (uniqT (sortT l)) ++ Z)[q]? = some w.cells := by rw [List.getElem?_append_left (by simp; omega), rowsT_get, f2]; rfl
    have ihs := ih (i + 1) (by omega)
    rw [rowsT_length, decide_eq_true (show (i : Int) < (l.length : Int) by omega), leInt_zero, ltInt_nat, decide_eq_true hil, wrap_succ hil hl]
    simp only [cond_true, Bool.and_self, Bool.and_true, Nat.zero_add, rowsT_at hx, length_cells, take_cells, kTmC_cells, Nat.beq_refl, show Nat.ble 4 4 = true from rfl, b1, b2, tk, tu]
    rw [← Tm.cells_eq]
    have e1 : AV.agg l[i].cells = l[i].av := rfl
    have hq : leInt 0 (q : Int) = true := leInt_zero q
    have hq2 : ltInt (q : Int) ((uniqT (sortT l)).length : Int) = true := by rw [ltInt_nat]; exact decide_eq_true f4
    have hq3 : decide ((q : Int) ≥ ((uniqT (sortT l)).length : Int)) = false := decide_eq_false (by omega)
    have e2 : AV.agg w.cells = w.av := rfl
    simp only [e1, c1, c2, hf, kOptSome, kInt_int, bne_self_eq_false, cond_false, kTup, kCons, kNil, kBool_bool, Bool.not_true, hq, hq2, hq3, cond_true, Bool.and_self, get?Internal_eq, Int.toNat_natCast, gw, length_cells, take_cells, kTmC_cells, show Nat.ble 4 4 = true from rfl, ← Tm.cells_eq, e2, hcw]
    exact ihs
theorem orderWhole_cons {x : Tm} {l : List Tm} (hok : OkL (x :: l)) (hl : (x :: l).length < 1099511627776) : EVs (EV cfg) 6 [.sl (rowsT (x :: l))] = some (.bool true) := by
  have hSl : (sortT (x :: l)).length = (x :: l).length := sortT_length _
  have okS := sortT_ok hok
  have okU := uniqT_ok okS
  have hUl : (uniqT (sortT (x :: l))).length ≤ (x :: l).length := by have := uniqT_len (sortT (x :: l)); omega
  have h1 := largeAll_ev hok hl 300
  have h2 := sort_ev hl hok
  have h3 := unique_ev hl hok
  have hst := uniqT_strict (sortT_sorted (x :: l))
  apply Gets.get
  refine ow_run _ ?_
  rw [orderKnown_ev]
  simp only [kOptSome, kBool_bool]
  refine Gets.bind h1 ?_
  rintro _ ⟨b, rfl⟩
  cases b with
  | true => simp
  | false =>
    simp only [kBool_bool, cond_false, h2, kOptSome, kOwn_own]
    refine Gets.bind h3 ?_
    rintro _ ⟨Z, rfl, hz1, hz2⟩
    simp only [kOwn_own]
    have hC := wholeC (Z := Z) hok hl (x :: l).length 0 (by omega)
    have hB := wholeB (L := rowsT (x :: l)) (rs := rowsT (sortT (x :: l))) (b := true) (na := (x :: l).length) (Z := Z) hst.1 okU (by omega) hC (uniqT (sortT (x :: l))).length 0 (by omega)
    have hA := wholeA (L := rowsT (x :: l)) (rs1 := rowsT (uniqT (sortT (x :: l))) ++ Z) (b := true) (nb := (uniqT (sortT (x :: l))).length) (sortT_sorted (x :: l)) okS (by omega) (by rw [hSl]; exact hB) (sortT (x :: l)).length 0 (by omega)
    rw [hSl] at hA
    exact hA
end Go.Proofs.Ytpbfmaodnihpeaa
end
