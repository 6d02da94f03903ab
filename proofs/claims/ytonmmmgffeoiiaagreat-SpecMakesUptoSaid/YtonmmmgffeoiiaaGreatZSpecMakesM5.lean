/-
  Parts of the proof of SpecMakesUptoSaid, put together: the abstract evaluation and its contracts. Own work.
  What is proved: each lemma as it stands; no condition.
-/
import Derived.Test.YtonmmmgffeoiiaaGreatZSpecMakesM4

section
namespace Go.Av
theorem listT_wl : ∀ l : List Tm, wL l + l.length ≤ (listT l).w
  | [] => Nat.zero_le _
  | x :: l => by
    have h := listT_wl l
    have : (listT (x :: l)).w = 1 + 0 + (x.w + ((listT l).w + 0)) ∨ wL (x :: l) + (x :: l).length ≤ (listT (x :: l)).w := by
      right
      have e := (listT (x :: l)).w_eq
      have : (listT (x :: l)).subs = [x, listT l] := rfl
      rw [this] at e
      simp only [wL_cons, wL_nil, List.length_cons] at e ⊢
      omega
    rcases this with h1 | h1
    · simp only [wL_cons, List.length_cons]; omega
    · exact h1
theorem selT_parts {cs : List Cl} {c : Cl} (h : c ∈ cs) : c.head.w + wL c.gs + c.gs.length + wL c.bs + c.bs.length ≤ (selT cs).w := by
  have h1 := listT_wl (cs.map clT)
  have h2 : (clT c).w ≤ wL (cs.map clT) := wL_mem (List.mem_map.2 ⟨c, h, rfl⟩)
  have h3 := listT_wl c.gs
  have h4 := listT_wl c.bs
  have e := (clT c).w_eq
  have : (clT c).subs = [c.head, listT c.gs, listT c.bs] := rfl
  rw [this] at e
  simp only [wL_cons, wL_nil] at e
  have : selT cs = listT (cs.map clT) := rfl
  rw [this]
  omega
theorem selT_len (cs : List Cl) : cs.length ≤ (selT cs).w := by
  have h1 := listT_wl (cs.map clT)
  rw [List.length_map] at h1
  have : selT cs = listT (cs.map clT) := rfl
  rw [this]
  omega
end Go.Av
namespace Go.Proofs.YtonmmmgffeoiiaaGreat
open Go.Av
theorem agg_av (t : Tm) : t.av = .agg [.int .i64 t.kind, .int .i64 t.num, .str t.str, .sl (rowsT t.subs)] := by rw [Tm.av, Tm.cells_eq]
theorem spOf_loop {cs : List Cl} (hw : (selT cs).w < 1099511627775) : ∀ d i : Nat, i + d = cs.length →
    Gets (wg14_0 (rowsC cs) i i 0 0 [] [] 8 0 [] [] (rowsT ((cs.take i).map clT))) (· = .tup [(ofG cs).1.av, .int .i64 (ofG cs).2]) := by
  have hlen := selT_len cs
  have hend : AV.agg [.int .i64 8, .int .i64 0, .str [], .sl []] = (Tm.mk 8 0 [] []).av := by rw [Tm.av_mk]; rfl
  intro d
  induction d with
  | zero =>
    intro i hi
    obtain rfl : i = cs.length := by omega
    refine wg14_0_step _ _ _ _ _ _ _ _ _ _ _ _ ?_
    have hb : Nat.ble (0 + cs.length) (rowsT (cs.map clT)).length = true := by rw [Nat.ble_eq, rowsT_length, List.length_map]; omega
    have ht : List.take cs.length (rowsT (cs.map clT)) = rowsT (cs.map clT) := List.take_of_length_le (by rw [rowsT_length, List.length_map]; exact Nat.le_refl _)
    have hm := makeList_ev (l := cs.map clT) (by rw [List.length_map]; omega) (.mk 8 0 [] [])
    have hsel : makeG (cs.map clT) (.mk 8 0 [] []) = selT cs := rfl
    have hk := spCheck_ev (t := selT cs) (by omega)
    have hcp := copy_ev (t := selT cs) (ok_of_w _ (by omega))
    rw [rowsC_len, decide_eq_false (by omega), List.take_length, hb, ht, hend, hm, hsel]
    simp only [cond_false, Bool.and_self, cond_true, kOptSome, kTmV_av, av_unf, hk, kInt_int, bneD]
    unfold ofG
    by_cases h0 : (clsG (selT cs)).2 = 0
    · rw [decide_eq_true h0, if_pos h0, hcp]
      simp only [Bool.not_true, cond_false, kOptSome, kTmV_av, av_unf]
      exact ⟨_, rfl, rfl⟩
    · rw [decide_eq_false h0, if_neg h0]
      exact ⟨_, rfl, rfl⟩
  | succ d ih =>
    intro i hi
    have hil : i < cs.length := by omega
    have hx : cs[i]? = some cs[i] := List.getElem?_eq_getElem hil
    have hpt := selT_parts (List.mem_of_getElem? hx)
    have h1 := ih (i + 1) (by omega)
    refine wg14_0_step _ _ _ _ _ _ _ _ _ _ _ _ ?_
    have gx : List.get?Internal (rowsC cs) (Int.toNat (i : Int)) = some cs[i].cells := by
      rw [get?Internal_eq, Int.toNat_natCast, rowsC_get, hx]; rfl
    have hl : ((cs.take i).map clT).length = i := by rw [List.length_map, List.length_take]; omega
    have hb : Nat.ble (0 + i) (rowsT ((cs.take i).map clT)).length = true := by rw [Nat.ble_eq, rowsT_length, hl]; omega
    have ht : List.take i (rowsT ((cs.take i).map clT)) = rowsT ((cs.take i).map clT) := List.take_of_length_le (by rw [rowsT_length, hl]; exact Nat.le_refl _)
    rw [rowsC_len, decide_eq_true (show (i : Int) < (cs.length : Int) by omega), leInt_zero, ltInt_nat, decide_eq_true hil, gx, hb, ht, fits56 (by omega), wrap_succ hil (by omega), hend]
    have e1 : cs.take (i + 1) = cs.take i ++ [cs[i]] := by rw [List.take_add_one, hx]; rfl
    rw [e1, List.map_append, rowsT_append] at h1
    generalize cs[i] = c at *
    have b6 : Nat.ble 6 c.cells.length = true := rfl
    have b66 : Nat.beq c.cells.length 6 = true := rfl
    have t6 : List.take 6 c.cells = c.cells := rfl
    have k1 := makeList_ev (l := c.gs) (by omega) (.mk 8 0 [] [])
    have k2 := makeList_ev (l := c.bs) (by omega) (.mk 8 0 [] [])
    have k3 := makeTuple_ev (x := c.head) (l := [listT c.gs, listT c.bs]) (by simp)
    simp only [cond_true, Bool.and_self, kOptSome, b6, b66, t6]
    unfold Cl.cells
    simp only [kCons, kInt_int, kStr_str, kSl_sl, kNil, k1, k2, kOptSome, kTmV_av]
    have er : [[AV.int .i64 c.head.kind, .int .i64 c.head.num, .str c.head.str, .sl (rowsT c.head.subs)], [AV.int .i64 (makeG c.gs (.mk 8 0 [] [])).kind, .int .i64 (makeG c.gs (.mk 8 0 [] [])).num, .str (makeG c.gs (.mk 8 0 [] [])).str, .sl (rowsT (makeG c.gs (.mk 8 0 [] [])).subs)], [AV.int .i64 (makeG c.bs (.mk 8 0 [] [])).kind, .int .i64 (makeG c.bs (.mk 8 0 [] [])).num, .str (makeG c.bs (.mk 8 0 [] [])).str, .sl (rowsT (makeG c.bs (.mk 8 0 [] [])).subs)]] = rowsT [c.head, listT c.gs, listT c.bs] := by
      rw [rowsT_cons, rowsT_cons, rowsT_cons, rowsT_nil, Tm.cells_eq, Tm.cells_eq, Tm.cells_eq]; rfl
    rw [er, k3]
    simp only [kOptSome, kTmV_av]
    have ec : [[AV.int .i64 (tupT [c.head, listT c.gs, listT c.bs]).kind, .int .i64 (tupT [c.head, listT c.gs, listT c.bs]).num, .str (tupT [c.head, listT c.gs, listT c.bs]).str, .sl (rowsT (tupT [c.head, listT c.gs, listT c.bs]).subs)]] = rowsT ([c].map clT) := by
      show _ = rowsT [clT c]
      rw [rowsT_cons, rowsT_nil, Tm.cells_eq]; rfl
    rw [ec]
    exact h1
theorem spOf_ev {cs : List Cl} (hw : (selT cs).w < 1099511627775) : EVf (EV cfg) 23 [.sl (rowsC cs)] = some (.tup [(ofG cs).1.av, .int .i64 (ofG cs).2]) := by
  apply Gets.get
  refine spOf_run _ ?_
  exact spOf_loop hw cs.length 0 (by omega)
def patC (p : Tm) : Cl := ⟨p, [], [symT [36, 95]]⟩
theorem spMatch_ev {p : Tm} (hw : (selT [patC p]).w < 1099511627775) : EVf (EV cfg) 25 [p.av] = some (.tup [(ofG [patC p]).1.av, .int .i64 (ofG [patC p]).2]) := by
  have h := spOf_ev hw
  have ha := makeAtom_ev [36, 95]
  apply Gets.get
  rw [Tm.av, Tm.cells_eq]
  refine spMatch_run _ _ _ _ ?_
  rw [ha]
  simp only [kOptSome, kTmV_av]
  have er : [[AV.int .i64 p.kind, .int .i64 p.num, .str p.str, .sl (rowsT p.subs), .sl [], .sl [[AV.int .i64 (symT [36, 95]).kind, .int .i64 (symT [36, 95]).num, .str (symT [36, 95]).str, .sl (rowsT (symT [36, 95]).subs)]]]] = rowsC [patC p] := by
    unfold rowsC Cl.cells patC
    simp only [List.map_cons, List.map_nil, rowsT_cons, rowsT_nil, Tm.cells_eq]
  rw [er, h]
  generalize ofG [patC p] = r
  obtain ⟨x, e⟩ := r
  simp only []
  rw [Tm.av, Tm.cells_eq]
  exact ⟨_, rfl, rfl⟩
end Go.Proofs.YtonmmmgffeoiiaaGreat
end

section
namespace Go.Av
def okC (c : Cl) : Bool := headG c.head && !c.bs.isEmpty && (c.gs.all (fun e => decide (checkG (varsG c.head) e = 0)) && c.bs.all (fun e => decide (checkG (varsG c.head) e = 0)))
theorem clauseG_clT (c : Cl) : clauseG (clT c) = if okC c then some c else none := by
  unfold clauseG clT
  rw [if_pos (show (tupT [c.head, listT c.gs, listT c.bs]).kind = 7 from rfl)]
  show (if headG c.head && ((itemsG (listT c.gs)).2 && ((itemsG (listT c.bs)).2 && !(itemsG (listT c.bs)).1.isEmpty)) && ((itemsG (listT c.gs)).1.all (fun e => decide (checkG (varsG c.head) e = 0)) && (itemsG (listT c.bs)).1.all (fun e => decide (checkG (varsG c.head) e = 0))) then some (Cl.mk c.head (itemsG (listT c.gs)).1 (itemsG (listT c.bs)).1) else none) = _
  rw [itemsG_list, itemsG_list]
  simp only [Bool.true_and]
  rfl
theorem seqC_clT : ∀ cs : List Cl, seqC (cs.map clT) = if cs.all okC then some cs else none
  | [] => rfl
  | c :: cs => by
    rw [List.map_cons, seqC, clauseG_clT, seqC_clT cs, List.all_cons]
    cases okC c <;> cases cs.all okC <;> rfl
theorem clsG_selT (cs : List Cl) : clsG (selT cs) = if (selT cs).chk = 0 then (if cs.all okC && !cs.isEmpty then (cs, 0) else ([], 10)) else ([], 2) := by
  unfold clsG
  have h : itemsG (selT cs) = (cs.map clT, true) := itemsG_list _
  rw [h]
  simp only [seqC_clT, Bool.true_and]
  cases h1 : cs.all okC <;> cases cs <;> simp
structure SelOk (cs : List Cl) : Prop where
  chk : (selT cs).chk = 0
  ok : ∀ c ∈ cs, okC c = true
  ne : cs ≠ []
theorem clsG_zero {cs : List Cl} : (clsG (selT cs)).2 = 0 ↔ SelOk cs := by
  rw [clsG_selT]
  by_cases h : (selT cs).chk = 0
  · rw [if_pos h]
    cases h1 : cs.all okC && !cs.isEmpty with
    | true =>
      rw [Bool.and_eq_true, List.all_eq_true] at h1
      exact ⟨fun _ => ⟨h, h1.1, by rintro rfl; exact absurd h1.2 (by simp)⟩, fun _ => rfl⟩
    | false =>
      refine ⟨fun h => (by cases h), fun g => ?_⟩
      rw [List.all_eq_true.2 g.ok, Bool.true_and] at h1
      exact absurd (List.isEmpty_iff.1 (by simpa using h1)) g.ne
  · rw [if_neg h]
    exact ⟨fun h => (by cases h), fun g => absurd g.chk h⟩
theorem SelOk.of {cs : List Cl} (h : SelOk cs) : ofG cs = (selT cs, 0) := by
  unfold ofG
  rw [if_pos (clsG_zero.2 h)]
theorem listT_words : ∀ l : List Tm, (listT l).words = 1 + l.length + wordsL l
  | [] => by decide
  | x :: l => by
    have h : (listT (x :: l)).words = 1 + (x.words + ((listT l).words + 0)) := by
      show (Tm.mk 9 0 [] [x, listT l]).words = _
      rw [Tm.words]; simp [wordsL, Tm.own]
    rw [h, listT_words l, wordsL, List.length_cons]; omega
theorem listT_parts : ∀ l : List Tm, (listT l).parts = partsL l
  | [] => by decide
  | x :: l => by
    have h : (listT (x :: l)).parts = (x.parts && ((listT l).parts && true)) := by
      show (Tm.mk 9 0 [] [x, listT l]).parts = _
      rw [Tm.parts]; simp [partsL, soundB]
    rw [h, listT_parts l, partsL, Bool.and_true]
theorem sel_one {c : Cl} : (selT [c]).chk = 0 ↔ (clT c).parts = true ∧ 2 + (clT c).words ≤ 65536 := by
  rw [chk_zero, selT, listT_words, listT_parts]
  simp [partsL, wordsL]
theorem SelOk.one {cs : List Cl} (h : SelOk cs) {c : Cl} (hc : c ∈ cs) : SelOk [c] := by
  obtain ⟨h1, h2⟩ := chk_zero.1 h.chk
  rw [selT, listT_parts] at h1
  rw [selT, listT_words] at h2
  have hm := List.mem_map_of_mem (f := clT) hc
  have := wordsL_mem hm
  have hl : 1 ≤ cs.length := List.length_pos_of_mem hc
  rw [List.length_map] at h2
  exact ⟨sel_one.2 ⟨partsL_mem h1 _ hm, by omega⟩, by simpa using h.ok c hc, by simp⟩
end Go.Av
end

section
namespace Go.Proofs.YtonmmmgffeoiiaaGreat
open Go.Av
def SizeP (t : Tm) (most : Int) (v : AV) : Prop := ∃ n : Int, v = .int .i64 n ∧ 1 ≤ n ∧ n ≤ most ∧ (n < most → t.w ≤ 101 * n ∧ t.words ≤ 2 * n)
theorem sizeV_ev (t : Tm) : t.Ok → ∀ most : Int, 1 ≤ most → most ≤ 1073741824 → Gets (EVs (EV cfg) 51 [t.av, .int .i64 most]) (SizeP t most) := by
  induction t using Tm.ind with
  | _ k n s l ih =>
    intro hok most h1 hmx
    by_cases hs : s.length ≤ 100
    · have loop : ∀ (d i : Nat) (m : Int), i + d = l.length → 1 ≤ m → m ≤ most → (m < most → (1 + s.length : Nat) + wL (l.take i) ≤ 101 * m ∧ 2 + wordsL (l.take i) ≤ 2 * m) → Gets (wh47_0 most m i k n s (rowsT l)) (SizeP (.mk k n s l) most) := by
        intro d
        induction d with
        | zero =>
          intro i m hi hm1 hm2 hmw
          refine wh47_0_step _ _ _ _ _ _ _ ?_
          rw [rowsT_length, decide_eq_false (by omega)]
          refine ⟨_, rfl, m, rfl, hm1, hm2, fun hlt => ?_⟩
          have hmw := hmw hlt
          rw [List.take_of_length_le (by omega)] at hmw
          have := (Tm.mk k n s l).own_le
          rw [Tm.w_mk, Tm.words]
          omega
        | succ d ihd =>
          intro i m hi hm1 hm2 hmw
          refine wh47_0_step _ _ _ _ _ _ _ ?_
          have hil : i < l.length := by omega
          have hx : l[i]? = some l[i] := List.getElem?_eq_getElem hil
          have hxl := List.mem_of_getElem? hx
          have hix := ih l[i] hxl (hok.sub hxl)
          by_cases hm : m < most
          · have hmw := hmw hm
            rw [wrap_succ hil hok.len, wrap64 (x := most - m) (by omega) (by omega)]
            simp [hil, hx, hm]
            refine Gets.bind (hix (most - m) (by omega) (by omega)) ?_
            rintro _ ⟨n'', rfl, q1, q2, q3⟩
            have hg := ihd (i + 1) (m + n'') (by omega) (by omega) (by omega) (fun hlt => by
              have := q3 (by omega)
              rw [List.take_add_one, hx, Option.toList_some, wL_append, wordsL_append, wL_cons, wL_nil, wordsL, wordsL]
              omega)
            simp only [kInt_int]
            rw [wrap64 (x := m + n'') (by omega) (by omega)]
            simpa using hg
          · simp [hil, hm]
            exact ⟨m, rfl, hm1, hm2, fun h => absurd h hm⟩
      rw [Tm.av_mk]
      refine kitSize_run _ _ _ _ _ ?_
      rw [decide_eq_false (by omega)]
      by_cases h2 : (l.length : Int) > most
      · rw [rowsT_length, decide_eq_true h2]
        exact ⟨_, rfl, most, rfl, h1, Int.le_refl _, fun h => absurd h (by omega)⟩
      · rw [rowsT_length, decide_eq_false h2]
        exact loop l.length 0 1 (by omega) (by omega) (by omega) (fun _ => by simp [wordsL]; omega)
    · rw [Tm.av_mk]
      refine kitSize_run _ _ _ _ _ ?_
      rw [decide_eq_true (by omega)]
      exact ⟨_, rfl, most, rfl, h1, Int.le_refl _, fun h => absurd h (by omega)⟩
def BigP (t : Tm) (most : Int) (v : AV) : Prop := ∃ b : Bool, v = .bool b ∧ (b = false → t.w ≤ 101 * most ∧ t.words ≤ 2 * most)
theorem bigV_ev {t : Tm} (h : t.Ok) {most : Int} (h1 : 1 ≤ most) (h2 : most ≤ 1000000000) : Gets (EVs (EV cfg) 27 [t.av, .int .i64 most]) (BigP t most) := by
  have h1 := sizeV_ev t h (most + 1) (by omega) (by omega)
  rw [Tm.av, Tm.cells_eq] at h1 ⊢
  refine kitBig_run _ _ _ _ _ ?_
  rw [wrap64 (by omega) (by omega)]
  refine Gets.bind h1 ?_
  rintro _ ⟨n, rfl, q1, q2, q3⟩
  simp only [kInt_int]
  refine ⟨_, rfl, _, rfl, fun hb => ?_⟩
  have hb : ¬ n > most := of_decide_eq_false hb
  have := q3 (by omega)
  omega
end Go.Proofs.YtonmmmgffeoiiaaGreat
end

section
namespace Go.Proofs.YtonmmmgffeoiiaaGreat
open Go.Av
set_option maxRecDepth 100000
set_option maxHeartbeats 0

noncomputable def Ll7_0 : Den := evC cfg (EV cfg) 6 none 0 (sub (bodyOf Tryz.f6) [1, 0, 1, 0, 0])
noncomputable def Al7_0 : Ex × List AV × AH → Option AV := kAft (Cfg.keepOut cfg 6 2) (kRun cfg (EV cfg) (kfN cfg 6) 6 none 0 (kFinS cfg (Cfg.lift cfg 6 0) Tryz.f6.results.toList) ([.block 0, .seq (sub (bodyOf Tryz.f6) [1, 1])]))
noncomputable def Wl7_0 : List AV × AH → Option AV := fun p => kOpt (LOOP 0 (some [0, 3]) ([]) Ll7_0 p) Al7_0
noncomputable abbrev wl7_0 (L : List (List AV)) (v3 : Int) : Option (AV) := Wl7_0  (((fx 15 [(0, AV.sl L), (3, AV.int IntKind.i64 v3)]) : List AV), ([] : AH))
theorem large18_run (L : List (List AV)) {P : AV → Prop} (h : Gets (wl7_0 L (0 : Int)) P) : Gets (EVs (EV cfg) 6 ([AV.sl L] : List AV)) P :=
  Gets.ev (fun _ h => funS rfl rfl Tryz.func6 rfl h) (Gets.eq (by kernel_rfl) h)
theorem wl7_0_step (L : List (List AV)) (v3 : Int) {P : AV → Prop} (h : Gets (bif decide (v3 < (↑(List.length L) : Int)) then bif leInt (0 : Int) v3 && ltInt v3 (↑(List.length L) : Int) then kOpt (List.get?Internal L (Int.toNat v3)) fun (row : List AV) => bif 
  Nat.beq (List.length row) 4 then bif Nat.ble 4 (List.length row) then kTmC (List.take 4 row) fun (n n_1 : Int) (s : List UInt8) (rows : List (List AV)) => (kOpt (EVs (EV cfg) 27 [.agg 
  [AV.int .i64 n, .int .i64 n_1, .str s, .sl rows], .int .i64 (400 : Int)]) fun (v : AV) => kBool v fun (b : Bool) => bif b then some (.bool true) else wl7_0 L (IntKind.wrap .i64 (v3 + 
  (1 : Int)))) else none else none else none else some (.bool false)) P) : Gets (wl7_0 L v3) P :=
  Gets.ev (fun _ h => loop_step (cfg := cfg) (f := 6) (rd := none) (bs := 0) h) (Gets.eq (by kernel_rfl) h)
end Go.Proofs.YtonmmmgffeoiiaaGreat
end

section
namespace Go.Proofs.YtonmmmgffeoiiaaGreat
open Go.Av
set_option maxRecDepth 100000
set_option maxHeartbeats 0

noncomputable def Lq67_0 : Den := evC cfg (EV cfg) 34 none 0 (sub (bodyOf Tryz.f34) [1, 1, 0, 1, 0, 0])
noncomputable def Aq67_0 : Ex × List AV × AH → Option AV := kAft (Cfg.keepOut cfg 34 4) (kRun cfg (EV cfg) (kfN cfg 6) 34 none 0 (kFinS cfg (Cfg.lift cfg 34 0) Tryz.f34.results.toList) ([.block 0, .seq (sub (bodyOf Tryz.f34) [1, 1, 1])]))
noncomputable def Wq67_0 : List AV × AH → Option AV := fun p => kOpt (LOOP 0 (some [0, 1, 5]) ([]) Lq67_0 p) Aq67_0
noncomputable abbrev wq67_0 (A : List (List AV)) (B : List (List AV)) (v5 : Int) : Option (AV) := Wq67_0  (((fx 27 [(0, AV.sl A), (1, AV.sl B), (5, AV.int IntKind.i64 v5)]) : List AV), ([] : AH))
theorem tenurekit_SameTerm_run (ka : Int) (na : Int) (sa : List UInt8) (la : List (List AV)) (kb : Int) (nb : Int) (sb : List UInt8) (lb : List (List AV)) {P : AV → Prop} (h : Gets (bif ka == kb then bif na == nb then bif sa == sb then kOpt (EVs (EV cfg) 34 [.sl la, .sl lb]) fun (v : AV) => kBool v fun (b : Bool) => some (.bool b) else some (.bool false) else some 
  (.bool false) else some (.bool false)) P) : Gets (EVs (EV cfg) 12 ([AV.agg [AV.int IntKind.i64 ka, AV.int IntKind.i64 na, AV.str sa, AV.sl la], AV.agg [AV.int IntKind.i64 kb, AV.int IntKind.i64 nb, AV.str sb, AV.sl lb]] : List AV)) P :=
  Gets.ev (fun _ h => funS rfl rfl Tryz.func12 rfl h) (Gets.eq (by kernel_rfl) h)
theorem tenurekit_SameTerms_run (A : List (List AV)) (B : List (List AV)) {P : AV → Prop} (h : Gets (bif (↑(List.length A) : Int) != (↑(List.length B) : Int) then some (.bool false) else wq67_0 A B (0 : Int)) P) : Gets (EVs (EV cfg) 34 ([AV.sl A, AV.sl B] : List AV)) P :=
  Gets.ev (fun _ h => funS rfl rfl Tryz.func34 rfl h) (Gets.eq (by kernel_rfl) h)
theorem wq67_0_step (A : List (List AV)) (B : List (List AV)) (v5 : Int) {P : AV → Prop} (h : Gets (bif decide (v5 < (↑(List.length A) : Int)) then bif leInt (0 : Int) v5 && ltInt v5 (↑(List.length A) : Int) then kOpt (List.get?Internal A (Int.toNat v5)) fun (row : List AV) => bif 
  Nat.beq (List.length row) 4 then bif Nat.ble 4 (List.length row) then kTmC (List.take 4 row) fun (n n_1 : Int) (s : List UInt8) (rows : List (List AV)) => (bif leInt (0 : Int) v5 && 
  ltInt v5 (↑(List.length B) : Int) then kOpt (List.get?Internal B (Int.toNat v5)) fun (row : List AV) => bif Nat.beq (List.length row) 4 then bif Nat.ble 4 (List.length row) then kTmC 
  (List.take 4 row) fun (n_2 n_3 : Int) (s_1 : List UInt8) (rows_1 : List (List AV)) => (kOpt (EVs (EV cfg) 12 [.agg [.int .i64 n, .int .i64 n_1, .str s, .sl rows], .agg [.int .i64 n_2, 
  .int .i64 n_3, .str s_1, .sl rows_1]]) fun (v : AV) => kBool v fun (b : Bool) => bif !b then some (.bool false) else wq67_0 A B (IntKind.wrap .i64 (v5 + (1 : Int)))) else none else 
  none else none) else none else none else none else some (.bool true)) P) : Gets (wq67_0 A B v5) P :=
  Gets.ev (fun _ h => loop_step (cfg := cfg) (f := 34) (rd := none) (bs := 0) h) (Gets.eq (by kernel_rfl) h)
end Go.Proofs.YtonmmmgffeoiiaaGreat
end

section
namespace Go.Proofs.YtonmmmgffeoiiaaGreat
open Go.Av
theorem sameL_of (la lb : List Tm) (hlen : la.length < 1099511627776) (ih : ∀ a ∈ la, ∀ b, Gets (EVs (EV cfg) 12 [a.av, b.av]) (Tells (a = b))) : Gets (EVs (EV cfg) 34 [.sl (rowsT la), .sl (rowsT lb)]) (Tells (la = lb)) := by
  have loop : la.length = lb.length → ∀ (d i : Nat), i + d = la.length → la.take i = lb.take i → Gets (wq67_0 (rowsT la) (rowsT lb) i) (Tells (la = lb)) := by
    intro hl d
    induction d with
    | zero =>
      intro i hi ht
      refine wq67_0_step _ _ _ ?_
      rw [List.take_of_length_le (by omega), List.take_of_length_le (by omega)] at ht
      have h1 : ¬ i < la.length := by omega
      simp [h1, tells_bool]
      exact ht
    | succ d ihd =>
      intro i hi ht
      refine wq67_0_step _ _ _ ?_
      have hlt1 : i < la.length := by omega
      have hlt2 : i < lb.length := by omega
      have hx : la[i]? = some la[i] := List.getElem?_eq_getElem hlt1
      have hy : lb[i]? = some lb[i] := List.getElem?_eq_getElem hlt2
      have hix := ih la[i] (List.mem_of_getElem? hx) lb[i]
      have hta : la.take (i + 1) = la.take i ++ [la[i]] := by rw [List.take_add_one, hx]; rfl
      have htb : lb.take (i + 1) = lb.take i ++ [lb[i]] := by rw [List.take_add_one, hy]; rfl
      have hih := ihd (i + 1) (by omega)
      have hne : la[i] ≠ lb[i] → la ≠ lb := by intro h e; subst e; exact h rfl
      rw [hta, htb, ht] at hih
      rw [wrap_succ (n := la.length) (by omega) hlen]
      simp [hlt1, hlt2, hx, hy]
      refine Gets.bind hix ?_
      rintro _ ⟨b, rfl, hb⟩
      cases b with
      | true => simp; exact hih (by rw [hb.1 rfl])
      | false =>
        have : la ≠ lb := hne (fun e => by cases hb.2 e)
        simp [tells_bool, this]
  refine tenurekit_SameTerms_run _ _ ?_
  by_cases hl : la.length = lb.length
  · simp [hl]
    exact loop hl la.length 0 (by omega) (by simp)
  · have : la ≠ lb := fun e => hl (by rw [e])
    have hl' : ¬ ((la.length : Int) = lb.length) := by omega
    simp [bneD, hl', tells_bool, this]
theorem sameT_ev (a : Tm) : a.Ok → ∀ b : Tm, Gets (EVs (EV cfg) 12 [a.av, b.av]) (Tells (a = b)) := by
  induction a using Tm.ind with
  | _ k n s l ih =>
    intro hok b
    obtain ⟨k', n', s', l'⟩ := b
    have hl := sameL_of l l' hok.len (fun a ha b => ih a ha (hok.sub ha) b)
    rw [Tm.av_mk, Tm.av_mk]
    refine tenurekit_SameTerm_run _ _ _ _ _ _ _ _ ?_
    by_cases h1 : k = k'
    · by_cases h2 : n = n'
      · by_cases h3 : s = s'
        · subst h1 h2 h3
          simp
          refine Gets.bind hl ?_
          rintro _ ⟨b, rfl, hb⟩
          simp [tells_bool, hb]
        · simp [h1, h2, beqD, h3, tells_bool]
      · simp [h1, beqD, h2, tells_bool]
    · simp [beqD, h1, tells_bool]
theorem sameT_dec {a b : Tm} (h : a.Ok) {c : Bool} (hc : c = true ↔ a = b) : EVs (EV cfg) 12 [a.av, b.av] = some (.bool c) := by
  obtain ⟨_, h1, b', rfl, h2⟩ := sameT_ev a h b
  rw [h1]
  have : b' = c := by rw [Bool.eq_iff_iff]; exact h2.trans hc.symm
  rw [this]
end Go.Proofs.YtonmmmgffeoiiaaGreat
end

section
namespace Go.Av
theorem clT_w (c : Cl) : (clT c).w ≤ 3 + c.head.w + (c.gs.length + wL c.gs) + (c.bs.length + wL c.bs) := by
  have h1 := listT_w c.gs
  have h2 := listT_w c.bs
  have : (clT c).w = 1 + (c.head.w + ((listT c.gs).w + ((listT c.bs).w + 0))) := by
    rw [Tm.w_eq]
    show 1 + 0 + wL [c.head, listT c.gs, listT c.bs] = _
    simp only [wL_cons, wL_nil]
  omega
theorem sel1_w (c : Cl) : (selT [c]).w ≤ 5 + c.head.w + (c.gs.length + wL c.gs) + (c.bs.length + wL c.bs) := by
  have h1 := listT_w [clT c]
  have h2 := clT_w c
  simp only [List.length_cons, List.length_nil, wL_cons, wL_nil] at h1
  show (listT [clT c]).w ≤ _
  omega
theorem okT_w {t : Tm} (h : t.w ≤ 1048576) : t.Ok := ok_of_w t (by omega)
end Go.Av
namespace Go.Proofs.YtonmmmgffeoiiaaGreat
open Go.Av
set_option maxRecDepth 100000
def LargeP (l : List Tm) (v : AV) : Prop := ∃ b : Bool, v = .bool b ∧ (b = false → ∀ x ∈ l, x.w ≤ 40400 ∧ x.words ≤ 800)
theorem large18_ev {l : List Tm} (hl : OkL l) (hlen : l.length < 1099511627776) : Gets (EVs (EV cfg) 6 [.sl (rowsT l)]) (LargeP l) := by
  have loop : ∀ (d i : Nat), i + d = l.length → (∀ x ∈ l.take i, x.w ≤ 40400 ∧ x.words ≤ 800) → Gets (wl7_0 (rowsT l) i) (LargeP l) := by
    intro d
    induction d with
    | zero =>
      intro i hi hx
      refine wl7_0_step _ _ ?_
      rw [rowsT_length, decide_eq_false (by omega)]
      rw [List.take_of_length_le (by omega)] at hx
      exact ⟨_, rfl, _, rfl, fun _ => hx⟩
    | succ d ihd =>
      intro i hi hx
      refine wl7_0_step _ _ ?_
      have hil : i < l.length := by omega
      have hxi : l[i]? = some l[i] := List.getElem?_eq_getElem hil
      have hb := bigV_ev (hl.get (List.mem_of_getElem? hxi)) (most := 400) (by omega) (by omega)
      rw [wrap_succ hil hlen]
      simp [hil, hxi]
      refine Gets.bind hb ?_
      rintro _ ⟨b, rfl, hbw⟩
      cases b with
      | true => exact ⟨_, rfl, _, rfl, fun h => by cases h⟩
      | false =>
        have := hbw rfl
        have hg := ihd (i + 1) (by omega) (fun x hxx => by
          rw [List.take_add_one, hxi, Option.toList_some, List.mem_append] at hxx
          rcases hxx with h | h
          · exact hx x h
          · simp at h; subst h; omega)
        simpa using hg
  exact large18_run _ (loop l.length 0 (by omega) (by simp))
end Go.Proofs.YtonmmmgffeoiiaaGreat
end

section
namespace Go.Proofs.YtonmmmgffeoiiaaGreat
open Go.Av
set_option maxRecDepth 100000
theorem kSlBoolR {α : Type} (r : List (List AV)) (x : Bool) (K : List (List AV) → Bool → Option α) : (kTup (.tup [.sl r, .bool x]) fun cs => kCons cs fun c cs => kSl c fun rows => kCons cs fun c cs => kBool c fun n => kNil cs (K rows n)) = K r x := rfl
theorem r18Items_ev {t : Tm} (hc : t.chk = 0) : EVf (EV cfg) 54 [t.av] = some (lsR (itemsG t)) := by
  have loop : ∀ (n : Nat) (t : Tm) (acc : List Tm), t.w ≤ n → t.chk = 0 → acc.length + n < 1099511627776 → Gets (wra54_0 acc.length t.kind t.num t.str (rowsT t.subs) (rowsT acc)) (· = lsR (acc ++ (itemsG t).1, (itemsG t).2)) := by
    intro n
    induction n with
    | zero => intro t acc h; have := w_pos t; omega
    | succ n ih =>
      intro t acc hw hc hn
      refine wra54_0_step _ _ _ _ _ _ ?_
      rw [beqI, beqI]
      have e1 : Nat.ble (0 + acc.length) (rowsT acc).length = true := by rw [Nat.ble_eq, rowsT_length]; omega
      have e2 : List.take acc.length (rowsT acc) = rowsT acc := List.take_of_length_le (by simp)
      by_cases h9 : t.kind = 9
      · obtain ⟨x, y, hs⟩ := cons_chk hc h9
        have hwe := t.w_eq
        rw [hs] at hwe
        simp only [wL_cons, wL_nil] at hwe
        have h := ih y (acc ++ [x]) (by omega) (chk_sub hc (by rw [hs]; simp)) (by simp; omega)
        rw [decide_eq_true h9, cond_true, hs, lt0T, get0T, lt1T, get1T, e1, e2, fits56 (by omega)]
        simp only [cond_true, Bool.and_self, kOptSome, length_cells, Nat.beq_refl, take_cells, kTmC_cells, ble44]
        have e5 : List.append (rowsT acc) [[AV.int .i64 x.kind, .int .i64 x.num, .str x.str, .sl (rowsT x.subs)]] = rowsT (acc ++ [x]) := by
          rw [rowsT_append, rowsT_cons, rowsT_nil, Tm.cells_eq]; rfl
        rw [e5, itemsG_cons h9 hs]
        rw [List.length_append] at h
        refine Gets.mono h ?_
        rintro _ rfl
        simp [lsR]
      · rw [decide_eq_false h9, cond_false, e1, e2, itemsG_end h9]
        exact ⟨_, rfl, by simp [lsR]⟩
  have hw := w_chk hc
  have h := loop t.w t [] (Nat.le_refl _) hc (by simp; omega)
  apply Gets.get
  rw [Tm.av, Tm.cells_eq]
  refine r18Items_run _ _ _ _ ?_
  rw [rowsT_nil] at h
  simpa using h
theorem r18List_ev {l : List Tm} (hlen : l.length < 1099511627776) : EVf (EV cfg) 49 [.sl (rowsT l)] = some (listT l).av := by
  have loop : ∀ (j : Nat) (a : Tm), j ≤ l.length → Gets (wra49_0 (rowsT l) ((j : Int) - 1) 0 0 [] [] a.kind a.num a.str (rowsT a.subs)) (· = ((l.take j).foldr pairG a).av) := by
    intro j
    induction j with
    | zero =>
      intro a _
      refine wra49_0_step _ _ _ _ _ _ _ _ _ _ ?_
      refine ⟨_, rfl, ?_⟩
      rw [av_unf]; rfl
    | succ j ih =>
      intro a hj
      refine wra49_0_step _ _ _ _ _ _ _ _ _ _ ?_
      have hil : j < l.length := by omega
      have hx : l[j]? = some l[j] := List.getElem?_eq_getElem hil
      have h := ih (pairG l[j] a) (by omega)
      have e1 : l.take (j + 1) = l.take j ++ [l[j]] := by rw [List.take_add_one, hx]; rfl
      have e2 : (((j + 1 : Nat) : Int) - 1) = (j : Int) := by omega
      have w1 : IntKind.wrap .i64 ((j : Int) - 1) = (j : Int) - 1 := wrap64 (by omega) (by omega)
      rw [e2, w1, decide_eq_true (show (j : Int) ≥ 0 by omega), rowsT_length, leInt_zero, ltInt_nat, decide_eq_true hil, rowsT_at hx, e1, List.foldr_append]
      simp only [cond_true, Bool.and_self, length_cells, Nat.beq_refl, take_cells, kTmC_cells, show Nat.ble 4 4 = true from rfl, kOptSome]
      rw [← Tm.cells_eq, ← Tm.cells_eq]
      have e3 : [l[j].cells, a.cells] = rowsT (pairG l[j] a).subs := by
        show _ = rowsT [l[j], a]
        rw [rowsT_cons, rowsT_cons, rowsT_nil]
      rw [e3]
      exact h
  have h := loop l.length (.mk 8 0 [] []) (Nat.le_refl _)
  rw [List.take_length] at h
  apply Gets.get
  refine r18List_run _ ?_
  rw [rowsT_length, wrap64 (by omega) (by omega)]
  have e : rowsT (Tm.mk 8 0 [] []).subs = [] := rowsT_nil
  rw [e] at h
  exact h
theorem r18Head_ev {t : Tm} (h : t.w < 1099511627776) : EVs (EV cfg) 74 [t.av] = some (.bool (headG t)) := by
  have hv := r16Var_ev h
  have ha := r16Any_ev h
  apply Gets.get
  rw [Tm.av, Tm.cells_eq] at hv ha ⊢
  refine r18Head_run _ _ _ _ ?_
  rw [hv, ha]
  unfold headG varR
  simp only [beqI, kOptSome, kBool_bool, kTup, kCons, kInt_int, kNil]
  cases (varT t).isSome <;> cases decide (t.kind = 7) <;> cases anyT t <;> exact ⟨_, rfl, rfl⟩
theorem r18Exprs_ev {V : List Int} (hV : V.length < 1099511627776) {l : List Tm} (hlen : l.length < 1099511627776) (hw : ∀ x ∈ l, x.w < 1099511627776) : EVs (EV cfg) 76 [.sl (rowsT l), .sl (intsR V)] = some (.bool (okV V l)) := by
  have loop : ∀ d i : Nat, i + d = l.length → Gets (wra76_0 (rowsT l) (intsR V) i) (· = .bool (okV V (l.drop i))) := by
    intro d
    induction d with
    | zero =>
      intro i hi
      refine wra76_0_step _ _ _ ?_
      rw [rowsT_length, decide_eq_false (by omega), List.drop_eq_nil_of_le (by omega)]
      exact ⟨_, rfl, rfl⟩
    | succ d ih =>
      intro i hi
      have hil : i < l.length := by omega
      have hx : l[i]? = some l[i] := List.getElem?_eq_getElem hil
      have hd : l.drop i = l[i] :: l.drop (i + 1) := List.drop_eq_getElem_cons hil
      have hc := r17Check_ev hV (hw _ (List.mem_of_getElem? hx))
      have h1 := ih (i + 1) (by omega)
      refine wra76_0_step _ _ _ ?_
      rw [rowsT_length, decide_eq_true (show (i : Int) < (l.length : Int) by omega), leInt_zero, ltInt_nat, decide_eq_true hil, rowsT_at hx, wrap_succ hil hlen, hd, okV_cons]
      simp only [cond_true, Bool.and_self, length_cells, Nat.beq_refl, take_cells, kTmC_cells, show Nat.ble 4 4 = true from rfl, av_unf, hc, kOptSome, kInt_int, bneD]
      by_cases h0 : checkG V l[i] = 0
      · rw [decide_eq_true h0]
        exact h1
      · rw [decide_eq_false h0]
        exact ⟨_, rfl, rfl⟩
  apply Gets.get
  exact r18Exprs_run _ _ (by simpa using loop l.length 0 (by omega))
theorem r18Clause_ev {t : Tm} (hc : t.chk = 0) : EVf (EV cfg) 55 [t.av] = some (clR (clauseG t)) := by
  have hw := w_chk hc
  have hwe := t.w_eq
  have hz : AV.tup [.agg [AV.int .i64 (0 : Int), .int .i64 (0 : Int), .str [], .sl [], .sl [], .sl []], .bool false] = clR none := rfl
  apply Gets.get
  rw [Tm.av, Tm.cells_eq]
  refine r18Clause_run _ _ _ _ ?_
  rw [bneD, bneD, hz, rowsT_length]
  by_cases h7 : t.kind = 7
  · rw [decide_eq_true h7]
    by_cases h3 : t.subs.length = 3
    · obtain ⟨h, g, b, hs⟩ : ∃ h g b, t.subs = [h, g, b] := by
        cases hs : t.subs with
        | nil => rw [hs] at h3; simp at h3
        | cons a l => cases l with
          | nil => rw [hs] at h3; simp at h3
          | cons b l => cases l with
            | nil => rw [hs] at h3; simp at h3
            | cons d l => cases l with
              | nil => exact ⟨a, b, d, rfl⟩
              | cons e l => rw [hs] at h3; simp at h3
      have ch : h.chk = 0 := chk_sub hc (by rw [hs]; simp)
      have cg : g.chk = 0 := chk_sub hc (by rw [hs]; simp)
      have cb : b.chk = 0 := chk_sub hc (by rw [hs]; simp)
      rw [hs] at hwe
      simp only [wL_cons, wL_nil] at hwe
      have lg := itemsG_w cg
      have lb := itemsG_w cb
      have hh := r18Head_ev (t := h) (by omega)
      have hv := r16Vars_ev (t := h) (by omega)
      have e1 := r18Items_ev cg
      have e2 := r18Items_ev cb
      have x1 := r18Exprs_ev (V := varsG h) (l := (itemsG g).1) (by have := varsG_len h; omega) (by omega) (fun x hx => by have := wL_mem hx; omega)
      have x2 := r18Exprs_ev (V := varsG h) (l := (itemsG b).1) (by have := varsG_len h; omega) (by omega) (fun x hx => by have := wL_mem hx; omega)
      have gh : clauseG t = if headG h && ((itemsG g).2 && ((itemsG b).2 && !(itemsG b).1.isEmpty)) && (okV (varsG h) (itemsG g).1 && okV (varsG h) (itemsG b).1) then some ⟨h, (itemsG g).1, (itemsG b).1⟩ else none := by
        unfold clauseG; rw [if_pos h7, hs]; rfl
      rw [decide_eq_true (show (t.subs.length : Int) = 3 by omega), hs, rowsT_cons, rowsT_cons, rowsT_cons, rowsT_nil, gh]
      have g0 : List.get?Internal [h.cells, g.cells, b.cells] 0 = some h.cells := rfl
      have g1 : List.get?Internal [h.cells, g.cells, b.cells] 1 = some g.cells := rfl
      have g2 : List.get?Internal [h.cells, g.cells, b.cells] 2 = some b.cells := rfl
      have l0 : ltInt 0 (([h, g, b].length : Nat) : Int) = true := rfl
      have l1 : ltInt 1 (([h, g, b].length : Nat) : Int) = true := rfl
      have l2 : ltInt 2 (([h, g, b].length : Nat) : Int) = true := rfl
      rw [g0, g1, g2]
      simp only [l0, l1, l2, Bool.not_true, cond_false, cond_true, Bool.and_self, kOptSome, length_cells, Nat.beq_refl, take_cells, kTmC_cells, ble44, av_unf, hh, kBool_bool]
      cases headG h with
      | false => exact ⟨_, rfl, rfl⟩
      | true =>
        simp only [Bool.not_true, cond_false, Bool.true_and, hv, e1, e2, lsR, kOptSome, kTup, kCons, kSl_sl, kBool_bool, kNil, rowsT_length, beqI]
        cases (itemsG g).2 with
        | false => exact ⟨_, rfl, rfl⟩
        | true =>
          cases (itemsG b).2 with
          | false => exact ⟨_, rfl, rfl⟩
          | true =>
            simp only [Bool.not_true, cond_false, Bool.true_and]
            cases hb : (itemsG b).1 with
            | nil => exact ⟨_, rfl, rfl⟩
            | cons x l =>
              rw [hb] at x2
              rw [decide_eq_false (show ¬ (((x :: l).length : Nat) : Int) = 0 by simp; omega)]
              simp only [cond_false, x1, x2, kOptSome, kBool_bool]
              cases okV (varsG h) (itemsG g).1 with
              | false => exact ⟨_, rfl, rfl⟩
              | true =>
                cases okV (varsG h) (x :: l) with
                | false => exact ⟨_, rfl, rfl⟩
                | true => exact ⟨_, rfl, rfl⟩
    · have : clauseG t = none := by
        unfold clauseG
        rw [if_pos h7]
        cases hs : t.subs with
        | nil => rfl
        | cons a l => cases l with
          | nil => rfl
          | cons b l => cases l with
            | nil => rfl
            | cons d l => cases l with
              | nil => rw [hs] at h3; simp at h3
              | cons e l => rfl
      rw [decide_eq_false (show ¬ (t.subs.length : Int) = 3 by omega), this]
      exact ⟨_, rfl, rfl⟩
  · have : clauseG t = none := by unfold clauseG; rw [if_neg h7]
    rw [decide_eq_false h7, this]
    exact ⟨_, rfl, rfl⟩
end Go.Proofs.YtonmmmgffeoiiaaGreat
end

section
namespace Go.Av
theorem clsG_case (t : Tm) (hc : t.chk = 0) : clsG t = match seqC (itemsG t).1 with
    | some l => if (itemsG t).2 && !l.isEmpty then (l, 0) else ([], 10)
    | none => ([], 10) := by
  unfold clsG; rw [if_pos hc]; rfl
theorem itemsG_len {t : Tm} (hc : t.chk = 0) : (itemsG t).1.length ≤ 4259840 := by
  have := itemsG_w hc
  have := w_chk hc
  omega
theorem kClR {α : Type} (o : Option Cl) (K : Int → Int → List UInt8 → List (List AV) → List (List AV) → List (List AV) → Bool → Option α) : (kTup (clR o) fun cs => kCons cs fun c cs => kAgg c fun cs_1 => kCons cs_1 fun c cs_2 => kInt .i64 c fun n => kCons cs_2 fun c cs_3 => kInt .i64 c fun n_2 => kCons cs_3 fun c cs_4 => kStr c fun s => kCons cs_4 fun c cs_5 => kSl c fun rows_2 => kCons cs_5 fun c cs_6 => kSl c fun rows_3 => kCons cs_6 fun c cs_7 => kSl c fun rows_4 => kNil cs_7 (kCons cs fun c cs => kBool c fun b => kNil cs (K n n_2 s rows_2 rows_3 rows_4 b))) =
    K (o.getD zeroC).head.kind (o.getD zeroC).head.num (o.getD zeroC).head.str (rowsT (o.getD zeroC).head.subs) (rowsT (o.getD zeroC).gs) (rowsT (o.getD zeroC).bs) o.isSome := by
  cases o <;> rfl
end Go.Av
namespace Go.Proofs.YtonmmmgffeoiiaaGreat
open Go.Av
set_option maxRecDepth 100000
def clsB (r : List Cl × Int) : OV × AV := (.own 6 (rowsC r.1) 0 r.1.length, .bool (decide (r.2 = 0)))
theorem r18Clauses__ev {t : Tm} (hc : t.chk = 0) : EVq (EV cfg) 31 [t.av] = some (clsB (clsG t)) := by
  have hi := r18Items_ev hc
  have hw := w_chk hc
  have hlen := itemsG_len hc
  have hic := itemsG_chk hc
  have hlw := itemsG_w hc
  rw [clsG_case t hc]
  have loop : ∀ (l : List Tm), (∀ x ∈ l, x.chk = 0) → l.length ≤ 4259840 → ∀ (d i : Nat) (acc : List Cl), i + d = l.length → acc.length = i → Gets (wra31_0 (rowsT l) i i (rowsC acc)) (· = match seqC (l.drop i) with | some cs => (OV.own 6 (rowsC (acc ++ cs)) 0 (acc ++ cs).length, AV.bool true) | none => (OV.own 6 [] 0 0, AV.bool false)) := by
    intro l hl hln d
    induction d with
    | zero =>
      intro i acc hd ha
      refine wra31_0_step _ _ _ _ ?_
      rw [rowsT_length, decide_eq_false (by omega), List.drop_eq_nil_of_le (by omega)]
      refine ⟨_, rfl, ?_⟩
      show _ = (OV.own 6 (rowsC (acc ++ [])) 0 (acc ++ []).length, AV.bool true)
      rw [List.append_nil, ha]
    | succ d ih =>
      intro i acc hd ha
      have hil : i < l.length := by omega
      have hx : l[i]? = some l[i] := List.getElem?_eq_getElem hil
      have hdr : l.drop i = l[i] :: l.drop (i + 1) := List.drop_eq_getElem_cons hil
      have hcl := r18Clause_ev (hl _ (List.mem_of_getElem? hx))
      refine wra31_0_step _ _ _ _ ?_
      rw [rowsT_length, decide_eq_true (show (i : Int) < (l.length : Int) by omega), leInt_zero, ltInt_nat, decide_eq_true hil, rowsT_at hx, wrap_succ hil (by omega), hdr, seqC]
      simp only [cond_true, Bool.and_self, length_cells, Nat.beq_refl, take_cells, kTmC_cells, show Nat.ble 4 4 = true from rfl, av_unf, hcl, kOptSome]
      rw [kClR]
      cases hg : clauseG l[i] with
      | none => exact ⟨_, rfl, rfl⟩
      | some c =>
        have e1 : Nat.ble (0 + i) (rowsC acc).length = true := by rw [Nat.ble_eq, rowsC_len]; omega
        have e2 : List.append (List.take i (rowsC acc)) [c.cells] = rowsC (acc ++ [c]) := by
          rw [List.take_of_length_le (by rw [rowsC_len]; omega), rowsC_append, rowsC_one]; rfl
        have h2 := ih (i + 1) (acc ++ [c]) (by omega) (by rw [List.length_append, ha]; rfl)
        simp only [Option.isSome_some, Bool.not_true, cond_false, e1, fits104 (show i + 1 ≤ 1099511627776 by omega), Bool.and_self, cond_true, Option.getD_some]
        have e3 : [AV.int .i64 c.head.kind, .int .i64 c.head.num, .str c.head.str, .sl (rowsT c.head.subs), .sl (rowsT c.gs), .sl (rowsT c.bs)] = c.cells := rfl
        rw [e3, e2]
        refine Gets.mono h2 ?_
        rintro _ rfl
        cases seqC (l.drop (i + 1)) with
        | none => rfl
        | some cs =>
          simp only [Option.bind_some, Option.map_some, List.append_assoc, List.singleton_append]
  apply Gets.get
  rw [Tm.av, Tm.cells_eq] at hi ⊢
  refine r18Clauses__run _ _ _ _ ?_
  rw [hi]
  simp only [lsR, kOptSome]
  rw [kSlBoolR]
  cases (itemsG t).2 with
  | false =>
    refine ⟨_, rfl, ?_⟩
    cases seqC (itemsG t).1 <;> rfl
  | true =>
    rw [Bool.not_true, cond_false, rowsT_length, beqI]
    cases hl : (itemsG t).1 with
    | nil => exact ⟨_, rfl, rfl⟩
    | cons x l =>
      rw [decide_eq_false (show ¬ (((x :: l).length : Nat) : Int) = 0 by simp; omega), cond_false]
      have h := loop (x :: l) (by rw [← hl]; exact hic) (by rw [← hl]; exact hlen) (x :: l).length 0 [] (by omega) rfl
      refine Gets.mono h ?_
      rintro _ rfl
      rw [List.drop_zero]
      cases hs : seqC (x :: l) with
      | none => rfl
      | some cs =>
        have : cs.isEmpty = false := by
          have := seqC_len hs
          cases cs with
          | nil => simp at this
          | cons => rfl
        simp only [this, List.nil_append, Bool.true_and, Bool.not_false, if_true]
        rfl
theorem clsG_bad {t : Tm} (hc : t.chk ≠ 0) : clsG t = ([], 2) := by unfold clsG; rw [if_neg hc]
theorem clsG_err (t : Tm) (hc : t.chk = 0) : (clsG t).2 = if (clsG t).2 = 0 then 0 else 10 := by
  rw [clsG_case t hc]
  cases seqC (itemsG t).1 with
  | none => rfl
  | some l => simp only []; split <;> rfl
theorem r18Check_ev {t : Tm} (h : t.w < 1099511627776) : EVs (EV cfg) 19 [t.av] = some (.int .i64 (clsG t).2) := by
  have hm := r02Check_ev h
  by_cases hc : t.chk = 0
  · have hk := r18Clauses__ev hc
    have he := clsG_err t hc
    apply Gets.get
    rw [Tm.av, Tm.cells_eq] at hm hk ⊢
    refine r18Check_run _ _ _ _ ?_
    rw [hm, hk, hc]
    simp only [kOptSome, kInt_int, bneD, decide_true, Bool.not_true, cond_false, clsB, kBool_bool]
    by_cases h0 : (clsG t).2 = 0
    · rw [h0]; exact ⟨_, rfl, rfl⟩
    · rw [if_neg h0] at he
      rw [decide_eq_false h0, he]; exact ⟨_, rfl, rfl⟩
  · apply Gets.get
    rw [Tm.av, Tm.cells_eq] at hm ⊢
    refine r18Check_run _ _ _ _ ?_
    rw [hm, clsG_bad hc]
    simp only [kOptSome, kInt_int, bneD, decide_eq_false hc]
    exact ⟨_, rfl, rfl⟩
theorem r18Of_ev {cs : List Cl} (hw : (selT cs).w < 1099511627775) : EVf (EV cfg) 24 [.sl (rowsC cs)] = some (.tup [(ofG cs).1.av, .int .i64 (ofG cs).2]) := by
  have hlen := selT_len cs
  have loop : ∀ d i : Nat, i + d = cs.length → Gets (wra24_0 (rowsC cs) i i 0 0 [] [] (rowsT ((cs.take i).map clT))) (· = .tup [(ofG cs).1.av, .int .i64 (ofG cs).2]) := by
    intro d
    induction d with
    | zero =>
      intro i hi
      obtain rfl : i = cs.length := by omega
      refine wra24_0_step _ _ _ _ _ _ _ _ ?_
      have hb : Nat.ble (0 + cs.length) (rowsT (cs.map clT)).length = true := by rw [Nat.ble_eq, rowsT_length, List.length_map]; omega
      have ht : List.take cs.length (rowsT (cs.map clT)) = rowsT (cs.map clT) := List.take_of_length_le (by rw [rowsT_length, List.length_map]; exact Nat.le_refl _)
      have hm := r18List_ev (l := cs.map clT) (by rw [List.length_map]; omega)
      have hsel : listT (cs.map clT) = selT cs := rfl
      have hk := r18Check_ev (t := selT cs) (by omega)
      have hcp := r02Copy_ev (selT cs) (by omega)
      rw [rowsC_len, decide_eq_false (by omega), List.take_length, hb, ht, hm, hsel]
      simp only [cond_false, Bool.and_self, cond_true, kOptSome, kTmV_av, av_unf, hk, kInt_int, bneD]
      unfold ofG
      by_cases h0 : (clsG (selT cs)).2 = 0
      · rw [decide_eq_true h0, if_pos h0, hcp]
        simp only [Bool.not_true, cond_false, kOptSome, kTmV_av, av_unf]
        exact ⟨_, rfl, rfl⟩
      · rw [decide_eq_false h0, if_neg h0]
        exact ⟨_, rfl, rfl⟩
    | succ d ih =>
      intro i hi
      have hil : i < cs.length := by omega
      have hx : cs[i]? = some cs[i] := List.getElem?_eq_getElem hil
      have hpt := selT_parts (List.mem_of_getElem? hx)
      have h1 := ih (i + 1) (by omega)
      refine wra24_0_step _ _ _ _ _ _ _ _ ?_
      have gx : List.get?Internal (rowsC cs) (Int.toNat (i : Int)) = some cs[i].cells := by
        rw [get?Internal_eq, Int.toNat_natCast, rowsC_get, hx]; rfl
      have hl : ((cs.take i).map clT).length = i := by rw [List.length_map, List.length_take]; omega
      have hb : Nat.ble (0 + i) (rowsT ((cs.take i).map clT)).length = true := by rw [Nat.ble_eq, rowsT_length, hl]; omega
      have ht : List.take i (rowsT ((cs.take i).map clT)) = rowsT ((cs.take i).map clT) := List.take_of_length_le (by rw [rowsT_length, hl]; exact Nat.le_refl _)
      rw [rowsC_len, decide_eq_true (show (i : Int) < (cs.length : Int) by omega), leInt_zero, ltInt_nat, decide_eq_true hil, gx, hb, ht, fits56 (by omega), wrap_succ hil (by omega)]
      have e1 : cs.take (i + 1) = cs.take i ++ [cs[i]] := by rw [List.take_add_one, hx]; rfl
      rw [e1, List.map_append, rowsT_append] at h1
      generalize cs[i] = c at *
      have b6 : Nat.ble 4 c.cells.length = true := rfl
      have b66 : Nat.beq c.cells.length 6 = true := rfl
      have t4 : List.take 4 c.cells = c.head.cells := by rw [Tm.cells_eq]; rfl
      have c4 : List.get?Internal c.cells 4 = some (.sl (rowsT c.gs)) := rfl
      have c5 : List.get?Internal c.cells 5 = some (.sl (rowsT c.bs)) := rfl
      have k1 := r18List_ev (l := c.gs) (by omega)
      have k2 := r18List_ev (l := c.bs) (by omega)
      simp only [cond_true, Bool.and_self, kOptSome, b6, b66, t4, c4, c5, kTmC_cells, kSl_sl, k1, k2, kTmV_av]
      have er : [[AV.int .i64 7, .int .i64 0, .str [], AV.sl [[AV.int .i64 c.head.kind, .int .i64 c.head.num, .str c.head.str, .sl (rowsT c.head.subs)], [AV.int .i64 (listT c.gs).kind, .int .i64 (listT c.gs).num, .str (listT c.gs).str, .sl (rowsT (listT c.gs).subs)], [AV.int .i64 (listT c.bs).kind, .int .i64 (listT c.bs).num, .str (listT c.bs).str, .sl (rowsT (listT c.bs).subs)]]]] = rowsT ([c].map clT) := by
        show _ = rowsT [clT c]
        rw [rowsT_cons, rowsT_nil, clT, tupT, Tm.cells_mk, rowsT_cons, rowsT_cons, rowsT_cons, rowsT_nil, Tm.cells_eq, Tm.cells_eq, Tm.cells_eq]
      rw [er]
      exact h1
  apply Gets.get
  refine r18Of_run _ ?_
  exact loop cs.length 0 (by omega)
theorem r18Match_ev {p : Tm} (hw : (selT [patC p]).w < 1099511627775) : EVf (EV cfg) 26 [p.av] = some (.tup [(ofG [patC p]).1.av, .int .i64 (ofG [patC p]).2]) := by
  have h := r18Of_ev hw
  apply Gets.get
  rw [Tm.av, Tm.cells_eq]
  refine r18Match_run _ _ _ _ ?_
  have er : [[AV.int .i64 p.kind, .int .i64 p.num, .str p.str, .sl (rowsT p.subs), .sl [], .sl [[AV.int .i64 2, .int .i64 0, .str [36, 95], .sl []]]]] = rowsC [patC p] := by
    unfold rowsC Cl.cells patC
    simp only [List.map_cons, List.map_nil, rowsT_cons, rowsT_nil, symT, Tm.cells_mk]
  rw [er, h]
  simp only [kOptSome]
  rw [kEvalR]
  simp only [av_unf]
  exact ⟨_, rfl, rfl⟩
end Go.Proofs.YtonmmmgffeoiiaaGreat
end

section
namespace Go.Proofs.YtonmmmgffeoiiaaGreat
open Go.Av
set_option maxRecDepth 100000
set_option maxHeartbeats 0

noncomputable def Lrb22_0 : Den := evC cfg (EV cfg) 22 none 0 (sub (bodyOf Tryz.f22) [1, 0, 1, 0, 0])
noncomputable def Arb22_0 : Ex × List AV × AH → Option AV := kAft (Cfg.keepOut cfg 22 2) (kRun cfg (EV cfg) (kfN cfg 6) 22 none 0 (kFinS cfg (Cfg.lift cfg 22 0) Tryz.f22.results.toList) ([.block 0, .seq (sub (bodyOf Tryz.f22) [1, 1])]))
noncomputable def Wrb22_0 : List AV × AH → Option AV := fun p => kOpt (LOOP 0 (some [0, 3]) ([]) Lrb22_0 p) Arb22_0
noncomputable def Lrb22_1 : Den := evC cfg (EV cfg) 22 none 0 (sub (bodyOf Tryz.f22) [1, 0, 1, 0, 0, 1, 0, 0, 1, 1, 1, 1, 0, 0])
noncomputable def Arb22_1 : Ex × List AV × AH → Option AV := kAft (Cfg.keepOut cfg 22 9) (kRun cfg (EV cfg) (kfN cfg 6) 22 none 0 (kLp 0 (some [0, 3]) ([]) Lrb22_0 Arb22_0) ([.block 2, .block 1, .seq (sub (bodyOf Tryz.f22) [1, 0, 1, 0, 0, 1, 1])]))
noncomputable def Wrb22_1 : List AV × AH → Option AV := fun p => kOpt (LOOP 0 (some [0, 3, 5, 6]) ([(5, 4)]) Lrb22_1 p) Arb22_1
noncomputable abbrev wrb22_0 (L : List (List AV)) (v3 : Int) : Option (AV) := Wrb22_0  (((fx 57 [(0, AV.sl L), (3, AV.int IntKind.i64 v3)]) : List AV), ([] : AH))
noncomputable abbrev wrb22_1 (L : List (List AV)) (v3 : Int) (rows : List (List AV)) (rows' : List (List AV)) (v6 : Int) (h0 : List (List AV)) : Option (AV) := Wrb22_1  (((fx 57 [(0, AV.sl L), (3, AV.int IntKind.i64 v3), (5, AV.ms (0 : Nat) (0 : Nat) ((0 : Nat) + List.length rows + List.length rows')), (6, AV.int IntKind.i64 v6)]) : List AV), ([ABlk.rows true (4 : Nat) h0] : AH))
theorem specMakes_run (L : List (List AV)) (kp : Int) (np : Int) (sp : List UInt8) (lp : List (List AV)) {P : AV → Prop} (h : Gets (kOpt (EVs (EV cfg) 22 [.sl L]) fun (v : AV) => kBool v fun (b : Bool) => bif b then some (.bool true) else kOpt (EVs (EV cfg) 6 [.sl [[AV.int .i64 kp, .int .i64 np, .str sp, .sl lp]]]) 
  fun (v : AV) => kBool v fun (b : Bool) => bif b then some (.bool true) else kOpt (EVf (EV cfg) 23 [.sl L]) fun (v : AV) => kTup v fun (cs : List AV) => kCons cs fun (c : AV) (cs : List 
  AV) => kAgg c fun (cs_1 : List AV) => kCons cs_1 fun (c : AV) (cs_2 : List AV) => kInt .i64 c fun (n : Int) => kCons cs_2 fun (c : AV) (cs_3 : List AV) => kInt .i64 c fun (n_1 : Int) 
  => kCons cs_3 fun (c : AV) (cs_4 : List AV) => kStr c fun (s : List UInt8) => kCons cs_4 fun (c : AV) (cs_5 : List AV) => kSl c fun (rows : List (List AV)) => kNil cs_5 (kCons cs fun 
  (c : AV) (cs : List AV) => kInt .i64 c fun (n_2 : Int) => kNil cs (kOpt (EVf (EV cfg) 24 [.sl L]) fun (v : AV) => kTup v fun (cs : List AV) => kCons cs fun (c : AV) (cs : List AV) => 
  kAgg c fun (cs_6 : List AV) => kCons cs_6 fun (c : AV) (cs_7 : List AV) => kInt .i64 c fun (n_3 : Int) => kCons cs_7 fun (c : AV) (cs_8 : List AV) => kInt .i64 c fun (n_4 : Int) => 
  kCons cs_8 fun (c : AV) (cs_9 : List AV) => kStr c fun (s_1 : List UInt8) => kCons cs_9 fun (c : AV) (cs_10 : List AV) => kSl c fun (rows_1 : List (List AV)) => kNil cs_10 (kCons cs 
  fun (c : AV) (cs : List AV) => kInt .i64 c fun (n_5 : Int) => kNil cs (kOpt (EVf (EV cfg) 25 [.agg [AV.int .i64 kp, .int .i64 np, .str sp, .sl lp]]) fun (v : AV) => kTup v fun (cs : List 
  AV) => kCons cs fun (c : AV) (cs : List AV) => kAgg c fun (cs_11 : List AV) => kCons cs_11 fun (c : AV) (cs_12 : List AV) => kInt .i64 c fun (n_6 : Int) => kCons cs_12 fun (c : AV) 
  (cs_13 : List AV) => kInt .i64 c fun (n_7 : Int) => kCons cs_13 fun (c : AV) (cs_14 : List AV) => kStr c fun (s_2 : List UInt8) => kCons cs_14 fun (c : AV) (cs_15 : List AV) => kSl 
  c fun (rows_2 : List (List AV)) => kNil cs_15 (kCons cs fun (c : AV) (cs : List AV) => kInt .i64 c fun (n_8 : Int) => kNil cs (kOpt (EVf (EV cfg) 26 [.agg [AV.int .i64 kp, .int .i64 np, 
  .str sp, .sl lp]]) fun (v : AV) => kTup v fun (cs : List AV) => kCons cs fun (c : AV) (cs : List AV) => kAgg c fun (cs_16 : List AV) => kCons cs_16 fun (c : AV) (cs_17 : List AV) => 
  kInt .i64 c fun (n_9 : Int) => kCons cs_17 fun (c : AV) (cs_18 : List AV) => kInt .i64 c fun (n_10 : Int) => kCons cs_18 fun (c : AV) (cs_19 : List AV) => kStr c fun (s_3 : List UInt8) 
  => kCons cs_19 fun (c : AV) (cs_20 : List AV) => kSl c fun (rows_3 : List (List AV)) => kNil cs_20 (kCons cs fun (c : AV) (cs : List AV) => kInt .i64 c fun (n_11 : Int) => kNil cs (bif 
  n_2 == n_5 then kOpt (EVs (EV cfg) 12 [AV.agg [AV.int .i64 n, .int .i64 n_1, .str s, .sl rows], AV.agg [AV.int .i64 n_3, .int .i64 n_4, .str s_1, .sl rows_1]]) fun (v : AV) => kBool v fun 
  (b : Bool) => bif b then bif n_8 == n_11 then kOpt (EVs (EV cfg) 12 [AV.agg [AV.int .i64 n_6, .int .i64 n_7, .str s_2, .sl rows_2], AV.agg [AV.int .i64 n_9, .int .i64 n_10, .str s_3, .sl 
  rows_3]]) fun (v : AV) => kBool v fun (b : Bool) => bif b then kOpt (EVs (EV cfg) 14 []) fun (v : AV) => kBool v fun (b : Bool) => some (.bool b) else some (.bool false) else some (.bool 
  false) else some (.bool false) else some (.bool false)))))))))) P) : Gets (EVs (EV cfg) 5 ([AV.sl L, AV.agg [AV.int IntKind.i64 kp, AV.int IntKind.i64 np, AV.str sp, AV.sl lp]] : List AV)) P :=
  Gets.ev (fun _ h => funS rfl rfl Tryz.func5 rfl h) (Gets.eq (by kernel_rfl) h)
theorem wide18_run (L : List (List AV)) {P : AV → Prop} (h : Gets (wrb22_0 L (0 : Int)) P) : Gets (EVs (EV cfg) 22 ([AV.sl L] : List AV)) P :=
  Gets.ev (fun _ h => funS rfl rfl Tryz.func22 rfl h) (Gets.eq (by kernel_rfl) h)
theorem wrb22_0_step (L : List (List AV)) (v3 : Int) {P : AV → Prop} (h : Gets (bif decide (v3 < (↑(List.length L) : Int)) then bif decide (v3 < (21 : Int)) then bif leInt (0 : Int) v3 && ltInt v3 (↑(List.length L) : Int) then kOpt (List.get?Internal L (Int.toNat 
  v3)) fun (row : List AV) => bif Nat.beq (List.length row) 6 then bif Nat.ble 6 (List.length row) then kCons (List.take 6 row) fun (c : AV) (cs : List AV) => kInt .i64 c fun (n : Int) 
  => kCons cs fun (c : AV) (cs : List AV) => kInt .i64 c fun (n_1 : Int) => kCons cs fun (c : AV) (cs : List AV) => kStr c fun (s : List UInt8) => kCons cs fun (c : AV) (cs : List AV) 
  => kSl c fun (rows : List (List AV)) => kCons cs fun (c : AV) (cs : List AV) => kSl c fun (rows_1 : List (List AV)) => kCons cs fun (c : AV) (cs : List AV) => kSl c fun (rows_2 : List 
  (List AV)) => kNil cs (bif decide ((↑(List.length rows_1) : Int) > (20 : Int)) then some (.bool true) else bif decide ((↑(List.length rows_2) : Int) > (20 : Int)) then some (.bool true) 
  else kOpt (EVs (EV cfg) 27 [.agg [AV.int .i64 n, .int .i64 n_1, .str s, .sl rows], .int .i64 (100 : Int)]) fun (v : AV) => kBool v fun (b : Bool) => bif b then some (.bool true) else 
  bif rowsOk 4 rows_1 then bif fitsIn (0 + List.length rows_1) 56 then bif rowsOk 4 rows_2 then bif Nat.ble (0 + (0 + List.length rows_1)) (List.length rows_1) && fitsIn (0 + List.length 
  rows_1 + List.length rows_2) 56 then wrb22_1 L v3 rows_1 rows_2 (0 : Int) (List.append (List.take (0 + List.length rows_1) rows_1) rows_2) else none else none else none else none) else 
  none else none else none else some (.bool (decide ((↑(List.length L) : Int) > (20 : Int)))) else some (.bool (decide ((↑(List.length L) : Int) > (20 : Int))))) P) : Gets (wrb22_0 L v3) P :=
  Gets.ev (fun _ h => loop_step (cfg := cfg) (f := 22) (rd := none) (bs := 0) h) (Gets.eq (by kernel_rfl) h)
theorem wrb22_1_step (L : List (List AV)) (v3 : Int) (rows : List (List AV)) (rows' : List (List AV)) (v6 : Int) (h0 : List (List AV)) {P : AV → Prop} (h : Gets (bif decide (v6 < (↑(0 + List.length rows + List.length rows') : Int)) then bif leInt (0 : Int) v6 && ltInt v6 (↑(0 + List.length rows + List.length rows') : Int) then kOpt (List.get?Internal 
  h0 (0 + Int.toNat v6)) fun (row : List AV) => bif Nat.ble 4 (List.length row) then kTmC (List.take 4 row) fun (n n_1 : Int) (s : List UInt8) (rows_1 : List (List AV)) => (kOpt (EVs 
  (EV cfg) 27 [.agg [AV.int .i64 n, .int .i64 n_1, .str s, .sl rows_1], .int .i64 (100 : Int)]) fun (v : AV) => kBool v fun (b : Bool) => bif b then some (.bool true) else wrb22_1 L v3 
  rows rows' (IntKind.wrap .i64 (v6 + (1 : Int))) h0) else none else none else wrb22_0 L (IntKind.wrap .i64 (v3 + (1 : Int)))) P) : Gets (wrb22_1 L v3 rows rows' v6 h0) P :=
  Gets.ev (fun _ h => loop_step (cfg := cfg) (f := 22) (rd := none) (bs := 0) h) (Gets.eq (by kernel_rfl) h)
end Go.Proofs.YtonmmmgffeoiiaaGreat
end

section
namespace Go.Proofs.YtonmmmgffeoiiaaGreat
open Go.Av
set_option maxRecDepth 1000000
theorem specAwake_k6 : EVs (EV cfg) 106 [.agg [.int .i64 2, .int .i64 0, .str [36, 49], .sl []]] = some (.tup [.int .i64 1, .bool true]) := factS (.nil) 1000 1000 (by kernel_rfl)
theorem specAwake_k31 : EVf (EV cfg) 36 [] = some (.agg [.int .i64 9, .int .i64 0, .str [], .sl [[.int .i64 7, .int .i64 0, .str [], .sl [[.int .i64 7, .int .i64 0, .str [], .sl [[.int .i64 2, .int .i64 0, .str [36, 49], .sl []], [.int .i64 2, .int .i64 0, .str [36, 50], .sl []]]], [.int .i64 9, .int .i64 0, .str [], .sl [[.int .i64 7, .int .i64 0, .str [], .sl [[.int .i64 2, .int .i64 0, .str [62], .sl []], [.int .i64 2, .int .i64 0, .str [36, 50], .sl []], [.int .i64 1, .int .i64 1, .str [], .sl []]]], [.int .i64 8, .int .i64 0, .str [], .sl []]]], [.int .i64 9, .int .i64 0, .str [], .sl [[.int .i64 2, .int .i64 0, .str [36, 49], .sl []], [.int .i64 8, .int .i64 0, .str [], .sl []]]]]], [.int .i64 8, .int .i64 0, .str [], .sl []]]]) := factF (.nil) 1000 1000 (by kernel_rfl)
theorem specAwake_k32 : EVs (EV cfg) 46 [.agg [.int .i64 9, .int .i64 0, .str [], .sl [[.int .i64 7, .int .i64 0, .str [], .sl [[.int .i64 7, .int .i64 0, .str [], .sl [[.int .i64 2, .int .i64 0, .str [36, 49], .sl []], [.int .i64 2, .int .i64 0, .str [36, 50], .sl []]]], [.int .i64 9, .int .i64 0, .str [], .sl [[.int .i64 7, .int .i64 0, .str [], .sl [[.int .i64 2, .int .i64 0, .str [62], .sl []], [.int .i64 2, .int .i64 0, .str [36, 50], .sl []], [.int .i64 1, .int .i64 1, .str [], .sl []]]], [.int .i64 8, .int .i64 0, .str [], .sl []]]], [.int .i64 9, .int .i64 0, .str [], .sl [[.int .i64 2, .int .i64 0, .str [36, 49], .sl []], [.int .i64 8, .int .i64 0, .str [], .sl []]]]]], [.int .i64 8, .int .i64 0, .str [], .sl []]]]] = some (.int .i64 0) := factS (.nil) 1000 1000 (by kernel_rfl)
theorem specAwake_k33 : EVs (EV cfg) 46 [.agg [.int .i64 7, .int .i64 0, .str [], .sl [[.int .i64 2, .int .i64 0, .str [36, 49], .sl []], [.int .i64 2, .int .i64 0, .str [36, 50], .sl []]]]] = some (.int .i64 0) := factS (.nil) 1000 1000 (by kernel_rfl)
theorem specAwake_k34 : EVf (EV cfg) 84 [.agg [.int .i64 7, .int .i64 0, .str [], .sl [[.int .i64 2, .int .i64 0, .str [36, 49], .sl []], [.int .i64 2, .int .i64 0, .str [36, 50], .sl []]]]] = some (.sl [[.int .i64 1], [.int .i64 2]]) := factF (.consS specAwake_k33 (.nil)) 1000 1000 (by kernel_rfl)
theorem specAwake_k35 : EVs (EV cfg) 46 [.agg [.int .i64 7, .int .i64 0, .str [], .sl [[.int .i64 2, .int .i64 0, .str [62], .sl []], [.int .i64 2, .int .i64 0, .str [36, 50], .sl []], [.int .i64 1, .int .i64 1, .str [], .sl []]]]] = some (.int .i64 0) := factS (.nil) 1000 1000 (by kernel_rfl)
theorem specAwake_k36 : EVs (EV cfg) 106 [.agg [.int .i64 2, .int .i64 0, .str [36, 50], .sl []]] = some (.tup [.int .i64 2, .bool true]) := factS (.nil) 1000 1000 (by kernel_rfl)
theorem specAwake_k37 : EVs (EV cfg) 113 [.agg [.int .i64 7, .int .i64 0, .str [], .sl [[.int .i64 2, .int .i64 0, .str [62], .sl []], [.int .i64 2, .int .i64 0, .str [36, 50], .sl []], [.int .i64 1, .int .i64 1, .str [], .sl []]]], .sl [[.int .i64 1], [.int .i64 2]]] = some (.bool true) := factS (.consS specAwake_k36 (.nil)) 1000 1000 (by kernel_rfl)
theorem specAwake_k38 : EVf (EV cfg) 62 [.agg [.int .i64 7, .int .i64 0, .str [], .sl [[.int .i64 7, .int .i64 0, .str [], .sl [[.int .i64 2, .int .i64 0, .str [36, 49], .sl []], [.int .i64 2, .int .i64 0, .str [36, 50], .sl []]]], [.int .i64 9, .int .i64 0, .str [], .sl [[.int .i64 7, .int .i64 0, .str [], .sl [[.int .i64 2, .int .i64 0, .str [62], .sl []], [.int .i64 2, .int .i64 0, .str [36, 50], .sl []], [.int .i64 1, .int .i64 1, .str [], .sl []]]], [.int .i64 8, .int .i64 0, .str [], .sl []]]], [.int .i64 9, .int .i64 0, .str [], .sl [[.int .i64 2, .int .i64 0, .str [36, 49], .sl []], [.int .i64 8, .int .i64 0, .str [], .sl []]]]]]] = some (.tup [.agg [.int .i64 7, .int .i64 0, .str [], .sl [[.int .i64 2, .int .i64 0, .str [36, 49], .sl []], [.int .i64 2, .int .i64 0, .str [36, 50], .sl []]], .sl [[.int .i64 7, .int .i64 0, .str [], .sl [[.int .i64 2, .int .i64 0, .str [62], .sl []], [.int .i64 2, .int .i64 0, .str [36, 50], .sl []], [.int .i64 1, .int .i64 1, .str [], .sl []]]]], .sl [[.int .i64 2, .int .i64 0, .str [36, 49], .sl []]]], .bool true]) := factF (.consF specAwake_k34 (.consS specAwake_k35 (.consS specAwake_k37 (.consS specAwake_k6 (.nil))))) 1000 1000 (by kernel_rfl)
theorem specAwake_k39 : EVs (EV cfg) 46 [.agg [.int .i64 7, .int .i64 0, .str [], .sl [[.int .i64 2, .int .i64 0, .str [107], .sl []], [.int .i64 1, .int .i64 1, .str [], .sl []]]]] = some (.int .i64 0) := factS (.nil) 1000 1000 (by kernel_rfl)
theorem specAwake_k40 : EVf (EV cfg) 90 [.agg [.int .i64 7, .int .i64 0, .str [], .sl [[.int .i64 2, .int .i64 0, .str [36, 49], .sl []], [.int .i64 2, .int .i64 0, .str [36, 50], .sl []]]], .agg [.int .i64 7, .int .i64 0, .str [], .sl [[.int .i64 2, .int .i64 0, .str [107], .sl []], [.int .i64 1, .int .i64 1, .str [], .sl []]]], .sl []] = some (.tup [.sl [[.int .i64 1, .int .i64 2, .int .i64 0, .str [107], .sl []], [.int .i64 2, .int .i64 1, .int .i64 1, .str [], .sl []]], .bool true]) := factF (.consS specAwake_k33 (.consS specAwake_k39 (.nil))) 1000 1000 (by kernel_rfl)
theorem specAwake_k41 : EVf (EV cfg) 91 [.agg [.int .i64 7, .int .i64 0, .str [], .sl [[.int .i64 2, .int .i64 0, .str [107], .sl []], [.int .i64 1, .int .i64 1, .str [], .sl []]], .sl [[.int .i64 1, .int .i64 2, .int .i64 0, .str [107], .sl []], [.int .i64 2, .int .i64 1, .int .i64 1, .str [], .sl []]], .int .i64 1]] = some (.tup [.sl [[.int .i64 1], [.int .i64 2]], .bool true]) := factF (.consS specAwake_k39 (.nil)) 1000 1000 (by kernel_rfl)
theorem specAwake_k42 : EVf (EV cfg) 119 [.sl [[.int .i64 1, .int .i64 2, .int .i64 0, .str [107], .sl []], [.int .i64 2, .int .i64 1, .int .i64 1, .str [], .sl []]], .int .i64 2] = some (.tup [.agg [.int .i64 1, .int .i64 1, .str [], .sl []], .bool true]) := factF (.nil) 1000 1000 (by kernel_rfl)
theorem specAwake_k43 : EVf (EV cfg) 73 [.agg [.int .i64 7, .int .i64 0, .str [], .sl [[.int .i64 2, .int .i64 0, .str [62], .sl []], [.int .i64 2, .int .i64 0, .str [36, 50], .sl []], [.int .i64 1, .int .i64 1, .str [], .sl []]]], .agg [.int .i64 7, .int .i64 0, .str [], .sl [[.int .i64 2, .int .i64 0, .str [107], .sl []], [.int .i64 1, .int .i64 1, .str [], .sl []]], .sl [[.int .i64 1, .int .i64 2, .int .i64 0, .str [107], .sl []], [.int .i64 2, .int .i64 1, .int .i64 1, .str [], .sl []]], .int .i64 1]] = some (.tup [.agg [.int .i64 2, .int .i64 0, .str [102, 97, 108, 115, 101], .sl []], .int .i64 0]) := factF (.consF specAwake_k41 (.consS specAwake_k35 (.consS specAwake_k37 (.consS specAwake_k36 (.consF specAwake_k42 (.nil)))))) 1000 1000 (by kernel_rfl)
theorem specAwake_k44 : EVf (EV cfg) 8 [.agg [.int .i64 9, .int .i64 0, .str [], .sl [[.int .i64 7, .int .i64 0, .str [], .sl [[.int .i64 7, .int .i64 0, .str [], .sl [[.int .i64 2, .int .i64 0, .str [36, 49], .sl []], [.int .i64 2, .int .i64 0, .str [36, 50], .sl []]]], [.int .i64 9, .int .i64 0, .str [], .sl [[.int .i64 7, .int .i64 0, .str [], .sl [[.int .i64 2, .int .i64 0, .str [62], .sl []], [.int .i64 2, .int .i64 0, .str [36, 50], .sl []], [.int .i64 1, .int .i64 1, .str [], .sl []]]], [.int .i64 8, .int .i64 0, .str [], .sl []]]], [.int .i64 9, .int .i64 0, .str [], .sl [[.int .i64 2, .int .i64 0, .str [36, 49], .sl []], [.int .i64 8, .int .i64 0, .str [], .sl []]]]]], [.int .i64 8, .int .i64 0, .str [], .sl []]]], .agg [.int .i64 7, .int .i64 0, .str [], .sl [[.int .i64 2, .int .i64 0, .str [107], .sl []], [.int .i64 1, .int .i64 1, .str [], .sl []]]], .int .i64 1] = some (.tup [.agg [.int .i64 0, .int .i64 0, .str [], .sl []], .bool false, .int .i64 0]) := factF (.consS specAwake_k32 (.consF specAwake_k38 (.consS specAwake_k39 (.consF specAwake_k40 (.consF specAwake_k41 (.consF specAwake_k43 (.nil))))))) 1000 1000 (by kernel_rfl)
theorem specAwake_k45 : EVs (EV cfg) 46 [.agg [.int .i64 7, .int .i64 0, .str [], .sl [[.int .i64 2, .int .i64 0, .str [107], .sl []], [.int .i64 1, .int .i64 3, .str [], .sl []]]]] = some (.int .i64 0) := factS (.nil) 1000 1000 (by kernel_rfl)
theorem specAwake_k46 : EVf (EV cfg) 90 [.agg [.int .i64 7, .int .i64 0, .str [], .sl [[.int .i64 2, .int .i64 0, .str [36, 49], .sl []], [.int .i64 2, .int .i64 0, .str [36, 50], .sl []]]], .agg [.int .i64 7, .int .i64 0, .str [], .sl [[.int .i64 2, .int .i64 0, .str [107], .sl []], [.int .i64 1, .int .i64 3, .str [], .sl []]]], .sl []] = some (.tup [.sl [[.int .i64 1, .int .i64 2, .int .i64 0, .str [107], .sl []], [.int .i64 2, .int .i64 1, .int .i64 3, .str [], .sl []]], .bool true]) := factF (.consS specAwake_k33 (.consS specAwake_k45 (.nil))) 1000 1000 (by kernel_rfl)
theorem specAwake_k47 : EVf (EV cfg) 91 [.agg [.int .i64 7, .int .i64 0, .str [], .sl [[.int .i64 2, .int .i64 0, .str [107], .sl []], [.int .i64 1, .int .i64 3, .str [], .sl []]], .sl [[.int .i64 1, .int .i64 2, .int .i64 0, .str [107], .sl []], [.int .i64 2, .int .i64 1, .int .i64 3, .str [], .sl []]], .int .i64 1]] = some (.tup [.sl [[.int .i64 1], [.int .i64 2]], .bool true]) := factF (.consS specAwake_k45 (.nil)) 1000 1000 (by kernel_rfl)
theorem specAwake_k48 : EVf (EV cfg) 119 [.sl [[.int .i64 1, .int .i64 2, .int .i64 0, .str [107], .sl []], [.int .i64 2, .int .i64 1, .int .i64 3, .str [], .sl []]], .int .i64 2] = some (.tup [.agg [.int .i64 1, .int .i64 3, .str [], .sl []], .bool true]) := factF (.nil) 1000 1000 (by kernel_rfl)
theorem specAwake_k49 : EVf (EV cfg) 73 [.agg [.int .i64 7, .int .i64 0, .str [], .sl [[.int .i64 2, .int .i64 0, .str [62], .sl []], [.int .i64 2, .int .i64 0, .str [36, 50], .sl []], [.int .i64 1, .int .i64 1, .str [], .sl []]]], .agg [.int .i64 7, .int .i64 0, .str [], .sl [[.int .i64 2, .int .i64 0, .str [107], .sl []], [.int .i64 1, .int .i64 3, .str [], .sl []]], .sl [[.int .i64 1, .int .i64 2, .int .i64 0, .str [107], .sl []], [.int .i64 2, .int .i64 1, .int .i64 3, .str [], .sl []]], .int .i64 1]] = some (.tup [.agg [.int .i64 2, .int .i64 0, .str [116, 114, 117, 101], .sl []], .int .i64 0]) := factF (.consF specAwake_k47 (.consS specAwake_k35 (.consS specAwake_k37 (.consS specAwake_k36 (.consF specAwake_k48 (.nil)))))) 1000 1000 (by kernel_rfl)
theorem specAwake_k50 : EVf (EV cfg) 119 [.sl [[.int .i64 1, .int .i64 2, .int .i64 0, .str [107], .sl []], [.int .i64 2, .int .i64 1, .int .i64 3, .str [], .sl []]], .int .i64 1] = some (.tup [.agg [.int .i64 2, .int .i64 0, .str [107], .sl []], .bool true]) := factF (.nil) 1000 1000 (by kernel_rfl)
theorem specAwake_k51 : EVf (EV cfg) 73 [.agg [.int .i64 2, .int .i64 0, .str [36, 49], .sl []], .agg [.int .i64 7, .int .i64 0, .str [], .sl [[.int .i64 2, .int .i64 0, .str [107], .sl []], [.int .i64 1, .int .i64 3, .str [], .sl []]], .sl [[.int .i64 1, .int .i64 2, .int .i64 0, .str [107], .sl []], [.int .i64 2, .int .i64 1, .int .i64 3, .str [], .sl []]], .int .i64 1]] = some (.tup [.agg [.int .i64 2, .int .i64 0, .str [107], .sl []], .int .i64 0]) := factF (.consF specAwake_k47 (.consS specAwake_k6 (.consF specAwake_k50 (.nil)))) 1000 1000 (by kernel_rfl)
theorem specAwake_k52 : EVf (EV cfg) 29 [.agg [.int .i64 9, .int .i64 0, .str [], .sl [[.int .i64 7, .int .i64 0, .str [], .sl [[.int .i64 7, .int .i64 0, .str [], .sl [[.int .i64 2, .int .i64 0, .str [36, 49], .sl []], [.int .i64 2, .int .i64 0, .str [36, 50], .sl []]]], [.int .i64 9, .int .i64 0, .str [], .sl [[.int .i64 7, .int .i64 0, .str [], .sl [[.int .i64 2, .int .i64 0, .str [62], .sl []], [.int .i64 2, .int .i64 0, .str [36, 50], .sl []], [.int .i64 1, .int .i64 1, .str [], .sl []]]], [.int .i64 8, .int .i64 0, .str [], .sl []]]], [.int .i64 9, .int .i64 0, .str [], .sl [[.int .i64 2, .int .i64 0, .str [36, 49], .sl []], [.int .i64 8, .int .i64 0, .str [], .sl []]]]]], [.int .i64 8, .int .i64 0, .str [], .sl []]]], .agg [.int .i64 7, .int .i64 0, .str [], .sl [[.int .i64 2, .int .i64 0, .str [107], .sl []], [.int .i64 1, .int .i64 3, .str [], .sl []]]], .int .i64 1] = some (.tup [.int .i64 1, .agg [.int .i64 2, .int .i64 0, .str [107], .sl []], .int .i64 0]) := factF (.consS specAwake_k32 (.consF specAwake_k38 (.consS specAwake_k45 (.consF specAwake_k46 (.consF specAwake_k47 (.consF specAwake_k49 (.consF specAwake_k51 (.nil)))))))) 1000 1000 (by kernel_rfl)
theorem specAwake_k53 : EVs (EV cfg) 14 [] = some (.bool true) := factS (.consF specAwake_k31 (.consF specAwake_k44 (.consS specAwake_k32 (.consF specAwake_k38 (.consF specAwake_k52 (.nil)))))) 1000 1000 (by kernel_rfl)
end Go.Proofs.YtonmmmgffeoiiaaGreat
end

section
namespace Go.Av
theorem zeroT_ok : zeroT.Ok := ok_of_w _ (by decide)
theorem SelOk.w {cs : List Cl} (h : SelOk cs) : (selT cs).w ≤ 4259840 := w_chk h.chk
end Go.Av
end

section
namespace Go.Av
theorem selT_w : ∀ (cs : List Cl) (B : Nat), (∀ c ∈ cs, c.head.w + wL c.gs + wL c.bs ≤ B) → (selT cs).w ≤ 1 + cs.length * (4 + 2 * B)
  | [], B, _ => by
    have : (selT []).w = 1 := by decide
    omega
  | c :: cs, B, h => by
    have h1 := selT_w cs B fun x hx => h x (by simp [hx])
    have h2 := clT_w c
    have h3 := h c (by simp)
    have l1 := len_wL c.gs
    have l2 := len_wL c.bs
    have e : (selT (c :: cs)).w = 1 + ((clT c).w + ((selT cs).w + 0)) := by
      show (Tm.mk 9 0 [] [clT c, selT cs]).w = _
      rw [Tm.w_mk]; simp only [wL_cons, wL_nil, List.length_nil]
    rw [e, List.length_cons, Nat.add_mul, Nat.one_mul]
    omega
end Go.Av
namespace Go.Proofs.YtonmmmgffeoiiaaGreat
open Go.Av
set_option maxRecDepth 100000
def WideP (cs : List Cl) (v : AV) : Prop := ∃ b : Bool, v = .bool b ∧ (b = false → cs.length ≤ 20)
theorem wide18_ev {cs : List Cl} (hlen : cs.length ≤ 1048576) (hw : ∀ c ∈ cs, c.head.w + wL c.gs + wL c.bs ≤ 1048576) : Gets (EVs (EV cfg) 22 [.sl (rowsC cs)]) (WideP cs) := by
  have fin : ∀ i : Int, WideP cs (.bool (decide (((rowsC cs).length : Int) > 20))) := fun i => ⟨_, rfl, fun h => by
    have h := of_decide_eq_false h
    rw [rowsC_len] at h; omega⟩
  have loop : ∀ (d i : Nat), i + d = cs.length → Gets (wrb22_0 (rowsC cs) i) (WideP cs) := by
    intro d
    induction d with
    | zero =>
      intro i hi
      refine wrb22_0_step _ _ ?_
      rw [decide_eq_false (show ¬ ((i : Int) < ((rowsC cs).length : Int)) by rw [rowsC_len]; omega)]
      exact ⟨_, rfl, fin 0⟩
    | succ d ih =>
      intro i hi
      have hil : i < cs.length := by omega
      have hx : cs[i]? = some cs[i] := List.getElem?_eq_getElem hil
      have h1 := ih (i + 1) (by omega)
      have hcw := hw _ (List.mem_of_getElem? hx)
      refine wrb22_0_step _ _ ?_
      have gx : List.get?Internal (rowsC cs) (Int.toNat (i : Int)) = some cs[i].cells := by
        rw [get?Internal_eq, Int.toNat_natCast, rowsC_get, hx]; rfl
      rw [decide_eq_true (show ((i : Int) < ((rowsC cs).length : Int)) by rw [rowsC_len]; omega)]
      by_cases h21 : (i : Int) < 21
      · have hlt : ltInt (i : Int) ((rowsC cs).length : Int) = true := by rw [rowsC_len, ltInt_nat]; exact decide_eq_true hil
        rw [decide_eq_true h21, leInt_zero, hlt, gx]
        generalize cs[i] = c at *
        have b6 : Nat.ble 6 c.cells.length = true := rfl
        have b66 : Nat.beq c.cells.length 6 = true := rfl
        have t6 : List.take 6 c.cells = c.cells := rfl
        have kcells : ∀ {α : Type} (K : Int → Int → List UInt8 → List (List AV) → List (List AV) → List (List AV) → Option α), (kCons c.cells fun v cs => kInt .i64 v fun n => kCons cs fun v cs => kInt .i64 v fun n_1 => kCons cs fun v cs => kStr v fun s => kCons cs fun v cs => kSl v fun rows => kCons cs fun v cs => kSl v fun rows_1 => kCons cs fun v cs => kSl v fun rows_2 => kNil cs (K n n_1 s rows rows_1 rows_2)) = K c.head.kind c.head.num c.head.str (rowsT c.head.subs) (rowsT c.gs) (rowsT c.bs) := fun K => rfl
        simp only [cond_true, Bool.and_self, kOptSome, b6, b66, t6]
        rw [kcells]
        have l1 := len_wL c.gs
        have l2 := len_wL c.bs
        by_cases g20 : ((rowsT c.gs).length : Int) > 20
        · rw [decide_eq_true g20]
          exact ⟨_, rfl, _, rfl, fun h => by cases h⟩
        · rw [decide_eq_false g20]
          by_cases b20 : ((rowsT c.bs).length : Int) > 20
          · rw [decide_eq_true b20]
            exact ⟨_, rfl, _, rfl, fun h => by cases h⟩
          · rw [decide_eq_false b20]
            simp only [cond_false, av_unf]
            refine Gets.bind (bigV_ev (t := c.head) (okT_w (by omega)) (most := 100) (by omega) (by omega)) ?_
            rintro _ ⟨b, rfl, _⟩
            cases b with
            | true => exact ⟨_, rfl, _, rfl, fun h => by cases h⟩
            | false =>
              have ha : List.append (List.take (0 + (rowsT c.gs).length) (rowsT c.gs)) (rowsT c.bs) = rowsT (c.gs ++ c.bs) := by
                rw [Nat.zero_add, List.take_length, rowsT_append]; rfl
              have hb : Nat.ble (0 + (0 + (rowsT c.gs).length)) (rowsT c.gs).length = true := by rw [Nat.ble_eq]; omega
              have r1 : rowsOk 4 (rowsT c.gs) = true := rowsOk_rowsT _
              have r2 : rowsOk 4 (rowsT c.bs) = true := rowsOk_rowsT _
              have f1 : fitsIn (0 + (rowsT c.gs).length) 56 = true := fits56 (by omega)
              have f2 : fitsIn (0 + (rowsT c.gs).length + (rowsT c.bs).length) 56 = true := fits56 (by omega)
              simp only [kBool_bool, cond_false, r1, r2, f1, f2, hb, ha, cond_true, Bool.and_self]
              have hall : ∀ x ∈ c.gs ++ c.bs, x.w ≤ 1048576 := fun x hx => by
                rcases List.mem_append.1 hx with h | h
                · have := wL_mem h; omega
                · have := wL_mem h; omega
              have hl0 : (c.gs ++ c.bs).length = (rowsT c.gs).length + (rowsT c.bs).length := by rw [List.length_append, rowsT_length, rowsT_length]
              have inner : ∀ (e j : Nat), j + e = (c.gs ++ c.bs).length → Gets (wrb22_1 (rowsC cs) i (rowsT c.gs) (rowsT c.bs) j (rowsT (c.gs ++ c.bs))) (WideP cs) := by
                intro e
                induction e with
                | zero =>
                  intro j hj
                  refine wrb22_1_step _ _ _ _ _ _ ?_
                  rw [decide_eq_false (by omega), wrap_succ hil (by omega)]
                  exact h1
                | succ e ihe =>
                  intro j hj
                  have hjl : j < (c.gs ++ c.bs).length := by omega
                  have hx : (c.gs ++ c.bs)[j]? = some (c.gs ++ c.bs)[j] := List.getElem?_eq_getElem hjl
                  have hb2 := bigV_ev (okT_w (hall _ (List.mem_of_getElem? hx))) (most := 100) (by omega) (by omega)
                  refine wrb22_1_step _ _ _ _ _ _ ?_
                  have lt : ltInt (j : Int) ((0 + (rowsT c.gs).length + (rowsT c.bs).length : Nat) : Int) = true := by rw [ltInt_nat]; exact decide_eq_true (by omega)
                  rw [decide_eq_true (show (j : Int) < ((0 + (rowsT c.gs).length + (rowsT c.bs).length : Nat) : Int) by omega), leInt_zero, lt, Nat.zero_add (Int.toNat (j : Int)), rowsT_at hx]
                  simp only [cond_true, Bool.and_self, length_cells, take_cells, kTmC_cells, show Nat.ble 4 4 = true from rfl, av_unf]
                  refine Gets.bind hb2 ?_
                  rintro _ ⟨b, rfl, _⟩
                  cases b with
                  | true => exact ⟨_, rfl, _, rfl, fun h => by cases h⟩
                  | false =>
                    simp only [kBool_bool, cond_false]
                    rw [wrap_succ hjl (by omega)]
                    exact ihe (j + 1) (by omega)
              exact inner (c.gs ++ c.bs).length 0 (by omega)
      · rw [decide_eq_false h21]
        exact ⟨_, rfl, fin 0⟩
  exact wide18_run _ (loop cs.length 0 (by omega))
theorem ofG_ok {cs : List Cl} (h : (selT cs).w < 1099511627775) : (ofG cs).1.Ok := by
  unfold ofG
  split
  · exact ok_of_w _ (by show (selT cs).w < _; omega)
  · exact zeroT_ok
theorem specMakes_ev {cs : List Cl} (hlen : cs.length ≤ 1048576) (hw : ∀ c ∈ cs, c.head.w + wL c.gs + wL c.bs ≤ 1048576) {p : Tm} (wp : p.w ≤ 1048576) : EVs (EV cfg) 5 [.sl (rowsC cs), p.av] = some (.bool true) := by
  have hwd := wide18_ev hlen hw
  have hl := large18_ev (l := [p]) ⟨okT_w wp, trivial⟩ (by simp)
  have hsw := sel1_w (patC p)
  have hsw : (selT [patC p]).w ≤ 2000000 := by
    have e1 : wL (patC p).gs = 0 := rfl
    have e2 : wL (patC p).bs = 3 := rfl
    have e3 : (patC p).head = p := rfl
    have e4 : (patC p).gs.length = 0 := rfl
    have e5 : (patC p).bs.length = 1 := rfl
    rw [e1, e2, e3, e4, e5] at hsw
    omega
  have hm := spMatch_ev (p := p) (by omega)
  have hm' := r18Match_ev (p := p) (by omega)
  apply Gets.get
  rw [agg_av p]
  refine specMakes_run _ _ _ _ _ ?_
  refine Gets.bind hwd ?_
  rintro _ ⟨b, rfl, hb⟩
  cases b with
  | true => exact ⟨_, rfl, rfl⟩
  | false =>
    have h20 := hb rfl
    have hW := selT_w cs 1048576 hw
    have hW2 : cs.length * (4 + 2 * 1048576) ≤ 20 * (4 + 2 * 1048576) := Nat.mul_le_mul_right _ h20
    have hof := spOf_ev (cs := cs) (by omega)
    have hof' := r18Of_ev (cs := cs) (by omega)
    have er : [[AV.int .i64 p.kind, .int .i64 p.num, .str p.str, .sl (rowsT p.subs)]] = rowsT [p] := by rw [rowsT_cons, rowsT_nil, Tm.cells_eq]
    have s1 := sameT_dec (ofG_ok (cs := cs) (by omega)) (b := (ofG cs).1) (c := true) (by simp)
    have s2 := sameT_dec (ofG_ok (cs := [patC p]) (by omega)) (b := (ofG [patC p]).1) (c := true) (by simp)
    rw [er]
    simp only [kBool_bool, cond_false]
    refine Gets.bind hl ?_
    rintro _ ⟨b, rfl, _⟩
    cases b with
    | true => exact ⟨_, rfl, rfl⟩
    | false =>
      simp only [kBool_bool, cond_false, hof, hof', kOptSome, av_unf, hm, hm']
      rw [kEvalR, kEvalR, kEvalR, kEvalR]
      simp only [beqI, decide_true, cond_true, av_unf, s1, s2, kOptSome, kBool_bool, specAwake_k53]
      exact ⟨_, rfl, rfl⟩
end Go.Proofs.YtonmmmgffeoiiaaGreat
end
