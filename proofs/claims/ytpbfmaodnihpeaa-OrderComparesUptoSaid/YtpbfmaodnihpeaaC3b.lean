/-
  What the functions of the order of terms do. Own work.
  What is proved: contracts of the abstract evaluation; no condition.
-/
import Derived.Test.YtpbfmaodnihpeaaC3a
namespace Go.Proofs.Ytpbfmaodnihpeaa
open Go.Av

/-- v tells whether p -/
def Tells (p : Prop) (v : AV) : Prop := ∃ b : Bool, v = .bool b ∧ (b = true ↔ p)

theorem tells_bool {p : Prop} {b : Bool} : Tells p (.bool b) ↔ (b = true ↔ p) := ⟨fun ⟨_, h1, h2⟩ => by cases h1; exact h2, fun h => ⟨b, rfl, h⟩⟩

theorem sameL_of (la lb : List Tm) (hlen : la.length < 1099511627776) (ih : ∀ a ∈ la, ∀ b, Gets (EVs (EV cfg) 17 [a.av, b.av]) (Tells (a = b))) : Gets (EVs (EV cfg) 67 [.sl (rowsT la), .sl (rowsT lb)]) (Tells (la = lb)) := by
  have loop : la.length = lb.length → ∀ (d i : Nat), i + d = la.length → la.take i = lb.take i → Gets (w67_0 (rowsT la) (rowsT lb) i) (Tells (la = lb)) := by
    intro hl d
    induction d with
    | zero =>
      intro i hi ht
      refine w67_0_step _ _ _ ?_
      rw [List.take_of_length_le (by omega), List.take_of_length_le (by omega)] at ht
      have h1 : ¬ i < la.length := by omega
      simp [h1, tells_bool]
      exact ht
    | succ d ihd =>
      intro i hi ht
      refine w67_0_step _ _ _ ?_
      obtain ⟨x, hx⟩ : ∃ x, la[i]? = some x := ⟨_, List.getElem?_eq_getElem (by omega)⟩
      obtain ⟨y, hy⟩ : ∃ y, lb[i]? = some y := ⟨_, List.getElem?_eq_getElem (by omega)⟩
      have hix := ih x (List.mem_of_getElem? hx) y
      have hta : la.take (i + 1) = la.take i ++ [x] := by rw [List.take_add_one, hx]; rfl
      have htb : lb.take (i + 1) = lb.take i ++ [y] := by rw [List.take_add_one, hy]; rfl
      have hih := ihd (i + 1) (by omega)
      have hne : x ≠ y → la ≠ lb := by intro h e; subst e; rw [hx] at hy; exact h (Option.some.inj hy)
      rw [hta, htb, ht] at hih
      obtain ⟨k, n, s, l⟩ := x
      obtain ⟨k', n', s', l'⟩ := y
      rw [Tm.av_mk, Tm.av_mk] at hix
      rw [wrap_succ (n := la.length) (by omega) hlen]
      simp only [get?Internal_eq, Int.toNat_natCast, rowsT_some hx, rowsT_some hy]
      simp [show i < la.length by omega, show i < lb.length by omega]
      refine Gets.bind hix ?_
      rintro _ ⟨b, rfl, hb⟩
      cases b with
      | true => simp; exact hih (by rw [hb.1 rfl])
      | false =>
        have : la ≠ lb := hne (fun e => by cases hb.2 e)
        simp [tells_bool, this]
  refine f67_run _ _ ?_
  by_cases hl : la.length = lb.length
  · simp [hl]
    exact loop hl la.length 0 (by omega) (by simp)
  · have : la ≠ lb := fun e => hl (by rw [e])
    have hl' : ¬ ((la.length : Int) = lb.length) := by omega
    simp [bneD, hl', tells_bool, this]

theorem sameT_ev (a : Tm) : a.Ok → ∀ b : Tm, Gets (EVs (EV cfg) 17 [a.av, b.av]) (Tells (a = b)) := by
  induction a using Tm.ind with
  | _ k n s l ih =>
    intro hok b
    obtain ⟨k', n', s', l'⟩ := b
    have hl := sameL_of l l' hok.len (fun a ha b => ih a ha (hok.sub ha) b)
    rw [Tm.av_mk, Tm.av_mk]
    refine f17_run _ _ _ _ _ _ _ _ ?_
    by_cases h1 : k = k'
    · by_cases h2 : n = n'
      · by_cases h3 : s = s'
        · subst h1 h2 h3
          simp
          refine Gets.bind hl ?_
          rintro _ ⟨b, rfl, hb⟩
          simp [tells_bool, hb]
        · simp [h1, h2, beqD, h3, tells_bool]
      · simp [h1, beqD, h2, tells_bool]
    · simp [beqD, h1, tells_bool]
theorem sameL_ev {la : List Tm} (h : OkL la) (hlen : la.length < 1099511627776) (lb : List Tm) : Gets (EVs (EV cfg) 67 [.sl (rowsT la), .sl (rowsT lb)]) (Tells (la = lb)) := sameL_of la lb hlen (fun a ha b => sameT_ev a (h.get ha) b)

/-! ### numbers and texts -/
theorem isNaN_ev (a : Int) : EVs (EV cfg) 95 [.int .i64 a] = some (.bool false) := by
  apply Gets.get
  refine f95_run _ ?_
  simp
theorem cmp_ev (a b : Int) : EVs (EV cfg) 60 [.int .i64 a, .int .i64 b] = some (.int .i64 (numC a b)) := by
  apply Gets.get
  refine f60_run _ _ ?_
  rw [isNaN_ev, isNaN_ev]
  unfold numC
  by_cases h1 : a < b
  · simp [h1]
  · by_cases h2 : b < a
    · simp [h1, h2]
    · simp [h1, h2]
theorem cmpstr_ev (a b : List UInt8) : EVs (EV cfg) 107 [.str a, .str b] = some (.int .i64 (strC a b)) := by
  refine EVs_of (H := []) (EV_of ?_)
  have hx : cfg.ext 107 = some extCmp := rfl
  unfold evBody
  simp only [hx]
  unfold extCmp strC
  by_cases h : a = b
  · simp [h]
  · simp [h]
theorem strCmp_ev (a b : List UInt8) : EVs (EV cfg) 61 [.str a, .str b] = some (.int .i64 (strC a b)) := by
  have h96 : EVs (EV cfg) 96 [.str a, .str b] = some (.int .i64 (strC a b)) := by
    apply Gets.get
    refine f96_run _ _ ?_
    rw [cmpstr_ev]; simp
  apply Gets.get
  refine f61_run _ _ ?_
  rw [h96]; simp
theorem or3_ev (a b c : Int) : EVs (EV cfg) 62 [.sl [[.int .i64 a], [.int .i64 b], [.int .i64 c]]] = some (.int .i64 (if a ≠ 0 then a else if b ≠ 0 then b else c)) := by
  apply Gets.get
  refine f62_run _ ?_
  have w1 : IntKind.wrap .i64 (0 + 1) = 1 := wrap64 (by omega) (by omega)
  have w2 : IntKind.wrap .i64 (1 + 1) = 2 := wrap64 (by omega) (by omega)
  have w3 : IntKind.wrap .i64 (2 + 1) = 3 := wrap64 (by omega) (by omega)
  have s3 : Gets (w62_0 [[.int .i64 a], [.int .i64 b], [.int .i64 c]] 3) (· = .int .i64 0) := by
    refine w62_0_step _ _ ?_
    simp
  have s2 : Gets (w62_0 [[.int .i64 a], [.int .i64 b], [.int .i64 c]] 2) (· = .int .i64 c) := by
    refine w62_0_step _ _ ?_
    rw [w3]
    by_cases h : c = 0
    · subst h; simp; exact s3
    · simp [bneD, h]
  have s1 : Gets (w62_0 [[.int .i64 a], [.int .i64 b], [.int .i64 c]] 1) (· = .int .i64 (if b ≠ 0 then b else c)) := by
    refine w62_0_step _ _ ?_
    rw [w2]
    by_cases h : b = 0
    · subst h; simp; exact s2
    · simp [bneD, h]
  refine w62_0_step _ _ ?_
  rw [w1]
  by_cases h : a = 0
  · subst h; simp only [ne_eq, ite_not] at s1; simp; exact s1
  · simp [bneD, h]
theorem or2_ev (a b : Int) : EVs (EV cfg) 62 [.sl [[.int .i64 a], [.int .i64 b]]] = some (.int .i64 (if a ≠ 0 then a else b)) := by
  apply Gets.get
  refine f62_run _ ?_
  have w1 : IntKind.wrap .i64 (0 + 1) = 1 := wrap64 (by omega) (by omega)
  have w2 : IntKind.wrap .i64 (1 + 1) = 2 := wrap64 (by omega) (by omega)
  have s2 : Gets (w62_0 [[.int .i64 a], [.int .i64 b]] 2) (· = .int .i64 0) := by
    refine w62_0_step _ _ ?_
    simp
  have s1 : Gets (w62_0 [[.int .i64 a], [.int .i64 b]] 1) (· = .int .i64 b) := by
    refine w62_0_step _ _ ?_
    rw [w2]
    by_cases h : b = 0
    · subst h; simp; exact s2
    · simp [bneD, h]
  refine w62_0_step _ _ ?_
  rw [w1]
  by_cases h : a = 0
  · subst h; simp; exact s1
  · simp [bneD, h]
theorem numbers_ev (a b : Int) : EVs (EV cfg) 64 [.int .i64 a, .int .i64 b] = some (.int .i64 (numC a b)) := by
  apply Gets.get
  refine f64_run _ _ ?_
  unfold numC
  by_cases h1 : a < b
  · simp [h1]
  · by_cases h2 : b < a
    · simp [h1, h2]
    · simp [h1, h2]
theorem texts_ev (a b : List UInt8) : EVs (EV cfg) 65 [.str a, .str b] = some (.int .i64 (strC a b)) := by
  apply Gets.get
  refine f65_run _ _ ?_
  rw [strC_eq]
  cases h1 : Op.bytesLess a b
  · cases h2 : (a == b) <;> simp
  · simp
end Go.Proofs.Ytpbfmaodnihpeaa
