/-
  What order.Compare and its definition by the document do. Own work.
  What is proved: contracts of the abstract evaluation; no condition.
-/
import Derived.Test.YtpbfmaodnihpeaaC3b
namespace Go.Proofs.Ytpbfmaodnihpeaa
open Go.Av

theorem drop_get {β : Type} {l : List β} {i : Nat} {x : β} (h : l[i]? = some x) : l.drop i = x :: l.drop (i + 1) := by
  obtain ⟨h1, h2⟩ := List.getElem?_eq_some_iff.1 h
  rw [← h2]; exact List.drop_eq_getElem_cons h1

theorem dropNil {β : Type} {l : List β} {i : Nat} (h : l.length ≤ i) : l.drop i = [] := List.drop_eq_nil_of_le h

theorem listsE_of (la lb : List Tm) (hlen : la.length < 1099511627776) (ih : ∀ a ∈ la, ∀ b ∈ lb, EVs (EV cfg) 15 [a.av, b.av] = some (.int .i64 (cmpT a b))) :
    EVs (EV cfg) 97 [.sl (rowsT la), .sl (rowsT lb), .fn (.func 15) [] []] = some (.int .i64 (cmpE la lb)) := by
  have loop : ∀ (d i : Nat), i + d = la.length → Gets (w97_0 (rowsT la) (rowsT lb) i) (· = .int .i64 (cmpE (la.drop i) (lb.drop i))) := by
    intro d
    induction d with
    | zero =>
      intro i hi
      refine w97_0_step _ _ _ ?_
      rw [dropNil (l := la) (by omega)]
      by_cases h : i < lb.length
      · obtain ⟨y, hy⟩ : ∃ y, lb[i]? = some y := ⟨_, List.getElem?_eq_getElem h⟩
        rw [drop_get hy, cmpE_nil_cons]
        simp [show ¬ i < la.length by omega, show la.length < lb.length by omega]
      · rw [dropNil (l := lb) (by omega), cmpE_nil]
        simp [show ¬ i < la.length by omega, show ¬ la.length < lb.length by omega]
    | succ d ihd =>
      intro i hi
      refine w97_0_step _ _ _ ?_
      obtain ⟨x, hx⟩ : ∃ x, la[i]? = some x := ⟨_, List.getElem?_eq_getElem (by omega)⟩
      rw [drop_get hx]
      by_cases h : i < lb.length
      · obtain ⟨y, hy⟩ : ∃ y, lb[i]? = some y := ⟨_, List.getElem?_eq_getElem h⟩
        have hix := ih x (List.mem_of_getElem? hx) y (List.mem_of_getElem? hy)
        have hih := ihd (i + 1) (by omega)
        simp only [w97_0, rowsT_length] at hih
        rw [drop_get hy, cmpE_cons]
        obtain ⟨k, n, s, l⟩ := x
        obtain ⟨k', n', s', l'⟩ := y
        rw [Tm.av_mk, Tm.av_mk] at hix
        simp only [get?Internal_eq, Int.toNat_natCast, rowsT_some hx, rowsT_some hy]
        simp [show i < la.length by omega, h, show ¬ lb.length ≤ i by omega, hix, bneD]
        by_cases hc : cmpT (.mk k n s l) (.mk k' n' s' l') = 0
        · simp [hc]; rw [wrap_succ (n := la.length) (by omega) hlen]; exact hih
        · simp [hc]
      · rw [dropNil (l := lb) (by omega), cmpE_cons_nil]
        obtain ⟨k, n, s, l⟩ := x
        simp only [get?Internal_eq, Int.toNat_natCast, rowsT_some hx]
        simp [show i < la.length by omega, show lb.length ≤ i by omega]
  apply Gets.get
  refine f97_run _ _ ?_
  exact loop la.length 0 (by omega)

theorem lists_of (la lb : List Tm) (hlen : la.length < 1099511627776) (ih : ∀ a ∈ la, ∀ b ∈ lb, EVs (EV cfg) 15 [a.av, b.av] = some (.int .i64 (cmpT a b))) :
    EVs (EV cfg) 63 [.sl (rowsT la), .sl (rowsT lb)] = some (.int .i64 (cmpE la lb)) := by
  apply Gets.get
  refine f63_run _ _ ?_
  rw [listsE_of la lb hlen ih]
  simp

theorem compare_loop (a : Tm) : a.Ok → ∀ (kb nb : Int) (sb : List UInt8) (lb : List Tm), (Tm.mk kb nb sb lb).Ok → Gets (w15_0 a.kind a.num a.str (rowsT a.subs) kb nb sb (rowsT lb)) (· = .int .i64 (cmpT a (.mk kb nb sb lb))) := by
  induction a using Tm.ind with
  | _ k n s l ih =>
    intro hok kb nb sb lb hokb
    have ihe : ∀ a ∈ l, ∀ b ∈ lb, EVs (EV cfg) 15 [a.av, b.av] = some (.int .i64 (cmpT a b)) := by
      intro a ha b hb
      have := ih a ha (hok.sub ha)
      have hob := hokb.sub hb
      obtain ⟨k1, n1, s1, l1⟩ := a
      obtain ⟨k2, n2, s2, l2⟩ := b
      rw [Tm.av_mk, Tm.av_mk]
      apply Gets.get
      exact f15_run _ _ _ _ _ _ _ _ (this k2 n2 s2 l2 hob)
    have hlists := lists_of l lb hok.len ihe
    rw [cmpT_eq]
    refine w15_0_step _ _ _ _ _ _ _ _ ?_
    simp only [Tm.kind, Tm.num, Tm.str, Tm.subs, cmp_ev, strCmp_ev, hlists, or2_ev, or3_ev, rowsT_length, kOptSome, kInt_int, bneD, beqD]
    by_cases h0 : ¬ numC k kb = 0
    · simp [h0]
    have h0 : numC k kb = 0 := Classical.not_not.1 h0
    simp [h0]
    by_cases h1 : k = 1
    · simp [h1]
    by_cases h3 : k = 3
    · simp [h3]
    by_cases h4 : k = 4
    · simp [h4]
    by_cases h6 : k = 6
    · simp [h6]
    by_cases h2 : k = 2
    · simp [h2]
    by_cases h5 : k = 5
    · simp [h5, cmpL]
    by_cases h9 : k = 9
    · subst h9
      by_cases hl : l.length = 2
      · by_cases hl' : lb.length = 2
        · obtain ⟨x, y, rfl⟩ : ∃ x y, l = [x, y] := by
            match l, hl with
            | [x, y], _ => exact ⟨x, y, rfl⟩
          obtain ⟨x', y', rfl⟩ : ∃ x y, lb = [x, y] := by
            match lb, hl' with
            | [x, y], _ => exact ⟨x, y, rfl⟩
          have hx := ihe x (by simp) x' (by simp)
          have hy := ih y (by simp) (hok.sub (by simp))
          have hoy := hokb.sub (t := y') (by simp)
          have hcl : cmpL [x, y] [x', y'] = if cmpT x x' ≠ 0 then cmpT x x' else cmpT y y' := by
            unfold cmpL
            rw [cmpE_cons, cmpE_cons, cmpE_nil]
            by_cases e1 : cmpT x x' = 0 <;> by_cases e2 : cmpT y y' = 0 <;> simp [numC_self, e1, e2]
          obtain ⟨k1, n1, s1, l1⟩ := x
          obtain ⟨k2, n2, s2, l2⟩ := y
          obtain ⟨k1', n1', s1', l1'⟩ := x'
          obtain ⟨k2', n2', s2', l2'⟩ := y'
          have hyy := hy k2' n2' s2' l2' hoy
          rw [Tm.av_mk, Tm.av_mk] at hx
          simp only [rowsT_cons, rowsT_nil, Tm.cells_mk]
          simp [hcl, hx]
          by_cases hc : cmpT (.mk k1 n1 s1 l1) (.mk k1' n1' s1' l1') = 0
          · simp [hc]; exact hyy
          · simp [hc]
        · have : ¬ ((lb.length : Int) = 2) := by omega
          simp [hl, this, cmpL]
      · have : ¬ ((l.length : Int) = 2) := by omega
        simp [this, cmpL]
    by_cases h7 : k = 7
    · simp [h7, cmpL]
    simp [h1, h2, h3, h4, h5, h6, h7, h9]

theorem compare_ev {a b : Tm} (ha : a.Ok) (hb : b.Ok) : EVs (EV cfg) 15 [a.av, b.av] = some (.int .i64 (cmpT a b)) := by
  have := compare_loop a ha
  obtain ⟨k1, n1, s1, l1⟩ := a
  obtain ⟨k2, n2, s2, l2⟩ := b
  rw [Tm.av_mk, Tm.av_mk]
  apply Gets.get
  exact f15_run _ _ _ _ _ _ _ _ (this k2 n2 s2 l2 hb)

/-! ### by the document -/
theorem refLists_of (la lb : List Tm) (hlen : la.length < 1099511627776) (ih : ∀ a ∈ la, ∀ b ∈ lb, EVs (EV cfg) 16 [a.av, b.av] = some (.int .i64 (cmpT a b))) :
    EVs (EV cfg) 66 [.sl (rowsT la), .sl (rowsT lb)] = some (.int .i64 (cmpL la lb)) := by
  have stop : ∀ (c : Int) (i : Nat), c ≠ 0 → Gets (w66_0 (rowsT la) (rowsT lb) c i) (· = .int .i64 c) := by
    intro c i hc
    refine w66_0_step _ _ _ _ ?_
    by_cases h : i < la.length
    · simp [h, beqD, hc]
    · simp [h]
  have loop : la.length = lb.length → ∀ (d i : Nat), i + d = la.length → Gets (w66_0 (rowsT la) (rowsT lb) 0 i) (· = .int .i64 (cmpE (la.drop i) (lb.drop i))) := by
    intro hl d
    induction d with
    | zero =>
      intro i hi
      refine w66_0_step _ _ _ _ ?_
      rw [dropNil (l := la) (by omega), dropNil (l := lb) (by omega), cmpE_nil]
      simp [show ¬ i < la.length by omega]
    | succ d ihd =>
      intro i hi
      refine w66_0_step _ _ _ _ ?_
      obtain ⟨x, hx⟩ : ∃ x, la[i]? = some x := ⟨_, List.getElem?_eq_getElem (by omega)⟩
      obtain ⟨y, hy⟩ : ∃ y, lb[i]? = some y := ⟨_, List.getElem?_eq_getElem (by omega)⟩
      have hix := ih x (List.mem_of_getElem? hx) y (List.mem_of_getElem? hy)
      have hih := ihd (i + 1) (by omega)
      rw [drop_get hx, drop_get hy, cmpE_cons]
      have hst := stop (cmpT x y) (i + 1)
      obtain ⟨k, n, s, l⟩ := x
      obtain ⟨k', n', s', l'⟩ := y
      rw [Tm.av_mk, Tm.av_mk] at hix
      simp only [get?Internal_eq, Int.toNat_natCast, rowsT_some hx, rowsT_some hy]
      simp [show i < la.length by omega, show i < lb.length by omega, hix]
      by_cases hc : cmpT (.mk k n s l) (.mk k' n' s' l') = 0
      · simp [hc]; rw [wrap_succ (n := la.length) (by omega) hlen]; exact hih
      · simp [hc]; rw [wrap_succ (n := la.length) (by omega) hlen]; exact hst hc
  apply Gets.get
  refine f66_run _ _ ?_
  simp only [numbers_ev, rowsT_length, kOptSome, kInt_int]
  unfold cmpL
  by_cases h : numC la.length lb.length = 0
  · have := loop (by have := numC_zero.1 h; omega) la.length 0 (by omega)
    simp [h]; exact this
  · simp [h]; exact stop _ 0 h

theorem refCompare_ev (a : Tm) : a.Ok → ∀ b : Tm, b.Ok → EVs (EV cfg) 16 [a.av, b.av] = some (.int .i64 (cmpT a b)) := by
  induction a using Tm.ind with
  | _ k n s l ih =>
    intro hok b hokb
    obtain ⟨kb, nb, sb, lb⟩ := b
    have hlists := refLists_of l lb hok.len (fun a ha b hb => ih a ha (hok.sub ha) b (hokb.sub hb))
    rw [cmpT_eq, Tm.av_mk, Tm.av_mk]
    apply Gets.get
    refine f16_run _ _ _ _ _ _ _ _ ?_
    simp only [numbers_ev, texts_ev, hlists, kOptSome, kInt_int, bneD, beqD]
    by_cases h0 : ¬ numC k kb = 0
    · simp [h0]
    have h0 : numC k kb = 0 := Classical.not_not.1 h0
    simp [h0]
    by_cases h1 : k = 1
    · simp [h1]
    by_cases h3 : k = 3
    · simp [h3]
    by_cases h4 : k = 4
    · simp [h4]
    by_cases h6 : k = 6
    · simp [h6]
    by_cases h2 : k = 2
    · simp [h2]
    by_cases h5 : k = 5
    · by_cases hn : numC n nb = 0
      · simp [h5, hn]
      · simp [h5, hn]
    by_cases h7 : k = 7
    · simp [h7]
    by_cases h9 : k = 9
    · simp [h9]
    simp [h1, h2, h3, h4, h5, h6, h7, h9]
end Go.Proofs.Ytpbfmaodnihpeaa
