/-
  Parts of the proof of BoundSidesUptoSaid, put together: the abstract evaluation and its contracts. Own work.
  What is proved: each lemma as it stands; no condition.
-/
import Derived.Test.YteojjjhhmbogfaaGreatZBoundSidesM4

section
namespace Go.Av
def varsV (q : Nat → Bool) : AV := .sl (intsR (((List.range 100).filter q).map Int.ofNat))
theorem len_wL : ∀ l : List Tm, l.length ≤ wL l
  | [] => Nat.le_refl _
  | t :: l => by rw [wL_cons, List.length_cons]; have := w_pos t; have := len_wL l; omega
theorem setZero : SetRow (fun _ => false) [.int .u64 0, .int .u64 0] := ⟨0, 0, [], rfl, by decide, by decide, fun n _ => Nat.zero_testBit n, fun n _ => Nat.zero_testBit n⟩
theorem rowsOk_of_cells (x : Tm) : rowsOk 4 (rowsT x.subs) = true := rowsOk_rowsT _
end Go.Av
namespace Go.Proofs.YteojjjhhmbogfaaGreat
open Go.Av
theorem setAdd2_ev {p : Nat → Bool} {r : List AV} (h : SetRow p r) {n : Nat} (hn : n < 100) : ∃ r', EVm (EV cfg) 160 [.ptr 0 0 0, .int .i64 n] 2 [r] = some (.unit, [r']) ∧
    SetRow (fun i => p i || decide (i = n)) r' ∧ r'.drop 2 = r.drop 2 ∧ r'.length = r.length ∧ (refsLtL 0 r = true → refsLtL 0 r' = true) := by
  obtain ⟨lo, hi, l, rfl, h1, h2, h3, h4⟩ := h
  have pw : ∀ {k : Nat}, k < 64 → 2 ^ k < 18446744073709551616 := by
    intro k hk
    have : 2 ^ k < 2 ^ 64 := Nat.pow_lt_pow_right (by omega) hk
    simpa using this
  have orlt : ∀ {a b : Nat}, a < 18446744073709551616 → b < 18446744073709551616 → a ||| b < 18446744073709551616 := by
    intro a b ha hb
    have := Nat.or_lt_two_pow (n := 64) (by simpa using ha) (by simpa using hb)
    simpa using this
  have bit : ∀ {a k i : Nat}, (a ||| 2 ^ k).testBit i = (a.testBit i || decide (i = k)) := by
    intro a k i
    rw [Nat.testBit_or, Nat.testBit_two_pow]
    congr 1
    exact decide_eq_decide.2 ⟨fun h => h.symm, fun h => h.symm⟩
  by_cases hs : n < 64
  · refine ⟨.int .u64 ((lo ||| 2 ^ n : Nat) : Int) :: .int .u64 hi :: l, ?_, ⟨_, hi, l, rfl, orlt h1 (pw hs), h2, fun i hi => ?_, fun i hi => ?_⟩, rfl, rfl, fun h => h⟩
    · apply Gets.get
      refine setAdd2_run _ _ ?_
      rw [decide_eq_true (show (n : Int) < 64 by omega)]
      simp only [cond_true, get?Internal_eq, List.getElem?_cons_zero, kOptSome, kInt_int, shl_one hs, or_bits h1 (pw hs)]
      exact ⟨_, rfl, rfl⟩
    · rw [bit, h3 i hi]
    · have : decide (i + 64 = n) = false := decide_eq_false (by omega)
      rw [h4 i hi]
      show p (i + 64) = (p (i + 64) || decide (i + 64 = n))
      rw [this, Bool.or_false]
  · obtain ⟨k, rfl⟩ : ∃ k, n = k + 64 := ⟨n - 64, by omega⟩
    have hk : k < 64 := by omega
    have w : IntKind.wrap .i64 (((k + 64 : Nat) : Int) - 64) = (k : Int) := by rw [wrap64 (by omega) (by omega)]; omega
    refine ⟨.int .u64 lo :: .int .u64 ((hi ||| 2 ^ k : Nat) : Int) :: l, ?_, ⟨lo, _, l, rfl, h1, orlt h2 (pw hk), fun i hi => ?_, fun i hi => ?_⟩, rfl, rfl, fun h => h⟩
    · apply Gets.get
      refine setAdd2_run _ _ ?_
      rw [decide_eq_false (show ¬ ((k + 64 : Nat) : Int) < 64 by omega), w]
      simp only [cond_false, get?Internal_eq, List.getElem?_cons_succ, List.getElem?_cons_zero, kOptSome, kInt_int, shl_one hk, or_bits h2 (pw hk)]
      exact ⟨_, rfl, rfl⟩
    · have : decide (i = k + 64) = false := decide_eq_false (by omega)
      rw [h3 i hi]
      show p i = (p i || decide (i = k + 64))
      rw [this, Bool.or_false]
    · rw [bit, h4 i hi]
      congr 1
      exact decide_eq_decide.2 (by omega)
theorem vars_end {q : Nat → Bool} {s : List AV} (h : SetRow q s) (h2 : s.length = 2) : Gets (wk57_1a 0 0 [s] []) (· = varsV q) := by
  have hf : refsLtL 0 s = true := by
    obtain ⟨lo, hi, l, rfl, _⟩ := h
    cases l with
    | nil => rfl
    | cons a l => simp at h2
  have hg : ∀ n : Int, refsLtL 0 [AV.cptr s 0, .int .i64 n] = true := by
    intro n
    obtain ⟨lo, hi, l, rfl, _⟩ := h
    cases l with
    | nil => rfl
    | cons a l => simp at h2
  have loop : ∀ d i : Nat, i + d = 100 → Gets (wk57_1a ((List.range i).filter q).length i [s] (intsR (((List.range i).filter q).map Int.ofNat))) (· = varsV q) := by
    intro d
    induction d with
    | zero =>
      intro i hi
      obtain rfl : i = 100 := by omega
      refine wk57_1a_step _ _ _ _ ?_
      have e1 : Nat.ble (0 + ((List.range 100).filter q).length) (intsR (((List.range 100).filter q).map Int.ofNat)).length = true := by rw [Nat.ble_eq, intsR_len, List.length_map]; omega
      have e2 : List.take ((List.range 100).filter q).length (intsR (((List.range 100).filter q).map Int.ofNat)) = intsR (((List.range 100).filter q).map Int.ofNat) := List.take_of_length_le (by rw [intsR_len, List.length_map]; exact Nat.le_refl _)
      rw [show decide (((100 : Nat) : Int) < 100) = false from rfl, e1, e2]
      exact ⟨_, rfl, rfl⟩
    | succ d ih =>
      intro i hi
      have h1 := ih (i + 1) (by omega)
      rw [List.range_succ, List.filter_append] at h1
      refine wk57_1a_step _ _ _ _ ?_
      have hle : ((List.range i).filter q).length ≤ i := by have := List.length_filter_le q (List.range i); rw [List.length_range] at this; exact this
      have e1 : Nat.ble (0 + ((List.range i).filter q).length) (intsR (((List.range i).filter q).map Int.ofNat)).length = true := by rw [Nat.ble_eq, intsR_len, List.length_map]; omega
      have e2 : List.take ((List.range i).filter q).length (intsR (((List.range i).filter q).map Int.ofNat)) = intsR (((List.range i).filter q).map Int.ofNat) := List.take_of_length_le (by rw [intsR_len, List.length_map]; exact Nat.le_refl _)
      have e3 : IntKind.wrap .i64 ((i : Int) + 1) = ((i + 1 : Nat) : Int) := by rw [wrap64 (by omega) (by omega)]; omega
      rw [decide_eq_true (show (i : Int) < 100 by omega), get?Internal_eq, List.getElem?_cons_zero, e1, e2, e3, fits8 (by omega)]
      simp only [cond_true, kOptSome, kBool_bool, hf, hg, Bool.and_self, setHas_ev h (show i < 100 by omega)]
      cases hq : q i with
      | true =>
        rw [List.filter_cons_of_pos hq, List.filter_nil, List.map_append, List.length_append] at h1
        rw [cond_true]
        have e4 : intsR (((List.range i).filter q).map Int.ofNat ++ [i].map Int.ofNat) = List.append (intsR (((List.range i).filter q).map Int.ofNat)) [[AV.int .i64 i]] := by
          unfold intsR; rw [List.map_append]; rfl
        rw [e4] at h1
        exact h1
      | false =>
        rw [List.filter_cons_of_neg (by rw [hq]; decide), List.filter_nil, List.append_nil] at h1
        rw [cond_false]
        exact h1
  exact loop 100 0 rfl
theorem vars_end0 : Gets (wk57_1 0 0 0 0 []) (· = varsV fun i => ([] : List Tm).any (varIn (i : Nat))) := by
  have loop : ∀ d i : Nat, i + d = 100 → Gets (wk57_1 0 i 0 0 []) (· = varsV fun i => ([] : List Tm).any (varIn (i : Nat))) := by
    intro d
    induction d with
    | zero =>
      intro i hi
      obtain rfl : i = 100 := by omega
      refine wk57_1_step _ _ _ _ _ ?_
      rw [show decide (((100 : Nat) : Int) < 100) = false from rfl]
      exact ⟨_, rfl, rfl⟩
    | succ d ih =>
      intro i hi
      refine wk57_1_step _ _ _ _ _ ?_
      have e3 : IntKind.wrap .i64 ((i : Int) + 1) = ((i + 1 : Nat) : Int) := by rw [wrap64 (by omega) (by omega)]; omega
      rw [decide_eq_true (show (i : Int) < 100 by omega), setHas_ev setZero (show i < 100 by omega), e3]
      simp only [cond_true, kOptSome, kBool_bool, cond_false]
      exact ih (i + 1) (by omega)
  exact loop 100 0 rfl
theorem vars_loopa {p : Tm} : ∀ (n : Nat) (R : List Tm) (h4 : List (List AV)) (s : List AV) (q : Nat → Bool), wL R ≤ n → n < 1099511627776 → R.length ≤ h4.length → h4.take R.length = rowsT R → SetRow q s → s.length = 2 → 
    Gets (wk57_0a R.length p.kind p.num p.str (rowsT p.subs) [s] p.kind p.num p.str (rowsT p.subs) h4) (· = varsV fun i => q i || R.any (varIn (i : Nat))) := by
  intro n
  induction n with
  | zero =>
    intro R h4 s q hw hn hl ht hs hs2
    have hR : R = [] := by
      cases R with
      | nil => rfl
      | cons x l => rw [wL_cons] at hw; have := w_pos x; omega
    subst hR
    refine wk57_0a_step _ _ _ _ _ _ _ _ _ _ _ ?_
    have : decide (((([] : List Tm).length : Nat) : Int) > 0) = false := rfl
    rw [this, cond_false]
    exact vars_end (by simpa using hs) hs2
  | succ n ih =>
    intro R h4 s q hw hn hl ht hs hs2
    rcases List.eq_nil_or_concat R with rfl | ⟨R', x, hR⟩
    · refine wk57_0a_step _ _ _ _ _ _ _ _ _ _ _ ?_
      have : decide (((([] : List Tm).length : Nat) : Int) > 0) = false := rfl
      rw [this, cond_false]
      exact vars_end (by simpa using hs) hs2
    · obtain rfl : R = R' ++ [x] := by rw [hR]; simp
      clear hR
      rw [wL_append, wL_cons, wL_nil] at hw
      have hx := w_pos x
      have hwe := x.w_eq
      have hRl := len_wL R'
      rw [List.length_append, List.length_singleton] at hl ht ⊢
      refine wk57_0a_step _ _ _ _ _ _ _ _ _ _ _ ?_
      have g0 : decide (((R'.length + 1 : Nat) : Int) > 0) = true := decide_eq_true (by omega)
      have g1 : IntKind.wrap .i64 (((R'.length + 1 : Nat) : Int) - 1) = (R'.length : Int) := by rw [wrap64 (by omega) (by omega)]; omega
      have g2 : ltInt (R'.length : Int) ((R'.length + 1 : Nat) : Int) = true := decide_eq_true (by omega)
      have g3 : leInt (R'.length : Int) ((R'.length + 1 : Nat) : Int) = true := decide_eq_true (by omega)
      have g4 : h4[R'.length]? = some x.cells := by
        have : (h4.take (R'.length + 1))[R'.length]? = some x.cells := by
          rw [ht, rowsT_get]; simp
        rwa [List.getElem?_take, if_pos (by omega)] at this
      have g5 : h4.take R'.length = rowsT R' := by
        have : (h4.take (R'.length + 1)).take R'.length = rowsT R' := by
          rw [ht, rowsT_append]
          exact List.take_left' (rowsT_length R')
        rwa [List.take_take, Nat.min_eq_left (by omega)] at this
      have g6 : Nat.ble (0 + R'.length) h4.length = true := by rw [Nat.ble_eq]; omega
      rw [g0, g1, leInt_zero, g2, g3, get?Internal_eq, Int.toNat_natCast, Nat.zero_add, g4, Nat.sub_zero]
      simp only [cond_true, Bool.and_self, kOptSome, length_cells, take_cells, kTmC_cells, ble44, rowsT_length, g5, rowsOk_of_cells]
      have push : (x.kind = 7 ∨ x.kind = 9) → Gets (wk57_0a (R'.length + x.subs.length) p.kind p.num p.str (rowsT p.subs) [s] p.kind p.num p.str (rowsT p.subs) (List.append (rowsT R') (rowsT x.subs))) (· = varsV fun i => q i || (R' ++ [x]).any (varIn (i : Nat))) := by
        intro hk
        have hl := len_wL x.subs
        have h := ih (R' ++ x.subs) (rowsT (R' ++ x.subs)) s q (by rw [wL_append]; omega) (by omega) (by rw [rowsT_length]; exact Nat.le_refl _) (List.take_of_length_le (by simp)) hs hs2
        rw [List.length_append] at h
        rw [show List.append (rowsT R') (rowsT x.subs) = rowsT (R' ++ x.subs) from (rowsT_append _ _).symm]
        refine Gets.mono h ?_
        rintro _ rfl
        apply congrArg varsV
        funext i
        rw [List.any_append, List.any_append, List.any_cons, List.any_nil, Bool.or_false, varIn_eq _ x, if_pos hk]
      have drop : (¬ (x.kind = 7 ∨ x.kind = 9)) → ¬ (x.kind = 2 ∧ (varG x.str).isSome) → Gets (wk57_0a R'.length p.kind p.num p.str (rowsT p.subs) [s] p.kind p.num p.str (rowsT p.subs) h4) (· = varsV fun i => q i || (R' ++ [x]).any (varIn (i : Nat))) := by
        intro hk hv
        refine Gets.mono (ih R' h4 s q (by omega) (by omega) (by omega) g5 hs hs2) ?_
        rintro _ rfl
        apply congrArg varsV
        funext i
        have : varIn (i : Nat) x = false := by
          rw [varIn_eq, if_neg hk]
          by_cases h2 : x.kind = 2
          · rw [decide_eq_true h2, Bool.true_and, decide_eq_false]
            intro h
            exact hv ⟨h2, by rw [h]; rfl⟩
          · rw [decide_eq_false h2, Bool.false_and]
        rw [List.any_append, List.any_cons, List.any_nil, this, Bool.or_false, Bool.or_false]
      rw [beqI, beqI, beqI, patNumber_ev, g6]
      by_cases h7 : x.kind = 7
      · rw [decide_eq_true h7]
        simp only [cond_true, Bool.true_and, fits56 (show R'.length + x.subs.length ≤ 1099511627776 by have := len_wL x.subs; omega)]
        exact push (.inl h7)
      rw [decide_eq_false h7, cond_false]
      by_cases h9 : x.kind = 9
      · rw [decide_eq_true h9]
        simp only [cond_true, Bool.true_and, fits56 (show R'.length + x.subs.length ≤ 1099511627776 by have := len_wL x.subs; omega)]
        exact push (.inr h9)
      rw [decide_eq_false h9, cond_false]
      have hk : ¬ (x.kind = 7 ∨ x.kind = 9) := by omega
      unfold varR
      simp only [kOptSome, kTup, kCons, kInt_int, kBool_bool, kNil]
      cases hv : varG x.str with
      | none =>
        rw [hv] at drop
        exact drop hk (by simp)
      | some v =>
        by_cases h2 : x.kind = 2
        · rw [decide_eq_true h2]
          obtain ⟨hv0, hv9⟩ := varG_in hv
          obtain ⟨m, rfl⟩ : ∃ m : Nat, v = m := ⟨v.toNat, by omega⟩
          obtain ⟨r', hr1, hr2, hr3, hr4, hr5⟩ := setAdd2_ev hs (n := m) (by omega)
          simp only [Option.getD_some, Option.isSome_some, cond_true, hr1, kOptSome, kMUnit]
          refine Gets.mono (ih R' h4 r' _ (by omega) (by omega) (by omega) g5 hr2 (by rw [hr4]; exact hs2)) ?_
          rintro _ rfl
          apply congrArg varsV
          funext i
          have : varIn (i : Nat) x = decide (i = m) := by
            rw [varIn_eq, if_neg hk, decide_eq_true h2, Bool.true_and, hv]
            exact decide_eq_decide.2 ⟨fun h => by cases h; rfl, fun h => by rw [h]⟩
          rw [List.any_append, List.any_cons, List.any_nil, this, Bool.or_false]
          cases q i <;> cases decide (i = m) <;> cases R'.any (varIn (i : Nat)) <;> rfl
        · rw [decide_eq_false h2]
          exact drop hk (fun h => h2 h.1)
theorem vars_loop {p : Tm} : ∀ (n : Nat) (R : List Tm) (h4 : List (List AV)) , wL R ≤ n → n < 1099511627776 → R.length ≤ h4.length → h4.take R.length = rowsT R → 
    Gets (wk57_0 R.length p.kind p.num p.str (rowsT p.subs) 0 0 p.kind p.num p.str (rowsT p.subs) h4) (· = varsV fun i => R.any (varIn (i : Nat))) := by
  intro n
  induction n with
  | zero =>
    intro R h4  hw hn hl ht 
    have hR : R = [] := by
      cases R with
      | nil => rfl
      | cons x l => rw [wL_cons] at hw; have := w_pos x; omega
    subst hR
    refine wk57_0_step _ _ _ _ _ _ _ _ _ _ _ _ ?_
    have : decide (((([] : List Tm).length : Nat) : Int) > 0) = false := rfl
    rw [this, cond_false]
    exact vars_end0
  | succ n ih =>
    intro R h4  hw hn hl ht 
    rcases List.eq_nil_or_concat R with rfl | ⟨R', x, hR⟩
    · refine wk57_0_step _ _ _ _ _ _ _ _ _ _ _ _ ?_
      have : decide (((([] : List Tm).length : Nat) : Int) > 0) = false := rfl
      rw [this, cond_false]
      exact vars_end0
    · obtain rfl : R = R' ++ [x] := by rw [hR]; simp
      clear hR
      rw [wL_append, wL_cons, wL_nil] at hw
      have hx := w_pos x
      have hwe := x.w_eq
      have hRl := len_wL R'
      rw [List.length_append, List.length_singleton] at hl ht ⊢
      refine wk57_0_step _ _ _ _ _ _ _ _ _ _ _ _ ?_
      have g0 : decide (((R'.length + 1 : Nat) : Int) > 0) = true := decide_eq_true (by omega)
      have g1 : IntKind.wrap .i64 (((R'.length + 1 : Nat) : Int) - 1) = (R'.length : Int) := by rw [wrap64 (by omega) (by omega)]; omega
      have g2 : ltInt (R'.length : Int) ((R'.length + 1 : Nat) : Int) = true := decide_eq_true (by omega)
      have g3 : leInt (R'.length : Int) ((R'.length + 1 : Nat) : Int) = true := decide_eq_true (by omega)
      have g4 : h4[R'.length]? = some x.cells := by
        have : (h4.take (R'.length + 1))[R'.length]? = some x.cells := by
          rw [ht, rowsT_get]; simp
        rwa [List.getElem?_take, if_pos (by omega)] at this
      have g5 : h4.take R'.length = rowsT R' := by
        have : (h4.take (R'.length + 1)).take R'.length = rowsT R' := by
          rw [ht, rowsT_append]
          exact List.take_left' (rowsT_length R')
        rwa [List.take_take, Nat.min_eq_left (by omega)] at this
      have g6 : Nat.ble (0 + R'.length) h4.length = true := by rw [Nat.ble_eq]; omega
      rw [g0, g1, leInt_zero, g2, g3, get?Internal_eq, Int.toNat_natCast, Nat.zero_add, g4, Nat.sub_zero]
      simp only [cond_true, Bool.and_self, kOptSome, length_cells, take_cells, kTmC_cells, ble44, rowsT_length, g5, rowsOk_of_cells]
      have push : (x.kind = 7 ∨ x.kind = 9) → Gets (wk57_0 (R'.length + x.subs.length) p.kind p.num p.str (rowsT p.subs) 0 0 p.kind p.num p.str (rowsT p.subs) (List.append (rowsT R') (rowsT x.subs))) (· = varsV fun i => (R' ++ [x]).any (varIn (i : Nat))) := by
        intro hk
        have hl := len_wL x.subs
        have h := ih (R' ++ x.subs) (rowsT (R' ++ x.subs))  (by rw [wL_append]; omega) (by omega) (by rw [rowsT_length]; exact Nat.le_refl _) (List.take_of_length_le (by simp)) 
        rw [List.length_append] at h
        rw [show List.append (rowsT R') (rowsT x.subs) = rowsT (R' ++ x.subs) from (rowsT_append _ _).symm]
        refine Gets.mono h ?_
        rintro _ rfl
        apply congrArg varsV
        funext i
        rw [List.any_append, List.any_append, List.any_cons, List.any_nil, Bool.or_false, varIn_eq _ x, if_pos hk]
      have drop : (¬ (x.kind = 7 ∨ x.kind = 9)) → ¬ (x.kind = 2 ∧ (varG x.str).isSome) → Gets (wk57_0 R'.length p.kind p.num p.str (rowsT p.subs) 0 0 p.kind p.num p.str (rowsT p.subs) h4) (· = varsV fun i => (R' ++ [x]).any (varIn (i : Nat))) := by
        intro hk hv
        refine Gets.mono (ih R' h4  (by omega) (by omega) (by omega) g5 ) ?_
        rintro _ rfl
        apply congrArg varsV
        funext i
        have : varIn (i : Nat) x = false := by
          rw [varIn_eq, if_neg hk]
          by_cases h2 : x.kind = 2
          · rw [decide_eq_true h2, Bool.true_and, decide_eq_false]
            intro h
            exact hv ⟨h2, by rw [h]; rfl⟩
          · rw [decide_eq_false h2, Bool.false_and]
        rw [List.any_append, List.any_cons, List.any_nil, this, Bool.or_false, Bool.or_false]
      rw [beqI, beqI, beqI, patNumber_ev, g6]
      by_cases h7 : x.kind = 7
      · rw [decide_eq_true h7]
        simp only [cond_true, Bool.true_and, fits56 (show R'.length + x.subs.length ≤ 1099511627776 by have := len_wL x.subs; omega)]
        exact push (.inl h7)
      rw [decide_eq_false h7, cond_false]
      by_cases h9 : x.kind = 9
      · rw [decide_eq_true h9]
        simp only [cond_true, Bool.true_and, fits56 (show R'.length + x.subs.length ≤ 1099511627776 by have := len_wL x.subs; omega)]
        exact push (.inr h9)
      rw [decide_eq_false h9, cond_false]
      have hk : ¬ (x.kind = 7 ∨ x.kind = 9) := by omega
      unfold varR
      simp only [kOptSome, kTup, kCons, kInt_int, kBool_bool, kNil]
      cases hv : varG x.str with
      | none =>
        rw [hv] at drop
        exact drop hk (by simp)
      | some v =>
        by_cases h2 : x.kind = 2
        · rw [decide_eq_true h2]
          obtain ⟨hv0, hv9⟩ := varG_in hv
          obtain ⟨m, rfl⟩ : ∃ m : Nat, v = m := ⟨v.toNat, by omega⟩
          obtain ⟨r', hr1, hr2, hr3, hr4, hr5⟩ := setAdd2_ev setZero (n := m) (by omega)
          simp only [Option.getD_some, Option.isSome_some, cond_true, hr1, kOptSome, kMUnit]
          refine Gets.mono (vars_loopa n R' h4 r' _ (by omega) (by omega) (by omega) g5 hr2 (by rw [hr4]; rfl)) ?_
          rintro _ rfl
          apply congrArg varsV
          funext i
          have : varIn (i : Nat) x = decide (i = m) := by
            rw [varIn_eq, if_neg hk, decide_eq_true h2, Bool.true_and, hv]
            exact decide_eq_decide.2 ⟨fun h => by cases h; rfl, fun h => by rw [h]⟩
          rw [List.any_append, List.any_cons, List.any_nil, this, Bool.or_false]
          cases decide (i = m) <;> cases R'.any (varIn (i : Nat)) <;> rfl
        · rw [decide_eq_false h2]
          exact drop hk (fun h => h2 h.1)
theorem patVars_ev {t : Tm} (h : t.w < 1099511627776) : EVf (EV cfg) 136 [t.av] = some (.sl (intsR (varsG t))) := by
  have hm := patMay_ev h
  apply Gets.get
  rw [Tm.av, Tm.cells_eq] at hm ⊢
  refine patVars_run _ _ _ _ ?_
  rw [hm]
  simp only [kOptSome, kBool_bool]
  unfold varsG
  by_cases hc : t.chk = 0
  · rw [decide_eq_true hc, if_pos hc]
    have hl := vars_loop (p := t) t.w [t] [t.cells] (by rw [wL_cons, wL_nil]; exact Nat.le_refl _) h (Nat.le_refl _) rfl
    rw [Tm.cells_eq] at hl
    refine Gets.mono hl ?_
    rintro _ rfl
    unfold varsV
    have : (fun i : Nat => [t].any (varIn (i : Nat))) = fun i : Nat => varIn (i : Nat) t := by funext i; simp
    rw [this]
  · rw [decide_eq_false hc, if_neg hc]
    exact ⟨_, rfl, rfl⟩
end Go.Proofs.YteojjjhhmbogfaaGreat
end

section
namespace Go.Proofs.YteojjjhhmbogfaaGreat
open Go.Av
set_option maxRecDepth 100000
set_option maxHeartbeats 0

noncomputable def Lq34_0 : Den := evC cfg (EV cfg) 42 none 0 (sub (bodyOf Tryz.f42) [1, 0, 1, 1, 0, 0, 0])
noncomputable def Aq34_0 : Ex × List AV × AH → Option AV := kAft (Cfg.keepOut cfg 42 2) (kRun cfg (EV cfg) (kfN cfg 6) 42 none 0 (kFinS cfg (Cfg.lift cfg 42 0) Tryz.f42.results.toList) ([.block 0, .seq (sub (bodyOf Tryz.f42) [1, 0, 1, 1, 1]), .scope]))
noncomputable def Wq34_0 : List AV × AH → Option AV := fun p => kOpt (LOOP 0 (some [5]) ([(5, 8)]) Lq34_0 p) Aq34_0
noncomputable def Lq34_1 : Den := evC cfg (EV cfg) 42 none 0 (sub (bodyOf Tryz.f42) [1, 0, 1, 1, 0, 0, 0, 1, 0, 1, 1, 1, 1, 1, 0, 0])
noncomputable def Aq34_1 : Ex × List AV × AH → Option AV := kAft (Cfg.keepOut cfg 42 9) (kRun cfg (EV cfg) (kfN cfg 6) 42 none 0 (kLp 0 (some [5]) ([(5, 8)]) Lq34_0 Aq34_0) ([.block 2, .block 1]))
noncomputable def Wq34_1 : List AV × AH → Option AV := fun p => kOpt (LOOP 0 (some [5, 6, 70, 71]) ([(5, 8)]) Lq34_1 p) Aq34_1
noncomputable abbrev wq34_0 (nv5 : Nat) (h0 : List (List AV)) : Option (AV) := Wq34_0  (((fx 91 [(5, AV.ms (0 : Nat) (0 : Nat) nv5)]) : List AV), ([ABlk.rows true (8 : Nat) h0] : AH))
noncomputable abbrev wq34_1 (rows : List (List AV)) (nv5 : Nat) (v71 : Int) (h0 : List (List AV)) (c1_0 : Int) (c1_1 : Int) (c1_2 : List UInt8) (c1_3 : List (List AV)) (c1_4 : Int) (c1_5 : Int) (c1_6 : List UInt8) (c1_7 : List (List AV)) : Option (AV) := Wq34_1  (((fx 91 [(5, AV.ms (0 : Nat) (0 : Nat) nv5), (6, AV.ptr (1 : Nat) (0 : Nat) (0 : Nat)), (70, AV.int IntKind.i64 (↑(List.length rows) : Int)), (71, AV.int IntKind.i64 v71)]) : List AV), ([ABlk.rows true (8 : Nat) h0, ABlk.rows false (8 : Nat) [[AV.int IntKind.i64 c1_0, AV.int IntKind.i64 c1_1, AV.str c1_2, AV.sl c1_3, AV.int IntKind.i64 c1_4, AV.int IntKind.i64 c1_5, AV.str c1_6, AV.sl c1_7]]] : AH))
theorem term_Same_run (ka : Int) (na : Int) (sa : List UInt8) (la : List (List AV)) (kb : Int) (nb : Int) (sb : List UInt8) (lb : List (List AV)) {P : AV → Prop} (h : Gets (wq34_0 1 [[.int .i64 ka, .int .i64 na, .str sa, .sl la, .int .i64 kb, .int .i64 nb, .str sb, .sl lb]]) P) : Gets (EVs (EV cfg) 42 ([AV.agg [AV.int IntKind.i64 ka, AV.int IntKind.i64 na, AV.str sa, AV.sl la], AV.agg [AV.int IntKind.i64 kb, AV.int IntKind.i64 nb, AV.str sb, AV.sl lb]] : List AV)) P :=
  Gets.ev (fun _ h => funS rfl rfl Tryz.func42 rfl h) (Gets.eq (by kernel_rfl) h)
theorem wq34_0_step (nv5 : Nat) (h0 : List (List AV)) {P : AV → Prop} (h : Gets (bif decide ((↑nv5 : Int) > (0 : Int)) then bif leInt (0 : Int) (IntKind.wrap .i64 ((↑nv5 : Int) - (1 : Int))) && ltInt (IntKind.wrap .i64 ((↑nv5 : Int) - (1 : Int))) (↑nv5 : Int) then 
  kOpt (List.get?Internal h0 (0 + Int.toNat (IntKind.wrap .i64 ((↑nv5 : Int) - (1 : Int))))) fun (row : List AV) => bif Nat.ble 8 (List.length row) then kCons (List.take 8 row) fun (c 
  : AV) (cs : List AV) => kInt .i64 c fun (n : Int) => kCons cs fun (c : AV) (cs : List AV) => kInt .i64 c fun (n_1 : Int) => kCons cs fun (c : AV) (cs : List AV) => kStr c fun (s : List 
  UInt8) => kCons cs fun (c : AV) (cs : List AV) => kSl c fun (rows : List (List AV)) => kTmC cs fun (n_2 n_3 : Int) (s_1 : List UInt8) (rows_1 : List (List AV)) => (bif leInt (0 : Int) 
  (IntKind.wrap .i64 ((↑nv5 : Int) - (1 : Int))) && leInt (IntKind.wrap .i64 ((↑nv5 : Int) - (1 : Int))) (↑nv5 : Int) then bif n != n_2 then some (.bool false) else bif n_1 != n_3 then 
  some (.bool false) else bif !s == s_1 then some (.bool false) else bif (↑(List.length rows) : Int) != (↑(List.length rows_1) : Int) then some (.bool false) else bif (↑(List.length rows) 
  : Int) == (0 : Int) then wq34_0 (Int.toNat (IntKind.wrap .i64 ((↑nv5 : Int) - (1 : Int))) - 0) h0 else wq34_1 rows (Int.toNat (IntKind.wrap .i64 ((↑nv5 : Int) - (1 : Int))) - 0) (0 
  : Int) h0 n n_1 s rows n_2 n_3 s_1 rows_1 else none) else none else none else some (.bool true)) P) : Gets (wq34_0 nv5 h0) P :=
  Gets.ev (fun _ h => loop_step (cfg := cfg) (f := 42) (rd := none) (bs := 0) h) (Gets.eq (by kernel_rfl) h)
theorem wq34_1_step (rows : List (List AV)) (nv5 : Nat) (v71 : Int) (h0 : List (List AV)) (c1_0 : Int) (c1_1 : Int) (c1_2 : List UInt8) (c1_3 : List (List AV)) (c1_4 : Int) (c1_5 : Int) (c1_6 : List UInt8) (c1_7 : List (List AV)) {P : AV → Prop} (h : Gets (bif decide (v71 < (↑(List.length rows) : Int)) then bif leInt (0 : Int) v71 && ltInt v71 (↑(List.length c1_3) : Int) then kOpt (List.get?Internal c1_3 (Int.toNat v71)) fun (row : List 
  AV) => bif Nat.beq (List.length row) 4 then bif Nat.ble 4 (List.length row) then kTmC (List.take 4 row) fun (n n_1 : Int) (s : List UInt8) (rows_1 : List (List AV)) => (bif leInt (0 
  : Int) v71 && ltInt v71 (↑(List.length c1_7) : Int) then kOpt (List.get?Internal c1_7 (Int.toNat v71)) fun (row : List AV) => bif Nat.beq (List.length row) 4 then bif Nat.ble 4 (List.length 
  row) then kTmC (List.take 4 row) fun (n_2 n_3 : Int) (s_1 : List UInt8) (rows_2 : List (List AV)) => (bif Nat.ble (0 + nv5) (List.length h0) && fitsIn (nv5 + 1) 112 then wq34_1 rows 
  (nv5 + 1) (IntKind.wrap .i64 (v71 + (1 : Int))) (List.append (List.take nv5 h0) [[.int .i64 n, .int .i64 n_1, .str s, .sl rows_1, .int .i64 n_2, .int .i64 n_3, .str s_1, .sl rows_2]]) 
  c1_0 c1_1 c1_2 c1_3 c1_4 c1_5 c1_6 c1_7 else none) else none else none else none) else none else none else none else wq34_0 nv5 h0) P) : Gets (wq34_1 rows nv5 v71 h0 c1_0 c1_1 c1_2 c1_3 c1_4 c1_5 c1_6 c1_7) P :=
  Gets.ev (fun _ h => loop_step (cfg := cfg) (f := 42) (rd := none) (bs := 0) h) (Gets.eq (by kernel_rfl) h)
end Go.Proofs.YteojjjhhmbogfaaGreat
end

section
namespace Go.Av
def pairsR (R : List (Tm × Tm)) : List (List AV) := R.map fun p => p.1.cells ++ p.2.cells
theorem pairsR_len (R : List (Tm × Tm)) : (pairsR R).length = R.length := by simp [pairsR]
theorem pairsR_append (R S : List (Tm × Tm)) : pairsR (R ++ S) = pairsR R ++ pairsR S := by simp [pairsR]
theorem pairsR_get (R : List (Tm × Tm)) (i : Nat) : (pairsR R)[i]? = (R[i]?).map fun p => p.1.cells ++ p.2.cells := by simp [pairsR]
theorem zip_eq : ∀ (a b : List Tm), a.length = b.length → ((∀ p ∈ a.zip b, p.1 = p.2) ↔ a = b)
  | [], [], _ => by simp
  | x :: a, y :: b, h => by
    have := zip_eq a b (by simpa using h)
    simp only [List.zip_cons_cons, List.mem_cons, forall_eq_or_imp, List.cons.injEq, this]
  | [], _ :: _, h => by simp at h
  | _ :: _, [], h => by simp at h
end Go.Av
namespace Go.Proofs.YteojjjhhmbogfaaGreat
open Go.Av

theorem fits112 {n : Nat} (h : n ≤ 1099511627776) : fitsIn n 112 = true := by
  unfold fitsIn
  rw [Bool.and_eq_true, Nat.ble_eq, Nat.ble_eq]
  omega

theorem same_push {x y : Tm} (hxy : x.subs.length = y.subs.length) (hx : x.subs.length < 1099511627776) {P : AV → Prop} : ∀ (d i : Nat) (R : List (Tm × Tm)) (Z : List (List AV)), i + d = x.subs.length → R.length + d < 1099511627776 → (d = 0 → Z = []) →
    Gets (wq34_0 (R ++ (x.subs.zip y.subs).drop i).length (pairsR (R ++ (x.subs.zip y.subs).drop i))) P →
    Gets (wq34_1 (rowsT x.subs) R.length i (pairsR R ++ Z) x.kind x.num x.str (rowsT x.subs) y.kind y.num y.str (rowsT y.subs)) P
  | 0, i, R, Z, hi, _, hz, h => by
    refine wq34_1_step _ _ _ _ _ _ _ _ _ _ _ _ ?_
    obtain rfl := hz rfl
    rw [List.drop_eq_nil_of_le (by simp; omega)] at h
    simp at h
    have : ¬ i < x.subs.length := by omega
    simpa [this] using h
  | d + 1, i, R, Z, hi, hR, _, h => by
    refine wq34_1_step _ _ _ _ _ _ _ _ _ _ _ _ ?_
    have h1 : i < x.subs.length := by omega
    have h2 : i < y.subs.length := by omega
    have hzl : i < (x.subs.zip y.subs).length := by simp; omega
    have hd : (x.subs.zip y.subs).drop i = (x.subs[i], y.subs[i]) :: (x.subs.zip y.subs).drop (i + 1) := by
      rw [List.drop_eq_getElem_cons hzl, List.getElem_zip]
    have ih := same_push hxy hx (P := P) d (i + 1) (R ++ [(x.subs[i], y.subs[i])]) [] (by omega) (by simp; omega) (fun _ => rfl) (by
      rw [hd] at h
      simpa using h)
    have ht : List.take R.length (pairsR R ++ Z) = pairsR R := by rw [List.take_append_of_le_length (by rw [pairsR_len]; exact Nat.le_refl _), List.take_of_length_le (by rw [pairsR_len]; exact Nat.le_refl _)]
    have hp : pairsR (R ++ [(x.subs[i], y.subs[i])]) = pairsR R ++ [x.subs[i].cells ++ y.subs[i].cells] := by rw [pairsR_append]; rfl
    have hw := wrap_s h1 hx
    rw [List.append_nil, hp] at ih
    simp [h1, h2, hw, fits112 (show R.length + 1 ≤ 1099511627776 by omega), ht, pairsR_len] at ih ⊢
    rw [Tm.cells_eq x.subs[i]] at ih
    exact ih

theorem same_m : ∀ (n : Nat) (R : List (Tm × Tm)) (Z : List (List AV)), wL (R.map Prod.fst) ≤ n → n < 1099511627776 →
    Gets (wq34_0 R.length (pairsR R ++ Z)) (Tells (∀ p ∈ R, p.1 = p.2)) := by
  intro n
  induction n with
  | zero =>
    intro R Z hn _
    have : R = [] := by
      have := wL_len (R.map Prod.fst)
      exact List.length_eq_zero_iff.1 (by simp at this; omega)
    subst this
    refine wq34_0_step _ _ ?_
    simp [tells_bool]
  | succ n ih =>
    intro R Z hn hN
    rcases List.eq_nil_or_concat R with rfl | ⟨R0, p, rfl⟩
    · refine wq34_0_step _ _ ?_
      simp [tells_bool]
    · rw [List.concat_eq_append] at *
      obtain ⟨x, y⟩ := p
      have hwx := x.w_eq
      simp only [List.map_append, List.map_cons, List.map_nil, wL_append, wL_cons, wL_nil] at hn
      have hl0 := wL_len (R0.map Prod.fst)
      rw [List.length_map] at hl0
      have hls := wL_len x.subs
      refine wq34_0_step _ _ ?_
      have e1 : (R0 ++ [(x, y)]).length = R0.length + 1 := by simp
      have hw1 : IntKind.wrap .i64 (R0.length : Int) = R0.length := wrapN (by omega)
      have g : (pairsR (R0 ++ [(x, y)]) ++ Z)[R0.length]? = some (.int .i64 x.kind :: .int .i64 x.num :: .str x.str :: .sl (rowsT x.subs) :: y.cells) := by
        rw [List.getElem?_append_left (by rw [pairsR_len]; simp), pairsR_get]; simp; rw [Tm.cells_eq x]; rfl
      have e3 : pairsR (R0 ++ [(x, y)]) ++ Z = pairsR R0 ++ ((x.cells ++ y.cells) :: Z) := by rw [pairsR_append, List.append_assoc]; rfl
      have hq : (∀ p ∈ R0 ++ [(x, y)], p.1 = p.2) ↔ ((∀ p ∈ R0, p.1 = p.2) ∧ x = y) := by simp [or_imp, forall_and]
      have hxy : x = y ↔ (x.kind = y.kind ∧ x.num = y.num ∧ x.str = y.str ∧ x.subs = y.subs) := by
        constructor
        · rintro rfl; exact ⟨rfl, rfl, rfl, rfl⟩
        · rintro ⟨h1, h2, h3, h4⟩; rw [← Tm.eta x, ← Tm.eta y, h1, h2, h3, h4]
      rw [propext hq]
      have hno : ¬ (x.kind = y.kind ∧ x.num = y.num ∧ x.str = y.str ∧ x.subs = y.subs) → Tells ((∀ p ∈ R0, p.1 = p.2) ∧ x = y) (.bool false) := fun h => tells_bool.2 ⟨fun e => (by cases e), fun h' => absurd (hxy.1 h'.2) h⟩
      simp only [e3] at g ⊢
      simp [e1, hw1, g]
      by_cases h1 : x.kind = y.kind
      · by_cases h2 : x.num = y.num
        · by_cases h3 : x.str = y.str
          · by_cases h4 : x.subs.length = y.subs.length
            · have hsub : (∀ p ∈ x.subs.zip y.subs, p.1 = p.2) ↔ x = y := by
                rw [zip_eq _ _ h4, hxy]; simp [h1, h2, h3]
              have c1 : (x.kind != y.kind) = false := by simp [h1]
              have c2 : (x.num != y.num) = false := by simp [h2]
              have c3 : (x.str == y.str) = true := by simp [h3]
              have c4 : ((x.subs.length : Int) != (y.subs.length : Int)) = false := by simp [h4]
              have eall : (∀ (a b : Tm), (a, b) ∈ R0 → a = b) ↔ (∀ p ∈ R0, p.1 = p.2) := ⟨fun h p hp => h p.1 p.2 hp, fun h a b hp => h (a, b) hp⟩
              rw [c1, c2, c3, c4]
              simp only [cond_false, cond_true]
              rcases Nat.eq_zero_or_pos x.subs.length with hz | hp
              · have hr := ih R0 ((x.cells ++ y.cells) :: Z) (by omega) (by omega)
                have hx0 : x.subs = [] := List.length_eq_zero_iff.1 hz
                have hxy' : x = y := hsub.1 (by rw [hx0]; simp)
                have c5 : ((x.subs.length : Int) == 0) = true := by simp [hz]
                rw [c5, propext (show ((∀ (a b : Tm), (a, b) ∈ R0 → a = b) ∧ x = y) ↔ (∀ p ∈ R0, p.1 = p.2) from ⟨fun h => eall.1 h.1, fun h => ⟨eall.2 h, hxy'⟩⟩)]
                exact hr
              · have c5 : ((x.subs.length : Int) == 0) = false := by rw [beqD]; exact decide_eq_false (by omega)
                rw [c5]
                simp only [cond_false]
                have hm : (R0 ++ x.subs.zip y.subs).map Prod.fst = R0.map Prod.fst ++ x.subs := by rw [List.map_append, List.map_fst_zip (by omega)]
                have hr := ih (R0 ++ x.subs.zip y.subs) [] (by rw [hm, wL_append]; omega) (by omega)
                rw [List.append_nil] at hr
                have hP : (∀ p ∈ R0 ++ x.subs.zip y.subs, p.1 = p.2) ↔ ((∀ (a b : Tm), (a, b) ∈ R0 → a = b) ∧ x = y) := by
                  rw [← hsub, eall]; simp only [List.mem_append, or_imp, forall_and]
                rw [propext hP] at hr
                exact same_push h4 (by omega) x.subs.length 0 R0 _ (by omega) (by omega) (fun h => by omega) (by rw [List.drop_zero]; exact hr)
            · have h4' : ¬ ((x.subs.length : Int) = (y.subs.length : Int)) := by omega
              simp [h1, h2, h3, h4', bneD]
              simpa using hno fun h => h4 (by rw [h.2.2.2])
          · have h3' : (x.str == y.str) = false := by simpa using h3
            simp [h1, h2, h3', bneD]
            simpa using hno fun h => h3 h.2.2.1
        · simp [h1, h2, bneD]
          simpa using hno fun h => h2 h.2.1
      · simp [h1, bneD]
        simpa using hno fun h => h1 h.1

theorem same_ev {a : Tm} (h : a.w < 1099511627776) (b : Tm) : Gets (EVs (EV cfg) 42 [a.av, b.av]) (Tells (a = b)) := by
  have := same_m _ [(a, b)] [] (Nat.le_refl _) (by simpa using h)
  rw [List.append_nil] at this
  rw [Tm.av, Tm.av, Tm.cells_eq a, Tm.cells_eq b]
  refine term_Same_run _ _ _ _ _ _ _ _ ?_
  have e : pairsR [(a, b)] = [[AV.int .i64 a.kind, .int .i64 a.num, .str a.str, .sl (rowsT a.subs), .int .i64 b.kind, .int .i64 b.num, .str b.str, .sl (rowsT b.subs)]] := by
    simp only [pairsR, List.map_cons, List.map_nil, Tm.cells_eq]; rfl
  have e2 : (∀ p ∈ [(a, b)], p.1 = p.2) ↔ a = b := by simp
  rw [e, propext e2] at this
  exact this
end Go.Proofs.YteojjjhhmbogfaaGreat
end

section
namespace Go.Av
theorem rowsT_at' {l : List Tm} {i : Nat} {t : Tm} (h : l[i]? = some t) : List.get?Internal (rowsT l) (Int.toNat (i : Int)) = some t.cells := by
  rw [get?Internal_eq, Int.toNat_natCast, rowsT_get, h]; rfl
def MOut (o : Option (List (Int × Tm))) (b : Bool) (r : List AV) : Prop := match o with
  | some m => b = true ∧ BRow m r ∧ ∀ q ∈ m, q.2.chk = 0
  | none => b = false
def QM (o : Option (List (Int × Tm))) (q : MV × List (List AV)) : Prop := ∃ b r, q = (MV.bool b, [r]) ∧ MOut o b r
theorem QM.same {p t : Tm} {m : List (Int × Tm)} {r : List AV} (h : BRow m r) (hm : ∀ q ∈ m, q.2.chk = 0) : QM (if p = t then some m else none) (MV.bool (decide (p = t)), [r]) := by
  refine ⟨_, r, rfl, ?_⟩
  by_cases h1 : p = t
  · rw [if_pos h1, decide_eq_true h1]; exact ⟨rfl, h, hm⟩
  · rw [if_neg h1, decide_eq_false h1]; exact rfl
end Go.Av
namespace Go.Proofs.YteojjjhhmbogfaaGreat
open Go.Av
set_option maxRecDepth 100000
theorem same_dec {a b : Tm} (h : a.w < 1099511627776) : EVs (EV cfg) 42 [a.av, b.av] = some (.bool (decide (a = b))) := by
  obtain ⟨v, h1, c, rfl, h2⟩ := same_ev h b
  rw [h1]
  congr 2
  by_cases hab : a = b
  · rw [decide_eq_true hab, h2.2 hab]
  · rw [decide_eq_false hab]
    cases c with
    | false => rfl
    | true => exact absurd (h2.1 rfl) hab
end Go.Proofs.YteojjjhhmbogfaaGreat
end

section
namespace Go.Proofs.YteojjjhhmbogfaaGreat
open Go.Av
set_option maxRecDepth 100000
set_option maxHeartbeats 0

noncomputable def Lf28_0 : Den := evC cfg (EV cfg) 134 none 10 (sub (bodyOf Tryz.f134) [0, 0, 0])
noncomputable def Af28_0 : Ex × List AV × AH → Option (OV × AV) := kAft (Cfg.keepOut cfg 134 (firstRid (sub (bodyOf Tryz.f134) [0, 0, 0]))) (kBlock 0 (kSeq (fun (fr : List AV) (H : AH) => kCutTo (Cfg.cut cfg 134 (firstRid (sub (bodyOf Tryz.f134) [1]))) fr H fun (fr : List AV) (H : AH) => kCode cfg (EV cfg) (kfN cfg (5)) 55 none 10 (sub (bodyOf Tryz.f134) [1]) fr H (kFinG cfg (Cfg.lift cfg 134 0) (fun (v : AV) (H : AH) => (fun (r : AV × AH) => kRangeEnd 0 9 (fx 34 [(2, AV.ptr 1 0 0), (3, AV.ptr 2 0 0), (4, AV.ptr 3 0 0), (5, AV.ptr 4 0 0)]) (kBlock 0 (kSeq (fun (fr : List AV) (H : AH) => kCutTo (Cfg.cut cfg 72 (firstRid (sub (bodyOf Tryz.f72) [1, 1, 1, 1, 1]))) fr H fun (fr : List AV) (H : AH) => kCode cfg (EV cfg) (kfN cfg 6) 72 none 0 (sub (bodyOf Tryz.f72) [1, 1, 1, 1, 1]) fr H (kFinQ cfg (Cfg.lift cfg 72 0) (Array.toList (Func.results Tryz.f72)))) (kFinQ cfg (Cfg.lift cfg 72 0) (Array.toList (Func.results Tryz.f72))))) (Prod.snd r)) (v, H)) (Array.toList (Func.results (Prod.snd (134, Tryz.f134)))))) (kFinG cfg (Cfg.lift cfg 134 0) (fun (v : AV) (H : AH) => (fun (r : AV × AH) => kRangeEnd 0 9 (fx 34 [(2, AV.ptr 1 0 0), (3, AV.ptr 2 0 0), (4, AV.ptr 3 0 0), (5, AV.ptr 4 0 0)]) (kBlock 0 (kSeq (fun (fr : List AV) (H : AH) => kCutTo (Cfg.cut cfg 72 (firstRid (sub (bodyOf Tryz.f72) [1, 1, 1, 1, 1]))) fr H fun (fr : List AV) (H : AH) => kCode cfg (EV cfg) (kfN cfg 6) 72 none 0 (sub (bodyOf Tryz.f72) [1, 1, 1, 1, 1]) fr H (kFinQ cfg (Cfg.lift cfg 72 0) (Array.toList (Func.results Tryz.f72)))) (kFinQ cfg (Cfg.lift cfg 72 0) (Array.toList (Func.results Tryz.f72))))) (Prod.snd r)) (v, H)) (Array.toList (Func.results (Prod.snd (134, Tryz.f134)))))))
noncomputable def Wf28_0 : List AV × AH → Option (OV × AV) := fun (p : List AV × AH) => kOpt (LOOP 10 (some [0, 1, 2]) [] Lf28_0 p) Af28_0
noncomputable def Lf42_0 : Den := evC cfg (EV cfg) 107 none 0 (sub (bodyOf Tryz.f107) [1, 1, 1, 1, 1, 1, 1, 1, 0, 1, 0, 0])
noncomputable def Af42_0 : Ex × List AV × AH → Option AV := kAft (Cfg.keepOut cfg 107 11) (kRun cfg (EV cfg) (kfN cfg 6) 107 none 0 (kFinF cfg (Cfg.lift cfg 107 0) Tryz.f107.results.toList) ([.block 0, .seq (sub (bodyOf Tryz.f107) [1, 1, 1, 1, 1, 1, 1, 1, 1])]))
noncomputable def Wf42_0 : List AV × AH → Option AV := fun p => kOpt (LOOP 0 (some [2, 4, 5, 73, 74]) ([]) Lf42_0 p) Af42_0
noncomputable def Lf42_1 : Den := evC cfg (EV cfg) 107 none 0 (sub (bodyOf Tryz.f107) [1, 1, 1, 1, 1, 1, 1, 1, 0, 1, 0, 0, 1, 1, 0, 0, 1, 1, 0, 0])
noncomputable def Af42_1 : Ex × List AV × AH → Option AV := kAft (Cfg.keepOut cfg 107 14) (kRun cfg (EV cfg) (kfN cfg 6) 107 none 0 (kLp 0 (some [2, 4, 5, 73, 74]) ([]) Lf42_0 Af42_0) ([.block 2, .block 1, .seq (sub (bodyOf Tryz.f107) [1, 1, 1, 1, 1, 1, 1, 1, 0, 1, 0, 0, 1, 1, 1])]))
noncomputable def Wf42_1 : List AV × AH → Option AV := fun p => kOpt (LOOP 0 (some [2, 4, 5, 73, 74, 77, 78, 79]) ([]) Lf42_1 p) Af42_1
noncomputable abbrev wf28_0 (c0_0 : Int) (c0_1 : Int) (c0_2 : List UInt8) (c0_3 : List (List AV)) (nc1_0 : Nat) (c2_0 : Int) (nc3_0 : Nat) (c4_0 : Bool) (c5_0 : Int) (c5_1 : Int) (c5_2 : List UInt8) (c5_3 : List (List AV)) (h7 : List (List AV)) (h8 : List (List AV)) : Option (OV × AV) := Wf28_0  (((fx 23 [(0, AV.yld (9 : Nat)), (1, AV.ptr (5 : Nat) (0 : Nat) (0 : Nat)), (2, AV.ptr (6 : Nat) (0 : Nat) (0 : Nat))]) : List AV), ([ABlk.rows false (4 : Nat) [[AV.int IntKind.i64 c0_0, AV.int IntKind.i64 c0_1, AV.str c0_2, AV.sl c0_3]], ABlk.rows false (1 : Nat) [[AV.ms (7 : Nat) (0 : Nat) nc1_0]], ABlk.rows false (1 : Nat) [[AV.int IntKind.i64 c2_0]], ABlk.rows false (1 : Nat) [[AV.ms (8 : Nat) (0 : Nat) nc3_0]], ABlk.rows false (1 : Nat) [[AV.bool c4_0]], ABlk.rows false (4 : Nat) [[AV.int IntKind.i64 c5_0, AV.int IntKind.i64 c5_1, AV.str c5_2, AV.sl c5_3]], ABlk.rows false (1 : Nat) [[AV.ptr (4 : Nat) (0 : Nat) (0 : Nat)]], ABlk.rows true (6 : Nat) h7, ABlk.rows true (6 : Nat) h8, rngB Tryz.f72 (72 : Nat) [(1 : Nat), (1 : Nat), (1 : Nat), (1 : Nat), (0 : Nat), (1 : Nat), (0 : Nat)] (fx 34 [(2, AV.ptr (1 : Nat) (0 : Nat) (0 : Nat)), (3, AV.ptr (2 : Nat) (0 : Nat) (0 : Nat)), (4, AV.ptr (3 : Nat) (0 : Nat) (0 : Nat))]) none LoopState.ready] : AH))
noncomputable abbrev wf42_0 (n : Int) (n' : Int) (s : List UInt8) (rows : List (List AV)) (rows' : List (List AV)) (rows'' : List (List AV)) (rows''' : List (List AV)) : Option (AV) := Wf42_0  (((fx 91 [(2, AV.ptr (0 : Nat) (0 : Nat) (0 : Nat)), (4, AV.ptr (1 : Nat) (0 : Nat) (0 : Nat)), (5, AV.sl rows'), (73, AV.agg [AV.sl rows'', AV.sl rows''']), (74, AV.int IntKind.i64 (0 : Int))]) : List AV), ([ABlk.rows false (6 : Nat) [[AV.int IntKind.i64 (0 : Int), AV.int IntKind.i64 (0 : Int), AV.str [], AV.sl [], AV.sl [], AV.sl []]], ABlk.rows false (6 : Nat) [[AV.int IntKind.i64 n, AV.int IntKind.i64 n', AV.str s, AV.sl rows, AV.sl rows'', AV.sl rows''']]] : AH))
noncomputable abbrev wf28_0a (c0_0 : Int) (c0_1 : Int) (c0_2 : List UInt8) (c0_3 : List (List AV)) (nc1_0 : Nat) (c2_0 : Int) (nc3_0 : Nat) (c4_0 : Bool) (c5_0 : Int) (c5_1 : Int) (c5_2 : List UInt8) (c5_3 : List (List AV)) (h7 : List (List AV)) (h10 : List (List AV)) : Option (OV × AV) := Wf28_0  (((fx 23 [(0, AV.yld (9 : Nat)), (1, AV.ptr (5 : Nat) (0 : Nat) (0 : Nat)), (2, AV.ptr (6 : Nat) (0 : Nat) (0 : Nat))]) : List AV), ([ABlk.rows false (4 : Nat) [[AV.int IntKind.i64 c0_0, AV.int IntKind.i64 c0_1, AV.str c0_2, AV.sl c0_3]], ABlk.rows false (1 : Nat) [[AV.ms (7 : Nat) (0 : Nat) nc1_0]], ABlk.rows false (1 : Nat) [[AV.int IntKind.i64 c2_0]], ABlk.rows false (1 : Nat) [[AV.ms (10 : Nat) (0 : Nat) nc3_0]], ABlk.rows false (1 : Nat) [[AV.bool c4_0]], ABlk.rows false (4 : Nat) [[AV.int IntKind.i64 c5_0, AV.int IntKind.i64 c5_1, AV.str c5_2, AV.sl c5_3]], ABlk.rows false (1 : Nat) [[AV.ptr (4 : Nat) (0 : Nat) (0 : Nat)]], ABlk.rows true (6 : Nat) h7, ABlk.dead, rngB Tryz.f72 (72 : Nat) [(1 : Nat), (1 : Nat), (1 : Nat), (1 : Nat), (0 : Nat), (1 : Nat), (0 : Nat)] (fx 34 [(2, AV.ptr (1 : Nat) (0 : Nat) (0 : Nat)), (3, AV.ptr (2 : Nat) (0 : Nat) (0 : Nat)), (4, AV.ptr (3 : Nat) (0 : Nat) (0 : Nat))]) none LoopState.ready, ABlk.rows true (6 : Nat) h10] : AH))
noncomputable abbrev wf42_1 (rows' : List (List AV)) (rows'' : List (List AV)) (rows''' : List (List AV)) (v79 : Int) (c0_0 : Int) (c0_1 : Int) (c0_2 : List UInt8) (c0_3 : List (List AV)) (c0_4 : List (List AV)) (c0_5 : List (List AV)) (c1_0 : Int) (c1_1 : Int) (c1_2 : List UInt8) (c1_3 : List (List AV)) (c1_4 : List (List AV)) (c1_5 : List (List AV)) : Option (AV) := Wf42_1  (((fx 91 [(2, AV.ptr (0 : Nat) (0 : Nat) (0 : Nat)), (4, AV.ptr (1 : Nat) (0 : Nat) (0 : Nat)), (5, AV.sl rows'), (73, AV.agg [AV.sl rows'', AV.sl rows''']), (74, AV.int IntKind.i64 (0 : Int)), (77, AV.sl rows''), (78, AV.int IntKind.i64 (↑(List.length rows'') : Int)), (79, AV.int IntKind.i64 v79)]) : List AV), ([ABlk.rows false (6 : Nat) [[AV.int IntKind.i64 c0_0, AV.int IntKind.i64 c0_1, AV.str c0_2, AV.sl c0_3, AV.sl c0_4, AV.sl c0_5]], ABlk.rows false (6 : Nat) [[AV.int IntKind.i64 c1_0, AV.int IntKind.i64 c1_1, AV.str c1_2, AV.sl c1_3, AV.sl c1_4, AV.sl c1_5]]] : AH))
noncomputable abbrev wf42_0a (rows' : List (List AV)) (rows'' : List (List AV)) (rows''' : List (List AV)) (c0_0 : Int) (c0_1 : Int) (c0_2 : List UInt8) (c0_3 : List (List AV)) (c0_4 : List (List AV)) (c0_5 : List (List AV)) (c1_0 : Int) (c1_1 : Int) (c1_2 : List UInt8) (c1_3 : List (List AV)) (c1_4 : List (List AV)) (c1_5 : List (List AV)) : Option (AV) := Wf42_0  (((fx 91 [(2, AV.ptr (0 : Nat) (0 : Nat) (0 : Nat)), (4, AV.ptr (1 : Nat) (0 : Nat) (0 : Nat)), (5, AV.sl rows'), (73, AV.agg [AV.sl rows'', AV.sl rows''']), (74, AV.int IntKind.i64 (1 : Int))]) : List AV), ([ABlk.rows false (6 : Nat) [[AV.int IntKind.i64 c0_0, AV.int IntKind.i64 c0_1, AV.str c0_2, AV.sl c0_3, AV.sl c0_4, AV.sl c0_5]], ABlk.rows false (6 : Nat) [[AV.int IntKind.i64 c1_0, AV.int IntKind.i64 c1_1, AV.str c1_2, AV.sl c1_3, AV.sl c1_4, AV.sl c1_5]]] : AH))
noncomputable abbrev wf42_1a (rows' : List (List AV)) (rows'' : List (List AV)) (rows''' : List (List AV)) (v79 : Int) (c0_0 : Int) (c0_1 : Int) (c0_2 : List UInt8) (c0_3 : List (List AV)) (c0_4 : List (List AV)) (c0_5 : List (List AV)) (c1_0 : Int) (c1_1 : Int) (c1_2 : List UInt8) (c1_3 : List (List AV)) (c1_4 : List (List AV)) (c1_5 : List (List AV)) : Option (AV) := Wf42_1  (((fx 91 [(2, AV.ptr (0 : Nat) (0 : Nat) (0 : Nat)), (4, AV.ptr (1 : Nat) (0 : Nat) (0 : Nat)), (5, AV.sl rows'), (73, AV.agg [AV.sl rows'', AV.sl rows''']), (74, AV.int IntKind.i64 (1 : Int)), (77, AV.sl rows'''), (78, AV.int IntKind.i64 (↑(List.length rows''') : Int)), (79, AV.int IntKind.i64 v79)]) : List AV), ([ABlk.rows false (6 : Nat) [[AV.int IntKind.i64 c0_0, AV.int IntKind.i64 c0_1, AV.str c0_2, AV.sl c0_3, AV.sl c0_4, AV.sl c0_5]], ABlk.rows false (6 : Nat) [[AV.int IntKind.i64 c1_0, AV.int IntKind.i64 c1_1, AV.str c1_2, AV.sl c1_3, AV.sl c1_4, AV.sl c1_5]]] : AH))
noncomputable abbrev wf42_0b (rows' : List (List AV)) (rows'' : List (List AV)) (rows''' : List (List AV)) (c0_0 : Int) (c0_1 : Int) (c0_2 : List UInt8) (c0_3 : List (List AV)) (c0_4 : List (List AV)) (c0_5 : List (List AV)) (c1_0 : Int) (c1_1 : Int) (c1_2 : List UInt8) (c1_3 : List (List AV)) (c1_4 : List (List AV)) (c1_5 : List (List AV)) : Option (AV) := Wf42_0  (((fx 91 [(2, AV.ptr (0 : Nat) (0 : Nat) (0 : Nat)), (4, AV.ptr (1 : Nat) (0 : Nat) (0 : Nat)), (5, AV.sl rows'), (73, AV.agg [AV.sl rows'', AV.sl rows''']), (74, AV.int IntKind.i64 (2 : Int))]) : List AV), ([ABlk.rows false (6 : Nat) [[AV.int IntKind.i64 c0_0, AV.int IntKind.i64 c0_1, AV.str c0_2, AV.sl c0_3, AV.sl c0_4, AV.sl c0_5]], ABlk.rows false (6 : Nat) [[AV.int IntKind.i64 c1_0, AV.int IntKind.i64 c1_1, AV.str c1_2, AV.sl c1_3, AV.sl c1_4, AV.sl c1_5]]] : AH))
theorem spClauses1_run (kt : Int) (nt : Int) (st : List UInt8) (lt : List (List AV)) {P : OV × AV → Prop} (h : Gets (kOpt (EVs (EV cfg) 93 [.agg [AV.int .i64 kt, .int .i64 nt, .str st, .sl lt]]) fun (v : AV) => kInt .i64 v fun (n : Int) => bif n != (0 : Int) then some (OV.own 6 [] 0 0, .int .i64 (2 
  : Int)) else wf28_0 kt nt st lt 0 (0 : Int) 0 false kt nt st lt [] []) P) : Gets (EVq (EV cfg) 72 ([AV.agg [AV.int IntKind.i64 kt, AV.int IntKind.i64 nt, AV.str st, AV.sl lt]] : List AV)) P :=
  Gets.ev (fun _ h => funQ rfl rfl Tryz.func72 rfl h) (Gets.eq (by kernel_rfl) h)
theorem spClause_run (kt : Int) (nt : Int) (st : List UInt8) (lt : List (List AV)) {P : AV → Prop} (h : Gets (bif kt != (7 : Int) then some (AV.tup [.agg [AV.int .i64 (0 : Int), .int .i64 (0 : Int), .str [], .sl [], .sl [], .sl []], .bool false]) else bif (↑(List.length lt) : Int) != (3 : Int) 
  then some (AV.tup [.agg [AV.int .i64 (0 : Int), .int .i64 (0 : Int), .str [], .sl [], .sl [], .sl []], .bool false]) else bif ltInt (0 : Int) (↑(List.length lt) : Int) then kOpt (List.get?Internal 
  lt 0) fun (row : List AV) => bif Nat.beq (List.length row) 4 then bif Nat.ble 4 (List.length row) then kTmC (List.take 4 row) fun (n n_1 : Int) (s : List UInt8) (rows : List (List AV)) 
  => (kOpt (EVs (EV cfg) 135 [.agg [AV.int .i64 n, .int .i64 n_1, .str s, .sl rows]]) fun (v : AV) => kBool v fun (b : Bool) => bif !b then some (AV.tup [.agg [AV.int .i64 (0 : Int), .int 
  .i64 (0 : Int), .str [], .sl [], .sl [], .sl []], .bool false]) else bif ltInt (0 : Int) (↑(List.length lt) : Int) then kOpt (List.get?Internal lt 0) fun (row : List AV) => bif Nat.beq 
  (List.length row) 4 then bif Nat.ble 4 (List.length row) then kTmC (List.take 4 row) fun (n n_2 : Int) (s : List UInt8) (rows : List (List AV)) => (kOpt (EVf (EV cfg) 136 [.agg [AV.int 
  .i64 n, .int .i64 n_2, .str s, .sl rows]]) fun (v : AV) => kSl v fun (rows_1 : List (List AV)) => bif ltInt (1 : Int) (↑(List.length lt) : Int) then kOpt (List.get?Internal lt 1) fun 
  (row : List AV) => bif Nat.beq (List.length row) 4 then bif Nat.ble 4 (List.length row) then kTmC (List.take 4 row) fun (n_3 n_4 : Int) (s_1 : List UInt8) (rows_2 : List (List AV)) 
  => (kOpt (EVf (EV cfg) 137 [.agg [AV.int .i64 n_3, .int .i64 n_4, .str s_1, .sl rows_2]]) fun (v : AV) => kTup v fun (cs : List AV) => kCons cs fun (c : AV) (cs : List AV) => kSl c fun 
  (rows_3 : List (List AV)) => kCons cs fun (c : AV) (cs : List AV) => kBool c fun (b : Bool) => kNil cs (bif ltInt (2 : Int) (↑(List.length lt) : Int) then kOpt (List.get?Internal lt 
  2) fun (row : List AV) => bif Nat.beq (List.length row) 4 then bif Nat.ble 4 (List.length row) then kTmC (List.take 4 row) fun (n_5 n_6 : Int) (s_2 : List UInt8) (rows_4 : List (List 
  AV)) => (kOpt (EVf (EV cfg) 137 [AV.agg [AV.int .i64 n_5, .int .i64 n_6, .str s_2, .sl rows_4]]) fun (v : AV) => kTup v fun (cs : List AV) => kCons cs fun (c : AV) (cs : List AV) => kSl 
  c fun (rows_5 : List (List AV)) => kCons cs fun (c : AV) (cs : List AV) => kBool c fun (b_1 : Bool) => kNil cs (bif !b then some (AV.tup [AV.agg [AV.int .i64 (0 : Int), .int .i64 (0 : 
  Int), .str [], .sl [], .sl [], .sl []], .bool false]) else bif !b_1 then some (AV.tup [AV.agg [AV.int .i64 (0 : Int), .int .i64 (0 : Int), .str [], .sl [], .sl [], .sl []], .bool false]) 
  else bif (↑(List.length rows_5) : Int) == (0 : Int) then some (AV.tup [AV.agg [AV.int .i64 (0 : Int), .int .i64 (0 : Int), .str [], .sl [], .sl [], .sl []], .bool false]) else wf42_0 
  n n_2 s rows rows_1 rows_3 rows_5)) else none else none else none)) else none else none else none) else none else none else none) else none else none else none) P) : Gets (EVf (EV cfg) 107 ([AV.agg [AV.int IntKind.i64 kt, AV.int IntKind.i64 nt, AV.str st, AV.sl lt]] : List AV)) P :=
  Gets.ev (fun _ h => funF rfl rfl Tryz.func107 rfl h) (Gets.eq (by kernel_rfl) h)
theorem wf28_0_step (c0_0 : Int) (c0_1 : Int) (c0_2 : List UInt8) (c0_3 : List (List AV)) (nc1_0 : Nat) (c2_0 : Int) (nc3_0 : Nat) (c4_0 : Bool) (c5_0 : Int) (c5_1 : Int) (c5_2 : List UInt8) (c5_3 : List (List AV)) (h7 : List (List AV)) (h8 : List (List AV)) {P : OV × AV → Prop} (h : Gets (bif c5_0 == (9 : Int) then bif ltInt (0 : Int) (↑(List.length c5_3) : Int) then kOpt (List.get?Internal c5_3 0) fun (row : List AV) => bif Nat.beq (List.length row) 4 then bif Nat.ble 
  4 (List.length row) then kTmC (List.take 4 row) fun (n n_1 : Int) (s : List UInt8) (rows : List (List AV)) => (kOpt (EVf (EV cfg) 107 [.agg [AV.int .i64 n, .int .i64 n_1, .str s, .sl rows]]) 
  fun (v : AV) => kTup v fun (cs : List AV) => kCons cs fun (c : AV) (cs : List AV) => kAgg c fun (cs_1 : List AV) => kCons cs_1 fun (c : AV) (cs_2 : List AV) => kInt .i64 c fun (n : 
  Int) => kCons cs_2 fun (c : AV) (cs_3 : List AV) => kInt .i64 c fun (n_2 : Int) => kCons cs_3 fun (c : AV) (cs_4 : List AV) => kStr c fun (s : List UInt8) => kCons cs_4 fun (c : AV) 
  (cs_5 : List AV) => kSl c fun (rows : List (List AV)) => kCons cs_5 fun (c : AV) (cs_6 : List AV) => kSl c fun (rows_1 : List (List AV)) => kCons cs_6 fun (c : AV) (cs_7 : List AV) 
  => kSl c fun (rows_2 : List (List AV)) => kNil cs_7 (kCons cs fun (c : AV) (cs : List AV) => kBool c fun (b : Bool) => kNil cs (bif !b then some (OV.own 6 [] 0 0, .int .i64 (10 : Int)) 
  else bif Nat.ble (0 + nc3_0) (List.length h8) && fitsIn (nc3_0 + 1) 104 then bif ltInt (1 : Int) (↑(List.length c5_3) : Int) then kOpt (List.get?Internal c5_3 1) fun (row : List AV) 
  => bif Nat.beq (List.length row) 4 then bif Nat.ble 4 (List.length row) then kTmC (List.take 4 row) fun (n_3 n_4 : Int) (s_1 : List UInt8) (rows_3 : List (List AV)) => (wf28_0a c0_0 
  c0_1 c0_2 c0_3 nc1_0 c2_0 (nc3_0 + 1) c4_0 n_3 n_4 s_1 rows_3 h7 (List.append (List.take nc3_0 h8) [[AV.int .i64 n, .int .i64 n_2, .str s, .sl rows, .sl rows_1, .sl rows_2]])) else none 
  else none else none else none))) else none else none else none else bif !c5_0 == (8 : Int) then some (OV.own 6 [] 0 0, .int .i64 (10 : Int)) else bif (↑nc3_0 : Int) == (0 : Int) then 
  some (OV.own 6 [] 0 0, .int .i64 (10 : Int)) else some (OV.own 6 h8 0 nc3_0, .int .i64 (0 : Int))) P) : Gets (wf28_0 c0_0 c0_1 c0_2 c0_3 nc1_0 c2_0 nc3_0 c4_0 c5_0 c5_1 c5_2 c5_3 h7 h8) P :=
  Gets.ev (fun _ h => loop_step (cfg := cfg) (f := 134) (rd := none) (bs := 10) h) (Gets.eq (by kernel_rfl) h)
theorem wf42_0_step (n : Int) (n' : Int) (s : List UInt8) (rows : List (List AV)) (rows' : List (List AV)) (rows'' : List (List AV)) (rows''' : List (List AV)) {P : AV → Prop} (h : Gets (wf42_1 rows' rows'' rows''' (0 : Int) (0 : Int) (0 : Int) [] [] [] [] n n' s rows rows'' rows''') P) : Gets (wf42_0 n n' s rows rows' rows'' rows''') P :=
  Gets.ev (fun _ h => loop_step (cfg := cfg) (f := 107) (rd := none) (bs := 0) h) (Gets.eq (by kernel_rfl) h)
theorem wf28_0a_step (c0_0 : Int) (c0_1 : Int) (c0_2 : List UInt8) (c0_3 : List (List AV)) (nc1_0 : Nat) (c2_0 : Int) (nc3_0 : Nat) (c4_0 : Bool) (c5_0 : Int) (c5_1 : Int) (c5_2 : List UInt8) (c5_3 : List (List AV)) (h7 : List (List AV)) (h10 : List (List AV)) {P : OV × AV → Prop} (h : Gets (bif c5_0 == (9 : Int) then bif ltInt (0 : Int) (↑(List.length c5_3) : Int) then kOpt (List.get?Internal c5_3 0) fun (row : List AV) => bif Nat.beq (List.length row) 4 then bif Nat.ble 
  4 (List.length row) then kTmC (List.take 4 row) fun (n n_1 : Int) (s : List UInt8) (rows : List (List AV)) => (kOpt (EVf (EV cfg) 107 [.agg [AV.int .i64 n, .int .i64 n_1, .str s, .sl rows]]) 
  fun (v : AV) => kTup v fun (cs : List AV) => kCons cs fun (c : AV) (cs : List AV) => kAgg c fun (cs_1 : List AV) => kCons cs_1 fun (c : AV) (cs_2 : List AV) => kInt .i64 c fun (n : 
  Int) => kCons cs_2 fun (c : AV) (cs_3 : List AV) => kInt .i64 c fun (n_2 : Int) => kCons cs_3 fun (c : AV) (cs_4 : List AV) => kStr c fun (s : List UInt8) => kCons cs_4 fun (c : AV) 
  (cs_5 : List AV) => kSl c fun (rows : List (List AV)) => kCons cs_5 fun (c : AV) (cs_6 : List AV) => kSl c fun (rows_1 : List (List AV)) => kCons cs_6 fun (c : AV) (cs_7 : List AV) 
  => kSl c fun (rows_2 : List (List AV)) => kNil cs_7 (kCons cs fun (c : AV) (cs : List AV) => kBool c fun (b : Bool) => kNil cs (bif !b then some (OV.own 6 [] 0 0, .int .i64 (10 : Int)) 
  else bif Nat.ble (0 + nc3_0) (List.length h10) && fitsIn (nc3_0 + 1) 104 then bif ltInt (1 : Int) (↑(List.length c5_3) : Int) then kOpt (List.get?Internal c5_3 1) fun (row : List AV) 
  => bif Nat.beq (List.length row) 4 then bif Nat.ble 4 (List.length row) then kTmC (List.take 4 row) fun (n_3 n_4 : Int) (s_1 : List UInt8) (rows_3 : List (List AV)) => (wf28_0a c0_0 
  c0_1 c0_2 c0_3 nc1_0 c2_0 (nc3_0 + 1) c4_0 n_3 n_4 s_1 rows_3 h7 (List.append (List.take nc3_0 h10) [[AV.int .i64 n, .int .i64 n_2, .str s, .sl rows, .sl rows_1, .sl rows_2]])) else none 
  else none else none else none))) else none else none else none else bif !c5_0 == (8 : Int) then some (OV.own 6 [] 0 0, .int .i64 (10 : Int)) else bif (↑nc3_0 : Int) == (0 : Int) then 
  some (OV.own 6 [] 0 0, .int .i64 (10 : Int)) else some (OV.own 6 h10 0 nc3_0, .int .i64 (0 : Int))) P) : Gets (wf28_0a c0_0 c0_1 c0_2 c0_3 nc1_0 c2_0 nc3_0 c4_0 c5_0 c5_1 c5_2 c5_3 h7 h10) P :=
  Gets.ev (fun _ h => loop_step (cfg := cfg) (f := 134) (rd := none) (bs := 10) h) (Gets.eq (by kernel_rfl) h)
theorem wf42_1_step (rows' : List (List AV)) (rows'' : List (List AV)) (rows''' : List (List AV)) (v79 : Int) (c0_0 : Int) (c0_1 : Int) (c0_2 : List UInt8) (c0_3 : List (List AV)) (c0_4 : List (List AV)) (c0_5 : List (List AV)) (c1_0 : Int) (c1_1 : Int) (c1_2 : List UInt8) (c1_3 : List (List AV)) (c1_4 : List (List AV)) (c1_5 : List (List AV)) {P : AV → Prop} (h : Gets (bif decide (v79 < (↑(List.length rows'') : Int)) then bif leInt (0 : Int) v79 && ltInt v79 (↑(List.length rows'') : Int) then kOpt (List.get?Internal rows'' (Int.toNat v79)) fun (row 
  : List AV) => bif Nat.beq (List.length row) 4 then bif Nat.ble 4 (List.length row) then kTmC (List.take 4 row) fun (n n_1 : Int) (s : List UInt8) (rows : List (List AV)) => (kOpt (EVs 
  (EV cfg) 138 [.agg [AV.int .i64 n, .int .i64 n_1, .str s, .sl rows], .sl rows']) fun (v : AV) => kInt .i64 v fun (n : Int) => bif n != (0 : Int) then some (AV.tup [.agg [AV.int .i64 (0 : 
  Int), .int .i64 (0 : Int), .str [], .sl [], .sl [], .sl []], .bool false]) else wf42_1 rows' rows'' rows''' (IntKind.wrap .i64 (v79 + (1 : Int))) c0_0 c0_1 c0_2 c0_3 c0_4 c0_5 c1_0 
  c1_1 c1_2 c1_3 c1_4 c1_5) else none else none else none else wf42_0a rows' rows'' rows''' c0_0 c0_1 c0_2 c0_3 c0_4 c0_5 c1_0 c1_1 c1_2 c1_3 c1_4 c1_5) P) : Gets (wf42_1 rows' rows'' rows''' v79 c0_0 c0_1 c0_2 c0_3 c0_4 c0_5 c1_0 c1_1 c1_2 c1_3 c1_4 c1_5) P :=
  Gets.ev (fun _ h => loop_step (cfg := cfg) (f := 107) (rd := none) (bs := 0) h) (Gets.eq (by kernel_rfl) h)
theorem wf42_0a_step (rows' : List (List AV)) (rows'' : List (List AV)) (rows''' : List (List AV)) (c0_0 : Int) (c0_1 : Int) (c0_2 : List UInt8) (c0_3 : List (List AV)) (c0_4 : List (List AV)) (c0_5 : List (List AV)) (c1_0 : Int) (c1_1 : Int) (c1_2 : List UInt8) (c1_3 : List (List AV)) (c1_4 : List (List AV)) (c1_5 : List (List AV)) {P : AV → Prop} (h : Gets (wf42_1a rows' rows'' rows''' (0 : Int) c0_0 c0_1 c0_2 c0_3 c0_4 c0_5 c1_0 c1_1 c1_2 c1_3 c1_4 c1_5) P) : Gets (wf42_0a rows' rows'' rows''' c0_0 c0_1 c0_2 c0_3 c0_4 c0_5 c1_0 c1_1 c1_2 c1_3 c1_4 c1_5) P :=
  Gets.ev (fun _ h => loop_step (cfg := cfg) (f := 107) (rd := none) (bs := 0) h) (Gets.eq (by kernel_rfl) h)
theorem wf42_1a_step (rows' : List (List AV)) (rows'' : List (List AV)) (rows''' : List (List AV)) (v79 : Int) (c0_0 : Int) (c0_1 : Int) (c0_2 : List UInt8) (c0_3 : List (List AV)) (c0_4 : List (List AV)) (c0_5 : List (List AV)) (c1_0 : Int) (c1_1 : Int) (c1_2 : List UInt8) (c1_3 : List (List AV)) (c1_4 : List (List AV)) (c1_5 : List (List AV)) {P : AV → Prop} (h : Gets (bif decide (v79 < (↑(List.length rows''') : Int)) then bif leInt (0 : Int) v79 && ltInt v79 (↑(List.length rows''') : Int) then kOpt (List.get?Internal rows''' (Int.toNat v79)) fun 
  (row : List AV) => bif Nat.beq (List.length row) 4 then bif Nat.ble 4 (List.length row) then kTmC (List.take 4 row) fun (n n_1 : Int) (s : List UInt8) (rows : List (List AV)) => (kOpt 
  (EVs (EV cfg) 138 [.agg [AV.int .i64 n, .int .i64 n_1, .str s, .sl rows], .sl rows']) fun (v : AV) => kInt .i64 v fun (n : Int) => bif n != (0 : Int) then some (AV.tup [.agg [AV.int .i64 
  (0 : Int), .int .i64 (0 : Int), .str [], .sl [], .sl [], .sl []], .bool false]) else wf42_1a rows' rows'' rows''' (IntKind.wrap .i64 (v79 + (1 : Int))) c0_0 c0_1 c0_2 c0_3 c0_4 c0_5 
  c1_0 c1_1 c1_2 c1_3 c1_4 c1_5) else none else none else none else wf42_0b rows' rows'' rows''' c0_0 c0_1 c0_2 c0_3 c0_4 c0_5 c1_0 c1_1 c1_2 c1_3 c1_4 c1_5) P) : Gets (wf42_1a rows' rows'' rows''' v79 c0_0 c0_1 c0_2 c0_3 c0_4 c0_5 c1_0 c1_1 c1_2 c1_3 c1_4 c1_5) P :=
  Gets.ev (fun _ h => loop_step (cfg := cfg) (f := 107) (rd := none) (bs := 0) h) (Gets.eq (by kernel_rfl) h)
theorem wf42_0b_step (rows' : List (List AV)) (rows'' : List (List AV)) (rows''' : List (List AV)) (c0_0 : Int) (c0_1 : Int) (c0_2 : List UInt8) (c0_3 : List (List AV)) (c0_4 : List (List AV)) (c0_5 : List (List AV)) (c1_0 : Int) (c1_1 : Int) (c1_2 : List UInt8) (c1_3 : List (List AV)) (c1_4 : List (List AV)) (c1_5 : List (List AV)) {P : AV → Prop} (h : Gets (some (AV.tup [.agg [AV.int .i64 c1_0, .int .i64 c1_1, .str c1_2, .sl c1_3, .sl c1_4, .sl c1_5], .bool true])) P) : Gets (wf42_0b rows' rows'' rows''' c0_0 c0_1 c0_2 c0_3 c0_4 c0_5 c1_0 c1_1 c1_2 c1_3 c1_4 c1_5) P :=
  Gets.ev (fun _ h => loop_step (cfg := cfg) (f := 107) (rd := none) (bs := 0) h) (Gets.eq (by kernel_rfl) h)
end Go.Proofs.YteojjjhhmbogfaaGreat
end

section
namespace Go.Proofs.YteojjjhhmbogfaaGreat
open Go.Av
set_option maxRecDepth 100000
set_option maxHeartbeats 0

noncomputable def Lg14_0 : Den := evC cfg (EV cfg) 65 none 0 (sub (bodyOf Tryz.f65) [1, 1, 1, 0, 1, 0, 0])
noncomputable def Ag14_0 : Ex × List AV × AH → Option AV := kAft (Cfg.keepOut cfg 65 4) (kRun cfg (EV cfg) (kfN cfg 6) 65 none 0 (kFinF cfg (Cfg.lift cfg 65 0) Tryz.f65.results.toList) ([.block 0, .seq (sub (bodyOf Tryz.f65) [1, 1, 1, 1])]))
noncomputable def Wg14_0 : List AV × AH → Option AV := fun p => kOpt (LOOP 0 (some [2, 4, 5, 11, 12, 13]) ([(5, 4)]) Lg14_0 p) Ag14_0
noncomputable abbrev wg14_0 (L : List (List AV)) (nv5 : Nat) (v13 : Int) (c0_0 : Int) (c0_1 : Int) (c0_2 : List UInt8) (c0_3 : List (List AV)) (c1_0 : Int) (c1_1 : Int) (c1_2 : List UInt8) (c1_3 : List (List AV)) (h2 : List (List AV)) : Option (AV) := Wg14_0  (((fx 44 [(2, AV.ptr (0 : Nat) (0 : Nat) (0 : Nat)), (4, AV.ptr (1 : Nat) (0 : Nat) (0 : Nat)), (5, AV.ms (2 : Nat) (0 : Nat) nv5), (11, AV.sl L), (12, AV.int IntKind.i64 (↑(List.length L) : Int)), (13, AV.int IntKind.i64 v13)]) : List AV), ([ABlk.rows false (4 : Nat) [[AV.int IntKind.i64 c0_0, AV.int IntKind.i64 c0_1, AV.str c0_2, AV.sl c0_3]], ABlk.rows false (4 : Nat) [[AV.int IntKind.i64 c1_0, AV.int IntKind.i64 c1_1, AV.str c1_2, AV.sl c1_3]], ABlk.rows true (4 : Nat) h2] : AH))
theorem spOf_run (L : List (List AV)) {P : AV → Prop} (h : Gets (wg14_0 L 0 (0 : Int) (0 : Int) (0 : Int) [] [] (8 : Int) (0 : Int) [] [] []) P) : Gets (EVf (EV cfg) 65 ([AV.sl L] : List AV)) P :=
  Gets.ev (fun _ h => funF rfl rfl Tryz.func65 rfl h) (Gets.eq (by kernel_rfl) h)
theorem wg14_0_step (L : List (List AV)) (nv5 : Nat) (v13 : Int) (c0_0 : Int) (c0_1 : Int) (c0_2 : List UInt8) (c0_3 : List (List AV)) (c1_0 : Int) (c1_1 : Int) (c1_2 : List UInt8) (c1_3 : List (List AV)) (h2 : List (List AV)) {P : AV → Prop} (h : Gets (bif decide (v13 < (↑(List.length L) : Int)) then bif leInt (0 : Int) v13 && ltInt v13 (↑(List.length L) : Int) then kOpt (List.get?Internal L (Int.toNat v13)) fun (row : List AV) => 
  bif Nat.beq (List.length row) 6 then bif Nat.ble 6 (List.length row) then kCons (List.take 6 row) fun (c : AV) (cs : List AV) => kInt .i64 c fun (n : Int) => kCons cs fun (c : AV) (cs 
  : List AV) => kInt .i64 c fun (n_1 : Int) => kCons cs fun (c : AV) (cs : List AV) => kStr c fun (s : List UInt8) => kCons cs fun (c : AV) (cs : List AV) => kSl c fun (rows : List (List 
  AV)) => kCons cs fun (c : AV) (cs : List AV) => kSl c fun (rows_1 : List (List AV)) => kCons cs fun (c : AV) (cs : List AV) => kSl c fun (rows_2 : List (List AV)) => kNil cs (kOpt (EVf 
  (EV cfg) 102 [.sl rows_1, .agg [AV.int .i64 c1_0, .int .i64 c1_1, .str c1_2, .sl c1_3]]) fun (v : AV) => kTmV v fun (n_2 n_3 : Int) (s_1 : List UInt8) (rows_3 : List (List AV)) => (kOpt 
  (EVf (EV cfg) 102 [.sl rows_2, .agg [AV.int .i64 c1_0, .int .i64 c1_1, .str c1_2, .sl c1_3]]) fun (v : AV) => kTmV v fun (n_4 n_5 : Int) (s_2 : List UInt8) (rows_4 : List (List AV)) => 
  (kOpt (EVf (EV cfg) 101 [AV.sl [[AV.int .i64 n, .int .i64 n_1, .str s, .sl rows], [AV.int .i64 n_2, .int .i64 n_3, .str s_1, .sl rows_3], [AV.int .i64 n_4, .int .i64 n_5, .str s_2, .sl rows_4]]]) 
  fun (v : AV) => kTmV v fun (n n_6 : Int) (s : List UInt8) (rows : List (List AV)) => (bif Nat.ble (0 + nv5) (List.length h2) && fitsIn (nv5 + 1) 56 then wg14_0 L (nv5 + 1) (IntKind.wrap 
  .i64 (v13 + (1 : Int))) c0_0 c0_1 c0_2 c0_3 c1_0 c1_1 c1_2 c1_3 (List.append (List.take nv5 h2) [[AV.int .i64 n, .int .i64 n_6, .str s, .sl rows]]) else none)))) else none else none else 
  none else bif Nat.ble (0 + nv5) (List.length h2) && true then kOpt (EVf (EV cfg) 102 [.sl (List.take nv5 h2), .agg [AV.int .i64 c1_0, .int .i64 c1_1, .str c1_2, .sl c1_3]]) fun (v : AV) 
  => kTmV v fun (n n_1 : Int) (s : List UInt8) (rows : List (List AV)) => (kOpt (EVs (EV cfg) 103 [.agg [AV.int .i64 n, .int .i64 n_1, .str s, .sl rows]]) fun (v : AV) => kInt .i64 v fun 
  (n_2 : Int) => bif n_2 != (0 : Int) then some (AV.tup [.agg [AV.int .i64 (0 : Int), .int .i64 (0 : Int), .str [], .sl []], .int .i64 n_2]) else kOpt (EVf (EV cfg) 52 [.agg [AV.int .i64 
  n, .int .i64 n_1, .str s, .sl rows]]) fun (v : AV) => kTmV v fun (n n_3 : Int) (s : List UInt8) (rows : List (List AV)) => (some (AV.tup [.agg [AV.int .i64 n, .int .i64 n_3, .str s, .sl 
  rows], .int .i64 (0 : Int)]))) else none) P) : Gets (wg14_0 L nv5 v13 c0_0 c0_1 c0_2 c0_3 c1_0 c1_1 c1_2 c1_3 h2) P :=
  Gets.ev (fun _ h => loop_step (cfg := cfg) (f := 65) (rd := none) (bs := 0) h) (Gets.eq (by kernel_rfl) h)
end Go.Proofs.YteojjjhhmbogfaaGreat
end

section
namespace Go.Av
def clR (o : Option Cl) : AV := match o with
  | some c => .tup [c.av, .bool true]
  | none => .tup [zeroC.av, .bool false]
def clsQ (r : List Cl × Int) : OV × AV := (.own 6 (rowsC r.1) 0 r.1.length, .int .i64 r.2)
def clsA (acc : List Cl) (t : Tm) : List Cl × Int := match seqC (itemsG t).1 with
  | some l => if (itemsG t).2 && !(acc ++ l).isEmpty then (acc ++ l, 0) else ([], 10)
  | none => ([], 10)
def okV (V : List Int) (l : List Tm) : Bool := l.all fun e => decide (checkG V e = 0)
theorem okV_cons (V : List Int) (x : Tm) (l : List Tm) : okV V (x :: l) = (decide (checkG V x = 0) && okV V l) := rfl
theorem varsG_len (p : Tm) : (varsG p).length ≤ 100 := by
  unfold varsG
  by_cases h : p.chk = 0
  · rw [if_pos h, List.length_map]
    have := List.length_filter_le (fun n : Nat => varIn (n : Nat) p) (List.range 100)
    rw [List.length_range] at this
    exact this
  · rw [if_neg h]; exact Nat.zero_le _
theorem fits104 {n : Nat} (h : n ≤ 1099511627776) : fitsIn n 104 = true := by
  unfold fitsIn; rw [Bool.and_eq_true, Nat.ble_eq, Nat.ble_eq]; omega
end Go.Av
namespace Go.Proofs.YteojjjhhmbogfaaGreat
open Go.Av
set_option maxRecDepth 100000
theorem clause_loop2 {V : List Int} {h : Tm} {G B : List Tm} (hV : V.length < 1099511627776) (hB : B.length < 1099511627776) (wB : ∀ x ∈ B, x.w < 1099511627776) : ∀ d i : Nat, i + d = B.length →
    Gets (wf42_1a (intsR V) (rowsT G) (rowsT B) i 0 0 [] [] [] [] h.kind h.num h.str (rowsT h.subs) (rowsT G) (rowsT B)) (· = clR (if okV V (B.drop i) then some ⟨h, G, B⟩ else none)) := by
  intro d
  induction d with
  | zero =>
    intro i hi
    obtain rfl : i = B.length := by omega
    refine wf42_1a_step _ _ _ _ _ _ _ _ _ _ _ _ _ _ _ _ ?_
    rw [rowsT_length, decide_eq_false (by omega), cond_false, List.drop_eq_nil_of_le (Nat.le_refl _)]
    refine wf42_0b_step _ _ _ _ _ _ _ _ _ _ _ _ _ _ _ ?_
    exact ⟨_, rfl, rfl⟩
  | succ d ih =>
    intro i hi
    have hil : i < B.length := by omega
    have hx : B[i]? = some B[i] := List.getElem?_eq_getElem hil
    have hg := guardCheck_ev hV (wB _ (List.mem_of_getElem? hx))
    have h1 := ih (i + 1) (by omega)
    rw [List.drop_eq_getElem_cons hil, okV_cons]
    refine wf42_1a_step _ _ _ _ _ _ _ _ _ _ _ _ _ _ _ _ ?_
    have gx : List.get?Internal (rowsT B) (Int.toNat (i : Int)) = some B[i].cells := rowsT_at' hx
    rw [rowsT_length, decide_eq_true (show (i : Int) < (B.length : Int) by omega), leInt_zero, ltInt_nat, decide_eq_true hil, gx, wrap_succ hil hB]
    simp only [cond_true, Bool.and_self, kOptSome, length_cells, Nat.beq_refl, take_cells, kTmC_cells, ble44, av_unf, hg, kInt_int, bneD]
    by_cases h0 : checkG V B[i] = 0
    · rw [decide_eq_true h0, Bool.true_and]
      exact h1
    · rw [decide_eq_false h0]
      exact ⟨_, rfl, rfl⟩
theorem clause_loop1 {V : List Int} {h : Tm} {G B : List Tm} (hV : V.length < 1099511627776) (hG : G.length < 1099511627776) (wG : ∀ x ∈ G, x.w < 1099511627776) (hB : B.length < 1099511627776) (wB : ∀ x ∈ B, x.w < 1099511627776) : ∀ d i : Nat, i + d = G.length →
    Gets (wf42_1 (intsR V) (rowsT G) (rowsT B) i 0 0 [] [] [] [] h.kind h.num h.str (rowsT h.subs) (rowsT G) (rowsT B)) (· = clR (if okV V (G.drop i) && okV V B then some ⟨h, G, B⟩ else none)) := by
  intro d
  induction d with
  | zero =>
    intro i hi
    obtain rfl : i = G.length := by omega
    refine wf42_1_step _ _ _ _ _ _ _ _ _ _ _ _ _ _ _ _ ?_
    rw [rowsT_length, decide_eq_false (by omega), cond_false, List.drop_eq_nil_of_le (Nat.le_refl _)]
    refine wf42_0a_step _ _ _ _ _ _ _ _ _ _ _ _ _ _ _ ?_
    exact clause_loop2 (h := h) (G := G) hV hB wB B.length 0 (by omega)
  | succ d ih =>
    intro i hi
    have hil : i < G.length := by omega
    have hx : G[i]? = some G[i] := List.getElem?_eq_getElem hil
    have hg := guardCheck_ev hV (wG _ (List.mem_of_getElem? hx))
    have h1 := ih (i + 1) (by omega)
    rw [List.drop_eq_getElem_cons hil, okV_cons]
    refine wf42_1_step _ _ _ _ _ _ _ _ _ _ _ _ _ _ _ _ ?_
    have gx : List.get?Internal (rowsT G) (Int.toNat (i : Int)) = some G[i].cells := rowsT_at' hx
    rw [rowsT_length, decide_eq_true (show (i : Int) < (G.length : Int) by omega), leInt_zero, ltInt_nat, decide_eq_true hil, gx, wrap_succ hil hG]
    simp only [cond_true, Bool.and_self, kOptSome, length_cells, Nat.beq_refl, take_cells, kTmC_cells, ble44, av_unf, hg, kInt_int, bneD]
    by_cases h0 : checkG V G[i] = 0
    · rw [decide_eq_true h0, Bool.true_and]
      exact h1
    · rw [decide_eq_false h0]
      exact ⟨_, rfl, rfl⟩
theorem clause_ev {t : Tm} (hc : t.chk = 0) : EVf (EV cfg) 107 [t.av] = some (clR (clauseG t)) := by
  have hw := w_chk hc
  have hwe := t.w_eq
  have hz : AV.tup [.agg [AV.int .i64 (0 : Int), .int .i64 (0 : Int), .str [], .sl [], .sl [], .sl []], .bool false] = clR none := rfl
  apply Gets.get
  rw [Tm.av, Tm.cells_eq]
  refine spClause_run _ _ _ _ ?_
  rw [bneD, bneD, hz, rowsT_length]
  by_cases h7 : t.kind = 7
  · rw [decide_eq_true h7]
    by_cases h3 : t.subs.length = 3
    · obtain ⟨h, g, b, hs⟩ : ∃ h g b, t.subs = [h, g, b] := by
        cases hs : t.subs with
        | nil => rw [hs] at h3; simp at h3
        | cons a l => cases l with
          | nil => rw [hs] at h3; simp at h3
          | cons b l => cases l with
            | nil => rw [hs] at h3; simp at h3
            | cons d l => cases l with
              | nil => exact ⟨a, b, d, rfl⟩
              | cons e l => rw [hs] at h3; simp at h3
      have ch : h.chk = 0 := chk_sub hc (by rw [hs]; simp)
      have cg : g.chk = 0 := chk_sub hc (by rw [hs]; simp)
      have cb : b.chk = 0 := chk_sub hc (by rw [hs]; simp)
      rw [hs] at hwe
      simp only [wL_cons, wL_nil] at hwe
      have lg := itemsG_w cg
      have lb := itemsG_w cb
      have hh := spHead_ev (t := h) (by omega)
      have hv := patVars_ev (t := h) (by omega)
      have e1 := spList_ev cg
      have e2 := spList_ev cb
      have hl := clause_loop1 (V := varsG h) (h := h) (G := (itemsG g).1) (B := (itemsG b).1) (by have := varsG_len h; omega) (by omega) (fun x hx => by have := wL_mem hx; omega) (by omega) (fun x hx => by have := wL_mem hx; omega) (itemsG g).1.length 0 (by omega)
      have gh : clauseG t = if headG h && ((itemsG g).2 && ((itemsG b).2 && !(itemsG b).1.isEmpty)) && (okV (varsG h) (itemsG g).1 && okV (varsG h) (itemsG b).1) then some ⟨h, (itemsG g).1, (itemsG b).1⟩ else none := by
        unfold clauseG; rw [if_pos h7, hs]; rfl
      rw [decide_eq_true (show (t.subs.length : Int) = 3 by omega), hs, rowsT_cons, rowsT_cons, rowsT_cons, rowsT_nil, gh]
      have g0 : List.get?Internal [h.cells, g.cells, b.cells] 0 = some h.cells := rfl
      have g1 : List.get?Internal [h.cells, g.cells, b.cells] 1 = some g.cells := rfl
      have g2 : List.get?Internal [h.cells, g.cells, b.cells] 2 = some b.cells := rfl
      have l0 : ltInt 0 (([h, g, b].length : Nat) : Int) = true := rfl
      have l1 : ltInt 1 (([h, g, b].length : Nat) : Int) = true := rfl
      have l2 : ltInt 2 (([h, g, b].length : Nat) : Int) = true := rfl
      rw [g0, g1, g2]
      simp only [l0, l1, l2, Bool.not_true, cond_false, cond_true, Bool.and_self, kOptSome, length_cells, Nat.beq_refl, take_cells, kTmC_cells, ble44, av_unf, hh, kBool_bool]
      cases headG h with
      | false => exact ⟨_, rfl, rfl⟩
      | true =>
        simp only [Bool.not_true, cond_false, Bool.true_and, hv, e1, e2, lsR, kOptSome, kTup, kCons, kSl_sl, kBool_bool, kNil, rowsT_length, beqI]
        cases (itemsG g).2 with
        | false => exact ⟨_, rfl, rfl⟩
        | true =>
          cases (itemsG b).2 with
          | false => exact ⟨_, rfl, rfl⟩
          | true =>
            simp only [Bool.not_true, cond_false, Bool.true_and]
            cases hb : (itemsG b).1 with
            | nil => exact ⟨_, rfl, rfl⟩
            | cons x l =>
              rw [hb] at hl
              rw [decide_eq_false (show ¬ (((x :: l).length : Nat) : Int) = 0 by simp; omega)]
              refine wf42_0_step _ _ _ _ _ _ _ ?_
              exact hl
    · have : clauseG t = none := by
        unfold clauseG
        rw [if_pos h7]
        cases hs : t.subs with
        | nil => rfl
        | cons a l => cases l with
          | nil => rfl
          | cons b l => cases l with
            | nil => rfl
            | cons d l => cases l with
              | nil => rw [hs] at h3; simp at h3
              | cons e l => rfl
      rw [decide_eq_false (show ¬ (t.subs.length : Int) = 3 by omega), this]
      exact ⟨_, rfl, rfl⟩
  · have : clauseG t = none := by unfold clauseG; rw [if_neg h7]
    rw [decide_eq_false h7, this]
    exact ⟨_, rfl, rfl⟩
theorem clauses_loopa {c : Tm} : ∀ (n : Nat) (t : Tm) (acc : List Cl), t.w ≤ n → t.chk = 0 → acc.length + n < 1099511627776 →
    Gets (wf28_0a c.kind c.num c.str (rowsT c.subs) 0 0 acc.length false t.kind t.num t.str (rowsT t.subs) [] (rowsC acc)) (· = clsQ (clsA acc t)) := by
  intro n
  induction n with
  | zero => intro t acc h; have := w_pos t; omega
  | succ n ih =>
    intro t acc hw hc hn
    refine wf28_0a_step _ _ _ _ _ _ _ _ _ _ _ _ _ _ ?_
    rw [beqI, beqI, beqI]
    by_cases h9 : t.kind = 9
    · obtain ⟨x, y, hs⟩ := cons_chk hc h9
      have hwe := t.w_eq
      rw [hs] at hwe
      simp only [wL_cons, wL_nil] at hwe
      have hxc : x.chk = 0 := chk_sub hc (by rw [hs]; simp)
      have hyc : y.chk = 0 := chk_sub hc (by rw [hs]; simp)
      have hce := clause_ev hxc
      have e1 : Nat.ble (0 + acc.length) (rowsC acc).length = true := by rw [Nat.ble_eq, rowsC_len]; omega
      have e2 : List.take acc.length (rowsC acc) = rowsC acc := List.take_of_length_le (by rw [rowsC_len]; exact Nat.le_refl _)
      rw [decide_eq_true h9, cond_true, hs, lt0T, get0T, lt1T, get1T, e1, e2, fits104 (by omega)]
      simp only [cond_true, Bool.and_self, kOptSome, length_cells, Nat.beq_refl, take_cells, kTmC_cells, ble44, av_unf, hce]
      cases hcl : clauseG x with
      | none =>
        have : clsA acc t = ([], 10) := by unfold clsA; rw [itemsG_cons h9 hs, seqC, hcl]; rfl
        rw [this]
        exact ⟨_, rfl, rfl⟩
      | some d =>
        have : clsA acc t = clsA (acc ++ [d]) y := by
          unfold clsA
          rw [itemsG_cons h9 hs, seqC, hcl]
          cases seqC (itemsG y).1 with
          | none => rfl
          | some l => simp
        rw [this]
        have h := ih y (acc ++ [d]) (by omega) hyc (by rw [List.length_append, List.length_singleton]; omega)
        rw [List.length_append, List.length_singleton] at h
        have e3 : List.append (rowsC acc) [[AV.int .i64 d.head.kind, .int .i64 d.head.num, .str d.head.str, .sl (rowsT d.head.subs), .sl (rowsT d.gs), .sl (rowsT d.bs)]] = rowsC (acc ++ [d]) := (rowsC_append acc [d]).symm
        simp only [clR, Cl.av, Cl.cells, kTup, kCons, kAgg, kInt_int, kStr_str, kSl_sl, kNil, kBool_bool, Bool.not_true, cond_false, e3]
        exact h
    · rw [decide_eq_false h9, cond_false]
      have hi : clsA acc t = if t.kind = 8 ∧ acc ≠ [] then (acc, 0) else ([], 10) := by
        unfold clsA
        rw [itemsG_end h9, seqC]
        by_cases h8 : t.kind = 8
        · cases acc <;> simp [h8]
        · simp [h8]
      rw [hi]
      by_cases h8 : t.kind = 8
      · rw [decide_eq_true h8]
        cases acc with
        | nil => rw [if_neg (fun h => h.2 rfl)]; exact ⟨_, rfl, rfl⟩
        | cons a l =>
          rw [decide_eq_false (show ¬ (((a :: l).length : Nat) : Int) = 0 by simp; omega), if_pos ⟨h8, by simp⟩]
          exact ⟨_, rfl, rfl⟩
      · rw [decide_eq_false h8, if_neg (fun h => h8 h.1)]
        exact ⟨_, rfl, rfl⟩
theorem clauses_loop {c : Tm} : ∀ (n : Nat) (t : Tm) (acc : List Cl), t.w ≤ n → t.chk = 0 → acc.length + n < 1099511627776 →
    Gets (wf28_0 c.kind c.num c.str (rowsT c.subs) 0 0 acc.length false t.kind t.num t.str (rowsT t.subs) [] (rowsC acc)) (· = clsQ (clsA acc t)) := by
  intro n
  induction n with
  | zero => intro t acc h; have := w_pos t; omega
  | succ n ih =>
    intro t acc hw hc hn
    refine wf28_0_step _ _ _ _ _ _ _ _ _ _ _ _ _ _ ?_
    rw [beqI, beqI, beqI]
    by_cases h9 : t.kind = 9
    · obtain ⟨x, y, hs⟩ := cons_chk hc h9
      have hwe := t.w_eq
      rw [hs] at hwe
      simp only [wL_cons, wL_nil] at hwe
      have hxc : x.chk = 0 := chk_sub hc (by rw [hs]; simp)
      have hyc : y.chk = 0 := chk_sub hc (by rw [hs]; simp)
      have hce := clause_ev hxc
      have e1 : Nat.ble (0 + acc.length) (rowsC acc).length = true := by rw [Nat.ble_eq, rowsC_len]; omega
      have e2 : List.take acc.length (rowsC acc) = rowsC acc := List.take_of_length_le (by rw [rowsC_len]; exact Nat.le_refl _)
      rw [decide_eq_true h9, cond_true, hs, lt0T, get0T, lt1T, get1T, e1, e2, fits104 (by omega)]
      simp only [cond_true, Bool.and_self, kOptSome, length_cells, Nat.beq_refl, take_cells, kTmC_cells, ble44, av_unf, hce]
      cases hcl : clauseG x with
      | none =>
        have : clsA acc t = ([], 10) := by unfold clsA; rw [itemsG_cons h9 hs, seqC, hcl]; rfl
        rw [this]
        exact ⟨_, rfl, rfl⟩
      | some d =>
        have : clsA acc t = clsA (acc ++ [d]) y := by
          unfold clsA
          rw [itemsG_cons h9 hs, seqC, hcl]
          cases seqC (itemsG y).1 with
          | none => rfl
          | some l => simp
        rw [this]
        have h := clauses_loopa (c := c) n y (acc ++ [d]) (by omega) hyc (by rw [List.length_append, List.length_singleton]; omega)
        rw [List.length_append, List.length_singleton] at h
        have e3 : List.append (rowsC acc) [[AV.int .i64 d.head.kind, .int .i64 d.head.num, .str d.head.str, .sl (rowsT d.head.subs), .sl (rowsT d.gs), .sl (rowsT d.bs)]] = rowsC (acc ++ [d]) := (rowsC_append acc [d]).symm
        simp only [clR, Cl.av, Cl.cells, kTup, kCons, kAgg, kInt_int, kStr_str, kSl_sl, kNil, kBool_bool, Bool.not_true, cond_false, e3]
        exact h
    · rw [decide_eq_false h9, cond_false]
      have hi : clsA acc t = if t.kind = 8 ∧ acc ≠ [] then (acc, 0) else ([], 10) := by
        unfold clsA
        rw [itemsG_end h9, seqC]
        by_cases h8 : t.kind = 8
        · cases acc <;> simp [h8]
        · simp [h8]
      rw [hi]
      by_cases h8 : t.kind = 8
      · rw [decide_eq_true h8]
        cases acc with
        | nil => rw [if_neg (fun h => h.2 rfl)]; exact ⟨_, rfl, rfl⟩
        | cons a l =>
          rw [decide_eq_false (show ¬ (((a :: l).length : Nat) : Int) = 0 by simp; omega), if_pos ⟨h8, by simp⟩]
          exact ⟨_, rfl, rfl⟩
      · rw [decide_eq_false h8, if_neg (fun h => h8 h.1)]
        exact ⟨_, rfl, rfl⟩
theorem clauses_ev {t : Tm} (hw : t.w < 1099511627776) : EVq (EV cfg) 72 [t.av] = some (clsQ (clsG t)) := by
  have hk := check_ev hw
  apply Gets.get
  rw [Tm.av, Tm.cells_eq] at hk ⊢
  refine spClauses1_run _ _ _ _ ?_
  rw [hk]
  simp only [kOptSome, kInt_int, bneD]
  unfold clsG
  by_cases hc : t.chk = 0
  · rw [decide_eq_true hc, if_pos hc]
    exact clauses_loop (c := t) t.w t [] (Nat.le_refl _) hc (by have := w_chk hc; simp; omega)
  · rw [decide_eq_false hc, if_neg hc]
    exact ⟨_, rfl, rfl⟩
theorem spCheck_ev {t : Tm} (hw : t.w < 1099511627776) : EVs (EV cfg) 103 [t.av] = some (.int .i64 (clsG t).2) := by
  have hk := clauses_ev hw
  apply Gets.get
  rw [Tm.av, Tm.cells_eq] at hk ⊢
  refine spCheck_run _ _ _ _ ?_
  rw [hk]
  exact ⟨_, rfl, rfl⟩
end Go.Proofs.YteojjjhhmbogfaaGreat
end

section
namespace Go.Av
theorem listT_wl : ∀ l : List Tm, wL l + l.length ≤ (listT l).w
  | [] => Nat.zero_le _
  | x :: l => by
    have h := listT_wl l
    have : (listT (x :: l)).w = 1 + 0 + (x.w + ((listT l).w + 0)) ∨ wL (x :: l) + (x :: l).length ≤ (listT (x :: l)).w := by
      right
      have e := (listT (x :: l)).w_eq
      have : (listT (x :: l)).subs = [x, listT l] := rfl
      rw [this] at e
      simp only [wL_cons, wL_nil, List.length_cons] at e ⊢
      omega
    rcases this with h1 | h1
    · simp only [wL_cons, List.length_cons]; omega
    · exact h1
theorem selT_parts {cs : List Cl} {c : Cl} (h : c ∈ cs) : c.head.w + wL c.gs + c.gs.length + wL c.bs + c.bs.length ≤ (selT cs).w := by
  have h1 := listT_wl (cs.map clT)
  have h2 : (clT c).w ≤ wL (cs.map clT) := wL_mem (List.mem_map.2 ⟨c, h, rfl⟩)
  have h3 := listT_wl c.gs
  have h4 := listT_wl c.bs
  have e := (clT c).w_eq
  have : (clT c).subs = [c.head, listT c.gs, listT c.bs] := rfl
  rw [this] at e
  simp only [wL_cons, wL_nil] at e
  have : selT cs = listT (cs.map clT) := rfl
  rw [this]
  omega
theorem selT_len (cs : List Cl) : cs.length ≤ (selT cs).w := by
  have h1 := listT_wl (cs.map clT)
  rw [List.length_map] at h1
  have : selT cs = listT (cs.map clT) := rfl
  rw [this]
  omega
end Go.Av
namespace Go.Proofs.YteojjjhhmbogfaaGreat
open Go.Av
theorem agg_av (t : Tm) : t.av = .agg [.int .i64 t.kind, .int .i64 t.num, .str t.str, .sl (rowsT t.subs)] := by rw [Tm.av, Tm.cells_eq]
theorem spOf_loop {cs : List Cl} (hw : (selT cs).w < 1099511627775) : ∀ d i : Nat, i + d = cs.length →
    Gets (wg14_0 (rowsC cs) i i 0 0 [] [] 8 0 [] [] (rowsT ((cs.take i).map clT))) (· = .tup [(ofG cs).1.av, .int .i64 (ofG cs).2]) := by
  have hlen := selT_len cs
  have hend : AV.agg [.int .i64 8, .int .i64 0, .str [], .sl []] = (Tm.mk 8 0 [] []).av := by rw [Tm.av_mk]; rfl
  intro d
  induction d with
  | zero =>
    intro i hi
    obtain rfl : i = cs.length := by omega
    refine wg14_0_step _ _ _ _ _ _ _ _ _ _ _ _ ?_
    have hb : Nat.ble (0 + cs.length) (rowsT (cs.map clT)).length = true := by rw [Nat.ble_eq, rowsT_length, List.length_map]; omega
    have ht : List.take cs.length (rowsT (cs.map clT)) = rowsT (cs.map clT) := List.take_of_length_le (by rw [rowsT_length, List.length_map]; exact Nat.le_refl _)
    have hm := makeList_ev (l := cs.map clT) (by rw [List.length_map]; omega) (.mk 8 0 [] [])
    have hsel : makeG (cs.map clT) (.mk 8 0 [] []) = selT cs := rfl
    have hk := spCheck_ev (t := selT cs) (by omega)
    have hcp := copy_ev (t := selT cs) (ok_of_w _ (by omega))
    rw [rowsC_len, decide_eq_false (by omega), List.take_length, hb, ht, hend, hm, hsel]
    simp only [cond_false, Bool.and_self, cond_true, kOptSome, kTmV_av, av_unf, hk, kInt_int, bneD]
    unfold ofG
    by_cases h0 : (clsG (selT cs)).2 = 0
    · rw [decide_eq_true h0, if_pos h0, hcp]
      simp only [Bool.not_true, cond_false, kOptSome, kTmV_av, av_unf]
      exact ⟨_, rfl, rfl⟩
    · rw [decide_eq_false h0, if_neg h0]
      exact ⟨_, rfl, rfl⟩
  | succ d ih =>
    intro i hi
    have hil : i < cs.length := by omega
    have hx : cs[i]? = some cs[i] := List.getElem?_eq_getElem hil
    have hpt := selT_parts (List.mem_of_getElem? hx)
    have h1 := ih (i + 1) (by omega)
    refine wg14_0_step _ _ _ _ _ _ _ _ _ _ _ _ ?_
    have gx : List.get?Internal (rowsC cs) (Int.toNat (i : Int)) = some cs[i].cells := by
      rw [get?Internal_eq, Int.toNat_natCast, rowsC_get, hx]; rfl
    have hl : ((cs.take i).map clT).length = i := by rw [List.length_map, List.length_take]; omega
    have hb : Nat.ble (0 + i) (rowsT ((cs.take i).map clT)).length = true := by rw [Nat.ble_eq, rowsT_length, hl]; omega
    have ht : List.take i (rowsT ((cs.take i).map clT)) = rowsT ((cs.take i).map clT) := List.take_of_length_le (by rw [rowsT_length, hl]; exact Nat.le_refl _)
    rw [rowsC_len, decide_eq_true (show (i : Int) < (cs.length : Int) by omega), leInt_zero, ltInt_nat, decide_eq_true hil, gx, hb, ht, fits56 (by omega), wrap_succ hil (by omega), hend]
    have e1 : cs.take (i + 1) = cs.take i ++ [cs[i]] := by rw [List.take_add_one, hx]; rfl
    rw [e1, List.map_append, rowsT_append] at h1
    generalize cs[i] = c at *
    have b6 : Nat.ble 6 c.cells.length = true := rfl
    have b66 : Nat.beq c.cells.length 6 = true := rfl
    have t6 : List.take 6 c.cells = c.cells := rfl
    have k1 := makeList_ev (l := c.gs) (by omega) (.mk 8 0 [] [])
    have k2 := makeList_ev (l := c.bs) (by omega) (.mk 8 0 [] [])
    have k3 := makeTuple_ev (x := c.head) (l := [listT c.gs, listT c.bs]) (by simp)
    simp only [cond_true, Bool.and_self, kOptSome, b6, b66, t6]
    unfold Cl.cells
    simp only [kCons, kInt_int, kStr_str, kSl_sl, kNil, k1, k2, kOptSome, kTmV_av]
    have er : [[AV.int .i64 c.head.kind, .int .i64 c.head.num, .str c.head.str, .sl (rowsT c.head.subs)], [AV.int .i64 (makeG c.gs (.mk 8 0 [] [])).kind, .int .i64 (makeG c.gs (.mk 8 0 [] [])).num, .str (makeG c.gs (.mk 8 0 [] [])).str, .sl (rowsT (makeG c.gs (.mk 8 0 [] [])).subs)], [AV.int .i64 (makeG c.bs (.mk 8 0 [] [])).kind, .int .i64 (makeG c.bs (.mk 8 0 [] [])).num, .str (makeG c.bs (.mk 8 0 [] [])).str, .sl (rowsT (makeG c.bs (.mk 8 0 [] [])).subs)]] = rowsT [c.head, listT c.gs, listT c.bs] := by
      rw [rowsT_cons, rowsT_cons, rowsT_cons, rowsT_nil, Tm.cells_eq, Tm.cells_eq, Tm.cells_eq]; rfl
    rw [er, k3]
    simp only [kOptSome, kTmV_av]
    have ec : [[AV.int .i64 (tupT [c.head, listT c.gs, listT c.bs]).kind, .int .i64 (tupT [c.head, listT c.gs, listT c.bs]).num, .str (tupT [c.head, listT c.gs, listT c.bs]).str, .sl (rowsT (tupT [c.head, listT c.gs, listT c.bs]).subs)]] = rowsT ([c].map clT) := by
      show _ = rowsT [clT c]
      rw [rowsT_cons, rowsT_nil, Tm.cells_eq]; rfl
    rw [ec]
    exact h1
theorem spOf_ev {cs : List Cl} (hw : (selT cs).w < 1099511627775) : EVf (EV cfg) 65 [.sl (rowsC cs)] = some (.tup [(ofG cs).1.av, .int .i64 (ofG cs).2]) := by
  apply Gets.get
  refine spOf_run _ ?_
  exact spOf_loop hw cs.length 0 (by omega)
def patC (p : Tm) : Cl := ⟨p, [], [symT [36, 95]]⟩
theorem spMatch_ev {p : Tm} (hw : (selT [patC p]).w < 1099511627775) : EVf (EV cfg) 23 [p.av] = some (.tup [(ofG [patC p]).1.av, .int .i64 (ofG [patC p]).2]) := by
  have h := spOf_ev hw
  have ha := makeAtom_ev [36, 95]
  apply Gets.get
  rw [Tm.av, Tm.cells_eq]
  refine spMatch_run _ _ _ _ ?_
  rw [ha]
  simp only [kOptSome, kTmV_av]
  have er : [[AV.int .i64 p.kind, .int .i64 p.num, .str p.str, .sl (rowsT p.subs), .sl [], .sl [[AV.int .i64 (symT [36, 95]).kind, .int .i64 (symT [36, 95]).num, .str (symT [36, 95]).str, .sl (rowsT (symT [36, 95]).subs)]]]] = rowsC [patC p] := by
    unfold rowsC Cl.cells patC
    simp only [List.map_cons, List.map_nil, rowsT_cons, rowsT_nil, Tm.cells_eq]
  rw [er, h]
  generalize ofG [patC p] = r
  obtain ⟨x, e⟩ := r
  simp only []
  rw [Tm.av, Tm.cells_eq]
  exact ⟨_, rfl, rfl⟩
end Go.Proofs.YteojjjhhmbogfaaGreat
end

section
namespace Go.Av
def Rg.cells (r : Rg) : List AV := [.int .i64 r.ar, .sl (rowsT r.fst)]
def Rg.av (r : Rg) : AV := .agg r.cells
def rowsG (l : List Rg) : List (List AV) := l.map Rg.cells
def Bnd.av (b : Bnd) : AV := .agg [.bool b.all, .sl (rowsT b.keys), .sl (rowsG b.rgs)]
theorem rowsG_len (l : List Rg) : (rowsG l).length = l.length := by simp [rowsG]
theorem rowsG_get (l : List Rg) (i : Nat) : (rowsG l)[i]? = (l[i]?).map Rg.cells := by simp [rowsG]
structure RgW (r : Rg) : Prop where
  len : r.fst.length < 1099511627776
  ws : ∀ x ∈ r.fst, x.w < 1099511627776
noncomputable def meetsG (b : Bnd) (k : Tm) : Bool := decide (k.chk = 0) && (b.all || ((b.keys.any fun x => decide (x.chk = 0) && decide (x = k)) || b.rgs.any fun r => allK r.fst && withinK r k))
def AtP (i : Nat) (p : Bool) (v : AV) : Prop := ∃ j : Int, v = .int .i64 j ∧ (0 ≤ j ↔ p = true)
end Go.Av
namespace Go.Proofs.YteojjjhhmbogfaaGreat
open Go.Av
set_option maxRecDepth 100000
theorem bMayIn_ev {t : Tm} (h : t.w < 1099511627776) : EVs (EV cfg) 92 [t.av] = some (.bool (!decide (t.chk = 0))) := by
  have hc := check_ev h
  apply Gets.get
  rw [Tm.av, Tm.cells_eq] at hc ⊢
  refine bMayIn_run _ _ _ _ ?_
  rw [hc]
  simp only [kOptSome, kInt_int, bneD]
  exact ⟨_, rfl, rfl⟩
theorem bMay_ev {l : List Tm} (hlen : l.length < 1099511627776) (hw : ∀ x ∈ l, x.w < 1099511627776) : EVs (EV cfg) 54 [.sl (rowsT l)] = some (.bool (allK l)) := by
  have loop : ∀ d i : Nat, i + d = l.length → Gets (wrc31_0 (rowsT l) i) (AtP i (!allK (l.drop i))) := by
    intro d
    induction d with
    | zero =>
      intro i hi
      refine wrc31_0_step _ _ ?_
      rw [rowsT_length, decide_eq_false (by omega)]
      refine ⟨_, rfl, -1, rfl, ?_⟩
      rw [List.drop_eq_nil_of_le (by omega)]
      simp [allK]
    | succ d ihd =>
      intro i hi
      have hil : i < l.length := by omega
      refine wrc31_0_step _ _ ?_
      have hx : l[i]? = some l[i] := List.getElem?_eq_getElem hil
      have hd : l.drop i = l[i] :: l.drop (i + 1) := List.drop_eq_getElem_cons hil
      have h1 := bMayIn_ev (hw _ (List.mem_of_getElem? hx))
      have h2 := ihd (i + 1) (by omega)
      rw [rowsT_length, decide_eq_true (show (i : Int) < (l.length : Int) by omega), leInt_zero, ltInt_nat, decide_eq_true hil, rowsT_at hx, wrap_succ hil hlen]
      simp only [cond_true, Bool.and_self, length_cells, Nat.beq_refl, take_cells, kTmC_cells, show Nat.ble 4 4 = true from rfl, av_unf, h1, kOptSome, kBool_bool]
      by_cases hg : l[i].chk = 0
      · rw [decide_eq_true hg]
        refine h2.mono ?_
        rintro _ ⟨j, rfl, hj⟩
        refine ⟨j, rfl, ?_⟩
        rw [hd, allK, List.all_cons, decide_eq_true hg, Bool.true_and]; exact hj
      · rw [decide_eq_false hg]
        refine ⟨_, rfl, i, rfl, ?_⟩
        rw [hd, allK, List.all_cons, decide_eq_false hg]
        exact ⟨fun _ => rfl, fun _ => by omega⟩
  obtain ⟨_, h1, j, rfl, hj⟩ := loop l.length 0 (by omega)
  rw [List.drop_zero] at hj
  have h2 : EVs (EV cfg) 31 [.sl (rowsT l), .fn (.func 92) [] []] = some (.int .i64 j) := Gets.get (indMay_run _ ⟨_, h1, rfl⟩)
  have h3 : EVs (EV cfg) 55 [.sl (rowsT l), .fn (.func 92) [] []] = some (.bool (decide (j ≥ 0))) := by
    apply Gets.get
    refine contMay_run _ ?_
    rw [h2]; exact ⟨_, rfl, rfl⟩
  apply Gets.get
  refine bMay_run _ ?_
  rw [h3]
  refine ⟨_, rfl, ?_⟩
  show AV.bool (!decide (j ≥ 0)) = _
  congr 1
  cases ha : allK l with
  | false => rw [ha] at hj; rw [decide_eq_true (hj.2 rfl)]; rfl
  | true =>
    rw [ha] at hj
    have : ¬ j ≥ 0 := fun h => by have := hj.1 h; cases this
    rw [decide_eq_false this]; rfl
theorem bEqual_ev {l m : List Tm} (hl : l.length < 1099511627776) (hw : ∀ x ∈ l, x.w < 1099511627776) : EVs (EV cfg) 110 [.sl (rowsT l), .sl (rowsT m), .fn (.func 42) [] []] = some (.bool (decide (l = m))) := by
  apply Gets.get
  refine equalT_run _ _ ?_
  rw [rowsT_length, rowsT_length, bneD]
  by_cases hlm : l.length = m.length
  · have loop : ∀ d i : Nat, i + d = l.length → Gets (wrc110_0 (rowsT l) (rowsT m) i) (· = .bool (decide (l.drop i = m.drop i))) := by
      intro d
      induction d with
      | zero =>
        intro i hi
        refine wrc110_0_step _ _ _ ?_
        rw [rowsT_length, decide_eq_false (by omega), List.drop_eq_nil_of_le (by omega), List.drop_eq_nil_of_le (by omega)]
        exact ⟨_, rfl, rfl⟩
      | succ d ihd =>
        intro i hi
        have hil : i < l.length := by omega
        have him : i < m.length := by omega
        refine wrc110_0_step _ _ _ ?_
        have hx : l[i]? = some l[i] := List.getElem?_eq_getElem hil
        have hy : m[i]? = some m[i] := List.getElem?_eq_getElem him
        have hd : l.drop i = l[i] :: l.drop (i + 1) := List.drop_eq_getElem_cons hil
        have hd' : m.drop i = m[i] :: m.drop (i + 1) := List.drop_eq_getElem_cons him
        have h1 := same_dec (b := m[i]) (hw _ (List.mem_of_getElem? hx))
        have h2 := ihd (i + 1) (by omega)
        rw [rowsT_length, rowsT_length, decide_eq_true (show (i : Int) < (l.length : Int) by omega), leInt_zero, ltInt_nat, ltInt_nat, decide_eq_true hil, decide_eq_true him, rowsT_at hx, wrap_succ hil hl]
        simp only [cond_true, Bool.and_self, length_cells, Nat.beq_refl, take_cells, kTmC_cells, show Nat.ble 4 4 = true from rfl]
        rw [rowsT_at hy]
        simp only [cond_true, length_cells, Nat.beq_refl, take_cells, kTmC_cells, show Nat.ble 4 4 = true from rfl, av_unf, h1, kOptSome, kBool_bool]
        rw [hd, hd']
        by_cases he : l[i] = m[i]
        · rw [decide_eq_true he]
          refine h2.mono ?_
          rintro _ rfl
          rw [he]
          congr 1
          exact decide_eq_decide.2 ⟨fun h => by rw [h], fun h => (List.cons.inj h).2⟩
        · rw [decide_eq_false he]
          refine ⟨_, rfl, ?_⟩
          rw [decide_eq_false (fun h => he (List.cons.inj h).1)]
    rw [decide_eq_true (show (l.length : Int) = m.length by omega)]
    have := loop l.length 0 (by omega)
    simpa using this
  · rw [decide_eq_false (show ¬ (l.length : Int) = m.length by omega)]
    refine ⟨_, rfl, ?_⟩
    rw [decide_eq_false (fun h => hlm (by rw [h]))]
theorem bBegins_ev {l m : List Tm} (hl : l.length < 1099511627776) (hw : ∀ x ∈ l, x.w < 1099511627776) : EVs (EV cfg) 81 [.sl (rowsT l), .sl (rowsT m)] = some (.bool (decide (m.length ≤ l.length) && decide (l.take m.length = m))) := by
  have he := bEqual_ev (l := l.take m.length) (m := m) (by rw [List.length_take]; omega) (fun x hx => hw x (List.mem_of_mem_take hx))
  apply Gets.get
  refine bBegins_run _ _ ?_
  rw [rowsT_length, rowsT_length]
  by_cases h : m.length ≤ l.length
  · have hle : leInt (m.length : Int) (l.length : Int) = true := by simp only [leInt]; exact decide_eq_true (by omega)
    have r4 : rowsOk 4 (rowsT l) = true := rowsOk_rowsT _
    rw [decide_eq_true (show (l.length : Int) ≥ m.length by omega), decide_eq_true h, leInt_zero, hle, r4, Int.toNat_natCast, Nat.sub_zero, rowsT_take, he]
    simp only [Bool.and_self, cond_true, kOptSome, kBool_bool, Bool.true_and]
    exact ⟨_, rfl, rfl⟩
  · rw [decide_eq_false (show ¬ (l.length : Int) ≥ m.length by omega), decide_eq_false h]
    exact ⟨_, rfl, rfl⟩
theorem bWithin_ev (r : Rg) {k : Tm} (hk : k.w < 1099511627776) : EVs (EV cfg) 39 [r.av, k.av] = some (.bool (withinK r k)) := by
  have hwe := k.w_eq
  have hb := bBegins_ev (l := k.subs) (m := r.fst) (by have := len_wL k.subs; omega) (fun x hx => by have := wL_mem hx; omega)
  apply Gets.get
  rw [agg_av k]
  refine bWithin_run _ _ _ _ _ _ ?_
  rw [hb, beqI, rowsT_length, beqI]
  unfold withinK
  cases decide (k.kind = 7) <;> cases decide ((k.subs.length : Int) = r.ar) <;> exact ⟨_, rfl, rfl⟩
theorem bComp_ev {l m : List Tm} (hl : l.length < 1099511627776) (hlm : l.length = m.length) (hw : ∀ x ∈ l, x.w < 1099511627776) (hm : ∀ x ∈ m, x.w < 1099511627776) : EVs (EV cfg) 63 [.sl (rowsT l), .sl (rowsT m), .fn (.func 25) [] []] = some (.int .i64 (cmpE l m)) := by
  have loop : ∀ d i : Nat, i + d = l.length → Gets (wrc63_0 (rowsT l) (rowsT m) i) (· = .int .i64 (cmpE (l.drop i) (m.drop i))) := by
    intro d
    induction d with
    | zero =>
      intro i hi
      refine wrc63_0_step _ _ _ ?_
      rw [rowsT_length, rowsT_length, decide_eq_false (show ¬ ((i : Int) < (l.length : Int)) by omega), decide_eq_false (show ¬ ((l.length : Int) < (m.length : Int)) by omega), List.drop_eq_nil_of_le (by omega), List.drop_eq_nil_of_le (by omega), cmpE_nil]
      exact ⟨_, rfl, rfl⟩
    | succ d ihd =>
      intro i hi
      have hil : i < l.length := by omega
      have him : i < m.length := by omega
      refine wrc63_0_step _ _ _ ?_
      have hx : l[i]? = some l[i] := List.getElem?_eq_getElem hil
      have hy : m[i]? = some m[i] := List.getElem?_eq_getElem him
      have hd : l.drop i = l[i] :: l.drop (i + 1) := List.drop_eq_getElem_cons hil
      have hd' : m.drop i = m[i] :: m.drop (i + 1) := List.drop_eq_getElem_cons him
      have h1 := compare_ev (ok_of_w _ (hw _ (List.mem_of_getElem? hx))) (ok_of_w _ (hm _ (List.mem_of_getElem? hy)))
      have h2 := ihd (i + 1) (by omega)
      rw [rowsT_length, rowsT_length, decide_eq_true (show (i : Int) < (l.length : Int) by omega), leInt_zero, ltInt_nat, ltInt_nat, decide_eq_true hil, decide_eq_true him, decide_eq_false (show ¬ (i : Int) ≥ (m.length : Int) by omega), rowsT_at hx, wrap_succ hil hl]
      simp only [cond_true, cond_false, Bool.and_self, length_cells, Nat.beq_refl, take_cells, kTmC_cells, show Nat.ble 4 4 = true from rfl]
      rw [rowsT_at hy]
      simp only [cond_true, length_cells, Nat.beq_refl, take_cells, kTmC_cells, show Nat.ble 4 4 = true from rfl, av_unf, h1, kOptSome, kInt_int, bneD]
      rw [hd, hd', cmpE_cons]
      by_cases he : cmpT l[i] m[i] = 0
      · rw [decide_eq_true he, if_neg (by omega)]
        exact h2
      · rw [decide_eq_false he, if_pos he]
        exact ⟨_, rfl, rfl⟩
  apply Gets.get
  refine compT_run _ _ ?_
  simpa using loop l.length 0 (by omega)
theorem bSide_ev {r : Rg} (hr : RgW r) {k : Tm} (hk : k.w < 1099511627776) : EVs (EV cfg) 21 [r.av, k.av] = some (.int .i64 (sideG r k)) := by
  have hwe := k.w_eq
  have hlk := len_wL k.subs
  have m1 := bMay_ev (l := [k]) (by simp) (by simpa using hk)
  have m2 := bMay_ev hr.len hr.ws
  have er : [[AV.int .i64 k.kind, .int .i64 k.num, .str k.str, .sl (rowsT k.subs)]] = rowsT [k] := by rw [rowsT_cons, rowsT_nil, Tm.cells_eq]
  have k1 : allK [k] = decide (k.chk = 0) := by simp [allK]
  apply Gets.get
  rw [agg_av k]
  refine bSide_run _ _ _ _ _ _ ?_
  rw [rowsT_length, er, m1, m2, k1, cmp_ev, rowsT_length, cmp_ev]
  unfold sideG
  by_cases h1 : r.ar < (r.fst.length : Int)
  · rw [decide_eq_true h1, if_pos (.inl h1)]; exact ⟨_, rfl, rfl⟩
  · rw [decide_eq_false h1]
    by_cases h2 : k.chk = 0
    · rw [decide_eq_true h2]
      cases h3 : allK r.fst with
      | false =>
        rw [if_pos (.inr (.inr rfl))]; exact ⟨_, rfl, rfl⟩
      | true =>
        rw [if_neg (fun h => h.elim h1 fun h => h.elim (fun h => h h2) fun h => by cases h)]
        simp only [cond_false, kOptSome, kBool_bool, Bool.not_true, kInt_int, bneD]
        unfold sideC
        by_cases h4 : numC k.kind 7 = 0
        · rw [decide_eq_true h4, h4, lexI_zero]
          by_cases h5 : numC (k.subs.length : Int) r.ar = 0
          · have h6 := numC_zero.1 h5
            have hle : leInt (r.fst.length : Int) (k.subs.length : Int) = true := by simp only [leInt]; exact decide_eq_true (by omega)
            have r4 : rowsOk 4 (rowsT k.subs) = true := rowsOk_rowsT _
            have hc := bComp_ev (l := k.subs.take r.fst.length) (m := r.fst) (by rw [List.length_take]; omega) (by rw [List.length_take]; omega) (fun x hx => by have := wL_mem (List.mem_of_mem_take hx); omega) hr.ws
            rw [decide_eq_true h5, h5, lexI_zero, leInt_zero, hle, r4, Int.toNat_natCast, Nat.sub_zero, rowsT_take, hc]
            exact ⟨_, rfl, rfl⟩
          · rw [decide_eq_false h5, lexI_ne h5]; exact ⟨_, rfl, rfl⟩
        · rw [decide_eq_false h4, lexI_ne h4]; exact ⟨_, rfl, rfl⟩
    · rw [decide_eq_false h2, if_pos (.inr (.inl h2))]; exact ⟨_, rfl, rfl⟩
theorem bMeets_ev {b : Bnd} (hkl : b.keys.length < 1099511627776) (hkw : ∀ x ∈ b.keys, x.w < 1099511627776) (hrl : b.rgs.length < 1099511627776) (hrw : ∀ r ∈ b.rgs, RgW r) {k : Tm} (hk : k.w < 1099511627776) : EVs (EV cfg) 19 [b.av, k.av] = some (.bool (meetsG b k)) := by
  have m1 := bMay_ev (l := [k]) (by simp) (by simpa using hk)
  have k1 : ∀ k : Tm, allK [k] = decide (k.chk = 0) := fun k => by simp [allK]
  have er : ∀ k : Tm, [[AV.int .i64 k.kind, .int .i64 k.num, .str k.str, .sl (rowsT k.subs)]] = rowsT [k] := fun k => by rw [rowsT_cons, rowsT_nil, Tm.cells_eq]
  have hin : ∀ x ∈ b.keys, EVs (EV cfg) 56 [x.av, .cptr [.int .i64 k.kind, .int .i64 k.num, .str k.str, .sl (rowsT k.subs)] 0] = some (.bool (decide (x.chk = 0) && decide (x = k))) := by
    intro x hx
    have m2 := bMay_ev (l := [x]) (by simp) (by simpa using hkw x hx)
    have hs := same_dec (b := k) (hkw x hx)
    apply Gets.get
    rw [agg_av x]
    refine meetsKey_run _ _ _ _ _ _ _ _ ?_
    rw [er, m2, k1]
    simp only [kOptSome, kBool_bool, av_unf, hs]
    cases decide (x.chk = 0) <;> exact ⟨_, rfl, rfl⟩
  have hrin : ∀ r ∈ b.rgs, EVs (EV cfg) 57 [r.av, .cptr [.int .i64 k.kind, .int .i64 k.num, .str k.str, .sl (rowsT k.subs)] 0] = some (.bool (allK r.fst && withinK r k)) := by
    intro r hr
    have m2 := bMay_ev (hrw r hr).len (hrw r hr).ws
    have hs := bWithin_ev r hk
    apply Gets.get
    refine meetsRg_run _ _ _ _ _ _ ?_
    rw [m2, av_unf k]
    have e : (AV.agg [.int .i64 r.ar, .sl (rowsT r.fst)]) = r.av := rfl
    simp only [kOptSome, kBool_bool, e, hs]
    cases allK r.fst <;> exact ⟨_, rfl, rfl⟩
  have loopK : ∀ d i : Nat, i + d = b.keys.length → Gets (wrc31_0a (rowsT b.keys) k.kind k.num k.str (rowsT k.subs) i) (AtP i ((b.keys.drop i).any fun x => decide (x.chk = 0) && decide (x = k))) := by
    intro d
    induction d with
    | zero =>
      intro i hi
      refine wrc31_0a_step _ _ _ _ _ _ ?_
      rw [rowsT_length, decide_eq_false (by omega)]
      refine ⟨_, rfl, -1, rfl, ?_⟩
      rw [List.drop_eq_nil_of_le (by omega)]
      simp
    | succ d ihd =>
      intro i hi
      have hil : i < b.keys.length := by omega
      refine wrc31_0a_step _ _ _ _ _ _ ?_
      have hx : b.keys[i]? = some b.keys[i] := List.getElem?_eq_getElem hil
      have hd : b.keys.drop i = b.keys[i] :: b.keys.drop (i + 1) := List.drop_eq_getElem_cons hil
      have h1 := hin _ (List.mem_of_getElem? hx)
      have h2 := ihd (i + 1) (by omega)
      rw [rowsT_length, decide_eq_true (show (i : Int) < (b.keys.length : Int) by omega), leInt_zero, ltInt_nat, decide_eq_true hil, rowsT_at hx, wrap_succ hil hkl]
      simp only [cond_true, Bool.and_self, length_cells, Nat.beq_refl, take_cells, kTmC_cells, show Nat.ble 4 4 = true from rfl, av_unf, h1, kOptSome, kBool_bool]
      rw [hd, List.any_cons]
      cases hg : (decide (b.keys[i].chk = 0) && decide (b.keys[i] = k)) with
      | true =>
        refine ⟨_, rfl, i, rfl, ?_⟩
        exact ⟨fun _ => rfl, fun _ => by omega⟩
      | false =>
        refine h2.mono ?_
        rintro _ ⟨j, rfl, hj⟩
        exact ⟨j, rfl, by rw [Bool.false_or]; exact hj⟩
  have loopR : ∀ d i : Nat, i + d = b.rgs.length → Gets (wrc80_0 (rowsG b.rgs) k.kind k.num k.str (rowsT k.subs) i) (AtP i ((b.rgs.drop i).any fun r => allK r.fst && withinK r k)) := by
    intro d
    induction d with
    | zero =>
      intro i hi
      refine wrc80_0_step _ _ _ _ _ _ ?_
      rw [rowsG_len, decide_eq_false (by omega)]
      refine ⟨_, rfl, -1, rfl, ?_⟩
      rw [List.drop_eq_nil_of_le (by omega)]
      simp
    | succ d ihd =>
      intro i hi
      have hil : i < b.rgs.length := by omega
      refine wrc80_0_step _ _ _ _ _ _ ?_
      have hx : b.rgs[i]? = some b.rgs[i] := List.getElem?_eq_getElem hil
      have hd : b.rgs.drop i = b.rgs[i] :: b.rgs.drop (i + 1) := List.drop_eq_getElem_cons hil
      have h1 := hrin _ (List.mem_of_getElem? hx)
      have h2 := ihd (i + 1) (by omega)
      have gx : List.get?Internal (rowsG b.rgs) (Int.toNat (i : Int)) = some b.rgs[i].cells := by
        rw [get?Internal_eq, Int.toNat_natCast, rowsG_get, hx]; rfl
      rw [rowsG_len, decide_eq_true (show (i : Int) < (b.rgs.length : Int) by omega), leInt_zero, ltInt_nat, decide_eq_true hil, gx, wrap_succ hil hrl]
      generalize b.rgs[i] = r at *
      have e : (AV.agg [.int .i64 r.ar, .sl (rowsT r.fst)]) = r.av := rfl
      have c2 : r.cells.length = 2 := rfl
      have t2 : List.take 2 r.cells = r.cells := rfl
      have kc : ∀ {α : Type} (K : Int → List (List AV) → Option α), (kCons r.cells fun c cs => kInt .i64 c fun n => kCons cs fun c cs => kSl c fun rows => kNil cs (K n rows)) = K r.ar (rowsT r.fst) := fun K => rfl
      simp only [cond_true, Bool.and_self, c2, t2, Nat.beq_refl, show Nat.ble 2 2 = true from rfl, kOptSome]
      rw [kc]
      simp only [e, h1, kOptSome, kBool_bool]
      rw [hd, List.any_cons]
      cases hg : (allK r.fst && withinK r k) with
      | true =>
        refine ⟨_, rfl, i, rfl, ?_⟩
        exact ⟨fun _ => rfl, fun _ => by omega⟩
      | false =>
        refine h2.mono ?_
        rintro _ ⟨j, rfl, hj⟩
        exact ⟨j, rfl, by rw [Bool.false_or]; exact hj⟩
  obtain ⟨_, a1, j, rfl, hj⟩ := loopK b.keys.length 0 (by omega)
  obtain ⟨_, b1, j', rfl, hj'⟩ := loopR b.rgs.length 0 (by omega)
  rw [List.drop_zero] at hj hj'
  have a2 : EVs (EV cfg) 31 [.sl (rowsT b.keys), .fn (.func 56) [] [.cptr [.int .i64 k.kind, .int .i64 k.num, .str k.str, .sl (rowsT k.subs)] 0]] = some (.int .i64 j) := Gets.get (indKey_run _ _ _ _ _ ⟨_, a1, rfl⟩)
  have a3 : EVs (EV cfg) 55 [.sl (rowsT b.keys), .fn (.func 56) [] [.cptr [.int .i64 k.kind, .int .i64 k.num, .str k.str, .sl (rowsT k.subs)] 0]] = some (.bool (decide (j ≥ 0))) := by
    apply Gets.get
    refine contKey_run _ _ _ _ _ ?_
    rw [a2]; exact ⟨_, rfl, rfl⟩
  have b2 : EVs (EV cfg) 80 [.sl (rowsG b.rgs), .fn (.func 57) [] [.cptr [.int .i64 k.kind, .int .i64 k.num, .str k.str, .sl (rowsT k.subs)] 0]] = some (.int .i64 j') := Gets.get (indRg_run _ _ _ _ _ ⟨_, b1, rfl⟩)
  have b3 : EVs (EV cfg) 37 [.sl (rowsG b.rgs), .fn (.func 57) [] [.cptr [.int .i64 k.kind, .int .i64 k.num, .str k.str, .sl (rowsT k.subs)] 0]] = some (.bool (decide (j' ≥ 0))) := by
    apply Gets.get
    refine contRg_run _ _ _ _ _ ?_
    rw [b2]; exact ⟨_, rfl, rfl⟩
  have d1 : ∀ {j : Int} {p : Bool}, (0 ≤ j ↔ p = true) → decide (j ≥ 0) = p := fun {j p} h => by
    cases p with
    | true => exact decide_eq_true (h.2 rfl)
    | false => exact decide_eq_false (fun hh => by have := h.1 hh; cases this)
  rw [d1 hj] at a3
  rw [d1 hj'] at b3
  apply Gets.get
  rw [agg_av k]
  refine bMeets_run _ _ _ _ _ _ _ ?_
  rw [er, m1, k1, a3, b3]
  unfold meetsG
  simp only [kOptSome, kBool_bool]
  cases decide (k.chk = 0) with
  | false => exact ⟨_, rfl, rfl⟩
  | true =>
    cases b.all with
    | true => exact ⟨_, rfl, rfl⟩
    | false =>
      cases (b.keys.any fun x => decide (x.chk = 0) && decide (x = k)) <;> exact ⟨_, rfl, rfl⟩
end Go.Proofs.YteojjjhhmbogfaaGreat
end

section
namespace Go.Proofs.YteojjjhhmbogfaaGreat
open Go.Av
set_option maxRecDepth 100000
def rgTys : List TypeId := [36, 24, 22, 3, 9]
theorem rgTys_good : ∀ t ∈ rgTys, goodTy Tryz.prog rgTys t = true := by
  have : rgTys.all (goodTy Tryz.prog rgTys) = true := by kernel_rfl
  exact List.all_eq_true.1 this
theorem lay_tlistR {n : Nat} {cz : List AV} (h : Lay Tryz.prog n 22 cz) : ∃ l : List Tm, cz = [.sl (rowsT l)] ∧ wL l < wtL cz := (lay_terms term_tys n).2 cz h
theorem lay_range {n : Nat} {cz : List AV} (h : Lay Tryz.prog n 36 cz) : ∃ r : Rg, cz = r.cells ∧ wL r.fst < wtL cz := by
  cases n with
  | zero => exact absurd h (by unfold Lay; exact id)
  | succ n =>
    unfold Lay at h
    rw [Tryz.underlying36] at h
    obtain ⟨hl, hf⟩ := h
    have hl : cz.length = 2 := by rw [hl]; kernel_rfl
    match cz, hl with
    | [a, b], _ =>
      have h0 : Lay Tryz.prog n 3 ((([a, b] : List AV).drop 0).take (Tryz.prog.cellsOf 3)) := hf 0 _ rfl
      have h1 : Lay Tryz.prog n 22 ((([a, b] : List AV).drop 1).take (Tryz.prog.cellsOf 22)) := hf 1 _ rfl
      rw [show Tryz.prog.cellsOf 3 = 1 by kernel_rfl] at h0
      rw [show Tryz.prog.cellsOf 22 = 1 by kernel_rfl] at h1
      obtain ⟨m, e0⟩ := lay_int h0
      obtain ⟨L, e1, w1⟩ := lay_tlistR h1
      simp at e0 e1 w1
      subst e0 e1
      refine ⟨⟨m, L⟩, rfl, ?_⟩
      simp at w1 ⊢
      omega
theorem open_range {H : Type} {enc : TypeId × Value → H} {W : World} {r : Reach} {b0 : Nat} {v : Value} {d : DataW H} {ps : List MemPlace} (hval : Value.okWide Tryz.prog W r b0 36 v) (hd : DataW.Trod enc Tryz.prog W 0 (fun _ => true) true 36 v d ps) :
    ∃ r : Rg, Opened enc Tryz.prog W 36 v d ps r.av ∧ wL r.fst ≤ Rows.uptoBulk d := by
  obtain ⟨cz, n, h1, h2, h3⟩ := open_struct rgTys_good (by simp [rgTys]) Tryz.underlying36 hval hd
  obtain ⟨r, rfl, w0⟩ := lay_range h2
  exact ⟨r, h1, by omega⟩
end Go.Proofs.YteojjjhhmbogfaaGreat
end

section
namespace Go.Av
def okC (c : Cl) : Bool := headG c.head && !c.bs.isEmpty && (c.gs.all (fun e => decide (checkG (varsG c.head) e = 0)) && c.bs.all (fun e => decide (checkG (varsG c.head) e = 0)))
theorem clauseG_clT (c : Cl) : clauseG (clT c) = if okC c then some c else none := by
  unfold clauseG clT
  rw [if_pos (show (tupT [c.head, listT c.gs, listT c.bs]).kind = 7 from rfl)]
  show (if headG c.head && ((itemsG (listT c.gs)).2 && ((itemsG (listT c.bs)).2 && !(itemsG (listT c.bs)).1.isEmpty)) && ((itemsG (listT c.gs)).1.all (fun e => decide (checkG (varsG c.head) e = 0)) && (itemsG (listT c.bs)).1.all (fun e => decide (checkG (varsG c.head) e = 0))) then some (Cl.mk c.head (itemsG (listT c.gs)).1 (itemsG (listT c.bs)).1) else none) = _
  rw [itemsG_list, itemsG_list]
  simp only [Bool.true_and]
  rfl
theorem seqC_clT : ∀ cs : List Cl, seqC (cs.map clT) = if cs.all okC then some cs else none
  | [] => rfl
  | c :: cs => by
    rw [List.map_cons, seqC, clauseG_clT, seqC_clT cs, List.all_cons]
    cases okC c <;> cases cs.all okC <;> rfl
theorem clsG_selT (cs : List Cl) : clsG (selT cs) = if (selT cs).chk = 0 then (if cs.all okC && !cs.isEmpty then (cs, 0) else ([], 10)) else ([], 2) := by
  unfold clsG
  have h : itemsG (selT cs) = (cs.map clT, true) := itemsG_list _
  rw [h]
  simp only [seqC_clT, Bool.true_and]
  cases h1 : cs.all okC <;> cases cs <;> simp
structure SelOk (cs : List Cl) : Prop where
  chk : (selT cs).chk = 0
  ok : ∀ c ∈ cs, okC c = true
  ne : cs ≠ []
theorem clsG_zero {cs : List Cl} : (clsG (selT cs)).2 = 0 ↔ SelOk cs := by
  rw [clsG_selT]
  by_cases h : (selT cs).chk = 0
  · rw [if_pos h]
    cases h1 : cs.all okC && !cs.isEmpty with
    | true =>
      rw [Bool.and_eq_true, List.all_eq_true] at h1
      exact ⟨fun _ => ⟨h, h1.1, by rintro rfl; exact absurd h1.2 (by simp)⟩, fun _ => rfl⟩
    | false =>
      refine ⟨fun h => (by cases h), fun g => ?_⟩
      rw [List.all_eq_true.2 g.ok, Bool.true_and] at h1
      exact absurd (List.isEmpty_iff.1 (by simpa using h1)) g.ne
  · rw [if_neg h]
    exact ⟨fun h => (by cases h), fun g => absurd g.chk h⟩
theorem SelOk.of {cs : List Cl} (h : SelOk cs) : ofG cs = (selT cs, 0) := by
  unfold ofG
  rw [if_pos (clsG_zero.2 h)]
theorem ofG_zero {cs : List Cl} (h : (ofG cs).2 = 0) : SelOk cs := by
  unfold ofG at h
  split at h
  · rename_i h0; exact clsG_zero.1 h0
  · rename_i h0; exact absurd h h0
theorem listT_words : ∀ l : List Tm, (listT l).words = 1 + l.length + wordsL l
  | [] => by decide
  | x :: l => by
    have h : (listT (x :: l)).words = 1 + (x.words + ((listT l).words + 0)) := by
      show (Tm.mk 9 0 [] [x, listT l]).words = _
      rw [Tm.words]; simp [wordsL, Tm.own]
    rw [h, listT_words l, wordsL, List.length_cons]; omega
theorem listT_parts : ∀ l : List Tm, (listT l).parts = partsL l
  | [] => by decide
  | x :: l => by
    have h : (listT (x :: l)).parts = (x.parts && ((listT l).parts && true)) := by
      show (Tm.mk 9 0 [] [x, listT l]).parts = _
      rw [Tm.parts]; simp [partsL, soundB]
    rw [h, listT_parts l, partsL, Bool.and_true]
theorem clT_words (c : Cl) : (clT c).words = 4 + c.head.words + (c.gs.length + wordsL c.gs) + (c.bs.length + wordsL c.bs) := by
  have h : (clT c).words = 2 + (c.head.words + ((listT c.gs).words + ((listT c.bs).words + 0))) := by
    show (Tm.mk 7 0 [] [c.head, listT c.gs, listT c.bs]).words = _
    rw [Tm.words]; simp [wordsL, Tm.own]
  rw [h, listT_words, listT_words]; omega
theorem clT_parts (c : Cl) : (clT c).parts = (c.head.parts && (partsL c.gs && partsL c.bs)) := by
  have h : (clT c).parts = (c.head.parts && ((listT c.gs).parts && ((listT c.bs).parts && true))) := by
    show (Tm.mk 7 0 [] [c.head, listT c.gs, listT c.bs]).parts = _
    rw [Tm.parts]; simp [partsL, soundB]
  rw [h, listT_parts, listT_parts, Bool.and_true]
theorem sel_one {c : Cl} : (selT [c]).chk = 0 ↔ (clT c).parts = true ∧ 2 + (clT c).words ≤ 65536 := by
  rw [chk_zero, selT, listT_words, listT_parts]
  simp [partsL, wordsL]
theorem SelOk.one {cs : List Cl} (h : SelOk cs) {c : Cl} (hc : c ∈ cs) : SelOk [c] := by
  obtain ⟨h1, h2⟩ := chk_zero.1 h.chk
  rw [selT, listT_parts] at h1
  rw [selT, listT_words] at h2
  have hm := List.mem_map_of_mem (f := clT) hc
  have := wordsL_mem hm
  have hl : 1 ≤ cs.length := List.length_pos_of_mem hc
  rw [List.length_map] at h2
  exact ⟨sel_one.2 ⟨partsL_mem h1 _ hm, by omega⟩, by simpa using h.ok c hc, by simp⟩
end Go.Av
end

section
namespace Go.Proofs.YteojjjhhmbogfaaGreat
open Go.Av
def SizeP (t : Tm) (most : Int) (v : AV) : Prop := ∃ n : Int, v = .int .i64 n ∧ 1 ≤ n ∧ n ≤ most ∧ (n < most → t.w ≤ 101 * n ∧ t.words ≤ 2 * n)
theorem sizeV_ev (t : Tm) : t.Ok → ∀ most : Int, 1 ≤ most → most ≤ 1073741824 → Gets (EVs (EV cfg) 71 [t.av, .int .i64 most]) (SizeP t most) := by
  induction t using Tm.ind with
  | _ k n s l ih =>
    intro hok most h1 hmx
    by_cases hs : s.length ≤ 100
    · have loop : ∀ (d i : Nat) (m : Int), i + d = l.length → 1 ≤ m → m ≤ most → (m < most → (1 + s.length : Nat) + wL (l.take i) ≤ 101 * m ∧ 2 + wordsL (l.take i) ≤ 2 * m) → Gets (wh47_0 most m i k n s (rowsT l)) (SizeP (.mk k n s l) most) := by
        intro d
        induction d with
        | zero =>
          intro i m hi hm1 hm2 hmw
          refine wh47_0_step _ _ _ _ _ _ _ ?_
          rw [rowsT_length, decide_eq_false (by omega)]
          refine ⟨_, rfl, m, rfl, hm1, hm2, fun hlt => ?_⟩
          have hmw := hmw hlt
          rw [List.take_of_length_le (by omega)] at hmw
          have := (Tm.mk k n s l).own_le
          rw [Tm.w_mk, Tm.words]
          omega
        | succ d ihd =>
          intro i m hi hm1 hm2 hmw
          refine wh47_0_step _ _ _ _ _ _ _ ?_
          have hil : i < l.length := by omega
          have hx : l[i]? = some l[i] := List.getElem?_eq_getElem hil
          have hxl := List.mem_of_getElem? hx
          have hix := ih l[i] hxl (hok.sub hxl)
          by_cases hm : m < most
          · have hmw := hmw hm
            rw [wrap_succ hil hok.len, wrap64 (x := most - m) (by omega) (by omega)]
            simp [hil, hx, hm]
            refine Gets.bind (hix (most - m) (by omega) (by omega)) ?_
            rintro _ ⟨n'', rfl, q1, q2, q3⟩
            have hg := ihd (i + 1) (m + n'') (by omega) (by omega) (by omega) (fun hlt => by
              have := q3 (by omega)
              rw [List.take_add_one, hx, Option.toList_some, wL_append, wordsL_append, wL_cons, wL_nil, wordsL, wordsL]
              omega)
            simp only [kInt_int]
            rw [wrap64 (x := m + n'') (by omega) (by omega)]
            simpa using hg
          · simp [hil, hm]
            exact ⟨m, rfl, hm1, hm2, fun h => absurd h hm⟩
      rw [Tm.av_mk]
      refine kitSize_run _ _ _ _ _ ?_
      rw [decide_eq_false (by omega)]
      by_cases h2 : (l.length : Int) > most
      · rw [rowsT_length, decide_eq_true h2]
        exact ⟨_, rfl, most, rfl, h1, Int.le_refl _, fun h => absurd h (by omega)⟩
      · rw [rowsT_length, decide_eq_false h2]
        exact loop l.length 0 1 (by omega) (by omega) (by omega) (fun _ => by simp [wordsL]; omega)
    · rw [Tm.av_mk]
      refine kitSize_run _ _ _ _ _ ?_
      rw [decide_eq_true (by omega)]
      exact ⟨_, rfl, most, rfl, h1, Int.le_refl _, fun h => absurd h (by omega)⟩
def BigP (t : Tm) (most : Int) (v : AV) : Prop := ∃ b : Bool, v = .bool b ∧ (b = false → t.w ≤ 101 * most ∧ t.words ≤ 2 * most)
theorem bigV_ev {t : Tm} (h : t.Ok) {most : Int} (h1 : 1 ≤ most) (h2 : most ≤ 1000000000) : Gets (EVs (EV cfg) 27 [t.av, .int .i64 most]) (BigP t most) := by
  have h1 := sizeV_ev t h (most + 1) (by omega) (by omega)
  rw [Tm.av, Tm.cells_eq] at h1 ⊢
  refine kitBig_run _ _ _ _ _ ?_
  rw [wrap64 (by omega) (by omega)]
  refine Gets.bind h1 ?_
  rintro _ ⟨n, rfl, q1, q2, q3⟩
  simp only [kInt_int]
  refine ⟨_, rfl, _, rfl, fun hb => ?_⟩
  have hb : ¬ n > most := of_decide_eq_false hb
  have := q3 (by omega)
  omega
end Go.Proofs.YteojjjhhmbogfaaGreat
end

section
namespace Go.Av
theorem clT_w (c : Cl) : (clT c).w ≤ 3 + c.head.w + (c.gs.length + wL c.gs) + (c.bs.length + wL c.bs) := by
  have h1 := listT_w c.gs
  have h2 := listT_w c.bs
  have : (clT c).w = 1 + (c.head.w + ((listT c.gs).w + ((listT c.bs).w + 0))) := by
    rw [Tm.w_eq]
    show 1 + 0 + wL [c.head, listT c.gs, listT c.bs] = _
    simp only [wL_cons, wL_nil]
  omega
theorem sel1_w (c : Cl) : (selT [c]).w ≤ 5 + c.head.w + (c.gs.length + wL c.gs) + (c.bs.length + wL c.bs) := by
  have h1 := listT_w [clT c]
  have h2 := clT_w c
  simp only [List.length_cons, List.length_nil, wL_cons, wL_nil] at h1
  show (listT [clT c]).w ≤ _
  omega
theorem okT_w {t : Tm} (h : t.w ≤ 1048576) : t.Ok := ok_of_w t (by omega)
end Go.Av
end

section
namespace Go.Proofs.YteojjjhhmbogfaaGreat.K
open Go.Av
set_option maxRecDepth 1000000
theorem boundAwake_k4 : EVs (EV cfg) 158 [.agg [.int .i64 2, .int .i64 0, .str [36, 95], .sl []]] = some (.tup [.int .i64 0, .bool false]) := factS (.nil) 1000 1000 (by kernel_rfl)
theorem boundAwake_k9 : EVs (EV cfg) 30 [.agg [.int .i64 2, .int .i64 0, .str [36, 49], .sl []]] = some (.bool false) := factS (.nil) 1000 1000 (by kernel_rfl)
theorem boundAwake_k25 : EVs (EV cfg) 93 [.agg [.int .i64 7, .int .i64 0, .str [], .sl [[.int .i64 2, .int .i64 0, .str [116], .sl []], [.int .i64 2, .int .i64 0, .str [36, 49], .sl []]]]] = some (.int .i64 0) := factS (.nil) 1000 1000 (by kernel_rfl)
theorem boundAwake_k27 : EVs (EV cfg) 93 [.agg [.int .i64 7, .int .i64 0, .str [], .sl [[.int .i64 2, .int .i64 0, .str [116], .sl []], [.int .i64 1, .int .i64 9, .str [], .sl []]]]] = some (.int .i64 0) := factS (.nil) 1000 1000 (by kernel_rfl)
theorem boundAwake_k30 : EVs (EV cfg) 54 [.sl [[.int .i64 2, .int .i64 0, .str [116], .sl []]]] = some (.bool true) := factS (.nil) 1000 1000 (by kernel_rfl)
theorem boundAwake_k35 : EVs (EV cfg) 93 [.agg [.int .i64 9, .int .i64 0, .str [], .sl [[.int .i64 7, .int .i64 0, .str [], .sl [[.int .i64 7, .int .i64 0, .str [], .sl [[.int .i64 2, .int .i64 0, .str [97], .sl []], [.int .i64 2, .int .i64 0, .str [95], .sl []]]], [.int .i64 8, .int .i64 0, .str [], .sl []], [.int .i64 9, .int .i64 0, .str [], .sl [[.int .i64 2, .int .i64 0, .str [36, 95], .sl []], [.int .i64 8, .int .i64 0, .str [], .sl []]]]]], [.int .i64 8, .int .i64 0, .str [], .sl []]]]] = some (.int .i64 0) := factS (.nil) 1000 1000 (by kernel_rfl)
theorem boundAwake_k36 : EVs (EV cfg) 93 [.agg [.int .i64 7, .int .i64 0, .str [], .sl [[.int .i64 2, .int .i64 0, .str [97], .sl []], [.int .i64 2, .int .i64 0, .str [95], .sl []]]]] = some (.int .i64 0) := factS (.nil) 1000 1000 (by kernel_rfl)
theorem boundAwake_k37 : EVf (EV cfg) 136 [.agg [.int .i64 7, .int .i64 0, .str [], .sl [[.int .i64 2, .int .i64 0, .str [97], .sl []], [.int .i64 2, .int .i64 0, .str [95], .sl []]]]] = some (.sl []) := factF (.consS boundAwake_k36 (.nil)) 1000 1000 (by kernel_rfl)
theorem boundAwake_k38 : EVf (EV cfg) 107 [.agg [.int .i64 7, .int .i64 0, .str [], .sl [[.int .i64 7, .int .i64 0, .str [], .sl [[.int .i64 2, .int .i64 0, .str [97], .sl []], [.int .i64 2, .int .i64 0, .str [95], .sl []]]], [.int .i64 8, .int .i64 0, .str [], .sl []], [.int .i64 9, .int .i64 0, .str [], .sl [[.int .i64 2, .int .i64 0, .str [36, 95], .sl []], [.int .i64 8, .int .i64 0, .str [], .sl []]]]]]] = some (.tup [.agg [.int .i64 7, .int .i64 0, .str [], .sl [[.int .i64 2, .int .i64 0, .str [97], .sl []], [.int .i64 2, .int .i64 0, .str [95], .sl []]], .sl [], .sl [[.int .i64 2, .int .i64 0, .str [36, 95], .sl []]]], .bool true]) := factF (.consF boundAwake_k37 (.consS boundAwake_k4 (.nil))) 1000 1000 (by kernel_rfl)
theorem boundAwake_k39 : EVf (EV cfg) 29 [.agg [.int .i64 9, .int .i64 0, .str [], .sl [[.int .i64 7, .int .i64 0, .str [], .sl [[.int .i64 7, .int .i64 0, .str [], .sl [[.int .i64 2, .int .i64 0, .str [97], .sl []], [.int .i64 2, .int .i64 0, .str [95], .sl []]]], [.int .i64 8, .int .i64 0, .str [], .sl []], [.int .i64 9, .int .i64 0, .str [], .sl [[.int .i64 2, .int .i64 0, .str [36, 95], .sl []], [.int .i64 8, .int .i64 0, .str [], .sl []]]]]], [.int .i64 8, .int .i64 0, .str [], .sl []]]]] = some (.tup [.sl [[.int .i64 7, .int .i64 0, .str [], .sl [[.int .i64 2, .int .i64 0, .str [97], .sl []], [.int .i64 2, .int .i64 0, .str [95], .sl []]], .sl [], .sl [[.int .i64 2, .int .i64 0, .str [36, 95], .sl []]]]], .int .i64 0]) := factF (.consS boundAwake_k35 (.consF boundAwake_k38 (.nil))) 1000 1000 (by kernel_rfl)
theorem boundAwake_k40 : EVf (EV cfg) 9 [.agg [.int .i64 9, .int .i64 0, .str [], .sl [[.int .i64 7, .int .i64 0, .str [], .sl [[.int .i64 7, .int .i64 0, .str [], .sl [[.int .i64 2, .int .i64 0, .str [97], .sl []], [.int .i64 2, .int .i64 0, .str [95], .sl []]]], [.int .i64 8, .int .i64 0, .str [], .sl []], [.int .i64 9, .int .i64 0, .str [], .sl [[.int .i64 2, .int .i64 0, .str [36, 95], .sl []], [.int .i64 8, .int .i64 0, .str [], .sl []]]]]], [.int .i64 8, .int .i64 0, .str [], .sl []]]], .int .i64 1] = some (.tup [.agg [.bool false, .sl [[.int .i64 2, .int .i64 0, .str [97], .sl []]], .sl []], .int .i64 0]) := factF (.consF boundAwake_k39 (.nil)) 1000 1000 (by kernel_rfl)
theorem boundAwake_k41 : EVs (EV cfg) 93 [.agg [.int .i64 9, .int .i64 0, .str [], .sl [[.int .i64 7, .int .i64 0, .str [], .sl [[.int .i64 7, .int .i64 0, .str [], .sl [[.int .i64 7, .int .i64 0, .str [], .sl [[.int .i64 2, .int .i64 0, .str [116], .sl []], [.int .i64 2, .int .i64 0, .str [36, 49], .sl []]]], [.int .i64 2, .int .i64 0, .str [95], .sl []]]], [.int .i64 8, .int .i64 0, .str [], .sl []], [.int .i64 9, .int .i64 0, .str [], .sl [[.int .i64 2, .int .i64 0, .str [36, 95], .sl []], [.int .i64 8, .int .i64 0, .str [], .sl []]]]]], [.int .i64 8, .int .i64 0, .str [], .sl []]]]] = some (.int .i64 0) := factS (.nil) 1000 1000 (by kernel_rfl)
theorem boundAwake_k42 : EVs (EV cfg) 93 [.agg [.int .i64 7, .int .i64 0, .str [], .sl [[.int .i64 7, .int .i64 0, .str [], .sl [[.int .i64 2, .int .i64 0, .str [116], .sl []], [.int .i64 2, .int .i64 0, .str [36, 49], .sl []]]], [.int .i64 2, .int .i64 0, .str [95], .sl []]]]] = some (.int .i64 0) := factS (.nil) 1000 1000 (by kernel_rfl)
theorem boundAwake_k43 : EVf (EV cfg) 136 [.agg [.int .i64 7, .int .i64 0, .str [], .sl [[.int .i64 7, .int .i64 0, .str [], .sl [[.int .i64 2, .int .i64 0, .str [116], .sl []], [.int .i64 2, .int .i64 0, .str [36, 49], .sl []]]], [.int .i64 2, .int .i64 0, .str [95], .sl []]]]] = some (.sl [[.int .i64 1]]) := factF (.consS boundAwake_k42 (.nil)) 1000 1000 (by kernel_rfl)
theorem boundAwake_k44 : EVf (EV cfg) 107 [.agg [.int .i64 7, .int .i64 0, .str [], .sl [[.int .i64 7, .int .i64 0, .str [], .sl [[.int .i64 7, .int .i64 0, .str [], .sl [[.int .i64 2, .int .i64 0, .str [116], .sl []], [.int .i64 2, .int .i64 0, .str [36, 49], .sl []]]], [.int .i64 2, .int .i64 0, .str [95], .sl []]]], [.int .i64 8, .int .i64 0, .str [], .sl []], [.int .i64 9, .int .i64 0, .str [], .sl [[.int .i64 2, .int .i64 0, .str [36, 95], .sl []], [.int .i64 8, .int .i64 0, .str [], .sl []]]]]]] = some (.tup [.agg [.int .i64 7, .int .i64 0, .str [], .sl [[.int .i64 7, .int .i64 0, .str [], .sl [[.int .i64 2, .int .i64 0, .str [116], .sl []], [.int .i64 2, .int .i64 0, .str [36, 49], .sl []]]], [.int .i64 2, .int .i64 0, .str [95], .sl []]], .sl [], .sl [[.int .i64 2, .int .i64 0, .str [36, 95], .sl []]]], .bool true]) := factF (.consF boundAwake_k43 (.consS boundAwake_k4 (.nil))) 1000 1000 (by kernel_rfl)
theorem boundAwake_k45 : EVf (EV cfg) 29 [.agg [.int .i64 9, .int .i64 0, .str [], .sl [[.int .i64 7, .int .i64 0, .str [], .sl [[.int .i64 7, .int .i64 0, .str [], .sl [[.int .i64 7, .int .i64 0, .str [], .sl [[.int .i64 2, .int .i64 0, .str [116], .sl []], [.int .i64 2, .int .i64 0, .str [36, 49], .sl []]]], [.int .i64 2, .int .i64 0, .str [95], .sl []]]], [.int .i64 8, .int .i64 0, .str [], .sl []], [.int .i64 9, .int .i64 0, .str [], .sl [[.int .i64 2, .int .i64 0, .str [36, 95], .sl []], [.int .i64 8, .int .i64 0, .str [], .sl []]]]]], [.int .i64 8, .int .i64 0, .str [], .sl []]]]] = some (.tup [.sl [[.int .i64 7, .int .i64 0, .str [], .sl [[.int .i64 7, .int .i64 0, .str [], .sl [[.int .i64 2, .int .i64 0, .str [116], .sl []], [.int .i64 2, .int .i64 0, .str [36, 49], .sl []]]], [.int .i64 2, .int .i64 0, .str [95], .sl []]], .sl [], .sl [[.int .i64 2, .int .i64 0, .str [36, 95], .sl []]]]], .int .i64 0]) := factF (.consS boundAwake_k41 (.consF boundAwake_k44 (.nil))) 1000 1000 (by kernel_rfl)
theorem boundAwake_k46 : EVf (EV cfg) 9 [.agg [.int .i64 9, .int .i64 0, .str [], .sl [[.int .i64 7, .int .i64 0, .str [], .sl [[.int .i64 7, .int .i64 0, .str [], .sl [[.int .i64 7, .int .i64 0, .str [], .sl [[.int .i64 2, .int .i64 0, .str [116], .sl []], [.int .i64 2, .int .i64 0, .str [36, 49], .sl []]]], [.int .i64 2, .int .i64 0, .str [95], .sl []]]], [.int .i64 8, .int .i64 0, .str [], .sl []], [.int .i64 9, .int .i64 0, .str [], .sl [[.int .i64 2, .int .i64 0, .str [36, 95], .sl []], [.int .i64 8, .int .i64 0, .str [], .sl []]]]]], [.int .i64 8, .int .i64 0, .str [], .sl []]]], .int .i64 1] = some (.tup [.agg [.bool false, .sl [], .sl [[.int .i64 2, .sl [[.int .i64 2, .int .i64 0, .str [116], .sl []]]]]], .int .i64 0]) := factF (.consF boundAwake_k45 (.consS boundAwake_k25 (.consS boundAwake_k9 (.nil)))) 1000 1000 (by kernel_rfl)
theorem boundAwake_k47 : EVs (EV cfg) 21 [.agg [.int .i64 2, .sl [[.int .i64 2, .int .i64 0, .str [116], .sl []]]], .agg [.int .i64 7, .int .i64 0, .str [], .sl [[.int .i64 2, .int .i64 0, .str [116], .sl []], [.int .i64 1, .int .i64 9, .str [], .sl []]]]] = some (.int .i64 0) := factS (.consS boundAwake_k27 (.consS boundAwake_k30 (.nil))) 1000 1000 (by kernel_rfl)
theorem boundAwake_k48 : EVs (EV cfg) 14 [] = some (.bool true) := factS (.consF boundAwake_k40 (.consF boundAwake_k46 (.consS boundAwake_k47 (.consS boundAwake_k30 (.nil))))) 1000 1000 (by kernel_rfl)
end Go.Proofs.YteojjjhhmbogfaaGreat.K
end

section
namespace Go.Proofs.YteojjjhhmbogfaaGreat
open Go.Av
set_option maxRecDepth 100000
theorem patC_chk {p : Tm} (h : SelOk [patC p]) : p.chk = 0 := by
  obtain ⟨h1, h2⟩ := sel_one.1 h.chk
  rw [clT_parts, Bool.and_eq_true] at h1
  rw [clT_words] at h2
  exact chk_zero.2 ⟨h1.1, by have : (patC p).head = p := rfl
                             rw [this] at h2; omega⟩
theorem patT_chk {x : Tm} (h : SelOk [patC (tupT [x])]) : x.chk = 0 := chk_sub (t := tupT [x]) (patC_chk h) (show x ∈ [x] by simp)
theorem patT_w {x : Tm} (h : x.w ≤ 1048576) : (selT [patC (tupT [x])]).w < 1099511627775 := by
  have hsw := sel1_w (patC (tupT [x]))
  have e1 : wL (patC (tupT [x])).gs = 0 := rfl
  have e2 : wL (patC (tupT [x])).bs = 3 := rfl
  have e3 : (patC (tupT [x])).head = tupT [x] := rfl
  have e4 : (patC (tupT [x])).gs.length = 0 := rfl
  have e5 : (patC (tupT [x])).bs.length = 1 := rfl
  have e6 : (tupT [x]).w = 1 + (x.w + 0) := by rw [tupT, Tm.w_mk]; simp
  rw [e1, e2, e3, e4, e5, e6] at hsw
  omega
theorem ext_ev {f : Nat} {s : List AV → AH → Option (AV × AH)} (hx : cfg.ext f = some s) {args : List AV} {v : AV} (h : (match s args [] with | some r => some r.1 | none => none) = some v) : EVs (EV cfg) f args = some v := by
  cases hs : s args [] with
  | none => rw [hs] at h; cases h
  | some r =>
    rw [hs] at h
    cases h
    have : EV cfg (.f f) args [] = some r := EV_of (by unfold evBody; simp only [hx]; exact hs)
    unfold EVs
    rw [this]; rfl
theorem boundAwake_ev : EVs (EV cfg) 14 [] = some (.bool true) := by
  have h := K.boundAwake_k48
  refine ext_ev (s := EV K.cfg (.f 14)) rfl ?_
  unfold EVs at h
  obtain ⟨q, h1, h2⟩ := Option.map_eq_some_iff.1 h
  rw [h1]; exact congrArg some h2
theorem kitTs_ev (l : List Tm) : EVf (EV cfg) 24 [.sl (rowsT l)] = some (tupT l).av := by
  apply Gets.get
  refine kitT_run _ ?_
  rw [tupT, Tm.av_mk]
  exact ⟨_, rfl, rfl⟩
theorem large21_ev {l : List Tm} (hl : OkL l) (hlen : l.length < 1099511627776) : Gets (EVs (EV cfg) 7 [.sl (rowsT l)]) AV.IsBool := by
  have loop : ∀ (d i : Nat), i + d = l.length → Gets (wrc7_0 (rowsT l) i) AV.IsBool := by
    intro d
    induction d with
    | zero =>
      intro i hi
      refine wrc7_0_step _ _ ?_
      rw [rowsT_length, decide_eq_false (by omega)]
      exact ⟨_, rfl, _, rfl⟩
    | succ d ihd =>
      intro i hi
      refine wrc7_0_step _ _ ?_
      have hil : i < l.length := by omega
      have hxi : l[i]? = some l[i] := List.getElem?_eq_getElem hil
      have hb := bigV_ev (hl.get (List.mem_of_getElem? hxi)) (most := 400) (by omega) (by omega)
      rw [wrap_succ hil hlen]
      simp [hil, hxi]
      refine Gets.bind hb ?_
      rintro _ ⟨b, rfl, _⟩
      cases b with
      | true => exact ⟨_, rfl, _, rfl⟩
      | false => simpa using ihd (i + 1) (by omega)
  exact large21_run _ (loop l.length 0 (by omega))
theorem wide21_ev {r : Rg} (hr : r.fst.length ≤ 1048576) (hw : ∀ x ∈ r.fst, x.w ≤ 1048576) : Gets (EVs (EV cfg) 15 [.agg [.bool false, .sl [], .sl [[.int .i64 r.ar, .sl (rowsT r.fst)]]]]) AV.IsBool := by
  have inner : ∀ (d i : Nat), i + d = r.fst.length → Gets (wrc15_1 r.fst.length i (rowsT r.fst)) AV.IsBool := by
    intro d
    induction d with
    | zero =>
      intro i hi
      refine wrc15_1_step _ _ _ ?_
      rw [decide_eq_false (by omega)]
      exact ⟨_, rfl, _, rfl⟩
    | succ d ihd =>
      intro i hi
      have hil : i < r.fst.length := by omega
      have hxi : r.fst[i]? = some r.fst[i] := List.getElem?_eq_getElem hil
      have hb := bigV_ev (okT_w (hw _ (List.mem_of_getElem? hxi))) (most := 100) (by omega) (by omega)
      refine wrc15_1_step _ _ _ ?_
      rw [decide_eq_true (show (i : Int) < (r.fst.length : Int) by omega), leInt_zero, ltInt_nat, decide_eq_true hil, Nat.zero_add, rowsT_at hxi, wrap_succ hil (by omega)]
      simp only [cond_true, Bool.and_self, length_cells, take_cells, kTmC_cells, show Nat.ble 4 4 = true from rfl, av_unf]
      refine Gets.bind hb ?_
      rintro _ ⟨b, rfl, _⟩
      cases b with
      | true => exact ⟨_, rfl, _, rfl⟩
      | false => exact ihd (i + 1) (by omega)
  refine wide21_run _ _ _ ?_
  show Gets (wrc15_0 0 0 false [] [[.int .i64 r.ar, .sl (rowsT r.fst)]] []) AV.IsBool
  refine wrc15_0_step _ _ _ _ _ _ ?_
  have g0 : List.get?Internal [[AV.int .i64 r.ar, .sl (rowsT r.fst)]] (Int.toNat 0) = some [AV.int .i64 r.ar, .sl (rowsT r.fst)] := rfl
  have g1 : List.get?Internal [AV.int .i64 r.ar, .sl (rowsT r.fst)] 1 = some (.sl (rowsT r.fst)) := rfl
  have l1 : ([[AV.int .i64 r.ar, .sl (rowsT r.fst)]] : List (List AV)).length = 1 := rfl
  have l2 : ([AV.int .i64 r.ar, .sl (rowsT r.fst)] : List AV).length = 2 := rfl
  rw [l1, g0]
  simp only [show decide ((0 : Int) < ((1 : Nat) : Int)) = true from rfl, show leInt 0 0 = true from rfl, show ltInt 0 ((1 : Nat) : Int) = true from rfl, Bool.and_self, cond_true, kOptSome, l2, Nat.beq_refl, g1, kSl_sl]
  by_cases h70 : ((rowsT r.fst).length : Int) > 70
  · rw [decide_eq_true h70]; exact ⟨_, rfl, _, rfl⟩
  · rw [decide_eq_false h70]
    have r4 : rowsOk 4 (rowsT r.fst) = true := rowsOk_rowsT _
    have f1 : fitsIn (rowsT r.fst).length 56 = true := fits56 (by rw [rowsT_length]; omega)
    have ap : List.append (List.take 0 []) (rowsT r.fst) = rowsT r.fst := rfl
    simp only [cond_false, r4, cond_true, f1, ap, show Nat.ble (0 + 0) ([] : List (List AV)).length = true from rfl, Bool.and_self, Nat.zero_add]
    refine wrc15_0_step _ _ _ _ _ _ ?_
    rw [l1, rowsT_length, show decide (IntKind.wrap .i64 ((0 : Int) + 1) < ((1 : Nat) : Int)) = false from rfl]
    exact inner r.fst.length 0 (by omega)
theorem boundSides_ev {r : Rg} (hr : r.fst.length ≤ 1048576) (hw : ∀ x ∈ r.fst, x.w ≤ 1048576) {a b c : Tm} (wa : a.w ≤ 1048576) (wb : b.w ≤ 1048576) (wc : c.w ≤ 1048576) : EVs (EV cfg) 5 [r.av, a.av, b.av, c.av] = some (.bool true) := by
  have rw_ : RgW r := ⟨by omega, fun x hx => by have := hw x hx; omega⟩
  have hl := large21_ev (l := [a, b, c]) ⟨okT_w wa, okT_w wb, okT_w wc, trivial⟩ (by simp)
  have hwd := wide21_ev hr hw
  have er : ([[AV.int .i64 a.kind, .int .i64 a.num, .str a.str, .sl (rowsT a.subs)], [AV.int .i64 b.kind, .int .i64 b.num, .str b.str, .sl (rowsT b.subs)], [AV.int .i64 c.kind, .int .i64 c.num, .str c.str, .sl (rowsT c.subs)]] : List (List AV)) = rowsT [a, b, c] := by
    rw [rowsT_cons, rowsT_cons, rowsT_cons, rowsT_nil, Tm.cells_eq, Tm.cells_eq, Tm.cells_eq]
  have eT : ∀ x : Tm, [[AV.int .i64 x.kind, .int .i64 x.num, .str x.str, .sl (rowsT x.subs)]] = rowsT [x] := fun x => by rw [rowsT_cons, rowsT_nil, Tm.cells_eq]
  have eR : (AV.agg [.int .i64 r.ar, .sl (rowsT r.fst)]) = r.av := rfl
  have eB : (AV.agg [.bool false, .sl [], .sl [[.int .i64 r.ar, .sl (rowsT r.fst)]]]) = (Bnd.mk false [] [r]).av := rfl
  -- a pattern's selection
  have hmt : ∀ x : Tm, x.w ≤ 1048576 → EVf (EV cfg) 23 [(tupT [x]).av] = some (.tup [(ofG [patC (tupT [x])]).1.av, .int .i64 (ofG [patC (tupT [x])]).2]) := fun x hx => spMatch_ev (patT_w hx)
  -- where all may be
  have fin : a.chk = 0 → b.chk = 0 → c.chk = 0 → (∀ x ∈ r.fst, x.chk = 0) → Gets (jrc5_0 true r.ar (rowsT r.fst) a.kind a.num a.str (rowsT a.subs) b.kind b.num b.str (rowsT b.subs) c.kind c.num c.str (rowsT c.subs)) (· = .bool true) := by
    intro ca cb cc cf
    have hf := allK_iff.2 cf
    have sa := bSide_ev rw_ (k := a) (by omega)
    have sb := bSide_ev rw_ (k := b) (by omega)
    have sc := bSide_ev rw_ (k := c) (by omega)
    have cab := compare_ev (okT_w wa) (okT_w wb)
    have cac := compare_ev (okT_w wa) (okT_w wc)
    have ccb := compare_ev (okT_w wc) (okT_w wb)
    have hm := bMeets_ev (b := ⟨false, [], [r]⟩) (by simp) (by simp) (by simp) (by simpa using rw_) (k := a) (by omega)
    refine jrc5_0_step _ _ _ _ _ _ _ _ _ _ _ _ _ _ _ ?_
    rw [rowsT_length]
    by_cases h0 : r.ar < (r.fst.length : Int)
    · rw [decide_eq_true h0]; exact ⟨_, rfl, rfl⟩
    · have hge : (r.fst.length : Int) ≤ r.ar := by omega
      have sG : ∀ k : Tm, k.chk = 0 → sideG r k = sideC r k := fun k hk => by
        unfold sideG
        rw [if_neg (fun h => h.elim h0 fun h => h.elim (fun h => h hk) fun h => by rw [hf] at h; cases h)]
      rw [decide_eq_false h0]
      simp only [cond_false, av_unf, eR, sa, sb, kOptSome, kInt_int]
      rw [sG a ca, sG b cb]
      obtain ⟨ra1, ra2⟩ := sideC_rng r a
      obtain ⟨rb1, rb2⟩ := sideC_rng r b
      obtain ⟨rc1, rc2⟩ := sideC_rng r c
      -- where it meets
      have j3 : Gets (jrc5_3 true (sideC r a) r.ar (rowsT r.fst) a.kind a.num a.str (rowsT a.subs) b.kind b.num b.str (rowsT b.subs) c.kind c.num c.str (rowsT c.subs)) (· = .bool true) := by
        refine jrc5_3_step _ _ _ _ _ _ _ _ _ _ _ _ _ _ _ _ ?_
        rw [eB, av_unf, hm]
        have hrf : refsLtL 0 [(Bnd.mk false [] [r]).av, a.av] = true := by
          rw [Tm.av, Tm.cells_eq]; rfl
        rw [hrf]
        refine ⟨_, rfl, ?_⟩
        congr 1
        have hz := sideC_zero hge hf ca
        have hmg : meetsG ⟨false, [], [r]⟩ a = withinK r a := by
          unfold meetsG
          rw [decide_eq_true ca]
          simp [hf]
        rw [hmg]
        show (withinK r a == (sideC r a == 0)) = true
        by_cases hs : sideC r a = 0
        · rw [hz.1 hs, hs]; rfl
        · have hwf : withinK r a = false := by
            cases h : withinK r a with
            | false => rfl
            | true => exact absurd (hz.2 h) hs
          rw [hwf, beqI, decide_eq_false hs]; rfl
      have j2 : Gets (jrc5_2 true (sideC r a) (sideC r b) r.ar (rowsT r.fst) a.kind a.num a.str (rowsT a.subs) b.kind b.num b.str (rowsT b.subs) c.kind c.num c.str (rowsT c.subs)) (· = .bool true) := by
        refine jrc5_2_step _ _ _ _ _ _ _ _ _ _ _ _ _ _ _ _ _ ?_
        simp only [av_unf, cac, ccb, kOptSome, kInt_int, beqI]
        by_cases h1 : cmpT a c < 0
        · rw [decide_eq_true h1]
          by_cases h2 : cmpT c b < 0
          · rw [decide_eq_true h2]
            by_cases h3 : sideC r a = 0
            · rw [decide_eq_true h3]
              by_cases h4 : sideC r b = 0
              · rw [decide_eq_true h4]
                simp only [cond_true, eR, sc, kOptSome, kInt_int]
                rw [sG c cc]
                refine ⟨_, rfl, ?_⟩
                congr 1
                refine decide_eq_true ?_
                by_cases h5 : sideC r c < 0
                · have := side_order hge (a := c) (b := a) (by omega) (by omega) (by omega)
                  have := cmpT_neg a c
                  omega
                · by_cases h6 : 0 < sideC r c
                  · have := side_order hge (a := b) (b := c) (by omega) (by omega) (by omega)
                    have := cmpT_neg b c
                    omega
                  · omega
              · rw [decide_eq_false h4]; exact j3
            · rw [decide_eq_false h3]; exact j3
          · rw [decide_eq_false h2]; exact j3
        · rw [decide_eq_false h1]; exact j3
      refine jrc5_1_step _ _ _ _ _ _ _ _ _ _ _ _ _ _ _ _ _ ?_
      simp only [av_unf, cab, kOptSome, kInt_int]
      by_cases h1 : sideC r a < sideC r b
      · have h2 := side_order hge h1 ra1 rb2
        rw [decide_eq_true h1, decide_eq_false (show ¬ cmpT a b ≥ 0 by omega), decide_eq_false (show ¬ sideC r a > sideC r b by omega)]
        exact j2
      · rw [decide_eq_false h1]
        by_cases h3 : sideC r a > sideC r b
        · have h4 := side_order hge (a := b) (b := a) (by omega) rb1 ra2
          have h5 := cmpT_neg a b
          rw [decide_eq_true h3, decide_eq_false (show ¬ cmpT a b ≤ 0 by omega)]
          exact j2
        · rw [decide_eq_false h3]
          exact j2
  -- the range's terms
  have loop2 : a.chk = 0 → b.chk = 0 → c.chk = 0 → ∀ (d i : Nat), i + d = r.fst.length → (∀ x ∈ r.fst.take i, x.chk = 0) → Gets (wrc5_1 true i r.ar (rowsT r.fst) a.kind a.num a.str (rowsT a.subs) b.kind b.num b.str (rowsT b.subs) c.kind c.num c.str (rowsT c.subs)) (· = .bool true) := by
    intro ca cb cc d
    induction d with
    | zero =>
      intro i hi hx
      refine wrc5_1_step _ _ _ _ _ _ _ _ _ _ _ _ _ _ _ _ ?_
      rw [rowsT_length, decide_eq_false (by omega)]
      rw [List.take_of_length_le (by omega)] at hx
      exact fin ca cb cc hx
    | succ d ih =>
      intro i hi hx
      have hil : i < r.fst.length := by omega
      have hxi : r.fst[i]? = some r.fst[i] := List.getElem?_eq_getElem hil
      have hm := hmt _ (hw _ (List.mem_of_getElem? hxi))
      refine wrc5_1_step _ _ _ _ _ _ _ _ _ _ _ _ _ _ _ _ ?_
      rw [rowsT_length, decide_eq_true (show (i : Int) < (r.fst.length : Int) by omega), leInt_zero, ltInt_nat, decide_eq_true hil, rowsT_at hxi, wrap_succ hil (by omega)]
      simp only [cond_true, Bool.and_self, length_cells, Nat.beq_refl, take_cells, kTmC_cells, show Nat.ble 4 4 = true from rfl, eT, kitTs_ev, kOptSome, kTmV_av, av_unf, hm]
      rw [kEvalR]
      by_cases h0 : (ofG [patC (tupT [r.fst[i]])]).2 = 0
      · rw [bneD, decide_eq_true h0]
        refine ih (i + 1) (by omega) (fun x hx' => ?_)
        rw [List.take_add_one, hxi, Option.toList_some, List.mem_append] at hx'
        rcases hx' with h | h
        · exact hx x h
        · simp at h; subst h; exact patT_chk (ofG_zero h0)
      · rw [bneD, decide_eq_false h0]; exact ⟨_, rfl, rfl⟩
  -- the three keys
  have key : ∀ (i : Nat) (x : Tm), i < 3 → [a, b, c][i]? = some x → x.w ≤ 1048576 → (x.chk = 0 → Gets (wrc5_0 true ((i + 1 : Nat) : Int) r.ar (rowsT r.fst) a.kind a.num a.str (rowsT a.subs) b.kind b.num b.str (rowsT b.subs) c.kind c.num c.str (rowsT c.subs) (rowsT [a, b, c])) (· = .bool true)) →
      Gets (wrc5_0 true (i : Int) r.ar (rowsT r.fst) a.kind a.num a.str (rowsT a.subs) b.kind b.num b.str (rowsT b.subs) c.kind c.num c.str (rowsT c.subs) (rowsT [a, b, c])) (· = .bool true) := by
    intro i x hi hx hxw hrest
    have hm := hmt x hxw
    refine wrc5_0_step _ _ _ _ _ _ _ _ _ _ _ _ _ _ _ _ _ ?_
    have l3 : ltInt (i : Int) 3 = true := by simp only [ltInt]; exact decide_eq_true (by omega)
    rw [decide_eq_true (show (i : Int) < 3 by omega), leInt_zero, l3, Nat.zero_add, rowsT_at hx, wrap_succ (n := 3) hi (by omega)]
    simp only [cond_true, Bool.and_self, length_cells, take_cells, kTmC_cells, show Nat.ble 4 4 = true from rfl, eT, kitTs_ev, kOptSome, kTmV_av, av_unf, hm]
    rw [kEvalR]
    by_cases h0 : (ofG [patC (tupT [x])]).2 = 0
    · rw [bneD, decide_eq_true h0, beqI]
      have hr := hrest (patT_chk (ofG_zero h0))
      cases decide (((rowsT (ofG [patC (tupT [x])]).1.subs).length : Int) = 0) with
      | true => exact ⟨_, rfl, rfl⟩
      | false => exact hr
    · rw [bneD, decide_eq_false h0]; exact ⟨_, rfl, rfl⟩
  apply Gets.get
  rw [agg_av a, agg_av b, agg_av c]
  refine boundSides_run _ _ _ _ _ _ _ _ _ _ _ _ _ _ ?_
  rw [boundAwake_ev]
  have hrf : refsLtL 0 [AV.agg [.bool false, .sl [], .sl [[.int .i64 r.ar, .sl (rowsT r.fst)]]]] = true := rfl
  rw [hrf, er]
  simp only [kOptSome, kBool_bool, cond_true]
  refine Gets.bind hwd ?_
  rintro _ ⟨b1, rfl⟩
  cases b1 with
  | true => exact ⟨_, rfl, rfl⟩
  | false =>
    simp only [kBool_bool, cond_false]
    refine Gets.bind hl ?_
    rintro _ ⟨b2, rfl⟩
    cases b2 with
    | true => exact ⟨_, rfl, rfl⟩
    | false =>
      simp only [kBool_bool, cond_false]
      refine key 0 a (by omega) rfl wa fun ca => ?_
      refine key 1 b (by omega) rfl wb fun cb => ?_
      refine key 2 c (by omega) rfl wc fun cc => ?_
      refine wrc5_0_step _ _ _ _ _ _ _ _ _ _ _ _ _ _ _ _ _ ?_
      rw [show decide (((2 + 1 : Nat) : Int) < 3) = false from rfl]
      exact loop2 ca cb cc r.fst.length 0 (by omega) (by simp)
end Go.Proofs.YteojjjhhmbogfaaGreat
end
