/-
  Parts of the proof of CodeJoinsUptoSaid, put together: the abstract evaluation and its contracts. Own work.
  What is proved: each lemma as it stands; no condition.
-/
import Derived.Test.YtkohdkldmpiiiaaGreatZCodeJoinsM4
open Bool renaming and_eq_true → que, false_eq_true → quo, and_self → quy
open Option renaming bind_eq_some_iff → quf, map_eq_some_iff → quk, bind_some → quq, map_some → quz
open List renaming length → qug, getElem?_eq_some_iff → quh, getElem?_eq_getElem → quj, get?Internal → qul, getElem?_append_left → qup, getElem?_set → qur, length_append → qus, getElem?_append_right → qut, take_of_length_le → quu, mem_of_getElem? → quv, take → qux, mem_append → quA, replicate → quB, append → quD, getElem?_cons_succ → quF, mem_cons → quH, length_map → quI, range → quK, length_cons → quM, drop → quN
open Nat renaming eq_of_beq_eq_true → qui, le_refl → qum, beq → qun, ble → quw, mul_le_mul_right → quC, ble_eq → quJ, blt_eq → quL
open Int renaming toNat_natCast → quE, toNat → quG
set_option maxRecDepth 1000000
set_option maxHeartbeats 0
section
namespace Go.Av
def yw (q : Nat → Bool) : AV := .sl (vF (((quK 100).filter q).map Int.ofNat))
theorem qaK : ∀ l : List Tm, l.length ≤ wL l
 | [] => qum _
 | t :: l => by rw [qv, quM]; have := yP t; have := qaK l; omega
theorem qnL : qbv (fun _ => false) [.int .u64 0, .int .u64 0] := ⟨0, 0, [], rfl, by decide, by decide, fun n _ => Nat.zero_testBit n, fun n _ => Nat.zero_testBit n⟩
theorem qcz (x : Tm) : vR 4 (qa x.subs) = true := qaE _
end Go.Av
namespace Go.Proofs.YtkohdkldmpiiiaaGreat
open Go.Av
theorem qhx {p : Nat → Bool} {r : List AV} (h : qbv p r) {n : Nat} (hn : n < 100) : ∃ r', EVm (EV cfg) 216 [.ptr 0 0 0, .int .i64 n] 2 [r] = some (.unit, [r']) ∧
  qbv (fun i => p i || decide (i = n)) r' ∧ r'.drop 2 = r.drop 2 ∧ r'.length = r.length ∧ (qt 0 r = true → qt 0 r' = true) := by
 obtain ⟨lo, hi, l, rfl, h1, h2, h3, h4⟩ := h
 have pw : ∀ {k : Nat}, k < 64 → 2 ^ k < 18446744073709551616 := by
  intro k hk
  have : 2 ^ k < 2 ^ 64 := Nat.pow_lt_pow_right (by omega) hk
  simpa using this
 have orlt : ∀ {a b : Nat}, a < 18446744073709551616 → b < 18446744073709551616 → a ||| b < 18446744073709551616 := by
  intro a b ha hb
  have := Nat.or_lt_two_pow (n := 64) (by simpa using ha) (by simpa using hb)
  simpa using this
 have bit : ∀ {a k i : Nat}, (a ||| 2 ^ k).testBit i = (a.testBit i || decide (i = k)) := by
  intro a k i
  rw [Nat.testBit_or, Nat.testBit_two_pow]
  congr 1
  exact decide_eq_decide.2 ⟨fun h => h.symm, fun h => h.symm⟩
 by_cases hs : n < 64
 ·refine ⟨.int .u64 ((lo ||| 2 ^ n : Nat) : Int) :: .int .u64 hi :: l, ?_, ⟨_, hi, l, rfl, orlt h1 (pw hs), h2, fun i hi => ?_, fun i hi => ?_⟩, rfl, rfl, fun h => h⟩
  ·apply Gets.get
   refine qgc _ _ ?_
   rw [decide_eq_true (show (n : Int) < 64 by omega)]
   simp only [cond_true, qK, List.getElem?_cons_zero, qf, qn, qnK hs, qnP h1 (pw hs)]
   exact ⟨_, rfl, rfl⟩
  ·rw [bit, h3 i hi]
  ·have : decide (i + 64 = n) = false := decide_eq_false (by omega)
   rw [h4 i hi]
   show p (i + 64) = (p (i + 64) || decide (i + 64 = n))
   rw [this, Bool.or_false]
 ·obtain ⟨k, rfl⟩ : ∃ k, n = k + 64 := ⟨n - 64, by omega⟩
  have hk : k < 64 := by omega
  have w : IntKind.wrap .i64 (((k + 64 : Nat) : Int) - 64) = (k : Int) := by rw [xa (by omega) (by omega)]; omega
  refine ⟨.int .u64 lo :: .int .u64 ((hi ||| 2 ^ k : Nat) : Int) :: l, ?_, ⟨lo, _, l, rfl, h1, orlt h2 (pw hk), fun i hi => ?_, fun i hi => ?_⟩, rfl, rfl, fun h => h⟩
  ·apply Gets.get
   refine qgc _ _ ?_
   rw [decide_eq_false (show ¬ ((k + 64 : Nat) : Int) < 64 by omega), w]
   simp only [cond_false, qK, quF, List.getElem?_cons_zero, qf, qn, qnK hk, qnP h2 (pw hk)]
   exact ⟨_, rfl, rfl⟩
  ·have : decide (i = k + 64) = false := decide_eq_false (by omega)
   rw [h3 i hi]
   show p i = (p i || decide (i = k + 64))
   rw [this, Bool.or_false]
  ·rw [bit, h4 i hi]
   congr 1
   exact decide_eq_decide.2 (by omega)
theorem qk2 {q : Nat → Bool} {s : List AV} (h : qbv q s) (h2 : s.length = 2) : Gets (qbT 0 0 [s] []) (· = yw q) := by
 have hf : qt 0 s = true := by
  obtain ⟨lo, hi, l, rfl, _⟩ := h
  cases l with
  | nil => rfl
  | cons a l => simp at h2
 have hg : ∀ n : Int, qt 0 [AV.cptr s 0, .int .i64 n] = true := by
  intro n
  obtain ⟨lo, hi, l, rfl, _⟩ := h
  cases l with
  | nil => rfl
  | cons a l => simp at h2
 have loop : ∀ d i : Nat, i + d = 100 → Gets (qbT ((quK i).filter q).length i [s] (vF (((quK i).filter q).map Int.ofNat))) (· = yw q) := by
  intro d
  induction d with
  | zero =>
   intro i hi
   obtain rfl : i = 100 := by omega
   refine qey _ _ _ _ ?_
   have e1 : quw (0 + ((quK 100).filter q).length) (vF (((quK 100).filter q).map Int.ofNat)).length = true := by rw [quJ, qav, quI]; omega
   have e2 : qux ((quK 100).filter q).length (vF (((quK 100).filter q).map Int.ofNat)) = vF (((quK 100).filter q).map Int.ofNat) := quu (by rw [qav, quI]; exact qum _)
   rw [show decide (((100 : Nat) : Int) < 100) = false from rfl, e1, e2]
   exact ⟨_, rfl, rfl⟩
  | succ d ih =>
   intro i hi
   have h1 := ih (i + 1) (by omega)
   rw [List.range_succ, List.filter_append] at h1
   refine qey _ _ _ _ ?_
   have hle : ((quK i).filter q).length ≤ i := by have := List.length_filter_le q (quK i); rw [List.length_range] at this; exact this
   have e1 : quw (0 + ((quK i).filter q).length) (vF (((quK i).filter q).map Int.ofNat)).length = true := by rw [quJ, qav, quI]; omega
   have e2 : qux ((quK i).filter q).length (vF (((quK i).filter q).map Int.ofNat)) = vF (((quK i).filter q).map Int.ofNat) := quu (by rw [qav, quI]; exact qum _)
   have e3 : IntKind.wrap .i64 ((i : Int) + 1) = ((i + 1 : Nat) : Int) := by rw [xa (by omega) (by omega)]; omega
   rw [decide_eq_true (show (i : Int) < 100 by omega), qK, List.getElem?_cons_zero, e1, e2, e3, qt9 (by omega)]
   simp only [cond_true, qf, qm, hf, hg, quy, qjx h (show i < 100 by omega)]
   cases hq : q i with
   | true =>
    rw [List.filter_cons_of_pos hq, List.filter_nil, List.map_append, qus] at h1
    rw [cond_true]
    have e4 : vF (((quK i).filter q).map Int.ofNat ++ [i].map Int.ofNat) = quD (vF (((quK i).filter q).map Int.ofNat)) [[AV.int .i64 i]] := by
     unfold vF; rw [List.map_append]; rfl
    rw [e4] at h1
    exact h1
   | false =>
    rw [List.filter_cons_of_neg (by rw [hq]; decide), List.filter_nil, List.append_nil] at h1
    rw [cond_false]
    exact h1
 exact loop 100 0 rfl
theorem qjt : Gets (qdk 0 0 0 0 []) (· = yw fun i => ([] : List Tm).any (xq (i : Nat))) := by
 have loop : ∀ d i : Nat, i + d = 100 → Gets (qdk 0 i 0 0 []) (· = yw fun i => ([] : List Tm).any (xq (i : Nat))) := by
  intro d
  induction d with
  | zero =>
   intro i hi
   obtain rfl : i = 100 := by omega
   refine qf0 _ _ _ _ _ ?_
   rw [show decide (((100 : Nat) : Int) < 100) = false from rfl]
   exact ⟨_, rfl, rfl⟩
  | succ d ih =>
   intro i hi
   refine qf0 _ _ _ _ _ ?_
   have e3 : IntKind.wrap .i64 ((i : Int) + 1) = ((i + 1 : Nat) : Int) := by rw [xa (by omega) (by omega)]; omega
   rw [decide_eq_true (show (i : Int) < 100 by omega), qjx qnL (show i < 100 by omega), e3]
   simp only [cond_true, qf, qm, cond_false]
   exact ih (i + 1) (by omega)
 exact loop 100 0 rfl
theorem qoc {p : Tm} : ∀ (n : Nat) (R : List Tm) (h4 : List (List AV)) (s : List AV) (q : Nat → Bool), wL R ≤ n → n < 1099511627776 → R.length ≤ h4.length → h4.take R.length = qa R → qbv q s → s.length = 2 → 
  Gets (zs R.length p.kind p.num p.str (qa p.subs) [s] p.kind p.num p.str (qa p.subs) h4) (· = yw fun i => q i || R.any (xq (i : Nat))) := by
 intro n
 induction n with
 | zero =>
  intro R h4 s q hw hn hl ht hs hs2
  have hR : R = [] := by
   cases R with
   | nil => rfl
   | cons x l => rw [qv] at hw; have := yP x; omega
  subst hR
  refine qb5 _ _ _ _ _ _ _ _ _ _ _ ?_
  have : decide (((([] : List Tm).length : Nat) : Int) > 0) = false := rfl
  rw [this, cond_false]
  exact qk2 (by simpa using hs) hs2
 | succ n ih =>
  intro R h4 s q hw hn hl ht hs hs2
  rcases List.eq_nil_or_concat R with rfl | ⟨R', x, hR⟩
  ·refine qb5 _ _ _ _ _ _ _ _ _ _ _ ?_
   have : decide (((([] : List Tm).length : Nat) : Int) > 0) = false := rfl
   rw [this, cond_false]
   exact qk2 (by simpa using hs) hs2
  ·obtain rfl : R = R' ++ [x] := by rw [hR]; simp
   clear hR
   rw [y7, qv, xp] at hw
   have hx := yP x
   have hwe := x.w_eq
   have hRl := qaK R'
   rw [qus, List.length_singleton] at hl ht ⊢
   refine qb5 _ _ _ _ _ _ _ _ _ _ _ ?_
   have g0 : decide (((R'.length + 1 : Nat) : Int) > 0) = true := decide_eq_true (by omega)
   have g1 : IntKind.wrap .i64 (((R'.length + 1 : Nat) : Int) - 1) = (R'.length : Int) := by rw [xa (by omega) (by omega)]; omega
   have g2 : qp (R'.length : Int) ((R'.length + 1 : Nat) : Int) = true := decide_eq_true (by omega)
   have g3 : qj (R'.length : Int) ((R'.length + 1 : Nat) : Int) = true := decide_eq_true (by omega)
   have g4 : h4[R'.length]? = some x.cells := by
    have : (h4.take (R'.length + 1))[R'.length]? = some x.cells := by
     rw [ht, y8]; simp
    rwa [List.getElem?_take, if_pos (by omega)] at this
   have g5 : h4.take R'.length = qa R' := by
    have : (h4.take (R'.length + 1)).take R'.length = qa R' := by
     rw [ht, vM]
     exact List.take_left' (qh R')
    rwa [List.take_take, Nat.min_eq_left (by omega)] at this
   have g6 : quw (0 + R'.length) h4.length = true := by rw [quJ]; omega
   rw [g0, g1, vq, g2, g3, qK, quE, Nat.zero_add, g4, Nat.sub_zero]
   simp only [cond_true, quy, qf, qN, q8, q9, qbi, qh, g5, qcz]
   have push : (x.kind = 7 ∨ x.kind = 9) → Gets (zs (R'.length + x.subs.length) p.kind p.num p.str (qa p.subs) [s] p.kind p.num p.str (qa p.subs) (quD (qa R') (qa x.subs))) (· = yw fun i => q i || (R' ++ [x]).any (xq (i : Nat))) := by
    intro hk
    have hl := qaK x.subs
    have h := ih (R' ++ x.subs) (qa (R' ++ x.subs)) s q (by rw [y7]; omega) (by omega) (by rw [qh]; exact qum _) (quu (by simp)) hs hs2
    rw [qus] at h
    rw [show quD (qa R') (qa x.subs) = qa (R' ++ x.subs) from (vM _ _).symm]
    refine Gets.mono h ?_
    rintro _ rfl
    apply congrArg yw
    funext i
    rw [List.any_append, List.any_append, List.any_cons, List.any_nil, Bool.or_false, qaZ _ x, if_pos hk]
   have drop : (¬ (x.kind = 7 ∨ x.kind = 9)) → ¬ (x.kind = 2 ∧ (varG x.str).isSome) → Gets (zs R'.length p.kind p.num p.str (qa p.subs) [s] p.kind p.num p.str (qa p.subs) h4) (· = yw fun i => q i || (R' ++ [x]).any (xq (i : Nat))) := by
    intro hk hv
    refine Gets.mono (ih R' h4 s q (by omega) (by omega) (by omega) g5 hs hs2) ?_
    rintro _ rfl
    apply congrArg yw
    funext i
    have : xq (i : Nat) x = false := by
     rw [qaZ, if_neg hk]
     by_cases h2 : x.kind = 2
     ·rw [decide_eq_true h2, Bool.true_and, decide_eq_false]
      intro h
      exact hv ⟨h2, by rw [h]; rfl⟩
     ·rw [decide_eq_false h2, Bool.false_and]
    rw [List.any_append, List.any_cons, List.any_nil, this, Bool.or_false, Bool.or_false]
   rw [beqI, beqI, beqI, qcc, g6]
   by_cases h7 : x.kind = 7
   ·rw [decide_eq_true h7]
    simp only [cond_true, Bool.true_and, zN (show R'.length + x.subs.length ≤ 1099511627776 by have := qaK x.subs; omega)]
    exact push (.inl h7)
   rw [decide_eq_false h7, cond_false]
   by_cases h9 : x.kind = 9
   ·rw [decide_eq_true h9]
    simp only [cond_true, Bool.true_and, zN (show R'.length + x.subs.length ≤ 1099511627776 by have := qaK x.subs; omega)]
    exact push (.inr h9)
   rw [decide_eq_false h9, cond_false]
   have hk : ¬ (x.kind = 7 ∨ x.kind = 9) := by omega
   unfold varR
   simp only [qf, kTup, qc, qn, qm, kNil]
   cases hv : varG x.str with
   | none =>
    rw [hv] at drop
    exact drop hk (by simp)
   | some v =>
    by_cases h2 : x.kind = 2
    ·rw [decide_eq_true h2]
     obtain ⟨hv0, hv9⟩ := qnI hv
     obtain ⟨m, rfl⟩ : ∃ m : Nat, v = m := ⟨v.toNat, by omega⟩
     obtain ⟨r', hr1, hr2, hr3, hr4, hr5⟩ := qhx hs (n := m) (by omega)
     simp only [Option.getD_some, Option.isSome_some, cond_true, hr1, qf, qbq]
     refine Gets.mono (ih R' h4 r' _ (by omega) (by omega) (by omega) g5 hr2 (by rw [hr4]; exact hs2)) ?_
     rintro _ rfl
     apply congrArg yw
     funext i
     have : xq (i : Nat) x = decide (i = m) := by
      rw [qaZ, if_neg hk, decide_eq_true h2, Bool.true_and, hv]
      exact decide_eq_decide.2 ⟨fun h => by cases h; rfl, fun h => by rw [h]⟩
     rw [List.any_append, List.any_cons, List.any_nil, this, Bool.or_false]
     cases q i <;> cases decide (i = m) <;> cases R'.any (xq (i : Nat)) <;> rfl
    ·rw [decide_eq_false h2]
     exact drop hk (fun h => h2 h.1)
theorem qpD {p : Tm} : ∀ (n : Nat) (R : List Tm) (h4 : List (List AV)) , wL R ≤ n → n < 1099511627776 → R.length ≤ h4.length → h4.take R.length = qa R → 
  Gets (qaz R.length p.kind p.num p.str (qa p.subs) 0 0 p.kind p.num p.str (qa p.subs) h4) (· = yw fun i => R.any (xq (i : Nat))) := by
 intro n
 induction n with
 | zero =>
  intro R h4  hw hn hl ht 
  have hR : R = [] := by
   cases R with
   | nil => rfl
   | cons x l => rw [qv] at hw; have := yP x; omega
  subst hR
  refine qcQ _ _ _ _ _ _ _ _ _ _ _ _ ?_
  have : decide (((([] : List Tm).length : Nat) : Int) > 0) = false := rfl
  rw [this, cond_false]
  exact qjt
 | succ n ih =>
  intro R h4  hw hn hl ht 
  rcases List.eq_nil_or_concat R with rfl | ⟨R', x, hR⟩
  ·refine qcQ _ _ _ _ _ _ _ _ _ _ _ _ ?_
   have : decide (((([] : List Tm).length : Nat) : Int) > 0) = false := rfl
   rw [this, cond_false]
   exact qjt
  ·obtain rfl : R = R' ++ [x] := by rw [hR]; simp
   clear hR
   rw [y7, qv, xp] at hw
   have hx := yP x
   have hwe := x.w_eq
   have hRl := qaK R'
   rw [qus, List.length_singleton] at hl ht ⊢
   refine qcQ _ _ _ _ _ _ _ _ _ _ _ _ ?_
   have g0 : decide (((R'.length + 1 : Nat) : Int) > 0) = true := decide_eq_true (by omega)
   have g1 : IntKind.wrap .i64 (((R'.length + 1 : Nat) : Int) - 1) = (R'.length : Int) := by rw [xa (by omega) (by omega)]; omega
   have g2 : qp (R'.length : Int) ((R'.length + 1 : Nat) : Int) = true := decide_eq_true (by omega)
   have g3 : qj (R'.length : Int) ((R'.length + 1 : Nat) : Int) = true := decide_eq_true (by omega)
   have g4 : h4[R'.length]? = some x.cells := by
    have : (h4.take (R'.length + 1))[R'.length]? = some x.cells := by
     rw [ht, y8]; simp
    rwa [List.getElem?_take, if_pos (by omega)] at this
   have g5 : h4.take R'.length = qa R' := by
    have : (h4.take (R'.length + 1)).take R'.length = qa R' := by
     rw [ht, vM]
     exact List.take_left' (qh R')
    rwa [List.take_take, Nat.min_eq_left (by omega)] at this
   have g6 : quw (0 + R'.length) h4.length = true := by rw [quJ]; omega
   rw [g0, g1, vq, g2, g3, qK, quE, Nat.zero_add, g4, Nat.sub_zero]
   simp only [cond_true, quy, qf, qN, q8, q9, qbi, qh, g5, qcz]
   have push : (x.kind = 7 ∨ x.kind = 9) → Gets (qaz (R'.length + x.subs.length) p.kind p.num p.str (qa p.subs) 0 0 p.kind p.num p.str (qa p.subs) (quD (qa R') (qa x.subs))) (· = yw fun i => (R' ++ [x]).any (xq (i : Nat))) := by
    intro hk
    have hl := qaK x.subs
    have h := ih (R' ++ x.subs) (qa (R' ++ x.subs))  (by rw [y7]; omega) (by omega) (by rw [qh]; exact qum _) (quu (by simp)) 
    rw [qus] at h
    rw [show quD (qa R') (qa x.subs) = qa (R' ++ x.subs) from (vM _ _).symm]
    refine Gets.mono h ?_
    rintro _ rfl
    apply congrArg yw
    funext i
    rw [List.any_append, List.any_append, List.any_cons, List.any_nil, Bool.or_false, qaZ _ x, if_pos hk]
   have drop : (¬ (x.kind = 7 ∨ x.kind = 9)) → ¬ (x.kind = 2 ∧ (varG x.str).isSome) → Gets (qaz R'.length p.kind p.num p.str (qa p.subs) 0 0 p.kind p.num p.str (qa p.subs) h4) (· = yw fun i => (R' ++ [x]).any (xq (i : Nat))) := by
    intro hk hv
    refine Gets.mono (ih R' h4  (by omega) (by omega) (by omega) g5 ) ?_
    rintro _ rfl
    apply congrArg yw
    funext i
    have : xq (i : Nat) x = false := by
     rw [qaZ, if_neg hk]
     by_cases h2 : x.kind = 2
     ·rw [decide_eq_true h2, Bool.true_and, decide_eq_false]
      intro h
      exact hv ⟨h2, by rw [h]; rfl⟩
     ·rw [decide_eq_false h2, Bool.false_and]
    rw [List.any_append, List.any_cons, List.any_nil, this, Bool.or_false, Bool.or_false]
   rw [beqI, beqI, beqI, qcc, g6]
   by_cases h7 : x.kind = 7
   ·rw [decide_eq_true h7]
    simp only [cond_true, Bool.true_and, zN (show R'.length + x.subs.length ≤ 1099511627776 by have := qaK x.subs; omega)]
    exact push (.inl h7)
   rw [decide_eq_false h7, cond_false]
   by_cases h9 : x.kind = 9
   ·rw [decide_eq_true h9]
    simp only [cond_true, Bool.true_and, zN (show R'.length + x.subs.length ≤ 1099511627776 by have := qaK x.subs; omega)]
    exact push (.inr h9)
   rw [decide_eq_false h9, cond_false]
   have hk : ¬ (x.kind = 7 ∨ x.kind = 9) := by omega
   unfold varR
   simp only [qf, kTup, qc, qn, qm, kNil]
   cases hv : varG x.str with
   | none =>
    rw [hv] at drop
    exact drop hk (by simp)
   | some v =>
    by_cases h2 : x.kind = 2
    ·rw [decide_eq_true h2]
     obtain ⟨hv0, hv9⟩ := qnI hv
     obtain ⟨m, rfl⟩ : ∃ m : Nat, v = m := ⟨v.toNat, by omega⟩
     obtain ⟨r', hr1, hr2, hr3, hr4, hr5⟩ := qhx qnL (n := m) (by omega)
     simp only [Option.getD_some, Option.isSome_some, cond_true, hr1, qf, qbq]
     refine Gets.mono (qoc n R' h4 r' _ (by omega) (by omega) (by omega) g5 hr2 (by rw [hr4]; rfl)) ?_
     rintro _ rfl
     apply congrArg yw
     funext i
     have : xq (i : Nat) x = decide (i = m) := by
      rw [qaZ, if_neg hk, decide_eq_true h2, Bool.true_and, hv]
      exact decide_eq_decide.2 ⟨fun h => by cases h; rfl, fun h => by rw [h]⟩
     rw [List.any_append, List.any_cons, List.any_nil, this, Bool.or_false]
     cases decide (i = m) <;> cases R'.any (xq (i : Nat)) <;> rfl
    ·rw [decide_eq_false h2]
     exact drop hk (fun h => h2 h.1)
theorem qox {t : Tm} (h : t.w < 1099511627776) : EVf (EV cfg) 178 [t.av] = some (.sl (vF (zS t))) := by
 have hm := qeS h
 apply Gets.get
 rw [Tm.av, Tm.cells_eq] at hm ⊢
 refine qmX _ _ _ _ ?_
 rw [hm]
 simp only [qf, qm]
 unfold zS
 by_cases hc : t.chk = 0
 ·rw [decide_eq_true hc, if_pos hc]
  have hl := qpD (p := t) t.w [t] [t.cells] (by rw [qv, xp]; exact qum _) h (qum _) rfl
  rw [Tm.cells_eq] at hl
  refine Gets.mono hl ?_
  rintro _ rfl
  unfold yw
  have : (fun i : Nat => [t].any (xq (i : Nat))) = fun i : Nat => xq (i : Nat) t := by funext i; simp
  rw [this]
 ·rw [decide_eq_false hc, if_neg hc]
  exact ⟨_, rfl, rfl⟩
end Go.Proofs.YtkohdkldmpiiiaaGreat
end
section
namespace Go.Av
theorem y9 {l : List Tm} {i : Nat} {t : Tm} (h : l[i]? = some t) : qul (qa l) (quG (i : Int)) = some t.cells := by
 rw [qK, quE, y8, h]; rfl
def MOut (o : Option (List (Int × Tm))) (b : Bool) (r : List AV) : Prop := match o with
 | some m => b = true ∧ BRow m r ∧ ∀ q ∈ m, q.2.chk = 0
 | none => b = false
def QM (o : Option (List (Int × Tm))) (q : MV × List (List AV)) : Prop := ∃ b r, q = (MV.bool b, [r]) ∧ MOut o b r
theorem QM.same {p t : Tm} {m : List (Int × Tm)} {r : List AV} (h : BRow m r) (hm : ∀ q ∈ m, q.2.chk = 0) : QM (if p = t then some m else none) (MV.bool (decide (p = t)), [r]) := by
 refine ⟨_, r, rfl, ?_⟩
 by_cases h1 : p = t
 ·rw [if_pos h1, decide_eq_true h1]; exact ⟨rfl, h, hm⟩
 ·rw [if_neg h1, decide_eq_false h1]; exact rfl
end Go.Av
namespace Go.Proofs.YtkohdkldmpiiiaaGreat
open Go.Av
abbrev mkH (r : List (List AV)) : AH := [.rows false 1 [[.ms 1 0 r.length]], .rows true 7 r]
theorem qqq {n : Nat} (h : n ≤ 1099511627776) : vD n 80 = true := by unfold vD; simp only [nble, que, decide_eq_true_eq]; omega
theorem qjX {ins : List InsA} (hi : ins.length < 1099511627776) (o a b k n : Int) (s : List UInt8) (l : List Tm) (r : List (List AV)) (hr : r = qa l) :
  EVj (EV cfg) 108 1 [.ptr 0 0 0, .agg [.int .i64 o, .int .i64 a, .int .i64 b, .int .i64 k, .int .i64 n, .str s, .sl r]] (mkH (qe ins)) = some (.int .i64 (ins.length : Int), mkH (qe (ins ++ [⟨o, a, b, .mk k n s l⟩]))) := by
 subst hr
 apply Gets.get
 refine qqE _ _ _ _ _ _ _ _ ?_
 have e1 : (quw (0 + (qe ins).length) (qe ins).length && vD ((qe ins).length + 1) 80) = true := by
  rw [q6, qqq (by omega), nble, decide_eq_true (by omega)]; rfl
 have e2 : quD (qux (qe ins).length (qe ins)) [[AV.int .i64 o, .int .i64 a, .int .i64 b, .int .i64 k, .int .i64 n, .str s, .sl (qa l)]] = qe (ins ++ [⟨o, a, b, .mk k n s l⟩]) := by
  rw [quu (qum _), qjH]
  show qe ins ++ _ = qe ins ++ [InsA.row _]
  rw [InsA.row, Tm.cells_mk]
 have e3 : IntKind.wrap .i64 ((((qe ins).length + 1 : Nat) : Int) - 1) = (ins.length : Int) := by
  rw [q6, xa (by omega) (by omega)]; omega
 rw [e1, cond_true, e2, e3]
 refine ⟨_, rfl, ?_⟩
 show _ = (_, mkH _)
 rw [mkH, show (qe ins).length + 1 = (qe (ins ++ [⟨o, a, b, .mk k n s l⟩])).length by simp]
theorem qdy {ins : List InsA} (hi : ins.length < 1099511627776) (o a b : Int) (t : Tm) :
  EVj (EV cfg) 108 1 [.ptr 0 0 0, .agg [.int .i64 o, .int .i64 a, .int .i64 b, .int .i64 t.kind, .int .i64 t.num, .str t.str, .sl (qa t.subs)]] (mkH (qe ins)) = some (.int .i64 (ins.length : Int), mkH (qe (ins ++ [⟨o, a, b, t⟩]))) := by
 have := qjX hi o a b t.kind t.num t.str t.subs _ rfl
 rw [Tm.eta] at this
 exact this
theorem xA {ins : List InsA} (hi : ins.length < 1099511627776) (o a b : Int) :
  EVj (EV cfg) 108 1 [.ptr 0 0 0, .agg [.int .i64 o, .int .i64 a, .int .i64 b, .int .i64 0, .int .i64 0, .str [], .sl []]] (mkH (qe ins)) = some (.int .i64 (ins.length : Int), mkH (qe (ins ++ [⟨o, a, b, zT⟩]))) :=
 qjX hi o a b 0 0 [] [] _ vG.symm
def y5 (t : Tm) : Prop := ∀ ins : List InsA, ins.length + t.w < 1099511627776 → EVj (EV cfg) 57 1 [.ptr 0 0 0, t.av] (mkH (qe ins)) = some (.tup [], mkH (qe (ins ++ qC t ins.length)))
theorem y5.c {t : Tm} (h : y5 t) {ins : List InsA} (hw : ins.length + t.w < 1099511627776) : EVj (EV cfg) 57 1 [.ptr 0 0 0, .agg [.int .i64 t.kind, .int .i64 t.num, .str t.str, .sl (qa t.subs)]] (mkH (qe ins)) = some (.tup [], mkH (qe (ins ++ qC t ins.length))) := by
 rw [xl]; exact h ins hw
theorem qqz {l : List Tm} (hx : ∀ t ∈ l, y5 t) : ∀ (k i : Nat) (ins : List InsA), l.length - i = k → i ≤ l.length → ins.length + wL (l.drop i) < 1099511627776 → l.length < 1099511627776 →
  Gets (qeE (qa l) (i : Int) (qe ins).length (qe ins)) (· = (.tup [], mkH (qe (ins ++ xE (l.drop i) ins.length)))) := by
 intro k
 induction k with
 | zero =>
  intro i ins hk hi hw hlen
  refine qdl _ _ _ _ ?_
  unfold za0 za1 za2 za3 za4 za5 za6
  rw [qh, decide_eq_false (by omega), cond_false]
  refine ⟨_, rfl, ?_⟩
  rw [List.drop_eq_nil_of_le (by omega), qcD, List.append_nil]
 | succ k ih =>
  intro i ins hk hi hw hlen
  refine qdl _ _ _ _ ?_
  unfold za0 za1 za2 za3 za4 za5 za6
  have hil : i < l.length := by omega
  have g0 : l[i]? = some l[i] := quj hil
  have hd : l.drop i = l[i] :: l.drop (i + 1) := by rw [List.drop_eq_getElem_cons hil]
  rw [hd, qv] at hw
  have hc := yp l[i] ins.length
  have e1 : (qj 0 (i : Int) && qp (i : Int) ((qa l).length : Int)) = true := by simp; omega
  have hz := (hx l[i] (List.getElem_mem hil)).c (ins := ins) (by omega)
  rw [decide_eq_true (show (i : Int) < ((qa l).length : Int) by simp; omega), e1]
  simp only [y9 g0, qf, qz, qx, qZ, qY, qH, quy, cond_true, qy, qI, qJ, qu, qD, qW, qN, q8, q9, show quw 4 4 = true from rfl, hz]
  rw [vr hil hlen]
  have := ih (i + 1) (ins ++ qC l[i] ins.length) (by omega) (by omega) (by simp; omega) hlen
  rw [hd, qbH, ← List.append_assoc]
  rw [qus] at this
  exact this
theorem qfp {l : List Tm} (hx : ∀ t ∈ l, y5 t) {ins : List InsA} (hw : ins.length + wL l < 1099511627776) :
  EVj (EV cfg) 118 1 [.ptr 0 0 0, .sl (qa l)] (mkH (qe ins)) = some (.tup [], mkH (qe (ins ++ xE l ins.length))) := by
 apply Gets.get
 refine qpb _ _ ?_
 refine qj5 _ _ _ _ ?_
 unfold za0 za1 za2 za3 za4 za5 za6
 have hlen : l.length < 1099511627776 := by have := qaA l; omega
 cases l with
 | nil =>
  simp only [vG, List.length_nil]
  refine ⟨_, rfl, ?_⟩
  rw [qcD, List.append_nil]
 | cons t l =>
  have g0 : (t :: l)[0]? = some t := rfl
  have e1 : (qj 0 (0 : Int) && qp (0 : Int) ((qa (t :: l)).length : Int)) = true := by simp <;> omega
  have hz := (hx t (by simp)).c (ins := ins) (by rw [qv] at hw; omega)
  have g0' := y9 g0
  rw [decide_eq_true (show (0 : Int) < ((qa (t :: l)).length : Int) by simp <;> omega), e1]
  rw [show ((0 : Nat) : Int) = 0 from rfl] at g0'
  simp only [g0', qf, qz, qx, qZ, qY, qH, quy, cond_true, qy, qI, qJ, qu, qD, qW, qN, q8, q9, show quw 4 4 = true from rfl, hz]
  have hc := yp t ins.length
  have := qqz (l := t :: l) hx l.length 1 (ins ++ qC t ins.length) (by simp) (by simp) (by rw [qv] at hw; simp; omega) hlen
  rw [qbH, ← List.append_assoc]
  rw [qus] at this
  exact this
abbrev iz (o a b : Int) : InsA := ⟨o, a, b, zT⟩
mutual
/-- the code of a pattern, where some variables stand ahead; these with its own -/
def vV : Tm → List Int → List InsA × List Int
 | .mk k n s l, V =>
  match varT (.mk k n s l) with
  | some x => if x ∈ V then ([iz 4 x 0], V) else ([iz 3 x 0], V ++ [x])
  | none =>
   if anyT (.mk k n s l) = true then ([iz 5 0 0], V)
   else if k = 7 then (iz 1 (l.length : Int) 0 :: (xh l V).1, (xh l V).2)
   else if k = 9 then (iz 2 0 0 :: (xh l V).1, (xh l V).2)
   else ([⟨6, 0, 0, .mk k n s l⟩], V)
def xh : List Tm → List Int → List InsA × List Int
 | [], V => ([], V)
 | t :: l, V => ((vV t V).1 ++ (xh l (vV t V).2).1, (xh l (vV t V).2).2)
end
theorem qgR (t : Tm) (V : List Int) : vV t V = (match varT t with
  | some x => if x ∈ V then ([iz 4 x 0], V) else ([iz 3 x 0], V ++ [x])
  | none =>
   if anyT t = true then ([iz 5 0 0], V)
   else if t.kind = 7 then (iz 1 (t.subs.length : Int) 0 :: (xh t.subs V).1, (xh t.subs V).2)
   else if t.kind = 9 then (iz 2 0 0 :: (xh t.subs V).1, (xh t.subs V).2)
   else ([⟨6, 0, 0, t⟩], V)) := by
 obtain ⟨k, n, s, l⟩ := t
 rw [vV.eq_def]; rfl
theorem qd4 (V : List Int) : xh [] V = ([], V) := by rw [xh]
theorem qc6 (t : Tm) (l : List Tm) (V : List Int) : xh (t :: l) V = ((vV t V).1 ++ (xh l (vV t V).2).1, (xh l (vV t V).2).2) := by rw [xh]
theorem qql : ∀ (n : Nat) (t : Tm), t.w ≤ n → ∀ V, (vV t V).1.length ≤ t.w := by
 intro n
 induction n with
 | zero => intro t h; have := t.w_eq; omega
 | succ n ih =>
  intro t h V
  have hw := t.w_eq
  have hm : ∀ l : List Tm, wL l ≤ n → ∀ V, (xh l V).1.length ≤ wL l := by
   intro l
   induction l with
   | nil => intro _ V; rw [qd4]; simp
   | cons t l ihl =>
    intro hl V
    rw [qv] at hl
    rw [qc6, qv]
    have h1 := ih t (by omega) V
    have h2 := ihl (by omega) (vV t V).2
    simp; omega
  have h1 := hm t.subs (by omega) V
  rw [qgR]
  split
  ·split <;> · simp; omega
  ·split
   ·simp; omega
   ·split
    ·simp; omega
    ·split <;> · simp; omega
theorem qgQ (t : Tm) (V : List Int) : (vV t V).1.length ≤ t.w := qql t.w t (qum _) V
def mV (V : List Int) : List (AV × AV) := V.map fun x => (.int .i64 x, .bool true)
theorem qsT (V : List Int) (x : Int) : quD (mV V) [(.int .i64 x, .bool true)] = mV (V ++ [x]) := by
 show mV V ++ _ = _
 unfold mV; simp
theorem qnS {x : Int} : ∀ {V : List Int}, x ∉ V → ∀ j, xz (TD.int .i64) (.int .i64 x) (mV V) j = some none
 | [], _, _ => rfl
 | y :: V, h, j => by
  show xz _ _ ((.int .i64 y, .bool true) :: mV V) j = _
  rw [xz]
  have hn : x ≠ y := fun e => h (by simp [e])
  have e : qbJ (TD.int .i64) (.int .i64 x) (.int .i64 y) = some false := by
   unfold qbJ
   simp [hn]
  rw [e]
  exact qnS (fun hx => h (by simp [hx])) (j + 1)
theorem qnR {x : Int} : ∀ {V : List Int}, x ∈ V → ∀ j, ∃ i, xz (TD.int .i64) (.int .i64 x) (mV V) j = some (some (i, .bool true))
 | [], h, _ => absurd h (by simp)
 | y :: V, h, j => by
  show ∃ i, xz _ _ ((.int .i64 y, .bool true) :: mV V) j = _
  rw [xz]
  by_cases hn : x = y
  ·have e : qbJ (TD.int .i64) (.int .i64 x) (.int .i64 y) = some true := by
    unfold qbJ
    simp [hn]
   rw [e]
   exact ⟨j, rfl⟩
  ·have e : qbJ (TD.int .i64) (.int .i64 x) (.int .i64 y) = some false := by
    unfold qbJ
    simp [hn]
   rw [e]
   exact qnR (by simpa [hn] using h) (j + 1)
theorem qjF (P Q : List InsA) (h h' : InsA) : List.set (qe (P ++ h :: Q)) P.length h'.row = qe (P ++ h' :: Q) := by
 unfold qe
 rw [List.map_append, List.map_append, show P.length = (P.map InsA.row).length by simp, List.set_append]
 simp
theorem qjG (P Q : List InsA) (h : InsA) : qul (qe (P ++ h :: Q)) P.length = some h.row := by
 apply qdN
 simp
theorem qp7 (o : Int) (ins x y : List InsA) : ins ++ qdR o ins.length x y = (ins ++ x) ++ (⟨o, 0, ((ins ++ x ++ [iz o 0 0] ++ y ++ [iz 17 0 0]).length : Int), zT⟩ : InsA) :: (y ++ [iz 17 0 0]) := by
 rw [qdR, ← List.append_assoc]
 have : ins.length + x.length + 1 + y.length + 1 = (ins ++ x ++ [iz o 0 0] ++ y ++ [iz 17 0 0]).length := by simp; omega
 rw [this]
theorem qqA (o : Int) {a b : Tm} {r : List Tm} (ha : y5 a) (hb : y5 b) {ins : List InsA} (hw : ins.length + (wL (a :: b :: r) + 2) < 1099511627776) :
  EVj (EV cfg) 119 1 [.ptr 0 0 0, .int .i64 o, .sl (qa (a :: b :: r))] (mkH (qe ins)) = some (.tup [], mkH (qe (ins ++ zd o (a :: b :: r) ins.length))) := by
 apply Gets.get
 refine qpc _ _ _ ?_
 rw [qv, qv] at hw
 have la := yp a ins.length
 have z1 := ha.c (ins := ins) (by omega)
 have z2 := xA (ins := ins ++ qC a ins.length) (by simp; omega) o 0 0
 have lb := yp b (ins.length + (qC a ins.length).length + 1)
 have hl2 : (ins ++ qC a ins.length ++ [iz o 0 0]).length = ins.length + (qC a ins.length).length + 1 := by simp; omega
 have z3 := hb.c (ins := ins ++ qC a ins.length ++ [iz o 0 0]) (by rw [hl2]; omega)
 rw [hl2] at z3
 have z4 := xA (ins := ins ++ qC a ins.length ++ [iz o 0 0] ++ qC b (ins.length + (qC a ins.length).length + 1)) (by rw [qus, hl2]; omega) 17 0 0
 have g0 : qul (qa (a :: b :: r)) 0 = some a.cells := by rw [qG]; rfl
 have g1 : qul (qa (a :: b :: r)) 1 = some b.cells := by rw [qG, qG]; rfl
 have e1 : qp 0 ((qa (a :: b :: r)).length : Int) = true := by simp <;> omega
 have e2 : qp 1 ((qa (a :: b :: r)).length : Int) = true := by simp <;> omega
 simp only [e1, e2, g0, g1, z1, z2, z3, z4, qf, qz, qx, qZ, qY, qH, quy, cond_true, qy, qI, qJ, qu, qn, qD, qW, qN, q8, q9, show quw 4 4 = true from rfl]
 generalize hy : qC b (ins.length + (qC a ins.length).length + 1) = y at *
 have e3 : (qj 0 ((ins ++ qC a ins.length).length : Int) && qp ((ins ++ qC a ins.length).length : Int) ((qe (ins ++ qC a ins.length ++ [iz o 0 0] ++ y ++ [iz 17 0 0])).length : Int)) = true := by
  rw [vq, xT, q6]
  simp
 have e4 : ins ++ qC a ins.length ++ [iz o 0 0] ++ y ++ [iz 17 0 0] = (ins ++ qC a ins.length) ++ iz o 0 0 :: (y ++ [iz 17 0 0]) := by simp
 rw [e3, cond_true, quE, Nat.zero_add]
 have e5 : zd o (a :: b :: r) ins.length = qdR o ins.length (qC a ins.length) y := by rw [qe2, hy]
 rw [e5, qp7, e4, qjG]
 simp only [qf, InsA.row_len, show quw 3 7 = true from rfl, cond_true]
 refine ⟨_, rfl, ?_⟩
 have e6 : ∀ n : Int, quD (quD (qux 2 (iz o 0 0).row) [AV.int .i64 n]) (quN 3 (iz o 0 0).row) = (iz o 0 n).row := fun n => rfl
 rw [e6, qjF, q6]
 show _ = (_, mkH _)
 rw [mkH, q6]
 simp
theorem qee {V : List Int} {l : List Tm} (h : allG V l = true) : ∀ x ∈ l, isG V x = true := by
 intro x hx
 cases hn : isG V x with
 | true => rfl
 | false => rw [qef.2 ⟨x, hx, hn⟩] at h; exact h
theorem qqC {V : List Int} : ∀ (n : Nat) (t : Tm), t.w ≤ n → isG V t = true → y5 t := by
 intro n
 induction n with
 | zero => intro t h; have := t.w_eq; omega
 | succ n ih =>
  intro t h hg ins hw
  have hwe := t.w_eq
  have hi : ins.length < 1099511627776 := by omega
  apply Gets.get
  rw [Tm.av, Tm.cells_eq]
  refine qpf _ _ _ _ _ ?_
  unfold zb7 zb0 zb1 zb2 zb3 zb4 zb5 zb6
  by_cases h2 : t.kind = 2
  ·have hv := qcA (t := t) (by omega)
   have b1 : (t.kind == (2 : Int)) = true := by simp [h2]
   have z := qdy hi 7 0 0 t
   rw [qd9 h2, b1, cond_true, xl, hv]
   cases hvt : varT t with
   | some x =>
    simp only [varR, qf, qz, qx, qZ, qY, qH, quy, cond_true, qy, qI, qJ, qu, qn, qD, qF, qm, qW, xA hi]
    exact ⟨_, rfl, rfl⟩
   | none =>
    simp only [varR, qf, qu, qn, qD, qF, qm]
    by_cases s1 : t.str = [36, 95]
    ·have b2 : (t.str == [36, 95]) = true := by simp [s1]
     rw [b2, if_pos s1]
     simp only [qf, qz, qx, qZ, qY, qH, quy, cond_true, qy, qI, qJ, qu, qn, qD, qW, xA hi]
     exact ⟨_, rfl, rfl⟩
    have b2 : (t.str == [36, 95]) = false := by simp [s1]
    rw [b2, if_neg s1]
    by_cases s2 : t.str = [36, 36]
    ·have b3 : (t.str == [36, 36]) = true := by simp [s2]
     rw [b3, if_pos s2]
     simp only [qf, qz, qx, qZ, qY, qH, quy, cond_true, cond_false, qy, qI, qJ, qu, qn, qD, qW, xA hi]
     exact ⟨_, rfl, rfl⟩
    have b3 : (t.str == [36, 36]) = false := by simp [s2]
    rw [b3, if_neg s2]
    simp only [qf, qz, qx, qZ, qY, qH, quy, cond_true, cond_false, qy, qI, qJ, qu, qn, qD, qW, z]
    exact ⟨_, rfl, rfl⟩
  have b1 : (t.kind == (2 : Int)) = false := by simp [h2]
  rw [b1, cond_false]
  by_cases h9 : t.kind = 9
  ·have b2 : (t.kind == (9 : Int)) = true := by simp [h9]
   rw [qlS h9] at hg
   have hx := fun x hx => ih x (by have := yv (l := t.subs) hx; omega) (qee hg x hx)
   have lm := qgL t.subs ins.length
   have z1 := qfp hx (ins := ins) (by omega)
   have z2 := xA (ins := ins ++ xE t.subs ins.length) (by rw [qus]; omega) 12 0 0
   rw [b2, qd8 h9]
   simp only [qf, qz, qx, qZ, qY, qH, quy, cond_true, qy, qI, qJ, qu, qn, qD, qW, z1, z2]
   refine ⟨_, rfl, ?_⟩
   rw [List.append_assoc]
  have b2 : (t.kind == (9 : Int)) = false := by simp [h9]
  rw [b2, cond_false]
  by_cases h7 : t.kind = 7
  ·have b3 : (t.kind == (7 : Int)) = true := by simp [h7]
   rw [b3, cond_true]
   cases hl : t.subs with
   | nil => rw [qnX h7 hl] at hg; exact absurd hg (by simp)
   | cons f r =>
    rw [qnW h7 hl] at hg
    rw [hl, qv] at hwe
    have hfe := f.w_eq
    have g0 : qul (qa (f :: r)) 0 = some f.cells := by rw [qG]; rfl
    have e1 : qp 0 ((qa (f :: r)).length : Int) = true := by simp <;> omega
    have e2 : qj 1 ((qa (f :: r)).length : Int) = true := by simp <;> omega
    have e3 : qux ((qa (f :: r)).length - 1) (quN 1 (qa (f :: r))) = qa r := by
     rw [qG]
     show qux (qa r).length (qa r) = qa r
     exact quu (qum _)
    simp only [e1, e2, e3, g0, qf, qH, cond_true, qN, q8, q9, show quw 4 4 = true from rfl, qaE]
    rw [qfh h7 hl]
    by_cases f7 : f.kind = 7
    ·have b4 : (f.kind == (7 : Int)) = true := by simp [f7]
     rw [if_pos f7, que] at hg
     have hx := fun x hx => ih x (by have := yv (l := f.subs) hx; omega) (qee hg.2 x hx)
     have lm := qgL f.subs ins.length
     have z1 := qfp hx (ins := ins) (by omega)
     have z2 := xA (ins := ins ++ xE f.subs ins.length) (by rw [qus]; omega) 11 f.subs.length 0
     rw [b4, if_pos f7]
     simp only [qf, qz, qx, qZ, qY, qH, quy, cond_true, qy, qI, qJ, qu, qn, qD, qW, z1, z2, qh]
     refine ⟨_, rfl, ?_⟩
     rw [List.append_assoc]
    have b4 : (f.kind == (7 : Int)) = false := by simp [f7]
    rw [b4, if_neg f7, cond_false]
    rw [if_neg f7] at hg
    have f2 : f.kind = 2 := by
     by_cases f2 : f.kind = 2
     ·exact f2
     ·rw [if_neg f2] at hg; exact absurd hg (by simp)
    rw [if_pos f2] at hg
    by_cases s1 : f.str = qfn
    ·have b5 : (f.str == [99, 111, 110, 115, 116]) = true := by simp [s1, qfn]
     rw [if_pos (show f.str = [99, 111, 110, 115, 116] from s1)] at hg
     rw [b5, if_pos s1, cond_true]
     match r, hg with
     | [c], _ =>
      have g1 : qul (qa [c]) 0 = some c.cells := by rw [qG]; rfl
      have e4 : qp 0 ((qa [c]).length : Int) = true := by simp <;> omega
      have z := qdy hi 7 0 0 c
      simp only [g1, e4, qf, qz, qx, qZ, qY, qH, quy, cond_true, qy, qI, qJ, qu, qn, qD, qW, qN, q8, q9, show quw 4 4 = true from rfl, z]
      refine ⟨_, rfl, ?_⟩
      rw [qcq]
    have b5 : (f.str == [99, 111, 110, 115, 116]) = false := by simpa [qfn] using s1
    rw [if_neg (show ¬ f.str = [99, 111, 110, 115, 116] from s1), que] at hg
    rw [b5, if_neg s1, cond_false]
    have hx := fun x hx => ih x (by have := yv (l := r) hx; omega) (qee hg.2 x hx)
    have hz : (f.str = andS ∨ f.str = orS) → ∀ o : Int, EVj (EV cfg) 119 1 [.ptr 0 0 0, .int .i64 o, .sl (qa r)] (mkH (qe ins)) = some (.tup [], mkH (qe (ins ++ zd o r ins.length))) := by
     intro hs o
     have h2r : r.length = 2 := by
      have h0 := hg.1
      rcases hs with hs | hs <;> · rw [hs] at h0; have h0 : (r.length : Int) = 2 := (by simpa [opsG, qeW, qaJ, andS, orS] using h0); omega
     match r, h2r with
     | [a, b], _ =>
      have hfs : 1 ≤ f.str.length := by rcases hs with hs | hs <;> · rw [hs]; decide
      exact qqA o (hx a (by simp)) (hx b (by simp)) (by simp only [qv, xp] at hwe ⊢; omega)
    by_cases s2 : f.str = andS
    ·have b6 : (f.str == [97, 110, 100, 97, 108, 115, 111]) = true := by simp [s2, andS]
     rw [b6, if_pos s2]
     simp only [qf, qz, qx, qZ, qY, qH, quy, cond_true, qy, qI, qJ, qu, qD, qW, hz (Or.inl s2)]
     exact ⟨_, rfl, rfl⟩
    have b6 : (f.str == [97, 110, 100, 97, 108, 115, 111]) = false := by simpa [andS] using s2
    rw [b6, if_neg s2, cond_false]
    by_cases s3 : f.str = orS
    ·have b7 : (f.str == [111, 114, 101, 108, 115, 101]) = true := by simp [s3, orS]
     rw [b7, if_pos s3]
     simp only [qf, qz, qx, qZ, qY, qH, quy, cond_true, qy, qI, qJ, qu, qD, qW, hz (Or.inr s3)]
     exact ⟨_, rfl, rfl⟩
    have b7 : (f.str == [111, 114, 101, 108, 115, 101]) = false := by simpa [orS] using s3
    rw [b7, if_neg s3, cond_false]
    have lm := qgL r ins.length
    have z1 := qfp hx (ins := ins) (by omega)
    have z2 := qdy (ins := ins ++ xE r ins.length) (by rw [qus]; omega) 13 r.length 0 f
    simp only [qf, qz, qx, qZ, qY, qH, quy, cond_true, qy, qI, qJ, qu, qn, qD, qW, z1, z2, qh]
    refine ⟨_, rfl, ?_⟩
    rw [List.append_assoc]
  have b3 : (t.kind == (7 : Int)) = false := by simp [h7]
  have z := qdy hi 7 0 0 t
  rw [b3, qdc h2 h9 h7]
  simp only [qf, qz, qx, qZ, qY, qH, quy, cond_true, cond_false, qy, qI, qJ, qu, qn, qD, qW, z]
  exact ⟨_, rfl, rfl⟩
noncomputable def qrO : Den := evC cfg (EV cfg) 165 none 6 (sub (ql Tryz.f165) [1, 1, 1, 1, 0, 1, 0, 0])
noncomputable def qrT : Ex × List AV × AH → Option (AV × AH) := kAft (Cfg.keepOut cfg 165 16) (kRun cfg (EV cfg) (kfN cfg 6) 165 none 6 (qfM cfg 5 (Cfg.lift cfg 165 0) Tryz.f165.results.toList) ([.block 1]))
noncomputable def qrM : List AV × AH → Option (AV × AH) := fun p => kOpt (LOOP 6 (some [3, 69, 70, 71]) ([]) qrO p) qrT
noncomputable abbrev zB (l : Rz) (v71 : Int) (m3 : List (AV × AV)) (nc4_0 : Nat) (h6 : Rz) : Option (AV × AH) := qrM  (((fx 79 [(3, .ptr 2 0 0), (69, .sl l), (70, .int .i64 (l.length : Int)), (71, .int .i64 v71)]) : List AV), ([.rows false 1 [[.mp 3]], .rows false 1 [[.ptr 4 0 0]], .rows false 1 [[.fn (Fn.func 165) [] [.ptr 0 0 0, .ptr 1 0 0, .ptr 2 0 0]]], .mp true m3, .rows false 1 [[.ms 6 0 nc4_0]], .dead, .rows true 7 h6] : AH))
theorem qpd (ins : Rz) (k n : Int) (s : Bz) (l : Rz) {P : AV × AH → Prop} (h : Gets (kOpt (EVj (EV cfg) 165 5 [.agg [.int .i64 k, .int .i64 n, .str s, .sl l], .ptr 0 0 0, .ptr 1 0 0, .ptr 2 0 0] [.rows false 1 [[AV.mp 3]], .rows false 1 [[.ptr 4 0 0]], .rows false 1 [[AV.fn (Fn.func 165) [] [.ptr 0 0 0, .ptr 1 0 0, .ptr 2 0 0]]], ABlk.mp true [], .rows false 1 [[.ms 5 0 (qug ins)]], .rows true 7 ins]) fun q => qq q.2 fun b bs => qr b fun d' n rs => bif beqB false d' && qun n 1 then qS rs fun row rest => vg rest (qq bs fun b bs => qr b fun d' n rs => bif beqB false d' && qun n 1 then qS rs fun row_1 rest => vg rest (qq bs fun b bs => qr b fun d' n rs => bif beqB false d' && qun n 1 then qS rs fun row_2 rest => vg rest (qq bs fun b bs => kMpB b fun d' es => bif beqB true d' then qq bs fun b bs => qr b fun d' n rs => bif beqB false d' && qun n 1 then qS rs fun row_3 rest => vg rest (qq bs fun b bs => qr b fun d' n rs => bif beqB true d' && qun n 7 then vw bs (qc row fun c cs => kMpE c fun id => bif qun id 3 then kNil cs (qc row_1 fun c cs => qh3 c fun id r off => bif qun id 4 && (qun r 0 && qun off 0) then kNil cs (qc row_2 fun c cs => bif AV.same c (AV.fn (Fn.func 165) [] [.ptr 0 0 0, .ptr 1 0 0, .ptr 2 0 0]) then kNil cs (qc row_3 fun c cs => kMsE c fun id off len => bif qun id 5 && (qun off 0 && qun len (qug rs)) then kNil cs (some (AV.tup [], [.rows false 1 [[.ms 1 0 (qug rs)]], .rows true 7 rs])) else none) else none) else none) else none) else none) else none else none) else none) else none) else none) P) : Gets (EVj (EV cfg) 107 1 [.ptr 0 0 0, .agg [.int .i64 k, .int .i64 n, .str s, .sl l]] ([ABlk.rows false (1 : Nat) [[AV.ms (1 : Nat) (0 : Nat) (qug ins)]], ABlk.rows true (7 : Nat) ins] : AH)) P :=
  gE (fun _ => funJ rfl rfl Tryz.func107 rfl) (by kernel_rfl) h
noncomputable abbrev zr2 (l : Rz) (es : List (AV × AV)) (n_1 : Int) (rs : Rz) : Option (AV × AH) := zB l 0 (quD es [(.int .i64 n_1, .bool true)]) (qug rs) rs
noncomputable abbrev zr4 (es : List (AV × AV)) (n_1 : Int) (rs : Rz) : Option (AV × AH) := some (AV.tup [], [.rows false 1 [[AV.mp 3]], .rows false 1 [[.ptr 4 0 0]], .rows false 1 [[AV.fn (Fn.func 165) [] [.ptr 0 0 0, .ptr 1 0 0, .ptr 2 0 0]]], ABlk.mp true (quD es [(.int .i64 n_1, .bool true)]), .rows false 1 [[.ms 5 0 (qug rs)]], .rows true 7 rs])
noncomputable abbrev zr3 (k : Int) (l : Rz) (es : List (AV × AV)) (n_1 : Int) (rs : Rz) : Option (AV × AH) := bif k == 9 then zr2 l es n_1 rs else zr4 es n_1 rs
noncomputable abbrev zr1 (k : Int) (l : Rz) (es : List (AV × AV)) (n_1 : Int) (rs : Rz) : Option (AV × AH) := bif k == 7 then zr2 l es n_1 rs else zr3 k l es n_1 rs
noncomputable abbrev zr0 (q : AV × AH) (k : Int) (l : Rz) (es : List (AV × AV)) (n_1 : Int) (rs : Rz) : Option (AV × AH) := kInt .i64 q.1 fun n => zr1 k l es n_1 rs
noncomputable abbrev zr5 (l : Rz) (es : List (AV × AV)) (i : Nat) (n_1 : Int) (rs : Rz) : Option (AV × AH) := zB l 0 (List.set es i (.int .i64 n_1, .bool true)) (qug rs) rs
noncomputable abbrev zr7 (es : List (AV × AV)) (i : Nat) (n_1 : Int) (rs : Rz) : Option (AV × AH) := some (AV.tup [], [.rows false 1 [[AV.mp 3]], .rows false 1 [[.ptr 4 0 0]], .rows false 1 [[AV.fn (Fn.func 165) [] [.ptr 0 0 0, .ptr 1 0 0, .ptr 2 0 0]]], ABlk.mp true (List.set es i (.int .i64 n_1, .bool true)), .rows false 1 [[.ms 5 0 (qug rs)]], .rows true 7 rs])
noncomputable abbrev zr6 (k : Int) (l : Rz) (es : List (AV × AV)) (i : Nat) (n_1 : Int) (rs : Rz) : Option (AV × AH) := bif k == 9 then zr5 l es i n_1 rs else zr7 es i n_1 rs
noncomputable abbrev zr11 (es : List (AV × AV)) (rs : Rz) : Option (AV × AH) := some (AV.tup [], [.rows false 1 [[AV.mp 3]], .rows false 1 [[.ptr 4 0 0]], .rows false 1 [[AV.fn (Fn.func 165) [] [.ptr 0 0 0, .ptr 1 0 0, .ptr 2 0 0]]], ABlk.mp true es, .rows false 1 [[.ms 5 0 (qug rs)]], .rows true 7 rs])
noncomputable abbrev zr10 (k : Int) (l : Rz) (es : List (AV × AV)) (rs : Rz) : Option (AV × AH) := bif k == 9 then zB l 0 es (qug rs) rs else zr11 es rs
noncomputable abbrev zr9 (k : Int) (l : Rz) (es : List (AV × AV)) (rs : Rz) : Option (AV × AH) := bif k == 7 then zB l 0 es (qug rs) rs else zr10 k l es rs
noncomputable abbrev zr8 (q : AV × AH) (k : Int) (l : Rz) (es : List (AV × AV)) (rs : Rz) : Option (AV × AH) := kInt .i64 q.1 fun n => zr9 k l es rs
noncomputable abbrev zr18 (k : Int) (l : Rz) (es : List (AV × AV)) (rs : Rz) : Option (AV × AH) := bif k == (7 : Int) then zB l 0 es (qug rs) rs else zr10 k l es rs
noncomputable abbrev zr17 (q : AV × AH) (k : Int) (l : Rz) (es : List (AV × AV)) (rs : Rz) : Option (AV × AH) := kInt .i64 q.1 fun n => zr18 k l es rs
noncomputable abbrev zr16 (rest : Rz) (bs : AH) (row : List AV) (q : AV × AH) (k : Int) (l : Rz) (es : List (AV × AV)) : Option (AV × AH) := vg rest (qq bs fun b bs => qr b fun d' n rs => bif beqB true d' && qun n 7 then vw bs (qc row fun c cs => kMsE c fun id off len => bif qun id 1 && (qun off 0 && qun len (qug rs)) then kNil cs (zr17 q k l es rs) else none) else none)
noncomputable abbrev zr15 (rs : Rz) (bs : AH) (q : AV × AH) (k : Int) (l : Rz) (es : List (AV × AV)) : Option (AV × AH) := qS rs fun row rest => zr16 rest bs row q k l es
noncomputable abbrev zr14 (d' : Bool) (n : Nat) (rs : Rz) (bs : AH) (q : AV × AH) (k : Int) (l : Rz) (es : List (AV × AV)) : Option (AV × AH) := bif beqB false d' && qun n 1 then zr15 rs bs q k l es else none
noncomputable abbrev zr13 (b : ABlk) (bs : AH) (q : AV × AH) (k : Int) (l : Rz) (es : List (AV × AV)) : Option (AV × AH) := qr b fun d' n rs => zr14 d' n rs bs q k l es
noncomputable abbrev zr12 (q : AV × AH) (k : Int) (l : Rz) (es : List (AV × AV)) : Option (AV × AH) := qq q.2 fun b bs => zr13 b bs q k l es
noncomputable abbrev zr28 (k : Int) (l : Rz) (es : List (AV × AV)) (i : Nat) (n_1 : Int) (rs : Rz) : Option (AV × AH) := bif k == (7 : Int) then zr5 l es i n_1 rs else zr6 k l es i n_1 rs
noncomputable abbrev zr27 (q : AV × AH) (k : Int) (l : Rz) (es : List (AV × AV)) (i : Nat) (n_1 : Int) (rs : Rz) : Option (AV × AH) := kInt .i64 q.1 fun n => zr28 k l es i n_1 rs
noncomputable abbrev zr26 (rest : Rz) (bs : AH) (row : List AV) (q : AV × AH) (k : Int) (l : Rz) (es : List (AV × AV)) (i : Nat) (n_1 : Int) : Option (AV × AH) := vg rest (qq bs fun b bs => qr b fun d' n rs => bif beqB true d' && qun n 7 then vw bs (qc row fun c cs => kMsE c fun id off len => bif qun id 1 && (qun off 0 && qun len (qug rs)) then kNil cs (zr27 q k l es i n_1 rs) else none) else none)
noncomputable abbrev zr25 (rs : Rz) (bs : AH) (q : AV × AH) (k : Int) (l : Rz) (es : List (AV × AV)) (i : Nat) (n_1 : Int) : Option (AV × AH) := qS rs fun row rest => zr26 rest bs row q k l es i n_1
noncomputable abbrev zr24 (d' : Bool) (n : Nat) (rs : Rz) (bs : AH) (q : AV × AH) (k : Int) (l : Rz) (es : List (AV × AV)) (i : Nat) (n_1 : Int) : Option (AV × AH) := bif beqB false d' && qun n 1 then zr25 rs bs q k l es i n_1 else none
noncomputable abbrev zr23 (b : ABlk) (bs : AH) (q : AV × AH) (k : Int) (l : Rz) (es : List (AV × AV)) (i : Nat) (n_1 : Int) : Option (AV × AH) := qr b fun d' n rs => zr24 d' n rs bs q k l es i n_1
noncomputable abbrev zr22 (q : AV × AH) (k : Int) (l : Rz) (es : List (AV × AV)) (i : Nat) (n_1 : Int) : Option (AV × AH) := qq q.2 fun b bs => zr23 b bs q k l es i n_1
noncomputable abbrev zr21 (n_1 : Int) (ins : Rz) (k : Int) (l : Rz) (es : List (AV × AV)) (i : Nat) : Option (AV × AH) := kOpt (EVj (EV cfg) 108 1 [.ptr 0 0 0, AV.agg [.int .i64 3, .int .i64 n_1, .int .i64 0, .int .i64 0, .int .i64 0, .str [], .sl []]] [.rows false 1 [[.ms 1 0 (qug ins)]], .rows true 7 ins]) fun q => zr22 q k l es i n_1
noncomputable abbrev zr20 (r : Option (Nat × AV)) (n_1 : Int) (ins : Rz) (k : Int) (l : Rz) (es : List (AV × AV)) : Option (AV × AH) := qaO r (kOpt (EVj (EV cfg) 108 1 [.ptr 0 0 0, AV.agg [.int .i64 3, .int .i64 n_1, .int .i64 0, .int .i64 0, .int .i64 0, .str [], .sl []]] [.rows false 1 [[.ms 1 0 (qug ins)]], .rows true 7 ins]) fun q => qq q.2 fun b bs => qr b fun d' n rs => bif beqB false d' && qun n 1 then qS rs fun row rest => vg rest (qq bs fun b bs => qr b fun d' n rs => bif beqB true d' && qun n 7 then vw bs (qc row fun c cs => kMsE c fun id off len => bif qun id 1 && (qun off 0 && qun len (qug rs)) then kNil cs (zr0 q k l es n_1 rs) else none) else none) else none) fun i x => zr21 n_1 ins k l es i
noncomputable abbrev zr19 (n_1 : Int) (es : List (AV × AV)) (ins : Rz) (k : Int) (l : Rz) : Option (AV × AH) := kOpt (xz (TD.int .i64) (.int .i64 n_1) es 0) fun r => zr20 r n_1 ins k l es
noncomputable abbrev zr34 (rest : Rz) (bs : AH) (row : List AV) (q : AV × AH) (k : Int) (l : Rz) (es : List (AV × AV)) : Option (AV × AH) := vg rest (qq bs fun b bs => qr b fun d' n rs => bif beqB true d' && qun n 7 then vw bs (qc row fun c cs => kMsE c fun id off len => bif qun id 1 && (qun off 0 && qun len (qug rs)) then kNil cs (zr8 q k l es rs) else none) else none)
noncomputable abbrev zr33 (rs : Rz) (bs : AH) (q : AV × AH) (k : Int) (l : Rz) (es : List (AV × AV)) : Option (AV × AH) := qS rs fun row rest => zr34 rest bs row q k l es
noncomputable abbrev zr32 (d' : Bool) (n : Nat) (rs : Rz) (bs : AH) (q : AV × AH) (k : Int) (l : Rz) (es : List (AV × AV)) : Option (AV × AH) := bif beqB false d' && qun n 1 then zr33 rs bs q k l es else none
noncomputable abbrev zr31 (b : ABlk) (bs : AH) (q : AV × AH) (k : Int) (l : Rz) (es : List (AV × AV)) : Option (AV × AH) := qr b fun d' n rs => zr32 d' n rs bs q k l es
noncomputable abbrev zr30 (q : AV × AH) (k : Int) (l : Rz) (es : List (AV × AV)) : Option (AV × AH) := qq q.2 fun b bs => zr31 b bs q k l es
noncomputable abbrev zr29 (ins : Rz) (k : Int) (l : Rz) (es : List (AV × AV)) : Option (AV × AH) := kOpt (EVj (EV cfg) 108 1 [.ptr 0 0 0, AV.agg [.int .i64 5, .int .i64 (0 : Int), .int .i64 0, .int .i64 0, .int .i64 0, .str [], .sl []]] [.rows false 1 [[.ms 1 0 (qug ins)]], .rows true 7 ins]) fun q => zr30 q k l es
noncomputable abbrev zr35 (l ins : Rz) (k : Int) (es : List (AV × AV)) : Option (AV × AH) := kOpt (EVj (EV cfg) 108 1 [.ptr 0 0 0, AV.agg [.int .i64 1, .int .i64 (l.length : Int), .int .i64 0, .int .i64 0, .int .i64 0, .str [], .sl []]] [.rows false 1 [[.ms 1 0 (qug ins)]], .rows true 7 ins]) fun q => zr30 q k l es
noncomputable abbrev zr36 (ins : Rz) (k : Int) (l : Rz) (es : List (AV × AV)) : Option (AV × AH) := kOpt (EVj (EV cfg) 108 1 [.ptr 0 0 0, AV.agg [.int .i64 2, .int .i64 0, .int .i64 0, .int .i64 0, .int .i64 0, .str [], .sl []]] [.rows false 1 [[.ms 1 0 (qug ins)]], .rows true 7 ins]) fun q => zr30 q k l es
theorem qpg (es : List (AV × AV)) (ins : Rz) (k n : Int) (s : Bz) (l : Rz) {P : AV × AH → Prop} (h : Gets (kOpt (EVs (EV cfg) 117 [.agg [.int .i64 k, .int .i64 n, .str s, .sl l]]) fun v => kTup v fun cs => qc cs fun c cs => kInt .i64 c fun n_1 => qc cs fun c cs => ve c fun b => kNil cs (bif b then kOpt (xz (TD.int .i64) (.int .i64 n_1) es 0) fun r => qaO r (bif b then kOpt (xz (TD.int .i64) (.int .i64 n_1) es 0) fun r => qaO r (kOpt (EVj (EV cfg) 108 1 [.ptr 0 0 0, AV.agg [.int .i64 3, .int .i64 n_1, .int .i64 0, .int .i64 0, .int .i64 0, .str [], .sl []]] [.rows false 1 [[.ms 1 0 (qug ins)]], .rows true 7 ins]) fun q => qq q.2 fun b bs => qr b fun d' n rs => bif beqB false d' && qun n 1 then qS rs fun row rest => vg rest (qq bs fun b bs => qr b fun d' n rs => bif beqB true d' && qun n 7 then vw bs (qc row fun c cs => kMsE c fun id off len => bif qun id 1 && (qun off 0 && qun len (qug rs)) then kNil cs (zr0 q k l es n_1 rs) else none) else none) else none) fun i x => kOpt (EVj (EV cfg) 108 1 [.ptr 0 0 0, AV.agg [.int .i64 3, .int .i64 n_1, .int .i64 0, .int .i64 0, .int .i64 0, .str [], .sl []]] [.rows false 1 [[.ms 1 0 (qug ins)]], .rows true 7 ins]) fun q => qq q.2 fun b bs => qr b fun d' n rs => bif beqB false d' && qun n 1 then qS rs fun row rest => vg rest (qq bs fun b bs => qr b fun d' n rs => bif beqB true d' && qun n 7 then vw bs (qc row fun c cs => kMsE c fun id off len => bif qun id 1 && (qun off 0 && qun len (qug rs)) then kNil cs (kInt .i64 q.1 fun n => bif k == 7 then zr5 l es i n_1 rs else zr6 k l es i n_1 rs) else none) else none) else none else kOpt (EVs (EV cfg) 166 [.agg [.int .i64 k, .int .i64 n, .str s, .sl l]]) fun v => ve v fun b => bif b then kOpt (EVj (EV cfg) 108 1 [.ptr 0 0 0, AV.agg [.int .i64 5, .int .i64 0, .int .i64 0, .int .i64 0, .int .i64 0, .str [], .sl []]] [.rows false 1 [[.ms 1 0 (qug ins)]], .rows true 7 ins]) fun q => qq q.2 fun b bs => qr b fun d' n rs => bif beqB false d' && qun n 1 then qS rs fun row rest => vg rest (qq bs fun b bs => qr b fun d' n rs => bif beqB true d' && qun n 7 then vw bs (qc row fun c cs => kMsE c fun id off len => bif qun id 1 && (qun off 0 && qun len (qug rs)) then kNil cs (zr8 q k l es rs) else none) else none) else none else bif k == 7 then kOpt (EVj (EV cfg) 108 1 [.ptr 0 0 0, AV.agg [.int .i64 1, .int .i64 (l.length : Int), .int .i64 0, .int .i64 0, .int .i64 0, .str [], .sl []]] [.rows false 1 [[.ms 1 0 (qug ins)]], .rows true 7 ins]) fun q => qq q.2 fun b bs => qr b fun d' n rs => bif beqB false d' && qun n 1 then qS rs fun row rest => vg rest (qq bs fun b bs => qr b fun d' n rs => bif beqB true d' && qun n 7 then vw bs (qc row fun c cs => kMsE c fun id off len => bif qun id 1 && (qun off 0 && qun len (qug rs)) then kNil cs (zr8 q k l es rs) else none) else none) else none else bif k == 9 then kOpt (EVj (EV cfg) 108 1 [.ptr 0 0 0, AV.agg [.int .i64 2, .int .i64 0, .int .i64 0, .int .i64 0, .int .i64 0, .str [], .sl []]] [.rows false 1 [[.ms 1 0 (qug ins)]], .rows true 7 ins]) fun q => qq q.2 fun b bs => qr b fun d' n rs => bif beqB false d' && qun n 1 then qS rs fun row rest => vg rest (qq bs fun b bs => qr b fun d' n rs => bif beqB true d' && qun n 7 then vw bs (qc row fun c cs => kMsE c fun id off len => bif qun id 1 && (qun off 0 && qun len (qug rs)) then kNil cs (zr8 q k l es rs) else none) else none) else none else kOpt (EVj (EV cfg) 108 1 [.ptr 0 0 0, .agg [.int .i64 6, .int .i64 0, .int .i64 0, .int .i64 k, .int .i64 n, .str s, .sl l]] [.rows false 1 [[.ms 1 0 (qug ins)]], .rows true 7 ins]) fun q => qq q.2 fun b bs => qr b fun d' n rs => bif beqB false d' && qun n 1 then qS rs fun row rest => vg rest (qq bs fun b bs => qr b fun d' n rs => bif beqB true d' && qun n 7 then vw bs (qc row fun c cs => kMsE c fun id off len => bif qun id 1 && (qun off 0 && qun len (qug rs)) then kNil cs (zr8 q k l es rs) else none) else none) else none) fun x v => ve v fun b_1 => bif b_1 then kOpt (EVj (EV cfg) 108 1 [.ptr 0 0 0, AV.agg [.int .i64 4, .int .i64 n_1, .int .i64 0, .int .i64 0, .int .i64 0, .str [], .sl []]] [.rows false 1 [[.ms 1 0 (qug ins)]], .rows true 7 ins]) fun q => zr12 q k l es else bif b then zr19 n_1 es ins k l else kOpt (EVs (EV cfg) 166 [.agg [.int .i64 k, .int .i64 n, .str s, .sl l]]) fun v => ve v fun b => bif b then zr29 ins k l es else bif k == 7 then zr35 l ins k es else bif k == 9 then zr36 ins k l es else kOpt (EVj (EV cfg) 108 1 [.ptr 0 0 0, AV.agg [.int .i64 6, .int .i64 0, .int .i64 0, .int .i64 k, .int .i64 n, .str s, .sl l]] [.rows false 1 [[.ms 1 0 (qug ins)]], .rows true 7 ins]) fun q => zr12 q k l es else bif b then zr19 n_1 es ins k l else kOpt (EVs (EV cfg) 166 [.agg [.int .i64 k, .int .i64 n, .str s, .sl l]]) fun v => ve v fun b => bif b then zr29 ins k l es else bif k == 7 then zr35 l ins k es else bif k == 9 then zr36 ins k l es else kOpt (EVj (EV cfg) 108 1 [.ptr 0 0 0, .agg [.int .i64 6, .int .i64 0, .int .i64 0, .int .i64 k, .int .i64 n, .str s, .sl l]] [.rows false 1 [[.ms 1 0 (qug ins)]], .rows true 7 ins]) fun q => zr12 q k l es)) P) : Gets (EVj (EV cfg) 165 5 [.agg [.int .i64 k, .int .i64 n, .str s, .sl l], .ptr 0 0 0, .ptr 1 0 0, .ptr 2 0 0] ([ABlk.rows false (1 : Nat) [[AV.mp (3 : Nat)]], ABlk.rows false (1 : Nat) [[AV.ptr (4 : Nat) (0 : Nat) (0 : Nat)]], ABlk.rows false (1 : Nat) [[AV.fn (Fn.func 165) [] [AV.ptr (0 : Nat) (0 : Nat) (0 : Nat), AV.ptr (1 : Nat) (0 : Nat) (0 : Nat), AV.ptr (2 : Nat) (0 : Nat) (0 : Nat)]]], ABlk.mp true es, ABlk.rows false (1 : Nat) [[AV.ms (5 : Nat) (0 : Nat) (qug ins)]], ABlk.rows true (7 : Nat) ins] : AH)) P :=
  gE (fun _ => funJ rfl rfl Tryz.func165 rfl) (by kernel_rfl) h
theorem qej (l : Rz) (v71 : Int) (m3 : List (AV × AV)) (nc4_0 : Nat) (h6 : Rz) {P : AV × AH → Prop} (h : Gets (bif decide (v71 < (l.length : Int)) then bif qj 0 v71 && qp v71 (l.length : Int) then kOpt (qul l (v71.toNat)) fun row => bif qun (qug row) 4 then bif quw 4 (qug row) then kTmC (qux 4 row) fun n n_1 s rows => (kOpt (EVj (EV cfg) 165 5 [.agg [.int .i64 n, .int .i64 n_1, .str s, .sl rows], .ptr 0 0 0, .ptr 1 0 0, .ptr 2 0 0] [.rows false 1 [[AV.mp 3]], .rows false 1 [[.ptr 4 0 0]], .rows false 1 [[AV.fn (Fn.func 165) [] [.ptr 0 0 0, .ptr 1 0 0, .ptr 2 0 0]]], ABlk.mp true m3, .rows false 1 [[.ms 5 0 nc4_0]], .rows true 7 h6]) fun q => qq q.2 fun b bs => qr b fun d' n rs => bif beqB false d' && qun n 1 then qS rs fun row rest => vg rest (qq bs fun b bs => qr b fun d' n rs => bif beqB false d' && qun n 1 then qS rs fun row_1 rest => vg rest (qq bs fun b bs => qr b fun d' n rs => bif beqB false d' && qun n 1 then qS rs fun row_2 rest => vg rest (qq bs fun b bs => kMpB b fun d' es => bif beqB true d' then qq bs fun b bs => qr b fun d' n rs => bif beqB false d' && qun n 1 then qS rs fun row_3 rest => vg rest (qq bs fun b bs => qr b fun d' n rs => bif beqB true d' && qun n 7 then vw bs (qc row fun c cs => kMpE c fun id => bif qun id 3 then kNil cs (qc row_1 fun c cs => qh3 c fun id r off => bif qun id 4 && (qun r 0 && qun off 0) then kNil cs (qc row_2 fun c cs => bif AV.same c (AV.fn (Fn.func 165) [] [.ptr 0 0 0, .ptr 1 0 0, .ptr 2 0 0]) then kNil cs (qc row_3 fun c cs => kMsE c fun id off len => bif qun id 5 && (qun off 0 && qun len (qug rs)) then kNil cs (zB l (IntKind.wrap .i64 (v71 + 1)) es (qug rs) rs) else none) else none) else none) else none) else none) else none else none) else none) else none) else none) else none else none else none else some (AV.tup [], [.rows false 1 [[AV.mp 3]], .rows false 1 [[.ptr 4 0 0]], .rows false 1 [[AV.fn (Fn.func 165) [] [.ptr 0 0 0, .ptr 1 0 0, .ptr 2 0 0]]], ABlk.mp true m3, .rows false 1 [[.ms 5 0 nc4_0]], .rows true 7 h6])) P) : Gets (zB l v71 m3 nc4_0 h6) P :=
  gE (fun _ => qB (cfg := cfg) (f := 165) (rd := none) (bs := 6)) (by kernel_rfl) h
abbrev mkD (es : List (AV × AV)) (r : List (List AV)) : AH := [.rows false 1 [[.mp 3]], .rows false 1 [[.ptr 4 0 0]], .rows false 1 [[.fn (.func 165) [] [.ptr 0 0 0, .ptr 1 0 0, .ptr 2 0 0]]], .mp true es, .rows false 1 [[.ms 5 0 r.length]], .rows true 7 r]
theorem qqp : AV.same (AV.fn (Fn.func 165) [] [.ptr 0 0 0, .ptr 1 0 0, .ptr 2 0 0]) (AV.fn (Fn.func 165) [] [.ptr 0 0 0, .ptr 1 0 0, .ptr 2 0 0]) = true := by kernel_rfl
def qmz (t : Tm) : Prop := ∀ (V : List Int) (ins : List InsA), ins.length + t.w < 1099511627776 → EVj (EV cfg) 165 5 [.agg [.int .i64 t.kind, .int .i64 t.num, .str t.str, .sl (qa t.subs)], .ptr 0 0 0, .ptr 1 0 0, .ptr 2 0 0] (mkD (mV V) (qe ins)) = some (.tup [], mkD (mV (vV t V).2) (qe (ins ++ (vV t V).1)))
theorem qmg {l : List Tm} (hx : ∀ t ∈ l, qmz t) : ∀ (k i : Nat) (V : List Int) (ins : List InsA), l.length - i = k → i ≤ l.length → ins.length + wL (l.drop i) < 1099511627776 → l.length < 1099511627776 →
  Gets (zB (qa l) (i : Int) (mV V) (qe ins).length (qe ins)) (· = (.tup [], mkD (mV (xh (l.drop i) V).2) (qe (ins ++ (xh (l.drop i) V).1)))) := by
 intro k
 induction k with
 | zero =>
  intro i V ins hk hi hw hlen
  refine qej _ _ _ _ _ ?_
  rw [qh, decide_eq_false (by omega), cond_false]
  refine ⟨_, rfl, ?_⟩
  rw [List.drop_eq_nil_of_le (by omega), qd4, List.append_nil]
 | succ k ih =>
  intro i V ins hk hi hw hlen
  refine qej _ _ _ _ _ ?_
  have hil : i < l.length := by omega
  have g0 : l[i]? = some l[i] := quj hil
  have hd : l.drop i = l[i] :: l.drop (i + 1) := by rw [List.drop_eq_getElem_cons hil]
  rw [hd, qv] at hw
  have hc := qgQ l[i] V
  have e1 : (qj 0 (i : Int) && qp (i : Int) ((qa l).length : Int)) = true := by simp; omega
  have hz := hx l[i] (List.getElem_mem hil) V ins (by omega)
  rw [decide_eq_true (show (i : Int) < ((qa l).length : Int) by simp; omega), e1]
  simp only [y9 g0, qf, qz, qx, qZ, qY, qH, quy, cond_true, qy, qI, qJ, qu, qD, qW, qnU, qnT, qjT, qqp, qN, q8, q9, show quw 4 4 = true from rfl, hz]
  rw [vr hil hlen]
  have := ih (i + 1) (vV l[i] V).2 (ins ++ (vV l[i] V).1) (by omega) (by omega) (by simp; omega) hlen
  rw [hd, qc6, ← List.append_assoc]
  exact this
theorem qqD : ∀ (n : Nat) (t : Tm), t.w ≤ n → qmz t := by
 intro n
 induction n with
 | zero => intro t h; have := t.w_eq; omega
 | succ n ih =>
  intro t h V ins hw
  have hwe := t.w_eq
  have hi : ins.length < 1099511627776 := by omega
  apply Gets.get
  refine qpg _ _ _ _ _ _ ?_
  unfold zr36 zr35 zr29 zr30 zr31 zr32 zr33 zr34 zr19 zr20 zr21 zr22 zr23 zr24 zr25 zr26 zr27 zr28 zr12 zr13 zr14 zr15 zr16 zr17 zr18 zr8 zr9 zr10 zr11 zr6 zr7 zr5 zr0 zr1 zr3 zr4 zr2
  have hv := qcA (t := t) (by omega)
  have ha := qjL (t := t) (by omega)
  have z6 := qdy hi 6 0 0 t
  have hx : ∀ x ∈ t.subs, qmz x := fun x hx => ih x (by have := yv hx; omega)
  have hlen : t.subs.length < 1099511627776 := by have := qaA t.subs; omega
  rw [qgR]
  simp only [xl, hv, ha]
  cases hvt : varT t with
  | some x =>
   have h2 : t.kind = 2 := by
    unfold varT at hvt
    split at hvt
    ·rename_i h; exact h.1
    ·exact absurd hvt (by simp)
   have b7 : (t.kind == (7 : Int)) = false := by simp [h2]
   have b9 : (t.kind == (9 : Int)) = false := by simp [h2]
   by_cases hm : x ∈ V
   ·obtain ⟨i, hf⟩ := qnR hm 0
    simp only [varR, Option.isSome_some, Option.getD_some, qf, qz, qx, qZ, qY, qH, quy, cond_true, cond_false, qy, qI, qJ, qu, qn, qD, qF, qm, qW, hf, qlO, xA hi, b7, b9, if_pos hm]
    exact ⟨_, rfl, rfl⟩
   ·have hf := qnS hm 0
    simp only [varR, Option.isSome_some, Option.getD_some, qf, qz, qx, qZ, qY, qH, quy, cond_true, cond_false, qy, qI, qJ, qu, qn, qD, qF, qm, qW, hf, qnc, xA hi, b7, b9, if_neg hm, qsT]
    exact ⟨_, rfl, rfl⟩
  | none =>
   simp only [varR, Option.isSome_none, Option.getD_none, qf, cond_false, qu, qn, qD, qF, qm]
   cases hat : anyT t with
   | true =>
    have h2 : t.kind = 2 := by
     unfold anyT at hat
     simp only [que, decide_eq_true_eq] at hat
     exact hat.1
    have b7 : (t.kind == (7 : Int)) = false := by simp [h2]
    have b9 : (t.kind == (9 : Int)) = false := by simp [h2]
    simp only [qf, qz, qx, qZ, qY, qH, quy, cond_true, cond_false, qy, qI, qJ, qu, qn, qD, qW, xA hi, b7, b9, if_true]
    exact ⟨_, rfl, rfl⟩
   | false =>
    by_cases h7 : t.kind = 7
    ·have b7 : (t.kind == (7 : Int)) = true := by simp [h7]
     simp only [qf, qz, qx, qZ, qY, qH, quy, cond_true, cond_false, qy, qI, qJ, qu, qn, qD, qW, xA hi, b7, qh]
     have := qmg hx t.subs.length 0 V (ins ++ [iz 1 t.subs.length 0]) (by omega) (by omega) (by simp; omega) hlen
     rw [if_neg (by simp), if_pos h7]
     rw [List.drop_zero, List.append_assoc] at this
     exact this
    have b7 : (t.kind == (7 : Int)) = false := by simp [h7]
    by_cases h9 : t.kind = 9
    ·have b9 : (t.kind == (9 : Int)) = true := by simp [h9]
     simp only [qf, qz, qx, qZ, qY, qH, quy, cond_true, cond_false, qy, qI, qJ, qu, qn, qD, qW, xA hi, b7, b9]
     have := qmg hx t.subs.length 0 V (ins ++ [iz 2 0 0]) (by omega) (by omega) (by simp; omega) hlen
     rw [if_neg (by simp), if_neg h7, if_pos h9]
     rw [List.drop_zero, List.append_assoc] at this
     exact this
    have b9 : (t.kind == (9 : Int)) = false := by simp [h9]
    simp only [qf, qz, qx, qZ, qY, qH, quy, cond_true, cond_false, qy, qI, qJ, qu, qn, qD, qW, z6, b7, b9]
    rw [if_neg (by simp), if_neg h7, if_neg h9]
    exact ⟨_, rfl, rfl⟩
theorem qqB (t : Tm) {ins : List InsA} (hw : ins.length + t.w < 1099511627776) :
  EVj (EV cfg) 107 1 [.ptr 0 0 0, t.av] (mkH (qe ins)) = some (.tup [], mkH (qe (ins ++ (vV t []).1))) := by
 apply Gets.get
 rw [Tm.av, Tm.cells_eq]
 refine qpd _ _ _ _ _ ?_
 have hz := qqD t.w t (qum _) [] ins hw
 rw [show mV [] = [] from rfl] at hz
 simp only [hz, qf, qz, qx, qZ, qY, qH, quy, cond_true, qy, qI, qJ, qu, qD, qW, qnU, qnT, qjT, qqp]
 exact ⟨_, rfl, rfl⟩
noncomputable def qty : Den := evC cfg (EV cfg) 176 none 10 (sub (ql Tryz.f176) [0, 0, 0])
noncomputable def qtU : Ex × List AV × AH → Option (OV × AV) := kAft (Cfg.keepOut cfg 176 (qg (sub (ql Tryz.f176) [0, 0, 0]))) (xu 0 (kSeq (fun (fr : List AV) (H : AH) => yZ (Cfg.cut cfg 176 (qg (sub (ql Tryz.f176) [1]))) fr H fun (fr : List AV) (H : AH) => vB cfg (EV cfg) (kfN cfg (5)) 176 none 10 (sub (ql Tryz.f176) [1]) fr H (yb cfg (Cfg.lift cfg 176 0) (fun (v : AV) (H : AH) => (fun (r : AV × AH) => yh 0 9 (fx 34 [(2, AV.ptr 1 0 0), (3, AV.ptr 2 0 0), (4, AV.ptr 3 0 0), (5, AV.ptr 4 0 0)]) (xu 0 (kSeq (fun (fr : List AV) (H : AH) => yZ (Cfg.cut cfg 61 (qg (sub (ql Tryz.f61) [1, 1, 1, 1, 1]))) fr H fun (fr : List AV) (H : AH) => vB cfg (EV cfg) (kfN cfg 6) 61 none 0 (sub (ql Tryz.f61) [1, 1, 1, 1, 1]) fr H (qic cfg (Cfg.lift cfg 61 0) (Array.toList (Func.results Tryz.f61)))) (qic cfg (Cfg.lift cfg 61 0) (Array.toList (Func.results Tryz.f61))))) (Prod.snd r)) (v, H)) (Array.toList (Func.results (Prod.snd (176, Tryz.f176)))))) (yb cfg (Cfg.lift cfg 176 0) (fun (v : AV) (H : AH) => (fun (r : AV × AH) => yh 0 9 (fx 34 [(2, AV.ptr 1 0 0), (3, AV.ptr 2 0 0), (4, AV.ptr 3 0 0), (5, AV.ptr 4 0 0)]) (xu 0 (kSeq (fun (fr : List AV) (H : AH) => yZ (Cfg.cut cfg 61 (qg (sub (ql Tryz.f61) [1, 1, 1, 1, 1]))) fr H fun (fr : List AV) (H : AH) => vB cfg (EV cfg) (kfN cfg 6) 61 none 0 (sub (ql Tryz.f61) [1, 1, 1, 1, 1]) fr H (qic cfg (Cfg.lift cfg 61 0) (Array.toList (Func.results Tryz.f61)))) (qic cfg (Cfg.lift cfg 61 0) (Array.toList (Func.results Tryz.f61))))) (Prod.snd r)) (v, H)) (Array.toList (Func.results (Prod.snd (176, Tryz.f176)))))))
noncomputable def qqS : List AV × AH → Option (OV × AV) := fun (p : List AV × AH) => kOpt (LOOP 10 (some [0, 1, 2]) [] qty p) qtU
noncomputable def qqV : Den := evC cfg (EV cfg) 125 none 0 (sub (ql Tryz.f125) [1, 1, 1, 1, 1, 1, 1, 1, 0, 1, 0, 0])
noncomputable def qq0 : Ex × List AV × AH → Option AV := kAft (Cfg.keepOut cfg 125 11) (kRun cfg (EV cfg) (kfN cfg 6) 125 none 0 (yR cfg (Cfg.lift cfg 125 0) Tryz.f125.results.toList) ([.block 0, .seq (sub (ql Tryz.f125) [1, 1, 1, 1, 1, 1, 1, 1, 1])]))
noncomputable def qmw : List AV × AH → Option AV := fun p => kOpt (LOOP 0 (some [2, 4, 5, 73, 74]) ([]) qqV p) qq0
noncomputable def qtx : Den := evC cfg (EV cfg) 125 none 0 (sub (ql Tryz.f125) [1, 1, 1, 1, 1, 1, 1, 1, 0, 1, 0, 0, 1, 1, 0, 0, 1, 1, 0, 0])
noncomputable def qtT : Ex × List AV × AH → Option AV := kAft (Cfg.keepOut cfg 125 14) (kRun cfg (EV cfg) (kfN cfg 6) 125 none 0 (kLp 0 (some [2, 4, 5, 73, 74]) ([]) qqV qq0) ([.block 2, .block 1, .seq (sub (ql Tryz.f125) [1, 1, 1, 1, 1, 1, 1, 1, 0, 1, 0, 0, 1, 1, 1])]))
noncomputable def qqR : List AV × AH → Option AV := fun p => kOpt (LOOP 0 (some [2, 4, 5, 73, 74, 77, 78, 79]) ([]) qtx p) qtT
noncomputable abbrev qkX (c0_0 c0_1 : Int) (c0_2 : Bz) (c0_3 : Rz) (nc1_0 : Nat) (c2_0 : Int) (nc3_0 : Nat) (c4_0 : Bool) (c5_0 c5_1 : Int) (c5_2 : Bz) (c5_3 h7 h8 : Rz) : Option (OV × AV) := qqS  (((fx 23 [(0, .yld 9), (1, .ptr 5 0 0), (2, .ptr 6 0 0)]) : List AV), ([.rows false 4 [[.int .i64 c0_0, .int .i64 c0_1, .str c0_2, .sl c0_3]], .rows false 1 [[.ms 7 0 nc1_0]], .rows false 1 [[.int .i64 c2_0]], .rows false 1 [[.ms 8 0 nc3_0]], .rows false 1 [[.bool c4_0]], .rows false 4 [[.int .i64 c5_0, .int .i64 c5_1, .str c5_2, .sl c5_3]], .rows false 1 [[.ptr 4 0 0]], .rows true 6 h7, .rows true 6 h8, rngB Tryz.f61 61 [1, 1, 1, 1, 0, 1, 0] (fx 34 [(2, .ptr 1 0 0), (3, .ptr 2 0 0), (4, .ptr 3 0 0)]) none LoopState.ready] : AH))
noncomputable abbrev qpB (n n' : Int) (s : Bz) (rows rows' rows'' rows''' : Rz) : Option (AV) := qmw  (((fx 91 [(2, .ptr 0 0 0), (4, .ptr 1 0 0), (5, .sl rows'), (73, .agg [.sl rows'', .sl rows''']), (74, .int .i64 (0 : Int))]) : List AV), ([.rows false 6 [[.int .i64 (0 : Int), .int .i64 (0 : Int), .str [], .sl [], .sl [], .sl []]], .rows false 6 [[.int .i64 n, .int .i64 n', .str s, .sl rows, .sl rows'', .sl rows''']]] : AH))
noncomputable abbrev qiX (c0_0 c0_1 : Int) (c0_2 : Bz) (c0_3 : Rz) (nc1_0 : Nat) (c2_0 : Int) (nc3_0 : Nat) (c4_0 : Bool) (c5_0 c5_1 : Int) (c5_2 : Bz) (c5_3 h7 h10 : Rz) : Option (OV × AV) := qqS  (((fx 23 [(0, .yld 9), (1, .ptr 5 0 0), (2, .ptr 6 0 0)]) : List AV), ([.rows false 4 [[.int .i64 c0_0, .int .i64 c0_1, .str c0_2, .sl c0_3]], .rows false 1 [[.ms 7 0 nc1_0]], .rows false 1 [[.int .i64 c2_0]], .rows false 1 [[.ms 10 0 nc3_0]], .rows false 1 [[.bool c4_0]], .rows false 4 [[.int .i64 c5_0, .int .i64 c5_1, .str c5_2, .sl c5_3]], .rows false 1 [[.ptr 4 0 0]], .rows true 6 h7, .dead, rngB Tryz.f61 61 [1, 1, 1, 1, 0, 1, 0] (fx 34 [(2, .ptr 1 0 0), (3, .ptr 2 0 0), (4, .ptr 3 0 0)]) none LoopState.ready, .rows true 6 h10] : AH))
noncomputable abbrev qhl (rows' rows'' rows''' : Rz) (v79 c0_0 c0_1 : Int) (c0_2 : Bz) (c0_3 c0_4 c0_5 : Rz) (c1_0 c1_1 : Int) (c1_2 : Bz) (c1_3 c1_4 c1_5 : Rz) : Option (AV) := qqR  (((fx 91 [(2, .ptr 0 0 0), (4, .ptr 1 0 0), (5, .sl rows'), (73, .agg [.sl rows'', .sl rows''']), (74, .int .i64 (0 : Int)), (77, .sl rows''), (78, .int .i64 (rows''.length : Int)), (79, .int .i64 v79)]) : List AV), ([.rows false 6 [[.int .i64 c0_0, .int .i64 c0_1, .str c0_2, .sl c0_3, .sl c0_4, .sl c0_5]], .rows false 6 [[.int .i64 c1_0, .int .i64 c1_1, .str c1_2, .sl c1_3, .sl c1_4, .sl c1_5]]] : AH))
noncomputable abbrev qnG (rows' rows'' rows''' : Rz) (c0_0 c0_1 : Int) (c0_2 : Bz) (c0_3 c0_4 c0_5 : Rz) (c1_0 c1_1 : Int) (c1_2 : Bz) (c1_3 c1_4 c1_5 : Rz) : Option (AV) := qmw  (((fx 91 [(2, .ptr 0 0 0), (4, .ptr 1 0 0), (5, .sl rows'), (73, .agg [.sl rows'', .sl rows''']), (74, .int .i64 (1 : Int))]) : List AV), ([.rows false 6 [[.int .i64 c0_0, .int .i64 c0_1, .str c0_2, .sl c0_3, .sl c0_4, .sl c0_5]], .rows false 6 [[.int .i64 c1_0, .int .i64 c1_1, .str c1_2, .sl c1_3, .sl c1_4, .sl c1_5]]] : AH))
noncomputable abbrev qfy (rows' rows'' rows''' : Rz) (v79 c0_0 c0_1 : Int) (c0_2 : Bz) (c0_3 c0_4 c0_5 : Rz) (c1_0 c1_1 : Int) (c1_2 : Bz) (c1_3 c1_4 c1_5 : Rz) : Option (AV) := qqR  (((fx 91 [(2, .ptr 0 0 0), (4, .ptr 1 0 0), (5, .sl rows'), (73, .agg [.sl rows'', .sl rows''']), (74, .int .i64 (1 : Int)), (77, .sl rows'''), (78, .int .i64 (rows'''.length : Int)), (79, .int .i64 v79)]) : List AV), ([.rows false 6 [[.int .i64 c0_0, .int .i64 c0_1, .str c0_2, .sl c0_3, .sl c0_4, .sl c0_5]], .rows false 6 [[.int .i64 c1_0, .int .i64 c1_1, .str c1_2, .sl c1_3, .sl c1_4, .sl c1_5]]] : AH))
noncomputable abbrev qnF (rows' rows'' rows''' : Rz) (c0_0 c0_1 : Int) (c0_2 : Bz) (c0_3 c0_4 c0_5 : Rz) (c1_0 c1_1 : Int) (c1_2 : Bz) (c1_3 c1_4 c1_5 : Rz) : Option (AV) := qmw  (((fx 91 [(2, .ptr 0 0 0), (4, .ptr 1 0 0), (5, .sl rows'), (73, .agg [.sl rows'', .sl rows''']), (74, .int .i64 (2 : Int))]) : List AV), ([.rows false 6 [[.int .i64 c0_0, .int .i64 c0_1, .str c0_2, .sl c0_3, .sl c0_4, .sl c0_5]], .rows false 6 [[.int .i64 c1_0, .int .i64 c1_1, .str c1_2, .sl c1_3, .sl c1_4, .sl c1_5]]] : AH))
theorem qi5 (kt nt : Int) (st : Bz) (lt : Rz) {P : OV × AV → Prop} (h : Gets (kOpt (EVs (EV cfg) 93 [.agg [.int .i64 kt, .int .i64 nt, .str st, .sl lt]]) fun v => kInt .i64 v fun n => bif n != 0 then some (OV.own 6 [] 0 0, .int .i64 (2 : Int)) else qkX kt nt st lt 0 0 0 false kt nt st lt [] []) P) : Gets (EVq (EV cfg) 61 [.agg [.int .i64 kt, .int .i64 nt, .str st, .sl lt]]) P :=
  gE (fun _ => funQ rfl rfl Tryz.func61 rfl) (by kernel_rfl) h
noncomputable abbrev zs0  : Option (AV) := some (AV.tup [.agg [.int .i64 0, .int .i64 0, .str [], .sl [], .sl [], .sl []], .bool false])
noncomputable abbrev zs1  : Option (AV) := some (AV.tup [AV.agg [.int .i64 0, .int .i64 0, .str [], .sl [], .sl [], .sl []], .bool false])
theorem qla (kt nt : Int) (st : Bz) (lt : Rz) {P : AV → Prop} (h : Gets (bif kt != 7 then zs0 else bif (lt.length : Int) != 3 then zs0 else bif qp 0 (lt.length : Int) then kOpt (qul lt 0) fun row => bif qun (qug row) 4 then bif quw 4 (qug row) then kTmC (qux 4 row) fun n n_1 s rows => (kOpt (EVs (EV cfg) 177 [.agg [.int .i64 n, .int .i64 n_1, .str s, .sl rows]]) fun v => ve v fun b => bif ! b then some (AV.tup [.agg [.int .i64 0, .int .i64 0, .str [], .sl [], .sl [], .sl []], .bool false]) else bif qp 0 (lt.length : Int) then kOpt (qul lt 0) fun row => bif qun (qug row) 4 then bif quw 4 (qug row) then kTmC (qux 4 row) fun n n_2 s rows => (kOpt (EVf (EV cfg) 178 [.agg [.int .i64 n, .int .i64 n_2, .str s, .sl rows]]) fun v => kSl v fun rows_1 => bif qp 1 (lt.length : Int) then kOpt (qul lt 1) fun row => bif qun (qug row) 4 then bif quw 4 (qug row) then kTmC (qux 4 row) fun n_3 n_4 s_1 rows_2 => (kOpt (EVf (EV cfg) 179 [.agg [.int .i64 n_3, .int .i64 n_4, .str s_1, .sl rows_2]]) fun v => kTup v fun cs => qc cs fun c cs => kSl c fun rows_3 => qc cs fun c cs => ve c fun b => kNil cs (bif qp 2 (lt.length : Int) then kOpt (qul lt 2) fun row => bif qun (qug row) 4 then bif quw 4 (qug row) then kTmC (qux 4 row) fun n_5 n_6 s_2 rows_4 => (kOpt (EVf (EV cfg) 179 [AV.agg [.int .i64 n_5, .int .i64 n_6, .str s_2, .sl rows_4]]) fun v => kTup v fun cs => qc cs fun c cs => kSl c fun rows_5 => qc cs fun c cs => ve c fun b_1 => kNil cs (bif ! b then some (AV.tup [AV.agg [.int .i64 0, .int .i64 (0 : Int), .str [], .sl [], .sl [], .sl []], .bool false]) else bif ! b_1 then zs1 else bif (rows_5.length : Int) == 0 then zs1 else qpB n n_2 s rows rows_1 rows_3 rows_5)) else none else none else none)) else none else none else none) else none else none else none) else none else none else none) P) : Gets (EVf (EV cfg) 125 [.agg [.int .i64 kt, .int .i64 nt, .str st, .sl lt]]) P :=
  gE (fun _ => funF rfl rfl Tryz.func125 rfl) (by kernel_rfl) h
noncomputable abbrev zs9 (cs : List AV) (nc3_0 : Nat) (h8 c5_3 : Rz) (c0_0 c0_1 : Int) (c0_2 : Bz) (c0_3 : Rz) (nc1_0 : Nat) (c2_0 : Int) (c4_0 : Bool) (h7 : Rz) (n n_2 : Int) (s : Bz) (rows rows_1 rows_2 : Rz) : Option (OV × AV) := qc cs fun c cs => ve c fun b => kNil cs (bif ! b then some (OV.own 6 [] 0 0, .int .i64 10) else bif quw (0 + nc3_0) (qug h8) && vD (nc3_0 + 1) 104 then bif qp 1 (c5_3.length : Int) then kOpt (qul c5_3 1) fun row => bif qun (qug row) 4 then bif quw 4 (qug row) then kTmC (qux 4 row) fun n_3 n_4 s_1 rows_3 => (qiX c0_0 c0_1 c0_2 c0_3 nc1_0 c2_0 (nc3_0 + 1) c4_0 n_3 n_4 s_1 rows_3 h7 (quD (qux nc3_0 h8) [[AV.int .i64 n, .int .i64 n_2, .str s, .sl rows, .sl rows_1, .sl rows_2]])) else none else none else none else none)
noncomputable abbrev zs8 (n n_1 : Int) (s : Bz) (rows : Rz) (nc3_0 : Nat) (h8 c5_3 : Rz) (c0_0 c0_1 : Int) (c0_2 : Bz) (c0_3 : Rz) (nc1_0 : Nat) (c2_0 : Int) (c4_0 : Bool) (h7 : Rz) : Option (OV × AV) := (kOpt (EVf (EV cfg) 125 [.agg [.int .i64 n, .int .i64 n_1, .str s, .sl rows]]) fun v => kTup v fun cs => qc cs fun c cs => kAgg c fun cs_1 => qc cs_1 fun c cs_2 => kInt .i64 c fun n => qc cs_2 fun c cs_3 => kInt .i64 c fun n_2 => qc cs_3 fun c cs_4 => kStr c fun s => qc cs_4 fun c cs_5 => kSl c fun rows => qc cs_5 fun c cs_6 => kSl c fun rows_1 => qc cs_6 fun c cs_7 => kSl c fun rows_2 => kNil cs_7 (zs9 cs nc3_0 h8 c5_3 c0_0 c0_1 c0_2 c0_3 nc1_0 c2_0 c4_0 h7 n n_2 s rows rows_1 rows_2))
noncomputable abbrev zs7 (row : List AV) (nc3_0 : Nat) (h8 c5_3 : Rz) (c0_0 c0_1 : Int) (c0_2 : Bz) (c0_3 : Rz) (nc1_0 : Nat) (c2_0 : Int) (c4_0 : Bool) (h7 : Rz) : Option (OV × AV) := kTmC (qux 4 row) fun n n_1 s rows => zs8 n n_1 s rows nc3_0 h8 c5_3 c0_0 c0_1 c0_2 c0_3 nc1_0 c2_0 c4_0 h7
noncomputable abbrev zs6 (row : List AV) (nc3_0 : Nat) (h8 c5_3 : Rz) (c0_0 c0_1 : Int) (c0_2 : Bz) (c0_3 : Rz) (nc1_0 : Nat) (c2_0 : Int) (c4_0 : Bool) (h7 : Rz) : Option (OV × AV) := bif quw 4 (qug row) then zs7 row nc3_0 h8 c5_3 c0_0 c0_1 c0_2 c0_3 nc1_0 c2_0 c4_0 h7 else none
noncomputable abbrev zs5 (row : List AV) (nc3_0 : Nat) (h8 c5_3 : Rz) (c0_0 c0_1 : Int) (c0_2 : Bz) (c0_3 : Rz) (nc1_0 : Nat) (c2_0 : Int) (c4_0 : Bool) (h7 : Rz) : Option (OV × AV) := bif qun (qug row) 4 then zs6 row nc3_0 h8 c5_3 c0_0 c0_1 c0_2 c0_3 nc1_0 c2_0 c4_0 h7 else none
noncomputable abbrev zs4 (c5_3 : Rz) (nc3_0 : Nat) (h8 : Rz) (c0_0 c0_1 : Int) (c0_2 : Bz) (c0_3 : Rz) (nc1_0 : Nat) (c2_0 : Int) (c4_0 : Bool) (h7 : Rz) : Option (OV × AV) := kOpt (qul c5_3 0) fun row => zs5 row nc3_0 h8 c5_3 c0_0 c0_1 c0_2 c0_3 nc1_0 c2_0 c4_0 h7
noncomputable abbrev zs3 (c5_3 : Rz) (nc3_0 : Nat) (h8 : Rz) (c0_0 c0_1 : Int) (c0_2 : Bz) (c0_3 : Rz) (nc1_0 : Nat) (c2_0 : Int) (c4_0 : Bool) (h7 : Rz) : Option (OV × AV) := bif qp 0 (c5_3.length : Int) then zs4 c5_3 nc3_0 h8 c0_0 c0_1 c0_2 c0_3 nc1_0 c2_0 c4_0 h7 else none
noncomputable abbrev zs2 (c5_0 : Int) (c5_3 : Rz) (nc3_0 : Nat) (h8 : Rz) (c0_0 c0_1 : Int) (c0_2 : Bz) (c0_3 : Rz) (nc1_0 : Nat) (c2_0 : Int) (c4_0 : Bool) (h7 : Rz) : Option (OV × AV) := bif c5_0 == 9 then zs3 c5_3 nc3_0 h8 c0_0 c0_1 c0_2 c0_3 nc1_0 c2_0 c4_0 h7 else bif ! c5_0 == 8 then some (OV.own 6 [] 0 0, .int .i64 10) else bif (↑ nc3_0 : Int) == 0 then some (OV.own 6 [] 0 0, .int .i64 10) else some (OV.own 6 h8 0 nc3_0, .int .i64 0)
theorem qmI (c0_0 c0_1 : Int) (c0_2 : Bz) (c0_3 : Rz) (nc1_0 : Nat) (c2_0 : Int) (nc3_0 : Nat) (c4_0 : Bool) (c5_0 c5_1 : Int) (c5_2 : Bz) (c5_3 h7 h8 : Rz) {P : OV × AV → Prop} (h : Gets (zs2 c5_0 c5_3 nc3_0 h8 c0_0 c0_1 c0_2 c0_3 nc1_0 c2_0 c4_0 h7) P) : Gets (qkX c0_0 c0_1 c0_2 c0_3 nc1_0 c2_0 nc3_0 c4_0 c5_0 c5_1 c5_2 c5_3 h7 h8) P :=
  gE (fun _ => qB (cfg := cfg) (f := 176) (rd := none) (bs := 10)) (by kernel_rfl) h
theorem qmH (n n' : Int) (s : Bz) (rows rows' rows'' rows''' : Rz) {P : AV → Prop} (h : Gets (qhl rows' rows'' rows''' 0 0 0 [] [] [] [] n n' s rows rows'' rows''') P) : Gets (qpB n n' s rows rows' rows'' rows''') P :=
  gE (fun _ => qB (cfg := cfg) (f := 125) (rd := none) (bs := 0)) (by kernel_rfl) h
theorem qkW (c0_0 c0_1 : Int) (c0_2 : Bz) (c0_3 : Rz) (nc1_0 : Nat) (c2_0 : Int) (nc3_0 : Nat) (c4_0 : Bool) (c5_0 c5_1 : Int) (c5_2 : Bz) (c5_3 h7 h10 : Rz) {P : OV × AV → Prop} (h : Gets (zs2 c5_0 c5_3 nc3_0 h10 c0_0 c0_1 c0_2 c0_3 nc1_0 c2_0 c4_0 h7) P) : Gets (qiX c0_0 c0_1 c0_2 c0_3 nc1_0 c2_0 nc3_0 c4_0 c5_0 c5_1 c5_2 c5_3 h7 h10) P :=
  gE (fun _ => qB (cfg := cfg) (f := 176) (rd := none) (bs := 10)) (by kernel_rfl) h
theorem qf5 (rows' rows'' rows''' : Rz) (v79 c0_0 c0_1 : Int) (c0_2 : Bz) (c0_3 c0_4 c0_5 : Rz) (c1_0 c1_1 : Int) (c1_2 : Bz) (c1_3 c1_4 c1_5 : Rz) {P : AV → Prop} (h : Gets (bif decide (v79 < (rows''.length : Int)) then bif qj 0 v79 && qp v79 (rows''.length : Int) then kOpt (qul rows'' (v79.toNat)) fun row => bif qun (qug row) 4 then bif quw 4 (qug row) then kTmC (qux 4 row) fun n n_1 s rows => (kOpt (EVs (EV cfg) 56 [.agg [.int .i64 n, .int .i64 n_1, .str s, .sl rows], .sl rows']) fun v => kInt .i64 v fun n => bif n != 0 then some (AV.tup [.agg [.int .i64 (0 : Int), .int .i64 0, .str [], .sl [], .sl [], .sl []], .bool false]) else qhl rows' rows'' rows''' (IntKind.wrap .i64 (v79 + 1)) c0_0 c0_1 c0_2 c0_3 c0_4 c0_5 c1_0 c1_1 c1_2 c1_3 c1_4 c1_5) else none else none else none else qnG rows' rows'' rows''' c0_0 c0_1 c0_2 c0_3 c0_4 c0_5 c1_0 c1_1 c1_2 c1_3 c1_4 c1_5) P) : Gets (qhl rows' rows'' rows''' v79 c0_0 c0_1 c0_2 c0_3 c0_4 c0_5 c1_0 c1_1 c1_2 c1_3 c1_4 c1_5) P :=
  gE (fun _ => qB (cfg := cfg) (f := 125) (rd := none) (bs := 0)) (by kernel_rfl) h
theorem qkV (rows' rows'' rows''' : Rz) (c0_0 c0_1 : Int) (c0_2 : Bz) (c0_3 c0_4 c0_5 : Rz) (c1_0 c1_1 : Int) (c1_2 : Bz) (c1_3 c1_4 c1_5 : Rz) {P : AV → Prop} (h : Gets (qfy rows' rows'' rows''' 0 c0_0 c0_1 c0_2 c0_3 c0_4 c0_5 c1_0 c1_1 c1_2 c1_3 c1_4 c1_5) P) : Gets (qnG rows' rows'' rows''' c0_0 c0_1 c0_2 c0_3 c0_4 c0_5 c1_0 c1_1 c1_2 c1_3 c1_4 c1_5) P :=
  gE (fun _ => qB (cfg := cfg) (f := 125) (rd := none) (bs := 0)) (by kernel_rfl) h
theorem qeA (rows' rows'' rows''' : Rz) (v79 c0_0 c0_1 : Int) (c0_2 : Bz) (c0_3 c0_4 c0_5 : Rz) (c1_0 c1_1 : Int) (c1_2 : Bz) (c1_3 c1_4 c1_5 : Rz) {P : AV → Prop} (h : Gets (bif decide (v79 < (rows'''.length : Int)) then bif qj 0 v79 && qp v79 (rows'''.length : Int) then kOpt (qul rows''' (v79.toNat)) fun row => bif qun (qug row) 4 then bif quw 4 (qug row) then kTmC (qux 4 row) fun n n_1 s rows => (kOpt (EVs (EV cfg) 56 [.agg [.int .i64 n, .int .i64 n_1, .str s, .sl rows], .sl rows']) fun v => kInt .i64 v fun n => bif n != 0 then some (AV.tup [.agg [.int .i64 0, .int .i64 0, .str [], .sl [], .sl [], .sl []], .bool false]) else qfy rows' rows'' rows''' (IntKind.wrap .i64 (v79 + 1)) c0_0 c0_1 c0_2 c0_3 c0_4 c0_5 c1_0 c1_1 c1_2 c1_3 c1_4 c1_5) else none else none else none else qnF rows' rows'' rows''' c0_0 c0_1 c0_2 c0_3 c0_4 c0_5 c1_0 c1_1 c1_2 c1_3 c1_4 c1_5) P) : Gets (qfy rows' rows'' rows''' v79 c0_0 c0_1 c0_2 c0_3 c0_4 c0_5 c1_0 c1_1 c1_2 c1_3 c1_4 c1_5) P :=
  gE (fun _ => qB (cfg := cfg) (f := 125) (rd := none) (bs := 0)) (by kernel_rfl) h
theorem qkU (rows' rows'' rows''' : Rz) (c0_0 c0_1 : Int) (c0_2 : Bz) (c0_3 c0_4 c0_5 : Rz) (c1_0 c1_1 : Int) (c1_2 : Bz) (c1_3 c1_4 c1_5 : Rz) {P : AV → Prop} (h : Gets (some (AV.tup [.agg [.int .i64 c1_0, .int .i64 c1_1, .str c1_2, .sl c1_3, .sl c1_4, .sl c1_5], .bool true])) P) : Gets (qnF rows' rows'' rows''' c0_0 c0_1 c0_2 c0_3 c0_4 c0_5 c1_0 c1_1 c1_2 c1_3 c1_4 c1_5) P :=
  gE (fun _ => qB (cfg := cfg) (f := 125) (rd := none) (bs := 0)) (by kernel_rfl) h
noncomputable def qtw : Den := evC cfg (EV cfg) 26 none 0 (sub (ql Tryz.f26) [1, 1, 1, 0, 1, 0, 0])
noncomputable def qtS : Ex × List AV × AH → Option AV := kAft (Cfg.keepOut cfg 26 5) (kRun cfg (EV cfg) (kfN cfg 6) 26 none 0 (yR cfg (Cfg.lift cfg 26 0) Tryz.f26.results.toList) ([.block 0, .seq (sub (ql Tryz.f26) [1, 1, 1, 1])]))
noncomputable def qqQ : List AV × AH → Option AV := fun p => kOpt (LOOP 0 (some [4, 16, 17, 18]) ([]) qtw p) qtS
noncomputable def qtv : Den := evC cfg (EV cfg) 27 none 0 (sub (ql Tryz.f27) [1, 1, 1, 0, 1, 0, 0])
noncomputable def qtR : Ex × List AV × AH → Option AV := kAft (Cfg.keepOut cfg 27 4) (kRun cfg (EV cfg) (kfN cfg 6) 27 none 0 (yR cfg (Cfg.lift cfg 27 0) Tryz.f27.results.toList) ([.block 0, .seq (sub (ql Tryz.f27) [1, 1, 1, 1])]))
noncomputable def qth : List AV × AH → Option AV := fun p => kOpt (LOOP 0 (some [2, 4, 5, 11, 12, 13]) ([(5, 4)]) qtv p) qtR
noncomputable abbrev qsM (v18 : Int) : Option (AV) := qqQ  (((fx 38 [(4, .nilS), (16, .nilS), (17, .int .i64 (0 : Int)), (18, .int .i64 v18)]) : List AV), ([] : AH))
noncomputable abbrev qfx (sz off len : Nat) (v18 : Int) (h0 : Rz) : Option (AV) := qqQ  (((fx 38 [(4, .ms 0 off len), (16, .ms 0 off len), (17, .int .i64 (↑len : Int)), (18, .int .i64 v18)]) : List AV), ([.rows true sz h0] : AH))
noncomputable abbrev qhk (L : Rz) (nv5 : Nat) (v13 c0_0 c0_1 : Int) (c0_2 : Bz) (c0_3 : Rz) (c1_0 c1_1 : Int) (c1_2 : Bz) (c1_3 h2 : Rz) : Option (AV) := qth  (((fx 44 [(2, .ptr 0 0 0), (4, .ptr 1 0 0), (5, .ms 2 0 nv5), (11, .sl L), (12, .int .i64 (L.length : Int)), (13, .int .i64 v13)]) : List AV), ([.rows false 4 [[.int .i64 c0_0, .int .i64 c0_1, .str c0_2, .sl c0_3]], .rows false 4 [[.int .i64 c1_0, .int .i64 c1_1, .str c1_2, .sl c1_3]], .rows true 4 h2] : AH))
theorem qj7 (kt nt : Int) (st : Bz) (lt : Rz) {P : AV → Prop} (h : Gets (kOpt (EVq (EV cfg) 61 [.agg [.int .i64 kt, .int .i64 nt, .str st, .sl lt]]) fun q => kInt .i64 q.2 fun n => kOwn q.1 (bif n != 0 then some (AV.tup [.sl [], .int .i64 n]) else qsM 0) fun sz rs off len => bif n != 0 then some (AV.tup [.sl [], .int .i64 n]) else qfx sz off len (0 : Int) rs) P) : Gets (EVf (EV cfg) 26 [.agg [.int .i64 kt, .int .i64 nt, .str st, .sl lt]]) P :=
  gE (fun _ => funF rfl rfl Tryz.func26 rfl) (by kernel_rfl) h
theorem qq8 (L : Rz) {P : AV → Prop} (h : Gets (qhk L 0 0 0 0 [] [] 8 0 [] [] []) P) : Gets (EVf (EV cfg) 27 [.sl L]) P :=
  gE (fun _ => funF rfl rfl Tryz.func27 rfl) (by kernel_rfl) h
theorem qez (sz off len : Nat) (v18 : Int) (h0 : Rz) {P : AV → Prop} (h : Gets (bif decide (v18 < (↑ len : Int)) then bif qun sz 6 && qj 0 v18 && qp v18 (↑ len : Int) then kOpt (qul h0 (off + v18.toNat)) fun row => bif quw 6 (qug row) then qc (qux 6 row) fun c cs => kInt .i64 c fun n => qc cs fun c cs => kInt .i64 c fun n_1 => qc cs fun c cs => kStr c fun s => qc cs fun c cs => kSl c fun rows => qc cs fun c cs => kSl c fun rows_1 => qc cs fun c cs => kSl c fun rows_2 => kNil cs (kOpt (EVf (EV cfg) 40 [.agg [.int .i64 n, .int .i64 n_1, .str s, .sl rows]]) fun v => kTmV v fun n n_2 s rows => (kOpt (EVf (EV cfg) 62 [.sl rows_1]) fun v => kSl v fun rows_3 => kOpt (EVf (EV cfg) 62 [.sl rows_2]) fun v => kSl v fun rows_4 => bif qun sz 6 && qj 0 v18 && qp v18 (↑ len : Int) then kOpt (qul h0 (off + v18.toNat)) fun row => bif quw 6 (qug row) then qfx sz off len (IntKind.wrap .i64 (v18 + 1)) (List.set h0 (off + v18.toNat) (.int .i64 n :: .int .i64 n_2 :: .str s :: .sl rows :: .sl rows_3 :: .sl rows_4 :: quN 6 row)) else none else none)) else none else none else bif quw (off + len) (qug h0) && true then some (AV.tup [.sl (qux len (quN off h0)), .int .i64 0]) else none) P) : Gets (qfx sz off len v18 h0) P :=
  gE (fun _ => qB (cfg := cfg) (f := 26) (rd := none) (bs := 0)) (by kernel_rfl) h
theorem qf4 (L : Rz) (nv5 : Nat) (v13 c0_0 c0_1 : Int) (c0_2 : Bz) (c0_3 : Rz) (c1_0 c1_1 : Int) (c1_2 : Bz) (c1_3 h2 : Rz) {P : AV → Prop} (h : Gets (bif decide (v13 < (L.length : Int)) then bif qj 0 v13 && qp v13 (L.length : Int) then kOpt (qul L (v13.toNat)) fun row => bif qun (qug row) 6 then bif quw 6 (qug row) then qc (qux 6 row) fun c cs => kInt .i64 c fun n => qc cs fun c cs => kInt .i64 c fun n_1 => qc cs fun c cs => kStr c fun s => qc cs fun c cs => kSl c fun rows => qc cs fun c cs => kSl c fun rows_1 => qc cs fun c cs => kSl c fun rows_2 => kNil cs (kOpt (EVf (EV cfg) 64 [.sl rows_1, .agg [.int .i64 c1_0, .int .i64 c1_1, .str c1_2, .sl c1_3]]) fun v => kTmV v fun n_2 n_3 s_1 rows_3 => (kOpt (EVf (EV cfg) 64 [.sl rows_2, .agg [.int .i64 c1_0, .int .i64 c1_1, .str c1_2, .sl c1_3]]) fun v => kTmV v fun n_4 n_5 s_2 rows_4 => (kOpt (EVf (EV cfg) 63 [AV.sl [[AV.int .i64 n, .int .i64 n_1, .str s, .sl rows], [AV.int .i64 n_2, .int .i64 n_3, .str s_1, .sl rows_3], [AV.int .i64 n_4, .int .i64 n_5, .str s_2, .sl rows_4]]]) fun v => kTmV v fun n n_6 s rows => (bif quw (0 + nv5) (qug h2) && vD (nv5 + 1) 56 then qhk L (nv5 + 1) (IntKind.wrap .i64 (v13 + 1)) c0_0 c0_1 c0_2 c0_3 c1_0 c1_1 c1_2 c1_3 (quD (qux nv5 h2) [[AV.int .i64 n, .int .i64 n_6, .str s, .sl rows]]) else none)))) else none else none else none else bif quw (0 + nv5) (qug h2) && true then kOpt (EVf (EV cfg) 64 [.sl (qux nv5 h2), .agg [.int .i64 c1_0, .int .i64 c1_1, .str c1_2, .sl c1_3]]) fun v => kTmV v fun n n_1 s rows => (kOpt (EVs (EV cfg) 65 [.agg [.int .i64 n, .int .i64 n_1, .str s, .sl rows]]) fun v => kInt .i64 v fun n_2 => bif n_2 != 0 then some (AV.tup [.agg [.int .i64 0, .int .i64 0, .str [], .sl []], .int .i64 n_2]) else kOpt (EVf (EV cfg) 40 [.agg [.int .i64 n, .int .i64 n_1, .str s, .sl rows]]) fun v => kTmV v fun n n_3 s rows => (some (AV.tup [.agg [.int .i64 n, .int .i64 n_3, .str s, .sl rows], .int .i64 0]))) else none) P) : Gets (qhk L nv5 v13 c0_0 c0_1 c0_2 c0_3 c1_0 c1_1 c1_2 c1_3 h2) P :=
  gE (fun _ => qB (cfg := cfg) (f := 27) (rd := none) (bs := 0)) (by kernel_rfl) h
end Go.Proofs.YtkohdkldmpiiiaaGreat
end
section
namespace Go.Av
def clR (o : Option Cl) : AV := match o with
 | some c => .tup [c.av, .bool true]
 | none => .tup [qtZ.av, .bool false]
def clsQ (r : List Cl × Int) : OV × AV := (.own 6 (qV r.1) 0 r.1.length, .int .i64 r.2)
def clsA (acc : List Cl) (t : Tm) : List Cl × Int := match seqC (qw t).1 with
 | some l => if (qw t).2 && !(acc ++ l).isEmpty then (acc ++ l, 0) else ([], 10)
 | none => ([], 10)
def okV (V : List Int) (l : List Tm) : Bool := l.all fun e => decide (yG V e = 0)
theorem qls (V : List Int) (x : Tm) (l : List Tm) : okV V (x :: l) = (decide (yG V x = 0) && okV V l) := rfl
theorem qpE (p : Tm) : (zS p).length ≤ 100 := by
 unfold zS
 by_cases h : p.chk = 0
 ·rw [if_pos h, quI]
  have := List.length_filter_le (fun n : Nat => xq (n : Nat) p) (quK 100)
  rw [List.length_range] at this
  exact this
 ·rw [if_neg h]; exact Nat.zero_le _
theorem qn0 {n : Nat} (h : n ≤ 1099511627776) : vD n 104 = true := by
 unfold vD; rw [que, quJ, quJ]; omega
def ClOk (c : Cl) : Prop := c.head.chk = 0 ∧ (∀ x ∈ c.gs, x.chk = 0) ∧ (∀ x ∈ c.bs, x.chk = 0) ∧ c.gs.length ≤ 8388608 ∧ c.bs.length ≤ 8388608
theorem qpk {t : Tm} (h : t.chk = 0) {c : Cl} (hc : xB t = some c) : ClOk c := by
 unfold xB at hc
 by_cases h7 : t.kind = 7
 ·rw [if_pos h7] at hc
  have hw := qbF h
  have hwe := t.w_eq
  cases hs : t.subs with
  | nil => rw [hs] at hc; cases hc
  | cons a l => cases l with
   | nil => rw [hs] at hc; cases hc
   | cons b l => cases l with
    | nil => rw [hs] at hc; cases hc
    | cons d l => cases l with
     | nil =>
      rw [hs] at hc hwe
      simp only [qv, xp] at hwe
      simp only [] at hc
      split at hc
      ·cases hc
       have ha : a.chk = 0 := xi h (by rw [hs]; simp)
       have hb : b.chk = 0 := xi h (by rw [hs]; simp)
       have hd : d.chk = 0 := xi h (by rw [hs]; simp)
       have lb := qcj hb
       have ld := qcj hd
       exact ⟨ha, qbP hb, qbP hd, by show (qw b).1.length ≤ _; omega, by show (qw d).1.length ≤ _; omega⟩
      ·cases hc
     | cons e l => rw [hs] at hc; cases hc
 ·rw [if_neg h7] at hc; cases hc
theorem qnM : ∀ {l : List Tm} {cs : List Cl}, (∀ x ∈ l, x.chk = 0) → seqC l = some cs → ∀ c ∈ cs, ClOk c
 | [], cs, _, h => by cases h; intro c hc; cases hc
 | t :: l, cs, ho, h => by
  rw [seqC] at h
  obtain ⟨c, hc, h⟩ := quf.1 h
  obtain ⟨r, hr, rfl⟩ := quk.1 h
  intro d hd
  rcases quH.1 hd with rfl | hd
  ·exact qpk (ho t List.mem_cons_self) hc
  ·exact qnM (fun x hx => ho x (List.mem_cons_of_mem _ hx)) hr d hd
theorem qsl (t : Tm) : (∀ c ∈ (clsG t).1, ClOk c) ∧ (clsG t).1.length ≤ 8388608 := by
 unfold clsG
 by_cases hc : t.chk = 0
 ·rw [if_pos hc]
  have hw := qbF hc
  have hl := qcj hc
  cases hs : seqC (qw t).1 with
  | none => exact ⟨fun c hc => (by cases hc), Nat.zero_le _⟩
  | some l =>
   simp only []
   have hn := qlb hs
   split
   ·exact ⟨qnM (qbP hc) hs, by show l.length ≤ _; omega⟩
   ·exact ⟨fun c hc => (by cases hc), Nat.zero_le _⟩
 ·rw [if_neg hc]; exact ⟨fun c hc => (by cases hc), Nat.zero_le _⟩
end Go.Av
namespace Go.Proofs.YtkohdkldmpiiiaaGreat
open Go.Av
theorem qmk {V : List Int} {h : Tm} {G B : List Tm} (hV : V.length < 1099511627776) (hB : B.length < 1099511627776) (wB : ∀ x ∈ B, x.w < 1099511627776) : ∀ d i : Nat, i + d = B.length →
  Gets (qfy (vF V) (qa G) (qa B) i 0 0 [] [] [] [] h.kind h.num h.str (qa h.subs) (qa G) (qa B)) (· = clR (if okV V (B.drop i) then some ⟨h, G, B⟩ else none)) := by
 intro d
 induction d with
 | zero =>
  intro i hi
  obtain rfl : i = B.length := by omega
  refine qeA _ _ _ _ _ _ _ _ _ _ _ _ _ _ _ _ ?_
  rw [qh, decide_eq_false (by omega), cond_false, List.drop_eq_nil_of_le (qum _)]
  refine qkU _ _ _ _ _ _ _ _ _ _ _ _ _ _ _ ?_
  exact ⟨_, rfl, rfl⟩
 | succ d ih =>
  intro i hi
  have hil : i < B.length := by omega
  have hx : B[i]? = some B[i] := quj hil
  have hg := qes hV (wB _ (quv hx))
  have h1 := ih (i + 1) (by omega)
  rw [List.drop_eq_getElem_cons hil, qls]
  refine qeA _ _ _ _ _ _ _ _ _ _ _ _ _ _ _ _ ?_
  have gx : qul (qa B) (quG (i : Int)) = some B[i].cells := y9 hx
  rw [qh, decide_eq_true (show (i : Int) < (B.length : Int) by omega), vq, xT, decide_eq_true hil, gx, vr hil hB]
  simp only [cond_true, quy, qf, qN, Nat.beq_refl, q8, q9, qbi, xl, hg, qn, bneD]
  by_cases h0 : yG V B[i] = 0
  ·rw [decide_eq_true h0, Bool.true_and]
   exact h1
  ·rw [decide_eq_false h0]
   exact ⟨_, rfl, rfl⟩
theorem qml {V : List Int} {h : Tm} {G B : List Tm} (hV : V.length < 1099511627776) (hG : G.length < 1099511627776) (wG : ∀ x ∈ G, x.w < 1099511627776) (hB : B.length < 1099511627776) (wB : ∀ x ∈ B, x.w < 1099511627776) : ∀ d i : Nat, i + d = G.length →
  Gets (qhl (vF V) (qa G) (qa B) i 0 0 [] [] [] [] h.kind h.num h.str (qa h.subs) (qa G) (qa B)) (· = clR (if okV V (G.drop i) && okV V B then some ⟨h, G, B⟩ else none)) := by
 intro d
 induction d with
 | zero =>
  intro i hi
  obtain rfl : i = G.length := by omega
  refine qf5 _ _ _ _ _ _ _ _ _ _ _ _ _ _ _ _ ?_
  rw [qh, decide_eq_false (by omega), cond_false, List.drop_eq_nil_of_le (qum _)]
  refine qkV _ _ _ _ _ _ _ _ _ _ _ _ _ _ _ ?_
  exact qmk (h := h) (G := G) hV hB wB B.length 0 (by omega)
 | succ d ih =>
  intro i hi
  have hil : i < G.length := by omega
  have hx : G[i]? = some G[i] := quj hil
  have hg := qes hV (wG _ (quv hx))
  have h1 := ih (i + 1) (by omega)
  rw [List.drop_eq_getElem_cons hil, qls]
  refine qf5 _ _ _ _ _ _ _ _ _ _ _ _ _ _ _ _ ?_
  have gx : qul (qa G) (quG (i : Int)) = some G[i].cells := y9 hx
  rw [qh, decide_eq_true (show (i : Int) < (G.length : Int) by omega), vq, xT, decide_eq_true hil, gx, vr hil hG]
  simp only [cond_true, quy, qf, qN, Nat.beq_refl, q8, q9, qbi, xl, hg, qn, bneD]
  by_cases h0 : yG V G[i] = 0
  ·rw [decide_eq_true h0, Bool.true_and]
   exact h1
  ·rw [decide_eq_false h0]
   exact ⟨_, rfl, rfl⟩
theorem qj0 {t : Tm} (hc : t.chk = 0) : EVf (EV cfg) 125 [t.av] = some (clR (xB t)) := by
 have hw := qbF hc
 have hwe := t.w_eq
 have hz : AV.tup [.agg [AV.int .i64 (0 : Int), .int .i64 (0 : Int), .str [], .sl [], .sl [], .sl []], .bool false] = clR none := rfl
 apply Gets.get
 rw [Tm.av, Tm.cells_eq]
 refine qla _ _ _ _ ?_
 unfold zs1 zs0
 rw [bneD, bneD, hz, qh]
 by_cases h7 : t.kind = 7
 ·rw [decide_eq_true h7]
  by_cases h3 : t.subs.length = 3
  ·obtain ⟨h, g, b, hs⟩ : ∃ h g b, t.subs = [h, g, b] := by
    cases hs : t.subs with
    | nil => rw [hs] at h3; simp at h3
    | cons a l => cases l with
     | nil => rw [hs] at h3; simp at h3
     | cons b l => cases l with
      | nil => rw [hs] at h3; simp at h3
      | cons d l => cases l with
       | nil => exact ⟨a, b, d, rfl⟩
       | cons e l => rw [hs] at h3; simp at h3
   have ch : h.chk = 0 := xi hc (by rw [hs]; simp)
   have cg : g.chk = 0 := xi hc (by rw [hs]; simp)
   have cb : b.chk = 0 := xi hc (by rw [hs]; simp)
   rw [hs] at hwe
   simp only [qv, xp] at hwe
   have lg := qcj cg
   have lb := qcj cb
   have hh := qpK (t := h) (by omega)
   have hv := qox (t := h) (by omega)
   have e1 := qjw cg
   have e2 := qjw cb
   have hl := qml (V := zS h) (h := h) (G := (qw g).1) (B := (qw b).1) (by have := qpE h; omega) (by omega) (fun x hx => by have := yv hx; omega) (by omega) (fun x hx => by have := yv hx; omega) (qw g).1.length 0 (by omega)
   have gh : xB t = if qd5 h && ((qw g).2 && ((qw b).2 && !(qw b).1.isEmpty)) && (okV (zS h) (qw g).1 && okV (zS h) (qw b).1) then some ⟨h, (qw g).1, (qw b).1⟩ else none := by
    unfold xB; rw [if_pos h7, hs]; rfl
   rw [decide_eq_true (show (t.subs.length : Int) = 3 by omega), hs, qG, qG, qG, vG, gh]
   have g0 : qul [h.cells, g.cells, b.cells] 0 = some h.cells := rfl
   have g1 : qul [h.cells, g.cells, b.cells] 1 = some g.cells := rfl
   have g2 : qul [h.cells, g.cells, b.cells] 2 = some b.cells := rfl
   have l0 : qp 0 (([h, g, b].length : Nat) : Int) = true := rfl
   have l1 : qp 1 (([h, g, b].length : Nat) : Int) = true := rfl
   have l2 : qp 2 (([h, g, b].length : Nat) : Int) = true := rfl
   rw [g0, g1, g2]
   simp only [l0, l1, l2, Bool.not_true, cond_false, cond_true, qf, qN, Nat.beq_refl, q8, q9, qbi, xl, hh, qm]
   cases qd5 h with
   | false => exact ⟨_, rfl, rfl⟩
   | true =>
    simp only [Bool.not_true, cond_false, Bool.true_and, hv, e1, e2, lsR, qf, kTup, qc, yz, qm, kNil, qh, beqI]
    cases (qw g).2 with
    | false => exact ⟨_, rfl, rfl⟩
    | true =>
     cases (qw b).2 with
     | false => exact ⟨_, rfl, rfl⟩
     | true =>
      simp only [Bool.not_true, cond_false, Bool.true_and]
      cases hb : (qw b).1 with
      | nil => exact ⟨_, rfl, rfl⟩
      | cons x l =>
       rw [hb] at hl
       rw [decide_eq_false (show ¬ (((x :: l).length : Nat) : Int) = 0 by simp; omega)]
       refine qmH _ _ _ _ _ _ _ ?_
       exact hl
  ·have : xB t = none := by
    unfold xB
    rw [if_pos h7]
    cases hs : t.subs with
    | nil => rfl
    | cons a l => cases l with
     | nil => rfl
     | cons b l => cases l with
      | nil => rfl
      | cons d l => cases l with
       | nil => rw [hs] at h3; simp at h3
       | cons e l => rfl
   rw [decide_eq_false (show ¬ (t.subs.length : Int) = 3 by omega), this]
   exact ⟨_, rfl, rfl⟩
 ·have : xB t = none := by unfold xB; rw [if_neg h7]
  rw [decide_eq_false h7, this]
  exact ⟨_, rfl, rfl⟩
theorem qki {c : Tm} : ∀ (n : Nat) (t : Tm) (acc : List Cl), t.w ≤ n → t.chk = 0 → acc.length + n < 1099511627776 →
  Gets (qiX c.kind c.num c.str (qa c.subs) 0 0 acc.length false t.kind t.num t.str (qa t.subs) [] (qV acc)) (· = clsQ (clsA acc t)) := by
 intro n
 induction n with
 | zero => intro t acc h; have := yP t; omega
 | succ n ih =>
  intro t acc hw hc hn
  refine qkW _ _ _ _ _ _ _ _ _ _ _ _ _ _ ?_
  unfold zs2 zs3 zs4 zs5 zs6 zs7 zs8 zs9
  rw [beqI, beqI, beqI]
  by_cases h9 : t.kind = 9
  ·obtain ⟨x, y, hs⟩ := qcr hc h9
   have hwe := t.w_eq
   rw [hs] at hwe
   simp only [qv, xp] at hwe
   have hxc : x.chk = 0 := xi hc (by rw [hs]; simp)
   have hyc : y.chk = 0 := xi hc (by rw [hs]; simp)
   have hce := qj0 hxc
   have e1 : quw (0 + acc.length) (qV acc).length = true := by rw [quJ, vQ]; omega
   have e2 : qux acc.length (qV acc) = qV acc := quu (by rw [vQ]; exact qum _)
   rw [decide_eq_true h9, cond_true, hs, lt0T, qkJ, lt1T, qkI, e1, e2, qn0 (by omega)]
   simp only [cond_true, quy, qf, qN, Nat.beq_refl, q8, q9, qbi, xl, hce]
   cases hcl : xB x with
   | none =>
    have : clsA acc t = ([], 10) := by unfold clsA; rw [xo h9 hs, seqC, hcl]; rfl
    rw [this]
    exact ⟨_, rfl, rfl⟩
   | some d =>
    have : clsA acc t = clsA (acc ++ [d]) y := by
     unfold clsA
     rw [xo h9 hs, seqC, hcl]
     cases seqC (qw y).1 with
     | none => rfl
     | some l => simp
    rw [this]
    have h := ih y (acc ++ [d]) (by omega) hyc (by rw [qus, List.length_singleton]; omega)
    rw [qus, List.length_singleton] at h
    have e3 : quD (qV acc) [[AV.int .i64 d.head.kind, .int .i64 d.head.num, .str d.head.str, .sl (qa d.head.subs), .sl (qa d.gs), .sl (qa d.bs)]] = qV (acc ++ [d]) := (qeM acc [d]).symm
    simp only [clR, Cl.av, Cl.cells, kTup, qc, kAgg, qn, qE, yz, kNil, qm, Bool.not_true, cond_false, e3]
    exact h
  ·rw [decide_eq_false h9, cond_false]
   have hi : clsA acc t = if t.kind = 8 ∧ acc ≠ [] then (acc, 0) else ([], 10) := by
    unfold clsA
    rw [yB h9, seqC]
    by_cases h8 : t.kind = 8
    ·cases acc <;> simp [h8]
    ·simp [h8]
   rw [hi]
   by_cases h8 : t.kind = 8
   ·rw [decide_eq_true h8]
    cases acc with
    | nil => rw [if_neg (fun h => h.2 rfl)]; exact ⟨_, rfl, rfl⟩
    | cons a l =>
     rw [decide_eq_false (show ¬ (((a :: l).length : Nat) : Int) = 0 by simp; omega), if_pos ⟨h8, by simp⟩]
     exact ⟨_, rfl, rfl⟩
   ·rw [decide_eq_false h8, if_neg (fun h => h8 h.1)]
    exact ⟨_, rfl, rfl⟩
theorem qmj {c : Tm} : ∀ (n : Nat) (t : Tm) (acc : List Cl), t.w ≤ n → t.chk = 0 → acc.length + n < 1099511627776 →
  Gets (qkX c.kind c.num c.str (qa c.subs) 0 0 acc.length false t.kind t.num t.str (qa t.subs) [] (qV acc)) (· = clsQ (clsA acc t)) := by
 intro n
 induction n with
 | zero => intro t acc h; have := yP t; omega
 | succ n ih =>
  intro t acc hw hc hn
  refine qmI _ _ _ _ _ _ _ _ _ _ _ _ _ _ ?_
  unfold zs2 zs3 zs4 zs5 zs6 zs7 zs8 zs9
  rw [beqI, beqI, beqI]
  by_cases h9 : t.kind = 9
  ·obtain ⟨x, y, hs⟩ := qcr hc h9
   have hwe := t.w_eq
   rw [hs] at hwe
   simp only [qv, xp] at hwe
   have hxc : x.chk = 0 := xi hc (by rw [hs]; simp)
   have hyc : y.chk = 0 := xi hc (by rw [hs]; simp)
   have hce := qj0 hxc
   have e1 : quw (0 + acc.length) (qV acc).length = true := by rw [quJ, vQ]; omega
   have e2 : qux acc.length (qV acc) = qV acc := quu (by rw [vQ]; exact qum _)
   rw [decide_eq_true h9, cond_true, hs, lt0T, qkJ, lt1T, qkI, e1, e2, qn0 (by omega)]
   simp only [cond_true, quy, qf, qN, Nat.beq_refl, q8, q9, qbi, xl, hce]
   cases hcl : xB x with
   | none =>
    have : clsA acc t = ([], 10) := by unfold clsA; rw [xo h9 hs, seqC, hcl]; rfl
    rw [this]
    exact ⟨_, rfl, rfl⟩
   | some d =>
    have : clsA acc t = clsA (acc ++ [d]) y := by
     unfold clsA
     rw [xo h9 hs, seqC, hcl]
     cases seqC (qw y).1 with
     | none => rfl
     | some l => simp
    rw [this]
    have h := qki (c := c) n y (acc ++ [d]) (by omega) hyc (by rw [qus, List.length_singleton]; omega)
    rw [qus, List.length_singleton] at h
    have e3 : quD (qV acc) [[AV.int .i64 d.head.kind, .int .i64 d.head.num, .str d.head.str, .sl (qa d.head.subs), .sl (qa d.gs), .sl (qa d.bs)]] = qV (acc ++ [d]) := (qeM acc [d]).symm
    simp only [clR, Cl.av, Cl.cells, kTup, qc, kAgg, qn, qE, yz, kNil, qm, Bool.not_true, cond_false, e3]
    exact h
  ·rw [decide_eq_false h9, cond_false]
   have hi : clsA acc t = if t.kind = 8 ∧ acc ≠ [] then (acc, 0) else ([], 10) := by
    unfold clsA
    rw [yB h9, seqC]
    by_cases h8 : t.kind = 8
    ·cases acc <;> simp [h8]
    ·simp [h8]
   rw [hi]
   by_cases h8 : t.kind = 8
   ·rw [decide_eq_true h8]
    cases acc with
    | nil => rw [if_neg (fun h => h.2 rfl)]; exact ⟨_, rfl, rfl⟩
    | cons a l =>
     rw [decide_eq_false (show ¬ (((a :: l).length : Nat) : Int) = 0 by simp; omega), if_pos ⟨h8, by simp⟩]
     exact ⟨_, rfl, rfl⟩
   ·rw [decide_eq_false h8, if_neg (fun h => h8 h.1)]
    exact ⟨_, rfl, rfl⟩
theorem qiH {t : Tm} (hw : t.w < 1099511627776) : EVq (EV cfg) 61 [t.av] = some (clsQ (clsG t)) := by
 have hk := qgW hw
 apply Gets.get
 rw [Tm.av, Tm.cells_eq] at hk ⊢
 refine qi5 _ _ _ _ ?_
 rw [hk]
 simp only [qf, qn, bneD]
 unfold clsG
 by_cases hc : t.chk = 0
 ·rw [decide_eq_true hc, if_pos hc]
  exact qmj (c := t) t.w t [] (qum _) hc (by have := qbF hc; simp; omega)
 ·rw [decide_eq_false hc, if_neg hc]
  exact ⟨_, rfl, rfl⟩
theorem qoj {t : Tm} (hw : t.w < 1099511627776) : EVs (EV cfg) 65 [t.av] = some (.int .i64 (clsG t).2) := by
 have hk := qiH hw
 apply Gets.get
 rw [Tm.av, Tm.cells_eq] at hk ⊢
 refine qmQ _ _ _ _ ?_
 rw [hk]
 exact ⟨_, rfl, rfl⟩
theorem qb9 {t : Tm} (hw : t.w < 1099511627776) : EVf (EV cfg) 26 [t.av] = some (.tup [.sl (qV (clsG t).1), .int .i64 (clsG t).2]) := by
 have hk := qiH hw
 obtain ⟨ho, hn⟩ := qsl t
 apply Gets.get
 rw [Tm.av, Tm.cells_eq] at hk ⊢
 refine qj7 _ _ _ _ ?_
 rw [hk]
 simp only [clsQ, qf, qn, qgO, bneD]
 have hz : (clsG t).2 ≠ 0 → (clsG t).1 = [] := by
  unfold clsG
  by_cases hc : t.chk = 0
  ·rw [if_pos hc]
   cases seqC (qw t).1 with
   | none => intro _; rfl
   | some l =>
    simp only []
    split
    ·intro h; exact absurd rfl h
    ·intro _; rfl
  ·rw [if_neg hc]; intro _; rfl
 generalize hl : (clsG t).1 = l at *
 generalize he : (clsG t).2 = e at *
 by_cases h0 : e = 0
 ·subst h0
  rw [decide_eq_true rfl]
  simp only [Bool.not_true, cond_false]
  have loop : ∀ d i : Nat, i + d = l.length → Gets (qfx 6 0 l.length i (qV l)) (· = .tup [.sl (qV l), .int .i64 0]) := by
   intro d
   induction d with
   | zero =>
    intro i hi
    obtain rfl : i = l.length := by omega
    refine qez _ _ _ _ _ ?_
    have hb : quw (0 + l.length) (qV l).length = true := by rw [quJ, vQ]; omega
    have ht : qux l.length (quN 0 (qV l)) = qV l := quu (by rw [List.drop_zero, vQ]; exact qum _)
    rw [decide_eq_false (by omega), hb, ht]
    exact ⟨_, rfl, rfl⟩
   | succ d ih =>
    intro i hi
    have hil : i < l.length := by omega
    have hx : l[i]? = some l[i] := quj hil
    obtain ⟨c1, c2, c3, c4, c5⟩ := ho _ (quv hx)
    have k1 := qfQ (qlr c1)
    have k2 := qgb (l := l[i].gs) (by omega) (fun x hx => qlr (c2 x hx))
    have k3 := qgb (l := l[i].bs) (by omega) (fun x hx => qlr (c3 x hx))
    have gx : qul (qV l) (0 + quG (i : Int)) = some l[i].cells := by
     rw [Nat.zero_add, qK, quE, qeL, hx]; rfl
    have gs : List.set (qV l) (0 + quG (i : Int)) l[i].cells = qV l := by
     rw [Nat.zero_add, quE, qpU, List.set_getElem_self]
    have h1 := ih (i + 1) (by omega)
    refine qez _ _ _ _ _ ?_
    rw [decide_eq_true (show (i : Int) < (l.length : Int) by omega), vq, xT, decide_eq_true hil, gx, vr hil (show l.length < 1099511627776 by omega)]
    have b6 : quw 6 l[i].cells.length = true := rfl
    have t6 : qux 6 l[i].cells = l[i].cells := rfl
    have d6 : quN 6 l[i].cells = [] := rfl
    simp only [show qun 6 6 = true from rfl, cond_true, quy, qf, b6, t6, d6]
    unfold Cl.cells at gs ⊢
    simp only [qc, qn, qE, yz, kNil, xl, k1, k2, k3, qf, qa4, gs]
    exact h1
  exact loop l.length 0 (by omega)
 ·rw [decide_eq_false h0, hz h0]
  exact ⟨_, rfl, rfl⟩
end Go.Proofs.YtkohdkldmpiiiaaGreat
end
section
namespace Go.Av
structure EnvW (e : Env) : Prop where
 obj : e.obj.w < 1099511627776
 len : e.binds.length < 1099511627776
 binds : ∀ p ∈ e.binds, p.2.w < 1099511627776
end Go.Av
namespace Go.Proofs.YtkohdkldmpiiiaaGreat
open Go.Av
end Go.Proofs.YtkohdkldmpiiiaaGreat
end
section
namespace Go.Av
theorem zJ : ∀ l : List Tm, wL l + l.length ≤ (qP l).w
 | [] => Nat.zero_le _
 | x :: l => by
  have h := zJ l
  have : (qP (x :: l)).w = 1 + 0 + (x.w + ((qP l).w + 0)) ∨ wL (x :: l) + (x :: l).length ≤ (qP (x :: l)).w := by
   right
   have e := (qP (x :: l)).w_eq
   have : (qP (x :: l)).subs = [x, qP l] := rfl
   rw [this] at e
   simp only [qv, xp, quM] at e ⊢
   omega
  rcases this with h1 | h1
  ·simp only [qv, quM]; omega
  ·exact h1
theorem qol {cs : List Cl} {c : Cl} (h : c ∈ cs) : c.head.w + wL c.gs + c.gs.length + wL c.bs + c.bs.length ≤ (selT cs).w := by
 have h1 := zJ (cs.map clT)
 have h2 : (clT c).w ≤ wL (cs.map clT) := yv (List.mem_map.2 ⟨c, h, rfl⟩)
 have h3 := zJ c.gs
 have h4 := zJ c.bs
 have e := (clT c).w_eq
 have : (clT c).subs = [c.head, qP c.gs, qP c.bs] := rfl
 rw [this] at e
 simp only [qv, xp] at e
 have : selT cs = qP (cs.map clT) := rfl
 rw [this]
 omega
theorem qrc (cs : List Cl) : cs.length ≤ (selT cs).w := by
 have h1 := zJ (cs.map clT)
 rw [quI] at h1
 have : selT cs = qP (cs.map clT) := rfl
 rw [this]
 omega
end Go.Av
namespace Go.Proofs.YtkohdkldmpiiiaaGreat
open Go.Av
end Go.Proofs.YtkohdkldmpiiiaaGreat
end
section
namespace Go.Av
def okC (c : Cl) : Bool := qd5 c.head && !c.bs.isEmpty && (c.gs.all (fun e => decide (yG (zS c.head) e = 0)) && c.bs.all (fun e => decide (yG (zS c.head) e = 0)))
theorem qnu (c : Cl) : xB (clT c) = if okC c then some c else none := by
 unfold xB clT
 rw [if_pos (show (tupT [c.head, qP c.gs, qP c.bs]).kind = 7 from rfl)]
 show (if qd5 c.head && ((qw (qP c.gs)).2 && ((qw (qP c.bs)).2 && !(qw (qP c.bs)).1.isEmpty)) && ((qw (qP c.gs)).1.all (fun e => decide (yG (zS c.head) e = 0)) && (qw (qP c.bs)).1.all (fun e => decide (yG (zS c.head) e = 0))) then some (Cl.mk c.head (qw (qP c.gs)).1 (qw (qP c.bs)).1) else none) = _
 rw [qbd, qbd]
 simp only [Bool.true_and]
 rfl
theorem qlc : ∀ cs : List Cl, seqC (cs.map clT) = if cs.all okC then some cs else none
 | [] => rfl
 | c :: cs => by
  rw [List.map_cons, seqC, qnu, qlc cs, List.all_cons]
  cases okC c <;> cases cs.all okC <;> rfl
theorem qjZ (cs : List Cl) : clsG (selT cs) = if (selT cs).chk = 0 then (if cs.all okC && !cs.isEmpty then (cs, 0) else ([], 10)) else ([], 2) := by
 unfold clsG
 have h : qw (selT cs) = (cs.map clT, true) := qbd _
 rw [h]
 simp only [qlc, Bool.true_and]
 cases h1 : cs.all okC <;> cases cs <;> simp
structure SelOk (cs : List Cl) : Prop where
 chk : (selT cs).chk = 0
 ok : ∀ c ∈ cs, okC c = true
 ne : cs ≠ []
theorem qjY {cs : List Cl} : (clsG (selT cs)).2 = 0 ↔ SelOk cs := by
 rw [qjZ]
 by_cases h : (selT cs).chk = 0
 ·rw [if_pos h]
  cases h1 : cs.all okC && !cs.isEmpty with
  | true =>
   rw [que, List.all_eq_true] at h1
   exact ⟨fun _ => ⟨h, h1.1, by rintro rfl; exact absurd h1.2 (by simp)⟩, fun _ => rfl⟩
  | false =>
   refine ⟨fun h => (by cases h), fun g => ?_⟩
   rw [List.all_eq_true.2 g.ok, Bool.true_and] at h1
   exact absurd (List.isEmpty_iff.1 (by simpa using h1)) g.ne
 ·rw [if_neg h]
  exact ⟨fun h => (by cases h), fun g => absurd g.chk h⟩
theorem SelOk.cls {cs : List Cl} (h : SelOk cs) : clsG (selT cs) = (cs, 0) := by
 rw [qjZ, if_pos h.chk, List.all_eq_true.2 h.ok]
 cases cs with
 | nil => exact absurd rfl h.ne
 | cons c cs => rfl
theorem SelOk.of {cs : List Cl} (h : SelOk cs) : ofG cs = (selT cs, 0) := by
 unfold ofG
 rw [if_pos (qjY.2 h)]
theorem qqw {t a b : Tm} (hc : t.chk = 0) (hk : t.kind = 9) (hs : t.subs = [a, b]) : t = .mk 9 0 [] [a, b] := by
 obtain ⟨h1, _⟩ := zk.1 hc
 obtain ⟨k, n, s, l⟩ := t
 simp only [Tm.kind_mk, Tm.subs_mk] at hk hs
 subst hk hs
 rw [Tm.parts_eq, que] at h1
 have h2 : yy 9 n s 2 = true := h1.1
 simp [yy] at h2
 rw [h2.1, h2.2]
theorem qro {t : Tm} (hc : t.chk = 0) (hk : t.kind = 8) : t = .mk 8 0 [] [] := by
 obtain ⟨h1, _⟩ := zk.1 hc
 obtain ⟨k, n, s, l⟩ := t
 simp only [Tm.kind_mk] at hk
 subst hk
 rw [Tm.parts_eq, que] at h1
 have h2 : yy 8 n s l.length = true := h1.1
 simp [yy] at h2
 rw [h2.1, h2.2.1, h2.2.2]
theorem qq4 {t : Tm} (hc : t.chk = 0) (hk : t.kind = 7) : t = tupT t.subs := by
 obtain ⟨h1, _⟩ := zk.1 hc
 obtain ⟨k, n, s, l⟩ := t
 simp only [Tm.kind_mk] at hk
 subst hk
 rw [Tm.parts_eq, que] at h1
 have h2 : yy 7 n s l.length = true := h1.1
 simp [yy] at h2
 rw [h2.1, h2.2.1]; rfl
theorem qc1 {t : Tm} (hc : t.chk = 0) (h : (qw t).2 = true) : qP (qw t).1 = t := by
 refine qjj (P := fun t => (qw t).2 = true → t.chk = 0 → qP (qw t).1 = t) t hc (fun t a b hk hs hc ih h hc => ?_) (fun t hk hc h hc => ?_) h hc
 ·rw [xo hk hs] at h ⊢
  have h2 := ih h (xi hc (by rw [hs]; simp))
  show Tm.mk 9 0 [] [a, qP (qw b).1] = t
  rw [h2, ← qqw hc hk hs]
 ·rw [yB hk] at h ⊢
  exact (qro hc (of_decide_eq_true h)).symm
theorem qpl {t : Tm} (hc : t.chk = 0) {c : Cl} (h : xB t = some c) : t = clT c := by
 unfold xB at h
 split at h
 ·rename_i hk
  split at h
  ·rename_i a g b hs
   split at h
   ·rename_i hcond
    cases h
    simp only [que] at hcond
    have hg := qc1 (xi hc (x := g) (by rw [hs]; simp)) hcond.1.2.1
    have hb := qc1 (xi hc (x := b) (by rw [hs]; simp)) hcond.1.2.2.1
    show t = tupT [a, qP (qw g).1, qP (qw b).1]
    rw [hg, hb, ← hs]
    exact qq4 hc hk
   ·cases h
  ·cases h
 ·cases h
theorem qjy : ∀ {l : List Tm} {cs : List Cl}, (∀ x ∈ l, x.chk = 0) → seqC l = some cs → l = cs.map clT
 | [], cs, _, h => by cases h; rfl
 | t :: l, cs, hc, h => by
  rw [seqC] at h
  obtain ⟨c, h1, h⟩ := quf.1 h
  obtain ⟨r, hr, rfl⟩ := quk.1 h
  rw [List.map_cons, ← qpl (hc t (by simp)) h1, qjy (fun x hx => hc x (by simp [hx])) hr]
theorem qqF {t : Tm} (h : (clsG t).2 = 0) : selT (clsG t).1 = t ∧ SelOk (clsG t).1 := by
 have key : selT (clsG t).1 = t := by
  unfold clsG at h ⊢
  by_cases hc : t.chk = 0
  ·rw [if_pos hc] at h ⊢
   cases hs : seqC (qw t).1 with
   | none => rw [hs] at h; cases h
   | some l =>
    rw [hs] at h
    simp only [] at h ⊢
    split at h
    ·rename_i h2
     rw [if_pos h2]
     rw [que] at h2
     show qP (l.map clT) = t
     rw [← qjy (qbP hc) hs]
     exact qc1 hc h2.1
    ·cases h
  ·rw [if_neg hc] at h; cases h
 refine ⟨key, qjY.1 ?_⟩
 rw [key]; exact h
theorem qcZ : ∀ l : List Tm, (qP l).words = 1 + l.length + vm l
 | [] => by decide
 | x :: l => by
  have h : (qP (x :: l)).words = 1 + (x.words + ((qP l).words + 0)) := by
   show (Tm.mk 9 0 [] [x, qP l]).words = _
   rw [Tm.words]; simp [vm, Tm.own]
  rw [h, qcZ l, vm, quM]; omega
theorem qc0 : ∀ l : List Tm, (qP l).parts = vK l
 | [] => by decide
 | x :: l => by
  have h : (qP (x :: l)).parts = (x.parts && ((qP l).parts && true)) := by
   show (Tm.mk 9 0 [] [x, qP l]).parts = _
   rw [Tm.parts]; simp [vK, yy]
  rw [h, qc0 l, vK, Bool.and_true]
theorem qsb {c : Cl} : (selT [c]).chk = 0 ↔ (clT c).parts = true ∧ 2 + (clT c).words ≤ 65536 := by
 rw [zk, selT, qcZ, qc0]
 simp [vK, vm]
theorem SelOk.one {cs : List Cl} (h : SelOk cs) {c : Cl} (hc : c ∈ cs) : SelOk [c] := by
 obtain ⟨h1, h2⟩ := zk.1 h.chk
 rw [selT, qc0] at h1
 rw [selT, qcZ] at h2
 have hm := List.mem_map_of_mem (f := clT) hc
 have := qhf hm
 have hl : 1 ≤ cs.length := List.length_pos_of_mem hc
 rw [quI] at h2
 exact ⟨qsb.2 ⟨qhK h1 _ hm, by omega⟩, by simpa using h.ok c hc, by simp⟩
end Go.Av
end
section
namespace Go.Proofs.YtkohdkldmpiiiaaGreat
open Go.Av
def qr5 (t : Tm) (most : Int) (v : AV) : Prop := ∃ n : Int, v = .int .i64 n ∧ 1 ≤ n ∧ n ≤ most ∧ (n < most → t.w ≤ 101 * n ∧ t.words ≤ 2 * n)
theorem qrb (t : Tm) : t.Ok → ∀ most : Int, 1 ≤ most → most ≤ 1073741824 → Gets (EVs (EV cfg) 35 [t.av, .int .i64 most]) (qr5 t most) := by
 induction t using Tm.ind with
 | _ k n s l ih =>
  intro hok most h1 hmx
  by_cases hs : s.length ≤ 100
  ·have loop : ∀ (d i : Nat) (m : Int), i + d = l.length → 1 ≤ m → m ≤ most → (m < most → (1 + s.length : Nat) + wL (l.take i) ≤ 101 * m ∧ 2 + vm (l.take i) ≤ 2 * m) → Gets (qhi most m i k n s (qa l)) (qr5 (.mk k n s l) most) := by
    intro d
    induction d with
    | zero =>
     intro i m hi hm1 hm2 hmw
     refine qf2 _ _ _ _ _ _ _ ?_
     rw [qh, decide_eq_false (by omega)]
     refine ⟨_, rfl, m, rfl, hm1, hm2, fun hlt => ?_⟩
     have hmw := hmw hlt
     rw [quu (by omega)] at hmw
     have := (Tm.mk k n s l).own_le
     rw [Tm.w_mk, Tm.words]
     omega
    | succ d ihd =>
     intro i m hi hm1 hm2 hmw
     refine qf2 _ _ _ _ _ _ _ ?_
     have hil : i < l.length := by omega
     have hx : l[i]? = some l[i] := quj hil
     have hxl := quv hx
     have hix := ih l[i] hxl (hok.sub hxl)
     by_cases hm : m < most
     ·have hmw := hmw hm
      rw [vr hil hok.len, xa (x := most - m) (by omega) (by omega)]
      simp [hil, hm]
      refine Gets.bind (hix (most - m) (by omega) (by omega)) ?_
      rintro _ ⟨n'', rfl, q1, q2, q3⟩
      have hg := ihd (i + 1) (m + n'') (by omega) (by omega) (by omega) (fun hlt => by
       have := q3 (by omega)
       rw [List.take_add_one, hx, Option.toList_some, y7, qby, qv, xp, vm, vm]
       omega)
      simp only [qn]
      rw [xa (x := m + n'') (by omega) (by omega)]
      simpa using hg
     ·simp [hil, hm]
      exact ⟨m, rfl, hm1, hm2, fun h => absurd h hm⟩
   rw [Tm.av_mk]
   refine qgn _ _ _ _ _ ?_
   rw [decide_eq_false (by omega)]
   by_cases h2 : (l.length : Int) > most
   ·rw [qh, decide_eq_true h2]
    exact ⟨_, rfl, most, rfl, h1, Int.le_refl _, fun h => absurd h (by omega)⟩
   ·rw [qh, decide_eq_false h2]
    exact loop l.length 0 1 (by omega) (by omega) (by omega) (fun _ => by simp [vm]; omega)
  ·rw [Tm.av_mk]
   refine qgn _ _ _ _ _ ?_
   rw [decide_eq_true (by omega)]
   exact ⟨_, rfl, most, rfl, h1, Int.le_refl _, fun h => absurd h (by omega)⟩
def BigP (t : Tm) (most : Int) (v : AV) : Prop := ∃ b : Bool, v = .bool b ∧ (b = false → t.w ≤ 101 * most ∧ t.words ≤ 2 * most)
theorem qsp {t : Tm} (h : t.Ok) {most : Int} (h1 : 1 ≤ most) (h2 : most ≤ 1000000000) : Gets (EVs (EV cfg) 10 [t.av, .int .i64 most]) (BigP t most) := by
 have h1 := qrb t h (most + 1) (by omega) (by omega)
 rw [Tm.av, Tm.cells_eq] at h1 ⊢
 refine qoI _ _ _ _ _ ?_
 rw [xa (by omega) (by omega)]
 refine Gets.bind h1 ?_
 rintro _ ⟨n, rfl, q1, q2, q3⟩
 simp only [qn]
 refine ⟨_, rfl, _, rfl, fun hb => ?_⟩
 have hb : ¬ n > most := of_decide_eq_false hb
 have := q3 (by omega)
 omega
noncomputable def qtn : Den := evC cfg (EV cfg) 47 none 0 (sub (ql Tryz.f47) [1, 1, 0, 1, 0, 0])
noncomputable def qtJ : Ex × List AV × AH → Option AV := kAft (Cfg.keepOut cfg 47 4) (kRun cfg (EV cfg) (kfN cfg 6) 47 none 0 (qaP cfg (Cfg.lift cfg 47 0) Tryz.f47.results.toList) ([.block 0, .seq (sub (ql Tryz.f47) [1, 1, 1])]))
noncomputable def qtb : List AV × AH → Option AV := fun p => kOpt (LOOP 0 (some [0, 1, 5]) ([]) qtn p) qtJ
noncomputable abbrev qhe (A B : Rz) (v5 : Int) : Option (AV) := qtb  (((fx 27 [(0, .sl A), (1, .sl B), (5, .int .i64 v5)]) : List AV), ([] : AH))
theorem qcS (ka na : Int) (sa : Bz) (la : Rz) (kb nb : Int) (sb : Bz) (lb : Rz) {P : AV → Prop} (h : Gets (bif ka == kb then bif na == nb then bif sa == sb then kOpt (EVs (EV cfg) 47 [.sl la, .sl lb]) fun v => ve v fun b => some (.bool b) else some (.bool false) else some (.bool false) else some (.bool false)) P) : Gets (EVs (EV cfg) 15 [.agg [.int .i64 ka, .int .i64 na, .str sa, .sl la], .agg [.int .i64 kb, .int .i64 nb, .str sb, .sl lb]]) P :=
  gE (fun _ => funS rfl rfl Tryz.func15 rfl) (by kernel_rfl) h
theorem qcu (A B : Rz) {P : AV → Prop} (h : Gets (bif (A.length : Int) != (B.length : Int) then some (.bool false) else qhe A B 0) P) : Gets (EVs (EV cfg) 47 [.sl A, .sl B]) P :=
  gE (fun _ => funS rfl rfl Tryz.func47 rfl) (by kernel_rfl) h
theorem qfY (A B : Rz) (v5 : Int) {P : AV → Prop} (h : Gets (bif decide (v5 < (A.length : Int)) then bif qj 0 v5 && qp v5 (A.length : Int) then kOpt (qul A (v5.toNat)) fun row => bif qun (qug row) 4 then bif quw 4 (qug row) then kTmC (qux 4 row) fun n n_1 s rows => (bif qj 0 v5 && qp v5 (B.length : Int) then kOpt (qul B (v5.toNat)) fun row => bif qun (qug row) 4 then bif quw 4 (qug row) then kTmC (qux 4 row) fun n_2 n_3 s_1 rows_1 => (kOpt (EVs (EV cfg) 15 [.agg [.int .i64 n, .int .i64 n_1, .str s, .sl rows], .agg [.int .i64 n_2, .int .i64 n_3, .str s_1, .sl rows_1]]) fun v => ve v fun b => bif ! b then some (.bool false) else qhe A B (IntKind.wrap .i64 (v5 + 1))) else none else none else none) else none else none else none else some (.bool true)) P) : Gets (qhe A B v5) P :=
  gE (fun _ => qB (cfg := cfg) (f := 47) (rd := none) (bs := 0)) (by kernel_rfl) h
theorem qrg (la lb : List Tm) (hlen : la.length < 1099511627776) (ih : ∀ a ∈ la, ∀ b, Gets (EVs (EV cfg) 15 [a.av, b.av]) (qiS (a = b))) : Gets (EVs (EV cfg) 47 [.sl (qa la), .sl (qa lb)]) (qiS (la = lb)) := by
 have loop : la.length = lb.length → ∀ (d i : Nat), i + d = la.length → la.take i = lb.take i → Gets (qhe (qa la) (qa lb) i) (qiS (la = lb)) := by
  intro hl d
  induction d with
  | zero =>
   intro i hi ht
   refine qfY _ _ _ ?_
   rw [quu (by omega), quu (by omega)] at ht
   have h1 : ¬ i < la.length := by omega
   simp [h1, za]
   exact ht
  | succ d ihd =>
   intro i hi ht
   refine qfY _ _ _ ?_
   have hlt1 : i < la.length := by omega
   have hlt2 : i < lb.length := by omega
   have hx : la[i]? = some la[i] := quj hlt1
   have hy : lb[i]? = some lb[i] := quj hlt2
   have hix := ih la[i] (quv hx) lb[i]
   have hta : la.take (i + 1) = la.take i ++ [la[i]] := by rw [List.take_add_one, hx]; rfl
   have htb : lb.take (i + 1) = lb.take i ++ [lb[i]] := by rw [List.take_add_one, hy]; rfl
   have hih := ihd (i + 1) (by omega)
   have hne : la[i] ≠ lb[i] → la ≠ lb := by intro h e; subst e; exact h rfl
   rw [hta, htb, ht] at hih
   rw [vr (n := la.length) (by omega) hlen]
   simp [hlt1, hlt2]
   refine Gets.bind hix ?_
   rintro _ ⟨b, rfl, hb⟩
   cases b with
   | true => simp; exact hih (by rw [hb.1 rfl])
   | false =>
    have : la ≠ lb := hne (fun e => by cases hb.2 e)
    simp [za, this]
 refine qcu _ _ ?_
 by_cases hl : la.length = lb.length
 ·simp [hl]
  exact loop hl la.length 0 (by omega) (by simp)
 ·have : la ≠ lb := fun e => hl (by rw [e])
  have hl' : ¬ ((la.length : Int) = lb.length) := by omega
  simp [bneD, hl', za, this]
theorem qrf (a : Tm) : a.Ok → ∀ b : Tm, Gets (EVs (EV cfg) 15 [a.av, b.av]) (qiS (a = b)) := by
 induction a using Tm.ind with
 | _ k n s l ih =>
  intro hok b
  obtain ⟨k', n', s', l'⟩ := b
  have hl := qrg l l' hok.len (fun a ha b => ih a ha (hok.sub ha) b)
  rw [Tm.av_mk, Tm.av_mk]
  refine qcS _ _ _ _ _ _ _ _ ?_
  by_cases h1 : k = k'
  ·by_cases h2 : n = n'
   ·by_cases h3 : s = s'
    ·subst h1 h2 h3
     simp
     refine Gets.bind hl ?_
     rintro _ ⟨b, rfl, hb⟩
     simp [za, hb]
    ·simp [h1, h2, beqD, h3, za]
   ·simp [h1, beqD, h2, za]
  ·simp [beqD, h1, za]
theorem qpN {a b : Tm} (h : a.Ok) {c : Bool} (hc : c = true ↔ a = b) : EVs (EV cfg) 15 [a.av, b.av] = some (.bool c) := by
 obtain ⟨_, h1, b', rfl, h2⟩ := qrf a h b
 rw [h1]
 have : b' = c := by rw [Bool.eq_iff_iff]; exact h2.trans hc.symm
 rw [this]
def ye (p : Int) (x : InsA) : InsA :=
 if x.o ∈ ([1, 2, 4, 6, 14, 11, 12, 10, 13, 17] : List Int) then ⟨x.o, x.a, p, x.t⟩ else if x.o = 15 ∨ x.o = 16 then ⟨x.o, p, x.b, x.t⟩ else x
theorem qsk (p : Int) (x : InsA) : (ye p x).o = x.o := by unfold ye; split; rfl; split <;> rfl
theorem qn1 (p : Int) (x : InsA) : (ye p x).t = x.t := by unfold ye; split; rfl; split <;> rfl
def yk : List Tm → Nat → List InsA
 | [], _ => []
 | e :: l, at_ => qC e at_ ++ iz 14 0 0 :: yk l (at_ + (qC e at_).length + 1)
def qaF : List Tm → Nat → List InsA
 | [], _ => []
 | e :: l, at_ => iz 19 0 0 :: (qC e (at_ + 1) ++ qaF l (at_ + 1 + (qC e (at_ + 1)).length))
def zm : List Tm → Nat → List InsA
 | [], _ => []
 | e :: l, at_ => qC e at_ ++ qaF l (at_ + (qC e at_).length)
def vY (c : Cl) (at_ : Nat) : List InsA := (vV c.head []).1 ++ yk c.gs (at_ + (vV c.head []).1.length)
def qfB (c : Cl) (at_ : Nat) : List InsA := iz 18 0 0 :: (zm c.bs (at_ + (vY c at_).length + 1) ++ [iz 20 0 0])
def xY (c : Cl) (at_ : Nat) : List InsA := (vY c at_).map (ye ((at_ + (vY c at_).length + (qfB c at_).length : Nat) : Int)) ++ qfB c at_
def vA : List Cl → Nat → List InsA
 | [], _ => []
 | c :: l, at_ => xY c at_ ++ vA l (at_ + (xY c at_).length)
def wCl (c : Cl) : Nat := c.head.w + (wL c.gs + c.gs.length) + (wL c.bs + c.bs.length)
theorem qc7 : ∀ (l : List Tm) (i : Nat), (yk l i).length ≤ wL l + l.length
 | [], i => by simp [yk]
 | e :: l, i => by
  have h1 := yp e i
  have h2 := qc7 l (i + (qC e i).length + 1)
  rw [yk, qv]
  simp; omega
theorem qjJ : ∀ (l : List Tm) (i : Nat), (qaF l i).length ≤ wL l + l.length
 | [], i => by simp [qaF]
 | e :: l, i => by
  have h1 := yp e (i + 1)
  have h2 := qjJ l (i + 1 + (qC e (i + 1)).length)
  rw [qaF, qv]
  simp; omega
theorem qj3 (l : List Tm) (i : Nat) : (zm l i).length ≤ wL l + l.length := by
 cases l with
 | nil => simp [zm]
 | cons e l =>
  have h1 := yp e i
  have h2 := qjJ l (i + (qC e i).length)
  rw [zm, qv]
  simp; omega
theorem qdg (c : Cl) (i : Nat) : (xY c i).length ≤ wCl c + 2 := by
 have h1 := qgQ c.head []
 have h2 := qc7 c.gs (i + (vV c.head []).1.length)
 have h3 := qj3 c.bs (i + (vY c i).length + 1)
 unfold xY qfB wCl
 rw [qus, quI]
 unfold vY at *
 simp at h1 h2 h3 ⊢
 omega
theorem qfq (c : Cl) : wCl c + 2 ≤ 2 * (clT c).w := by
 have h1 := zJ c.gs
 have h2 := zJ c.bs
 have : (clT c).w = 1 + (c.head.w + ((qP c.gs).w + ((qP c.bs).w + 0))) := by
  rw [Tm.w_eq]
  show 1 + 0 + wL [c.head, qP c.gs, qP c.bs] = _
  simp only [qv, xp]
 unfold wCl
 omega
theorem qfo : ∀ (l : List Cl) (i : Nat), (vA l i).length ≤ 2 * wL (l.map clT)
 | [], i => by simp [vA]
 | c :: l, i => by
  have h1 := qdg c i
  have h2 := qfq c
  have h3 := qfo l (i + (xY c i).length)
  rw [vA, List.map_cons, qv]
  simp; omega
def qQ (B : Nat) (l : List InsA) : Prop := ∀ x ∈ l, x.o ≠ 20 ∧ x.t.w ≤ B
theorem qQ.app {B : Nat} {a b : List InsA} (ha : qQ B a) (hb : qQ B b) : qQ B (a ++ b) := fun x hx => (quA.1 hx).elim (ha x) (hb x)
theorem qQ.mono {B B' : Nat} {a : List InsA} (ha : qQ B a) (h : B ≤ B') : qQ B' a := fun x hx => ⟨(ha x hx).1, Nat.le_trans (ha x hx).2 h⟩
theorem zT_w : zT.w = 1 := by rw [Tm.w_mk]; simp
theorem qQ.z {B : Nat} (hB : 1 ≤ B) {o a b : Int} (ho : o ≠ 20) : qQ B [iz o a b] := fun x hx => by
 rw [List.mem_singleton] at hx
 subst hx
 exact ⟨ho, by show zT.w ≤ B; rw [zT_w]; exact hB⟩
theorem qQ.t {B : Nat} {t : Tm} (hB : t.w ≤ B) {o a b : Int} (ho : o ≠ 20) : qQ B [⟨o, a, b, t⟩] := fun x hx => by
 rw [List.mem_singleton] at hx
 subst hx
 exact ⟨ho, hB⟩
theorem qQ.nil {B : Nat} : qQ B [] := fun x hx => absurd hx (by simp)
theorem qm3 {l : List Tm} {B : Nat} (h : ∀ t ∈ l, ∀ i, qQ B (qC t i)) : ∀ i, qQ B (xE l i) := by
 induction l with
 | nil => intro i; rw [qcD]; exact qQ.nil
 | cons t l ih => intro i; rw [qbH]; exact (h t (by simp) i).app (ih (fun x hx => h x (by simp [hx])) _)
theorem ql6 : ∀ (n : Nat) (t : Tm), t.w ≤ n → ∀ i, qQ t.w (qC t i) := by
 intro n
 induction n with
 | zero => intro t h; have := t.w_eq; omega
 | succ n ih =>
  intro t h i
  have hw := t.w_eq
  have h1 : 1 ≤ t.w := by omega
  have hm : ∀ l : List Tm, wL l ≤ n → wL l ≤ t.w → ∀ j, qQ t.w (xE l j) := fun l hl hl' j => qm3 (fun x hx j => (ih x (by have := yv hx; omega) j).mono (by have := yv hx; omega)) j
  by_cases h2 : t.kind = 2
  ·rw [qd9 h2]
   split
   ·exact qQ.z h1 (by decide)
   ·split
    ·exact qQ.z h1 (by decide)
    ·split
     ·exact qQ.z h1 (by decide)
     ·exact qQ.t (qum _) (by decide)
  by_cases h9 : t.kind = 9
  ·rw [qd8 h9]
   exact (hm t.subs (by omega) (by omega) i).app (qQ.z h1 (by decide))
  by_cases h7 : t.kind = 7
  ·cases hl : t.subs with
   | nil =>
    obtain ⟨k, n', s, l⟩ := t
    simp only [Tm.kind_mk, Tm.subs_mk] at h7 hl
    subst h7 hl
    rw [qC.eq_def]
    exact qQ.nil
   | cons f r =>
    rw [hl, qv] at hw
    have hf := f.w_eq
    rw [qfh h7 hl]
    split
    ·exact (hm f.subs (by omega) (by omega) i).app (qQ.z h1 (by decide))
    ·split
     ·cases r with
      | nil => rw [qcq]; exact qQ.nil
      | cons c r => rw [qcq]; rw [qv] at hw; exact qQ.t (by omega) (by decide)
     ·have hz : ∀ o : Int, o ≠ 20 → qQ t.w (zd o r i) := by
       intro o ho
       match r with
       | [] => rw [zd]; exact qQ.nil
       | [a] => rw [zd, qkt]; exact qQ.nil
       | a :: b :: r =>
        rw [qe2, qdR]
        rw [qv, qv] at hw
        have ha := (ih a (by omega) i).mono (show a.w ≤ t.w by omega)
        have hb := (ih b (by omega) (i + (qC a i).length + 1)).mono (show b.w ≤ t.w by omega)
        exact ha.app ((qQ.z h1 ho).app (hb.app (qQ.z h1 (by decide))))
      split
      ·exact hz _ (by decide)
      ·split
       ·exact hz _ (by decide)
       ·exact (hm r (by omega) (by omega) i).app (qQ.t (by omega) (by decide))
  rw [qdc h2 h9 h7]
  exact qQ.t (qum _) (by decide)
theorem qdb (t : Tm) (i : Nat) : qQ t.w (qC t i) := ql6 t.w t (qum _) i
theorem qlW : ∀ (n : Nat) (t : Tm), t.w ≤ n → ∀ V, qQ t.w (vV t V).1 := by
 intro n
 induction n with
 | zero => intro t h; have := t.w_eq; omega
 | succ n ih =>
  intro t h V
  have hw := t.w_eq
  have h1 : 1 ≤ t.w := by omega
  have hm : ∀ l : List Tm, wL l ≤ n → wL l ≤ t.w → ∀ V, qQ t.w (xh l V).1 := by
   intro l
   induction l with
   | nil => intro _ _ V; rw [qd4]; exact qQ.nil
   | cons x l ihl =>
    intro hl hl' V
    rw [qv] at hl hl'
    rw [qc6]
    exact ((ih x (by omega) V).mono (by omega)).app (ihl (by omega) (by omega) (vV x V).2)
  have h2 := hm t.subs (by omega) (by omega) V
  rw [qgR]
  split
  ·split <;> exact qQ.z h1 (by decide)
  ·split
   ·exact qQ.z h1 (by decide)
   ·split
    ·exact (qQ.z (o := 1) h1 (by decide)).app h2
    ·split
     ·exact (qQ.z (o := 2) h1 (by decide)).app h2
     ·exact qQ.t (qum _) (by decide)
theorem qni (t : Tm) (V : List Int) : qQ t.w (vV t V).1 := qlW t.w t (qum _) V
theorem qer {B : Nat} (h1 : 1 ≤ B) : ∀ (l : List Tm) (i : Nat), wL l ≤ B → qQ B (yk l i)
 | [], i, _ => by rw [yk]; exact qQ.nil
 | e :: l, i, h => by
  rw [qv] at h
  rw [yk]
  exact ((qdb e i).mono (by omega)).app ((qQ.z h1 (by decide)).app (qer h1 l _ (by omega)))
theorem qgf {B : Nat} (h1 : 1 ≤ B) : ∀ (l : List Tm) (i : Nat), wL l ≤ B → qQ B (qaF l i)
 | [], i, _ => by rw [qaF]; exact qQ.nil
 | e :: l, i, h => by
  rw [qv] at h
  rw [qaF]
  exact (qQ.z (o := 19) h1 (by decide)).app (((qdb e _).mono (by omega)).app (qgf h1 l _ (by omega)))
theorem qgx {B : Nat} (h1 : 1 ≤ B) (l : List Tm) (i : Nat) (h : wL l ≤ B) : qQ B (zm l i) := by
 cases l with
 | nil => rw [zm]; exact qQ.nil
 | cons e l =>
  rw [qv] at h
  rw [zm]
  exact ((qdb e i).mono (by omega)).app (qgf h1 l _ (by omega))
theorem qfs (c : Cl) (i : Nat) : qQ (wCl c) (vY c i) := by
 have h1 := c.head.w_eq
 unfold vY wCl
 exact ((qni c.head []).mono (by omega)).app (qer (by omega) _ _ (by omega))
def zb (l : List InsA) : Nat := (l.filter fun x => decide (x.o = 20)).length
theorem qbl (a b : List InsA) : zb (a ++ b) = zb a + zb b := by simp [zb]
theorem qcT {B : Nat} {l : List InsA} (h : qQ B l) : zb l = 0 := by
 unfold zb
 rw [List.length_eq_zero_iff, List.filter_eq_nil_iff]
 intro x hx
 simp [(h x hx).1]
theorem qkj (c : Cl) (i : Nat) : zb (xY c i) = 1 := by
 unfold xY qfB
 have h1 : 1 ≤ wCl c := by have := c.head.w_eq; unfold wCl; omega
 have e1 : qQ (wCl c) ((vY c i).map (ye ((i + (vY c i).length + (iz 18 0 0 :: (zm c.bs (i + (vY c i).length + 1) ++ [iz 20 0 0])).length : Nat) : Int))) := by
  intro x hx
  obtain ⟨y, hy, rfl⟩ := List.mem_map.1 hx
  rw [qsk, qn1]
  exact qfs c i y hy
 have e2 : zb (iz 18 0 0 :: (zm c.bs (i + (vY c i).length + 1) ++ [iz 20 0 0])) = 1 := by
  rw [show iz 18 0 0 :: (zm c.bs (i + (vY c i).length + 1) ++ [iz 20 0 0]) = [iz 18 0 0] ++ (zm c.bs (i + (vY c i).length + 1) ++ [iz 20 0 0]) from rfl, qbl, qbl, qcT (qQ.z (B := 1) (by omega) (by decide)), qcT (qgx h1 c.bs _ (by unfold wCl; omega))]
  rfl
 rw [qbl, e2]
 show zb (List.map _ _) + 1 = 1
 unfold qfB at e1
 rw [qcT e1]
theorem qde : ∀ (l : List Cl) (i : Nat), zb (vA l i) = l.length
 | [], i => rfl
 | c :: l, i => by rw [vA, qbl, qkj, qde l]; simp; omega
theorem qjk : ∀ (l : List Cl) (i : Nat) (B : Nat), (∀ c ∈ l, wCl c ≤ B) → ∀ x ∈ vA l i, x.t.w ≤ B
 | [], i, B, _, x, hx => absurd hx (by simp [vA])
 | c :: l, i, B, h, x, hx => by
  have h0 := h c (by simp)
  have h1 : 1 ≤ wCl c := by have := c.head.w_eq; unfold wCl; omega
  rw [vA] at hx
  rcases quA.1 hx with hx | hx
  ·unfold xY at hx
   rcases quA.1 hx with hx | hx
   ·obtain ⟨y, hy, rfl⟩ := List.mem_map.1 hx
    rw [qn1]
    have := (qfs c i y hy).2
    omega
   ·unfold qfB at hx
    rcases quH.1 hx with rfl | hx
    ·show zT.w ≤ B; rw [zT_w]; omega
    ·rcases quA.1 hx with hx | hx
     ·have := (qgx h1 c.bs _ (by unfold wCl; omega) x hx).2
      omega
     ·rw [List.mem_singleton] at hx
      subst hx
      show zT.w ≤ B; rw [zT_w]; omega
  ·exact qjk l _ B (fun c hc => h c (by simp [hc])) x hx
noncomputable def qsy : Den := evC cfg (EV cfg) 51 none 2 (sub (ql Tryz.f51) [1, 1, 1, 0, 1, 0, 0])
noncomputable def qsE : Ex × List AV × AH → Option (AV × AH) := kAft (Cfg.keepOut cfg 51 (qg (sub (ql Tryz.f51) [1, 1, 1, 0, 1, 0, 0]))) (xu 0 (kSeq (fun (fr : List AV) (H : AH) => yZ (Cfg.cut cfg 51 (qg (sub (ql Tryz.f51) [1, 1, 1, 1]))) fr H fun (fr : List AV) (H : AH) => vB cfg (EV cfg) (kfN cfg 6) 51 none 2 (sub (ql Tryz.f51) [1, 1, 1, 1]) fr H (qfM cfg 1 (Cfg.lift cfg 51 0) (Array.toList (Func.results Tryz.f51)))) (qfM cfg 1 (Cfg.lift cfg 51 0) (Array.toList (Func.results Tryz.f51)))))
noncomputable def qss : List AV × AH → Option (AV × AH) := fun (p : List AV × AH) => kOpt (LOOP 2 (some [0, 3, 4, 20, 21, 22]) [] qsy p) qsE
noncomputable def qsx : Den := evC cfg (EV cfg) 51 none 2 (sub (ql Tryz.f51) [1, 1, 1, 1, 1, 0, 1, 0, 0])
noncomputable def qsD : Ex × List AV × AH → Option (AV × AH) := kAft (Cfg.keepOut cfg 51 11) (kRun cfg (EV cfg) (kfN cfg 6) 51 none 2 (qfM cfg 1 (Cfg.lift cfg 51 0) Tryz.f51.results.toList) ([.block 2, .seq (sub (ql Tryz.f51) [1, 1, 1, 1, 1, 1])]))
noncomputable def qsr : List AV × AH → Option (AV × AH) := fun p => kOpt (LOOP 2 (some [0, 4, 7, 37, 38, 39]) ([]) qsx p) qsD
noncomputable abbrev qfA (ins gs : Rz) (v22 : Int) (nc0_0 : Nat) (c2_0 c2_1 : Int) (c2_2 : Bz) (c2_3 c2_4 c2_5 h3 : Rz) : Option (AV × AH) := qss  (((fx 69 [(0, .ptr 0 0 0), (3, .ptr 2 0 0), (4, .int .i64 (ins.length : Int)), (20, .sl gs), (21, .int .i64 (gs.length : Int)), (22, .int .i64 v22)]) : List AV), ([.rows false 1 [[.ms 3 0 nc0_0]], .dead, .rows false 6 [[.int .i64 c2_0, .int .i64 c2_1, .str c2_2, .sl c2_3, .sl c2_4, .sl c2_5]], .rows true 7 h3] : AH))
noncomputable abbrev zt (ins c2_5 : Rz) (n v39 : Int) (nc0_0 : Nat) (h2 : Rz) : Option (AV × AH) := qsr  (((fx 69 [(0, .ptr 0 0 0), (4, .int .i64 (ins.length : Int)), (7, .int .i64 n), (37, .sl c2_5), (38, .int .i64 (c2_5.length : Int)), (39, .int .i64 v39)]) : List AV), ([.rows false 1 [[.ms 2 0 nc0_0]], .dead, .rows true 7 h2] : AH))
theorem qmi (ins : Rz) (hk hn : Int) (hw : Bz) (hl gs bs : Rz) {P : AV × AH → Prop} (h : Gets (kOpt (EVj (EV cfg) 107 1 [.ptr 0 0 0, .agg [.int .i64 hk, .int .i64 hn, .str hw, .sl hl]] [.rows false 1 [[.ms 1 0 (qug ins)]], .rows true 7 ins]) fun q => qq q.2 fun b bs_1 => qr b fun d' n rs => bif beqB false d' && qun n 1 then qS rs fun row rest => vg rest (qq bs_1 fun b bs_2 => qr b fun d' n rs => bif beqB true d' && qun n 7 then vw bs_2 (qc row fun c cs => kMsE c fun id off len => bif qun id 1 && (qun off 0 && qun len (qug rs)) then kNil cs (qfA ins gs 0 (qug rs) hk hn hw hl gs bs rs) else none) else none) else none) P) : Gets (EVj (EV cfg) 51 1 [.ptr 0 0 0, .agg [.int .i64 hk, .int .i64 hn, .str hw, .sl hl, .sl gs, .sl bs]] ([ABlk.rows false (1 : Nat) [[AV.ms (1 : Nat) (0 : Nat) (qug ins)]], ABlk.rows true (7 : Nat) ins] : AH)) P :=
  gE (fun _ => funJ rfl rfl Tryz.func51 rfl) (by kernel_rfl) h
theorem qeD (ins gs : Rz) (v22 : Int) (nc0_0 : Nat) (c2_0 c2_1 : Int) (c2_2 : Bz) (c2_3 c2_4 c2_5 h3 : Rz) {P : AV × AH → Prop} (h : Gets (bif decide (v22 < (gs.length : Int)) then bif qj 0 v22 && qp v22 (gs.length : Int) then kOpt (qul gs (v22.toNat)) fun row => bif qun (qug row) 4 then bif quw 4 (qug row) then kTmC (qux 4 row) fun n n_1 s rows => (kOpt (EVj (EV cfg) 57 1 [.ptr 0 0 0, .agg [.int .i64 n, .int .i64 n_1, .str s, .sl rows]] [.rows false 1 [[.ms 1 0 nc0_0]], .rows true 7 h3]) fun q => qq q.2 fun b bs => qr b fun d' n rs => bif beqB false d' && qun n 1 then qS rs fun row rest => vg rest (qq bs fun b bs => qr b fun d' n rs => bif beqB true d' && qun n 7 then vw bs (qc row fun c cs => kMsE c fun id off len => bif qun id 1 && (qun off 0 && qun len (qug rs)) then kNil cs (kOpt (EVj (EV cfg) 108 1 [.ptr 0 0 0, AV.agg [.int .i64 14, .int .i64 0, .int .i64 0, .int .i64 0, .int .i64 0, .str [], .sl []]] [.rows false 1 [[.ms 1 0 (qug rs)]], .rows true 7 rs]) fun q => qq q.2 fun b bs => qr b fun d' n rs => bif beqB false d' && qun n 1 then qS rs fun row rest => vg rest (qq bs fun b bs => qr b fun d' n rs => bif beqB true d' && qun n 7 then vw bs (qc row fun c cs => kMsE c fun id off len => bif qun id 1 && (qun off 0 && qun len (qug rs)) then kNil cs (kInt .i64 q.1 fun n => qfA ins gs (IntKind.wrap .i64 (v22 + 1)) (qug rs) c2_0 c2_1 c2_2 c2_3 c2_4 c2_5 rs) else none) else none) else none) else none) else none) else none) else none else none else none else kOpt (EVj (EV cfg) 108 1 [.ptr 0 0 0, .agg [.int .i64 18, .int .i64 0, .int .i64 0, .int .i64 0, .int .i64 0, .str [], .sl []]] [.rows false 1 [[.ms 1 0 nc0_0]], .rows true 7 h3]) fun q => qq q.2 fun b bs => qr b fun d' n rs => bif beqB false d' && qun n 1 then qS rs fun row rest => vg rest (qq bs fun b bs => qr b fun d' n rs => bif beqB true d' && qun n 7 then vw bs (qc row fun c cs => kMsE c fun id off len => bif qun id 1 && (qun off 0 && qun len (qug rs)) then kNil cs (kInt .i64 q.1 fun n => zt ins c2_5 n 0 (qug rs) rs) else none) else none) else none) P) : Gets (qfA ins gs v22 nc0_0 c2_0 c2_1 c2_2 c2_3 c2_4 c2_5 h3) P :=
  gE (fun _ => qB (cfg := cfg) (f := 51) (rd := none) (bs := 2)) (by kernel_rfl) h
theorem qb6 (ins c2_5 : Rz) (n v39 : Int) (nc0_0 : Nat) (h2 : Rz) {P : AV × AH → Prop} (h : Gets (bif decide (v39 < (c2_5.length : Int)) then bif qj 0 v39 && qp v39 (c2_5.length : Int) then kOpt (qul c2_5 (v39.toNat)) fun row => bif qun (qug row) 4 then bif quw 4 (qug row) then kTmC (qux 4 row) fun n_1 n_2 s rows => (bif decide (v39 > 0) then kOpt (EVj (EV cfg) 108 1 [.ptr 0 0 0, AV.agg [.int .i64 19, .int .i64 0, .int .i64 0, .int .i64 0, .int .i64 0, .str [], .sl []]] [.rows false 1 [[.ms 1 0 nc0_0]], .rows true 7 h2]) fun q => qq q.2 fun b bs => qr b fun d' n_3 rs => bif beqB false d' && qun n_3 1 then qS rs fun row rest => vg rest (qq bs fun b bs => qr b fun d' n_4 rs => bif beqB true d' && qun n_4 7 then vw bs (qc row fun c cs => kMsE c fun id off len => bif qun id 1 && (qun off 0 && qun len (qug rs)) then kNil cs (kInt .i64 q.1 fun n_5 => kOpt (EVj (EV cfg) 57 1 [.ptr 0 0 0, .agg [.int .i64 n_1, .int .i64 n_2, .str s, .sl rows]] [.rows false 1 [[.ms 1 0 (qug rs)]], .rows true 7 rs]) fun q => qq q.2 fun b bs => qr b fun d' n_6 rs => bif beqB false d' && qun n_6 1 then qS rs fun row rest => vg rest (qq bs fun b bs => qr b fun d' n_7 rs => bif beqB true d' && qun n_7 7 then vw bs (qc row fun c cs => kMsE c fun id off len => bif qun id 1 && (qun off 0 && qun len (qug rs)) then kNil cs (zt ins c2_5 n (IntKind.wrap .i64 (v39 + 1)) (qug rs) rs) else none) else none) else none) else none) else none) else none else kOpt (EVj (EV cfg) 57 1 [.ptr 0 0 0, .agg [.int .i64 n_1, .int .i64 n_2, .str s, .sl rows]] [.rows false 1 [[.ms 1 0 nc0_0]], .rows true 7 h2]) fun q => qq q.2 fun b bs => qr b fun d' n_3 rs => bif beqB false d' && qun n_3 1 then qS rs fun row rest => vg rest (qq bs fun b bs => qr b fun d' n_4 rs => bif beqB true d' && qun n_4 7 then vw bs (qc row fun c cs => kMsE c fun id off len => bif qun id 1 && (qun off 0 && qun len (qug rs)) then kNil cs (zt ins c2_5 n (IntKind.wrap .i64 (v39 + 1)) (qug rs) rs) else none) else none) else none) else none else none else none else kOpt (EVj (EV cfg) 108 1 [.ptr 0 0 0, .agg [.int .i64 20, .int .i64 0, .int .i64 0, .int .i64 0, .int .i64 0, .str [], .sl []]] [.rows false 1 [[.ms 1 0 nc0_0]], .rows true 7 h2]) fun q => qq q.2 fun b bs => qr b fun d' n_1 rs => bif beqB false d' && qun n_1 1 then qS rs fun row rest => vg rest (qq bs fun b bs => qr b fun d' n_2 rs => bif beqB true d' && qun n_2 7 then vw bs (qc row fun c cs => kMsE c fun id off len => bif qun id 1 && (qun off 0 && qun len (qug rs)) then kNil cs (kInt .i64 q.1 fun n_3 => bif qj 0 n && qj n (rs.length : Int) then bif qj 0 (ins.length : Int) && qj (ins.length : Int) (↑ (n.toNat) : Int) then kOpt (EVm (EV cfg) 109 [.ms 0 (0 + quG (ins.length : Int)) (quG n - quG (ins.length : Int)), .int .i64 (rs.length : Int)] 7 rs) fun q => qbq q.1 (some (AV.tup [], [.rows false 1 [[.ms 1 0 (qug rs)]], .rows true 7 q.2])) else none else none) else none) else none) else none) P) : Gets (zt ins c2_5 n v39 nc0_0 h2) P :=
  gE (fun _ => qB (cfg := cfg) (f := 51) (rd := none) (bs := 2)) (by kernel_rfl) h
noncomputable def qsv : Den := evC cfg (EV cfg) 52 none 0 (sub (ql Tryz.f52) [1, 1, 0, 1, 0, 0])
noncomputable def qsB : Ex × List AV × AH → Option AV := kAft (Cfg.keepOut cfg 52 3) (kRun cfg (EV cfg) (kfN cfg 6) 52 none 0 (yR cfg (Cfg.lift cfg 52 0) Tryz.f52.results.toList) ([.block 0, .seq (sub (ql Tryz.f52) [1, 1, 1])]))
noncomputable def qn5 : List AV × AH → Option AV := fun p => kOpt (LOOP 0 (some [3, 8, 9]) ([]) qsv p) qsB
noncomputable def qsw : Den := evC cfg (EV cfg) 20 none 0 (sub (ql Tryz.f20) [1, 1, 1, 1, 0, 1, 0, 0])
noncomputable def qsC : Ex × List AV × AH → Option AV := kAft (Cfg.keepOut cfg 20 6) (kRun cfg (EV cfg) (kfN cfg 6) 20 none 0 (yR cfg (Cfg.lift cfg 20 0) Tryz.f20.results.toList) ([.block 0, .seq (sub (ql Tryz.f20) [1, 1, 1, 1, 1])]))
noncomputable def qn6 : List AV × AH → Option AV := fun p => kOpt (LOOP 0 (some [6, 19, 20, 21]) ([]) qsw p) qsC
noncomputable def qrN : Den := evC cfg (EV cfg) 109 none 1 (sub (ql Tryz.f109) [1, 0, 0])
noncomputable def qrS : Ex × List AV × AH → Option (MV × List (List AV)) := kAft (Cfg.keepOut cfg 109 1) (kRun cfg (EV cfg) (kfN cfg 6) 109 none 1 (qr2 cfg 7 (Cfg.lift cfg 109 0) Tryz.f109.results.toList) ([.block 0]))
noncomputable def qrL : List AV × AH → Option (MV × List (List AV)) := fun p => kOpt (LOOP 1 (some [0, 1, 6, 7]) ([]) qrN p) qrS
noncomputable abbrev qr6 (v9 : Int) : Option (AV) := qn5  (((fx 24 [(3, .nilS), (8, .int .i64 (0 : Int)), (9, .int .i64 v9)]) : List AV), ([] : AH))
noncomputable abbrev qdH (sz off len : Nat) (v9 : Int) (h0 : Rz) : Option (AV) := qn5  (((fx 24 [(3, .ms 0 off len), (8, .int .i64 (↑len : Int)), (9, .int .i64 v9)]) : List AV), ([.rows true sz h0] : AH))
noncomputable abbrev qnH (rows : Rz) (v21 : Int) : Option (AV) := qn6  (((fx 34 [(6, .ptr 0 0 0), (19, .sl rows), (20, .int .i64 (rows.length : Int)), (21, .int .i64 v21)]) : List AV), ([.rows false 1 [[.nilS]]] : AH))
noncomputable abbrev qam (off nn : Nat) (p v7 : Int) (h0 : Rz) : Option (MV × List (List AV)) := qrL  (((fx 40 [(0, .ms 0 off nn), (1, .int .i64 p), (6, .int .i64 (↑nn : Int)), (7, .int .i64 v7)]) : List AV), ([.rows true 7 h0] : AH))
noncomputable abbrev qgE (rows : Rz) (v21 : Int) (nc0_0 : Nat) (h1 : Rz) : Option (AV) := qn6  (((fx 34 [(6, .ptr 0 0 0), (19, .sl rows), (20, .int .i64 (rows.length : Int)), (21, .int .i64 v21)]) : List AV), ([.rows false 1 [[.ms 1 0 nc0_0]], .rows true 7 h1] : AH))
theorem qqy (l : Rz) {P : AV → Prop} (h : Gets (kOpt (EVo (EV cfg) 110 [.sl l]) fun o => kOwn o (qr6 0) fun sz rs off len => qdH sz off len 0 rs) P) : Gets (EVf (EV cfg) 52 [.sl l]) P :=
  gE (fun _ => funF rfl rfl Tryz.func52 rfl) (by kernel_rfl) h
theorem qeu (k n : Int) (s : Bz) (l : Rz) {P : AV → Prop} (h : Gets (kOpt (EVf (EV cfg) 26 [.agg [.int .i64 k, .int .i64 n, .str s, .sl l]]) fun v => kTup v fun cs => qc cs fun c cs => kSl c fun rows => qc cs fun c cs => kInt .i64 c fun n => kNil cs (bif n != 0 then some (AV.tup [.sl [], .int .i64 n]) else qnH rows 0)) P) : Gets (EVf (EV cfg) 20 [.agg [.int .i64 k, .int .i64 n, .str s, .sl l]]) P :=
  gE (fun _ => funF rfl rfl Tryz.func20 rfl) (by kernel_rfl) h
theorem qns (rows : Rz) (off nn : Nat) (p : Int) {P : MV × List (List AV) → Prop} (h : Gets (qam off nn p 0 rows) P) : Gets (EVm (EV cfg) 109 [.ms 0 off nn, .int .i64 p] 7 rows) P :=
  gE (fun _ => funM rfl rfl Tryz.func109 rfl) (by kernel_rfl) h
theorem qeg (sz off len : Nat) (v9 : Int) (h0 : Rz) {P : AV → Prop} (h : Gets (bif decide (v9 < (↑ len : Int)) then bif qun sz 7 && qj 0 v9 && qp v9 (↑ len : Int) then kOpt (qul h0 (off + v9.toNat)) fun row => bif quw 7 (qug row) then qc (qux 4 (quN 3 row)) fun c cs => kInt .i64 c fun n => qc cs fun c cs => kInt .i64 c fun n_1 => qc cs fun c cs => kStr c fun s => qc cs fun c cs => kSl c fun rows => kNil cs (kOpt (EVf (EV cfg) 40 [.agg [.int .i64 n, .int .i64 n_1, .str s, .sl rows]]) fun v => kTmV v fun n n_2 s rows => (bif qun sz 7 && qj 0 v9 && qp v9 (↑ len : Int) then kOpt (qul h0 (off + v9.toNat)) fun row => bif quw 7 (qug row) then qdH sz off len (IntKind.wrap .i64 (v9 + 1)) (List.set h0 (off + v9.toNat) (quD (quD (qux 3 row) [AV.int .i64 n, .int .i64 n_2, .str s, .sl rows]) (quN 7 row))) else none else none)) else none else none else bif quw (off + len) (qug h0) && true then some (.sl (qux len (quN off h0))) else none) P) : Gets (qdH sz off len v9 h0) P :=
  gE (fun _ => qB (cfg := cfg) (f := 52) (rd := none) (bs := 0)) (by kernel_rfl) h
noncomputable abbrev zx4 (rest : Rz) (bs : AH) (row : List AV) (rows : Rz) (v21 : Int) : Option (AV) := vg rest (qq bs fun b bs => qr b fun d' n rs => bif beqB true d' && qun n 7 then vw bs (qc row fun c cs => kMsE c fun id off len => bif qun id 1 && (qun off 0 && qun len (qug rs)) then kNil cs (qgE rows (IntKind.wrap .i64 (v21 + 1)) (qug rs) rs) else none) else none)
noncomputable abbrev zx3 (rs : Rz) (bs : AH) (rows : Rz) (v21 : Int) : Option (AV) := qS rs fun row rest => zx4 rest bs row rows v21
noncomputable abbrev zx2 (d' : Bool) (n : Nat) (rs : Rz) (bs : AH) (rows : Rz) (v21 : Int) : Option (AV) := bif beqB false d' && qun n 1 then zx3 rs bs rows v21 else none
noncomputable abbrev zx1 (b : ABlk) (bs : AH) (rows : Rz) (v21 : Int) : Option (AV) := qr b fun d' n rs => zx2 d' n rs bs rows v21
noncomputable abbrev zx0 (q : AV × AH) (rows : Rz) (v21 : Int) : Option (AV) := qq q.2 fun b bs => zx1 b bs rows v21
theorem qk0 (rows : Rz) (v21 : Int) {P : AV → Prop} (h : Gets (bif decide (v21 < (rows.length : Int)) then bif qj 0 v21 && qp v21 (rows.length : Int) then kOpt (qul rows (v21.toNat)) fun row => bif qun (qug row) 6 then bif quw 6 (qug row) then qc (qux 6 row) fun c cs => kInt .i64 c fun n => qc cs fun c cs => kInt .i64 c fun n_1 => qc cs fun c cs => kStr c fun s => qc cs fun c cs => kSl c fun rows_1 => qc cs fun c cs => kSl c fun rows_2 => qc cs fun c cs => kSl c fun rows_3 => kNil cs (kOpt (EVj (EV cfg) 51 1 [.ptr 0 0 0, .agg [.int .i64 n, .int .i64 n_1, .str s, .sl rows_1, .sl rows_2, .sl rows_3]] [.rows false 1 [[.ms 1 0 0]], .rows true 7 []]) fun q => zx0 q rows v21) else none else none else none else kOpt (EVf (EV cfg) 52 [.sl []]) fun v => kSl v fun rows => some (AV.tup [.sl rows, .int .i64 0])) P) : Gets (qnH rows v21) P :=
  gE (fun _ => qB (cfg := cfg) (f := 20) (rd := none) (bs := 0)) (by kernel_rfl) h
noncomputable abbrev zx6 (off nn : Nat) (p v7 : Int) (h0 : Rz) (row : List AV) : Option (MV × List (List AV)) := qam off nn p (IntKind.wrap .i64 (v7 + 1)) (List.set h0 (off + v7.toNat) (quD (quD (qux 2 row) [AV.int .i64 p]) (quN 3 row)))
noncomputable abbrev zx5 (row : List AV) (off nn : Nat) (p v7 : Int) (h0 : Rz) : Option (MV × List (List AV)) := bif quw 3 (qug row) then zx6 off nn p v7 h0 row else none
noncomputable abbrev zx8 (h0 : Rz) (off : Nat) (v7 : Int) (nn : Nat) (p : Int) : Option (MV × List (List AV)) := kOpt (qul h0 (off + quG v7)) fun row => zx5 row off nn p v7 h0
noncomputable abbrev zx7 (v7 : Int) (nn : Nat) (h0 : Rz) (off : Nat) (p : Int) : Option (MV × List (List AV)) := bif qj 0 v7 && qp v7 (↑ nn : Int) then zx8 h0 off v7 nn p else none
noncomputable abbrev zx10 (h0 : Rz) (off : Nat) (v7 : Int) (nn : Nat) (p : Int) : Option (MV × List (List AV)) := kOpt (qul h0 (off + quG v7)) fun row => bif quw 2 (qug row) then qam off nn p (IntKind.wrap .i64 (v7 + 1)) (List.set h0 (off + v7.toNat) (quD (quD (qux 1 row) [AV.int .i64 p]) (quN 2 row))) else none
noncomputable abbrev zx9 (v7 : Int) (nn : Nat) (h0 : Rz) (off : Nat) (p : Int) : Option (MV × List (List AV)) := bif qj 0 v7 && qp v7 (↑ nn : Int) then zx10 h0 off v7 nn p else none
theorem qei (off nn : Nat) (p v7 : Int) (h0 : Rz) {P : MV × List (List AV) → Prop} (h : Gets (bif decide (v7 < (↑ nn : Int)) then bif qj 0 v7 && qp v7 (↑ nn : Int) then kOpt (qul h0 (off + v7.toNat)) fun row => kOpt (qul row 0) fun v => kInt .i64 v fun n => bif n == 1 then bif qj 0 v7 && qp v7 (↑ nn : Int) then kOpt (qul h0 (off + v7.toNat)) fun row => zx5 row off nn p v7 h0 else none else bif n == 2 then zx7 v7 nn h0 off p else bif n == 4 then zx7 v7 nn h0 off p else bif n == 6 then zx7 v7 nn h0 off p else bif n == 14 then zx7 v7 nn h0 off p else bif n == 11 then zx7 v7 nn h0 off p else bif n == 12 then zx7 v7 nn h0 off p else bif n == 10 then zx7 v7 nn h0 off p else bif n == 13 then zx7 v7 nn h0 off p else bif n == 17 then zx7 v7 nn h0 off p else bif n == 15 then zx9 v7 nn h0 off p else bif n == 16 then zx9 v7 nn h0 off p else qam off nn p (IntKind.wrap .i64 (v7 + 1)) h0 else none else some (MV.unit, h0)) P) : Gets (qam off nn p v7 h0) P :=
  gE (fun _ => qB (cfg := cfg) (f := 109) (rd := none) (bs := 1)) (by kernel_rfl) h
theorem qeh (rows : Rz) (v21 : Int) (nc0_0 : Nat) (h1 : Rz) {P : AV → Prop} (h : Gets (bif decide (v21 < (rows.length : Int)) then bif qj 0 v21 && qp v21 (rows.length : Int) then kOpt (qul rows (v21.toNat)) fun row => bif qun (qug row) 6 then bif quw 6 (qug row) then qc (qux 6 row) fun c cs => kInt .i64 c fun n => qc cs fun c cs => kInt .i64 c fun n_1 => qc cs fun c cs => kStr c fun s => qc cs fun c cs => kSl c fun rows_1 => qc cs fun c cs => kSl c fun rows_2 => qc cs fun c cs => kSl c fun rows_3 => kNil cs (kOpt (EVj (EV cfg) 51 1 [.ptr 0 0 0, .agg [.int .i64 n, .int .i64 n_1, .str s, .sl rows_1, .sl rows_2, .sl rows_3]] [.rows false 1 [[.ms 1 0 nc0_0]], .rows true 7 h1]) fun q => zx0 q rows v21) else none else none else none else bif quw (0 + nc0_0) (qug h1) && true then kOpt (EVf (EV cfg) 52 [.sl (qux nc0_0 h1)]) fun v => kSl v fun rows => some (AV.tup [.sl rows, .int .i64 0]) else none) P) : Gets (qgE rows v21 nc0_0 h1) P :=
  gE (fun _ => qB (cfg := cfg) (f := 20) (rd := none) (bs := 0)) (by kernel_rfl) h
theorem qmh (p : Int) (A C : List InsA) : ∀ (B D : List InsA) (nn : Nat), nn = D.length + B.length → nn < 1099511627776 →
  Gets (qam A.length nn p (D.length : Int) (qe ((A ++ D) ++ (B ++ C)))) (· = (MV.unit, qe ((A ++ D) ++ (B.map (ye p) ++ C)))) := by
 intro B
 induction B with
 | nil =>
  intro D nn hn hl
  refine qei _ _ _ _ _ ?_
  unfold zx9 zx10 zx7 zx8 zx5 zx6
  rw [decide_eq_false (show ¬ ((D.length : Int) < (nn : Int)) by rw [hn]; simp), cond_false]
  exact ⟨_, rfl, rfl⟩
 | cons x B ih =>
  intro D nn hn hl
  rw [quM] at hn
  refine qei _ _ _ _ _ ?_
  unfold zx9 zx10 zx7 zx8 zx5 zx6
  have e0 : decide ((D.length : Int) < (nn : Int)) = true := decide_eq_true (by omega)
  have e1 : (qj 0 (D.length : Int) && qp (D.length : Int) (nn : Int)) = true := by
   rw [vq, xT, decide_eq_true (by omega)]; rfl
  have e2 : qul (qe ((A ++ D) ++ (x :: B ++ C))) (A.length + quG (D.length : Int)) = some x.row := by
   rw [quE, ← qus]
   exact qjG (A ++ D) (B ++ C) x
  have e3 : qul x.row 0 = some (.int .i64 x.o) := rfl
  have e4 : ∀ y : InsA, List.set (qe ((A ++ D) ++ (x :: B ++ C))) (A.length + quG (D.length : Int)) y.row = qe ((A ++ (D ++ [y])) ++ (B ++ C)) := by
   intro y
   rw [quE, ← qus]
   rw [show (A ++ (D ++ [y])) ++ (B ++ C) = (A ++ D) ++ y :: (B ++ C) by simp]
   exact qjF (A ++ D) (B ++ C) x y
  have e5 : quD (quD (qux 2 x.row) [AV.int .i64 p]) (quN 3 x.row) = (⟨x.o, x.a, p, x.t⟩ : InsA).row := rfl
  have e6 : quD (quD (qux 1 x.row) [AV.int .i64 p]) (quN 2 x.row) = (⟨x.o, p, x.b, x.t⟩ : InsA).row := rfl
  have ew : IntKind.wrap .i64 ((D.length : Int) + 1) = ((D.length + 1 : Nat) : Int) := vr (n := nn) (by omega) hl
  have hy : ∀ y : InsA, y = ye p x → Gets (qam A.length nn p ((D.length + 1 : Nat) : Int) (qe ((A ++ (D ++ [y])) ++ (B ++ C)))) (· = (MV.unit, qe ((A ++ D) ++ ((x :: B).map (ye p) ++ C)))) := by
   rintro y rfl
   have := ih (D ++ [ye p x]) nn (by simp; omega) hl
   rw [show (D ++ [ye p x]).length = D.length + 1 by simp, show A ++ (D ++ [ye p x]) ++ (List.map (ye p) B ++ C) = (A ++ D) ++ ((x :: B).map (ye p) ++ C) by simp] at this
   exact this
  simp only [e0, e1, e2, e3, e5, e6, e4, ew, InsA.row_len, show quw 3 7 = true from rfl, show quw 2 7 = true from rfl, qf, cond_true, qn]
  by_cases h : x.o ∈ ([1, 2, 4, 6, 14, 11, 12, 10, 13, 17] : List Int)
  ·have hf := hy ⟨x.o, x.a, p, x.t⟩ (by unfold ye; rw [if_pos h])
   simp only [quH, List.not_mem_nil, or_false] at h
   rcases h with h | h | h | h | h | h | h | h | h | h <;> · rw [h] at hf ⊢; exact hf
  ·by_cases h' : x.o = 15 ∨ x.o = 16
   ·have hf := hy ⟨x.o, p, x.b, x.t⟩ (by unfold ye; rw [if_neg h, if_pos h'])
    rcases h' with h' | h' <;> · rw [h'] at hf ⊢; exact hf
   ·have hf := hy x (by unfold ye; rw [if_neg h, if_neg h'])
    simp only [quH, List.not_mem_nil, or_false, not_or] at h h'
    obtain ⟨h1, h2, h3, h4, h5, h6, h7, h8, h9, h10⟩ := h
    obtain ⟨h11, h12⟩ := h'
    simp only [beqI, h1, h2, h3, h4, h5, h6, h7, h8, h9, h10, h11, h12, decide_false, cond_false]
    rw [show qe ((A ++ (D ++ [x])) ++ (B ++ C)) = qe ((A ++ D) ++ (x :: B ++ C)) by simp] at hf
    exact hf
theorem qpe (p : Int) (A B C : List InsA) (h : B.length < 1099511627776) : EVm (EV cfg) 109 [.ms 0 A.length B.length, .int .i64 p] 7 (qe (A ++ (B ++ C))) = some (.unit, qe (A ++ (B.map (ye p) ++ C))) := by
 apply Gets.get
 refine qns _ _ _ _ ?_
 have := qmh p A C B [] B.length (by simp) h
 rw [List.append_nil] at this
 exact this
theorem qrH {gs : List Tm} (hx : ∀ t ∈ gs, y5 t) (hd : Tm) (bs : List Tm) (ins0 : List (List AV)) {P : AV × AH → Prop} : ∀ (k i : Nat) (ins : List InsA), gs.length - i = k → i ≤ gs.length → ins.length + (wL (gs.drop i) + (gs.drop i).length) + 1 < 1099511627776 → gs.length < 1099511627776 →
  (∀ ins' : List InsA, ins' = ins ++ yk (gs.drop i) ins.length → Gets (zt ins0 (qa bs) (ins'.length : Int) 0 (qe (ins' ++ [iz 18 0 0])).length (qe (ins' ++ [iz 18 0 0]))) P) →
  Gets (qfA ins0 (qa gs) (i : Int) (qe ins).length hd.kind hd.num hd.str (qa hd.subs) (qa gs) (qa bs) (qe ins)) P := by
 intro k
 induction k with
 | zero =>
  intro i ins hk hi hw hlen h
  refine qeD _ _ _ _ _ _ _ _ _ _ _ ?_
  rw [List.drop_eq_nil_of_le (by omega)] at hw h
  have z := xA (ins := ins) (by simp at hw; omega) 18 0 0
  rw [qh, decide_eq_false (by omega), cond_false]
  simp only [z, qf, qz, qx, qZ, qY, qH, quy, cond_true, qy, qI, qJ, qu, qn, qD, qW]
  exact h ins (by rw [yk, List.append_nil])
 | succ k ih =>
  intro i ins hk hi hw hlen h
  refine qeD _ _ _ _ _ _ _ _ _ _ _ ?_
  have hil : i < gs.length := by omega
  have g0 : gs[i]? = some gs[i] := quj hil
  have hd : gs.drop i = gs[i] :: gs.drop (i + 1) := by rw [List.drop_eq_getElem_cons hil]
  rw [hd, qv, quM] at hw
  have hc := yp gs[i] ins.length
  have e1 : (qj 0 (i : Int) && qp (i : Int) ((qa gs).length : Int)) = true := by simp; omega
  have z1 := (hx gs[i] (List.getElem_mem hil)).c (ins := ins) (by omega)
  have z2 := xA (ins := ins ++ qC gs[i] ins.length) (by simp; omega) 14 0 0
  rw [decide_eq_true (show (i : Int) < ((qa gs).length : Int) by simp; omega), e1]
  simp only [y9 g0, qf, qz, qx, qZ, qY, qH, quy, cond_true, qy, qI, qJ, qu, qn, qD, qW, qN, q8, q9, show quw 4 4 = true from rfl, z1, z2]
  rw [vr hil hlen]
  refine ih (i + 1) (ins ++ qC gs[i] ins.length ++ [iz 14 0 0]) (by omega) (by omega) (by simp at hw ⊢; omega) hlen ?_
  rintro ins' rfl
  refine h _ ?_
  rw [hd, yk]
  simp [Nat.add_assoc]
noncomputable def qsu : Den := evC cfg (EV cfg) 17 none 0 (sub (ql Tryz.f17) [1, 1, 0, 1, 0, 0])
noncomputable def qsA : Ex × List AV × AH → Option AV := kAft (Cfg.keepOut cfg 17 4) (kRun cfg (EV cfg) (kfN cfg 6) 17 none 0 (qaP cfg (Cfg.lift cfg 17 0) Tryz.f17.results.toList) ([.block 0, .seq (sub (ql Tryz.f17) [1, 1, 1])]))
noncomputable def qsq : List AV × AH → Option AV := fun p => kOpt (LOOP 0 (some [0, 1, 5]) ([]) qsu p) qsA
noncomputable def qtB : Den := evC cfg (EV cfg) 9 none 0 (sub (ql Tryz.f9) [1, 0, 1, 0, 0])
noncomputable def qtX : Ex × List AV × AH → Option AV := kAft (Cfg.keepOut cfg 9 2) (kRun cfg (EV cfg) (kfN cfg 6) 9 none 0 (qaP cfg (Cfg.lift cfg 9 0) Tryz.f9.results.toList) ([.block 0, .seq (sub (ql Tryz.f9) [1, 1])]))
noncomputable def qtj : List AV × AH → Option AV := fun p => kOpt (LOOP 0 (some [0, 3]) ([]) qtB p) qtX
noncomputable def qtC : Den := evC cfg (EV cfg) 5 none 0 (sub (ql Tryz.f5) [1, 1, 1, 1, 1, 1, 1, 1, 1, 1, 1, 1, 0, 1, 0, 0])
noncomputable def qtY : Ex × List AV × AH → Option AV := kAft (Cfg.keepOut cfg 5 18) (kRun cfg (EV cfg) (kfN cfg 6) 5 none 0 (qaP cfg (Cfg.lift cfg 5 0) Tryz.f5.results.toList) ([.block 0, .seq (sub (ql Tryz.f5) [1, 1, 1, 1, 1, 1, 1, 1, 1, 1, 1, 1, 1])]))
noncomputable def qtk : List AV × AH → Option AV := fun p => kOpt (LOOP 0 (some [3, 4, 6, 12, 13]) ([]) qtC p) qtY
noncomputable abbrev qfz (l m : Rz) (v5 : Int) : Option (AV) := qsq  (((fx 68 [(0, .sl l), (1, .sl m), (5, .int .i64 v5)]) : List AV), ([] : AH))
noncomputable abbrev qhn (l : Rz) (v3 : Int) : Option (AV) := qtj  (((fx 15 [(0, .sl l), (3, .int .i64 v3)]) : List AV), ([] : AH))
noncomputable abbrev qeB (b : Bool) (rows rows' : Rz) (v12 v13 : Int) : Option (AV) := qtk  (((fx 88 [(3, .bool b), (4, .sl rows), (6, .sl rows'), (12, .int .i64 v12), (13, .int .i64 v13)]) : List AV), ([] : AH))
theorem qpj (r : List AV) (L : Rz) {P : OV → Prop} (h : Gets (bif vR 7 (r :: L) then bif vD (0 + qug (r :: L)) 80 then some (OV.own 7 (r :: L) 0 (0 + qug (r :: L))) else none else none) P) : Gets (EVo (EV cfg) 110 [.sl (r :: L)]) P :=
  gE (fun _ => funO rfl rfl Tryz.func110 rfl) (by kernel_rfl) h
theorem qpP (l m : Rz) {P : AV → Prop} (h : Gets (bif (l.length : Int) != (m.length : Int) then some (.bool false) else qfz l m 0) P) : Gets (EVs (EV cfg) 17 [.sl l, .sl m]) P :=
  gE (fun _ => funS rfl rfl Tryz.func17 rfl) (by kernel_rfl) h
theorem qm6 (l : Rz) {P : AV → Prop} (h : Gets (qhn l 0) P) : Gets (EVs (EV cfg) 9 [.sl l]) P :=
  gE (fun _ => funS rfl rfl Tryz.func9 rfl) (by kernel_rfl) h
theorem qkh (k n : Int) (s : Bz) (l : Rz) {P : AV → Prop} (h : Gets (kOpt (EVs (EV cfg) 18 []) fun v => ve v fun b => kOpt (EVs (EV cfg) 9 [.sl [[AV.int .i64 k, .int .i64 n, .str s, .sl l]]]) fun v => ve v fun b_1 => bif b_1 then some (.bool b) else kOpt (EVf (EV cfg) 20 [.agg [.int .i64 k, .int .i64 n, .str s, .sl l]]) fun v => kTup v fun cs => qc cs fun c cs => kSl c fun rows => qc cs fun c cs => kInt .i64 c fun n_1 => kNil cs (kOpt (EVf (EV cfg) 26 [.agg [.int .i64 k, .int .i64 n, .str s, .sl l]]) fun v => kTup v fun cs => qc cs fun c cs => kSl c fun rows_1 => qc cs fun c cs => kInt .i64 c fun n => kNil cs (bif n_1 != n then some (.bool false) else bif n_1 != 0 then some (.bool b) else bif (rows_1.length : Int) == 0 then some (.bool false) else bif qj 1 (rows_1.length : Int) then bif vR 6 rows_1 then kOpt (EVf (EV cfg) 27 [.sl (qux 1 rows_1)]) fun v => kTup v fun cs => qc cs fun c cs => kAgg c fun cs_1 => qc cs_1 fun c cs_2 => kInt .i64 c fun n => qc cs_2 fun c cs_3 => kInt .i64 c fun n_2 => qc cs_3 fun c cs_4 => kStr c fun s => qc cs_4 fun c cs_5 => kSl c fun rows_2 => kNil cs_5 (qc cs fun c cs => kInt .i64 c fun n_3 => kNil cs (kOpt (EVf (EV cfg) 20 [.agg [.int .i64 n, .int .i64 n_2, .str s, .sl rows_2]]) fun v => kTup v fun cs => qc cs fun c cs => kSl c fun rows_3 => qc cs fun c cs => kInt .i64 c fun n => kNil cs (bif n != 0 then some (.bool false) else bif decide ((rows_3.length : Int) > (rows.length : Int)) then some (.bool false) else bif qj 0 (rows_3.length : Int) && qj (rows_3.length : Int) (rows.length : Int) then bif vR 7 rows then kOpt (EVs (EV cfg) 17 [.sl (qux (quG (rows_3.length : Int) - 0) rows), .sl rows_3]) fun v => ve v fun b_2 => bif ! b_2 then some (.bool false) else qeB b rows rows_1 0 (0 : Int) else none else none))) else none else none))) P) : Gets (EVs (EV cfg) 5 [.agg [.int .i64 k, .int .i64 n, .str s, .sl l]]) P :=
  gE (fun _ => funS rfl rfl Tryz.func5 rfl) (by kernel_rfl) h
theorem qeC (l m : Rz) (v5 : Int) {P : AV → Prop} (h : Gets (bif decide (v5 < (l.length : Int)) then bif qj 0 v5 && qp v5 (l.length : Int) then kOpt (qul l (v5.toNat)) fun row => bif qun (qug row) 7 then kOpt (qul row 0) fun v => kInt .i64 v fun n => bif qj 0 v5 && qp v5 (m.length : Int) then kOpt (qul m (v5.toNat)) fun row => bif qun (qug row) 7 then kOpt (qul row 0) fun v => kInt .i64 v fun n_1 => bif n != n_1 then some (.bool false) else bif qj 0 v5 && qp v5 (l.length : Int) then kOpt (qul l (v5.toNat)) fun row => bif qun (qug row) 7 then kOpt (qul row 1) fun v => kInt .i64 v fun n => bif qj 0 v5 && qp v5 (m.length : Int) then kOpt (qul m (v5.toNat)) fun row => bif qun (qug row) 7 then kOpt (qul row 1) fun v => kInt .i64 v fun n_2 => bif n != n_2 then some (.bool false) else bif qj 0 v5 && qp v5 (l.length : Int) then kOpt (qul l (v5.toNat)) fun row => bif qun (qug row) 7 then kOpt (qul row 2) fun v => kInt .i64 v fun n => bif qj 0 v5 && qp v5 (m.length : Int) then kOpt (qul m (v5.toNat)) fun row => bif qun (qug row) 7 then kOpt (qul row 2) fun v => kInt .i64 v fun n_3 => bif n != n_3 then some (.bool false) else bif qj 0 v5 && qp v5 (l.length : Int) then kOpt (qul l (v5.toNat)) fun row => bif qun (qug row) 7 then bif quw 7 (qug row) then qc (qux 4 (quN 3 row)) fun c cs => kInt .i64 c fun n => qc cs fun c cs => kInt .i64 c fun n_4 => qc cs fun c cs => kStr c fun s => qc cs fun c cs => kSl c fun rows => kNil cs (bif qj 0 v5 && qp v5 (↑ (qug m) : Int) then kOpt (qul m (v5.toNat)) fun row => bif qun (qug row) 7 then bif quw 7 (qug row) then qc (qux 4 (quN 3 row)) fun c cs => kInt .i64 c fun n_5 => qc cs fun c cs => kInt .i64 c fun n_6 => qc cs fun c cs => kStr c fun s_1 => qc cs fun c cs => kSl c fun rows_1 => kNil cs (kOpt (EVs (EV cfg) 15 [AV.agg [.int .i64 n, .int .i64 n_4, .str s, .sl rows], AV.agg [.int .i64 n_5, .int .i64 n_6, .str s_1, .sl rows_1]]) fun v => ve v fun b => bif ! b then some (.bool false) else qfz l m (IntKind.wrap .i64 (v5 + 1))) else none else none else none) else none else none else none else none else none else none else none else none else none else none else none else none else none else none else none else some (.bool true)) P) : Gets (qfz l m v5) P :=
  gE (fun _ => qB (cfg := cfg) (f := 17) (rd := none) (bs := 0)) (by kernel_rfl) h
theorem qf7 (l : Rz) (v3 : Int) {P : AV → Prop} (h : Gets (bif decide (v3 < (l.length : Int)) then bif qj 0 v3 && qp v3 (l.length : Int) then kOpt (qul l (v3.toNat)) fun row => bif qun (qug row) 4 then bif quw 4 (qug row) then kTmC (qux 4 row) fun n n_1 s rows => (kOpt (EVs (EV cfg) 10 [.agg [.int .i64 n, .int .i64 n_1, .str s, .sl rows], .int .i64 400]) fun v => ve v fun b => bif b then some (.bool true) else qhn l (IntKind.wrap .i64 (v3 + 1))) else none else none else none else some (.bool false)) P) : Gets (qhn l v3) P :=
  gE (fun _ => qB (cfg := cfg) (f := 9) (rd := none) (bs := 0)) (by kernel_rfl) h
theorem qf8 (b : Bool) (rows rows' : Rz) (v12 v13 : Int) {P : AV → Prop} (h : Gets (bif decide (v13 < (rows.length : Int)) then bif qj 0 v13 && qp v13 (rows.length : Int) then kOpt (qul rows (v13.toNat)) fun row => bif qun (qug row) 7 then kOpt (qul row 0) fun v => kInt .i64 v fun n => bif n == 20 then qeB b rows rows' (IntKind.wrap .i64 (v12 + 1)) (IntKind.wrap .i64 (v13 + 1)) else qeB b rows rows' v12 (IntKind.wrap .i64 (v13 + 1)) else none else none else bif b then some (.bool (v12 == (↑ (qug rows') : Int))) else some (.bool false)) P) : Gets (qeB b rows rows' v12 v13) P :=
  gE (fun _ => qB (cfg := cfg) (f := 5) (rd := none) (bs := 0)) (by kernel_rfl) h
theorem quc (bs : List Tm) (A B C : List InsA) (h : A.length + B.length + C.length + 1 < 1099511627776) :
  Gets (zt (qe A) (qa bs) ((A ++ B).length : Int) (bs.length : Int) (qe (A ++ (B ++ C))).length (qe (A ++ (B ++ C)))) (· = (.tup [], mkH (qe (A ++ (B.map (ye ((A.length + B.length + (C ++ [iz 20 0 0]).length : Nat) : Int)) ++ (C ++ [iz 20 0 0])))))) := by
 refine qb6 _ _ _ _ _ _ ?_
 have z := xA (ins := A ++ (B ++ C)) (by simp; omega) 20 0 0
 rw [qh, decide_eq_false (by omega), cond_false]
 have e0 : (A ++ (B ++ C)) ++ [iz 20 0 0] = A ++ (B ++ (C ++ [iz 20 0 0])) := by simp
 have e1 : (qj 0 ((A ++ B).length : Int) && qj ((A ++ B).length : Int) ((qe (A ++ (B ++ (C ++ [iz 20 0 0])))).length : Int)) = true := by
  rw [vq, q6]; simp; omega
 have e2 : (qj 0 ((qe A).length : Int) && qj ((qe A).length : Int) ((quG ((A ++ B).length : Int) : Nat) : Int)) = true := by
  rw [vq, q6, quE]; simp; omega
 have e3 : ((qe (A ++ (B ++ (C ++ [iz 20 0 0])))).length : Int) = ((A.length + B.length + (C ++ [iz 20 0 0]).length : Nat) : Int) := by
  rw [q6]; simp; omega
 have zf := qpe ((A.length + B.length + (C ++ [iz 20 0 0]).length : Nat) : Int) A B (C ++ [iz 20 0 0]) (by omega)
 rw [e0] at z
 simp only [z, qf, qz, qx, qZ, qY, qH, quy, cond_true, qy, qI, qJ, qu, qn, qD, qW, e1, e2]
 rw [show 0 + quG ((qe A).length : Int) = A.length by simp, show quG ((A ++ B).length : Int) - quG ((qe A).length : Int) = B.length by rw [quE, quE, q6, qus]; omega, e3, zf]
 simp only [qf, qgp]
 refine ⟨_, rfl, ?_⟩
 show _ = (_, mkH _)
 rw [mkH, q6, q6]
 simp
theorem qs1 {bs : List Tm} (hx : ∀ t ∈ bs, y5 t) (A B : List InsA) {P : AV × AH → Prop} : ∀ (k i : Nat) (C : List InsA), bs.length - i = k → 1 ≤ i → i ≤ bs.length → A.length + B.length + C.length + (wL (bs.drop i) + (bs.drop i).length) < 1099511627776 → bs.length < 1099511627776 →
  (∀ C', C' = C ++ qaF (bs.drop i) (A.length + B.length + C.length) → Gets (zt (qe A) (qa bs) ((A ++ B).length : Int) (bs.length : Int) (qe (A ++ (B ++ C'))).length (qe (A ++ (B ++ C')))) P) →
  Gets (zt (qe A) (qa bs) ((A ++ B).length : Int) (i : Int) (qe (A ++ (B ++ C))).length (qe (A ++ (B ++ C)))) P := by
 intro k
 induction k with
 | zero =>
  intro i C hk h1 hi hw hlen h
  have hi' : i = bs.length := by omega
  rw [List.drop_eq_nil_of_le (by omega)] at h
  rw [hi']
  exact h C (by rw [qaF, List.append_nil])
 | succ k ih =>
  intro i C hk h1 hi hw hlen h
  refine qb6 _ _ _ _ _ _ ?_
  have hil : i < bs.length := by omega
  have g0 : bs[i]? = some bs[i] := quj hil
  have hd : bs.drop i = bs[i] :: bs.drop (i + 1) := by rw [List.drop_eq_getElem_cons hil]
  rw [hd, qv, quM] at hw
  have e1 : (qj 0 (i : Int) && qp (i : Int) ((qa bs).length : Int)) = true := by simp; omega
  have z1 := xA (ins := A ++ (B ++ C)) (by simp; omega) 19 0 0
  have hl1 : (A ++ (B ++ C) ++ [iz 19 0 0]).length = A.length + B.length + C.length + 1 := by simp; omega
  have z2 := (hx bs[i] (List.getElem_mem hil)).c (ins := A ++ (B ++ C) ++ [iz 19 0 0]) (by rw [hl1]; omega)
  rw [hl1] at z2
  have hc := yp bs[i] (A.length + B.length + C.length + 1)
  have ep : decide ((i : Int) > 0) = true := decide_eq_true (by omega)
  rw [decide_eq_true (show (i : Int) < ((qa bs).length : Int) by simp; omega), e1]
  simp only [y9 g0, qf, qz, qx, qZ, qY, qH, quy, cond_true, qy, qI, qJ, qu, qn, qD, qW, qN, q8, q9, show quw 4 4 = true from rfl, ep, z1, z2]
  rw [vr hil hlen]
  rw [show A ++ (B ++ C) ++ [iz 19 0 0] ++ qC bs[i] (A.length + B.length + C.length + 1) = A ++ (B ++ (C ++ (iz 19 0 0 :: qC bs[i] (A.length + B.length + C.length + 1)))) by simp]
  refine ih (i + 1) (C ++ (iz 19 0 0 :: qC bs[i] (A.length + B.length + C.length + 1))) (by omega) (by omega) (by omega) (by simp at hw ⊢; omega) hlen ?_
  rintro C' rfl
  refine h _ ?_
  rw [hd, qaF]
  have : A.length + B.length + (C ++ (iz 19 0 0 :: qC bs[i] (A.length + B.length + C.length + 1))).length = A.length + B.length + C.length + 1 + (qC bs[i] (A.length + B.length + C.length + 1)).length := by simp; omega
  rw [this]
  simp
theorem qs2 {bs : List Tm} (hx : ∀ t ∈ bs, y5 t) (A B C : List InsA) {P : AV × AH → Prop} (hw : A.length + B.length + C.length + (wL bs + bs.length) < 1099511627776)
  (h : ∀ C', C' = C ++ zm bs (A.length + B.length + C.length) → Gets (zt (qe A) (qa bs) ((A ++ B).length : Int) (bs.length : Int) (qe (A ++ (B ++ C'))).length (qe (A ++ (B ++ C')))) P) :
  Gets (zt (qe A) (qa bs) ((A ++ B).length : Int) 0 (qe (A ++ (B ++ C))).length (qe (A ++ (B ++ C)))) P := by
 cases bs with
 | nil => exact h C (by rw [zm, List.append_nil])
 | cons e bs =>
  have hlen : (e :: bs).length < 1099511627776 := by omega
  refine qb6 _ _ _ _ _ _ ?_
  rw [qv, quM] at hw
  have g0 := y9 (l := e :: bs) (i := 0) (t := e) rfl
  rw [show ((0 : Nat) : Int) = 0 from rfl] at g0
  have e1 : (qj 0 (0 : Int) && qp (0 : Int) ((qa (e :: bs)).length : Int)) = true := by simp <;> omega
  have hl1 : (A ++ (B ++ C)).length = A.length + B.length + C.length := by simp; omega
  have z2 := (hx e (by simp)).c (ins := A ++ (B ++ C)) (by rw [hl1]; omega)
  rw [hl1] at z2
  have hc := yp e (A.length + B.length + C.length)
  have ep : decide ((0 : Int) > 0) = false := rfl
  rw [decide_eq_true (show (0 : Int) < ((qa (e :: bs)).length : Int) by simp <;> omega), e1]
  simp only [g0, qf, qz, qx, qZ, qY, qH, quy, cond_true, cond_false, qy, qI, qJ, qu, qD, qW, qN, q8, q9, show quw 4 4 = true from rfl, ep, z2]
  rw [show A ++ (B ++ C) ++ qC e (A.length + B.length + C.length) = A ++ (B ++ (C ++ qC e (A.length + B.length + C.length))) by simp]
  refine qs1 hx A B bs.length 1 (C ++ qC e (A.length + B.length + C.length)) (by simp) (by omega) (by simp) (by simp at hw ⊢; omega) hlen ?_
  rintro C' rfl
  refine h _ ?_
  rw [zm]
  have : A.length + B.length + (C ++ qC e (A.length + B.length + C.length)).length = A.length + B.length + C.length + (qC e (A.length + B.length + C.length)).length := by simp; omega
  rw [this]
  simp
structure ClX (c : Cl) : Prop where
 gs : ∀ t ∈ c.gs, y5 t
 bs : ∀ t ∈ c.bs, y5 t
theorem qgv {c : Cl} (hx : ClX c) {ins : List InsA} (hw : ins.length + wCl c + 2 < 1099511627776) :
  EVj (EV cfg) 51 1 [.ptr 0 0 0, .agg [.int .i64 c.head.kind, .int .i64 c.head.num, .str c.head.str, .sl (qa c.head.subs), .sl (qa c.gs), .sl (qa c.bs)]] (mkH (qe ins)) = some (.tup [], mkH (qe (ins ++ xY c ins.length))) := by
 apply Gets.get
 refine qmi _ _ _ _ _ _ _ ?_
 unfold wCl at hw
 have z := qqB c.head (ins := ins) (by omega)
 have hl := qgQ c.head []
 have hg := qc7 c.gs (ins.length + (vV c.head []).1.length)
 rw [Tm.av, Tm.cells_eq] at z
 simp only [z, qf, qz, qx, qZ, qY, qH, quy, cond_true, qy, qI, qJ, qu, qD, qW]
 refine qrH hx.gs c.head c.bs (qe ins) c.gs.length 0 (ins ++ (vV c.head []).1) (by omega) (by omega) (by rw [List.drop_zero]; simp; omega) (by omega) ?_
 rintro ins' rfl
 rw [List.drop_zero]
 have ea : ins ++ (vV c.head []).1 ++ yk c.gs (ins ++ (vV c.head []).1).length = ins ++ vY c ins.length := by
  unfold vY; simp
 have hal : (vY c ins.length).length = (vV c.head []).1.length + (yk c.gs (ins.length + (vV c.head []).1.length)).length := by unfold vY; simp
 rw [ea, show ins ++ vY c ins.length ++ [iz 18 0 0] = ins ++ (vY c ins.length ++ [iz 18 0 0]) by simp]
 refine qs2 hx.bs ins (vY c ins.length) [iz 18 0 0] (by simp; omega) ?_
 rintro C' rfl
 have hb := qj3 c.bs (ins.length + (vY c ins.length).length + [iz 18 0 0].length)
 obtain ⟨r, h1, h2⟩ := quc c.bs ins (vY c ins.length) ([iz 18 0 0] ++ zm c.bs (ins.length + (vY c ins.length).length + [iz 18 0 0].length)) (by simp at hb ⊢; omega)
 exact ⟨r, h1, h2⟩
theorem InsA.row_t (x : InsA) : qux 4 (quN 3 x.row) = [.int .i64 x.t.kind, .int .i64 x.t.num, .str x.t.str, .sl (qa x.t.subs)] := by
 rw [InsA.row, Tm.cells_eq]; rfl
theorem InsA.row_put (x : InsA) : quD (quD (qux 3 x.row) [.int .i64 x.t.kind, .int .i64 x.t.num, .str x.t.str, .sl (qa x.t.subs)]) (quN 7 x.row) = x.row := by
 rw [InsA.row, Tm.cells_eq]; rfl
theorem qot (l : List InsA) (i : Nat) (x : InsA) (h : l[i]? = some x) : List.set (qe l) i x.row = qe l := by
 have hi := (quh.1 h)
 obtain ⟨hi, he⟩ := hi
 unfold qe
 rw [← he, ← List.map_set, List.set_getElem_self]
theorem qpa {l : List InsA} (hx : ∀ x ∈ l, x.t.Ok) (hl : l.length < 1099511627776) : ∀ (k i : Nat), l.length - i = k → i ≤ l.length → Gets (qdH 7 0 (0 + (qe l).length) (i : Int) (qe l)) (· = .sl (qe l)) := by
 intro k
 induction k with
 | zero =>
  intro i hk hi
  refine qeg _ _ _ _ _ ?_
  rw [Nat.zero_add, decide_eq_false (show ¬ ((i : Int) < ((qe l).length : Int)) by rw [q6]; omega), cond_false, nble, decide_eq_true (show 0 + (qe l).length ≤ (qe l).length by omega)]
  refine ⟨_, rfl, ?_⟩
  rw [List.drop_zero, quu (qum _)]
 | succ k ih =>
  intro i hk hi
  have hil : i < l.length := by omega
  have g0 : l[i]? = some l[i] := quj hil
  refine qeg _ _ _ _ _ ?_
  have e0 : decide ((i : Int) < ((0 + (qe l).length : Nat) : Int)) = true := decide_eq_true (by rw [q6]; omega)
  have e1 : (qun 7 7 && qj 0 (i : Int) && qp (i : Int) ((0 + (qe l).length : Nat) : Int)) = true := by rw [q6]; simp; omega
  have e2 : qul (qe l) (0 + quG (i : Int)) = some (l[i]).row := by rw [Nat.zero_add, quE]; exact qdN g0
  have hc := qfQ (hx l[i] (List.getElem_mem hil))
  have e3 := qot l i l[i] g0
  have es : 0 + quG (i : Int) = i := by simp
  rw [e0, e1, e2]
  simp only [qf, cond_true, InsA.row_len, show quw 7 7 = true from rfl, InsA.row_t, qu, qn, qE, yz, qD, xl, hc, qa4, InsA.row_put, es, e3]
  rw [vr hil hl]
  exact ih (i + 1) (by omega) (by omega)
theorem qrG {l : List InsA} (hx : ∀ x ∈ l, x.t.Ok) (hl : l.length < 1099511627776) (hn : l ≠ []) : EVf (EV cfg) 52 [.sl (qe l)] = some (.sl (qe l)) := by
 apply Gets.get
 refine qqy _ ?_
 have hc : EVo (EV cfg) 110 [.sl (qe l)] = some (.own 7 (qe l) 0 (0 + (qe l).length)) := by
  cases l with
  | nil => exact absurd rfl hn
  | cons x l =>
   apply Gets.get
   show Gets (EVo (EV cfg) _ [.sl (x.row :: qe l)]) _
   refine qpj _ _ ?_
   have h1 : vR 7 (x.row :: qe l) = true := qlj (x :: l)
   rw [h1, qqq (by simp at hl ⊢; omega)]
   exact ⟨_, rfl, rfl⟩
 rw [hc]
 simp only [qf, qgO]
 exact qpa hx hl l.length 0 (by omega) (by omega)
theorem Cl.cells6 (c : Cl) : qux 6 c.cells = c.cells := rfl
theorem Cl.cells_len (c : Cl) : c.cells.length = 6 := rfl
theorem qlk {l : List Cl} {i : Nat} {c : Cl} (h : l[i]? = some c) : qul (qV l) (quG (i : Int)) = some c.cells := by
 rw [quE, qK, qeL, h]; rfl
theorem kCl {α : Type} (c : Cl) (K : Int → Int → List UInt8 → List (List AV) → List (List AV) → List (List AV) → Option α) :
  (qc c.cells fun (c : AV) (cs : List AV) => kInt .i64 c fun (n : Int) => qc cs fun (c : AV) (cs : List AV) => kInt .i64 c fun (n_1 : Int) => qc cs fun (c : AV) (cs : List AV) => kStr c fun (s : List UInt8) => qc cs fun (c : AV) (cs : List AV) => kSl c fun (r1 : List (List AV)) => qc cs fun (c : AV) (cs : List AV) => kSl c fun (r2 : List (List AV)) => qc cs fun (c : AV) (cs : List AV) => kSl c fun (r3 : List (List AV)) => kNil cs (K n n_1 s r1 r2 r3)) = K c.head.kind c.head.num c.head.str (qa c.head.subs) (qa c.gs) (qa c.bs) := rfl
theorem qnt {l : List Cl} (hx : ∀ c ∈ l, ClX c) (hlen : l.length < 1099511627776) {P : AV → Prop} : ∀ (k i : Nat) (ins : List InsA), l.length - i = k → i ≤ l.length → ins.length + 2 * wL ((l.drop i).map clT) < 1099511627776 →
  (∀ ins' : List InsA, ins' = ins ++ vA (l.drop i) ins.length → Gets (kOpt (EVf (EV cfg) 52 [.sl (qe ins')]) fun (v : AV) => kSl v fun (rows : List (List AV)) => some (AV.tup [.sl rows, .int .i64 (0 : Int)])) P) →
  Gets (qgE (qV l) (i : Int) (qe ins).length (qe ins)) P := by
 intro k
 induction k with
 | zero =>
  intro i ins hk hi hw h
  refine qeh _ _ _ _ ?_
  unfold zx0 zx1 zx2 zx3 zx4
  rw [vQ, decide_eq_false (by omega), cond_false, nble, decide_eq_true (show 0 + (qe ins).length ≤ (qe ins).length by omega)]
  rw [quu (qum _)]
  exact h ins (by rw [List.drop_eq_nil_of_le (by omega), vA, List.append_nil])
 | succ k ih =>
  intro i ins hk hi hw h
  refine qeh _ _ _ _ ?_
  unfold zx0 zx1 zx2 zx3 zx4
  have hil : i < l.length := by omega
  have g0 : l[i]? = some l[i] := quj hil
  have hd : l.drop i = l[i] :: l.drop (i + 1) := by rw [List.drop_eq_getElem_cons hil]
  rw [hd, List.map_cons, qv] at hw
  have hg := qfq l[i]
  have hc := qdg l[i] ins.length
  have e1 : (qj 0 (i : Int) && qp (i : Int) ((qV l).length : Int)) = true := by rw [vQ]; simp; omega
  have z := qgv (hx l[i] (List.getElem_mem hil)) (ins := ins) (by omega)
  rw [decide_eq_true (show (i : Int) < ((qV l).length : Int) by rw [vQ]; omega), e1, qlk g0]
  simp only [qf, cond_true, Cl.cells_len, Cl.cells6, show qun 6 6 = true from rfl, show quw 6 6 = true from rfl]
  rw [kCl]
  simp only [z, qf, qz, qx, qZ, qY, qH, quy, cond_true, qy, qI, qJ, qu, qD, qW]
  rw [vr hil hlen]
  refine ih (i + 1) (ins ++ xY l[i] ins.length) (by omega) (by omega) (by rw [qus]; omega) ?_
  rintro ins' rfl
  refine h _ ?_
  rw [hd, vA]
  simp
theorem qrF {l : List Cl} (h : l ≠ []) (i : Nat) : vA l i ≠ [] := by
 cases l with
 | nil => exact absurd rfl h
 | cons c l =>
  intro e
  have := qde (c :: l) i
  rw [e] at this
  exact absurd this (by simp [zb])
theorem qs3 {c : Cl} (h : okC c = true) : ClX c := by
 unfold okC at h
 simp only [que, List.all_eq_true, decide_eq_true_eq] at h
 have hg : ∀ {V : List Int} {t : Tm}, yG V t = 0 → y5 t := by
  intro V t h
  refine qqC (V := V) t.w t (qum _) ?_
  unfold yG at h
  split at h
  ·split at h
   ·assumption
   ·exact absurd h (by decide)
  ·exact absurd h (by decide)
 exact ⟨fun t ht => hg (h.2.1 t ht), fun t ht => hg (h.2.2 t ht)⟩
theorem qnN (l : List Cl) : wL (l.map clT) ≤ (selT l).w := by
 have := zJ (l.map clT)
 show _ ≤ (qP (l.map clT)).w
 omega
theorem qiG {l : List Cl} (h : SelOk l) : EVf (EV cfg) 20 [(selT l).av] = some (.tup [.sl (qe (vA l 0)), .int .i64 0]) := by
 have hw := qbF h.chk
 have hwl := qnN l
 have hlen : l.length < 1099511627776 := by have := qaA (l.map clT); rw [quI] at this; omega
 have hcl := qb9 (t := selT l) (by omega)
 have hx : ∀ c ∈ l, ClX c := fun c hc => qs3 (h.ok c hc)
 rw [h.cls] at hcl
 apply Gets.get
 rw [Tm.av, Tm.cells_eq]
 refine qeu _ _ _ _ ?_
 simp only [xl, hcl, qf, qF, qu, yz, qn, qD, show ((0 : Int) != 0) = false from rfl, cond_false]
 refine qk0 _ _ ?_
 unfold zx0 zx1 zx2 zx3 zx4
 have ho : EVf (EV cfg) 52 [.sl (qe (vA l 0))] = some (.sl (qe (vA l 0))) := by
  refine qrG (fun x hx => qdu _ ?_) (by have := qfo l 0; omega) (qrF h.ne 0)
  have := qjk l 0 (2 * wL (l.map clT)) (fun c hc => by
   have h1 := qfq c
   have h2 : (clT c).w ≤ wL (l.map clT) := yv (List.mem_map_of_mem hc)
   omega) x hx
  omega
 cases l with
 | nil => exact absurd rfl h.ne
 | cons c l =>
  have hg := qfq c
  rw [List.map_cons, qv] at hwl
  have hc := qdg c 0
  have e0 : (0 : Int) < ((qV (c :: l)).length : Int) := by rw [vQ]; simp <;> omega
  have e1 : (qj 0 (0 : Int) && qp (0 : Int) ((qV (c :: l)).length : Int)) = true := by rw [vQ]; simp <;> omega
  have g0 := qlk (l := c :: l) (i := 0) (c := c) rfl
  rw [show ((0 : Nat) : Int) = 0 from rfl] at g0
  have z := qgv (hx c (by simp)) (ins := []) (by simp; omega)
  rw [decide_eq_true e0, e1, g0]
  simp only [qf, cond_true, Cl.cells_len, Cl.cells6, show qun 6 6 = true from rfl, show quw 6 6 = true from rfl]
  rw [kCl]
  rw [show (qe [] : List (List AV)) = [] from rfl] at z
  simp only [List.length_nil, List.nil_append] at z
  have z : EVj (EV cfg) _ 1 _ ([ABlk.rows false 1 [[AV.ms 1 0 0]], ABlk.rows true 7 []] : AH) = _ := z
  simp only [z, qf, qz, qx, qZ, qY, qH, quy, cond_true, qy, qI, qJ, qu, qD, qW]
  refine qnt hx hlen l.length 1 (xY c 0) (by simp) (by simp) (by rw [List.drop_succ_cons, List.drop_zero]; omega) ?_
  rintro ins' rfl
  have e : xY c 0 ++ vA (quN 1 (c :: l)) (xY c 0).length = vA (c :: l) 0 := by
   rw [vA]; simp
  rw [e, ho]
  exact ⟨_, rfl, rfl⟩
theorem qph {t : Tm} (ht : t.w < 1099511627776) (h : (clsG t).2 ≠ 0) : EVf (EV cfg) 20 [t.av] = some (.tup [.sl [], .int .i64 (clsG t).2]) := by
 have hcl := qb9 ht
 apply Gets.get
 rw [Tm.av, Tm.cells_eq]
 refine qeu _ _ _ _ ?_
 have e : ((clsG t).2 != 0) = true := by simpa using h
 simp only [xl, hcl, qf, qF, qu, yz, qn, qD, e, cond_true]
 exact ⟨_, rfl, rfl⟩
theorem qme : EVf (EV cfg) 178 [.agg [.int .i64 7, .int .i64 0, .str [], .sl [[.int .i64 2, .int .i64 0, .str [36, 49], .sl []], [.int .i64 2, .int .i64 0, .str [97], .sl []]]]] = some (.sl [[.int .i64 1]]) := qkK (.nil) 1000 1000 (by kernel_rfl)
theorem qmd : EVf (EV cfg) 26 [.agg [.int .i64 9, .int .i64 0, .str [], .sl [[.int .i64 7, .int .i64 0, .str [], .sl [[.int .i64 7, .int .i64 0, .str [], .sl [[.int .i64 2, .int .i64 0, .str [36, 49], .sl []], [.int .i64 2, .int .i64 0, .str [97], .sl []]]], [.int .i64 8, .int .i64 0, .str [], .sl []], [.int .i64 9, .int .i64 0, .str [], .sl [[.int .i64 2, .int .i64 0, .str [36, 49], .sl []], [.int .i64 8, .int .i64 0, .str [], .sl []]]]]], [.int .i64 8, .int .i64 0, .str [], .sl []]]]] = some (.tup [.sl [[.int .i64 7, .int .i64 0, .str [], .sl [[.int .i64 2, .int .i64 0, .str [36, 49], .sl []], [.int .i64 2, .int .i64 0, .str [97], .sl []]], .sl [], .sl [[.int .i64 2, .int .i64 0, .str [36, 49], .sl []]]]], .int .i64 0]) := qkK (.consF qme (.nil)) 1000 1000 (by kernel_rfl)
theorem qmc : EVf (EV cfg) 20 [.agg [.int .i64 9, .int .i64 0, .str [], .sl [[.int .i64 7, .int .i64 0, .str [], .sl [[.int .i64 7, .int .i64 0, .str [], .sl [[.int .i64 2, .int .i64 0, .str [36, 49], .sl []], [.int .i64 2, .int .i64 0, .str [97], .sl []]]], [.int .i64 8, .int .i64 0, .str [], .sl []], [.int .i64 9, .int .i64 0, .str [], .sl [[.int .i64 2, .int .i64 0, .str [36, 49], .sl []], [.int .i64 8, .int .i64 0, .str [], .sl []]]]]], [.int .i64 8, .int .i64 0, .str [], .sl []]]]] = some (.tup [.sl [[.int .i64 1, .int .i64 2, .int .i64 6, .int .i64 0, .int .i64 0, .str [], .sl []], [.int .i64 3, .int .i64 1, .int .i64 0, .int .i64 0, .int .i64 0, .str [], .sl []], [.int .i64 6, .int .i64 0, .int .i64 6, .int .i64 2, .int .i64 0, .str [97], .sl []], [.int .i64 18, .int .i64 0, .int .i64 0, .int .i64 0, .int .i64 0, .str [], .sl []], [.int .i64 8, .int .i64 1, .int .i64 0, .int .i64 0, .int .i64 0, .str [], .sl []], [.int .i64 20, .int .i64 0, .int .i64 0, .int .i64 0, .int .i64 0, .str [], .sl []]], .int .i64 0]) := qkK (.consF qmd (.nil)) 1000 1000 (by kernel_rfl)
theorem qmb : EVf (EV cfg) 13 [.sl [[.int .i64 1, .int .i64 2, .int .i64 6, .int .i64 0, .int .i64 0, .str [], .sl []], [.int .i64 3, .int .i64 1, .int .i64 0, .int .i64 0, .int .i64 0, .str [], .sl []], [.int .i64 6, .int .i64 0, .int .i64 6, .int .i64 2, .int .i64 0, .str [97], .sl []], [.int .i64 18, .int .i64 0, .int .i64 0, .int .i64 0, .int .i64 0, .str [], .sl []], [.int .i64 8, .int .i64 1, .int .i64 0, .int .i64 0, .int .i64 0, .str [], .sl []], [.int .i64 20, .int .i64 0, .int .i64 0, .int .i64 0, .int .i64 0, .str [], .sl []]], .agg [.int .i64 7, .int .i64 0, .str [], .sl [[.int .i64 2, .int .i64 0, .str [107], .sl []], [.int .i64 2, .int .i64 0, .str [97], .sl []]]], .int .i64 1] = some (.tup [.agg [.int .i64 2, .int .i64 0, .str [107], .sl []], .bool true, .int .i64 6, .int .i64 0]) := qkK (.nil) 1000 1000 (by kernel_rfl)
theorem qmf : EVs (EV cfg) 18 [] = some (.bool true) := qua (.consF qmc (.consF qmb (.nil))) 1000 1000 (by kernel_rfl)
theorem qpJ {cs : List Cl} (hw : (selT cs).w < 1099511627775) : ∀ d i : Nat, i + d = cs.length →
  Gets (qhk (qV cs) i i 0 0 [] [] 8 0 [] [] (qa ((cs.take i).map clT))) (· = .tup [(ofG cs).1.av, .int .i64 (ofG cs).2]) := by
 have hlen := qrc cs
 have hend : AV.agg [.int .i64 8, .int .i64 0, .str [], .sl []] = (Tm.mk 8 0 [] []).av := by rw [Tm.av_mk]; rfl
 intro d
 induction d with
 | zero =>
  intro i hi
  obtain rfl : i = cs.length := by omega
  refine qf4 _ _ _ _ _ _ _ _ _ _ _ _ ?_
  have hb : quw (0 + cs.length) (qa (cs.map clT)).length = true := by rw [quJ, qh, quI]; omega
  have ht : qux cs.length (qa (cs.map clT)) = qa (cs.map clT) := quu (by rw [qh, quI]; exact qum _)
  have hm := qcY (l := cs.map clT) (by rw [quI]; omega) (.mk 8 0 [] [])
  have hsel : qbb (cs.map clT) (.mk 8 0 [] []) = selT cs := rfl
  have hk := qoj (t := selT cs) (by omega)
  have hcp := qfQ (t := selT cs) (qdu _ (by omega))
  rw [vQ, decide_eq_false (by omega), List.take_length, hb, ht, hend, hm, hsel]
  simp only [cond_false, quy, cond_true, qf, qa4, xl, hk, qn, bneD]
  unfold ofG
  by_cases h0 : (clsG (selT cs)).2 = 0
  ·rw [decide_eq_true h0, if_pos h0, hcp]
   simp only [Bool.not_true, cond_false, qf, qa4, xl]
   exact ⟨_, rfl, rfl⟩
  ·rw [decide_eq_false h0, if_neg h0]
   exact ⟨_, rfl, rfl⟩
 | succ d ih =>
  intro i hi
  have hil : i < cs.length := by omega
  have hx : cs[i]? = some cs[i] := quj hil
  have hpt := qol (quv hx)
  have h1 := ih (i + 1) (by omega)
  refine qf4 _ _ _ _ _ _ _ _ _ _ _ _ ?_
  have gx : qul (qV cs) (quG (i : Int)) = some cs[i].cells := by
   rw [qK, quE, qeL, hx]; rfl
  have hl : ((cs.take i).map clT).length = i := by rw [quI, List.length_take]; omega
  have hb : quw (0 + i) (qa ((cs.take i).map clT)).length = true := by rw [quJ, qh, hl]; omega
  have ht : qux i (qa ((cs.take i).map clT)) = qa ((cs.take i).map clT) := quu (by rw [qh, hl]; exact qum _)
  rw [vQ, decide_eq_true (show (i : Int) < (cs.length : Int) by omega), vq, xT, decide_eq_true hil, gx, hb, ht, zN (by omega), vr hil (by omega), hend]
  have e1 : cs.take (i + 1) = cs.take i ++ [cs[i]] := by rw [List.take_add_one, hx]; rfl
  rw [e1, List.map_append, vM] at h1
  generalize cs[i] = c at *
  have b6 : quw 6 c.cells.length = true := rfl
  have b66 : qun c.cells.length 6 = true := rfl
  have t6 : qux 6 c.cells = c.cells := rfl
  have k1 := qcY (l := c.gs) (by omega) (.mk 8 0 [] [])
  have k2 := qcY (l := c.bs) (by omega) (.mk 8 0 [] [])
  have k3 := qly (x := c.head) (l := [qP c.gs, qP c.bs]) (by simp)
  simp only [cond_true, quy, qf, b6, b66, t6]
  unfold Cl.cells
  simp only [qc, qn, qE, yz, kNil, k1, k2, qf, qa4]
  have er : [[AV.int .i64 c.head.kind, .int .i64 c.head.num, .str c.head.str, .sl (qa c.head.subs)], [AV.int .i64 (qbb c.gs (.mk 8 0 [] [])).kind, .int .i64 (qbb c.gs (.mk 8 0 [] [])).num, .str (qbb c.gs (.mk 8 0 [] [])).str, .sl (qa (qbb c.gs (.mk 8 0 [] [])).subs)], [AV.int .i64 (qbb c.bs (.mk 8 0 [] [])).kind, .int .i64 (qbb c.bs (.mk 8 0 [] [])).num, .str (qbb c.bs (.mk 8 0 [] [])).str, .sl (qa (qbb c.bs (.mk 8 0 [] [])).subs)]] = qa [c.head, qP c.gs, qP c.bs] := by
   rw [qG, qG, qG, vG, Tm.cells_eq, Tm.cells_eq, Tm.cells_eq]; rfl
  rw [er, k3]
  simp only [qf, qa4]
  have ec : [[AV.int .i64 (tupT [c.head, qP c.gs, qP c.bs]).kind, .int .i64 (tupT [c.head, qP c.gs, qP c.bs]).num, .str (tupT [c.head, qP c.gs, qP c.bs]).str, .sl (qa (tupT [c.head, qP c.gs, qP c.bs]).subs)]] = qa ([c].map clT) := by
   show _ = qa [clT c]
   rw [qG, vG, Tm.cells_eq]; rfl
  rw [ec]
  exact h1
theorem qsa {cs : List Cl} (hw : (selT cs).w < 1099511627775) : EVf (EV cfg) 27 [.sl (qV cs)] = some (.tup [(ofG cs).1.av, .int .i64 (ofG cs).2]) := by
 apply Gets.get
 refine qq8 _ ?_
 exact qpJ hw cs.length 0 (by omega)
def JB (v : AV) : Prop := ∃ b : Bool, v = .bool b
theorem qoH {l : List Tm} (hl : OkL l) (hlen : l.length < 1099511627776) : Gets (EVs (EV cfg) 9 [.sl (qa l)]) JB := by
 have loop : ∀ (d i : Nat), i + d = l.length → Gets (qhn (qa l) i) JB := by
  intro d
  induction d with
  | zero =>
   intro i hi
   refine qf7 _ _ ?_
   rw [qh, decide_eq_false (by omega)]
   exact ⟨_, rfl, _, rfl⟩
  | succ d ihd =>
   intro i hi
   refine qf7 _ _ ?_
   have hil : i < l.length := by omega
   have hxi : l[i]? = some l[i] := quj hil
   have hb := qsp (hl.get (quv hxi)) (most := 400) (by omega) (by omega)
   rw [vr hil hlen]
   simp [hil]
   refine Gets.bind hb ?_
   rintro _ ⟨b, rfl, hbw⟩
   cases b with
   | true => exact ⟨_, rfl, _, rfl⟩
   | false =>
    have hg := ihd (i + 1) (by omega)
    simpa using hg
 exact qm6 _ (loop l.length 0 (by omega))
theorem row1 (p : Tm) : ([[AV.int .i64 p.kind, .int .i64 p.num, .str p.str, .sl (qa p.subs)]] : List (List AV)) = qa [p] := by
 rw [qG, vG, Tm.cells_eq]
theorem qrh {l : List InsA} (hx : ∀ x ∈ l, x.t.Ok) (hl : l.length < 1099511627776) : EVs (EV cfg) 17 [.sl (qe l), .sl (qe l)] = some (.bool true) := by
 apply Gets.get
 refine qpP _ _ ?_
 have loop : ∀ (k i : Nat), l.length - i = k → i ≤ l.length → Gets (qfz (qe l) (qe l) (i : Int)) (· = .bool true) := by
  intro k
  induction k with
  | zero =>
   intro i hk hi
   refine qeC _ _ _ ?_
   rw [decide_eq_false (show ¬ ((i : Int) < ((qe l).length : Int)) by rw [q6]; omega), cond_false]
   exact ⟨_, rfl, rfl⟩
  | succ k ih =>
   intro i hk hi
   have hil : i < l.length := by omega
   have g0 : l[i]? = some l[i] := quj hil
   refine qeC _ _ _ ?_
   have e0 : decide ((i : Int) < ((qe l).length : Int)) = true := decide_eq_true (by rw [q6]; omega)
   have e1 : (qj 0 (i : Int) && qp (i : Int) ((qe l).length : Int)) = true := by rw [q6]; simp; omega
   have e2 : qul (qe l) (quG (i : Int)) = some (l[i]).row := by rw [quE]; exact qdN g0
   have r0 : qul (l[i]).row 0 = some (.int .i64 (l[i]).o) := rfl
   have r1 : qul (l[i]).row 1 = some (.int .i64 (l[i]).a) := rfl
   have r2 : qul (l[i]).row 2 = some (.int .i64 (l[i]).b) := rfl
   have hs := qpN (hx l[i] (List.getElem_mem hil)) (b := (l[i]).t) (c := true) (by simp)
   simp only [e0, e1, e2, r0, r1, r2, qf, cond_true, cond_false, InsA.row_len, show qun 7 7 = true from rfl, show quw 7 7 = true from rfl, InsA.row_t, qu, qn, qE, yz, qD, xl, hs, bne_self_eq_false, qm, Bool.not_true]
   rw [vr hil hl]
   exact ih (i + 1) (by omega) (by omega)
 have hb : (((qe l).length : Int) != ((qe l).length : Int)) = false := by simp
 have h0 := loop l.length 0 (by omega) (by omega)
 simpa [hb] using h0
theorem qsm {l : List InsA} (cs : List Cl) (hl : l.length < 1099511627776) : ∀ (k i n : Nat), l.length - i = k → i ≤ l.length → n ≤ i → n + zb (l.drop i) = cs.length →
  Gets (qeB true (qe l) (qV cs) (n : Int) (i : Int)) (· = .bool true) := by
 intro k
 induction k with
 | zero =>
  intro i n hk hi hni hn
  refine qf8 _ _ _ _ _ ?_
  rw [List.drop_eq_nil_of_le (by omega)] at hn
  have hn : n = cs.length := hn
  rw [decide_eq_false (show ¬ ((i : Int) < ((qe l).length : Int)) by rw [q6]; omega), cond_false, vQ, hn, cond_true]
  exact ⟨_, rfl, by simp⟩
 | succ k ih =>
  intro i n hk hi hni hn
  have hil : i < l.length := by omega
  have g0 : l[i]? = some l[i] := quj hil
  have hd : l.drop i = l[i] :: l.drop (i + 1) := by rw [List.drop_eq_getElem_cons hil]
  refine qf8 _ _ _ _ _ ?_
  have e0 : decide ((i : Int) < ((qe l).length : Int)) = true := decide_eq_true (by rw [q6]; omega)
  have e1 : (qj 0 (i : Int) && qp (i : Int) ((qe l).length : Int)) = true := by rw [q6]; simp; omega
  have e2 : qul (qe l) (quG (i : Int)) = some (l[i]).row := by rw [quE]; exact qdN g0
  have r0 : qul (l[i]).row 0 = some (.int .i64 (l[i]).o) := rfl
  have ht : zb (l.drop i) = (if (l[i]).o = 20 then 1 else 0) + zb (l.drop (i + 1)) := by
   rw [hd, show l[i] :: l.drop (i + 1) = [l[i]] ++ l.drop (i + 1) from rfl, qbl]
   congr 1
   unfold zb
   by_cases h : (l[i]).o = 20 <;> simp [h]
  rw [ht] at hn
  simp only [e0, e1, e2, r0, qf, cond_true, InsA.row_len, show qun 7 7 = true from rfl, qn]
  rw [vr hil hl]
  by_cases h : (l[i]).o = 20
  ·have b : ((l[i]).o == (20 : Int)) = true := by simp [h]
   rw [if_pos h] at hn
   rw [b, cond_true, vr (n := l.length) (i := n) (by omega) hl]
   exact ih (i + 1) (n + 1) (by omega) (by omega) (by omega) (by omega)
  ·have b : ((l[i]).o == (20 : Int)) = false := by simp [h]
   rw [if_neg h] at hn
   rw [b, cond_false]
   exact ih (i + 1) n (by omega) (by omega) (by omega) (by omega)
theorem qma {t : Tm} (wt : t.w < 1099511627776) : EVs (EV cfg) 5 [t.av] = some (.bool true) := by
 have hlg := qoH (l := [t]) ⟨qdu t wt, trivial⟩ (by simp)
 have hcl := qb9 (t := t) (by omega)
 apply Gets.get
 rw [Tm.av, Tm.cells_eq]
 refine qkh _ _ _ _ ?_
 rw [qmf, row1]
 simp only [qf, qm]
 refine Gets.bind hlg ?_
 rintro _ ⟨b, rfl⟩
 cases b with
 | true => exact ⟨_, rfl, rfl⟩
 | false =>
  simp only [qm, cond_false, xl]
  by_cases h0 : (clsG t).2 = 0
  ·obtain ⟨h1, hok⟩ := qqF h0
   generalize (clsG t).1 = l at h1 hok
   subst h1
   rw [hok.cls] at hcl
   have hcm := qiG hok
   have hlc := qfo l 0
   have hws := qbF hok.chk
   have hwl := qnN l
   have hlen : (vA l 0).length < 1099511627776 := by omega
   simp only [hcm, hcl, qf, qF, qu, yz, qn, qD, bne_self_eq_false, cond_false]
   cases l with
   | nil => exact absurd rfl hok.ne
   | cons c r =>
    have h1 := hok.one (c := c) (by simp)
    have hw1 := qbF h1.chk
    have hof := qsa (cs := [c]) (by omega)
    rw [h1.of] at hof
    have hcm1 := qiG h1
    have e1 : (((qV (c :: r)).length : Int) == 0) = false := by rw [vQ]; simp <;> omega
    have e2 : qj 1 ((qV (c :: r)).length : Int) = true := by rw [vQ]; simp <;> omega
    have e3 : vR 6 (qV (c :: r)) = true := rfl
    have e4 : qux 1 (qV (c :: r)) = qV [c] := rfl
    have ec : vA (c :: r) 0 = vA [c] 0 ++ vA r (0 + (xY c 0).length) := by
     rw [vA, vA, vA, List.append_nil]
    have e5 : (qe (vA [c] 0)).length ≤ (qe (vA (c :: r) 0)).length := by rw [q6, q6, ec, qus]; omega
    have e6 : qux ((qe (vA [c] 0)).length - 0) (qe (vA (c :: r) 0)) = qe (vA [c] 0) := by
     rw [ec, qjH, Nat.sub_zero, List.take_left]
    have hs := qrh (l := vA [c] 0) (fun x hx => qdu _ (by
     have := qjk [c] 0 (2 * wL ((c :: r).map clT)) (fun c' hc => by
      have hcc : c' = c := by simpa using hc
      subst hcc
      have h1 := qfq c'
      have h2 : (clT c').w ≤ wL ((c' :: r).map clT) := yv (by simp)
      omega) x hx
     omega)) (by rw [q6, q6] at e5; omega)
    have e7 : decide (((qe (vA [c] 0)).length : Int) > ((qe (vA (c :: r) 0)).length : Int)) = false := decide_eq_false (by omega)
    have e8 : (qj 0 ((qe (vA [c] 0)).length : Int) && qj ((qe (vA [c] 0)).length : Int) ((qe (vA (c :: r) 0)).length : Int)) = true := by rw [vq]; simp [-q6]; omega
    have hav : (selT [c]).av = .agg [.int .i64 (selT [c]).kind, .int .i64 (selT [c]).num, .str (selT [c]).str, .sl (qa (selT [c]).subs)] := by rw [Tm.av, Tm.cells_eq]
    rw [hav] at hof
    simp only [e1, e2, e3, e4, hof, qf, qF, qu, qO, yz, qn, qE, qD, cond_true, cond_false]
    simp only [qf, qF, qu, yz, qn, qD, bne_self_eq_false, cond_true, cond_false, xl, hcm1, e7, e8, qlj, quE, e6, hs, qm, Bool.not_true]
    exact qsm (c :: r) hlen (vA (c :: r) 0).length 0 0 (by omega) (by omega) (by omega) (by rw [List.drop_zero, qde]; omega)
  ·have hcm := qph (t := t) (by omega) h0
   have e : ((clsG t).2 != 0) = true := by simpa using h0
   simp only [hcm, hcl, qf, qF, qu, yz, qn, qD, bne_self_eq_false, cond_false, e, cond_true]
   exact ⟨_, rfl, rfl⟩
end Go.Proofs.YtkohdkldmpiiiaaGreat
end
