/-
  Parts of the proof of ScanTellsUptoCardSaid, put together: the abstract evaluation and its contracts. Own work.
  What is proved: each lemma as it stands; no condition.
-/
import Derived.Test.YtkohdkldmpiiiaaDoorZScanTellsM4
open List renaming getElem?_eq_some_iff → qpV, getElem?_eq_getElem → qp1, get?Internal → qp3, length → qp4, getElem?_set → qp8, getElem?_append_left → qqa, getElem?_append_right → qqb, length_append → qqe, take → qqf, drop_eq_nil_of_le → qqg, replicate → qqi, mem_of_getElem? → qqj, mem_append → qql, getElem?_cons_succ → qqm, mem_cons → qqn, length_drop → qqp, drop → qqq, append → qqr
open Bool renaming and_eq_true → qpW, false_eq_true → qp0, and_self → qp5
open Option renaming bind_eq_some_iff → qpX, map_eq_some_iff → qpZ, bind_some → qp7, map_some → qqd
open Nat renaming eq_of_beq_eq_true → qpY, le_refl → qp2, beq → qp6, mul_le_mul_right → qqh, ble → qqk, blt_eq → qqo
open Int renaming toNat → qp9, toNat_natCast → qqc
set_option maxRecDepth 1000000
set_option maxHeartbeats 0
section
namespace Go.Proofs.YtkohdkldmpiiiaaDoor
open Go.Av
def xb (s : List UInt8) (p : Nat) (out : List (List AV)) : TkA → AV × AH → Prop
 | .ok k n w len, q => q = (.tup [], rsI s ((p + len : Nat) : Int) p 0 (out ++ [[.int .i64 k, .int .i64 n, .int .i64 (p : Int), .str w]]))
 | .err x, q => x ≠ 0 ∧ ∃ (p' : Int) (out' : List (List AV)), q = (.tup [], rsI s p' p x out')
theorem yS (out : List (List AV)) (x : List AV) : qqr (qqf out.length out) [x] = out ++ [x] := by rw [List.take_of_length_le (qp2 _)]; rfl
theorem qmF : ∀ g ∈ vT, ∀ c r, g = c :: r → vB c = true := by
 have h : ∀ g ∈ vT, (match g with | c :: _ => vB c | [] => true) = true := by decide
 intro g hg c r e
 have := h g hg
 rw [e] at this
 exact this
theorem qoM : ∀ g ∈ vT, g.length ≤ 64 := by decide
theorem qfQ {s : List UInt8} (hs : s.length < 4000000000) {p i : Nat} {c : UInt8} {w r : List UInt8} (out : List (List AV)) (ho : out.length < 4000000000) (hw : w = c :: r) (hcs : bigA c = true ∨ vB c = true) (hp : p ≤ i) (hi : i ≤ s.length)
    (hwd : qqf (qp9 (i : Int) - qp9 (p : Int)) (qqq (qp9 (p : Int)) s) = w) (hil : i = p + w.length) {K : Option (AV × AH)}
    (hK : K = kOpt (qp3 (qqf (qp9 (i : Int) - qp9 (p : Int)) (qqq (qp9 (p : Int)) s)) 0) fun (b : UInt8) => kOpt (EVs (EV cfg) 11 [AV.int .u8 (b.toNat : Int), .int .u8 97, .int .u8 122]) fun v => qJ v fun (b : Bool) =>
      bif b then kOpt (EVf (EV cfg) 35 []) fun v => kSl v fun (rows) => kOpt (EVs (EV cfg) 34 [.str (qqf (qp9 (i : Int) - qp9 (p : Int)) (qqq (qp9 (p : Int)) s)), .sl rows]) fun v => qJ v fun (b : Bool) =>
        bif b then bif decide (((qqf (qp9 (i : Int) - qp9 (p : Int)) (qqq (qp9 (p : Int)) s)).length : Int) > 64) then bif qqk (0 + out.length) out.length && qH (out.length + 1) 40 then some (AV.tup [], [.rows false 5 [[.str s, .int .i64 (i : Int), .int .i64 (p : Int), .int .i64 343, .ms 1 0 (out.length + 1)]], .rows true 4 (qqr (qqf out.length out) [[AV.int .i64 4, .int .i64 0, .int .i64 (p : Int), .str (qqf (qp9 (i : Int) - qp9 (p : Int)) (qqq (qp9 (p : Int)) s))]])]) else none
          else bif qqk (0 + out.length) out.length && qH (out.length + 1) 40 then some (AV.tup [], [.rows false 5 [[.str s, .int .i64 (i : Int), .int .i64 (p : Int), .int .i64 0, .ms 1 0 (out.length + 1)]], .rows true 4 (qqr (qqf out.length out) [[AV.int .i64 4, .int .i64 0, .int .i64 (p : Int), .str (qqf (qp9 (i : Int) - qp9 (p : Int)) (qqq (qp9 (p : Int)) s))]])]) else none
        else bif decide (((qqf (qp9 (i : Int) - qp9 (p : Int)) (qqq (qp9 (p : Int)) s)).length : Int) > 64) then bif qqk (0 + out.length) out.length && qH (out.length + 1) 40 then some (AV.tup [], [.rows false 5 [[.str s, .int .i64 (i : Int), .int .i64 (p : Int), .int .i64 343, .ms 1 0 (out.length + 1)]], .rows true 4 (qqr (qqf out.length out) [[AV.int .i64 2, .int .i64 0, .int .i64 (p : Int), .str (qqf (qp9 (i : Int) - qp9 (p : Int)) (qqq (qp9 (p : Int)) s))]])]) else none
          else bif qqk (0 + out.length) out.length && qH (out.length + 1) 40 then some (AV.tup [], [.rows false 5 [[.str s, .int .i64 (i : Int), .int .i64 (p : Int), .int .i64 0, .ms 1 0 (out.length + 1)]], .rows true 4 (qqr (qqf out.length out) [[AV.int .i64 2, .int .i64 0, .int .i64 (p : Int), .str (qqf (qp9 (i : Int) - qp9 (p : Int)) (qqq (qp9 (p : Int)) s))]])]) else none
      else kOpt (EVf (EV cfg) 35 []) fun v => kSl v fun (rows) => kOpt (EVs (EV cfg) 34 [.str (qqf (qp9 (i : Int) - qp9 (p : Int)) (qqq (qp9 (p : Int)) s)), .sl rows]) fun v => qJ v fun (b : Bool) =>
        bif b then bif decide (((qqf (qp9 (i : Int) - qp9 (p : Int)) (qqq (qp9 (p : Int)) s)).length : Int) > 64) then bif qqk (0 + out.length) out.length && qH (out.length + 1) 40 then some (AV.tup [], [.rows false 5 [[.str s, .int .i64 (i : Int), .int .i64 (p : Int), .int .i64 343, .ms 1 0 (out.length + 1)]], .rows true 4 (qqr (qqf out.length out) [[AV.int .i64 4, .int .i64 0, .int .i64 (p : Int), .str (qqf (qp9 (i : Int) - qp9 (p : Int)) (qqq (qp9 (p : Int)) s))]])]) else none
          else bif qqk (0 + out.length) out.length && qH (out.length + 1) 40 then some (AV.tup [], [.rows false 5 [[.str s, .int .i64 (i : Int), .int .i64 (p : Int), .int .i64 0, .ms 1 0 (out.length + 1)]], .rows true 4 (qqr (qqf out.length out) [[AV.int .i64 4, .int .i64 0, .int .i64 (p : Int), .str (qqf (qp9 (i : Int) - qp9 (p : Int)) (qqq (qp9 (p : Int)) s))]])]) else none
        else bif decide (((qqf (qp9 (i : Int) - qp9 (p : Int)) (qqq (qp9 (p : Int)) s)).length : Int) > 64) then bif qqk (0 + out.length) out.length && qH (out.length + 1) 40 then some (AV.tup [], [.rows false 5 [[.str s, .int .i64 (i : Int), .int .i64 (p : Int), .int .i64 343, .ms 1 0 (out.length + 1)]], .rows true 4 (qqr (qqf out.length out) [[AV.int .i64 3, .int .i64 0, .int .i64 (p : Int), .str (qqf (qp9 (i : Int) - qp9 (p : Int)) (qqq (qp9 (p : Int)) s))]])]) else none
          else bif qqk (0 + out.length) out.length && qH (out.length + 1) 40 then some (AV.tup [], [.rows false 5 [[.str s, .int .i64 (i : Int), .int .i64 (p : Int), .int .i64 0, .ms 1 0 (out.length + 1)]], .rows true 4 (qqr (qqf out.length out) [[AV.int .i64 3, .int .i64 0, .int .i64 (p : Int), .str (qqf (qp9 (i : Int) - qp9 (p : Int)) (qqq (qp9 (p : Int)) s))]])]) else none) :
    Gets K (xb s p out (if bigA c then vq 3 w w.length else if vT.contains w then .ok 4 0 w w.length else vq 2 w w.length)) := by
  subst hK
  rw [hwd]
  have hb1 : (qqk (0 + out.length) out.length && qH (out.length + 1) 40) = true := by
    rw [qha (by omega)]; simp
  have hat : qp3 w 0 = some c := by rw [hw]; rfl
  have hwl : w.length ≤ s.length := by omega
  simp only [hat, qb, vI, qa, qg4, qlG, qdQ, hb1, cond_true, yS]
  rw [qoP vT w (by decide)]
  simp only [qb, qa]
  have post : ∀ k : Int, Gets (bif decide ((w.length : Int) > 64) then some (AV.tup [], [ABlk.rows false 5 [[.str s, .int .i64 (i : Int), .int .i64 (p : Int), .int .i64 343, .ms 1 0 (out.length + 1)]], .rows true 4 (out ++ [[AV.int .i64 k, .int .i64 0, .int .i64 (p : Int), .str w]])]) else some (AV.tup [], [ABlk.rows false 5 [[.str s, .int .i64 (i : Int), .int .i64 (p : Int), .int .i64 0, .ms 1 0 (out.length + 1)]], .rows true 4 (out ++ [[AV.int .i64 k, .int .i64 0, .int .i64 (p : Int), .str w]])])) (xb s p out (vq k w w.length)) := by
    intro k
    unfold vq
    by_cases hl : 64 < w.length
    · rw [decide_eq_true (show (w.length : Int) > 64 by omega), if_pos hl]
      exact ⟨_, rfl, by decide, (i : Int), (out ++ [[AV.int .i64 k, .int .i64 0, .int .i64 (p : Int), .str w]]), by simp⟩
    · rw [decide_eq_false (show ¬ (w.length : Int) > 64 by omega), if_neg hl]
      refine ⟨_, rfl, ?_⟩
      show _ = _
      rw [hil]; simp
  cases hsm : vB c with
  | true =>
    have hnb : bigA c = false := by
      unfold bigA; unfold vB at hsm
      have h1 : 97 ≤ c.toNat ∧ c.toNat ≤ 122 := by simpa using hsm
      have h2 : (c == 95) = false := by
        rw [beq_eq_false_iff_ne]; rintro rfl; revert h1; decide
      rw [h2, decide_eq_false (show ¬ c.toNat ≤ 90 by omega)]; simp
    simp only [hnb, cond_true, qp0, if_false]
    cases hwc : vT.contains w with
    | true =>
      have hle := qoM w (by simpa using hwc)
      simp only [cond_true, if_true]
      rw [decide_eq_false (show ¬ (w.length : Int) > 64 by omega)]
      refine ⟨_, rfl, ?_⟩
      show _ = _
      rw [hil]; simp
    | false =>
      simp only [cond_false, qp0, if_false]
      exact post 2
  | false =>
    have hbg : bigA c = true := by rcases hcs with h | h; · exact h
                                   · rw [hsm] at h; cases h
    have hwc : vT.contains w = false := by
      rw [Bool.eq_false_iff, ne_eq, List.contains_iff_mem]
      intro hm
      have := qmF w hm c r hw
      rw [hsm] at this; cases this
    simp only [hbg, cond_false, if_true, hwc]
    exact post 3
theorem qmY {s : List UInt8} (hs : s.length < 4000000000) {p : Nat} {c : UInt8} (out : List (List AV)) (ho : out.length < 4000000000) (hc : s[p]? = some c) (hcs : bigA c = true ∨ vB c = true) :
  Gets (EVj (EV cfg) 12 1 [.ptr 0 0 0] (rsI s p p 0 out)) (xb s p out (if bigA c then vq 3 ((s.drop p).takeWhile qA) ((s.drop p).takeWhile qA).length else if vT.contains ((s.drop p).takeWhile qA) then .ok 4 0 ((s.drop p).takeWhile qA) ((s.drop p).takeWhile qA).length else vq 2 ((s.drop p).takeWhile qA) ((s.drop p).takeWhile qA).length)) := by
 have hlt : p < s.length := (qpV.1 hc).1
 refine qlM _ _ _ _ _ ?_
 have hlc : qA c = true := by
  unfold qA
  rcases hcs with h | h
  ·unfold bigA at h; revert h; cases vB c <;> cases (decide (65 ≤ c.toNat) && decide (c.toNat ≤ 90)) <;> cases c == 95 <;> simp
  ·rw [h]; rfl
 have hw : ∃ r, (s.drop p).takeWhile qA = c :: r := by rw [qL hc, List.takeWhile_cons, if_pos hlc]; exact ⟨_, rfl⟩
 obtain ⟨r, hw⟩ := hw
 have hln := qdt (f := qA) (s.drop p)
 rw [qqp] at hln
 have go : ∀ k i : Nat, s.length - i = k → p ≤ i → i ≤ s.length → i + ((s.drop i).takeWhile qA).length = p + ((s.drop p).takeWhile qA).length → Gets (qcE s (i : Int) (p : Int) 0 out.length out) (xb s p out (if bigA c then vq 3 ((s.drop p).takeWhile qA) ((s.drop p).takeWhile qA).length else if vT.contains ((s.drop p).takeWhile qA) then .ok 4 0 ((s.drop p).takeWhile qA) ((s.drop p).takeWhile qA).length else vq 2 ((s.drop p).takeWhile qA) ((s.drop p).takeWhile qA).length)) := by
  intro k
  induction k with
  | zero =>
   intro i hk hp hi hl
   refine qdc _ _ _ _ _ _ ?_
   unfold zh7 zh8 zh5 zh6 zh0 zh3 zh4 zh1 zh2
   rw [qqg (show s.length ≤ i by omega)] at hl
   have hl : i = p + ((s.drop p).takeWhile qA).length := by simpa using hl
   rw [decide_eq_false (show ¬ (i : Int) < (s.length : Int) by omega)]
   have h1 : (qn 0 (i : Int) && qn (i : Int) (s.length : Int)) = true := by simp; omega
   have h2 : (qn 0 (p : Int) && qn (p : Int) ((qp9 (i : Int) : Nat) : Int)) = true := by simp; omega
   simp only [h1, h2, cond_true, cond_false]
   exact qfQ hs out ho hw hcs hp hi (by rw [qqc, qqc, show i - p = ((s.drop p).takeWhile qA).length by omega, qad]) hl rfl
  | succ k ih =>
   intro i hk hp hi hl
   obtain ⟨b, hb⟩ : ∃ b, s[i]? = some b := ⟨_, qp1 (by omega)⟩
   refine qdc _ _ _ _ _ _ ?_
   unfold zh7 zh8 zh5 zh6 zh0 zh3 zh4 zh1 zh2
   rw [decide_eq_true (show (i : Int) < (s.length : Int) by omega)]
   have h0 : qn 0 (i : Int) = true := by simp
   have hg : qp3 s (qp9 (i : Int)) = some b := by rw [qqc]; exact hb
   simp only [h0, cond_true, hg, qb, qku, qa]
   rw [qL hb] at hl
   cases hd : qA b with
   | true =>
    simp only [cond_true]
    rw [qef hd] at hl
    rw [qM (by omega)]
    exact ih (i + 1) (by omega) (by omega) (by omega) (by omega)
   | false =>
    rw [qid hd] at hl
    have hl : i = p + ((s.drop p).takeWhile qA).length := by simpa using hl
    have h1 : (true && qn (i : Int) (s.length : Int)) = true := by simp; omega
    have h2 : (qn 0 (p : Int) && qn (p : Int) ((qp9 (i : Int) : Nat) : Int)) = true := by simp; omega
    simp only [h1, h2, cond_true, cond_false]
    exact qfQ hs out ho hw hcs hp hi (by rw [qqc, qqc, show i - p = ((s.drop p).takeWhile qA).length by omega, qad]) hl rfl
 exact go _ p rfl (qp2 _) (by omega) rfl
theorem qlR {s : List UInt8} {p : Nat} {out : List (List AV)} {w : List UInt8} {i : Nat} {len : Nat} {q : AV × AH} (hl : 64 < w.length → q = (.tup [], rsI s i p 343 (out ++ [[.int .i64 2, .int .i64 0, .int .i64 (p : Int), .str w]])))
  (hs : ¬ 64 < w.length → q = (.tup [], rsI s i p 0 (out ++ [[.int .i64 2, .int .i64 0, .int .i64 (p : Int), .str w]]))) (hi : i = p + len) : xb s p out (vq 2 w len) q := by
 unfold vq
 by_cases h : 64 < w.length
 ·rw [if_pos h]; exact ⟨by decide, (i : Int), _, hl h⟩
 ·rw [if_neg h]
  rw [hs h, hi]
  rfl
def qg0 (s : List UInt8) (p i : Nat) (out : List (List AV)) : Option (List UInt8 × Nat) → AV × AH → Prop
 | some q, r => (64 < q.1.length → r = (.tup [], rsI s ((i + q.2 : Nat) : Int) p 343 (out ++ [[.int .i64 2, .int .i64 0, .int .i64 (p : Int), .str q.1]]))) ∧ (¬ 64 < q.1.length → r = (.tup [], rsI s ((i + q.2 : Nat) : Int) p 0 (out ++ [[.int .i64 2, .int .i64 0, .int .i64 (p : Int), .str q.1]])))
 | none, r => ∃ (p' : Int) (out' : List (List AV)), r = (.tup [], rsI s p' p 341 out')
theorem yH {s : List UInt8} {p i d : Nat} {out : List (List AV)} {o : Option (List UInt8 × Nat)} {r : AV × AH} (h : qg0 s p (i + d) out o r) : qg0 s p i out (o.map fun q => (q.1, q.2 + d)) r := by
 cases o with
 | none => exact h
 | some q =>
  have e : i + (q.2 + d) = i + d + q.2 := by omega
  exact ⟨fun hl => by rw [e]; exact h.1 hl, fun hl => by rw [e]; exact h.2 hl⟩
theorem qcL {out : List (List AV)} (ho : out.length < 4000000000) : (qqk (0 + out.length) out.length && qH (out.length + 1) 40) = true := by
 rw [qha (by omega)]; simp
theorem zJ {s : List UInt8} {p i : Nat} (p' : Int) {acc : List UInt8} {out : List (List AV)} (ho : out.length < 4000000000) (ha : acc.length < 4000000000) : Gets (zE acc.length s p' p 341 out.length (accR acc) out) (qg0 s p i out none) := by
 refine qcd _ _ _ _ _ _ _ _ ?_
 unfold zi0 zi40 zi41 zi45 zi46 zi47 zi48 zi42 zi43 zi44 zi1 zi2 zi3 zi4 zi5 zi6 zi7 zi8 zi26 zi36 zi37 zi38 zi39 zi27 zi32 zi33 zi34 zi35 zi28 zi29 zi30 zi31 zi9 zi10 zi11 zi12 zi13 zi14 zi15 zi16 zi23 zi24 zi25 zi17 zi18 zi19 zi20 zi21 zi22
 simp only [show ((341 : Int) == 0) = false from rfl, cond_false]
 rw [qie _ _ (by simp)]
 simp only [qb, List.drop_zero, List.take_of_length_le (show (accR acc).length ≤ acc.length by simp), qaa, qcL ho, cond_true, yS]
 exact ⟨_, rfl, IntKind.wrap .i64 (p' + 1), out ++ [[AV.int .i64 2, .int .i64 0, .int .i64 (p : Int), .str acc]], by simp⟩
theorem qfO {s : List UInt8} (hs : s.length < 1000000000) {p : Nat} {out : List (List AV)} (ho : out.length < 4000000000) : ∀ (k i : Nat) (acc : List UInt8), s.length - i = k → i ≤ s.length → acc.length ≤ i → Gets (zE acc.length s (i : Int) (p : Int) 0 out.length (accR acc) out) (qg0 s p i out (vX 0 (s.drop i) acc)) := by
 intro k
 induction k using Nat.strongRecOn with
 | _ k ih =>
  intro i acc hk hi ha
  have hb1 : (qqk (0 + acc.length) (accR acc).length && qH (acc.length + 1) 1) = true := by rw [qlB (by omega)]; simp
  refine qcd _ _ _ _ _ _ _ _ ?_
  unfold zi0 zi40 zi41 zi45 zi46 zi47 zi48 zi42 zi43 zi44 zi1 zi2 zi3 zi4 zi5 zi6 zi7 zi8 zi26 zi36 zi37 zi38 zi39 zi27 zi32 zi33 zi34 zi35 zi28 zi29 zi30 zi31 zi9 zi10 zi11 zi12 zi13 zi14 zi15 zi16 zi23 zi24 zi25 zi17 zi18 zi19 zi20 zi21 zi22
  simp only [show ((0 : Int) == 0) = true from rfl, cond_true]
  rcases yf (s := s) (p := i) with h | ⟨c, hc⟩
  ·rw [y4 (by omega), qqg h]
   simp only [qb, qe, qc, qw, qy, qj, qp5, cond_true, qd, qk, ql, qf, qm, qo, qq, qx, show ((0 : Int) != 39) = true from rfl]
   rw [y4 (by omega)]
   simp only [qb, qe, qc, qw, qy, qj, qp5, cond_true, cond_false, qd, qk, ql, qf, qm, qo, qq, qa, qx, show ((0 : Int) == 92) = false from rfl, vI, show (decide ((0 : Int) ≥ 32) && decide ((0 : Int) ≤ 126)) = false from rfl, Bool.not_false, hb1]
   rw [show ((0 : Int)) = ((0 : UInt8).toNat : Int) from rfl, xa]
   have := zJ (s := s) (p := p) (i := i) (IntKind.wrap .i64 ((i : Int) + 1)) (acc := acc ++ [0]) ho (by simp; omega)
   rw [qqe] at this
   exact this
  ·have hlt : i < s.length := (qpV.1 hc).1
   have h39 : ((c.toNat : Int) != 39) = !(c == 39) := by rw [bne, show ((c.toNat : Int) == 39) = (c == 39) from uEq c 39]
   have h92 : ((c.toNat : Int) == 92) = (c == 92) := uEq c 92
   rw [yo hc, qL hc, vX]
   simp only [qb, qe, qc, qw, qy, qj, qp5, cond_true, qd, qk, ql, qf, qm, qo, qq, qx, h39]
   cases hc39 : c == 39 with
   | true =>
    simp only [Bool.not_true, cond_false, if_true, show ((0 : Int) == 0) = true from rfl, cond_true]
    rw [qie _ _ (by simp)]
    simp only [qb, List.drop_zero, List.take_of_length_le (show (accR acc).length ≤ acc.length by simp), qaa, qcL ho, cond_true, yS]
    rw [qM (by omega)]
    by_cases hl : 64 < acc.length
    ·rw [decide_eq_true (show (acc.length : Int) > 64 by omega)]
     exact ⟨_, rfl, fun _ => by simp, fun h => absurd hl h⟩
    ·rw [decide_eq_false (show ¬ (acc.length : Int) > 64 by omega)]
     exact ⟨_, rfl, fun h => absurd h hl, fun _ => by simp⟩
   | false =>
    simp only [Bool.not_false, cond_true, qp0, if_false]
    rw [yo hc]
    simp only [qb, qe, qc, qw, qy, qj, qp5, cond_true, qd, qk, ql, qf, qm, qo, qq, qx, h92]
    cases hc92 : c == 92 with
    | true =>
     simp only [cond_true, if_true]
     rw [qM (by omega)]
     refine Gets.bind (qbW (by omega) p 0 out (show i + 1 ≤ s.length by omega)) fun q hq => ?_
     cases he : escA (s.drop (i + 1)) with
     | none =>
      rw [he] at hq
      obtain ⟨p', rfl⟩ := hq
      simp only [qe, qc, qw, qy, qj, qp5, cond_true, qd, qk, ql, qf, qm, qo, qq, qx, hb1]
      rw [show ((0 : Int)) = ((0 : UInt8).toNat : Int) from rfl, xa]
      have := zJ (s := s) (p := p) (i := i) p' (acc := acc ++ [0]) ho (by simp; omega)
      rw [qqe] at this
      exact this
     | some r =>
      rw [he] at hq
      cases hq
      have hr := qc3 he
      rw [qqp] at hr
      simp only [qe, qc, qw, qy, qj, qp5, cond_true, qd, qk, ql, qf, qm, qo, qq, qx, hb1]
      rw [xa, qaO _ _ _ (by rw [qqp]; exact hr.2), List.drop_drop]
      have := ih (s.length - (i + 1 + r.2)) (by omega) (i + 1 + r.2) (acc ++ [r.1]) rfl (by omega) (by simp; omega)
      rw [qqe] at this
      refine this.mono fun q hq => ?_
      exact yH (d := 1) (yH (i := i + 1) (d := r.2) hq)
    | false =>
     simp only [cond_false, qp0, if_false, vI, qb, qa]
     have d1 : decide ((c.toNat : Int) ≥ 32) = decide (32 ≤ c.toNat) := by simp only [decide_eq_decide]; omega
     have d2 : decide ((c.toNat : Int) ≤ 126) = decide (c.toNat < 127) := by simp only [decide_eq_decide]; omega
     rw [d1, d2]
     cases hin : (decide (32 ≤ c.toNat) && decide (c.toNat < 127)) with
     | false =>
      simp only [Bool.not_false, cond_true, hb1, qp0, if_false]
      rw [xa]
      have := zJ (s := s) (p := p) (i := i) (IntKind.wrap .i64 ((i : Int) + 1)) (acc := acc ++ [c]) ho (by simp; omega)
      rw [qqe] at this
      exact this
     | true =>
      simp only [Bool.not_true, cond_false, hb1, cond_true, if_true]
      rw [xa, qM (by omega)]
      have := ih (s.length - (i + 1)) (by omega) (i + 1) (acc ++ [c]) rfl (by omega) (by simp; omega)
      rw [qqe] at this
      exact this.mono fun q hq => yH (d := 1) hq
theorem qkt {s : List UInt8} (hs : s.length < 1000000000) {p : Nat} {out : List (List AV)} (ho : out.length < 4000000000) (i : Nat) (acc : List UInt8) (hi : i ≤ s.length) (ha : acc.length ≤ i) : Gets (qe2 acc.length s (i : Int) (p : Int) 0 out.length out (accR acc)) (qg0 s p i out (vX 0 (s.drop i) acc)) := by
 have hb1 : (qqk (0 + acc.length) (accR acc).length && qH (acc.length + 1) 1) = true := by rw [qlB (by omega)]; simp
 refine qhX _ _ _ _ _ _ _ _ ?_
 unfold zi0 zi40 zi41 zi45 zi46 zi47 zi48 zi42 zi43 zi44 zi1 zi2 zi3 zi4 zi5 zi6 zi7 zi8 zi26 zi36 zi37 zi38 zi39 zi27 zi32 zi33 zi34 zi35 zi28 zi29 zi30 zi31 zi9 zi10 zi11 zi12 zi13 zi14 zi15 zi16 zi23 zi24 zi25 zi17 zi18 zi19 zi20 zi21 zi22
 simp only [show ((0 : Int) == 0) = true from rfl, cond_true]
 rcases yf (s := s) (p := i) with h | ⟨c, hc⟩
 ·rw [y4 (by omega), qqg h]
  simp only [qb, qe, qc, qw, qy, qj, qp5, cond_true, qd, qk, ql, qf, qm, qo, qq, qx, show ((0 : Int) != 39) = true from rfl]
  rw [y4 (by omega)]
  simp only [qb, qe, qc, qw, qy, qj, qp5, cond_true, cond_false, qd, qk, ql, qf, qm, qo, qq, qa, qx, show ((0 : Int) == 92) = false from rfl, vI, show (decide ((0 : Int) ≥ 32) && decide ((0 : Int) ≤ 126)) = false from rfl, Bool.not_false, hb1]
  rw [show ((0 : Int)) = ((0 : UInt8).toNat : Int) from rfl, xa]
  have := zJ (s := s) (p := p) (i := i) (IntKind.wrap .i64 ((i : Int) + 1)) (acc := acc ++ [0]) ho (by simp; omega)
  rw [qqe] at this
  exact this
 ·have hlt : i < s.length := (qpV.1 hc).1
  have h39 : ((c.toNat : Int) != 39) = !(c == 39) := by rw [bne, show ((c.toNat : Int) == 39) = (c == 39) from uEq c 39]
  have h92 : ((c.toNat : Int) == 92) = (c == 92) := uEq c 92
  rw [yo hc, qL hc, vX]
  simp only [qb, qe, qc, qw, qy, qj, qp5, cond_true, qd, qk, ql, qf, qm, qo, qq, qx, h39]
  cases hc39 : c == 39 with
  | true =>
   simp only [Bool.not_true, cond_false, if_true, show ((0 : Int) == 0) = true from rfl, cond_true]
   rw [qie _ _ (by simp)]
   simp only [qb, List.drop_zero, List.take_of_length_le (show (accR acc).length ≤ acc.length by simp), qaa, qcL ho, cond_true, yS]
   rw [qM (by omega)]
   by_cases hl : 64 < acc.length
   ·rw [decide_eq_true (show (acc.length : Int) > 64 by omega)]
    exact ⟨_, rfl, fun _ => by simp, fun h => absurd hl h⟩
   ·rw [decide_eq_false (show ¬ (acc.length : Int) > 64 by omega)]
    exact ⟨_, rfl, fun h => absurd h hl, fun _ => by simp⟩
  | false =>
   simp only [Bool.not_false, cond_true, qp0, if_false]
   rw [yo hc]
   simp only [qb, qe, qc, qw, qy, qj, qp5, cond_true, qd, qk, ql, qf, qm, qo, qq, qx, h92]
   cases hc92 : c == 92 with
   | true =>
    simp only [cond_true, if_true]
    rw [qM (by omega)]
    refine Gets.bind (qbW (by omega) p 0 out (show i + 1 ≤ s.length by omega)) fun q hq => ?_
    cases he : escA (s.drop (i + 1)) with
    | none =>
     rw [he] at hq
     obtain ⟨p', rfl⟩ := hq
     simp only [qe, qc, qw, qy, qj, qp5, cond_true, qd, qk, ql, qf, qm, qo, qq, qx, hb1]
     rw [show ((0 : Int)) = ((0 : UInt8).toNat : Int) from rfl, xa]
     have := zJ (s := s) (p := p) (i := i) p' (acc := acc ++ [0]) ho (by simp; omega)
     rw [qqe] at this
     exact this
    | some r =>
     rw [he] at hq
     cases hq
     have hr := qc3 he
     rw [qqp] at hr
     simp only [qe, qc, qw, qy, qj, qp5, cond_true, qd, qk, ql, qf, qm, qo, qq, qx, hb1]
     rw [xa, qaO _ _ _ (by rw [qqp]; exact hr.2), List.drop_drop]
     have := qfO (p := p) hs ho _ (i + 1 + r.2) (acc ++ [r.1]) rfl (by omega) (by simp; omega)
     rw [qqe] at this
     refine this.mono fun q hq => ?_
     exact yH (d := 1) (yH (i := i + 1) (d := r.2) hq)
   | false =>
    simp only [cond_false, qp0, if_false, vI, qb, qa]
    have d1 : decide ((c.toNat : Int) ≥ 32) = decide (32 ≤ c.toNat) := by simp only [decide_eq_decide]; omega
    have d2 : decide ((c.toNat : Int) ≤ 126) = decide (c.toNat < 127) := by simp only [decide_eq_decide]; omega
    rw [d1, d2]
    cases hin : (decide (32 ≤ c.toNat) && decide (c.toNat < 127)) with
    | false =>
     simp only [Bool.not_false, cond_true, hb1, qp0, if_false]
     rw [xa]
     have := zJ (s := s) (p := p) (i := i) (IntKind.wrap .i64 ((i : Int) + 1)) (acc := acc ++ [c]) ho (by simp; omega)
     rw [qqe] at this
     exact this
    | true =>
     simp only [Bool.not_true, cond_false, hb1, cond_true, if_true]
     rw [xa, qM (by omega)]
     have := qfO (p := p) hs ho _ (i + 1) (acc ++ [c]) rfl (by omega) (by simp; omega)
     rw [qqe] at this
     exact this.mono fun q hq => yH (d := 1) hq
theorem qks {s : List UInt8} (hs : s.length < 1000000000) {p : Nat} {out : List (List AV)} (ho : out.length < 4000000000) (hp : p < s.length) :
  Gets (EVj (EV cfg) 13 1 [.ptr 0 0 0] (rsI s p p 0 out)) (xb s p out (match vX 0 (s.drop (p + 1)) [] with | some q => vq 2 q.1 (q.2 + 1) | none => .err 341)) := by
 refine qiZ _ _ _ _ _ ?_
 rw [qM (by omega)]
 refine (qkt hs ho (p + 1) [] (by omega) (by simp)).mono fun r hr => ?_
 cases hq : vX 0 (s.drop (p + 1)) [] with
 | none =>
  rw [hq] at hr
  obtain ⟨p', out', rfl⟩ := hr
  exact ⟨by decide, p', out', rfl⟩
 | some q =>
  rw [hq] at hr
  exact qlR (i := p + 1 + q.2) hr.1 hr.2 (by omega)
theorem qk8 {a b : Int} (h : b ≠ 0) : xJ (Op.intDiv .quo .i64 a b) = some (.int .i64 (IntKind.wrap .i64 (a.tdiv b))) := by
 unfold Op.intDiv; rw [if_neg h]; rfl
theorem qaw {s : List UInt8} {p i : Nat} {v e : Int} {out : List (List AV)} (ho : out.length < 4000000000) {t : TkA} (h0 : e = 0 → t = .ok 1 v [] (i - p)) (h1 : e ≠ 0 → t = .err e) (hpi : p ≤ i) :
  Gets (bif qqk (0 + out.length) out.length && qH (out.length + 1) 40 then some (AV.tup [], [ABlk.rows false 5 [[.str s, .int .i64 (i : Int), .int .i64 (p : Int), .int .i64 e, .ms 1 0 (out.length + 1)]], .rows true 4 (qqr (qqf out.length out) [[AV.int .i64 1, .int .i64 v, .int .i64 (p : Int), .str []]])]) else none) (xb s p out t) := by
 rw [qcL ho, yS]
 simp only [cond_true]
 by_cases he : e = 0
 ·rw [h0 he, he]
  refine ⟨_, rfl, ?_⟩
  show _ = _
  rw [show p + (i - p) = i by omega]; simp
 ·rw [h1 he]
  exact ⟨_, rfl, he, (i : Int), out ++ [[AV.int .i64 1, .int .i64 v, .int .i64 (p : Int), .str []]], by simp⟩
theorem qkE (w : List UInt8) (b : UInt8) : numA (w ++ [b]) = 10 * numA w + (b.toNat - 48) := by unfold numA; rw [List.foldl_append]; rfl
theorem qmX {s : List UInt8} (hs : s.length < 4000000000) {p : Nat} {c : UInt8} {out : List (List AV)} (ho : out.length < 4000000000) (hc : s[p]? = some c) (hne : c ≠ 36) : ∀ (k i : Nat) (v : Int), s.length - i = k → p ≤ i → i ≤ s.length →
  Gets (xM v s (i : Int) (p : Int) 342 out.length out) (xb s p out (.err 342)) := by
 intro k
 have h0p : qn 0 (p : Int) = true := by simp
 have h36 : ((c.toNat : Int) != 36) = true := by rw [bne, show ((c.toNat : Int) == 36) = (c == 36) from uEq c 36]; simpa using hne
 have hgp : qp3 s (qp9 (p : Int)) = some c := by rw [qqc]; exact hc
 induction k with
 | zero =>
  intro i v hk hp hi
  refine xR _ _ _ _ _ _ _ ?_
  unfold zj0 zj1
  rw [decide_eq_false (show ¬ (i : Int) < (s.length : Int) by omega)]
  simp only [h0p, hgp, qb, cond_true, cond_false, h36]
  exact qaw ho (fun h => by cases h) (fun _ => rfl) hp
 | succ k ih =>
  intro i v hk hp hi
  obtain ⟨b, hb⟩ : ∃ b, s[i]? = some b := ⟨_, qp1 (by omega)⟩
  have h0 : qn 0 (i : Int) = true := by simp
  have hg : qp3 s (qp9 (i : Int)) = some b := by rw [qqc]; exact hb
  refine xR _ _ _ _ _ _ _ ?_
  unfold zj0 zj1
  rw [decide_eq_true (show (i : Int) < (s.length : Int) by omega)]
  simp only [h0p, hgp, qb, cond_true, h36, h0, hg, vI, qa, qce]
  cases hd : qB b with
  | true =>
   simp only [cond_true, qk8 (show (10 : Int) ≠ 0 by decide), qb, qo]
   rw [qM (by omega)]
   cases decide (v > _) with
   | true => exact ih (i + 1) _ (by omega) (by omega) (by omega)
   | false => exact ih (i + 1) _ (by omega) (by omega) (by omega)
  | false =>
   simp only [cond_false]
   exact qaw ho (fun h => by cases h) (fun _ => rfl) hp
theorem qlL {s : List UInt8} (hs : s.length < 4000000000) {p : Nat} {c : UInt8} {out : List (List AV)} (ho : out.length < 4000000000) (hc : s[p]? = some c) (hne : c ≠ 36) : ∀ (k i : Nat) (w : List UInt8), s.length - i = k → i = p + w.length → i ≤ s.length → w ++ (s.drop i).takeWhile qB = (s.drop p).takeWhile qB → numA w ≤ 576460752303423487 →
  Gets (xM (numA w : Int) s (i : Int) (p : Int) 0 out.length out) (xb s p out (if 576460752303423487 < numA ((s.drop p).takeWhile qB) then .err 342 else .ok 1 (numA ((s.drop p).takeWhile qB) : Int) [] ((s.drop p).takeWhile qB).length)) := by
 intro k
 have h0p : qn 0 (p : Int) = true := by simp
 have h36 : ((c.toNat : Int) != 36) = true := by rw [bne, show ((c.toNat : Int) == 36) = (c == 36) from uEq c 36]; simpa using hne
 have hgp : qp3 s (qp9 (p : Int)) = some c := by rw [qqc]; exact hc
 induction k with
 | zero =>
  intro i w hk hp hi hw hn
  refine xR _ _ _ _ _ _ _ ?_
  unfold zj0 zj1
  rw [decide_eq_false (show ¬ (i : Int) < (s.length : Int) by omega)]
  simp only [h0p, hgp, qb, cond_true, cond_false, h36]
  rw [qqg (show s.length ≤ i by omega), List.takeWhile_nil, List.append_nil] at hw
  rw [← hw, if_neg (by omega)]
  exact qaw ho (fun _ => by rw [show i - p = w.length by omega]) (fun h => absurd rfl h) (by omega)
 | succ k ih =>
  intro i w hk hp hi hw hn
  obtain ⟨b, hb⟩ : ∃ b, s[i]? = some b := ⟨_, qp1 (by omega)⟩
  have h0 : qn 0 (i : Int) = true := by simp
  have hg : qp3 s (qp9 (i : Int)) = some b := by rw [qqc]; exact hb
  refine xR _ _ _ _ _ _ _ ?_
  unfold zj0 zj1
  rw [decide_eq_true (show (i : Int) < (s.length : Int) by omega)]
  simp only [h0p, hgp, qb, cond_true, h36, h0, hg, vI, qa, qce]
  rw [qL hb, List.takeWhile_cons] at hw
  cases hd : qB b with
  | true =>
   rw [if_pos hd] at hw
   have h1 : 48 ≤ b.toNat ∧ b.toNat ≤ 57 := by simpa [qB] using hd
   have hw2 : (w ++ [b]) ++ (s.drop (i + 1)).takeWhile qB = (s.drop p).takeWhile qB := by rw [← hw]; simp
   have hge := qhe ((s.drop (i + 1)).takeWhile qB) (numA (w ++ [b]))
   have hall : numA ((s.drop p).takeWhile qB) = ((s.drop (i + 1)).takeWhile qB).foldl (fun n b => 10 * n + (b.toNat - 48)) (numA (w ++ [b])) := by rw [← hw2]; unfold numA; rw [List.foldl_append]
   have hna := qkE w b
   have ed : IntKind.wrap .i64 (IntKind.wrap .u8 ((b.toNat : Int) - 48)) = ((b.toNat - 48 : Nat) : Int) := by
    rw [show IntKind.wrap .u8 ((b.toNat : Int) - 48) = (b.toNat : Int) - 48 by simp [IntKind.wrap, IntKind.bits, IntKind.signed]; omega, vK (by omega) (by omega)]; omega
   simp only [cond_true, qk8 (show (10 : Int) ≠ 0 by decide), qb, qo, ed]
   rw [qM (by omega), vK (x := (576460752303423487 : Int) - ((b.toNat - 48 : Nat) : Int)) (by omega) (by omega), Int.tdiv_eq_ediv_of_nonneg (by omega), vK (by omega) (by omega)]
   by_cases hg2 : 576460752303423487 < numA (w ++ [b])
   ·rw [decide_eq_true (show (numA w : Int) > ((576460752303423487 : Int) - ((b.toNat - 48 : Nat) : Int)) / 10 by omega), if_pos (by omega)]
    exact qmX hs ho hc hne _ (i + 1) _ rfl (by omega) (by omega)
   ·rw [decide_eq_false (show ¬ (numA w : Int) > ((576460752303423487 : Int) - ((b.toNat - 48 : Nat) : Int)) / 10 by omega)]
    simp only [cond_false]
    have e2 : IntKind.wrap .i64 (IntKind.wrap .i64 (10 * (numA w : Int)) + ((b.toNat - 48 : Nat) : Int)) = ((numA (w ++ [b]) : Nat) : Int) := by
     rw [vK (x := 10 * (numA w : Int)) (by omega) (by omega), vK (by omega) (by omega), hna]; omega
    rw [e2]
    exact ih (i + 1) (w ++ [b]) (by omega) (by simp; omega) (by omega) hw2 (by omega)
  | false =>
   rw [if_neg (by simp [hd]), List.append_nil] at hw
   simp only [cond_false]
   rw [← hw, if_neg (by omega)]
   exact qaw ho (fun _ => by rw [show i - p = w.length by omega]) (fun h => absurd rfl h) (by omega)
theorem qkv {s : List UInt8} (hs : s.length < 4000000000) {p : Nat} {c : UInt8} {out : List (List AV)} (ho : out.length < 4000000000) (hc : s[p]? = some c) (hd : qB c = true) :
  Gets (EVj (EV cfg) 14 1 [.ptr 0 0 0] (rsI s p p 0 out)) (xb s p out (if 576460752303423487 < numA ((s.drop p).takeWhile qB) then .err 342 else .ok 1 (numA ((s.drop p).takeWhile qB) : Int) [] ((s.drop p).takeWhile qB).length)) := by
 have hlt : p < s.length := (qpV.1 hc).1
 have hne : c ≠ 36 := by rintro rfl; revert hd; decide
 refine qdB _ _ _ _ _ ?_
 rw [yo hc]
 have h36 : ((c.toNat : Int) == 36) = false := by rw [show ((c.toNat : Int) == 36) = (c == 36) from uEq c 36]; simpa using hne
 simp only [qb, qe, qc, qw, qy, qj, qp5, cond_true, cond_false, qd, qk, ql, qf, qm, qo, qq, qx, h36]
 exact qlL hs ho hc hne _ p [] rfl (by simp) (by omega) (by simp) (by decide)
theorem qhH {s : List UInt8} {p i : Nat} {v e : Int} {out : List (List AV)} (ho : out.length < 4000000000) (hc : s[p]? = some 36) {t : TkA} (h0 : e = 0 → t = .ok 1 v [] (i - p)) (h1 : e ≠ 0 → t = .err e) (hpi : p ≤ i) :
  Gets (xM v s (i : Int) (p : Int) e out.length out) (xb s p out t) := by
 refine xR _ _ _ _ _ _ _ ?_
 unfold zj0 zj1
 have h0p : qn 0 (p : Int) = true := by simp
 have hgp : qp3 s (qp9 (p : Int)) = some 36 := by rw [qqc]; exact hc
 simp only [h0p, hgp, qb, cond_true, show (((36 : UInt8).toNat : Int) != 36) = false from rfl, cond_false]
 exact qaw ho h0 h1 hpi
theorem qdC {s : List UInt8} {p : Nat} {p' v e : Int} {out : List (List AV)} (ho : out.length < 4000000000) (hc : s[p]? = some 36) (he : e ≠ 0) :
  Gets (xM v s p' (p : Int) e out.length out) (xb s p out (.err e)) := by
 refine xR _ _ _ _ _ _ _ ?_
 unfold zj0 zj1
 have h0p : qn 0 (p : Int) = true := by simp
 have hgp : qp3 s (qp9 (p : Int)) = some 36 := by rw [qqc]; exact hc
 simp only [h0p, hgp, qb, cond_true, show (((36 : UInt8).toNat : Int) != 36) = false from rfl, cond_false, qcL ho, yS]
 exact ⟨_, rfl, he, p', out ++ [[AV.int .i64 1, .int .i64 v, .int .i64 (p : Int), .str []]], by simp⟩
theorem qmZ {s : List UInt8} (hs : s.length < 4000000000) {p : Nat} {out : List (List AV)} (ho : out.length < 4000000000) (hc : s[p]? = some 36) :
  Gets (EVj (EV cfg) 14 1 [.ptr 0 0 0] (rsI s p p 0 out)) (xb s p out (qbQ (s.drop (p + 1)))) := by
 have hlt : p < s.length := (qpV.1 hc).1
 refine qdB _ _ _ _ _ ?_
 rw [yo hc]
 simp only [qb, qe, qc, qw, qy, qj, qp5, cond_true, qd, qk, ql, qf, qm, qo, qq, qx, show (((36 : UInt8).toNat : Int) == 36) = true from rfl]
 rw [qM (by omega)]
 rcases yf (s := s) (p := p + 1) with h | ⟨x, hx⟩
 ·rw [y4 (by omega), qqg h]
  simp only [qb, qe, qc, qw, qy, qj, qp5, cond_true, cond_false, qd, qk, ql, qf, qm, qo, qq, qa, qx, show ((0 : Int) == 92) = false from rfl, vI, show (decide ((0 : Int) ≥ 33) && decide ((0 : Int) ≤ 126)) = false from rfl, Bool.not_false]
  exact qdC ho hc (by decide)
 ·have hlt1 : p + 1 < s.length := (qpV.1 hx).1
  rw [yo hx, qL hx, qbQ]
  have h92 : ((x.toNat : Int) == 92) = (x == 92) := uEq x 92
  simp only [qb, qe, qc, qw, qy, qj, qp5, cond_true, qd, qk, ql, qf, qm, qo, qq, qx, h92]
  rw [qM (by omega)]
  cases hx92 : x == 92 with
  | true =>
   simp only [cond_true, if_true]
   refine Gets.bind (qbW (by omega) p 0 out (show p + 1 + 1 ≤ s.length by omega)) fun q hq => ?_
   cases he : escA (s.drop (p + 1 + 1)) with
   | none =>
    rw [he] at hq
    obtain ⟨p', rfl⟩ := hq
    simp only [qe, qc, qw, qy, qj, qp5, cond_true, qd, qk, ql, qf, qm, qo, qq, qx]
    exact qdC ho hc (by decide)
   | some r =>
    rw [he] at hq
    cases hq
    simp only [qe, qc, qw, qy, qj, qp5, cond_true, qd, qk, ql, qf, qm, qo, qq, qx, qfy]
    exact qhH ho hc (fun _ => by rw [show p + 1 + 1 + r.2 - p = 2 + r.2 by omega]) (fun h => absurd rfl h) (by omega)
  | false =>
   simp only [cond_false, qp0, if_false, vI, qb, qa]
   have d1 : decide ((x.toNat : Int) ≥ 33) = decide (32 < x.toNat) := by simp only [decide_eq_decide]; omega
   have d2 : decide ((x.toNat : Int) ≤ 126) = decide (x.toNat < 127) := by simp only [decide_eq_decide]; omega
   rw [d1, d2]
   cases (decide (32 < x.toNat) && decide (x.toNat < 127)) with
   | false =>
    simp only [Bool.not_false, cond_true, qp0, if_false]
    exact qdC ho hc (by decide)
   | true =>
    simp only [Bool.not_true, cond_false, if_true, qfy]
    exact qhH ho hc (fun _ => by rw [show p + 1 + 1 - p = 2 by omega]) (fun h => absurd rfl h) (by omega)
theorem qkq {s : List UInt8} (hs : s.length < 4000000000) {p : Nat} {c : UInt8} {out : List (List AV)} (ho : out.length < 4000000000) (hc : s[p]? = some c) (l : List (List UInt8)) (hl : l.length < 100) (hg : ∀ g ∈ l, g.length < 100) : ∀ (k i : Nat), i + k = l.length →
  Gets (qa8 (strR l) (i : Int) s (p : Int) (p : Int) 0 out.length out) (xb s p out (match (l.drop i).find? (fun g => g.isPrefixOf (s.drop p)) with | some g => .ok 5 0 g g.length | none => if yp (s.drop p) then .ok 6 0 [] 1 else .err 340)) := by
 have hlt : p < s.length := (qpV.1 hc).1
 have h0p : qn 0 (p : Int) = true := by simp
 have hgp : qp3 s (qp9 (p : Int)) = some c := by rw [qqc]; exact hc
 intro k
 induction k with
 | zero =>
  intro i hi
  refine qdb _ _ _ _ _ _ _ _ ?_
  unfold zk0
  rw [decide_eq_false (show ¬ (i : Int) < ((strR l).length : Int) by simp; omega), qqg (show l.length ≤ i by omega)]
  have h46 : ((c.toNat : Int) == 46) = (c == 46) := uEq c 46
  simp only [cond_false, List.find?_nil, h0p, hgp, cond_true, qb, h46]
  rw [qL hc, qM (by omega)]
  have stop : Gets (bif qqk (0 + out.length) out.length && qH (out.length + 1) 40 then some (AV.tup [], [ABlk.rows false 5 [[.str s, .int .i64 ((p + 1 : Nat) : Int), .int .i64 (p : Int), .int .i64 0, .ms 1 0 (out.length + 1)]], .rows true 4 (qqr (qqf out.length out) [[AV.int .i64 6, .int .i64 0, .int .i64 (p : Int), .str []]])]) else none) (xb s p out (.ok 6 0 [] 1)) := by
   rw [qcL ho, yS]
   refine ⟨_, rfl, ?_⟩
   show _ = _
   simp
  by_cases hc46 : c = 46
  ·subst hc46
   simp only [show ((46 : UInt8) == 46) = true from rfl, cond_true]
   rcases yf (s := s) (p := p + 1) with h | ⟨x, hx⟩
   ·rw [qqg h]
    have e1 : ((((p + 1 : Nat)) : Int) == (s.length : Int)) = true := by rw [beq_iff_eq]; omega
    simp only [e1, cond_true, yp, if_true]
    exact stop
   ·have hlt1 : p + 1 < s.length := (qpV.1 hx).1
    rw [qL hx]
    have e1 : ((((p + 1 : Nat)) : Int) == (s.length : Int)) = false := by rw [beq_eq_false_iff_ne]; omega
    have h37 : ((x.toNat : Int) == 37) = (x == 37) := uEq x 37
    have h01 : qn 0 ((p + 1 : Nat) : Int) = true := by simp; omega
    have hg1 : qp3 s (qp9 ((p + 1 : Nat) : Int)) = some x := by rw [qqc]; exact hx
    simp only [e1, cond_false, h01, cond_true, hg1, qb, qfR, qa, h37, yp]
    cases zp x with
    | true => exact stop
    | false =>
     cases x == 37 with
     | true => exact stop
     | false => exact ⟨_, rfl, by decide, _, _, rfl⟩
  ·have f : (c == 46) = false := by simpa using hc46
   have f2 : yp (c :: s.drop (p + 1)) = false := by
    unfold yp
    split
    ·rename_i h; cases h; exact absurd rfl hc46
    ·rfl
   simp only [f, cond_false, f2, qp0, if_false]
   exact ⟨_, rfl, by decide, _, _, rfl⟩
 | succ k ih =>
  intro i hi
  have hil : i < l.length := by omega
  refine qdb _ _ _ _ _ _ _ _ ?_
  unfold zk0
  rw [decide_eq_true (show (i : Int) < ((strR l).length : Int) by simp; omega)]
  have e1 : (qn 0 (i : Int) && vS (i : Int) ((strR l).length : Int)) = true := by simp; omega
  have hgl := hg l[i] (List.getElem_mem hil)
  have hrow : qp3 (strR l) (qp9 (i : Int)) = some [AV.str l[i]] := by rw [qqc]; exact qg6 (qp1 hil)
  have hr0 : qp3 [AV.str l[i]] 0 = some (AV.str l[i]) := rfl
  have hn1 : qp6 ([AV.str l[i]] : List AV).length 1 = true := rfl
  rw [List.drop_eq_getElem_cons hil, List.find?_cons]
  simp only [e1, cond_true, hrow, hr0, hn1, qb, qm]
  rw [vK (x := (s.length : Int) - (p : Int)) (by omega) (by omega)]
  by_cases hle : l[i].length ≤ s.length - p
  ·rw [decide_eq_true (show (s.length : Int) - (p : Int) ≥ (l[i].length : Int) by omega)]
   have e2 : IntKind.wrap .i64 ((p : Int) + (l[i].length : Int)) = ((p + l[i].length : Nat) : Int) := qoC (by omega) (by omega)
   have e3 : (qn 0 ((p + l[i].length : Nat) : Int) && qn ((p + l[i].length : Nat) : Int) (s.length : Int)) = true := by simp; omega
   have e4 : (qn 0 (p : Int) && qn (p : Int) ((qp9 ((p + l[i].length : Nat) : Int) : Nat) : Int)) = true := by simp; omega
   have e5 : (qqf (qp9 ((p + l[i].length : Nat) : Int) - qp9 (p : Int)) (qqq (qp9 (p : Int)) s) == l[i]) = l[i].isPrefixOf (s.drop p) := by
    rw [qqc, qqc, show p + l[i].length - p = l[i].length by omega, Bool.eq_iff_iff, beq_iff_eq, List.isPrefixOf_iff_prefix, List.prefix_iff_eq_take]
    exact ⟨fun e => e.symm, fun e => e.symm⟩
   simp only [cond_true, e2, e3, e4, e5]
   cases hpr : l[i].isPrefixOf (s.drop p) with
   | true =>
    simp only [cond_true, qcL ho, yS]
    refine ⟨_, rfl, ?_⟩
    show _ = _
    simp
   | false =>
    simp only [cond_false]
    rw [qM (by omega)]
    exact ih (i + 1) (by omega)
  ·rw [decide_eq_false (show ¬ (s.length : Int) - (p : Int) ≥ (l[i].length : Int) by omega)]
   have hpr : l[i].isPrefixOf (s.drop p) = false := by
    rw [Bool.eq_false_iff, ne_eq, List.isPrefixOf_iff_prefix]
    intro h
    have := h.length_le
    rw [qqp] at this
    omega
   rw [hpr]
   simp only [cond_false]
   rw [qM (by omega)]
   exact ih (i + 1) (by omega)
theorem qmV {s : List UInt8} (hs : s.length < 4000000000) {p : Nat} {c : UInt8} {out : List (List AV)} (ho : out.length < 4000000000) (hc : s[p]? = some c) :
  Gets (EVj (EV cfg) 15 1 [.ptr 0 0 0] (rsI s p p 0 out)) (xb s p out (match qfL (s.drop p) with | some g => .ok 5 0 g g.length | none => if yp (s.drop p) then .ok 6 0 [] 1 else .err 340)) := by
 refine qlJ _ _ _ _ _ ?_
 rw [qlI]
 simp only [qb, qdQ]
 exact qkq hs ho hc qbc (by decide) (by decide) 24 0 (by decide)
noncomputable def qo9 : Den := evC cfg (EV cfg) 5 none 0 (sub (qE Tryd.f5) [1, 1, 1, 0, 1, 0, 0])
noncomputable def qpd : Ex × List AV × AH → Option AV := kAft (Cfg.keepOut cfg 5 5) (kRun cfg (EV cfg) (kfN cfg 6) 5 none 0 (qoJ cfg (Cfg.lift cfg 5 0) Tryd.f5.results.toList) ([.block 0, .seq (sub (qE Tryd.f5) [1, 1, 1, 1])]))
noncomputable def qo5 : List AV × AH → Option AV := fun p => kOpt (LOOP 0 (some [0, 3, 4]) ([]) qo9 p) qpd
noncomputable abbrev qee (t : Bz) (c0_0 c0_1 : Int) (c1_0 : Bz) (c1_1 c1_2 c1_3 : Int) (nc1_4 : Nat) (h2 : Rz) : Option (AV) := qo5  (((fx 85 [(0, .str t), (3, .ptr 0 0 0), (4, .ptr 1 0 0)]) : List AV), ([.rows false 2 [[.int .i64 c0_0, .int .i64 c0_1]], .rows false 5 [[.str c1_0, .int .i64 c1_1, .int .i64 c1_2, .int .i64 c1_3, .ms 2 0 nc1_4]], .rows true 4 h2] : AH))
theorem qlK (t : Bz) {P : AV → Prop} (h : Gets (bif decide ((t.length : Int) > 65536) then some (AV.tup [.sl [], .agg [.int .i64 3, .int .i64 0]]) else kOpt (EVj (EV cfg) 10 1 [.ptr 0 0 0] [.rows false 5 [[.str t, .int .i64 0, .int .i64 0, .int .i64 0, .ms 1 0 0]], .rows true 4 []]) fun q => qS q.2 fun b bs => qP b fun d' n rs => bif beqB false d' && qp6 n 5 then vj rs fun row rest => vC rest (qS bs fun b bs => qP b fun d' n rs => bif beqB true d' && qp6 n 4 then vD bs (qi row fun c cs => kStr c fun s => qi cs fun c cs => kInt .i64 c fun n => qi cs fun c cs => kInt .i64 c fun n_1 => qi cs fun c cs => kInt .i64 c fun n_2 => qi cs fun c cs => kMsE c fun id off len => bif qp6 id 1 && (qp6 off 0 && qp6 len (qp4 rs)) then kNil cs (qee t 0 0 s n n_1 n_2 (qp4 rs) rs) else none) else none) else none) P) : Gets (EVf (EV cfg) 5 [.str t]) P :=
  gE (fun _ => funF rfl rfl Tryd.func5 rfl) (by kernel_rfl) h
noncomputable abbrev zl7 (n_2 n_1 : Int) : Option (AV) := some (AV.tup [.sl [], .agg [.int .i64 n_2, .int .i64 n_1]])
noncomputable abbrev zl13 (rest : Rz) (bs : AH) (row : List AV) (t : Bz) (c0_0 c0_1 : Int) : Option (AV) := vC rest (qS bs fun b bs => qP b fun d' n rs => bif beqB true d' && qp6 n 4 then vD bs (qi row fun c cs => kStr c fun s => qi cs fun c cs => kInt .i64 c fun n => qi cs fun c cs => kInt .i64 c fun n_3 => qi cs fun c cs => kInt .i64 c fun n_4 => qi cs fun c cs => kMsE c fun id off len => bif qp6 id 1 && (qp6 off 0 && qp6 len (qp4 rs)) then kNil cs (qee t c0_0 c0_1 s n n_3 n_4 (qp4 rs) rs) else none) else none)
noncomputable abbrev zl12 (rs : Rz) (bs : AH) (t : Bz) (c0_0 c0_1 : Int) : Option (AV) := vj rs fun row rest => zl13 rest bs row t c0_0 c0_1
noncomputable abbrev zl11 (d' : Bool) (n : Nat) (rs : Rz) (bs : AH) (t : Bz) (c0_0 c0_1 : Int) : Option (AV) := bif beqB false d' && qp6 n 5 then zl12 rs bs t c0_0 c0_1 else none
noncomputable abbrev zl10 (b : ABlk) (bs : AH) (t : Bz) (c0_0 c0_1 : Int) : Option (AV) := qP b fun d' n rs => zl11 d' n rs bs t c0_0 c0_1
noncomputable abbrev zl9 (q : AV × AH) (t : Bz) (c0_0 c0_1 : Int) : Option (AV) := qS q.2 fun b bs => zl10 b bs t c0_0 c0_1
noncomputable abbrev zl8 (s : Bz) (n n_1 n_2 : Int) (rs : Rz) (t : Bz) (c0_0 c0_1 : Int) : Option (AV) := kOpt (EVj (EV cfg) 10 1 [.ptr 0 0 0] [.rows false 5 [[.str s, .int .i64 n, .int .i64 n_1, .int .i64 n_2, .ms 1 0 (qp4 rs)]], .rows true 4 rs]) fun q => zl9 q t c0_0 c0_1
noncomputable abbrev zl6 (n_2 n_1 : Int) (s : Bz) (n : Int) (rs : Rz) (t : Bz) (c0_0 c0_1 : Int) : Option (AV) := bif n_2 != 0 then zl7 n_2 n_1 else zl8 s n n_1 n_2 rs t c0_0 c0_1
noncomputable abbrev zl5 (rest : Rz) (bs : AH) (row : List AV) (t : Bz) (c0_0 c0_1 : Int) : Option (AV) := vC rest (qS bs fun b bs => qP b fun d' n rs => bif beqB true d' && qp6 n 4 then vD bs (qi row fun c cs => kStr c fun s => qi cs fun c cs => kInt .i64 c fun n => qi cs fun c cs => kInt .i64 c fun n_1 => qi cs fun c cs => kInt .i64 c fun n_2 => qi cs fun c cs => kMsE c fun id off len => bif qp6 id 1 && (qp6 off 0 && qp6 len (qp4 rs)) then kNil cs (zl6 n_2 n_1 s n rs t c0_0 c0_1) else none) else none)
noncomputable abbrev zl4 (rs : Rz) (bs : AH) (t : Bz) (c0_0 c0_1 : Int) : Option (AV) := vj rs fun row rest => zl5 rest bs row t c0_0 c0_1
noncomputable abbrev zl3 (d' : Bool) (n : Nat) (rs : Rz) (bs : AH) (t : Bz) (c0_0 c0_1 : Int) : Option (AV) := bif beqB false d' && qp6 n 5 then zl4 rs bs t c0_0 c0_1 else none
noncomputable abbrev zl2 (b : ABlk) (bs : AH) (t : Bz) (c0_0 c0_1 : Int) : Option (AV) := qP b fun d' n rs => zl3 d' n rs bs t c0_0 c0_1
noncomputable abbrev zl1 (q : AV × AH) (t : Bz) (c0_0 c0_1 : Int) : Option (AV) := qS q.2 fun b bs => zl2 b bs t c0_0 c0_1
noncomputable abbrev zl0 (c1_0 : Bz) (c1_1 c1_3 : Int) (nc1_4 : Nat) (h2 : Rz) (t : Bz) (c0_0 c0_1 : Int) : Option (AV) := kOpt (EVj (EV cfg) 12 1 [.ptr 0 0 0] [.rows false 5 [[.str c1_0, .int .i64 c1_1, .int .i64 c1_1, .int .i64 c1_3, .ms 1 0 nc1_4]], .rows true 4 h2]) fun q => zl1 q t c0_0 c0_1
noncomputable abbrev zl14 (c1_0 : Bz) (c1_1 c1_3 : Int) (nc1_4 : Nat) (h2 : Rz) (t : Bz) (c0_0 c0_1 : Int) : Option (AV) := kOpt (EVj (EV cfg) 14 1 [.ptr 0 0 0] [.rows false 5 [[.str c1_0, .int .i64 c1_1, .int .i64 c1_1, .int .i64 c1_3, .ms 1 0 nc1_4]], .rows true 4 h2]) fun q => zl1 q t c0_0 c0_1
theorem qiC (t : Bz) (c0_0 c0_1 : Int) (c1_0 : Bz) (c1_1 c1_2 c1_3 : Int) (nc1_4 : Nat) (h2 : Rz) {P : AV → Prop} (h : Gets (bif decide (c1_1 < (t.length : Int)) then bif qn 0 c1_1 then kOpt (qp3 t (c1_1.toNat)) fun b => kOpt (EVs (EV cfg) 11 [AV.int .u8 (↑ (UInt8.toNat b) : Int), .int .u8 97, .int .u8 122]) fun v => qJ v fun b_1 => bif b_1 then zl0 c1_0 c1_1 c1_3 nc1_4 h2 t c0_0 c0_1 else kOpt (EVs (EV cfg) 11 [AV.int .u8 (↑ (UInt8.toNat b) : Int), .int .u8 65, .int .u8 90]) fun v => qJ v fun b_2 => bif b_2 then zl0 c1_0 c1_1 c1_3 nc1_4 h2 t c0_0 c0_1 else bif (↑ (UInt8.toNat b) : Int) == 95 then zl0 c1_0 c1_1 c1_3 nc1_4 h2 t c0_0 c0_1 else bif (↑ (UInt8.toNat b) : Int) == 39 then kOpt (EVj (EV cfg) 13 1 [.ptr 0 0 0] [.rows false 5 [[.str c1_0, .int .i64 c1_1, .int .i64 c1_1, .int .i64 c1_3, .ms 1 0 nc1_4]], .rows true 4 h2]) fun q => zl1 q t c0_0 c0_1 else bif (↑ (UInt8.toNat b) : Int) == 36 then zl14 c1_0 c1_1 c1_3 nc1_4 h2 t c0_0 c0_1 else kOpt (EVs (EV cfg) 11 [AV.int .u8 (↑ (UInt8.toNat b) : Int), .int .u8 48, .int .u8 57]) fun v => qJ v fun b => bif b then zl14 c1_0 c1_1 c1_3 nc1_4 h2 t c0_0 c0_1 else kOpt (EVj (EV cfg) 15 1 [.ptr 0 0 0] [.rows false 5 [[.str c1_0, .int .i64 c1_1, .int .i64 c1_1, .int .i64 c1_3, .ms 1 0 nc1_4]], .rows true 4 h2]) fun q => zl1 q t c0_0 c0_1 else none else bif qqk (0 + nc1_4) (qp4 h2) && true then some (AV.tup [.sl (qqf nc1_4 h2), .agg [.int .i64 0, .int .i64 0]]) else none) P) : Gets (qee t c0_0 c0_1 c1_0 c1_1 c1_2 c1_3 nc1_4 h2) P :=
  gE (fun _ => vt (cfg := cfg) (f := 5) (rd := none) (bs := 0)) (by kernel_rfl) h
theorem qkn : EVs (EV cfg) 7 [] = some (.bool true) := qpR (.nil) 1000 1000 (by kernel_rfl)
theorem cls (c : UInt8) : (vB c = true → qB c = false ∧ (c == 36) = false ∧ (c == 39) = false ∧ bigA c = false) ∧ (bigA c = true → qB c = false ∧ (c == 36) = false ∧ (c == 39) = false ∧ vB c = false) ∧ (qB c = true → (c == 36) = false ∧ (c == 39) = false) := by
 have h : ∀ n : Fin 256, (vB (UInt8.ofNat n) = true → qB (UInt8.ofNat n) = false ∧ ((UInt8.ofNat n) == 36) = false ∧ ((UInt8.ofNat n) == 39) = false ∧ bigA (UInt8.ofNat n) = false) ∧ (bigA (UInt8.ofNat n) = true → qB (UInt8.ofNat n) = false ∧ ((UInt8.ofNat n) == 36) = false ∧ ((UInt8.ofNat n) == 39) = false ∧ vB (UInt8.ofNat n) = false) ∧ (qB (UInt8.ofNat n) = true → ((UInt8.ofNat n) == 36) = false ∧ ((UInt8.ofNat n) == 39) = false) := by decide
 have := h ⟨c.toNat, c.toNat_lt⟩
 simpa using this
def refS : ScA → AV
 | .ok l => .tup [.sl (qN l), .agg [.int .i64 0, .int .i64 0]]
 | .bad e a => .tup [.sl [], .agg [.int .i64 e, .int .i64 (a : Int)]]
theorem qbd {s : List UInt8} {p : Nat} {out : List (List AV)} {t : TkA} {o : Option (AV × AH)} {K : AV × AH → Option AV} {P : AV → Prop} (h : Gets o (xb s p out t))
  (hok : ∀ k n w len, t = .ok k n w len → Gets (K (.tup [], rsI s ((p + len : Nat) : Int) p 0 (out ++ [[.int .i64 k, .int .i64 n, .int .i64 (p : Int), .str w]]))) P)
  (herr : ∀ x, t = .err x → x ≠ 0 → ∀ (p' : Int) (out' : List (List AV)), Gets (K (.tup [], rsI s p' p x out')) P) : Gets (kOpt o K) P := by
 refine Gets.bind h fun q hq => ?_
 cases t with
 | ok k n w len => cases hq; exact hok k n w len rfl
 | err x =>
  obtain ⟨h0, p', out', rfl⟩ := hq
  exact herr x rfl h0 p' out'
theorem yr (l : List TokA) (k n a : Int) (w : List UInt8) : qN l ++ [[AV.int .i64 k, .int .i64 n, .int .i64 a, .str w]] = qN (l ++ [⟨k, n, a, w⟩]) := by unfold qN; rw [List.map_append]; rfl
theorem qkr {s : List UInt8} (hs : s.length < 1000000000) : ∀ (g p : Nat) (l : List TokA) (f : Int), s.length < p + g → p ≤ s.length → l.length ≤ p → Gets (qee s 0 0 s ((p + qX false (s.drop p) : Nat) : Int) f 0 (qN l).length (qN l)) (· = refS (qbA s g p l)) := by
 intro g
 induction g with
 | zero => intro p l f h1 h2; omega
 | succ g ih =>
  intro p l f h1 h2 h3
  have hsk := zz false (s.drop p)
  rw [qqp] at hsk
  rw [qbA]
  generalize hp1 : p + qX false (s.drop p) = p1 at *
  refine qiC _ _ _ _ _ _ _ _ _ ?_
  unfold zl14 zl0 zl1 zl2 zl3 zl4 zl5 zl6 zl8 zl9 zl10 zl11 zl12 zl13 zl7
  rcases yf (s := s) (p := p1) with h | ⟨c, hc⟩
  ·rw [decide_eq_false (show ¬ (p1 : Int) < (s.length : Int) by omega), if_pos h]
   have hb1 : (qqk (0 + (qN l).length) (qN l).length && true) = true := by simp
   simp only [cond_false, List.take_of_length_le (qp2 _)]
   first
    | exact ⟨_, rfl, rfl⟩
    | (simp only [hb1, cond_true]; exact ⟨_, rfl, rfl⟩)
  ·have hlt : p1 < s.length := (qpV.1 hc).1
   have ho : (qN l).length < 4000000000 := by rw [zQ]; omega
   have h0 : qn 0 (p1 : Int) = true := by simp
   have hgc : qp3 s (qp9 (p1 : Int)) = some c := by rw [qqc]; exact hc
   have h95 : ((c.toNat : Int) == 95) = (c == 95) := uEq c 95
   have h39 : ((c.toNat : Int) == 39) = (c == 39) := uEq c 39
   have h36 : ((c.toNat : Int) == 36) = (c == 36) := uEq c 36
   rw [decide_eq_true (show (p1 : Int) < (s.length : Int) by omega)]
   simp only [h0, hgc, cond_true, qb, vI, qa, qg4, qoA, qce, h95, h39, h36]
   have hd : s.drop p1 = c :: s.drop (p1 + 1) := qL hc
   have hlen : ∀ k n w len, tokR (s.drop p1) = .ok k n w len → 1 ≤ len ∧ p1 + len ≤ s.length := by
    intro k n w len ht
    rw [hd] at ht
    have := qe3 ht
    rw [← hd, qqp] at this
    omega
   rw [if_neg (show ¬ s.length ≤ p1 by omega)]
   have htw : tokR (s.drop p1) = if qB c then (if 576460752303423487 < numA ((s.drop p1).takeWhile qB) then .err 342 else .ok 1 (numA ((s.drop p1).takeWhile qB) : Int) [] ((s.drop p1).takeWhile qB).length)
    else if c == 36 then qbQ (s.drop (p1 + 1))
    else if c == 39 then (match vX 0 (s.drop (p1 + 1)) [] with | some q => vq 2 q.1 (q.2 + 1) | none => .err 341)
    else if bigA c then vq 3 ((s.drop p1).takeWhile qA) ((s.drop p1).takeWhile qA).length
    else if vB c then (if vT.contains ((s.drop p1).takeWhile qA) then .ok 4 0 ((s.drop p1).takeWhile qA) ((s.drop p1).takeWhile qA).length else vq 2 ((s.drop p1).takeWhile qA) ((s.drop p1).takeWhile qA).length)
    else (match qfL (s.drop p1) with | some g => .ok 5 0 g g.length | none => if yp (s.drop p1) then .ok 6 0 [] 1 else .err 340) := by rw [hd]; rfl
   obtain ⟨cs, cb, cd⟩ := cls c
   have hname : vB c = true ∨ bigA c = true → Gets (EVj (EV cfg) 12 1 [.ptr 0 0 0] (rsI s p1 p1 0 (qN l))) (xb s p1 (qN l) (tokR (s.drop p1))) := by
    intro hcc
    have hn := qmY (s := s) (by omega) (qN l) ho hc hcc.symm
    rcases hcc with h | h
    ·obtain ⟨a1, a2, a3, a4⟩ := cs h
     rw [htw]
     simp only [a1, a2, a3, a4, h, qp0, if_false, if_true] at hn ⊢
     exact hn
    ·obtain ⟨a1, a2, a3, a4⟩ := cb h
     rw [htw]
     simp only [a1, a2, a3, h, qp0, if_false, if_true] at hn ⊢
     exact hn
   cases hsm : vB c with
   | true =>
    simp only [cond_true]
    refine qbd (hname (.inl hsm)) (fun k n w len ht => ?_) (fun x ht hx p' out' => ?_)
    ·have hl := hlen k n w len ht
     simp only [qe, qc, qw, qy, qj, qp5, cond_true, cond_false, qd, qk, ql, qf, qm, qo, qq, qx, show ((0 : Int) != 0) = false from rfl]
     rw [yn (by omega) _ _ _ hl.2]
     simp only [qb, qe, qc, qw, qy, qj, qp5, cond_true, qd, qk, ql, qf, qm, qo, qq, qx]
     rw [ht, yr]
     exact ih (p1 + len) _ _ (by omega) (by omega) (by simp; omega)
    ·have hne : (x != 0) = true := by simpa using hx
     simp only [qe, qc, qw, qy, qj, qp5, cond_true, qd, qk, ql, qf, qm, qo, qq, qx, hne]
     rw [ht]
     exact ⟨_, rfl, rfl⟩
   | false =>
    simp only [cond_false]
    cases hrg : (decide (65 ≤ c.toNat) && decide (c.toNat ≤ 90)) with
    | true =>
     have hbg : bigA c = true := by unfold bigA; rw [hrg]; rfl
     simp only [cond_true]
     refine qbd (hname (.inr hbg)) (fun k n w len ht => ?_) (fun x ht hx p' out' => ?_)
     ·have hl := hlen k n w len ht
      simp only [qe, qc, qw, qy, qj, qp5, cond_true, cond_false, qd, qk, ql, qf, qm, qo, qq, qx, show ((0 : Int) != 0) = false from rfl]
      rw [yn (by omega) _ _ _ hl.2]
      simp only [qb, qe, qc, qw, qy, qj, qp5, cond_true, qd, qk, ql, qf, qm, qo, qq, qx]
      rw [ht, yr]
      exact ih (p1 + len) _ _ (by omega) (by omega) (by simp; omega)
     ·have hne : (x != 0) = true := by simpa using hx
      simp only [qe, qc, qw, qy, qj, qp5, cond_true, qd, qk, ql, qf, qm, qo, qq, qx, hne]
      rw [ht]
      exact ⟨_, rfl, rfl⟩
    | false =>
     simp only [cond_false]
     cases hc95 : c == 95 with
     | true =>
      have hbg : bigA c = true := by unfold bigA; rw [hrg, hc95]; rfl
      simp only [cond_true]
      refine qbd (hname (.inr hbg)) (fun k n w len ht => ?_) (fun x ht hx p' out' => ?_)
      ·have hl := hlen k n w len ht
       simp only [qe, qc, qw, qy, qj, qp5, cond_true, cond_false, qd, qk, ql, qf, qm, qo, qq, qx, show ((0 : Int) != 0) = false from rfl]
       rw [yn (by omega) _ _ _ hl.2]
       simp only [qb, qe, qc, qw, qy, qj, qp5, cond_true, qd, qk, ql, qf, qm, qo, qq, qx]
       rw [ht, yr]
       exact ih (p1 + len) _ _ (by omega) (by omega) (by simp; omega)
      ·have hne : (x != 0) = true := by simpa using hx
       simp only [qe, qc, qw, qy, qj, qp5, cond_true, qd, qk, ql, qf, qm, qo, qq, qx, hne]
       rw [ht]
       exact ⟨_, rfl, rfl⟩
     | false =>
      have hbg : bigA c = false := by unfold bigA; rw [hrg, hc95]; rfl
      simp only [cond_false]
      cases hc39 : c == 39 with
      | true =>
       have e39 : c = 39 := by simpa using hc39
       have hq := qks hs ho hlt (p := p1)
       simp only [cond_true]
       have hh : Gets (EVj (EV cfg) 13 1 [.ptr 0 0 0] (rsI s p1 p1 0 (qN l))) (xb s p1 (qN l) (tokR (s.drop p1))) := by
        rw [htw]
        simp only [show qB c = false by rw [e39]; decide, show (c == 36) = false by rw [e39]; decide, hc39, qp0, if_false, if_true]
        exact hq
       refine qbd (hh) (fun k n w len ht => ?_) (fun x ht hx p' out' => ?_)
       ·have hl := hlen k n w len ht
        simp only [qe, qc, qw, qy, qj, qp5, cond_true, cond_false, qd, qk, ql, qf, qm, qo, qq, qx, show ((0 : Int) != 0) = false from rfl]
        rw [yn (by omega) _ _ _ hl.2]
        simp only [qb, qe, qc, qw, qy, qj, qp5, cond_true, qd, qk, ql, qf, qm, qo, qq, qx]
        rw [ht, yr]
        exact ih (p1 + len) _ _ (by omega) (by omega) (by simp; omega)
       ·have hne : (x != 0) = true := by simpa using hx
        simp only [qe, qc, qw, qy, qj, qp5, cond_true, qd, qk, ql, qf, qm, qo, qq, qx, hne]
        rw [ht]
        exact ⟨_, rfl, rfl⟩
      | false =>
       simp only [cond_false]
       cases hc36 : c == 36 with
       | true =>
        have e36 : c = 36 := by simpa using hc36
        simp only [cond_true]
        have hh : Gets (EVj (EV cfg) 14 1 [.ptr 0 0 0] (rsI s p1 p1 0 (qN l))) (xb s p1 (qN l) (tokR (s.drop p1))) := by
         rw [htw]
         simp only [show qB c = false by rw [e36]; decide, hc36, qp0, if_false, if_true]
         exact qmZ (by omega) ho (by rw [hc, e36])
        refine qbd (hh) (fun k n w len ht => ?_) (fun x ht hx p' out' => ?_)
        ·have hl := hlen k n w len ht
         simp only [qe, qc, qw, qy, qj, qp5, cond_true, cond_false, qd, qk, ql, qf, qm, qo, qq, qx, show ((0 : Int) != 0) = false from rfl]
         rw [yn (by omega) _ _ _ hl.2]
         simp only [qb, qe, qc, qw, qy, qj, qp5, cond_true, qd, qk, ql, qf, qm, qo, qq, qx]
         rw [ht, yr]
         exact ih (p1 + len) _ _ (by omega) (by omega) (by simp; omega)
        ·have hne : (x != 0) = true := by simpa using hx
         simp only [qe, qc, qw, qy, qj, qp5, cond_true, qd, qk, ql, qf, qm, qo, qq, qx, hne]
         rw [ht]
         exact ⟨_, rfl, rfl⟩
       | false =>
        simp only [cond_false]
        cases hdg : qB c with
        | true =>
         simp only [cond_true]
         have hh : Gets (EVj (EV cfg) 14 1 [.ptr 0 0 0] (rsI s p1 p1 0 (qN l))) (xb s p1 (qN l) (tokR (s.drop p1))) := by
          rw [htw]
          simp only [hdg, if_true]
          exact qkv (by omega) ho hc hdg
         refine qbd (hh) (fun k n w len ht => ?_) (fun x ht hx p' out' => ?_)
         ·have hl := hlen k n w len ht
          simp only [qe, qc, qw, qy, qj, qp5, cond_true, cond_false, qd, qk, ql, qf, qm, qo, qq, qx, show ((0 : Int) != 0) = false from rfl]
          rw [yn (by omega) _ _ _ hl.2]
          simp only [qb, qe, qc, qw, qy, qj, qp5, cond_true, qd, qk, ql, qf, qm, qo, qq, qx]
          rw [ht, yr]
          exact ih (p1 + len) _ _ (by omega) (by omega) (by simp; omega)
         ·have hne : (x != 0) = true := by simpa using hx
          simp only [qe, qc, qw, qy, qj, qp5, cond_true, qd, qk, ql, qf, qm, qo, qq, qx, hne]
          rw [ht]
          exact ⟨_, rfl, rfl⟩
        | false =>
         simp only [cond_false]
         have hh : Gets (EVj (EV cfg) 15 1 [.ptr 0 0 0] (rsI s p1 p1 0 (qN l))) (xb s p1 (qN l) (tokR (s.drop p1))) := by
          rw [htw]
          simp only [hdg, hc36, hc39, hbg, hsm, qp0, if_false]
          exact qmV (by omega) ho hc
         refine qbd (hh) (fun k n w len ht => ?_) (fun x ht hx p' out' => ?_)
         ·have hl := hlen k n w len ht
          simp only [qe, qc, qw, qy, qj, qp5, cond_true, cond_false, qd, qk, ql, qf, qm, qo, qq, qx, show ((0 : Int) != 0) = false from rfl]
          rw [yn (by omega) _ _ _ hl.2]
          simp only [qb, qe, qc, qw, qy, qj, qp5, cond_true, qd, qk, ql, qf, qm, qo, qq, qx]
          rw [ht, yr]
          exact ih (p1 + len) _ _ (by omega) (by omega) (by simp; omega)
         ·have hne : (x != 0) = true := by simpa using hx
          simp only [qe, qc, qw, qy, qj, qp5, cond_true, qd, qk, ql, qf, qm, qo, qq, qx, hne]
          rw [ht]
          exact ⟨_, rfl, rfl⟩
theorem qmW {s : List UInt8} (hs : s.length < 100000000000) : EVf (EV cfg) 5 [.str s] = some (refS (qbz s)) := by
 apply Gets.get
 refine qlK _ ?_
 unfold qbz
 by_cases h : 65536 < s.length
 ·rw [decide_eq_true (show (s.length : Int) > 65536 by omega), if_pos h]
  exact ⟨_, rfl, rfl⟩
 ·rw [decide_eq_false (show ¬ (s.length : Int) > 65536 by omega), if_neg h]
  have hsk := yn (s := s) (by omega) (p := 0) 0 0 [] (by omega)
  simp only [cond_false]
  refine Gets.bind (qoY hsk rfl) fun q hq => ?_
  cases hq
  simp only [qe, qc, qw, qy, qj, qp5, cond_true, qd, qk, ql, qf, qm, qo, qq, qx]
  exact qkr (by omega) (s.length + 1) 0 [] 0 (by omega) (by omega) (by simp)
theorem qdA (l : List TokA) (hl : l.length < 1099511627776) : EVs (EV cfg) 6 [.sl (qN l), .sl (qN l)] = some (.bool true) := by
 apply Gets.get
 refine qln _ _ ?_
 rw [show (((qN l).length : Int) != ((qN l).length : Int)) = false by simp]
 simp only [cond_false]
 have go : ∀ k i : Nat, i + k = l.length → Gets (qfx (qN l) (qN l) (i : Int)) (· = .bool true) := by
  intro k
  induction k with
  | zero =>
   intro i hi
   refine qeA _ _ _ ?_
   rw [decide_eq_false (show ¬ (i : Int) < ((qN l).length : Int) by rw [zQ]; omega)]
   exact ⟨_, rfl, rfl⟩
  | succ k ih =>
   intro i hi
   have hil : i < l.length := by omega
   refine qeA _ _ _ ?_
   rw [decide_eq_true (show (i : Int) < ((qN l).length : Int) by rw [zQ]; omega)]
   have e1 : (qn 0 (i : Int) && vS (i : Int) ((qN l).length : Int)) = true := by rw [zQ]; simp; omega
   have hrow : qp3 (qN l) (qp9 (i : Int)) = some (l[i]).cells := by rw [qqc]; exact qm1 (qp1 hil)
   simp only [e1, cond_true, hrow, qb]
   generalize l[i] = t
   simp only [TokA.cells, List.length_cons, List.length_nil, show qp6 (0 + 1 + 1 + 1 + 1) 4 = true from rfl, show qqk 4 (0 + 1 + 1 + 1 + 1) = true from rfl, cond_true, List.take_succ_cons, List.take_zero, qf, qo, qm, qq, decide_true, beq_self_eq_true, qp5, Bool.not_true, cond_false]
   rw [qM (by omega)]
   exact ih (i + 1) (by omega)
 exact go l.length 0 (by omega)
theorem qhB {s : List UInt8} : ∀ (f p : Nat) (l l' : List TokA), qbA s f p l = .ok l' → p ≤ s.length → l.length ≤ p → l'.length ≤ s.length
 | 0, p, l, l', h, h1, h2 => by cases h; omega
 | f + 1, p, l, l', h, h1, h2 => by
  rw [qbA] at h
  have hsk := zz false (s.drop p)
  rw [qqp] at hsk
  generalize hp1 : p + qX false (s.drop p) = p1 at *
  by_cases hg : s.length ≤ p1
  ·rw [if_pos hg] at h
   cases h; omega
  ·rw [if_neg hg] at h
   obtain ⟨c, hc⟩ : ∃ c, s[p1]? = some c := ⟨_, qp1 (by omega)⟩
   cases ht : tokR (s.drop p1) with
   | ok k n w len =>
    rw [ht] at h
    rw [qL hc] at ht
    have := qe3 ht
    rw [← qL hc, qqp] at this
    exact qhB f (p1 + len) _ l' h (by omega) (by simp; omega)
   | err e => rw [ht] at h; cases h
theorem qmS {s : List UInt8} {l : List TokA} (h : qbz s = .ok l) : l.length ≤ s.length := by
 unfold qbz at h
 split at h
 ·cases h
 ·exact qhB _ _ _ _ h (by omega) (by simp)
theorem qiS (s : List UInt8) : EVs (EV cfg) 3 [.str s] = some (.bool true) := by
 apply Gets.get
 refine qj9 _ ?_
 by_cases hl : 2000 < s.length
 ·rw [decide_eq_true (show (s.length : Int) > 2000 by omega)]; exact ⟨_, rfl, rfl⟩
 rw [decide_eq_false (show ¬ (s.length : Int) > 2000 by omega), qhy (by omega), qmW (by omega)]
 have core : ∀ (L : List TokA) (a b : Int), L.length ≤ 2000 → ovS (qbz s) = (.own 4 (qN L) 0 L.length, .agg [.int .i64 a, .int .i64 b]) → Gets (qcb s 4 0 L.length (qN L) 0 (qN L)) (· = .bool true) := by
  intro L a b hL hov
  have go : ∀ (k i : Nat) (h0 : List (List AV)), i + k = L.length → h0.length = L.length → (∀ r ∈ h0, r.length = 4) → Gets (qcb s 4 0 L.length (qN L) (i : Int) h0) (· = .bool true) := by
   intro k
   induction k with
   | zero =>
    intro i h0 hi h1 h2
    refine qdr _ _ _ _ _ _ _ ?_
    unfold ze0
    rw [decide_eq_false (show ¬ (i : Int) < (L.length : Int) by omega), qhy (by omega), hov]
    have hb1 : (qqk (0 + L.length) (qN L).length && true) = true := by simp
    simp only [cond_false, qb, qj, cond_true, cond_false, qf, qo, qq, qt, qfe, hb1, List.drop_zero]
    rw [List.take_of_length_le (by simp), qdA L (by omega), qkn]
    simp only [qb, cond_true, qa]
    exact ⟨_, rfl, rfl⟩
   | succ k ih =>
    intro i h0 hi h1 h2
    refine qdr _ _ _ _ _ _ _ ?_
    unfold ze0
    rw [decide_eq_true (show (i : Int) < (L.length : Int) by omega)]
    have e1 : (qp6 4 4 && qn 0 (i : Int) && vS (i : Int) (L.length : Int)) = true := by simp; omega
    have hlt : 0 + qp9 (i : Int) < h0.length := by omega
    have hrow : qp3 h0 (0 + qp9 (i : Int)) = some (h0[0 + qp9 (i : Int)]) := qp1 hlt
    have hr4 := h2 _ (List.getElem_mem hlt)
    simp only [e1, cond_true, hrow, qb, hr4, show qqk 4 4 = true from rfl]
    rw [qM (by omega)]
    refine ih (i + 1) _ (by omega) (by simpa using h1) (fun r hr => ?_)
    rcases List.mem_or_eq_of_mem_set hr with hr | rfl
    ·exact h2 r hr
    ·simp only [List.length_cons, qqp, hr4]
  exact go L.length 0 (qN L) (by omega) (by simp) (fun r hr => by
   unfold qN at hr
   obtain ⟨t, _, rfl⟩ := List.mem_map.1 hr
   rfl)
 cases hk : qbz s with
 | ok L =>
  have hL := qmS hk
  have hb1 : qqk (0 + L.length) (qN L).length = true := by simp
  have hcore := core L 0 0 (by omega) (by rw [hk]; rfl)
  simp only [ovS, refS, qb, cond_true, cond_false, qf, qo, qq, qr, qt, qfe, hb1, List.drop_zero, qdQ, decide_true, Bool.and_true, Bool.not_true, cond_false]
  rw [List.take_of_length_le (by simp), qdA L (by omega)]
  simp only [qb, cond_false, qa, Bool.not_true]
  exact hcore
 | bad e a =>
  have hb1 : qqk (0 + 0) ([] : List (List AV)).length = true := by simp
  have hcore := core [] e a (by simp) (by rw [hk]; rfl)
  have hsame := qdA [] (by simp)
  simp only [ovS, refS, qb, cond_true, cond_false, qf, qo, qq, qr, qt, qfe, hb1, List.drop_zero, qdQ, decide_true, Bool.and_true, Bool.not_true, cond_false]
  rw [List.take_nil]
  rw [show qN [] = [] from rfl] at hsame hcore
  rw [hsame]
  simp only [qb, cond_false, qa, Bool.not_true]
  exact hcore
end Go.Proofs.YtkohdkldmpiiiaaDoor
end
