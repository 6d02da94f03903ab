/-
  Parts of the proof of SpecRunsUptoSaid, put together: the abstract evaluation and its contracts. Own work.
  What is proved: each lemma as it stands; no condition.
-/
import Derived.Test.YtkgkjngbfdnoiaaGreatZSpecRunsM5
open List renaming get?Internal → qyG, length → qyH, getElem?_eq_getElem → qyI, getElem?_eq_some_iff → qyL, take → qyM, take_of_length_le → qyP, mem_of_getElem? → qyR, drop_eq_getElem_cons → qyS, getElem?_append_left → qyU, drop_eq_nil_of_le → qyV, getElem?_set → qyX, getElem?_append_right → qyZ, append → qy4, length_append → qy6, getElem?_cons_zero → qy8, length_take → qzb, length_cons → qzc, length_map → qzd, replicate → qzf, mem_append → qzi, drop → qzj, drop_zero → qzk, mem_cons → qzm, range → qzn
open Option renaming bind_eq_some_iff → qyJ, map_eq_some_iff → qyO, bind_some → qy0, map_some → qy7, isSome_some → qzl
open Bool renaming and_eq_true → qyK, and_self → qy2, false_eq_true → qza, true_and → qzg, not_true → qzh
open Nat renaming le_refl → qyN, ble → qyQ, eq_of_beq_eq_true → qyT, beq → qyW, beq_refl → qy1, mul_le_mul_right → qy5, ble_eq → qy9
open Int renaming toNat → qyY, toNat_natCast → qy3
open Array renaming toList → qze
set_option maxRecDepth 1000000
set_option maxHeartbeats 0
section
namespace Go.Av
def setL (q : Nat → Bool) : List Int := ((qzn 100).filter q).map Int.ofNat
theorem qh6 (q : Nat → Bool) : setL q = ((List.range' 0 100).filter q).map Int.ofNat := by unfold setL; rw [List.range_eq_range']
theorem qs6 (q : Nat → Bool) : (setL q).length ≤ 100 := by
 unfold setL
 rw [qzd]
 exact Nat.le_trans (List.length_filter_le _ _) (by simp)
theorem qro (p : Tm) : xG p = if p.chk = 0 then setL (fun n => vP (n : Nat) p) else [] := rfl
def insL : List Int → Int → List Int
 | [], n => [n]
 | x :: l, n => if x < n then x :: insL l n else if x = n then x :: l else n :: x :: l
theorem qtx (A : List Int) (B : List Int) (n : Int) (h : ∀ a ∈ A, a < n) : insL (A ++ B) n = A ++ insL B n := by
 induction A with
 | nil => rfl
 | cons a A ih =>
  rw [List.cons_append, insL, if_pos (h a (by simp)), ih (fun x hx => h x (by simp [hx]))]; rfl
theorem qvp (B : List Int) (n : Int) (h : ∀ b ∈ B, n < b) : insL B n = n :: B := by
 cases B with
 | nil => rfl
 | cons b B =>
  have := h b (by simp)
  rw [insL, if_neg (by omega), if_neg (by omega)]
theorem qoB (q : Nat → Bool) (n : Nat) : ∀ d a : Nat, a ≤ n → n < a + d → insL (((List.range' a d).filter q).map Int.ofNat) (n : Int) = ((List.range' a d).filter fun m => q m || decide (m = n)).map Int.ofNat := by
 intro d
 induction d with
 | zero => intro a h1 h2; omega
 | succ d ih =>
  intro a h1 h2
  rw [List.range'_succ]
  by_cases ha : a = n
  ·subst ha
   have hgt : ∀ b ∈ ((List.range' (a + 1) d).filter q).map Int.ofNat, (a : Int) < b := by
    intro b hb
    obtain ⟨m, hm, rfl⟩ := List.mem_map.1 hb
    have := (List.mem_range'_1.1 (List.mem_filter.1 hm).1).1
    show (a : Int) < (m : Int)
    omega
   have hc : (List.range' (a + 1) d).filter (fun m => q m || decide (m = a)) = (List.range' (a + 1) d).filter q := by
    refine List.filter_congr fun m hm => ?_
    have := (List.mem_range'_1.1 hm).1
    rw [decide_eq_false (by omega), Bool.or_false]
   rw [List.filter_cons_of_pos (p := fun m => q m || decide (m = a)) (by simp), hc]
   cases hq : q a with
   | true =>
    rw [List.filter_cons_of_pos hq, List.map_cons, insL, if_neg (by simp), if_pos (show Int.ofNat a = (a : Int) from rfl)]
   | false =>
    rw [List.filter_cons_of_neg (by simp [hq]), qvp _ _ hgt]; rfl
  ·have h := ih (a + 1) (by omega) (by omega)
   cases hq : q a with
   | true =>
    rw [List.filter_cons_of_pos hq, List.filter_cons_of_pos (p := fun m => q m || decide (m = n)) (by simp [hq]), List.map_cons, List.map_cons, insL, if_pos (by show (a : Int) < (n : Int); omega), h]
   | false =>
    rw [List.filter_cons_of_neg (by simp [hq]), List.filter_cons_of_neg (p := fun m => q m || decide (m = n)) (by simp [hq, ha]), h]
theorem qtw (q : Nat → Bool) {n : Nat} (h : n < 100) : insL (setL q) (n : Int) = setL fun m => q m || decide (m = n) := by
 rw [qh6, qh6]
 exact qoB q n 100 0 (by omega) (by omega)
theorem qnL (l : List Int) : ve 1 (qx l) = true := by cases l <;> rfl
theorem qiW (l : List Int) (n : Nat) : (qx l).take n = qx (l.take n) := by simp [qx, List.map_take]
theorem qqV (l : List Int) (n : Nat) : (qx l).drop n = qx (l.drop n) := by simp [qx, List.map_drop]
theorem qkB (a b : List Int) : qx a ++ qx b = qx (a ++ b) := by simp [qx]
theorem qdN {n : Nat} (h : n ≤ 1099511627776) : qN n 8 = true := by
 unfold qN; rw [qyK, qy9, qy9]; omega
end Go.Av
namespace Go.Proofs.YtkgkjngbfdnoiaaGreat
open Go.Av
theorem qp7 {l : List Int} (hl : l.length < 1000000) (n : Int) : EVf (EV cfg) 309 [.sl (qx l), .int .i64 n] = some (.sl (qx (insL l n))) := by
 -- put in at a place
 have put : ∀ i : Nat, i ≤ l.length → Gets (qdI (qx l) n i) (· = .sl (qx (l.take i ++ n :: l.drop i))) := by
  intro i hi
  refine qlb _ _ _ ?_
  have e1 : (i : Int).toNat = i := qy3 i
  have hli : qh (i : Int) (((qx l).length : Nat) : Int) = true := by rw [q4]; simp only [qh]; exact decide_eq_true (by omega)
  have e2 : (qx l).take (i - 0) = qx (l.take i) := by rw [Nat.sub_zero, qiW]
  have e3 : qyM ((qx l).length - i) (qzj i (qx l)) = qx (l.drop i) := by
   rw [q4, qqV, qiW, qyP (by rw [List.length_drop]; exact qyN _)]
  have e4 : (qx (l.take i)).length = i := by rw [q4, qzb]; omega
  have e5 : (qx (l.drop i)).length = l.length - i := by rw [q4, List.length_drop]
  have e6 : qy4 (qyM (0 + i) (qx (l.take i))) [[AV.int .i64 n]] = qx (l.take i ++ [n]) := by
   rw [qyP (by omega), ← qkB]; rfl
  have e7 : (qx (l.take i ++ [n])).length = i + 1 := by rw [q4, qy6, qzb, List.length_singleton]; omega
  have e8 : qy4 (qyM (0 + i + 1) (qx (l.take i ++ [n]))) (qx (l.drop i)) = qx (l.take i ++ n :: l.drop i) := by
   rw [qyP (by omega)]
   show qx _ ++ qx _ = _
   rw [qkB, List.append_assoc]; rfl
  have e9 : (qx (l.take i ++ n :: l.drop i)).length = i + 1 + (l.length - i) := by rw [q4, qy6, qzb, qzc, List.length_drop]; omega
  have e10 : qyM (0 + i + 1 + (l.length - i)) (qx (l.take i ++ n :: l.drop i)) = qx (l.take i ++ n :: l.drop i) := qyP (by omega)
  have b1 : qyQ (0 + (0 + i)) i = true := by rw [qy9]; omega
  have b2 : qyQ (0 + (0 + i + 1)) (i + 1) = true := by rw [qy9]; omega
  have b3 : qyQ (0 + (0 + i + 1 + (l.length - i))) (i + 1 + (l.length - i)) = true := by rw [qy9]; omega
  have f1 : qN (0 + i) 8 = true := qdN (by omega)
  have f2 : qN (0 + i + 1) 8 = true := qdN (by omega)
  have f3 : qN (0 + i + 1 + (l.length - i)) 8 = true := qdN (by omega)
  simp only [e1, qw, hli, qnL, e2, e3, e4, e5, e6, e7, e8, e9, e10, b1, b2, b3, f1, f2, f3, qy2, cond_true]
  exact ⟨_, rfl, rfl⟩
 -- where the numbers begin that are not below
 have here : ∀ i : Nat, i ≤ l.length → (∀ a ∈ l.take i, a < n) → (∀ x r, l.drop i = x :: r → ¬ x < n) → Gets (qdJ (qx l) n i) (· = .sl (qx (insL l n))) := by
  intro i hi hlt hge
  have hsplit : insL l n = l.take i ++ insL (l.drop i) n := by
   have := qtx (l.take i) (l.drop i) n hlt
   rwa [List.take_append_drop] at this
  refine qlc _ _ _ ?_
  by_cases hil : i < l.length
  ·have hx : l[i]? = some l[i] := qyI hil
   have hd : l.drop i = l[i] :: l.drop (i + 1) := qyS hil
   have hnl := hge _ _ hd
   rw [q4, decide_eq_true (show (i : Int) < (l.length : Int) by omega), qw, qD, decide_eq_true hil, ql, qy3, qaT, hx]
   simp only [qy2, cond_true, qy7, qc, List.length_singleton, qy1, ql, qy8, qm, beqI]
   by_cases he : l[i] = n
   ·rw [decide_eq_true he]
    refine ⟨_, rfl, ?_⟩
    rw [hsplit, hd, insL, if_neg hnl, if_pos he, ← hd, List.take_append_drop]
   ·rw [decide_eq_false he]
    have h := put i hi
    have e : insL (l.drop i) n = n :: l.drop i := by rw [hd, insL, if_neg hnl, if_neg he]
    rw [hsplit, e]
    exact h
  ·rw [q4, decide_eq_false (by omega)]
   have h := put i hi
   have e0 : l.drop i = [] := qyV (by omega)
   have e : insL (l.drop i) n = n :: l.drop i := by rw [e0]; rfl
   rw [hsplit, e]
   exact h
 have loop : ∀ d i : Nat, i + d = l.length → (∀ a ∈ l.take i, a < n) → Gets (qdg (qx l) n i) (· = .sl (qx (insL l n))) := by
  intro d
  induction d with
  | zero =>
   intro i hi hlt
   refine qdY _ _ _ ?_
   rw [q4, decide_eq_false (by omega)]
   exact here i (by omega) hlt (fun x r h => by rw [qyV (by omega)] at h; cases h)
  | succ d ih =>
   intro i hi hlt
   have hil : i < l.length := by omega
   refine qdY _ _ _ ?_
   have hx : l[i]? = some l[i] := qyI hil
   have hd : l.drop i = l[i] :: l.drop (i + 1) := qyS hil
   rw [q4, decide_eq_true (show (i : Int) < (l.length : Int) by omega), qw, qD, decide_eq_true hil, ql, qy3, qaT, hx, qJ hil (by omega)]
   simp only [qy2, cond_true, qy7, qc, List.length_singleton, qy1, ql, qy8, qm]
   by_cases hlx : l[i] < n
   ·rw [decide_eq_true hlx]
    refine ih (i + 1) (by omega) (fun a ha => ?_)
    rw [List.take_add_one, hx, Option.toList_some, qzi] at ha
    rcases ha with h | h
    ·exact hlt a h
    ·simp at h; subst h; exact hlx
   ·rw [decide_eq_false hlx]
    refine here i (by omega) hlt (fun x r h => ?_)
    rw [hd] at h; cases h; exact hlx
 apply Gets.get
 exact qn4 _ _ (loop l.length 0 (by omega) (by simp))
theorem qrL {t : Tm} (h : t.w < 1099511627776) : EVs (EV cfg) 298 [t.av] = some (.bool (anyT t)) := by
 have hm := xf h
 apply Gets.get
 rw [Tm.av, Tm.cells_eq] at hm ⊢
 refine qqd _ _ _ _ ?_
 rw [hm]
 simp only [beqI, beqS, qc, qm]
 unfold anyT
 cases decide (t.kind = 2) <;> cases decide (t.str = [95]) <;> cases decide (t.chk = 0) <;> exact ⟨_, rfl, rfl⟩
theorem qu1 {t : Tm} {n : Int} (h : varT t = some n) : 0 ≤ n ∧ n < 100 := by
 unfold varT at h
 split at h
 ·have := qcL h; omega
 ·cases h
theorem qp6 : ∀ (n : Nat) (p : Tm), p.w ≤ n → p.chk = 0 → ∀ q : Nat → Bool, EVf (EV cfg) 288 [p.av, .sl (qx (setL q))] = some (.sl (qx (setL fun m => q m || vP (m : Nat) p))) := by
 intro n
 induction n with
 | zero => intro p h; have := vH p; omega
 | succ n ih =>
  intro p hw hc q
  have hwe := p.w_eq
  have hwc := vj hc
  have hv := qaP (t := p) (by omega)
  have loop : ∀ (l : List Tm), wL l ≤ n → (∀ x ∈ l, x.chk = 0) → l.length < 1000000 → ∀ (d i : Nat) (q : Nat → Bool), i + d = l.length → Gets (qfs (qb l) (qx (setL q)) i) (· = .sl (qx (setL fun m => q m || (l.drop i).any (vP (m : Nat))))) := by
   intro l hwl hcl hlen d
   induction d with
   | zero =>
    intro i q hi
    refine qef _ _ _ ?_
    rw [qd, decide_eq_false (by omega), qyV (by omega)]
    simp only [List.any_nil, Bool.or_false]
    exact ⟨_, rfl, rfl⟩
   | succ d ihd =>
    intro i q hi
    have hil : i < l.length := by omega
    have hx : l[i]? = some l[i] := qyI hil
    have hd : l.drop i = l[i] :: l.drop (i + 1) := qyS hil
    have hm := qyR hx
    refine qef _ _ _ ?_
    have hi2 := ih l[i] (by have := vY hm; omega) (hcl _ hm) q
    have h2 := ihd (i + 1) (fun m => q m || vP (m : Nat) l[i]) (by omega)
    rw [qd, decide_eq_true (show (i : Int) < (l.length : Int) by omega), qw, qD, decide_eq_true hil, q9 hx, qJ hil (by omega)]
    simp only [cond_true, qy2, qi, qy1, qp, qt, show qyQ 4 4 = true from rfl, qj, hi2, qc, vE]
    rw [hd]
    simp only [List.any_cons, ← Bool.or_assoc]
    exact h2
  have hp : ∀ l : List Tm, EVf (EV cfg) 310 [p.av] = some (.sl (qb l)) → wL l ≤ n → (∀ x ∈ l, x.chk = 0) → l.length < 1000000 → (∀ m : Nat, vP (m : Nat) p = l.any (vP (m : Nat))) → varT p = none →
    EVf (EV cfg) 288 [p.av, .sl (qx (setL q))] = some (.sl (qx (setL fun m => q m || vP (m : Nat) p))) := by
   intro l hpl hwl hcl hlen heq hnone
   have h := loop l hwl hcl hlen l.length 0 q (by omega)
   apply Gets.get
   rw [Tm.av, Tm.cells_eq] at hpl hv ⊢
   refine qgG _ _ _ _ _ ?_
   rw [hv, hpl, hnone]
   simp only [varR, qc, kTup, qa, qm, kNil, Option.isSome_none, qk, cond_false, vE]
   rw [qzk] at h
   simp only [heq]
   exact h
  have parts : EVf (EV cfg) 310 [p.av] = some (.sl (qb (if p.kind = 7 ∨ p.kind = 9 then p.subs else []))) := by
   apply Gets.get
   rw [Tm.av, Tm.cells_eq]
   refine qmg _ _ _ _ ?_
   rw [beqI, beqI]
   by_cases h7 : p.kind = 7
   ·rw [decide_eq_true h7, if_pos (.inl h7)]; exact ⟨_, rfl, rfl⟩
   ·by_cases h9 : p.kind = 9
    ·rw [decide_eq_false h7, decide_eq_true h9, if_pos (.inr h9)]; exact ⟨_, rfl, rfl⟩
    ·rw [decide_eq_false h7, decide_eq_false h9, if_neg (fun h => h.elim h7 h9), qI]; exact ⟨_, rfl, rfl⟩
  cases hvt : varT p with
  | some x =>
   obtain ⟨h0, h1⟩ := qu1 hvt
   have hk : p.kind = 2 := by
    unfold varT at hvt
    split at hvt
    ·rename_i h; exact h.1
    ·cases hvt
   have hvg : varG p.str = some x := by
    unfold varT at hvt
    rw [if_pos ⟨hk, hc⟩] at hvt; exact hvt
   obtain ⟨k, rfl⟩ : ∃ k : Nat, x = k := ⟨x.toNat, by omega⟩
   have hw1 := qp7 (l := setL q) (by have := qs6 q; omega) (k : Int)
   rw [qtw q (by omega)] at hw1
   apply Gets.get
   rw [Tm.av, Tm.cells_eq] at hv ⊢
   refine qgG _ _ _ _ _ ?_
   rw [hv, hvt]
   simp only [varR, qc, kTup, qa, qm, kNil, qzl, Option.getD_some, qk, cond_true, hw1, vE]
   refine ⟨_, rfl, ?_⟩
   congr 3
   funext m
   congr 1
   rw [yI, if_neg (by omega), decide_eq_true hk, hvg, qzg]
   exact decide_eq_decide.2 ⟨fun h => by rw [h], fun h => by cases h; rfl⟩
  | none =>
   rw [hvt] at hv
   by_cases h79 : p.kind = 7 ∨ p.kind = 9
   ·rw [if_pos h79] at parts
    exact hp p.subs parts (by omega) (fun x hx => qZ hc hx) (by have := xE hc; omega) (fun m => by rw [yI, if_pos h79]) hvt
   ·rw [if_neg h79] at parts
    refine hp [] parts (by simp) (by simp) (by simp) (fun m => ?_) hvt
    rw [yI, if_neg h79, List.any_nil]
    by_cases hk : p.kind = 2
    ·unfold varT at hvt
     rw [if_pos ⟨hk, hc⟩] at hvt
     rw [hvt]; simp
    ·rw [decide_eq_false hk]; rfl
theorem qp8 {t : Tm} (h : t.w < 1099511627776) : EVf (EV cfg) 254 [t.av] = some (.sl (qx (xG t))) := by
 have hc := xf h
 rw [qro]
 apply Gets.get
 by_cases h0 : t.chk = 0
 ·have hv := qp6 t.w t (qyN _) h0 (fun _ => false)
  have e0 : qx (setL fun _ => false) = [] := rfl
  rw [e0] at hv
  rw [Tm.av, Tm.cells_eq] at hv hc ⊢
  refine qgH _ _ _ _ ?_
  rw [hc, h0, if_pos rfl, hv]
  simp only [qc, qm, vE, Bool.false_or]
  exact ⟨_, rfl, rfl⟩
 ·rw [Tm.av, Tm.cells_eq] at hc ⊢
  refine qgH _ _ _ _ ?_
  rw [hc, if_neg h0]
  simp only [qc, qm, bneD, decide_eq_false h0]
  exact ⟨_, rfl, rfl⟩
end Go.Proofs.YtkgkjngbfdnoiaaGreat
end
section
namespace Go.Av
def okC (c : Cl) : Bool := qaf c.head && !c.bs.isEmpty && (c.gs.all (fun e => decide (xg (xG c.head) e = 0)) && c.bs.all (fun e => decide (xg (xG c.head) e = 0)))
theorem qoQ (c : Cl) : vM (clT c) = if okC c then some c else none := by
 unfold vM clT
 rw [if_pos (show (tupT [c.head, qO c.gs, qO c.bs]).kind = 7 from rfl)]
 show (if qaf c.head && ((qC (qO c.gs)).2 && ((qC (qO c.bs)).2 && !(qC (qO c.bs)).1.isEmpty)) && ((qC (qO c.gs)).1.all (fun e => decide (xg (xG c.head) e = 0)) && (qC (qO c.bs)).1.all (fun e => decide (xg (xG c.head) e = 0))) then some (Cl.mk c.head (qC (qO c.gs)).1 (qC (qO c.bs)).1) else none) = _
 rw [qaD, qaD]
 simp only [qzg]
 rfl
theorem qlT : ∀ cs : List Cl, seqC (cs.map clT) = if cs.all okC then some cs else none
 | [] => rfl
 | c :: cs => by
  rw [List.map_cons, seqC, qoQ, qlT cs, List.all_cons]
  cases okC c <;> cases cs.all okC <;> rfl
theorem qst (cs : List Cl) : clsG (selT cs) = if (selT cs).chk = 0 then (if cs.all okC && !cs.isEmpty then (cs, 0) else ([], 10)) else ([], 2) := by
 unfold clsG
 have h : qC (selT cs) = (cs.map clT, true) := qaD _
 rw [h]
 simp only [qlT, qzg]
 cases h1 : cs.all okC <;> cases cs <;> simp
structure SelOk (cs : List Cl) : Prop where
 chk : (selT cs).chk = 0
 ok : ∀ c ∈ cs, okC c = true
 ne : cs ≠ []
theorem qss {cs : List Cl} : (clsG (selT cs)).2 = 0 ↔ SelOk cs := by
 rw [qst]
 by_cases h : (selT cs).chk = 0
 ·rw [if_pos h]
  cases h1 : cs.all okC && !cs.isEmpty with
  | true =>
   rw [qyK, List.all_eq_true] at h1
   exact ⟨fun _ => ⟨h, h1.1, by rintro rfl; exact absurd h1.2 (by simp)⟩, fun _ => rfl⟩
  | false =>
   refine ⟨fun h => (by cases h), fun g => ?_⟩
   rw [List.all_eq_true.2 g.ok, qzg] at h1
   exact absurd (List.isEmpty_iff.1 (by simpa using h1)) g.ne
 ·rw [if_neg h]
  exact ⟨fun h => (by cases h), fun g => absurd g.chk h⟩
theorem SelOk.of {cs : List Cl} (h : SelOk cs) : ofG cs = (selT cs, 0) := by
 unfold ofG
 rw [if_pos (qss.2 h)]
theorem qcu : ∀ l : List Tm, (qO l).words = 1 + l.length + qU l
 | [] => by decide
 | x :: l => by
  have h : (qO (x :: l)).words = 1 + (x.words + ((qO l).words + 0)) := by
   show (Tm.mk 9 0 [] [x, qO l]).words = _
   rw [Tm.words]; simp [qU, Tm.own]
  rw [h, qcu l, qU, qzc]; omega
theorem qcv : ∀ l : List Tm, (qO l).parts = vn l
 | [] => by decide
 | x :: l => by
  have h : (qO (x :: l)).parts = (x.parts && ((qO l).parts && true)) := by
   show (Tm.mk 9 0 [] [x, qO l]).parts = _
   rw [Tm.parts]; simp [vn, xS]
  rw [h, qcv l, vn, Bool.and_true]
theorem qu6 {c : Cl} : (selT [c]).chk = 0 ↔ (clT c).parts = true ∧ 2 + (clT c).words ≤ 65536 := by
 rw [yQ, selT, qcu, qcv]
 simp [vn, qU]
theorem SelOk.one {cs : List Cl} (h : SelOk cs) {c : Cl} (hc : c ∈ cs) : SelOk [c] := by
 obtain ⟨h1, h2⟩ := yQ.1 h.chk
 rw [selT, qcv] at h1
 rw [selT, qcu] at h2
 have hm := List.mem_map_of_mem (f := clT) hc
 have := qhP hm
 have hl : 1 ≤ cs.length := List.length_pos_of_mem hc
 rw [qzd] at h2
 exact ⟨qu6.2 ⟨qbd h1 _ hm, by omega⟩, by simpa using h.ok c hc, by simp⟩
end Go.Av
end
section
namespace Go.Proofs.YtkgkjngbfdnoiaaGreat
open Go.Av
def quU (t : Tm) (most : Int) (v : AV) : Prop := ∃ n : Int, v = .int .i64 n ∧ 1 ≤ n ∧ n ≤ most ∧ (n < most → t.w ≤ 101 * n ∧ t.words ≤ 2 * n)
theorem qs5 (t : Tm) : t.Ok → ∀ most : Int, 1 ≤ most → most ≤ 1073741824 → Gets (EVs (EV cfg) 106 [t.av, .int .i64 most]) (quU t most) := by
 induction t using Tm.ind with
 | _ k n s l ih =>
  intro hok most h1 hmx
  by_cases hs : s.length ≤ 100
  ·have loop : ∀ (d i : Nat) (m : Int), i + d = l.length → 1 ≤ m → m ≤ most → (m < most → (1 + s.length : Nat) + wL (l.take i) ≤ 101 * m ∧ 2 + qU (l.take i) ≤ 2 * m) → Gets (qhU most m i k n s (qb l)) (quU (.mk k n s l) most) := by
    intro d
    induction d with
    | zero =>
     intro i m hi hm1 hm2 hmw
     refine qgr _ _ _ _ _ _ _ ?_
     rw [qd, decide_eq_false (by omega)]
     refine ⟨_, rfl, m, rfl, hm1, hm2, fun hlt => ?_⟩
     have hmw := hmw hlt
     rw [qyP (by omega)] at hmw
     have := (Tm.mk k n s l).own_le
     rw [Tm.w_mk, Tm.words]
     omega
    | succ d ihd =>
     intro i m hi hm1 hm2 hmw
     refine qgr _ _ _ _ _ _ _ ?_
     have hil : i < l.length := by omega
     have hx : l[i]? = some l[i] := qyI hil
     have hxl := qyR hx
     have hix := ih l[i] hxl (hok.sub hxl)
     by_cases hm : m < most
     ·have hmw := hmw hm
      rw [qJ hil hok.len, qM (x := most - m) (by omega) (by omega)]
      simp [hil, hx, hm]
      refine Gets.bind (hix (most - m) (by omega) (by omega)) ?_
      rintro _ ⟨n'', rfl, q1, q2, q3⟩
      have hg := ihd (i + 1) (m + n'') (by omega) (by omega) (by omega) (fun hlt => by
       have := q3 (by omega)
       rw [List.take_add_one, hx, Option.toList_some, x5, qa0, qV, vQ, qU, qU]
       omega)
      simp only [qm]
      rw [qM (x := m + n'') (by omega) (by omega)]
      simpa using hg
     ·simp [hil, hm]
      exact ⟨m, rfl, hm1, hm2, fun h => absurd h hm⟩
   rw [Tm.av_mk]
   refine qgM _ _ _ _ _ ?_
   rw [decide_eq_false (by omega)]
   by_cases h2 : (l.length : Int) > most
   ·rw [qd, decide_eq_true h2]
    exact ⟨_, rfl, most, rfl, h1, Int.le_refl _, fun h => absurd h (by omega)⟩
   ·rw [qd, decide_eq_false h2]
    exact loop l.length 0 1 (by omega) (by omega) (by omega) (fun _ => by simp [qU]; omega)
  ·rw [Tm.av_mk]
   refine qgM _ _ _ _ _ ?_
   rw [decide_eq_true (by omega)]
   exact ⟨_, rfl, most, rfl, h1, Int.le_refl _, fun h => absurd h (by omega)⟩
def BigP (t : Tm) (most : Int) (v : AV) : Prop := ∃ b : Bool, v = .bool b ∧ (b = false → t.w ≤ 101 * most ∧ t.words ≤ 2 * most)
theorem qvw {t : Tm} (h : t.Ok) {most : Int} (h1 : 1 ≤ most) (h2 : most ≤ 1000000000) : Gets (EVs (EV cfg) 41 [t.av, .int .i64 most]) (BigP t most) := by
 have h1 := qs5 t h (most + 1) (by omega) (by omega)
 rw [Tm.av, Tm.cells_eq] at h1 ⊢
 refine qqC _ _ _ _ _ ?_
 rw [qM (by omega) (by omega)]
 refine Gets.bind h1 ?_
 rintro _ ⟨n, rfl, q1, q2, q3⟩
 simp only [qm]
 refine ⟨_, rfl, _, rfl, fun hb => ?_⟩
 have hb : ¬ n > most := of_decide_eq_false hb
 have := q3 (by omega)
 omega
noncomputable def qyD : Den := evC cfg (EV cfg) 27 none 0 (sub (qe Tryz.f27) [1, 0, 1, 0, 0])
noncomputable def qyF : Ex × List AV × AH → Option AV := kAft (Cfg.keepOut cfg 27 2) (kRun cfg (EV cfg) (kfN cfg 6) 27 none 0 (vX cfg (Cfg.lift cfg 27 0) Tryz.f27.results.toList) ([.block 0, .seq (sub (qe Tryz.f27) [1, 1])]))
noncomputable def qyC : List AV × AH → Option AV := fun p => kOpt (LOOP 0 (some [0, 3]) ([]) qyD p) qyF
noncomputable abbrev qlo (L : Rz) (v3 : Int) : Option (AV) := qyC  (((fx 15 [(0, .sl L), (3, .int .i64 v3)]) : List AV), ([] : AH))
theorem qot (L : Rz) {P : AV → Prop} (h : Gets (qlo L 0) P) : Gets (EVs (EV cfg) 27 [.sl L]) P :=
  gE (fun _ => funS rfl rfl Tryz.func27 rfl) (by kernel_rfl) h
theorem qhQ (L : Rz) (v3 : Int) {P : AV → Prop} (h : Gets (bif decide (v3 < (L.length : Int)) then bif qh 0 v3 && qg v3 (L.length : Int) then kOpt (qyG L (v3.toNat)) fun row => bif qyW (qyH row) 4 then bif qyQ 4 (qyH row) then kTmC (qyM 4 row) fun n n_1 s rows => (kOpt (EVs (EV cfg) 41 [.agg [.int .i64 n, .int .i64 n_1, .str s, .sl rows], .int .i64 400]) fun v => qf v fun b => bif b then some (.bool true) else qlo L (IntKind.wrap .i64 (v3 + 1))) else none else none else none else some (.bool false)) P) : Gets (qlo L v3) P :=
  gE (fun _ => qn (cfg := cfg) (f := 27) (rd := none) (bs := 0)) (by kernel_rfl) h
def qsP (l : List Tm) (v : AV) : Prop := ∃ b : Bool, v = .bool b ∧ (b = false → ∀ x ∈ l, x.w ≤ 40400 ∧ x.words ≤ 800)
theorem qqB {l : List Tm} (hl : OkL l) (hlen : l.length < 1099511627776) : Gets (EVs (EV cfg) 27 [.sl (qb l)]) (qsP l) := by
 have loop : ∀ (d i : Nat), i + d = l.length → (∀ x ∈ l.take i, x.w ≤ 40400 ∧ x.words ≤ 800) → Gets (qlo (qb l) i) (qsP l) := by
  intro d
  induction d with
  | zero =>
   intro i hi hx
   refine qhQ _ _ ?_
   rw [qd, decide_eq_false (by omega)]
   rw [qyP (by omega)] at hx
   exact ⟨_, rfl, _, rfl, fun _ => hx⟩
  | succ d ihd =>
   intro i hi hx
   refine qhQ _ _ ?_
   have hil : i < l.length := by omega
   have hxi : l[i]? = some l[i] := qyI hil
   have hb := qvw (hl.get (qyR hxi)) (most := 400) (by omega) (by omega)
   rw [qJ hil hlen]
   simp [hil, hxi]
   refine Gets.bind hb ?_
   rintro _ ⟨b, rfl, hbw⟩
   cases b with
   | true => exact ⟨_, rfl, _, rfl, fun h => by cases h⟩
   | false =>
    have := hbw rfl
    have hg := ihd (i + 1) (by omega) (fun x hxx => by
     rw [List.take_add_one, hxi, Option.toList_some, qzi] at hxx
     rcases hxx with h | h
     ·exact hx x h
     ·simp at h; subst h; omega)
    simpa using hg
 exact qot _ (loop l.length 0 (by omega) (by simp))
theorem qtt {α : Type} (r : List (List AV)) (x : Bool) (K : List (List AV) → Bool → Option α) : (kTup (.tup [.sl r, .bool x]) fun cs => qa cs fun c cs => kSl c fun rows => qa cs fun c cs => qf c fun n => kNil cs (K rows n)) = K r x := rfl
theorem qcs {t : Tm} (hc : t.chk = 0) : EVf (EV cfg) 180 [t.av] = some (lsR (qC t)) := by
 have loop : ∀ (n : Nat) (t : Tm) (acc : List Tm), t.w ≤ n → t.chk = 0 → acc.length + n < 1099511627776 → Gets (qfu acc.length t.kind t.num t.str (qb t.subs) (qb acc)) (· = lsR (acc ++ (qC t).1, (qC t).2)) := by
  intro n
  induction n with
  | zero => intro t acc h; have := vH t; omega
  | succ n ih =>
   intro t acc hw hc hn
   refine qlA _ _ _ _ _ _ ?_
   rw [beqI, beqI]
   have e1 : qyQ (0 + acc.length) (qb acc).length = true := by rw [qy9, qd]; omega
   have e2 : qyM acc.length (qb acc) = qb acc := qyP (by simp)
   by_cases h9 : t.kind = 9
   ·obtain ⟨x, y, hs⟩ := yd hc h9
    have hwe := t.w_eq
    rw [hs] at hwe
    simp only [qV, vQ] at hwe
    have h := ih y (acc ++ [x]) (by omega) (qZ hc (by rw [hs]; simp)) (by simp; omega)
    rw [decide_eq_true h9, cond_true, hs, lt0T, yP, lt1T, ys, e1, e2, yb (by omega)]
    simp only [cond_true, qy2, qc, qi, qy1, qp, qt, vw]
    have e5 : qy4 (qb acc) [[AV.int .i64 x.kind, .int .i64 x.num, .str x.str, .sl (qb x.subs)]] = qb (acc ++ [x]) := by
     rw [q8, qy, qI, Tm.cells_eq]; rfl
    rw [e5, xo h9 hs]
    rw [qy6] at h
    refine Gets.mono h ?_
    rintro _ rfl
    simp [lsR]
   ·rw [decide_eq_false h9, cond_false, e1, e2, yl h9]
    exact ⟨_, rfl, by simp [lsR]⟩
 have hw := vj hc
 have h := loop t.w t [] (qyN _) hc (by simp; omega)
 apply Gets.get
 rw [Tm.av, Tm.cells_eq]
 refine ql0 _ _ _ _ ?_
 rw [qI] at h
 simpa using h
theorem qpX {t : Tm} (h : t.w < 1099511627776) : EVs (EV cfg) 253 [t.av] = some (.bool (qaf t)) := by
 have hv := qaP h
 have ha := qrL h
 apply Gets.get
 rw [Tm.av, Tm.cells_eq] at hv ha ⊢
 refine qnQ _ _ _ _ ?_
 rw [hv, ha]
 unfold qaf varR
 simp only [beqI, qc, qk, kTup, qa, qm, kNil]
 cases (varT t).isSome <;> cases decide (t.kind = 7) <;> cases anyT t <;> exact ⟨_, rfl, rfl⟩
theorem qgE {V : List Int} (hV : V.length < 1099511627776) {l : List Tm} (hlen : l.length < 1099511627776) (hw : ∀ x ∈ l, x.w < 1099511627776) : EVs (EV cfg) 255 [.sl (qb l), .sl (qx V)] = some (.bool (okV V l)) := by
 have loop : ∀ d i : Nat, i + d = l.length → Gets (qft (qb l) (qx V) i) (· = .bool (okV V (l.drop i))) := by
  intro d
  induction d with
  | zero =>
   intro i hi
   refine qeg _ _ _ ?_
   rw [qd, decide_eq_false (by omega), qyV (by omega)]
   exact ⟨_, rfl, rfl⟩
  | succ d ih =>
   intro i hi
   have hil : i < l.length := by omega
   have hx : l[i]? = some l[i] := qyI hil
   have hd : l.drop i = l[i] :: l.drop (i + 1) := qyS hil
   have hc := qgF hV (hw _ (qyR hx))
   have h1 := ih (i + 1) (by omega)
   refine qeg _ _ _ ?_
   rw [qd, decide_eq_true (show (i : Int) < (l.length : Int) by omega), qw, qD, decide_eq_true hil, q9 hx, qJ hil hlen, hd, qhb]
   simp only [cond_true, qy2, qi, qy1, qp, qt, show qyQ 4 4 = true from rfl, qj, hc, qc, qm, bneD]
   by_cases h0 : xg V l[i] = 0
   ·rw [decide_eq_true h0]
    exact h1
   ·rw [decide_eq_false h0]
    exact ⟨_, rfl, rfl⟩
 apply Gets.get
 exact ql1 _ _ (by simpa using loop l.length 0 (by omega))
theorem ql2 {t : Tm} (hc : t.chk = 0) : EVf (EV cfg) 181 [t.av] = some (clR (vM t)) := by
 have hw := vj hc
 have hwe := t.w_eq
 have hz : AV.tup [.agg [AV.int .i64 (0 : Int), .int .i64 (0 : Int), .str [], .sl [], .sl [], .sl []], .bool false] = clR none := rfl
 apply Gets.get
 rw [Tm.av, Tm.cells_eq]
 refine qkS _ _ _ _ ?_
 unfold zD0
 rw [bneD, bneD, hz, qd]
 by_cases h7 : t.kind = 7
 ·rw [decide_eq_true h7]
  by_cases h3 : t.subs.length = 3
  ·obtain ⟨h, g, b, hs⟩ : ∃ h g b, t.subs = [h, g, b] := by
    cases hs : t.subs with
    | nil => rw [hs] at h3; simp at h3
    | cons a l => cases l with
     | nil => rw [hs] at h3; simp at h3
     | cons b l => cases l with
      | nil => rw [hs] at h3; simp at h3
      | cons d l => cases l with
       | nil => exact ⟨a, b, d, rfl⟩
       | cons e l => rw [hs] at h3; simp at h3
   have ch : h.chk = 0 := qZ hc (by rw [hs]; simp)
   have cg : g.chk = 0 := qZ hc (by rw [hs]; simp)
   have cb : b.chk = 0 := qZ hc (by rw [hs]; simp)
   rw [hs] at hwe
   simp only [qV, vQ] at hwe
   have lg := yO cg
   have lb := yO cb
   have hh := qpX (t := h) (by omega)
   have hv := qp8 (t := h) (by omega)
   have e1 := qcs cg
   have e2 := qcs cb
   have x1 := qgE (V := xG h) (l := (qC g).1) (by have := qet h; omega) (by omega) (fun x hx => by have := vY hx; omega)
   have x2 := qgE (V := xG h) (l := (qC b).1) (by have := qet h; omega) (by omega) (fun x hx => by have := vY hx; omega)
   have gh : vM t = if qaf h && ((qC g).2 && ((qC b).2 && !(qC b).1.isEmpty)) && (okV (xG h) (qC g).1 && okV (xG h) (qC b).1) then some ⟨h, (qC g).1, (qC b).1⟩ else none := by
    unfold vM; rw [if_pos h7, hs]; rfl
   rw [decide_eq_true (show (t.subs.length : Int) = 3 by omega), hs, qy, qy, qy, qI, gh]
   have g0 : qyG [h.cells, g.cells, b.cells] 0 = some h.cells := rfl
   have g1 : qyG [h.cells, g.cells, b.cells] 1 = some g.cells := rfl
   have g2 : qyG [h.cells, g.cells, b.cells] 2 = some b.cells := rfl
   have l0 : qg 0 (([h, g, b].length : Nat) : Int) = true := rfl
   have l1 : qg 1 (([h, g, b].length : Nat) : Int) = true := rfl
   have l2 : qg 2 (([h, g, b].length : Nat) : Int) = true := rfl
   rw [g0, g1, g2]
   simp only [l0, l1, l2, qzh, cond_false, cond_true, qy2, qc, qi, qy1, qp, qt, vw, qj, hh, qk]
   cases qaf h with
   | false => exact ⟨_, rfl, rfl⟩
   | true =>
    simp only [qzh, cond_false, qzg, hv, e1, e2, lsR, qc, kTup, qa, vE, qk, kNil, qd, beqI]
    cases (qC g).2 with
    | false => exact ⟨_, rfl, rfl⟩
    | true =>
     cases (qC b).2 with
     | false => exact ⟨_, rfl, rfl⟩
     | true =>
      simp only [qzh, cond_false, qzg]
      cases hb : (qC b).1 with
      | nil => exact ⟨_, rfl, rfl⟩
      | cons x l =>
       rw [hb] at x2
       rw [decide_eq_false (show ¬ (((x :: l).length : Nat) : Int) = 0 by simp; omega)]
       simp only [cond_false, x1, x2, qc, qk]
       cases okV (xG h) (qC g).1 with
       | false => exact ⟨_, rfl, rfl⟩
       | true =>
        cases okV (xG h) (x :: l) with
        | false => exact ⟨_, rfl, rfl⟩
        | true => exact ⟨_, rfl, rfl⟩
  ·have : vM t = none := by
    unfold vM
    rw [if_pos h7]
    cases hs : t.subs with
    | nil => rfl
    | cons a l => cases l with
     | nil => rfl
     | cons b l => cases l with
      | nil => rfl
      | cons d l => cases l with
       | nil => rw [hs] at h3; simp at h3
       | cons e l => rfl
   rw [decide_eq_false (show ¬ (t.subs.length : Int) = 3 by omega), this]
   exact ⟨_, rfl, rfl⟩
 ·have : vM t = none := by unfold vM; rw [if_neg h7]
  rw [decide_eq_false h7, this]
  exact ⟨_, rfl, rfl⟩
end Go.Proofs.YtkgkjngbfdnoiaaGreat
end
section
namespace Go.Av
theorem qkH (t : Tm) (hc : t.chk = 0) : clsG t = match seqC (qC t).1 with
  | some l => if (qC t).2 && !l.isEmpty then (l, 0) else ([], 10)
  | none => ([], 10) := by
 unfold clsG; rw [if_pos hc]; rfl
theorem qqR {t : Tm} (hc : t.chk = 0) : (qC t).1.length ≤ 4259840 := by
 have := yO hc
 have := vj hc
 omega
theorem kClR {α : Type} (o : Option Cl) (K : Int → Int → List UInt8 → List (List AV) → List (List AV) → List (List AV) → Bool → Option α) : (kTup (clR o) fun cs => qa cs fun c cs => kAgg c fun cs_1 => qa cs_1 fun c cs_2 => kInt .i64 c fun n => qa cs_2 fun c cs_3 => kInt .i64 c fun n_2 => qa cs_3 fun c cs_4 => kStr c fun s => qa cs_4 fun c cs_5 => kSl c fun rows_2 => qa cs_5 fun c cs_6 => kSl c fun rows_3 => qa cs_6 fun c cs_7 => kSl c fun rows_4 => kNil cs_7 (qa cs fun c cs => qf c fun b => kNil cs (K n n_2 s rows_2 rows_3 rows_4 b))) =
  K (o.getD qdc).head.kind (o.getD qdc).head.num (o.getD qdc).head.str (qb (o.getD qdc).head.subs) (qb (o.getD qdc).gs) (qb (o.getD qdc).bs) o.isSome := by
 cases o <;> rfl
end Go.Av
namespace Go.Proofs.YtkgkjngbfdnoiaaGreat
open Go.Av
def clsB (r : List Cl × Int) : OV × AV := (.own 6 (vB r.1) 0 r.1.length, .bool (decide (r.2 = 0)))
theorem qam {t : Tm} (hc : t.chk = 0) : EVq (EV cfg) 99 [t.av] = some (clsB (clsG t)) := by
 have hi := qcs hc
 have hw := vj hc
 have hlen := qqR hc
 have hic := qbn hc
 have hlw := yO hc
 rw [qkH t hc]
 have loop : ∀ (l : List Tm), (∀ x ∈ l, x.chk = 0) → l.length ≤ 4259840 → ∀ (d i : Nat) (acc : List Cl), i + d = l.length → acc.length = i → Gets (qfw (qb l) i i (vB acc)) (· = match seqC (l.drop i) with | some cs => (OV.own 6 (vB (acc ++ cs)) 0 (acc ++ cs).length, AV.bool true) | none => (OV.own 6 [] 0 0, AV.bool false)) := by
  intro l hl hln d
  induction d with
  | zero =>
   intro i acc hd ha
   refine qei _ _ _ _ ?_
   rw [qd, decide_eq_false (by omega), qyV (by omega)]
   refine ⟨_, rfl, ?_⟩
   show _ = (OV.own 6 (vB (acc ++ [])) 0 (acc ++ []).length, AV.bool true)
   rw [List.append_nil, ha]
  | succ d ih =>
   intro i acc hd ha
   have hil : i < l.length := by omega
   have hx : l[i]? = some l[i] := qyI hil
   have hdr : l.drop i = l[i] :: l.drop (i + 1) := qyS hil
   have hcl := ql2 (hl _ (qyR hx))
   refine qei _ _ _ _ ?_
   rw [qd, decide_eq_true (show (i : Int) < (l.length : Int) by omega), qw, qD, decide_eq_true hil, q9 hx, qJ hil (by omega), hdr, seqC]
   simp only [cond_true, qy2, qi, qy1, qp, qt, show qyQ 4 4 = true from rfl, qj, hcl, qc]
   rw [kClR]
   cases hg : vM l[i] with
   | none => exact ⟨_, rfl, rfl⟩
   | some c =>
    have e1 : qyQ (0 + i) (vB acc).length = true := by rw [qy9, zO]; omega
    have e2 : qy4 (qyM i (vB acc)) [c.cells] = vB (acc ++ [c]) := by
     rw [qyP (by rw [zO]; omega), qbD, qrz]; rfl
    have h2 := ih (i + 1) (acc ++ [c]) (by omega) (by rw [qy6, ha]; rfl)
    simp only [qzl, qzh, cond_false, e1, qj1 (show i + 1 ≤ 1099511627776 by omega), qy2, cond_true, Option.getD_some]
    have e3 : [AV.int .i64 c.head.kind, .int .i64 c.head.num, .str c.head.str, .sl (qb c.head.subs), .sl (qb c.gs), .sl (qb c.bs)] = c.cells := rfl
    rw [e3, e2]
    refine Gets.mono h2 ?_
    rintro _ rfl
    cases seqC (l.drop (i + 1)) with
    | none => rfl
    | some cs =>
     simp only [qy0, qy7, List.append_assoc, List.singleton_append]
 apply Gets.get
 rw [Tm.av, Tm.cells_eq] at hi ⊢
 refine qig _ _ _ _ ?_
 rw [hi]
 simp only [lsR, qc]
 rw [qtt]
 cases (qC t).2 with
 | false =>
  refine ⟨_, rfl, ?_⟩
  cases seqC (qC t).1 <;> rfl
 | true =>
  rw [qzh, cond_false, qd, beqI]
  cases hl : (qC t).1 with
  | nil => exact ⟨_, rfl, rfl⟩
  | cons x l =>
   rw [decide_eq_false (show ¬ (((x :: l).length : Nat) : Int) = 0 by simp; omega), cond_false]
   have h := loop (x :: l) (by rw [← hl]; exact hic) (by rw [← hl]; exact hlen) (x :: l).length 0 [] (by omega) rfl
   refine Gets.mono h ?_
   rintro _ rfl
   rw [qzk]
   cases hs : seqC (x :: l) with
   | none => rfl
   | some cs =>
    have : cs.isEmpty = false := by
     have := qg8 hs
     cases cs with
     | nil => simp at this
     | cons => rfl
    simp only [this, List.nil_append, qzg, Bool.not_false, if_true]
    rfl
theorem qm8 {t : Tm} (hc : t.chk ≠ 0) : clsG t = ([], 2) := by unfold clsG; rw [if_neg hc]
theorem qtP (t : Tm) (hc : t.chk = 0) : (clsG t).2 = if (clsG t).2 = 0 then 0 else 10 := by
 rw [qkH t hc]
 cases seqC (qC t).1 with
 | none => rfl
 | some l => simp only []; split <;> rfl
theorem qnR {t : Tm} (h : t.w < 1099511627776) : EVs (EV cfg) 37 [t.av] = some (.int .i64 (clsG t).2) := by
 have hm := xf h
 by_cases hc : t.chk = 0
 ·have hk := qam hc
  have he := qtP t hc
  apply Gets.get
  rw [Tm.av, Tm.cells_eq] at hm hk ⊢
  refine qeG _ _ _ _ ?_
  rw [hm, hk, hc]
  simp only [qc, qm, bneD, decide_true, qzh, cond_false, clsB, qk]
  by_cases h0 : (clsG t).2 = 0
  ·rw [h0]; exact ⟨_, rfl, rfl⟩
  ·rw [if_neg h0] at he
   rw [decide_eq_false h0, he]; exact ⟨_, rfl, rfl⟩
 ·apply Gets.get
  rw [Tm.av, Tm.cells_eq] at hm ⊢
  refine qeG _ _ _ _ ?_
  rw [hm, qm8 hc]
  simp only [qc, qm, bneD, decide_eq_false hc]
  exact ⟨_, rfl, rfl⟩
end Go.Proofs.YtkgkjngbfdnoiaaGreat
end
section
namespace Go.Av
def insB : List (Int × Tm) → Int → Tm → List (Int × Tm)
 | [], n, t => [(n, t)]
 | x :: l, n, t => if x.1 < n then x :: insB l n t else (n, t) :: x :: l
theorem qty (A B : List (Int × Tm)) (n : Int) (t : Tm) (h : ∀ a ∈ A, a.1 < n) : insB (A ++ B) n t = A ++ insB B n t := by
 induction A with
 | nil => rfl
 | cons a A ih => rw [List.cons_append, insB, if_pos (h a (by simp)), ih (fun x hx => h x (by simp [hx]))]; rfl
theorem qpf (B : List (Int × Tm)) (n : Int) (t : Tm) (h : ∀ b, B.head? = some b → ¬ b.1 < n) : insB B n t = (n, t) :: B := by
 cases B with
 | nil => rfl
 | cons b B => rw [insB, if_neg (h b rfl)]
theorem qcZ {α β : Type} {f g : α → Option β} : ∀ {l : List α}, (∀ x ∈ l, f x = g x) → l.filterMap f = l.filterMap g
 | [], _ => rfl
 | x :: l, h => by
  have h1 := qcZ (l := l) fun y hy => h y (by simp [hy])
  cases hf : g x with
  | none => rw [List.filterMap_cons_none (by rw [h x (by simp)]; exact hf), List.filterMap_cons_none hf, h1]
  | some y => rw [List.filterMap_cons_some (by rw [h x (by simp)]; exact hf), List.filterMap_cons_some hf, h1]
def xA (m : List (Int × Tm)) (n : Nat) : Option (Int × Tm) := (qP (n : Int) m).map fun t => ((n : Int), t)
theorem qay (m : List (Int × Tm)) : vN m = (List.range' 0 100).filterMap (xA m) := by
 unfold vN
 rw [List.range_eq_range']; rfl
theorem qaL {m : List (Int × Tm)} {k : Nat} {p : Int × Tm} (h : xA m k = some p) : p.1 = k := by
 unfold xA at h
 obtain ⟨t, _, rfl⟩ := qyO.1 h
 rfl
theorem qoC {m : List (Int × Tm)} {n : Nat} {t : Tm} (hn : qP (n : Int) m = none) : ∀ d a : Nat, a ≤ n → n < a + d → insB ((List.range' a d).filterMap (xA m)) n t = (List.range' a d).filterMap (xA (m ++ [((n : Int), t)])) := by
 intro d
 induction d with
 | zero => intro a h1 h2; omega
 | succ d ih =>
  intro a h1 h2
  have other : ∀ k : Nat, k ≠ n → xA (m ++ [((n : Int), t)]) k = xA m k := fun k hk => by
   unfold xA
   rw [z5]
   cases qP (k : Int) m with
   | some x => rfl
   | none => simp only []; rw [if_neg (by omega)]
  rw [List.range'_succ]
  by_cases ha : a = n
  ·subst ha
   have h0 : xA m a = none := by unfold xA; rw [hn]; rfl
   have h1' : xA (m ++ [((a : Int), t)]) a = some ((a : Int), t) := by
    unfold xA
    rw [z5, hn]
    simp
   rw [List.filterMap_cons_none h0, List.filterMap_cons_some h1']
   have hc : (List.range' (a + 1) d).filterMap (xA (m ++ [((a : Int), t)])) = (List.range' (a + 1) d).filterMap (xA m) := by
    refine qcZ fun k hk => other k ?_
    have := (List.mem_range'_1.1 hk).1
    omega
   rw [hc]
   refine qpf _ _ _ fun b hb => ?_
   have hm : b ∈ (List.range' (a + 1) d).filterMap (xA m) := List.mem_of_mem_head? (by rw [hb]; rfl)
   obtain ⟨k, hk, hkb⟩ := List.mem_filterMap.1 hm
   have := (List.mem_range'_1.1 hk).1
   rw [qaL hkb]; omega
  ·have hrec := ih (a + 1) (by omega) (by omega)
   have ho := other a ha
   cases hf : xA m a with
   | none => rw [List.filterMap_cons_none hf, List.filterMap_cons_none (by rw [ho]; exact hf)]; exact hrec
   | some p =>
    have := qaL hf
    rw [List.filterMap_cons_some hf, List.filterMap_cons_some (by rw [ho]; exact hf), insB, if_pos (by omega), hrec]
theorem qsi {m : List (Int × Tm)} {n : Nat} {t : Tm} (h : n < 100) (hn : qP (n : Int) m = none) : insB (vN m) n t = vN (m ++ [((n : Int), t)]) := by
 rw [qay, qay]
 exact qoC hn 100 0 (by omega) (by omega)
theorem qiE {n : Int} : ∀ {l : List (Int × Tm)}, (∀ p ∈ l, p.1 ≠ n) → qP n l = none
 | [], _ => rfl
 | p :: l, h => by rw [qP, if_neg (h p (by simp))]; exact qiE fun q hq => h q (by simp [hq])
theorem qmv {m : List (Int × Tm)} {n : Nat} : ∀ d a : Nat, a ≤ n → n < a + d → qP (n : Int) ((List.range' a d).filterMap (xA m)) = qP (n : Int) m := by
 intro d
 induction d with
 | zero => intro a h1 h2; omega
 | succ d ih =>
  intro a h1 h2
  rw [List.range'_succ]
  by_cases ha : a = n
  ·subst ha
   cases hf : xA m a with
   | none =>
    rw [List.filterMap_cons_none hf]
    unfold xA at hf
    cases hl : qP (a : Int) m with
    | some t => rw [hl] at hf; cases hf
    | none =>
     refine qiE fun p hp => ?_
     obtain ⟨k, hk, hkb⟩ := List.mem_filterMap.1 hp
     have := (List.mem_range'_1.1 hk).1
     rw [qaL hkb]; omega
   | some p =>
    rw [List.filterMap_cons_some hf, qP, if_pos (qaL hf)]
    unfold xA at hf
    obtain ⟨t, ht, rfl⟩ := qyO.1 hf
    rw [ht]
  ·have hrec := ih (a + 1) (by omega) (by omega)
   cases hf : xA m a with
   | none => rw [List.filterMap_cons_none hf]; exact hrec
   | some p =>
    have := qaL hf
    rw [List.filterMap_cons_some hf, qP, if_neg (by omega)]; exact hrec
theorem qqx (m : List (Int × Tm)) {n : Nat} (h : n < 100) : qP (n : Int) (vN m) = qP (n : Int) m := by
 rw [qay]
 exact qmv 100 0 (by omega) (by omega)
theorem qew (m : List (Int × Tm)) : (vN m).length ≤ 100 := by
 unfold vN
 exact Nat.le_trans (List.length_filterMap_le _ _) (by simp)
theorem qeB (l : List (Int × Tm)) : ve 5 (qo l) = true := by
 cases l with
 | nil => rfl
 | cons p l =>
  show (([AV.int .i64 p.1] ++ p.2.cells).length == 5) = true
  rw [qy6, qi]; rfl
theorem qgX (l : List (Int × Tm)) (n : Nat) : (qo l).take n = qo (l.take n) := by simp [qo, List.map_take]
theorem qoU (l : List (Int × Tm)) (n : Nat) : (qo l).drop n = qo (l.drop n) := by simp [qo, List.map_drop]
theorem qdS (a b : List (Int × Tm)) : qo a ++ qo b = qo (a ++ b) := by simp [qo]
def MatP (o : Option (List (Int × Tm))) (v : AV) : Prop := ∃ (B : List (List AV)) (b : Bool), v = .tup [.sl B, .bool b] ∧ match o with
 | some m => b = true ∧ B = qo (vN m)
 | none => b = false
end Go.Av
namespace Go.Proofs.YtkgkjngbfdnoiaaGreat
open Go.Av
theorem qil (a : Tm) : a.w < 1099511627776 → ∀ b : Tm, EVs (EV cfg) 146 [a.av, b.av] = some (.bool (decide (a = b))) := by
 induction a using Tm.ind with
 | _ k n s l ih =>
  intro hw b
  obtain ⟨k', n', s', l'⟩ := b
  rw [Tm.w_mk] at hw
  have hlen := xB l
  have loop : l.length = l'.length → ∀ d i : Nat, i + d = l.length → Gets (qdf i k n s (qb l) k' n' s' (qb l')) (· = .bool (decide (l.drop i = l'.drop i))) := by
   intro hll d
   induction d with
   | zero =>
    intro i hi
    refine qdX _ _ _ _ _ _ _ _ _ ?_
    rw [qd, decide_eq_false (show ¬ ((i : Int) < (l.length : Int)) by omega), qyV (by omega), qyV (by omega)]
    exact ⟨_, rfl, rfl⟩
   | succ d ihd =>
    intro i hi
    have hil : i < l.length := by omega
    have him : i < l'.length := by omega
    refine qdX _ _ _ _ _ _ _ _ _ ?_
    have hx : l[i]? = some l[i] := qyI hil
    have hy : l'[i]? = some l'[i] := qyI him
    have hd : l.drop i = l[i] :: l.drop (i + 1) := qyS hil
    have hd' : l'.drop i = l'[i] :: l'.drop (i + 1) := qyS him
    have hm := qyR hx
    have h1 := ih l[i] hm (by have := vY hm; omega) l'[i]
    have h2 := ihd (i + 1) (by omega)
    rw [qd, qd, decide_eq_true (show (i : Int) < (l.length : Int) by omega), qw, qD, qD, decide_eq_true hil, decide_eq_true him, q9 hx, qJ hil (by omega)]
    simp only [cond_true, qy2, qi, qy1, qp, qt, show qyQ 4 4 = true from rfl]
    rw [q9 hy]
    simp only [cond_true, qi, qy1, qp, qt, show qyQ 4 4 = true from rfl, qj, h1, qc, qk]
    rw [hd, hd']
    by_cases he : l[i] = l'[i]
    ·rw [decide_eq_true he]
     refine h2.mono ?_
     rintro _ rfl
     rw [he]
     congr 1
     exact decide_eq_decide.2 ⟨fun h => by rw [h], fun h => (List.cons.inj h).2⟩
    ·rw [decide_eq_false he]
     refine ⟨_, rfl, ?_⟩
     rw [decide_eq_false (fun h => he (List.cons.inj h).1)]
  apply Gets.get
  rw [Tm.av_mk, Tm.av_mk]
  refine qoc _ _ _ _ _ _ _ _ ?_
  rw [bneD, bneD, beqS, bneD, qd, qd]
  by_cases h1 : k = k'
  ·by_cases h2 : n = n'
   ·by_cases h3 : s = s'
    ·by_cases h4 : l.length = l'.length
     ·subst h1 h2 h3
      rw [decide_eq_true rfl, decide_eq_true rfl, decide_eq_true rfl, decide_eq_true (show (l.length : Int) = l'.length by omega)]
      have h := loop h4 l.length 0 (by omega)
      rw [qzk, qzk] at h
      refine h.mono ?_
      rintro _ rfl
      congr 1
      exact decide_eq_decide.2 ⟨fun h => by rw [h], fun h => by cases h; rfl⟩
     ·rw [decide_eq_true h1, decide_eq_true h2, decide_eq_true h3, decide_eq_false (show ¬ (l.length : Int) = l'.length by omega)]
      exact ⟨_, rfl, by rw [decide_eq_false (fun h => by cases h; exact h4 rfl)]⟩
    ·rw [decide_eq_true h1, decide_eq_true h2, decide_eq_false h3]
     exact ⟨_, rfl, by rw [decide_eq_false (fun h => by cases h; exact h3 rfl)]⟩
   ·rw [decide_eq_true h1, decide_eq_false h2]
    exact ⟨_, rfl, by rw [decide_eq_false (fun h => by cases h; exact h2 rfl)]⟩
  ·rw [decide_eq_false h1]
   exact ⟨_, rfl, by rw [decide_eq_false (fun h => by cases h; exact h1 rfl)]⟩
theorem qqc {l : List (Int × Tm)} (hl : l.length < 1000000) (n : Int) (t : Tm) : EVf (EV cfg) 315 [.sl (qo l), .int .i64 n, t.av] = some (.sl (qo (insB l n t))) := by
 have put : ∀ i : Nat, i ≤ l.length → Gets (qbM (qo l) n i t.kind t.num t.str (qb t.subs)) (· = .sl (qo (l.take i ++ (n, t) :: l.drop i))) := by
  intro i hi
  refine qla _ _ _ _ _ _ _ ?_
  have e1 : (i : Int).toNat = i := qy3 i
  have hli : qh (i : Int) (((qo l).length : Nat) : Int) = true := by rw [qQ]; simp only [qh]; exact decide_eq_true (by omega)
  have e2 : (qo l).take (i - 0) = qo (l.take i) := by rw [Nat.sub_zero, qgX]
  have e3 : qyM ((qo l).length - i) (qzj i (qo l)) = qo (l.drop i) := by
   rw [qQ, qoU, qgX, qyP (by rw [List.length_drop]; exact qyN _)]
  have e4 : (qo (l.take i)).length = i := by rw [qQ, qzb]; omega
  have e5 : (qo (l.drop i)).length = l.length - i := by rw [qQ, List.length_drop]
  have e6 : qy4 (qyM (0 + i) (qo (l.take i))) [[AV.int .i64 n, .int .i64 t.kind, .int .i64 t.num, .str t.str, .sl (qb t.subs)]] = qo (l.take i ++ [(n, t)]) := by
   rw [qyP (by omega), ← qdS]
   have : [[AV.int .i64 n, .int .i64 t.kind, .int .i64 t.num, .str t.str, .sl (qb t.subs)]] = qo [(n, t)] := by
    simp only [qo, List.map_cons, List.map_nil, Tm.cells_eq]
   rw [this]; rfl
  have e7 : (qo (l.take i ++ [(n, t)])).length = i + 1 := by rw [qQ, qy6, qzb, List.length_singleton]; omega
  have e8 : qy4 (qyM (0 + i + 1) (qo (l.take i ++ [(n, t)]))) (qo (l.drop i)) = qo (l.take i ++ (n, t) :: l.drop i) := by
   rw [qyP (by omega)]
   show qo _ ++ qo _ = _
   rw [qdS, List.append_assoc]; rfl
  have e9 : (qo (l.take i ++ (n, t) :: l.drop i)).length = i + 1 + (l.length - i) := by rw [qQ, qy6, qzb, qzc, List.length_drop]; omega
  have e10 : qyM (0 + i + 1 + (l.length - i)) (qo (l.take i ++ (n, t) :: l.drop i)) = qo (l.take i ++ (n, t) :: l.drop i) := qyP (by omega)
  have b1 : qyQ (0 + (0 + i)) i = true := by rw [qy9]; omega
  have b2 : qyQ (0 + (0 + i + 1)) (i + 1) = true := by rw [qy9]; omega
  have b3 : qyQ (0 + (0 + i + 1 + (l.length - i))) (i + 1 + (l.length - i)) = true := by rw [qy9]; omega
  have f1 : qN (0 + i) 64 = true := qcX (by omega)
  have f2 : qN (0 + i + 1) 64 = true := qcX (by omega)
  have f3 : qN (0 + i + 1 + (l.length - i)) 64 = true := qcX (by omega)
  simp only [e1, qw, hli, qeB, e2, e4, e6, b1, f1, f2, qy2, cond_true]
  refine qk9 _ _ _ _ _ _ _ _ _ ?_
  simp only [e1, qw, hli, qeB, e3, e5, e7, e8, e9, e10, b2, b3, f3, qy2, cond_true]
  exact ⟨_, rfl, rfl⟩
 have loop : ∀ d i : Nat, i + d = l.length → (∀ a ∈ l.take i, a.1 < n) → Gets (qde (qo l) n i t.kind t.num t.str (qb t.subs)) (· = .sl (qo (insB l n t))) := by
  intro d
  have here : ∀ i : Nat, i ≤ l.length → (∀ a ∈ l.take i, a.1 < n) → (∀ b, (l.drop i).head? = some b → ¬ b.1 < n) → Gets (qbM (qo l) n i t.kind t.num t.str (qb t.subs)) (· = .sl (qo (insB l n t))) := by
   intro i hi hlt hge
   have h := put i hi
   have hs := qty (l.take i) (l.drop i) n t hlt
   rw [List.take_append_drop, qpf _ _ _ hge] at hs
   rw [hs]; exact h
  induction d with
  | zero =>
   intro i hi hlt
   refine qdW _ _ _ _ _ _ _ ?_
   rw [qQ, decide_eq_false (by omega)]
   exact here i (by omega) hlt (fun b h => by rw [qyV (by omega)] at h; cases h)
  | succ d ih =>
   intro i hi hlt
   have hil : i < l.length := by omega
   refine qdW _ _ _ _ _ _ _ ?_
   have hx : l[i]? = some l[i] := qyI hil
   have hd : l.drop i = l[i] :: l.drop (i + 1) := qyS hil
   rw [qQ, decide_eq_true (show (i : Int) < (l.length : Int) by omega), qw, qD, decide_eq_true hil, ql, qy3, xI, hx, qJ hil (by omega)]
   simp only [qy2, cond_true, qy7, qc, qzc, qi, show qyW (4 + 1) 5 = true from rfl, ql, qy8, qm]
   by_cases hlx : l[i].1 < n
   ·rw [decide_eq_true hlx]
    refine ih (i + 1) (by omega) (fun a ha => ?_)
    rw [List.take_add_one, hx, Option.toList_some, qzi] at ha
    rcases ha with h | h
    ·exact hlt a h
    ·simp at h; subst h; exact hlx
   ·rw [decide_eq_false hlx]
    refine here i (by omega) hlt (fun b h => ?_)
    rw [hd] at h; cases h; exact hlx
 apply Gets.get
 rw [qY t]
 exact qn8 _ _ _ _ _ _ (loop l.length 0 (by omega) (by simp))
theorem qb5 {α : Type} (r : List (List AV)) (x : Bool) (K : List (List AV) → Bool → Option α) : (kTup (.tup [.sl r, .bool x]) fun cs => qa cs fun c cs => kSl c fun rows => qa cs fun c cs => qf c fun n => kNil cs (K rows n)) = K r x := rfl
theorem kTbR {α : Type} (o : Option Tm) (K : Int → Int → List UInt8 → List (List AV) → Bool → Option α) : (kTup (tbR o) fun cs => qa cs fun c cs => kAgg c fun cs_1 => qa cs_1 fun c cs_2 => kInt .i64 c fun n => qa cs_2 fun c cs_3 => kInt .i64 c fun n_1 => qa cs_3 fun c cs_4 => kStr c fun s => qa cs_4 fun c cs_5 => kSl c fun rows => kNil cs_5 (qa cs fun c cs => qf c fun b => kNil cs (K n n_1 s rows b))) = K (o.getD qX).kind (o.getD qX).num (o.getD qX).str (qb (o.getD qX).subs) o.isSome := by
 unfold tbR
 generalize o.getD qX = t
 obtain ⟨k, n, s, l⟩ := t
 rw [Tm.av_mk]; rfl
theorem qyw {α : Type} (o : Option Int) (K : Int → Bool → Option α) : (kTup (varR o) fun cs => qa cs fun c cs => kInt .i64 c fun n => qa cs fun c cs => qf c fun b => kNil cs (K n b)) = K (o.getD 0) o.isSome := rfl
theorem qs0 {p : Tm} (hc : p.chk = 0) : varT p = if p.kind = 2 then varG p.str else none := by
 unfold varT
 by_cases h : p.kind = 2
 ·rw [if_pos ⟨h, hc⟩, if_pos h]
 ·rw [if_neg (fun g => h g.1), if_neg h]
theorem qn2 : ∀ (n : Nat) (p t : Tm) (m : List (Int × Tm)), p.w ≤ n → p.chk = 0 → t.chk = 0 → (∀ q ∈ m, q.2.chk = 0) → Gets (EVf (EV cfg) 299 [p.av, t.av, .sl (qo (vN m))]) (MatP (xU p t m)) := by
 intro n
 induction n with
 | zero => intro p t m h; have := vH p; omega
 | succ n ih =>
  intro p t m hw hp ht hm
  have hwe := p.w_eq
  have hwc := vj hp
  have hv := qaP (t := p) (by omega)
  have hs := qil p (by omega) t
  have hvt := qs0 hp
  have loop : (p.subs.length = t.subs.length) → ∀ (d i : Nat) (m : List (Int × Tm)), i + d = p.subs.length → (∀ q ∈ m, q.2.chk = 0) → Gets (zM (qo (vN m)) i p.kind p.num p.str (qb p.subs) t.kind t.num t.str (qb t.subs)) (MatP (xC (p.subs.drop i) (t.subs.drop i) m)) := by
   intro hll d
   induction d with
   | zero =>
    intro i m hi hm
    refine qee _ _ _ _ _ _ _ _ _ _ ?_
    rw [qd, decide_eq_false (show ¬ ((i : Int) < (p.subs.length : Int)) by omega), qyV (by omega), qbf]
    exact ⟨_, rfl, _, _, rfl, rfl, rfl⟩
   | succ d ihd =>
    intro i m hi hm
    have hil : i < p.subs.length := by omega
    have him : i < t.subs.length := by omega
    refine qee _ _ _ _ _ _ _ _ _ _ ?_
    have hx : p.subs[i]? = some p.subs[i] := qyI hil
    have hy : t.subs[i]? = some t.subs[i] := qyI him
    have hd : p.subs.drop i = p.subs[i] :: p.subs.drop (i + 1) := qyS hil
    have hd' : t.subs.drop i = t.subs[i] :: t.subs.drop (i + 1) := qyS him
    have hpm := qyR hx
    have htm := qyR hy
    have h1 := ih p.subs[i] t.subs[i] m (by have := vY hpm; omega) (qZ hp hpm) (qZ ht htm) hm
    have hlen := xE hp
    rw [qd, qd, decide_eq_true (show (i : Int) < (p.subs.length : Int) by omega), qw, qD, qD, decide_eq_true hil, decide_eq_true him, q9 hx, qJ hil (by omega)]
    simp only [cond_true, qy2, qi, qy1, qp, qt, show qyQ 4 4 = true from rfl]
    rw [q9 hy]
    simp only [cond_true, qi, qy1, qp, qt, show qyQ 4 4 = true from rfl, qj]
    rw [hd, hd', qaC]
    refine Gets.bind h1 ?_
    rintro _ ⟨B, b, rfl, hB⟩
    rw [qb5]
    cases hmt : xU p.subs[i] t.subs[i] m with
    | none =>
     rw [hmt] at hB
     simp only [] at hB
     subst hB
     exact ⟨_, rfl, _, _, rfl, rfl⟩
    | some m' =>
     rw [hmt] at hB
     obtain ⟨rfl, rfl⟩ := hB
     have hm' := qdy _ _ _ _ _ (qyN _) (qZ ht htm) hm hmt
     exact ihd (i + 1) m' (by omega) hm'
  have hb : ∀ k : Int, EVf (EV cfg) 315 [.sl (qo (vN m)), .int .i64 k, t.av] = some (.sl (qo (insB (vN m) k t))) := fun k => qqc (by have := qew m; omega) k t
  -- where neither is a variable
  have same : MatP (if p = t then some m else none) (.tup [.sl (qo (vN m)), .bool (decide (p = t))]) := by
   by_cases he : p = t
   ·rw [if_pos he, decide_eq_true he]; exact ⟨_, _, rfl, rfl, rfl⟩
   ·rw [if_neg he, decide_eq_false he]; exact ⟨_, _, rfl, rfl⟩
  rw [qeO]
  rw [qY p, qY t]
  refine qmf _ _ _ _ _ _ _ _ _ ?_
  rw [← qY p, ← qY t, hv, hvt, hs]
  simp only [qc]
  rw [qyw]
  by_cases h2 : p.kind = 2
  ·rw [if_pos h2, if_pos h2, beqI, decide_eq_true h2]
   cases hvg : varG p.str with
   | some v =>
    obtain ⟨h0, h99⟩ := qcL hvg
    have h95 : p.str ≠ [95] := fun e => by rw [e] at hvg; cases hvg
    obtain ⟨k, rfl⟩ : ∃ k : Nat, v = k := ⟨v.toNat, by omega⟩
    have hf := qik (L := vN m) (by have := qew m; omega) (k : Int)
    rw [qqx m (by omega)] at hf
    rw [if_neg h95]
    simp only [qzl, Option.getD_some, cond_true, hf, qc]
    rw [kTbR]
    cases hl : qP (k : Int) m with
    | some x =>
     have hxc : x.chk = 0 := hm _ (xy hl)
     have hsx := qil x (by have := vj hxc; omega) t
     simp only [qzl, Option.getD_some, cond_true]
     rw [← qY x, hsx]
     simp only [qc, qk]
     by_cases he : x = t
     ·rw [if_pos he, decide_eq_true he]; exact ⟨_, rfl, _, _, rfl, rfl, rfl⟩
     ·rw [if_neg he, decide_eq_false he]; exact ⟨_, rfl, _, _, rfl, rfl⟩
    | none =>
     simp only [Option.isSome_none, cond_false, hb, qc, vE]
     rw [qsi (by omega) hl]
     exact ⟨_, rfl, _, _, rfl, rfl, rfl⟩
   | none =>
    simp only [Option.isSome_none, cond_false, cond_true, beqS, bneD, qk]
    by_cases h95 : p.str = [95]
    ·rw [if_pos h95, decide_eq_true h95]
     exact ⟨_, rfl, _, _, rfl, rfl, rfl⟩
    ·rw [if_neg h95, decide_eq_false h95, decide_eq_false (show ¬ p.kind = 7 by omega), decide_eq_false (show ¬ p.kind = 9 by omega)]
     exact ⟨_, rfl, same⟩
  ·rw [if_neg h2, if_neg h2, beqI, decide_eq_false h2]
   simp only [Option.isSome_none, cond_false, bneD, qk, qd]
   have rest : p.kind = 7 ∨ p.kind = 9 → Gets (bif !decide (t.kind = p.kind) then some (AV.tup [.sl [], .bool false]) else bif !decide ((t.subs.length : Int) = p.subs.length) then some (AV.tup [.sl [], .bool false]) else zM (qo (vN m)) 0 p.kind p.num p.str (qb p.subs) t.kind t.num t.str (qb t.subs)) (MatP (if p.kind = 7 ∨ p.kind = 9 then (if t.kind ≠ p.kind ∨ t.subs.length ≠ p.subs.length then none else xC p.subs t.subs m) else if p = t then some m else none)) := by
    intro h79
    rw [if_pos h79]
    by_cases hk : t.kind = p.kind
    ·by_cases hl : t.subs.length = p.subs.length
     ·rw [if_neg (fun h => h.elim (fun h => h hk) fun h => h hl), decide_eq_true hk, decide_eq_true (show (t.subs.length : Int) = p.subs.length by omega)]
      have h := loop hl.symm p.subs.length 0 m (by omega) hm
      rw [qzk, qzk] at h
      exact h
     ·rw [if_pos (.inr hl), decide_eq_true hk, decide_eq_false (show ¬ (t.subs.length : Int) = p.subs.length by omega)]
      exact ⟨_, rfl, _, _, rfl, rfl⟩
    ·rw [if_pos (.inl hk), decide_eq_false hk]
     exact ⟨_, rfl, _, _, rfl, rfl⟩
   by_cases h7 : p.kind = 7
   ·rw [decide_eq_true h7]
    exact rest (.inl h7)
   ·by_cases h9 : p.kind = 9
    ·rw [decide_eq_false h7, decide_eq_true h9]
     exact rest (.inr h9)
    ·rw [decide_eq_false h7, decide_eq_false h9, if_neg (fun h => h.elim h7 h9)]
     exact ⟨_, rfl, same⟩
theorem qmi {L : List (Int × Tm)} (hlen : L.length < 1000000) (hw : ∀ p ∈ L, p.2.w < 1099511627776) : EVf (EV cfg) 300 [.sl (qo L)] = some (.sl (qo L)) := by
 have loop : ∀ d i : Nat, i + d = L.length → Gets (qfr (qo L) i i (qo (L.take i))) (· = .sl (qo L)) := by
  intro d
  induction d with
  | zero =>
   intro i hi
   obtain rfl : i = L.length := by omega
   refine qed _ _ _ _ ?_
   have hb : qyQ (0 + L.length) (qo L).length = true := by rw [qy9, qQ]; omega
   have ht : qyM L.length (qo L) = qo L := qyP (by rw [qQ]; exact qyN _)
   rw [List.take_length, hb, ht, qQ, decide_eq_false (by omega)]
   exact ⟨_, rfl, rfl⟩
  | succ d ih =>
   intro i hi
   have hil : i < L.length := by omega
   have hx : L[i]? = some L[i] := qyI hil
   have hcp := qba L[i].2 (hw _ (qyR hx))
   have h1 := ih (i + 1) (by omega)
   have e1 : L.take (i + 1) = L.take i ++ [L[i]] := by rw [List.take_add_one, hx]; rfl
   rw [e1, ← qdS] at h1
   have hl : (qo (L.take i)).length = i := by rw [qQ, qzb]; omega
   have hb : qyQ (0 + i) (qo (L.take i)).length = true := by rw [qy9, hl]; omega
   have ht : qyM i (qo (L.take i)) = qo (L.take i) := qyP (by omega)
   refine qed _ _ _ _ ?_
   rw [qQ, decide_eq_true (show (i : Int) < (L.length : Int) by omega), qw, qD, decide_eq_true hil, ql, qy3, xI, hx, qJ hil (by omega), hb, ht, qcX (by omega)]
   generalize L[i] = p at *
   have d1 : qyM 4 (qzj 1 (AV.int .i64 p.1 :: p.2.cells)) = p.2.cells := by
    rw [List.drop_succ_cons, qzk]; exact qp _
   simp only [cond_true, qy2, qy7, qc, qzc, qi, show qyW (4 + 1) 5 = true from rfl, show qyQ 5 (4 + 1) = true from rfl, ql, qy8, qm, d1]
   rw [qe3]
   simp only [qj, hcp, qc, qE]
   have er : [[AV.int .i64 p.1, .int .i64 p.2.kind, .int .i64 p.2.num, .str p.2.str, .sl (qb p.2.subs)]] = qo [p] := by
    simp only [qo, List.map_cons, List.map_nil, Tm.cells_eq]
   rw [er]
   exact h1
 apply Gets.get
 refine qk0 _ ?_
 exact loop L.length 0 (by omega)
theorem qn6 {p t : Tm} (wp : p.w < 1099511627776) (wt : t.w < 1099511627776) : EVf (EV cfg) 182 [p.av, t.av] = some (qcS (yk p t)) := by
 have cp := xf wp
 have ct := xf wt
 have hmay := qeH (L := []) (by simp) (by simp)
 have hmore : EVf (EV cfg) 256 [p.av, t.av, .sl []] = some (qcS (yk p t)) := by
  apply Gets.get
  rw [qY p, qY t]
  refine qn5 _ _ _ _ _ _ _ _ _ ?_
  rw [← qY p, ← qY t, cp, ct]
  unfold yk
  simp only [qc, qm, bneD]
  by_cases h1 : p.chk = 0
  ·rw [decide_eq_true h1]
   by_cases h2 : t.chk = 0
   ·rw [decide_eq_true h2, if_pos ⟨h1, h2⟩]
    have hm0 : EVs (EV cfg) 160 [.sl []] = some (.bool true) := hmay
    have h0 := qn2 p.w p t [] (qyN _) h1 h2 (by simp)
    have e0 : qo (vN []) = [] := by
     have : vN [] = [] := by
      rw [qay]
      have : ∀ l : List Nat, l.filterMap (xA []) = [] := fun l => by
       induction l with
       | nil => rfl
       | cons x l ih => rw [List.filterMap_cons_none (by rfl), ih]
      exact this _
     rw [this]; rfl
    rw [e0] at h0
    simp only [qzh, cond_false, hm0, qc, qk]
    refine Gets.bind h0 ?_
    rintro _ ⟨B, b, rfl, hB⟩
    rw [qb5]
    cases hmt : xU p t [] with
    | none =>
     rw [hmt] at hB
     simp only [] at hB
     subst hB
     exact ⟨_, rfl, rfl⟩
    | some m' =>
     rw [hmt] at hB
     obtain ⟨rfl, rfl⟩ := hB
     have hm' := qdy _ _ _ _ _ (qyN _) h2 (by simp) hmt
     have hcop := qmi (L := vN m') (by have := qew m'; omega) (fun q hq => by have := vj (hm' q (qkd hq).1); omega)
     simp only [qzh, cond_false, hcop, qc, vE]
     exact ⟨_, rfl, rfl⟩
   ·rw [decide_eq_false h2, if_neg (fun h => h2 h.2)]
    exact ⟨_, rfl, rfl⟩
  ·rw [decide_eq_false h1, if_neg (fun h => h1 h.1)]
   exact ⟨_, rfl, rfl⟩
 apply Gets.get
 rw [qY p, qY t]
 refine qmh _ _ _ _ _ _ _ _ ?_
 rw [← qY p, ← qY t, hmore]
 cases yk p t <;> exact ⟨_, rfl, rfl⟩
end Go.Proofs.YtkgkjngbfdnoiaaGreat
end
section
namespace Go.Av
theorem SelOk.w {cs : List Cl} (h : SelOk cs) : (selT cs).w ≤ 4259840 := vj h.chk
theorem qpq (e : Env) : ∀ (l : List Tm) (out : Tm), out.w ≤ 4259840 → (zI e out l).w ≤ 4259840
 | [], out, h => h
 | x :: l, out, h => by
  rw [zI]
  split
  ·rename_i h0
   exact qpq e l _ (vj (qsn h0))
  ·decide
theorem qu2 {c : Cl} {o x : Tm} {self : Int} (h : zW c o self = some x) : x.w ≤ 4259840 := by
 unfold zW at h
 cases hm : yk c.head o with
 | none => rw [hm] at h; cases h
 | some b =>
  rw [hm] at h
  simp only [] at h
  split at h
  ·cases h; exact qpq _ _ _ (by decide)
  ·cases h
end Go.Av
namespace Go.Proofs.YtkgkjngbfdnoiaaGreat
open Go.Av
theorem qsh {α : Type} (o : Option Tm) (K : Int → Int → List UInt8 → List (List AV) → Bool → Option α) : (kTup (qaF o) fun cs => qa cs fun c cs => kAgg c fun cs_1 => qa cs_1 fun c cs_2 => kInt .i64 c fun n => qa cs_2 fun c cs_3 => kInt .i64 c fun n_1 => qa cs_3 fun c cs_4 => kStr c fun s => qa cs_4 fun c cs_5 => kSl c fun rows => kNil cs_5 (qa cs fun c cs => qf c fun b => kNil cs (K n n_1 s rows b))) = K (o.getD qX).kind (o.getD qX).num (o.getD qX).str (qb (o.getD qX).subs) o.isSome := by
 cases o with
 | none =>
  show (kTup (.tup [qX.av, .bool false]) fun cs => _) = _
  rw [vq]; rfl
 | some t =>
  show (kTup (.tup [t.av, .bool true]) fun cs => _) = _
  obtain ⟨k, n, s, l⟩ := t
  rw [Tm.av_mk]; rfl
theorem ql3 {e : Env} (he : EnvW e) {h : Tm} {G B : List Tm} (hB : B.length < 1099511627776) (wB : ∀ x ∈ B, x.w < 1099511627776) : ∀ (d i : Nat) (out : Tm), i + d = B.length →
  Gets (qfv i h.kind h.num h.str (qb h.subs) (qb G) (qb B) 0 0 [] [] e.obj.kind e.obj.num e.obj.str (qb e.obj.subs) (qo e.binds) e.self out.kind out.num out.str (qb out.subs)) (· = .tup [(zI e out (B.drop i)).av, .bool true]) := by
 intro d
 induction d with
 | zero =>
  intro i out hi
  obtain rfl : i = B.length := by omega
  apply qeh
  rw [qd, decide_eq_false (by omega), qyV (qyN _)]
  simp only [cond_false, qj]
  exact ⟨_, rfl, rfl⟩
 | succ d ih =>
  intro i out hi
  have hil : i < B.length := by omega
  have hx : B[i]? = some B[i] := qyI hil
  have hv := qii he (wB _ (qyR hx))
  unfold envR qbp at hv
  rw [qyS hil, zI]
  apply qeh
  rw [qd, decide_eq_true (show (i : Int) < (B.length : Int) by omega), qw, qD, decide_eq_true hil, q9 hx, qJ hil hB]
  simp only [cond_true, qy2, qi, qy1, qp, qt, show qyQ 4 4 = true from rfl, qj, hv, qc]
  rw [qmK]
  by_cases h0 : (vO e B[i]).2 = 0
  ·rw [bneD, decide_eq_true h0, if_pos h0]
   exact ih (i + 1) _ (by omega)
  ·rw [bneD, decide_eq_false h0, if_neg h0]
   exact ⟨_, rfl, rfl⟩
theorem qgD {c : Cl} (hc : ClOk c) {o : Tm} (ho : o.w < 1099511627776) (self : Int) : EVf (EV cfg) 100 [c.av, o.av, .int .i64 self] = some (qaF (zW c o self)) := by
 obtain ⟨c1, c2, c3, c4, c5⟩ := hc
 have hm := qn6 (p := c.head) (t := o) (by have := vj c1; omega) ho
 have hz : AV.tup [.agg [AV.int .i64 (0 : Int), .int .i64 (0 : Int), .str [], .sl []], .bool false] = qaF none := by
  show _ = AV.tup [qX.av, .bool false]
  rw [vq]
 apply Gets.get
 unfold Cl.av Cl.cells zW
 rw [qY o]
 refine qlZ _ _ _ _ _ _ _ _ _ _ _ ?_
 rw [← qY o, qj c.head, hm]
 simp only [qc]
 cases hmg : yk c.head o with
 | none =>
  show Gets (kTup (.tup [.sl [], .bool false]) fun cs => _) _
  rw [qb5]
  exact ⟨_, rfl, hz⟩
 | some b =>
  obtain ⟨hmay, hbc, _, _⟩ := qix hmg
  have he : EnvW ⟨o, b, self⟩ := ⟨ho, by have := qdx hmay; show b.length < _; omega, fun q hq => by have := vj (hbc q hq); omega⟩
  have hh := qnZ he (l := c.gs) (fun x hx => by have := vj (c2 x hx); omega) (by omega)
  have hl := ql3 he (h := c.head) (G := c.gs) (B := c.bs) (by omega) (fun x hx => by have := vj (c3 x hx); omega) c.bs.length 0 qX (by omega)
  unfold envR at hh
  show Gets (kTup (.tup [.sl (qo b), .bool true]) fun cs => _) _
  rw [qb5]
  simp only [qzh, cond_false, hh, qc, qk]
  cases qbN ⟨o, b, self⟩ c.gs with
  | false => exact ⟨_, rfl, hz⟩
  | true => exact hl
theorem qpb {α : Type} (c : Cl) (K : Int → Int → List UInt8 → List (List AV) → List (List AV) → List (List AV) → Option α) : (qa c.cells fun v cs => kInt .i64 v fun n => qa cs fun v cs => kInt .i64 v fun n_1 => qa cs fun v cs => kStr v fun s => qa cs fun v cs => kSl v fun rows => qa cs fun v cs => kSl v fun rows_1 => qa cs fun v cs => kSl v fun rows_2 => kNil cs (K n n_1 s rows rows_1 rows_2)) = K c.head.kind c.head.num c.head.str (qb c.head.subs) (qb c.gs) (qb c.bs) := rfl
theorem quS (c : Cl) : (AV.agg [.int .i64 c.head.kind, .int .i64 c.head.num, .str c.head.str, .sl (qb c.head.subs), .sl (qb c.gs), .sl (qb c.bs)]) = c.av := rfl
def runR (r : Int × Tm × Int) : AV := .tup [r.2.1.av, .bool (decide (r.1 > 0)), .int .i64 r.2.2]
theorem qnP {o : Tm} (ho : o.w < 1099511627776) {self : Int} {l : List Cl} (hl : ∀ c ∈ l, ClOk c) (hlen : l.length ≤ 8388608) : ∀ d i : Nat, i + d = l.length →
  Gets (qfq self 6 0 l.length i o.kind o.num o.str (qb o.subs) 0 0 [] [] (vB l)) (· = runR ((yc o self (l.drop i) i).1, (yc o self (l.drop i) i).2, 0)) := by
 intro d
 induction d with
 | zero =>
  intro i hi
  obtain rfl : i = l.length := by omega
  apply qec
  rw [decide_eq_false (by omega), qyV (qyN _)]
  refine ⟨_, rfl, ?_⟩
  show _ = AV.tup [qX.av, .bool false, .int .i64 0]
  rw [vq]
 | succ d ih =>
  intro i hi
  have hil : i < l.length := by omega
  have hx : l[i]? = some l[i] := qyI hil
  have ht := qgD (hl _ (qyR hx)) ho self
  have h1 := ih (i + 1) (by omega)
  rw [qyS hil, yc]
  apply qec
  have gx : qyG (vB l) (0 + qyY (i : Int)) = some l[i].cells := by
   rw [Nat.zero_add, ql, qy3, qeC, hx]; rfl
  rw [decide_eq_true (show (i : Int) < (l.length : Int) by omega), qw, qD, decide_eq_true hil, gx, qJ hil (show l.length < 1099511627776 by omega)]
  generalize l[i] = c at *
  have b6 : qyQ 6 c.cells.length = true := rfl
  have t6 : qyM 6 c.cells = c.cells := rfl
  simp only [show qyW 6 6 = true from rfl, cond_true, qy2, qc, b6, t6]
  rw [qpb, quS, qj, ht]
  simp only [qc]
  rw [qsh]
  cases hg : zW c o self with
  | none => exact h1
  | some x =>
   have hcp := qba x (by have := qu2 hg; omega)
   simp only [Option.getD_some, qzl, cond_true, qj, hcp, qc, qE]
   refine ⟨_, rfl, ?_⟩
   unfold runR
   rw [decide_eq_true (show ((i : Int) + 1 > 0) by omega)]
theorem qkn {t o : Tm} (ht : t.w < 1099511627776) (ho : o.w < 1099511627776) (self : Int) : EVs (EV cfg) 98 [t.av, o.av, .int .i64 self] = some (.int .i64 (vG t o self).2.2) := by
 have hk := qnR ht
 have hc := xf ho
 have hs := qih self
 apply Gets.get
 rw [qY t, qY o]
 refine qpW _ _ _ _ _ _ _ _ _ ?_
 rw [← qY t, ← qY o, hk, hc, hs]
 unfold vG
 simp only [qc, qm, qk, bneD]
 by_cases h0 : (clsG t).2 = 0
 ·rw [decide_eq_true h0, if_neg (fun h => h h0)]
  by_cases hoc : o.chk = 0
  ·rw [decide_eq_true hoc]
   by_cases h7 : o.kind = 7
   ·rw [decide_eq_true h7]
    by_cases h1 : 1 ≤ self ∧ self ≤ 1073741824
    ·have hsg : y8 self = true := by simp [y8]; omega
     rw [hsg, if_neg (fun h => h.elim (fun h => h h7) fun h => h.elim (fun h => h hoc) fun h => by omega)]
     exact ⟨_, rfl, rfl⟩
    ·have hsg : y8 self = false := by
      cases h : y8 self with
      | false => rfl
      | true => simp [y8] at h; omega
     rw [hsg, if_pos (.inr (.inr (by omega)))]
     exact ⟨_, rfl, rfl⟩
   ·rw [decide_eq_false h7, if_pos (.inl h7)]
    exact ⟨_, rfl, rfl⟩
  ·rw [decide_eq_false hoc, if_pos (.inr (.inl hoc))]
   exact ⟨_, rfl, rfl⟩
 ·rw [decide_eq_false h0, if_pos h0]
  exact ⟨_, rfl, rfl⟩
theorem qi5 {t o : Tm} {self : Int} (h : (vG t o self).2.2 ≠ 0) : (vG t o self).1 = 0 ∧ (vG t o self).2.1 = qX := by
 unfold vG at h ⊢
 split
 ·exact ⟨rfl, rfl⟩
 ·rename_i h1
  rw [if_neg h1] at h
  split
  ·exact ⟨rfl, rfl⟩
  ·rename_i h2; rw [if_neg h2] at h; exact absurd rfl h
theorem qgT {t o : Tm} {self : Int} (h : (vG t o self).2.2 = 0) : t.chk = 0 ∧ vG t o self = ((yc o self (clsG t).1 0).1, (yc o self (clsG t).1 0).2, 0) ∧ (clsG t).2 = 0 := by
 unfold vG at h ⊢
 split at h
 ·rename_i h1; exact absurd h h1
 ·rename_i h1
  rw [if_neg h1]
  split at h
  ·cases h
  ·rename_i h2
   rw [if_neg h2]
   refine ⟨?_, rfl, Decidable.not_not.1 h1⟩
   refine Classical.byContradiction fun hc => h1 ?_
   rw [qm8 hc]; decide
theorem qrD {t o : Tm} (ht : t.w < 1099511627776) (ho : o.w < 1099511627776) (self : Int) : EVf (EV cfg) 29 [t.av, o.av, .int .i64 self] = some (runR (vG t o self)) := by
 have hm := qkn ht ho self
 apply Gets.get
 rw [qY t, qY o]
 refine qpV _ _ _ _ _ _ _ _ _ ?_
 rw [← qY t, ← qY o, hm]
 simp only [qc, qm, bneD]
 by_cases h0 : (vG t o self).2.2 = 0
 ·obtain ⟨hc, hf, hz⟩ := qgT h0
  have hk := qam hc
  obtain ⟨hok, hlen⟩ := qj3 t
  have hl := qnP ho (self := self) hok hlen (clsG t).1.length 0 (by omega)
  rw [decide_eq_true h0, hk, hf]
  rw [qzk] at hl
  exact hl
 ·obtain ⟨h1, h2⟩ := qi5 h0
  rw [decide_eq_false h0]
  refine ⟨_, rfl, ?_⟩
  unfold runR
  rw [h1, h2, vq]; rfl
theorem qnO {t o : Tm} (ht : t.w < 1099511627776) (ho : o.w < 1099511627776) (self : Int) : EVs (EV cfg) 31 [t.av, o.av, .int .i64 self] = some (.tup [.int .i64 (vG t o self).1, .int .i64 (vG t o self).2.2]) := by
 have hm := qkn ht ho self
 apply Gets.get
 rw [qY t, qY o]
 refine qlY _ _ _ _ _ _ _ _ _ ?_
 rw [← qY t, ← qY o, hm]
 simp only [qc, qm, bneD]
 by_cases h0 : (vG t o self).2.2 = 0
 ·obtain ⟨hc, hf, hz⟩ := qgT h0
  have hk := qam hc
  obtain ⟨hok, hlen⟩ := qj3 t
  have loop : ∀ d i : Nat, i + d = (clsG t).1.length → Gets (qdh self 6 0 (clsG t).1.length i o.kind o.num o.str (qb o.subs) (vB (clsG t).1)) (· = .tup [.int .i64 (yc o self ((clsG t).1.drop i) i).1, .int .i64 0]) := by
   intro d
   generalize (clsG t).1 = l at *
   induction d with
   | zero =>
    intro i hi
    obtain rfl : i = l.length := by omega
    apply qdZ
    rw [decide_eq_false (by omega), qyV (qyN _)]
    exact ⟨_, rfl, rfl⟩
   | succ d ih =>
    intro i hi
    have hil : i < l.length := by omega
    have hx : l[i]? = some l[i] := qyI hil
    have ht := qgD (hok _ (qyR hx)) ho self
    have h1 := ih (i + 1) (by omega)
    rw [qyS hil, yc]
    apply qdZ
    have gx : qyG (vB l) (0 + qyY (i : Int)) = some l[i].cells := by
     rw [Nat.zero_add, ql, qy3, qeC, hx]; rfl
    rw [decide_eq_true (show (i : Int) < (l.length : Int) by omega), qw, qD, decide_eq_true hil, gx, qJ hil (show l.length < 1099511627776 by omega)]
    generalize l[i] = c at *
    have b6 : qyQ 6 c.cells.length = true := rfl
    have t6 : qyM 6 c.cells = c.cells := rfl
    simp only [show qyW 6 6 = true from rfl, cond_true, qy2, qc, b6, t6]
    rw [qpb, quS, qj, ht]
    simp only [qc]
    rw [qsh]
    cases hg : zW c o self with
    | none => exact h1
    | some x => exact ⟨_, rfl, rfl⟩
  have hl := loop (clsG t).1.length 0 (by omega)
  rw [decide_eq_true h0, hk, hf]
  rw [qzk] at hl
  exact hl
 ·obtain ⟨h1, h2⟩ := qi5 h0
  rw [decide_eq_false h0]
  refine ⟨_, rfl, ?_⟩
  rw [h1]
end Go.Proofs.YtkgkjngbfdnoiaaGreat
end
section
namespace Go.Proofs.YtkgkjngbfdnoiaaGreat.R
open Go.Av
theorem qsj (hp : xb) {e : Env} (he : EnvW e) {l : List Tm} (hl : ∀ x ∈ l, x.w < 1099511627776) (hlen : l.length < 1099511627776) : EVs (EV cfg) 86 [.sl (qb l), envR e.obj e.binds e.self] = some (.bool (qbN e l)) := by
 have loop : ∀ (d i : Nat) (b : Bool), i + d = l.length → Gets (qfo (qb l) b i e.obj.kind e.obj.num e.obj.str (qb e.obj.subs) (qo e.binds) e.self) (· = .bool ((l.drop i).all (qh2 e) && b)) := by
  intro d
  induction d with
  | zero =>
   intro i b hi
   refine qd9 _ _ _ _ _ _ _ _ _ ?_
   rw [qd, decide_eq_false (by omega), qyV (by omega)]
   exact ⟨_, rfl, rfl⟩
  | succ d ih =>
   intro i b hi
   refine qd9 _ _ _ _ _ _ _ _ _ ?_
   have hil : i < l.length := by omega
   have hx : l[i]? = some l[i] := qyI hil
   have hd : l.drop i = l[i] :: l.drop (i + 1) := qyS hil
   have h := ih (i + 1) b (by omega)
   have h1 := qe8 hp he (hl l[i] (qyR hx))
   unfold envR at h1
   rw [qd, decide_eq_true (show (i : Int) < (l.length : Int) by omega), qw, qD, decide_eq_true hil, q9 hx, qJ hil hlen, hd, List.all_cons]
   simp only [cond_true, qy2, qi, qy1, qp, qt, vw, qj, h1, qc, qbp]
   rw [qmK]
   unfold qh2 at h ⊢
   simp only [beqS, show ([116, 114, 117, 101] : List UInt8) = tru from rfl]
   by_cases h2 : (vO e l[i]).2 = 0
   ·have e0 : ((vO e l[i]).2 != 0) = false := by rw [h2]; rfl
    rw [e0, decide_eq_true h2, cond_false, qzg]
    by_cases h3 : (vO e l[i]).1.kind = 2
    ·have e1 : ((vO e l[i]).1.kind != 2) = false := by rw [h3]; rfl
     rw [e1, decide_eq_true h3, cond_false, qzg]
     by_cases h4 : (vO e l[i]).1.str = tru
     ·rw [decide_eq_true h4, qzg]; exact h
     ·rw [decide_eq_false h4]; exact ⟨_, rfl, rfl⟩
    ·have e1 : ((vO e l[i]).1.kind != 2) = true := by simpa using h3
     rw [e1, decide_eq_false h3]; exact ⟨_, rfl, rfl⟩
   ·have e0 : ((vO e l[i]).2 != 0) = true := by simpa using h2
    rw [e0, decide_eq_false h2]; exact ⟨_, rfl, rfl⟩
 have hm := qgS he.len he.binds he.obj e.self
 apply Gets.get
 unfold envR at hm ⊢
 refine qoG _ _ _ _ _ _ _ ?_
 rw [qcc _ rfl rfl, hm]
 unfold mayR qbN envG
 cases hb : mayB (-1) e.binds with
 | false =>
  have h := loop l.length 0 false (by omega)
  rw [if_neg (by simp)]
  simp only [qc, kTup, qa, vE, qk, kNil, Bool.false_and]
  exact h
 | true =>
  have h := loop l.length 0 (decide (e.obj.chk = 0) && y8 e.self) (by omega)
  rw [if_pos rfl]
  simp only [qc, kTup, qa, vE, qk, kNil, qzg]
  exact h
theorem qlS (hp : xb) {e : Env} (he : EnvW e) {B : List Tm} (hB : B.length < 1099511627776) (wB : ∀ x ∈ B, x.w < 1099511627776) : ∀ (d i : Nat) (out : Tm), i + d = B.length →
  Gets (qeb (qb B) (qb out.subs) i 0 0 [] [] e.obj.kind e.obj.num e.obj.str (qb e.obj.subs) (qo e.binds) e.self out.kind out.num out.str) (· = .tup [(zI e out (B.drop i)).av, .bool true]) := by
 intro d
 induction d with
 | zero =>
  intro i out hi
  obtain rfl : i = B.length := by omega
  refine qcG _ _ _ _ _ _ _ _ _ _ _ _ _ _ _ _ ?_
  unfold za1 za2 za3 za4 za5 za6 za7
  rw [qd, decide_eq_false (by omega), qyV (qyN _)]
  simp only [cond_false, qj]
  exact ⟨_, rfl, rfl⟩
 | succ d ih =>
  intro i out hi
  have hil : i < B.length := by omega
  have hx : B[i]? = some B[i] := qyI hil
  have hv := qe8 hp he (wB _ (qyR hx))
  unfold envR qbp at hv
  rw [qyS hil, zI]
  refine qcG _ _ _ _ _ _ _ _ _ _ _ _ _ _ _ _ ?_
  unfold za1 za2 za3 za4 za5 za6 za7
  have gx : qyG (qb B) (qyY (i : Int)) = some B[i].cells := yD hx
  rw [qd, decide_eq_true (show (i : Int) < (B.length : Int) by omega), qw, qD, decide_eq_true hil, gx, qJ hil hB]
  simp only [cond_true, qy2, qc, qi, qy1, qp, qt, vw, qj, hv, bneD]
  generalize vO e B[i] = r
  have h1 := ih (i + 1) r.1 (by omega)
  rw [Tm.av, Tm.cells_eq]
  simp only [kTup, qa, kAgg, qm, yN, vE, kNil]
  by_cases h0 : r.2 = 0
  ·rw [decide_eq_true h0, if_pos h0]
   exact h1
  ·rw [decide_eq_false h0, if_neg h0]
   exact ⟨_, rfl, rfl⟩
theorem qpO (hp : xb) {e : Env} (he : EnvW e) {B : List Tm} (hB : B.length < 1099511627776) (wB : ∀ x ∈ B, x.w < 1099511627776) :
  Gets (qg2 (qb B) 0 0 0 [] [] e.obj.kind e.obj.num e.obj.str (qb e.obj.subs) (qo e.binds) e.self 0 0 [] []) (· = .tup [(zI e qX B).av, .bool true]) := by
 refine qkL _ _ _ _ _ _ _ _ _ _ _ _ _ _ _ _ ?_
 unfold za1 za2 za3 za4 za5 za6 za7
 cases B with
 | nil =>
  rw [qI]
  refine ⟨_, rfl, ?_⟩
  show _ = AV.tup [qX.av, .bool true]
  rw [vq]
 | cons b B =>
  have hx : (b :: B)[0]? = some b := rfl
  have hv := qe8 hp he (wB b (by simp))
  have hl := fun out => qlS hp he hB wB B.length 1 out (by simp; omega)
  unfold envR qbp at hv
  rw [zI]
  have gx : qyG (qb (b :: B)) (qyY 0) = some b.cells := yD (i := 0) hx
  have w1 : IntKind.wrap .i64 (0 + 1) = ((1 : Nat) : Int) := qM (by omega) (by omega)
  have l1 : qg 0 ((b :: B).length : Int) = true := decide_eq_true (by simp)
  rw [qd, decide_eq_true (show (0 : Int) < ((b :: B).length : Int) by simp), show qh 0 0 = true from rfl, l1, gx, w1]
  simp only [cond_true, qy2, qc, qi, qy1, qp, qt, vw, qj, hv, bneD]
  generalize vO e b = r
  have h1 := hl r.1
  rw [List.drop_succ_cons, qzk] at h1
  rw [Tm.av, Tm.cells_eq]
  simp only [kTup, qa, kAgg, qm, yN, vE, kNil]
  by_cases h0 : r.2 = 0
  ·rw [decide_eq_true h0, if_pos h0]
   exact h1
  ·rw [decide_eq_false h0, if_neg h0]
   exact ⟨_, rfl, rfl⟩
theorem qnI (hp : xb) {c : Cl} (hc : ClOk c) {o : Tm} (ho : o.w < 1099511627776) (self : Int) : EVg (EV cfg) 179 [c.av, o.av, .int .i64 self] = some (qaF (zW c o self)) := by
 obtain ⟨c1, c2, c3, c4, c5⟩ := hc
 have hm := qoi (p := c.head) (t := o) (by have := vj c1; omega) ho
 apply Gets.get
 unfold Cl.av Cl.cells zW
 rw [Tm.av, Tm.av, Tm.cells_eq, Tm.cells_eq] at hm
 rw [Tm.av, Tm.cells_eq]
 refine qjz _ _ _ _ _ _ _ _ _ _ _ ?_
 rw [qcc _ rfl rfl, hm]
 cases hmg : yk c.head o with
 | none => exact ⟨_, rfl, rfl⟩
 | some b =>
  obtain ⟨hmay, hbc, _, _⟩ := qix hmg
  have he : EnvW ⟨o, b, self⟩ := ⟨ho, by have := qdx hmay; show b.length < _; omega, fun q hq => by have := vj (hbc q hq); omega⟩
  have hh := qsj hp he (l := c.gs) (fun x hx => by have := vj (c2 x hx); omega) (by omega)
  have hl := qpO hp he (B := c.bs) (by omega) (fun x hx => by have := vj (c3 x hx); omega)
  unfold envR at hh
  simp only [qcS, qc, kTup, qa, vE, qk, kNil, qzh, cond_false, hh]
  cases qbN ⟨o, b, self⟩ c.gs with
  | false => exact ⟨_, rfl, rfl⟩
  | true => exact hl
theorem qkQ (hp : xb) {o : Tm} (ho : o.w < 1099511627776) {self : Int} {l : List Cl} (hl : ∀ c ∈ l, ClOk c) (hlen : l.length ≤ 8388608) : ∀ d i : Nat, i + d = l.length →
  Gets (qdd self 6 0 l.length i o.kind o.num o.str (qb o.subs) 0 0 [] [] (vB l)) (· = qfa ((yc o self (l.drop i) i).1, (yc o self (l.drop i) i).2, 0)) := by
 intro d
 induction d with
 | zero =>
  intro i hi
  obtain rfl : i = l.length := by omega
  refine qdV _ _ _ _ _ _ _ _ _ _ _ _ _ _ ?_
  rw [decide_eq_false (by omega), qyV (qyN _)]
  exact ⟨_, rfl, rfl⟩
 | succ d ih =>
  intro i hi
  have hil : i < l.length := by omega
  have hx : l[i]? = some l[i] := qyI hil
  have ht := qnI hp (hl _ (qyR hx)) ho self
  have h1 := ih (i + 1) (by omega)
  rw [qyS hil, yc]
  refine qdV _ _ _ _ _ _ _ _ _ _ _ _ _ _ ?_
  have gx : qyG (vB l) (0 + qyY (i : Int)) = some l[i].cells := by
   rw [Nat.zero_add, ql, qy3, qeC, hx]; rfl
  rw [decide_eq_true (show (i : Int) < (l.length : Int) by omega), qw, qD, decide_eq_true hil, gx, qJ hil (show l.length < 1099511627776 by omega)]
  have b6 : qyQ 6 l[i].cells.length = true := rfl
  have t6 : qyM 6 l[i].cells = l[i].cells := rfl
  simp only [show qyW 6 6 = true from rfl, cond_true, qy2, qc, b6, t6]
  unfold Cl.av at ht
  unfold Cl.cells at ht ⊢
  simp only [qa, qm, yN, vE, kNil, qj, ht, qc]
  cases zW l[i] o self with
  | none => exact h1
  | some x =>
   simp only [qaF]
   rw [Tm.av, Tm.cells_eq]
   refine ⟨_, rfl, ?_⟩
   unfold qfa
   rw [Tm.av, Tm.cells_eq]
   rfl
theorem qgy (hp : xb) {t o : Tm} (ht : t.w < 1099511627776) (ho : o.w < 1099511627776) (self : Int) : EVg (EV cfg) 97 [t.av, o.av, .int .i64 self] = some (qfa (vG t o self)) := by
 have hk := qje ht
 have hc := zK ho
 rw [← qyz _ rfl rfl] at hk
 rw [← qi7 _ rfl rfl] at hc
 obtain ⟨hok, hlen⟩ := qj3 t
 have hl := qkQ hp ho (self := self) hok hlen (clsG t).1.length 0 (by omega)
 apply Gets.get
 rw [Tm.av, Tm.cells_eq] at hk hc
 rw [Tm.av, Tm.av, Tm.cells_eq, Tm.cells_eq]
 refine qjA _ _ _ _ _ _ _ _ _ ?_
 unfold za0
 rw [hk, hc]
 unfold vG
 simp only [clsQ, qc, qm, qtu, bneD]
 by_cases h0 : (clsG t).2 = 0
 ·rw [h0, decide_eq_true rfl, if_neg (by simp)]
  by_cases h7 : o.kind = 7
  ·rw [decide_eq_true h7]
   by_cases hoc : o.chk = 0
   ·rw [decide_eq_true hoc]
    by_cases h1 : self < 1
    ·rw [decide_eq_true h1, if_pos (.inr (.inr (.inl h1)))]
     exact ⟨_, rfl, rfl⟩
    ·rw [decide_eq_false h1]
     by_cases h2 : self > 1073741824
     ·rw [decide_eq_true h2, if_pos (.inr (.inr (.inr h2)))]
      exact ⟨_, rfl, rfl⟩
     ·rw [decide_eq_false h2, if_neg (fun h => h.elim (fun h => h h7) fun h => h.elim (fun h => h hoc) fun h => h.elim h1 h2)]
      exact hl
   ·rw [decide_eq_false hoc, if_pos (.inr (.inl hoc))]
    exact ⟨_, rfl, rfl⟩
  ·rw [decide_eq_false h7, if_pos (.inl h7)]
   exact ⟨_, rfl, rfl⟩
 ·rw [decide_eq_false h0, if_pos h0]
  exact ⟨_, rfl, rfl⟩
theorem qey (hp : xb) {t o : Tm} (ht : t.w < 1099511627776) (ho : o.w < 1099511627776) (self : Int) : EVg (EV cfg) 28 [t.av, o.av, .int .i64 self] = some (.tup [(vG t o self).2.1.av, .bool (decide ((vG t o self).1 > 0)), .int .i64 (vG t o self).2.2]) := by
 have hk := qgy hp ht ho self
 apply Gets.get
 generalize vG t o self = r at *
 obtain ⟨n, x, e⟩ := r
 unfold qfa at hk
 rw [qY t, qY o] at hk ⊢
 refine qlP _ _ _ _ _ _ _ _ _ ?_
 rw [hk]
 simp only []
 rw [Tm.av, Tm.cells_eq]
 exact ⟨_, rfl, rfl⟩
theorem qnH (hp : xb) {t o : Tm} (ht : t.w < 1099511627776) (ho : o.w < 1099511627776) (self : Int) : EVs (EV cfg) 30 [t.av, o.av, .int .i64 self] = some (.tup [.int .i64 (vG t o self).1, .int .i64 (vG t o self).2.2]) := by
 have hk := qgy hp ht ho self
 apply Gets.get
 generalize vG t o self = r at *
 obtain ⟨n, x, e⟩ := r
 unfold qfa at hk
 rw [qY t, qY o] at hk ⊢
 refine qjy _ _ _ _ _ _ _ _ _ ?_
 rw [hk]
 simp only []
 rw [Tm.av, Tm.cells_eq]
 exact ⟨_, rfl, rfl⟩
end Go.Proofs.YtkgkjngbfdnoiaaGreat.R
namespace Go.Av
theorem qvs : qq0.w < 1099511627776 := by unfold qq0 symT; rw [Tm.w_mk]; simp
theorem qpp {e : Env} : ∀ (l : List Tm) {out : Tm}, out.w < 1099511627776 → (zI e out l).w < 1099511627776
 | [], _, h => h
 | x :: l, out, h => by
  rw [zI]
  split
  ·exact qpp l qvt
  ·exact qvs
theorem qmX {o : Tm} {self : Int} : ∀ (l : List Cl) (i : Int), (yc o self l i).2.w < 1099511627776
 | [], _ => qbr
 | c :: l, i => by
  rw [yc]
  split
  ·rename_i x hx
   unfold zW at hx
   split at hx
   ·cases hx
   ·split at hx
    ·cases hx; exact qpp _ qbr
    ·cases hx
  ·exact qmX l (i + 1)
theorem qtF {t o : Tm} {self : Int} : (vG t o self).2.1.w < 1099511627776 := by
 unfold vG
 split
 ·exact qbr
 ·split
  ·exact qbr
  ·exact qmX _ _
end Go.Av
end
section
namespace Go.Proofs.YtkgkjngbfdnoiaaGreat.R
open Go.Av
theorem qqA (n : Int) {P : AV → Prop} (h : Gets (kOpt (qA (Op.intDiv BinOp.rem .i64 n 10)) fun v => kInt .i64 v fun n => kOpt (Decidable.rec (fun h => (fun x => none) h) (fun h => (fun x => some (qyM 1 (qzj 0 [[AV.int .u8 (IntKind.wrap .u8 (IntKind.wrap .i64 (48 + n)))]]))) h) (instDecidableEqBool (1 == 1 && qyQ (0 + 1) (qyH [[AV.int .u8 (IntKind.wrap .u8 (IntKind.wrap .i64 (48 + n)))]])) true)) fun rows => kOpt (xp rows) fun bs => kOpt (Decidable.rec (fun h => (fun x => none) h) (fun h => (fun x => some (.str (qze (ByteArray.data {data := #[(36 : UInt8)]}) ++ bs))) h) (Nat.decLe (qyH (qze (ByteArray.data {data := #[(36 : UInt8)]})) + qyH bs) 9223372036854775807)) fun v => kStr v fun s => kOpt (EVf (EV cfg) 87 [.str s]) fun v => kTmV v fun n n_1 s rows => (some (.agg [.int .i64 n, .int .i64 n_1, .str s, .sl rows]))) P) : Gets (EVf (EV cfg) 185 [.int .i64 n]) P :=
  gE (fun _ => funF rfl rfl Tryz.func185 rfl) (by kernel_rfl) h
theorem qmz (kh nh : Int) (sh : Bz) (lh gs bs : Rz) {P : AV → Prop} (h : Gets (kOpt (EVf (EV cfg) 84 [.sl gs]) fun v => kTmV v fun n n_1 s rows => (kOpt (EVf (EV cfg) 84 [.sl bs]) fun v => kTmV v fun n_2 n_3 s_1 rows_1 => (kOpt (EVf (EV cfg) 85 [AV.sl [[AV.int .i64 kh, .int .i64 nh, .str sh, .sl lh], [AV.int .i64 n, .int .i64 n_1, .str s, .sl rows], [AV.int .i64 n_2, .int .i64 n_3, .str s_1, .sl rows_1]]]) fun v => kTmV v fun n n_4 s rows => (kOpt (EVf (EV cfg) 84 [.sl [[AV.int .i64 n, .int .i64 n_4, .str s, .sl rows]]]) fun v => kTmV v fun n n_5 s rows => (some (.agg [.int .i64 n, .int .i64 n_5, .str s, .sl rows])))))) P) : Gets (EVf (EV cfg) 184 [.agg [.int .i64 kh, .int .i64 nh, .str sh, .sl lh], .sl gs, .sl bs]) P :=
  gE (fun _ => funF rfl rfl Tryz.func184 rfl) (by kernel_rfl) h
theorem qjP  {P : AV → Prop} (h : Gets (kOpt (EVf (EV cfg) 185 [AV.int .i64 1]) fun v => kTmV v fun n n_1 s rows => (kOpt (EVf (EV cfg) 185 [AV.int .i64 2]) fun v => kTmV v fun n_2 n_3 s_1 rows_1 => (kOpt (EVf (EV cfg) 85 [AV.sl [[AV.int .i64 n, .int .i64 n_1, .str s, .sl rows], [AV.int .i64 n_2, .int .i64 n_3, .str s_1, .sl rows_1]]]) fun v => kTmV v fun n n_4 s rows => (kOpt (EVf (EV cfg) 87 [.str [(62 : UInt8)]]) fun v => kTmV v fun n_5 n_6 s_2 rows_2 => (kOpt (EVf (EV cfg) 185 [AV.int .i64 2]) fun v => kTmV v fun n_7 n_8 s_3 rows_3 => (kOpt (EVf (EV cfg) 81 [AV.int .i64 1]) fun v => kTmV v fun n_9 n_10 s_4 rows_4 => (kOpt (EVf (EV cfg) 85 [AV.sl [[AV.int .i64 n_5, .int .i64 n_6, .str s_2, .sl rows_2], [AV.int .i64 n_7, .int .i64 n_8, .str s_3, .sl rows_3], [AV.int .i64 n_9, .int .i64 n_10, .str s_4, .sl rows_4]]]) fun v => kTmV v fun n_11 n_12 s_5 rows_5 => (kOpt (EVf (EV cfg) 185 [AV.int .i64 1]) fun v => kTmV v fun n_13 n_14 s_6 rows_6 => (kOpt (EVf (EV cfg) 184 [AV.agg [.int .i64 n, AV.int .i64 n_4, .str s, .sl rows], AV.sl [[AV.int .i64 n_11, AV.int .i64 n_12, .str s_5, AV.sl rows_5]], AV.sl [[AV.int .i64 n_13, AV.int .i64 n_14, .str s_6, AV.sl rows_6]]]) fun v => kTmV v fun n n_15 s rows => (some (AV.agg [.int .i64 n, AV.int .i64 n_15, AV.str s, AV.sl rows]))))))))))) P) : Gets (EVf (EV cfg) 101 []) P :=
  gE (fun _ => funF rfl rfl Tryz.func101 rfl) (by kernel_rfl) h
theorem qjO (kt nt : Int) (st : Bz) (lt : Rz) (ko no : Int) (so : Bz) (lo : Rz) (kw nw : Int) (sw : Bz) (lw : Rz) {P : AV → Prop} (h : Gets (kOpt (EVg (EV cfg) 28 [.agg [.int .i64 kt, .int .i64 nt, .str st, .sl lt], .agg [.int .i64 ko, .int .i64 no, .str so, .sl lo], .int .i64 1]) fun V => kTup V fun cs => qa cs fun c cs => kAgg c fun cs_1 => qa cs_1 fun c cs_2 => kInt .i64 c fun n => qa cs_2 fun c cs_3 => kInt .i64 c fun n_1 => qa cs_3 fun c cs_4 => kStr c fun s => qa cs_4 fun c cs_5 => kSl c fun rows => kNil cs_5 (qa cs fun c cs => qf c fun b => qa cs fun c cs => kInt .i64 c fun n_2 => kNil cs (bif n_2 == 0 then bif b then kOpt (EVs (EV cfg) 19 [.agg [.int .i64 n, .int .i64 n_1, .str s, .sl rows], .agg [.int .i64 kw, .int .i64 nw, .str sw, .sl lw]]) fun v => qf v fun b => some (.bool b) else some (.bool false) else some (.bool false)))) P) : Gets (EVs (EV cfg) 102 [.agg [.int .i64 kt, .int .i64 nt, .str st, .sl lt], .agg [.int .i64 ko, .int .i64 no, .str so, .sl lo], .agg [.int .i64 kw, .int .i64 nw, .str sw, .sl lw]]) P :=
  gE (fun _ => funS rfl rfl Tryz.func102 rfl) (by kernel_rfl) h
theorem qjQ  {P : AV → Prop} (h : Gets (kOpt (EVf (EV cfg) 87 [.str [(107 : UInt8)]]) fun v => kTmV v fun n n_1 s rows => (kOpt (EVf (EV cfg) 101 []) fun v => kTmV v fun n_2 n_3 s_1 rows_1 => (kOpt (EVf (EV cfg) 81 [AV.int .i64 1]) fun v => kTmV v fun n_4 n_5 s_2 rows_2 => (kOpt (EVf (EV cfg) 85 [AV.sl [[AV.int .i64 n, .int .i64 n_1, .str s, .sl rows], [AV.int .i64 n_4, .int .i64 n_5, .str s_2, .sl rows_2]]]) fun v => kTmV v fun n_6 n_7 s_3 rows_3 => (kOpt (EVg (EV cfg) 28 [.agg [.int .i64 n_2, .int .i64 n_3, .str s_1, .sl rows_1], .agg [.int .i64 n_6, .int .i64 n_7, .str s_3, .sl rows_3], .int .i64 1]) fun V => kTup V fun cs => qa cs fun c cs => kAgg c fun cs_1 => qa cs_1 fun c cs_2 => kInt .i64 c fun n_8 => qa cs_2 fun c cs_3 => kInt .i64 c fun n_9 => qa cs_3 fun c cs_4 => kStr c fun s_4 => qa cs_4 fun c cs_5 => kSl c fun rows_4 => kNil cs_5 (qa cs fun c cs => qf c fun b => qa cs fun c cs => kInt .i64 c fun n_10 => kNil cs (kOpt (EVf (EV cfg) 101 []) fun v => kTmV v fun n_11 n_12 s_5 rows_5 => (kOpt (EVs (EV cfg) 36 [AV.agg [.int .i64 n_11, .int .i64 n_12, .str s_5, .sl rows_5]]) fun v => kInt .i64 v fun n_13 => bif n_13 == 0 then kOpt (EVf (EV cfg) 101 []) fun v => kTmV v fun n_14 n_15 s_6 rows_6 => (kOpt (EVf (EV cfg) 81 [AV.int .i64 3]) fun v => kTmV v fun n_16 n_17 s_7 rows_7 => (kOpt (EVf (EV cfg) 85 [AV.sl [[AV.int .i64 n, AV.int .i64 n_1, AV.str s, AV.sl rows], [AV.int .i64 n_16, AV.int .i64 n_17, AV.str s_7, AV.sl rows_7]]]) fun v => kTmV v fun n_18 n_19 s_8 rows_8 => (kOpt (EVs (EV cfg) 102 [AV.agg [.int .i64 n_14, AV.int .i64 n_15, AV.str s_6, AV.sl rows_6], AV.agg [.int .i64 n_18, AV.int .i64 n_19, AV.str s_8, AV.sl rows_8], AV.agg [.int .i64 n, AV.int .i64 n_1, AV.str s, AV.sl rows]]) fun v => qf v fun b_1 => bif b_1 then bif ! b then bif n_10 == 0 then kOpt (EVf (EV cfg) 84 [AV.sl []]) fun v => kTmV v fun n n_20 s rows => (kOpt (EVs (EV cfg) 36 [AV.agg [.int .i64 n, AV.int .i64 n_20, AV.str s, AV.sl rows]]) fun v => kInt .i64 v fun n => some (AV.bool (n == 10))) else some (AV.bool false) else some (AV.bool false) else some (AV.bool false)))) else some (.bool false))))))))) P) : Gets (EVs (EV cfg) 32 []) P :=
  gE (fun _ => funS rfl rfl Tryz.func32 rfl) (by kernel_rfl) h
end Go.Proofs.YtkgkjngbfdnoiaaGreat.R
end
section
namespace Go.Proofs.YtkgkjngbfdnoiaaGreat
open Go.Av
noncomputable def qvL : Den := evC cfg (EV cfg) 84 none 0 (sub (qe Tryz.f84) [1, 1, 0, 1, 0, 0])
noncomputable def qv1 : Ex × List AV × AH → Option AV := kAft (Cfg.keepOut cfg 84 3) (kRun cfg (EV cfg) (kfN cfg 6) 84 none 0 (vp cfg (Cfg.lift cfg 84 0) Tryz.f84.results.toList) ([.block 0, .seq (sub (qe Tryz.f84) [1, 1, 1])]))
noncomputable def qvz : List AV × AH → Option AV := fun p => kOpt (LOOP 0 (some [0, 2, 3, 4]) ([]) qvL p) qv1
noncomputable abbrev qfp (L : Rz) (v4 c0_0 c0_1 : Int) (c0_2 : Bz) (c0_3 : Rz) (c1_0 c1_1 : Int) (c1_2 : Bz) (c1_3 : Rz) : Option (AV) := qvz  (((fx 21 [(0, .sl L), (2, .ptr 0 0 0), (3, .ptr 1 0 0), (4, .int .i64 v4)]) : List AV), ([.rows false 4 [[.int .i64 c0_0, .int .i64 c0_1, .str c0_2, .sl c0_3]], .rows false 4 [[.int .i64 c1_0, .int .i64 c1_1, .str c1_2, .sl c1_3]]] : AH))
theorem qr9 (L : Rz) {P : AV → Prop} (h : Gets (some (.agg [.int .i64 7, .int .i64 0, .str [], .sl L])) P) : Gets (EVf (EV cfg) 85 [.sl L]) P :=
  gE (fun _ => funF rfl rfl Tryz.func85 rfl) (by kernel_rfl) h
theorem qsa (L : Rz) {P : AV → Prop} (h : Gets (qfp L (IntKind.wrap .i64 ((L.length : Int) - 1)) 0 0 [] [] 8 0 [] []) P) : Gets (EVf (EV cfg) 84 [.sl L]) P :=
  gE (fun _ => funF rfl rfl Tryz.func84 rfl) (by kernel_rfl) h
theorem qsb (n : Int) {P : AV → Prop} (h : Gets (some (.agg [.int .i64 1, .int .i64 n, .str [], .sl []])) P) : Gets (EVf (EV cfg) 81 [.int .i64 n]) P :=
  gE (fun _ => funF rfl rfl Tryz.func81 rfl) (by kernel_rfl) h
theorem qsc (s : Bz) {P : AV → Prop} (h : Gets (some (.agg [.int .i64 2, .int .i64 0, .str s, .sl []])) P) : Gets (EVf (EV cfg) 87 [.str s]) P :=
  gE (fun _ => funF rfl rfl Tryz.func87 rfl) (by kernel_rfl) h
theorem qea (L : Rz) (v4 c0_0 c0_1 : Int) (c0_2 : Bz) (c0_3 : Rz) (c1_0 c1_1 : Int) (c1_2 : Bz) (c1_3 : Rz) {P : AV → Prop} (h : Gets (bif decide (v4 ≥ 0) then bif qh 0 v4 && qg v4 (L.length : Int) then kOpt (qyG L (v4.toNat)) fun row => bif qyW (qyH row) 4 then bif qyQ 4 (qyH row) then kTmC (qyM 4 row) fun n n_1 s rows => (qfp L (IntKind.wrap .i64 (v4 - 1)) c0_0 c0_1 c0_2 c0_3 9 0 [] [[AV.int .i64 n, .int .i64 n_1, .str s, .sl rows], [AV.int .i64 c1_0, .int .i64 c1_1, .str c1_2, .sl c1_3]]) else none else none else none else some (.agg [.int .i64 c1_0, .int .i64 c1_1, .str c1_2, .sl c1_3])) P) : Gets (qfp L v4 c0_0 c0_1 c0_2 c0_3 c1_0 c1_1 c1_2 c1_3) P :=
  gE (fun _ => qn (cfg := cfg) (f := 84) (rd := none) (bs := 0)) (by kernel_rfl) h
end Go.Proofs.YtkgkjngbfdnoiaaGreat
end
section
namespace Go.Av
def exA (s : List UInt8) : Tm := .mk 2 0 s []
def exI (n : Int) : Tm := .mk 1 n [] []
def quR (h : Tm) (gs bs : List Tm) : Tm := qO [tupT [h, qO gs, qO bs]]
def yg : Tm := quR (tupT [exA [36, 49], exA [36, 50]]) [tupT [exA [62], exA [36, 50], exI 1]] [exA [36, 49]]
theorem quJ {α : Type} (t : Tm) (b : Bool) (x : Int) (K : Int → Int → List UInt8 → List (List AV) → Bool → Int → Option α) : (kTup (.tup [t.av, .bool b, .int .i64 x]) fun cs => qa cs fun c cs => kAgg c fun cs_1 => qa cs_1 fun c cs_2 => kInt .i64 c fun n => qa cs_2 fun c cs_3 => kInt .i64 c fun n_1 => qa cs_3 fun c cs_4 => kStr c fun s => qa cs_4 fun c cs_5 => kSl c fun rows => kNil cs_5 (qa cs fun c cs => qf c fun b => qa cs fun c cs => kInt .i64 c fun m => kNil cs (K n n_1 s rows b m))) = K t.kind t.num t.str (qb t.subs) b x := by
 obtain ⟨k, n, s, l⟩ := t
 rw [Tm.av_mk]; rfl
end Go.Av
namespace Go.Proofs.YtkgkjngbfdnoiaaGreat
open Go.Av
theorem qm0 (s : List UInt8) : EVf (EV cfg) 87 [.str s] = some (exA s).av := by
 apply Gets.get
 refine qsc _ ?_
 rw [exA, Tm.av_mk, qI]; exact ⟨_, rfl, rfl⟩
theorem qmZ (n : Int) : EVf (EV cfg) 81 [.int .i64 n] = some (exI n).av := by
 apply Gets.get
 refine qsb _ ?_
 rw [exI, Tm.av_mk, qI]; exact ⟨_, rfl, rfl⟩
theorem qfb (l : List Tm) : EVf (EV cfg) 85 [.sl (qb l)] = some (tupT l).av := by
 apply Gets.get
 refine qr9 _ ?_
 rw [tupT, Tm.av_mk]; exact ⟨_, rfl, rfl⟩
theorem qi6 {l : List Tm} (hl : l.length < 1000) : EVf (EV cfg) 84 [.sl (qb l)] = some (qO l).av := by
 have loop : ∀ (n : Nat), n ≤ l.length → Gets (qfp (qb l) ((n : Int) - 1) 0 0 [] [] (qO (l.drop n)).kind (qO (l.drop n)).num (qO (l.drop n)).str (qb (qO (l.drop n)).subs)) (· = (qO l).av) := by
  intro n
  induction n with
  | zero =>
   intro _
   refine qea _ _ _ _ _ _ _ _ _ _ ?_
   rw [qzk, show decide ((((0 : Nat) : Int) - 1) ≥ 0) = false from rfl]
   simp only [cond_false, qj]
   exact ⟨_, rfl, rfl⟩
  | succ n ih =>
   intro hn
   have h := ih (by omega)
   have hx : l[n]? = some l[n] := qyI (by omega)
   refine qea _ _ _ _ _ _ _ _ _ _ ?_
   have e : (((n + 1 : Nat) : Int) - 1) = (n : Int) := by omega
   have hd : qO (l.drop n) = .mk 9 0 [] [l[n], qO (l.drop (n + 1))] := by rw [qyS (by omega)]; rfl
   have hw : IntKind.wrap .i64 ((n : Int) - 1) = (n : Int) - 1 := qM (by omega) (by omega)
   rw [e, decide_eq_true (show (n : Int) ≥ 0 by omega), qd, qw, qD, decide_eq_true (show n < l.length by omega), q9 hx, hw]
   simp only [cond_true, qy2, qi, qy1, qp, qt, show qyQ 4 4 = true from rfl]
   rw [hd] at h
   have er : [[AV.int .i64 l[n].kind, .int .i64 l[n].num, .str l[n].str, .sl (qb l[n].subs)], [AV.int .i64 (qO (l.drop (n + 1))).kind, .int .i64 (qO (l.drop (n + 1))).num, .str (qO (l.drop (n + 1))).str, .sl (qb (qO (l.drop (n + 1))).subs)]] = qb [l[n], qO (l.drop (n + 1))] := by
    rw [qy, qy, qI, Tm.cells_eq, Tm.cells_eq]
   rw [er]
   exact h
 apply Gets.get
 refine qsa _ ?_
 have hw : IntKind.wrap .i64 ((l.length : Int) - 1) = (l.length : Int) - 1 := qM (by omega) (by omega)
 have h := loop l.length (qyN _)
 rw [List.drop_length] at h
 rw [qd, hw]
 exact h
end Go.Proofs.YtkgkjngbfdnoiaaGreat
namespace Go.Proofs.YtkgkjngbfdnoiaaGreat.R
open Go.Av
theorem qkw {n : Int} {c : UInt8} (h : n = 1 ∧ c = 49 ∨ n = 2 ∧ c = 50) : EVf (EV cfg) 185 [.int .i64 n] = some (exA [36, c]).av := by
 have hA := qm0 [36, c]
 rw [← qcc _ rfl rfl] at hA
 apply Gets.get
 refine qqA n ?_
 refine Gets.eq (o := kOpt (EVf (EV cfg) 87 [.str [36, c]]) fun v => kTmV v fun n m s rows => some (.agg [.int .i64 n, .int .i64 m, .str s, .sl rows])) ?_ ?_
 ·rcases h with ⟨rfl, rfl⟩ | ⟨rfl, rfl⟩ <;> kernel_rfl
 ·rw [hA]
  simp only [qc, qE, qj]
  exact ⟨_, rfl, rfl⟩
theorem qos (h : Tm) {gs bs : List Tm} (hg : gs.length < 1000) (hb : bs.length < 1000) : EVf (EV cfg) 184 [h.av, .sl (qb gs), .sl (qb bs)] = some (quR h gs bs).av := by
 have h1 := qi6 hg
 have h2 := qi6 hb
 have h3 := qfb [h, qO gs, qO bs]
 have h4 := qi6 (l := [tupT [h, qO gs, qO bs]]) (by simp)
 rw [← qcc _ rfl rfl] at h1 h2 h3 h4
 have r3 : qb [h, qO gs, qO bs] = [[AV.int .i64 h.kind, .int .i64 h.num, .str h.str, .sl (qb h.subs)], [AV.int .i64 (qO gs).kind, .int .i64 (qO gs).num, .str (qO gs).str, .sl (qb (qO gs).subs)], [AV.int .i64 (qO bs).kind, .int .i64 (qO bs).num, .str (qO bs).str, .sl (qb (qO bs).subs)]] := by
  rw [qy, qy, qy, qI, Tm.cells_eq, Tm.cells_eq, Tm.cells_eq]
 have r1 : ∀ t : Tm, qb [t] = [[AV.int .i64 t.kind, .int .i64 t.num, .str t.str, .sl (qb t.subs)]] := fun t => by rw [qy, qI, Tm.cells_eq]
 rw [r3] at h3
 rw [r1] at h4
 apply Gets.get
 rw [qY h]
 refine qmz _ _ _ _ _ _ ?_
 rw [h1]
 simp only [qc, qE]
 rw [h2]
 simp only [qc, qE]
 rw [h3]
 simp only [qc, qE]
 rw [h4]
 simp only [qc, qE, qj]
 exact ⟨_, rfl, rfl⟩
theorem qk5 : EVf (EV cfg) 101 [] = some yg.av := by
 have v1 := qkw (.inl ⟨rfl, rfl⟩)
 have v2 := qkw (.inr ⟨rfl, rfl⟩)
 have hT1 := qfb [exA [36, 49], exA [36, 50]]
 have hA := qm0 [62]
 have hI := qmZ 1
 have hT2 := qfb [exA [62], exA [36, 50], exI 1]
 have ho := qos (tupT [exA [36, 49], exA [36, 50]]) (gs := [tupT [exA [62], exA [36, 50], exI 1]]) (bs := [exA [36, 49]]) (by simp) (by simp)
 rw [← qcc _ rfl rfl] at hT1 hA hI hT2
 have r1 : ∀ t : Tm, qb [t] = [[AV.int .i64 t.kind, .int .i64 t.num, .str t.str, .sl (qb t.subs)]] := fun t => by rw [qy, qI, Tm.cells_eq]
 have r2 : ∀ t u : Tm, qb [t, u] = [[AV.int .i64 t.kind, .int .i64 t.num, .str t.str, .sl (qb t.subs)], [AV.int .i64 u.kind, .int .i64 u.num, .str u.str, .sl (qb u.subs)]] := fun t u => by rw [qy, qy, qI, Tm.cells_eq, Tm.cells_eq]
 have r3 : ∀ t u x : Tm, qb [t, u, x] = [[AV.int .i64 t.kind, .int .i64 t.num, .str t.str, .sl (qb t.subs)], [AV.int .i64 u.kind, .int .i64 u.num, .str u.str, .sl (qb u.subs)], [AV.int .i64 x.kind, .int .i64 x.num, .str x.str, .sl (qb x.subs)]] := fun t u x => by rw [qy, qy, qy, qI, Tm.cells_eq, Tm.cells_eq, Tm.cells_eq]
 rw [r2] at hT1
 rw [r3] at hT2
 rw [r1, r1, qY] at ho
 apply Gets.get
 refine qjP ?_
 rw [v1]
 simp only [qc, qE]
 rw [v2]
 simp only [qc, qE]
 rw [hT1]
 simp only [qc, qE]
 rw [hA]
 simp only [qc, qE]
 rw [hI]
 simp only [qc, qE]
 rw [hT2]
 simp only [qc, qE]
 rw [ho]
 simp only [qc, qE, qj]
 exact ⟨_, rfl, rfl⟩
theorem qwq : vG yg (tupT [exA [107], exI 1]) 1 = (0, qX, 0) := by kernel_rfl
theorem qwp : vG yg (tupT [exA [107], exI 3]) 1 = (1, exA [107], 0) := by kernel_rfl
theorem qyy : (clsG yg).2 = 0 := by kernel_rfl
theorem qwr : (clsG (qO [])).2 = 10 := by kernel_rfl
theorem exW : yg.w < 1000 := by
 have : yg.w = 117 ∨ yg.w < 1000 := .inr (by decide +kernel)
 omega
theorem qk4 : EVs (EV cfg) 102 [yg.av, (tupT [exA [107], exI 3]).av, (exA [107]).av] = some (.bool true) := by
 have hw := exW
 have hr := qey qbc (t := yg) (o := tupT [exA [107], exI 3]) (by omega) (by decide +kernel) 1
 have hs : EVs (EV Go.Proofs.YtkgkjngbfdnoiaaGreat.cfg) 19 [(exA [107]).av, (exA [107]).av] = some (.bool true) := qbX (zQ _ (by decide +kernel)) (by simp)
 rw [← qi7 _ rfl rfl] at hs
 rw [qwp] at hr
 apply Gets.get
 rw [qY yg, qY (tupT [exA [107], exI 3]), qY (exA [107])]
 refine qjO _ _ _ _ _ _ _ _ _ _ _ _ ?_
 rw [qj, qj, hr]
 simp only [qc]
 rw [quJ]
 rw [qj, hs]
 exact ⟨_, rfl, rfl⟩
theorem qk7 : EVs (EV cfg) 32 [] = some (.bool true) := by
 have hw := exW
 have hA := qm0 [107]
 have hF := qk5
 have hI1 := qmZ 1
 have hI3 := qmZ 3
 have hT1 := qfb [exA [107], exI 1]
 have hT3 := qfb [exA [107], exI 3]
 have hL := qi6 (l := []) (by simp)
 rw [← qcc _ rfl rfl] at hA hI1 hI3 hT1 hT3 hL
 have r2 : ∀ t u : Tm, qb [t, u] = [[AV.int .i64 t.kind, .int .i64 t.num, .str t.str, .sl (qb t.subs)], [AV.int .i64 u.kind, .int .i64 u.num, .str u.str, .sl (qb u.subs)]] := fun t u => by rw [qy, qy, qI, Tm.cells_eq, Tm.cells_eq]
 rw [r2] at hT1 hT3
 rw [qI] at hL
 have hr := qey qbc (t := yg) (o := tupT [exA [107], exI 1]) (by omega) (by decide +kernel) 1
 rw [qwq] at hr
 have hc := qh4 (t := yg) (by omega)
 have hc' := qh4 (t := qO []) (by decide +kernel)
 rw [qyy] at hc
 rw [qwr] at hc'
 rw [← qi7 _ rfl rfl] at hc hc'
 have ht := qk4
 apply Gets.get
 refine qjQ ?_
 rw [hA]
 simp only [qc, qE]
 rw [hF]
 simp only [qc, qE]
 rw [hI1]
 simp only [qc, qE]
 rw [hT1]
 simp only [qc, qE]
 rw [qj, qj, hr]
 simp only [qc]
 rw [quJ]
 rw [qj, hc]
 simp only [qc, qm]
 rw [show ((0 : Int) == 0) = true from rfl, cond_true]
 rw [hI3]
 simp only [qc, qE]
 rw [hT3]
 simp only [qc, qE]
 rw [qj, ht]
 simp only [qc, qk]
 rw [hL]
 simp only [qc, qE]
 rw [qj, hc']
 exact ⟨_, rfl, rfl⟩
theorem qnG {t o : Tm} (ht : t.w ≤ 1048576) (ho : o.w ≤ 1048576) (self : Int) : EVs (EV cfg) 5 [t.av, o.av, .int .i64 self] = some (.bool true) := by
 have wt : t.w < 1099511627776 := by omega
 have wo : o.w < 1099511627776 := by omega
 have h1 := qqB (l := [t, o]) (qtg (by rw [qV, qV, vQ]; omega)) (by simp)
 have h2 := qgU t wt
 have h3 := qgU o wo
 have h4 := qey qbc wt wo self
 have h5 := qrD wt wo self
 have h6 := qnH qbc wt wo self
 have h7 := qnO wt wo self
 have h8 : EVs (EV Go.Proofs.YtkgkjngbfdnoiaaGreat.cfg) 19 [t.av, t.av] = some (.bool true) := qbX (zQ _ wt) (by simp)
 have h9 : EVs (EV Go.Proofs.YtkgkjngbfdnoiaaGreat.cfg) 19 [o.av, o.av] = some (.bool true) := qbX (zQ _ wo) (by simp)
 have hv := @qtF t o self
 generalize vG t o self = r at *
 obtain ⟨n, x, e⟩ := r
 have hv : x.w < 1099511627776 := hv
 have h10 : EVs (EV Go.Proofs.YtkgkjngbfdnoiaaGreat.cfg) 19 [x.av, x.av] = some (.bool true) := qbX (zQ _ hv) (by simp)
 have h11 := qrT (zQ _ hv)
 have h12 := qk7
 rw [← qi7 _ rfl rfl] at h1 h7 h8 h9 h10
 rw [← qcc _ rfl rfl] at h2 h3 h5
 have hr : qb [t, o] = [[AV.int .i64 t.kind, .int .i64 t.num, .str t.str, .sl (qb t.subs)], [AV.int .i64 o.kind, .int .i64 o.num, .str o.str, .sl (qb o.subs)]] := by rw [qy, qy, qI, Tm.cells_eq, Tm.cells_eq]
 rw [hr] at h1
 apply Gets.get
 rw [qY t, qY o]
 refine qk6 _ _ _ _ _ _ _ _ _ ?_
 refine Gets.bind h1 ?_
 rintro _ ⟨b, rfl, _⟩
 cases b with
 | true => exact ⟨_, rfl, rfl⟩
 | false =>
  simp only [qk, cond_false, qj]
  rw [h2, h3]
  simp only [qc, qE, qj]
  rw [h4, h5, h6, h7]
  unfold runR
  rw [qY x] at h10 ⊢
  simp only [qc, kTup, qa, kAgg, qm, yN, vE, kNil, qk, qyB, decide_true, qzh, cond_false]
  cases decide (n > 0) <;> simp only [h10, h11, h8, h9, h12, qc, qk, qzh, cond_false, cond_true, Bool.not_false, beq_self_eq_true] <;> exact ⟨_, rfl, rfl⟩
end Go.Proofs.YtkgkjngbfdnoiaaGreat.R
end
section
namespace Go.Av
mutual
def AV.wt : AV → Nat
 | .str s => s.length + 1
 | .sl rows => wtR rows + 1
 | _ => 1
def wtL : List AV → Nat
 | [] => 0
 | a :: l => a.wt + wtL l
def wtR : List (List AV) → Nat
 | [] => 0
 | a :: l => wtL a + wtR l
end
@[simp] theorem wtL_nil : wtL [] = 0 := by rw [wtL]
@[simp] theorem wtL_cons (a : AV) (l : List AV) : wtL (a :: l) = a.wt + wtL l := by rw [wtL]
@[simp] theorem wtR_nil : wtR [] = 0 := by rw [wtR]
@[simp] theorem wtR_cons (a : List AV) (l : List (List AV)) : wtR (a :: l) = wtL a + wtR l := by rw [wtR]
@[simp] theorem wt_int (k : IntKind) (n : Int) : (AV.int k n).wt = 1 := by rw [AV.wt] <;> simp
@[simp] theorem wt_bool (b : Bool) : (AV.bool b).wt = 1 := by rw [AV.wt] <;> simp
@[simp] theorem wt_str (s : List UInt8) : (AV.str s).wt = s.length + 1 := by rw [AV.wt]
@[simp] theorem wt_sl (r : List (List AV)) : (AV.sl r).wt = wtR r + 1 := by rw [AV.wt]
end Go.Av
namespace Go.Proofs.YtkgkjngbfdnoiaaGreat
open Go.Av Go.WideShapes
def qaZ (W : World) (cs : List Value) (cz : List AV) : Prop := cz.length = cs.length ∧ ∀ (j : Nat) a v, cz[j]? = some a → cs[j]? = some v → a.isCell = true ∧ Rep (C0 W) M0 a v
theorem qaZ.nil {W : World} : qaZ W [] [] := ⟨rfl, fun j a v h => by simp at h⟩
theorem qaZ.one {W : World} {a : AV} {v : Value} (h1 : a.isCell = true) (h2 : Rep (C0 W) M0 a v) : qaZ W [v] [a] := ⟨rfl, fun j a' v' ha hv => by
 match j, ha, hv with
 | 0, ha, hv => simp at ha hv; subst ha hv; exact ⟨h1, h2⟩
 | j + 1, ha, hv => simp at ha⟩
theorem qaZ.append {W : World} {cs cs' : List Value} {cz cz' : List AV} (h : qaZ W cs cz) (h' : qaZ W cs' cz') : qaZ W (cs ++ cs') (cz ++ cz') := by
 refine ⟨by simp [h.1, h'.1], fun j a v ha hv => ?_⟩
 by_cases hj : j < cz.length
 ·rw [qyU hj] at ha
  rw [qyU (by rw [← h.1]; exact hj)] at hv
  exact h.2 j a v ha hv
 ·rw [qyZ (by omega)] at ha
  rw [qyZ (by rw [← h.1]; omega), ← h.1] at hv
  exact h'.2 _ a v ha hv
section
variable {H : Type} {enc : TypeId × Value → H} {P : Program} {W : World}
end
theorem qpo {H : Type} {l : List (DataW H)} (hk : Rows.uptoSmall H l = true) {d : DataW H} (hd : d ∈ l) : Rows.uptoBulk d ≤ 1048576 := by
 have h : Rows.uptoBulkAll l ≤ 1048576 := of_decide_eq_true hk
 have := qsv hd
 omega
end Go.Proofs.YtkgkjngbfdnoiaaGreat
end
