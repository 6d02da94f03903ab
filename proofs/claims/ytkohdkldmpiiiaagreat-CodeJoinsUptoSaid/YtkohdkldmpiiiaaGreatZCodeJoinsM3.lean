/-
  Parts of the proof of CodeJoinsUptoSaid, put together: the abstract evaluation and its contracts. Own work.
  What is proved: each lemma as it stands; no condition.
-/
import Derived.LoopNIn
import Derived.KernelRfl
import Derived.Test.YtkohdkldmpiiiaaGreatZCodeJoinsM2
open Bool renaming and_eq_true → que, false_eq_true → quo, and_self → quy
open Option renaming bind_eq_some_iff → quf, map_eq_some_iff → quk, bind_some → quq, map_some → quz
open List renaming length → qug, getElem?_eq_some_iff → quh, getElem?_eq_getElem → quj, get?Internal → qul, getElem?_append_left → qup, getElem?_set → qur, length_append → qus, getElem?_append_right → qut, take_of_length_le → quu, mem_of_getElem? → quv, take → qux, mem_append → quA, replicate → quB, append → quD, getElem?_cons_succ → quF, mem_cons → quH, length_map → quI, range → quK, length_cons → quM, drop → quN
open Nat renaming eq_of_beq_eq_true → qui, le_refl → qum, beq → qun, ble → quw, mul_le_mul_right → quC, ble_eq → quJ, blt_eq → quL
open Int renaming toNat_natCast → quE, toNat → quG
set_option maxRecDepth 1000000
set_option maxHeartbeats 0
section
namespace Go.Av
variable {C C' C1 C2 : qd} {μ μ' μ1 : MMap} {H H' H1 H2 : AH} {w w' w1 : World} {P : Program}
def yD (ops : Array Oper) (t j : Nat) : Bool :=
 match ops[j]? with
 | some o => (match o.dst with | some d => qun d t | none => false)
 | none => false
theorem qfb {ops : Array Oper} {t j : Nat} {o : Oper} (h : ops[j]? = some o) : yD ops t j = true ↔ o.dst = some t := by
 unfold yD
 rw [h]
 simp only
 cases hd : o.dst with
 | none => simp
 | some d =>
  simp only [Option.some.injEq]
  constructor
  ·intro h; exact qui h
  ·intro h; rw [h]; exact Nat.beq_refl _
theorem qbQ {ops : Array Oper} {t j : Nat} (h : yD ops t j = true) : ∃ o, ops[j]? = some o ∧ o.dst = some t := by
 cases ho : ops[j]? with
 | none => unfold yD at h; rw [ho] at h; cases h
 | some o => exact ⟨o, rfl, (qfb ho).1 h⟩
structure FrIs (ops : Array Oper) (V : Nat → AV) (F0 : List AV) (D : Nat → Bool) (fr : List AV) : Prop where
 len : fr.length = F0.length
 get : ∀ t, t < F0.length → fr[t]? = match ze (fun j => D j && yD ops t j) ops.size with | some j => some (V j) | none => F0[t]?
structure HIs (Φ : Nat → FP) (G : Nat → AH) (N : Nat) (D : Nat → Bool) (H : AH) : Prop where
 len : H.length = (G 0).length
 get : ∀ id, H[id]? = match ze (fun j => D j && (Φ j).W id) N with | some j => (G (j + 1))[id]? | none => (G 0)[id]?
def addD (D : Nat → Bool) (i : Nat) : Nat → Bool := fun j => D j || qun j i
def preD (i : Nat) : Nat → Bool := fun j => Nat.blt j i
theorem qcM (D : Nat → Bool) (i : Nat) : addD D i i = true := by simp [addD]
theorem qb1 {D : Nat → Bool} {i j : Nat} (h : j ≠ i) : addD D i j = D j := by
 unfold addD
 have : qun j i = false := by rw [← Bool.not_eq_true]; intro h'; exact h (qui h')
 rw [this, Bool.or_false]
theorem qpY (i : Nat) : preD (i + 1) = addD (preD i) i := by
 funext j
 unfold preD addD
 rw [Bool.eq_iff_iff, Bool.or_eq_true, quL, quL]
 constructor
 ·intro h
  rcases Nat.lt_or_ge j i with h' | h'
  ·exact .inl h'
  ·have : j = i := by omega
   subst this; exact .inr (Nat.beq_refl _)
 ·rintro (h | h)
  ·omega
  ·have := qui h; omega
theorem FrIs.add {ops : Array Oper} {V : Nat → AV} {F0 : List AV} {D : Nat → Bool} {fr : List AV} (h : FrIs ops V F0 D fr) {i : Nat} {o : Oper} (ho : ops[i]? = some o) (hd : ∀ t j, j ≠ i → yD ops t j = true → yD ops t i = true → False) :
  FrIs ops V F0 (addD D i) (put fr o.dst (V i)) := by
 have hi : i < ops.size := (Array.getElem?_eq_some_iff.1 ho).1
 refine ⟨by rw [← h.len]; cases o.dst <;> simp [put], fun t ht => ?_⟩
 by_cases e : yD ops t i = true
 ·have hdst := (qfb ho).1 e
  rw [qgN (i := i) (by rw [qcM, e]; rfl) hi (fun j hj hlt => by
   have : yD ops t j = false := by rw [← Bool.not_eq_true]; exact fun h' => hd t j (by omega) h' e
   rw [this, Bool.and_false])]
  rw [hdst]
  simp only [put]
  rw [qur, if_pos rfl, if_pos (by rw [h.len]; exact ht)]
 ·have hne : o.dst ≠ some t := fun h' => e ((qfb ho).2 h')
  rw [z9 (q := fun j => D j && yD ops t j) (fun j hj => by
   by_cases hji : j = i
   ·subst hji
    have : yD ops t j = false := by simpa using e
    rw [this, Bool.and_false, Bool.and_false]
   ·rw [qb1 hji])]
  rw [← h.get t ht]
  cases hdst : o.dst with
  | none => rfl
  | some d =>
   simp only [put]
   rw [qur, if_neg]
   intro e'; subst e'; exact hne hdst
theorem HIs.add {Φ : Nat → FP} {G : Nat → AH} {N : Nat} {D : Nat → Bool} (h : HIs Φ G N D H) {i : Nat} (hi : i < N) (hd : ∀ j, D j = true → i < j → ∀ id, ¬ ((Φ i).W id = true ∧ (Φ j).W id = true)) (hl : H'.length = H.length)
  (hg : ∀ id, H'[id]? = if (Φ i).W id = true then (G (i + 1))[id]? else H[id]?) : HIs Φ G N (addD D i) H' := by
 refine ⟨by rw [hl, h.len], fun id => ?_⟩
 rw [hg id]
 by_cases e : (Φ i).W id = true
 ·rw [if_pos e]
  rw [qgN (i := i) (by rw [qcM, e]; rfl) hi (fun j hj hlt => by
   rw [qb1 (by omega)]
   cases hD : D j with
   | false => rfl
   | true =>
    have := hd j hD hlt id
    rw [Bool.true_and, ← Bool.not_eq_true]
    exact fun h' => this ⟨e, h'⟩)]
 ·rw [if_neg e]
  rw [z9 (q := fun j => D j && (Φ j).W id) (fun j hj => by
   by_cases hji : j = i
   ·subst hji
    have : (Φ j).W id = false := by simpa using e
    rw [this, Bool.and_false, Bool.and_false]
   ·rw [qb1 hji])]
  exact h.get id
theorem FrIs.congr {ops : Array Oper} {V : Nat → AV} {F0 : List AV} {D D' : Nat → Bool} {fr fr' : List AV} (h : FrIs ops V F0 D fr) (h' : FrIs ops V F0 D' fr') {t : Nat} (hD : ∀ j, yD ops t j = true → D j = D' j) : fr[t]? = fr'[t]? := by
 rcases Nat.lt_or_ge t F0.length with ht | ht
 ·rw [h.get t ht, h'.get t ht, z9 (p := fun j => D j && yD ops t j) (q := fun j => D' j && yD ops t j) (fun j _ => by
   cases hd : yD ops t j with
   | false => rw [Bool.and_false, Bool.and_false]
   | true => rw [hD j hd])]
 ·rw [List.getElem?_eq_none (by rw [h.len]; exact ht), List.getElem?_eq_none (by rw [h'.len]; exact ht)]
theorem HIs.congr {Φ : Nat → FP} {G : Nat → AH} {N : Nat} {D D' : Nat → Bool} (h : HIs Φ G N D H) (h' : HIs Φ G N D' H') {id : Nat} (hD : ∀ j, j < N → (Φ j).W id = true → D j = D' j) : H[id]? = H'[id]? := by
 rw [h.get id, h'.get id, z9 (p := fun j => D j && (Φ j).W id) (q := fun j => D' j && (Φ j).W id) (fun j hj => by
  cases hd : (Φ j).W id with
  | false => rw [Bool.and_false, Bool.and_false]
  | true => rw [hD j hj hd])]
def zQ (L : List Nat) (D : Nat → Bool) : Prop := ∀ j, D j = true → ∀ i, (L.getD j 0).testBit i = true → D i = true
section
variable {cfg : Cfg} {cf : Orac} {ops : Array Oper} {frz : Nat → Bool} {F : Nat → List AV} {G : Nat → AH} {V : Nat → AV} {B : Nat → Bool} {A : Nat → Nat} {Φ Ψ : Nat → FP} {R : Nat → AH → Bool}
structure DrawOk (cfg : Cfg) (cf : Orac) (ops : Array Oper) (frz : Nat → Bool) (F : Nat → List AV) (G : Nat → AH) (V : Nat → AV) (B : Nat → Bool) (A : Nat → Nat) (Φ Ψ : Nat → FP) (R : Nat → AH → Bool) : Prop where
 back : yN 0 ops.toList = true
 stat : ∀ i j a b, ops[i]? = some a → ops[j]? = some b → i < j → qa7 a b = true ∧ (((ancs [] ops.toList).getD j 0).testBit i = true ∨ qa8 ops a b = true)
 dyn : ∀ i j, j < ops.size → i < j → ((ancs [] ops.toList).getD j 0).testBit i = true ∨ (Ψ i).indep (Ψ j) = true
 stb : ∀ i, i < ops.size → Ψ i = Φ i ∨ ∀ m, m ≤ ops.size → R i (G m) = true
 run : ∀ i o, ops[i]? = some o → DStep cfg cf ops (frz i) o (F i) (F (i + 1)) (G i) (G (i + 1)) (V i) (B i) (A i) (Φ i) (R i)
theorem DrawOk.dst (h : DrawOk cfg cf ops frz F G V B A Φ Ψ R) {t i j : Nat} (hne : j ≠ i) (hj : yD ops t j = true) (hi : yD ops t i = true) : False := by
 obtain ⟨a, ha, hda⟩ := qbQ hi
 obtain ⟨b, hb, hdb⟩ := qbQ hj
 rcases Nat.lt_or_ge i j with hlt | hge
 ·have := (h.stat i j a b ha hb hlt).1
  unfold qa7 at this
  rw [hda, hdb] at this
  simp at this
 ·have := (h.stat j i b a hb ha (by omega)).1
  unfold qa7 at this
  rw [hda, hdb] at this
  simp at this
theorem DrawOk.pre (h : DrawOk cfg cf ops frz F G V B A Φ Ψ R) : ∀ i, i ≤ ops.size → FrIs ops V (F 0) (preD i) (F i) ∧ HIs Φ G ops.size (preD i) (G i)
 | 0, _ => ⟨⟨rfl, fun t ht => by rw [qdS (fun j _ => by simp [preD])]⟩, ⟨rfl, fun id => by rw [qdS (fun j _ => by simp [preD])]⟩⟩
 | i + 1, hi => by
  obtain ⟨h1, h2⟩ := h.pre i (by omega)
  have hlt : i < ops.size := by omega
  have ho := Array.getElem?_eq_getElem hlt
  have hs := h.run i _ ho
  rw [qpY]
  refine ⟨by rw [hs.next]; exact h1.add ho fun t j hne hj hi => h.dst hne hj hi, ?_⟩
  have key : (G (i + 1)).length = (G i).length ∧ ∀ id, (G (i + 1))[id]? = if (Φ i).W id = true then (G (i + 1))[id]? else (G i)[id]? := by
   cases hb : B i with
   | true =>
    rw [hb] at hs
    obtain ⟨H2', e1, e2, e3⟩ := hs.again (fr2 := F i) (H2 := G i) (fun _ _ => rfl) rfl (fun _ _ => rfl)
    rw [(hs.yes rfl).1] at e1
    cases e1
    exact ⟨e2, e3⟩
   | false =>
    obtain ⟨_, e1, e2, _⟩ := hs.no hb
    exact ⟨by rw [e1], fun id => by rw [e1, e2]; simp [FP.W, FP.none, xO]⟩
  exact h2.add hlt (fun j hj hij => by simp [preD, quL] at hj; omega) key.1 key.2
theorem DrawOk.wr (h : DrawOk cfg cf ops frz F G V B A Φ Ψ R) {j : Nat} (hj : j < ops.size) {id : Nat} (hw : (Φ j).W id = true) : (Ψ j).W id = true := by
 rcases h.stb j hj with e | e
 ·rw [e]; exact hw
 ·obtain ⟨_, _, i, hf, _⟩ := (h.run j _ (Array.getElem?_eq_getElem hj)).reads (e 0 (Nat.zero_le _))
  rw [hf] at hw
  simp [FP.W, xO] at hw
theorem qlB {p : Nat → Bool} : ∀ {n j : Nat}, ze p n = some j → j < n
 | 0, j, h => by simp [ze] at h
 | n + 1, j, h => by
  rw [ze] at h
  split at h
  ·cases h; omega
  ·have := qlB h; omega
theorem DrawOk.ready (h : DrawOk cfg cf ops frz F G V B A Φ Ψ R) {D : Nat → Bool} {fr : List AV} (hf : FrIs ops V (F 0) D fr) (hH : HIs Φ G ops.size D H) (hc : zQ (ancs [] ops.toList) D) {i : Nat} {o : Oper} (ho : ops[i]? = some o) (hi : D i = false)
  (hanc : ∀ m, ((ancs [] ops.toList).getD i 0).testBit m = true → D m = true) (hDN : ∀ j, D j = true → j < ops.size) :
  xb ops fr o = some (B i) ∧ (B i = true → ∃ H', vj cfg cf (frz i) (some (A i)) o (opd fr) H = some (V i, H') ∧ HIs Φ G ops.size (addD D i) H') ∧ (B i = false → V i = .tup [] ∧ HIs Φ G ops.size (addD D i) H) ∧
   FrIs ops V (F 0) (addD D i) (put fr o.dst (V i)) := by
 have hlt : i < ops.size := (Array.getElem?_eq_some_iff.1 ho).1
 obtain ⟨p1, p2⟩ := h.pre i (by omega)
 have hs := h.run i o ho
 have hslots : ∀ t ∈ zC ops o, fr[t]? = (F i)[t]? := by
  intro t ht
  refine hf.congr p1 fun j hj => ?_
  obtain ⟨b, hb, hdb⟩ := qbQ hj
  rcases Nat.lt_trichotomy j i with hji | hji | hji
  ·have : preD i j = true := by simp [preD, quL, hji]
   rw [this]
   rcases (h.stat j i b o hb ho hji).2 with ha | ha
   ·exact hanc j ha
   ·unfold qa8 at ha
    rw [hdb, que] at ha
    have := ha.1
    simp only [Bool.not_eq_true', ← Bool.not_eq_true, vC] at this
    exact absurd ht this
  ·subst hji; rw [hi]; symm; rw [← Bool.not_eq_true]; simp [preD, quL]
  ·have : preD i j = false := by rw [← Bool.not_eq_true]; simp [preD, quL]; omega
   rw [this]
   rcases (h.stat i j o b ho hb hji).2 with ha | ha
   ·rw [← Bool.not_eq_true]; intro hD; rw [hc j hD i ha] at hi; cases hi
   ·unfold qa8 at ha
    rw [hdb, que] at ha
    have := ha.2
    simp only [Bool.not_eq_true', ← Bool.not_eq_true, vC] at this
    exact absurd ht this
 have hblks : Ψ i = Φ i → ∀ id, (Φ i).T id = true → H[id]? = (G i)[id]? := by
  intro hΨ id ht
  rw [← hΨ] at ht
  refine hH.congr p2 fun j hjN hj => ?_
  rcases Nat.lt_trichotomy j i with hji | hji | hji
  ·have : preD i j = true := by simp [preD, quL, hji]
   rw [this]
   rcases h.dyn j i hlt hji with ha | ha
   ·exact hanc j ha
   ·exact absurd ⟨h.wr hjN hj, ht⟩ (qd1 ha id).2
  ·subst hji; rw [hi]; symm; rw [← Bool.not_eq_true]; simp [preD, quL]
  ·have : preD i j = false := by rw [← Bool.not_eq_true]; simp [preD, quL]; omega
   rw [this]
   rcases h.dyn i j hjN hji with ha | ha
   ·rw [← Bool.not_eq_true]; intro hD; rw [hc j hD i ha] at hi; cases hi
   ·exact absurd ⟨ht, h.wr hjN hj⟩ (qd1 ha id).1
 have hww : ∀ j, D j = true → i < j → ∀ id, ¬ ((Φ i).W id = true ∧ (Φ j).W id = true) := by
  intro j hD hij id hWW
  have hjN := hDN j hD
  rcases h.dyn i j hjN hij with ha | ha
  ·rw [hc j hD i ha] at hi; cases hi
  ·exact (qd1 ha id).2 ⟨h.wr hlt hWW.1, FP.T_of_W (h.wr hjN hWW.2)⟩
 refine ⟨by rw [qmK hslots]; exact hs.wanted, fun hb => ?_, fun hb => ?_, hf.add ho fun t j hne hj hi => h.dst hne hj hi⟩
 ·rcases h.stb i hlt with hΨ | hst
  ·rw [hb] at hs
   have hlen : H.length = (G i).length := by rw [hH.len, p2.len]
   obtain ⟨H', e1, e2, e3⟩ := hs.again hslots hlen (hblks hΨ)
   exact ⟨H', e1, hH.add hlt hww e2 e3⟩
  ·obtain ⟨_, _, id, hf, hev⟩ := hs.reads (hst 0 (Nat.zero_le _))
   have hm : ∃ m, m ≤ ops.size ∧ H[id]? = (G m)[id]? := by
    have := hH.get id
    cases hl : ze (fun j => D j && (Φ j).W id) ops.size with
    | none => rw [hl] at this; exact ⟨0, Nat.zero_le _, this⟩
    | some j => rw [hl] at this; exact ⟨j + 1, qlB hl, this⟩
   obtain ⟨m, hm1, hm2⟩ := hm
   have e1 := hev (hst m hm1) hslots hm2 (by rw [hH.len, (h.pre m hm1).2.len])
   exact ⟨H, e1, hH.add hlt hww rfl (fun id => by rw [hf]; simp [FP.W, xO])⟩
 ·obtain ⟨e0, _, e2, _⟩ := hs.no hb
  exact ⟨e0, hH.add hlt hww rfl (fun id => by rw [e2]; simp [FP.W, FP.none, xO])⟩
end
theorem zQ.add {ops : Array Oper} (hb : yN 0 ops.toList = true) {D : Nat → Bool} (h : zQ (ancs [] ops.toList) D) {i : Nat} {o : Oper} (ho : ops[i]? = some o) (hr : ∀ m, binds o m → D m = true) :
  (∀ m, ((ancs [] ops.toList).getD i 0).testBit m = true → D m = true) ∧ zQ (ancs [] ops.toList) (addD D i) := by
 have hanc : ∀ m, ((ancs [] ops.toList).getD i 0).testBit m = true → D m = true := by
  intro m hm
  obtain ⟨k, h1, _, h3⟩ := qrJ hb ho hm
  rcases h3 with h3 | h3
  ·subst h3; exact hr k h1
  ·exact h k (hr k h1) m h3
 refine ⟨hanc, fun j hj m hm => ?_⟩
 by_cases e : j = i
 ·subst e
  have := hanc m hm
  unfold addD; rw [this]; rfl
 ·rw [qb1 e] at hj
  have := h j hj m hm
  unfold addD; rw [this]; rfl
variable {C C' C1 C2 : qd} {μ μ' μ1 : MMap} {H H' H1 H2 : AH} {w w' w1 : World} {P : Program}
theorem qjW {p q : Nat → Bool} (h : ∀ j, q j = true → p j = true) {i : Nat} (hp : p i = true) (hq : q i = false) : ∀ {l : List Nat}, i ∈ l → l.countP q < l.countP p
 | [], hi => by cases hi
 | x :: l, hi => by
  have hle : l.countP q ≤ l.countP p := List.countP_mono_left fun j _ hj => h j hj
  rw [List.countP_cons, List.countP_cons]
  by_cases e : i = x
  ·subst e
   rw [hp, hq]; simp; omega
  ·have := qjW h hp hq ((quH.1 hi).resolve_left e)
   cases hqx : q x with
   | true => rw [h x hqx]; simp; omega
   | false =>
    cases p x <;> simp <;> omega
theorem qlY (listed : Array Bool) {i : Nat} (hi : i < listed.size) : (fun j => (listed.setIfInBounds i true).getD j false) = addD (fun j => listed.getD j false) i := by
 funext j
 rw [Array.getD_eq_getD_getElem?, Array.getElem?_setIfInBounds]
 by_cases e : i = j
 ·subst e
  rw [if_pos rfl, if_pos hi, qcM]; rfl
 ·rw [if_neg e, qb1 (fun h => e h.symm), Array.getD_eq_getD_getElem?]
theorem qbY {listed : Array Bool} {j : Nat} (hj : j < listed.size) : listed.getD j true = listed.getD j false := by
 rw [Array.getD_eq_getD_getElem?, Array.getD_eq_getD_getElem?, Array.getElem?_eq_getElem hj]; rfl
def unl (N : Nat) (listed : Array Bool) : Nat := (quK N).countP fun j => !listed.getD j true
theorem qpW {ops : Array Oper} (hb : yN 0 ops.toList = true) {listed : Array Bool} (hs : listed.size = ops.size) (hr : Region.ready .any ops listed = []) : ∀ j, j < ops.size → listed.getD j false = true := by
 intro j
 induction j using Nat.strongRecOn with
 | _ j ih =>
  intro hj
  rw [← Bool.not_eq_false]
  intro hf
  have hmem : j ∈ Region.ready .any ops listed := by
   refine mem_ready.2 ⟨by rw [qbY (by omega)]; exact hf, ops[j], Array.getElem?_eq_getElem hj, fun e he hbe => ?_⟩
   have hlt : e.on < j := by
    have hback : ∀ (l : List Oper) (k j : Nat) (o : Oper), yN k l = true → l[j]? = some o → ∀ e ∈ o.after.toList, Region.binds .any e = true → e.on < k + j := by
     intro l
     induction l with
     | nil => intro k j o _ h; simp at h
     | cons o' l ih =>
      intro k j o hb hj e he hbe
      rw [yN, que] at hb
      cases j with
      | zero =>
       simp at hj; subst hj
       have := List.all_eq_true.1 hb.1 e he
       rw [hbe] at this
       simpa [quL] using this
      | succ j =>
       have := ih (k + 1) j o hb.2 (by simpa using hj) e he hbe
       omega
    have := hback ops.toList 0 j ops[j] hb (by rw [Array.getElem?_toList]; exact Array.getElem?_eq_getElem hj) e (Array.mem_toList_iff.2 he) hbe
    omega
   exact ih e.on hlt (by omega)
  rw [hr] at hmem
  cases hmem
theorem qrB [Lent] {cfg : Cfg} (hc : CfgTy cfg) {cf : Orac} (hO : qaf cfg cf) {Fn : Fence} (hF : zo Fn) {ops : Array Oper} {frz : Nat → Bool} {F : Nat → List AV} {G : Nat → AH} {V : Nat → AV} {B : Nat → Bool} {A : Nat → Nat} {Φ Ψ : Nat → FP} {R : Nat → AH → Bool}
  (hd : DrawOk cfg cf ops frz F G V B A Φ Ψ R) {Q : Exit → Act → World → Prop} {C0 : qd} {μ0 : MMap} {H0 : AH} {w0 : World} {k : Nat} {ds : List Deferred}
  (hq : ∀ C μ w a, qo C μ (F ops.size) a.tmps → Wld C μ (G ops.size) w → Ext k C0 μ0 H0 w0 C μ (G ops.size) w → a.defers = ds → Q .normal a w) :
  ∀ (fuel : Nat) (listed : Array Bool) {fr : List AV} {H : AH} {C : qd} {μ : MMap} {w : World} {a : Act}, listed.size = ops.size → unl ops.size listed ≤ fuel → FrIs ops V (F 0) (fun j => listed.getD j false) fr →
   HIs Φ G ops.size (fun j => listed.getD j false) H → zQ (ancs [] ops.toList) (fun j => listed.getD j false) → qo C μ fr a.tmps → Wld C μ H w → Ext k C0 μ0 H0 w0 C μ H w → a.defers = ds →
   wpAnyIn Fn 0 cfg.P .any ops Q fuel listed a w := by
 have done : ∀ {listed : Array Bool} {fr : List AV} {H : AH} {C : qd} {μ : MMap} {w : World} {a : Act}, (∀ j, j < ops.size → listed.getD j false = true) → FrIs ops V (F 0) (fun j => listed.getD j false) fr →
   HIs Φ G ops.size (fun j => listed.getD j false) H → qo C μ fr a.tmps → Wld C μ H w → Ext k C0 μ0 H0 w0 C μ H w → a.defers = ds → Q .normal a w := by
  intro listed fr H C μ w a hall hfi hhi hfr hw hx hds
  obtain ⟨p1, p2⟩ := hd.pre ops.size (qum _)
  have e1 : fr = F ops.size := List.ext_getElem? fun t => hfi.congr p1 fun j hj => by
   obtain ⟨o, ho, _⟩ := qbQ hj
   have hlt := (Array.getElem?_eq_some_iff.1 ho).1
   rw [hall j hlt]
   simp [preD, quL, hlt]
  have e2 : H = G ops.size := List.ext_getElem? fun id => hhi.congr p2 fun j hj _ => by
   rw [hall j hj]
   simp [preD, quL, hj]
  subst e1; subst e2
  exact hq C μ w a hfr hw hx hds
 have step : ∀ (i : Nat) (K : Act → World → Prop) {listed : Array Bool} {fr : List AV} {H : AH} {C : qd} {μ : MMap} {w : World} {a : Act}, i ∈ Region.ready .any ops listed → listed.size = ops.size → FrIs ops V (F 0) (fun j => listed.getD j false) fr →
   HIs Φ G ops.size (fun j => listed.getD j false) H → zQ (ancs [] ops.toList) (fun j => listed.getD j false) → qo C μ fr a.tmps → Wld C μ H w → Ext k C0 μ0 H0 w0 C μ H w → a.defers = ds →
   (∀ {fr : List AV} {H : AH} {C : qd} {μ : MMap} {w : World} {a : Act}, FrIs ops V (F 0) (fun j => (listed.setIfInBounds i true).getD j false) fr →
    HIs Φ G ops.size (fun j => (listed.setIfInBounds i true).getD j false) H → zQ (ancs [] ops.toList) (fun j => (listed.setIfInBounds i true).getD j false) → qo C μ fr a.tmps → Wld C μ H w → Ext k C0 μ0 H0 w0 C μ H w → a.defers = ds → K a w) →
   wpOpIn Fn 0 cfg.P ops Q i K a w := by
  intro i K listed fr H C μ w a hr hs hfi hhi hac hfr hw hx hds hK
  obtain ⟨hun, o, ho, hed⟩ := mem_ready.1 hr
  have hlt : i < ops.size := (Array.getElem?_eq_some_iff.1 ho).1
  have hDi : listed.getD i false = false := by rw [← qbY (by omega)]; exact hun
  obtain ⟨hanc, hac'⟩ := hac.add hd.back ho (fun m ⟨e, he, hbe, hm⟩ => by subst hm; exact hed e (Array.mem_toList_iff.1 he) hbe)
  obtain ⟨r1, r2, r3, r4⟩ := hd.ready hfi hhi hac ho hDi hanc (fun j hj => by
   rcases Nat.lt_or_ge j ops.size with h | h
   ·exact h
   ·rw [Array.getD_eq_getD_getElem?, Array.getElem?_eq_none (by omega)] at hj; simp at hj)
  have hwan := qb7 hfr r1
  rw [← qlY listed (by omega)] at hac' r4 r2 r3
  unfold wpOpIn
  simp only [ho]
  cases hb : B i with
  | true =>
   rw [hb] at hwan
   rw [if_pos hwan]
   obtain ⟨H', e1, e2⟩ := r2 hb
   refine qeX hF ((qco hc hO (qa2 hfr) hw e1).mono fun v w1 ⟨C1, μ1, g1, g2, g3⟩ => ?_)
   have hf1 : qo C1 μ1 fr a.tmps := hfr.monoG g3.cl (fun id m hm => g3.mu id m (hw.dom id m hm) hm)
   exact hK r4 e2 hac' (qa1 hf1 g1) g2 (hx.trans g3 hx.len) (by rw [zU]; exact hds)
  | false =>
   rw [hb] at hwan
   rw [if_neg (by rw [hwan]; simp)]
   obtain ⟨e0, e2⟩ := r3 hb
   rw [e0] at r4
   exact ⟨fun f _ => hF.fn f, hK r4 e2 hac' (qa1 hfr qeN) hw hx (by rw [zU]; exact hds)⟩
 intro fuel
 induction fuel with
 | zero =>
  intro listed fr H C μ w a hs hu hfi hhi hac hfr hw hx hds
  have hall : ∀ j, j < ops.size → listed.getD j false = true := by
   intro j hj
   have h0 : unl ops.size listed = 0 := by omega
   unfold unl at h0
   rw [List.countP_eq_zero] at h0
   have := h0 j (List.mem_range.2 hj)
   rw [qbY (by omega)] at this
   simpa using this
  refine ⟨?_, done hall hfi hhi hfr hw hx hds⟩
  cases hr : Region.ready .any ops listed with
  | nil => rfl
  | cons i l =>
   have hi : i ∈ Region.ready .any ops listed := by rw [hr]; exact List.mem_cons_self ..
   obtain ⟨hun, o, ho, _⟩ := mem_ready.1 hi
   have hlt : i < ops.size := (Array.getElem?_eq_some_iff.1 ho).1
   have := hall i hlt
   rw [← qbY (by omega), hun] at this
   cases this
 | succ fuel ih =>
  intro listed fr H C μ w a hs hu hfi hhi hac hfr hw hx hds
  refine ⟨fun hr => done (qpW hd.back hs hr) hfi hhi hfr hw hx hds, fun i hi => step i _ hi hs hfi hhi hac hfr hw hx hds ?_⟩
  intro fr' H' C' μ' w' a' f1 f2 f3 f4 f5 f6 f7
  refine ih (listed.setIfInBounds i true) (by simpa using hs) ?_ f1 f2 f3 f4 f5 f6 f7
  obtain ⟨hun, o, ho, _⟩ := mem_ready.1 hi
  have hlt : i < ops.size := (Array.getElem?_eq_some_iff.1 ho).1
  have : unl ops.size (listed.setIfInBounds i true) < unl ops.size listed := by
   unfold unl
   refine qjW (fun j hj => ?_) (i := i) (by rw [hun]; rfl) ?_ (List.mem_range.2 hlt)
   ·rw [Array.getD_eq_getD_getElem?, Array.getElem?_setIfInBounds] at hj
    by_cases e : i = j
    ·subst e; rw [if_pos rfl, if_pos (by omega)] at hj; simp at hj
    ·rw [if_neg e] at hj; rw [Array.getD_eq_getD_getElem?]; exact hj
   ·rw [Array.getD_eq_getD_getElem?, Array.getElem?_setIfInBounds, if_pos rfl, if_pos (by omega)]; rfl
  omega
theorem qo6 [Lent] {cfg : Cfg} (hc : CfgTy cfg) {cf : Orac} (hO : qaf cfg cf) (hm : cfg.P.follows .mixedOrders = true) {Fn : Fence} (hF : zo Fn) {f rid : Nat} {ops : Array Oper} {fr : List AV} {fps : List DR} {fr' : List AV} {a : Act}
  (hst : zj ops = true) (he : xG cfg cf f rid ops 0 H.length ops.toList fr (H ++ quB (places cfg ops.toList) .res) = some (fps, fr', H')) (hdy : qbZ (ancs [] ops.toList) (H ++ quB (places cfg ops.toList) .res) fps = true)
  (hf : qo C μ fr a.tmps) (hw : Wld C μ H w) {Q : Exit → Act → World → Prop}
  (hq : ∀ C' μ' w' a', qo C' μ' fr' a'.tmps → Wld C' μ' H' w' → Ext H.length C μ H w C' μ' H' w' → a'.defers = a.defers → Q .normal a' w') : (Code.region rid ops true).wpIn Fn 0 cfg.P Q a w := by
 obtain ⟨F, G, V, B, A, Φ, R, e1, e2, e3, e4, e5, e6⟩ := qiv ops.toList 0 H.length he
 simp only [Nat.zero_add, Array.length_toList] at e3 e4 e5 e6
 unfold zj at hst
 rw [que, que] at hst
 replace hst := hst.2
 have hdd : ∃ Ψ : Nat → FP, (∀ i j, j < ops.size → i < j → ((ancs [] ops.toList).getD j 0).testBit i = true ∨ (Ψ i).indep (Ψ j) = true) ∧ ∀ i, i < ops.size → Ψ i = Φ i ∨ ∀ m, m ≤ ops.size → R i (G m) = true := by
  unfold qbZ at hdy
  rw [Bool.or_eq_true] at hdy
  rcases hdy with hdy | hdy
  ·refine ⟨Φ, fun i j hj hlt => ?_, fun i _ => .inl rfl⟩
   have := qeb _ 0 hdy i j _ _ (by rw [List.getElem?_map, e5 i (by omega)]; rfl) (by rw [List.getElem?_map, e5 j hj]; rfl) hlt
   simpa using this
  ·refine ⟨fun i => stab (H ++ quB (places cfg ops.toList) .res) fps ⟨Φ i, G (i + 1), R i⟩, fun i j hj hlt => ?_, fun i hi => ?_⟩
   ·have := qeb _ 0 hdy i j _ _ (by rw [List.getElem?_map, e5 i (by omega)]; rfl) (by rw [List.getElem?_map, e5 j hj]; rfl) hlt
    simpa using this
   ·show (if (R i (H ++ quB (places cfg ops.toList) .res) && qiM (R i) fps) = true then FP.none else Φ i) = Φ i ∨ _
    split
    ·rename_i hc
     rw [que] at hc
     refine .inr fun m hm => ?_
     have hall : ∀ (l : List DR), qiM (R i) l = true → ∀ (k : Nat) d, l[k]? = some d → R i d.hp = true := by
      intro l
      induction l with
      | nil => intro _ k d hk; simp at hk
      | cons d l ih =>
       intro hl k d' hk
       rw [qiM, que] at hl
       cases k with
       | zero => simp at hk; subst hk; exact hl.1
       | succ k => exact ih hl.2 k d' (by simpa using hk)
     cases m with
     | zero => rw [e2]; exact hc.1
     | succ m => exact hall fps hc.2 m _ (e5 m (by omega))
    ·exact .inl rfl
 obtain ⟨Ψ, hdyn, hstb⟩ := hdd
 have hd : DrawOk cfg cf ops (fun k => cfg.frz f rid k) F G V B A Φ Ψ R := by
  refine ⟨hst.1, fun i j a b hi hj hlt => ?_, hdyn, hstb, fun i o ho => e6 i o (by rw [Array.getElem?_toList]; exact ho)⟩
  ·have := qga ops.toList 0 hst.2 i j a b (by rw [Array.getElem?_toList]; exact hi) (by rw [Array.getElem?_toList]; exact hj) hlt
   simpa using this
 refine wpIn_region_any hm ?_
 have hlist : (fun j => (Array.replicate ops.size false).getD j false) = preD 0 := by
  funext j
  rw [Array.getD_eq_getD_getElem?]
  have hp : preD 0 j = false := by rw [← Bool.not_eq_true]; simp [preD, quL]
  rw [hp]
  rcases Nat.lt_or_ge j ops.size with h | h
  ·simp [h]
  ·simp [h]
 obtain ⟨p1, p2⟩ := hd.pre 0 (Nat.zero_le _)
 have hx0 : Ext H.length C μ H w C μ (H ++ quB (places cfg ops.toList) .res) { w with drawn := w.drawn + 1 } :=
  ⟨rfl, rfl, rfl, qum _, fun _ _ _ h => h, fun _ _ _ h => ⟨_, h, .refl _⟩, fun b _ hnl => ⟨rfl, fun hl => hnl hl.places, rfl⟩, by simp⟩
 refine qrB hc hO hF hd (C0 := C) (μ0 := μ) (H0 := H) (w0 := w) (k := H.length) (ds := a.defers) (fun C' μ' w' a' g1 g2 g3 g4 => ?_) ops.size (Array.replicate ops.size false) (fr := F 0) (H := G 0) (by simp) ?_ (by rw [hlist]; exact p1) (by rw [hlist]; exact p2) (by rw [hlist]; intro j hj; simp [preD] at hj)
  (by rw [e1]; exact hf) (by rw [e2]; exact (hw.places _).heap rfl) (by rw [e2]; exact hx0) rfl
 ·rw [e3] at g1
  rw [e4] at g2 g3
  exact hq C' μ' w' a' g1 g2 g3 g4
 ·unfold unl
  have := List.countP_le_length (p := fun j => !(Array.replicate ops.size false).getD j true) (l := quK ops.size)
  simpa using this
variable {C C' C1 C2 : qd} {μ μ' μ1 : MMap} {H H' H1 H2 : AH} {w w' w1 : World} {P : Program}
section
variable {F : Fence} {n : Nat} {Q : Exit → Act → World → Prop} {a : Act} {b : Frame} {k : List Item} {cs : List Frame}
theorem yU {c : Code} : step P (lone (b.atR a (.code (.scope c) :: k)) cs w) = .next (lone (b.atR a (.code c :: .inScope c :: k)) cs w) :=
 step_lone_go (by simp [stepG, stepG.exec, Frame.atR])
theorem qi2 {c : Code} : step P (lone (b.atR a (.inScope c :: k)) cs w) = .next (lone (b.atR a k) cs w) :=
 step_lone_go (by simp [stepG, stepG.exec, Frame.atR])
theorem qmE {c : Code} (h : c.wpIn F n P Q a w) (hg : ∀ l a w, ¬ Q (.goto l) a w) : (Code.scope c).wpIn F n P Q a w := by
 intro b k cs hro hb hr
 have h0 : (lone (b.atR a (.code (.scope c) :: k)) cs w).fenced P F := fenced_calm hb hr rfl
 obtain ⟨e, a₁, w₁, hq, harr⟩ := h b (.inScope c :: k) cs hro hb hr
 cases e with
 | normal => exact ⟨.normal, a₁, w₁, hq, .head h0 yU (StepsIn.trans harr (.one (fenced_calm hb hr rfl) qi2))⟩
 | exit id =>
  have hx : exitTo id (.inScope c :: k) = exitTo id k := by simp [exitTo]
  exact ⟨.exit id, a₁, w₁, hq, fun k' hk => .head h0 yU (harr.1 k' (by rw [hx]; exact hk)),
   fun hr' hk => let ⟨k₁, h1, h2⟩ := harr.2 hr' (by rw [hx]; exact hk); ⟨k₁, h1, .head h0 yU h2⟩⟩
 | goto l => exact absurd hq (hg l _ _)
 | ret => exact ⟨_, a₁, w₁, hq, .of_steps (.one h0 yU) harr⟩
 | panic ch => exact ⟨_, a₁, w₁, hq, .of_steps (.one h0 yU) harr⟩
 | outgrown => exact ⟨_, a₁, w₁, hq, .of_steps (.one h0 yU) harr⟩
end
def mark (D : Nat) : Deferred := { target := .collected D, args := #[] }
def qbS (B : Nat) (μ : MMap) (H : AH) (w : World) (ds : List Deferred) : Prop :=
 B ≤ w.heap.size ∧ ∃ Ds : List Nat, ds = Ds.map mark ∧ Ds.Nodup ∧ ∀ D ∈ Ds, B ≤ D ∧ w.heap[D]? = some (.deferred (some [])) ∧ ¬ Live H μ D
theorem qbS.ext {B k : Nat} {ds : List Deferred} (h : qbS B μ H w ds) (hx : Ext k C μ H w C' μ' H' w') : qbS B μ' H' w' ds := by
 obtain ⟨hb, Ds, h1, h2, h3⟩ := h
 refine ⟨Nat.le_trans hb hx.size, Ds, h1, h2, fun D hD => ?_⟩
 obtain ⟨e1, e2, e3⟩ := h3 D hD
 obtain ⟨f1, f2, _⟩ := hx.fr D (Array.getElem?_eq_some_iff.1 e2).1 e3
 exact ⟨e1, by rw [f1]; exact e2, f2⟩
def Ex.to : Ex → Exit
 | .normal => .normal
 | .exit id => .exit id
 | .goto l => .goto l
 | .ret => .ret
def qal [Lent] (k B : Nat) (C : qd) (μ : MMap) (H : AH) (w : World) (r : Ex × List AV × AH) : Exit → Act → World → Prop := fun e a' w' =>
 e = r.1.to ∧ ∃ C' μ', qo C' μ' r.2.1 a'.tmps ∧ Wld C' μ' r.2.2 w' ∧ Ext k C μ H w C' μ' r.2.2 w' ∧ qbS B μ' r.2.2 w' a'.defers
theorem qal.mono [Lent] {k k' B : Nat} {r : Ex × List AV × AH} {e : Exit} {a' : Act} {w2 : World} (h : qal k' B C1 μ1 H1 w1 r e a' w2) (hx : Ext k C μ H w C1 μ1 H1 w1) (hk : k ≤ k') : qal k B C μ H w r e a' w2 := by
 obtain ⟨h1, C', μ', h2, h3, h4, h5⟩ := h
 exact ⟨h1, C', μ', h2, h3, hx.trans h4 hk, h5⟩
def RdOk (rd : Option Nat) (F : Fence) (μ : MMap) (k : Nat) : Prop :=
 match rd with
 | none => F = Fence.wide
 | some l => l < k ∧ ∃ m, μ l = some m ∧ F = Fence.wide.inRound m.block
theorem RdOk.wide {rd : Option Nat} {F : Fence} {k : Nat} (h : RdOk rd F μ k) : zo F := by
 cases rd with
 | none => exact .inl h
 | some l => obtain ⟨_, m, _, h⟩ := h; exact .inr ⟨_, h⟩
theorem RdOk.ext {rd : Option Nat} {F : Fence} {k k' : Nat} (h : RdOk rd F μ k) (hm : ∀ id m, id < k → μ id = some m → ∃ m', μ' id = some m' ∧ m.le m') (hk : k ≤ k') : RdOk rd F μ' k' := by
 cases rd with
 | none => exact h
 | some l => obtain ⟨h1, m, h2, h3⟩ := h; obtain ⟨m', e1, e2⟩ := hm l m h1 h2; exact ⟨by omega, m', e1, by rw [e2.1]; exact h3⟩
theorem qo.ext [Lent] {k : Nat} {fr : List AV} {t : Array Value} (h : qo C μ fr t) (hw : Wld C μ H w) (hx : Ext k C μ H w C' μ' H' w') (hk : H.length ≤ k) : qo C' μ' fr t :=
 h.monoG hx.cl fun id m hm => hx.mu id m (Nat.lt_of_lt_of_le (hw.dom id m hm) hk) hm
theorem qaL : ∀ {ts : List Tmp} {fr : List AV} {k : Nat}, (xF k ts fr).length = fr.length ∧ ∀ (i : Nat) a, (xF k ts fr)[i]? = some a → a = .junk ∨ fr[i]? = some a
 | _, [], _ => by simp [xF]
 | [], x :: fr, k => by
  have ih := qaL (ts := []) (fr := fr) (k := k)
  refine ⟨by simp [xF, ih.1], fun i a h => ?_⟩
  cases i with
  | zero => simp [xF] at h; exact .inl h.symm
  | succ i => simp [xF] at h; simpa using ih.2 i a h
 | t :: ts, x :: fr, k => by
  have ih1 := qaL (ts := ts) (fr := fr) (k := k + 1)
  have ih2 := qaL (ts := t :: ts) (fr := fr) (k := k + 1)
  rw [xF]
  split
  ·refine ⟨by simp [ih1.1], fun i a h => ?_⟩
   cases i with
   | zero => simp at h; subst h; exact .inr rfl
   | succ i => simpa using ih1.2 i a (by simpa using h)
  ·refine ⟨by simp [ih2.1], fun i a h => ?_⟩
   cases i with
   | zero => simp at h; exact .inl h.symm
   | succ i => simpa using ih2.2 i a (by simpa using h)
theorem zV [Lent] {ts : Option (List Tmp)} {fr : List AV} {t : Array Value} (h : qo C μ fr t) : qo C μ (vE ts fr) t := by
 cases ts with
 | none => exact h
 | some ks =>
  obtain ⟨h1, h2⟩ := qaL (ts := ks) (fr := fr) (k := 0)
  refine ⟨by show (xF 0 ks fr).length = _; rw [h1, h.1], fun i a v e1 e2 => ?_⟩
  rcases h2 i a e1 with rfl | e3
  ·exact .junk v
  ·exact h.2 i a v e3 e2
theorem qbI [Lent] : ∀ (ls : List (Tmp × Nat)) {H : AH} {fr : List AV} {tmps : Array Value}, Wld C μ H w → qo C μ fr tmps →
  Wld C μ (vt ls fr H).2 w ∧ qo C μ (vt ls fr H).1 tmps ∧ H.length ≤ (vt ls fr H).2.length ∧ ∀ j, j ≤ H.length → Ext j C μ H w C μ (vt ls fr H).2 w
 | [], H, fr, tmps, h, hf => ⟨h, hf, qum _, fun j hj => Ext.refl hj⟩
 | p :: l, H, fr, tmps, h, hf => by
  obtain ⟨a1, a2, a3, a4⟩ := qgm h hf p.1 p.2
  obtain ⟨b1, b2, b3, b4⟩ := qbI l a1 a2
  exact ⟨b1, b2, Nat.le_trans a3 b3, fun j hj => (a4 j hj).trans (b4 j (Nat.le_trans hj a3)) (qum _)⟩
theorem qlV [Lent] (h : Wld C μ H w) {fr : List AV} {tmps : Array Value} (hf : qo C μ fr tmps) (ts : Option (List Tmp)) (ls : List (Tmp × Nat)) (k : Nat) (hk : k ≤ H.length) :
  ∃ μ', Wld C μ' (x9 k ts ls fr H).2 w ∧ qo C μ' (x9 k ts ls fr H).1 tmps ∧ Ext k C μ H w C μ' (x9 k ts ls fr H).2 w := by
 obtain ⟨a1, a2, a3, a4⟩ := qbI ls h (zV (ts := ts) hf)
 obtain ⟨μ', g1, g2, g3⟩ := qfe a1 a2 k (Nat.le_trans hk a3)
 exact ⟨μ', g1, g2, (a4 k hk).trans g3 (qum _)⟩
theorem qa3 {α : Type} {g : Nat → Option α} {r : α} (h : lim g = some r) : ∃ n, g n = some r := by
 unfold lim at h
 split at h
 ·rename_i he
  cases h
  exact ⟨_, Classical.choose_spec (Classical.choose_spec he)⟩
 ·cases h
theorem qgk [Lent] {F : Fence} {k B : Nat} {ts : Option (List Tmp)} {ls : List (Tmp × Nat)} {body : Den} {c : Code} {rd : Option Nat} {r : Ex × List AV × AH} {C0 : qd} {μ0 : MMap} {H0 : AH} {w0 : World}
  (hbody : ∀ {fr : List AV} {H : AH} {q : Ex × List AV × AH}, body fr H = some q → ∀ {C : qd} {μ : MMap} {w : World} {a : Act}, k ≤ H.length → RdOk rd F μ k → qo C μ fr a.tmps → Wld C μ H w → qbS B μ H w a.defers → c.wpIn F 0 P (qal k B C μ H w q) a w)
  (hk : k ≤ H0.length) : ∀ (n : Nat) {p : List AV × AH}, xV k ts ls body n p = some r → ∀ {C : qd} {μ : MMap} {w : World} {a : Act}, k ≤ p.2.length → RdOk rd F μ k → qo C μ p.1 a.tmps → Wld C μ p.2 w → qbS B μ p.2 w a.defers →
   Ext k C0 μ0 H0 w0 C μ p.2 w → Code.roundsIn F 0 P c (qal k B C0 μ0 H0 w0 r) n a w
 | 0, p, h => by cases h
 | n + 1, p, h => by
  intro hkl hrd hf hw hm hx
  rw [xV] at h
  obtain ⟨q, hq, h⟩ := quf.1 h
  refine wpIn_mono (hbody hq hkl hrd hf hw hm) fun e a' w' hp => ?_
  obtain ⟨he, C', μ'', p1, p2, p3, p4⟩ := hp
  have hx' := hx.trans p3 (qum _)
  cases hq1 : q.1 with
  | normal =>
   rw [hq1] at he h
   subst he
   obtain ⟨μ', g1, g2, g3⟩ := qlV p2 p1 ts ls k hx'.len
   exact qgk hbody hk n h g3.len ((hrd.ext p3.mu (qum _)).ext g3.mu (qum _)) g2 g1 (p4.ext g3) (hx'.trans g3 (qum _))
  | exit id =>
   rw [hq1] at he h
   cases h
   subst he
   exact ⟨rfl, C', μ'', p1, p2, hx', p4⟩
  | goto l =>
   rw [hq1] at he h
   cases h
   subst he
   exact ⟨rfl, C', μ'', p1, p2, hx', p4⟩
  | ret =>
   rw [hq1] at he h
   cases h
   subst he
   exact ⟨rfl, C', μ'', p1, p2, hx', p4⟩
variable {C C' C1 C2 : qd} {μ μ' μ1 : MMap} {H H' H1 H2 : AH} {w w' w1 : World} {P : Program}
structure OracOk2 [Lent] (cfg : Cfg) (cf : Orac) : Prop where
 calls : qaf cfg cf
 enters : ∀ h args H r, cf (.f h) args H = some r → cfg.ext h = none → ∀ vs w, (callFunc h vs).run cfg.P w = .ok (.enter h vs) w
theorem qrr [Lent] (h : Wld C μ H w) {f : Nat} {fr : List AV} {assign body : Code} {ps : Array Tmp} {fn : FuncId} {tmps : Array Value} {dblk : Nat} (hf : qo C μ fr tmps) (hs : w.heap.size < w1.heap.size)
  (hold : ∀ b, b < w.heap.size → w1.heap[b]? = w.heap[b]?) {l : Nat} (hl : w.heap.size ≤ l)
  (hnew : w1.heap[l]? = some (.loop { state := .ready, pending := none, fn, tmps, params := ps, assign, body, defers := dblk })) (ho : w1.os = w.os) (ht : w1.tape = w.tape) (hu : w1.output = w.output) :
  Wld C (upd μ H.length (MI.mk4 l 0 0 0)) (H ++ [.loop f fr ps.toList assign body none .ready]) w1 ∧ Ext H.length C μ H w C (upd μ H.length (MI.mk4 l 0 0 0)) (H ++ [.loop f fr ps.toList assign body none .ready]) w1 ∧
   (∀ id m, μ id = some m → upd μ H.length (MI.mk4 l 0 0 0) id = some m) ∧ (∀ b, Live (H ++ [.loop f fr ps.toList assign body none .ready]) (upd μ H.length (MI.mk4 l 0 0 0)) b → Live H μ b ∨ b = l) := by
 have hll : l < w1.heap.size := (Array.getElem?_eq_some_iff.1 hnew).1
 have hw1 : Wld C μ H w1 := h.world (by omega) (fun b hb => hold b hb)
 have hmu : ∀ id m, μ id = some m → upd μ H.length (MI.mk4 l 0 0 0) id = some m := by
  intro id m hm
  have := h.dom id m hm
  unfold upd
  rw [if_neg (by omega)]; exact hm
 obtain ⟨n1, n2, n3, n4, n5⟩ := hw1.new4 (nid := none) (k := H.length) (blk := .loop f fr ps.toList assign body none .ready) (H' := H ++ [.loop f fr ps.toList assign body none .ready]) (B := l) (b0 := 0) (n0 := 0) (z0 := 0) rfl (fun hl' => by have := h.live_lt hl'; omega) hll
  (fun o => by
   cases hc : C l o with
   | none => rfl
   | some v => have := h.block_lt hc; omega) (h.lent_none hl) rfl ⟨_, hnew, rfl, rfl, rfl, rfl, rfl, hf.mono (fun _ _ _ h => h) hmu⟩
 refine ⟨n1, ⟨ho, ht, hu, by omega, fun _ _ _ h => h, fun id m _ hm => ⟨_, hmu id m hm, .refl _⟩, fun b hb hnl => ⟨hold b hb, fun hl' => ?_, rfl⟩, n3⟩, hmu, n4⟩
 rcases n4 b hl' with h1 | h1
 ·exact hnl h1
 ·omega
theorem qhG [Lent] {cfg : Cfg} {cf : Orac} (hO : OracOk2 cfg cf) {F : Fence} {rd : Option Nat} {f B k : Nat} {g : Operand} {ps : Array Tmp} {assign body : Code} {fr : List AV} {r : Ex × List AV × AH} {a : Act}
  (he : zy cfg cf f rd k g ps assign body fr H = some r) (hk : k ≤ H.length) (hrd : RdOk rd F μ k) (hf : qo C μ fr a.tmps) (hw : Wld C μ H w) (hm : qbS B μ H w a.defers) :
  (Code.rangeFunc g ps assign body).wpIn F 0 cfg.P (qal k B C μ H w r) a w := by
 have hrd := hrd.ext (fun _ _ _ h => ⟨_, h, .refl _⟩) hk
 unfold zy at he
 split at he
 case isFalse => cases he
 rename_i hrl
 split at he
 case h_2 => cases he
 rename_i h first caps hg
 split at he
 case isTrue => cases he
 rename_i hext
 have hext : cfg.ext h = none := by
  cases hh : cfg.ext h with
  | none => rfl
  | some s => rw [hh] at hext; simp at hext
 obtain ⟨q, hq, he⟩ := quf.1 he
 have hgr := qa2 hf g
 rw [hg] at hgr
 generalize hgv : a.eval g = gv at hgr
 cases hgr with
 | fn _ _ _ vf vc hl1 hl2 h1 h2 =>
 refine wpIn_rangeFunc fun fn hfn => ?_
 have hwide := hrd.wide
 have hmf : qo C μ (vE (cfg.keepIn f (qg body)) fr) a.tmps := zV hf
 -- what lies behind the loop
 have core : ∀ (l : Nat) (ms : List Deferred) (w1 : World) (dblk : Nat), w.heap.size < w1.heap.size → (∀ b, b < w.heap.size → w1.heap[b]? = w.heap[b]?) → w.heap.size ≤ l →
   w1.heap[l]? = some (.loop { state := .ready, pending := none, fn, tmps := a.tmps, params := ps, assign, body, defers := dblk }) → w1.os = w.os → w1.tape = w.tape → w1.output = w.output →
   (ms = [] ∨ ∃ D, ms = [mark D] ∧ w.heap.size ≤ D ∧ D ≠ l ∧ w1.heap[D]? = some (.deferred (some []))) →
   CallsIn F (0 - 1) cfg.P h (vf.toArray ++ #[.func (.yield l) #[] #[]] ++ vc.toArray) w1 (rangePost F 0 cfg.P l (qal k B C μ H w r) { a with defers := ms ++ a.defers }) := by
  intro l ms w1 dblk hs hold hl hnew ho ht hu hms
  obtain ⟨g1, g2, g3, g4⟩ := qrr (f := f) hw hmf hs hold hl hnew ho ht hu
  have hargs : qo C (upd μ H.length (MI.mk4 l 0 0 0)) (first ++ [.yld H.length] ++ caps) (vf.toArray ++ #[.func (.yield l) #[] #[]] ++ vc.toArray) := by
   refine ⟨by simp [hl1, hl2], fun i x v e1 e2 => ?_⟩
   rw [← Array.getElem?_toList] at e2
   simp only [Array.toList_append] at e2
   rcases Nat.lt_or_ge i (first.length + 1) with hlt | hge
   ·rw [qup (by simpa using hlt)] at e1
    rw [qup (by first | omega | (simp; omega))] at e2
    rcases Nat.lt_or_ge i first.length with hlt' | hge'
    ·rw [qup hlt'] at e1
     rw [qup (by first | omega | (simp; omega))] at e2
     exact (h1 i x v e1 (by simpa using e2)).mono (fun _ _ _ h => h) g3
    ·have hi : i = first.length := by omega
     subst hi
     rw [qut (qum _)] at e1
     rw [qut (by first | omega | (simp; omega))] at e2
     simp [hl1] at e1 e2
     subst e1; subst e2
     exact .yld H.length (MI.mk4 l 0 0 0) (by unfold upd; rw [if_pos rfl])
   ·rw [qut (by simpa using hge)] at e1
    rw [qut (by first | omega | (simp; omega))] at e2
    have : i - (vf.toArray.toList ++ #[Value.func (.yield l) #[] #[]].toList).length = i - (first ++ [AV.yld H.length]).length := by simp [hl1]
    rw [this] at e2
    exact (h2 _ x v e1 (by simpa using e2)).mono (fun _ _ _ h => h) g3
  have hcall := hO.calls _ _ _ _ _ hq C _ w1 _ _ hargs g1 rfl
  unfold vP at hcall
  rw [hO.enters _ _ _ _ hq hext] at hcall
  refine hwide.calls (hcall.mono fun e w3 hp => ?_)
  obtain ⟨v, rfl, C3, μ3, p1, p2, p3⟩ := hp
  have hle : H.length < (H ++ [ABlk.loop f (vE (cfg.keepIn f (qg body)) fr) ps.toList assign body none .ready]).length := by simp
  obtain ⟨⟨l', b0, s0, z0, D0⟩, hm3, hbl3, -⟩ := p3.mu H.length (MI.mk4 l 0 0 0) hle (by unfold upd; rw [if_pos rfl])
  have hbl3 : l = l' := (show l' = l from hbl3).symm
  subst hbl3
  split at he
  case h_2 => cases he
  rename_i lf lfr lps lassign lbody pend st hlq
  split at he
  case h_1 => cases he
  rename_i hst
  obtain ⟨e2, e3, rc, e4, e5, e6, _⟩ := p2.liveM hlq rfl hm3
  simp only at e4
  have hend := run_endLoop (P := cfg.P) e4 (by rw [e5]; exact hst)
  refine ⟨rc.pending, _, hend, ?_⟩
  -- the world behind it
  have hkill : Wld C3 μ3 (q.2.set H.length .dead) (w3.putObj l (.loop { rc with state := .exhausted })) := by
   refine (p2.kill H.length (by rw [hlq]; simp)).worldG (by simp) (fun b hb hor => ?_)
   refine World.putObj_heap_other fun hbl => ?_
   subst hbl
   rcases hor with hl' | ⟨o, hc'⟩ | ⟨o, hc'⟩
   ·obtain ⟨_, hl''⟩ := hl'.of_kill
    exact hl'' _ hm3 (fun id' b' m' i1 i2 i3 i4 i5 => i4 (p2.inj _ _ _ _ _ _ i1 hlq i2 rfl i3 hm3 _ i5 (.inl rfl))) rfl
   ·exact hc' (e3 o)
   ·exact hc' ((p2.liveH hlq rfl hm3 _ (.inl rfl)).2.2.1 o)
  have hf3 : qo C3 μ3 (vE (cfg.keepOut f (qg body)) fr) a.tmps := (zV hf).monoG p3.cl (fun id m hm => p3.mu id m (by have := hw.dom id m hm; simp; omega) (g3 id m hm))
  obtain ⟨μ4, k1, k2, k3⟩ := qfe hkill hf3 k (by simp; have := p3.len; simp at this; omega)
  have hx1 : Ext H.length C μ H w C3 μ3 q.2 w3 := g2.trans p3 (by simp)
  have hx : Ext k C μ H w C3 μ4 (gc k (vE (cfg.keepOut f (qg body)) fr) (q.2.set H.length .dead)).2 (w3.putObj l (.loop { rc with state := .exhausted })) := by
   refine ⟨hx1.os, hx1.tape, hx1.output, by have := hx1.size; simpa using this, hx1.cl, fun id m hid hm => let ⟨m1, f1, f2⟩ := hx1.mu id m (by omega) hm; let ⟨m2, f3, f4⟩ := k3.mu id m1 hid f1; ⟨m2, f3, f2.trans f4⟩, fun b hb hnl => ?_, k3.len⟩
   obtain ⟨f1, f2, f3⟩ := hx1.fr b hb hnl
   refine ⟨by rw [World.putObj_heap_other (by omega)]; exact f1, fun hl' => ?_, f3⟩
   have hb3 : b < (w3.putObj l (.loop { rc with state := .exhausted })).heap.size := by have := hx1.size; simp; omega
   exact (k3.fr b hb3 (fun hl'' => f2 hl''.of_kill.1)).2.1 hl'
  have hmarks : qbS B μ4 (gc k (vE (cfg.keepOut f (qg body)) fr) (q.2.set H.length .dead)).2 (w3.putObj l (.loop { rc with state := .exhausted })) (ms ++ a.defers) := by
   obtain ⟨hb, Ds, d1, d2, d3⟩ := hm.ext hx
   have hB : B ≤ w.heap.size := hm.1
   obtain ⟨_, Ds', d1', _, d3'⟩ := hm
   have hinj : Ds.map mark = Ds'.map mark := by rw [← d1, ← d1']
   have hDs : Ds = Ds' := by
    have : ∀ (x y : List Nat), x.map mark = y.map mark → x = y := by
     intro x
     induction x with
     | nil => intro y h; cases y with
      | nil => rfl
      | cons => simp at h
     | cons a x ih =>
      intro y h
      cases y with
      | nil => simp at h
      | cons b y =>
       simp only [List.map_cons, List.cons.injEq] at h
       obtain ⟨h1, h2⟩ := h
       have : a = b := by unfold mark at h1; cases h1; rfl
       rw [this, ih y h2]
    exact this _ _ hinj
   rcases hms with rfl | ⟨D, rfl, hD1, hD2, hD3⟩
   ·exact ⟨hb, Ds, d1, d2, d3⟩
   ·have hDlt : D < w1.heap.size := (Array.getElem?_eq_some_iff.1 hD3).1
    have hDl1 : ¬ Live (H ++ [ABlk.loop f (vE (cfg.keepIn f (qg body)) fr) ps.toList assign body none .ready]) (upd μ H.length (MI.mk4 l 0 0 0)) D := by
     intro hl'
     rcases g4 D hl' with h | h
     ·have := hw.live_lt h; omega
     ·exact hD2 h
    obtain ⟨f1, f2, _⟩ := p3.fr D hDlt hDl1
    refine ⟨hb, D :: Ds, by simp [d1], List.nodup_cons.2 ⟨fun hmem => ?_, d2⟩, fun D' hD' => ?_⟩
    ·rw [hDs] at hmem
     have := (Array.getElem?_eq_some_iff.1 (d3' D hmem).2.1).1
     omega
    ·rcases quH.1 hD' with rfl | hmem
     ·refine ⟨by omega, by rw [World.putObj_heap_other hD2, f1]; exact hD3, fun hl' => ?_⟩
      have hb3 : D' < (w3.putObj l (.loop { rc with state := .exhausted })).heap.size := by have := p3.size; simp; omega
      exact (k3.fr D' hb3 (fun hl'' => f2 hl''.of_kill.1)).2.1 hl'
     ·exact d3 D' hmem
  have fin : ∀ e, r = (e, gc k (vE (cfg.keepOut f (qg body)) fr) (q.2.set H.length .dead)) → qal k B C μ H w r e.to { a with defers := ms ++ a.defers } (w3.putObj l (.loop { rc with state := .exhausted })) := by
   intro e hr
   subst hr
   exact ⟨rfl, C3, μ4, k2, k1, hx, hmarks⟩
  rw [e6] at fin ⊢
  split at he
  ·cases he; exact fin .normal rfl
  ·cases he; exact wpIn_ret (fin .ret rfl)
  ·rename_i x; cases he; exact wpIn_exit (fin (.exit x) rfl)
  ·cases he
 have hres : ∀ l w, (resolve a.eval (rangeCall g l) 0).run cfg.P w = .ok { target := .fn (.func h) vc.toArray, args := vf.toArray ++ #[.func (.yield l) #[] #[]] } w := by
  intro l w
  rw [qeo (f := g) rfl, hgv]
  simp [Deferred.ofValue, Act.eval]
 have hinv : ∀ l w, (invoke (.fn (.func h) vc.toArray) (vf.toArray ++ #[.func (.yield l) #[] #[]])).run cfg.P w = .ok (.enter h (vf.toArray ++ #[.func (.yield l) #[] #[]] ++ vc.toArray)) w := by
  intro l w
  rw [invoke]
  exact hO.enters _ _ _ _ hq hext _ w
 have hdep : F.depth.isSome = true → 1 ≤ 0 := fun hh => by rw [hwide.depth] at hh; simp at hh
 cases rd with
 | none =>
  have hFw : F = Fence.wide := hrd
  have hro : F.round = none := by rw [hFw]; rfl
  rw [hro]
  refine ⟨w.heap.size + 1, [mark w.heap.size], _, _, _, h, _, _, run_enterLoop_outer fn a.tmps ps assign body, hres _ _, fun f' _ => hwide.fn f', hinv _ _, hdep, ?_⟩
  refine core (w.heap.size + 1) [mark w.heap.size] _ w.heap.size (by simp; omega) (fun b hb => ?_) (by omega) ?_ rfl rfl rfl (.inr ⟨w.heap.size, rfl, qum _, by omega, ?_⟩)
  ·show ((w.heap.push _).push _)[b]? = _
   rw [Array.getElem?_push, if_neg (by simp; omega), Array.getElem?_push, if_neg (by omega)]
  ·show ((w.heap.push _).push _)[w.heap.size + 1]? = _
   rw [Array.getElem?_push, if_pos (by simp)]
  ·show ((w.heap.push _).push _)[w.heap.size]? = _
   rw [Array.getElem?_push, if_neg (by simp), Array.getElem?_push, if_pos rfl]
 | some l0 =>
  obtain ⟨hl0, m0, hm0, hFr⟩ := hrd
  have hro : F.round = some m0.block := by rw [hFr]; rfl
  rw [hro]
  unfold qlp at hrl
  simp only at hrl
  split at hrl
  case h_2 => cases hrl
  rename_i hb0
  obtain ⟨i2, i3, r0, i4, _⟩ := hw.liveM hb0 rfl hm0
  refine ⟨w.heap.size, [], _, _, _, h, _, _, run_enterLoop_inner i4 fn a.tmps ps assign body, hres _ _, fun f' _ => hwide.fn f', hinv _ _, hdep, ?_⟩
  refine core w.heap.size [] _ r0.defers (by simp) (fun b hb => ?_) (qum _) ?_ rfl rfl rfl (.inl rfl)
  ·show (w.heap.push _)[b]? = _
   rw [Array.getElem?_push, if_neg (by omega)]
  ·show (w.heap.push _)[w.heap.size]? = _
   rw [Array.getElem?_push, if_pos rfl]
variable {C C' C1 C2 : qd} {μ μ' μ1 : MMap} {H H' H1 H2 : AH} {w w' w1 : World} {P : Program}
theorem qbh {D : List Nat} {i : Nat} {o : Oper} : ∀ (l : List Oper) (k : Nat), (i, o) ∈ y3 D k l ↔ k ≤ i ∧ l[i - k]? = some o ∧ D.any (qun i) = false ∧ rdyB D o = true
 | [], k => by simp [y3]
 | o' :: l, k => by
  have ih := qbh (D := D) (i := i) (o := o) l (k + 1)
  rw [y3]
  by_cases e : i = k
  ·subst e
   have hno : ¬ (i, o) ∈ y3 D (i + 1) l := fun h => by have := (ih.1 h).1; omega
   split
   ·rename_i h
    simp only [que, Bool.not_eq_true'] at h
    simp only [quH, Prod.mk.injEq, true_and, hno, or_false, qum, Nat.sub_self, List.getElem?_cons_zero, Option.some.injEq]
    constructor
    ·intro e; subst e; exact ⟨rfl, h.1, h.2⟩
    ·intro e; exact e.1.symm
   ·rename_i h
    simp only [que, Bool.not_eq_true'] at h
    simp only [hno, false_iff, qum, Nat.sub_self, List.getElem?_cons_zero, Option.some.injEq, true_and]
    intro e
    obtain ⟨rfl, e2⟩ := e
    exact h e2
  ·have hs : ∀ (x : Oper), (k ≤ i ∧ (x :: l)[i - k]? = some o ∧ D.any (qun i) = false ∧ rdyB D o = true) ↔ (k + 1 ≤ i ∧ l[i - (k + 1)]? = some o ∧ D.any (qun i) = false ∧ rdyB D o = true) := by
    intro x
    constructor
    ·rintro ⟨h1, h2, h3⟩
     have : i - k = (i - (k + 1)) + 1 := by omega
     rw [this, quF] at h2
     exact ⟨by omega, h2, h3⟩
    ·rintro ⟨h1, h2, h3⟩
     have : i - k = (i - (k + 1)) + 1 := by omega
     rw [this, quF]
     exact ⟨by omega, h2, h3⟩
   rw [hs o', ← ih]
   split
   ·simp only [quH, Prod.mk.injEq, e, false_and, false_or]
   ·rfl
theorem qcW {ops : Array Oper} {listed : Array Bool} {D : List Nat} (hs : listed.size = ops.size) (hD : ∀ j, listed.getD j false = D.any (qun j)) (i : Nat) : i ∈ Region.ready .any ops listed ↔ ∃ o, (i, o) ∈ y3 D 0 ops.toList := by
 rw [mem_ready]
 constructor
 ·rintro ⟨h1, o, h2, h3⟩
  have hlt : i < ops.size := (Array.getElem?_eq_some_iff.1 h2).1
  refine ⟨o, (qbh _ _).2 ⟨Nat.zero_le _, by rw [Nat.sub_zero, Array.getElem?_toList]; exact h2, ?_, ?_⟩⟩
  ·rw [← hD, ← qbY (by omega)]; exact h1
  ·unfold rdyB
   rw [List.all_eq_true]
   intro e he
   cases hb : Region.binds .any e with
   | false => simp
   | true => rw [← hD, h3 e (Array.mem_toList_iff.1 he) hb]; rfl
 ·rintro ⟨o, h⟩
  obtain ⟨_, h2, h3, h4⟩ := (qbh _ _).1 h
  rw [Nat.sub_zero, Array.getElem?_toList] at h2
  have hlt : i < ops.size := (Array.getElem?_eq_some_iff.1 h2).1
  refine ⟨by rw [qbY (by omega), hD]; exact h3, o, h2, fun e he hb => ?_⟩
  unfold rdyB at h4
  have := List.all_eq_true.1 h4 e (Array.mem_toList_iff.2 he)
  rw [hb] at this
  rw [hD]
  simpa using this
theorem qiw {F : Nat → List AV → AH → Option (List (List AV × AH))} {G : Nat → Oper → Option (List AV × AH)} : ∀ {l : List (Nat × Oper)} {L : List (List AV × AH)}, qdv F G l = some L → ∀ p ∈ l, ∃ q L1, G p.1 p.2 = some q ∧ F p.1 q.1 q.2 = some L1 ∧ ∀ x ∈ L1, x ∈ L
 | [], _, _, p, hp => by cases hp
 | x :: l, L, h, p, hp => by
  rw [qdv] at h
  obtain ⟨q, h1, h⟩ := quf.1 h
  obtain ⟨L1, h2, h⟩ := quf.1 h
  obtain ⟨L2, h3, e⟩ := quk.1 h
  subst e
  rcases quH.1 hp with rfl | hp
  ·exact ⟨q, L1, h1, h2, fun x hx => List.mem_append_left _ hx⟩
  ·obtain ⟨q', L1', g1, g2, g3⟩ := qiw h3 p hp
   exact ⟨q', L1', g1, g2, fun x hx => List.mem_append_right _ (g3 x hx)⟩
theorem qqJ [Lent] {cfg : Cfg} (hc : CfgTy cfg) {cf : Orac} (hO : qaf cfg cf) {Fn : Fence} (hF : zo Fn) {f rid : Nat} {ops : Array Oper} {Q : Exit → Act → World → Prop} {C0 : qd} {μ0 : MMap} {H0 : AH} {w0 : World} {k : Nat} {ds : List Deferred} :
  ∀ (n : Nat) (D : List Nat) (listed : Array Bool) {fr : List AV} {H : AH} {L : List (List AV × AH)} {C : qd} {μ : MMap} {w : World} {a : Act}, qaV cfg cf f rid ops n D fr H = some L → listed.size = ops.size → (∀ j, listed.getD j false = D.any (qun j)) →
   qo C μ fr a.tmps → Wld C μ H w → Ext k C0 μ0 H0 w0 C μ H w → a.defers = ds →
   (∀ q ∈ L, ∀ C μ w a, qo C μ q.1 a.tmps → Wld C μ q.2 w → Ext k C0 μ0 H0 w0 C μ q.2 w → a.defers = ds → Q .normal a w) → wpAnyIn Fn 0 cfg.P .any ops Q n listed a w := by
 have hnil : ∀ {D : List Nat} {listed : Array Bool}, listed.size = ops.size → (∀ j, listed.getD j false = D.any (qun j)) → ((y3 D 0 ops.toList).isEmpty = true ↔ Region.ready .any ops listed = []) := by
  intro D listed hs hD
  constructor
  ·intro h
   rw [List.isEmpty_iff] at h
   refine List.eq_nil_iff_forall_not_mem.2 fun i hi => ?_
   obtain ⟨o, ho⟩ := (qcW hs hD i).1 hi
   rw [h] at ho; cases ho
  ·intro h
   rw [List.isEmpty_iff]
   refine List.eq_nil_iff_forall_not_mem.2 fun p hp => ?_
   have := (qcW hs hD p.1).2 ⟨p.2, hp⟩
   rw [h] at this; cases this
 intro n
 induction n with
 | zero =>
  intro D listed fr H L C μ w a he hs hD hf hw hx hds hL
  rw [qaV] at he
  split at he
  ·rename_i h
   cases he
   exact ⟨(hnil hs hD).1 h, hL _ (List.mem_singleton.2 rfl) C μ w a hf hw hx hds⟩
  ·cases he
 | succ n ih =>
  intro D listed fr H L C μ w a he hs hD hf hw hx hds hL
  rw [qaV] at he
  split at he
  ·rename_i h
   cases he
   have hr := (hnil hs hD).1 h
   exact ⟨fun _ => hL _ (List.mem_singleton.2 rfl) C μ w a hf hw hx hds, fun i hi => by rw [hr] at hi; cases hi⟩
  ·rename_i h
   refine ⟨fun hr => absurd ((hnil hs hD).2 hr) h, fun i hi => ?_⟩
   obtain ⟨o, ho⟩ := (qcW hs hD i).1 hi
   obtain ⟨q, L1, g1, g2, g3⟩ := qiw he _ ho
   obtain ⟨_, h2, _, _⟩ := (qbh _ _).1 ho
   rw [Nat.sub_zero, Array.getElem?_toList] at h2
   have hlt : i < ops.size := (Array.getElem?_eq_some_iff.1 h2).1
   have hD' : ∀ j, (listed.setIfInBounds i true).getD j false = (i :: D).any (qun j) := by
    intro j
    have := congrFun (qlY listed (i := i) (by omega)) j
    rw [this]
    by_cases e : j = i
    ·subst e; rw [qcM]; simp
    ·rw [qb1 e, hD]
     have : qun j i = false := by rw [← Bool.not_eq_true]; intro h'; exact e (qui h')
     simp [this]
   simp only at g1 g2
   unfold qix at g1
   obtain ⟨b, hb, g1⟩ := quf.1 g1
   have hwan := qb7 hf hb
   unfold wpOpIn
   simp only [h2]
   cases b with
   | true =>
    rw [if_pos hwan]
    simp only [if_true] at g1
    obtain ⟨r, e1, e⟩ := quk.1 g1
    subst e
    refine qeX hF ((qco hc hO (qa2 hf) hw e1).mono fun v w1 ⟨C1, μ1, p1, p2, p3⟩ => ?_)
    have hf1 : qo C1 μ1 fr a.tmps := hf.monoG p3.cl (fun id m hm => p3.mu id m (hw.dom id m hm) hm)
    exact ih (i :: D) _ g2 (by simpa using hs) hD' (qa1 hf1 p1) p2 (hx.trans p3 hx.len) (by rw [zU]; exact hds) fun q hq => hL q (g3 q hq)
   | false =>
    rw [if_neg (by rw [hwan]; simp)]
    simp only [quo, if_false] at g1
    cases g1
    exact ⟨fun f _ => hF.fn f, ih (i :: D) _ g2 (by simpa using hs) hD' (qa1 hf qeN) hw hx (by rw [zU]; exact hds) fun q hq => hL q (g3 q hq)⟩
theorem qo9 [Lent] {cfg : Cfg} (hc : CfgTy cfg) {cf : Orac} (hO : qaf cfg cf) (hm : cfg.P.follows .mixedOrders = true) {Fn : Fence} (hF : zo Fn) {f rid : Nat} {ops : Array Oper} {fr : List AV} {L : List (List AV × AH)} {a : Act}
  (he : qaV cfg cf f rid ops ops.size [] fr H = some L) (hf : qo C μ fr a.tmps) (hw : Wld C μ H w) {Q : Exit → Act → World → Prop}
  (hq : ∀ q ∈ L, ∀ C' μ' w' a', qo C' μ' q.1 a'.tmps → Wld C' μ' q.2 w' → Ext H.length C μ H w C' μ' q.2 w' → a'.defers = a.defers → Q .normal a' w') : (Code.region rid ops true).wpIn Fn 0 cfg.P Q a w := by
 refine wpIn_region_any hm ?_
 refine qqJ hc hO hF (C0 := C) (μ0 := μ) (H0 := H) (w0 := w) (k := H.length) (ds := a.defers) ops.size [] _ he (by simp) (fun j => ?_) hf (hw.heap rfl) ?_ rfl hq
 ·rw [Array.getD_eq_getD_getElem?]
  rcases Nat.lt_or_ge j ops.size with h | h
  ·simp [h]
  ·simp [h]
 ·exact ⟨rfl, rfl, rfl, qum _, fun _ _ _ h => h, fun _ _ _ h => ⟨_, h, .refl _⟩, fun b _ hnl => ⟨rfl, fun hl => hnl hl, rfl⟩, qum _⟩
theorem qil [Lent] {tmps : Array Value} : ∀ (ts : List Tmp) {fr : List AV}, qo C μ fr tmps → qo C μ (qim ts fr) tmps
 | [], _, h => h
 | t :: ts, fr, h => by
  have : qim (t :: ts) fr = qim ts (fr.set t .junk) := rfl
  rw [this]
  exact qil ts (h.setA fun v _ => .junk v)
theorem qdf {c : Code} {p : Nat × Array Oper} (h : qcs c = some p) : c = .region p.1 p.2 true ∧ qjl p.2 = true := by
 unfold qcs at h
 split at h
 ·split at h
  ·rename_i h1
   cases h
   exact ⟨rfl, h1⟩
  ·cases h
 ·cases h
theorem qfl [Lent] {cfg : Cfg} (hc : CfgTy cfg) {cf : Orac} (hO : OracOk2 cfg cf) (hmx : cfg.P.follows .mixedOrders = true) {F : Fence} {rd : Option Nat} {f B k : Nat} : ∀ (c : Code) {fr : List AV} {H : AH} {r : Ex × List AV × AH}, evC cfg cf f rd k c fr H = some r →
  ∀ {C : qd} {μ : MMap} {w : World} {a : Act}, k ≤ H.length → RdOk rd F μ k → qo C μ fr a.tmps → Wld C μ H w → qbS B μ H w a.defers → c.wpIn F 0 cfg.P (qal k B C μ H w r) a w := by
 intro c
 induction c with
 | skip =>
  intro fr H r he C μ w a hk hrd hf hw hm
  rw [evC.eq_def] at he; simp only at he; cases he
  exact wpIn_skip ⟨rfl, C, μ, hf, hw, Ext.refl hk, hm⟩
 | label l =>
  intro fr H r he C μ w a hk hrd hf hw hm
  rw [evC.eq_def] at he; simp only at he; cases he
  exact wpIn_label ⟨rfl, C, μ, hf, hw, Ext.refl hk, hm⟩
 | exit id =>
  intro fr H r he C μ w a hk hrd hf hw hm
  rw [evC.eq_def] at he; simp only at he; cases he
  exact wpIn_exit ⟨rfl, C, μ, hf, hw, Ext.refl hk, hm⟩
 | ret =>
  intro fr H r he C μ w a hk hrd hf hw hm
  rw [evC.eq_def] at he; simp only at he; cases he
  exact wpIn_ret ⟨rfl, C, μ, hf, hw, Ext.refl hk, hm⟩
 | goto l =>
  intro fr H r he
  rw [evC.eq_def] at he; simp only at he; cases he
 | refuse s =>
  intro fr H r he
  rw [evC.eq_def] at he; simp only at he; cases he
 | region id ops draw =>
  intro fr H r he C μ w a hk hrd hf hw hm
  rw [evC.eq_def] at he
  simp only at he
  have fin : ∀ (fr' : List AV) (H' : AH) C' μ' w' (a' : Act), qo C' μ' fr' a'.tmps → Wld C' μ' H' w' → Ext H.length C μ H w C' μ' H' w' → a'.defers = a.defers → qal k B C μ H w (.normal, fr', H') .normal a' w' :=
   fun fr' H' C' μ' w' a' g1 g2 g3 g4 => ⟨rfl, C', μ', g1, g2, g3.less hk, by rw [g4]; exact hm.ext g3⟩
  cases draw with
  | true =>
   simp only [if_true] at he
   split at he
   case isFalse => cases he
   rename_i hst
   obtain ⟨q, hq, he⟩ := quf.1 he
   split at he
   case isFalse => cases he
   rename_i hdy
   obtain ⟨fps, fr', H'⟩ := q
   cases he
   exact qo6 hc hO.calls hmx hrd.wide hst hq hdy hf hw (fin fr' H')
  | false =>
   simp only [quo, if_false] at he
   obtain ⟨q, hq, e⟩ := quk.1 he
   obtain ⟨fr', H'⟩ := q
   cases e
   refine wpIn_region ?_
   have := qdd hc hO.calls hrd.wide (Q := qal k B C μ H w (.normal, fr', H')) ops.toList 0 hq (fun i => by rw [Array.getElem?_toList, Nat.zero_add]) hf hw (fin fr' H')
   rw [List.range_eq_range']
   simpa using this
 | seq x y ihx ihy =>
  intro fr H r he C μ w a hk hrd hf hw hm
  rw [evC.eq_def] at he
  simp only at he
  split at he
  case h_1 p hp =>
   obtain ⟨rfl, _⟩ := qdf hp
   obtain ⟨L, hL, he⟩ := quf.1 he
   refine wpIn_seq (qo9 hc hO.calls hmx hrd.wide hL hf hw fun q hq C1 μ1 w1 a1 g1 g2 g3 g4 => ?_)
   obtain ⟨q2, hq2, e⟩ := quk.1 (qmS he q hq)
   subst e
   have h4 := g3.less hk
   refine wpIn_mono (ihy hq2 h4.len (hrd.ext h4.mu (qum _)) (zV g1) g2 (by rw [g4]; exact hm.ext g3)) fun e' a2 w2 hp2 => ?_
   obtain ⟨p1, C2, μ2, p2, p3, p4, p5⟩ := qal.mono hp2 h4 (qum _)
   obtain ⟨μ3, r1, r2, r3⟩ := qfe p3 (qil (dsts (.region p.1 p.2 true) ++ dsts y) p2) k p4.len
   exact ⟨p1, C2, μ3, r2, r1, p4.trans r3 (qum _), p5.ext r3⟩
  obtain ⟨q, hq, he⟩ := quf.1 he
  refine wpIn_seq (wpIn_mono (ihx hq hk hrd hf hw hm) fun e a1 w1 hp => ?_)
  cases hq1 : q.1 with
  | normal =>
   obtain ⟨h1, C1, μ1, h2, h3, h4, h5⟩ := hp
   rw [hq1] at h1 he
   subst h1
   refine wpIn_mono (ihy he h4.len (hrd.ext h4.mu (qum _)) (zV h2) h3 h5) fun e' a2 w2 hp2 => hp2.mono h4 (qum _)
  | exit id =>
   rw [hq1] at he
   cases he
   have : e = .exit id := by rw [hp.1, hq1]; rfl
   subst this
   exact ⟨rfl, hp.2⟩
  | goto l =>
   rw [hq1] at he
   cases he
   have : e = .goto l := by rw [hp.1, hq1]; rfl
   subst this
   exact ⟨rfl, hp.2⟩
  | ret =>
   rw [hq1] at he
   cases he
   have : e = .ret := by rw [hp.1, hq1]; rfl
   subst this
   exact ⟨rfl, hp.2⟩
 | cond c x y ihx ihy =>
  intro fr H r he C μ w a hk hrd hf hw hm
  rw [evC.eq_def] at he
  simp only at he
  split at he
  case h_2 => cases he
  rename_i t ht
  have hcr := qa2 hf c
  rw [ht] at hcr
  generalize hv : a.eval c = v at hcr
  cases hcr
  cases t with
  | true => exact wpIn_cond_true hv (ihx (by simpa using he) hk hrd hf hw hm)
  | false => exact wpIn_cond_false hv (ihy (by simpa using he) hk hrd hf hw hm)
 | block id x ih =>
  intro fr H r he C μ w a hk hrd hf hw hm
  rw [evC.eq_def] at he
  simp only at he
  obtain ⟨q, hq, he⟩ := quf.1 he
  refine wpIn_block (wpIn_mono (ih hq hk hrd hf hw hm) fun e a1 w1 hp => ?_)
  cases hq1 : q.1 with
  | normal =>
   rw [hq1] at he
   cases he
   have : e = .normal := by rw [hp.1, hq1]; rfl
   subst this
   exact hp
  | exit id' =>
   rw [hq1] at he
   simp only at he
   have : e = .exit id' := by rw [hp.1, hq1]; rfl
   subst this
   simp only [Exit.inBlock]
   by_cases e : id' = id
   ·subst e
    rw [if_pos (Nat.beq_refl _)] at he
    cases he
    rw [if_pos rfl]
    exact ⟨rfl, hp.2⟩
   ·have : ¬ qun id' id = true := fun h => e (qui h)
    rw [if_neg this] at he
    cases he
    rw [if_neg e]
    exact hp
  | goto l =>
   rw [hq1] at he
   cases he
   have : e = .goto l := by rw [hp.1, hq1]; rfl
   subst this
   exact hp
  | ret =>
   rw [hq1] at he
   cases he
   have : e = .ret := by rw [hp.1, hq1]; rfl
   subst this
   exact hp
 | loop x ih =>
  intro fr H r he C μ w a hk hrd hf hw hm
  rw [evC.eq_def] at he
  simp only at he
  obtain ⟨q, hq, e⟩ := quk.1 he
  obtain ⟨n, hn⟩ := qa3 hq
  obtain ⟨μ', g1, g2, g3⟩ := qlV hw hf (cfg.keepIn f (qg x)) (cfg.lift f (qg x)) k hk
  refine wpIn_mono (wpIn_loop_rounds n (qgk (rd := rd) (fun hq => ih hq) hk n hn g3.len (hrd.ext g3.mu (qum _)) g2 g1 (hm.ext g3) g3)) fun e' a' w' hp => ?_
  obtain ⟨h1, C1, μ1, h2, h3, h4, h5⟩ := hp
  subst e
  exact ⟨h1, C1, μ1, zV h2, h3, h4, h5⟩
 | scope x ih =>
  intro fr H r he C μ w a hk hrd hf hw hm
  rw [evC.eq_def] at he
  simp only at he
  obtain ⟨q, hq, he⟩ := quf.1 he
  have hqr : (∀ l, q.1 ≠ .goto l) ∧ q = r := by
   cases hq1 : q.1 with
   | goto l => rw [hq1] at he; cases he
   | normal => rw [hq1] at he; simp only [Option.some.injEq] at he; exact ⟨nofun, he⟩
   | exit id => rw [hq1] at he; simp only [Option.some.injEq] at he; exact ⟨nofun, he⟩
   | ret => rw [hq1] at he; simp only [Option.some.injEq] at he; exact ⟨nofun, he⟩
  obtain ⟨h1, rfl⟩ := hqr
  refine qmE (ih hq hk hrd hf hw hm) fun l a1 w1 hp => ?_
  have := hp.1
  cases hq1 : q.1 with
  | goto l => exact h1 l hq1
  | _ => rw [hq1] at this; cases this
 | rangeFunc g ps assign body =>
  intro fr H r he C μ w a hk hrd hf hw hm
  rw [evC.eq_def] at he
  simp only at he
  obtain ⟨a1, a2, a3, a4⟩ := qbI (cfg.lift f (qg body)) hw hf
  exact wpIn_mono (qhG hO he (Nat.le_trans hk a3) hrd a2 a1 (hm.ext (a4 k hk))) fun e a' w' hp => hp.mono (a4 k hk) (qum _)
def qds (tmps : Array Value) : ResultVar → Sem Value
 | .tmp t => pure (tmps.getD t undef)
 | .cell a t => do loadVar t (← asAddr (tmps.getD a undef))
theorem qbz [Lent] {cfg : Cfg} (hc : CfgTy cfg) {fr : List AV} {tmps : Array Value} (hf : qo C μ fr tmps) (hw : Wld C μ H w) : ∀ (rs : List ResultVar) {vs : List AV}, xy rs cfg.ty fr H = some vs →
  ∃ us : List Value, (rs.mapM (qds tmps)).run cfg.P w = .ok us w ∧ vs.length = us.length ∧
   ∀ (i : Nat) a v, vs[i]? = some a → us[i]? = some v → Rep C μ a v
 | [], vs, he => by
  simp only [xy] at he
  cases he
  exact ⟨[], by simp, rfl, fun i a v h => by simp at h⟩
 | .tmp t :: l, vs, he => by
  simp only [xy] at he
  obtain ⟨vs', hvs, e⟩ := quk.1 he
  cases e
  obtain ⟨us, h1, h2, h3⟩ := qbz hc hf hw l hvs
  refine ⟨tmps.getD t undef :: us, ?_, by simp [h2], fun i a v e1 e2 => ?_⟩
  ·simp only [List.mapM_cons, Sem.run_bind, qds, Sem.run_pure, Result.andThen_ok, h1]
  ·cases i with
   | zero => simp at e1 e2; subst e1; subst e2; simpa [opd, Act.eval] using qa2 (a := ⟨tmps, []⟩) hf (.tmp t)
   | succ i => exact h3 i a v (by simpa using e1) (by simpa using e2)
 | .cell a t :: l, vs, he => by
  simp only [xy] at he
  split at he
  case h_2 => cases he
  rename_i ti hti
  obtain ⟨x, hx, he⟩ := quf.1 he
  obtain ⟨vs', hvs, e⟩ := quk.1 he
  cases e
  obtain ⟨us, h1, h2, h3⟩ := qbz hc hf hw l hvs
  have hr : Rep C μ (fr.getD a .junk) (tmps.getD a undef) := by simpa [opd, Act.eval] using qa2 (a := ⟨tmps, []⟩) hf (.tmp a)
  obtain ⟨ad, u, g1, g2, g3⟩ := qhV hw (hc.ty _ _ hti) hr hx
  refine ⟨u :: us, ?_, by simp [h2], fun i a v e1 e2 => ?_⟩
  ·have ga : (qds tmps (.cell a t)).run cfg.P w = .ok u w := by simp only [qds, g1, asAddr, Sem.run_bind, Sem.run_pure, Result.andThen_ok, g2]
   simp only [List.mapM_cons, Sem.run_bind, ga, Sem.run_pure, Result.andThen_ok, h1]
  ·cases i with
   | zero => simp at e1 e2; subst e1; subst e2; exact g3
   | succ i => exact h3 i a v (by simpa using e1) (by simpa using e2)
theorem qj8 [Lent] {cfg : Cfg} (hc : CfgTy cfg) {fn : Func} {fr : List AV} {tmps : Array Value} (hf : qo C μ fr tmps) (hw : Wld C μ H w) {vs : List AV} (he : xy fn.results.toList cfg.ty fr H = some vs) :
  ∃ v, (results fn tmps).run cfg.P w = .ok v w ∧ Rep C μ (yX vs) v := by
 obtain ⟨us, h1, h2, h3⟩ := qbz hc hf hw _ he
 refine ⟨if h : us.toArray.size = 1 then us.toArray[0] else .tuple us.toArray, ?_, ?_⟩
 ·have hr : results fn tmps = (fn.results.mapM (qds tmps) >>= fun vs => pure (if h : vs.size = 1 then vs[0] else .tuple vs)) := rfl
  rw [hr, Array.mapM_eq_mapM_toList]
  simp only [Sem.run_bind, Sem.run_map, Result.andThen_ok, Sem.run_pure, h1]
 ·cases us with
  | nil =>
   cases vs with
   | nil => exact .tup [] [] rfl (fun i a v h => by simp at h)
   | cons x l => simp at h2
  | cons u us =>
   cases vs with
   | nil => simp at h2
   | cons x l =>
    cases us with
    | nil =>
     cases l with
     | nil => simpa [yX] using h3 0 x u rfl rfl
     | cons y l => simp at h2
    | cons u' us =>
     cases l with
     | nil => simp at h2
     | cons y l =>
      have : yX (x :: y :: l) = .tup (x :: y :: l) := rfl
      rw [this, dif_neg (by simp)]
      exact .tup _ _ h2 h3
theorem qnr {cfg : Cfg} {rs : List ResultVar} {q : Ex × List AV × AH} {r : AV} (h : qbu cfg rs q = some (r, H')) : (q.1 = .normal ∨ q.1 = .ret) ∧ H' = q.2.2 ∧ ∃ vs, xy rs cfg.ty q.2.1 q.2.2 = some vs ∧ r = yX vs := by
 unfold qbu at h
 split at h
 ·rename_i hq
  obtain ⟨vs, h1, e⟩ := quk.1 h
  cases e
  exact ⟨.inl hq, rfl, vs, h1, rfl⟩
 ·rename_i hq
  obtain ⟨vs, h1, e⟩ := quk.1 h
  cases e
  exact ⟨.inr hq, rfl, vs, h1, rfl⟩
 ·cases h
theorem qe1 [Lent] {fn : Func} {tmps : Array Value} {R : Ending → World → Prop} {B k : Nat} {C0 : qd} {μ0 : MMap} {H0 : AH} {w0 : World} (hB : B = w0.heap.size)
  (hend : ∀ w', Wld C μ H w' → Ext k C0 μ0 H0 w0 C μ H w' → ∃ v, (results fn tmps).run P w' = .ok v w' ∧ R (.returned v) w') : ∀ (Ds : List Nat) {w : World}, Ds.Nodup → (∀ D ∈ Ds, B ≤ D ∧ w.heap[D]? = some (.deferred (some [])) ∧ ¬ Live H μ D) →
   Wld C μ H w → Ext k C0 μ0 H0 w0 C μ H w → LeavesInM Fence.wide 0 P fn tmps R (Ds.map mark) .returning w
 | [], w, _, _, hw, hx => hend w hw hx
 | D :: Ds, w, hnd, hD, hw, hx => by
  obtain ⟨d1, d2, d3⟩ := hD D (List.mem_cons_self ..)
  obtain ⟨hnm, hnd'⟩ := List.nodup_cons.1 hnd
  refine ⟨by simp, .inl ⟨D, _, rfl, run_takeDeferred d2, ?_⟩⟩
  have hne : ∀ b, b ≠ D → (w.putObj D (.deferred none)).heap[b]? = w.heap[b]? := fun b hb => World.putObj_heap_other hb
  refine qe1 hB hend Ds hnd' (fun D' hD' => ?_) (hw.worldG (by simp) (fun b hb hor => hne b fun e => ?_)) ⟨hx.os, hx.tape, hx.output, by simpa using hx.size, hx.cl, hx.mu, fun b hb hnl => ?_, hx.len⟩
  ·obtain ⟨g1, g2, g3⟩ := hD D' (List.mem_cons_of_mem _ hD')
   exact ⟨g1, by rw [hne D' (fun e => hnm (by rw [← e]; exact hD'))]; exact g2, g3⟩
  ·subst e
   rcases hor with hl | ⟨o, hc⟩ | ⟨o, hc⟩
   ·exact d3 hl
   ·cases hco : C b o with
    | none => exact hc hco
    | some v =>
     have := hw.cl b o v hco
     simp only [World.cell?, d2] at this
     cases this
   ·cases hco : Lent.l b o with
    | none => exact hc hco
    | some v =>
     have := (hw.lnt.1 b o v hco).1
     simp only [World.cell?, d2] at this
     cases this
  ·obtain ⟨f1, f2, f3⟩ := hx.fr b hb hnl
   exact ⟨by rw [hne b (by omega)]; exact f1, f2, f3⟩
variable {C C' C1 C2 : qd} {μ μ' μ1 : MMap} {H H' H1 H2 : AH} {w w' w1 : World} {P : Program}
structure CfgOk [Lent] (cfg : Cfg) : Prop where
 ty : CfgTy cfg
 mixed : cfg.P.follows .mixedOrders = true
 named : ∀ f fn, cfg.known f = true → cfg.P.funcs[f]? = some fn → (fn.name == "runtime.NumGoroutine") = false
 ext : ∀ f s, cfg.ext f = some s → ∀ args H r H', s args H = some (r, H') → ∀ C μ w vs, qo C μ args vs → Wld C μ H w → vP cfg.P (callFunc f vs) w (xn C μ H w r H')
theorem qop {f : FuncId} {fn : Func} {c : Code} (hf : P.funcs[f]? = some fn) (hn : (fn.name == "runtime.NumGoroutine") = false) (hb : fn.body = some c) (vs : Array Value) (w : World) : (callFunc f vs).run P w = .ok (.enter f vs) w := by
 unfold callFunc
 simp only [Sem.run_bind, run_program, Result.andThen_ok, hf, hn, hb, Option.isNone_some, quo, if_false]
 simp
theorem qse [Lent] {args : List AV} {vs : Array Value} (h : qo C μ args vs) (n : Nat) : qo C μ (args ++ quB (n - args.length) .junk) (vs ++ Array.replicate (n - vs.size) undef) := by
 refine ⟨by simp [h.1], fun i a v e1 e2 => ?_⟩
 rcases Nat.lt_or_ge i args.length with hlt | hge
 ·rw [qup hlt] at e1
  rw [Array.getElem?_append_left (by rw [← h.1]; exact hlt)] at e2
  exact h.2 i a v e1 e2
 ·rw [qut hge] at e1
  have := quv e1
  rw [List.mem_replicate] at this
  rw [this.2]
  exact .junk v
theorem qen [Lent] : ∀ (ps : List Tmp) {args : List AV} {vs : List Value} {fr : List AV} {tmps : Array Value}, (∀ (i : Nat) a v, args[i]? = some a → vs[i]? = some v → Rep C μ a v) → args.length = vs.length → qo C μ fr tmps →
  qo C μ (yg fr ps args) ((ps.zip vs).foldl (fun t (p, v) => t.setIfInBounds p v) tmps)
 | [], args, vs, fr, tmps, _, _, hf => by cases args <;> simpa [yg] using hf
 | p :: ps, [], vs, fr, tmps, _, hl, hf => by
  have : vs = [] := List.eq_nil_of_length_eq_zero (by simpa using hl.symm)
  subst this
  simpa [yg] using hf
 | p :: ps, x :: args, [], fr, tmps, _, hl, hf => by simp at hl
 | p :: ps, x :: args, v :: vs, fr, tmps, h, hl, hf => by
  rw [yg, List.zip_cons_cons, List.foldl_cons]
  refine qen ps (fun i a u e1 e2 => h (i + 1) a u (by simpa using e1) (by simpa using e2)) (by simpa using hl) ?_
  exact qa1 (a := ⟨tmps, []⟩) (dst := some p) hf (h 0 x v rfl rfl)
theorem qqo [Lent] {cfg : Cfg} (ok : CfgOk cfg) {cf : Orac} (hO : OracOk2 cfg cf) {f : Nat} {fn : Func} {c : Code} {args : List AV} {vs : Array Value} {r : AV} (hf : cfg.P.funcs[f]? = some fn) (hb : fn.body = some c)
  (he : ((evC cfg cf f none H.length c (args ++ quB (fn.ntmps - args.length) .junk) H).bind fun r => qbu cfg fn.results.toList (r.1, vt (cfg.lift f 0) r.2.1 r.2.2)) = some (r, H')) (ha : qo C μ args vs) (hw : Wld C μ H w) :
  CallsIn Fence.wide 0 cfg.P f vs w fun e w' => ∃ v, e = .returned v ∧ xn C μ H w r H' v w' := by
 obtain ⟨q, hq, he⟩ := quf.1 he
 obtain ⟨h1, rfl, us, h3, rfl⟩ := qnr he
 refine callsIn_of_wp_marks hf hb trivial (wpIn_mono (qfl ok.ty hO ok.mixed (B := w.heap.size) c hq (F := Fence.wide) (qum _) rfl (qse ha fn.ntmps) hw ⟨qum _, [], rfl, List.nodup_nil, fun D h => by cases h⟩) fun e a' w' hp => ?_)
 obtain ⟨e1, C', μ', e2, e3, e4, hmk⟩ := hp
 obtain ⟨l1, l2, l3, l4⟩ := qbI (cfg.lift f 0) e3 e2
 obtain ⟨hB, Ds, m1, m2, m3⟩ := hmk.ext (l4 _ (qum _))
 replace e2 := l2
 replace e4 := e4.trans (l4 _ e4.len) (qum _)
 replace e3 := l1
 have hl : LeavesInM Fence.wide 0 cfg.P fn a'.tmps (fun e w' => ∃ v, e = .returned v ∧ xn C μ H w (yX us) (vt (cfg.lift f 0) q.2.1 q.2.2).2 v w') a'.defers .returning w' := by
  rw [m1]
  refine qe1 rfl (fun w2 g1 g2 => ?_) Ds m2 m3 e3 e4
  obtain ⟨v, r1, r2⟩ := qj8 ok.ty e2 g1 h3
  exact ⟨v, r1, v, rfl, C', μ', r2, g1, g2⟩
 rcases h1 with h1 | h1
 ·rw [h1] at e1
  subst e1
  exact hl
 ·rw [h1] at e1
  subst e1
  exact hl
theorem qmT [Lent] {cfg : Cfg} (ok : CfgOk cfg) {cf : Orac} (hO : OracOk2 cfg cf) {id : Nat} {args : List AV} {vs : Array Value} {r : AV} (he : xH cfg cf (.y id) args H = some (r, H')) (ha : qo C μ args vs) (hw : Wld C μ H w) {m : MI} (hm : μ id = some m) :
  vP cfg.P (Instr.yield m.block vs) w (xn C μ H w r H') := by
 unfold xH at he
 simp only at he
 split at he
 case h_2 => cases he
 rename_i f fr ps assign body pend hid
 split at he
 case isFalse => cases he
 rename_i hlen
 obtain ⟨q1, hq1, he⟩ := quf.1 he
 split at he
 case h_2 => cases he
 rename_i f1 fr1 ps1 assign1 body1 pend1 hx1 hid1
 obtain ⟨q2, hq2, he⟩ := quf.1 he
 split at he
 case h_2 => cases he
 rename_i f2 fr2 ps2 assign2 body2 pend2 st2 hid2
 obtain ⟨i2, i3, rc, i4, i5, i6, i7, i8, i9, i10⟩ := hw.liveM hid rfl hm
 have hidl : id < H.length := (quh.1 hid).1
 have hvs : vs.size = rc.params.size := by rw [← ha.1, hlen, ← i7]; simp
 unfold vP
 rw [run_yield i4 hvs]
 simp only
 rw [i8, i9]
 have htm : ((rc.params.zip vs).foldl (fun tmps (t, a) => tmps.setIfInBounds t a) rc.tmps) = ((ps.zip vs.toList).foldl (fun t (p, v) => t.setIfInBounds p v) rc.tmps) := by
  rw [← Array.foldl_toList, Array.toList_zip, i7]
 have hfr0 : qo C μ (yg fr ps args) ((rc.params.zip vs).foldl (fun tmps (t, a) => tmps.setIfInBounds t a) rc.tmps) := by
  rw [htm]
  exact qen ps (fun i a v e1 e2 => ha.2 i a v e1 (by rw [← Array.getElem?_toList]; exact e2)) (by rw [ha.1]; simp) i10
 have hrd : RdOk (some id) (Fence.wide.inRound m.block) μ H.length := ⟨hidl, m, hm, rfl⟩
 refine roundIn_of_wpIn trivial (wpIn_mono (qfl ok.ty hO ok.mixed (B := w.heap.size) assign hq1 (a := ⟨_, []⟩) (qum _) hrd hfr0 hw ⟨qum _, [], rfl, List.nodup_nil, fun D h => by cases h⟩) fun e a1 w1 hp => ?_)
 obtain ⟨e1, C1, μ1, p1, p2, p3, p4⟩ := hp
 rw [hx1] at e1
 subst e1
 obtain ⟨m1, hm1, hb1, -⟩ := p3.mu id m hidl hm
 obtain ⟨j2, j3, rc1, j4, j5, j6, j7, j8, j9, j10⟩ := p2.liveM hid1 rfl hm1
 rw [hb1] at j2 j3 j4
 have hidl1 : id < q1.2.2.length := (quh.1 hid1).1
 refine ⟨_, run_beginRound j4 j5, ?_⟩
 have hw2 : Wld C1 μ1 (q1.2.2.set id (.loop f1 fr1 ps1 assign1 body1 pend1 .busy)) (w1.putObj m.block (.loop { rc1 with state := .busy })) :=
  p2.setBlk hid1 rfl rfl hm1 (by simp) (fun b hb => World.putObj_heap_other (hb1 ▸ hb)) ⟨{ rc1 with state := .busy }, by rw [hb1]; exact World.putObj_heap_same j2, rfl, j6, j7, j8, j9, j10⟩
 have hx2 : Ext q1.2.2.length C1 μ1 q1.2.2 w1 C1 μ1 (q1.2.2.set id (.loop f1 fr1 ps1 assign1 body1 pend1 .busy)) (w1.putObj m.block (.loop { rc1 with state := .busy })) :=
  Ext.setBlk p2 hid1 rfl hm1 (by simp) (fun b hb => World.putObj_heap_other (hb1 ▸ hb)) rfl rfl rfl (qum _)
 have hx12 := p3.trans hx2 p3.len
 have hrd2 : RdOk (some id) (Fence.wide.inRound m.block) μ1 H.length := ⟨hidl, m1, hm1, by rw [hb1]⟩
 refine wpIn_mono (qfl ok.ty hO ok.mixed (B := w.heap.size) body hq2 (by simpa using p3.len) hrd2 p1 hw2 (p4.ext hx2)) fun e a2 w3 hp => ?_
 obtain ⟨e2, C3, μ3, g1, g2, g3, g4⟩ := hp
 obtain ⟨m3, hm3, hb3, -⟩ := g3.mu id m1 hidl hm1
 rw [hb1] at hb3
 obtain ⟨k2, k3, rc3, k4, k5, k6, k7, k8, k9, k10⟩ := g2.liveM hid2 rfl hm3
 rw [hb3] at k2 k3 k4
 have fin : ∀ (jump : Option Code) , ∃ v w4, (Instr.endRound m.block jump).run cfg.P w3 = .ok v w4 ∧
   xn C μ H w (.bool jump.isNone) (q2.2.2.set id (.loop f2 fr2 ps2 assign2 body2 jump (if jump.isNone then .ready else .done))) v w4 := by
  intro jump
  refine ⟨_, _, run_endRound jump k4, C3, μ3, .bool _, ?_, ?_⟩
  ·exact g2.setBlk hid2 rfl rfl hm3 (by simp) (fun b hb => World.putObj_heap_other (hb3 ▸ hb)) ⟨{ rc3 with state := if jump.isNone then .ready else .done, pending := jump }, by rw [hb3]; exact World.putObj_heap_same k2, rfl, rfl, k7, k8, k9, k10⟩
  ·have := Ext.setBlk (k := q2.2.2.length) (blk' := .loop f2 fr2 ps2 assign2 body2 jump (if jump.isNone then .ready else .done)) g2 hid2 rfl hm3 (w' := w3.putObj m.block (.loop { rc3 with state := if jump.isNone then .ready else .done, pending := jump })) (by simp) (fun b hb => World.putObj_heap_other (hb3 ▸ hb)) rfl rfl rfl (qum _)
   exact (hx12.trans g3 (qum _)).trans this (hx12.trans g3 (qum _)).len
 split at he
 ·rename_i hx
  cases he
  rw [hx] at e2; subst e2
  obtain ⟨v, w4, r1, r2⟩ := fin none
  exact ⟨v, w4, r1, v, rfl, r2⟩
 ·rename_i hx
  cases he
  rw [hx] at e2; subst e2
  obtain ⟨v, w4, r1, r2⟩ := fin (some .ret)
  exact ⟨v, w4, r1, v, rfl, r2⟩
 ·rename_i x hx
  cases he
  rw [hx] at e2; subst e2
  obtain ⟨v, w4, r1, r2⟩ := fin (some (.exit x))
  exact ⟨v, w4, r1, v, rfl, r2⟩
 ·cases he
theorem ql8 [Lent] {cfg : Cfg} (ok : CfgOk cfg) {cf : Orac} (hO : OracOk2 cfg cf) : OracOk2 cfg (xH cfg cf) := by
 have key : ∀ f args H r, xH cfg cf (.f f) args H = some r → cfg.ext f = none → ∃ fn c, cfg.known f = true ∧ cfg.P.funcs[f]? = some fn ∧ fn.body = some c ∧ ((evC cfg cf f none H.length c (args ++ quB (fn.ntmps - args.length) .junk) H).bind fun r => qbu cfg fn.results.toList (r.1, vt (cfg.lift f 0) r.2.1 r.2.2)) = some r := by
  intro f args H r he hx
  unfold xH at he
  simp only [hx] at he
  split at he
  case isFalse => cases he
  rename_i hk
  split at he
  case h_2 => cases he
  rename_i fn hf
  split at he
  case h_2 => cases he
  rename_i c hb
  exact ⟨fn, c, hk, hf, hb, he⟩
 have enters : ∀ h args H r, xH cfg cf (.f h) args H = some r → cfg.ext h = none → ∀ vs w, (callFunc h vs).run cfg.P w = .ok (.enter h vs) w := by
  intro h args H r he hx vs w
  obtain ⟨fn, c, h1, h2, h3, _⟩ := key h args H r he hx
  exact qop h2 (ok.named _ _ h1 h2) h3 vs w
 refine ⟨fun t args H r H' he C μ w vs s ha hw ht => ?_, enters⟩
 cases t with
 | f f =>
  have hs : s = callFunc f vs := ht
  subst hs
  cases hx : cfg.ext f with
  | some sp =>
   unfold xH at he
   simp only [hx] at he
   exact ok.ext f sp hx args H r H' he C μ w vs ha hw
  | none =>
   unfold vP
   rw [enters _ _ _ _ he hx]
   obtain ⟨fn, c, _, h2, h3, h4⟩ := key _ _ _ _ he hx
   exact qqo ok hO h2 h3 h4 ha hw
 | y id =>
  obtain ⟨m, hm, hs⟩ := ht
  subst hs
  exact qmT ok hO he ha hw hm
theorem qfk [Lent] {cfg : Cfg} (ok : CfgOk cfg) : ∀ n, OracOk2 cfg (evF cfg n)
 | 0 => ⟨fun t args H r H' he => (by cases he), fun h args H r he => (by cases he)⟩
 | n + 1 => ql8 ok (qfk ok n)
theorem qmA [Lent] {cfg : Cfg} (ok : CfgOk cfg) : OracOk2 cfg (EV cfg) := by
 refine ⟨fun t args H r H' he => ?_, fun h args H r he => ?_⟩
 ·obtain ⟨n, hn⟩ := qa3 he
  exact (qfk ok n).calls t args H r H' hn
 ·obtain ⟨n, hn⟩ := qa3 he
  exact (qfk ok n).enters h args H r hn
theorem qrR [Lent] {cfg : Cfg} (ok : CfgOk cfg) {f : FuncId} {args : List AV} {vs : Array Value} {r : AV} (hx : cfg.ext f = none) (he : EV cfg (.f f) args H = some (r, H')) (ha : qo C μ args vs) (hw : Wld C μ H w) :
  Calls cfg.P f vs w fun e w' => ∃ v, e = .returned v ∧ xn C μ H w r H' v w' := by
 have hO := qmA ok
 have h := hO.calls _ _ _ _ _ he C μ w vs _ ha hw rfl
 unfold vP at h
 rw [hO.enters _ _ _ _ he hx] at h
 exact callsIn_wide.1 h
section
variable {α β : Type}
def EvG (cf : Nat → Orac) (c : Orac) (G : Orac → Option α) : Prop := ∀ r, G c = some r → ∃ n, ∀ m, n ≤ m → G (cf m) = some r
def Ev (cf : Nat → Orac) (c : Orac) : Prop := ∀ t a H, EvG cf c (fun o => o t a H)
variable {cf : Nat → Orac} {c : Orac}
theorem EvG.const (x : Option α) : EvG cf c (fun _ => x) := fun _r h => ⟨0, fun _ _ => h⟩
theorem EvG.bind {X : Orac → Option α} {K : Orac → α → Option β} (hX : EvG cf c X) (hK : ∀ a, EvG cf c (fun o => K o a)) : EvG cf c (fun o => (X o).bind (K o)) := by
 intro r h
 obtain ⟨a, h1, h2⟩ := quf.1 h
 obtain ⟨n, hn⟩ := hX a h1
 obtain ⟨n', hn'⟩ := hK a r h2
 exact ⟨max n n', fun m hm => by
  show (X (cf m)).bind (K (cf m)) = some r
  rw [hn m (by omega)]
  exact hn' m (by omega)⟩
theorem EvG.map {X : Orac → Option α} (f : α → β) (hX : EvG cf c X) : EvG cf c (fun o => (X o).map f) := by
 intro r h
 obtain ⟨a, h1, h2⟩ := quk.1 h
 obtain ⟨n, hn⟩ := hX a h1
 exact ⟨n, fun m hm => by
  show (X (cf m)).map f = some r
  rw [hn m hm, ← h2]; rfl⟩
theorem EvG.ite {p : Prop} [Decidable p] {X Y : Orac → Option α} (hX : EvG cf c X) (hY : EvG cf c Y) : EvG cf c (fun o => if p then X o else Y o) := by
 by_cases h : p
 ·simp only [if_pos h]; exact hX
 ·simp only [if_neg h]; exact hY
theorem qdP (h : Ev cf c) (f : Nat) : ∀ l : List AV, EvG cf c (fun o => zw o f l)
 | [] => EvG.const _
 | a :: l => by
  simp only [zw]
  exact (h _ _ _).bind fun r => (EvG.const _).bind fun _ => qdP h f l
theorem qmm (h : Ev cf c) (cfg : Cfg) (nid : Option Nat) (t : Tgt) (args : List AV) (H : AH) : EvG cf c (fun o => qU cfg o nid t args H) := by
 cases t with
 | y id => exact (h _ _ _).bind fun r => EvG.const _
 | f f =>
  simp only [qU]
  cases cfg.mode f with
  | scal => exact EvG.ite ((h _ _ _).bind fun r => EvG.const _) (EvG.const _)
  | pfrz => exact EvG.ite ((h _ _ _).bind fun r => EvG.const _) (EvG.const _)
  | nfrz => exact EvG.ite ((h _ _ _).bind fun r => EvG.const _) (EvG.const _)
  | wfrz => exact EvG.ite ((h _ _ _).bind fun r => EvG.const _) (EvG.const _)
  | pown => exact EvG.ite ((h _ _ _).bind fun r => EvG.const _) (EvG.const _)
  | inpl =>
   cases qM 0 args with
   | nil => exact EvG.ite ((h _ _ _).bind fun r => EvG.const _) (EvG.const _)
   | cons id l =>
    refine EvG.ite ?_ (EvG.const _)
    cases hb : H[id]? with
    | none => exact EvG.const _
    | some b =>
     cases b with
     | rows d sz rs => exact EvG.ite ((h _ _ _).bind fun r => EvG.const _) (EvG.const _)
     | _ => exact EvG.const _
  | inpf =>
   cases qM 0 args with
   | nil => exact EvG.const _
   | cons id l =>
    refine EvG.ite ?_ (EvG.const _)
    cases hb : H[id]? with
    | none => exact EvG.const _
    | some b =>
     cases b with
     | rows d sz rs => exact EvG.ite ((h _ _ _).bind fun r => EvG.const _) (EvG.const _)
     | _ => exact EvG.const _
  | slf =>
   cases qM 0 args with
   | nil => exact EvG.const _
   | cons id l =>
    refine EvG.ite ?_ (EvG.const _)
    cases hb : H[id]? with
    | none => exact EvG.const _
    | some b =>
     cases b with
     | rows d sz rs => exact EvG.ite ((h _ _ _).bind fun r => EvG.const _) (EvG.const _)
     | _ => exact EvG.const _
  | bld =>
   cases qM 0 args with
   | nil => exact EvG.const _
   | cons id l =>
    refine EvG.ite ?_ (EvG.const _)
    cases hb : H[id]? with
    | none => exact EvG.const _
    | some b =>
     cases b with
     | bld T e s => exact (h _ _ _).bind fun r => EvG.const _
     | _ => exact EvG.const _
  | imp => exact (h _ _ _).bind fun r => EvG.const _
  | ifrz => exact (h _ _ _).bind fun r => EvG.const _
  | sub => exact (EvG.const _).bind fun s => (h _ _ _).bind fun r => EvG.const _
  | obj => exact (EvG.const _).bind fun s => EvG.ite ((h _ _ _).bind fun r => EvG.const _) (EvG.const _)
  | rgn => exact EvG.ite ((h _ _ _).bind fun r => EvG.const _) (EvG.const _)
  | over =>
   dsimp only
   rcases args with _ | ⟨a, _ | ⟨b, l⟩⟩
   ·exact EvG.const _
   ·dsimp only
    cases qM 0 a.alts with
    | nil => exact EvG.const _
    | cons id l =>
     refine EvG.ite ?_ (EvG.const _)
     cases hb : H[id]? with
     | none => exact EvG.const _
     | some b =>
      cases b with
      | reg => exact (qdP h _ _).map _
      | spl => exact (qdP h _ _).map _
      | _ => exact EvG.const _
   ·exact EvG.const _
theorem qfi (h : Ev cf c) (cfg : Cfg) (frz : Bool) (nid : Option Nat) (o : Oper) (x : Operand → AV) (H : AH) : EvG cf c (fun q => vj cfg q frz nid o x H) := by
 have core : ∀ (x : Operand → AV) (H : AH), EvG cf c (fun q => match o.op with
    | .call cl =>
     match cl.callee with
     | .value f => (yx (x f) (cl.args.toList.map x)).bind fun t => qU cfg q nid t.1 t.2 H
     | _ => evOp cfg nid o.op o.type x H
    | _ => evOp cfg nid o.op o.type x H) := by
  intro x H
  split
  ·split
   ·exact (EvG.const _).bind fun t => qmm h cfg nid _ _ _
   ·exact EvG.const _
  ·exact EvG.const _
 unfold vj
 cases frz with
 | true => simp only [if_true]; exact core _ _
 | false => simp only [quo, if_false]; exact core _ _
theorem qea (h : Ev cf c) (cfg : Cfg) (f rid : Nat) (ops : Array Oper) : ∀ (l : List Oper) (k : Nat) (fr : List AV) (H : AH), EvG cf c (fun q => yS cfg q f rid ops k l fr H)
 | [], k, fr, H => EvG.const _
 | o :: l, k, fr, H => by
  simp only [yS]
  refine (EvG.const _).bind fun b => EvG.ite ((qfi h cfg _ _ _ _ _).bind fun r => qea h cfg f rid ops l _ _ _) (qea h cfg f rid ops l _ _ _)
theorem qcJ (h : Ev cf c) (cfg : Cfg) (f rid : Nat) (ops : Array Oper) : ∀ (l : List Oper) (k at_ : Nat) (fr : List AV) (H : AH), EvG cf c (fun q => xG cfg q f rid ops k at_ l fr H)
 | [], k, at_, fr, H => EvG.const _
 | o :: l, k, at_, fr, H => by
  simp only [xG]
  refine (EvG.const _).bind fun b => EvG.ite ((qfi h cfg _ _ _ _ _).bind fun r => (qcJ h cfg f rid ops l _ _ _ _).map _) ((qcJ h cfg f rid ops l _ _ _ _).map _)
theorem qhU {k : Nat} {ts : Option (List Tmp)} {ls : List (Tmp × Nat)} {body : Den} : ∀ {n : Nat} {p : List AV × AH} {r : Ex × List AV × AH}, xV k ts ls body n p = some r → xV k ts ls body (n + 1) p = some r
 | 0, _, _, h => by cases h
 | n + 1, p, r, h => by
  rw [xV] at h ⊢
  obtain ⟨q, h1, h2⟩ := quf.1 h
  rw [h1]
  simp only [quq]
  cases hq : q.1 with
  | normal =>
   rw [hq] at h2
   exact qhU h2
  | exit id => rw [hq] at h2; exact h2
  | goto l => rw [hq] at h2; exact h2
  | ret => rw [hq] at h2; exact h2
theorem qp4 {g : Nat → Option α} (hs : ∀ n r, g n = some r → g (n + 1) = some r) {n : Nat} {r : α} (h : g n = some r) : lim g = some r := by
 have up : ∀ {n : Nat} {r : α}, g n = some r → ∀ d, g (n + d) = some r := by
  intro n r h d
  induction d with
  | zero => exact h
  | succ d ih => exact hs _ _ ih
 have he : ∃ (n : Nat) (r : α), g n = some r := ⟨n, r, h⟩
 unfold lim
 rw [dif_pos he]
 have hc := Classical.choose_spec (Classical.choose_spec he)
 have e1 := up h (Classical.choose he)
 have e2 := up hc n
 rw [Nat.add_comm] at e2
 rw [e1] at e2
 exact e2.symm
theorem qdD {k : Nat} {ts : Option (List Tmp)} {ls : List (Tmp × Nat)} {body : Den} {n : Nat} {p : List AV × AH} {r : Ex × List AV × AH} (h : xV k ts ls body n p = some r) : LOOP k ts ls body p = some r :=
 qp4 (g := fun n => xV k ts ls body n p) (fun _ _ h => qhU h) h
theorem qlA {k : Nat} {ts : Option (List Tmp)} {ls : List (Tmp × Nat)} {body : Orac → Den} (hb : ∀ fr H, EvG cf c (fun q => body q fr H)) : ∀ (n : Nat) (p : List AV × AH), EvG cf c (fun q => xV k ts ls (body q) n p)
 | 0, _ => EvG.const _
 | n + 1, p => by
  simp only [xV]
  refine (hb _ _).bind fun r => ?_
  cases r.1 with
  | normal => exact qlA hb n _
  | exit id => exact EvG.const _
  | goto l => exact EvG.const _
  | ret => exact EvG.const _
theorem qsz {k : Nat} {ts : Option (List Tmp)} {ls : List (Tmp × Nat)} {body : Orac → Den} (hb : ∀ fr H, EvG cf c (fun q => body q fr H)) (p : List AV × AH) : EvG cf c (fun q => LOOP k ts ls (body q) p) := by
 intro r h
 obtain ⟨n, hn⟩ := qa3 h
 obtain ⟨m, hm⟩ := qlA hb n p r hn
 exact ⟨m, fun i hi => qdD (hm i hi)⟩
theorem qgV (h : Ev cf c) (cfg : Cfg) (f rid : Nat) (ops : Array Oper) : ∀ (n : Nat) (D : List Nat) (fr : List AV) (H : AH), EvG cf c (fun q => qaV cfg q f rid ops n D fr H)
 | 0, D, fr, H => EvG.const _
 | n + 1, D, fr, H => by
  simp only [qaV]
  refine EvG.ite (EvG.const _) ?_
  have key : ∀ l : List (Nat × Oper), EvG cf c (fun q => qdv (fun i fr H => qaV cfg q f rid ops n (i :: D) fr H) (fun i o => qix cfg q f rid ops i o fr H) l) := by
   intro l
   induction l with
   | nil => exact EvG.const _
   | cons p l ih =>
    simp only [qdv]
    refine EvG.bind ?_ fun q => (qgV h cfg f rid ops n _ _ _).bind fun L => ih.map _
    simp only [qix]
    exact (EvG.const _).bind fun b => EvG.ite ((qfi h cfg _ _ _ _ _).map _) (EvG.const _)
  exact key _
theorem qoo {F : Orac → List AV → AH → Option (Ex × List AV × AH)} (hF : ∀ fr H, EvG cf c (fun q => F q fr H)) (l : List (List AV × AH)) : EvG cf c (fun q => qau (F q) l) := by
 have key : ∀ (r : Ex × List AV × AH) (l : List (List AV × AH)), zP (F c) r l = true → ∃ n, ∀ m, n ≤ m → zP (F (cf m)) r l = true := by
  intro r l
  induction l with
  | nil => intro _; exact ⟨0, fun _ _ => rfl⟩
  | cons x l ih =>
   intro h
   simp only [zP, que] at h
   obtain ⟨n1, hn1⟩ := ih h.2
   have h1 := h.1
   split at h1
   ·rename_i r' hr'
    obtain ⟨n2, hn2⟩ := hF _ _ _ hr'
    refine ⟨max n1 n2, fun m hm => ?_⟩
    simp only [zP, que]
    have h2 : F (cf m) x.1 x.2 = some r' := hn2 m (by omega)
    exact ⟨by rw [h2]; exact h1, hn1 m (by omega)⟩
   ·cases h1
 cases l with
 | nil => exact EvG.const _
 | cons x l =>
  intro r h
  obtain ⟨r', h1, h⟩ := quf.1 h
  split at h
  ·rename_i h2
   cases h
   obtain ⟨n1, hn1⟩ := hF _ _ _ h1
   obtain ⟨n2, hn2⟩ := key _ _ h2
   refine ⟨max n1 n2, fun m hm => ?_⟩
   have h3 : F (cf m) x.1 x.2 = some _ := hn1 m (by omega)
   simp only [qau, h3, quq, hn2 m (by omega), if_true]
  ·cases h
theorem ql7 (h : Ev cf c) (cfg : Cfg) (f : Nat) (rd : Option Nat) (k : Nat) : ∀ (cd : Code) (fr : List AV) (H : AH), EvG cf c (fun q => evC cfg q f rd k cd fr H) := by
 intro cd
 induction cd with
 | skip => intro fr H; simp only [evC]; exact EvG.const _
 | label l => intro fr H; simp only [evC]; exact EvG.const _
 | exit id => intro fr H; simp only [evC]; exact EvG.const _
 | ret => intro fr H; simp only [evC]; exact EvG.const _
 | goto l => intro fr H; simp only [evC]; exact EvG.const _
 | refuse s => intro fr H; simp only [evC]; exact EvG.const _
 | region id ops draw =>
  intro fr H
  simp only [evC]
  cases draw with
  | true => simp only [if_true]; exact EvG.ite ((qcJ h cfg f id ops _ _ _ _ _).bind fun q => EvG.const _) (EvG.const _)
  | false => simp only [quo, if_false]; exact (qea h cfg f id ops _ _ _ _).map _
 | seq x y ihx ihy =>
  intro fr H
  simp only [evC]
  split
  ·exact (qgV h cfg f _ _ _ _ _ _).bind fun L => qoo (fun fr H => (ihy _ _).map _) L
  refine (ihx _ _).bind fun r => ?_
  cases r.1 with
  | normal => exact ihy _ _
  | exit id => exact EvG.const _
  | goto l => exact EvG.const _
  | ret => exact EvG.const _
 | cond cnd x y ihx ihy =>
  intro fr H
  simp only [evC]
  split
  ·exact EvG.ite (ihx _ _) (ihy _ _)
  ·exact EvG.const _
 | block id x ih =>
  intro fr H
  simp only [evC]
  exact (ih _ _).bind fun r => EvG.const _
 | loop x ih =>
  intro fr H
  simp only [evC]
  exact (qsz ih _).map _
 | scope x ih =>
  intro fr H
  simp only [evC]
  exact (ih _ _).bind fun r => EvG.const _
 | rangeFunc g ps assign body =>
  intro fr H
  simp only [evC, zy]
  refine EvG.ite ?_ (EvG.const _)
  split
  ·exact EvG.ite (EvG.const _) ((h _ _ _).bind fun r => EvG.const _)
  ·exact EvG.const _
theorem qjV (h : Ev cf c) (cfg : Cfg) (t : Tgt) (args : List AV) (H : AH) : EvG cf c (fun q => xH cfg q t args H) := by
 unfold xH
 cases t with
 | f f =>
  simp only
  split
  ·exact EvG.const _
  ·refine EvG.ite ?_ (EvG.const _)
   split
   ·split
    ·exact (ql7 h cfg f none _ _ _ _).bind fun r => EvG.const _
    ·exact EvG.const _
   ·exact EvG.const _
 | y id =>
  simp only
  split
  ·refine EvG.ite ((ql7 h cfg _ _ _ _ _ _).bind fun r => ?_) (EvG.const _)
   split
   ·exact (ql7 h cfg _ _ _ _ _ _).bind fun q => EvG.const _
   ·exact EvG.const _
  ·exact EvG.const _
end
theorem qgU (cfg : Cfg) : ∀ (n : Nat) (t : Tgt) (a : List AV) (H : AH) (r : AV × AH), evF cfg n t a H = some r → evF cfg (n + 1) t a H = some r
 | 0, t, a, H, r, h => by cases h
 | n + 1, t, a, H, r, h => by
  have hev : Ev (fun _ => evF cfg (n + 1)) (evF cfg n) := fun t a H r h => ⟨0, fun _ _ => qgU cfg n t a H r h⟩
  obtain ⟨m, hm⟩ := qjV hev cfg t a H r h
  exact hm m (qum _)
theorem qud (cfg : Cfg) : Ev (evF cfg) (EV cfg) := by
 intro t a H r h
 obtain ⟨n, hn⟩ := qa3 h
 refine ⟨n, fun m hm => ?_⟩
 obtain ⟨d, rfl⟩ := Nat.exists_eq_add_of_le hm
 induction d with
 | zero => exact hn
 | succ d ih => exact qgU cfg _ t a H r (ih (by omega))
theorem qps {cfg : Cfg} {t : Tgt} {a : List AV} {H : AH} {r : AV × AH} (h : xH cfg (EV cfg) t a H = some r) : EV cfg t a H = some r := by
 obtain ⟨n, hn⟩ := qjV (qud cfg) cfg t a H r h
 exact qp4 (g := fun n => evF cfg n t a H) (fun n r h => qgU cfg n t a H r h) (n := n + 1) (hn n (qum _))
theorem qfv {k : Nat} {ts : Option (List Tmp)} {ls : List (Tmp × Nat)} {body : Den} {p : List AV × AH} {q : Ex × List AV × AH} (h : body p.1 p.2 = some q) (hq : ∀ x, q ≠ (.normal, x)) : LOOP k ts ls body p = some q := by
 refine qdD (n := 1) ?_
 rw [xV, h]
 obtain ⟨e, q⟩ := q
 cases e with
 | normal => exact absurd rfl (hq q)
 | exit id => rfl
 | goto l => rfl
 | ret => rfl
theorem qqW {k : Nat} {ts : Option (List Tmp)} {ls : List (Tmp × Nat)} {body : Den} {p : List AV × AH} {fr1 : List AV} {H1 : AH} {r : Ex × List AV × AH} (h : body p.1 p.2 = some (.normal, fr1, H1)) (hr : LOOP k ts ls body (x9 k ts ls fr1 H1) = some r) : LOOP k ts ls body p = some r := by
 obtain ⟨n, hn⟩ := qa3 hr
 refine qdD (n := n + 1) ?_
 rw [xV, h]
 exact hn
variable {α : Type}
abbrev KV (α : Type) := AV → Option α
abbrev KH (α : Type) := AV → AH → Option α
abbrev KE (α : Type) := Ex → List AV → AH → Option α
abbrev KF (α : Type) := Tgt → List AV → AH → (AV × AH → Option α) → Option α
def kInt (kd : IntKind) (v : AV) (k : Int → Option α) : Option α :=
 match v with
 | .int k' n => cond (zK k' kd) (k n) none
 | _ => none
def ve (v : AV) (k : Bool → Option α) : Option α :=
 match v with
 | .bool b => k b
 | _ => none
def kStr (v : AV) (k : List UInt8 → Option α) : Option α :=
 match v with
 | .str s => k s
 | _ => none
def kSl (v : AV) (k : List (List AV) → Option α) : Option α :=
 match v with
 | .sl rows => k rows
 | _ => none
def kAgg (v : AV) (k : List AV → Option α) : Option α :=
 match v with
 | .agg cs => k cs
 | _ => none
def kOpt {β : Type} (o : Option β) (k : β → Option α) : Option α :=
 match o with
 | some b => k b
 | none => none
def qc (l : List AV) (k : AV → List AV → Option α) : Option α :=
 match l with
 | c :: cs => k c cs
 | [] => none
def kNil (l : List AV) (x : Option α) : Option α :=
 match l with
 | [] => x
 | _ => none
def qaa (s : FK) (v : AV) (k : KV α) : Option α :=
 match s with
 | .int kd => kInt kd v fun n => k (.int kd n)
 | .bool => ve v fun b => k (.bool b)
 | .str => kStr v fun s => k (.str s)
 | .sl => kSl v fun rows => k (.sl rows)
 | .any => k v
def qaQ : List FK → List AV → (List AV → Option α) → Option α
 | [], l, k => kNil l (k [])
 | s :: ss, l, k => qc l fun c cs => qaa s c fun v => qaQ ss cs fun vs => k (v :: vs)
def qp6 (sl : Bool) : TD → FK
 | .int k => .int k
 | .bool => .bool
 | .str => .str
 | .slice _ => if sl then .sl else .any
 | _ => .any
def qhX (cfg : Cfg) (p : TypeId → Bool) : Nat → TypeId → Option (List FK)
 | 0, _ => none
 | n + 1, t =>
  match cfg.td t with
  | some (.struct fs) => (fs.foldr (fun f acc => match qhX cfg p n f.2, acc with | some l, some a => some (l ++ a) | _, _ => none) (some []))
  | some (.array m e) => (match qhX cfg p n e with | some l => some ((quB m l).flatten) | none => none)
  | some d => some [qp6 (p t) d]
  | none => none
def kTy1 (p : TypeId → Bool) (cfg : Cfg) (t : TypeId) (v : AV) (k : KV α) : Option α :=
 match cfg.td t with
 | some d =>
  match d with
  | .struct _ => (match qhX cfg p 6 t with | some ss => kAgg v fun cs => qaQ ss cs fun vs => k (.agg vs) | none => k v)
  | .array _ _ => (match qhX cfg p 6 t with | some ss => kAgg v fun cs => qaQ ss cs fun vs => k (.agg vs) | none => k v)
  | d => qaa (qp6 (p t) d) v k
 | none => k v
def kTup (v : AV) (k : List AV → Option α) : Option α :=
 match v with
 | .tup cs => k cs
 | _ => none
def kTys (p : TypeId → Bool) (cfg : Cfg) : List TypeId → List AV → (List AV → Option α) → Option α
 | [], l, k => kNil l (k [])
 | t :: ts, l, k => qc l fun c cs => kTy1 p cfg t c fun v => kTys p cfg ts cs fun vs => k (v :: vs)
def kTy (p : TypeId → Bool) (cfg : Cfg) (t : TypeId) (v : AV) (k : KV α) : Option α :=
 match cfg.tup t with
 | some ts => kTup v fun cs => kTys p cfg ts cs fun vs => k (.tup vs)
 | none => kTy1 p cfg t v k
def AV.regA (i : Nat) : AV → AV
 | .agg cs => .agg (cs.map (AV.regn i))
 | a => a
def noTy : TypeId → Bool := fun _ => false
def qbR : TypeId → Bool := fun _ => true
def qt6 (cfg : Cfg) (H : AH) (a : AV) : TypeId → Bool :=
 match a with
 | .cptr _ _ => cfg.dat
 | .ptr id _ _ => if xk H id then cfg.dat else noTy
 | _ => noTy
def kNew (nid : Option Nat) (H : AH) (b : ABlk) (k : Nat → AH → Option α) : Option α :=
 match nid with
 | none => k H.length (H ++ [b])
 | some i => kOpt H[i]? fun x => match x with | .res => k i (H.set i b) | _ => none
def qpm (cfg : Cfg) (t : TypeId) : Bool := match cfg.td t with | some d => d.agg | none => false
def qa6 (agg : Bool) (v : AV) (k : List AV → Option α) : Option α :=
 cond agg (kAgg v fun cs => cond (vX cs) (k cs) none) (cond v.isCell (k [v]) none)
def qoL (t : Bool) (a b : AV) (k : KV α) : Option α :=
 match a, b with
 | .bool p, .bool q => k (.bool (cond t p q))
 | .int k1 p, .int k2 q => cond (zK k1 k2) (k (.int k1 (cond t p q))) (cond t (k a) (k b))
 | a, b => cond t (k a) (k b)
def qid (place : Nat → Option (Nat × Nat × Bool)) (cells : List AV) : List (Nat × AV) → (List AV → Option α) → Option α
 | [], k => k cells
 | (i, v) :: rest, k =>
  match place i with
  | some (off, size, agg) => qa6 agg v fun cs => cond (qun cs.length size && quw (off + size) cells.length) (qid place (cells.take off ++ cs ++ cells.drop (off + size)) rest k) none
  | none => none
def qfJ (cfg : Cfg) : List (Nat × TypeId) → Option (List (Nat × Nat × Bool))
 | [] => some []
 | (off, t) :: l =>
  match cfg.sz t, qfJ cfg l with
  | some n, some ps => some ((off, n, qpm cfg t) :: ps)
  | _, _ => none
def qkB (agg : Bool) (n : Nat) (rows : List (List AV)) : List (Nat × AV) → (List (List AV) → Option α) → Option α
 | [], k => k rows
 | (i, v) :: rest, k => qa6 agg v fun cs => cond (qun cs.length n && Nat.blt i rows.length) (qkB agg n (rows.set i cs) rest k) none
def kBlk (H : AH) (id : Nat) (k : Nat → List (List AV) → Option α) : Option α :=
 kOpt H[id]? fun b => match b with | .rows _ sz rs => k sz rs | .froz _ sz rs => k sz rs | _ => none
def qdZ (H : AH) (id : Nat) (k : Bool → Nat → List (List AV) → Option α) : Option α :=
 kOpt H[id]? fun b => match b with | .rows d sz rs => k d sz rs | _ => none
def qbc (agg : Bool) (n : Nat) (cells : List AV) (off : Nat) (k : KV α) : Option α :=
 cond agg (cond (quw (off + n) cells.length) (k (.agg ((cells.drop off).take n))) none) (kOpt cells[off]? k)
def qh8 (agg : Bool) (n : Nat) (H : AH) (p : AV) (k : KV α) : Option α :=
 match p with
 | .ptr id r off => kBlk H id fun _ rs => kOpt rs[r]? fun row => qbc agg n row off k
 | .cptr cs off => qbc agg n cs off k
 | .lpt cs off => qbc agg n (cs.map AV.lend) off k
 | .rpt id cs off => kOpt H[id]? fun b => match b with
  | .reg => qbc agg n (cs.map (AV.regn id)) off k
  | .spl => cond agg (cond (qun n 4) (qaQ [.int .i64, .int .i64, .str, .sl] ((cs.drop off).take 4) fun vs => k (.alt [.agg (vs.map (AV.regn id)), .agg qfH, .agg row0])) none) (kOpt (qi3 cs off) fun rows => k (.rsl id rows))
  | _ => none
 | _ => none
def qlD (agg : Bool) (n : Nat) (H : AH) (p v : AV) (k : AH → Option α) : Option α :=
 match p with
 | .ptr id r off => qa6 agg v fun cs => qdZ H id fun d sz rs => kOpt rs[r]? fun row => cond (qun cs.length n && quw (off + n) row.length) (k (H.set id (.rows (d && qt 0 cs) sz (rs.set r (row.take off ++ cs ++ row.drop (off + n)))))) none
 | .rpt id cs off => kOpt H[id]? fun b => match b with | .spl => cond (qun n 4) (cond (qa0 ((cs.drop off).take 4) && is77 v) (k H) none) (cond (qun n 7 && qii (cs.drop off) && qbX v) (k H) none) | _ => none
 | _ => none
def qe6 (v : AV) (k : KV α) : Option α :=
 match v with
 | .ptr id r off => k (.ptr id r off)
 | .cptr cs off => k (.cptr cs off)
 | .fn (.func f) a b => k (.fn (.func f) a b)
 | .mp id => k (.mp id)
 | .yld id => k (.yld id)
 | _ => none
def qj (a b : Int) : Bool := decide (a ≤ b)
def qp (a b : Int) : Bool := decide (a < b)
def qfa (lo hi : Nat) (x : Option AV) (dflt : Nat) (k : Nat → Option α) : Option α :=
 match x with
 | none => k dflt
 | some v => match v with | .int _ i => cond (qj lo i && qj i hi) (k i.toNat) none | _ => none
def qa5 (n : Nat) (lo hi mx : Option AV) (k : Nat → Nat → Option α) : Option α :=
 cond (hi.isNone && mx.isSome) none (qfa 0 n hi n fun h => qfa h n mx h fun _ => qfa 0 h lo 0 fun l => k l h)
def qlE (cfg : Cfg) (t : TypeId) (H : AH) (x : AV) (lo hi mx : Option AV) (k : KV α) : Option α :=
 match cfg.td t with
 | some .str => (match mx with | none => (match x with | .str s => qa5 s.length lo hi none fun l h => k (.str ((s.drop l).take (h - l))) | _ => none) | _ => none)
 | some (.slice e) =>
  match cfg.sz e with
  | some n =>
   match x with
   | .nilS => qa5 0 lo hi mx fun _ _ => k .nilS
   | .sl rows => qa5 rows.length lo hi mx fun l h => cond (vR n rows) (match cfg.ems t with | false => k (.sl ((rows.drop l).take (h - l))) | true => k (slE true rows l h)) none
   | .ms id off len => qa5 len lo hi mx fun l h => kBlk H id fun sz _ => cond (qun sz n) (k (.ms id (off + l) (h - l))) none
   | .wr _ v => (match lo, hi, mx with
    | none, some hv, none => (match hv with
     | .int _ h => (match v with
      | .sl rows => cond (qj 0 h && qj h rows.length) (k (.wr h.toNat (.sl rows))) none
      | .ms id off len => cond (qj 0 h && qj h len) (k (.wr h.toNat (.ms id off len))) none
      | _ => none)
     | _ => none)
    | _, _, _ => none)
   | _ => none
  | none => none
 | _ => none
def qdU (cfg : Cfg) (t : TypeId) (H : AH) (x i : AV) (k : KV α) : Option α :=
 match i with
 | .int _ i =>
  match cfg.td t with
  | some (.slice e) =>
   match cfg.sz e with
   | some n =>
    match x with
    | .ms id off len => kBlk H id fun sz _ => cond (qun sz n && qj 0 i && qp i len) (k (.ptr id (off + i.toNat) 0)) none
    | .sl rows => cond (qj 0 i && qp i rows.length) (kOpt rows[i.toNat]? fun row => cond (qun row.length n) (k (.cptr row 0)) none) none
    | .lsl rows => cond (qj 0 i && qp i rows.length) (kOpt rows[i.toNat]? fun row => cond (qun row.length n) (k (.lpt row 0)) none) none
    | .rsl id rows => cond (qj 0 i && qp i rows.length) (kOpt rows[i.toNat]? fun row => cond (qun row.length n) (k (.rpt id row 0)) none) none
    | _ => none
   | none => none
  | some (.array n e) =>
   match cfg.sz e with
   | some sz =>
    match x with
    | .ptr id r off => cond (qj 0 i && qp i n) (k (.ptr id r (off + i.toNat * sz))) none
    | .cptr cs off => cond (qj 0 i && qp i n) (k (.cptr cs (off + i.toNat * sz))) none
    | _ => none
   | none => none
  | _ => none
 | _ => none
def qlN (cfg : Cfg) (t : TypeId) (x i : AV) (k : KV α) : Option α :=
 match i with
 | .int _ i =>
  match cfg.td t with
  | some (.array n e) =>
   match cfg.ty e with
   | some ti => kAgg x fun cs => cond (qj 0 i && qp i n) (qbc ti.d.agg ti.sz cs (i.toNat * ti.sz) k) none
   | none => none
  | some .str => kStr x fun s => cond (qj 0 i) (kOpt s[i.toNat]? fun b => k (.int .u8 b.toNat)) none
  | _ => none
 | _ => none
def qlP (cfg : Cfg) (t : TypeId) (x : AV) (f : Nat) (k : KV α) : Option α :=
 match cfg.td t with
 | some (.struct fs) =>
  match fs[f]? with
  | some (off, ft) => (match cfg.ty ft with | some ti => kAgg x fun cs => qbc ti.d.agg ti.sz cs off k | none => none)
  | none => none
 | _ => none
def qdX (cfg : Cfg) (t : TypeId) (x : AV) (f : Nat) (k : KV α) : Option α :=
 match cfg.td t with
 | some (.struct fs) =>
  match fs[f]? with
  | some (o, ft) =>
   match cfg.sz ft with
   | some (_ + 1) => (match x with | .ptr id r off => k (.ptr id r (off + o)) | .cptr cs off => k (.cptr cs (off + o)) | .rpt id cs off => k (.rpt id cs (off + o)) | _ => none)
   | _ => none
  | none => none
 | _ => none
def qgP (cfg : Cfg) (nid : Option Nat) (src dst : TypeId) (x : AV) (H : AH) (k : KH α) : Option α :=
 match cfg.td src, cfg.td dst with
 | some (.int _), some (.int kd) => (match x with | .int _ n => k (.int kd (kd.wrap n)) H | _ => none)
 | some .str, some .str => kStr x fun s => k (.str s) H
 | some .str, some (.slice e) =>
  match cfg.td e with
  | some (.int .u8) => kStr x fun s => kNew nid H (.rows true 1 (zl s)) fun i H' => k (.ms i 0 s.length) H'
  | _ => none
 | some (.slice e), some .str =>
  match cfg.td e with
  | some (.int .u8) => kOpt (x8 H 1 x) fun rows => kOpt (xP rows) fun bs => k (.str bs) H
  | _ => none
 | _, _ => none
def qja (H : AH) (n : Nat) (x : AV) (k : List (List AV) → Option α) : Option α :=
 match x with
 | .nilS => k []
 | .em => k []
 | .sl rows => cond (vR n rows) (k rows) none
 | .ms id off len => kBlk H id fun sz rs => cond (qun sz n && quw (off + len) rs.length) (k ((rs.drop off).take len)) none
 | _ => none
def kSrc (isStr : Bool) (H : AH) (n : Nat) (x : AV) (k : List (List AV) → Option α) : Option α :=
 cond isStr (kStr x fun b => cond (qun n 1) (k (zl b)) none) (qja H n x k)
def qnV (cfg : Cfg) (t : TypeId) : Bool := match cfg.td t with | some .str => true | _ => false
def qje (cfg : Cfg) (nid : Option Nat) (t xt : TypeId) (s x : AV) (H : AH) (k : KH α) : Option α :=
 match cfg.td t, cfg.td xt with
 | some (.slice e), some xd =>
  match cfg.ty e with
  | some ei =>
   cond (xd.notInt && Nat.blt 0 ei.sz && qun ei.zero.length ei.sz)
    (kSrc (qnV cfg xt) H ei.sz x fun news =>
     match s with
     | .nilS => cond news.isEmpty (k .nilS H) (cond (vD news.length ei.bytes) (kNew nid H (.rows (xx H x) ei.sz news) fun i H' => k (.ms i 0 news.length) H') none)
     | .ms id off len => qdZ H id fun d sz rs => cond (qun sz ei.sz && quw (off + len) rs.length && vD (len + news.length) ei.bytes)
       (kNew nid (H.set id .dead) (.rows (d && xx H x) sz ((rs.drop off).take len ++ news)) fun i H' => k (.ms i 0 (len + news.length)) H') none
     | _ => none) none
  | none => none
 | _, _ => none
def kLen (cfg : Cfg) (t : TypeId) (x : AV) (H : AH) (k : KV α) : Option α :=
 match cfg.td t with
 | some .str => kStr x fun s => k (.int .i64 s.length)
 | some (.slice _) => (match x with | .nilS => k (.int .i64 0) | .em => k (.int .i64 0) | .sl rows => k (.int .i64 rows.length) | .ms _ _ len => k (.int .i64 len) | .lsl rows => k (.int .i64 rows.length) | .rsl _ rows => k (.int .i64 rows.length) | _ => none)
 | some (.array n _) => k (.int .i64 n)
 | some (.map _ _) => (match x with | .nilM => k (.int .i64 0) | .mp id => (kOpt H[id]? fun b => match b with | .mp _ es => k (.int .i64 es.length) | _ => none) | _ => none)
 | _ => none
def qkD (cfg : Cfg) (nid : Option Nat) (t : TypeId) (len cap : AV) (H : AH) (k : KH α) : Option α :=
 match cfg.td t with
 | some (.slice e) =>
  match cfg.ty e with
  | some ei =>
   cond (yW ei) (kInt .i64 len fun n => kInt .i64 cap fun c =>
    cond (qj 0 n && qj n c && qj (c * ei.bytes) 140737488355328 && qj c 9223372036854775807) (kNew nid H (.rows true ei.sz (quB n.toNat ei.zero)) fun i H' => k (.ms i 0 n.toNat) H') none) none
  | none => none
 | _ => none
def qlJ (cfg : Cfg) (nid : Option Nat) (t : TypeId) (len cap : AV) (H : AH) (k : KH α) : Option α :=
 match cfg.wrt t with
 | false => qkD cfg nid t len cap H k
 | true =>
  match len, cap with
  | .int _ n, .int _ c => cond (decide (n = c)) (qkD cfg nid t len cap H fun v H' => match v with | .ms id off l => k (.wr l (.ms id off l)) H' | _ => none) none
  | _, _ => none
def kCap (cfg : Cfg) (t : TypeId) (x : AV) (k : KV α) : Option α :=
 match cfg.td t with
 | some (.slice _) => (match x with | .wr _ v => (match v with | .sl rows => k (.int .i64 rows.length) | .ms _ _ len => k (.int .i64 len) | _ => none) | _ => none)
 | _ => none
def qlQ (cfg : Cfg) (t : TypeId) (x : AV) (H : AH) (k : AH → Option α) : Option α :=
 match cfg.td t with
 | some (.slice e) =>
  match x with
  | .nilS => k H
  | .ms id off len =>
   match cfg.ty e with
   | some ei => qdZ H id fun d sz rs => cond (yW ei && qun sz ei.sz && quw (off + len) rs.length) (k (H.set id (.rows d sz (rs.take off ++ quB len ei.zero ++ rs.drop (off + len))))) none
   | none => none
  | _ => none
 | _ => none
def qoP (cfg : Cfg) (t xt : TypeId) (d s : AV) (H : AH) (k : KH α) : Option α :=
 match cfg.td t with
 | some (.slice e) =>
  match d with
  | .ms id off len =>
   match cfg.sz e with
   | some n => qdZ H id fun d sz rs => kSrc (qnV cfg xt) H n s fun news => cond (qun sz n && quw (off + len) rs.length && Nat.blt 0 sz)
     (k (.int .i64 (Nat.min news.length len)) (H.set id (.rows (d && xx H s) sz (rs.take off ++ news.take len ++ rs.drop (off + (news.take len).length))))) none
   | none => none
  | _ => none
 | _ => none
def kMpB (b : ABlk) (k : Bool → List (AV × AV) → Option α) : Option α :=
 match b with
 | .mp d es => k d es
 | _ => none
def qlI (H : AH) (x : AV) (k : Bool → List (AV × AV) → Option α) : Option α :=
 match x with
 | .nilM => k true []
 | .mp id => kOpt H[id]? fun b => kMpB b k
 | _ => none
def qaO (r : Option (Nat × AV)) (x : Option α) (y : Nat → AV → Option α) : Option α :=
 match r with
 | none => x
 | some p => y p.1 p.2
def qjd (cfg : Cfg) (t : TypeId) (x key : AV) (ok : Bool) (H : AH) (k : KV α) : Option α :=
 match cfg.td t with
 | some (.map kt et) =>
  match cfg.td kt with
  | some d => qlI H x fun df es => cond d.keyed (kOpt (xz d key es 0) fun r => qaO r
    (kOpt (cfg.zeroV et) fun z => k (cond ok (.tup [z, .bool false]) z))
    fun _ v => kTy1 (cond df cfg.dat noTy) cfg et v fun v => k (cond ok (.tup [v, .bool true]) v)) none
  | none => none
 | _ => none
def qjc (cfg : Cfg) (t : TypeId) (m key v : AV) (H : AH) (k : AH → Option α) : Option α :=
 match cfg.td t with
 | some (.map kt _) =>
  match m with
  | .mp id =>
   match cfg.td kt with
   | some d => kOpt H[id]? fun b => kMpB b fun d0 es => cond d.keyed (kOpt (xz d key es 0) fun r => qaO r
     (k (H.set id (.mp (d0 && (key.refsLt 0 && v.refsLt 0)) (es ++ [(key, v)]))))
     fun i _ => k (H.set id (.mp (d0 && (key.refsLt 0 && v.refsLt 0)) (es.set i (key, v))))) none
   | none => none
  | _ => none
 | _ => none
def qlK (cfg : Cfg) (nid : Option Nat) (t : TypeId) (r : Option AV) (H : AH) (k : KH α) : Option α :=
 match cfg.td t with
 | some (.map _ _) =>
  match r with
  | none => kNew nid H (.mp true []) fun i H' => k (.mp i) H'
  | some h => (match h with | .int _ _ => kNew nid H (.mp true []) fun i H' => k (.mp i) H' | _ => none)
 | _ => none
def kOp (cfg : Cfg) (nid : Option Nat) (o : Op) (ty : TypeId) (x : Operand → AV) (H : AH) (k : KH α) : Option α :=
 match o with
 | .move a | .assign a => k (x a) H
 | .pick c a b => ve (x c) fun t => qoL t (x a) (x b) fun v => k v H
 | .alloc t =>
  match cfg.ty t with
  | some ti => cond (vX ti.zero) (kNew nid H (qaq cfg t ti.zero) fun i H' => k (.ptr i 0 0) H') none
  | none => none
 | .box t a => qa6 (qpm cfg t) (x a) fun cs => kNew nid H (qct cfg t cs) fun i H' => k (.ptr i 0 0) H'
 | .build t parts =>
  match cfg.ty t with
  | some ti =>
   cond (vX ti.zero)
    (match ti.d with
    | .struct fs =>
     match qfJ cfg fs with
     | some ps => qid (fun i => ps[i]?) ti.zero (parts.toList.map fun p => (p.1, x p.2)) fun cs => k (.agg (cfg.fga t cs)) H
     | none => none
    | .array _ e =>
     match cfg.sz e with
     | some n => qid (fun i => some (i * n, n, qpm cfg e)) ti.zero (parts.toList.map fun p => (p.1, x p.2)) fun cs => k (.agg cs) H
     | none => none
    | _ => none) none
  | none => none
 | .buildSlice t len parts =>
  match cfg.td t with
  | some (.slice e) =>
   match cfg.ty e with
   | some ei =>
    cond (yW ei && quw (len * ei.sz) 16777216)
     (qkB ei.d.agg ei.sz (quB len ei.zero) (parts.toList.map fun p => (p.1, x p.2)) fun rows => kNew nid H (.rows (qA 0 rows) ei.sz rows) fun i H' => k (.ms i 0 len) H') none
   | none => none
  | _ => none
 | .load t a =>
  match cfg.ty t with
  | some ti => match x a with
   | .lpt cs off => qbc ti.d.agg ti.sz cs off fun v => kTy cfg.dat cfg t v fun v => cond ti.d.agg (k v.lendA H) (k v.lend H)
   | .rpt id cs off => kOpt H[id]? fun b => match b with
    | .reg => qbc ti.d.agg ti.sz cs off fun v => kTy cfg.dat cfg t v fun v => cond ti.d.agg (k (v.regA id) H) (k (v.regn id) H)
    | _ => qh8 ti.d.agg ti.sz H (.rpt id cs off) fun v => k v H
   | p => qh8 ti.d.agg ti.sz H p fun v => kTy (qt6 cfg H p) cfg t v fun v => k v H
  | none => none
 | .store t a v =>
  match cfg.ty t with
  | some ti => qlD ti.d.agg ti.sz H (x a) (x v) fun H' => k .junk H'
  | none => none
 | .nilCheck a => qe6 (x a) fun v => k v H
 | .binOp op t a b _ => kOpt (aBin cfg (litN a b) op t (x a) (x b)) fun v => kTy noTy cfg ty v fun v => k v H
 | .unOp op _ a => kOpt (aUn op (x a)) fun v => kTy noTy cfg ty v fun v => k v H
 | .convert s d a => qgP cfg nid s d (x a) H k
 | .makeFunc f first caps => k (.fn f (first.toList.map x) (caps.toList.map x)) H
 | .makeSlice t l c => qlJ cfg nid t (x l) (x c) H k
 | .makeMap t r => qlK cfg nid t (r.map x) H k
 | .lookup t a key ok => qjd cfg t (x a) (x key) ok H fun v => k v H
 | .mapUpdate t m key v | .insert t m key v => qjc cfg t (x m) (x key) (x v) H fun H' => k .junk H'
 | .slice t a lo hi mx => qlE cfg t H (x a) (lo.map x) (hi.map x) (mx.map x) fun v => k v H
 | .fieldAddr t a f => qdX cfg t (x a) f fun v => k v H
 | .field t a f => qlP cfg t (x a) f fun v => kTy noTy cfg ty v fun v => k v H
 | .indexAddr t a i => qdU cfg t H (x a).unwr (x i) fun v => k v H
 | .index t a i => qlN cfg t (x a) (x i) fun v => kTy noTy cfg ty v fun v => k v H
 | .extract t i => (match x t with | .tup vs => kOpt vs[i]? fun v => kTy noTy cfg ty v fun v => k v H | _ => none)
 | .call c =>
  match c.callee with
  | .builtin b =>
   match b, c.args.toList, c.argTypes.toList with
   | .len, [a], [t] => kLen cfg t (x a).unwr H fun v => k v H
   | .cap, [a], [t] => kCap cfg t (x a) fun v => k v H
   | .append, [s, a], [t, xt] => qje cfg nid t xt (x s) (x a) H k
   | .copy, [d, s], [t, xt] => qoP cfg t xt (x d).unwr (x s) H k
   | .clear, [a], [t] => qlQ cfg t (x a) H fun H' => k (.tup []) H'
   | .min, [a, b], _ => kOpt (aMin (fun b a => decide (b < a)) [x a, x b]) fun v => kTy noTy cfg ty v fun v => k v H
   | .max, [a, b], _ => kOpt (aMin (fun b a => decide (a < b)) [x a, x b]) fun v => kTy noTy cfg ty v fun v => k v H
   | _, _, _ => none
  | _ => none
 | _ => none
def qib (g s : Bool) (H : AH) (v : AV) (k : KV α) : Option α :=
 match v with
 | .ms id off len => kBlk H id fun _ rs => cond (quw (off + len) rs.length && (xk H id || qA 0 ((rs.drop off).take len))) (k (.sl ((rs.drop off).take len))) none
 | .nilS => k (cond g (.sl []) .nilS)
 | .em => k (cond g (.sl []) .em)
 | .wr n v => (match v with | .sl rows => k (cond g (.sl (rows.take n)) (.wr n (.sl rows))) | _ => none)
 | .ptr id r off => cond s (kBlk H id fun _ rs => kOpt rs[r]? fun row => cond (qt 0 row) (k (.cptr row off)) none) (k (.ptr id r off))
 | .rsl id rows => cond s (kOpt H[id]? fun b => match b with | .reg => k (.sl rows) | _ => none) (k (.rsl id rows))
 | a => k a
def qaj (g s : Bool) (H : AH) : List AV → (List AV → Option α) → Option α
 | [], k => k []
 | a :: l, k => qib g s H a fun a => qaj g s H l fun l => k (a :: l)
def qbM (s : Bool) (H : AH) (v : AV) (k : KV α) : Option α :=
 match v with
 | .agg cs => qaj true s H cs fun cs => k (.agg cs)
 | .tup cs => cond s (k ((AV.tup cs).fg)) (qaj true s H cs fun cs => k (.tup cs))
 | .fn f a b => cond s (qaj false s H a fun a => qaj false s H b fun b => k (.fn f a b)) (k (.fn f a b))
 | a => qib true s H a k
def qoM (H : AH) (v : AV) (k : KV α) : Option α :=
 match v with
 | .agg cs => qaj false false H cs fun cs => k (.agg cs)
 | .tup cs => qaj false false H cs fun cs => k (.tup cs)
 | a => qib false false H a k
def qe9 (H : AH) : List AV → (List AV → Option α) → Option α
 | [], k => k []
 | a :: l, k => qoM H a fun a => qe9 H l fun l => k (a :: l)
def qkH (H : AH) : List AV → (List AV → Option α) → Option α
 | [], k => k []
 | a :: l, k => qbM true H a fun a => qkH H l fun l => k (a :: l)
inductive OV where
 | nil
 | own (sz : Nat) (rs : List (List AV)) (off len : Nat)
def ovOf (r : AV × AH) : Option OV :=
 match r.1 with
 | .nilS => some .nil
 | .ms id off len =>
  match r.2[id]? with
  | some (.rows d sz rs) => if d || qA 0 rs then some (.own sz rs off len) else none
  | _ => none
 | _ => none
def qoC (r : AV × AH) : Option (OV × AV) :=
 match r.1 with
 | .tup [a, s] => cond s.scalar (match ovOf (a, r.2) with | some o => some (o, s) | none => none) none
 | _ => none
def EVd (cf : Orac) (f : Nat) (args : List AV) (sz : Nat) (rs : List (List AV)) : Option (AV × List (List AV)) := (cf (.f f) args [.rows true sz rs]).bind (ql0 sz)
def EVx (cf : Orac) (f : Nat) (args : List AV) (sz : Nat) (rs : List (List AV)) : Option (AV × List (List AV)) := (cf (.f f) args [.rows false sz rs]).bind (qhw sz)
open Classical in
noncomputable def EVk (cf : Orac) (f : Nat) (args : List AV) (sz : Nat) (rs : List (List AV)) : Option AV := (EVx cf f args sz rs).bind fun q => if q.2 = rs then some q.1 else none
theorem qqY {cf : Orac} {f : Nat} {args : List AV} {sz : Nat} {rs : List (List AV)} {v : AV} (h : EVx cf f args sz rs = some (v, rs)) : EVk cf f args sz rs = some v := by
 unfold EVk; rw [h]; exact if_pos rfl
theorem qrQ {cf : Orac} {f : Nat} {args : List AV} {sz : Nat} {rs : List (List AV)} {v : AV} (h : EVk cf f args sz rs = some v) : EVx cf f args sz rs = some (v, rs) := by
 unfold EVk at h
 obtain ⟨q, h1, h2⟩ := quf.1 h
 split at h2
 ·rename_i e
  rw [h1, ← Option.some.inj h2, ← e]
 ·cases h2
def EVs (cf : Orac) (f : Nat) (args : List AV) : Option AV := (cf (.f f) args []).map fun r => r.1
def EVf (cf : Orac) (f : Nat) (args : List AV) : Option AV := (cf (.f f) args []).map fun r => (r.1.frz r.1.msIds r.2).fg
def EVo (cf : Orac) (f : Nat) (args : List AV) : Option OV := (cf (.f f) args []).bind ovOf
def EVw (cf : Orac) (f : Nat) (args : List AV) : Option AV := (cf (.f f) args []).map fun r => r.1.frzW r.1.msIdsW r.2
def kWr (v : AV) (k : Nat → List (List AV) → Option α) : Option α :=
 match v with
 | .wr n (.sl rows) => k n rows
 | _ => none
def EVn (cf : Orac) (f : Nat) (args : List AV) : Option AV := (cf (.f f) args []).bind fun r => qkw r.2 r.1
def EVg (cf : Orac) (f : Nat) (args : List AV) : Option AV := (cf (.f f) args []).bind fun r => qhD r.2 r.1
def EVz (cf : Orac) (f : Nat) (a : AV) : Option Unit := (cf (.f f) [a] [.spl]).bind qi7
def EVb (cf : Orac) (f : Nat) (args : List AV) (T e : TypeId) (s : List UInt8) : Option (AV × List UInt8) := (cf (.f f) args [.bld T e s]).bind (qmn T e)
def qih (cf : Orac) (f : Nat) : List AV → Option α → Option α
 | [], k => k
 | a :: l, k => kOpt (EVz cf f a) fun _ => qih cf f l k
def EVj (cf : Orac) (f k : Nat) (args : List AV) (G : AH) : Option (AV × AH) := (cf (.f f) args G).bind (qhO k)
def qq (l : AH) (k : ABlk → AH → Option α) : Option α :=
 match l with
 | b :: bs => k b bs
 | [] => none
def vw (l : AH) (x : Option α) : Option α :=
 match l with
 | [] => x
 | _ => none
def qS (l : List (List AV)) (k : List AV → List (List AV) → Option α) : Option α :=
 match l with
 | b :: bs => k b bs
 | [] => none
def vg (l : List (List AV)) (x : Option α) : Option α :=
 match l with
 | [] => x
 | _ => none
def qr (b : ABlk) (k : Bool → Nat → List (List AV) → Option α) : Option α :=
 match b with
 | .rows d n rs => k d n rs
 | _ => none
def kMsE (v : AV) (k : Nat → Nat → Nat → Option α) : Option α :=
 match v with
 | .ms a b c => k a b c
 | _ => none
def kMpE (v : AV) (k : Nat → Option α) : Option α :=
 match v with
 | .mp a => k a
 | _ => none
def qh3 (v : AV) (k : Nat → Nat → Nat → Option α) : Option α :=
 match v with
 | .ptr a b c => k a b c
 | _ => none
def beqB (a b : Bool) : Bool := cond a b (!b)
def kShB (s : BSh) (b : ABlk) (k : ABlk → Option α) : Option α :=
 match s with
 | .row d cs => qr b fun d' n rs => cond (beqB d d' && qun n cs.length) (qS rs fun row rest => vg rest (k (.rows d cs.length [row]))) none
 | .rows d sz => qr b fun d' n rs => cond (beqB d d' && qun n sz) (k (.rows d sz rs)) none
 | .mp d => kMpB b fun d' es => cond (beqB d d') (k (.mp d es)) none
def kSh1 : List BSh → AH → (AH → Option α) → Option α
 | [], l, k => vw l (k [])
 | s :: ss, l, k => qq l fun b bs => kShB s b fun b => kSh1 ss bs fun bs => k (b :: bs)
def kShC (G : AH) (s : CSh) (c : AV) (k : KV α) : Option α :=
 match s with
 | .leaf s => qaa s c k
 | .sl j => kMsE c fun id off len => kBlk G j fun _ rs => cond (qun id j && (qun off 0 && qun len rs.length)) (k (.ms j 0 rs.length)) none
 | .mp j => kMpE c fun id => cond (qun id j) (k (.mp j)) none
 | .is v => cond (c.same v) (k v) none
 | .ptr j => qh3 c fun id r off => cond (qun id j && (qun r 0 && qun off 0)) (k (.ptr j 0 0)) none
def qkA (G : AH) : List CSh → List AV → (List AV → Option α) → Option α
 | [], l, k => kNil l (k [])
 | s :: ss, l, k => qc l fun c cs => kShC G s c fun v => qkA G ss cs fun vs => k (v :: vs)
def kShD (G : AH) (s : BSh) (b : ABlk) (k : ABlk → Option α) : Option α :=
 match s with
 | .row _ cs => qr b fun d' n rs => qS rs fun row rest => vg rest (qkA G cs row fun cs' => k (.rows d' n [cs']))
 | _ => k b
def kSh2 (G : AH) : List BSh → AH → (AH → Option α) → Option α
 | [], l, k => vw l (k [])
 | s :: ss, l, k => qq l fun b bs => kShD G s b fun b => kSh2 G ss bs fun bs => k (b :: bs)
def kShp (ss : List BSh) (l : AH) (k : AH → Option α) : Option α := kSh1 ss l fun G => kSh2 G ss G k
def EVq (cf : Orac) (f : Nat) (args : List AV) : Option (OV × AV) := (cf (.f f) args []).bind qoC
def kOwn (o : OV) (x : Option α) (k : Nat → List (List AV) → Nat → Nat → Option α) : Option α :=
 match o with
 | .nil => x
 | .own sz rs off len => k sz rs off len
inductive MV where
 | unit
 | nil
 | sl (off len : Nat)
 | int (k : IntKind) (n : Int)
 | bool (b : Bool)
def mvOf : AV → Option MV
 | .tup [] => some .unit
 | .nilS => some .nil
 | .ms id off len => if qun id 0 then some (.sl off len) else none
 | .int k n => some (.int k n)
 | .bool b => some (.bool b)
 | _ => none
def MV.av (id : Nat) : MV → AV
 | .unit => .tup []
 | .nil => .nilS
 | .sl off len => .ms id off len
 | .int k n => .int k n
 | .bool b => .bool b
def EVm (cf : Orac) (f : Nat) (args : List AV) (sz : Nat) (rs : List (List AV)) : Option (MV × List (List AV)) :=
 (cf (.f f) args [.rows true sz rs]).bind fun r => (qhQ sz r).bind fun q => (mvOf q.1).map fun v => (v, q.2)
def EVu (cf : Orac) (f : Nat) (args : List AV) : Option MV := (cf (.f f) args []).bind fun r => if r.1.refsLt 0 then mvOf r.1 else none
def kMSl (v : MV) (x : Option α) (k : Nat → Nat → Option α) : Option α :=
 match v with
 | .nil => x
 | .sl off len => k off len
 | _ => none
def qbq (v : MV) (x : Option α) : Option α :=
 match v with
 | .unit => x
 | _ => none
def qkF (kd : IntKind) (v : MV) (k : Int → Option α) : Option α :=
 match v with
 | .int q n => cond (zK q kd) (k n) none
 | _ => none
def qlL (v : MV) (k : Bool → Option α) : Option α :=
 match v with
 | .bool b => k b
 | _ => none
def qp3 (cfg : Cfg) (ty : TypeId) : Nat :=
 match cfg.td ty with
 | some (.slice _) => 1
 | some (.int _) => 2
 | some .bool => 3
 | _ => 0
def qrY (cfg : Cfg) (ty : TypeId) : IntKind :=
 match cfg.td ty with
 | some (.int k) => k
 | _ => .i64
def qkE (kd : Nat) (ik : IntKind) (id : Nat) (v : MV) (k : KV α) : Option α :=
 match kd with
 | 0 => qbq v (k (.tup []))
 | 1 => kMSl v (k .nilS) fun off len => k (.ms id off len)
 | 2 => qkF ik v fun n => k (.int ik n)
 | _ => qlL v fun b => k (.bool b)
noncomputable def qfN (cfg : Cfg) (cf : Orac) (kf : KF α) (nid : Option Nat) (ty : TypeId) (t : Tgt) (args : List AV) (H : AH) (k : KH α) : Option α :=
 match t with
 | .y id => kf (.y id) args H fun r => kOpt (qab nid H.length r.1 r.2) fun r => kTy noTy cfg ty r.1 fun v => k v r.2
 | .f f =>
  match cfg.mode f with
  | .scal => qkH H args fun al => cond (qt 0 al) (match cfg.inl f with
   | some _ => kf (.f f) al [] fun r => kTy noTy cfg ty r.1 fun v => cond v.scalar (k v H) none
   | none => kOpt (EVs cf f al) fun v => kTy noTy cfg ty v fun v => cond v.scalar (k v H) none) none
  | .pfrz => cond (qt 0 (args.map AV.fg)) (match cfg.inl f with
   | some _ => kf (.f f) (args.map AV.fg) [] fun r => qbM false r.2 r.1 fun v => kTy qbR cfg ty v fun v => cond (v.refsLt 0) (k v H) none
   | none => kOpt (EVf cf f (args.map AV.fg)) fun v => kTy qbR cfg ty v fun v => cond (v.refsLt 0) (k v H) none) none
  | .wfrz => cond (qt 0 args) (kOpt (EVw cf f args) fun v => match cfg.td ty with
    | some (.slice _) => kWr v fun n rows => k (.wr n (.sl rows)) H
    | _ => kTy noTy cfg ty v fun v => cond (v.refsLt 0) (k v H) none) none
  | .nfrz => cond (qt 0 (args.map AV.fg)) (kOpt (EVn cf f (args.map AV.fg)) fun V => kTy qbR cfg ty V fun V => k V.lendT H) none
  | .pown => match cfg.tup ty with
   | some [_, t2] => cond (qt 0 args) (kOpt (EVq cf f args) fun q => kTy1 noTy cfg t2 q.2 fun s => kOwn q.1 (k (.tup [.nilS, s]) H) fun sz rs off len => kNew nid H (.rows true sz rs) fun i H' => k (.tup [.ms i off len, s]) H') none
   | _ => cond (qt 0 args) (match cfg.inl f with
   | some _ => kf (.f f) args [] fun r => kOpt (ovOf r) fun o => kOwn o (k .nilS H) fun sz rs off len => kNew nid H (.rows true sz rs) fun i H' => k (.ms i off len) H'
   | none => kOpt (EVo cf f args) fun o => kOwn o (k .nilS H) fun sz rs off len => kNew nid H (.rows true sz rs) fun i H' => k (.ms i off len) H') none
  | .inpl =>
   match qM 0 args with
   | id :: l => cond (vO [id] l) (kOpt H[id]? fun b => match b with
     | .rows d sz rs => cond (d || qA 0 rs) (kOpt (EVm cf f (renL (fun _ => 0) args) sz rs) fun q => qkE (qp3 cfg ty) (qrY cfg ty) id q.1 fun v => k v (H.set id (.rows true sz q.2))) none
     | _ => none) none
   | [] => cond (qt 0 args) (kOpt (EVu cf f args) fun v => qkE (qp3 cfg ty) (qrY cfg ty) 0 v fun v => k v H) none
  | .imp => kf (.f f) args H fun r => kOpt (qab nid H.length r.1 r.2) fun r => kTy noTy cfg ty r.1 fun v => k v r.2
  | .ifrz => kf (.f f) args H fun r => kOpt (qab nid H.length (r.1.frz r.1.msIds r.2) (qR r.1.msIds r.2)) fun r => kTy noTy cfg ty r.1 fun v => k v r.2
  | .inpf =>
   match qM 0 args with
   | id :: l => cond (vO [id] l) (kOpt H[id]? fun b => match b with
     | .rows d sz rs => cond (d || qA 0 rs) (kOpt (EVd cf f (renL (fun _ => 0) args) sz rs) fun q => kTy qbR cfg ty q.1 fun v => k v (H.set id (.rows true sz q.2))) none
     | _ => none) none
   | [] => none
  | .slf =>
   match qM 0 args with
   | id :: l => cond (vO [id] l) (kOpt H[id]? fun b => match b with
     | .rows _ sz rs => cond (vO [id] (xw 0 rs)) (kOpt (EVk cf f (renL (fun _ => 0) args) sz (renR (fun _ => 0) rs)) fun q => kTy qbR cfg ty q fun v => k v (H.set id (.rows false sz (renR (fun _ => id) (renR (fun _ => 0) rs))))) none
     | _ => none) none
   | [] => none
  | .rgn => cond (qt 0 (args.map AV.fg)) (kOpt (EVg cf f (args.map AV.fg)) fun V => kTy qbR cfg ty V fun V => kNew nid H .reg fun i H' => k (rgIn i V) H') none
  | .over =>
   match args with
   | [a] =>
    (match qM 0 a.alts with
    | id :: l => cond (vO [id] l) (kOpt H[id]? fun b => match b with
      | .reg => qih cf f (renL (fun _ => 0) a.alts) (k (.tup []) (H.set id .spl))
      | .spl => qih cf f (renL (fun _ => 0) a.alts) (k (.tup []) H)
      | _ => none) none
    | [] => none)
   | _ => none
  | .bld =>
   match qM 0 args with
   | id :: l => cond (vO [id] l) (kOpt H[id]? fun b => match b with
     | .bld T e s => kOpt (EVb cf f (renL (fun _ => 0) args) T e s) fun q => kTy qbR cfg ty q.1 fun v => k v (H.set id (.bld T e q.2))
     | _ => none) none
   | [] => none
  | .sub => kOpt (zz H args) fun s => kf (.f f) (renL (q4 0 s.1) args) s.2 fun r => kOpt (qhs s.1.length r) fun q => kOpt (xR nid H (q.2.length - s.1.length)) fun p => kTy noTy cfg ty (q.1.ren (vZ (s.1 ++ p.1))) fun v => k v (x7 p.2 (s.1 ++ p.1) q.2)
  | .obj => kOpt (zz H args) fun s => cond (quw (objK (cfg.okeep f) (renL (q4 0 s.1) args)) s.1.length)
    (kOpt (EVj cf f (objK (cfg.okeep f) (renL (q4 0 s.1) args)) (qkv (objK (cfg.okeep f) (renL (q4 0 s.1) args)) (cfg.olift f) (renL (q4 0 s.1) args) s.2).1 (qkv (objK (cfg.okeep f) (renL (q4 0 s.1) args)) (cfg.olift f) (renL (q4 0 s.1) args) s.2).2) fun q =>
     kShp (cfg.shp f) q.2 fun G => kOpt (xR nid H (G.length - objK (cfg.okeep f) (renL (q4 0 s.1) args))) fun p => kTy qbR cfg ty q.1 fun v =>
      k ((v.ren (xS (objK (cfg.okeep f) (renL (q4 0 s.1) args)) s.1.length)).ren (vZ (s.1 ++ p.1))) (x7 p.2 (s.1 ++ p.1) (xK (objK (cfg.okeep f) (renL (q4 0 s.1) args)) s.1.length G))) none
def kTgt (f : AV) (args : List AV) (k : Tgt → List AV → Option α) : Option α :=
 match f with
 | .fn (.func g) first caps => k (.f g) (first ++ args ++ caps)
 | .yld id => k (.y id) args
 | _ => none
def opEq : Operand → Operand → Bool
 | .tmp a, .tmp b => qun a b
 | _, _ => false
def frzX : List Operand → List AV → (Operand → AV) → Operand → AV
 | b :: l, v :: al, x, a => cond (opEq b a) v (frzX l al x a)
 | _, _, x, a => x a
noncomputable def qkG (cfg : Cfg) (nid : Option Nat) (o : Oper) (x : Operand → AV) (H : AH) (k : KH α) : Option α :=
 qe9 H (o.op.operands.toList.map x) fun al =>
  kOp cfg nid o.op o.type (frzX o.op.operands.toList al fun a => (x a).frz (o.op.operands.toList.flatMap fun a => (x a).msIds) H) (qR (o.op.operands.toList.flatMap fun a => (x a).msIds) H) k
noncomputable def qkC (cfg : Cfg) (cf : Orac) (kf : KF α) (frz : Bool) (nid : Option Nat) (o : Oper) (x : Operand → AV) (H : AH) (k : KH α) : Option α :=
 cond frz
  (match o.op with
   | .call c =>
    match c.callee with
    | .value f => qe9 H (c.args.toList.map x) fun al => kTgt ((x f).frz (o.op.operands.toList.flatMap fun a => (x a).msIds) H) al fun t al =>
      qfN cfg cf kf nid o.type t al (qR (o.op.operands.toList.flatMap fun a => (x a).msIds) H) k
    | _ => qkG cfg nid o x H k
   | _ => qkG cfg nid o x H k)
  (match o.op with
   | .call c =>
    match c.callee with
    | .value f => kTgt (x f) (c.args.toList.map x) fun t al => qfN cfg cf kf nid o.type t al H k
    | _ => kOp cfg nid o.op o.type x H k
   | _ => kOp cfg nid o.op o.type x H k)
def qfL (ops : Array Oper) (fr : List AV) (o : Oper) (k : Bool → List AV → Option α) : Option α :=
 match o.guard with
 | none => k true fr
 | some (j, want) =>
  match (ops[j]?).bind (·.dst) with
  | some d => kOpt fr[d]? fun v => match v with
   | .tup l => (match l with | [] => k false fr | _ => none)
   | v => ve v fun b => cond b (k want (fr.set d (.bool true))) (k (!want) (fr.set d (.bool false)))
  | none => none
noncomputable def kOps (cfg : Cfg) (cf : Orac) (kf : KF α) (f rid : Nat) (ops : Array Oper) : Nat → List Oper → List AV → AH → (List AV → AH → Option α) → Option α
 | _, [], fr, H, k => k fr H
 | n, o :: rest, fr, H, k => qfL ops fr o fun b fr =>
   cond b (qkC cfg cf kf (cfg.frz f rid n) none o (opd fr) H fun v H' => kOps cfg cf kf f rid ops (n + 1) rest (put fr o.dst v) H' k) (kOps cfg cf kf f rid ops (n + 1) rest (put fr o.dst (.tup [])) H k)
noncomputable def qif (cfg : Cfg) (cf : Orac) (kf : KF α) (f rid : Nat) (ops : Array Oper) : Nat → Nat → List Oper → List AV → AH → (List DR → List AV → AH → Option α) → Option α
 | _, _, [], fr, H, k => k [] fr H
 | n, at_, o :: rest, fr, H, k => qfL ops fr o fun b fr =>
   cond b
    (qkC cfg cf kf (cfg.frz f rid n) (some at_) o (opd fr) H fun v H' =>
     qif cfg cf kf f rid ops (n + 1) (at_ + qbp cfg o) rest (put fr o.dst v) H' fun fps fr' H'' => k (drOf cfg (cfg.frz f rid n) at_ o (opd fr) H v H' :: fps) fr' H'')
    (qif cfg cf kf f rid ops (n + 1) (at_ + qbp cfg o) rest (put fr o.dst (.tup [])) H fun fps fr' H'' => k (drNo H :: fps) fr' H'')
open Classical in
noncomputable def CUT {β : Type} (p : β) : Option β := if ∃ q : β, some q = some p then some p else none
theorem qtG {β : Type} (p : β) : CUT p = some p := if_pos ⟨p, rfl⟩
noncomputable def yZ (ts : Option (List Tmp)) (fr : List AV) (H : AH) (g : List AV → AH → Option α) : Option α :=
 match ts with
 | none => g fr H
 | some ks => kOpt (CUT (vE (some ks) fr, H)) fun p => g p.1 p.2
theorem qne {ts : Option (List Tmp)} {fr : List AV} {H : AH} {g : List AV → AH → Option α} {r : α} (h : yZ ts fr H g = some r) : g (vE ts fr) H = some r := by
 cases ts with
 | none => exact h
 | some ks =>
  have h : kOpt (CUT (vE (some ks) fr, H)) (fun p => g p.1 p.2) = some r := h
  rw [qtG] at h
  exact h
def kSeq (nx : List AV → AH → Option α) (k : KE α) : KE α := fun e fr H =>
 match e with
 | .normal => nx fr H
 | e => k e fr H
def xu (id : Nat) (k : KE α) : KE α := fun e fr H =>
 match e with
 | .exit id' => cond (qun id' id) (k .normal fr H) (k (.exit id') fr H)
 | e => k e fr H
def qh1 (k : KE α) : KE α := fun e fr H =>
 match e with
 | .goto _ => none
 | e => k e fr H
def kAft (ts : Option (List Tmp)) (k : KE α) (r : Ex × List AV × AH) : Option α := k r.1 (vE ts r.2.1) r.2.2
def known (fr : List AV) (c : Operand) (b : Bool) : List AV :=
 match c with
 | .tmp d => fr.set d (.bool b)
 | _ => fr
def qr0 (b : ABlk) (k : Option Code → Option α) : Option α :=
 match b with
 | .loop _ _ _ _ _ pend st => (match st with | .busy => none | _ => k pend)
 | _ => none
def qlG (pend : Option Code) (k : KE α) (fr : List AV) (H : AH) : Option α :=
 match pend with
 | none => k .normal fr H
 | some c => (match c with | .ret => k .ret fr H | .exit id => k (.exit id) fr H | _ => none)
def yh (bs n : Nat) (fr : List AV) (k : KE α) (H : AH) : Option α :=
 kOpt H[n]? fun b => qr0 b fun pend => qlG pend k (gc bs fr (H.set n .dead)).1 (gc bs fr (H.set n .dead)).2
def qqd (cfg : Cfg) (_cf : Orac) (kf : KF α) (f : Nat) (rd : Option Nat) (bs : Nat) (g : AV) (ps : List Tmp) (assign body : Code) (fr : List AV) (H : AH) (k : KE α) : Option α :=
 cond (qlp rd H)
  (match g with
   | .fn (.func h) first caps => cond (cfg.ext h).isNone
     (kf (.f h) (first ++ [.yld H.length] ++ caps) (H ++ [.loop f (vE (cfg.keepIn f (qg body)) fr) ps assign body none .ready]) fun r =>
      yh bs H.length (vE (cfg.keepOut f (qg body)) fr) k r.2) none
   | _ => none) none
noncomputable def vB (cfg : Cfg) (cf : Orac) (kf : KF α) (f : Nat) (rd : Option Nat) (bs : Nat) : Code → List AV → AH → KE α → Option α
 | .skip, fr, H, k => k .normal fr H
 | .label _, fr, H, k => k .normal fr H
 | .region id ops draw, fr, H, k =>
  cond draw
   (cond (zj ops)
    (qif cfg cf kf f id ops 0 H.length ops.toList fr (H ++ quB (places cfg ops.toList) .res) fun fps fr' H' => cond (qbZ (ancs [] ops.toList) (H ++ quB (places cfg ops.toList) .res) fps) (k .normal fr' H') none) none)
   (kOps cfg cf kf f id ops 0 ops.toList fr H fun fr' H' => k .normal fr' H')
 | .seq a b, fr, H, k => vB cfg cf kf f rd bs a fr H (kSeq (fun fr H => yZ (cfg.cut f (qg b)) fr H fun fr H => vB cfg cf kf f rd bs b fr H k) k)
 | .cond c a b, fr, H, k => ve (opd fr c) fun t => cond t (vB cfg cf kf f rd bs a (known fr c true) H k) (vB cfg cf kf f rd bs b (known fr c false) H k)
 | .block id a, fr, H, k => vB cfg cf kf f rd bs a fr H (xu id k)
 | .loop a, fr, H, k => kOpt (LOOP bs (cfg.keepIn f (qg a)) (cfg.lift f (qg a)) (evC cfg cf f rd bs a) (x9 bs (cfg.keepIn f (qg a)) (cfg.lift f (qg a)) fr H)) (kAft (cfg.keepOut f (qg a)) k)
 | .scope a, fr, H, k => vB cfg cf kf f rd bs a fr H (qh1 k)
 | .exit id, fr, H, k => k (.exit id) fr H
 | .goto _, _, _, _ => none
 | .ret, fr, H, k => k .ret fr H
 | .rangeFunc g ps assign body, fr, H, k => qqd cfg cf kf f rd bs (opd (vt (cfg.lift f (qg body)) fr H).1 g) ps.toList assign body (vt (cfg.lift f (qg body)) fr H).1 (vt (cfg.lift f (qg body)) fr H).2 k
 | .refuse _, _, _, _ => none
inductive Ko where
 | seq (c : Code)
 | block (id : Nat)
 | scope
noncomputable def kRun (cfg : Cfg) (cf : Orac) (kf : KF α) (f : Nat) (rd : Option Nat) (bs : Nat) (k : KE α) : List Ko → KE α
 | [] => k
 | .seq c :: s => kSeq (fun fr H => yZ (cfg.cut f (qg c)) fr H fun fr H => vB cfg cf kf f rd bs c fr H (kRun cfg cf kf f rd bs k s)) (kRun cfg cf kf f rd bs k s)
 | .block id :: s => xu id (kRun cfg cf kf f rd bs k s)
 | .scope :: s => qh1 (kRun cfg cf kf f rd bs k s)
def kRes (cfg : Cfg) (fr : List AV) (H : AH) : List ResultVar → (List AV → Option α) → Option α
 | [], k => k []
 | .tmp t :: l, k => kRes cfg fr H l fun vs => k (fr.getD t .junk :: vs)
 | .cell a t :: l, k =>
  match cfg.ty t with
  | some ti => qh8 ti.d.agg ti.sz H (fr.getD a .junk) fun v => kTy noTy cfg t v fun v => kRes cfg fr H l fun vs => k (v :: vs)
  | none => none
variable {α : Type} {r : α} {H : AH}
theorem qb {b : Bool} {x : Option α} (h : cond b x none = some r) : b = true ∧ x = some r := by cases b <;> simp_all
theorem qo8 {b : Bool} {x : Option α} (h : cond b none x = some r) : b = false ∧ x = some r := by cases b <;> simp_all
theorem xX {b : Bool} {x y : Option α} (h : cond b x y = some r) : (b = true ∧ x = some r) ∨ (b = false ∧ y = some r) := by cases b <;> simp_all
theorem qe3 {a b : IntKind} (h : zK a b = true) : a = b := by simpa [zK] using h
theorem vH {a b : Int} : qj a b = true ↔ a ≤ b := by simp [qj]
theorem zI {a b : Int} : qp a b = true ↔ a < b := by simp [qp]
theorem qbr {kd : IntKind} {v : AV} {k : Int → Option α} (h : kInt kd v k = some r) : ∃ n, v = .int kd n ∧ k n = some r := by
 unfold kInt at h
 split at h
 ·obtain ⟨h1, h2⟩ := qb h
  rw [qe3 h1]; exact ⟨_, rfl, h2⟩
 ·cases h
theorem qbO {v : AV} {k : Bool → Option α} (h : ve v k = some r) : ∃ b, v = .bool b ∧ k b = some r := by
 unfold ve at h; split at h
 ·exact ⟨_, rfl, h⟩
 ·cases h
theorem zL {v : AV} {k : List UInt8 → Option α} (h : kStr v k = some r) : ∃ b, v = .str b ∧ k b = some r := by
 unfold kStr at h; split at h
 ·exact ⟨_, rfl, h⟩
 ·cases h
theorem qcI {v : AV} {k : List AV → Option α} (h : kAgg v k = some r) : ∃ b, v = .agg b ∧ k b = some r := by
 unfold kAgg at h; split at h
 ·exact ⟨_, rfl, h⟩
 ·cases h
theorem qk {β : Type} {o : Option β} {k : β → Option α} (h : kOpt o k = some r) : ∃ b, o = some b ∧ k b = some r := by
 unfold kOpt at h; split at h
 ·exact ⟨_, rfl, h⟩
 ·cases h
theorem zh {l : List AV} {k : AV → List AV → Option α} (h : qc l k = some r) : ∃ a b, l = a :: b ∧ k a b = some r := by
 unfold qc at h; split at h
 ·exact ⟨_, _, rfl, h⟩
 ·cases h
theorem qcG {l : List AV} {x : Option α} (h : kNil l x = some r) : l = [] ∧ x = some r := by
 unfold kNil at h; split at h
 ·exact ⟨rfl, h⟩
 ·cases h
theorem qc3 {s : FK} {v : AV} {k : KV α} (h : qaa s v k = some r) : k v = some r := by
 cases s with
 | int kd => obtain ⟨n, rfl, h1⟩ := qbr h; exact h1
 | bool => obtain ⟨n, rfl, h1⟩ := qbO h; exact h1
 | str => obtain ⟨n, rfl, h1⟩ := zL h; exact h1
 | sl =>
  have h : kSl v (fun rows => k (.sl rows)) = some r := h
  unfold kSl at h
  split at h
  ·exact h
  ·cases h
 | any => exact h
theorem qc4 : ∀ {ss : List FK} {l : List AV} {k : List AV → Option α}, qaQ ss l k = some r → k l = some r
 | [], l, k, h => by
  obtain ⟨rfl, h1⟩ := qcG h
  exact h1
 | s :: ss, l, k, h => by
  obtain ⟨a, b, rfl, h1⟩ := zh h
  exact qc4 (k := fun vs => k (a :: vs)) (qc3 (k := fun v => qaQ ss b fun vs => k (v :: vs)) h1)
theorem qoQ {l0 : List AV} {k : List AV → Option α} (h0 : qaQ [.int .i64, .int .i64, .str, .sl] l0 k = some r) : qa0 l0 = true ∧ k l0 = some r := by
 refine ⟨?_, qc4 h0⟩
 simp only [qaQ] at h0
 obtain ⟨a, l1, rfl, h1⟩ := zh h0
 obtain ⟨n, rfl, h2⟩ := qbr (k := fun n => qc l1 fun c cs => qaa (.int .i64) c fun v => qc cs fun c cs => qaa .str c fun v1 => qc cs fun c cs => qaa .sl c fun v2 => kNil cs (k [.int .i64 n, v, v1, v2])) h1
 obtain ⟨a, l2, rfl, h3⟩ := zh h2
 obtain ⟨m, rfl, h4⟩ := qbr (k := fun m => qc l2 fun c cs => qaa .str c fun v1 => qc cs fun c cs => qaa .sl c fun v2 => kNil cs (k [.int .i64 n, .int .i64 m, v1, v2])) h3
 obtain ⟨a, l3, rfl, h5⟩ := zh h4
 obtain ⟨s, rfl, h6⟩ := zL (k := fun s => qc l3 fun c cs => qaa .sl c fun v2 => kNil cs (k [.int .i64 n, .int .i64 m, .str s, v2])) h5
 obtain ⟨a, l4, rfl, h7⟩ := zh h6
 have h8 : kSl a (fun rows => kNil l4 (k [.int .i64 n, .int .i64 m, .str s, .sl rows])) = some r := h7
 unfold kSl at h8
 split at h8
 ·obtain ⟨rfl, _⟩ := qcG h8
  rfl
 ·cases h8
theorem qcE {p : TypeId → Bool} {cfg : Cfg} {t : TypeId} {v : AV} {k : KV α} (h : kTy1 p cfg t v k = some r) : k v = some r := by
 unfold kTy1 at h
 have agg : ∀ {ss : List FK}, (kAgg v fun cs => qaQ ss cs fun vs => k (.agg vs)) = some r → k v = some r := by
  intro ss h
  obtain ⟨cs, rfl, h⟩ := qcI h
  exact qc4 (k := fun vs => k (.agg vs)) h
 split at h
 ·split at h
  ·split at h
   ·exact agg h
   ·exact h
  ·split at h
   ·exact agg h
   ·exact h
  ·exact qc3 h
 ·exact h
theorem qjP {p : TypeId → Bool} {cfg : Cfg} : ∀ {ts : List TypeId} {l : List AV} {k : List AV → Option α}, kTys p cfg ts l k = some r → k l = some r
 | [], l, k, h => by
  rw [kTys] at h
  obtain ⟨h1, h2⟩ := qcG h
  rw [h1]; exact h2
 | t :: ts, l, k, h => by
  rw [kTys] at h
  obtain ⟨a, b, rfl, h⟩ := zh h
  have h1 := qcE (k := fun v => kTys p cfg ts b fun vs => k (v :: vs)) h
  exact qjP (k := fun vs => k (a :: vs)) h1
theorem vh {p : TypeId → Bool} {cfg : Cfg} {t : TypeId} {v : AV} {k : KV α} (h : kTy p cfg t v k = some r) : k v = some r := by
 unfold kTy at h
 split at h
 ·unfold kTup at h
  split at h
  ·exact qjP (k := fun vs => k (.tup vs)) h
  ·cases h
 ·exact qcE h
theorem xD {nid : Option Nat} {b : ABlk} {k : Nat → AH → Option α} (h : kNew nid H b k = some r) : ∃ i H', aNew nid H b = some (i, H') ∧ k i H' = some r := by
 unfold kNew at h
 unfold aNew
 cases nid with
 | none => exact ⟨_, _, rfl, h⟩
 | some i =>
  simp only at h ⊢
  obtain ⟨x, hx, h⟩ := qk h
  rw [hx]
  split at h
  ·exact ⟨_, _, rfl, h⟩
  ·cases h
theorem qlT {v : AV} (h : v.isCell = true) : v.cells = some [v] := by cases v <;> simp_all [AV.isCell, AV.cells]
theorem qak {agg : Bool} {v : AV} {k : List AV → Option α} (h : qa6 agg v k = some r) : ∃ cs, v.cells = some cs ∧ k cs = some r := by
 unfold qa6 at h
 rcases xX h with ⟨_, h⟩ | ⟨_, h⟩
 ·obtain ⟨cs, rfl, h⟩ := qcI h
  obtain ⟨h1, h2⟩ := qb h
  exact ⟨cs, by simp [AV.cells, h1], h2⟩
 ·obtain ⟨h1, h2⟩ := qb h
  exact ⟨_, qlT h1, h2⟩
theorem qoK {t : Bool} {a b : AV} {k : KV α} (h : qoL t a b k = some r) : k (if t then a else b) = some r := by
 have sp : ∀ {a b : AV}, cond t (k a) (k b) = some r → k (if t then a else b) = some r := by
  intro a b h
  cases t <;> simpa using h
 unfold qoL at h
 split at h
 ·cases t <;> simpa using h
 ·rcases xX h with ⟨h1, h⟩ | ⟨_, h⟩
  ·have := qe3 h1; subst this
   cases t <;> simpa using h
  ·exact sp h
 ·exact sp h
theorem qdW {place : Nat → Option (Nat × Nat × Bool)} {place' : Nat → Option (Nat × Nat)} (hp : ∀ i off n g, place i = some (off, n, g) → place' i = some (off, n)) : ∀ {parts : List (Nat × AV)} {cells : List AV} {k : List AV → Option α},
  qid place cells parts k = some r → ∃ cs, qbk place' cells parts = some cs ∧ k cs = some r
 | [], cells, k, h => ⟨cells, rfl, h⟩
 | (i, v) :: rest, cells, k, h => by
  rw [qid] at h
  split at h
  ·rename_i off n g hi
   obtain ⟨cs, h1, h⟩ := qak h
   obtain ⟨h2, h⟩ := qb h
   obtain ⟨cs', h3, h4⟩ := qdW hp h
   refine ⟨cs', ?_, h4⟩
   rw [que] at h2
   rw [qbk, hp _ _ _ _ hi, h1]
   simp only
   rw [if_pos]
   ·exact h3
   ·rw [que, beq_iff_eq]
    exact ⟨qui h2.1, h2.2⟩
  ·cases h
theorem qhJ {cfg : Cfg} : ∀ {fs : List (Nat × TypeId)} {ps : List (Nat × Nat × Bool)}, qfJ cfg fs = some ps → ∃ qs, zH cfg fs = some qs ∧ ∀ (i off n : Nat) (g : Bool), ps[i]? = some (off, n, g) → qs[i]? = some (off, n)
 | [], ps, h => by cases h; exact ⟨[], rfl, fun i off n g h => by simp at h⟩
 | (off, t) :: l, ps, h => by
  rw [qfJ] at h
  split at h
  ·rename_i n ps' h1 h2
   cases h
   obtain ⟨qs, h3, h4⟩ := qhJ h2
   refine ⟨(off, n) :: qs, by rw [zH, h1, h3], fun i o m g hi => ?_⟩
   cases i with
   | zero => simp at hi ⊢; exact ⟨hi.1, hi.2.1⟩
   | succ i => simpa using h4 i o m g (by simpa using hi)
  ·cases h
theorem qh2 {agg : Bool} {n : Nat} : ∀ {parts : List (Nat × AV)} {rows : List (List AV)} {k : List (List AV) → Option α}, qkB agg n rows parts k = some r → ∃ rs, qaY n rows parts = some rs ∧ k rs = some r
 | [], rows, k, h => ⟨rows, rfl, h⟩
 | (i, v) :: rest, rows, k, h => by
  rw [qkB] at h
  obtain ⟨cs, h1, h⟩ := qak h
  obtain ⟨h2, h⟩ := qb h
  obtain ⟨rs, h3, h4⟩ := qh2 h
  refine ⟨rs, ?_, h4⟩
  rw [que] at h2
  rw [qaY, h1]
  simp only
  rw [if_pos]
  ·exact h3
  ·rw [que, beq_iff_eq]
   exact ⟨qui h2.1, h2.2⟩
theorem zM {id : Nat} {k : Nat → List (List AV) → Option α} (h : kBlk H id k = some r) : ∃ sz rs, qX H id = some (sz, rs) ∧ k sz rs = some r := by
 unfold kBlk at h
 obtain ⟨b, hb, h⟩ := qk h
 unfold qX
 rw [hb]
 split at h
 ·exact ⟨_, _, rfl, h⟩
 ·exact ⟨_, _, rfl, h⟩
 ·cases h
theorem qaN {g s : Bool} {v : AV} {k : KV α} (h : qib g s H v k = some r) : (∀ ids, (∀ id off len, v = .ms id off len → id ∈ ids) → s = false → k (cond g (v.frz1 ids H).fg1 (v.frz1 ids H)) = some r) ∧ (s = true → k (cond g (v.snap1 H).fg1 (v.snap1 H)) = some r) := by
 unfold qib at h
 split at h
 ·rename_i id off len
  obtain ⟨sz, rs, h1, h⟩ := zM h
  rcases hc : (quw (off + len) rs.length && (xk H id || qA 0 ((rs.drop off).take len))) with _ | _
  ·rw [hc] at h; cases h
  ·rw [hc] at h
   have h : k (.sl ((rs.drop off).take len)) = some r := h
   have aux : ∀ ids : List Nat, id ∈ ids → (AV.ms id off len).frz1 ids H = .sl ((rs.drop off).take len) := by
    intro ids hi
    simp only [AV.frz1, h1]
    rw [if_pos]
    rw [Bool.and_assoc, hc, Bool.and_true]
    exact vC.2 hi
   refine ⟨fun ids hi _ => ?_, fun _ => ?_⟩
   ·rw [aux ids (hi _ _ _ rfl)]; cases g <;> exact h
   ·simp only [AV.snap1]; rw [aux [id] (by simp)]; cases g <;> exact h
 ·refine ⟨fun ids _ _ => ?_, fun _ => ?_⟩ <;> (cases g <;> exact h)
 ·refine ⟨fun ids _ _ => ?_, fun _ => ?_⟩ <;> (cases g <;> exact h)
 ·split at h
  ·refine ⟨fun ids _ _ => ?_, fun _ => ?_⟩ <;> (cases g <;> exact h)
  ·cases h
 ·rename_i id r' off
  cases s with
  | false => exact ⟨fun ids _ _ => by cases g <;> exact h, fun h => by cases h⟩
  | true =>
   refine ⟨fun _ _ h => by (cases h), fun _ => ?_⟩
   obtain ⟨sz, rs, h1, h⟩ := zM h
   obtain ⟨row, h2, h⟩ := qk h
   obtain ⟨h3, h⟩ := qb h
   simp only [AV.snap1, h1, h2, qiC, h3, if_true]
   cases g <;> exact h
 ·rename_i id rows
  cases s with
  | false => exact ⟨fun ids _ _ => by cases g <;> exact h, fun h => by cases h⟩
  | true =>
   refine ⟨fun _ _ h => by (cases h), fun _ => ?_⟩
   obtain ⟨b, h1, h⟩ := qk h
   split at h
   ·simp only [AV.snap1, h1]
    cases rows <;> cases g <;> exact h
   ·cases h
 ·rename_i hn1 hn2 hn4 hn6 hn3 hn5
  refine ⟨fun ids _ _ => ?_, fun _ => ?_⟩
  ·have : v.frz1 ids H = v := by
    cases v <;> first | rfl | exact absurd rfl (hn1 _ _ _)
   rw [this]
   have : v.fg1 = v := by
    cases v <;> first | rfl | exact absurd rfl hn2 | exact absurd rfl hn4 | exact absurd rfl (hn6 _ _)
   rw [this]; cases g <;> exact h
  ·have : v.snap1 H = v := by
    cases v <;> first | rfl | exact absurd rfl (hn1 _ _ _) | exact absurd rfl (hn3 _ _ _) | exact absurd rfl (hn5 _ _)
   rw [this]
   have : v.fg1 = v := by
    cases v <;> first | rfl | exact absurd rfl hn2 | exact absurd rfl hn4 | exact absurd rfl (hn6 _ _)
   rw [this]; cases g <;> exact h
theorem qbs {g : Bool} {ids : List Nat} : ∀ {l : List AV} {k : List AV → Option α}, (∀ v ∈ l, ∀ id off len, v = .ms id off len → id ∈ ids) → qaj g false H l k = some r → k (l.map fun v => cond g (v.frz1 ids H).fg1 (v.frz1 ids H)) = some r
 | [], k, _, h => h
 | a :: l, k, hi, h => by
  rw [qaj] at h
  have h1 := (qaN h).1 ids (hi a (by simp)) rfl
  exact qbs (k := fun l => k (cond g (a.frz1 ids H).fg1 (a.frz1 ids H) :: l)) (fun v hv => hi v (by simp [hv])) h1
theorem qbL {g : Bool} : ∀ {l : List AV} {k : List AV → Option α}, qaj g true H l k = some r → k (l.map fun v => cond g (v.snap1 H).fg1 (v.snap1 H)) = some r
 | [], k, h => h
 | a :: l, k, h => by
  rw [qaj] at h
  have h1 := (qaN h).2 rfl
  exact qbL (k := fun l => k (cond g (a.snap1 H).fg1 (a.snap1 H) :: l)) h1
theorem qcB {l : List AV} {v : AV} (hv : v ∈ l) {id off len : Nat} (h : v = .ms id off len) : id ∈ l.flatMap AV.msId := by
 subst h
 exact List.mem_flatMap.2 ⟨_, hv, by simp [AV.msId]⟩
theorem qcH {v : AV} {k : KV α} (h : qbM false H v k = some r) : k (v.frz v.msIds H).fg = some r := by
 unfold qbM at h
 split at h
 ·rename_i cs
  have := qbs (ids := cs.flatMap AV.msId) (fun v hv id off len e => qcB hv e) h
  simpa [AV.frz, AV.fg, AV.msIds, Function.comp_def] using this
 ·rename_i cs
  have := qbs (k := fun cs => k (.tup cs)) (ids := cs.flatMap AV.msId) (fun v hv id off len e => qcB hv e) h
  simpa [AV.frz, AV.fg, AV.msIds, Function.comp_def] using this
 ·exact h
 ·rename_i h1 h2 h3
  have h4 := (qaN h).1 v.msIds (fun id off len e => by subst e; simp [AV.msIds, AV.msId]) rfl
  have e1 : v.frz v.msIds H = v.frz1 v.msIds H := by
   cases v <;> first | rfl | exact absurd rfl (h1 _) | exact absurd rfl (h2 _)
  have e2 : (v.frz1 v.msIds H).fg = (v.frz1 v.msIds H).fg1 := by
   cases v <;> first | rfl | exact absurd rfl (h1 _) | exact absurd rfl (h2 _) | skip
   simp only [AV.frz1]
   split
   ·split <;> rfl
   ·rfl
  rw [e1, e2]; exact h4
theorem qoN {v : AV} {k : KV α} (h : qbM true H v k = some r) : k (v.snap H).fg = some r := by
 unfold qbM at h
 split at h
 ·rename_i cs
  have := qbL h
  simpa [AV.snap, AV.fg, Function.comp_def] using this
 ·exact h
 ·rename_i f a b
  have h2 := qbL (k := fun a => qaj false true H b fun b => k (.fn f a b)) h
  have h3 := qbL (k := fun b => k (.fn f (a.map (AV.snap1 H)) b)) h2
  exact h3
 ·rename_i h1 h2 h3
  have h4 := (qaN h).2 rfl
  have e1 : v.snap H = v.snap1 H := by
   cases v <;> first | rfl | exact absurd rfl (h1 _) | exact absurd rfl (h3 _ _ _)
  have e2 : (v.snap1 H).fg = (v.snap1 H).fg1 := by
   cases v <;> first | rfl | exact absurd rfl (h1 _) | exact absurd rfl (h2 _) | skip
   ·simp only [AV.snap1, AV.frz1]
    split
    ·split <;> rfl
    ·rfl
   ·simp only [AV.snap1]
    split
    ·split <;> rfl
    ·rfl
   ·simp only [AV.snap1]
    split <;> rfl
  rw [e1, e2]; exact h4
theorem qig : ∀ {l : List AV} {k : List AV → Option α}, qkH H l k = some r → k (l.map fun a => (a.snap H).fg) = some r
 | [], k, h => h
 | a :: l, k, h => by
  rw [qkH] at h
  have h1 := qoN h
  exact qig (k := fun l => k ((a.snap H).fg :: l)) h1
theorem qaR {id : Nat} {k : Bool → Nat → List (List AV) → Option α} (h : qdZ H id k = some r) : ∃ d sz rs, H[id]? = some (.rows d sz rs) ∧ k d sz rs = some r := by
 unfold qdZ at h
 obtain ⟨b, hb, h⟩ := qk h
 split at h
 ·exact ⟨_, _, _, hb, h⟩
 ·cases h
theorem yA {agg : Bool} {n off : Nat} {cells : List AV} {k : KV α} (h : qbc agg n cells off k = some r) :
  ∃ v, (if agg then (if quw (off + n) cells.length then some (AV.agg ((cells.drop off).take n)) else none) else cells[off]?) = some v ∧ k v = some r := by
 unfold qbc at h
 rcases xX h with ⟨rfl, h⟩ | ⟨rfl, h⟩
 ·obtain ⟨h1, h2⟩ := qb h
  exact ⟨_, by simp [h1], h2⟩
 ·obtain ⟨v, h1, h2⟩ := qk h
  exact ⟨v, by simp [h1], h2⟩
theorem qdT {agg : Bool} {n : Nat} {p : AV} {k : KV α} (h : qh8 agg n H p k = some r) : ∃ v, zn agg n H p = some v ∧ k v = some r := by
 unfold qh8 at h
 unfold zn
 split at h
 ·obtain ⟨sz, rs, h1, h⟩ := zM h
  obtain ⟨row, h2, h⟩ := qk h
  obtain ⟨v, h3, h4⟩ := yA h
  exact ⟨v, by simp only [h1, h2]; exact h3, h4⟩
 ·obtain ⟨v, h3, h4⟩ := yA h
  exact ⟨v, h3, h4⟩
 ·obtain ⟨v, h3, h4⟩ := yA h
  refine ⟨v, ?_, h4⟩
  rw [← h3]
  simp only [quI, List.map_take, List.map_drop, List.getElem?_map]
 ·obtain ⟨b, h1, h⟩ := qk h
  split at h
  ·obtain ⟨v, h3, h4⟩ := yA h
   refine ⟨v, ?_, h4⟩
   simp only [h1]
   rw [← h3]
   simp only [quI, List.map_take, List.map_drop, List.getElem?_map]
  ·simp only [h1]
   rcases xX h with ⟨ha, h⟩ | ⟨ha, h⟩
   ·obtain ⟨h2, h⟩ := qb h
    obtain ⟨h3, h⟩ := qoQ h
    exact ⟨_, by rw [if_pos ha, if_pos (by rw [h2, h3]; rfl)], h⟩
   ·obtain ⟨rows, h2, h⟩ := qk h
    exact ⟨_, by rw [if_neg (by rw [ha]; simp)]; unfold qi4; rw [h2]; rfl, h⟩
  ·cases h
 ·cases h
theorem qm7 {agg : Bool} {n : Nat} {p v : AV} {k : AH → Option α} (h : qlD agg n H p v k = some r) : ∃ H', y4 n H p v = some H' ∧ k H' = some r := by
 unfold qlD at h
 unfold y4
 split at h
 ·obtain ⟨cs, h1, h⟩ := qak h
  obtain ⟨d, sz, rs, h2, h⟩ := qaR h
  obtain ⟨row, h3, h⟩ := qk h
  obtain ⟨h4, h⟩ := qb h
  rw [que] at h4
  refine ⟨_, ?_, h⟩
  simp only [h1, h2, h3]
  rw [if_pos]
  rw [que, beq_iff_eq]
  exact ⟨qui h4.1, h4.2⟩
 ·obtain ⟨b, h1, h⟩ := qk h
  split at h
  ·rcases xX h with ⟨h4, h⟩ | ⟨h4, h⟩
   ·obtain ⟨h2, h⟩ := qb h
    refine ⟨H, ?_, h⟩
    have h77 : is77 v = true := by rw [que] at h2; exact h2.2
    have hv : ∃ cs, v.cells = some cs := by
     rcases qnY h77 with rfl | rfl
     ·exact ⟨_, rfl⟩
     ·exact ⟨_, rfl⟩
    obtain ⟨cs, hv⟩ := hv
    simp only [hv, h1]
    rw [if_pos (by rw [h4, Bool.true_and]; exact h2)]
   ·obtain ⟨h2, h⟩ := qb h
    refine ⟨H, ?_, h⟩
    have h99 : qbX v = true := by rw [que] at h2; exact h2.2
    have hv : ∃ cs, v.cells = some cs := by
     unfold qbX at h99
     split at h99
     ·exact ⟨_, rfl⟩
     ·exact ⟨_, rfl⟩
     ·cases h99
    obtain ⟨cs, hv⟩ := hv
    simp only [hv, h1]
    rw [if_neg (by rw [h4]; simp), if_pos h2]
  ·cases h
 ·cases h
theorem qc5 {lo hi d : Nat} {x : Option AV} {k : Nat → Option α} (h : qfa lo hi x d k = some r) : ∃ n, qaW lo hi x d = some n ∧ k n = some r := by
 unfold qfa at h
 unfold qaW
 split at h
 ·exact ⟨_, rfl, h⟩
 ·split at h
  ·obtain ⟨h1, h⟩ := qb h
   rw [que, vH, vH] at h1
   exact ⟨_, by simp only; rw [if_pos h1], h⟩
  ·cases h
theorem qai {n : Nat} {lo hi mx : Option AV} {k : Nat → Nat → Option α} (h : qa5 n lo hi mx k = some r) : ∃ l h', qar n lo hi mx = some (l, h') ∧ k l h' = some r := by
 unfold qa5 at h
 obtain ⟨h0, h⟩ := qo8 h
 obtain ⟨a, h1, h⟩ := qc5 h
 obtain ⟨b, h2, h⟩ := qc5 h
 obtain ⟨c, h3, h⟩ := qc5 h
 refine ⟨c, a, ?_, h⟩
 unfold qar
 rw [if_neg (by rw [h0]; simp), h1]
 simp only [h2, h3]
theorem qm8 {cfg : Cfg} {t : TypeId} {x : AV} {lo hi mx : Option AV} {k : KV α} (h : qlE cfg t H x lo hi mx k = some r) : ∃ v, qaX cfg t H x lo hi mx = some v ∧ k v = some r := by
 unfold qlE at h
 unfold qaX
 split at h
 ·rename_i ht
  rw [ht]
  split at h
  ·split at h
   ·obtain ⟨l, h', h1, h⟩ := qai h
    exact ⟨_, by simp only [h1], h⟩
   ·cases h
  ·cases h
 ·rename_i e ht
  rw [ht]
  split at h
  ·rename_i n hn
   split at h
   ·obtain ⟨l, h', h1, h⟩ := qai h
    exact ⟨_, by simp only [hn, h1], h⟩
   ·rename_i rows
    obtain ⟨l, h', h1, h⟩ := qai h
    obtain ⟨h2, h⟩ := qb h
    refine ⟨slE (cfg.ems t) rows l h', by simp only [hn, h1, h2, if_true], ?_⟩
    split at h
    ·rename_i he; rw [he]; exact h
    ·rename_i he; rw [he]; exact h
   ·obtain ⟨l, h', h1, h⟩ := qai h
    obtain ⟨sz, rs, h2, h⟩ := zM h
    obtain ⟨h3, hz⟩ := qb h
    have := qui h3
    subst this
    exact ⟨_, by simp [hn, h1, h2], hz⟩
   ·split at h
    ·split at h
     ·rename_i kd hh _
      split at h
      ·obtain ⟨h2, hz⟩ := qb h
       rw [que, vH, vH] at h2
       exact ⟨_, by simp only [hn, AV.lenW]; rw [if_pos h2], hz⟩
      ·obtain ⟨h2, hz⟩ := qb h
       rw [que, vH, vH] at h2
       exact ⟨_, by simp only [hn, AV.lenW]; rw [if_pos h2], hz⟩
      ·cases h
     ·cases h
    ·cases h
   ·cases h
  ·cases h
 ·cases h
theorem qh9 {cfg : Cfg} {t : TypeId} {x i : AV} {k : KV α} (h : qdU cfg t H x i k = some r) : ∃ v, yf cfg t H x i = some v ∧ k v = some r := by
 unfold qdU at h
 unfold yf
 split at h
 case h_2 => cases h
 rename_i kk i
 split at h
 ·rename_i e ht
  rw [ht]
  split at h
  case h_2 => cases h
  rename_i n hn
  split at h
  ·obtain ⟨sz, rs, h1, h⟩ := zM h
   obtain ⟨h2, hz⟩ := qb h
   rw [que, que, vH, zI] at h2
   have := qui h2.1.1
   subst this
   exact ⟨_, by simp [hn, h1, h2.1.2, h2.2], hz⟩
  ·obtain ⟨h2, h⟩ := qb h
   rw [que, vH, zI] at h2
   obtain ⟨row, h3, h⟩ := qk h
   obtain ⟨h4, hz⟩ := qb h
   refine ⟨.cptr row 0, ?_, hz⟩
   have h5 := qui h4
   simp only [hn, if_pos h2, h3]
   rw [if_pos (by rw [h5]; exact beq_self_eq_true n)]
  ·obtain ⟨h2, h⟩ := qb h
   rw [que, vH, zI] at h2
   obtain ⟨row, h3, h⟩ := qk h
   obtain ⟨h4, hz⟩ := qb h
   refine ⟨.lpt row 0, ?_, hz⟩
   have h5 := qui h4
   simp only [hn, if_pos h2, h3]
   rw [if_pos (by rw [h5]; exact beq_self_eq_true n)]
  ·rename_i id rows
   obtain ⟨h2, h⟩ := qb h
   rw [que, vH, zI] at h2
   obtain ⟨row, h3, h⟩ := qk h
   obtain ⟨h4, hz⟩ := qb h
   refine ⟨.rpt id row 0, ?_, hz⟩
   have h5 := qui h4
   simp only [hn, if_pos h2, h3]
   rw [if_pos (by rw [h5]; exact beq_self_eq_true n)]
  ·cases h
 ·rename_i m e ht
  rw [ht]
  split at h
  case h_2 => cases h
  rename_i n hn
  split at h
  ·obtain ⟨h2, h⟩ := qb h
   rw [que, vH, zI] at h2
   exact ⟨_, by simp [hn, h2.1, h2.2], h⟩
  ·obtain ⟨h2, h⟩ := qb h
   rw [que, vH, zI] at h2
   exact ⟨_, by simp [hn, h2.1, h2.2], h⟩
  ·cases h
 ·cases h
theorem qrX {cfg : Cfg} {t : TypeId} {ti : TI} (h : cfg.ty t = some ti) : cfg.sz t = some ti.sz ∧ cfg.td t = some ti.d := by
 unfold Cfg.sz Cfg.td; rw [h]; exact ⟨rfl, rfl⟩
theorem qnb {cfg : Cfg} {t : TypeId} {x i : AV} {k : KV α} (h : qlN cfg t x i k = some r) : ∃ v, qdA cfg t x i = some v ∧ k v = some r := by
 unfold qlN at h
 unfold qdA
 split at h
 case h_2 => cases h
 rename_i kk i
 split at h
 ·rename_i n e ht
  rw [ht]
  split at h
  case h_2 => cases h
  rename_i ti hti
  obtain ⟨cs, rfl, h⟩ := qcI h
  obtain ⟨h2, h⟩ := qb h
  rw [que, vH, zI] at h2
  obtain ⟨v, h3, h⟩ := yA h
  refine ⟨v, ?_, h⟩
  simp only [(qrX hti).1]
  rw [if_pos h2]
  unfold qfR
  rw [hti]
  exact h3
 ·rename_i ht
  rw [ht]
  obtain ⟨s, rfl, h⟩ := zL h
  obtain ⟨h2, h⟩ := qb h
  rw [vH] at h2
  obtain ⟨b, h3, h⟩ := qk h
  exact ⟨_, by simp [h2, h3], h⟩
 ·cases h
theorem qnd {cfg : Cfg} {t : TypeId} {x : AV} {f : Nat} {k : KV α} (h : qlP cfg t x f k = some r) : ∃ v, qdB cfg t x f = some v ∧ k v = some r := by
 unfold qlP at h
 unfold qdB
 split at h
 case h_2 => cases h
 rename_i fs ht
 rw [ht]
 split at h
 case h_2 => cases h
 rename_i off ft hf
 split at h
 case h_2 => cases h
 rename_i ti hti
 obtain ⟨cs, rfl, h⟩ := qcI h
 obtain ⟨v, h3, h⟩ := yA h
 refine ⟨v, ?_, h⟩
 simp only [hf]
 unfold qfR
 rw [hti]
 exact h3
theorem qie {cfg : Cfg} {t : TypeId} {x : AV} {f : Nat} {k : KV α} (h : qdX cfg t x f k = some r) : ∃ v, z7 cfg t x f = some v ∧ k v = some r := by
 unfold qdX at h
 unfold z7
 split at h
 case h_2 => cases h
 rename_i fs ht
 rw [ht]
 simp only
 split at h
 case h_2 => cases h
 rename_i off ft hf
 simp only [hf]
 split at h
 case h_2 => cases h
 rename_i n hn
 split at h
 ·exact ⟨_, by simp only [hn], h⟩
 ·exact ⟨_, by simp only [hn], h⟩
 ·exact ⟨_, by simp only [hn], h⟩
 ·cases h
variable {α : Type} {r : α} {H : AH}
theorem qlF {n : Nat} {x : AV} {k : List (List AV) → Option α} (h : qja H n x k = some r) : ∃ rows, x8 H n x = some rows ∧ k rows = some r := by
 unfold qja at h
 unfold x8
 split at h
 ·exact ⟨_, rfl, h⟩
 ·exact ⟨_, rfl, h⟩
 ·obtain ⟨h1, hz⟩ := qb h
  exact ⟨_, by simp only [h1, if_true], hz⟩
 ·obtain ⟨sz, rs, h1, h⟩ := zM h
  obtain ⟨h2, hz⟩ := qb h
  rw [que] at h2
  refine ⟨_, ?_, hz⟩
  simp only [h1]
  rw [if_pos]
  rw [que, beq_iff_eq]
  exact ⟨qui h2.1, h2.2⟩
 ·cases h
theorem qjQ {b : Bool} {n : Nat} {x : AV} {k : List (List AV) → Option α} (h : kSrc b H n x k = some r) : ∃ rows, xU H n x = some rows ∧ k rows = some r := by
 unfold kSrc at h
 rcases xX h with ⟨_, h⟩ | ⟨_, h⟩
 ·obtain ⟨s, rfl, h⟩ := zL h
  obtain ⟨h1, hz⟩ := qb h
  exact ⟨_, by simp only [xU, h1, if_true], hz⟩
 ·obtain ⟨rows, h1, hz⟩ := qlF h
  refine ⟨rows, ?_, hz⟩
  unfold xU
  split
  ·simp [x8] at h1
  ·exact h1
theorem qkd {cfg : Cfg} {nid : Option Nat} {s d : TypeId} {x : AV} {k : KH α} (h : qgP cfg nid s d x H k = some r) : ∃ v H', yO cfg nid s d x H = some (v, H') ∧ k v H' = some r := by
 unfold qgP at h
 unfold yO
 split at h
 ·rename_i hs hd
  split at h
  ·exact ⟨_, _, by simp only [hs, hd], h⟩
  ·cases h
 ·rename_i hs hd
  obtain ⟨b, rfl, hz⟩ := zL h
  exact ⟨_, _, by simp only [hs, hd], hz⟩
 ·rename_i e hs hd
  split at h
  ·rename_i hte
   obtain ⟨b, rfl, h0⟩ := zL h
   obtain ⟨i, H', h1, hz⟩ := xD h0
   exact ⟨_, _, by simp only [hs, hd, hte, h1], hz⟩
  ·cases h
 ·rename_i e hs hd
  split at h
  ·rename_i hte
   obtain ⟨rows, h1, h⟩ := qk h
   obtain ⟨bs, h2, hz⟩ := qk h
   refine ⟨.str bs, H, ?_, hz⟩
   simp only [hs, hd]
   cases x <;> first | (simp only [hte, h1, h2]; done) | (simp [x8] at h1)
  ·cases h
 ·cases h
theorem qlR {cfg : Cfg} {nid : Option Nat} {t xt : TypeId} {s x : AV} {k : KH α} (h : qje cfg nid t xt s x H k = some r) : ∃ v H', qay cfg nid t xt s x H = some (v, H') ∧ k v H' = some r := by
 unfold qje at h
 unfold qay
 split at h
 case h_2 => cases h
 rename_i e xd ht hxt
 split at h
 case h_2 => cases h
 rename_i ei hei
 obtain ⟨h1, h⟩ := qb h
 obtain ⟨news, h2, h⟩ := qjQ h
 simp only [ht, hxt, hei, h1, if_true, h2]
 split at h
 ·rcases xX h with ⟨h3, hz⟩ | ⟨h3, h⟩
  ·exact ⟨_, _, by simp only [h3, if_true], hz⟩
  ·obtain ⟨h4, h⟩ := qb h
   obtain ⟨i, H', h5, hz⟩ := xD h
   exact ⟨_, _, by simp only [h3, quo, if_false, h4, if_true, h5], hz⟩
 ·obtain ⟨d, sz, rs, h3, h⟩ := qaR h
  obtain ⟨h4, h⟩ := qb h
  obtain ⟨i, H', h5, hz⟩ := xD h
  exact ⟨_, _, by simp only [h3, h4, if_true, h5], hz⟩
 ·cases h
theorem qqe {cfg : Cfg} {t : TypeId} {x : AV} {k : KV α} (h : kLen cfg t x H k = some r) : ∃ v, aLen cfg t x H = some v ∧ k v = some r := by
 unfold kLen at h
 unfold aLen
 split at h
 ·rename_i ht
  obtain ⟨s, rfl, hz⟩ := zL h
  exact ⟨_, by simp only [ht], hz⟩
 ·rename_i e ht
  split at h
  ·exact ⟨_, by simp only [ht], h⟩
  ·exact ⟨_, by simp only [ht], h⟩
  ·exact ⟨_, by simp only [ht], h⟩
  ·exact ⟨_, by simp only [ht], h⟩
  ·exact ⟨_, by simp only [ht], h⟩
  ·exact ⟨_, by simp only [ht], h⟩
  ·cases h
 ·rename_i n e ht
  exact ⟨_, by simp only [ht], h⟩
 ·rename_i a b ht
  split at h
  ·exact ⟨_, by simp only [ht], h⟩
  ·obtain ⟨b, h1, h⟩ := qk h
   split at h
   ·exact ⟨_, by simp only [ht, h1], h⟩
   ·cases h
  ·cases h
 ·cases h
theorem qh7 {cfg : Cfg} {nid : Option Nat} {t : TypeId} {l c : AV} {k : KH α} (h : qkD cfg nid t l c H k = some r) : ∃ v H', qbj cfg nid t l c H = some (v, H') ∧ k v H' = some r := by
 unfold qkD at h
 unfold qbj
 split at h
 case h_2 => cases h
 rename_i e ht
 split at h
 case h_2 => cases h
 rename_i ei hei
 obtain ⟨h1, h⟩ := qb h
 obtain ⟨n, rfl, ha⟩ := qbr h
 obtain ⟨m, rfl, hb⟩ := qbr ha
 obtain ⟨h2, hd⟩ := qb hb
 obtain ⟨i, H', h3, hz⟩ := xD hd
 rw [que, que, que, vH, vH, vH, vH] at h2
 exact ⟨_, _, by simp only [ht, hei, h1, if_true]; rw [if_pos ⟨h2.1.1.1, h2.1.1.2, h2.1.2, h2.2⟩]; simp only [h3], hz⟩
theorem qna {cfg : Cfg} {nid : Option Nat} {t : TypeId} {l c : AV} {k : KH α} (h : qlJ cfg nid t l c H k = some r) : ∃ v H', qae cfg nid t l c H = some (v, H') ∧ k v H' = some r := by
 unfold qlJ at h
 unfold qae
 split at h
 ·rename_i hw
  rw [hw]
  exact qh7 h
 ·rename_i hw
  rw [hw]
  split at h
  ·obtain ⟨h1, h⟩ := qb h
   obtain ⟨v, H', h2, h⟩ := qh7 h
   split at h
   ·refine ⟨_, _, ?_, h⟩
    simp only
    rw [if_pos h1, h2]; rfl
   ·cases h
  ·cases h
theorem qqg {cfg : Cfg} {t : TypeId} {x : AV} {k : KV α} (h : kCap cfg t x k = some r) : ∃ v, aCap cfg t x = some v ∧ k v = some r := by
 unfold kCap at h
 unfold aCap
 split at h
 ·rename_i e ht
  split at h
  ·split at h
   ·exact ⟨_, by simp only [ht, AV.lenW, quz], h⟩
   ·exact ⟨_, by simp only [ht, AV.lenW, quz], h⟩
   ·cases h
  ·cases h
 ·cases h
theorem qru {v : AV} {k : Nat → List (List AV) → Option α} (h : kWr v k = some r) : ∃ n rows, v = .wr n (.sl rows) ∧ k n rows = some r := by
 unfold kWr at h
 split at h
 ·exact ⟨_, _, rfl, h⟩
 ·cases h
theorem qjb {v : AV} {k : KV α} {cfg : Cfg} {nid : Option Nat} {a : Operand} {ty : TypeId} {x : Operand → AV} (hx : x a = v) (h : qe6 v k = some r) : evOp cfg nid (.nilCheck a) ty x H = some (v, H) ∧ k v = some r := by
 unfold qe6 at h
 simp only [evOp, hx]
 split at h <;> first | exact ⟨rfl, h⟩ | cases h
theorem qnf {cfg : Cfg} {t : TypeId} {x : AV} {k : AH → Option α} (h : qlQ cfg t x H k = some r) : ∃ H', qdC cfg t x H = some H' ∧ k H' = some r := by
 unfold qlQ at h
 unfold qdC
 split at h
 case h_2 => cases h
 rename_i e he
 rw [he]
 split at h
 ·exact ⟨H, rfl, h⟩
 ·rename_i id off len
  split at h
  case h_2 => cases h
  rename_i ei hei
  obtain ⟨d, sz, rs, h1, h⟩ := qaR h
  obtain ⟨h2, hz⟩ := qb h
  exact ⟨_, by simp only [hei, h1, h2, if_true], hz⟩
 ·cases h
theorem qoO {cfg : Cfg} {t xt : TypeId} {d s : AV} {k : KH α} (h : qoP cfg t xt d s H k = some r) : ∃ v H', qfS cfg t d s H = some (v, H') ∧ k v H' = some r := by
 unfold qoP at h
 unfold qfS
 split at h
 case h_2 => cases h
 rename_i e he
 rw [he]
 split at h
 case h_2 => cases h
 rename_i id off len
 split at h
 case h_2 => cases h
 rename_i n hn
 obtain ⟨db, sz, rs, h1, h⟩ := qaR h
 obtain ⟨news, h2, h⟩ := qjQ h
 obtain ⟨h3, hz⟩ := qb h
 exact ⟨_, _, by simp only [hn, h1, h2, h3, if_true], hz⟩
theorem qe7 {b : ABlk} {k : Bool → List (AV × AV) → Option α} (h : kMpB b k = some r) : ∃ d es, b = .mp d es ∧ k d es = some r := by
 unfold kMpB at h; split at h
 ·exact ⟨_, _, rfl, h⟩
 ·cases h
theorem qm9 {x : AV} {k : Bool → List (AV × AV) → Option α} (h : qlI H x k = some r) : ∃ d es, qcC H x = some es ∧ k d es = some r := by
 unfold qlI at h
 split at h
 ·exact ⟨_, _, rfl, h⟩
 ·obtain ⟨b, h1, h⟩ := qk h
  obtain ⟨d, es, rfl, h⟩ := qe7 h
  exact ⟨d, es, by simp only [qcC, h1], h⟩
 ·cases h
theorem qgq {q : Option (Nat × AV)} {x : Option α} {y : Nat → AV → Option α} (h : qaO q x y = some r) : (q = none ∧ x = some r) ∨ ∃ p, q = some p ∧ y p.1 p.2 = some r := by
 unfold qaO at h
 split at h
 ·exact .inl ⟨rfl, h⟩
 ·exact .inr ⟨_, rfl, h⟩
theorem qlM {cfg : Cfg} {t : TypeId} {x key : AV} {ok : Bool} {k : KV α} (h : qjd cfg t x key ok H k = some r) : ∃ v, z5 cfg t x key ok H = some v ∧ k v = some r := by
 unfold qjd at h
 split at h
 case h_2 => cases h
 rename_i kt et ht
 split at h
 case h_2 => cases h
 rename_i d hd
 obtain ⟨df, es, h1, h⟩ := qm9 h
 obtain ⟨h2, h⟩ := qb h
 obtain ⟨q, h3, h⟩ := qk h
 rcases qgq h with ⟨rfl, h⟩ | ⟨p, rfl, h⟩
 ·obtain ⟨z, hz, h⟩ := qk h
  exact ⟨_, by simp only [z5, ht, hd, h1, h2, if_true, h3, hz]; cases ok <;> rfl, h⟩
 ·have h := qcE (k := fun v => k (cond ok (.tup [v, .bool true]) v)) h
  exact ⟨_, by simp only [z5, ht, hd, h1, h2, if_true, h3]; cases ok <;> rfl, h⟩
theorem qe8 {cfg : Cfg} {t : TypeId} {m key v : AV} {k : AH → Option α} (h : qjc cfg t m key v H k = some r) : ∃ H', qax cfg t m key v H = some H' ∧ k H' = some r := by
 unfold qjc at h
 split at h
 case h_2 => cases h
 rename_i kt et ht
 split at h
 case h_2 => cases h
 rename_i id
 split at h
 case h_2 => cases h
 rename_i d hd
 obtain ⟨b, h1, h⟩ := qk h
 obtain ⟨d0, es, rfl, h⟩ := qe7 h
 obtain ⟨h2, h⟩ := qb h
 obtain ⟨q, h3, h⟩ := qk h
 rcases qgq h with ⟨rfl, h⟩ | ⟨p, rfl, h⟩
 ·exact ⟨_, by simp only [qax, ht, hd, h1, h2, if_true, h3], h⟩
 ·exact ⟨_, by simp only [qax, ht, hd, h1, h2, if_true, h3], h⟩
theorem qlH {cfg : Cfg} {nid : Option Nat} {o : Op} {ty : TypeId} {x : Operand → AV} {k : KH α} (h : kOp cfg nid o ty x H k = some r) : ∃ v H', evOp cfg nid o ty x H = some (v, H') ∧ k v H' = some r := by
 cases o with
 | move a => exact ⟨_, _, rfl, h⟩
 | assign a => exact ⟨_, _, rfl, h⟩
 | pick c a b =>
  simp only [kOp] at h
  obtain ⟨t, h1, h⟩ := qbO h
  have := qoK (k := fun v => k v H) h
  exact ⟨_, _, by simp only [evOp, h1], this⟩
 | alloc t =>
  simp only [kOp] at h
  split at h
  ·rename_i ti hti
   obtain ⟨h1, h⟩ := qb h
   obtain ⟨i, H', h2, hz⟩ := xD h
   exact ⟨_, _, by simp only [evOp, hti, h1, if_true, h2], hz⟩
  ·cases h
 | box t a =>
  simp only [kOp] at h
  obtain ⟨cs, h1, h⟩ := qak h
  obtain ⟨i, H', h2, hz⟩ := xD h
  exact ⟨_, _, by simp only [evOp, h1, h2], hz⟩
 | build t parts =>
  simp only [kOp] at h
  split at h
  case h_2 => cases h
  rename_i ti hti
  obtain ⟨h1, h⟩ := qb h
  split at h
  ·rename_i fs hfs
   split at h
   case h_2 => cases h
   rename_i ps hps
   obtain ⟨qs, h2, h3⟩ := qhJ hps
   obtain ⟨cs, h4, hz⟩ := qdW (place' := fun i => qs[i]?) (fun i off n g hi => h3 i off n g hi) h
   exact ⟨_, _, by simp only [evOp, hti, h1, if_true, hfs, h2, h4, quz], hz⟩
  ·rename_i m e hfs
   split at h
   case h_2 => cases h
   rename_i n hn
   obtain ⟨cs, h4, hz⟩ := qdW (place' := fun i => some (i * n, n)) (fun i off m g hi => by cases hi; rfl) h
   exact ⟨_, _, by simp only [evOp, hti, h1, if_true, hfs, hn, h4, quz], hz⟩
  ·cases h
 | buildSlice t len parts =>
  simp only [kOp] at h
  split at h
  case h_2 => cases h
  rename_i e ht
  split at h
  case h_2 => cases h
  rename_i ei hei
  obtain ⟨h1, h⟩ := qb h
  obtain ⟨rows, h2, h⟩ := qh2 h
  obtain ⟨i, H', h3, hz⟩ := xD h
  exact ⟨_, _, by simp only [evOp, ht, hei, h1, if_true, h2, h3], hz⟩
 | load t a =>
  simp only [kOp] at h
  split at h
  case h_2 => cases h
  rename_i ti hti
  split at h
  ·rename_i cs off hx
   obtain ⟨v, h1, h⟩ := yA h
   have h2 := vh (k := fun v => cond ti.d.agg (k v.lendA H) (k v.lend H)) h
   rcases xX h2 with ⟨ha, h2⟩ | ⟨ha, h2⟩
   ·rw [ha] at h1
    simp only [if_true] at h1
    split at h1
    ·rename_i hb
     cases h1
     refine ⟨_, _, ?_, h2⟩
     simp only [evOp, hti, hx, zn, ha, if_true, hb, quz, AV.lendA]
    ·cases h1
   ·rw [ha] at h1
    simp only [quo, if_false] at h1
    refine ⟨_, _, ?_, h2⟩
    simp only [evOp, hti, hx, zn, ha, quo, if_false, h1, quz]
  ·rename_i id cs off hx
   obtain ⟨b, hb0, h⟩ := qk h
   split at h
   ·obtain ⟨v, h1, h⟩ := yA h
    have h2 := vh (k := fun v => cond ti.d.agg (k (v.regA id) H) (k (v.regn id) H)) h
    rcases xX h2 with ⟨ha, h2⟩ | ⟨ha, h2⟩
    ·rw [ha] at h1
     simp only [if_true] at h1
     split at h1
     ·rename_i hb
      cases h1
      refine ⟨_, _, ?_, h2⟩
      simp only [evOp, hti, hx, zn, hb0, ha, if_true, hb, quz, AV.regA]
     ·cases h1
    ·rw [ha] at h1
     simp only [quo, if_false] at h1
     refine ⟨_, _, ?_, h2⟩
     simp only [evOp, hti, hx, zn, hb0, ha, quo, if_false, h1, quz]
   ·obtain ⟨v, h1, h⟩ := qdT h
    exact ⟨_, _, by simp only [evOp, hti, hx, h1, quz], h⟩
  ·obtain ⟨v, h1, h⟩ := qdT h
   exact ⟨_, _, by simp only [evOp, hti, h1, quz], vh (k := fun v => k v H) h⟩
 | store t a v =>
  simp only [kOp] at h
  split at h
  case h_2 => cases h
  rename_i ti hti
  obtain ⟨H', h1, hz⟩ := qm7 h
  exact ⟨_, _, by simp only [evOp, (qrX hti).1, h1, quz], hz⟩
 | nilCheck a =>
  obtain ⟨h1, h2⟩ := qjb (cfg := cfg) (nid := nid) (ty := ty) (H := H) (x := x) (a := a) (k := fun v => k v H) rfl h
  exact ⟨_, _, h1, h2⟩
 | binOp op t a b yt =>
  simp only [kOp] at h
  obtain ⟨v, h1, h⟩ := qk h
  exact ⟨_, _, by simp only [evOp, h1, quz], vh (k := fun v => k v H) h⟩
 | unOp op t a =>
  simp only [kOp] at h
  obtain ⟨v, h1, h⟩ := qk h
  exact ⟨_, _, by simp only [evOp, h1, quz], vh (k := fun v => k v H) h⟩
 | convert s d a => exact qkd h
 | makeFunc f first caps => exact ⟨_, _, rfl, h⟩
 | makeSlice t l c => exact qna h
 | makeMap t r =>
  simp only [kOp] at h
  unfold qlK at h
  split at h
  case h_2 => cases h
  rename_i kt et ht
  cases r with
  | none =>
   simp only [Option.map_none] at h
   obtain ⟨i, H', h1, hz⟩ := xD h
   exact ⟨_, _, by simp only [evOp, ht, h1], hz⟩
  | some a =>
   simp only [quz] at h
   split at h
   ·rename_i hxa
    obtain ⟨i, H', h1, hz⟩ := xD h
    exact ⟨_, _, by simp only [evOp, ht, hxa, h1], hz⟩
   ·cases h
 | lookup t a key ok =>
  simp only [kOp] at h
  obtain ⟨v, h1, hz⟩ := qlM h
  exact ⟨_, _, by simp only [evOp, h1, quz], hz⟩
 | mapUpdate t m key v =>
  simp only [kOp] at h
  obtain ⟨H', h1, hz⟩ := qe8 h
  exact ⟨_, _, by simp only [evOp, h1, quz], hz⟩
 | insert t m key v =>
  simp only [kOp] at h
  obtain ⟨H', h1, hz⟩ := qe8 h
  exact ⟨_, _, by simp only [evOp, h1, quz], hz⟩
 | slice t a lo hi mx =>
  simp only [kOp] at h
  obtain ⟨v, h1, hz⟩ := qm8 h
  exact ⟨_, _, by simp only [evOp, h1, quz], hz⟩
 | fieldAddr t a f =>
  simp only [kOp] at h
  obtain ⟨v, h1, hz⟩ := qie h
  exact ⟨_, _, by simp only [evOp, h1, quz], hz⟩
 | field t a f =>
  simp only [kOp] at h
  obtain ⟨v, h1, h⟩ := qnd h
  exact ⟨_, _, by simp only [evOp, h1, quz], vh (k := fun v => k v H) h⟩
 | indexAddr t a i =>
  simp only [kOp] at h
  obtain ⟨v, h1, hz⟩ := qh9 h
  exact ⟨_, _, by simp only [evOp, h1, quz], hz⟩
 | index t a i =>
  simp only [kOp] at h
  obtain ⟨v, h1, h⟩ := qnb h
  exact ⟨_, _, by simp only [evOp, h1, quz], vh (k := fun v => k v H) h⟩
 | extract t i =>
  simp only [kOp] at h
  split at h
  ·rename_i vs hvs
   obtain ⟨v, h1, h⟩ := qk h
   exact ⟨_, _, by simp only [evOp, hvs, h1, quz], vh (k := fun v => k v H) h⟩
  ·cases h
 | call c =>
  simp only [kOp] at h
  obtain ⟨callee, args, argTypes⟩ := c
  simp only at h
  simp only [evOp]
  split at h
  case h_2 => cases h
  generalize args.toList = al at *
  generalize argTypes.toList = tl at *
  split at h
  ·obtain ⟨v, h1, hz⟩ := qqe h
   exact ⟨_, _, by simp only [h1, quz], hz⟩
  ·obtain ⟨v, h1, hz⟩ := qqg h
   exact ⟨_, _, by simp only [h1, quz], hz⟩
  ·exact qlR h
  ·rename_i d s t xt
   obtain ⟨v, H', h1, hz⟩ := qoO h
   exact ⟨_, _, h1, hz⟩
  ·obtain ⟨v, h1, hz⟩ := qnf h
   exact ⟨_, _, by simp only [h1, quz], hz⟩
  ·obtain ⟨v, h1, h⟩ := qk h
   exact ⟨_, _, by simp only [h1, quz], vh (k := fun v => k v H) h⟩
  ·obtain ⟨v, h1, h⟩ := qk h
   exact ⟨_, _, by simp only [h1, quz], vh (k := fun v => k v H) h⟩
  ·cases h
 | _ => simp only [kOp] at h; cases h
def KfOk (cf : Orac) (kf : KF α) : Prop := ∀ t a H k r, kf t a H k = some r → ∃ q, cf t a H = some q ∧ k q = some r
theorem qd0 {cf : Orac} {f : Nat} : ∀ {l : List AV} {k : Option α}, qih cf f l k = some r → zw cf f l = some () ∧ k = some r
 | [], _, h => ⟨rfl, h⟩
 | a :: l, k, h => by
  rw [qih] at h
  obtain ⟨u, h1, h⟩ := qk h
  obtain ⟨h2, hz⟩ := qd0 h
  refine ⟨?_, hz⟩
  unfold EVz at h1
  obtain ⟨q, h3, h4⟩ := quf.1 h1
  rw [zw, h3]
  simp only [quq, h4, h2]
theorem qjn {a b : Bool} (h : beqB a b = true) : a = b := by cases a <;> cases b <;> first | rfl | cases h
theorem qc2 {b : ABlk} {k : Bool → Nat → List (List AV) → Option α} (h : qr b k = some r) : ∃ d n rs, b = .rows d n rs ∧ k d n rs = some r := by
 unfold qr at h; split at h
 ·exact ⟨_, _, _, rfl, h⟩
 ·cases h
theorem qgt {l : AH} {k : ABlk → AH → Option α} (h : qq l k = some r) : ∃ a b, l = a :: b ∧ k a b = some r := by
 unfold qq at h; split at h
 ·exact ⟨_, _, rfl, h⟩
 ·cases h
theorem qh6 {l : AH} {x : Option α} (h : vw l x = some r) : l = [] ∧ x = some r := by
 unfold vw at h; split at h
 ·exact ⟨rfl, h⟩
 ·cases h
theorem qgs {l : List (List AV)} {k : List AV → List (List AV) → Option α} (h : qS l k = some r) : ∃ a b, l = a :: b ∧ k a b = some r := by
 unfold qS at h; split at h
 ·exact ⟨_, _, rfl, h⟩
 ·cases h
theorem qh5 {l : List (List AV)} {x : Option α} (h : vg l x = some r) : l = [] ∧ x = some r := by
 unfold vg at h; split at h
 ·exact ⟨rfl, h⟩
 ·cases h
theorem qqc {s : BSh} {b : ABlk} {k : ABlk → Option α} (h : kShB s b k = some r) : k b = some r := by
 cases s with
 | row d cs =>
  obtain ⟨d', n, rs, rfl, h⟩ := qc2 h
  obtain ⟨h1, h⟩ := qb h
  obtain ⟨row, rest, rfl, h⟩ := qgs h
  obtain ⟨rfl, h⟩ := qh5 h
  rw [que] at h1
  rw [← qjn h1.1, qui h1.2]
  exact h
 | rows d sz =>
  obtain ⟨d', n, rs, rfl, h⟩ := qc2 h
  obtain ⟨h1, h⟩ := qb h
  rw [que] at h1
  rw [← qjn h1.1, qui h1.2]
  exact h
 | mp d =>
  obtain ⟨d', es, rfl, h⟩ := qe7 h
  obtain ⟨h1, h⟩ := qb h
  rw [← qjn h1]
  exact h
theorem qjS : ∀ {ss : List BSh} {l : AH} {k : AH → Option α}, kSh1 ss l k = some r → k l = some r
 | [], l, k, h => by
  obtain ⟨rfl, h⟩ := qh6 h
  exact h
 | s :: ss, l, k, h => by
  obtain ⟨b, bs, rfl, h⟩ := qgt h
  have h := qqc (k := fun b => kSh1 ss bs fun bs => k (b :: bs)) h
  exact qjS (k := fun bs => k (b :: bs)) h
theorem qqb {G : AH} {s : CSh} {c : AV} {k : KV α} (h : kShC G s c k = some r) : k c = some r := by
 cases s with
 | leaf s => exact qc3 h
 | sl j =>
  simp only [kShC] at h
  unfold kMsE at h
  split at h
  case h_2 => cases h
  obtain ⟨sz, rs, _, h⟩ := zM h
  obtain ⟨h1, h⟩ := qb h
  rw [que, que] at h1
  rw [qui h1.1, qui h1.2.1, qui h1.2.2]
  exact h
 | mp j =>
  simp only [kShC] at h
  unfold kMpE at h
  split at h
  case h_2 => cases h
  obtain ⟨h1, h⟩ := qb h
  rw [qui h1]
  exact h
 | ptr j =>
  simp only [kShC] at h
  unfold qh3 at h
  split at h
  case h_2 => cases h
  obtain ⟨h1, h⟩ := qb h
  rw [que, que] at h1
  rw [qui h1.1, qui h1.2.1, qui h1.2.2]
  exact h
 | is v =>
  simp only [kShC] at h
  obtain ⟨h1, h⟩ := qb h
  rw [AV.same_eq h1]
  exact h
theorem qh0 {G : AH} : ∀ {ss : List CSh} {l : List AV} {k : List AV → Option α}, qkA G ss l k = some r → k l = some r
 | [], l, k, h => by
  obtain ⟨rfl, h⟩ := qcG h
  exact h
 | s :: ss, l, k, h => by
  obtain ⟨c, cs, rfl, h⟩ := zh h
  have h := qqb (k := fun v => qkA G ss cs fun vs => k (v :: vs)) h
  exact qh0 (k := fun vs => k (c :: vs)) h
theorem qqa {G : AH} {s : BSh} {b : ABlk} {k : ABlk → Option α} (h : kShD G s b k = some r) : k b = some r := by
 cases s with
 | row d cs =>
  obtain ⟨d', n, rs, rfl, h⟩ := qc2 h
  obtain ⟨row, rest, rfl, h⟩ := qgs h
  obtain ⟨rfl, h⟩ := qh5 h
  exact qh0 (k := fun cs' => k (.rows d' n [cs'])) h
 | rows d sz => exact h
 | mp d => exact h
theorem qjR {G : AH} : ∀ {ss : List BSh} {l : AH} {k : AH → Option α}, kSh2 G ss l k = some r → k l = some r
 | [], l, k, h => by
  obtain ⟨rfl, h⟩ := qh6 h
  exact h
 | s :: ss, l, k, h => by
  obtain ⟨b, bs, rfl, h⟩ := qgt h
  have h := qqa (k := fun b => kSh2 G ss bs fun bs => k (b :: bs)) h
  exact qjR (k := fun bs => k (b :: bs)) h
theorem qp9 {ss : List BSh} {l : AH} {k : AH → Option α} (h : kShp ss l k = some r) : k l = some r :=
 qjR (qjS (k := fun G => kSh2 G ss G k) h)
theorem qoR {cfg : Cfg} {cf : Orac} {kf : KF α} (hkf : KfOk cf kf) {nid : Option Nat} {ty : TypeId} {t : Tgt} {args : List AV} {k : KH α} (h : qfN cfg cf kf nid ty t args H k = some r) : ∃ v H', qU cfg cf nid t args H = some (v, H') ∧ k v H' = some r := by
 cases t with
 | y id =>
  simp only [qfN] at h
  obtain ⟨q, h1, h⟩ := hkf _ _ _ _ _ h
  obtain ⟨p, h2, h⟩ := qk h
  exact ⟨_, _, by simp only [qU, h1, quq]; exact h2, vh (k := fun v => k v p.2) h⟩
 | f f =>
  simp only [qfN] at h
  cases hm : cfg.mode f with
  | scal =>
   simp only [hm] at h
   obtain ⟨h1, h⟩ := qb (qig h)
   split at h
   ·obtain ⟨q, h5, h⟩ := hkf _ _ _ _ _ h
    have h3 := vh (k := fun v => cond v.scalar (k v H) none) h
    obtain ⟨h4, hz⟩ := qb h3
    exact ⟨q.1, H, by simp only [qU, hm, h1, if_true, h5, quq, h4], hz⟩
   obtain ⟨v, h2, h⟩ := qk h
   have h3 := vh (k := fun v => cond v.scalar (k v H) none) h
   obtain ⟨h4, hz⟩ := qb h3
   unfold EVs at h2
   obtain ⟨q, h5, h6⟩ := quk.1 h2
   exact ⟨v, H, by simp only [qU, hm, h1, if_true, h5, quq, h6, h4], hz⟩
  | pfrz =>
   simp only [hm] at h
   obtain ⟨h1, h⟩ := qb h
   split at h
   ·obtain ⟨q, h5, h⟩ := hkf _ _ _ _ _ h
    have h2 := qcH (k := fun v => kTy qbR cfg ty v fun v => cond (v.refsLt 0) (k v H) none) h
    have h3 := vh (k := fun v => cond (v.refsLt 0) (k v H) none) h2
    obtain ⟨h4, hz⟩ := qb h3
    exact ⟨_, H, by simp only [qU, hm, h1, if_true, h5, quq, h4], hz⟩
   obtain ⟨v, h2, h⟩ := qk h
   have h3 := vh (k := fun v => cond (v.refsLt 0) (k v H) none) h
   obtain ⟨h4, hz⟩ := qb h3
   unfold EVf at h2
   obtain ⟨q, h5, h6⟩ := quk.1 h2
   exact ⟨v, H, by simp only [qU, hm, h1, if_true, h5, quq, h6, h4], hz⟩
  | pown =>
   simp only [hm] at h
   split at h
   ·rename_i t1 t2 _
    obtain ⟨h1, h⟩ := qb h
    obtain ⟨q, h2, h⟩ := qk h
    obtain ⟨p, h5, h6⟩ := quf.1 h2
    unfold qoC at h6
    split at h6
    case h_2 => cases h6
    rename_i a sc hp
    obtain ⟨h7, h6⟩ := qb h6
    split at h6
    case h_2 => cases h6
    rename_i o ho
    cases h6
    have h := qcE (k := fun s => kOwn o (k (.tup [.nilS, s]) H) fun sz rs off len => kNew nid H (.rows true sz rs) fun i H' => k (.tup [.ms i off len, s]) H') h
    unfold ovOf at ho
    split at ho
    ·rename_i hq
     cases ho
     refine ⟨.tup [.nilS, sc], H, ?_, h⟩
     have hq : a = .nilS := hq
     simp only [qU, hm, h1, if_true, h5, quq, qcd, hp, h7, hq, yY, AV.refsLt, quz]
    ·rename_i id off len hq
     split at ho
     case h_2 => cases ho
     rename_i sz rs hid
     split at ho
     case isFalse => cases ho
     rename_i hr
     cases ho
     simp only [kOwn] at h
     obtain ⟨i, H', h8, hz⟩ := xD h
     have hq : a = .ms id off len := hq
     refine ⟨_, _, ?_, hz⟩
     simp only [qU, hm, h1, if_true, h5, quq, qcd, hp, h7, hq, yY, hid, hr, h8, quz]
    ·cases ho
   ·obtain ⟨h1, h⟩ := qb h
    have key : ∃ q o, cf (.f f) args [] = some q ∧ ovOf q = some o ∧ (kOwn o (k .nilS H) fun sz rs off len => kNew nid H (.rows true sz rs) fun i H' => k (.ms i off len) H') = some r := by
     split at h
     ·obtain ⟨q, h5, h⟩ := hkf _ _ _ _ _ h
      obtain ⟨o, h6, h⟩ := qk h
      exact ⟨q, o, h5, h6, h⟩
     ·obtain ⟨o, h2, h⟩ := qk h
      unfold EVo at h2
      obtain ⟨q, h5, h6⟩ := quf.1 h2
      exact ⟨q, o, h5, h6, h⟩
    obtain ⟨q, o, h5, h6, h⟩ := key
    unfold ovOf at h6
    split at h6
    ·rename_i hq
     cases h6
     exact ⟨.nilS, H, by simp only [qU, hm, h1, if_true, h5, quq, qcd, yY, hq, AV.refsLt], h⟩
    ·rename_i id off len hq
     split at h6
     case h_2 => cases h6
     rename_i sz rs hid
     split at h6
     case isFalse => cases h6
     rename_i hr
     cases h6
     simp only [kOwn] at h
     obtain ⟨i, H', h7, hz⟩ := xD h
     exact ⟨_, _, by simp only [qU, hm, h1, if_true, h5, quq, qcd, yY, hq, hid, hr, h7], hz⟩
    ·cases h6
  | inpl =>
   simp only [hm] at h
   have res : ∀ (kd : Nat) (ik : IntKind) (id : Nat) (v : MV) (k : KV α), qkE kd ik id v k = some r → k (v.av id) = some r := by
    intro kd ik id v k h
    unfold qkE at h
    split at h
    ·cases v <;> first | exact h | exact absurd h (by simp [qbq])
    ·cases v <;> first | exact h | exact absurd h (by simp [kMSl])
    ·cases v with
     | int q n =>
      obtain ⟨h1, h2⟩ := qb h
      rw [← qe3 h1] at h2
      exact h2
     | _ => exact absurd h (by simp [qkF])
    ·cases v <;> first | exact h | exact absurd h (by simp [qlL])
   split at h
   case h_2 =>
    rename_i hids
    obtain ⟨h1, h⟩ := qb h
    obtain ⟨v1, h2, h⟩ := qk h
    unfold EVu at h2
    obtain ⟨r1, h5, h6⟩ := quf.1 h2
    split at h6
    case isFalse => cases h6
    rename_i hrf
    have hav : r1.1 = v1.av 0 := by
     unfold mvOf at h6
     split at h6
     ·rename_i e; cases h6; rw [e]; rfl
     ·rename_i e; cases h6; rw [e]; rfl
     ·rename_i i off len e
      rw [e] at hrf
      simp [AV.refsLt, quL] at hrf
     ·rename_i e; cases h6; rw [e]; rfl
     ·rename_i e; cases h6; rw [e]; rfl
     ·cases h6
    refine ⟨v1.av 0, H, ?_, res _ _ _ _ (fun v => k v H) h⟩
    simp only [qU, hm, hids, h1, if_true, h5, quq, hrf]
    rw [hav]
   rename_i id l hids
   obtain ⟨h1, h⟩ := qb h
   obtain ⟨b, h2, h⟩ := qk h
   split at h
   case h_2 => cases h
   rename_i d sz rs
   obtain ⟨h3, h⟩ := qb h
   obtain ⟨q, h4, h⟩ := qk h
   unfold EVm at h4
   obtain ⟨r1, h5, h6⟩ := quf.1 h4
   obtain ⟨q1, h7, h8⟩ := quf.1 h6
   obtain ⟨v1, h9, h10⟩ := quk.1 h8
   cases h10
   have hav : q1.1.ren (fun _ => id) = v1.av id := by
    unfold mvOf at h9
    split at h9
    ·rename_i e; cases h9; rw [e]; simp [AV.ren, renL, MV.av]
    ·rename_i e; cases h9; rw [e]; simp [AV.ren, MV.av]
    ·rename_i i off len e
     split at h9
     ·cases h9; rw [e]; simp [AV.ren, MV.av]
     ·cases h9
    ·rename_i e; cases h9; rw [e]; simp [AV.ren, MV.av]
    ·rename_i e; cases h9; rw [e]; simp [AV.ren, MV.av]
    ·cases h9
   have hk : k (v1.av id) (H.set id (.rows true sz q1.2)) = some r := res _ _ _ _ (fun v => k v (H.set id (.rows true sz q1.2))) h
   refine ⟨v1.av id, _, ?_, hk⟩
   simp only [qU, hm, hids, h1, if_true, h2, h3, h5, quq, h7, quz, hav]
  | inpf =>
   simp only [hm] at h
   split at h
   case h_2 => cases h
   rename_i id l hids
   obtain ⟨h1, h⟩ := qb h
   obtain ⟨b, h2, h⟩ := qk h
   split at h
   case h_2 => cases h
   rename_i d sz rs
   obtain ⟨h3, h⟩ := qb h
   obtain ⟨q, h4, h⟩ := qk h
   unfold EVd at h4
   obtain ⟨r1, h5, h6⟩ := quf.1 h4
   have hk := vh (k := fun v => k v (H.set id (.rows true sz q.2))) h
   refine ⟨q.1, _, ?_, hk⟩
   simp only [qU, hm, hids, h1, if_true, h2, h3, h5, quq, h6, quz]
  | slf =>
   simp only [hm] at h
   split at h
   case h_2 => cases h
   rename_i id l hids
   obtain ⟨h1, h⟩ := qb h
   obtain ⟨b, h2, h⟩ := qk h
   split at h
   case h_2 => cases h
   rename_i d sz rs
   obtain ⟨h3, h⟩ := qb h
   obtain ⟨q, h4, h⟩ := qk h
   have h4 := qrQ h4
   unfold EVx at h4
   obtain ⟨r1, h5, h6⟩ := quf.1 h4
   have hk := vh (k := fun v => k v (H.set id (.rows false sz (renR (fun _ => id) (renR (fun _ => 0) rs))))) h
   refine ⟨q, _, ?_, hk⟩
   simp only [qU, hm, hids, h1, if_true, h2, h3, h5, quq, h6, quz]
  | wfrz =>
   simp only [hm] at h
   obtain ⟨h1, h⟩ := qb h
   obtain ⟨v, h2, h⟩ := qk h
   unfold EVw at h2
   obtain ⟨q, h5, h6⟩ := quk.1 h2
   split at h
   ·obtain ⟨n, rows, rfl, hz⟩ := qru h
    exact ⟨_, H, by simp only [qU, hm, h1, if_true, h5, quq, h6]; rfl, hz⟩
   ·have h3 := vh (k := fun v => cond (v.refsLt 0) (k v H) none) h
    obtain ⟨h4, hz⟩ := qb h3
    exact ⟨v, H, by simp only [qU, hm, h1, if_true, h5, quq, h6, h4], hz⟩
  | nfrz =>
   simp only [hm] at h
   obtain ⟨h1, h⟩ := qb h
   obtain ⟨V, h2, h⟩ := qk h
   have h3 := vh (k := fun V => k V.lendT H) h
   unfold EVn at h2
   obtain ⟨q, h5, h6⟩ := quf.1 h2
   exact ⟨_, _, by simp only [qU, hm, h1, if_true, h5, quq, h6, quz], h3⟩
  | rgn =>
   simp only [hm] at h
   obtain ⟨h1, h⟩ := qb h
   obtain ⟨V, h2, h⟩ := qk h
   have h3 := vh (k := fun V => kNew nid H .reg fun i H' => k (rgIn i V) H') h
   obtain ⟨i, H', h4, hz⟩ := xD h3
   unfold EVg at h2
   obtain ⟨q, h5, h6⟩ := quf.1 h2
   exact ⟨_, _, by simp only [qU, hm, h1, if_true, h5, quq, h6, h4, quz], hz⟩
  | bld =>
   simp only [hm] at h
   split at h
   case h_2 => cases h
   rename_i id l hids
   obtain ⟨h1, h⟩ := qb h
   obtain ⟨b, h2, h⟩ := qk h
   split at h
   case h_2 => cases h
   rename_i T e s
   obtain ⟨q, h4, h⟩ := qk h
   unfold EVb at h4
   obtain ⟨r1, h5, h6⟩ := quf.1 h4
   have hk := vh (k := fun v => k v (H.set id (.bld T e q.2))) h
   refine ⟨_, _, ?_, hk⟩
   simp only [qU, hm, hids, h1, if_true, h2, h5, quq, h6, quz]
  | over =>
   simp only [hm] at h
   split at h
   case h_2 => cases h
   rename_i a
   split at h
   case h_2 => cases h
   rename_i id l hids
   obtain ⟨h1, h⟩ := qb h
   obtain ⟨b, h2, h⟩ := qk h
   split at h
   ·obtain ⟨h3, hz⟩ := qd0 h
    exact ⟨_, _, by simp only [qU, hm, hids, h1, if_true, h2, h3, quz], hz⟩
   ·obtain ⟨h3, hz⟩ := qd0 h
    exact ⟨_, _, by simp only [qU, hm, hids, h1, if_true, h2, h3, quz], hz⟩
   ·cases h
  | imp =>
   simp only [hm] at h
   obtain ⟨q, h1, h⟩ := hkf _ _ _ _ _ h
   obtain ⟨p, h2, h⟩ := qk h
   exact ⟨_, _, by simp only [qU, hm, h1, quq]; exact h2, vh (k := fun v => k v p.2) h⟩
  | sub =>
   simp only [hm] at h
   obtain ⟨s, h0, h⟩ := qk h
   obtain ⟨q, h1, h⟩ := hkf _ _ _ _ _ h
   obtain ⟨p, h2, h⟩ := qk h
   obtain ⟨p2, h3, h⟩ := qk h
   exact ⟨_, _, by simp only [qU, hm, h0, h1, h2, h3, quq, quz], vh (k := fun v => k v (x7 p2.2 (s.1 ++ p2.1) p.2)) h⟩
  | obj =>
   simp only [hm] at h
   obtain ⟨s, h0, h⟩ := qk h
   obtain ⟨hk, h⟩ := qb h
   obtain ⟨q, h1, h⟩ := qk h
   have h := qp9 h
   obtain ⟨p2, h3, h⟩ := qk h
   unfold EVj at h1
   obtain ⟨q0, h4, h5⟩ := quf.1 h1
   exact ⟨_, _, by simp only [qU, hm, h0, hk, if_true, h4, h5, h3, quq, quz], vh (k := fun v => k ((v.ren (xS (objK (cfg.okeep f) (renL (q4 0 s.1) args)) s.1.length)).ren (vZ (s.1 ++ p2.1))) (x7 p2.2 (s.1 ++ p2.1) (xK (objK (cfg.okeep f) (renL (q4 0 s.1) args)) s.1.length q.2))) h⟩
  | ifrz =>
   simp only [hm] at h
   obtain ⟨q, h1, h⟩ := hkf _ _ _ _ _ h
   obtain ⟨p, h2, h⟩ := qk h
   exact ⟨_, _, by simp only [qU, hm, h1, quq]; exact h2, vh (k := fun v => k v p.2) h⟩
theorem qp8 {f : AV} {args : List AV} {k : Tgt → List AV → Option α} (h : kTgt f args k = some r) : ∃ t, yx f args = some t ∧ k t.1 t.2 = some r := by
 unfold kTgt at h
 unfold yx
 split at h
 ·exact ⟨_, rfl, h⟩
 ·exact ⟨_, rfl, h⟩
 ·cases h
theorem qqf {ids : List Nat} {v : AV} {k : KV α} (hi : ∀ id ∈ v.msIds, id ∈ ids) (h : qoM H v k = some r) : k (v.frz ids H) = some r := by
 unfold qoM at h
 split at h
 ·rename_i cs
  have := qbs (ids := ids) (fun v hv id off len e => hi id (qcB hv e)) h
  simpa [AV.frz, Function.comp_def] using this
 ·rename_i cs
  have := qbs (k := fun cs => k (.tup cs)) (ids := ids) (fun v hv id off len e => hi id (qcB hv e)) h
  simpa [AV.frz, Function.comp_def] using this
 ·rename_i h1 h2
  have h4 := (qaN h).1 ids (fun id off len e => hi id (by subst e; simp [AV.msIds, AV.msId])) rfl
  have e1 : v.frz ids H = v.frz1 ids H := by
   cases v <;> first | rfl | exact absurd rfl (h1 _) | exact absurd rfl (h2 _)
  rw [e1]; exact h4
theorem qdV {ids : List Nat} : ∀ {l : List AV} {k : List AV → Option α}, (∀ v ∈ l, ∀ id ∈ v.msIds, id ∈ ids) → qe9 H l k = some r → k (l.map fun v => v.frz ids H) = some r
 | [], k, _, h => h
 | a :: l, k, hi, h => by
  rw [qe9] at h
  have h1 := qqf (ids := ids) (hi a (by simp)) h
  exact qdV (k := fun l => k (a.frz ids H :: l)) (fun v hv => hi v (by simp [hv])) h1
theorem qsf {a b : Operand} (h : opEq a b = true) : a = b := by
 cases a <;> cases b <;> simp_all [opEq]
theorem qnZ {y : Operand → AV} (a : Operand) : ∀ l : List Operand, frzX l (l.map y) y a = y a
 | [] => rfl
 | b :: l => by
  rw [List.map_cons, frzX]
  cases hb : opEq b a with
  | true => rw [cond_true, qsf hb]
  | false => rw [cond_false]; exact qnZ a l
theorem qia {cfg : Cfg} {nid : Option Nat} {o : Oper} {x : Operand → AV} {k : KH α} (h : qkG cfg nid o x H k = some r) :
  kOp cfg nid o.op o.type (fun a => (x a).frz (o.op.operands.toList.flatMap fun a => (x a).msIds) H) (qR (o.op.operands.toList.flatMap fun a => (x a).msIds) H) k = some r := by
 unfold qkG at h
 have h1 := qdV (ids := o.op.operands.toList.flatMap fun a => (x a).msIds) (fun v hv id hid => by
  obtain ⟨a, ha, rfl⟩ := List.mem_map.1 hv
  exact List.mem_flatMap.2 ⟨a, ha, hid⟩) h
 rw [List.map_map] at h1
 have e : frzX o.op.operands.toList (o.op.operands.toList.map ((fun v => v.frz (o.op.operands.toList.flatMap fun a => (x a).msIds) H) ∘ x)) (fun a => (x a).frz (o.op.operands.toList.flatMap fun a => (x a).msIds) H) = fun a => (x a).frz (o.op.operands.toList.flatMap fun a => (x a).msIds) H := funext fun a => qnZ a _
 rw [e] at h1
 exact h1
theorem qh4 {cfg : Cfg} {cf : Orac} {kf : KF α} (hkf : KfOk cf kf) {frz : Bool} {nid : Option Nat} {o : Oper} {x : Operand → AV} {k : KH α} (h : qkC cfg cf kf frz nid o x H k = some r) : ∃ v H', vj cfg cf frz nid o x H = some (v, H') ∧ k v H' = some r := by
 have core : ∀ {x : Operand → AV} {H : AH}, (match o.op with
   | .call c =>
    match c.callee with
    | .value f => kTgt (x f) (c.args.toList.map x) fun t al => qfN cfg cf kf nid o.type t al H k
    | _ => kOp cfg nid o.op o.type x H k
   | _ => kOp cfg nid o.op o.type x H k) = some r → ∃ v H', (match o.op with
    | .call c =>
     match c.callee with
     | .value f => (yx (x f) (c.args.toList.map x)).bind fun t => qU cfg cf nid t.1 t.2 H
     | _ => evOp cfg nid o.op o.type x H
    | _ => evOp cfg nid o.op o.type x H) = some (v, H') ∧ k v H' = some r := by
  intro x H h
  cases ho : o.op with
  | call c =>
   simp only [ho] at h ⊢
   cases hc : c.callee with
   | value f =>
    simp only [hc] at h ⊢
    obtain ⟨t, h1, h⟩ := qp8 h
    obtain ⟨v, H', h2, hz⟩ := qoR hkf h
    exact ⟨v, H', by rw [h1]; exact h2, hz⟩
   | _ => simp only [hc] at h ⊢; exact qlH h
  | _ => simp only [ho] at h ⊢; exact qlH h
 unfold qkC at h
 unfold vj
 cases frz with
 | true =>
  simp only [cond_true] at h
  simp only [if_true]
  refine core (x := fun a => (x a).frz (o.op.operands.toList.flatMap fun a => (x a).msIds) H) (H := qR (o.op.operands.toList.flatMap fun a => (x a).msIds) H) ?_
  cases ho : o.op with
  | call c =>
   simp only [ho] at h ⊢
   cases hc : c.callee with
   | value f =>
    simp only [hc] at h ⊢
    have h1 := qdV (ids := (Op.call c).operands.toList.flatMap fun a => (x a).msIds) (fun v hv id hid => by
     obtain ⟨a, ha, rfl⟩ := List.mem_map.1 hv
     refine List.mem_flatMap.2 ⟨a, ?_, hid⟩
     simp [Op.operands, Call.operands, hc, Array.mem_toList_iff.1 ha]) h
    rw [List.map_map] at h1
    exact h1
   | _ => simp only [hc] at h ⊢; have h := qia h; rw [ho] at h; exact h
  | _ => simp only [ho] at h ⊢; have h := qia h; rw [ho] at h; exact h
 | false => simp only [cond_false] at h; simp only [quo, if_false]; exact core h
theorem qgG {fr : List AV} {d : Nat} {v : AV} (h : fr[d]? = some v) : fr.set d v = fr := by
 obtain ⟨hl, e⟩ := quh.1 h
 rw [← e]; exact List.set_getElem_self hl
theorem qe4 {ops : Array Oper} {fr : List AV} {o : Oper} {k : Bool → List AV → Option α} (h : qfL ops fr o k = some r) : ∃ b, xb ops fr o = some b ∧ k b fr = some r := by
 unfold qfL at h
 unfold xb
 split at h
 ·rename_i hg; rw [hg]; exact ⟨true, rfl, h⟩
 ·rename_i j want hg
  rw [hg]
  simp only
  split at h
  ·rename_i d hd
   rw [hd]
   simp only
   obtain ⟨v, h1, h⟩ := qk h
   rw [h1]
   split at h
   ·split at h
    ·exact ⟨false, rfl, h⟩
    ·cases h
   ·obtain ⟨b, rfl, h⟩ := qbO h
    simp only
    refine ⟨_, rfl, ?_⟩
    rcases xX h with ⟨rfl, h⟩ | ⟨rfl, h⟩
    ·rw [qgG h1] at h
     cases want <;> exact h
    ·rw [qgG h1] at h
     cases want <;> exact h
  ·cases h
theorem qe5 {cfg : Cfg} {cf : Orac} {kf : KF α} (hkf : KfOk cf kf) {f rid : Nat} {ops : Array Oper} : ∀ {l : List Oper} {n : Nat} {fr : List AV} {H : AH} {k : List AV → AH → Option α}, kOps cfg cf kf f rid ops n l fr H k = some r → ∃ q, yS cfg cf f rid ops n l fr H = some q ∧ k q.1 q.2 = some r
 | [], n, fr, H, k, h => ⟨(fr, H), rfl, h⟩
 | o :: l, n, fr, H, k, h => by
  rw [kOps] at h
  obtain ⟨b, h1, h⟩ := qe4 h
  rw [yS, h1]
  simp only [quq]
  rcases xX h with ⟨rfl, h⟩ | ⟨rfl, h⟩
  ·obtain ⟨v, H', h2, h⟩ := qh4 hkf h
   simp only [if_true, h2, quq]
   exact qe5 hkf h
  ·simp only [quo, if_false]
   exact qe5 hkf h
theorem qdY {cfg : Cfg} {cf : Orac} {kf : KF α} (hkf : KfOk cf kf) {f rid : Nat} {ops : Array Oper} : ∀ {l : List Oper} {n at_ : Nat} {fr : List AV} {H : AH} {k : List DR → List AV → AH → Option α}, qif cfg cf kf f rid ops n at_ l fr H k = some r →
  ∃ q, xG cfg cf f rid ops n at_ l fr H = some q ∧ k q.1 q.2.1 q.2.2 = some r
 | [], n, at_, fr, H, k, h => ⟨([], fr, H), rfl, h⟩
 | o :: l, n, at_, fr, H, k, h => by
  rw [qif] at h
  obtain ⟨b, h1, h⟩ := qe4 h
  rw [xG, h1]
  simp only [quq]
  rcases xX h with ⟨rfl, h9⟩ | ⟨rfl, h9⟩
  ·obtain ⟨v, H', h2, h8⟩ := qh4 hkf h9
   simp only [if_true, h2, quq]
   obtain ⟨q, h3, hz⟩ := qdY hkf h8
   exact ⟨_, by rw [h3]; rfl, hz⟩
  ·simp only [quo, if_false]
   obtain ⟨q, h3, hz⟩ := qdY hkf h9
   exact ⟨_, by rw [h3]; rfl, hz⟩
theorem qhY {fr : List AV} {c : Operand} {b : Bool} (h : opd fr c = .bool b) : known fr c b = fr := by
 cases c with
 | tmp d =>
  simp only [known]
  have hg : fr[d]? = some (.bool b) := by
   have h' : fr.getD d .junk = .bool b := h
   rw [List.getD_eq_getElem?_getD] at h'
   cases hd : fr[d]? with
   | none => rw [hd] at h'; cases h'
   | some v => rw [hd] at h'; simp at h'; rw [h']
  exact qgG hg
 | _ => rfl
theorem qbN {cfg : Cfg} {cf : Orac} {kf : KF α} (hkf : KfOk cf kf) {f : Nat} {rd : Option Nat} {bs : Nat} : ∀ (c : Code) {fr : List AV} {H : AH} {k : KE α}, vB cfg cf kf f rd bs c fr H k = some r → ∃ q, evC cfg cf f rd bs c fr H = some q ∧ k q.1 q.2.1 q.2.2 = some r := by
 intro c
 induction c with
 | skip => intro fr H k h; exact ⟨(.normal, fr, H), by simp only [evC], by simpa only [vB] using h⟩
 | label l => intro fr H k h; exact ⟨(.normal, fr, H), by simp only [evC], by simpa only [vB] using h⟩
 | exit id => intro fr H k h; exact ⟨(.exit id, fr, H), by simp only [evC], by simpa only [vB] using h⟩
 | ret => intro fr H k h; exact ⟨(.ret, fr, H), by simp only [evC], by simpa only [vB] using h⟩
 | goto l => intro fr H k h; simp only [vB] at h; cases h
 | refuse s => intro fr H k h; simp only [vB] at h; cases h
 | region id ops draw =>
  intro fr H k h
  simp only [vB] at h
  simp only [evC]
  cases draw with
  | true =>
   simp only [cond_true] at h
   simp only [if_true]
   obtain ⟨h1, h⟩ := qb h
   obtain ⟨q, h2, h⟩ := qdY hkf h
   obtain ⟨h3, hz⟩ := qb h
   exact ⟨(.normal, q.2), by simp only [h1, if_true, h2, quq, h3], hz⟩
  | false =>
   simp only [cond_false] at h
   simp only [quo, if_false]
   obtain ⟨q, h2, hz⟩ := qe5 hkf h
   exact ⟨(.normal, q), by simp only [h2, quz], hz⟩
 | seq x y ihx ihy =>
  intro fr H k h
  simp only [vB] at h
  simp only [evC]
  cases hco : qcs x with
  | some p =>
   obtain ⟨rfl, hcc⟩ := qdf hco
   simp only [vB, cond_true] at h
   obtain ⟨h1, _⟩ := qb h
   unfold zj at h1
   rw [hcc] at h1
   simp at h1
  | none => ?_
  simp only
  obtain ⟨q, h1, h⟩ := ihx h
  rw [h1]
  simp only [quq]
  unfold kSeq at h
  cases hq : q.1 with
  | normal => simp only [hq] at h ⊢; exact ihy (qne h)
  | exit id => simp only [hq] at h ⊢; exact ⟨_, rfl, h⟩
  | goto l => simp only [hq] at h ⊢; exact ⟨_, rfl, h⟩
  | ret => simp only [hq] at h ⊢; exact ⟨_, rfl, h⟩
 | cond cnd x y ihx ihy =>
  intro fr H k h
  simp only [vB] at h
  simp only [evC]
  obtain ⟨b, h1, h⟩ := qbO h
  rw [h1]
  simp only
  rcases xX h with ⟨rfl, h⟩ | ⟨rfl, h⟩
  ·rw [qhY h1] at h
   simp only [if_true]; exact ihx h
  ·rw [qhY h1] at h
   simp only [quo, if_false]; exact ihy h
 | block id x ih =>
  intro fr H k h
  simp only [vB] at h
  simp only [evC]
  obtain ⟨q, h1, h⟩ := ih h
  rw [h1]
  simp only [quq]
  unfold xu at h
  cases hq : q.1 with
  | normal => simp only [hq] at h ⊢; exact ⟨_, rfl, by rw [hq]; exact h⟩
  | exit id' =>
   simp only [hq] at h ⊢
   rcases xX h with ⟨h2, hz⟩ | ⟨h2, hz⟩
   ·exact ⟨_, by simp only [h2, if_true]; rfl, hz⟩
   ·exact ⟨q, by simp only [h2, quo, if_false], by rw [hq]; exact hz⟩
  | goto l => simp only [hq] at h ⊢; exact ⟨_, rfl, by rw [hq]; exact h⟩
  | ret => simp only [hq] at h ⊢; exact ⟨_, rfl, by rw [hq]; exact h⟩
 | loop x ih =>
  intro fr H k h
  simp only [vB] at h
  simp only [evC]
  obtain ⟨q, h1, hz⟩ := qk h
  exact ⟨(q.1, vE (cfg.keepOut f (qg x)) q.2.1, q.2.2), by rw [h1]; rfl, hz⟩
 | scope x ih =>
  intro fr H k h
  simp only [vB] at h
  simp only [evC]
  obtain ⟨q, h1, h⟩ := ih h
  rw [h1]
  simp only [quq]
  unfold qh1 at h
  cases hq : q.1 with
  | goto l => simp only [hq] at h; cases h
  | normal => simp only [hq] at h ⊢; exact ⟨_, rfl, by rw [hq]; exact h⟩
  | exit id => simp only [hq] at h ⊢; exact ⟨_, rfl, by rw [hq]; exact h⟩
  | ret => simp only [hq] at h ⊢; exact ⟨_, rfl, by rw [hq]; exact h⟩
 | rangeFunc g ps assign body =>
  intro fr H k h
  simp only [vB] at h
  simp only [evC]
  generalize (vt (cfg.lift f (qg body)) fr H).1 = fr at h ⊢
  generalize (vt (cfg.lift f (qg body)) _ H).2 = H at h ⊢
  unfold qqd at h
  obtain ⟨h1, h⟩ := qb h
  split at h
  case h_2 => cases h
  rename_i g' first caps hg
  obtain ⟨h2, h⟩ := qb h
  obtain ⟨q, h3, h⟩ := hkf _ _ _ _ _ h
  unfold yh at h
  obtain ⟨b, h4, h⟩ := qk h
  unfold qr0 at h
  split at h
  case h_2 => cases h
  rename_i pend st
  have hx : ¬ (cfg.ext g').isSome = true := by
   cases he : cfg.ext g' with
   | none => simp
   | some s => rw [he] at h2; cases h2
  have hst : st ≠ .busy := by
   intro e; subst e; simp at h
  have hpk : qlG pend k (gc bs (vE (cfg.keepOut f (qg body)) fr) (q.2.set H.length .dead)).1 (gc bs (vE (cfg.keepOut f (qg body)) fr) (q.2.set H.length .dead)).2 = some r := by
   cases st with
   | busy => exact absurd rfl hst
   | _ => exact h
  unfold zy
  rw [if_pos h1, hg]
  simp only [hx, h3, quq, h4]
  unfold qlG at hpk
  cases st with
  | busy => exact absurd rfl hst
  | _ =>
   cases pend with
   | none => exact ⟨_, rfl, hpk⟩
   | some c =>
    cases c <;> first | exact ⟨_, rfl, hpk⟩ | cases hpk
theorem qcF {cfg : Cfg} {fr : List AV} : ∀ {rs : List ResultVar} {k : List AV → Option α}, kRes cfg fr H rs k = some r → ∃ vs, xy rs cfg.ty fr H = some vs ∧ k vs = some r
 | [], k, h => ⟨[], rfl, h⟩
 | .tmp t :: l, k, h => by
  rw [kRes] at h
  obtain ⟨vs, h1, hz⟩ := qcF h
  exact ⟨_, by simp only [xy, h1, quz], hz⟩
 | .cell a t :: l, k, h => by
  rw [kRes] at h
  split at h
  ·rename_i ti hti
   obtain ⟨v, h1, h⟩ := qdT h
   have h2 := vh (k := fun v => kRes cfg fr H l fun vs => k (v :: vs)) h
   obtain ⟨vs, h3, hz⟩ := qcF h2
   exact ⟨_, by simp only [xy, hti, h1, quq, h3, quz], hz⟩
  ·cases h
variable {α : Type}
def fxGo (i : Nat) (l : List (Nat × AV)) : Nat → List AV
 | 0 => []
 | n + 1 => match l with
  | [] => .junk :: fxGo (i + 1) [] n
  | p :: l' => if qun p.1 i then p.2 :: fxGo (i + 1) l' n else .junk :: fxGo (i + 1) (p :: l') n
def fx (n : Nat) (l : List (Nat × AV)) : List AV := fxGo 0 l n
def ql (fn : Func) : Code := match fn.body with | some c => c | none => .skip
def sub : Code → List Nat → Code
 | c, [] => c
 | .seq a b, i :: l => match i with | 0 => sub a l | _ => sub b l
 | .cond _ a b, i :: l => match i with | 0 => sub a l | _ => sub b l
 | .block _ a, _ :: l => sub a l
 | .loop a, _ :: l => sub a l
 | .scope a, _ :: l => sub a l
 | .rangeFunc _ _ a b, i :: l => match i with | 0 => sub a l | _ => sub b l
 | c, _ => c
def rngB (fn : Func) (f : Nat) (p : List Nat) (fr : List AV) (pend : Option Code) (st : LoopState) : ABlk :=
 match sub (ql fn) p with
 | .rangeFunc _ ps a b => .loop f fr ps.toList a b pend st
 | _ => .dead
noncomputable def kLp (k : Nat) (ts : Option (List Tmp)) (ls : List (Tmp × Nat)) (L : Den) (A : Ex × List AV × AH → Option α) : KE α := fun e fr H =>
 match e with
 | .normal => kOpt (LOOP k ts ls L (x9 k ts ls fr H)) A
 | e => A (e, fr, H)
theorem qoF {cfg : Cfg} {kf : KF α} (hkf : KfOk (EV cfg) kf) {f : Nat} {rd : Option Nat} {bs : Nat} {c : Code} {k : Nat} {ts : Option (List Tmp)} {ls : List (Tmp × Nat)} {A : Ex × List AV × AH → Option α} {fr : List AV} {H : AH} {r : α}
  (h : vB cfg (EV cfg) kf f rd bs c fr H (kLp k ts ls (evC cfg (EV cfg) f rd bs c) A) = some r) : kOpt (LOOP k ts ls (evC cfg (EV cfg) f rd bs c) (fr, H)) A = some r := by
 obtain ⟨⟨e, fr1, H1⟩, h1, h2⟩ := qbN hkf c h
 cases e with
 | normal =>
  simp only [kLp] at h2
  cases hl : LOOP k ts ls (evC cfg (EV cfg) f rd bs c) (x9 k ts ls fr1 H1) with
  | none => rw [hl] at h2; cases h2
  | some q =>
   rw [hl] at h2
   rw [qqW (p := (fr, H)) h1 hl]
   exact h2
 | exit id => rw [qfv (p := (fr, H)) h1 (fun x => by intro h; cases h)]; exact h2
 | goto l => rw [qfv (p := (fr, H)) h1 (fun x => by intro h; cases h)]; exact h2
 | ret => rw [qfv (p := (fr, H)) h1 (fun x => by intro h; cases h)]; exact h2
def yb (cfg : Cfg) (ls : List (Tmp × Nat)) (g : AV → AH → Option α) (rs : List ResultVar) : KE α := fun e fr H =>
 match e with
 | .normal => kRes cfg (vt ls fr H).1 (vt ls fr H).2 rs fun vs => g (yX vs) (vt ls fr H).2
 | .ret => kRes cfg (vt ls fr H).1 (vt ls fr H).2 rs fun vs => g (yX vs) (vt ls fr H).2
 | _ => none
def qaP (cfg : Cfg) (ls : List (Tmp × Nat)) (rs : List ResultVar) : KE AV := yb cfg ls (fun v _ => some v) rs
def yR (cfg : Cfg) (ls : List (Tmp × Nat)) (rs : List ResultVar) : KE AV := yb cfg ls (fun v H => qbM false H v some) rs
def qt7 (cfg : Cfg) (ls : List (Tmp × Nat)) (rs : List ResultVar) : KE OV := yb cfg ls (fun v H => ovOf (v, H)) rs
def qic (cfg : Cfg) (ls : List (Tmp × Nat)) (rs : List ResultVar) : KE (OV × AV) := yb cfg ls (fun v H => qoC (v, H)) rs
def qr2 (cfg : Cfg) (sz : Nat) (ls : List (Tmp × Nat)) (rs : List ResultVar) : KE (MV × List (List AV)) := yb cfg ls (fun v H => (qhQ sz (v, H)).bind fun q => (mvOf q.1).map fun v => (v, q.2)) rs
noncomputable def qaM (cfg : Cfg) (cf : Orac) (kf : KF α) (f : Nat) (fn : Func) (c : Code) (args : List AV) (H : AH) (fin : KE α) : Option α :=
 vB cfg cf kf f none H.length c (args ++ quB (fn.ntmps - args.length) .junk) H fin
theorem qgr {cfg : Cfg} {kf : KF α} (hkf : KfOk (EV cfg) kf) {g : AV → AH → Option α} {f : Nat} {fn : Func} {args : List AV} {H : AH} {r : α} (hx : cfg.ext f = none) (hk : cfg.known f = true) (hf : cfg.P.funcs[f]? = some fn) (hb : fn.body = some (ql fn))
  (h : qaM cfg (EV cfg) kf f fn (ql fn) args H (yb cfg (cfg.lift f 0) g fn.results.toList) = some r) : ∃ v H', EV cfg (.f f) args H = some (v, H') ∧ g v H' = some r := by
 unfold qaM at h
 obtain ⟨q, h1, h⟩ := qbN hkf _ h
 have key : ∀ (vs : List AV), xy fn.results.toList cfg.ty (vt (cfg.lift f 0) q.2.1 q.2.2).1 (vt (cfg.lift f 0) q.2.1 q.2.2).2 = some vs → (q.1 = .normal ∨ q.1 = .ret) → EV cfg (.f f) args H = some (yX vs, (vt (cfg.lift f 0) q.2.1 q.2.2).2) := by
  intro vs h2 hq
  refine qps ?_
  unfold xH
  simp only [hx, hk, if_true, hf, hb, h1, quq]
  unfold qbu
  rcases hq with hq | hq <;> simp only [hq, h2, quz]
 unfold yb at h
 split at h
 ·rename_i hq
  obtain ⟨vs, h2, h⟩ := qcF h
  exact ⟨_, _, key vs h2 (.inl hq), h⟩
 ·rename_i hq
  obtain ⟨vs, h2, h⟩ := qcF h
  exact ⟨_, _, key vs h2 (.inr hq), h⟩
 ·cases h
def kY2 (id : Nat) (K : AV × AH → Option α) : KE α := fun e _ H =>
 kOpt H[id]? fun b => match b with
  | .loop f fr ps a b _ _ => (match e with
   | .normal => K (.bool true, H.set id (.loop f fr ps a b none .ready))
   | .ret => K (.bool false, H.set id (.loop f fr ps a b (some .ret) .done))
   | .exit x => K (.bool false, H.set id (.loop f fr ps a b (some (.exit x)) .done))
   | .goto _ => none)
  | _ => none
noncomputable def kY1 (cfg : Cfg) (cf : Orac) (kf : KF α) (bs f id : Nat) (body : Code) (K : AV × AH → Option α) : KE α := fun e fr H =>
 match e with
 | .normal => kOpt H[id]? fun b => match b with
  | .loop f' fr' ps' a' b' p' st => (match st with
   | .ready => vB cfg cf kf f (some id) bs body fr (H.set id (.loop f' fr' ps' a' b' p' .busy)) (kY2 id K)
   | _ => none)
  | _ => none
 | _ => none
noncomputable def kY (cfg : Cfg) (cf : Orac) (kf : KF α) (id : Nat) (args : List AV) (H : AH) (K : AV × AH → Option α) : Option α :=
 kOpt H[id]? fun b => match b with
  | .loop f fr ps assign body _ st => (match st with
   | .ready => cond (qun args.length ps.length) (vB cfg cf kf f (some id) H.length assign (yg fr ps args) H (kY1 cfg cf kf H.length f id body K)) none
   | _ => none)
  | _ => none
theorem qrt {cfg : Cfg} {kf : KF α} (hkf : KfOk (EV cfg) kf) {id : Nat} {args : List AV} {H : AH} {K : AV × AH → Option α} {r : α} (h : kY cfg (EV cfg) kf id args H K = some r) : ∃ q, EV cfg (.y id) args H = some q ∧ K q = some r := by
 unfold kY at h
 obtain ⟨b, h1, h⟩ := qk h
 cases b with
 | loop f fr ps assign body pend st =>
  simp only at h
  cases st with
  | ready =>
   simp only at h
   obtain ⟨h2, h⟩ := qb h
   obtain ⟨q, h3, h⟩ := qbN hkf _ h
   unfold kY1 at h
   cases hq : q.1 with
   | normal =>
    rw [hq] at h
    simp only at h
    obtain ⟨b, h4, h⟩ := qk h
    cases b with
    | loop f' fr' ps' a' b' p' st' =>
     simp only at h
     cases st' with
     | ready =>
      simp only at h
      obtain ⟨q2, h5, h⟩ := qbN hkf _ h
      unfold kY2 at h
      obtain ⟨b, h6, h⟩ := qk h
      cases b with
      | loop f2 fr2 ps2 a2 b2 p2 st2 =>
       have key : ∀ q', xH cfg (EV cfg) (.y id) args H = some q' → K q' = some r → ∃ q, EV cfg (.y id) args H = some q ∧ K q = some r := fun q' h8 h9 => ⟨q', qps h8, h9⟩
       cases hq2 : q2.1 with
       | normal =>
        rw [hq2] at h
        refine key _ ?_ h
        unfold xH
        simp only [h1, if_pos (qui h2), h3, quq, hq, h4, h5, h6, hq2]
       | ret =>
        rw [hq2] at h
        refine key _ ?_ h
        unfold xH
        simp only [h1, if_pos (qui h2), h3, quq, hq, h4, h5, h6, hq2]
       | exit x =>
        rw [hq2] at h
        refine key _ ?_ h
        unfold xH
        simp only [h1, if_pos (qui h2), h3, quq, hq, h4, h5, h6, hq2]
       | goto x => rw [hq2] at h; cases h
      | _ => cases h
     | _ => cases h
    | _ => cases h
   | _ => rw [hq] at h; cases h
  | _ => cases h
 | _ => cases h
class InlOk (cfg : Cfg) : Prop where
 ok : ∀ f fn, cfg.inl f = some fn → cfg.ext f = none ∧ cfg.known f = true ∧ cfg.P.funcs[f]? = some fn ∧ fn.body = some (ql fn)
def qfO (f : Nat) : List (Nat × Func) → Option Func
 | [] => none
 | p :: l => if qun p.1 f then some p.2 else qfO f l
def qqX (cfg : Cfg) : List (Nat × Func) → Prop
 | [] => True
 | p :: l => (cfg.ext p.1 = none ∧ cfg.known p.1 = true ∧ cfg.P.funcs[p.1]? = some p.2 ∧ p.2.body = some (ql p.2)) ∧ qqX cfg l
theorem InlOk.of {cfg : Cfg} (tab : List (Nat × Func)) (h : ∀ f, cfg.inl f = qfO f tab) (ha : qqX cfg tab) : InlOk cfg where
 ok := by
  intro f fn hf
  rw [h] at hf
  clear h
  induction tab with
  | nil => cases hf
  | cons p l ih =>
   rw [qfO] at hf
   split at hf
   ·rename_i e
    have e := qui e
    cases hf
    rw [← e]
    exact ha.1
   ·exact ih ha.2 hf
noncomputable def kfN (cfg : Cfg) : Nat → KF α
 | 0 => fun t a H k => kOpt (EV cfg t a H) k
 | n + 1 => fun t a H k => match t with
  | .f f => (match cfg.inl f with
   | some fn => qaM cfg (EV cfg) (kfN cfg n) f fn (ql fn) a H (yb cfg (cfg.lift f 0) (fun v H => k (v, H)) fn.results.toList)
   | none => kOpt (EV cfg (.f f) a H) k)
  | .y id => kY cfg (EV cfg) (kfN cfg n) id a H k
theorem qhZ {cfg : Cfg} [InlOk cfg] : ∀ n, KfOk (α := α) (EV cfg) (kfN cfg n)
 | 0 => fun t a H k r h => qk h
 | n + 1 => fun t a H k r h => by
  unfold kfN at h
  cases t with
  | f f =>
   simp only at h
   split at h
   ·rename_i fn hf
    obtain ⟨o1, o2, o3, o4⟩ := InlOk.ok f fn hf
    obtain ⟨v, H', h1, h2⟩ := qgr (qhZ n) o1 o2 o3 o4 h
    exact ⟨_, h1, h2⟩
   ·exact qk h
  | y id => exact qrt (qhZ n) h
theorem qB {cfg : Cfg} [InlOk cfg] {f : Nat} {rd : Option Nat} {bs : Nat} {c : Code} {k : Nat} {ts : Option (List Tmp)} {ls : List (Tmp × Nat)} {A : Ex × List AV × AH → Option α} {fr : List AV} {H : AH} {r : α}
  (h : vB cfg (EV cfg) (kfN cfg 6) f rd bs c fr H (kLp k ts ls (evC cfg (EV cfg) f rd bs c) A) = some r) : kOpt (LOOP k ts ls (evC cfg (EV cfg) f rd bs c) (fr, H)) A = some r := qoF (qhZ 6) h
theorem zg {cfg : Cfg} [InlOk cfg] {g : AV → AH → Option α} {f : Nat} {fn : Func} {args : List AV} {H : AH} {r : α} (hx : cfg.ext f = none) (hk : cfg.known f = true) (hf : cfg.P.funcs[f]? = some fn) (hb : fn.body = some (ql fn))
  (h : qaM cfg (EV cfg) (kfN cfg 6) f fn (ql fn) args H (yb cfg (cfg.lift f 0) g fn.results.toList) = some r) : ∃ v H', EV cfg (.f f) args H = some (v, H') ∧ g v H' = some r := qgr (qhZ 6) hx hk hf hb h
def Gets {β : Type} (o : Option β) (P : β → Prop) : Prop := ∃ r, o = some r ∧ P r
theorem Gets.ev {β : Type} {o o' : Option β} {P : β → Prop} (h : ∀ r, o = some r → o' = some r) (hy : Gets o P) : Gets o' P := by
 obtain ⟨r, h1, h2⟩ := hy
 exact ⟨r, h r h1, h2⟩
theorem Gets.eq {β : Type} {o o' : Option β} {P : β → Prop} (h : o' = o) (hy : Gets o P) : Gets o' P := h ▸ hy
theorem gE {β : Type} {o o' x : Option β} {P : β → Prop} (f : ∀ r, o = some r → o' = some r) (e : o = x) (h : Gets x P) : Gets o' P := Gets.ev f (Gets.eq e h)
theorem Gets.mono {β : Type} {o : Option β} {P Q : β → Prop} (h : Gets o P) (hq : ∀ b, P b → Q b) : Gets o Q := by
 obtain ⟨r, h1, h2⟩ := h
 exact ⟨r, h1, hq r h2⟩
theorem Gets.bind {β γ : Type} {o : Option β} {k : β → Option γ} {Q : β → Prop} {P : γ → Prop} (h : Gets o Q) (hk : ∀ b, Q b → Gets (k b) P) : Gets (kOpt o k) P := by
 obtain ⟨r, h1, h2⟩ := h
 subst h1
 exact hk r h2
@[simp] theorem gets_some {β : Type} {a : β} {P : β → Prop} : Gets (some a) P ↔ P a := ⟨fun ⟨r, h1, h2⟩ => by cases h1; exact h2, fun h => ⟨a, rfl, h⟩⟩
theorem Gets.get {β : Type} {o : Option β} {a : β} (h : Gets o (· = a)) : o = some a := by
 obtain ⟨r, h1, h2⟩ := h
 rw [h1, h2]
theorem qtD {cfg : Cfg} {f : Nat} {args : List AV} {v : AV} {H : AH} (h : EV cfg (.f f) args [] = some (v, H)) : EVs (EV cfg) f args = some v := by unfold EVs; rw [h]; rfl
theorem qtF {cfg : Cfg} {f : Nat} {args : List AV} {v v' : AV} {H : AH} (h : EV cfg (.f f) args [] = some (v', H)) (e : (v'.frz v'.msIds H).fg = v) : EVf (EV cfg) f args = some v := by unfold EVf; rw [h]; exact congrArg some e
theorem qtE {cfg : Cfg} {f : Nat} {args : List AV} {v : OV} {r : AV × AH} (h : EV cfg (.f f) args [] = some r) (e : ovOf r = some v) : EVo (EV cfg) f args = some v := by unfold EVo; rw [h]; exact e
theorem funS {cfg : Cfg} [InlOk cfg] {f : Nat} {fn : Func} {args : List AV} {r : AV} (hx : cfg.ext f = none) (hk : cfg.known f = true) (hf : cfg.P.funcs[f]? = some fn) (hb : fn.body = some (ql fn))
  (h : qaM cfg (EV cfg) (kfN cfg 6) f fn (ql fn) args [] (qaP cfg (cfg.lift f 0) fn.results.toList) = some r) : EVs (EV cfg) f args = some r := by
 obtain ⟨v, H', h1, h2⟩ := zg hx hk hf hb h
 cases h2
 exact qtD h1
theorem funF {cfg : Cfg} [InlOk cfg] {f : Nat} {fn : Func} {args : List AV} {r : AV} (hx : cfg.ext f = none) (hk : cfg.known f = true) (hf : cfg.P.funcs[f]? = some fn) (hb : fn.body = some (ql fn))
  (h : qaM cfg (EV cfg) (kfN cfg 6) f fn (ql fn) args [] (yR cfg (cfg.lift f 0) fn.results.toList) = some r) : EVf (EV cfg) f args = some r := by
 obtain ⟨v, H', h1, h2⟩ := zg hx hk hf hb h
 exact qtF h1 (Option.some.inj (qcH h2))
theorem funO {cfg : Cfg} [InlOk cfg] {f : Nat} {fn : Func} {args : List AV} {r : OV} (hx : cfg.ext f = none) (hk : cfg.known f = true) (hf : cfg.P.funcs[f]? = some fn) (hb : fn.body = some (ql fn))
  (h : qaM cfg (EV cfg) (kfN cfg 6) f fn (ql fn) args [] (qt7 cfg (cfg.lift f 0) fn.results.toList) = some r) : EVo (EV cfg) f args = some r := by
 obtain ⟨v, H', h1, h2⟩ := zg hx hk hf hb h
 exact qtE h1 h2
theorem funQ {cfg : Cfg} [InlOk cfg] {f : Nat} {fn : Func} {args : List AV} {r : OV × AV} (hx : cfg.ext f = none) (hk : cfg.known f = true) (hf : cfg.P.funcs[f]? = some fn) (hb : fn.body = some (ql fn))
  (h : qaM cfg (EV cfg) (kfN cfg 6) f fn (ql fn) args [] (qic cfg (cfg.lift f 0) fn.results.toList) = some r) : EVq (EV cfg) f args = some r := by
 obtain ⟨v, H', h1, h2⟩ := zg hx hk hf hb h
 unfold EVq; rw [h1]; exact h2
theorem funM {cfg : Cfg} [InlOk cfg] {f sz : Nat} {fn : Func} {args : List AV} {rows : List (List AV)} {r : MV × List (List AV)} (hx : cfg.ext f = none) (hk : cfg.known f = true) (hf : cfg.P.funcs[f]? = some fn) (hb : fn.body = some (ql fn))
  (h : qaM cfg (EV cfg) (kfN cfg 6) f fn (ql fn) args [.rows true sz rows] (qr2 cfg sz (cfg.lift f 0) fn.results.toList) = some r) : EVm (EV cfg) f args sz rows = some r := by
 obtain ⟨v, H', h1, h2⟩ := zg hx hk hf hb h
 unfold EVm
 rw [h1]
 exact h2
def qr1 (cfg : Cfg) (sz : Nat) (ls : List (Tmp × Nat)) (rs : List ResultVar) : KE (AV × List (List AV)) := yb cfg ls (fun v H => qdZ H 0 fun d sz' rows =>
 cond (!d && qun sz' sz && qbW v.msIds && vO [0] (xw 0 rows)) (qbM false H v fun v' => cond (v'.refsLt 0) (some (v', rows)) none) none) rs
theorem funX {cfg : Cfg} [InlOk cfg] {f sz : Nat} {fn : Func} {args : List AV} {rows : List (List AV)} {r : AV × List (List AV)} (hx : cfg.ext f = none) (hk : cfg.known f = true) (hf : cfg.P.funcs[f]? = some fn) (hb : fn.body = some (ql fn))
  (h : qaM cfg (EV cfg) (kfN cfg 6) f fn (ql fn) args [.rows false sz rows] (qr1 cfg sz (cfg.lift f 0) fn.results.toList) = some r) : EVx (EV cfg) f args sz rows = some r := by
 obtain ⟨v, H', h1, h2⟩ := zg hx hk hf hb h
 unfold EVx
 rw [h1]
 obtain ⟨d, sz', rs', h3, h4⟩ := qaR h2
 obtain ⟨h5, h6⟩ := qb h4
 have h7 := qcH (k := fun v' => cond (v'.refsLt 0) (some (v', rs')) none) h6
 obtain ⟨h8, h9⟩ := qb h7
 simp only [que, Bool.not_eq_true'] at h5
 obtain ⟨⟨⟨hd, hs⟩, hn⟩, ha⟩ := h5
 subst hd
 cases H' with
 | nil => simp at h3
 | cons b l =>
  simp only [List.getElem?_cons_zero, Option.some.injEq] at h3
  subst h3
  simp only [quq, qhw, hs, hn, h8, ha, quy, if_true]
  exact h9
def qfM (cfg : Cfg) (k : Nat) (ls : List (Tmp × Nat)) (rs : List ResultVar) : KE (AV × AH) := yb cfg ls (fun v H => qbM false H v fun v' => qfK k v' (qR v.msIds H)) rs
theorem funJ {cfg : Cfg} [InlOk cfg] {f k : Nat} {fn : Func} {args : List AV} {G : AH} {r : AV × AH} (hx : cfg.ext f = none) (hk : cfg.known f = true) (hf : cfg.P.funcs[f]? = some fn) (hb : fn.body = some (ql fn))
  (h : qaM cfg (EV cfg) (kfN cfg 6) f fn (ql fn) args G (qfM cfg k (cfg.lift f 0) fn.results.toList) = some r) : EVj (EV cfg) f k args G = some r := by
 obtain ⟨v, H', h1, h2⟩ := zg hx hk hf hb h
 unfold EVj
 rw [h1]
 exact qcH (k := fun v' => qfK k v' (qR v.msIds H')) h2
@[simp] theorem nble (a b : Nat) : quw a b = decide (a ≤ b) := by
 rcases h : quw a b with _ | _
 ·rw [eq_comm, decide_eq_false_iff_not]; intro h'; rw [Nat.ble_eq_true_of_le h'] at h; cases h
 ·rw [eq_comm, decide_eq_true_eq]; exact Nat.le_of_ble_eq_true h
@[simp] theorem nbeq (a b : Nat) : qun a b = decide (a = b) := by
 rcases h : qun a b with _ | _
 ·rw [eq_comm, decide_eq_false_iff_not]; intro h'; rw [h', Nat.beq_refl] at h; cases h
 ·rw [eq_comm, decide_eq_true_eq]; exact qui h
@[simp] theorem leInt_eq (a b : Int) : qj a b = decide (a ≤ b) := rfl
@[simp] theorem ltInt_eq (a b : Int) : qp a b = decide (a < b) := rfl
theorem beqD {β : Type} [BEq β] [LawfulBEq β] [DecidableEq β] (a b : β) : (a == b) = decide (a = b) := by
 by_cases h : a = b
 ·subst h; simp
 ·simp [h]
theorem bneD {β : Type} [BEq β] [LawfulBEq β] [DecidableEq β] (a b : β) : (a != b) = !decide (a = b) := by rw [bne, beqD]
def AV.IsInt (v : AV) : Prop := ∃ n, v = .int .i64 n
def AV.IsBool (v : AV) : Prop := ∃ b, v = .bool b
@[simp] theorem isInt_int (n : Int) : (AV.int .i64 n).IsInt := ⟨n, rfl⟩
@[simp] theorem isBool_bool (b : Bool) : (AV.bool b).IsBool := ⟨b, rfl⟩
@[simp] theorem qf {β : Type} (b : β) (k : β → Option α) : kOpt (some b) k = k b := rfl
@[simp] theorem kOptNone {β : Type} (k : β → Option α) : kOpt none k = none := rfl
@[simp] theorem kMInt_int (kd : IntKind) (n : Int) (k : Int → Option α) : qkF kd (.int kd n) k = k n := by simp [qkF, zK]
@[simp] theorem qn (kd : IntKind) (n : Int) (k : Int → Option α) : kInt kd (.int kd n) k = k n := by simp [kInt, zK]
@[simp] theorem qm (b : Bool) (k : Bool → Option α) : ve (.bool b) k = k b := rfl
@[simp] theorem qE (s : List UInt8) (k : List UInt8 → Option α) : kStr (.str s) k = k s := rfl
@[simp] theorem qO (cs : List AV) (k : List AV → Option α) : kAgg (.agg cs) k = k cs := rfl
@[simp] theorem qu (c : AV) (cs : List AV) (k : AV → List AV → Option α) : qc (c :: cs) k = k c cs := rfl
@[simp] theorem qz (c : ABlk) (cs : AH) (k : ABlk → AH → Option α) : qq (c :: cs) k = k c cs := rfl
@[simp] theorem qJ (x : Option α) : vw [] x = x := rfl
@[simp] theorem qy (c : List AV) (cs : List (List AV)) (k : List AV → List (List AV) → Option α) : qS (c :: cs) k = k c cs := rfl
@[simp] theorem qI (x : Option α) : vg [] x = x := rfl
@[simp] theorem qx (d : Bool) (n : Nat) (rs : List (List AV)) (k : Bool → Nat → List (List AV) → Option α) : qr (.rows d n rs) k = k d n rs := rfl
@[simp] theorem qnU (d : Bool) (es : List (AV × AV)) (k : Bool → List (AV × AV) → Option α) : kMpB (.mp d es) k = k d es := rfl
@[simp] theorem qW (a b c : Nat) (k : Nat → Nat → Nat → Option α) : kMsE (.ms a b c) k = k a b c := rfl
@[simp] theorem qnT (a : Nat) (k : Nat → Option α) : kMpE (.mp a) k = k a := rfl
@[simp] theorem qjT (a b c : Nat) (k : Nat → Nat → Nat → Option α) : qh3 (.ptr a b c) k = k a b c := rfl
@[simp] theorem qnc (x : Option α) (y : Nat → AV → Option α) : qaO none x y = x := rfl
@[simp] theorem qlO (p : Nat × AV) (x : Option α) (y : Nat → AV → Option α) : qaO (some p) x y = y p.1 p.2 := rfl
@[simp] theorem qF (cs : List AV) (k : List AV → Option α) : kTup (.tup cs) k = k cs := rfl
@[simp] theorem qZ : beqB false false = true := rfl
@[simp] theorem qY : beqB true true = true := rfl
@[simp] theorem qH (n : Nat) : qun n n = true := Nat.beq_refl n
@[simp] theorem qD (x : Option α) : kNil [] x = x := rfl
@[simp] theorem kMSl_nil (x : Option α) (k : Nat → Nat → Option α) : kMSl .nil x k = x := rfl
@[simp] theorem kMSl_sl (off len : Nat) (x : Option α) (k : Nat → Nat → Option α) : kMSl (.sl off len) x k = k off len := rfl
@[simp] theorem qgp (x : Option α) : qbq .unit x = x := rfl
@[simp] theorem kMBool_bool (b : Bool) (k : Bool → Option α) : qlL (.bool b) k = k b := rfl
@[simp] theorem kOwn_nil (x : Option α) (k : Nat → List (List AV) → Nat → Nat → Option α) : kOwn .nil x k = x := rfl
@[simp] theorem qgO (sz : Nat) (rs : List (List AV)) (off len : Nat) (x : Option α) (k : Nat → List (List AV) → Nat → Nat → Option α) : kOwn (.own sz rs off len) x k = k sz rs off len := rfl
@[simp] theorem yz (rs : List (List AV)) (k : List (List AV) → Option α) : kSl (.sl rs) k = k rs := rfl
@[simp] theorem qK {β : Type} (l : List β) (i : Nat) : qul l i = l[i]? := rfl
variable {α β : Type}
def qbg (b : Bool) (k : Bool → α) : α := match b with | true => k true | false => k false
def fNat (n : Nat) (k : Nat → α) : α := match n with | 0 => k 0 | m + 1 => k (m + 1)
def fInt (n : Int) (k : Int → α) : α := match n with | .ofNat m => fNat m fun m => k (.ofNat m) | .negSucc m => fNat m fun m => k (.negSucc m)
def fL (g : β → (β → α) → α) : List β → (List β → α) → α
 | [], k => k []
 | a :: l, k => g a fun a' => fL g l fun l' => k (a' :: l')
def qo1 (kd : IntKind) (k : IntKind → α) : α := match kd with
 | .i64 => k .i64
 | .u64 => k .u64
 | .u8 => k .u8
 | .i32 => k .i32
 | .u32 => k .u32
 | x => k x
def qiq (b : UInt8) (k : UInt8 → α) : α := fNat b.toNat fun n => k (UInt8.ofNat n)
def fAV : Nat → AV → (AV → α) → α
 | 0, v, k => k v
 | n + 1, v, k => match v with
  | .int kd m => qo1 kd fun kd => fInt m fun m => k (.int kd m)
  | .bool b => qbg b fun b => k (.bool b)
  | .str s => fL qiq s fun s => k (.str s)
  | .agg cs => fL (fAV n) cs fun cs => k (.agg cs)
  | .tup cs => fL (fAV n) cs fun cs => k (.tup cs)
  | .nilS => k .nilS
  | .sl rows => fL (fL (fAV n)) rows fun rows => k (.sl rows)
  | .em => k .em
  | .ms a b c => fNat a fun a => fNat b fun b => fNat c fun c => k (.ms a b c)
  | .nilP => k .nilP
  | .ptr a b c => fNat a fun a => fNat b fun b => fNat c fun c => k (.ptr a b c)
  | .cptr cs o => fL (fAV n) cs fun cs => fNat o fun o => k (.cptr cs o)
  | .fn f a b => fL (fAV n) a fun a => fL (fAV n) b fun b => k (.fn f a b)
  | .yld a => fNat a fun a => k (.yld a)
  | .nilF => k .nilF
  | .nilM => k .nilM
  | .mp a => fNat a fun a => k (.mp a)
  | .nilI => k .nilI
  | .ifc t v => fAV n v fun v => k (.ifc t v)
  | .junk => k .junk
  | .lsl r => k (.lsl r)
  | .lpt c o => k (.lpt c o)
  | .rsl i r => k (.rsl i r)
  | .rpt i c o => k (.rpt i c o)
  | .alt l => k (.alt l)
  | .wr a b => k (.wr a b)
def fB (b : ABlk) (k : ABlk → α) : α := match b with
 | .rows d sz rs => qbg d fun d => fNat sz fun sz => fL (fL (fAV 1)) rs fun rs => k (.rows d sz rs)
 | .froz d sz rs => qbg d fun d => fNat sz fun sz => fL (fL (fAV 1)) rs fun rs => k (.froz d sz rs)
 | .mp d es => qbg d fun d => fL (fun (e : AV × AV) k => k e) es fun es => k (.mp d es)
 | .loop f fr ps a b p s => fL (fAV 1) fr fun fr => k (.loop f fr ps a b p s)
 | .dead => k .dead
 | .res => k .res
 | .reg => k .reg
 | .spl => k .spl
 | .bld T e s => k (.bld T e s)
def fH (H : AH) (k : AH → α) : α := fL fB H k
theorem qaU {g : β → (β → α) → α} (hg : ∀ b k, g b k = k b) : ∀ (l : List β) (k : List β → α), fL g l k = k l
 | [], _ => rfl
 | a :: l, k => by rw [fL, hg, qaU hg l]
theorem qcn (b : Bool) (k : Bool → α) : qbg b k = k b := by cases b <;> rfl
theorem yl (b : Nat) (k : Nat → α) : fNat b k = k b := by cases b <;> rfl
theorem qn2 (b : Int) (k : Int → α) : fInt b k = k b := by cases b <;> simp only [fInt, yl]
theorem ql4 (b : IntKind) (k : IntKind → α) : qo1 b k = k b := by cases b <;> rfl
theorem qgT (b : UInt8) (k : UInt8 → α) : qiq b k = k b := by simp [qiq, yl]
theorem qir : ∀ (n : Nat) (v : AV) (k : AV → α), fAV n v k = k v
 | 0, _, _ => rfl
 | n + 1, v, k => by
  have e1 : ∀ (l : List AV) (k : List AV → α), fL (fAV n) l k = k l := qaU (qir n)
  have e2 : ∀ (l : List (List AV)) (k : List (List AV) → α), fL (fL (fAV n)) l k = k l := qaU e1
  cases v <;> simp only [fAV, ql4, qn2, qcn, yl, e1, e2, qaU qgT, qir n]
theorem qub (b : ABlk) (k : ABlk → α) : fB b k = k b := by
 have e1 : ∀ (l : List AV) (k : List AV → α), fL (fAV 1) l k = k l := qaU (qir 1)
 have e2 : ∀ (l : List (List AV)) (k : List (List AV) → α), fL (fL (fAV 1)) l k = k l := qaU e1
 cases b <;> simp only [fB, qcn, yl, e1, e2, qaU (g := fun (e : AV × AV) (k : AV × AV → α) => k e) (fun _ _ => rfl)]
theorem qkL (H : AH) (k : AH → α) : fH H k = k H := qaU qub H k
def fFr (fr : List AV) (k : List AV → α) : α := fL (fun v k => match v with | .junk => k .junk | v => k v) fr k
theorem qcm (fr : List AV) (k : List AV → α) : fFr fr k = k fr := qaU (fun v k => by cases v <;> rfl) fr k
def qt0 (c a b : AV) (H : AH) : Option (AV × AH) :=
 match c with
 | .bool t => some (if t then a else b, H)
 | _ => none
def qsJ (cfg : Cfg) (nid : Option Nat) (t : TypeId) (H : AH) : Option (AV × AH) :=
 match cfg.ty t with
 | some ti =>
  if vX ti.zero then
   match aNew nid H (qaq cfg t ti.zero) with
   | some (k, H') => some (.ptr k 0 0, H')
   | none => none
  else none
 | none => none
def xBox (cfg : Cfg) (t : TypeId) (nid : Option Nat) (a : AV) (H : AH) : Option (AV × AH) :=
 match a.cells with
 | some cs =>
  match aNew nid H (qct cfg t cs) with
  | some (k, H') => some (.ptr k 0 0, H')
  | none => none
 | none => none
def qsI (cfg : Cfg) (t : TypeId) (parts : List (Nat × AV)) (H : AH) : Option (AV × AH) :=
 match cfg.ty t with
 | some ti =>
  if vX ti.zero then
   match ti.d with
   | .struct fs =>
    match zH cfg fs with
    | some ps => (qbk (fun i => ps[i]?) ti.zero parts).map fun cs => (.agg (cfg.fga t cs), H)
    | none => none
   | .array _ e =>
    match cfg.sz e with
    | some n => (qbk (fun i => some (i * n, n)) ti.zero parts).map fun cs => (.agg cs, H)
    | none => none
   | _ => none
  else none
 | none => none
def qfV (cfg : Cfg) (nid : Option Nat) (t : TypeId) (len : Nat) (parts : List (Nat × AV)) (H : AH) : Option (AV × AH) :=
 match cfg.td t with
 | some (.slice e) =>
  match cfg.ty e with
  | some ei =>
   if yW ei && quw (len * ei.sz) 16777216 then
    match qaY ei.sz (quB len ei.zero) parts with
    | some rows =>
     match aNew nid H (.rows (qA 0 rows) ei.sz rows) with
     | some (k, H') => some (.ms k 0 len, H')
     | none => none
    | none => none
   else none
  | none => none
 | _ => none
def qt1 (cfg : Cfg) (t : TypeId) (a : AV) (H : AH) : Option (AV × AH) :=
 match cfg.ty t with
 | some ti => (zn ti.d.agg ti.sz H a).map fun v => (v, H)
 | none => none
def qsG (cfg : Cfg) (t : TypeId) (a v : AV) (H : AH) : Option (AV × AH) :=
 match cfg.sz t with
 | some n => (y4 n H a v).map fun H' => (.junk, H')
 | none => none
def xNil (a : AV) (H : AH) : Option (AV × AH) :=
 match a with
 | .ptr id r off => some (.ptr id r off, H)
 | .cptr cs off => some (.cptr cs off, H)
 | .fn (.func f) a b => some (.fn (.func f) a b, H)
 | .mp id => some (.mp id, H)
 | .yld id => some (.yld id, H)
 | _ => none
def qq2 (t : AV) (i : Nat) (H : AH) : Option (AV × AH) :=
 match t with
 | .tup vs => (vs[i]?).map fun v => (v, H)
 | _ => none
def xOp (cfg : Cfg) (nid : Option Nat) (o : Op) (ty : TypeId) (x : Operand → AV) (H : AH) : Option (AV × AH) :=
 match o with
 | .move a | .assign a => some (x a, H)
 | .pick c a b => qt0 (x c) (x a) (x b) H
 | .alloc t => qsJ cfg nid t H
 | .box t a => xBox cfg t nid (x a) H
 | .build t parts => qsI cfg t (parts.toList.map fun p => (p.1, x p.2)) H
 | .buildSlice t len parts => qfV cfg nid t len (parts.toList.map fun p => (p.1, x p.2)) H
 | .load t a => qt1 cfg t (x a) H
 | .store t a v => qsG cfg t (x a) (x v) H
 | .nilCheck a => xNil (x a) H
 | .binOp op t a b _ => (aBin cfg (litN a b) op t (x a) (x b)).map fun v => (v, H)
 | .unOp op _ a => (aUn op (x a)).map fun v => (v, H)
 | .convert s d a => yO cfg nid s d (x a) H
 | .makeFunc f first caps => some (.fn f (first.toList.map x) (caps.toList.map x), H)
 | .makeSlice t l c => qae cfg nid t (x l) (x c) H
 | .slice t a lo hi mx => (qaX cfg t H (x a) (lo.map x) (hi.map x) (mx.map x)).map fun v => (v, H)
 | .fieldAddr t a f => (z7 cfg t (x a) f).map fun v => (v, H)
 | .field t a f => (qdB cfg t (x a) f).map fun v => (v, H)
 | .indexAddr t a i => (yf cfg t H (x a).unwr (x i)).map fun v => (v, H)
 | .index t a i => (qdA cfg t (x a) (x i)).map fun v => (v, H)
 | .extract t i => qq2 (x t) i H
 | o => evOp cfg nid o ty x H
theorem qpA (cfg : Cfg) (nid : Option Nat) (o : Op) (ty : TypeId) (x : Operand → AV) (H : AH) : xOp cfg nid o ty x H = evOp cfg nid o ty x H := by cases o <;> rfl
def qsH (cfg : Cfg) (cf : Orac) (nid : Option Nat) (f : AV) (args : List AV) (H : AH) : Option (AV × AH) := (yx f args).bind fun t => qU cfg cf nid t.1 t.2 H
def qt2 (cfg : Cfg) (cf : Orac) (nid : Option Nat) (o : Op) (c : Call) (ty : TypeId) (x : Operand → AV) (H : AH) : Option (AV × AH) :=
 match c.callee with
 | .value f => qsH cfg cf nid (x f) (c.args.toList.map x) H
 | _ => evOp cfg nid o ty x H
def qpz (cfg : Cfg) (cf : Orac) (nid : Option Nat) (o : Op) (ty : TypeId) (x : Operand → AV) (H : AH) : Option (AV × AH) :=
 match o with
 | .call c => qt2 cfg cf nid (.call c) c ty x H
 | o => xOp cfg nid o ty x H
def qkq (cfg : Cfg) (cf : Orac) (frz : Bool) (nid : Option Nat) (o : Oper) (x : Operand → AV) (H : AH) : Option (AV × AH) :=
 match frz with
 | false => qpz cfg cf nid o.op o.type x H
 | true => vj cfg cf true nid o x H
theorem qkP (cfg : Cfg) (cf : Orac) (frz : Bool) (nid : Option Nat) (o : Oper) (x : Operand → AV) (H : AH) : qkq cfg cf frz nid o x H = vj cfg cf frz nid o x H := by
 cases frz with
 | true => rfl
 | false =>
  obtain ⟨dst, op, ty, pos, after, guard⟩ := o
  unfold qkq qpz vj
  simp only [quo, if_false, qpA]
  cases op with
  | call c =>
   obtain ⟨callee, args, argTypes⟩ := c
   cases callee <;> rfl
  | _ => rfl
def qnO (o : Op) : Bool := match o with
 | .alloc _ | .box _ _ | .buildSlice _ _ _ | .store _ _ _ | .convert _ _ _ | .makeSlice _ _ _ | .call _ => false
 | _ => true
def xRes (q : Bool) (o : Option (AV × AH)) (k : AV → AH → Option β) : Option β :=
 match o with
 | none => none
 | some r => fAV 12 r.1 fun v => cond q (k v r.2) (fH r.2 fun H => k v H)
theorem qnD (q : Bool) (o : Option (AV × AH)) (k : AV → AH → Option β) : xRes q o k = o.bind fun r => k r.1 r.2 := by
 cases o with
 | none => rfl
 | some r => cases q <;> simp [xRes, qir, qkL]
def xOps (cfg : Cfg) (cf : Orac) (f rid : Nat) (ops : Array Oper) : Nat → List Oper → List AV → AH → Option (List AV × AH)
 | _, [], fr, H => some (fr, H)
 | k, o :: rest, fr, H =>
  match xb ops fr o with
  | none => none
  | some b =>
   cond b (xRes (qnO o.op && !cfg.frz f rid k) (qkq cfg cf (cfg.frz f rid k) none o (opd fr) H) fun v H' => fFr (put fr o.dst v) fun fr' => xOps cfg cf f rid ops (k + 1) rest fr' H')
    (fFr (put fr o.dst (.tup [])) fun fr' => xOps cfg cf f rid ops (k + 1) rest fr' H)
theorem qnE (cfg : Cfg) (cf : Orac) (f rid : Nat) (ops : Array Oper) : ∀ (l : List Oper) (k : Nat) (fr : List AV) (H : AH), xOps cfg cf f rid ops k l fr H = yS cfg cf f rid ops k l fr H
 | [], _, _, _ => rfl
 | o :: l, k, fr, H => by
  rw [xOps, yS]
  cases xb ops fr o with
  | none => rfl
  | some b => cases b <;> simp [qnD, qkP, qcm, qnE cfg cf f rid ops l]
def qhb (cfg : Cfg) (cf : Orac) (f rid : Nat) (ops : Array Oper) : Nat → Nat → List Oper → List AV → AH → Option (List DR × List AV × AH)
 | _, _, [], fr, H => some ([], fr, H)
 | k, at_, o :: rest, fr, H =>
  match xb ops fr o with
  | none => none
  | some b =>
   fNat (at_ + qbp cfg o) fun at' =>
   cond b (xRes (qnO o.op && !cfg.frz f rid k) (qkq cfg cf (cfg.frz f rid k) (some at_) o (opd fr) H) fun v H' => fFr (put fr o.dst v) fun fr' =>
     match qhb cfg cf f rid ops (k + 1) at' rest fr' H' with
     | none => none
     | some q => some (drOf cfg (cfg.frz f rid k) at_ o (opd fr) H v H' :: q.1, q.2))
    (fFr (put fr o.dst (.tup [])) fun fr' =>
     match qhb cfg cf f rid ops (k + 1) at' rest fr' H with
     | none => none
     | some q => some (drNo H :: q.1, q.2))
theorem qkR (cfg : Cfg) (cf : Orac) (f rid : Nat) (ops : Array Oper) : ∀ (l : List Oper) (k at_ : Nat) (fr : List AV) (H : AH), qhb cfg cf f rid ops k at_ l fr H = xG cfg cf f rid ops k at_ l fr H
 | [], _, _, _, _ => rfl
 | o :: l, k, at_, fr, H => by
  have em : ∀ (x : Option (List DR × List AV × AH)) (g : List DR × List AV × AH → List DR × List AV × AH), (match x with | none => none | some q => some (g q)) = x.map g := fun x g => by cases x <;> rfl
  rw [qhb, xG]
  cases xb ops fr o with
  | none => rfl
  | some b => cases b <;> simp [qnD, qkP, qcm, yl, qkR cfg cf f rid ops l, em]
def qkr (k : Nat) (ts : Option (List Tmp)) (ls : List (Tmp × Nat)) (body : Den) : Nat → List AV → AH → Option (Ex × List AV × AH)
 | 0, _, _ => none
 | n + 1, fr, H =>
  match body fr H with
  | none => none
  | some r =>
   match r.1 with
   | .normal => fFr (x9 k ts ls r.2.1 r.2.2).1 fun fr' => fH (x9 k ts ls r.2.1 r.2.2).2 fun H' => qkr k ts ls body n fr' H'
   | e => some (e, r.2)
theorem qkQ (k : Nat) (ts : Option (List Tmp)) (ls : List (Tmp × Nat)) (body : Den) : ∀ (n : Nat) (fr : List AV) (H : AH), qkr k ts ls body n fr H = xV k ts ls body n (fr, H)
 | 0, _, _ => rfl
 | n + 1, fr, H => by
  rw [qkr, xV]
  show _ = (body fr H).bind _
  cases body fr H with
  | none => rfl
  | some r =>
   simp only [quq]
   cases hr : r.1 <;> simp [qcm, qkL, qkQ k ts ls body n]
def xC (cfg : Cfg) (cf : Orac) (m : Nat) (f : Nat) (rd : Option Nat) (bs : Nat) : Code → List AV → AH → Option (Ex × List AV × AH)
 | .skip, fr, H => some (.normal, fr, H)
 | .label _, fr, H => some (.normal, fr, H)
 | .region id ops draw, fr, H =>
  if draw then
   if zj ops then
    match qhb cfg cf f id ops 0 H.length ops.toList fr (H ++ quB (places cfg ops.toList) .res) with
    | none => none
    | some q => if qbZ (ancs [] ops.toList) (H ++ quB (places cfg ops.toList) .res) q.1 then some (.normal, q.2) else none
   else none
  else match xOps cfg cf f id ops 0 ops.toList fr H with
   | none => none
   | some q => some (.normal, q)
 | .seq a b, fr, H =>
  match xC cfg cf m f rd bs a fr H with
  | none => none
  | some r =>
   match r.1 with
   | .normal => fFr (vE (cfg.cut f (qg b)) r.2.1) fun fr' => xC cfg cf m f rd bs b fr' r.2.2
   | e => some (e, r.2)
 | .cond c a b, fr, H =>
  match opd fr c with
  | .bool t => if t then xC cfg cf m f rd bs a fr H else xC cfg cf m f rd bs b fr H
  | _ => none
 | .block id a, fr, H =>
  match xC cfg cf m f rd bs a fr H with
  | none => none
  | some r =>
   match r.1 with
   | .exit id' => some (if qun id' id then (.normal, r.2) else r)
   | _ => some r
 | .loop a, fr, H =>
  match fFr (x9 bs (cfg.keepIn f (qg a)) (cfg.lift f (qg a)) fr H).1 fun fr' => fH (x9 bs (cfg.keepIn f (qg a)) (cfg.lift f (qg a)) fr H).2 fun H' => qkr bs (cfg.keepIn f (qg a)) (cfg.lift f (qg a)) (xC cfg cf m f rd bs a) m fr' H' with
  | none => none
  | some r => fFr (vE (cfg.keepOut f (qg a)) r.2.1) fun fr' => some (r.1, fr', r.2.2)
 | .scope a, fr, H =>
  match xC cfg cf m f rd bs a fr H with
  | none => none
  | some r =>
   match r.1 with
   | .goto _ => none
   | _ => some r
 | .exit id, fr, H => some (.exit id, fr, H)
 | .goto _, _, _ => none
 | .ret, fr, H => some (.ret, fr, H)
 | .rangeFunc g ps assign body, fr, H => fFr (vt (cfg.lift f (qg body)) fr H).1 fun fr' => fH (vt (cfg.lift f (qg body)) fr H).2 fun H' => zy cfg cf f rd bs g ps assign body fr' H'
 | .refuse _, _, _ => none
theorem qt3 (cfg : Cfg) {cf cf' : Orac} (hcf : ∀ t a H r, cf t a H = some r → cf' t a H = some r) (m : Nat) (f : Nat) (rd : Option Nat) (bs : Nat) : ∀ (cd : Code) (fr : List AV) (H : AH) (r), xC cfg cf m f rd bs cd fr H = some r → evC cfg cf' f rd bs cd fr H = some r := by
 have hev : Ev (fun _ => cf') cf := fun t a H r h => ⟨0, fun _ _ => hcf t a H r h⟩
 have key : ∀ {γ : Type} {G : Orac → Option γ}, EvG (fun _ => cf') cf G → ∀ r, G cf = some r → G cf' = some r := fun h r hr => by
  obtain ⟨n, hn⟩ := h r hr
  exact hn n (qum _)
 intro cd
 induction cd with
 | skip => intro fr H r h; exact h
 | label l => intro fr H r h; exact h
 | exit id => intro fr H r h; exact h
 | ret => intro fr H r h; exact h
 | goto l => intro fr H r h; cases h
 | refuse s => intro fr H r h; cases h
 | region id ops draw =>
  intro fr H r h
  simp only [xC, evC] at h ⊢
  cases draw with
  | true =>
   simp only [if_true] at h ⊢
   split at h
   ·rename_i hd
    rw [if_pos hd]
    rw [qkR] at h
    cases hq : xG cfg cf f id ops 0 H.length ops.toList fr (H ++ quB (places cfg ops.toList) .res) with
    | none => rw [hq] at h; cases h
    | some q =>
     rw [hq] at h
     have h2 := key (G := fun o => xG cfg o f id ops 0 H.length ops.toList fr (H ++ quB (places cfg ops.toList) .res)) (qcJ hev cfg f id ops _ _ _ _ _) q hq
     rw [h2]
     exact h
   ·cases h
  | false =>
   simp only [quo, if_false] at h ⊢
   rw [qnE] at h
   refine key (G := fun q => (yS cfg q f id ops 0 ops.toList fr H).map fun q => (Ex.normal, q)) ((qea hev cfg f id ops _ _ _ _).map _) r ?_
   rw [← h]
   cases yS cfg cf f id ops 0 ops.toList fr H <;> rfl
 | seq x y ihx ihy =>
  intro fr H r h
  simp only [xC, evC] at h ⊢
  cases hco : qcs x with
  | some p =>
   obtain ⟨rfl, hcc⟩ := qdf hco
   have h1 : zj p.2 = false := by unfold zj; rw [hcc]; rfl
   simp only [xC, if_true, h1, quo, if_false] at h
   cases h
  | none => ?_
  simp only
  split at h
  ·cases h
  ·rename_i q hq
   rw [ihx _ _ _ hq]
   simp only [quq]
   cases hq1 : q.1 with
   | normal => rw [hq1] at h; rw [qcm] at h; exact ihy _ _ _ h
   | exit id => rw [hq1] at h; exact h
   | goto l => rw [hq1] at h; exact h
   | ret => rw [hq1] at h; exact h
 | cond cnd x y ihx ihy =>
  intro fr H r h
  simp only [xC, evC] at h ⊢
  split at h
  ·rename_i t ht
   rw [ht]
   cases t with
   | true => exact ihx _ _ _ h
   | false => exact ihy _ _ _ h
  ·cases h
 | block id x ih =>
  intro fr H r h
  simp only [xC, evC] at h ⊢
  split at h
  ·cases h
  ·rename_i q hq
   rw [ih _ _ _ hq]
   exact h
 | loop x ih =>
  intro fr H r h
  simp only [xC, evC] at h ⊢
  split at h
  ·cases h
  ·rename_i q hq
   rw [qcm, qkL, qkQ] at hq
   rw [qcm] at h
   have hl : LOOP bs (cfg.keepIn f (qg x)) (cfg.lift f (qg x)) (evC cfg cf' f rd bs x) (x9 bs (cfg.keepIn f (qg x)) (cfg.lift f (qg x)) fr H) = some q := by
    refine qdD (n := m) ?_
    have up : ∀ (n : Nat) (p : List AV × AH) (r), xV bs (cfg.keepIn f (qg x)) (cfg.lift f (qg x)) (xC cfg cf m f rd bs x) n p = some r → xV bs (cfg.keepIn f (qg x)) (cfg.lift f (qg x)) (evC cfg cf' f rd bs x) n p = some r := by
     intro n
     induction n with
     | zero => intro p r h; cases h
     | succ n ihn =>
      intro p r h
      rw [xV] at h ⊢
      obtain ⟨q, h1, h2⟩ := quf.1 h
      rw [ih _ _ _ h1]
      simp only [quq]
      cases hq : q.1 with
      | normal => rw [hq] at h2; exact ihn _ _ h2
      | exit id => rw [hq] at h2; exact h2
      | goto l => rw [hq] at h2; exact h2
      | ret => rw [hq] at h2; exact h2
    exact up _ _ _ hq
   rw [hl]
   exact h
 | scope x ih =>
  intro fr H r h
  simp only [xC, evC] at h ⊢
  split at h
  ·cases h
  ·rename_i q hq
   rw [ih _ _ _ hq]
   exact h
 | rangeFunc g ps assign body =>
  intro fr H r h
  simp only [xC, evC, qcm, qkL] at h ⊢
  unfold zy at h ⊢
  split at h
  ·rename_i hl
   rw [if_pos hl]
   split at h
   ·split at h
    ·cases h
    ·rename_i hx
     rw [if_neg hx]
     obtain ⟨q, hq, h⟩ := quf.1 h
     rw [hcf _ _ _ _ hq]
     exact h
   ·cases h
  ·cases h
end Go.Av
end
