/-
  Parts of the proof of ScanWritesUptoCardSaid, put together: the abstract evaluation and its contracts. Own work.
  What is proved: each lemma as it stands; no condition.
-/
import Derived.Test.YtnjonahoheopnaaGreatDoorZScanWritesM4
open List renaming getElem?_eq_some_iff → qpn, getElem?_eq_getElem → qpr, getElem?_append_left → qpu, length → qpw, getElem?_set → qpx, getElem?_append_right → qpz, get?Internal → qpA, mem_of_getElem? → qpB, length_cons → qpC, length_append → qpD, mem_append → qpH, replicate → qpK, length_nil → qpL, mem_cons → qpM, length_map → qpN, take → qpO, append → qpQ
open Bool renaming and_eq_true → qpo, false_eq_true → qpv, not_eq_true → qpI
open Option renaming bind_eq_some_iff → qpp, map_eq_some_iff → qpq, bind_some → qpy, map_some → qpF
open Nat renaming le_refl → qps, eq_of_beq_eq_true → qpt, mul_le_mul_right → qpE, ble → qpG, beq → qpJ, blt_eq → qpP
set_option maxRecDepth 1000000
set_option maxHeartbeats 0
section
namespace Go.Av
mutual
def AV.wt : AV → Nat
 | .str s => s.length + 1
 | .sl rows => wtR rows + 1
 | _ => 1
def wtL : List AV → Nat
 | [] => 0
 | a :: l => a.wt + wtL l
def wtR : List (List AV) → Nat
 | [] => 0
 | a :: l => wtL a + wtR l
end
@[simp] theorem qnP : wtL [] = 0 := by rw [wtL]
@[simp] theorem qmk (a : AV) (l : List AV) : wtL (a :: l) = a.wt + wtL l := by rw [wtL]
@[simp] theorem wtR_nil : wtR [] = 0 := by rw [wtR]
@[simp] theorem qmj (a : List AV) (l : List (List AV)) : wtR (a :: l) = wtL a + wtR l := by rw [wtR]
@[simp] theorem wt_int (k : IntKind) (n : Int) : (AV.int k n).wt = 1 := by rw [AV.wt] <;> simp
@[simp] theorem wt_bool (b : Bool) : (AV.bool b).wt = 1 := by rw [AV.wt] <;> simp
@[simp] theorem wt_str (s : List UInt8) : (AV.str s).wt = s.length + 1 := by rw [AV.wt]
@[simp] theorem qpc (r : List (List AV)) : (AV.sl r).wt = wtR r + 1 := by rw [AV.wt]
theorem qjJ (a b : List AV) : wtL (a ++ b) = wtL a + wtL b := by
 induction a with
 | nil => simp
 | cons x l ih => simp [ih]; omega
end Go.Av
namespace Go.Proofs.YtnjonahoheopnaaGreatDoor
open Go.Av Go.WideShapes
def qeG (P : Program) : Nat → List Field → Option Nat
 | off, [] => some off
 | off, f :: fs => if f.offset = off then qeG P (off + P.cellsOf f.type) fs else none
def qcW (P : Program) (ts : List TypeId) (t : TypeId) : Bool :=
 match P.underlying t with
 | some (.int _) | some .bool | some .string => decide (P.cellsOf t = 1)
 | some (.struct fs) => decide (qeG P 0 fs.toList = some (P.cellsOf t)) && fs.toList.all (fun f => decide (f.type ∈ ts))
 | some (.slice e) => decide (P.cellsOf t = 1) && (decide (e ∈ ts) && decide (0 < P.cellsOf e))
 | _ => false
def Lay (P : Program) : Nat → TypeId → List AV → Prop
 | 0, _, _ => False
 | n + 1, t, cz =>
  match P.underlying t with
  | some (.int k) => ∃ m, cz = [.int k m] ∧ (Lit.int k m).wf = true
  | some .bool => ∃ b, cz = [.bool b]
  | some .string => ∃ s, cz = [.str s]
  | some (.struct fs) => cz.length = P.cellsOf t ∧ ∀ (i : Nat) f, fs[i]? = some f → Lay P n f.type ((cz.drop f.offset).take (P.cellsOf f.type))
  | some (.slice e) => ∃ rows, cz = [.sl rows] ∧ ∀ row ∈ rows, row.length = P.cellsOf e ∧ Lay P n e row
  | _ => False
def vF (W : World) (cs : List Value) (cz : List AV) : Prop := cz.length = cs.length ∧ ∀ (j : Nat) a v, cz[j]? = some a → cs[j]? = some v → a.isCell = true ∧ Rep (C0 W) M0 a v
theorem vF.nil {W : World} : vF W [] [] := ⟨rfl, fun j a v h => by simp at h⟩
theorem vF.one {W : World} {a : AV} {v : Value} (h1 : a.isCell = true) (h2 : Rep (C0 W) M0 a v) : vF W [v] [a] := ⟨rfl, fun j a' v' ha hv => by
 match j, ha, hv with
 | 0, ha, hv => simp at ha hv; subst ha hv; exact ⟨h1, h2⟩
 | j + 1, ha, hv => simp at ha⟩
theorem vF.append {W : World} {cs cs' : List Value} {cz cz' : List AV} (h : vF W cs cz) (h' : vF W cs' cz') : vF W (cs ++ cs') (cz ++ cz') := by
 refine ⟨by simp [h.1, h'.1], fun j a v ha hv => ?_⟩
 by_cases hj : j < cz.length
 ·rw [qpu hj] at ha
  rw [qpu (by rw [← h.1]; exact hj)] at hv
  exact h.2 j a v ha hv
 ·rw [qpz (by omega)] at ha
  rw [qpz (by rw [← h.1]; omega), ← h.1] at hv
  exact h'.2 _ a v ha hv
section
variable {H : Type} {enc : TypeId × Value → H} {P : Program} {W : World}
def qnM (enc : TypeId × Value → H) (P : Program) (W : World) (n : Nat) (t : TypeId) : Prop :=
 ∀ cs x, DataW.trod enc P W 0 (fun _ => true) true n t cs = some x → ∃ cz, vF W cs cz ∧ cs.length = P.cellsOf t ∧ Lay P n t cz ∧ wtL cz ≤ Rows.uptoBulk x.1 ∧ qk 0 cz = true ∧
  ∀ (W' : World) (sp : Nat → Bool), (∀ p ∈ x.2, W.sameAt W' p) → (∀ p ∈ x.2, sp p.block = true) → DataW.trod enc P W' 0 sp true n t cs = some x
theorem qi0 {n : Nat} {ts : List TypeId} (ih : ∀ t ∈ ts, qnM enc P W n t) {cs : List Value} : ∀ (fs : List Field) (off : Nat), qeG P off fs = some cs.length → (∀ f ∈ fs, f.type ∈ ts) →
  ∀ xs, (fs.mapM fun f => DataW.trod enc P W 0 (fun _ => true) true n f.type ((cs.drop f.offset).take (P.cellsOf f.type))) = some xs →
  ∃ cz, vF W (cs.drop off) cz ∧ (∀ f ∈ fs, off ≤ f.offset ∧ Lay P n f.type ((cz.drop (f.offset - off)).take (P.cellsOf f.type))) ∧ wtL cz ≤ Rows.uptoBulkAll (xs.map (·.1)) ∧ qk 0 cz = true ∧
   ∀ (W' : World) (sp : Nat → Bool), (∀ p ∈ xs.flatMap (·.2), W.sameAt W' p) → (∀ p ∈ xs.flatMap (·.2), sp p.block = true) →
    (fs.mapM fun f => DataW.trod enc P W' 0 sp true n f.type ((cs.drop f.offset).take (P.cellsOf f.type))) = some xs := by
 intro fs
 induction fs with
 | nil =>
  intro off ht _ xs hx
  rw [qeG] at ht
  cases ht
  simp at hx
  subst hx
  refine ⟨[], ?_, fun f hf => by simp at hf, by simp, rfl, fun W' sp _ _ => by simp⟩
  rw [List.drop_length]; exact vF.nil
 | cons f fs ihf =>
  intro off ht hin xs hx
  rw [qeG] at ht
  split at ht
  ·rename_i ho
   rw [List.mapM_cons] at hx
   obtain ⟨x, h1, hx⟩ := qpp.1 hx
   obtain ⟨ys, h2, hx⟩ := qpp.1 hx
   cases hx
   obtain ⟨a1, c1, l1, y1, w1, r1, b1⟩ := ih f.type (hin f (by simp)) _ _ h1
   obtain ⟨a2, c2, y2, w2, r2, b2⟩ := ihf (off + P.cellsOf f.type) ht (fun g hg => hin g (by simp [hg])) ys h2
   have hlen : a1.length = P.cellsOf f.type := by rw [c1.1, l1]
   refine ⟨a1 ++ a2, ?_, fun g hg => ?_, ?_, qa3 r1 r2, fun W' sp hs hp => ?_⟩
   ·have := c1.append c2
    rw [ho, ← List.drop_drop, List.take_append_drop] at this
    exact this
   ·rcases qpM.1 hg with rfl | hg
    ·refine ⟨by omega, ?_⟩
     rw [ho, Nat.sub_self, List.drop_zero, ← hlen, List.take_append_of_le_length (qps _), List.take_length]
     exact y1
    ·obtain ⟨g1, g2⟩ := y2 g hg
     refine ⟨by omega, ?_⟩
     have : List.drop (g.offset - off) (a1 ++ a2) = List.drop (g.offset - (off + P.cellsOf f.type)) a2 := by
      have e : g.offset - off = a1.length + (g.offset - (off + P.cellsOf f.type)) := by omega
      rw [e, ← List.drop_drop, List.drop_left]
     rw [this]
     exact g2
   ·rw [qjJ]
    simp only [List.map_cons, Rows.uptoBulkAll]
    omega
   ·rw [List.mapM_cons, b1 W' sp (fun p hpp => hs p (by simp [hpp])) (fun p hpp => hp p (by simp [hpp]))]
    have b3 := b2 W' sp (fun p hpp => hs p (by rw [List.flatMap_cons]; exact List.mem_append_right _ hpp)) (fun p hpp => hp p (by rw [List.flatMap_cons]; exact List.mem_append_right _ hpp))
    show Option.bind _ _ = _
    rw [qpy]
    show Option.bind _ _ = _
    rw [b3]; rfl
  ·cases ht
theorem qgA {e : Nat} : ∀ (rows : List (List AV)) (ds : List (DataW H)), rows.length = ds.length → (∀ (i : Nat) row d, rows[i]? = some row → ds[i]? = some d → wtL row ≤ Rows.uptoBulk d) → wtR rows ≤ Rows.uptoBulkAll ds
 | [], [], _, _ => by simp [Rows.uptoBulkAll]
 | t :: l, d :: ds, hl, h => by
  have h0 := h 0 t d rfl rfl
  have := qgA (e := e) l ds (by simpa using hl) (fun i t d ht hd => h (i + 1) t d (by simpa using ht) (by simpa using hd))
  simp only [qmj, Rows.uptoBulkAll]
  omega
theorem qmz {ts : List TypeId} (hts : ∀ t ∈ ts, qcW P ts t = true) : ∀ (n : Nat), ∀ t ∈ ts, qnM enc P W n t := by
 intro n
 induction n with
 | zero => intro t _ cs x h; simp [DataW.trod] at h
 | succ n ih =>
  intro t ht cs x h
  have hg := hts t ht
  unfold qcW at hg
  split at hg
  ·rename_i k hu
   obtain ⟨m, rfl, rfl, hw⟩ := DataW.trod_int hu h
   refine ⟨[.int k m], vF.one rfl (.int _ _), (of_decide_eq_true hg).symm, by unfold Lay; rw [hu]; exact ⟨m, rfl, hw⟩, by simp [Rows.uptoBulk], rfl, fun W' sp _ _ => ?_⟩
   simp [DataW.trod, hu, hw]
  ·rename_i hu
   obtain ⟨b, rfl, rfl⟩ := DataW.trod_bool hu h
   refine ⟨[.bool b], vF.one rfl (.bool _), (of_decide_eq_true hg).symm, by unfold Lay; rw [hu]; exact ⟨b, rfl⟩, by simp [Rows.uptoBulk], rfl, fun W' sp _ _ => ?_⟩
   simp [DataW.trod, hu]
  ·rename_i hu
   obtain ⟨s, rfl, rfl, hw⟩ := DataW.trod_string hu h
   refine ⟨[.str s.data.toList], vF.one rfl ?_, (of_decide_eq_true hg).symm, by unfold Lay; rw [hu]; exact ⟨_, rfl⟩, by simp [Rows.uptoBulk], rfl, fun W' sp _ _ => ?_⟩
   ·have := Rep.str (C := C0 W) (μ := M0) s.data.toList
    simpa using this
   ·simp [DataW.trod, hu, hw]
  ·rename_i fs hu
   rw [qpo, decide_eq_true_eq, List.all_eq_true] at hg
   have h' := h
   unfold DataW.trod at h'
   rw [hu] at h'
   simp only [] at h'
   split at h'
   ·rename_i hl
    obtain ⟨xs, hx, rfl⟩ := qpq.1 h'
    rw [← hl] at hg
    obtain ⟨cz, c, y, w, r, b⟩ := qi0 ih fs.toList 0 hg.1 (fun f hf => of_decide_eq_true (hg.2 f hf)) xs hx
    rw [List.drop_zero] at c
    refine ⟨cz, c, hl, ?_, ?_, r, fun W' sp hs hp => ?_⟩
    ·unfold Lay
     rw [hu]
     refine ⟨by rw [c.1, hl], fun i f hf => ?_⟩
     have := y f (by rw [← Array.getElem?_toList] at hf; exact qpB hf)
     rw [Nat.sub_zero] at this
     exact this.2
    ·simp only [Rows.uptoBulk]; omega
    ·unfold DataW.trod
     rw [hu]
     simp only []
     rw [if_pos hl, b W' sp hs hp]; rfl
   ·cases h'
  ·rename_i e hu
   rw [qpo, qpo, decide_eq_true_eq, decide_eq_true_eq, decide_eq_true_eq] at hg
   obtain ⟨hc1, he, hpos⟩ := hg
   rcases DataW.trod_slice hu h with ⟨rfl, rfl⟩ | ⟨a, len, cap, elems, rest, n', e', rfl, rfl, hb, hlc, hmx, hel, hg, hsp, _⟩
   ·refine ⟨[.sl []], vF.one rfl .slNil, hc1.symm, by unfold Lay; rw [hu]; exact ⟨[], rfl, fun r hr => by simp at hr⟩, by simp [Rows.uptoBulk], rfl, fun W' sp _ _ => ?_⟩
    simp [DataW.trod, hu]
   ·obtain rfl : n' = n := by omega
    obtain ⟨hrl, hrg⟩ := hsp rfl
    have ihe := ih e he
    have tms : ∃ f : Nat → List AV, ∀ (i : Nat) y, elems[i]? = some y → ∃ cs', W.cells? 0 (a.add (i * P.cellsOf e)) (P.cellsOf e) = some cs' ∧ vF W cs' (f i) ∧ cs'.length = P.cellsOf e ∧ Lay P n' e (f i) ∧ wtL (f i) ≤ Rows.uptoBulk y.1 ∧ qk 0 (f i) = true := by
     have : ∀ i : Nat, ∃ t : List AV, ∀ y, elems[i]? = some y → ∃ cs', W.cells? 0 (a.add (i * P.cellsOf e)) (P.cellsOf e) = some cs' ∧ vF W cs' t ∧ cs'.length = P.cellsOf e ∧ Lay P n' e t ∧ wtL t ≤ Rows.uptoBulk y.1 ∧ qk 0 t = true := by
      intro i
      cases hy : elems[i]? with
      | none => exact ⟨default, fun y h => by cases h⟩
      | some y =>
       have hi : i < len := by rw [← hel]; exact (qpn.1 hy).1
       obtain ⟨cs', h1, h2⟩ := qpp.1 ((hg i hi).trans hy)
       obtain ⟨t, h3, h4, h5, h6, h7, _⟩ := ihe _ _ h2
       exact ⟨t, fun y' hy' => by cases hy'; exact ⟨cs', h1, h3, h4, h5, h6, h7⟩⟩
     exact ⟨fun i => Classical.choose (this i), fun i => Classical.choose_spec (this i)⟩
    obtain ⟨f, hf⟩ := tms
    have hget : ∀ (i : Nat) (row : List AV), ((List.range len).map f)[i]? = some row → i < len ∧ row = f i := by
     intro i row hi
     have hil : i < len := by have := (qpn.1 hi).1; simpa using this
     refine ⟨hil, ?_⟩
     rw [List.getElem?_map, List.getElem?_range hil] at hi
     simpa using hi.symm
    have hrow : ∀ (i : Nat) (row : List AV), ((List.range len).map f)[i]? = some row → row.length = P.cellsOf e ∧ Lay P n' e row ∧ qk 0 row = true := by
     intro i row hi
     obtain ⟨hil, rfl⟩ := hget i row hi
     obtain ⟨cs', h1, h2, h3, h4, h5, h6⟩ := hf i _ (qpr (by omega))
     exact ⟨by rw [h2.1, h3], h4, h6⟩
    have hspot : ((List.range len).map f) ≠ [] → a.spot = none := by
     intro hne
     have hl0 : 0 < len := by
      rcases Nat.eq_zero_or_pos len with h0 | h0
      ·subst h0; exact absurd (by simp) hne
      ·exact h0
     obtain ⟨cs0, q1, _⟩ := hf 0 _ (qpr (by omega))
     have := (qdU q1 (by omega)).1
     simpa [Addr.add] using this
    have hcell : ∀ (i j : Nat) (row : List AV) x, ((List.range len).map f)[i]? = some row → row[j]? = some x → x.isCell = true ∧ ∃ v, W.cell? ⟨a.block, a.off + i * P.cellsOf e + j, none⟩ = some v ∧ Rep (C0 W) M0 x v := by
     intro i j row x hi hj
     have hs := hspot (by intro h0; rw [h0] at hi; simp at hi)
     obtain ⟨hil, rfl⟩ := hget i row hi
     obtain ⟨cs', h1, h2, h3, _⟩ := hf i _ (qpr (by omega))
     obtain ⟨s1, s2, s3⟩ := qdU h1 (by omega)
     have hjl : j < cs'.length := by
      rw [← h2.1]
      exact (qpn.1 hj).1
     have h4 := h2.2 j x _ hj (qpr hjl)
     refine ⟨h4.1, _, ?_, h4.2⟩
     have := s3 j _ (qpr hjl)
     rw [xp _ _ hs] at this
     exact this
    have hfree : ql 0 ((List.range len).map f) = true := by
     have : ∀ l : List (List AV), (∀ r ∈ l, qk 0 r = true) → ql 0 l = true := by
      intro l
      induction l with
      | nil => intro _; rfl
      | cons r l ih => intro h; rw [ql, h r (by simp), ih fun q hq => h q (by simp [hq])]; rfl
     refine this _ fun r hr => ?_
     obtain ⟨i, hi⟩ := List.getElem?_of_mem hr
     exact (hrow i r hi).2.2
    refine ⟨[.sl ((List.range len).map f)], vF.one rfl ?_, hc1.symm, ?_, ?_, rfl, fun W' sp hs hp => ?_⟩
    ·have := Rep.sl (C := C0 W) (μ := M0) ((List.range len).map f) a cap (P.cellsOf e) (fun i j => (W.cell? ⟨a.block, a.off + i * P.cellsOf e + j, none⟩).getD undef) hspot (fun i row hi => (hrow i row hi).1) (fun i j row x hi hj => ?_) (fun i j row x hi hj => ?_) (fun i j row x hi hj => ?_) (by simpa using hlc) hfree
     ·simpa using this
     ·obtain ⟨_, v, h1, _⟩ := hcell i j row x hi hj
      show W.cell? _ = _
      rw [h1]; rfl
     ·obtain ⟨_, v, h1, h2⟩ := hcell i j row x hi hj
      rw [h1]; exact h2
     ·exact (hcell i j row x hi hj).1
    ·unfold Lay
     rw [hu]
     refine ⟨_, rfl, fun row hr => ?_⟩
     obtain ⟨i, hi⟩ := List.getElem?_of_mem hr
     exact ⟨(hrow i row hi).1, (hrow i row hi).2.1⟩
    ·simp only [Rows.uptoBulk, qmk, qnP, qpc]
     have := qgA (e := 0) ((List.range len).map f) (elems.map (·.1)) (by simp [hel]) (fun i t d ht hd => by
      rw [List.getElem?_map] at ht hd
      obtain ⟨j, hj, rfl⟩ := qpq.1 ht
      obtain ⟨y, hy, rfl⟩ := qpq.1 hd
      have hil : i < len := by have := (qpn.1 hj).1; simpa using this
      rw [List.getElem?_range hil] at hj
      cases hj
      obtain ⟨_, _, _, _, _, h5, _⟩ := hf i y hy
      exact h5)
     omega
    ·have hrow' : 0 < (elems.length + rest.length) → sp a.block = true := fun hps => hp (.cell a.block (a.off + 0)) (by
      rw [qpH]
      exact .inl (MemPlace.mem_row.2 ⟨0, Nat.mul_pos hps hpos, rfl⟩))
     unfold DataW.trod at h ⊢
     rw [hu] at h ⊢
     simp only [if_true] at h ⊢
     rw [if_pos ⟨hb, hlc, hmx⟩] at h ⊢
     simp only [qpq, qpp] at h ⊢
     obtain ⟨elems', he, rest', hr, hx⟩ := h
     have hlen : elems'.length = len := by simpa using mapM_some_length he
     have hrl' : rest'.length = cap - len := by simpa using mapM_some_length hr
     simp only [Prod.mk.injEq, DataW.slice.injEq] at hx
     have one' : ∀ (i : Nat) (y : DataW H × List MemPlace), i < elems'.length + rest'.length → y ∈ elems' ++ rest' →
       (W.cells? 0 (a.add (i * P.cellsOf e)) (P.cellsOf e)).bind (DataW.trod enc P W 0 (fun _ => true) true n' e) = some y → (W'.cells? 0 (a.add (i * P.cellsOf e)) (P.cellsOf e)).bind (DataW.trod enc P W' 0 sp true n' e) = some y := by
      intro i y hi hy hv
      simp only [qpp] at hv ⊢
      obtain ⟨cs', hc', hy'⟩ := hv
      obtain ⟨_, _, _, _, _, _, hbk⟩ := ihe _ _ hy'
      refine ⟨cs', World.cells?_carry hc' (fun p hpp => hs p ?_), hbk W' sp (fun p hpp => hs p ?_) (fun p hpp => hp p ?_)⟩
      ·rw [← hx.2]
       obtain ⟨j, hj, rfl⟩ := MemPlace.mem_row.1 hpp
       simp only [qpH]
       left
       refine MemPlace.mem_row.2 ⟨i * P.cellsOf e + j, ?_, ?_⟩
       ·calc i * P.cellsOf e + j < i * P.cellsOf e + P.cellsOf e := by omega
         _ = (i + 1) * P.cellsOf e := by rw [Nat.add_mul, Nat.one_mul]
         _ ≤ (elems'.length + rest'.length) * P.cellsOf e := qpE _ hi
       ·unfold Addr.add
        split
        ·rename_i h0
         simp [h0]
        ·simp [Nat.add_assoc]
      ·rw [← hx.2]
       simp only [qpH, List.mem_flatMap]
       right
       exact ⟨y, by simpa using hy, hpp⟩
      ·rw [← hx.2]
       simp only [qpH, List.mem_flatMap]
       right
       exact ⟨y, by simpa using hy, hpp⟩
     refine ⟨elems', mapM_carry he (fun i y hi hy => one' i y (by have : i < len := (by simpa using hi); omega) (by simp [hy])), rest', ?_, by simp only [Prod.mk.injEq, DataW.slice.injEq]; exact hx⟩
     by_cases h0 : 0 < elems.length + rest.length
     ·rw [if_pos (hrow' h0)]
      exact mapM_carry hr (fun j y hj hy => one' (len + j) y (by have : j < cap - len := (by simpa using hj); omega) (by simp [hy]))
     ·have hc0 : cap - len = 0 := by omega
      rw [hc0] at hr ⊢
      simp at hr
      subst hr
      split <;> rfl
  ·cases hg
theorem qkq {ts : List TypeId} (hts : ∀ t ∈ ts, qcW P ts t = true) {t e : TypeId} (ht : t ∈ ts) (hu : P.underlying t = some (.slice e)) {r : Reach} {b0 : Nat} {v : Value} {d : DataW H} {ps : List MemPlace}
  (hval : Value.okWide P W r b0 t v) (hd : DataW.Trod enc P W 0 (fun _ => true) true t v d ps) :
  ∃ (rows : List (List AV)) (n : Nat), Opened enc P W t v d ps (.sl rows) ∧ (∀ row ∈ rows, row.length = P.cellsOf e ∧ Lay P n e row) ∧ wtR rows < Rows.uptoBulk d := by
 obtain ⟨a, len, cap, rfl⟩ := okWide_slice hu hval
 obtain ⟨n, hn⟩ := hd
 obtain ⟨cz, h1, h2, h3, h4, h5, h6⟩ := qmz hts n t ht _ _ hn
 cases n with
 | zero => exact absurd h3 (by unfold Lay; exact id)
 | succ n =>
  unfold Lay at h3
  rw [hu] at h3
  obtain ⟨rows, rfl, h3⟩ := h3
  refine ⟨rows, n, ⟨?_, fun W' sp hs hp => ⟨n + 1, h6 W' sp hs hp⟩⟩, h3, ?_⟩
  ·exact (h1.2 0 _ _ rfl (by simp [Value.cells])).2
  ·simp at h4; exact h4
end
theorem qmG {α : Type} {P : Program} {n : Nat} {e : TypeId} {f : α → List AV} {w : α → Nat} (h : ∀ cz, Lay P n e cz → ∃ x : α, cz = f x ∧ w x < wtL cz) : ∀ rows : List (List AV), (∀ row ∈ rows, row.length = P.cellsOf e ∧ Lay P n e row) →
  ∃ l : List α, rows = l.map f ∧ (∀ x ∈ l, w x < wtR rows) ∧ l.length ≤ wtR rows := by
 intro rows
 induction rows with
 | nil => intro _; exact ⟨[], rfl, fun x hx => by simp at hx, by simp⟩
 | cons r rows ih =>
  intro hr
  obtain ⟨x, e1, w1⟩ := h r (hr r (by simp)).2
  obtain ⟨l, e2, w2, w3⟩ := ih fun q hq => hr q (by simp [hq])
  refine ⟨x :: l, by rw [List.map_cons, ← e1, ← e2], fun y hy => ?_, by simp; omega⟩
  rcases qpM.1 hy with rfl | hy
  ·simp; omega
  ·have := w2 y hy; simp; omega
theorem qoc {H : Type} {l : List (DataW H)} (hk : Rows.uptoSmall H l = true) {d : DataW H} (hd : d ∈ l) : Rows.uptoBulk d ≤ 1048576 := by
 have h : Rows.uptoBulkAll l ≤ 1048576 := of_decide_eq_true hk
 have := ql5 hd
 omega
end Go.Proofs.YtnjonahoheopnaaGreatDoor
end
section
namespace Go.Av
def InB (a : Int) : Prop := -576460752303423488 ≤ a ∧ a ≤ 576460752303423487
instance (a : Int) : Decidable (InB a) := inferInstanceAs (Decidable (_ ∧ _))
structure Env where
 obj : Tm
 binds : List (Int × Tm)
 self : Int
theorem Tm.Ok.subs {t : Tm} (h : t.Ok) {x : Tm} (hx : x ∈ t.subs) : x.Ok := by
 obtain ⟨k, n, s, l⟩ := t
 exact h.sub hx
end Go.Av
end
section
namespace Go.Proofs.YtnjonahoheopnaaGreatDoor
open Go.Av
theorem qf5 {n : Nat} {cz : List AV} (h : Lay Tryz.prog n 3 cz) : ∃ k : Int, cz = [.int .i64 k] ∧ 0 < wtL cz := by
 cases n with
 | zero => exact absurd h (by unfold Lay; exact id)
 | succ n =>
  unfold Lay at h
  rw [Tryz.underlying3] at h
  obtain ⟨k, rfl, _⟩ := h
  exact ⟨k, rfl, by simp⟩
def qeF : List TypeId := [22, 56, 3, 9]
theorem qj0 : ∀ t ∈ qeF, qcW Tryz.prog qeF t = true := by
 have : qeF.all (qcW Tryz.prog qeF) = true := by kernel_rfl
 exact List.all_eq_true.1 this
theorem qmF {n : Nat} {cz : List AV} (h : Lay Tryz.prog n 9 cz) : ∃ s : List UInt8, cz = [.str s] ∧ s.length < wtL cz := by
 cases n with
 | zero => exact absurd h (by unfold Lay; exact id)
 | succ n =>
  unfold Lay at h
  rw [Tryz.underlying9] at h
  obtain ⟨s, rfl⟩ := h
  exact ⟨s, rfl, by simp⟩
theorem qlN {n : Nat} {cz : List AV} (h : Lay Tryz.prog n 56 cz) : ∃ t : TokA, cz = t.cells ∧ t.s.length < wtL cz := by
 cases n with
 | zero => exact absurd h (by unfold Lay; exact id)
 | succ n =>
  unfold Lay at h
  rw [Tryz.underlying56] at h
  obtain ⟨hl, hf⟩ := h
  have hl : cz.length = 4 := by rw [hl]; kernel_rfl
  match cz, hl with
  | [a, b, c, d], _ =>
   have h0 : Lay Tryz.prog n 3 ((([a, b, c, d] : List AV).drop 0).take (Tryz.prog.cellsOf 3)) := hf 0 _ rfl
   have h1 : Lay Tryz.prog n 3 ((([a, b, c, d] : List AV).drop 1).take (Tryz.prog.cellsOf 3)) := hf 1 _ rfl
   have h2 : Lay Tryz.prog n 3 ((([a, b, c, d] : List AV).drop 2).take (Tryz.prog.cellsOf 3)) := hf 2 _ rfl
   have h3 : Lay Tryz.prog n 9 ((([a, b, c, d] : List AV).drop 3).take (Tryz.prog.cellsOf 9)) := hf 3 _ rfl
   rw [show Tryz.prog.cellsOf 3 = 1 by kernel_rfl] at h0 h1 h2
   rw [show Tryz.prog.cellsOf 9 = 1 by kernel_rfl] at h3
   obtain ⟨x0, e0, _⟩ := qf5 h0
   obtain ⟨x1, e1, _⟩ := qf5 h1
   obtain ⟨x2, e2, _⟩ := qf5 h2
   obtain ⟨x3, e3, w3⟩ := qmF h3
   simp at e0 e1 e2 e3 w3
   subst e0 e1 e2 e3
   refine ⟨⟨x0, x1, x2, x3⟩, rfl, ?_⟩
   simp at w3 ⊢
   omega
theorem qiZ {H : Type} {enc : TypeId × Value → H} {W : World} {r : Reach} {b0 : Nat} {v : Value} {d : DataW H} {ps : List MemPlace} (hval : Value.okWide Tryz.prog W r b0 22 v) (hd : DataW.Trod enc Tryz.prog W 0 (fun _ => true) true 22 v d ps) :
  ∃ l : List TokA, Opened enc Tryz.prog W 22 v d ps (.sl (vt l)) ∧ l.length ≤ Rows.uptoBulk d := by
 obtain ⟨rows, n, h1, h2, h3⟩ := qkq qj0 (by simp [qeF]) Tryz.underlying22 hval hd
 obtain ⟨l, rfl, w1, w2⟩ := qmG (f := TokA.cells) (w := fun _ => 0) (fun cz h => by obtain ⟨t, h1, h2⟩ := qlN h; exact ⟨t, h1, by omega⟩) rows h2
 exact ⟨l, h1, by omega⟩
end Go.Proofs.YtnjonahoheopnaaGreatDoor
end
