/-
  Parts of the proof of GuardEvalsUptoSaid, put together: the abstract evaluation and its contracts. Own work.
  What is proved: each lemma as it stands; no condition.
-/
import Derived.Test.YtkgkjngbfdnoiaaGreatZGuardEvalsM5

section
namespace Go.Av
mutual
def AV.wt : AV → Nat
 | .str s => s.length + 1
 | .sl rows => wtR rows + 1
 | _ => 1
def wtL : List AV → Nat
 | [] => 0
 | a :: l => a.wt + wtL l
def wtR : List (List AV) → Nat
 | [] => 0
 | a :: l => wtL a + wtR l
end
@[simp] theorem wtL_nil : wtL [] = 0 := by rw [wtL]
@[simp] theorem wtL_cons (a : AV) (l : List AV) : wtL (a :: l) = a.wt + wtL l := by rw [wtL]
@[simp] theorem wtR_nil : wtR [] = 0 := by rw [wtR]
@[simp] theorem wtR_cons (a : List AV) (l : List (List AV)) : wtR (a :: l) = wtL a + wtR l := by rw [wtR]
@[simp] theorem wt_int (k : IntKind) (n : Int) : (AV.int k n).wt = 1 := by rw [AV.wt] <;> simp
@[simp] theorem wt_bool (b : Bool) : (AV.bool b).wt = 1 := by rw [AV.wt] <;> simp
@[simp] theorem wt_str (s : List UInt8) : (AV.str s).wt = s.length + 1 := by rw [AV.wt]
@[simp] theorem wt_sl (r : List (List AV)) : (AV.sl r).wt = wtR r + 1 := by rw [AV.wt]
theorem wtL_append (a b : List AV) : wtL (a ++ b) = wtL a + wtL b := by
 induction a with
 | nil => simp
 | cons x l ih => simp [ih]; omega
end Go.Av
namespace Go.Proofs.YtkgkjngbfdnoiaaGreat
open Go.Av Go.WideShapes
def tiled (P : Program) : Nat → List Field → Option Nat
 | off, [] => some off
 | off, f :: fs => if f.offset = off then tiled P (off + P.cellsOf f.type) fs else none
def goodTy (P : Program) (ts : List TypeId) (t : TypeId) : Bool :=
 match P.underlying t with
 | some (.int _) | some .bool | some .string => decide (P.cellsOf t = 1)
 | some (.struct fs) => decide (tiled P 0 fs.toList = some (P.cellsOf t)) && fs.toList.all (fun f => decide (f.type ∈ ts))
 | some (.slice e) => decide (P.cellsOf t = 1) && (decide (e ∈ ts) && decide (0 < P.cellsOf e))
 | _ => false
def Lay (P : Program) : Nat → TypeId → List AV → Prop
 | 0, _, _ => False
 | n + 1, t, cz =>
  match P.underlying t with
  | some (.int k) => ∃ m, cz = [.int k m] ∧ (Lit.int k m).wf = true
  | some .bool => ∃ b, cz = [.bool b]
  | some .string => ∃ s, cz = [.str s]
  | some (.struct fs) => cz.length = P.cellsOf t ∧ ∀ (i : Nat) f, fs[i]? = some f → Lay P n f.type ((cz.drop f.offset).take (P.cellsOf f.type))
  | some (.slice e) => ∃ rows, cz = [.sl rows] ∧ ∀ row ∈ rows, row.length = P.cellsOf e ∧ Lay P n e row
  | _ => False
def CellsR (W : World) (cs : List Value) (cz : List AV) : Prop := cz.length = cs.length ∧ ∀ (j : Nat) a v, cz[j]? = some a → cs[j]? = some v → a.isCell = true ∧ Rep (C0 W) M0 a v
theorem CellsR.nil {W : World} : CellsR W [] [] := ⟨rfl, fun j a v h => by simp at h⟩
theorem CellsR.one {W : World} {a : AV} {v : Value} (h1 : a.isCell = true) (h2 : Rep (C0 W) M0 a v) : CellsR W [v] [a] := ⟨rfl, fun j a' v' ha hv => by
 match j, ha, hv with
 | 0, ha, hv => simp at ha hv; subst ha hv; exact ⟨h1, h2⟩
 | j + 1, ha, hv => simp at ha⟩
theorem CellsR.append {W : World} {cs cs' : List Value} {cz cz' : List AV} (h : CellsR W cs cz) (h' : CellsR W cs' cz') : CellsR W (cs ++ cs') (cz ++ cz') := by
 refine ⟨by simp [h.1, h'.1], fun j a v ha hv => ?_⟩
 by_cases hj : j < cz.length
 ·rw [List.getElem?_append_left hj] at ha
  rw [List.getElem?_append_left (by rw [← h.1]; exact hj)] at hv
  exact h.2 j a v ha hv
 ·rw [List.getElem?_append_right (by omega)] at ha
  rw [List.getElem?_append_right (by rw [← h.1]; omega), ← h.1] at hv
  exact h'.2 _ a v ha hv
section
variable {H : Type} {enc : TypeId × Value → H} {P : Program} {W : World}
def Opens (enc : TypeId × Value → H) (P : Program) (W : World) (n : Nat) (t : TypeId) : Prop :=
 ∀ cs x, DataW.trod enc P W 0 (fun _ => true) true n t cs = some x → ∃ cz, CellsR W cs cz ∧ cs.length = P.cellsOf t ∧ Lay P n t cz ∧ wtL cz ≤ Rows.uptoBulk x.1 ∧ refsLtL 0 cz = true ∧
  ∀ (W' : World) (sp : Nat → Bool), (∀ p ∈ x.2, W.sameAt W' p) → (∀ p ∈ x.2, sp p.block = true) → DataW.trod enc P W' 0 sp true n t cs = some x
theorem open_fields {n : Nat} {ts : List TypeId} (ih : ∀ t ∈ ts, Opens enc P W n t) {cs : List Value} : ∀ (fs : List Field) (off : Nat), tiled P off fs = some cs.length → (∀ f ∈ fs, f.type ∈ ts) →
  ∀ xs, (fs.mapM fun f => DataW.trod enc P W 0 (fun _ => true) true n f.type ((cs.drop f.offset).take (P.cellsOf f.type))) = some xs →
  ∃ cz, CellsR W (cs.drop off) cz ∧ (∀ f ∈ fs, off ≤ f.offset ∧ Lay P n f.type ((cz.drop (f.offset - off)).take (P.cellsOf f.type))) ∧ wtL cz ≤ Rows.uptoBulkAll (xs.map (·.1)) ∧ refsLtL 0 cz = true ∧
   ∀ (W' : World) (sp : Nat → Bool), (∀ p ∈ xs.flatMap (·.2), W.sameAt W' p) → (∀ p ∈ xs.flatMap (·.2), sp p.block = true) →
    (fs.mapM fun f => DataW.trod enc P W' 0 sp true n f.type ((cs.drop f.offset).take (P.cellsOf f.type))) = some xs := by
 intro fs
 induction fs with
 | nil =>
  intro off ht _ xs hx
  rw [tiled] at ht
  cases ht
  simp at hx
  subst hx
  refine ⟨[], ?_, fun f hf => by simp at hf, by simp, rfl, fun W' sp _ _ => by simp⟩
  rw [List.drop_length]; exact CellsR.nil
 | cons f fs ihf =>
  intro off ht hin xs hx
  rw [tiled] at ht
  split at ht
  ·rename_i ho
   rw [List.mapM_cons] at hx
   obtain ⟨x, h1, hx⟩ := Option.bind_eq_some_iff.1 hx
   obtain ⟨ys, h2, hx⟩ := Option.bind_eq_some_iff.1 hx
   cases hx
   obtain ⟨a1, c1, l1, y1, w1, r1, b1⟩ := ih f.type (hin f (by simp)) _ _ h1
   obtain ⟨a2, c2, y2, w2, r2, b2⟩ := ihf (off + P.cellsOf f.type) ht (fun g hg => hin g (by simp [hg])) ys h2
   have hlen : a1.length = P.cellsOf f.type := by rw [c1.1, l1]
   refine ⟨a1 ++ a2, ?_, fun g hg => ?_, ?_, refsLtL_app r1 r2, fun W' sp hs hp => ?_⟩
   ·have := c1.append c2
    rw [ho, ← List.drop_drop, List.take_append_drop] at this
    exact this
   ·rcases List.mem_cons.1 hg with rfl | hg
    ·refine ⟨by omega, ?_⟩
     rw [ho, Nat.sub_self, List.drop_zero, ← hlen, List.take_append_of_le_length (Nat.le_refl _), List.take_length]
     exact y1
    ·obtain ⟨g1, g2⟩ := y2 g hg
     refine ⟨by omega, ?_⟩
     have : List.drop (g.offset - off) (a1 ++ a2) = List.drop (g.offset - (off + P.cellsOf f.type)) a2 := by
      have e : g.offset - off = a1.length + (g.offset - (off + P.cellsOf f.type)) := by omega
      rw [e, ← List.drop_drop, List.drop_left]
     rw [this]
     exact g2
   ·rw [wtL_append]
    simp only [List.map_cons, Rows.uptoBulkAll]
    omega
   ·rw [List.mapM_cons, b1 W' sp (fun p hpp => hs p (by simp [hpp])) (fun p hpp => hp p (by simp [hpp]))]
    have b3 := b2 W' sp (fun p hpp => hs p (by rw [List.flatMap_cons]; exact List.mem_append_right _ hpp)) (fun p hpp => hp p (by rw [List.flatMap_cons]; exact List.mem_append_right _ hpp))
    show Option.bind _ _ = _
    rw [Option.bind_some]
    show Option.bind _ _ = _
    rw [b3]; rfl
  ·cases ht
theorem bulk_rows {e : Nat} : ∀ (rows : List (List AV)) (ds : List (DataW H)), rows.length = ds.length → (∀ (i : Nat) row d, rows[i]? = some row → ds[i]? = some d → wtL row ≤ Rows.uptoBulk d) → wtR rows ≤ Rows.uptoBulkAll ds
 | [], [], _, _ => by simp [Rows.uptoBulkAll]
 | t :: l, d :: ds, hl, h => by
  have h0 := h 0 t d rfl rfl
  have := bulk_rows (e := e) l ds (by simpa using hl) (fun i t d ht hd => h (i + 1) t d (by simpa using ht) (by simpa using hd))
  simp only [wtR_cons, Rows.uptoBulkAll]
  omega
theorem open_gen {ts : List TypeId} (hts : ∀ t ∈ ts, goodTy P ts t = true) : ∀ (n : Nat), ∀ t ∈ ts, Opens enc P W n t := by
 intro n
 induction n with
 | zero => intro t _ cs x h; simp [DataW.trod] at h
 | succ n ih =>
  intro t ht cs x h
  have hg := hts t ht
  unfold goodTy at hg
  split at hg
  ·rename_i k hu
   obtain ⟨m, rfl, rfl, hw⟩ := DataW.trod_int hu h
   refine ⟨[.int k m], CellsR.one rfl (.int _ _), (of_decide_eq_true hg).symm, by unfold Lay; rw [hu]; exact ⟨m, rfl, hw⟩, by simp [Rows.uptoBulk], rfl, fun W' sp _ _ => ?_⟩
   simp [DataW.trod, hu, hw]
  ·rename_i hu
   obtain ⟨b, rfl, rfl⟩ := DataW.trod_bool hu h
   refine ⟨[.bool b], CellsR.one rfl (.bool _), (of_decide_eq_true hg).symm, by unfold Lay; rw [hu]; exact ⟨b, rfl⟩, by simp [Rows.uptoBulk], rfl, fun W' sp _ _ => ?_⟩
   simp [DataW.trod, hu]
  ·rename_i hu
   obtain ⟨s, rfl, rfl, hw⟩ := DataW.trod_string hu h
   refine ⟨[.str s.data.toList], CellsR.one rfl ?_, (of_decide_eq_true hg).symm, by unfold Lay; rw [hu]; exact ⟨_, rfl⟩, by simp [Rows.uptoBulk], rfl, fun W' sp _ _ => ?_⟩
   ·have := Rep.str (C := C0 W) (μ := M0) s.data.toList
    simpa using this
   ·simp [DataW.trod, hu, hw]
  ·rename_i fs hu
   rw [Bool.and_eq_true, decide_eq_true_eq, List.all_eq_true] at hg
   have h' := h
   unfold DataW.trod at h'
   rw [hu] at h'
   simp only [] at h'
   split at h'
   ·rename_i hl
    obtain ⟨xs, hx, rfl⟩ := Option.map_eq_some_iff.1 h'
    rw [← hl] at hg
    obtain ⟨cz, c, y, w, r, b⟩ := open_fields ih fs.toList 0 hg.1 (fun f hf => of_decide_eq_true (hg.2 f hf)) xs hx
    rw [List.drop_zero] at c
    refine ⟨cz, c, hl, ?_, ?_, r, fun W' sp hs hp => ?_⟩
    ·unfold Lay
     rw [hu]
     refine ⟨by rw [c.1, hl], fun i f hf => ?_⟩
     have := y f (by rw [← Array.getElem?_toList] at hf; exact List.mem_of_getElem? hf)
     rw [Nat.sub_zero] at this
     exact this.2
    ·simp only [Rows.uptoBulk]; omega
    ·unfold DataW.trod
     rw [hu]
     simp only []
     rw [if_pos hl, b W' sp hs hp]; rfl
   ·cases h'
  ·rename_i e hu
   rw [Bool.and_eq_true, Bool.and_eq_true, decide_eq_true_eq, decide_eq_true_eq, decide_eq_true_eq] at hg
   obtain ⟨hc1, he, hpos⟩ := hg
   rcases DataW.trod_slice hu h with ⟨rfl, rfl⟩ | ⟨a, len, cap, elems, rest, n', e', rfl, rfl, hb, hlc, hmx, hel, hg, hsp, _⟩
   ·refine ⟨[.sl []], CellsR.one rfl .slNil, hc1.symm, by unfold Lay; rw [hu]; exact ⟨[], rfl, fun r hr => by simp at hr⟩, by simp [Rows.uptoBulk], rfl, fun W' sp _ _ => ?_⟩
    simp [DataW.trod, hu]
   ·obtain rfl : n' = n := by omega
    obtain ⟨hrl, hrg⟩ := hsp rfl
    have ihe := ih e he
    have tms : ∃ f : Nat → List AV, ∀ (i : Nat) y, elems[i]? = some y → ∃ cs', W.cells? 0 (a.add (i * P.cellsOf e)) (P.cellsOf e) = some cs' ∧ CellsR W cs' (f i) ∧ cs'.length = P.cellsOf e ∧ Lay P n' e (f i) ∧ wtL (f i) ≤ Rows.uptoBulk y.1 ∧ refsLtL 0 (f i) = true := by
     have : ∀ i : Nat, ∃ t : List AV, ∀ y, elems[i]? = some y → ∃ cs', W.cells? 0 (a.add (i * P.cellsOf e)) (P.cellsOf e) = some cs' ∧ CellsR W cs' t ∧ cs'.length = P.cellsOf e ∧ Lay P n' e t ∧ wtL t ≤ Rows.uptoBulk y.1 ∧ refsLtL 0 t = true := by
      intro i
      cases hy : elems[i]? with
      | none => exact ⟨default, fun y h => by cases h⟩
      | some y =>
       have hi : i < len := by rw [← hel]; exact (List.getElem?_eq_some_iff.1 hy).1
       obtain ⟨cs', h1, h2⟩ := Option.bind_eq_some_iff.1 ((hg i hi).trans hy)
       obtain ⟨t, h3, h4, h5, h6, h7, _⟩ := ihe _ _ h2
       exact ⟨t, fun y' hy' => by cases hy'; exact ⟨cs', h1, h3, h4, h5, h6, h7⟩⟩
     exact ⟨fun i => Classical.choose (this i), fun i => Classical.choose_spec (this i)⟩
    obtain ⟨f, hf⟩ := tms
    have hget : ∀ (i : Nat) (row : List AV), ((List.range len).map f)[i]? = some row → i < len ∧ row = f i := by
     intro i row hi
     have hil : i < len := by have := (List.getElem?_eq_some_iff.1 hi).1; simpa using this
     refine ⟨hil, ?_⟩
     rw [List.getElem?_map, List.getElem?_range hil] at hi
     simpa using hi.symm
    have hrow : ∀ (i : Nat) (row : List AV), ((List.range len).map f)[i]? = some row → row.length = P.cellsOf e ∧ Lay P n' e row ∧ refsLtL 0 row = true := by
     intro i row hi
     obtain ⟨hil, rfl⟩ := hget i row hi
     obtain ⟨cs', h1, h2, h3, h4, h5, h6⟩ := hf i _ (List.getElem?_eq_getElem (by omega))
     exact ⟨by rw [h2.1, h3], h4, h6⟩
    have hspot : ((List.range len).map f) ≠ [] → a.spot = none := by
     intro hne
     have hl0 : 0 < len := by
      rcases Nat.eq_zero_or_pos len with h0 | h0
      ·subst h0; exact absurd (by simp) hne
      ·exact h0
     obtain ⟨cs0, q1, _⟩ := hf 0 _ (List.getElem?_eq_getElem (by omega))
     have := (cells?_some q1 (by omega)).1
     simpa [Addr.add] using this
    have hcell : ∀ (i j : Nat) (row : List AV) x, ((List.range len).map f)[i]? = some row → row[j]? = some x → x.isCell = true ∧ ∃ v, W.cell? ⟨a.block, a.off + i * P.cellsOf e + j, none⟩ = some v ∧ Rep (C0 W) M0 x v := by
     intro i j row x hi hj
     have hs := hspot (by intro h0; rw [h0] at hi; simp at hi)
     obtain ⟨hil, rfl⟩ := hget i row hi
     obtain ⟨cs', h1, h2, h3, _⟩ := hf i _ (List.getElem?_eq_getElem (by omega))
     obtain ⟨s1, s2, s3⟩ := cells?_some h1 (by omega)
     have hjl : j < cs'.length := by
      rw [← h2.1]
      exact (List.getElem?_eq_some_iff.1 hj).1
     have h4 := h2.2 j x _ hj (List.getElem?_eq_getElem hjl)
     refine ⟨h4.1, _, ?_, h4.2⟩
     have := s3 j _ (List.getElem?_eq_getElem hjl)
     rw [addr_add' _ _ hs] at this
     exact this
    have hfree : refsLtR 0 ((List.range len).map f) = true := by
     have : ∀ l : List (List AV), (∀ r ∈ l, refsLtL 0 r = true) → refsLtR 0 l = true := by
      intro l
      induction l with
      | nil => intro _; rfl
      | cons r l ih => intro h; rw [refsLtR, h r (by simp), ih fun q hq => h q (by simp [hq])]; rfl
     refine this _ fun r hr => ?_
     obtain ⟨i, hi⟩ := List.getElem?_of_mem hr
     exact (hrow i r hi).2.2
    refine ⟨[.sl ((List.range len).map f)], CellsR.one rfl ?_, hc1.symm, ?_, ?_, rfl, fun W' sp hs hp => ?_⟩
    ·have := Rep.sl (C := C0 W) (μ := M0) ((List.range len).map f) a cap (P.cellsOf e) (fun i j => (W.cell? ⟨a.block, a.off + i * P.cellsOf e + j, none⟩).getD undef) hspot (fun i row hi => (hrow i row hi).1) (fun i j row x hi hj => ?_) (fun i j row x hi hj => ?_) (fun i j row x hi hj => ?_) (by simpa using hlc) hfree
     ·simpa using this
     ·obtain ⟨_, v, h1, _⟩ := hcell i j row x hi hj
      show W.cell? _ = _
      rw [h1]; rfl
     ·obtain ⟨_, v, h1, h2⟩ := hcell i j row x hi hj
      rw [h1]; exact h2
     ·exact (hcell i j row x hi hj).1
    ·unfold Lay
     rw [hu]
     refine ⟨_, rfl, fun row hr => ?_⟩
     obtain ⟨i, hi⟩ := List.getElem?_of_mem hr
     exact ⟨(hrow i row hi).1, (hrow i row hi).2.1⟩
    ·simp only [Rows.uptoBulk, wtL_cons, wtL_nil, wt_sl]
     have := bulk_rows (e := 0) ((List.range len).map f) (elems.map (·.1)) (by simp [hel]) (fun i t d ht hd => by
      rw [List.getElem?_map] at ht hd
      obtain ⟨j, hj, rfl⟩ := Option.map_eq_some_iff.1 ht
      obtain ⟨y, hy, rfl⟩ := Option.map_eq_some_iff.1 hd
      have hil : i < len := by have := (List.getElem?_eq_some_iff.1 hj).1; simpa using this
      rw [List.getElem?_range hil] at hj
      cases hj
      obtain ⟨_, _, _, _, _, h5, _⟩ := hf i y hy
      exact h5)
     omega
    ·have hrow' : 0 < (elems.length + rest.length) → sp a.block = true := fun hps => hp (.cell a.block (a.off + 0)) (by
      rw [List.mem_append]
      exact .inl (MemPlace.mem_row.2 ⟨0, Nat.mul_pos hps hpos, rfl⟩))
     unfold DataW.trod at h ⊢
     rw [hu] at h ⊢
     simp only [if_true] at h ⊢
     rw [if_pos ⟨hb, hlc, hmx⟩] at h ⊢
     simp only [Option.map_eq_some_iff, Option.bind_eq_some_iff] at h ⊢
     obtain ⟨elems', he, rest', hr, hx⟩ := h
     have hlen : elems'.length = len := by simpa using mapM_some_length he
     have hrl' : rest'.length = cap - len := by simpa using mapM_some_length hr
     simp only [Prod.mk.injEq, DataW.slice.injEq] at hx
     have one' : ∀ (i : Nat) (y : DataW H × List MemPlace), i < elems'.length + rest'.length → y ∈ elems' ++ rest' →
       (W.cells? 0 (a.add (i * P.cellsOf e)) (P.cellsOf e)).bind (DataW.trod enc P W 0 (fun _ => true) true n' e) = some y → (W'.cells? 0 (a.add (i * P.cellsOf e)) (P.cellsOf e)).bind (DataW.trod enc P W' 0 sp true n' e) = some y := by
      intro i y hi hy hv
      simp only [Option.bind_eq_some_iff] at hv ⊢
      obtain ⟨cs', hc', hy'⟩ := hv
      obtain ⟨_, _, _, _, _, _, hbk⟩ := ihe _ _ hy'
      refine ⟨cs', World.cells?_carry hc' (fun p hpp => hs p ?_), hbk W' sp (fun p hpp => hs p ?_) (fun p hpp => hp p ?_)⟩
      ·rw [← hx.2]
       obtain ⟨j, hj, rfl⟩ := MemPlace.mem_row.1 hpp
       simp only [List.mem_append]
       left
       refine MemPlace.mem_row.2 ⟨i * P.cellsOf e + j, ?_, ?_⟩
       ·calc i * P.cellsOf e + j < i * P.cellsOf e + P.cellsOf e := by omega
         _ = (i + 1) * P.cellsOf e := by rw [Nat.add_mul, Nat.one_mul]
         _ ≤ (elems'.length + rest'.length) * P.cellsOf e := Nat.mul_le_mul_right _ hi
       ·unfold Addr.add
        split
        ·rename_i h0
         simp [h0]
        ·simp [Nat.add_assoc]
      ·rw [← hx.2]
       simp only [List.mem_append, List.mem_flatMap]
       right
       exact ⟨y, by simpa using hy, hpp⟩
      ·rw [← hx.2]
       simp only [List.mem_append, List.mem_flatMap]
       right
       exact ⟨y, by simpa using hy, hpp⟩
     refine ⟨elems', mapM_carry he (fun i y hi hy => one' i y (by have : i < len := (by simpa using hi); omega) (by simp [hy])), rest', ?_, by simp only [Prod.mk.injEq, DataW.slice.injEq]; exact hx⟩
     by_cases h0 : 0 < elems.length + rest.length
     ·rw [if_pos (hrow' h0)]
      exact mapM_carry hr (fun j y hj hy => one' (len + j) y (by have : j < cap - len := (by simpa using hj); omega) (by simp [hy]))
     ·have hc0 : cap - len = 0 := by omega
      rw [hc0] at hr ⊢
      simp at hr
      subst hr
      split <;> rfl
  ·cases hg
theorem open_struct {ts : List TypeId} (hts : ∀ t ∈ ts, goodTy P ts t = true) {t : TypeId} (ht : t ∈ ts) {fs : Array Field} (hu : P.underlying t = some (.struct fs)) {r : Reach} {b0 : Nat} {v : Value} {d : DataW H} {ps : List MemPlace}
  (hval : Value.okWide P W r b0 t v) (hd : DataW.Trod enc P W 0 (fun _ => true) true t v d ps) :
  ∃ (cz : List AV) (n : Nat), Opened enc P W t v d ps (.agg cz) ∧ Lay P n t cz ∧ wtL cz ≤ Rows.uptoBulk d := by
 obtain ⟨cs, rfl, hsz⟩ := okWide_struct hu hval
 obtain ⟨n, hn⟩ := hd
 obtain ⟨cz, h1, h2, h3, h4, h5, h6⟩ := open_gen hts n t ht _ _ hn
 refine ⟨cz, n, ⟨?_, fun W' sp hs hp => ⟨n, h6 W' sp hs hp⟩⟩, h3, h4⟩
 have := Rep.agg (C := C0 W) (μ := M0) cz cs.toList (by
  have := h1.1
  simpa [Value.cells] using this) (fun i a v ha hv => (h1.2 i a v ha (by simpa [Value.cells] using hv)).2)
 simpa using this
end
theorem lay_terms {P : Program} {tT tL tI tS : TypeId} (T : TermTys P tT tL tI tS) : ∀ (n : Nat),
  (∀ cz, Lay P n tT cz → ∃ t : Tm, cz = t.cells ∧ t.w < wtL cz) ∧ (∀ cz, Lay P n tL cz → ∃ l : List Tm, cz = [.sl (rowsT l)] ∧ wL l < wtL cz) := by
 intro n
 induction n with
 | zero => exact ⟨fun cz h => absurd h (by unfold Lay; exact id), fun cz h => absurd h (by unfold Lay; exact id)⟩
 | succ n ih =>
  refine ⟨fun cz h => ?_, fun cz h => ?_⟩
  ·obtain ⟨f0, f1, f2, f3, hu, t0, o0, t1, o1, t2, o2, t3, o3⟩ := T.uT
   unfold Lay at h
   rw [hu] at h
   obtain ⟨hl, hf⟩ := h
   rw [T.cT] at hl
   obtain ⟨c0, c1, c2, c3, rfl⟩ : ∃ c0 c1 c2 c3, cz = [c0, c1, c2, c3] := by
    match cz, hl with
    | [a, b, c, d], _ => exact ⟨a, b, c, d, rfl⟩
   have h0 := hf 0 f0 rfl
   have h1 := hf 1 f1 rfl
   have h2 := hf 2 f2 rfl
   have h3 := hf 3 f3 rfl
   rw [t0, o0, T.cI] at h0
   rw [t1, o1, T.cI] at h1
   rw [t2, o2, T.cS] at h2
   rw [t3, o3, T.cL] at h3
   simp at h0 h1 h2 h3
   cases n with
   | zero => exact absurd h0 (by unfold Lay; exact id)
   | succ n =>
    obtain ⟨l, e3, w3⟩ := ih.2 _ h3
    unfold Lay at h0 h1 h2
    rw [T.uI] at h0 h1
    rw [T.uS] at h2
    obtain ⟨k, e0, _⟩ := h0
    obtain ⟨m, e1, _⟩ := h1
    obtain ⟨s, e2⟩ := h2
    simp at e0 e1 e2 e3
    subst e0 e1 e2 e3
    refine ⟨.mk k m s l, by rw [Tm.cells_mk], ?_⟩
    rw [Tm.w_mk]
    simp only [wtL_cons, wtL_nil, wt_int, wt_str, wt_sl] at w3 ⊢
    omega
  ·unfold Lay at h
   rw [T.uL] at h
   obtain ⟨rows, rfl, hr⟩ := h
   have : ∀ rows : List (List AV), (∀ row ∈ rows, row.length = P.cellsOf tT ∧ Lay P n tT row) → ∃ l : List Tm, rows = rowsT l ∧ wL l ≤ wtR rows := by
    intro rows
    induction rows with
    | nil => intro _; exact ⟨[], by rw [rowsT_nil], by simp⟩
    | cons r rows ihr =>
     intro h
     obtain ⟨t, e1, w1⟩ := ih.1 r (h r (by simp)).2
     obtain ⟨l, e2, w2⟩ := ihr fun q hq => h q (by simp [hq])
     refine ⟨t :: l, by rw [rowsT_cons, ← e1, ← e2], ?_⟩
     simp; omega
   obtain ⟨l, rfl, w⟩ := this rows hr
   exact ⟨l, rfl, by simp; omega⟩
theorem lay_rows {α : Type} {P : Program} {n : Nat} {e : TypeId} {f : α → List AV} {w : α → Nat} (h : ∀ cz, Lay P n e cz → ∃ x : α, cz = f x ∧ w x < wtL cz) : ∀ rows : List (List AV), (∀ row ∈ rows, row.length = P.cellsOf e ∧ Lay P n e row) →
  ∃ l : List α, rows = l.map f ∧ (∀ x ∈ l, w x < wtR rows) ∧ l.length ≤ wtR rows := by
 intro rows
 induction rows with
 | nil => intro _; exact ⟨[], rfl, fun x hx => by simp at hx, by simp⟩
 | cons r rows ih =>
  intro hr
  obtain ⟨x, e1, w1⟩ := h r (hr r (by simp)).2
  obtain ⟨l, e2, w2, w3⟩ := ih fun q hq => hr q (by simp [hq])
  refine ⟨x :: l, by rw [List.map_cons, ← e1, ← e2], fun y hy => ?_, by simp; omega⟩
  rcases List.mem_cons.1 hy with rfl | hy
  ·simp; omega
  ·have := w2 y hy; simp; omega
end Go.Proofs.YtkgkjngbfdnoiaaGreat
end

section
namespace Go.Proofs.YtkgkjngbfdnoiaaGreat
open Go.Av
set_option maxRecDepth 100000
def envTys : List TypeId := [27, 24, 22, 25, 91, 3, 9]
theorem envTys_good : ∀ t ∈ envTys, goodTy Tryz.prog envTys t = true := by
 have : envTys.all (goodTy Tryz.prog envTys) = true := by kernel_rfl
 exact List.all_eq_true.1 this
theorem lay_int {n : Nat} {cz : List AV} (h : Lay Tryz.prog n 3 cz) : ∃ m, cz = [.int .i64 m] := by
 cases n with
 | zero => exact absurd h (by unfold Lay; exact id)
 | succ n =>
  unfold Lay at h
  rw [Tryz.underlying3] at h
  obtain ⟨m, h, _⟩ := h
  exact ⟨m, h⟩
theorem lay_term {n : Nat} {cz : List AV} (h : Lay Tryz.prog n 24 cz) : ∃ t : Tm, cz = t.cells ∧ t.w < wtL cz := (lay_terms term_tys n).1 cz h
theorem lay_bind {n : Nat} {cz : List AV} (h : Lay Tryz.prog n 91 cz) : ∃ p : Int × Tm, cz = .int .i64 p.1 :: p.2.cells ∧ p.2.w < wtL cz := by
 cases n with
 | zero => exact absurd h (by unfold Lay; exact id)
 | succ n =>
  unfold Lay at h
  rw [Tryz.underlying91] at h
  obtain ⟨hl, hf⟩ := h
  have hl : cz.length = 5 := by rw [hl]; kernel_rfl
  match cz, hl with
  | [a, b, c, d, e], _ =>
   have h0 : Lay Tryz.prog n 3 ((([a, b, c, d, e] : List AV).drop 0).take (Tryz.prog.cellsOf 3)) := hf 0 _ rfl
   have h1 : Lay Tryz.prog n 24 ((([a, b, c, d, e] : List AV).drop 1).take (Tryz.prog.cellsOf 24)) := hf 1 _ rfl
   rw [show Tryz.prog.cellsOf 3 = 1 by kernel_rfl] at h0
   rw [show Tryz.prog.cellsOf 24 = 4 by kernel_rfl] at h1
   obtain ⟨m, e0⟩ := lay_int h0
   obtain ⟨t, e1, w1⟩ := lay_term h1
   simp at e0 e1 w1
   subst e0
   refine ⟨(m, t), by rw [← e1], ?_⟩
   simp
   omega
theorem lay_binds {n : Nat} {cz : List AV} (h : Lay Tryz.prog n 25 cz) : ∃ L : List (Int × Tm), cz = [.sl (bindsR L)] ∧ (∀ p ∈ L, p.2.w < wtL cz) ∧ L.length < wtL cz := by
 cases n with
 | zero => exact absurd h (by unfold Lay; exact id)
 | succ n =>
  unfold Lay at h
  rw [Tryz.underlying25] at h
  obtain ⟨rows, rfl, hr⟩ := h
  obtain ⟨L, rfl, w1, w2⟩ := lay_rows (w := fun p : Int × Tm => p.2.w) (fun cz h => lay_bind h) rows hr
  refine ⟨L, rfl, fun p hp => ?_, ?_⟩
  ·have := w1 p hp; simp; omega
  ·simp; omega
theorem lay_env {n : Nat} {cz : List AV} (h : Lay Tryz.prog n 27 cz) : ∃ e : Env, .agg cz = envR e.obj e.binds e.self ∧ e.obj.w < wtL cz ∧ (∀ p ∈ e.binds, p.2.w < wtL cz) ∧ e.binds.length < wtL cz := by
 cases n with
 | zero => exact absurd h (by unfold Lay; exact id)
 | succ n =>
  unfold Lay at h
  rw [Tryz.underlying27] at h
  obtain ⟨hl, hf⟩ := h
  have hl : cz.length = 6 := by rw [hl]; kernel_rfl
  match cz, hl with
  | [a, b, c, d, e, f], _ =>
   have h0 : Lay Tryz.prog n 24 ((([a, b, c, d, e, f] : List AV).drop 0).take (Tryz.prog.cellsOf 24)) := hf 0 _ rfl
   have h1 : Lay Tryz.prog n 25 ((([a, b, c, d, e, f] : List AV).drop 4).take (Tryz.prog.cellsOf 25)) := hf 1 _ rfl
   have h2 : Lay Tryz.prog n 3 ((([a, b, c, d, e, f] : List AV).drop 5).take (Tryz.prog.cellsOf 3)) := hf 2 _ rfl
   rw [show Tryz.prog.cellsOf 24 = 4 by kernel_rfl] at h0
   rw [show Tryz.prog.cellsOf 25 = 1 by kernel_rfl] at h1
   rw [show Tryz.prog.cellsOf 3 = 1 by kernel_rfl] at h2
   obtain ⟨t, e0, w0⟩ := lay_term h0
   obtain ⟨L, e1, w1, w2⟩ := lay_binds h1
   obtain ⟨m, e2⟩ := lay_int h2
   simp at e0 e1 e2 w0
   subst e1 e2
   simp at w1 w2
   obtain ⟨k, q, s, l⟩ := t
   rw [Tm.cells_mk] at e0
   cases e0
   refine ⟨⟨.mk k q s l, L, m⟩, rfl, ?_, fun p hp => ?_, ?_⟩
   ·simp at w0 ⊢; omega
   ·have := w1 p.1 p.2 hp; simp; omega
   ·simp; omega
theorem open_env {H : Type} {enc : TypeId × Value → H} {W : World} {r : Reach} {b0 : Nat} {v : Value} {d : DataW H} {ps : List MemPlace} (hval : Value.okWide Tryz.prog W r b0 27 v) (hd : DataW.Trod enc Tryz.prog W 0 (fun _ => true) true 27 v d ps) :
  ∃ e : Env, Opened enc Tryz.prog W 27 v d ps (envR e.obj e.binds e.self) ∧ (Rows.uptoBulk d < 1099511627776 → EnvW e) := by
 obtain ⟨cz, n, h1, h2, h3⟩ := open_struct envTys_good (by simp [envTys]) Tryz.underlying27 hval hd
 obtain ⟨e, he, w0, w1, w2⟩ := lay_env h2
 rw [he] at h1
 exact ⟨e, h1, fun hb => ⟨by omega, by omega, fun p hp => by have := w1 p hp; omega⟩⟩
end Go.Proofs.YtkgkjngbfdnoiaaGreat
end
