/-
  Parts of the proof of BoundSidesUptoSaid, put together: the abstract evaluation and its contracts. Own work.
  What is proved: each lemma as it stands; no condition.
-/
import Derived.Test.YteojjjhhmbogfaaGreatZBoundSidesM3

section
namespace Go.Av
mutual
def AV.wt : AV → Nat
  | .str s => s.length + 1
  | .sl rows => wtR rows + 1
  | _ => 1
def wtL : List AV → Nat
  | [] => 0
  | a :: l => a.wt + wtL l
def wtR : List (List AV) → Nat
  | [] => 0
  | a :: l => wtL a + wtR l
end
@[simp] theorem wtL_nil : wtL [] = 0 := by rw [wtL]
@[simp] theorem wtL_cons (a : AV) (l : List AV) : wtL (a :: l) = a.wt + wtL l := by rw [wtL]
@[simp] theorem wtR_nil : wtR [] = 0 := by rw [wtR]
@[simp] theorem wtR_cons (a : List AV) (l : List (List AV)) : wtR (a :: l) = wtL a + wtR l := by rw [wtR]
@[simp] theorem wt_int (k : IntKind) (n : Int) : (AV.int k n).wt = 1 := by rw [AV.wt] <;> simp
@[simp] theorem wt_bool (b : Bool) : (AV.bool b).wt = 1 := by rw [AV.wt] <;> simp
@[simp] theorem wt_str (s : List UInt8) : (AV.str s).wt = s.length + 1 := by rw [AV.wt]
@[simp] theorem wt_sl (r : List (List AV)) : (AV.sl r).wt = wtR r + 1 := by rw [AV.wt]
theorem wtL_append (a b : List AV) : wtL (a ++ b) = wtL a + wtL b := by
  induction a with
  | nil => simp
  | cons x l ih => simp [ih]; omega
end Go.Av
namespace Go.Proofs.YteojjjhhmbogfaaGreat
open Go.Av Go.WideShapes
def tiled (P : Program) : Nat → List Field → Option Nat
  | off, [] => some off
  | off, f :: fs => if f.offset = off then tiled P (off + P.cellsOf f.type) fs else none
def goodTy (P : Program) (ts : List TypeId) (t : TypeId) : Bool :=
  match P.underlying t with
  | some (.int _) | some .bool | some .string => decide (P.cellsOf t = 1)
  | some (.struct fs) => decide (tiled P 0 fs.toList = some (P.cellsOf t)) && fs.toList.all (fun f => decide (f.type ∈ ts))
  | some (.slice e) => decide (P.cellsOf t = 1) && (decide (e ∈ ts) && decide (0 < P.cellsOf e))
  | _ => false
def Lay (P : Program) : Nat → TypeId → List AV → Prop
  | 0, _, _ => False
  | n + 1, t, cz =>
    match P.underlying t with
    | some (.int k) => ∃ m, cz = [.int k m] ∧ (Lit.int k m).wf = true
    | some .bool => ∃ b, cz = [.bool b]
    | some .string => ∃ s, cz = [.str s]
    | some (.struct fs) => cz.length = P.cellsOf t ∧ ∀ (i : Nat) f, fs[i]? = some f → Lay P n f.type ((cz.drop f.offset).take (P.cellsOf f.type))
    | some (.slice e) => ∃ rows, cz = [.sl rows] ∧ ∀ row ∈ rows, row.length = P.cellsOf e ∧ Lay P n e row
    | _ => False
def CellsR (W : World) (cs : List Value) (cz : List AV) : Prop := cz.length = cs.length ∧ ∀ (j : Nat) a v, cz[j]? = some a → cs[j]? = some v → a.isCell = true ∧ Rep (C0 W) M0 a v
theorem CellsR.nil {W : World} : CellsR W [] [] := ⟨rfl, fun j a v h => by simp at h⟩
theorem CellsR.one {W : World} {a : AV} {v : Value} (h1 : a.isCell = true) (h2 : Rep (C0 W) M0 a v) : CellsR W [v] [a] := ⟨rfl, fun j a' v' ha hv => by
  match j, ha, hv with
  | 0, ha, hv => simp at ha hv; subst ha hv; exact ⟨h1, h2⟩
  | j + 1, ha, hv => simp at ha⟩
theorem CellsR.append {W : World} {cs cs' : List Value} {cz cz' : List AV} (h : CellsR W cs cz) (h' : CellsR W cs' cz') : CellsR W (cs ++ cs') (cz ++ cz') := by
  refine ⟨by simp [h.1, h'.1], fun j a v ha hv => ?_⟩
  by_cases hj : j < cz.length
  · rw [List.getElem?_append_left hj] at ha
    rw [List.getElem?_append_left (by rw [← h.1]; exact hj)] at hv
    exact h.2 j a v ha hv
  · rw [List.getElem?_append_right (by omega)] at ha
    rw [List.getElem?_append_right (by rw [← h.1]; omega), ← h.1] at hv
    exact h'.2 _ a v ha hv
section
variable {H : Type} {enc : TypeId × Value → H} {P : Program} {W : World}
def Opens (enc : TypeId × Value → H) (P : Program) (W : World) (n : Nat) (t : TypeId) : Prop :=
  ∀ cs x, DataW.trod enc P W 0 (fun _ => true) true n t cs = some x → ∃ cz, CellsR W cs cz ∧ cs.length = P.cellsOf t ∧ Lay P n t cz ∧ wtL cz ≤ Rows.uptoBulk x.1 ∧ refsLtL 0 cz = true ∧
    ∀ (W' : World) (sp : Nat → Bool), (∀ p ∈ x.2, W.sameAt W' p) → (∀ p ∈ x.2, sp p.block = true) → DataW.trod enc P W' 0 sp true n t cs = some x
theorem open_fields {n : Nat} {ts : List TypeId} (ih : ∀ t ∈ ts, Opens enc P W n t) {cs : List Value} : ∀ (fs : List Field) (off : Nat), tiled P off fs = some cs.length → (∀ f ∈ fs, f.type ∈ ts) →
    ∀ xs, (fs.mapM fun f => DataW.trod enc P W 0 (fun _ => true) true n f.type ((cs.drop f.offset).take (P.cellsOf f.type))) = some xs →
    ∃ cz, CellsR W (cs.drop off) cz ∧ (∀ f ∈ fs, off ≤ f.offset ∧ Lay P n f.type ((cz.drop (f.offset - off)).take (P.cellsOf f.type))) ∧ wtL cz ≤ Rows.uptoBulkAll (xs.map (·.1)) ∧ refsLtL 0 cz = true ∧
      ∀ (W' : World) (sp : Nat → Bool), (∀ p ∈ xs.flatMap (·.2), W.sameAt W' p) → (∀ p ∈ xs.flatMap (·.2), sp p.block = true) →
        (fs.mapM fun f => DataW.trod enc P W' 0 sp true n f.type ((cs.drop f.offset).take (P.cellsOf f.type))) = some xs := by
  intro fs
  induction fs with
  | nil =>
    intro off ht _ xs hx
    rw [tiled] at ht
    cases ht
    simp at hx
    subst hx
    refine ⟨[], ?_, fun f hf => by simp at hf, by simp, rfl, fun W' sp _ _ => by simp⟩
    rw [List.drop_length]; exact CellsR.nil
  | cons f fs ihf =>
    intro off ht hin xs hx
    rw [tiled] at ht
    split at ht
    · rename_i ho
      rw [List.mapM_cons] at hx
      obtain ⟨x, h1, hx⟩ := Option.bind_eq_some_iff.1 hx
      obtain ⟨ys, h2, hx⟩ := Option.bind_eq_some_iff.1 hx
      cases hx
      obtain ⟨a1, c1, l1, y1, w1, r1, b1⟩ := ih f.type (hin f (by simp)) _ _ h1
      obtain ⟨a2, c2, y2, w2, r2, b2⟩ := ihf (off + P.cellsOf f.type) ht (fun g hg => hin g (by simp [hg])) ys h2
      have hlen : a1.length = P.cellsOf f.type := by rw [c1.1, l1]
      refine ⟨a1 ++ a2, ?_, fun g hg => ?_, ?_, refsLtL_app r1 r2, fun W' sp hs hp => ?_⟩
      · have := c1.append c2
        rw [ho, ← List.drop_drop, List.take_append_drop] at this
        exact this
      · rcases List.mem_cons.1 hg with rfl | hg
        · refine ⟨by omega, ?_⟩
          rw [ho, Nat.sub_self, List.drop_zero, ← hlen, List.take_append_of_le_length (Nat.le_refl _), List.take_length]
          exact y1
        · obtain ⟨g1, g2⟩ := y2 g hg
          refine ⟨by omega, ?_⟩
          have : List.drop (g.offset - off) (a1 ++ a2) = List.drop (g.offset - (off + P.cellsOf f.type)) a2 := by
            have e : g.offset - off = a1.length + (g.offset - (off + P.cellsOf f.type)) := by omega
            rw [e, ← List.drop_drop, List.drop_left]
          rw [this]
          exact g2
      · rw [wtL_append]
        simp only [List.map_cons, Rows.uptoBulkAll]
        omega
      · rw [List.mapM_cons, b1 W' sp (fun p hpp => hs p (by simp [hpp])) (fun p hpp => hp p (by simp [hpp]))]
        have b3 := b2 W' sp (fun p hpp => hs p (by rw [List.flatMap_cons]; exact List.mem_append_right _ hpp)) (fun p hpp => hp p (by rw [List.flatMap_cons]; exact List.mem_append_right _ hpp))
        show Option.bind _ _ = _
        rw [Option.bind_some]
        show Option.bind _ _ = _
        rw [b3]; rfl
    · cases ht
theorem bulk_rows {e : Nat} : ∀ (rows : List (List AV)) (ds : List (DataW H)), rows.length = ds.length → (∀ (i : Nat) row d, rows[i]? = some row → ds[i]? = some d → wtL row ≤ Rows.uptoBulk d) → wtR rows ≤ Rows.uptoBulkAll ds
  | [], [], _, _ => by simp [Rows.uptoBulkAll]
  | t :: l, d :: ds, hl, h => by
    have h0 := h 0 t d rfl rfl
    have := bulk_rows (e := e) l ds (by simpa using hl) (fun i t d ht hd => h (i + 1) t d (by simpa using ht) (by simpa using hd))
    simp only [wtR_cons, Rows.uptoBulkAll]
    omega
theorem open_gen {ts : List TypeId} (hts : ∀ t ∈ ts, goodTy P ts t = true) : ∀ (n : Nat), ∀ t ∈ ts, Opens enc P W n t := by
  intro n
  induction n with
  | zero => intro t _ cs x h; simp [DataW.trod] at h
  | succ n ih =>
    intro t ht cs x h
    have hg := hts t ht
    unfold goodTy at hg
    split at hg
    · rename_i k hu
      obtain ⟨m, rfl, rfl, hw⟩ := DataW.trod_int hu h
      refine ⟨[.int k m], CellsR.one rfl (.int _ _), (of_decide_eq_true hg).symm, by unfold Lay; rw [hu]; exact ⟨m, rfl, hw⟩, by simp [Rows.uptoBulk], rfl, fun W' sp _ _ => ?_⟩
      simp [DataW.trod, hu, hw]
    · rename_i hu
      obtain ⟨b, rfl, rfl⟩ := DataW.trod_bool hu h
      refine ⟨[.bool b], CellsR.one rfl (.bool _), (of_decide_eq_true hg).symm, by unfold Lay; rw [hu]; exact ⟨b, rfl⟩, by simp [Rows.uptoBulk], rfl, fun W' sp _ _ => ?_⟩
      simp [DataW.trod, hu]
    · rename_i hu
      obtain ⟨s, rfl, rfl, hw⟩ := DataW.trod_string hu h
      refine ⟨[.str s.data.toList], CellsR.one rfl ?_, (of_decide_eq_true hg).symm, by unfold Lay; rw [hu]; exact ⟨_, rfl⟩, by simp [Rows.uptoBulk], rfl, fun W' sp _ _ => ?_⟩
      · have := Rep.str (C := C0 W) (μ := M0) s.data.toList
        simpa using this
      · simp [DataW.trod, hu, hw]
    · rename_i fs hu
      rw [Bool.and_eq_true, decide_eq_true_eq, List.all_eq_true] at hg
      have h' := h
      unfold DataW.trod at h'
      rw [hu] at h'
      simp only [] at h'
      split at h'
      · rename_i hl
        obtain ⟨xs, hx, rfl⟩ := Option.map_eq_some_iff.1 h'
        rw [← hl] at hg
        obtain ⟨cz, c, y, w, r, b⟩ := open_fields ih fs.toList 0 hg.1 (fun f hf => of_decide_eq_true (hg.2 f hf)) xs hx
        rw [List.drop_zero] at c
        refine ⟨cz, c, hl, ?_, ?_, r, fun W' sp hs hp => ?_⟩
        · unfold Lay
          rw [hu]
          refine ⟨by rw [c.1, hl], fun i f hf => ?_⟩
          have := y f (by rw [← Array.getElem?_toList] at hf; exact List.mem_of_getElem? hf)
          rw [Nat.sub_zero] at this
          exact this.2
        · simp only [Rows.uptoBulk]; omega
        · unfold DataW.trod
          rw [hu]
          simp only []
          rw [if_pos hl, b W' sp hs hp]; rfl
      · cases h'
    · rename_i e hu
      rw [Bool.and_eq_true, Bool.and_eq_true, decide_eq_true_eq, decide_eq_true_eq, decide_eq_true_eq] at hg
      obtain ⟨hc1, he, hpos⟩ := hg
      rcases DataW.trod_slice hu h with ⟨rfl, rfl⟩ | ⟨a, len, cap, elems, rest, n', e', rfl, rfl, hb, hlc, hmx, hel, hg, hsp, _⟩
      · refine ⟨[.sl []], CellsR.one rfl .slNil, hc1.symm, by unfold Lay; rw [hu]; exact ⟨[], rfl, fun r hr => by simp at hr⟩, by simp [Rows.uptoBulk], rfl, fun W' sp _ _ => ?_⟩
        simp [DataW.trod, hu]
      · obtain rfl : n' = n := by omega
        obtain ⟨hrl, hrg⟩ := hsp rfl
        have ihe := ih e he
        have tms : ∃ f : Nat → List AV, ∀ (i : Nat) y, elems[i]? = some y → ∃ cs', W.cells? 0 (a.add (i * P.cellsOf e)) (P.cellsOf e) = some cs' ∧ CellsR W cs' (f i) ∧ cs'.length = P.cellsOf e ∧ Lay P n' e (f i) ∧ wtL (f i) ≤ Rows.uptoBulk y.1 ∧ refsLtL 0 (f i) = true := by
          have : ∀ i : Nat, ∃ t : List AV, ∀ y, elems[i]? = some y → ∃ cs', W.cells? 0 (a.add (i * P.cellsOf e)) (P.cellsOf e) = some cs' ∧ CellsR W cs' t ∧ cs'.length = P.cellsOf e ∧ Lay P n' e t ∧ wtL t ≤ Rows.uptoBulk y.1 ∧ refsLtL 0 t = true := by
            intro i
            cases hy : elems[i]? with
            | none => exact ⟨default, fun y h => by cases h⟩
            | some y =>
              have hi : i < len := by rw [← hel]; exact (List.getElem?_eq_some_iff.1 hy).1
              obtain ⟨cs', h1, h2⟩ := Option.bind_eq_some_iff.1 ((hg i hi).trans hy)
              obtain ⟨t, h3, h4, h5, h6, h7, _⟩ := ihe _ _ h2
              exact ⟨t, fun y' hy' => by cases hy'; exact ⟨cs', h1, h3, h4, h5, h6, h7⟩⟩
          exact ⟨fun i => Classical.choose (this i), fun i => Classical.choose_spec (this i)⟩
        obtain ⟨f, hf⟩ := tms
        have hget : ∀ (i : Nat) (row : List AV), ((List.range len).map f)[i]? = some row → i < len ∧ row = f i := by
          intro i row hi
          have hil : i < len := by have := (List.getElem?_eq_some_iff.1 hi).1; simpa using this
          refine ⟨hil, ?_⟩
          rw [List.getElem?_map, List.getElem?_range hil] at hi
          simpa using hi.symm
        have hrow : ∀ (i : Nat) (row : List AV), ((List.range len).map f)[i]? = some row → row.length = P.cellsOf e ∧ Lay P n' e row ∧ refsLtL 0 row = true := by
          intro i row hi
          obtain ⟨hil, rfl⟩ := hget i row hi
          obtain ⟨cs', h1, h2, h3, h4, h5, h6⟩ := hf i _ (List.getElem?_eq_getElem (by omega))
          exact ⟨by rw [h2.1, h3], h4, h6⟩
        have hspot : ((List.range len).map f) ≠ [] → a.spot = none := by
          intro hne
          have hl0 : 0 < len := by
            rcases Nat.eq_zero_or_pos len with h0 | h0
            · subst h0; exact absurd (by simp) hne
            · exact h0
          obtain ⟨cs0, q1, _⟩ := hf 0 _ (List.getElem?_eq_getElem (by omega))
          have := (cells?_some q1 (by omega)).1
          simpa [Addr.add] using this
        have hcell : ∀ (i j : Nat) (row : List AV) x, ((List.range len).map f)[i]? = some row → row[j]? = some x → x.isCell = true ∧ ∃ v, W.cell? ⟨a.block, a.off + i * P.cellsOf e + j, none⟩ = some v ∧ Rep (C0 W) M0 x v := by
          intro i j row x hi hj
          have hs := hspot (by intro h0; rw [h0] at hi; simp at hi)
          obtain ⟨hil, rfl⟩ := hget i row hi
          obtain ⟨cs', h1, h2, h3, _⟩ := hf i _ (List.getElem?_eq_getElem (by omega))
          obtain ⟨s1, s2, s3⟩ := cells?_some h1 (by omega)
          have hjl : j < cs'.length := by
            rw [← h2.1]
            exact (List.getElem?_eq_some_iff.1 hj).1
          have h4 := h2.2 j x _ hj (List.getElem?_eq_getElem hjl)
          refine ⟨h4.1, _, ?_, h4.2⟩
          have := s3 j _ (List.getElem?_eq_getElem hjl)
          rw [addr_add' _ _ hs] at this
          exact this
        have hfree : refsLtR 0 ((List.range len).map f) = true := by
          have : ∀ l : List (List AV), (∀ r ∈ l, refsLtL 0 r = true) → refsLtR 0 l = true := by
            intro l
            induction l with
            | nil => intro _; rfl
            | cons r l ih => intro h; rw [refsLtR, h r (by simp), ih fun q hq => h q (by simp [hq])]; rfl
          refine this _ fun r hr => ?_
          obtain ⟨i, hi⟩ := List.getElem?_of_mem hr
          exact (hrow i r hi).2.2
        refine ⟨[.sl ((List.range len).map f)], CellsR.one rfl ?_, hc1.symm, ?_, ?_, rfl, fun W' sp hs hp => ?_⟩
        · have := Rep.sl (C := C0 W) (μ := M0) ((List.range len).map f) a cap (P.cellsOf e) (fun i j => (W.cell? ⟨a.block, a.off + i * P.cellsOf e + j, none⟩).getD undef) hspot (fun i row hi => (hrow i row hi).1) (fun i j row x hi hj => ?_) (fun i j row x hi hj => ?_) (fun i j row x hi hj => ?_) (by simpa using hlc) hfree
          · simpa using this
          · obtain ⟨_, v, h1, _⟩ := hcell i j row x hi hj
            show W.cell? _ = _
            rw [h1]; rfl
          · obtain ⟨_, v, h1, h2⟩ := hcell i j row x hi hj
            rw [h1]; exact h2
          · exact (hcell i j row x hi hj).1
        · unfold Lay
          rw [hu]
          refine ⟨_, rfl, fun row hr => ?_⟩
          obtain ⟨i, hi⟩ := List.getElem?_of_mem hr
          exact ⟨(hrow i row hi).1, (hrow i row hi).2.1⟩
        · simp only [Rows.uptoBulk, wtL_cons, wtL_nil, wt_sl]
          have := bulk_rows (e := 0) ((List.range len).map f) (elems.map (·.1)) (by simp [hel]) (fun i t d ht hd => by
            rw [List.getElem?_map] at ht hd
            obtain ⟨j, hj, rfl⟩ := Option.map_eq_some_iff.1 ht
            obtain ⟨y, hy, rfl⟩ := Option.map_eq_some_iff.1 hd
            have hil : i < len := by have := (List.getElem?_eq_some_iff.1 hj).1; simpa using this
            rw [List.getElem?_range hil] at hj
            cases hj
            obtain ⟨_, _, _, _, _, h5, _⟩ := hf i y hy
            exact h5)
          omega
        · have hrow' : 0 < (elems.length + rest.length) → sp a.block = true := fun hps => hp (.cell a.block (a.off + 0)) (by
            rw [List.mem_append]
            exact .inl (MemPlace.mem_row.2 ⟨0, Nat.mul_pos hps hpos, rfl⟩))
          unfold DataW.trod at h ⊢
          rw [hu] at h ⊢
          simp only [if_true] at h ⊢
          rw [if_pos ⟨hb, hlc, hmx⟩] at h ⊢
          simp only [Option.map_eq_some_iff, Option.bind_eq_some_iff] at h ⊢
          obtain ⟨elems', he, rest', hr, hx⟩ := h
          have hlen : elems'.length = len := by simpa using mapM_some_length he
          have hrl' : rest'.length = cap - len := by simpa using mapM_some_length hr
          simp only [Prod.mk.injEq, DataW.slice.injEq] at hx
          have one' : ∀ (i : Nat) (y : DataW H × List MemPlace), i < elems'.length + rest'.length → y ∈ elems' ++ rest' →
              (W.cells? 0 (a.add (i * P.cellsOf e)) (P.cellsOf e)).bind (DataW.trod enc P W 0 (fun _ => true) true n' e) = some y → (W'.cells? 0 (a.add (i * P.cellsOf e)) (P.cellsOf e)).bind (DataW.trod enc P W' 0 sp true n' e) = some y := by
            intro i y hi hy hv
            simp only [Option.bind_eq_some_iff] at hv ⊢
            obtain ⟨cs', hc', hy'⟩ := hv
            obtain ⟨_, _, _, _, _, _, hbk⟩ := ihe _ _ hy'
            refine ⟨cs', World.cells?_carry hc' (fun p hpp => hs p ?_), hbk W' sp (fun p hpp => hs p ?_) (fun p hpp => hp p ?_)⟩
            · rw [← hx.2]
              obtain ⟨j, hj, rfl⟩ := MemPlace.mem_row.1 hpp
              simp only [List.mem_append]
              left
              refine MemPlace.mem_row.2 ⟨i * P.cellsOf e + j, ?_, ?_⟩
              · calc i * P.cellsOf e + j < i * P.cellsOf e + P.cellsOf e := by omega
                  _ = (i + 1) * P.cellsOf e := by rw [Nat.add_mul, Nat.one_mul]
                  _ ≤ (elems'.length + rest'.length) * P.cellsOf e := Nat.mul_le_mul_right _ hi
              · unfold Addr.add
                split
                · rename_i h0
                  simp [h0]
                · simp [Nat.add_assoc]
            · rw [← hx.2]
              simp only [List.mem_append, List.mem_flatMap]
              right
              exact ⟨y, by simpa using hy, hpp⟩
            · rw [← hx.2]
              simp only [List.mem_append, List.mem_flatMap]
              right
              exact ⟨y, by simpa using hy, hpp⟩
          refine ⟨elems', mapM_carry he (fun i y hi hy => one' i y (by have : i < len := (by simpa using hi); omega) (by simp [hy])), rest', ?_, by simp only [Prod.mk.injEq, DataW.slice.injEq]; exact hx⟩
          by_cases h0 : 0 < elems.length + rest.length
          · rw [if_pos (hrow' h0)]
            exact mapM_carry hr (fun j y hj hy => one' (len + j) y (by have : j < cap - len := (by simpa using hj); omega) (by simp [hy]))
          · have hc0 : cap - len = 0 := by omega
            rw [hc0] at hr ⊢
            simp at hr
            subst hr
            split <;> rfl
    · cases hg
theorem open_struct {ts : List TypeId} (hts : ∀ t ∈ ts, goodTy P ts t = true) {t : TypeId} (ht : t ∈ ts) {fs : Array Field} (hu : P.underlying t = some (.struct fs)) {r : Reach} {b0 : Nat} {v : Value} {d : DataW H} {ps : List MemPlace}
    (hval : Value.okWide P W r b0 t v) (hd : DataW.Trod enc P W 0 (fun _ => true) true t v d ps) :
    ∃ (cz : List AV) (n : Nat), Opened enc P W t v d ps (.agg cz) ∧ Lay P n t cz ∧ wtL cz ≤ Rows.uptoBulk d := by
  obtain ⟨cs, rfl, hsz⟩ := okWide_struct hu hval
  obtain ⟨n, hn⟩ := hd
  obtain ⟨cz, h1, h2, h3, h4, h5, h6⟩ := open_gen hts n t ht _ _ hn
  refine ⟨cz, n, ⟨?_, fun W' sp hs hp => ⟨n, h6 W' sp hs hp⟩⟩, h3, h4⟩
  have := Rep.agg (C := C0 W) (μ := M0) cz cs.toList (by
    have := h1.1
    simpa [Value.cells] using this) (fun i a v ha hv => (h1.2 i a v ha (by simpa [Value.cells] using hv)).2)
  simpa using this
end
theorem lay_terms {P : Program} {tT tL tI tS : TypeId} (T : TermTys P tT tL tI tS) : ∀ (n : Nat),
    (∀ cz, Lay P n tT cz → ∃ t : Tm, cz = t.cells ∧ t.w < wtL cz) ∧ (∀ cz, Lay P n tL cz → ∃ l : List Tm, cz = [.sl (rowsT l)] ∧ wL l < wtL cz) := by
  intro n
  induction n with
  | zero => exact ⟨fun cz h => absurd h (by unfold Lay; exact id), fun cz h => absurd h (by unfold Lay; exact id)⟩
  | succ n ih =>
    refine ⟨fun cz h => ?_, fun cz h => ?_⟩
    · obtain ⟨f0, f1, f2, f3, hu, t0, o0, t1, o1, t2, o2, t3, o3⟩ := T.uT
      unfold Lay at h
      rw [hu] at h
      obtain ⟨hl, hf⟩ := h
      rw [T.cT] at hl
      obtain ⟨c0, c1, c2, c3, rfl⟩ : ∃ c0 c1 c2 c3, cz = [c0, c1, c2, c3] := by
        match cz, hl with
        | [a, b, c, d], _ => exact ⟨a, b, c, d, rfl⟩
      have h0 := hf 0 f0 rfl
      have h1 := hf 1 f1 rfl
      have h2 := hf 2 f2 rfl
      have h3 := hf 3 f3 rfl
      rw [t0, o0, T.cI] at h0
      rw [t1, o1, T.cI] at h1
      rw [t2, o2, T.cS] at h2
      rw [t3, o3, T.cL] at h3
      simp at h0 h1 h2 h3
      cases n with
      | zero => exact absurd h0 (by unfold Lay; exact id)
      | succ n =>
        obtain ⟨l, e3, w3⟩ := ih.2 _ h3
        unfold Lay at h0 h1 h2
        rw [T.uI] at h0 h1
        rw [T.uS] at h2
        obtain ⟨k, e0, _⟩ := h0
        obtain ⟨m, e1, _⟩ := h1
        obtain ⟨s, e2⟩ := h2
        simp at e0 e1 e2 e3
        subst e0 e1 e2 e3
        refine ⟨.mk k m s l, by rw [Tm.cells_mk], ?_⟩
        rw [Tm.w_mk]
        simp only [wtL_cons, wtL_nil, wt_int, wt_str, wt_sl] at w3 ⊢
        omega
    · unfold Lay at h
      rw [T.uL] at h
      obtain ⟨rows, rfl, hr⟩ := h
      have : ∀ rows : List (List AV), (∀ row ∈ rows, row.length = P.cellsOf tT ∧ Lay P n tT row) → ∃ l : List Tm, rows = rowsT l ∧ wL l ≤ wtR rows := by
        intro rows
        induction rows with
        | nil => intro _; exact ⟨[], by rw [rowsT_nil], by simp⟩
        | cons r rows ihr =>
          intro h
          obtain ⟨t, e1, w1⟩ := ih.1 r (h r (by simp)).2
          obtain ⟨l, e2, w2⟩ := ihr fun q hq => h q (by simp [hq])
          refine ⟨t :: l, by rw [rowsT_cons, ← e1, ← e2], ?_⟩
          simp; omega
      obtain ⟨l, rfl, w⟩ := this rows hr
      exact ⟨l, rfl, by simp; omega⟩
theorem bulk_le {H : Type} {l : List (DataW H)} (hk : Rows.uptoSmall H l = true) {d : DataW H} (hd : d ∈ l) : Rows.uptoBulk d ≤ 1048576 := by
  have h : Rows.uptoBulkAll l ≤ 1048576 := of_decide_eq_true hk
  have := bulk_part hd
  omega
end Go.Proofs.YteojjjhhmbogfaaGreat
end

section
namespace Go.Av
@[simp] theorem Tm.kind_mk (k n : Int) (s : List UInt8) (l : List Tm) : (Tm.mk k n s l).kind = k := rfl
@[simp] theorem Tm.num_mk (k n : Int) (s : List UInt8) (l : List Tm) : (Tm.mk k n s l).num = n := rfl
@[simp] theorem Tm.str_mk (k n : Int) (s : List UInt8) (l : List Tm) : (Tm.mk k n s l).str = s := rfl
@[simp] theorem Tm.subs_mk (k n : Int) (s : List UInt8) (l : List Tm) : (Tm.mk k n s l).subs = l := rfl
@[simp] theorem Tm.eta (t : Tm) : Tm.mk t.kind t.num t.str t.subs = t := by cases t; rfl
theorem Tm.cells_eq (t : Tm) : t.cells = [.int .i64 t.kind, .int .i64 t.num, .str t.str, .sl (rowsT t.subs)] := by cases t; rw [Tm.cells_mk]; rfl
@[simp] theorem cells_fold (k n : Int) (s : List UInt8) (l : List Tm) : [AV.int .i64 k, AV.int .i64 n, AV.str s, AV.sl (rowsT l)] = (Tm.mk k n s l).cells := (Tm.cells_mk k n s l).symm
@[simp] theorem cells_fold0 (k n : Int) (s : List UInt8) : [AV.int .i64 k, AV.int .i64 n, AV.str s, AV.sl []] = (Tm.mk k n s []).cells := by rw [Tm.cells_mk, rowsT_nil]
@[simp] theorem agg_cells (t : Tm) : AV.agg t.cells = t.av := rfl
@[simp] theorem rowsT_one (t : Tm) : [t.cells] = rowsT [t] := by rw [rowsT_cons, rowsT_nil]
@[simp] theorem rowsT_cons' (t : Tm) (l : List Tm) : t.cells :: rowsT l = rowsT (t :: l) := (rowsT_cons t l).symm
@[simp] theorem rowsT_append' (a b : List Tm) : rowsT a ++ rowsT b = rowsT (a ++ b) := (rowsT_append a b).symm
@[simp] theorem rowsT_app (a b : List Tm) : List.append (rowsT a) (rowsT b) = rowsT (a ++ b) := (rowsT_append a b).symm
@[simp] theorem rowsT_take' (n : Nat) (a : List Tm) : (rowsT a).take n = rowsT (a.take n) := rowsT_take n a
@[simp] theorem rowsT_drop' (n : Nat) (a : List Tm) : (rowsT a).drop n = rowsT (a.drop n) := rowsT_drop n a
@[simp] theorem rowsT_set' (l : List Tm) (i : Nat) (t : Tm) : (rowsT l).set i t.cells = rowsT (l.set i t) := rowsT_set l i t
@[simp] theorem rowsT_get' (l : List Tm) (i : Nat) : (rowsT l)[i]? = (l[i]?).map Tm.cells := rowsT_get l i
@[simp] theorem rowsT_getElem (l : List Tm) (i : Nat) (h : i < (rowsT l).length) : (rowsT l)[i] = (l[i]'(by simpa using h)).cells := by
  have h1 := rowsT_get l i
  rw [List.getElem?_eq_getElem h, List.getElem?_eq_getElem (by simpa using h)] at h1
  exact Option.some.inj h1
@[simp] theorem kOpt_map {α β γ : Type} (o : Option β) (g : β → γ) (k : γ → Option α) : kOpt (o.map g) k = kOpt o fun x => k (g x) := by cases o <;> rfl
@[simp] theorem length_cells (t : Tm) : t.cells.length = 4 := by rw [Tm.cells_eq]; rfl
@[simp] theorem take_cells (t : Tm) : t.cells.take 4 = t.cells := by rw [Tm.cells_eq]; rfl
@[simp] theorem drop_cells (t : Tm) : t.cells.drop 4 = [] := by rw [Tm.cells_eq]; rfl
@[simp] theorem cells_0 (t : Tm) : t.cells[0]? = some (.int .i64 t.kind) := by rw [Tm.cells_eq]; rfl
@[simp] theorem cells_1 (t : Tm) : t.cells[1]? = some (.int .i64 t.num) := by rw [Tm.cells_eq]; rfl
@[simp] theorem cells_2 (t : Tm) : t.cells[2]? = some (.str t.str) := by rw [Tm.cells_eq]; rfl
@[simp] theorem cells_3 (t : Tm) : t.cells[3]? = some (.sl (rowsT t.subs)) := by rw [Tm.cells_eq]; rfl
@[simp] theorem refs_cells (n : Nat) (t : Tm) : refsLtL n t.cells = true := by rw [Tm.cells_eq]; rfl
@[simp] theorem allCells_cells (t : Tm) : allCells t.cells = true := by rw [Tm.cells_eq]; rfl
@[simp] theorem rowsT_free' (l : List Tm) : refsLtR 0 (rowsT l) = true := rowsT_free l
@[simp] theorem rowsOk_rowsT (l : List Tm) : rowsOk 4 (rowsT l) = true := by
  cases l with
  | nil => rw [rowsT_nil]; rfl
  | cons t l => rw [rowsT_cons, rowsOk, length_cells]; rfl
@[simp] theorem kTmC_cells {α : Type} (t : Tm) (k : Int → Int → List UInt8 → List (List AV) → Option α) : kTmC t.cells k = k t.kind t.num t.str (rowsT t.subs) := by rw [Tm.cells_eq]; rfl
@[simp] theorem kTmV_av {α : Type} (t : Tm) (k : Int → Int → List UInt8 → List (List AV) → Option α) : kTmV t.av k = k t.kind t.num t.str (rowsT t.subs) := by rw [Tm.av, Tm.cells_eq]; rfl

theorem wrap_s {i n : Nat} (h : i < n) (hn : n < 1099511627776) : IntKind.wrap .i64 ((i : Int) + 1) = (i : Int) + 1 := wrap64 (by omega) (by omega)
@[simp] theorem cast_nn (q : Nat) : (0 ≤ (q : Int) + 1) = True := eq_true (by omega)
@[simp] theorem cast_le1 (q n : Nat) : ((q : Int) + 1 ≤ (n : Int)) = (q + 1 ≤ n) := propext (by omega)
@[simp] theorem cast_lt1 (q n : Nat) : ((q : Int) + 1 < (n : Int)) = (q + 1 < n) := propext (by omega)
@[simp] theorem cast_nn' (q : Nat) : (0 < (q : Int) + 1) = True := eq_true (by omega)
@[simp] theorem cast_ne0 (q : Nat) : ((q : Int) + 1 == 0) = false := by rw [beqD]; exact decide_eq_false (by omega)
@[simp] theorem cast_lt_s (q : Nat) : ((q : Int) < (q : Int) + 1) = True := eq_true (by omega)
@[simp] theorem cast_le_s (q : Nat) : ((q : Int) ≤ (q : Int) + 1) = True := eq_true (by omega)
theorem wrapN {n : Nat} (hn : n < 4398046511104) : IntKind.wrap .i64 (n : Int) = n := wrap64 (by omega) (by omega)
end Go.Av
end

section
namespace Go.Av

def numC (a b : Int) : Int := if a < b then -1 else if b < a then 1 else 0
def strC (a b : List UInt8) : Int := if a = b then 0 else if Op.bytesLess a b then -1 else 1

mutual
def cmpT : Tm → Tm → Int
  | .mk k n s l, b =>
    if numC k b.kind ≠ 0 then numC k b.kind
    else if k = 1 ∨ k = 3 ∨ k = 4 ∨ k = 6 then numC n b.num
    else if k = 2 then strC s b.str
    else if k = 5 then (if numC n b.num ≠ 0 then numC n b.num else if numC l.length b.subs.length ≠ 0 then numC l.length b.subs.length else cmpE l b.subs)
    else if k = 7 ∨ k = 9 then (if numC l.length b.subs.length ≠ 0 then numC l.length b.subs.length else cmpE l b.subs)
    else 0
def cmpE : List Tm → List Tm → Int
  | [], [] => 0
  | [], _ :: _ => -1
  | _ :: _, [] => 1
  | a :: l, b :: l' => if cmpT a b ≠ 0 then cmpT a b else cmpE l l'
end

def cmpL (l l' : List Tm) : Int := if numC l.length l'.length ≠ 0 then numC l.length l'.length else cmpE l l'

theorem numC_zero {a b : Int} : numC a b = 0 ↔ a = b := by unfold numC; split <;> (try split) <;> omega
theorem numC_self (a : Int) : numC a a = 0 := numC_zero.2 rfl

theorem cmpT_eq (k n : Int) (s : List UInt8) (l : List Tm) (k' n' : Int) (s' : List UInt8) (l' : List Tm) : cmpT (.mk k n s l) (.mk k' n' s' l') =
    if numC k k' ≠ 0 then numC k k' else if k = 1 ∨ k = 3 ∨ k = 4 ∨ k = 6 then numC n n' else if k = 2 then strC s s'
    else if k = 5 then (if numC n n' ≠ 0 then numC n n' else cmpL l l') else if k = 7 ∨ k = 9 then cmpL l l' else 0 := by
  rw [cmpT]; rfl
theorem cmpE_cons (a b : Tm) (l l' : List Tm) : cmpE (a :: l) (b :: l') = if cmpT a b ≠ 0 then cmpT a b else cmpE l l' := by rw [cmpE]
theorem cmpE_nil : cmpE [] [] = 0 := by rw [cmpE]
theorem cmpE_nil_cons (b : Tm) (l' : List Tm) : cmpE [] (b :: l') = -1 := by rw [cmpE]
theorem cmpE_cons_nil (a : Tm) (l : List Tm) : cmpE (a :: l) [] = 1 := by rw [cmpE]

end Go.Av
end

section
namespace Go.Av

def C3 (p q r : Int) : Prop := (p ≤ 0 → q ≤ 0 → r ≤ 0) ∧ (p < 0 → q ≤ 0 → r < 0) ∧ (p ≤ 0 → q < 0 → r < 0) ∧ (0 ≤ p → 0 ≤ q → 0 ≤ r) ∧ (0 < p → 0 ≤ q → 0 < r) ∧ (0 ≤ p → 0 < q → 0 < r)

def lexI (a b : Int) : Int := if a ≠ 0 then a else b

theorem C3.neg3 {p q r : Int} (hp : p < 0) (_hq : q ≤ 0) (hr : r < 0) : C3 p q r := by
  refine ⟨?_, ?_, ?_, ?_, ?_, ?_⟩ <;> intros <;> omega
theorem C3.neg3' {p q r : Int} (hp : p ≤ 0) (hq : q < 0) (hr : r < 0) : C3 p q r := by
  refine ⟨?_, ?_, ?_, ?_, ?_, ?_⟩ <;> intros <;> omega
theorem C3.pos3 {p q r : Int} (hp : 0 < p) (_hq : 0 ≤ q) (hr : 0 < r) : C3 p q r := by
  refine ⟨?_, ?_, ?_, ?_, ?_, ?_⟩ <;> intros <;> omega
theorem C3.pos3' {p q r : Int} (hp : 0 ≤ p) (hq : 0 < q) (hr : 0 < r) : C3 p q r := by
  refine ⟨?_, ?_, ?_, ?_, ?_, ?_⟩ <;> intros <;> omega
theorem C3.mix {p q r : Int} (hp : p < 0) (hq : 0 < q) : C3 p q r := by
  refine ⟨?_, ?_, ?_, ?_, ?_, ?_⟩ <;> intros <;> omega
theorem C3.mix' {p q r : Int} (hp : 0 < p) (hq : q < 0) : C3 p q r := by
  refine ⟨?_, ?_, ?_, ?_, ?_, ?_⟩ <;> intros <;> omega
theorem lexI_ne {a b : Int} (h : a ≠ 0) : lexI a b = a := if_pos h
theorem lexI_zero (b : Int) : lexI 0 b = b := rfl

theorem C3.lex {p q r p' q' r' : Int} (h : C3 p q r) (h' : p = 0 → q = 0 → C3 p' q' r') : C3 (lexI p p') (lexI q q') (lexI r r') := by
  obtain ⟨h1, h2, h3, h4, h5, h6⟩ := h
  rcases Int.lt_trichotomy p 0 with hp | hp | hp
  · rw [lexI_ne (a := p) (by omega)]
    rcases Int.lt_trichotomy q 0 with hq | hq | hq
    · have hr := h2 hp (by omega)
      rw [lexI_ne (a := q) (by omega), lexI_ne (a := r) (by omega)]
      exact C3.neg3 hp (by omega) hr
    · have hr := h2 hp (by omega)
      rw [hq, lexI_zero, lexI_ne (a := r) (by omega)]
      rcases Int.lt_trichotomy q' 0 with h | h | h
      · exact C3.neg3 hp (by omega) hr
      · exact C3.neg3 hp (by omega) hr
      · exact C3.mix hp h
    · rw [lexI_ne (a := q) (by omega)]
      exact C3.mix hp hq
  · subst hp
    rw [lexI_zero]
    rcases Int.lt_trichotomy q 0 with hq | hq | hq
    · have hr := h3 (by omega) hq
      rw [lexI_ne (a := q) (by omega), lexI_ne (a := r) (by omega)]
      rcases Int.lt_trichotomy p' 0 with h | h | h
      · exact C3.neg3' (by omega) hq hr
      · exact C3.neg3' (by omega) hq hr
      · exact C3.mix' h hq
    · subst hq
      have ha := h1 (by omega) (by omega)
      have hb := h4 (by omega) (by omega)
      obtain rfl : r = 0 := by omega
      exact h' rfl rfl
    · have hr := h6 (by omega) hq
      rw [lexI_ne (a := q) (by omega), lexI_ne (a := r) (by omega)]
      rcases Int.lt_trichotomy p' 0 with h | h | h
      · exact C3.mix h hq
      · exact C3.pos3' (by omega) hq hr
      · exact C3.pos3' (by omega) hq hr
  · rw [lexI_ne (a := p) (by omega)]
    rcases Int.lt_trichotomy q 0 with hq | hq | hq
    · rw [lexI_ne (a := q) (by omega)]
      exact C3.mix' hp hq
    · have hr := h5 hp (by omega)
      rw [hq, lexI_zero, lexI_ne (a := r) (by omega)]
      rcases Int.lt_trichotomy q' 0 with h | h | h
      · exact C3.mix' hp h
      · exact C3.pos3 hp (by omega) hr
      · exact C3.pos3 hp (by omega) hr
    · have hr := h5 hp (by omega)
      rw [lexI_ne (a := q) (by omega), lexI_ne (a := r) (by omega)]
      exact C3.pos3 hp (by omega) hr

theorem lexI_neg (a b : Int) : lexI (-a) (-b) = - lexI a b := by unfold lexI; split <;> split <;> omega

theorem numC_neg (a b : Int) : numC b a = - numC a b := by unfold numC; split <;> split <;> (try split) <;> omega
theorem numC_le (a b : Int) : numC a b ≤ 0 ↔ a ≤ b := by unfold numC; split <;> (try split) <;> omega
theorem numC_lt (a b : Int) : numC a b < 0 ↔ a < b := by unfold numC; split <;> (try split) <;> omega
theorem numC_ge (a b : Int) : 0 ≤ numC a b ↔ b ≤ a := by unfold numC; split <;> (try split) <;> omega
theorem numC_gt (a b : Int) : 0 < numC a b ↔ b < a := by unfold numC; split <;> (try split) <;> omega
theorem numC_C3 (a b c : Int) : C3 (numC a b) (numC b c) (numC a c) := by
  unfold C3
  simp only [numC_le, numC_lt, numC_ge, numC_gt]
  refine ⟨?_, ?_, ?_, ?_, ?_, ?_⟩ <;> intros <;> omega

theorem strC_nil : strC [] [] = 0 := by simp [strC]
theorem strC_nil_cons (b : UInt8) (m : List UInt8) : strC [] (b :: m) = -1 := by simp [strC, Op.bytesLess]
theorem strC_cons_nil (b : UInt8) (m : List UInt8) : strC (b :: m) [] = 1 := by simp [strC, Op.bytesLess]
theorem strC_cons (a b : UInt8) (l m : List UInt8) : strC (a :: l) (b :: m) = lexI (numC a.toNat b.toNat) (strC l m) := by
  unfold strC lexI numC
  by_cases h : a = b
  · subst h
    by_cases h2 : l = m
    · subst h2; simp
    · simp [h2, Op.bytesLess]
  · have hne : a.toNat ≠ b.toNat := fun e => h (UInt8.toNat.inj e)
    have h3 : (a :: l = b :: m) = False := by simp [h]
    have h4 : (a == b) = false := by simpa using h
    rw [if_neg (by simp [h])]
    simp only [Op.bytesLess, h4, Bool.false_and, Bool.or_false]
    by_cases hlt : a.toNat < b.toNat
    · have : a < b := hlt
      have h5 : (a.toNat : Int) < b.toNat := by omega
      simp [this, h5]
    · have : ¬ a < b := hlt
      have h5 : ¬ (a.toNat : Int) < b.toNat := by omega
      have h6 : (b.toNat : Int) < a.toNat := by omega
      simp [this, h5, h6]
theorem strC_neg : ∀ a b : List UInt8, strC b a = - strC a b
  | [], [] => by simp [strC_nil]
  | [], b :: m => by rw [strC_nil_cons, strC_cons_nil]; rfl
  | a :: l, [] => by rw [strC_nil_cons, strC_cons_nil]
  | a :: l, b :: m => by rw [strC_cons, strC_cons, numC_neg, strC_neg l m, lexI_neg]
theorem strC_C3 : ∀ a b c : List UInt8, C3 (strC a b) (strC b c) (strC a c)
  | [], [], [] => by simp [strC_nil, C3]
  | [], [], c :: n => by simp [strC_nil, strC_nil_cons, C3]
  | [], b :: m, [] => by simp [strC_nil, strC_nil_cons, strC_cons_nil, C3]
  | [], b :: m, c :: n => by
    rw [strC_nil_cons, strC_nil_cons]
    unfold C3
    refine ⟨?_, ?_, ?_, ?_, ?_, ?_⟩ <;> intros <;> omega
  | a :: l, [], [] => by simp [strC_nil, strC_cons_nil, C3]
  | a :: l, [], c :: n => by
    rw [strC_nil_cons, strC_cons_nil]
    unfold C3
    refine ⟨?_, ?_, ?_, ?_, ?_, ?_⟩ <;> intros <;> omega
  | a :: l, b :: m, [] => by
    rw [strC_cons_nil, strC_cons_nil]
    unfold C3
    refine ⟨?_, ?_, ?_, ?_, ?_, ?_⟩ <;> intros <;> omega
  | a :: l, b :: m, c :: n => by
    rw [strC_cons, strC_cons, strC_cons]
    exact (numC_C3 _ _ _).lex fun _ _ => strC_C3 l m n

theorem cmpT_lex (k n : Int) (s : List UInt8) (l : List Tm) (k' n' : Int) (s' : List UInt8) (l' : List Tm) : cmpT (.mk k n s l) (.mk k' n' s' l') =
    lexI (numC k k') (if k = 1 ∨ k = 3 ∨ k = 4 ∨ k = 6 then numC n n' else if k = 2 then strC s s'
    else if k = 5 then lexI (numC n n') (lexI (numC l.length l'.length) (cmpE l l')) else if k = 7 ∨ k = 9 then lexI (numC l.length l'.length) (cmpE l l') else 0) := by
  rw [cmpT_eq]; rfl

theorem cmpE_lex (a b : Tm) (l l' : List Tm) : cmpE (a :: l) (b :: l') = lexI (cmpT a b) (cmpE l l') := by rw [cmpE_cons]; rfl

theorem cmpE_neg_of : ∀ (l : List Tm), (∀ a ∈ l, ∀ b, cmpT b a = - cmpT a b) → ∀ l', cmpE l' l = - cmpE l l'
  | [], _, [] => by rw [cmpE_nil]; rfl
  | [], _, b :: l' => by rw [cmpE_nil_cons, cmpE_cons_nil]; rfl
  | a :: l, _, [] => by rw [cmpE_nil_cons, cmpE_cons_nil]
  | a :: l, h, b :: l' => by rw [cmpE_lex, cmpE_lex, h a (by simp), cmpE_neg_of l (fun a ha => h a (by simp [ha])) l', lexI_neg]

theorem cmpT_neg (a b : Tm) : cmpT b a = - cmpT a b := by
  induction a using Tm.ind generalizing b with
  | _ k n s l ih =>
    obtain ⟨k', n', s', l'⟩ := b
    rw [cmpT_lex, cmpT_lex, numC_neg, cmpE_neg_of l ih, numC_neg n n', numC_neg l.length l'.length, strC_neg]
    by_cases h : k = k'
    · subst h
      rw [← lexI_neg, numC_self]
      simp only [lexI_neg]
      congr 1
      split
      · rfl
      · split
        · rfl
        · split
          · rfl
          · split
            · rfl
            · rfl
    · have : numC k k' ≠ 0 := fun e => h (numC_zero.1 e)
      unfold lexI
      rw [if_pos (by omega), if_pos this]

theorem cmpE_C3_of : ∀ (l : List Tm), (∀ a ∈ l, ∀ b c, C3 (cmpT a b) (cmpT b c) (cmpT a c)) → ∀ m n, C3 (cmpE l m) (cmpE m n) (cmpE l n)
  | [], _, [], [] => by simp [cmpE_nil, C3]
  | [], _, [], c :: n => by simp [cmpE_nil, cmpE_nil_cons, C3]
  | [], _, b :: m, [] => by simp [cmpE_nil, cmpE_nil_cons, cmpE_cons_nil, C3]
  | [], _, b :: m, c :: n => by
    rw [cmpE_nil_cons, cmpE_nil_cons]
    unfold C3
    refine ⟨?_, ?_, ?_, ?_, ?_, ?_⟩ <;> intros <;> omega
  | a :: l, _, [], [] => by simp [cmpE_nil, cmpE_cons_nil, C3]
  | a :: l, _, [], c :: n => by
    rw [cmpE_nil_cons, cmpE_cons_nil]
    unfold C3
    refine ⟨?_, ?_, ?_, ?_, ?_, ?_⟩ <;> intros <;> omega
  | a :: l, _, b :: m, [] => by
    rw [cmpE_cons_nil, cmpE_cons_nil]
    unfold C3
    refine ⟨?_, ?_, ?_, ?_, ?_, ?_⟩ <;> intros <;> omega
  | a :: l, h, b :: m, c :: n => by
    rw [cmpE_lex, cmpE_lex, cmpE_lex]
    exact (h a (by simp) b c).lex fun _ _ => cmpE_C3_of l (fun a ha => h a (by simp [ha])) m n

theorem cmpT_C3 (a b c : Tm) : C3 (cmpT a b) (cmpT b c) (cmpT a c) := by
  induction a using Tm.ind generalizing b c with
  | _ k n s l ih =>
    obtain ⟨k', n', s', l'⟩ := b
    obtain ⟨k'', n'', s'', l''⟩ := c
    rw [cmpT_lex, cmpT_lex, cmpT_lex]
    refine (numC_C3 _ _ _).lex fun h1 h2 => ?_
    have e1 := numC_zero.1 h1
    have e2 := numC_zero.1 h2
    subst e1 e2
    have hE := cmpE_C3_of l ih l' l''
    have hL := (numC_C3 l.length l'.length l''.length).lex fun _ _ => hE
    split
    · exact numC_C3 _ _ _
    · split
      · exact strC_C3 _ _ _
      · split
        · exact (numC_C3 _ _ _).lex fun _ _ => hL
        · split
          · exact hL
          · simp [C3]

end Go.Av
end

section
namespace Go.Av
def soundB (k n : Int) (s : List UInt8) (m : Nat) : Bool :=
  if k = 1 then decide (-576460752303423488 ≤ n) && (decide (n ≤ 576460752303423487) && (decide (s = []) && decide (m = 0)))
  else if k = 2 then decide (n = 0) && (decide (s.length ≤ 64) && decide (m = 0))
  else if k = 3 then decide (0 ≤ n) && (decide (n ≤ 1073741824) && (decide (s = []) && decide (m = 0)))
  else if k = 4 then decide (0 ≤ n) && (decide (n ≤ 1073741824) && (decide (s = []) && decide (m = 0)))
  else if k = 6 then decide (0 ≤ n) && (decide (n ≤ 1073741824) && (decide (s = []) && decide (m = 0)))
  else if k = 5 then decide (0 ≤ n) && (decide (n ≤ 1073741824) && (decide (s = []) && decide (m ≤ 64)))
  else if k = 7 then decide (n = 0) && (decide (s = []) && decide (m ≤ 64))
  else if k = 8 then decide (n = 0) && (decide (s = []) && decide (m = 0))
  else if k = 9 then decide (n = 0) && (decide (s = []) && decide (m = 2))
  else false
def Tm.sound (t : Tm) : Bool := soundB t.kind t.num t.str t.subs.length
def Tm.own (t : Tm) : Nat := if t.kind = 7 ∨ t.kind = 5 then 2 else 1
theorem bif_some' (a b : Bool) : (bif a then some (AV.bool b) else some (AV.bool false)) = some (.bool (a && b)) := by cases a <;> rfl
theorem beqNil (s : List UInt8) : (s == []) = decide (s = []) := by cases s <;> simp
theorem beqI (a b : Int) : (a == b) = decide (a = b) := by simp [beqD]
mutual
/-- may all parts of a term be? -/
def Tm.parts : Tm → Bool
  | .mk k n s l => soundB k n s l.length && partsL l
def partsL : List Tm → Bool
  | [] => true
  | t :: l => t.parts && partsL l
end
mutual
/-- how many words all parts have -/
def Tm.words : Tm → Nat
  | .mk k n s l => (Tm.mk k n s l).own + wordsL l
def wordsL : List Tm → Nat
  | [] => 0
  | t :: l => t.words + wordsL l
end
theorem Tm.parts_eq (t : Tm) : t.parts = (t.sound && partsL t.subs) := by cases t; rw [Tm.parts]; rfl
theorem Tm.words_eq (t : Tm) : t.words = t.own + wordsL t.subs := by cases t; rw [Tm.words]; rfl
theorem partsL_append (a b : List Tm) : partsL (a ++ b) = (partsL a && partsL b) := by
  induction a with
  | nil => simp [partsL]
  | cons x l ih => simp [partsL, ih, Bool.and_assoc]
theorem wordsL_append (a b : List Tm) : wordsL (a ++ b) = wordsL a + wordsL b := by
  induction a with
  | nil => simp [wordsL]
  | cons x l ih => simp [wordsL, ih]; omega
theorem partsL_rev (a : List Tm) : partsL a.reverse = partsL a := by
  induction a with
  | nil => rfl
  | cons x l ih => simp [partsL_append, partsL, ih, Bool.and_comm]
theorem wordsL_rev (a : List Tm) : wordsL a.reverse = wordsL a := by
  induction a with
  | nil => rfl
  | cons x l ih => simp [wordsL_append, wordsL, ih]; omega
theorem Tm.own_le (t : Tm) : t.own ≤ 2 ∧ 1 ≤ t.own := by unfold Tm.own; split <;> omega
def chkS (R : List Tm) (wd : Nat) : Int := if partsL R then (if 65536 < wd + wordsL R then 3 else 0) else 2
def Tm.chk (t : Tm) : Int := chkS [t] 0
theorem chkS_bad {R : List Tm} {x : Tm} {wd : Nat} (h : x.sound = false) : chkS (R ++ [x]) wd = 2 := by
  unfold chkS
  rw [partsL_append]
  simp [partsL, Tm.parts_eq, h]
theorem chkS_step {R : List Tm} {x : Tm} {wd : Nat} (h : x.sound = true) : chkS (R ++ x.subs.reverse) (wd + x.own) = chkS (R ++ [x]) wd := by
  unfold chkS
  simp only [partsL_append, partsL_rev, wordsL_append, wordsL_rev, partsL, wordsL, Tm.parts_eq, Tm.words_eq, h, Bool.true_and, Bool.and_true]
  have : wd + x.own + (wordsL R + wordsL x.subs) = wd + (wordsL R + (x.own + wordsL x.subs + 0)) := by omega
  rw [this]

theorem cmpE_alike (l : List Tm) (h : ∀ a ∈ l, a.parts = true → ∀ b : Tm, b.parts = true → cmpT a b = 0 → a = b) : ∀ l', partsL l = true → partsL l' = true → cmpE l l' = 0 → l = l' := by
  induction l with
  | nil =>
    intro l' _ _ hc
    cases l' with
    | nil => rfl
    | cons b m => rw [cmpE_nil_cons] at hc; cases hc
  | cons a l ih =>
    intro l' h1 h2 hc
    cases l' with
    | nil => rw [cmpE_cons_nil] at hc; cases hc
    | cons b m =>
      rw [cmpE_cons] at hc
      simp only [partsL, Bool.and_eq_true] at h1 h2
      split at hc
      · rename_i hne; exact absurd hc hne
      · rename_i he
        have he : cmpT a b = 0 := Decidable.not_not.1 he
        rw [h a (by simp) h1.1 b h2.1 he, ih (fun t ht => h t (by simp [ht])) m h1.2 h2.2 hc]
theorem cmpL_alike {l l' : List Tm} (h : ∀ a ∈ l, a.parts = true → ∀ b : Tm, b.parts = true → cmpT a b = 0 → a = b) (h1 : partsL l = true) (h2 : partsL l' = true) (hc : cmpL l l' = 0) : l = l' := by
  unfold cmpL at hc
  split at hc
  · rename_i hne; exact absurd hc hne
  · exact cmpE_alike l h l' h1 h2 hc
theorem strC_zero {a b : List UInt8} (h : strC a b = 0) : a = b := by
  unfold strC at h
  split at h
  · assumption
  · split at h <;> cases h
theorem cmpT_alike (a : Tm) : a.parts = true → ∀ b : Tm, b.parts = true → cmpT a b = 0 → a = b := by
  induction a using Tm.ind with
  | _ k n s l ih =>
    intro ha b hb hc
    obtain ⟨k', n', s', l'⟩ := b
    rw [Tm.parts, Bool.and_eq_true] at ha hb
    obtain ⟨a1, a2⟩ := ha
    obtain ⟨b1, b2⟩ := hb
    have hl := fun h : cmpL l l' = 0 => cmpL_alike ih a2 b2 h
    rw [cmpT_eq] at hc
    split at hc
    · rename_i hne; exact absurd hc hne
    · rename_i he
      have hk : k = k' := numC_zero.1 (Decidable.not_not.1 he)
      subst hk
      clear he ih a2 b2
      by_cases k1 : k = 1
      · subst k1
        simp [soundB] at a1 b1
        simp at hc
        rw [numC_zero.1 hc, a1.2.2.1, b1.2.2.1, a1.2.2.2, b1.2.2.2]
      by_cases k2 : k = 2
      · subst k2
        simp [soundB] at a1 b1
        simp at hc
        rw [strC_zero hc, a1.1, b1.1, a1.2.2, b1.2.2]
      by_cases k3 : k = 3
      · subst k3
        simp [soundB] at a1 b1
        simp at hc
        rw [numC_zero.1 hc, a1.2.2.1, b1.2.2.1, a1.2.2.2, b1.2.2.2]
      by_cases k4 : k = 4
      · subst k4
        simp [soundB] at a1 b1
        simp at hc
        rw [numC_zero.1 hc, a1.2.2.1, b1.2.2.1, a1.2.2.2, b1.2.2.2]
      by_cases k6 : k = 6
      · subst k6
        simp [soundB] at a1 b1
        simp at hc
        rw [numC_zero.1 hc, a1.2.2.1, b1.2.2.1, a1.2.2.2, b1.2.2.2]
      by_cases k5 : k = 5
      · subst k5
        simp [soundB] at a1 b1
        simp at hc
        split at hc
        · rename_i he
          rw [numC_zero.1 he, a1.2.2.1, b1.2.2.1, hl hc]
        · rename_i hne; exact absurd hc hne
      by_cases k7 : k = 7
      · subst k7
        simp [soundB] at a1 b1
        simp at hc
        rw [a1.1, b1.1, a1.2.1, b1.2.1, hl hc]
      by_cases k8 : k = 8
      · subst k8
        simp [soundB] at a1 b1
        rw [a1.1, b1.1, a1.2.1, b1.2.1, a1.2.2, b1.2.2]
      by_cases k9 : k = 9
      · subst k9
        simp [soundB] at a1 b1
        simp at hc
        rw [a1.1, b1.1, a1.2.1, b1.2.1, hl hc]
      · simp [soundB, k1, k2, k3, k4, k5, k6, k7, k8, k9] at a1
end Go.Av
end

section
namespace Go.Av
def symT (s : List UInt8) : Tm := .mk 2 0 s []
def tupT (l : List Tm) : Tm := .mk 7 0 [] l
def zeroT : Tm := .mk 0 0 [] []
theorem symT_av (s : List UInt8) : (symT s).av = .agg [.int .i64 2, .int .i64 0, .str s, .sl []] := by rw [symT, Tm.av_mk, rowsT_nil]
def InB (a : Int) : Prop := -576460752303423488 ≤ a ∧ a ≤ 576460752303423487
instance (a : Int) : Decidable (InB a) := inferInstanceAs (Decidable (_ ∧ _))
end Go.Av
namespace Go.Av
theorem beqS (a b : List UInt8) : (a == b) = decide (a = b) := by by_cases h : a = b <;> simp [h]
structure Env where
  obj : Tm
  binds : List (Int × Tm)
  self : Int
end Go.Av
namespace Go.Av
end Go.Av
namespace Go.Av
def opsTab : List (List UInt8 × List Int) := [
  ([115, 101, 108, 102], [0]),
  ([105, 115, 95, 97, 116, 111, 109], [1]),
  ([105, 115, 95, 105, 110, 116, 101, 103, 101, 114], [1]),
  ([105, 115, 95, 108, 105, 115, 116], [1]),
  ([105, 115, 95, 116, 117, 112, 108, 101], [1]),
  ([105, 115, 95, 112, 105, 100], [1]),
  ([105, 115, 95, 102, 117, 110, 99, 116, 105, 111, 110], [1]),
  ([105, 115, 95, 114, 101, 102, 101, 114, 101, 110, 99, 101], [1]),
  ([110, 111, 116], [1]),
  ([98, 110, 111, 116], [1]),
  ([97, 98, 115], [1]),
  ([116, 117, 112, 108, 101, 95, 115, 105, 122, 101], [1]),
  ([115, 105, 122, 101], [1]),
  ([104, 100], [1]),
  ([116, 108], [1]),
  ([108, 101, 110, 103, 116, 104], [1]),
  ([43], [1, 2]),
  ([45], [1, 2]),
  ([61, 61], [2]),
  ([61, 58, 61], [2]),
  ([47, 61], [2]),
  ([61, 47, 61], [2]),
  ([60], [2]),
  ([61, 60], [2]),
  ([62], [2]),
  ([62, 61], [2]),
  ([97, 110, 100], [2]),
  ([111, 114], [2]),
  ([120, 111, 114], [2]),
  ([97, 110, 100, 97, 108, 115, 111], [2]),
  ([111, 114, 101, 108, 115, 101], [2]),
  ([42], [2]),
  ([100, 105, 118], [2]),
  ([114, 101, 109], [2]),
  ([98, 97, 110, 100], [2]),
  ([98, 111, 114], [2]),
  ([98, 120, 111, 114], [2]),
  ([101, 108, 101, 109, 101, 110, 116], [2])]
def lookS {β : Type} (op : List UInt8) (d : β) : List (List UInt8 × β) → β
  | [] => d
  | p :: l => bif op == p.1 then p.2 else lookS op d l
theorem lookS_map {β γ : Type} (g : β → γ) (op : List UInt8) (d : β) : ∀ l : List (List UInt8 × β), lookS op (g d) (l.map fun p => (p.1, g p.2)) = g (lookS op d l)
  | [] => rfl
  | p :: l => by
    rw [List.map_cons, lookS, lookS, lookS_map g op d l]
    cases op == p.1 <;> rfl
def opsG (op : List UInt8) : List Int := lookS op [] opsTab
def intsR (l : List Int) : List (List AV) := l.map fun n => [.int .i64 n]
theorem intsR_len (l : List Int) : (intsR l).length = l.length := by simp [intsR]
theorem intsR_get (l : List Int) (i : Nat) : (intsR l)[i]? = (l[i]?).map fun n => [AV.int .i64 n] := by simp [intsR]
def selfG (n : Int) : Bool := decide (1 ≤ n) && decide (n ≤ 1073741824)
theorem Tm.Ok.subs {t : Tm} (h : t.Ok) {x : Tm} (hx : x ∈ t.subs) : x.Ok := by
  obtain ⟨k, n, s, l⟩ := t
  exact h.sub hx
end Go.Av
end

section
namespace Go.Av
def digitG (b : UInt8) : Option Int := if b.toNat < 48 then none else if b.toNat > 57 then none else some ((b.toNat : Int) - 48)
def varG : List UInt8 → Option Int
  | [a, b] => if a.toNat = 36 then digitG b else none
  | [a, b, c] => if a.toNat = 36 ∧ b.toNat ≠ 48 then (digitG b).bind fun x => (digitG c).map fun y => x * 10 + y else none
  | _ => none
theorem digitG_in {b : UInt8} {x : Int} (h : digitG b = some x) : 0 ≤ x ∧ x ≤ 9 := by
  unfold digitG at h
  split at h
  · cases h
  · split at h
    · cases h
    · cases h; omega
theorem varG2 (a b : UInt8) : varG [a, b] = if a.toNat = 36 then digitG b else none := rfl
theorem varG3 (a b c : UInt8) : varG [a, b, c] = if a.toNat = 36 ∧ b.toNat ≠ 48 then (digitG b).bind fun x => (digitG c).map fun y => x * 10 + y else none := rfl
theorem varG_in {s : List UInt8} {x : Int} (h : varG s = some x) : 0 ≤ x ∧ x ≤ 99 := by
  unfold varG at h
  split at h
  · split at h
    · have := digitG_in h; omega
    · cases h
  · split at h
    · obtain ⟨a, h1, h2⟩ := Option.bind_eq_some_iff.1 h
      obtain ⟨b, h3, rfl⟩ := Option.map_eq_some_iff.1 h2
      have := digitG_in h1
      have := digitG_in h3
      omega
    · cases h
  · cases h
def varT (t : Tm) : Option Int := if t.kind = 2 ∧ t.chk = 0 then varG t.str else none
theorem wrapU {n : Nat} (h : n < 18446744073709551616) : IntKind.wrap .u64 (n : Int) = n := by
  simp [IntKind.wrap, IntKind.bits, IntKind.signed]; omega
theorem shl_one {n : Nat} (h : n < 64) : fromSem (Op.shift .shl .u64 1 .i64 (n : Int)) = some (.int .u64 ((2 ^ n : Nat) : Int)) := by
  have hp : 2 ^ n < 18446744073709551616 := by
    have : 2 ^ n < 2 ^ 64 := Nat.pow_lt_pow_right (by omega) h
    simpa using this
  have : fromSem (Op.shift .shl .u64 1 .i64 (n : Int)) = some (.int .u64 (IntKind.wrap .u64 (1 * 2 ^ (min (n : Int).toNat 64)))) := by
    unfold Op.shift
    rw [if_neg (by omega)]; rfl
  rw [this, Int.toNat_natCast, Nat.min_eq_left (by omega), Int.one_mul]
  have e : ((2 : Int) ^ n) = ((2 ^ n : Nat) : Int) := by simp
  rw [e, wrapU hp]
theorem or_bits {a b : Nat} (ha : a < 18446744073709551616) (hb : b < 18446744073709551616) : fromSem (Op.intBits .or .u64 (a : Int) (b : Int)) = some (.int .u64 ((a ||| b : Nat) : Int)) := by
  have : fromSem (Op.intBits .or .u64 (a : Int) (b : Int)) = some (.int .u64 (IntKind.wrap .u64 (BitVec.ofInt 64 (a : Int) ||| BitVec.ofInt 64 (b : Int)).toNat)) := rfl
  rw [this]
  have ea : (BitVec.ofInt 64 (a : Int)).toNat = a := by simp [BitVec.toNat_ofInt]; omega
  have eb : (BitVec.ofInt 64 (b : Int)).toNat = b := by simp [BitVec.toNat_ofInt]; omega
  have hlt := (BitVec.ofInt 64 (a : Int) ||| BitVec.ofInt 64 (b : Int)).isLt
  rw [wrapU (by simpa using hlt), BitVec.toNat_or, ea, eb]
theorem shr_bit {a n : Nat} (ha : a < 18446744073709551616) (hn : n < 64) : fromSem (Op.shift .shr .u64 (a : Int) .i64 (n : Int)) = some (.int .u64 ((a / 2 ^ n : Nat) : Int)) := by
  have : fromSem (Op.shift .shr .u64 (a : Int) .i64 (n : Int)) = some (.int .u64 (Int.fdiv a (2 ^ (min (n : Int).toNat 64)))) := by
    unfold Op.shift
    rw [if_neg (by omega)]; rfl
  rw [this, Int.toNat_natCast, Nat.min_eq_left (by omega)]
  have e : ((2 : Int) ^ n) = ((2 ^ n : Nat) : Int) := by simp
  rw [e, Int.fdiv_eq_ediv_of_nonneg _ (Int.natCast_nonneg _)]
  rfl
theorem and_one {a : Nat} (ha : a < 18446744073709551616) : fromSem (Op.intBits .and .u64 (a : Int) 1) = some (.int .u64 ((a % 2 : Nat) : Int)) := by
  have : fromSem (Op.intBits .and .u64 (a : Int) 1) = some (.int .u64 (IntKind.wrap .u64 (BitVec.ofInt 64 (a : Int) &&& BitVec.ofInt 64 1).toNat)) := rfl
  rw [this]
  have ea : (BitVec.ofInt 64 (a : Int)).toNat = a := by simp [BitVec.toNat_ofInt]; omega
  have eb : (BitVec.ofInt 64 (1 : Int)).toNat = 1 := by decide
  rw [BitVec.toNat_and, ea, eb, Nat.and_one_is_mod, wrapU (by omega)]
def SetRow (p : Nat → Bool) (r : List AV) : Prop := ∃ (lo hi : Nat) (l : List AV), r = .int .u64 lo :: .int .u64 hi :: l ∧ lo < 18446744073709551616 ∧ hi < 18446744073709551616 ∧ (∀ n, n < 64 → lo.testBit n = p n) ∧ ∀ n, n < 64 → hi.testBit n = p (n + 64)
end Go.Av
namespace Go.Av
theorem store_get {r cs : List AV} {o k : Nat} (hc : cs.length = 4) (h : o + 4 ≤ r.length) (hk : k < o ∨ o + 4 ≤ k) : (List.append (List.append (r.take o) cs) (r.drop (o + 4)))[k]? = r[k]? := by
  show ((r.take o ++ cs) ++ r.drop (o + 4))[k]? = r[k]?
  have hl : (r.take o).length = o := by simp; omega
  rcases hk with hk | hk
  · rw [List.getElem?_append_left (by simp; omega), List.getElem?_append_left (by omega), List.getElem?_take, if_pos hk]
  · rw [List.getElem?_append_right (by simp; omega), List.getElem?_drop]
    congr 1
    simp [hc]
    omega
theorem store_len {r cs : List AV} {o : Nat} (hc : cs.length = 4) (h : o + 4 ≤ r.length) : (List.append (List.append (r.take o) cs) (r.drop (o + 4))).length = r.length := by
  show ((r.take o ++ cs) ++ r.drop (o + 4)).length = r.length
  simp [hc]; omega
theorem store_same {r cs : List AV} {o : Nat} (hc : cs.length = 4) (h : o + 4 ≤ r.length) : ((List.append (List.append (r.take o) cs) (r.drop (o + 4))).drop o).take 4 = cs := by
  show (((r.take o ++ cs) ++ r.drop (o + 4)).drop o).take 4 = cs
  have hl : (r.take o).length = o := by simp; omega
  rw [List.append_assoc, List.drop_append_of_le_length (by omega), List.drop_of_length_le (by omega), List.nil_append, List.take_append_of_le_length (by omega), List.take_of_length_le (by omega)]
theorem store_other {r cs : List AV} {o o' : Nat} (hc : cs.length = 4) (h : o + 4 ≤ r.length) (hd : o' + 4 ≤ o ∨ o + 4 ≤ o') : ((List.append (List.append (r.take o) cs) (r.drop (o + 4))).drop o').take 4 = (r.drop o').take 4 := by
  apply List.ext_getElem?
  intro j
  by_cases hj : j < 4
  · rw [List.getElem?_take, List.getElem?_take, if_pos hj, if_pos hj, List.getElem?_drop, List.getElem?_drop, store_get hc h (by omega)]
  · rw [List.getElem?_take, List.getElem?_take, if_neg hj, if_neg hj]
def mayB : Int → List (Int × Tm) → Bool
  | _, [] => true
  | last, p :: l => decide (last < p.1) && (decide (p.1 ≤ 99) && (decide (p.2.chk = 0) && mayB p.1 l))
def lookB (n : Int) : List (Int × Tm) → Option Tm
  | [] => none
  | p :: l => if p.1 = n then some p.2 else lookB n l
structure BRow (m : List (Int × Tm)) (r : List AV) : Prop where
  len : r.length = 402
  set : SetRow (fun i => (lookB i m).isSome) r
  cells : ∀ i : Nat, i < 100 → ∀ t, lookB i m = some t → (r.drop (2 + i * 4)).take 4 = t.cells
  free : refsLtL 0 r = true
end Go.Av
namespace Go.Av
theorem lookB_snoc (n : Int) (p : Int × Tm) : ∀ m : List (Int × Tm), lookB n (m ++ [p]) = match lookB n m with | some t => some t | none => if p.1 = n then some p.2 else none
  | [] => by simp [lookB]
  | q :: m => by
    rw [List.cons_append, lookB, lookB]
    by_cases h : q.1 = n
    · rw [if_pos h, if_pos h]
    · rw [if_neg h, if_neg h]; exact lookB_snoc n p m
theorem BRow.add {m : List (Int × Tm)} {r r' : List AV} {n : Nat} {t : Tm} (h : BRow m r) (hn : n < 100) (hnew : lookB n m = none)
    (h1 : SetRow (fun i => (fun i : Nat => (lookB i m).isSome) i || decide (i = n)) r') (h2 : r'.drop 2 = r.drop 2) (h3 : r'.length = r.length) (h4 : refsLtL 0 r = true → refsLtL 0 r' = true) :
    BRow (m ++ [((n : Int), t)]) (List.append (List.append (r'.take (2 + n * 4)) t.cells) (r'.drop (2 + n * 4 + 4))) := by
  have hl : r'.length = 402 := by rw [h3, h.len]
  have hc : t.cells.length = 4 := length_cells t
  have ho : 2 + n * 4 + 4 ≤ r'.length := by omega
  have hd : ∀ j, (r'.drop (2 + j)) = r.drop (2 + j) := by
    intro j
    rw [← List.drop_drop, ← List.drop_drop, h2]
  refine ⟨by rw [store_len hc ho, hl], ?_, fun i hi t' ht' => ?_, ?_⟩
  · obtain ⟨lo, hi, l, rfl, a1, a2, a3, a4⟩ := h1
    obtain ⟨o, ho'⟩ : ∃ o, 2 + n * 4 = o + 2 := ⟨n * 4, by omega⟩
    have lk : ∀ i : Nat, (lookB i (m ++ [((n : Int), t)])).isSome = ((lookB i m).isSome || decide (i = n)) := by
      intro i
      rw [lookB_snoc]
      cases hx : lookB (i : Int) m with
      | some x => rfl
      | none =>
        by_cases hi : i = n
        · subst hi; simp
        · have : ¬ ((n : Int) = (i : Int)) := by omega
          simp [this, hi]
    refine ⟨lo, hi, (l.take o ++ t.cells) ++ l.drop (o + 4), ?_, a1, a2, fun i hi => ?_, fun i hi => ?_⟩
    · rw [ho']; rfl
    · exact (a3 i hi).trans (lk i).symm
    · exact (a4 i hi).trans (lk (i + 64)).symm
  · rw [lookB_snoc] at ht'
    by_cases hin : i = n
    · subst hin
      rw [hnew] at ht'
      simp at ht'
      subst ht'
      exact store_same hc ho
    · cases hx : lookB (i : Int) m with
      | none =>
        rw [hx] at ht'
        have : ¬ ((n : Int) = (i : Int)) := by omega
        simp [this] at ht'
      | some x =>
        rw [hx] at ht'
        cases ht'
        rw [store_other hc ho (by omega), hd]
        exact h.cells i hi _ hx
  · show refsLtL 0 ((r'.take (2 + n * 4) ++ t.cells) ++ r'.drop (2 + n * 4 + 4)) = true
    have hf := h4 h.free
    exact refsLtL_app (refsLtL_app (refsLtL_take hf) (cells_free t)) (refsLtL_drop hf)
end Go.Av
end

section
namespace Go.Av
mutual
/-- is a term an expression over some variables? -/
def isG (V : List Int) : Tm → Bool
  | .mk k n s l =>
    if k = 2 then (match varT (.mk k n s l) with | none => true | some x => decide (x ∈ V))
    else if k = 9 then allG V l
    else if k = 7 then
      (match l with
       | [] => false
       | (.mk k1 _ s1 l1) :: rest =>
         if k1 = 7 then decide (rest.length = 0) && allG V l1
         else if k1 = 2 then (if s1 = [99, 111, 110, 115, 116] then decide (rest.length = 1) else decide ((rest.length : Int) ∈ opsG s1) && allG V rest)
         else false)
    else true
def allG (V : List Int) : List Tm → Bool
  | [] => true
  | t :: l => isG V t && allG V l
end
theorem isG_atom {V : List Int} {t : Tm} (h : t.kind = 2) : isG V t = (match varT t with | none => true | some x => decide (x ∈ V)) := by
  obtain ⟨k, n, s, l⟩ := t
  simp only [Tm.kind_mk] at h
  rw [isG.eq_def]; simp only []; rw [if_pos h]
theorem isG_cons {V : List Int} {t : Tm} (h : t.kind = 9) : isG V t = allG V t.subs := by
  obtain ⟨k, n, s, l⟩ := t
  simp only [Tm.kind_mk] at h
  subst h
  rw [isG.eq_def]; simp only []; rw [if_neg (by omega), if_pos trivial]; rfl
theorem isG_nil {V : List Int} {t : Tm} (h : t.kind = 7) (hl : t.subs = []) : isG V t = false := by
  obtain ⟨k, n, s, l⟩ := t
  simp only [Tm.kind_mk, Tm.subs_mk] at h hl
  subst h hl
  rw [isG.eq_def]; simp only []; rw [if_neg (by omega), if_neg (by omega), if_pos trivial]
theorem isG_tup {V : List Int} {t f : Tm} {r : List Tm} (h : t.kind = 7) (hl : t.subs = f :: r) : isG V t =
    if f.kind = 7 then decide (r.length = 0) && allG V f.subs
    else if f.kind = 2 then (if f.str = [99, 111, 110, 115, 116] then decide (r.length = 1) else decide ((r.length : Int) ∈ opsG f.str) && allG V r) else false := by
  obtain ⟨k, n, s, l⟩ := t
  obtain ⟨k1, n1, s1, l1⟩ := f
  simp only [Tm.kind_mk, Tm.subs_mk] at h hl
  subst h hl
  rw [isG.eq_def]; simp only []; rw [if_neg (by omega), if_neg (by omega), if_pos trivial]; rfl
theorem isG_other {V : List Int} {t : Tm} (h2 : t.kind ≠ 2) (h9 : t.kind ≠ 9) (h7 : t.kind ≠ 7) : isG V t = true := by
  obtain ⟨k, n, s, l⟩ := t
  simp only [Tm.kind_mk] at h2 h9 h7
  rw [isG.eq_def]; simp only []; rw [if_neg h2, if_neg h9, if_neg h7]
def checkG (V : List Int) (t : Tm) : Int := if t.chk = 0 then (if isG V t then 0 else 10) else 2
end Go.Av
end

section
namespace Go.Av
theorem chk_zero {t : Tm} : t.chk = 0 ↔ t.parts = true ∧ t.words ≤ 65536 := by
  unfold Tm.chk chkS
  simp only [partsL, wordsL, Bool.and_true, Nat.zero_add, Nat.add_zero]
  cases h : t.parts with
  | false => simp
  | true =>
    simp
theorem wL_parts (l : List Tm) (h : ∀ x ∈ l, x.parts = true → x.w ≤ 65 * x.words) : partsL l = true → wL l ≤ 65 * wordsL l := by
  induction l with
  | nil => intro _; simp
  | cons x l ih =>
    intro hp
    rw [partsL, Bool.and_eq_true] at hp
    have h1 := h x (by simp) hp.1
    have h2 := ih (fun y hy => h y (by simp [hy])) hp.2
    rw [wL_cons, wordsL]; omega
theorem sound_str {k n : Int} {s : List UInt8} {m : Nat} (h : soundB k n s m = true) : s.length ≤ 64 ∧ m ≤ 64 := by
  unfold soundB at h
  repeat' split at h
  all_goals simp at h
  all_goals first | (obtain ⟨_, _, h3, h4⟩ := h; subst h3; simp; omega) | (obtain ⟨_, h3, h4⟩ := h; subst h3; simp; omega) | omega
theorem w_parts (t : Tm) : t.parts = true → t.w ≤ 65 * t.words := by
  induction t using Tm.ind with
  | _ k n s l ih =>
    intro hp
    rw [Tm.parts, Bool.and_eq_true] at hp
    have h1 := sound_str hp.1
    have h2 := wL_parts l ih hp.2
    have h3 := (Tm.mk k n s l).own_le
    rw [Tm.w_mk, Tm.words]; omega
theorem w_chk {t : Tm} (h : t.chk = 0) : t.w ≤ 4259840 := by
  obtain ⟨h1, h2⟩ := chk_zero.1 h
  have := w_parts t h1
  omega
theorem wordsL_mem {x : Tm} {l : List Tm} (h : x ∈ l) : x.words ≤ wordsL l := by
  induction l with
  | nil => cases h
  | cons y l ih =>
    rw [wordsL]
    rcases List.mem_cons.1 h with rfl | h
    · omega
    · have := ih h; omega
theorem partsL_mem {l : List Tm} (h : partsL l = true) : ∀ x ∈ l, x.parts = true := by
  induction l with
  | nil => intro x hx; cases hx
  | cons y l ih =>
    intro x hx
    rw [partsL, Bool.and_eq_true] at h
    rcases List.mem_cons.1 hx with rfl | hx
    · exact h.1
    · exact ih h.2 x hx
theorem chk_sub {t x : Tm} (h : t.chk = 0) (hx : x ∈ t.subs) : x.chk = 0 := by
  obtain ⟨h1, h2⟩ := chk_zero.1 h
  rw [Tm.parts_eq, Bool.and_eq_true] at h1
  have := wordsL_mem hx
  rw [Tm.words_eq] at h2
  exact chk_zero.2 ⟨partsL_mem h1.2 x hx, by omega⟩
theorem cons_chk {t : Tm} (h : t.chk = 0) (hk : t.kind = 9) : ∃ a b, t.subs = [a, b] := by
  obtain ⟨h1, _⟩ := chk_zero.1 h
  rw [Tm.parts_eq, Bool.and_eq_true] at h1
  have h2 : soundB t.kind t.num t.str t.subs.length = true := h1.1
  rw [hk] at h2
  simp [soundB] at h2
  match hl : t.subs, h2.2.2 with
  | [a, b], _ => exact ⟨a, b, rfl⟩
def listT (l : List Tm) : Tm := l.foldr (fun x e => .mk 9 0 [] [x, e]) (.mk 8 0 [] [])
structure EnvOk (e : Env) : Prop where
  obj : e.obj.chk = 0
  may : mayB (-1) e.binds = true
  self : selfG e.self = true
theorem mayB_len : ∀ {l : List (Int × Tm)} {last : Int}, mayB last l = true → (l.length : Int) ≤ max 0 (99 - last)
  | [], _, _ => by simp; omega
  | p :: l, last, h => by
    simp only [mayB, Bool.and_eq_true, decide_eq_true_eq] at h
    have := mayB_len h.2.2.2
    simp only [List.length_cons]
    omega
theorem EnvOk.len {e : Env} (h : EnvOk e) : e.binds.length ≤ 100 := by have := mayB_len h.may; omega
end Go.Av
end

section
namespace Go.Proofs.YteojjjhhmbogfaaGreat
open Go.Av
set_option maxRecDepth 100000
set_option maxHeartbeats 0

noncomputable def Ls78_0 : Den := evC cfg (EV cfg) 154 none 4 (sub (bodyOf Tryz.f154) [1, 0, 0])
noncomputable def As78_0 : Ex × List AV × AH → Option AV := kAft (Cfg.keepOut cfg 154 (firstRid (sub (bodyOf Tryz.f154) [1, 0, 0]))) (kBlock 0 (kFinG cfg (Cfg.lift cfg 154 0) (fun (v : AV) (H : AH) => (fun (r : AV × AH) => kRangeEnd 0 3 (fx 16 [(3, AV.ptr 0 0 0), (4, AV.ptr 1 0 0)]) (kBlock 0 (kSeq (fun (fr : List AV) (H : AH) => kCutTo (Cfg.cut cfg 102 (firstRid (sub (bodyOf Tryz.f102) [1, 1]))) fr H fun (fr : List AV) (H : AH) => kCode cfg (EV cfg) (kfN cfg 6) 102 none 0 (sub (bodyOf Tryz.f102) [1, 1]) fr H (kFinF cfg (Cfg.lift cfg 102 0) (Array.toList (Func.results Tryz.f102)))) (kFinF cfg (Cfg.lift cfg 102 0) (Array.toList (Func.results Tryz.f102))))) (Prod.snd r)) (v, H)) (Array.toList (Func.results (Prod.snd (154, Tryz.f154))))))
noncomputable def Ws78_0 : List AV × AH → Option AV := fun (p : List AV × AH) => kOpt (LOOP 4 (some [0, 1, 3]) [] Ls78_0 p) As78_0
noncomputable abbrev ws78_0 (v3 : Int) (c0_0 : Int) (c0_1 : Int) (c0_2 : List UInt8) (c0_3 : List (List AV)) (c1_0 : Int) (c1_1 : Int) (c1_2 : List UInt8) (c1_3 : List (List AV)) (c2_0 : List (List AV)) : Option (AV) := Ws78_0  (((fx 19 [(0, AV.yld (3 : Nat)), (1, AV.ptr (2 : Nat) (0 : Nat) (0 : Nat)), (3, AV.int IntKind.i64 v3)]) : List AV), ([ABlk.rows false (4 : Nat) [[AV.int IntKind.i64 c0_0, AV.int IntKind.i64 c0_1, AV.str c0_2, AV.sl c0_3]], ABlk.rows false (4 : Nat) [[AV.int IntKind.i64 c1_0, AV.int IntKind.i64 c1_1, AV.str c1_2, AV.sl c1_3]], ABlk.rows false (1 : Nat) [[AV.sl c2_0]], rngB Tryz.f102 (102 : Nat) [(1 : Nat), (0 : Nat), (1 : Nat), (0 : Nat)] (fx 16 [(3, AV.ptr (0 : Nat) (0 : Nat) (0 : Nat))]) none LoopState.ready] : AH))
theorem guardIs_run (kt : Int) (nt : Int) (st : List UInt8) (lt : List (List AV)) (V : List (List AV)) {P : AV → Prop} (h : Gets (bif kt == (2 : Int) then kOpt (EVs (EV cfg) 158 [.agg [.int .i64 kt, .int .i64 nt, .str st, .sl lt]]) fun (v : AV) => kTup v fun (cs : List AV) => kCons cs fun (c : AV) (cs : List AV) 
  => kInt .i64 c fun (n : Int) => kCons cs fun (c : AV) (cs : List AV) => kBool c fun (b : Bool) => kNil cs (bif !b then some (.bool true) else kOpt (EVs (EV cfg) 177 [.sl V, .int .i64 
  n]) fun (v : AV) => kBool v fun (b : Bool) => some (.bool b)) else bif kt == (9 : Int) then kOpt (EVs (EV cfg) 178 [.sl lt, .sl V]) fun (v : AV) => kBool v fun (b : Bool) => some (.bool 
  b) else bif kt == (7 : Int) then bif (↑(List.length lt) : Int) == (0 : Int) then some (.bool false) else bif ltInt (0 : Int) (↑(List.length lt) : Int) then kOpt (List.get?Internal lt 
  0) fun (row : List AV) => bif Nat.beq (List.length row) 4 then bif Nat.ble 4 (List.length row) then kTmC (List.take 4 row) fun (n n_1 : Int) (s : List UInt8) (rows : List (List AV)) 
  => (bif leInt (1 : Int) (↑(List.length lt) : Int) then bif rowsOk 4 lt then bif n == (7 : Int) then bif (↑(List.length (List.take (List.length lt - 1) (List.drop 1 lt))) : Int) == (0 
  : Int) then kOpt (EVs (EV cfg) 178 [.sl rows, .sl V]) fun (v : AV) => kBool v fun (b : Bool) => some (.bool b) else some (.bool false) else bif n != (2 : Int) then some (.bool false) 
  else bif s == [(99 : UInt8), (111 : UInt8), (110 : UInt8), (115 : UInt8), (116 : UInt8)] then some (.bool ((↑(List.length (List.take (List.length lt - 1) (List.drop 1 lt))) : Int) == 
  (1 : Int))) else kOpt (EVf (EV cfg) 179 [.str s]) fun (v : AV) => kSl v fun (rows : List (List AV)) => kOpt (EVs (EV cfg) 177 [.sl rows, .int .i64 (↑(List.length (List.take (List.length 
  lt - 1) (List.drop 1 lt))) : Int)]) fun (v : AV) => kBool v fun (b : Bool) => bif b then kOpt (EVs (EV cfg) 178 [.sl (List.take (List.length lt - 1) (List.drop 1 lt)), .sl V]) fun (v 
  : AV) => kBool v fun (b : Bool) => some (.bool b) else some (.bool false) else none else none) else none else none else none else some (.bool true)) P) : Gets (EVs (EV cfg) 162 ([AV.agg [AV.int IntKind.i64 kt, AV.int IntKind.i64 nt, AV.str st, AV.sl lt], AV.sl V] : List AV)) P :=
  Gets.ev (fun _ h => funS rfl rfl Tryz.func162 rfl h) (Gets.eq (by kernel_rfl) h)
theorem guardAll_run (L : List (List AV)) (V : List (List AV)) {P : AV → Prop} (h : Gets (kOpt (EVs (EV cfg) 55 [.sl L, AV.fn (Fn.func 186) [] [AV.cptr [.sl V] 0]]) fun (v : AV) => kBool v fun (b : Bool) => some (.bool !b)) P) : Gets (EVs (EV cfg) 178 ([AV.sl L, AV.sl V] : List AV)) P :=
  Gets.ev (fun _ h => funS rfl rfl Tryz.func178 rfl h) (Gets.eq (by kernel_rfl) h)
theorem guardCheck_run (kt : Int) (nt : Int) (st : List UInt8) (lt : List (List AV)) (V : List (List AV)) {P : AV → Prop} (h : Gets (kOpt (EVs (EV cfg) 93 [.agg [.int .i64 kt, .int .i64 nt, .str st, .sl lt]]) fun (v : AV) => kInt .i64 v fun (n : Int) => bif n != (0 : Int) then some (.int .i64 (2 : Int)) else kOpt 
  (EVs (EV cfg) 162 [.agg [.int .i64 kt, .int .i64 nt, .str st, .sl lt], .sl V]) fun (v : AV) => kBool v fun (b : Bool) => bif !b then some (.int .i64 (10 : Int)) else some (.int .i64 
  (0 : Int))) P) : Gets (EVs (EV cfg) 138 ([AV.agg [AV.int IntKind.i64 kt, AV.int IntKind.i64 nt, AV.str st, AV.sl lt], AV.sl V] : List AV)) P :=
  Gets.ev (fun _ h => funS rfl rfl Tryz.func138 rfl h) (Gets.eq (by kernel_rfl) h)
theorem makeList_run (L : List (List AV)) (kt : Int) (nt : Int) (st : List UInt8) (lt : List (List AV)) {P : AV → Prop} (h : Gets (ws78_0 (IntKind.wrap .i64 ((↑(List.length L) : Int) - (1 : Int))) kt nt st lt (0 : Int) (0 : Int) [] [] L) P) : Gets (EVf (EV cfg) 102 ([AV.sl L, AV.agg [AV.int IntKind.i64 kt, AV.int IntKind.i64 nt, AV.str st, AV.sl lt]] : List AV)) P :=
  Gets.ev (fun _ h => funF rfl rfl Tryz.func102 rfl h) (Gets.eq (by kernel_rfl) h)
theorem ws78_0_step (v3 : Int) (c0_0 : Int) (c0_1 : Int) (c0_2 : List UInt8) (c0_3 : List (List AV)) (c1_0 : Int) (c1_1 : Int) (c1_2 : List UInt8) (c1_3 : List (List AV)) (c2_0 : List (List AV)) {P : AV → Prop} (h : Gets (bif decide (v3 ≥ (0 : Int)) then bif leInt (0 : Int) v3 && ltInt v3 (↑(List.length c2_0) : Int) then kOpt (List.get?Internal c2_0 (Int.toNat v3)) fun (row : List AV) => bif Nat.beq 
  (List.length row) 4 then bif Nat.ble 4 (List.length row) then kTmC (List.take 4 row) fun (n n_1 : Int) (s : List UInt8) (rows : List (List AV)) => (ws78_0 (IntKind.wrap .i64 (v3 - (1 
  : Int))) (9 : Int) (0 : Int) [] [[.int .i64 n, .int .i64 n_1, .str s, .sl rows], [.int .i64 c0_0, .int .i64 c0_1, .str c0_2, .sl c0_3]] c1_0 c1_1 c1_2 c1_3 c2_0) else none else none 
  else none else some (.agg [.int .i64 c0_0, .int .i64 c0_1, .str c0_2, .sl c0_3])) P) : Gets (ws78_0 v3 c0_0 c0_1 c0_2 c0_3 c1_0 c1_1 c1_2 c1_3 c2_0) P :=
  Gets.ev (fun _ h => loop_step (cfg := cfg) (f := 154) (rd := none) (bs := 4) h) (Gets.eq (by kernel_rfl) h)
end Go.Proofs.YteojjjhhmbogfaaGreat
end

section
namespace Go.Proofs.YteojjjhhmbogfaaGreat
open Go.Av
set_option maxRecDepth 100000
set_option maxHeartbeats 0

noncomputable def Lt86_0 : Den := evC cfg (EV cfg) 31 none 0 (sub (bodyOf Tryz.f31) [1, 0, 1, 0, 0])
noncomputable def At86_0 : Ex × List AV × AH → Option AV := kAft (Cfg.keepOut cfg 31 2) (kRun cfg (EV cfg) (kfN cfg 6) 31 none 0 (kFinS cfg (Cfg.lift cfg 31 0) Tryz.f31.results.toList) ([.block 0, .seq (sub (bodyOf Tryz.f31) [1, 1])]))
noncomputable def Wt86_0 : List AV × AH → Option AV := fun p => kOpt (LOOP 0 (some [0, 1, 7, 8]) ([]) Lt86_0 p) At86_0
noncomputable abbrev wt86_0 (L : List (List AV)) (V : List (List AV)) (v8 : Int) : Option (AV) := Wt86_0  (((fx 19 [(0, AV.sl L), (1, AV.fn (Fn.func 186) [] [AV.cptr [AV.sl V] (0 : Nat)]), (7, AV.int IntKind.i64 (↑(List.length L) : Int)), (8, AV.int IntKind.i64 v8)]) : List AV), ([] : AH))
theorem contFunc_run (L : List (List AV)) (V : List (List AV)) {P : AV → Prop} (h : Gets (kOpt (EVs (EV cfg) 31 [.sl L, AV.fn (Fn.func 186) [] [AV.cptr [.sl V] 0]]) fun (v : AV) => kInt .i64 v fun (n : Int) => some (.bool (decide (n ≥ (0 : Int))))) P) : Gets (EVs (EV cfg) 55 ([AV.sl L, AV.fn (Fn.func 186) [] [AV.cptr [AV.sl V] (0 : Nat)]] : List AV)) P :=
  Gets.ev (fun _ h => funS rfl rfl Tryz.func55 rfl h) (Gets.eq (by kernel_rfl) h)
theorem indFunc_run (L : List (List AV)) (V : List (List AV)) {P : AV → Prop} (h : Gets (wt86_0 L V (0 : Int)) P) : Gets (EVs (EV cfg) 31 ([AV.sl L, AV.fn (Fn.func 186) [] [AV.cptr [AV.sl V] (0 : Nat)]] : List AV)) P :=
  Gets.ev (fun _ h => funS rfl rfl Tryz.func31 rfl h) (Gets.eq (by kernel_rfl) h)
theorem allIn_run (ke : Int) (ne : Int) (se : List UInt8) (le : List (List AV)) (V : List (List AV)) {P : AV → Prop} (h : Gets (kOpt (EVs (EV cfg) 162 [.agg [.int .i64 ke, .int .i64 ne, .str se, .sl le], .sl V]) fun (v : AV) => kBool v fun (b : Bool) => some (.bool !b)) P) : Gets (EVs (EV cfg) 186 ([AV.agg [AV.int IntKind.i64 ke, AV.int IntKind.i64 ne, AV.str se, AV.sl le], AV.cptr [AV.sl V] (0 : Nat)] : List AV)) P :=
  Gets.ev (fun _ h => funS rfl rfl Tryz.func186 rfl h) (Gets.eq (by kernel_rfl) h)
theorem wt86_0_step (L : List (List AV)) (V : List (List AV)) (v8 : Int) {P : AV → Prop} (h : Gets (bif decide (v8 < (↑(List.length L) : Int)) then bif leInt (0 : Int) v8 && ltInt v8 (↑(List.length L) : Int) then kOpt (List.get?Internal L (Int.toNat v8)) fun (row : List AV) => bif 
  Nat.beq (List.length row) 4 then bif Nat.ble 4 (List.length row) then kTmC (List.take 4 row) fun (n n_1 : Int) (s : List UInt8) (rows : List (List AV)) => (kOpt (EVs (EV cfg) 186 [.agg 
  [.int .i64 n, .int .i64 n_1, .str s, .sl rows], AV.cptr [.sl V] 0]) fun (v : AV) => kBool v fun (b : Bool) => bif b then some (.int .i64 v8) else wt86_0 L V (IntKind.wrap .i64 (v8 + 
  (1 : Int)))) else none else none else none else some (.int .i64 (-1 : Int))) P) : Gets (wt86_0 L V v8) P :=
  Gets.ev (fun _ h => loop_step (cfg := cfg) (f := 31) (rd := none) (bs := 0) h) (Gets.eq (by kernel_rfl) h)
end Go.Proofs.YteojjjhhmbogfaaGreat
end

section
namespace Go.Proofs.YteojjjhhmbogfaaGreat
open Go.Av
set_option maxRecDepth 100000
set_option maxHeartbeats 0

noncomputable def Lp71_0 : Den := evC cfg (EV cfg) 76 none 0 (sub (bodyOf Tryz.f76) [1, 1, 1, 0, 1, 0, 0])
noncomputable def Ap71_0 : Ex × List AV × AH → Option AV := kAft (Cfg.keepOut cfg 76 5) (kRun cfg (EV cfg) (kfN cfg 6) 76 none 0 (kFinS cfg (Cfg.lift cfg 76 0) Tryz.f76.results.toList) ([.block 0, .seq (sub (bodyOf Tryz.f76) [1, 1, 1, 1])]))
noncomputable def Wp71_0 : List AV × AH → Option AV := fun p => kOpt (LOOP 0 (some [4, 32, 33, 34]) ([]) Lp71_0 p) Ap71_0
noncomputable abbrev wp71_0 (s : List UInt8) (v4 : Int) (v34 : Int) (h0 : List (List AV)) : Option (AV) := Wp71_0  (((fx 52 [(4, AV.int IntKind.i64 v4), (32, AV.ms (0 : Nat) (0 : Nat) (List.length (List.take (List.length s - (1 : Nat)) (List.drop (1 : Nat) s)))), (33, AV.int IntKind.i64 (↑(List.length (List.take (List.length s - (1 : Nat)) (List.drop (1 : Nat) s))) : Int)), (34, AV.int IntKind.i64 v34)]) : List AV), ([ABlk.rows true (1 : Nat) h0] : AH))
theorem patNumber_run (s : List UInt8) {P : AV → Prop} (h : Gets (bif decide ((↑(List.length s) : Int) < (2 : Int)) then some (AV.tup [.int .i64 (0 : Int), .bool false]) else bif decide ((↑(List.length s) : Int) > (3 : Int)) then some (AV.tup [.int 
  .i64 (0 : Int), .bool false]) else kOpt (List.get?Internal s 0) fun (b : UInt8) => bif (↑(UInt8.toNat b) : Int) != (36 : Int) then some (AV.tup [.int .i64 (0 : Int), .bool false]) else 
  bif (↑(List.length s) : Int) == (3 : Int) then kOpt (List.get?Internal s 1) fun (b : UInt8) => bif (↑(UInt8.toNat b) : Int) == (48 : Int) then some (AV.tup [.int .i64 (0 : Int), .bool 
  false]) else bif leInt (1 : Int) (↑(List.length s) : Int) then wp71_0 s (0 : Int) (0 : Int) (List.map (fun (b : UInt8) => [.int .u8 (↑(UInt8.toNat b) : Int)]) (List.take (List.length 
  s - 1) (List.drop 1 s))) else none else bif leInt (1 : Int) (↑(List.length s) : Int) then wp71_0 s (0 : Int) (0 : Int) (List.map (fun (b : UInt8) => [.int .u8 (↑(UInt8.toNat b) : Int)]) 
  (List.take (List.length s - 1) (List.drop 1 s))) else none) P) : Gets (EVs (EV cfg) 76 ([AV.str s] : List AV)) P :=
  Gets.ev (fun _ h => funS rfl rfl Tryz.func76 rfl h) (Gets.eq (by kernel_rfl) h)
theorem patMay_run (kt : Int) (nt : Int) (st : List UInt8) (lt : List (List AV)) {P : AV → Prop} (h : Gets (kOpt (EVs (EV cfg) 93 [.agg [.int .i64 kt, .int .i64 nt, .str st, .sl lt]]) fun (v : AV) => kInt .i64 v fun (n : Int) => some (.bool (n == (0 : Int)))) P) : Gets (EVs (EV cfg) 74 ([AV.agg [AV.int IntKind.i64 kt, AV.int IntKind.i64 nt, AV.str st, AV.sl lt]] : List AV)) P :=
  Gets.ev (fun _ h => funS rfl rfl Tryz.func74 rfl h) (Gets.eq (by kernel_rfl) h)
theorem patVar_run (kt : Int) (nt : Int) (st : List UInt8) (lt : List (List AV)) {P : AV → Prop} (h : Gets (bif kt != (2 : Int) then some (AV.tup [.int .i64 (0 : Int), .bool false]) else kOpt (EVs (EV cfg) 74 [.agg [.int .i64 kt, .int .i64 nt, .str st, .sl lt]]) fun (v : AV) => kBool v fun 
  (b : Bool) => bif !b then some (AV.tup [.int .i64 (0 : Int), .bool false]) else kOpt (EVs (EV cfg) 76 [.str st]) fun (v : AV) => kTup v fun (cs : List AV) => kCons cs fun (c : AV) (cs 
  : List AV) => kInt .i64 c fun (n : Int) => kCons cs fun (c : AV) (cs : List AV) => kBool c fun (b : Bool) => kNil cs (some (AV.tup [.int .i64 n, .bool b]))) P) : Gets (EVs (EV cfg) 158 ([AV.agg [AV.int IntKind.i64 kt, AV.int IntKind.i64 nt, AV.str st, AV.sl lt]] : List AV)) P :=
  Gets.ev (fun _ h => funS rfl rfl Tryz.func158 rfl h) (Gets.eq (by kernel_rfl) h)
theorem setHas_run (n : Int) (r : List AV) {P : AV → Prop} (h : Gets (bif decide (n < (64 : Int)) then kOpt (List.get?Internal r 0) fun (v : AV) => kInt .u64 v fun (n_1 : Int) => kOpt (fromSem (Op.shift BinOp.shr .u64 n_1 .i64 n)) fun (v : AV) => kInt 
  .u64 v fun (n : Int) => kOpt (fromSem (Op.intBits BinOp.and .u64 n (1 : Int))) fun (v : AV) => kInt .u64 v fun (n : Int) => some (.bool (n == (1 : Int))) else kOpt (List.get?Internal 
  r 1) fun (v : AV) => kInt .u64 v fun (n_1 : Int) => kOpt (fromSem (Op.shift BinOp.shr .u64 n_1 .i64 (IntKind.wrap .i64 (n - (64 : Int))))) fun (v : AV) => kInt .u64 v fun (n : Int) 
  => kOpt (fromSem (Op.intBits BinOp.and .u64 n (1 : Int))) fun (v : AV) => kInt .u64 v fun (n : Int) => some (.bool (n == (1 : Int)))) P) : Gets (EVs (EV cfg) 161 ([AV.cptr r (0 : Nat), AV.int IntKind.i64 n] : List AV)) P :=
  Gets.ev (fun _ h => funS rfl rfl Tryz.func161 rfl h) (Gets.eq (by kernel_rfl) h)
theorem wp71_0_step (s : List UInt8) (v4 : Int) (v34 : Int) (h0 : List (List AV)) {P : AV → Prop} (h : Gets (bif decide (v34 < (↑(List.length (List.take (List.length s - 1) (List.drop 1 s))) : Int)) then bif leInt (0 : Int) v34 && ltInt v34 (↑(List.length (List.take (List.length s - 1) (List.drop 
  1 s))) : Int) then kOpt (List.get?Internal h0 (0 + Int.toNat v34)) fun (row : List AV) => kOpt (List.get?Internal row 0) fun (v : AV) => kInt .u8 v fun (n : Int) => bif decide (n < 
  (48 : Int)) then some (AV.tup [.int .i64 (0 : Int), .bool false]) else bif decide (n > (57 : Int)) then some (AV.tup [.int .i64 (0 : Int), .bool false]) else wp71_0 s (IntKind.wrap 
  .i64 (IntKind.wrap .i64 (v4 * (10 : Int)) + IntKind.wrap .i64 (IntKind.wrap .u8 (n - (48 : Int))))) (IntKind.wrap .i64 (v34 + (1 : Int))) h0 else none else some (AV.tup [.int .i64 v4, 
  .bool true])) P) : Gets (wp71_0 s v4 v34 h0) P :=
  Gets.ev (fun _ h => loop_step (cfg := cfg) (f := 76) (rd := none) (bs := 0) h) (Gets.eq (by kernel_rfl) h)
end Go.Proofs.YteojjjhhmbogfaaGreat
end

section
namespace Go.Proofs.YteojjjhhmbogfaaGreat
open Go.Av
set_option maxRecDepth 100000
set_option maxHeartbeats 0

noncomputable def Lq33_0 : Den := evC cfg (EV cfg) 152 none 5 (sub (bodyOf Tryz.f152) [1, 0, 0])
noncomputable def Aq33_0 : Ex × List AV × AH → Option AV := kAft (Cfg.keepOut cfg 152 (firstRid (sub (bodyOf Tryz.f152) [1, 0, 0]))) (kBlock 0 (kFinG cfg (Cfg.lift cfg 152 0) (fun (v : AV) (H : AH) => (fun (r : AV × AH) => kRangeEnd 0 4 (fx 17 [(2, AV.ptr 1 0 0), (3, AV.ptr 2 0 0)]) (kBlock 0 (kSeq (fun (fr : List AV) (H : AH) => kCutTo (Cfg.cut cfg 93 (firstRid (sub (bodyOf Tryz.f93) [1, 1, 1]))) fr H fun (fr : List AV) (H : AH) => kCode cfg (EV cfg) (kfN cfg 6) 93 none 0 (sub (bodyOf Tryz.f93) [1, 1, 1]) fr H (kFinS cfg (Cfg.lift cfg 93 0) (Array.toList (Func.results Tryz.f93)))) (kFinS cfg (Cfg.lift cfg 93 0) (Array.toList (Func.results Tryz.f93))))) (Prod.snd r)) (v, H)) (Array.toList (Func.results (Prod.snd (152, Tryz.f152))))))
noncomputable def Wq33_0 : List AV × AH → Option AV := fun (p : List AV × AH) => kOpt (LOOP 5 (some [0, 3]) [(3, 4)] Lq33_0 p) Aq33_0
noncomputable def Lq33_1 : Den := evC cfg (EV cfg) 154 none 10 (sub (bodyOf Tryz.f154) [1, 0, 0])
noncomputable def Aq33_1 : Ex × List AV × AH → Option AV := kAft (Cfg.keepOut cfg 154 (firstRid (sub (bodyOf Tryz.f154) [1, 0, 0]))) (kBlock 0 (kFinG cfg (Cfg.lift cfg 154 0) (fun (v : AV) (H : AH) => (fun (r : AV × AH) => kRangeEnd 5 9 (fx 38 [(0, AV.yld 4), (3, AV.ptr 5 0 0)]) (kBlock 2 (kBlock 1 (kLp 5 (some [0, 3]) [(3, 4)] Lq33_0 Aq33_0))) (Prod.snd r)) (v, H)) (Array.toList (Func.results (Prod.snd (154, Tryz.f154))))))
noncomputable def Wq33_1 : List AV × AH → Option AV := fun (p : List AV × AH) => kOpt (LOOP 10 (some [0, 1, 3]) [] Lq33_1 p) Aq33_1
noncomputable abbrev wq33_0 (c0_0 : Int) (c0_1 : Int) (c0_2 : List UInt8) (c0_3 : List (List AV)) (c1_0 : Int) (c2_0 : Int) (c3_0 : Int) (c3_1 : Int) (c3_2 : List UInt8) (c3_3 : List (List AV)) (nc5_0 : Nat) (h6 : List (List AV)) : Option (AV) := Wq33_0  (((fx 38 [(0, AV.yld (4 : Nat)), (3, AV.ptr (5 : Nat) (0 : Nat) (0 : Nat))]) : List AV), ([ABlk.rows false (4 : Nat) [[AV.int IntKind.i64 c0_0, AV.int IntKind.i64 c0_1, AV.str c0_2, AV.sl c0_3]], ABlk.rows false (1 : Nat) [[AV.int IntKind.i64 c1_0]], ABlk.rows false (1 : Nat) [[AV.int IntKind.i64 c2_0]], ABlk.rows false (4 : Nat) [[AV.int IntKind.i64 c3_0, AV.int IntKind.i64 c3_1, AV.str c3_2, AV.sl c3_3]], rngB Tryz.f93 (93 : Nat) [(1 : Nat), (1 : Nat), (0 : Nat), (1 : Nat), (0 : Nat)] (fx 17 [(2, AV.ptr (1 : Nat) (0 : Nat) (0 : Nat)), (3, AV.ptr (2 : Nat) (0 : Nat) (0 : Nat))]) none LoopState.ready, ABlk.rows false (1 : Nat) [[AV.ms (6 : Nat) (0 : Nat) nc5_0]], ABlk.rows true (4 : Nat) h6] : AH))
noncomputable abbrev wq33_1 (v3 : Int) (c0_0 : Int) (c0_1 : Int) (c0_2 : List UInt8) (c0_3 : List (List AV)) (c1_0 : Int) (c2_0 : Int) (c3_0 : Int) (c3_1 : Int) (c3_2 : List UInt8) (c3_3 : List (List AV)) (nc5_0 : Nat) (h6 : List (List AV)) (c7_0 : Int) (c7_1 : Int) (c7_2 : List UInt8) (c7_3 : List (List AV)) (c8_0 : List (List AV)) : Option (AV) := Wq33_1  (((fx 19 [(0, AV.yld (9 : Nat)), (1, AV.ptr (8 : Nat) (0 : Nat) (0 : Nat)), (3, AV.int IntKind.i64 v3)]) : List AV), ([ABlk.rows false (4 : Nat) [[AV.int IntKind.i64 c0_0, AV.int IntKind.i64 c0_1, AV.str c0_2, AV.sl c0_3]], ABlk.rows false (1 : Nat) [[AV.int IntKind.i64 c1_0]], ABlk.rows false (1 : Nat) [[AV.int IntKind.i64 c2_0]], ABlk.rows false (4 : Nat) [[AV.int IntKind.i64 c3_0, AV.int IntKind.i64 c3_1, AV.str c3_2, AV.sl c3_3]], rngB Tryz.f93 (93 : Nat) [(1 : Nat), (1 : Nat), (0 : Nat), (1 : Nat), (0 : Nat)] (fx 17 [(2, AV.ptr (1 : Nat) (0 : Nat) (0 : Nat)), (3, AV.ptr (2 : Nat) (0 : Nat) (0 : Nat))]) none LoopState.ready, ABlk.rows false (1 : Nat) [[AV.ms (6 : Nat) (0 : Nat) nc5_0]], ABlk.rows true (4 : Nat) h6, ABlk.rows false (4 : Nat) [[AV.int IntKind.i64 c7_0, AV.int IntKind.i64 c7_1, AV.str c7_2, AV.sl c7_3]], ABlk.rows false (1 : Nat) [[AV.sl c8_0]], rngB Tryz.f152 (152 : Nat) [(1 : Nat), (0 : Nat), (0 : Nat), (1 : Nat), (0 : Nat), (1 : Nat), (1 : Nat), (1 : Nat), (1 : Nat), (0 : Nat)] (fx 38 [(3, AV.ptr (5 : Nat) (0 : Nat) (0 : Nat))]) none LoopState.ready] : AH))
noncomputable abbrev wq33_1a (v3 : Int) (c0_0 : Int) (c0_1 : Int) (c0_2 : List UInt8) (c0_3 : List (List AV)) (c1_0 : Int) (c2_0 : Int) (c3_0 : Int) (c3_1 : Int) (c3_2 : List UInt8) (c3_3 : List (List AV)) (nc5_0 : Nat) (c7_0 : Int) (c7_1 : Int) (c7_2 : List UInt8) (c7_3 : List (List AV)) (c8_0 : List (List AV)) (h10 : List (List AV)) : Option (AV) := Wq33_1  (((fx 19 [(0, AV.yld (9 : Nat)), (1, AV.ptr (8 : Nat) (0 : Nat) (0 : Nat)), (3, AV.int IntKind.i64 v3)]) : List AV), ([ABlk.rows false (4 : Nat) [[AV.int IntKind.i64 c0_0, AV.int IntKind.i64 c0_1, AV.str c0_2, AV.sl c0_3]], ABlk.rows false (1 : Nat) [[AV.int IntKind.i64 c1_0]], ABlk.rows false (1 : Nat) [[AV.int IntKind.i64 c2_0]], ABlk.rows false (4 : Nat) [[AV.int IntKind.i64 c3_0, AV.int IntKind.i64 c3_1, AV.str c3_2, AV.sl c3_3]], rngB Tryz.f93 (93 : Nat) [(1 : Nat), (1 : Nat), (0 : Nat), (1 : Nat), (0 : Nat)] (fx 17 [(2, AV.ptr (1 : Nat) (0 : Nat) (0 : Nat)), (3, AV.ptr (2 : Nat) (0 : Nat) (0 : Nat))]) none LoopState.ready, ABlk.rows false (1 : Nat) [[AV.ms (10 : Nat) (0 : Nat) nc5_0]], ABlk.dead, ABlk.rows false (4 : Nat) [[AV.int IntKind.i64 c7_0, AV.int IntKind.i64 c7_1, AV.str c7_2, AV.sl c7_3]], ABlk.rows false (1 : Nat) [[AV.sl c8_0]], rngB Tryz.f152 (152 : Nat) [(1 : Nat), (0 : Nat), (0 : Nat), (1 : Nat), (0 : Nat), (1 : Nat), (1 : Nat), (1 : Nat), (1 : Nat), (0 : Nat)] (fx 38 [(3, AV.ptr (5 : Nat) (0 : Nat) (0 : Nat))]) none LoopState.ready, ABlk.rows true (4 : Nat) h10] : AH))
theorem term_sound_run (kt : Int) (nt : Int) (st : List UInt8) (lt : List (List AV)) {P : AV → Prop} (h : Gets (bif kt == (1 : Int) then bif decide (nt ≥ (-576460752303423488 : Int)) then bif decide (nt ≤ (576460752303423487 : Int)) then bif st == [] then some (.bool ((↑(List.length lt) : Int) 
  == (0 : Int))) else some (.bool false) else some (.bool false) else some (.bool false) else bif kt == (2 : Int) then bif nt == (0 : Int) then bif decide ((↑(List.length st) : Int) ≤ 
  (64 : Int)) then some (.bool ((↑(List.length lt) : Int) == (0 : Int))) else some (.bool false) else some (.bool false) else bif kt == (3 : Int) then bif decide (nt ≥ (0 : Int)) then 
  bif decide (nt ≤ (1073741824 : Int)) then bif st == [] then bif (↑(List.length lt) : Int) == (0 : Int) then some (.bool true) else bif kt == (5 : Int) then some (.bool (decide ((↑(List.length 
  lt) : Int) ≤ (64 : Int)))) else some (.bool false) else some (.bool false) else some (.bool false) else some (.bool false) else bif kt == (4 : Int) then bif decide (nt ≥ (0 : Int)) 
  then bif decide (nt ≤ (1073741824 : Int)) then bif st == [] then bif (↑(List.length lt) : Int) == (0 : Int) then some (.bool true) else bif kt == (5 : Int) then some (.bool (decide 
  ((↑(List.length lt) : Int) ≤ (64 : Int)))) else some (.bool false) else some (.bool false) else some (.bool false) else some (.bool false) else bif kt == (6 : Int) then bif decide (nt 
  ≥ (0 : Int)) then bif decide (nt ≤ (1073741824 : Int)) then bif st == [] then bif (↑(List.length lt) : Int) == (0 : Int) then some (.bool true) else bif kt == (5 : Int) then some (.bool 
  (decide ((↑(List.length lt) : Int) ≤ (64 : Int)))) else some (.bool false) else some (.bool false) else some (.bool false) else some (.bool false) else bif kt == (5 : Int) then bif 
  decide (nt ≥ (0 : Int)) then bif decide (nt ≤ (1073741824 : Int)) then bif st == [] then bif (↑(List.length lt) : Int) == (0 : Int) then some (.bool true) else bif kt == (5 : Int) then 
  some (.bool (decide ((↑(List.length lt) : Int) ≤ (64 : Int)))) else some (.bool false) else some (.bool false) else some (.bool false) else some (.bool false) else bif kt == (7 : Int) 
  then bif nt == (0 : Int) then bif st == [] then some (.bool (decide ((↑(List.length lt) : Int) ≤ (64 : Int)))) else some (.bool false) else some (.bool false) else bif kt == (8 : Int) 
  then bif nt == (0 : Int) then bif st == [] then some (.bool ((↑(List.length lt) : Int) == (0 : Int))) else some (.bool false) else some (.bool false) else bif kt == (9 : Int) then bif 
  nt == (0 : Int) then bif st == [] then some (.bool ((↑(List.length lt) : Int) == (2 : Int))) else some (.bool false) else some (.bool false) else some (.bool false)) P) : Gets (EVs (EV cfg) 126 ([AV.agg [AV.int IntKind.i64 kt, AV.int IntKind.i64 nt, AV.str st, AV.sl lt]] : List AV)) P :=
  Gets.ev (fun _ h => funS rfl rfl Tryz.func126 rfl h) (Gets.eq (by kernel_rfl) h)
theorem term_own_run (kt : Int) (nt : Int) (st : List UInt8) (lt : List (List AV)) {P : AV → Prop} (h : Gets (bif kt == (7 : Int) then some (.int .i64 (2 : Int)) else bif kt == (5 : Int) then some (.int .i64 (2 : Int)) else some (.int .i64 (1 : Int))) P) : Gets (EVs (EV cfg) 127 ([AV.agg [AV.int IntKind.i64 kt, AV.int IntKind.i64 nt, AV.str st, AV.sl lt]] : List AV)) P :=
  Gets.ev (fun _ h => funS rfl rfl Tryz.func127 rfl h) (Gets.eq (by kernel_rfl) h)
theorem term_Check_run (kt : Int) (nt : Int) (st : List UInt8) (lt : List (List AV)) {P : AV → Prop} (h : Gets (wq33_0 kt nt st lt (0 : Int) (0 : Int) kt nt st lt 1 [[.int .i64 kt, .int .i64 nt, .str st, .sl lt]]) P) : Gets (EVs (EV cfg) 93 ([AV.agg [AV.int IntKind.i64 kt, AV.int IntKind.i64 nt, AV.str st, AV.sl lt]] : List AV)) P :=
  Gets.ev (fun _ h => funS rfl rfl Tryz.func93 rfl h) (Gets.eq (by kernel_rfl) h)
theorem wq33_0_step (c0_0 : Int) (c0_1 : Int) (c0_2 : List UInt8) (c0_3 : List (List AV)) (c1_0 : Int) (c2_0 : Int) (c3_0 : Int) (c3_1 : Int) (c3_2 : List UInt8) (c3_3 : List (List AV)) (nc5_0 : Nat) (h6 : List (List AV)) {P : AV → Prop} (h : Gets (bif decide ((↑nc5_0 : Int) > (0 : Int)) then bif leInt (0 : Int) (IntKind.wrap .i64 ((↑nc5_0 : Int) - (1 : Int))) && ltInt (IntKind.wrap .i64 ((↑nc5_0 : Int) - (1 : Int))) (↑nc5_0 : 
  Int) then kOpt (List.get?Internal h6 (0 + Int.toNat (IntKind.wrap .i64 ((↑nc5_0 : Int) - (1 : Int))))) fun (row : List AV) => bif Nat.ble 4 (List.length row) then kTmC (List.take 4 
  row) fun (n n_1 : Int) (s : List UInt8) (rows : List (List AV)) => (bif leInt (0 : Int) (IntKind.wrap .i64 ((↑nc5_0 : Int) - (1 : Int))) && leInt (IntKind.wrap .i64 ((↑nc5_0 : Int) 
  - (1 : Int))) (↑nc5_0 : Int) then kOpt (EVs (EV cfg) 126 [.agg [.int .i64 n, .int .i64 n_1, .str s, .sl rows]]) fun (v : AV) => kBool v fun (b : Bool) => bif !b then some (.int .i64 
  (2 : Int)) else kOpt (EVs (EV cfg) 127 [.agg [.int .i64 n, .int .i64 n_1, .str s, .sl rows]]) fun (v : AV) => kInt .i64 v fun (n_2 : Int) => wq33_1 (IntKind.wrap .i64 ((↑(List.length 
  rows) : Int) - (1 : Int))) c0_0 c0_1 c0_2 c0_3 c1_0 (IntKind.wrap .i64 (c2_0 + n_2)) c3_0 c3_1 c3_2 c3_3 (Int.toNat (IntKind.wrap .i64 ((↑nc5_0 : Int) - (1 : Int))) - 0) h6 n n_1 s 
  rows rows else none) else none else none else bif decide (c2_0 > (65536 : Int)) then some (.int .i64 (3 : Int)) else some (.int .i64 (0 : Int))) P) : Gets (wq33_0 c0_0 c0_1 c0_2 c0_3 c1_0 c2_0 c3_0 c3_1 c3_2 c3_3 nc5_0 h6) P :=
  Gets.ev (fun _ h => loop_step (cfg := cfg) (f := 152) (rd := none) (bs := 5) h) (Gets.eq (by kernel_rfl) h)
theorem wq33_1_step (v3 : Int) (c0_0 : Int) (c0_1 : Int) (c0_2 : List UInt8) (c0_3 : List (List AV)) (c1_0 : Int) (c2_0 : Int) (c3_0 : Int) (c3_1 : Int) (c3_2 : List UInt8) (c3_3 : List (List AV)) (nc5_0 : Nat) (h6 : List (List AV)) (c7_0 : Int) (c7_1 : Int) (c7_2 : List UInt8) (c7_3 : List (List AV)) (c8_0 : List (List AV)) {P : AV → Prop} (h : Gets (bif decide (v3 ≥ (0 : Int)) then bif leInt (0 : Int) v3 && ltInt v3 (↑(List.length c8_0) : Int) then kOpt (List.get?Internal c8_0 (Int.toNat v3)) fun (row : List AV) => bif Nat.beq 
  (List.length row) 4 then bif Nat.ble 4 (List.length row) then kTmC (List.take 4 row) fun (n n_1 : Int) (s : List UInt8) (rows : List (List AV)) => (bif Nat.ble (0 + nc5_0) (List.length 
  h6) && fitsIn (nc5_0 + 1) 56 then bif leInt (0 : Int) (↑nc5_0 : Int) && ltInt (↑nc5_0 : Int) (↑(nc5_0 + 1) : Int) then kOpt (List.get?Internal (List.append (List.take nc5_0 h6) [[.int 
  .i64 (0 : Int), .int .i64 (0 : Int), .str [], .nilS]]) (0 + Int.toNat (↑nc5_0 : Int))) fun (row : List AV) => bif Nat.ble 4 (List.length row) then wq33_1a (IntKind.wrap .i64 (v3 - (1 
  : Int))) c0_0 c0_1 c0_2 c0_3 c1_0 c2_0 c3_0 c3_1 c3_2 c3_3 (nc5_0 + 1) c7_0 c7_1 c7_2 c7_3 c8_0 (List.set (List.append (List.take nc5_0 h6) [[.int .i64 (0 : Int), .int .i64 (0 : Int), 
  .str [], .nilS]]) (0 + Int.toNat (↑nc5_0 : Int)) (.int .i64 n :: .int .i64 n_1 :: .str s :: .sl rows :: List.drop 4 row)) else none else none else none) else none else none else none 
  else wq33_0 c0_0 c0_1 c0_2 c0_3 c1_0 c2_0 c3_0 c3_1 c3_2 c3_3 nc5_0 h6) P) : Gets (wq33_1 v3 c0_0 c0_1 c0_2 c0_3 c1_0 c2_0 c3_0 c3_1 c3_2 c3_3 nc5_0 h6 c7_0 c7_1 c7_2 c7_3 c8_0) P :=
  Gets.ev (fun _ h => loop_step (cfg := cfg) (f := 154) (rd := none) (bs := 10) h) (Gets.eq (by kernel_rfl) h)
theorem wq33_1a_step (v3 : Int) (c0_0 : Int) (c0_1 : Int) (c0_2 : List UInt8) (c0_3 : List (List AV)) (c1_0 : Int) (c2_0 : Int) (c3_0 : Int) (c3_1 : Int) (c3_2 : List UInt8) (c3_3 : List (List AV)) (nc5_0 : Nat) (c7_0 : Int) (c7_1 : Int) (c7_2 : List UInt8) (c7_3 : List (List AV)) (c8_0 : List (List AV)) (h10 : List (List AV)) {P : AV → Prop} (h : Gets (bif decide (v3 ≥ (0 : Int)) then bif leInt (0 : Int) v3 && ltInt v3 (↑(List.length c8_0) : Int) then kOpt (List.get?Internal c8_0 (Int.toNat v3)) fun (row : List AV) => bif Nat.beq 
  (List.length row) 4 then bif Nat.ble 4 (List.length row) then kTmC (List.take 4 row) fun (n n_1 : Int) (s : List UInt8) (rows : List (List AV)) => (bif Nat.ble (0 + nc5_0) (List.length 
  h10) && fitsIn (nc5_0 + 1) 56 then bif leInt (0 : Int) (↑nc5_0 : Int) && ltInt (↑nc5_0 : Int) (↑(nc5_0 + 1) : Int) then kOpt (List.get?Internal (List.append (List.take nc5_0 h10) [[.int 
  .i64 (0 : Int), .int .i64 (0 : Int), .str [], .nilS]]) (0 + Int.toNat (↑nc5_0 : Int))) fun (row : List AV) => bif Nat.ble 4 (List.length row) then wq33_1a (IntKind.wrap .i64 (v3 - (1 
  : Int))) c0_0 c0_1 c0_2 c0_3 c1_0 c2_0 c3_0 c3_1 c3_2 c3_3 (nc5_0 + 1) c7_0 c7_1 c7_2 c7_3 c8_0 (List.set (List.append (List.take nc5_0 h10) [[.int .i64 (0 : Int), .int .i64 (0 : Int), 
  .str [], .nilS]]) (0 + Int.toNat (↑nc5_0 : Int)) (.int .i64 n :: .int .i64 n_1 :: .str s :: .sl rows :: List.drop 4 row)) else none else none else none) else none else none else none 
  else wq33_0 c0_0 c0_1 c0_2 c0_3 c1_0 c2_0 c3_0 c3_1 c3_2 c3_3 nc5_0 h10) P) : Gets (wq33_1a v3 c0_0 c0_1 c0_2 c0_3 c1_0 c2_0 c3_0 c3_1 c3_2 c3_3 nc5_0 c7_0 c7_1 c7_2 c7_3 c8_0 h10) P :=
  Gets.ev (fun _ h => loop_step (cfg := cfg) (f := 154) (rd := none) (bs := 10) h) (Gets.eq (by kernel_rfl) h)
end Go.Proofs.YteojjjhhmbogfaaGreat
end

section
namespace Go.Av
def Tells (p : Prop) (v : AV) : Prop := ∃ b : Bool, v = .bool b ∧ (b = true ↔ p)
theorem tells_bool {p : Prop} {b : Bool} : Tells p (.bool b) ↔ (b = true ↔ p) := ⟨fun ⟨_, h1, h2⟩ => by cases h1; exact h2, fun h => ⟨b, rfl, h⟩⟩
end Go.Av
namespace Go.Proofs.YteojjjhhmbogfaaGreat
open Go.Av

theorem fits56 {n : Nat} (h : n ≤ 1099511627776) : fitsIn n 56 = true := by
  unfold fitsIn
  rw [Bool.and_eq_true, Nat.ble_eq, Nat.ble_eq]
  omega

theorem av_unf (t : Tm) : (AV.agg [.int .i64 t.kind, .int .i64 t.num, .str t.str, .sl (rowsT t.subs)]) = t.av := by rw [Tm.av, Tm.cells_eq]
end Go.Proofs.YteojjjhhmbogfaaGreat
end

section
namespace Go.Proofs.YteojjjhhmbogfaaGreat
open Go.Av

theorem sound_ev (t : Tm) : EVs (EV cfg) 126 [t.av] = some (.bool t.sound) := by
  obtain ⟨k, n, s, l⟩ := t
  apply Gets.get
  rw [Tm.av_mk]
  refine term_sound_run _ _ _ _ ?_
  simp only [Tm.sound, Tm.kind_mk, Tm.num_mk, Tm.str_mk, Tm.subs_mk, rowsT_length, beqI, beqNil, soundB]
  by_cases h1 : k = 1
  · subst h1; simp [bif_some'] <;> (try rw [Bool.eq_iff_iff]) <;> (try simp) <;> first | omega | grind
  by_cases h2 : k = 2
  · subst h2; simp [bif_some'] <;> (try rw [Bool.eq_iff_iff]) <;> (try simp) <;> first | omega | grind
  by_cases h3 : k = 3
  · subst h3; simp [bif_some'] <;> (try rw [Bool.eq_iff_iff]) <;> (try simp) <;> first | omega | grind
  by_cases h4 : k = 4
  · subst h4; simp [bif_some'] <;> (try rw [Bool.eq_iff_iff]) <;> (try simp) <;> first | omega | grind
  by_cases h6 : k = 6
  · subst h6; simp [bif_some'] <;> (try rw [Bool.eq_iff_iff]) <;> (try simp) <;> first | omega | grind
  by_cases h5 : k = 5
  · subst h5
    cases l with
    | nil => simp [bif_some'] <;> (try rw [Bool.eq_iff_iff]) <;> (try simp) <;> first | omega | grind
    | cons x l =>
      have hx : ¬ ((l.length : Int) + 1 = 0) := by omega
      simp [hx, bif_some'] <;> (try rw [Bool.eq_iff_iff]) <;> (try simp) <;> first | omega | grind
  by_cases h7 : k = 7
  · subst h7; simp [bif_some'] <;> (try rw [Bool.eq_iff_iff]) <;> (try simp) <;> first | omega | grind
  by_cases h8 : k = 8
  · subst h8; simp [bif_some'] <;> (try rw [Bool.eq_iff_iff]) <;> (try simp) <;> first | omega | grind
  by_cases h9 : k = 9
  · subst h9; simp [bif_some'] <;> (try rw [Bool.eq_iff_iff]) <;> (try simp) <;> first | omega | grind
  simp [h1, h2, h3, h4, h5, h6, h7, h8, h9]
theorem own_ev (t : Tm) : EVs (EV cfg) 127 [t.av] = some (.int .i64 t.own) := by
  obtain ⟨k, n, s, l⟩ := t
  apply Gets.get
  rw [Tm.av_mk]
  refine term_own_run _ _ _ _ ?_
  simp only [Tm.own, Tm.kind_mk, beqI]
  by_cases h7 : k = 7
  · simp [h7]
  · by_cases h5 : k = 5
    · simp [h5]
    · simp [h7, h5]
end Go.Proofs.YteojjjhhmbogfaaGreat
end

section
namespace Go.Proofs.YteojjjhhmbogfaaGreat
open Go.Av

theorem app_get0 (l : List (List AV)) (z : List AV) : (l ++ [z])[l.length]? = some z := by simp
theorem app_set0 (l : List (List AV)) (z c : List AV) : (l ++ [z]).set l.length c = l ++ [c] := by simp

theorem push_a {t x : Tm} (hx : x.subs.length < 1099511627776) {wd : Int} {P : AV → Prop} : ∀ (j : Nat) (R : List Tm), j ≤ x.subs.length → R.length + j < 1099511627776 →
    Gets (wq33_0 t.kind t.num t.str (rowsT t.subs) 0 wd t.kind t.num t.str (rowsT t.subs) (R.length + j) (rowsT (R ++ (x.subs.take j).reverse))) P →
    Gets (wq33_1a ((j : Int) - 1) t.kind t.num t.str (rowsT t.subs) 0 wd t.kind t.num t.str (rowsT t.subs) R.length x.kind x.num x.str (rowsT x.subs) (rowsT x.subs) (rowsT R)) P
  | 0, R, _, _, h => by
    refine wq33_1a_step _ _ _ _ _ _ _ _ _ _ _ _ _ _ _ _ _ _ ?_
    simpa using h
  | j + 1, R, hj, hR, h => by
    have ih := push_a (t := t) hx (wd := wd) (P := P) j (R ++ [x.subs[j]]) (by omega) (by simp; omega)
    have e1 : x.subs.take (j + 1) = x.subs.take j ++ [x.subs[j]] := by rw [List.take_add_one, List.getElem?_eq_getElem (by omega)]; rfl
    have e4 : R ++ (x.subs.take j ++ [x.subs[j]]).reverse = R ++ x.subs[j] :: (x.subs.take j).reverse := by rw [List.reverse_append]; rfl
    rw [e1, e4, show R.length + (j + 1) = R.length + 1 + j by omega] at h
    refine wq33_1a_step _ _ _ _ _ _ _ _ _ _ _ _ _ _ _ _ _ _ ?_
    have hw : IntKind.wrap .i64 ((j : Int) - 1) = (j : Int) - 1 := wrap64 (by omega) (by omega)
    have hjl : j < x.subs.length := by omega
    have e2 : ((j + 1 : Nat) : Int) - 1 = j := by omega
    rw [e2]
    have ht : List.take R.length (rowsT R) = rowsT R := List.take_of_length_le (by simp)
    have g0 := app_get0 (rowsT R) [.int .i64 0, .int .i64 0, .str [], .nilS]
    have s0 := app_set0 (rowsT R) [.int .i64 0, .int .i64 0, .str [], .nilS] x.subs[j].cells
    rw [rowsT_length] at g0 s0
    simp [hjl, hw, fits56 (show R.length + 1 ≤ 1099511627776 by omega), ht] at ih ⊢
    exact ih h

theorem push_m {t x : Tm} (hx : x.subs.length < 1099511627776) {wd : Int} {P : AV → Prop} {R : List Tm} {Z : List (List AV)} (hR : R.length + x.subs.length < 1099511627776)
    (h0 : x.subs = [] → Gets (wq33_0 t.kind t.num t.str (rowsT t.subs) 0 wd t.kind t.num t.str (rowsT t.subs) R.length (rowsT R ++ Z)) P)
    (h : x.subs ≠ [] → Gets (wq33_0 t.kind t.num t.str (rowsT t.subs) 0 wd t.kind t.num t.str (rowsT t.subs) (R ++ x.subs.reverse).length (rowsT (R ++ x.subs.reverse))) P) :
    Gets (wq33_1 ((x.subs.length : Int) - 1) t.kind t.num t.str (rowsT t.subs) 0 wd t.kind t.num t.str (rowsT t.subs) R.length (rowsT R ++ Z) x.kind x.num x.str (rowsT x.subs) (rowsT x.subs)) P := by
  refine wq33_1_step _ _ _ _ _ _ _ _ _ _ _ _ _ _ _ _ _ _ ?_
  rcases Nat.eq_zero_or_pos x.subs.length with hz | hp
  · have hz' : x.subs = [] := List.length_eq_zero_iff.1 hz
    have := h0 hz'
    simpa [hz'] using this
  · obtain ⟨j, hj⟩ : ∃ j, x.subs.length = j + 1 := ⟨x.subs.length - 1, by omega⟩
    have hne : x.subs ≠ [] := by intro e; rw [e] at hp; simp at hp
    have hjl : j < x.subs.length := by omega
    have e2 : (x.subs.length : Int) - 1 = j := by omega
    have hw : IntKind.wrap .i64 ((j : Int) - 1) = (j : Int) - 1 := wrap64 (by omega) (by omega)
    have ht : List.take R.length (rowsT R ++ Z) = rowsT R := by rw [List.take_append_of_le_length (by simp), List.take_of_length_le (by simp)]
    have e5 : x.subs = x.subs.take j ++ [x.subs[j]] := by
      have : x.subs.take (j + 1) = x.subs := List.take_of_length_le (by omega)
      rw [List.take_add_one, List.getElem?_eq_getElem hjl] at this
      exact this.symm
    have e6 : R ++ x.subs.reverse = R ++ [x.subs[j]] ++ (x.subs.take j).reverse := by
      conv => lhs; rw [e5]
      rw [List.reverse_append, List.append_assoc]; rfl
    have := push_a (t := t) hx (wd := wd) (P := P) j (R ++ [x.subs[j]]) (by omega) (by simp; omega) (by
      have h := h hne
      rw [e6] at h
      have e7 : (R ++ [x.subs[j]] ++ (x.subs.take j).reverse).length = (R ++ [x.subs[j]]).length + j := by
        rw [List.length_append, List.length_reverse, List.length_take]; omega
      rw [e7] at h
      exact h)
    rw [e2]
    simp at this
    simp [hjl, hw, fits56 (show R.length + 1 ≤ 1099511627776 by omega), ht]
    exact this

theorem check_m {t : Tm} : ∀ (n : Nat) (R : List Tm) (Z : List (List AV)) (wd : Nat), wL R ≤ n → n < 1099511627776 → wd + 2 * wL R < 9007199254740992 →
    Gets (wq33_0 t.kind t.num t.str (rowsT t.subs) 0 (wd : Int) t.kind t.num t.str (rowsT t.subs) R.length (rowsT R ++ Z)) (· = .int .i64 (chkS R wd)) := by
  intro n
  induction n with
  | zero =>
    intro R Z wd hn _ _
    have : R = [] := by
      have := wL_len R
      exact List.length_eq_zero_iff.1 (by omega)
    subst this
    refine wq33_0_step _ _ _ _ _ _ _ _ _ _ _ _ ?_
    by_cases h : 65536 < wd
    · have h' : (65536 : Int) < wd := by omega
      simp [h, h', chkS, partsL, wordsL]
    · have h' : ¬ (65536 : Int) < wd := by omega
      simp [h, h', chkS, partsL, wordsL]
  | succ n ih =>
    intro R Z wd hn hN hw
    rcases List.eq_nil_or_concat R with rfl | ⟨R0, x, rfl⟩
    · refine wq33_0_step _ _ _ _ _ _ _ _ _ _ _ _ ?_
      by_cases h : 65536 < wd
      · have h' : (65536 : Int) < wd := by omega
        simp [h, h', chkS, partsL, wordsL]
      · have h' : ¬ (65536 : Int) < wd := by omega
        simp [h, h', chkS, partsL, wordsL]
    · rw [List.concat_eq_append] at *
      have hwx := x.w_eq
      have ho := x.own_le
      simp only [wL_append, wL_cons, wL_nil] at hn hw
      have hl0 := wL_len R0
      have hls := wL_len x.subs
      have hsd := sound_ev x
      have how := own_ev x
      refine wq33_0_step _ _ _ _ _ _ _ _ _ _ _ _ ?_
      have e1 : (R0 ++ [x]).length = R0.length + 1 := by simp
      have hw1 : IntKind.wrap .i64 (R0.length : Int) = R0.length := wrapN (by omega)
      have hw2 : IntKind.wrap .i64 ((wd : Int) + x.own) = ((wd + x.own : Nat) : Int) := by rw [wrap64 (by omega) (by omega)]; omega
      have hw3 : IntKind.wrap .i64 ((x.subs.length : Int) - 1) = (x.subs.length : Int) - 1 := wrap64 (by omega) (by omega)
      have g : (rowsT (R0 ++ [x]) ++ Z)[R0.length]? = some x.cells := by
        rw [List.getElem?_append_left (by simp), rowsT_get]; simp
      cases hs : x.sound with
      | false =>
        rw [hs] at hsd
        simp [e1, hw1, g, hsd, chkS_bad hs]
      | true =>
        rw [hs] at hsd
        have e3 : rowsT (R0 ++ [x]) ++ Z = rowsT R0 ++ (x.cells :: Z) := by rw [rowsT_append, List.append_assoc, rowsT_cons, rowsT_nil]; rfl
        have := push_m (t := t) (x := x) (R := R0) (Z := x.cells :: Z) (wd := ((wd + x.own : Nat) : Int)) (P := (· = .int .i64 (chkS (R0 ++ [x]) wd))) (by omega) (by omega)
          (fun hz => by
            have := ih R0 (x.cells :: Z) (wd + x.own) (by omega) (by omega) (by omega)
            rw [← chkS_step hs, hz, List.reverse_nil, List.append_nil]
            exact this)
          (fun hz => by
            have := ih (R0 ++ x.subs.reverse) [] (wd + x.own) (by rw [wL_append, wL_rev]; omega) (by omega) (by rw [wL_append, wL_rev]; omega)
            rw [← chkS_step hs]
            rw [List.append_nil] at this
            exact this)
        simp only [e1, e3] at g ⊢
        simp only [Int.natCast_add] at hw2 this
        simp [hw1, g, hsd, how, hw2, hw3]
        exact this

theorem check_ev {t : Tm} (h : t.w < 1099511627776) : EVs (EV cfg) 93 [t.av] = some (.int .i64 t.chk) := by
  have := check_m (t := t) _ [t] [] 0 (Nat.le_refl _) (by simpa using h) (by simp; omega)
  apply Gets.get
  rw [Tm.av, Tm.cells_eq]
  refine term_Check_run _ _ _ _ ?_
  rw [← Tm.cells_eq, rowsT_one, Tm.chk]
  simpa using this
end Go.Proofs.YteojjjhhmbogfaaGreat
end

section
namespace Go.Proofs.YteojjjhhmbogfaaGreat
open Go.Av
theorem number_step {s h0 : List UInt8} {b : UInt8} {v : Int} {i : Nat} {P : AV → Prop} (hv : 0 ≤ v ∧ v ≤ 9) (hlen : (List.take (s.length - 1) (s.drop 1)).length = h0.length) (hl : h0.length ≤ 2) (hb : h0[i]? = some b)
    (h : Gets (match digitG b with | none => some (AV.tup [.int .i64 0, .bool false]) | some x => wp71_0 s (v * 10 + x) ((i + 1 : Nat) : Int) (h0.map fun b => [.int .u8 (b.toNat : Int)])) P) : Gets (wp71_0 s v i (h0.map fun b => [.int .u8 (b.toNat : Int)])) P := by
  have hi : i < h0.length := (List.getElem?_eq_some_iff.1 hb).1
  refine wp71_0_step _ _ _ _ ?_
  have hbl := b.toNat_lt
  rw [hlen, decide_eq_true (show (i : Int) < (h0.length : Int) by omega), leInt_zero, ltInt_nat, decide_eq_true hi]
  simp only [cond_true, Bool.and_self, get?Internal_eq, Nat.zero_add, Int.toNat_natCast, List.getElem?_map, hb, Option.map_some, kOptSome, List.getElem?_cons_zero, kInt_int]
  unfold digitG at h
  by_cases h1 : b.toNat < 48
  · rw [if_pos h1] at h
    rw [decide_eq_true (show (b.toNat : Int) < 48 by omega)]; exact h
  · rw [if_neg h1] at h
    rw [decide_eq_false (show ¬ (b.toNat : Int) < 48 by omega), cond_false]
    by_cases h2 : b.toNat > 57
    · rw [if_pos h2] at h
      rw [decide_eq_true (show (b.toNat : Int) > 57 by omega)]; exact h
    · rw [if_neg h2] at h
      rw [decide_eq_false (show ¬ (b.toNat : Int) > 57 by omega), cond_false]
      have w1 : IntKind.wrap .i64 (v * 10) = v * 10 := wrap64 (by omega) (by omega)
      have w2 : IntKind.wrap .u8 ((b.toNat : Int) - 48) = (b.toNat : Int) - 48 := by
        simp [IntKind.wrap, IntKind.bits, IntKind.signed]; omega
      have w3 : IntKind.wrap .i64 ((b.toNat : Int) - 48) = (b.toNat : Int) - 48 := wrap64 (by omega) (by omega)
      have w4 : IntKind.wrap .i64 (v * 10 + ((b.toNat : Int) - 48)) = v * 10 + ((b.toNat : Int) - 48) := wrap64 (by omega) (by omega)
      have w5 : IntKind.wrap .i64 ((i : Int) + 1) = ((i + 1 : Nat) : Int) := wrap_succ (n := 2) (by omega) (by omega)
      rw [w1, w2, w3, w4, w5]
      exact h
theorem number_end {s h0 : List UInt8} {v : Int} {i : Nat} (hlen : (List.take (s.length - 1) (s.drop 1)).length = h0.length) (hi : i = h0.length) : Gets (wp71_0 s v i (h0.map fun b => [.int .u8 (b.toNat : Int)])) (· = .tup [.int .i64 v, .bool true]) := by
  refine wp71_0_step _ _ _ _ ?_
  rw [hlen, decide_eq_false (by omega)]
  exact ⟨_, rfl, rfl⟩
def varR (o : Option Int) : AV := .tup [.int .i64 (o.getD 0), .bool o.isSome]
theorem patNumber_ev (s : List UInt8) : EVs (EV cfg) 76 [.str s] = some (varR (varG s)) := by
  apply Gets.get
  refine patNumber_run _ ?_
  match s with
  | [] => exact ⟨_, rfl, rfl⟩
  | [a] => exact ⟨_, rfl, rfl⟩
  | a :: b :: c :: d :: l =>
    have h1 : ¬ ((a :: b :: c :: d :: l).length : Int) < 2 := by simp; omega
    have h2 : ((a :: b :: c :: d :: l).length : Int) > 3 := by simp; omega
    rw [decide_eq_false h1, decide_eq_true h2]
    exact ⟨_, rfl, rfl⟩
  | [a, b] =>
    by_cases h : a.toNat = 36
    · have e : (((a.toNat : Int)) != 36) = false := by rw [h]; rfl
      have hs := number_step (s := [a, b]) (h0 := [b]) (b := b) (v := 0) (i := 0) (P := (· = varR (varG [a, b]))) (by omega) rfl (by simp) rfl (by
        rw [varG2, if_pos h]
        cases hd : digitG b with
        | none => exact ⟨_, rfl, rfl⟩
        | some x =>
          refine (number_end (s := [a, b]) (h0 := [b]) rfl rfl).mono ?_
          rintro _ rfl
          show _ = varR (some x)
          simp [varR])
      show Gets (bif (((a.toNat : Int)) != 36) then _ else _) _
      rw [e]
      exact hs
    · have e : (((a.toNat : Int)) != 36) = true := by simpa using fun h' => h (by omega)
      show Gets (bif (((a.toNat : Int)) != 36) then _ else _) _
      rw [e]
      refine ⟨_, rfl, ?_⟩
      rw [varG2, if_neg h]; rfl
  | [a, b, c] =>
    by_cases h : a.toNat = 36
    · have e : (((a.toNat : Int)) != 36) = false := by rw [h]; rfl
      show Gets (bif (((a.toNat : Int)) != 36) then _ else bif (((b.toNat : Int)) == 48) then _ else _) _
      rw [e]
      by_cases hb : b.toNat = 48
      · have e2 : (((b.toNat : Int)) == 48) = true := by rw [hb]; rfl
        rw [e2]
        refine ⟨_, rfl, ?_⟩
        rw [varG3, if_neg (fun h => h.2 hb)]; rfl
      · have e2 : (((b.toNat : Int)) == 48) = false := by simpa using fun h' => hb (by omega)
        rw [e2]
        show Gets (wp71_0 [a, b, c] 0 0 ([b, c].map fun b => [.int .u8 (b.toNat : Int)])) _
        refine number_step (s := [a, b, c]) (h0 := [b, c]) (b := b) (v := 0) (i := 0) (by omega) rfl (by simp) rfl ?_
        rw [varG3, if_pos ⟨h, hb⟩]
        cases hd : digitG b with
        | none => exact ⟨_, rfl, rfl⟩
        | some x =>
          have hx := digitG_in hd
          refine number_step (s := [a, b, c]) (h0 := [b, c]) (b := c) (i := 1) (by omega) rfl (by simp) rfl ?_
          cases hd2 : digitG c with
          | none => exact ⟨_, rfl, by simp [varR, hd2]⟩
          | some y =>
            refine (number_end (s := [a, b, c]) (h0 := [b, c]) rfl rfl).mono ?_
            rintro _ rfl
            simp [varR, hd2]
    · have e : (((a.toNat : Int)) != 36) = true := by simpa using fun h' => h (by omega)
      show Gets (bif (((a.toNat : Int)) != 36) then _ else _) _
      rw [e]
      refine ⟨_, rfl, ?_⟩
      rw [varG3, if_neg (fun h' => h h'.1)]; rfl
theorem patMay_ev {t : Tm} (h : t.w < 1099511627776) : EVs (EV cfg) 74 [t.av] = some (.bool (decide (t.chk = 0))) := by
  have hc := check_ev h
  apply Gets.get
  rw [Tm.av, Tm.cells_eq] at hc ⊢
  refine patMay_run _ _ _ _ ?_
  rw [hc]
  simp [beqI]
theorem patVar_ev {t : Tm} (h : t.w < 1099511627776) : EVs (EV cfg) 158 [t.av] = some (varR (varT t)) := by
  have hc := patMay_ev h
  apply Gets.get
  rw [Tm.av, Tm.cells_eq] at hc ⊢
  refine patVar_run _ _ _ _ ?_
  rw [hc, patNumber_ev]
  unfold varT
  by_cases h1 : t.kind = 2
  · by_cases h2 : t.chk = 0
    · simp [h1, h2, varR, kTup, kCons, kNil]
    · simp [h1, h2, varR]
  · have h1' : (t.kind != 2) = true := by simpa using h1
    rw [h1']
    simp [h1, varR]
end Go.Proofs.YteojjjhhmbogfaaGreat
end

section
namespace Go.Proofs.YteojjjhhmbogfaaGreat
open Go.Av
set_option maxRecDepth 100000
set_option maxHeartbeats 0

noncomputable def Lg65_0 : Den := evC cfg (EV cfg) 185 none 0 (sub (bodyOf Tryz.f185) [1, 0, 1, 0, 0])
noncomputable def Ag65_0 : Ex × List AV × AH → Option AV := kAft (Cfg.keepOut cfg 185 2) (kRun cfg (EV cfg) (kfN cfg 6) 185 none 0 (kFinS cfg (Cfg.lift cfg 185 0) Tryz.f185.results.toList) ([.block 0, .seq (sub (bodyOf Tryz.f185) [1, 1])]))
noncomputable def Wg65_0 : List AV × AH → Option AV := fun p => kOpt (LOOP 0 (some [0, 1, 7, 8]) ([]) Lg65_0 p) Ag65_0
noncomputable abbrev wg65_0 (A : List (List AV)) (n : Int) (v8 : Int) : Option (AV) := Wg65_0  (((fx 19 [(0, AV.sl A), (1, AV.int IntKind.i64 n), (7, AV.int IntKind.i64 (↑(List.length A) : Int)), (8, AV.int IntKind.i64 v8)]) : List AV), ([] : AH))
theorem guard_Ops_run (op : List UInt8) {P : AV → Prop} (h : Gets (bif op == [(115 : UInt8), (101 : UInt8), (108 : UInt8), (102 : UInt8)] then some (.sl [[.int .i64 (0 : Int)]]) else bif op == [(105 : UInt8), (115 : UInt8), (95 : UInt8), (97 : UInt8), 
  (116 : UInt8), (111 : UInt8), (109 : UInt8)] then some (.sl [[.int .i64 (1 : Int)]]) else bif op == [(105 : UInt8), (115 : UInt8), (95 : UInt8), (105 : UInt8), (110 : UInt8), (116 : 
  UInt8), (101 : UInt8), (103 : UInt8), (101 : UInt8), (114 : UInt8)] then some (.sl [[.int .i64 (1 : Int)]]) else bif op == [(105 : UInt8), (115 : UInt8), (95 : UInt8), (108 : UInt8), 
  (105 : UInt8), (115 : UInt8), (116 : UInt8)] then some (.sl [[.int .i64 (1 : Int)]]) else bif op == [(105 : UInt8), (115 : UInt8), (95 : UInt8), (116 : UInt8), (117 : UInt8), (112 : 
  UInt8), (108 : UInt8), (101 : UInt8)] then some (.sl [[.int .i64 (1 : Int)]]) else bif op == [(105 : UInt8), (115 : UInt8), (95 : UInt8), (112 : UInt8), (105 : UInt8), (100 : UInt8)] 
  then some (.sl [[.int .i64 (1 : Int)]]) else bif op == [(105 : UInt8), (115 : UInt8), (95 : UInt8), (102 : UInt8), (117 : UInt8), (110 : UInt8), (99 : UInt8), (116 : UInt8), (105 : 
  UInt8), (111 : UInt8), (110 : UInt8)] then some (.sl [[.int .i64 (1 : Int)]]) else bif op == [(105 : UInt8), (115 : UInt8), (95 : UInt8), (114 : UInt8), (101 : UInt8), (102 : UInt8), 
  (101 : UInt8), (114 : UInt8), (101 : UInt8), (110 : UInt8), (99 : UInt8), (101 : UInt8)] then some (.sl [[.int .i64 (1 : Int)]]) else bif op == [(110 : UInt8), (111 : UInt8), (116 : 
  UInt8)] then some (.sl [[.int .i64 (1 : Int)]]) else bif op == [(98 : UInt8), (110 : UInt8), (111 : UInt8), (116 : UInt8)] then some (.sl [[.int .i64 (1 : Int)]]) else bif op == [(97 
  : UInt8), (98 : UInt8), (115 : UInt8)] then some (.sl [[.int .i64 (1 : Int)]]) else bif op == [(116 : UInt8), (117 : UInt8), (112 : UInt8), (108 : UInt8), (101 : UInt8), (95 : UInt8), 
  (115 : UInt8), (105 : UInt8), (122 : UInt8), (101 : UInt8)] then some (.sl [[.int .i64 (1 : Int)]]) else bif op == [(115 : UInt8), (105 : UInt8), (122 : UInt8), (101 : UInt8)] then 
  some (.sl [[.int .i64 (1 : Int)]]) else bif op == [(104 : UInt8), (100 : UInt8)] then some (.sl [[.int .i64 (1 : Int)]]) else bif op == [(116 : UInt8), (108 : UInt8)] then some (.sl 
  [[.int .i64 (1 : Int)]]) else bif op == [(108 : UInt8), (101 : UInt8), (110 : UInt8), (103 : UInt8), (116 : UInt8), (104 : UInt8)] then some (.sl [[.int .i64 (1 : Int)]]) else bif op 
  == [(43 : UInt8)] then some (.sl [[.int .i64 (1 : Int)], [.int .i64 (2 : Int)]]) else bif op == [(45 : UInt8)] then some (.sl [[.int .i64 (1 : Int)], [.int .i64 (2 : Int)]]) else bif 
  op == [(61 : UInt8), (61 : UInt8)] then some (.sl [[.int .i64 (2 : Int)]]) else bif op == [(61 : UInt8), (58 : UInt8), (61 : UInt8)] then some (.sl [[.int .i64 (2 : Int)]]) else bif 
  op == [(47 : UInt8), (61 : UInt8)] then some (.sl [[.int .i64 (2 : Int)]]) else bif op == [(61 : UInt8), (47 : UInt8), (61 : UInt8)] then some (.sl [[.int .i64 (2 : Int)]]) else bif 
  op == [(60 : UInt8)] then some (.sl [[.int .i64 (2 : Int)]]) else bif op == [(61 : UInt8), (60 : UInt8)] then some (.sl [[.int .i64 (2 : Int)]]) else bif op == [(62 : UInt8)] then some 
  (.sl [[.int .i64 (2 : Int)]]) else bif op == [(62 : UInt8), (61 : UInt8)] then some (.sl [[.int .i64 (2 : Int)]]) else bif op == [(97 : UInt8), (110 : UInt8), (100 : UInt8)] then some 
  (.sl [[.int .i64 (2 : Int)]]) else bif op == [(111 : UInt8), (114 : UInt8)] then some (.sl [[.int .i64 (2 : Int)]]) else bif op == [(120 : UInt8), (111 : UInt8), (114 : UInt8)] then 
  some (.sl [[.int .i64 (2 : Int)]]) else bif op == [(97 : UInt8), (110 : UInt8), (100 : UInt8), (97 : UInt8), (108 : UInt8), (115 : UInt8), (111 : UInt8)] then some (.sl [[.int .i64 
  (2 : Int)]]) else bif op == [(111 : UInt8), (114 : UInt8), (101 : UInt8), (108 : UInt8), (115 : UInt8), (101 : UInt8)] then some (.sl [[.int .i64 (2 : Int)]]) else bif op == [(42 : 
  UInt8)] then some (.sl [[.int .i64 (2 : Int)]]) else bif op == [(100 : UInt8), (105 : UInt8), (118 : UInt8)] then some (.sl [[.int .i64 (2 : Int)]]) else bif op == [(114 : UInt8), (101 
  : UInt8), (109 : UInt8)] then some (.sl [[.int .i64 (2 : Int)]]) else bif op == [(98 : UInt8), (97 : UInt8), (110 : UInt8), (100 : UInt8)] then some (.sl [[.int .i64 (2 : Int)]]) else 
  bif op == [(98 : UInt8), (111 : UInt8), (114 : UInt8)] then some (.sl [[.int .i64 (2 : Int)]]) else bif op == [(98 : UInt8), (120 : UInt8), (111 : UInt8), (114 : UInt8)] then some (.sl 
  [[.int .i64 (2 : Int)]]) else bif op == [(101 : UInt8), (108 : UInt8), (101 : UInt8), (109 : UInt8), (101 : UInt8), (110 : UInt8), (116 : UInt8)] then some (.sl [[.int .i64 (2 : Int)]]) 
  else some (.sl [])) P) : Gets (EVf (EV cfg) 179 ([AV.str op] : List AV)) P :=
  Gets.ev (fun _ h => funF rfl rfl Tryz.func179 rfl h) (Gets.eq (by kernel_rfl) h)
theorem containsI_run (A : List (List AV)) (n : Int) {P : AV → Prop} (h : Gets (kOpt (EVs (EV cfg) 185 [.sl A, .int .i64 n]) fun (v : AV) => kInt .i64 v fun (n : Int) => some (.bool (decide (n ≥ (0 : Int))))) P) : Gets (EVs (EV cfg) 177 ([AV.sl A, AV.int IntKind.i64 n] : List AV)) P :=
  Gets.ev (fun _ h => funS rfl rfl Tryz.func177 rfl h) (Gets.eq (by kernel_rfl) h)
theorem indexI_run (A : List (List AV)) (n : Int) {P : AV → Prop} (h : Gets (wg65_0 A n (0 : Int)) P) : Gets (EVs (EV cfg) 185 ([AV.sl A, AV.int IntKind.i64 n] : List AV)) P :=
  Gets.ev (fun _ h => funS rfl rfl Tryz.func185 rfl h) (Gets.eq (by kernel_rfl) h)
theorem wg65_0_step (A : List (List AV)) (n : Int) (v8 : Int) {P : AV → Prop} (h : Gets (bif decide (v8 < (↑(List.length A) : Int)) then bif leInt (0 : Int) v8 && ltInt v8 (↑(List.length A) : Int) then kOpt (List.get?Internal A (Int.toNat v8)) fun (row : List AV) => bif 
  Nat.beq (List.length row) 1 then kOpt (List.get?Internal row 0) fun (v : AV) => kInt .i64 v fun (n_1 : Int) => bif n == n_1 then some (.int .i64 v8) else wg65_0 A n (IntKind.wrap .i64 
  (v8 + (1 : Int))) else none else none else some (.int .i64 (-1 : Int))) P) : Gets (wg65_0 A n v8) P :=
  Gets.ev (fun _ h => loop_step (cfg := cfg) (f := 185) (rd := none) (bs := 0) h) (Gets.eq (by kernel_rfl) h)
end Go.Proofs.YteojjjhhmbogfaaGreat
end

section
namespace Go.Proofs.YteojjjhhmbogfaaGreat
open Go.Av
set_option maxRecDepth 100000
set_option maxHeartbeats 0

noncomputable def Lq62_0 : Den := evC cfg (EV cfg) 68 none 0 (sub (bodyOf Tryz.f68) [1, 1, 0, 1, 0, 0])
noncomputable def Aq62_0 : Ex × List AV × AH → Option AV := kAft (Cfg.keepOut cfg 68 3) (kRun cfg (EV cfg) (kfN cfg 6) 68 none 0 (kFinS cfg (Cfg.lift cfg 68 0) Tryz.f68.results.toList) ([.block 0, .seq (sub (bodyOf Tryz.f68) [1, 1, 1])]))
noncomputable def Wq62_0 : List AV × AH → Option AV := fun p => kOpt (LOOP 0 (some [3, 6, 7, 8]) ([]) Lq62_0 p) Aq62_0
noncomputable def Lq97_0 : Den := evC cfg (EV cfg) 63 none 0 (sub (bodyOf Tryz.f63) [1, 0, 1, 0, 0])
noncomputable def Aq97_0 : Ex × List AV × AH → Option AV := kAft (Cfg.keepOut cfg 63 2) (kRun cfg (EV cfg) (kfN cfg 6) 63 none 0 (kFinS cfg (Cfg.lift cfg 63 0) Tryz.f63.results.toList) ([.block 0, .seq (sub (bodyOf Tryz.f63) [1, 1])]))
noncomputable def Wq97_0 : List AV × AH → Option AV := fun p => kOpt (LOOP 0 (some [0, 1, 2, 11, 12, 13]) ([]) Lq97_0 p) Aq97_0
noncomputable def Lq15_0 : Den := evC cfg (EV cfg) 25 none 0 (sub (bodyOf Tryz.f25) [1, 0, 1, 0, 0])
noncomputable def Aq15_0 : Ex × List AV × AH → Option AV := kAft (Cfg.keepOut cfg 25 1) (kRun cfg (EV cfg) (kfN cfg 6) 25 none 0 (kFinS cfg (Cfg.lift cfg 25 0) Tryz.f25.results.toList) ([.block 0, .scope]))
noncomputable def Wq15_0 : List AV × AH → Option AV := fun p => kOpt (LOOP 0 (some [2, 3]) ([]) Lq15_0 p) Aq15_0
noncomputable abbrev wq62_0 (a : Int) (b : Int) (c : Int) (v8 : Int) : Option (AV) := Wq62_0  (((fx 18 [(3, AV.int IntKind.i64 (0 : Int)), (6, AV.sl [[AV.int IntKind.i64 a], [AV.int IntKind.i64 b], [AV.int IntKind.i64 c]]), (7, AV.int IntKind.i64 (3 : Int)), (8, AV.int IntKind.i64 v8)]) : List AV), ([] : AH))
noncomputable abbrev wq62_0a (a : Int) (b : Int) (v8 : Int) : Option (AV) := Wq62_0  (((fx 18 [(3, AV.int IntKind.i64 (0 : Int)), (6, AV.sl [[AV.int IntKind.i64 a], [AV.int IntKind.i64 b]]), (7, AV.int IntKind.i64 (2 : Int)), (8, AV.int IntKind.i64 v8)]) : List AV), ([] : AH))
noncomputable abbrev wq97_0 (A : List (List AV)) (B : List (List AV)) (v13 : Int) : Option (AV) := Wq97_0  (((fx 39 [(0, AV.sl A), (1, AV.sl B), (2, AV.fn (Fn.func 25) [] []), (11, AV.sl A), (12, AV.int IntKind.i64 (↑(List.length A) : Int)), (13, AV.int IntKind.i64 v13)]) : List AV), ([] : AH))
noncomputable abbrev wq15_0 (c0_0 : Int) (c0_1 : Int) (c0_2 : List UInt8) (c0_3 : List (List AV)) (c1_0 : Int) (c1_1 : Int) (c1_2 : List UInt8) (c1_3 : List (List AV)) : Option (AV) := Wq15_0  (((fx 117 [(2, AV.ptr (0 : Nat) (0 : Nat) (0 : Nat)), (3, AV.ptr (1 : Nat) (0 : Nat) (0 : Nat))]) : List AV), ([ABlk.rows false (4 : Nat) [[AV.int IntKind.i64 c0_0, AV.int IntKind.i64 c0_1, AV.str c0_2, AV.sl c0_3]], ABlk.rows false (4 : Nat) [[AV.int IntKind.i64 c1_0, AV.int IntKind.i64 c1_1, AV.str c1_2, AV.sl c1_3]]] : AH))
theorem cmpI_run (a : Int) (b : Int) {P : AV → Prop} (h : Gets (kOpt (EVs (EV cfg) 97 [.int .i64 a]) fun (v : AV) => kBool v fun (b_1 : Bool) => kOpt (EVs (EV cfg) 97 [.int .i64 b]) fun (v : AV) => kBool v fun (b_2 : Bool) => bif b_1 then bif b_2 
  then some (.int .i64 (0 : Int)) else some (.int .i64 (-1 : Int)) else bif b_2 then some (.int .i64 (1 : Int)) else bif decide (a < b) then some (.int .i64 (-1 : Int)) else bif decide 
  (a > b) then some (.int .i64 (1 : Int)) else some (.int .i64 (0 : Int))) P) : Gets (EVs (EV cfg) 62 ([AV.int IntKind.i64 a, AV.int IntKind.i64 b] : List AV)) P :=
  Gets.ev (fun _ h => funS rfl rfl Tryz.func62 rfl h) (Gets.eq (by kernel_rfl) h)
theorem cmpSt_run (a : List UInt8) (b : List UInt8) {P : AV → Prop} (h : Gets (kOpt (EVs (EV cfg) 104 [.str a, .str b]) fun (v : AV) => kInt .i64 v fun (n : Int) => some (.int .i64 n)) P) : Gets (EVs (EV cfg) 67 ([AV.str a, AV.str b] : List AV)) P :=
  Gets.ev (fun _ h => funS rfl rfl Tryz.func67 rfl h) (Gets.eq (by kernel_rfl) h)
theorem or3_run (a : Int) (b : Int) (c : Int) {P : AV → Prop} (h : Gets (wq62_0 a b c (0 : Int)) P) : Gets (EVs (EV cfg) 68 ([AV.sl [[AV.int IntKind.i64 a], [AV.int IntKind.i64 b], [AV.int IntKind.i64 c]]] : List AV)) P :=
  Gets.ev (fun _ h => funS rfl rfl Tryz.func68 rfl h) (Gets.eq (by kernel_rfl) h)
theorem or2_run (a : Int) (b : Int) {P : AV → Prop} (h : Gets (wq62_0a a b (0 : Int)) P) : Gets (EVs (EV cfg) 68 ([AV.sl [[AV.int IntKind.i64 a], [AV.int IntKind.i64 b]]] : List AV)) P :=
  Gets.ev (fun _ h => funS rfl rfl Tryz.func68 rfl h) (Gets.eq (by kernel_rfl) h)
theorem cmpFunc_run (A : List (List AV)) (B : List (List AV)) {P : AV → Prop} (h : Gets (wq97_0 A B (0 : Int)) P) : Gets (EVs (EV cfg) 63 ([AV.sl A, AV.sl B, AV.fn (Fn.func 25) [] []] : List AV)) P :=
  Gets.ev (fun _ h => funS rfl rfl Tryz.func63 rfl h) (Gets.eq (by kernel_rfl) h)
theorem isNaNI_run (a : Int) {P : AV → Prop} (h : Gets (some (.bool (a != a))) P) : Gets (EVs (EV cfg) 97 ([AV.int IntKind.i64 a] : List AV)) P :=
  Gets.ev (fun _ h => funS rfl rfl Tryz.func97 rfl h) (Gets.eq (by kernel_rfl) h)
theorem cmpStr_run (a : List UInt8) (b : List UInt8) {P : AV → Prop} (h : Gets (kOpt (EVs (EV cfg) 130 [.str a, .str b]) fun (v : AV) => kInt .i64 v fun (n : Int) => some (.int .i64 n)) P) : Gets (EVs (EV cfg) 104 ([AV.str a, AV.str b] : List AV)) P :=
  Gets.ev (fun _ h => funS rfl rfl Tryz.func104 rfl h) (Gets.eq (by kernel_rfl) h)
theorem order_lists_run (A : List (List AV)) (B : List (List AV)) {P : AV → Prop} (h : Gets (kOpt (EVs (EV cfg) 63 [.sl A, .sl B, AV.fn (Fn.func 25) [] []]) fun (v : AV) => kInt .i64 v fun (n : Int) => some (.int .i64 n)) P) : Gets (EVs (EV cfg) 69 ([AV.sl A, AV.sl B] : List AV)) P :=
  Gets.ev (fun _ h => funS rfl rfl Tryz.func69 rfl h) (Gets.eq (by kernel_rfl) h)
theorem oCompare_run (ka : Int) (na : Int) (sa : List UInt8) (la : List (List AV)) (kb : Int) (nb : Int) (sb : List UInt8) (lb : List (List AV)) {P : AV → Prop} (h : Gets (wq15_0 ka na sa la kb nb sb lb) P) : Gets (EVs (EV cfg) 25 ([AV.agg [AV.int IntKind.i64 ka, AV.int IntKind.i64 na, AV.str sa, AV.sl la], AV.agg [AV.int IntKind.i64 kb, AV.int IntKind.i64 nb, AV.str sb, AV.sl lb]] : List AV)) P :=
  Gets.ev (fun _ h => funS rfl rfl Tryz.func25 rfl h) (Gets.eq (by kernel_rfl) h)
theorem wq62_0_step (a : Int) (b : Int) (c : Int) (v8 : Int) {P : AV → Prop} (h : Gets (bif decide (v8 < (3 : Int)) then bif leInt (0 : Int) v8 && ltInt v8 (↑3 : Int) then kOpt (List.get?Internal [[.int .i64 a], [.int .i64 b], [.int .i64 c]] (Int.toNat v8)) fun (row : 
  List AV) => bif Nat.beq (List.length row) 1 then kOpt (List.get?Internal row 0) fun (v : AV) => kInt .i64 v fun (n : Int) => bif n != (0 : Int) then some (.int .i64 n) else wq62_0 a 
  b c (IntKind.wrap .i64 (v8 + (1 : Int))) else none else none else some (.int .i64 (0 : Int))) P) : Gets (wq62_0 a b c v8) P :=
  Gets.ev (fun _ h => loop_step (cfg := cfg) (f := 68) (rd := none) (bs := 0) h) (Gets.eq (by kernel_rfl) h)
theorem wq62_0a_step (a : Int) (b : Int) (v8 : Int) {P : AV → Prop} (h : Gets (bif decide (v8 < (2 : Int)) then bif leInt (0 : Int) v8 && ltInt v8 (↑2 : Int) then kOpt (List.get?Internal [[.int .i64 a], [.int .i64 b]] (Int.toNat v8)) fun (row : List AV) => bif 
  Nat.beq (List.length row) 1 then kOpt (List.get?Internal row 0) fun (v : AV) => kInt .i64 v fun (n : Int) => bif n != (0 : Int) then some (.int .i64 n) else wq62_0a a b (IntKind.wrap 
  .i64 (v8 + (1 : Int))) else none else none else some (.int .i64 (0 : Int))) P) : Gets (wq62_0a a b v8) P :=
  Gets.ev (fun _ h => loop_step (cfg := cfg) (f := 68) (rd := none) (bs := 0) h) (Gets.eq (by kernel_rfl) h)
theorem wq97_0_step (A : List (List AV)) (B : List (List AV)) (v13 : Int) {P : AV → Prop} (h : Gets (bif decide (v13 < (↑(List.length A) : Int)) then bif leInt (0 : Int) v13 && ltInt v13 (↑(List.length A) : Int) then kOpt (List.get?Internal A (Int.toNat v13)) fun (row : List AV) => 
  bif Nat.beq (List.length row) 4 then bif Nat.ble 4 (List.length row) then kTmC (List.take 4 row) fun (n n_1 : Int) (s : List UInt8) (rows : List (List AV)) => (bif decide (v13 ≥ (↑(List.length 
  B) : Int)) then some (.int .i64 (1 : Int)) else bif leInt (0 : Int) v13 && ltInt v13 (↑(List.length B) : Int) then kOpt (List.get?Internal B (Int.toNat v13)) fun (row : List AV) => 
  bif Nat.beq (List.length row) 4 then bif Nat.ble 4 (List.length row) then kTmC (List.take 4 row) fun (n_2 n_3 : Int) (s_1 : List UInt8) (rows_1 : List (List AV)) => (kOpt (EVs (EV cfg) 
  25 [.agg [.int .i64 n, .int .i64 n_1, .str s, .sl rows], .agg [.int .i64 n_2, .int .i64 n_3, .str s_1, .sl rows_1]]) fun (v : AV) => kInt .i64 v fun (n : Int) => bif n != (0 : Int) 
  then some (.int .i64 n) else wq97_0 A B (IntKind.wrap .i64 (v13 + (1 : Int)))) else none else none else none) else none else none else none else bif decide ((↑(List.length A) : Int) 
  < (↑(List.length B) : Int)) then some (.int .i64 (-1 : Int)) else some (.int .i64 (0 : Int))) P) : Gets (wq97_0 A B v13) P :=
  Gets.ev (fun _ h => loop_step (cfg := cfg) (f := 63) (rd := none) (bs := 0) h) (Gets.eq (by kernel_rfl) h)
theorem wq15_0_step (c0_0 : Int) (c0_1 : Int) (c0_2 : List UInt8) (c0_3 : List (List AV)) (c1_0 : Int) (c1_1 : Int) (c1_2 : List UInt8) (c1_3 : List (List AV)) {P : AV → Prop} (h : Gets (kOpt (EVs (EV cfg) 62 [.int .i64 c0_0, .int .i64 c1_0]) fun (v : AV) => kInt .i64 v fun (n : Int) => bif n != (0 : Int) then some (.int .i64 n) else bif c0_0 == (1 : Int) then kOpt 
  (EVs (EV cfg) 62 [.int .i64 c0_1, .int .i64 c1_1]) fun (v : AV) => kInt .i64 v fun (n : Int) => some (.int .i64 n) else bif c0_0 == (3 : Int) then kOpt (EVs (EV cfg) 62 [.int .i64 c0_1, 
  .int .i64 c1_1]) fun (v : AV) => kInt .i64 v fun (n : Int) => some (.int .i64 n) else bif c0_0 == (4 : Int) then kOpt (EVs (EV cfg) 62 [.int .i64 c0_1, .int .i64 c1_1]) fun (v : AV) 
  => kInt .i64 v fun (n : Int) => some (.int .i64 n) else bif c0_0 == (6 : Int) then kOpt (EVs (EV cfg) 62 [.int .i64 c0_1, .int .i64 c1_1]) fun (v : AV) => kInt .i64 v fun (n : Int) 
  => some (.int .i64 n) else bif c0_0 == (2 : Int) then kOpt (EVs (EV cfg) 67 [.str c0_2, .str c1_2]) fun (v : AV) => kInt .i64 v fun (n : Int) => some (.int .i64 n) else bif c0_0 == 
  (5 : Int) then kOpt (EVs (EV cfg) 62 [.int .i64 c0_1, .int .i64 c1_1]) fun (v : AV) => kInt .i64 v fun (n : Int) => kOpt (EVs (EV cfg) 62 [.int .i64 (↑(List.length c0_3) : Int), .int 
  .i64 (↑(List.length c1_3) : Int)]) fun (v : AV) => kInt .i64 v fun (n_1 : Int) => kOpt (EVs (EV cfg) 69 [.sl c0_3, .sl c1_3]) fun (v : AV) => kInt .i64 v fun (n_2 : Int) => kOpt (EVs 
  (EV cfg) 68 [.sl [[.int .i64 n], [.int .i64 n_1], [.int .i64 n_2]]]) fun (v : AV) => kInt .i64 v fun (n : Int) => some (.int .i64 n) else bif c0_0 == (9 : Int) then bif (↑(List.length 
  c0_3) : Int) == (2 : Int) then bif (↑(List.length c1_3) : Int) == (2 : Int) then bif ltInt (0 : Int) (↑(List.length c0_3) : Int) then kOpt (List.get?Internal c0_3 0) fun (row : List 
  AV) => bif Nat.beq (List.length row) 4 then bif Nat.ble 4 (List.length row) then kTmC (List.take 4 row) fun (n n_1 : Int) (s : List UInt8) (rows : List (List AV)) => (bif ltInt (0 : 
  Int) (↑(List.length c1_3) : Int) then kOpt (List.get?Internal c1_3 0) fun (row : List AV) => bif Nat.beq (List.length row) 4 then bif Nat.ble 4 (List.length row) then kTmC (List.take 
  4 row) fun (n_2 n_3 : Int) (s_1 : List UInt8) (rows_1 : List (List AV)) => (kOpt (EVs (EV cfg) 25 [.agg [.int .i64 n, .int .i64 n_1, .str s, .sl rows], .agg [.int .i64 n_2, .int .i64 
  n_3, .str s_1, .sl rows_1]]) fun (v : AV) => kInt .i64 v fun (n : Int) => bif n != (0 : Int) then some (.int .i64 n) else bif ltInt (1 : Int) (↑(List.length c0_3) : Int) then kOpt (List.get?Internal 
  c0_3 1) fun (row : List AV) => bif Nat.beq (List.length row) 4 then bif Nat.ble 4 (List.length row) then kTmC (List.take 4 row) fun (n n_4 : Int) (s : List UInt8) (rows : List (List 
  AV)) => (bif ltInt (1 : Int) (↑(List.length c1_3) : Int) then kOpt (List.get?Internal c1_3 1) fun (row : List AV) => bif Nat.beq (List.length row) 4 then bif Nat.ble 4 (List.length 
  row) then kTmC (List.take 4 row) fun (n_5 n_6 : Int) (s_2 : List UInt8) (rows_2 : List (List AV)) => (wq15_0 n n_4 s rows n_5 n_6 s_2 rows_2) else none else none else none) else none 
  else none else none) else none else none else none) else none else none else none else kOpt (EVs (EV cfg) 62 [.int .i64 (↑(List.length c0_3) : Int), .int .i64 (↑(List.length c1_3) : 
  Int)]) fun (v : AV) => kInt .i64 v fun (n : Int) => kOpt (EVs (EV cfg) 69 [.sl c0_3, .sl c1_3]) fun (v : AV) => kInt .i64 v fun (n_1 : Int) => kOpt (EVs (EV cfg) 68 [.sl [[.int .i64 
  n], [.int .i64 n_1]]]) fun (v : AV) => kInt .i64 v fun (n : Int) => some (.int .i64 n) else kOpt (EVs (EV cfg) 62 [.int .i64 (↑(List.length c0_3) : Int), .int .i64 (↑(List.length c1_3) 
  : Int)]) fun (v : AV) => kInt .i64 v fun (n : Int) => kOpt (EVs (EV cfg) 69 [.sl c0_3, .sl c1_3]) fun (v : AV) => kInt .i64 v fun (n_1 : Int) => kOpt (EVs (EV cfg) 68 [.sl [[.int .i64 
  n], [.int .i64 n_1]]]) fun (v : AV) => kInt .i64 v fun (n : Int) => some (.int .i64 n) else bif c0_0 == (7 : Int) then kOpt (EVs (EV cfg) 62 [.int .i64 (↑(List.length c0_3) : Int), 
  .int .i64 (↑(List.length c1_3) : Int)]) fun (v : AV) => kInt .i64 v fun (n : Int) => kOpt (EVs (EV cfg) 69 [.sl c0_3, .sl c1_3]) fun (v : AV) => kInt .i64 v fun (n_1 : Int) => kOpt 
  (EVs (EV cfg) 68 [.sl [[.int .i64 n], [.int .i64 n_1]]]) fun (v : AV) => kInt .i64 v fun (n : Int) => some (.int .i64 n) else some (.int .i64 (0 : Int))) P) : Gets (wq15_0 c0_0 c0_1 c0_2 c0_3 c1_0 c1_1 c1_2 c1_3) P :=
  Gets.ev (fun _ h => loop_step (cfg := cfg) (f := 25) (rd := none) (bs := 0) h) (Gets.eq (by kernel_rfl) h)
end Go.Proofs.YteojjjhhmbogfaaGreat
end

section
namespace Go.Proofs.YteojjjhhmbogfaaGreat
open Go.Av
set_option maxRecDepth 100000

theorem isNaN_ev (a : Int) : EVs (EV cfg) 97 [.int .i64 a] = some (.bool false) := by
  apply Gets.get
  refine isNaNI_run _ ?_
  simp
theorem cmp_ev (a b : Int) : EVs (EV cfg) 62 [.int .i64 a, .int .i64 b] = some (.int .i64 (numC a b)) := by
  apply Gets.get
  refine cmpI_run _ _ ?_
  rw [isNaN_ev, isNaN_ev]
  unfold numC
  by_cases h1 : a < b
  · simp [h1]
  · by_cases h2 : b < a
    · simp [h1, h2]
    · simp [h1, h2]
theorem cmpstr_ev (a b : List UInt8) : EVs (EV cfg) 130 [.str a, .str b] = some (.int .i64 (strC a b)) := by
  refine EVs_of (H := []) (EV_of ?_)
  have hx : cfg.ext 130 = some extCmp := rfl
  unfold evBody
  simp only [hx]
  unfold extCmp strC
  by_cases h : a = b
  · simp [h]
  · simp [h]
theorem strCmp_ev (a b : List UInt8) : EVs (EV cfg) 67 [.str a, .str b] = some (.int .i64 (strC a b)) := by
  have h96 : EVs (EV cfg) 104 [.str a, .str b] = some (.int .i64 (strC a b)) := by
    apply Gets.get
    refine cmpStr_run _ _ ?_
    rw [cmpstr_ev]; simp
  apply Gets.get
  refine cmpSt_run _ _ ?_
  rw [h96]; simp
theorem or3_ev (a b c : Int) : EVs (EV cfg) 68 [.sl [[.int .i64 a], [.int .i64 b], [.int .i64 c]]] = some (.int .i64 (if a ≠ 0 then a else if b ≠ 0 then b else c)) := by
  apply Gets.get
  refine or3_run _ _ _ ?_
  have w1 : IntKind.wrap .i64 (0 + 1) = 1 := wrap64 (by omega) (by omega)
  have w2 : IntKind.wrap .i64 (1 + 1) = 2 := wrap64 (by omega) (by omega)
  have w3 : IntKind.wrap .i64 (2 + 1) = 3 := wrap64 (by omega) (by omega)
  have s3 : Gets (wq62_0 a b c 3) (· = .int .i64 0) := by
    refine wq62_0_step _ _ _ _ ?_
    simp
  have s2 : Gets (wq62_0 a b c 2) (· = .int .i64 c) := by
    refine wq62_0_step _ _ _ _ ?_
    rw [w3]
    by_cases h : c = 0
    · subst h; simp; exact s3
    · simp [bneD, h]
  have s1 : Gets (wq62_0 a b c 1) (· = .int .i64 (if b ≠ 0 then b else c)) := by
    refine wq62_0_step _ _ _ _ ?_
    rw [w2]
    by_cases h : b = 0
    · subst h; simp; exact s2
    · simp [bneD, h]
  refine wq62_0_step _ _ _ _ ?_
  rw [w1]
  by_cases h : a = 0
  · subst h; simp only [ne_eq, ite_not] at s1; simp; exact s1
  · simp [bneD, h]
theorem or2_ev (a b : Int) : EVs (EV cfg) 68 [.sl [[.int .i64 a], [.int .i64 b]]] = some (.int .i64 (if a ≠ 0 then a else b)) := by
  apply Gets.get
  refine or2_run _ _ ?_
  have w1 : IntKind.wrap .i64 (0 + 1) = 1 := wrap64 (by omega) (by omega)
  have w2 : IntKind.wrap .i64 (1 + 1) = 2 := wrap64 (by omega) (by omega)
  have s2 : Gets (wq62_0a a b 2) (· = .int .i64 0) := by
    refine wq62_0a_step _ _ _ ?_
    simp
  have s1 : Gets (wq62_0a a b 1) (· = .int .i64 b) := by
    refine wq62_0a_step _ _ _ ?_
    rw [w2]
    by_cases h : b = 0
    · subst h; simp; exact s2
    · simp [bneD, h]
  refine wq62_0a_step _ _ _ ?_
  rw [w1]
  by_cases h : a = 0
  · subst h; simp; exact s1
  · simp [bneD, h]
theorem drop_get {β : Type} {l : List β} {i : Nat} {x : β} (h : l[i]? = some x) : l.drop i = x :: l.drop (i + 1) := by
  obtain ⟨h1, h2⟩ := List.getElem?_eq_some_iff.1 h
  rw [← h2]; exact List.drop_eq_getElem_cons h1

theorem dropNil {β : Type} {l : List β} {i : Nat} (h : l.length ≤ i) : l.drop i = [] := List.drop_eq_nil_of_le h

theorem listsE_of (la lb : List Tm) (hlen : la.length < 1099511627776) (ih : ∀ a ∈ la, ∀ b ∈ lb, EVs (EV cfg) 25 [a.av, b.av] = some (.int .i64 (cmpT a b))) :
    EVs (EV cfg) 63 [.sl (rowsT la), .sl (rowsT lb), .fn (.func 25) [] []] = some (.int .i64 (cmpE la lb)) := by
  have loop : ∀ (d i : Nat), i + d = la.length → Gets (wq97_0 (rowsT la) (rowsT lb) i) (· = .int .i64 (cmpE (la.drop i) (lb.drop i))) := by
    intro d
    induction d with
    | zero =>
      intro i hi
      refine wq97_0_step _ _ _ ?_
      rw [dropNil (l := la) (by omega)]
      by_cases h : i < lb.length
      · obtain ⟨y, hy⟩ : ∃ y, lb[i]? = some y := ⟨_, List.getElem?_eq_getElem h⟩
        rw [drop_get hy, cmpE_nil_cons]
        simp [show ¬ i < la.length by omega, show la.length < lb.length by omega]
      · rw [dropNil (l := lb) (by omega), cmpE_nil]
        simp [show ¬ i < la.length by omega, show ¬ la.length < lb.length by omega]
    | succ d ihd =>
      intro i hi
      refine wq97_0_step _ _ _ ?_
      obtain ⟨x, hx⟩ : ∃ x, la[i]? = some x := ⟨_, List.getElem?_eq_getElem (by omega)⟩
      rw [drop_get hx]
      by_cases h : i < lb.length
      · obtain ⟨y, hy⟩ : ∃ y, lb[i]? = some y := ⟨_, List.getElem?_eq_getElem h⟩
        have hix := ih x (List.mem_of_getElem? hx) y (List.mem_of_getElem? hy)
        have hih := ihd (i + 1) (by omega)
        rw [drop_get hy, cmpE_cons]
        obtain ⟨k, n, s, l⟩ := x
        obtain ⟨k', n', s', l'⟩ := y
        simp only [get?Internal_eq, Int.toNat_natCast, rowsT_some hx, rowsT_some hy]
        simp [show i < la.length by omega, h, show ¬ lb.length ≤ i by omega, hix, bneD]
        by_cases hc : cmpT (.mk k n s l) (.mk k' n' s' l') = 0
        · simp [hc]; rw [wrap_succ (n := la.length) (by omega) hlen]; exact hih
        · simp [hc]
      · rw [dropNil (l := lb) (by omega), cmpE_cons_nil]
        obtain ⟨k, n, s, l⟩ := x
        simp only [get?Internal_eq, Int.toNat_natCast, rowsT_some hx]
        simp [show i < la.length by omega, show lb.length ≤ i by omega]
  apply Gets.get
  refine cmpFunc_run _ _ ?_
  exact loop la.length 0 (by omega)

theorem lists_of (la lb : List Tm) (hlen : la.length < 1099511627776) (ih : ∀ a ∈ la, ∀ b ∈ lb, EVs (EV cfg) 25 [a.av, b.av] = some (.int .i64 (cmpT a b))) :
    EVs (EV cfg) 69 [.sl (rowsT la), .sl (rowsT lb)] = some (.int .i64 (cmpE la lb)) := by
  apply Gets.get
  refine order_lists_run _ _ ?_
  rw [listsE_of la lb hlen ih]
  simp

theorem compare_loop (a : Tm) : a.Ok → ∀ (kb nb : Int) (sb : List UInt8) (lb : List Tm), (Tm.mk kb nb sb lb).Ok → Gets (wq15_0 a.kind a.num a.str (rowsT a.subs) kb nb sb (rowsT lb)) (· = .int .i64 (cmpT a (.mk kb nb sb lb))) := by
  induction a using Tm.ind with
  | _ k n s l ih =>
    intro hok kb nb sb lb hokb
    have ihe : ∀ a ∈ l, ∀ b ∈ lb, EVs (EV cfg) 25 [a.av, b.av] = some (.int .i64 (cmpT a b)) := by
      intro a ha b hb
      have := ih a ha (hok.sub ha)
      have hob := hokb.sub hb
      obtain ⟨k1, n1, s1, l1⟩ := a
      obtain ⟨k2, n2, s2, l2⟩ := b
      rw [Tm.av_mk, Tm.av_mk]
      apply Gets.get
      exact oCompare_run _ _ _ _ _ _ _ _ (this k2 n2 s2 l2 hob)
    have hlists := lists_of l lb hok.len ihe
    rw [cmpT_eq]
    refine wq15_0_step _ _ _ _ _ _ _ _ ?_
    simp only [Tm.kind, Tm.num, Tm.str, Tm.subs, cmp_ev, strCmp_ev, hlists, or2_ev, or3_ev, rowsT_length, kOptSome, kInt_int, bneD, beqD]
    by_cases h0 : ¬ numC k kb = 0
    · simp [h0]
    have h0 : numC k kb = 0 := Classical.not_not.1 h0
    simp [h0]
    by_cases h1 : k = 1
    · simp [h1]
    by_cases h3 : k = 3
    · simp [h3]
    by_cases h4 : k = 4
    · simp [h4]
    by_cases h6 : k = 6
    · simp [h6]
    by_cases h2 : k = 2
    · simp [h2]
    by_cases h5 : k = 5
    · simp [h5, cmpL]
    by_cases h9 : k = 9
    · subst h9
      by_cases hl : l.length = 2
      · by_cases hl' : lb.length = 2
        · obtain ⟨x, y, rfl⟩ : ∃ x y, l = [x, y] := by
            match l, hl with
            | [x, y], _ => exact ⟨x, y, rfl⟩
          obtain ⟨x', y', rfl⟩ : ∃ x y, lb = [x, y] := by
            match lb, hl' with
            | [x, y], _ => exact ⟨x, y, rfl⟩
          have hx := ihe x (by simp) x' (by simp)
          have hy := ih y (by simp) (hok.sub (by simp))
          have hoy := hokb.sub (t := y') (by simp)
          have hcl : cmpL [x, y] [x', y'] = if cmpT x x' ≠ 0 then cmpT x x' else cmpT y y' := by
            unfold cmpL
            rw [cmpE_cons, cmpE_cons, cmpE_nil]
            by_cases e1 : cmpT x x' = 0 <;> by_cases e2 : cmpT y y' = 0 <;> simp [numC_self, e1, e2]
          obtain ⟨k1, n1, s1, l1⟩ := x
          obtain ⟨k2, n2, s2, l2⟩ := y
          obtain ⟨k1', n1', s1', l1'⟩ := x'
          obtain ⟨k2', n2', s2', l2'⟩ := y'
          have hyy := hy k2' n2' s2' l2' hoy
          simp only [rowsT_cons, rowsT_nil, Tm.cells_mk]
          simp [hcl, hx]
          by_cases hc : cmpT (.mk k1 n1 s1 l1) (.mk k1' n1' s1' l1') = 0
          · simp [hc]; exact hyy
          · simp [hc]
        · have : ¬ ((lb.length : Int) = 2) := by omega
          simp [hl, this, cmpL]
      · have : ¬ ((l.length : Int) = 2) := by omega
        simp [this, cmpL]
    by_cases h7 : k = 7
    · simp [h7, cmpL]
    simp [h1, h2, h3, h4, h5, h6, h7, h9]

theorem compare_ev {a b : Tm} (ha : a.Ok) (hb : b.Ok) : EVs (EV cfg) 25 [a.av, b.av] = some (.int .i64 (cmpT a b)) := by
  have := compare_loop a ha
  obtain ⟨k1, n1, s1, l1⟩ := a
  obtain ⟨k2, n2, s2, l2⟩ := b
  rw [Tm.av_mk, Tm.av_mk]
  apply Gets.get
  exact oCompare_run _ _ _ _ _ _ _ _ (this k2 n2 s2 l2 hb)

end Go.Proofs.YteojjjhhmbogfaaGreat
end

section
namespace Go.Proofs.YteojjjhhmbogfaaGreat
open Go.Av
set_option maxRecDepth 100000
set_option maxHeartbeats 0

noncomputable def Lh64_0 : Den := evC cfg (EV cfg) 91 none 1 (sub (bodyOf Tryz.f91) [1, 1, 1, 0, 1, 0, 0])
noncomputable def Ah64_0 : Ex × List AV × AH → Option (AV × List (List AV)) := kAft (Cfg.keepOut cfg 91 6) (kRun cfg (EV cfg) (kfN cfg 6) 91 none 1 (kFinX cfg 1 (Cfg.lift cfg 91 0) Tryz.f91.results.toList) ([.block 0, .seq (sub (bodyOf Tryz.f91) [1, 1, 1, 1])]))
noncomputable def Wh64_0 : List AV × AH → Option (AV × List (List AV)) := fun p => kOpt (LOOP 1 (some [1, 2, 3, 4, 18, 19, 20]) ([]) Lh64_0 p) Ah64_0
noncomputable def Lh47_0 : Den := evC cfg (EV cfg) 71 none 0 (sub (bodyOf Tryz.f71) [1, 1, 1, 0, 1, 0, 0])
noncomputable def Ah47_0 : Ex × List AV × AH → Option AV := kAft (Cfg.keepOut cfg 71 5) (kRun cfg (EV cfg) (kfN cfg 6) 71 none 0 (kFinS cfg (Cfg.lift cfg 71 0) Tryz.f71.results.toList) ([.block 0, .seq (sub (bodyOf Tryz.f71) [1, 1, 1, 1])]))
noncomputable def Wh47_0 : List AV × AH → Option AV := fun p => kOpt (LOOP 0 (some [1, 2, 5, 6]) ([]) Lh47_0 p) Ah47_0
noncomputable abbrev wh64_0 (lt : List (List AV)) (v20 : Int) (c1_0 : Int) (c1_1 : Int) (c1_2 : List UInt8) (c1_3 : List (List AV)) (c2_0 : Int) (c2_1 : Int) (c2_2 : List UInt8) (c2_3 : List (List AV)) (h3 : List (List AV)) : Option (AV × List (List AV)) := Wh64_0  (((fx 35 [(1, AV.ptr (0 : Nat) (0 : Nat) (0 : Nat)), (2, AV.ptr (1 : Nat) (0 : Nat) (0 : Nat)), (3, AV.ptr (2 : Nat) (0 : Nat) (0 : Nat)), (4, AV.ms (3 : Nat) (0 : Nat) (Int.toNat (↑(List.length lt) : Int))), (18, AV.sl lt), (19, AV.int IntKind.i64 (↑(List.length lt) : Int)), (20, AV.int IntKind.i64 v20)]) : List AV), ([ABlk.rows false (1 : Nat) [[AV.fn (Fn.func 91) [] [AV.ptr (0 : Nat) (0 : Nat) (0 : Nat)]]], ABlk.rows false (4 : Nat) [[AV.int IntKind.i64 c1_0, AV.int IntKind.i64 c1_1, AV.str c1_2, AV.sl c1_3]], ABlk.rows false (4 : Nat) [[AV.int IntKind.i64 c2_0, AV.int IntKind.i64 c2_1, AV.str c2_2, AV.sl c2_3]], ABlk.rows true (4 : Nat) h3] : AH))
noncomputable abbrev wh47_0 (most : Int) (v5 : Int) (v6 : Int) (c0_0 : Int) (c0_1 : Int) (c0_2 : List UInt8) (c0_3 : List (List AV)) : Option (AV) := Wh47_0  (((fx 43 [(1, AV.int IntKind.i64 most), (2, AV.ptr (0 : Nat) (0 : Nat) (0 : Nat)), (5, AV.int IntKind.i64 v5), (6, AV.int IntKind.i64 v6)]) : List AV), ([ABlk.rows false (4 : Nat) [[AV.int IntKind.i64 c0_0, AV.int IntKind.i64 c0_1, AV.str c0_2, AV.sl c0_3]]] : AH))
theorem term_Copy_run (kt : Int) (nt : Int) (st : List UInt8) (lt : List (List AV)) {P : AV → Prop} (h : Gets (kOpt (EVk (EV cfg) 91 [.agg [.int .i64 kt, .int .i64 nt, .str st, .sl lt], .ptr 0 0 0] 1 [[AV.fn (Fn.func 91) [] [.ptr 0 0 0]]]) fun (q : AV) => kTmV q fun (n n_1 : Int) (s : List UInt8) 
  (rows : List (List AV)) => (some (.agg [.int .i64 n, .int .i64 n_1, .str s, .sl rows]))) P) : Gets (EVf (EV cfg) 52 ([AV.agg [AV.int IntKind.i64 kt, AV.int IntKind.i64 nt, AV.str st, AV.sl lt]] : List AV)) P :=
  Gets.ev (fun _ h => funF rfl rfl Tryz.func52 rfl h) (Gets.eq (by kernel_rfl) h)
theorem copyIn_run (kt : Int) (nt : Int) (st : List UInt8) (lt : List (List AV)) {P : AV × List (List AV) → Prop} (h : Gets (bif (↑(List.length lt) : Int) == (0 : Int) then bif AV.refsLt 0 (.agg [.int .i64 kt, .int .i64 nt, .str st, .sl []]) then some (.agg [.int .i64 kt, .int .i64 nt, .str st, .sl []], [[AV.fn 
  (Fn.func 91) [] [.ptr 0 0 0]]]) else none else bif leInt (0 : Int) (↑(List.length lt) : Int) && leInt (↑(List.length lt) : Int) (↑(List.length lt) : Int) && leInt ((↑(List.length lt) 
  : Int) * (56 : Int)) (140737488355328 : Int) && leInt (↑(List.length lt) : Int) (9223372036854775807 : Int) then wh64_0 lt (0 : Int) kt nt st lt (0 : Int) (0 : Int) [] [] (List.replicate 
  (Int.toNat (↑(List.length lt) : Int)) [.int .i64 (0 : Int), .int .i64 (0 : Int), .str [], .nilS]) else none) P) : Gets (EVx (EV cfg) 91 ([AV.agg [AV.int IntKind.i64 kt, AV.int IntKind.i64 nt, AV.str st, AV.sl lt], AV.ptr (0 : Nat) (0 : Nat) (0 : Nat)] : List AV) 1 [[(AV.fn (Fn.func 91) [] [AV.ptr 0 0 0])]]) P :=
  Gets.ev (fun _ h => funX rfl rfl Tryz.func91 rfl h) (Gets.eq (by kernel_rfl) h)
theorem kitT_run (A : List (List AV)) {P : AV → Prop} (h : Gets (some (.agg [.int .i64 (7 : Int), .int .i64 (0 : Int), .str [], .sl A])) P) : Gets (EVf (EV cfg) 24 ([AV.sl A] : List AV)) P :=
  Gets.ev (fun _ h => funF rfl rfl Tryz.func24 rfl h) (Gets.eq (by kernel_rfl) h)
theorem kitBig_run (kt : Int) (nt : Int) (st : List UInt8) (lt : List (List AV)) (most : Int) {P : AV → Prop} (h : Gets (kOpt (EVs (EV cfg) 71 [.agg [.int .i64 kt, .int .i64 nt, .str st, .sl lt], .int .i64 (IntKind.wrap .i64 (most + (1 : Int)))]) fun (v : AV) => kInt .i64 v fun (n : Int) => some (.bool 
  (decide (n > most)))) P) : Gets (EVs (EV cfg) 27 ([AV.agg [AV.int IntKind.i64 kt, AV.int IntKind.i64 nt, AV.str st, AV.sl lt], AV.int IntKind.i64 most] : List AV)) P :=
  Gets.ev (fun _ h => funS rfl rfl Tryz.func27 rfl h) (Gets.eq (by kernel_rfl) h)
theorem kitSize_run (kt : Int) (nt : Int) (st : List UInt8) (lt : List (List AV)) (most : Int) {P : AV → Prop} (h : Gets (bif decide ((↑(List.length st) : Int) > (100 : Int)) then some (.int .i64 most) else bif decide ((↑(List.length lt) : Int) > most) then some (.int .i64 most) else wh47_0 most (1 : Int) 
  (0 : Int) kt nt st lt) P) : Gets (EVs (EV cfg) 71 ([AV.agg [AV.int IntKind.i64 kt, AV.int IntKind.i64 nt, AV.str st, AV.sl lt], AV.int IntKind.i64 most] : List AV)) P :=
  Gets.ev (fun _ h => funS rfl rfl Tryz.func71 rfl h) (Gets.eq (by kernel_rfl) h)
theorem wh64_0_step (lt : List (List AV)) (v20 : Int) (c1_0 : Int) (c1_1 : Int) (c1_2 : List UInt8) (c1_3 : List (List AV)) (c2_0 : Int) (c2_1 : Int) (c2_2 : List UInt8) (c2_3 : List (List AV)) (h3 : List (List AV)) {P : AV × List (List AV) → Prop} (h : Gets (bif decide (v20 < (↑(List.length lt) : Int)) then bif leInt (0 : Int) v20 && ltInt v20 (↑(List.length lt) : Int) then kOpt (List.get?Internal lt (Int.toNat v20)) fun (row : List AV) 
  => bif Nat.beq (List.length row) 4 then bif Nat.ble 4 (List.length row) then kTmC (List.take 4 row) fun (n n_1 : Int) (s : List UInt8) (rows : List (List AV)) => (kOpt (EVk (EV cfg) 
  91 [.agg [.int .i64 n, .int .i64 n_1, .str s, .sl rows], .ptr 0 0 0] 1 [[AV.fn (Fn.func 91) [] [.ptr 0 0 0]]]) fun (q : AV) => kTmV q fun (n n_2 : Int) (s : List UInt8) (rows : List 
  (List AV)) => (bif leInt (0 : Int) v20 && ltInt v20 (↑(Int.toNat (↑(List.length lt) : Int)) : Int) then kOpt (List.get?Internal h3 (0 + Int.toNat v20)) fun (row : List AV) => bif Nat.ble 
  4 (List.length row) then wh64_0 lt (IntKind.wrap .i64 (v20 + (1 : Int))) c1_0 c1_1 c1_2 c1_3 c2_0 c2_1 c2_2 c2_3 (List.set h3 (0 + Int.toNat v20) (.int .i64 n :: .int .i64 n_2 :: .str 
  s :: .sl rows :: List.drop 4 row)) else none else none)) else none else none else none else bif Nat.ble (0 + Int.toNat (↑(List.length lt) : Int)) (List.length h3) && true then some 
  (.agg [.int .i64 c1_0, .int .i64 c1_1, .str c1_2, .sl (List.take (Int.toNat (↑(List.length lt) : Int)) h3)], [[AV.fn (Fn.func 91) [] [.ptr 0 0 0]]]) else none) P) : Gets (wh64_0 lt v20 c1_0 c1_1 c1_2 c1_3 c2_0 c2_1 c2_2 c2_3 h3) P :=
  Gets.ev (fun _ h => loop_step (cfg := cfg) (f := 91) (rd := none) (bs := 1) h) (Gets.eq (by kernel_rfl) h)
theorem wh47_0_step (most : Int) (v5 : Int) (v6 : Int) (c0_0 : Int) (c0_1 : Int) (c0_2 : List UInt8) (c0_3 : List (List AV)) {P : AV → Prop} (h : Gets (bif decide (v6 < (↑(List.length c0_3) : Int)) then bif decide (v5 < most) then bif leInt (0 : Int) v6 && ltInt v6 (↑(List.length c0_3) : Int) then kOpt (List.get?Internal c0_3 (Int.toNat 
  v6)) fun (row : List AV) => bif Nat.beq (List.length row) 4 then bif Nat.ble 4 (List.length row) then kTmC (List.take 4 row) fun (n n_1 : Int) (s : List UInt8) (rows : List (List AV)) 
  => (kOpt (EVs (EV cfg) 71 [.agg [.int .i64 n, .int .i64 n_1, .str s, .sl rows], .int .i64 (IntKind.wrap .i64 (most - v5))]) fun (v : AV) => kInt .i64 v fun (n : Int) => wh47_0 most 
  (IntKind.wrap .i64 (v5 + n)) (IntKind.wrap .i64 (v6 + (1 : Int))) c0_0 c0_1 c0_2 c0_3) else none else none else none else some (.int .i64 v5) else some (.int .i64 v5)) P) : Gets (wh47_0 most v5 v6 c0_0 c0_1 c0_2 c0_3) P :=
  Gets.ev (fun _ h => loop_step (cfg := cfg) (f := 71) (rd := none) (bs := 0) h) (Gets.eq (by kernel_rfl) h)
end Go.Proofs.YteojjjhhmbogfaaGreat
end

section
namespace Go.Proofs.YteojjjhhmbogfaaGreat
open Go.Av
def copyCell : List (List AV) := [[AV.fn (Fn.func 91) [] [AV.ptr 0 0 0]]]
theorem copyIn_ev (t : Tm) : t.Ok → EVx (EV cfg) 91 [t.av, .ptr 0 0 0] 1 copyCell = some (t.av, copyCell) := by
  induction t using Tm.ind with
  | _ k n s l ih =>
    intro hok
    have hlen := hok.len
    have loop : ∀ (d i : Nat), i + d = l.length → Gets (wh64_0 (rowsT l) i k n s (rowsT l) 0 0 [] [] (rowsT (l.take i) ++ List.replicate d [.int .i64 0, .int .i64 0, .str [], .nilS])) (· = ((Tm.mk k n s l).av, copyCell)) := by
      intro d
      induction d with
      | zero =>
        intro i hi
        refine wh64_0_step _ _ _ _ _ _ _ _ _ _ _ ?_
        obtain rfl : i = l.length := by omega
        have e : l.take l.length = l := List.take_of_length_le (Nat.le_refl _)
        rw [e]
        simp
        rfl
      | succ d ihd =>
        intro i hi
        refine wh64_0_step _ _ _ _ _ _ _ _ _ _ _ ?_
        have hil : i < l.length := by omega
        have hx : l[i]? = some l[i] := List.getElem?_eq_getElem hil
        have hxl := List.mem_of_getElem? hx
        have hix := EVk_of (ih l[i] hxl (hok.sub hxl))
        have hih := ihd (i + 1) (by omega)
        have hw := wrap_s hil hlen
        have e1 : l.take (i + 1) = l.take i ++ [l[i]] := by rw [List.take_add_one, hx]; rfl
        have ht : (rowsT (l.take i)).length = i := by rw [rowsT_length, List.length_take]; omega
        have g : (rowsT (l.take i) ++ List.replicate (d + 1) [AV.int .i64 0, .int .i64 0, .str [], .nilS])[i]? = some [AV.int .i64 0, .int .i64 0, .str [], .nilS] := by
          rw [List.getElem?_append_right (by omega), ht, Nat.sub_self]; rfl
        have g2 : (rowsT (l.take i) ++ List.replicate (d + 1) [AV.int .i64 0, .int .i64 0, .str [], .nilS]).set i l[i].cells = rowsT (l.take (i + 1)) ++ List.replicate d [AV.int .i64 0, .int .i64 0, .str [], .nilS] := by
          rw [List.set_append_right _ _ (by omega), e1, rowsT_append, rowsT_cons, rowsT_nil]
          have e3 : i - (rowsT (l.take i)).length = 0 := by omega
          rw [e3, List.replicate_succ, List.set_cons_zero, List.append_assoc]; rfl
        simp only [copyCell] at hix
        simp [hil, hx, hix, g, hw]
        rw [g2]
        simpa using hih
    apply Gets.get
    rw [Tm.av_mk]
    refine copyIn_run _ _ _ _ ?_
    rw [rowsT_length]
    by_cases hl : l.length = 0
    · have : l = [] := List.length_eq_zero_iff.1 hl
      subst this
      simp [copyCell, AV.refsLt, refsLtL]
    · have hl' : ((l.length : Int) == 0) = false := by rw [beqD]; exact decide_eq_false (by omega)
      have h56 : leInt ((l.length : Int) * 56) 140737488355328 = true := by simp [leInt]; omega
      have hm : leInt (l.length : Int) 9223372036854775807 = true := by simp [leInt]; omega
      have hz : leInt 0 (l.length : Int) = true := leInt_zero _
      have hs : leInt (l.length : Int) (l.length : Int) = true := by simp [leInt]
      rw [hl', h56, hm, hz, hs]
      have := loop l.length 0 (by omega)
      rw [Tm.av_mk] at this
      simpa using this
theorem copy_ev {t : Tm} (h : t.Ok) : EVf (EV cfg) 52 [t.av] = some t.av := by
  have h1 := EVk_of (copyIn_ev t h)
  obtain ⟨k, n, s, l⟩ := t
  rw [Tm.av_mk] at h1 ⊢
  apply Gets.get
  refine term_Copy_run _ _ _ _ ?_
  simp only [copyCell] at h1
  rw [h1]
  simp [← Tm.av_mk]
end Go.Proofs.YteojjjhhmbogfaaGreat
end

section
namespace Go.Proofs.YteojjjhhmbogfaaGreat
open Go.Av
theorem ops_ev (op : List UInt8) : EVf (EV cfg) 179 [.str op] = some (.sl (intsR (opsG op))) := by
  apply Gets.get
  refine guard_Ops_run _ ?_
  have h := lookS_map (fun l => some (AV.sl (intsR l))) op [] opsTab
  have : Gets (lookS op (some (AV.sl (intsR []))) (opsTab.map fun p => (p.1, some (AV.sl (intsR p.2))))) (· = .sl (intsR (opsG op))) := by
    rw [h]; exact ⟨_, rfl, rfl⟩
  exact this
theorem index_ev (l : List Int) (hl : l.length < 1099511627776) (n : Int) : ∀ d i : Nat, i + d = l.length → Gets (wg65_0 (intsR l) n i) (fun v => ∃ j : Int, v = .int .i64 j ∧ (0 ≤ j ↔ n ∈ l.drop i)) := by
  intro d
  induction d with
  | zero =>
    intro i hi
    refine wg65_0_step _ _ _ ?_
    rw [intsR_len, decide_eq_false (by omega)]
    refine ⟨_, rfl, -1, rfl, ?_⟩
    rw [List.drop_eq_nil_of_le (by omega)]
    simp
  | succ d ih =>
    intro i hi
    have hil : i < l.length := by omega
    refine wg65_0_step _ _ _ ?_
    have hx : l[i]? = some l[i] := List.getElem?_eq_getElem hil
    have hd : l.drop i = l[i] :: l.drop (i + 1) := List.drop_eq_getElem_cons hil
    have h := ih (i + 1) (by omega)
    rw [intsR_len, decide_eq_true (show (i : Int) < (l.length : Int) by omega), leInt_zero, ltInt_nat, decide_eq_true hil, get?Internal_eq, Int.toNat_natCast, intsR_get, hx, wrap_succ hil hl]
    by_cases he : n = l[i]
    · refine ⟨.int .i64 i, ?_, i, rfl, ?_⟩
      · simp [he]
      · rw [hd, he]; exact ⟨fun _ => List.mem_cons_self, fun _ => by omega⟩
    · have hne : (n == l[i]) = false := by rw [beqI]; exact decide_eq_false he
      simp [hne]
      refine Gets.mono (by simpa using h) ?_
      rintro _ ⟨j, rfl, hj⟩
      exact ⟨j, rfl, by rw [hj, hd, List.mem_cons]; exact ⟨Or.inr, fun h => h.resolve_left he⟩⟩
theorem contains_ev (l : List Int) (hl : l.length < 1099511627776) (n : Int) : EVs (EV cfg) 177 [.sl (intsR l), .int .i64 n] = some (.bool (decide (n ∈ l))) := by
  obtain ⟨_, h1, j, rfl, hj⟩ := index_ev l hl n l.length 0 (by omega)
  have h2 : EVs (EV cfg) 185 [.sl (intsR l), .int .i64 n] = some (.int .i64 j) := by
    apply Gets.get
    exact indexI_run _ _ ⟨_, h1, rfl⟩
  apply Gets.get
  refine containsI_run _ _ ?_
  rw [h2]
  rw [List.drop_zero] at hj
  refine ⟨_, rfl, ?_⟩
  show AV.bool (decide (j ≥ 0)) = _
  congr 1
  exact decide_eq_decide.2 hj
end Go.Proofs.YteojjjhhmbogfaaGreat
end

section
namespace Go.Proofs.YteojjjhhmbogfaaGreat
open Go.Av
theorem opsG_len (op : List UInt8) : (opsG op).length < 1099511627776 := by
  have : ∀ (l : List (List UInt8 × List Int)), (∀ p ∈ l, p.2.length ≤ 2) → (lookS op [] l).length ≤ 2 := by
    intro l
    induction l with
    | nil => intro _; simp [lookS]
    | cons p l ih =>
      intro h
      rw [lookS]
      cases op == p.1
      · exact ih fun q hq => h q (by simp [hq])
      · exact h p (by simp)
  have := this opsTab (by decide)
  unfold opsG
  omega
theorem all_of {V : List Int} {l : List Tm} (hlen : l.length < 1099511627776) (ih : ∀ x ∈ l, EVs (EV cfg) 162 [x.av, .sl (intsR V)] = some (.bool (isG V x))) :
    EVs (EV cfg) 178 [.sl (rowsT l), .sl (intsR V)] = some (.bool (allG V l)) := by
  have hin : ∀ x ∈ l, EVs (EV cfg) 186 [x.av, .cptr [.sl (intsR V)] 0] = some (.bool (!isG V x)) := by
    intro x hx
    have h := ih x hx
    apply Gets.get
    rw [Tm.av, Tm.cells_eq] at h ⊢
    refine allIn_run _ _ _ _ _ ?_
    rw [h]; exact ⟨_, rfl, rfl⟩
  have loop : ∀ d i : Nat, i + d = l.length → Gets (wt86_0 (rowsT l) (intsR V) i) (fun v => ∃ j : Int, v = .int .i64 j ∧ (0 ≤ j ↔ allG V (l.drop i) = false)) := by
    intro d
    induction d with
    | zero =>
      intro i hi
      refine wt86_0_step _ _ _ ?_
      rw [rowsT_length, decide_eq_false (by omega)]
      refine ⟨_, rfl, -1, rfl, ?_⟩
      rw [List.drop_eq_nil_of_le (by omega)]
      simp [allG]
    | succ d ihd =>
      intro i hi
      have hil : i < l.length := by omega
      refine wt86_0_step _ _ _ ?_
      have hx : l[i]? = some l[i] := List.getElem?_eq_getElem hil
      have hd : l.drop i = l[i] :: l.drop (i + 1) := List.drop_eq_getElem_cons hil
      have h1 := hin l[i] (List.mem_of_getElem? hx)
      have h2 := ihd (i + 1) (by omega)
      rw [rowsT_length, decide_eq_true (show (i : Int) < (l.length : Int) by omega), leInt_zero, ltInt_nat, decide_eq_true hil, rowsT_at hx, wrap_succ hil hlen]
      simp only [cond_true, Bool.and_self, length_cells, Nat.beq_refl, take_cells, kTmC_cells, show Nat.ble 4 4 = true from rfl, av_unf, h1, kOptSome, kBool_bool]
      cases hg : isG V l[i] with
      | false =>
        refine ⟨_, rfl, i, rfl, ?_⟩
        rw [hd, allG, hg]
        exact ⟨fun _ => rfl, fun _ => by omega⟩
      | true =>
        refine h2.mono ?_
        rintro _ ⟨j, rfl, hj⟩
        refine ⟨j, rfl, ?_⟩
        rw [hd, allG, hg, Bool.true_and]; exact hj
  obtain ⟨_, h1, j, rfl, hj⟩ := loop l.length 0 (by omega)
  rw [List.drop_zero] at hj
  have h2 : EVs (EV cfg) 31 [.sl (rowsT l), .fn (.func 186) [] [.cptr [.sl (intsR V)] 0]] = some (.int .i64 j) := by
    apply Gets.get
    exact indFunc_run _ _ ⟨_, h1, rfl⟩
  have h3 : EVs (EV cfg) 55 [.sl (rowsT l), .fn (.func 186) [] [.cptr [.sl (intsR V)] 0]] = some (.bool (decide (j ≥ 0))) := by
    apply Gets.get
    refine contFunc_run _ _ ?_
    rw [h2]; exact ⟨_, rfl, rfl⟩
  apply Gets.get
  refine guardAll_run _ _ ?_
  rw [h3]
  refine ⟨_, rfl, ?_⟩
  show AV.bool (!decide (j ≥ 0)) = _
  congr 1
  cases ha : allG V l with
  | false => rw [decide_eq_true (hj.2 ha)]; rfl
  | true =>
    have : ¬ j ≥ 0 := fun h => by have := hj.1 h; rw [ha] at this; cases this
    rw [decide_eq_false this]; rfl
theorem is_ev {V : List Int} (hV : V.length < 1099511627776) : ∀ (n : Nat) (t : Tm), t.w ≤ n → n < 1099511627776 → EVs (EV cfg) 162 [t.av, .sl (intsR V)] = some (.bool (isG V t)) := by
  intro n
  induction n with
  | zero => intro t h; have := w_pos t; omega
  | succ n ih =>
    intro t hw hn
    have hwe := t.w_eq
    have hwl := wL_len t.subs
    have allOf : ∀ l : List Tm, wL l ≤ n → EVs (EV cfg) 178 [.sl (rowsT l), .sl (intsR V)] = some (.bool (allG V l)) := fun l hl =>
      all_of (by have := wL_len l; omega) fun x hx => ih x (by have := wL_mem hx; omega) (by omega)
    have hvar := patVar_ev (t := t) (by omega)
    have hsub := allOf t.subs (by omega)
    apply Gets.get
    rw [Tm.av, Tm.cells_eq] at hvar ⊢
    refine guardIs_run _ _ _ _ _ ?_
    rw [hvar, hsub]
    simp only [beqI, kOptSome, kBool_bool]
    by_cases h2 : t.kind = 2
    · rw [decide_eq_true h2, cond_true, isG_atom h2]
      simp only [varR, kTup, kCons, kInt_int, kBool_bool, kNil]
      cases hv : varT t with
      | none => exact ⟨_, rfl, rfl⟩
      | some x =>
        have hc := contains_ev V hV x
        simp only [Option.getD_some, Option.isSome_some, Bool.not_true, cond_false]
        rw [hc]; exact ⟨_, rfl, rfl⟩
    · rw [decide_eq_false h2, cond_false]
      by_cases h9 : t.kind = 9
      · rw [decide_eq_true h9, cond_true, isG_cons h9]; exact ⟨_, rfl, rfl⟩
      · rw [decide_eq_false h9, cond_false]
        by_cases h7 : t.kind = 7
        · rw [decide_eq_true h7, cond_true]
          cases hl : t.subs with
          | nil => rw [isG_nil h7 hl]; exact ⟨_, rfl, rfl⟩
          | cons f r =>
            rw [isG_tup h7 hl]
            rw [hl] at hwl hwe
            rw [wL_cons] at hwe
            have hfw := f.w_eq
            have hfs := allOf f.subs (by omega)
            have hr := allOf r (by omega)
            have c0 : (decide (((rowsT (f :: r)).length : Int) = 0)) = false := by rw [rowsT_length]; exact decide_eq_false (by simp; omega)
            have c1 : ltInt 0 ((rowsT (f :: r)).length : Int) = true := by rw [rowsT_length]; exact decide_eq_true (by simp)
            have c2 : leInt 1 ((rowsT (f :: r)).length : Int) = true := by rw [rowsT_length]; exact decide_eq_true (by simp; omega)
            have g0 : (rowsT (f :: r))[(0 : Int).toNat]? = some f.cells := by rw [rowsT_cons]; rfl
            have tk : List.take ((rowsT (f :: r)).length - 1) (List.drop 1 (rowsT (f :: r))) = rowsT r := by
              rw [rowsT_cons, List.drop_succ_cons, List.drop_zero, List.length_cons, Nat.add_sub_cancel, List.take_length]
            have g0' : (rowsT (f :: r))[0]? = some f.cells := g0
            rw [c0, c1, c2, tk]
            simp only [cond_false, cond_true, get?Internal_eq, g0, g0', kOptSome, length_cells, Nat.beq_refl, show Nat.ble 4 4 = true from rfl, take_cells, kTmC_cells, rowsOk_rowsT, rowsT_length, beqS]
            by_cases f7 : f.kind = 7
            · rw [if_pos f7, decide_eq_true f7, cond_true, hfs]
              by_cases hrl : r.length = 0
              · have : decide ((r.length : Int) = 0) = true := decide_eq_true (by omega)
                rw [this, decide_eq_true hrl]; exact ⟨_, rfl, rfl⟩
              · have : decide ((r.length : Int) = 0) = false := decide_eq_false (by omega)
                rw [this, decide_eq_false hrl]; exact ⟨_, rfl, rfl⟩
            · rw [if_neg f7, decide_eq_false f7, cond_false]
              by_cases f2 : f.kind = 2
              · have : (f.kind != 2) = false := by rw [f2]; rfl
                rw [if_pos f2, this, cond_false]
                by_cases hc : f.str = [99, 111, 110, 115, 116]
                · rw [if_pos hc, decide_eq_true hc]
                  refine ⟨_, rfl, ?_⟩
                  show AV.bool (decide ((r.length : Int) = 1)) = _
                  congr 1
                  exact decide_eq_decide.2 (by omega)
                · rw [if_neg hc, decide_eq_false hc, cond_false, ops_ev]
                  have hcn := contains_ev (opsG f.str) (opsG_len f.str) (r.length : Int)
                  simp only [kOptSome, kSl_sl, hcn, kBool_bool, hr]
                  cases decide ((r.length : Int) ∈ opsG f.str) <;> exact ⟨_, rfl, rfl⟩
              · have : (f.kind != 2) = true := by simpa using f2
                rw [if_neg f2, this]; exact ⟨_, rfl, rfl⟩
        · rw [decide_eq_false h7, isG_other h2 h9 h7]; exact ⟨_, rfl, rfl⟩
theorem guardCheck_ev {V : List Int} (hV : V.length < 1099511627776) {t : Tm} (h : t.w < 1099511627776) : EVs (EV cfg) 138 [t.av, .sl (intsR V)] = some (.int .i64 (checkG V t)) := by
  have hc := check_ev h
  have hi := is_ev hV t.w t (Nat.le_refl _) h
  apply Gets.get
  rw [Tm.av, Tm.cells_eq] at hc hi ⊢
  refine guardCheck_run _ _ _ _ _ ?_
  rw [hc, hi]
  unfold checkG
  simp only [kOptSome, kInt_int, kBool_bool]
  by_cases h0 : t.chk = 0
  · have : (t.chk != 0) = false := by rw [h0]; rfl
    rw [this, if_pos h0]
    cases isG V t <;> exact ⟨_, rfl, rfl⟩
  · have : (t.chk != 0) = true := by simpa using h0
    rw [this, if_neg h0]; exact ⟨_, rfl, rfl⟩
end Go.Proofs.YteojjjhhmbogfaaGreat
end

section
namespace Go.Av
theorem get0T (x : Tm) (l : List Tm) : List.get?Internal (rowsT (x :: l)) 0 = some x.cells := by rw [get?Internal_eq, rowsT_cons]; rfl
theorem get1T (x y : Tm) (l : List Tm) : List.get?Internal (rowsT (x :: y :: l)) 1 = some y.cells := by rw [get?Internal_eq, rowsT_cons, rowsT_cons]; rfl
theorem lt0T (x : Tm) (l : List Tm) : ltInt 0 ((rowsT (x :: l)).length : Int) = true := by rw [rowsT_length]; exact decide_eq_true (by simp)
theorem lt1T (x y : Tm) (l : List Tm) : ltInt 1 ((rowsT (x :: y :: l)).length : Int) = true := by rw [rowsT_length]; exact decide_eq_true (by simp; omega)
theorem ble44 : Nat.ble 4 4 = true := rfl
end Go.Av
namespace Go.Proofs.YteojjjhhmbogfaaGreat
open Go.Av
end Go.Proofs.YteojjjhhmbogfaaGreat
end

section
namespace Go.Av
def pairG (x e : Tm) : Tm := .mk 9 0 [] [x, e]
def makeG (l : List Tm) (e : Tm) : Tm := l.foldr pairG e
end Go.Av
namespace Go.Proofs.YteojjjhhmbogfaaGreat
open Go.Av
theorem makeList_ev {l : List Tm} (hlen : l.length < 1099511627776) (e : Tm) : EVf (EV cfg) 102 [.sl (rowsT l), e.av] = some (makeG l e).av := by
  have loop : ∀ (j : Nat) (a : Tm), j ≤ l.length → Gets (ws78_0 ((j : Int) - 1) a.kind a.num a.str (rowsT a.subs) 0 0 [] [] (rowsT l)) (· = ((l.take j).foldr pairG a).av) := by
    intro j
    induction j with
    | zero =>
      intro a _
      refine ws78_0_step _ _ _ _ _ _ _ _ _ _ ?_
      refine ⟨_, rfl, ?_⟩
      rw [av_unf]; rfl
    | succ j ih =>
      intro a hj
      refine ws78_0_step _ _ _ _ _ _ _ _ _ _ ?_
      have hil : j < l.length := by omega
      have hx : l[j]? = some l[j] := List.getElem?_eq_getElem hil
      have h := ih (pairG l[j] a) (by omega)
      have e1 : l.take (j + 1) = l.take j ++ [l[j]] := by rw [List.take_add_one, hx]; rfl
      have e2 : (((j + 1 : Nat) : Int) - 1) = (j : Int) := by omega
      have w1 : IntKind.wrap .i64 ((j : Int) - 1) = (j : Int) - 1 := wrap64 (by omega) (by omega)
      rw [e2, w1, decide_eq_true (show (j : Int) ≥ 0 by omega), rowsT_length, leInt_zero, ltInt_nat, decide_eq_true hil, rowsT_at hx, e1, List.foldr_append]
      simp only [cond_true, Bool.and_self, length_cells, Nat.beq_refl, take_cells, kTmC_cells, show Nat.ble 4 4 = true from rfl, kOptSome]
      rw [← Tm.cells_eq, ← Tm.cells_eq]
      have e3 : rowsT (pairG l[j] a).subs = [l[j].cells, a.cells] := by show rowsT [l[j], a] = _; rw [rowsT_cons, rowsT_cons, rowsT_nil]
      rw [e3] at h
      exact h
  apply Gets.get
  rw [Tm.av, Tm.cells_eq]
  refine makeList_run _ _ _ _ _ ?_
  have h := loop l.length e (Nat.le_refl _)
  rw [List.take_length] at h
  rw [rowsT_length, wrap64 (by omega) (by omega)]
  exact h
end Go.Proofs.YteojjjhhmbogfaaGreat
end

section
namespace Go.Proofs.YteojjjhhmbogfaaGreat
open Go.Av
theorem setHas_ev {p : Nat → Bool} {r : List AV} (h : SetRow p r) {n : Nat} (hn : n < 100) : EVs (EV cfg) 161 [.cptr r 0, .int .i64 n] = some (.bool (p n)) := by
  obtain ⟨lo, hi, l, rfl, h1, h2, h3, h4⟩ := h
  have key : ∀ {a k : Nat}, a < 18446744073709551616 → k < 64 → ((((a / 2 ^ k % 2 : Nat) : Int)) == 1) = a.testBit k := by
    intro a k _ _
    rw [Nat.testBit_eq_decide_div_mod_eq]
    rw [beqI]
    exact decide_eq_decide.2 (by omega)
  apply Gets.get
  refine setHas_run _ _ ?_
  by_cases hs : n < 64
  · have e : p n = lo.testBit n := (h3 n hs).symm
    have hd := Nat.div_le_self lo (2 ^ n)
    rw [decide_eq_true (show (n : Int) < 64 by omega), e]
    simp only [cond_true, get?Internal_eq, List.getElem?_cons_zero, kOptSome, kInt_int, shr_bit h1 hs, and_one (show lo / 2 ^ n < 18446744073709551616 by omega), key h1 hs]
    exact ⟨_, rfl, rfl⟩
  · obtain ⟨k, rfl⟩ : ∃ k, n = k + 64 := ⟨n - 64, by omega⟩
    have hk : k < 64 := by omega
    have e : p (k + 64) = hi.testBit k := (h4 k hk).symm
    have hd := Nat.div_le_self hi (2 ^ k)
    have w : IntKind.wrap .i64 (((k + 64 : Nat) : Int) - 64) = (k : Int) := by rw [wrap64 (by omega) (by omega)]; omega
    rw [decide_eq_false (show ¬ ((k + 64 : Nat) : Int) < 64 by omega), w, e]
    simp only [cond_false, get?Internal_eq, List.getElem?_cons_succ, List.getElem?_cons_zero, kOptSome, kInt_int, shr_bit h2 hk, and_one (show hi / 2 ^ k < 18446744073709551616 by omega), key h2 hk]
    exact ⟨_, rfl, rfl⟩
end Go.Proofs.YteojjjhhmbogfaaGreat
end

section
namespace Go.Proofs.YteojjjhhmbogfaaGreat
open Go.Av
theorem fits8 {n : Nat} (h : n ≤ 1099511627776) : fitsIn n 8 = true := by
  unfold fitsIn
  rw [Bool.and_eq_true, Nat.ble_eq, Nat.ble_eq]
  omega
end Go.Proofs.YteojjjhhmbogfaaGreat
end

section
namespace Go.Av
theorem listT_w : ∀ l : List Tm, (listT l).w ≤ 1 + l.length + wL l
  | [] => by simp [listT, Tm.w_mk]
  | x :: l => by
    have h := listT_w l
    have : listT (x :: l) = .mk 9 0 [] [x, listT l] := rfl
    rw [this, Tm.w_mk, wL_cons, wL_cons, wL_cons, wL_nil, List.length_cons]
    simp only [List.length_nil]
    omega
end Go.Av
namespace Go.Proofs.YteojjjhhmbogfaaGreat
open Go.Av
end Go.Proofs.YteojjjhhmbogfaaGreat
end

section
namespace Go.Av
theorem kEvalR {α : Type} (t : Tm) (x : Int) (K : Int → Int → List UInt8 → List (List AV) → Int → Option α) : (kTup (.tup [t.av, .int .i64 x]) fun cs => kCons cs fun c cs => kAgg c fun cs_1 => kCons cs_1 fun c cs_2 => kInt .i64 c fun n => kCons cs_2 fun c cs_3 => kInt .i64 c fun n_1 => kCons cs_3 fun c cs_4 => kStr c fun s => kCons cs_4 fun c cs_5 => kSl c fun rows => kNil cs_5 (kCons cs fun c cs => kInt .i64 c fun m => kNil cs (K n n_1 s rows m))) = K t.kind t.num t.str (rowsT t.subs) x := by
  obtain ⟨k, n, s, l⟩ := t
  rw [Tm.av_mk]; rfl
structure EnvW (e : Env) : Prop where
  obj : e.obj.w < 1099511627776
  len : e.binds.length < 1099511627776
  binds : ∀ p ∈ e.binds, p.2.w < 1099511627776
end Go.Av
namespace Go.Proofs.YteojjjhhmbogfaaGreat
open Go.Av
end Go.Proofs.YteojjjhhmbogfaaGreat
end

section
namespace Go.Proofs.YteojjjhhmbogfaaGreat
open Go.Av
set_option maxRecDepth 100000
theorem lay_int {n : Nat} {cz : List AV} (h : Lay Tryz.prog n 3 cz) : ∃ m, cz = [.int .i64 m] := by
  cases n with
  | zero => exact absurd h (by unfold Lay; exact id)
  | succ n =>
    unfold Lay at h
    rw [Tryz.underlying3] at h
    obtain ⟨m, h, _⟩ := h
    exact ⟨m, h⟩
end Go.Proofs.YteojjjhhmbogfaaGreat
end

section
namespace Go.Av
def itemsF : Nat → Tm → List Tm × Bool
  | 0, _ => ([], false)
  | n + 1, t => if t.kind = 9 then (match t.subs with | [a, b] => (a :: (itemsF n b).1, (itemsF n b).2) | _ => ([], false)) else ([], decide (t.kind = 8))
def itemsG (t : Tm) : List Tm × Bool := itemsF t.w t
theorem itemsF_more : ∀ (n m : Nat) (t : Tm), t.w ≤ n → t.w ≤ m → itemsF n t = itemsF m t := by
  intro n
  induction n with
  | zero => intro m t h; have := w_pos t; omega
  | succ n ih =>
    intro m t hn hm
    obtain ⟨m, rfl⟩ : ∃ k, m = k + 1 := ⟨m - 1, by have := w_pos t; omega⟩
    rw [itemsF, itemsF]
    by_cases h9 : t.kind = 9
    · rw [if_pos h9, if_pos h9]
      have hw := t.w_eq
      cases hs : t.subs with
      | nil => rfl
      | cons a l =>
        cases l with
        | nil => rfl
        | cons b l =>
          cases l with
          | nil =>
            rw [hs] at hw
            simp only [wL_cons, wL_nil] at hw
            simp only []
            rw [ih m b (by omega) (by omega)]
          | cons c l => rfl
    · rw [if_neg h9, if_neg h9]
theorem itemsG_cons {t a b : Tm} (hk : t.kind = 9) (hs : t.subs = [a, b]) : itemsG t = (a :: (itemsG b).1, (itemsG b).2) := by
  have hw := t.w_eq
  rw [hs] at hw
  simp only [wL_cons, wL_nil] at hw
  unfold itemsG
  obtain ⟨n, hn⟩ : ∃ n, t.w = n + 1 := ⟨t.w - 1, by have := w_pos t; omega⟩
  rw [hn, itemsF, if_pos hk, hs]
  simp only []
  rw [itemsF_more n b.w b (by omega) (Nat.le_refl _)]
theorem itemsG_end {t : Tm} (hk : t.kind ≠ 9) : itemsG t = ([], decide (t.kind = 8)) := by
  unfold itemsG
  obtain ⟨n, hn⟩ : ∃ n, t.w = n + 1 := ⟨t.w - 1, by have := w_pos t; omega⟩
  rw [hn, itemsF, if_neg hk]
theorem itemsG_list : ∀ l : List Tm, itemsG (listT l) = (l, true)
  | [] => itemsG_end (by decide)
  | x :: l => by
    rw [itemsG_cons (a := x) (b := listT l) rfl rfl, itemsG_list l]
theorem cons_ind {P : Tm → Prop} (h9 : ∀ t a b, t.kind = 9 → t.subs = [a, b] → t.chk = 0 → P b → P t) (h0 : ∀ t, t.kind ≠ 9 → t.chk = 0 → P t) : ∀ (n : Nat) (t : Tm), t.w ≤ n → t.chk = 0 → P t := by
  intro n
  induction n with
  | zero => intro t h; have := w_pos t; omega
  | succ n ih =>
    intro t hw hc
    by_cases hk : t.kind = 9
    · obtain ⟨a, b, hs⟩ := cons_chk hc hk
      have hwe := t.w_eq
      rw [hs] at hwe
      simp only [wL_cons, wL_nil] at hwe
      exact h9 t a b hk hs hc (ih b (by omega) (chk_sub hc (by rw [hs]; simp)))
    · exact h0 t hk hc
theorem consInd {P : Tm → Prop} (t : Tm) (hc : t.chk = 0) (h9 : ∀ t a b, t.kind = 9 → t.subs = [a, b] → t.chk = 0 → P b → P t) (h0 : ∀ t, t.kind ≠ 9 → t.chk = 0 → P t) : P t := cons_ind h9 h0 t.w t (Nat.le_refl _) hc
theorem itemsG_w {t : Tm} (hc : t.chk = 0) : wL (itemsG t).1 + (itemsG t).1.length ≤ t.w := by
  refine consInd (P := fun t => wL (itemsG t).1 + (itemsG t).1.length ≤ t.w) t hc (fun t a b hk hs hc ih => ?_) (fun t hk hc => ?_)
  · rw [itemsG_cons hk hs, t.w_eq, hs]
    simp only [wL_cons, wL_nil, List.length_cons]
    omega
  · rw [itemsG_end hk]
    simp
def anyT (p : Tm) : Bool := decide (p.kind = 2) && (decide (p.str = [95]) && decide (p.chk = 0))
def headG (p : Tm) : Bool := (varT p).isSome || (decide (p.kind = 7) || anyT p)
mutual
/-- does a variable stand in a pattern? -/
def varIn (n : Int) : Tm → Bool
  | .mk k _ s l => if k = 7 ∨ k = 9 then varInL n l else decide (k = 2) && decide (varG s = some n)
def varInL (n : Int) : List Tm → Bool
  | [] => false
  | t :: l => varIn n t || varInL n l
end
theorem varInL_any (n : Int) : ∀ l : List Tm, varInL n l = l.any (varIn n)
  | [] => rfl
  | t :: l => by rw [varInL, varInL_any n l]; rfl
theorem varIn_eq (n : Int) (t : Tm) : varIn n t = if t.kind = 7 ∨ t.kind = 9 then t.subs.any (varIn n) else decide (t.kind = 2) && decide (varG t.str = some n) := by
  obtain ⟨k, m, s, l⟩ := t
  rw [varIn, varInL_any]; rfl
def varsG (p : Tm) : List Int := if p.chk = 0 then ((List.range 100).filter fun n => varIn (n : Nat) p).map Int.ofNat else []
structure Cl where
  head : Tm
  gs : List Tm
  bs : List Tm
  deriving Inhabited
def Cl.cells (c : Cl) : List AV := [.int .i64 c.head.kind, .int .i64 c.head.num, .str c.head.str, .sl (rowsT c.head.subs), .sl (rowsT c.gs), .sl (rowsT c.bs)]
def Cl.av (c : Cl) : AV := .agg c.cells
def rowsC (l : List Cl) : List (List AV) := l.map Cl.cells
def zeroC : Cl := ⟨zeroT, [], []⟩
theorem rowsC_len (l : List Cl) : (rowsC l).length = l.length := by simp [rowsC]
theorem rowsC_get (l : List Cl) (i : Nat) : (rowsC l)[i]? = (l[i]?).map Cl.cells := by simp [rowsC]
theorem rowsC_append (a b : List Cl) : rowsC (a ++ b) = rowsC a ++ rowsC b := by simp [rowsC]
def clauseG (t : Tm) : Option Cl :=
  if t.kind = 7 then (match t.subs with
    | [h, g, b] => if headG h && ((itemsG g).2 && ((itemsG b).2 && !(itemsG b).1.isEmpty)) && ((itemsG g).1.all (fun e => decide (checkG (varsG h) e = 0)) && (itemsG b).1.all (fun e => decide (checkG (varsG h) e = 0))) then some ⟨h, (itemsG g).1, (itemsG b).1⟩ else none
    | _ => none)
  else none
def seqC : List Tm → Option (List Cl)
  | [] => some []
  | t :: l => (clauseG t).bind fun c => (seqC l).map (c :: ·)
def clsG (t : Tm) : List Cl × Int :=
  if t.chk = 0 then (match seqC (itemsG t).1 with
    | some l => if (itemsG t).2 && !l.isEmpty then (l, 0) else ([], 10)
    | none => ([], 10))
  else ([], 2)
noncomputable instance tmEq : DecidableEq Tm := fun _ _ => Classical.propDecidable _
def clT (c : Cl) : Tm := tupT [c.head, listT c.gs, listT c.bs]
def selT (l : List Cl) : Tm := listT (l.map clT)
def ofG (l : List Cl) : Tm × Int := if (clsG (selT l)).2 = 0 then (selT l, 0) else (zeroT, (clsG (selT l)).2)
end Go.Av
end

section
namespace Go.Av
theorem numC_rng (a b : Int) : -1 ≤ numC a b ∧ numC a b ≤ 1 := by unfold numC; split <;> (try split) <;> omega
theorem strC_rng (a b : List UInt8) : -1 ≤ strC a b ∧ strC a b ≤ 1 := by unfold strC; split <;> (try split) <;> omega
theorem cmpE_rng : ∀ (l l' : List Tm), (∀ a ∈ l, ∀ b, -1 ≤ cmpT a b ∧ cmpT a b ≤ 1) → -1 ≤ cmpE l l' ∧ cmpE l l' ≤ 1
  | [], [], _ => by rw [cmpE_nil]; omega
  | [], _ :: _, _ => by rw [cmpE_nil_cons]; omega
  | _ :: _, [], _ => by rw [cmpE_cons_nil]; omega
  | a :: l, b :: l', h => by
    rw [cmpE_cons]
    split
    · exact h a (by simp) b
    · exact cmpE_rng l l' fun x hx => h x (by simp [hx])
theorem cmpT_rng (a : Tm) : ∀ b, -1 ≤ cmpT a b ∧ cmpT a b ≤ 1 := by
  induction a using Tm.ind with
  | _ k n s l ih =>
    intro b
    obtain ⟨k', n', s', l'⟩ := b
    have hL : -1 ≤ cmpL l l' ∧ cmpL l l' ≤ 1 := by
      unfold cmpL
      split
      · exact numC_rng _ _
      · exact cmpE_rng l l' ih
    rw [cmpT_eq]
    repeat' split
    all_goals first | exact numC_rng _ _ | exact strC_rng _ _ | exact hL | omega
end Go.Av
end

section
namespace Go.Av
structure Rg where
  ar : Int
  fst : List Tm
  deriving Inhabited
structure Bnd where
  all : Bool
  keys : List Tm
  rgs : List Rg
  deriving Inhabited
def allK (l : List Tm) : Bool := l.all fun t => decide (t.chk = 0)
theorem allK_iff {l : List Tm} : allK l = true ↔ ∀ x ∈ l, x.chk = 0 := by simp [allK]
def sideC (r : Rg) (k : Tm) : Int := lexI (numC k.kind 7) (lexI (numC k.subs.length r.ar) (cmpE (k.subs.take r.fst.length) r.fst))
def sideG (r : Rg) (k : Tm) : Int := if r.ar < r.fst.length ∨ k.chk ≠ 0 ∨ allK r.fst = false then 0 else sideC r k
noncomputable def withinK (r : Rg) (k : Tm) : Bool := decide (k.kind = 7) && (decide ((k.subs.length : Int) = r.ar) && (decide (r.fst.length ≤ k.subs.length) && decide (k.subs.take r.fst.length = r.fst)))
def W3 (p q r : Int) : Prop := (p < 0 → q ≤ 0 → r < 0) ∧ (p ≤ 0 → q < 0 → r < 0) ∧ (0 < p → 0 ≤ q → 0 < r) ∧ (0 ≤ p → 0 < q → 0 < r)
theorem W3.lex {p q r p' q' r' : Int} (h : C3 p q r) (h' : p = 0 → q = 0 → W3 p' q' r') : W3 (lexI p p') (lexI q q') (lexI r r') := by
  obtain ⟨c1, c2, c3, c4, c5, c6⟩ := h
  by_cases hp : p = 0
  · by_cases hq : q = 0
    · have hr : r = 0 := by
        have := c1 (by omega) (by omega)
        have := c4 (by omega) (by omega)
        omega
      rw [hp, hq, hr]
      exact h' hp hq
    · rw [hp, lexI_zero, lexI_ne hq]
      have hn : q < 0 → r < 0 := fun h => c3 (by omega) h
      have hg : 0 < q → 0 < r := fun h => c6 (by omega) h
      have hr : r ≠ 0 := fun e => by
        by_cases h : q < 0
        · have := hn h; omega
        · have := hg (by omega); omega
      rw [lexI_ne hr]
      exact ⟨fun _ _ => hn (by omega), fun _ h => hn h, fun _ _ => hg (by omega), fun _ h => hg h⟩
  · rw [lexI_ne hp]
    have hn : p < 0 → q ≤ 0 → r < 0 := c2
    have hg : 0 < p → 0 ≤ q → 0 < r := c5
    have lq : ∀ x, lexI q x ≤ 0 → q ≤ 0 := fun x h => by unfold lexI at h; split at h <;> omega
    have gq : ∀ x, 0 ≤ lexI q x → 0 ≤ q := fun x h => by unfold lexI at h; split at h <;> omega
    refine ⟨fun h1 h2 => ?_, fun h1 h2 => ?_, fun h1 h2 => ?_, fun h1 h2 => ?_⟩
    · have := hn h1 (lq _ h2); rw [lexI_ne (by omega)]; exact this
    · have := hn (by omega) (lq q' (by omega)); rw [lexI_ne (by omega)]; exact this
    · have := hg h1 (gq _ h2); rw [lexI_ne (by omega)]; exact this
    · have := hg (by omega) (gq q' (by omega)); rw [lexI_ne (by omega)]; exact this
theorem cmpE_take : ∀ (n : Nat) (l m : List Tm), n ≤ l.length → n ≤ m.length → cmpE (l.take n) (m.take n) ≠ 0 → cmpE l m = cmpE (l.take n) (m.take n)
  | 0, l, m, _, _, h => absurd (by rw [List.take_zero, List.take_zero, cmpE_nil]) h
  | n + 1, [], m, h, _, _ => by simp at h
  | n + 1, a :: l, [], _, h, _ => by simp at h
  | n + 1, a :: l, b :: m, hl, hm, h => by
    rw [List.take_succ_cons, List.take_succ_cons, cmpE_lex] at h ⊢
    rw [cmpE_lex]
    by_cases h0 : cmpT a b = 0
    · rw [h0, lexI_zero] at h ⊢
      rw [lexI_zero]
      exact cmpE_take n l m (by simpa using hl) (by simpa using hm) h
    · rw [lexI_ne h0, lexI_ne h0]
theorem cmpE_neg (l m : List Tm) : cmpE m l = - cmpE l m := cmpE_neg_of l (fun a _ b => cmpT_neg a b) m
theorem cmpE_C3 (l m n : List Tm) : C3 (cmpE l m) (cmpE m n) (cmpE l n) := cmpE_C3_of l (fun a _ b c => cmpT_C3 a b c) m n
theorem sideC_neg (r : Rg) (k : Tm) : - sideC r k = lexI (numC 7 k.kind) (lexI (numC r.ar k.subs.length) (cmpE r.fst (k.subs.take r.fst.length))) := by
  unfold sideC
  rw [← lexI_neg, ← lexI_neg, ← numC_neg, ← numC_neg, ← cmpE_neg]
theorem side_W3 {r : Rg} (hr : (r.fst.length : Int) ≤ r.ar) (a b : Tm) : W3 (sideC r a) (- sideC r b) (cmpT a b) := by
  rw [sideC_neg]
  unfold sideC
  obtain ⟨k, n, s, l⟩ := a
  obtain ⟨k', n', s', l'⟩ := b
  rw [cmpT_lex]
  simp only [Tm.kind_mk, Tm.subs_mk]
  refine W3.lex (numC_C3 k 7 k') fun h1 h2 => ?_
  have h1 := numC_zero.1 h1
  subst h1
  rw [if_neg (by omega), if_neg (by omega), if_neg (by omega), if_pos (.inl rfl)]
  refine W3.lex (numC_C3 l.length r.ar l'.length) fun h3 h4 => ?_
  have h3 := numC_zero.1 h3
  have h4 := numC_zero.1 h4
  have hc := cmpE_C3 (l.take r.fst.length) r.fst (l'.take r.fst.length)
  have ht := cmpE_take r.fst.length l l' (by omega) (by omega)
  obtain ⟨_, c2, c3, _, c5, c6⟩ := hc
  refine ⟨fun x y => ?_, fun x y => ?_, fun x y => ?_, fun x y => ?_⟩
  · have := c2 x y; rw [ht (by omega)]; exact this
  · have := c3 x y; rw [ht (by omega)]; exact this
  · have := c5 x y; rw [ht (by omega)]; exact this
  · have := c6 x y; rw [ht (by omega)]; exact this
theorem lexI_eq0 {a b : Int} : lexI a b = 0 ↔ a = 0 ∧ b = 0 := by unfold lexI; split <;> omega
theorem sideC_zero {r : Rg} (hr : (r.fst.length : Int) ≤ r.ar) (hf : allK r.fst = true) {a : Tm} (ha : a.chk = 0) : sideC r a = 0 ↔ withinK r a = true := by
  unfold sideC withinK
  rw [lexI_eq0, lexI_eq0, numC_zero, numC_zero]
  simp only [Bool.and_eq_true, decide_eq_true_eq]
  have pf : partsL r.fst = true := by
    have := allK_iff.1 hf
    generalize r.fst = l at this
    induction l with
    | nil => rfl
    | cons x l ih =>
      rw [partsL, (chk_zero.1 (this x (by simp))).1, ih fun y hy => this y (by simp [hy])]; rfl
  have pa : partsL (a.subs.take r.fst.length) = true := by
    have h1 := (chk_zero.1 ha).1
    rw [Tm.parts_eq, Bool.and_eq_true] at h1
    have h2 := partsL_mem h1.2
    generalize r.fst.length = n
    have h3 : ∀ x ∈ a.subs.take n, x.parts = true := fun x hx => h2 x (List.mem_of_mem_take hx)
    generalize a.subs.take n = l at h3
    induction l with
    | nil => rfl
    | cons x l ih => rw [partsL, h3 x (by simp), ih fun y hy => h3 y (by simp [hy])]; rfl
  constructor
  · rintro ⟨h1, h2, h3⟩
    exact ⟨h1, h2, by omega, cmpE_alike _ (fun x _ hx b hb h0 => cmpT_alike x hx b hb h0) _ pa pf h3⟩
  · rintro ⟨h1, h2, _, h4⟩
    refine ⟨h1, h2, ?_⟩
    rw [h4]
    have := cmpE_neg r.fst r.fst; omega
theorem side_order {r : Rg} (hr : (r.fst.length : Int) ≤ r.ar) {a b : Tm} (h : sideC r a < sideC r b) (ha : -1 ≤ sideC r a) (hb : sideC r b ≤ 1) : cmpT a b < 0 := by
  obtain ⟨w1, w2, _, _⟩ := side_W3 hr a b
  by_cases h0 : sideC r a < 0
  · exact w1 h0 (by omega)
  · exact w2 (by omega) (by omega)
theorem cmpE_rng' (l m : List Tm) : -1 ≤ cmpE l m ∧ cmpE l m ≤ 1 := cmpE_rng l m fun a _ b => cmpT_rng a b
theorem sideC_rng (r : Rg) (k : Tm) : -1 ≤ sideC r k ∧ sideC r k ≤ 1 := by
  unfold sideC lexI
  have h1 := numC_rng k.kind 7
  have h2 := numC_rng k.subs.length r.ar
  have h3 := cmpE_rng' (k.subs.take r.fst.length) r.fst
  split
  · exact h1
  · split
    · exact h2
    · exact h3
end Go.Av
end

section
namespace Go.Proofs.YteojjjhhmbogfaaGreat
open Go.Av
set_option maxRecDepth 100000
set_option maxHeartbeats 0

noncomputable def Lrc5_0 : Den := evC cfg (EV cfg) 5 none 0 (sub (bodyOf Tryz.f5) [1, 1, 1, 1, 0, 1, 0, 0])
noncomputable def Arc5_0 : Ex × List AV × AH → Option AV := kAft (Cfg.keepOut cfg 5 6) (kRun cfg (EV cfg) (kfN cfg 6) 5 none 0 (kFinS cfg (Cfg.lift cfg 5 0) Tryz.f5.results.toList) ([.block 0, .seq (sub (bodyOf Tryz.f5) [1, 1, 1, 1, 1])]))
noncomputable def Wrc5_0 : List AV × AH → Option AV := fun p => kOpt (LOOP 0 (some [4, 5, 6, 7, 9, 10, 11]) ([]) Lrc5_0 p) Arc5_0
noncomputable def Lrc15_0 : Den := evC cfg (EV cfg) 15 none 0 (sub (bodyOf Tryz.f15) [1, 1, 1, 0, 1, 0, 0])
noncomputable def Arc15_0 : Ex × List AV × AH → Option AV := kAft (Cfg.keepOut cfg 15 5) (kRun cfg (EV cfg) (kfN cfg 6) 15 none 0 (kFinS cfg (Cfg.lift cfg 15 0) Tryz.f15.results.toList) ([.block 0, .seq (sub (bodyOf Tryz.f15) [1, 1, 1, 1])]))
noncomputable def Wrc15_0 : List AV × AH → Option AV := fun p => kOpt (LOOP 0 (some [1, 3, 4]) ([(3, 4)]) Lrc15_0 p) Arc15_0
noncomputable def Lrc7_0 : Den := evC cfg (EV cfg) 7 none 0 (sub (bodyOf Tryz.f7) [1, 0, 1, 0, 0])
noncomputable def Arc7_0 : Ex × List AV × AH → Option AV := kAft (Cfg.keepOut cfg 7 2) (kRun cfg (EV cfg) (kfN cfg 6) 7 none 0 (kFinS cfg (Cfg.lift cfg 7 0) Tryz.f7.results.toList) ([.block 0, .seq (sub (bodyOf Tryz.f7) [1, 1])]))
noncomputable def Wrc7_0 : List AV × AH → Option AV := fun p => kOpt (LOOP 0 (some [0, 3]) ([]) Lrc7_0 p) Arc7_0
noncomputable def Lrc31_0 : Den := evC cfg (EV cfg) 31 none 0 (sub (bodyOf Tryz.f31) [1, 0, 1, 0, 0])
noncomputable def Arc31_0 : Ex × List AV × AH → Option AV := kAft (Cfg.keepOut cfg 31 2) (kRun cfg (EV cfg) (kfN cfg 6) 31 none 0 (kFinS cfg (Cfg.lift cfg 31 0) Tryz.f31.results.toList) ([.block 0, .seq (sub (bodyOf Tryz.f31) [1, 1])]))
noncomputable def Wrc31_0 : List AV × AH → Option AV := fun p => kOpt (LOOP 0 (some [0, 1, 7, 8]) ([]) Lrc31_0 p) Arc31_0
noncomputable def Lrc80_0 : Den := evC cfg (EV cfg) 80 none 0 (sub (bodyOf Tryz.f80) [1, 0, 1, 0, 0])
noncomputable def Arc80_0 : Ex × List AV × AH → Option AV := kAft (Cfg.keepOut cfg 80 2) (kRun cfg (EV cfg) (kfN cfg 6) 80 none 0 (kFinS cfg (Cfg.lift cfg 80 0) Tryz.f80.results.toList) ([.block 0, .seq (sub (bodyOf Tryz.f80) [1, 1])]))
noncomputable def Wrc80_0 : List AV × AH → Option AV := fun p => kOpt (LOOP 0 (some [0, 1, 7, 8]) ([]) Lrc80_0 p) Arc80_0
noncomputable def Lrc110_0 : Den := evC cfg (EV cfg) 110 none 0 (sub (bodyOf Tryz.f110) [1, 1, 0, 1, 0, 0])
noncomputable def Arc110_0 : Ex × List AV × AH → Option AV := kAft (Cfg.keepOut cfg 110 4) (kRun cfg (EV cfg) (kfN cfg 6) 110 none 0 (kFinS cfg (Cfg.lift cfg 110 0) Tryz.f110.results.toList) ([.block 0, .seq (sub (bodyOf Tryz.f110) [1, 1, 1])]))
noncomputable def Wrc110_0 : List AV × AH → Option AV := fun p => kOpt (LOOP 0 (some [1, 2, 15, 16, 17]) ([]) Lrc110_0 p) Arc110_0
noncomputable def Lrc63_0 : Den := evC cfg (EV cfg) 63 none 0 (sub (bodyOf Tryz.f63) [1, 0, 1, 0, 0])
noncomputable def Arc63_0 : Ex × List AV × AH → Option AV := kAft (Cfg.keepOut cfg 63 2) (kRun cfg (EV cfg) (kfN cfg 6) 63 none 0 (kFinS cfg (Cfg.lift cfg 63 0) Tryz.f63.results.toList) ([.block 0, .seq (sub (bodyOf Tryz.f63) [1, 1])]))
noncomputable def Wrc63_0 : List AV × AH → Option AV := fun p => kOpt (LOOP 0 (some [0, 1, 2, 11, 12, 13]) ([]) Lrc63_0 p) Arc63_0
noncomputable def Lrc5_1 : Den := evC cfg (EV cfg) 5 none 0 (sub (bodyOf Tryz.f5) [1, 1, 1, 1, 1, 0, 1, 0, 0])
noncomputable def Arc5_1 : Ex × List AV × AH → Option AV := kAft (Cfg.keepOut cfg 5 12) (kRun cfg (EV cfg) (kfN cfg 6) 5 none 0 (kFinS cfg (Cfg.lift cfg 5 0) Tryz.f5.results.toList) ([.block 2, .seq (sub (bodyOf Tryz.f5) [1, 1, 1, 1, 1, 1])]))
noncomputable def Wrc5_1 : List AV × AH → Option AV := fun p => kOpt (LOOP 0 (some [4, 5, 6, 7, 9, 14]) ([]) Lrc5_1 p) Arc5_1
noncomputable def Lrc15_1 : Den := evC cfg (EV cfg) 15 none 0 (sub (bodyOf Tryz.f15) [1, 1, 1, 1, 0, 1, 0, 0])
noncomputable def Arc15_1 : Ex × List AV × AH → Option AV := kAft (Cfg.keepOut cfg 15 11) (kRun cfg (EV cfg) (kfN cfg 6) 15 none 0 (kFinS cfg (Cfg.lift cfg 15 0) Tryz.f15.results.toList) ([.block 2, .seq (sub (bodyOf Tryz.f15) [1, 1, 1, 1, 1])]))
noncomputable def Wrc15_1 : List AV × AH → Option AV := fun p => kOpt (LOOP 0 (some [3, 5]) ([(3, 4)]) Lrc15_1 p) Arc15_1
noncomputable def Jrc5_0 : List AV × AH → Option AV := fun p => kOpt (CUT p) fun p => kCode cfg (EV cfg) (kfN cfg 6) 5 none 0 (sub (bodyOf Tryz.f5) [1, 1, 1, 1, 1, 1]) p.1 p.2 (kRun cfg (EV cfg) (kfN cfg 6) 5 none 0 (kFinS cfg (Cfg.lift cfg 5 0) Tryz.f5.results.toList) ([]))
noncomputable def Jrc5_1 : List AV × AH → Option AV := fun p => kOpt (CUT p) fun p => kCode cfg (EV cfg) (kfN cfg 6) 5 none 0 (sub (bodyOf Tryz.f5) [1, 1, 1, 1, 1, 1, 1, 1]) p.1 p.2 (kRun cfg (EV cfg) (kfN cfg 6) 5 none 0 (kFinS cfg (Cfg.lift cfg 5 0) Tryz.f5.results.toList) ([]))
noncomputable def Jrc5_2 : List AV × AH → Option AV := fun p => kOpt (CUT p) fun p => kCode cfg (EV cfg) (kfN cfg 6) 5 none 0 (sub (bodyOf Tryz.f5) [1, 1, 1, 1, 1, 1, 1, 1, 1]) p.1 p.2 (kRun cfg (EV cfg) (kfN cfg 6) 5 none 0 (kFinS cfg (Cfg.lift cfg 5 0) Tryz.f5.results.toList) ([]))
noncomputable def Jrc5_3 : List AV × AH → Option AV := fun p => kOpt (CUT p) fun p => kCode cfg (EV cfg) (kfN cfg 6) 5 none 0 (sub (bodyOf Tryz.f5) [1, 1, 1, 1, 1, 1, 1, 1, 1, 1]) p.1 p.2 (kRun cfg (EV cfg) (kfN cfg 6) 5 none 0 (kFinS cfg (Cfg.lift cfg 5 0) Tryz.f5.results.toList) ([]))
noncomputable abbrev wrc5_0 (b : Bool) (v11 : Int) (c0_0 : Int) (c0_1 : List (List AV)) (c1_0 : Int) (c1_1 : Int) (c1_2 : List UInt8) (c1_3 : List (List AV)) (c2_0 : Int) (c2_1 : Int) (c2_2 : List UInt8) (c2_3 : List (List AV)) (c3_0 : Int) (c3_1 : Int) (c3_2 : List UInt8) (c3_3 : List (List AV)) (h4 : List (List AV)) : Option (AV) := Wrc5_0  (((fx 151 [(4, AV.ptr (0 : Nat) (0 : Nat) (0 : Nat)), (5, AV.ptr (1 : Nat) (0 : Nat) (0 : Nat)), (6, AV.ptr (2 : Nat) (0 : Nat) (0 : Nat)), (7, AV.ptr (3 : Nat) (0 : Nat) (0 : Nat)), (9, AV.bool b), (10, AV.ms (4 : Nat) (0 : Nat) (3 : Nat)), (11, AV.int IntKind.i64 v11)]) : List AV), ([ABlk.rows false (2 : Nat) [[AV.int IntKind.i64 c0_0, AV.sl c0_1]], ABlk.rows false (4 : Nat) [[AV.int IntKind.i64 c1_0, AV.int IntKind.i64 c1_1, AV.str c1_2, AV.sl c1_3]], ABlk.rows false (4 : Nat) [[AV.int IntKind.i64 c2_0, AV.int IntKind.i64 c2_1, AV.str c2_2, AV.sl c2_3]], ABlk.rows false (4 : Nat) [[AV.int IntKind.i64 c3_0, AV.int IntKind.i64 c3_1, AV.str c3_2, AV.sl c3_3]], ABlk.rows true (4 : Nat) h4] : AH))
noncomputable abbrev wrc15_0 (nv3 : Nat) (v4 : Int) (c0_0 : Bool) (c0_1 : List (List AV)) (c0_2 : List (List AV)) (h1 : List (List AV)) : Option (AV) := Wrc15_0  (((fx 54 [(1, AV.ptr (0 : Nat) (0 : Nat) (0 : Nat)), (3, AV.ms (1 : Nat) (0 : Nat) nv3), (4, AV.int IntKind.i64 v4)]) : List AV), ([ABlk.rows false (3 : Nat) [[AV.bool c0_0, AV.sl c0_1, AV.sl c0_2]], ABlk.rows true (4 : Nat) h1] : AH))
noncomputable abbrev wrc7_0 (L : List (List AV)) (v3 : Int) : Option (AV) := Wrc7_0  (((fx 15 [(0, AV.sl L), (3, AV.int IntKind.i64 v3)]) : List AV), ([] : AH))
noncomputable abbrev wrc31_0 (L : List (List AV)) (v8 : Int) : Option (AV) := Wrc31_0  (((fx 19 [(0, AV.sl L), (1, AV.fn (Fn.func 92) [] []), (7, AV.int IntKind.i64 (↑(List.length L) : Int)), (8, AV.int IntKind.i64 v8)]) : List AV), ([] : AH))
noncomputable abbrev wrc31_0a (L : List (List AV)) (kt : Int) (nt : Int) (st : List UInt8) (lt : List (List AV)) (v8 : Int) : Option (AV) := Wrc31_0  (((fx 19 [(0, AV.sl L), (1, AV.fn (Fn.func 56) [] [AV.cptr [AV.int IntKind.i64 kt, AV.int IntKind.i64 nt, AV.str st, AV.sl lt] (0 : Nat)]), (7, AV.int IntKind.i64 (↑(List.length L) : Int)), (8, AV.int IntKind.i64 v8)]) : List AV), ([] : AH))
noncomputable abbrev wrc80_0 (L : List (List AV)) (kt : Int) (nt : Int) (st : List UInt8) (lt : List (List AV)) (v8 : Int) : Option (AV) := Wrc80_0  (((fx 19 [(0, AV.sl L), (1, AV.fn (Fn.func 57) [] [AV.cptr [AV.int IntKind.i64 kt, AV.int IntKind.i64 nt, AV.str st, AV.sl lt] (0 : Nat)]), (7, AV.int IntKind.i64 (↑(List.length L) : Int)), (8, AV.int IntKind.i64 v8)]) : List AV), ([] : AH))
noncomputable abbrev wrc110_0 (L : List (List AV)) (M : List (List AV)) (v17 : Int) : Option (AV) := Wrc110_0  (((fx 32 [(1, AV.sl M), (2, AV.fn (Fn.func 42) [] []), (15, AV.sl L), (16, AV.int IntKind.i64 (↑(List.length L) : Int)), (17, AV.int IntKind.i64 v17)]) : List AV), ([] : AH))
noncomputable abbrev wrc63_0 (L : List (List AV)) (M : List (List AV)) (v13 : Int) : Option (AV) := Wrc63_0  (((fx 39 [(0, AV.sl L), (1, AV.sl M), (2, AV.fn (Fn.func 25) [] []), (11, AV.sl L), (12, AV.int IntKind.i64 (↑(List.length L) : Int)), (13, AV.int IntKind.i64 v13)]) : List AV), ([] : AH))
noncomputable abbrev wrc5_1 (b : Bool) (v14 : Int) (c0_0 : Int) (c0_1 : List (List AV)) (c1_0 : Int) (c1_1 : Int) (c1_2 : List UInt8) (c1_3 : List (List AV)) (c2_0 : Int) (c2_1 : Int) (c2_2 : List UInt8) (c2_3 : List (List AV)) (c3_0 : Int) (c3_1 : Int) (c3_2 : List UInt8) (c3_3 : List (List AV)) : Option (AV) := Wrc5_1  (((fx 151 [(4, AV.ptr (0 : Nat) (0 : Nat) (0 : Nat)), (5, AV.ptr (1 : Nat) (0 : Nat) (0 : Nat)), (6, AV.ptr (2 : Nat) (0 : Nat) (0 : Nat)), (7, AV.ptr (3 : Nat) (0 : Nat) (0 : Nat)), (9, AV.bool b), (14, AV.int IntKind.i64 v14)]) : List AV), ([ABlk.rows false (2 : Nat) [[AV.int IntKind.i64 c0_0, AV.sl c0_1]], ABlk.rows false (4 : Nat) [[AV.int IntKind.i64 c1_0, AV.int IntKind.i64 c1_1, AV.str c1_2, AV.sl c1_3]], ABlk.rows false (4 : Nat) [[AV.int IntKind.i64 c2_0, AV.int IntKind.i64 c2_1, AV.str c2_2, AV.sl c2_3]], ABlk.rows false (4 : Nat) [[AV.int IntKind.i64 c3_0, AV.int IntKind.i64 c3_1, AV.str c3_2, AV.sl c3_3]]] : AH))
noncomputable abbrev wrc15_1 (nv3 : Nat) (v5 : Int) (h0 : List (List AV)) : Option (AV) := Wrc15_1  (((fx 54 [(3, AV.ms (0 : Nat) (0 : Nat) nv3), (5, AV.int IntKind.i64 v5)]) : List AV), ([ABlk.rows true (4 : Nat) h0] : AH))
noncomputable abbrev jrc5_0 (v9 : Bool) (c0_0 : Int) (c0_1 : List (List AV)) (c1_0 : Int) (c1_1 : Int) (c1_2 : List UInt8) (c1_3 : List (List AV)) (c2_0 : Int) (c2_1 : Int) (c2_2 : List UInt8) (c2_3 : List (List AV)) (c3_0 : Int) (c3_1 : Int) (c3_2 : List UInt8) (c3_3 : List (List AV)) : Option (AV) := Jrc5_0  (((fx 151 [(4, AV.ptr (0 : Nat) (0 : Nat) (0 : Nat)), (5, AV.ptr (1 : Nat) (0 : Nat) (0 : Nat)), (6, AV.ptr (2 : Nat) (0 : Nat) (0 : Nat)), (7, AV.ptr (3 : Nat) (0 : Nat) (0 : Nat)), (9, AV.bool v9)]) : List AV), ([ABlk.rows false (2 : Nat) [[AV.int IntKind.i64 c0_0, AV.sl c0_1]], ABlk.rows false (4 : Nat) [[AV.int IntKind.i64 c1_0, AV.int IntKind.i64 c1_1, AV.str c1_2, AV.sl c1_3]], ABlk.rows false (4 : Nat) [[AV.int IntKind.i64 c2_0, AV.int IntKind.i64 c2_1, AV.str c2_2, AV.sl c2_3]], ABlk.rows false (4 : Nat) [[AV.int IntKind.i64 c3_0, AV.int IntKind.i64 c3_1, AV.str c3_2, AV.sl c3_3]]] : AH))
noncomputable abbrev jrc5_1 (v9 : Bool) (v17 : Int) (v18 : Int) (c0_0 : Int) (c0_1 : List (List AV)) (c1_0 : Int) (c1_1 : Int) (c1_2 : List UInt8) (c1_3 : List (List AV)) (c2_0 : Int) (c2_1 : Int) (c2_2 : List UInt8) (c2_3 : List (List AV)) (c3_0 : Int) (c3_1 : Int) (c3_2 : List UInt8) (c3_3 : List (List AV)) : Option (AV) := Jrc5_1  (((fx 151 [(4, AV.ptr (0 : Nat) (0 : Nat) (0 : Nat)), (5, AV.ptr (1 : Nat) (0 : Nat) (0 : Nat)), (6, AV.ptr (2 : Nat) (0 : Nat) (0 : Nat)), (7, AV.ptr (3 : Nat) (0 : Nat) (0 : Nat)), (9, AV.bool v9), (17, AV.int IntKind.i64 v17), (18, AV.int IntKind.i64 v18)]) : List AV), ([ABlk.rows false (2 : Nat) [[AV.int IntKind.i64 c0_0, AV.sl c0_1]], ABlk.rows false (4 : Nat) [[AV.int IntKind.i64 c1_0, AV.int IntKind.i64 c1_1, AV.str c1_2, AV.sl c1_3]], ABlk.rows false (4 : Nat) [[AV.int IntKind.i64 c2_0, AV.int IntKind.i64 c2_1, AV.str c2_2, AV.sl c2_3]], ABlk.rows false (4 : Nat) [[AV.int IntKind.i64 c3_0, AV.int IntKind.i64 c3_1, AV.str c3_2, AV.sl c3_3]]] : AH))
noncomputable abbrev jrc5_2 (v9 : Bool) (v17 : Int) (v18 : Int) (c0_0 : Int) (c0_1 : List (List AV)) (c1_0 : Int) (c1_1 : Int) (c1_2 : List UInt8) (c1_3 : List (List AV)) (c2_0 : Int) (c2_1 : Int) (c2_2 : List UInt8) (c2_3 : List (List AV)) (c3_0 : Int) (c3_1 : Int) (c3_2 : List UInt8) (c3_3 : List (List AV)) : Option (AV) := Jrc5_2  (((fx 151 [(4, AV.ptr (0 : Nat) (0 : Nat) (0 : Nat)), (5, AV.ptr (1 : Nat) (0 : Nat) (0 : Nat)), (6, AV.ptr (2 : Nat) (0 : Nat) (0 : Nat)), (7, AV.ptr (3 : Nat) (0 : Nat) (0 : Nat)), (9, AV.bool v9), (17, AV.int IntKind.i64 v17), (18, AV.int IntKind.i64 v18)]) : List AV), ([ABlk.rows false (2 : Nat) [[AV.int IntKind.i64 c0_0, AV.sl c0_1]], ABlk.rows false (4 : Nat) [[AV.int IntKind.i64 c1_0, AV.int IntKind.i64 c1_1, AV.str c1_2, AV.sl c1_3]], ABlk.rows false (4 : Nat) [[AV.int IntKind.i64 c2_0, AV.int IntKind.i64 c2_1, AV.str c2_2, AV.sl c2_3]], ABlk.rows false (4 : Nat) [[AV.int IntKind.i64 c3_0, AV.int IntKind.i64 c3_1, AV.str c3_2, AV.sl c3_3]]] : AH))
noncomputable abbrev jrc5_3 (v9 : Bool) (v17 : Int) (c0_0 : Int) (c0_1 : List (List AV)) (c1_0 : Int) (c1_1 : Int) (c1_2 : List UInt8) (c1_3 : List (List AV)) (c2_0 : Int) (c2_1 : Int) (c2_2 : List UInt8) (c2_3 : List (List AV)) (c3_0 : Int) (c3_1 : Int) (c3_2 : List UInt8) (c3_3 : List (List AV)) : Option (AV) := Jrc5_3  (((fx 151 [(4, AV.ptr (0 : Nat) (0 : Nat) (0 : Nat)), (5, AV.ptr (1 : Nat) (0 : Nat) (0 : Nat)), (9, AV.bool v9), (17, AV.int IntKind.i64 v17)]) : List AV), ([ABlk.rows false (2 : Nat) [[AV.int IntKind.i64 c0_0, AV.sl c0_1]], ABlk.rows false (4 : Nat) [[AV.int IntKind.i64 c1_0, AV.int IntKind.i64 c1_1, AV.str c1_2, AV.sl c1_3]], ABlk.rows false (4 : Nat) [[AV.int IntKind.i64 c2_0, AV.int IntKind.i64 c2_1, AV.str c2_2, AV.sl c2_3]], ABlk.rows false (4 : Nat) [[AV.int IntKind.i64 c3_0, AV.int IntKind.i64 c3_1, AV.str c3_2, AV.sl c3_3]]] : AH))
theorem bMay_run (L : List (List AV)) {P : AV → Prop} (h : Gets (kOpt (EVs (EV cfg) 55 [.sl L, AV.fn (Fn.func 92) [] []]) fun (v : AV) => kBool v fun (b : Bool) => some (.bool !b)) P) : Gets (EVs (EV cfg) 54 ([AV.sl L] : List AV)) P :=
  Gets.ev (fun _ h => funS rfl rfl Tryz.func54 rfl h) (Gets.eq (by kernel_rfl) h)
theorem bMayIn_run (kt : Int) (nt : Int) (st : List UInt8) (lt : List (List AV)) {P : AV → Prop} (h : Gets (kOpt (EVs (EV cfg) 93 [.agg [AV.int .i64 kt, .int .i64 nt, .str st, .sl lt]]) fun (v : AV) => kInt .i64 v fun (n : Int) => some (.bool (n != (0 : Int)))) P) : Gets (EVs (EV cfg) 92 ([AV.agg [AV.int IntKind.i64 kt, AV.int IntKind.i64 nt, AV.str st, AV.sl lt]] : List AV)) P :=
  Gets.ev (fun _ h => funS rfl rfl Tryz.func92 rfl h) (Gets.eq (by kernel_rfl) h)
theorem bBegins_run (L : List (List AV)) (M : List (List AV)) {P : AV → Prop} (h : Gets (bif decide ((↑(List.length L) : Int) ≥ (↑(List.length M) : Int)) then bif leInt (0 : Int) (↑(List.length M) : Int) && leInt (↑(List.length M) : Int) (↑(List.length L) : Int) then bif 
  rowsOk 4 L then kOpt (EVs (EV cfg) 110 [.sl (List.take (Int.toNat (↑(List.length M) : Int) - 0) L), .sl M, AV.fn (Fn.func 42) [] []]) fun (v : AV) => kBool v fun (b : Bool) => some 
  (.bool b) else none else none else some (.bool false)) P) : Gets (EVs (EV cfg) 81 ([AV.sl L, AV.sl M] : List AV)) P :=
  Gets.ev (fun _ h => funS rfl rfl Tryz.func81 rfl h) (Gets.eq (by kernel_rfl) h)
theorem bWithin_run (ar : Int) (fs : List (List AV)) (kt : Int) (nt : Int) (st : List UInt8) (lt : List (List AV)) {P : AV → Prop} (h : Gets (bif kt == (7 : Int) then bif (↑(List.length lt) : Int) == ar then kOpt (EVs (EV cfg) 81 [.sl lt, .sl fs]) fun (v : AV) => kBool v fun (b : Bool) => some (.bool b) else some (.bool false) 
  else some (.bool false)) P) : Gets (EVs (EV cfg) 39 ([AV.agg [AV.int IntKind.i64 ar, AV.sl fs], AV.agg [AV.int IntKind.i64 kt, AV.int IntKind.i64 nt, AV.str st, AV.sl lt]] : List AV)) P :=
  Gets.ev (fun _ h => funS rfl rfl Tryz.func39 rfl h) (Gets.eq (by kernel_rfl) h)
theorem bMeets_run (al : Bool) (ks : List (List AV)) (rs : List (List AV)) (kt : Int) (nt : Int) (st : List UInt8) (lt : List (List AV)) {P : AV → Prop} (h : Gets (kOpt (EVs (EV cfg) 54 [.sl [[AV.int .i64 kt, .int .i64 nt, .str st, .sl lt]]]) fun (v : AV) => kBool v fun (b : Bool) => bif !b then some (.bool false) else bif al then some (.bool true) 
  else kOpt (EVs (EV cfg) 55 [.sl ks, AV.fn (Fn.func 56) [] [AV.cptr [AV.int .i64 kt, .int .i64 nt, .str st, .sl lt] 0]]) fun (v : AV) => kBool v fun (b : Bool) => bif b then some (.bool 
  true) else kOpt (EVs (EV cfg) 37 [.sl rs, AV.fn (Fn.func 57) [] [AV.cptr [AV.int .i64 kt, .int .i64 nt, .str st, .sl lt] 0]]) fun (v : AV) => kBool v fun (b : Bool) => some (.bool b)) P) : Gets (EVs (EV cfg) 19 ([AV.agg [AV.bool al, AV.sl ks, AV.sl rs], AV.agg [AV.int IntKind.i64 kt, AV.int IntKind.i64 nt, AV.str st, AV.sl lt]] : List AV)) P :=
  Gets.ev (fun _ h => funS rfl rfl Tryz.func19 rfl h) (Gets.eq (by kernel_rfl) h)
theorem bSide_run (ar : Int) (fs : List (List AV)) (kt : Int) (nt : Int) (st : List UInt8) (lt : List (List AV)) {P : AV → Prop} (h : Gets (bif decide (ar < (↑(List.length fs) : Int)) then some (.int .i64 (0 : Int)) else kOpt (EVs (EV cfg) 54 [.sl [[AV.int .i64 kt, .int .i64 nt, .str st, .sl lt]]]) fun (v : AV) => kBool v 
  fun (b : Bool) => bif !b then some (.int .i64 (0 : Int)) else kOpt (EVs (EV cfg) 54 [.sl fs]) fun (v : AV) => kBool v fun (b : Bool) => bif !b then some (.int .i64 (0 : Int)) else kOpt 
  (EVs (EV cfg) 62 [AV.int .i64 kt, .int .i64 (7 : Int)]) fun (v : AV) => kInt .i64 v fun (n : Int) => bif n != (0 : Int) then some (.int .i64 n) else kOpt (EVs (EV cfg) 62 [AV.int .i64 (↑(List.length 
  lt) : Int), .int .i64 ar]) fun (v : AV) => kInt .i64 v fun (n : Int) => bif n != (0 : Int) then some (.int .i64 n) else bif leInt (0 : Int) (↑(List.length fs) : Int) && leInt (↑(List.length 
  fs) : Int) (↑(List.length lt) : Int) then bif rowsOk 4 lt then kOpt (EVs (EV cfg) 63 [.sl (List.take (Int.toNat (↑(List.length fs) : Int) - 0) lt), .sl fs, AV.fn (Fn.func 25) [] []]) 
  fun (v : AV) => kInt .i64 v fun (n : Int) => some (.int .i64 n) else none else none) P) : Gets (EVs (EV cfg) 21 ([AV.agg [AV.int IntKind.i64 ar, AV.sl fs], AV.agg [AV.int IntKind.i64 kt, AV.int IntKind.i64 nt, AV.str st, AV.sl lt]] : List AV)) P :=
  Gets.ev (fun _ h => funS rfl rfl Tryz.func21 rfl h) (Gets.eq (by kernel_rfl) h)
theorem boundSides_run (ar : Int) (fs : List (List AV)) (ka : Int) (na : Int) (sa : List UInt8) (la : List (List AV)) (kb : Int) (nb : Int) (sb : List UInt8) (lb : List (List AV)) (kc : Int) (nc : Int) (sc : List UInt8) (lc : List (List AV)) {P : AV → Prop} (h : Gets (kOpt (EVs (EV cfg) 14 []) fun (v : AV) => kBool v fun (b : Bool) => bif refsLtL 0 [.agg [.bool false, .sl [], .sl [[AV.int .i64 ar, .sl fs]]]] then kOpt (EVs (EV cfg) 15 [.agg [.bool 
  false, .sl [], .sl [[AV.int .i64 ar, .sl fs]]]]) fun (v : AV) => kBool v fun (b_1 : Bool) => bif b_1 then some (.bool b) else kOpt (EVs (EV cfg) 7 [AV.sl [[AV.int .i64 ka, .int .i64 na, 
  .str sa, .sl la], [AV.int .i64 kb, .int .i64 nb, .str sb, .sl lb], [AV.int .i64 kc, .int .i64 nc, .str sc, .sl lc]]]) fun (v : AV) => kBool v fun (b_2 : Bool) => bif b_2 then some (.bool 
  b) else wrc5_0 b (0 : Int) ar fs ka na sa la kb nb sb lb kc nc sc lc [[AV.int .i64 ka, .int .i64 na, .str sa, .sl la], [AV.int .i64 kb, .int .i64 nb, .str sb, .sl lb], [AV.int .i64 kc, .int 
  .i64 nc, .str sc, .sl lc]] else none) P) : Gets (EVs (EV cfg) 5 ([AV.agg [AV.int IntKind.i64 ar, AV.sl fs], AV.agg [AV.int IntKind.i64 ka, AV.int IntKind.i64 na, AV.str sa, AV.sl la], AV.agg [AV.int IntKind.i64 kb, AV.int IntKind.i64 nb, AV.str sb, AV.sl lb], AV.agg [AV.int IntKind.i64 kc, AV.int IntKind.i64 nc, AV.str sc, AV.sl lc]] : List AV)) P :=
  Gets.ev (fun _ h => funS rfl rfl Tryz.func5 rfl h) (Gets.eq (by kernel_rfl) h)
theorem wide21_run (al : Bool) (ks : List (List AV)) (rs : List (List AV)) {P : AV → Prop} (h : Gets (bif decide ((↑(List.length ks) : Int) > (30 : Int)) then some (.bool true) else bif decide ((↑(List.length rs) : Int) > (30 : Int)) then some (.bool true) else bif rowsOk 4 ks then 
  bif fitsIn (0 + List.length ks) 56 then wrc15_0 (0 + List.length ks) (0 : Int) al ks rs ks else none else none) P) : Gets (EVs (EV cfg) 15 ([AV.agg [AV.bool al, AV.sl ks, AV.sl rs]] : List AV)) P :=
  Gets.ev (fun _ h => funS rfl rfl Tryz.func15 rfl h) (Gets.eq (by kernel_rfl) h)
theorem large21_run (L : List (List AV)) {P : AV → Prop} (h : Gets (wrc7_0 L (0 : Int)) P) : Gets (EVs (EV cfg) 7 ([AV.sl L] : List AV)) P :=
  Gets.ev (fun _ h => funS rfl rfl Tryz.func7 rfl h) (Gets.eq (by kernel_rfl) h)
theorem contMay_run (L : List (List AV)) {P : AV → Prop} (h : Gets (kOpt (EVs (EV cfg) 31 [.sl L, AV.fn (Fn.func 92) [] []]) fun (v : AV) => kInt .i64 v fun (n : Int) => some (.bool (decide (n ≥ (0 : Int))))) P) : Gets (EVs (EV cfg) 55 ([AV.sl L, AV.fn (Fn.func 92) [] []] : List AV)) P :=
  Gets.ev (fun _ h => funS rfl rfl Tryz.func55 rfl h) (Gets.eq (by kernel_rfl) h)
theorem indMay_run (L : List (List AV)) {P : AV → Prop} (h : Gets (wrc31_0 L (0 : Int)) P) : Gets (EVs (EV cfg) 31 ([AV.sl L, AV.fn (Fn.func 92) [] []] : List AV)) P :=
  Gets.ev (fun _ h => funS rfl rfl Tryz.func31 rfl h) (Gets.eq (by kernel_rfl) h)
theorem contKey_run (L : List (List AV)) (kt : Int) (nt : Int) (st : List UInt8) (lt : List (List AV)) {P : AV → Prop} (h : Gets (kOpt (EVs (EV cfg) 31 [.sl L, AV.fn (Fn.func 56) [] [AV.cptr [AV.int .i64 kt, .int .i64 nt, .str st, .sl lt] 0]]) fun (v : AV) => kInt .i64 v fun (n : Int) => some (.bool (decide (n ≥ 
  (0 : Int))))) P) : Gets (EVs (EV cfg) 55 ([AV.sl L, AV.fn (Fn.func 56) [] [AV.cptr [AV.int IntKind.i64 kt, AV.int IntKind.i64 nt, AV.str st, AV.sl lt] (0 : Nat)]] : List AV)) P :=
  Gets.ev (fun _ h => funS rfl rfl Tryz.func55 rfl h) (Gets.eq (by kernel_rfl) h)
theorem indKey_run (L : List (List AV)) (kt : Int) (nt : Int) (st : List UInt8) (lt : List (List AV)) {P : AV → Prop} (h : Gets (wrc31_0a L kt nt st lt (0 : Int)) P) : Gets (EVs (EV cfg) 31 ([AV.sl L, AV.fn (Fn.func 56) [] [AV.cptr [AV.int IntKind.i64 kt, AV.int IntKind.i64 nt, AV.str st, AV.sl lt] (0 : Nat)]] : List AV)) P :=
  Gets.ev (fun _ h => funS rfl rfl Tryz.func31 rfl h) (Gets.eq (by kernel_rfl) h)
theorem contRg_run (L : List (List AV)) (kt : Int) (nt : Int) (st : List UInt8) (lt : List (List AV)) {P : AV → Prop} (h : Gets (kOpt (EVs (EV cfg) 80 [.sl L, AV.fn (Fn.func 57) [] [AV.cptr [AV.int .i64 kt, .int .i64 nt, .str st, .sl lt] 0]]) fun (v : AV) => kInt .i64 v fun (n : Int) => some (.bool (decide (n ≥ 
  (0 : Int))))) P) : Gets (EVs (EV cfg) 37 ([AV.sl L, AV.fn (Fn.func 57) [] [AV.cptr [AV.int IntKind.i64 kt, AV.int IntKind.i64 nt, AV.str st, AV.sl lt] (0 : Nat)]] : List AV)) P :=
  Gets.ev (fun _ h => funS rfl rfl Tryz.func37 rfl h) (Gets.eq (by kernel_rfl) h)
theorem indRg_run (L : List (List AV)) (kt : Int) (nt : Int) (st : List UInt8) (lt : List (List AV)) {P : AV → Prop} (h : Gets (wrc80_0 L kt nt st lt (0 : Int)) P) : Gets (EVs (EV cfg) 80 ([AV.sl L, AV.fn (Fn.func 57) [] [AV.cptr [AV.int IntKind.i64 kt, AV.int IntKind.i64 nt, AV.str st, AV.sl lt] (0 : Nat)]] : List AV)) P :=
  Gets.ev (fun _ h => funS rfl rfl Tryz.func80 rfl h) (Gets.eq (by kernel_rfl) h)
theorem meetsKey_run (kk : Int) (nk : Int) (sk : List UInt8) (lk : List (List AV)) (kt : Int) (nt : Int) (st : List UInt8) (lt : List (List AV)) {P : AV → Prop} (h : Gets (kOpt (EVs (EV cfg) 54 [.sl [[AV.int .i64 kk, .int .i64 nk, .str sk, .sl lk]]]) fun (v : AV) => kBool v fun (b : Bool) => bif b then kOpt (EVs (EV cfg) 42 [.agg [AV.int .i64 kk, .int .i64 
  nk, .str sk, .sl lk], .agg [AV.int .i64 kt, .int .i64 nt, .str st, .sl lt]]) fun (v : AV) => kBool v fun (b : Bool) => some (.bool b) else some (.bool false)) P) : Gets (EVs (EV cfg) 56 ([AV.agg [AV.int IntKind.i64 kk, AV.int IntKind.i64 nk, AV.str sk, AV.sl lk], AV.cptr [AV.int IntKind.i64 kt, AV.int IntKind.i64 nt, AV.str st, AV.sl lt] (0 : Nat)] : List AV)) P :=
  Gets.ev (fun _ h => funS rfl rfl Tryz.func56 rfl h) (Gets.eq (by kernel_rfl) h)
theorem meetsRg_run (ar : Int) (fs : List (List AV)) (kt : Int) (nt : Int) (st : List UInt8) (lt : List (List AV)) {P : AV → Prop} (h : Gets (kOpt (EVs (EV cfg) 54 [.sl fs]) fun (v : AV) => kBool v fun (b : Bool) => bif b then kOpt (EVs (EV cfg) 39 [.agg [AV.int .i64 ar, .sl fs], .agg [AV.int .i64 kt, .int .i64 nt, .str st, .sl 
  lt]]) fun (v : AV) => kBool v fun (b : Bool) => some (.bool b) else some (.bool false)) P) : Gets (EVs (EV cfg) 57 ([AV.agg [AV.int IntKind.i64 ar, AV.sl fs], AV.cptr [AV.int IntKind.i64 kt, AV.int IntKind.i64 nt, AV.str st, AV.sl lt] (0 : Nat)] : List AV)) P :=
  Gets.ev (fun _ h => funS rfl rfl Tryz.func57 rfl h) (Gets.eq (by kernel_rfl) h)
theorem equalT_run (L : List (List AV)) (M : List (List AV)) {P : AV → Prop} (h : Gets (bif (↑(List.length L) : Int) != (↑(List.length M) : Int) then some (.bool false) else wrc110_0 L M (0 : Int)) P) : Gets (EVs (EV cfg) 110 ([AV.sl L, AV.sl M, AV.fn (Fn.func 42) [] []] : List AV)) P :=
  Gets.ev (fun _ h => funS rfl rfl Tryz.func110 rfl h) (Gets.eq (by kernel_rfl) h)
theorem compT_run (L : List (List AV)) (M : List (List AV)) {P : AV → Prop} (h : Gets (wrc63_0 L M (0 : Int)) P) : Gets (EVs (EV cfg) 63 ([AV.sl L, AV.sl M, AV.fn (Fn.func 25) [] []] : List AV)) P :=
  Gets.ev (fun _ h => funS rfl rfl Tryz.func63 rfl h) (Gets.eq (by kernel_rfl) h)
theorem wrc5_0_step (b : Bool) (v11 : Int) (c0_0 : Int) (c0_1 : List (List AV)) (c1_0 : Int) (c1_1 : Int) (c1_2 : List UInt8) (c1_3 : List (List AV)) (c2_0 : Int) (c2_1 : Int) (c2_2 : List UInt8) (c2_3 : List (List AV)) (c3_0 : Int) (c3_1 : Int) (c3_2 : List UInt8) (c3_3 : List (List AV)) (h4 : List (List AV)) {P : AV → Prop} (h : Gets (bif decide (v11 < (3 : Int)) then bif leInt (0 : Int) v11 && ltInt v11 (3 : Int) then kOpt (List.get?Internal h4 (0 + Int.toNat v11)) fun (row : List AV) => bif Nat.ble 4 (List.length 
  row) then kTmC (List.take 4 row) fun (n n_1 : Int) (s : List UInt8) (rows : List (List AV)) => (kOpt (EVf (EV cfg) 24 [.sl [[AV.int .i64 n, .int .i64 n_1, .str s, .sl rows]]]) fun (v 
  : AV) => kTmV v fun (n n_2 : Int) (s : List UInt8) (rows : List (List AV)) => (kOpt (EVf (EV cfg) 23 [.agg [AV.int .i64 n, .int .i64 n_2, .str s, .sl rows]]) fun (v : AV) => kTup v fun 
  (cs : List AV) => kCons cs fun (c : AV) (cs : List AV) => kAgg c fun (cs_1 : List AV) => kCons cs_1 fun (c : AV) (cs_2 : List AV) => kInt .i64 c fun (n : Int) => kCons cs_2 fun (c : 
  AV) (cs_3 : List AV) => kInt .i64 c fun (n : Int) => kCons cs_3 fun (c : AV) (cs_4 : List AV) => kStr c fun (s : List UInt8) => kCons cs_4 fun (c : AV) (cs_5 : List AV) => kSl c fun 
  (rows : List (List AV)) => kNil cs_5 (kCons cs fun (c : AV) (cs : List AV) => kInt .i64 c fun (n : Int) => kNil cs (bif n != (0 : Int) then some (.bool b) else bif (↑(List.length rows) 
  : Int) == (0 : Int) then some (.bool b) else wrc5_0 b (IntKind.wrap .i64 (v11 + (1 : Int))) c0_0 c0_1 c1_0 c1_1 c1_2 c1_3 c2_0 c2_1 c2_2 c2_3 c3_0 c3_1 c3_2 c3_3 h4)))) else none else 
  none else wrc5_1 b (0 : Int) c0_0 c0_1 c1_0 c1_1 c1_2 c1_3 c2_0 c2_1 c2_2 c2_3 c3_0 c3_1 c3_2 c3_3) P) : Gets (wrc5_0 b v11 c0_0 c0_1 c1_0 c1_1 c1_2 c1_3 c2_0 c2_1 c2_2 c2_3 c3_0 c3_1 c3_2 c3_3 h4) P :=
  Gets.ev (fun _ h => loop_step (cfg := cfg) (f := 5) (rd := none) (bs := 0) h) (Gets.eq (by kernel_rfl) h)
theorem wrc15_0_step (nv3 : Nat) (v4 : Int) (c0_0 : Bool) (c0_1 : List (List AV)) (c0_2 : List (List AV)) (h1 : List (List AV)) {P : AV → Prop} (h : Gets (bif decide (v4 < (↑(List.length c0_2) : Int)) then bif leInt (0 : Int) v4 && ltInt v4 (↑(List.length c0_2) : Int) then kOpt (List.get?Internal c0_2 (Int.toNat v4)) fun (row : List AV) 
  => bif Nat.beq (List.length row) 2 then kOpt (List.get?Internal row 1) fun (v : AV) => kSl v fun (rows : List (List AV)) => bif decide ((↑(List.length rows) : Int) > (70 : Int)) then 
  some (.bool true) else bif leInt (0 : Int) v4 && ltInt v4 (↑(List.length c0_2) : Int) then kOpt (List.get?Internal c0_2 (Int.toNat v4)) fun (row : List AV) => bif Nat.beq (List.length 
  row) 2 then kOpt (List.get?Internal row 1) fun (v : AV) => kSl v fun (rows : List (List AV)) => bif rowsOk 4 rows then bif Nat.ble (0 + nv3) (List.length h1) && fitsIn (nv3 + List.length 
  rows) 56 then wrc15_0 (nv3 + List.length rows) (IntKind.wrap .i64 (v4 + (1 : Int))) c0_0 c0_1 c0_2 (List.append (List.take nv3 h1) rows) else none else none else none else none else 
  none else none else wrc15_1 nv3 (0 : Int) h1) P) : Gets (wrc15_0 nv3 v4 c0_0 c0_1 c0_2 h1) P :=
  Gets.ev (fun _ h => loop_step (cfg := cfg) (f := 15) (rd := none) (bs := 0) h) (Gets.eq (by kernel_rfl) h)
theorem wrc7_0_step (L : List (List AV)) (v3 : Int) {P : AV → Prop} (h : Gets (bif decide (v3 < (↑(List.length L) : Int)) then bif leInt (0 : Int) v3 && ltInt v3 (↑(List.length L) : Int) then kOpt (List.get?Internal L (Int.toNat v3)) fun (row : List AV) => bif 
  Nat.beq (List.length row) 4 then bif Nat.ble 4 (List.length row) then kTmC (List.take 4 row) fun (n n_1 : Int) (s : List UInt8) (rows : List (List AV)) => (kOpt (EVs (EV cfg) 27 [.agg 
  [AV.int .i64 n, .int .i64 n_1, .str s, .sl rows], .int .i64 (400 : Int)]) fun (v : AV) => kBool v fun (b : Bool) => bif b then some (.bool true) else wrc7_0 L (IntKind.wrap .i64 (v3 + 
  (1 : Int)))) else none else none else none else some (.bool false)) P) : Gets (wrc7_0 L v3) P :=
  Gets.ev (fun _ h => loop_step (cfg := cfg) (f := 7) (rd := none) (bs := 0) h) (Gets.eq (by kernel_rfl) h)
theorem wrc31_0_step (L : List (List AV)) (v8 : Int) {P : AV → Prop} (h : Gets (bif decide (v8 < (↑(List.length L) : Int)) then bif leInt (0 : Int) v8 && ltInt v8 (↑(List.length L) : Int) then kOpt (List.get?Internal L (Int.toNat v8)) fun (row : List AV) => bif 
  Nat.beq (List.length row) 4 then bif Nat.ble 4 (List.length row) then kTmC (List.take 4 row) fun (n n_1 : Int) (s : List UInt8) (rows : List (List AV)) => (kOpt (EVs (EV cfg) 92 [.agg 
  [AV.int .i64 n, .int .i64 n_1, .str s, .sl rows]]) fun (v : AV) => kBool v fun (b : Bool) => bif b then some (.int .i64 v8) else wrc31_0 L (IntKind.wrap .i64 (v8 + (1 : Int)))) else none 
  else none else none else some (.int .i64 (-1 : Int))) P) : Gets (wrc31_0 L v8) P :=
  Gets.ev (fun _ h => loop_step (cfg := cfg) (f := 31) (rd := none) (bs := 0) h) (Gets.eq (by kernel_rfl) h)
theorem wrc31_0a_step (L : List (List AV)) (kt : Int) (nt : Int) (st : List UInt8) (lt : List (List AV)) (v8 : Int) {P : AV → Prop} (h : Gets (bif decide (v8 < (↑(List.length L) : Int)) then bif leInt (0 : Int) v8 && ltInt v8 (↑(List.length L) : Int) then kOpt (List.get?Internal L (Int.toNat v8)) fun (row : List AV) => bif 
  Nat.beq (List.length row) 4 then bif Nat.ble 4 (List.length row) then kTmC (List.take 4 row) fun (n n_1 : Int) (s : List UInt8) (rows : List (List AV)) => (kOpt (EVs (EV cfg) 56 [.agg 
  [AV.int .i64 n, .int .i64 n_1, .str s, .sl rows], AV.cptr [AV.int .i64 kt, .int .i64 nt, .str st, .sl lt] 0]) fun (v : AV) => kBool v fun (b : Bool) => bif b then some (.int .i64 v8) else 
  wrc31_0a L kt nt st lt (IntKind.wrap .i64 (v8 + (1 : Int)))) else none else none else none else some (.int .i64 (-1 : Int))) P) : Gets (wrc31_0a L kt nt st lt v8) P :=
  Gets.ev (fun _ h => loop_step (cfg := cfg) (f := 31) (rd := none) (bs := 0) h) (Gets.eq (by kernel_rfl) h)
theorem wrc80_0_step (L : List (List AV)) (kt : Int) (nt : Int) (st : List UInt8) (lt : List (List AV)) (v8 : Int) {P : AV → Prop} (h : Gets (bif decide (v8 < (↑(List.length L) : Int)) then bif leInt (0 : Int) v8 && ltInt v8 (↑(List.length L) : Int) then kOpt (List.get?Internal L (Int.toNat v8)) fun (row : List AV) => bif 
  Nat.beq (List.length row) 2 then bif Nat.ble 2 (List.length row) then kCons (List.take 2 row) fun (c : AV) (cs : List AV) => kInt .i64 c fun (n : Int) => kCons cs fun (c : AV) (cs : 
  List AV) => kSl c fun (rows : List (List AV)) => kNil cs (kOpt (EVs (EV cfg) 57 [.agg [AV.int .i64 n, .sl rows], AV.cptr [AV.int .i64 kt, .int .i64 nt, .str st, .sl lt] 0]) fun (v : AV) 
  => kBool v fun (b : Bool) => bif b then some (.int .i64 v8) else wrc80_0 L kt nt st lt (IntKind.wrap .i64 (v8 + (1 : Int)))) else none else none else none else some (.int .i64 (-1 : 
  Int))) P) : Gets (wrc80_0 L kt nt st lt v8) P :=
  Gets.ev (fun _ h => loop_step (cfg := cfg) (f := 80) (rd := none) (bs := 0) h) (Gets.eq (by kernel_rfl) h)
theorem wrc110_0_step (L : List (List AV)) (M : List (List AV)) (v17 : Int) {P : AV → Prop} (h : Gets (bif decide (v17 < (↑(List.length L) : Int)) then bif leInt (0 : Int) v17 && ltInt v17 (↑(List.length L) : Int) then kOpt (List.get?Internal L (Int.toNat v17)) fun (row : List AV) => 
  bif Nat.beq (List.length row) 4 then bif Nat.ble 4 (List.length row) then kTmC (List.take 4 row) fun (n n_1 : Int) (s : List UInt8) (rows : List (List AV)) => (bif leInt (0 : Int) v17 
  && ltInt v17 (↑(List.length M) : Int) then kOpt (List.get?Internal M (Int.toNat v17)) fun (row : List AV) => bif Nat.beq (List.length row) 4 then bif Nat.ble 4 (List.length row) then 
  kTmC (List.take 4 row) fun (n_2 n_3 : Int) (s_1 : List UInt8) (rows_1 : List (List AV)) => (kOpt (EVs (EV cfg) 42 [.agg [AV.int .i64 n, .int .i64 n_1, .str s, .sl rows], .agg [AV.int .i64 
  n_2, .int .i64 n_3, .str s_1, .sl rows_1]]) fun (v : AV) => kBool v fun (b : Bool) => bif !b then some (.bool false) else wrc110_0 L M (IntKind.wrap .i64 (v17 + (1 : Int)))) else none 
  else none else none) else none else none else none else some (.bool true)) P) : Gets (wrc110_0 L M v17) P :=
  Gets.ev (fun _ h => loop_step (cfg := cfg) (f := 110) (rd := none) (bs := 0) h) (Gets.eq (by kernel_rfl) h)
theorem wrc63_0_step (L : List (List AV)) (M : List (List AV)) (v13 : Int) {P : AV → Prop} (h : Gets (bif decide (v13 < (↑(List.length L) : Int)) then bif leInt (0 : Int) v13 && ltInt v13 (↑(List.length L) : Int) then kOpt (List.get?Internal L (Int.toNat v13)) fun (row : List AV) => 
  bif Nat.beq (List.length row) 4 then bif Nat.ble 4 (List.length row) then kTmC (List.take 4 row) fun (n n_1 : Int) (s : List UInt8) (rows : List (List AV)) => (bif decide (v13 ≥ (↑(List.length 
  M) : Int)) then some (.int .i64 (1 : Int)) else bif leInt (0 : Int) v13 && ltInt v13 (↑(List.length M) : Int) then kOpt (List.get?Internal M (Int.toNat v13)) fun (row : List AV) => 
  bif Nat.beq (List.length row) 4 then bif Nat.ble 4 (List.length row) then kTmC (List.take 4 row) fun (n_2 n_3 : Int) (s_1 : List UInt8) (rows_1 : List (List AV)) => (kOpt (EVs (EV cfg) 
  25 [.agg [AV.int .i64 n, .int .i64 n_1, .str s, .sl rows], .agg [AV.int .i64 n_2, .int .i64 n_3, .str s_1, .sl rows_1]]) fun (v : AV) => kInt .i64 v fun (n : Int) => bif n != (0 : Int) 
  then some (.int .i64 n) else wrc63_0 L M (IntKind.wrap .i64 (v13 + (1 : Int)))) else none else none else none) else none else none else none else bif decide ((↑(List.length L) : Int) 
  < (↑(List.length M) : Int)) then some (.int .i64 (-1 : Int)) else some (.int .i64 (0 : Int))) P) : Gets (wrc63_0 L M v13) P :=
  Gets.ev (fun _ h => loop_step (cfg := cfg) (f := 63) (rd := none) (bs := 0) h) (Gets.eq (by kernel_rfl) h)
theorem wrc5_1_step (b : Bool) (v14 : Int) (c0_0 : Int) (c0_1 : List (List AV)) (c1_0 : Int) (c1_1 : Int) (c1_2 : List UInt8) (c1_3 : List (List AV)) (c2_0 : Int) (c2_1 : Int) (c2_2 : List UInt8) (c2_3 : List (List AV)) (c3_0 : Int) (c3_1 : Int) (c3_2 : List UInt8) (c3_3 : List (List AV)) {P : AV → Prop} (h : Gets (bif decide (v14 < (↑(List.length c0_1) : Int)) then bif leInt (0 : Int) v14 && ltInt v14 (↑(List.length c0_1) : Int) then kOpt (List.get?Internal c0_1 (Int.toNat v14)) fun (row : List 
  AV) => bif Nat.beq (List.length row) 4 then bif Nat.ble 4 (List.length row) then kTmC (List.take 4 row) fun (n n_1 : Int) (s : List UInt8) (rows : List (List AV)) => (kOpt (EVf (EV 
  cfg) 24 [.sl [[AV.int .i64 n, .int .i64 n_1, .str s, .sl rows]]]) fun (v : AV) => kTmV v fun (n n_2 : Int) (s : List UInt8) (rows : List (List AV)) => (kOpt (EVf (EV cfg) 23 [.agg [AV.int 
  .i64 n, .int .i64 n_2, .str s, .sl rows]]) fun (v : AV) => kTup v fun (cs : List AV) => kCons cs fun (c : AV) (cs : List AV) => kAgg c fun (cs_1 : List AV) => kCons cs_1 fun (c : AV) 
  (cs_2 : List AV) => kInt .i64 c fun (n : Int) => kCons cs_2 fun (c : AV) (cs_3 : List AV) => kInt .i64 c fun (n : Int) => kCons cs_3 fun (c : AV) (cs_4 : List AV) => kStr c fun (s : 
  List UInt8) => kCons cs_4 fun (c : AV) (cs_5 : List AV) => kSl c fun (rows : List (List AV)) => kNil cs_5 (kCons cs fun (c : AV) (cs : List AV) => kInt .i64 c fun (n : Int) => kNil 
  cs (bif n != (0 : Int) then some (.bool b) else wrc5_1 b (IntKind.wrap .i64 (v14 + (1 : Int))) c0_0 c0_1 c1_0 c1_1 c1_2 c1_3 c2_0 c2_1 c2_2 c2_3 c3_0 c3_1 c3_2 c3_3)))) else none else 
  none else none else jrc5_0 b c0_0 c0_1 c1_0 c1_1 c1_2 c1_3 c2_0 c2_1 c2_2 c2_3 c3_0 c3_1 c3_2 c3_3) P) : Gets (wrc5_1 b v14 c0_0 c0_1 c1_0 c1_1 c1_2 c1_3 c2_0 c2_1 c2_2 c2_3 c3_0 c3_1 c3_2 c3_3) P :=
  Gets.ev (fun _ h => loop_step (cfg := cfg) (f := 5) (rd := none) (bs := 0) h) (Gets.eq (by kernel_rfl) h)
theorem wrc15_1_step (nv3 : Nat) (v5 : Int) (h0 : List (List AV)) {P : AV → Prop} (h : Gets (bif decide (v5 < (↑nv3 : Int)) then bif leInt (0 : Int) v5 && ltInt v5 (↑nv3 : Int) then kOpt (List.get?Internal h0 (0 + Int.toNat v5)) fun (row : List AV) => bif Nat.ble 4 (List.length 
  row) then kTmC (List.take 4 row) fun (n n_1 : Int) (s : List UInt8) (rows : List (List AV)) => (kOpt (EVs (EV cfg) 27 [.agg [AV.int .i64 n, .int .i64 n_1, .str s, .sl rows], .int .i64 
  (100 : Int)]) fun (v : AV) => kBool v fun (b : Bool) => bif b then some (.bool true) else wrc15_1 nv3 (IntKind.wrap .i64 (v5 + (1 : Int))) h0) else none else none else some (.bool false)) P) : Gets (wrc15_1 nv3 v5 h0) P :=
  Gets.ev (fun _ h => loop_step (cfg := cfg) (f := 15) (rd := none) (bs := 0) h) (Gets.eq (by kernel_rfl) h)
theorem jrc5_0_step (v9 : Bool) (c0_0 : Int) (c0_1 : List (List AV)) (c1_0 : Int) (c1_1 : Int) (c1_2 : List UInt8) (c1_3 : List (List AV)) (c2_0 : Int) (c2_1 : Int) (c2_2 : List UInt8) (c2_3 : List (List AV)) (c3_0 : Int) (c3_1 : Int) (c3_2 : List UInt8) (c3_3 : List (List AV)) {P : AV → Prop} (h : Gets (bif decide (c0_0 < (↑(List.length c0_1) : Int)) then some (.bool v9) else kOpt (EVs (EV cfg) 21 [.agg [AV.int .i64 c0_0, .sl c0_1], .agg [AV.int .i64 c1_0, .int .i64 c1_1, .str c1_2, .sl 
  c1_3]]) fun (v : AV) => kInt .i64 v fun (n : Int) => kOpt (EVs (EV cfg) 21 [.agg [AV.int .i64 c0_0, .sl c0_1], .agg [AV.int .i64 c2_0, .int .i64 c2_1, .str c2_2, .sl c2_3]]) fun (v : AV) 
  => kInt .i64 v fun (n_1 : Int) => jrc5_1 v9 n n_1 c0_0 c0_1 c1_0 c1_1 c1_2 c1_3 c2_0 c2_1 c2_2 c2_3 c3_0 c3_1 c3_2 c3_3) P) : Gets (jrc5_0 v9 c0_0 c0_1 c1_0 c1_1 c1_2 c1_3 c2_0 c2_1 c2_2 c2_3 c3_0 c3_1 c3_2 c3_3) P :=
  Gets.ev (fun _ h => cut_step h) (Gets.eq (by kernel_rfl) h)
theorem jrc5_1_step (v9 : Bool) (v17 : Int) (v18 : Int) (c0_0 : Int) (c0_1 : List (List AV)) (c1_0 : Int) (c1_1 : Int) (c1_2 : List UInt8) (c1_3 : List (List AV)) (c2_0 : Int) (c2_1 : Int) (c2_2 : List UInt8) (c2_3 : List (List AV)) (c3_0 : Int) (c3_1 : Int) (c3_2 : List UInt8) (c3_3 : List (List AV)) {P : AV → Prop} (h : Gets (bif decide (v17 < v18) then kOpt (EVs (EV cfg) 25 [.agg [AV.int .i64 c1_0, .int .i64 c1_1, .str c1_2, .sl c1_3], .agg [AV.int .i64 c2_0, .int .i64 c2_1, .str c2_2, .sl c2_3]]) fun (v : 
  AV) => kInt .i64 v fun (n : Int) => bif decide (n ≥ (0 : Int)) then some (.bool false) else bif decide (v17 > v18) then kOpt (EVs (EV cfg) 25 [.agg [AV.int .i64 c1_0, .int .i64 c1_1, 
  .str c1_2, .sl c1_3], .agg [AV.int .i64 c2_0, .int .i64 c2_1, .str c2_2, .sl c2_3]]) fun (v : AV) => kInt .i64 v fun (n : Int) => bif decide (n ≤ (0 : Int)) then some (.bool false) else 
  jrc5_2 v9 v17 v18 c0_0 c0_1 c1_0 c1_1 c1_2 c1_3 c2_0 c2_1 c2_2 c2_3 c3_0 c3_1 c3_2 c3_3 else jrc5_2 v9 v17 v18 c0_0 c0_1 c1_0 c1_1 c1_2 c1_3 c2_0 c2_1 c2_2 c2_3 c3_0 c3_1 c3_2 c3_3 
  else bif decide (v17 > v18) then kOpt (EVs (EV cfg) 25 [.agg [AV.int .i64 c1_0, .int .i64 c1_1, .str c1_2, .sl c1_3], .agg [AV.int .i64 c2_0, .int .i64 c2_1, .str c2_2, .sl c2_3]]) fun 
  (v : AV) => kInt .i64 v fun (n : Int) => bif decide (n ≤ (0 : Int)) then some (.bool false) else jrc5_2 v9 v17 v18 c0_0 c0_1 c1_0 c1_1 c1_2 c1_3 c2_0 c2_1 c2_2 c2_3 c3_0 c3_1 c3_2 c3_3 
  else jrc5_2 v9 v17 v18 c0_0 c0_1 c1_0 c1_1 c1_2 c1_3 c2_0 c2_1 c2_2 c2_3 c3_0 c3_1 c3_2 c3_3) P) : Gets (jrc5_1 v9 v17 v18 c0_0 c0_1 c1_0 c1_1 c1_2 c1_3 c2_0 c2_1 c2_2 c2_3 c3_0 c3_1 c3_2 c3_3) P :=
  Gets.ev (fun _ h => cut_step h) (Gets.eq (by kernel_rfl) h)
theorem jrc5_2_step (v9 : Bool) (v17 : Int) (v18 : Int) (c0_0 : Int) (c0_1 : List (List AV)) (c1_0 : Int) (c1_1 : Int) (c1_2 : List UInt8) (c1_3 : List (List AV)) (c2_0 : Int) (c2_1 : Int) (c2_2 : List UInt8) (c2_3 : List (List AV)) (c3_0 : Int) (c3_1 : Int) (c3_2 : List UInt8) (c3_3 : List (List AV)) {P : AV → Prop} (h : Gets (kOpt (EVs (EV cfg) 25 [.agg [AV.int .i64 c1_0, .int .i64 c1_1, .str c1_2, .sl c1_3], .agg [AV.int .i64 c3_0, .int .i64 c3_1, .str c3_2, .sl c3_3]]) fun (v : AV) => kInt .i64 v fun (n : 
  Int) => bif decide (n < (0 : Int)) then kOpt (EVs (EV cfg) 25 [.agg [AV.int .i64 c3_0, .int .i64 c3_1, .str c3_2, .sl c3_3], .agg [AV.int .i64 c2_0, .int .i64 c2_1, .str c2_2, .sl c2_3]]) 
  fun (v : AV) => kInt .i64 v fun (n : Int) => bif decide (n < (0 : Int)) then bif v17 == (0 : Int) then bif v18 == (0 : Int) then bif v9 then kOpt (EVs (EV cfg) 21 [.agg [AV.int .i64 c0_0, 
  .sl c0_1], .agg [AV.int .i64 c3_0, .int .i64 c3_1, .str c3_2, .sl c3_3]]) fun (v : AV) => kInt .i64 v fun (n : Int) => some (.bool (n == (0 : Int))) else some (.bool false) else jrc5_3 
  v9 v17 c0_0 c0_1 c1_0 c1_1 c1_2 c1_3 c2_0 c2_1 c2_2 c2_3 c3_0 c3_1 c3_2 c3_3 else jrc5_3 v9 v17 c0_0 c0_1 c1_0 c1_1 c1_2 c1_3 c2_0 c2_1 c2_2 c2_3 c3_0 c3_1 c3_2 c3_3 else jrc5_3 v9 
  v17 c0_0 c0_1 c1_0 c1_1 c1_2 c1_3 c2_0 c2_1 c2_2 c2_3 c3_0 c3_1 c3_2 c3_3 else jrc5_3 v9 v17 c0_0 c0_1 c1_0 c1_1 c1_2 c1_3 c2_0 c2_1 c2_2 c2_3 c3_0 c3_1 c3_2 c3_3) P) : Gets (jrc5_2 v9 v17 v18 c0_0 c0_1 c1_0 c1_1 c1_2 c1_3 c2_0 c2_1 c2_2 c2_3 c3_0 c3_1 c3_2 c3_3) P :=
  Gets.ev (fun _ h => cut_step h) (Gets.eq (by kernel_rfl) h)
theorem jrc5_3_step (v9 : Bool) (v17 : Int) (c0_0 : Int) (c0_1 : List (List AV)) (c1_0 : Int) (c1_1 : Int) (c1_2 : List UInt8) (c1_3 : List (List AV)) (c2_0 : Int) (c2_1 : Int) (c2_2 : List UInt8) (c2_3 : List (List AV)) (c3_0 : Int) (c3_1 : Int) (c3_2 : List UInt8) (c3_3 : List (List AV)) {P : AV → Prop} (h : Gets (bif v9 then bif refsLtL 0 [.agg [.bool false, .sl [], .sl [[AV.int .i64 c0_0, .sl c0_1]]], .agg [AV.int .i64 c1_0, .int .i64 c1_1, .str c1_2, .sl c1_3]] then kOpt (EVs (EV cfg) 19 [.agg 
  [.bool false, .sl [], .sl [[AV.int .i64 c0_0, .sl c0_1]]], .agg [AV.int .i64 c1_0, .int .i64 c1_1, .str c1_2, .sl c1_3]]) fun (v : AV) => kBool v fun (b : Bool) => some (.bool (b == (v17 
  == (0 : Int)))) else none else some (.bool false)) P) : Gets (jrc5_3 v9 v17 c0_0 c0_1 c1_0 c1_1 c1_2 c1_3 c2_0 c2_1 c2_2 c2_3 c3_0 c3_1 c3_2 c3_3) P :=
  Gets.ev (fun _ h => cut_step h) (Gets.eq (by kernel_rfl) h)
end Go.Proofs.YteojjjhhmbogfaaGreat
end

section
namespace Go.Proofs.YteojjjhhmbogfaaGreat
open Go.Av
set_option maxRecDepth 100000
set_option maxHeartbeats 0

noncomputable def Le58_0 : Den := evC cfg (EV cfg) 134 none 7 (sub (bodyOf Tryz.f134) [0, 0, 0])
noncomputable def Ae58_0 : Ex × List AV × AH → Option AV := kAft (Cfg.keepOut cfg 134 (firstRid (sub (bodyOf Tryz.f134) [0, 0, 0]))) (kBlock 0 (kSeq (fun (fr : List AV) (H : AH) => kCutTo (Cfg.cut cfg 134 (firstRid (sub (bodyOf Tryz.f134) [1]))) fr H fun (fr : List AV) (H : AH) => kCode cfg (EV cfg) (kfN cfg (5)) 55 none 7 (sub (bodyOf Tryz.f134) [1]) fr H (kFinG cfg (Cfg.lift cfg 134 0) (fun (v : AV) (H : AH) => (fun (r : AV × AH) => kRangeEnd 0 6 (fx 18 [(4, AV.ptr 1 0 0), (5, AV.ptr 2 0 0)]) (kBlock 0 (kSeq (fun (fr : List AV) (H : AH) => kCutTo (Cfg.cut cfg 137 (firstRid (sub (bodyOf Tryz.f137) [1, 1, 1, 1]))) fr H fun (fr : List AV) (H : AH) => kCode cfg (EV cfg) (kfN cfg 6) 137 none 0 (sub (bodyOf Tryz.f137) [1, 1, 1, 1]) fr H (kFinF cfg (Cfg.lift cfg 137 0) (Array.toList (Func.results Tryz.f137)))) (kFinF cfg (Cfg.lift cfg 137 0) (Array.toList (Func.results Tryz.f137))))) (Prod.snd r)) (v, H)) (Array.toList (Func.results (Prod.snd (134, Tryz.f134)))))) (kFinG cfg (Cfg.lift cfg 134 0) (fun (v : AV) (H : AH) => (fun (r : AV × AH) => kRangeEnd 0 6 (fx 18 [(4, AV.ptr 1 0 0), (5, AV.ptr 2 0 0)]) (kBlock 0 (kSeq (fun (fr : List AV) (H : AH) => kCutTo (Cfg.cut cfg 137 (firstRid (sub (bodyOf Tryz.f137) [1, 1, 1, 1]))) fr H fun (fr : List AV) (H : AH) => kCode cfg (EV cfg) (kfN cfg 6) 137 none 0 (sub (bodyOf Tryz.f137) [1, 1, 1, 1]) fr H (kFinF cfg (Cfg.lift cfg 137 0) (Array.toList (Func.results Tryz.f137)))) (kFinF cfg (Cfg.lift cfg 137 0) (Array.toList (Func.results Tryz.f137))))) (Prod.snd r)) (v, H)) (Array.toList (Func.results (Prod.snd (134, Tryz.f134)))))))
noncomputable def We58_0 : List AV × AH → Option AV := fun (p : List AV × AH) => kOpt (LOOP 7 (some [0, 1, 2]) [] Le58_0 p) Ae58_0
noncomputable abbrev we58_0 (c0_0 : Int) (c0_1 : Int) (c0_2 : List UInt8) (c0_3 : List (List AV)) (nc1_0 : Nat) (c2_0 : Bool) (c3_0 : Int) (c3_1 : Int) (c3_2 : List UInt8) (c3_3 : List (List AV)) (h5 : List (List AV)) : Option (AV) := We58_0  (((fx 23 [(0, AV.yld (6 : Nat)), (1, AV.ptr (3 : Nat) (0 : Nat) (0 : Nat)), (2, AV.ptr (4 : Nat) (0 : Nat) (0 : Nat))]) : List AV), ([ABlk.rows false (4 : Nat) [[AV.int IntKind.i64 c0_0, AV.int IntKind.i64 c0_1, AV.str c0_2, AV.sl c0_3]], ABlk.rows false (1 : Nat) [[AV.ms (5 : Nat) (0 : Nat) nc1_0]], ABlk.rows false (1 : Nat) [[AV.bool c2_0]], ABlk.rows false (4 : Nat) [[AV.int IntKind.i64 c3_0, AV.int IntKind.i64 c3_1, AV.str c3_2, AV.sl c3_3]], ABlk.rows false (1 : Nat) [[AV.ptr (2 : Nat) (0 : Nat) (0 : Nat)]], ABlk.rows true (4 : Nat) h5, rngB Tryz.f137 (137 : Nat) [(1 : Nat), (1 : Nat), (1 : Nat), (0 : Nat), (1 : Nat), (0 : Nat)] (fx 18 [(4, AV.ptr (1 : Nat) (0 : Nat) (0 : Nat))]) none LoopState.ready] : AH))
noncomputable abbrev we58_0a (c0_0 : Int) (c0_1 : Int) (c0_2 : List UInt8) (c0_3 : List (List AV)) (nc1_0 : Nat) (c2_0 : Bool) (c3_0 : Int) (c3_1 : Int) (c3_2 : List UInt8) (c3_3 : List (List AV)) (h7 : List (List AV)) : Option (AV) := We58_0  (((fx 23 [(0, AV.yld (6 : Nat)), (1, AV.ptr (3 : Nat) (0 : Nat) (0 : Nat)), (2, AV.ptr (4 : Nat) (0 : Nat) (0 : Nat))]) : List AV), ([ABlk.rows false (4 : Nat) [[AV.int IntKind.i64 c0_0, AV.int IntKind.i64 c0_1, AV.str c0_2, AV.sl c0_3]], ABlk.rows false (1 : Nat) [[AV.ms (7 : Nat) (0 : Nat) nc1_0]], ABlk.rows false (1 : Nat) [[AV.bool c2_0]], ABlk.rows false (4 : Nat) [[AV.int IntKind.i64 c3_0, AV.int IntKind.i64 c3_1, AV.str c3_2, AV.sl c3_3]], ABlk.rows false (1 : Nat) [[AV.ptr (2 : Nat) (0 : Nat) (0 : Nat)]], ABlk.dead, rngB Tryz.f137 (137 : Nat) [(1 : Nat), (1 : Nat), (1 : Nat), (0 : Nat), (1 : Nat), (0 : Nat)] (fx 18 [(4, AV.ptr (1 : Nat) (0 : Nat) (0 : Nat))]) none LoopState.ready, ABlk.rows true (4 : Nat) h7] : AH))
theorem patAny_run (kt : Int) (nt : Int) (st : List UInt8) (lt : List (List AV)) {P : AV → Prop} (h : Gets (bif kt == (2 : Int) then bif st == [(95 : UInt8)] then kOpt (EVs (EV cfg) 74 [.agg [AV.int .i64 kt, .int .i64 nt, .str st, .sl lt]]) fun (v : AV) => kBool v fun (b : Bool) => some (.bool 
  b) else some (.bool false) else some (.bool false)) P) : Gets (EVs (EV cfg) 159 ([AV.agg [AV.int IntKind.i64 kt, AV.int IntKind.i64 nt, AV.str st, AV.sl lt]] : List AV)) P :=
  Gets.ev (fun _ h => funS rfl rfl Tryz.func159 rfl h) (Gets.eq (by kernel_rfl) h)
theorem spHead_run (kt : Int) (nt : Int) (st : List UInt8) (lt : List (List AV)) {P : AV → Prop} (h : Gets (kOpt (EVs (EV cfg) 158 [.agg [AV.int .i64 kt, .int .i64 nt, .str st, .sl lt]]) fun (v : AV) => kTup v fun (cs : List AV) => kCons cs fun (c : AV) (cs : List AV) => kInt .i64 c fun (n : 
  Int) => kCons cs fun (c : AV) (cs : List AV) => kBool c fun (b : Bool) => kNil cs (bif b then some (.bool true) else bif kt == (7 : Int) then some (.bool true) else kOpt (EVs (EV cfg) 
  159 [.agg [AV.int .i64 kt, .int .i64 nt, .str st, .sl lt]]) fun (v : AV) => kBool v fun (b : Bool) => some (.bool b))) P) : Gets (EVs (EV cfg) 135 ([AV.agg [AV.int IntKind.i64 kt, AV.int IntKind.i64 nt, AV.str st, AV.sl lt]] : List AV)) P :=
  Gets.ev (fun _ h => funS rfl rfl Tryz.func135 rfl h) (Gets.eq (by kernel_rfl) h)
theorem spList_run (kt : Int) (nt : Int) (st : List UInt8) (lt : List (List AV)) {P : AV → Prop} (h : Gets (we58_0 kt nt st lt 0 false kt nt st lt []) P) : Gets (EVf (EV cfg) 137 ([AV.agg [AV.int IntKind.i64 kt, AV.int IntKind.i64 nt, AV.str st, AV.sl lt]] : List AV)) P :=
  Gets.ev (fun _ h => funF rfl rfl Tryz.func137 rfl h) (Gets.eq (by kernel_rfl) h)
theorem spCheck_run (kt : Int) (nt : Int) (st : List UInt8) (lt : List (List AV)) {P : AV → Prop} (h : Gets (kOpt (EVq (EV cfg) 72 [.agg [AV.int .i64 kt, .int .i64 nt, .str st, .sl lt]]) fun (q : OV × AV) => kInt .i64 q.2 fun (n : Int) => kOwn q.1 (some (.int .i64 n)) fun (sz : Nat) (rs : List 
  (List AV)) (off len : Nat) => some (.int .i64 n)) P) : Gets (EVs (EV cfg) 103 ([AV.agg [AV.int IntKind.i64 kt, AV.int IntKind.i64 nt, AV.str st, AV.sl lt]] : List AV)) P :=
  Gets.ev (fun _ h => funS rfl rfl Tryz.func103 rfl h) (Gets.eq (by kernel_rfl) h)
theorem makeTuple_run (L : List (List AV)) {P : AV → Prop} (h : Gets (kOpt (EVo (EV cfg) 33 [.sl L]) fun (o : OV) => kOwn o (some (.agg [AV.int .i64 (7 : Int), .int .i64 (0 : Int), .str [], .sl []])) fun (sz : Nat) (rs : List (List AV)) (off len : Nat) 
  => bif Nat.ble (off + len) (List.length rs) && true then some (.agg [AV.int .i64 (7 : Int), .int .i64 (0 : Int), .str [], .sl (List.take len (List.drop off rs))]) else none) P) : Gets (EVf (EV cfg) 101 ([AV.sl L] : List AV)) P :=
  Gets.ev (fun _ h => funF rfl rfl Tryz.func101 rfl h) (Gets.eq (by kernel_rfl) h)
theorem makeAtom_run (s : List UInt8) {P : AV → Prop} (h : Gets (some (.agg [AV.int .i64 (2 : Int), .int .i64 (0 : Int), .str s, .sl []])) P) : Gets (EVf (EV cfg) 66 ([AV.str s] : List AV)) P :=
  Gets.ev (fun _ h => funF rfl rfl Tryz.func66 rfl h) (Gets.eq (by kernel_rfl) h)
theorem spMatch_run (kt : Int) (nt : Int) (st : List UInt8) (lt : List (List AV)) {P : AV → Prop} (h : Gets (kOpt (EVf (EV cfg) 66 [.str [(36 : UInt8), (95 : UInt8)]]) fun (v : AV) => kTmV v fun (n n_1 : Int) (s : List UInt8) (rows : List (List AV)) => (kOpt (EVf (EV cfg) 65 [.sl [[AV.int .i64 
  kt, .int .i64 nt, .str st, .sl lt, .sl [], .sl [[AV.int .i64 n, .int .i64 n_1, .str s, .sl rows]]]]]) fun (v : AV) => kTup v fun (cs : List AV) => kCons cs fun (c : AV) (cs : List AV) 
  => kAgg c fun (cs_1 : List AV) => kCons cs_1 fun (c : AV) (cs_2 : List AV) => kInt .i64 c fun (n : Int) => kCons cs_2 fun (c : AV) (cs_3 : List AV) => kInt .i64 c fun (n_2 : Int) => 
  kCons cs_3 fun (c : AV) (cs_4 : List AV) => kStr c fun (s : List UInt8) => kCons cs_4 fun (c : AV) (cs_5 : List AV) => kSl c fun (rows : List (List AV)) => kNil cs_5 (kCons cs fun (c 
  : AV) (cs : List AV) => kInt .i64 c fun (n_3 : Int) => kNil cs (some (AV.tup [.agg [AV.int .i64 n, .int .i64 n_2, .str s, .sl rows], .int .i64 n_3]))))) P) : Gets (EVf (EV cfg) 23 ([AV.agg [AV.int IntKind.i64 kt, AV.int IntKind.i64 nt, AV.str st, AV.sl lt]] : List AV)) P :=
  Gets.ev (fun _ h => funF rfl rfl Tryz.func23 rfl h) (Gets.eq (by kernel_rfl) h)
theorem we58_0_step (c0_0 : Int) (c0_1 : Int) (c0_2 : List UInt8) (c0_3 : List (List AV)) (nc1_0 : Nat) (c2_0 : Bool) (c3_0 : Int) (c3_1 : Int) (c3_2 : List UInt8) (c3_3 : List (List AV)) (h5 : List (List AV)) {P : AV → Prop} (h : Gets (bif c3_0 == (9 : Int) then bif ltInt (0 : Int) (↑(List.length c3_3) : Int) then kOpt (List.get?Internal c3_3 0) fun (row : List AV) => bif Nat.beq (List.length row) 4 then bif Nat.ble 
  4 (List.length row) then kTmC (List.take 4 row) fun (n n_1 : Int) (s : List UInt8) (rows : List (List AV)) => (bif Nat.ble (0 + nc1_0) (List.length h5) && fitsIn (nc1_0 + 1) 56 then 
  bif leInt (0 : Int) (↑nc1_0 : Int) && ltInt (↑nc1_0 : Int) (↑(nc1_0 + 1) : Int) then kOpt (List.get?Internal (List.append (List.take nc1_0 h5) [[AV.int .i64 (0 : Int), .int .i64 (0 : 
  Int), .str [], .nilS]]) (0 + Int.toNat (↑nc1_0 : Int))) fun (row : List AV) => bif Nat.ble 4 (List.length row) then bif ltInt (1 : Int) (↑(List.length c3_3) : Int) then kOpt (List.get?Internal 
  c3_3 1) fun (row_1 : List AV) => bif Nat.beq (List.length row_1) 4 then bif Nat.ble 4 (List.length row_1) then kTmC (List.take 4 row_1) fun (n_2 n_3 : Int) (s_1 : List UInt8) (rows_1 
  : List (List AV)) => (we58_0a c0_0 c0_1 c0_2 c0_3 (nc1_0 + 1) c2_0 n_2 n_3 s_1 rows_1 (List.set (List.append (List.take nc1_0 h5) [[AV.int .i64 (0 : Int), .int .i64 (0 : Int), .str [], 
  .nilS]]) (0 + Int.toNat (↑nc1_0 : Int)) (.int .i64 n :: .int .i64 n_1 :: .str s :: .sl rows :: List.drop 4 row))) else none else none else none else none else none else none) else none 
  else none else none else bif Nat.ble (0 + nc1_0) (List.length h5) && true then some (AV.tup [.sl (List.take nc1_0 h5), .bool (c3_0 == (8 : Int))]) else none) P) : Gets (we58_0 c0_0 c0_1 c0_2 c0_3 nc1_0 c2_0 c3_0 c3_1 c3_2 c3_3 h5) P :=
  Gets.ev (fun _ h => loop_step (cfg := cfg) (f := 134) (rd := none) (bs := 7) h) (Gets.eq (by kernel_rfl) h)
theorem we58_0a_step (c0_0 : Int) (c0_1 : Int) (c0_2 : List UInt8) (c0_3 : List (List AV)) (nc1_0 : Nat) (c2_0 : Bool) (c3_0 : Int) (c3_1 : Int) (c3_2 : List UInt8) (c3_3 : List (List AV)) (h7 : List (List AV)) {P : AV → Prop} (h : Gets (bif c3_0 == (9 : Int) then bif ltInt (0 : Int) (↑(List.length c3_3) : Int) then kOpt (List.get?Internal c3_3 0) fun (row : List AV) => bif Nat.beq (List.length row) 4 then bif Nat.ble 
  4 (List.length row) then kTmC (List.take 4 row) fun (n n_1 : Int) (s : List UInt8) (rows : List (List AV)) => (bif Nat.ble (0 + nc1_0) (List.length h7) && fitsIn (nc1_0 + 1) 56 then 
  bif leInt (0 : Int) (↑nc1_0 : Int) && ltInt (↑nc1_0 : Int) (↑(nc1_0 + 1) : Int) then kOpt (List.get?Internal (List.append (List.take nc1_0 h7) [[AV.int .i64 (0 : Int), .int .i64 (0 : 
  Int), .str [], .nilS]]) (0 + Int.toNat (↑nc1_0 : Int))) fun (row : List AV) => bif Nat.ble 4 (List.length row) then bif ltInt (1 : Int) (↑(List.length c3_3) : Int) then kOpt (List.get?Internal 
  c3_3 1) fun (row_1 : List AV) => bif Nat.beq (List.length row_1) 4 then bif Nat.ble 4 (List.length row_1) then kTmC (List.take 4 row_1) fun (n_2 n_3 : Int) (s_1 : List UInt8) (rows_1 
  : List (List AV)) => (we58_0a c0_0 c0_1 c0_2 c0_3 (nc1_0 + 1) c2_0 n_2 n_3 s_1 rows_1 (List.set (List.append (List.take nc1_0 h7) [[AV.int .i64 (0 : Int), .int .i64 (0 : Int), .str [], 
  .nilS]]) (0 + Int.toNat (↑nc1_0 : Int)) (.int .i64 n :: .int .i64 n_1 :: .str s :: .sl rows :: List.drop 4 row))) else none else none else none else none else none else none) else none 
  else none else none else bif Nat.ble (0 + nc1_0) (List.length h7) && true then some (AV.tup [.sl (List.take nc1_0 h7), .bool (c3_0 == (8 : Int))]) else none) P) : Gets (we58_0a c0_0 c0_1 c0_2 c0_3 nc1_0 c2_0 c3_0 c3_1 c3_2 c3_3 h7) P :=
  Gets.ev (fun _ h => loop_step (cfg := cfg) (f := 134) (rd := none) (bs := 7) h) (Gets.eq (by kernel_rfl) h)
end Go.Proofs.YteojjjhhmbogfaaGreat
end

section
namespace Go.Proofs.YteojjjhhmbogfaaGreat
open Go.Av
set_option maxRecDepth 100000
set_option maxHeartbeats 0

theorem cloneT_run (r : List AV) (L : List (List AV)) {P : OV → Prop} (h : Gets (bif rowsOk 4 (r :: L) then bif fitsIn (0 + List.length (r :: L)) 56 then some (OV.own 4 (r :: L) 0 (0 + List.length (r :: L))) else none else none) P) : Gets (EVo (EV cfg) 33 ([AV.sl (r :: L)] : List AV)) P :=
  Gets.ev (fun _ h => funO rfl rfl Tryz.func33 rfl h) (Gets.eq (by kernel_rfl) h)
end Go.Proofs.YteojjjhhmbogfaaGreat
end

section
namespace Go.Av
def lsR (r : List Tm × Bool) : AV := .tup [.sl (rowsT r.1), .bool r.2]
end Go.Av
namespace Go.Proofs.YteojjjhhmbogfaaGreat
open Go.Av
theorem patAny_ev {t : Tm} (h : t.w < 1099511627776) : EVs (EV cfg) 159 [t.av] = some (.bool (anyT t)) := by
  have hm := patMay_ev h
  apply Gets.get
  rw [Tm.av, Tm.cells_eq] at hm ⊢
  refine patAny_run _ _ _ _ ?_
  rw [hm]
  simp only [beqI, beqS, kOptSome, kBool_bool]
  unfold anyT
  cases decide (t.kind = 2) <;> cases decide (t.str = [95]) <;> exact ⟨_, rfl, rfl⟩
theorem spHead_ev {t : Tm} (h : t.w < 1099511627776) : EVs (EV cfg) 135 [t.av] = some (.bool (headG t)) := by
  have hv := patVar_ev h
  have ha := patAny_ev h
  apply Gets.get
  rw [Tm.av, Tm.cells_eq] at hv ha ⊢
  refine spHead_run _ _ _ _ ?_
  rw [hv, ha]
  unfold headG varR
  simp only [beqI, kOptSome, kBool_bool, kTup, kCons, kInt_int, kNil]
  cases (varT t).isSome <;> cases decide (t.kind = 7) <;> exact ⟨_, rfl, rfl⟩
theorem makeAtom_ev (s : List UInt8) : EVf (EV cfg) 66 [.str s] = some (symT s).av := by
  apply Gets.get
  refine makeAtom_run _ ?_
  rw [symT_av]
  exact ⟨_, rfl, rfl⟩
theorem cloneT_ev {x : Tm} {l : List Tm} (h : l.length < 1099511627775) : EVo (EV cfg) 33 [.sl (rowsT (x :: l))] = some (.own 4 (rowsT (x :: l)) 0 (x :: l).length) := by
  apply Gets.get
  rw [rowsT_cons]
  refine cloneT_run _ _ ?_
  rw [← rowsT_cons, rowsOk_rowsT]
  simp only [cond_true, rowsT_length, List.length_cons, Nat.zero_add, fits56 (show l.length + 1 ≤ 1099511627776 by omega)]
  exact ⟨_, rfl, rfl⟩
theorem makeTuple_ev {x : Tm} {l : List Tm} (h : l.length < 1099511627775) : EVf (EV cfg) 101 [.sl (rowsT (x :: l))] = some (tupT (x :: l)).av := by
  apply Gets.get
  refine makeTuple_run _ ?_
  rw [cloneT_ev h, tupT, Tm.av_mk]
  have hb : Nat.ble (0 + (x :: l).length) (rowsT (x :: l)).length = true := by rw [Nat.ble_eq, rowsT_length]; omega
  have ht : List.take (x :: l).length (List.drop 0 (rowsT (x :: l))) = rowsT (x :: l) := List.take_of_length_le (by simp)
  simp only [kOptSome, kOwn_own, hb, ht, Bool.and_true, cond_true]
  exact ⟨_, rfl, rfl⟩
theorem spList_loopA {c : Tm} {b : Bool} : ∀ (n : Nat) (t : Tm) (acc : List Tm), t.w ≤ n → t.chk = 0 → acc.length + n < 1099511627776 → Gets (we58_0a c.kind c.num c.str (rowsT c.subs) acc.length b t.kind t.num t.str (rowsT t.subs) (rowsT acc)) (· = lsR (acc ++ (itemsG t).1, (itemsG t).2)) := by
  intro n
  induction n with
  | zero => intro t acc h; have := w_pos t; omega
  | succ n ih =>
    intro t acc hw hc hn
    refine we58_0a_step _ _ _ _ _ _ _ _ _ _ _ ?_
    rw [beqI, beqI]
    by_cases h9 : t.kind = 9
    · obtain ⟨x, y, hs⟩ := cons_chk hc h9
      have hwe := t.w_eq
      rw [hs] at hwe
      simp only [wL_cons, wL_nil] at hwe
      have h := ih y (acc ++ [x]) (by omega) (chk_sub hc (by rw [hs]; simp)) (by simp; omega)
      have e1 : Nat.ble (0 + acc.length) (rowsT acc).length = true := by rw [Nat.ble_eq, rowsT_length]; omega
      have e2 : List.take acc.length (rowsT acc) = rowsT acc := List.take_of_length_le (by simp)
      have e3 : ltInt (acc.length : Int) ((acc.length + 1 : Nat) : Int) = true := decide_eq_true (by omega)
      have e4 : (List.append (rowsT acc) [[AV.int .i64 0, .int .i64 0, .str [], .nilS]])[0 + Int.toNat (acc.length : Int)]? = some [AV.int .i64 0, .int .i64 0, .str [], .nilS] := by
        rw [Int.toNat_natCast, Nat.zero_add]
        have := app_get0 (rowsT acc) [AV.int .i64 0, .int .i64 0, .str [], .nilS]
        rw [rowsT_length] at this
        exact this
      have e5 : List.set (List.append (rowsT acc) [[AV.int .i64 0, .int .i64 0, .str [], .nilS]]) (0 + Int.toNat (acc.length : Int)) x.cells = rowsT (acc ++ [x]) := by
        rw [Int.toNat_natCast, Nat.zero_add]
        have := app_set0 (rowsT acc) [AV.int .i64 0, .int .i64 0, .str [], .nilS] x.cells
        rw [rowsT_length] at this
        rw [rowsT_append, rowsT_cons, rowsT_nil]
        exact this
      rw [decide_eq_true h9, cond_true, hs, lt0T, get0T, lt1T, get1T, e1, e2, fits56 (by omega), leInt_zero, e3, get?Internal_eq, e4]
      simp only [cond_true, Bool.and_self, kOptSome, length_cells, Nat.beq_refl, take_cells, kTmC_cells, ble44, List.length_cons, List.length_nil, show Nat.ble 4 (0 + 1 + 1 + 1 + 1) = true from rfl, List.drop_succ_cons, List.drop_zero]
      rw [← Tm.cells_eq, e5, itemsG_cons h9 hs]
      rw [List.length_append] at h
      refine Gets.mono h ?_
      rintro _ rfl
      simp [lsR]
    · have e1 : Nat.ble (0 + acc.length) (rowsT acc).length = true := by rw [Nat.ble_eq, rowsT_length]; omega
      have e2 : List.take acc.length (rowsT acc) = rowsT acc := List.take_of_length_le (by simp)
      rw [decide_eq_false h9, cond_false, e1, e2, itemsG_end h9]
      exact ⟨_, rfl, by simp [lsR]⟩
theorem spList_loop {c : Tm} {b : Bool} : ∀ (n : Nat) (t : Tm) (acc : List Tm), t.w ≤ n → t.chk = 0 → acc.length + n < 1099511627776 → Gets (we58_0 c.kind c.num c.str (rowsT c.subs) acc.length b t.kind t.num t.str (rowsT t.subs) (rowsT acc)) (· = lsR (acc ++ (itemsG t).1, (itemsG t).2)) := by
  intro n
  induction n with
  | zero => intro t acc h; have := w_pos t; omega
  | succ n ih =>
    intro t acc hw hc hn
    refine we58_0_step _ _ _ _ _ _ _ _ _ _ _ ?_
    rw [beqI, beqI]
    by_cases h9 : t.kind = 9
    · obtain ⟨x, y, hs⟩ := cons_chk hc h9
      have hwe := t.w_eq
      rw [hs] at hwe
      simp only [wL_cons, wL_nil] at hwe
      have h := spList_loopA (c := c) (b := b) n y (acc ++ [x]) (by omega) (chk_sub hc (by rw [hs]; simp)) (by simp; omega)
      have e1 : Nat.ble (0 + acc.length) (rowsT acc).length = true := by rw [Nat.ble_eq, rowsT_length]; omega
      have e2 : List.take acc.length (rowsT acc) = rowsT acc := List.take_of_length_le (by simp)
      have e3 : ltInt (acc.length : Int) ((acc.length + 1 : Nat) : Int) = true := decide_eq_true (by omega)
      have e4 : (List.append (rowsT acc) [[AV.int .i64 0, .int .i64 0, .str [], .nilS]])[0 + Int.toNat (acc.length : Int)]? = some [AV.int .i64 0, .int .i64 0, .str [], .nilS] := by
        rw [Int.toNat_natCast, Nat.zero_add]
        have := app_get0 (rowsT acc) [AV.int .i64 0, .int .i64 0, .str [], .nilS]
        rw [rowsT_length] at this
        exact this
      have e5 : List.set (List.append (rowsT acc) [[AV.int .i64 0, .int .i64 0, .str [], .nilS]]) (0 + Int.toNat (acc.length : Int)) x.cells = rowsT (acc ++ [x]) := by
        rw [Int.toNat_natCast, Nat.zero_add]
        have := app_set0 (rowsT acc) [AV.int .i64 0, .int .i64 0, .str [], .nilS] x.cells
        rw [rowsT_length] at this
        rw [rowsT_append, rowsT_cons, rowsT_nil]
        exact this
      rw [decide_eq_true h9, cond_true, hs, lt0T, get0T, lt1T, get1T, e1, e2, fits56 (by omega), leInt_zero, e3, get?Internal_eq, e4]
      simp only [cond_true, Bool.and_self, kOptSome, length_cells, Nat.beq_refl, take_cells, kTmC_cells, ble44, List.length_cons, List.length_nil, show Nat.ble 4 (0 + 1 + 1 + 1 + 1) = true from rfl, List.drop_succ_cons, List.drop_zero]
      rw [← Tm.cells_eq, e5, itemsG_cons h9 hs]
      rw [List.length_append] at h
      refine Gets.mono h ?_
      rintro _ rfl
      simp [lsR]
    · have e1 : Nat.ble (0 + acc.length) (rowsT acc).length = true := by rw [Nat.ble_eq, rowsT_length]; omega
      have e2 : List.take acc.length (rowsT acc) = rowsT acc := List.take_of_length_le (by simp)
      rw [decide_eq_false h9, cond_false, e1, e2, itemsG_end h9]
      exact ⟨_, rfl, by simp [lsR]⟩
theorem spList_ev {t : Tm} (hc : t.chk = 0) : EVf (EV cfg) 137 [t.av] = some (lsR (itemsG t)) := by
  apply Gets.get
  rw [Tm.av, Tm.cells_eq]
  refine spList_run _ _ _ _ ?_
  have hw := w_chk hc
  have h := spList_loop (c := t) (b := false) t.w t [] (Nat.le_refl _) hc (by simp; omega)
  rw [rowsT_nil] at h
  exact h
end Go.Proofs.YteojjjhhmbogfaaGreat
end

section
namespace Go.Proofs.YteojjjhhmbogfaaGreat
open Go.Av
set_option maxRecDepth 100000
set_option maxHeartbeats 0

noncomputable def Lk57_0 : Den := evC cfg (EV cfg) 108 none 4 (sub (bodyOf Tryz.f108) [0, 1, 1, 0, 0])
noncomputable def Ak57_0 : Ex × List AV × AH → Option AV := kAft (Cfg.keepOut cfg 108 (firstRid (sub (bodyOf Tryz.f108) [0, 1, 1, 0, 0]))) (kBlock 0 (kScope (kFinG cfg (Cfg.lift cfg 108 0) (fun (v : AV) (H : AH) => (fun (r : AV × AH) => kRangeEnd 0 3 (fx 40 [(3, AV.ptr 1 0 0)]) (kBlock 0 (kSeq (fun (fr : List AV) (H : AH) => kCutTo (Cfg.cut cfg 136 (firstRid (sub (bodyOf Tryz.f136) [1, 1, 1, 1]))) fr H fun (fr : List AV) (H : AH) => kCode cfg (EV cfg) (kfN cfg 6) 136 none 0 (sub (bodyOf Tryz.f136) [1, 1, 1, 1]) fr H (kFinF cfg (Cfg.lift cfg 136 0) (Array.toList (Func.results Tryz.f136)))) (kFinF cfg (Cfg.lift cfg 136 0) (Array.toList (Func.results Tryz.f136))))) (Prod.snd r)) (v, H)) (Array.toList (Func.results (Prod.snd (108, Tryz.f108)))))))
noncomputable def Wk57_0 : List AV × AH → Option AV := fun (p : List AV × AH) => kOpt (LOOP 4 (some [0, 3]) [(3, 4)] Lk57_0 p) Ak57_0
noncomputable def Lk57_1 : Den := evC cfg (EV cfg) 136 none 0 (sub (bodyOf Tryz.f136) [1, 1, 1, 1, 1, 0, 1, 0, 0])
noncomputable def Ak57_1 : Ex × List AV × AH → Option AV := kAft (Cfg.keepOut cfg 136 11) (kRun cfg (EV cfg) (kfN cfg 6) 136 none 0 (kFinF cfg (Cfg.lift cfg 136 0) Tryz.f136.results.toList) ([.block 2, .seq (sub (bodyOf Tryz.f136) [1, 1, 1, 1, 1, 1])]))
noncomputable def Wk57_1 : List AV × AH → Option AV := fun p => kOpt (LOOP 0 (some [3, 7, 29]) ([(7, 1)]) Lk57_1 p) Ak57_1
noncomputable abbrev wk57_0 (nv3 : Nat) (c0_0 : Int) (c0_1 : Int) (c0_2 : List UInt8) (c0_3 : List (List AV)) (c1_0 : Int) (c1_1 : Int) (c2_0 : Int) (c2_1 : Int) (c2_2 : List UInt8) (c2_3 : List (List AV)) (h4 : List (List AV)) : Option (AV) := Wk57_0  (((fx 37 [(0, AV.yld (3 : Nat)), (3, AV.ms (4 : Nat) (0 : Nat) nv3)]) : List AV), ([ABlk.rows false (4 : Nat) [[AV.int IntKind.i64 c0_0, AV.int IntKind.i64 c0_1, AV.str c0_2, AV.sl c0_3]], ABlk.rows false (2 : Nat) [[AV.int IntKind.u64 c1_0, AV.int IntKind.u64 c1_1]], ABlk.rows false (4 : Nat) [[AV.int IntKind.i64 c2_0, AV.int IntKind.i64 c2_1, AV.str c2_2, AV.sl c2_3]], rngB Tryz.f136 (136 : Nat) [(1 : Nat), (1 : Nat), (1 : Nat), (0 : Nat), (1 : Nat), (0 : Nat)] (fx 40 [(3, AV.ptr (1 : Nat) (0 : Nat) (0 : Nat))]) none LoopState.ready, ABlk.rows true (4 : Nat) h4] : AH))
noncomputable abbrev wk57_0a (nv3 : Nat) (c0_0 : Int) (c0_1 : Int) (c0_2 : List UInt8) (c0_3 : List (List AV)) (h1 : List (List AV)) (c2_0 : Int) (c2_1 : Int) (c2_2 : List UInt8) (c2_3 : List (List AV)) (h4 : List (List AV)) : Option (AV) := Wk57_0  (((fx 37 [(0, AV.yld (3 : Nat)), (3, AV.ms (4 : Nat) (0 : Nat) nv3)]) : List AV), ([ABlk.rows false (4 : Nat) [[AV.int IntKind.i64 c0_0, AV.int IntKind.i64 c0_1, AV.str c0_2, AV.sl c0_3]], ABlk.rows true (2 : Nat) h1, ABlk.rows false (4 : Nat) [[AV.int IntKind.i64 c2_0, AV.int IntKind.i64 c2_1, AV.str c2_2, AV.sl c2_3]], rngB Tryz.f136 (136 : Nat) [(1 : Nat), (1 : Nat), (1 : Nat), (0 : Nat), (1 : Nat), (0 : Nat)] (fx 40 [(3, AV.ptr (1 : Nat) (0 : Nat) (0 : Nat))]) none LoopState.ready, ABlk.rows true (4 : Nat) h4] : AH))
noncomputable abbrev wk57_1 (nv7 : Nat) (v29 : Int) (c0_0 : Int) (c0_1 : Int) (h1 : List (List AV)) : Option (AV) := Wk57_1  (((fx 40 [(3, AV.ptr (0 : Nat) (0 : Nat) (0 : Nat)), (7, AV.ms (1 : Nat) (0 : Nat) nv7), (29, AV.int IntKind.i64 v29)]) : List AV), ([ABlk.rows false (2 : Nat) [[AV.int IntKind.u64 c0_0, AV.int IntKind.u64 c0_1]], ABlk.rows true (1 : Nat) h1] : AH))
noncomputable abbrev wk57_1a (nv7 : Nat) (v29 : Int) (h0 : List (List AV)) (h1 : List (List AV)) : Option (AV) := Wk57_1  (((fx 40 [(3, AV.ptr (0 : Nat) (0 : Nat) (0 : Nat)), (7, AV.ms (1 : Nat) (0 : Nat) nv7), (29, AV.int IntKind.i64 v29)]) : List AV), ([ABlk.rows true (2 : Nat) h0, ABlk.rows true (1 : Nat) h1] : AH))
theorem setAdd2_run (n : Int) (r : List AV) {P : MV × List (List AV) → Prop} (h : Gets (bif decide (n < (64 : Int)) then kOpt (List.get?Internal r 0) fun (v : AV) => kInt .u64 v fun (n_1 : Int) => kOpt (fromSem (Op.shift BinOp.shl .u64 (1 : Int) .i64 n)) fun (v : AV) => 
  kInt .u64 v fun (n : Int) => kOpt (fromSem (Op.intBits BinOp.or .u64 n_1 n)) fun (v : AV) => kInt .u64 v fun (n : Int) => bif Nat.ble 1 (List.length r) then some (MV.unit, [AV.int .u64 
  n :: List.drop 1 r]) else none else kOpt (List.get?Internal r 1) fun (v : AV) => kInt .u64 v fun (n_1 : Int) => kOpt (fromSem (Op.shift BinOp.shl .u64 (1 : Int) .i64 (IntKind.wrap .i64 
  (n - (64 : Int))))) fun (v : AV) => kInt .u64 v fun (n : Int) => kOpt (fromSem (Op.intBits BinOp.or .u64 n_1 n)) fun (v : AV) => kInt .u64 v fun (n : Int) => bif Nat.ble 2 (List.length 
  r) then some (MV.unit, [List.append (List.append (List.take 1 r) [AV.int .u64 n]) (List.drop 2 r)]) else none) P) : Gets (EVm (EV cfg) 160 ([AV.ptr (0 : Nat) (0 : Nat) (0 : Nat), AV.int IntKind.i64 n] : List AV) 2 [r]) P :=
  Gets.ev (fun _ h => funM rfl rfl Tryz.func160 rfl h) (Gets.eq (by kernel_rfl) h)
theorem patVars_run (kp : Int) (np : Int) (sp : List UInt8) (lp : List (List AV)) {P : AV → Prop} (h : Gets (kOpt (EVs (EV cfg) 74 [.agg [AV.int .i64 kp, .int .i64 np, .str sp, .sl lp]]) fun (v : AV) => kBool v fun (b : Bool) => bif !b then some (.sl []) else wk57_0 1 kp np sp lp (0 : Int) (0 
  : Int) kp np sp lp [[AV.int .i64 kp, .int .i64 np, .str sp, .sl lp]]) P) : Gets (EVf (EV cfg) 136 ([AV.agg [AV.int IntKind.i64 kp, AV.int IntKind.i64 np, AV.str sp, AV.sl lp]] : List AV)) P :=
  Gets.ev (fun _ h => funF rfl rfl Tryz.func136 rfl h) (Gets.eq (by kernel_rfl) h)
theorem wk57_0_step (nv3 : Nat) (c0_0 : Int) (c0_1 : Int) (c0_2 : List UInt8) (c0_3 : List (List AV)) (c1_0 : Int) (c1_1 : Int) (c2_0 : Int) (c2_1 : Int) (c2_2 : List UInt8) (c2_3 : List (List AV)) (h4 : List (List AV)) {P : AV → Prop} (h : Gets (bif decide ((↑nv3 : Int) > (0 : Int)) then bif leInt (0 : Int) (IntKind.wrap .i64 ((↑nv3 : Int) - (1 : Int))) && ltInt (IntKind.wrap .i64 ((↑nv3 : Int) - (1 : Int))) (↑nv3 : Int) then 
  kOpt (List.get?Internal h4 (0 + Int.toNat (IntKind.wrap .i64 ((↑nv3 : Int) - (1 : Int))))) fun (row : List AV) => bif Nat.ble 4 (List.length row) then kTmC (List.take 4 row) fun (n 
  n_1 : Int) (s : List UInt8) (rows : List (List AV)) => (bif leInt (0 : Int) (IntKind.wrap .i64 ((↑nv3 : Int) - (1 : Int))) && leInt (IntKind.wrap .i64 ((↑nv3 : Int) - (1 : Int))) (↑nv3 
  : Int) then bif n == (7 : Int) then bif rowsOk 4 rows then bif Nat.ble (0 + (Int.toNat (IntKind.wrap .i64 ((↑nv3 : Int) - (1 : Int))) - 0)) (List.length h4) && fitsIn (Int.toNat (IntKind.wrap 
  .i64 ((↑nv3 : Int) - (1 : Int))) - 0 + List.length rows) 56 then wk57_0 (Int.toNat (IntKind.wrap .i64 ((↑nv3 : Int) - (1 : Int))) - 0 + List.length rows) c0_0 c0_1 c0_2 c0_3 c1_0 c1_1 
  c2_0 c2_1 c2_2 c2_3 (List.append (List.take (Int.toNat (IntKind.wrap .i64 ((↑nv3 : Int) - (1 : Int))) - 0) h4) rows) else none else none else bif n == (9 : Int) then bif rowsOk 4 rows 
  then bif Nat.ble (0 + (Int.toNat (IntKind.wrap .i64 ((↑nv3 : Int) - (1 : Int))) - 0)) (List.length h4) && fitsIn (Int.toNat (IntKind.wrap .i64 ((↑nv3 : Int) - (1 : Int))) - 0 + List.length 
  rows) 56 then wk57_0 (Int.toNat (IntKind.wrap .i64 ((↑nv3 : Int) - (1 : Int))) - 0 + List.length rows) c0_0 c0_1 c0_2 c0_3 c1_0 c1_1 c2_0 c2_1 c2_2 c2_3 (List.append (List.take (Int.toNat 
  (IntKind.wrap .i64 ((↑nv3 : Int) - (1 : Int))) - 0) h4) rows) else none else none else kOpt (EVs (EV cfg) 76 [.str s]) fun (v : AV) => kTup v fun (cs : List AV) => kCons cs fun (c : 
  AV) (cs : List AV) => kInt .i64 c fun (n_2 : Int) => kCons cs fun (c : AV) (cs : List AV) => kBool c fun (b : Bool) => kNil cs (bif b then bif n == (2 : Int) then kOpt (EVm (EV cfg) 
  160 [.ptr 0 0 0, .int .i64 n_2] 2 [[AV.int .u64 c1_0, .int .u64 c1_1]]) fun (q : MV × List (List AV)) => kMUnit q.1 (wk57_0a (Int.toNat (IntKind.wrap .i64 ((↑nv3 : Int) - (1 : Int))) - 
  0) c0_0 c0_1 c0_2 c0_3 q.2 c2_0 c2_1 c2_2 c2_3 h4) else wk57_0 (Int.toNat (IntKind.wrap .i64 ((↑nv3 : Int) - (1 : Int))) - 0) c0_0 c0_1 c0_2 c0_3 c1_0 c1_1 c2_0 c2_1 c2_2 c2_3 h4 else 
  wk57_0 (Int.toNat (IntKind.wrap .i64 ((↑nv3 : Int) - (1 : Int))) - 0) c0_0 c0_1 c0_2 c0_3 c1_0 c1_1 c2_0 c2_1 c2_2 c2_3 h4) else none) else none else none else wk57_1 0 (0 : Int) c1_0 
  c1_1 []) P) : Gets (wk57_0 nv3 c0_0 c0_1 c0_2 c0_3 c1_0 c1_1 c2_0 c2_1 c2_2 c2_3 h4) P :=
  Gets.ev (fun _ h => loop_step (cfg := cfg) (f := 108) (rd := none) (bs := 4) h) (Gets.eq (by kernel_rfl) h)
theorem wk57_0a_step (nv3 : Nat) (c0_0 : Int) (c0_1 : Int) (c0_2 : List UInt8) (c0_3 : List (List AV)) (h1 : List (List AV)) (c2_0 : Int) (c2_1 : Int) (c2_2 : List UInt8) (c2_3 : List (List AV)) (h4 : List (List AV)) {P : AV → Prop} (h : Gets (bif decide ((↑nv3 : Int) > (0 : Int)) then bif leInt (0 : Int) (IntKind.wrap .i64 ((↑nv3 : Int) - (1 : Int))) && ltInt (IntKind.wrap .i64 ((↑nv3 : Int) - (1 : Int))) (↑nv3 : Int) then 
  kOpt (List.get?Internal h4 (0 + Int.toNat (IntKind.wrap .i64 ((↑nv3 : Int) - (1 : Int))))) fun (row : List AV) => bif Nat.ble 4 (List.length row) then kTmC (List.take 4 row) fun (n 
  n_1 : Int) (s : List UInt8) (rows : List (List AV)) => (bif leInt (0 : Int) (IntKind.wrap .i64 ((↑nv3 : Int) - (1 : Int))) && leInt (IntKind.wrap .i64 ((↑nv3 : Int) - (1 : Int))) (↑nv3 
  : Int) then bif n == (7 : Int) then bif rowsOk 4 rows then bif Nat.ble (0 + (Int.toNat (IntKind.wrap .i64 ((↑nv3 : Int) - (1 : Int))) - 0)) (List.length h4) && fitsIn (Int.toNat (IntKind.wrap 
  .i64 ((↑nv3 : Int) - (1 : Int))) - 0 + List.length rows) 56 then wk57_0a (Int.toNat (IntKind.wrap .i64 ((↑nv3 : Int) - (1 : Int))) - 0 + List.length rows) c0_0 c0_1 c0_2 c0_3 h1 c2_0 
  c2_1 c2_2 c2_3 (List.append (List.take (Int.toNat (IntKind.wrap .i64 ((↑nv3 : Int) - (1 : Int))) - 0) h4) rows) else none else none else bif n == (9 : Int) then bif rowsOk 4 rows then 
  bif Nat.ble (0 + (Int.toNat (IntKind.wrap .i64 ((↑nv3 : Int) - (1 : Int))) - 0)) (List.length h4) && fitsIn (Int.toNat (IntKind.wrap .i64 ((↑nv3 : Int) - (1 : Int))) - 0 + List.length 
  rows) 56 then wk57_0a (Int.toNat (IntKind.wrap .i64 ((↑nv3 : Int) - (1 : Int))) - 0 + List.length rows) c0_0 c0_1 c0_2 c0_3 h1 c2_0 c2_1 c2_2 c2_3 (List.append (List.take (Int.toNat 
  (IntKind.wrap .i64 ((↑nv3 : Int) - (1 : Int))) - 0) h4) rows) else none else none else kOpt (EVs (EV cfg) 76 [.str s]) fun (v : AV) => kTup v fun (cs : List AV) => kCons cs fun (c : 
  AV) (cs : List AV) => kInt .i64 c fun (n_2 : Int) => kCons cs fun (c : AV) (cs : List AV) => kBool c fun (b : Bool) => kNil cs (bif b then bif n == (2 : Int) then kOpt (EVm (EV cfg) 
  160 [.ptr 0 0 0, .int .i64 n_2] 2 h1) fun (q : MV × List (List AV)) => kMUnit q.1 (wk57_0a (Int.toNat (IntKind.wrap .i64 ((↑nv3 : Int) - (1 : Int))) - 0) c0_0 c0_1 c0_2 c0_3 q.2 c2_0 
  c2_1 c2_2 c2_3 h4) else wk57_0a (Int.toNat (IntKind.wrap .i64 ((↑nv3 : Int) - (1 : Int))) - 0) c0_0 c0_1 c0_2 c0_3 h1 c2_0 c2_1 c2_2 c2_3 h4 else wk57_0a (Int.toNat (IntKind.wrap .i64 
  ((↑nv3 : Int) - (1 : Int))) - 0) c0_0 c0_1 c0_2 c0_3 h1 c2_0 c2_1 c2_2 c2_3 h4) else none) else none else none else wk57_1a 0 (0 : Int) h1 []) P) : Gets (wk57_0a nv3 c0_0 c0_1 c0_2 c0_3 h1 c2_0 c2_1 c2_2 c2_3 h4) P :=
  Gets.ev (fun _ h => loop_step (cfg := cfg) (f := 108) (rd := none) (bs := 4) h) (Gets.eq (by kernel_rfl) h)
theorem wk57_1_step (nv7 : Nat) (v29 : Int) (c0_0 : Int) (c0_1 : Int) (h1 : List (List AV)) {P : AV → Prop} (h : Gets (bif decide (v29 < (100 : Int)) then kOpt (EVs (EV cfg) 161 [AV.cptr [AV.int .u64 c0_0, .int .u64 c0_1] 0, .int .i64 v29]) fun (v : AV) => kBool v fun (b : Bool) => bif b then bif Nat.ble 
  (0 + nv7) (List.length h1) && fitsIn (nv7 + 1) 8 then wk57_1 (nv7 + 1) (IntKind.wrap .i64 (v29 + (1 : Int))) c0_0 c0_1 (List.append (List.take nv7 h1) [[AV.int .i64 v29]]) else none else 
  wk57_1 nv7 (IntKind.wrap .i64 (v29 + (1 : Int))) c0_0 c0_1 h1 else bif Nat.ble (0 + nv7) (List.length h1) && true then some (.sl (List.take nv7 h1)) else none) P) : Gets (wk57_1 nv7 v29 c0_0 c0_1 h1) P :=
  Gets.ev (fun _ h => loop_step (cfg := cfg) (f := 136) (rd := none) (bs := 0) h) (Gets.eq (by kernel_rfl) h)
theorem wk57_1a_step (nv7 : Nat) (v29 : Int) (h0 : List (List AV)) (h1 : List (List AV)) {P : AV → Prop} (h : Gets (bif decide (v29 < (100 : Int)) then kOpt (List.get?Internal h0 0) fun (row : List AV) => bif refsLtL 0 row then bif refsLtL 0 [AV.cptr row 0, .int .i64 v29] then kOpt (EVs (EV cfg) 
  161 [AV.cptr row 0, .int .i64 v29]) fun (v : AV) => kBool v fun (b : Bool) => bif b then bif Nat.ble (0 + nv7) (List.length h1) && fitsIn (nv7 + 1) 8 then wk57_1a (nv7 + 1) (IntKind.wrap 
  .i64 (v29 + (1 : Int))) h0 (List.append (List.take nv7 h1) [[AV.int .i64 v29]]) else none else wk57_1a nv7 (IntKind.wrap .i64 (v29 + (1 : Int))) h0 h1 else none else none else bif Nat.ble 
  (0 + nv7) (List.length h1) && true then some (.sl (List.take nv7 h1)) else none) P) : Gets (wk57_1a nv7 v29 h0 h1) P :=
  Gets.ev (fun _ h => loop_step (cfg := cfg) (f := 136) (rd := none) (bs := 0) h) (Gets.eq (by kernel_rfl) h)
end Go.Proofs.YteojjjhhmbogfaaGreat
end
