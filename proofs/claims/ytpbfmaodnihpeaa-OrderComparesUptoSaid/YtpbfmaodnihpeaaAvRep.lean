/-
  How abstract values and blocks stand for the model's values and world; how that is kept when the world grows. Own work.
  What is proved: the reading is kept over growth and over new numbers of the blocks; no condition.
-/
import Derived.Test.YtpbfmaodnihpeaaAvEval
namespace Go.Av

theorem hasId_iff {a : Nat} {L : List Nat} : hasId a L = true ↔ a ∈ L := by
  induction L with
  | nil => simp [hasId]
  | cons b l ih =>
    simp only [hasId, Bool.or_eq_true, ih, List.mem_cons]
    constructor
    · rintro (h | h)
      · exact .inl (Nat.eq_of_beq_eq_true h).symm
      · exact .inr h
    · rintro (h | h)
      · exact .inl (by rw [h]; exact Nat.beq_refl _)
      · exact .inr h
theorem allIn_iff {L l : List Nat} : allIn L l = true ↔ ∀ a ∈ l, a ∈ L := by
  induction l with
  | nil => simp [allIn]
  | cons b l ih => simp [allIn, ih, hasId_iff]
theorem noneIn_iff {L l : List Nat} : noneIn L l = true ↔ ∀ a ∈ l, a ∉ L := by
  induction l with
  | nil => simp [noneIn]
  | cons b l ih =>
    simp only [noneIn, Bool.and_eq_true, ih, Bool.not_eq_true', List.mem_cons, forall_eq_or_imp]
    rw [← Bool.not_eq_true, hasId_iff]

theorem Rep.mono {C C' : Claims} {μ μ' : MMap} (hC : ∀ b o v, C b o = some v → C' b o = some v) (hμ : ∀ id m, μ id = some m → μ' id = some m) {a : AV} {v : Value} (h : Rep C μ a v) : Rep C' μ' a v := by
  induction h with
  | int k n => exact .int k n
  | bool b => exact .bool b
  | str s => exact .str s
  | agg cs vs hl _ ih => exact .agg cs vs hl ih
  | tup cs vs hl _ ih => exact .tup cs vs hl ih
  | nilS => exact .nilS
  | slNil => exact .slNil
  | sl rows a cap sz vals hs hsz hc _ hcell hcap hfree ih => exact .sl rows a cap sz vals hs hsz (fun i j row x h1 h2 => hC _ _ _ (hc i j row x h1 h2)) ih hcell hcap hfree
  | ms id off len cap a m hm hl ha => exact .ms id off len cap a m (hμ _ _ hm) hl ha
  | nilP => exact .nilP
  | ptr id row off m hm => exact .ptr id row off m (hμ _ _ hm)
  | cptr cells off b o vals hc _ ih => exact .cptr cells off b o vals (fun j x h => hC _ _ _ (hc j x h)) ih
  | fn f first caps vf vc hl1 hl2 _ _ ih1 ih2 => exact .fn f first caps vf vc hl1 hl2 ih1 ih2
  | yld id m hm => exact .yld id m (hμ _ _ hm)
  | nilF => exact .nilF
  | nilM => exact .nilM
  | mp id m hm => exact .mp id m (hμ _ _ hm)
  | nilI => exact .nilI
  | ifc t a v _ ih => exact .ifc t a v ih
  | junk v => exact .junk v

/-! ### new numbers -/
theorem renL_map (ρ : Nat → Nat) (l : List AV) : renL ρ l = l.map (AV.ren ρ) := by
  induction l with
  | nil => rfl
  | cons a l ih => simp [renL, ih]
theorem renR_map (ρ : Nat → Nat) (l : List (List AV)) : renR ρ l = l.map (renL ρ) := by
  induction l with
  | nil => rfl
  | cons a l ih => simp [renR, ih]
theorem renH_map (ρ : Nat → Nat) (l : AH) : renH ρ l = l.map (ABlk.ren ρ) := by
  induction l with
  | nil => rfl
  | cons a l ih => simp [renH, ih]
theorem idsGeL_sub {k : Nat} {l : List AV} {i : Nat} {a : AV} (h : l[i]? = some a) : ∀ x ∈ a.idsGe k, x ∈ idsGeL k l := by
  induction l generalizing i with
  | nil => simp at h
  | cons b l ih =>
    intro x hx
    cases i with
    | zero => simp at h; subst h; simp [idsGeL, hx]
    | succ i => simp at h; simp [idsGeL, ih h x hx]
theorem idsGeR_sub {k : Nat} {l : List (List AV)} {i : Nat} {a : List AV} (h : l[i]? = some a) : ∀ x ∈ idsGeL k a, x ∈ idsGeR k l := by
  induction l generalizing i with
  | nil => simp at h
  | cons b l ih =>
    intro x hx
    cases i with
    | zero => simp at h; subst h; simp [idsGeR, hx]
    | succ i => simp at h; simp [idsGeR, ih h x hx]
theorem idsGeH_sub {k : Nat} {l : AH} {i : Nat} {a : ABlk} (h : l[i]? = some a) : ∀ x ∈ a.idsGe k, x ∈ idsGeH k l := by
  induction l generalizing i with
  | nil => simp at h
  | cons b l ih =>
    intro x hx
    cases i with
    | zero => simp at h; subst h; simp [idsGeH, hx]
    | succ i => simp at h; simp [idsGeH, ih h x hx]

theorem getElem?_map' {α β : Type} {f : α → β} {l : List α} {i : Nat} {b : β} (h : (l.map f)[i]? = some b) : ∃ a, l[i]? = some a ∧ f a = b := by
  rw [List.getElem?_map] at h
  cases hl : l[i]? with
  | none => rw [hl] at h; cases h
  | some a => rw [hl] at h; exact ⟨a, rfl, by simpa using h⟩

theorem isCell_ren (ρ : Nat → Nat) (a : AV) : (a.ren ρ).isCell = a.isCell := by cases a <;> rfl

theorem refsLtL_get {k : Nat} {l : List AV} (h : refsLtL k l = true) {i : Nat} {a : AV} (ha : l[i]? = some a) : a.refsLt k = true := by
  induction l generalizing i with
  | nil => simp at ha
  | cons b l ih =>
    rw [refsLtL, Bool.and_eq_true] at h
    cases i with
    | zero => simp at ha; subst ha; exact h.1
    | succ i => exact ih h.2 (by simpa using ha)
theorem refsLtR_get {k : Nat} {l : List (List AV)} (h : refsLtR k l = true) {i : Nat} {a : List AV} (ha : l[i]? = some a) : refsLtL k a = true := by
  induction l generalizing i with
  | nil => simp at ha
  | cons b l ih =>
    rw [refsLtR, Bool.and_eq_true] at h
    cases i with
    | zero => simp at ha; subst ha; exact h.1
    | succ i => exact ih h.2 (by simpa using ha)

/-- a value without references reads the same whatever the blocks are -/
theorem Rep.free {C : Claims} {μ : MMap} (μ' : MMap) {a : AV} {v : Value} (h : Rep C μ a v) (hr : a.refsLt 0 = true) : Rep C μ' a v := by
  induction h with
  | int k n => exact .int k n
  | bool b => exact .bool b
  | str s => exact .str s
  | agg cs vs hl _ ih => exact .agg cs vs hl (fun i a v h1 h2 => ih i a v h1 h2 (refsLtL_get (by simpa [AV.refsLt] using hr) h1))
  | tup cs vs hl _ ih => exact .tup cs vs hl (fun i a v h1 h2 => ih i a v h1 h2 (refsLtL_get (by simpa [AV.refsLt] using hr) h1))
  | nilS => exact .nilS
  | slNil => exact .slNil
  | sl rows a cap sz vals hs hsz hc _ hcell hcap hfree ih => exact .sl rows a cap sz vals hs hsz hc (fun i j row x h1 h2 => ih i j row x h1 h2 (refsLtL_get (refsLtR_get hfree h1) h2)) hcell hcap hfree
  | ms id off len cap a m hm hl ha => simp [AV.refsLt, Nat.blt_eq] at hr
  | nilP => exact .nilP
  | ptr id row off m hm => simp [AV.refsLt, Nat.blt_eq] at hr
  | cptr cells off b o vals hc _ ih => exact .cptr cells off b o vals hc (fun j x h => ih j x h (refsLtL_get (by simpa [AV.refsLt] using hr) h))
  | fn f first caps vf vc hl1 hl2 _ _ ih1 ih2 =>
    rw [AV.refsLt, Bool.and_eq_true] at hr
    exact .fn f first caps vf vc hl1 hl2 (fun i a v h1 h2 => ih1 i a v h1 h2 (refsLtL_get hr.1 h1)) (fun i a v h1 h2 => ih2 i a v h1 h2 (refsLtL_get hr.2 h1))
  | yld id m hm => simp [AV.refsLt, Nat.blt_eq] at hr
  | nilF => exact .nilF
  | nilM => exact .nilM
  | mp id m hm => simp [AV.refsLt, Nat.blt_eq] at hr
  | nilI => exact .nilI
  | ifc t a v _ ih => exact .ifc t a v (ih (by simpa [AV.refsLt] using hr))
  | junk v => exact .junk v

theorem Rep.renm {C : Claims} {μ μ' : MMap} {k : Nat} {L : List Nat} {ρ : Nat → Nat} (hμ : ∀ id m, (id < k ∨ id ∈ L) → μ id = some m → μ' (ρ id) = some m) {a : AV} {v : Value} (h : Rep C μ a v)
    (hi : ∀ x ∈ a.idsGe k, x ∈ L) : Rep C μ' (a.ren ρ) v := by
  have one : ∀ id, (∀ x ∈ (if Nat.blt id k then [] else [id]), x ∈ L) → (id < k ∨ id ∈ L) := by
    intro id h
    by_cases hk : id < k
    · exact .inl hk
    · refine .inr (h id ?_)
      rw [if_neg (by simpa [Nat.blt_eq] using hk)]
      simp
  induction h with
  | int k n => exact .int k n
  | bool b => exact .bool b
  | str s => exact .str s
  | agg cs vs hl _ ih =>
    rw [AV.ren, renL_map]
    refine .agg _ vs (by simpa using hl) (fun i a v h1 h2 => ?_)
    obtain ⟨b, hb, rfl⟩ := getElem?_map' h1
    exact ih i b v hb h2 (fun x hx => hi x (by rw [AV.idsGe]; exact idsGeL_sub hb x hx))
  | tup cs vs hl _ ih =>
    rw [AV.ren, renL_map]
    refine .tup _ vs (by simpa using hl) (fun i a v h1 h2 => ?_)
    obtain ⟨b, hb, rfl⟩ := getElem?_map' h1
    exact ih i b v hb h2 (fun x hx => hi x (by rw [AV.idsGe]; exact idsGeL_sub hb x hx))
  | nilS => exact .nilS
  | slNil => exact .slNil
  | sl rows a cap sz vals hs hsz hc hr hcell hcap hfree ih =>
    exact .sl rows a cap sz vals hs hsz hc (fun i j row x h1 h2 => (hr i j row x h1 h2).free μ' (refsLtL_get (refsLtR_get hfree h1) h2)) hcell hcap hfree
  | ms id off len cap a m hm hl ha => exact .ms _ off len cap a m (hμ _ _ (one id (by simpa [AV.idsGe] using hi)) hm) hl ha
  | nilP => exact .nilP
  | ptr id row off m hm => exact .ptr _ row off m (hμ _ _ (one id (by simpa [AV.idsGe] using hi)) hm)
  | cptr cells off b o vals hc _ ih =>
    rw [AV.ren, renL_map]
    refine .cptr _ off b o vals (fun j x h => ?_) (fun j x h => ?_)
    · obtain ⟨y, hy, rfl⟩ := getElem?_map' h
      exact hc j y hy
    · obtain ⟨y, hy, rfl⟩ := getElem?_map' h
      exact ih j y hy (fun z hz => hi z (by rw [AV.idsGe]; exact idsGeL_sub hy z hz))
  | fn f first caps vf vc hl1 hl2 _ _ ih1 ih2 =>
    rw [AV.ren, renL_map, renL_map]
    refine .fn f _ _ vf vc (by simpa using hl1) (by simpa using hl2) (fun i a v h1 h2 => ?_) (fun i a v h1 h2 => ?_)
    · obtain ⟨b, hb, rfl⟩ := getElem?_map' h1
      exact ih1 i b v hb h2 (fun x hx => hi x (by rw [AV.idsGe]; exact List.mem_append.2 (.inl (idsGeL_sub hb x hx))))
    · obtain ⟨b, hb, rfl⟩ := getElem?_map' h1
      exact ih2 i b v hb h2 (fun x hx => hi x (by rw [AV.idsGe]; exact List.mem_append.2 (.inr (idsGeL_sub hb x hx))))
  | yld id m hm => exact .yld _ m (hμ _ _ (one id (by simpa [AV.idsGe] using hi)) hm)
  | nilF => exact .nilF
  | nilM => exact .nilM
  | mp id m hm => exact .mp _ m (hμ _ _ (one id (by simpa [AV.idsGe] using hi)) hm)
  | nilI => exact .nilI
  | ifc t a v _ ih => exact .ifc t _ v (ih (by simpa [AV.idsGe] using hi))
  | junk v => exact .junk v

/-! ### values without references below k -/
mutual
theorem AV.idsGe_of_refsLt (k : Nat) : ∀ a : AV, a.refsLt k = true → a.idsGe k = []
  | .agg cs, h => by rw [AV.idsGe]; exact idsGeL_of_refsLt k cs (by simpa [AV.refsLt] using h)
  | .tup cs, h => by rw [AV.idsGe]; exact idsGeL_of_refsLt k cs (by simpa [AV.refsLt] using h)
  | .sl rows, h => by rw [AV.idsGe]
  | .ms id _ _, h => by rw [AV.idsGe, if_pos (by simpa [AV.refsLt] using h)]
  | .ptr id _ _, h => by rw [AV.idsGe, if_pos (by simpa [AV.refsLt] using h)]
  | .cptr cs _, h => by rw [AV.idsGe]; exact idsGeL_of_refsLt k cs (by simpa [AV.refsLt] using h)
  | .fn _ a b, h => by
    rw [AV.refsLt, Bool.and_eq_true] at h
    rw [AV.idsGe, idsGeL_of_refsLt k a h.1, idsGeL_of_refsLt k b h.2]; rfl
  | .yld id, h => by rw [AV.idsGe, if_pos (by simpa [AV.refsLt] using h)]
  | .mp id, h => by rw [AV.idsGe, if_pos (by simpa [AV.refsLt] using h)]
  | .ifc _ v, h => by rw [AV.idsGe]; exact AV.idsGe_of_refsLt k v (by simpa [AV.refsLt] using h)
  | .int _ _, _ => rfl
  | .bool _, _ => rfl
  | .str _, _ => rfl
  | .nilS, _ => rfl
  | .nilP, _ => rfl
  | .nilF, _ => rfl
  | .nilM, _ => rfl
  | .nilI, _ => rfl
  | .junk, _ => rfl
theorem idsGeL_of_refsLt (k : Nat) : ∀ l : List AV, refsLtL k l = true → idsGeL k l = []
  | [], _ => rfl
  | a :: l, h => by
    rw [refsLtL, Bool.and_eq_true] at h
    rw [idsGeL, AV.idsGe_of_refsLt k a h.1, idsGeL_of_refsLt k l h.2]; rfl
theorem idsGeR_of_refsLt (k : Nat) : ∀ l : List (List AV), refsLtR k l = true → idsGeR k l = []
  | [], _ => rfl
  | a :: l, h => by
    rw [refsLtR, Bool.and_eq_true] at h
    rw [idsGeR, idsGeL_of_refsLt k a h.1, idsGeR_of_refsLt k l h.2]; rfl
end

/-! ### blocks, the world, growth -/
def RowsRep (C : Claims) (μ : MMap) (g : Nat → Option Value) (sz : Nat) (rs : List (List AV)) : Prop :=
  ∀ (i : Nat) row, rs[i]? = some row → row.length = sz ∧ ∀ (j : Nat) x, row[j]? = some x → x.isCell = true ∧ ∃ v, g (i * sz + j) = some v ∧ Rep C μ x v

def FrRep (C : Claims) (μ : MMap) (fr : List AV) (tmps : Array Value) : Prop :=
  fr.length = tmps.size ∧ ∀ (i : Nat) a v, fr[i]? = some a → tmps[i]? = some v → Rep C μ a v

def cellOf (w : World) (m : MI) (o : Nat) : Option Value := w.cell? ⟨m.block, m.base + o, none⟩

def BlkRep (C : Claims) (μ : MMap) (w : World) (m : MI) : ABlk → Prop
  | .rows d sz rs => sz = m.sz ∧ rs.length * sz ≤ m.size ∧ RowsRep C μ (cellOf w m) sz rs ∧ ∀ o, o < m.size → (cellOf w m o).isSome = true ∧ w.frozen? ⟨m.block, m.base + o, none⟩ = false
  | .mp es => ∃ arr clock, w.heap[m.block]? = some (.map arr clock) ∧ arr.size = es.length ∧ ∀ (i : Nat) e me, es[i]? = some e → arr[i]? = some me → Rep C μ e.1 me.key ∧ Rep C μ e.2 me.val
  | .loop _ fr ps assign body pend st => ∃ r : Loop, w.heap[m.block]? = some (.loop r) ∧ r.state = st ∧ r.pending = pend ∧ r.params.toList = ps ∧ r.assign = assign ∧ r.body = body ∧ FrRep C μ fr r.tmps
  | _ => True

def FrzRep (C : Claims) (μ : MMap) (m : MI) (sz : Nat) (rs : List (List AV)) : Prop :=
  sz = m.sz ∧ rs.length * sz ≤ m.size ∧ RowsRep C μ (fun o => C m.block (m.base + o)) sz rs

theorem refsLtL_iff {k : Nat} {l : List AV} : refsLtL k l = true ↔ ∀ a ∈ l, a.refsLt k = true := by
  induction l with
  | nil => simp [refsLtL]
  | cons a l ih => simp [refsLtL, ih]
theorem refsLtR_iff {k : Nat} {l : List (List AV)} : refsLtR k l = true ↔ ∀ a ∈ l, refsLtL k a = true := by
  induction l with
  | nil => simp [refsLtR]
  | cons a l ih => simp [refsLtR, ih]
theorem refsLtR_app {k : Nat} {a b : List (List AV)} (ha : refsLtR k a = true) (hb : refsLtR k b = true) : refsLtR k (a ++ b) = true := by
  rw [refsLtR_iff] at *
  intro x hx
  rcases List.mem_append.1 hx with h | h
  · exact ha x h
  · exact hb x h
theorem refsLtR_take {k n : Nat} {a : List (List AV)} (ha : refsLtR k a = true) : refsLtR k (a.take n) = true := by
  rw [refsLtR_iff] at *
  exact fun x hx => ha x (List.mem_of_mem_take hx)
theorem refsLtR_drop {k n : Nat} {a : List (List AV)} (ha : refsLtR k a = true) : refsLtR k (a.drop n) = true := by
  rw [refsLtR_iff] at *
  exact fun x hx => ha x (List.mem_of_mem_drop hx)
theorem refsLtL_app {k : Nat} {a b : List AV} (ha : refsLtL k a = true) (hb : refsLtL k b = true) : refsLtL k (a ++ b) = true := by
  rw [refsLtL_iff] at *
  intro x hx
  rcases List.mem_append.1 hx with h | h
  · exact ha x h
  · exact hb x h
theorem refsLtL_take {k n : Nat} {a : List AV} (ha : refsLtL k a = true) : refsLtL k (a.take n) = true := by
  rw [refsLtL_iff] at *
  exact fun x hx => ha x (List.mem_of_mem_take hx)
theorem refsLtL_drop {k n : Nat} {a : List AV} (ha : refsLtL k a = true) : refsLtL k (a.drop n) = true := by
  rw [refsLtL_iff] at *
  exact fun x hx => ha x (List.mem_of_mem_drop hx)
theorem refsLtR_set {k i : Nat} {a : List (List AV)} {row : List AV} (ha : refsLtR k a = true) (hr : refsLtL k row = true) : refsLtR k (a.set i row) = true := by
  rw [refsLtR_iff] at *
  intro x hx
  rcases List.mem_or_eq_of_mem_set hx with h | h
  · exact ha x h
  · subst h; exact hr
theorem refsLtR_rep {k n : Nat} {row : List AV} (hr : refsLtL k row = true) : refsLtR k (List.replicate n row) = true := by
  rw [refsLtR_iff]
  intro x hx
  rw [(List.mem_replicate.1 hx).2]; exact hr
theorem refsLtR_bytes {k : Nat} (s : List UInt8) : refsLtR k (byteRows s) = true := by
  rw [refsLtR_iff]
  intro x hx
  obtain ⟨b, _, rfl⟩ := List.mem_map.1 hx
  rfl
theorem refsLt_ofValue1 (k : Nat) (v : Value) : (ofValue1 v).refsLt k = true := by
  unfold ofValue1
  split <;> simp [AV.refsLt]
theorem refsLtL_ofValue1 (k : Nat) (l : List Value) : refsLtL k (l.map ofValue1) = true := by
  rw [refsLtL_iff]
  intro x hx
  obtain ⟨b, _, rfl⟩ := List.mem_map.1 hx
  exact refsLt_ofValue1 k b

/-- the rows that are said to refer to no block don't -/
def ABlk.Free : ABlk → Prop
  | .rows d _ rs | .froz d _ rs => d = true → refsLtR 0 rs = true
  | _ => True

def FreeH (H : AH) : Prop := ∀ (id : Nat) b, H[id]? = some b → b.Free

theorem FreeH.blk {H : AH} (h : FreeH H) {id sz : Nat} {rs : List (List AV)} (hb : blkRows H id = some (sz, rs)) (hf : blkFree H id = true) : refsLtR 0 rs = true := by
  unfold blkRows at hb; unfold blkFree at hf
  split at hb
  · rename_i d sz' rs' hi; rw [hi] at hf; cases hb; exact h id _ hi hf
  · rename_i d sz' rs' hi; rw [hi] at hf; cases hb; exact h id _ hi hf
  · cases hb
theorem FreeH.nil : FreeH [] := fun id b h => by simp at h
theorem FreeH.app {H : AH} {b : ABlk} (h : FreeH H) (hb : b.Free) : FreeH (H ++ [b]) := fun i b' hi => by
  rw [List.getElem?_append] at hi
  split at hi
  · exact h i b' hi
  · have : b' = b := by
      rcases hn : i - H.length with _ | n
      · rw [hn] at hi; simpa using hi.symm
      · rw [hn] at hi; simp at hi
    subst this; exact hb
theorem FreeH.set {H : AH} {b : ABlk} {id : Nat} (h : FreeH H) (hb : b.Free) : FreeH (H.set id b) := fun i b' hi => by
  rw [List.getElem?_set] at hi
  split at hi
  · split at hi
    · cases hi; exact hb
    · cases hi
  · exact h i b' hi
theorem FreeH.get {H : AH} {id : Nat} {b : ABlk} (h : FreeH H) (hi : H[id]? = some b) : b.Free := h id b hi

structure Wld (C : Claims) (μ : MMap) (H : AH) (w : World) : Prop where
  cl : ∀ b o v, C b o = some v → w.cell? ⟨b, o, none⟩ = some v
  dom : ∀ id m, μ id = some m → id < H.length
  res : ∀ (id : Nat), H[id]? = some .res → μ id = none
  live : ∀ (id : Nat) blk, H[id]? = some blk → blk.live = true → ∃ m, μ id = some m ∧ m.block < w.heap.size ∧ (∀ o, C m.block o = none) ∧ BlkRep C μ w m blk
  froz : ∀ (id : Nat) d sz rs, H[id]? = some (.froz d sz rs) → ∃ m, μ id = some m ∧ FrzRep C μ m sz rs
  inj : ∀ (id id' : Nat) b b' m m', H[id]? = some b → H[id']? = some b' → b.live = true → b'.live = true → μ id = some m → μ id' = some m' → m.block = m'.block → id = id'
  free : FreeH H

def Live (H : AH) (μ : MMap) (b : Nat) : Prop := ∃ (id : Nat) (blk : ABlk) (m : MI), H[id]? = some blk ∧ blk.live = true ∧ μ id = some m ∧ m.block = b

structure Ext (k : Nat) (C : Claims) (μ : MMap) (H : AH) (w : World) (C' : Claims) (μ' : MMap) (H' : AH) (w' : World) : Prop where
  os : w'.os = w.os
  tape : w'.tape = w.tape
  output : w'.output = w.output
  size : w.heap.size ≤ w'.heap.size
  cl : ∀ b o v, C b o = some v → C' b o = some v
  mu : ∀ id m, id < k → μ id = some m → μ' id = some m
  fr : ∀ b, b < w.heap.size → ¬ Live H μ b → w'.heap[b]? = w.heap[b]? ∧ ¬ Live H' μ' b ∧ C' b = C b
  len : k ≤ H'.length

theorem Ext.refl {k : Nat} {C : Claims} {μ : MMap} {H : AH} {w : World} (hk : k ≤ H.length) : Ext k C μ H w C μ H w :=
  ⟨rfl, rfl, rfl, Nat.le_refl _, fun _ _ _ h => h, fun _ _ _ h => h, fun _ _ hl => ⟨rfl, hl, rfl⟩, hk⟩
theorem Ext.trans {k k' : Nat} {C C' C'' : Claims} {μ μ' μ'' : MMap} {H H' H'' : AH} {w w' w'' : World} (h : Ext k C μ H w C' μ' H' w') (h' : Ext k' C' μ' H' w' C'' μ'' H'' w'') (hk : k ≤ k') : Ext k C μ H w C'' μ'' H'' w'' :=
  ⟨h'.os.trans h.os, h'.tape.trans h.tape, h'.output.trans h.output, Nat.le_trans h.size h'.size, fun b o v hc => h'.cl b o v (h.cl b o v hc),
   fun id m hid hm => h'.mu id m (Nat.lt_of_lt_of_le hid hk) (h.mu id m hid hm),
   fun b hb hl => by
     obtain ⟨e1, l1, c1⟩ := h.fr b hb hl
     obtain ⟨e2, l2, c2⟩ := h'.fr b (Nat.lt_of_lt_of_le hb h.size) l1
     exact ⟨e2.trans e1, l2, c2.trans c1⟩,
   Nat.le_trans hk h'.len⟩

theorem Ext.rep {k : Nat} {C C' : Claims} {μ μ' : MMap} {H H' : AH} {w w' : World} (h : Ext k C μ H w C' μ' H' w') (hd : ∀ id m, μ id = some m → id < k) {a : AV} {v : Value} (hr : Rep C μ a v) : Rep C' μ' a v :=
  hr.mono h.cl fun id m hm => h.mu id m (hd id m hm) hm
theorem FrRep.mono {C C' : Claims} {μ μ' : MMap} (hC : ∀ b o v, C b o = some v → C' b o = some v) (hμ : ∀ id m, μ id = some m → μ' id = some m) {fr : List AV} {t : Array Value} (h : FrRep C μ fr t) : FrRep C' μ' fr t :=
  ⟨h.1, fun i a v h1 h2 => (h.2 i a v h1 h2).mono hC hμ⟩
theorem RowsRep.mono {C C' : Claims} {μ μ' : MMap} (hC : ∀ b o v, C b o = some v → C' b o = some v) (hμ : ∀ id m, μ id = some m → μ' id = some m) {g g' : Nat → Option Value} {sz : Nat} {rs : List (List AV)}
    (hg : ∀ (i j : Nat) row x, rs[i]? = some row → row[j]? = some x → g' (i * sz + j) = g (i * sz + j)) (h : RowsRep C μ g sz rs) : RowsRep C' μ' g' sz rs := by
  intro i row hi
  refine ⟨(h i row hi).1, fun j x hj => ?_⟩
  obtain ⟨h1, v, h2, h3⟩ := (h i row hi).2 j x hj
  exact ⟨h1, v, by rw [hg i j row x hi hj]; exact h2, h3.mono hC hμ⟩
/-- a live block reads the same where its own block of the world is the same -/
theorem BlkRep.mono {C C' : Claims} {μ μ' : MMap} (hC : ∀ b o v, C b o = some v → C' b o = some v) (hμ : ∀ id m, μ id = some m → μ' id = some m) {w w' : World} {m : MI} (hw : w'.heap[m.block]? = w.heap[m.block]?) {blk : ABlk}
    (h : BlkRep C μ w m blk) : BlkRep C' μ' w' m blk := by
  have hc : ∀ o, cellOf w' m o = cellOf w m o := fun o => by simp only [cellOf, World.cell?, hw]
  have hf : ∀ o, w'.frozen? ⟨m.block, m.base + o, none⟩ = w.frozen? ⟨m.block, m.base + o, none⟩ := fun o => by simp only [World.frozen?, hw]
  cases blk with
  | rows sz rs =>
    obtain ⟨h1, h2, h3, h4⟩ := h
    exact ⟨h1, h2, h3.mono hC hμ (fun i j row x _ _ => hc _), fun o ho => by rw [hc, hf]; exact h4 o ho⟩
  | froz sz rs => trivial
  | mp es =>
    obtain ⟨arr, clock, h1, h2, h3⟩ := h
    exact ⟨arr, clock, hw.trans h1, h2, fun i e me he hme => ⟨(h3 i e me he hme).1.mono hC hμ, (h3 i e me he hme).2.mono hC hμ⟩⟩
  | loop f fr ps assign body pend st =>
    obtain ⟨r, h1, h2, h3, h4, h5, h6, h7⟩ := h
    exact ⟨r, hw.trans h1, h2, h3, h4, h5, h6, h7.mono hC hμ⟩
  | dead => trivial
  | res => trivial
end Go.Av
