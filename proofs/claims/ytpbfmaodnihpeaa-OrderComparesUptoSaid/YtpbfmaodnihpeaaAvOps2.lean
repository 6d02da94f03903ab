/-
  The operations that make blocks, or write them. Own work.
  What is proved: each runs as the abstract evaluation says; no condition.
-/
import Derived.Test.YtpbfmaodnihpeaaAvOps
import Derived.Laws.Append
import Derived.Laws.BytesString
import Derived.Lib.ConvBytes
import Derived.Lib.Strings
namespace Go.Av
variable {C C' : Claims} {μ μ' : MMap} {H H' : AH} {w w' : World} {P : Program}

/-- 'a computation of a value runs as the abstract evaluation says' -/
def Runs (P : Program) (s : Sem Value) (C : Claims) (μ : MMap) (H : AH) (w : World) (a : AV) (H' : AH) : Prop :=
  ∃ v w' C' μ', s.run P w = .ok v w' ∧ Rep C' μ' a v ∧ Wld C' μ' H' w' ∧ Ext H.length C μ H w C' μ' H' w'

theorem Runs.pure' (h : Wld C μ H w) {s : Sem Value} {a : AV} (hr : ∃ v, s.run P w = .ok v w ∧ Rep C μ a v) : Runs P s C μ H w a H := by
  obtain ⟨v, h1, h2⟩ := hr
  exact ⟨v, w, C, μ, h1, h2, h, Ext.refl (Nat.le_refl _)⟩

/-! ### bounds -/
theorem bound_sound {lo hi n d cap : Nat} {x : Option AV} {v : Option Value} (h : bound? lo hi x d = some n) (hx : ∀ a, x = some a → ∃ u, v = some u ∧ Rep C μ a u) (hn : x = none → v = none) (hc : hi ≤ cap ∨ n ≤ cap) (code : BoundsCode) :
    (x = none ∧ v = none ∧ n = d) ∨ (∃ u, v = some u ∧ lo ≤ n ∧ n ≤ hi ∧ (Instr.sliceBound u cap code).run P w = .ok n w) := by
  unfold bound? at h
  split at h
  · cases h; exact .inl ⟨rfl, hn rfl, rfl⟩
  · rename_i k i
    split at h
    · rename_i hb
      cases h
      obtain ⟨u, rfl, hu⟩ := hx _ rfl
      cases hu
      refine .inr ⟨_, rfl, by omega, by omega, ?_⟩
      have h0 : 0 ≤ i ∧ i ≤ (cap : Int) := by omega
      simp [Instr.sliceBound, asIntOf, h0]
    · cases h
  · cases h

theorem sliceBd_sound {n cap l h : Nat} {lo hi mx : Option AV} {vlo vhi vmx : Option Value} (hb : sliceBd n lo hi mx = some (l, h)) (isS : Bool) (hc : n ≤ cap) (hlo : ∀ a, lo = some a → ∃ u, vlo = some u ∧ Rep C μ a u) (hlo' : lo = none → vlo = none)
    (hhi : ∀ a, hi = some a → ∃ u, vhi = some u ∧ Rep C μ a u) (hhi' : hi = none → vhi = none) (hmx : ∀ a, mx = some a → ∃ u, vmx = some u ∧ Rep C μ a u) (hmx' : mx = none → vmx = none) :
    ∃ m, (Instr.sliceBounds isS n cap vlo vhi vmx).run P w = .ok (l, h, m) w ∧ l ≤ h ∧ h ≤ n ∧ h ≤ m ∧ m ≤ cap := by
  unfold sliceBd at hb
  split at hb
  · cases hb
  · rename_i hno
    split at hb
    · rename_i h' hh
      split at hb
      · rename_i m' hm
        split at hb
        · rename_i l' hl
          simp only [Option.some.injEq, Prod.mk.injEq] at hb
          obtain ⟨rfl, rfl⟩ := hb
          have hlb : ∀ code, l' ≤ h' ∧ ((lo = none ∧ vlo = none ∧ l' = 0) ∨ ∃ u, vlo = some u ∧ (Instr.sliceBound u h' code).run P w = .ok l' w) := by
            intro code
            rcases bound_sound (P := P) (w := w) hl hlo hlo' (.inl (Nat.le_refl h')) code with ⟨e1, e2, rfl⟩ | ⟨u, e1, e2, e3, e4⟩
            · exact ⟨by omega, .inl ⟨e1, e2, rfl⟩⟩
            · exact ⟨e3, .inr ⟨u, e1, e4⟩⟩
          cases mx with
          | none =>
            have hvm := hmx' rfl
            subst hvm
            rcases bound_sound (P := P) (w := w) hh hhi hhi' (.inl hc) (if isS then .sliceAcap else .sliceAlen) with ⟨e1, e2, rfl⟩ | ⟨u, e1, e2, e3, e4⟩
            · subst e2
              refine ⟨cap, ?_, (hlb .sliceB).1, Nat.le_refl _, hc, Nat.le_refl _⟩
              rcases (hlb .sliceB).2 with ⟨_, f2, rfl⟩ | ⟨u, rfl, f2⟩
              · subst f2; simp [Instr.sliceBounds]
              · simp [Instr.sliceBounds, f2]
            · subst e1
              refine ⟨cap, ?_, (hlb .sliceB).1, e3, by omega, Nat.le_refl _⟩
              rcases (hlb .sliceB).2 with ⟨_, f2, rfl⟩ | ⟨u', rfl, f2⟩
              · subst f2; simp [Instr.sliceBounds, e4]
              · simp [Instr.sliceBounds, e4, f2]
          | some mxa =>
            cases hi with
            | none => simp at hno
            | some hia =>
              rcases bound_sound (P := P) (w := w) hm hmx hmx' (.inl hc) (if isS then .slice3Acap else .slice3Alen) with ⟨e1, _, _⟩ | ⟨um, rfl, g2, g3, g4⟩
              · cases e1
              · rcases bound_sound (P := P) (w := w) (cap := m') hh hhi hhi' (.inr g2) .slice3B with ⟨e1, _, _⟩ | ⟨uh, rfl, e2, e3, e4⟩
                · cases e1
                · refine ⟨m', ?_, (hlb .slice3C).1, by omega, by omega, by omega⟩
                  rcases (hlb .slice3C).2 with ⟨_, f2, rfl⟩ | ⟨u', rfl, f2⟩
                  · subst f2; simp [Instr.sliceBounds, e4, g4]
                  · simp [Instr.sliceBounds, e4, f2, g4]
        · cases hb
      · cases hb
    · cases hb
theorem opt_rep {x : Operand → AV} {ρ : Operand → Value} (hx : ∀ a, Rep C μ (x a) (ρ a)) (o : Option Operand) : (∀ a, o.map x = some a → ∃ u, o.map ρ = some u ∧ Rep C μ a u) ∧ (o.map x = none → o.map ρ = none) := by
  cases o with
  | none => exact ⟨fun a h => by simp at h, fun _ => rfl⟩
  | some o => exact ⟨fun a h => by simp at h; subst h; exact ⟨ρ o, rfl, hx o⟩, fun h => by simp at h⟩

theorem rowsOk_get {n sz : Nat} {rows : List (List AV)} (h : rowsOk n rows = true) (hs : ∀ (i : Nat) row, rows[i]? = some row → row.length = sz) (hne : rows ≠ []) : sz = n := by
  cases rows with
  | nil => exact absurd rfl hne
  | cons r l =>
    have := hs 0 r rfl
    simp [rowsOk] at h
    omega

theorem blk_sz (h : Wld C μ H w) {id sz : Nat} {rs : List (List AV)} {m : MI} (hb : blkRows H id = some (sz, rs)) (hm : μ id = some m) : sz = m.sz := by
  unfold blkRows at hb
  split at hb
  · rename_i hh; cases hb; obtain ⟨m', e1, _, _, e2, _⟩ := h.live id _ hh rfl; rw [hm] at e1; cases e1; exact e2
  · rename_i hh; cases hb; obtain ⟨m', e1, e2, _⟩ := h.froz id _ _ _ hh; rw [hm] at e1; cases e1; exact e2
  · cases hb

theorem aSlice_sound {cfg : Cfg} (hc : CfgTy cfg) (h : Wld C μ H w) {t : TypeId} {a : AV} {va : Value} {x : Operand → AV} {ρ : Operand → Value} (hx : ∀ a, Rep C μ (x a) (ρ a)) (lo hi mx : Option Operand) {r : AV}
    (he : aSlice cfg t H a (lo.map x) (hi.map x) (mx.map x) = some r) (ha : Rep C μ a va) : ∃ v, (Instr.sliceAt t va (lo.map ρ) (hi.map ρ) (mx.map ρ)).run cfg.P w = .ok v w ∧ Rep C μ r v := by
  obtain ⟨l1, l2⟩ := opt_rep hx lo
  obtain ⟨h1, h2⟩ := opt_rep hx hi
  obtain ⟨m1, m2⟩ := opt_rep hx mx
  unfold aSlice at he
  split at he
  · rename_i s ht
    split at he
    · rename_i l h' hmx hbd
      cases he; cases ha
      obtain ⟨ti, u, _, _, hu, hd⟩ := hc.td ht
      have := td_str hd; subst this
      have hm0 : mx = none := by cases mx <;> simp at hmx; rfl
      subst hm0
      obtain ⟨m, e1, e2, e3, e4, e5⟩ := sliceBd_sound (P := cfg.P) (w := w) (C := C) (μ := μ) (cap := s.length) (vmx := none) hbd false (Nat.le_refl _) l1 l2 h1 h2 (fun a h => by simp at h) (fun _ => rfl)
      have hsz : (⟨s.toArray⟩ : ByteArray).size = s.length := by simp [ByteArray.size]
      refine ⟨.string ((⟨s.toArray⟩ : ByteArray).extract l h'), by simp [Instr.sliceAt, Instr.slice, run_underlying hu, hsz, e1], ?_⟩
      have hb : ((⟨s.toArray⟩ : ByteArray).extract l h') = ⟨((s.drop l).take (h' - l)).toArray⟩ := by
        apply ByteArray.ext
        apply Array.ext'
        rw [Lib.extract_data]
      rw [hb]; exact .str _
    · cases he
  · rename_i e ht
    split at he
    · rename_i n lh hsz hbd
      cases he; cases ha
      obtain ⟨ti, u, _, _, hu, hd⟩ := hc.td ht
      have := td_slice hd; subst this
      obtain ⟨te, hte, rfl⟩ := hc.sz hsz
      obtain ⟨l, h'⟩ := lh
      obtain ⟨m, e1, e2, e3, e4, e5⟩ := sliceBd_sound (P := cfg.P) (w := w) (C := C) (μ := μ) (cap := 0) hbd true (Nat.le_refl _) l1 l2 h1 h2 m1 m2
      obtain rfl : h' = 0 := by omega
      obtain rfl : l = 0 := by omega
      obtain rfl : m = 0 := by omega
      exact ⟨.slice none 0 0, by simp [Instr.sliceAt, Instr.slice, run_underlying hu, e1, run_sizeOf hte], .nilS⟩
    · cases he
  · rename_i e rows ht
    split at he
    · rename_i n l h' hsz hbd
      split at he
      · rename_i hok
        cases he
        obtain ⟨ti, u, _, _, hu, hd⟩ := hc.td ht
        have := td_slice hd; subst this
        obtain ⟨te, hte, rfl⟩ := hc.sz hsz
        cases ha with
        | slNil =>
          obtain ⟨m, e1, e2, e3, e4, e5⟩ := sliceBd_sound (P := cfg.P) (w := w) (C := C) (μ := μ) (cap := 0) hbd true (Nat.le_refl _) l1 l2 h1 h2 m1 m2
          obtain rfl : h' = 0 := by omega
          obtain rfl : l = 0 := by omega
          obtain rfl : m = 0 := by omega
          rw [List.length_nil] at e1
          exact ⟨.slice none 0 0, by simp [Instr.sliceAt, Instr.slice, run_underlying hu, e1, run_sizeOf hte], by simpa using Rep.slNil⟩
        | sl _ b cap sz vals hs hsz' hcl hr hcell hcap hfree =>
          obtain ⟨m, e1, e2, e3, e4, e5⟩ := sliceBd_sound (P := cfg.P) (w := w) (C := C) (μ := μ) (cap := cap) hbd true hcap l1 l2 h1 h2 m1 m2
          have hlen : ((rows.drop l).take (h' - l)).length = h' - l := by simp; omega
          refine ⟨.slice (some (if m = l then b else b.add (l * te.sz))) (h' - l) (m - l), ?_, ?_⟩
          · by_cases hml : m = l <;> simp [Instr.sliceAt, Instr.slice, run_underlying hu, e1, run_sizeOf hte, hml]
          · have := Rep.sl (C := C) (μ := μ) ((rows.drop l).take (h' - l)) (if m = l then b else b.add (l * te.sz)) (m - l) sz (fun i j => vals (l + i) j) (fun hne => ?_) (fun i row hi => ?_) (fun i j row x hi hj => ?_)
              (fun i j row x hi hj => ?_) (fun i j row x hi hj => ?_) (by rw [hlen]; omega) (refsLtR_take (refsLtR_drop hfree))
            · rwa [hlen] at this
            · have hr0 : rows ≠ [] := by rintro rfl; simp at hne
              have hsp := hs hr0
              split
              · exact hsp
              · rw [addr_add' _ _ hsp]
            · obtain ⟨_, hi'⟩ := drop_take_get hi
              exact hsz' _ row hi'
            · obtain ⟨hlt, hi'⟩ := drop_take_get hi
              have hr0 : rows ≠ [] := by rintro rfl; simp at hi'
              have hsp := hs hr0
              have hse := rowsOk_get hok hsz' hr0
              have hne : m ≠ l := by omega
              rw [if_neg hne, addr_add' _ _ hsp]
              have := hcl _ j row x hi' hj
              rw [← this, ← hse]
              simp only [Nat.add_mul]
              congr 1; omega
            · obtain ⟨_, hi'⟩ := drop_take_get hi
              exact hr _ j row x hi' hj
            · obtain ⟨_, hi'⟩ := drop_take_get hi
              exact hcell _ j row x hi' hj
      · cases he
    · cases he
  · rename_i e id off len ht
    split at he
    · rename_i n l h' sz rs hsz hbd hblk
      split at he
      · rename_i hsn
        cases he
        obtain ⟨ti, u, _, _, hu, hd⟩ := hc.td ht
        have := td_slice hd; subst this
        obtain ⟨te, hte, rfl⟩ := hc.sz hsz
        cases ha with
        | ms _ _ _ cap b m' hm hl ha' =>
          have hmsz : te.sz = m'.sz := by have := blk_sz h hblk hm; simp at hsn; omega
          obtain ⟨m, e1, e2, e3, e4, e5⟩ := sliceBd_sound (P := cfg.P) (w := w) (C := C) (μ := μ) (cap := cap) hbd true hl l1 l2 h1 h2 m1 m2
          refine ⟨.slice (some (if m = l then b else b.add (l * te.sz))) (h' - l) (m - l), ?_, .ms id _ _ _ _ m' hm (by omega) (fun hcap => ?_)⟩
          · by_cases hml : m = l <;> simp [Instr.sliceAt, Instr.slice, run_underlying hu, e1, run_sizeOf hte, hml]
          · have hne : m ≠ l := by omega
            obtain ⟨rfl, hfit⟩ := ha' (by omega)
            rw [if_neg hne, addr_add, hmsz]
            refine ⟨?_, ?_⟩
            · simp only [Nat.add_mul]; congr 1; omega
            · refine Nat.le_trans (Nat.mul_le_mul_right _ ?_) hfit
              omega
      · cases he
    · cases he
  · cases he

/-! ### cells of rows, one behind the other -/
def FlatRep (C : Claims) (μ : MMap) (n : Nat) (rows : List (List AV)) (vs : List Value) : Prop :=
  vs.length = rows.length * n ∧ ∀ (i : Nat) row, rows[i]? = some row → row.length = n ∧ ∀ (j : Nat) x, row[j]? = some x → x.isCell = true ∧ ∃ v, vs[i * n + j]? = some v ∧ Rep C μ x v

theorem FlatRep.nil (n : Nat) : FlatRep C μ n [] [] := ⟨by simp, fun i row h => by simp at h⟩
theorem FlatRep.append {n : Nat} {r1 r2 : List (List AV)} {v1 v2 : List Value} (h1 : FlatRep C μ n r1 v1) (h2 : FlatRep C μ n r2 v2) : FlatRep C μ n (r1 ++ r2) (v1 ++ v2) := by
  refine ⟨by rw [List.length_append, h1.1, h2.1, List.length_append, Nat.add_mul], fun i row hi => ?_⟩
  rw [List.getElem?_append] at hi
  split at hi
  · rename_i hlt
    refine ⟨(h1.2 i row hi).1, fun j x hj => ?_⟩
    obtain ⟨e1, v, e2, e3⟩ := (h1.2 i row hi).2 j x hj
    exact ⟨e1, v, by rw [List.getElem?_append_left (List.getElem?_eq_some_iff.1 e2).1]; exact e2, e3⟩
  · rename_i hge
    refine ⟨(h2.2 _ row hi).1, fun j x hj => ?_⟩
    obtain ⟨e1, v, e2, e3⟩ := (h2.2 _ row hi).2 j x hj
    refine ⟨e1, v, ?_, e3⟩
    have hle : r1.length * n ≤ i * n := Nat.mul_le_mul_right _ (by omega)
    rw [List.getElem?_append_right (by rw [h1.1]; omega), h1.1]
    rw [Nat.sub_mul] at e2
    rw [← e2]; congr 1; omega
theorem FlatRep.take {n : Nat} {rows : List (List AV)} {vs : List Value} (h : FlatRep C μ n rows vs) (k : Nat) : FlatRep C μ n (rows.take k) (vs.take (k * n)) := by
  refine ⟨by rw [List.length_take, List.length_take, h.1]; exact (Nat.mul_min_mul_right _ _ _), fun i row hi => ?_⟩
  rw [List.getElem?_take] at hi
  split at hi
  · rename_i hlt
    refine ⟨(h.2 i row hi).1, fun j x hj => ?_⟩
    obtain ⟨e1, v, e2, e3⟩ := (h.2 i row hi).2 j x hj
    refine ⟨e1, v, ?_, e3⟩
    have hj' : j < n := by rw [← (h.2 i row hi).1]; exact (List.getElem?_eq_some_iff.1 hj).1
    have : (i + 1) * n ≤ k * n := Nat.mul_le_mul_right _ hlt
    rw [Nat.add_mul] at this
    rw [List.getElem?_take, if_pos (by omega)]; exact e2
  · cases hi
theorem FlatRep.mono {n : Nat} {rows : List (List AV)} {vs : List Value} (h : FlatRep C μ n rows vs) (hC : ∀ b o v, C b o = some v → C' b o = some v) (hμ : ∀ id m, μ id = some m → μ' id = some m) : FlatRep C' μ' n rows vs :=
  ⟨h.1, fun i row hi => ⟨(h.2 i row hi).1, fun j x hj => by
    obtain ⟨e1, v, e2, e3⟩ := (h.2 i row hi).2 j x hj
    exact ⟨e1, v, e2, e3.mono hC hμ⟩⟩⟩
theorem FlatRep.one {n : Nat} {rows : List (List AV)} {vs : List Value} (h : FlatRep C μ n rows vs) : ∀ v ∈ vs, v.oneCell' = true := by
  intro v hv
  obtain ⟨k, hk⟩ := List.mem_iff_getElem?.1 hv
  have hlt : k < vs.length := (List.getElem?_eq_some_iff.1 hk).1
  rw [h.1] at hlt
  have hn : 0 < n := Nat.pos_of_ne_zero (fun e => by subst e; simp at hlt)
  have hi : k / n < rows.length := Nat.div_lt_of_lt_mul (by rwa [Nat.mul_comm] at hlt)
  obtain ⟨hlen, hc⟩ := h.2 (k / n) _ (List.getElem?_eq_getElem hi)
  have hj : k % n < (rows[k / n]).length := by rw [hlen]; exact Nat.mod_lt _ hn
  obtain ⟨e1, u, e2, e3⟩ := hc (k % n) _ (List.getElem?_eq_getElem hj)
  rw [Nat.mul_comm, Nat.div_add_mod, hk] at e2
  cases e2
  exact e3.oneCell e1

/-- cells of the world that hold rows -/
theorem flat_of_cells {n : Nat} {rows : List (List AV)} {b o : Nat} (hn : 0 < n) (h : ∀ (i : Nat) row, rows[i]? = some row → row.length = n ∧ ∀ (j : Nat) x, row[j]? = some x → x.isCell = true ∧ ∃ v, w.cell? ⟨b, o + i * n + j, none⟩ = some v ∧ Rep C μ x v) :
    ∃ vs : List Value, FlatRep C μ n rows vs ∧ ∀ (k : Nat) v, vs[k]? = some v → w.cell? ⟨b, o + k, none⟩ = some v := by
  have hcell : ∀ k, k < rows.length * n → ∃ v, w.cell? ⟨b, o + k, none⟩ = some v := by
    intro k hk
    have hi : k / n < rows.length := Nat.div_lt_of_lt_mul (by rwa [Nat.mul_comm] at hk)
    obtain ⟨hlen, hc⟩ := h (k / n) _ (List.getElem?_eq_getElem hi)
    have hj : k % n < (rows[k / n]).length := by rw [hlen]; exact Nat.mod_lt _ hn
    obtain ⟨_, u, e2, _⟩ := hc (k % n) _ (List.getElem?_eq_getElem hj)
    refine ⟨u, ?_⟩
    rw [Nat.add_assoc, Nat.mul_comm, Nat.div_add_mod] at e2
    exact e2
  refine ⟨(List.range (rows.length * n)).map fun k => (w.cell? ⟨b, o + k, none⟩).getD undef, ⟨by simp, fun i row hi => ⟨(h i row hi).1, fun j x hj => ?_⟩⟩, fun k v hk => ?_⟩
  · obtain ⟨e1, v, e2, e3⟩ := (h i row hi).2 j x hj
    refine ⟨e1, v, ?_, e3⟩
    have hj' : j < n := by rw [← (h i row hi).1]; exact (List.getElem?_eq_some_iff.1 hj).1
    have hi' : i < rows.length := (List.getElem?_eq_some_iff.1 hi).1
    have : (i + 1) * n ≤ rows.length * n := Nat.mul_le_mul_right _ hi'
    rw [Nat.add_mul] at this
    rw [List.getElem?_map, List.getElem?_range (by omega)]
    simp only [Option.map_some]
    rw [← Nat.add_assoc, e2]; rfl
  · obtain ⟨k', hk', rfl⟩ := getElem?_map' hk
    have hlt : k < rows.length * n := by have := (List.getElem?_eq_some_iff.1 hk').1; simpa using this
    rw [List.getElem?_range hlt] at hk'
    cases hk'
    obtain ⟨v, hv⟩ := hcell k hlt
    rw [hv]; rfl

theorem run_first {a : Addr} {n len cap : Nat} {vs : List Value} (hl : vs.length = len * n) (h : ∀ (k : Nat) v, vs[k]? = some v → w.cell? (a.add k) = some v) : (Builtin.firstCells n len (.slice (some a) len cap)).run P w = .ok vs.toArray w := by
  have := run_loadCells_list (P := P) w a vs h
  rw [hl] at this
  simpa [Builtin.firstCells] using this

theorem cell_heap {w w' : World} (h : w'.heap = w.heap) (a : Addr) : w'.cell? a = w.cell? a := by simp [World.cell?, h]

/-- a slice, read whole -/
theorem rows_read (h : Wld C μ H w) {x : AV} {v : Value} {n : Nat} {rows : List (List AV)} (hn : 0 < n) (hx : Rep C μ x v) (hr : rowsOf H n x = some rows) :
    ∃ (a : Option Addr) (cap : Nat) (vs : List Value), v = .slice a rows.length cap ∧ rows.length ≤ cap ∧ FlatRep C μ n rows vs ∧ (∀ w' : World, w'.heap = w.heap → (Builtin.firstCells n rows.length v).run P w' = .ok vs.toArray w') ∧
      (∀ b, a = some b → ∀ (k : Nat) u, vs[k]? = some u → w.cell? (b.add k) = some u) ∧ (a = none → rows = []) := by
  unfold rowsOf at hr
  split at hr
  · cases hr; cases hx
    exact ⟨none, 0, [], rfl, by simp, .nil n, fun w' _ => by simp [Builtin.firstCells], (fun b hb => by cases hb), fun _ => rfl⟩
  · rename_i rows'
    split at hr
    · rename_i hok
      cases hr
      cases hx with
      | slNil => exact ⟨none, 0, [], rfl, by simp, .nil n, fun w' _ => by simp [Builtin.firstCells], (fun b hb => by cases hb), fun _ => rfl⟩
      | sl _ a cap sz vals hs hsz hcl hrep hcell hcap hfree =>
        by_cases hne : rows = []
        · subst hne
          refine ⟨some a, cap, [], rfl, hcap, .nil n, fun w' _ => ?_, fun b hb k u hk => by simp at hk, fun h => by cases h⟩
          exact run_first (vs := []) (by simp) (fun k v hk => by simp at hk)
        · have hse := rowsOk_get hok hsz hne
          have hsp := hs hne
          obtain ⟨vs, f1, f2⟩ := flat_of_cells (w := w) (C := C) (μ := μ) (b := a.block) (o := a.off) (rows := rows) hn (fun i row hi => ⟨by rw [hsz i row hi, hse], fun j x hj => ⟨hcell i j row x hi hj, vals i j, by
            have := h.cl _ _ _ (hcl i j row x hi hj)
            rwa [hse] at this, hrep i j row x hi hj⟩⟩)
          have f3 : ∀ (k : Nat) u, vs[k]? = some u → w.cell? (a.add k) = some u := fun k u hk => by rw [addr_add' _ _ hsp]; exact f2 k u hk
          exact ⟨some a, cap, vs, rfl, hcap, f1, fun w' hw => run_first f1.1 (fun k v hk => by rw [cell_heap hw]; exact f3 k v hk), fun b hb => by cases hb; exact f3, fun h => by cases h⟩
    · cases hr
  · rename_i id off len
    split at hr
    · rename_i sz rs hb
      split at hr
      · rename_i hcnd
        simp only [Bool.and_eq_true, beq_iff_eq, Nat.ble_eq] at hcnd
        cases hr
        cases hx with
        | ms _ _ _ cap a m hm hl ha =>
          have hlen : ((rs.drop off).take len).length = len := by simp; omega
          by_cases h0 : len = 0
          · subst h0
            refine ⟨some a, cap, [], by simp, by simp, by simpa using FlatRep.nil n, fun w' _ => ?_, fun b hb k u hk => by simp at hk, fun h => by cases h⟩
            simpa using run_first (P := P) (w := w') (a := a) (n := n) (len := 0) (cap := cap) (vs := []) (by simp) (fun k v hk => by simp at hk)
          · obtain ⟨rfl, hfit⟩ := ha (by omega)
            have hmsz := blk_sz h hb hm
            obtain ⟨vs, f1, f2⟩ := flat_of_cells (w := w) (C := C) (μ := μ) (b := m.block) (o := m.base + off * m.sz) (rows := (rs.drop off).take len) hn (fun i row hi => by
              obtain ⟨_, hi'⟩ := drop_take_get hi
              obtain ⟨m', g1, g2, g3, g4⟩ := h.rowCells hb hi'
              rw [hm] at g1; cases g1
              refine ⟨by omega, fun j x hj => ?_⟩
              obtain ⟨c1, v, c2, c3⟩ := g4 j x hj
              refine ⟨c1, v, ?_, c3⟩
              rw [← c2, ← hcnd.1, ← hmsz, Nat.add_mul]
              congr 2; omega)
            have f3 : ∀ (k : Nat) u, vs[k]? = some u → w.cell? (Addr.add ⟨m.block, m.base + off * m.sz, none⟩ k) = some u := fun k u hk => by rw [addr_add]; exact f2 k u hk
            refine ⟨some _, cap, vs, by rw [hlen], by omega, f1, fun w' hw => ?_, fun b hb => by cases hb; exact f3, fun h => by cases h⟩
            have := run_first (P := P) (w := w') (cap := cap) f1.1 (fun k v hk => by rw [cell_heap hw]; exact f3 k v hk)
            rw [hlen] at this ⊢
            exact this
      · cases hr
    · cases hr
  · cases hr

theorem byteRows_len (s : List UInt8) : (byteRows s).length = s.length := by simp [byteRows]
theorem byteRows_flat (s : List UInt8) : FlatRep C μ 1 (byteRows s) (s.map fun b => Value.int .u8 b.toNat) := by
  refine ⟨by simp [byteRows], fun i row hi => ?_⟩
  obtain ⟨b, hb, rfl⟩ := getElem?_map' hi
  refine ⟨rfl, fun j x hj => ?_⟩
  cases j with
  | zero =>
    simp at hj; subst hj
    exact ⟨rfl, .int .u8 b.toNat, by simp [hb], .int _ _⟩
  | succ j => simp at hj
end Go.Av
