/-
  Reading and writing memory by the abstract evaluation. Own work.
  What is proved: loads, stores, new rows run as the abstract evaluation says; no condition.
-/
import Derived.Test.YtpbfmaodnihpeaaAvStep
import Derived.Laws.Cells
import Derived.Laws.IdiomCopy
import Derived.Laws.Entries
namespace Go.Av
variable {C C' : Claims} {μ μ' : MMap} {H H' : AH} {w w' : World} {P : Program}

theorem tiOf_spec {t : TypeId} {ti : TI} (h : tiOf P t = some ti) : ∃ i u z, P.info? t = some i ∧ P.underlying t = some u ∧ i.zero = some z ∧ ti = { d := tdOf u, sz := i.size, bytes := i.bytes, zero := z.cells.toList.map ofValue1 } := by
  unfold tiOf at h
  split at h
  · rename_i i u hi hu
    split at h
    · rename_i z hz
      cases h
      exact ⟨i, u, z, hi, hu, hz, rfl⟩
    · cases h
  · cases h

theorem run_typeInfo {t : TypeId} {i : TypeInfo} (h : P.info? t = some i) (w : World) : (typeInfo t).run P w = .ok i w := by simp [typeInfo, h]
theorem run_sizeOf {t : TypeId} {ti : TI} (h : tiOf P t = some ti) (w : World) : (sizeOf t).run P w = .ok ti.sz w := by
  obtain ⟨i, u, z, hi, hu, hz, rfl⟩ := tiOf_spec h
  simp [sizeOf, run_typeInfo hi]
theorem run_zeroValue {t : TypeId} {ti : TI} (h : tiOf P t = some ti) (w : World) : ∃ z, (zeroValue t).run P w = .ok z w ∧ ti.zero = z.cells.toList.map ofValue1 := by
  obtain ⟨i, u, z, hi, hu, hz, rfl⟩ := tiOf_spec h
  exact ⟨z, by simp [zeroValue, run_typeInfo hi, hz], rfl⟩
theorem run_isAgg {t : TypeId} {ti : TI} (h : tiOf P t = some ti) (w : World) : (isAgg t).run P w = .ok ti.d.agg w := by
  obtain ⟨i, u, z, hi, hu, hz, rfl⟩ := tiOf_spec h
  simp only [isAgg, Sem.run_bind, run_underlying hu, Result.andThen_ok]
  cases u <;> rfl

theorem td_slice {u : TypeDesc} {e : TypeId} (h : tdOf u = .slice e) : u = .slice e := by cases u <;> simp_all [tdOf]
theorem td_array {u : TypeDesc} {n : Nat} {e : TypeId} (h : tdOf u = .array n e) : u = .array n e := by cases u <;> simp_all [tdOf]
theorem td_str {u : TypeDesc} (h : tdOf u = .str) : u = .string := by cases u <;> simp_all [tdOf]
theorem td_int {u : TypeDesc} {k : IntKind} (h : tdOf u = .int k) : u = .int k := by cases u <;> simp_all [tdOf]
theorem td_bool {u : TypeDesc} (h : tdOf u = .bool) : u = .bool := by cases u <;> simp_all [tdOf]
theorem td_ptr {u : TypeDesc} {e : TypeId} (h : tdOf u = .ptr e) : u = .pointer e := by cases u <;> simp_all [tdOf]
theorem td_map {u : TypeDesc} {k e : TypeId} (h : tdOf u = .map k e) : u = .map k e := by cases u <;> simp_all [tdOf]
theorem td_struct {u : TypeDesc} {fs : List (Nat × TypeId)} (h : tdOf u = .struct fs) : ∃ f, u = .struct f ∧ fs = f.toList.map fun f => (f.offset, f.type) := by
  cases u <;> simp_all [tdOf]
theorem td_func {u : TypeDesc} (h : tdOf u = .func) : ∃ a b c, u = .func a b c := by cases u <;> simp_all [tdOf]

theorem Rep.oneCell {a : AV} {v : Value} (h : Rep C μ a v) (hc : a.isCell = true) : v.oneCell' = true := by
  cases h <;> first | rfl | simp [AV.isCell] at hc

theorem rep_ofValue1 (v : Value) : Rep C μ (ofValue1 v) v := by
  unfold ofValue1
  split
  · exact .bool _
  · exact .int _ _
  · rename_i s
    have h : (⟨s.data.toList.toArray⟩ : ByteArray) = s := by cases s; simp
    have := Rep.str (C := C) (μ := μ) s.data.toList
    rwa [h] at this
  · exact .nilS
  · exact .nilP
  · exact .nilM
  · exact .nilF
  · exact .nilI
  · exact .junk _

theorem rep_ofValue (v : Value) : Rep C μ (ofValue v) v := by
  unfold ofValue
  split
  · rename_i cs
    have := Rep.agg (C := C) (μ := μ) (cs.toList.map ofValue1) cs.toList (by simp) (fun i a v h1 h2 => by
      obtain ⟨b, hb, rfl⟩ := getElem?_map' h1
      rw [h2] at hb; cases hb
      exact rep_ofValue1 v)
    simpa using this
  · exact rep_ofValue1 v

theorem allCells_iff {cs : List AV} : allCells cs = true ↔ ∀ (i : Nat) x, cs[i]? = some x → x.isCell = true := by
  induction cs with
  | nil => simp [allCells]
  | cons a l ih =>
    simp only [allCells, Bool.and_eq_true, ih]
    constructor
    · rintro ⟨h1, h2⟩ i x hx
      cases i with
      | zero => simp at hx; subst hx; exact h1
      | succ i => exact h2 i x (by simpa using hx)
    · intro h
      exact ⟨h 0 a rfl, fun i x hx => h (i + 1) x (by simpa using hx)⟩

/-- the cells of a value -/
theorem Rep.cells {a : AV} {v : Value} {cs : List AV} (h : Rep C μ a v) (hc : a.cells = some cs) :
    ∃ vs : List Value, v.cells = vs.toArray ∧ cs.length = vs.length ∧ (∀ x ∈ vs, x.oneCell' = true) ∧ ∀ (i : Nat) x y, cs[i]? = some x → vs[i]? = some y → x.isCell = true ∧ Rep C μ x y := by
  have single : ∀ {x : AV} {y : Value}, Rep C μ x y → x.isCell = true → ∃ vs : List Value, y.cells = vs.toArray ∧ [x].length = vs.length ∧ (∀ z ∈ vs, z.oneCell' = true) ∧
      ∀ (i : Nat) x' y', [x][i]? = some x' → vs[i]? = some y' → x'.isCell = true ∧ Rep C μ x' y' := by
    intro x y hr hx
    have ho := hr.oneCell hx
    refine ⟨[y], by cases y <;> simp_all [Value.cells, Value.oneCell'], rfl, by simpa using ho, fun i x' y' h1 h2 => ?_⟩
    cases i with
    | zero => simp at h1 h2; subst h1; subst h2; exact ⟨hx, hr⟩
    | succ i => simp at h1
  cases h with
  | agg cs' vs hl hr =>
    simp only [AV.cells] at hc
    split at hc
    · rename_i hall
      cases hc
      rw [allCells_iff] at hall
      refine ⟨vs, rfl, hl, fun x hx => ?_, fun i x y h1 h2 => ⟨hall i x h1, hr i x y h1 h2⟩⟩
      obtain ⟨i, hi⟩ := List.mem_iff_getElem?.1 hx
      have hlt : i < cs.length := by rw [hl]; exact (List.getElem?_eq_some_iff.1 hi).1
      exact (hr i _ x (List.getElem?_eq_getElem hlt) hi).oneCell (hall i _ (List.getElem?_eq_getElem hlt))
    · cases hc
  | tup cs' vs hl hr => simp [AV.cells] at hc
  | junk v => simp [AV.cells] at hc
  | int k n => simp [AV.cells] at hc; subst hc; exact single (.int k n) rfl
  | bool b => simp [AV.cells] at hc; subst hc; exact single (.bool b) rfl
  | str s => simp [AV.cells] at hc; subst hc; exact single (.str s) rfl
  | nilS => simp [AV.cells] at hc; subst hc; exact single .nilS rfl
  | slNil => simp [AV.cells] at hc; subst hc; exact single .slNil rfl
  | sl rows a cap sz vals h1 h2 h3 h4 h5 h6 h7 => simp [AV.cells] at hc; subst hc; exact single (.sl rows a cap sz vals h1 h2 h3 h4 h5 h6 h7) rfl
  | ms id off len cap a m h1 h2 h3 => simp [AV.cells] at hc; subst hc; exact single (.ms id off len cap a m h1 h2 h3) rfl
  | nilP => simp [AV.cells] at hc; subst hc; exact single .nilP rfl
  | ptr id row off m h1 => simp [AV.cells] at hc; subst hc; exact single (.ptr id row off m h1) rfl
  | cptr cells off b o vals h1 h2 => simp [AV.cells] at hc; subst hc; exact single (.cptr cells off b o vals h1 h2) rfl
  | fn f first caps vf vc h1 h2 h3 h4 => simp [AV.cells] at hc; subst hc; exact single (.fn f first caps vf vc h1 h2 h3 h4) rfl
  | yld id m h1 => simp [AV.cells] at hc; subst hc; exact single (.yld id m h1) rfl
  | nilF => simp [AV.cells] at hc; subst hc; exact single .nilF rfl
  | nilM => simp [AV.cells] at hc; subst hc; exact single .nilM rfl
  | mp id m h1 => simp [AV.cells] at hc; subst hc; exact single (.mp id m h1) rfl
  | nilI => simp [AV.cells] at hc; subst hc; exact single .nilI rfl
  | ifc t a v h1 => simp [AV.cells] at hc; subst hc; exact single (.ifc t a v h1) rfl

/-! ### rows of a block, of a slice -/
theorem Wld.rowCells (h : Wld C μ H w) {id sz r : Nat} {rs : List (List AV)} {row : List AV} (hb : blkRows H id = some (sz, rs)) (hr : rs[r]? = some row) :
    ∃ m, μ id = some m ∧ sz = m.sz ∧ row.length = sz ∧ ∀ (j : Nat) x, row[j]? = some x → x.isCell = true ∧ ∃ v, w.cell? ⟨m.block, m.base + r * sz + j, none⟩ = some v ∧ Rep C μ x v := by
  unfold blkRows at hb
  split at hb
  · rename_i sz' rs' hi
    cases hb
    obtain ⟨m, hm, hlt, hc, hsz, hle, hrows, hcells⟩ := h.live id _ hi rfl
    refine ⟨m, hm, hsz, (hrows r row hr).1, fun j x hj => ?_⟩
    obtain ⟨e1, v, e2, e3⟩ := (hrows r row hr).2 j x hj
    exact ⟨e1, v, by rw [Nat.add_assoc]; exact e2, e3⟩
  · rename_i sz' rs' hi
    cases hb
    obtain ⟨m, hm, hsz, hle, hrows⟩ := h.froz id _ _ _ hi
    refine ⟨m, hm, hsz, (hrows r row hr).1, fun j x hj => ?_⟩
    obtain ⟨e1, v, e2, e3⟩ := (hrows r row hr).2 j x hj
    exact ⟨e1, v, by rw [Nat.add_assoc]; exact h.cl _ _ _ e2, e3⟩
  · cases hb

theorem addr_add (b o j : Nat) : (⟨b, o, none⟩ : Addr).add j = ⟨b, o + j, none⟩ := by unfold Addr.add; split <;> simp_all
theorem addr_add' (a : Addr) (j : Nat) (h : a.spot = none) : a.add j = ⟨a.block, a.off + j, none⟩ := by cases a; simp at h; subst h; exact addr_add _ _ _

/-- a run of cells, loaded -/
theorem run_cells {b o n : Nat} {cs : List AV} (hn : cs.length = n) (h : ∀ (j : Nat) x, cs[j]? = some x → ∃ v, w.cell? ⟨b, o + j, none⟩ = some v ∧ Rep C μ x v) :
    ∃ vs : List Value, (loadCells ⟨b, o, none⟩ n).run P w = .ok vs.toArray w ∧ vs.length = n ∧ ∀ (i : Nat) x y, cs[i]? = some x → vs[i]? = some y → Rep C μ x y := by
  have hv : ∀ j, j < n → ∃ v, w.cell? ⟨b, o + j, none⟩ = some v ∧ ∀ x, cs[j]? = some x → Rep C μ x v := by
    intro j hj
    have hlt : j < cs.length := by omega
    obtain ⟨v, h1, h2⟩ := h j _ (List.getElem?_eq_getElem hlt)
    exact ⟨v, h1, fun x hx => by rw [List.getElem?_eq_getElem hlt] at hx; cases hx; exact h2⟩
  have hl : ∀ j, j < n → w.cell? (Addr.add ⟨b, o, none⟩ j) = some ((w.cell? ⟨b, o + j, none⟩).getD undef) := by
    intro j hj
    obtain ⟨v, h1, _⟩ := hv j hj
    rw [addr_add, h1]; rfl
  refine ⟨(List.range n).map fun j => (w.cell? ⟨b, o + j, none⟩).getD undef, run_loadCells w _ n _ hl, by simp, fun i x y h1 h2 => ?_⟩
  obtain ⟨j, hj, rfl⟩ := getElem?_map' h2
  have hjl : i < n := by have := (List.getElem?_eq_some_iff.1 hj).1; simpa using this
  have : j = i := by rw [List.getElem?_range hjl] at hj; exact (Option.some.inj hj).symm
  subst this
  obtain ⟨v, e1, e2⟩ := hv j hjl
  rw [e1]; exact e2 x h1

theorem drop_take_get {α : Type} {l : List α} {off n j : Nat} {x : α} (h : ((l.drop off).take n)[j]? = some x) : j < n ∧ l[off + j]? = some x := by
  rw [List.getElem?_take] at h
  split at h
  · rename_i hlt
    exact ⟨hlt, by rwa [List.getElem?_drop] at h⟩
  · cases h

/-- what lies at an address, loaded -/
theorem load_sound (h : Wld C μ H w) {t : TypeId} {ti : TI} (ht : tiOf P t = some ti) {p : AV} {pv : Value} {v : AV} (hp : Rep C μ p pv) (he : aLoad ti.d.agg ti.sz H p = some v) :
    ∃ a u, pv = .pointer (some a) ∧ (loadVar t a).run P w = .ok u w ∧ Rep C μ v u := by
  have core : ∀ (b o off : Nat) (row : List AV), (∀ (j : Nat) x, row[j]? = some x → ∃ v, w.cell? ⟨b, o + j, none⟩ = some v ∧ Rep C μ x v) →
      (if ti.d.agg = true then (if Nat.ble (off + ti.sz) row.length = true then some (AV.agg ((row.drop off).take ti.sz)) else none) else row[off]?) = some v →
      ∃ u, (loadVar t ⟨b, o + off, none⟩).run P w = .ok u w ∧ Rep C μ v u := by
    intro b o off row hrow hv
    simp only [loadVar, Sem.run_bind, run_isAgg ht, Result.andThen_ok]
    cases hagg : ti.d.agg with
    | true =>
      rw [hagg] at hv
      simp only [if_true] at hv
      split at hv
      · rename_i hle
        rw [Nat.ble_eq] at hle
        cases hv
        obtain ⟨vs, e1, e2, e3⟩ := run_cells (P := P) (w := w) (C := C) (μ := μ) (b := b) (o := o + off) (n := ti.sz) (cs := (row.drop off).take ti.sz) (by simp; omega) (fun j x hj => by
          obtain ⟨_, hx⟩ := drop_take_get hj
          rw [Nat.add_assoc]; exact hrow _ x hx)
        refine ⟨.agg vs.toArray, by simp [run_sizeOf ht, e1], .agg _ vs (by simp; omega) e3⟩
      · cases hv
    | false =>
      rw [hagg] at hv
      simp only [Bool.false_eq_true, if_false] at hv
      obtain ⟨u, e1, e2⟩ := hrow off v hv
      exact ⟨u, by simp [e1], e2⟩
  unfold aLoad at he
  split at he
  · rename_i id r off
    split at he
    · rename_i sz rs hb
      split at he
      · rename_i row hr
        obtain ⟨m, hm, hsz, hlen, hc⟩ := h.rowCells hb hr
        cases hp with
        | ptr _ _ _ m' hm' =>
          rw [hm] at hm'; cases hm'
          obtain ⟨u, e1, e2⟩ := core m.block (m.base + r * m.sz) off row (fun j x hj => by
            obtain ⟨_, v, e1, e2⟩ := hc j x hj
            exact ⟨v, by rw [← hsz]; exact e1, e2⟩) he
          exact ⟨_, u, rfl, e1, e2⟩
      · cases he
    · cases he
  · rename_i cs off
    cases hp with
    | cptr _ _ b o vals hc hr =>
      obtain ⟨u, e1, e2⟩ := core b o off cs (fun j x hj => ⟨vals j, h.cl _ _ _ (hc j x hj), hr j x hj⟩) he
      exact ⟨_, u, rfl, e1, e2⟩
  · cases he

/-! ### cells written -/
theorem setCells_heap (b : Nat) : ∀ (vs : List Value) (o : Nat) (w : World), (w.setCells b o vs).heap.size = w.heap.size ∧ (∀ k, k ≠ b → (w.setCells b o vs).heap[k]? = w.heap[k]?) ∧
    (w.setCells b o vs).os = w.os ∧ (w.setCells b o vs).tape = w.tape ∧ (w.setCells b o vs).output = w.output
  | [], _, _ => ⟨rfl, fun _ _ => rfl, rfl, rfl, rfl⟩
  | v :: r, o, w => by
    obtain ⟨h1, h2, h3, h4, h5⟩ := setCells_heap b r (o + 1) (w.setCell ⟨b, o, none⟩ v)
    refine ⟨by rw [World.setCells, h1]; simp, fun k hk => ?_, by rw [World.setCells, h3]; rfl, by rw [World.setCells, h4]; rfl, by rw [World.setCells, h5]; rfl⟩
    rw [World.setCells, h2 k hk]
    simp only [World.setCell, Array.getElem?_modify]
    rw [if_neg (fun e => hk e.symm)]

theorem World.setCell_block {b : Nat} {o : Nat} {v : Value} {c : Array Value} {t : TypeId} {fz : Nat × Nat} (h : w.heap[b]? = some (.cells c t fz)) : (w.setCell ⟨b, o, none⟩ v).heap[b]? = some (.cells (c.setIfInBounds o v) t fz) := by
  simp only [World.setCell, Array.getElem?_modify, if_pos rfl, h]
  rfl

/-- a row of a live block is written from 'off' on -/
theorem rows_write {d : Bool} {m : MI} {sz : Nat} {rs : List (List AV)} {r off : Nat} {row cs : List AV} {vs : List Value} (hsz : sz = m.sz) (hle : rs.length * sz ≤ m.size) (hrows : RowsRep C μ (cellOf w m) sz rs)
    (hcells : ∀ o, o < m.size → (cellOf w m o).isSome = true ∧ w.frozen? ⟨m.block, m.base + o, none⟩ = false) (hr : rs[r]? = some row) (hfit : off + cs.length ≤ row.length) (hl : cs.length = vs.length)
    (hv : ∀ (i : Nat) x y, cs[i]? = some x → vs[i]? = some y → x.isCell = true ∧ Rep C μ x y) :
    BlkRep C μ (w.setCells m.block (m.base + r * sz + off) vs) m (.rows d sz (rs.set r (row.take off ++ cs ++ row.drop (off + cs.length)))) := by
  have hlen := (hrows r row hr).1
  have hrl : r < rs.length := (List.getElem?_eq_some_iff.1 hr).1
  have hmul : ∀ i, i < rs.length → i * sz + sz ≤ rs.length * sz := fun i hi => by
    have : (i + 1) * sz ≤ rs.length * sz := Nat.mul_le_mul_right _ hi
    rw [Nat.add_mul] at this; omega
  have hsome : ∀ j, j < vs.length → (w.cell? ⟨m.block, m.base + r * sz + off + j, none⟩).isSome = true := by
    intro j hj
    have h1 := hmul r hrl
    have := (hcells (r * sz + off + j) (by omega)).1
    unfold cellOf at this
    rwa [show m.base + (r * sz + off + j) = m.base + r * sz + off + j by omega] at this
  refine ⟨hsz, by simpa using hle, fun i row' hi => ?_, fun o ho => ?_⟩
  · rw [List.getElem?_set] at hi
    by_cases e : r = i
    · subst e
      rw [if_pos rfl, if_pos hrl] at hi
      cases hi
      refine ⟨by simp; omega, fun j x hj => ?_⟩
      have h1 := hmul r hrl
      by_cases hj1 : j < off
      · rw [List.getElem?_append_left (by simp; omega), List.getElem?_append_left (by simp; omega), List.getElem?_take, if_pos hj1] at hj
        obtain ⟨e1, v, e2, e3⟩ := (hrows r row hr).2 j x hj
        refine ⟨e1, v, ?_, e3⟩
        unfold cellOf at e2 ⊢
        rw [World.cell?_setCells_out]
        · exact e2
        · intro _ _; left; simp; omega
      · by_cases hj2 : j < off + cs.length
        · rw [List.getElem?_append_left (by simp; omega), List.getElem?_append_right (by simp; omega)] at hj
          simp only [List.length_take] at hj
          rw [show j - min off row.length = j - off by omega] at hj
          have hlt : j - off < vs.length := by omega
          obtain ⟨e1, e2⟩ := hv (j - off) x vs[j - off] hj (List.getElem?_eq_getElem hlt)
          refine ⟨e1, vs[j - off], ?_, e2⟩
          unfold cellOf
          have := World.cell?_setCells_in m.block vs (m.base + r * sz + off) w hsome (j - off) hlt
          rwa [show m.base + r * sz + off + (j - off) = m.base + (r * sz + j) by omega] at this
        · rw [List.getElem?_append_right (by simp; omega)] at hj
          simp only [List.length_append, List.length_take] at hj
          rw [List.getElem?_drop, show off + cs.length + (j - (min off row.length + cs.length)) = j by omega] at hj
          obtain ⟨e1, v, e2, e3⟩ := (hrows r row hr).2 j x hj
          refine ⟨e1, v, ?_, e3⟩
          unfold cellOf at e2 ⊢
          rw [World.cell?_setCells_out]
          · exact e2
          · intro _ _; right; simp; omega
    · rw [if_neg e] at hi
      refine ⟨(hrows i row' hi).1, fun j x hj => ?_⟩
      obtain ⟨e1, v, e2, e3⟩ := (hrows i row' hi).2 j x hj
      refine ⟨e1, v, ?_, e3⟩
      have hlen' := (hrows i row' hi).1
      have hjl : j < sz := by rw [← hlen']; exact (List.getElem?_eq_some_iff.1 hj).1
      unfold cellOf at e2 ⊢
      rw [World.cell?_setCells_out]
      · exact e2
      · intro _ _
        rcases Nat.lt_or_gt_of_ne e with h | h
        · right
          have : (r + 1) * sz ≤ i * sz := Nat.mul_le_mul_right _ h
          rw [Nat.add_mul] at this
          simp; omega
        · left
          have : (i + 1) * sz ≤ r * sz := Nat.mul_le_mul_right _ h
          rw [Nat.add_mul] at this
          simp; omega
  · have h0 := hcells o ho
    refine ⟨?_, by rw [World.frozen?_setCells]; exact h0.2⟩
    unfold cellOf at h0 ⊢
    by_cases hin : r * sz + off ≤ o ∧ o < r * sz + off + vs.length
    · have := World.cell?_setCells_in m.block vs (m.base + r * sz + off) w hsome (o - (r * sz + off)) (by omega)
      rw [show m.base + r * sz + off + (o - (r * sz + off)) = m.base + o by omega] at this
      rw [this]; rfl
    · rw [World.cell?_setCells_out]
      · exact h0.1
      · intro _ _; simp; omega

/-- a store through an address -/
theorem store_sound (h : Wld C μ H w) {t : TypeId} {ti : TI} (ht : tiOf P t = some ti) {p x : AV} {pv xv : Value} (hp : Rep C μ p pv) (hx : Rep C μ x xv) (he : aStore ti.sz H p x = some H') :
    ∃ a w', pv = .pointer (some a) ∧ (storeVar t a xv).run P w = .ok () w' ∧ Wld C μ H' w' ∧ (∀ k, k ≤ H.length → Ext k C μ H w C μ H' w') := by
  unfold aStore at he
  split at he
  · rename_i id r off cs hcs
    split at he
    · rename_i d sz rs hi
      split at he
      · rename_i row hr
        split at he
        · rename_i hc
          simp only [Bool.and_eq_true, beq_iff_eq, Nat.ble_eq] at hc
          cases he
          obtain ⟨m, hm, hlt, hcl, hsz, hle, hrows, hcells⟩ := h.live id _ hi rfl
          cases hp with
          | ptr _ _ _ m' hm' =>
            rw [hm] at hm'; cases hm'
            obtain ⟨vs, e1, e2, e3, e4⟩ := hx.cells hcs
            have hw := rows_write (d := d && refsLtL 0 cs) (w := w) (cs := cs) (vs := vs) (off := off) hsz hle hrows hcells hr (by omega) e2 e4
            rw [hc.1] at hw
            obtain ⟨g1, g2, g3, g4, g5⟩ := setCells_heap m.block vs (m.base + r * sz + off) w
            have hrl : r < rs.length := (List.getElem?_eq_some_iff.1 hr).1
            have hlen := (hrows r row hr).1
            have hmul : r * sz + sz ≤ rs.length * sz := by
              have : (r + 1) * sz ≤ rs.length * sz := Nat.mul_le_mul_right _ hrl
              rw [Nat.add_mul] at this; omega
            have hcell : ∀ j, j < vs.length → (w.cell? ⟨m.block, m.base + r * sz + off + 0 + j, none⟩).isSome = true ∧ w.frozen? ⟨m.block, m.base + r * sz + off + 0 + j, none⟩ = false := by
              intro j hj
              have := hcells (r * sz + off + j) (by omega)
              unfold cellOf at this
              rwa [show m.base + (r * sz + off + j) = m.base + r * sz + off + 0 + j by omega] at this
            have hrun := run_storeCells_cells (P := P) m.block (m.base + r * sz + off) vs 0 w (fun j hj => (hcell j hj).1) (fun j hj => (hcell j hj).2) e3
            refine ⟨_, w.setCells m.block (m.base + r * sz + off) vs, rfl, ?_, h.setBlk hi rfl rfl hm g1 g2 hw ?_, fun k hk => Ext.setBlk h hi rfl hm g1 g2 g3 g4 g5 hk⟩
            simp only [storeVar, Sem.run_bind, run_sizeOf ht, Result.andThen_ok, e1]
            rw [if_neg (by simp; omega)]
            rw [← hsz]
            simpa using hrun
            · intro hd
              rw [Bool.and_eq_true] at hd
              have hfree := h.free.get hi hd.1
              exact refsLtR_set hfree (refsLtL_app (refsLtL_app (refsLtL_take (refsLtR_get hfree hr)) hd.2) (refsLtL_drop (refsLtR_get hfree hr)))
        · cases he
      · cases he
    · cases he
  · cases he

/-! ### a new row of cells -/
theorem cell_alloc (w : World) (c : Array Value) (e : TypeId) (o : Nat) : (w.alloc (.cells c e)).cell? ⟨w.heap.size, o, none⟩ = c[o]? := by simp

theorem aNew_fresh (h : Wld C μ H w) {nid : Option Nat} {k : Nat} {b : ABlk} (hn : aNew nid H b = some (k, H')) : μ k = none := by
  unfold aNew at hn
  cases nid with
  | none =>
    simp only [Option.some.injEq, Prod.mk.injEq] at hn
    cases hk : μ k with
    | none => rfl
    | some m => have := h.dom _ _ hk; omega
  | some k' =>
    simp only at hn
    split at hn
    · rename_i hk
      simp only [Option.some.injEq, Prod.mk.injEq] at hn
      rw [← hn.1]; exact h.res _ hk
    · cases hn

/-- a world with one block more -/
structure Grew (w w' : World) (c : Array Value) (e : TypeId) : Prop where
  os : w'.os = w.os
  tape : w'.tape = w.tape
  output : w'.output = w.output
  size : w'.heap.size = w.heap.size + 1
  old : ∀ b, b < w.heap.size → w'.heap[b]? = w.heap[b]?
  new : ∃ fz : Nat × Nat, w'.heap[w.heap.size]? = some (.cells c e fz) ∧ ∀ o, o < c.size → ¬ (fz.1 ≤ o ∧ o < fz.2)

theorem Grew.alloc (w : World) (c : Array Value) (e : TypeId) : Grew w (w.alloc (.cells c e)) c e :=
  ⟨rfl, rfl, rfl, by simp, fun b hb => by
    show (w.heap.push _)[b]? = _
    rw [Array.getElem?_push, if_neg (by omega)], ⟨(0, 0), by
    show (w.heap.push _)[w.heap.size]? = _
    simp, fun o _ h => by simp at h⟩⟩
theorem Grew.drew {w w' : World} {c : Array Value} {e : TypeId} (h : Grew w.drew w' c e) : Grew w w' c e := ⟨h.os, h.tape, h.output, h.size, h.old, h.new⟩

/-- rows in a new block; the block may have more cells behind them -/
theorem new_rows (h : Wld C μ H w) {nid : Option Nat} {k sz : Nat} {d : Bool} {rs : List (List AV)} {c : Array Value} {e : TypeId} (hg : Grew w w' c e) (hn : aNew nid H (.rows d sz rs) = some (k, H')) (hle : rs.length * sz ≤ c.size)
    (hr : ∀ (i : Nat) row, rs[i]? = some row → row.length = sz ∧ ∀ (j : Nat) x, row[j]? = some x → x.isCell = true ∧ ∃ v, c[i * sz + j]? = some v ∧ Rep C μ x v) (hfr : d = true → refsLtR 0 rs = true) :
    Wld C (upd μ k ⟨w.heap.size, 0, c.size, sz⟩) H' w' ∧ (∀ j, j ≤ H.length → Ext j C μ H w C (upd μ k ⟨w.heap.size, 0, c.size, sz⟩) H' w') ∧
      (∀ id m, μ id = some m → upd μ k ⟨w.heap.size, 0, c.size, sz⟩ id = some m) := by
  have hnl : ¬ Live H μ w.heap.size := fun hl => Nat.lt_irrefl _ (h.live_lt hl)
  have hnc : ∀ o, C w.heap.size o = none := fun o => by
    cases hc : C w.heap.size o with
    | none => rfl
    | some v => exact absurd (h.block_lt hc) (Nat.lt_irrefl _)
  have hfresh := aNew_fresh h hn
  have hmu : ∀ id m, μ id = some m → upd μ k ⟨w.heap.size, 0, c.size, sz⟩ id = some m := by
    intro id m hid
    unfold upd
    split
    · rename_i he
      subst he
      rw [hfresh] at hid; cases hid
    · exact hid
  obtain ⟨fz, hnew, hfz⟩ := hg.new
  have hb : BlkRep C (upd μ k ⟨w.heap.size, 0, c.size, sz⟩) w' ⟨w.heap.size, 0, c.size, sz⟩ (.rows d sz rs) := by
    refine ⟨rfl, hle, fun i row hi => ⟨(hr i row hi).1, fun j x hj => ?_⟩, fun o ho => ⟨?_, ?_⟩⟩
    · obtain ⟨e1, v, e2, e3⟩ := (hr i row hi).2 j x hj
      exact ⟨e1, v, by simpa [cellOf, World.cell?, hnew] using e2, e3.mono (fun _ _ _ h => h) hmu⟩
    · have ho' : o < c.size := ho
      simp [cellOf, World.cell?, hnew, ho']
    · have := hfz o ho
      simp only [World.frozen?, hnew, Nat.zero_add]
      simpa using this
  have hw' : Wld C μ H w' := h.world (by rw [hg.size]; omega) (fun b hb _ => hg.old b hb)
  obtain ⟨e1, e2, e3, e4, e5⟩ := hw'.new hn hnl (by rw [hg.size]; simp) hnc rfl hb hfr
  refine ⟨e1, fun j hj => ⟨hg.os, hg.tape, hg.output, by rw [hg.size]; omega, fun _ _ _ h => h, fun id m' _ hm' => e2 id m' hm', fun b hb hnl => ⟨hg.old b hb, fun hl => ?_, rfl⟩, Nat.le_trans hj e3⟩, hmu⟩
  rcases e4 b hl with hl | hl
  · exact hnl hl
  · simp at hl; omega

theorem Ext.kill (k : Nat) (hk : k ≤ H.length) (id : Nat) : Ext k C μ H w C μ (H.set id .dead) w :=
  ⟨rfl, rfl, rfl, Nat.le_refl _, fun _ _ _ h => h, fun _ _ _ h => h, fun b _ hnl => ⟨rfl, fun hl => hnl hl.of_kill.1, rfl⟩, by simpa using hk⟩
end Go.Av
