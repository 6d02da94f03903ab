/-
  Composite values, make, copy, clear, conversions; all operations together. Own work.
  What is proved: each runs as the abstract evaluation says; no condition.
-/
import Derived.Test.YtpbfmaodnihpeaaAvOps3
namespace Go.Av
variable {C C' : Claims} {μ μ' : MMap} {H H' : AH} {w w' : World} {P : Program}

/-! ### parts put into cells -/
theorem fold_set (off : Nat) : ∀ (l : List Value) (k : Nat) (arr : Array Value), off + k + l.length ≤ arr.size →
    ((l.zipIdx k).foldl (fun cs (p : Value × Nat) => cs.setIfInBounds (off + p.2) p.1) arr).toList = arr.toList.take (off + k) ++ l ++ arr.toList.drop (off + k + l.length)
  | [], k, arr, _ => by simp
  | v :: rest, k, arr, h => by
    simp only [List.zipIdx_cons, List.foldl_cons]
    have ih := fold_set off rest (k + 1) (arr.setIfInBounds (off + k) v) (by simp at h ⊢; omega)
    rw [show off + (k + 1) = off + k + 1 by omega] at ih
    rw [ih, Array.toList_setIfInBounds]
    have := list_seg_step arr.toList (off + k) v rest (by simp at h ⊢; omega)
    simpa [Nat.add_assoc] using this

theorem fold_cells (off : Nat) (v : Value) (vs : List Value) (hv : v.cells = vs.toArray) (arr : Array Value) (h : off + vs.length ≤ arr.size) :
    (v.cells.zipIdx.foldl (fun cs (c, j) => cs.setIfInBounds (off + j) c) arr).toList = arr.toList.take off ++ vs ++ arr.toList.drop (off + vs.length) := by
  rw [hv, ← Array.foldl_toList]
  have := fold_set off vs 0 arr (by simpa using h)
  simpa using this

def CellsRep (C : Claims) (μ : MMap) (cs : List AV) (vs : List Value) : Prop := cs.length = vs.length ∧ ∀ (i : Nat) x v, cs[i]? = some x → vs[i]? = some v → x.isCell = true ∧ Rep C μ x v

theorem Rep.fg1 {a : AV} {v : Value} (h : Rep C μ a v) : Rep C μ a.fg1 v := by
  cases h with
  | nilS => exact .slNil
  | int k n => exact .int k n
  | bool b => exact .bool b
  | str s => exact .str s
  | agg cs vs hl ih => exact .agg cs vs hl ih
  | tup cs vs hl ih => exact .tup cs vs hl ih
  | slNil => exact .slNil
  | sl rows a cap sz vals h1 h2 h3 h4 h5 h6 h7 => exact .sl rows a cap sz vals h1 h2 h3 h4 h5 h6 h7
  | ms id off len cap a m h1 h2 h3 => exact .ms id off len cap a m h1 h2 h3
  | nilP => exact .nilP
  | ptr id row off m hm => exact .ptr id row off m hm
  | cptr cells off b o vals h1 h2 => exact .cptr cells off b o vals h1 h2
  | fn f first caps vf vc h1 h2 h3 h4 => exact .fn f first caps vf vc h1 h2 h3 h4
  | yld id m hm => exact .yld id m hm
  | nilF => exact .nilF
  | nilM => exact .nilM
  | mp id m hm => exact .mp id m hm
  | nilI => exact .nilI
  | ifc t a v h => exact .ifc t a v h
  | junk v => exact .junk v

theorem isCell_fg1 {a : AV} (h : a.isCell = true) : a.fg1.isCell = true := by
  cases a <;> simp_all [AV.fg1, AV.isCell]

theorem CellsRep.fgs {cs : List AV} {vs : List Value} (h : CellsRep C μ cs vs) (cfg : Cfg) (t : TypeId) : CellsRep C μ (cfg.fgs t cs) vs := by
  unfold Cfg.fgs
  split
  · refine ⟨by simpa using h.1, fun i x v hx hv => ?_⟩
    obtain ⟨y, hy, rfl⟩ := getElem?_map' hx
    exact ⟨isCell_fg1 (h.2 i y v hy hv).1, (h.2 i y v hy hv).2.fg1⟩
  · exact h

theorem fgs_length (cfg : Cfg) (t : TypeId) (cs : List AV) : (cfg.fgs t cs).length = cs.length := by
  unfold Cfg.fgs; split <;> simp

theorem splice_get {α β : Type} {R : α → β → Prop} {a a' : List α} {b b' : List β} {off : Nat} (hl : a.length = b.length) (h : ∀ (i : Nat) x y, a[i]? = some x → b[i]? = some y → R x y) (hl' : a'.length = b'.length)
    (h' : ∀ (i : Nat) x y, a'[i]? = some x → b'[i]? = some y → R x y) (hf : off + a'.length ≤ a.length) :
    (a.take off ++ a' ++ a.drop (off + a'.length)).length = (b.take off ++ b' ++ b.drop (off + b'.length)).length ∧
      ∀ (i : Nat) x y, (a.take off ++ a' ++ a.drop (off + a'.length))[i]? = some x → (b.take off ++ b' ++ b.drop (off + b'.length))[i]? = some y → R x y := by
  refine ⟨by simp; omega, fun i x y hx hy => ?_⟩
  by_cases h1 : i < off
  · rw [List.getElem?_append_left (by simp; omega), List.getElem?_append_left (by simp; omega), List.getElem?_take, if_pos h1] at hx hy
    exact h i x y hx hy
  · by_cases h2 : i < off + a'.length
    · rw [List.getElem?_append_left (by simp; omega), List.getElem?_append_right (by simp; omega)] at hx hy
      simp only [List.length_take] at hx hy
      rw [show i - min off a.length = i - off by omega] at hx
      rw [show i - min off b.length = i - off by omega] at hy
      exact h' _ x y hx hy
    · rw [List.getElem?_append_right (by simp; omega)] at hx hy
      simp only [List.length_append, List.length_take] at hx hy
      rw [List.getElem?_drop, show off + a'.length + (i - (min off a.length + a'.length)) = i by omega] at hx
      rw [List.getElem?_drop, show off + b'.length + (i - (min off b.length + b'.length)) = i by omega] at hy
      exact h i x y hx hy

theorem aFill_sound {place : Nat → Option (Nat × Nat)} : ∀ {parts : List (Nat × AV)} {vparts : List (Nat × Value)} {cells cells' : List AV} {vs : List Value}, aFill place cells parts = some cells' → CellsRep C μ cells vs →
    parts.length = vparts.length → (∀ (i : Nat) p q, parts[i]? = some p → vparts[i]? = some q → p.1 = q.1 ∧ Rep C μ p.2 q.2) → ∃ vs' : Array Value, Instr.fill place vs.toArray vparts = some vs' ∧ CellsRep C μ cells' vs'.toList
  | [], vparts, cells, cells', vs, h, hc, hl, hp => by
    have : vparts = [] := List.eq_nil_of_length_eq_zero (by simpa using hl.symm)
    subst this
    simp [aFill] at h
    subst h
    exact ⟨vs.toArray, rfl, by simpa using hc⟩
  | (i, x) :: rest, vparts, cells, cells', vs, h, hc, hl, hp => by
    cases vparts with
    | nil => simp at hl
    | cons q vrest =>
      obtain ⟨hq1, hq2⟩ := hp 0 (i, x) q rfl rfl
      obtain ⟨j, v⟩ := q
      simp only at hq1 hq2
      subst hq1
      rw [aFill] at h
      split at h
      · rename_i off size cs hpl hcs
        split at h
        · rename_i hcond
          simp only [Bool.and_eq_true, beq_iff_eq, Nat.ble_eq] at hcond
          obtain ⟨ws, e1, e2, e3, e4⟩ := hq2.cells hcs
          have hfit : off + ws.length ≤ vs.toArray.size := by have := hc.1; simp; omega
          have hfold := fold_cells off v ws e1 vs.toArray hfit
          obtain ⟨s1, s2⟩ := splice_get (R := fun x y => x.isCell = true ∧ Rep C μ x y) (off := off) hc.1 hc.2 e2 e4 (by omega)
          have hcr : CellsRep C μ (cells.take off ++ cs ++ cells.drop (off + size)) (vs.take off ++ ws ++ vs.drop (off + ws.length)) := by
            rw [← hcond.1]; exact ⟨s1, s2⟩
          obtain ⟨vs', g1, g2⟩ := aFill_sound h hcr (by simpa using hl) (fun k p q hk hk' => hp (k + 1) p q (by simpa using hk) (by simpa using hk'))
          refine ⟨vs', ?_, g2⟩
          rw [Instr.fill, hpl]
          simp only
          have hsz : v.cells.size = size := by rw [e1]; simp; omega
          have hsz2 : ¬ (v.cells.size ≠ size || decide (off + v.cells.size > vs.toArray.size)) = true := by
            rw [hsz]; simp; have := hc.1; omega
          rw [if_neg (by simpa using hsz2)]
          have : v.cells.zipIdx.foldl (fun cs (c, j) => cs.setIfInBounds (off + j) c) vs.toArray = (vs.take off ++ ws ++ vs.drop (off + ws.length)).toArray := by
            apply Array.ext'
            rw [hfold]
          rw [this]; exact g1
        · cases h
      · cases h

theorem parts_rep {x : Operand → AV} {ρ : Operand → Value} (hx : ∀ a, Rep C μ (x a) (ρ a)) (parts : Array (Nat × Operand)) :
    (parts.toList.map fun p => (p.1, x p.2)).length = (parts.map fun (i, x) => (i, ρ x)).toList.length ∧
      ∀ (i : Nat) p q, (parts.toList.map fun p => (p.1, x p.2))[i]? = some p → (parts.map fun (i, x) => (i, ρ x)).toList[i]? = some q → p.1 = q.1 ∧ Rep C μ p.2 q.2 := by
  refine ⟨by simp, fun i p q hp hq => ?_⟩
  obtain ⟨o, ho, rfl⟩ := getElem?_map' hp
  rw [Array.toList_map] at hq
  obtain ⟨o', ho', rfl⟩ := getElem?_map' hq
  rw [ho] at ho'; cases ho'
  exact ⟨rfl, hx _⟩

theorem zero_cells {ti : TI} {z : Value} (hz : ti.zero = z.cells.toList.map ofValue1) (ha : allCells ti.zero = true) : CellsRep C μ ti.zero z.cells.toList := by
  rw [allCells_iff] at ha
  refine ⟨by rw [hz]; simp, fun i x v hx hv => ⟨ha i x hx, ?_⟩⟩
  rw [hz] at hx
  obtain ⟨y, hy, rfl⟩ := getElem?_map' hx
  rw [hv] at hy; cases hy
  exact rep_ofValue1 _

theorem places_run {cfg : Cfg} (hc : CfgTy cfg) : ∀ (fs : List Field) {ps : List (Nat × Nat)}, placesOf cfg (fs.map fun f => (f.offset, f.type)) = some ps →
    (fs.mapM (fun f => do pure (f.offset, ← sizeOf f.type) : Field → Sem (Nat × Nat))).run cfg.P w = .ok ps w
  | [], ps, h => by simp [placesOf] at h; subst h; simp
  | f :: fs, ps, h => by
    simp only [List.map_cons, placesOf] at h
    split at h
    · rename_i n ps' hn hps
      cases h
      obtain ⟨ti, hti, rfl⟩ := hc.sz hn
      have ih := places_run hc fs hps
      simp only [List.mapM_cons, Sem.run_bind, run_sizeOf hti, Result.andThen_ok, Sem.run_pure, ih]
    · cases h

theorem build_sound {cfg : Cfg} (hc : CfgTy cfg) {t : TypeId} {parts : Array (Nat × Operand)} {x : Operand → AV} {ρ : Operand → Value} (hx : ∀ a, Rep C μ (x a) (ρ a)) {nid : Option Nat} {ty : TypeId} {r : AV}
    (he : evOp cfg nid (.build t parts) ty x H = some (r, H')) : H' = H ∧ ∃ v, (Instr.build t (parts.map fun (i, x) => (i, ρ x))).run cfg.P w = .ok v w ∧ Rep C μ r v := by
  simp only [evOp] at he
  split at he
  · rename_i ti hti
    split at he
    · rename_i hall
      have ht := hc.ty _ _ hti
      obtain ⟨i, u, z, e1, e2, e3, e4⟩ := tiOf_spec ht
      obtain ⟨z', hz1, hz2⟩ := run_zeroValue ht w
      have hzc := zero_cells (C := C) (μ := μ) hz2 hall
      obtain ⟨p1, p2⟩ := parts_rep hx parts
      split at he
      · rename_i fs hfs
        split at he
        · rename_i ps hps
          obtain ⟨cs, hcs, hcs2⟩ := Option.map_eq_some_iff.1 he
          cases hcs2
          have hd : tdOf u = .struct fs := by rw [e4] at hfs; exact hfs
          obtain ⟨flds, rfl, rfl⟩ := td_struct hd
          obtain ⟨vs', g1, g2⟩ := aFill_sound hcs hzc p1 p2
          refine ⟨rfl, .agg vs', ?_, ?_⟩
          · have hpl := places_run (w := w) hc flds.toList hps
            have hpl' : (flds.mapM (fun f => do pure (f.offset, ← sizeOf f.type) : Field → Sem (Nat × Nat))).run cfg.P w = .ok ps.toArray w := by
              rw [Array.mapM_eq_mapM_toList]
              simp only [Sem.run_map, hpl, Result.andThen_ok]
            simp only [Instr.build, Sem.run_bind, hz1, Result.andThen_ok, run_underlying e2, hpl']
            have : (fun (x : Nat) => ps.toArray[x]?) = fun (i : Nat) => ps[i]? := by funext k; simp
            rw [this, show z'.cells = z'.cells.toList.toArray by simp, g1]
            simp
          · have g3 := g2.fgs cfg t
            have := Rep.agg (C := C) (μ := μ) (cfg.fgs t cs) vs'.toList g3.1 (fun i a v h1 h2 => (g3.2 i a v h1 h2).2)
            simpa using this
        · cases he
      · rename_i n e hfs
        split at he
        · rename_i sz hsz
          obtain ⟨cs, hcs, hcs2⟩ := Option.map_eq_some_iff.1 he
          cases hcs2
          have hd : tdOf u = .array n e := by rw [e4] at hfs; exact hfs
          have := td_array hd; subst this
          obtain ⟨te, hte, rfl⟩ := hc.sz hsz
          obtain ⟨vs', g1, g2⟩ := aFill_sound hcs hzc p1 p2
          refine ⟨rfl, .agg vs', ?_, ?_⟩
          · simp only [Instr.build, Sem.run_bind, hz1, Result.andThen_ok, run_underlying e2, run_sizeOf hte]
            rw [show z'.cells = z'.cells.toList.toArray by simp, g1]
            simp
          · have := Rep.agg (C := C) (μ := μ) cs vs'.toList g2.1 (fun i a v h1 h2 => (g2.2 i a v h1 h2).2)
            simpa using this
        · cases he
      · cases he
    · cases he
  · cases he

/-! ### rows of zeros, rows put into rows -/
theorem FlatRep.get {n : Nat} {rows : List (List AV)} {vs : List Value} (h : FlatRep C μ n rows vs) (i : Nat) (row : List AV) (hi : rows[i]? = some row) : row.length = n ∧ ∀ (j : Nat) x, row[j]? = some x → x.isCell = true ∧ ∃ v, vs[i * n + j]? = some v ∧ Rep C μ x v := h.2 i row hi

theorem FlatRep.one_row {n : Nat} {cs : List AV} {vs : List Value} (hn : cs.length = n) (h : CellsRep C μ cs vs) : FlatRep C μ n [cs] vs := by
  refine ⟨by rw [← h.1, hn]; simp, fun i row hi => ?_⟩
  cases i with
  | zero =>
    simp at hi; subst hi
    refine ⟨hn, fun j x hj => ?_⟩
    have hjl : j < vs.length := by rw [← h.1]; exact (List.getElem?_eq_some_iff.1 hj).1
    obtain ⟨e1, e2⟩ := h.2 j x _ hj (List.getElem?_eq_getElem hjl)
    exact ⟨e1, vs[j], by simp [hjl], e2⟩
  | succ i => simp at hi

theorem FlatRep.drop {n : Nat} {rows : List (List AV)} {vs : List Value} (h : FlatRep C μ n rows vs) (k : Nat) : FlatRep C μ n (rows.drop k) (vs.drop (k * n)) := by
  refine ⟨by rw [List.length_drop, List.length_drop, h.1, Nat.sub_mul], fun i row hi => ?_⟩
  rw [List.getElem?_drop] at hi
  refine ⟨(h.2 _ row hi).1, fun j x hj => ?_⟩
  obtain ⟨e1, v, e2, e3⟩ := (h.2 _ row hi).2 j x hj
  refine ⟨e1, v, ?_, e3⟩
  rw [List.getElem?_drop, ← e2, Nat.add_mul]
  congr 1; omega

theorem zeros_flat {ti : TI} {z : Value} (hz : ti.zero = z.cells.toList.map ofValue1) (hr : rowZero ti = true) (len : Nat) : FlatRep C μ ti.sz (List.replicate len ti.zero) ((Array.range (len * ti.sz)).map (z.cells[· % z.cells.size]!)).toList := by
  simp only [rowZero, Bool.and_eq_true, Nat.blt_eq] at hr
  obtain ⟨⟨h0, hl⟩, ha⟩ := hr
  have hl := Nat.eq_of_beq_eq_true hl
  have hzc := zero_cells (C := C) (μ := μ) hz ha
  have hzs : z.cells.size = ti.sz := by rw [hz] at hl; simpa using hl
  refine ⟨by simp, fun i row hi => ?_⟩
  have hil : i < len := by simpa using (List.getElem?_eq_some_iff.1 hi).1
  rw [List.getElem?_replicate, if_pos hil] at hi
  cases hi
  refine ⟨hl, fun j x hj => ?_⟩
  have hjl : j < ti.sz := by rw [← hl]; exact (List.getElem?_eq_some_iff.1 hj).1
  have hjz : j < z.cells.size := by omega
  obtain ⟨e1, e2⟩ := hzc.2 j x z.cells[j] hj (by simp [hjz])
  refine ⟨e1, z.cells[j], ?_, e2⟩
  have hlt : i * ti.sz + j < len * ti.sz := by
    have : (i + 1) * ti.sz ≤ len * ti.sz := Nat.mul_le_mul_right _ hil
    rw [Nat.add_mul] at this; omega
  have hmod : (i * ti.sz + j) % z.cells.size = j := by rw [hzs, Nat.mul_comm, Nat.mul_add_mod, Nat.mod_eq_of_lt hjl]
  simp [hlt, hmod, hjz]

theorem aRows_sound {n : Nat} : ∀ {parts : List (Nat × AV)} {vparts : List (Nat × Value)} {rows rows' : List (List AV)} {vs : List Value}, aRows n rows parts = some rows' → FlatRep C μ n rows vs →
    parts.length = vparts.length → (∀ (i : Nat) p q, parts[i]? = some p → vparts[i]? = some q → p.1 = q.1 ∧ Rep C μ p.2 q.2) → ∃ vs' : Array Value, Instr.fill (fun i => some (i * n, n)) vs.toArray vparts = some vs' ∧ FlatRep C μ n rows' vs'.toList
  | [], vparts, rows, rows', vs, h, hc, hl, hp => by
    have : vparts = [] := List.eq_nil_of_length_eq_zero (by simpa using hl.symm)
    subst this
    simp [aRows] at h
    subst h
    exact ⟨vs.toArray, rfl, by simpa using hc⟩
  | (i, x) :: rest, vparts, rows, rows', vs, h, hc, hl, hp => by
    cases vparts with
    | nil => simp at hl
    | cons q vrest =>
      obtain ⟨hq1, hq2⟩ := hp 0 (i, x) q rfl rfl
      obtain ⟨j, v⟩ := q
      simp only at hq1 hq2
      subst hq1
      rw [aRows] at h
      split at h
      · rename_i cs hcs
        split at h
        · rename_i hcond
          simp only [Bool.and_eq_true, beq_iff_eq, Nat.blt_eq] at hcond
          obtain ⟨ws, e1, e2, e3, e4⟩ := hq2.cells hcs
          have hmul : i * n + n ≤ rows.length * n := by
            have : (i + 1) * n ≤ rows.length * n := Nat.mul_le_mul_right _ hcond.2
            rw [Nat.add_mul] at this; omega
          have hfit : i * n + ws.length ≤ vs.toArray.size := by have := hc.1; simp; omega
          have hfold := fold_cells (i * n) v ws e1 vs.toArray hfit
          have hset : rows.set i cs = rows.take i ++ [cs] ++ rows.drop (i + 1) := by
            rw [List.set_eq_take_append_cons_drop, if_pos hcond.2]; simp
          have hfl : FlatRep C μ n (rows.set i cs) (vs.take (i * n) ++ ws ++ vs.drop (i * n + ws.length)) := by
            rw [hset]
            refine ((hc.take i).append (FlatRep.one_row hcond.1 ⟨e2, e4⟩)).append ?_
            have := hc.drop (i + 1)
            rw [Nat.add_mul] at this
            rw [show i * n + ws.length = i * n + 1 * n by omega]
            exact this
          obtain ⟨vs', g1, g2⟩ := aRows_sound h hfl (by simpa using hl) (fun k p q hk hk' => hp (k + 1) p q (by simpa using hk) (by simpa using hk'))
          refine ⟨vs', ?_, g2⟩
          rw [Instr.fill]
          simp only
          have hsz : v.cells.size = n := by rw [e1]; simp; omega
          have hsz2 : ¬ (v.cells.size ≠ n || decide (i * n + v.cells.size > vs.toArray.size)) = true := by
            rw [hsz]; simp; have := hc.1; omega
          rw [if_neg (by simpa using hsz2)]
          have : v.cells.zipIdx.foldl (fun cs (c, j) => cs.setIfInBounds (i * n + j) c) vs.toArray = (vs.take (i * n) ++ ws ++ vs.drop (i * n + ws.length)).toArray := by
            apply Array.ext'
            rw [hfold]
          rw [this]; exact g1
        · cases h
      · cases h
end Go.Av
