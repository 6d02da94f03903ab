/-
  Parts of the proof of CodeKnownUptoCardSaid, put together: the abstract evaluation and its contracts. Own work.
  What is proved: each lemma as it stands; no condition.
-/
import Derived.Test.YtnjonahoheopnaaGreatDoorZCodeKnownM1
open List renaming getElem?_eq_some_iff → qiM, getElem?_eq_getElem → qiS, getElem?_set → qiT, getElem?_append_left → qiU, getElem?_append_right → qiV, mem_of_getElem? → qiZ, replicate → qi0, mem_append → qi2, mem_cons → qi4
open Option renaming map_eq_some_iff → qiN, bind_eq_some_iff → qiO, bind_some → qi1
open Bool renaming and_eq_true → qiP, false_eq_true → qiW
open Nat renaming eq_of_beq_eq_true → qiQ, le_refl → qiR, mul_le_mul_right → qiX, beq → qiY, blt_eq → qi3
set_option maxRecDepth 1000000
set_option maxHeartbeats 0
section
namespace Go.Av
variable {C C' : qa} {μ μ' : MMap} {H H' : AH} {w w' : World} {P : Program}
theorem qeG (off : Nat) : ∀ (l : List Value) (k : Nat) (arr : Array Value), off + k + l.length ≤ arr.size →
  ((l.zipIdx k).foldl (fun cs (p : Value × Nat) => cs.setIfInBounds (off + p.2) p.1) arr).toList = arr.toList.take (off + k) ++ l ++ arr.toList.drop (off + k + l.length)
 | [], k, arr, _ => by simp
 | v :: rest, k, arr, h => by
  simp only [List.zipIdx_cons, List.foldl_cons]
  have ih := qeG off rest (k + 1) (arr.setIfInBounds (off + k) v) (by simp at h ⊢; omega)
  rw [show off + (k + 1) = off + k + 1 by omega] at ih
  rw [ih, Array.toList_setIfInBounds]
  have := list_seg_step arr.toList (off + k) v rest (by simp at h ⊢; omega)
  simpa [Nat.add_assoc] using this
theorem qcD (off : Nat) (v : Value) (vs : List Value) (hv : v.cells = vs.toArray) (arr : Array Value) (h : off + vs.length ≤ arr.size) :
  (v.cells.zipIdx.foldl (fun cs (c, j) => cs.setIfInBounds (off + j) c) arr).toList = arr.toList.take off ++ vs ++ arr.toList.drop (off + vs.length) := by
 rw [hv, ← Array.foldl_toList]
 have := qeG off vs 0 arr (by simpa using h)
 simpa using this
def qY [Lent] (C : qa) (μ : MMap) (cs : List AV) (vs : List Value) : Prop := cs.length = vs.length ∧ ∀ (i : Nat) x v, cs[i]? = some x → vs[i]? = some v → x.isCell = true ∧ Rep C μ x v
theorem Rep.fg1 [Lent] {a : AV} {v : Value} (h : Rep C μ a v) : Rep C μ a.fg1 v := by
 cases h with
 | nilS => exact .slNil
 | int k n => exact .int k n
 | bool b => exact .bool b
 | str s => exact .str s
 | agg cs vs hl ih => exact .agg cs vs hl ih
 | tup cs vs hl ih => exact .tup cs vs hl ih
 | slNil => exact .slNil
 | em a cap => exact .sl [] a cap 0 (fun _ _ => undef) (fun h => absurd rfl h) (fun i row h => by simp at h) (fun i j row x h => by simp at h) (fun i j row x h => by simp at h) (fun i j row x h => by simp at h) (Nat.zero_le _) rfl
 | sl rows a cap sz vals h1 h2 h3 h4 h5 h6 h7 => exact .sl rows a cap sz vals h1 h2 h3 h4 h5 h6 h7
 | ms id off len cap a m h1 h2 h3 => exact .ms id off len cap a m h1 h2 h3
 | msN id off => exact .msN id off
 | nilP => exact .nilP
 | ptr id row off m hm => exact .ptr id row off m hm
 | cptr cells off b o vals h1 h2 => exact .cptr cells off b o vals h1 h2
 | fn f first caps vf vc h1 h2 h3 h4 => exact .fn f first caps vf vc h1 h2 h3 h4
 | yld id m hm => exact .yld id m hm
 | nilF => exact .nilF
 | nilM => exact .nilM
 | mp id m hm => exact .mp id m hm
 | nilI => exact .nilI
 | ifc t a v h => exact .ifc t a v h
 | lsl rows v h => exact .lsl rows v h
 | lpt cells off b o vals h1 h2 => exact .lpt cells off b o vals h1 h2
 | rsl id rows v D h1 h2 => exact .rsl id rows v D h1 h2
 | rpt id cells off b o vals m h1 h2 h3 => exact .rpt id cells off b o vals m h1 h2 h3
 | alt l i a v h1 h2 => exact .alt l i a v h1 h2
 | wr n a ad c hn h1 =>
  cases a with
  | sl rows => exact h1.takeW hn
  | _ => exact .wr n _ ad c hn h1
 | junk v => exact .junk v
theorem qgm {a : AV} (h : a.isCell = true) : a.fg1.isCell = true := by
 cases a <;> simp_all [AV.fg1, AV.isCell]
theorem qY.fgs [Lent] {cs : List AV} {vs : List Value} (h : qY C μ cs vs) (cfg : Cfg) (t : TypeId) : qY C μ (cfg.fgs t cs) vs := by
 unfold Cfg.fgs
 split
 ·refine ⟨by simpa using h.1, fun i x v hx hv => ?_⟩
  obtain ⟨y, hy, rfl⟩ := qb hx
  exact ⟨qgm (h.2 i y v hy hv).1, (h.2 i y v hy hv).2.fg1⟩
 ·exact h
theorem qY.fga [Lent] {cs : List AV} {vs : List Value} (h : qY C μ cs vs) (cfg : Cfg) (t : TypeId) : qY C μ (cfg.fga t cs) vs := by
 unfold Cfg.fga
 split
 ·exact h
 ·exact h.fgs cfg t
theorem qgr (cfg : Cfg) (t : TypeId) (cs : List AV) : (cfg.fga t cs).length = cs.length := by
 unfold Cfg.fga Cfg.fgs; split
 ·rfl
 ·split <;> simp
theorem qf3 {α β : Type} {R : α → β → Prop} {a a' : List α} {b b' : List β} {off : Nat} (hl : a.length = b.length) (h : ∀ (i : Nat) x y, a[i]? = some x → b[i]? = some y → R x y) (hl' : a'.length = b'.length)
  (h' : ∀ (i : Nat) x y, a'[i]? = some x → b'[i]? = some y → R x y) (hf : off + a'.length ≤ a.length) :
  (a.take off ++ a' ++ a.drop (off + a'.length)).length = (b.take off ++ b' ++ b.drop (off + b'.length)).length ∧
   ∀ (i : Nat) x y, (a.take off ++ a' ++ a.drop (off + a'.length))[i]? = some x → (b.take off ++ b' ++ b.drop (off + b'.length))[i]? = some y → R x y := by
 refine ⟨by simp; omega, fun i x y hx hy => ?_⟩
 by_cases h1 : i < off
 ·rw [qiU (by simp; omega), qiU (by simp; omega), List.getElem?_take, if_pos h1] at hx hy
  exact h i x y hx hy
 ·by_cases h2 : i < off + a'.length
  ·rw [qiU (by simp; omega), qiV (by simp; omega)] at hx hy
   simp only [List.length_take] at hx hy
   rw [show i - min off a.length = i - off by omega] at hx
   rw [show i - min off b.length = i - off by omega] at hy
   exact h' _ x y hx hy
  ·rw [qiV (by simp; omega)] at hx hy
   simp only [List.length_append, List.length_take] at hx hy
   rw [List.getElem?_drop, show off + a'.length + (i - (min off a.length + a'.length)) = i by omega] at hx
   rw [List.getElem?_drop, show off + b'.length + (i - (min off b.length + b'.length)) = i by omega] at hy
   exact h i x y hx hy
theorem zK [Lent] {place : Nat → Option (Nat × Nat)} : ∀ {parts : List (Nat × AV)} {vparts : List (Nat × Value)} {cells cells' : List AV} {vs : List Value}, zx place cells parts = some cells' → qY C μ cells vs →
  parts.length = vparts.length → (∀ (i : Nat) p q, parts[i]? = some p → vparts[i]? = some q → p.1 = q.1 ∧ Rep C μ p.2 q.2) → ∃ vs' : Array Value, Instr.fill place vs.toArray vparts = some vs' ∧ qY C μ cells' vs'.toList
 | [], vparts, cells, cells', vs, h, hc, hl, hp => by
  have : vparts = [] := List.eq_nil_of_length_eq_zero (by simpa using hl.symm)
  subst this
  simp [zx] at h
  subst h
  exact ⟨vs.toArray, rfl, by simpa using hc⟩
 | (i, x) :: rest, vparts, cells, cells', vs, h, hc, hl, hp => by
  cases vparts with
  | nil => simp at hl
  | cons q vrest =>
   obtain ⟨hq1, hq2⟩ := hp 0 (i, x) q rfl rfl
   obtain ⟨j, v⟩ := q
   simp only at hq1 hq2
   subst hq1
   rw [zx] at h
   split at h
   ·rename_i off size cs hpl hcs
    split at h
    ·rename_i hcond
     simp only [qiP, beq_iff_eq, Nat.ble_eq] at hcond
     obtain ⟨ws, e1, e2, e3, e4⟩ := hq2.cells hcs
     have hfit : off + ws.length ≤ vs.toArray.size := by have := hc.1; simp; omega
     have hfold := qcD off v ws e1 vs.toArray hfit
     obtain ⟨s1, s2⟩ := qf3 (R := fun x y => x.isCell = true ∧ Rep C μ x y) (off := off) hc.1 hc.2 e2 e4 (by omega)
     have hcr : qY C μ (cells.take off ++ cs ++ cells.drop (off + size)) (vs.take off ++ ws ++ vs.drop (off + ws.length)) := by
      rw [← hcond.1]; exact ⟨s1, s2⟩
     obtain ⟨vs', g1, g2⟩ := zK h hcr (by simpa using hl) (fun k p q hk hk' => hp (k + 1) p q (by simpa using hk) (by simpa using hk'))
     refine ⟨vs', ?_, g2⟩
     rw [Instr.fill, hpl]
     simp only
     have hsz : v.cells.size = size := by rw [e1]; simp; omega
     have hsz2 : ¬ (v.cells.size ≠ size || decide (off + v.cells.size > vs.toArray.size)) = true := by
      rw [hsz]; simp; have := hc.1; omega
     rw [if_neg (by simpa using hsz2)]
     have : v.cells.zipIdx.foldl (fun cs (c, j) => cs.setIfInBounds (off + j) c) vs.toArray = (vs.take off ++ ws ++ vs.drop (off + ws.length)).toArray := by
      apply Array.ext'
      rw [hfold]
     rw [this]; exact g1
    ·cases h
   ·cases h
theorem qdC [Lent] {x : Operand → AV} {ρ : Operand → Value} (hx : ∀ a, Rep C μ (x a) (ρ a)) (parts : Array (Nat × Operand)) :
  (parts.toList.map fun p => (p.1, x p.2)).length = (parts.map fun (i, x) => (i, ρ x)).toList.length ∧
   ∀ (i : Nat) p q, (parts.toList.map fun p => (p.1, x p.2))[i]? = some p → (parts.map fun (i, x) => (i, ρ x)).toList[i]? = some q → p.1 = q.1 ∧ Rep C μ p.2 q.2 := by
 refine ⟨by simp, fun i p q hp hq => ?_⟩
 obtain ⟨o, ho, rfl⟩ := qb hp
 rw [Array.toList_map] at hq
 obtain ⟨o', ho', rfl⟩ := qb hq
 rw [ho] at ho'; cases ho'
 exact ⟨rfl, hx _⟩
theorem yA [Lent] {ti : TI} {z : Value} (hz : ti.zero = z.cells.toList.map qx) (ha : qQ ti.zero = true) : qY C μ ti.zero z.cells.toList := by
 rw [qa9] at ha
 refine ⟨by rw [hz]; simp, fun i x v hx hv => ⟨ha i x hx, ?_⟩⟩
 rw [hz] at hx
 obtain ⟨y, hy, rfl⟩ := qb hx
 rw [hv] at hy; cases hy
 exact xW _
theorem qcp {cfg : Cfg} (hc : CfgTy cfg) : ∀ (fs : List Field) {ps : List (Nat × Nat)}, yd cfg (fs.map fun f => (f.offset, f.type)) = some ps →
  (fs.mapM (fun f => do pure (f.offset, ← sizeOf f.type) : Field → Sem (Nat × Nat))).run cfg.P w = .ok ps w
 | [], ps, h => by simp [yd] at h; subst h; simp
 | f :: fs, ps, h => by
  simp only [List.map_cons, yd] at h
  split at h
  ·rename_i n ps' hn hps
   cases h
   obtain ⟨ti, hti, rfl⟩ := hc.sz hn
   have ih := qcp hc fs hps
   simp only [List.mapM_cons, Sem.run_bind, qe hti, Result.andThen_ok, Sem.run_pure, ih]
  ·cases h
theorem qfE [Lent] {cfg : Cfg} (hc : CfgTy cfg) {t : TypeId} {parts : Array (Nat × Operand)} {x : Operand → AV} {ρ : Operand → Value} (hx : ∀ a, Rep C μ (x a) (ρ a)) {nid : Option Nat} {ty : TypeId} {r : AV}
  (he : evOp cfg nid (.build t parts) ty x H = some (r, H')) : H' = H ∧ ∃ v, (Instr.build t (parts.map fun (i, x) => (i, ρ x))).run cfg.P w = .ok v w ∧ Rep C μ r v := by
 simp only [evOp] at he
 split at he
 ·rename_i ti hti
  split at he
  ·rename_i hall
   have ht := hc.ty _ _ hti
   obtain ⟨i, u, z, e1, e2, e3, e4⟩ := xc ht
   obtain ⟨z', hz1, hz2⟩ := xF ht w
   have hzc := yA (C := C) (μ := μ) hz2 hall
   obtain ⟨p1, p2⟩ := qdC hx parts
   split at he
   ·rename_i fs hfs
    split at he
    ·rename_i ps hps
     obtain ⟨cs, hcs, hcs2⟩ := qiN.1 he
     cases hcs2
     have hd : tdOf u = .struct fs := by rw [e4] at hfs; exact hfs
     obtain ⟨flds, rfl, rfl⟩ := qaG hd
     obtain ⟨vs', g1, g2⟩ := zK hcs hzc p1 p2
     refine ⟨rfl, .agg vs', ?_, ?_⟩
     ·have hpl := qcp (w := w) hc flds.toList hps
      have hpl' : (flds.mapM (fun f => do pure (f.offset, ← sizeOf f.type) : Field → Sem (Nat × Nat))).run cfg.P w = .ok ps.toArray w := by
       rw [Array.mapM_eq_mapM_toList]
       simp only [Sem.run_map, hpl, Result.andThen_ok]
      simp only [Instr.build, Sem.run_bind, hz1, Result.andThen_ok, run_underlying e2, hpl']
      have : (fun (x : Nat) => ps.toArray[x]?) = fun (i : Nat) => ps[i]? := by funext k; simp
      rw [this, show z'.cells = z'.cells.toList.toArray by simp, g1]
      simp
     ·have g3 := g2.fga cfg t
      have := Rep.agg (C := C) (μ := μ) (cfg.fga t cs) vs'.toList g3.1 (fun i a v h1 h2 => (g3.2 i a v h1 h2).2)
      simpa using this
    ·cases he
   ·rename_i n e hfs
    split at he
    ·rename_i sz hsz
     obtain ⟨cs, hcs, hcs2⟩ := qiN.1 he
     cases hcs2
     have hd : tdOf u = .array n e := by rw [e4] at hfs; exact hfs
     have := yZ hd; subst this
     obtain ⟨te, hte, rfl⟩ := hc.sz hsz
     obtain ⟨vs', g1, g2⟩ := zK hcs hzc p1 p2
     refine ⟨rfl, .agg vs', ?_, ?_⟩
     ·simp only [Instr.build, Sem.run_bind, hz1, Result.andThen_ok, run_underlying e2, qe hte]
      rw [show z'.cells = z'.cells.toList.toArray by simp, g1]
      simp
     ·have := Rep.agg (C := C) (μ := μ) cs vs'.toList g2.1 (fun i a v h1 h2 => (g2.2 i a v h1 h2).2)
      simpa using this
    ·cases he
   ·cases he
  ·cases he
 ·cases he
theorem qh.get [Lent] {n : Nat} {rows : List (List AV)} {vs : List Value} (h : qh C μ n rows vs) (i : Nat) (row : List AV) (hi : rows[i]? = some row) : row.length = n ∧ ∀ (j : Nat) x, row[j]? = some x → x.isCell = true ∧ ∃ v, vs[i * n + j]? = some v ∧ Rep C μ x v := h.2 i row hi
theorem qh.one_row [Lent] {n : Nat} {cs : List AV} {vs : List Value} (hn : cs.length = n) (h : qY C μ cs vs) : qh C μ n [cs] vs := by
 refine ⟨by rw [← h.1, hn]; simp, fun i row hi => ?_⟩
 cases i with
 | zero =>
  simp at hi; subst hi
  refine ⟨hn, fun j x hj => ?_⟩
  have hjl : j < vs.length := by rw [← h.1]; exact (qiM.1 hj).1
  obtain ⟨e1, e2⟩ := h.2 j x _ hj (qiS hjl)
  exact ⟨e1, vs[j], by simp [hjl], e2⟩
 | succ i => simp at hi
theorem qh.drop [Lent] {n : Nat} {rows : List (List AV)} {vs : List Value} (h : qh C μ n rows vs) (k : Nat) : qh C μ n (rows.drop k) (vs.drop (k * n)) := by
 refine ⟨by rw [List.length_drop, List.length_drop, h.1, Nat.sub_mul], fun i row hi => ?_⟩
 rw [List.getElem?_drop] at hi
 refine ⟨(h.2 _ row hi).1, fun j x hj => ?_⟩
 obtain ⟨e1, v, e2, e3⟩ := (h.2 _ row hi).2 j x hj
 refine ⟨e1, v, ?_, e3⟩
 rw [List.getElem?_drop, ← e2, Nat.add_mul]
 congr 1; omega
theorem qae [Lent] {ti : TI} {z : Value} (hz : ti.zero = z.cells.toList.map qx) (hr : xQ ti = true) (len : Nat) : qh C μ ti.sz (qi0 len ti.zero) ((Array.range (len * ti.sz)).map (z.cells[· % z.cells.size]!)).toList := by
 simp only [xQ, qiP, qi3] at hr
 obtain ⟨⟨h0, hl⟩, ha⟩ := hr
 have hl := qiQ hl
 have hzc := yA (C := C) (μ := μ) hz ha
 have hzs : z.cells.size = ti.sz := by rw [hz] at hl; simpa using hl
 refine ⟨by simp, fun i row hi => ?_⟩
 have hil : i < len := by simpa using (qiM.1 hi).1
 rw [List.getElem?_replicate, if_pos hil] at hi
 cases hi
 refine ⟨hl, fun j x hj => ?_⟩
 have hjl : j < ti.sz := by rw [← hl]; exact (qiM.1 hj).1
 have hjz : j < z.cells.size := by omega
 obtain ⟨e1, e2⟩ := hzc.2 j x z.cells[j] hj (by simp [hjz])
 refine ⟨e1, z.cells[j], ?_, e2⟩
 have hlt : i * ti.sz + j < len * ti.sz := by
  have : (i + 1) * ti.sz ≤ len * ti.sz := qiX _ hil
  rw [Nat.add_mul] at this; omega
 have hmod : (i * ti.sz + j) % z.cells.size = j := by rw [hzs, Nat.mul_comm, Nat.mul_add_mod, Nat.mod_eq_of_lt hjl]
 simp [hlt, hmod, hjz]
theorem qbG [Lent] {n : Nat} : ∀ {parts : List (Nat × AV)} {vparts : List (Nat × Value)} {rows rows' : List (List AV)} {vs : List Value}, yJ n rows parts = some rows' → qh C μ n rows vs →
  parts.length = vparts.length → (∀ (i : Nat) p q, parts[i]? = some p → vparts[i]? = some q → p.1 = q.1 ∧ Rep C μ p.2 q.2) → ∃ vs' : Array Value, Instr.fill (fun i => some (i * n, n)) vs.toArray vparts = some vs' ∧ qh C μ n rows' vs'.toList
 | [], vparts, rows, rows', vs, h, hc, hl, hp => by
  have : vparts = [] := List.eq_nil_of_length_eq_zero (by simpa using hl.symm)
  subst this
  simp [yJ] at h
  subst h
  exact ⟨vs.toArray, rfl, by simpa using hc⟩
 | (i, x) :: rest, vparts, rows, rows', vs, h, hc, hl, hp => by
  cases vparts with
  | nil => simp at hl
  | cons q vrest =>
   obtain ⟨hq1, hq2⟩ := hp 0 (i, x) q rfl rfl
   obtain ⟨j, v⟩ := q
   simp only at hq1 hq2
   subst hq1
   rw [yJ] at h
   split at h
   ·rename_i cs hcs
    split at h
    ·rename_i hcond
     simp only [qiP, beq_iff_eq, qi3] at hcond
     obtain ⟨ws, e1, e2, e3, e4⟩ := hq2.cells hcs
     have hmul : i * n + n ≤ rows.length * n := by
      have : (i + 1) * n ≤ rows.length * n := qiX _ hcond.2
      rw [Nat.add_mul] at this; omega
     have hfit : i * n + ws.length ≤ vs.toArray.size := by have := hc.1; simp; omega
     have hfold := qcD (i * n) v ws e1 vs.toArray hfit
     have hset : rows.set i cs = rows.take i ++ [cs] ++ rows.drop (i + 1) := by
      rw [List.set_eq_take_append_cons_drop, if_pos hcond.2]; simp
     have hfl : qh C μ n (rows.set i cs) (vs.take (i * n) ++ ws ++ vs.drop (i * n + ws.length)) := by
      rw [hset]
      refine ((hc.take i).append (qh.one_row hcond.1 ⟨e2, e4⟩)).append ?_
      have := hc.drop (i + 1)
      rw [Nat.add_mul] at this
      rw [show i * n + ws.length = i * n + 1 * n by omega]
      exact this
     obtain ⟨vs', g1, g2⟩ := qbG h hfl (by simpa using hl) (fun k p q hk hk' => hp (k + 1) p q (by simpa using hk) (by simpa using hk'))
     refine ⟨vs', ?_, g2⟩
     rw [Instr.fill]
     simp only
     have hsz : v.cells.size = n := by rw [e1]; simp; omega
     have hsz2 : ¬ (v.cells.size ≠ n || decide (i * n + v.cells.size > vs.toArray.size)) = true := by
      rw [hsz]; simp; have := hc.1; omega
     rw [if_neg (by simpa using hsz2)]
     have : v.cells.zipIdx.foldl (fun cs (c, j) => cs.setIfInBounds (i * n + j) c) vs.toArray = (vs.take (i * n) ++ ws ++ vs.drop (i * n + ws.length)).toArray := by
      apply Array.ext'
      rw [hfold]
     rw [this]; exact g1
    ·cases h
   ·cases h
variable {C C' : qa} {μ μ' : MMap} {H H' : AH} {w w' : World} {P : Program}
theorem y0 {ti : TI} (h : xQ ti = true) : 0 < ti.sz ∧ ti.zero.length = ti.sz ∧ qQ ti.zero = true := by
 simp only [xQ, qiP, qi3] at h
 exact ⟨h.1.1, qiQ h.1.2, h.2⟩
theorem qdy [Lent] (h : Wld C μ H w) {d : Bool} (d' : Bool) {id off : Nat} {sz : Nat} {rs news : List (List AV)} {vs : List Value} {m : MI} (hid : H[id]? = some (.rows d sz rs)) (hm : μ id = some m) (hf : qh C μ sz news vs) (hfit : off + news.length ≤ rs.length) (hfr : d' = true → d = true ∧ qf 0 news = true) :
  (storeCells ⟨m.block, m.base + off * sz, none⟩ vs).run P w = .ok () (w.setCells m.block (m.base + off * sz) vs) ∧
   Wld C μ (H.set id (.rows d' sz (rs.take off ++ news ++ rs.drop (off + news.length)))) (w.setCells m.block (m.base + off * sz) vs) ∧
   (∀ k, k ≤ H.length → Ext k C μ H w C μ (H.set id (.rows d' sz (rs.take off ++ news ++ rs.drop (off + news.length)))) (w.setCells m.block (m.base + off * sz) vs)) := by
 obtain ⟨hlt, hcl, hsz, hle, hrows, hcells⟩ := h.liveM hid rfl hm
 have hmul : off * sz + news.length * sz ≤ rs.length * sz := by rw [← Nat.add_mul]; exact qiX _ hfit
 have hvl := hf.1
 have hc0 : ∀ j, j < vs.length → (w.cell? ⟨m.block, m.base + off * sz + 0 + j, none⟩).isSome = true ∧ w.frozen? ⟨m.block, m.base + off * sz + 0 + j, none⟩ = false := by
  intro j hj
  have := hcells (off * sz + j) (by omega)
  unfold qo at this
  rwa [show m.base + (off * sz + j) = m.base + off * sz + 0 + j by omega] at this
 have hrun := run_storeCells_cells (P := P) m.block (m.base + off * sz) vs 0 w (fun j hj => (hc0 j hj).1) (fun j hj => (hc0 j hj).2) hf.one
 simp only [Nat.add_zero] at hrun hc0
 obtain ⟨s1, s2, s3, s4, s5⟩ := vV m.block vs (m.base + off * sz) w
 have hb : qw C μ (w.setCells m.block (m.base + off * sz) vs) m (.rows d' sz (rs.take off ++ news ++ rs.drop (off + news.length))) := by
  refine ⟨hsz, ?_, fun i row hi => ?_, fun o ho => ?_⟩
  ·have : (rs.take off ++ news ++ rs.drop (off + news.length)).length = rs.length := by simp; omega
   rw [this]; exact hle
  ·by_cases h1 : i < off
   ·rw [qiU (by simp; omega), qiU (by simp; omega), List.getElem?_take, if_pos h1] at hi
    refine ⟨(hrows i row hi).1, fun j x hj => ?_⟩
    obtain ⟨c1, v, c2, c3⟩ := (hrows i row hi).2 j x hj
    refine ⟨c1, v, ?_, c3⟩
    have hj' : j < sz := by rw [← (hrows i row hi).1]; exact (qiM.1 hj).1
    have h2 : (i + 1) * sz ≤ off * sz := qiX _ h1
    rw [Nat.add_mul] at h2
    unfold qo at c2 ⊢
    rw [World.cell?_setCells_out]
    ·exact c2
    ·intro _ _; left; simp; omega
   ·by_cases h2 : i < off + news.length
    ·rw [qiU (by simp; omega), qiV (by simp; omega)] at hi
     simp only [List.length_take] at hi
     rw [show i - min off rs.length = i - off by omega] at hi
     refine ⟨(hf.2 _ row hi).1, fun j x hj => ?_⟩
     obtain ⟨c1, v, c2, c3⟩ := (hf.2 _ row hi).2 j x hj
     refine ⟨c1, v, ?_, c3⟩
     have hjl : (i - off) * sz + j < vs.length := (qiM.1 c2).1
     have := World.cell?_setCells_in m.block vs (m.base + off * sz) w (fun j hj => (hc0 j hj).1) _ hjl
     unfold qo
     have h3 : off * sz ≤ i * sz := qiX _ (by omega)
     have e1 : some vs[(i - off) * sz + j] = some v := by rw [← qiS hjl]; exact c2
     have e2 : m.base + off * sz + ((i - off) * sz + j) = m.base + (i * sz + j) := by rw [Nat.sub_mul]; omega
     rw [e2, e1] at this
     exact this
    ·rw [qiV (by simp; omega)] at hi
     simp only [List.length_append, List.length_take] at hi
     rw [List.getElem?_drop, show off + news.length + (i - (min off rs.length + news.length)) = i by omega] at hi
     refine ⟨(hrows i row hi).1, fun j x hj => ?_⟩
     obtain ⟨c1, v, c2, c3⟩ := (hrows i row hi).2 j x hj
     refine ⟨c1, v, ?_, c3⟩
     have h3 : (off + news.length) * sz ≤ i * sz := qiX _ (by omega)
     rw [Nat.add_mul] at h3
     unfold qo at c2 ⊢
     rw [World.cell?_setCells_out]
     ·exact c2
     ·intro _ _; right; simp; omega
  ·refine ⟨?_, by rw [World.frozen?_setCells]; exact (hcells o ho).2⟩
   unfold qo
   by_cases hr' : off * sz ≤ o ∧ o < off * sz + vs.length
   ·have := World.cell?_setCells_in m.block vs (m.base + off * sz) w (fun j hj => (hc0 j hj).1) (o - off * sz) (by omega)
    rw [show m.base + off * sz + (o - off * sz) = m.base + o by omega] at this
    rw [this]; rfl
   ·rw [World.cell?_setCells_out]
    ·exact (hcells o ho).1
    ·intro _ _; simp; omega
 exact ⟨hrun, h.setBlk hid rfl rfl hm s1 s2 hb (fun hd => zB (zB (ve (h.free.get hid (hfr hd).1)) (hfr hd).2) (xg (h.free.get hid (hfr hd).1))), fun k hk => Ext.setBlk h hid rfl hm s1 s2 s3 s4 s5 hk⟩
theorem qfK [Lent] {cfg : Cfg} (hc : CfgTy cfg) (h : Wld C μ H w) {t xt ty : TypeId} {d s r : AV} {vd vs : Value} (he : qd1 cfg t d s H = some (r, H')) (hd : Rep C μ d vd) (hs : Rep C μ s vs) :
  Runs cfg.P (Builtin.copy_ #[t, xt] ty #[vd, vs]) C μ H w r H' := by
 unfold qd1 at he
 split at he
 case h_2 => cases he
 rename_i e id off len ht
 split at he
 case h_2 => cases he
 rename_i n d sz rs hn hid
 split at he
 case h_2 => cases he
 rename_i news hsrc
 split at he
 case isFalse => cases he
 rename_i hcn
 simp only [qiP, Nat.ble_eq, qi3] at hcn
 obtain ⟨⟨hsz, hle⟩, h0⟩ := hcn
 have hsz := qiQ hsz
 subst hsz
 cases he
 obtain ⟨tt, u, _, _, hu, hdd⟩ := hc.td ht
 have := qp hdd; subst this
 obtain ⟨te, hte, rfl⟩ := hc.sz hn
 cases hd with
 | msN _ _ =>
  obtain ⟨nv, hb1, hb2⟩ := qcW (P := cfg.P) h h0 hs hsrc
  obtain ⟨hb3, hb4⟩ := hb2 w rfl
  have hf0 : (Builtin.firstCells te.sz 0 vs).run cfg.P w = .ok #[] w := by
   unfold vI at hsrc
   split at hsrc
   ·split at hsrc
    ·cases hs; simp [Builtin.firstCells]
    ·cases hsrc
   ·obtain ⟨a', cap', sv, rfl, _⟩ := yp (P := cfg.P) h h0 hs hsrc
    cases a' <;> simp [Builtin.firstCells, loadCells, loadCellsFrom]
  have hH : H.set id (.rows (d && q8 H s) te.sz (rs.take off ++ news.take 0 ++ rs.drop (off + (news.take 0).length))) = H.set id (.rows (d && q8 H s) te.sz rs) := by simp
  refine ⟨goInt (Nat.min news.length 0), w, C, μ, ?_, by simpa [goInt] using Rep.int (C := C) (μ := μ) .i64 0, ?_, ?_⟩
  ·unfold Builtin.copy_
   simp [run_underlying hu, hb3, qe hte, hf0]
  ·rw [hH]; exact h.weaken hid (fun hd => by rw [qiP] at hd; exact hd.1)
  ·rw [hH]; exact h.weakenX hid _ (qiR _)
 | ms _ _ _ cap a m hm hl ha =>
  -- what is copied, read whole; of it the part that goes over
  have hread : ∃ nv : List Value, qh C μ te.sz (news.take len) nv ∧ (Builtin.lenOf vs).run cfg.P w = .ok news.length w ∧ (Builtin.firstCells te.sz (Nat.min news.length len) vs).run cfg.P w = .ok nv.toArray w := by
   unfold vI at hsrc
   split at hsrc
   ·rename_i b
    split at hsrc
    ·rename_i h1
     have h1' := qiQ h1
     cases hsrc; cases hs
     refine ⟨(b.map fun b => Value.int .u8 b.toNat).take len, ?_, by simp [Builtin.lenOf, xh, ByteArray.size], ?_⟩
     ·rw [h1']
      have := (yz (C := C) (μ := μ) b).take len
      simpa using this
     ·simp only [Builtin.firstCells, xh]
      have hx : ((⟨b.toArray⟩ : ByteArray).extract 0 (Nat.min b.length len)).data.toList = b.take len := by
       rw [Lib.extract_data]
       show List.take (Nat.min b.length len - 0) (List.drop 0 b) = _
       rw [List.drop_zero, Nat.sub_zero]
       rcases Nat.le_total b.length len with hh | hh
       ·rw [show Nat.min b.length len = b.length from Nat.min_eq_left hh, List.take_of_length_le (qiR _), List.take_of_length_le hh]
       ·rw [show Nat.min b.length len = len from Nat.min_eq_right hh]
      simp only [Sem.run_pure]
      congr 1
      apply Array.ext'
      rw [Array.toList_map, hx, List.map_take]
    ·cases hsrc
   ·obtain ⟨a', cap', sv, rfl, e2, e3, e4, e5, e6⟩ := yp (P := cfg.P) h h0 hs hsrc
    refine ⟨sv.take (len * te.sz), e3.take len, rfl, ?_⟩
    cases a' with
    | none =>
     have := e6 rfl
     subst this
     have hsv : sv = [] := by have := e3.1; simpa using this
     subst hsv
     simp [Builtin.firstCells]
    | some b =>
     have hmin : (sv.take (len * te.sz)).length = Nat.min news.length len * te.sz := by
      rw [List.length_take, e3.1, Nat.mul_min_mul_right, Nat.min_comm]
     have := run_loadCells_list (P := cfg.P) w b (sv.take (len * te.sz)) (fun k v hk => by
      rw [List.getElem?_take] at hk
      split at hk
      ·exact e5 b rfl k v hk
      ·cases hk)
     rw [hmin] at this
     simpa [Builtin.firstCells] using this
  obtain ⟨nv, f1, f2, f3⟩ := hread
  have hfit : off + (news.take len).length ≤ rs.length := by simp; omega
  obtain ⟨r1, r2, r3⟩ := qdy (P := cfg.P) h (d && q8 H s) hid hm f1 hfit (fun hd => by rw [qiP] at hd; exact ⟨hd.1, ve (qbK h hs hsrc hd.2)⟩)
  have hlen : (Builtin.lenOf vs).run cfg.P w = .ok news.length w := f2
  have base : (Builtin.copy_ #[t, xt] ty #[.slice (some a) len cap, vs]).run cfg.P w = ((storeCells a nv).run cfg.P w).andThen fun _ w' => .ok (goInt (Nat.min news.length len)) w' := by
   unfold Builtin.copy_
   simp only [List.getElem?_toArray, List.getElem?_cons_zero, List.getElem?_cons_succ, Sem.run_bind, run_underlying hu, Result.andThen_ok, hlen, qe hte, f3, Sem.run_pure]
  by_cases hz : cap = 0
  ·have hl0 : len = 0 := by omega
   subst hl0
   have hnv : nv = [] := by have := f1.1; simpa using this
   subst hnv
   refine ⟨goInt (Nat.min news.length 0), w, C, μ, by rw [base]; rfl, .int _ _, ?_, ?_⟩
   ·have := r2; simpa [World.setCells] using this
   ·have := r3 _ (qiR _); simpa [World.setCells] using this
  ·obtain ⟨rfl, _⟩ := ha hz
   have hms := qcV (id := id) (sz := te.sz) (rs := rs) h (by simp [qk, hid]) hm
   rw [← hms, r1, Result.andThen_ok] at base
   rw [← hms]
   exact ⟨goInt (Nat.min news.length len), _, C, μ, base, .int _ _, r2, r3 _ (qiR _)⟩
theorem qd3 (z : Array Value) (n : Nat) : Builtin.zeroCells z n = (Array.range (n * z.size)).map (z[· % z.size]!) := rfl
theorem xU {r : Nat} {es : Array MapEntry} {c : Nat} (h : w.heap[r]? = some (.map es c)) : (getObj r).run P w = .ok (.map es c) w := by simp [getObj, Sem.run, h]
theorem qan {r : Nat} {es : Array MapEntry} {c : Nat} (h : w.heap[r]? = some (.map es c)) (es' : Array MapEntry) (c' : Nat) : (setObj r (.map es' c')).run P w = .ok () (w.putObj r (.map es' c')) := by simp [setObj, Sem.run, h, World.putObj]
theorem qde [Lent] (h : Wld C μ H w) {id : Nat} {es : List (AV × AV)} {m : MI} (hi : H[id]? = some (.mp es)) (hm : μ id = some m) {es' : List (AV × AV)} {arr : Array MapEntry} {c : Nat} (hl : arr.size = es'.length)
  (hr : ∀ (i : Nat) e me, es'[i]? = some e → arr[i]? = some me → Rep C μ e.1 me.key ∧ Rep C μ e.2 me.val) :
  Wld C μ (H.set id (.mp es')) (w.putObj m.block (.map arr c)) ∧ ∀ k, k ≤ H.length → Ext k C μ H w C μ (H.set id (.mp es')) (w.putObj m.block (.map arr c)) := by
 obtain ⟨h1, _, _⟩ := h.liveM hi rfl hm
 exact ⟨h.setBlk hi rfl rfl hm (by simp) (fun b hb => World.putObj_heap_other hb) ⟨arr, c, World.putObj_heap_same h1, hl, hr⟩,
  fun k hk => Ext.setBlk h hi rfl hm (by simp) (fun b hb => World.putObj_heap_other hb) rfl rfl rfl hk⟩
theorem qe5 [Lent] {cfg : Cfg} (hc : CfgTy cfg) (h : Wld C μ H w) {t ty : TypeId} {x : AV} {vx : Value} (he : qc5 cfg t x H = some H') (hx : Rep C μ x vx) :
  Runs cfg.P (Builtin.clear_ #[t] ty #[vx]) C μ H w (.tup []) H' := by
 have hres : Rep C μ (.tup []) (.tuple #[]) := .tup [] [] rfl (fun i a v h => by simp at h)
 unfold qc5 at he
 split at he
 ·rename_i e e' ht
  cases he; cases hx
  obtain ⟨tt, u, _, _, hu, hdd⟩ := hc.td ht
  have := yo hdd; subst this
  exact Runs.pure' h ⟨.tuple #[], by simp [Builtin.clear_, run_underlying hu], hres⟩
 ·rename_i e e' id ht
  split at he
  case h_2 => cases he
  rename_i es hid
  cases he
  obtain ⟨tt, u, _, _, hu, hdd⟩ := hc.td ht
  have := yo hdd; subst this
  cases hx with
  | mp _ m hm =>
   obtain ⟨_, _, arr, c, h3, _, _⟩ := h.liveM hid rfl hm
   obtain ⟨g1, g2⟩ := qde h hid hm (es' := []) (arr := #[]) (c := c) rfl (fun i e me a1 _ => by simp at a1)
   refine ⟨.tuple #[], _, C, μ, ?_, hres, g1, g2 _ (qiR _)⟩
   simp [Builtin.clear_, run_underlying hu, xU h3, qan h3]
 ·rename_i e ht
  cases he; cases hx
  obtain ⟨tt, u, _, _, hu, hdd⟩ := hc.td ht
  have := qp hdd; subst this
  exact Runs.pure' h ⟨.tuple #[], by simp [Builtin.clear_, run_underlying hu], hres⟩
 ·rename_i e id off len ht
  split at he
  case h_2 => cases he
  rename_i ei d sz rs hei hid
  split at he
  case isFalse => cases he
  rename_i hcn
  simp only [qiP, Nat.ble_eq] at hcn
  obtain ⟨⟨hrz, hsz⟩, hle⟩ := hcn
  have hsz := qiQ hsz
  subst hsz
  cases he
  obtain ⟨tt, u, _, _, hu, hdd⟩ := hc.td ht
  have := qp hdd; subst this
  have hte := hc.ty _ _ hei
  obtain ⟨z, hz1, hz2⟩ := xF hte w
  obtain ⟨h0, hzl, hza⟩ := y0 hrz
  cases hx with
  | msN _ _ =>
   have hH : H.set id (.rows d ei.sz (rs.take off ++ qi0 0 ei.zero ++ rs.drop (off + 0))) = H.set id (.rows d ei.sz rs) := by simp
   refine ⟨.tuple #[], w, C, μ, by simp [Builtin.clear_, run_underlying hu], hres, ?_, ?_⟩
   ·rw [hH]; exact h.weaken hid (fun hd => hd)
   ·rw [hH]; exact h.weakenX hid _ (qiR _)
  | ms _ _ _ cap a m hm hl ha =>
   have hzf := qae (C := C) (μ := μ) hz2 hrz len
   obtain ⟨r1, r2, r3⟩ := qdy (P := cfg.P) (off := off) h d hid hm hzf (by simpa using hle) (fun hd => ⟨hd, qbx (by rw [hz2]; exact y3 0 _)⟩)
   simp only [List.length_replicate] at r2 r3
   have hzs : z.cells.size = ei.sz := by rw [hz2] at hzl; simpa using hzl
   by_cases hl0 : len = 0
   ·subst hl0
    refine ⟨.tuple #[], w, C, μ, by simp [Builtin.clear_, run_underlying hu], hres, ?_, ?_⟩
    ·simpa [World.setCells] using r2
    ·have := r3 _ (qiR _); simpa [World.setCells] using this
   ·obtain ⟨rfl, _⟩ := ha (by omega)
    have hms := qcV (id := id) (sz := ei.sz) (rs := rs) h (by simp [qk, hid]) hm
    rw [← hms]
    refine ⟨.tuple #[], _, C, μ, ?_, hres, r2, r3 _ (qiR _)⟩
    have hst : (storeCells ⟨m.block, m.base + off * ei.sz, none⟩ (Builtin.zeroCells z.cells len).toList).run cfg.P w = .ok () (w.setCells m.block (m.base + off * ei.sz) ((Array.range (len * ei.sz)).map (z.cells[· % z.cells.size]!)).toList) := by
     rw [qd3, hzs]
     rw [hzs] at r1
     exact r1
    obtain ⟨l', rfl⟩ := Nat.exists_eq_succ_of_ne_zero hl0
    unfold Builtin.clear_
    simp [Sem.run_bind, run_underlying hu, Result.andThen_ok, hz1, hst, -Array.toList_map]
 ·cases he
theorem qbb [Lent] {cfg : Cfg} (hc : CfgTy cfg) (h : Wld C μ H w) {nid : Option Nat} {t : TypeId} {l c r : AV} {vl vc : Value} (he : zw cfg nid t l c H = some (r, H')) (hl : Rep C μ l vl) (hcv : Rep C μ c vc) :
  ∃ v w' C' μ', (Instr.makeSlice t vl vc).run cfg.P w = .ok v w' ∧ Rep C' μ' r v ∧ Wld C' μ' H' w' ∧ Ext H.length C μ H w C' μ' H' w' ∧ ∀ k n k' n', l = .int k n → c = .int k' n' → ∃ ad, v = .slice ad n.toNat n'.toNat := by
 unfold zw at he
 split at he
 case h_2 => cases he
 rename_i e n cc ht
 split at he
 case h_2 => cases he
 rename_i ei hei
 split at he
 case isFalse => cases he
 rename_i hrz
 split at he
 case isFalse => cases he
 rename_i hb
 split at he
 case h_2 => cases he
 rename_i k H1 hnew
 cases he; cases hl; cases hcv
 obtain ⟨tt, u, _, _, hu, hdd⟩ := hc.td ht
 have := qp hdd; subst this
 have hte := hc.ty _ _ hei
 obtain ⟨i, ue, z, hi, _, hz, hie⟩ := xc hte
 have hby : ei.bytes = i.bytes := by rw [hie]
 have hz2 : ei.zero = z.cells.toList.map qx := by rw [hie]
 obtain ⟨h0, hzl, hza⟩ := y0 hrz
 have hzf := qae (C := C) (μ := μ) hz2 hrz cc.toNat
 have hg : Grew w (w.alloc (.cells ((Array.range (cc.toNat * ei.sz)).map (z.cells[· % z.cells.size]!)) e)) ((Array.range (cc.toNat * ei.sz)).map (z.cells[· % z.cells.size]!)) e := Grew.alloc _ _ _
 have hle : n.toNat * ei.sz ≤ cc.toNat * ei.sz := qiX _ (by omega)
 obtain ⟨g1, g2, g3⟩ := y9 h hg hnew (by simpa using hle) (fun j row hj => by
  have hjl : j < n.toNat := by simpa using (qiM.1 hj).1
  rw [List.getElem?_replicate, if_pos hjl] at hj
  have hj' : (qi0 cc.toNat ei.zero)[j]? = some row := by rw [List.getElem?_replicate, if_pos (by omega)]; exact hj
  refine ⟨(hzf.2 j row hj').1, fun q x hq => ?_⟩
  obtain ⟨c1, v, c2, c3⟩ := (hzf.2 j row hj').2 q x hq
  exact ⟨c1, v, by rw [← Array.getElem?_toList]; exact c2, c3⟩) (fun _ => qbx (by rw [hz2]; exact y3 0 _))
 refine ⟨_, _, C, _, ?_, .ms k 0 n.toNat cc.toNat ⟨w.heap.size, 0, none⟩ _ (by unfold upd; rw [if_pos rfl]) (by omega) (fun _ => ⟨by simp, by simp⟩), g1, g2 _ (qiR _), fun k n k' n' e1 e2 => by cases e1; cases e2; exact ⟨_, rfl⟩⟩
 have w1 : IntKind.i64.wrap n = n := by
  simp [IntKind.wrap, IntKind.bits, IntKind.signed]; omega
 have w2 : IntKind.i64.wrap cc = cc := by
  simp [IntKind.wrap, IntKind.bits, IntKind.signed]; omega
 have hb1 : ¬ ((decide (cc < 0) || decide ((i.bytes : Int) * cc > 2 ^ 48)) = true) := by
  have := hb.2.2.1
  rw [hby, Int.mul_comm] at this
  simp; omega
 have hb2 : ¬ (n < 0) := by omega
 have hb3 : ¬ (n > cc) := by omega
 have hno : ¬ ((decide (cc < 0) || decide ((i.bytes : Int) * cc > 2 ^ 48) || decide (n < 0) || decide (n > cc)) = true) := by
  simp at hb1 ⊢; omega
 unfold Instr.makeSlice
 simp only [Sem.run_bind, run_underlying hu, Result.andThen_ok, asInt, asIntOf, Sem.run_pure, vJ hi, w1, w2]
 rw [if_neg hno]
 have harr : (Array.range (cc.toNat * ei.sz)).map (fun x => (if cc.toNat * ei.sz = 0 then #[] else z.cells)[x % (if cc.toNat * ei.sz = 0 then (#[] : Array Value) else z.cells).size]!) = (Array.range (cc.toNat * ei.sz)).map (z.cells[· % z.cells.size]!) := by
  by_cases hc0 : cc.toNat * ei.sz = 0
  ·rw [hc0]; simp
  ·simp only [if_neg hc0]
 by_cases hc0 : cc.toNat * ei.sz = 0
 ·simp only [if_pos hc0] at harr
  simp only [Sem.run_bind, Sem.run_pure, Result.andThen_ok, run_askRoom, qe hte, if_pos hc0, newRow, run_newObj, World.alloc_eq, harr]
 ·simp only [Sem.run_bind, Sem.run_pure, Result.andThen_ok, run_askRoom, qe hte, if_neg hc0, zeroValue, vJ hi, hz, newRow, run_newObj, World.alloc_eq]
theorem qfI [Lent] {cfg : Cfg} (hc : CfgTy cfg) (h : Wld C μ H w) {nid : Option Nat} {t : TypeId} {l c r : AV} {vl vc : Value} (he : zw cfg nid t l c H = some (r, H')) (hl : Rep C μ l vl) (hcv : Rep C μ c vc) :
  Runs cfg.P (Instr.makeSlice t vl vc) C μ H w r H' :=
 let ⟨v, w', C', μ', h1, h2, h3, h4, _⟩ := qbb hc h he hl hcv
 ⟨v, w', C', μ', h1, h2, h3, h4⟩
theorem qe1 [Lent] {cfg : Cfg} (hc : CfgTy cfg) (h : Wld C μ H w) {nid : Option Nat} {t : TypeId} {l c r : AV} {vl vc : Value} (he : yv cfg nid t l c H = some (r, H')) (hl : Rep C μ l vl) (hcv : Rep C μ c vc) :
  Runs cfg.P (Instr.makeSlice t vl vc) C μ H w r H' := by
 unfold yv at he
 split at he
 ·exact qfI hc h he hl hcv
 ·split at he
  case h_2 => cases he
  rename_i k n k' n'
  split at he
  case isFalse => cases he
  rename_i hn
  rw [decide_eq_true_eq] at hn
  subst hn
  obtain ⟨q, hq, hw⟩ := qiO.1 he
  obtain ⟨v, w', C', μ', h1, h2, h3, h4, h5⟩ := qbb hc h hq hl hcv
  obtain ⟨ad, rfl⟩ := h5 k n k' n rfl rfl
  unfold qfZ at hw
  split at hw
  ·cases hw
   rename_i id off len
   have hlen : len = n.toNat := h2.lenW rfl
   subst hlen
   exact ⟨_, w', C', μ', h1, .wr _ _ ad _ (qiR _) h2, h3, h4⟩
  ·cases hw
variable {C C' : qa} {μ μ' : MMap} {H H' : AH} {w w' : World} {P : Program}
theorem Grew.bytes (w : World) (e : TypeId) (s : ByteArray) : Grew w (Lib.bytesWorld w e s) (Lib.bytesCells w e s) e :=
 ⟨rfl, rfl, rfl, Lib.bytesWorld_size w e s, fun b hb => Lib.bytesWorld_at_old w e s b hb, ⟨_, Lib.bytesWorld_at_new w e s, fun o ho h => by simp at h; omega⟩⟩
theorem qbW {r : List AV} {l : List (List AV)} {bs : List UInt8} (h : q7 (r :: l) = some bs) :
  ∃ n bs', r = [.int .u8 n] ∧ 0 ≤ n ∧ n < 256 ∧ q7 l = some bs' ∧ bs = UInt8.ofNat n.toNat :: bs' := by
 unfold q7 at h
 split at h
 ·rename_i hh; cases hh
 ·rename_i n l' hh
  cases hh
  split at h
  ·rename_i hb
   split at h
   ·rename_i bs' hbs
    cases h
    exact ⟨n, bs', rfl, hb.1, hb.2, hbs, rfl⟩
   ·cases h
  ·cases h
 ·cases h
theorem qcE [Lent] : ∀ {rows : List (List AV)} {bs : List UInt8} {vs : List Value}, q7 rows = some bs → qh C μ 1 rows vs →
  ∃ ns : List Int, vs = ns.map (Value.int .u8) ∧ ∀ r : ByteArray, ns.foldl (fun r n => r.push (UInt8.ofNat n.toNat)) r = ⟨r.data ++ bs.toArray⟩
 | [], bs, vs, h, hf => by
  simp [q7] at h; subst h
  have : vs = [] := List.eq_nil_of_length_eq_zero (by simpa using hf.1)
  subst this
  exact ⟨[], rfl, fun r => by simp⟩
 | r :: l, bs, vs, h, hf => by
  obtain ⟨n, bs', rfl, h0, h1, h2, rfl⟩ := qbW h
  obtain ⟨_, hr⟩ := hf.2 0 _ rfl
  obtain ⟨_, v, hv, hrep⟩ := hr 0 _ rfl
  cases hrep
  cases vs with
  | nil => simp at hv
  | cons v vs =>
   simp at hv; subst hv
   have hd := hf.drop 1
   simp at hd
   obtain ⟨ns, e1, e2⟩ := qcE h2 hd
   refine ⟨n :: ns, by simp [e1], fun r => ?_⟩
   simp only [List.foldl_cons, e2]
   simp [ByteArray.push]
theorem qdo [Lent] {cfg : Cfg} (hc : CfgTy cfg) (h : Wld C μ H w) {nid : Option Nat} {src dst : TypeId} {x r : AV} {vx : Value} (he : xl cfg nid src dst x H = some (r, H')) (hx : Rep C μ x vx) :
  Runs cfg.P (convert src dst vx) C μ H w r H' := by
 unfold xl at he
 split at he
 ·rename_i sd k k' n hs hd
  cases he; cases hx
  obtain ⟨_, us, _, _, hus, _⟩ := hc.td hs
  obtain ⟨_, ud, _, _, hud, hd'⟩ := hc.td hd
  have := qcb hd'; subst this
  exact Runs.pure' h ⟨.int k (k.wrap n), by simp [convert, run_underlying hus, run_underlying hud, Conv.intToInt], .int _ _⟩
 ·rename_i sd s hs hd
  cases he; cases hx
  obtain ⟨_, us, _, _, hus, _⟩ := hc.td hs
  obtain ⟨_, ud, _, _, hud, hd'⟩ := hc.td hd
  have := zN hd'; subst this
  exact Runs.pure' h ⟨_, by simp [convert, run_underlying hus, run_underlying hud], .str _⟩
 ·rename_i sd e s hs hd
  obtain ⟨_, us, _, _, hus, _⟩ := hc.td hs
  obtain ⟨_, ud, _, _, hud, hd'⟩ := hc.td hd
  have := qp hd'; subst this
  split at he
  case h_2 => cases he
  rename_i hte
  obtain ⟨_, ue, _, _, hue, he'⟩ := hc.td hte
  have := qcb he'; subst this
  split at he
  case h_2 => cases he
  rename_i k H1 hnew
  cases he; cases hx
  have hrun := Lib.run_convert_string_bytes w src dst e ⟨s.toArray⟩ hus hud hue
  have hsz : (⟨s.toArray⟩ : ByteArray).size = s.length := by simp [ByteArray.size]
  have hge : s.length ≤ grownCap w s.length 0 e := by unfold grownCap Question.cut; exact Nat.le_add_right _ _
  have hcs : (Lib.bytesCells w e ⟨s.toArray⟩).size = grownCap w s.length 0 e := by
   simp [Lib.bytesCells, hsz]; omega
  have hfl := yz (C := C) (μ := μ) s
  obtain ⟨g1, g2, g3⟩ := y9 h (Grew.bytes w e ⟨s.toArray⟩) hnew (by rw [hcs, xh]; omega) (fun i row hi' => ⟨(hfl.2 i row hi').1, fun j y hj => by
   obtain ⟨c1, v, c2, c3⟩ := (hfl.2 i row hi').2 j y hj
   refine ⟨c1, v, ?_, c3⟩
   have hlt := (qiM.1 c2).1
   unfold Lib.bytesCells
   rw [Array.getElem?_append_left (by simpa using hlt)]
   simpa using c2⟩) (fun _ => qaB s)
  rw [hsz] at hrun
  refine ⟨_, _, C, _, hrun, .ms k 0 s.length _ _ _ (by unfold upd; rw [if_pos rfl]) hge (fun _ => ⟨by simp, ?_⟩), g1, g2 _ (qiR _)⟩
  show (0 + grownCap w s.length 0 e) * 1 ≤ (Lib.bytesCells w e ⟨s.toArray⟩).size
  rw [hcs]; omega
 ·rename_i e hs hd _
  split at he
  case h_2 => cases he
  rename_i rows hte hrows
  split at he
  case h_2 => cases he
  rename_i bs hbs
  cases he
  obtain ⟨_, us, _, _, hus, hs'⟩ := hc.td hs
  have := qp hs'; subst this
  obtain ⟨_, ud, _, _, hud, hd'⟩ := hc.td hd
  have := zN hd'; subst this
  obtain ⟨_, ue, _, _, hue, he'⟩ := hc.td hte
  have := qcb he'; subst this
  obtain ⟨a, cap, vs, rfl, e2, e3, e4, _, e6⟩ := yp (P := cfg.P) h (n := 1) (by omega) hx hrows
  obtain ⟨ns, f1, f2⟩ := qcE hbs e3
  refine Runs.pure' h ⟨.string ⟨bs.toArray⟩, ?_, .str _⟩
  rw [run_convert_bytes_string w src dst e a rows.length cap hus hue hud]
  have hfc := e4 w rfl
  cases a with
  | none =>
   have : rows = [] := e6 rfl
   subst this
   simp [q7] at hbs; subst hbs
   simp [Conv.bytesToString]; rfl
  | some a =>
   have hl : (loadCells a rows.length).run cfg.P w = .ok (ns.map (Value.int .u8)).toArray w := by
    simp [Builtin.firstCells] at hfc
    rw [← f1]; exact hfc
   rw [run_bytesToString w a rows.length cap ns hl, f2]
   have he0 : ByteArray.empty.data = #[] := rfl
   rw [he0]; simp
 ·cases he
theorem qaT [Lent] (h : Wld C μ H w) {nid : Option Nat} {k : Nat} {t : TypeId} {v : Value} {d : Bool} {cs : List AV} {vs : List Value} (hd : d = true → qg 0 cs = true) (hv : v.cells = vs.toArray) (hcs : qY C μ cs vs)
  (hn : aNew nid H (.rows d cs.length [cs]) = some (k, H')) : Runs P (do pure (.pointer (some (← newVar t v)))) C μ H w (.ptr k 0 0) H' := by
 have hfl := qh.one_row rfl hcs
 have hg : Grew w (w.alloc (.cells vs.toArray t)) vs.toArray t := Grew.alloc _ _ _
 obtain ⟨g1, g2, g3⟩ := y9 h hg hn (by simp [hcs.1]) (fun i row hi' => ⟨(hfl.2 i row hi').1, fun j y hj => by
  obtain ⟨c1, v, c2, c3⟩ := (hfl.2 i row hi').2 j y hj
  exact ⟨c1, v, by simpa using c2, c3⟩⟩) (fun h => by simp [qf, hd h])
 refine ⟨_, _, C, _, ?_, .ptr k 0 0 (MI.mk4 w.heap.size 0 vs.toArray.size cs.length) (by unfold upd; rw [if_pos rfl]), g1, g2 _ (qiR _)⟩
 simp [newVar, newRow, hv]
theorem qaU [Lent] (h : Wld C μ H w) {nid : Option Nat} {k : Nat} {t e : TypeId} {v : Value} (hv : v.cells = #[.pointer none, .slice none 0 0])
  (hn : aNew nid H (.bld t e []) = some (k, H')) : Runs P (do pure (.pointer (some (← newVar t v)))) C μ H w (.ptr k 0 0) H' := by
 have hg : Grew w (w.alloc (.cells #[.pointer none, .slice none 0 0] t)) #[.pointer none, .slice none 0 0] t := Grew.alloc _ _ _
 have hnl : ¬ Live H μ w.heap.size := fun hl => Nat.lt_irrefl _ (h.live_lt hl)
 have hnc : ∀ o, C w.heap.size o = none := fun o => by
  cases hc : C w.heap.size o with
  | none => rfl
  | some v => exact absurd (h.block_lt hc) (Nat.lt_irrefl _)
 have hw' := h.world (w' := w.alloc (.cells #[.pointer none, .slice none 0 0] t)) (by rw [hg.size]; omega) (fun b hb => hg.old b hb)
 have hb : qw C (upd μ k (MI.mk4 w.heap.size 0 2 2)) (w.alloc (.cells #[.pointer none, .slice none 0 0] t)) (MI.mk4 w.heap.size 0 2 2) (.bld t e []) :=
  ⟨rfl, _, _, heap_alloc_new w _, .inl rfl, World.ownsRowF_nil _ 0 e 1, by simp [Value.ownBlock], fun _ => rfl, fun g hg => by simp [Value.ownBlock] at hg⟩
 obtain ⟨e1, e2, e3, e4, e5⟩ := hw'.new4 hn hnl (by rw [hg.size]; simp) hnc (h.lent_none (qiR _)) rfl hb trivial
 refine ⟨_, _, C, _, ?_, .ptr k 0 0 (MI.mk4 w.heap.size 0 2 2) (by unfold upd; rw [if_pos rfl]), e1, ⟨hg.os, hg.tape, hg.output, by rw [hg.size]; omega, fun _ _ _ h => h, fun id m' _ hm' => ⟨_, e2 id m' hm', .refl _⟩, fun b hb hnl => ⟨hg.old b hb, fun hl => ?_, rfl⟩, e3⟩⟩
 ·simp [newVar, newRow, hv]
 ·rcases e4 b hl with h' | h'
  ·exact hnl h'
  ·omega
theorem qfH [Lent] {cfg : Cfg} (hc : CfgTy cfg) (h : Wld C μ H w) {nid : Option Nat} {t ty : TypeId} {x : Operand → AV} {r : AV} (he : evOp cfg nid (.alloc t) ty x H = some (r, H')) :
  Runs cfg.P (Instr.alloc t true (.tuple #[])) C μ H w r H' := by
 simp only [evOp] at he
 split at he
 case h_2 => cases he
 rename_i ti hti
 split at he
 case isFalse => cases he
 rename_i hall
 split at he
 case h_2 => cases he
 rename_i k H1 hnew
 cases he
 obtain ⟨z, hz1, hz2⟩ := xF (hc.ty _ _ hti) w
 by_cases hb : ∃ e, cfg.bld t = some e ∧ ti.zero = [.nilP, .nilS]
 ·obtain ⟨e, hb1, hb2⟩ := hb
  have hnew : aNew nid H (.bld t e []) = some (k, H') := by rw [← hnew]; unfold yj; rw [hb1, hb2]
  have hzc := yA (C := C) (μ := μ) hz2 hall
  rw [hb2] at hzc
  obtain ⟨c0, c1, hcs⟩ : ∃ c0 c1, z.cells.toList = [c0, c1] := by
   have := hzc.1
   match z.cells.toList, this with
   | [a, b], _ => exact ⟨a, b, rfl⟩
  rw [hcs] at hzc
  have r0 := (hzc.2 0 _ c0 rfl rfl).2
  have r1 := (hzc.2 1 _ c1 rfl rfl).2
  cases r0
  cases r1
  have hzv : z.cells = #[.pointer none, .slice none 0 0] := by rw [← Array.toList_inj, hcs]
  obtain ⟨v, w', C', μ', e1, e2, e3, e4⟩ := qaU (P := cfg.P) (t := t) (v := z) h hzv hnew
  refine ⟨v, w', C', μ', ?_, e2, e3, e4⟩
  simp only [Instr.alloc, Sem.run_bind, hz1, Result.andThen_ok]
  exact e1
 replace hnew : aNew nid H (.rows (bigZ (cfg.fga t ti.zero)) ti.zero.length [cfg.fga t ti.zero]) = some (k, H') := by
  rw [← hnew]; unfold yj
  split
  ·rename_i e h1 h2; exact absurd ⟨e, h1, h2⟩ hb
  ·rfl
 obtain ⟨v, w', C', μ', e1, e2, e3, e4⟩ := qaT (P := cfg.P) (t := t) (v := z) (vs := z.cells.toList) (d := bigZ (cfg.fga t ti.zero)) (cs := cfg.fga t ti.zero) h (fun h => by unfold bigZ at h; rw [qiP] at h; exact h.2) (by simp) ((yA hz2 hall).fga cfg t) (by rw [qgr]; exact hnew)
 refine ⟨v, w', C', μ', ?_, e2, e3, e4⟩
 simp only [Instr.alloc, Sem.run_bind, hz1, Result.andThen_ok]
 exact e1
theorem qhg [Lent] {cfg : Cfg} (h : Wld C μ H w) {nid : Option Nat} {t ty : TypeId} {a : Operand} {x : Operand → AV} {va : Value} {r : AV} (ha : Rep C μ (x a) va) (he : evOp cfg nid (.box t a) ty x H = some (r, H')) :
  Runs cfg.P (Instr.box t va) C μ H w r H' := by
 simp only [evOp] at he
 split at he
 case h_2 => cases he
 rename_i cs hcs
 split at he
 case h_2 => cases he
 rename_i k H1 hnew
 cases he
 obtain ⟨vs, e1, e2, e3, e4⟩ := ha.cells hcs
 by_cases hb : ∃ e, cfg.bld t = some e ∧ cs = [.nilP, .nilS]
 ·obtain ⟨e, hb1, rfl⟩ := hb
  have hnew : aNew nid H (.bld t e []) = some (k, H') := by rw [← hnew]; unfold qab; rw [hb1]
  obtain ⟨c0, c1, rfl⟩ : ∃ c0 c1, vs = [c0, c1] := by
   match vs, e2 with
   | [a, b], _ => exact ⟨a, b, rfl⟩
  have r0 := (e4 0 _ c0 rfl rfl).2
  have r1 := (e4 1 _ c1 rfl rfl).2
  cases r0
  cases r1
  exact qaU (P := cfg.P) (t := t) (v := va) h (by rw [e1]) hnew
 replace hnew : aNew nid H (.rows (bigZ cs) cs.length [cs]) = some (k, H') := by
  rw [← hnew]; unfold qab
  split
  ·rename_i e h1; exact absurd ⟨e, h1, rfl⟩ hb
  ·rfl
 exact qaT (P := cfg.P) (t := t) (v := va) (vs := vs) (d := bigZ cs) h (fun h => by unfold bigZ at h; rw [qiP] at h; exact h.2) e1 ⟨e2, e4⟩ hnew
theorem qbX [Lent] {cfg : Cfg} (hc : CfgTy cfg) (h : Wld C μ H w) {nid : Option Nat} {t ty : TypeId} {len : Nat} {parts : Array (Nat × Operand)} {x : Operand → AV} {ρ : Operand → Value} (hx : ∀ a, Rep C μ (x a) (ρ a)) {r : AV}
  (he : evOp cfg nid (.buildSlice t len parts) ty x H = some (r, H')) : Runs cfg.P (Instr.buildSlice t len (parts.map fun (i, x) => (i, ρ x))) C μ H w r H' := by
 simp only [evOp] at he
 split at he
 case h_2 => cases he
 rename_i e ht
 split at he
 case h_2 => cases he
 rename_i ei hei
 split at he
 case isFalse => cases he
 rename_i hcn
 simp only [qiP, Nat.ble_eq] at hcn
 obtain ⟨hrz, hle⟩ := hcn
 split at he
 case h_2 => cases he
 rename_i rows hrows
 split at he
 case h_2 => cases he
 rename_i k H1 hnew
 cases he
 obtain ⟨_, u, _, _, hu, hd⟩ := hc.td ht
 have := qp hd; subst this
 have hte := hc.ty _ _ hei
 obtain ⟨h0, hzl, hza⟩ := y0 hrz
 obtain ⟨z, hz1, hz2⟩ := xF hte w
 obtain ⟨p1, p2⟩ := qdC hx parts
 obtain ⟨vs', g1, g2⟩ := qbG hrows (qae (C := C) (μ := μ) hz2 hrz len) p1 p2
 have hrl : ∀ (parts : List (Nat × AV)) (r0 r1 : List (List AV)), yJ ei.sz r0 parts = some r1 → r1.length = r0.length := by
  intro parts
  induction parts with
  | nil => intro r0 r1 hh; simp [yJ] at hh; rw [hh]
  | cons p l ih =>
   intro r0 r1 hh
   rw [yJ] at hh
   split at hh
   ·split at hh
    ·rw [ih _ _ hh]; simp
    ·cases hh
   ·cases hh
 have hrl := hrl _ _ _ hrows
 simp only [List.length_replicate] at hrl
 have hg : Grew w (w.alloc (.cells vs' e)) vs' e := Grew.alloc _ _ _
 have hvs : vs'.size = rows.length * ei.sz := by simpa using g2.1
 obtain ⟨f1, f2, f3⟩ := y9 h hg hnew (by omega) (fun i row hi' => ⟨(g2.2 i row hi').1, fun j y hj => by
  obtain ⟨c1, v, c2, c3⟩ := (g2.2 i row hi').2 j y hj
  exact ⟨c1, v, by rw [← Array.getElem?_toList]; exact c2, c3⟩⟩) (fun h => h)
 refine ⟨_, _, C, _, ?_, .ms k 0 len len _ (MI.mk4 w.heap.size 0 vs'.size ei.sz) (by unfold upd; rw [if_pos rfl]) (qiR _) (fun _ => ⟨rfl, ?_⟩), f1, f2 _ (qiR _)⟩
 ·simp only [Instr.buildSlice, Sem.run_bind, run_underlying hu, Result.andThen_ok, qe hte]
  rw [if_neg (by omega)]
  rw [Array.toArray_toList] at g1
  by_cases hl0 : len * ei.sz = 0
  ·simp only [if_pos hl0, Sem.run_bind, Sem.run_pure, Result.andThen_ok]
   have hr0 : ∀ f : Nat → Value, (Array.range (len * ei.sz)).map f = #[] := fun f => by rw [hl0]; simp
   rw [hr0] at g1 ⊢
   rw [g1]
   simp [newRow]
  ·simp only [if_neg hl0, Sem.run_bind, Result.andThen_ok, hz1, Sem.run_pure]
   rw [g1]
   simp [newRow]
 ·show (0 + len) * ei.sz ≤ vs'.size
  rw [hvs, hrl]; simp
theorem qgC [Lent] {cfg : Cfg} (hc : CfgTy cfg) (h : Wld C μ H w) {t ty : TypeId} {x r : AV} {vx : Value} (he : aLen cfg t x H = some r) (hx : Rep C μ x vx) : ∃ v, (Builtin.len_ #[t] ty #[vx]).run cfg.P w = .ok v w ∧ Rep C μ r v := by
 unfold aLen at he
 split at he
 ·rename_i s ht
  cases he; cases hx
  obtain ⟨_, u, _, _, hu, hd⟩ := hc.td ht
  have := zN hd; subst this
  exact ⟨_, by simp [Builtin.len_, run_underlying hu]; rfl, by simpa [goInt, ByteArray.size] using Rep.int (C := C) (μ := μ) .i64 s.length⟩
 ·rename_i e ht
  cases he; cases hx
  obtain ⟨_, u, _, _, hu, hd⟩ := hc.td ht
  have := qp hd; subst this
  exact ⟨goInt 0, by simp [Builtin.len_, run_underlying hu], .int _ _⟩
 ·rename_i e ht
  cases he; cases hx
  obtain ⟨_, u, _, _, hu, hd⟩ := hc.td ht
  have := qp hd; subst this
  exact ⟨goInt 0, by simp [Builtin.len_, run_underlying hu], .int _ _⟩
 ·rename_i e rows ht
  obtain ⟨_, u, _, _, hu, hd⟩ := hc.td ht
  have := qp hd; subst this
  cases he; cases hx
  ·exact ⟨goInt rows.length, by simp [Builtin.len_, run_underlying hu], .int _ _⟩
  ·exact ⟨goInt 0, by simp [Builtin.len_, run_underlying hu], .int _ _⟩
 ·rename_i e id off len ht
  cases he
  obtain ⟨_, u, _, _, hu, hd⟩ := hc.td ht
  have := qp hd; subst this
  cases hx
  ·exact ⟨goInt len, by simp [Builtin.len_, run_underlying hu], .int _ _⟩
  ·exact ⟨goInt 0, by simp [Builtin.len_, run_underlying hu], .int _ _⟩
 ·rename_i e rows ht
  obtain ⟨_, u, _, _, hu, hd⟩ := hc.td ht
  have := qp hd; subst this
  cases he; cases hx with
  | lsl _ _ h0 =>
   cases h0
   ·exact ⟨goInt rows.length, by simp [Builtin.len_, run_underlying hu], .int _ _⟩
   ·exact ⟨goInt 0, by simp [Builtin.len_, run_underlying hu], .int _ _⟩
 ·rename_i e id rows ht
  obtain ⟨_, u, _, _, hu, hd⟩ := hc.td ht
  have := qp hd; subst this
  cases he; cases hx with
  | rsl _ _ _ D hD h0 =>
   cases h0
   ·exact ⟨goInt rows.length, by simp [Builtin.len_, run_underlying hu], .int _ _⟩
   ·exact ⟨goInt 0, by simp [Builtin.len_, run_underlying hu], .int _ _⟩
 ·rename_i n e ht
  cases he
  obtain ⟨_, u, _, _, hu, hd⟩ := hc.td ht
  have := yZ hd; subst this
  exact ⟨goInt n, by cases vx <;> simp [Builtin.len_, run_underlying hu], .int _ _⟩
 ·rename_i k e ht
  cases he; cases hx
  obtain ⟨_, u, _, _, hu, hd⟩ := hc.td ht
  have := yo hd; subst this
  exact ⟨goInt 0, by simp [Builtin.len_, run_underlying hu], .int _ _⟩
 ·rename_i k e id ht
  split at he
  case h_2 => cases he
  rename_i es hid
  cases he
  cases hx with
  | mp _ m hm =>
   obtain ⟨_, u, _, _, hu, hd⟩ := hc.td ht
   have := yo hd; subst this
   obtain ⟨_, _, arr, clock, h2, h3, _⟩ := h.liveM hid rfl hm
   refine ⟨goInt arr.size, ?_, by rw [h3]; exact .int _ _⟩
   simp [Builtin.len_, run_underlying hu, getObj, Sem.run, h2]
 ·cases he
theorem qgD [Lent] {cfg : Cfg} (hc : CfgTy cfg) {t ty : TypeId} {x r : AV} {vx : Value} (he : aCap cfg t x = some r) (hx : Rep C μ x vx) : ∃ v, (Builtin.cap_ #[t] ty #[vx]).run cfg.P w = .ok v w ∧ Rep C μ r v := by
 unfold aCap at he
 split at he
 ·rename_i e n v ht
  obtain ⟨c, hl, rfl⟩ := qiN.1 he
  obtain ⟨_, u, _, _, hu, hd⟩ := hc.td ht
  have := qp hd; subst this
  cases hx with
  | wr _ _ ad c' hn h0 =>
   obtain rfl := h0.lenW hl
   exact ⟨goInt c, by simp [Builtin.cap_, run_underlying hu], .int _ _⟩
 ·cases he
theorem qc1 [Lent] {lt : Int → Int → Bool} {f : Value → Value → Sem Value} (hf : ∀ (k k' : IntKind) (a b : Int), (f (.int k a) (.int k' b)).run P w = .ok (.int k (if lt b a then b else a)) w) {x y r : AV} {vx vy : Value}
  (he : aMin lt [x, y] = some r) (hx : Rep C μ x vx) (hy : Rep C μ y vy) : ∃ v, ([vy].foldlM f vx).run P w = .ok v w ∧ Rep C μ r v := by
 unfold aMin at he
 split at he
 ·rename_i k a k' b heq
  cases heq
  split at he
  ·cases he; cases hx; cases hy
   exact ⟨_, by simp [hf], .int _ _⟩
  ·cases he
 ·cases he
variable {C C' : qa} {μ μ' : MMap} {H H' : AH} {w w' : World} {P : Program}
theorem qgh {u : TypeDesc} {d : TD} (hd : tdOf u = d) (hk : d.keyed = true) : (∃ k, u = .int k ∧ d = .int k) ∨ (u = .string ∧ d = .str) := by
 cases u <;> simp_all [tdOf, TD.keyed] <;> (subst hd; simp at hk)
theorem qaL {kt : TypeId} {u : TypeDesc} {d : TD} (hu : P.underlying kt = some u) (hd : tdOf u = d) (hk : d.keyed = true) (b : Bool) (v : Value) : (Instr.checkKey b 10000 kt v).run P w = .ok () w := by
 rcases qgh hd hk with ⟨k, rfl, rfl⟩ | ⟨rfl, rfl⟩
 ·unfold Instr.checkKey
  simp [run_underlying hu]
 ·unfold Instr.checkKey
  simp [run_underlying hu]
theorem qbB [Lent] {u : TypeDesc} {d : TD} (hd : tdOf u = d) {k k' : AV} {v v' : Value} (hk : Rep C μ k v) (hk' : Rep C μ k' v') {b : Bool} (h : qgi d k k' = some b) :
  Instr.sameNow u v v' = some b ∧ (b = true → Instr.sameBits 10000 v' v = true) := by
 unfold qgi at h
 split at h
 ·rename_i ik a x b' y
  split at h
  ·rename_i e
   subst e
   cases h
   cases hk; cases hk'
   obtain rfl : u = .int ik := qcb hd
   refine ⟨by simp [Instr.sameNow], fun hb => ?_⟩
   have : x = y := by simpa using hb
   subst this
   simp [Instr.sameBits]
  ·cases h
 ·rename_i a b'
  cases h
  cases hk; cases hk'
  obtain rfl : u = .string := zN hd
  have e : ((⟨a.toArray⟩ : ByteArray) == ⟨b'.toArray⟩) = (a == b') := by
   show (a.toArray == b'.toArray) = (a == b')
   simp
  refine ⟨by simp only [Instr.sameNow, e], fun hb => ?_⟩
  have : a = b' := by simpa using hb
  subst this
  unfold Instr.sameBits
  show (a.toArray == a.toArray) = true
  simp
 ·cases h
def qbn [Lent] (C : qa) (μ : MMap) (es : List (AV × AV)) (arr : List MapEntry) : Prop := arr.length = es.length ∧ ∀ (i : Nat) e me, es[i]? = some e → arr[i]? = some me → Rep C μ e.1 me.key ∧ Rep C μ e.2 me.val
theorem vW [Lent] {u : TypeDesc} {d : TD} (hd : tdOf u = d) {k : AV} {v : Value} (hk : Rep C μ k v) : ∀ (es : List (AV × AV)) (arr : List MapEntry) (i : Nat) (r : Option (Nat × AV)), qbn C μ es arr → zV d k es i = some r →
  match r with
  | none => Instr.findNow u v arr i = some none
  | some (j, a) => ∃ (me : MapEntry), i ≤ j ∧ arr[j - i]? = some me ∧ Rep C μ a me.val ∧ Instr.findNow u v arr i = some (some (j, me.val)) ∧ Instr.sameBits 10000 me.key v = true
 | [], arr, i, r, he, h => by
  obtain rfl : arr = [] := List.length_eq_zero_iff.1 he.1
  cases h
  rfl
 | e :: es, [], i, r, he, h => by simp [qbn] at he
 | e :: es, me :: arr, i, r, he, h => by
  have h0 := he.2 0 e me rfl rfl
  have ht : qbn C μ es arr := ⟨by simpa using he.1, fun j e' me' h1 h2 => he.2 (j + 1) e' me' (by simpa using h1) (by simpa using h2)⟩
  rw [zV] at h
  split at h
  ·rename_i hki
   cases h
   obtain ⟨h1, h2⟩ := qbB hd hk h0.1 hki
   exact ⟨me, qiR _, by simp, h0.2, by simp [Instr.findNow, h1], h2 rfl⟩
  ·rename_i hki
   obtain ⟨h1, _⟩ := qbB hd hk h0.1 hki
   have := vW hd hk es arr (i + 1) r ht h
   cases r with
   | none =>
    show Instr.findNow u v (me :: arr) i = some none
    rw [Instr.findNow, h1]; exact this
   | some q =>
    obtain ⟨j, a⟩ := q
    obtain ⟨m', g1, g2, g3, g4, g5⟩ := this
    refine ⟨m', by omega, ?_, g3, ?_, g5⟩
    ·obtain ⟨c, hc⟩ : ∃ c, j - i = c + 1 := ⟨j - i - 1, by omega⟩
     rw [hc, List.getElem?_cons_succ]
     rw [show c = j - (i + 1) by omega]; exact g2
    ·rw [Instr.findNow, h1]; exact g4
  ·cases h
theorem qe7 [Lent] {cfg : Cfg} (hc : CfgTy cfg) {t : TypeId} {z : AV} (h : cfg.zeroV t = some z) : ∃ v, (∀ w, (zeroValue t).run cfg.P w = .ok v w) ∧ Rep C μ z v := by
 unfold Cfg.zeroV at h
 split at h
 case h_2 => cases h
 rename_i ti hti
 obtain ⟨v, h1, h2, h3⟩ := qhq (hc.ty _ _ hti)
 refine ⟨v, h1, ?_⟩
 split at h
 ·rename_i ha
  cases h
  rw [ha] at h3
  cases v with
  | agg cs =>
   have := qbw (C := C) (μ := μ) (.agg cs)
   rw [h2]; exact this
  | _ => simp [qaY] at h3
 ·rename_i ha
  have ha : qaY v = false := by rw [h3]; simpa using ha
  split at h
  ·rename_i hy
   cases h
   have hr := xW (C := C) (μ := μ) v
   have : qx v = z := by
    rw [hy] at h2
    cases v with
    | agg cs => simp [qaY] at ha
    | _ => simpa [Value.cells] using h2.symm
   rw [← this]; exact hr
  ·cases h
theorem qfq [Lent] (h : Wld C μ H w) {x : AV} {vx : Value} {es : List (AV × AV)} (he : qbj H x = some es) (hx : Rep C μ x vx) :
  (vx = .map none ∧ es = []) ∨ ∃ b arr clock, vx = .map (some b) ∧ w.heap[b]? = some (.map arr clock) ∧ qbn C μ es arr.toList := by
 unfold qbj at he
 split at he
 ·cases he; cases hx; exact .inl ⟨rfl, rfl⟩
 ·rename_i id
  split at he
  case h_2 => cases he
  rename_i es' hid
  cases he
  cases hx with
  | mp _ m hm =>
   obtain ⟨_, _, arr, clock, h1, h2, h3⟩ := h.liveM hid rfl hm
   exact .inr ⟨m.block, arr, clock, rfl, h1, by simpa using h2, fun i e me a1 a2 => h3 i e me a1 (by simpa using a2)⟩
 ·cases he
theorem qdO [Lent] {cfg : Cfg} (hc : CfgTy cfg) (h : Wld C μ H w) {t : TypeId} {x k r : AV} {ok : Bool} {vx vk : Value} (he : yU cfg t x k ok H = some r) (hx : Rep C μ x vx) (hk : Rep C μ k vk) :
  ∃ v, (Instr.lookup t vx vk ok).run cfg.P w = .ok v w ∧ Rep C μ r v := by
 unfold yU at he
 split at he
 case h_2 => cases he
 rename_i kt et ht
 split at he
 case h_2 => cases he
 rename_i d es hkd hes
 split at he
 case isFalse => cases he
 rename_i hkey
 obtain ⟨_, u, _, _, hu, hdd⟩ := hc.td ht
 have := yo hdd; subst this
 obtain ⟨_, uk, _, _, huk, hdk⟩ := hc.td hkd
 have tupR : ∀ {a : AV} {v : Value} (b : Bool), Rep C μ a v → Rep C μ (if ok then .tup [a, .bool b] else a) (if ok then .tuple #[v, .bool b] else v) := by
  intro a v b ha
  cases ok with
  | false => exact ha
  | true =>
   refine .tup [a, .bool b] [v, .bool b] rfl (fun i a' v' h1 h2 => ?_)
   match i, h1, h2 with
   | 0, h1, h2 => simp at h1 h2; subst h1 h2; exact ha
   | 1, h1, h2 => simp at h1 h2; subst h1 h2; exact .bool _
   | (i + 2), h1, h2 => simp at h1
 have key : ∀ (arr : Array MapEntry), qbn C μ es arr.toList →
   (∃ j u, Instr.findNow uk vk arr.toList 0 = some (some (j, u)) ∧ Rep C μ r (if ok then .tuple #[u, .bool true] else u)) ∨
   (Instr.findNow uk vk arr.toList 0 = some none ∧ ∃ u, (∀ w, (zeroValue et).run cfg.P w = .ok u w) ∧ Rep C μ r (if ok then .tuple #[u, .bool false] else u)) := by
  intro arr hr
  split at he
  ·rename_i q hq
   cases he
   have := vW hdk hk es arr.toList 0 _ hr hq
   obtain ⟨j, a⟩ := q
   obtain ⟨me, _, _, g3, g4, _⟩ := this
   exact .inl ⟨j, me.val, g4, tupR true g3⟩
  ·rename_i hq
   have := vW hdk hk es arr.toList 0 _ hr hq
   split at he
   case h_2 => cases he
   rename_i z hz
   cases he
   obtain ⟨vz, hz1, hz2⟩ := qe7 (C := C) (μ := μ) hc hz
   exact .inr ⟨this, vz, hz1, tupR false hz2⟩
  ·cases he
 have hck := fun b => qaL (w := w) huk hdk hkey b vk
 rcases qfq h hes hx with ⟨rfl, rfl⟩ | ⟨b, arr, clock, rfl, hb, hr⟩
 ·rcases key #[] ⟨rfl, fun i e me a1 _ => by simp at a1⟩ with ⟨j, u, g1, g2⟩ | ⟨g1, u, g2, g3⟩
  ·exact ⟨_, by simp [Instr.findNow] at g1, g2⟩
  ·exact ⟨_, by simp [Instr.lookup, run_underlying hu, hck, Instr.findKey, run_underlying huk, Instr.findNow, g2], g3⟩
 ·rcases key arr hr with ⟨j, u, g1, g2⟩ | ⟨g1, u, g2, g3⟩
  ·exact ⟨_, by simp [Instr.lookup, run_underlying hu, xU hb, hck, Instr.findKey, run_underlying huk, g1], g2⟩
  ·exact ⟨_, by simp [Instr.lookup, run_underlying hu, xU hb, hck, Instr.findKey, run_underlying huk, g1, g2], g3⟩
theorem qaE [Lent] {cfg : Cfg} (hc : CfgTy cfg) (h : Wld C μ H w) {t : TypeId} {x k v : AV} {vx vk vv : Value} (he : qad cfg t x k v H = some H') (hx : Rep C μ x vx) (hk : Rep C μ k vk) (hv : Rep C μ v vv) :
  ∃ w', (Instr.mapUpdate t vx vk vv).run cfg.P w = .ok () w' ∧ Wld C μ H' w' ∧ ∀ j, j ≤ H.length → Ext j C μ H w C μ H' w' := by
 unfold qad at he
 split at he
 case h_2 => cases he
 rename_i kt et id ht
 split at he
 case h_2 => cases he
 rename_i d es hkd hid
 split at he
 case isFalse => cases he
 rename_i hkey
 obtain ⟨_, u, _, _, hu, hdd⟩ := hc.td ht
 have := yo hdd; subst this
 obtain ⟨_, uk, _, _, huk, hdk⟩ := hc.td hkd
 have hck := fun b => qaL (w := w) huk hdk hkey b vk
 cases hx with
 | mp _ m hm =>
  obtain ⟨_, _, arr, clock, h1, h2, h3⟩ := h.liveM hid rfl hm
  have hr : qbn C μ es arr.toList := ⟨by simpa using h2, fun i e me a1 a2 => h3 i e me a1 (by simpa using a2)⟩
  split at he
  ·rename_i q hq
   cases he
   have := vW hdk hk es arr.toList 0 _ hr hq
   obtain ⟨j, a⟩ := q
   obtain ⟨me, _, g2, g3, g4, g5⟩ := this
   have g2 : arr[j]? = some me := by simpa using g2
   obtain ⟨p1, p2⟩ := qde h hid hm (es' := es.set j (k, v)) (arr := arr.modify j fun e => { e with key := vk, val := vv }) (c := clock) (by simpa using h2) (fun i e me' a1 a2 => by
    rw [qiT] at a1
    rw [Array.getElem?_modify] at a2
    by_cases hij : j = i
    ·subst hij
     rw [if_pos rfl] at a1 a2
     rw [g2] at a2
     split at a1
     ·simp at a1 a2
      subst a1 a2
      exact ⟨hk, hv⟩
     ·cases a1
    ·rw [if_neg hij] at a1 a2
     exact h3 i e me' a1 a2)
   refine ⟨_, ?_, p1, p2⟩
   simp [Instr.mapUpdate, run_underlying hu, xU h1, hck, Instr.findKey, run_underlying huk, g4, g2, Instr.keyThatStays, g5, qan h1]
  ·rename_i hq
   cases he
   have := vW hdk hk es arr.toList 0 _ hr hq
   have this : Instr.findNow uk vk arr.toList 0 = some none := this
   obtain ⟨p1, p2⟩ := qde h hid hm (es' := es ++ [(k, v)]) (arr := arr.push { key := vk, val := vv, born := clock }) (c := clock + 1) (by simp [h2]) (fun i e me' a1 a2 => by
    rw [List.getElem?_append] at a1
    rw [Array.getElem?_push] at a2
    by_cases hi : i < es.length
    ·rw [if_pos hi] at a1
     rw [if_neg (by omega)] at a2
     exact h3 i e me' a1 a2
    ·rw [if_neg hi] at a1
     by_cases hi2 : i = arr.size
     ·rw [if_pos hi2] at a2
      subst hi2
      simp [h2] at a1 a2
      subst a1 a2
      exact ⟨hk, hv⟩
     ·rw [if_neg hi2] at a2
      have : i < arr.size := (Array.getElem?_eq_some_iff.1 a2).1
      omega)
   refine ⟨_, ?_, p1, p2⟩
   simp [Instr.mapUpdate, run_underlying hu, xU h1, hck, Instr.findKey, run_underlying huk, this, qan h1]
  ·cases he
theorem qdL [Lent] {cfg : Cfg} (hc : CfgTy cfg) (h : Wld C μ H w) {nid : Option Nat} {t ty : TypeId} {rv : Option Operand} {x : Operand → AV} {ρ : Operand → Value} (hx : ∀ a, Rep C μ (x a) (ρ a)) {r : AV} (he : evOp cfg nid (.makeMap t rv) ty x H = some (r, H')) :
  Runs cfg.P (Instr.makeMap t (rv.map ρ)) C μ H w r H' := by
 simp only [evOp] at he
 split at he
 case h_2 => cases he
 rename_i kt et b ht hb
 split at he
 case h_2 => cases he
 rename_i k H1 hnew
 cases he
 obtain ⟨_, u, _, _, hu, hdd⟩ := hc.td ht
 have := yo hdd; subst this
 have hrun : (Instr.makeMap t (rv.map ρ)).run cfg.P w = .ok (.map (some w.heap.size)) (w.alloc (.map #[] 0)) := by
  cases rv with
  | none => simp [Instr.makeMap]
  | some a =>
   have ha := hx a
   simp only at hb
   split at hb
   ·rename_i ik n hxa
    rw [hxa] at ha
    generalize hv : ρ a = va at ha
    cases ha
    simp [Instr.makeMap, run_underlying hu, hv, asInt, asIntOf]
   ·cases hb
 have hnl : ¬ Live H μ w.heap.size := fun hl => Nat.lt_irrefl _ (h.live_lt hl)
 have hnc : ∀ o, C w.heap.size o = none := fun o => by
  cases hc : C w.heap.size o with
  | none => rfl
  | some v => exact absurd (h.block_lt hc) (Nat.lt_irrefl _)
 have old : ∀ b, b < w.heap.size → (w.alloc (.map #[] 0)).heap[b]? = w.heap[b]? := fun b hb => by
  show (w.heap.push _)[b]? = _
  rw [Array.getElem?_push, if_neg (by omega)]
 have hsz : (w.alloc (.map #[] 0)).heap.size = w.heap.size + 1 := by simp
 have hw' : Wld C μ H (w.alloc (.map #[] 0)) := h.world (by rw [hsz]; omega) (fun b hb => old b hb)
 obtain ⟨e1, e2, e3, e4, e5⟩ := hw'.new4 (B := w.heap.size) (b0 := 0) (n0 := 0) (z0 := 0) hnew hnl (by rw [hsz]; simp) hnc (h.lent_none (qiR _)) rfl
  ⟨#[], 0, by show (w.heap.push _)[w.heap.size]? = _; simp, rfl, fun i e me a1 _ => by simp at a1⟩ trivial
 refine ⟨_, _, C, _, hrun, .mp k (MI.mk4 w.heap.size 0 0 0) (by unfold upd; rw [if_pos rfl]), e1, rfl, rfl, rfl, by rw [hsz]; omega, fun _ _ _ h => h, fun id m' _ hm' => ⟨_, e2 id m' hm', .refl _⟩, fun b hb hnl => ⟨old b hb, fun hl => ?_, rfl⟩, e3⟩
 rcases e4 b hl with hl | hl
 ·exact hnl hl
 ·omega
variable {C C' : qa} {μ μ' : MMap} {H H' : AH} {w w' : World} {P : Program}
def qic [Lent] (C : qa) (μ : MMap) (r : AV) (n : Next) : Prop := (∃ v, n = .value v ∧ Rep C μ r v) ∨ (n = .skip ∧ r = .junk)
def zy [Lent] (P : Program) (s : Sem Next) (C : qa) (μ : MMap) (H : AH) (w : World) (a : AV) (H' : AH) : Prop :=
 ∃ n w' C' μ', s.run P w = .ok n w' ∧ qic C' μ' a n ∧ Wld C' μ' H' w' ∧ Ext H.length C μ H w C' μ' H' w'
theorem Runs.v [Lent] {s : Sem Value} {a : AV} (h : Runs P s C μ H w a H') : zy P (do pure (.value (← s))) C μ H w a H' := by
 obtain ⟨v, w', C', μ', h1, h2, h3, h4⟩ := h
 exact ⟨.value v, w', C', μ', by simp [h1], .inl ⟨v, rfl, h2⟩, h3, h4⟩
theorem zy.pure' [Lent] (h : Wld C μ H w) {v : Value} {a : AV} (hr : Rep C μ a v) : zy P (pure (.value v)) C μ H w a H :=
 ⟨.value v, w, C, μ, by simp, .inl ⟨v, rfl, hr⟩, h, Ext.refl (qiR _)⟩
theorem Runs.opt [Lent] (h : Wld C μ H w) {s : Sem Value} {x : Option AV} {r : AV} (he : (x.map fun v => (v, H)) = some (r, H')) (hr : ∀ r, x = some r → ∃ v, s.run P w = .ok v w ∧ Rep C μ r v) : Runs P s C μ H w r H' := by
 obtain ⟨y, hy, hy2⟩ := qiN.1 he
 cases hy2
 exact Runs.pure' h (hr _ hy)
theorem qbO [Lent] {x : Operand → AV} {ρ : Operand → Value} (hx : ∀ a, Rep C μ (x a) (ρ a)) (l : List Operand) :
  ∀ (i : Nat) a v, (l.map x)[i]? = some a → (l.map ρ)[i]? = some v → Rep C μ a v := by
 intro i a v h1 h2
 obtain ⟨o, ho, rfl⟩ := qb h1
 obtain ⟨o', ho', rfl⟩ := qb h2
 rw [ho] at ho'; cases ho'
 exact hx _
theorem qdX {α : Type} {a : Array α} {x : α} (h : a.toList = [x]) : a = #[x] := by rw [← Array.toArray_toList (xs := a), h]
theorem qgg {α : Type} {a : Array α} {x y : α} (h : a.toList = [x, y]) : a = #[x, y] := by rw [← Array.toArray_toList (xs := a), h]
theorem map1 {α β : Type} {a : Array α} {x : α} (f : α → β) (h : a.toList = [x]) : a.map f = #[f x] := by rw [qdX h]; simp
theorem map2 {α β : Type} {a : Array α} {x y : α} (f : α → β) (h : a.toList = [x, y]) : a.map f = #[f x, f y] := by rw [qgg h]; simp
theorem qdN [Lent] {cfg : Cfg} (hc : CfgTy cfg) (h : Wld C μ H w) {nid : Option Nat} {c : Call} {ty : TypeId} {x : Operand → AV} {ρ : Operand → Value} (hx : ∀ a, Rep C μ (x a) (ρ a)) {r : AV}
  (he : evOp cfg nid (.call c) ty x H = some (r, H')) : zy cfg.P (do let d ← resolve ρ c ty; invoke d.target d.args) C μ H w r H' := by
 obtain ⟨callee, args, argTypes⟩ := c
 simp only [evOp] at he
 have go : ∀ b, callee = .builtin b → ∀ s : Sem Value, (∀ consts vs, vs = args.map ρ → builtin b argTypes ty consts vs = (do pure (.value (← s)))) → Runs cfg.P s C μ H w r H' →
   zy cfg.P (do let d ← resolve ρ ⟨callee, args, argTypes⟩ ty; invoke d.target d.args) C μ H w r H' := by
  intro b hb s hs hr
  subst hb
  have := hr.v
  obtain ⟨n, w', C', μ', h1, h2⟩ := this
  refine ⟨n, w', C', μ', ?_, h2⟩
  simp only [resolve, Sem.run_bind, Sem.run_pure, Result.andThen_ok, invoke]
  rw [hs _ _ rfl]
  exact h1
 split at he
 ·rename_i a t ha ht
  refine go _ rfl (Builtin.len_ argTypes ty (args.map ρ)) (fun consts vs hv => by subst hv; rfl) (Runs.opt h he fun r hr => ?_)
  rw [map1 _ ha, qdX ht]
  exact qgC hc h hr (hx a).unwr
 ·rename_i a t ha ht
  refine go _ rfl (Builtin.cap_ argTypes ty (args.map ρ)) (fun consts vs hv => by subst hv; rfl) (Runs.opt h he fun r hr => ?_)
  rw [map1 _ ha, qdX ht]
  exact qgD hc hr (hx a)
 ·rename_i s a t xt ha ht
  refine go _ rfl (Builtin.append_ argTypes ty (args.map ρ)) (fun consts vs hv => by subst hv; rfl) ?_
  rw [map2 _ ha, qgg ht]
  exact qdP hc h he (hx s) (hx a)
 ·rename_i d s t xt ha ht
  refine go _ rfl (Builtin.copy_ argTypes ty (args.map ρ)) (fun consts vs hv => by subst hv; rfl) ?_
  rw [map2 _ ha, qgg ht]
  exact qfK hc h he (hx d).unwr (hx s)
 ·rename_i a t ha ht
  obtain ⟨H1, h1, h2⟩ := qiN.1 he
  cases h2
  refine go _ rfl (Builtin.clear_ argTypes ty (args.map ρ)) (fun consts vs hv => by subst hv; rfl) ?_
  rw [map1 _ ha, qdX ht]
  exact qe5 hc h h1 (hx a)
 ·rename_i a b ha
  refine go _ rfl (Builtin.min_ argTypes ty (args.map ρ)) (fun consts vs hv => by subst hv; rfl) (Runs.opt h he fun r hr => ?_)
  have := qc1 (P := cfg.P) (w := w) (f := Builtin.min2) (fun k k' a b => by simp [Builtin.min2]) hr (hx a) (hx b)
  rw [map2 _ ha]
  exact this
 ·rename_i a b ha
  refine go _ rfl (Builtin.max_ argTypes ty (args.map ρ)) (fun consts vs hv => by subst hv; rfl) (Runs.opt h he fun r hr => ?_)
  have := qc1 (P := cfg.P) (w := w) (f := Builtin.max2) (fun k k' a b => by simp [Builtin.max2]) hr (hx a) (hx b)
  rw [map2 _ ha]
  exact this
 ·cases he
theorem qcK [Lent] {cfg : Cfg} (hc : CfgTy cfg) (h : Wld C μ H w) {nid : Option Nat} {o : Oper} {x : Operand → AV} {ρ : Operand → Value} (hx : ∀ a, Rep C μ (x a) (ρ a)) {r : AV} (he : evOp cfg nid o.op o.type x H = some (r, H')) :
  zy cfg.P (execOp ρ o) C μ H w r H' := by
 obtain ⟨dst, op, ty, pos, after, guard⟩ := o
 simp only at he
 cases op with
 | move a => simp only [evOp] at he; cases he; exact .pure' h (hx a)
 | assign a => simp only [evOp] at he; cases he; exact .pure' h (hx a)
 | pick c a b =>
  simp only [evOp] at he
  split at he
  case h_2 => cases he
  rename_i t ht
  have hcv := hx c
  rw [ht] at hcv
  generalize hv : ρ c = vc at hcv
  cases hcv
  cases t
  ·cases he
   refine ⟨.value (ρ b), w, C, μ, ?_, .inl ⟨_, rfl, hx b⟩, h, Ext.refl (qiR _)⟩
   simp only [execOp, hv]; simp [asBool]
  ·cases he
   refine ⟨.value (ρ a), w, C, μ, ?_, .inl ⟨_, rfl, hx a⟩, h, Ext.refl (qiR _)⟩
   simp only [execOp, hv]; simp [asBool]
 | alloc t => exact (qfH hc h he).v
 | box t a => exact (qhg h (hx a) he).v
 | build t parts =>
  obtain ⟨rfl, v, h1, h2⟩ := qfE (w := w) hc hx he
  exact (Runs.pure' h ⟨v, h1, h2⟩).v
 | buildSlice t len parts => exact (qbX hc h hx he).v
 | load t a =>
  simp only [evOp] at he
  split at he
  case h_2 => cases he
  rename_i ti hti
  refine (Runs.opt h he fun r hr => ?_).v
  obtain ⟨ad, u, h1, h2, h3⟩ := qcw h (hc.ty _ _ hti) (hx a) hr
  exact ⟨u, by rw [h1]; exact h2, h3⟩
 | store t a v =>
  simp only [evOp] at he
  split at he
  case h_2 => cases he
  rename_i n hn
  obtain ⟨H1, h1, h2⟩ := qiN.1 he
  cases h2
  obtain ⟨ti, hti, rfl⟩ := hc.sz hn
  obtain ⟨ad, w', e1, e2, e3, e4⟩ := qfe h hti (hx a) (hx v) h1
  refine ⟨.skip, w', C, μ, ?_, .inr ⟨rfl, rfl⟩, e3, e4 _ (qiR _)⟩
  have : (Instr.storeAt t (ρ a) (ρ v)).run cfg.P w = .ok () w' := by rw [e1]; exact e2
  simp [execOp, this]
 | nilCheck a =>
  simp only [evOp] at he
  have ha := hx a
  split at he
  ·rename_i id r off hxa; cases he
   rw [hxa] at ha
   generalize hv : ρ a = va at ha
   cases ha with | ptr _ _ _ m hm =>
    rw [show execOp ρ ⟨dst, .nilCheck a, ty, pos, after, guard⟩ = pure (.value (ρ a)) by simp only [execOp, hv], hv]
    exact .pure' h (.ptr _ _ _ m hm)
  ·rename_i cs off hxa; cases he
   rw [hxa] at ha
   generalize hv : ρ a = va at ha
   cases ha with | cptr _ _ b o vals h1 h2 =>
    rw [show execOp ρ ⟨dst, .nilCheck a, ty, pos, after, guard⟩ = pure (.value (ρ a)) by simp only [execOp, hv], hv]
    exact .pure' h (.cptr _ _ b o vals h1 h2)
  ·rename_i f p q hxa; cases he
   rw [hxa] at ha
   generalize hv : ρ a = va at ha
   cases ha with | fn _ _ _ vf vc h1 h2 h3 h4 =>
    rw [show execOp ρ ⟨dst, .nilCheck a, ty, pos, after, guard⟩ = pure (.value (ρ a)) by simp only [execOp, hv], hv]
    exact .pure' h (.fn _ _ _ vf vc h1 h2 h3 h4)
  ·rename_i id hxa; cases he
   rw [hxa] at ha
   generalize hv : ρ a = va at ha
   cases ha with | mp _ m hm =>
    rw [show execOp ρ ⟨dst, .nilCheck a, ty, pos, after, guard⟩ = pure (.value (ρ a)) by simp only [execOp, hv], hv]
    exact .pure' h (.mp _ m hm)
  ·rename_i id hxa; cases he
   rw [hxa] at ha
   generalize hv : ρ a = va at ha
   cases ha with | yld _ m hm =>
    rw [show execOp ρ ⟨dst, .nilCheck a, ty, pos, after, guard⟩ = pure (.value (ρ a)) by simp only [execOp, hv], hv]
    exact .pure' h (.yld _ m hm)
  ·cases he
 | binOp op t a b yt =>
  simp only [evOp] at he
  exact (Runs.opt h he fun r hr => qgE hc a b hr (hx a) (hx b)).v
 | unOp op t a =>
  simp only [evOp] at he
  exact (Runs.opt h he fun r hr => qhl hr (hx a)).v
 | convert s d a => exact (qdo hc h he (hx a)).v
 | makeFunc f first caps =>
  simp only [evOp] at he
  cases he
  refine (Runs.pure' h ⟨.func f (first.map ρ) (caps.map ρ), by simp [Instr.makeFunc], ?_⟩).v
  have := Rep.fn (C := C) (μ := μ) f (first.toList.map x) (caps.toList.map x) (first.toList.map ρ) (caps.toList.map ρ) (by simp) (by simp) (qbO hx _) (qbO hx _)
  have ea : ∀ a : Array Operand, (a.toList.map ρ).toArray = a.map ρ := fun a => by rw [← Array.toList_map, Array.toArray_toList]
  rw [ea, ea] at this
  exact this
 | makeSlice t l c => exact (qe1 hc h he (hx l) (hx c)).v
 | slice t a lo hi mx =>
  simp only [evOp] at he
  exact (Runs.opt h he fun r hr => qe0 hc h hx lo hi mx hr (hx a)).v
 | fieldAddr t a f =>
  simp only [evOp] at he
  exact (Runs.opt h he fun r hr => qb1 hc hr (hx a)).v
 | field t a f =>
  simp only [evOp] at he
  exact (Runs.opt h he fun r hr => qe4 hc hr (hx a)).v
 | indexAddr t a i =>
  simp only [evOp] at he
  exact (Runs.opt h he fun r hr => qb0 hc h hr (hx a).unwr (hx i)).v
 | index t a i =>
  simp only [evOp] at he
  exact (Runs.opt h he fun r hr => qe3 hc hr (hx a) (hx i)).v
 | extract t i =>
  simp only [evOp] at he
  split at he
  case h_2 => cases he
  rename_i vs hxt
  have ha := hx t
  rw [hxt] at ha
  generalize hv : ρ t = va at ha
  refine (Runs.opt h he fun r hr => ?_).v
  cases ha with
  | tup _ us hl hr' =>
   have hlt : i < us.length := by rw [← hl]; exact (qiM.1 hr).1
   exact ⟨us[i], by simp [Instr.extract, hv, hlt], hr' i r _ hr (qiS hlt)⟩
 | call c => exact qdN hc h hx he
 | makeMap t rv => exact (qdL (ty := ty) hc h hx he).v
 | lookup t a k ok =>
  simp only [evOp] at he
  exact (Runs.opt h he fun r hr => qdO hc h hr (hx a) (hx k)).v
 | mapUpdate t m k v =>
  simp only [evOp] at he
  obtain ⟨H1, h1, h2⟩ := qiN.1 he
  cases h2
  obtain ⟨w', e2, e3, e4⟩ := qaE hc h h1 (hx m) (hx k) (hx v)
  exact ⟨.skip, w', C, μ, by simp [execOp, e2], .inr ⟨rfl, rfl⟩, e3, e4 _ (qiR _)⟩
 | insert t m k v =>
  simp only [evOp] at he
  obtain ⟨H1, h1, h2⟩ := qiN.1 he
  cases h2
  obtain ⟨w', e2, e3, e4⟩ := qaE hc h h1 (hx m) (hx k) (hx v)
  exact ⟨.skip, w', C, μ, by simp [execOp, e2], .inr ⟨rfl, rfl⟩, e3, e4 _ (qiR _)⟩
 | _ => simp only [evOp] at he; cases he
variable {C C' C1 C2 : qa} {μ μ' μ1 : MMap} {H H' H1 : AH} {w w' w1 : World} {P : Program}
theorem qeF [Lent] (h : Wld C μ H w) (id : Nat) : ∃ C', (∀ b o v, C b o = some v → C' b o = some v) ∧ Wld C' μ (qu H id) w ∧ (∀ k, k ≤ H.length → Ext k C μ H w C' μ (qu H id) w) := by
 unfold qu
 split
 ·rename_i sz rs hid; exact h.freeze hid
 ·exact ⟨C, fun _ _ _ h => h, h, fun k hk => Ext.refl hk⟩
theorem qcA (H : AH) (id : Nat) : (qu H id).length = H.length := by
 unfold qu; split <;> simp
theorem ym (ids : List Nat) : ∀ H : AH, (ql ids H).length = H.length := by
 induction ids with
 | nil => intro H; rfl
 | cons i l ih => intro H; show (ql l (qu H i)).length = _; rw [ih, qcA]
theorem qy [Lent] : ∀ (ids : List Nat) {C : qa} {H : AH}, Wld C μ H w → ∃ C', (∀ b o v, C b o = some v → C' b o = some v) ∧ Wld C' μ (ql ids H) w ∧ (∀ k, k ≤ H.length → Ext k C μ H w C' μ (ql ids H) w)
 | [], C, H, h => ⟨C, fun _ _ _ h => h, h, fun k hk => Ext.refl hk⟩
 | i :: l, C, H, h => by
  obtain ⟨C1, a1, a2, a3⟩ := qeF h i
  obtain ⟨C2, b1, b2, b3⟩ := qy l a2
  exact ⟨C2, fun b o v hh => b1 b o v (a1 b o v hh), b2, fun k hk => (a3 k hk).trans (b3 k (by rw [qcA]; exact hk)) (qiR _)⟩
theorem qfu {b : ABlk} {l : AH} {i : Nat} (h : i ≠ 0) : ∃ l', qu (b :: l) i = b :: l' := by
 unfold qu
 split
 ·cases i with
  | zero => exact absurd rfl h
  | succ i => exact ⟨_, rfl⟩
 ·exact ⟨l, rfl⟩
theorem zc {b : ABlk} : ∀ (ids : List Nat) {l : AH}, zU ids = true → ∃ l', ql ids (b :: l) = b :: l'
 | [], l, _ => ⟨l, rfl⟩
 | i :: ids, l, h => by
  rw [zU, qiP] at h
  have hi : i ≠ 0 := by
   intro e; subst e; simp at h
  obtain ⟨l1, h1⟩ := qfu (b := b) (l := l) hi
  have : ql (i :: ids) (b :: l) = ql ids (qu (b :: l) i) := rfl
  rw [this, h1]
  exact zc ids h.2
theorem qfx {id i sz : Nat} {d : Bool} {rs : List (List AV)} (h : H[id]? = some (.froz d sz rs)) : (qu H i)[id]? = some (.froz d sz rs) := by
 unfold qu
 split
 ·rename_i s r hi
  rw [qiT]
  split
  ·rename_i e; subst e; rw [h] at hi; cases hi
  ·exact h
 ·exact h
theorem qa0 {id sz : Nat} {d : Bool} {rs : List (List AV)} : ∀ (ids : List Nat) {H : AH}, H[id]? = some (.froz d sz rs) → (ql ids H)[id]? = some (.froz d sz rs)
 | [], _, h => h
 | _ :: l, _, h => qa0 l (qfx h)
theorem qfw {id i : Nat} : qk (qu H i) id = qk H id := by
 unfold qu
 split
 ·rename_i s r hi
  unfold qk
  rw [qiT]
  by_cases e : i = id
  ·subst e
   have := (qiM.1 hi).1
   rw [if_pos rfl, if_pos this, hi]
  ·rw [if_neg e]
 ·rfl
theorem qfy {id i : Nat} : qX (qu H i) id = qX H id := by
 unfold qu
 split
 ·rename_i s r hi
  unfold qX
  rw [qiT]
  by_cases e : i = id
  ·subst e
   have := (qiM.1 hi).1
   rw [if_pos rfl, if_pos this, hi]
  ·rw [if_neg e]
 ·rfl
theorem qfv {id sz : Nat} {rs : List (List AV)} (h : qk H id = some (sz, rs)) : (qu H id)[id]? = some (.froz (qX H id) sz rs) := by
 unfold qk at h
 unfold qu qX
 split at h
 ·rename_i s r hi
  cases h
  have := (qiM.1 hi).1
  simp only [hi]
  rw [qiT, if_pos rfl, if_pos this]
 ·rename_i s r hi
  cases h
  simp only [hi]
 ·cases h
theorem zD {id sz : Nat} {rs : List (List AV)} : ∀ {ids : List Nat} {H : AH}, qk H id = some (sz, rs) → id ∈ ids → (ql ids H)[id]? = some (.froz (qX H id) sz rs)
 | [], _, _, hi => by cases hi
 | i :: l, H, h, hi => by
  by_cases e : id = i
  ·subst e; exact qa0 l (qfv h)
  ·show (ql l (qu H i))[id]? = _
   rw [← qfy (i := i)]
   exact zD (by rw [qfw]; exact h) ((qi4.1 hi).resolve_left e)
theorem qgS [Lent] {m : MI} {sz off len cap : Nat} {rs : List (List AV)} {a : Addr} (hf : yw C μ m sz rs) (hle : off + len ≤ rs.length) (hl : len ≤ cap) (ha : cap ≠ 0 → a = ⟨m.block, m.base + off * m.sz, none⟩ ∧ (off + cap) * m.sz ≤ m.size) (hfr : qf 0 ((rs.drop off).take len) = true) :
  Rep C μ (.sl ((rs.drop off).take len)) (.slice (some a) len cap) := by
 obtain ⟨hsz, _, hrows⟩ := hf
 have hlen : ((rs.drop off).take len).length = len := by simp; omega
 have get : ∀ (i : Nat) row, ((rs.drop off).take len)[i]? = some row → i < len ∧ rs[off + i]? = some row := fun i row h => qj h
 have addr : ∀ (i : Nat) row, ((rs.drop off).take len)[i]? = some row → a = ⟨m.block, m.base + off * m.sz, none⟩ := fun i row h => (ha (by have := (get i row h).1; omega)).1
 have cell : ∀ (i j : Nat) row x, ((rs.drop off).take len)[i]? = some row → row[j]? = some x → x.isCell = true ∧ ∃ v, C a.block (a.off + i * sz + j) = some v ∧ Rep C μ x v := by
  intro i j row x hi hj
  obtain ⟨_, hr⟩ := get i row hi
  obtain ⟨e1, v, e2, e3⟩ := (hrows _ row hr).2 j x hj
  refine ⟨e1, v, ?_, e3⟩
  rw [addr i row hi]
  rw [← e2]
  simp only
  congr 1
  rw [hsz, Nat.add_mul]; omega
 have := Rep.sl (C := C) (μ := μ) ((rs.drop off).take len) a cap sz (fun i j => (C a.block (a.off + i * sz + j)).getD undef)
  (fun hne => by
   cases hx : (rs.drop off).take len with
   | nil => exact absurd hx hne
   | cons r l => rw [addr 0 r (by rw [hx]; rfl)])
  (fun i row hi => (hrows _ row (get i row hi).2).1)
  (fun i j row x hi hj => by obtain ⟨_, v, e2, _⟩ := cell i j row x hi hj; rw [e2]; rfl)
  (fun i j row x hi hj => by obtain ⟨_, v, e2, e3⟩ := cell i j row x hi hj; rw [e2]; exact e3)
  (fun i j row x hi hj => (cell i j row x hi hj).1)
  (by rw [hlen]; exact hl) hfr
 rw [hlen] at this
 exact this
def qJ [Lent] (C : qa) (μ : MMap) (H : AH) (ids : List Nat) : Prop := ∀ id sz rs, id ∈ ids → qk H id = some (sz, rs) → (∀ m, μ id = some m → yw C μ m sz rs) ∧ (qX H id = true → qf 0 rs = true)
theorem qJ.of [Lent] {ids : List Nat} (h : Wld C μ (ql ids H) w) : qJ C μ H ids := fun id sz rs hi hb => by
 exact ⟨(h.froz id _ sz rs (zD hb hi)).2, h.free.get (zD hb hi)⟩
theorem Rep.frz1 [Lent] {ids : List Nat} {a : AV} {v : Value} (hf : qJ C μ H ids) (h : Rep C μ a v) : Rep C μ (a.frz1 ids H) v := by
 cases a with
 | ms id off len =>
  simp only [AV.frz1]
  split
  ·rename_i sz rs hb
   split
   ·rename_i hc
    rw [qiP, qiP, Nat.ble_eq, qr, Bool.or_eq_true] at hc
    obtain ⟨hfr, hfr2⟩ := hf id sz rs hc.1.1 hb
    cases h with
    | msN _ _ => simpa using Rep.slNil
    | ms _ _ _ cap ad m' hm' hl ha =>
     exact qgS (hfr m' hm') hc.1.2 hl ha (hc.2.elim (fun hd => ve (xg (hfr2 hd))) (fun h => h))
   ·exact h
  ·exact h
 | _ => exact h
theorem Rep.frzA [Lent] {ids : List Nat} {a : AV} {v : Value} (hf : qJ C μ H ids) (h : Rep C μ a v) : Rep C μ (a.frz ids H) v := by
 cases a with
 | agg cs =>
  cases h with
  | agg _ vs hl hr =>
   exact .agg _ vs (by simpa using hl) (fun i a v h1 h2 => by
    obtain ⟨b, hb, rfl⟩ := qb h1
    exact (hr i b v hb h2).frz1 hf)
 | tup cs =>
  cases h with
  | tup _ vs hl hr =>
   exact .tup _ vs (by simpa using hl) (fun i a v h1 h2 => by
    obtain ⟨b, hb, rfl⟩ := qb h1
    exact (hr i b v hb h2).frz1 hf)
 | _ => exact Rep.frz1 hf h
theorem Rep.frzWA [Lent] {ids : List Nat} {a : AV} {v : Value} (hf : qJ C μ H ids) (h : Rep C μ a v) : Rep C μ (a.frzW ids H) v := by
 by_cases hw : ∃ n id off len, a = .wr n (.ms id off len)
 ·obtain ⟨n, id, off, len, rfl⟩ := hw
  cases h with
  | wr _ _ ad c hn h1 => exact .wr n _ ad c hn (Rep.frz1 hf h1)
 ·have : a.frzW ids H = a.frz ids H := by
   cases a with
   | wr n b => cases b <;> first | rfl | exact absurd ⟨_, _, _, _, rfl⟩ hw
   | _ => rfl
  rw [this]; exact h.frzA hf
theorem Rep0.rep [Lent] {D : qa} {a : AV} {v : Value} (hD : ∀ b o v, D b o = some v → C b o = some v) (h : Rep0 D a v) : Rep C μ a v := by
 induction h with
 | int k n => exact .int k n
 | bool b => exact .bool b
 | str s => exact .str s
 | nilS => exact .nilS
 | slNil => exact .slNil
 | em a cap => exact .em a cap
 | sl rows a cap sz vals hs hsz hc _ hcell hcap hfree ih => exact .sl rows a cap sz vals hs hsz (fun i j row x h1 h2 => hD _ _ _ (hc i j row x h1 h2)) ih hcell hcap hfree
def RegC (C : qa) (μ : MMap) (H : AH) : Prop := ∀ (id : Nat) m, H[id]? = some .reg → μ id = some m → ∀ b o v, m.D b o = some v → C b o = some v
open Classical in
noncomputable def vm (C : qa) (μ : MMap) (H : AH) (w : World) : qa := fun b o =>
 match C b o with
 | some v => some v
 | none => if ∃ (id : Nat) (m : MI), H[id]? = some .reg ∧ μ id = some m ∧ m.D b o ≠ none then w.cell? ⟨b, o, none⟩ else none
theorem qb9 {b o : Nat} {v : Value} (h : C b o = some v) : vm C μ H w b o = some v := by unfold vm; rw [h]
theorem qeb (hc : ∀ b o v, C b o = some v → w.cell? ⟨b, o, none⟩ = some v) {b o : Nat} {v : Value} (h : vm C μ H w b o = some v) : w.cell? ⟨b, o, none⟩ = some v := by
 unfold vm at h
 split at h
 ·rename_i u hu
  cases h
  exact hc _ _ _ hu
 ·split at h
  ·exact h
  ·cases h
theorem qfc [Lent] (h : Wld C μ H w) (hc : ∀ b o v, C1 b o = some v → w.cell? ⟨b, o, none⟩ = some v) : RegC (vm C1 μ H w) μ H := by
 intro id m hi hm b o v hd
 have hreg := (h.liveM hi rfl hm).2.2
 have hcell := (hreg b o v hd).1
 unfold vm
 split
 ·rename_i u hu
  rw [hc _ _ _ hu] at hcell; exact hcell
 ·rw [if_pos ⟨id, m, hi, hm, by rw [hd]; simp⟩]
  exact hcell
theorem qfb [Lent] (h : Wld C μ H w) {b : Nat} (hc : ∀ o v, C1 b o = some v → w.frozen? ⟨b, o, none⟩ = false) {o : Nat} {v : Value} (hh : vm C1 μ H w b o = some v) : w.frozen? ⟨b, o, none⟩ = false := by
 unfold vm at hh
 split at hh
 ·rename_i u hu
  exact hc _ _ hu
 ·split at hh
  ·rename_i hex
   obtain ⟨id, m, hi, hm, hd⟩ := hex
   cases hd' : m.D b o with
   | none => exact absurd hd' hd
   | some u => exact ((h.liveM hi rfl hm).2.2 b o u hd').2
  ·cases hh
theorem qJ.mono [Lent] {ids : List Nat} (hC : ∀ b o v, C b o = some v → C' b o = some v) (h : qJ C μ H ids) : qJ C' μ H ids := fun id sz rs hi hb => by
 obtain ⟨h1, h2⟩ := h id sz rs hi hb
 refine ⟨fun m hm => ?_, h2⟩
 obtain ⟨a1, a2, a3⟩ := h1 m hm
 exact ⟨a1, a2, a3.mono hC (fun _ _ h => h) (fun i j row x hi hj => by
  obtain ⟨_, v, hv, _⟩ := (a3 i row hi).2 j x hj
  exact (hC _ _ _ hv).trans hv.symm)⟩
theorem Rep.snap1 [Lent] {ids : List Nat} (hrg : RegC C μ H) (hid : ∀ id, id < H.length → id ∈ ids) {a : AV} {v : Value} (hf : qJ C μ H ids) (h : Rep C μ a v) : Rep C μ (a.snap1 H) v := by
 have hlt : ∀ id sz rs, qk H id = some (sz, rs) → id ∈ ids := by
  intro id sz rs hb
  refine hid id ?_
  unfold qk at hb
  cases hh : H[id]? with
  | none => rw [hh] at hb; cases hb
  | some b => exact (qiM.1 hh).1
 cases a with
 | ms id off len =>
  simp only [AV.snap1]
  exact Rep.frz1 (ids := [id]) (fun id' sz rs hi hb => hf id' sz rs (hlt _ _ _ hb) hb) h
 | ptr id r off =>
  simp only [AV.snap1]
  split
  ·rename_i sz rs hb
   split
   ·rename_i row hrow
    cases h with
    | ptr _ _ _ m hm =>
     obtain ⟨hsz, _, hrows⟩ := (hf id sz rs (hlt _ _ _ hb) hb).1 m hm
     have cell : ∀ (j : Nat) x, row[j]? = some x → ∃ v, C m.block (m.base + r * m.sz + j) = some v ∧ Rep C μ x v := by
      intro j x hj
      obtain ⟨_, v, e2, e3⟩ := (hrows r row hrow).2 j x hj
      refine ⟨v, ?_, e3⟩
      rw [← e2, hsz]
      simp only
      congr 1; omega
     have cell : ∀ (j : Nat) x, (qdZ row)[j]? = some x → ∃ v, C m.block (m.base + r * m.sz + j) = some v ∧ Rep C μ x v := by
      intro j x hj
      unfold qdZ at hj
      split at hj
      ·exact cell j x hj
      ·obtain ⟨y, hy, rfl⟩ := qb hj
       obtain ⟨v, e2, e3⟩ := cell j y hy
       refine ⟨v, e2, ?_⟩
       unfold AV.data1
       split
       ·exact e3
       ·exact .junk v
     exact .cptr (qdZ row) off m.block (m.base + r * m.sz) (fun j => (C m.block (m.base + r * m.sz + j)).getD undef)
      (fun j x hj => by obtain ⟨v, e2, _⟩ := cell j x hj; rw [e2]; rfl) (fun j x hj => by obtain ⟨v, e2, e3⟩ := cell j x hj; rw [e2]; exact e3)
   ·exact h
  ·exact h
 | rsl id rows =>
  simp only [AV.snap1]
  split
  ·rename_i hi
   cases h with
   | rsl _ _ _ D hD h0 =>
    by_cases hne : rows = []
    ·subst hne; exact h0.ofEmp
    ·obtain ⟨m, hm, rfl⟩ := hD hne
     exact h0.rep (hrg id m hi hm)
  ·exact h
 | _ => exact h
theorem Rep.snapA [Lent] {ids : List Nat} (hrg : RegC C μ H) (hid : ∀ id, id < H.length → id ∈ ids) {a : AV} {v : Value} (hf : qJ C μ H ids) (h : Rep C μ a v) : Rep C μ (a.snap H) v := by
 cases a with
 | agg cs =>
  cases h with
  | agg _ vs hl hr =>
   exact .agg _ vs (by simpa using hl) (fun i a v h1 h2 => by
    obtain ⟨b, hb, rfl⟩ := qb h1
    exact (hr i b v hb h2).snap1 hrg hid hf)
 | fn f p q =>
  cases h with
  | fn _ _ _ vf vc hl1 hl2 h1 h2 =>
   exact .fn f _ _ vf vc (by simpa using hl1) (by simpa using hl2) (fun i a v e1 e2 => by
    obtain ⟨b, hb, rfl⟩ := qb e1
    exact (h1 i b v hb e2).snap1 hrg hid hf) (fun i a v e1 e2 => by
    obtain ⟨b, hb, rfl⟩ := qb e1
    exact (h2 i b v hb e2).snap1 hrg hid hf)
 | _ => exact Rep.snap1 hrg hid hf h
theorem Rep.fgA [Lent] {a : AV} {v : Value} (h : Rep C μ a v) : Rep C μ a.fg v := by
 cases a with
 | agg cs => cases h with | agg _ vs hl hr => exact .agg _ vs (by simpa using hl) (fun i a v h1 h2 => by obtain ⟨b, hb, rfl⟩ := qb h1; exact (hr i b v hb h2).fg1)
 | tup cs => cases h with | tup _ vs hl hr => exact .tup _ vs (by simpa using hl) (fun i a v h1 h2 => by obtain ⟨b, hb, rfl⟩ := qb h1; exact (hr i b v hb h2).fg1)
 | _ => exact h.fg1
theorem qc.fg [Lent] {args : List AV} {vs : Array Value} (h : qc C μ args vs) : qc C μ (args.map AV.fg) vs := ⟨by simpa using h.1, fun i a v h1 h2 => by
 obtain ⟨b, hb, rfl⟩ := qb h1
 exact (h.2 i b v hb h2).fgA⟩
theorem Rep.scalar1 [Lent] {a : AV} {v : Value} (hs : a.scalar1 = true) (h : Rep C μ a v) : Rep C' μ' a v := by
 cases h with
 | int k n => exact .int k n
 | bool b => exact .bool b
 | str s => exact .str s
 | nilS => exact .nilS
 | nilP => exact .nilP
 | _ => simp [AV.scalar1] at hs
theorem qbu {l : List AV} (h : qbf l = true) {i : Nat} {a : AV} (ha : l[i]? = some a) : a.scalar1 = true := by
 induction l generalizing i with
 | nil => simp at ha
 | cons b l ih =>
  rw [qbf, qiP] at h
  cases i with
  | zero => simp at ha; subst ha; exact h.1
  | succ i => exact ih h.2 (by simpa using ha)
theorem Rep.scalarA [Lent] {a : AV} {v : Value} (hs : a.scalar = true) (h : Rep C μ a v) : Rep C' μ' a v := by
 cases a with
 | agg cs =>
  cases h with | agg _ vs hl hr => exact .agg cs vs hl (fun i a v h1 h2 => (hr i a v h1 h2).scalar1 (qbu (by simpa [AV.scalar] using hs) h1))
 | tup cs =>
  cases h with | tup _ vs hl hr => exact .tup cs vs hl (fun i a v h1 h2 => (hr i a v h1 h2).scalar1 (qbu (by simpa [AV.scalar] using hs) h1))
 | _ => exact Rep.scalar1 (by simpa [AV.scalar] using hs) h
theorem vg {b : Nat} : ¬ Live [] μ b := by
 rintro ⟨id, blk, m, h, _⟩
 simp at h
theorem Wld.nil [Lent] (h : Wld C μ H w) : Wld C (fun _ => none) [] w where
 cl := h.cl
 dom := fun id m hm => by cases hm
 res := fun id hi => rfl
 live := fun id blk h1 => by simp at h1
 froz := fun id d sz rs h1 => by simp at h1
 inj := fun i i' b b' m m' h1 => by simp at h1
 free := xx.nil
 lnt := h.lnt
theorem Wld.back [Lent] (h : Wld C μ H w) (hx : Ext 0 C (fun _ => none) [] w C1 μ1 H1 w1) (h1 : Wld C1 μ1 H1 w1) : Wld C1 μ H w1 ∧ ∀ k, k ≤ H.length → Ext k C μ H w C1 μ H w1 := by
 have hfr : ∀ b, b < w.heap.size → w1.heap[b]? = w.heap[b]? ∧ C1 b = C b := fun b hb => ⟨(hx.fr b hb vg).1, (hx.fr b hb vg).2.2⟩
 refine ⟨⟨h1.cl, h.dom, h.res, fun id blk e1 e2 => ?_, fun id d sz rs e1 => ?_, h.inj, h.free, h1.lnt⟩, fun k hk => ⟨hx.os, hx.tape, hx.output, hx.size, hx.cl, fun _ _ _ h => ⟨_, h, .refl _⟩, fun b hb hnl => ⟨(hfr b hb).1, hnl, (hfr b hb).2⟩, hk⟩⟩
 ·refine ⟨(h.live id blk e1 e2).1, fun m h3 => ?_⟩
  obtain ⟨h4, h6⟩ := (h.live id blk e1 e2).2 m h3
  exact ⟨fun b hb => ⟨Nat.lt_of_lt_of_le (h4 b hb).1 hx.size, fun o => by rw [(hfr _ (h4 b hb).1).2]; exact (h4 b hb).2.1 o, (h4 b hb).2.2⟩, h6.mono hx.cl (fun _ _ h => h) (fun b hb => (hfr _ (h4 b hb).1).1)⟩
 ·refine ⟨(h.froz id d sz rs e1).1, fun m e2 => ?_⟩
  obtain ⟨e3, e4, e5⟩ := (h.froz id d sz rs e1).2 m e2
  refine ⟨e3, e4, e5.mono hx.cl (fun _ _ h => h) (fun i j row x hi hj => ?_)⟩
  obtain ⟨_, v, hv, _⟩ := (e5 i row hi).2 j x hj
  exact (hx.cl _ _ _ hv).trans hv.symm
def qq (P : Program) (s : Sem Next) (w : World) (R : Value → World → Prop) : Prop :=
 match s.run P w with
 | .ok (.value v) w' => R v w'
 | .ok .skip w' => R undef w'
 | .ok (.enter f args) w' => CallsIn Fence.wide 0 P f args w' fun e w'' => ∃ v, e = .returned v ∧ R v w''
 | .ok (.round l f t al bd) w' => RoundIn Fence.wide 0 P l f t al bd w' fun e w'' => ∃ v, e = .returned v ∧ R v w''
 | _ => False
theorem qq.mono {s : Sem Next} {R R' : Value → World → Prop} (h : qq P s w R) (hr : ∀ v w', R v w' → R' v w') : qq P s w R' := by
 unfold qq at *
 generalize s.run P w = x at *
 cases x with
 | ok n w' =>
  cases n <;> simp only at h ⊢ <;> first | exact hr _ _ h | exact h.elim | skip
  ·exact h.mono fun e w'' ⟨v, h1, h2⟩ => ⟨v, h1, hr _ _ h2⟩
  ·exact h.mono fun e w'' ⟨v, h1, h2⟩ => ⟨v, h1, hr _ _ h2⟩
 | halt _ _ => exact h
def qhW (μ : MMap) (t : Tgt) (vs : Array Value) (s : Sem Next) : Prop :=
 match t with
 | .f f => s = callFunc f vs
 | .y id => ∃ m, μ id = some m ∧ s = Instr.yield m.block vs
def qv [Lent] (C : qa) (μ : MMap) (H : AH) (w : World) (r : AV) (H' : AH) (v : Value) (w' : World) : Prop := ∃ C' μ', Rep C' μ' r v ∧ Wld C' μ' H' w' ∧ Ext H.length C μ H w C' μ' H' w'
def xD [Lent] (cfg : Cfg) (cf : Orac) : Prop := ∀ t args H r H', cf t args H = some (r, H') → ∀ C μ w vs s, qc C μ args vs → Wld C μ H w → qhW μ t vs s → qq cfg.P s w (qv C μ H w r H')
theorem qc.free [Lent] {al : List AV} {vs : Array Value} (μ' : MMap) (h : qc C μ al vs) (hr : qg 0 al = true) : qc C μ' al vs := ⟨h.1, fun i a v h1 h2 => (h.2 i a v h1 h2).free μ' (qC hr h1)⟩
theorem Wld.one [Lent] (h : Wld C μ H w) {d0 : Bool} {id sz : Nat} {rs : List (List AV)} (hfree : qf 0 rs = true) (hi : H[id]? = some (.rows d0 sz rs)) : Wld C (fun k => if k = 0 then μ id else none) [.rows true sz rs] w := by
 have only : ∀ (k : Nat) b, ([.rows true sz rs] : AH)[k]? = some b → k = 0 ∧ b = .rows true sz rs := fun k b hk => by
  cases k with
  | zero => simp at hk; exact ⟨rfl, hk.symm⟩
  | succ k => simp at hk
 refine ⟨h.cl, fun k m hk => ?_, fun k hk => ?_, fun k b hk hb => ?_, fun k d sz rs hk => ?_, fun i i' b b' m m' e1 e2 _ _ _ _ _ _ _ => ?_, fun k b hk => ?_, h.lnt⟩
 ·split at hk
  ·rename_i e; subst e; simp
  ·cases hk
 ·have := (only k _ hk).2; cases this
 ·obtain ⟨rfl, rfl⟩ := only k b hk
  simp only [if_true]
  refine ⟨fun hn => ?_, fun m hm => ?_⟩
  ·have := (h.live id _ hi rfl).1 hn
   cases rs <;> first | rfl | cases this
  ·obtain ⟨-, -, h4, h5, h6, h7⟩ := h.liveM hi rfl hm
   exact ⟨h.liveH hi rfl hm, h4, h5, h6.free _ hfree, h7⟩
 ·have := (only k _ hk).2; cases this
 ·rw [(only i b e1).1, (only i' b' e2).1]
 ·obtain ⟨rfl, rfl⟩ := only k b hk
  exact fun _ => hfree
theorem Wld.putBack [Lent] (h : Wld C μ H w) {d0 : Bool} {id sz : Nat} {rs rs' : List (List AV)} {l : AH} (hi : H[id]? = some (.rows d0 sz rs)) {C2 : qa} {μ2 : MMap} {w1 : World}
  (h2 : Wld C2 μ2 (.rows true sz rs' :: l) w1) (hx : Ext 1 C (fun k => if k = 0 then μ id else none) [.rows true sz rs] w C2 μ2 (.rows true sz rs' :: l) w1) :
  Wld C2 (fun i => if i = id then μ2 0 else μ i) (H.set id (.rows true sz rs')) w1 ∧ Ext H.length C μ H w C2 (fun i => if i = id then μ2 0 else μ i) (H.set id (.rows true sz rs')) w1 := by
 have h20 : (ABlk.rows true sz rs' :: l)[0]? = some (.rows true sz rs') := rfl
 have hfree : qf 0 rs' = true := h2.free.get (id := 0) h20 rfl
 have hmu : MLe μ (fun i => if i = id then μ2 0 else μ i) := by
  intro i m hm
  by_cases e : i = id
  ·subst e; simp only [↓reduceIte]; exact hx.mu 0 m (by omega) (by simpa using hm)
  ·simp only [if_neg e]; exact ⟨m, hm, .refl m⟩
 have nl : ∀ b, (∀ m, μ id = some m → ¬ m.has b) → ¬ Live [.rows true sz rs] (fun k => if k = 0 then μ id else none) b := by
  rintro b hb ⟨i, bi, mi, e1, _, e3, e4⟩
  simp only at e3
  split at e3
  ·exact hb _ e3 e4
  ·cases e3
 have hlen : id < H.length := (qiM.1 hi).1
 have aux : ∀ (j : Nat) bj, (H.set id (.rows true sz rs'))[j]? = some bj → (j = id ∧ bj = .rows true sz rs') ∨ (j ≠ id ∧ H[j]? = some bj) := by
  intro j bj hj
  rw [qiT] at hj
  split at hj
  ·rename_i e; subst e
   try rw [if_pos hlen] at hj
   cases hj; exact .inl ⟨rfl, rfl⟩
  ·rename_i e; exact .inr ⟨fun e' => e e'.symm, hj⟩
 have apart : ∀ (j : Nat) bj mj, j ≠ id → H[j]? = some bj → bj.live = true → μ j = some mj → ∀ x, mj.has x → x < w.heap.size ∧ ¬ Live [.rows true sz rs] (fun k => if k = 0 then μ id else none) x := by
  intro j bj mj hne e hb f1 x hxj
  exact ⟨(h.liveH e hb f1 x hxj).1, nl _ fun m hm he => hne (h.inj j id bj _ mj m e hi hb rfl f1 hm x hxj he)⟩
 refine ⟨⟨h2.cl, fun j mj hj => ?_, fun j hj => ?_, fun j b hj hb => ?_, fun j d sz rs hj => ?_, fun i i' b b' m1 m2 e1 e2 e3 e4 e5 e6 x e7 e8 => ?_, ?_, h2.lnt⟩,
  ⟨hx.os, hx.tape, hx.output, hx.size, hx.cl, fun i m _ hm => hmu i m hm, fun b hb hnl => ?_, by simp⟩⟩
 ·simp only [List.length_set]
  by_cases e : j = id
  ·subst e; exact hlen
  ·rw [if_neg e] at hj; exact h.dom j mj hj
 ·rcases aux j _ hj with ⟨_, e⟩ | ⟨hne, e⟩
  ·cases e
  ·simp only [if_neg hne]; exact h.res j e
 ·rcases aux j b hj with ⟨rfl, rfl⟩ | ⟨hne, e⟩
  ·simp only [if_true]
   refine ⟨(h2.live 0 _ h20 rfl).1, fun m hm => ?_⟩
   obtain ⟨-, -, g4, g5, g6, g7⟩ := h2.liveM h20 rfl hm
   exact ⟨h2.liveH h20 rfl hm, g4, g5, g6.free _ hfree, g7⟩
  ·simp only [if_neg hne]
   refine ⟨(h.live j b e hb).1, fun mj f1 => ?_⟩
   obtain ⟨f2, f4⟩ := (h.live j b e hb).2 mj f1
   have q := fun x (hxj : mj.has x) => hx.fr x (f2 x hxj).1 (apart j b mj hne e hb f1 x hxj).2
   exact ⟨fun x hxj => ⟨Nat.lt_of_lt_of_le (f2 x hxj).1 hx.size, fun o => by rw [(q x hxj).2.2]; exact (f2 x hxj).2.1 o, (f2 x hxj).2.2⟩, f4.monoG hx.cl hmu (fun x hxj => (q x hxj).1)⟩
 ·rcases aux j _ hj with ⟨_, e⟩ | ⟨hne, e⟩
  ·cases e
  ·simp only [if_neg hne]
   refine ⟨(h.froz j d sz rs e).1, fun mj f1 => ?_⟩
   obtain ⟨f2, f3, f4⟩ := (h.froz j d sz rs e).2 mj f1
   exact ⟨f2, f3, f4.monoG hx.cl hmu (fun i j row x hi' hj' => by
    obtain ⟨_, v, hv, _⟩ := (f4 i row hi').2 j x hj'
    exact (hx.cl _ _ _ hv).trans hv.symm)⟩
 ·have cross : ∀ (j : Nat) bj mj m0, j ≠ id → H[j]? = some bj → bj.live = true → μ j = some mj → μ2 0 = some m0 → ∀ x, m0.has x → ¬ mj.has x := by
   intro j bj mj m0 hne e hb f1 hm0 x hx0 hxj
   obtain ⟨f2, f3⟩ := apart j bj mj hne e hb f1 x hxj
   exact (hx.fr x f2 f3).2.1 ⟨0, _, m0, h20, rfl, hm0, hx0⟩
  rcases aux i b e1 with ⟨rfl, rfl⟩ | ⟨hne, e⟩ <;> rcases aux i' b' e2 with ⟨rfl, rfl⟩ | ⟨hne', e'⟩
  ·rfl
  ·rw [if_pos rfl] at e5; rw [if_neg hne'] at e6
   exact (cross i' b' m2 m1 hne' e' e4 e6 e5 x e7 e8).elim
  ·rw [if_neg hne] at e5; rw [if_pos rfl] at e6
   exact (cross i b m1 m2 hne e e3 e5 e6 x e8 e7).elim
  ·rw [if_neg hne] at e5; rw [if_neg hne'] at e6
   exact h.inj i i' b b' m1 m2 e e' e3 e4 e5 e6 x e7 e8
 ·exact h.free.set (b := .rows true sz rs') (fun _ => hfree)
 ·obtain ⟨q1, q2, q3⟩ := hx.fr b hb (nl b fun m hm e => hnl ⟨id, _, m, hi, rfl, hm, e⟩)
  refine ⟨q1, fun hl => ?_, q3⟩
  obtain ⟨j, bj, mj, e1, e2, e3, e5⟩ := hl
  simp only at e3
  rcases aux j bj e1 with ⟨rfl, rfl⟩ | ⟨hne, e⟩
  ·rw [if_pos rfl] at e3
   exact q2 ⟨0, _, mj, h20, rfl, e3, e5⟩
  ·rw [if_neg hne] at e3
   exact hnl ⟨j, bj, mj, e, e2, e3, e5⟩
theorem Wld.oneS [Lent] (h : Wld C μ H w) {d0 : Bool} {id sz : Nat} {rs : List (List AV)} (hin : ∀ x ∈ vL 0 rs, x ∈ [id]) (hi : H[id]? = some (.rows d0 sz rs)) :
    Wld C (fun k => if k = 0 then μ id else none) [.rows false sz (renR (fun _ => 0) rs)] w := by
  have only : ∀ (k : Nat) b, ([.rows false sz (renR (fun _ => 0) rs)] : AH)[k]? = some b → k = 0 ∧ b = .rows false sz (renR (fun _ => 0) rs) := fun k b hk => by
    cases k with
    | zero => simp at hk; exact ⟨rfl, hk.symm⟩
    | succ k => simp at hk
  refine ⟨h.cl, fun k m hk => ?_, fun k hk => ?_, fun k b hk hb => ?_, fun k d sz rs hk => ?_, fun i i' b b' m m' e1 e2 _ _ _ _ _ _ _ => ?_, fun k b hk => ?_, h.lnt⟩
  · split at hk
    · rename_i e; subst e; simp
    · cases hk
  · have := (only k _ hk).2; cases this
  · obtain ⟨rfl, rfl⟩ := only k b hk
    simp only [if_true]
    refine ⟨fun hn => ?_, fun m hm => ?_⟩
    · have := (h.live id _ hi rfl).1 hn
      cases rs <;> first | rfl | cases this
    · obtain ⟨-, -, h4, h5, h6, h7⟩ := h.liveM hi rfl hm
      refine ⟨h.liveH hi rfl hm, h4, by rw [xJ, List.length_map]; exact h5, ?_, h7⟩
      refine h6.renm (k := 0) (L := [id]) (fun x mx hx hmx => ?_) hin
      have : x = id := by rcases hx with hx | hx; · omega
                          · simpa using hx
      subst this
      simpa using hmx
  · have := (only k _ hk).2; cases this
  · rw [(only i b e1).1, (only i' b' e2).1]
  · obtain ⟨rfl, rfl⟩ := only k b hk
    exact fun hd => by cases hd
theorem Wld.putBackS [Lent] (h : Wld C μ H w) {d0 : Bool} {id sz : Nat} {rs rs0 rs' : List (List AV)} {l : AH} (hi : H[id]? = some (.rows d0 sz rs)) {C2 : qa} {μ2 : MMap} {w1 : World} (hin : ∀ x ∈ vL 0 rs', x ∈ [0])
    (h2 : Wld C2 μ2 (.rows false sz rs' :: l) w1) (hx : Ext 1 C (fun k => if k = 0 then μ id else none) [.rows false sz rs0] w C2 μ2 (.rows false sz rs' :: l) w1) :
    Wld C2 (fun i => if i = id then μ2 0 else μ i) (H.set id (.rows false sz (renR (fun _ => id) rs'))) w1 ∧ Ext H.length C μ H w C2 (fun i => if i = id then μ2 0 else μ i) (H.set id (.rows false sz (renR (fun _ => id) rs'))) w1 := by
  have h20 : (ABlk.rows false sz rs' :: l)[0]? = some (.rows false sz rs') := rfl
  have hmu : MLe μ (fun i => if i = id then μ2 0 else μ i) := by
    intro i m hm
    by_cases e : i = id
    · subst e; simp only [↓reduceIte]; exact hx.mu 0 m (by omega) (by simpa using hm)
    · simp only [if_neg e]; exact ⟨m, hm, .refl m⟩
  have nl : ∀ b, (∀ m, μ id = some m → ¬ m.has b) → ¬ Live [.rows false sz rs0] (fun k => if k = 0 then μ id else none) b := by
    rintro b hb ⟨i, bi, mi, e1, _, e3, e4⟩
    simp only at e3
    split at e3
    · exact hb _ e3 e4
    · cases e3
  have hlen : id < H.length := (qiM.1 hi).1
  have aux : ∀ (j : Nat) bj, (H.set id (.rows false sz (renR (fun _ => id) rs')))[j]? = some bj → (j = id ∧ bj = .rows false sz (renR (fun _ => id) rs')) ∨ (j ≠ id ∧ H[j]? = some bj) := by
    intro j bj hj
    rw [qiT] at hj
    split at hj
    · rename_i e; subst e
      try rw [if_pos hlen] at hj
      cases hj; exact .inl ⟨rfl, rfl⟩
    · rename_i e; exact .inr ⟨fun e' => e e'.symm, hj⟩
  have apart : ∀ (j : Nat) bj mj, j ≠ id → H[j]? = some bj → bj.live = true → μ j = some mj → ∀ x, mj.has x → x < w.heap.size ∧ ¬ Live [.rows false sz rs0] (fun k => if k = 0 then μ id else none) x := by
    intro j bj mj hne e hb f1 x hxj
    exact ⟨(h.liveH e hb f1 x hxj).1, nl _ fun m hm he => hne (h.inj j id bj _ mj m e hi hb rfl f1 hm x hxj he)⟩
  refine ⟨⟨h2.cl, fun j mj hj => ?_, fun j hj => ?_, fun j b hj hb => ?_, fun j d sz rs hj => ?_, fun i i' b b' m1 m2 e1 e2 e3 e4 e5 e6 x e7 e8 => ?_, ?_, h2.lnt⟩,
    ⟨hx.os, hx.tape, hx.output, hx.size, hx.cl, fun i m _ hm => hmu i m hm, fun b hb hnl => ?_, by simp⟩⟩
  · simp only [List.length_set]
    by_cases e : j = id
    · subst e; exact hlen
    · rw [if_neg e] at hj; exact h.dom j mj hj
  · rcases aux j _ hj with ⟨_, e⟩ | ⟨hne, e⟩
    · cases e
    · simp only [if_neg hne]; exact h.res j e
  · rcases aux j b hj with ⟨rfl, rfl⟩ | ⟨hne, e⟩
    · simp only [if_true]
      refine ⟨fun hn => ?_, fun m hm => ?_⟩
      · have := (h2.live 0 _ h20 rfl).1 hn
        cases rs' <;> first | rfl | cases this
      · obtain ⟨-, -, g4, g5, g6, g7⟩ := h2.liveM h20 rfl hm
        refine ⟨h2.liveH h20 rfl hm, g4, by rw [xJ, List.length_map]; exact g5, ?_, g7⟩
        refine g6.renm (k := 0) (L := [0]) (fun x mx hx hmx => ?_) hin
        have : x = 0 := by rcases hx with hx | hx; · omega
                           · simpa using hx
        subst this
        simpa using hmx
    · simp only [if_neg hne]
      refine ⟨(h.live j b e hb).1, fun mj f1 => ?_⟩
      obtain ⟨f2, f4⟩ := (h.live j b e hb).2 mj f1
      have q := fun x (hxj : mj.has x) => hx.fr x (f2 x hxj).1 (apart j b mj hne e hb f1 x hxj).2
      exact ⟨fun x hxj => ⟨Nat.lt_of_lt_of_le (f2 x hxj).1 hx.size, fun o => by rw [(q x hxj).2.2]; exact (f2 x hxj).2.1 o, (f2 x hxj).2.2⟩, f4.monoG hx.cl hmu (fun x hxj => (q x hxj).1)⟩
  · rcases aux j _ hj with ⟨_, e⟩ | ⟨hne, e⟩
    · cases e
    · simp only [if_neg hne]
      refine ⟨(h.froz j d sz rs e).1, fun mj f1 => ?_⟩
      obtain ⟨f2, f3, f4⟩ := (h.froz j d sz rs e).2 mj f1
      exact ⟨f2, f3, f4.monoG hx.cl hmu (fun i j row x hi' hj' => by
        obtain ⟨_, v, hv, _⟩ := (f4 i row hi').2 j x hj'
        exact (hx.cl _ _ _ hv).trans hv.symm)⟩
  · have cross : ∀ (j : Nat) bj mj m0, j ≠ id → H[j]? = some bj → bj.live = true → μ j = some mj → μ2 0 = some m0 → ∀ x, m0.has x → ¬ mj.has x := by
      intro j bj mj m0 hne e hb f1 hm0 x hx0 hxj
      obtain ⟨f2, f3⟩ := apart j bj mj hne e hb f1 x hxj
      exact (hx.fr x f2 f3).2.1 ⟨0, _, m0, h20, rfl, hm0, hx0⟩
    rcases aux i b e1 with ⟨rfl, rfl⟩ | ⟨hne, e⟩ <;> rcases aux i' b' e2 with ⟨rfl, rfl⟩ | ⟨hne', e'⟩
    · rfl
    · rw [if_pos rfl] at e5; rw [if_neg hne'] at e6
      exact (cross i' b' m2 m1 hne' e' e4 e6 e5 x e7 e8).elim
    · rw [if_neg hne] at e5; rw [if_pos rfl] at e6
      exact (cross i b m1 m2 hne e e3 e5 e6 x e8 e7).elim
    · rw [if_neg hne] at e5; rw [if_neg hne'] at e6
      exact h.inj i i' b b' m1 m2 e e' e3 e4 e5 e6 x e7 e8
  · exact h.free.set (b := .rows false sz (renR (fun _ => id) rs')) (fun hd => by cases hd)
  · obtain ⟨q1, q2, q3⟩ := hx.fr b hb (nl b fun m hm e => hnl ⟨id, _, m, hi, rfl, hm, e⟩)
    refine ⟨q1, fun hl => ?_, q3⟩
    obtain ⟨j, bj, mj, e1, e2, e3, e5⟩ := hl
    simp only at e3
    rcases aux j bj e1 with ⟨rfl, rfl⟩ | ⟨hne, e⟩
    · rw [if_pos rfl] at e3
      exact q2 ⟨0, _, mj, h20, rfl, e3, e5⟩
    · rw [if_neg hne] at e3
      exact hnl ⟨j, bj, mj, e, e2, e3, e5⟩
theorem qcq [Lent] (h : Wld C μ H w) {C2 : qa} {μ2 : MMap} {w1 : World} {G : AH} (e2 : Wld C2 μ2 G w1) (e3 : Ext 0 C (fun _ => none) [] w C2 μ2 G w1) {nid : Option Nat} {a r : AV} {H' : AH} {v : Value} (e1 : Rep C2 μ2 a v)
  (hi : ye nid G a H = some (r, H')) : qv C μ H w r H' v w1 := by
 obtain ⟨b1, b2⟩ := h.back e3 e2
 unfold ye at hi
 split at hi
 ·rename_i id off len
  split at hi
  case h_2 => cases hi
  rename_i d sz rs hid
  split at hi
  case isFalse => cases hi
  rename_i hrr
  have hrr : qf 0 rs = true := by
   rw [Bool.or_eq_true] at hrr
   exact hrr.elim (fun hd => e2.free.get hid hd) (fun h => h)
  split at hi
  case h_2 => cases hi
  rename_i k H2 hnew
  cases hi
  have b3 := b2 _ (qiR _)
  cases hm : μ2 id with
  | none =>
   have hv := (e2.live id _ hid rfl).1 hm
   obtain ⟨n1, n2⟩ := b1.newV hnew rfl (by cases rs <;> first | rfl | cases hv) (fun _ => hrr)
   cases e1 with
   | msN _ _ => exact ⟨C2, μ, .msN _ _, n1, b3.trans (n2 _ (qiR _)) (qiR _)⟩
   | ms _ _ _ cap ad m' hm' hl had => rw [hm] at hm'; cases hm'
  | some m =>
  obtain ⟨hlt, hc, hblk⟩ := e2.liveM hid rfl hm
  have hge : ∀ x, m.has x → ¬ x < w.heap.size := fun x hx hb => (e3.fr _ hb vg).2.1 ⟨id, _, m, hid, rfl, hm, hx⟩
  have hnl : ∀ x, m.has x → ¬ Live H μ x := fun x hx hl => hge x hx (h.live_lt hl)
  have hlv := e2.liveH hid rfl hm
  obtain ⟨n1, n2, n3, n4, n5⟩ := b1.new hnew hnl (fun x hx => (hlv x hx).1) (fun x hx => (hlv x hx).2.1) (fun x hx => (hlv x hx).2.2) rfl (by
   obtain ⟨c1, c2, c3, c4⟩ := hblk
   exact ⟨c1, c2, fun i row hi => ⟨(c3 i row hi).1, fun j x hj => by
    obtain ⟨d1, u, d2, d3⟩ := (c3 i row hi).2 j x hj
    exact ⟨d1, u, d2, d3.free _ (qC (vZ hrr hi) hj)⟩⟩, c4⟩) (fun _ => hrr)
  have fin : ∀ {v : Value}, Rep C2 (upd μ k m) (.ms k off len) v → qv C μ H w (.ms k off len) H' v w1 := fun {v} hrv => by
   refine ⟨C2, upd μ k m, hrv, n1, ⟨b3.os, b3.tape, b3.output, b3.size, b3.cl, fun id m' _ hm' => ⟨_, n2 id m' hm', .refl _⟩, fun b hb hnl' => ?_, n3⟩⟩
   obtain ⟨f1, f2, f3⟩ := b3.fr b hb hnl'
   refine ⟨f1, fun hl => ?_, f3⟩
   rcases n4 b hl with hl | hl
   ·exact hnl' hl
   ·exact hge _ hl hb
  cases e1 with
  | msN _ _ => exact fin (.msN _ _)
  | ms _ _ _ cap ad m' hm' hl had =>
   rw [hm] at hm'; cases hm'
   exact fin (.ms k off len cap ad m (by unfold upd; rw [if_pos rfl]) hl had)
 ·split at hi
  ·rename_i hrf
   cases hi
   exact ⟨C2, μ, e1.free μ hrf, b1, b2 _ (qiR _)⟩
  ·cases hi
theorem qen [Lent] (h : Wld C μ H w) {C2 : qa} {μ2 : MMap} {w1 : World} {G : AH} (e2 : Wld C2 μ2 G w1) (e3 : Ext 0 C (fun _ => none) [] w C2 μ2 G w1) {nid : Option Nat} {c : AV} {rows : List (List AV)} {H' : AH} {v : Value} {i : Nat} (e1 : Rep C2 μ2 c v)
  (hc : qeo G c = some rows) (hn : aNew nid H .reg = some (i, H')) : ∃ μ', Wld C2 μ' H' w1 ∧ Rep C2 μ' (.rsl i rows) v ∧ Ext H.length C μ H w C2 μ' H' w1 := by
 obtain ⟨b1, b2⟩ := h.back e3 e2
 have b3 := b2 _ (qiR _)
 have empty : ∀ {D : qa}, Rep0 D (.sl []) v → ∃ μ', Wld C2 μ' H' w1 ∧ Rep C2 μ' (.rsl i []) v ∧ Ext H.length C μ H w C2 μ' H' w1 := fun {D} h0 => by
  obtain ⟨n1, n2⟩ := b1.newV hn rfl rfl trivial
  exact ⟨μ, n1, .rsl i [] v D (fun hne => absurd rfl hne) h0, b3.trans (n2 _ (qiR _)) (qiR _)⟩
 unfold qeo at hc
 split at hc
 ·rename_i id rows'
  split at hc
  ·rename_i hid
   cases hc
   cases e1 with
   | rsl _ _ _ D hD h0 =>
    by_cases hne : rows = []
    ·subst hne; exact empty h0
    ·obtain ⟨m, hm, rfl⟩ := hD hne
     have hlv := e2.liveH hid rfl hm
     have hge : ∀ x, m.has x → ¬ x < w.heap.size := fun x hx hb => (e3.fr _ hb vg).2.1 ⟨id, _, m, hid, rfl, hm, hx⟩
     have hnl : ∀ x, m.has x → ¬ Live H μ x := fun x hx hl => hge x hx (h.live_lt hl)
     obtain ⟨n1, n2, n3, n4, n5⟩ := b1.new hn hnl (fun x hx => (hlv x hx).1) (fun x hx => (hlv x hx).2.1) (fun x hx => (hlv x hx).2.2) rfl (e2.liveM hid rfl hm).2.2
     refine ⟨upd μ i m, n1, .rsl i rows v m.D (fun _ => ⟨m, by unfold upd; rw [if_pos rfl], rfl⟩) h0, ⟨b3.os, b3.tape, b3.output, b3.size, b3.cl, fun id m' _ hm' => ⟨_, n2 id m' hm', .refl _⟩, fun b hb hnl' => ?_, n3⟩⟩
     obtain ⟨f1, f2, f3⟩ := b3.fr b hb hnl'
     refine ⟨f1, fun hl => ?_, f3⟩
     rcases n4 b hl with hl | hl
     ·exact hnl' hl
     ·exact hge _ hl hb
  ·cases hc
 ·cases hc; exact empty e1.toEmp
 ·cases hc
  cases e1 with
  | nilS => exact empty (D := fun _ _ => none) .slNil
 ·cases hc
  cases e1 with
  | em a cap => exact empty (D := fun _ _ => none) (.sl [] a cap 0 (fun _ _ => undef) (fun h => absurd rfl h) (fun i row h => by simp at h) (fun i j row x h => by simp at h) (fun i j row x h => by simp at h) (fun i j row x h => by simp at h) (Nat.zero_le _) rfl)
 ·cases hc
theorem Rep.plain [Lent] {a : AV} {v : Value} (hp : a.plain = true) (h : Rep C μ a v) : Rep C' μ' a v := by
 cases a <;> simp [AV.plain] at hp
 ·cases h; exact .int _ _
 ·cases h; exact .bool _
theorem qdB {a : AV} (i : Nat) (hp : a.plain = true) : a.rgA i = a := by cases a <;> simp [AV.plain] at hp <;> rfl
theorem qgc {l : List AV} (h : qco l = true) {i : Nat} {a : AV} (ha : l[i]? = some a) : a.plain = true := by
 induction l generalizing i with
 | nil => simp at ha
 | cons b l ih =>
  rw [qco, qiP] at h
  cases i with
  | zero => simp at ha; subst ha; exact h.1
  | succ i => exact ih h.2 (by simpa using ha)
theorem qck [Lent] (h : Wld C μ H w) {C2 : qa} {μ2 : MMap} {w1 : World} {G : AH} (e2 : Wld C2 μ2 G w1) (e3 : Ext 0 C (fun _ => none) [] w C2 μ2 G w1) {nid : Option Nat} {a X : AV} {H' : AH} {v : Value} {i : Nat} (e1 : Rep C2 μ2 a v)
  (hc : rgTm G a = some X) (hn : aNew nid H .reg = some (i, H')) : ∃ μ', Wld C2 μ' H' w1 ∧ Rep C2 μ' (X.rgA i) v ∧ Ext H.length C μ H w C2 μ' H' w1 := by
 unfold rgTm at hc
 split at hc
 case h_2 => cases hc
 rename_i k n s c
 obtain ⟨rows, hr, rfl⟩ := qiN.1 hc
 cases e1 with
 | agg _ us hl hh =>
  match us, hl, hh with
  | [u0, u1, u2, u3], _, hh =>
   obtain ⟨μ', f1, f2, f3⟩ := qen h e2 e3 (hh 3 _ _ rfl rfl) hr hn
   have q0 := hh 0 _ _ rfl rfl
   have q1 := hh 1 _ _ rfl rfl
   have q2 := hh 2 _ _ rfl rfl
   refine ⟨μ', f1, ?_, f3⟩
   refine Rep.agg _ [u0, u1, u2, u3] rfl (fun j a v h1 h2 => ?_)
   match j, h1, h2 with
   | 0, h1, h2 => cases h1; cases h2; exact q0.plain rfl
   | 1, h1, h2 => cases h1; cases h2; exact q1.plain rfl
   | 2, h1, h2 => cases h1; cases h2; cases q2; exact .str _
   | 3, h1, h2 => cases h1; cases h2; exact f2
   | j + 4, h1, h2 => simp at h1
theorem qdA [Lent] (h : Wld C μ H w) {C2 : qa} {μ2 : MMap} {w1 : World} {G : AH} (e2 : Wld C2 μ2 G w1) (e3 : Ext 0 C (fun _ => none) [] w C2 μ2 G w1) {nid : Option Nat} {H' : AH} {i : Nat} (hn : aNew nid H .reg = some (i, H')) :
  ∀ (l : List AV) {q : List AV} {us : List Value}, rgL G l = some q → l.length = us.length → (∀ (j : Nat) a v, l[j]? = some a → us[j]? = some v → Rep C2 μ2 a v) →
  ∃ μ', Wld C2 μ' H' w1 ∧ q.length = us.length ∧ (∀ (j : Nat) a v, (q.map (AV.rgA i))[j]? = some a → us[j]? = some v → Rep C2 μ' a v) ∧ Ext H.length C μ H w C2 μ' H' w1
 | [], q, us, hc, _, _ => by cases hc
 | a :: l, q, [], hc, hl, _ => by simp at hl
 | a :: l, q, u :: us, hc, hl, hh => by
  rw [rgL] at hc
  have h0 := hh 0 a u rfl rfl
  have ht : ∀ (j : Nat) a v, l[j]? = some a → us[j]? = some v → Rep C2 μ2 a v := fun j a v h1 h2 => hh (j + 1) a v (by simpa using h1) (by simpa using h2)
  split at hc
  ·rename_i hp
   obtain ⟨q', hq, rfl⟩ := qiN.1 hc
   obtain ⟨μ', f1, f2, f3, f4⟩ := qdA h e2 e3 hn l hq (by simpa using hl) ht
   refine ⟨μ', f1, by simpa using f2, fun j x v h1 h2 => ?_, f4⟩
   cases j with
   | zero => simp at h1 h2; subst h1 h2; rw [qdB i hp]; exact h0.plain hp
   | succ j => exact f3 j x v (by simpa using h1) (by simpa using h2)
  ·split at hc
   case isFalse => cases hc
   rename_i hp
   obtain ⟨X, hX, rfl⟩ := qiN.1 hc
   obtain ⟨μ', f1, f2, f3⟩ := qck h e2 e3 h0 hX hn
   refine ⟨μ', f1, by simpa using hl, fun j x v h1 h2 => ?_, f3⟩
   cases j with
   | zero => simp at h1 h2; subst h1 h2; exact f2
   | succ j =>
    simp only [List.map_cons, List.getElem?_cons_succ] at h1 h2
    obtain ⟨y, hy, rfl⟩ := qb h1
    have := qgc hp hy
    rw [qdB i this]
    exact (ht j y v hy h2).plain this
theorem qfk [Lent] (h : Wld C μ H w) {C2 : qa} {μ2 : MMap} {w1 : World} {G : AH} (e2 : Wld C2 μ2 G w1) (e3 : Ext 0 C (fun _ => none) [] w C2 μ2 G w1) {nid : Option Nat} {a V : AV} {H' : AH} {v : Value} {i : Nat} (e1 : Rep C2 μ2 a v)
  (hc : qga G a = some V) (hn : aNew nid H .reg = some (i, H')) : qv C μ H w (rgIn i V) H' v w1 := by
 unfold qga at hc
 split at hc
 ·obtain ⟨q, hq, rfl⟩ := qiN.1 hc
  cases e1 with
  | tup _ us hl hh =>
   obtain ⟨μ', f1, f2, f3, f4⟩ := qdA h e2 e3 hn _ hq hl hh
   refine ⟨C2, μ', ?_, f1, f4⟩
   exact Rep.tup _ us (by simpa using f2) f3
 ·obtain ⟨μ', f1, f2, f3⟩ := qck h e2 e3 e1 hc hn
  have : rgIn i V = V.rgA i := by
   unfold rgTm at hc
   split at hc
   ·obtain ⟨rows, _, rfl⟩ := qiN.1 hc; rfl
   ·cases hc
  rw [this]
  exact ⟨C2, μ', f2, f1, f3⟩
theorem xL {g : AV → Option AV} : ∀ {l q : List AV}, datL g l = some q → q.length = l.length ∧ ∀ (i : Nat) a, l[i]? = some a → ∃ x, g a = some x ∧ q[i]? = some x
 | [], q, h => by cases h; exact ⟨rfl, fun i a hi => by simp at hi⟩
 | a :: l, q, h => by
  rw [datL] at h
  split at h
  ·rename_i x q' hx hq
   cases h
   obtain ⟨h1, h2⟩ := xL hq
   refine ⟨by simp [h1], fun i b hi => ?_⟩
   cases i with
   | zero => simp at hi; subst hi; exact ⟨x, hx, rfl⟩
   | succ i => exact h2 i b (by simpa using hi)
  ·cases h
theorem yS {g : AV → Option AV} {l q : List AV} (h : datL g l = some q) {i : Nat} {x : AV} (hi : q[i]? = some x) : ∃ a, l[i]? = some a ∧ g a = some x := by
 obtain ⟨h1, h2⟩ := xL h
 have hl : i < l.length := by rw [← h1]; exact (qiM.1 hi).1
 obtain ⟨y, hy, hq⟩ := h2 i _ (qiS hl)
 rw [hi] at hq; cases hq
 exact ⟨_, qiS hl, hy⟩
theorem qcU [Lent] {C' : qa} {i : Nat} {a x : AV} {v : Value} (hm : ∀ id ∈ a.rgId, ∀ m, μ id = some m → μ' i = some m) (hr : Rep C μ a v) (h : a.dat0 = some x) : Rep C' μ' (x.regn i) v := by
 unfold AV.dat0 at h
 split at h
 ·cases h; cases hr; exact .int _ _
 ·cases h; cases hr; exact .bool _
 ·cases h; cases hr; exact .str _
 ·rename_i id rows
  cases h
  cases hr with
  | rsl _ _ _ D hD h0 =>
   exact .rsl i rows v D (fun hne => by
    obtain ⟨m, h1, h2⟩ := hD hne
    exact ⟨m, hm id (by simp [AV.rgId]) m h1, h2⟩) h0
 ·cases h; exact .rsl i [] v _ (fun hne => absurd rfl hne) hr.toEmp
 ·cases h; cases hr; exact .rsl i [] _ (fun _ _ => none) (fun hne => absurd rfl hne) .slNil
 ·cases h; cases hr with | em a cap => exact .rsl i [] _ (fun _ _ => none) (fun hne => absurd rfl hne) (.sl [] a cap 0 (fun _ _ => undef) (fun h => absurd rfl h) (fun i row h => by simp at h) (fun i j row x h => by simp at h) (fun i j row x h => by simp at h) (fun i j row x h => by simp at h) (Nat.zero_le _) rfl)
 ·cases h
theorem qhN {a x : AV} {i : Nat} (h : a.dat0 = some x) : x.rgA i = x.regn i := by
 unfold AV.dat0 at h
 split at h <;> first | (cases h; rfl) | cases h
theorem qcT [Lent] {C' : qa} {i : Nat} {a x : AV} {v : Value} (hm : ∀ id ∈ a.rgId1, ∀ m, μ id = some m → μ' i = some m) (hr : Rep C μ a v) (h : a.dat1 = some x) : Rep C' μ' (x.rgA i) v := by
 unfold AV.dat1 at h
 split at h
 ·rename_i cs
  obtain ⟨q, hq, rfl⟩ := qiN.1 h
  obtain ⟨hl, hg⟩ := xL hq
  cases hr with
  | agg _ us hlu hh =>
   refine Rep.agg _ us (by simp [hl, hlu]) (fun j y u h1 h2 => ?_)
   obtain ⟨z, hz, rfl⟩ := qb h1
   obtain ⟨a, ha, hax⟩ := yS hq hz
   exact qcU (fun id hid => hm id (List.mem_flatMap.2 ⟨a, qiZ ha, hid⟩)) (hh j a u ha h2) hax
 ·rename_i hna
  rw [qhN h]
  have he : a.rgId1 = a.rgId := by cases a <;> first | rfl | exact absurd rfl (hna _)
  rw [he] at hm
  exact qcU hm hr h
theorem qhf {a x : AV} {i : Nat} (h : a.dat1 = some x) : rgIn i x = x.rgA i := by
 unfold AV.dat1 at h
 split at h
 ·obtain ⟨q, hq, rfl⟩ := qiN.1 h; rfl
 ·unfold AV.dat0 at h
  split at h <;> first | (cases h; rfl) | cases h
theorem qcS [Lent] {C' : qa} {i : Nat} {a x : AV} {v : Value} (hm : ∀ id ∈ a.rgId2, ∀ m, μ id = some m → μ' i = some m) (hr : Rep C μ a v) (h : a.dat2 = some x) : Rep C' μ' (rgIn i x) v := by
 unfold AV.dat2 at h
 split at h
 ·rename_i cs
  obtain ⟨q, hq, rfl⟩ := qiN.1 h
  obtain ⟨hl, hg⟩ := xL hq
  cases hr with
  | tup _ us hlu hh =>
   refine Rep.tup _ us (by simp [hl, hlu]) (fun j y u h1 h2 => ?_)
   obtain ⟨z, hz, rfl⟩ := qb h1
   obtain ⟨a, ha, hax⟩ := yS hq hz
   exact qcT (fun id hid => hm id (List.mem_flatMap.2 ⟨a, qiZ ha, hid⟩)) (hh j a u ha h2) hax
 ·rename_i hna
  rw [qhf h]
  have he : a.rgId2 = a.rgId1 := by cases a <;> first | rfl | exact absurd rfl (hna _)
  rw [he] at hm
  exact qcT hm hr h
theorem qfl [Lent] (h : Wld C μ H w) {C2 : qa} {μ2 : MMap} {w1 : World} {G : AH} (e2 : Wld C2 μ2 G w1) (e3 : Ext 0 C (fun _ => none) [] w C2 μ2 G w1) {nid : Option Nat} {a V : AV} {H' : AH} {v : Value} {i : Nat} (e1 : Rep C2 μ2 a v)
  (hc : qgb G a = some V) (hn : aNew nid H .reg = some (i, H')) : qv C μ H w (rgIn i V) H' v w1 := by
 obtain ⟨b1, b2⟩ := h.back e3 e2
 have b3 := b2 _ (qiR _)
 have vac : (∀ id ∈ a.rgId2, μ2 id = none) → a.dat2 = some V → qv C μ H w (rgIn i V) H' v w1 := fun hno hd => by
  obtain ⟨n1, n2⟩ := b1.newV hn rfl rfl trivial
  exact ⟨C2, μ, qcS (fun id hid m hm => by rw [hno id hid] at hm; cases hm) e1 hd, n1, b3.trans (n2 _ (qiR _)) (qiR _)⟩
 unfold qgb at hc
 split at hc
 ·rename_i hids
  exact vac (fun id hid => by rw [hids] at hid; cases hid) hc
 ·rename_i id l hids
  split at hc
  case h_2 => cases hc
  rename_i hid
  split at hc
  case isFalse => cases hc
  rename_i hall
  have hin : ∀ x ∈ a.rgId2, x = id := by
   rw [hids]
   intro x hx
   rcases qi4.1 hx with rfl | hx
   ·rfl
   ·simpa using (qA.1 hall) x hx
  cases hm : μ2 id with
  | none => exact vac (fun x hx => by rw [hin x hx]; exact hm) hc
  | some m =>
   have hlv := e2.liveH hid rfl hm
   have hge : ∀ x, m.has x → ¬ x < w.heap.size := fun x hx hb => (e3.fr _ hb vg).2.1 ⟨id, _, m, hid, rfl, hm, hx⟩
   have hnl : ∀ x, m.has x → ¬ Live H μ x := fun x hx hl => hge x hx (h.live_lt hl)
   obtain ⟨n1, n2, n3, n4, n5⟩ := b1.new hn hnl (fun x hx => (hlv x hx).1) (fun x hx => (hlv x hx).2.1) (fun x hx => (hlv x hx).2.2) rfl (e2.liveM hid rfl hm).2.2
   refine ⟨C2, upd μ i m, qcS (fun x hx m' hm' => ?_) e1 hc, n1, ⟨b3.os, b3.tape, b3.output, b3.size, b3.cl, fun id m' _ hm' => ⟨_, n2 id m' hm', .refl _⟩, fun b hb hnl' => ?_, n3⟩⟩
   ·rw [hin x hx, hm] at hm'; cases hm'
    unfold upd; rw [if_pos rfl]
   ·obtain ⟨f1, f2, f3⟩ := b3.fr b hb hnl'
    refine ⟨f1, fun hl => ?_, f3⟩
    rcases n4 b hl with hl | hl
    ·exact hnl' hl
    ·exact hge _ hl hb
theorem qel [Lent] (h : Wld C μ H w) {C2 : qa} {μ2 : MMap} {w1 : World} {G : AH} (e2 : Wld C2 μ2 G w1) (e3 : Ext 0 C (fun _ => none) [] w C2 μ2 G w1) {nid : Option Nat} {a V : AV} {H' : AH} {v : Value} {i : Nat} (e1 : Rep C2 μ2 a v)
  (hc : qem G a = some V) (hn : aNew nid H .reg = some (i, H')) : qv C μ H w (rgIn i V) H' v w1 := by
 unfold qem at hc
 split at hc
 ·rename_i ho; cases hc; exact qfk h e2 e3 e1 ho hn
 ·exact qfl h e2 e3 e1 hc hn
def qc6 [Lent] (C : qa) (μ : MMap) (G : AH) (ids : List Nat) : Prop := ∀ id d sz rs, id ∈ ids → G[id]? = some (.rows d sz rs) → ∀ m, μ id = some m → yw C μ m sz rs ∧ Lent.nw m.block
theorem qds [Lent] {a x : AV} {v : Value} (hr : Rep C μ a v) (h : a.unl = some x) : Rep0 (LC C) x v ∧ x.isCell = true ∧ x.refsLt 0 = true := by
 unfold AV.unl at h
 split at h
 ·cases h; cases hr; exact ⟨.int _ _, rfl, rfl⟩
 ·cases h; cases hr; exact ⟨.bool _, rfl, rfl⟩
 ·cases h; cases hr; exact ⟨.str _, rfl, rfl⟩
 ·cases h; cases hr with | lsl _ _ h0 => exact ⟨h0, rfl, rfl⟩
 ·cases h; exact ⟨hr.toEmp.monoD (fun b o v h => by cases h), rfl, rfl⟩
 ·cases h; cases hr; exact ⟨.slNil, rfl, rfl⟩
 ·cases h; cases hr with | em a cap => exact ⟨.sl [] a cap 0 (fun _ _ => undef) (fun h => absurd rfl h) (fun i row h => by simp at h) (fun i j row x h => by simp at h) (fun i j row x h => by simp at h) (fun i j row x h => by simp at h) (Nat.zero_le _) rfl, rfl, rfl⟩
 ·cases h
theorem qec : ∀ {l q : List (List AV)}, unlR l = some q → q.length = l.length ∧ ∀ (i : Nat) r, q[i]? = some r → ∃ a, l[i]? = some a ∧ datL AV.unl a = some r
 | [], q, h => by cases h; exact ⟨rfl, fun i a hi => by simp at hi⟩
 | a :: l, q, h => by
  rw [unlR] at h
  split at h
  ·rename_i x q' hx hq
   cases h
   obtain ⟨h1, h2⟩ := qec hq
   refine ⟨by simp [h1], fun i b hi => ?_⟩
   cases i with
   | zero => simp at hi; subst hi; exact ⟨a, rfl, hx⟩
   | succ i => exact h2 i b (by simpa using hi)
  ·cases h
theorem y7 [Lent] {G : AH} {μ' : MMap} {a x : AV} {v : Value} (hf : qc6 C μ G a.msId) (hr : Rep C μ a v) (h : xY G a = some x) : Rep C μ' x.lend v ∧ x.lend.refsLt 0 = true := by
 unfold xY at h
 split at h
 ·rename_i id off len
  split at h
  case h_2 => cases h
  rename_i d sz rs hid
  split at h
  case isFalse => cases h
  rename_i hle
  rw [Nat.ble_eq] at hle
  obtain ⟨rows, hrows, rfl⟩ := qiN.1 h
  obtain ⟨hql, hqg⟩ := qec hrows
  have hlen : ((rs.drop off).take len).length = len := by simp; omega
  refine ⟨.lsl rows v ?_, rfl⟩
  cases hr with
  | msN _ _ =>
   have : rows = [] := List.eq_nil_of_length_eq_zero (by rw [hql, hlen])
   subst this; exact .slNil
  | ms _ _ _ cap ad m hm hl ha =>
   obtain ⟨⟨hsz, _, hcell⟩, hnw⟩ := hf id d sz rs (by simp [AV.msId]) hid m hm
   have hrl : rows.length = len := by rw [hql, hlen]
   have addr : ∀ (i : Nat) r, rows[i]? = some r → ad = ⟨m.block, m.base + off * m.sz, none⟩ := fun i r hi => (ha (by have := (qiM.1 hi).1; omega)).1
   have cell : ∀ (i j : Nat) r x, rows[i]? = some r → r[j]? = some x → ∃ u, LC C ad.block (ad.off + i * sz + j) = some u ∧ Rep0 (LC C) x u ∧ x.isCell = true := by
    intro i j r x hi hj
    obtain ⟨a0, ha0, hd⟩ := hqg i r hi
    obtain ⟨y, hy, hyx⟩ := yS hd hj
    obtain ⟨_, hr0⟩ := qj ha0
    obtain ⟨_, u, h2, h3⟩ := (hcell _ a0 hr0).2 j y hy
    obtain ⟨k1, k2, _⟩ := qds h3 hyx
    refine ⟨u, ?_, k1, k2⟩
    rw [addr i r hi]
    unfold LC
    rw [if_pos hnw, ← h2]
    simp only
    congr 1
    rw [hsz, Nat.add_mul]; omega
   rw [← hrl] at hl ⊢
   refine .sl rows ad cap sz (fun i j => (LC C ad.block (ad.off + i * sz + j)).getD undef) (fun hne => ?_) (fun i r hi => ?_) (fun i j r x hi hj => ?_) (fun i j r x hi hj => ?_) (fun i j r x hi hj => ?_) hl ?_
   ·cases hx : rows with
    | nil => exact absurd hx hne
    | cons r l => rw [addr 0 r (by rw [hx]; rfl)]
   ·obtain ⟨a0, ha0, hd⟩ := hqg i r hi
    obtain ⟨_, hr0⟩ := qj ha0
    rw [(xL hd).1]; exact (hcell _ a0 hr0).1
   ·obtain ⟨u, e, _⟩ := cell i j r x hi hj; rw [e]; rfl
   ·obtain ⟨u, e, e2, _⟩ := cell i j r x hi hj; rw [e]; exact e2
   ·obtain ⟨u, _, _, e3⟩ := cell i j r x hi hj; exact e3
   ·rw [vB]
    intro r hr
    obtain ⟨i, hi⟩ := List.getElem?_of_mem hr
    rw [vC]
    intro x hx
    obtain ⟨j, hj⟩ := List.getElem?_of_mem hx
    obtain ⟨a0, ha0, hd⟩ := hqg i r hi
    obtain ⟨y, hy, hyx⟩ := yS hd hj
    obtain ⟨_, hr0⟩ := qj ha0
    obtain ⟨_, u, h2, h3⟩ := (hcell _ a0 hr0).2 j y hy
    exact (qds h3 hyx).2.2
 ·cases h; cases hr with | lsl _ _ h0 => exact ⟨.lsl _ _ h0, rfl⟩
 ·cases h; exact ⟨.lsl [] v (hr.toEmp.monoD (fun b o v h => by cases h)), rfl⟩
 ·cases h; cases hr; exact ⟨.lsl [] _ .slNil, rfl⟩
 ·cases h; cases hr with | em a cap => exact ⟨.lsl [] _ (.sl [] a cap 0 (fun _ _ => undef) (fun h => absurd rfl h) (fun i row h => by simp at h) (fun i j row x h => by simp at h) (fun i j row x h => by simp at h) (fun i j row x h => by simp at h) (Nat.zero_le _) rfl), rfl⟩
 ·cases h; cases hr; exact ⟨.int _ _, rfl⟩
 ·cases h; cases hr; exact ⟨.bool _, rfl⟩
 ·cases h; cases hr; exact ⟨.str _, rfl⟩
 ·cases h
theorem qfp {G : AH} {a x : AV} (h : xY G a = some x) : x.lend1 = x.lend := by
 unfold xY at h
 split at h
 ·split at h
  ·split at h
   ·obtain ⟨rows, _, rfl⟩ := qiN.1 h; rfl
   ·cases h
  ·cases h
 all_goals first | (cases h; rfl) | cases h
theorem qev {G : AH} {a x : AV} (h : xY G a = some x) : x.lendT = x.lend1 := by
 unfold xY at h
 split at h
 ·split at h
  ·split at h
   ·obtain ⟨rows, _, rfl⟩ := qiN.1 h; rfl
   ·cases h
  ·cases h
 all_goals first | (cases h; rfl) | cases h
theorem qfo {G : AH} {a x : AV} (h : y5 G a = some x) : x.lendT = x.lend1 := by
 unfold y5 at h
 split at h
 ·obtain ⟨q, _, rfl⟩ := qiN.1 h; rfl
 ·exact qev h
theorem y4 [Lent] {G : AH} {μ' : MMap} {a x : AV} {v : Value} (hf : ∀ ids, qc6 C μ G ids) (hr : Rep C μ a v) (h : y5 G a = some x) : Rep C μ' x.lend1 v ∧ x.lend1.refsLt 0 = true := by
 unfold y5 at h
 split at h
 ·rename_i cs
  obtain ⟨q, hq, rfl⟩ := qiN.1 h
  obtain ⟨hl, hg⟩ := xL hq
  cases hr with
  | agg _ us hlu hh =>
   have key : ∀ (j : Nat) y, q[j]? = some y → ∃ a, cs[j]? = some a ∧ xY G a = some y := fun j y hj => yS hq hj
   refine ⟨Rep.agg _ us (by simp [hl, hlu]) (fun j y u h1 h2 => ?_), ?_⟩
   ·obtain ⟨y, h1', rfl⟩ := qb h1
    obtain ⟨a, ha, hax⟩ := key j y h1'
    exact (y7 (hf _) (hh j a u ha h2) hax).1
   ·show (AV.agg (q.map AV.lend)).refsLt 0 = true
    rw [AV.refsLt, vC]
    intro y hy
    obtain ⟨y, hy', rfl⟩ := List.mem_map.1 hy
    obtain ⟨j, hj⟩ := List.getElem?_of_mem hy'
    obtain ⟨a, ha, hax⟩ := key j y hj
    have hlt : j < us.length := by rw [← hlu]; exact (qiM.1 ha).1
    exact (y7 (μ' := μ') (hf _) (hh j a _ ha (qiS hlt)) hax).2
 ·have hl : x.lend1 = x.lend := qfp h
  rw [hl]; exact y7 (hf _) hr h
theorem qfn [Lent] {G : AH} {μ' : MMap} {a x : AV} {v : Value} (hf : ∀ ids, qc6 C μ G ids) (hr : Rep C μ a v) (h : qgd G a = some x) : Rep C μ' x.lendT v ∧ x.lendT.refsLt 0 = true := by
 unfold qgd at h
 split at h
 ·rename_i cs
  obtain ⟨q, hq, rfl⟩ := qiN.1 h
  obtain ⟨hl, hg⟩ := xL hq
  cases hr with
  | tup _ us hlu hh =>
   have key : ∀ (j : Nat) y, q[j]? = some y → ∃ a, cs[j]? = some a ∧ y5 G a = some y := fun j y hj => yS hq hj
   refine ⟨Rep.tup _ us (by simp [hl, hlu]) (fun j y u h1 h2 => ?_), ?_⟩
   ·obtain ⟨y, h1', rfl⟩ := qb h1
    obtain ⟨a, ha, hax⟩ := key j y h1'
    exact (y4 hf (hh j a u ha h2) hax).1
   ·show (AV.tup (q.map AV.lend1)).refsLt 0 = true
    rw [AV.refsLt, vC]
    intro y hy
    obtain ⟨y, hy', rfl⟩ := List.mem_map.1 hy
    obtain ⟨j, hj⟩ := List.getElem?_of_mem hy'
    obtain ⟨a, ha, hax⟩ := key j y hj
    have hlt : j < us.length := by rw [← hlu]; exact (qiM.1 ha).1
    exact (y4 (μ' := μ') hf (hh j a _ ha (qiS hlt)) hax).2
 ·have hl : x.lendT = x.lend1 := qfo h
  rw [hl]; exact y4 hf hr h
theorem qgf [Lent] {G : AH} {w1 : World} (h : Wld C μ G w1) : ∃ C', (∀ b o v, C b o = some v → C' b o = some v) ∧ Wld C' μ (ql (List.range G.length) G) w1 ∧ (∀ k, k ≤ G.length → Ext k C μ G w1 C' μ (ql (List.range G.length) G) w1) ∧ ∀ ids, qc6 C' μ G ids := by
 obtain ⟨C3, a1, a2, a3⟩ := qy (List.range G.length) h
 refine ⟨C3, a1, a2, a3, fun ids id d sz rs _ hi m hm => ?_⟩
 have hr : qk G id = some (sz, rs) := by unfold qk; rw [hi]
 exact ⟨(qJ.of a2 id sz rs (List.mem_range.2 (qiM.1 hi).1) hr).1 m hm, (h.liveH hi rfl hm _ m.has_block).2.2.2⟩
theorem qh0 [Lent] {m : MI} {w : World} (h : qw C μ w m .reg) : vY m.D w := by
 have h : ∀ b o v, m.D b o = some v → w.cell? ⟨b, o, none⟩ = some v ∧ w.frozen? ⟨b, o, none⟩ = false := h
 refine ⟨fun b o v hd => ⟨(h b o v hd).2, by rw [(h b o v hd).1]; rfl⟩, fun b o hr => .inl fun j hj => ?_, fun b o _ ⟨x, l, c, hs⟩ => by rw [(h _ _ _ hs).1, hs]⟩
 obtain ⟨⟨k, h0⟩, ⟨n, h1⟩, ⟨s, h2⟩, x, l, c, h3⟩ := hr
 match j, hj with
 | 0, _ => exact (h _ _ _ h0).1.trans h0.symm
 | 1, _ => exact (h _ _ _ h1).1.trans h1.symm
 | 2, _ => exact (h _ _ _ h2).1.trans h2.symm
 | 3, _ => exact (h _ _ _ h3).1.trans h3.symm
 | j + 4, hj => omega
theorem Wld.oneR [Lent] (h : Wld C μ H w) {b0 : ABlk} {id : Nat} (hb0 : b0 = .reg ∨ b0 = .spl) (hi : H[id]? = some b0) : Wld C (fun k => if k = 0 then μ id else none) [.spl] w := by
 have hl0 : b0.live = true := by rcases hb0 with rfl | rfl <;> rfl
 have only : ∀ (k : Nat) b, ([.spl] : AH)[k]? = some b → k = 0 ∧ b = .spl := fun k b hk => by
  cases k with
  | zero => simp at hk; exact ⟨rfl, hk.symm⟩
  | succ k => simp at hk
 refine ⟨h.cl, fun k m hk => ?_, fun k hk => ?_, fun k b hk hb => ?_, fun k d sz rs hk => ?_, fun i i' b b' m m' e1 e2 _ _ _ _ _ _ _ => ?_, fun k b hk => ?_, h.lnt⟩
 ·split at hk
  ·rename_i e; subst e; simp
  ·cases hk
 ·have := (only k _ hk).2; cases this
 ·obtain ⟨rfl, rfl⟩ := only k b hk
  simp only [if_true]
  refine ⟨fun hn => rfl, fun m hm => ?_⟩
  have h4 := (h.liveM hi hl0 hm).2.2
  refine ⟨h.liveH hi hl0 hm, ?_⟩
  rcases hb0 with rfl | rfl
  ·exact qh0 h4
  ·exact h4
 ·have := (only k _ hk).2; cases this
 ·rw [(only i b e1).1, (only i' b' e2).1]
 ·obtain ⟨rfl, rfl⟩ := only k b hk
  trivial
theorem Wld.putBackR [Lent] (h : Wld C μ H w) {b0 : ABlk} {id : Nat} (hb0 : b0 = .reg ∨ b0 = .spl) (hi : H[id]? = some b0) {l : AH} {C2 : qa} {μ2 : MMap} {w1 : World}
  (h2 : Wld C2 μ2 (.spl :: l) w1) (hx : Ext 1 C (fun k => if k = 0 then μ id else none) [.spl] w C2 μ2 (.spl :: l) w1) :
  Wld C2 (fun i => if i = id then μ2 0 else μ i) (H.set id .spl) w1 ∧ Ext H.length C μ H w C2 (fun i => if i = id then μ2 0 else μ i) (H.set id .spl) w1 := by
 have hl0 : b0.live = true := by rcases hb0 with rfl | rfl <;> rfl
 have h20 : (ABlk.spl :: l)[0]? = some .spl := rfl
 have hmu : MLe μ (fun i => if i = id then μ2 0 else μ i) := by
  intro i m hm
  by_cases e : i = id
  ·subst e; simp only [↓reduceIte]; exact hx.mu 0 m (by omega) (by simpa using hm)
  ·simp only [if_neg e]; exact ⟨m, hm, .refl m⟩
 have nl : ∀ b, (∀ m, μ id = some m → ¬ m.has b) → ¬ Live [.spl] (fun k => if k = 0 then μ id else none) b := by
  rintro b hb ⟨i, bi, mi, e1, _, e3, e4⟩
  simp only at e3
  split at e3
  ·exact hb _ e3 e4
  ·cases e3
 have hlen : id < H.length := (qiM.1 hi).1
 have aux : ∀ (j : Nat) bj, (H.set id .spl)[j]? = some bj → (j = id ∧ bj = .spl) ∨ (j ≠ id ∧ H[j]? = some bj) := by
  intro j bj hj
  rw [qiT] at hj
  split at hj
  ·rename_i e; subst e
   try rw [if_pos hlen] at hj
   cases hj; exact .inl ⟨rfl, rfl⟩
  ·rename_i e; exact .inr ⟨fun e' => e e'.symm, hj⟩
 have apart : ∀ (j : Nat) bj mj, j ≠ id → H[j]? = some bj → bj.live = true → μ j = some mj → ∀ x, mj.has x → x < w.heap.size ∧ ¬ Live [.spl] (fun k => if k = 0 then μ id else none) x := by
  intro j bj mj hne e hb f1 x hxj
  exact ⟨(h.liveH e hb f1 x hxj).1, nl _ fun m hm he => hne (h.inj j id bj _ mj m e hi hb hl0 f1 hm x hxj he)⟩
 refine ⟨⟨h2.cl, fun j mj hj => ?_, fun j hj => ?_, fun j b hj hb => ?_, fun j d sz rs hj => ?_, fun i i' b b' m1 m2 e1 e2 e3 e4 e5 e6 x e7 e8 => ?_, ?_, h2.lnt⟩,
  ⟨hx.os, hx.tape, hx.output, hx.size, hx.cl, fun i m _ hm => hmu i m hm, fun b hb hnl => ?_, by simp⟩⟩
 ·simp only [List.length_set]
  by_cases e : j = id
  ·subst e; exact hlen
  ·rw [if_neg e] at hj; exact h.dom j mj hj
 ·rcases aux j _ hj with ⟨_, e⟩ | ⟨hne, e⟩
  ·cases e
  ·simp only [if_neg hne]; exact h.res j e
 ·rcases aux j b hj with ⟨rfl, rfl⟩ | ⟨hne, e⟩
  ·simp only [if_true]
   refine ⟨fun _ => rfl, fun m hm => ⟨h2.liveH h20 rfl hm, (h2.liveM h20 rfl hm).2.2⟩⟩
  ·simp only [if_neg hne]
   refine ⟨(h.live j b e hb).1, fun mj f1 => ?_⟩
   obtain ⟨f2, f4⟩ := (h.live j b e hb).2 mj f1
   have q := fun x (hxj : mj.has x) => hx.fr x (f2 x hxj).1 (apart j b mj hne e hb f1 x hxj).2
   exact ⟨fun x hxj => ⟨Nat.lt_of_lt_of_le (f2 x hxj).1 hx.size, fun o => by rw [(q x hxj).2.2]; exact (f2 x hxj).2.1 o, (f2 x hxj).2.2⟩, f4.monoG hx.cl hmu (fun x hxj => (q x hxj).1)⟩
 ·rcases aux j _ hj with ⟨_, e⟩ | ⟨hne, e⟩
  ·cases e
  ·simp only [if_neg hne]
   refine ⟨(h.froz j d sz rs e).1, fun mj f1 => ?_⟩
   obtain ⟨f2, f3, f4⟩ := (h.froz j d sz rs e).2 mj f1
   exact ⟨f2, f3, f4.monoG hx.cl hmu (fun i j row x hi' hj' => by
    obtain ⟨_, v, hv, _⟩ := (f4 i row hi').2 j x hj'
    exact (hx.cl _ _ _ hv).trans hv.symm)⟩
 ·have cross : ∀ (j : Nat) bj mj m0, j ≠ id → H[j]? = some bj → bj.live = true → μ j = some mj → μ2 0 = some m0 → ∀ x, m0.has x → ¬ mj.has x := by
   intro j bj mj m0 hne e hb f1 hm0 x hx0 hxj
   obtain ⟨f2, f3⟩ := apart j bj mj hne e hb f1 x hxj
   exact (hx.fr x f2 f3).2.1 ⟨0, _, m0, h20, rfl, hm0, hx0⟩
  rcases aux i b e1 with ⟨rfl, rfl⟩ | ⟨hne, e⟩ <;> rcases aux i' b' e2 with ⟨rfl, rfl⟩ | ⟨hne', e'⟩
  ·rfl
  ·rw [if_pos rfl] at e5; rw [if_neg hne'] at e6
   exact (cross i' b' m2 m1 hne' e' e4 e6 e5 x e7 e8).elim
  ·rw [if_neg hne] at e5; rw [if_pos rfl] at e6
   exact (cross i b m1 m2 hne e e3 e5 e6 x e8 e7).elim
  ·rw [if_neg hne] at e5; rw [if_neg hne'] at e6
   exact h.inj i i' b b' m1 m2 e e' e3 e4 e5 e6 x e7 e8
 ·exact h.free.set (b := .spl) trivial
 ·obtain ⟨q1, q2, q3⟩ := hx.fr b hb (nl b fun m hm e => hnl ⟨id, _, m, hi, hl0, hm, e⟩)
  refine ⟨q1, fun hl => ?_, q3⟩
  obtain ⟨j, bj, mj, e1, e2, e3, e5⟩ := hl
  simp only at e3
  rcases aux j bj e1 with ⟨rfl, rfl⟩ | ⟨hne, e⟩
  ·rw [if_pos rfl] at e3
   exact q2 ⟨0, _, mj, h20, rfl, e3, e5⟩
  ·rw [if_neg hne] at e3
   exact hnl ⟨j, bj, mj, e, e2, e3, e5⟩
theorem Wld.oneB [Lent] (h : Wld C μ H w) {T e0 : TypeId} {s : List UInt8} {id : Nat} (hi : H[id]? = some (.bld T e0 s)) : Wld C (fun k => if k = 0 then μ id else none) [.bld T e0 s] w := by
 have hl0 : (ABlk.bld T e0 s).live = true := rfl
 have only : ∀ (k : Nat) b, ([.bld T e0 s] : AH)[k]? = some b → k = 0 ∧ b = .bld T e0 s := fun k b hk => by
  cases k with
  | zero => simp at hk; exact ⟨rfl, hk.symm⟩
  | succ k => simp at hk
 refine ⟨h.cl, fun k m hk => ?_, fun k hk => ?_, fun k b hk hb => ?_, fun k d sz rs hk => ?_, fun i i' b b' m m' e1 e2 _ _ _ _ _ _ _ => ?_, fun k b hk => ?_, h.lnt⟩
 ·split at hk
  ·rename_i e; subst e; simp
  ·cases hk
 ·have := (only k _ hk).2; cases this
 ·obtain ⟨rfl, rfl⟩ := only k b hk
  simp only [if_true]
  exact ⟨fun hn => (h.live id _ hi hl0).1 hn, fun m hm => ⟨h.liveH hi hl0 hm, (h.liveM hi hl0 hm).2.2⟩⟩
 ·have := (only k _ hk).2; cases this
 ·rw [(only i b e1).1, (only i' b' e2).1]
 ·obtain ⟨rfl, rfl⟩ := only k b hk
  trivial
theorem Wld.putBackB [Lent] (h : Wld C μ H w) {T e0 : TypeId} {s s' : List UInt8} {id : Nat} (hi : H[id]? = some (.bld T e0 s)) {l : AH} {C2 : qa} {μ2 : MMap} {w1 : World}
  (h2 : Wld C2 μ2 (.bld T e0 s' :: l) w1) (hx : Ext 1 C (fun k => if k = 0 then μ id else none) [.bld T e0 s] w C2 μ2 (.bld T e0 s' :: l) w1) :
  Wld C2 (fun i => if i = id then μ2 0 else μ i) (H.set id (.bld T e0 s')) w1 ∧ Ext H.length C μ H w C2 (fun i => if i = id then μ2 0 else μ i) (H.set id (.bld T e0 s')) w1 := by
 have hl0 : (ABlk.bld T e0 s).live = true := rfl
 have h20 : (ABlk.bld T e0 s' :: l)[0]? = some (.bld T e0 s') := rfl
 have hmu : MLe μ (fun i => if i = id then μ2 0 else μ i) := by
  intro i m hm
  by_cases e : i = id
  ·subst e; simp only [↓reduceIte]; exact hx.mu 0 m (by omega) (by simpa using hm)
  ·simp only [if_neg e]; exact ⟨m, hm, .refl m⟩
 have nl : ∀ b, (∀ m, μ id = some m → ¬ m.has b) → ¬ Live [.bld T e0 s] (fun k => if k = 0 then μ id else none) b := by
  rintro b hb ⟨i, bi, mi, e1, _, e3, e4⟩
  simp only at e3
  split at e3
  ·exact hb _ e3 e4
  ·cases e3
 have hlen : id < H.length := (qiM.1 hi).1
 have aux : ∀ (j : Nat) bj, (H.set id (.bld T e0 s'))[j]? = some bj → (j = id ∧ bj = .bld T e0 s') ∨ (j ≠ id ∧ H[j]? = some bj) := by
  intro j bj hj
  rw [qiT] at hj
  split at hj
  ·rename_i e; subst e
   try rw [if_pos hlen] at hj
   cases hj; exact .inl ⟨rfl, rfl⟩
  ·rename_i e; exact .inr ⟨fun e' => e e'.symm, hj⟩
 have apart : ∀ (j : Nat) bj mj, j ≠ id → H[j]? = some bj → bj.live = true → μ j = some mj → ∀ x, mj.has x → x < w.heap.size ∧ ¬ Live [.bld T e0 s] (fun k => if k = 0 then μ id else none) x := by
  intro j bj mj hne e hb f1 x hxj
  exact ⟨(h.liveH e hb f1 x hxj).1, nl _ fun m hm he => hne (h.inj j id bj _ mj m e hi hb hl0 f1 hm x hxj he)⟩
 refine ⟨⟨h2.cl, fun j mj hj => ?_, fun j hj => ?_, fun j b hj hb => ?_, fun j d sz rs hj => ?_, fun i i' b b' m1 m2 e1 e2 e3 e4 e5 e6 x e7 e8 => ?_, ?_, h2.lnt⟩,
  ⟨hx.os, hx.tape, hx.output, hx.size, hx.cl, fun i m _ hm => hmu i m hm, fun b hb hnl => ?_, by simp⟩⟩
 ·simp only [List.length_set]
  by_cases e : j = id
  ·subst e; exact hlen
  ·rw [if_neg e] at hj; exact h.dom j mj hj
 ·rcases aux j _ hj with ⟨_, e⟩ | ⟨hne, e⟩
  ·cases e
  ·simp only [if_neg hne]; exact h.res j e
 ·rcases aux j b hj with ⟨rfl, rfl⟩ | ⟨hne, e⟩
  ·simp only [if_true]
   refine ⟨(h2.live 0 _ h20 rfl).1, fun m hm => ⟨h2.liveH h20 rfl hm, (h2.liveM h20 rfl hm).2.2⟩⟩
  ·simp only [if_neg hne]
   refine ⟨(h.live j b e hb).1, fun mj f1 => ?_⟩
   obtain ⟨f2, f4⟩ := (h.live j b e hb).2 mj f1
   have q := fun x (hxj : mj.has x) => hx.fr x (f2 x hxj).1 (apart j b mj hne e hb f1 x hxj).2
   exact ⟨fun x hxj => ⟨Nat.lt_of_lt_of_le (f2 x hxj).1 hx.size, fun o => by rw [(q x hxj).2.2]; exact (f2 x hxj).2.1 o, (f2 x hxj).2.2⟩, f4.monoG hx.cl hmu (fun x hxj => (q x hxj).1)⟩
 ·rcases aux j _ hj with ⟨_, e⟩ | ⟨hne, e⟩
  ·cases e
  ·simp only [if_neg hne]
   refine ⟨(h.froz j d sz rs e).1, fun mj f1 => ?_⟩
   obtain ⟨f2, f3, f4⟩ := (h.froz j d sz rs e).2 mj f1
   exact ⟨f2, f3, f4.monoG hx.cl hmu (fun i j row x hi' hj' => by
    obtain ⟨_, v, hv, _⟩ := (f4 i row hi').2 j x hj'
    exact (hx.cl _ _ _ hv).trans hv.symm)⟩
 ·have cross : ∀ (j : Nat) bj mj m0, j ≠ id → H[j]? = some bj → bj.live = true → μ j = some mj → μ2 0 = some m0 → ∀ x, m0.has x → ¬ mj.has x := by
   intro j bj mj m0 hne e hb f1 hm0 x hx0 hxj
   obtain ⟨f2, f3⟩ := apart j bj mj hne e hb f1 x hxj
   exact (hx.fr x f2 f3).2.1 ⟨0, _, m0, h20, rfl, hm0, hx0⟩
  rcases aux i b e1 with ⟨rfl, rfl⟩ | ⟨hne, e⟩ <;> rcases aux i' b' e2 with ⟨rfl, rfl⟩ | ⟨hne', e'⟩
  ·rfl
  ·rw [if_pos rfl] at e5; rw [if_neg hne'] at e6
   exact (cross i' b' m2 m1 hne' e' e4 e6 e5 x e7 e8).elim
  ·rw [if_neg hne] at e5; rw [if_pos rfl] at e6
   exact (cross i b m1 m2 hne e e3 e5 e6 x e8 e7).elim
  ·rw [if_neg hne] at e5; rw [if_neg hne'] at e6
   exact h.inj i i' b b' m1 m2 e e' e3 e4 e5 e6 x e7 e8
 ·exact h.free.set (b := .bld T e0 s') trivial
 ·obtain ⟨q1, q2, q3⟩ := hx.fr b hb (nl b fun m hm e => hnl ⟨id, _, m, hi, hl0, hm, e⟩)
  refine ⟨q1, fun hl => ?_, q3⟩
  obtain ⟨j, bj, mj, e1, e2, e3, e5⟩ := hl
  simp only at e3
  rcases aux j bj e1 with ⟨rfl, rfl⟩ | ⟨hne, e⟩
  ·rw [if_pos rfl] at e3
   exact q2 ⟨0, _, mj, h20, rfl, e3, e5⟩
  ·rw [if_neg hne] at e3
   exact hnl ⟨j, bj, mj, e, e2, e3, e5⟩
theorem qbz {cf : Orac} {f : Nat} : ∀ {l : List AV}, xS cf f l = some () → ∀ (i : Nat) a, l[i]? = some a → ∃ G, cf (.f f) [a] [.spl] = some (.tup [], .spl :: G)
 | [], _, i, a, h => by simp at h
 | b :: l, h, i, a, hi => by
  rw [xS] at h
  obtain ⟨q, h1, h⟩ := qiO.1 h
  obtain ⟨u, h2, h⟩ := qiO.1 h
  cases i with
  | zero =>
   simp at hi; subst hi
   obtain ⟨r, G⟩ := q
   unfold qfR at h2
   split at h2
   ·rename_i e1 e2
    simp only at e1 e2
    subst e1 e2
    exact ⟨_, h1⟩
   ·cases h2
  | succ i => exact qbz h i a (by simpa using hi)
theorem Rep.altOf [Lent] {a : AV} {v : Value} (h : Rep C μ a v) : ∃ (i : Nat) (x : AV), a.alts[i]? = some x ∧ Rep C μ x v := by
 by_cases e : ∃ l, a = .alt l
 ·obtain ⟨l, rfl⟩ := e
  cases h with | alt _ i x _ ha h => exact ⟨i, x, ha, h⟩
 ·refine ⟨0, a, ?_, h⟩
  cases a <;> first | rfl | exact absurd ⟨_, rfl⟩ e
theorem qcs [Lent] {cfg : Cfg} {cf : Orac} (hO : xD cfg cf) {f : FuncId} {a : AV} {vs : Array Value} {s : Sem Next} (ha : qc C μ [a] vs) (h : Wld C μ H w) (hs : s = callFunc f vs) {id : Nat} {l : List Nat} (hids : qi 0 a.alts = id :: l) (hall : qU [id] l = true)
    {b0 : ABlk} (hb0 : b0 = .reg ∨ b0 = .spl) (hi : H[id]? = some b0) (ho : xS cf f (renL (fun _ => 0) a.alts) = some ()) : qq cfg.P s w (qv C μ H w (.tup []) (H.set id .spl)) := by
  obtain ⟨hl, hv⟩ := ha
  obtain ⟨v, rfl⟩ : ∃ v, vs = #[v] := by
    obtain ⟨l⟩ := vs
    match l, hl with
    | [x], _ => exact ⟨x, rfl⟩
  obtain ⟨i, x, hx, hr⟩ := (hv 0 a v rfl rfl).altOf
  have hin : ∀ y ∈ qi 0 a.alts, y ∈ [id] := by
    rw [hids]
    intro y hy
    rcases qi4.1 hy with rfl | hy
    · simp
    · exact (qA.1 hall) y hy
  have hx' : (renL (fun _ => 0) a.alts)[i]? = some (x.ren fun _ => 0) := by rw [vA, List.getElem?_map, hx]; rfl
  obtain ⟨G, hG⟩ := qbz ho i _ hx'
  have ha' : qc C (fun k => if k = 0 then μ id else none) [x.ren fun _ => 0] #[v] := ⟨rfl, fun j c u h1 h2 => by
    match j, h1, h2 with
    | 0, h1, h2 =>
      simp at h1 h2
      subst h1 h2
      refine hr.renm (k := 0) (L := [id]) (fun y my hy hmy => ?_) (fun y hy => hin y (q5 hx y hy))
      have : y = id := by rcases hy with hy | hy; · omega
                          · simpa using hy
      subst this
      simpa using hmy
    | j + 1, h1, h2 => simp at h1⟩
  refine (hO _ _ _ _ _ hG C _ w #[v] s ha' (h.oneR hb0 hi) hs).mono fun v w1 ⟨C2, μ2, e1, e2, e3⟩ => ?_
  obtain ⟨b1, b2⟩ := h.putBackR hb0 hi e2 e3
  refine ⟨C2, _, ?_, b1, b2⟩
  exact e1.free _ (by simp [AV.refsLt, qg])
theorem qhZ {id : Nat} (hi : H[id]? = some .spl) : H.set id .spl = H := by
 apply List.ext_getElem?
 intro i
 rw [qiT]
 split
 ·rename_i e; subst e; rw [hi, if_pos (qiM.1 hi).1]
 ·rfl
theorem qgP {args : List AV} {s : List Nat × AH} (h : qak H args = some s) : s.1 = qz H args := by
 unfold qak at h
 split at h
 ·split at h
  ·cases h; rfl
  ·cases h
 ·cases h
theorem qaI {L : List Nat} {G : AH} : ∀ (H : AH) (i j : Nat), (xH L G i H)[j]? = (H[j]?).map fun b => match qm (i + j) 0 L with
  | some p => (match G[p]? with | some b' => b'.ren (vn L) | none => .dead)
  | none => b
 | [], i, j => by simp [xH]
 | b :: H, i, j => by
  rw [xH]
  cases j with
  | zero => simp only [List.getElem?_cons_zero, Option.map_some, Nat.add_zero]; rfl
  | succ j =>
   rw [List.getElem?_cons_succ, List.getElem?_cons_succ, qaI H (i + 1) j, show i + 1 + j = i + (j + 1) by omega]
theorem yD {L : List Nat} {G : AH} (H : AH) (j : Nat) : (xy H L G)[j]? = (H[j]?).map fun b => match qm j 0 L with
  | some p => (match G[p]? with | some b' => b'.ren (vn L) | none => .dead)
  | none => b := by
 unfold xy
 rw [qaI, Nat.zero_add]
theorem qaH {L : List Nat} {G : AH} : ∀ (H : AH) (i : Nat), (xH L G i H).length = H.length
 | [], _ => rfl
 | b :: H, i => by rw [xH, List.length_cons, List.length_cons, qaH H (i + 1)]
theorem qaj {L : List Nat} {G : AH} (H : AH) : (xy H L G).length = H.length := qaH H 0
theorem Wld.places [Lent] (h : Wld C μ H w) (n : Nat) : Wld C μ (H ++ qi0 n .res) w where
 cl := h.cl
 lnt := h.lnt
 dom := fun id m hm => by have := h.dom id m hm; simp; omega
 res := fun id hi => by
  rcases Nat.lt_or_ge id H.length with hlt | hge
  ·rw [qiU hlt] at hi; exact h.res id hi
  ·cases hm : μ id with
   | none => rfl
   | some m => have := h.dom id m hm; omega
 live := fun id blk h1 h2 => by
  rcases Nat.lt_or_ge id H.length with hlt | hge
  ·rw [qiU hlt] at h1; exact h.live id blk h1 h2
  ·rw [qiV hge] at h1
   have := qiZ h1
   rw [List.mem_replicate] at this
   rw [this.2] at h2; cases h2
 free := fun id b h1 => by
  rcases Nat.lt_or_ge id H.length with hlt | hge
  ·rw [qiU hlt] at h1; exact h.free id b h1
  ·rw [qiV hge] at h1
   have := qiZ h1
   rw [List.mem_replicate] at this
   rw [this.2]; trivial
 froz := fun id d sz rs h1 => by
  rcases Nat.lt_or_ge id H.length with hlt | hge
  ·rw [qiU hlt] at h1; exact h.froz id d sz rs h1
  ·rw [qiV hge] at h1
   have := qiZ h1
   rw [List.mem_replicate] at this
   cases this.2
 inj := fun i i' b b' m m' h1 h2 h3 h4 => by
  have aux : ∀ (j : Nat) bj, (H ++ qi0 n .res)[j]? = some bj → bj.live = true → H[j]? = some bj := by
   intro j bj hj hl
   rcases Nat.lt_or_ge j H.length with hlt | hge
   ·rw [qiU hlt] at hj; exact hj
   ·rw [qiV hge] at hj
    have := qiZ hj
    rw [List.mem_replicate] at this
    rw [this.2] at hl; cases hl
  exact h.inj i i' b b' m m' (aux i b h1 h3) (aux i' b' h2 h4) h3 h4
theorem Live.places {n b : Nat} (h : Live (H ++ qi0 n .res) μ b) : Live H μ b := by
 obtain ⟨j, bj, m, h1, h2, h3, h4⟩ := h
 rcases Nat.lt_or_ge j H.length with hlt | hge
 ·rw [qiU hlt] at h1; exact ⟨j, bj, m, h1, h2, h3, h4⟩
 ·rw [qiV hge] at h1
  have := qiZ h1
  rw [List.mem_replicate] at this
  rw [this.2] at h2; cases h2
theorem qG {L : List Nat} (hnd : L.Nodup) {i p : Nat} : qm i 0 L = some p ↔ L[p]? = some i := by
 constructor
 ·intro h
  simpa using (vK h).2
 ·intro h
  obtain ⟨q, hq⟩ := v6 (k := 0) (qiZ h)
  have h2 : L[q]? = some i := by simpa using (vK hq).2
  have e1 := (qiM.1 h)
  have e2 := (qiM.1 h2)
  obtain ⟨l1, e1⟩ := e1
  obtain ⟨l2, e2⟩ := e2
  have hpw := List.pairwise_iff_getElem.1 hnd
  rcases Nat.lt_trichotomy q p with hlt | heq | hgt
  ·exact absurd (e2.trans e1.symm) (hpw _ _ l2 l1 hlt)
  ·rw [hq, heq]
  ·exact absurd (e1.trans e2.symm) (hpw _ _ l1 l2 hgt)
theorem qes {L : List Nat} {i : Nat} (h : qm i 0 L = none) : i ∉ L := fun hm => by
 obtain ⟨p, hp⟩ := v6 (k := 0) hm
 rw [h] at hp; cases hp
theorem qep {L : List Nat} {i p : Nat} (h : qm i 0 L = some p) : qM 0 L i = p := by
 unfold qM
 rw [if_neg (by simp [qi3]), h]
theorem qgO {L : List Nat} (hnd : L.Nodup) : ∀ id m, (id < 0 ∨ id ∈ L) → μ id = some m → (fun i => (L[i]?).bind μ) (qM 0 L id) = some m := by
 intro id m hid hm
 have hin : id ∈ L := hid.resolve_left (by omega)
 obtain ⟨p, hp⟩ := v6 (k := 0) hin
 show (L[qM 0 L id]?).bind μ = some m
 rw [qep hp, (qG hnd).1 hp]
 exact hm
theorem Wld.subL [Lent] (h : Wld C μ H w) {L : List Nat} {bs : AH} (hnd : L.Nodup) (hbs : qW H L = some bs) (hbk : ∀ x ∈ qV 0 bs, x ∈ L) :
  Wld C (fun i => (L[i]?).bind μ) (renH (qM 0 L) bs) w := by
 obtain ⟨hbl, hbg⟩ := vS hbs
 have hμ := qgO (μ := μ) hnd
 have src : ∀ (i : Nat) b', (renH (qM 0 L) bs)[i]? = some b' → ∃ o b, H[o]? = some b ∧ b' = b.ren (qM 0 L) ∧ L[i]? = some o ∧ ∀ x ∈ b.idsGe 0, x ∈ L := by
  intro i b' hi
  rw [xf] at hi
  obtain ⟨b, hb, rfl⟩ := qb hi
  have hil : i < L.length := by rw [← hbl]; exact (qiM.1 hb).1
  obtain ⟨o, ho⟩ : ∃ o, L[i]? = some o := ⟨_, qiS hil⟩
  obtain ⟨b2, e1, e2⟩ := hbg _ _ ho
  rw [hb] at e2; cases e2
  exact ⟨o, b, e1, rfl, ho, fun x hx => hbk x (x8 hb x hx)⟩
 refine ⟨h.cl, fun id m hm => ?_, fun i hi => ?_, fun i b hi hb => ?_, fun i d sz rs hi => ?_, fun i i' b b' m m' hi hi' hb hb' hm hm' x hx hx' => ?_, fun i b hi => ?_, h.lnt⟩
 ·have hm' : (L[id]?).bind μ = some m := hm
  rw [xf, List.length_map, hbl]
  cases hl : L[id]? with
  | none => rw [hl] at hm'; cases hm'
  | some o => exact (qiM.1 hl).1
 ·obtain ⟨o, b, e1, e2, e3, _⟩ := src i _ hi
  have : b = .res := by cases b <;> simp [ABlk.ren] at e2; rfl
  subst this
  show (L[i]?).bind μ = none
  rw [e3]; exact h.res o e1
 ·obtain ⟨o, b0, e1, rfl, e3, e4⟩ := src i _ hi
  rw [vD] at hb
  have : (L[i]?).bind μ = μ o := by rw [e3]; rfl
  rw [this]
  refine ⟨fun hn => by rw [qah]; exact (h.live o b0 e1 hb).1 hn, fun m h1 => ?_⟩
  obtain ⟨h2, h4⟩ := (h.live o b0 e1 hb).2 m h1
  exact ⟨h2, h4.renm hμ e4 (h.free.get e1)⟩
 ·obtain ⟨o, b0, e1, e2, e3, e4⟩ := src i _ hi
  cases b0 <;> simp [ABlk.ren] at e2
  obtain ⟨rfl, rfl, rfl⟩ := e2
  have : (L[i]?).bind μ = μ o := by rw [e3]; rfl
  rw [this]
  refine ⟨fun hn => ?_, fun m h1 => ?_⟩
  ·have := (h.froz o _ _ _ e1).1 hn
   subst this
   cases d <;> rfl
  obtain ⟨h2, h3, h4⟩ := (h.froz o _ _ _ e1).2 m h1
  cases d with
  | true => exact ⟨h2, h3, h4.free _ (h.free.get e1 rfl)⟩
  | false => exact ⟨h2, by simp only [qiW, if_false]; rw [xJ, List.length_map]; exact h3, by simp only [qiW, if_false]; exact h4.renm hμ (by simpa [ABlk.idsGe] using e4)⟩
 ·obtain ⟨o, b0, e1, rfl, e3, _⟩ := src i _ hi
  obtain ⟨o', b0', e1', rfl, e3', _⟩ := src i' _ hi'
  rw [vD] at hb hb'
  have q1 : (L[i]?).bind μ = some m := hm
  have q2 : (L[i']?).bind μ = some m' := hm'
  rw [e3] at q1; rw [e3'] at q2
  have := h.inj o o' b0 b0' m m' e1 e1' hb hb' q1 q2 x hx hx'
  subst this
  have a1 := (qG hnd).2 e3
  have a2 := (qG hnd).2 e3'
  rw [a1] at a2
  exact Option.some.inj a2
 ·obtain ⟨o, b0, e1, rfl, _, _⟩ := src i _ hi
  exact qbS (h.free.get e1)
theorem Wld.putL [Lent] (h : Wld C μ H w) {L N : List Nat} {bs G : AH} (hnd : (L ++ N).Nodup) (hbs : qW H L = some bs) (hkd : bs.all qbc = true) (hN : ∀ i ∈ N, H[i]? = some .res) {C2 : qa} {μ2 : MMap} {w1 : World}
  (hG : G.length = (L ++ N).length) (hin : ∀ x ∈ qV 0 G, x ∈ List.range G.length) (h2 : Wld C2 μ2 G w1) (hx : Ext L.length C (fun i => (L[i]?).bind μ) (renH (qM 0 L) bs) w C2 μ2 G w1) :
  Wld C2 (fun i => match qm i 0 (L ++ N) with | some p => μ2 p | none => μ i) (xy H (L ++ N) G) w1 ∧ Ext H.length C μ H w C2 (fun i => match qm i 0 (L ++ N) with | some p => μ2 p | none => μ i) (xy H (L ++ N) G) w1 := by
 obtain ⟨hbl, hbg⟩ := vS hbs
 have inL : ∀ (p i : Nat), L[p]? = some i → ∃ b, H[i]? = some b ∧ b.live = true := by
  intro p i hp
  obtain ⟨b, e1, e2⟩ := hbg p i hp
  have := List.all_eq_true.1 hkd b (qiZ e2)
  exact ⟨b, e1, by cases b <;> simp [qbc] at this <;> rfl⟩
 have hmu : MLe μ (fun i => match qm i 0 (L ++ N) with | some p => μ2 p | none => μ i) := by
  intro i m hm
  cases hp : qm i 0 (L ++ N) with
  | none => exact ⟨m, by simp only [hp]; exact hm, .refl m⟩
  | some p =>
   have hLp := (qG hnd).1 hp
   have hLp : L[p]? = some i := by
    rw [List.getElem?_append] at hLp
    split at hLp
    ·exact hLp
    ·have := h.res i (hN i (qiZ hLp))
     rw [hm] at this; cases this
   obtain ⟨m', e1, e2⟩ := hx.mu p m (qiM.1 hLp).1 (by show (L[p]?).bind μ = some m; rw [hLp]; exact hm)
   exact ⟨m', by simp only [hp]; exact e1, e2⟩
 have nl : ∀ b, (∀ (p i : Nat) m, L[p]? = some i → μ i = some m → ¬ m.has b) → ¬ Live (renH (qM 0 L) bs) (fun i => (L[i]?).bind μ) b := by
  rintro b hb ⟨i, bi, mi, e1, _, e3, e4⟩
  have e3' : (L[i]?).bind μ = some mi := e3
  cases hl : L[i]? with
  | none => rw [hl] at e3'; cases e3'
  | some o => rw [hl] at e3'; exact hb i o mi hl e3' e4
 have aux : ∀ (j : Nat) bj, (xy H (L ++ N) G)[j]? = some bj → (∃ p b', qm j 0 (L ++ N) = some p ∧ G[p]? = some b' ∧ bj = b'.ren (vn (L ++ N))) ∨ (qm j 0 (L ++ N) = none ∧ H[j]? = some bj) := by
  intro j bj hj
  rw [yD] at hj
  obtain ⟨b, hb, hj⟩ := qiN.1 hj
  cases hp : qm j 0 (L ++ N) with
  | none => rw [hp] at hj; cases hj; exact .inr ⟨rfl, hb⟩
  | some p =>
   rw [hp] at hj
   have hlt : p < G.length := by rw [hG]; exact (qiM.1 ((qG hnd).1 hp)).1
   simp only [qiS hlt] at hj
   exact .inl ⟨p, G[p], rfl, qiS hlt, hj.symm⟩
 have inG : ∀ {p : Nat} {b' : ABlk}, G[p]? = some b' → G[p]? = some b' := fun h => h
 have apart : ∀ (j : Nat) bj mj, qm j 0 (L ++ N) = none → H[j]? = some bj → bj.live = true → μ j = some mj → ∀ x, mj.has x → x < w.heap.size ∧ ¬ Live (renH (qM 0 L) bs) (fun i => (L[i]?).bind μ) x := by
  intro j bj mj hne e hb f1 x hxj
  refine ⟨(h.liveH e hb f1 x hxj).1, nl _ fun p i m hp hm he => ?_⟩
  obtain ⟨b, e1, e2⟩ := inL p i hp
  have := h.inj j i bj b mj m e e1 hb e2 f1 hm x hxj he
  subst this
  exact qes hne (qi2.2 (.inl (qiZ hp)))
 have hσ : ∀ id m, (id < 0 ∨ id ∈ List.range G.length) → μ2 id = some m → (fun i => match qm i 0 (L ++ N) with | some p => μ2 p | none => μ i) (vn (L ++ N) id) = some m := by
  intro id m hid hm
  have hlt : id < (L ++ N).length := by rw [← hG]; simpa using hid
  have hb : vn (L ++ N) id = (L ++ N)[id] := by unfold vn; rw [List.getD_eq_getElem?_getD, qiS hlt]; rfl
  have hp : qm (vn (L ++ N) id) 0 (L ++ N) = some id := by rw [hb, qG hnd]; exact qiS hlt
  simp only [hp]
  exact hm
 refine ⟨⟨h2.cl, fun j mj hj => ?_, fun j hj => ?_, fun j b hj hb => ?_, fun j d sz rs hj => ?_, fun i i' b b' m1 m2 e1 e2 e3 e4 e5 e6 x e7 e8 => ?_, fun j b hj => ?_, h2.lnt⟩,
  ⟨hx.os, hx.tape, hx.output, hx.size, hx.cl, fun i m _ hm => hmu i m hm, fun b hb hnl => ?_, by rw [qaj]; exact qiR _⟩⟩
 ·rw [qaj]
  cases hp : qm j 0 (L ++ N) with
  | none => simp only [hp] at hj; exact h.dom j mj hj
  | some p =>
   have hLp := (qG hnd).1 hp
   rw [List.getElem?_append] at hLp
   split at hLp
   ·obtain ⟨b, e1, _⟩ := inL p j hLp
    exact (qiM.1 e1).1
   ·exact (qiM.1 (hN j (qiZ hLp))).1
 ·rcases aux j _ hj with ⟨p, b', hp, hg, e⟩ | ⟨hp, e⟩
  ·have : b' = .res := by cases b' <;> simp [ABlk.ren] at e; rfl
   subst this
   simp only [hp]; exact h2.res p (inG hg)
  ·simp only [hp]; exact h.res j e
 ·rcases aux j b hj with ⟨p, b', hp, hg, rfl⟩ | ⟨hp, e⟩
  ·simp only [hp]
   rw [vD] at hb
   refine ⟨fun hn => by rw [qah]; exact (h2.live p b' (inG hg) hb).1 hn, fun m hm => ?_⟩
   obtain ⟨g1, g2⟩ := (h2.live p b' (inG hg) hb).2 m hm
   exact ⟨g1, g2.renm (k := 0) hσ (fun x hx => hin x (x8 hg x hx)) (h2.free.get (inG hg))⟩
  ·simp only [hp]
   refine ⟨(h.live j b e hb).1, fun mj f1 => ?_⟩
   obtain ⟨f2, f4⟩ := (h.live j b e hb).2 mj f1
   have q := fun x (hxj : mj.has x) => hx.fr x (f2 x hxj).1 (apart j b mj hp e hb f1 x hxj).2
   exact ⟨fun x hxj => ⟨Nat.lt_of_lt_of_le (f2 x hxj).1 hx.size, fun o => by rw [(q x hxj).2.2]; exact (f2 x hxj).2.1 o, (f2 x hxj).2.2⟩, f4.monoG hx.cl hmu (fun x hxj => (q x hxj).1)⟩
 ·rcases aux j _ hj with ⟨p, b', hp, hg, e⟩ | ⟨hp, e⟩
  ·cases b' <;> simp [ABlk.ren] at e
   obtain ⟨rfl, rfl, rfl⟩ := e
   simp only [hp]
   refine ⟨fun hn => ?_, fun m h1 => ?_⟩
   ·have := (h2.froz p _ _ _ (inG hg)).1 hn
    subst this
    cases d <;> rfl
   obtain ⟨g2, g3, g4⟩ := (h2.froz p _ _ _ (inG hg)).2 m h1
   cases d with
   | true => exact ⟨g2, g3, g4.free _ (h2.free.get (inG hg) rfl)⟩
   | false => exact ⟨g2, by simp only [qiW, if_false]; rw [xJ, List.length_map]; exact g3, by simp only [qiW, if_false]; exact g4.renm (k := 0) hσ (fun x hx => hin x (x8 hg x (by simpa [ABlk.idsGe] using hx)))⟩
  ·simp only [hp]
   refine ⟨(h.froz j d sz rs e).1, fun mj f1 => ?_⟩
   obtain ⟨f2, f3, f4⟩ := (h.froz j d sz rs e).2 mj f1
   exact ⟨f2, f3, f4.monoG hx.cl hmu (fun i j row x hi' hj' => by
    obtain ⟨_, v, hv, _⟩ := (f4 i row hi').2 j x hj'
    exact (hx.cl _ _ _ hv).trans hv.symm)⟩
 ·have cross : ∀ (j : Nat) bj mj (p : Nat) bp m0, qm j 0 (L ++ N) = none → H[j]? = some bj → bj.live = true → μ j = some mj → G[p]? = some bp → bp.live = true → μ2 p = some m0 → ∀ x, m0.has x → ¬ mj.has x := by
   intro j bj mj p bp m0 hne e hb f1 hg hbp hm0 x hx0 hxj
   obtain ⟨f2, f3⟩ := apart j bj mj hne e hb f1 x hxj
   exact (hx.fr x f2 f3).2.1 ⟨p, _, m0, inG hg, hbp, hm0, hx0⟩
  rcases aux i b e1 with ⟨p, c, hp, hg, rfl⟩ | ⟨hp, e⟩ <;> rcases aux i' b' e2 with ⟨p', c', hp', hg', rfl⟩ | ⟨hp', e'⟩
  ·simp only [hp] at e5
   simp only [hp'] at e6
   rw [vD] at e3 e4
   have := h2.inj p p' c c' m1 m2 (inG hg) (inG hg') e3 e4 e5 e6 x e7 e8
   subst this
   have a1 := (qG hnd).1 hp
   have a2 := (qG hnd).1 hp'
   rw [a1] at a2
   exact Option.some.inj a2
  ·simp only [hp] at e5
   simp only [hp'] at e6
   rw [vD] at e3
   exact (cross i' b' m2 p c m1 hp' e' e4 e6 hg e3 e5 x e7 e8).elim
  ·simp only [hp] at e5
   simp only [hp'] at e6
   rw [vD] at e4
   exact (cross i b m1 p' c' m2 hp e e3 e5 hg' e4 e6 x e8 e7).elim
  ·simp only [hp] at e5
   simp only [hp'] at e6
   exact h.inj i i' b b' m1 m2 e e' e3 e4 e5 e6 x e7 e8
 ·rcases aux j b hj with ⟨p, b', hp, hg, rfl⟩ | ⟨hp, e⟩
  ·exact qbS (h2.free.get (inG hg))
  ·exact h.free.get e
 ·obtain ⟨q1, q2, q3⟩ := hx.fr b hb (nl b fun p i m hp hm e => by
   obtain ⟨bi, a1, a2⟩ := inL p i hp
   exact hnl ⟨i, bi, m, a1, a2, hm, e⟩)
  refine ⟨q1, fun hl => ?_, q3⟩
  obtain ⟨j, bj, mj, e1, e2, e3, e5⟩ := hl
  rcases aux j bj e1 with ⟨p, b', hp, hg, rfl⟩ | ⟨hp, e⟩
  ·simp only [hp] at e3
   rw [vD] at e2
   exact q2 ⟨p, b', mj, inG hg, e2, e3, e5⟩
  ·simp only [hp] at e3
   exact hnl ⟨j, bj, mj, e, e2, e3, e5⟩
theorem qed [Lent] {n : Nat} {q p : AV × AH} {v : Value} {w1 : World} {C0 C2 : qa} {μ0 μ2 : MMap} {G0 : AH} {w0 : World} (e1 : Rep C2 μ2 q.1 v) (e2 : Wld C2 μ2 q.2 w1) (e3 : Ext n C0 μ0 G0 w0 C2 μ2 q.2 w1) (hp : qee n q = some p) :
  ∃ C3 μ4, Rep C3 μ4 p.1 v ∧ Wld C3 μ4 p.2 w1 ∧ Ext n C0 μ0 G0 w0 C3 μ4 p.2 w1 ∧ (∀ x ∈ qV 0 p.2, x ∈ List.range p.2.length) ∧ (∀ x ∈ p.1.idsGe 0, x ∈ List.range p.2.length) ∧ n ≤ p.2.length ∧ True := by
 obtain ⟨C3, a1, a2, a3⟩ := qy (qcd n q.1) e2
 have e5 := (e1.mono a1 (fun _ _ h => h)).frzA (qJ.of a2)
 have hx := e3.trans (a3 n e3.len) (qiR _)
 have hf : qc C3 μ2 [q.1.frz (qcd n q.1) q.2] #[v] := ⟨rfl, fun i a u h1 h2 => by
  cases i with
  | zero => simp at h1 h2; subst h1; subst h2; exact e5
  | succ i => simp at h1⟩
 obtain ⟨μ4, g1, g2, g3, g4, g5⟩ := qbR a2 hf n hx.len
 unfold qee at hp
 split at hp
 case h_2 => cases hp
 rename_i r G hg
 split at hp
 case isFalse => cases hp
 rename_i hd
 cases hp
 rw [hg] at g1 g2 g4 g5
 rw [qiP, qiP, qA, qA, Nat.ble_eq] at hd
 obtain ⟨⟨hd1, hd2⟩, hd3⟩ := hd
 refine ⟨C3, μ4, g2.2 0 r v rfl rfl, g1, ⟨hx.os, hx.tape, hx.output, hx.size, hx.cl, fun id m hid hm => let ⟨m', e4, e5⟩ := hx.mu id m hid hm; ⟨m', g3 id m' hid e4, e5⟩, fun b hb hnl => ?_, g5⟩, hd3, hd2, hd1, trivial⟩
 obtain ⟨f1, f2, f3⟩ := hx.fr b hb hnl
 exact ⟨f1, fun hl => f2 (g4 b hl), f3⟩
theorem zI {H2 : AH} : ∀ {L : List Nat}, (∀ id ∈ L, H2[id]? = H[id]?) → qW H2 L = qW H L
 | [], _ => rfl
 | a :: L, h => by rw [qW, qW, h a (by simp), zI fun id hi => h id (by simp [hi])]
theorem qaC (k g : Nat) : ((List.range g).map fun j => k + j).Nodup := by
 rw [List.nodup_iff_pairwise_ne, List.pairwise_map]
 exact List.Pairwise.imp (fun h e => h (by omega)) (List.nodup_iff_pairwise_ne.1 List.nodup_range)
theorem qcc {nid : Option Nat} {g : Nat} {pl : List Nat × AH} (h : vO nid H g = some pl) :
  ∃ H1 N, (∀ (i : Nat) b, H[i]? = some b → H1[i]? = some b) ∧ N.Nodup ∧ (∀ i ∈ N, H1[i]? = some .res) ∧ N.length = g ∧ pl = (N, H1) := by
 unfold vO at h
 split at h
 ·cases h
  refine ⟨_, _, fun i b hi => ?_, qaC _ _, fun i hi => ?_, by simp, rfl⟩
  ·rw [qiU (qiM.1 hi).1]; exact hi
  ·obtain ⟨j, hj, rfl⟩ := List.mem_map.1 hi
   rw [qiV (by omega), Nat.add_sub_cancel_left, List.getElem?_replicate, if_pos (by simpa using hj)]
 ·split at h
  case isFalse => cases h
  rename_i hc
  cases h
  rw [qiP, List.all_eq_true] at hc
  refine ⟨_, _, fun i b hi => hi, qaC _ _, fun i hi => ?_, by simp, rfl⟩
  obtain ⟨j, hj, rfl⟩ := List.mem_map.1 hi
  have := hc.2 j hj
  unfold qgk at this
  split at this
  ·assumption
  ·cases this
theorem qdI [Lent] (h : Wld C μ H w) {nid : Option Nat} {g : Nat} {pl : List Nat × AH} (hp : vO nid H g = some pl) : Wld C μ pl.2 w ∧ Ext H.length C μ H w C μ pl.2 w ∧ H.length ≤ pl.2.length := by
 unfold vO at hp
 split at hp
 ·cases hp
  exact ⟨h.places _, ⟨rfl, rfl, rfl, qiR _, fun _ _ _ h => h, fun _ _ _ h => ⟨_, h, .refl _⟩, fun b _ hnl => ⟨rfl, fun hl => hnl hl.places, rfl⟩, by simp⟩, by simp⟩
 ·split at hp
  ·cases hp
   exact ⟨h, Ext.refl (qiR _), qiR _⟩
  ·cases hp
theorem qbD [Lent] {cfg : Cfg} {cf : Orac} (hO : xD cfg cf) {nid : Option Nat} {t : Tgt} {args : List AV} {vs : Array Value} {s : Sem Next} {r : AV} (ha : qc C μ args vs) (h : Wld C μ H w) (ht : qhW μ t vs s)
    (he : qI cfg cf nid t args H = some (r, H')) : qq cfg.P s w (qv C μ H w r H') := by
  have imp : ∀ {r1 : AV} {H1 : AH} {v : Value} {w1 : World}, zb nid H.length r1 H1 = some (r, H') → qv C μ H w r1 H1 v w1 → qv C μ H w r H' v w1 := by
    intro r1 H1 v w1 hi ⟨C1, μ1, e1, e2, e3⟩
    have hf : qc C1 μ1 [r1] #[v] := ⟨rfl, fun i a u h1 h2 => by
      cases i with
      | zero => simp at h1 h2; subst h1; subst h2; exact e1
      | succ i => simp at h1⟩
    obtain ⟨μ', g1, g2, g3, g4, g5⟩ := qbR e2 hf H.length e3.len
    have fin : ∀ {r' : AV} {H2 : AH}, gc H.length [r1] H1 = ([r'], H2) → qv C μ H w r' H2 v w1 := by
      intro r' H2 hg
      rw [hg] at g1 g2 g4 g5
      refine ⟨C1, μ', g2.2 0 r' v rfl rfl, g1, ⟨e3.os, e3.tape, e3.output, e3.size, e3.cl, fun id m hid hm => let ⟨m', e4, e5⟩ := e3.mu id m hid hm; ⟨m', g3 id m' hid e4, e5⟩, fun b hb hnl => ?_, g5⟩⟩
      obtain ⟨f1, f2, f3⟩ := e3.fr b hb hnl
      exact ⟨f1, fun hl => f2 (g4 b hl), f3⟩
    unfold zb at hi
    split at hi
    · rename_i r' H2 hg
      split at hi
      · cases hi; exact fin hg
      · split at hi
        · cases hi; exact fin hg
        · cases hi
    · cases hi
  unfold qI at he
  split at he
  · rename_i id
    obtain ⟨q, hq, hi⟩ := qiO.1 he
    exact (hO _ _ _ _ _ hq C μ w vs s ha h ht).mono fun v w1 hp => imp hi hp
  · rename_i f
    split at he
    · -- scal
      split at he
      case isFalse => cases he
      rename_i hfree
      obtain ⟨q, hq, hi⟩ := qiO.1 he
      split at hi
      case isFalse => cases hi
      rename_i hsc
      cases hi
      obtain ⟨C1, a1, a2, a3⟩ := qy (List.range H.length) h
      have hrg := qfc (C1 := C1) h a2.cl
      have hall := (qJ.of a2).mono (C' := vm C1 μ H w) (fun _ _ _ h => qb9 h)
      replace a1 : ∀ b o v, C b o = some v → vm C1 μ H w b o = some v := fun b o v hh => qb9 (a1 b o v hh)
      have hnil : Wld (vm C1 μ H w) (fun _ => none) [] w := { cl := fun b o v hh => qeb a2.cl hh, dom := (fun id m hm => nomatch hm), res := fun id hi => rfl, live := (fun id blk h1 => by simp at h1), froz := (fun id d sz rs h1 => by simp at h1), inj := (fun i i' b b' m m' h1 => by simp at h1), free := xx.nil, lnt := ⟨h.lnt.1, fun hu b o v hn hh => qfb h (fun o v => a2.lnt.2.1 hu b o v hn) hh, h.lnt.2.2⟩ }
      have hid : ∀ id, id < H.length → id ∈ List.range H.length := fun id h => List.mem_range.2 h
      have ha1 : qc (vm C1 μ H w) μ (args.map fun a => (a.snap H).fg) vs := ⟨by simpa using ha.1, fun i a v h1 h2 => by
        obtain ⟨b, hb, rfl⟩ := qb h1
        exact (((ha.2 i b v hb h2).mono a1 (fun _ _ h => h)).snapA hrg hid hall).fgA⟩
      refine (hO _ _ _ _ _ hq _ (fun _ => none) w vs s (ha1.free _ hfree) hnil ht).mono fun v w1 ⟨C2, μ2, e1, e2, e3⟩ => ?_
      have hfr : ∀ b, b < w.heap.size → w1.heap[b]? = w.heap[b]? := fun b hb => (e3.fr b hb vg).1
      exact ⟨C, μ, e1.scalarA hsc, h.world e3.size (fun b hb => hfr b hb), ⟨e3.os, e3.tape, e3.output, e3.size, fun _ _ _ h => h, fun _ _ _ h => ⟨_, h, .refl _⟩, fun b hb hnl => ⟨hfr b hb, hnl, rfl⟩, qiR _⟩⟩
    · -- pfrz
      split at he
      case isFalse => cases he
      rename_i hfree
      obtain ⟨q, hq, hi⟩ := qiO.1 he
      split at hi
      case isFalse => cases hi
      rename_i hrf
      cases hi
      refine (hO _ _ _ _ _ hq C (fun _ => none) w vs s (ha.fg.free _ hfree) h.nil ht).mono fun v w1 ⟨C2, μ2, e1, e2, e3⟩ => ?_
      obtain ⟨C3, a1, a2, a3⟩ := qy q.1.msIds e2
      obtain ⟨b1, b2⟩ := h.back (e3.trans (a3 0 (Nat.zero_le _)) (qiR _)) a2
      exact ⟨C3, μ, ((e1.mono a1 (fun _ _ h => h)).frzA (qJ.of a2)).fgA.free μ hrf, b1, b2 _ (qiR _)⟩
    · -- pown
      split at he
      case isFalse => cases he
      rename_i hfree
      obtain ⟨q, hq, hi⟩ := qiO.1 he
      refine (hO _ _ _ _ _ hq C (fun _ => none) w vs s (ha.free _ hfree) h.nil ht).mono fun v w1 ⟨C2, μ2, e1, e2, e3⟩ => ?_
      unfold qet at hi
      split at hi
      · rename_i a sc hqr
        split at hi
        case isFalse => cases hi
        rename_i hsc
        obtain ⟨p, hp, hpe⟩ := qiN.1 hi
        cases hpe
        rw [hqr] at e1
        cases e1 with
        | tup _ vs hl hr =>
          match vs, hl, hr with
          | [va, vb], _, hr =>
            obtain ⟨C3, μ3, f1, f2, f3⟩ := qcq h e2 e3 (hr 0 a va rfl rfl) hp
            refine ⟨C3, μ3, ?_, f2, f3⟩
            have := Rep.tup (C := C3) (μ := μ3) [p.1, sc] [va, vb] rfl (fun i x u hx hu => by
              match i, hx, hu with
              | 0, hx, hu => simp at hx hu; subst hx hu; exact f1
              | 1, hx, hu => simp at hx hu; subst hx hu; exact (hr 1 _ _ rfl rfl).scalar1 hsc
              | i + 2, hx, hu => simp at hx)
            exact this
      · exact qcq h e2 e3 e1 hi
    · -- wfrz
      split at he
      case isFalse => cases he
      rename_i hfree
      obtain ⟨q, hq, hi⟩ := qiO.1 he
      split at hi
      case isFalse => cases hi
      rename_i hrf
      cases hi
      refine (hO _ _ _ _ _ hq C (fun _ => none) w vs s (ha.free _ hfree) h.nil ht).mono fun v w1 ⟨C2, μ2, e1, e2, e3⟩ => ?_
      obtain ⟨C3, a1, a2, a3⟩ := qy q.1.msIdsW e2
      obtain ⟨b1, b2⟩ := h.back (e3.trans (a3 0 (Nat.zero_le _)) (qiR _)) a2
      exact ⟨C3, μ, ((e1.mono a1 (fun _ _ h => h)).frzWA (qJ.of a2)).free μ hrf, b1, b2 _ (qiR _)⟩
    · -- nfrz
      split at he
      case isFalse => cases he
      rename_i hfree
      obtain ⟨q, hq, hi⟩ := qiO.1 he
      obtain ⟨V, hV, hpe⟩ := qiN.1 hi
      cases hpe
      refine (hO _ _ _ _ _ hq C (fun _ => none) w vs s (ha.fg.free _ hfree) h.nil ht).mono fun v w1 ⟨C2, μ2, e1, e2, e3⟩ => ?_
      obtain ⟨C3, a1, a2, a3, a4⟩ := qgf e2
      obtain ⟨b1, b2⟩ := h.back (e3.trans (a3 0 (Nat.zero_le _)) (qiR _)) a2
      exact ⟨C3, μ, (qfn a4 (e1.mono a1 (fun _ _ h => h)) hV).1, b1, b2 _ (qiR _)⟩
    · -- mut
      split at he
      case h_2 =>
        split at he
        case isFalse => cases he
        rename_i hfree
        obtain ⟨q, hq, hi⟩ := qiO.1 he
        split at hi
        case isFalse => cases hi
        rename_i hrf
        cases hi
        refine (hO _ _ _ _ _ hq C (fun _ => none) w vs s (ha.free _ hfree) h.nil ht).mono fun v w1 ⟨C2, μ2, e1, e2, e3⟩ => ?_
        obtain ⟨b1, b2⟩ := h.back e3 e2
        exact ⟨C2, μ, e1.free μ hrf, b1, b2 _ (qiR _)⟩
      rename_i id l hids
      split at he
      case isFalse => cases he
      rename_i hall
      split at he
      case h_2 => cases he
      rename_i d0 sz rs hid
      split at he
      case isFalse => cases he
      rename_i hd0
      have hrr : qf 0 rs = true := by
        rw [Bool.or_eq_true] at hd0
        exact hd0.elim (fun hd => h.free.get hid hd) (fun h => h)
      obtain ⟨q, hq, hi⟩ := qiO.1 he
      obtain ⟨p, hp, hpe⟩ := qiN.1 hi
      cases hpe
      have hin : ∀ x ∈ qi 0 args, x ∈ [id] := by
        rw [hids]
        intro x hx
        rcases qi4.1 hx with rfl | hx
        · simp
        · exact (qA.1 hall) x hx
      have ha' : qc C (fun k => if k = 0 then μ id else none) (renL (fun _ => 0) args) vs := ha.renm (k := 0) (L := [id]) (fun x mx hx hmx => by
        have : x = id := by rcases hx with hx | hx; · omega
                            · simpa using hx
        subst this
        simpa using hmx) hin
      refine (hO _ _ _ _ _ hq C _ w vs s ha' (h.one hrr hid) ht).mono fun v w1 ⟨C2, μ2, e1, e2, e3⟩ => ?_
      unfold qg4 at hp
      split at hp
      case h_2 => cases hp
      rename_i sz' rs' l' hq2
      split at hp
      case isFalse => cases hp
      rename_i hc
      cases hp
      rw [qiP] at hc
      have hsz := qiQ hc.1
      subst hsz
      rw [hq2] at e2 e3
      obtain ⟨b1, b2⟩ := h.putBack hid e2 e3
      refine ⟨C2, _, ?_, b1, b2⟩
      refine e1.renm (k := 0) (L := [0]) (fun x mx hx hmx => ?_) (fun x hx => (qA.1 hc.2) x hx)
      have : x = 0 := by rcases hx with hx | hx; · omega
                         · simpa using hx
      subst this
      simpa using hmx
    · -- imp
      obtain ⟨q, hq, hi⟩ := qiO.1 he
      exact (hO _ _ _ _ _ hq C μ w vs s ha h ht).mono fun v w1 hp => imp hi hp
    · -- ifrz
      obtain ⟨q, hq, hi⟩ := qiO.1 he
      refine (hO _ _ _ _ _ hq C μ w vs s ha h ht).mono fun v w1 ⟨C2, μ2, e1, e2, e3⟩ => imp hi ?_
      obtain ⟨C3, a1, a2, a3⟩ := qy q.1.msIds e2
      exact ⟨C3, μ2, (e1.mono a1 (fun _ _ h => h)).frzA (qJ.of a2), a2, e3.trans (a3 _ e3.len) (qiR _)⟩
    · -- inpf
      split at he
      case h_2 => cases he
      rename_i id l hids
      split at he
      case isFalse => cases he
      rename_i hall
      split at he
      case h_2 => cases he
      rename_i d0 sz rs hid
      split at he
      case isFalse => cases he
      rename_i hd0
      have hrr : qf 0 rs = true := by
        rw [Bool.or_eq_true] at hd0
        exact hd0.elim (fun hd => h.free.get hid hd) (fun h => h)
      obtain ⟨q, hq, hi⟩ := qiO.1 he
      obtain ⟨p, hp, hpe⟩ := qiN.1 hi
      cases hpe
      have hin : ∀ x ∈ qi 0 args, x ∈ [id] := by
        rw [hids]
        intro x hx
        rcases qi4.1 hx with rfl | hx
        · simp
        · exact (qA.1 hall) x hx
      have ha' : qc C (fun k => if k = 0 then μ id else none) (renL (fun _ => 0) args) vs := ha.renm (k := 0) (L := [id]) (fun x mx hx hmx => by
        have : x = id := by rcases hx with hx | hx; · omega
                            · simpa using hx
        subst this
        simpa using hmx) hin
      refine (hO _ _ _ _ _ hq C _ w vs s ha' (h.one hrr hid) ht).mono fun v w1 ⟨C2, μ2, e1, e2, e3⟩ => ?_
      unfold qhc at hp
      split at hp
      case h_2 => cases hp
      rename_i sz' rs' l' hq2
      split at hp
      case isFalse => cases hp
      rename_i hc
      cases hp
      rw [qiP, qiP] at hc
      have hsz := qiQ hc.1.1
      subst hsz
      obtain ⟨C3, a1, a2, a3⟩ := qy q.1.msIds e2
      have e5 := fun μ => ((e1.mono a1 (fun _ _ h => h)).frzA (qJ.of a2)).fgA.free μ hc.2
      have hx := e3.trans (a3 1 (by rw [hq2]; simp)) (qiR _)
      obtain ⟨l2, hl2⟩ := zc (l := l') (b := .rows true sz' rs') q.1.msIds hc.1.2
      rw [hq2, hl2] at a2 hx
      obtain ⟨b1, b2⟩ := h.putBack hid a2 hx
      exact ⟨C3, _, e5 _, b1, b2⟩
    · -- slf
      split at he
      case h_2 => cases he
      rename_i id l hids
      split at he
      case isFalse => cases he
      rename_i hall
      split at he
      case h_2 => cases he
      rename_i d0 sz rs hid
      split at he
      case isFalse => cases he
      rename_i hrr
      rw [qA] at hrr
      obtain ⟨q, hq, hi⟩ := qiO.1 he
      obtain ⟨p, hp, hpe⟩ := qiN.1 hi
      cases hpe
      have hin : ∀ x ∈ qi 0 args, x ∈ [id] := by
        rw [hids]
        intro x hx
        rcases qi4.1 hx with rfl | hx
        · simp
        · exact (qA.1 hall) x hx
      have ha' : qc C (fun k => if k = 0 then μ id else none) (renL (fun _ => 0) args) vs := ha.renm (k := 0) (L := [id]) (fun x mx hx hmx => by
        have : x = id := by rcases hx with hx | hx; · omega
                            · simpa using hx
        subst this
        simpa using hmx) hin
      refine (hO _ _ _ _ _ hq C _ w vs s ha' (h.oneS hrr hid) ht).mono fun v w1 ⟨C2, μ2, e1, e2, e3⟩ => ?_
      unfold qgR at hp
      split at hp
      case h_2 => cases hp
      rename_i sz' rs' l' hq2
      split at hp
      case isFalse => cases hp
      rename_i hc
      cases hp
      rw [qiP, qiP, qiP, qA] at hc
      have hsz := qiQ hc.1.1.1
      subst hsz
      obtain ⟨C3, a1, a2, a3⟩ := qy q.1.msIds e2
      have e5 := fun μ => ((e1.mono a1 (fun _ _ h => h)).frzA (qJ.of a2)).fgA.free μ hc.1.2
      have hx := e3.trans (a3 1 (by rw [hq2]; simp)) (qiR _)
      obtain ⟨l2, hl2⟩ := zc (l := l') (b := .rows false sz' rs') q.1.msIds hc.1.1.2
      rw [hq2, hl2] at a2 hx
      obtain ⟨b1, b2⟩ := h.putBackS hid hc.2 a2 hx
      exact ⟨C3, _, e5 _, b1, b2⟩
    · -- rgn
      split at he
      case isFalse => cases he
      rename_i hfree
      obtain ⟨q, hq, hi⟩ := qiO.1 he
      obtain ⟨V, hV, hi⟩ := qiO.1 hi
      obtain ⟨p, hp, hpe⟩ := qiN.1 hi
      cases hpe
      exact (hO _ _ _ _ _ hq C (fun _ => none) w vs s (ha.fg.free _ hfree) h.nil ht).mono fun v w1 ⟨C2, μ2, e1, e2, e3⟩ => qel h e2 e3 e1 hV hp
    · -- over
      split at he
      case h_2 => cases he
      rename_i a
      split at he
      case h_2 => cases he
      rename_i id l hids
      split at he
      case isFalse => cases he
      rename_i hall
      split at he
      · rename_i hid
        obtain ⟨u, hu, hpe⟩ := qiN.1 he
        cases hpe
        exact qcs hO ha h ht hids hall (.inl rfl) hid hu
      · rename_i hid
        obtain ⟨u, hu, hpe⟩ := qiN.1 he
        cases hpe
        have := qcs hO ha h ht hids hall (.inr rfl) hid hu
        rw [qhZ hid] at this
        exact this
      · cases he
    · -- bld
      split at he
      case h_2 => cases he
      rename_i id l hids
      split at he
      case isFalse => cases he
      rename_i hall
      split at he
      case h_2 => cases he
      rename_i T e0 s0 hid
      obtain ⟨q, hq, he⟩ := qiO.1 he
      obtain ⟨p, hp, hpe⟩ := qiN.1 he
      cases hpe
      obtain ⟨q1, q2⟩ := q
      unfold qhi at hp
      split at hp
      case h_2 => cases hp
      rename_i T' e' s' G hq2
      simp only at hq2
      subst hq2
      split at hp
      case isFalse => cases hp
      rename_i hc
      cases hp
      rw [qiP, qiP] at hc
      obtain ⟨⟨c1, c2⟩, c3⟩ := hc
      obtain rfl := qiQ c1
      obtain rfl := qiQ c2
      have hin : ∀ y ∈ qi 0 args, y ∈ [id] := by
        rw [hids]
        intro y hy
        rcases qi4.1 hy with rfl | hy
        · simp
        · exact (qA.1 hall) y hy
      have ha' : qc C (fun k => if k = 0 then μ id else none) (renL (fun _ => 0) args) vs := ha.renm (k := 0) (L := [id]) (fun y my hy hmy => by
        have : y = id := by rcases hy with hy | hy; · omega
                            · simpa using hy
        subst this
        simpa using hmy) hin
      refine (hO _ _ _ _ _ hq C _ w vs _ ha' (h.oneB hid) ht).mono fun v w1 ⟨C2, μ2, e1, e2, e3⟩ => ?_
      obtain ⟨b1, b2⟩ := h.putBackB hid e2 e3
      exact ⟨C2, _, e1.free _ c3, b1, b2⟩
    · -- sub
      obtain ⟨s, h0, he⟩ := qiO.1 he
      obtain ⟨q, hq, he⟩ := qiO.1 he
      obtain ⟨p, hp, he⟩ := qiO.1 he
      obtain ⟨pl, hpl, hpe⟩ := qiN.1 he
      cases hpe
      unfold qak at h0
      split at h0
      case h_2 => cases h0
      rename_i bs hbs
      split at h0
      case isFalse => cases h0
      rename_i hc
      cases h0
      simp only at hq hp hpl ⊢
      rw [qiP, qiP, qA, qA] at hc
      obtain ⟨⟨hc1, hc2⟩, hkd⟩ := hc
      have hnd : (qz H args).Nodup := yk _ _ _ _ _ List.nodup_nil
      generalize qz H args = L at *
      have ha' : qc C (fun i => (L[i]?).bind μ) (renL (qM 0 L) args) vs := ha.renm (k := 0) (qgO hnd) hc1
      refine (hO _ _ _ _ _ hq C _ w vs _ ha' (h.subL hnd hbs hc2) ht).mono fun v w1 ⟨C2, μ2, e1, e2, e3⟩ => ?_
      have hlen : (renH (qM 0 L) bs).length = L.length := by rw [xf, List.length_map, (vS hbs).1]
      rw [hlen] at e3
      obtain ⟨C3, μ4, p1, p2, p3, p4, p5, p6, -⟩ := qed e1 e2 e3 hp
      obtain ⟨H1, N, hH, hNd, hNr, hNl, hpe⟩ := qcc hpl
      cases hpe
      have hdis : ∀ i ∈ L, i ∉ N := fun i hi hn => by
        obtain ⟨k, hk⟩ := List.getElem?_of_mem hi
        obtain ⟨b, f1, f2⟩ := (vS hbs).2 k i hk
        have := List.all_eq_true.1 hkd b (qiZ f2)
        have g := hNr i hn
        rw [hH i b f1] at g
        cases g; simp [qbc] at this
      have hnd2 : (L ++ N).Nodup := List.nodup_append.2 ⟨hnd, hNd, fun a ha b hb e => hdis a ha (e ▸ hb)⟩
      have hag : ∀ i ∈ L, H1[i]? = H[i]? := fun i hi => by
        obtain ⟨k, hk⟩ := List.getElem?_of_mem hi
        obtain ⟨b, f1, f2⟩ := (vS hbs).2 k i hk
        rw [f1]; exact hH i b f1
      have hbs1 : qW H1 L = some bs := (zI hag).trans hbs
      obtain ⟨hw1, hx1, hln⟩ := qdI h hpl
      obtain ⟨b1, b2⟩ := hw1.putL hnd2 hbs1 hkd hNr (by rw [List.length_append, hNl]; omega) p4 p2 p3
      refine ⟨C3, _, p1.renm (k := 0) (fun id m hid hm => ?_) p5, b1, hx1.trans b2 hln⟩
      have hlt : id < (L ++ N).length := by
        have : id < p.2.length := by simpa using hid
        rw [List.length_append, hNl]; omega
      have hb : vn (L ++ N) id = (L ++ N)[id] := by unfold vn; rw [List.getD_eq_getElem?_getD, qiS hlt]; rfl
      have hpl : qm (vn (L ++ N) id) 0 (L ++ N) = some id := by rw [hb, qG hnd2]; exact qiS hlt
      simp only [hpl]
      exact hm
variable {C C' C1 C2 : qa} {μ μ' μ1 : MMap} {H H' H1 : AH} {w w' w1 : World} {P : Program}
theorem qq.of_run {s s' : Sem Next} {R : Value → World → Prop} (h : s.run P w = s'.run P w) (hc : qq P s' w R) : qq P s w R := by
 unfold qq at *
 rw [h]; exact hc
theorem zy.callR [Lent] {s : Sem Next} {r : AV} (h : zy P s C μ H w r H') : qq P s w (qv C μ H w r H') := by
 obtain ⟨n, w', C', μ', h1, h2, h3, h4⟩ := h
 unfold qq
 rw [h1]
 rcases h2 with ⟨v, rfl, hr⟩ | ⟨rfl, rfl⟩
 ·exact ⟨C', μ', hr, h3, h4⟩
 ·exact ⟨C', μ', .junk _, h3, h4⟩
theorem qaA {ρ : Operand → Value} {c : Call} {f : Operand} (hc : c.callee = .value f) (ty : TypeId) : resolve ρ c ty = Deferred.ofValue (ρ f) (c.args.map ρ) := by
 obtain ⟨callee, args, argTypes⟩ := c
 simp only at hc
 subst hc
 rfl
theorem qfC [Lent] {cfg : Cfg} {cf : Orac} (hO : xD cfg cf) {nid : Option Nat} {o : Oper} {c : Call} {f : Operand} (ho : o.op = .call c) (hf : c.callee = .value f) {x : Operand → AV} {ρ : Operand → Value} (hx : ∀ a, Rep C μ (x a) (ρ a)) (h : Wld C μ H w) {r : AV}
  (he : ((v7 (x f) (c.args.toList.map x)).bind fun t => qI cfg cf nid t.1 t.2 H) = some (r, H')) : qq cfg.P (execOp ρ o) w (qv C μ H w r H') := by
 obtain ⟨t, ht, he⟩ := qiO.1 he
 have hargs : ∀ (i : Nat) a v, (c.args.toList.map x)[i]? = some a → (c.args.toList.map ρ)[i]? = some v → Rep C μ a v := qbO hx _
 have hfv := hx f
 have hex : execOp ρ o = (do let d ← Deferred.ofValue (ρ f) (c.args.map ρ); invoke d.target d.args) := by
  unfold execOp
  simp only [ho]
  rw [← qaA hf o.type]
 unfold v7 at ht
 split at ht
 ·rename_i g first caps hxf
  cases ht
  rw [hxf] at hfv
  generalize hv : ρ f = vf at hfv
  cases hfv with
  | fn _ _ _ vf vc hl1 hl2 h1 h2 =>
   rw [hv] at hex
   refine qq.of_run (s' := callFunc g (vf.toArray ++ c.args.map ρ ++ vc.toArray)) ?_ (qbD hO (t := .f g) (vs := vf.toArray ++ c.args.map ρ ++ vc.toArray) ⟨by simp [hl1, hl2], fun i a v e1 e2 => ?_⟩ h rfl he)
   ·rw [hex]
    simp [Deferred.ofValue, invoke]
   ·rw [← Array.getElem?_toList] at e2
    simp only [Array.toList_append, Array.toList_map] at e2
    have hl3 : (c.args.toList.map x).length = (c.args.toList.map ρ).length := by simp
    rcases Nat.lt_or_ge i (first.length + (c.args.toList.map x).length) with hlt | hge
    ·rw [qiU (by simpa using hlt)] at e1
     rw [qiU (by simp only [List.length_append]; omega)] at e2
     rcases Nat.lt_or_ge i first.length with hlt' | hge'
     ·rw [qiU hlt'] at e1
      rw [qiU (by omega)] at e2
      exact h1 i a v e1 e2
     ·rw [qiV hge'] at e1
      rw [qiV (by omega)] at e2
      rw [← hl1] at e2
      exact hargs _ a v e1 e2
    ·rw [qiV (by simpa using hge)] at e1
     rw [qiV (by simp only [List.length_append]; omega)] at e2
     have : i - (vf ++ c.args.toList.map ρ).length = i - (first ++ c.args.toList.map x).length := by simp [hl1]
     rw [this] at e2
     exact h2 _ a v e1 e2
 ·rename_i id hxf
  cases ht
  rw [hxf] at hfv
  generalize hv : ρ f = vf at hfv
  cases hfv with
  | yld _ m hm =>
   rw [hv] at hex
   refine qq.of_run (s' := Instr.yield m.block (c.args.map ρ)) ?_ (qbD hO (t := .y id) (vs := c.args.map ρ) ⟨by simp, fun i a v e1 e2 => ?_⟩ h ⟨m, hm, rfl⟩ he)
   ·rw [hex]
    simp [Deferred.ofValue, invoke]
   ·rw [← Array.getElem?_toList, Array.toList_map] at e2
    exact hargs i a v e1 e2
 ·cases ht
theorem zi [Lent] {cfg : Cfg} (hc : CfgTy cfg) {cf : Orac} (hO : xD cfg cf) {frz : Bool} {nid : Option Nat} {o : Oper} {x : Operand → AV} {ρ : Operand → Value} (hx : ∀ a, Rep C μ (x a) (ρ a)) (h : Wld C μ H w) {r : AV}
  (he : qn cfg cf frz nid o x H = some (r, H')) : qq cfg.P (execOp ρ o) w (qv C μ H w r H') := by
 have core : ∀ {C : qa} {H : AH} {x : Operand → AV}, (∀ a, Rep C μ (x a) (ρ a)) → Wld C μ H w →
   (match o.op with
    | .call c =>
     match c.callee with
     | .value f => (v7 (x f) (c.args.toList.map x)).bind fun t => qI cfg cf nid t.1 t.2 H
     | _ => evOp cfg nid o.op o.type x H
    | _ => evOp cfg nid o.op o.type x H) = some (r, H') → qq cfg.P (execOp ρ o) w (qv C μ H w r H') := by
  intro C H x hx h he
  split at he
  ·rename_i c ho
   split at he
   ·rename_i f hf
    exact qfC hO ho hf hx h he
   ·exact (qcK hc h hx he).callR
  ·exact (qcK hc h hx he).callR
 unfold qn at he
 split at he
 ·obtain ⟨C1, a1, a2, a3⟩ := qy (o.op.operands.toList.flatMap fun a => (x a).msIds) h
  have hx1 : ∀ a, Rep C1 μ ((x a).frz (o.op.operands.toList.flatMap fun a => (x a).msIds) H) (ρ a) := fun a => ((hx a).mono a1 (fun _ _ h => h)).frzA (qJ.of a2)
  refine (core (x := fun a => (x a).frz (o.op.operands.toList.flatMap fun a => (x a).msIds) H) hx1 a2 he).mono fun v w1 ⟨C2, μ2, e1, e2, e3⟩ => ⟨C2, μ2, e1, e2, ?_⟩
  have := (a3 _ (qiR _)).trans e3 (by rw [ym]; exact qiR _)
  exact this
 ·exact core hx h he
def vU (F : Fence) : Prop := F = Fence.wide ∨ ∃ l, F = Fence.wide.inRound l
theorem vU.fn {F : Fence} (h : vU F) (f : FuncId) : F.fn f := by
 rcases h with rfl | ⟨l, rfl⟩ <;> trivial
theorem vU.depth {F : Fence} (h : vU F) : F.depth = none := by
 rcases h with rfl | ⟨l, rfl⟩ <;> rfl
theorem vU.calls {F : Fence} (h : vU F) {f : FuncId} {args : Array Value} {R : Ending → World → Prop} (hc : CallsIn Fence.wide 0 P f args w R) : CallsIn F (0 - 1) P f args w R := by
 rcases h with rfl | ⟨l, rfl⟩
 ·exact hc
 ·exact hc
theorem vU.rounds {F : Fence} (h : vU F) {l f : Nat} {t : Array Value} {al bd : Code} {R : Ending → World → Prop} (hc : RoundIn Fence.wide 0 P l f t al bd w R) : RoundIn F (0 - 1) P l f t al bd w R := by
 rcases h with rfl | ⟨l, rfl⟩
 ·exact hc
 ·exact hc
theorem qaS {F : Fence} (hF : vU F) {o : Oper} {a : Act} {next : Act → World → Prop} {Q : Exit → Act → World → Prop} (h : qq P (execOp a.eval o) w fun v w' => next (a.put o.dst v) w') : o.wpIn F 0 P a w next Q := by
 have hd : ∀ c, o.op ≠ .defer c := by
  intro c hc
  unfold qq execOp at h
  simp only [hc, Sem.run_bind] at h
  generalize (resolve a.eval c o.type).run P w = x at h
  cases x with
  | ok d w' => simp [Result.andThen, Sem.run_pure] at h
  | halt _ _ => simp [Result.andThen] at h
 refine ⟨fun f _ => hF.fn f, ?_⟩
 rw [Oper.semAt_eq _ _ _ hd]
 unfold qq at h
 generalize (execOp a.eval o).run P w = x at h
 cases x with
 | ok n w' =>
  cases n <;> simp only at h <;> first | exact h | exact h.elim | skip
  ·exact ⟨fun hh => by rw [hF.depth] at hh; simp at hh, hF.calls (h.mono fun e w'' ⟨v, h1, h2⟩ => by subst h1; exact h2)⟩
  ·exact ⟨fun hh => by rw [hF.depth] at hh; simp at hh, hF.rounds (h.mono fun e w'' ⟨v, h1, h2⟩ => by subst h1; exact h2)⟩
 | halt _ _ => exact h.elim
theorem yf [Lent] {fr : List AV} {a : Act} (hf : qc C μ fr a.tmps) (o : Operand) : Rep C μ (opd fr o) (a.eval o) := by
 cases o with
 | tmp t =>
  show Rep C μ (fr.getD t .junk) (a.tmps.getD t undef)
  rcases Nat.lt_or_ge t fr.length with h | h
  ·have h' : t < a.tmps.size := by rw [← hf.1]; exact h
   rw [List.getD_eq_getElem?_getD, qiS h, Array.getD_eq_getD_getElem?, Array.getElem?_eq_getElem h']
   exact hf.2 t _ _ (qiS h) (Array.getElem?_eq_getElem h')
  ·rw [List.getD_eq_getElem?_getD, List.getElem?_eq_none h]
   exact .junk _
 | const v => exact qbw v
 | global g => exact .junk _
 | func f =>
  have := Rep.fn (C := C) (μ := μ) (.func f) [] [] [] [] rfl rfl (fun i a v h => by simp at h) (fun i a v h => by simp at h)
  exact this
theorem qaM [Lent] : Rep C μ (.tup []) undef := Rep.tup (C := C) (μ := μ) [] [] rfl (fun i a v h => by simp at h)
theorem yc [Lent] {fr : List AV} {a : Act} {dst : Option Tmp} {r : AV} {v : Value} (hf : qc C μ fr a.tmps) (hr : Rep C μ r v) : qc C μ (put fr dst r) (a.put dst v).tmps := by
 cases dst with
 | none => exact hf
 | some d =>
  refine ⟨by simp [put, Act.put, hf.1], fun i x u h1 h2 => ?_⟩
  simp only [put, qiT] at h1
  simp only [Act.put, Array.getElem?_setIfInBounds] at h2
  by_cases e : d = i
  ·subst e
   rw [if_pos rfl] at h1 h2
   split at h1
   ·split at h2
    ·cases h1; cases h2; exact hr
    ·cases h2
   ·cases h1
  ·rw [if_neg e] at h1 h2
   exact hf.2 i x u h1 h2
theorem xo {a : Act} {dst : Option Tmp} {v : Value} : (a.put dst v).defers = a.defers := by cases dst <;> rfl
theorem yX [Lent] {fr : List AV} {a : Act} {ops : Array Oper} {o : Oper} {b : Bool} (hf : qc C μ fr a.tmps) (h : qK ops fr o = some b) : Region.wanted o (yielded ops a.tmps) = b := by
 unfold qK at h
 unfold Region.wanted
 split at h
 ·rename_i hg; rw [hg]; simpa using h
 ·rename_i j want hg
  rw [hg]
  simp only
  split at h
  ·rename_i d hd
   split at h
   ·rename_i b' hb
    cases h
    have hlt : d < a.tmps.size := by rw [← hf.1]; exact (qiM.1 hb).1
    have hr := hf.2 d _ _ hb (Array.getElem?_eq_getElem hlt)
    generalize hv : a.tmps[d] = v at hr
    cases hr
    have hs : a.tmps[d]? = some (.bool b') := by rw [Array.getElem?_eq_getElem hlt, hv]
    unfold yielded
    rw [hd]
    simp only [qi1, hs]
    cases b' <;> cases want <;> rfl
   ·rename_i hb
    cases h
    have hlt : d < a.tmps.size := by rw [← hf.1]; exact (qiM.1 hb).1
    have hr := hf.2 d _ _ hb (Array.getElem?_eq_getElem hlt)
    generalize hv : a.tmps[d] = v at hr
    cases hr with
    | tup cs vs hl hh =>
     have hs : a.tmps[d]? = some (.tuple vs.toArray) := by rw [Array.getElem?_eq_getElem hlt, hv]
     unfold yielded
     rw [hd]
     simp only [qi1, hs]
     rfl
   ·cases h
  ·cases h
theorem zH [Lent] {cfg : Cfg} (hc : CfgTy cfg) {cf : Orac} (hO : xD cfg cf) {F : Fence} (hF : vU F) {f rid : Nat} {ops : Array Oper} {Q : Exit → Act → World → Prop} {fr' : List AV} : ∀ (rest : List Oper) (k : Nat) {fr : List AV} {H : AH} {C : qa} {μ : MMap} {w : World} {a : Act},
  xa cfg cf f rid ops k rest fr H = some (fr', H') → (∀ i, rest[i]? = ops[k + i]?) → qc C μ fr a.tmps → Wld C μ H w →
  (∀ C' μ' w' a', qc C' μ' fr' a'.tmps → Wld C' μ' H' w' → Ext H.length C μ H w C' μ' H' w' → a'.defers = a.defers → Q .normal a' w') → wpOpsIn F 0 cfg.P ops Q (List.range' k rest.length) a w
 | [], k, fr, H, C, μ, w, a, he, hi, hf, hw, hq => by
  simp only [xa] at he
  cases he
  exact hq C μ w a hf hw (Ext.refl (qiR _)) rfl
 | o :: rest, k, fr, H, C, μ, w, a, he, hi, hf, hw, hq => by
  simp only [xa] at he
  obtain ⟨b, hb, he⟩ := qiO.1 he
  have hok : ops[k]? = some o := by have := hi 0; simpa using this.symm
  have hi' : ∀ i, rest[i]? = ops[k + 1 + i]? := fun i => by have := hi (i + 1); rw [List.getElem?_cons_succ] at this; rw [this]; congr 1; omega
  have hwan := yX hf hb
  simp only [List.length_cons, List.range'_succ, wpOpsIn, hok]
  split at he
  ·rename_i hbt
   rw [hbt] at hwan
   rw [if_pos hwan]
   obtain ⟨q, hqe, he⟩ := qiO.1 he
   refine qaS hF ((zi hc hO (yf hf) hw hqe).mono fun v w1 ⟨C1, μ1, e1, e2, e3⟩ => ?_)
   have hf1 : qc C1 μ1 fr a.tmps := hf.monoG e3.cl (fun id m hm => e3.mu id m (hw.dom id m hm) hm)
   refine zH hc hO hF rest (k + 1) he hi' (yc hf1 e1) e2 fun C' μ' w' a' g1 g2 g3 g4 => hq C' μ' w' a' g1 g2 (e3.trans g3 e3.len) (by rw [g4, xo])
  ·rename_i hbt
   have hbf : b = false := by simpa using hbt
   rw [hbf] at hwan
   rw [if_neg (by rw [hwan]; simp)]
   refine ⟨fun f _ => hF.fn f, ?_⟩
   exact zH hc hO hF rest (k + 1) he hi' (yc hf qaM) hw fun C' μ' w' a' g1 g2 g3 g4 => hq C' μ' w' a' g1 g2 g3 (by rw [g4, xo])
variable {H H' H2 : AH}
theorem qaV {x y : Operand → AV} {l : List Operand} (h : ∀ a ∈ l, x a = y a) : l.map x = l.map y := List.map_congr_left h
theorem qcu {x y : Operand → AV} {l : List (Nat × Operand)} (h : ∀ a ∈ l.map (·.2), x a = y a) : (l.map fun p => (p.1, x p.2)) = l.map fun p => (p.1, y p.2) :=
 List.map_congr_left fun p hp => by rw [h p.2 (List.mem_map.2 ⟨p, hp, rfl⟩)]
theorem qaR {x y : Operand → AV} {o : Option Operand} (h : ∀ a ∈ o.toArray, x a = y a) : o.map x = o.map y := by
 cases o with
 | none => rfl
 | some a => simp only [Option.map_some]; rw [h a (by simp)]
theorem qgu {cfg : Cfg} {nid : Option Nat} {op : Op} {ty : TypeId} {x y : Operand → AV} (h : ∀ a ∈ op.operands, x a = y a) : evOp cfg nid op ty x H = evOp cfg nid op ty y H := by
 cases op with
 | move a | assign a | box _ a | load _ a | nilCheck a | unOp _ _ a | convert _ _ a | fieldAddr _ a _ | field _ a _ | extract a _ =>
  have := h a (by simp [Op.operands])
  simp only [evOp, this]
 | pick c a b =>
  have h1 := h c (by simp [Op.operands])
  have h2 := h a (by simp [Op.operands])
  have h3 := h b (by simp [Op.operands])
  simp only [evOp, h1, h2, h3]
 | store _ a b | binOp _ _ a b _ | makeSlice _ a b | indexAddr _ a b | index _ a b | lookup _ a b _ =>
  have h1 := h a (by simp [Op.operands])
  have h2 := h b (by simp [Op.operands])
  simp only [evOp, h1, h2]
 | mapUpdate _ a b c | insert _ a b c =>
  have h1 := h a (by simp [Op.operands])
  have h2 := h b (by simp [Op.operands])
  have h3 := h c (by simp [Op.operands])
  simp only [evOp, h1, h2, h3]
 | makeMap _ r =>
  cases r with
  | none => rfl
  | some a =>
   have h1 := h a (by simp [Op.operands])
   simp only [evOp, h1]
 | build _ ps =>
  have := qcu (x := x) (y := y) (l := ps.toList) (fun a ha => h a (by simp only [Op.operands, List.mem_toArray]; exact ha))
  simp only [evOp, this]
 | buildSlice _ _ ps =>
  have := qcu (x := x) (y := y) (l := ps.toList) (fun a ha => h a (by simp only [Op.operands, List.mem_toArray]; exact ha))
  simp only [evOp, this]
 | makeFunc f p q =>
  have h1 := qaV (x := x) (y := y) (l := p.toList) (fun a ha => h a (by simp only [Op.operands, Array.mem_append]; exact .inl (Array.mem_toList_iff.1 ha)))
  have h2 := qaV (x := x) (y := y) (l := q.toList) (fun a ha => h a (by simp only [Op.operands, Array.mem_append]; exact .inr (Array.mem_toList_iff.1 ha)))
  simp only [evOp, h1, h2]
 | slice _ a l hi m =>
  have h1 := h a (by simp [Op.operands])
  have h2 := qaR (x := x) (y := y) (o := l) (fun a ha => h a (by simp only [Op.operands, Array.mem_append]; simp [ha]))
  have h3 := qaR (x := x) (y := y) (o := hi) (fun a ha => h a (by simp only [Op.operands, Array.mem_append]; simp [ha]))
  have h4 := qaR (x := x) (y := y) (o := m) (fun a ha => h a (by simp only [Op.operands, Array.mem_append]; simp [ha]))
  simp only [evOp, h1, h2, h3, h4]
 | call c =>
  have hm : ∀ a ∈ c.args.toList, x a = y a := fun a ha => h a (by simp only [Op.operands, Call.operands, Array.mem_append]; exact .inr (Array.mem_toList_iff.1 ha))
  obtain ⟨callee, args, argTypes⟩ := c
  simp only at hm
  simp only [evOp]
  generalize args.toList = l at hm
  generalize argTypes.toList = ts
  clear h
  split
  ·rw [hm _ (by simp)]
  ·rw [hm _ (by simp)]
  ·rw [hm _ (by simp), hm _ (by simp)]
  ·rw [hm _ (by simp), hm _ (by simp)]
  ·rw [hm _ (by simp)]
  ·rw [hm _ (by simp), hm _ (by simp)]
  ·rw [hm _ (by simp), hm _ (by simp)]
  ·rfl
 | _ => rfl
theorem qa5 {cfg : Cfg} {cf : Orac} {frz : Bool} {nid : Option Nat} {o : Oper} {x y : Operand → AV} (h : ∀ a ∈ o.op.operands, x a = y a) : qn cfg cf frz nid o x H = qn cfg cf frz nid o y H := by
 have hids : (o.op.operands.toList.flatMap fun a => (x a).msIds) = o.op.operands.toList.flatMap fun a => (y a).msIds := by
  have : (o.op.operands.toList.map fun a => (x a).msIds) = o.op.operands.toList.map fun a => (y a).msIds := List.map_congr_left fun a ha => by rw [h a (Array.mem_toList_iff.1 ha)]
  rw [List.flatMap_def, List.flatMap_def, this]
 have core : ∀ {x y : Operand → AV} {H : AH}, (∀ a ∈ o.op.operands, x a = y a) →
   (match o.op with
    | .call c =>
     match c.callee with
     | .value f => (v7 (x f) (c.args.toList.map x)).bind fun t => qI cfg cf nid t.1 t.2 H
     | _ => evOp cfg nid o.op o.type x H
    | _ => evOp cfg nid o.op o.type x H) =
   (match o.op with
    | .call c =>
     match c.callee with
     | .value f => (v7 (y f) (c.args.toList.map y)).bind fun t => qI cfg cf nid t.1 t.2 H
     | _ => evOp cfg nid o.op o.type y H
    | _ => evOp cfg nid o.op o.type y H) := by
  intro x y H h
  rw [qgu h]
  split
  ·rename_i c ho
   split
   ·rename_i f hf
    have h1 : x f = y f := h f (by rw [ho]; simp [Op.operands, Call.operands, hf])
    have h2 := qaV (x := x) (y := y) (l := c.args.toList) (fun a ha => h a (by rw [ho]; simp only [Op.operands, Call.operands, Array.mem_append]; exact .inr (Array.mem_toList_iff.1 ha)))
    rw [h1, h2]
   ·rfl
  ·rfl
 unfold qn
 cases frz with
 | false => simp only [qiW, if_false]; exact core h
 | true =>
  simp only [if_true]
  rw [hids]
  exact core (fun a ha => by rw [h a ha])
theorem vE {id : Nat} (h : H2[id]? = H[id]?) : qk H2 id = qk H id := by unfold qk; rw [h]
theorem zJ {id : Nat} (h : H2[id]? = H[id]?) : qX H2 id = qX H id := by unfold qX; rw [h]
theorem qfg {p : AV} (h : ∀ id ∈ p.hid, H2[id]? = H[id]?) : q8 H2 p = q8 H p := by
 cases p with
 | ms id off len => simp only [q8]; rw [zJ (h id (by simp [AV.hid]))]
 | _ => rfl
theorem qfJ {cfg : Cfg} {t : TypeId} {p k : AV} {ok : Bool} (h : ∀ id ∈ p.hid, H2[id]? = H[id]?) : yU cfg t p k ok H2 = yU cfg t p k ok H := by
 have : qbj H2 p = qbj H p := by
  unfold qbj
  split
  ·rfl
  ·rename_i id; rw [h id (by simp [AV.hid])]
  ·rfl
 unfold yU
 rw [this]
theorem qhm {agg : Bool} {n : Nat} {p : AV} (h : ∀ id ∈ p.hid, H2[id]? = H[id]?) : yK agg n H2 p = yK agg n H p := by
 unfold yK
 split
 ·rename_i id r off; rw [vE (h id (by simp [AV.hid]))]
 ·rfl
 ·rfl
 ·rename_i id cs off; rw [h id (by simp [AV.hid])]
 ·rfl
theorem qci {n : Nat} {p : AV} (h : ∀ id ∈ p.hid, H2[id]? = H[id]?) : xe H2 n p = xe H n p := by
 unfold xe
 split
 ·rfl
 ·rfl
 ·rfl
 ·rename_i id off len; rw [vE (h id (by simp [AV.hid]))]
 ·rfl
theorem qff {n : Nat} {p : AV} (h : ∀ id ∈ p.hid, H2[id]? = H[id]?) : vI H2 n p = vI H n p := by
 unfold vI
 split
 ·rfl
 ·exact qci h
theorem qdn {cfg : Cfg} {t : TypeId} {p i : AV} (h : ∀ id ∈ p.hid, H2[id]? = H[id]?) : vT cfg t H2 p i = vT cfg t H p i := by
 unfold vT
 split
 ·rename_i id _ _ _ _ _; rw [vE (h id (by simp [AV.hid]))]
 all_goals rfl
theorem qeA {p : AV} {id : Nat} (h : id ∈ p.unwr.hid) : id ∈ p.hid := by
 cases p with
 | wr n v => cases v <;> first | exact h | (simp [AV.unwr, AV.hid] at h)
 | _ => exact h
theorem qgB {cfg : Cfg} {t : TypeId} {p : AV} {lo hi mx : Option AV} (h : ∀ id ∈ p.hid, H2[id]? = H[id]?) : zl cfg t H2 p lo hi mx = zl cfg t H p lo hi mx := by
 unfold zl
 split
 ·rfl
 ·rfl
 ·rfl
 ·rename_i id off len _; rw [vE (h id (by simp [AV.hid]))]
 ·rfl
 ·rfl
theorem qhP {cfg : Cfg} {t : TypeId} {p : AV} (h : ∀ id ∈ p.hid, H2[id]? = H[id]?) : aLen cfg t p H2 = aLen cfg t p H := by
 unfold aLen
 split <;> first | rfl | skip
 rename_i id _; rw [h id (by simp [AV.hid])]
theorem zo {p : AV} (h : ∀ id ∈ p.hid, H2[id]? = H[id]?) : p.snap1 H2 = p.snap1 H := by
 cases p with
 | ms id off len => simp only [AV.snap1, AV.frz1]; rw [vE (h id (by simp [AV.hid])), zJ (h id (by simp [AV.hid]))]
 | ptr id r off => simp only [AV.snap1]; rw [vE (h id (by simp [AV.hid]))]
 | rsl id rows => simp only [AV.snap1]; rw [h id (by simp [AV.hid])]
 | _ => rfl
theorem qal {l : List AV} (h : ∀ id ∈ l.flatMap AV.hid, H2[id]? = H[id]?) : l.map (AV.snap1 H2) = l.map (AV.snap1 H) :=
 List.map_congr_left fun p hp => zo fun id hi => h id (List.mem_flatMap.2 ⟨p, hp, hi⟩)
theorem qhs {p : AV} (h : ∀ id ∈ p.hids, H2[id]? = H[id]?) : p.snap H2 = p.snap H := by
 cases p with
 | agg cs => simp only [AV.snap]; rw [qal (fun id hi => h id (by simpa [AV.hids] using hi))]
 | fn f a b => simp only [AV.snap]; rw [qal (fun id hi => h id (by simp only [AV.hids, qi2]; exact .inl hi)), qal (fun id hi => h id (by simp only [AV.hids, qi2]; exact .inr hi))]
 | ms id off len => exact zo (p := .ms id off len) h
 | ptr id r off => exact zo (p := .ptr id r off) h
 | rsl id rows => exact zo (p := .rsl id rows) h
 | _ => rfl
def Upd (wr : List Nat) (H2 H' H2' : AH) : Prop := H2'.length = H2.length ∧ ∀ id, H2'[id]? = if id ∈ wr then H'[id]? else H2[id]?
theorem Upd.same {wr : List Nat} (h : ∀ id ∈ wr, H2[id]? = H[id]?) : Upd wr H2 H H2 := ⟨rfl, fun id => by
 split
 ·rename_i hi; exact h id hi
 ·rfl⟩
theorem Upd.set {wr : List Nat} (h : ∀ id ∈ wr, H2[id]? = H[id]?) (hl : H2.length = H.length) {k : Nat} {b : ABlk} (hk : k ∈ wr) : Upd wr H2 (H.set k b) (H2.set k b) := ⟨by simp, fun id => by
 by_cases e : k = id
 ·subst e
  rw [if_pos hk, qiT, qiT, if_pos rfl, if_pos rfl, hl]
 ·rw [qiT, if_neg e, qiT, if_neg e]
  split
  ·rename_i hi; exact h id hi
  ·rfl⟩
theorem qH {g g2 : Option AV} {r : AV} {wr : List Nat} (he : (g.map fun v => (v, H)) = some (r, H')) (hg : g2 = g) (h : ∀ id ∈ wr, H2[id]? = H[id]?) : ∃ H2', (g2.map fun v => (v, H2)) = some (r, H2') ∧ Upd wr H2 H' H2' := by
 subst hg
 obtain ⟨v, hv, e⟩ := qiN.1 he
 cases e
 exact ⟨H2, by rw [hv]; rfl, Upd.same h⟩
theorem xq {at_ k : Nat} {b : ABlk} {wr : List Nat} (hn : aNew (some at_) H b = some (k, H')) (h : ∀ id ∈ wr, H2[id]? = H[id]?) (hl : H2.length = H.length) (hk : at_ ∈ wr) : ∃ H2', aNew (some at_) H2 b = some (k, H2') ∧ Upd wr H2 H' H2' := by
 unfold aNew at hn ⊢
 simp only at hn ⊢
 rw [h _ hk]
 split at hn
 ·cases hn
  exact ⟨_, rfl, Upd.set h hl hk⟩
 ·cases hn
variable {H H' H2 : AH}
theorem Upd.of_set {wr : List Nat} {k : Nat} {b : ABlk} {H2' : AH} (h : Upd wr (H2.set k b) H' H2') (hk : k ∈ wr) : Upd wr H2 H' H2' := ⟨by rw [h.1]; simp, fun id => by
 rw [h.2 id]
 split
 ·rfl
 ·rename_i hi
  rw [qiT, if_neg]
  intro e; subst e; exact hi hk⟩
theorem qeZ {n : Nat} {p v : AV} (he : xk n H p v = some H') (h : ∀ id ∈ p.hid, H2[id]? = H[id]?) (hl : H2.length = H.length) : ∃ H2', xk n H2 p v = some H2' ∧ Upd p.hid H2 H' H2' := by
 unfold xk at he ⊢
 split at he
 ·rename_i id r off cs hv
  have hid : id ∈ (AV.ptr id r off).hid := by simp [AV.hid]
  rw [h id hid]
  split at he
  ·rename_i sz rs _
   split at he
   ·rename_i row hrow
    split at he
    ·rename_i hc
     cases he
     simp only [hc, if_true]
     exact ⟨_, rfl, Upd.set h hl hid⟩
    ·cases he
   ·cases he
  ·cases he
 ·rename_i id cs off cs' hv
  have hid : id ∈ (AV.rpt id cs off).hid := by simp [AV.hid]
  rw [h id hid]
  split at he
  ·split at he
   ·rename_i hc
    cases he
    rw [if_pos hc]
    exact ⟨_, rfl, Upd.same h⟩
   ·rename_i hc0
    split at he
    ·rename_i hc
     cases he
     rw [if_neg hc0, if_pos hc]
     exact ⟨_, rfl, Upd.same h⟩
    ·cases he
  ·cases he
 ·cases he
theorem qdp {cfg : Cfg} {at_ : Nat} {s d : TypeId} {x r : AV} {wr : List Nat} (he : xl cfg (some at_) s d x H = some (r, H')) (h : ∀ id ∈ x.hid, H2[id]? = H[id]?) (hwr : ∀ id ∈ wr, H2[id]? = H[id]?) (hl : H2.length = H.length) (hk : at_ ∈ wr) :
  ∃ H2', xl cfg (some at_) s d x H2 = some (r, H2') ∧ Upd wr H2 H' H2' := by
 unfold xl at he ⊢
 split at he
 ·cases he; exact ⟨H2, rfl, Upd.same hwr⟩
 ·cases he; exact ⟨H2, rfl, Upd.same hwr⟩
 ·rename_i sd e t hs hd
  split at he
  ·rename_i hte
   split at he
   ·rename_i k H1 hnew
    cases he
    obtain ⟨H2', e1, e2⟩ := xq hnew hwr hl hk
    simp only [e1]
    exact ⟨H2', rfl, e2⟩
   ·cases he
  ·cases he
 ·rename_i e hs hd hne
  split at he
  ·rename_i rows hte hrows
   rw [qci h]
   split at he
   ·rename_i bs hbs
    cases he
    exact ⟨H2, by simp only [hte, hrows, hbs], Upd.same hwr⟩
   ·cases he
  ·cases he
 ·cases he
theorem qbJ {cfg : Cfg} {at_ : Nat} {t : TypeId} {l c r : AV} {wr : List Nat} (he : zw cfg (some at_) t l c H = some (r, H')) (hwr : ∀ id ∈ wr, H2[id]? = H[id]?) (hl : H2.length = H.length) (hk : at_ ∈ wr) :
  ∃ H2', zw cfg (some at_) t l c H2 = some (r, H2') ∧ Upd wr H2 H' H2' := by
 unfold zw at he ⊢
 split at he
 ·split at he
  ·split at he
   ·rename_i h1
    split at he
    ·rename_i h2
     split at he
     ·rename_i k H1 hnew
      cases he
      obtain ⟨H2', e1, e2⟩ := xq hnew hwr hl hk
      simp only [h1, if_true, h2, e1]
      exact ⟨H2', by simp, e2⟩
     ·cases he
    ·cases he
   ·cases he
  ·cases he
 ·cases he
theorem qe2 {cfg : Cfg} {at_ : Nat} {t : TypeId} {l c r : AV} {wr : List Nat} (he : yv cfg (some at_) t l c H = some (r, H')) (hwr : ∀ id ∈ wr, H2[id]? = H[id]?) (hl : H2.length = H.length) (hk : at_ ∈ wr) :
  ∃ H2', yv cfg (some at_) t l c H2 = some (r, H2') ∧ Upd wr H2 H' H2' := by
 unfold yv at he ⊢
 split at he
 ·exact qbJ he hwr hl hk
 ·split at he
  ·split at he
   ·rename_i hn
    rw [if_pos hn]
    obtain ⟨q, hq, hw⟩ := qiO.1 he
    obtain ⟨v, H1⟩ := q
    obtain ⟨H2', e1, e2⟩ := qbJ hq hwr hl hk
    rw [e1]
    unfold qfZ at hw
    split at hw
    ·rename_i id off len H0 e
     cases e
     cases hw
     exact ⟨H2', rfl, e2⟩
    ·cases hw
   ·cases he
  ·cases he
theorem qdQ {cfg : Cfg} {at_ : Nat} {t xt : TypeId} {s x r : AV} {wr : List Nat} (he : yV cfg (some at_) t xt s x H = some (r, H')) (hx : ∀ id ∈ x.hid, H2[id]? = H[id]?) (hwr : ∀ id ∈ wr, H2[id]? = H[id]?) (hl : H2.length = H.length) (hk : at_ ∈ wr)
  (hs : ∀ id ∈ s.hid, id ∈ wr) : ∃ H2', yV cfg (some at_) t xt s x H2 = some (r, H2') ∧ Upd wr H2 H' H2' := by
 unfold yV at he ⊢
 split at he
 case h_2 => cases he
 split at he
 case h_2 => cases he
 split at he
 case isFalse => cases he
 rename_i h1
 rw [if_pos h1, qff hx, qfg hx]
 split at he
 case h_2 => cases he
 split at he
 ·split at he
  ·rename_i h2
   cases he
   rw [if_pos h2]
   exact ⟨H2, rfl, Upd.same hwr⟩
  ·rename_i h2
   rw [if_neg h2]
   split at he
   ·rename_i h3
    rw [if_pos h3]
    split at he
    ·rename_i k H1 hnew
     cases he
     obtain ⟨H2', e1, e2⟩ := xq hnew hwr hl hk
     simp only [e1]
     exact ⟨H2', rfl, e2⟩
    ·cases he
   ·cases he
 ·rename_i id off len
  have hid : id ∈ wr := hs id (by simp [AV.hid])
  rw [hwr id hid]
  split at he
  ·rename_i sz rs _
   split at he
   ·rename_i h2
    rw [if_pos h2]
    split at he
    ·rename_i k H1 hnew
     cases he
     obtain ⟨H2', e1, e2⟩ := xq (H2 := H2.set id .dead) hnew (fun j hj => by
      rw [qiT, qiT]
      split
      ·rw [hl]
      ·exact hwr j hj) (by simpa using hl) hk
     simp only [e1]
     exact ⟨H2', rfl, e2.of_set hid⟩
    ·cases he
   ·cases he
  ·cases he
 ·cases he
theorem qcr {at_ : Nat} {G : AH} {a r : AV} (he : ye (some at_) G a H = some (r, H')) (hl : H2.length = H.length) (hwr : ∀ id ∈ [at_], H2[id]? = H[id]?) : ∃ H2', ye (some at_) G a H2 = some (r, H2') ∧ Upd [at_] H2 H' H2' := by
 unfold ye at he ⊢
 split at he
 ·split at he
  ·split at he
   ·rename_i h2
    rw [if_pos h2]
    split at he
    ·rename_i k H1 hnew
     cases he
     obtain ⟨H2', e1, e2⟩ := xq hnew hwr hl (by simp)
     simp only [e1]
     exact ⟨H2', rfl, e2⟩
    ·cases he
   ·cases he
  ·cases he
 ·split at he
  ·rename_i h2
   cases he
   rw [if_pos h2]
   exact ⟨H2, rfl, Upd.same hwr⟩
  ·cases he
theorem qaN {k : Nat} {H : AH} : ∀ (n : Nat) (found todo : List Nat), ∀ x ∈ found, x ∈ qS k H n found todo
 | 0, found, _, x, h => h
 | n + 1, found, [], x, h => h
 | n + 1, found, id :: todo, x, h => by
  rw [qS]
  split
  ·exact qaN n _ _ x h
  ·exact qaN n _ _ x (qi2.2 (.inl h))
theorem qaO {k : Nat} : ∀ (n : Nat) (found todo : List Nat), (∀ id ∈ qS k H n found todo, H2[id]? = H[id]?) → qS k H2 n found todo = qS k H n found todo
 | 0, found, _, _ => by rw [qS, qS]
 | n + 1, found, [], _ => by rw [qS, qS]
 | n + 1, found, id :: todo, h => by
  rw [qS] at h ⊢
  conv => rhs; rw [qS]
  split
  ·rename_i hi
   rw [if_pos hi] at h
   exact qaO n _ _ h
  ·rename_i hi
   rw [if_neg hi] at h
   have hid : H2[id]? = H[id]? := h id (qaN n _ _ id (by simp))
   have : qcz k H2 id = qcz k H id := by unfold qcz; rw [hid]
   rw [this]
   exact qaO n _ _ h
theorem qf2 {args : List AV} (hl : H2.length = H.length) (h : ∀ id ∈ qz H args, H2[id]? = H[id]?) : qz H2 args = qz H args := by
 unfold qz at h ⊢
 rw [hl]
 exact qaO _ _ _ h
theorem qdJ {at_ g : Nat} {pl : List Nat × AH} (hr : ∀ j, j < 4 → H2[at_ + j]? = H[at_ + j]?) (h : vO (some at_) H g = some pl) :
  ∃ N, pl = (N, H) ∧ (∀ i ∈ N, ∃ j, j < 4 ∧ i = at_ + j) ∧ vO (some at_) H2 g = some (N, H2) := by
 unfold vO at h ⊢
 simp only at h ⊢
 split at h
 case isFalse => cases h
 rename_i hc
 cases h
 have hc' := hc
 rw [qiP, List.all_eq_true, Nat.ble_eq] at hc
 have hall : ((List.range g).all fun j => qgk H2[at_ + j]?) = true := List.all_eq_true.2 fun j hj => by
  have : j < g := by simpa using hj
  rw [hr j (by omega)]; exact hc.2 j hj
 refine ⟨_, rfl, fun i hi => ?_, ?_⟩
 ·obtain ⟨j, hj, rfl⟩ := List.mem_map.1 hi
  have : j < g := by simpa using hj
  exact ⟨j, by omega, rfl⟩
 ·rw [if_pos (by rw [hall, Bool.and_true, Nat.ble_eq]; exact hc.1)]
theorem Upd.mono {wr wr' : List Nat} {H2' : AH} (h : Upd wr H2 H' H2') (hs : ∀ id ∈ wr, id ∈ wr') (hr : ∀ id ∈ wr', H2[id]? = H'[id]? ∨ id ∈ wr) : Upd wr' H2 H' H2' := ⟨h.1, fun id => by
 rw [h.2 id]
 by_cases hi : id ∈ wr
 ·rw [if_pos hi, if_pos (hs id hi)]
 ·rw [if_neg hi]
  by_cases hi' : id ∈ wr'
  ·rw [if_pos hi']; exact (hr id hi').resolve_right hi
  ·rw [if_neg hi']⟩
theorem qf1 {L : List Nat} {G : AH} (hl : H2.length = H.length) : Upd L H2 (xy H L G) (xy H2 L G) := by
 refine ⟨qaj _, fun id => ?_⟩
 rw [yD, yD]
 by_cases hi : id ∈ L
 ·rw [if_pos hi]
  obtain ⟨p, hp⟩ := v6 (k := 0) hi
  rw [hp]
  by_cases hlt : id < H.length
  ·rw [qiS hlt, qiS (hl ▸ hlt)]; try rfl
  ·rw [List.getElem?_eq_none (by omega), List.getElem?_eq_none (by omega)]; try rfl
 ·rw [if_neg hi]
  have hn : qm id 0 L = none := by
   cases hp : qm id 0 L with
   | none => rfl
   | some p => exact absurd (qiZ (vK hp).2) hi
  rw [hn]
  cases H2[id]? <;> rfl
theorem qfD {cfg : Cfg} {cf : Orac} {at_ : Nat} {t : Tgt} {args : List AV} {r : AV} (he : qI cfg cf (some at_) t args H = some (r, H')) (hw : (yu cfg at_ t args H).wall = false) (hl : H2.length = H.length)
  (hr : ∀ id ∈ (yu cfg at_ t args H).rd, H2[id]? = H[id]?) (hwr : ∀ id ∈ (yu cfg at_ t args H).wr, H2[id]? = H[id]?) : ∃ H2', qI cfg cf (some at_) t args H2 = some (r, H2') ∧ Upd (yu cfg at_ t args H).wr H2 H' H2' := by
 cases t with
 | y id => simp [yu] at hw
 | f f =>
  simp only [yu, qI] at *
  cases hm : cfg.mode f with
  | scal =>
   simp only [hm] at *
   have hs : (args.map fun a => (a.snap H2).fg) = (args.map fun a => (a.snap H).fg) := List.map_congr_left fun p hp => by rw [qhs fun id hi => hr id (List.mem_flatMap.2 ⟨p, hp, hi⟩)]
   rw [hs]
   split at he
   case isFalse => cases he
   rename_i h1
   rw [if_pos h1]
   obtain ⟨q, hq, he⟩ := qiO.1 he
   rw [hq]
   split at he
   case isFalse => cases he
   rename_i h2
   cases he
   exact ⟨H2, by simp [h2], Upd.same hwr⟩
  | pfrz =>
   simp only [hm] at *
   split at he
   case isFalse => cases he
   rename_i h1
   rw [if_pos h1]
   obtain ⟨q, hq, he⟩ := qiO.1 he
   rw [hq]
   split at he
   case isFalse => cases he
   rename_i h2
   cases he
   exact ⟨H2, by simp [h2], Upd.same (fun id hi => by simp [FP.none] at hi)⟩
  | wfrz =>
   simp only [hm] at *
   split at he
   case isFalse => cases he
   rename_i h1
   rw [if_pos h1]
   obtain ⟨q, hq, he⟩ := qiO.1 he
   rw [hq]
   split at he
   case isFalse => cases he
   rename_i h2
   cases he
   exact ⟨H2, by simp [h2], Upd.same (fun id hi => by simp [FP.none] at hi)⟩
  | nfrz =>
   simp only [hm] at *
   split at he
   case isFalse => cases he
   rename_i h1
   rw [if_pos h1]
   obtain ⟨q, hq, he⟩ := qiO.1 he
   rw [hq]
   obtain ⟨V, hV, hpe⟩ := qiN.1 he
   cases hpe
   exact ⟨H2, by simp [hV], Upd.same (fun id hi => by simp [FP.none] at hi)⟩
  | pown =>
   simp only [hm] at *
   split at he
   case isFalse => cases he
   rename_i h1
   rw [if_pos h1]
   obtain ⟨q, hq, he⟩ := qiO.1 he
   rw [hq]
   simp only [qi1]
   unfold qet at he ⊢
   split at he
   ·split at he
    case isFalse => cases he
    rename_i hsc
    rw [if_pos hsc]
    obtain ⟨p, hp, hpe⟩ := qiN.1 he
    cases hpe
    obtain ⟨H2', e1, e2⟩ := qcr hp hl hwr
    rw [e1]
    exact ⟨H2', rfl, e2⟩
   ·exact qcr he hl hwr
  | slf =>
   simp only [hm] at *
   split at he
   case h_2 => cases he
   rename_i id l hids
   simp only [hids] at hwr ⊢
   split at he
   case isFalse => cases he
   rename_i h1
   rw [if_pos h1, hwr id (by simp)]
   split at he
   case h_2 => cases he
   rename_i d sz rs hid
   try simp only [hid]
   split at he
   case isFalse => cases he
   rename_i h2
   rw [if_pos h2]
   obtain ⟨q, hq, he⟩ := qiO.1 he
   rw [hq]
   obtain ⟨p, hp, hpe⟩ := qiN.1 he
   cases hpe
   exact ⟨H2.set id (.rows false sz (renR (fun _ => id) p.2)), by simp [hp], Upd.set hwr hl (by simp)⟩
  | imp => simp [hm] at hw
  | sub =>
   simp only [hm] at *
   have hwr1 : ∀ id ∈ qz H args, H2[id]? = H[id]? := fun id hi => hwr id (qi2.2 (.inl hi))
   have hs : qz H2 args = qz H args := qf2 hl hwr1
   have hb : qW H2 (qz H args) = qW H (qz H args) := zI hwr1
   have ho : qak H2 args = qak H args := by unfold qak; rw [hs, hb]
   obtain ⟨s, h0, he⟩ := qiO.1 he
   obtain ⟨q, hq, he⟩ := qiO.1 he
   obtain ⟨p, hp, he⟩ := qiO.1 he
   obtain ⟨pl, hpl, hpe⟩ := qiN.1 he
   cases hpe
   have hsl : s.1 = qz H args := qgP h0
   obtain ⟨N, rfl, hN, e1⟩ := qdJ (fun j hj => hwr (at_ + j) (qi2.2 (.inr (by
    have : j = 0 ∨ j = 1 ∨ j = 2 ∨ j = 3 := by omega
    rcases this with rfl | rfl | rfl | rfl <;> simp)))) hpl
   refine ⟨xy H2 (s.1 ++ N) p.2, by simp [ho, h0, hq, hp, e1], ?_⟩
   rw [hsl]
   refine (qf1 hl).mono (fun id hi => ?_) fun id hi => ?_
   rcases qi2.1 hi with hi | hi
   ·exact qi2.2 (.inl hi)
   ·refine qi2.2 (.inr ?_)
    obtain ⟨j, hj, rfl⟩ := hN id hi
    have : j = 0 ∨ j = 1 ∨ j = 2 ∨ j = 3 := by omega
    rcases this with rfl | rfl | rfl | rfl <;> simp
   ·by_cases hin : id ∈ qz H args ++ N
    ·exact .inr hin
    ·left
     rw [hwr id hi, yD]
     have hn : qm id 0 (qz H args ++ N) = none := by
      cases hp : qm id 0 (qz H args ++ N) with
      | none => rfl
      | some p => exact absurd (qiZ (vK hp).2) hin
     rw [hn]
     cases H[id]? <;> rfl
  | inpl =>
   simp only [hm] at *
   split at he
   case h_2 =>
    rename_i hids
    simp only [hids] at hwr ⊢
    split at he
    case isFalse => cases he
    rename_i h1
    rw [if_pos h1]
    obtain ⟨q, hq, he⟩ := qiO.1 he
    rw [hq]
    split at he
    case isFalse => cases he
    rename_i h2
    cases he
    exact ⟨H2, by simp [h2], Upd.same hwr⟩
   rename_i id l hids
   simp only [hids] at hwr ⊢
   split at he
   case isFalse => cases he
   rename_i h1
   rw [if_pos h1, hwr id (by simp)]
   split at he
   case h_2 => cases he
   rename_i d sz rs hid
   try simp only [hid]
   split at he
   case isFalse => cases he
   rename_i h2
   rw [if_pos h2]
   obtain ⟨q, hq, he⟩ := qiO.1 he
   rw [hq]
   obtain ⟨p, hp, hpe⟩ := qiN.1 he
   cases hpe
   exact ⟨H2.set id (.rows true sz p.2), by simp [hp], Upd.set hwr hl (by simp)⟩
  | inpf =>
   simp only [hm] at *
   split at he
   case h_2 => cases he
   rename_i id l hids
   simp only [hids] at hwr ⊢
   split at he
   case isFalse => cases he
   rename_i h1
   rw [if_pos h1, hwr id (by simp)]
   split at he
   case h_2 => cases he
   rename_i d sz rs hid
   try simp only [hid]
   split at he
   case isFalse => cases he
   rename_i h2
   rw [if_pos h2]
   obtain ⟨q, hq, he⟩ := qiO.1 he
   rw [hq]
   obtain ⟨p, hp, hpe⟩ := qiN.1 he
   cases hpe
   exact ⟨H2.set id (.rows true sz p.2), by simp [hp], Upd.set hwr hl (by simp)⟩
  | ifrz => simp [hm] at hw
  | rgn =>
   simp only [hm] at *
   split at he
   case isFalse => cases he
   rename_i h1
   rw [if_pos h1]
   obtain ⟨q, hq, he⟩ := qiO.1 he
   obtain ⟨V, hV, he⟩ := qiO.1 he
   obtain ⟨p, hp, hpe⟩ := qiN.1 he
   cases hpe
   obtain ⟨H2', e1, e2⟩ := xq hp hwr hl (by simp)
   exact ⟨H2', by simp [hq, hV, e1], e2⟩
  | over => simp [hm] at hw
  | bld => simp [hm] at hw
theorem qhH {ids : List Nat} {a : AV} (h : ∀ id ∈ ids, H2[id]? = H[id]?) : a.frz1 ids H2 = a.frz1 ids H := by
 cases a with
 | ms id off len =>
  by_cases hi : id ∈ ids
  ·simp only [AV.frz1, vE (h id hi), zJ (h id hi)]
  ·have hn : qT id ids = false := by rw [← Bool.not_eq_true, qr]; exact hi
   simp only [AV.frz1, hn, Bool.false_and, qiW, if_false]
   cases qk H2 id <;> cases qk H id <;> rfl
 | _ => rfl
theorem qdg {ids : List Nat} {a : AV} (h : ∀ id ∈ ids, H2[id]? = H[id]?) : a.frz ids H2 = a.frz ids H := by
 have : AV.frz1 ids H2 = AV.frz1 ids H := funext fun _ => qhH h
 cases a <;> simp only [AV.frz, this]
theorem xu {H : AH} {i id : Nat} : (qu H i)[id]? = if i = id then (match H[id]? with | some (.rows d sz rs) => some (.froz d sz rs) | b => b) else H[id]? := by
 unfold qu
 split
 ·rename_i d sz rs hi
  rw [qiT]
  by_cases e : i = id
  ·subst e
   have := (qiM.1 hi).1
   rw [if_pos rfl, if_pos this, if_pos rfl, hi]
  ·rw [if_neg e, if_neg e]
 ·rename_i hn
  by_cases e : i = id
  ·subst e
   rw [if_pos rfl]
   split
   ·rename_i d sz rs hi; exact absurd hi (hn d sz rs)
   ·rfl
  ·rw [if_neg e]
theorem zE : ∀ (ids : List Nat) {H H2 : AH}, (∀ id ∈ ids, H2[id]? = H[id]?) → ∀ id, (ql ids H2)[id]? = if id ∈ ids then (ql ids H)[id]? else H2[id]?
 | [], H, H2, _, id => by simp [ql]
 | i :: l, H, H2, h, id => by
  have hi := h i (by simp)
  have ih := zE l (H := qu H i) (H2 := qu H2 i) (fun j hj => by
   rw [xu, xu, h j (by simp [hj])]) id
  have e1 : ql (i :: l) H2 = ql l (qu H2 i) := rfl
  have e2 : ql (i :: l) H = ql l (qu H i) := rfl
  rw [e1, e2, ih]
  by_cases hl : id ∈ l
  ·rw [if_pos hl, if_pos (by simp [hl])]
  ·rw [if_neg hl]
   by_cases e : id = i
   ·subst e
    have hk : ∀ (l : List Nat) (H : AH), id ∉ l → (ql l H)[id]? = H[id]? := by
     intro l
     induction l with
     | nil => intro H _; rfl
     | cons j l ih =>
      intro H hn
      show (ql l (qu H j))[id]? = _
      rw [ih _ (fun hm => hn (by simp [hm])), xu, if_neg (fun e => hn (by simp [e]))]
    rw [if_pos (by simp), hk l _ hl, xu, xu, hi]
   ·rw [if_neg (by simp [hl, e]), xu, if_neg (fun h => e h.symm)]
theorem zj {cfg : Cfg} {cf : Orac} {frz : Bool} {at_ : Nat} {o : Oper} {x : Operand → AV} {r : AV} (he : qn cfg cf frz (some at_) o x H = some (r, H')) (hw : (qZ cfg frz at_ o x H).wall = false) (hl : H2.length = H.length)
  (hr : ∀ id ∈ (qZ cfg frz at_ o x H).rd, H2[id]? = H[id]?) (hwr : ∀ id ∈ (qZ cfg frz at_ o x H).wr, H2[id]? = H[id]?) : ∃ H2', qn cfg cf frz (some at_) o x H2 = some (r, H2') ∧ Upd (qZ cfg frz at_ o x H).wr H2 H' H2' := by
 obtain ⟨dst, op, ty, pos, after, guard⟩ := o
 cases frz with
 | true =>
  unfold qZ at hw hwr ⊢
  simp only [if_true] at hw hwr ⊢
  unfold qn at he ⊢
  simp only [if_true] at he ⊢
  cases op with
  | build t parts =>
   simp only at hw hwr he ⊢
   have hx : (fun a => (x a).frz ((Op.build t parts).operands.toList.flatMap fun a => (x a).msIds) H2) = fun a => (x a).frz ((Op.build t parts).operands.toList.flatMap fun a => (x a).msIds) H := funext fun a => qdg hwr
   rw [hx]
   have hup : Upd ((Op.build t parts).operands.toList.flatMap fun a => (x a).msIds) H2 (ql ((Op.build t parts).operands.toList.flatMap fun a => (x a).msIds) H) (ql ((Op.build t parts).operands.toList.flatMap fun a => (x a).msIds) H2) :=
    ⟨ym _ _, zE _ hwr⟩
   generalize (Op.build t parts).operands.toList.flatMap (fun a => (x a).msIds) = ids at *
   simp only [evOp] at *
   split at he
   ·split at he
    ·rename_i h1
     rw [if_pos h1]
     split at he
     ·split at he
      ·obtain ⟨cs, hcs, e⟩ := qiN.1 he
       cases e
       rw [hcs]
       exact ⟨_, rfl, hup⟩
      ·cases he
     ·split at he
      ·obtain ⟨cs, hcs, e⟩ := qiN.1 he
       cases e
       rw [hcs]
       exact ⟨_, rfl, hup⟩
      ·cases he
     ·cases he
    ·cases he
   ·cases he
  | call c =>
   obtain ⟨callee, args, argTypes⟩ := c
   cases callee with
   | value f =>
    simp only at hw hwr he ⊢
    split at hw
    case h_2 => simp at hw
    rename_i h al ht
    simp only [ht] at hwr ⊢
    cases hm : cfg.mode h with
    | pfrz =>
     simp only [hm] at hwr ⊢
     have hx : (fun a => (x a).frz ((Op.call ⟨.value f, args, argTypes⟩).operands.toList.flatMap fun a => (x a).msIds) H2) = fun a => (x a).frz ((Op.call ⟨.value f, args, argTypes⟩).operands.toList.flatMap fun a => (x a).msIds) H := funext fun a => qdg hwr
     have hup : Upd ((Op.call ⟨.value f, args, argTypes⟩).operands.toList.flatMap fun a => (x a).msIds) H2 (ql ((Op.call ⟨.value f, args, argTypes⟩).operands.toList.flatMap fun a => (x a).msIds) H) (ql ((Op.call ⟨.value f, args, argTypes⟩).operands.toList.flatMap fun a => (x a).msIds) H2) :=
      ⟨ym _ _, zE _ hwr⟩
     have hxa : ∀ a, (x a).frz ((Op.call ⟨.value f, args, argTypes⟩).operands.toList.flatMap fun a => (x a).msIds) H2 = (x a).frz ((Op.call ⟨.value f, args, argTypes⟩).operands.toList.flatMap fun a => (x a).msIds) H := fun a => qdg hwr
     rw [hxa, hx]
     clear hxa hx hwr hr hw
     generalize (Op.call ⟨.value f, args, argTypes⟩).operands.toList.flatMap (fun a => (x a).msIds) = ids at *
     have hxf : (x f).frz ids H = x f := by
      unfold v7 at ht
      split at ht
      ·rename_i hx; rw [hx]; rfl
      ·simp at ht
      ·cases ht
     rw [hxf] at he ⊢
     obtain ⟨t2, ht2, he⟩ := qiO.1 he
     rw [ht2]
     have htf : t2.1 = .f h := by
      unfold v7 at ht ht2
      split at ht
      ·rename_i hx
       rw [hx] at ht2
       simp only [Option.some.injEq, Prod.mk.injEq] at ht ht2
       rw [← ht2]; exact ht.1
      ·simp at ht
      ·cases ht
     obtain ⟨t2a, t2b⟩ := t2
     simp only at htf
     subst htf
     simp only [qi1, qI, hm] at he ⊢
     split at he
     case isFalse => cases he
     rename_i h1
     rw [if_pos h1]
     obtain ⟨q, hq, he⟩ := qiO.1 he
     rw [hq]
     simp only [qi1] at he ⊢
     split at he
     case isFalse => cases he
     rename_i h2
     cases he
     exact ⟨_, by rw [if_pos h2], hup⟩
    | _ => simp [hm] at hw
   | _ => simp at hw
  | _ => simp at hw
 | false =>
  unfold qn at he ⊢
  simp only [qiW, if_false] at he ⊢
  unfold qZ at hw hr hwr ⊢
  simp only [qiW, if_false] at hw hr hwr ⊢
  cases op with
  | move a => simp only [evOp] at *; cases he; exact ⟨H2, rfl, Upd.same hwr⟩
  | assign a => simp only [evOp] at *; cases he; exact ⟨H2, rfl, Upd.same hwr⟩
  | pick c a b =>
   simp only [evOp] at *
   split at he
   ·cases he; exact ⟨H2, rfl, Upd.same hwr⟩
   ·cases he
  | alloc t =>
   simp only [evOp] at *
   split at he
   ·split at he
    ·rename_i h1
     rw [if_pos h1]
     split at he
     ·rename_i k H1 hnew
      cases he
      obtain ⟨H2', e1, e2⟩ := xq hnew hwr hl (by simp)
      simp only [e1]
      exact ⟨H2', rfl, e2⟩
     ·cases he
    ·cases he
   ·cases he
  | box t a =>
   simp only [evOp] at *
   split at he
   ·split at he
    ·rename_i k H1 hnew
     cases he
     obtain ⟨H2', e1, e2⟩ := xq hnew hwr hl (by simp)
     simp only [e1]
     exact ⟨H2', rfl, e2⟩
    ·cases he
   ·cases he
  | build t parts =>
   simp only [evOp] at *
   split at he
   ·split at he
    ·rename_i h1
     rw [if_pos h1]
     split at he
     ·split at he
      ·obtain ⟨cs, hcs, e⟩ := qiN.1 he
       cases e
       rw [hcs]
       exact ⟨H2, rfl, Upd.same hwr⟩
      ·cases he
     ·split at he
      ·obtain ⟨cs, hcs, e⟩ := qiN.1 he
       cases e
       rw [hcs]
       exact ⟨H2, rfl, Upd.same hwr⟩
      ·cases he
     ·cases he
    ·cases he
   ·cases he
  | buildSlice t len parts =>
   simp only [evOp] at *
   split at he
   ·split at he
    ·split at he
     ·rename_i h1
      rw [if_pos h1]
      split at he
      ·split at he
       ·rename_i k H1 hnew
        cases he
        obtain ⟨H2', e1, e2⟩ := xq hnew hwr hl (by simp)
        simp only [e1]
        exact ⟨H2', rfl, e2⟩
       ·cases he
      ·cases he
     ·cases he
    ·cases he
   ·cases he
  | load t a =>
   simp only [evOp] at *
   split at he
   ·exact qH he (qhm hr) hwr
   ·cases he
  | store t a v =>
   simp only [evOp] at *
   split at he
   ·obtain ⟨H1, h1, e⟩ := qiN.1 he
    cases e
    obtain ⟨H2', e1, e2⟩ := qeZ h1 hwr hl
    rw [e1]
    exact ⟨H2', rfl, e2⟩
   ·cases he
  | nilCheck a =>
   simp only [evOp] at *
   split at he <;> first | (cases he; exact ⟨H2, rfl, Upd.same hwr⟩) | cases he
  | binOp op t a b yt => simp only [evOp] at *; exact qH he rfl hwr
  | unOp op t a => simp only [evOp] at *; exact qH he rfl hwr
  | convert s d a => simp only [evOp] at *; exact qdp he hr hwr hl (by simp)
  | makeFunc f first caps => simp only [evOp] at *; cases he; exact ⟨H2, rfl, Upd.same hwr⟩
  | makeSlice t l c => simp only [evOp] at *; exact qe2 he hwr hl (by simp)
  | slice t a lo hi mx => simp only [evOp] at *; exact qH he (qgB hr) hwr
  | fieldAddr t a f => simp only [evOp] at *; exact qH he rfl hwr
  | field t a f => simp only [evOp] at *; exact qH he rfl hwr
  | indexAddr t a i => simp only [evOp] at *; exact qH he (qdn fun id hi => hr id (qeA hi)) hwr
  | index t a i => simp only [evOp] at *; exact qH he rfl hwr
  | extract t i =>
   simp only [evOp] at *
   split at he
   ·exact qH he rfl hwr
   ·cases he
  | call c =>
   obtain ⟨callee, args, argTypes⟩ := c
   cases callee with
   | value f =>
    simp only at *
    obtain ⟨t, ht, he⟩ := qiO.1 he
    simp only [ht] at hw hr hwr ⊢
    exact qfD he hw hl hr hwr
   | invoke rv nm => simp at hw
   | builtin b =>
    simp only [evOp] at he ⊢
    simp only at hw hr hwr
    generalize args.toList = al at *
    generalize argTypes.toList = tl at *
    split at he
    ·rename_i hb; cases hb; exact qH he (qhP fun id hi => hr id (qeA hi)) hwr
    ·rename_i hb; cases hb; exact qH he rfl hwr
    ·rename_i hb; cases hb; exact qdQ he hr hwr hl (by simp) (fun id hi => by simp [hi])
    ·rename_i hb; cases hb; simp at hw
    ·rename_i hb; cases hb; simp at hw
    ·rename_i hb; cases hb; exact qH he rfl hwr
    ·rename_i hb; cases hb; exact qH he rfl hwr
    ·cases he
  | makeMap t rv => simp at hw
  | lookup t a k ok =>
   simp only [evOp] at *
   exact qH he (qfJ hr) hwr
  | mapUpdate t m k v => simp at hw
  | insert t m k v => simp at hw
  | _ => simp only [evOp] at he; cases he
variable {C C' C1 C2 : qa} {μ μ' μ1 : MMap} {H H' H1 H2 : AH} {w w' w1 : World} {P : Program}
theorem qas {at_ k : Nat} {r r' : AV} (h : zb (some at_) k r H = some (r', H')) : H'.length = k := by
 unfold zb at h
 split at h
 ·simp only at h
  split at h
  ·rename_i hb
   cases h
   exact qiQ hb
  ·cases h
 ·cases h
theorem qbI {cfg : Cfg} {t : TypeId} {m k v : AV} (h : qad cfg t m k v H = some H') : H'.length = H.length := by
 unfold qad at h
 split at h
 ·split at h
  ·split at h
   ·split at h
    ·cases h; simp
    ·cases h; simp
    ·cases h
   ·cases h
  ·cases h
 ·cases h
theorem qgt {cfg : Cfg} {cf : Orac} {frz : Bool} {at_ : Nat} {o : Oper} {x : Operand → AV} {r : AV} (he : qn cfg cf frz (some at_) o x H = some (r, H')) : H'.length = H.length := by
 have core : ∀ {x : Operand → AV} {H : AH}, qn cfg cf false (some at_) o x H = some (r, H') → H'.length = H.length := by
  intro x H he
  cases hw : (qZ cfg false at_ o x H).wall with
  | false =>
   obtain ⟨H2', e1, e2⟩ := zj (H2 := H) he hw rfl (fun _ _ => rfl) (fun _ _ => rfl)
   rw [he] at e1
   cases e1
   exact e2.1
  | true =>
   obtain ⟨dst, op, ty, pos, after, guard⟩ := o
   unfold qn at he
   simp only [qiW, if_false] at he
   unfold qZ at hw
   simp only [qiW, if_false] at hw
   cases op with
   | call c =>
    obtain ⟨callee, args, argTypes⟩ := c
    cases callee with
    | value f =>
     simp only at *
     obtain ⟨t, ht, he⟩ := qiO.1 he
     simp only [ht] at hw
     cases ht1 : t.1 with
     | y id =>
      rw [ht1] at he
      simp only [qI] at he
      obtain ⟨q, _, he⟩ := qiO.1 he
      exact qas he
     | f g =>
      rw [ht1] at he hw
      simp only [qI, yu] at he hw
      cases hm : cfg.mode g with
      | scal => simp [hm] at hw
      | pfrz => simp [hm, FP.none] at hw
      | nfrz => simp [hm, FP.none] at hw
      | wfrz => simp [hm, FP.none] at hw
      | pown => simp [hm] at hw
      | inpl => simp [hm] at hw
      | inpf => simp [hm] at hw
      | slf => simp [hm] at hw
      | sub => simp [hm] at hw
      | imp =>
       simp only [hm] at he
       obtain ⟨q, _, he⟩ := qiO.1 he
       exact qas he
      | ifrz =>
       simp only [hm] at he
       obtain ⟨q, _, he⟩ := qiO.1 he
       exact qas he
      | rgn => simp [hm] at hw
      | bld =>
       simp only [hm] at he
       split at he
       case h_2 => cases he
       split at he
       case isFalse => cases he
       split at he
       case h_2 => cases he
       obtain ⟨u, _, he⟩ := qiO.1 he
       obtain ⟨u, _, he⟩ := qiN.1 he
       cases he; simp
      | over =>
       simp only [hm] at he
       split at he
       case h_2 => cases he
       split at he
       case h_2 => cases he
       split at he
       case isFalse => cases he
       split at he
       ·obtain ⟨u, _, he⟩ := qiN.1 he
        cases he; simp
       ·obtain ⟨u, _, he⟩ := qiN.1 he
        cases he; rfl
       ·cases he
    | invoke rv nm => simp only [evOp] at he; cases he
    | builtin b =>
     simp only [evOp] at he
     simp only at hw
     generalize args.toList = al at *
     generalize argTypes.toList = tl at *
     split at he
     ·rename_i hb; cases hb; simp at hw
     ·rename_i hb; cases hb; simp [FP.none] at hw
     ·rename_i hb; cases hb; simp at hw
     ·unfold qd1 at he
      split at he
      ·split at he
       ·split at he
        ·split at he
         ·cases he; simp
         ·cases he
        ·cases he
       ·cases he
      ·cases he
     ·obtain ⟨H1, h1, e⟩ := qiN.1 he
      cases e
      unfold qc5 at h1
      split at h1
      ·cases h1; rfl
      ·split at h1
       ·cases h1; simp
       ·cases h1
      ·cases h1; rfl
      ·split at h1
       ·split at h1
        ·cases h1; simp
        ·cases h1
       ·cases h1
      ·cases h1
     ·rename_i hb; cases hb; simp [FP.none] at hw
     ·rename_i hb; cases hb; simp [FP.none] at hw
     ·cases he
   | makeMap t rv =>
    simp only [evOp] at he
    split at he
    ·split at he
     ·rename_i k H1 hnew
      cases he
      unfold aNew at hnew
      split at hnew
      ·rename_i e; cases e
      ·rename_i k' e
       cases e
       split at hnew
       ·cases hnew; simp
       ·cases hnew
     ·cases he
    ·cases he
   | lookup t a k ok =>
    simp only [evOp] at he
    obtain ⟨y, _, e⟩ := qiN.1 he
    cases e; rfl
   | mapUpdate t m k v =>
    simp only [evOp] at he
    obtain ⟨H1, h1, e⟩ := qiN.1 he
    cases e
    exact qbI h1
   | insert t m k v =>
    simp only [evOp] at he
    obtain ⟨H1, h1, e⟩ := qiN.1 he
    cases e
    exact qbI h1
   | _ => simp [FP.none] at hw
 cases frz with
 | false => exact core he
 | true =>
  have he' : qn cfg cf false (some at_) o (fun a => (x a).frz (o.op.operands.toList.flatMap fun a => (x a).msIds) H) (ql (o.op.operands.toList.flatMap fun a => (x a).msIds) H) = some (r, H') := by
   unfold qn at he ⊢
   simpa using he
  rw [core he', ym]
def vQ (p : Nat → Bool) : Nat → Option Nat
 | 0 => none
 | n + 1 => if p n then some n else vQ p n
theorem xz {p q : Nat → Bool} : ∀ {n : Nat}, (∀ j, j < n → p j = q j) → vQ p n = vQ q n
 | 0, _ => rfl
 | n + 1, h => by rw [vQ, vQ, h n (Nat.lt_succ_self n), xz fun j hj => h j (Nat.lt_succ_of_lt hj)]
theorem qaq {p : Nat → Bool} : ∀ {n : Nat}, (∀ j, j < n → p j = false) → vQ p n = none
 | 0, _ => rfl
 | n + 1, h => by rw [vQ, h n (Nat.lt_succ_self n), if_neg (by simp), qaq fun j hj => h j (Nat.lt_succ_of_lt hj)]
theorem qbP {p : Nat → Bool} {i : Nat} (hi : p i = true) : ∀ {n : Nat}, i < n → (∀ j, j < n → i < j → p j = false) → vQ p n = some i
 | 0, h, _ => by omega
 | n + 1, h, hj => by
  rw [vQ]
  by_cases e : i = n
  ·subst e; rw [if_pos hi]
  ·rw [hj n (Nat.lt_succ_self n) (by omega), if_neg (by simp), qbP hi (by omega) fun j h1 h2 => hj j (Nat.lt_succ_of_lt h1) h2]
def binds (o : Oper) (m : Nat) : Prop := ∃ e ∈ o.after.toList, Region.binds .any e = true ∧ e.on = m
theorem qeH (acc : List Nat) : ∀ (l : List Edge) (s i : Nat), (l.foldl (fun s e => if Region.binds .any e then s ||| 2 ^ e.on ||| acc.getD e.on 0 else s) s).testBit i = true →
  s.testBit i = true ∨ ∃ e ∈ l, Region.binds .any e = true ∧ (e.on = i ∨ (acc.getD e.on 0).testBit i = true)
 | [], s, i, h => .inl h
 | e :: l, s, i, h => by
  rw [List.foldl_cons] at h
  rcases qeH acc l _ i h with h | ⟨e', he', hb⟩
  ·split at h
   ·rename_i hb
    rw [Nat.testBit_or, Nat.testBit_or, Bool.or_eq_true, Bool.or_eq_true] at h
    rcases h with (h | h) | h
    ·exact .inl h
    ·rw [Nat.testBit_two_pow] at h
     exact .inr ⟨e, List.mem_cons_self .., hb, .inl (by simpa using h)⟩
    ·exact .inr ⟨e, List.mem_cons_self .., hb, .inr h⟩
   ·exact .inl h
  ·exact .inr ⟨e', List.mem_cons_of_mem _ he', hb⟩
theorem qbE : ∀ (l : List Oper) (acc : List Nat), ∃ t, ancs acc l = acc ++ t ∧ t.length = l.length
 | [], acc => ⟨[], by simp [ancs], rfl⟩
 | o :: l, acc => by
  obtain ⟨t, h1, h2⟩ := qbE l (acc ++ [qax acc o])
  exact ⟨qax acc o :: t, by rw [ancs, h1]; simp, by simp [h2]⟩
theorem qeY : ∀ (l : List Oper) (acc : List Nat) (j : Nat) (o : Oper), l[j]? = some o → (ancs acc l).getD (acc.length + j) 0 = qax ((ancs acc l).take (acc.length + j)) o
 | [], acc, j, o, h => by simp at h
 | o' :: l, acc, j, o, h => by
  cases j with
  | zero =>
   simp at h; subst h
   obtain ⟨t, h1, h2⟩ := qbE l (acc ++ [qax acc o'])
   rw [ancs, h1]
   simp
  | succ j =>
   have := qeY l (acc ++ [qax acc o']) j o (by simpa using h)
   rw [ancs]
   simp only [List.length_append, List.length_cons, List.length_nil] at this
   rw [show acc.length + (j + 1) = acc.length + (0 + 1) + j by omega]
   exact this
theorem qhO {ops : Array Oper} (hb : vF 0 ops.toList = true) {j i : Nat} {o : Oper} (ho : ops[j]? = some o) (h : ((ancs [] ops.toList).getD j 0).testBit i = true) : ∃ m, binds o m ∧ m < j ∧ (m = i ∨ ((ancs [] ops.toList).getD m 0).testBit i = true) := by
 have hback : ∀ (l : List Oper) (k j : Nat) (o : Oper), vF k l = true → l[j]? = some o → ∀ e ∈ o.after.toList, Region.binds .any e = true → e.on < k + j := by
  intro l
  induction l with
  | nil => intro k j o _ h; simp at h
  | cons o' l ih =>
   intro k j o hb hj e he hbe
   rw [vF, qiP] at hb
   cases j with
   | zero =>
    simp at hj; subst hj
    have := List.all_eq_true.1 hb.1 e he
    rw [hbe] at this
    simpa [qi3] using this
   | succ j =>
    have := ih (k + 1) j o hb.2 (by simpa using hj) e he hbe
    omega
 have ho' : ops.toList[j]? = some o := by rw [Array.getElem?_toList]; exact ho
 have hg := qeY ops.toList [] j o ho'
 simp only [List.length_nil, Nat.zero_add] at hg
 rw [hg] at h
 unfold qax at h
 rcases qeH _ _ _ _ h with h | ⟨e, he, hbe, h⟩
 ·simp at h
 ·have hlt : e.on < j := by have := hback ops.toList 0 j o hb ho' e he hbe; omega
  refine ⟨e.on, ⟨e, he, hbe, rfl⟩, hlt, ?_⟩
  rcases h with h | h
  ·exact .inl h
  ·right
   rw [List.getD_eq_getElem?_getD, List.getElem?_take_of_lt hlt, ← List.getD_eq_getElem?_getD] at h
   exact h
variable {C C' C1 C2 : qa} {μ μ' μ1 : MMap} {H H' H1 H2 : AH} {w w' w1 : World} {P : Program}
def FP.T (a : FP) (id : Nat) : Bool := a.wall || qT id a.rd || qT id a.wr
def FP.W (a : FP) (id : Nat) : Bool := a.wall || qT id a.wr
theorem FP.touches_T {a : FP} {id : Nat} (h : a.T id = true) : a.touches = true := by
 unfold FP.T at h
 unfold FP.touches
 rw [Bool.or_eq_true, Bool.or_eq_true] at h
 rcases h with (h | h) | h
 ·simp [h]
 ·cases hr : a.rd with
  | nil => rw [hr] at h; simp [qT] at h
  | cons x l => simp
 ·cases hr : a.wr with
  | nil => rw [hr] at h; simp [qT] at h
  | cons x l => simp
theorem FP.T_of_W {a : FP} {id : Nat} (h : a.W id = true) : a.T id = true := by
 unfold FP.W at h; unfold FP.T
 rw [Bool.or_eq_true] at h
 rcases h with h | h <;> simp [h]
theorem qar {a b : FP} (h : a.indep b = true) (id : Nat) : ¬ (a.T id = true ∧ b.W id = true) ∧ ¬ (a.W id = true ∧ b.T id = true) := by
 simp only [FP.indep, qiP, qge, Bool.not_eq_true', Bool.and_eq_false_iff] at h
 obtain ⟨⟨⟨⟨h1, h2⟩, h3⟩, h4⟩, h5⟩ := h
 constructor
 ·rintro ⟨ha, hb⟩
  have ta := FP.touches_T ha
  have tb := FP.touches_T (FP.T_of_W hb)
  have wa : a.wall = false := h1.resolve_right (by rw [tb]; simp)
  have wb : b.wall = false := h2.resolve_right (by rw [ta]; simp)
  unfold FP.T at ha; unfold FP.W at hb
  rw [wa, Bool.false_or, Bool.or_eq_true, qr, qr] at ha
  rw [wb, Bool.false_or, qr] at hb
  rcases ha with ha | ha
  ·exact h5 id hb ha
  ·exact h4 id hb ha
 ·rintro ⟨ha, hb⟩
  have ta := FP.touches_T (FP.T_of_W ha)
  have tb := FP.touches_T hb
  have wa : a.wall = false := h1.resolve_right (by rw [tb]; simp)
  have wb : b.wall = false := h2.resolve_right (by rw [ta]; simp)
  unfold FP.W at ha; unfold FP.T at hb
  rw [wa, Bool.false_or, qr] at ha
  rw [wb, Bool.false_or, Bool.or_eq_true, qr, qr] at hb
  rcases hb with hb | hb
  ·exact h3 id hb ha
  ·exact h4 id hb ha
theorem qbs {ops : Array Oper} {A : List Nat} {i : Nat} {a : Oper} : ∀ (l : List Oper) (j0 : Nat), qbd ops A i a j0 l = true → ∀ j b, l[j]? = some b → yh a b = true ∧ ((A.getD (j0 + j) 0).testBit i = true ∨ yi ops a b = true)
 | [], _, _, j, b, h => by simp at h
 | x :: l, j0, hs, j, b, h => by
  rw [qbd, qiP, qiP, Bool.or_eq_true] at hs
  cases j with
  | zero => simp at h; subst h; exact hs.1
  | succ j =>
   have := qbs l (j0 + 1) hs.2 j b (by simpa using h)
   rw [show j0 + (j + 1) = j0 + 1 + j by omega]
   exact this
theorem qbt {ops : Array Oper} {A : List Nat} : ∀ (l : List Oper) (i0 : Nat), qbe ops A i0 l = true → ∀ i j a b, l[i]? = some a → l[j]? = some b → i < j → yh a b = true ∧ ((A.getD (i0 + j) 0).testBit (i0 + i) = true ∨ yi ops a b = true)
 | [], _, _, i, j, a, b, h, _, _ => by simp at h
 | x :: l, i0, hs, i, j, a, b, hi, hj, hlt => by
  rw [qbe, qiP] at hs
  cases j with
  | zero => omega
  | succ j =>
   cases i with
   | zero =>
    simp at hi; subst hi
    have := qbs l (i0 + 1) hs.1 j b (by simpa using hj)
    rw [show i0 + (j + 1) = i0 + 1 + j by omega]
    exact this
   | succ i =>
    have := qbt l (i0 + 1) hs.2 i j a b (by simpa using hi) (by simpa using hj) (by omega)
    rw [show i0 + (j + 1) = i0 + 1 + j by omega, show i0 + (i + 1) = i0 + 1 + i by omega]
    exact this
theorem qcP {A : List Nat} {i : Nat} {a : FP} : ∀ (l : List FP) (j0 : Nat), qcQ A i a j0 l = true → ∀ j b, l[j]? = some b → (A.getD (j0 + j) 0).testBit i = true ∨ a.indep b = true
 | [], _, _, j, b, h => by simp at h
 | x :: l, j0, hs, j, b, h => by
  rw [qcQ, qiP, Bool.or_eq_true] at hs
  cases j with
  | zero => simp at h; subst h; exact hs.1
  | succ j =>
   have := qcP l (j0 + 1) hs.2 j b (by simpa using h)
   rw [show j0 + (j + 1) = j0 + 1 + j by omega]
   exact this
theorem qav {A : List Nat} : ∀ (l : List FP) (i0 : Nat), qa8 A i0 l = true → ∀ i j a b, l[i]? = some a → l[j]? = some b → i < j → (A.getD (i0 + j) 0).testBit (i0 + i) = true ∨ a.indep b = true
 | [], _, _, i, j, a, b, h, _, _ => by simp at h
 | x :: l, i0, hs, i, j, a, b, hi, hj, hlt => by
  rw [qa8, qiP] at hs
  cases j with
  | zero => omega
  | succ j =>
   cases i with
   | zero =>
    simp at hi; subst hi
    have := qcP l (i0 + 1) hs.1 j b (by simpa using hj)
    rw [show i0 + (j + 1) = i0 + 1 + j by omega]
    exact this
   | succ i =>
    have := qav l (i0 + 1) hs.2 i j a b (by simpa using hi) (by simpa using hj) (by omega)
    rw [show i0 + (j + 1) = i0 + 1 + j by omega, show i0 + (i + 1) = i0 + 1 + i by omega]
    exact this
theorem qct {t : Tmp} : ∀ {l : List Operand}, Operand.tmp t ∈ l → t ∈ zL l
 | [], h => by cases h
 | x :: l, h => by
  rcases qi4.1 h with h | h
  ·subst h; simp [zL]
  ·have := qct h
   cases x <;> simp [zL, this]
theorem qfS {fr fr2 : List AV} {ops : Array Oper} {o : Oper} (h : ∀ t ∈ xb ops o, fr2[t]? = fr[t]?) : ∀ a ∈ o.op.operands, opd fr2 a = opd fr a := by
 intro a ha
 cases a with
 | tmp t =>
  have : t ∈ xb ops o := by unfold xb; exact qi2.2 (.inl (qct (Array.mem_toList_iff.2 ha)))
  show fr2.getD t .junk = fr.getD t .junk
  rw [List.getD_eq_getElem?_getD, List.getD_eq_getElem?_getD, h t this]
 | _ => rfl
theorem qfd {fr fr2 : List AV} {ops : Array Oper} {o : Oper} (h : ∀ t ∈ xb ops o, fr2[t]? = fr[t]?) : qK ops fr2 o = qK ops fr o := by
 unfold qK
 split
 ·rfl
 ·rename_i j want hg
  split
  ·rename_i d hd
   have : d ∈ xb ops o := by unfold xb; rw [hg]; simp [hd]
   rw [h d this]
  ·rfl
structure DStep (cfg : Cfg) (cf : Orac) (ops : Array Oper) (frz : Bool) (o : Oper) (fr fr' : List AV) (H H' : AH) (v : AV) (b : Bool) (at_ : Nat) (fp : FP) (re : AH → Bool) : Prop where
 wanted : qK ops fr o = some b
 next : fr' = put fr o.dst v
 yes : b = true → qn cfg cf frz (some at_) o (opd fr) H = some (v, H') ∧ fp = qZ cfg frz at_ o (opd fr) H ∧ re = qcm cfg frz at_ o (opd fr) v
 no : b = false → v = .tup [] ∧ H' = H ∧ fp = FP.none ∧ re = fun _ => false
theorem qcL {cfg : Cfg} {cf : Orac} {f rid : Nat} {ops : Array Oper} : ∀ (rest : List Oper) (k at_ : Nat) {fr fr' : List AV} {H H' : AH} {fps : List DR}, q4 cfg cf f rid ops k at_ rest fr H = some (fps, fr', H') →
  ∃ (F : Nat → List AV) (G : Nat → AH) (V : Nat → AV) (B : Nat → Bool) (A : Nat → Nat) (Φ : Nat → FP) (R : Nat → AH → Bool), F 0 = fr ∧ G 0 = H ∧ F rest.length = fr' ∧ G rest.length = H' ∧ (∀ i, i < rest.length → fps[i]? = some ⟨Φ i, G (i + 1), R i⟩) ∧
   ∀ i o, rest[i]? = some o → DStep cfg cf ops (cfg.frz f rid (k + i)) o (F i) (F (i + 1)) (G i) (G (i + 1)) (V i) (B i) (A i) (Φ i) (R i)
 | [], k, at_, fr, fr', H, H', fps, he => by
  simp only [q4] at he
  cases he
  exact ⟨fun _ => fr, fun _ => H, fun _ => .junk, fun _ => true, fun _ => 0, fun _ => FP.none, fun _ _ => false, rfl, rfl, rfl, rfl, fun i h => by simp at h, fun i o h => by simp at h⟩
 | o :: rest, k, at_, fr, fr', H, H', fps, he => by
  simp only [q4] at he
  obtain ⟨b, hb, he⟩ := qiO.1 he
  have glue : ∀ {v : AV} {H1 : AH} {fp : FP} {re : AH → Bool} {fps1 : List DR}, DStep cfg cf ops (cfg.frz f rid k) o fr (put fr o.dst v) H H1 v b at_ fp re →
    q4 cfg cf f rid ops (k + 1) (at_ + zW cfg o) rest (put fr o.dst v) H1 = some (fps1, fr', H') → fps = ⟨fp, H1, re⟩ :: fps1 →
    ∃ (F : Nat → List AV) (G : Nat → AH) (V : Nat → AV) (B : Nat → Bool) (A : Nat → Nat) (Φ : Nat → FP) (R : Nat → AH → Bool), F 0 = fr ∧ G 0 = H ∧ F (o :: rest).length = fr' ∧ G (o :: rest).length = H' ∧ (∀ i, i < (o :: rest).length → fps[i]? = some ⟨Φ i, G (i + 1), R i⟩) ∧
     ∀ i o', (o :: rest)[i]? = some o' → DStep cfg cf ops (cfg.frz f rid (k + i)) o' (F i) (F (i + 1)) (G i) (G (i + 1)) (V i) (B i) (A i) (Φ i) (R i) := by
   intro v H1 fp re fps1 hs hd hfp
   obtain ⟨F, G, V, B, A, Φ, R, e1, e2, e3, e4, e5, e6⟩ := qcL rest (k + 1) _ hd
   refine ⟨fun i => match i with | 0 => fr | i + 1 => F i, fun i => match i with | 0 => H | i + 1 => G i, fun i => match i with | 0 => v | i + 1 => V i, fun i => match i with | 0 => b | i + 1 => B i,
    fun i => match i with | 0 => at_ | i + 1 => A i, fun i => match i with | 0 => fp | i + 1 => Φ i, fun i => match i with | 0 => re | i + 1 => R i, rfl, rfl, e3, e4, fun i hi => ?_, fun i o' ho => ?_⟩
   ·rw [hfp]
    cases i with
    | zero =>
     show some (DR.mk fp H1 re) = some ⟨fp, G 0, re⟩
     rw [e2]
    | succ i => exact e5 i (by simpa using hi)
   ·cases i with
    | zero =>
     simp at ho; subst ho
     show DStep cfg cf ops (cfg.frz f rid (k + 0)) o fr (F 0) H (G 0) v b at_ fp re
     rw [e1, e2]; exact hs
    | succ i =>
     have := e6 i o' (by simpa using ho)
     rw [show k + (i + 1) = k + 1 + i by omega]
     exact this
  split at he
  ·rename_i hbt
   obtain ⟨q, hq, he⟩ := qiO.1 he
   obtain ⟨p, hp, e⟩ := qiN.1 he
   obtain ⟨fps1, fr1, H1⟩ := p
   cases e
   exact glue ⟨hb, rfl, fun _ => ⟨hq, rfl, rfl⟩, fun h => by rw [h] at hbt; simp at hbt⟩ hp rfl
  ·rename_i hbt
   obtain ⟨p, hp, e⟩ := qiN.1 he
   obtain ⟨fps1, fr1, H1⟩ := p
   cases e
   exact glue ⟨hb, rfl, fun h => absurd h hbt, fun _ => ⟨rfl, rfl, rfl, rfl⟩⟩ hp rfl
theorem DStep.again {cfg : Cfg} {cf : Orac} {ops : Array Oper} {frz : Bool} {o : Oper} {fr fr' : List AV} {v : AV} {at_ : Nat} {fp : FP} {re : AH → Bool} (h : DStep cfg cf ops frz o fr fr' H H' v true at_ fp re) {fr2 : List AV}
  (hu : ∀ t ∈ xb ops o, fr2[t]? = fr[t]?) (hl : H2.length = H.length) (ht : ∀ id, fp.T id = true → H2[id]? = H[id]?) :
  ∃ H2', qn cfg cf frz (some at_) o (opd fr2) H2 = some (v, H2') ∧ H2'.length = H2.length ∧ ∀ id, H2'[id]? = if fp.W id = true then H'[id]? else H2[id]? := by
 obtain ⟨he, hfp, -⟩ := h.yes rfl
 rw [qa5 (qfS hu)]
 cases hw : fp.wall with
 | true =>
  have : H2 = H := List.ext_getElem? fun id => ht id (by unfold FP.T; rw [hw]; simp)
  subst this
  exact ⟨H', he, qgt he, fun id => by unfold FP.W; rw [hw]; simp⟩
 | false =>
  rw [hfp] at hw
  obtain ⟨H2', e1, e2, e3⟩ := zj (H2 := H2) he hw hl (fun id hi => ht id (by unfold FP.T; rw [hfp, Bool.or_eq_true, Bool.or_eq_true, qr, qr]; exact .inl (.inr hi)))
   (fun id hi => ht id (by unfold FP.T; rw [hfp, Bool.or_eq_true, Bool.or_eq_true, qr, qr]; exact .inr hi))
  refine ⟨H2', e1, e2, fun id => ?_⟩
  rw [e3 id]
  unfold FP.W
  rw [hfp, hw, Bool.false_or]
  by_cases hi : id ∈ (qZ cfg frz at_ o (opd fr) H).wr
  ·rw [if_pos hi, if_pos (qr.2 hi)]
  ·rw [if_neg hi, if_neg (fun h => hi (qr.1 h))]
theorem qhv {a b : AV} (h : a.same1 b = true) : a = b := by
 cases a <;> cases b <;> simp [AV.same1] at h <;> first | rfl | (obtain ⟨h1, h2⟩ := h; subst h1; subst h2; rfl) | (subst h; rfl) | (obtain ⟨⟨h1, h2⟩, h3⟩ := h; subst h1; subst h2; subst h3; rfl) | (obtain ⟨h1, h2, h3⟩ := h; subst h1; subst h2; subst h3; rfl)
theorem DStep.reads {cfg : Cfg} {cf : Orac} {ops : Array Oper} {frz : Bool} {o : Oper} {fr fr' : List AV} {v : AV} {at_ : Nat} {fp : FP} {re : AH → Bool} {b : Bool} (h : DStep cfg cf ops frz o fr fr' H H' v b at_ fp re) {G : AH} (hr : re G = true) :
  b = true ∧ H' = H ∧ ∃ id, fp = ⟨[id], [], false⟩ ∧ ∀ {G : AH}, re G = true → ∀ {fr2 : List AV}, (∀ t ∈ xb ops o, fr2[t]? = fr[t]?) → ∀ {H2 : AH}, H2[id]? = G[id]? → H2.length = G.length → qn cfg cf frz (some at_) o (opd fr2) H2 = some (v, H2) := by
 cases b with
 | false => rw [(h.no rfl).2.2.2] at hr; cases hr
 | true =>
  obtain ⟨he, hfp, hre⟩ := h.yes rfl
  refine ⟨rfl, ?_⟩
  rw [hre] at hr
  obtain ⟨dst, op, ty, pos, after, guard⟩ := o
  unfold qcm at hr
  split at hr
  case isTrue => cases hr
  rename_i hfz
  have hfz : frz = false := by simpa using hfz
  subst hfz
  cases op with
  | load t a =>
   simp only at hr
   split at hr
   case h_2 => cases hr
   rename_i id r off hx
   have hfp' : fp = ⟨[id], [], false⟩ := by rw [hfp]; simp [qZ, hx, AV.hid]
   refine ⟨?_, id, hfp', fun {G} hG {fr2} hu {H2} hid hlen => ?_⟩
   ·unfold qn at he
    simp only [qiW, if_false, evOp] at he
    split at he
    ·obtain ⟨_, _, e⟩ := qiN.1 he
     cases e; rfl
    ·cases he
   ·rw [qa5 (qfS hu)]
    rw [hre] at hG
    unfold qcm at hG
    simp only [qiW, if_false, hx] at hG
    split at hG
    case h_2 => cases hG
    rename_i v' G' hv
    have := qhv hG
    subst this
    have hev : qn cfg cf false (some at_) ⟨dst, .load t a, ty, pos, after, guard⟩ (opd fr) G = some (v', G') := by
     unfold qn
     simp only [qiW, if_false]
     exact hv
    obtain ⟨H2', e1, e2, e3⟩ := zj (H2 := H2) hev (by simp [qZ]) hlen (fun i hi => by
     simp [qZ, hx, AV.hid] at hi
     subst hi; exact hid) (fun i hi => by simp [qZ] at hi)
    have : H2' = H2 := List.ext_getElem? fun i => by rw [e3 i]; simp [qZ]
    rw [this] at e1
    exact e1
  | _ => cases hr
variable {C C' C1 C2 : qa} {μ μ' μ1 : MMap} {H H' H1 H2 : AH} {w w' w1 : World} {P : Program}
def vr (ops : Array Oper) (t j : Nat) : Bool :=
 match ops[j]? with
 | some o => (match o.dst with | some d => qiY d t | none => false)
 | none => false
theorem qaX {ops : Array Oper} {t j : Nat} {o : Oper} (h : ops[j]? = some o) : vr ops t j = true ↔ o.dst = some t := by
 unfold vr
 rw [h]
 simp only
 cases hd : o.dst with
 | none => simp
 | some d =>
  simp only [Option.some.injEq]
  constructor
  ·intro h; exact qiQ h
  ·intro h; rw [h]; exact Nat.beq_refl _
theorem yI {ops : Array Oper} {t j : Nat} (h : vr ops t j = true) : ∃ o, ops[j]? = some o ∧ o.dst = some t := by
 cases ho : ops[j]? with
 | none => unfold vr at h; rw [ho] at h; cases h
 | some o => exact ⟨o, rfl, (qaX ho).1 h⟩
structure FrIs (ops : Array Oper) (V : Nat → AV) (F0 : List AV) (D : Nat → Bool) (fr : List AV) : Prop where
 len : fr.length = F0.length
 get : ∀ t, t < F0.length → fr[t]? = match vQ (fun j => D j && vr ops t j) ops.size with | some j => some (V j) | none => F0[t]?
structure HIs (Φ : Nat → FP) (G : Nat → AH) (N : Nat) (D : Nat → Bool) (H : AH) : Prop where
 len : H.length = (G 0).length
 get : ∀ id, H[id]? = match vQ (fun j => D j && (Φ j).W id) N with | some j => (G (j + 1))[id]? | none => (G 0)[id]?
def addD (D : Nat → Bool) (i : Nat) : Nat → Bool := fun j => D j || qiY j i
def preD (i : Nat) : Nat → Bool := fun j => Nat.blt j i
theorem zv (D : Nat → Bool) (i : Nat) : addD D i i = true := by simp [addD]
theorem yT {D : Nat → Bool} {i j : Nat} (h : j ≠ i) : addD D i j = D j := by
 unfold addD
 have : qiY j i = false := by rw [← Bool.not_eq_true]; intro h'; exact h (qiQ h')
 rw [this, Bool.or_false]
theorem qg0 (i : Nat) : preD (i + 1) = addD (preD i) i := by
 funext j
 unfold preD addD
 rw [Bool.eq_iff_iff, Bool.or_eq_true, qi3, qi3]
 constructor
 ·intro h
  rcases Nat.lt_or_ge j i with h' | h'
  ·exact .inl h'
  ·have : j = i := by omega
   subst this; exact .inr (Nat.beq_refl _)
 ·rintro (h | h)
  ·omega
  ·have := qiQ h; omega
theorem FrIs.add {ops : Array Oper} {V : Nat → AV} {F0 : List AV} {D : Nat → Bool} {fr : List AV} (h : FrIs ops V F0 D fr) {i : Nat} {o : Oper} (ho : ops[i]? = some o) (hd : ∀ t j, j ≠ i → vr ops t j = true → vr ops t i = true → False) :
  FrIs ops V F0 (addD D i) (put fr o.dst (V i)) := by
 have hi : i < ops.size := (Array.getElem?_eq_some_iff.1 ho).1
 refine ⟨by rw [← h.len]; cases o.dst <;> simp [put], fun t ht => ?_⟩
 by_cases e : vr ops t i = true
 ·have hdst := (qaX ho).1 e
  rw [qbP (i := i) (by rw [zv, e]; rfl) hi (fun j hj hlt => by
   have : vr ops t j = false := by rw [← Bool.not_eq_true]; exact fun h' => hd t j (by omega) h' e
   rw [this, Bool.and_false])]
  rw [hdst]
  simp only [put]
  rw [qiT, if_pos rfl, if_pos (by rw [h.len]; exact ht)]
 ·have hne : o.dst ≠ some t := fun h' => e ((qaX ho).2 h')
  rw [xz (q := fun j => D j && vr ops t j) (fun j hj => by
   by_cases hji : j = i
   ·subst hji
    have : vr ops t j = false := by simpa using e
    rw [this, Bool.and_false, Bool.and_false]
   ·rw [yT hji])]
  rw [← h.get t ht]
  cases hdst : o.dst with
  | none => rfl
  | some d =>
   simp only [put]
   rw [qiT, if_neg]
   intro e'; subst e'; exact hne hdst
theorem HIs.add {Φ : Nat → FP} {G : Nat → AH} {N : Nat} {D : Nat → Bool} (h : HIs Φ G N D H) {i : Nat} (hi : i < N) (hd : ∀ j, D j = true → i < j → ∀ id, ¬ ((Φ i).W id = true ∧ (Φ j).W id = true)) (hl : H'.length = H.length)
  (hg : ∀ id, H'[id]? = if (Φ i).W id = true then (G (i + 1))[id]? else H[id]?) : HIs Φ G N (addD D i) H' := by
 refine ⟨by rw [hl, h.len], fun id => ?_⟩
 rw [hg id]
 by_cases e : (Φ i).W id = true
 ·rw [if_pos e]
  rw [qbP (i := i) (by rw [zv, e]; rfl) hi (fun j hj hlt => by
   rw [yT (by omega)]
   cases hD : D j with
   | false => rfl
   | true =>
    have := hd j hD hlt id
    rw [Bool.true_and, ← Bool.not_eq_true]
    exact fun h' => this ⟨e, h'⟩)]
 ·rw [if_neg e]
  rw [xz (q := fun j => D j && (Φ j).W id) (fun j hj => by
   by_cases hji : j = i
   ·subst hji
    have : (Φ j).W id = false := by simpa using e
    rw [this, Bool.and_false, Bool.and_false]
   ·rw [yT hji])]
  exact h.get id
theorem FrIs.congr {ops : Array Oper} {V : Nat → AV} {F0 : List AV} {D D' : Nat → Bool} {fr fr' : List AV} (h : FrIs ops V F0 D fr) (h' : FrIs ops V F0 D' fr') {t : Nat} (hD : ∀ j, vr ops t j = true → D j = D' j) : fr[t]? = fr'[t]? := by
 rcases Nat.lt_or_ge t F0.length with ht | ht
 ·rw [h.get t ht, h'.get t ht, xz (p := fun j => D j && vr ops t j) (q := fun j => D' j && vr ops t j) (fun j _ => by
   cases hd : vr ops t j with
   | false => rw [Bool.and_false, Bool.and_false]
   | true => rw [hD j hd])]
 ·rw [List.getElem?_eq_none (by rw [h.len]; exact ht), List.getElem?_eq_none (by rw [h'.len]; exact ht)]
theorem HIs.congr {Φ : Nat → FP} {G : Nat → AH} {N : Nat} {D D' : Nat → Bool} (h : HIs Φ G N D H) (h' : HIs Φ G N D' H') {id : Nat} (hD : ∀ j, j < N → (Φ j).W id = true → D j = D' j) : H[id]? = H'[id]? := by
 rw [h.get id, h'.get id, xz (p := fun j => D j && (Φ j).W id) (q := fun j => D' j && (Φ j).W id) (fun j hj => by
  cases hd : (Φ j).W id with
  | false => rw [Bool.and_false, Bool.and_false]
  | true => rw [hD j hj hd])]
def xm (L : List Nat) (D : Nat → Bool) : Prop := ∀ j, D j = true → ∀ i, (L.getD j 0).testBit i = true → D i = true
section
variable {cfg : Cfg} {cf : Orac} {ops : Array Oper} {frz : Nat → Bool} {F : Nat → List AV} {G : Nat → AH} {V : Nat → AV} {B : Nat → Bool} {A : Nat → Nat} {Φ Ψ : Nat → FP} {R : Nat → AH → Bool}
structure DrawOk (cfg : Cfg) (cf : Orac) (ops : Array Oper) (frz : Nat → Bool) (F : Nat → List AV) (G : Nat → AH) (V : Nat → AV) (B : Nat → Bool) (A : Nat → Nat) (Φ Ψ : Nat → FP) (R : Nat → AH → Bool) : Prop where
 back : vF 0 ops.toList = true
 stat : ∀ i j a b, ops[i]? = some a → ops[j]? = some b → i < j → yh a b = true ∧ (((ancs [] ops.toList).getD j 0).testBit i = true ∨ yi ops a b = true)
 dyn : ∀ i j, j < ops.size → i < j → ((ancs [] ops.toList).getD j 0).testBit i = true ∨ (Ψ i).indep (Ψ j) = true
 stb : ∀ i, i < ops.size → Ψ i = Φ i ∨ ∀ m, m ≤ ops.size → R i (G m) = true
 run : ∀ i o, ops[i]? = some o → DStep cfg cf ops (frz i) o (F i) (F (i + 1)) (G i) (G (i + 1)) (V i) (B i) (A i) (Φ i) (R i)
theorem DrawOk.dst (h : DrawOk cfg cf ops frz F G V B A Φ Ψ R) {t i j : Nat} (hne : j ≠ i) (hj : vr ops t j = true) (hi : vr ops t i = true) : False := by
 obtain ⟨a, ha, hda⟩ := yI hi
 obtain ⟨b, hb, hdb⟩ := yI hj
 rcases Nat.lt_or_ge i j with hlt | hge
 ·have := (h.stat i j a b ha hb hlt).1
  unfold yh at this
  rw [hda, hdb] at this
  simp at this
 ·have := (h.stat j i b a hb ha (by omega)).1
  unfold yh at this
  rw [hda, hdb] at this
  simp at this
theorem DrawOk.pre (h : DrawOk cfg cf ops frz F G V B A Φ Ψ R) : ∀ i, i ≤ ops.size → FrIs ops V (F 0) (preD i) (F i) ∧ HIs Φ G ops.size (preD i) (G i)
 | 0, _ => ⟨⟨rfl, fun t ht => by rw [qaq (fun j _ => by simp [preD])]⟩, ⟨rfl, fun id => by rw [qaq (fun j _ => by simp [preD])]⟩⟩
 | i + 1, hi => by
  obtain ⟨h1, h2⟩ := h.pre i (by omega)
  have hlt : i < ops.size := by omega
  have ho := Array.getElem?_eq_getElem hlt
  have hs := h.run i _ ho
  rw [qg0]
  refine ⟨by rw [hs.next]; exact h1.add ho fun t j hne hj hi => h.dst hne hj hi, ?_⟩
  have key : (G (i + 1)).length = (G i).length ∧ ∀ id, (G (i + 1))[id]? = if (Φ i).W id = true then (G (i + 1))[id]? else (G i)[id]? := by
   cases hb : B i with
   | true =>
    rw [hb] at hs
    obtain ⟨H2', e1, e2, e3⟩ := hs.again (fr2 := F i) (H2 := G i) (fun _ _ => rfl) rfl (fun _ _ => rfl)
    rw [(hs.yes rfl).1] at e1
    cases e1
    exact ⟨e2, e3⟩
   | false =>
    obtain ⟨_, e1, e2, _⟩ := hs.no hb
    exact ⟨by rw [e1], fun id => by rw [e1, e2]; simp [FP.W, FP.none, qT]⟩
  exact h2.add hlt (fun j hj hij => by simp [preD, qi3] at hj; omega) key.1 key.2
theorem DrawOk.wr (h : DrawOk cfg cf ops frz F G V B A Φ Ψ R) {j : Nat} (hj : j < ops.size) {id : Nat} (hw : (Φ j).W id = true) : (Ψ j).W id = true := by
 rcases h.stb j hj with e | e
 ·rw [e]; exact hw
 ·obtain ⟨_, _, i, hf, _⟩ := (h.run j _ (Array.getElem?_eq_getElem hj)).reads (e 0 (Nat.zero_le _))
  rw [hf] at hw
  simp [FP.W, qT] at hw
theorem qex {p : Nat → Bool} : ∀ {n j : Nat}, vQ p n = some j → j < n
 | 0, j, h => by simp [vQ] at h
 | n + 1, j, h => by
  rw [vQ] at h
  split at h
  ·cases h; omega
  ·have := qex h; omega
theorem DrawOk.ready (h : DrawOk cfg cf ops frz F G V B A Φ Ψ R) {D : Nat → Bool} {fr : List AV} (hf : FrIs ops V (F 0) D fr) (hH : HIs Φ G ops.size D H) (hc : xm (ancs [] ops.toList) D) {i : Nat} {o : Oper} (ho : ops[i]? = some o) (hi : D i = false)
  (hanc : ∀ m, ((ancs [] ops.toList).getD i 0).testBit m = true → D m = true) (hDN : ∀ j, D j = true → j < ops.size) :
  qK ops fr o = some (B i) ∧ (B i = true → ∃ H', qn cfg cf (frz i) (some (A i)) o (opd fr) H = some (V i, H') ∧ HIs Φ G ops.size (addD D i) H') ∧ (B i = false → V i = .tup [] ∧ HIs Φ G ops.size (addD D i) H) ∧
   FrIs ops V (F 0) (addD D i) (put fr o.dst (V i)) := by
 have hlt : i < ops.size := (Array.getElem?_eq_some_iff.1 ho).1
 obtain ⟨p1, p2⟩ := h.pre i (by omega)
 have hs := h.run i o ho
 have hslots : ∀ t ∈ xb ops o, fr[t]? = (F i)[t]? := by
  intro t ht
  refine hf.congr p1 fun j hj => ?_
  obtain ⟨b, hb, hdb⟩ := yI hj
  rcases Nat.lt_trichotomy j i with hji | hji | hji
  ·have : preD i j = true := by simp [preD, qi3, hji]
   rw [this]
   rcases (h.stat j i b o hb ho hji).2 with ha | ha
   ·exact hanc j ha
   ·unfold yi at ha
    rw [hdb, qiP] at ha
    have := ha.1
    simp only [Bool.not_eq_true', ← Bool.not_eq_true, qr] at this
    exact absurd ht this
  ·subst hji; rw [hi]; symm; rw [← Bool.not_eq_true]; simp [preD, qi3]
  ·have : preD i j = false := by rw [← Bool.not_eq_true]; simp [preD, qi3]; omega
   rw [this]
   rcases (h.stat i j o b ho hb hji).2 with ha | ha
   ·rw [← Bool.not_eq_true]; intro hD; rw [hc j hD i ha] at hi; cases hi
   ·unfold yi at ha
    rw [hdb, qiP] at ha
    have := ha.2
    simp only [Bool.not_eq_true', ← Bool.not_eq_true, qr] at this
    exact absurd ht this
 have hblks : Ψ i = Φ i → ∀ id, (Φ i).T id = true → H[id]? = (G i)[id]? := by
  intro hΨ id ht
  rw [← hΨ] at ht
  refine hH.congr p2 fun j hjN hj => ?_
  rcases Nat.lt_trichotomy j i with hji | hji | hji
  ·have : preD i j = true := by simp [preD, qi3, hji]
   rw [this]
   rcases h.dyn j i hlt hji with ha | ha
   ·exact hanc j ha
   ·exact absurd ⟨h.wr hjN hj, ht⟩ (qar ha id).2
  ·subst hji; rw [hi]; symm; rw [← Bool.not_eq_true]; simp [preD, qi3]
  ·have : preD i j = false := by rw [← Bool.not_eq_true]; simp [preD, qi3]; omega
   rw [this]
   rcases h.dyn i j hjN hji with ha | ha
   ·rw [← Bool.not_eq_true]; intro hD; rw [hc j hD i ha] at hi; cases hi
   ·exact absurd ⟨ht, h.wr hjN hj⟩ (qar ha id).1
 have hww : ∀ j, D j = true → i < j → ∀ id, ¬ ((Φ i).W id = true ∧ (Φ j).W id = true) := by
  intro j hD hij id hWW
  have hjN := hDN j hD
  rcases h.dyn i j hjN hij with ha | ha
  ·rw [hc j hD i ha] at hi; cases hi
  ·exact (qar ha id).2 ⟨h.wr hlt hWW.1, FP.T_of_W (h.wr hjN hWW.2)⟩
 refine ⟨by rw [qfd hslots]; exact hs.wanted, fun hb => ?_, fun hb => ?_, hf.add ho fun t j hne hj hi => h.dst hne hj hi⟩
 ·rcases h.stb i hlt with hΨ | hst
  ·rw [hb] at hs
   have hlen : H.length = (G i).length := by rw [hH.len, p2.len]
   obtain ⟨H', e1, e2, e3⟩ := hs.again hslots hlen (hblks hΨ)
   exact ⟨H', e1, hH.add hlt hww e2 e3⟩
  ·obtain ⟨_, _, id, hf, hev⟩ := hs.reads (hst 0 (Nat.zero_le _))
   have hm : ∃ m, m ≤ ops.size ∧ H[id]? = (G m)[id]? := by
    have := hH.get id
    cases hl : vQ (fun j => D j && (Φ j).W id) ops.size with
    | none => rw [hl] at this; exact ⟨0, Nat.zero_le _, this⟩
    | some j => rw [hl] at this; exact ⟨j + 1, qex hl, this⟩
   obtain ⟨m, hm1, hm2⟩ := hm
   have e1 := hev (hst m hm1) hslots hm2 (by rw [hH.len, (h.pre m hm1).2.len])
   exact ⟨H, e1, hH.add hlt hww rfl (fun id => by rw [hf]; simp [FP.W, qT])⟩
 ·obtain ⟨e0, _, e2, _⟩ := hs.no hb
  exact ⟨e0, hH.add hlt hww rfl (fun id => by rw [e2]; simp [FP.W, FP.none, qT])⟩
end
theorem xm.add {ops : Array Oper} (hb : vF 0 ops.toList = true) {D : Nat → Bool} (h : xm (ancs [] ops.toList) D) {i : Nat} {o : Oper} (ho : ops[i]? = some o) (hr : ∀ m, binds o m → D m = true) :
  (∀ m, ((ancs [] ops.toList).getD i 0).testBit m = true → D m = true) ∧ xm (ancs [] ops.toList) (addD D i) := by
 have hanc : ∀ m, ((ancs [] ops.toList).getD i 0).testBit m = true → D m = true := by
  intro m hm
  obtain ⟨k, h1, _, h3⟩ := qhO hb ho hm
  rcases h3 with h3 | h3
  ·subst h3; exact hr k h1
  ·exact h k (hr k h1) m h3
 refine ⟨hanc, fun j hj m hm => ?_⟩
 by_cases e : j = i
 ·subst e
  have := hanc m hm
  unfold addD; rw [this]; rfl
 ·rw [yT e] at hj
  have := h j hj m hm
  unfold addD; rw [this]; rfl
variable {C C' C1 C2 : qa} {μ μ' μ1 : MMap} {H H' H1 H2 : AH} {w w' w1 : World} {P : Program}
theorem qdF {p q : Nat → Bool} (h : ∀ j, q j = true → p j = true) {i : Nat} (hp : p i = true) (hq : q i = false) : ∀ {l : List Nat}, i ∈ l → l.countP q < l.countP p
 | [], hi => by cases hi
 | x :: l, hi => by
  have hle : l.countP q ≤ l.countP p := List.countP_mono_left fun j _ hj => h j hj
  rw [List.countP_cons, List.countP_cons]
  by_cases e : i = x
  ·subst e
   rw [hp, hq]; simp; omega
  ·have := qdF h hp hq ((qi4.1 hi).resolve_left e)
   cases hqx : q x with
   | true => rw [h x hqx]; simp; omega
   | false =>
    cases p x <;> simp <;> omega
theorem qeC (listed : Array Bool) {i : Nat} (hi : i < listed.size) : (fun j => (listed.setIfInBounds i true).getD j false) = addD (fun j => listed.getD j false) i := by
 funext j
 rw [Array.getD_eq_getD_getElem?, Array.getElem?_setIfInBounds]
 by_cases e : i = j
 ·subst e
  rw [if_pos rfl, if_pos hi, zv]; rfl
 ·rw [if_neg e, yT (fun h => e h.symm), Array.getD_eq_getD_getElem?]
theorem yQ {listed : Array Bool} {j : Nat} (hj : j < listed.size) : listed.getD j true = listed.getD j false := by
 rw [Array.getD_eq_getD_getElem?, Array.getD_eq_getD_getElem?, Array.getElem?_eq_getElem hj]; rfl
def unl (N : Nat) (listed : Array Bool) : Nat := (List.range N).countP fun j => !listed.getD j true
theorem qgY {ops : Array Oper} (hb : vF 0 ops.toList = true) {listed : Array Bool} (hs : listed.size = ops.size) (hr : Region.ready .any ops listed = []) : ∀ j, j < ops.size → listed.getD j false = true := by
 intro j
 induction j using Nat.strongRecOn with
 | _ j ih =>
  intro hj
  rw [← Bool.not_eq_false]
  intro hf
  have hmem : j ∈ Region.ready .any ops listed := by
   refine mem_ready.2 ⟨by rw [yQ (by omega)]; exact hf, ops[j], Array.getElem?_eq_getElem hj, fun e he hbe => ?_⟩
   have hlt : e.on < j := by
    have hback : ∀ (l : List Oper) (k j : Nat) (o : Oper), vF k l = true → l[j]? = some o → ∀ e ∈ o.after.toList, Region.binds .any e = true → e.on < k + j := by
     intro l
     induction l with
     | nil => intro k j o _ h; simp at h
     | cons o' l ih =>
      intro k j o hb hj e he hbe
      rw [vF, qiP] at hb
      cases j with
      | zero =>
       simp at hj; subst hj
       have := List.all_eq_true.1 hb.1 e he
       rw [hbe] at this
       simpa [qi3] using this
      | succ j =>
       have := ih (k + 1) j o hb.2 (by simpa using hj) e he hbe
       omega
    have := hback ops.toList 0 j ops[j] hb (by rw [Array.getElem?_toList]; exact Array.getElem?_eq_getElem hj) e (Array.mem_toList_iff.2 he) hbe
    omega
   exact ih e.on hlt (by omega)
  rw [hr] at hmem
  cases hmem
theorem qhL [Lent] {cfg : Cfg} (hc : CfgTy cfg) {cf : Orac} (hO : xD cfg cf) {Fn : Fence} (hF : vU Fn) {ops : Array Oper} {frz : Nat → Bool} {F : Nat → List AV} {G : Nat → AH} {V : Nat → AV} {B : Nat → Bool} {A : Nat → Nat} {Φ Ψ : Nat → FP} {R : Nat → AH → Bool}
  (hd : DrawOk cfg cf ops frz F G V B A Φ Ψ R) {Q : Exit → Act → World → Prop} {C0 : qa} {μ0 : MMap} {H0 : AH} {w0 : World} {k : Nat} {ds : List Deferred}
  (hq : ∀ C μ w a, qc C μ (F ops.size) a.tmps → Wld C μ (G ops.size) w → Ext k C0 μ0 H0 w0 C μ (G ops.size) w → a.defers = ds → Q .normal a w) :
  ∀ (fuel : Nat) (listed : Array Bool) {fr : List AV} {H : AH} {C : qa} {μ : MMap} {w : World} {a : Act}, listed.size = ops.size → unl ops.size listed ≤ fuel → FrIs ops V (F 0) (fun j => listed.getD j false) fr →
   HIs Φ G ops.size (fun j => listed.getD j false) H → xm (ancs [] ops.toList) (fun j => listed.getD j false) → qc C μ fr a.tmps → Wld C μ H w → Ext k C0 μ0 H0 w0 C μ H w → a.defers = ds →
   wpAnyIn Fn 0 cfg.P .any ops Q fuel listed a w := by
 have done : ∀ {listed : Array Bool} {fr : List AV} {H : AH} {C : qa} {μ : MMap} {w : World} {a : Act}, (∀ j, j < ops.size → listed.getD j false = true) → FrIs ops V (F 0) (fun j => listed.getD j false) fr →
   HIs Φ G ops.size (fun j => listed.getD j false) H → qc C μ fr a.tmps → Wld C μ H w → Ext k C0 μ0 H0 w0 C μ H w → a.defers = ds → Q .normal a w := by
  intro listed fr H C μ w a hall hfi hhi hfr hw hx hds
  obtain ⟨p1, p2⟩ := hd.pre ops.size (qiR _)
  have e1 : fr = F ops.size := List.ext_getElem? fun t => hfi.congr p1 fun j hj => by
   obtain ⟨o, ho, _⟩ := yI hj
   have hlt := (Array.getElem?_eq_some_iff.1 ho).1
   rw [hall j hlt]
   simp [preD, qi3, hlt]
  have e2 : H = G ops.size := List.ext_getElem? fun id => hhi.congr p2 fun j hj _ => by
   rw [hall j hj]
   simp [preD, qi3, hj]
  subst e1; subst e2
  exact hq C μ w a hfr hw hx hds
 have step : ∀ (i : Nat) (K : Act → World → Prop) {listed : Array Bool} {fr : List AV} {H : AH} {C : qa} {μ : MMap} {w : World} {a : Act}, i ∈ Region.ready .any ops listed → listed.size = ops.size → FrIs ops V (F 0) (fun j => listed.getD j false) fr →
   HIs Φ G ops.size (fun j => listed.getD j false) H → xm (ancs [] ops.toList) (fun j => listed.getD j false) → qc C μ fr a.tmps → Wld C μ H w → Ext k C0 μ0 H0 w0 C μ H w → a.defers = ds →
   (∀ {fr : List AV} {H : AH} {C : qa} {μ : MMap} {w : World} {a : Act}, FrIs ops V (F 0) (fun j => (listed.setIfInBounds i true).getD j false) fr →
    HIs Φ G ops.size (fun j => (listed.setIfInBounds i true).getD j false) H → xm (ancs [] ops.toList) (fun j => (listed.setIfInBounds i true).getD j false) → qc C μ fr a.tmps → Wld C μ H w → Ext k C0 μ0 H0 w0 C μ H w → a.defers = ds → K a w) →
   wpOpIn Fn 0 cfg.P ops Q i K a w := by
  intro i K listed fr H C μ w a hr hs hfi hhi hac hfr hw hx hds hK
  obtain ⟨hun, o, ho, hed⟩ := mem_ready.1 hr
  have hlt : i < ops.size := (Array.getElem?_eq_some_iff.1 ho).1
  have hDi : listed.getD i false = false := by rw [← yQ (by omega)]; exact hun
  obtain ⟨hanc, hac'⟩ := hac.add hd.back ho (fun m ⟨e, he, hbe, hm⟩ => by subst hm; exact hed e (Array.mem_toList_iff.1 he) hbe)
  obtain ⟨r1, r2, r3, r4⟩ := hd.ready hfi hhi hac ho hDi hanc (fun j hj => by
   rcases Nat.lt_or_ge j ops.size with h | h
   ·exact h
   ·rw [Array.getD_eq_getD_getElem?, Array.getElem?_eq_none (by omega)] at hj; simp at hj)
  have hwan := yX hfr r1
  rw [← qeC listed (by omega)] at hac' r4 r2 r3
  unfold wpOpIn
  simp only [ho]
  cases hb : B i with
  | true =>
   rw [hb] at hwan
   rw [if_pos hwan]
   obtain ⟨H', e1, e2⟩ := r2 hb
   refine qaS hF ((zi hc hO (yf hfr) hw e1).mono fun v w1 ⟨C1, μ1, g1, g2, g3⟩ => ?_)
   have hf1 : qc C1 μ1 fr a.tmps := hfr.monoG g3.cl (fun id m hm => g3.mu id m (hw.dom id m hm) hm)
   exact hK r4 e2 hac' (yc hf1 g1) g2 (hx.trans g3 hx.len) (by rw [xo]; exact hds)
  | false =>
   rw [hb] at hwan
   rw [if_neg (by rw [hwan]; simp)]
   obtain ⟨e0, e2⟩ := r3 hb
   rw [e0] at r4
   exact ⟨fun f _ => hF.fn f, hK r4 e2 hac' (yc hfr qaM) hw hx (by rw [xo]; exact hds)⟩
 intro fuel
 induction fuel with
 | zero =>
  intro listed fr H C μ w a hs hu hfi hhi hac hfr hw hx hds
  have hall : ∀ j, j < ops.size → listed.getD j false = true := by
   intro j hj
   have h0 : unl ops.size listed = 0 := by omega
   unfold unl at h0
   rw [List.countP_eq_zero] at h0
   have := h0 j (List.mem_range.2 hj)
   rw [yQ (by omega)] at this
   simpa using this
  refine ⟨?_, done hall hfi hhi hfr hw hx hds⟩
  cases hr : Region.ready .any ops listed with
  | nil => rfl
  | cons i l =>
   have hi : i ∈ Region.ready .any ops listed := by rw [hr]; exact List.mem_cons_self ..
   obtain ⟨hun, o, ho, _⟩ := mem_ready.1 hi
   have hlt : i < ops.size := (Array.getElem?_eq_some_iff.1 ho).1
   have := hall i hlt
   rw [← yQ (by omega), hun] at this
   cases this
 | succ fuel ih =>
  intro listed fr H C μ w a hs hu hfi hhi hac hfr hw hx hds
  refine ⟨fun hr => done (qgY hd.back hs hr) hfi hhi hfr hw hx hds, fun i hi => step i _ hi hs hfi hhi hac hfr hw hx hds ?_⟩
  intro fr' H' C' μ' w' a' f1 f2 f3 f4 f5 f6 f7
  refine ih (listed.setIfInBounds i true) (by simpa using hs) ?_ f1 f2 f3 f4 f5 f6 f7
  obtain ⟨hun, o, ho, _⟩ := mem_ready.1 hi
  have hlt : i < ops.size := (Array.getElem?_eq_some_iff.1 ho).1
  have : unl ops.size (listed.setIfInBounds i true) < unl ops.size listed := by
   unfold unl
   refine qdF (fun j hj => ?_) (i := i) (by rw [hun]; rfl) ?_ (List.mem_range.2 hlt)
   ·rw [Array.getD_eq_getD_getElem?, Array.getElem?_setIfInBounds] at hj
    by_cases e : i = j
    ·subst e; rw [if_pos rfl, if_pos (by omega)] at hj; simp at hj
    ·rw [if_neg e] at hj; rw [Array.getD_eq_getD_getElem?]; exact hj
   ·rw [Array.getD_eq_getD_getElem?, Array.getElem?_setIfInBounds, if_pos rfl, if_pos (by omega)]; rfl
  omega
theorem qgx [Lent] {cfg : Cfg} (hc : CfgTy cfg) {cf : Orac} (hO : xD cfg cf) (hm : cfg.P.follows .mixedOrders = true) {Fn : Fence} (hF : vU Fn) {f rid : Nat} {ops : Array Oper} {fr : List AV} {fps : List DR} {fr' : List AV} {a : Act}
  (hst : xK ops = true) (he : q4 cfg cf f rid ops 0 H.length ops.toList fr (H ++ qi0 (places cfg ops.toList) .res) = some (fps, fr', H')) (hdy : z6 (ancs [] ops.toList) (H ++ qi0 (places cfg ops.toList) .res) fps = true)
  (hf : qc C μ fr a.tmps) (hw : Wld C μ H w) {Q : Exit → Act → World → Prop}
  (hq : ∀ C' μ' w' a', qc C' μ' fr' a'.tmps → Wld C' μ' H' w' → Ext H.length C μ H w C' μ' H' w' → a'.defers = a.defers → Q .normal a' w') : (Code.region rid ops true).wpIn Fn 0 cfg.P Q a w := by
 obtain ⟨F, G, V, B, A, Φ, R, e1, e2, e3, e4, e5, e6⟩ := qcL ops.toList 0 H.length he
 simp only [Nat.zero_add, Array.length_toList] at e3 e4 e5 e6
 unfold xK at hst
 rw [qiP, qiP] at hst
 replace hst := hst.2
 have hdd : ∃ Ψ : Nat → FP, (∀ i j, j < ops.size → i < j → ((ancs [] ops.toList).getD j 0).testBit i = true ∨ (Ψ i).indep (Ψ j) = true) ∧ ∀ i, i < ops.size → Ψ i = Φ i ∨ ∀ m, m ≤ ops.size → R i (G m) = true := by
  unfold z6 at hdy
  rw [Bool.or_eq_true] at hdy
  rcases hdy with hdy | hdy
  ·refine ⟨Φ, fun i j hj hlt => ?_, fun i _ => .inl rfl⟩
   have := qav _ 0 hdy i j _ _ (by rw [List.getElem?_map, e5 i (by omega)]; rfl) (by rw [List.getElem?_map, e5 j hj]; rfl) hlt
   simpa using this
  ·refine ⟨fun i => stab (H ++ qi0 (places cfg ops.toList) .res) fps ⟨Φ i, G (i + 1), R i⟩, fun i j hj hlt => ?_, fun i hi => ?_⟩
   ·have := qav _ 0 hdy i j _ _ (by rw [List.getElem?_map, e5 i (by omega)]; rfl) (by rw [List.getElem?_map, e5 j hj]; rfl) hlt
    simpa using this
   ·show (if (R i (H ++ qi0 (places cfg ops.toList) .res) && qcX (R i) fps) = true then FP.none else Φ i) = Φ i ∨ _
    split
    ·rename_i hc
     rw [qiP] at hc
     refine .inr fun m hm => ?_
     have hall : ∀ (l : List DR), qcX (R i) l = true → ∀ (k : Nat) d, l[k]? = some d → R i d.hp = true := by
      intro l
      induction l with
      | nil => intro _ k d hk; simp at hk
      | cons d l ih =>
       intro hl k d' hk
       rw [qcX, qiP] at hl
       cases k with
       | zero => simp at hk; subst hk; exact hl.1
       | succ k => exact ih hl.2 k d' (by simpa using hk)
     cases m with
     | zero => rw [e2]; exact hc.1
     | succ m => exact hall fps hc.2 m _ (e5 m (by omega))
    ·exact .inl rfl
 obtain ⟨Ψ, hdyn, hstb⟩ := hdd
 have hd : DrawOk cfg cf ops (fun k => cfg.frz f rid k) F G V B A Φ Ψ R := by
  refine ⟨hst.1, fun i j a b hi hj hlt => ?_, hdyn, hstb, fun i o ho => e6 i o (by rw [Array.getElem?_toList]; exact ho)⟩
  ·have := qbt ops.toList 0 hst.2 i j a b (by rw [Array.getElem?_toList]; exact hi) (by rw [Array.getElem?_toList]; exact hj) hlt
   simpa using this
 refine wpIn_region_any hm ?_
 have hlist : (fun j => (Array.replicate ops.size false).getD j false) = preD 0 := by
  funext j
  rw [Array.getD_eq_getD_getElem?]
  have hp : preD 0 j = false := by rw [← Bool.not_eq_true]; simp [preD, qi3]
  rw [hp]
  rcases Nat.lt_or_ge j ops.size with h | h
  ·simp [h]
  ·simp [h]
 obtain ⟨p1, p2⟩ := hd.pre 0 (Nat.zero_le _)
 have hx0 : Ext H.length C μ H w C μ (H ++ qi0 (places cfg ops.toList) .res) { w with drawn := w.drawn + 1 } :=
  ⟨rfl, rfl, rfl, qiR _, fun _ _ _ h => h, fun _ _ _ h => ⟨_, h, .refl _⟩, fun b _ hnl => ⟨rfl, fun hl => hnl hl.places, rfl⟩, by simp⟩
 refine qhL hc hO hF hd (C0 := C) (μ0 := μ) (H0 := H) (w0 := w) (k := H.length) (ds := a.defers) (fun C' μ' w' a' g1 g2 g3 g4 => ?_) ops.size (Array.replicate ops.size false) (fr := F 0) (H := G 0) (by simp) ?_ (by rw [hlist]; exact p1) (by rw [hlist]; exact p2) (by rw [hlist]; intro j hj; simp [preD] at hj)
  (by rw [e1]; exact hf) (by rw [e2]; exact (hw.places _).heap rfl) (by rw [e2]; exact hx0) rfl
 ·rw [e3] at g1
  rw [e4] at g2 g3
  exact hq C' μ' w' a' g1 g2 g3 g4
 ·unfold unl
  have := List.countP_le_length (p := fun j => !(Array.replicate ops.size false).getD j true) (l := List.range ops.size)
  simpa using this
end Go.Av
end
