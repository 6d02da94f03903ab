/-
  Parts of the proof of CodeJoinsUptoSaid, put together: the abstract evaluation and its contracts. Own work.
  What is proved: each lemma as it stands; no condition.
-/
import Derived.Test.YtkohdkldmpiiiaaGreatZCodeJoinsM1
open Bool renaming and_eq_true → que, false_eq_true → quo, and_self → quy
open Option renaming bind_eq_some_iff → quf, map_eq_some_iff → quk, bind_some → quq, map_some → quz
open List renaming length → qug, getElem?_eq_some_iff → quh, getElem?_eq_getElem → quj, get?Internal → qul, getElem?_append_left → qup, getElem?_set → qur, length_append → qus, getElem?_append_right → qut, take_of_length_le → quu, mem_of_getElem? → quv, take → qux, mem_append → quA, replicate → quB, append → quD, getElem?_cons_succ → quF, mem_cons → quH, length_map → quI, range → quK, length_cons → quM, drop → quN
open Nat renaming eq_of_beq_eq_true → qui, le_refl → qum, beq → qun, ble → quw, mul_le_mul_right → quC, ble_eq → quJ, blt_eq → quL
open Int renaming toNat_natCast → quE, toNat → quG
set_option maxRecDepth 1000000
set_option maxHeartbeats 0
section
namespace Go.Av
variable {C C' : qd} {μ μ' : MMap} {H H' : AH} {w w' : World} {P : Program}
theorem ql2 (off : Nat) : ∀ (l : List Value) (k : Nat) (arr : Array Value), off + k + l.length ≤ arr.size →
  ((l.zipIdx k).foldl (fun cs (p : Value × Nat) => cs.setIfInBounds (off + p.2) p.1) arr).toList = arr.toList.take (off + k) ++ l ++ arr.toList.drop (off + k + l.length)
 | [], k, arr, _ => by simp
 | v :: rest, k, arr, h => by
  simp only [List.zipIdx_cons, List.foldl_cons]
  have ih := ql2 off rest (k + 1) (arr.setIfInBounds (off + k) v) (by simp at h ⊢; omega)
  rw [show off + (k + 1) = off + k + 1 by omega] at ih
  rw [ih, Array.toList_setIfInBounds]
  have := list_seg_step arr.toList (off + k) v rest (by simp at h ⊢; omega)
  simpa [Nat.add_assoc] using this
theorem qin (off : Nat) (v : Value) (vs : List Value) (hv : v.cells = vs.toArray) (arr : Array Value) (h : off + vs.length ≤ arr.size) :
  (v.cells.zipIdx.foldl (fun cs (c, j) => cs.setIfInBounds (off + j) c) arr).toList = arr.toList.take off ++ vs ++ arr.toList.drop (off + vs.length) := by
 rw [hv, ← Array.foldl_toList]
 have := ql2 off vs 0 arr (by simpa using h)
 simpa using this
def xZ [Lent] (C : qd) (μ : MMap) (cs : List AV) (vs : List Value) : Prop := cs.length = vs.length ∧ ∀ (i : Nat) x v, cs[i]? = some x → vs[i]? = some v → x.isCell = true ∧ Rep C μ x v
theorem Rep.fg1 [Lent] {a : AV} {v : Value} (h : Rep C μ a v) : Rep C μ a.fg1 v := by
 cases h with
 | nilS => exact .slNil
 | int k n => exact .int k n
 | bool b => exact .bool b
 | str s => exact .str s
 | agg cs vs hl ih => exact .agg cs vs hl ih
 | tup cs vs hl ih => exact .tup cs vs hl ih
 | slNil => exact .slNil
 | em a cap => exact .sl [] a cap 0 (fun _ _ => undef) (fun h => absurd rfl h) (fun i row h => by simp at h) (fun i j row x h => by simp at h) (fun i j row x h => by simp at h) (fun i j row x h => by simp at h) (Nat.zero_le _) rfl
 | sl rows a cap sz vals h1 h2 h3 h4 h5 h6 h7 => exact .sl rows a cap sz vals h1 h2 h3 h4 h5 h6 h7
 | ms id off len cap a m h1 h2 h3 => exact .ms id off len cap a m h1 h2 h3
 | msN id off => exact .msN id off
 | nilP => exact .nilP
 | ptr id row off m hm => exact .ptr id row off m hm
 | cptr cells off b o vals h1 h2 => exact .cptr cells off b o vals h1 h2
 | fn f first caps vf vc h1 h2 h3 h4 => exact .fn f first caps vf vc h1 h2 h3 h4
 | yld id m hm => exact .yld id m hm
 | nilF => exact .nilF
 | nilM => exact .nilM
 | mp id m hm => exact .mp id m hm
 | nilI => exact .nilI
 | ifc t a v h => exact .ifc t a v h
 | lsl rows v h => exact .lsl rows v h
 | lpt cells off b o vals h1 h2 => exact .lpt cells off b o vals h1 h2
 | rsl id rows v D h1 h2 => exact .rsl id rows v D h1 h2
 | rpt id cells off b o vals m h1 h2 h3 => exact .rpt id cells off b o vals m h1 h2 h3
 | alt l i a v h1 h2 => exact .alt l i a v h1 h2
 | wr n a ad c hn h1 =>
  cases a with
  | sl rows => exact h1.takeW hn
  | _ => exact .wr n _ ad c hn h1
 | junk v => exact .junk v
theorem qoU {a : AV} (h : a.isCell = true) : a.fg1.isCell = true := by
 cases a <;> simp_all [AV.fg1, AV.isCell]
theorem xZ.fgs [Lent] {cs : List AV} {vs : List Value} (h : xZ C μ cs vs) (cfg : Cfg) (t : TypeId) : xZ C μ (cfg.fgs t cs) vs := by
 unfold Cfg.fgs
 split
 ·refine ⟨by simpa using h.1, fun i x v hx hv => ?_⟩
  obtain ⟨y, hy, rfl⟩ := qi hx
  exact ⟨qoU (h.2 i y v hy hv).1, (h.2 i y v hy hv).2.fg1⟩
 ·exact h
theorem xZ.fga [Lent] {cs : List AV} {vs : List Value} (h : xZ C μ cs vs) (cfg : Cfg) (t : TypeId) : xZ C μ (cfg.fga t cs) vs := by
 unfold Cfg.fga
 split
 ·exact h
 ·exact h.fgs cfg t
theorem qo0 (cfg : Cfg) (t : TypeId) (cs : List AV) : (cfg.fga t cs).length = cs.length := by
 unfold Cfg.fga Cfg.fgs; split
 ·rfl
 ·split <;> simp
theorem qof {α β : Type} {R : α → β → Prop} {a a' : List α} {b b' : List β} {off : Nat} (hl : a.length = b.length) (h : ∀ (i : Nat) x y, a[i]? = some x → b[i]? = some y → R x y) (hl' : a'.length = b'.length)
  (h' : ∀ (i : Nat) x y, a'[i]? = some x → b'[i]? = some y → R x y) (hf : off + a'.length ≤ a.length) :
  (a.take off ++ a' ++ a.drop (off + a'.length)).length = (b.take off ++ b' ++ b.drop (off + b'.length)).length ∧
   ∀ (i : Nat) x y, (a.take off ++ a' ++ a.drop (off + a'.length))[i]? = some x → (b.take off ++ b' ++ b.drop (off + b'.length))[i]? = some y → R x y := by
 refine ⟨by simp; omega, fun i x y hx hy => ?_⟩
 by_cases h1 : i < off
 ·rw [qup (by simp; omega), qup (by simp; omega), List.getElem?_take, if_pos h1] at hx hy
  exact h i x y hx hy
 ·by_cases h2 : i < off + a'.length
  ·rw [qup (by simp; omega), qut (by simp; omega)] at hx hy
   simp only [List.length_take] at hx hy
   rw [show i - min off a.length = i - off by omega] at hx
   rw [show i - min off b.length = i - off by omega] at hy
   exact h' _ x y hx hy
  ·rw [qut (by simp; omega)] at hx hy
   simp only [qus, List.length_take] at hx hy
   rw [List.getElem?_drop, show off + a'.length + (i - (min off a.length + a'.length)) = i by omega] at hx
   rw [List.getElem?_drop, show off + b'.length + (i - (min off b.length + b'.length)) = i by omega] at hy
   exact h i x y hx hy
theorem qdj [Lent] {place : Nat → Option (Nat × Nat)} : ∀ {parts : List (Nat × AV)} {vparts : List (Nat × Value)} {cells cells' : List AV} {vs : List Value}, qbk place cells parts = some cells' → xZ C μ cells vs →
  parts.length = vparts.length → (∀ (i : Nat) p q, parts[i]? = some p → vparts[i]? = some q → p.1 = q.1 ∧ Rep C μ p.2 q.2) → ∃ vs' : Array Value, Instr.fill place vs.toArray vparts = some vs' ∧ xZ C μ cells' vs'.toList
 | [], vparts, cells, cells', vs, h, hc, hl, hp => by
  have : vparts = [] := List.eq_nil_of_length_eq_zero (by simpa using hl.symm)
  subst this
  simp [qbk] at h
  subst h
  exact ⟨vs.toArray, rfl, by simpa using hc⟩
 | (i, x) :: rest, vparts, cells, cells', vs, h, hc, hl, hp => by
  cases vparts with
  | nil => simp at hl
  | cons q vrest =>
   obtain ⟨hq1, hq2⟩ := hp 0 (i, x) q rfl rfl
   obtain ⟨j, v⟩ := q
   simp only at hq1 hq2
   subst hq1
   rw [qbk] at h
   split at h
   ·rename_i off size cs hpl hcs
    split at h
    ·rename_i hcond
     simp only [que, beq_iff_eq, quJ] at hcond
     obtain ⟨ws, e1, e2, e3, e4⟩ := hq2.cells hcs
     have hfit : off + ws.length ≤ vs.toArray.size := by have := hc.1; simp; omega
     have hfold := qin off v ws e1 vs.toArray hfit
     obtain ⟨s1, s2⟩ := qof (R := fun x y => x.isCell = true ∧ Rep C μ x y) (off := off) hc.1 hc.2 e2 e4 (by omega)
     have hcr : xZ C μ (cells.take off ++ cs ++ cells.drop (off + size)) (vs.take off ++ ws ++ vs.drop (off + ws.length)) := by
      rw [← hcond.1]; exact ⟨s1, s2⟩
     obtain ⟨vs', g1, g2⟩ := qdj h hcr (by simpa using hl) (fun k p q hk hk' => hp (k + 1) p q (by simpa using hk) (by simpa using hk'))
     refine ⟨vs', ?_, g2⟩
     rw [Instr.fill, hpl]
     simp only
     have hsz : v.cells.size = size := by rw [e1]; simp; omega
     have hsz2 : ¬ (v.cells.size ≠ size || decide (off + v.cells.size > vs.toArray.size)) = true := by
      rw [hsz]; simp; have := hc.1; omega
     rw [if_neg (by simpa using hsz2)]
     have : v.cells.zipIdx.foldl (fun cs (c, j) => cs.setIfInBounds (off + j) c) vs.toArray = (vs.take off ++ ws ++ vs.drop (off + ws.length)).toArray := by
      apply Array.ext'
      rw [hfold]
     rw [this]; exact g1
    ·cases h
   ·cases h
theorem qjM [Lent] {x : Operand → AV} {ρ : Operand → Value} (hx : ∀ a, Rep C μ (x a) (ρ a)) (parts : Array (Nat × Operand)) :
  (parts.toList.map fun p => (p.1, x p.2)).length = (parts.map fun (i, x) => (i, ρ x)).toList.length ∧
   ∀ (i : Nat) p q, (parts.toList.map fun p => (p.1, x p.2))[i]? = some p → (parts.map fun (i, x) => (i, ρ x)).toList[i]? = some q → p.1 = q.1 ∧ Rep C μ p.2 q.2 := by
 refine ⟨by simp, fun i p q hp hq => ?_⟩
 obtain ⟨o, ho, rfl⟩ := qi hp
 rw [Array.toList_map] at hq
 obtain ⟨o', ho', rfl⟩ := qi hq
 rw [ho] at ho'; cases ho'
 exact ⟨rfl, hx _⟩
theorem qbD [Lent] {ti : TI} {z : Value} (hz : ti.zero = z.cells.toList.map vW) (ha : vX ti.zero = true) : xZ C μ ti.zero z.cells.toList := by
 rw [qfr] at ha
 refine ⟨by rw [hz]; simp, fun i x v hx hv => ⟨ha i x hx, ?_⟩⟩
 rw [hz] at hx
 obtain ⟨y, hy, rfl⟩ := qi hx
 rw [hv] at hy; cases hy
 exact qaG _
theorem qhI {cfg : Cfg} (hc : CfgTy cfg) : ∀ (fs : List Field) {ps : List (Nat × Nat)}, zH cfg (fs.map fun f => (f.offset, f.type)) = some ps →
  (fs.mapM (fun f => do pure (f.offset, ← sizeOf f.type) : Field → Sem (Nat × Nat))).run cfg.P w = .ok ps w
 | [], ps, h => by simp [zH] at h; subst h; simp
 | f :: fs, ps, h => by
  simp only [List.map_cons, zH] at h
  split at h
  ·rename_i n ps' hn hps
   cases h
   obtain ⟨ti, hti, rfl⟩ := hc.sz hn
   have ih := qhI hc fs hps
   simp only [List.mapM_cons, Sem.run_bind, qL hti, Result.andThen_ok, Sem.run_pure, ih]
  ·cases h
theorem qnx [Lent] {cfg : Cfg} (hc : CfgTy cfg) {t : TypeId} {parts : Array (Nat × Operand)} {x : Operand → AV} {ρ : Operand → Value} (hx : ∀ a, Rep C μ (x a) (ρ a)) {nid : Option Nat} {ty : TypeId} {r : AV}
  (he : evOp cfg nid (.build t parts) ty x H = some (r, H')) : H' = H ∧ ∃ v, (Instr.build t (parts.map fun (i, x) => (i, ρ x))).run cfg.P w = .ok v w ∧ Rep C μ r v := by
 simp only [evOp] at he
 split at he
 ·rename_i ti hti
  split at he
  ·rename_i hall
   have ht := hc.ty _ _ hti
   obtain ⟨i, u, z, e1, e2, e3, e4⟩ := zD ht
   obtain ⟨z', hz1, hz2⟩ := qah ht w
   have hzc := qbD (C := C) (μ := μ) hz2 hall
   obtain ⟨p1, p2⟩ := qjM hx parts
   split at he
   ·rename_i fs hfs
    split at he
    ·rename_i ps hps
     obtain ⟨cs, hcs, hcs2⟩ := quk.1 he
     cases hcs2
     have hd : tdOf u = .struct fs := by rw [e4] at hfs; exact hfs
     obtain ⟨flds, rfl, rfl⟩ := qeF hd
     obtain ⟨vs', g1, g2⟩ := qdj hcs hzc p1 p2
     refine ⟨rfl, .agg vs', ?_, ?_⟩
     ·have hpl := qhI (w := w) hc flds.toList hps
      have hpl' : (flds.mapM (fun f => do pure (f.offset, ← sizeOf f.type) : Field → Sem (Nat × Nat))).run cfg.P w = .ok ps.toArray w := by
       rw [Array.mapM_eq_mapM_toList]
       simp only [Sem.run_map, hpl, Result.andThen_ok]
      simp only [Instr.build, Sem.run_bind, hz1, Result.andThen_ok, run_underlying e2, hpl']
      have : (fun (x : Nat) => ps.toArray[x]?) = fun (i : Nat) => ps[i]? := by funext k; simp
      rw [this, show z'.cells = z'.cells.toList.toArray by simp, g1]
      simp
     ·have g3 := g2.fga cfg t
      have := Rep.agg (C := C) (μ := μ) (cfg.fga t cs) vs'.toList g3.1 (fun i a v h1 h2 => (g3.2 i a v h1 h2).2)
      simpa using this
    ·cases he
   ·rename_i n e hfs
    split at he
    ·rename_i sz hsz
     obtain ⟨cs, hcs, hcs2⟩ := quk.1 he
     cases hcs2
     have hd : tdOf u = .array n e := by rw [e4] at hfs; exact hfs
     have := qb8 hd; subst this
     obtain ⟨te, hte, rfl⟩ := hc.sz hsz
     obtain ⟨vs', g1, g2⟩ := qdj hcs hzc p1 p2
     refine ⟨rfl, .agg vs', ?_, ?_⟩
     ·simp only [Instr.build, Sem.run_bind, hz1, Result.andThen_ok, run_underlying e2, qL hte]
      rw [show z'.cells = z'.cells.toList.toArray by simp, g1]
      simp
     ·have := Rep.agg (C := C) (μ := μ) cs vs'.toList g2.1 (fun i a v h1 h2 => (g2.2 i a v h1 h2).2)
      simpa using this
    ·cases he
   ·cases he
  ·cases he
 ·cases he
theorem qT.get [Lent] {n : Nat} {rows : List (List AV)} {vs : List Value} (h : qT C μ n rows vs) (i : Nat) (row : List AV) (hi : rows[i]? = some row) : row.length = n ∧ ∀ (j : Nat) x, row[j]? = some x → x.isCell = true ∧ ∃ v, vs[i * n + j]? = some v ∧ Rep C μ x v := h.2 i row hi
theorem qT.one_row [Lent] {n : Nat} {cs : List AV} {vs : List Value} (hn : cs.length = n) (h : xZ C μ cs vs) : qT C μ n [cs] vs := by
 refine ⟨by rw [← h.1, hn]; simp, fun i row hi => ?_⟩
 cases i with
 | zero =>
  simp at hi; subst hi
  refine ⟨hn, fun j x hj => ?_⟩
  have hjl : j < vs.length := by rw [← h.1]; exact (quh.1 hj).1
  obtain ⟨e1, e2⟩ := h.2 j x _ hj (quj hjl)
  exact ⟨e1, vs[j], by simp [hjl], e2⟩
 | succ i => simp at hi
theorem qT.drop [Lent] {n : Nat} {rows : List (List AV)} {vs : List Value} (h : qT C μ n rows vs) (k : Nat) : qT C μ n (rows.drop k) (vs.drop (k * n)) := by
 refine ⟨by rw [List.length_drop, List.length_drop, h.1, Nat.sub_mul], fun i row hi => ?_⟩
 rw [List.getElem?_drop] at hi
 refine ⟨(h.2 _ row hi).1, fun j x hj => ?_⟩
 obtain ⟨e1, v, e2, e3⟩ := (h.2 _ row hi).2 j x hj
 refine ⟨e1, v, ?_, e3⟩
 rw [List.getElem?_drop, ← e2, Nat.add_mul]
 congr 1; omega
theorem qdE [Lent] {ti : TI} {z : Value} (hz : ti.zero = z.cells.toList.map vW) (hr : yW ti = true) (len : Nat) : qT C μ ti.sz (quB len ti.zero) ((Array.range (len * ti.sz)).map (z.cells[· % z.cells.size]!)).toList := by
 simp only [yW, que, quL] at hr
 obtain ⟨⟨h0, hl⟩, ha⟩ := hr
 have hl := qui hl
 have hzc := qbD (C := C) (μ := μ) hz ha
 have hzs : z.cells.size = ti.sz := by rw [hz] at hl; simpa using hl
 refine ⟨by simp, fun i row hi => ?_⟩
 have hil : i < len := by simpa using (quh.1 hi).1
 rw [List.getElem?_replicate, if_pos hil] at hi
 cases hi
 refine ⟨hl, fun j x hj => ?_⟩
 have hjl : j < ti.sz := by rw [← hl]; exact (quh.1 hj).1
 have hjz : j < z.cells.size := by omega
 obtain ⟨e1, e2⟩ := hzc.2 j x z.cells[j] hj (by simp [hjz])
 refine ⟨e1, z.cells[j], ?_, e2⟩
 have hlt : i * ti.sz + j < len * ti.sz := by
  have : (i + 1) * ti.sz ≤ len * ti.sz := quC _ hil
  rw [Nat.add_mul] at this; omega
 have hmod : (i * ti.sz + j) % z.cells.size = j := by rw [hzs, Nat.mul_comm, Nat.mul_add_mod, Nat.mod_eq_of_lt hjl]
 simp [hlt, hmod, hjz]
theorem qgA [Lent] {n : Nat} : ∀ {parts : List (Nat × AV)} {vparts : List (Nat × Value)} {rows rows' : List (List AV)} {vs : List Value}, qaY n rows parts = some rows' → qT C μ n rows vs →
  parts.length = vparts.length → (∀ (i : Nat) p q, parts[i]? = some p → vparts[i]? = some q → p.1 = q.1 ∧ Rep C μ p.2 q.2) → ∃ vs' : Array Value, Instr.fill (fun i => some (i * n, n)) vs.toArray vparts = some vs' ∧ qT C μ n rows' vs'.toList
 | [], vparts, rows, rows', vs, h, hc, hl, hp => by
  have : vparts = [] := List.eq_nil_of_length_eq_zero (by simpa using hl.symm)
  subst this
  simp [qaY] at h
  subst h
  exact ⟨vs.toArray, rfl, by simpa using hc⟩
 | (i, x) :: rest, vparts, rows, rows', vs, h, hc, hl, hp => by
  cases vparts with
  | nil => simp at hl
  | cons q vrest =>
   obtain ⟨hq1, hq2⟩ := hp 0 (i, x) q rfl rfl
   obtain ⟨j, v⟩ := q
   simp only at hq1 hq2
   subst hq1
   rw [qaY] at h
   split at h
   ·rename_i cs hcs
    split at h
    ·rename_i hcond
     simp only [que, beq_iff_eq, quL] at hcond
     obtain ⟨ws, e1, e2, e3, e4⟩ := hq2.cells hcs
     have hmul : i * n + n ≤ rows.length * n := by
      have : (i + 1) * n ≤ rows.length * n := quC _ hcond.2
      rw [Nat.add_mul] at this; omega
     have hfit : i * n + ws.length ≤ vs.toArray.size := by have := hc.1; simp; omega
     have hfold := qin (i * n) v ws e1 vs.toArray hfit
     have hset : rows.set i cs = rows.take i ++ [cs] ++ rows.drop (i + 1) := by
      rw [List.set_eq_take_append_cons_drop, if_pos hcond.2]; simp
     have hfl : qT C μ n (rows.set i cs) (vs.take (i * n) ++ ws ++ vs.drop (i * n + ws.length)) := by
      rw [hset]
      refine ((hc.take i).append (qT.one_row hcond.1 ⟨e2, e4⟩)).append ?_
      have := hc.drop (i + 1)
      rw [Nat.add_mul] at this
      rw [show i * n + ws.length = i * n + 1 * n by omega]
      exact this
     obtain ⟨vs', g1, g2⟩ := qgA h hfl (by simpa using hl) (fun k p q hk hk' => hp (k + 1) p q (by simpa using hk) (by simpa using hk'))
     refine ⟨vs', ?_, g2⟩
     rw [Instr.fill]
     simp only
     have hsz : v.cells.size = n := by rw [e1]; simp; omega
     have hsz2 : ¬ (v.cells.size ≠ n || decide (i * n + v.cells.size > vs.toArray.size)) = true := by
      rw [hsz]; simp; have := hc.1; omega
     rw [if_neg (by simpa using hsz2)]
     have : v.cells.zipIdx.foldl (fun cs (c, j) => cs.setIfInBounds (i * n + j) c) vs.toArray = (vs.take (i * n) ++ ws ++ vs.drop (i * n + ws.length)).toArray := by
      apply Array.ext'
      rw [hfold]
     rw [this]; exact g1
    ·cases h
   ·cases h
variable {C C' : qd} {μ μ' : MMap} {H H' : AH} {w w' : World} {P : Program}
theorem qca {ti : TI} (h : yW ti = true) : 0 < ti.sz ∧ ti.zero.length = ti.sz ∧ vX ti.zero = true := by
 simp only [yW, que, quL] at h
 exact ⟨h.1.1, qui h.1.2, h.2⟩
theorem qjE [Lent] (h : Wld C μ H w) {d : Bool} (d' : Bool) {id off : Nat} {sz : Nat} {rs news : List (List AV)} {vs : List Value} {m : MI} (hid : H[id]? = some (.rows d sz rs)) (hm : μ id = some m) (hf : qT C μ sz news vs) (hfit : off + news.length ≤ rs.length) (hfr : d' = true → d = true ∧ qA 0 news = true) :
  (storeCells ⟨m.block, m.base + off * sz, none⟩ vs).run P w = .ok () (w.setCells m.block (m.base + off * sz) vs) ∧
   Wld C μ (H.set id (.rows d' sz (rs.take off ++ news ++ rs.drop (off + news.length)))) (w.setCells m.block (m.base + off * sz) vs) ∧
   (∀ k, k ≤ H.length → Ext k C μ H w C μ (H.set id (.rows d' sz (rs.take off ++ news ++ rs.drop (off + news.length)))) (w.setCells m.block (m.base + off * sz) vs)) := by
 obtain ⟨hlt, hcl, hsz, hle, hrows, hcells⟩ := h.liveM hid rfl hm
 have hmul : off * sz + news.length * sz ≤ rs.length * sz := by rw [← Nat.add_mul]; exact quC _ hfit
 have hvl := hf.1
 have hc0 : ∀ j, j < vs.length → (w.cell? ⟨m.block, m.base + off * sz + 0 + j, none⟩).isSome = true ∧ w.frozen? ⟨m.block, m.base + off * sz + 0 + j, none⟩ = false := by
  intro j hj
  have := hcells (off * sz + j) (by omega)
  unfold vo at this
  rwa [show m.base + (off * sz + j) = m.base + off * sz + 0 + j by omega] at this
 have hrun := run_storeCells_cells (P := P) m.block (m.base + off * sz) vs 0 w (fun j hj => (hc0 j hj).1) (fun j hj => (hc0 j hj).2) hf.one
 simp only [Nat.add_zero] at hrun hc0
 obtain ⟨s1, s2, s3, s4, s5⟩ := zp m.block vs (m.base + off * sz) w
 have hb : vT C μ (w.setCells m.block (m.base + off * sz) vs) m (.rows d' sz (rs.take off ++ news ++ rs.drop (off + news.length))) := by
  refine ⟨hsz, ?_, fun i row hi => ?_, fun o ho => ?_⟩
  ·have : (rs.take off ++ news ++ rs.drop (off + news.length)).length = rs.length := by simp; omega
   rw [this]; exact hle
  ·by_cases h1 : i < off
   ·rw [qup (by simp; omega), qup (by simp; omega), List.getElem?_take, if_pos h1] at hi
    refine ⟨(hrows i row hi).1, fun j x hj => ?_⟩
    obtain ⟨c1, v, c2, c3⟩ := (hrows i row hi).2 j x hj
    refine ⟨c1, v, ?_, c3⟩
    have hj' : j < sz := by rw [← (hrows i row hi).1]; exact (quh.1 hj).1
    have h2 : (i + 1) * sz ≤ off * sz := quC _ h1
    rw [Nat.add_mul] at h2
    unfold vo at c2 ⊢
    rw [World.cell?_setCells_out]
    ·exact c2
    ·intro _ _; left; simp; omega
   ·by_cases h2 : i < off + news.length
    ·rw [qup (by simp; omega), qut (by simp; omega)] at hi
     simp only [List.length_take] at hi
     rw [show i - min off rs.length = i - off by omega] at hi
     refine ⟨(hf.2 _ row hi).1, fun j x hj => ?_⟩
     obtain ⟨c1, v, c2, c3⟩ := (hf.2 _ row hi).2 j x hj
     refine ⟨c1, v, ?_, c3⟩
     have hjl : (i - off) * sz + j < vs.length := (quh.1 c2).1
     have := World.cell?_setCells_in m.block vs (m.base + off * sz) w (fun j hj => (hc0 j hj).1) _ hjl
     unfold vo
     have h3 : off * sz ≤ i * sz := quC _ (by omega)
     have e1 : some vs[(i - off) * sz + j] = some v := by rw [← quj hjl]; exact c2
     have e2 : m.base + off * sz + ((i - off) * sz + j) = m.base + (i * sz + j) := by rw [Nat.sub_mul]; omega
     rw [e2, e1] at this
     exact this
    ·rw [qut (by simp; omega)] at hi
     simp only [qus, List.length_take] at hi
     rw [List.getElem?_drop, show off + news.length + (i - (min off rs.length + news.length)) = i by omega] at hi
     refine ⟨(hrows i row hi).1, fun j x hj => ?_⟩
     obtain ⟨c1, v, c2, c3⟩ := (hrows i row hi).2 j x hj
     refine ⟨c1, v, ?_, c3⟩
     have h3 : (off + news.length) * sz ≤ i * sz := quC _ (by omega)
     rw [Nat.add_mul] at h3
     unfold vo at c2 ⊢
     rw [World.cell?_setCells_out]
     ·exact c2
     ·intro _ _; right; simp; omega
  ·refine ⟨?_, by rw [World.frozen?_setCells]; exact (hcells o ho).2⟩
   unfold vo
   by_cases hr' : off * sz ≤ o ∧ o < off * sz + vs.length
   ·have := World.cell?_setCells_in m.block vs (m.base + off * sz) w (fun j hj => (hc0 j hj).1) (o - off * sz) (by omega)
    rw [show m.base + off * sz + (o - off * sz) = m.base + o by omega] at this
    rw [this]; rfl
   ·rw [World.cell?_setCells_out]
    ·exact (hcells o ho).1
    ·intro _ _; simp; omega
 exact ⟨hrun, h.setBlk hid rfl rfl hm s1 s2 hb (fun hd => qcV (qcV (ym (h.free.get hid (hfr hd).1)) (hfr hd).2) (zG (h.free.get hid (hfr hd).1))), fun k hk => Ext.setBlk h hid rfl hm s1 s2 s3 s4 s5 hk⟩
theorem qnB [Lent] {cfg : Cfg} (hc : CfgTy cfg) (h : Wld C μ H w) {t xt ty : TypeId} {d s r : AV} {vd vs : Value} (he : qfS cfg t d s H = some (r, H')) (hd : Rep C μ d vd) (hs : Rep C μ s vs) :
  Runs cfg.P (Builtin.copy_ #[t, xt] ty #[vd, vs]) C μ H w r H' := by
 unfold qfS at he
 split at he
 case h_2 => cases he
 rename_i e id off len ht
 split at he
 case h_2 => cases he
 rename_i n d sz rs hn hid
 split at he
 case h_2 => cases he
 rename_i news hsrc
 split at he
 case isFalse => cases he
 rename_i hcn
 simp only [que, quJ, quL] at hcn
 obtain ⟨⟨hsz, hle⟩, h0⟩ := hcn
 have hsz := qui hsz
 subst hsz
 cases he
 obtain ⟨tt, u, _, _, hu, hdd⟩ := hc.td ht
 have := vp hdd; subst this
 obtain ⟨te, hte, rfl⟩ := hc.sz hn
 cases hd with
 | msN _ _ =>
  obtain ⟨nv, hb1, hb2⟩ := qiL (P := cfg.P) h h0 hs hsrc
  obtain ⟨hb3, hb4⟩ := hb2 w rfl
  have hf0 : (Builtin.firstCells te.sz 0 vs).run cfg.P w = .ok #[] w := by
   unfold xU at hsrc
   split at hsrc
   ·split at hsrc
    ·cases hs; simp [Builtin.firstCells]
    ·cases hsrc
   ·obtain ⟨a', cap', sv, rfl, _⟩ := qbn (P := cfg.P) h h0 hs hsrc
    cases a' <;> simp [Builtin.firstCells, loadCells, loadCellsFrom]
  have hH : H.set id (.rows (d && xx H s) te.sz (rs.take off ++ news.take 0 ++ rs.drop (off + (news.take 0).length))) = H.set id (.rows (d && xx H s) te.sz rs) := by simp
  refine ⟨goInt (Nat.min news.length 0), w, C, μ, ?_, by simpa [goInt] using Rep.int (C := C) (μ := μ) .i64 0, ?_, ?_⟩
  ·unfold Builtin.copy_
   simp [run_underlying hu, hb3, qL hte, hf0]
  ·rw [hH]; exact h.weaken hid (fun hd => by rw [que] at hd; exact hd.1)
  ·rw [hH]; exact h.weakenX hid _ (qum _)
 | ms _ _ _ cap a m hm hl ha =>
  -- what is copied, read whole; of it the part that goes over
  have hread : ∃ nv : List Value, qT C μ te.sz (news.take len) nv ∧ (Builtin.lenOf vs).run cfg.P w = .ok news.length w ∧ (Builtin.firstCells te.sz (Nat.min news.length len) vs).run cfg.P w = .ok nv.toArray w := by
   unfold xU at hsrc
   split at hsrc
   ·rename_i b
    split at hsrc
    ·rename_i h1
     have h1' := qui h1
     cases hsrc; cases hs
     refine ⟨(b.map fun b => Value.int .u8 b.toNat).take len, ?_, by simp [Builtin.lenOf, zO, ByteArray.size], ?_⟩
     ·rw [h1']
      have := (qbC (C := C) (μ := μ) b).take len
      simpa using this
     ·simp only [Builtin.firstCells, zO]
      have hx : ((⟨b.toArray⟩ : ByteArray).extract 0 (Nat.min b.length len)).data.toList = b.take len := by
       rw [Lib.extract_data]
       show qux (Nat.min b.length len - 0) (quN 0 b) = _
       rw [List.drop_zero, Nat.sub_zero]
       rcases Nat.le_total b.length len with hh | hh
       ·rw [show Nat.min b.length len = b.length from Nat.min_eq_left hh, quu (qum _), quu hh]
       ·rw [show Nat.min b.length len = len from Nat.min_eq_right hh]
      simp only [Sem.run_pure]
      congr 1
      apply Array.ext'
      rw [Array.toList_map, hx, List.map_take]
    ·cases hsrc
   ·obtain ⟨a', cap', sv, rfl, e2, e3, e4, e5, e6⟩ := qbn (P := cfg.P) h h0 hs hsrc
    refine ⟨sv.take (len * te.sz), e3.take len, rfl, ?_⟩
    cases a' with
    | none =>
     have := e6 rfl
     subst this
     have hsv : sv = [] := by have := e3.1; simpa using this
     subst hsv
     simp [Builtin.firstCells]
    | some b =>
     have hmin : (sv.take (len * te.sz)).length = Nat.min news.length len * te.sz := by
      rw [List.length_take, e3.1, Nat.mul_min_mul_right, Nat.min_comm]
     have := run_loadCells_list (P := cfg.P) w b (sv.take (len * te.sz)) (fun k v hk => by
      rw [List.getElem?_take] at hk
      split at hk
      ·exact e5 b rfl k v hk
      ·cases hk)
     rw [hmin] at this
     simpa [Builtin.firstCells] using this
  obtain ⟨nv, f1, f2, f3⟩ := hread
  have hfit : off + (news.take len).length ≤ rs.length := by simp; omega
  obtain ⟨r1, r2, r3⟩ := qjE (P := cfg.P) h (d && xx H s) hid hm f1 hfit (fun hd => by rw [que] at hd; exact ⟨hd.1, ym (qgF h hs hsrc hd.2)⟩)
  have hlen : (Builtin.lenOf vs).run cfg.P w = .ok news.length w := f2
  have base : (Builtin.copy_ #[t, xt] ty #[.slice (some a) len cap, vs]).run cfg.P w = ((storeCells a nv).run cfg.P w).andThen fun _ w' => .ok (goInt (Nat.min news.length len)) w' := by
   unfold Builtin.copy_
   simp only [List.getElem?_toArray, List.getElem?_cons_zero, quF, Sem.run_bind, run_underlying hu, Result.andThen_ok, hlen, qL hte, f3, Sem.run_pure]
  by_cases hz : cap = 0
  ·have hl0 : len = 0 := by omega
   subst hl0
   have hnv : nv = [] := by have := f1.1; simpa using this
   subst hnv
   refine ⟨goInt (Nat.min news.length 0), w, C, μ, by rw [base]; rfl, .int _ _, ?_, ?_⟩
   ·have := r2; simpa [World.setCells] using this
   ·have := r3 _ (qum _); simpa [World.setCells] using this
  ·obtain ⟨rfl, _⟩ := ha hz
   have hms := qiK (id := id) (sz := te.sz) (rs := rs) h (by simp [qX, hid]) hm
   rw [← hms, r1, Result.andThen_ok] at base
   rw [← hms]
   exact ⟨goInt (Nat.min news.length len), _, C, μ, base, .int _ _, r2, r3 _ (qum _)⟩
theorem qkM (z : Array Value) (n : Nat) : Builtin.zeroCells z n = (Array.range (n * z.size)).map (z[· % z.size]!) := rfl
theorem qaC {r : Nat} {es : Array MapEntry} {c : Nat} (h : w.heap[r]? = some (.map es c)) : (getObj r).run P w = .ok (.map es c) w := by simp [getObj, Sem.run, h]
theorem qdM {r : Nat} {es : Array MapEntry} {c : Nat} (h : w.heap[r]? = some (.map es c)) (es' : Array MapEntry) (c' : Nat) : (setObj r (.map es' c')).run P w = .ok () (w.putObj r (.map es' c')) := by simp [setObj, Sem.run, h, World.putObj]
theorem qi9 [Lent] (h : Wld C μ H w) {id : Nat} {d0 : Bool} {es : List (AV × AV)} {m : MI} (hi : H[id]? = some (.mp d0 es)) (hm : μ id = some m) (d1 : Bool) {es' : List (AV × AV)} (hfr : (ABlk.mp d1 es').Free) {arr : Array MapEntry} {c : Nat} (hl : arr.size = es'.length)
  (hr : ∀ (i : Nat) e me, es'[i]? = some e → arr[i]? = some me → Rep C μ e.1 me.key ∧ Rep C μ e.2 me.val) :
  Wld C μ (H.set id (.mp d1 es')) (w.putObj m.block (.map arr c)) ∧ ∀ k, k ≤ H.length → Ext k C μ H w C μ (H.set id (.mp d1 es')) (w.putObj m.block (.map arr c)) := by
 obtain ⟨h1, _, _⟩ := h.liveM hi rfl hm
 exact ⟨h.setBlk hi rfl rfl hm (by simp) (fun b hb => World.putObj_heap_other hb) ⟨arr, c, World.putObj_heap_same h1, hl, hr⟩ hfr,
  fun k hk => Ext.setBlk h hi rfl hm (by simp) (fun b hb => World.putObj_heap_other hb) rfl rfl rfl hk⟩
theorem qmv [Lent] {cfg : Cfg} (hc : CfgTy cfg) (h : Wld C μ H w) {t ty : TypeId} {x : AV} {vx : Value} (he : qdC cfg t x H = some H') (hx : Rep C μ x vx) :
  Runs cfg.P (Builtin.clear_ #[t] ty #[vx]) C μ H w (.tup []) H' := by
 have hres : Rep C μ (.tup []) (.tuple #[]) := .tup [] [] rfl (fun i a v h => by simp at h)
 unfold qdC at he
 split at he
 ·rename_i e e' ht
  cases he; cases hx
  obtain ⟨tt, u, _, _, hu, hdd⟩ := hc.td ht
  have := qbm hdd; subst this
  exact Runs.pure' h ⟨.tuple #[], by simp [Builtin.clear_, run_underlying hu], hres⟩
 ·rename_i e e' id ht
  split at he
  case h_2 => cases he
  rename_i d0 es hid
  cases he
  obtain ⟨tt, u, _, _, hu, hdd⟩ := hc.td ht
  have := qbm hdd; subst this
  cases hx with
  | mp _ m hm =>
   obtain ⟨_, _, arr, c, h3, _, _⟩ := h.liveM hid rfl hm
   obtain ⟨g1, g2⟩ := qi9 h hid hm true (es' := []) (fun _ i e a1 => by simp at a1) (arr := #[]) (c := c) rfl (fun i e me a1 _ => by simp at a1)
   refine ⟨.tuple #[], _, C, μ, ?_, hres, g1, g2 _ (qum _)⟩
   simp [Builtin.clear_, run_underlying hu, qaC h3, qdM h3]
 ·rename_i e ht
  cases he; cases hx
  obtain ⟨tt, u, _, _, hu, hdd⟩ := hc.td ht
  have := vp hdd; subst this
  exact Runs.pure' h ⟨.tuple #[], by simp [Builtin.clear_, run_underlying hu], hres⟩
 ·rename_i e id off len ht
  split at he
  case h_2 => cases he
  rename_i ei d sz rs hei hid
  split at he
  case isFalse => cases he
  rename_i hcn
  simp only [que, quJ] at hcn
  obtain ⟨⟨hrz, hsz⟩, hle⟩ := hcn
  have hsz := qui hsz
  subst hsz
  cases he
  obtain ⟨tt, u, _, _, hu, hdd⟩ := hc.td ht
  have := vp hdd; subst this
  have hte := hc.ty _ _ hei
  obtain ⟨z, hz1, hz2⟩ := qah hte w
  obtain ⟨h0, hzl, hza⟩ := qca hrz
  cases hx with
  | msN _ _ =>
   have hH : H.set id (.rows d ei.sz (rs.take off ++ quB 0 ei.zero ++ rs.drop (off + 0))) = H.set id (.rows d ei.sz rs) := by simp
   refine ⟨.tuple #[], w, C, μ, by simp [Builtin.clear_, run_underlying hu], hres, ?_, ?_⟩
   ·rw [hH]; exact h.weaken hid (fun hd => hd)
   ·rw [hH]; exact h.weakenX hid _ (qum _)
  | ms _ _ _ cap a m hm hl ha =>
   have hzf := qdE (C := C) (μ := μ) hz2 hrz len
   obtain ⟨r1, r2, r3⟩ := qjE (P := cfg.P) (off := off) h d hid hm hzf (by simpa using hle) (fun hd => ⟨hd, qgh (by rw [hz2]; exact qcb 0 _)⟩)
   simp only [List.length_replicate] at r2 r3
   have hzs : z.cells.size = ei.sz := by rw [hz2] at hzl; simpa using hzl
   by_cases hl0 : len = 0
   ·subst hl0
    refine ⟨.tuple #[], w, C, μ, by simp [Builtin.clear_, run_underlying hu], hres, ?_, ?_⟩
    ·simpa [World.setCells] using r2
    ·have := r3 _ (qum _); simpa [World.setCells] using this
   ·obtain ⟨rfl, _⟩ := ha (by omega)
    have hms := qiK (id := id) (sz := ei.sz) (rs := rs) h (by simp [qX, hid]) hm
    rw [← hms]
    refine ⟨.tuple #[], _, C, μ, ?_, hres, r2, r3 _ (qum _)⟩
    have hst : (storeCells ⟨m.block, m.base + off * ei.sz, none⟩ (Builtin.zeroCells z.cells len).toList).run cfg.P w = .ok () (w.setCells m.block (m.base + off * ei.sz) ((Array.range (len * ei.sz)).map (z.cells[· % z.cells.size]!)).toList) := by
     rw [qkM, hzs]
     rw [hzs] at r1
     exact r1
    obtain ⟨l', rfl⟩ := Nat.exists_eq_succ_of_ne_zero hl0
    unfold Builtin.clear_
    simp [Sem.run_bind, run_underlying hu, Result.andThen_ok, hz1, hst, -Array.toList_map]
 ·cases he
theorem qfu [Lent] {cfg : Cfg} (hc : CfgTy cfg) (h : Wld C μ H w) {nid : Option Nat} {t : TypeId} {l c r : AV} {vl vc : Value} (he : qbj cfg nid t l c H = some (r, H')) (hl : Rep C μ l vl) (hcv : Rep C μ c vc) :
  ∃ v w' C' μ', (Instr.makeSlice t vl vc).run cfg.P w = .ok v w' ∧ Rep C' μ' r v ∧ Wld C' μ' H' w' ∧ Ext H.length C μ H w C' μ' H' w' ∧ ∀ k n k' n', l = .int k n → c = .int k' n' → ∃ ad, v = .slice ad n.toNat n'.toNat := by
 unfold qbj at he
 split at he
 case h_2 => cases he
 rename_i e n cc ht
 split at he
 case h_2 => cases he
 rename_i ei hei
 split at he
 case isFalse => cases he
 rename_i hrz
 split at he
 case isFalse => cases he
 rename_i hb
 split at he
 case h_2 => cases he
 rename_i k H1 hnew
 cases he; cases hl; cases hcv
 obtain ⟨tt, u, _, _, hu, hdd⟩ := hc.td ht
 have := vp hdd; subst this
 have hte := hc.ty _ _ hei
 obtain ⟨i, ue, z, hi, _, hz, hie⟩ := zD hte
 have hby : ei.bytes = i.bytes := by rw [hie]
 have hz2 : ei.zero = z.cells.toList.map vW := by rw [hie]
 obtain ⟨h0, hzl, hza⟩ := qca hrz
 have hzf := qdE (C := C) (μ := μ) hz2 hrz cc.toNat
 have hg : Grew w (w.alloc (.cells ((Array.range (cc.toNat * ei.sz)).map (z.cells[· % z.cells.size]!)) e)) ((Array.range (cc.toNat * ei.sz)).map (z.cells[· % z.cells.size]!)) e := Grew.alloc _ _ _
 have hle : n.toNat * ei.sz ≤ cc.toNat * ei.sz := quC _ (by omega)
 obtain ⟨g1, g2, g3⟩ := qci h hg hnew (by simpa using hle) (fun j row hj => by
  have hjl : j < n.toNat := by simpa using (quh.1 hj).1
  rw [List.getElem?_replicate, if_pos hjl] at hj
  have hj' : (quB cc.toNat ei.zero)[j]? = some row := by rw [List.getElem?_replicate, if_pos (by omega)]; exact hj
  refine ⟨(hzf.2 j row hj').1, fun q x hq => ?_⟩
  obtain ⟨c1, v, c2, c3⟩ := (hzf.2 j row hj').2 q x hq
  exact ⟨c1, v, by rw [← Array.getElem?_toList]; exact c2, c3⟩) (fun _ => qgh (by rw [hz2]; exact qcb 0 _))
 refine ⟨_, _, C, _, ?_, .ms k 0 n.toNat cc.toNat ⟨w.heap.size, 0, none⟩ _ (by unfold upd; rw [if_pos rfl]) (by omega) (fun _ => ⟨by simp, by simp⟩), g1, g2 _ (qum _), fun k n k' n' e1 e2 => by cases e1; cases e2; exact ⟨_, rfl⟩⟩
 have w1 : IntKind.i64.wrap n = n := by
  simp [IntKind.wrap, IntKind.bits, IntKind.signed]; omega
 have w2 : IntKind.i64.wrap cc = cc := by
  simp [IntKind.wrap, IntKind.bits, IntKind.signed]; omega
 have hb1 : ¬ ((decide (cc < 0) || decide ((i.bytes : Int) * cc > 2 ^ 48)) = true) := by
  have := hb.2.2.1
  rw [hby, Int.mul_comm] at this
  simp; omega
 have hb2 : ¬ (n < 0) := by omega
 have hb3 : ¬ (n > cc) := by omega
 have hno : ¬ ((decide (cc < 0) || decide ((i.bytes : Int) * cc > 2 ^ 48) || decide (n < 0) || decide (n > cc)) = true) := by
  simp at hb1 ⊢; omega
 unfold Instr.makeSlice
 simp only [Sem.run_bind, run_underlying hu, Result.andThen_ok, asInt, asIntOf, Sem.run_pure, yV hi, w1, w2]
 rw [if_neg hno]
 have harr : (Array.range (cc.toNat * ei.sz)).map (fun x => (if cc.toNat * ei.sz = 0 then #[] else z.cells)[x % (if cc.toNat * ei.sz = 0 then (#[] : Array Value) else z.cells).size]!) = (Array.range (cc.toNat * ei.sz)).map (z.cells[· % z.cells.size]!) := by
  by_cases hc0 : cc.toNat * ei.sz = 0
  ·rw [hc0]; simp
  ·simp only [if_neg hc0]
 by_cases hc0 : cc.toNat * ei.sz = 0
 ·simp only [if_pos hc0] at harr
  simp only [Sem.run_bind, Sem.run_pure, Result.andThen_ok, run_askRoom, qL hte, if_pos hc0, newRow, run_newObj, World.alloc_eq, harr]
 ·simp only [Sem.run_bind, Sem.run_pure, Result.andThen_ok, run_askRoom, qL hte, if_neg hc0, zeroValue, yV hi, hz, newRow, run_newObj, World.alloc_eq]
theorem qnz [Lent] {cfg : Cfg} (hc : CfgTy cfg) (h : Wld C μ H w) {nid : Option Nat} {t : TypeId} {l c r : AV} {vl vc : Value} (he : qbj cfg nid t l c H = some (r, H')) (hl : Rep C μ l vl) (hcv : Rep C μ c vc) :
  Runs cfg.P (Instr.makeSlice t vl vc) C μ H w r H' :=
 let ⟨v, w', C', μ', h1, h2, h3, h4, _⟩ := qfu hc h he hl hcv
 ⟨v, w', C', μ', h1, h2, h3, h4⟩
theorem qmr [Lent] {cfg : Cfg} (hc : CfgTy cfg) (h : Wld C μ H w) {nid : Option Nat} {t : TypeId} {l c r : AV} {vl vc : Value} (he : qae cfg nid t l c H = some (r, H')) (hl : Rep C μ l vl) (hcv : Rep C μ c vc) :
  Runs cfg.P (Instr.makeSlice t vl vc) C μ H w r H' := by
 unfold qae at he
 split at he
 ·exact qnz hc h he hl hcv
 ·split at he
  case h_2 => cases he
  rename_i k n k' n'
  split at he
  case isFalse => cases he
  rename_i hn
  rw [decide_eq_true_eq] at hn
  subst hn
  obtain ⟨q, hq, hw⟩ := quf.1 he
  obtain ⟨v, w', C', μ', h1, h2, h3, h4, h5⟩ := qfu hc h hq hl hcv
  obtain ⟨ad, rfl⟩ := h5 k n k' n rfl rfl
  unfold qn9 at hw
  split at hw
  ·cases hw
   rename_i id off len
   have hlen : len = n.toNat := h2.lenW rfl
   subst hlen
   exact ⟨_, w', C', μ', h1, .wr _ _ ad _ (qum _) h2, h3, h4⟩
  ·cases hw
variable {C C' : qd} {μ μ' : MMap} {H H' : AH} {w w' : World} {P : Program}
theorem Grew.bytes (w : World) (e : TypeId) (s : ByteArray) : Grew w (Lib.bytesWorld w e s) (Lib.bytesCells w e s) e :=
 ⟨rfl, rfl, rfl, Lib.bytesWorld_size w e s, fun b hb => Lib.bytesWorld_at_old w e s b hb, ⟨_, Lib.bytesWorld_at_new w e s, fun o ho h => by simp at h; omega⟩⟩
theorem qgX {r : List AV} {l : List (List AV)} {bs : List UInt8} (h : xP (r :: l) = some bs) :
  ∃ n bs', r = [.int .u8 n] ∧ 0 ≤ n ∧ n < 256 ∧ xP l = some bs' ∧ bs = UInt8.ofNat n.toNat :: bs' := by
 unfold xP at h
 split at h
 ·rename_i hh; cases hh
 ·rename_i n l' hh
  cases hh
  split at h
  ·rename_i hb
   split at h
   ·rename_i bs' hbs
    cases h
    exact ⟨n, bs', rfl, hb.1, hb.2, hbs, rfl⟩
   ·cases h
  ·cases h
 ·cases h
theorem qio [Lent] : ∀ {rows : List (List AV)} {bs : List UInt8} {vs : List Value}, xP rows = some bs → qT C μ 1 rows vs →
  ∃ ns : List Int, vs = ns.map (Value.int .u8) ∧ ∀ r : ByteArray, ns.foldl (fun r n => r.push (UInt8.ofNat n.toNat)) r = ⟨r.data ++ bs.toArray⟩
 | [], bs, vs, h, hf => by
  simp [xP] at h; subst h
  have : vs = [] := List.eq_nil_of_length_eq_zero (by simpa using hf.1)
  subst this
  exact ⟨[], rfl, fun r => by simp⟩
 | r :: l, bs, vs, h, hf => by
  obtain ⟨n, bs', rfl, h0, h1, h2, rfl⟩ := qgX h
  obtain ⟨_, hr⟩ := hf.2 0 _ rfl
  obtain ⟨_, v, hv, hrep⟩ := hr 0 _ rfl
  cases hrep
  cases vs with
  | nil => simp at hv
  | cons v vs =>
   simp at hv; subst hv
   have hd := hf.drop 1
   simp at hd
   obtain ⟨ns, e1, e2⟩ := qio h2 hd
   refine ⟨n :: ns, by simp [e1], fun r => ?_⟩
   simp only [List.foldl_cons, e2]
   simp [ByteArray.push]
theorem qjp [Lent] {cfg : Cfg} (hc : CfgTy cfg) (h : Wld C μ H w) {nid : Option Nat} {src dst : TypeId} {x r : AV} {vx : Value} (he : yO cfg nid src dst x H = some (r, H')) (hx : Rep C μ x vx) :
  Runs cfg.P (convert src dst vx) C μ H w r H' := by
 unfold yO at he
 split at he
 ·rename_i sd k k' n hs hd
  cases he; cases hx
  obtain ⟨_, us, _, _, hus, _⟩ := hc.td hs
  obtain ⟨_, ud, _, _, hud, hd'⟩ := hc.td hd
  have := qhr hd'; subst this
  exact Runs.pure' h ⟨.int k (k.wrap n), by simp [convert, run_underlying hus, run_underlying hud, Conv.intToInt], .int _ _⟩
 ·rename_i sd s hs hd
  cases he; cases hx
  obtain ⟨_, us, _, _, hus, _⟩ := hc.td hs
  obtain ⟨_, ud, _, _, hud, hd'⟩ := hc.td hd
  have := qdn hd'; subst this
  exact Runs.pure' h ⟨_, by simp [convert, run_underlying hus, run_underlying hud], .str _⟩
 ·rename_i sd e s hs hd
  obtain ⟨_, us, _, _, hus, _⟩ := hc.td hs
  obtain ⟨_, ud, _, _, hud, hd'⟩ := hc.td hd
  have := vp hd'; subst this
  split at he
  case h_2 => cases he
  rename_i hte
  obtain ⟨_, ue, _, _, hue, he'⟩ := hc.td hte
  have := qhr he'; subst this
  split at he
  case h_2 => cases he
  rename_i k H1 hnew
  cases he; cases hx
  have hrun := Lib.run_convert_string_bytes w src dst e ⟨s.toArray⟩ hus hud hue
  have hsz : (⟨s.toArray⟩ : ByteArray).size = s.length := by simp [ByteArray.size]
  have hge : s.length ≤ grownCap w s.length 0 e := by unfold grownCap Question.cut; exact Nat.le_add_right _ _
  have hcs : (Lib.bytesCells w e ⟨s.toArray⟩).size = grownCap w s.length 0 e := by
   simp [Lib.bytesCells, hsz]; omega
  have hfl := qbC (C := C) (μ := μ) s
  obtain ⟨g1, g2, g3⟩ := qci h (Grew.bytes w e ⟨s.toArray⟩) hnew (by rw [hcs, zO]; omega) (fun i row hi' => ⟨(hfl.2 i row hi').1, fun j y hj => by
   obtain ⟨c1, v, c2, c3⟩ := (hfl.2 i row hi').2 j y hj
   refine ⟨c1, v, ?_, c3⟩
   have hlt := (quh.1 c2).1
   unfold Lib.bytesCells
   rw [Array.getElem?_append_left (by simpa using hlt)]
   simpa using c2⟩) (fun _ => qep s)
  rw [hsz] at hrun
  refine ⟨_, _, C, _, hrun, .ms k 0 s.length _ _ _ (by unfold upd; rw [if_pos rfl]) hge (fun _ => ⟨by simp, ?_⟩), g1, g2 _ (qum _)⟩
  show (0 + grownCap w s.length 0 e) * 1 ≤ (Lib.bytesCells w e ⟨s.toArray⟩).size
  rw [hcs]; omega
 ·rename_i e hs hd _
  split at he
  case h_2 => cases he
  rename_i rows hte hrows
  split at he
  case h_2 => cases he
  rename_i bs hbs
  cases he
  obtain ⟨_, us, _, _, hus, hs'⟩ := hc.td hs
  have := vp hs'; subst this
  obtain ⟨_, ud, _, _, hud, hd'⟩ := hc.td hd
  have := qdn hd'; subst this
  obtain ⟨_, ue, _, _, hue, he'⟩ := hc.td hte
  have := qhr he'; subst this
  obtain ⟨a, cap, vs, rfl, e2, e3, e4, _, e6⟩ := qbn (P := cfg.P) h (n := 1) (by omega) hx hrows
  obtain ⟨ns, f1, f2⟩ := qio hbs e3
  refine Runs.pure' h ⟨.string ⟨bs.toArray⟩, ?_, .str _⟩
  rw [run_convert_bytes_string w src dst e a rows.length cap hus hue hud]
  have hfc := e4 w rfl
  cases a with
  | none =>
   have : rows = [] := e6 rfl
   subst this
   simp [xP] at hbs; subst hbs
   simp [Conv.bytesToString]; rfl
  | some a =>
   have hl : (loadCells a rows.length).run cfg.P w = .ok (ns.map (Value.int .u8)).toArray w := by
    simp [Builtin.firstCells] at hfc
    rw [← f1]; exact hfc
   rw [run_bytesToString w a rows.length cap ns hl, f2]
   have he0 : ByteArray.empty.data = #[] := rfl
   rw [he0]; simp
 ·cases he
theorem qeY [Lent] (h : Wld C μ H w) {nid : Option Nat} {k : Nat} {t : TypeId} {v : Value} {d : Bool} {cs : List AV} {vs : List Value} (hd : d = true → qt 0 cs = true) (hv : v.cells = vs.toArray) (hcs : xZ C μ cs vs)
  (hn : aNew nid H (.rows d cs.length [cs]) = some (k, H')) : Runs P (do pure (.pointer (some (← newVar t v)))) C μ H w (.ptr k 0 0) H' := by
 have hfl := qT.one_row rfl hcs
 have hg : Grew w (w.alloc (.cells vs.toArray t)) vs.toArray t := Grew.alloc _ _ _
 obtain ⟨g1, g2, g3⟩ := qci h hg hn (by simp [hcs.1]) (fun i row hi' => ⟨(hfl.2 i row hi').1, fun j y hj => by
  obtain ⟨c1, v, c2, c3⟩ := (hfl.2 i row hi').2 j y hj
  exact ⟨c1, v, by simpa using c2, c3⟩⟩) (fun h => by simp [qA, hd h])
 refine ⟨_, _, C, _, ?_, .ptr k 0 0 (MI.mk4 w.heap.size 0 vs.toArray.size cs.length) (by unfold upd; rw [if_pos rfl]), g1, g2 _ (qum _)⟩
 simp [newVar, newRow, hv]
theorem qeZ [Lent] (h : Wld C μ H w) {nid : Option Nat} {k : Nat} {t e : TypeId} {v : Value} (hv : v.cells = #[.pointer none, .slice none 0 0])
  (hn : aNew nid H (.bld t e []) = some (k, H')) : Runs P (do pure (.pointer (some (← newVar t v)))) C μ H w (.ptr k 0 0) H' := by
 have hg : Grew w (w.alloc (.cells #[.pointer none, .slice none 0 0] t)) #[.pointer none, .slice none 0 0] t := Grew.alloc _ _ _
 have hnl : ¬ Live H μ w.heap.size := fun hl => Nat.lt_irrefl _ (h.live_lt hl)
 have hnc : ∀ o, C w.heap.size o = none := fun o => by
  cases hc : C w.heap.size o with
  | none => rfl
  | some v => exact absurd (h.block_lt hc) (Nat.lt_irrefl _)
 have hw' := h.world (w' := w.alloc (.cells #[.pointer none, .slice none 0 0] t)) (by rw [hg.size]; omega) (fun b hb => hg.old b hb)
 have hb : vT C (upd μ k (MI.mk4 w.heap.size 0 2 2)) (w.alloc (.cells #[.pointer none, .slice none 0 0] t)) (MI.mk4 w.heap.size 0 2 2) (.bld t e []) :=
  ⟨rfl, _, _, heap_alloc_new w _, .inl rfl, World.ownsRowF_nil _ 0 e 1, by simp [Value.ownBlock], fun _ => rfl, fun g hg => by simp [Value.ownBlock] at hg⟩
 obtain ⟨e1, e2, e3, e4, e5⟩ := hw'.new4 hn hnl (by rw [hg.size]; simp) hnc (h.lent_none (qum _)) rfl hb trivial
 refine ⟨_, _, C, _, ?_, .ptr k 0 0 (MI.mk4 w.heap.size 0 2 2) (by unfold upd; rw [if_pos rfl]), e1, ⟨hg.os, hg.tape, hg.output, by rw [hg.size]; omega, fun _ _ _ h => h, fun id m' _ hm' => ⟨_, e2 id m' hm', .refl _⟩, fun b hb hnl => ⟨hg.old b hb, fun hl => ?_, rfl⟩, e3⟩⟩
 ·simp [newVar, newRow, hv]
 ·rcases e4 b hl with h' | h'
  ·exact hnl h'
  ·omega
theorem qny [Lent] {cfg : Cfg} (hc : CfgTy cfg) (h : Wld C μ H w) {nid : Option Nat} {t ty : TypeId} {x : Operand → AV} {r : AV} (he : evOp cfg nid (.alloc t) ty x H = some (r, H')) :
  Runs cfg.P (Instr.alloc t true (.tuple #[])) C μ H w r H' := by
 simp only [evOp] at he
 split at he
 case h_2 => cases he
 rename_i ti hti
 split at he
 case isFalse => cases he
 rename_i hall
 split at he
 case h_2 => cases he
 rename_i k H1 hnew
 cases he
 obtain ⟨z, hz1, hz2⟩ := qah (hc.ty _ _ hti) w
 by_cases hb : ∃ e, cfg.bld t = some e ∧ ti.zero = [.nilP, .nilS]
 ·obtain ⟨e, hb1, hb2⟩ := hb
  have hnew : aNew nid H (.bld t e []) = some (k, H') := by rw [← hnew]; unfold qaq; rw [hb1, hb2]
  have hzc := qbD (C := C) (μ := μ) hz2 hall
  rw [hb2] at hzc
  obtain ⟨c0, c1, hcs⟩ : ∃ c0 c1, z.cells.toList = [c0, c1] := by
   have := hzc.1
   match z.cells.toList, this with
   | [a, b], _ => exact ⟨a, b, rfl⟩
  rw [hcs] at hzc
  have r0 := (hzc.2 0 _ c0 rfl rfl).2
  have r1 := (hzc.2 1 _ c1 rfl rfl).2
  cases r0
  cases r1
  have hzv : z.cells = #[.pointer none, .slice none 0 0] := by rw [← Array.toList_inj, hcs]
  obtain ⟨v, w', C', μ', e1, e2, e3, e4⟩ := qeZ (P := cfg.P) (t := t) (v := z) h hzv hnew
  refine ⟨v, w', C', μ', ?_, e2, e3, e4⟩
  simp only [Instr.alloc, Sem.run_bind, hz1, Result.andThen_ok]
  exact e1
 replace hnew : aNew nid H (.rows (bigZ (cfg.fga t ti.zero)) ti.zero.length [cfg.fga t ti.zero]) = some (k, H') := by
  rw [← hnew]; unfold qaq
  split
  ·rename_i e h1 h2; exact absurd ⟨e, h1, h2⟩ hb
  ·rfl
 obtain ⟨v, w', C', μ', e1, e2, e3, e4⟩ := qeY (P := cfg.P) (t := t) (v := z) (vs := z.cells.toList) (d := bigZ (cfg.fga t ti.zero)) (cs := cfg.fga t ti.zero) h (fun h => by unfold bigZ at h; rw [que] at h; exact h.2) (by simp) ((qbD hz2 hall).fga cfg t) (by rw [qo0]; exact hnew)
 refine ⟨v, w', C', μ', ?_, e2, e3, e4⟩
 simp only [Instr.alloc, Sem.run_bind, hz1, Result.andThen_ok]
 exact e1
theorem qqI [Lent] {cfg : Cfg} (h : Wld C μ H w) {nid : Option Nat} {t ty : TypeId} {a : Operand} {x : Operand → AV} {va : Value} {r : AV} (ha : Rep C μ (x a) va) (he : evOp cfg nid (.box t a) ty x H = some (r, H')) :
  Runs cfg.P (Instr.box t va) C μ H w r H' := by
 simp only [evOp] at he
 split at he
 case h_2 => cases he
 rename_i cs hcs
 split at he
 case h_2 => cases he
 rename_i k H1 hnew
 cases he
 obtain ⟨vs, e1, e2, e3, e4⟩ := ha.cells hcs
 by_cases hb : ∃ e, cfg.bld t = some e ∧ cs = [.nilP, .nilS]
 ·obtain ⟨e, hb1, rfl⟩ := hb
  have hnew : aNew nid H (.bld t e []) = some (k, H') := by rw [← hnew]; unfold qct; rw [hb1]
  obtain ⟨c0, c1, rfl⟩ : ∃ c0 c1, vs = [c0, c1] := by
   match vs, e2 with
   | [a, b], _ => exact ⟨a, b, rfl⟩
  have r0 := (e4 0 _ c0 rfl rfl).2
  have r1 := (e4 1 _ c1 rfl rfl).2
  cases r0
  cases r1
  exact qeZ (P := cfg.P) (t := t) (v := va) h (by rw [e1]) hnew
 replace hnew : aNew nid H (.rows (bigZ cs) cs.length [cs]) = some (k, H') := by
  rw [← hnew]; unfold qct
  split
  ·rename_i e h1; exact absurd ⟨e, h1, rfl⟩ hb
  ·rfl
 exact qeY (P := cfg.P) (t := t) (v := va) (vs := vs) (d := bigZ cs) h (fun h => by unfold bigZ at h; rw [que] at h; exact h.2) e1 ⟨e2, e4⟩ hnew
theorem qgY [Lent] {cfg : Cfg} (hc : CfgTy cfg) (h : Wld C μ H w) {nid : Option Nat} {t ty : TypeId} {len : Nat} {parts : Array (Nat × Operand)} {x : Operand → AV} {ρ : Operand → Value} (hx : ∀ a, Rep C μ (x a) (ρ a)) {r : AV}
  (he : evOp cfg nid (.buildSlice t len parts) ty x H = some (r, H')) : Runs cfg.P (Instr.buildSlice t len (parts.map fun (i, x) => (i, ρ x))) C μ H w r H' := by
 simp only [evOp] at he
 split at he
 case h_2 => cases he
 rename_i e ht
 split at he
 case h_2 => cases he
 rename_i ei hei
 split at he
 case isFalse => cases he
 rename_i hcn
 simp only [que, quJ] at hcn
 obtain ⟨hrz, hle⟩ := hcn
 split at he
 case h_2 => cases he
 rename_i rows hrows
 split at he
 case h_2 => cases he
 rename_i k H1 hnew
 cases he
 obtain ⟨_, u, _, _, hu, hd⟩ := hc.td ht
 have := vp hd; subst this
 have hte := hc.ty _ _ hei
 obtain ⟨h0, hzl, hza⟩ := qca hrz
 obtain ⟨z, hz1, hz2⟩ := qah hte w
 obtain ⟨p1, p2⟩ := qjM hx parts
 obtain ⟨vs', g1, g2⟩ := qgA hrows (qdE (C := C) (μ := μ) hz2 hrz len) p1 p2
 have hrl : ∀ (parts : List (Nat × AV)) (r0 r1 : List (List AV)), qaY ei.sz r0 parts = some r1 → r1.length = r0.length := by
  intro parts
  induction parts with
  | nil => intro r0 r1 hh; simp [qaY] at hh; rw [hh]
  | cons p l ih =>
   intro r0 r1 hh
   rw [qaY] at hh
   split at hh
   ·split at hh
    ·rw [ih _ _ hh]; simp
    ·cases hh
   ·cases hh
 have hrl := hrl _ _ _ hrows
 simp only [List.length_replicate] at hrl
 have hg : Grew w (w.alloc (.cells vs' e)) vs' e := Grew.alloc _ _ _
 have hvs : vs'.size = rows.length * ei.sz := by simpa using g2.1
 obtain ⟨f1, f2, f3⟩ := qci h hg hnew (by omega) (fun i row hi' => ⟨(g2.2 i row hi').1, fun j y hj => by
  obtain ⟨c1, v, c2, c3⟩ := (g2.2 i row hi').2 j y hj
  exact ⟨c1, v, by rw [← Array.getElem?_toList]; exact c2, c3⟩⟩) (fun h => h)
 refine ⟨_, _, C, _, ?_, .ms k 0 len len _ (MI.mk4 w.heap.size 0 vs'.size ei.sz) (by unfold upd; rw [if_pos rfl]) (qum _) (fun _ => ⟨rfl, ?_⟩), f1, f2 _ (qum _)⟩
 ·simp only [Instr.buildSlice, Sem.run_bind, run_underlying hu, Result.andThen_ok, qL hte]
  rw [if_neg (by omega)]
  rw [Array.toArray_toList] at g1
  by_cases hl0 : len * ei.sz = 0
  ·simp only [if_pos hl0, Sem.run_bind, Sem.run_pure, Result.andThen_ok]
   have hr0 : ∀ f : Nat → Value, (Array.range (len * ei.sz)).map f = #[] := fun f => by rw [hl0]; simp
   rw [hr0] at g1 ⊢
   rw [g1]
   simp [newRow]
  ·simp only [if_neg hl0, Sem.run_bind, Result.andThen_ok, hz1, Sem.run_pure]
   rw [g1]
   simp [newRow]
 ·show (0 + len) * ei.sz ≤ vs'.size
  rw [hvs, hrl]; simp
theorem qpp [Lent] {cfg : Cfg} (hc : CfgTy cfg) (h : Wld C μ H w) {t ty : TypeId} {x r : AV} {vx : Value} (he : aLen cfg t x H = some r) (hx : Rep C μ x vx) : ∃ v, (Builtin.len_ #[t] ty #[vx]).run cfg.P w = .ok v w ∧ Rep C μ r v := by
 unfold aLen at he
 split at he
 ·rename_i s ht
  cases he; cases hx
  obtain ⟨_, u, _, _, hu, hd⟩ := hc.td ht
  have := qdn hd; subst this
  exact ⟨_, by simp [Builtin.len_, run_underlying hu]; rfl, by simpa [goInt, ByteArray.size] using Rep.int (C := C) (μ := μ) .i64 s.length⟩
 ·rename_i e ht
  cases he; cases hx
  obtain ⟨_, u, _, _, hu, hd⟩ := hc.td ht
  have := vp hd; subst this
  exact ⟨goInt 0, by simp [Builtin.len_, run_underlying hu], .int _ _⟩
 ·rename_i e ht
  cases he; cases hx
  obtain ⟨_, u, _, _, hu, hd⟩ := hc.td ht
  have := vp hd; subst this
  exact ⟨goInt 0, by simp [Builtin.len_, run_underlying hu], .int _ _⟩
 ·rename_i e rows ht
  obtain ⟨_, u, _, _, hu, hd⟩ := hc.td ht
  have := vp hd; subst this
  cases he; cases hx
  ·exact ⟨goInt rows.length, by simp [Builtin.len_, run_underlying hu], .int _ _⟩
  ·exact ⟨goInt 0, by simp [Builtin.len_, run_underlying hu], .int _ _⟩
 ·rename_i e id off len ht
  cases he
  obtain ⟨_, u, _, _, hu, hd⟩ := hc.td ht
  have := vp hd; subst this
  cases hx
  ·exact ⟨goInt len, by simp [Builtin.len_, run_underlying hu], .int _ _⟩
  ·exact ⟨goInt 0, by simp [Builtin.len_, run_underlying hu], .int _ _⟩
 ·rename_i e rows ht
  obtain ⟨_, u, _, _, hu, hd⟩ := hc.td ht
  have := vp hd; subst this
  cases he; cases hx with
  | lsl _ _ h0 =>
   cases h0
   ·exact ⟨goInt rows.length, by simp [Builtin.len_, run_underlying hu], .int _ _⟩
   ·exact ⟨goInt 0, by simp [Builtin.len_, run_underlying hu], .int _ _⟩
 ·rename_i e id rows ht
  obtain ⟨_, u, _, _, hu, hd⟩ := hc.td ht
  have := vp hd; subst this
  cases he; cases hx with
  | rsl _ _ _ D hD h0 =>
   cases h0
   ·exact ⟨goInt rows.length, by simp [Builtin.len_, run_underlying hu], .int _ _⟩
   ·exact ⟨goInt 0, by simp [Builtin.len_, run_underlying hu], .int _ _⟩
 ·rename_i n e ht
  cases he
  obtain ⟨_, u, _, _, hu, hd⟩ := hc.td ht
  have := qb8 hd; subst this
  exact ⟨goInt n, by cases vx <;> simp [Builtin.len_, run_underlying hu], .int _ _⟩
 ·rename_i k e ht
  cases he; cases hx
  obtain ⟨_, u, _, _, hu, hd⟩ := hc.td ht
  have := qbm hd; subst this
  exact ⟨goInt 0, by simp [Builtin.len_, run_underlying hu], .int _ _⟩
 ·rename_i k e id ht
  split at he
  case h_2 => cases he
  rename_i es hid
  cases he
  cases hx with
  | mp _ m hm =>
   obtain ⟨_, u, _, _, hu, hd⟩ := hc.td ht
   have := qbm hd; subst this
   obtain ⟨_, _, arr, clock, h2, h3, _⟩ := h.liveM hid rfl hm
   refine ⟨goInt arr.size, ?_, by rw [h3]; exact .int _ _⟩
   simp [Builtin.len_, run_underlying hu, getObj, Sem.run, h2]
 ·cases he
theorem qpq [Lent] {cfg : Cfg} (hc : CfgTy cfg) {t ty : TypeId} {x r : AV} {vx : Value} (he : aCap cfg t x = some r) (hx : Rep C μ x vx) : ∃ v, (Builtin.cap_ #[t] ty #[vx]).run cfg.P w = .ok v w ∧ Rep C μ r v := by
 unfold aCap at he
 split at he
 ·rename_i e n v ht
  obtain ⟨c, hl, rfl⟩ := quk.1 he
  obtain ⟨_, u, _, _, hu, hd⟩ := hc.td ht
  have := vp hd; subst this
  cases hx with
  | wr _ _ ad c' hn h0 =>
   obtain rfl := h0.lenW hl
   exact ⟨goInt c, by simp [Builtin.cap_, run_underlying hu], .int _ _⟩
 ·cases he
theorem qiQ [Lent] {lt : Int → Int → Bool} {f : Value → Value → Sem Value} (hf : ∀ (k k' : IntKind) (a b : Int), (f (.int k a) (.int k' b)).run P w = .ok (.int k (if lt b a then b else a)) w) {x y r : AV} {vx vy : Value}
  (he : aMin lt [x, y] = some r) (hx : Rep C μ x vx) (hy : Rep C μ y vy) : ∃ v, ([vy].foldlM f vx).run P w = .ok v w ∧ Rep C μ r v := by
 unfold aMin at he
 split at he
 ·rename_i k a k' b heq
  cases heq
  split at he
  ·cases he; cases hx; cases hy
   exact ⟨_, by simp [hf], .int _ _⟩
  ·cases he
 ·cases he
variable {C C' : qd} {μ μ' : MMap} {H H' : AH} {w w' : World} {P : Program}
theorem qoJ {u : TypeDesc} {d : TD} (hd : tdOf u = d) (hk : d.keyed = true) : (∃ k, u = .int k ∧ d = .int k) ∨ (u = .string ∧ d = .str) := by
 cases u <;> simp_all [tdOf, TD.keyed] <;> (subst hd; simp at hk)
theorem qeK {kt : TypeId} {u : TypeDesc} {d : TD} (hu : P.underlying kt = some u) (hd : tdOf u = d) (hk : d.keyed = true) (b : Bool) (v : Value) : (Instr.checkKey b 10000 kt v).run P w = .ok () w := by
 rcases qoJ hd hk with ⟨k, rfl, rfl⟩ | ⟨rfl, rfl⟩
 ·unfold Instr.checkKey
  simp [run_underlying hu]
 ·unfold Instr.checkKey
  simp [run_underlying hu]
theorem qgo [Lent] {u : TypeDesc} {d : TD} (hd : tdOf u = d) {k k' : AV} {v v' : Value} (hk : Rep C μ k v) (hk' : Rep C μ k' v') {b : Bool} (h : qbJ d k k' = some b) :
  Instr.sameNow u v v' = some b ∧ (b = true → Instr.sameBits 10000 v' v = true) := by
 unfold qbJ at h
 split at h
 ·rename_i ik a x b' y
  split at h
  ·rename_i e
   subst e
   cases h
   cases hk; cases hk'
   obtain rfl : u = .int ik := qhr hd
   refine ⟨by simp [Instr.sameNow], fun hb => ?_⟩
   have : x = y := by simpa using hb
   subst this
   simp [Instr.sameBits]
  ·cases h
 ·rename_i a b'
  cases h
  cases hk; cases hk'
  obtain rfl : u = .string := qdn hd
  have e : ((⟨a.toArray⟩ : ByteArray) == ⟨b'.toArray⟩) = (a == b') := by
   show (a.toArray == b'.toArray) = (a == b')
   simp
  refine ⟨by simp only [Instr.sameNow, e], fun hb => ?_⟩
  have : a = b' := by simpa using hb
  subst this
  unfold Instr.sameBits
  show (a.toArray == a.toArray) = true
  simp
 ·cases h
def qfT [Lent] (C : qd) (μ : MMap) (es : List (AV × AV)) (arr : List MapEntry) : Prop := arr.length = es.length ∧ ∀ (i : Nat) e me, es[i]? = some e → arr[i]? = some me → Rep C μ e.1 me.key ∧ Rep C μ e.2 me.val
theorem zq [Lent] {u : TypeDesc} {d : TD} (hd : tdOf u = d) {k : AV} {v : Value} (hk : Rep C μ k v) : ∀ (es : List (AV × AV)) (arr : List MapEntry) (i : Nat) (r : Option (Nat × AV)), qfT C μ es arr → xz d k es i = some r →
  match r with
  | none => Instr.findNow u v arr i = some none
  | some (j, a) => ∃ (me : MapEntry), i ≤ j ∧ arr[j - i]? = some me ∧ Rep C μ a me.val ∧ Instr.findNow u v arr i = some (some (j, me.val)) ∧ Instr.sameBits 10000 me.key v = true
 | [], arr, i, r, he, h => by
  obtain rfl : arr = [] := List.length_eq_zero_iff.1 he.1
  cases h
  rfl
 | e :: es, [], i, r, he, h => by simp [qfT] at he
 | e :: es, me :: arr, i, r, he, h => by
  have h0 := he.2 0 e me rfl rfl
  have ht : qfT C μ es arr := ⟨by simpa using he.1, fun j e' me' h1 h2 => he.2 (j + 1) e' me' (by simpa using h1) (by simpa using h2)⟩
  rw [xz] at h
  split at h
  ·rename_i hki
   cases h
   obtain ⟨h1, h2⟩ := qgo hd hk h0.1 hki
   exact ⟨me, qum _, by simp, h0.2, by simp [Instr.findNow, h1], h2 rfl⟩
  ·rename_i hki
   obtain ⟨h1, _⟩ := qgo hd hk h0.1 hki
   have := zq hd hk es arr (i + 1) r ht h
   cases r with
   | none =>
    show Instr.findNow u v (me :: arr) i = some none
    rw [Instr.findNow, h1]; exact this
   | some q =>
    obtain ⟨j, a⟩ := q
    obtain ⟨m', g1, g2, g3, g4, g5⟩ := this
    refine ⟨m', by omega, ?_, g3, ?_, g5⟩
    ·obtain ⟨c, hc⟩ : ∃ c, j - i = c + 1 := ⟨j - i - 1, by omega⟩
     rw [hc, quF]
     rw [show c = j - (i + 1) by omega]; exact g2
    ·rw [Instr.findNow, h1]; exact g4
  ·cases h
theorem qmB [Lent] {cfg : Cfg} (hc : CfgTy cfg) {t : TypeId} {z : AV} (h : cfg.zeroV t = some z) : ∃ v, (∀ w, (zeroValue t).run cfg.P w = .ok v w) ∧ Rep C μ z v := by
 unfold Cfg.zeroV at h
 split at h
 case h_2 => cases h
 rename_i ti hti
 obtain ⟨v, h1, h2, h3⟩ := qq5 (hc.ty _ _ hti)
 refine ⟨v, h1, ?_⟩
 split at h
 ·rename_i ha
  cases h
  rw [ha] at h3
  cases v with
  | agg cs =>
   have := qgg (C := C) (μ := μ) (.agg cs)
   rw [h2]; exact this
  | _ => simp [qfc] at h3
 ·rename_i ha
  have ha : qfc v = false := by rw [h3]; simpa using ha
  split at h
  ·rename_i hy
   cases h
   have hr := qaG (C := C) (μ := μ) v
   have : vW v = z := by
    rw [hy] at h2
    cases v with
    | agg cs => simp [qfc] at ha
    | _ => simpa [Value.cells] using h2.symm
   rw [← this]; exact hr
  ·cases h
theorem qm2 [Lent] (h : Wld C μ H w) {x : AV} {vx : Value} {es : List (AV × AV)} (he : qcC H x = some es) (hx : Rep C μ x vx) :
  (vx = .map none ∧ es = []) ∨ ∃ b arr clock, vx = .map (some b) ∧ w.heap[b]? = some (.map arr clock) ∧ qfT C μ es arr.toList := by
 unfold qcC at he
 split at he
 ·cases he; cases hx; exact .inl ⟨rfl, rfl⟩
 ·rename_i id
  split at he
  case h_2 => cases he
  rename_i es' hid
  cases he
  cases hx with
  | mp _ m hm =>
   obtain ⟨_, _, arr, clock, h1, h2, h3⟩ := h.liveM hid rfl hm
   exact .inr ⟨m.block, arr, clock, rfl, h1, by simpa using h2, fun i e me a1 a2 => h3 i e me a1 (by simpa using a2)⟩
 ·cases he
theorem qkl [Lent] {cfg : Cfg} (hc : CfgTy cfg) (h : Wld C μ H w) {t : TypeId} {x k r : AV} {ok : Bool} {vx vk : Value} (he : z5 cfg t x k ok H = some r) (hx : Rep C μ x vx) (hk : Rep C μ k vk) :
  ∃ v, (Instr.lookup t vx vk ok).run cfg.P w = .ok v w ∧ Rep C μ r v := by
 unfold z5 at he
 split at he
 case h_2 => cases he
 rename_i kt et ht
 split at he
 case h_2 => cases he
 rename_i d es hkd hes
 split at he
 case isFalse => cases he
 rename_i hkey
 obtain ⟨_, u, _, _, hu, hdd⟩ := hc.td ht
 have := qbm hdd; subst this
 obtain ⟨_, uk, _, _, huk, hdk⟩ := hc.td hkd
 have tupR : ∀ {a : AV} {v : Value} (b : Bool), Rep C μ a v → Rep C μ (if ok then .tup [a, .bool b] else a) (if ok then .tuple #[v, .bool b] else v) := by
  intro a v b ha
  cases ok with
  | false => exact ha
  | true =>
   refine .tup [a, .bool b] [v, .bool b] rfl (fun i a' v' h1 h2 => ?_)
   match i, h1, h2 with
   | 0, h1, h2 => simp at h1 h2; subst h1 h2; exact ha
   | 1, h1, h2 => simp at h1 h2; subst h1 h2; exact .bool _
   | (i + 2), h1, h2 => simp at h1
 have key : ∀ (arr : Array MapEntry), qfT C μ es arr.toList →
   (∃ j u, Instr.findNow uk vk arr.toList 0 = some (some (j, u)) ∧ Rep C μ r (if ok then .tuple #[u, .bool true] else u)) ∨
   (Instr.findNow uk vk arr.toList 0 = some none ∧ ∃ u, (∀ w, (zeroValue et).run cfg.P w = .ok u w) ∧ Rep C μ r (if ok then .tuple #[u, .bool false] else u)) := by
  intro arr hr
  split at he
  ·rename_i q hq
   cases he
   have := zq hdk hk es arr.toList 0 _ hr hq
   obtain ⟨j, a⟩ := q
   obtain ⟨me, _, _, g3, g4, _⟩ := this
   exact .inl ⟨j, me.val, g4, tupR true g3⟩
  ·rename_i hq
   have := zq hdk hk es arr.toList 0 _ hr hq
   split at he
   case h_2 => cases he
   rename_i z hz
   cases he
   obtain ⟨vz, hz1, hz2⟩ := qmB (C := C) (μ := μ) hc hz
   exact .inr ⟨this, vz, hz1, tupR false hz2⟩
  ·cases he
 have hck := fun b => qeK (w := w) huk hdk hkey b vk
 rcases qm2 h hes hx with ⟨rfl, rfl⟩ | ⟨b, arr, clock, rfl, hb, hr⟩
 ·rcases key #[] ⟨rfl, fun i e me a1 _ => by simp at a1⟩ with ⟨j, u, g1, g2⟩ | ⟨g1, u, g2, g3⟩
  ·exact ⟨_, by simp [Instr.findNow] at g1, g2⟩
  ·exact ⟨_, by simp [Instr.lookup, run_underlying hu, hck, Instr.findKey, run_underlying huk, Instr.findNow, g2], g3⟩
 ·rcases key arr hr with ⟨j, u, g1, g2⟩ | ⟨g1, u, g2, g3⟩
  ·exact ⟨_, by simp [Instr.lookup, run_underlying hu, qaC hb, hck, Instr.findKey, run_underlying huk, g1], g2⟩
  ·exact ⟨_, by simp [Instr.lookup, run_underlying hu, qaC hb, hck, Instr.findKey, run_underlying huk, g1, g2], g3⟩
theorem qev [Lent] {cfg : Cfg} (hc : CfgTy cfg) (h : Wld C μ H w) {t : TypeId} {x k v : AV} {vx vk vv : Value} (he : qax cfg t x k v H = some H') (hx : Rep C μ x vx) (hk : Rep C μ k vk) (hv : Rep C μ v vv) :
  ∃ w', (Instr.mapUpdate t vx vk vv).run cfg.P w = .ok () w' ∧ Wld C μ H' w' ∧ ∀ j, j ≤ H.length → Ext j C μ H w C μ H' w' := by
 unfold qax at he
 split at he
 case h_2 => cases he
 rename_i kt et id ht
 split at he
 case h_2 => cases he
 rename_i d d0 es hkd hid
 split at he
 case isFalse => cases he
 rename_i hkey
 have hfree := h.free.get hid
 obtain ⟨_, u, _, _, hu, hdd⟩ := hc.td ht
 have := qbm hdd; subst this
 obtain ⟨_, uk, _, _, huk, hdk⟩ := hc.td hkd
 have hck := fun b => qeK (w := w) huk hdk hkey b vk
 cases hx with
 | mp _ m hm =>
  obtain ⟨_, _, arr, clock, h1, h2, h3⟩ := h.liveM hid rfl hm
  have hr : qfT C μ es arr.toList := ⟨by simpa using h2, fun i e me a1 a2 => h3 i e me a1 (by simpa using a2)⟩
  split at he
  ·rename_i q hq
   cases he
   have := zq hdk hk es arr.toList 0 _ hr hq
   obtain ⟨j, a⟩ := q
   obtain ⟨me, _, g2, g3, g4, g5⟩ := this
   have g2 : arr[j]? = some me := by simpa using g2
   obtain ⟨p1, p2⟩ := qi9 h hid hm (d0 && (k.refsLt 0 && v.refsLt 0)) (es' := es.set j (k, v)) (fun hd i e a1 => by
    simp only [que] at hd
    rw [qur] at a1
    split at a1
    ·split at a1
     ·cases a1; exact hd.2
     ·cases a1
    ·exact hfree hd.1 i e a1) (arr := arr.modify j fun e => { e with key := vk, val := vv }) (c := clock) (by simpa using h2) (fun i e me' a1 a2 => by
    rw [qur] at a1
    rw [Array.getElem?_modify] at a2
    by_cases hij : j = i
    ·subst hij
     rw [if_pos rfl] at a1 a2
     rw [g2] at a2
     split at a1
     ·simp at a1 a2
      subst a1 a2
      exact ⟨hk, hv⟩
     ·cases a1
    ·rw [if_neg hij] at a1 a2
     exact h3 i e me' a1 a2)
   refine ⟨_, ?_, p1, p2⟩
   simp [Instr.mapUpdate, run_underlying hu, qaC h1, hck, Instr.findKey, run_underlying huk, g4, g2, Instr.keyThatStays, g5, qdM h1]
  ·rename_i hq
   cases he
   have := zq hdk hk es arr.toList 0 _ hr hq
   have this : Instr.findNow uk vk arr.toList 0 = some none := this
   obtain ⟨p1, p2⟩ := qi9 h hid hm (d0 && (k.refsLt 0 && v.refsLt 0)) (es' := es ++ [(k, v)]) (fun hd i e a1 => by
    simp only [que] at hd
    rw [List.getElem?_append] at a1
    split at a1
    ·exact hfree hd.1 i e a1
    ·rcases hn : i - es.length with _ | n
     ·rw [hn] at a1; simp at a1; subst a1; exact hd.2
     ·rw [hn] at a1; simp at a1) (arr := arr.push { key := vk, val := vv, born := clock }) (c := clock + 1) (by simp [h2]) (fun i e me' a1 a2 => by
    rw [List.getElem?_append] at a1
    rw [Array.getElem?_push] at a2
    by_cases hi : i < es.length
    ·rw [if_pos hi] at a1
     rw [if_neg (by omega)] at a2
     exact h3 i e me' a1 a2
    ·rw [if_neg hi] at a1
     by_cases hi2 : i = arr.size
     ·rw [if_pos hi2] at a2
      subst hi2
      simp [h2] at a1 a2
      subst a1 a2
      exact ⟨hk, hv⟩
     ·rw [if_neg hi2] at a2
      have : i < arr.size := (Array.getElem?_eq_some_iff.1 a2).1
      omega)
   refine ⟨_, ?_, p1, p2⟩
   simp [Instr.mapUpdate, run_underlying hu, qaC h1, hck, Instr.findKey, run_underlying huk, this, qdM h1]
  ·cases he
theorem qkc [Lent] {cfg : Cfg} (hc : CfgTy cfg) (h : Wld C μ H w) {nid : Option Nat} {t ty : TypeId} {rv : Option Operand} {x : Operand → AV} {ρ : Operand → Value} (hx : ∀ a, Rep C μ (x a) (ρ a)) {r : AV} (he : evOp cfg nid (.makeMap t rv) ty x H = some (r, H')) :
  Runs cfg.P (Instr.makeMap t (rv.map ρ)) C μ H w r H' := by
 simp only [evOp] at he
 split at he
 case h_2 => cases he
 rename_i kt et b ht hb
 split at he
 case h_2 => cases he
 rename_i k H1 hnew
 cases he
 obtain ⟨_, u, _, _, hu, hdd⟩ := hc.td ht
 have := qbm hdd; subst this
 have hrun : (Instr.makeMap t (rv.map ρ)).run cfg.P w = .ok (.map (some w.heap.size)) (w.alloc (.map #[] 0)) := by
  cases rv with
  | none => simp [Instr.makeMap]
  | some a =>
   have ha := hx a
   simp only at hb
   split at hb
   ·rename_i ik n hxa
    rw [hxa] at ha
    generalize hv : ρ a = va at ha
    cases ha
    simp [Instr.makeMap, run_underlying hu, hv, asInt, asIntOf]
   ·cases hb
 have hnl : ¬ Live H μ w.heap.size := fun hl => Nat.lt_irrefl _ (h.live_lt hl)
 have hnc : ∀ o, C w.heap.size o = none := fun o => by
  cases hc : C w.heap.size o with
  | none => rfl
  | some v => exact absurd (h.block_lt hc) (Nat.lt_irrefl _)
 have old : ∀ b, b < w.heap.size → (w.alloc (.map #[] 0)).heap[b]? = w.heap[b]? := fun b hb => by
  show (w.heap.push _)[b]? = _
  rw [Array.getElem?_push, if_neg (by omega)]
 have hsz : (w.alloc (.map #[] 0)).heap.size = w.heap.size + 1 := by simp
 have hw' : Wld C μ H (w.alloc (.map #[] 0)) := h.world (by rw [hsz]; omega) (fun b hb => old b hb)
 obtain ⟨e1, e2, e3, e4, e5⟩ := hw'.new4 (B := w.heap.size) (b0 := 0) (n0 := 0) (z0 := 0) hnew hnl (by rw [hsz]; simp) hnc (h.lent_none (qum _)) rfl
  ⟨#[], 0, by show (w.heap.push _)[w.heap.size]? = _; simp, rfl, fun i e me a1 _ => by simp at a1⟩ (fun _ i e a1 => by simp at a1)
 refine ⟨_, _, C, _, hrun, .mp k (MI.mk4 w.heap.size 0 0 0) (by unfold upd; rw [if_pos rfl]), e1, rfl, rfl, rfl, by rw [hsz]; omega, fun _ _ _ h => h, fun id m' _ hm' => ⟨_, e2 id m' hm', .refl _⟩, fun b hb hnl => ⟨old b hb, fun hl => ?_, rfl⟩, e3⟩
 rcases e4 b hl with hl | hl
 ·exact hnl hl
 ·omega
variable {C C' : qd} {μ μ' : MMap} {H H' : AH} {w w' : World} {P : Program}
def qst [Lent] (C : qd) (μ : MMap) (r : AV) (n : Next) : Prop := (∃ v, n = .value v ∧ Rep C μ r v) ∨ (n = .skip ∧ r = .junk)
def qcN [Lent] (P : Program) (s : Sem Next) (C : qd) (μ : MMap) (H : AH) (w : World) (a : AV) (H' : AH) : Prop :=
 ∃ n w' C' μ', s.run P w = .ok n w' ∧ qst C' μ' a n ∧ Wld C' μ' H' w' ∧ Ext H.length C μ H w C' μ' H' w'
theorem Runs.v [Lent] {s : Sem Value} {a : AV} (h : Runs P s C μ H w a H') : qcN P (do pure (.value (← s))) C μ H w a H' := by
 obtain ⟨v, w', C', μ', h1, h2, h3, h4⟩ := h
 exact ⟨.value v, w', C', μ', by simp [h1], .inl ⟨v, rfl, h2⟩, h3, h4⟩
theorem qcN.pure' [Lent] (h : Wld C μ H w) {v : Value} {a : AV} (hr : Rep C μ a v) : qcN P (pure (.value v)) C μ H w a H :=
 ⟨.value v, w, C, μ, by simp, .inl ⟨v, rfl, hr⟩, h, Ext.refl (qum _)⟩
theorem Runs.opt [Lent] (h : Wld C μ H w) {s : Sem Value} {x : Option AV} {r : AV} (he : (x.map fun v => (v, H)) = some (r, H')) (hr : ∀ r, x = some r → ∃ v, s.run P w = .ok v w ∧ Rep C μ r v) : Runs P s C μ H w r H' := by
 obtain ⟨y, hy, hy2⟩ := quk.1 he
 cases hy2
 exact Runs.pure' h (hr _ hy)
theorem qgM [Lent] {x : Operand → AV} {ρ : Operand → Value} (hx : ∀ a, Rep C μ (x a) (ρ a)) (l : List Operand) :
  ∀ (i : Nat) a v, (l.map x)[i]? = some a → (l.map ρ)[i]? = some v → Rep C μ a v := by
 intro i a v h1 h2
 obtain ⟨o, ho, rfl⟩ := qi h1
 obtain ⟨o', ho', rfl⟩ := qi h2
 rw [ho] at ho'; cases ho'
 exact hx _
theorem qkz {α : Type} {a : Array α} {x : α} (h : a.toList = [x]) : a = #[x] := by rw [← Array.toArray_toList (xs := a), h]
theorem qoG {α : Type} {a : Array α} {x y : α} (h : a.toList = [x, y]) : a = #[x, y] := by rw [← Array.toArray_toList (xs := a), h]
theorem map1 {α β : Type} {a : Array α} {x : α} (f : α → β) (h : a.toList = [x]) : a.map f = #[f x] := by rw [qkz h]; simp
theorem map2 {α β : Type} {a : Array α} {x y : α} (f : α → β) (h : a.toList = [x, y]) : a.map f = #[f x, f y] := by rw [qoG h]; simp
theorem qkk [Lent] {cfg : Cfg} (hc : CfgTy cfg) (h : Wld C μ H w) {nid : Option Nat} {c : Call} {ty : TypeId} {x : Operand → AV} {ρ : Operand → Value} (hx : ∀ a, Rep C μ (x a) (ρ a)) {r : AV}
  (he : evOp cfg nid (.call c) ty x H = some (r, H')) : qcN cfg.P (do let d ← resolve ρ c ty; invoke d.target d.args) C μ H w r H' := by
 obtain ⟨callee, args, argTypes⟩ := c
 simp only [evOp] at he
 have go : ∀ b, callee = .builtin b → ∀ s : Sem Value, (∀ consts vs, vs = args.map ρ → builtin b argTypes ty consts vs = (do pure (.value (← s)))) → Runs cfg.P s C μ H w r H' →
   qcN cfg.P (do let d ← resolve ρ ⟨callee, args, argTypes⟩ ty; invoke d.target d.args) C μ H w r H' := by
  intro b hb s hs hr
  subst hb
  have := hr.v
  obtain ⟨n, w', C', μ', h1, h2⟩ := this
  refine ⟨n, w', C', μ', ?_, h2⟩
  simp only [resolve, Sem.run_bind, Sem.run_pure, Result.andThen_ok, invoke]
  rw [hs _ _ rfl]
  exact h1
 split at he
 ·rename_i a t ha ht
  refine go _ rfl (Builtin.len_ argTypes ty (args.map ρ)) (fun consts vs hv => by subst hv; rfl) (Runs.opt h he fun r hr => ?_)
  rw [map1 _ ha, qkz ht]
  exact qpp hc h hr (hx a).unwr
 ·rename_i a t ha ht
  refine go _ rfl (Builtin.cap_ argTypes ty (args.map ρ)) (fun consts vs hv => by subst hv; rfl) (Runs.opt h he fun r hr => ?_)
  rw [map1 _ ha, qkz ht]
  exact qpq hc hr (hx a)
 ·rename_i s a t xt ha ht
  refine go _ rfl (Builtin.append_ argTypes ty (args.map ρ)) (fun consts vs hv => by subst hv; rfl) ?_
  rw [map2 _ ha, qoG ht]
  exact qkm hc h he (hx s) (hx a)
 ·rename_i d s t xt ha ht
  refine go _ rfl (Builtin.copy_ argTypes ty (args.map ρ)) (fun consts vs hv => by subst hv; rfl) ?_
  rw [map2 _ ha, qoG ht]
  exact qnB hc h he (hx d).unwr (hx s)
 ·rename_i a t ha ht
  obtain ⟨H1, h1, h2⟩ := quk.1 he
  cases h2
  refine go _ rfl (Builtin.clear_ argTypes ty (args.map ρ)) (fun consts vs hv => by subst hv; rfl) ?_
  rw [map1 _ ha, qkz ht]
  exact qmv hc h h1 (hx a)
 ·rename_i a b ha
  refine go _ rfl (Builtin.min_ argTypes ty (args.map ρ)) (fun consts vs hv => by subst hv; rfl) (Runs.opt h he fun r hr => ?_)
  have := qiQ (P := cfg.P) (w := w) (f := Builtin.min2) (fun k k' a b => by simp [Builtin.min2]) hr (hx a) (hx b)
  rw [map2 _ ha]
  exact this
 ·rename_i a b ha
  refine go _ rfl (Builtin.max_ argTypes ty (args.map ρ)) (fun consts vs hv => by subst hv; rfl) (Runs.opt h he fun r hr => ?_)
  have := qiQ (P := cfg.P) (w := w) (f := Builtin.max2) (fun k k' a b => by simp [Builtin.max2]) hr (hx a) (hx b)
  rw [map2 _ ha]
  exact this
 ·cases he
theorem qiu [Lent] {cfg : Cfg} (hc : CfgTy cfg) (h : Wld C μ H w) {nid : Option Nat} {o : Oper} {x : Operand → AV} {ρ : Operand → Value} (hx : ∀ a, Rep C μ (x a) (ρ a)) {r : AV} (he : evOp cfg nid o.op o.type x H = some (r, H')) :
  qcN cfg.P (execOp ρ o) C μ H w r H' := by
 obtain ⟨dst, op, ty, pos, after, guard⟩ := o
 simp only at he
 cases op with
 | move a => simp only [evOp] at he; cases he; exact .pure' h (hx a)
 | assign a => simp only [evOp] at he; cases he; exact .pure' h (hx a)
 | pick c a b =>
  simp only [evOp] at he
  split at he
  case h_2 => cases he
  rename_i t ht
  have hcv := hx c
  rw [ht] at hcv
  generalize hv : ρ c = vc at hcv
  cases hcv
  cases t
  ·cases he
   refine ⟨.value (ρ b), w, C, μ, ?_, .inl ⟨_, rfl, hx b⟩, h, Ext.refl (qum _)⟩
   simp only [execOp, hv]; simp [asBool]
  ·cases he
   refine ⟨.value (ρ a), w, C, μ, ?_, .inl ⟨_, rfl, hx a⟩, h, Ext.refl (qum _)⟩
   simp only [execOp, hv]; simp [asBool]
 | alloc t => exact (qny hc h he).v
 | box t a => exact (qqI h (hx a) he).v
 | build t parts =>
  obtain ⟨rfl, v, h1, h2⟩ := qnx (w := w) hc hx he
  exact (Runs.pure' h ⟨v, h1, h2⟩).v
 | buildSlice t len parts => exact (qgY hc h hx he).v
 | load t a =>
  simp only [evOp] at he
  split at he
  case h_2 => cases he
  rename_i ti hti
  refine (Runs.opt h he fun r hr => ?_).v
  obtain ⟨ad, u, h1, h2, h3⟩ := qhV h (hc.ty _ _ hti) (hx a) hr
  exact ⟨u, by rw [h1]; exact h2, h3⟩
 | store t a v =>
  simp only [evOp] at he
  split at he
  case h_2 => cases he
  rename_i n hn
  obtain ⟨H1, h1, h2⟩ := quk.1 he
  cases h2
  obtain ⟨ti, hti, rfl⟩ := hc.sz hn
  obtain ⟨ad, w', e1, e2, e3, e4⟩ := qmL h hti (hx a) (hx v) h1
  refine ⟨.skip, w', C, μ, ?_, .inr ⟨rfl, rfl⟩, e3, e4 _ (qum _)⟩
  have : (Instr.storeAt t (ρ a) (ρ v)).run cfg.P w = .ok () w' := by rw [e1]; exact e2
  simp [execOp, this]
 | nilCheck a =>
  simp only [evOp] at he
  have ha := hx a
  split at he
  ·rename_i id r off hxa; cases he
   rw [hxa] at ha
   generalize hv : ρ a = va at ha
   cases ha with | ptr _ _ _ m hm =>
    rw [show execOp ρ ⟨dst, .nilCheck a, ty, pos, after, guard⟩ = pure (.value (ρ a)) by simp only [execOp, hv], hv]
    exact .pure' h (.ptr _ _ _ m hm)
  ·rename_i cs off hxa; cases he
   rw [hxa] at ha
   generalize hv : ρ a = va at ha
   cases ha with | cptr _ _ b o vals h1 h2 =>
    rw [show execOp ρ ⟨dst, .nilCheck a, ty, pos, after, guard⟩ = pure (.value (ρ a)) by simp only [execOp, hv], hv]
    exact .pure' h (.cptr _ _ b o vals h1 h2)
  ·rename_i f p q hxa; cases he
   rw [hxa] at ha
   generalize hv : ρ a = va at ha
   cases ha with | fn _ _ _ vf vc h1 h2 h3 h4 =>
    rw [show execOp ρ ⟨dst, .nilCheck a, ty, pos, after, guard⟩ = pure (.value (ρ a)) by simp only [execOp, hv], hv]
    exact .pure' h (.fn _ _ _ vf vc h1 h2 h3 h4)
  ·rename_i id hxa; cases he
   rw [hxa] at ha
   generalize hv : ρ a = va at ha
   cases ha with | mp _ m hm =>
    rw [show execOp ρ ⟨dst, .nilCheck a, ty, pos, after, guard⟩ = pure (.value (ρ a)) by simp only [execOp, hv], hv]
    exact .pure' h (.mp _ m hm)
  ·rename_i id hxa; cases he
   rw [hxa] at ha
   generalize hv : ρ a = va at ha
   cases ha with | yld _ m hm =>
    rw [show execOp ρ ⟨dst, .nilCheck a, ty, pos, after, guard⟩ = pure (.value (ρ a)) by simp only [execOp, hv], hv]
    exact .pure' h (.yld _ m hm)
  ·cases he
 | binOp op t a b yt =>
  simp only [evOp] at he
  exact (Runs.opt h he fun r hr => qpr hc a b hr (hx a) (hx b)).v
 | unOp op t a =>
  simp only [evOp] at he
  exact (Runs.opt h he fun r hr => qqL hr (hx a)).v
 | convert s d a => exact (qjp hc h he (hx a)).v
 | makeFunc f first caps =>
  simp only [evOp] at he
  cases he
  refine (Runs.pure' h ⟨.func f (first.map ρ) (caps.map ρ), by simp [Instr.makeFunc], ?_⟩).v
  have := Rep.fn (C := C) (μ := μ) f (first.toList.map x) (caps.toList.map x) (first.toList.map ρ) (caps.toList.map ρ) (by simp) (by simp) (qgM hx _) (qgM hx _)
  have ea : ∀ a : Array Operand, (a.toList.map ρ).toArray = a.map ρ := fun a => by rw [← Array.toList_map, Array.toArray_toList]
  rw [ea, ea] at this
  exact this
 | makeSlice t l c => exact (qmr hc h he (hx l) (hx c)).v
 | slice t a lo hi mx =>
  simp only [evOp] at he
  exact (Runs.opt h he fun r hr => qmq hc h hx lo hi mx hr (hx a)).v
 | fieldAddr t a f =>
  simp only [evOp] at he
  exact (Runs.opt h he fun r hr => qg3 hc hr (hx a)).v
 | field t a f =>
  simp only [evOp] at he
  exact (Runs.opt h he fun r hr => qmu hc hr (hx a)).v
 | indexAddr t a i =>
  simp only [evOp] at he
  exact (Runs.opt h he fun r hr => qg2 hc h hr (hx a).unwr (hx i)).v
 | index t a i =>
  simp only [evOp] at he
  exact (Runs.opt h he fun r hr => qmt hc hr (hx a) (hx i)).v
 | extract t i =>
  simp only [evOp] at he
  split at he
  case h_2 => cases he
  rename_i vs hxt
  have ha := hx t
  rw [hxt] at ha
  generalize hv : ρ t = va at ha
  refine (Runs.opt h he fun r hr => ?_).v
  cases ha with
  | tup _ us hl hr' =>
   have hlt : i < us.length := by rw [← hl]; exact (quh.1 hr).1
   exact ⟨us[i], by simp [Instr.extract, hv, hlt], hr' i r _ hr (quj hlt)⟩
 | call c => exact qkk hc h hx he
 | makeMap t rv => exact (qkc (ty := ty) hc h hx he).v
 | lookup t a k ok =>
  simp only [evOp] at he
  exact (Runs.opt h he fun r hr => qkl hc h hr (hx a) (hx k)).v
 | mapUpdate t m k v =>
  simp only [evOp] at he
  obtain ⟨H1, h1, h2⟩ := quk.1 he
  cases h2
  obtain ⟨w', e2, e3, e4⟩ := qev hc h h1 (hx m) (hx k) (hx v)
  exact ⟨.skip, w', C, μ, by simp [execOp, e2], .inr ⟨rfl, rfl⟩, e3, e4 _ (qum _)⟩
 | insert t m k v =>
  simp only [evOp] at he
  obtain ⟨H1, h1, h2⟩ := quk.1 he
  cases h2
  obtain ⟨w', e2, e3, e4⟩ := qev hc h h1 (hx m) (hx k) (hx v)
  exact ⟨.skip, w', C, μ, by simp [execOp, e2], .inr ⟨rfl, rfl⟩, e3, e4 _ (qum _)⟩
 | _ => simp only [evOp] at he; cases he
variable {C C' C1 C2 : qd} {μ μ' μ1 : MMap} {H H' H1 : AH} {w w' w1 : World} {P : Program}
theorem ql1 [Lent] (h : Wld C μ H w) (id : Nat) : ∃ C', (∀ b o v, C b o = some v → C' b o = some v) ∧ Wld C' μ (vL H id) w ∧ (∀ k, k ≤ H.length → Ext k C μ H w C' μ (vL H id) w) := by
 unfold vL
 split
 ·rename_i sz rs hid; exact h.freeze hid
 ·exact ⟨C, fun _ _ _ h => h, h, fun k hk => Ext.refl hk⟩
theorem qik (H : AH) (id : Nat) : (vL H id).length = H.length := by
 unfold vL; split <;> simp
theorem qbf (ids : List Nat) : ∀ H : AH, (qR ids H).length = H.length := by
 induction ids with
 | nil => intro H; rfl
 | cons i l ih => intro H; show (qR l (vL H i)).length = _; rw [ih, qik]
theorem vN [Lent] : ∀ (ids : List Nat) {C : qd} {H : AH}, Wld C μ H w → ∃ C', (∀ b o v, C b o = some v → C' b o = some v) ∧ Wld C' μ (qR ids H) w ∧ (∀ k, k ≤ H.length → Ext k C μ H w C' μ (qR ids H) w)
 | [], C, H, h => ⟨C, fun _ _ _ h => h, h, fun k hk => Ext.refl hk⟩
 | i :: l, C, H, h => by
  obtain ⟨C1, a1, a2, a3⟩ := ql1 h i
  obtain ⟨C2, b1, b2, b3⟩ := vN l a2
  exact ⟨C2, fun b o v hh => b1 b o v (a1 b o v hh), b2, fun k hk => (a3 k hk).trans (b3 k (by rw [qik]; exact hk)) (qum _)⟩
theorem qnl {b : ABlk} {l : AH} {i : Nat} (h : i ≠ 0) : ∃ l', vL (b :: l) i = b :: l' := by
 unfold vL
 split
 ·cases i with
  | zero => exact absurd rfl h
  | succ i => exact ⟨_, rfl⟩
 ·exact ⟨l, rfl⟩
theorem qck {b : ABlk} : ∀ (ids : List Nat) {l : AH}, qbW ids = true → ∃ l', qR ids (b :: l) = b :: l'
 | [], l, _ => ⟨l, rfl⟩
 | i :: ids, l, h => by
  rw [qbW, que] at h
  have hi : i ≠ 0 := by
   intro e; subst e; simp at h
  obtain ⟨l1, h1⟩ := qnl (b := b) (l := l) hi
  have : qR (i :: ids) (b :: l) = qR ids (vL (b :: l) i) := rfl
  rw [this, h1]
  exact qck ids h.2
theorem qno {id i sz : Nat} {d : Bool} {rs : List (List AV)} (h : H[id]? = some (.froz d sz rs)) : (vL H i)[id]? = some (.froz d sz rs) := by
 unfold vL
 split
 ·rename_i s r hi
  rw [qur]
  split
  ·rename_i e; subst e; rw [h] at hi; cases hi
  ·exact h
 ·exact h
theorem qff {id sz : Nat} {d : Bool} {rs : List (List AV)} : ∀ (ids : List Nat) {H : AH}, H[id]? = some (.froz d sz rs) → (qR ids H)[id]? = some (.froz d sz rs)
 | [], _, h => h
 | _ :: l, _, h => qff l (qno h)
theorem qnn {id i : Nat} : qX (vL H i) id = qX H id := by
 unfold vL
 split
 ·rename_i s r hi
  unfold qX
  rw [qur]
  by_cases e : i = id
  ·subst e
   have := (quh.1 hi).1
   rw [if_pos rfl, if_pos this, hi]
  ·rw [if_neg e]
 ·rfl
theorem qnp {id i : Nat} : xk (vL H i) id = xk H id := by
 unfold vL
 split
 ·rename_i s r hi
  unfold xk
  rw [qur]
  by_cases e : i = id
  ·subst e
   have := (quh.1 hi).1
   rw [if_pos rfl, if_pos this, hi]
  ·rw [if_neg e]
 ·rfl
theorem qnm {id sz : Nat} {rs : List (List AV)} (h : qX H id = some (sz, rs)) : (vL H id)[id]? = some (.froz (xk H id) sz rs) := by
 unfold qX at h
 unfold vL xk
 split at h
 ·rename_i s r hi
  cases h
  have := (quh.1 hi).1
  simp only [hi]
  rw [qur, if_pos rfl, if_pos this]
 ·rename_i s r hi
  cases h
  simp only [hi]
 ·cases h
theorem qc8 {id sz : Nat} {rs : List (List AV)} : ∀ {ids : List Nat} {H : AH}, qX H id = some (sz, rs) → id ∈ ids → (qR ids H)[id]? = some (.froz (xk H id) sz rs)
 | [], _, _, hi => by cases hi
 | i :: l, H, h, hi => by
  by_cases e : id = i
  ·subst e; exact qff l (qnm h)
  ·show (qR l (vL H i))[id]? = _
   rw [← qnp (i := i)]
   exact qc8 (by rw [qnn]; exact h) ((quH.1 hi).resolve_left e)
theorem qpM [Lent] {m : MI} {sz off len cap : Nat} {rs : List (List AV)} {a : Addr} (hf : qbw C μ m sz rs) (hle : off + len ≤ rs.length) (hl : len ≤ cap) (ha : cap ≠ 0 → a = ⟨m.block, m.base + off * m.sz, none⟩ ∧ (off + cap) * m.sz ≤ m.size) (hfr : qA 0 ((rs.drop off).take len) = true) :
  Rep C μ (.sl ((rs.drop off).take len)) (.slice (some a) len cap) := by
 obtain ⟨hsz, _, hrows⟩ := hf
 have hlen : ((rs.drop off).take len).length = len := by simp; omega
 have get : ∀ (i : Nat) row, ((rs.drop off).take len)[i]? = some row → i < len ∧ rs[off + i]? = some row := fun i row h => q7 h
 have addr : ∀ (i : Nat) row, ((rs.drop off).take len)[i]? = some row → a = ⟨m.block, m.base + off * m.sz, none⟩ := fun i row h => (ha (by have := (get i row h).1; omega)).1
 have cell : ∀ (i j : Nat) row x, ((rs.drop off).take len)[i]? = some row → row[j]? = some x → x.isCell = true ∧ ∃ v, C a.block (a.off + i * sz + j) = some v ∧ Rep C μ x v := by
  intro i j row x hi hj
  obtain ⟨_, hr⟩ := get i row hi
  obtain ⟨e1, v, e2, e3⟩ := (hrows _ row hr).2 j x hj
  refine ⟨e1, v, ?_, e3⟩
  rw [addr i row hi]
  rw [← e2]
  simp only
  congr 1
  rw [hsz, Nat.add_mul]; omega
 have := Rep.sl (C := C) (μ := μ) ((rs.drop off).take len) a cap sz (fun i j => (C a.block (a.off + i * sz + j)).getD undef)
  (fun hne => by
   cases hx : (rs.drop off).take len with
   | nil => exact absurd hx hne
   | cons r l => rw [addr 0 r (by rw [hx]; rfl)])
  (fun i row hi => (hrows _ row (get i row hi).2).1)
  (fun i j row x hi hj => by obtain ⟨_, v, e2, _⟩ := cell i j row x hi hj; rw [e2]; rfl)
  (fun i j row x hi hj => by obtain ⟨_, v, e2, e3⟩ := cell i j row x hi hj; rw [e2]; exact e3)
  (fun i j row x hi hj => (cell i j row x hi hj).1)
  (by rw [hlen]; exact hl) hfr
 rw [hlen] at this
 exact this
def xm [Lent] (C : qd) (μ : MMap) (H : AH) (ids : List Nat) : Prop := ∀ id sz rs, id ∈ ids → qX H id = some (sz, rs) → (∀ m, μ id = some m → qbw C μ m sz rs) ∧ (xk H id = true → qA 0 rs = true)
theorem xm.of [Lent] {ids : List Nat} (h : Wld C μ (qR ids H) w) : xm C μ H ids := fun id sz rs hi hb => by
 exact ⟨(h.froz id _ sz rs (qc8 hb hi)).2, h.free.get (qc8 hb hi)⟩
theorem Rep.frz1 [Lent] {ids : List Nat} {a : AV} {v : Value} (hf : xm C μ H ids) (h : Rep C μ a v) : Rep C μ (a.frz1 ids H) v := by
 cases a with
 | ms id off len =>
  simp only [AV.frz1]
  split
  ·rename_i sz rs hb
   split
   ·rename_i hc
    rw [que, que, quJ, vC, Bool.or_eq_true] at hc
    obtain ⟨hfr, hfr2⟩ := hf id sz rs hc.1.1 hb
    cases h with
    | msN _ _ => simpa using Rep.slNil
    | ms _ _ _ cap ad m' hm' hl ha =>
     exact qpM (hfr m' hm') hc.1.2 hl ha (hc.2.elim (fun hd => ym (zG (hfr2 hd))) (fun h => h))
   ·exact h
  ·exact h
 | _ => exact h
theorem Rep.frzA [Lent] {ids : List Nat} {a : AV} {v : Value} (hf : xm C μ H ids) (h : Rep C μ a v) : Rep C μ (a.frz ids H) v := by
 cases a with
 | agg cs =>
  cases h with
  | agg _ vs hl hr =>
   exact .agg _ vs (by simpa using hl) (fun i a v h1 h2 => by
    obtain ⟨b, hb, rfl⟩ := qi h1
    exact (hr i b v hb h2).frz1 hf)
 | tup cs =>
  cases h with
  | tup _ vs hl hr =>
   exact .tup _ vs (by simpa using hl) (fun i a v h1 h2 => by
    obtain ⟨b, hb, rfl⟩ := qi h1
    exact (hr i b v hb h2).frz1 hf)
 | _ => exact Rep.frz1 hf h
theorem Rep.frzWA [Lent] {ids : List Nat} {a : AV} {v : Value} (hf : xm C μ H ids) (h : Rep C μ a v) : Rep C μ (a.frzW ids H) v := by
 by_cases hw : ∃ n id off len, a = .wr n (.ms id off len)
 ·obtain ⟨n, id, off, len, rfl⟩ := hw
  cases h with
  | wr _ _ ad c hn h1 => exact .wr n _ ad c hn (Rep.frz1 hf h1)
 ·have : a.frzW ids H = a.frz ids H := by
   cases a with
   | wr n b => cases b <;> first | rfl | exact absurd ⟨_, _, _, _, rfl⟩ hw
   | _ => rfl
  rw [this]; exact h.frzA hf
theorem Rep0.rep [Lent] {D : qd} {a : AV} {v : Value} (hD : ∀ b o v, D b o = some v → C b o = some v) (h : Rep0 D a v) : Rep C μ a v := by
 induction h with
 | int k n => exact .int k n
 | bool b => exact .bool b
 | str s => exact .str s
 | nilS => exact .nilS
 | slNil => exact .slNil
 | em a cap => exact .em a cap
 | sl rows a cap sz vals hs hsz hc _ hcell hcap hfree ih => exact .sl rows a cap sz vals hs hsz (fun i j row x h1 h2 => hD _ _ _ (hc i j row x h1 h2)) ih hcell hcap hfree
def RegC (C : qd) (μ : MMap) (H : AH) : Prop := ∀ (id : Nat) m, H[id]? = some .reg → μ id = some m → ∀ b o v, m.D b o = some v → C b o = some v
open Classical in
noncomputable def yr (C : qd) (μ : MMap) (H : AH) (w : World) : qd := fun b o =>
 match C b o with
 | some v => some v
 | none => if ∃ (id : Nat) (m : MI), H[id]? = some .reg ∧ μ id = some m ∧ m.D b o ≠ none then w.cell? ⟨b, o, none⟩ else none
theorem qhg {b o : Nat} {v : Value} (h : C b o = some v) : yr C μ H w b o = some v := by unfold yr; rw [h]
theorem qkT (hc : ∀ b o v, C b o = some v → w.cell? ⟨b, o, none⟩ = some v) {b o : Nat} {v : Value} (h : yr C μ H w b o = some v) : w.cell? ⟨b, o, none⟩ = some v := by
 unfold yr at h
 split at h
 ·rename_i u hu
  cases h
  exact hc _ _ _ hu
 ·split at h
  ·exact h
  ·cases h
theorem qmG [Lent] (h : Wld C μ H w) (hc : ∀ b o v, C1 b o = some v → w.cell? ⟨b, o, none⟩ = some v) : RegC (yr C1 μ H w) μ H := by
 intro id m hi hm b o v hd
 have hreg := (h.liveM hi rfl hm).2.2
 have hcell := (hreg b o v hd).1
 unfold yr
 split
 ·rename_i u hu
  rw [hc _ _ _ hu] at hcell; exact hcell
 ·rw [if_pos ⟨id, m, hi, hm, by rw [hd]; simp⟩]
  exact hcell
theorem qmF [Lent] (h : Wld C μ H w) {b : Nat} (hc : ∀ o v, C1 b o = some v → w.frozen? ⟨b, o, none⟩ = false) {o : Nat} {v : Value} (hh : yr C1 μ H w b o = some v) : w.frozen? ⟨b, o, none⟩ = false := by
 unfold yr at hh
 split at hh
 ·rename_i u hu
  exact hc _ _ hu
 ·split at hh
  ·rename_i hex
   obtain ⟨id, m, hi, hm, hd⟩ := hex
   cases hd' : m.D b o with
   | none => exact absurd hd' hd
   | some u => exact ((h.liveM hi rfl hm).2.2 b o u hd').2
  ·cases hh
theorem xm.mono [Lent] {ids : List Nat} (hC : ∀ b o v, C b o = some v → C' b o = some v) (h : xm C μ H ids) : xm C' μ H ids := fun id sz rs hi hb => by
 obtain ⟨h1, h2⟩ := h id sz rs hi hb
 refine ⟨fun m hm => ?_, h2⟩
 obtain ⟨a1, a2, a3⟩ := h1 m hm
 exact ⟨a1, a2, a3.mono hC (fun _ _ h => h) (fun i j row x hi hj => by
  obtain ⟨_, v, hv, _⟩ := (a3 i row hi).2 j x hj
  exact (hC _ _ _ hv).trans hv.symm)⟩
theorem Rep.snap1 [Lent] {ids : List Nat} (hrg : RegC C μ H) (hid : ∀ id, id < H.length → id ∈ ids) {a : AV} {v : Value} (hf : xm C μ H ids) (h : Rep C μ a v) : Rep C μ (a.snap1 H) v := by
 have hlt : ∀ id sz rs, qX H id = some (sz, rs) → id ∈ ids := by
  intro id sz rs hb
  refine hid id ?_
  unfold qX at hb
  cases hh : H[id]? with
  | none => rw [hh] at hb; cases hb
  | some b => exact (quh.1 hh).1
 cases a with
 | ms id off len =>
  simp only [AV.snap1]
  exact Rep.frz1 (ids := [id]) (fun id' sz rs hi hb => hf id' sz rs (hlt _ _ _ hb) hb) h
 | ptr id r off =>
  simp only [AV.snap1]
  split
  ·rename_i sz rs hb
   split
   ·rename_i row hrow
    cases h with
    | ptr _ _ _ m hm =>
     obtain ⟨hsz, _, hrows⟩ := (hf id sz rs (hlt _ _ _ hb) hb).1 m hm
     have cell : ∀ (j : Nat) x, row[j]? = some x → ∃ v, C m.block (m.base + r * m.sz + j) = some v ∧ Rep C μ x v := by
      intro j x hj
      obtain ⟨_, v, e2, e3⟩ := (hrows r row hrow).2 j x hj
      refine ⟨v, ?_, e3⟩
      rw [← e2, hsz]
      simp only
      congr 1; omega
     have cell : ∀ (j : Nat) x, (qiC row)[j]? = some x → ∃ v, C m.block (m.base + r * m.sz + j) = some v ∧ Rep C μ x v := by
      intro j x hj
      unfold qiC at hj
      split at hj
      ·exact cell j x hj
      ·obtain ⟨y, hy, rfl⟩ := qi hj
       obtain ⟨v, e2, e3⟩ := cell j y hy
       refine ⟨v, e2, ?_⟩
       unfold AV.data1
       split
       ·exact e3
       ·exact .junk v
     exact .cptr (qiC row) off m.block (m.base + r * m.sz) (fun j => (C m.block (m.base + r * m.sz + j)).getD undef)
      (fun j x hj => by obtain ⟨v, e2, _⟩ := cell j x hj; rw [e2]; rfl) (fun j x hj => by obtain ⟨v, e2, e3⟩ := cell j x hj; rw [e2]; exact e3)
   ·exact h
  ·exact h
 | rsl id rows =>
  simp only [AV.snap1]
  split
  ·rename_i hi
   cases h with
   | rsl _ _ _ D hD h0 =>
    by_cases hne : rows = []
    ·subst hne; exact h0.ofEmp
    ·obtain ⟨m, hm, rfl⟩ := hD hne
     exact h0.rep (hrg id m hi hm)
  ·exact h
 | _ => exact h
theorem Rep.snapA [Lent] {ids : List Nat} (hrg : RegC C μ H) (hid : ∀ id, id < H.length → id ∈ ids) {a : AV} {v : Value} (hf : xm C μ H ids) (h : Rep C μ a v) : Rep C μ (a.snap H) v := by
 cases a with
 | agg cs =>
  cases h with
  | agg _ vs hl hr =>
   exact .agg _ vs (by simpa using hl) (fun i a v h1 h2 => by
    obtain ⟨b, hb, rfl⟩ := qi h1
    exact (hr i b v hb h2).snap1 hrg hid hf)
 | fn f p q =>
  cases h with
  | fn _ _ _ vf vc hl1 hl2 h1 h2 =>
   exact .fn f _ _ vf vc (by simpa using hl1) (by simpa using hl2) (fun i a v e1 e2 => by
    obtain ⟨b, hb, rfl⟩ := qi e1
    exact (h1 i b v hb e2).snap1 hrg hid hf) (fun i a v e1 e2 => by
    obtain ⟨b, hb, rfl⟩ := qi e1
    exact (h2 i b v hb e2).snap1 hrg hid hf)
 | _ => exact Rep.snap1 hrg hid hf h
theorem Rep.fgA [Lent] {a : AV} {v : Value} (h : Rep C μ a v) : Rep C μ a.fg v := by
 cases a with
 | agg cs => cases h with | agg _ vs hl hr => exact .agg _ vs (by simpa using hl) (fun i a v h1 h2 => by obtain ⟨b, hb, rfl⟩ := qi h1; exact (hr i b v hb h2).fg1)
 | tup cs => cases h with | tup _ vs hl hr => exact .tup _ vs (by simpa using hl) (fun i a v h1 h2 => by obtain ⟨b, hb, rfl⟩ := qi h1; exact (hr i b v hb h2).fg1)
 | _ => exact h.fg1
theorem qo.fg [Lent] {args : List AV} {vs : Array Value} (h : qo C μ args vs) : qo C μ (args.map AV.fg) vs := ⟨by simpa using h.1, fun i a v h1 h2 => by
 obtain ⟨b, hb, rfl⟩ := qi h1
 exact (h.2 i b v hb h2).fgA⟩
theorem Rep.scalar1 [Lent] {a : AV} {v : Value} (hs : a.scalar1 = true) (h : Rep C μ a v) : Rep C' μ' a v := by
 cases h with
 | int k n => exact .int k n
 | bool b => exact .bool b
 | str s => exact .str s
 | nilS => exact .nilS
 | nilP => exact .nilP
 | _ => simp [AV.scalar1] at hs
theorem qgd {l : List AV} (h : qfE l = true) {i : Nat} {a : AV} (ha : l[i]? = some a) : a.scalar1 = true := by
 induction l generalizing i with
 | nil => simp at ha
 | cons b l ih =>
  rw [qfE, que] at h
  cases i with
  | zero => simp at ha; subst ha; exact h.1
  | succ i => exact ih h.2 (by simpa using ha)
theorem Rep.scalarA [Lent] {a : AV} {v : Value} (hs : a.scalar = true) (h : Rep C μ a v) : Rep C' μ' a v := by
 cases a with
 | agg cs =>
  cases h with | agg _ vs hl hr => exact .agg cs vs hl (fun i a v h1 h2 => (hr i a v h1 h2).scalar1 (qgd (by simpa [AV.scalar] using hs) h1))
 | tup cs =>
  cases h with | tup _ vs hl hr => exact .tup cs vs hl (fun i a v h1 h2 => (hr i a v h1 h2).scalar1 (qgd (by simpa [AV.scalar] using hs) h1))
 | _ => exact Rep.scalar1 (by simpa [AV.scalar] using hs) h
theorem yo {b : Nat} : ¬ Live [] μ b := by
 rintro ⟨id, blk, m, h, _⟩
 simp at h
theorem Wld.nil [Lent] (h : Wld C μ H w) : Wld C (fun _ => none) [] w where
 cl := h.cl
 dom := fun id m hm => by cases hm
 res := fun id hi => rfl
 live := fun id blk h1 => by simp at h1
 froz := fun id d sz rs h1 => by simp at h1
 inj := fun i i' b b' m m' h1 => by simp at h1
 free := yT.nil
 lnt := h.lnt
theorem Wld.back [Lent] (h : Wld C μ H w) (hx : Ext 0 C (fun _ => none) [] w C1 μ1 H1 w1) (h1 : Wld C1 μ1 H1 w1) : Wld C1 μ H w1 ∧ ∀ k, k ≤ H.length → Ext k C μ H w C1 μ H w1 := by
 have hfr : ∀ b, b < w.heap.size → w1.heap[b]? = w.heap[b]? ∧ C1 b = C b := fun b hb => ⟨(hx.fr b hb yo).1, (hx.fr b hb yo).2.2⟩
 refine ⟨⟨h1.cl, h.dom, h.res, fun id blk e1 e2 => ?_, fun id d sz rs e1 => ?_, h.inj, h.free, h1.lnt⟩, fun k hk => ⟨hx.os, hx.tape, hx.output, hx.size, hx.cl, fun _ _ _ h => ⟨_, h, .refl _⟩, fun b hb hnl => ⟨(hfr b hb).1, hnl, (hfr b hb).2⟩, hk⟩⟩
 ·refine ⟨(h.live id blk e1 e2).1, fun m h3 => ?_⟩
  obtain ⟨h4, h6⟩ := (h.live id blk e1 e2).2 m h3
  exact ⟨fun b hb => ⟨Nat.lt_of_lt_of_le (h4 b hb).1 hx.size, fun o => by rw [(hfr _ (h4 b hb).1).2]; exact (h4 b hb).2.1 o, (h4 b hb).2.2⟩, h6.mono hx.cl (fun _ _ h => h) (fun b hb => (hfr _ (h4 b hb).1).1)⟩
 ·refine ⟨(h.froz id d sz rs e1).1, fun m e2 => ?_⟩
  obtain ⟨e3, e4, e5⟩ := (h.froz id d sz rs e1).2 m e2
  refine ⟨e3, e4, e5.mono hx.cl (fun _ _ h => h) (fun i j row x hi hj => ?_)⟩
  obtain ⟨_, v, hv, _⟩ := (e5 i row hi).2 j x hj
  exact (hx.cl _ _ _ hv).trans hv.symm
def vP (P : Program) (s : Sem Next) (w : World) (R : Value → World → Prop) : Prop :=
 match s.run P w with
 | .ok (.value v) w' => R v w'
 | .ok .skip w' => R undef w'
 | .ok (.enter f args) w' => CallsIn Fence.wide 0 P f args w' fun e w'' => ∃ v, e = .returned v ∧ R v w''
 | .ok (.round l f t al bd) w' => RoundIn Fence.wide 0 P l f t al bd w' fun e w'' => ∃ v, e = .returned v ∧ R v w''
 | _ => False
theorem vP.mono {s : Sem Next} {R R' : Value → World → Prop} (h : vP P s w R) (hr : ∀ v w', R v w' → R' v w') : vP P s w R' := by
 unfold vP at *
 generalize s.run P w = x at *
 cases x with
 | ok n w' =>
  cases n <;> simp only at h ⊢ <;> first | exact hr _ _ h | exact h.elim | skip
  ·exact h.mono fun e w'' ⟨v, h1, h2⟩ => ⟨v, h1, hr _ _ h2⟩
  ·exact h.mono fun e w'' ⟨v, h1, h2⟩ => ⟨v, h1, hr _ _ h2⟩
 | halt _ _ => exact h
def qr4 (μ : MMap) (t : Tgt) (vs : Array Value) (s : Sem Next) : Prop :=
 match t with
 | .f f => s = callFunc f vs
 | .y id => ∃ m, μ id = some m ∧ s = Instr.yield m.block vs
def xn [Lent] (C : qd) (μ : MMap) (H : AH) (w : World) (r : AV) (H' : AH) (v : Value) (w' : World) : Prop := ∃ C' μ', Rep C' μ' r v ∧ Wld C' μ' H' w' ∧ Ext H.length C μ H w C' μ' H' w'
def qaf [Lent] (cfg : Cfg) (cf : Orac) : Prop := ∀ t args H r H', cf t args H = some (r, H') → ∀ C μ w vs s, qo C μ args vs → Wld C μ H w → qr4 μ t vs s → vP cfg.P s w (xn C μ H w r H')
theorem qo.free [Lent] {al : List AV} {vs : Array Value} (μ' : MMap) (h : qo C μ al vs) (hr : qt 0 al = true) : qo C μ' al vs := ⟨h.1, fun i a v h1 h2 => (h.2 i a v h1 h2).free μ' (xe hr h1)⟩
theorem Wld.one [Lent] (h : Wld C μ H w) {d0 : Bool} {id sz : Nat} {rs : List (List AV)} (hfree : qA 0 rs = true) (hi : H[id]? = some (.rows d0 sz rs)) : Wld C (fun k => if k = 0 then μ id else none) [.rows true sz rs] w := by
 have only : ∀ (k : Nat) b, ([.rows true sz rs] : AH)[k]? = some b → k = 0 ∧ b = .rows true sz rs := fun k b hk => by
  cases k with
  | zero => simp at hk; exact ⟨rfl, hk.symm⟩
  | succ k => simp at hk
 refine ⟨h.cl, fun k m hk => ?_, fun k hk => ?_, fun k b hk hb => ?_, fun k d sz rs hk => ?_, fun i i' b b' m m' e1 e2 _ _ _ _ _ _ _ => ?_, fun k b hk => ?_, h.lnt⟩
 ·split at hk
  ·rename_i e; subst e; simp
  ·cases hk
 ·have := (only k _ hk).2; cases this
 ·obtain ⟨rfl, rfl⟩ := only k b hk
  simp only [if_true]
  refine ⟨fun hn => ?_, fun m hm => ?_⟩
  ·have := (h.live id _ hi rfl).1 hn
   cases rs <;> first | rfl | cases this
  ·obtain ⟨-, -, h4, h5, h6, h7⟩ := h.liveM hi rfl hm
   exact ⟨h.liveH hi rfl hm, h4, h5, h6.free _ hfree, h7⟩
 ·have := (only k _ hk).2; cases this
 ·rw [(only i b e1).1, (only i' b' e2).1]
 ·obtain ⟨rfl, rfl⟩ := only k b hk
  exact fun _ => hfree
theorem Wld.putBack [Lent] (h : Wld C μ H w) {d0 : Bool} {id sz : Nat} {rs rs' : List (List AV)} {l : AH} (hi : H[id]? = some (.rows d0 sz rs)) {C2 : qd} {μ2 : MMap} {w1 : World}
  (h2 : Wld C2 μ2 (.rows true sz rs' :: l) w1) (hx : Ext 1 C (fun k => if k = 0 then μ id else none) [.rows true sz rs] w C2 μ2 (.rows true sz rs' :: l) w1) :
  Wld C2 (fun i => if i = id then μ2 0 else μ i) (H.set id (.rows true sz rs')) w1 ∧ Ext H.length C μ H w C2 (fun i => if i = id then μ2 0 else μ i) (H.set id (.rows true sz rs')) w1 := by
 have h20 : (ABlk.rows true sz rs' :: l)[0]? = some (.rows true sz rs') := rfl
 have hfree : qA 0 rs' = true := h2.free.get (id := 0) h20 rfl
 have hmu : MLe μ (fun i => if i = id then μ2 0 else μ i) := by
  intro i m hm
  by_cases e : i = id
  ·subst e; simp only [↓reduceIte]; exact hx.mu 0 m (by omega) (by simpa using hm)
  ·simp only [if_neg e]; exact ⟨m, hm, .refl m⟩
 have nl : ∀ b, (∀ m, μ id = some m → ¬ m.has b) → ¬ Live [.rows true sz rs] (fun k => if k = 0 then μ id else none) b := by
  rintro b hb ⟨i, bi, mi, e1, _, e3, e4⟩
  simp only at e3
  split at e3
  ·exact hb _ e3 e4
  ·cases e3
 have hlen : id < H.length := (quh.1 hi).1
 have aux : ∀ (j : Nat) bj, (H.set id (.rows true sz rs'))[j]? = some bj → (j = id ∧ bj = .rows true sz rs') ∨ (j ≠ id ∧ H[j]? = some bj) := by
  intro j bj hj
  rw [qur] at hj
  split at hj
  ·rename_i e; subst e
   try rw [if_pos hlen] at hj
   cases hj; exact .inl ⟨rfl, rfl⟩
  ·rename_i e; exact .inr ⟨fun e' => e e'.symm, hj⟩
 have apart : ∀ (j : Nat) bj mj, j ≠ id → H[j]? = some bj → bj.live = true → μ j = some mj → ∀ x, mj.has x → x < w.heap.size ∧ ¬ Live [.rows true sz rs] (fun k => if k = 0 then μ id else none) x := by
  intro j bj mj hne e hb f1 x hxj
  exact ⟨(h.liveH e hb f1 x hxj).1, nl _ fun m hm he => hne (h.inj j id bj _ mj m e hi hb rfl f1 hm x hxj he)⟩
 refine ⟨⟨h2.cl, fun j mj hj => ?_, fun j hj => ?_, fun j b hj hb => ?_, fun j d sz rs hj => ?_, fun i i' b b' m1 m2 e1 e2 e3 e4 e5 e6 x e7 e8 => ?_, ?_, h2.lnt⟩,
  ⟨hx.os, hx.tape, hx.output, hx.size, hx.cl, fun i m _ hm => hmu i m hm, fun b hb hnl => ?_, by simp⟩⟩
 ·simp only [List.length_set]
  by_cases e : j = id
  ·subst e; exact hlen
  ·rw [if_neg e] at hj; exact h.dom j mj hj
 ·rcases aux j _ hj with ⟨_, e⟩ | ⟨hne, e⟩
  ·cases e
  ·simp only [if_neg hne]; exact h.res j e
 ·rcases aux j b hj with ⟨rfl, rfl⟩ | ⟨hne, e⟩
  ·simp only [if_true]
   refine ⟨(h2.live 0 _ h20 rfl).1, fun m hm => ?_⟩
   obtain ⟨-, -, g4, g5, g6, g7⟩ := h2.liveM h20 rfl hm
   exact ⟨h2.liveH h20 rfl hm, g4, g5, g6.free _ hfree, g7⟩
  ·simp only [if_neg hne]
   refine ⟨(h.live j b e hb).1, fun mj f1 => ?_⟩
   obtain ⟨f2, f4⟩ := (h.live j b e hb).2 mj f1
   have q := fun x (hxj : mj.has x) => hx.fr x (f2 x hxj).1 (apart j b mj hne e hb f1 x hxj).2
   exact ⟨fun x hxj => ⟨Nat.lt_of_lt_of_le (f2 x hxj).1 hx.size, fun o => by rw [(q x hxj).2.2]; exact (f2 x hxj).2.1 o, (f2 x hxj).2.2⟩, f4.monoG hx.cl hmu (fun x hxj => (q x hxj).1)⟩
 ·rcases aux j _ hj with ⟨_, e⟩ | ⟨hne, e⟩
  ·cases e
  ·simp only [if_neg hne]
   refine ⟨(h.froz j d sz rs e).1, fun mj f1 => ?_⟩
   obtain ⟨f2, f3, f4⟩ := (h.froz j d sz rs e).2 mj f1
   exact ⟨f2, f3, f4.monoG hx.cl hmu (fun i j row x hi' hj' => by
    obtain ⟨_, v, hv, _⟩ := (f4 i row hi').2 j x hj'
    exact (hx.cl _ _ _ hv).trans hv.symm)⟩
 ·have cross : ∀ (j : Nat) bj mj m0, j ≠ id → H[j]? = some bj → bj.live = true → μ j = some mj → μ2 0 = some m0 → ∀ x, m0.has x → ¬ mj.has x := by
   intro j bj mj m0 hne e hb f1 hm0 x hx0 hxj
   obtain ⟨f2, f3⟩ := apart j bj mj hne e hb f1 x hxj
   exact (hx.fr x f2 f3).2.1 ⟨0, _, m0, h20, rfl, hm0, hx0⟩
  rcases aux i b e1 with ⟨rfl, rfl⟩ | ⟨hne, e⟩ <;> rcases aux i' b' e2 with ⟨rfl, rfl⟩ | ⟨hne', e'⟩
  ·rfl
  ·rw [if_pos rfl] at e5; rw [if_neg hne'] at e6
   exact (cross i' b' m2 m1 hne' e' e4 e6 e5 x e7 e8).elim
  ·rw [if_neg hne] at e5; rw [if_pos rfl] at e6
   exact (cross i b m1 m2 hne e e3 e5 e6 x e8 e7).elim
  ·rw [if_neg hne] at e5; rw [if_neg hne'] at e6
   exact h.inj i i' b b' m1 m2 e e' e3 e4 e5 e6 x e7 e8
 ·exact h.free.set (b := .rows true sz rs') (fun _ => hfree)
 ·obtain ⟨q1, q2, q3⟩ := hx.fr b hb (nl b fun m hm e => hnl ⟨id, _, m, hi, rfl, hm, e⟩)
  refine ⟨q1, fun hl => ?_, q3⟩
  obtain ⟨j, bj, mj, e1, e2, e3, e5⟩ := hl
  simp only at e3
  rcases aux j bj e1 with ⟨rfl, rfl⟩ | ⟨hne, e⟩
  ·rw [if_pos rfl] at e3
   exact q2 ⟨0, _, mj, h20, rfl, e3, e5⟩
  ·rw [if_neg hne] at e3
   exact hnl ⟨j, bj, mj, e, e2, e3, e5⟩
theorem Wld.oneS [Lent] (h : Wld C μ H w) {d0 : Bool} {id sz : Nat} {rs : List (List AV)} (hin : ∀ x ∈ xw 0 rs, x ∈ [id]) (hi : H[id]? = some (.rows d0 sz rs)) :
    Wld C (fun k => if k = 0 then μ id else none) [.rows false sz (renR (fun _ => 0) rs)] w := by
  have only : ∀ (k : Nat) b, ([.rows false sz (renR (fun _ => 0) rs)] : AH)[k]? = some b → k = 0 ∧ b = .rows false sz (renR (fun _ => 0) rs) := fun k b hk => by
    cases k with
    | zero => simp at hk; exact ⟨rfl, hk.symm⟩
    | succ k => simp at hk
  refine ⟨h.cl, fun k m hk => ?_, fun k hk => ?_, fun k b hk hb => ?_, fun k d sz rs hk => ?_, fun i i' b b' m m' e1 e2 _ _ _ _ _ _ _ => ?_, fun k b hk => ?_, h.lnt⟩
  · split at hk
    · rename_i e; subst e; simp
    · cases hk
  · have := (only k _ hk).2; cases this
  · obtain ⟨rfl, rfl⟩ := only k b hk
    simp only [if_true]
    refine ⟨fun hn => ?_, fun m hm => ?_⟩
    · have := (h.live id _ hi rfl).1 hn
      cases rs <;> first | rfl | cases this
    · obtain ⟨-, -, h4, h5, h6, h7⟩ := h.liveM hi rfl hm
      refine ⟨h.liveH hi rfl hm, h4, by rw [zF, quI]; exact h5, ?_, h7⟩
      refine h6.renm (k := 0) (L := [id]) (fun x mx hx hmx => ?_) hin
      have : x = id := by rcases hx with hx | hx; · omega
                          · simpa using hx
      subst this
      simpa using hmx
  · have := (only k _ hk).2; cases this
  · rw [(only i b e1).1, (only i' b' e2).1]
  · obtain ⟨rfl, rfl⟩ := only k b hk
    exact fun hd => by cases hd
theorem Wld.putBackS [Lent] (h : Wld C μ H w) {d0 : Bool} {id sz : Nat} {rs rs0 rs' : List (List AV)} {l : AH} (hi : H[id]? = some (.rows d0 sz rs)) {C2 : qd} {μ2 : MMap} {w1 : World} (hin : ∀ x ∈ xw 0 rs', x ∈ [0])
    (h2 : Wld C2 μ2 (.rows false sz rs' :: l) w1) (hx : Ext 1 C (fun k => if k = 0 then μ id else none) [.rows false sz rs0] w C2 μ2 (.rows false sz rs' :: l) w1) :
    Wld C2 (fun i => if i = id then μ2 0 else μ i) (H.set id (.rows false sz (renR (fun _ => id) rs'))) w1 ∧ Ext H.length C μ H w C2 (fun i => if i = id then μ2 0 else μ i) (H.set id (.rows false sz (renR (fun _ => id) rs'))) w1 := by
  have h20 : (ABlk.rows false sz rs' :: l)[0]? = some (.rows false sz rs') := rfl
  have hmu : MLe μ (fun i => if i = id then μ2 0 else μ i) := by
    intro i m hm
    by_cases e : i = id
    · subst e; simp only [↓reduceIte]; exact hx.mu 0 m (by omega) (by simpa using hm)
    · simp only [if_neg e]; exact ⟨m, hm, .refl m⟩
  have nl : ∀ b, (∀ m, μ id = some m → ¬ m.has b) → ¬ Live [.rows false sz rs0] (fun k => if k = 0 then μ id else none) b := by
    rintro b hb ⟨i, bi, mi, e1, _, e3, e4⟩
    simp only at e3
    split at e3
    · exact hb _ e3 e4
    · cases e3
  have hlen : id < H.length := (quh.1 hi).1
  have aux : ∀ (j : Nat) bj, (H.set id (.rows false sz (renR (fun _ => id) rs')))[j]? = some bj → (j = id ∧ bj = .rows false sz (renR (fun _ => id) rs')) ∨ (j ≠ id ∧ H[j]? = some bj) := by
    intro j bj hj
    rw [qur] at hj
    split at hj
    · rename_i e; subst e
      try rw [if_pos hlen] at hj
      cases hj; exact .inl ⟨rfl, rfl⟩
    · rename_i e; exact .inr ⟨fun e' => e e'.symm, hj⟩
  have apart : ∀ (j : Nat) bj mj, j ≠ id → H[j]? = some bj → bj.live = true → μ j = some mj → ∀ x, mj.has x → x < w.heap.size ∧ ¬ Live [.rows false sz rs0] (fun k => if k = 0 then μ id else none) x := by
    intro j bj mj hne e hb f1 x hxj
    exact ⟨(h.liveH e hb f1 x hxj).1, nl _ fun m hm he => hne (h.inj j id bj _ mj m e hi hb rfl f1 hm x hxj he)⟩
  refine ⟨⟨h2.cl, fun j mj hj => ?_, fun j hj => ?_, fun j b hj hb => ?_, fun j d sz rs hj => ?_, fun i i' b b' m1 m2 e1 e2 e3 e4 e5 e6 x e7 e8 => ?_, ?_, h2.lnt⟩,
    ⟨hx.os, hx.tape, hx.output, hx.size, hx.cl, fun i m _ hm => hmu i m hm, fun b hb hnl => ?_, by simp⟩⟩
  · simp only [List.length_set]
    by_cases e : j = id
    · subst e; exact hlen
    · rw [if_neg e] at hj; exact h.dom j mj hj
  · rcases aux j _ hj with ⟨_, e⟩ | ⟨hne, e⟩
    · cases e
    · simp only [if_neg hne]; exact h.res j e
  · rcases aux j b hj with ⟨rfl, rfl⟩ | ⟨hne, e⟩
    · simp only [if_true]
      refine ⟨fun hn => ?_, fun m hm => ?_⟩
      · have := (h2.live 0 _ h20 rfl).1 hn
        cases rs' <;> first | rfl | cases this
      · obtain ⟨-, -, g4, g5, g6, g7⟩ := h2.liveM h20 rfl hm
        refine ⟨h2.liveH h20 rfl hm, g4, by rw [zF, quI]; exact g5, ?_, g7⟩
        refine g6.renm (k := 0) (L := [0]) (fun x mx hx hmx => ?_) hin
        have : x = 0 := by rcases hx with hx | hx; · omega
                           · simpa using hx
        subst this
        simpa using hmx
    · simp only [if_neg hne]
      refine ⟨(h.live j b e hb).1, fun mj f1 => ?_⟩
      obtain ⟨f2, f4⟩ := (h.live j b e hb).2 mj f1
      have q := fun x (hxj : mj.has x) => hx.fr x (f2 x hxj).1 (apart j b mj hne e hb f1 x hxj).2
      exact ⟨fun x hxj => ⟨Nat.lt_of_lt_of_le (f2 x hxj).1 hx.size, fun o => by rw [(q x hxj).2.2]; exact (f2 x hxj).2.1 o, (f2 x hxj).2.2⟩, f4.monoG hx.cl hmu (fun x hxj => (q x hxj).1)⟩
  · rcases aux j _ hj with ⟨_, e⟩ | ⟨hne, e⟩
    · cases e
    · simp only [if_neg hne]
      refine ⟨(h.froz j d sz rs e).1, fun mj f1 => ?_⟩
      obtain ⟨f2, f3, f4⟩ := (h.froz j d sz rs e).2 mj f1
      exact ⟨f2, f3, f4.monoG hx.cl hmu (fun i j row x hi' hj' => by
        obtain ⟨_, v, hv, _⟩ := (f4 i row hi').2 j x hj'
        exact (hx.cl _ _ _ hv).trans hv.symm)⟩
  · have cross : ∀ (j : Nat) bj mj m0, j ≠ id → H[j]? = some bj → bj.live = true → μ j = some mj → μ2 0 = some m0 → ∀ x, m0.has x → ¬ mj.has x := by
      intro j bj mj m0 hne e hb f1 hm0 x hx0 hxj
      obtain ⟨f2, f3⟩ := apart j bj mj hne e hb f1 x hxj
      exact (hx.fr x f2 f3).2.1 ⟨0, _, m0, h20, rfl, hm0, hx0⟩
    rcases aux i b e1 with ⟨rfl, rfl⟩ | ⟨hne, e⟩ <;> rcases aux i' b' e2 with ⟨rfl, rfl⟩ | ⟨hne', e'⟩
    · rfl
    · rw [if_pos rfl] at e5; rw [if_neg hne'] at e6
      exact (cross i' b' m2 m1 hne' e' e4 e6 e5 x e7 e8).elim
    · rw [if_neg hne] at e5; rw [if_pos rfl] at e6
      exact (cross i b m1 m2 hne e e3 e5 e6 x e8 e7).elim
    · rw [if_neg hne] at e5; rw [if_neg hne'] at e6
      exact h.inj i i' b b' m1 m2 e e' e3 e4 e5 e6 x e7 e8
  · exact h.free.set (b := .rows false sz (renR (fun _ => id) rs')) (fun hd => by cases hd)
  · obtain ⟨q1, q2, q3⟩ := hx.fr b hb (nl b fun m hm e => hnl ⟨id, _, m, hi, rfl, hm, e⟩)
    refine ⟨q1, fun hl => ?_, q3⟩
    obtain ⟨j, bj, mj, e1, e2, e3, e5⟩ := hl
    simp only at e3
    rcases aux j bj e1 with ⟨rfl, rfl⟩ | ⟨hne, e⟩
    · rw [if_pos rfl] at e3
      exact q2 ⟨0, _, mj, h20, rfl, e3, e5⟩
    · rw [if_neg hne] at e3
      exact hnl ⟨j, bj, mj, e, e2, e3, e5⟩
theorem qhL [Lent] (h : Wld C μ H w) {C2 : qd} {μ2 : MMap} {w1 : World} {G : AH} (e2 : Wld C2 μ2 G w1) (e3 : Ext 0 C (fun _ => none) [] w C2 μ2 G w1) {nid : Option Nat} {a r : AV} {H' : AH} {v : Value} (e1 : Rep C2 μ2 a v)
  (hi : yY nid G a H = some (r, H')) : xn C μ H w r H' v w1 := by
 obtain ⟨b1, b2⟩ := h.back e3 e2
 unfold yY at hi
 split at hi
 ·rename_i id off len
  split at hi
  case h_2 => cases hi
  rename_i d sz rs hid
  split at hi
  case isFalse => cases hi
  rename_i hrr
  have hrr : qA 0 rs = true := by
   rw [Bool.or_eq_true] at hrr
   exact hrr.elim (fun hd => e2.free.get hid hd) (fun h => h)
  split at hi
  case h_2 => cases hi
  rename_i k H2 hnew
  cases hi
  have b3 := b2 _ (qum _)
  cases hm : μ2 id with
  | none =>
   have hv := (e2.live id _ hid rfl).1 hm
   obtain ⟨n1, n2⟩ := b1.newV hnew rfl (by cases rs <;> first | rfl | cases hv) (fun _ => hrr)
   cases e1 with
   | msN _ _ => exact ⟨C2, μ, .msN _ _, n1, b3.trans (n2 _ (qum _)) (qum _)⟩
   | ms _ _ _ cap ad m' hm' hl had => rw [hm] at hm'; cases hm'
  | some m =>
  obtain ⟨hlt, hc, hblk⟩ := e2.liveM hid rfl hm
  have hge : ∀ x, m.has x → ¬ x < w.heap.size := fun x hx hb => (e3.fr _ hb yo).2.1 ⟨id, _, m, hid, rfl, hm, hx⟩
  have hnl : ∀ x, m.has x → ¬ Live H μ x := fun x hx hl => hge x hx (h.live_lt hl)
  have hlv := e2.liveH hid rfl hm
  obtain ⟨n1, n2, n3, n4, n5⟩ := b1.new hnew hnl (fun x hx => (hlv x hx).1) (fun x hx => (hlv x hx).2.1) (fun x hx => (hlv x hx).2.2) rfl (by
   obtain ⟨c1, c2, c3, c4⟩ := hblk
   exact ⟨c1, c2, fun i row hi => ⟨(c3 i row hi).1, fun j x hj => by
    obtain ⟨d1, u, d2, d3⟩ := (c3 i row hi).2 j x hj
    exact ⟨d1, u, d2, d3.free _ (xe (zu hrr hi) hj)⟩⟩, c4⟩) (fun _ => hrr)
  have fin : ∀ {v : Value}, Rep C2 (upd μ k m) (.ms k off len) v → xn C μ H w (.ms k off len) H' v w1 := fun {v} hrv => by
   refine ⟨C2, upd μ k m, hrv, n1, ⟨b3.os, b3.tape, b3.output, b3.size, b3.cl, fun id m' _ hm' => ⟨_, n2 id m' hm', .refl _⟩, fun b hb hnl' => ?_, n3⟩⟩
   obtain ⟨f1, f2, f3⟩ := b3.fr b hb hnl'
   refine ⟨f1, fun hl => ?_, f3⟩
   rcases n4 b hl with hl | hl
   ·exact hnl' hl
   ·exact hge _ hl hb
  cases e1 with
  | msN _ _ => exact fin (.msN _ _)
  | ms _ _ _ cap ad m' hm' hl had =>
   rw [hm] at hm'; cases hm'
   exact fin (.ms k off len cap ad m (by unfold upd; rw [if_pos rfl]) hl had)
 ·split at hi
  ·rename_i hrf
   cases hi
   exact ⟨C2, μ, e1.free μ hrf, b1, b2 _ (qum _)⟩
  ·cases hi
theorem qlm [Lent] (h : Wld C μ H w) {C2 : qd} {μ2 : MMap} {w1 : World} {G : AH} (e2 : Wld C2 μ2 G w1) (e3 : Ext 0 C (fun _ => none) [] w C2 μ2 G w1) {nid : Option Nat} {c : AV} {rows : List (List AV)} {H' : AH} {v : Value} {i : Nat} (e1 : Rep C2 μ2 c v)
  (hc : qln G c = some rows) (hn : aNew nid H .reg = some (i, H')) : ∃ μ', Wld C2 μ' H' w1 ∧ Rep C2 μ' (.rsl i rows) v ∧ Ext H.length C μ H w C2 μ' H' w1 := by
 obtain ⟨b1, b2⟩ := h.back e3 e2
 have b3 := b2 _ (qum _)
 have empty : ∀ {D : qd}, Rep0 D (.sl []) v → ∃ μ', Wld C2 μ' H' w1 ∧ Rep C2 μ' (.rsl i []) v ∧ Ext H.length C μ H w C2 μ' H' w1 := fun {D} h0 => by
  obtain ⟨n1, n2⟩ := b1.newV hn rfl rfl trivial
  exact ⟨μ, n1, .rsl i [] v D (fun hne => absurd rfl hne) h0, b3.trans (n2 _ (qum _)) (qum _)⟩
 unfold qln at hc
 split at hc
 ·rename_i id rows'
  split at hc
  ·rename_i hid
   cases hc
   cases e1 with
   | rsl _ _ _ D hD h0 =>
    by_cases hne : rows = []
    ·subst hne; exact empty h0
    ·obtain ⟨m, hm, rfl⟩ := hD hne
     have hlv := e2.liveH hid rfl hm
     have hge : ∀ x, m.has x → ¬ x < w.heap.size := fun x hx hb => (e3.fr _ hb yo).2.1 ⟨id, _, m, hid, rfl, hm, hx⟩
     have hnl : ∀ x, m.has x → ¬ Live H μ x := fun x hx hl => hge x hx (h.live_lt hl)
     obtain ⟨n1, n2, n3, n4, n5⟩ := b1.new hn hnl (fun x hx => (hlv x hx).1) (fun x hx => (hlv x hx).2.1) (fun x hx => (hlv x hx).2.2) rfl (e2.liveM hid rfl hm).2.2
     refine ⟨upd μ i m, n1, .rsl i rows v m.D (fun _ => ⟨m, by unfold upd; rw [if_pos rfl], rfl⟩) h0, ⟨b3.os, b3.tape, b3.output, b3.size, b3.cl, fun id m' _ hm' => ⟨_, n2 id m' hm', .refl _⟩, fun b hb hnl' => ?_, n3⟩⟩
     obtain ⟨f1, f2, f3⟩ := b3.fr b hb hnl'
     refine ⟨f1, fun hl => ?_, f3⟩
     rcases n4 b hl with hl | hl
     ·exact hnl' hl
     ·exact hge _ hl hb
  ·cases hc
 ·cases hc; exact empty e1.toEmp
 ·cases hc
  cases e1 with
  | nilS => exact empty (D := fun _ _ => none) .slNil
 ·cases hc
  cases e1 with
  | em a cap => exact empty (D := fun _ _ => none) (.sl [] a cap 0 (fun _ _ => undef) (fun h => absurd rfl h) (fun i row h => by simp at h) (fun i j row x h => by simp at h) (fun i j row x h => by simp at h) (fun i j row x h => by simp at h) (Nat.zero_le _) rfl)
 ·cases hc
theorem Rep.plain [Lent] {a : AV} {v : Value} (hp : a.plain = true) (h : Rep C μ a v) : Rep C' μ' a v := by
 cases a <;> simp [AV.plain] at hp
 ·cases h; exact .int _ _
 ·cases h; exact .bool _
theorem qjK {a : AV} (i : Nat) (hp : a.plain = true) : a.rgA i = a := by cases a <;> simp [AV.plain] at hp <;> rfl
theorem qow {l : List AV} (h : qhH l = true) {i : Nat} {a : AV} (ha : l[i]? = some a) : a.plain = true := by
 induction l generalizing i with
 | nil => simp at ha
 | cons b l ih =>
  rw [qhH, que] at h
  cases i with
  | zero => simp at ha; subst ha; exact h.1
  | succ i => exact ih h.2 (by simpa using ha)
theorem qhC [Lent] (h : Wld C μ H w) {C2 : qd} {μ2 : MMap} {w1 : World} {G : AH} (e2 : Wld C2 μ2 G w1) (e3 : Ext 0 C (fun _ => none) [] w C2 μ2 G w1) {nid : Option Nat} {a X : AV} {H' : AH} {v : Value} {i : Nat} (e1 : Rep C2 μ2 a v)
  (hc : rgTm G a = some X) (hn : aNew nid H .reg = some (i, H')) : ∃ μ', Wld C2 μ' H' w1 ∧ Rep C2 μ' (X.rgA i) v ∧ Ext H.length C μ H w C2 μ' H' w1 := by
 unfold rgTm at hc
 split at hc
 case h_2 => cases hc
 rename_i k n s c
 obtain ⟨rows, hr, rfl⟩ := quk.1 hc
 cases e1 with
 | agg _ us hl hh =>
  match us, hl, hh with
  | [u0, u1, u2, u3], _, hh =>
   obtain ⟨μ', f1, f2, f3⟩ := qlm h e2 e3 (hh 3 _ _ rfl rfl) hr hn
   have q0 := hh 0 _ _ rfl rfl
   have q1 := hh 1 _ _ rfl rfl
   have q2 := hh 2 _ _ rfl rfl
   refine ⟨μ', f1, ?_, f3⟩
   refine Rep.agg _ [u0, u1, u2, u3] rfl (fun j a v h1 h2 => ?_)
   match j, h1, h2 with
   | 0, h1, h2 => cases h1; cases h2; exact q0.plain rfl
   | 1, h1, h2 => cases h1; cases h2; exact q1.plain rfl
   | 2, h1, h2 => cases h1; cases h2; cases q2; exact .str _
   | 3, h1, h2 => cases h1; cases h2; exact f2
   | j + 4, h1, h2 => simp at h1
theorem qjI [Lent] (h : Wld C μ H w) {C2 : qd} {μ2 : MMap} {w1 : World} {G : AH} (e2 : Wld C2 μ2 G w1) (e3 : Ext 0 C (fun _ => none) [] w C2 μ2 G w1) {nid : Option Nat} {H' : AH} {i : Nat} (hn : aNew nid H .reg = some (i, H')) :
  ∀ (l : List AV) {q : List AV} {us : List Value}, rgL G l = some q → l.length = us.length → (∀ (j : Nat) a v, l[j]? = some a → us[j]? = some v → Rep C2 μ2 a v) →
  ∃ μ', Wld C2 μ' H' w1 ∧ q.length = us.length ∧ (∀ (j : Nat) a v, (q.map (AV.rgA i))[j]? = some a → us[j]? = some v → Rep C2 μ' a v) ∧ Ext H.length C μ H w C2 μ' H' w1
 | [], q, us, hc, _, _ => by cases hc
 | a :: l, q, [], hc, hl, _ => by simp at hl
 | a :: l, q, u :: us, hc, hl, hh => by
  rw [rgL] at hc
  have h0 := hh 0 a u rfl rfl
  have ht : ∀ (j : Nat) a v, l[j]? = some a → us[j]? = some v → Rep C2 μ2 a v := fun j a v h1 h2 => hh (j + 1) a v (by simpa using h1) (by simpa using h2)
  split at hc
  ·rename_i hp
   obtain ⟨q', hq, rfl⟩ := quk.1 hc
   obtain ⟨μ', f1, f2, f3, f4⟩ := qjI h e2 e3 hn l hq (by simpa using hl) ht
   refine ⟨μ', f1, by simpa using f2, fun j x v h1 h2 => ?_, f4⟩
   cases j with
   | zero => simp at h1 h2; subst h1 h2; rw [qjK i hp]; exact h0.plain hp
   | succ j => exact f3 j x v (by simpa using h1) (by simpa using h2)
  ·split at hc
   case isFalse => cases hc
   rename_i hp
   obtain ⟨X, hX, rfl⟩ := quk.1 hc
   obtain ⟨μ', f1, f2, f3⟩ := qhC h e2 e3 h0 hX hn
   refine ⟨μ', f1, by simpa using hl, fun j x v h1 h2 => ?_, f3⟩
   cases j with
   | zero => simp at h1 h2; subst h1 h2; exact f2
   | succ j =>
    simp only [List.map_cons, quF] at h1 h2
    obtain ⟨y, hy, rfl⟩ := qi h1
    have := qow hp hy
    rw [qjK i this]
    exact (ht j y v hy h2).plain this
theorem qmU [Lent] (h : Wld C μ H w) {C2 : qd} {μ2 : MMap} {w1 : World} {G : AH} (e2 : Wld C2 μ2 G w1) (e3 : Ext 0 C (fun _ => none) [] w C2 μ2 G w1) {nid : Option Nat} {a V : AV} {H' : AH} {v : Value} {i : Nat} (e1 : Rep C2 μ2 a v)
  (hc : qou G a = some V) (hn : aNew nid H .reg = some (i, H')) : xn C μ H w (rgIn i V) H' v w1 := by
 unfold qou at hc
 split at hc
 ·obtain ⟨q, hq, rfl⟩ := quk.1 hc
  cases e1 with
  | tup _ us hl hh =>
   obtain ⟨μ', f1, f2, f3, f4⟩ := qjI h e2 e3 hn _ hq hl hh
   refine ⟨C2, μ', ?_, f1, f4⟩
   exact Rep.tup _ us (by simpa using f2) f3
 ·obtain ⟨μ', f1, f2, f3⟩ := qhC h e2 e3 e1 hc hn
  have : rgIn i V = V.rgA i := by
   unfold rgTm at hc
   split at hc
   ·obtain ⟨rows, _, rfl⟩ := quk.1 hc; rfl
   ·cases hc
  rw [this]
  exact ⟨C2, μ', f2, f1, f3⟩
theorem qap {g : AV → Option AV} : ∀ {l q : List AV}, datL g l = some q → q.length = l.length ∧ ∀ (i : Nat) a, l[i]? = some a → ∃ x, g a = some x ∧ q[i]? = some x
 | [], q, h => by cases h; exact ⟨rfl, fun i a hi => by simp at hi⟩
 | a :: l, q, h => by
  rw [datL] at h
  split at h
  ·rename_i x q' hx hq
   cases h
   obtain ⟨h1, h2⟩ := qap hq
   refine ⟨by simp [h1], fun i b hi => ?_⟩
   cases i with
   | zero => simp at hi; subst hi; exact ⟨x, hx, rfl⟩
   | succ i => exact h2 i b (by simpa using hi)
  ·cases h
theorem qb0 {g : AV → Option AV} {l q : List AV} (h : datL g l = some q) {i : Nat} {x : AV} (hi : q[i]? = some x) : ∃ a, l[i]? = some a ∧ g a = some x := by
 obtain ⟨h1, h2⟩ := qap h
 have hl : i < l.length := by rw [← h1]; exact (quh.1 hi).1
 obtain ⟨y, hy, hq⟩ := h2 i _ (quj hl)
 rw [hi] at hq; cases hq
 exact ⟨_, quj hl, hy⟩
theorem qiF [Lent] {C' : qd} {i : Nat} {a x : AV} {v : Value} (hm : ∀ id ∈ a.rgId, ∀ m, μ id = some m → μ' i = some m) (hr : Rep C μ a v) (h : a.dat0 = some x) : Rep C' μ' (x.regn i) v := by
 unfold AV.dat0 at h
 split at h
 ·cases h; cases hr; exact .int _ _
 ·cases h; cases hr; exact .bool _
 ·cases h; cases hr; exact .str _
 ·rename_i id rows
  cases h
  cases hr with
  | rsl _ _ _ D hD h0 =>
   exact .rsl i rows v D (fun hne => by
    obtain ⟨m, h1, h2⟩ := hD hne
    exact ⟨m, hm id (by simp [AV.rgId]) m h1, h2⟩) h0
 ·cases h; exact .rsl i [] v _ (fun hne => absurd rfl hne) hr.toEmp
 ·cases h; cases hr; exact .rsl i [] _ (fun _ _ => none) (fun hne => absurd rfl hne) .slNil
 ·cases h; cases hr with | em a cap => exact .rsl i [] _ (fun _ _ => none) (fun hne => absurd rfl hne) (.sl [] a cap 0 (fun _ _ => undef) (fun h => absurd rfl h) (fun i row h => by simp at h) (fun i j row x h => by simp at h) (fun i j row x h => by simp at h) (fun i j row x h => by simp at h) (Nat.zero_le _) rfl)
 ·cases h
theorem qrD {a x : AV} {i : Nat} (h : a.dat0 = some x) : x.rgA i = x.regn i := by
 unfold AV.dat0 at h
 split at h <;> first | (cases h; rfl) | cases h
theorem qiE [Lent] {C' : qd} {i : Nat} {a x : AV} {v : Value} (hm : ∀ id ∈ a.rgId1, ∀ m, μ id = some m → μ' i = some m) (hr : Rep C μ a v) (h : a.dat1 = some x) : Rep C' μ' (x.rgA i) v := by
 unfold AV.dat1 at h
 split at h
 ·rename_i cs
  obtain ⟨q, hq, rfl⟩ := quk.1 h
  obtain ⟨hl, hg⟩ := qap hq
  cases hr with
  | agg _ us hlu hh =>
   refine Rep.agg _ us (by simp [hl, hlu]) (fun j y u h1 h2 => ?_)
   obtain ⟨z, hz, rfl⟩ := qi h1
   obtain ⟨a, ha, hax⟩ := qb0 hq hz
   exact qiF (fun id hid => hm id (List.mem_flatMap.2 ⟨a, quv ha, hid⟩)) (hh j a u ha h2) hax
 ·rename_i hna
  rw [qrD h]
  have he : a.rgId1 = a.rgId := by cases a <;> first | rfl | exact absurd rfl (hna _)
  rw [he] at hm
  exact qiF hm hr h
theorem qqu {a x : AV} {i : Nat} (h : a.dat1 = some x) : rgIn i x = x.rgA i := by
 unfold AV.dat1 at h
 split at h
 ·obtain ⟨q, hq, rfl⟩ := quk.1 h; rfl
 ·unfold AV.dat0 at h
  split at h <;> first | (cases h; rfl) | cases h
theorem qiD [Lent] {C' : qd} {i : Nat} {a x : AV} {v : Value} (hm : ∀ id ∈ a.rgId2, ∀ m, μ id = some m → μ' i = some m) (hr : Rep C μ a v) (h : a.dat2 = some x) : Rep C' μ' (rgIn i x) v := by
 unfold AV.dat2 at h
 split at h
 ·rename_i cs
  obtain ⟨q, hq, rfl⟩ := quk.1 h
  obtain ⟨hl, hg⟩ := qap hq
  cases hr with
  | tup _ us hlu hh =>
   refine Rep.tup _ us (by simp [hl, hlu]) (fun j y u h1 h2 => ?_)
   obtain ⟨z, hz, rfl⟩ := qi h1
   obtain ⟨a, ha, hax⟩ := qb0 hq hz
   exact qiE (fun id hid => hm id (List.mem_flatMap.2 ⟨a, quv ha, hid⟩)) (hh j a u ha h2) hax
 ·rename_i hna
  rw [qqu h]
  have he : a.rgId2 = a.rgId1 := by cases a <;> first | rfl | exact absurd rfl (hna _)
  rw [he] at hm
  exact qiE hm hr h
theorem qmV [Lent] (h : Wld C μ H w) {C2 : qd} {μ2 : MMap} {w1 : World} {G : AH} (e2 : Wld C2 μ2 G w1) (e3 : Ext 0 C (fun _ => none) [] w C2 μ2 G w1) {nid : Option Nat} {a V : AV} {H' : AH} {v : Value} {i : Nat} (e1 : Rep C2 μ2 a v)
  (hc : qov G a = some V) (hn : aNew nid H .reg = some (i, H')) : xn C μ H w (rgIn i V) H' v w1 := by
 obtain ⟨b1, b2⟩ := h.back e3 e2
 have b3 := b2 _ (qum _)
 have vac : (∀ id ∈ a.rgId2, μ2 id = none) → a.dat2 = some V → xn C μ H w (rgIn i V) H' v w1 := fun hno hd => by
  obtain ⟨n1, n2⟩ := b1.newV hn rfl rfl trivial
  exact ⟨C2, μ, qiD (fun id hid m hm => by rw [hno id hid] at hm; cases hm) e1 hd, n1, b3.trans (n2 _ (qum _)) (qum _)⟩
 unfold qov at hc
 split at hc
 ·rename_i hids
  exact vac (fun id hid => by rw [hids] at hid; cases hid) hc
 ·rename_i id l hids
  split at hc
  case h_2 => cases hc
  rename_i hid
  split at hc
  case isFalse => cases hc
  rename_i hall
  have hin : ∀ x ∈ a.rgId2, x = id := by
   rw [hids]
   intro x hx
   rcases quH.1 hx with rfl | hx
   ·rfl
   ·simpa using (vI.1 hall) x hx
  cases hm : μ2 id with
  | none => exact vac (fun x hx => by rw [hin x hx]; exact hm) hc
  | some m =>
   have hlv := e2.liveH hid rfl hm
   have hge : ∀ x, m.has x → ¬ x < w.heap.size := fun x hx hb => (e3.fr _ hb yo).2.1 ⟨id, _, m, hid, rfl, hm, hx⟩
   have hnl : ∀ x, m.has x → ¬ Live H μ x := fun x hx hl => hge x hx (h.live_lt hl)
   obtain ⟨n1, n2, n3, n4, n5⟩ := b1.new hn hnl (fun x hx => (hlv x hx).1) (fun x hx => (hlv x hx).2.1) (fun x hx => (hlv x hx).2.2) rfl (e2.liveM hid rfl hm).2.2
   refine ⟨C2, upd μ i m, qiD (fun x hx m' hm' => ?_) e1 hc, n1, ⟨b3.os, b3.tape, b3.output, b3.size, b3.cl, fun id m' _ hm' => ⟨_, n2 id m' hm', .refl _⟩, fun b hb hnl' => ?_, n3⟩⟩
   ·rw [hin x hx, hm] at hm'; cases hm'
    unfold upd; rw [if_pos rfl]
   ·obtain ⟨f1, f2, f3⟩ := b3.fr b hb hnl'
    refine ⟨f1, fun hl => ?_, f3⟩
    rcases n4 b hl with hl | hl
    ·exact hnl' hl
    ·exact hge _ hl hb
theorem qll [Lent] (h : Wld C μ H w) {C2 : qd} {μ2 : MMap} {w1 : World} {G : AH} (e2 : Wld C2 μ2 G w1) (e3 : Ext 0 C (fun _ => none) [] w C2 μ2 G w1) {nid : Option Nat} {a V : AV} {H' : AH} {v : Value} {i : Nat} (e1 : Rep C2 μ2 a v)
  (hc : qhD G a = some V) (hn : aNew nid H .reg = some (i, H')) : xn C μ H w (rgIn i V) H' v w1 := by
 unfold qhD at hc
 split at hc
 ·rename_i ho; cases hc; exact qmU h e2 e3 e1 ho hn
 ·exact qmV h e2 e3 e1 hc hn
def qiT [Lent] (C : qd) (μ : MMap) (G : AH) (ids : List Nat) : Prop := ∀ id d sz rs, id ∈ ids → G[id]? = some (.rows d sz rs) → ∀ m, μ id = some m → qbw C μ m sz rs ∧ Lent.nw m.block
theorem qju [Lent] {a x : AV} {v : Value} (hr : Rep C μ a v) (h : a.unl = some x) : Rep0 (LC C) x v ∧ x.isCell = true ∧ x.refsLt 0 = true := by
 unfold AV.unl at h
 split at h
 ·cases h; cases hr; exact ⟨.int _ _, rfl, rfl⟩
 ·cases h; cases hr; exact ⟨.bool _, rfl, rfl⟩
 ·cases h; cases hr; exact ⟨.str _, rfl, rfl⟩
 ·cases h; cases hr with | lsl _ _ h0 => exact ⟨h0, rfl, rfl⟩
 ·cases h; exact ⟨hr.toEmp.monoD (fun b o v h => by cases h), rfl, rfl⟩
 ·cases h; cases hr; exact ⟨.slNil, rfl, rfl⟩
 ·cases h; cases hr with | em a cap => exact ⟨.sl [] a cap 0 (fun _ _ => undef) (fun h => absurd rfl h) (fun i row h => by simp at h) (fun i j row x h => by simp at h) (fun i j row x h => by simp at h) (fun i j row x h => by simp at h) (Nat.zero_le _) rfl, rfl, rfl⟩
 ·cases h
theorem qk3 : ∀ {l q : List (List AV)}, unlR l = some q → q.length = l.length ∧ ∀ (i : Nat) r, q[i]? = some r → ∃ a, l[i]? = some a ∧ datL AV.unl a = some r
 | [], q, h => by cases h; exact ⟨rfl, fun i a hi => by simp at hi⟩
 | a :: l, q, h => by
  rw [unlR] at h
  split at h
  ·rename_i x q' hx hq
   cases h
   obtain ⟨h1, h2⟩ := qk3 hq
   refine ⟨by simp [h1], fun i b hi => ?_⟩
   cases i with
   | zero => simp at hi; subst hi; exact ⟨a, rfl, hx⟩
   | succ i => exact h2 i b (by simpa using hi)
  ·cases h
theorem qcg [Lent] {G : AH} {μ' : MMap} {a x : AV} {v : Value} (hf : qiT C μ G a.msId) (hr : Rep C μ a v) (h : qaI G a = some x) : Rep C μ' x.lend v ∧ x.lend.refsLt 0 = true := by
 unfold qaI at h
 split at h
 ·rename_i id off len
  split at h
  case h_2 => cases h
  rename_i d sz rs hid
  split at h
  case isFalse => cases h
  rename_i hle
  rw [quJ] at hle
  obtain ⟨rows, hrows, rfl⟩ := quk.1 h
  obtain ⟨hql, hqg⟩ := qk3 hrows
  have hlen : ((rs.drop off).take len).length = len := by simp; omega
  refine ⟨.lsl rows v ?_, rfl⟩
  cases hr with
  | msN _ _ =>
   have : rows = [] := List.eq_nil_of_length_eq_zero (by rw [hql, hlen])
   subst this; exact .slNil
  | ms _ _ _ cap ad m hm hl ha =>
   obtain ⟨⟨hsz, _, hcell⟩, hnw⟩ := hf id d sz rs (by simp [AV.msId]) hid m hm
   have hrl : rows.length = len := by rw [hql, hlen]
   have addr : ∀ (i : Nat) r, rows[i]? = some r → ad = ⟨m.block, m.base + off * m.sz, none⟩ := fun i r hi => (ha (by have := (quh.1 hi).1; omega)).1
   have cell : ∀ (i j : Nat) r x, rows[i]? = some r → r[j]? = some x → ∃ u, LC C ad.block (ad.off + i * sz + j) = some u ∧ Rep0 (LC C) x u ∧ x.isCell = true := by
    intro i j r x hi hj
    obtain ⟨a0, ha0, hd⟩ := hqg i r hi
    obtain ⟨y, hy, hyx⟩ := qb0 hd hj
    obtain ⟨_, hr0⟩ := q7 ha0
    obtain ⟨_, u, h2, h3⟩ := (hcell _ a0 hr0).2 j y hy
    obtain ⟨k1, k2, _⟩ := qju h3 hyx
    refine ⟨u, ?_, k1, k2⟩
    rw [addr i r hi]
    unfold LC
    rw [if_pos hnw, ← h2]
    simp only
    congr 1
    rw [hsz, Nat.add_mul]; omega
   rw [← hrl] at hl ⊢
   refine .sl rows ad cap sz (fun i j => (LC C ad.block (ad.off + i * sz + j)).getD undef) (fun hne => ?_) (fun i r hi => ?_) (fun i j r x hi hj => ?_) (fun i j r x hi hj => ?_) (fun i j r x hi hj => ?_) hl ?_
   ·cases hx : rows with
    | nil => exact absurd hx hne
    | cons r l => rw [addr 0 r (by rw [hx]; rfl)]
   ·obtain ⟨a0, ha0, hd⟩ := hqg i r hi
    obtain ⟨_, hr0⟩ := q7 ha0
    rw [(qap hd).1]; exact (hcell _ a0 hr0).1
   ·obtain ⟨u, e, _⟩ := cell i j r x hi hj; rw [e]; rfl
   ·obtain ⟨u, e, e2, _⟩ := cell i j r x hi hj; rw [e]; exact e2
   ·obtain ⟨u, _, _, e3⟩ := cell i j r x hi hj; exact e3
   ·rw [yK]
    intro r hr
    obtain ⟨i, hi⟩ := List.getElem?_of_mem hr
    rw [yL]
    intro x hx
    obtain ⟨j, hj⟩ := List.getElem?_of_mem hx
    obtain ⟨a0, ha0, hd⟩ := hqg i r hi
    obtain ⟨y, hy, hyx⟩ := qb0 hd hj
    obtain ⟨_, hr0⟩ := q7 ha0
    obtain ⟨_, u, h2, h3⟩ := (hcell _ a0 hr0).2 j y hy
    exact (qju h3 hyx).2.2
 ·cases h; cases hr with | lsl _ _ h0 => exact ⟨.lsl _ _ h0, rfl⟩
 ·cases h; exact ⟨.lsl [] v (hr.toEmp.monoD (fun b o v h => by cases h)), rfl⟩
 ·cases h; cases hr; exact ⟨.lsl [] _ .slNil, rfl⟩
 ·cases h; cases hr with | em a cap => exact ⟨.lsl [] _ (.sl [] a cap 0 (fun _ _ => undef) (fun h => absurd rfl h) (fun i row h => by simp at h) (fun i j row x h => by simp at h) (fun i j row x h => by simp at h) (fun i j row x h => by simp at h) (Nat.zero_le _) rfl), rfl⟩
 ·cases h; cases hr; exact ⟨.int _ _, rfl⟩
 ·cases h; cases hr; exact ⟨.bool _, rfl⟩
 ·cases h; cases hr; exact ⟨.str _, rfl⟩
 ·cases h
theorem qm1 {G : AH} {a x : AV} (h : qaI G a = some x) : x.lend1 = x.lend := by
 unfold qaI at h
 split at h
 ·split at h
  ·split at h
   ·obtain ⟨rows, _, rfl⟩ := quk.1 h; rfl
   ·cases h
  ·cases h
 all_goals first | (cases h; rfl) | cases h
theorem qlu {G : AH} {a x : AV} (h : qaI G a = some x) : x.lendT = x.lend1 := by
 unfold qaI at h
 split at h
 ·split at h
  ·split at h
   ·obtain ⟨rows, _, rfl⟩ := quk.1 h; rfl
   ·cases h
  ·cases h
 all_goals first | (cases h; rfl) | cases h
theorem qm0 {G : AH} {a x : AV} (h : qcf G a = some x) : x.lendT = x.lend1 := by
 unfold qcf at h
 split at h
 ·obtain ⟨q, _, rfl⟩ := quk.1 h; rfl
 ·exact qlu h
theorem qce [Lent] {G : AH} {μ' : MMap} {a x : AV} {v : Value} (hf : ∀ ids, qiT C μ G ids) (hr : Rep C μ a v) (h : qcf G a = some x) : Rep C μ' x.lend1 v ∧ x.lend1.refsLt 0 = true := by
 unfold qcf at h
 split at h
 ·rename_i cs
  obtain ⟨q, hq, rfl⟩ := quk.1 h
  obtain ⟨hl, hg⟩ := qap hq
  cases hr with
  | agg _ us hlu hh =>
   have key : ∀ (j : Nat) y, q[j]? = some y → ∃ a, cs[j]? = some a ∧ qaI G a = some y := fun j y hj => qb0 hq hj
   refine ⟨Rep.agg _ us (by simp [hl, hlu]) (fun j y u h1 h2 => ?_), ?_⟩
   ·obtain ⟨y, h1', rfl⟩ := qi h1
    obtain ⟨a, ha, hax⟩ := key j y h1'
    exact (qcg (hf _) (hh j a u ha h2) hax).1
   ·show (AV.agg (q.map AV.lend)).refsLt 0 = true
    rw [AV.refsLt, yL]
    intro y hy
    obtain ⟨y, hy', rfl⟩ := List.mem_map.1 hy
    obtain ⟨j, hj⟩ := List.getElem?_of_mem hy'
    obtain ⟨a, ha, hax⟩ := key j y hj
    have hlt : j < us.length := by rw [← hlu]; exact (quh.1 ha).1
    exact (qcg (μ' := μ') (hf _) (hh j a _ ha (quj hlt)) hax).2
 ·have hl : x.lend1 = x.lend := qm1 h
  rw [hl]; exact qcg (hf _) hr h
theorem qmZ [Lent] {G : AH} {μ' : MMap} {a x : AV} {v : Value} (hf : ∀ ids, qiT C μ G ids) (hr : Rep C μ a v) (h : qkw G a = some x) : Rep C μ' x.lendT v ∧ x.lendT.refsLt 0 = true := by
 unfold qkw at h
 split at h
 ·rename_i cs
  obtain ⟨q, hq, rfl⟩ := quk.1 h
  obtain ⟨hl, hg⟩ := qap hq
  cases hr with
  | tup _ us hlu hh =>
   have key : ∀ (j : Nat) y, q[j]? = some y → ∃ a, cs[j]? = some a ∧ qcf G a = some y := fun j y hj => qb0 hq hj
   refine ⟨Rep.tup _ us (by simp [hl, hlu]) (fun j y u h1 h2 => ?_), ?_⟩
   ·obtain ⟨y, h1', rfl⟩ := qi h1
    obtain ⟨a, ha, hax⟩ := key j y h1'
    exact (qce hf (hh j a u ha h2) hax).1
   ·show (AV.tup (q.map AV.lend1)).refsLt 0 = true
    rw [AV.refsLt, yL]
    intro y hy
    obtain ⟨y, hy', rfl⟩ := List.mem_map.1 hy
    obtain ⟨j, hj⟩ := List.getElem?_of_mem hy'
    obtain ⟨a, ha, hax⟩ := key j y hj
    have hlt : j < us.length := by rw [← hlu]; exact (quh.1 ha).1
    exact (qce (μ' := μ') hf (hh j a _ ha (quj hlt)) hax).2
 ·have hl : x.lendT = x.lend1 := qm0 h
  rw [hl]; exact qce hf hr h
theorem qoE [Lent] {G : AH} {w1 : World} (h : Wld C μ G w1) : ∃ C', (∀ b o v, C b o = some v → C' b o = some v) ∧ Wld C' μ (qR (quK G.length) G) w1 ∧ (∀ k, k ≤ G.length → Ext k C μ G w1 C' μ (qR (quK G.length) G) w1) ∧ ∀ ids, qiT C' μ G ids := by
 obtain ⟨C3, a1, a2, a3⟩ := vN (quK G.length) h
 refine ⟨C3, a1, a2, a3, fun ids id d sz rs _ hi m hm => ?_⟩
 have hr : qX G id = some (sz, rs) := by unfold qX; rw [hi]
 exact ⟨(xm.of a2 id sz rs (List.mem_range.2 (quh.1 hi).1) hr).1 m hm, (h.liveH hi rfl hm _ m.has_block).2.2.2⟩
theorem qsd [Lent] {m : MI} {w : World} (h : vT C μ w m .reg) : zr m.D w := by
 have h : ∀ b o v, m.D b o = some v → w.cell? ⟨b, o, none⟩ = some v ∧ w.frozen? ⟨b, o, none⟩ = false := h
 refine ⟨fun b o v hd => ⟨(h b o v hd).2, by rw [(h b o v hd).1]; rfl⟩, fun b o hr => .inl fun j hj => ?_, fun b o _ ⟨x, l, c, hs⟩ => by rw [(h _ _ _ hs).1, hs]⟩
 obtain ⟨⟨k, h0⟩, ⟨n, h1⟩, ⟨s, h2⟩, x, l, c, h3⟩ := hr
 match j, hj with
 | 0, _ => exact (h _ _ _ h0).1.trans h0.symm
 | 1, _ => exact (h _ _ _ h1).1.trans h1.symm
 | 2, _ => exact (h _ _ _ h2).1.trans h2.symm
 | 3, _ => exact (h _ _ _ h3).1.trans h3.symm
 | j + 4, hj => omega
theorem Wld.oneR [Lent] (h : Wld C μ H w) {b0 : ABlk} {id : Nat} (hb0 : b0 = .reg ∨ b0 = .spl) (hi : H[id]? = some b0) : Wld C (fun k => if k = 0 then μ id else none) [.spl] w := by
 have hl0 : b0.live = true := by rcases hb0 with rfl | rfl <;> rfl
 have only : ∀ (k : Nat) b, ([.spl] : AH)[k]? = some b → k = 0 ∧ b = .spl := fun k b hk => by
  cases k with
  | zero => simp at hk; exact ⟨rfl, hk.symm⟩
  | succ k => simp at hk
 refine ⟨h.cl, fun k m hk => ?_, fun k hk => ?_, fun k b hk hb => ?_, fun k d sz rs hk => ?_, fun i i' b b' m m' e1 e2 _ _ _ _ _ _ _ => ?_, fun k b hk => ?_, h.lnt⟩
 ·split at hk
  ·rename_i e; subst e; simp
  ·cases hk
 ·have := (only k _ hk).2; cases this
 ·obtain ⟨rfl, rfl⟩ := only k b hk
  simp only [if_true]
  refine ⟨fun hn => rfl, fun m hm => ?_⟩
  have h4 := (h.liveM hi hl0 hm).2.2
  refine ⟨h.liveH hi hl0 hm, ?_⟩
  rcases hb0 with rfl | rfl
  ·exact qsd h4
  ·exact h4
 ·have := (only k _ hk).2; cases this
 ·rw [(only i b e1).1, (only i' b' e2).1]
 ·obtain ⟨rfl, rfl⟩ := only k b hk
  trivial
theorem Wld.putBackR [Lent] (h : Wld C μ H w) {b0 : ABlk} {id : Nat} (hb0 : b0 = .reg ∨ b0 = .spl) (hi : H[id]? = some b0) {l : AH} {C2 : qd} {μ2 : MMap} {w1 : World}
  (h2 : Wld C2 μ2 (.spl :: l) w1) (hx : Ext 1 C (fun k => if k = 0 then μ id else none) [.spl] w C2 μ2 (.spl :: l) w1) :
  Wld C2 (fun i => if i = id then μ2 0 else μ i) (H.set id .spl) w1 ∧ Ext H.length C μ H w C2 (fun i => if i = id then μ2 0 else μ i) (H.set id .spl) w1 := by
 have hl0 : b0.live = true := by rcases hb0 with rfl | rfl <;> rfl
 have h20 : (ABlk.spl :: l)[0]? = some .spl := rfl
 have hmu : MLe μ (fun i => if i = id then μ2 0 else μ i) := by
  intro i m hm
  by_cases e : i = id
  ·subst e; simp only [↓reduceIte]; exact hx.mu 0 m (by omega) (by simpa using hm)
  ·simp only [if_neg e]; exact ⟨m, hm, .refl m⟩
 have nl : ∀ b, (∀ m, μ id = some m → ¬ m.has b) → ¬ Live [.spl] (fun k => if k = 0 then μ id else none) b := by
  rintro b hb ⟨i, bi, mi, e1, _, e3, e4⟩
  simp only at e3
  split at e3
  ·exact hb _ e3 e4
  ·cases e3
 have hlen : id < H.length := (quh.1 hi).1
 have aux : ∀ (j : Nat) bj, (H.set id .spl)[j]? = some bj → (j = id ∧ bj = .spl) ∨ (j ≠ id ∧ H[j]? = some bj) := by
  intro j bj hj
  rw [qur] at hj
  split at hj
  ·rename_i e; subst e
   try rw [if_pos hlen] at hj
   cases hj; exact .inl ⟨rfl, rfl⟩
  ·rename_i e; exact .inr ⟨fun e' => e e'.symm, hj⟩
 have apart : ∀ (j : Nat) bj mj, j ≠ id → H[j]? = some bj → bj.live = true → μ j = some mj → ∀ x, mj.has x → x < w.heap.size ∧ ¬ Live [.spl] (fun k => if k = 0 then μ id else none) x := by
  intro j bj mj hne e hb f1 x hxj
  exact ⟨(h.liveH e hb f1 x hxj).1, nl _ fun m hm he => hne (h.inj j id bj _ mj m e hi hb hl0 f1 hm x hxj he)⟩
 refine ⟨⟨h2.cl, fun j mj hj => ?_, fun j hj => ?_, fun j b hj hb => ?_, fun j d sz rs hj => ?_, fun i i' b b' m1 m2 e1 e2 e3 e4 e5 e6 x e7 e8 => ?_, ?_, h2.lnt⟩,
  ⟨hx.os, hx.tape, hx.output, hx.size, hx.cl, fun i m _ hm => hmu i m hm, fun b hb hnl => ?_, by simp⟩⟩
 ·simp only [List.length_set]
  by_cases e : j = id
  ·subst e; exact hlen
  ·rw [if_neg e] at hj; exact h.dom j mj hj
 ·rcases aux j _ hj with ⟨_, e⟩ | ⟨hne, e⟩
  ·cases e
  ·simp only [if_neg hne]; exact h.res j e
 ·rcases aux j b hj with ⟨rfl, rfl⟩ | ⟨hne, e⟩
  ·simp only [if_true]
   refine ⟨fun _ => rfl, fun m hm => ⟨h2.liveH h20 rfl hm, (h2.liveM h20 rfl hm).2.2⟩⟩
  ·simp only [if_neg hne]
   refine ⟨(h.live j b e hb).1, fun mj f1 => ?_⟩
   obtain ⟨f2, f4⟩ := (h.live j b e hb).2 mj f1
   have q := fun x (hxj : mj.has x) => hx.fr x (f2 x hxj).1 (apart j b mj hne e hb f1 x hxj).2
   exact ⟨fun x hxj => ⟨Nat.lt_of_lt_of_le (f2 x hxj).1 hx.size, fun o => by rw [(q x hxj).2.2]; exact (f2 x hxj).2.1 o, (f2 x hxj).2.2⟩, f4.monoG hx.cl hmu (fun x hxj => (q x hxj).1)⟩
 ·rcases aux j _ hj with ⟨_, e⟩ | ⟨hne, e⟩
  ·cases e
  ·simp only [if_neg hne]
   refine ⟨(h.froz j d sz rs e).1, fun mj f1 => ?_⟩
   obtain ⟨f2, f3, f4⟩ := (h.froz j d sz rs e).2 mj f1
   exact ⟨f2, f3, f4.monoG hx.cl hmu (fun i j row x hi' hj' => by
    obtain ⟨_, v, hv, _⟩ := (f4 i row hi').2 j x hj'
    exact (hx.cl _ _ _ hv).trans hv.symm)⟩
 ·have cross : ∀ (j : Nat) bj mj m0, j ≠ id → H[j]? = some bj → bj.live = true → μ j = some mj → μ2 0 = some m0 → ∀ x, m0.has x → ¬ mj.has x := by
   intro j bj mj m0 hne e hb f1 hm0 x hx0 hxj
   obtain ⟨f2, f3⟩ := apart j bj mj hne e hb f1 x hxj
   exact (hx.fr x f2 f3).2.1 ⟨0, _, m0, h20, rfl, hm0, hx0⟩
  rcases aux i b e1 with ⟨rfl, rfl⟩ | ⟨hne, e⟩ <;> rcases aux i' b' e2 with ⟨rfl, rfl⟩ | ⟨hne', e'⟩
  ·rfl
  ·rw [if_pos rfl] at e5; rw [if_neg hne'] at e6
   exact (cross i' b' m2 m1 hne' e' e4 e6 e5 x e7 e8).elim
  ·rw [if_neg hne] at e5; rw [if_pos rfl] at e6
   exact (cross i b m1 m2 hne e e3 e5 e6 x e8 e7).elim
  ·rw [if_neg hne] at e5; rw [if_neg hne'] at e6
   exact h.inj i i' b b' m1 m2 e e' e3 e4 e5 e6 x e7 e8
 ·exact h.free.set (b := .spl) trivial
 ·obtain ⟨q1, q2, q3⟩ := hx.fr b hb (nl b fun m hm e => hnl ⟨id, _, m, hi, hl0, hm, e⟩)
  refine ⟨q1, fun hl => ?_, q3⟩
  obtain ⟨j, bj, mj, e1, e2, e3, e5⟩ := hl
  simp only at e3
  rcases aux j bj e1 with ⟨rfl, rfl⟩ | ⟨hne, e⟩
  ·rw [if_pos rfl] at e3
   exact q2 ⟨0, _, mj, h20, rfl, e3, e5⟩
  ·rw [if_neg hne] at e3
   exact hnl ⟨j, bj, mj, e, e2, e3, e5⟩
theorem Wld.oneB [Lent] (h : Wld C μ H w) {T e0 : TypeId} {s : List UInt8} {id : Nat} (hi : H[id]? = some (.bld T e0 s)) : Wld C (fun k => if k = 0 then μ id else none) [.bld T e0 s] w := by
 have hl0 : (ABlk.bld T e0 s).live = true := rfl
 have only : ∀ (k : Nat) b, ([.bld T e0 s] : AH)[k]? = some b → k = 0 ∧ b = .bld T e0 s := fun k b hk => by
  cases k with
  | zero => simp at hk; exact ⟨rfl, hk.symm⟩
  | succ k => simp at hk
 refine ⟨h.cl, fun k m hk => ?_, fun k hk => ?_, fun k b hk hb => ?_, fun k d sz rs hk => ?_, fun i i' b b' m m' e1 e2 _ _ _ _ _ _ _ => ?_, fun k b hk => ?_, h.lnt⟩
 ·split at hk
  ·rename_i e; subst e; simp
  ·cases hk
 ·have := (only k _ hk).2; cases this
 ·obtain ⟨rfl, rfl⟩ := only k b hk
  simp only [if_true]
  exact ⟨fun hn => (h.live id _ hi hl0).1 hn, fun m hm => ⟨h.liveH hi hl0 hm, (h.liveM hi hl0 hm).2.2⟩⟩
 ·have := (only k _ hk).2; cases this
 ·rw [(only i b e1).1, (only i' b' e2).1]
 ·obtain ⟨rfl, rfl⟩ := only k b hk
  trivial
theorem Wld.putBackB [Lent] (h : Wld C μ H w) {T e0 : TypeId} {s s' : List UInt8} {id : Nat} (hi : H[id]? = some (.bld T e0 s)) {l : AH} {C2 : qd} {μ2 : MMap} {w1 : World}
  (h2 : Wld C2 μ2 (.bld T e0 s' :: l) w1) (hx : Ext 1 C (fun k => if k = 0 then μ id else none) [.bld T e0 s] w C2 μ2 (.bld T e0 s' :: l) w1) :
  Wld C2 (fun i => if i = id then μ2 0 else μ i) (H.set id (.bld T e0 s')) w1 ∧ Ext H.length C μ H w C2 (fun i => if i = id then μ2 0 else μ i) (H.set id (.bld T e0 s')) w1 := by
 have hl0 : (ABlk.bld T e0 s).live = true := rfl
 have h20 : (ABlk.bld T e0 s' :: l)[0]? = some (.bld T e0 s') := rfl
 have hmu : MLe μ (fun i => if i = id then μ2 0 else μ i) := by
  intro i m hm
  by_cases e : i = id
  ·subst e; simp only [↓reduceIte]; exact hx.mu 0 m (by omega) (by simpa using hm)
  ·simp only [if_neg e]; exact ⟨m, hm, .refl m⟩
 have nl : ∀ b, (∀ m, μ id = some m → ¬ m.has b) → ¬ Live [.bld T e0 s] (fun k => if k = 0 then μ id else none) b := by
  rintro b hb ⟨i, bi, mi, e1, _, e3, e4⟩
  simp only at e3
  split at e3
  ·exact hb _ e3 e4
  ·cases e3
 have hlen : id < H.length := (quh.1 hi).1
 have aux : ∀ (j : Nat) bj, (H.set id (.bld T e0 s'))[j]? = some bj → (j = id ∧ bj = .bld T e0 s') ∨ (j ≠ id ∧ H[j]? = some bj) := by
  intro j bj hj
  rw [qur] at hj
  split at hj
  ·rename_i e; subst e
   try rw [if_pos hlen] at hj
   cases hj; exact .inl ⟨rfl, rfl⟩
  ·rename_i e; exact .inr ⟨fun e' => e e'.symm, hj⟩
 have apart : ∀ (j : Nat) bj mj, j ≠ id → H[j]? = some bj → bj.live = true → μ j = some mj → ∀ x, mj.has x → x < w.heap.size ∧ ¬ Live [.bld T e0 s] (fun k => if k = 0 then μ id else none) x := by
  intro j bj mj hne e hb f1 x hxj
  exact ⟨(h.liveH e hb f1 x hxj).1, nl _ fun m hm he => hne (h.inj j id bj _ mj m e hi hb hl0 f1 hm x hxj he)⟩
 refine ⟨⟨h2.cl, fun j mj hj => ?_, fun j hj => ?_, fun j b hj hb => ?_, fun j d sz rs hj => ?_, fun i i' b b' m1 m2 e1 e2 e3 e4 e5 e6 x e7 e8 => ?_, ?_, h2.lnt⟩,
  ⟨hx.os, hx.tape, hx.output, hx.size, hx.cl, fun i m _ hm => hmu i m hm, fun b hb hnl => ?_, by simp⟩⟩
 ·simp only [List.length_set]
  by_cases e : j = id
  ·subst e; exact hlen
  ·rw [if_neg e] at hj; exact h.dom j mj hj
 ·rcases aux j _ hj with ⟨_, e⟩ | ⟨hne, e⟩
  ·cases e
  ·simp only [if_neg hne]; exact h.res j e
 ·rcases aux j b hj with ⟨rfl, rfl⟩ | ⟨hne, e⟩
  ·simp only [if_true]
   refine ⟨(h2.live 0 _ h20 rfl).1, fun m hm => ⟨h2.liveH h20 rfl hm, (h2.liveM h20 rfl hm).2.2⟩⟩
  ·simp only [if_neg hne]
   refine ⟨(h.live j b e hb).1, fun mj f1 => ?_⟩
   obtain ⟨f2, f4⟩ := (h.live j b e hb).2 mj f1
   have q := fun x (hxj : mj.has x) => hx.fr x (f2 x hxj).1 (apart j b mj hne e hb f1 x hxj).2
   exact ⟨fun x hxj => ⟨Nat.lt_of_lt_of_le (f2 x hxj).1 hx.size, fun o => by rw [(q x hxj).2.2]; exact (f2 x hxj).2.1 o, (f2 x hxj).2.2⟩, f4.monoG hx.cl hmu (fun x hxj => (q x hxj).1)⟩
 ·rcases aux j _ hj with ⟨_, e⟩ | ⟨hne, e⟩
  ·cases e
  ·simp only [if_neg hne]
   refine ⟨(h.froz j d sz rs e).1, fun mj f1 => ?_⟩
   obtain ⟨f2, f3, f4⟩ := (h.froz j d sz rs e).2 mj f1
   exact ⟨f2, f3, f4.monoG hx.cl hmu (fun i j row x hi' hj' => by
    obtain ⟨_, v, hv, _⟩ := (f4 i row hi').2 j x hj'
    exact (hx.cl _ _ _ hv).trans hv.symm)⟩
 ·have cross : ∀ (j : Nat) bj mj m0, j ≠ id → H[j]? = some bj → bj.live = true → μ j = some mj → μ2 0 = some m0 → ∀ x, m0.has x → ¬ mj.has x := by
   intro j bj mj m0 hne e hb f1 hm0 x hx0 hxj
   obtain ⟨f2, f3⟩ := apart j bj mj hne e hb f1 x hxj
   exact (hx.fr x f2 f3).2.1 ⟨0, _, m0, h20, rfl, hm0, hx0⟩
  rcases aux i b e1 with ⟨rfl, rfl⟩ | ⟨hne, e⟩ <;> rcases aux i' b' e2 with ⟨rfl, rfl⟩ | ⟨hne', e'⟩
  ·rfl
  ·rw [if_pos rfl] at e5; rw [if_neg hne'] at e6
   exact (cross i' b' m2 m1 hne' e' e4 e6 e5 x e7 e8).elim
  ·rw [if_neg hne] at e5; rw [if_pos rfl] at e6
   exact (cross i b m1 m2 hne e e3 e5 e6 x e8 e7).elim
  ·rw [if_neg hne] at e5; rw [if_neg hne'] at e6
   exact h.inj i i' b b' m1 m2 e e' e3 e4 e5 e6 x e7 e8
 ·exact h.free.set (b := .bld T e0 s') trivial
 ·obtain ⟨q1, q2, q3⟩ := hx.fr b hb (nl b fun m hm e => hnl ⟨id, _, m, hi, hl0, hm, e⟩)
  refine ⟨q1, fun hl => ?_, q3⟩
  obtain ⟨j, bj, mj, e1, e2, e3, e5⟩ := hl
  simp only at e3
  rcases aux j bj e1 with ⟨rfl, rfl⟩ | ⟨hne, e⟩
  ·rw [if_pos rfl] at e3
   exact q2 ⟨0, _, mj, h20, rfl, e3, e5⟩
  ·rw [if_neg hne] at e3
   exact hnl ⟨j, bj, mj, e, e2, e3, e5⟩
theorem qgi {cf : Orac} {f : Nat} : ∀ {l : List AV}, zw cf f l = some () → ∀ (i : Nat) a, l[i]? = some a → ∃ G, cf (.f f) [a] [.spl] = some (.tup [], .spl :: G)
 | [], _, i, a, h => by simp at h
 | b :: l, h, i, a, hi => by
  rw [zw] at h
  obtain ⟨q, h1, h⟩ := quf.1 h
  obtain ⟨u, h2, h⟩ := quf.1 h
  cases i with
  | zero =>
   simp at hi; subst hi
   obtain ⟨r, G⟩ := q
   unfold qi7 at h2
   split at h2
   ·rename_i e1 e2
    simp only at e1 e2
    subst e1 e2
    exact ⟨_, h1⟩
   ·cases h2
  | succ i => exact qgi h i a (by simpa using hi)
theorem Rep.altOf [Lent] {a : AV} {v : Value} (h : Rep C μ a v) : ∃ (i : Nat) (x : AV), a.alts[i]? = some x ∧ Rep C μ x v := by
 by_cases e : ∃ l, a = .alt l
 ·obtain ⟨l, rfl⟩ := e
  cases h with | alt _ i x _ ha h => exact ⟨i, x, ha, h⟩
 ·refine ⟨0, a, ?_, h⟩
  cases a <;> first | rfl | exact absurd ⟨_, rfl⟩ e
theorem qhN [Lent] {cfg : Cfg} {cf : Orac} (hO : qaf cfg cf) {f : FuncId} {a : AV} {vs : Array Value} {s : Sem Next} (ha : qo C μ [a] vs) (h : Wld C μ H w) (hs : s = callFunc f vs) {id : Nat} {l : List Nat} (hids : qM 0 a.alts = id :: l) (hall : vO [id] l = true)
    {b0 : ABlk} (hb0 : b0 = .reg ∨ b0 = .spl) (hi : H[id]? = some b0) (ho : zw cf f (renL (fun _ => 0) a.alts) = some ()) : vP cfg.P s w (xn C μ H w (.tup []) (H.set id .spl)) := by
  obtain ⟨hl, hv⟩ := ha
  obtain ⟨v, rfl⟩ : ∃ v, vs = #[v] := by
    obtain ⟨l⟩ := vs
    match l, hl with
    | [x], _ => exact ⟨x, rfl⟩
  obtain ⟨i, x, hx, hr⟩ := (hv 0 a v rfl rfl).altOf
  have hin : ∀ y ∈ qM 0 a.alts, y ∈ [id] := by
    rw [hids]
    intro y hy
    rcases quH.1 hy with rfl | hy
    · simp
    · exact (vI.1 hall) y hy
  have hx' : (renL (fun _ => 0) a.alts)[i]? = some (x.ren fun _ => 0) := by rw [yJ, List.getElem?_map, hx]; rfl
  obtain ⟨G, hG⟩ := qgi ho i _ hx'
  have ha' : qo C (fun k => if k = 0 then μ id else none) [x.ren fun _ => 0] #[v] := ⟨rfl, fun j c u h1 h2 => by
    match j, h1, h2 with
    | 0, h1, h2 =>
      simp at h1 h2
      subst h1 h2
      refine hr.renm (k := 0) (L := [id]) (fun y my hy hmy => ?_) (fun y hy => hin y (yc hx y hy))
      have : y = id := by rcases hy with hy | hy; · omega
                          · simpa using hy
      subst this
      simpa using hmy
    | j + 1, h1, h2 => simp at h1⟩
  refine (hO _ _ _ _ _ hG C _ w #[v] s ha' (h.oneR hb0 hi) hs).mono fun v w1 ⟨C2, μ2, e1, e2, e3⟩ => ?_
  obtain ⟨b1, b2⟩ := h.putBackR hb0 hi e2 e3
  refine ⟨C2, _, ?_, b1, b2⟩
  exact e1.free _ (by simp [AV.refsLt, qt])
theorem qr9 {id : Nat} (hi : H[id]? = some .spl) : H.set id .spl = H := by
 apply List.ext_getElem?
 intro i
 rw [qur]
 split
 ·rename_i e; subst e; rw [hi, if_pos (quh.1 hi).1]
 ·rfl
theorem qjv {args : List AV} {s : List Nat × AH} (h : zz H args = some s) : s.1 = vn H args := by
 unfold zz at h
 split at h
 ·split at h
  ·cases h; rfl
  ·cases h
 ·cases h
theorem qeH {L : List Nat} {G : AH} : ∀ (H : AH) (i j : Nat), (qan L G i H)[j]? = (H[j]?).map fun b => match q5 (i + j) 0 L with
  | some p => (match G[p]? with | some b' => b'.ren (vZ L) | none => .dead)
  | none => b
 | [], i, j => by simp [qan]
 | b :: H, i, j => by
  rw [qan]
  cases j with
  | zero => simp only [List.getElem?_cons_zero, quz, Nat.add_zero]; rfl
  | succ j =>
   rw [quF, quF, qeH H (i + 1) j, show i + 1 + j = i + (j + 1) by omega]
theorem qaB {L : List Nat} {G : AH} (H : AH) (j : Nat) : (x7 H L G)[j]? = (H[j]?).map fun b => match q5 j 0 L with
  | some p => (match G[p]? with | some b' => b'.ren (vZ L) | none => .dead)
  | none => b := by
 unfold x7
 rw [qeH, Nat.zero_add]
theorem qeG {L : List Nat} {G : AH} : ∀ (H : AH) (i : Nat), (qan L G i H).length = H.length
 | [], _ => rfl
 | b :: H, i => by rw [qan, quM, quM, qeG H (i + 1)]
theorem qdJ {L : List Nat} {G : AH} (H : AH) : (x7 H L G).length = H.length := qeG H 0
theorem Wld.places [Lent] (h : Wld C μ H w) (n : Nat) : Wld C μ (H ++ quB n .res) w where
 cl := h.cl
 lnt := h.lnt
 dom := fun id m hm => by have := h.dom id m hm; simp; omega
 res := fun id hi => by
  rcases Nat.lt_or_ge id H.length with hlt | hge
  ·rw [qup hlt] at hi; exact h.res id hi
  ·cases hm : μ id with
   | none => rfl
   | some m => have := h.dom id m hm; omega
 live := fun id blk h1 h2 => by
  rcases Nat.lt_or_ge id H.length with hlt | hge
  ·rw [qup hlt] at h1; exact h.live id blk h1 h2
  ·rw [qut hge] at h1
   have := quv h1
   rw [List.mem_replicate] at this
   rw [this.2] at h2; cases h2
 free := fun id b h1 => by
  rcases Nat.lt_or_ge id H.length with hlt | hge
  ·rw [qup hlt] at h1; exact h.free id b h1
  ·rw [qut hge] at h1
   have := quv h1
   rw [List.mem_replicate] at this
   rw [this.2]; trivial
 froz := fun id d sz rs h1 => by
  rcases Nat.lt_or_ge id H.length with hlt | hge
  ·rw [qup hlt] at h1; exact h.froz id d sz rs h1
  ·rw [qut hge] at h1
   have := quv h1
   rw [List.mem_replicate] at this
   cases this.2
 inj := fun i i' b b' m m' h1 h2 h3 h4 => by
  have aux : ∀ (j : Nat) bj, (H ++ quB n .res)[j]? = some bj → bj.live = true → H[j]? = some bj := by
   intro j bj hj hl
   rcases Nat.lt_or_ge j H.length with hlt | hge
   ·rw [qup hlt] at hj; exact hj
   ·rw [qut hge] at hj
    have := quv hj
    rw [List.mem_replicate] at this
    rw [this.2] at hl; cases hl
  exact h.inj i i' b b' m m' (aux i b h1 h3) (aux i' b' h2 h4) h3 h4
theorem Live.places {n b : Nat} (h : Live (H ++ quB n .res) μ b) : Live H μ b := by
 obtain ⟨j, bj, m, h1, h2, h3, h4⟩ := h
 rcases Nat.lt_or_ge j H.length with hlt | hge
 ·rw [qup hlt] at h1; exact ⟨j, bj, m, h1, h2, h3, h4⟩
 ·rw [qut hge] at h1
  have := quv h1
  rw [List.mem_replicate] at this
  rw [this.2] at h2; cases h2
theorem xf {L : List Nat} (hnd : L.Nodup) {i p : Nat} : q5 i 0 L = some p ↔ L[p]? = some i := by
 constructor
 ·intro h
  simpa using (yn h).2
 ·intro h
  obtain ⟨q, hq⟩ := zv (k := 0) (quv h)
  have h2 : L[q]? = some i := by simpa using (yn hq).2
  have e1 := (quh.1 h)
  have e2 := (quh.1 h2)
  obtain ⟨l1, e1⟩ := e1
  obtain ⟨l2, e2⟩ := e2
  have hpw := List.pairwise_iff_getElem.1 hnd
  rcases Nat.lt_trichotomy q p with hlt | heq | hgt
  ·exact absurd (e2.trans e1.symm) (hpw _ _ l2 l1 hlt)
  ·rw [hq, heq]
  ·exact absurd (e1.trans e2.symm) (hpw _ _ l1 l2 hgt)
theorem qlq {L : List Nat} {i : Nat} (h : q5 i 0 L = none) : i ∉ L := fun hm => by
 obtain ⟨p, hp⟩ := zv (k := 0) hm
 rw [h] at hp; cases hp
theorem qlo {L : List Nat} {i p : Nat} (h : q5 i 0 L = some p) : q4 0 L i = p := by
 unfold q4
 rw [if_neg (by simp [quL]), h]
theorem qk5 {L : List Nat} (hnd : L.Nodup) : ∀ id m, (id < 0 ∨ id ∈ L) → μ id = some m → (fun i => (L[i]?).bind μ) (q4 0 L id) = some m := by
 intro id m hid hm
 have hin : id ∈ L := hid.resolve_left (by omega)
 obtain ⟨p, hp⟩ := zv (k := 0) hin
 show (L[q4 0 L id]?).bind μ = some m
 rw [qlo hp, (xf hnd).1 hp]
 exact hm
theorem Wld.subL [Lent] (h : Wld C μ H w) {L : List Nat} {bs : AH} (hnd : L.Nodup) (hbs : xj H L = some bs) (hbk : ∀ x ∈ vS 0 bs, x ∈ L) :
  Wld C (fun i => (L[i]?).bind μ) (renH (q4 0 L) bs) w := by
 obtain ⟨hbl, hbg⟩ := xQ hbs
 have hμ := qk5 (μ := μ) hnd
 have src : ∀ (i : Nat) b', (renH (q4 0 L) bs)[i]? = some b' → ∃ o b, H[o]? = some b ∧ b' = b.ren (q4 0 L) ∧ L[i]? = some o ∧ ∀ x ∈ b.idsGe 0, x ∈ L := by
  intro i b' hi
  rw [xJ] at hi
  obtain ⟨b, hb, rfl⟩ := qi hi
  have hil : i < L.length := by rw [← hbl]; exact (quh.1 hb).1
  obtain ⟨o, ho⟩ : ∃ o, L[i]? = some o := ⟨_, quj hil⟩
  obtain ⟨b2, e1, e2⟩ := hbg _ _ ho
  rw [hb] at e2; cases e2
  exact ⟨o, b, e1, rfl, ho, fun x hx => hbk x (zY hb x hx)⟩
 refine ⟨h.cl, fun id m hm => ?_, fun i hi => ?_, fun i b hi hb => ?_, fun i d sz rs hi => ?_, fun i i' b b' m m' hi hi' hb hb' hm hm' x hx hx' => ?_, fun i b hi => ?_, h.lnt⟩
 ·have hm' : (L[id]?).bind μ = some m := hm
  rw [xJ, quI, hbl]
  cases hl : L[id]? with
  | none => rw [hl] at hm'; cases hm'
  | some o => exact (quh.1 hl).1
 ·obtain ⟨o, b, e1, e2, e3, _⟩ := src i _ hi
  have : b = .res := by cases b <;> simp [ABlk.ren] at e2; rfl
  subst this
  show (L[i]?).bind μ = none
  rw [e3]; exact h.res o e1
 ·obtain ⟨o, b0, e1, rfl, e3, e4⟩ := src i _ hi
  rw [xL] at hb
  have : (L[i]?).bind μ = μ o := by rw [e3]; rfl
  rw [this]
  refine ⟨fun hn => by rw [qbG]; exact (h.live o b0 e1 hb).1 hn, fun m h1 => ?_⟩
  obtain ⟨h2, h4⟩ := (h.live o b0 e1 hb).2 m h1
  exact ⟨h2, h4.renm hμ e4 (h.free.get e1)⟩
 ·obtain ⟨o, b0, e1, e2, e3, e4⟩ := src i _ hi
  cases b0 <;> simp [ABlk.ren] at e2
  obtain ⟨rfl, rfl, rfl⟩ := e2
  have : (L[i]?).bind μ = μ o := by rw [e3]; rfl
  rw [this]
  refine ⟨fun hn => ?_, fun m h1 => ?_⟩
  ·have := (h.froz o _ _ _ e1).1 hn
   subst this
   cases d <;> rfl
  obtain ⟨h2, h3, h4⟩ := (h.froz o _ _ _ e1).2 m h1
  cases d with
  | true => exact ⟨h2, h3, h4.free _ (h.free.get e1 rfl)⟩
  | false => exact ⟨h2, by simp only [quo, if_false]; rw [zF, quI]; exact h3, by simp only [quo, if_false]; exact h4.renm hμ (by simpa [ABlk.idsGe] using e4)⟩
 ·obtain ⟨o, b0, e1, rfl, e3, _⟩ := src i _ hi
  obtain ⟨o', b0', e1', rfl, e3', _⟩ := src i' _ hi'
  rw [xL] at hb hb'
  have q1 : (L[i]?).bind μ = some m := hm
  have q2 : (L[i']?).bind μ = some m' := hm'
  rw [e3] at q1; rw [e3'] at q2
  have := h.inj o o' b0 b0' m m' e1 e1' hb hb' q1 q2 x hx hx'
  subst this
  have a1 := (xf hnd).2 e3
  have a2 := (xf hnd).2 e3'
  rw [a1] at a2
  exact Option.some.inj a2
 ·obtain ⟨o, b0, e1, rfl, _, _⟩ := src i _ hi
  exact qd7 (h.free.get e1)
theorem Wld.putL [Lent] (h : Wld C μ H w) {L N : List Nat} {bs G : AH} (hnd : (L ++ N).Nodup) (hbs : xj H L = some bs) (hkd : bs.all qdo = true) (hN : ∀ i ∈ N, H[i]? = some .res) {C2 : qd} {μ2 : MMap} {w1 : World}
  (hG : G.length = (L ++ N).length) (hin : ∀ x ∈ vS 0 G, x ∈ quK G.length) (h2 : Wld C2 μ2 G w1) (hx : Ext L.length C (fun i => (L[i]?).bind μ) (renH (q4 0 L) bs) w C2 μ2 G w1) :
  Wld C2 (fun i => match q5 i 0 (L ++ N) with | some p => μ2 p | none => μ i) (x7 H (L ++ N) G) w1 ∧ Ext H.length C μ H w C2 (fun i => match q5 i 0 (L ++ N) with | some p => μ2 p | none => μ i) (x7 H (L ++ N) G) w1 := by
 obtain ⟨hbl, hbg⟩ := xQ hbs
 have inL : ∀ (p i : Nat), L[p]? = some i → ∃ b, H[i]? = some b ∧ b.live = true := by
  intro p i hp
  obtain ⟨b, e1, e2⟩ := hbg p i hp
  have := List.all_eq_true.1 hkd b (quv e2)
  exact ⟨b, e1, by cases b <;> simp [qdo] at this <;> rfl⟩
 have hmu : MLe μ (fun i => match q5 i 0 (L ++ N) with | some p => μ2 p | none => μ i) := by
  intro i m hm
  cases hp : q5 i 0 (L ++ N) with
  | none => exact ⟨m, by simp only [hp]; exact hm, .refl m⟩
  | some p =>
   have hLp := (xf hnd).1 hp
   have hLp : L[p]? = some i := by
    rw [List.getElem?_append] at hLp
    split at hLp
    ·exact hLp
    ·have := h.res i (hN i (quv hLp))
     rw [hm] at this; cases this
   obtain ⟨m', e1, e2⟩ := hx.mu p m (quh.1 hLp).1 (by show (L[p]?).bind μ = some m; rw [hLp]; exact hm)
   exact ⟨m', by simp only [hp]; exact e1, e2⟩
 have nl : ∀ b, (∀ (p i : Nat) m, L[p]? = some i → μ i = some m → ¬ m.has b) → ¬ Live (renH (q4 0 L) bs) (fun i => (L[i]?).bind μ) b := by
  rintro b hb ⟨i, bi, mi, e1, _, e3, e4⟩
  have e3' : (L[i]?).bind μ = some mi := e3
  cases hl : L[i]? with
  | none => rw [hl] at e3'; cases e3'
  | some o => rw [hl] at e3'; exact hb i o mi hl e3' e4
 have aux : ∀ (j : Nat) bj, (x7 H (L ++ N) G)[j]? = some bj → (∃ p b', q5 j 0 (L ++ N) = some p ∧ G[p]? = some b' ∧ bj = b'.ren (vZ (L ++ N))) ∨ (q5 j 0 (L ++ N) = none ∧ H[j]? = some bj) := by
  intro j bj hj
  rw [qaB] at hj
  obtain ⟨b, hb, hj⟩ := quk.1 hj
  cases hp : q5 j 0 (L ++ N) with
  | none => rw [hp] at hj; cases hj; exact .inr ⟨rfl, hb⟩
  | some p =>
   rw [hp] at hj
   have hlt : p < G.length := by rw [hG]; exact (quh.1 ((xf hnd).1 hp)).1
   simp only [quj hlt] at hj
   exact .inl ⟨p, G[p], rfl, quj hlt, hj.symm⟩
 have inG : ∀ {p : Nat} {b' : ABlk}, G[p]? = some b' → G[p]? = some b' := fun h => h
 have apart : ∀ (j : Nat) bj mj, q5 j 0 (L ++ N) = none → H[j]? = some bj → bj.live = true → μ j = some mj → ∀ x, mj.has x → x < w.heap.size ∧ ¬ Live (renH (q4 0 L) bs) (fun i => (L[i]?).bind μ) x := by
  intro j bj mj hne e hb f1 x hxj
  refine ⟨(h.liveH e hb f1 x hxj).1, nl _ fun p i m hp hm he => ?_⟩
  obtain ⟨b, e1, e2⟩ := inL p i hp
  have := h.inj j i bj b mj m e e1 hb e2 f1 hm x hxj he
  subst this
  exact qlq hne (quA.2 (.inl (quv hp)))
 have hσ : ∀ id m, (id < 0 ∨ id ∈ quK G.length) → μ2 id = some m → (fun i => match q5 i 0 (L ++ N) with | some p => μ2 p | none => μ i) (vZ (L ++ N) id) = some m := by
  intro id m hid hm
  have hlt : id < (L ++ N).length := by rw [← hG]; simpa using hid
  have hb : vZ (L ++ N) id = (L ++ N)[id] := by unfold vZ; rw [List.getD_eq_getElem?_getD, quj hlt]; rfl
  have hp : q5 (vZ (L ++ N) id) 0 (L ++ N) = some id := by rw [hb, xf hnd]; exact quj hlt
  simp only [hp]
  exact hm
 refine ⟨⟨h2.cl, fun j mj hj => ?_, fun j hj => ?_, fun j b hj hb => ?_, fun j d sz rs hj => ?_, fun i i' b b' m1 m2 e1 e2 e3 e4 e5 e6 x e7 e8 => ?_, fun j b hj => ?_, h2.lnt⟩,
  ⟨hx.os, hx.tape, hx.output, hx.size, hx.cl, fun i m _ hm => hmu i m hm, fun b hb hnl => ?_, by rw [qdJ]; exact qum _⟩⟩
 ·rw [qdJ]
  cases hp : q5 j 0 (L ++ N) with
  | none => simp only [hp] at hj; exact h.dom j mj hj
  | some p =>
   have hLp := (xf hnd).1 hp
   rw [List.getElem?_append] at hLp
   split at hLp
   ·obtain ⟨b, e1, _⟩ := inL p j hLp
    exact (quh.1 e1).1
   ·exact (quh.1 (hN j (quv hLp))).1
 ·rcases aux j _ hj with ⟨p, b', hp, hg, e⟩ | ⟨hp, e⟩
  ·have : b' = .res := by cases b' <;> simp [ABlk.ren] at e; rfl
   subst this
   simp only [hp]; exact h2.res p (inG hg)
  ·simp only [hp]; exact h.res j e
 ·rcases aux j b hj with ⟨p, b', hp, hg, rfl⟩ | ⟨hp, e⟩
  ·simp only [hp]
   rw [xL] at hb
   refine ⟨fun hn => by rw [qbG]; exact (h2.live p b' (inG hg) hb).1 hn, fun m hm => ?_⟩
   obtain ⟨g1, g2⟩ := (h2.live p b' (inG hg) hb).2 m hm
   exact ⟨g1, g2.renm (k := 0) hσ (fun x hx => hin x (zY hg x hx)) (h2.free.get (inG hg))⟩
  ·simp only [hp]
   refine ⟨(h.live j b e hb).1, fun mj f1 => ?_⟩
   obtain ⟨f2, f4⟩ := (h.live j b e hb).2 mj f1
   have q := fun x (hxj : mj.has x) => hx.fr x (f2 x hxj).1 (apart j b mj hp e hb f1 x hxj).2
   exact ⟨fun x hxj => ⟨Nat.lt_of_lt_of_le (f2 x hxj).1 hx.size, fun o => by rw [(q x hxj).2.2]; exact (f2 x hxj).2.1 o, (f2 x hxj).2.2⟩, f4.monoG hx.cl hmu (fun x hxj => (q x hxj).1)⟩
 ·rcases aux j _ hj with ⟨p, b', hp, hg, e⟩ | ⟨hp, e⟩
  ·cases b' <;> simp [ABlk.ren] at e
   obtain ⟨rfl, rfl, rfl⟩ := e
   simp only [hp]
   refine ⟨fun hn => ?_, fun m h1 => ?_⟩
   ·have := (h2.froz p _ _ _ (inG hg)).1 hn
    subst this
    cases d <;> rfl
   obtain ⟨g2, g3, g4⟩ := (h2.froz p _ _ _ (inG hg)).2 m h1
   cases d with
   | true => exact ⟨g2, g3, g4.free _ (h2.free.get (inG hg) rfl)⟩
   | false => exact ⟨g2, by simp only [quo, if_false]; rw [zF, quI]; exact g3, by simp only [quo, if_false]; exact g4.renm (k := 0) hσ (fun x hx => hin x (zY hg x (by simpa [ABlk.idsGe] using hx)))⟩
  ·simp only [hp]
   refine ⟨(h.froz j d sz rs e).1, fun mj f1 => ?_⟩
   obtain ⟨f2, f3, f4⟩ := (h.froz j d sz rs e).2 mj f1
   exact ⟨f2, f3, f4.monoG hx.cl hmu (fun i j row x hi' hj' => by
    obtain ⟨_, v, hv, _⟩ := (f4 i row hi').2 j x hj'
    exact (hx.cl _ _ _ hv).trans hv.symm)⟩
 ·have cross : ∀ (j : Nat) bj mj (p : Nat) bp m0, q5 j 0 (L ++ N) = none → H[j]? = some bj → bj.live = true → μ j = some mj → G[p]? = some bp → bp.live = true → μ2 p = some m0 → ∀ x, m0.has x → ¬ mj.has x := by
   intro j bj mj p bp m0 hne e hb f1 hg hbp hm0 x hx0 hxj
   obtain ⟨f2, f3⟩ := apart j bj mj hne e hb f1 x hxj
   exact (hx.fr x f2 f3).2.1 ⟨p, _, m0, inG hg, hbp, hm0, hx0⟩
  rcases aux i b e1 with ⟨p, c, hp, hg, rfl⟩ | ⟨hp, e⟩ <;> rcases aux i' b' e2 with ⟨p', c', hp', hg', rfl⟩ | ⟨hp', e'⟩
  ·simp only [hp] at e5
   simp only [hp'] at e6
   rw [xL] at e3 e4
   have := h2.inj p p' c c' m1 m2 (inG hg) (inG hg') e3 e4 e5 e6 x e7 e8
   subst this
   have a1 := (xf hnd).1 hp
   have a2 := (xf hnd).1 hp'
   rw [a1] at a2
   exact Option.some.inj a2
  ·simp only [hp] at e5
   simp only [hp'] at e6
   rw [xL] at e3
   exact (cross i' b' m2 p c m1 hp' e' e4 e6 hg e3 e5 x e7 e8).elim
  ·simp only [hp] at e5
   simp only [hp'] at e6
   rw [xL] at e4
   exact (cross i b m1 p' c' m2 hp e e3 e5 hg' e4 e6 x e8 e7).elim
  ·simp only [hp] at e5
   simp only [hp'] at e6
   exact h.inj i i' b b' m1 m2 e e' e3 e4 e5 e6 x e7 e8
 ·rcases aux j b hj with ⟨p, b', hp, hg, rfl⟩ | ⟨hp, e⟩
  ·exact qd7 (h2.free.get (inG hg))
  ·exact h.free.get e
 ·obtain ⟨q1, q2, q3⟩ := hx.fr b hb (nl b fun p i m hp hm e => by
   obtain ⟨bi, a1, a2⟩ := inL p i hp
   exact hnl ⟨i, bi, m, a1, a2, hm, e⟩)
  refine ⟨q1, fun hl => ?_, q3⟩
  obtain ⟨j, bj, mj, e1, e2, e3, e5⟩ := hl
  rcases aux j bj e1 with ⟨p, b', hp, hg, rfl⟩ | ⟨hp, e⟩
  ·simp only [hp] at e3
   rw [xL] at e2
   exact q2 ⟨p, b', mj, inG hg, e2, e3, e5⟩
  ·simp only [hp] at e3
   exact hnl ⟨j, bj, mj, e, e2, e3, e5⟩
theorem qk6 [Lent] {n : Nat} {q p : AV × AH} {v : Value} {w1 : World} {C0 C2 : qd} {μ0 μ2 : MMap} {G0 : AH} {w0 : World} (e1 : Rep C2 μ2 q.1 v) (e2 : Wld C2 μ2 q.2 w1) (e3 : Ext n C0 μ0 G0 w0 C2 μ2 q.2 w1) (hp : qhs n q = some p) :
  ∃ C3 μ4, Rep C3 μ4 p.1 v ∧ Wld C3 μ4 p.2 w1 ∧ Ext n C0 μ0 G0 w0 C3 μ4 p.2 w1 ∧ (∀ x ∈ vS 0 p.2, x ∈ quK p.2.length) ∧ (∀ x ∈ p.1.idsGe 0, x ∈ quK p.2.length) ∧ n ≤ p.2.length ∧ True := by
 obtain ⟨C3, a1, a2, a3⟩ := vN (qhu n q.1) e2
 have e5 := (e1.mono a1 (fun _ _ h => h)).frzA (xm.of a2)
 have hx := e3.trans (a3 n e3.len) (qum _)
 have hf : qo C3 μ2 [q.1.frz (qhu n q.1) q.2] #[v] := ⟨rfl, fun i a u h1 h2 => by
  cases i with
  | zero => simp at h1 h2; subst h1; subst h2; exact e5
  | succ i => simp at h1⟩
 obtain ⟨μ4, g1, g2, g3, g4, g5⟩ := qgS a2 hf n hx.len
 unfold qhs at hp
 split at hp
 case h_2 => cases hp
 rename_i r G hg
 split at hp
 case isFalse => cases hp
 rename_i hd
 cases hp
 rw [hg] at g1 g2 g4 g5
 rw [que, que, vI, vI, quJ] at hd
 obtain ⟨⟨hd1, hd2⟩, hd3⟩ := hd
 refine ⟨C3, μ4, g2.2 0 r v rfl rfl, g1, ⟨hx.os, hx.tape, hx.output, hx.size, hx.cl, fun id m hid hm => let ⟨m', e4, e5⟩ := hx.mu id m hid hm; ⟨m', g3 id m' hid e4, e5⟩, fun b hb hnl => ?_, g5⟩, hd3, hd2, hd1, trivial⟩
 obtain ⟨f1, f2, f3⟩ := hx.fr b hb hnl
 exact ⟨f1, fun hl => f2 (g4 b hl), f3⟩
theorem qad {H2 : AH} : ∀ {L : List Nat}, (∀ id ∈ L, H2[id]? = H[id]?) → xj H2 L = xj H L
 | [], _ => rfl
 | a :: L, h => by rw [xj, xj, h a (by simp), qad fun id hi => h id (by simp [hi])]
theorem qeq (k g : Nat) : ((quK g).map fun j => k + j).Nodup := by
 rw [List.nodup_iff_pairwise_ne, List.pairwise_map]
 exact List.Pairwise.imp (fun h e => h (by omega)) (List.nodup_iff_pairwise_ne.1 List.nodup_range)
theorem qcv {nid : Option Nat} {g : Nat} {pl : List Nat × AH} (h : xR nid H g = some pl) :
  ∃ H1 N, (∀ (i : Nat) b, H[i]? = some b → H1[i]? = some b) ∧ N.Nodup ∧ (∀ i ∈ N, H1[i]? = some .res) ∧ N.length = g ∧ pl = (N, H1) := by
 unfold xR at h
 split at h
 ·cases h
  refine ⟨_, _, fun i b hi => ?_, qeq _ _, fun i hi => ?_, by simp, rfl⟩
  ·rw [qup (quh.1 hi).1]; exact hi
  ·obtain ⟨j, hj, rfl⟩ := List.mem_map.1 hi
   rw [qut (by omega), Nat.add_sub_cancel_left, List.getElem?_replicate, if_pos (by simpa using hj)]
 ·split at h
  case isFalse => cases h
  rename_i hc
  cases h
  rw [que, List.all_eq_true] at hc
  refine ⟨_, _, fun i b hi => hi, qeq _ _, fun i hi => ?_, by simp, rfl⟩
  obtain ⟨j, hj, rfl⟩ := List.mem_map.1 hi
  have := hc.2 j hj
  unfold qoS at this
  split at this
  ·assumption
  ·cases this
theorem qel [Lent] (h : Wld C μ H w) {nid : Option Nat} {g : Nat} {pl : List Nat × AH} (hp : xR nid H g = some pl) : Wld C μ pl.2 w ∧ Ext H.length C μ H w C μ pl.2 w ∧ H.length ≤ pl.2.length := by
 unfold xR at hp
 split at hp
 ·cases hp
  exact ⟨h.places _, ⟨rfl, rfl, rfl, qum _, fun _ _ _ h => h, fun _ _ _ h => ⟨_, h, .refl _⟩, fun b _ hnl => ⟨rfl, fun hl => hnl hl.places, rfl⟩, by simp⟩, by simp⟩
 ·split at hp
  ·cases hp
   exact ⟨h, Ext.refl (qum _), qum _⟩
  ·cases hp
theorem qfe [Lent] (h : Wld C μ H w) {fr : List AV} {tmps : Array Value} (hf : qo C μ fr tmps) (k : Nat) (hk : k ≤ H.length) : ∃ μ', Wld C μ' (gc k fr H).2 w ∧ qo C μ' (gc k fr H).1 tmps ∧ Ext k C μ H w C μ' (gc k fr H).2 w := by
 obtain ⟨μ', g1, g2, g3, g4, g5⟩ := qgS h hf k hk
 exact ⟨μ', g1, g2, ⟨rfl, rfl, rfl, qum _, fun _ _ _ h => h, fun id m hid hm => ⟨m, g3 id m hid hm, .refl m⟩, fun b _ hnl => ⟨rfl, fun hl => hnl (g4 b hl), rfl⟩, g5⟩⟩
theorem qo.setA [Lent] {fr : List AV} {tmps : Array Value} (h : qo C μ fr tmps) {i : Nat} {a : AV} (ha : ∀ v, tmps[i]? = some v → Rep C μ a v) : qo C μ (fr.set i a) tmps := by
 refine ⟨by simpa using h.1, fun j x v e1 e2 => ?_⟩
 rw [qur] at e1
 split at e1
 ·rename_i e
  subst e
  split at e1
  ·cases e1; exact ha v e2
  ·cases e1
 ·exact h.2 j x v e1 e2
theorem Wld.reRow [Lent] (h : Wld C μ H w) {id n : Nat} {d : Bool} {rs rs' : List (List AV)} (hi : H[id]? = some (.rows d n rs)) (hne : rs ≠ []) (hr : ∀ m, μ id = some m → vT C μ w m (.rows d n rs) → vT C μ w m (.rows false n rs')) :
  Wld C μ (H.set id (.rows false n rs')) w ∧ ∀ j, j ≤ H.length → Ext j C μ H w C μ (H.set id (.rows false n rs')) w := by
 obtain ⟨m, hm, h1, h2, h3⟩ := h.liveX hi rfl (by cases rs <;> first | rfl | exact absurd rfl hne)
 exact ⟨h.setBlk hi rfl rfl hm rfl (fun _ _ => rfl) (hr m hm h3) (fun hd => by cases hd), fun j hj => Ext.setBlk h hi rfl hm rfl (fun _ _ => rfl) rfl rfl rfl hj⟩
theorem qgm [Lent] (h : Wld C μ H w) {fr : List AV} {tmps : Array Value} (hf : qo C μ fr tmps) (t sz : Nat) :
  Wld C μ (xW t sz fr H).2 w ∧ qo C μ (xW t sz fr H).1 tmps ∧ H.length ≤ (xW t sz fr H).2.length ∧ ∀ j, j ≤ H.length → Ext j C μ H w C μ (xW t sz fr H).2 w := by
 have triv : Wld C μ H w ∧ qo C μ fr tmps ∧ H.length ≤ H.length ∧ ∀ j, j ≤ H.length → Ext j C μ H w C μ H w := ⟨h, hf, qum _, fun j hj => Ext.refl hj⟩
 unfold xW
 split
 ·rename_i hn
  obtain ⟨n1, n2⟩ := h.newV (nid := none) (blk := .rows true sz []) rfl rfl rfl (fun _ => rfl)
  refine ⟨n1, hf.setA fun v hv => ?_, by simp, n2⟩
  have := hf.2 t _ v hn hv
  cases this
  exact .msN _ _
 ·rename_i id r off hp
  split
  ·rename_i d n rs hi
   split
   ·rename_i row hr
    split
    ·rename_i ho
     have hne : rs ≠ [] := by rintro rfl; simp at hr
     obtain ⟨r1, r2⟩ := h.reRow (rs' := rs.set r (row.set off (.ms H.length 0 0))) hi hne (fun m hm hb => by
      obtain ⟨b1, b2, b3, b4⟩ := hb
      refine ⟨b1, by simpa using b2, fun i row' hi' => ?_, b4⟩
      rw [qur] at hi'
      split at hi'
      ·rename_i e
       subst e
       split at hi'
       ·cases hi'
        refine ⟨by simpa using (b3 r row hr).1, fun j x hj => ?_⟩
        rw [qur] at hj
        split at hj
        ·rename_i e2
         subst e2
         split at hj
         ·cases hj
          obtain ⟨_, v, c2, c3⟩ := (b3 r row hr).2 off _ ho
          refine ⟨rfl, v, c2, ?_⟩
          cases c3
          exact .msN _ _
         ·cases hj
        ·exact (b3 r row hr).2 j x hj
       ·cases hi'
      ·exact b3 i row' hi')
     obtain ⟨n1, n2⟩ := r1.newV (nid := none) (blk := .rows true sz []) rfl rfl rfl (fun _ => rfl)
     exact ⟨n1, hf, by simp, fun j hj => (r2 j hj).trans (n2 j (by simpa using hj)) (qum _)⟩
    ·exact triv
   ·exact triv
  ·exact triv
 ·exact triv
theorem qm4 [Lent] (h : Wld C μ H w) (id off sz : Nat) :
  Wld C μ (xW 0 sz [.ptr id 0 off] H).2 w ∧ H.length ≤ (xW 0 sz [.ptr id 0 off] H).2.length ∧ ∀ j, j ≤ H.length → Ext j C μ H w C μ (xW 0 sz [.ptr id 0 off] H).2 w := by
 cases hm : μ id with
 | some m =>
  have hf : qo C μ [.ptr id 0 off] #[.pointer (some ⟨m.block, m.base + 0 * m.sz + off, none⟩)] := ⟨rfl, fun i a v h1 h2 => by
   cases i with
   | zero => simp at h1 h2; subst h1; subst h2; simpa using Rep.ptr id 0 off m hm
   | succ i => simp at h1⟩
  obtain ⟨a1, _, a3, a4⟩ := qgm h hf 0 sz
  exact ⟨a1, a3, a4⟩
 | none =>
  have e : (xW 0 sz [.ptr id 0 off] H).2 = H := by
   unfold xW
   simp only [List.getElem?_cons_zero]
   split
   ·rename_i d n rs hi
    split
    ·rename_i row hr
     obtain ⟨m, hm', _⟩ := h.liveX hi rfl (qcR hr)
     rw [hm] at hm'; cases hm'
    ·rfl
   ·rfl
  rw [e]
  exact ⟨h, qum _, fun j hj => Ext.refl hj⟩
theorem qgl [Lent] : ∀ (ls : List (Nat × Nat × Nat)) {H : AH}, Wld C μ H w → Wld C μ (qhW ls H) w ∧ H.length ≤ (qhW ls H).length ∧ ∀ j, j ≤ H.length → Ext j C μ H w C μ (qhW ls H) w
 | [], H, h => ⟨h, qum _, fun j hj => Ext.refl hj⟩
 | p :: l, H, h => by
  obtain ⟨a1, a3, a4⟩ := qm4 h p.1 p.2.1 p.2.2
  obtain ⟨b1, b3, b4⟩ := qgl l a1
  exact ⟨b1, Nat.le_trans a3 b3, fun j hj => (a4 j hj).trans (b4 j (Nat.le_trans hj a3)) (qum _)⟩
mutual
theorem AV.idsGe_ren (ρ : Nat → Nat) : ∀ a : AV, (a.ren ρ).idsGe 0 = (a.idsGe 0).map ρ
 | .agg cs => by simp only [AV.ren, AV.idsGe]; exact yd ρ cs
 | .tup cs => by simp only [AV.ren, AV.idsGe]; exact yd ρ cs
 | .sl _ => rfl
 | .ms id _ _ => rfl
 | .ptr id _ _ => rfl
 | .cptr cs _ => by simp only [AV.ren, AV.idsGe]; exact yd ρ cs
 | .fn _ a b => by simp only [AV.ren, AV.idsGe]; rw [yd ρ a, yd ρ b, List.map_append]
 | .yld id => rfl
 | .mp id => rfl
 | .ifc _ v => by simp only [AV.ren, AV.idsGe]; exact AV.idsGe_ren ρ v
 | .rsl id _ => rfl
 | .rpt id _ _ => rfl
 | .alt l => by simp only [AV.ren, AV.idsGe]; exact yd ρ l
 | .wr _ v => by simp only [AV.ren, AV.idsGe]; exact AV.idsGe_ren ρ v
 | .int _ _ => rfl
 | .bool _ => rfl
 | .str _ => rfl
 | .nilS => rfl
 | .em => rfl
 | .nilP => rfl
 | .nilF => rfl
 | .nilM => rfl
 | .nilI => rfl
 | .lsl _ => rfl
 | .lpt _ _ => rfl
 | .junk => rfl
theorem yd (ρ : Nat → Nat) : ∀ l : List AV, qM 0 (renL ρ l) = (qM 0 l).map ρ
 | [] => rfl
 | a :: l => by rw [renL, qM, qM, List.map_append, AV.idsGe_ren ρ a, yd ρ l]
end
theorem qd3 (ρ : Nat → Nat) : ∀ l : List (List AV), xw 0 (renR ρ l) = (xw 0 l).map ρ
 | [] => rfl
 | a :: l => by rw [renR, xw, xw, List.map_append, yd ρ a, qd3 ρ l]
theorem ABlk.idsGe_ren (ρ : Nat → Nat) (b : ABlk) : (b.ren ρ).idsGe 0 = (b.idsGe 0).map ρ := by
 cases b with
 | rows d n rs => cases d with
  | true => rfl
  | false => simp only [ABlk.ren, ABlk.idsGe, quo, if_false]; exact qd3 ρ rs
 | froz d n rs => cases d with
  | true => rfl
  | false => simp only [ABlk.ren, ABlk.idsGe, quo, if_false]; exact qd3 ρ rs
 | mp d es => cases d with
  | true => rfl
  | false =>
   simp only [ABlk.ren, ABlk.idsGe, quo, if_false]
   induction es with
   | nil => rfl
   | cons e es ih => simp only [List.map_cons, List.flatMap_cons, List.map_append, AV.idsGe_ren]; rw [ih]
 | loop f fr ps a b p s => simp only [ABlk.ren, ABlk.idsGe]; exact yd ρ fr
 | _ => rfl
theorem qhS {k x : Nat} : ∀ {H : AH}, x ∈ vS k H → ∃ (j : Nat) (b : ABlk), H[j]? = some b ∧ x ∈ b.idsGe k
 | [], h => by simp [vS] at h
 | b :: l, h => by
  rw [vS, quA] at h
  rcases h with h | h
  ·exact ⟨0, b, rfl, h⟩
  ·obtain ⟨j, c, e1, e2⟩ := qhS h
   exact ⟨j + 1, c, e1, e2⟩
theorem qlt [Lent] {k : Nat} {q p : AV × AH} {v : Value} {w1 : World} {C0 C2 : qd} {μ0 μ2 : MMap} {G0 : AH} {w0 : World} (e1 : Rep C2 μ2 q.1 v) (e2 : Wld C2 μ2 q.2 w1) (e3 : Ext k C0 μ0 G0 w0 C2 μ2 q.2 w1) (hp : qhO k q = some p) :
  ∃ C3 μ4, Rep C3 μ4 p.1 v ∧ Wld C3 μ4 p.2 w1 ∧ Ext k C0 μ0 G0 w0 C3 μ4 p.2 w1 ∧ (∀ x ∈ vS 0 p.2, x ∈ quK p.2.length) ∧ (∀ x ∈ p.1.idsGe 0, x ∈ quK p.2.length) ∧ k ≤ p.2.length := by
 obtain ⟨C3, a1, a2, a3⟩ := vN q.1.msIds e2
 have e5 := ((e1.mono a1 (fun _ _ h => h)).frzA (xm.of a2)).fgA
 have hx := e3.trans (a3 k e3.len) (qum _)
 have hf : qo C3 μ2 [(q.1.frz q.1.msIds q.2).fg] #[v] := ⟨rfl, fun i a u h1 h2 => by
  cases i with
  | zero => simp at h1 h2; subst h1; subst h2; exact e5
  | succ i => simp at h1⟩
 obtain ⟨μ4, g1, g2, g3⟩ := qfe a2 hf k hx.len
 unfold qhO qfK at hp
 split at hp
 case h_2 => cases hp
 rename_i r G hg
 split at hp
 case isFalse => cases hp
 rename_i hd
 cases hp
 rw [hg] at g1 g2 g3
 rw [que, que, vI, vI, quJ] at hd
 obtain ⟨⟨hd1, hd2⟩, hd3⟩ := hd
 exact ⟨C3, μ4, g2.2 0 r v rfl rfl, g1, hx.trans g3 (qum _), hd3, hd2, hd1⟩
theorem Wld.moved [Lent] (h : Wld C μ H w) {F : AH} {ρ : Nat → Nat} {μ' : MMap} (hρ : ∀ o, μ' (ρ o) = μ o) (hdom : ∀ id m, μ' id = some m → id < F.length)
  (hF : ∀ (j : Nat) b', F[j]? = some b' → b' = .dead ∨ ∃ o b, H[o]? = some b ∧ b' = b.ren ρ ∧ ρ o = j) : Wld C μ' F w := by
 have hσ : ∀ (L : List Nat) id m, (id < 0 ∨ id ∈ L) → μ id = some m → μ' (ρ id) = some m := fun L id m _ hm => (hρ id).trans hm
 refine ⟨h.cl, hdom, fun j hj => ?_, fun j b hj hb => ?_, fun j d sz rs hj => ?_, fun i i' b b' m m' hi hi' hb hb' hm hm' x hx hx' => ?_, fun j b hj => ?_, h.lnt⟩
 ·rcases hF j _ hj with e | ⟨o, b, e1, e2, rfl⟩
  ·cases e
  ·have : b = .res := by cases b <;> simp [ABlk.ren] at e2; rfl
   subst this
   rw [hρ]; exact h.res o e1
 ·rcases hF j _ hj with e | ⟨o, b0, e1, rfl, rfl⟩
  ·subst e; cases hb
  ·rw [xL] at hb
   rw [hρ]
   refine ⟨fun hn => by rw [qbG]; exact (h.live o b0 e1 hb).1 hn, fun m hm => ?_⟩
   obtain ⟨g1, g2⟩ := (h.live o b0 e1 hb).2 m hm
   exact ⟨g1, g2.renm (k := 0) (hσ _) (fun x hx => hx) (h.free.get e1)⟩
 ·rcases hF j _ hj with e | ⟨o, b0, e1, e, rfl⟩
  ·cases e
  ·cases b0 <;> simp [ABlk.ren] at e
   obtain ⟨rfl, rfl, rfl⟩ := e
   rw [hρ]
   refine ⟨fun hn => ?_, fun m h1 => ?_⟩
   ·have := (h.froz o _ _ _ e1).1 hn
    subst this
    cases d <;> rfl
   obtain ⟨g2, g3, g4⟩ := (h.froz o _ _ _ e1).2 m h1
   cases d with
   | true => exact ⟨g2, g3, g4.free _ (h.free.get e1 rfl)⟩
   | false => exact ⟨g2, by simp only [quo, if_false]; rw [zF, quI]; exact g3, by simp only [quo, if_false]; exact g4.renm (k := 0) (hσ _) (fun x hx => hx)⟩
 ·rcases hF i _ hi with e | ⟨o, b0, e1, rfl, rfl⟩
  ·subst e; cases hb
  rcases hF i' _ hi' with e | ⟨o', b0', e1', rfl, rfl⟩
  ·subst e; cases hb'
  rw [xL] at hb hb'
  rw [hρ] at hm hm'
  rw [h.inj o o' b0 b0' m m' e1 e1' hb hb' hm hm' x hx hx']
 ·rcases hF j _ hj with e | ⟨o, b0, e1, rfl, rfl⟩
  ·subst e; trivial
  ·exact qd7 (h.free.get e1)
theorem Wld.moved_live [Lent] {F : AH} {ρ : Nat → Nat} {μ' : MMap} (hρ : ∀ o, μ' (ρ o) = μ o) (hF : ∀ (j : Nat) b', F[j]? = some b' → b' = .dead ∨ ∃ o b, H[o]? = some b ∧ b' = b.ren ρ ∧ ρ o = j) {b : Nat} (hl : Live F μ' b) : Live H μ b := by
 obtain ⟨j, bj, m, e1, e2, e3, e4⟩ := hl
 rcases hF j _ e1 with e | ⟨o, b0, f1, rfl, rfl⟩
 ·subst e; cases e2
 ·rw [xL] at e2
  rw [hρ] at e3
  exact ⟨o, b0, m, f1, e2, e3, e4⟩
theorem qmY {k n : Nat} {G : AH} (hk : k ≤ G.length) (hkn : k ≤ n) {j : Nat} {b' : ABlk} (h : (xK k n G)[j]? = some b') : b' = .dead ∨ ∃ o b, G[o]? = some b ∧ b' = b.ren (xS k n) ∧ xS k n o = j := by
 unfold xK at h
 rw [xJ, xJ, List.getElem?_append] at h
 have hl : ((G.take k).map (ABlk.ren (xS k n))).length = k := by simp; omega
 split at h
 ·rename_i hlt
  obtain ⟨b, hb, rfl⟩ := qi h
  rw [List.getElem?_take] at hb
  split at hb
  ·rename_i hj
   exact .inr ⟨j, b, hb, rfl, by unfold xS; rw [if_pos (by simpa [quL] using hj)]⟩
  ·cases hb
 ·rename_i hge
  rw [hl] at h hge
  rw [List.getElem?_append] at h
  split at h
  ·rw [List.getElem?_replicate] at h
   split at h
   ·cases h; exact .inl rfl
   ·cases h
  ·rename_i hge2
   simp only [List.length_replicate] at h hge2
   obtain ⟨b, hb, rfl⟩ := qi h
   rw [List.getElem?_drop] at hb
   refine .inr ⟨_, b, hb, rfl, ?_⟩
   unfold xS
   rw [if_neg (by simp [quL])]
   omega
theorem qgj {k n : Nat} {G : AH} (hk : k ≤ G.length) (hkn : k ≤ n) : (xK k n G).length = n + (G.length - k) := by
 unfold xK
 rw [xJ, xJ]
 simp
 omega
theorem qka [Lent] {k n : Nat} {G G0 : AH} {C0 C3 : qd} {μ0 μ4 : MMap} {w0 w1 : World} (hn : G0.length = n) (hd0 : ∀ id m, μ0 id = some m → id < n) (hk : k ≤ G.length) (hkn : k ≤ n) (h : Wld C3 μ4 G w1) (hx : Ext k C0 μ0 G0 w0 C3 μ4 G w1)
  (hin : ∀ x ∈ vS 0 G, x ∈ quK G.length) :
  ∃ μ5, Wld C3 μ5 (xK k n G) w1 ∧ Ext n C0 μ0 G0 w0 C3 μ5 (xK k n G) w1 ∧ (∀ o, μ5 (xS k n o) = μ4 o) ∧ ∀ x ∈ vS 0 (xK k n G), x ∈ quK (xK k n G).length := by
 have hρ : ∀ o, (fun i => if i < k then μ4 i else if i < n then μ0 i else μ4 (i - (n - k)) : MMap) (xS k n o) = μ4 o := fun o => by
  unfold xS
  by_cases ho : o < k
  ·rw [if_pos (by simpa [quL] using ho)]; simp only [if_pos ho]
  ·rw [if_neg (by simpa [quL] using ho)]
   show (if o + (n - k) < k then _ else if o + (n - k) < n then _ else μ4 (o + (n - k) - (n - k))) = _
   rw [if_neg (by omega), if_neg (by omega), Nat.add_sub_cancel]
 have hF := fun (j : Nat) b' (hj : (xK k n G)[j]? = some b') => qmY hk hkn hj
 have hlen := qgj (n := n) hk hkn
 refine ⟨fun i => if i < k then μ4 i else if i < n then μ0 i else μ4 (i - (n - k)), h.moved hρ (fun id m hm => ?_) hF, ⟨hx.os, hx.tape, hx.output, hx.size, hx.cl, fun id m hid hm => ?_, fun b hb hnl => ?_, by rw [hlen]; omega⟩, hρ, fun x hx' => ?_⟩
 ·rw [hlen]
  have hm : (if id < k then μ4 id else if id < n then μ0 id else μ4 (id - (n - k))) = some m := hm
  split at hm
  ·omega
  ·split at hm
   ·have := hd0 _ _ hm; omega
   ·have := h.dom _ _ hm; omega
 ·by_cases h1 : id < k
  ·obtain ⟨m', e1, e2⟩ := hx.mu id m h1 hm
   exact ⟨m', by show (if id < k then _ else _) = _; rw [if_pos h1]; exact e1, e2⟩
  ·exact ⟨m, by show (if id < k then _ else if id < n then _ else _) = _; rw [if_neg h1, if_pos hid]; exact hm, .refl m⟩
 ·obtain ⟨f1, f2, f3⟩ := hx.fr b hb hnl
  exact ⟨f1, fun hl => f2 (Wld.moved_live hρ hF hl), f3⟩
 ·obtain ⟨j, b', hj, hb'⟩ := qhS hx'
  rcases hF j b' hj with e | ⟨o, b, e1, rfl, rfl⟩
  ·subst e; simp [ABlk.idsGe] at hb'
  ·rw [ABlk.idsGe_ren] at hb'
   obtain ⟨y, hy, rfl⟩ := List.mem_map.1 hb'
   have := hin y (zY e1 y hy)
   rw [List.mem_range] at this ⊢
   rw [hlen]
   unfold xS
   split
   ·rename_i hb; simp [quL] at hb; omega
   ·omega
theorem qgw [Lent] {cfg : Cfg} {cf : Orac} (hO : qaf cfg cf) {nid : Option Nat} {t : Tgt} {args : List AV} {vs : Array Value} {s : Sem Next} {r : AV} (ha : qo C μ args vs) (h : Wld C μ H w) (ht : qr4 μ t vs s)
    (he : qU cfg cf nid t args H = some (r, H')) : vP cfg.P s w (xn C μ H w r H') := by
  have imp : ∀ {r1 : AV} {H1 : AH} {v : Value} {w1 : World}, qab nid H.length r1 H1 = some (r, H') → xn C μ H w r1 H1 v w1 → xn C μ H w r H' v w1 := by
    intro r1 H1 v w1 hi ⟨C1, μ1, e1, e2, e3⟩
    have hf : qo C1 μ1 [r1] #[v] := ⟨rfl, fun i a u h1 h2 => by
      cases i with
      | zero => simp at h1 h2; subst h1; subst h2; exact e1
      | succ i => simp at h1⟩
    obtain ⟨μ', g1, g2, g3, g4, g5⟩ := qgS e2 hf H.length e3.len
    have fin : ∀ {r' : AV} {H2 : AH}, gc H.length [r1] H1 = ([r'], H2) → xn C μ H w r' H2 v w1 := by
      intro r' H2 hg
      rw [hg] at g1 g2 g4 g5
      refine ⟨C1, μ', g2.2 0 r' v rfl rfl, g1, ⟨e3.os, e3.tape, e3.output, e3.size, e3.cl, fun id m hid hm => let ⟨m', e4, e5⟩ := e3.mu id m hid hm; ⟨m', g3 id m' hid e4, e5⟩, fun b hb hnl => ?_, g5⟩⟩
      obtain ⟨f1, f2, f3⟩ := e3.fr b hb hnl
      exact ⟨f1, fun hl => f2 (g4 b hl), f3⟩
    unfold qab at hi
    split at hi
    · rename_i r' H2 hg
      split at hi
      · cases hi; exact fin hg
      · split at hi
        · cases hi; exact fin hg
        · cases hi
    · cases hi
  unfold qU at he
  split at he
  · rename_i id
    obtain ⟨q, hq, hi⟩ := quf.1 he
    exact (hO _ _ _ _ _ hq C μ w vs s ha h ht).mono fun v w1 hp => imp hi hp
  · rename_i f
    split at he
    · -- scal
      split at he
      case isFalse => cases he
      rename_i hfree
      obtain ⟨q, hq, hi⟩ := quf.1 he
      split at hi
      case isFalse => cases hi
      rename_i hsc
      cases hi
      obtain ⟨C1, a1, a2, a3⟩ := vN (quK H.length) h
      have hrg := qmG (C1 := C1) h a2.cl
      have hall := (xm.of a2).mono (C' := yr C1 μ H w) (fun _ _ _ h => qhg h)
      replace a1 : ∀ b o v, C b o = some v → yr C1 μ H w b o = some v := fun b o v hh => qhg (a1 b o v hh)
      have hnil : Wld (yr C1 μ H w) (fun _ => none) [] w := { cl := fun b o v hh => qkT a2.cl hh, dom := (fun id m hm => nomatch hm), res := fun id hi => rfl, live := (fun id blk h1 => by simp at h1), froz := (fun id d sz rs h1 => by simp at h1), inj := (fun i i' b b' m m' h1 => by simp at h1), free := yT.nil, lnt := ⟨h.lnt.1, fun hu b o v hn hh => qmF h (fun o v => a2.lnt.2.1 hu b o v hn) hh, h.lnt.2.2⟩ }
      have hid : ∀ id, id < H.length → id ∈ quK H.length := fun id h => List.mem_range.2 h
      have ha1 : qo (yr C1 μ H w) μ (args.map fun a => (a.snap H).fg) vs := ⟨by simpa using ha.1, fun i a v h1 h2 => by
        obtain ⟨b, hb, rfl⟩ := qi h1
        exact (((ha.2 i b v hb h2).mono a1 (fun _ _ h => h)).snapA hrg hid hall).fgA⟩
      refine (hO _ _ _ _ _ hq _ (fun _ => none) w vs s (ha1.free _ hfree) hnil ht).mono fun v w1 ⟨C2, μ2, e1, e2, e3⟩ => ?_
      have hfr : ∀ b, b < w.heap.size → w1.heap[b]? = w.heap[b]? := fun b hb => (e3.fr b hb yo).1
      exact ⟨C, μ, e1.scalarA hsc, h.world e3.size (fun b hb => hfr b hb), ⟨e3.os, e3.tape, e3.output, e3.size, fun _ _ _ h => h, fun _ _ _ h => ⟨_, h, .refl _⟩, fun b hb hnl => ⟨hfr b hb, hnl, rfl⟩, qum _⟩⟩
    · -- pfrz
      split at he
      case isFalse => cases he
      rename_i hfree
      obtain ⟨q, hq, hi⟩ := quf.1 he
      split at hi
      case isFalse => cases hi
      rename_i hrf
      cases hi
      refine (hO _ _ _ _ _ hq C (fun _ => none) w vs s (ha.fg.free _ hfree) h.nil ht).mono fun v w1 ⟨C2, μ2, e1, e2, e3⟩ => ?_
      obtain ⟨C3, a1, a2, a3⟩ := vN q.1.msIds e2
      obtain ⟨b1, b2⟩ := h.back (e3.trans (a3 0 (Nat.zero_le _)) (qum _)) a2
      exact ⟨C3, μ, ((e1.mono a1 (fun _ _ h => h)).frzA (xm.of a2)).fgA.free μ hrf, b1, b2 _ (qum _)⟩
    · -- pown
      split at he
      case isFalse => cases he
      rename_i hfree
      obtain ⟨q, hq, hi⟩ := quf.1 he
      refine (hO _ _ _ _ _ hq C (fun _ => none) w vs s (ha.free _ hfree) h.nil ht).mono fun v w1 ⟨C2, μ2, e1, e2, e3⟩ => ?_
      unfold qcd at hi
      split at hi
      · rename_i a sc hqr
        split at hi
        case isFalse => cases hi
        rename_i hsc
        obtain ⟨p, hp, hpe⟩ := quk.1 hi
        cases hpe
        rw [hqr] at e1
        cases e1 with
        | tup _ vs hl hr =>
          match vs, hl, hr with
          | [va, vb], _, hr =>
            obtain ⟨C3, μ3, f1, f2, f3⟩ := qhL h e2 e3 (hr 0 a va rfl rfl) hp
            refine ⟨C3, μ3, ?_, f2, f3⟩
            have := Rep.tup (C := C3) (μ := μ3) [p.1, sc] [va, vb] rfl (fun i x u hx hu => by
              match i, hx, hu with
              | 0, hx, hu => simp at hx hu; subst hx hu; exact f1
              | 1, hx, hu => simp at hx hu; subst hx hu; exact (hr 1 _ _ rfl rfl).scalarA hsc
              | i + 2, hx, hu => simp at hx)
            exact this
      · exact qhL h e2 e3 e1 hi
    · -- wfrz
      split at he
      case isFalse => cases he
      rename_i hfree
      obtain ⟨q, hq, hi⟩ := quf.1 he
      split at hi
      case isFalse => cases hi
      rename_i hrf
      cases hi
      refine (hO _ _ _ _ _ hq C (fun _ => none) w vs s (ha.free _ hfree) h.nil ht).mono fun v w1 ⟨C2, μ2, e1, e2, e3⟩ => ?_
      obtain ⟨C3, a1, a2, a3⟩ := vN q.1.msIdsW e2
      obtain ⟨b1, b2⟩ := h.back (e3.trans (a3 0 (Nat.zero_le _)) (qum _)) a2
      exact ⟨C3, μ, ((e1.mono a1 (fun _ _ h => h)).frzWA (xm.of a2)).free μ hrf, b1, b2 _ (qum _)⟩
    · -- nfrz
      split at he
      case isFalse => cases he
      rename_i hfree
      obtain ⟨q, hq, hi⟩ := quf.1 he
      obtain ⟨V, hV, hpe⟩ := quk.1 hi
      cases hpe
      refine (hO _ _ _ _ _ hq C (fun _ => none) w vs s (ha.fg.free _ hfree) h.nil ht).mono fun v w1 ⟨C2, μ2, e1, e2, e3⟩ => ?_
      obtain ⟨C3, a1, a2, a3, a4⟩ := qoE e2
      obtain ⟨b1, b2⟩ := h.back (e3.trans (a3 0 (Nat.zero_le _)) (qum _)) a2
      exact ⟨C3, μ, (qmZ a4 (e1.mono a1 (fun _ _ h => h)) hV).1, b1, b2 _ (qum _)⟩
    · -- mut
      split at he
      case h_2 =>
        split at he
        case isFalse => cases he
        rename_i hfree
        obtain ⟨q, hq, hi⟩ := quf.1 he
        split at hi
        case isFalse => cases hi
        rename_i hrf
        cases hi
        refine (hO _ _ _ _ _ hq C (fun _ => none) w vs s (ha.free _ hfree) h.nil ht).mono fun v w1 ⟨C2, μ2, e1, e2, e3⟩ => ?_
        obtain ⟨b1, b2⟩ := h.back e3 e2
        exact ⟨C2, μ, e1.free μ hrf, b1, b2 _ (qum _)⟩
      rename_i id l hids
      split at he
      case isFalse => cases he
      rename_i hall
      split at he
      case h_2 => cases he
      rename_i d0 sz rs hid
      split at he
      case isFalse => cases he
      rename_i hd0
      have hrr : qA 0 rs = true := by
        rw [Bool.or_eq_true] at hd0
        exact hd0.elim (fun hd => h.free.get hid hd) (fun h => h)
      obtain ⟨q, hq, hi⟩ := quf.1 he
      obtain ⟨p, hp, hpe⟩ := quk.1 hi
      cases hpe
      have hin : ∀ x ∈ qM 0 args, x ∈ [id] := by
        rw [hids]
        intro x hx
        rcases quH.1 hx with rfl | hx
        · simp
        · exact (vI.1 hall) x hx
      have ha' : qo C (fun k => if k = 0 then μ id else none) (renL (fun _ => 0) args) vs := ha.renm (k := 0) (L := [id]) (fun x mx hx hmx => by
        have : x = id := by rcases hx with hx | hx; · omega
                            · simpa using hx
        subst this
        simpa using hmx) hin
      refine (hO _ _ _ _ _ hq C _ w vs s ha' (h.one hrr hid) ht).mono fun v w1 ⟨C2, μ2, e1, e2, e3⟩ => ?_
      unfold qhQ at hp
      split at hp
      case h_2 => cases hp
      rename_i sz' rs' l' hq2
      split at hp
      case isFalse => cases hp
      rename_i hc
      cases hp
      rw [que] at hc
      have hsz := qui hc.1
      subst hsz
      rw [hq2] at e2 e3
      obtain ⟨b1, b2⟩ := h.putBack hid e2 e3
      refine ⟨C2, _, ?_, b1, b2⟩
      refine e1.renm (k := 0) (L := [0]) (fun x mx hx hmx => ?_) (fun x hx => (vI.1 hc.2) x hx)
      have : x = 0 := by rcases hx with hx | hx; · omega
                         · simpa using hx
      subst this
      simpa using hmx
    · -- imp
      obtain ⟨q, hq, hi⟩ := quf.1 he
      exact (hO _ _ _ _ _ hq C μ w vs s ha h ht).mono fun v w1 hp => imp hi hp
    · -- ifrz
      obtain ⟨q, hq, hi⟩ := quf.1 he
      refine (hO _ _ _ _ _ hq C μ w vs s ha h ht).mono fun v w1 ⟨C2, μ2, e1, e2, e3⟩ => imp hi ?_
      obtain ⟨C3, a1, a2, a3⟩ := vN q.1.msIds e2
      exact ⟨C3, μ2, (e1.mono a1 (fun _ _ h => h)).frzA (xm.of a2), a2, e3.trans (a3 _ e3.len) (qum _)⟩
    · -- inpf
      split at he
      case h_2 => cases he
      rename_i id l hids
      split at he
      case isFalse => cases he
      rename_i hall
      split at he
      case h_2 => cases he
      rename_i d0 sz rs hid
      split at he
      case isFalse => cases he
      rename_i hd0
      have hrr : qA 0 rs = true := by
        rw [Bool.or_eq_true] at hd0
        exact hd0.elim (fun hd => h.free.get hid hd) (fun h => h)
      obtain ⟨q, hq, hi⟩ := quf.1 he
      obtain ⟨p, hp, hpe⟩ := quk.1 hi
      cases hpe
      have hin : ∀ x ∈ qM 0 args, x ∈ [id] := by
        rw [hids]
        intro x hx
        rcases quH.1 hx with rfl | hx
        · simp
        · exact (vI.1 hall) x hx
      have ha' : qo C (fun k => if k = 0 then μ id else none) (renL (fun _ => 0) args) vs := ha.renm (k := 0) (L := [id]) (fun x mx hx hmx => by
        have : x = id := by rcases hx with hx | hx; · omega
                            · simpa using hx
        subst this
        simpa using hmx) hin
      refine (hO _ _ _ _ _ hq C _ w vs s ha' (h.one hrr hid) ht).mono fun v w1 ⟨C2, μ2, e1, e2, e3⟩ => ?_
      unfold ql0 at hp
      split at hp
      case h_2 => cases hp
      rename_i sz' rs' l' hq2
      split at hp
      case isFalse => cases hp
      rename_i hc
      cases hp
      rw [que, que] at hc
      have hsz := qui hc.1.1
      subst hsz
      obtain ⟨C3, a1, a2, a3⟩ := vN q.1.msIds e2
      have e5 := fun μ => ((e1.mono a1 (fun _ _ h => h)).frzA (xm.of a2)).fgA.free μ hc.2
      have hx := e3.trans (a3 1 (by rw [hq2]; simp)) (qum _)
      obtain ⟨l2, hl2⟩ := qck (l := l') (b := .rows true sz' rs') q.1.msIds hc.1.2
      rw [hq2, hl2] at a2 hx
      obtain ⟨b1, b2⟩ := h.putBack hid a2 hx
      exact ⟨C3, _, e5 _, b1, b2⟩
    · -- slf
      split at he
      case h_2 => cases he
      rename_i id l hids
      split at he
      case isFalse => cases he
      rename_i hall
      split at he
      case h_2 => cases he
      rename_i d0 sz rs hid
      split at he
      case isFalse => cases he
      rename_i hrr
      rw [vI] at hrr
      obtain ⟨q, hq, hi⟩ := quf.1 he
      obtain ⟨p, hp, hpe⟩ := quk.1 hi
      cases hpe
      have hin : ∀ x ∈ qM 0 args, x ∈ [id] := by
        rw [hids]
        intro x hx
        rcases quH.1 hx with rfl | hx
        · simp
        · exact (vI.1 hall) x hx
      have ha' : qo C (fun k => if k = 0 then μ id else none) (renL (fun _ => 0) args) vs := ha.renm (k := 0) (L := [id]) (fun x mx hx hmx => by
        have : x = id := by rcases hx with hx | hx; · omega
                            · simpa using hx
        subst this
        simpa using hmx) hin
      refine (hO _ _ _ _ _ hq C _ w vs s ha' (h.oneS hrr hid) ht).mono fun v w1 ⟨C2, μ2, e1, e2, e3⟩ => ?_
      unfold qhw at hp
      split at hp
      case h_2 => cases hp
      rename_i sz' rs' l' hq2
      split at hp
      case isFalse => cases hp
      rename_i hc
      cases hp
      rw [que, que, que, vI] at hc
      have hsz := qui hc.1.1.1
      subst hsz
      obtain ⟨C3, a1, a2, a3⟩ := vN q.1.msIds e2
      have e5 := fun μ => ((e1.mono a1 (fun _ _ h => h)).frzA (xm.of a2)).fgA.free μ hc.1.2
      have hx := e3.trans (a3 1 (by rw [hq2]; simp)) (qum _)
      obtain ⟨l2, hl2⟩ := qck (l := l') (b := .rows false sz' rs') q.1.msIds hc.1.1.2
      rw [hq2, hl2] at a2 hx
      obtain ⟨b1, b2⟩ := h.putBackS hid hc.2 a2 hx
      exact ⟨C3, _, e5 _, b1, b2⟩
    · -- rgn
      split at he
      case isFalse => cases he
      rename_i hfree
      obtain ⟨q, hq, hi⟩ := quf.1 he
      obtain ⟨V, hV, hi⟩ := quf.1 hi
      obtain ⟨p, hp, hpe⟩ := quk.1 hi
      cases hpe
      exact (hO _ _ _ _ _ hq C (fun _ => none) w vs s (ha.fg.free _ hfree) h.nil ht).mono fun v w1 ⟨C2, μ2, e1, e2, e3⟩ => qll h e2 e3 e1 hV hp
    · -- over
      split at he
      case h_2 => cases he
      rename_i a
      split at he
      case h_2 => cases he
      rename_i id l hids
      split at he
      case isFalse => cases he
      rename_i hall
      split at he
      · rename_i hid
        obtain ⟨u, hu, hpe⟩ := quk.1 he
        cases hpe
        exact qhN hO ha h ht hids hall (.inl rfl) hid hu
      · rename_i hid
        obtain ⟨u, hu, hpe⟩ := quk.1 he
        cases hpe
        have := qhN hO ha h ht hids hall (.inr rfl) hid hu
        rw [qr9 hid] at this
        exact this
      · cases he
    · -- bld
      split at he
      case h_2 => cases he
      rename_i id l hids
      split at he
      case isFalse => cases he
      rename_i hall
      split at he
      case h_2 => cases he
      rename_i T e0 s0 hid
      obtain ⟨q, hq, he⟩ := quf.1 he
      obtain ⟨p, hp, hpe⟩ := quk.1 he
      cases hpe
      obtain ⟨q1, q2⟩ := q
      unfold qmn at hp
      split at hp
      case h_2 => cases hp
      rename_i T' e' s' G hq2
      simp only at hq2
      subst hq2
      split at hp
      case isFalse => cases hp
      rename_i hc
      cases hp
      rw [que, que] at hc
      obtain ⟨⟨c1, c2⟩, c3⟩ := hc
      obtain rfl := qui c1
      obtain rfl := qui c2
      have hin : ∀ y ∈ qM 0 args, y ∈ [id] := by
        rw [hids]
        intro y hy
        rcases quH.1 hy with rfl | hy
        · simp
        · exact (vI.1 hall) y hy
      have ha' : qo C (fun k => if k = 0 then μ id else none) (renL (fun _ => 0) args) vs := ha.renm (k := 0) (L := [id]) (fun y my hy hmy => by
        have : y = id := by rcases hy with hy | hy; · omega
                            · simpa using hy
        subst this
        simpa using hmy) hin
      refine (hO _ _ _ _ _ hq C _ w vs _ ha' (h.oneB hid) ht).mono fun v w1 ⟨C2, μ2, e1, e2, e3⟩ => ?_
      obtain ⟨b1, b2⟩ := h.putBackB hid e2 e3
      exact ⟨C2, _, e1.free _ c3, b1, b2⟩
    · -- sub
      obtain ⟨s, h0, he⟩ := quf.1 he
      obtain ⟨q, hq, he⟩ := quf.1 he
      obtain ⟨p, hp, he⟩ := quf.1 he
      obtain ⟨pl, hpl, hpe⟩ := quk.1 he
      cases hpe
      unfold zz at h0
      split at h0
      case h_2 => cases h0
      rename_i bs hbs
      split at h0
      case isFalse => cases h0
      rename_i hc
      cases h0
      simp only at hq hp hpl ⊢
      rw [que, que, vI, vI] at hc
      obtain ⟨⟨hc1, hc2⟩, hkd⟩ := hc
      have hnd : (vn H args).Nodup := z8 _ _ _ _ _ List.nodup_nil
      generalize vn H args = L at *
      have ha' : qo C (fun i => (L[i]?).bind μ) (renL (q4 0 L) args) vs := ha.renm (k := 0) (qk5 hnd) hc1
      refine (hO _ _ _ _ _ hq C _ w vs _ ha' (h.subL hnd hbs hc2) ht).mono fun v w1 ⟨C2, μ2, e1, e2, e3⟩ => ?_
      have hlen : (renH (q4 0 L) bs).length = L.length := by rw [xJ, quI, (xQ hbs).1]
      rw [hlen] at e3
      obtain ⟨C3, μ4, p1, p2, p3, p4, p5, p6, -⟩ := qk6 e1 e2 e3 hp
      obtain ⟨H1, N, hH, hNd, hNr, hNl, hpe⟩ := qcv hpl
      cases hpe
      have hdis : ∀ i ∈ L, i ∉ N := fun i hi hn => by
        obtain ⟨k, hk⟩ := List.getElem?_of_mem hi
        obtain ⟨b, f1, f2⟩ := (xQ hbs).2 k i hk
        have := List.all_eq_true.1 hkd b (quv f2)
        have g := hNr i hn
        rw [hH i b f1] at g
        cases g; simp [qdo] at this
      have hnd2 : (L ++ N).Nodup := List.nodup_append.2 ⟨hnd, hNd, fun a ha b hb e => hdis a ha (e ▸ hb)⟩
      have hag : ∀ i ∈ L, H1[i]? = H[i]? := fun i hi => by
        obtain ⟨k, hk⟩ := List.getElem?_of_mem hi
        obtain ⟨b, f1, f2⟩ := (xQ hbs).2 k i hk
        rw [f1]; exact hH i b f1
      have hbs1 : xj H1 L = some bs := (qad hag).trans hbs
      obtain ⟨hw1, hx1, hln⟩ := qel h hpl
      obtain ⟨b1, b2⟩ := hw1.putL hnd2 hbs1 hkd hNr (by rw [qus, hNl]; omega) p4 p2 p3
      refine ⟨C3, _, p1.renm (k := 0) (fun id m hid hm => ?_) p5, b1, hx1.trans b2 hln⟩
      have hlt : id < (L ++ N).length := by
        have : id < p.2.length := by simpa using hid
        rw [qus, hNl]; omega
      have hb : vZ (L ++ N) id = (L ++ N)[id] := by unfold vZ; rw [List.getD_eq_getElem?_getD, quj hlt]; rfl
      have hpl : q5 (vZ (L ++ N) id) 0 (L ++ N) = some id := by rw [hb, xf hnd2]; exact quj hlt
      simp only [hpl]
      exact hm
    · -- obj
      obtain ⟨s, h0, he⟩ := quf.1 he
      split at he
      case isFalse => cases he
      rename_i hkn
      obtain ⟨q, hq, he⟩ := quf.1 he
      obtain ⟨p, hp, he⟩ := quf.1 he
      obtain ⟨pl, hpl, hpe⟩ := quk.1 he
      cases hpe
      unfold zz at h0
      split at h0
      case h_2 => cases h0
      rename_i bs hbs
      split at h0
      case isFalse => cases h0
      rename_i hc
      cases h0
      simp only at hq hp hpl hkn ⊢
      rw [quJ] at hkn
      rw [que, que, vI, vI] at hc
      obtain ⟨⟨hc1, hc2⟩, hkd⟩ := hc
      have hnd : (vn H args).Nodup := z8 _ _ _ _ _ List.nodup_nil
      generalize vn H args = L at *
      have ha' : qo C (fun i => (L[i]?).bind μ) (renL (q4 0 L) args) vs := ha.renm (k := 0) (qk5 hnd) hc1
      have hlen : (renH (q4 0 L) bs).length = L.length := by rw [xJ, quI, (xQ hbs).1]
      generalize objK (cfg.okeep _) (renL (q4 0 L) args) = k at *
      have hW0 := h.subL hnd hbs hc2
      obtain ⟨l1, l2, l3⟩ := qgl (cfg.olift _) hW0
      obtain ⟨μ1, g1, g2, g3⟩ := qfe l1 ha' k (by rw [← hlen] at hkn; exact Nat.le_trans hkn l2)
      have hx0 := (l3 k (by rw [hlen]; exact hkn)).trans g3 (qum _)
      refine (hO _ _ _ _ _ hq C _ w vs _ g2 g1 ht).mono fun v w1 ⟨C2, μ2, e1, e2, e3⟩ => ?_
      obtain ⟨C3, μ4', p1', p2', p3', p4', p5', p6⟩ := qlt e1 e2 (hx0.trans e3 g3.len) hp
      obtain ⟨μ4, p2, p3, hρ, p4⟩ := qka hlen (fun id m hm => by rw [← hlen]; exact hW0.dom id m hm) p6 hkn p2' p3' p4'
      have hfl := qgj (n := L.length) p6 hkn
      obtain ⟨H1, N, hH, hNd, hNr, hNl, hpe⟩ := qcv hpl
      cases hpe
      have hdis : ∀ i ∈ L, i ∉ N := fun i hi hn => by
        obtain ⟨k, hk⟩ := List.getElem?_of_mem hi
        obtain ⟨b, f1, f2⟩ := (xQ hbs).2 k i hk
        have := List.all_eq_true.1 hkd b (quv f2)
        have g := hNr i hn
        rw [hH i b f1] at g
        cases g; simp [qdo] at this
      have hnd2 : (L ++ N).Nodup := List.nodup_append.2 ⟨hnd, hNd, fun a ha b hb e => hdis a ha (e ▸ hb)⟩
      have hag : ∀ i ∈ L, H1[i]? = H[i]? := fun i hi => by
        obtain ⟨k, hk⟩ := List.getElem?_of_mem hi
        obtain ⟨b, f1, f2⟩ := (xQ hbs).2 k i hk
        rw [f1]; exact hH i b f1
      have hbs1 : xj H1 L = some bs := (qad hag).trans hbs
      obtain ⟨hw1, hx1, hln⟩ := qel h hpl
      obtain ⟨b1, b2⟩ := hw1.putL hnd2 hbs1 hkd hNr (by rw [qus, hNl, hfl]) p4 p2 p3
      have p1 : Rep C3 μ4 (p.1.ren (xS k L.length)) v := p1'.renm (k := 0) (L := p.1.idsGe 0) (fun id m _ hm => (hρ id).trans hm) (fun x hx => hx)
      have p5 : ∀ x ∈ (p.1.ren (xS k L.length)).idsGe 0, x ∈ quK (xK k L.length p.2).length := fun x hx => by
        rw [AV.idsGe_ren] at hx
        obtain ⟨y, hy, rfl⟩ := List.mem_map.1 hx
        have := p5' y hy
        rw [List.mem_range] at this ⊢
        rw [hfl]
        unfold xS
        split
        · rename_i hb; simp [quL] at hb; omega
        · omega
      refine ⟨C3, _, p1.renm (k := 0) (fun id m hid hm => ?_) p5, b1, hx1.trans b2 hln⟩
      have hlt : id < (L ++ N).length := by
        have : id < (xK k L.length p.2).length := by simpa using hid
        rw [qus, hNl]; omega
      have hb : vZ (L ++ N) id = (L ++ N)[id] := by unfold vZ; rw [List.getD_eq_getElem?_getD, quj hlt]; rfl
      have hpl : q5 (vZ (L ++ N) id) 0 (L ++ N) = some id := by rw [hb, xf hnd2]; exact quj hlt
      simp only [hpl]
      exact hm
variable {C C' C1 C2 : qd} {μ μ' μ1 : MMap} {H H' H1 : AH} {w w' w1 : World} {P : Program}
theorem vP.of_run {s s' : Sem Next} {R : Value → World → Prop} (h : s.run P w = s'.run P w) (hc : vP P s' w R) : vP P s w R := by
 unfold vP at *
 rw [h]; exact hc
theorem qcN.callR [Lent] {s : Sem Next} {r : AV} (h : qcN P s C μ H w r H') : vP P s w (xn C μ H w r H') := by
 obtain ⟨n, w', C', μ', h1, h2, h3, h4⟩ := h
 unfold vP
 rw [h1]
 rcases h2 with ⟨v, rfl, hr⟩ | ⟨rfl, rfl⟩
 ·exact ⟨C', μ', hr, h3, h4⟩
 ·exact ⟨C', μ', .junk _, h3, h4⟩
theorem qeo {ρ : Operand → Value} {c : Call} {f : Operand} (hc : c.callee = .value f) (ty : TypeId) : resolve ρ c ty = Deferred.ofValue (ρ f) (c.args.map ρ) := by
 obtain ⟨callee, args, argTypes⟩ := c
 simp only at hc
 subst hc
 rfl
theorem qnv [Lent] {cfg : Cfg} {cf : Orac} (hO : qaf cfg cf) {nid : Option Nat} {o : Oper} {c : Call} {f : Operand} (ho : o.op = .call c) (hf : c.callee = .value f) {x : Operand → AV} {ρ : Operand → Value} (hx : ∀ a, Rep C μ (x a) (ρ a)) (h : Wld C μ H w) {r : AV}
  (he : ((yx (x f) (c.args.toList.map x)).bind fun t => qU cfg cf nid t.1 t.2 H) = some (r, H')) : vP cfg.P (execOp ρ o) w (xn C μ H w r H') := by
 obtain ⟨t, ht, he⟩ := quf.1 he
 have hargs : ∀ (i : Nat) a v, (c.args.toList.map x)[i]? = some a → (c.args.toList.map ρ)[i]? = some v → Rep C μ a v := qgM hx _
 have hfv := hx f
 have hex : execOp ρ o = (do let d ← Deferred.ofValue (ρ f) (c.args.map ρ); invoke d.target d.args) := by
  unfold execOp
  simp only [ho]
  rw [← qeo hf o.type]
 unfold yx at ht
 split at ht
 ·rename_i g first caps hxf
  cases ht
  rw [hxf] at hfv
  generalize hv : ρ f = vf at hfv
  cases hfv with
  | fn _ _ _ vf vc hl1 hl2 h1 h2 =>
   rw [hv] at hex
   refine vP.of_run (s' := callFunc g (vf.toArray ++ c.args.map ρ ++ vc.toArray)) ?_ (qgw hO (t := .f g) (vs := vf.toArray ++ c.args.map ρ ++ vc.toArray) ⟨by simp [hl1, hl2], fun i a v e1 e2 => ?_⟩ h rfl he)
   ·rw [hex]
    simp [Deferred.ofValue, invoke]
   ·rw [← Array.getElem?_toList] at e2
    simp only [Array.toList_append, Array.toList_map] at e2
    have hl3 : (c.args.toList.map x).length = (c.args.toList.map ρ).length := by simp
    rcases Nat.lt_or_ge i (first.length + (c.args.toList.map x).length) with hlt | hge
    ·rw [qup (by simpa using hlt)] at e1
     rw [qup (by simp only [qus]; omega)] at e2
     rcases Nat.lt_or_ge i first.length with hlt' | hge'
     ·rw [qup hlt'] at e1
      rw [qup (by omega)] at e2
      exact h1 i a v e1 e2
     ·rw [qut hge'] at e1
      rw [qut (by omega)] at e2
      rw [← hl1] at e2
      exact hargs _ a v e1 e2
    ·rw [qut (by simpa using hge)] at e1
     rw [qut (by simp only [qus]; omega)] at e2
     have : i - (vf ++ c.args.toList.map ρ).length = i - (first ++ c.args.toList.map x).length := by simp [hl1]
     rw [this] at e2
     exact h2 _ a v e1 e2
 ·rename_i id hxf
  cases ht
  rw [hxf] at hfv
  generalize hv : ρ f = vf at hfv
  cases hfv with
  | yld _ m hm =>
   rw [hv] at hex
   refine vP.of_run (s' := Instr.yield m.block (c.args.map ρ)) ?_ (qgw hO (t := .y id) (vs := c.args.map ρ) ⟨by simp, fun i a v e1 e2 => ?_⟩ h ⟨m, hm, rfl⟩ he)
   ·rw [hex]
    simp [Deferred.ofValue, invoke]
   ·rw [← Array.getElem?_toList, Array.toList_map] at e2
    exact hargs i a v e1 e2
 ·cases ht
theorem qco [Lent] {cfg : Cfg} (hc : CfgTy cfg) {cf : Orac} (hO : qaf cfg cf) {frz : Bool} {nid : Option Nat} {o : Oper} {x : Operand → AV} {ρ : Operand → Value} (hx : ∀ a, Rep C μ (x a) (ρ a)) (h : Wld C μ H w) {r : AV}
  (he : vj cfg cf frz nid o x H = some (r, H')) : vP cfg.P (execOp ρ o) w (xn C μ H w r H') := by
 have core : ∀ {C : qd} {H : AH} {x : Operand → AV}, (∀ a, Rep C μ (x a) (ρ a)) → Wld C μ H w →
   (match o.op with
    | .call c =>
     match c.callee with
     | .value f => (yx (x f) (c.args.toList.map x)).bind fun t => qU cfg cf nid t.1 t.2 H
     | _ => evOp cfg nid o.op o.type x H
    | _ => evOp cfg nid o.op o.type x H) = some (r, H') → vP cfg.P (execOp ρ o) w (xn C μ H w r H') := by
  intro C H x hx h he
  split at he
  ·rename_i c ho
   split at he
   ·rename_i f hf
    exact qnv hO ho hf hx h he
   ·exact (qiu hc h hx he).callR
  ·exact (qiu hc h hx he).callR
 unfold vj at he
 split at he
 ·obtain ⟨C1, a1, a2, a3⟩ := vN (o.op.operands.toList.flatMap fun a => (x a).msIds) h
  have hx1 : ∀ a, Rep C1 μ ((x a).frz (o.op.operands.toList.flatMap fun a => (x a).msIds) H) (ρ a) := fun a => ((hx a).mono a1 (fun _ _ h => h)).frzA (xm.of a2)
  refine (core (x := fun a => (x a).frz (o.op.operands.toList.flatMap fun a => (x a).msIds) H) hx1 a2 he).mono fun v w1 ⟨C2, μ2, e1, e2, e3⟩ => ⟨C2, μ2, e1, e2, ?_⟩
  have := (a3 _ (qum _)).trans e3 (by rw [qbf]; exact qum _)
  exact this
 ·exact core hx h he
def zo (F : Fence) : Prop := F = Fence.wide ∨ ∃ l, F = Fence.wide.inRound l
theorem zo.fn {F : Fence} (h : zo F) (f : FuncId) : F.fn f := by
 rcases h with rfl | ⟨l, rfl⟩ <;> trivial
theorem zo.depth {F : Fence} (h : zo F) : F.depth = none := by
 rcases h with rfl | ⟨l, rfl⟩ <;> rfl
theorem zo.calls {F : Fence} (h : zo F) {f : FuncId} {args : Array Value} {R : Ending → World → Prop} (hc : CallsIn Fence.wide 0 P f args w R) : CallsIn F (0 - 1) P f args w R := by
 rcases h with rfl | ⟨l, rfl⟩
 ·exact hc
 ·exact hc
theorem zo.rounds {F : Fence} (h : zo F) {l f : Nat} {t : Array Value} {al bd : Code} {R : Ending → World → Prop} (hc : RoundIn Fence.wide 0 P l f t al bd w R) : RoundIn F (0 - 1) P l f t al bd w R := by
 rcases h with rfl | ⟨l, rfl⟩
 ·exact hc
 ·exact hc
theorem qeX {F : Fence} (hF : zo F) {o : Oper} {a : Act} {next : Act → World → Prop} {Q : Exit → Act → World → Prop} (h : vP P (execOp a.eval o) w fun v w' => next (a.put o.dst v) w') : o.wpIn F 0 P a w next Q := by
 have hd : ∀ c, o.op ≠ .defer c := by
  intro c hc
  unfold vP execOp at h
  simp only [hc, Sem.run_bind] at h
  generalize (resolve a.eval c o.type).run P w = x at h
  cases x with
  | ok d w' => simp [Result.andThen, Sem.run_pure] at h
  | halt _ _ => simp [Result.andThen] at h
 refine ⟨fun f _ => hF.fn f, ?_⟩
 rw [Oper.semAt_eq _ _ _ hd]
 unfold vP at h
 generalize (execOp a.eval o).run P w = x at h
 cases x with
 | ok n w' =>
  cases n <;> simp only at h <;> first | exact h | exact h.elim | skip
  ·exact ⟨fun hh => by rw [hF.depth] at hh; simp at hh, hF.calls (h.mono fun e w'' ⟨v, h1, h2⟩ => by subst h1; exact h2)⟩
  ·exact ⟨fun hh => by rw [hF.depth] at hh; simp at hh, hF.rounds (h.mono fun e w'' ⟨v, h1, h2⟩ => by subst h1; exact h2)⟩
 | halt _ _ => exact h.elim
theorem qa2 [Lent] {fr : List AV} {a : Act} (hf : qo C μ fr a.tmps) (o : Operand) : Rep C μ (opd fr o) (a.eval o) := by
 cases o with
 | tmp t =>
  show Rep C μ (fr.getD t .junk) (a.tmps.getD t undef)
  rcases Nat.lt_or_ge t fr.length with h | h
  ·have h' : t < a.tmps.size := by rw [← hf.1]; exact h
   rw [List.getD_eq_getElem?_getD, quj h, Array.getD_eq_getD_getElem?, Array.getElem?_eq_getElem h']
   exact hf.2 t _ _ (quj h) (Array.getElem?_eq_getElem h')
  ·rw [List.getD_eq_getElem?_getD, List.getElem?_eq_none h]
   exact .junk _
 | const v => exact qgg v
 | global g => exact .junk _
 | func f =>
  have := Rep.fn (C := C) (μ := μ) (.func f) [] [] [] [] rfl rfl (fun i a v h => by simp at h) (fun i a v h => by simp at h)
  exact this
theorem qeN [Lent] : Rep C μ (.tup []) undef := Rep.tup (C := C) (μ := μ) [] [] rfl (fun i a v h => by simp at h)
theorem qa1 [Lent] {fr : List AV} {a : Act} {dst : Option Tmp} {r : AV} {v : Value} (hf : qo C μ fr a.tmps) (hr : Rep C μ r v) : qo C μ (put fr dst r) (a.put dst v).tmps := by
 cases dst with
 | none => exact hf
 | some d =>
  refine ⟨by simp [put, Act.put, hf.1], fun i x u h1 h2 => ?_⟩
  simp only [put, qur] at h1
  simp only [Act.put, Array.getElem?_setIfInBounds] at h2
  by_cases e : d = i
  ·subst e
   rw [if_pos rfl] at h1 h2
   split at h1
   ·split at h2
    ·cases h1; cases h2; exact hr
    ·cases h2
   ·cases h1
  ·rw [if_neg e] at h1 h2
   exact hf.2 i x u h1 h2
theorem zU {a : Act} {dst : Option Tmp} {v : Value} : (a.put dst v).defers = a.defers := by cases dst <;> rfl
theorem qb7 [Lent] {fr : List AV} {a : Act} {ops : Array Oper} {o : Oper} {b : Bool} (hf : qo C μ fr a.tmps) (h : xb ops fr o = some b) : Region.wanted o (yielded ops a.tmps) = b := by
 unfold xb at h
 unfold Region.wanted
 split at h
 ·rename_i hg; rw [hg]; simpa using h
 ·rename_i j want hg
  rw [hg]
  simp only
  split at h
  ·rename_i d hd
   split at h
   ·rename_i b' hb
    cases h
    have hlt : d < a.tmps.size := by rw [← hf.1]; exact (quh.1 hb).1
    have hr := hf.2 d _ _ hb (Array.getElem?_eq_getElem hlt)
    generalize hv : a.tmps[d] = v at hr
    cases hr
    have hs : a.tmps[d]? = some (.bool b') := by rw [Array.getElem?_eq_getElem hlt, hv]
    unfold yielded
    rw [hd]
    simp only [quq, hs]
    cases b' <;> cases want <;> rfl
   ·rename_i hb
    cases h
    have hlt : d < a.tmps.size := by rw [← hf.1]; exact (quh.1 hb).1
    have hr := hf.2 d _ _ hb (Array.getElem?_eq_getElem hlt)
    generalize hv : a.tmps[d] = v at hr
    cases hr with
    | tup cs vs hl hh =>
     have hs : a.tmps[d]? = some (.tuple vs.toArray) := by rw [Array.getElem?_eq_getElem hlt, hv]
     unfold yielded
     rw [hd]
     simp only [quq, hs]
     rfl
   ·cases h
  ·cases h
theorem qdd [Lent] {cfg : Cfg} (hc : CfgTy cfg) {cf : Orac} (hO : qaf cfg cf) {F : Fence} (hF : zo F) {f rid : Nat} {ops : Array Oper} {Q : Exit → Act → World → Prop} {fr' : List AV} : ∀ (rest : List Oper) (k : Nat) {fr : List AV} {H : AH} {C : qd} {μ : MMap} {w : World} {a : Act},
  yS cfg cf f rid ops k rest fr H = some (fr', H') → (∀ i, rest[i]? = ops[k + i]?) → qo C μ fr a.tmps → Wld C μ H w →
  (∀ C' μ' w' a', qo C' μ' fr' a'.tmps → Wld C' μ' H' w' → Ext H.length C μ H w C' μ' H' w' → a'.defers = a.defers → Q .normal a' w') → wpOpsIn F 0 cfg.P ops Q (List.range' k rest.length) a w
 | [], k, fr, H, C, μ, w, a, he, hi, hf, hw, hq => by
  simp only [yS] at he
  cases he
  exact hq C μ w a hf hw (Ext.refl (qum _)) rfl
 | o :: rest, k, fr, H, C, μ, w, a, he, hi, hf, hw, hq => by
  simp only [yS] at he
  obtain ⟨b, hb, he⟩ := quf.1 he
  have hok : ops[k]? = some o := by have := hi 0; simpa using this.symm
  have hi' : ∀ i, rest[i]? = ops[k + 1 + i]? := fun i => by have := hi (i + 1); rw [quF] at this; rw [this]; congr 1; omega
  have hwan := qb7 hf hb
  simp only [quM, List.range'_succ, wpOpsIn, hok]
  split at he
  ·rename_i hbt
   rw [hbt] at hwan
   rw [if_pos hwan]
   obtain ⟨q, hqe, he⟩ := quf.1 he
   refine qeX hF ((qco hc hO (qa2 hf) hw hqe).mono fun v w1 ⟨C1, μ1, e1, e2, e3⟩ => ?_)
   have hf1 : qo C1 μ1 fr a.tmps := hf.monoG e3.cl (fun id m hm => e3.mu id m (hw.dom id m hm) hm)
   refine qdd hc hO hF rest (k + 1) he hi' (qa1 hf1 e1) e2 fun C' μ' w' a' g1 g2 g3 g4 => hq C' μ' w' a' g1 g2 (e3.trans g3 e3.len) (by rw [g4, zU])
  ·rename_i hbt
   have hbf : b = false := by simpa using hbt
   rw [hbf] at hwan
   rw [if_neg (by rw [hwan]; simp)]
   refine ⟨fun f _ => hF.fn f, ?_⟩
   exact qdd hc hO hF rest (k + 1) he hi' (qa1 hf qeN) hw fun C' μ' w' a' g1 g2 g3 g4 => hq C' μ' w' a' g1 g2 g3 (by rw [g4, zU])
variable {H H' H2 : AH}
theorem qe0 {x y : Operand → AV} {l : List Operand} (h : ∀ a ∈ l, x a = y a) : l.map x = l.map y := List.map_congr_left h
theorem qhT {x y : Operand → AV} {l : List (Nat × Operand)} (h : ∀ a ∈ l.map (·.2), x a = y a) : (l.map fun p => (p.1, x p.2)) = l.map fun p => (p.1, y p.2) :=
 List.map_congr_left fun p hp => by rw [h p.2 (List.mem_map.2 ⟨p, hp, rfl⟩)]
theorem qeV {x y : Operand → AV} {o : Option Operand} (h : ∀ a ∈ o.toArray, x a = y a) : o.map x = o.map y := by
 cases o with
 | none => rfl
 | some a => simp only [quz]; rw [h a (by simp)]
theorem qo3 {cfg : Cfg} {nid : Option Nat} {op : Op} {ty : TypeId} {x y : Operand → AV} (h : ∀ a ∈ op.operands, x a = y a) : evOp cfg nid op ty x H = evOp cfg nid op ty y H := by
 cases op with
 | move a | assign a | box _ a | load _ a | nilCheck a | unOp _ _ a | convert _ _ a | fieldAddr _ a _ | field _ a _ | extract a _ =>
  have := h a (by simp [Op.operands])
  simp only [evOp, this]
 | pick c a b =>
  have h1 := h c (by simp [Op.operands])
  have h2 := h a (by simp [Op.operands])
  have h3 := h b (by simp [Op.operands])
  simp only [evOp, h1, h2, h3]
 | store _ a b | binOp _ _ a b _ | makeSlice _ a b | indexAddr _ a b | index _ a b | lookup _ a b _ =>
  have h1 := h a (by simp [Op.operands])
  have h2 := h b (by simp [Op.operands])
  simp only [evOp, h1, h2]
 | mapUpdate _ a b c | insert _ a b c =>
  have h1 := h a (by simp [Op.operands])
  have h2 := h b (by simp [Op.operands])
  have h3 := h c (by simp [Op.operands])
  simp only [evOp, h1, h2, h3]
 | makeMap _ r =>
  cases r with
  | none => rfl
  | some a =>
   have h1 := h a (by simp [Op.operands])
   simp only [evOp, h1]
 | build _ ps =>
  have := qhT (x := x) (y := y) (l := ps.toList) (fun a ha => h a (by simp only [Op.operands, List.mem_toArray]; exact ha))
  simp only [evOp, this]
 | buildSlice _ _ ps =>
  have := qhT (x := x) (y := y) (l := ps.toList) (fun a ha => h a (by simp only [Op.operands, List.mem_toArray]; exact ha))
  simp only [evOp, this]
 | makeFunc f p q =>
  have h1 := qe0 (x := x) (y := y) (l := p.toList) (fun a ha => h a (by simp only [Op.operands, Array.mem_append]; exact .inl (Array.mem_toList_iff.1 ha)))
  have h2 := qe0 (x := x) (y := y) (l := q.toList) (fun a ha => h a (by simp only [Op.operands, Array.mem_append]; exact .inr (Array.mem_toList_iff.1 ha)))
  simp only [evOp, h1, h2]
 | slice _ a l hi m =>
  have h1 := h a (by simp [Op.operands])
  have h2 := qeV (x := x) (y := y) (o := l) (fun a ha => h a (by simp only [Op.operands, Array.mem_append]; simp [ha]))
  have h3 := qeV (x := x) (y := y) (o := hi) (fun a ha => h a (by simp only [Op.operands, Array.mem_append]; simp [ha]))
  have h4 := qeV (x := x) (y := y) (o := m) (fun a ha => h a (by simp only [Op.operands, Array.mem_append]; simp [ha]))
  simp only [evOp, h1, h2, h3, h4]
 | call c =>
  have hm : ∀ a ∈ c.args.toList, x a = y a := fun a ha => h a (by simp only [Op.operands, Call.operands, Array.mem_append]; exact .inr (Array.mem_toList_iff.1 ha))
  obtain ⟨callee, args, argTypes⟩ := c
  simp only at hm
  simp only [evOp]
  generalize args.toList = l at hm
  generalize argTypes.toList = ts
  clear h
  split
  ·rw [hm _ (by simp)]
  ·rw [hm _ (by simp)]
  ·rw [hm _ (by simp), hm _ (by simp)]
  ·rw [hm _ (by simp), hm _ (by simp)]
  ·rw [hm _ (by simp)]
  ·rw [hm _ (by simp), hm _ (by simp)]
  ·rw [hm _ (by simp), hm _ (by simp)]
  ·rfl
 | _ => rfl
theorem qfj {cfg : Cfg} {cf : Orac} {frz : Bool} {nid : Option Nat} {o : Oper} {x y : Operand → AV} (h : ∀ a ∈ o.op.operands, x a = y a) : vj cfg cf frz nid o x H = vj cfg cf frz nid o y H := by
 have hids : (o.op.operands.toList.flatMap fun a => (x a).msIds) = o.op.operands.toList.flatMap fun a => (y a).msIds := by
  have : (o.op.operands.toList.map fun a => (x a).msIds) = o.op.operands.toList.map fun a => (y a).msIds := List.map_congr_left fun a ha => by rw [h a (Array.mem_toList_iff.1 ha)]
  rw [List.flatMap_def, List.flatMap_def, this]
 have core : ∀ {x y : Operand → AV} {H : AH}, (∀ a ∈ o.op.operands, x a = y a) →
   (match o.op with
    | .call c =>
     match c.callee with
     | .value f => (yx (x f) (c.args.toList.map x)).bind fun t => qU cfg cf nid t.1 t.2 H
     | _ => evOp cfg nid o.op o.type x H
    | _ => evOp cfg nid o.op o.type x H) =
   (match o.op with
    | .call c =>
     match c.callee with
     | .value f => (yx (y f) (c.args.toList.map y)).bind fun t => qU cfg cf nid t.1 t.2 H
     | _ => evOp cfg nid o.op o.type y H
    | _ => evOp cfg nid o.op o.type y H) := by
  intro x y H h
  rw [qo3 h]
  split
  ·rename_i c ho
   split
   ·rename_i f hf
    have h1 : x f = y f := h f (by rw [ho]; simp [Op.operands, Call.operands, hf])
    have h2 := qe0 (x := x) (y := y) (l := c.args.toList) (fun a ha => h a (by rw [ho]; simp only [Op.operands, Call.operands, Array.mem_append]; exact .inr (Array.mem_toList_iff.1 ha)))
    rw [h1, h2]
   ·rfl
  ·rfl
 unfold vj
 cases frz with
 | false => simp only [quo, if_false]; exact core h
 | true =>
  simp only [if_true]
  rw [hids]
  exact core (fun a ha => by rw [h a ha])
theorem yM {id : Nat} (h : H2[id]? = H[id]?) : qX H2 id = qX H id := by unfold qX; rw [h]
theorem qdi {id : Nat} (h : H2[id]? = H[id]?) : xk H2 id = xk H id := by unfold xk; rw [h]
theorem qmO {p : AV} (h : ∀ id ∈ p.hid, H2[id]? = H[id]?) : xx H2 p = xx H p := by
 cases p with
 | ms id off len => simp only [xx]; rw [qdi (h id (by simp [AV.hid]))]
 | _ => rfl
theorem qnA {cfg : Cfg} {t : TypeId} {p k : AV} {ok : Bool} (h : ∀ id ∈ p.hid, H2[id]? = H[id]?) : z5 cfg t p k ok H2 = z5 cfg t p k ok H := by
 have : qcC H2 p = qcC H p := by
  unfold qcC
  split
  ·rfl
  ·rename_i id; rw [h id (by simp [AV.hid])]
  ·rfl
 unfold z5
 rw [this]
theorem qqM {agg : Bool} {n : Nat} {p : AV} (h : ∀ id ∈ p.hid, H2[id]? = H[id]?) : zn agg n H2 p = zn agg n H p := by
 unfold zn
 split
 ·rename_i id r off; rw [yM (h id (by simp [AV.hid]))]
 ·rfl
 ·rfl
 ·rename_i id cs off; rw [h id (by simp [AV.hid])]
 ·rfl
theorem qhB {n : Nat} {p : AV} (h : ∀ id ∈ p.hid, H2[id]? = H[id]?) : x8 H2 n p = x8 H n p := by
 unfold x8
 split
 ·rfl
 ·rfl
 ·rfl
 ·rename_i id off len; rw [yM (h id (by simp [AV.hid]))]
 ·rfl
theorem qmN {n : Nat} {p : AV} (h : ∀ id ∈ p.hid, H2[id]? = H[id]?) : xU H2 n p = xU H n p := by
 unfold xU
 split
 ·rfl
 ·exact qhB h
theorem qjo {cfg : Cfg} {t : TypeId} {p i : AV} (h : ∀ id ∈ p.hid, H2[id]? = H[id]?) : yf cfg t H2 p i = yf cfg t H p i := by
 unfold yf
 split
 ·rename_i id _ _ _ _ _; rw [yM (h id (by simp [AV.hid]))]
 all_goals rfl
theorem qlU {p : AV} {id : Nat} (h : id ∈ p.unwr.hid) : id ∈ p.hid := by
 cases p with
 | wr n v => cases v <;> first | exact h | (simp [AV.unwr, AV.hid] at h)
 | _ => exact h
theorem qpo {cfg : Cfg} {t : TypeId} {p : AV} {lo hi mx : Option AV} (h : ∀ id ∈ p.hid, H2[id]? = H[id]?) : qaX cfg t H2 p lo hi mx = qaX cfg t H p lo hi mx := by
 unfold qaX
 split
 ·rfl
 ·rfl
 ·rfl
 ·rename_i id off len _; rw [yM (h id (by simp [AV.hid]))]
 ·rfl
 ·rfl
theorem qrK {cfg : Cfg} {t : TypeId} {p : AV} (h : ∀ id ∈ p.hid, H2[id]? = H[id]?) : aLen cfg t p H2 = aLen cfg t p H := by
 unfold aLen
 split <;> first | rfl | skip
 rename_i id _; rw [h id (by simp [AV.hid])]
theorem qcw {p : AV} (h : ∀ id ∈ p.hid, H2[id]? = H[id]?) : p.snap1 H2 = p.snap1 H := by
 cases p with
 | ms id off len => simp only [AV.snap1, AV.frz1]; rw [yM (h id (by simp [AV.hid])), qdi (h id (by simp [AV.hid]))]
 | ptr id r off => simp only [AV.snap1]; rw [yM (h id (by simp [AV.hid]))]
 | rsl id rows => simp only [AV.snap1]; rw [h id (by simp [AV.hid])]
 | _ => rfl
theorem qdK {l : List AV} (h : ∀ id ∈ l.flatMap AV.hid, H2[id]? = H[id]?) : l.map (AV.snap1 H2) = l.map (AV.snap1 H) :=
 List.map_congr_left fun p hp => qcw fun id hi => h id (List.mem_flatMap.2 ⟨p, hp, hi⟩)
theorem qra {p : AV} (h : ∀ id ∈ p.hids, H2[id]? = H[id]?) : p.snap H2 = p.snap H := by
 cases p with
 | agg cs => simp only [AV.snap]; rw [qdK (fun id hi => h id (by simpa [AV.hids] using hi))]
 | fn f a b => simp only [AV.snap]; rw [qdK (fun id hi => h id (by simp only [AV.hids, quA]; exact .inl hi)), qdK (fun id hi => h id (by simp only [AV.hids, quA]; exact .inr hi))]
 | ms id off len => exact qcw (p := .ms id off len) h
 | ptr id r off => exact qcw (p := .ptr id r off) h
 | rsl id rows => exact qcw (p := .rsl id rows) h
 | _ => rfl
def Upd (wr : List Nat) (H2 H' H2' : AH) : Prop := H2'.length = H2.length ∧ ∀ id, H2'[id]? = if id ∈ wr then H'[id]? else H2[id]?
theorem Upd.same {wr : List Nat} (h : ∀ id ∈ wr, H2[id]? = H[id]?) : Upd wr H2 H H2 := ⟨rfl, fun id => by
 split
 ·rename_i hi; exact h id hi
 ·rfl⟩
theorem Upd.set {wr : List Nat} (h : ∀ id ∈ wr, H2[id]? = H[id]?) (hl : H2.length = H.length) {k : Nat} {b : ABlk} (hk : k ∈ wr) : Upd wr H2 (H.set k b) (H2.set k b) := ⟨by simp, fun id => by
 by_cases e : k = id
 ·subst e
  rw [if_pos hk, qur, qur, if_pos rfl, if_pos rfl, hl]
 ·rw [qur, if_neg e, qur, if_neg e]
  split
  ·rename_i hi; exact h id hi
  ·rfl⟩
theorem xr {g g2 : Option AV} {r : AV} {wr : List Nat} (he : (g.map fun v => (v, H)) = some (r, H')) (hg : g2 = g) (h : ∀ id ∈ wr, H2[id]? = H[id]?) : ∃ H2', (g2.map fun v => (v, H2)) = some (r, H2') ∧ Upd wr H2 H' H2' := by
 subst hg
 obtain ⟨v, hv, e⟩ := quk.1 he
 cases e
 exact ⟨H2, by rw [hv]; rfl, Upd.same h⟩
theorem zW {at_ k : Nat} {b : ABlk} {wr : List Nat} (hn : aNew (some at_) H b = some (k, H')) (h : ∀ id ∈ wr, H2[id]? = H[id]?) (hl : H2.length = H.length) (hk : at_ ∈ wr) : ∃ H2', aNew (some at_) H2 b = some (k, H2') ∧ Upd wr H2 H' H2' := by
 unfold aNew at hn ⊢
 simp only at hn ⊢
 rw [h _ hk]
 split at hn
 ·cases hn
  exact ⟨_, rfl, Upd.set h hl hk⟩
 ·cases hn
variable {H H' H2 : AH}
theorem Upd.of_set {wr : List Nat} {k : Nat} {b : ABlk} {H2' : AH} (h : Upd wr (H2.set k b) H' H2') (hk : k ∈ wr) : Upd wr H2 H' H2' := ⟨by rw [h.1]; simp, fun id => by
 rw [h.2 id]
 split
 ·rfl
 ·rename_i hi
  rw [qur, if_neg]
  intro e; subst e; exact hi hk⟩
theorem qmp {n : Nat} {p v : AV} (he : y4 n H p v = some H') (h : ∀ id ∈ p.hid, H2[id]? = H[id]?) (hl : H2.length = H.length) : ∃ H2', y4 n H2 p v = some H2' ∧ Upd p.hid H2 H' H2' := by
 unfold y4 at he ⊢
 split at he
 ·rename_i id r off cs hv
  have hid : id ∈ (AV.ptr id r off).hid := by simp [AV.hid]
  rw [h id hid]
  split at he
  ·rename_i sz rs _
   split at he
   ·rename_i row hrow
    split at he
    ·rename_i hc
     cases he
     simp only [hc, if_true]
     exact ⟨_, rfl, Upd.set h hl hid⟩
    ·cases he
   ·cases he
  ·cases he
 ·rename_i id cs off cs' hv
  have hid : id ∈ (AV.rpt id cs off).hid := by simp [AV.hid]
  rw [h id hid]
  split at he
  ·split at he
   ·rename_i hc
    cases he
    rw [if_pos hc]
    exact ⟨_, rfl, Upd.same h⟩
   ·rename_i hc0
    split at he
    ·rename_i hc
     cases he
     rw [if_neg hc0, if_pos hc]
     exact ⟨_, rfl, Upd.same h⟩
    ·cases he
  ·cases he
 ·cases he
theorem qjq {cfg : Cfg} {at_ : Nat} {s d : TypeId} {x r : AV} {wr : List Nat} (he : yO cfg (some at_) s d x H = some (r, H')) (h : ∀ id ∈ x.hid, H2[id]? = H[id]?) (hwr : ∀ id ∈ wr, H2[id]? = H[id]?) (hl : H2.length = H.length) (hk : at_ ∈ wr) :
  ∃ H2', yO cfg (some at_) s d x H2 = some (r, H2') ∧ Upd wr H2 H' H2' := by
 unfold yO at he ⊢
 split at he
 ·cases he; exact ⟨H2, rfl, Upd.same hwr⟩
 ·cases he; exact ⟨H2, rfl, Upd.same hwr⟩
 ·rename_i sd e t hs hd
  split at he
  ·rename_i hte
   split at he
   ·rename_i k H1 hnew
    cases he
    obtain ⟨H2', e1, e2⟩ := zW hnew hwr hl hk
    simp only [e1]
    exact ⟨H2', rfl, e2⟩
   ·cases he
  ·cases he
 ·rename_i e hs hd hne
  split at he
  ·rename_i rows hte hrows
   rw [qhB h]
   split at he
   ·rename_i bs hbs
    cases he
    exact ⟨H2, by simp only [hte, hrows, hbs], Upd.same hwr⟩
   ·cases he
  ·cases he
 ·cases he
theorem qgD {cfg : Cfg} {at_ : Nat} {t : TypeId} {l c r : AV} {wr : List Nat} (he : qbj cfg (some at_) t l c H = some (r, H')) (hwr : ∀ id ∈ wr, H2[id]? = H[id]?) (hl : H2.length = H.length) (hk : at_ ∈ wr) :
  ∃ H2', qbj cfg (some at_) t l c H2 = some (r, H2') ∧ Upd wr H2 H' H2' := by
 unfold qbj at he ⊢
 split at he
 ·split at he
  ·split at he
   ·rename_i h1
    split at he
    ·rename_i h2
     split at he
     ·rename_i k H1 hnew
      cases he
      obtain ⟨H2', e1, e2⟩ := zW hnew hwr hl hk
      simp only [h1, if_true, h2, e1]
      exact ⟨H2', by simp, e2⟩
     ·cases he
    ·cases he
   ·cases he
  ·cases he
 ·cases he
theorem qms {cfg : Cfg} {at_ : Nat} {t : TypeId} {l c r : AV} {wr : List Nat} (he : qae cfg (some at_) t l c H = some (r, H')) (hwr : ∀ id ∈ wr, H2[id]? = H[id]?) (hl : H2.length = H.length) (hk : at_ ∈ wr) :
  ∃ H2', qae cfg (some at_) t l c H2 = some (r, H2') ∧ Upd wr H2 H' H2' := by
 unfold qae at he ⊢
 split at he
 ·exact qgD he hwr hl hk
 ·split at he
  ·split at he
   ·rename_i hn
    rw [if_pos hn]
    obtain ⟨q, hq, hw⟩ := quf.1 he
    obtain ⟨v, H1⟩ := q
    obtain ⟨H2', e1, e2⟩ := qgD hq hwr hl hk
    rw [e1]
    unfold qn9 at hw
    split at hw
    ·rename_i id off len H0 e
     cases e
     cases hw
     exact ⟨H2', rfl, e2⟩
    ·cases hw
   ·cases he
  ·cases he
theorem qkn {cfg : Cfg} {at_ : Nat} {t xt : TypeId} {s x r : AV} {wr : List Nat} (he : qay cfg (some at_) t xt s x H = some (r, H')) (hx : ∀ id ∈ x.hid, H2[id]? = H[id]?) (hwr : ∀ id ∈ wr, H2[id]? = H[id]?) (hl : H2.length = H.length) (hk : at_ ∈ wr)
  (hs : ∀ id ∈ s.hid, id ∈ wr) : ∃ H2', qay cfg (some at_) t xt s x H2 = some (r, H2') ∧ Upd wr H2 H' H2' := by
 unfold qay at he ⊢
 split at he
 case h_2 => cases he
 split at he
 case h_2 => cases he
 split at he
 case isFalse => cases he
 rename_i h1
 rw [if_pos h1, qmN hx, qmO hx]
 split at he
 case h_2 => cases he
 split at he
 ·split at he
  ·rename_i h2
   cases he
   rw [if_pos h2]
   exact ⟨H2, rfl, Upd.same hwr⟩
  ·rename_i h2
   rw [if_neg h2]
   split at he
   ·rename_i h3
    rw [if_pos h3]
    split at he
    ·rename_i k H1 hnew
     cases he
     obtain ⟨H2', e1, e2⟩ := zW hnew hwr hl hk
     simp only [e1]
     exact ⟨H2', rfl, e2⟩
    ·cases he
   ·cases he
 ·rename_i id off len
  have hid : id ∈ wr := hs id (by simp [AV.hid])
  rw [hwr id hid]
  split at he
  ·rename_i sz rs _
   split at he
   ·rename_i h2
    rw [if_pos h2]
    split at he
    ·rename_i k H1 hnew
     cases he
     obtain ⟨H2', e1, e2⟩ := zW (H2 := H2.set id .dead) hnew (fun j hj => by
      rw [qur, qur]
      split
      ·rw [hl]
      ·exact hwr j hj) (by simpa using hl) hk
     simp only [e1]
     exact ⟨H2', rfl, e2.of_set hid⟩
    ·cases he
   ·cases he
  ·cases he
 ·cases he
theorem qhM {at_ : Nat} {G : AH} {a r : AV} (he : yY (some at_) G a H = some (r, H')) (hl : H2.length = H.length) (hwr : ∀ id ∈ [at_], H2[id]? = H[id]?) : ∃ H2', yY (some at_) G a H2 = some (r, H2') ∧ Upd [at_] H2 H' H2' := by
 unfold yY at he ⊢
 split at he
 ·split at he
  ·split at he
   ·rename_i h2
    rw [if_pos h2]
    split at he
    ·rename_i k H1 hnew
     cases he
     obtain ⟨H2', e1, e2⟩ := zW hnew hwr hl (by simp)
     simp only [e1]
     exact ⟨H2', rfl, e2⟩
    ·cases he
   ·cases he
  ·cases he
 ·split at he
  ·rename_i h2
   cases he
   rw [if_pos h2]
   exact ⟨H2, rfl, Upd.same hwr⟩
  ·cases he
theorem qeQ {k : Nat} {H : AH} : ∀ (n : Nat) (found todo : List Nat), ∀ x ∈ found, x ∈ xN k H n found todo
 | 0, found, _, x, h => h
 | n + 1, found, [], x, h => h
 | n + 1, found, id :: todo, x, h => by
  rw [xN]
  split
  ·exact qeQ n _ _ x h
  ·exact qeQ n _ _ x (quA.2 (.inl h))
theorem qeR {k : Nat} : ∀ (n : Nat) (found todo : List Nat), (∀ id ∈ xN k H n found todo, H2[id]? = H[id]?) → xN k H2 n found todo = xN k H n found todo
 | 0, found, _, _ => by rw [xN, xN]
 | n + 1, found, [], _ => by rw [xN, xN]
 | n + 1, found, id :: todo, h => by
  rw [xN] at h ⊢
  conv => rhs; rw [xN]
  split
  ·rename_i hi
   rw [if_pos hi] at h
   exact qeR n _ _ h
  ·rename_i hi
   rw [if_neg hi] at h
   have hid : H2[id]? = H[id]? := h id (qeQ n _ _ id (by simp))
   have : qij k H2 id = qij k H id := by unfold qij; rw [hid]
   rw [this]
   exact qeR n _ _ h
theorem qhv {args : List AV} (hl : H2.length = H.length) (h : ∀ id ∈ vn H args, H2[id]? = H[id]?) : vn H2 args = vn H args := by
 unfold vn at h ⊢
 rw [hl]
 exact qeR _ _ _ h
theorem qem {at_ g : Nat} {pl : List Nat × AH} (hr : ∀ j, j < 4 → H2[at_ + j]? = H[at_ + j]?) (h : xR (some at_) H g = some pl) :
  ∃ N, pl = (N, H) ∧ (∀ i ∈ N, ∃ j, j < 4 ∧ i = at_ + j) ∧ xR (some at_) H2 g = some (N, H2) := by
 unfold xR at h ⊢
 simp only at h ⊢
 split at h
 case isFalse => cases h
 rename_i hc
 cases h
 have hc' := hc
 rw [que, List.all_eq_true, quJ] at hc
 have hall : ((quK g).all fun j => qoS H2[at_ + j]?) = true := List.all_eq_true.2 fun j hj => by
  have : j < g := by simpa using hj
  rw [hr j (by omega)]; exact hc.2 j hj
 refine ⟨_, rfl, fun i hi => ?_, ?_⟩
 ·obtain ⟨j, hj, rfl⟩ := List.mem_map.1 hi
  have : j < g := by simpa using hj
  exact ⟨j, by omega, rfl⟩
 ·rw [if_pos (by rw [hall, Bool.and_true, quJ]; exact hc.1)]
theorem Upd.mono {wr wr' : List Nat} {H2' : AH} (h : Upd wr H2 H' H2') (hs : ∀ id ∈ wr, id ∈ wr') (hr : ∀ id ∈ wr', H2[id]? = H'[id]? ∨ id ∈ wr) : Upd wr' H2 H' H2' := ⟨h.1, fun id => by
 rw [h.2 id]
 by_cases hi : id ∈ wr
 ·rw [if_pos hi, if_pos (hs id hi)]
 ·rw [if_neg hi]
  by_cases hi' : id ∈ wr'
  ·rw [if_pos hi']; exact (hr id hi').resolve_right hi
  ·rw [if_neg hi']⟩
theorem qht {L : List Nat} {G : AH} (hl : H2.length = H.length) : Upd L H2 (x7 H L G) (x7 H2 L G) := by
 refine ⟨qdJ _, fun id => ?_⟩
 rw [qaB, qaB]
 by_cases hi : id ∈ L
 ·rw [if_pos hi]
  obtain ⟨p, hp⟩ := zv (k := 0) hi
  rw [hp]
  by_cases hlt : id < H.length
  ·rw [quj hlt, quj (hl ▸ hlt)]; try rfl
  ·rw [List.getElem?_eq_none (by omega), List.getElem?_eq_none (by omega)]; try rfl
 ·rw [if_neg hi]
  have hn : q5 id 0 L = none := by
   cases hp : q5 id 0 L with
   | none => rfl
   | some p => exact absurd (quv (yn hp).2) hi
  rw [hn]
  cases H2[id]? <;> rfl
theorem qnw {cfg : Cfg} {cf : Orac} {at_ : Nat} {t : Tgt} {args : List AV} {r : AV} (he : qU cfg cf (some at_) t args H = some (r, H')) (hw : (qbt cfg at_ t args H).wall = false) (hl : H2.length = H.length)
  (hr : ∀ id ∈ (qbt cfg at_ t args H).rd, H2[id]? = H[id]?) (hwr : ∀ id ∈ (qbt cfg at_ t args H).wr, H2[id]? = H[id]?) : ∃ H2', qU cfg cf (some at_) t args H2 = some (r, H2') ∧ Upd (qbt cfg at_ t args H).wr H2 H' H2' := by
 cases t with
 | y id => simp [qbt] at hw
 | f f =>
  simp only [qbt, qU] at *
  cases hm : cfg.mode f with
  | scal =>
   simp only [hm] at *
   have hs : (args.map fun a => (a.snap H2).fg) = (args.map fun a => (a.snap H).fg) := List.map_congr_left fun p hp => by rw [qra fun id hi => hr id (List.mem_flatMap.2 ⟨p, hp, hi⟩)]
   rw [hs]
   split at he
   case isFalse => cases he
   rename_i h1
   rw [if_pos h1]
   obtain ⟨q, hq, he⟩ := quf.1 he
   rw [hq]
   split at he
   case isFalse => cases he
   rename_i h2
   cases he
   exact ⟨H2, by simp [h2], Upd.same hwr⟩
  | pfrz =>
   simp only [hm] at *
   split at he
   case isFalse => cases he
   rename_i h1
   rw [if_pos h1]
   obtain ⟨q, hq, he⟩ := quf.1 he
   rw [hq]
   split at he
   case isFalse => cases he
   rename_i h2
   cases he
   exact ⟨H2, by simp [h2], Upd.same (fun id hi => by simp [FP.none] at hi)⟩
  | wfrz =>
   simp only [hm] at *
   split at he
   case isFalse => cases he
   rename_i h1
   rw [if_pos h1]
   obtain ⟨q, hq, he⟩ := quf.1 he
   rw [hq]
   split at he
   case isFalse => cases he
   rename_i h2
   cases he
   exact ⟨H2, by simp [h2], Upd.same (fun id hi => by simp [FP.none] at hi)⟩
  | nfrz =>
   simp only [hm] at *
   split at he
   case isFalse => cases he
   rename_i h1
   rw [if_pos h1]
   obtain ⟨q, hq, he⟩ := quf.1 he
   rw [hq]
   obtain ⟨V, hV, hpe⟩ := quk.1 he
   cases hpe
   exact ⟨H2, by simp [hV], Upd.same (fun id hi => by simp [FP.none] at hi)⟩
  | pown =>
   simp only [hm] at *
   split at he
   case isFalse => cases he
   rename_i h1
   rw [if_pos h1]
   obtain ⟨q, hq, he⟩ := quf.1 he
   rw [hq]
   simp only [quq]
   unfold qcd at he ⊢
   split at he
   ·split at he
    case isFalse => cases he
    rename_i hsc
    rw [if_pos hsc]
    obtain ⟨p, hp, hpe⟩ := quk.1 he
    cases hpe
    obtain ⟨H2', e1, e2⟩ := qhM hp hl hwr
    rw [e1]
    exact ⟨H2', rfl, e2⟩
   ·exact qhM he hl hwr
  | slf =>
   simp only [hm] at *
   split at he
   case h_2 => cases he
   rename_i id l hids
   simp only [hids] at hwr ⊢
   split at he
   case isFalse => cases he
   rename_i h1
   rw [if_pos h1, hwr id (by simp)]
   split at he
   case h_2 => cases he
   rename_i d sz rs hid
   try simp only [hid]
   split at he
   case isFalse => cases he
   rename_i h2
   rw [if_pos h2]
   obtain ⟨q, hq, he⟩ := quf.1 he
   rw [hq]
   obtain ⟨p, hp, hpe⟩ := quk.1 he
   cases hpe
   exact ⟨H2.set id (.rows false sz (renR (fun _ => id) p.2)), by simp [hp], Upd.set hwr hl (by simp)⟩
  | imp => simp [hm] at hw
  | sub =>
   simp only [hm] at *
   have hwr1 : ∀ id ∈ vn H args, H2[id]? = H[id]? := fun id hi => hwr id (quA.2 (.inl hi))
   have hs : vn H2 args = vn H args := qhv hl hwr1
   have hb : xj H2 (vn H args) = xj H (vn H args) := qad hwr1
   have ho : zz H2 args = zz H args := by unfold zz; rw [hs, hb]
   obtain ⟨s, h0, he⟩ := quf.1 he
   obtain ⟨q, hq, he⟩ := quf.1 he
   obtain ⟨p, hp, he⟩ := quf.1 he
   obtain ⟨pl, hpl, hpe⟩ := quk.1 he
   cases hpe
   have hsl : s.1 = vn H args := qjv h0
   obtain ⟨N, rfl, hN, e1⟩ := qem (fun j hj => hwr (at_ + j) (quA.2 (.inr (by
    have : j = 0 ∨ j = 1 ∨ j = 2 ∨ j = 3 := by omega
    rcases this with rfl | rfl | rfl | rfl <;> simp)))) hpl
   refine ⟨x7 H2 (s.1 ++ N) p.2, by simp [ho, h0, hq, hp, e1], ?_⟩
   rw [hsl]
   refine (qht hl).mono (fun id hi => ?_) fun id hi => ?_
   rcases quA.1 hi with hi | hi
   ·exact quA.2 (.inl hi)
   ·refine quA.2 (.inr ?_)
    obtain ⟨j, hj, rfl⟩ := hN id hi
    have : j = 0 ∨ j = 1 ∨ j = 2 ∨ j = 3 := by omega
    rcases this with rfl | rfl | rfl | rfl <;> simp
   ·by_cases hin : id ∈ vn H args ++ N
    ·exact .inr hin
    ·left
     rw [hwr id hi, qaB]
     have hn : q5 id 0 (vn H args ++ N) = none := by
      cases hp : q5 id 0 (vn H args ++ N) with
      | none => rfl
      | some p => exact absurd (quv (yn hp).2) hin
     rw [hn]
     cases H[id]? <;> rfl
  | obj =>
   simp only [hm] at *
   have hwr1 : ∀ id ∈ vn H args, H2[id]? = H[id]? := fun id hi => hwr id (quA.2 (.inl hi))
   have hs : vn H2 args = vn H args := qhv hl hwr1
   have hb : xj H2 (vn H args) = xj H (vn H args) := qad hwr1
   have ho : zz H2 args = zz H args := by unfold zz; rw [hs, hb]
   obtain ⟨s, h0, he⟩ := quf.1 he
   split at he
   case isFalse => cases he
   rename_i hkn
   obtain ⟨q, hq, he⟩ := quf.1 he
   obtain ⟨p, hp, he⟩ := quf.1 he
   obtain ⟨pl, hpl, hpe⟩ := quk.1 he
   cases hpe
   have hsl : s.1 = vn H args := qjv h0
   obtain ⟨N, rfl, hN, e1⟩ := qem (fun j hj => hwr (at_ + j) (quA.2 (.inr (by
    have : j = 0 ∨ j = 1 ∨ j = 2 ∨ j = 3 := by omega
    rcases this with rfl | rfl | rfl | rfl <;> simp)))) hpl
   refine ⟨x7 H2 (s.1 ++ N) (xK (objK (cfg.okeep f) (renL (q4 0 s.1) args)) s.1.length p.2), by rw [ho, h0]; simp only [quq, hkn, if_true, hq, hp, e1, quz], ?_⟩
   rw [hsl]
   refine (qht hl).mono (fun id hi => ?_) fun id hi => ?_
   rcases quA.1 hi with hi | hi
   ·exact quA.2 (.inl hi)
   ·refine quA.2 (.inr ?_)
    obtain ⟨j, hj, rfl⟩ := hN id hi
    have : j = 0 ∨ j = 1 ∨ j = 2 ∨ j = 3 := by omega
    rcases this with rfl | rfl | rfl | rfl <;> simp
   ·by_cases hin : id ∈ vn H args ++ N
    ·exact .inr hin
    ·left
     rw [hwr id hi, qaB]
     have hn : q5 id 0 (vn H args ++ N) = none := by
      cases hp : q5 id 0 (vn H args ++ N) with
      | none => rfl
      | some p => exact absurd (quv (yn hp).2) hin
     rw [hn]
     cases H[id]? <;> rfl
  | inpl =>
   simp only [hm] at *
   split at he
   case h_2 =>
    rename_i hids
    simp only [hids] at hwr ⊢
    split at he
    case isFalse => cases he
    rename_i h1
    rw [if_pos h1]
    obtain ⟨q, hq, he⟩ := quf.1 he
    rw [hq]
    split at he
    case isFalse => cases he
    rename_i h2
    cases he
    exact ⟨H2, by simp [h2], Upd.same hwr⟩
   rename_i id l hids
   simp only [hids] at hwr ⊢
   split at he
   case isFalse => cases he
   rename_i h1
   rw [if_pos h1, hwr id (by simp)]
   split at he
   case h_2 => cases he
   rename_i d sz rs hid
   try simp only [hid]
   split at he
   case isFalse => cases he
   rename_i h2
   rw [if_pos h2]
   obtain ⟨q, hq, he⟩ := quf.1 he
   rw [hq]
   obtain ⟨p, hp, hpe⟩ := quk.1 he
   cases hpe
   exact ⟨H2.set id (.rows true sz p.2), by simp [hp], Upd.set hwr hl (by simp)⟩
  | inpf =>
   simp only [hm] at *
   split at he
   case h_2 => cases he
   rename_i id l hids
   simp only [hids] at hwr ⊢
   split at he
   case isFalse => cases he
   rename_i h1
   rw [if_pos h1, hwr id (by simp)]
   split at he
   case h_2 => cases he
   rename_i d sz rs hid
   try simp only [hid]
   split at he
   case isFalse => cases he
   rename_i h2
   rw [if_pos h2]
   obtain ⟨q, hq, he⟩ := quf.1 he
   rw [hq]
   obtain ⟨p, hp, hpe⟩ := quk.1 he
   cases hpe
   exact ⟨H2.set id (.rows true sz p.2), by simp [hp], Upd.set hwr hl (by simp)⟩
  | ifrz => simp [hm] at hw
  | rgn =>
   simp only [hm] at *
   split at he
   case isFalse => cases he
   rename_i h1
   rw [if_pos h1]
   obtain ⟨q, hq, he⟩ := quf.1 he
   obtain ⟨V, hV, he⟩ := quf.1 he
   obtain ⟨p, hp, hpe⟩ := quk.1 he
   cases hpe
   obtain ⟨H2', e1, e2⟩ := zW hp hwr hl (by simp)
   exact ⟨H2', by simp [hq, hV, e1], e2⟩
  | over => simp [hm] at hw
  | bld => simp [hm] at hw
theorem qry {ids : List Nat} {a : AV} (h : ∀ id ∈ ids, H2[id]? = H[id]?) : a.frz1 ids H2 = a.frz1 ids H := by
 cases a with
 | ms id off len =>
  by_cases hi : id ∈ ids
  ·simp only [AV.frz1, yM (h id hi), qdi (h id hi)]
  ·have hn : xO id ids = false := by rw [← Bool.not_eq_true, vC]; exact hi
   simp only [AV.frz1, hn, Bool.false_and, quo, if_false]
   cases qX H2 id <;> cases qX H id <;> rfl
 | _ => rfl
theorem qjg {ids : List Nat} {a : AV} (h : ∀ id ∈ ids, H2[id]? = H[id]?) : a.frz ids H2 = a.frz ids H := by
 have : AV.frz1 ids H2 = AV.frz1 ids H := funext fun _ => qry h
 cases a <;> simp only [AV.frz, this]
theorem zZ {H : AH} {i id : Nat} : (vL H i)[id]? = if i = id then (match H[id]? with | some (.rows d sz rs) => some (.froz d sz rs) | b => b) else H[id]? := by
 unfold vL
 split
 ·rename_i d sz rs hi
  rw [qur]
  by_cases e : i = id
  ·subst e
   have := (quh.1 hi).1
   rw [if_pos rfl, if_pos this, if_pos rfl, hi]
  ·rw [if_neg e, if_neg e]
 ·rename_i hn
  by_cases e : i = id
  ·subst e
   rw [if_pos rfl]
   split
   ·rename_i d sz rs hi; exact absurd hi (hn d sz rs)
   ·rfl
  ·rw [if_neg e]
theorem qc9 : ∀ (ids : List Nat) {H H2 : AH}, (∀ id ∈ ids, H2[id]? = H[id]?) → ∀ id, (qR ids H2)[id]? = if id ∈ ids then (qR ids H)[id]? else H2[id]?
 | [], H, H2, _, id => by simp [qR]
 | i :: l, H, H2, h, id => by
  have hi := h i (by simp)
  have ih := qc9 l (H := vL H i) (H2 := vL H2 i) (fun j hj => by
   rw [zZ, zZ, h j (by simp [hj])]) id
  have e1 : qR (i :: l) H2 = qR l (vL H2 i) := rfl
  have e2 : qR (i :: l) H = qR l (vL H i) := rfl
  rw [e1, e2, ih]
  by_cases hl : id ∈ l
  ·rw [if_pos hl, if_pos (by simp [hl])]
  ·rw [if_neg hl]
   by_cases e : id = i
   ·subst e
    have hk : ∀ (l : List Nat) (H : AH), id ∉ l → (qR l H)[id]? = H[id]? := by
     intro l
     induction l with
     | nil => intro H _; rfl
     | cons j l ih =>
      intro H hn
      show (qR l (vL H j))[id]? = _
      rw [ih _ (fun hm => hn (by simp [hm])), zZ, if_neg (fun e => hn (by simp [e]))]
    rw [if_pos (by simp), hk l _ hl, zZ, zZ, hi]
   ·rw [if_neg (by simp [hl, e]), zZ, if_neg (fun h => e h.symm)]
theorem qcp {cfg : Cfg} {cf : Orac} {frz : Bool} {at_ : Nat} {o : Oper} {x : Operand → AV} {r : AV} (he : vj cfg cf frz (some at_) o x H = some (r, H')) (hw : (ya cfg frz at_ o x H).wall = false) (hl : H2.length = H.length)
  (hr : ∀ id ∈ (ya cfg frz at_ o x H).rd, H2[id]? = H[id]?) (hwr : ∀ id ∈ (ya cfg frz at_ o x H).wr, H2[id]? = H[id]?) : ∃ H2', vj cfg cf frz (some at_) o x H2 = some (r, H2') ∧ Upd (ya cfg frz at_ o x H).wr H2 H' H2' := by
 obtain ⟨dst, op, ty, pos, after, guard⟩ := o
 cases frz with
 | true =>
  unfold ya at hw hwr ⊢
  simp only [if_true] at hw hwr ⊢
  unfold vj at he ⊢
  simp only [if_true] at he ⊢
  cases op with
  | build t parts =>
   simp only at hw hwr he ⊢
   have hx : (fun a => (x a).frz ((Op.build t parts).operands.toList.flatMap fun a => (x a).msIds) H2) = fun a => (x a).frz ((Op.build t parts).operands.toList.flatMap fun a => (x a).msIds) H := funext fun a => qjg hwr
   rw [hx]
   have hup : Upd ((Op.build t parts).operands.toList.flatMap fun a => (x a).msIds) H2 (qR ((Op.build t parts).operands.toList.flatMap fun a => (x a).msIds) H) (qR ((Op.build t parts).operands.toList.flatMap fun a => (x a).msIds) H2) :=
    ⟨qbf _ _, qc9 _ hwr⟩
   generalize (Op.build t parts).operands.toList.flatMap (fun a => (x a).msIds) = ids at *
   simp only [evOp] at *
   split at he
   ·split at he
    ·rename_i h1
     rw [if_pos h1]
     split at he
     ·split at he
      ·obtain ⟨cs, hcs, e⟩ := quk.1 he
       cases e
       rw [hcs]
       exact ⟨_, rfl, hup⟩
      ·cases he
     ·split at he
      ·obtain ⟨cs, hcs, e⟩ := quk.1 he
       cases e
       rw [hcs]
       exact ⟨_, rfl, hup⟩
      ·cases he
     ·cases he
    ·cases he
   ·cases he
  | call c =>
   obtain ⟨callee, args, argTypes⟩ := c
   cases callee with
   | value f =>
    simp only at hw hwr he ⊢
    split at hw
    case h_2 => simp at hw
    rename_i h al ht
    simp only [ht] at hwr ⊢
    cases hm : cfg.mode h with
    | pfrz =>
     simp only [hm] at hwr ⊢
     have hx : (fun a => (x a).frz ((Op.call ⟨.value f, args, argTypes⟩).operands.toList.flatMap fun a => (x a).msIds) H2) = fun a => (x a).frz ((Op.call ⟨.value f, args, argTypes⟩).operands.toList.flatMap fun a => (x a).msIds) H := funext fun a => qjg hwr
     have hup : Upd ((Op.call ⟨.value f, args, argTypes⟩).operands.toList.flatMap fun a => (x a).msIds) H2 (qR ((Op.call ⟨.value f, args, argTypes⟩).operands.toList.flatMap fun a => (x a).msIds) H) (qR ((Op.call ⟨.value f, args, argTypes⟩).operands.toList.flatMap fun a => (x a).msIds) H2) :=
      ⟨qbf _ _, qc9 _ hwr⟩
     have hxa : ∀ a, (x a).frz ((Op.call ⟨.value f, args, argTypes⟩).operands.toList.flatMap fun a => (x a).msIds) H2 = (x a).frz ((Op.call ⟨.value f, args, argTypes⟩).operands.toList.flatMap fun a => (x a).msIds) H := fun a => qjg hwr
     rw [hxa, hx]
     clear hxa hx hwr hr hw
     generalize (Op.call ⟨.value f, args, argTypes⟩).operands.toList.flatMap (fun a => (x a).msIds) = ids at *
     have hxf : (x f).frz ids H = x f := by
      unfold yx at ht
      split at ht
      ·rename_i hx; rw [hx]; rfl
      ·simp at ht
      ·cases ht
     rw [hxf] at he ⊢
     obtain ⟨t2, ht2, he⟩ := quf.1 he
     rw [ht2]
     have htf : t2.1 = .f h := by
      unfold yx at ht ht2
      split at ht
      ·rename_i hx
       rw [hx] at ht2
       simp only [Option.some.injEq, Prod.mk.injEq] at ht ht2
       rw [← ht2]; exact ht.1
      ·simp at ht
      ·cases ht
     obtain ⟨t2a, t2b⟩ := t2
     simp only at htf
     subst htf
     simp only [quq, qU, hm] at he ⊢
     split at he
     case isFalse => cases he
     rename_i h1
     rw [if_pos h1]
     obtain ⟨q, hq, he⟩ := quf.1 he
     rw [hq]
     simp only [quq] at he ⊢
     split at he
     case isFalse => cases he
     rename_i h2
     cases he
     exact ⟨_, by rw [if_pos h2], hup⟩
    | _ => simp [hm] at hw
   | _ => simp at hw
  | _ => simp at hw
 | false =>
  unfold vj at he ⊢
  simp only [quo, if_false] at he ⊢
  unfold ya at hw hr hwr ⊢
  simp only [quo, if_false] at hw hr hwr ⊢
  cases op with
  | move a => simp only [evOp] at *; cases he; exact ⟨H2, rfl, Upd.same hwr⟩
  | assign a => simp only [evOp] at *; cases he; exact ⟨H2, rfl, Upd.same hwr⟩
  | pick c a b =>
   simp only [evOp] at *
   split at he
   ·cases he; exact ⟨H2, rfl, Upd.same hwr⟩
   ·cases he
  | alloc t =>
   simp only [evOp] at *
   split at he
   ·split at he
    ·rename_i h1
     rw [if_pos h1]
     split at he
     ·rename_i k H1 hnew
      cases he
      obtain ⟨H2', e1, e2⟩ := zW hnew hwr hl (by simp)
      simp only [e1]
      exact ⟨H2', rfl, e2⟩
     ·cases he
    ·cases he
   ·cases he
  | box t a =>
   simp only [evOp] at *
   split at he
   ·split at he
    ·rename_i k H1 hnew
     cases he
     obtain ⟨H2', e1, e2⟩ := zW hnew hwr hl (by simp)
     simp only [e1]
     exact ⟨H2', rfl, e2⟩
    ·cases he
   ·cases he
  | build t parts =>
   simp only [evOp] at *
   split at he
   ·split at he
    ·rename_i h1
     rw [if_pos h1]
     split at he
     ·split at he
      ·obtain ⟨cs, hcs, e⟩ := quk.1 he
       cases e
       rw [hcs]
       exact ⟨H2, rfl, Upd.same hwr⟩
      ·cases he
     ·split at he
      ·obtain ⟨cs, hcs, e⟩ := quk.1 he
       cases e
       rw [hcs]
       exact ⟨H2, rfl, Upd.same hwr⟩
      ·cases he
     ·cases he
    ·cases he
   ·cases he
  | buildSlice t len parts =>
   simp only [evOp] at *
   split at he
   ·split at he
    ·split at he
     ·rename_i h1
      rw [if_pos h1]
      split at he
      ·split at he
       ·rename_i k H1 hnew
        cases he
        obtain ⟨H2', e1, e2⟩ := zW hnew hwr hl (by simp)
        simp only [e1]
        exact ⟨H2', rfl, e2⟩
       ·cases he
      ·cases he
     ·cases he
    ·cases he
   ·cases he
  | load t a =>
   simp only [evOp] at *
   split at he
   ·exact xr he (qqM hr) hwr
   ·cases he
  | store t a v =>
   simp only [evOp] at *
   split at he
   ·obtain ⟨H1, h1, e⟩ := quk.1 he
    cases e
    obtain ⟨H2', e1, e2⟩ := qmp h1 hwr hl
    rw [e1]
    exact ⟨H2', rfl, e2⟩
   ·cases he
  | nilCheck a =>
   simp only [evOp] at *
   split at he <;> first | (cases he; exact ⟨H2, rfl, Upd.same hwr⟩) | cases he
  | binOp op t a b yt => simp only [evOp] at *; exact xr he rfl hwr
  | unOp op t a => simp only [evOp] at *; exact xr he rfl hwr
  | convert s d a => simp only [evOp] at *; exact qjq he hr hwr hl (by simp)
  | makeFunc f first caps => simp only [evOp] at *; cases he; exact ⟨H2, rfl, Upd.same hwr⟩
  | makeSlice t l c => simp only [evOp] at *; exact qms he hwr hl (by simp)
  | slice t a lo hi mx => simp only [evOp] at *; exact xr he (qpo hr) hwr
  | fieldAddr t a f => simp only [evOp] at *; exact xr he rfl hwr
  | field t a f => simp only [evOp] at *; exact xr he rfl hwr
  | indexAddr t a i => simp only [evOp] at *; exact xr he (qjo fun id hi => hr id (qlU hi)) hwr
  | index t a i => simp only [evOp] at *; exact xr he rfl hwr
  | extract t i =>
   simp only [evOp] at *
   split at he
   ·exact xr he rfl hwr
   ·cases he
  | call c =>
   obtain ⟨callee, args, argTypes⟩ := c
   cases callee with
   | value f =>
    simp only at *
    obtain ⟨t, ht, he⟩ := quf.1 he
    simp only [ht] at hw hr hwr ⊢
    exact qnw he hw hl hr hwr
   | invoke rv nm => simp at hw
   | builtin b =>
    simp only [evOp] at he ⊢
    simp only at hw hr hwr
    generalize args.toList = al at *
    generalize argTypes.toList = tl at *
    split at he
    ·rename_i hb; cases hb; exact xr he (qrK fun id hi => hr id (qlU hi)) hwr
    ·rename_i hb; cases hb; exact xr he rfl hwr
    ·rename_i hb; cases hb; exact qkn he hr hwr hl (by simp) (fun id hi => by simp [hi])
    ·rename_i hb; cases hb; simp at hw
    ·rename_i hb; cases hb; simp at hw
    ·rename_i hb; cases hb; exact xr he rfl hwr
    ·rename_i hb; cases hb; exact xr he rfl hwr
    ·cases he
  | makeMap t rv => simp at hw
  | lookup t a k ok =>
   simp only [evOp] at *
   exact xr he (qnA hr) hwr
  | mapUpdate t m k v => simp at hw
  | insert t m k v => simp at hw
  | _ => simp only [evOp] at he; cases he
variable {C C' C1 C2 : qd} {μ μ' μ1 : MMap} {H H' H1 H2 : AH} {w w' w1 : World} {P : Program}
theorem qd2 {at_ k : Nat} {r r' : AV} (h : qab (some at_) k r H = some (r', H')) : H'.length = k := by
 unfold qab at h
 split at h
 ·simp only at h
  split at h
  ·rename_i hb
   cases h
   exact qui hb
  ·cases h
 ·cases h
theorem qgC {cfg : Cfg} {t : TypeId} {m k v : AV} (h : qax cfg t m k v H = some H') : H'.length = H.length := by
 unfold qax at h
 split at h
 ·split at h
  ·split at h
   ·split at h
    ·cases h; simp
    ·cases h; simp
    ·cases h
   ·cases h
  ·cases h
 ·cases h
theorem qo2 {cfg : Cfg} {cf : Orac} {frz : Bool} {at_ : Nat} {o : Oper} {x : Operand → AV} {r : AV} (he : vj cfg cf frz (some at_) o x H = some (r, H')) : H'.length = H.length := by
 have core : ∀ {x : Operand → AV} {H : AH}, vj cfg cf false (some at_) o x H = some (r, H') → H'.length = H.length := by
  intro x H he
  cases hw : (ya cfg false at_ o x H).wall with
  | false =>
   obtain ⟨H2', e1, e2⟩ := qcp (H2 := H) he hw rfl (fun _ _ => rfl) (fun _ _ => rfl)
   rw [he] at e1
   cases e1
   exact e2.1
  | true =>
   obtain ⟨dst, op, ty, pos, after, guard⟩ := o
   unfold vj at he
   simp only [quo, if_false] at he
   unfold ya at hw
   simp only [quo, if_false] at hw
   cases op with
   | call c =>
    obtain ⟨callee, args, argTypes⟩ := c
    cases callee with
    | value f =>
     simp only at *
     obtain ⟨t, ht, he⟩ := quf.1 he
     simp only [ht] at hw
     cases ht1 : t.1 with
     | y id =>
      rw [ht1] at he
      simp only [qU] at he
      obtain ⟨q, _, he⟩ := quf.1 he
      exact qd2 he
     | f g =>
      rw [ht1] at he hw
      simp only [qU, qbt] at he hw
      cases hm : cfg.mode g with
      | scal => simp [hm] at hw
      | pfrz => simp [hm, FP.none] at hw
      | nfrz => simp [hm, FP.none] at hw
      | wfrz => simp [hm, FP.none] at hw
      | pown => simp [hm] at hw
      | inpl => simp [hm] at hw
      | inpf => simp [hm] at hw
      | slf => simp [hm] at hw
      | sub => simp [hm] at hw
      | obj => simp [hm] at hw
      | imp =>
       simp only [hm] at he
       obtain ⟨q, _, he⟩ := quf.1 he
       exact qd2 he
      | ifrz =>
       simp only [hm] at he
       obtain ⟨q, _, he⟩ := quf.1 he
       exact qd2 he
      | rgn => simp [hm] at hw
      | bld =>
       simp only [hm] at he
       split at he
       case h_2 => cases he
       split at he
       case isFalse => cases he
       split at he
       case h_2 => cases he
       obtain ⟨u, _, he⟩ := quf.1 he
       obtain ⟨u, _, he⟩ := quk.1 he
       cases he; simp
      | over =>
       simp only [hm] at he
       split at he
       case h_2 => cases he
       split at he
       case h_2 => cases he
       split at he
       case isFalse => cases he
       split at he
       ·obtain ⟨u, _, he⟩ := quk.1 he
        cases he; simp
       ·obtain ⟨u, _, he⟩ := quk.1 he
        cases he; rfl
       ·cases he
    | invoke rv nm => simp only [evOp] at he; cases he
    | builtin b =>
     simp only [evOp] at he
     simp only at hw
     generalize args.toList = al at *
     generalize argTypes.toList = tl at *
     split at he
     ·rename_i hb; cases hb; simp at hw
     ·rename_i hb; cases hb; simp [FP.none] at hw
     ·rename_i hb; cases hb; simp at hw
     ·unfold qfS at he
      split at he
      ·split at he
       ·split at he
        ·split at he
         ·cases he; simp
         ·cases he
        ·cases he
       ·cases he
      ·cases he
     ·obtain ⟨H1, h1, e⟩ := quk.1 he
      cases e
      unfold qdC at h1
      split at h1
      ·cases h1; rfl
      ·split at h1
       ·cases h1; simp
       ·cases h1
      ·cases h1; rfl
      ·split at h1
       ·split at h1
        ·cases h1; simp
        ·cases h1
       ·cases h1
      ·cases h1
     ·rename_i hb; cases hb; simp [FP.none] at hw
     ·rename_i hb; cases hb; simp [FP.none] at hw
     ·cases he
   | makeMap t rv =>
    simp only [evOp] at he
    split at he
    ·split at he
     ·rename_i k H1 hnew
      cases he
      unfold aNew at hnew
      split at hnew
      ·rename_i e; cases e
      ·rename_i k' e
       cases e
       split at hnew
       ·cases hnew; simp
       ·cases hnew
     ·cases he
    ·cases he
   | lookup t a k ok =>
    simp only [evOp] at he
    obtain ⟨y, _, e⟩ := quk.1 he
    cases e; rfl
   | mapUpdate t m k v =>
    simp only [evOp] at he
    obtain ⟨H1, h1, e⟩ := quk.1 he
    cases e
    exact qgC h1
   | insert t m k v =>
    simp only [evOp] at he
    obtain ⟨H1, h1, e⟩ := quk.1 he
    cases e
    exact qgC h1
   | _ => simp [FP.none] at hw
 cases frz with
 | false => exact core he
 | true =>
  have he' : vj cfg cf false (some at_) o (fun a => (x a).frz (o.op.operands.toList.flatMap fun a => (x a).msIds) H) (qR (o.op.operands.toList.flatMap fun a => (x a).msIds) H) = some (r, H') := by
   unfold vj at he ⊢
   simpa using he
  rw [core he', qbf]
def ze (p : Nat → Bool) : Nat → Option Nat
 | 0 => none
 | n + 1 => if p n then some n else ze p n
theorem z9 {p q : Nat → Bool} : ∀ {n : Nat}, (∀ j, j < n → p j = q j) → ze p n = ze q n
 | 0, _ => rfl
 | n + 1, h => by rw [ze, ze, h n (Nat.lt_succ_self n), z9 fun j hj => h j (Nat.lt_succ_of_lt hj)]
theorem qdS {p : Nat → Bool} : ∀ {n : Nat}, (∀ j, j < n → p j = false) → ze p n = none
 | 0, _ => rfl
 | n + 1, h => by rw [ze, h n (Nat.lt_succ_self n), if_neg (by simp), qdS fun j hj => h j (Nat.lt_succ_of_lt hj)]
theorem qgN {p : Nat → Bool} {i : Nat} (hi : p i = true) : ∀ {n : Nat}, i < n → (∀ j, j < n → i < j → p j = false) → ze p n = some i
 | 0, h, _ => by omega
 | n + 1, h, hj => by
  rw [ze]
  by_cases e : i = n
  ·subst e; rw [if_pos hi]
  ·rw [hj n (Nat.lt_succ_self n) (by omega), if_neg (by simp), qgN hi (by omega) fun j h1 h2 => hj j (Nat.lt_succ_of_lt h1) h2]
def binds (o : Oper) (m : Nat) : Prop := ∃ e ∈ o.after.toList, Region.binds .any e = true ∧ e.on = m
theorem ql3 (acc : List Nat) : ∀ (l : List Edge) (s i : Nat), (l.foldl (fun s e => if Region.binds .any e then s ||| 2 ^ e.on ||| acc.getD e.on 0 else s) s).testBit i = true →
  s.testBit i = true ∨ ∃ e ∈ l, Region.binds .any e = true ∧ (e.on = i ∨ (acc.getD e.on 0).testBit i = true)
 | [], s, i, h => .inl h
 | e :: l, s, i, h => by
  rw [List.foldl_cons] at h
  rcases ql3 acc l _ i h with h | ⟨e', he', hb⟩
  ·split at h
   ·rename_i hb
    rw [Nat.testBit_or, Nat.testBit_or, Bool.or_eq_true, Bool.or_eq_true] at h
    rcases h with (h | h) | h
    ·exact .inl h
    ·rw [Nat.testBit_two_pow] at h
     exact .inr ⟨e, List.mem_cons_self .., hb, .inl (by simpa using h)⟩
    ·exact .inr ⟨e, List.mem_cons_self .., hb, .inr h⟩
   ·exact .inl h
  ·exact .inr ⟨e', List.mem_cons_of_mem _ he', hb⟩
theorem qgy : ∀ (l : List Oper) (acc : List Nat), ∃ t, ancs acc l = acc ++ t ∧ t.length = l.length
 | [], acc => ⟨[], by simp [ancs], rfl⟩
 | o :: l, acc => by
  obtain ⟨t, h1, h2⟩ := qgy l (acc ++ [qed acc o])
  exact ⟨qed acc o :: t, by rw [ancs, h1]; simp, by simp [h2]⟩
theorem qmo : ∀ (l : List Oper) (acc : List Nat) (j : Nat) (o : Oper), l[j]? = some o → (ancs acc l).getD (acc.length + j) 0 = qed ((ancs acc l).take (acc.length + j)) o
 | [], acc, j, o, h => by simp at h
 | o' :: l, acc, j, o, h => by
  cases j with
  | zero =>
   simp at h; subst h
   obtain ⟨t, h1, h2⟩ := qgy l (acc ++ [qed acc o'])
   rw [ancs, h1]
   simp
  | succ j =>
   have := qmo l (acc ++ [qed acc o']) j o (by simpa using h)
   rw [ancs]
   simp only [qus, quM, List.length_nil] at this
   rw [show acc.length + (j + 1) = acc.length + (0 + 1) + j by omega]
   exact this
theorem qrJ {ops : Array Oper} (hb : yN 0 ops.toList = true) {j i : Nat} {o : Oper} (ho : ops[j]? = some o) (h : ((ancs [] ops.toList).getD j 0).testBit i = true) : ∃ m, binds o m ∧ m < j ∧ (m = i ∨ ((ancs [] ops.toList).getD m 0).testBit i = true) := by
 have hback : ∀ (l : List Oper) (k j : Nat) (o : Oper), yN k l = true → l[j]? = some o → ∀ e ∈ o.after.toList, Region.binds .any e = true → e.on < k + j := by
  intro l
  induction l with
  | nil => intro k j o _ h; simp at h
  | cons o' l ih =>
   intro k j o hb hj e he hbe
   rw [yN, que] at hb
   cases j with
   | zero =>
    simp at hj; subst hj
    have := List.all_eq_true.1 hb.1 e he
    rw [hbe] at this
    simpa [quL] using this
   | succ j =>
    have := ih (k + 1) j o hb.2 (by simpa using hj) e he hbe
    omega
 have ho' : ops.toList[j]? = some o := by rw [Array.getElem?_toList]; exact ho
 have hg := qmo ops.toList [] j o ho'
 simp only [List.length_nil, Nat.zero_add] at hg
 rw [hg] at h
 unfold qed at h
 rcases ql3 _ _ _ _ h with h | ⟨e, he, hbe, h⟩
 ·simp at h
 ·have hlt : e.on < j := by have := hback ops.toList 0 j o hb ho' e he hbe; omega
  refine ⟨e.on, ⟨e, he, hbe, rfl⟩, hlt, ?_⟩
  rcases h with h | h
  ·exact .inl h
  ·right
   rw [List.getD_eq_getElem?_getD, List.getElem?_take_of_lt hlt, ← List.getD_eq_getElem?_getD] at h
   exact h
variable {C C' C1 C2 : qd} {μ μ' μ1 : MMap} {H H' H1 H2 : AH} {w w' w1 : World} {P : Program}
def FP.T (a : FP) (id : Nat) : Bool := a.wall || xO id a.rd || xO id a.wr
def FP.W (a : FP) (id : Nat) : Bool := a.wall || xO id a.wr
theorem FP.touches_T {a : FP} {id : Nat} (h : a.T id = true) : a.touches = true := by
 unfold FP.T at h
 unfold FP.touches
 rw [Bool.or_eq_true, Bool.or_eq_true] at h
 rcases h with (h | h) | h
 ·simp [h]
 ·cases hr : a.rd with
  | nil => rw [hr] at h; simp [xO] at h
  | cons x l => simp
 ·cases hr : a.wr with
  | nil => rw [hr] at h; simp [xO] at h
  | cons x l => simp
theorem FP.T_of_W {a : FP} {id : Nat} (h : a.W id = true) : a.T id = true := by
 unfold FP.W at h; unfold FP.T
 rw [Bool.or_eq_true] at h
 rcases h with h | h <;> simp [h]
theorem qd1 {a b : FP} (h : a.indep b = true) (id : Nat) : ¬ (a.T id = true ∧ b.W id = true) ∧ ¬ (a.W id = true ∧ b.T id = true) := by
 simp only [FP.indep, que, qoD, Bool.not_eq_true', Bool.and_eq_false_iff] at h
 obtain ⟨⟨⟨⟨h1, h2⟩, h3⟩, h4⟩, h5⟩ := h
 constructor
 ·rintro ⟨ha, hb⟩
  have ta := FP.touches_T ha
  have tb := FP.touches_T (FP.T_of_W hb)
  have wa : a.wall = false := h1.resolve_right (by rw [tb]; simp)
  have wb : b.wall = false := h2.resolve_right (by rw [ta]; simp)
  unfold FP.T at ha; unfold FP.W at hb
  rw [wa, Bool.false_or, Bool.or_eq_true, vC, vC] at ha
  rw [wb, Bool.false_or, vC] at hb
  rcases ha with ha | ha
  ·exact h5 id hb ha
  ·exact h4 id hb ha
 ·rintro ⟨ha, hb⟩
  have ta := FP.touches_T (FP.T_of_W ha)
  have tb := FP.touches_T hb
  have wa : a.wall = false := h1.resolve_right (by rw [tb]; simp)
  have wb : b.wall = false := h2.resolve_right (by rw [ta]; simp)
  unfold FP.W at ha; unfold FP.T at hb
  rw [wa, Bool.false_or, vC] at ha
  rw [wb, Bool.false_or, Bool.or_eq_true, vC, vC] at hb
  rcases hb with hb | hb
  ·exact h3 id hb ha
  ·exact h4 id hb ha
theorem qf9 {ops : Array Oper} {A : List Nat} {i : Nat} {a : Oper} : ∀ (l : List Oper) (j0 : Nat), qfC ops A i a j0 l = true → ∀ j b, l[j]? = some b → qa7 a b = true ∧ ((A.getD (j0 + j) 0).testBit i = true ∨ qa8 ops a b = true)
 | [], _, _, j, b, h => by simp at h
 | x :: l, j0, hs, j, b, h => by
  rw [qfC, que, que, Bool.or_eq_true] at hs
  cases j with
  | zero => simp at h; subst h; exact hs.1
  | succ j =>
   have := qf9 l (j0 + 1) hs.2 j b (by simpa using h)
   rw [show j0 + (j + 1) = j0 + 1 + j by omega]
   exact this
theorem qga {ops : Array Oper} {A : List Nat} : ∀ (l : List Oper) (i0 : Nat), qfD ops A i0 l = true → ∀ i j a b, l[i]? = some a → l[j]? = some b → i < j → qa7 a b = true ∧ ((A.getD (i0 + j) 0).testBit (i0 + i) = true ∨ qa8 ops a b = true)
 | [], _, _, i, j, a, b, h, _, _ => by simp at h
 | x :: l, i0, hs, i, j, a, b, hi, hj, hlt => by
  rw [qfD, que] at hs
  cases j with
  | zero => omega
  | succ j =>
   cases i with
   | zero =>
    simp at hi; subst hi
    have := qf9 l (i0 + 1) hs.1 j b (by simpa using hj)
    rw [show i0 + (j + 1) = i0 + 1 + j by omega]
    exact this
   | succ i =>
    have := qga l (i0 + 1) hs.2 i j a b (by simpa using hi) (by simpa using hj) (by omega)
    rw [show i0 + (j + 1) = i0 + 1 + j by omega, show i0 + (i + 1) = i0 + 1 + i by omega]
    exact this
theorem qiz {A : List Nat} {i : Nat} {a : FP} : ∀ (l : List FP) (j0 : Nat), qiA A i a j0 l = true → ∀ j b, l[j]? = some b → (A.getD (j0 + j) 0).testBit i = true ∨ a.indep b = true
 | [], _, _, j, b, h => by simp at h
 | x :: l, j0, hs, j, b, h => by
  rw [qiA, que, Bool.or_eq_true] at hs
  cases j with
  | zero => simp at h; subst h; exact hs.1
  | succ j =>
   have := qiz l (j0 + 1) hs.2 j b (by simpa using h)
   rw [show j0 + (j + 1) = j0 + 1 + j by omega]
   exact this
theorem qeb {A : List Nat} : ∀ (l : List FP) (i0 : Nat), qfm A i0 l = true → ∀ i j a b, l[i]? = some a → l[j]? = some b → i < j → (A.getD (i0 + j) 0).testBit (i0 + i) = true ∨ a.indep b = true
 | [], _, _, i, j, a, b, h, _, _ => by simp at h
 | x :: l, i0, hs, i, j, a, b, hi, hj, hlt => by
  rw [qfm, que] at hs
  cases j with
  | zero => omega
  | succ j =>
   cases i with
   | zero =>
    simp at hi; subst hi
    have := qiz l (i0 + 1) hs.1 j b (by simpa using hj)
    rw [show i0 + (j + 1) = i0 + 1 + j by omega]
    exact this
   | succ i =>
    have := qeb l (i0 + 1) hs.2 i j a b (by simpa using hi) (by simpa using hj) (by omega)
    rw [show i0 + (j + 1) = i0 + 1 + j by omega, show i0 + (i + 1) = i0 + 1 + i by omega]
    exact this
theorem qhR {t : Tmp} : ∀ {l : List Operand}, Operand.tmp t ∈ l → t ∈ qdm l
 | [], h => by cases h
 | x :: l, h => by
  rcases quH.1 h with h | h
  ·subst h; simp [qdm]
  ·have := qhR h
   cases x <;> simp [qdm, this]
theorem qnQ {fr fr2 : List AV} {ops : Array Oper} {o : Oper} (h : ∀ t ∈ zC ops o, fr2[t]? = fr[t]?) : ∀ a ∈ o.op.operands, opd fr2 a = opd fr a := by
 intro a ha
 cases a with
 | tmp t =>
  have : t ∈ zC ops o := by unfold zC; exact quA.2 (.inl (qhR (Array.mem_toList_iff.2 ha)))
  show fr2.getD t .junk = fr.getD t .junk
  rw [List.getD_eq_getElem?_getD, List.getD_eq_getElem?_getD, h t this]
 | _ => rfl
theorem qmK {fr fr2 : List AV} {ops : Array Oper} {o : Oper} (h : ∀ t ∈ zC ops o, fr2[t]? = fr[t]?) : xb ops fr2 o = xb ops fr o := by
 unfold xb
 split
 ·rfl
 ·rename_i j want hg
  split
  ·rename_i d hd
   have : d ∈ zC ops o := by unfold zC; rw [hg]; simp [hd]
   rw [h d this]
  ·rfl
structure DStep (cfg : Cfg) (cf : Orac) (ops : Array Oper) (frz : Bool) (o : Oper) (fr fr' : List AV) (H H' : AH) (v : AV) (b : Bool) (at_ : Nat) (fp : FP) (re : AH → Bool) : Prop where
 wanted : xb ops fr o = some b
 next : fr' = put fr o.dst v
 yes : b = true → vj cfg cf frz (some at_) o (opd fr) H = some (v, H') ∧ fp = ya cfg frz at_ o (opd fr) H ∧ re = qhF cfg frz at_ o (opd fr) v
 no : b = false → v = .tup [] ∧ H' = H ∧ fp = FP.none ∧ re = fun _ => false
theorem qiv {cfg : Cfg} {cf : Orac} {f rid : Nat} {ops : Array Oper} : ∀ (rest : List Oper) (k at_ : Nat) {fr fr' : List AV} {H H' : AH} {fps : List DR}, xG cfg cf f rid ops k at_ rest fr H = some (fps, fr', H') →
  ∃ (F : Nat → List AV) (G : Nat → AH) (V : Nat → AV) (B : Nat → Bool) (A : Nat → Nat) (Φ : Nat → FP) (R : Nat → AH → Bool), F 0 = fr ∧ G 0 = H ∧ F rest.length = fr' ∧ G rest.length = H' ∧ (∀ i, i < rest.length → fps[i]? = some ⟨Φ i, G (i + 1), R i⟩) ∧
   ∀ i o, rest[i]? = some o → DStep cfg cf ops (cfg.frz f rid (k + i)) o (F i) (F (i + 1)) (G i) (G (i + 1)) (V i) (B i) (A i) (Φ i) (R i)
 | [], k, at_, fr, fr', H, H', fps, he => by
  simp only [xG] at he
  cases he
  exact ⟨fun _ => fr, fun _ => H, fun _ => .junk, fun _ => true, fun _ => 0, fun _ => FP.none, fun _ _ => false, rfl, rfl, rfl, rfl, fun i h => by simp at h, fun i o h => by simp at h⟩
 | o :: rest, k, at_, fr, fr', H, H', fps, he => by
  simp only [xG] at he
  obtain ⟨b, hb, he⟩ := quf.1 he
  have glue : ∀ {v : AV} {H1 : AH} {fp : FP} {re : AH → Bool} {fps1 : List DR}, DStep cfg cf ops (cfg.frz f rid k) o fr (put fr o.dst v) H H1 v b at_ fp re →
    xG cfg cf f rid ops (k + 1) (at_ + qbp cfg o) rest (put fr o.dst v) H1 = some (fps1, fr', H') → fps = ⟨fp, H1, re⟩ :: fps1 →
    ∃ (F : Nat → List AV) (G : Nat → AH) (V : Nat → AV) (B : Nat → Bool) (A : Nat → Nat) (Φ : Nat → FP) (R : Nat → AH → Bool), F 0 = fr ∧ G 0 = H ∧ F (o :: rest).length = fr' ∧ G (o :: rest).length = H' ∧ (∀ i, i < (o :: rest).length → fps[i]? = some ⟨Φ i, G (i + 1), R i⟩) ∧
     ∀ i o', (o :: rest)[i]? = some o' → DStep cfg cf ops (cfg.frz f rid (k + i)) o' (F i) (F (i + 1)) (G i) (G (i + 1)) (V i) (B i) (A i) (Φ i) (R i) := by
   intro v H1 fp re fps1 hs hd hfp
   obtain ⟨F, G, V, B, A, Φ, R, e1, e2, e3, e4, e5, e6⟩ := qiv rest (k + 1) _ hd
   refine ⟨fun i => match i with | 0 => fr | i + 1 => F i, fun i => match i with | 0 => H | i + 1 => G i, fun i => match i with | 0 => v | i + 1 => V i, fun i => match i with | 0 => b | i + 1 => B i,
    fun i => match i with | 0 => at_ | i + 1 => A i, fun i => match i with | 0 => fp | i + 1 => Φ i, fun i => match i with | 0 => re | i + 1 => R i, rfl, rfl, e3, e4, fun i hi => ?_, fun i o' ho => ?_⟩
   ·rw [hfp]
    cases i with
    | zero =>
     show some (DR.mk fp H1 re) = some ⟨fp, G 0, re⟩
     rw [e2]
    | succ i => exact e5 i (by simpa using hi)
   ·cases i with
    | zero =>
     simp at ho; subst ho
     show DStep cfg cf ops (cfg.frz f rid (k + 0)) o fr (F 0) H (G 0) v b at_ fp re
     rw [e1, e2]; exact hs
    | succ i =>
     have := e6 i o' (by simpa using ho)
     rw [show k + (i + 1) = k + 1 + i by omega]
     exact this
  split at he
  ·rename_i hbt
   obtain ⟨q, hq, he⟩ := quf.1 he
   obtain ⟨p, hp, e⟩ := quk.1 he
   obtain ⟨fps1, fr1, H1⟩ := p
   cases e
   exact glue ⟨hb, rfl, fun _ => ⟨hq, rfl, rfl⟩, fun h => by rw [h] at hbt; simp at hbt⟩ hp rfl
  ·rename_i hbt
   obtain ⟨p, hp, e⟩ := quk.1 he
   obtain ⟨fps1, fr1, H1⟩ := p
   cases e
   exact glue ⟨hb, rfl, fun h => absurd h hbt, fun _ => ⟨rfl, rfl, rfl, rfl⟩⟩ hp rfl
theorem DStep.again {cfg : Cfg} {cf : Orac} {ops : Array Oper} {frz : Bool} {o : Oper} {fr fr' : List AV} {v : AV} {at_ : Nat} {fp : FP} {re : AH → Bool} (h : DStep cfg cf ops frz o fr fr' H H' v true at_ fp re) {fr2 : List AV}
  (hu : ∀ t ∈ zC ops o, fr2[t]? = fr[t]?) (hl : H2.length = H.length) (ht : ∀ id, fp.T id = true → H2[id]? = H[id]?) :
  ∃ H2', vj cfg cf frz (some at_) o (opd fr2) H2 = some (v, H2') ∧ H2'.length = H2.length ∧ ∀ id, H2'[id]? = if fp.W id = true then H'[id]? else H2[id]? := by
 obtain ⟨he, hfp, -⟩ := h.yes rfl
 rw [qfj (qnQ hu)]
 cases hw : fp.wall with
 | true =>
  have : H2 = H := List.ext_getElem? fun id => ht id (by unfold FP.T; rw [hw]; simp)
  subst this
  exact ⟨H', he, qo2 he, fun id => by unfold FP.W; rw [hw]; simp⟩
 | false =>
  rw [hfp] at hw
  obtain ⟨H2', e1, e2, e3⟩ := qcp (H2 := H2) he hw hl (fun id hi => ht id (by unfold FP.T; rw [hfp, Bool.or_eq_true, Bool.or_eq_true, vC, vC]; exact .inl (.inr hi)))
   (fun id hi => ht id (by unfold FP.T; rw [hfp, Bool.or_eq_true, Bool.or_eq_true, vC, vC]; exact .inr hi))
  refine ⟨H2', e1, e2, fun id => ?_⟩
  rw [e3 id]
  unfold FP.W
  rw [hfp, hw, Bool.false_or]
  by_cases hi : id ∈ (ya cfg frz at_ o (opd fr) H).wr
  ·rw [if_pos hi, if_pos (vC.2 hi)]
  ·rw [if_neg hi, if_neg (fun h => hi (vC.1 h))]
theorem qri {a b : AV} (h : a.same1 b = true) : a = b := by
 cases a <;> cases b <;> simp [AV.same1] at h <;> first | rfl | (obtain ⟨h1, h2⟩ := h; subst h1; subst h2; rfl) | (subst h; rfl) | (obtain ⟨⟨h1, h2⟩, h3⟩ := h; subst h1; subst h2; subst h3; rfl) | (obtain ⟨h1, h2, h3⟩ := h; subst h1; subst h2; subst h3; rfl)
theorem DStep.reads {cfg : Cfg} {cf : Orac} {ops : Array Oper} {frz : Bool} {o : Oper} {fr fr' : List AV} {v : AV} {at_ : Nat} {fp : FP} {re : AH → Bool} {b : Bool} (h : DStep cfg cf ops frz o fr fr' H H' v b at_ fp re) {G : AH} (hr : re G = true) :
  b = true ∧ H' = H ∧ ∃ id, fp = ⟨[id], [], false⟩ ∧ ∀ {G : AH}, re G = true → ∀ {fr2 : List AV}, (∀ t ∈ zC ops o, fr2[t]? = fr[t]?) → ∀ {H2 : AH}, H2[id]? = G[id]? → H2.length = G.length → vj cfg cf frz (some at_) o (opd fr2) H2 = some (v, H2) := by
 cases b with
 | false => rw [(h.no rfl).2.2.2] at hr; cases hr
 | true =>
  obtain ⟨he, hfp, hre⟩ := h.yes rfl
  refine ⟨rfl, ?_⟩
  rw [hre] at hr
  obtain ⟨dst, op, ty, pos, after, guard⟩ := o
  unfold qhF at hr
  split at hr
  case isTrue => cases hr
  rename_i hfz
  have hfz : frz = false := by simpa using hfz
  subst hfz
  cases op with
  | load t a =>
   simp only at hr
   split at hr
   case h_2 => cases hr
   rename_i id r off hx
   have hfp' : fp = ⟨[id], [], false⟩ := by rw [hfp]; simp [ya, hx, AV.hid]
   refine ⟨?_, id, hfp', fun {G} hG {fr2} hu {H2} hid hlen => ?_⟩
   ·unfold vj at he
    simp only [quo, if_false, evOp] at he
    split at he
    ·obtain ⟨_, _, e⟩ := quk.1 he
     cases e; rfl
    ·cases he
   ·rw [qfj (qnQ hu)]
    rw [hre] at hG
    unfold qhF at hG
    simp only [quo, if_false, hx] at hG
    split at hG
    case h_2 => cases hG
    rename_i v' G' hv
    have := qri hG
    subst this
    have hev : vj cfg cf false (some at_) ⟨dst, .load t a, ty, pos, after, guard⟩ (opd fr) G = some (v', G') := by
     unfold vj
     simp only [quo, if_false]
     exact hv
    obtain ⟨H2', e1, e2, e3⟩ := qcp (H2 := H2) hev (by simp [ya]) hlen (fun i hi => by
     simp [ya, hx, AV.hid] at hi
     subst hi; exact hid) (fun i hi => by simp [ya] at hi)
    have : H2' = H2 := List.ext_getElem? fun i => by rw [e3 i]; simp [ya]
    rw [this] at e1
    exact e1
  | _ => cases hr
end Go.Av
end
