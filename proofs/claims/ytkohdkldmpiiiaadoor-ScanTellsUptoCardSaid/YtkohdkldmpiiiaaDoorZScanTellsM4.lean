/-
  Parts of the proof of ScanTellsUptoCardSaid, put together: the abstract evaluation and its contracts. Own work.
  What is proved: each lemma as it stands; no condition.
-/
import Derived.Lib.Bytealg
import Derived.Lib.IndexMore
import Derived.Lib.ParseIntB
import Derived.Test.YtkohdkldmpiiiaaDoorProg
import Derived.KernelRfl
import Derived.Shelf.Small.Strs
import Derived.Shelf.Strconv.Itoa0
import Derived.Shelf.Strconv.Itoa1
import Derived.Shelf.LaysM
import Derived.Shelf.Strconv.Itoa2
import Derived.Shelf.Strconv.Itoa3
import Derived.Ground.MpProg
import Derived.Shelf.Pu.ParseUintPublic10
import Derived.Shelf.Strings.Search1
import Derived.Shelf.Strings.Search2
import Derived.Shelf.Strings.Search3
import Derived.Shelf.Strings.Shaped
import Derived.Lib.AtoiErrMem
import Derived.Test.YtkohdkldmpiiiaaDoorRows
import Derived.ProofKit
import Derived.OpenShut
import Derived.JoinedCond
import Derived.ChangeArms
import Derived.RowKit
import Derived.WalkKit
import Derived.Deep.DeepHandedRow
import Derived.MakeChecks
import Derived.Stop.LaidErr
import Derived.LaidLaws
import Derived.Lib.LaidTab
import Derived.Deep.DeepWitnessRowRef
import Derived.LaidMore
import Derived.SevenTiedAt
import Derived.Test.YtkohdkldmpiiiaaDoorCards
import Derived.Test.YtkohdkldmpiiiaaDoorTie
import Derived.Lib.ItoaNum
import Derived.Lib.Join
import Derived.Lib.IndexAny
import Derived.Lib.IndexLaws
import Derived.Test.YtkohdkldmpiiiaaDoorZScanTellsM3
open List renaming getElem?_eq_some_iff → qpV, getElem?_eq_getElem → qp1, get?Internal → qp3, length → qp4, getElem?_set → qp8, getElem?_append_left → qqa, getElem?_append_right → qqb, length_append → qqe, take → qqf, drop_eq_nil_of_le → qqg, replicate → qqi, mem_of_getElem? → qqj, mem_append → qql, getElem?_cons_succ → qqm, mem_cons → qqn, length_drop → qqp, drop → qqq, append → qqr
open Bool renaming and_eq_true → qpW, false_eq_true → qp0, and_self → qp5
open Option renaming bind_eq_some_iff → qpX, map_eq_some_iff → qpZ, bind_some → qp7, map_some → qqd
open Nat renaming eq_of_beq_eq_true → qpY, le_refl → qp2, beq → qp6, mul_le_mul_right → qqh, ble → qqk, blt_eq → qqo
open Int renaming toNat → qp9, toNat_natCast → qqc
set_option maxRecDepth 1000000
set_option maxHeartbeats 0
section
namespace Go.Av
variable {α β : Type}
noncomputable def gL (g : β → (β → α) → α) (l : List β) : (List β → α) → α :=
 List.rec (motive := fun _ => (List β → α) → α) (fun k => k []) (fun a _ ih k => g a fun a' => ih fun l' => k (a' :: l')) l
noncomputable def gS (l : List β) : (List β → α) → α :=
 List.rec (motive := fun _ => (List β → α) → α) (fun k => k []) (fun a _ ih k => ih fun l' => k (a :: l')) l
theorem yw {g : β → (β → α) → α} (hg : ∀ b k, g b k = k b) : ∀ (l : List β) (k : List β → α), gL g l k = k l
 | [], _ => rfl
 | a :: l, k => by
  have : gL g (a :: l) k = g a fun a' => gL g l fun l' => k (a' :: l') := rfl
  rw [this, hg, yw hg l]
theorem xY : ∀ (l : List β) (k : List β → α), gS l k = k l
 | [], _ => rfl
 | a :: l, k => by
  have : gS (a :: l) k = gS l fun l' => k (a :: l') := rfl
  rw [this, xY l]
def gA1 (v : AV) (k : AV → α) : α := match v with
 | .int kd m => qmi kd fun kd => fInt m fun m => k (.int kd m)
 | .bool b => qar b fun b => k (.bool b)
 | .str s => fL qgE s fun s => k (.str s)
 | .ms a b c => fNat a fun a => fNat b fun b => fNat c fun c => k (.ms a b c)
 | .ptr a b c => fNat a fun a => fNat b fun b => fNat c fun c => k (.ptr a b c)
 | v => k v
theorem qjB (v : AV) (k : AV → α) : gA1 v k = k v := by
 cases v <;> simp only [gA1, qjG, qle, qbp, xK, zZ qfh]
noncomputable def gA2 (v : AV) (k : AV → α) : α := match v with
 | .agg cs => gL gA1 cs fun cs => k (.agg cs)
 | .sl rows => gL (gL gA1) rows fun rows => k (.sl rows)
 | .cptr cs o => gL gA1 cs fun cs => fNat o fun o => k (.cptr cs o)
 | .fn f a b => gL gA1 a fun a => gL gA1 b fun b => k (.fn f a b)
 | v => gA1 v k
theorem qnp (v : AV) (k : AV → α) : gA2 v k = k v := by
 have e1 : ∀ (l : List AV) (k : List AV → α), gL gA1 l k = k l := yw qjB
 cases v <;> simp only [gA2, qjB, e1, xK, yw e1]
noncomputable def gA (v : AV) (k : AV → α) : α := match v with
 | .tup cs => gL gA2 cs fun cs => k (.tup cs)
 | .ifc t v => gA2 v fun v => k (.ifc t v)
 | v => gA2 v k
theorem qap (v : AV) (k : AV → α) : gA v k = k v := by
 cases v <;> simp only [gA, qnp, yw qnp]
def gW (v : AV) (k : AV → α) : α := match v with
 | .int a b => k (.int a b)
 | .bool a => k (.bool a)
 | .str a => k (.str a)
 | .agg a => k (.agg a)
 | .tup a => k (.tup a)
 | .nilS => k .nilS
 | .sl a => k (.sl a)
 | .em => k .em
 | .ms a b c => k (.ms a b c)
 | .nilP => k .nilP
 | .ptr a b c => k (.ptr a b c)
 | .cptr a b => k (.cptr a b)
 | .fn a b c => k (.fn a b c)
 | .yld a => k (.yld a)
 | .nilF => k .nilF
 | .nilM => k .nilM
 | .mp a => k (.mp a)
 | .nilI => k .nilI
 | .ifc a b => k (.ifc a b)
 | .junk => k .junk
 | .lsl r => k (.lsl r)
 | .lpt c o => k (.lpt c o)
 | .rsl i r => k (.rsl i r)
 | .rpt i c o => k (.rpt i c o)
 | .alt l => k (.alt l)
 | .wr a b => k (.wr a b)
theorem qeu (v : AV) (k : AV → α) : gW v k = k v := by cases v <;> rfl
noncomputable def gB (b : ABlk) (k : ABlk → α) : α := match b with
 | .rows d sz rs => qar d fun d => fNat sz fun sz => gL (gL gA1) rs fun rs => k (.rows d sz rs)
 | .froz d sz rs => qar d fun d => fNat sz fun sz => gL (gL gA1) rs fun rs => k (.froz d sz rs)
 | .mp d es => qar d fun d => gS es fun es => k (.mp d es)
 | .loop f fr ps a b p s => gL gA1 fr fun fr => k (.loop f fr ps a b p s)
 | .dead => k .dead
 | .res => k .res
 | .reg => k .reg
 | .spl => k .spl
 | .bld T e s => fL qgE s fun s => k (.bld T e s)
theorem qme (b : ABlk) (k : ABlk → α) : gB b k = k b := by
 have e1 : ∀ (l : List AV) (k : List AV → α), gL gA1 l k = k l := yw qjB
 cases b <;> simp only [gB, qbp, xK, e1, yw e1, xY, zZ qfh]
noncomputable def gP (p : Nat × AV) (k : Nat × AV → α) : α := gA p.2 fun v => k (p.1, v)
theorem qmd (p : Nat × AV) (k : Nat × AV → α) : gP p k = k p := by unfold gP; rw [qap]
noncomputable def gH (H : AH) (k : AH → α) : α := gL gB H k
theorem qc0 (H : AH) (k : AH → α) : gH H k = k H := yw qme H k
abbrev Ov := List (Nat × AV)
def den (n : Nat) (ov : Ov) : List AV := ov.foldr (fun p fr => fr.set p.1 p.2) (qqi n .junk)
noncomputable def vR (t : Nat) (ov : Ov) : AV := List.rec (motive := fun _ => AV) .junk (fun p _ ih => cond (qp6 p.1 t) p.2 ih) ov
theorem qdG (t : Nat) : vR t [] = .junk := rfl
theorem zS (t : Nat) (p : Nat × AV) (ov : Ov) : vR t (p :: ov) = cond (qp6 p.1 t) p.2 (vR t ov) := rfl
def OvOk (n : Nat) (ov : Ov) : Prop := ∀ p ∈ ov, p.1 < n
theorem qcs (n : Nat) (ov : Ov) : (den n ov).length = n := by
 induction ov with
 | nil => simp [den]
 | cons p l ih => simp only [den, List.foldr_cons, List.length_set]; exact ih
theorem qct {n : Nat} {ov : Ov} (h : OvOk n ov) (t : Nat) : (den n ov)[t]? = if t < n then some (vR t ov) else none := by
 induction ov with
 | nil =>
  simp only [den, List.foldr_nil, qdG, List.getElem?_replicate]
 | cons p l ih =>
  have hl : OvOk n l := fun q hq => h q (List.mem_cons_of_mem _ hq)
  have hp : p.1 < n := h p (List.mem_cons_self ..)
  have : (den n (p :: l))[t]? = ((den n l).set p.1 p.2)[t]? := rfl
  rw [this, qp8, ih hl, qcs, zS]
  by_cases e : p.1 = t
  ·subst e; simp [hp]
  ·have : qp6 p.1 t = false := by rw [← Bool.not_eq_true]; intro h'; exact e (qpY h')
   rw [if_neg e, this]; rfl
theorem qdH {n : Nat} {ov : Ov} (h : OvOk n ov) {t : Nat} (ht : ¬ t < n) : vR t ov = .junk := by
 induction ov with
 | nil => rfl
 | cons p l ih =>
  have hp : p.1 < n := h p (List.mem_cons_self ..)
  have : qp6 p.1 t = false := by rw [← Bool.not_eq_true]; intro h'; have := qpY h'; omega
  rw [zS, this]
  exact ih fun q hq => h q (List.mem_cons_of_mem _ hq)
theorem qhn {n : Nat} {ov : Ov} (h : OvOk n ov) {fr : List AV} (hl : fr.length = n) (hg : ∀ t, t < n → fr[t]? = some (vR t ov)) : den n ov = fr := by
 apply List.ext_getElem?
 intro t
 rw [qct h]
 split
 ·rename_i ht; exact (hg t ht).symm
 ·rename_i ht; exact (List.getElem?_eq_none (by omega)).symm
noncomputable def opdO (ov : Ov) : Operand → AV
 | .tmp t => vR t ov
 | .const v => ofValue v
 | .global _ => .junk
 | .func f => .fn (.func f) [] []
theorem qco {n : Nat} {ov : Ov} (h : OvOk n ov) : opd (den n ov) = opdO ov := by
 funext o
 cases o with
 | tmp t =>
  show (den n ov).getD t .junk = vR t ov
  rw [List.getD_eq_getElem?_getD, qct h]
  split
  ·rfl
  ·rename_i ht; exact (qdH h ht).symm
 | _ => rfl
def putO (n : Nat) (ov : Ov) (dst : Option Tmp) (v : AV) : Ov :=
 match dst with
 | some d => cond (Nat.blt d n) ((d, v) :: ov) ov
 | none => ov
theorem qem {n : Nat} {ov : Ov} (h : OvOk n ov) (dst : Option Tmp) (v : AV) : OvOk n (putO n ov dst v) := by
 cases dst with
 | none => exact h
 | some d =>
  simp only [putO]
  cases hd : Nat.blt d n with
  | false => exact h
  | true =>
   intro p hp
   rw [cond_true] at hp
   rcases qqn.1 hp with rfl | hp
   ·simpa [qqo] using hd
   ·exact h p hp
theorem qcN {n : Nat} {ov : Ov} (dst : Option Tmp) (v : AV) : den n (putO n ov dst v) = put (den n ov) dst v := by
 cases dst with
 | none => rfl
 | some d =>
  simp only [putO, put]
  cases hd : Nat.blt d n with
  | true => rfl
  | false =>
   have hd : ¬ d < n := by rw [← Bool.not_eq_true, qqo] at hd; exact hd
   show den n ov = _
   rw [List.set_eq_of_length_le (by rw [qcs]; exact Nat.le_of_not_lt hd)]
noncomputable def qa0 (ops : Array Oper) (ov : Ov) (o : Oper) : Option Bool :=
 match o.guard with
 | none => some true
 | some (j, want) =>
  match (ops[j]?).bind (·.dst) with
  | some d =>
   match vR d ov with
   | .bool b => some (b == want)
   | .tup [] => some false
   | _ => none
  | none => none
theorem qfB {n : Nat} {ov : Ov} (h : OvOk n ov) (ops : Array Oper) (o : Oper) : vO ops (den n ov) o = qa0 ops ov o := by
 unfold vO qa0
 cases o.guard with
 | none => rfl
 | some p =>
  obtain ⟨j, want⟩ := p
  simp only
  cases (ops[j]?).bind (·.dst) with
  | none => rfl
  | some d =>
   simp only
   rw [qct h]
   by_cases hd : d < n
   ·rw [if_pos hd]
    cases vR d ov <;> try rfl
    rename_i vs; cases vs <;> rfl
   ·rw [if_neg hd, qdH h hd]
noncomputable def qiw (n : Nat) (H : AH) (p v : AV) (k : AH → Option β) : Option β :=
 match p with
 | .ptr id r off =>
  match v.cells with
  | some cs =>
   match H[id]? with
   | some (.rows d sz rs) =>
    match rs[r]? with
    | some row => if cs.length == n && qqk (off + n) row.length then
      gS (row.take off ++ cs ++ row.drop (off + n)) fun row' => gS (rs.set r row') fun rs' => qar (d && qD 0 cs) fun d' => gS (H.set id (.rows d' sz rs')) k
     else none
    | none => none
   | _ => none
  | none => none
 | .rpt id cs o => (ym n H (.rpt id cs o) v).bind k
 | _ => none
theorem qmx (n : Nat) (H : AH) (p v : AV) (k : AH → Option β) : qiw n H p v k = (ym n H p v).bind k := by
 unfold qiw ym
 cases p with
 | ptr id r off =>
  simp only
  cases hv : v.cells with
  | none => simp
  | some cs =>
   simp only
   cases hH : H[id]? with
   | none => simp
   | some b =>
    cases b <;> simp only [Option.bind_none]
    rename_i d sz rs
    cases hr : rs[r]? with
    | none => simp
    | some row =>
     simp only
     split <;> simp [xY, qbp]
 | rpt id cs o => rfl
 | _ => simp
noncomputable def yNew (nid : Option Nat) (H : AH) (b : ABlk) (k : Nat → AH → Option β) : Option β :=
 match nid with
 | none => fNat H.length fun i => gS (H ++ [b]) fun H' => k i H'
 | some i =>
  match H[i]? with
  | some .res => gS (H.set i b) fun H' => k i H'
  | _ => none
theorem qk5 (nid : Option Nat) (H : AH) (b : ABlk) (k : Nat → AH → Option β) : yNew nid H b k = (aNew nid H b).bind fun r => k r.1 r.2 := by
 cases nid with
 | none => simp [yNew, aNew, xK, xY]
 | some i =>
  simp only [yNew, aNew]
  cases H[i]? with
  | none => rfl
  | some b => cases b <;> simp [xY]
noncomputable def qmC (cfg : Cfg) (nid : Option Nat) (t : TypeId) (H : AH) (k : AV → AH → Option β) : Option β :=
 match cfg.ty t with
 | some ti => if vM ti.zero then gB (zD cfg t ti.zero) fun b => yNew nid H b fun i H' => k (.ptr i 0 0) H' else none
 | none => none
noncomputable def yBox (cfg : Cfg) (t : TypeId) (nid : Option Nat) (a : AV) (H : AH) (k : AV → AH → Option β) : Option β :=
 match a.cells with
 | some cs => gS cs fun cs => gB (qbt cfg t cs) fun b => yNew nid H b fun i H' => k (.ptr i 0 0) H'
 | none => none
noncomputable def yOp (cfg : Cfg) (nid : Option Nat) (o : Op) (ty : TypeId) (x : Operand → AV) (H : AH) (k : AV → AH → Option β) : Option β :=
 match o with
 | .move a | .assign a => gW (x a) fun v => k v H
 | .alloc t => qmC cfg nid t H k
 | .box t a => yBox cfg t nid (x a) H k
 | .store t a v =>
  match cfg.sz t with
  | some n => qiw n H (x a) (x v) fun H' => k .junk H'
  | none => none
 | .buildSlice t len parts => (match qez cfg nid t len (parts.toList.map fun p => (p.1, x p.2)) H with | some r => gA r.1 fun v => gH r.2 fun H' => k v H' | none => none)
 | .convert s d a => (match yc cfg nid s d (x a) H with | some r => gA r.1 fun v => gH r.2 fun H' => k v H' | none => none)
 | .makeSlice t l c => (match zq cfg nid t (x l) (x c) H with | some r => gA r.1 fun v => gH r.2 fun H' => k v H' | none => none)
 | .call c => (match evOp cfg nid (.call c) ty x H with | some r => gA r.1 fun v => gH r.2 fun H' => k v H' | none => none)
 | o => (match xOp cfg nid o ty x H with | some r => gA r.1 fun v => k v r.2 | none => none)
theorem qpe (cfg : Cfg) (nid : Option Nat) (o : Op) (ty : TypeId) (x : Operand → AV) (H : AH) (k : AV → AH → Option β) : yOp cfg nid o ty x H k = (evOp cfg nid o ty x H).bind fun r => k r.1 r.2 := by
 have em : ∀ (q : Option (AV × AH)), (match q with | some r => gA r.1 fun v => gH r.2 fun H' => k v H' | none => none) = q.bind fun r => k r.1 r.2 := fun q => by cases q <;> simp [qap, qc0]
 have em' : ∀ (q : Option (AV × AH)), (match q with | some r => gA r.1 fun v => k v r.2 | none => none) = q.bind fun r => k r.1 r.2 := fun q => by cases q <;> simp [qap]
 cases o with
 | move a => simp [yOp, evOp, qeu]
 | assign a => simp [yOp, evOp, qeu]
 | alloc t =>
  simp only [yOp, evOp, qmC]
  cases cfg.ty t with
  | none => rfl
  | some ti =>
   simp only
   split
   ·simp only [qme, qk5]
    cases aNew nid H (zD cfg t ti.zero) <;> rfl
   ·rfl
 | box t a =>
  simp only [yOp, evOp, yBox]
  cases (x a).cells with
  | none => rfl
  | some cs =>
   simp only [xY, qme, qk5]
   cases aNew nid H (qbt cfg t cs) <;> rfl
 | store t a v =>
  simp only [yOp, evOp]
  cases cfg.sz t with
  | none => rfl
  | some n =>
   simp only [qmx]
   cases ym n H (x a) (x v) <;> rfl
 | buildSlice t len parts => simp only [yOp]; rw [em]; rfl
 | convert s d a => simp only [yOp]; rw [em]; rfl
 | makeSlice t l c => simp only [yOp]; rw [em]; rfl
 | call c => simp only [yOp]; rw [em]
 | _ => simp only [yOp]; rw [em', qmE]
structure Fact where
 frz : Bool
 f : Nat
 args : List AV
 v : AV
def Fact.Ok (cfg : Cfg) (e : Fact) : Prop := (if e.frz then EVf (EV cfg) e.f e.args else EVs (EV cfg) e.f e.args) = some e.v
def xl (cfg : Cfg) : List Fact → Prop
 | [] => True
 | e :: l => e.Ok cfg ∧ xl cfg l
theorem xl.nil {cfg : Cfg} : xl cfg [] := trivial
noncomputable def qbn (frz : Bool) (f : Nat) (args : List AV) (fs : List Fact) : Option AV :=
 List.rec (motive := fun _ => Option AV) none (fun e _ ih => cond (qp6 e.f f && (e.frz == frz && yd e.args args)) (some e.v) ih) fs
theorem qb5 {cfg : Cfg} {frz : Bool} {f : Nat} {args : List AV} {v : AV} : ∀ {fs : List Fact}, xl cfg fs → qbn frz f args fs = some v → (if frz then EVf (EV cfg) f args else EVs (EV cfg) f args) = some v
 | [], _, h => by cases h
 | e :: l, hok, h => by
  have hd : qbn frz f args (e :: l) = cond (qp6 e.f f && (e.frz == frz && yd e.args args)) (some e.v) (qbn frz f args l) := rfl
  rw [hd] at h
  cases hc : (qp6 e.f f && (e.frz == frz && yd e.args args)) with
  | true =>
   rw [hc] at h
   simp only [qpW, beq_iff_eq] at hc
   cases h
   have := hok.1
   unfold Fact.Ok at this
   rw [← qpY hc.1, ← hc.2.1, ← xZ hc.2.2]
   exact this
  | false =>
   rw [hc] at h
   exact qb5 hok.2 h
noncomputable def qfu (cfg : Cfg) (cf : Orac) (nid : Option Nat) (t : Tgt) (args : List AV) (H : AH) (k : AV → AH → Option β) : Option β :=
 match qO cfg cf nid t args H with
 | some r => gA r.1 fun v => gH r.2 fun H' => k v H'
 | none => none
noncomputable def qmA (_cfg : Cfg) (cf : Orac) (fs : List Fact) (f : Nat) (al : List AV) (k : AV → Option β) : Option β :=
 cond (qD 0 al)
  (match qbn false f al fs with
  | some v => cond v.scalar (k v) none
  | none => (match cf (.f f) al [] with | some r => gA r.1 fun v => cond v.scalar (k v) none | none => none)) none
noncomputable def qmB (_cfg : Cfg) (cf : Orac) (fs : List Fact) (f : Nat) (al : List AV) (k : AV → Option β) : Option β :=
 cond (qD 0 al)
  (match qbn true f al fs with
  | some v => cond (v.refsLt 0) (k v) none
  | none => (match cf (.f f) al [] with | some r => gA (r.1.frz r.1.msIds r.2).fg fun v => cond (v.refsLt 0) (k v) none | none => none)) none
noncomputable def qix (cfg : Cfg) (cf : Orac) (fs : List Fact) (nid : Option Nat) (t : Tgt) (args : List AV) (H : AH) (k : AV → AH → Option β) : Option β :=
 match t with
 | .y id => qfu cfg cf nid (.y id) args H k
 | .f f =>
  match cfg.mode f with
  | .scal => gL gA (args.map fun a => (a.snap H).fg) fun al => qmA cfg cf fs f al fun v => k v H
  | .pfrz => gL gA (args.map AV.fg) fun al => qmB cfg cf fs f al fun v => k v H
  | _ => qfu cfg cf nid (.f f) args H k
noncomputable def qmz (cfg : Cfg) (cf : Orac) (fs : List Fact) (nid : Option Nat) (f : AV) (args : List AV) (H : AH) (k : AV → AH → Option β) : Option β :=
 match xU f args with
 | some t => qix cfg cf fs nid t.1 t.2 H k
 | none => none
def Le (cf cf' : Orac) : Prop := ∀ t a H r, cf t a H = some r → cf' t a H = some r
theorem qj2 {cfg : Cfg} {cf : Orac} (hcf : Le cf (EV cfg)) {fs : List Fact} (hfs : xl cfg fs) {nid : Option Nat} {t : Tgt} {args : List AV} {H : AH} {k : AV → AH → Option β} {r : β}
  (h : qix cfg cf fs nid t args H k = some r) : ∃ q, qO cfg (EV cfg) nid t args H = some q ∧ k q.1 q.2 = some r := by
 have hev : Ev (fun _ => EV cfg) cf := fun t a H r h => ⟨0, fun _ _ => hcf t a H r h⟩
 have gen : ∀ (t : Tgt), qfu cfg cf nid t args H k = some r → ∃ q, qO cfg (EV cfg) nid t args H = some q ∧ k q.1 q.2 = some r := by
  intro t h
  unfold qfu at h
  split at h
  ·rename_i q hq
   rw [qap, qc0] at h
   obtain ⟨n, hn⟩ := qjK hev cfg nid t args H q hq
   exact ⟨q, hn n (qp2 _), h⟩
  ·cases h
 cases t with
 | y id => exact gen _ h
 | f f =>
  simp only [qix] at h
  cases hm : cfg.mode f with
  | scal =>
   simp only [hm, yw qap] at h
   unfold qmA at h
   obtain ⟨h1, h⟩ := qg h
   simp only [qO, hm, h1, if_true]
   split at h
   ·rename_i v hv
    obtain ⟨h2, h⟩ := qg h
    have := qb5 hfs hv
    simp only [qp0, if_false] at this
    unfold EVs at this
    obtain ⟨q, hq, rfl⟩ := qpZ.1 this
    rw [hq]
    exact ⟨(q.1, H), by simp only [qp7, h2, if_true], h⟩
   ·split at h
    ·rename_i q hq
     rw [qap] at h
     obtain ⟨h2, h⟩ := qg h
     rw [hcf _ _ _ _ hq]
     exact ⟨(q.1, H), by simp only [qp7, h2, if_true], h⟩
    ·cases h
  | pfrz =>
   simp only [hm, yw qap] at h
   unfold qmB at h
   obtain ⟨h1, h⟩ := qg h
   simp only [qO, hm, h1, if_true]
   split at h
   ·rename_i v hv
    obtain ⟨h2, h⟩ := qg h
    have := qb5 hfs hv
    simp only [if_true] at this
    unfold EVf at this
    obtain ⟨q, hq, rfl⟩ := qpZ.1 this
    rw [hq]
    exact ⟨((q.1.frz q.1.msIds q.2).fg, H), by simp only [qp7, h2, if_true], h⟩
   ·split at h
    ·rename_i q hq
     rw [qap] at h
     obtain ⟨h2, h⟩ := qg h
     rw [hcf _ _ _ _ hq]
     exact ⟨((q.1.frz q.1.msIds q.2).fg, H), by simp only [qp7, h2, if_true], h⟩
    ·cases h
  | _ => simp only [hm] at h; exact gen _ h
noncomputable def qa7 (cfg : Cfg) (cf : Orac) (fs : List Fact) (nid : Option Nat) (o : Op) (ty : TypeId) (x : Operand → AV) (H : AH) (k : AV → AH → Option β) : Option β :=
 match o with
 | .call c =>
  (match c.callee with
  | .value f => gL gW (c.args.toList.map x) fun args => qmz cfg cf fs nid (x f) args H k
  | _ => yOp cfg nid (.call c) ty x H k)
 | o => yOp cfg nid o ty x H k
noncomputable def qh9 (cfg : Cfg) (cf : Orac) (fs : List Fact) (frz : Bool) (nid : Option Nat) (o : Oper) (x : Operand → AV) (H : AH) (k : AV → AH → Option β) : Option β :=
 match frz with
 | false => qa7 cfg cf fs nid o.op o.type x H k
 | true => gS (o.op.operands.toList.flatMap fun a => (x a).msIds) fun ids => gH (qI ids H) fun H' => qa7 cfg cf fs nid o.op o.type (fun a => (x a).frz ids H) H' k
theorem qey {cfg : Cfg} {cf : Orac} (hcf : Le cf (EV cfg)) {fs : List Fact} (hfs : xl cfg fs) {nid : Option Nat} {o : Oper} {x : Operand → AV} {H : AH} {k : AV → AH → Option β} {r : β}
  (h : qa7 cfg cf fs nid o.op o.type x H k = some r) : ∃ q, qW cfg (EV cfg) false nid o x H = some q ∧ k q.1 q.2 = some r := by
 obtain ⟨dst, op, ty, pos, after, guard⟩ := o
 unfold qW
 simp only [qp0, if_false] at h ⊢
 have plain : ∀ (op : Op), yOp cfg nid op ty x H k = some r → ∃ q, evOp cfg nid op ty x H = some q ∧ k q.1 q.2 = some r := by
  intro op h
  rw [qpe] at h
  exact qpX.1 h
 cases op with
 | call c =>
  obtain ⟨callee, args, argTypes⟩ := c
  cases callee with
  | value f =>
   simp only [qa7, yw qeu] at h ⊢
   unfold qmz at h
   split at h
   ·rename_i t ht
    rw [ht]
    exact qj2 hcf hfs h
   ·cases h
  | builtin b => simp only [qa7] at h ⊢; exact plain _ h
  | invoke rv nm => simp only [qa7] at h ⊢; exact plain _ h
 | _ => simp only [qa7] at h ⊢; exact plain _ h
theorem qfp {cfg : Cfg} {cf : Orac} (hcf : Le cf (EV cfg)) {fs : List Fact} (hfs : xl cfg fs) {frz : Bool} {nid : Option Nat} {o : Oper} {x : Operand → AV} {H : AH} {k : AV → AH → Option β} {r : β}
  (h : qh9 cfg cf fs frz nid o x H k = some r) : ∃ q, qW cfg (EV cfg) frz nid o x H = some q ∧ k q.1 q.2 = some r := by
 cases frz with
 | false => exact qey hcf hfs h
 | true =>
  simp only [qh9, xY, qc0] at h
  obtain ⟨q, h1, h2⟩ := qey hcf hfs h
  refine ⟨q, ?_, h2⟩
  unfold qW at h1 ⊢
  simpa using h1
noncomputable def yOps (cfg : Cfg) (cf : Orac) (fs : List Fact) (f rid : Nat) (ops : Array Oper) (n : Nat) : Nat → List Oper → Ov → AH → (Ov → AH → Option β) → Option β
 | _, [], ov, H, K => K ov H
 | i, o :: rest, ov, H, K =>
  match qa0 ops ov o with
  | none => none
  | some b =>
   cond b (qh9 cfg cf fs (cfg.frz f rid i) none o (opdO ov) H fun v H' => yOps cfg cf fs f rid ops n (i + 1) rest (putO n ov o.dst v) H' K)
    (yOps cfg cf fs f rid ops n (i + 1) rest (putO n ov o.dst (.tup [])) H K)
theorem qdq {cfg : Cfg} {cf : Orac} (hcf : Le cf (EV cfg)) {fs : List Fact} (hfs : xl cfg fs) {f rid n : Nat} {ops : Array Oper} {r : β} : ∀ {l : List Oper} {i : Nat} {ov : Ov} {H : AH} {K : Ov → AH → Option β}, OvOk n ov → yOps cfg cf fs f rid ops n i l ov H K = some r →
  ∃ ov' H', OvOk n ov' ∧ ye cfg (EV cfg) f rid ops i l (den n ov) H = some (den n ov', H') ∧ K ov' H' = some r
 | [], i, ov, H, K, hok, h => ⟨ov, H, hok, rfl, h⟩
 | o :: l, i, ov, H, K, hok, h => by
  rw [yOps] at h
  rw [ye, qfB hok]
  cases hw : qa0 ops ov o with
  | none => rw [hw] at h; cases h
  | some b =>
   rw [hw] at h
   simp only [qp7]
   cases b with
   | true =>
    simp only [cond_true] at h
    obtain ⟨q, h1, h2⟩ := qfp hcf hfs h
    simp only [if_true, qco hok, h1, qp7]
    obtain ⟨ov', H', h3, h4, h5⟩ := qdq hcf hfs (qem hok _ _) h2
    rw [qcN] at h4
    exact ⟨ov', H', h3, h4, h5⟩
   | false =>
    simp only [cond_false] at h
    simp only [qp0, if_false]
    obtain ⟨ov', H', h3, h4, h5⟩ := qdq hcf hfs (qem hok _ _) h
    rw [qcN] at h4
    exact ⟨ov', H', h3, h4, h5⟩
noncomputable def qft (cfg : Cfg) (cf : Orac) (fs : List Fact) (f rid : Nat) (ops : Array Oper) (n : Nat) : Nat → Nat → List Oper → Ov → AH → (List DR → Ov → AH → Option β) → Option β
 | _, _, [], ov, H, K => K [] ov H
 | i, at_, o :: rest, ov, H, K =>
  match qa0 ops ov o with
  | none => none
  | some b =>
   fNat (at_ + qaz cfg o) fun at' =>
   cond b (qh9 cfg cf fs (cfg.frz f rid i) (some at_) o (opdO ov) H fun v H' => qft cfg cf fs f rid ops n (i + 1) at' rest (putO n ov o.dst v) H' fun fps ov' H'' => K (drOf cfg (cfg.frz f rid i) at_ o (opdO ov) H v H' :: fps) ov' H'')
    (qft cfg cf fs f rid ops n (i + 1) at' rest (putO n ov o.dst (.tup [])) H fun fps ov' H'' => K (drNo H :: fps) ov' H'')
theorem qcB {cfg : Cfg} {cf : Orac} (hcf : Le cf (EV cfg)) {fs : List Fact} (hfs : xl cfg fs) {f rid n : Nat} {ops : Array Oper} {r : β} : ∀ {l : List Oper} {i at_ : Nat} {ov : Ov} {H : AH} {K : List DR → Ov → AH → Option β}, OvOk n ov → qft cfg cf fs f rid ops n i at_ l ov H K = some r →
  ∃ fps ov' H', OvOk n ov' ∧ xf cfg (EV cfg) f rid ops i at_ l (den n ov) H = some (fps, den n ov', H') ∧ K fps ov' H' = some r
 | [], i, at_, ov, H, K, hok, h => ⟨[], ov, H, hok, rfl, h⟩
 | o :: l, i, at_, ov, H, K, hok, h => by
  rw [qft] at h
  rw [xf, qfB hok]
  cases hw : qa0 ops ov o with
  | none => rw [hw] at h; cases h
  | some b =>
   rw [hw] at h
   simp only [qp7]
   simp only [xK] at h
   cases b with
   | true =>
    simp only [cond_true] at h
    obtain ⟨q, h1, h2⟩ := qfp hcf hfs h
    simp only [if_true, qco hok, h1, qp7]
    obtain ⟨fps, ov', H', h3, h4, h5⟩ := qcB hcf hfs (qem hok _ _) h2
    rw [qcN] at h4
    exact ⟨_, ov', H', h3, by rw [h4]; rfl, h5⟩
   | false =>
    simp only [cond_false] at h
    simp only [qp0, if_false]
    obtain ⟨fps, ov', H', h3, h4, h5⟩ := qcB hcf hfs (qem hok _ _) h
    rw [qcN] at h4
    exact ⟨_, ov', H', h3, by rw [h4]; rfl, h5⟩
def qay : Nat → List Nat → Bool
 | _, [] => true
 | i, k :: ks => qqk i k && qay (k + 1) ks
noncomputable def qih (ks : List Nat) (ov : Ov) : (Ov → α) → α :=
 List.rec (motive := fun _ => (Ov → α) → α) (fun K => K []) (fun t _ ih K => gW (vR t ov) fun v => ih fun l => K ((t, v) :: l)) ks
theorem qnV (ks : List Nat) (ov : Ov) : ∀ (K : Ov → α), qih ks ov K = K (ks.map fun t => (t, vR t ov)) := by
 induction ks with
 | nil => intro K; rfl
 | cons t l ih =>
  intro K
  have : qih (t :: l) ov K = gW (vR t ov) fun v => qih l ov fun l => K ((t, v) :: l) := rfl
  rw [this, qeu, ih, List.map_cons]
theorem qaQ : ∀ (ks : List Nat) (fr : List AV) (i t : Nat), qay i ks = true → (xc i ks fr)[t]? = if t < fr.length then some (if i + t ∈ ks then (fr[t]?).getD .junk else .junk) else none
 | ks, [], i, t, _ => by cases ks <;> simp [xc]
 | [], a :: fr, i, t, h => by
  rw [xc]
  cases t with
  | zero => simp
  | succ t =>
   simp only [qqm]
   rw [qaQ [] fr i t rfl]
   simp
 | k :: ks, a :: fr, i, t, h => by
  rw [qay, qpW, Nat.ble_eq] at h
  rw [xc]
  have hge : ∀ (l : List Nat) (j : Nat), qay j l = true → ∀ x ∈ l, j ≤ x := by
   intro l
   induction l with
   | nil => intro j _ x hx; cases hx
   | cons y l ih =>
    intro j hj x hx
    rw [qay, qpW, Nat.ble_eq] at hj
    rcases qqn.1 hx with rfl | hx
    ·exact hj.1
    ·have := ih _ hj.2 x hx; omega
  split
  ·rename_i e
   have e := qpY e
   subst e
   cases t with
   | zero => simp
   | succ t =>
    simp only [qqm]
    rw [qaQ ks fr (i + 1) t h.2]
    have e1 : i + (t + 1) = i + 1 + t := by omega
    have e2 : ¬ i + 1 + t = i := by omega
    simp only [List.length_cons, Nat.add_lt_add_iff_right, e1, qqn, e2, false_or]
  ·rename_i e
   have hne : i ≠ k := fun h' => e (by rw [h']; exact Nat.beq_refl _)
   cases t with
   | zero =>
    have : i ∉ k :: ks := by
     intro hm
     rcases qqn.1 hm with rfl | hm
     ·exact hne rfl
     ·have := hge _ _ h.2 i hm; omega
    simp [this]
   | succ t =>
    simp only [qqm]
    rw [qaQ (k :: ks) fr (i + 1) t (by rw [qay, qpW, Nat.ble_eq]; exact ⟨by omega, h.2⟩)]
    have e1 : i + (t + 1) = i + 1 + t := by omega
    simp only [List.length_cons, Nat.add_lt_add_iff_right, e1]
theorem qm7 (ks : List Nat) (g : Nat → AV) (t : Nat) : vR t (ks.map fun t => (t, g t)) = if t ∈ ks then g t else .junk := by
 induction ks with
 | nil => rfl
 | cons k l ih =>
  rw [List.map_cons, zS, ih]
  by_cases e : k = t
  ·subst e; simp
  ·have h1 : qp6 k t = false := by rw [← Bool.not_eq_true]; intro h'; exact e (qpY h')
   have h2 : ¬ t = k := fun h => e h.symm
   rw [h1, cond_false]
   simp only [qqn, h2, false_or]
noncomputable def qfq (n : Nat) (ts : Option (List Nat)) (ov : Ov) (K : Ov → Option β) : Option β :=
 match ts with
 | none => K ov
 | some ks => cond (qay 0 ks && ks.all fun t => Nat.blt t n) (qih ks ov K) none
theorem qcA {n : Nat} {ts : Option (List Nat)} {ov : Ov} {K : Ov → Option β} {r : β} (hok : OvOk n ov) (h : qfq n ts ov K = some r) : ∃ ov', OvOk n ov' ∧ vh ts (den n ov) = den n ov' ∧ K ov' = some r := by
 cases ts with
 | none => exact ⟨ov, hok, rfl, h⟩
 | some ks =>
  simp only [qfq, qnV] at h
  cases hc : (qay 0 ks && ks.all fun t => Nat.blt t n) with
  | false => rw [hc] at h; cases h
  | true =>
   rw [hc] at h
   rw [qpW, List.all_eq_true] at hc
   have hok' : OvOk n (ks.map fun t => (t, vR t ov)) := by
    intro p hp
    obtain ⟨t, ht, rfl⟩ := List.mem_map.1 hp
    have := hc.2 t ht
    simpa [qqo] using this
   refine ⟨_, hok', (qhn hok' ?_ fun t ht => ?_).symm, h⟩
   ·show (xc 0 ks (den n ov)).length = n
    rw [(zV (ts := ks) (fr := den n ov) (k := 0)).1, qcs]
   ·show (xc 0 ks (den n ov))[t]? = _
    rw [qaQ _ _ _ _ hc.1, qcs, if_pos ht, Nat.zero_add, qm7, qct hok, if_pos ht]
    rfl
noncomputable def qaK (n : Nat) : List (Tmp × Nat) → Ov → AH → (Ov → AH → Option β) → Option β
 | [], ov, H, K => K ov H
 | p :: l, ov, H, K =>
  match vR p.1 ov with
  | .nilS => fNat H.length fun i => cond (Nat.blt p.1 n) (gS (H ++ [.rows true p.2 []]) fun H' => qaK n l ((p.1, .ms i 0 0) :: ov) H' K) none
  | .ptr _ _ _ => (match xw p.1 p.2 (den n ov) H with | q => gH q.2 fun H' => qaK n l ov H' K)
  | _ => qaK n l ov H K
theorem qnb {t sz : Nat} {fr : List AV} {H : AH} {id r off : Nat} (h : fr[t]? = some (.ptr id r off)) : (xw t sz fr H).1 = fr := by
 unfold xw
 rw [h]
 simp only
 split
 ·split
  ·split <;> rfl
  ·rfl
 ·rfl
theorem y3 {n : Nat} {r : β} : ∀ {ls : List (Tmp × Nat)} {ov : Ov} {H : AH} {K : Ov → AH → Option β}, OvOk n ov → qaK n ls ov H K = some r → ∃ ov' H', OvOk n ov' ∧ q9 ls (den n ov) H = (den n ov', H') ∧ K ov' H' = some r
 | [], ov, H, K, hok, h => ⟨ov, H, hok, rfl, h⟩
 | p :: l, ov, H, K, hok, h => by
  rw [qaK] at h
  rw [q9]
  have hget : (den n ov)[p.1]? = if p.1 < n then some (vR p.1 ov) else none := qct hok p.1
  split at h
  ·rename_i hv
   simp only [xK] at h
   cases hb : Nat.blt p.1 n with
   | false => rw [hb] at h; cases h
   | true =>
    rw [hb] at h
    simp only [cond_true, xY] at h
    have hlt : p.1 < n := by simpa [qqo] using hb
    have hl1 : xw p.1 p.2 (den n ov) H = (den n ((p.1, .ms H.length 0 0) :: ov), H ++ [.rows true p.2 []]) := by
     unfold xw
     rw [hget, if_pos hlt, hv]; rfl
    rw [hl1]
    exact y3 (fun q hq => (qqn.1 hq).elim (fun e => by subst e; exact hlt) (hok q)) h
  ·rename_i id r' off hv
   simp only [qc0] at h
   by_cases hlt : p.1 < n
   ·rw [qnb (by rw [hget, if_pos hlt, hv])]
    exact y3 hok h
   ·rw [qdH hok hlt] at hv; cases hv
  ·rename_i h1 h2
   have hl1 : xw p.1 p.2 (den n ov) H = (den n ov, H) := by
    unfold xw
    rw [hget]
    by_cases hlt : p.1 < n
    ·rw [if_pos hlt]
     split
     ·rename_i e; exact absurd (Option.some.inj e) h1
     ·rename_i a b c e; exact absurd (Option.some.inj e) (h2 a b c)
     ·rfl
    ·rw [if_neg hlt]
   rw [hl1]
   exact y3 hok h
def spGo : Nat → List AV → Ov
 | _, [] => []
 | i, .junk :: l => spGo (i + 1) l
 | i, v :: l => (i, v) :: spGo (i + 1) l
theorem qiO : ∀ (l : List AV) (i t : Nat), vR t (spGo i l) = if i ≤ t then (l[t - i]?).getD .junk else .junk
 | [], i, t => by simp [spGo, qdG]
 | a :: l, i, t => by
  have ih := qiO l (i + 1) t
  have key : ∀ (ov : Ov), ov = (i, a) :: spGo (i + 1) l → vR t ov = if i ≤ t then ((a :: l)[t - i]?).getD .junk else .junk := by
   intro ov e
   rw [e, zS, ih]
   by_cases e2 : i = t
   ·subst e2; simp
   ·have h1 : qp6 i t = false := by rw [← Bool.not_eq_true]; intro h'; exact e2 (qpY h')
    simp only [h1, cond_false]
    by_cases h3 : i + 1 ≤ t
    ·have h4 : t - i = (t - (i + 1)) + 1 := by omega
     rw [if_pos h3, if_pos (by omega), h4, qqm]
    ·rw [if_neg h3, if_neg (by omega)]
  cases a with
  | junk =>
   show vR t (spGo (i + 1) l) = _
   rw [ih]
   by_cases h3 : i + 1 ≤ t
   ·have h4 : t - i = (t - (i + 1)) + 1 := by omega
    rw [if_pos h3, if_pos (by omega), h4, qqm]
   ·rw [if_neg h3]
    by_cases e2 : i = t
    ·subst e2; simp
    ·rw [if_neg (by omega)]
  | _ => exact key _ rfl
theorem qa1 : ∀ (l : List AV) (i n : Nat), i + l.length ≤ n → OvOk n (spGo i l)
 | [], i, n, _ => fun p hp => by cases hp
 | a :: l, i, n, h => by
  simp only [List.length_cons] at h
  have ih := qa1 l (i + 1) n (by omega)
  have key : OvOk n ((i, a) :: spGo (i + 1) l) := fun p hp => by
   rcases qqn.1 hp with rfl | hp
   ·show i < n; omega
   ·exact ih p hp
  cases a <;> first | exact key | exact ih
theorem qgN (l : List AV) : den l.length (spGo 0 l) = l := by
 have hok := qa1 l 0 l.length (by omega)
 refine qhn hok rfl fun t ht => ?_
 rw [qiO, if_pos (Nat.zero_le _), Nat.sub_zero, qp1 ht]; rfl
noncomputable def yGc (n k : Nat) (ov : Ov) (H : AH) (K : Ov → AH → Option β) : Option β :=
 cond (qqk H.length k) (K ov H) (match zY k (den n ov) H with | q => gS (spGo 0 q.1) fun ov' => gL gP ov' fun ov' => gH q.2 fun H' => K ov' H')
theorem qnP (ρ : Nat → Nat) (l : List AV) : (renL ρ l).length = l.length := by rw [x7]; simp
theorem qno (k : Nat) (fr : List AV) (H : AH) : (zY k fr H).1.length = fr.length := by
 unfold zY
 simp only
 cases vU H (xm k H (2 * H.length + 16) [] (qC k fr ++ vE k (H.take k))) with
 | none => rfl
 | some bs =>
  simp only
  split
  ·exact qnP _ _
  ·rfl
theorem qnE {n k : Nat} {ov : Ov} {H : AH} {K : Ov → AH → Option β} {r : β} (hok : OvOk n ov) (h : yGc n k ov H K = some r) : ∃ ov' H', OvOk n ov' ∧ gc k (den n ov) H = (den n ov', H') ∧ K ov' H' = some r := by
 unfold yGc at h
 unfold gc
 cases hb : qqk H.length k with
 | true => rw [hb] at h; exact ⟨ov, H, hok, by simp, h⟩
 | false =>
  rw [hb] at h
  simp only [cond_false] at h
  rw [xY, yw qmd, qc0] at h
  have hl : (zY k (den n ov) H).1.length = n := by rw [qno, qcs]
  have := qgN (zY k (den n ov) H).1
  rw [hl] at this
  refine ⟨_, _, ?_, ?_, h⟩
  ·exact qa1 _ _ _ (by omega)
  ·simp only [qp0, if_false, this]
noncomputable def qli (n k : Nat) (ts : Option (List Tmp)) (ls : List (Tmp × Nat)) (ov : Ov) (H : AH) (K : Ov → AH → Option β) : Option β :=
 qfq n ts ov fun ov => qaK n ls ov H fun ov H => yGc n k ov H K
theorem qfs {n k : Nat} {ts : Option (List Tmp)} {ls : List (Tmp × Nat)} {ov : Ov} {H : AH} {K : Ov → AH → Option β} {r : β} (hok : OvOk n ov) (h : qli n k ts ls ov H K = some r) :
  ∃ ov' H', OvOk n ov' ∧ xB k ts ls (den n ov) H = (den n ov', H') ∧ K ov' H' = some r := by
 obtain ⟨ov1, h1, h2, h⟩ := qcA hok h
 obtain ⟨ov2, H2, h3, h4, h⟩ := y3 h1 h
 obtain ⟨ov3, H3, h5, h6, h⟩ := qnE h3 h
 refine ⟨ov3, H3, h5, ?_, h⟩
 unfold xB
 rw [h2, h4]
 exact h6
abbrev YE (β : Type) := Ex → Ov → AH → Option β
noncomputable def qia (n k : Nat) (ts : Option (List Tmp)) (ls : List (Tmp × Nat)) (body : Ov → AH → YE β → Option β) : Nat → Ov → AH → YE β → Option β
 | 0, _, _, _ => none
 | m + 1, ov, H, K => body ov H fun e ov' H' =>
  match e with
  | .normal => qli n k ts ls ov' H' fun ov2 H2 => qia n k ts ls body m ov2 H2 K
  | e => K e ov' H'
noncomputable def qmy (cfg : Cfg) (cf : Orac) (f : Nat) (rd : Option Nat) (n bs : Nat) (g : Operand) (ps : Array Tmp) (assign body : Code) (ov : Ov) (H : AH) (K : YE β) : Option β :=
 gL gW (den n ov) fun fr =>
 match yK cfg cf f rd bs g ps assign body fr H with
 | none => none
 | some q => gS (spGo 0 q.2.1) fun ov' => gL gP ov' fun ov' => gH q.2.2 fun H' => cond (qp6 q.2.1.length n) (K q.1 ov' H') none
noncomputable def yC (cfg : Cfg) (cf : Orac) (fs : List Fact) (m f : Nat) (rd : Option Nat) (n bs : Nat) : Code → Ov → AH → YE β → Option β
 | .skip, ov, H, K => K .normal ov H
 | .label _, ov, H, K => K .normal ov H
 | .region id ops draw, ov, H, K =>
  match draw with
  | true => cond (yx ops) (gS (H ++ qqi (places cfg ops.toList) .res) fun H1 => qft cfg cf fs f id ops n 0 H.length ops.toList ov H1 fun fps ov' H' => cond (qa4 (ancs [] ops.toList) H1 fps) (K .normal ov' H') none) none
  | false => yOps cfg cf fs f id ops n 0 ops.toList ov H fun ov' H' => K .normal ov' H'
 | .seq a b, ov, H, K =>
  match qbs a with
  | some p =>
   gL gW (den n ov) fun fr =>
   match (z7 cfg cf f p.1 p.2 p.2.size [] fr H).bind fun L => zI (fun fr H => (xC cfg cf m f rd bs b (vh (cfg.cut f (qp b)) fr) H).map (qhp bs (dsts a ++ dsts b))) L with
   | none => none
   | some q => gS (spGo 0 q.2.1) fun ov' => gL gP ov' fun ov' => gH q.2.2 fun H' => cond (qp6 q.2.1.length n) (K q.1 ov' H') none
  | none => yC cfg cf fs m f rd n bs a ov H fun e ov' H' =>
   match e with
   | .normal => qfq n (cfg.cut f (qp b)) ov' fun ov2 => yC cfg cf fs m f rd n bs b ov2 H' K
   | e => K e ov' H'
 | .cond c a b, ov, H, K =>
  match opdO ov c with
  | .bool t => (match t with | true => yC cfg cf fs m f rd n bs a ov H K | false => yC cfg cf fs m f rd n bs b ov H K)
  | _ => none
 | .block id a, ov, H, K => yC cfg cf fs m f rd n bs a ov H fun e ov' H' =>
  match e with
  | .exit id' => cond (qp6 id' id) (K .normal ov' H') (K (.exit id') ov' H')
  | e => K e ov' H'
 | .loop a, ov, H, K => qli n bs (cfg.keepIn f (qp a)) (cfg.lift f (qp a)) ov H fun ov H =>
   qia n bs (cfg.keepIn f (qp a)) (cfg.lift f (qp a)) (yC cfg cf fs m f rd n bs a) m ov H fun e ov H => qfq n (cfg.keepOut f (qp a)) ov fun ov => K e ov H
 | .scope a, ov, H, K => yC cfg cf fs m f rd n bs a ov H fun e ov' H' =>
  match e with
  | .goto _ => none
  | e => K e ov' H'
 | .exit id, ov, H, K => K (.exit id) ov H
 | .goto _, _, _, _ => none
 | .ret, ov, H, K => K .ret ov H
 | .rangeFunc g ps assign body, ov, H, K => qaK n (cfg.lift f (qp body)) ov H fun ov H => qmy cfg cf f rd n bs g ps assign body ov H K
 | .refuse _, _, _, _ => none
theorem qfr {n k : Nat} {ts : Option (List Tmp)} {ls : List (Tmp × Nat)} {body : Ov → AH → YE β → Option β} {den' : Den} {r : β}
  (hb : ∀ {ov H K}, OvOk n ov → body ov H K = some r → ∃ e ov' H', OvOk n ov' ∧ den' (den n ov) H = some (e, den n ov', H') ∧ K e ov' H' = some r) :
  ∀ (m : Nat) {ov : Ov} {H : AH} {K : YE β}, OvOk n ov → qia n k ts ls body m ov H K = some r → ∃ e ov' H', OvOk n ov' ∧ xu k ts ls den' m (den n ov, H) = some (e, den n ov', H') ∧ K e ov' H' = some r
 | 0, ov, H, K, _, h => by cases h
 | m + 1, ov, H, K, hok, h => by
  rw [qia] at h
  obtain ⟨e, ov1, H1, h1, h2, h3⟩ := hb hok h
  rw [xu]
  simp only [h2, qp7]
  cases e with
  | normal =>
   simp only at h3 ⊢
   obtain ⟨ov2, H2, h4, h5, h6⟩ := qfs h1 h3
   rw [h5]
   exact qfr hb m h4 h6
  | exit id => exact ⟨_, ov1, H1, h1, rfl, h3⟩
  | goto l => exact ⟨_, ov1, H1, h1, rfl, h3⟩
  | ret => exact ⟨_, ov1, H1, h1, rfl, h3⟩
theorem qg3 {cfg : Cfg} {cf : Orac} (hcf : Le cf (EV cfg)) {fs : List Fact} (hfs : xl cfg fs) {m f : Nat} {rd : Option Nat} {n bs : Nat} {r : β} : ∀ (c : Code) {ov : Ov} {H : AH} {K : YE β}, OvOk n ov → yC cfg cf fs m f rd n bs c ov H K = some r →
  ∃ e ov' H', OvOk n ov' ∧ evC cfg (EV cfg) f rd bs c (den n ov) H = some (e, den n ov', H') ∧ K e ov' H' = some r := by
 intro c
 induction c with
 | skip => intro ov H K hok h; exact ⟨_, ov, H, hok, by simp only [evC], h⟩
 | label l => intro ov H K hok h; exact ⟨_, ov, H, hok, by simp only [evC], h⟩
 | exit id => intro ov H K hok h; exact ⟨_, ov, H, hok, by simp only [evC], h⟩
 | ret => intro ov H K hok h; exact ⟨_, ov, H, hok, by simp only [evC], h⟩
 | goto l => intro ov H K hok h; cases h
 | refuse s => intro ov H K hok h; cases h
 | region id ops draw =>
  intro ov H K hok h
  simp only [yC] at h
  simp only [evC]
  cases draw with
  | true =>
   simp only at h
   obtain ⟨h1, h⟩ := qg h
   rw [xY] at h
   obtain ⟨fps, ov', H', h2, h3, h⟩ := qcB hcf hfs hok h
   obtain ⟨h4, h⟩ := qg h
   exact ⟨_, ov', H', h2, by simp only [if_true, h1, h3, qp7, h4], h⟩
  | false =>
   simp only at h
   obtain ⟨ov', H', h2, h3, h⟩ := qdq hcf hfs hok h
   exact ⟨_, ov', H', h2, by simp only [qp0, if_false, h3, qqd], h⟩
 | seq x y ihx ihy =>
  intro ov H K hok h
  simp only [yC] at h
  simp only [evC]
  cases hco : qbs x with
  | some p =>
   simp only [hco] at h ⊢
   rw [yw qeu] at h
   split at h
   ·cases h
   ·rename_i q hq
    obtain ⟨L, hL, hq⟩ := qpX.1 hq
    have hev : Ev (fun _ => EV cfg) cf := fun t a H r h => ⟨0, fun _ _ => hcf t a H r h⟩
    obtain ⟨_, hL'⟩ := qfj hev cfg f p.1 p.2 _ _ _ _ _ hL
    have hL' : z7 cfg (EV cfg) f p.1 p.2 p.2.size [] (den n ov) H = some L := hL' _ (qp2 _)
    have hq' := qiY (G := fun fr H => (evC cfg (EV cfg) f rd bs y (vh (cfg.cut f (qp y)) fr) H).map (qhp bs (dsts x ++ dsts y))) (fun fr H r hr => by
     obtain ⟨r', hr', e⟩ := qpZ.1 hr
     rw [qpM cfg hcf m f rd bs y _ _ _ hr', ← e]; rfl) hq
    rw [xY, yw qmd, qc0] at h
    obtain ⟨hl, h⟩ := qg h
    have hl := qpY hl
    have hd := qgN q.2.1
    rw [hl] at hd
    refine ⟨q.1, _, q.2.2, ?_, ?_, h⟩
    ·exact qa1 _ _ _ (by omega)
    ·rw [hL', qp7, hq', hd]
  | none => ?_
  simp only [hco] at h ⊢
  obtain ⟨e, ov1, H1, h1, h2, h⟩ := ihx hok h
  rw [h2]
  simp only [qp7]
  cases e with
  | normal =>
   simp only at h ⊢
   obtain ⟨ov2, h3, h4, h⟩ := qcA h1 h
   rw [h4]
   exact ihy h3 h
  | exit id => exact ⟨_, ov1, H1, h1, rfl, h⟩
  | goto l => exact ⟨_, ov1, H1, h1, rfl, h⟩
  | ret => exact ⟨_, ov1, H1, h1, rfl, h⟩
 | cond c x y ihx ihy =>
  intro ov H K hok h
  simp only [yC] at h
  simp only [evC, qco hok]
  split at h
  ·rename_i t ht
   rw [ht]
   cases t with
   | true => exact ihx hok h
   | false => exact ihy hok h
  ·cases h
 | block id x ih =>
  intro ov H K hok h
  simp only [yC] at h
  simp only [evC]
  obtain ⟨e, ov1, H1, h1, h2, h⟩ := ih hok h
  rw [h2]
  simp only [qp7]
  cases e with
  | normal => exact ⟨_, ov1, H1, h1, rfl, h⟩
  | exit id' =>
   simp only at h ⊢
   cases hb : qp6 id' id with
   | true => rw [hb] at h; exact ⟨_, ov1, H1, h1, by simp, h⟩
   | false => rw [hb] at h; exact ⟨_, ov1, H1, h1, by simp, h⟩
  | goto l => exact ⟨_, ov1, H1, h1, rfl, h⟩
  | ret => exact ⟨_, ov1, H1, h1, rfl, h⟩
 | loop x ih =>
  intro ov H K hok h
  simp only [yC] at h
  simp only [evC]
  obtain ⟨ov1, H1, h1, h2, h⟩ := qfs hok h
  rw [h2]
  obtain ⟨e, ov2, H2, h3, h4, h⟩ := qfr (den' := evC cfg (EV cfg) f rd bs x) (fun hok h => ih hok h) m h1 h
  obtain ⟨ov3, h5, h6, h⟩ := qcA h3 h
  rw [qcy h4]
  exact ⟨e, ov3, H2, h5, by simp only [qqd, h6], h⟩
 | scope x ih =>
  intro ov H K hok h
  simp only [yC] at h
  simp only [evC]
  obtain ⟨e, ov1, H1, h1, h2, h⟩ := ih hok h
  rw [h2]
  simp only [qp7]
  cases e with
  | goto l => cases h
  | normal => exact ⟨_, ov1, H1, h1, rfl, h⟩
  | exit id => exact ⟨_, ov1, H1, h1, rfl, h⟩
  | ret => exact ⟨_, ov1, H1, h1, rfl, h⟩
 | rangeFunc g ps assign body =>
  intro ov H K hok h
  simp only [yC] at h
  simp only [evC]
  obtain ⟨ov1, H1, h1, h2, h⟩ := y3 hok h
  rw [h2]
  simp only
  unfold qmy at h
  rw [yw qeu] at h
  split at h
  ·cases h
  ·rename_i q hq
   have hq : yK cfg (EV cfg) f rd bs g ps assign body (den n ov1) H1 = some q := by
    unfold yK at hq ⊢
    split at hq
    ·rename_i hl
     rw [if_pos hl]
     split at hq
     ·split at hq
      ·cases hq
      ·rename_i hx
       rw [if_neg hx]
       obtain ⟨q2, hq2, hq⟩ := qpX.1 hq
       rw [hcf _ _ _ _ hq2]
       exact hq
     ·cases hq
    ·cases hq
   rw [xY, yw qmd, qc0] at h
   obtain ⟨hl, h⟩ := qg h
   have hl := qpY hl
   have hd := qgN q.2.1
   rw [hl] at hd
   refine ⟨q.1, _, q.2.2, ?_, ?_, h⟩
   ·exact qa1 _ _ _ (by omega)
   ·rw [hq, hd]
noncomputable def resO (rs : List ResultVar) (ty : TypeId → Option TI) (ov : Ov) (H : AH) : Option (List AV) :=
 match rs with
 | [] => some []
 | .tmp t :: l => (resO l ty ov H).map fun vs => vR t ov :: vs
 | .cell a t :: l =>
  match ty t with
  | some ti => (yz ti.d.agg ti.sz H (vR a ov)).bind fun v => (resO l ty ov H).map fun vs => v :: vs
  | none => none
theorem qhb {n : Nat} {ov : Ov} (hok : OvOk n ov) (ty : TypeId → Option TI) (H : AH) : ∀ rs : List ResultVar, v6 rs ty (den n ov) H = resO rs ty ov H
 | [] => rfl
 | .tmp t :: l => by
  have : (den n ov).getD t .junk = vR t ov := congrFun (qco hok) (.tmp t)
  simp only [v6, resO, qhb hok ty H l, this]
 | .cell a t :: l => by
  have : (den n ov).getD a .junk = vR a ov := congrFun (qco hok) (.tmp a)
  simp only [v6, resO, qhb hok ty H l, this]
  cases ty t <;> rfl
noncomputable def yEnd (cfg : Cfg) (f n : Nat) (rs : List ResultVar) : YE (AV × AH) := fun e ov H =>
 match e with
 | .normal | .ret => qaK n (cfg.lift f 0) ov H fun ov H => (match resO rs cfg.ty ov H with | some vs => gA (yj vs) fun v => some (v, H) | none => none)
 | _ => none
def qc5 : Nat → List AV → Ov
 | _, [] => []
 | i, a :: l => (i, a) :: qc5 (i + 1) l
theorem qfm : ∀ (l : List AV) (i n : Nat), i + l.length ≤ n → OvOk n (qc5 i l)
 | [], i, n, _ => fun p hp => by cases hp
 | a :: l, i, n, h => by
  simp only [List.length_cons] at h
  intro p hp
  rcases qqn.1 hp with rfl | hp
  ·show i < n; omega
  ·exact qfm l (i + 1) n (by omega) p hp
theorem qhW : ∀ (l : List AV) (i t : Nat), vR t (qc5 i l) = if i ≤ t then (l[t - i]?).getD .junk else .junk
 | [], i, t => by simp [qc5, qdG]
 | a :: l, i, t => by
  rw [qc5, zS, qhW l (i + 1) t]
  by_cases e2 : i = t
  ·subst e2; simp
  ·have h1 : qp6 i t = false := by rw [← Bool.not_eq_true]; intro h'; exact e2 (qpY h')
   simp only [h1, cond_false]
   by_cases h3 : i + 1 ≤ t
   ·have h4 : t - i = (t - (i + 1)) + 1 := by omega
    rw [if_pos h3, if_pos (by omega), h4, qqm]
   ·rw [if_neg h3, if_neg (by omega)]
theorem qn6 {l : List AV} {n : Nat} (h : l.length ≤ n) : den n (qc5 0 l) = l ++ qqi (n - l.length) .junk := by
 refine qhn (qfm l 0 n (by omega)) (by simp; omega) fun t ht => ?_
 rw [qhW, if_pos (Nat.zero_le _), Nat.sub_zero]
 by_cases hl : t < l.length
 ·rw [qqa hl, qp1 hl]; rfl
 ·rw [qqb (by omega), List.getElem?_replicate, if_pos (by omega), List.getElem?_eq_none (by omega)]; rfl
noncomputable def yY2 (id : Nat) : YE (AV × AH) := fun e _ H =>
 match H[id]? with
 | some (.loop f' fr' ps' assign' body' _ _) =>
  match e with
  | .normal => gS (H.set id (.loop f' fr' ps' assign' body' none .ready)) fun H' => some (.bool true, H')
  | .ret => gS (H.set id (.loop f' fr' ps' assign' body' (some .ret) .done)) fun H' => some (.bool false, H')
  | .exit x => gS (H.set id (.loop f' fr' ps' assign' body' (some (.exit x)) .done)) fun H' => some (.bool false, H')
  | .goto _ => none
 | _ => none
noncomputable def yF (cfg : Cfg) (look : Nat → Option Func) (fs : List Fact) (m : Nat) : Nat → Orac
 | 0, _, _, _ => none
 | d + 1, .f f, args, H =>
  match cfg.ext f with
  | some s => s args H
  | none =>
   if cfg.known f then
    match look f with
    | some fn =>
     match fn.body with
     | some c => cond (qqk args.length fn.ntmps) (fNat H.length fun bs => fNat fn.ntmps fun n => gS (qc5 0 args) fun ov => yC cfg (yF cfg look fs m d) fs m f none n bs c ov H (yEnd cfg f n fn.results.toList)) none
     | none => none
    | none => none
   else none
 | d + 1, .y id, args, H =>
  match H[id]? with
  | some (.loop f fr ps assign body _ .ready) =>
   cond (qp6 args.length ps.length)
    (fNat H.length fun bs => fNat (xH fr ps args).length fun n => gS (spGo 0 (xH fr ps args)) fun ov => yC cfg (yF cfg look fs m d) fs m f (some id) n bs assign ov H fun e ov H =>
     match e with
     | .normal =>
      (match H[id]? with
      | some (.loop f' fr' ps' assign' body' pend' .ready) => gS (H.set id (.loop f' fr' ps' assign' body' pend' .busy)) fun H' => yC cfg (yF cfg look fs m d) fs m f (some id) n bs body ov H' (yY2 id)
      | _ => none)
     | _ => none) none
  | _ => none
theorem qlj (cfg : Cfg) {look : Nat → Option Func} (hl : ∀ f fn, look f = some fn → cfg.P.funcs[f]? = some fn) {fs : List Fact} (hfs : xl cfg fs) (m : Nat) : ∀ (d : Nat) (t : Tgt) (a : List AV) (H : AH) (r), yF cfg look fs m d t a H = some r → EV cfg t a H = some r
 | 0, _, _, _, _, h => by cases h
 | d + 1, t, a, H, r, h => by
  have ih := qlj cfg hl hfs m d
  refine qc7 ?_
  cases t with
  | f f =>
   simp only [yF] at h
   unfold vL
   split at h
   ·rename_i s hs
    simp only [hs]
    exact h
   ·rename_i hs
    simp only [hs]
    split at h
    ·rename_i hk
     rw [if_pos hk]
     split at h
     ·rename_i fn hf
      simp only [hl f fn hf]
      split at h
      ·rename_i c hb
       simp only [hb]
       obtain ⟨hle, h⟩ := qg h
       rw [Nat.ble_eq] at hle
       simp only [xK, xY] at h
       obtain ⟨e, ov', H', h1, h2, h3⟩ := qg3 ih hfs c (qfm a 0 fn.ntmps (by omega)) h
       rw [qn6 hle] at h2
       rw [h2]
       simp only [qp7]
       unfold yEnd at h3
       have fin : ∀ (e : Ex), (e = .normal ∨ e = .ret) → (qaK fn.ntmps (cfg.lift f 0) ov' H' fun ov H => (match resO fn.results.toList cfg.ty ov H with | some vs => gA (yj vs) fun v => some (v, H) | none => none)) = some r →
         qaD cfg fn.results.toList (e, q9 (cfg.lift f 0) (den fn.ntmps ov') H') = some r := by
        intro e he h3
        obtain ⟨ov2, H2, h4, h5, h6⟩ := y3 h1 h3
        rw [h5]
        unfold qaD
        rcases he with rfl | rfl <;>
        ·simp only [qhb h4]
         split at h6
         ·rename_i vs hv
          rw [qap] at h6
          rw [hv]
          exact h6
         ·cases h6
       cases e with
       | normal => exact fin _ (.inl rfl) h3
       | ret => exact fin _ (.inr rfl) h3
       | exit x => cases h3
       | goto l => cases h3
      ·cases h
     ·cases h
    ·cases h
  | y id =>
   simp only [yF] at h
   unfold vL
   split at h
   ·rename_i f fr ps assign body p hlp
    simp only [hlp]
    obtain ⟨hlen, h⟩ := qg h
    rw [if_pos (qpY hlen)]
    simp only [xK, xY] at h
    obtain ⟨e, ov1, H1, h1, h2, h3⟩ := qg3 ih hfs assign (qa1 _ 0 _ (by omega)) h
    rw [qgN] at h2
    rw [h2]
    simp only [qp7]
    cases e with
    | normal =>
     simp only at h3 ⊢
     split at h3
     ·rename_i f' fr' ps' assign' body' pend' hl1
      simp only [hl1]
      obtain ⟨e2, ov2, H2, h4, h5, h6⟩ := qg3 ih hfs body h1 h3
      rw [h5]
      simp only [qp7]
      unfold yY2 at h6
      split at h6
      ·rename_i hl2
       simp only [hl2]
       cases e2 with
       | normal => simp only [xY] at h6; exact h6
       | ret => simp only [xY] at h6; exact h6
       | exit x => simp only [xY] at h6; exact h6
       | goto l => cases h6
      ·cases h6
     ·cases h3
    | exit x => cases h3
    | goto l => cases h3
    | ret => cases h3
   ·cases h
theorem qpt {cfg : Cfg} {look : Nat → Option Func} (hl : ∀ f fn, look f = some fn → cfg.P.funcs[f]? = some fn) {fs : List Fact} (hfs : xl cfg fs) {f : Nat} {args : List AV} {v : AV} (m d : Nat)
  (h : (match yF cfg look fs m d (.f f) args [] with | some r => some r.1 | none => none) = some v) : EVs (EV cfg) f args = some v := by
 unfold EVs
 cases hx : yF cfg look fs m d (.f f) args [] with
 | none => rw [hx] at h; cases h
 | some r => rw [hx] at h; rw [qlj cfg hl hfs m d _ _ _ _ hx]; exact h
theorem qpu {cfg : Cfg} {look : Nat → Option Func} (hl : ∀ f fn, look f = some fn → cfg.P.funcs[f]? = some fn) {fs : List Fact} (hfs : xl cfg fs) {f : Nat} {args : List AV} {v : AV} (m d : Nat)
  (h : (match yF cfg look fs m d (.f f) args [] with | some r => gA (r.1.frz r.1.msIds r.2).fg some | none => none) = some v) : EVf (EV cfg) f args = some v := by
 unfold EVf
 cases hx : yF cfg look fs m d (.f f) args [] with
 | none => rw [hx] at h; cases h
 | some r => rw [hx] at h; rw [qlj cfg hl hfs m d _ _ _ _ hx]; simp only [qap] at h; exact h
def z6 : List AV → AH → Option (AV × AH)
 | [.str s, .int .u8 c], H => some (.int .i64 (Go.Lib.indexByte s c.toNat.toUInt8), H)
 | _, _ => none
def zl : List AV → AH → Option (AV × AH)
 | [.str s, .str t], H => if s.length < 4294967281 then some (.bool (Go.Lib.contains s t), H) else none
 | _, _ => none
def zB : List AV → AH → Option (AV × AH)
 | [.str s, .int .i64 10, .int .i64 64], H =>
  if s.length ≤ 281474976710656 then
   match Go.Lib.parseUintB 64 s with
   | .ok u => some (.tup [.int .u64 u, .nilI], H)
   | Go.Lib.NumEnd.syntax => some (.tup [.int .u64 0, .ifc 66 .junk], H)
   | .range => some (.tup [.int .u64 18446744073709551615, .ifc 66 .junk], H)
  else none
 | _, _ => none
end Go.Av
end
section
namespace Go.Proofs.YtkohdkldmpiiiaaDoor
open Go.Av
def qll : BT TI := .node 56 ({ d := .iface, sz := 1, bytes := 16, zero := [.nilI], eq := false }) (.node 30 ({ d := .struct [(0, 3), (1, 3), (2, 3), (3, 9)], sz := 4, bytes := 40, zero := [.int .i64 0, .int .i64 0, .int .i64 0, .str []], eq := true }) (.node 17 ({ d := .ptr 109, sz := 1, bytes := 8, zero := [.nilP], eq := false }) (.node 7 ({ d := .struct [(0, 2), (1, 3), (2, 4), (3, 6)], sz := 4, bytes := 24, zero := [.int .i64 0, .int .i64 0, .bool false, .int .u8 0], eq := true }) (.node 4 ({ d := .bool, sz := 1, bytes := 1, zero := [.bool false], eq := false }) (.node 2 ({ d := .int .i64, sz := 1, bytes := 8, zero := [.int .i64 0], eq := false }) (.node 1 ({ d := .func, sz := 1, bytes := 8, zero := [.nilF], eq := false }) .leaf .leaf) (.node 3 ({ d := .int .i64, sz := 1, bytes := 8, zero := [.int .i64 0], eq := false }) .leaf .leaf)) (.node 6 ({ d := .int .u8, sz := 1, bytes := 1, zero := [.int .u8 0], eq := false }) (.node 5 ({ d := .int .u8, sz := 1, bytes := 1, zero := [.int .u8 0], eq := false }) .leaf .leaf) .leaf)) (.node 13 ({ d := .struct [(0, 9), (1, 12)], sz := 2, bytes := 24, zero := [.str [], .int .u64 0], eq := false }) (.node 12 ({ d := .int .u64, sz := 1, bytes := 8, zero := [.int .u64 0], eq := false }) (.node 9 ({ d := .str, sz := 1, bytes := 16, zero := [.str []], eq := false }) .leaf .leaf) .leaf) (.node 16 ({ d := .ptr 101, sz := 1, bytes := 8, zero := [.nilP], eq := false }) (.node 15 ({ d := .ptr 98, sz := 1, bytes := 8, zero := [.nilP], eq := false }) .leaf .leaf) .leaf))) (.node 23 ({ d := .int .i64, sz := 1, bytes := 8, zero := [.int .i64 0], eq := false }) (.node 20 ({ d := .iface, sz := 1, bytes := 16, zero := [.nilI], eq := false }) (.node 19 ({ d := .struct [(0, 17)], sz := 1, bytes := 8, zero := [.nilP], eq := false }) (.node 18 ({ d := .struct [(0, 17)], sz := 1, bytes := 8, zero := [.nilP], eq := false }) .leaf .leaf) .leaf) (.node 22 ({ d := .slice 30, sz := 1, bytes := 24, zero := [.nilS], eq := false }) (.node 21 ({ d := .int .i32, sz := 1, bytes := 4, zero := [.int .i32 0], eq := false }) .leaf .leaf) .leaf)) (.node 27 ({ d := .func, sz := 1, bytes := 8, zero := [.nilF], eq := false }) (.node 25 ({ d := .struct [(0, 23), (1, 3)], sz := 2, bytes := 16, zero := [.int .i64 0, .int .i64 0], eq := true }) (.node 24 ({ d := .struct [(0, 23), (1, 3)], sz := 2, bytes := 16, zero := [.int .i64 0, .int .i64 0], eq := true }) .leaf .leaf) .leaf) (.node 29 ({ d := .struct [(0, 3), (1, 3), (2, 3), (3, 9)], sz := 4, bytes := 40, zero := [.int .i64 0, .int .i64 0, .int .i64 0, .str []], eq := true }) (.node 28 ({ d := .func, sz := 1, bytes := 8, zero := [.nilF], eq := false }) .leaf .leaf) .leaf)))) (.node 44 ({ d := .func, sz := 1, bytes := 8, zero := [.nilF], eq := false }) (.node 37 ({ d := .ptr 39, sz := 1, bytes := 8, zero := [.nilP], eq := false }) (.node 34 ({ d := .struct [(0, 9), (1, 3), (2, 23)], sz := 3, bytes := 32, zero := [.str [], .int .i64 0, .int .i64 0], eq := true }) (.node 32 ({ d := .func, sz := 1, bytes := 8, zero := [.nilF], eq := false }) (.node 31 ({ d := .func, sz := 1, bytes := 8, zero := [.nilF], eq := false }) .leaf .leaf) (.node 33 ({ d := .ptr 35, sz := 1, bytes := 8, zero := [.nilP], eq := false }) .leaf .leaf)) (.node 36 ({ d := .func, sz := 1, bytes := 8, zero := [.nilF], eq := false }) (.node 35 ({ d := .struct [(0, 9), (1, 3), (2, 23)], sz := 3, bytes := 32, zero := [.str [], .int .i64 0, .int .i64 0], eq := true }) .leaf .leaf) .leaf)) (.node 40 ({ d := .func, sz := 1, bytes := 8, zero := [.nilF], eq := false }) (.node 39 ({ d := .struct [(0, 9), (1, 3), (2, 3), (3, 23), (4, 22)], sz := 5, bytes := 64, zero := [.str [], .int .i64 0, .int .i64 0, .int .i64 0, .nilS], eq := false }) (.node 38 ({ d := .struct [(0, 9), (1, 3), (2, 3), (3, 23), (4, 22)], sz := 5, bytes := 64, zero := [.str [], .int .i64 0, .int .i64 0, .int .i64 0, .nilS], eq := false }) .leaf .leaf) .leaf) (.node 42 ({ d := .func, sz := 1, bytes := 8, zero := [.nilF], eq := false }) (.node 41 ({ d := .func, sz := 1, bytes := 8, zero := [.nilF], eq := false }) .leaf .leaf) .leaf))) (.node 50 ({ d := .slice 9, sz := 1, bytes := 24, zero := [.nilS], eq := false }) (.node 47 ({ d := .func, sz := 1, bytes := 8, zero := [.nilF], eq := false }) (.node 46 ({ d := .func, sz := 1, bytes := 8, zero := [.nilF], eq := false }) (.node 45 ({ d := .func, sz := 1, bytes := 8, zero := [.nilF], eq := false }) .leaf .leaf) .leaf) (.node 49 ({ d := .func, sz := 1, bytes := 8, zero := [.nilF], eq := false }) (.node 48 ({ d := .func, sz := 1, bytes := 8, zero := [.nilF], eq := false }) .leaf .leaf) .leaf)) (.node 53 ({ d := .func, sz := 1, bytes := 8, zero := [.nilF], eq := false }) (.node 52 ({ d := .slice 5, sz := 1, bytes := 24, zero := [.nilS], eq := false }) (.node 51 ({ d := .func, sz := 1, bytes := 8, zero := [.nilF], eq := false }) .leaf .leaf) .leaf) (.node 55 ({ d := .iface, sz := 1, bytes := 16, zero := [.nilI], eq := false }) (.node 54 ({ d := .int .u64, sz := 1, bytes := 8, zero := [.int .u64 0], eq := false }) .leaf .leaf) .leaf))))) (.node 83 ({ d := .array 24 5, sz := 24, bytes := 24, zero := [.int .u8 0, .int .u8 0, .int .u8 0, .int .u8 0, .int .u8 0, .int .u8 0, .int .u8 0, .int .u8 0, .int .u8 0, .int .u8 0, .int .u8 0, .int .u8 0, .int .u8 0, .int .u8 0, .int .u8 0, .int .u8 0, .int .u8 0, .int .u8 0, .int .u8 0, .int .u8 0, .int .u8 0, .int .u8 0, .int .u8 0, .int .u8 0], eq := false }) (.node 70 ({ d := .struct [(0, 9), (1, 9), (2, 56)], sz := 3, bytes := 48, zero := [.str [], .str [], .nilI], eq := false }) (.node 64 ({ d := .int .i64, sz := 1, bytes := 8, zero := [.int .i64 0], eq := false }) (.node 61 ({ d := .func, sz := 1, bytes := 8, zero := [.nilF], eq := false }) (.node 59 ({ d := .func, sz := 1, bytes := 8, zero := [.nilF], eq := false }) (.node 58 ({ d := .func, sz := 1, bytes := 8, zero := [.nilF], eq := false }) .leaf .leaf) (.node 60 ({ d := .func, sz := 1, bytes := 8, zero := [.nilF], eq := false }) .leaf .leaf)) (.node 63 ({ d := .func, sz := 1, bytes := 8, zero := [.nilF], eq := false }) (.node 62 ({ d := .int .u64, sz := 1, bytes := 8, zero := [.int .u64 0], eq := false }) .leaf .leaf) .leaf)) (.node 67 ({ d := .func, sz := 1, bytes := 8, zero := [.nilF], eq := false }) (.node 66 ({ d := .ptr 71, sz := 1, bytes := 8, zero := [.nilP], eq := false }) (.node 65 ({ d := .func, sz := 1, bytes := 8, zero := [.nilF], eq := false }) .leaf .leaf) .leaf) (.node 69 ({ d := .func, sz := 1, bytes := 8, zero := [.nilF], eq := false }) (.node 68 ({ d := .func, sz := 1, bytes := 8, zero := [.nilF], eq := false }) .leaf .leaf) .leaf))) (.node 76 ({ d := .ptr 78, sz := 1, bytes := 8, zero := [.nilP], eq := false }) (.node 73 ({ d := .func, sz := 1, bytes := 8, zero := [.nilF], eq := false }) (.node 72 ({ d := .func, sz := 1, bytes := 8, zero := [.nilF], eq := false }) (.node 71 ({ d := .struct [(0, 9), (1, 9), (2, 56)], sz := 3, bytes := 48, zero := [.str [], .str [], .nilI], eq := false }) .leaf .leaf) .leaf) (.node 75 ({ d := .ptr 5, sz := 1, bytes := 8, zero := [.nilP], eq := false }) (.node 74 ({ d := .func, sz := 1, bytes := 8, zero := [.nilF], eq := false }) .leaf .leaf) .leaf)) (.node 79 ({ d := .int .u32, sz := 1, bytes := 4, zero := [.int .u32 0], eq := false }) (.node 78 ({ d := .struct [(0, 9)], sz := 1, bytes := 16, zero := [.str []], eq := true }) (.node 77 ({ d := .struct [(0, 9)], sz := 1, bytes := 16, zero := [.str []], eq := true }) .leaf .leaf) .leaf) (.node 82 ({ d := .func, sz := 1, bytes := 8, zero := [.nilF], eq := false }) (.node 81 ({ d := .func, sz := 1, bytes := 8, zero := [.nilF], eq := false }) .leaf .leaf) .leaf)))) (.node 96 ({ d := .func, sz := 1, bytes := 8, zero := [.nilF], eq := false }) (.node 90 ({ d := .array 65 5, sz := 65, bytes := 65, zero := [.int .u8 0, .int .u8 0, .int .u8 0, .int .u8 0, .int .u8 0, .int .u8 0, .int .u8 0, .int .u8 0, .int .u8 0, .int .u8 0, .int .u8 0, .int .u8 0, .int .u8 0, .int .u8 0, .int .u8 0, .int .u8 0, .int .u8 0, .int .u8 0, .int .u8 0, .int .u8 0, .int .u8 0, .int .u8 0, .int .u8 0, .int .u8 0, .int .u8 0, .int .u8 0, .int .u8 0, .int .u8 0, .int .u8 0, .int .u8 0, .int .u8 0, .int .u8 0, .int .u8 0, .int .u8 0, .int .u8 0, .int .u8 0, .int .u8 0, .int .u8 0, .int .u8 0, .int .u8 0, .int .u8 0, .int .u8 0, .int .u8 0, .int .u8 0, .int .u8 0, .int .u8 0, .int .u8 0, .int .u8 0, .int .u8 0, .int .u8 0, .int .u8 0, .int .u8 0, .int .u8 0, .int .u8 0, .int .u8 0, .int .u8 0, .int .u8 0, .int .u8 0, .int .u8 0, .int .u8 0, .int .u8 0, .int .u8 0, .int .u8 0, .int .u8 0, .int .u8 0], eq := false }) (.node 87 ({ d := .func, sz := 1, bytes := 8, zero := [.nilF], eq := false }) (.node 85 ({ d := .func, sz := 1, bytes := 8, zero := [.nilF], eq := false }) (.node 84 ({ d := .func, sz := 1, bytes := 8, zero := [.nilF], eq := false }) .leaf .leaf) .leaf) (.node 89 ({ d := .array 20 54, sz := 20, bytes := 160, zero := [.int .u64 0, .int .u64 0, .int .u64 0, .int .u64 0, .int .u64 0, .int .u64 0, .int .u64 0, .int .u64 0, .int .u64 0, .int .u64 0, .int .u64 0, .int .u64 0, .int .u64 0, .int .u64 0, .int .u64 0, .int .u64 0, .int .u64 0, .int .u64 0, .int .u64 0, .int .u64 0], eq := false }) (.node 88 ({ d := .func, sz := 1, bytes := 8, zero := [.nilF], eq := false }) .leaf .leaf) .leaf)) (.node 93 ({ d := .func, sz := 1, bytes := 8, zero := [.nilF], eq := false }) (.node 92 ({ d := .func, sz := 1, bytes := 8, zero := [.nilF], eq := false }) (.node 91 ({ d := .func, sz := 1, bytes := 8, zero := [.nilF], eq := false }) .leaf .leaf) .leaf) (.node 95 ({ d := .array 64 5, sz := 64, bytes := 64, zero := [.int .u8 0, .int .u8 0, .int .u8 0, .int .u8 0, .int .u8 0, .int .u8 0, .int .u8 0, .int .u8 0, .int .u8 0, .int .u8 0, .int .u8 0, .int .u8 0, .int .u8 0, .int .u8 0, .int .u8 0, .int .u8 0, .int .u8 0, .int .u8 0, .int .u8 0, .int .u8 0, .int .u8 0, .int .u8 0, .int .u8 0, .int .u8 0, .int .u8 0, .int .u8 0, .int .u8 0, .int .u8 0, .int .u8 0, .int .u8 0, .int .u8 0, .int .u8 0, .int .u8 0, .int .u8 0, .int .u8 0, .int .u8 0, .int .u8 0, .int .u8 0, .int .u8 0, .int .u8 0, .int .u8 0, .int .u8 0, .int .u8 0, .int .u8 0, .int .u8 0, .int .u8 0, .int .u8 0, .int .u8 0, .int .u8 0, .int .u8 0, .int .u8 0, .int .u8 0, .int .u8 0, .int .u8 0, .int .u8 0, .int .u8 0, .int .u8 0, .int .u8 0, .int .u8 0, .int .u8 0, .int .u8 0, .int .u8 0, .int .u8 0, .int .u8 0], eq := false }) (.node 94 ({ d := .array 32 5, sz := 32, bytes := 32, zero := [.int .u8 0, .int .u8 0, .int .u8 0, .int .u8 0, .int .u8 0, .int .u8 0, .int .u8 0, .int .u8 0, .int .u8 0, .int .u8 0, .int .u8 0, .int .u8 0, .int .u8 0, .int .u8 0, .int .u8 0, .int .u8 0, .int .u8 0, .int .u8 0, .int .u8 0, .int .u8 0, .int .u8 0, .int .u8 0, .int .u8 0, .int .u8 0, .int .u8 0, .int .u8 0, .int .u8 0, .int .u8 0, .int .u8 0, .int .u8 0, .int .u8 0, .int .u8 0], eq := false }) .leaf .leaf) .leaf))) (.node 104 ({ d := .int .u8, sz := 1, bytes := 1, zero := [.int .u8 0], eq := false }) (.node 100 ({ d := .struct [(0, 99)], sz := 0, bytes := 0, zero := [], eq := false }) (.node 99 ({ d := .array 0 16, sz := 0, bytes := 0, zero := [], eq := false }) (.node 97 ({ d := .struct [(0, 17), (1, 17), (2, 17), (3, 9)], sz := 4, bytes := 40, zero := [.nilP, .nilP, .nilP, .str []], eq := false }) .leaf .leaf) .leaf) (.node 103 ({ d := .int .u8, sz := 1, bytes := 1, zero := [.int .u8 0], eq := false }) (.node 102 ({ d := .func, sz := 1, bytes := 8, zero := [.nilF], eq := false }) .leaf .leaf) .leaf)) (.node 107 ({ d := .int .i32, sz := 1, bytes := 4, zero := [.int .i32 0], eq := false }) (.node 106 ({ d := .int .i32, sz := 1, bytes := 4, zero := [.int .i32 0], eq := false }) (.node 105 ({ d := .func, sz := 1, bytes := 8, zero := [.nilF], eq := false }) .leaf .leaf) .leaf) (.node 109 ({ d := .struct [(0, 12), (1, 12), (2, 79), (3, 103), (4, 5), (5, 5), (6, 104), (7, 105), (8, 75), (9, 106), (10, 107)], sz := 11, bytes := 48, zero := [.int .u64 0, .int .u64 0, .int .u32 0, .int .u8 0, .int .u8 0, .int .u8 0, .int .u8 0, .nilF, .nilP, .int .i32 0, .int .i32 0], eq := false }) (.node 108 ({ d := .struct [(0, 12), (1, 12), (2, 79), (3, 103), (4, 5), (5, 5), (6, 104), (7, 105), (8, 75), (9, 106), (10, 107)], sz := 11, bytes := 48, zero := [.int .u64 0, .int .u64 0, .int .u32 0, .int .u8 0, .int .u8 0, .int .u8 0, .int .u8 0, .nilF, .nilP, .int .i32 0, .int .i32 0], eq := false }) .leaf .leaf) .leaf)))))
def qoV : BT CMode := .node 30 (.scal) (.node 16 (.scal) (.node 9 (.obj) (.node 6 (.scal) (.node 4 (.pown) (.node 3 (.scal) .leaf .leaf) (.node 5 (.pfrz) .leaf .leaf)) (.node 8 (.obj) (.node 7 (.scal) .leaf .leaf) .leaf)) (.node 13 (.obj) (.node 11 (.scal) (.node 10 (.obj) .leaf .leaf) (.node 12 (.obj) .leaf .leaf)) (.node 15 (.obj) (.node 14 (.obj) .leaf .leaf) .leaf))) (.node 23 (.obj) (.node 20 (.scal) (.node 18 (.obj) (.node 17 (.scal) .leaf .leaf) (.node 19 (.scal) .leaf .leaf)) (.node 22 (.obj) (.node 21 (.scal) .leaf .leaf) .leaf)) (.node 27 (.obj) (.node 25 (.scal) (.node 24 (.obj) .leaf .leaf) (.node 26 (.obj) .leaf .leaf)) (.node 29 (.scal) (.node 28 (.scal) .leaf .leaf) .leaf)))) (.node 44 (.scal) (.node 37 (.obj) (.node 34 (.scal) (.node 32 (.scal) (.node 31 (.obj) .leaf .leaf) (.node 33 (.scal) .leaf .leaf)) (.node 36 (.obj) (.node 35 (.pfrz) .leaf .leaf) .leaf)) (.node 41 (.obj) (.node 39 (.scal) (.node 38 (.pfrz) .leaf .leaf) (.node 40 (.pfrz) .leaf .leaf)) (.node 43 (.pfrz) (.node 42 (.scal) .leaf .leaf) .leaf))) (.node 62 (.scal) (.node 57 (.scal) (.node 46 (.scal) (.node 45 (.scal) .leaf .leaf) (.node 50 (.scal) .leaf .leaf)) (.node 61 (.scal) (.node 58 (.scal) .leaf .leaf) .leaf)) (.node 75 (.scal) (.node 65 (.scal) (.node 63 (.scal) .leaf .leaf) (.node 72 (.scal) .leaf .leaf)) (.node 77 (.scal) (.node 76 (.scal) .leaf .leaf) .leaf))))
def qpr : BT (BT (List Nat)) := .leaf
noncomputable def qii {α : Type} (a b : Nat) (t : BT (BT α)) : Option α := match t.look a with | some u => u.look b | none => none
noncomputable def qoZ (f r k : Nat) : Bool := match qii f r qpr with | some l => xn k l | none => false
def qoW : BT (BT (List Tmp × List Tmp)) := .node 24 (.node 3 ([0, 2, 3], [2]) .leaf .leaf) (.node 10 (.node 2 ([0], [0]) (.node 0 ([0], []) .leaf .leaf) .leaf) (.node 5 (.node 5 ([0, 3, 4], [2, 3, 4]) .leaf .leaf) (.node 4 (.node 5 ([0, 3, 4, 5], [2, 3, 5]) .leaf .leaf) (.node 3 (.node 8 ([0, 3, 5, 7], [0, 5]) .leaf .leaf) .leaf .leaf) .leaf) (.node 8 (.node 0 ([0], []) .leaf .leaf) (.node 6 (.node 4 ([0, 1, 5], [4]) .leaf .leaf) .leaf .leaf) .leaf)) (.node 14 (.node 10 ([0, 2], [0, 2]) .leaf .leaf) (.node 13 (.node 2 ([0, 2], [0, 2]) .leaf .leaf) (.node 12 (.node 0 ([0], [0]) .leaf .leaf) .leaf .leaf) .leaf) (.node 15 (.node 2 ([0, 2, 3], [0]) .leaf .leaf) .leaf .leaf))) (.node 57 (.node 15 ([0, 1, 5, 6, 7, 8, 9, 10], [4]) .leaf .leaf) (.node 34 (.node 2 ([0, 1, 5], [4]) .leaf .leaf) (.node 31 (.node 3 ([0, 2, 3, 15, 16, 17], [0, 2, 3]) .leaf .leaf) (.node 27 (.node 2 ([0, 1, 5], [0, 5]) .leaf .leaf) .leaf .leaf) .leaf) (.node 52 (.node 10 ([0, 3, 4, 5], [2, 3]) .leaf .leaf) (.node 47 (.node 36 ([1, 8, 9, 10, 11, 12, 13, 99, 100, 101], [6, 7, 9, 12, 13]) .leaf .leaf) .leaf .leaf) .leaf)) (.node 69 (.node 1 ([0, 1, 4], [0, 1, 4]) .leaf .leaf) (.node 65 (.node 8 ([4, 6, 7, 8], [4, 6]) (.node 3 ([0, 4, 5], [0, 4]) .leaf .leaf) .leaf) (.node 63 (.node 11 ([0, 1, 5, 6, 7, 8, 10], [4]) (.node 5 ([0, 1, 5, 6, 7, 8, 9], [0, 1, 5, 6, 7, 8]) .leaf .leaf) .leaf) .leaf .leaf) .leaf) (.node 70 (.node 18 ([0, 1, 3, 4, 10, 11, 12, 13, 17], [0, 1, 3, 4, 10, 11, 12, 13]) (.node 11 ([0, 1, 3, 4, 10, 11, 12, 13, 14, 15, 16], [0, 1, 3, 4, 10, 11, 12, 13]) .leaf .leaf) .leaf) .leaf .leaf)))
def qpx : BT (BT (List Tmp)) := .leaf
def qoX : BT (BT (List (Tmp × Nat))) := .node 24 (.node 3 ([(3, 1)]) .leaf .leaf) (.node 13 (.node 2 ([(2, 1)]) .leaf .leaf) (.node 4 (.node 5 ([(5, 4)]) (.node 0 ([(2, 4)]) .leaf .leaf) .leaf) .leaf .leaf) .leaf) (.node 70 (.node 18 ([(10, 1)]) (.node 11 ([(10, 1)]) .leaf .leaf) .leaf) .leaf .leaf)
def qal (f : Nat) : List (Nat × (List AV → AH → Option (AV × AH))) → Option (List AV → AH → Option (AV × AH))
 | [] => none
 | p :: l => if qp6 p.1 f then some p.2 else qal f l
def qpy : BT TypeId := .leaf
def qnS : BT (List (Nat × Nat × Nat)) := .node 22 ([]) (.node 13 ([(0, 4, 4)]) (.node 10 ([(0, 4, 4)]) (.node 9 ([]) (.node 8 ([]) .leaf .leaf) .leaf) (.node 12 ([(0, 4, 4)]) .leaf .leaf)) (.node 15 ([(0, 4, 4)]) (.node 14 ([(0, 4, 4)]) .leaf .leaf) (.node 18 ([]) .leaf .leaf))) (.node 31 ([]) (.node 26 ([]) (.node 24 ([]) (.node 23 ([]) .leaf .leaf) .leaf) (.node 27 ([]) .leaf .leaf)) (.node 37 ([(0, 4, 4)]) (.node 36 ([(0, 4, 4)]) .leaf .leaf) (.node 41 ([]) .leaf .leaf)))
def qpo : BT (List BSh) := .node 22 ([.row false [.leaf .str, .leaf (.int .i64), .leaf (.int .i64)]]) (.node 13 ([.row false [.leaf .str, .leaf (.int .i64), .leaf (.int .i64), .leaf (.int .i64), .sl 1], .rows true 4]) (.node 10 ([.row false [.leaf .str, .leaf (.int .i64), .leaf (.int .i64), .leaf (.int .i64), .sl 1], .rows true 4]) (.node 9 ([.row false [.leaf .str, .leaf (.int .i64), .leaf (.int .i64)]]) (.node 8 ([.row false [.leaf .str, .leaf (.int .i64), .leaf (.int .i64)]]) .leaf .leaf) .leaf) (.node 12 ([.row false [.leaf .str, .leaf (.int .i64), .leaf (.int .i64), .leaf (.int .i64), .sl 1], .rows true 4]) .leaf .leaf)) (.node 15 ([.row false [.leaf .str, .leaf (.int .i64), .leaf (.int .i64), .leaf (.int .i64), .sl 1], .rows true 4]) (.node 14 ([.row false [.leaf .str, .leaf (.int .i64), .leaf (.int .i64), .leaf (.int .i64), .sl 1], .rows true 4]) .leaf .leaf) (.node 18 ([.row false [.leaf .str, .leaf (.int .i64), .leaf (.int .i64)]]) .leaf .leaf))) (.node 31 ([.row false [.leaf .str, .leaf (.int .i64), .leaf (.int .i64)]]) (.node 26 ([.row false [.leaf .str, .leaf (.int .i64), .leaf (.int .i64)]]) (.node 24 ([.row false [.leaf .str, .leaf (.int .i64), .leaf (.int .i64)]]) (.node 23 ([.row false [.leaf .str, .leaf (.int .i64), .leaf (.int .i64)]]) .leaf .leaf) .leaf) (.node 27 ([.row false [.leaf .str, .leaf (.int .i64), .leaf (.int .i64)]]) .leaf .leaf)) (.node 37 ([.row false [.leaf .str, .leaf (.int .i64), .leaf (.int .i64), .leaf (.int .i64), .sl 1], .rows true 4]) (.node 36 ([.row false [.leaf .str, .leaf (.int .i64), .leaf (.int .i64), .leaf (.int .i64), .sl 1], .rows true 4]) .leaf .leaf) (.node 41 ([.row false [.leaf .str, .leaf (.int .i64), .leaf (.int .i64)]]) .leaf .leaf)))
noncomputable def qlf : List (Nat × (List AV → AH → Option (AV × AH))) := []
noncomputable def qjH : List (Nat × (List AV → AH → Option (AV × AH))) := (20, z6) :: (40, zB) :: (42, zl) :: qlf
theorem qmj : qlf = [] := rfl
def qnX : BT Unit := .node 39 (()) (.node 21 (()) (.node 11 (()) (.node 7 (()) (.node 5 (()) (.node 4 (()) (.node 3 (()) .leaf .leaf) .leaf) (.node 6 (()) .leaf .leaf)) (.node 9 (()) (.node 8 (()) .leaf .leaf) (.node 10 (()) .leaf .leaf))) (.node 16 (()) (.node 14 (()) (.node 13 (()) (.node 12 (()) .leaf .leaf) .leaf) (.node 15 (()) .leaf .leaf)) (.node 18 (()) (.node 17 (()) .leaf .leaf) (.node 19 (()) .leaf .leaf)))) (.node 30 (()) (.node 26 (()) (.node 24 (()) (.node 23 (()) (.node 22 (()) .leaf .leaf) .leaf) (.node 25 (()) .leaf .leaf)) (.node 28 (()) (.node 27 (()) .leaf .leaf) (.node 29 (()) .leaf .leaf))) (.node 35 (()) (.node 33 (()) (.node 32 (()) (.node 31 (()) .leaf .leaf) .leaf) (.node 34 (()) .leaf .leaf)) (.node 37 (()) (.node 36 (()) .leaf .leaf) (.node 38 (()) .leaf .leaf))))) (.node 60 (()) (.node 51 (()) (.node 47 (()) (.node 44 (()) (.node 43 (()) (.node 41 (()) .leaf .leaf) .leaf) (.node 45 (()) .leaf .leaf)) (.node 49 (()) (.node 48 (()) .leaf .leaf) (.node 50 (()) .leaf .leaf))) (.node 56 (()) (.node 54 (()) (.node 53 (()) (.node 52 (()) .leaf .leaf) .leaf) (.node 55 (()) .leaf .leaf)) (.node 58 (()) (.node 57 (()) .leaf .leaf) (.node 59 (()) .leaf .leaf)))) (.node 70 (()) (.node 66 (()) (.node 64 (()) (.node 63 (()) (.node 62 (()) .leaf .leaf) .leaf) (.node 65 (()) .leaf .leaf)) (.node 68 (()) (.node 67 (()) .leaf .leaf) (.node 69 (()) .leaf .leaf))) (.node 74 (()) (.node 72 (()) (.node 71 (()) .leaf .leaf) (.node 73 (()) .leaf .leaf)) (.node 76 (()) (.node 75 (()) .leaf .leaf) (.node 77 (()) .leaf .leaf)))))
def qpw : BT Unit := .leaf
def qpz : BT Unit := .leaf
def qpk : BT Unit := .leaf
def qpv : BT Unit := .leaf
def qpm : BT (List Nat) := .node 57 ([54, 56]) (.node 43 ([5, 4]) (.node 26 ([22, 25]) .leaf .leaf) .leaf) (.node 86 ([52, 9]) (.node 80 ([79, 79]) .leaf .leaf) .leaf)
noncomputable def qnn : List (Nat × Func) := []
noncomputable def qmf : BT Func := .node 39 (Tryd.f39) (.node 21 (Tryd.f21) (.node 12 (Tryd.f12) (.node 7 (Tryd.f7) (.node 5 (Tryd.f5) (.node 4 (Tryd.f4) (.node 3 (Tryd.f3) .leaf .leaf) .leaf) (.node 6 (Tryd.f6) .leaf .leaf)) (.node 10 (Tryd.f10) (.node 9 (Tryd.f9) (.node 8 (Tryd.f8) .leaf .leaf) .leaf) (.node 11 (Tryd.f11) .leaf .leaf))) (.node 17 (Tryd.f17) (.node 15 (Tryd.f15) (.node 14 (Tryd.f14) (.node 13 (Tryd.f13) .leaf .leaf) .leaf) (.node 16 (Tryd.f16) .leaf .leaf)) (.node 19 (Tryd.f19) (.node 18 (Tryd.f18) .leaf .leaf) (.node 20 (Tryd.f20) .leaf .leaf)))) (.node 30 (Tryd.f30) (.node 26 (Tryd.f26) (.node 24 (Tryd.f24) (.node 23 (Tryd.f23) (.node 22 (Tryd.f22) .leaf .leaf) .leaf) (.node 25 (Tryd.f25) .leaf .leaf)) (.node 28 (Tryd.f28) (.node 27 (Tryd.f27) .leaf .leaf) (.node 29 (Tryd.f29) .leaf .leaf))) (.node 35 (Tryd.f35) (.node 33 (Tryd.f33) (.node 32 (Tryd.f32) (.node 31 (Tryd.f31) .leaf .leaf) .leaf) (.node 34 (Tryd.f34) .leaf .leaf)) (.node 37 (Tryd.f37) (.node 36 (Tryd.f36) .leaf .leaf) (.node 38 (Tryd.f38) .leaf .leaf))))) (.node 59 (Tryd.f59) (.node 50 (Tryd.f50) (.node 44 (Tryd.f44) (.node 42 (Tryd.f42) (.node 41 (Tryd.f41) (.node 40 (Tryd.f40) .leaf .leaf) .leaf) (.node 43 (Tryd.f43) .leaf .leaf)) (.node 48 (Tryd.f48) (.node 47 (Tryd.f47) (.node 45 (Tryd.f45) .leaf .leaf) .leaf) (.node 49 (Tryd.f49) .leaf .leaf))) (.node 55 (Tryd.f55) (.node 53 (Tryd.f53) (.node 52 (Tryd.f52) (.node 51 (Tryd.f51) .leaf .leaf) .leaf) (.node 54 (Tryd.f54) .leaf .leaf)) (.node 57 (Tryd.f57) (.node 56 (Tryd.f56) .leaf .leaf) (.node 58 (Tryd.f58) .leaf .leaf)))) (.node 69 (Tryd.f69) (.node 65 (Tryd.f65) (.node 63 (Tryd.f63) (.node 62 (Tryd.f62) (.node 60 (Tryd.f60) .leaf .leaf) .leaf) (.node 64 (Tryd.f64) .leaf .leaf)) (.node 67 (Tryd.f67) (.node 66 (Tryd.f66) .leaf .leaf) (.node 68 (Tryd.f68) .leaf .leaf))) (.node 74 (Tryd.f74) (.node 72 (Tryd.f72) (.node 71 (Tryd.f71) (.node 70 (Tryd.f70) .leaf .leaf) .leaf) (.node 73 (Tryd.f73) .leaf .leaf)) (.node 76 (Tryd.f76) (.node 75 (Tryd.f75) .leaf .leaf) (.node 77 (Tryd.f77) .leaf .leaf)))))
theorem qoK : qmf.All fun f fn => Tryd.prog.funcs[f]? = some fn := (BT.all_node Tryd.func39 (BT.all_node Tryd.func21 (BT.all_node Tryd.func12 (BT.all_node Tryd.func7 (BT.all_node Tryd.func5 (BT.all_node Tryd.func4 (BT.all_node Tryd.func3 trivial trivial) trivial) (BT.all_node Tryd.func6 trivial trivial)) (BT.all_node Tryd.func10 (BT.all_node Tryd.func9 (BT.all_node Tryd.func8 trivial trivial) trivial) (BT.all_node Tryd.func11 trivial trivial))) (BT.all_node Tryd.func17 (BT.all_node Tryd.func15 (BT.all_node Tryd.func14 (BT.all_node Tryd.func13 trivial trivial) trivial) (BT.all_node Tryd.func16 trivial trivial)) (BT.all_node Tryd.func19 (BT.all_node Tryd.func18 trivial trivial) (BT.all_node Tryd.func20 trivial trivial)))) (BT.all_node Tryd.func30 (BT.all_node Tryd.func26 (BT.all_node Tryd.func24 (BT.all_node Tryd.func23 (BT.all_node Tryd.func22 trivial trivial) trivial) (BT.all_node Tryd.func25 trivial trivial)) (BT.all_node Tryd.func28 (BT.all_node Tryd.func27 trivial trivial) (BT.all_node Tryd.func29 trivial trivial))) (BT.all_node Tryd.func35 (BT.all_node Tryd.func33 (BT.all_node Tryd.func32 (BT.all_node Tryd.func31 trivial trivial) trivial) (BT.all_node Tryd.func34 trivial trivial)) (BT.all_node Tryd.func37 (BT.all_node Tryd.func36 trivial trivial) (BT.all_node Tryd.func38 trivial trivial))))) (BT.all_node Tryd.func59 (BT.all_node Tryd.func50 (BT.all_node Tryd.func44 (BT.all_node Tryd.func42 (BT.all_node Tryd.func41 (BT.all_node Tryd.func40 trivial trivial) trivial) (BT.all_node Tryd.func43 trivial trivial)) (BT.all_node Tryd.func48 (BT.all_node Tryd.func47 (BT.all_node Tryd.func45 trivial trivial) trivial) (BT.all_node Tryd.func49 trivial trivial))) (BT.all_node Tryd.func55 (BT.all_node Tryd.func53 (BT.all_node Tryd.func52 (BT.all_node Tryd.func51 trivial trivial) trivial) (BT.all_node Tryd.func54 trivial trivial)) (BT.all_node Tryd.func57 (BT.all_node Tryd.func56 trivial trivial) (BT.all_node Tryd.func58 trivial trivial)))) (BT.all_node Tryd.func69 (BT.all_node Tryd.func65 (BT.all_node Tryd.func63 (BT.all_node Tryd.func62 (BT.all_node Tryd.func60 trivial trivial) trivial) (BT.all_node Tryd.func64 trivial trivial)) (BT.all_node Tryd.func67 (BT.all_node Tryd.func66 trivial trivial) (BT.all_node Tryd.func68 trivial trivial))) (BT.all_node Tryd.func74 (BT.all_node Tryd.func72 (BT.all_node Tryd.func71 (BT.all_node Tryd.func70 trivial trivial) trivial) (BT.all_node Tryd.func73 trivial trivial)) (BT.all_node Tryd.func76 (BT.all_node Tryd.func75 trivial trivial) (BT.all_node Tryd.func77 trivial trivial))))))
noncomputable def cfg : Cfg := { P := Tryd.prog, ty := fun t => qll.look t, mode := fun f => match qoV.look f with | some m => m | none => .imp, frz := fun f r k => qoZ f r k, mask := fun f r => qii f r qoW, cut := fun f r => qii f r qpx, tup := fun t => qpm.look t, ext := fun f => qal f qjH, known := fun f => (qnX.look f).isSome, dat := fun t => (qpw.look t).isSome, inl := fun f => qes f qnn, lift := fun f r => match qii f r qoX with | some l => l | none => [], ems := fun t => (qpv.look t).isSome, ali := fun t => (qpz.look t).isSome, wrt := fun t => (qpk.look t).isSome, bld := fun t => qpy.look t, olift := fun f => match qnS.look f with | some l => l | none => [], shp := fun f => match qpo.look f with | some l => l | none => [] }
theorem qpR {fs : List Fact} (hfs : xl cfg fs) {f : Nat} {args : List AV} {v : AV} (m d : Nat) (h : (match yF cfg (fun f => qmf.look f) fs m d (.f f) args [] with | some r => some r.1 | none => none) = some v) : EVs (EV cfg) f args = some v := qpt (fun _ _ h => BT.all_look qoK h) hfs m d h
theorem qmh {fs : List Fact} (hfs : xl cfg fs) {f : Nat} {args : List AV} {v : AV} (m d : Nat) (h : (match yF cfg (fun f => qmf.look f) fs m d (.f f) args [] with | some r => gA (r.1.frz r.1.msIds r.2).fg some | none => none) = some v) : EVf (EV cfg) f args = some v := qpu (fun _ _ h => BT.all_look qoK h) hfs m d h
instance inl_ok : InlOk cfg := InlOk.of qnn (fun _ => rfl) trivial
end Go.Proofs.YtkohdkldmpiiiaaDoor
end
section
namespace Go.Av
end Go.Av
namespace Go.Proofs.YtkohdkldmpiiiaaDoor
open Go.Av
theorem qpl : qll.All fun t ti => tiOf Tryd.prog t = some ti := by
 unfold qll
 repeat (first | exact trivial | refine BT.all_node (by show tiOf Tryd.prog _ = _; kernel_rfl) ?_ ?_)
theorem qnT : Tryd.prog.funcs.toList.all (fun fn => !(fn.name == "runtime.NumGoroutine")) = true := by kernel_rfl
theorem qnU : Tryd.prog.follows .mixedOrders = true := by kernel_rfl
end Go.Proofs.YtkohdkldmpiiiaaDoor
end
section
namespace Go.Proofs
open Go.Shelf
def Tryd.lays137_ren : Go.Shelf.Ren := ⟨fun | 137 => 20 | 217 => 39 | 266 => 46 | n => n, fun | 9 => 9 | 5 => 5 | 3 => 3 | n => n, fun | n => n⟩
theorem Tryd.lays137 : Go.Proofs.Lays.n137 Tryd.prog Tryd.lays137_ren := {
 mixed := by kernel_rfl
 f137 := Tryd.func20.trans (congrArg some (by kernel_rfl))
 f217 := Tryd.func39.trans (congrArg some (by kernel_rfl))
 f266 := Tryd.func46.trans (congrArg some (by kernel_rfl))
 t3 := Tryd.underlying3
 a3 := Tryd.isAgg3
 z3 := Tryd.sizeOf3
 v3 := Tryd.zeroValue3
 t5 := Tryd.underlying5
 a5 := Tryd.isAgg5
 z5 := Tryd.sizeOf5
 v5 := Tryd.zeroValue5
 t9 := Tryd.underlying9
 a9 := Tryd.isAgg9
 z9 := Tryd.sizeOf9
 v9 := Tryd.zeroValue9 }
open Go.RowKit in
theorem Tryd.strings_IndexByte (s : ByteArray) (c : Int) (w : World) :
  Calls Tryd.prog 20 #[.string s, .int .u8 c] w fun e w' => e = .returned (.int .i64 (Lib.indexByte s.data.toList c.toNat.toUInt8)) ∧ w' = w := Any.strings_IndexByte Tryd.lays137 s c w
def Tryd.laysPu14_ren : Go.Shelf.Ren := ⟨fun | 14 => 40 | 16 => 47 | 17 => 48 | 19 => 51 | 20 => 52 | 21 => 53 | 22 => 54 | 23 => 55 | 24 => 56 | 25 => 58 | 27 => 60 | 26 => 59 | 28 => 64 | 29 => 66 | 30 => 67 | 31 => 68 | 32 => 69 | 33 => 70 | 35 => 72 | 34 => 71 | 36 => 73 | 37 => 74 | 38 => 75 | 39 => 76 | 40 => 77 | n => n, fun | 9 => 9 | 3 => 3 | 22 => 54 | 24 => 56 | 25 => 57 | 4 => 4 | 34 => 64 | 5 => 5 | 36 => 62 | 37 => 52 | 0 => 0 | 39 => 66 | 21 => 21 | 44 => 71 | 47 => 75 | 50 => 78 | 48 => 76 | 2 => 2 | 52 => 83 | 55 => 86 | 59 => 89 | 60 => 79 | 20 => 20 | 61 => 90 | 65 => 94 | 66 => 95 | 67 => 96 | n => n, fun | 0 => 1 | 1 => 2 | 2 => 3 | 3 => 4 | 4 => 5 | n => n⟩
theorem Tryd.laysPu14 : Go.Proofs.LaysPu.n14 Tryd.prog Tryd.laysPu14_ren := {
 mixed := by kernel_rfl
 f14 := Tryd.func40.trans (congrArg some (by kernel_rfl))
 f16 := Tryd.func47.trans (congrArg some (by kernel_rfl))
 f17 := Tryd.func48.trans (congrArg some (by kernel_rfl))
 f19 := Tryd.func51.trans (congrArg some (by kernel_rfl))
 f20 := Tryd.func52.trans (congrArg some (by kernel_rfl))
 f21 := Tryd.func53.trans (congrArg some (by kernel_rfl))
 f22 := Tryd.func54.trans (congrArg some (by kernel_rfl))
 f23 := Tryd.func55.trans (congrArg some (by kernel_rfl))
 f24 := Tryd.func56.trans (congrArg some (by kernel_rfl))
 f25 := Tryd.func58.trans (congrArg some (by kernel_rfl))
 f26 := Tryd.func59.trans (congrArg some (by kernel_rfl))
 f27 := Tryd.func60.trans (congrArg some (by kernel_rfl))
 f28 := Tryd.func64.trans (congrArg some (by kernel_rfl))
 f29 := Tryd.func66.trans (congrArg some (by kernel_rfl))
 f30 := Tryd.func67.trans (congrArg some (by kernel_rfl))
 f31 := Tryd.func68.trans (congrArg some (by kernel_rfl))
 f32 := Tryd.func69.trans (congrArg some (by kernel_rfl))
 f33 := Tryd.func70.trans (congrArg some (by kernel_rfl))
 f34 := Tryd.func71.trans (congrArg some (by kernel_rfl))
 f35 := Tryd.func72.trans (congrArg some (by kernel_rfl))
 f36 := Tryd.func73.trans (congrArg some (by kernel_rfl))
 f37 := Tryd.func74.trans (congrArg some (by kernel_rfl))
 f38 := Tryd.func75.trans (congrArg some (by kernel_rfl))
 f39 := Tryd.func76.trans (congrArg some (by kernel_rfl))
 f40 := Tryd.func77.trans (congrArg some (by kernel_rfl))
 t0 := Tryd.underlying0
 a0 := Tryd.isAgg0
 z0 := Tryd.sizeOf0
 v0 := Tryd.zeroValue0
 i0 := by kernel_rfl
 t2 := Tryd.underlying2
 a2 := Tryd.isAgg2
 z2 := Tryd.sizeOf2
 v2 := Tryd.zeroValue2
 i2 := by kernel_rfl
 t3 := Tryd.underlying3
 a3 := Tryd.isAgg3
 z3 := Tryd.sizeOf3
 v3 := Tryd.zeroValue3
 i3 := by kernel_rfl
 t4 := Tryd.underlying4
 a4 := Tryd.isAgg4
 z4 := Tryd.sizeOf4
 v4 := Tryd.zeroValue4
 i4 := by kernel_rfl
 t5 := Tryd.underlying5
 a5 := Tryd.isAgg5
 z5 := Tryd.sizeOf5
 v5 := Tryd.zeroValue5
 i5 := by kernel_rfl
 t9 := Tryd.underlying9
 a9 := Tryd.isAgg9
 z9 := Tryd.sizeOf9
 v9 := Tryd.zeroValue9
 i9 := by kernel_rfl
 t20 := Tryd.underlying20
 a20 := Tryd.isAgg20
 z20 := Tryd.sizeOf20
 v20 := Tryd.zeroValue20
 i20 := by kernel_rfl
 t21 := Tryd.underlying21
 a21 := Tryd.isAgg21
 z21 := Tryd.sizeOf21
 v21 := Tryd.zeroValue21
 i21 := by kernel_rfl
 t22 := Tryd.underlying54
 a22 := Tryd.isAgg54
 z22 := Tryd.sizeOf54
 v22 := Tryd.zeroValue54
 i22 := by kernel_rfl
 t24 := Tryd.underlying56
 a24 := Tryd.isAgg56
 z24 := Tryd.sizeOf56
 v24 := Tryd.zeroValue56
 i24 := by kernel_rfl
 t25 := Tryd.underlying57
 a25 := Tryd.isAgg57
 z25 := Tryd.sizeOf57
 v25 := Tryd.zeroValue57
 i25 := by kernel_rfl
 t34 := Tryd.underlying64
 a34 := Tryd.isAgg64
 z34 := Tryd.sizeOf64
 v34 := Tryd.zeroValue64
 i34 := by kernel_rfl
 c34 := by kernel_rfl
 t36 := Tryd.underlying62
 a36 := Tryd.isAgg62
 z36 := Tryd.sizeOf62
 v36 := Tryd.zeroValue62
 i36 := by kernel_rfl
 t37 := Tryd.underlying52
 a37 := Tryd.isAgg52
 z37 := Tryd.sizeOf52
 v37 := Tryd.zeroValue52
 i37 := by kernel_rfl
 t39 := Tryd.underlying66
 a39 := Tryd.isAgg66
 z39 := Tryd.sizeOf66
 v39 := Tryd.zeroValue66
 i39 := by kernel_rfl
 t44 := Tryd.underlying71
 a44 := Tryd.isAgg71
 z44 := Tryd.sizeOf71
 v44 := Tryd.zeroValue71
 i44 := by kernel_rfl
 t47 := Tryd.underlying75
 a47 := Tryd.isAgg75
 z47 := Tryd.sizeOf75
 v47 := Tryd.zeroValue75
 i47 := by kernel_rfl
 t48 := Tryd.underlying76
 a48 := Tryd.isAgg76
 z48 := Tryd.sizeOf76
 v48 := Tryd.zeroValue76
 i48 := by kernel_rfl
 t50 := Tryd.underlying78
 a50 := Tryd.isAgg78
 z50 := Tryd.sizeOf78
 v50 := Tryd.zeroValue78
 i50 := by kernel_rfl
 t52 := Tryd.underlying83
 a52 := Tryd.isAgg83
 z52 := Tryd.sizeOf83
 v52 := Tryd.zeroValue83
 i52 := by kernel_rfl
 t55 := Tryd.underlying86
 a55 := Tryd.isAgg86
 z55 := Tryd.sizeOf86
 v55 := Tryd.zeroValue86
 i55 := by kernel_rfl
 t59 := Tryd.underlying89
 a59 := Tryd.isAgg89
 z59 := Tryd.sizeOf89
 v59 := Tryd.zeroValue89
 i59 := by kernel_rfl
 t60 := Tryd.underlying79
 a60 := Tryd.isAgg79
 z60 := Tryd.sizeOf79
 v60 := Tryd.zeroValue79
 i60 := by kernel_rfl
 t61 := Tryd.underlying90
 a61 := Tryd.isAgg90
 z61 := Tryd.sizeOf90
 t65 := Tryd.underlying94
 a65 := Tryd.isAgg94
 z65 := Tryd.sizeOf94
 v65 := Tryd.zeroValue94
 i65 := by kernel_rfl
 t66 := Tryd.underlying95
 a66 := Tryd.isAgg95
 z66 := Tryd.sizeOf95
 v66 := Tryd.zeroValue95
 i66 := by kernel_rfl
 t67 := Tryd.underlying96
 a67 := Tryd.isAgg96
 z67 := Tryd.sizeOf96
 v67 := Tryd.zeroValue96
 i67 := by kernel_rfl
 g0 := by kernel_rfl
 m0 := by kernel_rfl
 g1 := by kernel_rfl
 m1 := by kernel_rfl
 g2 := by kernel_rfl
 m2 := by kernel_rfl
 g3 := by kernel_rfl
 m3 := by kernel_rfl
 g4 := by kernel_rfl
 m4 := by kernel_rfl }
open Go.RowKit in
theorem Tryd.strconv_ParseUint_10_at64_ok (s : ByteArray) (hmax : s.size ≤ 9223372036854775806) (u : Nat) (h : Lib.parseUintB 64 s.data.toList = .ok u) (w : World) :
  Calls Tryd.prog 40 #[.string s, .int .i64 10, .int .i64 64] w fun e w' => e = .returned (.tuple #[.int .u64 u, .nilIface]) ∧ (w' = w ∨ w' = Lib.bytesWorld w 5 s) := Any.strconv_ParseUint_10_at64_ok Tryd.laysPu14 s hmax u h w
open Go.RowKit in
theorem Tryd.strconv_ParseUint_10_at64_syntax (s : ByteArray) (hlim : s.size ≤ 281474976710656) (h : Lib.parseUintB 64 s.data.toList = Go.Lib.NumEnd.syntax) (ev : Value) (w : World) (hv : w.cell? ⟨1, 0, none⟩ = some ev) (hev : ev = .nilIface ∨ ∃ te pe, ev = .iface te pe) :
  Calls Tryd.prog 40 #[.string s, .int .i64 10, .int .i64 64] w fun e w' => ∃ N, e = .returned (.tuple #[.int .u64 0, .iface 66 (.pointer (some ⟨N, 0, none⟩))]) ∧ w.heap.size ≤ N ∧ w'.heap[N]? = some (.cells #[.string ⟨#[80, 97, 114, 115, 101, 85, 105, 110, 116]⟩, .string s, ev] 71 (0, 0)) ∧ Below w.heap.size w w' := Any.strconv_ParseUint_10_at64_syntax Tryd.laysPu14 s hlim h ev w hv hev
open Go.RowKit in
theorem Tryd.strconv_ParseUint_10_at64_range (s : ByteArray) (hlim : s.size ≤ 281474976710656) (h : Lib.parseUintB 64 s.data.toList = .range) (ev : Value) (w : World) (hv : w.cell? ⟨2, 0, none⟩ = some ev) (hev : ev = .nilIface ∨ ∃ te pe, ev = .iface te pe) :
  Calls Tryd.prog 40 #[.string s, .int .i64 10, .int .i64 64] w fun e w' => ∃ N, e = .returned (.tuple #[.int .u64 18446744073709551615, .iface 66 (.pointer (some ⟨N, 0, none⟩))]) ∧ w.heap.size ≤ N ∧ w'.heap[N]? = some (.cells #[.string ⟨#[80, 97, 114, 115, 101, 85, 105, 110, 116]⟩, .string s, ev] 71 (0, 0)) ∧ Below w.heap.size w w' := Any.strconv_ParseUint_10_at64_range Tryd.laysPu14 s hlim h ev w hv hev
def Tryd.lays144_ren : Go.Shelf.Ren := ⟨fun | 144 => 42 | 143 => 49 | 219 => 57 | 217 => 39 | 225 => 61 | 224 => 62 | 267 => 63 | 266 => 46 | 314 => 65 | n => n, fun | 9 => 9 | 4 => 4 | 3 => 3 | 5 => 5 | 46 => 62 | 146 => 80 | 51 => 79 | n => n, fun | 1 => 0 | n => n⟩
theorem Tryd.lays144 : Go.Proofs.Lays.n144 Tryd.prog Tryd.lays144_ren := {
 mixed := by kernel_rfl
 f143 := Tryd.func49.trans (congrArg some (by kernel_rfl))
 f144 := Tryd.func42.trans (congrArg some (by kernel_rfl))
 f217 := Tryd.func39.trans (congrArg some (by kernel_rfl))
 f219 := Tryd.func57.trans (congrArg some (by kernel_rfl))
 f224 := Tryd.func62.trans (congrArg some (by kernel_rfl))
 f225 := Tryd.func61.trans (congrArg some (by kernel_rfl))
 f266 := Tryd.func46.trans (congrArg some (by kernel_rfl))
 f267 := Tryd.func63.trans (congrArg some (by kernel_rfl))
 f314 := Tryd.func65.trans (congrArg some (by kernel_rfl))
 t3 := Tryd.underlying3
 a3 := Tryd.isAgg3
 z3 := Tryd.sizeOf3
 v3 := Tryd.zeroValue3
 t4 := Tryd.underlying4
 a4 := Tryd.isAgg4
 z4 := Tryd.sizeOf4
 v4 := Tryd.zeroValue4
 t5 := Tryd.underlying5
 a5 := Tryd.isAgg5
 z5 := Tryd.sizeOf5
 v5 := Tryd.zeroValue5
 t9 := Tryd.underlying9
 a9 := Tryd.isAgg9
 z9 := Tryd.sizeOf9
 v9 := Tryd.zeroValue9
 t46 := Tryd.underlying62
 a46 := Tryd.isAgg62
 z46 := Tryd.sizeOf62
 v46 := Tryd.zeroValue62
 t51 := Tryd.underlying79
 a51 := Tryd.isAgg79
 z51 := Tryd.sizeOf79
 v51 := Tryd.zeroValue79
 t146 := Tryd.underlying80
 a146 := Tryd.isAgg80
 z146 := Tryd.sizeOf80
 v146 := Tryd.zeroValue80
 g1 := by kernel_rfl }
open Go.RowKit Go.Lib in
theorem Tryd.strings_Contains (s sub : ByteArray) (m : Int) (w : World) (hs : s.size < 4294967281) (hm : w.cell? ⟨0, 0, none⟩ = some (.int .i64 m)) :
  Calls Tryd.prog 42 #[.string s, .string sub] w fun e w' => e = .returned (.bool (Lib.contains s.data.toList sub.data.toList)) ∧ w' = w := Any.strings_Contains Tryd.lays144 s sub m w hs hm
def Tryd.laysM144_ren : Go.Shelf.Ren := ⟨fun | 144 => 42 | 143 => 49 | 219 => 57 | 217 => 39 | 225 => 61 | 224 => 62 | 267 => 63 | 266 => 46 | 314 => 65 | n => n, fun | 9 => 9 | 4 => 4 | 3 => 3 | 5 => 5 | 46 => 62 | 146 => 80 | 51 => 79 | n => n, fun | 1 => 0 | n => n⟩
theorem Tryd.laysM144 : Go.Proofs.LaysM.n144 Tryd.prog Tryd.laysM144_ren := {
 mixed := by kernel_rfl
 f143 := Tryd.func49.trans (congrArg some (by kernel_rfl))
 f144 := Tryd.func42.trans (congrArg some (by kernel_rfl))
 f217 := Tryd.func39.trans (congrArg some (by kernel_rfl))
 f219 := Tryd.func57.trans (congrArg some (by kernel_rfl))
 f224 := Tryd.func62.trans (congrArg some (by kernel_rfl))
 f225 := Tryd.func61.trans (congrArg some (by kernel_rfl))
 f266 := Tryd.func46.trans (congrArg some (by kernel_rfl))
 f267 := Tryd.func63.trans (congrArg some (by kernel_rfl))
 f314 := Tryd.func65.trans (congrArg some (by kernel_rfl))
 t3 := Tryd.underlying3
 a3 := Tryd.isAgg3
 z3 := Tryd.sizeOf3
 v3 := Tryd.zeroValue3
 t4 := Tryd.underlying4
 a4 := Tryd.isAgg4
 z4 := Tryd.sizeOf4
 v4 := Tryd.zeroValue4
 t5 := Tryd.underlying5
 a5 := Tryd.isAgg5
 z5 := Tryd.sizeOf5
 v5 := Tryd.zeroValue5
 t9 := Tryd.underlying9
 a9 := Tryd.isAgg9
 z9 := Tryd.sizeOf9
 v9 := Tryd.zeroValue9
 t46 := Tryd.underlying62
 a46 := Tryd.isAgg62
 z46 := Tryd.sizeOf62
 v46 := Tryd.zeroValue62
 t51 := Tryd.underlying79
 a51 := Tryd.isAgg79
 z51 := Tryd.sizeOf79
 v51 := Tryd.zeroValue79
 t146 := Tryd.underlying80
 a146 := Tryd.isAgg80
 z146 := Tryd.sizeOf80
 v146 := Tryd.zeroValue80
 g1 := by kernel_rfl
 i3 := by kernel_rfl
 i4 := by kernel_rfl
 i5 := by kernel_rfl
 i9 := by kernel_rfl
 i46 := by kernel_rfl
 i51 := by kernel_rfl
 i146 := by kernel_rfl
 m1 := by kernel_rfl
 s1_3 := fun w h => Go.Proofs.cell_of_shapedOpen_int (zero := #[.int .i64 0]) (t := 3) h (of_decide_eq_true (by kernel_rfl)) (by kernel_rfl) rfl (by kernel_rfl) (by kernel_rfl) Tryd.underlying3 }
end Go.Proofs
end
section
namespace Go.Proofs.YtkohdkldmpiiiaaDoor
open Go.Av Go.RowKit
theorem zm {P : Program} {f : FuncId} {fn : Func} {c : Code} (hf : P.funcs[f]? = some fn) (hn : (fn.name == "runtime.NumGoroutine") = false) (hb : fn.body = some c) {vs : Array Value} {w : World} {Q : Value → World → Prop}
  (h : Calls P f vs w fun e w' => ∃ v, e = .returned v ∧ Q v w') : vr P (callFunc f vs) w Q := by
 unfold vr
 rw [qfN hf hn hb vs w]
 exact callsIn_wide.2 h
theorem qiF {vs : Array Value} (h : 2 = vs.size) : ∃ x y, vs = #[x, y] := by
 obtain ⟨l⟩ := vs
 match l, h with
 | [x, y], _ => exact ⟨x, y, rfl⟩
theorem qjx [Lent] {args : List AV} {H H' : AH} {r : AV} {C : qh} {μ : MMap} {w : World} {vs : Array Value} (hr : z6 args H = some (r, H')) (ha : qz C μ args vs) (hw : Wld C μ H w) :
  vr Tryd.prog (callFunc 20 vs) w (vN C μ H w r H') := by
 unfold z6 at hr
 split at hr
 case h_2 => cases hr
 rename_i s c
 cases hr
 obtain ⟨hl, hv⟩ := ha
 obtain ⟨x, y, rfl⟩ := qiF hl
 have h0 := hv 0 _ _ rfl rfl
 have h1 := hv 1 _ _ rfl rfl
 cases h0
 cases h1
 refine zm Tryd.func20 (by rfl) rfl ((Tryd.strings_IndexByte ⟨s.toArray⟩ c w).mono fun e w' ⟨e1, e2⟩ => ⟨_, e1, ?_⟩)
 subst e2
 exact ⟨C, μ, .int _ _, hw, Ext.refl (qp2 _)⟩
theorem qb7 [Lent] (hm : ∃ m, Lent.l 0 0 = some (.int .i64 m)) {args : List AV} {H H' : AH} {r : AV} {C : qh} {μ : MMap} {w : World} {vs : Array Value} (hr : zl args H = some (r, H')) (ha : qz C μ args vs) (hw : Wld C μ H w) :
  vr Tryd.prog (callFunc 42 vs) w (vN C μ H w r H') := by
 unfold zl at hr
 split at hr
 case h_2 => cases hr
 rename_i s t
 split at hr
 case isFalse => cases hr
 rename_i hlt
 cases hr
 obtain ⟨hl, hv⟩ := ha
 obtain ⟨x, y, rfl⟩ := qiF hl
 have h0 := hv 0 _ _ rfl rfl
 have h1 := hv 1 _ _ rfl rfl
 cases h0
 cases h1
 obtain ⟨m, hm⟩ := hm
 refine zm Tryd.func42 (by rfl) rfl ((Tryd.strings_Contains ⟨s.toArray⟩ ⟨t.toArray⟩ m w (by simpa [ByteArray.size] using hlt) (hw.lnt.1 _ _ _ hm).1).mono fun e w' ⟨e1, e2⟩ => ⟨_, e1, ?_⟩)
 subst e2
 exact ⟨C, μ, .bool _, hw, Ext.refl (qp2 _)⟩
theorem qfZ [Lent] {H : AH} {r : AV} {C : qh} {μ : MMap} {w w' : World} {v : Value} (hw : Wld C μ H w) (hb : Below w.heap.size w w') (hr : Rep C μ r v) : vN C μ H w r H v w' :=
 ⟨C, μ, hr, hw.world hb.size (fun b hlt => hb.block b hlt), ⟨hb.os, hb.tape, hb.output, hb.size, fun _ _ _ h => h, fun _ m _ h => ⟨m, h, .refl m⟩, fun b hlt hl => ⟨hb.block b hlt, hl, rfl⟩, qp2 _⟩⟩
def qiu [Lent] (g : Nat) : Prop := ∃ ev, Lent.l g 0 = some ev ∧ (ev = .nilIface ∨ ∃ te pe, ev = .iface te pe)
theorem qfa [Lent] (hS : qiu 1) (hR : qiu 2) {args : List AV} {H H' : AH} {r : AV} {C : qh} {μ : MMap} {w : World} {vs : Array Value} (hr : zB args H = some (r, H')) (ha : qz C μ args vs) (hw : Wld C μ H w) :
  vr Tryd.prog (callFunc 40 vs) w (vN C μ H w r H') := by
 unfold zB at hr
 split at hr
 case h_2 => cases hr
 rename_i s
 split at hr
 case isFalse => cases hr
 rename_i hlt
 obtain ⟨hl, hv⟩ := ha
 obtain ⟨x, y, z, rfl⟩ : ∃ x y z, vs = #[x, y, z] := by
  obtain ⟨l⟩ := vs
  match l, hl with
  | [x, y, z], _ => exact ⟨x, y, z, rfl⟩
 have h0 := hv 0 _ _ rfl rfl
 have h1 := hv 1 _ _ rfl rfl
 have h2 := hv 2 _ _ rfl rfl
 cases h0
 cases h1
 cases h2
 have hsz : (⟨s.toArray⟩ : ByteArray).size ≤ 281474976710656 := by simpa [ByteArray.size] using hlt
 split at hr
 ·rename_i u hu
  cases hr
  refine zm Tryd.func40 (by rfl) rfl ((Tryd.strconv_ParseUint_10_at64_ok ⟨s.toArray⟩ (by omega) u hu w).mono fun e w' ⟨e1, e2⟩ => ⟨_, e1, ?_⟩)
  have hrep : Rep C μ (.tup [.int .u64 u, .nilI]) (.tuple #[.int .u64 u, .nilIface]) := Rep.tup _ [.int .u64 u, .nilIface] rfl fun i a v ha hv => by
   rcases i with _ | _ | i
   ·simp at ha hv; subst ha; subst hv; exact .int _ _
   ·simp at ha hv; subst ha; subst hv; exact .nilI
   ·simp at ha
  rcases e2 with rfl | rfl
  ·exact ⟨C, μ, hrep, hw, Ext.refl (qp2 _)⟩
  ·exact qfZ hw (Lib.bytesWorld_below _ _ _) hrep
 all_goals
  rename_i hu
  cases hr
  obtain ⟨ev, hS, hS2⟩ := hS
  obtain ⟨er, hR, hR2⟩ := hR
  first
   | refine zm Tryd.func40 (by rfl) rfl ((Tryd.strconv_ParseUint_10_at64_syntax ⟨s.toArray⟩ hsz hu ev w (hw.lnt.1 _ _ _ hS).1 hS2).mono fun e w' ⟨N, e1, _, _, e2⟩ => ⟨_, e1, ?_⟩)
   | refine zm Tryd.func40 (by rfl) rfl ((Tryd.strconv_ParseUint_10_at64_range ⟨s.toArray⟩ hsz hu er w (hw.lnt.1 _ _ _ hR).1 hR2).mono fun e w' ⟨N, e1, _, _, e2⟩ => ⟨_, e1, ?_⟩)
  refine qfZ hw e2 (Rep.tup _ [_, _] rfl fun i a v ha hv => ?_)
  rcases i with _ | _ | i
  ·simp at ha hv; subst ha; subst hv; exact .int _ _
  ·simp at ha hv; subst ha; subst hv; exact .ifc _ _ _ (.junk _)
  ·simp at ha
end Go.Proofs.YtkohdkldmpiiiaaDoor
end
section
namespace Go.Av
abbrev Rz := List (List AV)
abbrev Bz := List UInt8
inductive Tm where
 | mk (k n : Int) (s : List UInt8) (l : List Tm)
 deriving Inhabited
namespace Tm
def str : Tm → List UInt8 | mk _ _ s _ => s
end Tm
mutual
def Tm.cells : Tm → List AV
 | .mk k n s l => [.int .i64 k, .int .i64 n, .str s, .sl (qbD l)]
def qbD : List Tm → List (List AV)
 | [] => []
 | t :: l => t.cells :: qbD l
end
def Tm.av (t : Tm) : AV := .agg t.cells
theorem qhJ : ∀ l : List Tm, qbD l = l.map Tm.cells
 | [] => by rw [qbD]; rfl
 | t :: l => by rw [qbD, qhJ l]; rfl
@[simp] theorem rowsT_length (l : List Tm) : (qbD l).length = l.length := by rw [qhJ]; simp
@[simp] theorem rowsT_nil : qbD [] = [] := by rw [qbD]
mutual
/-- no list is longer than is counted here, no text -/
def Tm.Ok : Tm → Prop
 | .mk _ _ s l => s.length < 1099511627776 ∧ l.length < 1099511627776 ∧ OkL l
def OkL : List Tm → Prop
 | [] => True
 | t :: l => t.Ok ∧ OkL l
end
theorem qlh {l : List Tm} : OkL l ↔ ∀ t ∈ l, t.Ok := by
 induction l with
 | nil => simp [OkL]
 | cons t l ih => simp [OkL, ih]
theorem Tm.Ok.str {k n : Int} {s : List UInt8} {l : List Tm} (h : (Tm.mk k n s l).Ok) : s.length < 1099511627776 := by rw [Tm.Ok] at h; exact h.1
theorem Tm.Ok.len {k n : Int} {s : List UInt8} {l : List Tm} (h : (Tm.mk k n s l).Ok) : l.length < 1099511627776 := by rw [Tm.Ok] at h; exact h.2.1
theorem Tm.Ok.sub {k n : Int} {s : List UInt8} {l : List Tm} (h : (Tm.mk k n s l).Ok) {t : Tm} (ht : t ∈ l) : t.Ok := by rw [Tm.Ok] at h; exact qlh.1 h.2.2 t ht
theorem OkL.get {l : List Tm} (h : OkL l) {t : Tm} (ht : t ∈ l) : t.Ok := qlh.1 h t ht
mutual
def Tm.w : Tm → Nat
 | .mk _ _ s l => 1 + s.length + wL l
def wL : List Tm → Nat
 | [] => 0
 | t :: l => t.w + wL l
end
@[simp] theorem wL_nil : wL [] = 0 := by rw [wL]
@[simp] theorem wL_cons (t : Tm) (l : List Tm) : wL (t :: l) = t.w + wL l := by rw [wL]
@[simp] theorem wL_append (a b : List Tm) : wL (a ++ b) = wL a + wL b := by
 induction a with
 | nil => simp
 | cons t l ih => simp [ih]; omega
end Go.Av
end
section
namespace Go.Proofs.YtkohdkldmpiiiaaDoor
open Go.Av
def C0 (W : World) : qh := fun b o => W.cell? ⟨b, o, none⟩
def M0 : MMap := fun _ => none
structure TermTys (P : Program) (tT tL tI tS : TypeId) : Prop where
 uT : ∃ f0 f1 f2 f3 : Field, P.underlying tT = some (.struct #[f0, f1, f2, f3]) ∧ f0.type = tI ∧ f0.offset = 0 ∧ f1.type = tI ∧ f1.offset = 1 ∧ f2.type = tS ∧ f2.offset = 2 ∧ f3.type = tL ∧ f3.offset = 3
 uL : P.underlying tL = some (.slice tT)
 uI : P.underlying tI = some (.int .i64)
 uS : P.underlying tS = some .string
 cT : P.cellsOf tT = 4
 cL : P.cellsOf tL = 1
 cI : P.cellsOf tI = 1
 cS : P.cellsOf tS = 1
section
variable {H : Type} {enc : TypeId × Value → H} {P : Program} {W : World} {tT tL tI tS : TypeId}
theorem qnw {H : Type} {d : DataW H} {l : List (DataW H)} (h : d ∈ l) : Rows.uptoBulk d ≤ Rows.uptoBulkAll l := by
 induction l with
 | nil => cases h
 | cons x r ih =>
  simp only [Rows.uptoBulkAll]
  cases qqn.1 h with
  | inl e => subst e; omega
  | inr e => have := ih e; omega
end
end Go.Proofs.YtkohdkldmpiiiaaDoor
end
section
namespace Go.Proofs.YtkohdkldmpiiiaaDoor
open Go.Av Go.ChangeShapes Go.WideShapes Go.ChangeAt Go.RowKit
theorem qnQ : ownKnob Tryd.prog.godebug = none := by kernel_rfl
section
variable {H : Type} {enc : TypeId × Value → H} {P : Program} {W W' : World}
theorem qm6 {f : Func} {s : ChangeSpec} {apart fresh handsOn again : Bool} {args : Array Value} {v : Value} {ds gs : List (DataW H)} {before pa pv : List MemPlace}
  (hW : DataW.Whole enc P f.params.toList s.vars apart W args.toList ds gs before)
  (hres : ∀ (b : Nat) (sp : Nat → Bool) (hd : Bool), DataW.TrodAll enc P W' b sp hd f.resultTypes.toList (v.resultList f.resultTypes.size) (s.fn H (ds ++ gs)).results [])
  (hargs : ∀ sp : Nat → Bool, (∀ p ∈ before, sp p.block = true) → DataW.TrodAll enc P W' 0 sp true f.params.toList args.toList (s.fn H (ds ++ gs)).args pa)
  (hvars : ∀ sp : Nat → Bool, (∀ p ∈ before, sp p.block = true) → DataW.TrodVars enc P W' sp s.vars (s.fn H (ds ++ gs)).vars pv)
  (hps : before = pa ++ pv) (hk : W.keptBut W' (· ∈ before)) (hfz : ∀ b o, b < W.heap.size → W'.frozen? ⟨b, o, none⟩ = W.frozen? ⟨b, o, none⟩)
  (hok : ∀ (j : Nat) (t : TypeId) (r : Value), f.resultTypes[j]? = some t → (v.resultList f.resultTypes.size)[j]? = some r → Value.okWide P W' .any 0 t r) :
  s.post enc P f apart fresh handsOn again W args v W' := by
 have hlt := hW.lt
 have hold : ∀ p ∈ before, (fun b => decide (b < W.heap.size)) p.block = true := fun p hp => by simpa using hlt p hp
 refine ⟨ds, gs, before, [], pa, pv, hW, hres _ _ _, hargs _ hold, hvars _ hold, World.keptBut_mono (fun p hp => ⟨hp, ?_⟩) hk, fun _ => ?_⟩
 ·rw [hps, qql] at hp
  exact Or.inr hp
 ·obtain ⟨_, _, _, _, _, hz, hn⟩ := hW
  refine ⟨hok, _, _, ([] ++ pa) ++ pv, ⟨[] ++ pa, pv, trodAll_append (hargs _ (fun _ _ => rfl)) (hres _ _ _), hvars _ (fun _ _ => rfl), rfl, ?_, ?_⟩, ?_⟩
  ·intro b off hp
   have hp' : MemPlace.cell b off ∈ before := by rw [hps]; simpa using hp
   rw [hfz b off (hlt _ hp')]
   exact hz b off hp'
  ·intro ha
   have := hn ha
   rw [hps] at this
   simpa using this
  ·intro p hp _
   rw [hps]
   simpa using hp
theorem qjf (h : ∀ b, b < W.heap.size → W'.heap[b]? = W.heap[b]?) (ho : W'.os = W.os) (hu : W'.output = W.output) (may : MemPlace → Prop) : W.keptBut W' may := by
 refine ⟨ho, hu, fun i hi => ?_⟩
 rw [h i hi]
 cases W.heap[i]? with
 | none => rfl
 | some o => cases o <;> simp
theorem qiT (h : ∀ b, b < W.heap.size → W'.heap[b]? = W.heap[b]?) {p : MemPlace} (hp : p.block < W.heap.size) : W.sameAt W' p := by
 cases p with
 | cell b o => simp only [World.sameAt, World.cell?]; rw [h b hp]
 | map b => exact h b hp
theorem qhm (h : ∀ b, b < W.heap.size → W'.heap[b]? = W.heap[b]?) (b o : Nat) (hb : b < W.heap.size) : W'.frozen? ⟨b, o, none⟩ = W.frozen? ⟨b, o, none⟩ := by
 simp only [World.frozen?]; rw [h b hb]
structure Opened (enc : TypeId × Value → H) (P : Program) (W : World) (t : TypeId) (v : Value) (d : DataW H) (ps : List MemPlace) (a : AV) : Prop where
 rep : Rep (C0 W) M0 a v
 back : ∀ (W' : World) (sp : Nat → Bool), (∀ p ∈ ps, W.sameAt W' p) → (∀ p ∈ ps, sp p.block = true) → DataW.Trod enc P W' 0 sp true t v d ps
theorem qnR {tS : TypeId} (hu : P.underlying tS = some .string) {r : Reach} {b0 : Nat} {v : Value} {d : DataW H} {ps : List MemPlace} (hval : Value.okWide P W r b0 tS v) (hd : DataW.Trod enc P W 0 (fun _ => true) true tS v d ps) :
  ∃ s : List UInt8, Opened enc P W tS v d ps (.str s) ∧ s.length ≤ Rows.uptoBulk d := by
 obtain ⟨s, rfl⟩ := okWide_string hu hval
 obtain ⟨n, hn⟩ := hd
 obtain ⟨s', e0, ex, w0⟩ := DataW.trod_string hu hn
 have e0 : [Value.string s] = [Value.string s'] := by simpa [Value.cells] using e0
 cases e0
 cases ex
 refine ⟨s.data.toList, ⟨by simpa using Rep.str (C := C0 W) (μ := M0) s.data.toList, fun W' sp _ _ => ⟨n, ?_⟩⟩, by simp [Rows.uptoBulk]⟩
 cases n with
 | zero => simp [DataW.trod] at hn
 | succ q => simp [DataW.trod, hu, w0, Value.cells]
end
theorem qo2 {H : Type} {l : List (DataW H)} (hk : Rows.uptoSmall H l = true) {d : DataW H} (hd : d ∈ l) : Rows.uptoBulk d < 1099511627776 := by
 have h : Rows.uptoBulkAll l ≤ 1048576 := of_decide_eq_true hk
 have := qnw hd
 omega
theorem qoQ {C : qh} {a : AV} {x : Value} (h1 : Rep C M0 a x) : qz C M0 [a] #[x] := ⟨rfl, fun i c v hc hv => by
 match i, hc, hv with
 | 0, hc, hv => simp at hc hv; subst hc hv; exact h1
 | (i + 1), hc, hv => simp at hc⟩
structure VarsW (W : World) : Prop where
 m : ∃ m, W.cell? ⟨0, 0, none⟩ = some (.int .i64 m)
 s : ∃ ev, W.cell? ⟨1, 0, none⟩ = some ev ∧ (ev = .nilIface ∨ ∃ te pe, ev = .iface te pe)
 r : ∃ ev, W.cell? ⟨2, 0, none⟩ = some ev ∧ (ev = .nilIface ∨ ∃ te pe, ev = .iface te pe)
theorem qm8 (f : FuncId) (fn : Func) (h : Tryd.prog.funcs[f]? = some fn) : (fn.name == "runtime.NumGoroutine") = false := by
 have h1 := List.all_eq_true.1 qnT fn (by
  rw [← Array.getElem?_toList] at h
  exact qqj h)
 simpa using h1
theorem qo1 [Lent] (hm : ∃ m, Lent.l 0 0 = some (.int .i64 m)) (hS : qiu 1) (hR : qiu 2) : CfgOk cfg where
 ty := ⟨fun t ti h => BT.all_look qpl h⟩
 mixed := qnU
 named := fun f fn _ h => qm8 f fn h
 ext := fun f s h args H r H' hr C μ w vs ha hw => by
  have h : qal f qjH = some s := h
  unfold qjH at h
  rw [qal] at h
  split at h
  ·rename_i e
   have e := qpY e
   subst e
   cases h
   first | exact qjx hr ha hw | exact qb7 hm hr ha hw | exact qfa hS hR hr ha hw
  ·rw [qal] at h
   split at h
   ·rename_i e
    have e := qpY e
    subst e
    cases h
    first | exact qjx hr ha hw | exact qb7 hm hr ha hw | exact qfa hS hR hr ha hw
   ·rw [qal] at h
    split at h
    ·rename_i e
     have e := qpY e
     subst e
     cases h
     first | exact qjx hr ha hw | exact qb7 hm hr ha hw | exact qfa hS hR hr ha hw
    ·rw [qmj, qal] at h
     cases h
@[instance_reducible] def zU (W : World) : Lent := ⟨fun b o => if (b = 0 ∨ b = 1 ∨ b = 2) ∧ o = 0 then W.cell? ⟨b, o, none⟩ else none, False, fun _ => True, fun _ => none⟩
theorem wldU (W : World) : @Wld (zU W) (C0 W) M0 [] W :=
 by
 letI := zU W
 exact ⟨fun _ _ _ h => h, fun id m h => (by cases h), fun id h => (by simp at h), fun id b h => (by simp at h), fun id d sz rs h => (by simp at h), fun i i' b b' m m' h => (by simp at h), ze.nil, by
  refine ⟨fun b o v h => ?_, fun h => h.elim, fun _ _ => trivial⟩
  have h : (if (b = 0 ∨ b = 1 ∨ b = 2) ∧ o = 0 then W.cell? ⟨b, o, none⟩ else none) = some v := h
  split at h
  ·exact ⟨h, fun _ h => (nomatch h)⟩
  ·cases h⟩
theorem qo0 {W : World} (h : VarsW W) : @CfgOk (zU W) cfg := by
 letI := zU W
 have hl : ∀ b, (b = 0 ∨ b = 1 ∨ b = 2) → (zU W).l b 0 = W.cell? ⟨b, 0, none⟩ := fun b hb => if_pos ⟨hb, rfl⟩
 refine qo1 ?_ ?_ ?_
 ·obtain ⟨m, hm⟩ := h.m
  exact ⟨m, (hl _ (.inl rfl)).trans hm⟩
 ·obtain ⟨ev, h1, h2⟩ := h.s
  exact ⟨ev, (hl _ (.inr (.inl rfl))).trans h1, h2⟩
 ·obtain ⟨ev, h1, h2⟩ := h.r
  exact ⟨ev, (hl _ (.inr (.inr rfl))).trans h1, h2⟩
theorem qoG (L : Lent) (C : qh) (hL : ∀ b, L.nw b) : @LC L C = C := by
 funext b o
 unfold LC
 rw [if_pos (hL b)]
theorem qm3 {L : Lent} [L' : Lent] {C : qh} {μ : MMap} {a : AV} {v : Value} (e : @LC L' C = @LC L C) (h : @Rep L C μ a v) : @Rep L' C μ a v := by
 induction h with
 | int k n => exact .int k n
 | bool b => exact .bool b
 | str s => exact .str s
 | agg cs vs hl _ ih => exact .agg cs vs hl ih
 | tup cs vs hl _ ih => exact .tup cs vs hl ih
 | nilS => exact .nilS
 | slNil => exact .slNil
 | em a cap => exact .em a cap
 | sl rows a cap sz vals h1 h2 h3 _ h5 h6 h7 ih => exact .sl rows a cap sz vals h1 h2 h3 ih h5 h6 h7
 | ms id off len cap a m hm hl ha => exact .ms id off len cap a m hm hl ha
 | msN id off => exact .msN id off
 | nilP => exact .nilP
 | ptr id row off m hm => exact .ptr id row off m hm
 | cptr cells off b o vals hc _ ih => exact .cptr cells off b o vals hc ih
 | fn f first caps vf vc h1 h2 _ _ i1 i2 => exact .fn f first caps vf vc h1 h2 i1 i2
 | yld id m hm => exact .yld id m hm
 | nilF => exact .nilF
 | nilM => exact .nilM
 | mp id m hm => exact .mp id m hm
 | nilI => exact .nilI
 | ifc t a v _ ih => exact .ifc t a v ih
 | lsl rows v h => exact .lsl rows v (by rw [e]; exact h)
 | lpt cells off b o vals hc hr => exact .lpt cells off b o vals (by rw [e]; exact hc) (by rw [e]; exact hr)
 | rsl id rows v D hD h => exact .rsl id rows v D hD h
 | rpt id cells off b o vals m hm hc hr => exact .rpt id cells off b o vals m hm hc hr
 | alt l i a v ha _ ih => exact .alt l i a v ha ih
 | wr n a ad c hn _ ih => exact .wr n a ad c hn ih
 | junk v => exact .junk v
theorem qm2 {W : World} {C : qh} {μ : MMap} {a : AV} {v : Value} (h : Rep C μ a v) : @Rep (zU W) C μ a v :=
 @qm3 _ (zU W) _ _ _ _ (Eq.trans (qoG (zU W) C fun _ => trivial) (Eq.symm (qoG instLent C fun _ => trivial))) h
theorem qn2 (W : World) {C : qh} {μ : MMap} {al : List AV} {vs : Array Value} (h : qz C μ al vs) : @qz (zU W) C μ al vs := ⟨h.1, fun i a v h1 h2 => qm2 (h.2 i a v h1 h2)⟩
theorem qlO {f : FuncId} {args : List AV} {vs : Array Value} {W : World} (hx : cfg.ext f = none) (hv : VarsW W) (he : EVs (EV cfg) f args = some (.bool true)) (ha : @qz (zU W) (C0 W) M0 args vs) :
  Calls Tryd.prog f vs W fun e W' => e = .returned (.bool true) ∧ (∀ b, b < W.heap.size → W'.heap[b]? = W.heap[b]?) ∧ W.heap.size ≤ W'.heap.size ∧ W'.os = W.os ∧ W'.output = W.output := by
 letI := zU W
 unfold EVs at he
 obtain ⟨q, h1, h2⟩ := qpZ.1 he
 have := qor (qo0 hv) hx (r := q.1) (H' := q.2) h1 ha (wldU W)
 refine this.mono fun e W' ⟨v, hv, C', μ', p1, p2, p3⟩ => ?_
 rw [h2] at p1
 cases p1
 refine ⟨hv, fun b hb => (p3.fr b hb xP).1, p3.size, p3.os, p3.output⟩
theorem qlg : "*" ++ "errors.errorString" = "*errors.errorString" := by decide
theorem qnr (u : TypeId) (h : Tryd.prog.typeName? 3 u = some "*errors.errorString") : u = 76 :=
 typeName_ptr_named (nm := "errors.errorString") (by rw [qlg]; kernel_rfl) (by kernel_rfl) (by decide) u (by rw [qlg]; exact h)
def qge : List (String × DataW Unit) := [("math/bits.deBruijn32tab", Rows.laid_math_bits_deBruijn32tab), ("math/bits.deBruijn64tab", Rows.laid_math_bits_deBruijn64tab), ("internal/strconv.uint64pow10", Rows.laid_internal_strconv_uint64pow10), ("strconv.ErrRange", Rows.laid_strconv_ErrRange), ("strconv.ErrSyntax", Rows.laid_strconv_ErrSyntax)]
theorem qpN {W : World} (hsh : W.ShapedOpen Tryd.prog) (h : laidMetH Tryd.prog qge W) : VarsW W := by
 rw [MakeChecks.laidMetH_plain _ _ _ (by kernel_rfl)] at h
 have h3 := h.tail.tail.tail
 have g3 : Tryd.prog.globalNamed "strconv.ErrRange" = some 2 := by kernel_rfl
 have g2 : Tryd.prog.globalNamed "strconv.ErrSyntax" = some 1 := by kernel_rfl
 have t3 : (Tryd.prog.globals[2]?).map (·.type) = some 56 := by kernel_rfl
 have t2 : (Tryd.prog.globals[1]?).map (·.type) = some 56 := by kernel_rfl
 have c1 : Tryd.prog.cellsOf 78 = 1 := by kernel_rfl
 have c2 : Tryd.prog.cellsOf 9 = 1 := by kernel_rfl
 obtain ⟨a, sa, va, _⟩ := laid_sentinel h3 g3 t3 Tryd.underlying56 qnr Tryd.underlying76 Tryd.underlying78 rfl rfl Tryd.underlying9 c1 c2
 obtain ⟨b, sb, vb, _⟩ := laid_sentinel h3.tail g2 t2 Tryd.underlying56 qnr Tryd.underlying76 Tryd.underlying78 rfl rfl Tryd.underlying9 c1 c2
 exact ⟨Tryd.laysM144.s1_3 W hsh, ⟨_, by simpa using World.var?_cell g2 vb 0, .inr ⟨_, _, rfl⟩⟩, ⟨_, by simpa using World.var?_cell g3 va 0, .inr ⟨_, _, rfl⟩⟩⟩
theorem metU (os : Os) (args : Array Value) : laidMetH Tryd.prog qge ((World.doorLaid Tryd.prog 400 os).forCall (fun _ _ => 0) ⟨#[], args, []⟩).memory :=
 laidMetH_of_parts3 (fuel := 8) (laidMet_of_run' 8 (by kernel_rfl) (by kernel_rfl)) (by kernel_rfl) (by kernel_rfl)
theorem qke (c : Int) {P : AV → Prop} (h : Gets (bif decide (c ≥ 48) then some (.bool (decide (c ≤ 57))) else some (.bool false)) P) : Gets (EVs (EV cfg) 21 [.int .u8 c]) P :=
  gE (fun _ => funS rfl rfl Tryd.func21 rfl) (by kernel_rfl) h
theorem qkd (c : Int) {P : AV → Prop} (h : Gets (bif decide (c ≥ 97) then some (.bool (decide (c ≤ 122))) else some (.bool false)) P) : Gets (EVs (EV cfg) 29 [.int .u8 c]) P :=
  gE (fun _ => funS rfl rfl Tryd.func29 rfl) (by kernel_rfl) h
theorem qmJ (c : Int) {P : AV → Prop} (h : Gets (bif decide (c ≥ 65) then bif decide (c ≤ 90) then some (.bool true) else some (.bool (c == 95)) else some (.bool (c == 95))) P) : Gets (EVs (EV cfg) 25 [.int .u8 c]) P :=
  gE (fun _ => funS rfl rfl Tryd.func25 rfl) (by kernel_rfl) h
theorem qiL (c : Int) {P : AV → Prop} (h : Gets (kOpt (EVs (EV cfg) 21 [AV.int .u8 c]) fun v => qJ v fun b => bif b then some (.bool true) else kOpt (EVs (EV cfg) 29 [AV.int .u8 c]) fun v => qJ v fun b => bif b then some (.bool true) else kOpt (EVs (EV cfg) 25 [AV.int .u8 c]) fun v => qJ v fun b => bif b then some (.bool true) else some (.bool (c == 64))) P) : Gets (EVs (EV cfg) 28 [.int .u8 c]) P :=
  gE (fun _ => funS rfl rfl Tryd.func28 rfl) (by kernel_rfl) h
theorem qkf (c : Int) {P : AV → Prop} (h : Gets (bif c == 9 then some (.bool true) else bif c == 10 then some (.bool true) else bif c == 13 then some (.bool true) else some (.bool (c == 32))) P) : Gets (EVs (EV cfg) 19 [.int .u8 c]) P :=
  gE (fun _ => funS rfl rfl Tryd.func19 rfl) (by kernel_rfl) h
theorem qlo (w : Bz) {P : AV → Prop} (h : Gets (bif ! w == [] then kOpt (bif qqk (1 + qp4 w) 9223372036854775807 then some (.str ((32 : UInt8) :: w)) else none) fun v => kStr v fun s => kOpt (bif qqk (qp4 s + 1) 9223372036854775807 then some (.str (qqr s [(32 : UInt8)])) else none) fun v => kStr v fun s => kOpt (EVs (EV cfg) 42 [AV.str [(32 : UInt8), (97 : UInt8), (102 : UInt8), (116 : UInt8), (101 : UInt8), (114 : UInt8), (32 : UInt8), (97 : UInt8), (110 : UInt8), (100 : UInt8), (32 : UInt8), (97 : UInt8), (110 : UInt8), (100 : UInt8), (97 : UInt8), (108 : UInt8), (115 : UInt8), (111 : UInt8), (32 : UInt8), (98 : UInt8), (101 : UInt8), (103 : UInt8), (105 : UInt8), (110 : UInt8), (32 : UInt8), (99 : UInt8), (97 : UInt8), (115 : UInt8), (101 : UInt8), (32 : UInt8), (99 : UInt8), (97 : UInt8), (116 : UInt8), (99 : UInt8), (104 : UInt8), (32 : UInt8), (100 : UInt8), (105 : UInt8), (118 : UInt8), (32 : UInt8), (101 : UInt8), (110 : UInt8), (100 : UInt8), (32 : UInt8), (102 : UInt8), (117 : UInt8), (110 : UInt8), (32 : UInt8), (110 : UInt8), (111 : UInt8), (116 : UInt8), (32 : UInt8), (111 : UInt8), (102 : UInt8), (32 : UInt8), (111 : UInt8), (114 : UInt8), (32 : UInt8), (111 : UInt8), (114 : UInt8), (101 : UInt8), (108 : UInt8), (115 : UInt8), (101 : UInt8), (32 : UInt8), (114 : UInt8), (101 : UInt8), (99 : UInt8), (101 : UInt8), (105 : UInt8), (118 : UInt8), (101 : UInt8), (32 : UInt8), (114 : UInt8), (101 : UInt8), (109 : UInt8), (32 : UInt8), (116 : UInt8), (114 : UInt8), (121 : UInt8), (32 : UInt8), (119 : UInt8), (104 : UInt8), (101 : UInt8), (110 : UInt8), (32 : UInt8)], .str s]) fun v => qJ v fun b => some (.bool b) else some (.bool false)) P) : Gets (EVs (EV cfg) 30 [.str w]) P :=
  gE (fun _ => funS rfl rfl Tryd.func30 rfl) (by kernel_rfl) h
theorem qmI (x y : Bz) {P : AV → Prop} (h : Gets (kOpt (EVs (EV cfg) 50 [.str x, .str y]) fun v => qJ v fun b => some (.bool b)) P) : Gets (EVs (EV cfg) 44 [.str x, .str y]) P :=
  gE (fun _ => funS rfl rfl Tryd.func44 rfl) (by kernel_rfl) h
theorem qlp (x y : Bz) {P : AV → Prop} (h : Gets (bif decide ((x.length : Int) ≥ (y.length : Int)) then bif qn 0 (y.length : Int) && qn (y.length : Int) (x.length : Int) then some (.bool (qqf (qp9 (y.length : Int) - 0) x == y)) else none else some (.bool false)) P) : Gets (EVs (EV cfg) 50 [.str x, .str y]) P :=
  gE (fun _ => funS rfl rfl Tryd.func50 rfl) (by kernel_rfl) h
noncomputable def qo8 : Den := evC cfg (EV cfg) 8 none 1 (sub (qE Tryd.f8) [0, 0])
noncomputable def qpc : Ex × List AV × AH → Option (AV × AH) := kAft (Cfg.keepOut cfg 8 0) (kRun cfg (EV cfg) (kfN cfg 6) 8 none 1 (xW cfg 1 (Cfg.lift cfg 8 0) Tryd.f8.results.toList) ([.block 0]))
noncomputable def qo4 : List AV × AH → Option (AV × AH) := fun p => kOpt (LOOP 1 (some [0]) ([]) qo8 p) qpc
noncomputable def qoj : Den := evC cfg (EV cfg) 27 none 1 (sub (qE Tryd.f27) [1, 1, 0, 0, 0])
noncomputable def qou : Ex × List AV × AH → Option (AV × AH) := kAft (Cfg.keepOut cfg 27 (qp (sub (qE Tryd.f27) [1, 1, 0, 0, 0]))) (zj 0 (kSeq (fun (fr : List AV) (H : AH) => zi (Cfg.cut cfg 27 (qp (sub (qE Tryd.f27) [1, 1, 1]))) fr H fun (fr : List AV) (H : AH) => vm cfg (EV cfg) (kfN cfg 6) 27 none 1 (sub (qE Tryd.f27) [1, 1, 1]) fr H (xW cfg 1 (Cfg.lift cfg 27 0) (Array.toList (Func.results Tryd.f27)))) (xW cfg 1 (Cfg.lift cfg 27 0) (Array.toList (Func.results Tryd.f27)))))
noncomputable def qjU : List AV × AH → Option (AV × AH) := fun (p : List AV × AH) => kOpt (LOOP 1 (some [0, 1, 5]) [] qoj p) qou
noncomputable def qoi : Den := evC cfg (EV cfg) 31 none 1 (sub (qE Tryd.f31) [1, 1, 0, 1, 0, 0])
noncomputable def qot : Ex × List AV × AH → Option (AV × AH) := kAft (Cfg.keepOut cfg 31 (qp (sub (qE Tryd.f31) [1, 1, 0, 1, 0, 0]))) (zj 0 (kSeq (fun (fr : List AV) (H : AH) => zi (Cfg.cut cfg 31 (qp (sub (qE Tryd.f31) [1, 1, 1]))) fr H fun (fr : List AV) (H : AH) => vm cfg (EV cfg) (kfN cfg 6) 31 none 1 (sub (qE Tryd.f31) [1, 1, 1]) fr H (xW cfg 1 (Cfg.lift cfg 31 0) (Array.toList (Func.results Tryd.f31)))) (xW cfg 1 (Cfg.lift cfg 31 0) (Array.toList (Func.results Tryd.f31)))))
noncomputable def qob : List AV × AH → Option (AV × AH) := fun (p : List AV × AH) => kOpt (LOOP 1 (some [0, 2, 3, 15, 16, 17]) [] qoi p) qot
noncomputable abbrev qaZ (c0_0 : Bz) (c0_1 c0_2 : Int) : Option (AV × AH) := qo4  (((fx 59 [(0, .ptr 0 0 0)]) : List AV), ([.rows false 3 [[.str c0_0, .int .i64 c0_1, .int .i64 c0_2]]] : AH))
noncomputable abbrev qcD (p : Int) (c0_0 : Bz) (c0_1 c0_2 : Int) : Option (AV × AH) := qjU  (((fx 50 [(0, .ptr 0 0 0), (1, .fn (Fn.func 21) [] []), (5, .int .i64 p)]) : List AV), ([.rows false 3 [[.str c0_0, .int .i64 c0_1, .int .i64 c0_2]]] : AH))
noncomputable abbrev qbu (p : Int) (c0_0 : Bz) (c0_1 c0_2 : Int) : Option (AV × AH) := qjU  (((fx 50 [(0, .ptr 0 0 0), (1, .fn (Fn.func 28) [] []), (5, .int .i64 p)]) : List AV), ([.rows false 3 [[.str c0_0, .int .i64 c0_1, .int .i64 c0_2]]] : AH))
noncomputable abbrev qcC (s : Bz) (p : Int) (rows : Rz) (v17 : Int) (c0_0 : Bz) (c0_1 c0_2 c1_0 c1_1 c1_2 : Int) (c1_3 : Bz) : Option (AV × AH) := qob  (((fx 66 [(0, .ptr 0 0 0), (2, .ptr 1 0 0), (3, .str (qqf (qp4 s - qp9 p) (qqq (qp9 p) s))), (15, .sl rows), (16, .int .i64 (rows.length : Int)), (17, .int .i64 v17)]) : List AV), ([.rows false 3 [[.str c0_0, .int .i64 c0_1, .int .i64 c0_2]], .rows false 4 [[.int .i64 c1_0, .int .i64 c1_1, .int .i64 c1_2, .str c1_3]]] : AH))
theorem qfJ (s : Bz) (p e : Int) {P : AV × AH → Prop} (h : Gets (bif decide (p ≥ (s.length : Int)) then some (AV.tup [AV.int .u8 0, .bool false], [.rows false 3 [[.str s, .int .i64 p, .int .i64 e]]]) else bif qn 0 p then kOpt (qp3 s (p.toNat)) fun b => some (AV.tup [AV.int .u8 (↑ (UInt8.toNat b) : Int), .bool true], [.rows false 3 [[.str s, .int .i64 p, .int .i64 e]]]) else none) P) : Gets (EVj (EV cfg) 18 1 [.ptr 0 0 0] ([ABlk.rows false (3 : Nat) [[AV.str s, AV.int IntKind.i64 p, AV.int IntKind.i64 e]]] : AH)) P :=
  gE (fun _ => funJ rfl rfl Tryd.func18 rfl) (by kernel_rfl) h
theorem qls (s : Bz) (p e : Int) {P : AV × AH → Prop} (h : Gets (qaZ s p e) P) : Gets (EVj (EV cfg) 8 1 [.ptr 0 0 0] ([ABlk.rows false (3 : Nat) [[AV.str s, AV.int IntKind.i64 p, AV.int IntKind.i64 e]]] : AH)) P :=
  gE (fun _ => funJ rfl rfl Tryd.func8 rfl) (by kernel_rfl) h
theorem qlw (s : Bz) (p e : Int) {P : AV × AH → Prop} (h : Gets (qcD p s p e) P) : Gets (EVj (EV cfg) 27 1 [.ptr 0 0 0, .fn (Fn.func 21) [] []] ([ABlk.rows false (3 : Nat) [[AV.str s, AV.int IntKind.i64 p, AV.int IntKind.i64 e]]] : AH)) P :=
  gE (fun _ => funJ rfl rfl Tryd.func27 rfl) (by kernel_rfl) h
theorem qlv (s : Bz) (p e : Int) {P : AV × AH → Prop} (h : Gets (qbu p s p e) P) : Gets (EVj (EV cfg) 27 1 [.ptr 0 0 0, .fn (Fn.func 28) [] []] ([ABlk.rows false (3 : Nat) [[AV.str s, AV.int IntKind.i64 p, AV.int IntKind.i64 e]]] : AH)) P :=
  gE (fun _ => funJ rfl rfl Tryd.func27 rfl) (by kernel_rfl) h
theorem qkl (s : Bz) (p e k : Int) (w : Bz) {P : AV × AH → Prop} (h : Gets (bif decide ((w.length : Int) > 64) then some (.agg [.int .i64 k, .int .i64 0, .int .i64 0, .str w], [.rows false 3 [[.str s, .int .i64 p, .int .i64 (343 : Int)]]]) else some (.agg [.int .i64 k, .int .i64 0, .int .i64 0, .str w], [.rows false 3 [[.str s, .int .i64 p, .int .i64 e]]])) P) : Gets (EVj (EV cfg) 26 1 [.ptr 0 0 0, .int .i64 k, .str w] ([ABlk.rows false (3 : Nat) [[AV.str s, AV.int IntKind.i64 p, AV.int IntKind.i64 e]]] : AH)) P :=
  gE (fun _ => funJ rfl rfl Tryd.func26 rfl) (by kernel_rfl) h
theorem qlu (s : Bz) (p e : Int) {P : AV × AH → Prop} (h : Gets (bif qn 0 p && qn p (s.length : Int) then kOpt (EVf (EV cfg) 43 []) fun v => kSl v fun rows => qcC s p rows 0 s p e (0 : Int) 0 0 [] else none) P) : Gets (EVj (EV cfg) 31 1 [.ptr 0 0 0] ([ABlk.rows false (3 : Nat) [[AV.str s, AV.int IntKind.i64 p, AV.int IntKind.i64 e]]] : AH)) P :=
  gE (fun _ => funJ rfl rfl Tryd.func31 rfl) (by kernel_rfl) h
noncomputable abbrev zb3 (s : Bz) (n n_1 : Int) : Option (AV × AH) := kOpt (EVs (EV cfg) 20 [.str (qqf (qp4 s - n.toNat) (qqq (n.toNat) s)), .int .u8 10]) fun v => kInt .i64 v fun n_3 => bif decide (n_3 < 0) then qaZ s (IntKind.wrap .i64 (n + IntKind.wrap .i64 ((s.length : Int) - n))) n_1 else qaZ s (IntKind.wrap .i64 (n + n_3)) n_1
noncomputable abbrev zb2 (n : Int) (s : Bz) (n_1 : Int) : Option (AV × AH) := bif qn 0 n && qn n (s.length : Int) then zb3 s n n_1 else none
noncomputable abbrev zb1 (n_2 n : Int) (s : Bz) (n_1 : Int) : Option (AV × AH) := bif n_2 == 37 then zb2 n s n_1 else some (AV.tup [], [.rows false 3 [[.str s, .int .i64 n, .int .i64 n_1]]])
noncomputable abbrev zb0 (b : Bool) (n_2 n : Int) (s : Bz) (n_1 : Int) : Option (AV × AH) := bif b then zb1 n_2 n s n_1 else some (AV.tup [], [.rows false 3 [[.str s, .int .i64 n, .int .i64 n_1]]])
theorem qiB (c0_0 : Bz) (c0_1 c0_2 : Int) {P : AV × AH → Prop} (h : Gets (kOpt (EVj (EV cfg) 18 1 [.ptr 0 0 0] [.rows false 3 [[.str c0_0, .int .i64 c0_1, .int .i64 c0_2]]]) fun q => qS q.2 fun b bs => qP b fun d' n rs => bif beqB false d' && qp6 n 3 then vj rs fun row rest => vC rest (vD bs (qi row fun c cs => kStr c fun s => qi cs fun c cs => kInt .i64 c fun n => qi cs fun c cs => kInt .i64 c fun n_1 => kNil cs (kTup q.1 fun cs => qi cs fun c cs => kInt .u8 c fun n_2 => qi cs fun c cs => qJ c fun b => kNil cs (bif b then kOpt (EVs (EV cfg) 19 [AV.int .u8 n_2]) fun v => qJ v fun b_1 => bif b_1 then qaZ s (IntKind.wrap .i64 (n + 1)) n_1 else zb0 b n_2 n s n_1 else zb0 b n_2 n s n_1)))) else none) P) : Gets (qaZ c0_0 c0_1 c0_2) P :=
  gE (fun _ => vt (cfg := cfg) (f := 8) (rd := none) (bs := 1)) (by kernel_rfl) h
noncomputable abbrev zb6 (c0_1 p : Int) (c0_0 : Bz) (c0_2 : Int) : Option (AV × AH) := some (.str (qqf (qp9 c0_1 - p.toNat) (qqq (p.toNat) c0_0)), [.rows false 3 [[.str c0_0, .int .i64 c0_1, .int .i64 c0_2]]])
noncomputable abbrev zb5 (p c0_1 : Int) (c0_0 : Bz) (c0_2 : Int) : Option (AV × AH) := bif qn 0 p && qn p (↑ (c0_1.toNat) : Int) then zb6 c0_1 p c0_0 c0_2 else none
noncomputable abbrev zb4 (c0_1 : Int) (c0_0 : Bz) (p c0_2 : Int) : Option (AV × AH) := bif qn 0 c0_1 && qn c0_1 (c0_0.length : Int) then zb5 p c0_1 c0_0 c0_2 else none
noncomputable abbrev zb8 (p c0_1 : Int) (c0_0 : Bz) (c0_2 : Int) : Option (AV × AH) := bif qn (0 : Int) p && qn p (↑ (c0_1.toNat) : Int) then zb6 c0_1 p c0_0 c0_2 else none
noncomputable abbrev zb7 (c0_1 : Int) (c0_0 : Bz) (p c0_2 : Int) : Option (AV × AH) := bif qn 0 c0_1 && qn c0_1 (c0_0.length : Int) then zb8 p c0_1 c0_0 c0_2 else none
theorem qda (p : Int) (c0_0 : Bz) (c0_1 c0_2 : Int) {P : AV × AH → Prop} (h : Gets (bif decide (c0_1 < (c0_0.length : Int)) then bif qn 0 c0_1 then kOpt (qp3 c0_0 (c0_1.toNat)) fun b => kOpt (EVs (EV cfg) 21 [AV.int .u8 (↑ (UInt8.toNat b) : Int)]) fun v => qJ v fun b => bif b then qcD p c0_0 (IntKind.wrap .i64 (c0_1 + 1)) c0_2 else zb4 c0_1 c0_0 p c0_2 else none else zb7 c0_1 c0_0 p c0_2) P) : Gets (qcD p c0_0 c0_1 c0_2) P :=
  gE (fun _ => vt (cfg := cfg) (f := 27) (rd := none) (bs := 1)) (by kernel_rfl) h
theorem qcc (p : Int) (c0_0 : Bz) (c0_1 c0_2 : Int) {P : AV × AH → Prop} (h : Gets (bif decide (c0_1 < (c0_0.length : Int)) then bif qn 0 c0_1 then kOpt (qp3 c0_0 (c0_1.toNat)) fun b => kOpt (EVs (EV cfg) 28 [AV.int .u8 (↑ (UInt8.toNat b) : Int)]) fun v => qJ v fun b => bif b then qbu p c0_0 (IntKind.wrap .i64 (c0_1 + 1)) c0_2 else zb4 c0_1 c0_0 p c0_2 else none else zb7 c0_1 c0_0 p c0_2) P) : Gets (qbu p c0_0 c0_1 c0_2) P :=
  gE (fun _ => vt (cfg := cfg) (f := 27) (rd := none) (bs := 1)) (by kernel_rfl) h
noncomputable abbrev zb9 (c0_0 : Bz) (c0_1 c0_2 : Int) : Option (AV × AH) := some (.agg [.int .i64 6, .int .i64 0, .int .i64 0, .str []], [.rows false 3 [[.str c0_0, .int .i64 (IntKind.wrap .i64 (c0_1 + 1)), .int .i64 c0_2]]])
theorem qc9 (s : Bz) (p : Int) (rows : Rz) (v17 : Int) (c0_0 : Bz) (c0_1 c0_2 c1_0 c1_1 c1_2 : Int) (c1_3 : Bz) {P : AV × AH → Prop} (h : Gets (bif decide (v17 < (rows.length : Int)) then bif qn 0 v17 && vS v17 (rows.length : Int) then kOpt (qp3 rows (v17.toNat)) fun row => bif qp6 (qp4 row) 1 then kOpt (qp3 row 0) fun v => kStr v fun s_1 => kOpt (EVs (EV cfg) 44 [.str (qqf (qp4 s - qp9 p) (qqq (p.toNat) s)), .str s_1]) fun v => qJ v fun b => bif b then some (.agg [.int .i64 5, .int .i64 0, .int .i64 0, .str s_1], [.rows false 3 [[.str c0_0, .int .i64 (IntKind.wrap .i64 (c0_1 + (s_1.length : Int))), .int .i64 c0_2]]]) else qcC s p rows (IntKind.wrap .i64 (v17 + 1)) c0_0 c0_1 c0_2 c1_0 c1_1 c1_2 c1_3 else none else none else kOpt (qp3 (qqf (qp4 s - p.toNat) (qqq (p.toNat) s)) 0) fun b => bif (↑ (UInt8.toNat b) : Int) == 46 then bif (↑ (qp4 (qqf (qp4 s - p.toNat) (qqq (p.toNat) s))) : Int) == 1 then zb9 c0_0 c0_1 c0_2 else kOpt (qp3 (qqf (qp4 s - p.toNat) (qqq (p.toNat) s)) 1) fun b => kOpt (EVs (EV cfg) 19 [AV.int .u8 (↑ (UInt8.toNat b) : Int)]) fun v => qJ v fun b => bif b then zb9 c0_0 c0_1 c0_2 else kOpt (qp3 (qqf (qp4 s - p.toNat) (qqq (p.toNat) s)) 1) fun b => bif (↑ (UInt8.toNat b) : Int) == 37 then zb9 c0_0 c0_1 c0_2 else some (.agg [.int .i64 0, .int .i64 0, .int .i64 0, .str []], [.rows false 3 [[.str c0_0, .int .i64 c0_1, .int .i64 340]]]) else some (.agg [.int .i64 0, .int .i64 0, .int .i64 0, .str []], [.rows false 3 [[.str c0_0, .int .i64 c0_1, .int .i64 340]]])) P) : Gets (qcC s p rows v17 c0_0 c0_1 c0_2 c1_0 c1_1 c1_2 c1_3) P :=
  gE (fun _ => vt (cfg := cfg) (f := 31) (rd := none) (bs := 1)) (by kernel_rfl) h
end Go.Proofs.YtkohdkldmpiiiaaDoor
end
section
namespace Go.Av
def decF : Nat → Nat → List UInt8
 | 0, _ => []
 | k + 1, u => if Nat.blt u 10 then [UInt8.ofNat (48 + u)] else decF k (u / 10) ++ [UInt8.ofNat (48 + u % 10)]
def qpP (n : Int) : List UInt8 := if n < 0 then 45 :: decF 20 n.natAbs else decF 20 n.toNat
open Go.Lib (contains index)
theorem contains_cons (b : UInt8) (l t : List UInt8) : contains (b :: l) t = (t.isPrefixOf (b :: l) || contains l t) := by
 unfold contains
 have h := Go.Lib.index_ge l t
 conv => lhs; unfold index
 cases t.isPrefixOf (b :: l) with
 | true => simp
 | false =>
  simp only [qp0, if_false, Bool.false_or]
  by_cases e : index l t = -1
  ·simp [e]
  ·have : (index l t == -1) = false := by simpa using e
   simp only [this, qp0, if_false]
   simp only [decide_eq_decide]
   omega
def catW : List (List UInt8) → List UInt8
 | [] => [32]
 | w :: ws => 32 :: (w ++ catW ws)
theorem qnv : ∀ ws : List (List UInt8), ∃ r, catW ws = 32 :: r
 | [] => ⟨[], rfl⟩
 | w :: ws => ⟨_, rfl⟩
theorem qdo (u r : List UInt8) : ∀ w : List UInt8, (32 : UInt8) ∉ w → contains (w ++ r) (32 :: u) = contains r (32 :: u)
 | [], _ => rfl
 | c :: w, h => by
  simp only [qqn, not_or] at h
  rw [List.cons_append, contains_cons, qdo u r w h.2]
  have : ((32 : UInt8) :: u).isPrefixOf (c :: (w ++ r)) = false := by simp [List.isPrefixOf, h.1]
  rw [this]; rfl
theorem qeK (r : List UInt8) : ∀ (s w : List UInt8), (32 : UInt8) ∉ s → (32 : UInt8) ∉ w → (s ++ [32]).isPrefixOf (w ++ 32 :: r) = (s == w)
 | [], [], _, _ => by simp [List.isPrefixOf]
 | [], c :: w, _, h => by
  simp only [qqn, not_or] at h
  simp [List.isPrefixOf, h.1]
 | b :: s, [], h, _ => by
  simp only [qqn, not_or] at h
  have : (b == 32) = false := by simpa using fun e => h.1 e.symm
  simp [List.isPrefixOf, this]
 | b :: s, c :: w, h, h' => by
  simp only [qqn, not_or] at h h'
  have ih := qeK r s w h.2 h'.2
  simp only [List.cons_append, List.isPrefixOf, ih, List.cons_beq_cons]
theorem qdn (s : List UInt8) (hs : (32 : UInt8) ∉ s) : ∀ ws : List (List UInt8), (∀ w ∈ ws, (32 : UInt8) ∉ w) → contains (catW ws) (32 :: (s ++ [32])) = ws.contains s
 | [], _ => by
  rw [show catW [] = [32] from rfl, contains_cons]
  have h1 : ((32 : UInt8) :: (s ++ [32])).isPrefixOf [32] = false := by cases s <;> simp [List.isPrefixOf]
  rw [h1]
  rfl
 | w :: ws, h => by
  obtain ⟨r, hr⟩ := qnv ws
  rw [show catW (w :: ws) = 32 :: (w ++ catW ws) from rfl, contains_cons, qdo _ _ w (h w (by simp)), qdn s hs ws (fun x hx => h x (by simp [hx]))]
  have : ((32 : UInt8) :: (s ++ [32])).isPrefixOf (32 :: (w ++ catW ws)) = (s == w) := by
   rw [hr, List.isPrefixOf]
   simp [qeK r s w hs (h w (by simp))]
  rw [this, List.contains_cons]
def vT : List (List UInt8) := [[97, 102, 116, 101, 114], [97, 110, 100], [97, 110, 100, 97, 108, 115, 111], [98, 101, 103, 105, 110], [99, 97, 115, 101], [99, 97, 116, 99, 104], [100, 105, 118], [101, 110, 100], [102, 117, 110], [110, 111, 116], [111, 102], [111, 114], [111, 114, 101, 108, 115, 101], [114, 101, 99, 101, 105, 118, 101], [114, 101, 109], [116, 114, 121], [119, 104, 101, 110]]
def vB (c : UInt8) : Bool := decide (97 ≤ c.toNat) && decide (c.toNat ≤ 122)
def qA (c : UInt8) : Bool := vB c || (decide (65 ≤ c.toNat) && decide (c.toNat ≤ 90)) || (decide (48 ≤ c.toNat) && decide (c.toNat ≤ 57)) || c == 95 || c == 64
def qpp (s : List UInt8) : Bool := (match s with | c :: _ => vB c | [] => false) && decide (s.length ≤ 64) && s.all qA && !vT.contains s
def hexd (k : Nat) : UInt8 := ([48, 49, 50, 51, 52, 53, 54, 55, 56, 57, 97, 98, 99, 100, 101, 102] : List UInt8).getD k 0
def escB (b : UInt8) : List UInt8 := if b = 39 ∨ b = 92 then [92, b] else if b.toNat < 32 ∨ 126 < b.toNat then [92, 120, hexd (b.toNat / 16), hexd (b.toNat % 16)] else [b]
def qoS (s : List UInt8) : List UInt8 := 39 :: (s.flatMap escB ++ [39])
theorem qfc {s : List UInt8} (h : s.all qA = true) : (32 : UInt8) ∉ s := by
 intro hm
 have := List.all_eq_true.1 h 32 hm
 exact absurd this (by decide)
def bigA (b : UInt8) : Bool := (decide (65 ≤ b.toNat) && decide (b.toNat ≤ 90)) || b == 95
def qB (b : UInt8) : Bool := decide (48 ≤ b.toNat) && decide (b.toNat ≤ 57)
def qbc : List (List UInt8) := [[61, 58, 61], [61, 47, 61], [61, 61], [47, 61], [61, 60], [62, 61], [45, 62], [40], [41], [123], [125], [91], [93], [44], [59], [124], [61], [60], [62], [43], [45], [42], [33], [58]]
abbrev strR (l : List (List UInt8)) : List (List AV) := l.map fun s => [AV.str s]
def varA (s : List UInt8) : Bool := (match s with | c :: _ => bigA c | [] => false) && decide (s.length ≤ 64) && s.all qA
def mayA (k n : Int) (s : List UInt8) : Bool :=
 if k = 1 then decide (0 ≤ n) && (decide (n ≤ 576460752303423487) && s == [])
 else if k = 2 then n == 0 && decide (s.length ≤ 64)
 else if k = 3 then n == 0 && varA s
 else if k = 4 then n == 0 && vT.contains s
 else if k = 5 then n == 0 && qbc.contains s
 else if k = 6 then n == 0 && s == []
 else false
def tokA (k n : Int) (s : List UInt8) : List UInt8 := if k = 1 then qpP n else if k = 2 then (if qpp s then s else qoS s) else if k = 6 then [46] else s
theorem qfz : vT.contains [] = false := by decide
structure TokA where
 k : Int
 n : Int
 a : Int
 s : List UInt8
def TokA.may (t : TokA) : Bool := mayA t.k t.n t.s
def TokA.text (t : TokA) : List UInt8 := tokA t.k t.n t.s
def TokA.cells (t : TokA) : List AV := [.int .i64 t.k, .int .i64 t.n, .int .i64 t.a, .str t.s]
def qN (l : List TokA) : List (List AV) := l.map TokA.cells
@[simp] theorem zQ (l : List TokA) : (qN l).length = l.length := by simp [qN]
theorem qm1 {l : List TokA} {i : Nat} {t : TokA} (h : l[i]? = some t) : (qN l)[i]? = some t.cells := by simp [qN, h]
def zp (b : UInt8) : Bool := b == 9 || b == 10 || b == 13 || b == 32
def qX : Bool → List UInt8 → Nat
 | _, [] => 0
 | true, c :: r => if c == 10 then qX false r + 1 else qX true r + 1
 | false, c :: r => if zp c then qX false r + 1 else if c == 37 then qX true r + 1 else 0
def hexA (b : UInt8) : Option Nat := if qB b then some (b.toNat - 48) else if decide (97 ≤ b.toNat) && decide (b.toNat ≤ 102) then some (b.toNat - 87) else none
def qbO : List UInt8 → Option (UInt8 × Nat)
 | a :: b :: _ =>
  match hexA a, hexA b with
  | some x, some y => some (UInt8.ofNat (16 * x + y), 3)
  | _, _ => none
 | _ => none
def escA : List UInt8 → Option (UInt8 × Nat)
 | [] => none
 | c :: r =>
  if c == 110 then some (10, 1)
  else if c == 116 then some (9, 1)
  else if c == 114 then some (13, 1)
  else if c == 39 then some (39, 1)
  else if c == 92 then some (92, 1)
  else if c == 120 then qbO r
  else none
def vX : Nat → List UInt8 → List UInt8 → Option (List UInt8 × Nat)
 | _, [], _ => none
 | k + 1, _ :: r, acc => (vX k r acc).map fun q => (q.1, q.2 + 1)
 | 0, c :: r, acc =>
  if c == 39 then some (acc, 1)
  else if c == 92 then
   match escA r with
   | some e => (vX e.2 r (acc ++ [e.1])).map fun q => (q.1, q.2 + 1)
   | none => none
  else if decide (32 ≤ c.toNat) && decide (c.toNat < 127) then (vX 0 r (acc ++ [c])).map fun q => (q.1, q.2 + 1)
  else none
def numA (s : List UInt8) : Nat := s.foldl (fun n b => 10 * n + (b.toNat - 48)) 0
inductive TkA where
 | ok (k n : Int) (w : List UInt8) (len : Nat)
 | err (e : Int)
def vq (k : Int) (w : List UInt8) (len : Nat) : TkA := if 64 < w.length then .err 343 else .ok k 0 w len
def qfL (r : List UInt8) : Option (List UInt8) := qbc.find? fun g => g.isPrefixOf r
def yp : List UInt8 → Bool
 | 46 :: r => (match r with | [] => true | x :: _ => zp x || x == 37)
 | _ => false
def qbQ : List UInt8 → TkA
 | [] => .err 341
 | x :: r =>
  if x == 92 then
   match escA r with
   | some e => .ok 1 (e.1.toNat : Int) [] (2 + e.2)
   | none => .err 341
  else if decide (32 < x.toNat) && decide (x.toNat < 127) then .ok 1 (x.toNat : Int) [] 2
  else .err 341
def tokR (r : List UInt8) : TkA :=
 match r with
 | [] => .err 340
 | c :: t =>
  if qB c then (if 576460752303423487 < numA (r.takeWhile qB) then .err 342 else .ok 1 (numA (r.takeWhile qB) : Int) [] (r.takeWhile qB).length)
  else if c == 36 then qbQ t
  else if c == 39 then
   match vX 0 t [] with
   | some q => vq 2 q.1 (q.2 + 1)
   | none => .err 341
  else if bigA c then vq 3 (r.takeWhile qA) (r.takeWhile qA).length
  else if vB c then (if vT.contains (r.takeWhile qA) then .ok 4 0 (r.takeWhile qA) (r.takeWhile qA).length else vq 2 (r.takeWhile qA) (r.takeWhile qA).length)
  else
   match qfL r with
   | some g => .ok 5 0 g g.length
   | none => if yp r then .ok 6 0 [] 1 else .err 340
inductive ScA where
 | ok (l : List TokA)
 | bad (e : Int) (at_ : Nat)
def qoD (l : List TokA) (p : Nat) (g : Nat → List TokA → ScA) : TkA → ScA
 | .ok k n w len => g (p + len) (l ++ [⟨k, n, (p : Nat), w⟩])
 | .err e => .bad e p
def qbA (s : List UInt8) : Nat → Nat → List TokA → ScA
 | 0, _, l => .ok l
 | f + 1, p, l => if s.length ≤ p + qX false (s.drop p) then .ok l else qoD l (p + qX false (s.drop p)) (qbA s f) (tokR (s.drop (p + qX false (s.drop p))))
def qbz (s : List UInt8) : ScA := if 65536 < s.length then .bad 3 0 else qbA s (s.length + 1) 0 []
theorem zz : ∀ (b : Bool) (r : List UInt8), qX b r ≤ r.length
 | true, [] => by simp [qX]
 | false, [] => by simp [qX]
 | true, c :: r => by
  have h1 := zz true r
  have h2 := zz false r
  rw [qX]; split <;> simp <;> omega
 | false, c :: r => by
  have h1 := zz true r
  have h2 := zz false r
  rw [qX]
  split
  ·simp; omega
  ·split
   ·simp; omega
   ·simp
theorem qeE : ∀ r : List UInt8, (Go.Lib.indexByte r 10 = -1 ∧ qX true r = r.length) ∨ ∃ n : Nat, Go.Lib.indexByte r 10 = n ∧ n < r.length ∧ qX true r = n + qX false (r.drop n)
 | [] => .inl ⟨rfl, rfl⟩
 | b :: l => by
  rw [Go.Lib.indexByte, qX]
  by_cases hb : (b == 10) = true
  ·rw [if_pos hb, if_pos hb]
   refine .inr ⟨0, rfl, by simp, ?_⟩
   have : b = 10 := by simpa using hb
   subst this
   rw [List.drop_zero, qX, if_pos (by decide)]
   omega
  ·rw [if_neg hb, if_neg hb]
   rcases qeE l with ⟨h1, h2⟩ | ⟨n, h1, h2, h3⟩
   ·exact .inl ⟨by rw [h1]; rfl, by rw [h2]; simp⟩
   ·refine .inr ⟨n + 1, ?_, by simp; omega, by rw [h3, List.drop_succ_cons]; omega⟩
    rw [h1, if_neg (by simp)]
    simp
theorem qc3 {r : List UInt8} {e : UInt8 × Nat} (h : escA r = some e) : 1 ≤ e.2 ∧ e.2 ≤ r.length := by
 cases r with
 | nil => cases h
 | cons c r =>
  simp only [escA] at h
  split at h
  ·cases h; simp
  split at h
  ·cases h; simp
  split at h
  ·cases h; simp
  split at h
  ·cases h; simp
  split at h
  ·cases h; simp
  split at h
  ·unfold qbO at h
   split at h
   ·split at h
    ·cases h; simp
    ·cases h
   ·cases h
  ·cases h
theorem qbE : ∀ (r : List UInt8) (k : Nat) (acc : List UInt8) {q : List UInt8 × Nat}, vX k r acc = some q → 1 ≤ q.2 ∧ q.2 ≤ r.length ∧ q.1.length ≤ acc.length + r.length
 | [], k, acc, q, h => by cases k <;> cases h
 | c :: r, k + 1, acc, q, h => by
  rw [vX] at h
  obtain ⟨q', h1, rfl⟩ := qpZ.1 h
  have := qbE r k acc h1
  simp; omega
 | c :: r, 0, acc, q, h => by
  rw [vX] at h
  split at h
  ·cases h; simp
  ·split at h
   ·split at h
    ·obtain ⟨q', h1, rfl⟩ := qpZ.1 h
     have := qbE r _ _ h1
     simp at this ⊢; omega
    ·cases h
   ·split at h
    ·obtain ⟨q', h1, rfl⟩ := qpZ.1 h
     have := qbE r _ _ h1
     simp at this ⊢; omega
    ·cases h
theorem qaO : ∀ (k : Nat) (r acc : List UInt8), k ≤ r.length → vX k r acc = (vX 0 (r.drop k) acc).map fun q => (q.1, q.2 + k)
 | 0, r, acc, _ => by cases h : vX 0 r acc <;> simp [h]
 | k + 1, [], acc, h => by simp at h
 | k + 1, c :: r, acc, h => by
  rw [vX, qaO k r acc (by simpa using h), List.drop_succ_cons]
  cases vX 0 (r.drop k) acc <;> simp <;> omega
theorem qdt {f : UInt8 → Bool} (r : List UInt8) : (r.takeWhile f).length ≤ r.length := (List.takeWhile_sublist f).length_le
theorem qe3 {c : UInt8} {r : List UInt8} {k n : Int} {w : List UInt8} {len : Nat} (h : tokR (c :: r) = .ok k n w len) : 1 ≤ len ∧ len ≤ (c :: r).length := by
 have tw : ∀ f : UInt8 → Bool, f c = true → 1 ≤ ((c :: r).takeWhile f).length := fun f hf => by rw [List.takeWhile_cons, if_pos hf]; simp
 have hd := tw qB
 have hl := tw qA
 have l1 := qdt (f := qB) (c :: r)
 have l2 := qdt (f := qA) (c :: r)
 unfold tokR at h
 simp only at h
 split at h
 ·rename_i hc
  split at h
  ·cases h
  ·cases h; exact ⟨hd hc, l1⟩
 split at h
 ·unfold qbQ at h
  split at h
  ·cases h
  ·split at h
   ·split at h
    ·rename_i e he
     cases h
     have := qc3 he
     simp; omega
    ·cases h
   ·split at h
    ·cases h; simp
    ·cases h
 split at h
 ·split at h
  ·rename_i q hq
   have := qbE _ _ _ hq
   unfold vq at h
   split at h
   ·cases h
   ·cases h; simp; omega
  ·cases h
 split at h
 ·rename_i hc
  unfold vq at h
  split at h
  ·cases h
  ·cases h; exact ⟨hl (by unfold qA; unfold bigA at hc; revert hc; cases c == 95 <;> cases (decide (65 ≤ c.toNat) && decide (c.toNat ≤ 90)) <;> simp), l2⟩
 split at h
 ·rename_i hc
  have := hl (by unfold qA; rw [hc]; rfl)
  split at h
  ·cases h; exact ⟨this, l2⟩
  ·unfold vq at h
   split at h
   ·cases h
   ·cases h; exact ⟨this, l2⟩
 split at h
 ·rename_i g hg
  have hm := List.mem_of_find?_eq_some hg
  have hp := List.find?_some hg
  have h1 : ∀ g ∈ qbc, 1 ≤ g.length := by decide
  have h2 : len = g.length := by cases h; rfl
  rw [h2]
  exact ⟨h1 g hm, (List.isPrefixOf_iff_prefix.1 hp).length_le⟩
 ·split at h
  ·cases h; simp
  ·cases h
end Go.Av
end
section
namespace Go.Proofs.YtkohdkldmpiiiaaDoor
open Go.Av
theorem qaN (s : List UInt8) (c : Int) : EVs (EV cfg) 20 [.str s, .int .u8 c] = some (.int .i64 (Go.Lib.indexByte s c.toNat.toUInt8)) := by
 refine qjY (H := []) (qc7 ?_)
 have hx : cfg.ext 20 = some z6 := rfl
 unfold vL
 simp only [hx]
 rfl
theorem qhZ {s t : List UInt8} (h : s.length < 4294967281) : EVs (EV cfg) 42 [.str s, .str t] = some (.bool (Go.Lib.contains s t)) := by
 refine qjY (H := []) (qc7 ?_)
 have hx : cfg.ext 42 = some zl := rfl
 unfold vL
 simp only [hx]
 unfold zl
 simp only [if_pos h]
theorem vK {x : Int} (h0 : -9223372036854775808 ≤ x) (h1 : x ≤ 9223372036854775807) : IntKind.wrap .i64 x = x := by
 simp [IntKind.wrap, IntKind.bits, IntKind.signed]; omega
theorem qM {p : Nat} (h : p < 1099511627776) : IntKind.wrap .i64 ((p : Int) + 1) = ((p + 1 : Nat) : Int) := by rw [vK (by omega) (by omega)]; omega
theorem qoC {p k : Nat} (h : p < 1099511627776) (hk : k < 1099511627776) : IntKind.wrap .i64 ((p : Int) + (k : Int)) = ((p + k : Nat) : Int) := by rw [vK (by omega) (by omega)]; omega
theorem uEq (b c : UInt8) : ((b.toNat : Int) == (c.toNat : Int)) = (b == c) := by
 cases h : b == c
 ·simp only [beq_eq_false_iff_ne, ne_eq] at h ⊢
  intro he
  exact h (UInt8.toNat.inj (by omega))
 ·simp only [beq_iff_eq] at h ⊢
  rw [h]
theorem uGe (b : UInt8) (k : Nat) : decide ((b.toNat : Int) ≥ (k : Int)) = decide (k ≤ b.toNat) := by simp only [decide_eq_decide]; omega
theorem uLe (b : UInt8) (k : Nat) : decide ((b.toNat : Int) ≤ (k : Int)) = decide (b.toNat ≤ k) := by simp only [decide_eq_decide]; omega
theorem qcH (b : UInt8) : EVs (EV cfg) 21 [.int .u8 (b.toNat : Int)] = some (.bool (qB b)) := by
 apply Gets.get
 refine qke _ ?_
 have d1 := uGe b 48
 have d2 := uLe b 57
 simp only [Int.cast_ofNat_Int] at d1 d2
 rw [d1, d2]
 unfold qB
 cases decide (48 ≤ b.toNat) <;> simp
theorem qfH (b : UInt8) : EVs (EV cfg) 29 [.int .u8 (b.toNat : Int)] = some (.bool (vB b)) := by
 apply Gets.get
 refine qkd _ ?_
 have d1 := uGe b 97
 have d2 := uLe b 122
 simp only [Int.cast_ofNat_Int] at d1 d2
 rw [d1, d2]
 unfold vB
 cases decide (97 ≤ b.toNat) <;> simp
theorem qiQ (b : UInt8) : EVs (EV cfg) 25 [.int .u8 (b.toNat : Int)] = some (.bool (bigA b)) := by
 apply Gets.get
 refine qmJ _ ?_
 have d1 := uGe b 65
 have d2 := uLe b 90
 have e1 : ((b.toNat : Int) == 95) = (b == 95) := uEq b 95
 simp only [Int.cast_ofNat_Int] at d1 d2
 rw [d1, d2, e1]
 unfold bigA
 cases decide (65 ≤ b.toNat) <;> cases decide (b.toNat ≤ 90) <;> cases b == 95 <;> simp
theorem qkm (b : UInt8) : EVs (EV cfg) 28 [.int .u8 (b.toNat : Int)] = some (.bool (qA b)) := by
 apply Gets.get
 refine qiL _ ?_
 have e1 : ((b.toNat : Int) == 64) = (b == 64) := uEq b 64
 simp only [qcH, qfH, qiQ, qb, qa, e1]
 unfold qA qB bigA
 cases vB b <;> cases decide (65 ≤ b.toNat) <;> cases decide (b.toNat ≤ 90) <;> cases decide (48 ≤ b.toNat) <;> cases decide (b.toNat ≤ 57) <;> cases b == 95 <;> cases b == 64 <;> simp
theorem qfK (b : UInt8) : EVs (EV cfg) 19 [.int .u8 (b.toNat : Int)] = some (.bool (zp b)) := by
 apply Gets.get
 refine qkf _ ?_
 have e1 : ((b.toNat : Int) == 9) = (b == 9) := uEq b 9
 have e2 : ((b.toNat : Int) == 10) = (b == 10) := uEq b 10
 have e3 : ((b.toNat : Int) == 13) = (b == 13) := uEq b 13
 have e4 : ((b.toNat : Int) == 32) = (b == 32) := uEq b 32
 rw [e1, e2, e3, e4]
 unfold zp
 cases b == 9 <;> cases b == 10 <;> cases b == 13 <;> simp
theorem qlx : ([32, 97, 102, 116, 101, 114, 32, 97, 110, 100, 32, 97, 110, 100, 97, 108, 115, 111, 32, 98, 101, 103, 105, 110, 32, 99, 97, 115, 101, 32, 99, 97, 116, 99, 104, 32, 100, 105, 118, 32, 101, 110, 100, 32, 102, 117, 110, 32, 110, 111, 116, 32, 111, 102, 32, 111, 114, 32, 111, 114, 101, 108, 115, 101, 32, 114, 101, 99, 101, 105, 118, 101, 32, 114, 101, 109, 32, 116, 114, 121, 32, 119, 104, 101, 110, 32] : List UInt8) = catW vT := by decide
theorem qmK {s : List UInt8} (hs : (32 : UInt8) ∉ s) (hl : s.length < 4294967200) : EVs (EV cfg) 30 [.str s] = some (.bool (vT.contains s)) := by
 apply Gets.get
 refine qlo _ ?_
 cases s with
 | nil => rw [qfz]; simp
 | cons b s =>
  have e0 : (b :: s == []) = false := rfl
  simp only [e0, Bool.not_false, cond_true]
  rw [show qqk (1 + (b :: s).length) 9223372036854775807 = true by simp only [nble, decide_eq_true_eq]; omega]
  simp only [cond_true, qb, qm]
  rw [show qqk (((32 : UInt8) :: b :: s).length + 1) 9223372036854775807 = true by simp only [nble, decide_eq_true_eq, List.length_cons] at *; omega]
  simp only [cond_true, qb, qm, qlx]
  rw [qhZ (by decide), show qqr ((32 : UInt8) :: b :: s) [32] = 32 :: ((b :: s) ++ [32]) from rfl, qdn (b :: s) hs vT (by decide)]
  simp
theorem qlt : EVf (EV cfg) 43 [] = some (.sl (strR qbc)) := qmh (.nil) 1000 1000 (by kernel_rfl)
theorem qkj (x y : List UInt8) (hx : x.length < 1099511627776) : EVs (EV cfg) 44 [.str x, .str y] = some (.bool (y.isPrefixOf x)) := by
 have h2 : EVs (EV cfg) 50 [.str x, .str y] = some (.bool (y.isPrefixOf x)) := by
  apply Gets.get
  refine qlp _ _ ?_
  by_cases h : y.length ≤ x.length
  ·rw [decide_eq_true (show (x.length : Int) ≥ (y.length : Int) by omega)]
   have e1 : (qn 0 (y.length : Int) && qn (y.length : Int) (x.length : Int)) = true := by simp; omega
   simp only [e1, cond_true, qqc, Nat.sub_zero]
   refine ⟨_, rfl, ?_⟩
   congr 1
   rw [Bool.eq_iff_iff, beq_iff_eq, List.isPrefixOf_iff_prefix, List.prefix_iff_eq_take]
   exact ⟨fun e => e.symm, fun e => e.symm⟩
  ·rw [decide_eq_false (show ¬ (x.length : Int) ≥ (y.length : Int) by omega)]
   refine ⟨_, rfl, ?_⟩
   congr 1
   symm
   rw [Bool.eq_false_iff, ne_eq, List.isPrefixOf_iff_prefix]
   intro hp
   exact h hp.length_le
 apply Gets.get
 refine qmI _ _ ?_
 rw [h2]
 exact ⟨_, rfl, rfl⟩
abbrev spH (s : List UInt8) (p : Nat) (e : Int) : AH := [.rows false 3 [[.str s, .int .i64 (p : Int), .int .i64 e]]]
theorem qbx {s : List UInt8} {p : Nat} {e : Int} {b : UInt8} (h : s[p]? = some b) : EVj (EV cfg) 18 1 [.ptr 0 0 0] (spH s p e) = some (.tup [.int .u8 (b.toNat : Int), .bool true], spH s p e) := by
 have hlt : p < s.length := (qpV.1 h).1
 apply Gets.get
 refine qfJ _ _ _ ?_
 rw [decide_eq_false (show ¬ ((p : Int) ≥ (s.length : Int)) by omega)]
 have h0 : qn 0 (p : Int) = true := by simp
 rw [h0, qqc, qY, h]
 exact ⟨_, rfl, rfl⟩
theorem qaM {s : List UInt8} {p : Nat} {e : Int} (h : s.length ≤ p) : EVj (EV cfg) 18 1 [.ptr 0 0 0] (spH s p e) = some (.tup [.int .u8 0, .bool false], spH s p e) := by
 apply Gets.get
 refine qfJ _ _ _ ?_
 rw [decide_eq_true (show ((p : Int) ≥ (s.length : Int)) by omega)]
 exact ⟨_, rfl, rfl⟩
theorem qL {s : List UInt8} {p : Nat} {b : UInt8} (h : s[p]? = some b) : s.drop p = b :: s.drop (p + 1) := by
 have hlt : p < s.length := (qpV.1 h).1
 rw [List.drop_eq_getElem_cons hlt]
 congr 1
 rw [qp1 hlt] at h
 exact Option.some.inj h
theorem qe4 {s : List UInt8} {p : Nat} : qqf (s.length - p) (qqq p s) = qqq p s := List.take_of_length_le (by simp)
theorem yf {s : List UInt8} {p : Nat} : s.length ≤ p ∨ ∃ b, s[p]? = some b := by
 rcases Nat.lt_or_ge p s.length with h | h
 ·exact .inr ⟨_, qp1 h⟩
 ·exact .inl h
theorem qmL {s : List UInt8} (hs : s.length < 1099511627776) {p : Nat} (e : Int) (hp : p ≤ s.length) : EVj (EV cfg) 8 1 [.ptr 0 0 0] (spH s p e) = some (.tup [], spH s (p + qX false (s.drop p)) e) := by
 apply Gets.get
 refine qls _ _ _ ?_
 have go : ∀ k p : Nat, s.length - p = k → p ≤ s.length → Gets (qaZ s (p : Int) e) (· = (.tup [], spH s (p + qX false (s.drop p)) e)) := by
  intro k
  induction k using Nat.strongRecOn with
  | _ k ih =>
   intro p hk hp
   refine qiB _ _ _ ?_
   unfold zb0 zb1 zb2 zb3
   rcases yf (s := s) (p := p) with h | ⟨b, hb⟩
   ·rw [qaM h]
    simp
    rw [qqg h]
    rfl
   ·have hlt : p < s.length := (qpV.1 hb).1
    have e37 : ((b.toNat : Int) == 37) = (b == 37) := uEq b 37
    rw [qbx hb]
    simp only [qb, qe, qc, qw, qj, qp5, cond_true, qd, qk, ql, qf, qm, qo, qq, qr, qa, qfK, e37]
    rw [qL hb, qX]
    cases hbl : zp b with
    | true =>
     simp only [cond_true, if_true]
     rw [qM (by omega)]
     have := ih (s.length - (p + 1)) (by omega) (p + 1) rfl (by omega)
     rw [show p + (qX false (s.drop (p + 1)) + 1) = p + 1 + qX false (s.drop (p + 1)) by omega]
     exact this
    | false =>
     simp only [cond_false, qp0, if_false]
     cases h37 : b == 37 with
     | false =>
      simp only [cond_false, qp0, if_false]
      exact ⟨_, rfl, rfl⟩
     | true =>
      have hb37 : b = 37 := by simpa using h37
      have hc : (qn 0 (p : Int) && qn (p : Int) (s.length : Int)) = true := by simp; omega
      simp only [cond_true, if_true, hc, qqc, qe4, qaN, qb, qo, show ((10 : Int).toNat.toUInt8) = 10 from rfl]
      rw [qL hb]
      have hi : Go.Lib.indexByte (b :: s.drop (p + 1)) 10 = if Go.Lib.indexByte (s.drop (p + 1)) 10 == -1 then -1 else Go.Lib.indexByte (s.drop (p + 1)) 10 + 1 := by rw [Go.Lib.indexByte, if_neg (by rw [hb37]; decide)]
      rcases qeE (s.drop (p + 1)) with ⟨h1, h2⟩ | ⟨n, h1, h2, h3⟩
      ·rw [hi, h1, if_pos (by rfl)]
       simp only [show decide ((-1 : Int) < 0) = true from rfl, cond_true]
       have e1 : IntKind.wrap .i64 ((p : Int) + IntKind.wrap .i64 ((s.length : Int) - (p : Int))) = ((s.length : Nat) : Int) := by
        rw [vK (x := (s.length : Int) - (p : Int)) (by omega) (by omega), vK (by omega) (by omega)]; omega
       rw [e1]
       have := ih (s.length - s.length) (by omega) s.length rfl (qp2 _)
       rw [List.drop_length] at this
       rw [h2, qqp, show p + (s.length - (p + 1) + 1) = s.length by omega]
       exact this
      ·rw [hi, h1, if_neg (by simp)]
       rw [qqp] at h2
       rw [decide_eq_false (show ¬ ((n : Int) + 1 < 0) by omega)]
       simp only [cond_false]
       have e1 : IntKind.wrap .i64 ((p : Int) + ((n : Int) + 1)) = ((p + 1 + n : Nat) : Int) := by rw [vK (by omega) (by omega)]; omega
       rw [e1]
       have := ih (s.length - (p + 1 + n)) (by omega) (p + 1 + n) rfl (by omega)
       rw [h3, List.drop_drop, show p + (n + qX false (s.drop (p + 1 + n)) + 1) = p + 1 + n + qX false (s.drop (p + 1 + n)) by omega]
       exact this
 exact go _ p rfl hp
theorem qef {f : UInt8 → Bool} {b : UInt8} {r : List UInt8} (h : f b = true) : ((b :: r).takeWhile f).length = (r.takeWhile f).length + 1 := by rw [List.takeWhile_cons, if_pos h]; rfl
theorem qid {f : UInt8 → Bool} {b : UInt8} {r : List UInt8} (h : f b = false) : (b :: r).takeWhile f = [] := by rw [List.takeWhile_cons, if_neg (by simp [h])]
theorem qad {f : UInt8 → Bool} : ∀ r : List UInt8, r.take (r.takeWhile f).length = r.takeWhile f
 | [] => rfl
 | b :: r => by
  cases h : f b with
  | true => rw [qef h, List.take_succ_cons, qad r, List.takeWhile_cons, if_pos h]
  | false => rw [qid h]; rfl
theorem qhz {s : List UInt8} {p i : Nat} {e : Int} (hp : p ≤ i) (hi : i ≤ s.length) {P : AV × AH → Prop} (hn : P (.str ((s.drop p).take (i - p)), spH s i e)) :
  Gets (bif qn 0 (i : Int) && qn (i : Int) (s.length : Int) then bif qn 0 (p : Int) && qn (p : Int) ((qp9 (i : Int) : Nat) : Int) then some (AV.str (qqf (qp9 (i : Int) - qp9 (p : Int)) (qqq (qp9 (p : Int)) s)), spH s i e) else none else none) P := by
 have h1 : (qn 0 (i : Int) && qn (i : Int) (s.length : Int)) = true := by simp; omega
 have h2 : (qn 0 (p : Int) && qn (p : Int) (i : Int)) = true := by simp; omega
 simp only [h1, h2, cond_true, qqc]
 exact ⟨_, rfl, hn⟩
theorem qmO {s : List UInt8} (hs : s.length < 1099511627776) {p : Nat} (e : Int) (hp : p ≤ s.length) : EVj (EV cfg) 27 1 [.ptr 0 0 0, .fn (.func 21) [] []] (spH s p e) = some (.str ((s.drop p).takeWhile qB), spH s (p + ((s.drop p).takeWhile qB).length) e) := by
 apply Gets.get
 refine qlw _ _ _ ?_
 have go : ∀ k i : Nat, s.length - i = k → p ≤ i → i ≤ s.length → i + ((s.drop i).takeWhile qB).length = p + ((s.drop p).takeWhile qB).length → Gets (qcD (p : Int) s (i : Int) e) (· = (.str ((s.drop p).takeWhile qB), spH s (p + ((s.drop p).takeWhile qB).length) e)) := by
  intro k
  induction k with
  | zero =>
   intro i hk hp hi hl
   refine qda _ _ _ _ ?_
   unfold zb7 zb8 zb4 zb5 zb6
   rw [decide_eq_false (show ¬ (i : Int) < (s.length : Int) by omega)]
   refine qhz hp hi ?_
   rw [qqg (show s.length ≤ i by omega)] at hl
   have hl : i = p + ((s.drop p).takeWhile qB).length := by simpa using hl
   have : i - p = ((s.drop p).takeWhile qB).length := by omega
   rw [this, qad, ← hl]
  | succ k ih =>
   intro i hk hp hi hl
   obtain ⟨b, hb⟩ : ∃ b, s[i]? = some b := ⟨_, qp1 (by omega)⟩
   refine qda _ _ _ _ ?_
   unfold zb7 zb8 zb4 zb5 zb6
   rw [decide_eq_true (show (i : Int) < (s.length : Int) by omega)]
   have h0 : qn 0 (i : Int) = true := by simp
   simp only [h0, cond_true, qqc, qY, hb, qb, qcH, qa]
   rw [qL hb] at hl
   cases hd : qB b with
   | true =>
    simp only [cond_true]
    rw [qef hd] at hl
    rw [qM (by omega)]
    exact ih (i + 1) (by omega) (by omega) (by omega) (by omega)
   | false =>
    simp only [cond_false]
    have h1 : (true && qn (i : Int) (s.length : Int)) = true := by simp; omega
    have h2 : (qn 0 (p : Int) && qn (p : Int) (i : Int)) = true := by simp; omega
    simp only [h1, h2, cond_true]
    rw [qid hd] at hl
    have hl : i = p + ((s.drop p).takeWhile qB).length := by simpa using hl
    have : i - p = ((s.drop p).takeWhile qB).length := by omega
    rw [this, qad, hl]
    exact ⟨_, rfl, rfl⟩
 exact go _ p rfl (qp2 _) hp rfl
theorem qmN {s : List UInt8} (hs : s.length < 1099511627776) {p : Nat} (e : Int) (hp : p ≤ s.length) : EVj (EV cfg) 27 1 [.ptr 0 0 0, .fn (.func 28) [] []] (spH s p e) = some (.str ((s.drop p).takeWhile qA), spH s (p + ((s.drop p).takeWhile qA).length) e) := by
 apply Gets.get
 refine qlv _ _ _ ?_
 have go : ∀ k i : Nat, s.length - i = k → p ≤ i → i ≤ s.length → i + ((s.drop i).takeWhile qA).length = p + ((s.drop p).takeWhile qA).length → Gets (qbu (p : Int) s (i : Int) e) (· = (.str ((s.drop p).takeWhile qA), spH s (p + ((s.drop p).takeWhile qA).length) e)) := by
  intro k
  induction k with
  | zero =>
   intro i hk hp hi hl
   refine qcc _ _ _ _ ?_
   unfold zb7 zb8 zb4 zb5 zb6
   rw [decide_eq_false (show ¬ (i : Int) < (s.length : Int) by omega)]
   refine qhz hp hi ?_
   rw [qqg (show s.length ≤ i by omega)] at hl
   have hl : i = p + ((s.drop p).takeWhile qA).length := by simpa using hl
   have : i - p = ((s.drop p).takeWhile qA).length := by omega
   rw [this, qad, ← hl]
  | succ k ih =>
   intro i hk hp hi hl
   obtain ⟨b, hb⟩ : ∃ b, s[i]? = some b := ⟨_, qp1 (by omega)⟩
   refine qcc _ _ _ _ ?_
   unfold zb7 zb8 zb4 zb5 zb6
   rw [decide_eq_true (show (i : Int) < (s.length : Int) by omega)]
   have h0 : qn 0 (i : Int) = true := by simp
   simp only [h0, cond_true, qqc, qY, hb, qb, qkm, qa]
   rw [qL hb] at hl
   cases hd : qA b with
   | true =>
    simp only [cond_true]
    rw [qef hd] at hl
    rw [qM (by omega)]
    exact ih (i + 1) (by omega) (by omega) (by omega) (by omega)
   | false =>
    simp only [cond_false]
    have h1 : (true && qn (i : Int) (s.length : Int)) = true := by simp; omega
    have h2 : (qn 0 (p : Int) && qn (p : Int) (i : Int)) = true := by simp; omega
    simp only [h1, h2, cond_true]
    rw [qid hd] at hl
    have hl : i = p + ((s.drop p).takeWhile qA).length := by simpa using hl
    have : i - p = ((s.drop p).takeWhile qA).length := by omega
    rw [this, qad, hl]
    exact ⟨_, rfl, rfl⟩
 exact go _ p rfl (qp2 _) hp rfl
theorem qfI (s : List UInt8) (p : Nat) (e k : Int) (w : List UInt8) : EVj (EV cfg) 26 1 [.ptr 0 0 0, .int .i64 k, .str w] (spH s p e) = some (.agg [.int .i64 k, .int .i64 0, .int .i64 0, .str w], spH s p (if 64 < w.length then 343 else e)) := by
 apply Gets.get
 refine qkl _ _ _ _ _ ?_
 by_cases h : 64 < w.length
 ·rw [decide_eq_true (show (w.length : Int) > 64 by omega), if_pos h]
  exact ⟨_, rfl, rfl⟩
 ·rw [decide_eq_false (show ¬ (w.length : Int) > 64 by omega), if_neg h]
  exact ⟨_, rfl, rfl⟩
noncomputable def qoh : Den := evC cfg (EV cfg) 24 none 1 (sub (qE Tryd.f24) [1, 1, 1, 0, 0, 0])
noncomputable def qos : Ex × List AV × AH → Option (AV × AH) := kAft (Cfg.keepOut cfg 24 (qp (sub (qE Tryd.f24) [1, 1, 1, 0, 0, 0]))) (zj 0 (kSeq (fun (fr : List AV) (H : AH) => zi (Cfg.cut cfg 24 (qp (sub (qE Tryd.f24) [1, 1, 1, 1]))) fr H fun (fr : List AV) (H : AH) => vm cfg (EV cfg) (kfN cfg 6) 24 none 1 (sub (qE Tryd.f24) [1, 1, 1, 1]) fr H (xW cfg 1 (Cfg.lift cfg 24 0) (Array.toList (Func.results Tryd.f24)))) (xW cfg 1 (Cfg.lift cfg 24 0) (Array.toList (Func.results Tryd.f24)))))
noncomputable def qoa : List AV × AH → Option (AV × AH) := fun (p : List AV × AH) => kOpt (LOOP 1 (some [0, 2, 3]) [(3, 1)] qoh p) qos
noncomputable abbrev xL (nv3 : Nat) (c0_0 : Bz) (c0_1 c0_2 c1_0 c1_1 c1_2 : Int) (c1_3 : Bz) (h2 : Rz) : Option (AV × AH) := qoa  (((fx 76 [(0, .ptr 0 0 0), (2, .ptr 1 0 0), (3, .ms 2 0 nv3)]) : List AV), ([.rows false 3 [[.str c0_0, .int .i64 c0_1, .int .i64 c0_2]], .rows false 4 [[.int .i64 c1_0, .int .i64 c1_1, .int .i64 c1_2, .str c1_3]], .rows true 1 h2] : AH))
noncomputable abbrev zc2 (n_6 n_5 : Int) (s : Bz) (n n_1 : Int) : Option (AV × AH) := kOpt (xJ (Op.intBits BinOp.or .i64 n_6 n_5)) fun v => kInt .i64 v fun n_7 => some (.int .u8 (IntKind.wrap .u8 n_7), [.rows false 3 [[.str s, .int .i64 (IntKind.wrap .i64 (IntKind.wrap .i64 (n + 1) + 2)), .int .i64 n_1]]])
noncomputable abbrev zc1 (v : AV) (n_5 : Int) (s : Bz) (n n_1 : Int) : Option (AV × AH) := kInt .i64 v fun n_6 => zc2 n_6 n_5 s n n_1
noncomputable abbrev zc0 (n_4 n_5 : Int) (s : Bz) (n n_1 : Int) : Option (AV × AH) := kOpt (xJ (Op.shift BinOp.shl .i64 n_4 .u64 4)) fun v => zc1 v n_5 s n n_1
noncomputable abbrev zc3 (s : Bz) (n : Int) : Option (AV × AH) := some (.int .u8 0, [.rows false 3 [[.str s, .int .i64 (IntKind.wrap .i64 (n + 1)), .int .i64 341]]])
theorem qiP (s : Bz) (p e : Int) {P : AV × AH → Prop} (h : Gets (kOpt (EVj (EV cfg) 18 1 [.ptr 0 0 0] [.rows false 3 [[.str s, .int .i64 (IntKind.wrap .i64 (p + 1)), .int .i64 e]]]) fun q => qS q.2 fun b bs => qP b fun d' n rs => bif beqB false d' && qp6 n 3 then vj rs fun row rest => vC rest (vD bs (qi row fun c cs => kStr c fun s => qi cs fun c cs => kInt .i64 c fun n => qi cs fun c cs => kInt .i64 c fun n_1 => kNil cs (kTup q.1 fun cs => qi cs fun c cs => kInt .u8 c fun n_2 => qi cs fun c cs => qJ c fun b => kNil cs (kOpt (EVs (EV cfg) 20 [.str [(110 : UInt8), (116 : UInt8), (114 : UInt8), (39 : UInt8), (92 : UInt8)], .int .u8 n_2]) fun v => kInt .i64 v fun n_3 => bif decide (n_3 ≥ 0) then bif n_2 != 0 then bif qn 0 n_3 then kOpt (qp3 [(10 : UInt8), (9 : UInt8), (13 : UInt8), (39 : UInt8), (92 : UInt8)] (n_3.toNat)) fun b => some (.int .u8 (↑ (UInt8.toNat b) : Int), [.rows false 3 [[.str s, .int .i64 (IntKind.wrap .i64 (n + 1)), .int .i64 n_1]]]) else none else bif n_2 == 120 then bif decide (IntKind.wrap .i64 (IntKind.wrap .i64 (n + 1) + 2) ≤ (s.length : Int)) then bif qn 0 (IntKind.wrap .i64 (n + 1)) then kOpt (qp3 s (qp9 (IntKind.wrap .i64 (n + 1)))) fun b => kOpt (EVs (EV cfg) 20 [AV.str [(48 : UInt8), (49 : UInt8), (50 : UInt8), (51 : UInt8), (52 : UInt8), (53 : UInt8), (54 : UInt8), (55 : UInt8), (56 : UInt8), (57 : UInt8), (97 : UInt8), (98 : UInt8), (99 : UInt8), (100 : UInt8), (101 : UInt8), (102 : UInt8)], .int .u8 (↑ (UInt8.toNat b) : Int)]) fun v => kInt .i64 v fun n_4 => bif qn 0 (IntKind.wrap .i64 (IntKind.wrap .i64 (n + 1) + 1)) then kOpt (qp3 s (qp9 (IntKind.wrap .i64 (IntKind.wrap .i64 (n + 1) + 1)))) fun b => kOpt (EVs (EV cfg) 20 [AV.str [(48 : UInt8), (49 : UInt8), (50 : UInt8), (51 : UInt8), (52 : UInt8), (53 : UInt8), (54 : UInt8), (55 : UInt8), (56 : UInt8), (57 : UInt8), (97 : UInt8), (98 : UInt8), (99 : UInt8), (100 : UInt8), (101 : UInt8), (102 : UInt8)], .int .u8 (↑ (UInt8.toNat b) : Int)]) fun v => kInt .i64 v fun n_5 => bif decide (n_4 ≥ 0) then bif decide (n_5 ≥ 0) then zc0 n_4 n_5 s n n_1 else some (.int .u8 (0 : Int), [.rows false 3 [[.str s, .int .i64 (IntKind.wrap .i64 (n + 1)), .int .i64 341]]]) else zc3 s n else none else none else zc3 s n else zc3 s n else bif n_2 == 120 then bif decide (IntKind.wrap .i64 (IntKind.wrap .i64 (n + 1) + 2) ≤ (s.length : Int)) then bif qn 0 (IntKind.wrap .i64 (n + 1)) then kOpt (qp3 s (qp9 (IntKind.wrap .i64 (n + 1)))) fun b => kOpt (EVs (EV cfg) 20 [AV.str [(48 : UInt8), (49 : UInt8), (50 : UInt8), (51 : UInt8), (52 : UInt8), (53 : UInt8), (54 : UInt8), (55 : UInt8), (56 : UInt8), (57 : UInt8), (97 : UInt8), (98 : UInt8), (99 : UInt8), (100 : UInt8), (101 : UInt8), (102 : UInt8)], .int .u8 (↑ (UInt8.toNat b) : Int)]) fun v => kInt .i64 v fun n_4 => bif qn 0 (IntKind.wrap .i64 (IntKind.wrap .i64 (n + 1) + 1)) then kOpt (qp3 s (qp9 (IntKind.wrap .i64 (IntKind.wrap .i64 (n + 1) + 1)))) fun b => kOpt (EVs (EV cfg) 20 [AV.str [(48 : UInt8), (49 : UInt8), (50 : UInt8), (51 : UInt8), (52 : UInt8), (53 : UInt8), (54 : UInt8), (55 : UInt8), (56 : UInt8), (57 : UInt8), (97 : UInt8), (98 : UInt8), (99 : UInt8), (100 : UInt8), (101 : UInt8), (102 : UInt8)], .int .u8 (↑ (UInt8.toNat b) : Int)]) fun v => kInt .i64 v fun n_5 => bif decide (n_4 ≥ 0) then bif decide (n_5 ≥ 0) then zc0 n_4 n_5 s n n_1 else zc3 s n else zc3 s n else none else none else zc3 s n else zc3 s n)))) else none) P) : Gets (EVj (EV cfg) 41 1 [.ptr 0 0 0] ([ABlk.rows false (3 : Nat) [[AV.str s, AV.int IntKind.i64 p, AV.int IntKind.i64 e]]] : AH)) P :=
  gE (fun _ => funJ rfl rfl Tryd.func41 rfl) (by kernel_rfl) h
noncomputable abbrev zc5 (s : Bz) (n : Int) : Option (AV × AH) := some (.agg [.int .i64 0, .int .i64 0, .int .i64 0, .str []], [.rows false 3 [[.str s, .int .i64 n, .int .i64 341]]])
noncomputable abbrev zc4 (n_2 : Int) (s : Bz) (n n_1 : Int) : Option (AV × AH) := bif decide (n_2 < 127) then some (.agg [.int .i64 1, .int .i64 (IntKind.wrap .i64 n_2), .int .i64 0, .str []], [.rows false 3 [[.str s, .int .i64 (IntKind.wrap .i64 (n + 1)), .int .i64 n_1]]]) else zc5 s n
theorem qlC (s : Bz) (p e : Int) {P : AV × AH → Prop} (h : Gets (kOpt (EVj (EV cfg) 18 1 [.ptr 0 0 0] [.rows false 3 [[.str s, .int .i64 (IntKind.wrap .i64 (p + 1)), .int .i64 e]]]) fun q => qS q.2 fun b bs => qP b fun d' n rs => bif beqB false d' && qp6 n 3 then vj rs fun row rest => vC rest (vD bs (qi row fun c cs => kStr c fun s => qi cs fun c cs => kInt .i64 c fun n => qi cs fun c cs => kInt .i64 c fun n_1 => kNil cs (kTup q.1 fun cs => qi cs fun c cs => kInt .u8 c fun n_2 => qi cs fun c cs => qJ c fun b => kNil cs (bif b then bif n_2 == 92 then kOpt (EVj (EV cfg) 41 1 [.ptr 0 0 0] [.rows false 3 [[.str s, .int .i64 n, .int .i64 n_1]]]) fun q => qS q.2 fun b bs => qP b fun d' n rs => bif beqB false d' && qp6 n 3 then vj rs fun row rest => vC rest (vD bs (qi row fun c cs => kStr c fun s => qi cs fun c cs => kInt .i64 c fun n => qi cs fun c cs => kInt .i64 c fun n_3 => kNil cs (kInt .u8 q.1 fun n_4 => some (AV.agg [.int .i64 1, .int .i64 (IntKind.wrap .i64 n_4), .int .i64 (0 : Int), .str []], [.rows false 3 [[.str s, .int .i64 n, .int .i64 n_3]]])))) else none else bif b then bif decide (n_2 > 32) then zc4 n_2 s n n_1 else some (.agg [.int .i64 (0 : Int), .int .i64 0, .int .i64 0, .str []], [.rows false 3 [[.str s, .int .i64 n, .int .i64 341]]]) else zc5 s n else bif b then bif decide (n_2 > 32) then zc4 n_2 s n n_1 else zc5 s n else some (.agg [.int .i64 0, .int .i64 (0 : Int), .int .i64 0, .str []], [.rows false 3 [[.str s, .int .i64 n, .int .i64 341]]]))))) else none) P) : Gets (EVj (EV cfg) 23 1 [.ptr 0 0 0] ([ABlk.rows false (3 : Nat) [[AV.str s, AV.int IntKind.i64 p, AV.int IntKind.i64 e]]] : AH)) P :=
  gE (fun _ => funJ rfl rfl Tryd.func23 rfl) (by kernel_rfl) h
theorem qiM (s : Bz) (p e : Int) {P : AV × AH → Prop} (h : Gets (xL 0 s (IntKind.wrap .i64 (p + 1)) e 0 0 0 [] []) P) : Gets (EVj (EV cfg) 24 1 [.ptr 0 0 0] ([ABlk.rows false (3 : Nat) [[AV.str s, AV.int IntKind.i64 p, AV.int IntKind.i64 e]]] : AH)) P :=
  gE (fun _ => funJ rfl rfl Tryd.func24 rfl) (by kernel_rfl) h
noncomputable abbrev zc11 (rest : Rz) (bs : AH) (row : List AV) (q : AV × AH) (nv3 : Nat) (h2 : Rz) (c1_0 c1_1 c1_2 : Int) (c1_3 : Bz) : Option (AV × AH) := vC rest (vD bs (qi row fun c cs => kStr c fun s => qi cs fun c cs => kInt .i64 c fun n => qi cs fun c cs => kInt .i64 c fun n_3 => kNil cs (kInt .u8 q.1 fun n_4 => bif qqk (0 + nv3) (qp4 h2) && qH (nv3 + 1) 1 then xL (nv3 + 1) s n n_3 c1_0 c1_1 c1_2 c1_3 (qqr (qqf nv3 h2) [[AV.int .u8 n_4]]) else none)))
noncomputable abbrev zc10 (rs : Rz) (bs : AH) (q : AV × AH) (nv3 : Nat) (h2 : Rz) (c1_0 c1_1 c1_2 : Int) (c1_3 : Bz) : Option (AV × AH) := vj rs fun row rest => zc11 rest bs row q nv3 h2 c1_0 c1_1 c1_2 c1_3
noncomputable abbrev zc9 (d' : Bool) (n : Nat) (rs : Rz) (bs : AH) (q : AV × AH) (nv3 : Nat) (h2 : Rz) (c1_0 c1_1 c1_2 : Int) (c1_3 : Bz) : Option (AV × AH) := bif beqB false d' && qp6 n 3 then zc10 rs bs q nv3 h2 c1_0 c1_1 c1_2 c1_3 else none
noncomputable abbrev zc8 (b : ABlk) (bs : AH) (q : AV × AH) (nv3 : Nat) (h2 : Rz) (c1_0 c1_1 c1_2 : Int) (c1_3 : Bz) : Option (AV × AH) := qP b fun d' n rs => zc9 d' n rs bs q nv3 h2 c1_0 c1_1 c1_2 c1_3
noncomputable abbrev zc7 (q : AV × AH) (nv3 : Nat) (h2 : Rz) (c1_0 c1_1 c1_2 : Int) (c1_3 : Bz) : Option (AV × AH) := qS q.2 fun b bs => zc8 b bs q nv3 h2 c1_0 c1_1 c1_2 c1_3
noncomputable abbrev zc6 (s : Bz) (n n_1 : Int) (nv3 : Nat) (h2 : Rz) (c1_0 c1_1 c1_2 : Int) (c1_3 : Bz) : Option (AV × AH) := kOpt (EVj (EV cfg) 41 1 [.ptr 0 0 0] [.rows false 3 [[.str s, .int .i64 n, .int .i64 n_1]]]) fun q => zc7 q nv3 h2 c1_0 c1_1 c1_2 c1_3
noncomputable abbrev zc15 (nv3 : Nat) (h2 : Rz) (s : Bz) (n n_1 c1_0 c1_1 c1_2 : Int) (c1_3 : Bz) (n_2 : Int) : Option (AV × AH) := bif qqk (0 + nv3) (qp4 h2) && qH (nv3 + 1) 1 then xL (nv3 + 1) s (IntKind.wrap .i64 (n + 1)) n_1 c1_0 c1_1 c1_2 c1_3 (qqr (qqf nv3 h2) [[AV.int .u8 n_2]]) else none
noncomputable abbrev zc14 (n_2 : Int) (nv3 : Nat) (h2 : Rz) (s : Bz) (n n_1 c1_0 c1_1 c1_2 : Int) (c1_3 : Bz) : Option (AV × AH) := bif decide (n_2 < 127) then zc15 nv3 h2 s n n_1 c1_0 c1_1 c1_2 c1_3 n_2 else xL nv3 s n 341 c1_0 c1_1 c1_2 c1_3 h2
noncomputable abbrev zc13 (n_2 : Int) (nv3 : Nat) (h2 : Rz) (s : Bz) (n n_1 c1_0 c1_1 c1_2 : Int) (c1_3 : Bz) : Option (AV × AH) := bif decide (n_2 ≥ 32) then zc14 n_2 nv3 h2 s n n_1 c1_0 c1_1 c1_2 c1_3 else xL nv3 s n 341 c1_0 c1_1 c1_2 c1_3 h2
noncomputable abbrev zc12 (b : Bool) (n_2 : Int) (nv3 : Nat) (h2 : Rz) (s : Bz) (n n_1 c1_0 c1_1 c1_2 : Int) (c1_3 : Bz) : Option (AV × AH) := bif b then zc13 n_2 nv3 h2 s n n_1 c1_0 c1_1 c1_2 c1_3 else xL nv3 s n 341 c1_0 c1_1 c1_2 c1_3 h2
theorem qc8 (nv3 : Nat) (c0_0 : Bz) (c0_1 c0_2 c1_0 c1_1 c1_2 : Int) (c1_3 : Bz) (h2 : Rz) {P : AV × AH → Prop} (h : Gets (bif c0_2 == 0 then kOpt (EVj (EV cfg) 18 1 [.ptr 0 0 0] [.rows false 3 [[.str c0_0, .int .i64 c0_1, .int .i64 c0_2]]]) fun q => qS q.2 fun b bs => qP b fun d' n rs => bif beqB false d' && qp6 n 3 then vj rs fun row rest => vC rest (vD bs (qi row fun c cs => kStr c fun s => qi cs fun c cs => kInt .i64 c fun n => qi cs fun c cs => kInt .i64 c fun n_1 => kNil cs (kTup q.1 fun cs => qi cs fun c cs => kInt .u8 c fun n_2 => qi cs fun c cs => qJ c fun b => kNil cs (bif b then bif n_2 == 39 then kOpt (Decidable.rec (fun h => (fun x => none) h) (fun h => (fun x => some (qqf nv3 (qqq 0 h2))) h) (instDecidableEqBool (1 == 1 && qqk (0 + nv3) (qp4 h2)) true)) fun rows => kOpt (ve rows) fun bs => kOpt (EVj (EV cfg) 26 1 [.ptr 0 0 0, .int .i64 2, .str bs] [.rows false 3 [[.str s, .int .i64 (IntKind.wrap .i64 (n + 1)), .int .i64 n_1]]]) fun q => qS q.2 fun b bs => qP b fun d' n rs => bif beqB false d' && qp6 n 3 then vj rs fun row rest => vC rest (vD bs (qi row fun c cs => kStr c fun s => qi cs fun c cs => kInt .i64 c fun n => qi cs fun c cs => kInt .i64 c fun n_3 => kNil cs (kAgg q.1 fun cs => qi cs fun c cs => kInt .i64 c fun n_4 => qi cs fun c cs => kInt .i64 c fun n_5 => qi cs fun c cs => kInt .i64 c fun n_6 => qi cs fun c cs => kStr c fun s_1 => kNil cs (some (.agg [.int .i64 n_4, .int .i64 n_5, .int .i64 n_6, .str s_1], [.rows false 3 [[.str s, .int .i64 n, .int .i64 n_3]]]))))) else none else bif b then bif n_2 == 92 then zc6 s n n_1 nv3 h2 c1_0 c1_1 c1_2 c1_3 else zc12 b n_2 nv3 h2 s n n_1 c1_0 c1_1 c1_2 c1_3 else zc12 b n_2 nv3 h2 s n n_1 c1_0 c1_1 c1_2 c1_3 else bif b then bif n_2 == 92 then zc6 s n n_1 nv3 h2 c1_0 c1_1 c1_2 c1_3 else bif b then bif decide (n_2 ≥ 32) then zc14 n_2 nv3 h2 s n n_1 c1_0 c1_1 c1_2 c1_3 else xL nv3 s n (341 : Int) c1_0 c1_1 c1_2 c1_3 h2 else xL nv3 s n 341 c1_0 c1_1 c1_2 c1_3 h2 else zc12 b n_2 nv3 h2 s n n_1 c1_0 c1_1 c1_2 c1_3)))) else none else some (.agg [.int .i64 0, .int .i64 0, .int .i64 0, .str []], [.rows false 3 [[.str c0_0, .int .i64 c0_1, .int .i64 c0_2]]])) P) : Gets (xL nv3 c0_0 c0_1 c0_2 c1_0 c1_1 c1_2 c1_3 h2) P :=
  gE (fun _ => vt (cfg := cfg) (f := 24) (rd := none) (bs := 1)) (by kernel_rfl) h
theorem qiN (s : Bz) (p e : Int) {P : AV × AH → Prop} (h : Gets (kOpt (EVj (EV cfg) 27 1 [.ptr 0 0 0, AV.fn (Fn.func 21) [] []] [.rows false 3 [[.str s, .int .i64 p, .int .i64 e]]]) fun q => qS q.2 fun b bs => qP b fun d' n rs => bif beqB false d' && qp6 n 3 then vj rs fun row rest => vC rest (vD bs (qi row fun c cs => kStr c fun s => qi cs fun c cs => kInt .i64 c fun n => qi cs fun c cs => kInt .i64 c fun n_1 => kNil cs (kStr q.1 fun s_1 => kOpt (EVf (EV cfg) 40 [.str s_1, .int .i64 10, .int .i64 64]) fun v => kTup v fun cs => qi cs fun c cs => kInt .u64 c fun n_2 => qi cs fun c cs => kNil cs (bif AV.refsLt 0 (AV.tup [AV.int .u64 n_2, c]) then kOpt (aBin cfg true BinOp.neq 56 c AV.nilI) fun v => qJ v fun b => bif b then some (.agg [.int .i64 1, .int .i64 (IntKind.wrap .i64 n_2), .int .i64 0, .str []], [.rows false 3 [[.str s, .int .i64 n, .int .i64 342]]]) else bif decide (n_2 > 576460752303423487) then some (.agg [.int .i64 1, .int .i64 (IntKind.wrap .i64 n_2), .int .i64 0, .str []], [.rows false 3 [[.str s, .int .i64 n, .int .i64 342]]]) else some (.agg [.int .i64 1, .int .i64 (IntKind.wrap .i64 n_2), .int .i64 0, .str []], [.rows false 3 [[.str s, .int .i64 n, .int .i64 n_1]]]) else none)))) else none) P) : Gets (EVj (EV cfg) 22 1 [.ptr 0 0 0] ([ABlk.rows false (3 : Nat) [[AV.str s, AV.int IntKind.i64 p, AV.int IntKind.i64 e]]] : AH)) P :=
  gE (fun _ => funJ rfl rfl Tryd.func22 rfl) (by kernel_rfl) h
noncomputable abbrev zd15 (n_2 n_3 n_4 : Int) (s_1 s : Bz) (n n_1 : Int) : Option (AV × AH) := some (.agg [.int .i64 n_2, .int .i64 n_3, .int .i64 n_4, .str s_1], [.rows false 3 [[.str s, .int .i64 n, .int .i64 n_1]]])
noncomputable abbrev zd14 (cs : List AV) (n_2 n_3 n_4 : Int) (s_1 s : Bz) (n n_1 : Int) : Option (AV × AH) := kNil cs (zd15 n_2 n_3 n_4 s_1 s n n_1)
noncomputable abbrev zd13 (c : AV) (cs : List AV) (n_2 n_3 n_4 : Int) (s : Bz) (n n_1 : Int) : Option (AV × AH) := kStr c fun s_1 => zd14 cs n_2 n_3 n_4 s_1 s n n_1
noncomputable abbrev zd12 (cs : List AV) (n_2 n_3 n_4 : Int) (s : Bz) (n n_1 : Int) : Option (AV × AH) := qi cs fun c cs => zd13 c cs n_2 n_3 n_4 s n n_1
noncomputable abbrev zd11 (c : AV) (cs : List AV) (n_2 n_3 : Int) (s : Bz) (n n_1 : Int) : Option (AV × AH) := kInt .i64 c fun n_4 => zd12 cs n_2 n_3 n_4 s n n_1
noncomputable abbrev zd10 (cs : List AV) (n_2 n_3 : Int) (s : Bz) (n n_1 : Int) : Option (AV × AH) := qi cs fun c cs => zd11 c cs n_2 n_3 s n n_1
noncomputable abbrev zd9 (c : AV) (cs : List AV) (n_2 : Int) (s : Bz) (n n_1 : Int) : Option (AV × AH) := kInt .i64 c fun n_3 => zd10 cs n_2 n_3 s n n_1
noncomputable abbrev zd8 (cs : List AV) (n_2 : Int) (s : Bz) (n n_1 : Int) : Option (AV × AH) := qi cs fun c cs => zd9 c cs n_2 s n n_1
noncomputable abbrev zd7 (c : AV) (cs : List AV) (s : Bz) (n n_1 : Int) : Option (AV × AH) := kInt .i64 c fun n_2 => zd8 cs n_2 s n n_1
noncomputable abbrev zd6 (cs : List AV) (s : Bz) (n n_1 : Int) : Option (AV × AH) := qi cs fun c cs => zd7 c cs s n n_1
noncomputable abbrev zd5 (q : AV × AH) (s : Bz) (n n_1 : Int) : Option (AV × AH) := kAgg q.1 fun cs => zd6 cs s n n_1
noncomputable abbrev zd4 (rest : Rz) (bs : AH) (row : List AV) (q : AV × AH) : Option (AV × AH) := vC rest (vD bs (qi row fun c cs => kStr c fun s => qi cs fun c cs => kInt .i64 c fun n => qi cs fun c cs => kInt .i64 c fun n_1 => kNil cs (zd5 q s n n_1)))
noncomputable abbrev zd3 (rs : Rz) (bs : AH) (q : AV × AH) : Option (AV × AH) := vj rs fun row rest => zd4 rest bs row q
noncomputable abbrev zd2 (d' : Bool) (n : Nat) (rs : Rz) (bs : AH) (q : AV × AH) : Option (AV × AH) := bif beqB false d' && qp6 n 3 then zd3 rs bs q else none
noncomputable abbrev zd1 (b : ABlk) (bs : AH) (q : AV × AH) : Option (AV × AH) := qP b fun d' n rs => zd2 d' n rs bs q
noncomputable abbrev zd0 (q : AV × AH) : Option (AV × AH) := qS q.2 fun b bs => zd1 b bs q
theorem qlA (s : Bz) (p e : Int) {P : AV × AH → Prop} (h : Gets (bif qn 0 p then kOpt (qp3 s (p.toNat)) fun b => kOpt (EVs (EV cfg) 21 [AV.int .u8 (↑ (UInt8.toNat b) : Int)]) fun v => qJ v fun b_1 => bif b_1 then kOpt (EVj (EV cfg) 22 1 [.ptr 0 0 0] [.rows false 3 [[.str s, .int .i64 p, .int .i64 e]]]) fun q => zd0 q else bif (↑ (UInt8.toNat b) : Int) == 36 then kOpt (EVj (EV cfg) 23 1 [.ptr 0 0 0] [.rows false 3 [[.str s, .int .i64 p, .int .i64 e]]]) fun q => zd0 q else bif (↑ (UInt8.toNat b) : Int) == 39 then kOpt (EVj (EV cfg) 24 1 [.ptr 0 0 0] [.rows false 3 [[.str s, .int .i64 p, .int .i64 e]]]) fun q => zd0 q else kOpt (EVs (EV cfg) 25 [AV.int .u8 (↑ (UInt8.toNat b) : Int)]) fun v => qJ v fun b_2 => bif b_2 then kOpt (EVj (EV cfg) 27 1 [.ptr 0 0 0, AV.fn (Fn.func 28) [] []] [.rows false 3 [[.str s, .int .i64 p, .int .i64 e]]]) fun q => qS q.2 fun b bs => qP b fun d' n rs => bif beqB false d' && qp6 n 3 then vj rs fun row rest => vC rest (vD bs (qi row fun c cs => kStr c fun s => qi cs fun c cs => kInt .i64 c fun n => qi cs fun c cs => kInt .i64 c fun n_1 => kNil cs (kStr q.1 fun s_1 => kOpt (EVj (EV cfg) 26 1 [.ptr 0 0 0, .int .i64 3, .str s_1] [.rows false 3 [[.str s, .int .i64 n, .int .i64 n_1]]]) fun q => zd0 q))) else none else kOpt (EVs (EV cfg) 29 [AV.int .u8 (↑ (UInt8.toNat b) : Int)]) fun v => qJ v fun b => bif b then kOpt (EVj (EV cfg) 27 1 [.ptr 0 0 0, AV.fn (Fn.func 28) [] []] [.rows false 3 [[.str s, .int .i64 p, .int .i64 e]]]) fun q => qS q.2 fun b bs => qP b fun d' n rs => bif beqB false d' && qp6 n 3 then vj rs fun row rest => vC rest (vD bs (qi row fun c cs => kStr c fun s => qi cs fun c cs => kInt .i64 c fun n => qi cs fun c cs => kInt .i64 c fun n_1 => kNil cs (kStr q.1 fun s_1 => kOpt (EVs (EV cfg) 30 [.str s_1]) fun v => qJ v fun b => bif b then some (.agg [.int .i64 4, .int .i64 0, .int .i64 0, .str s_1], [.rows false 3 [[.str s, .int .i64 n, .int .i64 n_1]]]) else kOpt (EVj (EV cfg) 26 1 [.ptr 0 0 0, .int .i64 2, .str s_1] [.rows false 3 [[.str s, .int .i64 n, .int .i64 n_1]]]) fun q => qS q.2 fun b bs => qP b fun d' n rs => bif beqB false d' && qp6 n 3 then vj rs fun row rest => vC rest (vD bs (qi row fun c cs => kStr c fun s => qi cs fun c cs => kInt .i64 c fun n => qi cs fun c cs => kInt .i64 c fun n_2 => kNil cs (kAgg q.1 fun cs => qi cs fun c cs => kInt .i64 c fun n_3 => qi cs fun c cs => kInt .i64 c fun n_4 => qi cs fun c cs => kInt .i64 c fun n_5 => qi cs fun c cs => kStr c fun s_2 => kNil cs (some (AV.agg [.int .i64 n_3, .int .i64 n_4, .int .i64 n_5, .str s_2], [.rows false 3 [[.str s, .int .i64 n, .int .i64 n_2]]]))))) else none))) else none else kOpt (EVj (EV cfg) 31 1 [.ptr 0 0 0] [.rows false 3 [[.str s, .int .i64 p, .int .i64 e]]]) fun q => zd0 q else none) P) : Gets (EVj (EV cfg) 9 1 [.ptr 0 0 0] ([ABlk.rows false (3 : Nat) [[AV.str s, AV.int IntKind.i64 p, AV.int IntKind.i64 e]]] : AH)) P :=
  gE (fun _ => funJ rfl rfl Tryd.func9 rfl) (by kernel_rfl) h
theorem qhe : ∀ (w : List UInt8) (acc : Nat), acc ≤ w.foldl (fun n b => 10 * n + (b.toNat - 48)) acc
 | [], acc => qp2 _
 | b :: w, acc => by
  rw [List.foldl_cons]
  exact Nat.le_trans (by omega) (qhe w _)
theorem qdk : ∀ (w : List UInt8) (acc : Nat), acc ≤ 18446744073709551615 → (∀ b ∈ w, qB b = true) →
  Go.Lib.parseUintM 18446744073709551615 acc w = if w.foldl (fun n b => 10 * n + (b.toNat - 48)) acc ≤ 18446744073709551615 then .ok (w.foldl (fun n b => 10 * n + (b.toNat - 48)) acc) else .range
 | [], acc, h, _ => by rw [List.foldl_nil, if_pos h]; rfl
 | b :: w, acc, h, hw => by
  have hb := hw b (by simp)
  have hd : 48 ≤ b.toNat ∧ b.toNat ≤ 57 := by simpa [qB] using hb
  have hg := qhe w (10 * acc + (b.toNat - 48))
  rw [Go.Lib.parseUintM, if_pos hd, List.foldl_cons]
  by_cases h1 : 1844674407370955162 ≤ acc
  ·rw [if_pos h1, if_neg (by omega)]
  ·rw [if_neg h1]
   by_cases h2 : 18446744073709551615 < acc * 10 + (b.toNat - 48)
   ·rw [if_pos h2, if_neg (by omega)]
   ·rw [if_neg h2, show acc * 10 + (b.toNat - 48) = 10 * acc + (b.toNat - 48) by omega]
    exact qdk w _ (by omega) (fun x hx => hw x (by simp [hx]))
theorem qi9 {w : List UInt8} (h0 : w ≠ []) (hw : ∀ b ∈ w, qB b = true) : Go.Lib.parseUintB 64 w = if numA w ≤ 18446744073709551615 then .ok (numA w) else .range := by
 unfold Go.Lib.parseUintB
 rw [if_neg h0]
 exact qdk w 0 (by omega) hw
theorem qlz {w : List UInt8} {u : Nat} (hl : w.length < 1099511627776) (h : Go.Lib.parseUintB 64 w = .ok u) : EVf (EV cfg) 40 [.str w, .int .i64 10, .int .i64 64] = some (.tup [.int .u64 u, .nilI]) := by
 refine qjZ (v' := .tup [.int .u64 u, .nilI]) (H := []) (qc7 ?_) rfl
 have hx : cfg.ext 40 = some zB := rfl
 unfold vL
 simp only [hx]
 unfold zB
 simp only [if_pos (show w.length ≤ 281474976710656 by omega), h]
theorem qhY {w : List UInt8} (hl : w.length < 1099511627776) (h : Go.Lib.parseUintB 64 w = .range) : EVf (EV cfg) 40 [.str w, .int .i64 10, .int .i64 64] = some (.tup [.int .u64 18446744073709551615, .ifc 66 .junk]) := by
 refine qjZ (v' := .tup [.int .u64 18446744073709551615, .ifc 66 .junk]) (H := []) (qc7 ?_) rfl
 have hx : cfg.ext 40 = some zB := rfl
 unfold vL
 simp only [hx]
 unfold zB
 simp only [if_pos (show w.length ≤ 281474976710656 by omega), h]
def TokP (s : List UInt8) (p : Nat) : TkA → AV × AH → Prop
 | .ok k n w len, q => q = (.agg [.int .i64 k, .int .i64 n, .int .i64 0, .str w], spH s (p + len) 0)
 | .err x, q => x ≠ 0 ∧ ∃ (k n a : Int) (w : List UInt8) (p' : Int), q = (.agg [.int .i64 k, .int .i64 n, .int .i64 a, .str w], [.rows false 3 [[.str s, .int .i64 p', .int .i64 x]]])
theorem qiG {f : UInt8 → Bool} : ∀ (r : List UInt8), ∀ b ∈ r.takeWhile f, f b = true
 | [], b, h => by simp at h
 | a :: r, b, h => by
  rw [List.takeWhile_cons] at h
  split at h
  ·rename_i ha
   rcases qqn.1 h with rfl | h
   ·exact ha
   ·exact qiG r b h
  ·simp at h
theorem qkk {s : List UInt8} (hs : s.length < 1099511627776) {p : Nat} {b : UInt8} (hb : s[p]? = some b) (hd : qB b = true) :
  Gets (EVj (EV cfg) 22 1 [.ptr 0 0 0] (spH s p 0)) (TokP s p (if 576460752303423487 < numA ((s.drop p).takeWhile qB) then .err 342 else .ok 1 (numA ((s.drop p).takeWhile qB) : Int) [] ((s.drop p).takeWhile qB).length)) := by
 have hlt : p < s.length := (qpV.1 hb).1
 refine qiN _ _ _ ?_
 rw [qmO hs 0 (by omega)]
 have hne : (s.drop p).takeWhile qB ≠ [] := by rw [qL hb, List.takeWhile_cons, if_pos hd]; simp
 have hall := qiG (f := qB) (s.drop p)
 have hlen : ((s.drop p).takeWhile qB).length < 1099511627776 := by
  have := qdt (f := qB) (s.drop p)
  rw [qqp] at this
  omega
 have hpr := qi9 hne hall
 generalize (s.drop p).takeWhile qB = w at *
 simp only [qb, qe, qc, qw, qj, qp5, cond_true, qd, qk, ql, qf, qm, qo, qq]
 by_cases hm : numA w ≤ 18446744073709551615
 ·rw [if_pos hm] at hpr
  rw [qlz hlen hpr]
  have hbin : aBin cfg true BinOp.neq 56 AV.nilI AV.nilI = some (.bool false) := by kernel_rfl
  simp only [qb, qp5, cond_true, cond_false, qf, qo, qq, qr, qa, AV.refsLt, qD, hbin]
  by_cases hg : 576460752303423487 < numA w
  ·rw [decide_eq_true (show ((numA w : Nat) : Int) > 576460752303423487 by omega), if_pos hg]
   exact ⟨_, rfl, by decide, _, _, _, _, _, rfl⟩
  ·rw [decide_eq_false (show ¬ ((numA w : Nat) : Int) > 576460752303423487 by omega), if_neg hg, vK (by omega) (by omega)]
   exact ⟨_, rfl, rfl⟩
 ·rw [if_neg hm] at hpr
  rw [qhY hlen hpr, if_pos (show 576460752303423487 < numA w by omega)]
  have hbin : aBin cfg true BinOp.neq 56 (.ifc 66 .junk) AV.nilI = some (.bool true) := by kernel_rfl
  simp only [qb, qp5, cond_true, qf, qo, qq, qr, qa, AV.refsLt, qD, hbin]
  exact ⟨_, rfl, by decide, _, _, _, _, _, rfl⟩
theorem idx5 (c : UInt8) : Go.Lib.indexByte [110, 116, 114, 39, 92] c = if c == 110 then 0 else if c == 116 then 1 else if c == 114 then 2 else if c == 39 then 3 else if c == 92 then 4 else -1 := by
 have h : ∀ n : Fin 256, Go.Lib.indexByte [110, 116, 114, 39, 92] (UInt8.ofNat n) = if (UInt8.ofNat n) == 110 then 0 else if (UInt8.ofNat n) == 116 then 1 else if (UInt8.ofNat n) == 114 then 2 else if (UInt8.ofNat n) == 39 then 3 else if (UInt8.ofNat n) == 92 then 4 else -1 := by decide
 have := h ⟨c.toNat, c.toNat_lt⟩
 simpa using this
theorem qpQ (c : UInt8) : Go.Lib.indexByte [48, 49, 50, 51, 52, 53, 54, 55, 56, 57, 97, 98, 99, 100, 101, 102] c = match hexA c with | some x => (x : Int) | none => -1 := by
 have h : ∀ n : Fin 256, Go.Lib.indexByte [48, 49, 50, 51, 52, 53, 54, 55, 56, 57, 97, 98, 99, 100, 101, 102] (UInt8.ofNat n) = match hexA (UInt8.ofNat n) with | some x => (x : Int) | none => -1 := by decide
 have := h ⟨c.toNat, c.toNat_lt⟩
 simpa using this
theorem qet {c : UInt8} {x : Nat} (h : hexA c = some x) : x < 16 := by
 unfold hexA at h
 split at h
 ·rename_i hd
  have : 48 ≤ c.toNat ∧ c.toNat ≤ 57 := by simpa [qB] using hd
  cases h; omega
 ·split at h
  ·rename_i hd
   have : 97 ≤ c.toNat ∧ c.toNat ≤ 102 := by simpa using hd
   cases h; omega
  ·cases h
theorem qpq {x y : Nat} (hx : x < 16) (hy : y < 16) : ∃ n m : Int, xJ (Op.shift BinOp.shl .i64 (x : Int) .u64 4) = some (.int .i64 n) ∧ xJ (Op.intBits BinOp.or .i64 n (y : Int)) = some (.int .i64 m) ∧ IntKind.wrap .u8 m = ((UInt8.ofNat (16 * x + y)).toNat : Int) := by
 have h1 : ∀ x : Fin 16, (match xJ (Op.shift BinOp.shl .i64 ((x : Nat) : Int) .u64 4) with | some (.int .i64 n) => decide (n = ((16 * (x : Nat) : Nat) : Int)) | _ => false) = true := by decide
 have h2 : ∀ x y : Fin 16, (match xJ (Op.intBits BinOp.or .i64 ((16 * (x : Nat) : Nat) : Int) ((y : Nat) : Int)) with | some (.int .i64 m) => decide (IntKind.wrap .u8 m = ((UInt8.ofNat (16 * (x : Nat) + (y : Nat))).toNat : Int)) | _ => false) = true := by decide
 have e1 := h1 ⟨x, hx⟩
 have e2 := h2 ⟨x, hx⟩ ⟨y, hy⟩
 simp only at e1 e2
 split at e1
 ·rename_i n hn
  have hn2 := of_decide_eq_true e1
  subst hn2
  split at e2
  ·rename_i m hm
   exact ⟨_, m, hn, hm, of_decide_eq_true e2⟩
  ·cases e2
 ·cases e1
def EscP (s : List UInt8) (p : Nat) (e : Int) : Option (UInt8 × Nat) → AV × AH → Prop
 | some r, q => q = (.int .u8 (r.1.toNat : Int), spH s (p + r.2) e)
 | none, q => ∃ (n p' : Int), q = (.int .u8 n, [.rows false 3 [[.str s, .int .i64 p', .int .i64 341]]])
theorem qeD {s : List UInt8} (hs : s.length < 1099511627775) {p : Nat} (e : Int) (hp : p < s.length) :
  Gets (EVj (EV cfg) 41 1 [.ptr 0 0 0] (spH s p e)) (EscP s (p + 1) e (escA (s.drop (p + 1)))) := by
 refine qiP _ _ _ ?_
 unfold zc3 zc0 zc1 zc2
 rw [qM (by omega)]
 rcases yf (s := s) (p := p + 1) with h | ⟨c, hc⟩
 ·rw [qaM h, qqg h]
  simp only [qb, qe, qc, qw, qj, qp5, cond_true, qd, qk, ql, qf, qm, qo, qq, qr, qa, qaN]
  exact ⟨_, rfl, _, _, rfl⟩
 ·have hlt : p + 1 < s.length := (qpV.1 hc).1
  rw [qbx hc, qL hc]
  have hz : ((c.toNat : Int) != 0) = !(c == 0) := by rw [bne, show ((c.toNat : Int) == 0) = (c == 0) from uEq c 0]
  have h120 : ((c.toNat : Int) == 120) = (c == 120) := uEq c 120
  simp only [qb, qe, qc, qw, qj, qp5, cond_true, qd, qk, ql, qf, qm, qo, qq, qr, qa, qaN, qqc, show c.toNat.toUInt8 = c from UInt8.ofNat_toNat, idx5, hz, h120]
  rw [escA]
  by_cases h1 : c = 110
  ·subst h1; rw [qM (by omega)]; exact ⟨_, rfl, rfl⟩
  by_cases h2 : c = 116
  ·subst h2; rw [qM (by omega)]; exact ⟨_, rfl, rfl⟩
  by_cases h3 : c = 114
  ·subst h3; rw [qM (by omega)]; exact ⟨_, rfl, rfl⟩
  by_cases h4 : c = 39
  ·subst h4; rw [qM (by omega)]; exact ⟨_, rfl, rfl⟩
  by_cases h5 : c = 92
  ·subst h5; rw [qM (by omega)]; exact ⟨_, rfl, rfl⟩
  have f1 : (c == 110) = false := by simpa using h1
  have f2 : (c == 116) = false := by simpa using h2
  have f3 : (c == 114) = false := by simpa using h3
  have f4 : (c == 39) = false := by simpa using h4
  have f5 : (c == 92) = false := by simpa using h5
  simp only [f1, f2, f3, f4, f5, qp0, if_false, show decide ((-1 : Int) ≥ 0) = false from rfl, cond_false]
  by_cases h6 : c = 120
  ·subst h6
   simp only [show ((120 : UInt8) == 120) = true from rfl, if_true, cond_true]
   rw [qM (by omega), show IntKind.wrap .i64 (((p + 1 + 1 : Nat) : Int) + 2) = ((p + 1 + 3 : Nat) : Int) by rw [vK (by omega) (by omega)]; omega, qM (by omega)]
   rcases yf (s := s) (p := p + 1 + 1) with g | ⟨x, hx⟩
   ·rw [decide_eq_false (show ¬ ((p + 1 + 3 : Nat) : Int) ≤ (s.length : Int) by omega), qqg g]
    simp only [qbO]
    exact ⟨_, rfl, _, _, rfl⟩
   rcases yf (s := s) (p := p + 1 + 1 + 1) with g | ⟨y, hy⟩
   ·rw [decide_eq_false (show ¬ ((p + 1 + 3 : Nat) : Int) ≤ (s.length : Int) by omega), qL hx, qqg g]
    simp only [qbO]
    exact ⟨_, rfl, _, _, rfl⟩
   have hlt2 : p + 1 + 1 + 1 < s.length := (qpV.1 hy).1
   rw [decide_eq_true (show ((p + 1 + 3 : Nat) : Int) ≤ (s.length : Int) by omega), qL hx, qL hy]
   have l1 : qn 0 ((p + 1 + 1 : Nat) : Int) = true := by simp; omega
   have l2 : qn 0 ((p + 1 + 1 + 1 : Nat) : Int) = true := by simp; omega
   simp only [qb, cond_true, l1, l2, qqc, qY, hx, hy, show x.toNat.toUInt8 = x from UInt8.ofNat_toNat, show y.toNat.toUInt8 = y from UInt8.ofNat_toNat, qpQ, qbO]
   cases ha : hexA x with
   | none => exact ⟨_, rfl, _, _, rfl⟩
   | some a =>
    have hd : decide ((a : Int) ≥ 0) = true := by simp
    simp only [hd, cond_true]
    cases hb2 : hexA y with
    | none => exact ⟨_, rfl, _, _, rfl⟩
    | some b2 =>
     have hd2 : decide ((b2 : Int) ≥ 0) = true := by simp
     obtain ⟨n, m, e1, e2, e3⟩ := qpq (qet ha) (qet hb2)
     simp only [hd2, cond_true, e1, e2, e3, qb, cond_true, qo]
     exact ⟨_, rfl, rfl⟩
  ·have f6 : (c == 120) = false := by simpa using h6
   simp only [f6, qp0, if_false, cond_false]
   exact ⟨_, rfl, _, _, rfl⟩
theorem qfy (b : UInt8) : IntKind.wrap .i64 (b.toNat : Int) = (b.toNat : Int) := by
 have := b.toNat_lt
 rw [vK (by omega) (by omega)]
theorem qmQ {s : List UInt8} (hs : s.length < 1099511627775) {p : Nat} (hp : p < s.length) :
  Gets (EVj (EV cfg) 23 1 [.ptr 0 0 0] (spH s p 0)) (TokP s p (qbQ (s.drop (p + 1)))) := by
 refine qlC _ _ _ ?_
 unfold zc4 zc5
 rw [qM (by omega)]
 rcases yf (s := s) (p := p + 1) with h | ⟨c, hc⟩
 ·rw [qaM h, qqg h]
  simp only [qb, qe, qc, qw, qj, qp5, cond_true, cond_false, qd, qk, ql, qf, qm, qo, qq, qr, qa]
  exact ⟨_, rfl, by decide, _, _, _, _, _, rfl⟩
 ·have hlt : p + 1 < s.length := (qpV.1 hc).1
  rw [qbx hc, qL hc, qbQ]
  have h92 : ((c.toNat : Int) == 92) = (c == 92) := uEq c 92
  simp only [qb, qe, qc, qw, qj, qp5, cond_true, qd, qk, ql, qf, qm, qo, qq, qr, qa, h92]
  cases hc92 : c == 92 with
  | true =>
   simp only [cond_true, if_true]
   refine Gets.bind (qeD hs 0 hlt) fun q hq => ?_
   cases he : escA (s.drop (p + 1 + 1)) with
   | none =>
    rw [he] at hq
    obtain ⟨n, p', rfl⟩ := hq
    simp only [qe, qc, qw, qj, qp5, cond_true, qd, qk, ql, qf, qm, qo, qq]
    exact ⟨_, rfl, by decide, _, _, _, _, _, rfl⟩
   | some r =>
    rw [he] at hq
    cases hq
    simp only [qe, qc, qw, qj, qp5, cond_true, qd, qk, ql, qf, qm, qo, qq, qfy]
    refine ⟨_, rfl, ?_⟩
    show _ = _
    rw [show p + 1 + 1 + r.2 = p + (2 + r.2) by omega]
  | false =>
   simp only [cond_false, qp0, if_false]
   have d1 : decide ((c.toNat : Int) > 32) = decide (32 < c.toNat) := by simp only [decide_eq_decide]; omega
   have d2 : decide ((c.toNat : Int) < 127) = decide (c.toNat < 127) := by simp only [decide_eq_decide]; omega
   rw [d1, d2]
   cases decide (32 < c.toNat) with
   | false => exact ⟨_, rfl, by decide, _, _, _, _, _, rfl⟩
   | true =>
    cases decide (c.toNat < 127) with
    | false => exact ⟨_, rfl, by decide, _, _, _, _, _, rfl⟩
    | true =>
     simp only [cond_true, qp5, if_true, qfy]
     rw [qM (by omega)]
     exact ⟨_, rfl, rfl⟩
noncomputable def qpC : Den := evC cfg (EV cfg) 4 none 0 (sub (qE Tryd.f4) [1, 0, 1, 1, 1, 1, 0, 0, 0])
noncomputable def qpG : Ex × List AV × AH → Option (OV × AV) := kAft (Cfg.keepOut cfg 4 5) (kRun cfg (EV cfg) (kfN cfg 6) 4 none 0 (qoI cfg (Cfg.lift cfg 4 0) Tryd.f4.results.toList) ([.block 0, .seq (sub (qE Tryd.f4) [1, 0, 1, 1, 1, 1, 1]), .scope]))
noncomputable def qpA : List AV × AH → Option (OV × AV) := fun p => kOpt (LOOP 0 (some [0, 3, 4, 5]) ([(5, 4)]) qpC p) qpG
noncomputable def qpD : Den := evC cfg (EV cfg) 3 none 0 (sub (qE Tryd.f3) [1, 1, 1, 1, 1, 0, 1, 0, 0])
noncomputable def qpH : Ex × List AV × AH → Option AV := kAft (Cfg.keepOut cfg 3 8) (kRun cfg (EV cfg) (kfN cfg 6) 3 none 0 (qir cfg (Cfg.lift cfg 3 0) Tryd.f3.results.toList) ([.block 0, .seq (sub (qE Tryd.f3) [1, 1, 1, 1, 1, 1])]))
noncomputable def qnB : List AV × AH → Option AV := fun p => kOpt (LOOP 0 (some [0, 3, 5, 7]) ([]) qpD p) qpH
noncomputable abbrev qfw (t : Bz) (nv5 : Nat) (c0_0 c0_1 : Int) (c1_0 : Bz) (c1_1 c1_2 : Int) (h2 : Rz) : Option (OV × AV) := qpA  (((fx 46 [(0, .str t), (3, .ptr 0 0 0), (4, .ptr 1 0 0), (5, .ms 2 0 nv5)]) : List AV), ([.rows false 2 [[.int .i64 c0_0, .int .i64 c0_1]], .rows false 3 [[.str c1_0, .int .i64 c1_1, .int .i64 c1_2]], .rows true 4 h2] : AH))
noncomputable abbrev qpj (t : Bz) (rows : Rz) (v7 : Int) : Option (AV) := qnB  (((fx 53 [(0, .str t), (3, .nilS), (5, .sl rows), (7, .int .i64 v7)]) : List AV), ([] : AH))
noncomputable abbrev qcb (t : Bz) (sz off len : Nat) (rows : Rz) (v7 : Int) (h0 : Rz) : Option (AV) := qnB  (((fx 53 [(0, .str t), (3, .ms 0 off len), (5, .sl rows), (7, .int .i64 v7)]) : List AV), ([.rows true sz h0] : AH))
theorem qlm (t : Bz) {P : OV × AV → Prop} (h : Gets (bif decide ((t.length : Int) > 65536) then some (OV.own 4 [] 0 0, .agg [.int .i64 3, .int .i64 0]) else qfw t 0 0 0 t 0 (0 : Int) []) P) : Gets (EVq (EV cfg) 4 [.str t]) P :=
  gE (fun _ => funQ rfl rfl Tryd.func4 rfl) (by kernel_rfl) h
theorem qj9 (t : Bz) {P : AV → Prop} (h : Gets (bif decide ((t.length : Int) > 2000) then some (.bool true) else kOpt (EVq (EV cfg) 4 [.str t]) fun q => kAgg q.2 fun cs => qi cs fun c cs => kInt .i64 c fun n => qi cs fun c cs => kInt .i64 c fun n_1 => kNil cs (kOwn q.1 (kOpt (EVf (EV cfg) 5 [.str t]) fun v => kTup v fun cs => qi cs fun c cs => kSl c fun rows => qi cs fun c cs => kAgg c fun cs_1 => qi cs_1 fun c cs_2 => kInt .i64 c fun n_2 => qi cs_2 fun c cs_3 => kInt .i64 c fun n_3 => kNil cs_3 (kNil cs (bif qD 0 [.sl [], .sl rows] then kOpt (EVs (EV cfg) 6 [.sl [], .sl rows]) fun v => qJ v fun b => bif ! b then some (.bool false) else bif ! (decide (n = n_2) && (decide (n_1 = n_3) && true)) then some (.bool false) else qpj t rows 0 else none))) fun sz rs off len => kOpt (EVf (EV cfg) 5 [.str t]) fun v => kTup v fun cs => qi cs fun c cs => kSl c fun rows => qi cs fun c cs => kAgg c fun cs_1 => qi cs_1 fun c cs_2 => kInt .i64 c fun n_2 => qi cs_2 fun c cs_3 => kInt .i64 c fun n_3 => kNil cs_3 (kNil cs (bif qqk (off + len) (qp4 rs) && true then kOpt (EVs (EV cfg) 6 [.sl (qqf len (qqq off rs)), .sl rows]) fun v => qJ v fun b => bif ! b then some (.bool false) else bif ! (decide (n = n_2) && (decide (n_1 = n_3) && true)) then some (.bool false) else qcb t sz off len rows 0 rs else none)))) P) : Gets (EVs (EV cfg) 3 [.str t]) P :=
  gE (fun _ => funS rfl rfl Tryd.func3 rfl) (by kernel_rfl) h
theorem qj3 (t : Bz) (nv5 : Nat) (c0_0 c0_1 : Int) (c1_0 : Bz) (c1_1 c1_2 : Int) (h2 : Rz) {P : OV × AV → Prop} (h : Gets (kOpt (EVj (EV cfg) 8 1 [.ptr 0 0 0] [.rows false 3 [[.str c1_0, .int .i64 c1_1, .int .i64 c1_2]]]) fun q => qS q.2 fun b bs => qP b fun d' n rs => bif beqB false d' && qp6 n 3 then vj rs fun row rest => vC rest (vD bs (qi row fun c cs => kStr c fun s => qi cs fun c cs => kInt .i64 c fun n => qi cs fun c cs => kInt .i64 c fun n_1 => kNil cs (bif decide (n ≥ (t.length : Int)) then some (OV.own 4 h2 0 nv5, .agg [.int .i64 0, .int .i64 0]) else kOpt (EVj (EV cfg) 9 1 [.ptr 0 0 0] [.rows false 3 [[.str s, .int .i64 n, .int .i64 n_1]]]) fun q => qS q.2 fun b bs => qP b fun d' n_2 rs => bif beqB false d' && qp6 n_2 3 then vj rs fun row rest => vC rest (vD bs (qi row fun c cs => kStr c fun s => qi cs fun c cs => kInt .i64 c fun n_3 => qi cs fun c cs => kInt .i64 c fun n_4 => kNil cs (kAgg q.1 fun cs => qi cs fun c cs => kInt .i64 c fun n_5 => qi cs fun c cs => kInt .i64 c fun n_6 => qi cs fun c cs => kInt .i64 c fun n_7 => qi cs fun c cs => kStr c fun s_1 => kNil cs (bif n_4 != 0 then some (OV.own 4 [] 0 0, .agg [.int .i64 n_4, .int .i64 n]) else bif qqk (0 + nv5) (qp4 h2) && qH (nv5 + 1) 40 then qfw t (nv5 + 1) c0_0 c0_1 s n_3 n_4 (qqr (qqf nv5 h2) [[AV.int .i64 n_5, .int .i64 n_6, .int .i64 n, .str s_1]]) else none)))) else none))) else none) P) : Gets (qfw t nv5 c0_0 c0_1 c1_0 c1_1 c1_2 h2) P :=
  gE (fun _ => vt (cfg := cfg) (f := 4) (rd := none) (bs := 0)) (by kernel_rfl) h
noncomputable abbrev ze0 (v : AV) : Option (AV) := qJ v fun b => bif b then kOpt (EVs (EV cfg) 7 []) fun v => qJ v fun b => some (.bool b) else some (.bool false)
theorem qdr (t : Bz) (sz off len : Nat) (rows : Rz) (v7 : Int) (h0 : Rz) {P : AV → Prop} (h : Gets (bif decide (v7 < (↑ len : Int)) then bif qp6 sz 4 && qn 0 v7 && vS v7 (↑ len : Int) then kOpt (qp3 h0 (off + v7.toNat)) fun row => bif qqk 4 (qp4 row) then qcb t sz off len rows (IntKind.wrap .i64 (v7 + 1)) (List.set h0 (off + v7.toNat) (.int .i64 0 :: .int .i64 0 :: .int .i64 0 :: .str [] :: qqq 4 row)) else none else none else kOpt (EVq (EV cfg) 4 [.str t]) fun q => kAgg q.2 fun cs => qi cs fun c cs => kInt .i64 c fun n => qi cs fun c cs => kInt .i64 c fun n => kNil cs (kOwn q.1 (bif qD 0 [.sl [], .sl rows] then kOpt (EVs (EV cfg) 6 [.sl [], .sl rows]) fun v => ze0 v else none) fun sz rs off len => bif qqk (off + len) (qp4 rs) && true then kOpt (EVs (EV cfg) 6 [.sl (qqf len (qqq off rs)), .sl rows]) fun v => ze0 v else none)) P) : Gets (qcb t sz off len rows v7 h0) P :=
  gE (fun _ => vt (cfg := cfg) (f := 3) (rd := none) (bs := 0)) (by kernel_rfl) h
theorem qie {α : Type} (b : Bool) (x : Option α) (h : b = true) : Decidable.rec (motive := fun _ => Option α) (fun _ => none) (fun _ => x) (instDecidableEqBool b true) = x := by subst h; rfl
abbrev accR (s : List UInt8) : List (List AV) := s.map fun b => [AV.int .u8 (b.toNat : Int)]
theorem qaa : ∀ s : List UInt8, ve (accR s) = some s
 | [] => rfl
 | b :: s => by
  have h1 : (b.toNat : Int) < 256 := by have := b.toNat_lt; omega
  rw [accR, List.map_cons, ve, qaa s]
  simp [h1]
theorem xa (s : List UInt8) (b : UInt8) : qqr (qqf s.length (accR s)) [[AV.int .u8 (b.toNat : Int)]] = accR (s ++ [b]) := by
 rw [List.take_of_length_le (by simp)]
 show s.map _ ++ [_] = (s ++ [b]).map _
 rw [List.map_append]
 rfl
theorem qlB {n : Nat} (h : n < 1099511627776) : qH n 1 = true := by unfold qH; simp only [nble, qpW, decide_eq_true_eq]; omega
theorem qha {n : Nat} (h : n < 1099511627776) : qH n 40 = true := by unfold qH; simp only [nble, qpW, decide_eq_true_eq]; omega
theorem qhw {s : List UInt8} {p d : Nat} {k : Int} {w : List UInt8} {len : Nat} {q : AV × AH} (h : TokP s (p + d) (vq k w len) q) : TokP s p (vq k w (len + d)) q := by
 unfold vq at h ⊢
 split at h
 ·rename_i h1; rw [if_pos h1]; exact h
 ·rename_i h1
  rw [if_neg h1]
  have h : q = _ := h
  show q = _
  rw [h, show p + d + len = p + (len + d) by omega]
def QuoP (s : List UInt8) (p : Nat) : Option (List UInt8 × Nat) → AV × AH → Prop
 | some q, r => TokP s p (vq 2 q.1 q.2) r
 | none, r => TokP s p (.err 341) r
theorem qcM {s : List UInt8} {p d : Nat} {o : Option (List UInt8 × Nat)} {r : AV × AH} (h : QuoP s (p + d) o r) : QuoP s p (o.map fun q => (q.1, q.2 + d)) r := by
 cases o with
 | none => exact h
 | some q => exact qhw h
theorem qbw {s : List UInt8} {p : Nat} {p' : Int} {n : Nat} {a b c : Int} {d : List UInt8} {h2 : List (List AV)} : Gets (xL n s p' 341 a b c d h2) (QuoP s p none) := by
 refine qc8 _ _ _ _ _ _ _ _ _ ?_
 unfold zc12 zc13 zc14 zc15 zc6 zc7 zc8 zc9 zc10 zc11
 simp only [show ((341 : Int) == 0) = false from rfl, cond_false]
 exact ⟨_, rfl, by decide, _, _, _, _, _, rfl⟩
theorem qly {s : List UInt8} (hs : s.length < 1000000000000) : ∀ (k p : Nat) (acc : List UInt8), s.length - p = k → p ≤ s.length → acc.length ≤ p → Gets (xL acc.length s (p : Int) 0 0 0 0 [] (accR acc)) (QuoP s p (vX 0 (s.drop p) acc)) := by
 intro k
 induction k using Nat.strongRecOn with
 | _ k ih =>
  intro p acc hk hp ha
  refine qc8 _ _ _ _ _ _ _ _ _ ?_
  unfold zc12 zc13 zc14 zc15 zc6 zc7 zc8 zc9 zc10 zc11
  simp only [show ((0 : Int) == 0) = true from rfl, cond_true]
  rcases yf (s := s) (p := p) with h | ⟨c, hc⟩
  ·rw [qaM h, qqg h]
   simp only [qb, qe, qc, qw, qj, qp5, cond_true, cond_false, qd, qk, ql, qf, qm, qo, qq, qr, qa]
   exact qbw
  ·have hlt : p < s.length := (qpV.1 hc).1
   rw [qbx hc, qL hc, vX]
   have h39 : ((c.toNat : Int) == 39) = (c == 39) := uEq c 39
   have h92 : ((c.toNat : Int) == 92) = (c == 92) := uEq c 92
   have hb1 : qqk (0 + acc.length) (accR acc).length = true := by simp
   have hft : qH (acc.length + 1) 1 = true := qlB (by omega)
   simp only [qb, qe, qc, qw, qj, qp5, cond_true, qd, qk, ql, qf, qm, qo, qq, qr, qa, h39, h92, hb1, hft]
   cases hc39 : c == 39 with
   | true =>
    simp only [cond_true, if_true]
    rw [qie _ _ (by simp), List.drop_zero, List.take_of_length_le (by simp)]
    simp only [qb, qaa]
    rw [qM (by omega), qfI]
    simp only [qb, qe, qc, qw, qj, qp5, cond_true, qd, qk, ql, qf, qm, qo, qq, qt]
    refine ⟨_, rfl, ?_⟩
    show TokP s p (vq 2 acc 1) _
    unfold vq
    by_cases hl : 64 < acc.length
    ·rw [if_pos hl]; exact ⟨by decide, _, _, _, _, _, by rw [if_pos hl]⟩
    ·rw [if_neg hl]
     show _ = _
     rw [if_neg hl]
   | false =>
    simp only [cond_false, qp0, if_false]
    cases hc92 : c == 92 with
    | true =>
     simp only [cond_true, if_true]
     refine Gets.bind (qeD (by omega) 0 hlt) fun q hq => ?_
     cases he : escA (s.drop (p + 1)) with
     | none =>
      rw [he] at hq
      obtain ⟨n, p', rfl⟩ := hq
      simp only [qe, qc, qw, qj, qp5, cond_true, qd, qk, ql, qf, qm, qo, qq]
      exact qbw
     | some r =>
      rw [he] at hq
      cases hq
      have hr := qc3 he
      rw [qqp] at hr
      simp only [qe, qc, qw, qj, qp5, cond_true, qd, qk, ql, qf, qm, qo, qq]
      rw [xa, qaO _ _ _ (by rw [qqp]; exact hr.2), List.drop_drop]
      have := ih (s.length - (p + 1 + r.2)) (by omega) (p + 1 + r.2) (acc ++ [r.1]) rfl (by omega) (by simp; omega)
      rw [qqe] at this
      refine this.mono fun q hq => ?_
      have := qcM (p := p + 1) (d := r.2) hq
      exact qcM (d := 1) this
    | false =>
     simp only [cond_false, qp0, if_false]
     have d1 : decide ((c.toNat : Int) ≥ 32) = decide (32 ≤ c.toNat) := by simp only [decide_eq_decide]; omega
     have d2 : decide ((c.toNat : Int) < 127) = decide (c.toNat < 127) := by simp only [decide_eq_decide]; omega
     rw [d1, d2]
     cases decide (32 ≤ c.toNat) with
     | false => exact qbw
     | true =>
      cases decide (c.toNat < 127) with
      | false => exact qbw
      | true =>
       simp only [cond_true, qp5, if_true]
       rw [xa, qM (by omega)]
       have := ih (s.length - (p + 1)) (by omega) (p + 1) (acc ++ [c]) rfl (by omega) (by simp; omega)
       rw [qqe] at this
       exact this.mono fun q hq => qcM (d := 1) hq
theorem qki {s : List UInt8} (hs : s.length < 1000000000000) {p : Nat} (hp : p < s.length) :
  Gets (EVj (EV cfg) 24 1 [.ptr 0 0 0] (spH s p 0)) (TokP s p (match vX 0 (s.drop (p + 1)) [] with | some q => vq 2 q.1 (q.2 + 1) | none => .err 341)) := by
 refine qiM _ _ _ ?_
 rw [qM (by omega)]
 refine (qly hs _ (p + 1) [] rfl (by omega) (by simp)).mono fun r hr => ?_
 cases hq : vX 0 (s.drop (p + 1)) [] with
 | none => rw [hq] at hr; exact hr
 | some q => rw [hq] at hr; exact qhw (d := 1) hr
theorem qg6 {l : List (List UInt8)} {i : Nat} {s : List UInt8} (h : l[i]? = some s) : (strR l)[i]? = some [AV.str s] := by simp [strR, h]
theorem qkg {s : List UInt8} (hs : s.length < 1000000000000) {p : Nat} {c : UInt8} (hc : s[p]? = some c) (l : List (List UInt8)) (hl : l.length < 100) (hg : ∀ g ∈ l, g.length < 100) : ∀ (k i : Nat), i + k = l.length →
  Gets (qcC s (p : Int) (strR l) (i : Int) s (p : Int) 0 0 0 0 []) (TokP s p (match (l.drop i).find? (fun g => g.isPrefixOf (s.drop p)) with | some g => .ok 5 0 g g.length | none => if yp (s.drop p) then .ok 6 0 [] 1 else .err 340)) := by
 have hlt : p < s.length := (qpV.1 hc).1
 intro k
 induction k with
 | zero =>
  intro i hi
  refine qc9 _ _ _ _ _ _ _ _ _ _ _ ?_
  unfold zb9
  rw [decide_eq_false (show ¬ (i : Int) < ((strR l).length : Int) by simp; omega), qqg (show l.length ≤ i by omega)]
  simp only [cond_false, qqc, qe4, qY, List.find?_nil]
  rw [qL hc]
  have h46 : ((c.toNat : Int) == 46) = (c == 46) := uEq c 46
  simp only [List.getElem?_cons_zero, qb, h46]
  by_cases hc46 : c = 46
  ·subst hc46
   simp only [show ((46 : UInt8) == 46) = true from rfl, cond_true]
   rcases yf (s := s) (p := p + 1) with h | ⟨x, hx⟩
   ·rw [qqg h]
    simp only [List.length_cons, List.length_nil, show ((((0 + 1 : Nat)) : Int) == 1) = true from rfl, cond_true, yp, if_true]
    rw [qM (by omega)]
    exact ⟨_, rfl, rfl⟩
   ·rw [qL hx]
    have e1 : (((46 :: x :: s.drop (p + 1 + 1)).length : Int) == 1) = false := by simp only [List.length_cons, beq_eq_false_iff_ne, ne_eq]; omega
    have h37 : ((x.toNat : Int) == 37) = (x == 37) := uEq x 37
    simp only [e1, cond_false, qqm, List.getElem?_cons_zero, qb, qfK, qa, h37, yp]
    rw [qM (by omega)]
    cases zp x with
    | true => exact ⟨_, rfl, rfl⟩
    | false =>
     cases x == 37 with
     | true => exact ⟨_, rfl, rfl⟩
     | false => exact ⟨_, rfl, by decide, _, _, _, _, _, rfl⟩
  ·have f : (c == 46) = false := by simpa using hc46
   have f2 : yp (c :: s.drop (p + 1)) = false := by
    unfold yp
    split
    ·rename_i h; cases h; exact absurd rfl hc46
    ·rfl
   simp only [f, cond_false, f2, qp0, if_false]
   exact ⟨_, rfl, by decide, _, _, _, _, _, rfl⟩
 | succ k ih =>
  intro i hi
  have hil : i < l.length := by omega
  refine qc9 _ _ _ _ _ _ _ _ _ _ _ ?_
  unfold zb9
  rw [decide_eq_true (show (i : Int) < ((strR l).length : Int) by simp; omega)]
  have e1 : (qn 0 (i : Int) && vS (i : Int) ((strR l).length : Int)) = true := by simp; omega
  have hgl := hg l[i] (List.getElem_mem hil)
  simp only [e1, cond_true, qqc, qY, qg6 (qp1 hil), qb, List.length_cons, List.length_nil, show qp6 (0 + 1) 1 = true from rfl, List.getElem?_cons_zero, qm, qe4]
  rw [qkj _ _ (by rw [qqp]; omega), List.drop_eq_getElem_cons hil, List.find?_cons]
  cases hpr : l[i].isPrefixOf (s.drop p) with
  | true =>
   have hle := (List.isPrefixOf_iff_prefix.1 hpr).length_le
   simp only [qb, qa, cond_true]
   rw [qoC (by omega) (by omega)]
   exact ⟨_, rfl, rfl⟩
  | false =>
   simp only [qb, qa, cond_false]
   rw [qM (by omega)]
   exact ih (i + 1) (by omega)
theorem qmM {s : List UInt8} (hs : s.length < 1000000000000) {p : Nat} {c : UInt8} (hc : s[p]? = some c) :
  Gets (EVj (EV cfg) 31 1 [.ptr 0 0 0] (spH s p 0)) (TokP s p (match qfL (s.drop p) with | some g => .ok 5 0 g g.length | none => if yp (s.drop p) then .ok 6 0 [] 1 else .err 340)) := by
 have hlt : p < s.length := (qpV.1 hc).1
 refine qlu _ _ _ ?_
 have e1 : (qn 0 (p : Int) && qn (p : Int) (s.length : Int)) = true := by simp; omega
 rw [e1, qlt]
 simp only [cond_true, qb, qdQ]
 exact qkg hs hc qbc (by decide) (by decide) 24 0 (by decide)
theorem qci {s : List UInt8} {p : Nat} {t : TkA} {o : Option (AV × AH)} {K : AV × AH → Option (AV × AH)} (h : Gets o (TokP s p t))
  (hK : ∀ (k n a : Int) (w : List UInt8) (p' e' : Int), K (.agg [.int .i64 k, .int .i64 n, .int .i64 a, .str w], [.rows false 3 [[.str s, .int .i64 p', .int .i64 e']]]) = some (.agg [.int .i64 k, .int .i64 n, .int .i64 a, .str w], [.rows false 3 [[.str s, .int .i64 p', .int .i64 e']]])) : Gets (kOpt o K) (TokP s p t) := by
 refine Gets.bind h fun q hq => ?_
 cases t with
 | ok k n w len =>
  cases hq
  exact ⟨_, hK _ _ _ _ _ _, rfl⟩
 | err x =>
  obtain ⟨h0, k, n, a, w, p', rfl⟩ := hq
  exact ⟨_, hK _ _ _ _ _ _, h0, _, _, _, _, _, rfl⟩
theorem qhA {s : List UInt8} (hs : s.length < 1000000000000) {p : Nat} (hp : p ≤ s.length) (k : Int) (w : List UInt8) (len : Nat) : Gets (EVj (EV cfg) 26 1 [.ptr 0 0 0, .int .i64 k, .str w] (spH s (p + len) 0)) (TokP s p (vq k w len)) := by
 rw [qfI]
 refine ⟨_, rfl, ?_⟩
 unfold vq
 by_cases hl : 64 < w.length
 ·rw [if_pos hl, if_pos hl]; exact ⟨by decide, _, _, _, _, _, rfl⟩
 ·rw [if_neg hl, if_neg hl]; rfl
theorem qmP {s : List UInt8} (hs : s.length < 4000000000) {p : Nat} {c : UInt8} (hc : s[p]? = some c) :
  Gets (EVj (EV cfg) 9 1 [.ptr 0 0 0] (spH s p 0)) (TokP s p (tokR (s.drop p))) := by
 have hlt : p < s.length := (qpV.1 hc).1
 refine qlA _ _ _ ?_
 unfold zd0 zd1 zd2 zd3 zd4 zd5 zd6 zd7 zd8 zd9 zd10 zd11 zd12 zd13 zd14 zd15
 have h0 : qn 0 (p : Int) = true := by simp
 have h36 : ((c.toNat : Int) == 36) = (c == 36) := uEq c 36
 have h39 : ((c.toNat : Int) == 39) = (c == 39) := uEq c 39
 rw [h0, qqc, qY, hc]
 simp only [qb, cond_true, qcH, qa, h36, h39, qiQ, qfH]
 have hd : s.drop p = c :: s.drop (p + 1) := qL hc
 have hnum := fun h => qkk (s := s) (by omega) hc h
 have hchr := qmQ (s := s) (by omega) hlt
 have hquo := qki (s := s) (by omega) hlt
 have hsig := qmM (s := s) (by omega) hc
 have htw : tokR (s.drop p) = if qB c then (if 576460752303423487 < numA ((s.drop p).takeWhile qB) then .err 342 else .ok 1 (numA ((s.drop p).takeWhile qB) : Int) [] ((s.drop p).takeWhile qB).length)
  else if c == 36 then qbQ (s.drop (p + 1))
  else if c == 39 then (match vX 0 (s.drop (p + 1)) [] with | some q => vq 2 q.1 (q.2 + 1) | none => .err 341)
  else if bigA c then vq 3 ((s.drop p).takeWhile qA) ((s.drop p).takeWhile qA).length
  else if vB c then (if vT.contains ((s.drop p).takeWhile qA) then .ok 4 0 ((s.drop p).takeWhile qA) ((s.drop p).takeWhile qA).length else vq 2 ((s.drop p).takeWhile qA) ((s.drop p).takeWhile qA).length)
  else (match qfL (s.drop p) with | some g => .ok 5 0 g g.length | none => if yp (s.drop p) then .ok 6 0 [] 1 else .err 340) := by rw [hd]; rfl
 rw [htw]
 cases hdg : qB c with
 | true =>
  simp only [cond_true, if_true]
  exact qci (hnum hdg) (fun k n a w p' e' => by simp only [qe, qc, qw, qj, qp5, cond_true, qd, qk, ql, qf, qm, qo, qq, qt])
 | false =>
  simp only [cond_false, qp0, if_false]
  cases h1 : c == 36 with
  | true =>
   simp only [cond_true, if_true]
   exact qci hchr (fun k n a w p' e' => by simp only [qe, qc, qw, qj, qp5, cond_true, qd, qk, ql, qf, qm, qo, qq, qt])
  | false =>
   simp only [cond_false, qp0, if_false]
   cases h2 : c == 39 with
   | true =>
    simp only [cond_true, if_true]
    exact qci hquo (fun k n a w p' e' => by simp only [qe, qc, qw, qj, qp5, cond_true, qd, qk, ql, qf, qm, qo, qq, qt])
   | false =>
    simp only [cond_false, qp0, if_false]
    have hall := qiG (f := qA) (s.drop p)
    have hln := qdt (f := qA) (s.drop p)
    rw [qqp] at hln
    rw [qmN (by omega) 0 (by omega)]
    generalize (s.drop p).takeWhile qA = w at *
    cases hbg : bigA c with
    | true =>
     simp only [qb, qe, qc, qw, qj, qp5, cond_true, qd, qk, ql, qf, qm, qo, qq, if_true]
     exact qci (qhA (s := s) (by omega) (by omega) 3 w w.length) (fun k n a w p' e' => by simp only [qe, qc, qw, qj, qp5, cond_true, qd, qk, ql, qf, qm, qo, qq, qt])
    | false =>
     simp only [cond_false, qp0, if_false]
     cases hsm : vB c with
     | true =>
      have hnb : (32 : UInt8) ∉ w := qfc (List.all_eq_true.2 hall)
      simp only [qb, qe, qc, qw, qj, qp5, cond_true, qd, qk, ql, qf, qm, qo, qq, if_true]
      rw [qmK hnb (by omega)]
      simp only [qb, qa]
      cases vT.contains w with
      | true => exact ⟨_, rfl, rfl⟩
      | false =>
       simp only [cond_false, qp0, if_false]
       exact qci (qhA (s := s) (by omega) (by omega) 2 w w.length) (fun k n a w p' e' => by simp only [qe, qc, qw, qj, qp5, cond_true, qd, qk, ql, qf, qm, qo, qq, qt])
     | false =>
      simp only [cond_false, qp0, if_false]
      exact qci hsig (fun k n a w p' e' => by simp only [qe, qc, qw, qj, qp5, cond_true, qd, qk, ql, qf, qm, qo, qq, qt])
def ovS : ScA → OV × AV
 | .ok l => (.own 4 (qN l) 0 l.length, .agg [.int .i64 0, .int .i64 0])
 | .bad e a => (.own 4 [] 0 0, .agg [.int .i64 e, .int .i64 (a : Int)])
theorem qkh {s : List UInt8} (hs : s.length < 4000000000) : ∀ (f p : Nat) (l : List TokA), s.length < p + f → p ≤ s.length → l.length ≤ p → Gets (qfw s l.length 0 0 s (p : Int) 0 (qN l)) (· = ovS (qbA s f p l)) := by
 intro f
 induction f with
 | zero => intro p l h1 h2; omega
 | succ f ih =>
  intro p l h1 h2 h3
  refine qj3 _ _ _ _ _ _ _ _ ?_
  rw [qmL (by omega) 0 h2]
  have hsk := zz false (s.drop p)
  rw [qqp] at hsk
  simp only [qb, qe, qc, qw, qj, qp5, cond_true, qd, qk, ql, qf, qm, qo, qq]
  rw [qbA]
  generalize hp1 : p + qX false (s.drop p) = p1 at *
  rcases yf (s := s) (p := p1) with h | ⟨c, hc⟩
  ·rw [decide_eq_true (show (p1 : Int) ≥ (s.length : Int) by omega)]
   rw [if_pos h]
   exact ⟨_, rfl, rfl⟩
  ·have hlt : p1 < s.length := (qpV.1 hc).1
   rw [decide_eq_false (show ¬ (p1 : Int) ≥ (s.length : Int) by omega)]
   simp only [cond_false]
   rw [if_neg (show ¬ s.length ≤ p1 by omega)]
   refine Gets.bind (qmP (by omega) hc) fun q hq => ?_
   cases ht : tokR (s.drop p1) with
   | err x =>
    rw [ht] at hq
    obtain ⟨h0, k, n, a, w, p', rfl⟩ := hq
    simp only [qe, qc, qw, qj, qp5, cond_true, qd, qk, ql, qf, qm, qo, qq, qt]
    have hne : (x != 0) = true := by simpa using h0
    simp only [hne, cond_true]
    exact ⟨_, rfl, rfl⟩
   | ok k n w len =>
    rw [ht] at hq
    cases hq
    have hlen := qe3 (by rw [← qL hc]; exact ht)
    rw [← qL hc, qqp] at hlen
    have hb1 : qqk (0 + l.length) (qN l).length = true := by simp
    have hft : qH (l.length + 1) 40 = true := qha (by omega)
    simp only [qe, qc, qw, qj, qp5, cond_true, cond_false, qd, qk, ql, qf, qm, qo, qq, qt, show ((0 : Int) != 0) = false from rfl, hb1, hft, qoD]
    have := ih (p1 + len) (l ++ [⟨k, n, (p1 : Nat), w⟩]) (by omega) (by omega) (by simp; omega)
    rw [qqe] at this
    rw [List.take_of_length_le (by simp), show qqr (qN l) [[AV.int .i64 k, .int .i64 n, .int .i64 (p1 : Int), .str w]] = qN (l ++ [⟨k, n, (p1 : Nat), w⟩]) by unfold qN; rw [List.map_append]; rfl]
    exact this
theorem qhy {s : List UInt8} (hs : s.length < 100000000000) : EVq (EV cfg) 4 [.str s] = some (ovS (qbz s)) := by
 apply Gets.get
 refine qlm _ ?_
 unfold qbz
 by_cases h : 65536 < s.length
 ·rw [decide_eq_true (show (s.length : Int) > 65536 by omega), if_pos h]
  exact ⟨_, rfl, rfl⟩
 ·rw [decide_eq_false (show ¬ (s.length : Int) > 65536 by omega), if_neg h]
  exact qkh (by omega) (s.length + 1) 0 [] (by omega) (by omega) (by simp)
noncomputable def qjX : Den := evC cfg (EV cfg) 10 none 2 (sub (qE Tryd.f10) [0, 0])
noncomputable def qj0 : Ex × List AV × AH → Option (AV × AH) := kAft (Cfg.keepOut cfg 10 0) (kRun cfg (EV cfg) (kfN cfg 6) 10 none 2 (xW cfg 1 (Cfg.lift cfg 10 0) Tryd.f10.results.toList) ([.block 0]))
noncomputable def qog : List AV × AH → Option (AV × AH) := fun p => kOpt (LOOP 2 (some [0]) ([]) qjX p) qj0
noncomputable def qoo : Den := evC cfg (EV cfg) 10 none 2 (sub (qE Tryd.f10) [0, 0, 1, 0, 0, 1, 0, 0, 0, 0])
noncomputable def qoz : Ex × List AV × AH → Option (AV × AH) := kAft (Cfg.keepOut cfg 10 2) (kRun cfg (EV cfg) (kfN cfg 6) 10 none 2 (kLp 2 (some [0]) ([]) qjX qj0) ([.block 2, .seq (sub (qE Tryd.f10) [0, 0, 1, 0, 0, 1, 0, 1]), .seq (sub (qE Tryd.f10) [0, 0, 1, 0, 1]), .block 1]))
noncomputable def qof : List AV × AH → Option (AV × AH) := fun p => kOpt (LOOP 2 (some [0]) ([]) qoo p) qoz
noncomputable abbrev yM (c0_0 : Bz) (c0_1 c0_2 c0_3 : Int) (nc0_4 : Nat) (h1 : Rz) : Option (AV × AH) := qog  (((fx 69 [(0, .ptr 0 0 0)]) : List AV), ([.rows false 5 [[.str c0_0, .int .i64 c0_1, .int .i64 c0_2, .int .i64 c0_3, .ms 1 0 nc0_4]], .rows true 4 h1] : AH))
noncomputable abbrev qa9 (c0_0 : Bz) (c0_1 c0_2 c0_3 : Int) (nc0_4 : Nat) (h1 : Rz) : Option (AV × AH) := qof  (((fx 69 [(0, .ptr 0 0 0)]) : List AV), ([.rows false 5 [[.str c0_0, .int .i64 c0_1, .int .i64 c0_2, .int .i64 c0_3, .ms 1 0 nc0_4]], .rows true 4 h1] : AH))
theorem qfP (s : Bz) (p fr e : Int) (out : Rz) {P : AV × AH → Prop} (h : Gets (bif decide (p ≥ (s.length : Int)) then some (.int .u8 0, [.rows false 5 [[.str s, .int .i64 p, .int .i64 fr, .int .i64 e, .ms 1 0 (qp4 out)]], .rows true 4 out]) else bif qn 0 p then kOpt (qp3 s (p.toNat)) fun b => some (.int .u8 (↑ (UInt8.toNat b) : Int), [.rows false 5 [[.str s, .int .i64 p, .int .i64 fr, .int .i64 e, .ms 1 0 (qp4 out)]], .rows true 4 out]) else none) P) : Gets (EVj (EV cfg) 36 1 [.ptr 0 0 0] ([ABlk.rows false (5 : Nat) [[AV.str s, AV.int IntKind.i64 p, AV.int IntKind.i64 fr, AV.int IntKind.i64 e, AV.ms (1 : Nat) (0 : Nat) (qp4 out)]], ABlk.rows true (4 : Nat) out] : AH)) P :=
  gE (fun _ => funJ rfl rfl Tryd.func36 rfl) (by kernel_rfl) h
theorem qlH (s : Bz) (p fr e : Int) (out : Rz) {P : AV × AH → Prop} (h : Gets (yM s p fr e (qp4 out) out) P) : Gets (EVj (EV cfg) 10 1 [.ptr 0 0 0] ([ABlk.rows false (5 : Nat) [[AV.str s, AV.int IntKind.i64 p, AV.int IntKind.i64 fr, AV.int IntKind.i64 e, AV.ms (1 : Nat) (0 : Nat) (qp4 out)]], ABlk.rows true (4 : Nat) out] : AH)) P :=
  gE (fun _ => funJ rfl rfl Tryd.func10 rfl) (by kernel_rfl) h
noncomputable abbrev zf0 (s : Bz) (n n_1 : Int) (rs : Rz) : Option (AV × AH) := some (.int .u8 0, [.rows false 5 [[.str s, .int .i64 (IntKind.wrap .i64 (n + 1)), .int .i64 n_1, .int .i64 341, .ms 1 0 (qp4 rs)]], .rows true 4 rs])
theorem qi0 (s : Bz) (p fr e : Int) (out : Rz) {P : AV × AH → Prop} (h : Gets (kOpt (EVj (EV cfg) 36 1 [.ptr 0 0 0] [.rows false 5 [[.str s, .int .i64 p, .int .i64 fr, .int .i64 e, .ms 1 0 (qp4 out)]], .rows true 4 out]) fun q => qS q.2 fun b bs => qP b fun d' n rs => bif beqB false d' && qp6 n 5 then vj rs fun row rest => vC rest (qS bs fun b bs => qP b fun d' n rs => bif beqB true d' && qp6 n 4 then vD bs (qi row fun c cs => kStr c fun s => qi cs fun c cs => kInt .i64 c fun n => qi cs fun c cs => kInt .i64 c fun n_1 => qi cs fun c cs => kInt .i64 c fun n_2 => qi cs fun c cs => kMsE c fun id off len => bif qp6 id 1 && (qp6 off 0 && qp6 len (qp4 rs)) then kNil cs (kInt .u8 q.1 fun n_3 => bif n_3 == 110 then some (.int .u8 10, [.rows false 5 [[.str s, .int .i64 (IntKind.wrap .i64 (n + 1)), .int .i64 n_1, .int .i64 n_2, .ms 1 0 (qp4 rs)]], .rows true 4 rs]) else bif n_3 == 116 then some (.int .u8 9, [.rows false 5 [[.str s, .int .i64 (IntKind.wrap .i64 (n + 1)), .int .i64 n_1, .int .i64 n_2, .ms 1 0 (qp4 rs)]], .rows true 4 rs]) else bif n_3 == 114 then some (.int .u8 13, [.rows false 5 [[.str s, .int .i64 (IntKind.wrap .i64 (n + 1)), .int .i64 n_1, .int .i64 n_2, .ms 1 0 (qp4 rs)]], .rows true 4 rs]) else bif n_3 == 39 then some (.int .u8 n_3, [.rows false 5 [[.str s, .int .i64 (IntKind.wrap .i64 (n + 1)), .int .i64 n_1, .int .i64 n_2, .ms 1 0 (qp4 rs)]], .rows true 4 rs]) else bif n_3 == (92 : Int) then some (.int .u8 n_3, [.rows false 5 [[.str s, .int .i64 (IntKind.wrap .i64 (n + 1)), .int .i64 n_1, .int .i64 n_2, .ms 1 0 (qp4 rs)]], .rows true 4 rs]) else bif n_3 == 120 then bif decide (IntKind.wrap .i64 (IntKind.wrap .i64 (n + 1) + 2) ≤ (s.length : Int)) then bif qn 0 (IntKind.wrap .i64 (n + 1)) then kOpt (qp3 s (qp9 (IntKind.wrap .i64 (n + 1)))) fun b => kOpt (EVs (EV cfg) 45 [AV.int .u8 (↑ (UInt8.toNat b) : Int)]) fun v => kInt .i64 v fun n_4 => bif decide (n_4 ≥ 0) then bif qn 0 (IntKind.wrap .i64 (IntKind.wrap .i64 (n + 1) + 1)) then kOpt (qp3 s (qp9 (IntKind.wrap .i64 (IntKind.wrap .i64 (n + 1) + 1)))) fun b => kOpt (EVs (EV cfg) 45 [AV.int .u8 (↑ (UInt8.toNat b) : Int)]) fun v => kInt .i64 v fun n_5 => bif decide (n_5 ≥ 0) then bif qn 0 (IntKind.wrap .i64 (IntKind.wrap .i64 (IntKind.wrap .i64 (n + 1) + 2) - 2)) then kOpt (qp3 s (qp9 (IntKind.wrap .i64 (IntKind.wrap .i64 (IntKind.wrap .i64 (n + 1) + 2) - 2)))) fun b => kOpt (EVs (EV cfg) 45 [AV.int .u8 (↑ (UInt8.toNat b) : Int)]) fun v => kInt .i64 v fun n_6 => bif qn 0 (IntKind.wrap .i64 (IntKind.wrap .i64 (IntKind.wrap .i64 (n + 1) + 2) - 1)) then kOpt (qp3 s (qp9 (IntKind.wrap .i64 (IntKind.wrap .i64 (IntKind.wrap .i64 (n + 1) + 2) - 1)))) fun b => kOpt (EVs (EV cfg) 45 [AV.int .u8 (↑ (UInt8.toNat b) : Int)]) fun v => kInt .i64 v fun n_7 => some (.int .u8 (IntKind.wrap .u8 (IntKind.wrap .i64 (IntKind.wrap .i64 (16 * n_6) + n_7))), [.rows false 5 [[.str s, .int .i64 (IntKind.wrap .i64 (IntKind.wrap .i64 (n + 1) + 2)), .int .i64 n_1, .int .i64 n_2, .ms 1 0 (qp4 rs)]], .rows true 4 rs]) else none else none else zf0 s n n_1 rs else none else some (.int .u8 0, [.rows false 5 [[.str s, .int .i64 (IntKind.wrap .i64 (n + 1)), .int .i64 n_1, .int .i64 (341 : Int), .ms 1 0 (qp4 rs)]], .rows true 4 rs]) else none else zf0 s n n_1 rs else zf0 s n n_1 rs) else none) else none) else none) P) : Gets (EVj (EV cfg) 37 1 [.ptr 0 0 0] ([ABlk.rows false (5 : Nat) [[AV.str s, AV.int IntKind.i64 p, AV.int IntKind.i64 fr, AV.int IntKind.i64 e, AV.ms (1 : Nat) (0 : Nat) (qp4 out)]], ABlk.rows true (4 : Nat) out] : AH)) P :=
  gE (fun _ => funJ rfl rfl Tryd.func37 rfl) (by kernel_rfl) h
theorem qaF (c0_0 : Bz) (c0_1 c0_2 c0_3 : Int) (nc0_4 : Nat) (h1 : Rz) {P : AV × AH → Prop} (h : Gets (bif decide (c0_1 < (c0_0.length : Int)) then bif qn 0 c0_1 then kOpt (qp3 c0_0 (c0_1.toNat)) fun b => bif (↑ (UInt8.toNat b) : Int) == 37 then qa9 c0_0 c0_1 c0_2 c0_3 nc0_4 h1 else bif qn 0 c0_1 then kOpt (qp3 c0_0 (c0_1.toNat)) fun b => kOpt (EVs (EV cfg) 32 [AV.int .u8 (↑ (UInt8.toNat b) : Int)]) fun v => qJ v fun b => bif ! b then some (AV.tup [], [.rows false 5 [[.str c0_0, .int .i64 c0_1, .int .i64 c0_2, .int .i64 c0_3, .ms 1 0 nc0_4]], .rows true 4 h1]) else yM c0_0 (IntKind.wrap .i64 (c0_1 + 1)) c0_2 c0_3 nc0_4 h1 else none else none else some (AV.tup [], [.rows false 5 [[.str c0_0, .int .i64 c0_1, .int .i64 c0_2, .int .i64 c0_3, .ms 1 0 nc0_4]], .rows true 4 h1])) P) : Gets (yM c0_0 c0_1 c0_2 c0_3 nc0_4 h1) P :=
  gE (fun _ => vt (cfg := cfg) (f := 10) (rd := none) (bs := 2)) (by kernel_rfl) h
theorem qdd (c0_0 : Bz) (c0_1 c0_2 c0_3 : Int) (nc0_4 : Nat) (h1 : Rz) {P : AV × AH → Prop} (h : Gets (bif decide (c0_1 < (c0_0.length : Int)) then bif qn 0 c0_1 then kOpt (qp3 c0_0 (c0_1.toNat)) fun b => bif (↑ (UInt8.toNat b) : Int) != 10 then qa9 c0_0 (IntKind.wrap .i64 (c0_1 + 1)) c0_2 c0_3 nc0_4 h1 else yM c0_0 c0_1 c0_2 c0_3 nc0_4 h1 else none else yM c0_0 c0_1 c0_2 c0_3 nc0_4 h1) P) : Gets (qa9 c0_0 c0_1 c0_2 c0_3 nc0_4 h1) P :=
  gE (fun _ => vt (cfg := cfg) (f := 10) (rd := none) (bs := 2)) (by kernel_rfl) h
noncomputable def qo7 : Den := evC cfg (EV cfg) 34 none 0 (sub (qE Tryd.f34) [1, 0, 1, 0, 0])
noncomputable def qpb : Ex × List AV × AH → Option AV := kAft (Cfg.keepOut cfg 34 2) (kRun cfg (EV cfg) (kfN cfg 6) 34 none 0 (qir cfg (Cfg.lift cfg 34 0) Tryd.f34.results.toList) ([.block 0, .seq (sub (qE Tryd.f34) [1, 1])]))
noncomputable def qo3 : List AV × AH → Option AV := fun p => kOpt (LOOP 0 (some [0, 1, 5]) ([]) qo7 p) qpb
noncomputable def qpE : Den := evC cfg (EV cfg) 6 none 0 (sub (qE Tryd.f6) [1, 1, 0, 1, 0, 0])
noncomputable def qpI : Ex × List AV × AH → Option AV := kAft (Cfg.keepOut cfg 6 4) (kRun cfg (EV cfg) (kfN cfg 6) 6 none 0 (qir cfg (Cfg.lift cfg 6 0) Tryd.f6.results.toList) ([.block 0, .seq (sub (qE Tryd.f6) [1, 1, 1])]))
noncomputable def qpB : List AV × AH → Option AV := fun p => kOpt (LOOP 0 (some [0, 1, 5]) ([]) qpE p) qpI
noncomputable abbrev qed (w : Bz) (l : Rz) (v5 : Int) : Option (AV) := qo3  (((fx 18 [(0, .str w), (1, .sl l), (5, .int .i64 v5)]) : List AV), ([] : AH))
noncomputable abbrev qfx (l m : Rz) (v5 : Int) : Option (AV) := qpB  (((fx 26 [(0, .sl l), (1, .sl m), (5, .int .i64 v5)]) : List AV), ([] : AH))
theorem qiJ (c a b : Int) {P : AV → Prop} (h : Gets (bif decide (c ≥ a) then some (.bool (decide (c ≤ b))) else some (.bool false)) P) : Gets (EVs (EV cfg) 11 [.int .u8 c, .int .u8 a, .int .u8 b]) P :=
  gE (fun _ => funS rfl rfl Tryd.func11 rfl) (by kernel_rfl) h
theorem qiK (c : Int) {P : AV → Prop} (h : Gets (kOpt (EVs (EV cfg) 11 [AV.int .u8 c, .int .u8 97, .int .u8 122]) fun v => qJ v fun b => bif b then some (.bool true) else kOpt (EVs (EV cfg) 11 [AV.int .u8 c, .int .u8 65, .int .u8 90]) fun v => qJ v fun b => bif b then some (.bool true) else kOpt (EVs (EV cfg) 11 [AV.int .u8 c, .int .u8 48, .int .u8 57]) fun v => qJ v fun b => bif b then some (.bool true) else bif c == 95 then some (.bool true) else some (.bool (c == 64))) P) : Gets (EVs (EV cfg) 33 [.int .u8 c]) P :=
  gE (fun _ => funS rfl rfl Tryd.func33 rfl) (by kernel_rfl) h
theorem qkc (c : Int) {P : AV → Prop} (h : Gets (bif c == 9 then some (.bool true) else bif c == 10 then some (.bool true) else bif c == 13 then some (.bool true) else some (.bool (c == 32))) P) : Gets (EVs (EV cfg) 32 [.int .u8 c]) P :=
  gE (fun _ => funS rfl rfl Tryd.func32 rfl) (by kernel_rfl) h
theorem qmH (c : Int) {P : AV → Prop} (h : Gets (kOpt (EVs (EV cfg) 11 [AV.int .u8 c, .int .u8 48, .int .u8 57]) fun v => qJ v fun b => bif b then some (.int .i64 (IntKind.wrap .i64 (IntKind.wrap .u8 (c - 48)))) else kOpt (EVs (EV cfg) 11 [AV.int .u8 c, .int .u8 97, .int .u8 102]) fun v => qJ v fun b => bif b then some (.int .i64 (IntKind.wrap .i64 (IntKind.wrap .i64 (IntKind.wrap .u8 (c - 97)) + 10))) else some (.int .i64 (- 1))) P) : Gets (EVs (EV cfg) 45 [.int .u8 c]) P :=
  gE (fun _ => funS rfl rfl Tryd.func45 rfl) (by kernel_rfl) h
theorem qnI (w : Bz) (l : Rz) {P : AV → Prop} (h : Gets (qed w l 0) P) : Gets (EVs (EV cfg) 34 [.str w, .sl l]) P :=
  gE (fun _ => funS rfl rfl Tryd.func34 rfl) (by kernel_rfl) h
theorem qln (l m : Rz) {P : AV → Prop} (h : Gets (bif (l.length : Int) != (m.length : Int) then some (.bool false) else qfx l m 0) P) : Gets (EVs (EV cfg) 6 [.sl l, .sl m]) P :=
  gE (fun _ => funS rfl rfl Tryd.func6 rfl) (by kernel_rfl) h
theorem qds (w : Bz) (l : Rz) (v5 : Int) {P : AV → Prop} (h : Gets (bif decide (v5 < (l.length : Int)) then bif qn 0 v5 && vS v5 (l.length : Int) then kOpt (qp3 l (v5.toNat)) fun row => bif qp6 (qp4 row) 1 then kOpt (qp3 row 0) fun v => kStr v fun s => bif s == w then some (.bool true) else qed w l (IntKind.wrap .i64 (v5 + 1)) else none else none else some (.bool false)) P) : Gets (qed w l v5) P :=
  gE (fun _ => vt (cfg := cfg) (f := 34) (rd := none) (bs := 0)) (by kernel_rfl) h
theorem qeA (l m : Rz) (v5 : Int) {P : AV → Prop} (h : Gets (bif decide (v5 < (l.length : Int)) then bif qn 0 v5 && vS v5 (l.length : Int) then kOpt (qp3 l (v5.toNat)) fun row => bif qp6 (qp4 row) 4 then bif qqk 4 (qp4 row) then qi (qqf 4 row) fun c cs => kInt .i64 c fun n => qi cs fun c cs => kInt .i64 c fun n_1 => qi cs fun c cs => kInt .i64 c fun n_2 => qi cs fun c cs => kStr c fun s => kNil cs (bif qn 0 v5 && vS v5 (m.length : Int) then kOpt (qp3 m (v5.toNat)) fun row => bif qp6 (qp4 row) 4 then bif qqk 4 (qp4 row) then qi (qqf 4 row) fun c cs => kInt .i64 c fun n_3 => qi cs fun c cs => kInt .i64 c fun n_4 => qi cs fun c cs => kInt .i64 c fun n_5 => qi cs fun c cs => kStr c fun s_1 => kNil cs (bif ! (decide (n = n_3) && (decide (n_1 = n_4) && (decide (n_2 = n_5) && (s == s_1 && true)))) then some (.bool false) else qfx l m (IntKind.wrap .i64 (v5 + 1))) else none else none else none) else none else none else none else some (.bool true)) P) : Gets (qfx l m v5) P :=
  gE (fun _ => vt (cfg := cfg) (f := 6) (rd := none) (bs := 0)) (by kernel_rfl) h
theorem vI (c x y : Int) : EVs (EV cfg) 11 [.int .u8 c, .int .u8 x, .int .u8 y] = some (.bool (decide (c ≥ x) && decide (c ≤ y))) := by
 apply Gets.get
 refine qiJ _ _ _ ?_
 cases decide (c ≥ x) <;> exact ⟨_, rfl, rfl⟩
theorem qg4 (b : UInt8) : (decide ((b.toNat : Int) ≥ 97) && decide ((b.toNat : Int) ≤ 122)) = vB b := by
 have d1 := uGe b 97
 have d2 := uLe b 122
 simp only [Int.cast_ofNat_Int] at d1 d2
 rw [d1, d2]; rfl
theorem qoA (b : UInt8) : (decide ((b.toNat : Int) ≥ 65) && decide ((b.toNat : Int) ≤ 90)) = (decide (65 ≤ b.toNat) && decide (b.toNat ≤ 90)) := by
 have d1 := uGe b 65
 have d2 := uLe b 90
 simp only [Int.cast_ofNat_Int] at d1 d2
 rw [d1, d2]
theorem qce (b : UInt8) : (decide ((b.toNat : Int) ≥ 48) && decide ((b.toNat : Int) ≤ 57)) = qB b := by
 have d1 := uGe b 48
 have d2 := uLe b 57
 simp only [Int.cast_ofNat_Int] at d1 d2
 rw [d1, d2]; rfl
theorem qku (b : UInt8) : EVs (EV cfg) 33 [.int .u8 (b.toNat : Int)] = some (.bool (qA b)) := by
 apply Gets.get
 refine qiK _ ?_
 have e1 : ((b.toNat : Int) == 95) = (b == 95) := uEq b 95
 have e2 : ((b.toNat : Int) == 64) = (b == 64) := uEq b 64
 simp only [vI, qb, qa, qg4, qoA, qce, e1, e2]
 unfold qA qB
 cases vB b <;> cases (decide (65 ≤ b.toNat) && decide (b.toNat ≤ 90)) <;> cases (decide (48 ≤ b.toNat) && decide (b.toNat ≤ 57)) <;> cases b == 95 <;> cases b == 64 <;> simp
theorem qfR (b : UInt8) : EVs (EV cfg) 32 [.int .u8 (b.toNat : Int)] = some (.bool (zp b)) := by
 apply Gets.get
 refine qkc _ ?_
 have e1 : ((b.toNat : Int) == 9) = (b == 9) := uEq b 9
 have e2 : ((b.toNat : Int) == 10) = (b == 10) := uEq b 10
 have e3 : ((b.toNat : Int) == 13) = (b == 13) := uEq b 13
 have e4 : ((b.toNat : Int) == 32) = (b == 32) := uEq b 32
 rw [e1, e2, e3, e4]
 unfold zp
 cases b == 9 <;> cases b == 10 <;> cases b == 13 <;> simp
theorem qnN (b : UInt8) : EVs (EV cfg) 45 [.int .u8 (b.toNat : Int)] = some (.int .i64 (match hexA b with | some x => (x : Int) | none => -1)) := by
 apply Gets.get
 refine qmH _ ?_
 have hlt := b.toNat_lt
 have wA : (decide ((b.toNat : Int) ≥ 97) && decide ((b.toNat : Int) ≤ 102)) = (decide (97 ≤ b.toNat) && decide (b.toNat ≤ 102)) := by
  have d1 := uGe b 97
  have d2 := uLe b 102
  simp only [Int.cast_ofNat_Int] at d1 d2
  rw [d1, d2]
 simp only [vI, qb, qa, qce, wA]
 unfold hexA
 cases hd : qB b with
 | true =>
  have h1 : 48 ≤ b.toNat ∧ b.toNat ≤ 57 := by simpa [qB] using hd
  simp only [cond_true, if_true]
  refine ⟨_, rfl, ?_⟩
  congr 1
  rw [show IntKind.wrap .u8 ((b.toNat : Int) - 48) = (b.toNat : Int) - 48 by simp [IntKind.wrap, IntKind.bits, IntKind.signed]; omega, vK (by omega) (by omega)]
  omega
 | false =>
  simp only [cond_false, qp0, if_false]
  cases ha : (decide (97 ≤ b.toNat) && decide (b.toNat ≤ 102)) with
  | true =>
   have h1 : 97 ≤ b.toNat ∧ b.toNat ≤ 102 := by simpa using ha
   simp only [cond_true, if_true]
   refine ⟨_, rfl, ?_⟩
   congr 1
   rw [show IntKind.wrap .u8 ((b.toNat : Int) - 97) = (b.toNat : Int) - 97 by simp [IntKind.wrap, IntKind.bits, IntKind.signed]; omega, vK (x := (b.toNat : Int) - 97) (by omega) (by omega), vK (by omega) (by omega)]
   omega
  | false => exact ⟨_, rfl, rfl⟩
theorem qoP (l : List (List UInt8)) (s : List UInt8) (hl : l.length < 1099511627776) : EVs (EV cfg) 34 [.str s, .sl (strR l)] = some (.bool (l.contains s)) := by
 apply Gets.get
 refine qnI _ _ ?_
 have go : ∀ k i : Nat, i + k = l.length → (∀ j, j < i → l[j]? ≠ some s) → Gets (qed s (strR l) (i : Int)) (· = .bool (l.contains s)) := by
  intro k
  induction k with
  | zero =>
   intro i hi hno
   refine qds _ _ _ ?_
   rw [decide_eq_false (show ¬ (i : Int) < ((strR l).length : Int) by simp; omega)]
   refine ⟨_, rfl, ?_⟩
   congr 1
   symm
   rw [Bool.eq_false_iff, ne_eq, List.contains_iff_mem]
   intro hm
   obtain ⟨j, hj⟩ := List.getElem?_of_mem hm
   exact hno j (by have := (qpV.1 hj).1; omega) hj
  | succ k ih =>
   intro i hi hno
   have hil : i < l.length := by omega
   refine qds _ _ _ ?_
   rw [decide_eq_true (show (i : Int) < ((strR l).length : Int) by simp; omega)]
   have e1 : (qn 0 (i : Int) && vS (i : Int) ((strR l).length : Int)) = true := by simp; omega
   simp only [e1, cond_true, qqc, qY, qg6 (qp1 hil), qb, List.length_cons, List.length_nil, show qp6 (0 + 1) 1 = true from rfl, List.getElem?_cons_zero, qm]
   cases he : l[i] == s with
   | true =>
    simp only [cond_true]
    refine ⟨_, rfl, ?_⟩
    congr 1
    symm
    rw [List.contains_iff_mem]
    have : l[i] = s := by simpa using he
    exact this ▸ List.getElem_mem hil
   | false =>
    simp only [cond_false]
    rw [qM (by omega)]
    refine ih (i + 1) (by omega) fun j hj => ?_
    by_cases hji : j = i
    ·subst hji
     rw [qp1 hil]
     intro h
     have : l[j] = s := Option.some.inj h
     simp [this] at he
    ·exact hno j (by omega)
 exact go l.length 0 (by omega) (fun j hj => by omega)
theorem qlG : EVf (EV cfg) 35 [] = some (.sl (strR vT)) := qmh (.nil) 1000 1000 (by kernel_rfl)
theorem qlI : EVf (EV cfg) 38 [] = some (.sl (strR qbc)) := qmh (.nil) 1000 1000 (by kernel_rfl)
abbrev rsI (s : List UInt8) (p f : Int) (e : Int) (out : List (List AV)) : AH := [.rows false 5 [[.str s, .int .i64 p, .int .i64 f, .int .i64 e, .ms 1 0 out.length]], .rows true 4 out]
theorem yo {s : List UInt8} {p : Nat} {f e : Int} {out : List (List AV)} {b : UInt8} (h : s[p]? = some b) : EVj (EV cfg) 36 1 [.ptr 0 0 0] (rsI s p f e out) = some (.int .u8 (b.toNat : Int), rsI s p f e out) := by
 have hlt : p < s.length := (qpV.1 h).1
 apply Gets.get
 refine qfP _ _ _ _ _ ?_
 rw [decide_eq_false (show ¬ ((p : Int) ≥ (s.length : Int)) by omega)]
 have h0 : qn 0 (p : Int) = true := by simp
 rw [h0, qqc, qY, h]
 exact ⟨_, rfl, rfl⟩
theorem y4 {s : List UInt8} {p : Int} {f e : Int} {out : List (List AV)} (h : (s.length : Int) ≤ p) : EVj (EV cfg) 36 1 [.ptr 0 0 0] (rsI s p f e out) = some (.int .u8 0, rsI s p f e out) := by
 apply Gets.get
 refine qfP _ _ _ _ _ ?_
 rw [decide_eq_true (show p ≥ (s.length : Int) from h)]
 exact ⟨_, rfl, rfl⟩
theorem yn {s : List UInt8} (hs : s.length < 1099511627776) {p : Nat} (f e : Int) (out : List (List AV)) (hp : p ≤ s.length) : EVj (EV cfg) 10 1 [.ptr 0 0 0] (rsI s p f e out) = some (.tup [], rsI s ((p + qX false (s.drop p) : Nat) : Int) f e out) := by
 apply Gets.get
 refine qlH _ _ _ _ _ ?_
 have go : ∀ k p : Nat, s.length - p = k → p ≤ s.length →
   Gets (yM s (p : Int) f e out.length out) (· = (.tup [], rsI s ((p + qX false (s.drop p) : Nat) : Int) f e out)) ∧ Gets (qa9 s (p : Int) f e out.length out) (· = (.tup [], rsI s ((p + qX true (s.drop p) : Nat) : Int) f e out)) := by
  intro k
  induction k with
  | zero =>
   intro p hk hp
   have h1 : Gets (yM s (p : Int) f e out.length out) (· = (.tup [], rsI s (p : Int) f e out)) := by
    refine qaF _ _ _ _ _ _ ?_
    rw [decide_eq_false (show ¬ (p : Int) < (s.length : Int) by omega)]
    exact ⟨_, rfl, rfl⟩
   rw [qqg (show s.length ≤ p by omega)]
   refine ⟨h1, ?_⟩
   refine qdd _ _ _ _ _ _ ?_
   rw [decide_eq_false (show ¬ (p : Int) < (s.length : Int) by omega)]
   exact h1
  | succ k ih =>
   intro p hk hp
   obtain ⟨b, hb⟩ : ∃ b, s[p]? = some b := ⟨_, qp1 (by omega)⟩
   have h0 : qn 0 (p : Int) = true := by simp
   have h37 : ((b.toNat : Int) == 37) = (b == 37) := uEq b 37
   have h10 : ((b.toNat : Int) != 10) = !(b == 10) := by rw [bne, show ((b.toNat : Int) == 10) = (b == 10) from uEq b 10]
   obtain ⟨i1, i2⟩ := ih (p + 1) (by omega) (by omega)
   have hA : b ≠ 37 → Gets (yM s (p : Int) f e out.length out) (· = (.tup [], rsI s ((p + qX false (s.drop p) : Nat) : Int) f e out)) := by
    intro hne
    have f37 : (b == 37) = false := by simpa using hne
    refine qaF _ _ _ _ _ _ ?_
    rw [decide_eq_true (show (p : Int) < (s.length : Int) by omega), qL hb, qX]
    simp only [h0, qqc, qY, hb, qb, cond_true, cond_false, qa, h37, f37, qfR]
    cases hbl : zp b with
    | true =>
     simp only [Bool.not_true, cond_false, if_true]
     rw [qM (by omega), show p + (qX false (s.drop (p + 1)) + 1) = p + 1 + qX false (s.drop (p + 1)) by omega]
     exact i1
    | false =>
     simp only [Bool.not_false, cond_true, qp0, if_false]
     exact ⟨_, rfl, rfl⟩
   have hB : Gets (qa9 s (p : Int) f e out.length out) (· = (.tup [], rsI s ((p + qX true (s.drop p) : Nat) : Int) f e out)) := by
    refine qdd _ _ _ _ _ _ ?_
    rw [decide_eq_true (show (p : Int) < (s.length : Int) by omega), qL hb, qX]
    simp only [h0, qqc, qY, hb, qb, cond_true, h10]
    cases hb10 : b == 10 with
    | true =>
     have e10 : b = 10 := by simpa using hb10
     simp only [Bool.not_true, cond_false, if_true]
     have := hA (by rw [e10]; decide)
     rw [qL hb, qX, e10, if_pos (by decide)] at this
     exact this
    | false =>
     simp only [Bool.not_false, cond_true, qp0, if_false]
     rw [qM (by omega), show p + (qX true (s.drop (p + 1)) + 1) = p + 1 + qX true (s.drop (p + 1)) by omega]
     exact i2
   refine ⟨?_, hB⟩
   by_cases h : b = 37
   ·refine qaF _ _ _ _ _ _ ?_
    have t37 : (b == 37) = true := by simpa using h
    rw [decide_eq_true (show (p : Int) < (s.length : Int) by omega)]
    simp only [h0, qqc, qY, hb, qb, cond_true, h37, t37]
    rw [qL hb, qX, if_neg (by rw [h]; decide), if_pos t37]
    rw [qL hb, qX, if_neg (by rw [h]; decide)] at hB
    exact hB
   ·exact hA h
 exact (go _ p rfl hp).1
def qpT (s : List UInt8) (p : Nat) (f e : Int) (out : List (List AV)) : Option (UInt8 × Nat) → AV × AH → Prop
 | some r, q => q = (.int .u8 (r.1.toNat : Int), rsI s ((p + r.2 : Nat) : Int) f e out)
 | none, q => ∃ (p' : Int), q = (.int .u8 0, rsI s p' f 341 out)
theorem qnO {x y : Nat} (hx : x < 16) (hy : y < 16) : IntKind.wrap .u8 (IntKind.wrap .i64 (IntKind.wrap .i64 (16 * (x : Int)) + (y : Int))) = ((UInt8.ofNat (16 * x + y)).toNat : Int) := by
 rw [vK (x := 16 * (x : Int)) (by omega) (by omega), vK (by omega) (by omega)]
 have : (UInt8.ofNat (16 * x + y)).toNat = 16 * x + y := by rw [UInt8.toNat_ofNat']; omega
 rw [this]
 simp [IntKind.wrap, IntKind.bits, IntKind.signed]; omega
theorem qbW {s : List UInt8} (hs : s.length < 1099511627770) {p : Nat} (f e : Int) (out : List (List AV)) (hp : p ≤ s.length) :
  Gets (EVj (EV cfg) 37 1 [.ptr 0 0 0] (rsI s p f e out)) (qpT s p f e out (escA (s.drop p))) := by
 refine qi0 _ _ _ _ _ ?_
 unfold zf0
 rcases yf (s := s) (p := p) with h | ⟨c, hc⟩
 ·rw [y4 (by omega), qqg h]
  simp only [qb, qe, qc, qw, qy, qj, qp5, cond_true, qd, qk, ql, qf, qm, qo, qq, qx]
  exact ⟨_, rfl, _, rfl⟩
 ·have hlt : p < s.length := (qpV.1 hc).1
  rw [yo hc, qL hc]
  have q1 : ((c.toNat : Int) == 110) = (c == 110) := uEq c 110
  have q2 : ((c.toNat : Int) == 116) = (c == 116) := uEq c 116
  have q3 : ((c.toNat : Int) == 114) = (c == 114) := uEq c 114
  have q4 : ((c.toNat : Int) == 39) = (c == 39) := uEq c 39
  have q5 : ((c.toNat : Int) == 92) = (c == 92) := uEq c 92
  have q6 : ((c.toNat : Int) == 120) = (c == 120) := uEq c 120
  simp only [qb, qe, qc, qw, qy, qj, qp5, cond_true, qd, qk, ql, qf, qm, qo, qq, qx, q1, q2, q3, q4, q5, q6]
  rw [escA, qM (by omega)]
  by_cases h1 : c = 110
  ·subst h1; exact ⟨_, rfl, rfl⟩
  by_cases h2 : c = 116
  ·subst h2; exact ⟨_, rfl, rfl⟩
  by_cases h3 : c = 114
  ·subst h3; exact ⟨_, rfl, rfl⟩
  by_cases h4 : c = 39
  ·subst h4; exact ⟨_, rfl, rfl⟩
  by_cases h5 : c = 92
  ·subst h5; exact ⟨_, rfl, rfl⟩
  have f1 : (c == 110) = false := by simpa using h1
  have f2 : (c == 116) = false := by simpa using h2
  have f3 : (c == 114) = false := by simpa using h3
  have f4 : (c == 39) = false := by simpa using h4
  have f5 : (c == 92) = false := by simpa using h5
  simp only [f1, f2, f3, f4, f5, qp0, if_false, cond_false]
  by_cases h6 : c = 120
  ·subst h6
   simp only [show ((120 : UInt8) == 120) = true from rfl, if_true, cond_true]
   have e3 : IntKind.wrap .i64 (((p + 1 : Nat) : Int) + 2) = ((p + 3 : Nat) : Int) := by rw [vK (by omega) (by omega)]; omega
   have e4 : IntKind.wrap .i64 (((p + 3 : Nat) : Int) - 2) = ((p + 1 : Nat) : Int) := by rw [vK (by omega) (by omega)]; omega
   have e5 : IntKind.wrap .i64 (((p + 3 : Nat) : Int) - 1) = ((p + 1 + 1 : Nat) : Int) := by rw [vK (by omega) (by omega)]; omega
   simp only [e3, e4, e5]
   rw [qM (by omega)]
   rcases yf (s := s) (p := p + 1) with g | ⟨x, hx⟩
   ·rw [decide_eq_false (show ¬ ((p + 3 : Nat) : Int) ≤ (s.length : Int) by omega), qqg g]
    simp only [qbO]
    exact ⟨_, rfl, _, rfl⟩
   rcases yf (s := s) (p := p + 1 + 1) with g | ⟨y, hy⟩
   ·rw [decide_eq_false (show ¬ ((p + 3 : Nat) : Int) ≤ (s.length : Int) by omega), qL hx, qqg g]
    simp only [qbO]
    exact ⟨_, rfl, _, rfl⟩
   have hlt2 : p + 1 + 1 < s.length := (qpV.1 hy).1
   rw [decide_eq_true (show ((p + 3 : Nat) : Int) ≤ (s.length : Int) by omega), qL hx, qL hy]
   have l1 : qn 0 ((p + 1 : Nat) : Int) = true := by simp; omega
   have l2 : qn 0 ((p + 1 + 1 : Nat) : Int) = true := by simp; omega
   simp only [qb, cond_true, qo, l1, l2, qqc, qY, hx, hy, qnN, qbO]
   cases ha : hexA x with
   | none => exact ⟨_, rfl, _, rfl⟩
   | some a =>
    have hd : decide ((a : Int) ≥ 0) = true := by simp
    simp only [hd, cond_true]
    cases hb2 : hexA y with
    | none => exact ⟨_, rfl, _, rfl⟩
    | some b2 =>
     have hd2 : decide ((b2 : Int) ≥ 0) = true := by simp
     simp only [hd2, cond_true, qnO (qet ha) (qet hb2)]
     exact ⟨_, rfl, rfl⟩
  ·have f6 : (c == 120) = false := by simpa using h6
   simp only [f6, qp0, if_false, cond_false]
   exact ⟨_, rfl, _, rfl⟩
noncomputable def qon : Den := evC cfg (EV cfg) 12 none 2 (sub (qE Tryd.f12) [0, 0, 0])
noncomputable def qoy : Ex × List AV × AH → Option (AV × AH) := kAft (Cfg.keepOut cfg 12 (qp (sub (qE Tryd.f12) [0, 0, 0]))) (zj 0 (kSeq (fun (fr : List AV) (H : AH) => zi (Cfg.cut cfg 12 (qp (sub (qE Tryd.f12) [1]))) fr H fun (fr : List AV) (H : AH) => vm cfg (EV cfg) (kfN cfg 6) 12 none 2 (sub (qE Tryd.f12) [1]) fr H (xW cfg 1 (Cfg.lift cfg 12 0) (Array.toList (Func.results Tryd.f12)))) (xW cfg 1 (Cfg.lift cfg 12 0) (Array.toList (Func.results Tryd.f12)))))
noncomputable def qoe : List AV × AH → Option (AV × AH) := fun (p : List AV × AH) => kOpt (LOOP 2 (some [0]) [] qon p) qoy
noncomputable abbrev qcE (c0_0 : Bz) (c0_1 c0_2 c0_3 : Int) (nc0_4 : Nat) (h1 : Rz) : Option (AV × AH) := qoe  (((fx 74 [(0, .ptr 0 0 0)]) : List AV), ([.rows false 5 [[.str c0_0, .int .i64 c0_1, .int .i64 c0_2, .int .i64 c0_3, .ms 1 0 nc0_4]], .rows true 4 h1] : AH))
theorem qlM (s : Bz) (p fr e : Int) (out : Rz) {P : AV × AH → Prop} (h : Gets (qcE s p fr e (qp4 out) out) P) : Gets (EVj (EV cfg) 12 1 [.ptr 0 0 0] ([ABlk.rows false (5 : Nat) [[AV.str s, AV.int IntKind.i64 p, AV.int IntKind.i64 fr, AV.int IntKind.i64 e, AV.ms (1 : Nat) (0 : Nat) (qp4 out)]], ABlk.rows true (4 : Nat) out] : AH)) P :=
  gE (fun _ => funJ rfl rfl Tryd.func12 rfl) (by kernel_rfl) h
noncomputable abbrev zh2 (c0_0 : Bz) (c0_1 c0_2 : Int) (nc0_4 : Nat) (h1 : Rz) : Option (AV × AH) := some (AV.tup [], [.rows false 5 [[.str c0_0, .int .i64 c0_1, .int .i64 c0_2, .int .i64 343, .ms 1 0 (nc0_4 + 1)]], .rows true 4 (qqr (qqf nc0_4 h1) [[AV.int .i64 4, .int .i64 0, .int .i64 c0_2, .str (qqf (qp9 c0_1 - c0_2.toNat) (qqq (c0_2.toNat) c0_0))]])])
noncomputable abbrev zh1 (nc0_4 : Nat) (h1 : Rz) (c0_0 : Bz) (c0_1 c0_2 : Int) : Option (AV × AH) := bif qqk (0 + nc0_4) (qp4 h1) && qH (nc0_4 + 1) 40 then zh2 c0_0 c0_1 c0_2 nc0_4 h1 else none
noncomputable abbrev zh4 (c0_0 : Bz) (c0_1 c0_2 c0_3 : Int) (nc0_4 : Nat) (h1 : Rz) : Option (AV × AH) := some (AV.tup [], [.rows false 5 [[.str c0_0, .int .i64 c0_1, .int .i64 c0_2, .int .i64 c0_3, .ms 1 0 (nc0_4 + 1)]], .rows true 4 (qqr (qqf nc0_4 h1) [[AV.int .i64 4, .int .i64 0, .int .i64 c0_2, .str (qqf (qp9 c0_1 - c0_2.toNat) (qqq (c0_2.toNat) c0_0))]])])
noncomputable abbrev zh3 (nc0_4 : Nat) (h1 : Rz) (c0_0 : Bz) (c0_1 c0_2 c0_3 : Int) : Option (AV × AH) := bif qqk (0 + nc0_4) (qp4 h1) && qH (nc0_4 + 1) 40 then zh4 c0_0 c0_1 c0_2 c0_3 nc0_4 h1 else none
noncomputable abbrev zh0 (c0_1 c0_2 : Int) (c0_0 : Bz) (nc0_4 : Nat) (h1 : Rz) (c0_3 : Int) : Option (AV × AH) := bif decide ((↑ (qp4 (qqf (qp9 c0_1 - c0_2.toNat) (qqq (c0_2.toNat) c0_0))) : Int) > 64) then zh1 nc0_4 h1 c0_0 c0_1 c0_2 else zh3 nc0_4 h1 c0_0 c0_1 c0_2 c0_3
noncomputable abbrev zh6 (c0_0 : Bz) (c0_1 c0_2 : Int) (nc0_4 : Nat) (h1 : Rz) : Option (AV × AH) := some (AV.tup [], [.rows false 5 [[.str c0_0, .int .i64 c0_1, .int .i64 c0_2, .int .i64 343, .ms 1 0 (nc0_4 + 1)]], .rows true 4 (qqr (qqf nc0_4 h1) [[AV.int .i64 2, .int .i64 0, .int .i64 c0_2, .str (qqf (qp9 c0_1 - c0_2.toNat) (qqq (c0_2.toNat) c0_0))]])])
noncomputable abbrev zh5 (nc0_4 : Nat) (h1 : Rz) (c0_0 : Bz) (c0_1 c0_2 : Int) : Option (AV × AH) := bif qqk (0 + nc0_4) (qp4 h1) && qH (nc0_4 + 1) 40 then zh6 c0_0 c0_1 c0_2 nc0_4 h1 else none
noncomputable abbrev zh8 (c0_0 : Bz) (c0_1 c0_2 c0_3 : Int) (nc0_4 : Nat) (h1 : Rz) : Option (AV × AH) := some (AV.tup [], [.rows false 5 [[.str c0_0, .int .i64 c0_1, .int .i64 c0_2, .int .i64 c0_3, .ms 1 0 (nc0_4 + 1)]], .rows true 4 (qqr (qqf nc0_4 h1) [[AV.int .i64 2, .int .i64 0, .int .i64 c0_2, .str (qqf (qp9 c0_1 - c0_2.toNat) (qqq (c0_2.toNat) c0_0))]])])
noncomputable abbrev zh7 (nc0_4 : Nat) (h1 : Rz) (c0_0 : Bz) (c0_1 c0_2 c0_3 : Int) : Option (AV × AH) := bif qqk (0 + nc0_4) (qp4 h1) && qH (nc0_4 + 1) 40 then zh8 c0_0 c0_1 c0_2 c0_3 nc0_4 h1 else none
theorem qdc (c0_0 : Bz) (c0_1 c0_2 c0_3 : Int) (nc0_4 : Nat) (h1 : Rz) {P : AV × AH → Prop} (h : Gets (bif decide (c0_1 < (c0_0.length : Int)) then bif qn 0 c0_1 then kOpt (qp3 c0_0 (c0_1.toNat)) fun b => kOpt (EVs (EV cfg) 33 [AV.int .u8 (↑ (UInt8.toNat b) : Int)]) fun v => qJ v fun b => bif b then qcE c0_0 (IntKind.wrap .i64 (c0_1 + 1)) c0_2 c0_3 nc0_4 h1 else bif qn 0 c0_1 && qn c0_1 (c0_0.length : Int) then bif qn 0 c0_2 && qn c0_2 (↑ (c0_1.toNat) : Int) then kOpt (qp3 (qqf (qp9 c0_1 - c0_2.toNat) (qqq (c0_2.toNat) c0_0)) 0) fun b => kOpt (EVs (EV cfg) 11 [AV.int .u8 (↑ (UInt8.toNat b) : Int), .int .u8 97, .int .u8 122]) fun v => qJ v fun b => bif b then kOpt (EVf (EV cfg) 35 []) fun v => kSl v fun rows => kOpt (EVs (EV cfg) 34 [.str (qqf (qp9 c0_1 - c0_2.toNat) (qqq (c0_2.toNat) c0_0)), .sl rows]) fun v => qJ v fun b => bif b then zh0 c0_1 c0_2 c0_0 nc0_4 h1 c0_3 else bif decide ((↑ (qp4 (qqf (qp9 c0_1 - qp9 c0_2) (qqq (c0_2.toNat) c0_0))) : Int) > 64) then zh5 nc0_4 h1 c0_0 c0_1 c0_2 else zh7 nc0_4 h1 c0_0 c0_1 c0_2 c0_3 else kOpt (EVf (EV cfg) 35 []) fun v => kSl v fun rows => kOpt (EVs (EV cfg) 34 [.str (qqf (qp9 c0_1 - c0_2.toNat) (qqq (c0_2.toNat) c0_0)), .sl rows]) fun v => qJ v fun b => bif b then zh0 c0_1 c0_2 c0_0 nc0_4 h1 c0_3 else bif decide ((↑ (qp4 (qqf (qp9 c0_1 - c0_2.toNat) (qqq (c0_2.toNat) c0_0))) : Int) > 64) then bif qqk (0 + nc0_4) (qp4 h1) && qH (nc0_4 + 1) 40 then some (AV.tup [], [.rows false 5 [[.str c0_0, .int .i64 c0_1, .int .i64 c0_2, .int .i64 343, .ms 1 0 (nc0_4 + 1)]], .rows true 4 (qqr (qqf nc0_4 h1) [[AV.int .i64 3, .int .i64 0, .int .i64 c0_2, .str (qqf (qp9 c0_1 - c0_2.toNat) (qqq (qp9 c0_2) c0_0))]])]) else none else bif qqk (0 + nc0_4) (qp4 h1) && qH (nc0_4 + 1) 40 then some (AV.tup [], [.rows false 5 [[.str c0_0, .int .i64 c0_1, .int .i64 c0_2, .int .i64 c0_3, .ms 1 0 (nc0_4 + 1)]], .rows true 4 (qqr (qqf nc0_4 h1) [[AV.int .i64 3, .int .i64 0, .int .i64 c0_2, .str (qqf (qp9 c0_1 - qp9 c0_2) (qqq (c0_2.toNat) c0_0))]])]) else none else none else none else none else bif qn 0 c0_1 && qn c0_1 (c0_0.length : Int) then bif qn 0 c0_2 && qn c0_2 (↑ (c0_1.toNat) : Int) then kOpt (qp3 (qqf (qp9 c0_1 - c0_2.toNat) (qqq (c0_2.toNat) c0_0)) 0) fun b => kOpt (EVs (EV cfg) 11 [AV.int .u8 (↑ (UInt8.toNat b) : Int), .int .u8 97, .int .u8 122]) fun v => qJ v fun b => bif b then kOpt (EVf (EV cfg) 35 []) fun v => kSl v fun rows => kOpt (EVs (EV cfg) 34 [.str (qqf (qp9 c0_1 - c0_2.toNat) (qqq (c0_2.toNat) c0_0)), .sl rows]) fun v => qJ v fun b => bif b then zh0 c0_1 c0_2 c0_0 nc0_4 h1 c0_3 else bif decide ((↑ (qp4 (qqf (qp9 c0_1 - c0_2.toNat) (qqq (c0_2.toNat) c0_0))) : Int) > 64) then zh5 nc0_4 h1 c0_0 c0_1 c0_2 else zh7 nc0_4 h1 c0_0 c0_1 c0_2 c0_3 else kOpt (EVf (EV cfg) 35 []) fun v => kSl v fun rows => kOpt (EVs (EV cfg) 34 [.str (qqf (qp9 c0_1 - c0_2.toNat) (qqq (c0_2.toNat) c0_0)), .sl rows]) fun v => qJ v fun b => bif b then zh0 c0_1 c0_2 c0_0 nc0_4 h1 c0_3 else bif decide ((↑ (qp4 (qqf (qp9 c0_1 - c0_2.toNat) (qqq (c0_2.toNat) c0_0))) : Int) > 64) then bif qqk (0 + nc0_4) (qp4 h1) && qH (nc0_4 + 1) 40 then some (AV.tup [], [.rows false 5 [[.str c0_0, .int .i64 c0_1, .int .i64 c0_2, .int .i64 343, .ms 1 0 (nc0_4 + 1)]], .rows true 4 (qqr (qqf nc0_4 h1) [[AV.int .i64 (3 : Int), .int .i64 0, .int .i64 c0_2, .str (qqf (qp9 c0_1 - c0_2.toNat) (qqq (c0_2.toNat) c0_0))]])]) else none else bif qqk (0 + nc0_4) (qp4 h1) && qH (nc0_4 + 1) 40 then some (AV.tup [], [.rows false 5 [[.str c0_0, .int .i64 c0_1, .int .i64 c0_2, .int .i64 c0_3, .ms 1 0 (nc0_4 + 1)]], .rows true 4 (qqr (qqf nc0_4 h1) [[AV.int .i64 3, .int .i64 0, .int .i64 c0_2, .str (qqf (qp9 c0_1 - c0_2.toNat) (qqq (c0_2.toNat) c0_0))]])]) else none else none else none) P) : Gets (qcE c0_0 c0_1 c0_2 c0_3 nc0_4 h1) P :=
  gE (fun _ => vt (cfg := cfg) (f := 12) (rd := none) (bs := 2)) (by kernel_rfl) h
noncomputable def qom : Den := evC cfg (EV cfg) 13 none 2 (sub (qE Tryd.f13) [1, 1, 0, 0, 0])
noncomputable def qox : Ex × List AV × AH → Option (AV × AH) := kAft (Cfg.keepOut cfg 13 (qp (sub (qE Tryd.f13) [1, 1, 0, 0, 0]))) (zj 0 (kSeq (fun (fr : List AV) (H : AH) => zi (Cfg.cut cfg 13 (qp (sub (qE Tryd.f13) [1, 1, 1]))) fr H fun (fr : List AV) (H : AH) => vm cfg (EV cfg) (kfN cfg 6) 13 none 2 (sub (qE Tryd.f13) [1, 1, 1]) fr H (xW cfg 1 (Cfg.lift cfg 13 0) (Array.toList (Func.results Tryd.f13)))) (xW cfg 1 (Cfg.lift cfg 13 0) (Array.toList (Func.results Tryd.f13)))))
noncomputable def qjV : List AV × AH → Option (AV × AH) := fun (p : List AV × AH) => kOpt (LOOP 2 (some [0, 2]) [(2, 1)] qom p) qox
noncomputable abbrev qe2 (nv2 : Nat) (c0_0 : Bz) (c0_1 c0_2 c0_3 : Int) (nc0_4 : Nat) (h1 h2 : Rz) : Option (AV × AH) := qjV  (((fx 80 [(0, .ptr 0 0 0), (2, .ms 2 0 nv2)]) : List AV), ([.rows false 5 [[.str c0_0, .int .i64 c0_1, .int .i64 c0_2, .int .i64 c0_3, .ms 1 0 nc0_4]], .rows true 4 h1, .rows true 1 h2] : AH))
noncomputable abbrev zE (nv2 : Nat) (c0_0 : Bz) (c0_1 c0_2 c0_3 : Int) (nc0_4 : Nat) (h2 h3 : Rz) : Option (AV × AH) := qjV  (((fx 80 [(0, .ptr 0 0 0), (2, .ms 2 0 nv2)]) : List AV), ([.rows false 5 [[.str c0_0, .int .i64 c0_1, .int .i64 c0_2, .int .i64 c0_3, .ms 3 0 nc0_4]], .dead, .rows true 1 h2, .rows true 4 h3] : AH))
theorem qiZ (s : Bz) (p fr e : Int) (out : Rz) {P : AV × AH → Prop} (h : Gets (qe2 0 s (IntKind.wrap .i64 (p + 1)) fr e (qp4 out) out []) P) : Gets (EVj (EV cfg) 13 1 [.ptr 0 0 0] ([ABlk.rows false (5 : Nat) [[AV.str s, AV.int IntKind.i64 p, AV.int IntKind.i64 fr, AV.int IntKind.i64 e, AV.ms (1 : Nat) (0 : Nat) (qp4 out)]], ABlk.rows true (4 : Nat) out] : AH)) P :=
  gE (fun _ => funJ rfl rfl Tryd.func13 rfl) (by kernel_rfl) h
noncomputable abbrev zi22 (rest : Rz) (bs : AH) (row : List AV) (q : AV × AH) (nv2 : Nat) (h2 : Rz) : Option (AV × AH) := vC rest (qS bs fun b bs => qP b fun d' n rs => bif beqB true d' && qp6 n 4 then vD bs (qi row fun c cs => kStr c fun s => qi cs fun c cs => kInt .i64 c fun n => qi cs fun c cs => kInt .i64 c fun n_7 => qi cs fun c cs => kInt .i64 c fun n_8 => qi cs fun c cs => kMsE c fun id off len => bif qp6 id 1 && (qp6 off 0 && qp6 len (qp4 rs)) then kNil cs (kInt .u8 q.1 fun n_9 => bif qqk (0 + nv2) (qp4 h2) && qH (nv2 + 1) 1 then zE (nv2 + 1) s n n_7 n_8 (qp4 rs) (qqr (qqf nv2 h2) [[AV.int .u8 n_9]]) rs else none) else none) else none)
noncomputable abbrev zi21 (rs : Rz) (bs : AH) (q : AV × AH) (nv2 : Nat) (h2 : Rz) : Option (AV × AH) := vj rs fun row rest => zi22 rest bs row q nv2 h2
noncomputable abbrev zi20 (d' : Bool) (n : Nat) (rs : Rz) (bs : AH) (q : AV × AH) (nv2 : Nat) (h2 : Rz) : Option (AV × AH) := bif beqB false d' && qp6 n 5 then zi21 rs bs q nv2 h2 else none
noncomputable abbrev zi19 (b : ABlk) (bs : AH) (q : AV × AH) (nv2 : Nat) (h2 : Rz) : Option (AV × AH) := qP b fun d' n rs => zi20 d' n rs bs q nv2 h2
noncomputable abbrev zi18 (q : AV × AH) (nv2 : Nat) (h2 : Rz) : Option (AV × AH) := qS q.2 fun b bs => zi19 b bs q nv2 h2
noncomputable abbrev zi17 (s : Bz) (n n_4 n_5 : Int) (rs : Rz) (nv2 : Nat) (h2 : Rz) : Option (AV × AH) := kOpt (EVj (EV cfg) 37 1 [.ptr 0 0 0] [.rows false 5 [[.str s, .int .i64 (IntKind.wrap .i64 (n + 1)), .int .i64 n_4, .int .i64 n_5, .ms 1 0 (qp4 rs)]], .rows true 4 rs]) fun q => zi18 q nv2 h2
noncomputable abbrev zi25 (b : Bool) (nv2 : Nat) (h2 : Rz) (s : Bz) (n n_4 : Int) (rs : Rz) (n_6 n_5 : Int) : Option (AV × AH) := bif ! b then bif qqk (0 + nv2) (qp4 h2) && qH (nv2 + 1) 1 then zE (nv2 + 1) s (IntKind.wrap .i64 (n + 1)) n_4 341 (qp4 rs) (qqr (qqf nv2 h2) [[AV.int .u8 n_6]]) rs else none else bif qqk (0 + nv2) (qp4 h2) && qH (nv2 + 1) 1 then zE (nv2 + 1) s (IntKind.wrap .i64 (n + 1)) n_4 n_5 (qp4 rs) (qqr (qqf nv2 h2) [[AV.int .u8 n_6]]) rs else none
noncomputable abbrev zi24 (v : AV) (nv2 : Nat) (h2 : Rz) (s : Bz) (n n_4 : Int) (rs : Rz) (n_6 n_5 : Int) : Option (AV × AH) := qJ v fun b => zi25 b nv2 h2 s n n_4 rs n_6 n_5
noncomputable abbrev zi23 (n_6 : Int) (nv2 : Nat) (h2 : Rz) (s : Bz) (n n_4 : Int) (rs : Rz) (n_5 : Int) : Option (AV × AH) := kOpt (EVs (EV cfg) 11 [AV.int .u8 n_6, .int .u8 32, .int .u8 126]) fun v => zi24 v nv2 h2 s n n_4 rs n_6 n_5
noncomputable abbrev zi16 (n_6 : Int) (s : Bz) (n n_4 n_5 : Int) (rs : Rz) (nv2 : Nat) (h2 : Rz) : Option (AV × AH) := bif n_6 == 92 then zi17 s n n_4 n_5 rs nv2 h2 else zi23 n_6 nv2 h2 s n n_4 rs n_5
noncomputable abbrev zi15 (q : AV × AH) (s : Bz) (n n_4 n_5 : Int) (rs : Rz) (nv2 : Nat) (h2 : Rz) : Option (AV × AH) := kInt .u8 q.1 fun n_6 => zi16 n_6 s n n_4 n_5 rs nv2 h2
noncomputable abbrev zi14 (rest : Rz) (bs : AH) (row : List AV) (q : AV × AH) (nv2 : Nat) (h2 : Rz) : Option (AV × AH) := vC rest (qS bs fun b bs => qP b fun d' n rs => bif beqB true d' && qp6 n 4 then vD bs (qi row fun c cs => kStr c fun s => qi cs fun c cs => kInt .i64 c fun n => qi cs fun c cs => kInt .i64 c fun n_4 => qi cs fun c cs => kInt .i64 c fun n_5 => qi cs fun c cs => kMsE c fun id off len => bif qp6 id 1 && (qp6 off 0 && qp6 len (qp4 rs)) then kNil cs (zi15 q s n n_4 n_5 rs nv2 h2) else none) else none)
noncomputable abbrev zi13 (rs : Rz) (bs : AH) (q : AV × AH) (nv2 : Nat) (h2 : Rz) : Option (AV × AH) := vj rs fun row rest => zi14 rest bs row q nv2 h2
noncomputable abbrev zi12 (d' : Bool) (n : Nat) (rs : Rz) (bs : AH) (q : AV × AH) (nv2 : Nat) (h2 : Rz) : Option (AV × AH) := bif beqB false d' && qp6 n 5 then zi13 rs bs q nv2 h2 else none
noncomputable abbrev zi11 (b : ABlk) (bs : AH) (q : AV × AH) (nv2 : Nat) (h2 : Rz) : Option (AV × AH) := qP b fun d' n rs => zi12 d' n rs bs q nv2 h2
noncomputable abbrev zi10 (q : AV × AH) (nv2 : Nat) (h2 : Rz) : Option (AV × AH) := qS q.2 fun b bs => zi11 b bs q nv2 h2
noncomputable abbrev zi9 (s : Bz) (n n_1 n_2 : Int) (rs : Rz) (nv2 : Nat) (h2 : Rz) : Option (AV × AH) := kOpt (EVj (EV cfg) 36 1 [.ptr 0 0 0] [.rows false 5 [[.str s, .int .i64 n, .int .i64 n_1, .int .i64 n_2, .ms 1 0 (qp4 rs)]], .rows true 4 rs]) fun q => zi10 q nv2 h2
noncomputable abbrev zi31 (s : Bz) (n n_1 : Int) (rs : Rz) (bs : Bz) : Option (AV × AH) := some (AV.tup [], [.rows false 5 [[.str s, .int .i64 (IntKind.wrap .i64 (n + 1)), .int .i64 n_1, .int .i64 343, .ms 1 0 (qp4 rs + 1)]], .rows true 4 (qqr (qqf (qp4 rs) rs) [[AV.int .i64 2, .int .i64 0, .int .i64 n_1, .str bs]])])
noncomputable abbrev zi30 (rs : Rz) (s : Bz) (n n_1 : Int) (bs : Bz) : Option (AV × AH) := bif qqk (0 + qp4 rs) (qp4 rs) && qH (qp4 rs + 1) 40 then zi31 s n n_1 rs bs else none
noncomputable abbrev zi29 (rows rs : Rz) (s : Bz) (n n_1 : Int) : Option (AV × AH) := kOpt (ve rows) fun bs => zi30 rs s n n_1 bs
noncomputable abbrev zi28 (nv2 : Nat) (h2 rs : Rz) (s : Bz) (n n_1 : Int) : Option (AV × AH) := kOpt (Decidable.rec (fun h => (fun x => none) h) (fun h => (fun x => some (qqf nv2 (qqq 0 h2))) h) (instDecidableEqBool (1 == 1 && qqk (0 + nv2) (qp4 h2)) true)) fun rows => zi29 rows rs s n n_1
noncomputable abbrev zi35 (s : Bz) (n n_1 n_2 : Int) (rs : Rz) (bs : Bz) : Option (AV × AH) := some (AV.tup [], [.rows false 5 [[.str s, .int .i64 (IntKind.wrap .i64 (n + 1)), .int .i64 n_1, .int .i64 n_2, .ms 1 0 (qp4 rs + 1)]], .rows true 4 (qqr (qqf (qp4 rs) rs) [[AV.int .i64 2, .int .i64 0, .int .i64 n_1, .str bs]])])
noncomputable abbrev zi34 (rs : Rz) (s : Bz) (n n_1 n_2 : Int) (bs : Bz) : Option (AV × AH) := bif qqk (0 + qp4 rs) (qp4 rs) && qH (qp4 rs + 1) 40 then zi35 s n n_1 n_2 rs bs else none
noncomputable abbrev zi33 (rows rs : Rz) (s : Bz) (n n_1 n_2 : Int) : Option (AV × AH) := kOpt (ve rows) fun bs => zi34 rs s n n_1 n_2 bs
noncomputable abbrev zi32 (nv2 : Nat) (h2 rs : Rz) (s : Bz) (n n_1 n_2 : Int) : Option (AV × AH) := kOpt (Decidable.rec (fun h => (fun x => none) h) (fun h => (fun x => some (qqf nv2 (qqq 0 h2))) h) (instDecidableEqBool (1 == 1 && qqk (0 + nv2) (qp4 h2)) true)) fun rows => zi33 rows rs s n n_1 n_2
noncomputable abbrev zi27 (nv2 : Nat) (h2 rs : Rz) (s : Bz) (n n_1 n_2 : Int) : Option (AV × AH) := bif decide ((↑ nv2 : Int) > 64) then zi28 nv2 h2 rs s n n_1 else zi32 nv2 h2 rs s n n_1 n_2
noncomputable abbrev zi39 (s : Bz) (n n_1 n_2 : Int) (rs : Rz) (bs : Bz) : Option (AV × AH) := some (AV.tup [], [.rows false 5 [[.str s, .int .i64 (IntKind.wrap .i64 (n + 1)), .int .i64 n_1, .int .i64 n_2, .ms 1 0 (qp4 rs + 1)]], .rows true 4 (qqr (qqf (qp4 rs) rs) [[AV.int .i64 2, .int .i64 (0 : Int), .int .i64 n_1, .str bs]])])
noncomputable abbrev zi38 (rs : Rz) (s : Bz) (n n_1 n_2 : Int) (bs : Bz) : Option (AV × AH) := bif qqk (0 + qp4 rs) (qp4 rs) && qH (qp4 rs + 1) 40 then zi39 s n n_1 n_2 rs bs else none
noncomputable abbrev zi37 (rows rs : Rz) (s : Bz) (n n_1 n_2 : Int) : Option (AV × AH) := kOpt (ve rows) fun bs => zi38 rs s n n_1 n_2 bs
noncomputable abbrev zi36 (nv2 : Nat) (h2 rs : Rz) (s : Bz) (n n_1 n_2 : Int) : Option (AV × AH) := kOpt (Decidable.rec (fun h => (fun x => none) h) (fun h => (fun x => some (qqf nv2 (qqq 0 h2))) h) (instDecidableEqBool (1 == 1 && qqk (0 + nv2) (qp4 h2)) true)) fun rows => zi37 rows rs s n n_1 n_2
noncomputable abbrev zi26 (n_2 : Int) (nv2 : Nat) (h2 rs : Rz) (s : Bz) (n n_1 : Int) : Option (AV × AH) := bif n_2 == 0 then zi27 nv2 h2 rs s n n_1 n_2 else zi36 nv2 h2 rs s n n_1 n_2
noncomputable abbrev zi8 (n_3 : Int) (s : Bz) (n n_1 n_2 : Int) (rs : Rz) (nv2 : Nat) (h2 : Rz) : Option (AV × AH) := bif n_3 != 39 then zi9 s n n_1 n_2 rs nv2 h2 else zi26 n_2 nv2 h2 rs s n n_1
noncomputable abbrev zi7 (q : AV × AH) (s : Bz) (n n_1 n_2 : Int) (rs : Rz) (nv2 : Nat) (h2 : Rz) : Option (AV × AH) := kInt .u8 q.1 fun n_3 => zi8 n_3 s n n_1 n_2 rs nv2 h2
noncomputable abbrev zi6 (rest : Rz) (bs : AH) (row : List AV) (q : AV × AH) (nv2 : Nat) (h2 : Rz) : Option (AV × AH) := vC rest (qS bs fun b bs => qP b fun d' n rs => bif beqB true d' && qp6 n 4 then vD bs (qi row fun c cs => kStr c fun s => qi cs fun c cs => kInt .i64 c fun n => qi cs fun c cs => kInt .i64 c fun n_1 => qi cs fun c cs => kInt .i64 c fun n_2 => qi cs fun c cs => kMsE c fun id off len => bif qp6 id 1 && (qp6 off 0 && qp6 len (qp4 rs)) then kNil cs (zi7 q s n n_1 n_2 rs nv2 h2) else none) else none)
noncomputable abbrev zi5 (rs : Rz) (bs : AH) (q : AV × AH) (nv2 : Nat) (h2 : Rz) : Option (AV × AH) := vj rs fun row rest => zi6 rest bs row q nv2 h2
noncomputable abbrev zi4 (d' : Bool) (n : Nat) (rs : Rz) (bs : AH) (q : AV × AH) (nv2 : Nat) (h2 : Rz) : Option (AV × AH) := bif beqB false d' && qp6 n 5 then zi5 rs bs q nv2 h2 else none
noncomputable abbrev zi3 (b : ABlk) (bs : AH) (q : AV × AH) (nv2 : Nat) (h2 : Rz) : Option (AV × AH) := qP b fun d' n rs => zi4 d' n rs bs q nv2 h2
noncomputable abbrev zi2 (q : AV × AH) (nv2 : Nat) (h2 : Rz) : Option (AV × AH) := qS q.2 fun b bs => zi3 b bs q nv2 h2
noncomputable abbrev zi1 (c0_0 : Bz) (c0_1 c0_2 c0_3 : Int) (nc0_4 : Nat) (h1 : Rz) (nv2 : Nat) (h2 : Rz) : Option (AV × AH) := kOpt (EVj (EV cfg) 36 1 [.ptr 0 0 0] [.rows false 5 [[.str c0_0, .int .i64 c0_1, .int .i64 c0_2, .int .i64 c0_3, .ms 1 0 nc0_4]], .rows true 4 h1]) fun q => zi2 q nv2 h2
noncomputable abbrev zi44 (nc0_4 : Nat) (h1 : Rz) (c0_0 : Bz) (c0_1 c0_2 : Int) (bs : Bz) : Option (AV × AH) := bif qqk (0 + nc0_4) (qp4 h1) && qH (nc0_4 + 1) 40 then some (AV.tup [], [.rows false 5 [[.str c0_0, .int .i64 (IntKind.wrap .i64 (c0_1 + 1)), .int .i64 c0_2, .int .i64 343, .ms 1 0 (nc0_4 + 1)]], .rows true 4 (qqr (qqf nc0_4 h1) [[AV.int .i64 2, .int .i64 0, .int .i64 c0_2, .str bs]])]) else none
noncomputable abbrev zi43 (rows : Rz) (nc0_4 : Nat) (h1 : Rz) (c0_0 : Bz) (c0_1 c0_2 : Int) : Option (AV × AH) := kOpt (ve rows) fun bs => zi44 nc0_4 h1 c0_0 c0_1 c0_2 bs
noncomputable abbrev zi42 (nv2 : Nat) (h2 : Rz) (nc0_4 : Nat) (h1 : Rz) (c0_0 : Bz) (c0_1 c0_2 : Int) : Option (AV × AH) := kOpt (Decidable.rec (fun h => (fun x => none) h) (fun h => (fun x => some (qqf nv2 (qqq 0 h2))) h) (instDecidableEqBool (1 == 1 && qqk (0 + nv2) (qp4 h2)) true)) fun rows => zi43 rows nc0_4 h1 c0_0 c0_1 c0_2
noncomputable abbrev zi48 (c0_0 : Bz) (c0_1 c0_2 c0_3 : Int) (nc0_4 : Nat) (h1 : Rz) (bs : Bz) : Option (AV × AH) := some (AV.tup [], [.rows false 5 [[.str c0_0, .int .i64 (IntKind.wrap .i64 (c0_1 + 1)), .int .i64 c0_2, .int .i64 c0_3, .ms 1 0 (nc0_4 + 1)]], .rows true 4 (qqr (qqf nc0_4 h1) [[AV.int .i64 2, .int .i64 0, .int .i64 c0_2, .str bs]])])
noncomputable abbrev zi47 (nc0_4 : Nat) (h1 : Rz) (c0_0 : Bz) (c0_1 c0_2 c0_3 : Int) (bs : Bz) : Option (AV × AH) := bif qqk (0 + nc0_4) (qp4 h1) && qH (nc0_4 + 1) 40 then zi48 c0_0 c0_1 c0_2 c0_3 nc0_4 h1 bs else none
noncomputable abbrev zi46 (rows : Rz) (nc0_4 : Nat) (h1 : Rz) (c0_0 : Bz) (c0_1 c0_2 c0_3 : Int) : Option (AV × AH) := kOpt (ve rows) fun bs => zi47 nc0_4 h1 c0_0 c0_1 c0_2 c0_3 bs
noncomputable abbrev zi45 (nv2 : Nat) (h2 : Rz) (nc0_4 : Nat) (h1 : Rz) (c0_0 : Bz) (c0_1 c0_2 c0_3 : Int) : Option (AV × AH) := kOpt (Decidable.rec (fun h => (fun x => none) h) (fun h => (fun x => some (qqf nv2 (qqq 0 h2))) h) (instDecidableEqBool (1 == 1 && qqk (0 + nv2) (qp4 h2)) true)) fun rows => zi46 rows nc0_4 h1 c0_0 c0_1 c0_2 c0_3
noncomputable abbrev zi41 (nv2 : Nat) (h2 : Rz) (nc0_4 : Nat) (h1 : Rz) (c0_0 : Bz) (c0_1 c0_2 c0_3 : Int) : Option (AV × AH) := bif decide ((↑ nv2 : Int) > 64) then zi42 nv2 h2 nc0_4 h1 c0_0 c0_1 c0_2 else zi45 nv2 h2 nc0_4 h1 c0_0 c0_1 c0_2 c0_3
noncomputable abbrev zi40 (c0_3 : Int) (nv2 : Nat) (h2 : Rz) (nc0_4 : Nat) (h1 : Rz) (c0_0 : Bz) (c0_1 c0_2 : Int) : Option (AV × AH) := bif c0_3 == 0 then zi41 nv2 h2 nc0_4 h1 c0_0 c0_1 c0_2 c0_3 else zi45 nv2 h2 nc0_4 h1 c0_0 c0_1 c0_2 c0_3
noncomputable abbrev zi0 (c0_3 : Int) (c0_0 : Bz) (c0_1 c0_2 : Int) (nc0_4 : Nat) (h1 : Rz) (nv2 : Nat) (h2 : Rz) : Option (AV × AH) := bif c0_3 == 0 then zi1 c0_0 c0_1 c0_2 c0_3 nc0_4 h1 nv2 h2 else zi40 c0_3 nv2 h2 nc0_4 h1 c0_0 c0_1 c0_2
theorem qhX (nv2 : Nat) (c0_0 : Bz) (c0_1 c0_2 c0_3 : Int) (nc0_4 : Nat) (h1 h2 : Rz) {P : AV × AH → Prop} (h : Gets (zi0 c0_3 c0_0 c0_1 c0_2 nc0_4 h1 nv2 h2) P) : Gets (qe2 nv2 c0_0 c0_1 c0_2 c0_3 nc0_4 h1 h2) P :=
  gE (fun _ => vt (cfg := cfg) (f := 13) (rd := none) (bs := 2)) (by kernel_rfl) h
theorem qcd (nv2 : Nat) (c0_0 : Bz) (c0_1 c0_2 c0_3 : Int) (nc0_4 : Nat) (h2 h3 : Rz) {P : AV × AH → Prop} (h : Gets (zi0 c0_3 c0_0 c0_1 c0_2 nc0_4 h3 nv2 h2) P) : Gets (zE nv2 c0_0 c0_1 c0_2 c0_3 nc0_4 h2 h3) P :=
  gE (fun _ => vt (cfg := cfg) (f := 13) (rd := none) (bs := 2)) (by kernel_rfl) h
noncomputable def qol : Den := evC cfg (EV cfg) 14 none 2 (sub (qE Tryd.f14) [1, 1, 0, 0, 0])
noncomputable def qow : Ex × List AV × AH → Option (AV × AH) := kAft (Cfg.keepOut cfg 14 (qp (sub (qE Tryd.f14) [1, 1, 0, 0, 0]))) (zj 0 (kSeq (fun (fr : List AV) (H : AH) => zi (Cfg.cut cfg 14 (qp (sub (qE Tryd.f14) [1, 1, 1]))) fr H fun (fr : List AV) (H : AH) => vm cfg (EV cfg) (kfN cfg 6) 14 none 2 (sub (qE Tryd.f14) [1, 1, 1]) fr H (xW cfg 1 (Cfg.lift cfg 14 0) (Array.toList (Func.results Tryd.f14)))) (xW cfg 1 (Cfg.lift cfg 14 0) (Array.toList (Func.results Tryd.f14)))))
noncomputable def qod : List AV × AH → Option (AV × AH) := fun (p : List AV × AH) => kOpt (LOOP 2 (some [0, 2]) [] qol p) qow
noncomputable abbrev xM (v2 : Int) (c0_0 : Bz) (c0_1 c0_2 c0_3 : Int) (nc0_4 : Nat) (h2 : Rz) : Option (AV × AH) := qod  (((fx 115 [(0, .ptr 0 0 0), (2, .int .i64 v2)]) : List AV), ([.rows false 5 [[.str c0_0, .int .i64 c0_1, .int .i64 c0_2, .int .i64 c0_3, .ms 2 0 nc0_4]], .dead, .rows true 4 h2] : AH))
theorem qdB (s : Bz) (p fr e : Int) (out : Rz) {P : AV × AH → Prop} (h : Gets (kOpt (EVj (EV cfg) 36 1 [.ptr 0 0 0] [.rows false 5 [[.str s, .int .i64 p, .int .i64 fr, .int .i64 e, .ms 1 0 (qp4 out)]], .rows true 4 out]) fun q => qS q.2 fun b bs => qP b fun d' n rs => bif beqB false d' && qp6 n 5 then vj rs fun row rest => vC rest (qS bs fun b bs => qP b fun d' n rs => bif beqB true d' && qp6 n 4 then vD bs (qi row fun c cs => kStr c fun s => qi cs fun c cs => kInt .i64 c fun n => qi cs fun c cs => kInt .i64 c fun n_1 => qi cs fun c cs => kInt .i64 c fun n_2 => qi cs fun c cs => kMsE c fun id off len => bif qp6 id 1 && (qp6 off 0 && qp6 len (qp4 rs)) then kNil cs (kInt .u8 q.1 fun n_3 => bif n_3 == 36 then kOpt (EVj (EV cfg) 36 1 [.ptr 0 0 0] [.rows false 5 [[.str s, .int .i64 (IntKind.wrap .i64 (n + 1)), .int .i64 n_1, .int .i64 n_2, .ms 1 0 (qp4 rs)]], .rows true 4 rs]) fun q => qS q.2 fun b bs => qP b fun d' n rs => bif beqB false d' && qp6 n 5 then vj rs fun row rest => vC rest (qS bs fun b bs => qP b fun d' n rs => bif beqB true d' && qp6 n 4 then vD bs (qi row fun c cs => kStr c fun s => qi cs fun c cs => kInt .i64 c fun n => qi cs fun c cs => kInt .i64 c fun n_4 => qi cs fun c cs => kInt .i64 c fun n_5 => qi cs fun c cs => kMsE c fun id off len => bif qp6 id 1 && (qp6 off 0 && qp6 len (qp4 rs)) then kNil cs (kInt .u8 q.1 fun n_6 => bif n_6 == 92 then kOpt (EVj (EV cfg) 37 1 [.ptr 0 0 0] [.rows false 5 [[.str s, .int .i64 (IntKind.wrap .i64 (n + 1)), .int .i64 n_4, .int .i64 n_5, .ms 1 0 (qp4 rs)]], .rows true 4 rs]) fun q => qS q.2 fun b bs => qP b fun d' n rs => bif beqB false d' && qp6 n 5 then vj rs fun row rest => vC rest (qS bs fun b bs => qP b fun d' n rs => bif beqB true d' && qp6 n 4 then vD bs (qi row fun c cs => kStr c fun s => qi cs fun c cs => kInt .i64 c fun n => qi cs fun c cs => kInt .i64 c fun n_7 => qi cs fun c cs => kInt .i64 c fun n_8 => qi cs fun c cs => kMsE c fun id off len => bif qp6 id 1 && (qp6 off 0 && qp6 len (qp4 rs)) then kNil cs (kInt .u8 q.1 fun n_9 => xM (IntKind.wrap .i64 n_9) s n n_7 n_8 (qp4 rs) rs) else none) else none) else none else kOpt (EVs (EV cfg) 11 [AV.int .u8 n_6, .int .u8 33, .int .u8 126]) fun v => qJ v fun b => bif ! b then xM (IntKind.wrap .i64 n_6) s (IntKind.wrap .i64 (n + 1)) n_4 341 (qp4 rs) rs else xM (IntKind.wrap .i64 n_6) s (IntKind.wrap .i64 (n + 1)) n_4 n_5 (qp4 rs) rs) else none) else none) else none else xM 0 s n n_1 n_2 (qp4 rs) rs) else none) else none) else none) P) : Gets (EVj (EV cfg) 14 1 [.ptr 0 0 0] ([ABlk.rows false (5 : Nat) [[AV.str s, AV.int IntKind.i64 p, AV.int IntKind.i64 fr, AV.int IntKind.i64 e, AV.ms (1 : Nat) (0 : Nat) (qp4 out)]], ABlk.rows true (4 : Nat) out] : AH)) P :=
  gE (fun _ => funJ rfl rfl Tryd.func14 rfl) (by kernel_rfl) h
noncomputable abbrev zj1 (c0_0 : Bz) (c0_1 c0_2 c0_3 : Int) (nc0_4 : Nat) (h2 : Rz) (v2 : Int) : Option (AV × AH) := some (AV.tup [], [.rows false 5 [[.str c0_0, .int .i64 c0_1, .int .i64 c0_2, .int .i64 c0_3, .ms 1 0 (nc0_4 + 1)]], .rows true 4 (qqr (qqf nc0_4 h2) [[AV.int .i64 1, .int .i64 v2, .int .i64 c0_2, .str []]])])
noncomputable abbrev zj0 (nc0_4 : Nat) (h2 : Rz) (c0_0 : Bz) (c0_1 c0_2 c0_3 v2 : Int) : Option (AV × AH) := bif qqk (0 + nc0_4) (qp4 h2) && qH (nc0_4 + 1) 40 then zj1 c0_0 c0_1 c0_2 c0_3 nc0_4 h2 v2 else none
theorem xR (v2 : Int) (c0_0 : Bz) (c0_1 c0_2 c0_3 : Int) (nc0_4 : Nat) (h2 : Rz) {P : AV × AH → Prop} (h : Gets (bif qn 0 c0_2 then kOpt (qp3 c0_0 (c0_2.toNat)) fun b => bif (↑ (UInt8.toNat b) : Int) != 36 then bif decide (c0_1 < (↑ (qp4 c0_0) : Int)) then bif qn 0 c0_1 then kOpt (qp3 c0_0 (c0_1.toNat)) fun b => kOpt (EVs (EV cfg) 11 [AV.int .u8 (↑ (UInt8.toNat b) : Int), .int .u8 (48 : Int), .int .u8 57]) fun v => qJ v fun b => bif b then bif qn 0 c0_1 then kOpt (qp3 c0_0 (c0_1.toNat)) fun b => kOpt (xJ (Op.intDiv BinOp.quo .i64 (IntKind.wrap .i64 (576460752303423487 - IntKind.wrap .i64 (IntKind.wrap .u8 ((↑ (UInt8.toNat b) : Int) - 48)))) 10)) fun v => kInt .i64 v fun n => bif decide (v2 > n) then xM (IntKind.wrap .i64 (0 + IntKind.wrap .i64 (IntKind.wrap .u8 ((↑ (UInt8.toNat b) : Int) - 48)))) c0_0 (IntKind.wrap .i64 (c0_1 + 1)) c0_2 342 nc0_4 h2 else xM (IntKind.wrap .i64 (IntKind.wrap .i64 (10 * v2) + IntKind.wrap .i64 (IntKind.wrap .u8 ((↑ (UInt8.toNat b) : Int) - 48)))) c0_0 (IntKind.wrap .i64 (c0_1 + 1)) c0_2 c0_3 nc0_4 h2 else none else zj0 nc0_4 h2 c0_0 c0_1 c0_2 c0_3 v2 else none else zj0 nc0_4 h2 c0_0 c0_1 c0_2 c0_3 v2 else zj0 nc0_4 h2 c0_0 c0_1 c0_2 c0_3 v2 else none) P) : Gets (xM v2 c0_0 c0_1 c0_2 c0_3 nc0_4 h2) P :=
  gE (fun _ => vt (cfg := cfg) (f := 14) (rd := none) (bs := 2)) (by kernel_rfl) h
noncomputable def qok : Den := evC cfg (EV cfg) 15 none 2 (sub (qE Tryd.f15) [1, 0, 1, 0, 0])
noncomputable def qov : Ex × List AV × AH → Option (AV × AH) := kAft (Cfg.keepOut cfg 15 (qp (sub (qE Tryd.f15) [1, 0, 1, 0, 0]))) (zj 0 (kSeq (fun (fr : List AV) (H : AH) => zi (Cfg.cut cfg 15 (qp (sub (qE Tryd.f15) [1, 1]))) fr H fun (fr : List AV) (H : AH) => vm cfg (EV cfg) (kfN cfg 6) 15 none 2 (sub (qE Tryd.f15) [1, 1]) fr H (xW cfg 1 (Cfg.lift cfg 15 0) (Array.toList (Func.results Tryd.f15)))) (xW cfg 1 (Cfg.lift cfg 15 0) (Array.toList (Func.results Tryd.f15)))))
noncomputable def qoc : List AV × AH → Option (AV × AH) := fun (p : List AV × AH) => kOpt (LOOP 2 (some [0, 2, 3]) [] qok p) qov
noncomputable abbrev qa8 (rows : Rz) (v3 : Int) (c0_0 : Bz) (c0_1 c0_2 c0_3 : Int) (nc0_4 : Nat) (h1 : Rz) : Option (AV × AH) := qoc  (((fx 157 [(0, .ptr 0 0 0), (2, .sl rows), (3, .int .i64 v3)]) : List AV), ([.rows false 5 [[.str c0_0, .int .i64 c0_1, .int .i64 c0_2, .int .i64 c0_3, .ms 1 0 nc0_4]], .rows true 4 h1] : AH))
theorem qlJ (s : Bz) (p fr e : Int) (out : Rz) {P : AV × AH → Prop} (h : Gets (kOpt (EVf (EV cfg) 38 []) fun v => kSl v fun rows => qa8 rows 0 s p fr e (qp4 out) out) P) : Gets (EVj (EV cfg) 15 1 [.ptr 0 0 0] ([ABlk.rows false (5 : Nat) [[AV.str s, AV.int IntKind.i64 p, AV.int IntKind.i64 fr, AV.int IntKind.i64 e, AV.ms (1 : Nat) (0 : Nat) (qp4 out)]], ABlk.rows true (4 : Nat) out] : AH)) P :=
  gE (fun _ => funJ rfl rfl Tryd.func15 rfl) (by kernel_rfl) h
noncomputable abbrev zk0 (nc0_4 : Nat) (h1 : Rz) (c0_0 : Bz) (c0_1 c0_2 c0_3 : Int) : Option (AV × AH) := bif qqk (0 + nc0_4) (qp4 h1) && qH (nc0_4 + 1) 40 then some (AV.tup [], [.rows false 5 [[.str c0_0, .int .i64 (IntKind.wrap .i64 (c0_1 + 1)), .int .i64 c0_2, .int .i64 c0_3, .ms 1 0 (nc0_4 + 1)]], .rows true 4 (qqr (qqf nc0_4 h1) [[AV.int .i64 6, .int .i64 0, .int .i64 c0_2, .str []]])]) else none
theorem qdb (rows : Rz) (v3 : Int) (c0_0 : Bz) (c0_1 c0_2 c0_3 : Int) (nc0_4 : Nat) (h1 : Rz) {P : AV × AH → Prop} (h : Gets (bif decide (v3 < (rows.length : Int)) then bif qn 0 v3 && vS v3 (rows.length : Int) then kOpt (qp3 rows (v3.toNat)) fun row => bif qp6 (qp4 row) 1 then kOpt (qp3 row 0) fun v => kStr v fun s => bif decide (IntKind.wrap .i64 ((c0_0.length : Int) - c0_1) ≥ (s.length : Int)) then bif qn 0 v3 && vS v3 (rows.length : Int) then kOpt (qp3 rows (v3.toNat)) fun row => bif qp6 (qp4 row) 1 then kOpt (qp3 row 0) fun v => kStr v fun s => bif qn 0 (IntKind.wrap .i64 (c0_1 + (s.length : Int))) && qn (IntKind.wrap .i64 (c0_1 + (s.length : Int))) (c0_0.length : Int) then bif qn 0 c0_1 && qn c0_1 (↑ (qp9 (IntKind.wrap .i64 (c0_1 + (↑ (qp4 s) : Int)))) : Int) then bif qn 0 v3 && vS v3 (rows.length : Int) then kOpt (qp3 rows (v3.toNat)) fun row => bif qp6 (qp4 row) 1 then kOpt (qp3 row 0) fun v => kStr v fun s_1 => bif qqf (qp9 (IntKind.wrap .i64 (c0_1 + (s.length : Int))) - qp9 c0_1) (qqq (c0_1.toNat) c0_0) == s_1 then bif qn 0 v3 && vS v3 (rows.length : Int) then kOpt (qp3 rows (v3.toNat)) fun row => bif qp6 (qp4 row) 1 then kOpt (qp3 row 0) fun v => kStr v fun s => bif qn 0 v3 && vS v3 (rows.length : Int) then kOpt (qp3 rows (v3.toNat)) fun row => bif qp6 (qp4 row) 1 then kOpt (qp3 row 0) fun v => kStr v fun s_2 => bif qqk (0 + nc0_4) (qp4 h1) && qH (nc0_4 + 1) 40 then some (AV.tup [], [.rows false 5 [[.str c0_0, .int .i64 (IntKind.wrap .i64 (c0_1 + (s.length : Int))), .int .i64 c0_2, .int .i64 c0_3, .ms 1 0 (nc0_4 + 1)]], .rows true 4 (qqr (qqf nc0_4 h1) [[AV.int .i64 5, .int .i64 0, .int .i64 c0_2, .str s_2]])]) else none else none else none else none else none else qa8 rows (IntKind.wrap .i64 (v3 + 1)) c0_0 c0_1 c0_2 c0_3 nc0_4 h1 else none else none else none else none else none else none else qa8 rows (IntKind.wrap .i64 (v3 + 1)) c0_0 c0_1 c0_2 c0_3 nc0_4 h1 else none else none else bif qn 0 c0_1 then kOpt (qp3 c0_0 (qp9 c0_1)) fun b => bif (↑ (UInt8.toNat b) : Int) == 46 then bif IntKind.wrap .i64 (c0_1 + 1) == (c0_0.length : Int) then zk0 nc0_4 h1 c0_0 c0_1 c0_2 c0_3 else bif qn 0 (IntKind.wrap .i64 (c0_1 + 1)) then kOpt (qp3 c0_0 (qp9 (IntKind.wrap .i64 (c0_1 + 1)))) fun b => kOpt (EVs (EV cfg) 32 [AV.int .u8 (↑ (UInt8.toNat b) : Int)]) fun v => qJ v fun b => bif b then zk0 nc0_4 h1 c0_0 c0_1 c0_2 c0_3 else bif qn 0 (IntKind.wrap .i64 (c0_1 + 1)) then kOpt (qp3 c0_0 (qp9 (IntKind.wrap .i64 (c0_1 + 1)))) fun b => bif (↑ (UInt8.toNat b) : Int) == 37 then bif qqk (0 + nc0_4) (qp4 h1) && qH (nc0_4 + 1) 40 then some (AV.tup [], [.rows false 5 [[.str c0_0, .int .i64 (IntKind.wrap .i64 (c0_1 + 1)), .int .i64 c0_2, .int .i64 c0_3, .ms 1 0 (nc0_4 + 1)]], .rows true 4 (qqr (qqf nc0_4 h1) [[AV.int .i64 6, .int .i64 (0 : Int), .int .i64 c0_2, .str []]])]) else none else some (AV.tup [], [.rows false 5 [[.str c0_0, .int .i64 c0_1, .int .i64 c0_2, .int .i64 340, .ms 1 0 nc0_4]], .rows true 4 h1]) else none else none else some (AV.tup [], [.rows false 5 [[.str c0_0, .int .i64 c0_1, .int .i64 c0_2, .int .i64 340, .ms 1 0 nc0_4]], .rows true 4 h1]) else none) P) : Gets (qa8 rows v3 c0_0 c0_1 c0_2 c0_3 nc0_4 h1) P :=
  gE (fun _ => vt (cfg := cfg) (f := 15) (rd := none) (bs := 2)) (by kernel_rfl) h
end Go.Proofs.YtkohdkldmpiiiaaDoor
end
