/-
  Parts of the proof of CodeJoinsUptoSaid, put together: the abstract evaluation and its contracts. Own work.
  What is proved: each lemma as it stands; no condition.
-/
import Derived.Test.YtkohdkldmpiiiaaGreatProg
import Derived.KernelRfl
import Derived.Lib.Bytealg
import Derived.Test.YtkohdkldmpiiiaaGreatRows
import Derived.ProofKit
import Derived.OpenShut
import Derived.JoinedCond
import Derived.ChangeArms
import Derived.RowKit
import Derived.WalkKit
import Derived.Test.YtkohdkldmpiiiaaGreatZCodeJoinsM3
open Bool renaming and_eq_true → que, false_eq_true → quo, and_self → quy
open Option renaming bind_eq_some_iff → quf, map_eq_some_iff → quk, bind_some → quq, map_some → quz
open List renaming length → qug, getElem?_eq_some_iff → quh, getElem?_eq_getElem → quj, get?Internal → qul, getElem?_append_left → qup, getElem?_set → qur, length_append → qus, getElem?_append_right → qut, take_of_length_le → quu, mem_of_getElem? → quv, take → qux, mem_append → quA, replicate → quB, append → quD, getElem?_cons_succ → quF, mem_cons → quH, length_map → quI, range → quK, length_cons → quM, drop → quN
open Nat renaming eq_of_beq_eq_true → qui, le_refl → qum, beq → qun, ble → quw, mul_le_mul_right → quC, ble_eq → quJ, blt_eq → quL
open Int renaming toNat_natCast → quE, toNat → quG
set_option maxRecDepth 1000000
set_option maxHeartbeats 0
section
namespace Go.Av
variable {α β : Type}
noncomputable def gL (g : β → (β → α) → α) (l : List β) : (List β → α) → α :=
 List.rec (motive := fun _ => (List β → α) → α) (fun k => k []) (fun a _ ih k => g a fun a' => ih fun l' => k (a' :: l')) l
noncomputable def gS (l : List β) : (List β → α) → α :=
 List.rec (motive := fun _ => (List β → α) → α) (fun k => k []) (fun a _ ih k => ih fun l' => k (a :: l')) l
theorem zi {g : β → (β → α) → α} (hg : ∀ b k, g b k = k b) : ∀ (l : List β) (k : List β → α), gL g l k = k l
 | [], _ => rfl
 | a :: l, k => by
  have : gL g (a :: l) k = g a fun a' => gL g l fun l' => k (a' :: l') := rfl
  rw [this, hg, zi hg l]
theorem yE : ∀ (l : List β) (k : List β → α), gS l k = k l
 | [], _ => rfl
 | a :: l, k => by
  have : gS (a :: l) k = gS l fun l' => k (a :: l') := rfl
  rw [this, yE l]
def gA1 (v : AV) (k : AV → α) : α := match v with
 | .int kd m => qo1 kd fun kd => fInt m fun m => k (.int kd m)
 | .bool b => qbg b fun b => k (.bool b)
 | .str s => fL qiq s fun s => k (.str s)
 | .ms a b c => fNat a fun a => fNat b fun b => fNat c fun c => k (.ms a b c)
 | .ptr a b c => fNat a fun a => fNat b fun b => fNat c fun c => k (.ptr a b c)
 | v => k v
theorem qlZ (v : AV) (k : AV → α) : gA1 v k = k v := by
 cases v <;> simp only [gA1, ql4, qn2, qcn, yl, qaU qgT]
noncomputable def gA2 (v : AV) (k : AV → α) : α := match v with
 | .agg cs => gL gA1 cs fun cs => k (.agg cs)
 | .sl rows => gL (gL gA1) rows fun rows => k (.sl rows)
 | .cptr cs o => gL gA1 cs fun cs => fNat o fun o => k (.cptr cs o)
 | .fn f a b => gL gA1 a fun a => gL gA1 b fun b => k (.fn f a b)
 | v => gA1 v k
theorem qqn (v : AV) (k : AV → α) : gA2 v k = k v := by
 have e1 : ∀ (l : List AV) (k : List AV → α), gL gA1 l k = k l := zi qlZ
 cases v <;> simp only [gA2, qlZ, e1, yl, zi e1]
noncomputable def gA (v : AV) (k : AV → α) : α := match v with
 | .tup cs => gL gA2 cs fun cs => k (.tup cs)
 | .ifc t v => gA2 v fun v => k (.ifc t v)
 | v => gA2 v k
theorem qbe (v : AV) (k : AV → α) : gA v k = k v := by
 cases v <;> simp only [gA, qqn, zi qqn]
def gW (v : AV) (k : AV → α) : α := match v with
 | .int a b => k (.int a b)
 | .bool a => k (.bool a)
 | .str a => k (.str a)
 | .agg a => k (.agg a)
 | .tup a => k (.tup a)
 | .nilS => k .nilS
 | .sl a => k (.sl a)
 | .em => k .em
 | .ms a b c => k (.ms a b c)
 | .nilP => k .nilP
 | .ptr a b c => k (.ptr a b c)
 | .cptr a b => k (.cptr a b)
 | .fn a b c => k (.fn a b c)
 | .yld a => k (.yld a)
 | .nilF => k .nilF
 | .nilM => k .nilM
 | .mp a => k (.mp a)
 | .nilI => k .nilI
 | .ifc a b => k (.ifc a b)
 | .junk => k .junk
 | .lsl r => k (.lsl r)
 | .lpt c o => k (.lpt c o)
 | .rsl i r => k (.rsl i r)
 | .rpt i c o => k (.rpt i c o)
 | .alt l => k (.alt l)
 | .wr a b => k (.wr a b)
theorem qfP (v : AV) (k : AV → α) : gW v k = k v := by cases v <;> rfl
noncomputable def gB (b : ABlk) (k : ABlk → α) : α := match b with
 | .rows d sz rs => qbg d fun d => fNat sz fun sz => gL (gL gA1) rs fun rs => k (.rows d sz rs)
 | .froz d sz rs => qbg d fun d => fNat sz fun sz => gL (gL gA1) rs fun rs => k (.froz d sz rs)
 | .mp d es => qbg d fun d => gS es fun es => k (.mp d es)
 | .loop f fr ps a b p s => gL gA1 fr fun fr => k (.loop f fr ps a b p s)
 | .dead => k .dead
 | .res => k .res
 | .reg => k .reg
 | .spl => k .spl
 | .bld T e s => fL qiq s fun s => k (.bld T e s)
theorem qoY (b : ABlk) (k : ABlk → α) : gB b k = k b := by
 have e1 : ∀ (l : List AV) (k : List AV → α), gL gA1 l k = k l := zi qlZ
 cases b <;> simp only [gB, qcn, yl, e1, zi e1, yE, qaU qgT]
noncomputable def gP (p : Nat × AV) (k : Nat × AV → α) : α := gA p.2 fun v => k (p.1, v)
theorem qoX (p : Nat × AV) (k : Nat × AV → α) : gP p k = k p := by unfold gP; rw [qbe]
noncomputable def gH (H : AH) (k : AH → α) : α := gL gB H k
theorem qd6 (H : AH) (k : AH → α) : gH H k = k H := zi qoY H k
abbrev Ov := List (Nat × AV)
def den (n : Nat) (ov : Ov) : List AV := ov.foldr (fun p fr => fr.set p.1 p.2) (quB n .junk)
noncomputable def xg (t : Nat) (ov : Ov) : AV := List.rec (motive := fun _ => AV) .junk (fun p _ ih => cond (qun p.1 t) p.2 ih) ov
theorem qeT (t : Nat) : xg t [] = .junk := rfl
theorem qaH (t : Nat) (p : Nat × AV) (ov : Ov) : xg t (p :: ov) = cond (qun p.1 t) p.2 (xg t ov) := rfl
def OvOk (n : Nat) (ov : Ov) : Prop := ∀ p ∈ ov, p.1 < n
theorem qdw (n : Nat) (ov : Ov) : (den n ov).length = n := by
 induction ov with
 | nil => simp [den]
 | cons p l ih => simp only [den, List.foldr_cons, List.length_set]; exact ih
theorem qdx {n : Nat} {ov : Ov} (h : OvOk n ov) (t : Nat) : (den n ov)[t]? = if t < n then some (xg t ov) else none := by
 induction ov with
 | nil =>
  simp only [den, List.foldr_nil, qeT, List.getElem?_replicate]
 | cons p l ih =>
  have hl : OvOk n l := fun q hq => h q (List.mem_cons_of_mem _ hq)
  have hp : p.1 < n := h p (List.mem_cons_self ..)
  have : (den n (p :: l))[t]? = ((den n l).set p.1 p.2)[t]? := rfl
  rw [this, qur, ih hl, qdw, qaH]
  by_cases e : p.1 = t
  ·subst e; simp [hp]
  ·have : qun p.1 t = false := by rw [← Bool.not_eq_true]; intro h'; exact e (qui h')
   rw [if_neg e, this]; rfl
theorem qeU {n : Nat} {ov : Ov} (h : OvOk n ov) {t : Nat} (ht : ¬ t < n) : xg t ov = .junk := by
 induction ov with
 | nil => rfl
 | cons p l ih =>
  have hp : p.1 < n := h p (List.mem_cons_self ..)
  have : qun p.1 t = false := by rw [← Bool.not_eq_true]; intro h'; have := qui h'; omega
  rw [qaH, this]
  exact ih fun q hq => h q (List.mem_cons_of_mem _ hq)
theorem qji {n : Nat} {ov : Ov} (h : OvOk n ov) {fr : List AV} (hl : fr.length = n) (hg : ∀ t, t < n → fr[t]? = some (xg t ov)) : den n ov = fr := by
 apply List.ext_getElem?
 intro t
 rw [qdx h]
 split
 ·rename_i ht; exact (hg t ht).symm
 ·rename_i ht; exact (List.getElem?_eq_none (by omega)).symm
noncomputable def opdO (ov : Ov) : Operand → AV
 | .tmp t => xg t ov
 | .const v => ofValue v
 | .global _ => .junk
 | .func f => .fn (.func f) [] []
theorem qdt {n : Nat} {ov : Ov} (h : OvOk n ov) : opd (den n ov) = opdO ov := by
 funext o
 cases o with
 | tmp t =>
  show (den n ov).getD t .junk = xg t ov
  rw [List.getD_eq_getElem?_getD, qdx h]
  split
  ·rfl
  ·rename_i ht; exact (qeU h ht).symm
 | _ => rfl
def putO (n : Nat) (ov : Ov) (dst : Option Tmp) (v : AV) : Ov :=
 match dst with
 | some d => cond (Nat.blt d n) ((d, v) :: ov) ov
 | none => ov
theorem qfI {n : Nat} {ov : Ov} (h : OvOk n ov) (dst : Option Tmp) (v : AV) : OvOk n (putO n ov dst v) := by
 cases dst with
 | none => exact h
 | some d =>
  simp only [putO]
  cases hd : Nat.blt d n with
  | false => exact h
  | true =>
   intro p hp
   rw [cond_true] at hp
   rcases quH.1 hp with rfl | hp
   ·simpa [quL] using hd
   ·exact h p hp
theorem qdO {n : Nat} {ov : Ov} (dst : Option Tmp) (v : AV) : den n (putO n ov dst v) = put (den n ov) dst v := by
 cases dst with
 | none => rfl
 | some d =>
  simp only [putO, put]
  cases hd : Nat.blt d n with
  | true => rfl
  | false =>
   have hd : ¬ d < n := by rw [← Bool.not_eq_true, quL] at hd; exact hd
   show den n ov = _
   rw [List.set_eq_of_length_le (by rw [qdw]; exact Nat.le_of_not_lt hd)]
noncomputable def qbU (ops : Array Oper) (ov : Ov) (o : Oper) : Option Bool :=
 match o.guard with
 | none => some true
 | some (j, want) =>
  match (ops[j]?).bind (·.dst) with
  | some d =>
   match xg d ov with
   | .bool b => some (b == want)
   | .tup [] => some false
   | _ => none
  | none => none
theorem qho {n : Nat} {ov : Ov} (h : OvOk n ov) (ops : Array Oper) (o : Oper) : xb ops (den n ov) o = qbU ops ov o := by
 unfold xb qbU
 cases o.guard with
 | none => rfl
 | some p =>
  obtain ⟨j, want⟩ := p
  simp only
  cases (ops[j]?).bind (·.dst) with
  | none => rfl
  | some d =>
   simp only
   rw [qdx h]
   by_cases hd : d < n
   ·rw [if_pos hd]
    cases xg d ov <;> try rfl
    rename_i vs; cases vs <;> rfl
   ·rw [if_neg hd, qeU h hd]
noncomputable def qkN (n : Nat) (H : AH) (p v : AV) (k : AH → Option β) : Option β :=
 match p with
 | .ptr id r off =>
  match v.cells with
  | some cs =>
   match H[id]? with
   | some (.rows d sz rs) =>
    match rs[r]? with
    | some row => if cs.length == n && quw (off + n) row.length then
      gS (row.take off ++ cs ++ row.drop (off + n)) fun row' => gS (rs.set r row') fun rs' => qbg (d && qt 0 cs) fun d' => gS (H.set id (.rows d' sz rs')) k
     else none
    | none => none
   | _ => none
  | none => none
 | .rpt id cs o => (y4 n H (.rpt id cs o) v).bind k
 | _ => none
theorem qpt (n : Nat) (H : AH) (p v : AV) (k : AH → Option β) : qkN n H p v k = (y4 n H p v).bind k := by
 unfold qkN y4
 cases p with
 | ptr id r off =>
  simp only
  cases hv : v.cells with
  | none => simp
  | some cs =>
   simp only
   cases hH : H[id]? with
   | none => simp
   | some b =>
    cases b <;> simp only [Option.bind_none]
    rename_i d sz rs
    cases hr : rs[r]? with
    | none => simp
    | some row =>
     simp only
     split <;> simp [yE, qcn]
 | rpt id cs o => rfl
 | _ => simp
noncomputable def yNew (nid : Option Nat) (H : AH) (b : ABlk) (k : Nat → AH → Option β) : Option β :=
 match nid with
 | none => fNat H.length fun i => gS (H ++ [b]) fun H' => k i H'
 | some i =>
  match H[i]? with
  | some .res => gS (H.set i b) fun H' => k i H'
  | _ => none
theorem qnC (nid : Option Nat) (H : AH) (b : ABlk) (k : Nat → AH → Option β) : yNew nid H b k = (aNew nid H b).bind fun r => k r.1 r.2 := by
 cases nid with
 | none => simp [yNew, aNew, yl, yE]
 | some i =>
  simp only [yNew, aNew]
  cases H[i]? with
  | none => rfl
  | some b => cases b <;> simp [yE]
noncomputable def qpy (cfg : Cfg) (nid : Option Nat) (t : TypeId) (H : AH) (k : AV → AH → Option β) : Option β :=
 match cfg.ty t with
 | some ti => if vX ti.zero then gB (qaq cfg t ti.zero) fun b => yNew nid H b fun i H' => k (.ptr i 0 0) H' else none
 | none => none
noncomputable def yBox (cfg : Cfg) (t : TypeId) (nid : Option Nat) (a : AV) (H : AH) (k : AV → AH → Option β) : Option β :=
 match a.cells with
 | some cs => gS cs fun cs => gB (qct cfg t cs) fun b => yNew nid H b fun i H' => k (.ptr i 0 0) H'
 | none => none
noncomputable def yOp (cfg : Cfg) (nid : Option Nat) (o : Op) (ty : TypeId) (x : Operand → AV) (H : AH) (k : AV → AH → Option β) : Option β :=
 match o with
 | .move a | .assign a => gW (x a) fun v => k v H
 | .alloc t => qpy cfg nid t H k
 | .box t a => yBox cfg t nid (x a) H k
 | .store t a v =>
  match cfg.sz t with
  | some n => qkN n H (x a) (x v) fun H' => k .junk H'
  | none => none
 | .buildSlice t len parts => (match qfV cfg nid t len (parts.toList.map fun p => (p.1, x p.2)) H with | some r => gA r.1 fun v => gH r.2 fun H' => k v H' | none => none)
 | .convert s d a => (match yO cfg nid s d (x a) H with | some r => gA r.1 fun v => gH r.2 fun H' => k v H' | none => none)
 | .makeSlice t l c => (match qae cfg nid t (x l) (x c) H with | some r => gA r.1 fun v => gH r.2 fun H' => k v H' | none => none)
 | .call c => (match evOp cfg nid (.call c) ty x H with | some r => gA r.1 fun v => gH r.2 fun H' => k v H' | none => none)
 | o => (match xOp cfg nid o ty x H with | some r => gA r.1 fun v => k v r.2 | none => none)
theorem qsF (cfg : Cfg) (nid : Option Nat) (o : Op) (ty : TypeId) (x : Operand → AV) (H : AH) (k : AV → AH → Option β) : yOp cfg nid o ty x H k = (evOp cfg nid o ty x H).bind fun r => k r.1 r.2 := by
 have em : ∀ (q : Option (AV × AH)), (match q with | some r => gA r.1 fun v => gH r.2 fun H' => k v H' | none => none) = q.bind fun r => k r.1 r.2 := fun q => by cases q <;> simp [qbe, qd6]
 have em' : ∀ (q : Option (AV × AH)), (match q with | some r => gA r.1 fun v => k v r.2 | none => none) = q.bind fun r => k r.1 r.2 := fun q => by cases q <;> simp [qbe]
 cases o with
 | move a => simp [yOp, evOp, qfP]
 | assign a => simp [yOp, evOp, qfP]
 | alloc t =>
  simp only [yOp, evOp, qpy]
  cases cfg.ty t with
  | none => rfl
  | some ti =>
   simp only
   split
   ·simp only [qoY, qnC]
    cases aNew nid H (qaq cfg t ti.zero) <;> rfl
   ·rfl
 | box t a =>
  simp only [yOp, evOp, yBox]
  cases (x a).cells with
  | none => rfl
  | some cs =>
   simp only [yE, qoY, qnC]
   cases aNew nid H (qct cfg t cs) <;> rfl
 | store t a v =>
  simp only [yOp, evOp]
  cases cfg.sz t with
  | none => rfl
  | some n =>
   simp only [qpt]
   cases y4 n H (x a) (x v) <;> rfl
 | buildSlice t len parts => simp only [yOp]; rw [em]; rfl
 | convert s d a => simp only [yOp]; rw [em]; rfl
 | makeSlice t l c => simp only [yOp]; rw [em]; rfl
 | call c => simp only [yOp]; rw [em]
 | _ => simp only [yOp]; rw [em', qpA]
structure Fact where
 frz : Bool
 f : Nat
 args : List AV
 v : AV
def Fact.Ok (cfg : Cfg) (e : Fact) : Prop := (if e.frz then EVf (EV cfg) e.f e.args else EVs (EV cfg) e.f e.args) = some e.v
def xc (cfg : Cfg) : List Fact → Prop
 | [] => True
 | e :: l => e.Ok cfg ∧ xc cfg l
theorem xc.nil {cfg : Cfg} : xc cfg [] := trivial
theorem xc.consF {cfg : Cfg} {f : Nat} {args : List AV} {v : AV} {l : List Fact} (h : EVf (EV cfg) f args = some v) (t : xc cfg l) : xc cfg (⟨true, f, args, v⟩ :: l) := ⟨h, t⟩
noncomputable def qcl (frz : Bool) (f : Nat) (args : List AV) (fs : List Fact) : Option AV :=
 List.rec (motive := fun _ => Option AV) none (fun e _ ih => cond (qun e.f f && (e.frz == frz && yQ e.args args)) (some e.v) ih) fs
theorem qda {cfg : Cfg} {frz : Bool} {f : Nat} {args : List AV} {v : AV} : ∀ {fs : List Fact}, xc cfg fs → qcl frz f args fs = some v → (if frz then EVf (EV cfg) f args else EVs (EV cfg) f args) = some v
 | [], _, h => by cases h
 | e :: l, hok, h => by
  have hd : qcl frz f args (e :: l) = cond (qun e.f f && (e.frz == frz && yQ e.args args)) (some e.v) (qcl frz f args l) := rfl
  rw [hd] at h
  cases hc : (qun e.f f && (e.frz == frz && yQ e.args args)) with
  | true =>
   rw [hc] at h
   simp only [que, beq_iff_eq] at hc
   cases h
   have := hok.1
   unfold Fact.Ok at this
   rw [← qui hc.1, ← hc.2.1, ← yI hc.2.2]
   exact this
  | false =>
   rw [hc] at h
   exact qda hok.2 h
noncomputable def qha (cfg : Cfg) (cf : Orac) (nid : Option Nat) (t : Tgt) (args : List AV) (H : AH) (k : AV → AH → Option β) : Option β :=
 match qU cfg cf nid t args H with
 | some r => gA r.1 fun v => gH r.2 fun H' => k v H'
 | none => none
noncomputable def qpw (_cfg : Cfg) (cf : Orac) (fs : List Fact) (f : Nat) (al : List AV) (k : AV → Option β) : Option β :=
 cond (qt 0 al)
  (match qcl false f al fs with
  | some v => cond v.scalar (k v) none
  | none => (match cf (.f f) al [] with | some r => gA r.1 fun v => cond v.scalar (k v) none | none => none)) none
noncomputable def qpx (_cfg : Cfg) (cf : Orac) (fs : List Fact) (f : Nat) (al : List AV) (k : AV → Option β) : Option β :=
 cond (qt 0 al)
  (match qcl true f al fs with
  | some v => cond (v.refsLt 0) (k v) none
  | none => (match cf (.f f) al [] with | some r => gA (r.1.frz r.1.msIds r.2).fg fun v => cond (v.refsLt 0) (k v) none | none => none)) none
noncomputable def qkO (cfg : Cfg) (cf : Orac) (fs : List Fact) (nid : Option Nat) (t : Tgt) (args : List AV) (H : AH) (k : AV → AH → Option β) : Option β :=
 match t with
 | .y id => qha cfg cf nid (.y id) args H k
 | .f f =>
  match cfg.mode f with
  | .scal => gL gA (args.map fun a => (a.snap H).fg) fun al => qpw cfg cf fs f al fun v => k v H
  | .pfrz => gL gA (args.map AV.fg) fun al => qpx cfg cf fs f al fun v => k v H
  | _ => qha cfg cf nid (.f f) args H k
noncomputable def qpv (cfg : Cfg) (cf : Orac) (fs : List Fact) (nid : Option Nat) (f : AV) (args : List AV) (H : AH) (k : AV → AH → Option β) : Option β :=
 match yx f args with
 | some t => qkO cfg cf fs nid t.1 t.2 H k
 | none => none
def Le (cf cf' : Orac) : Prop := ∀ t a H r, cf t a H = some r → cf' t a H = some r
theorem qmC {cfg : Cfg} {cf : Orac} (hcf : Le cf (EV cfg)) {fs : List Fact} (hfs : xc cfg fs) {nid : Option Nat} {t : Tgt} {args : List AV} {H : AH} {k : AV → AH → Option β} {r : β}
  (h : qkO cfg cf fs nid t args H k = some r) : ∃ q, qU cfg (EV cfg) nid t args H = some q ∧ k q.1 q.2 = some r := by
 have hev : Ev (fun _ => EV cfg) cf := fun t a H r h => ⟨0, fun _ _ => hcf t a H r h⟩
 have gen : ∀ (t : Tgt), qha cfg cf nid t args H k = some r → ∃ q, qU cfg (EV cfg) nid t args H = some q ∧ k q.1 q.2 = some r := by
  intro t h
  unfold qha at h
  split at h
  ·rename_i q hq
   rw [qbe, qd6] at h
   obtain ⟨n, hn⟩ := qmm hev cfg nid t args H q hq
   exact ⟨q, hn n (qum _), h⟩
  ·cases h
 cases t with
 | y id => exact gen _ h
 | f f =>
  simp only [qkO] at h
  cases hm : cfg.mode f with
  | scal =>
   simp only [hm, zi qbe] at h
   unfold qpw at h
   obtain ⟨h1, h⟩ := qb h
   simp only [qU, hm, h1, if_true]
   split at h
   ·rename_i v hv
    obtain ⟨h2, h⟩ := qb h
    have := qda hfs hv
    simp only [quo, if_false] at this
    unfold EVs at this
    obtain ⟨q, hq, rfl⟩ := quk.1 this
    rw [hq]
    exact ⟨(q.1, H), by simp only [quq, h2, if_true], h⟩
   ·split at h
    ·rename_i q hq
     rw [qbe] at h
     obtain ⟨h2, h⟩ := qb h
     rw [hcf _ _ _ _ hq]
     exact ⟨(q.1, H), by simp only [quq, h2, if_true], h⟩
    ·cases h
  | pfrz =>
   simp only [hm, zi qbe] at h
   unfold qpx at h
   obtain ⟨h1, h⟩ := qb h
   simp only [qU, hm, h1, if_true]
   split at h
   ·rename_i v hv
    obtain ⟨h2, h⟩ := qb h
    have := qda hfs hv
    simp only [if_true] at this
    unfold EVf at this
    obtain ⟨q, hq, rfl⟩ := quk.1 this
    rw [hq]
    exact ⟨((q.1.frz q.1.msIds q.2).fg, H), by simp only [quq, h2, if_true], h⟩
   ·split at h
    ·rename_i q hq
     rw [qbe] at h
     obtain ⟨h2, h⟩ := qb h
     rw [hcf _ _ _ _ hq]
     exact ⟨((q.1.frz q.1.msIds q.2).fg, H), by simp only [quq, h2, if_true], h⟩
    ·cases h
  | _ => simp only [hm] at h; exact gen _ h
noncomputable def qb2 (cfg : Cfg) (cf : Orac) (fs : List Fact) (nid : Option Nat) (o : Op) (ty : TypeId) (x : Operand → AV) (H : AH) (k : AV → AH → Option β) : Option β :=
 match o with
 | .call c =>
  (match c.callee with
  | .value f => gL gW (c.args.toList.map x) fun args => qpv cfg cf fs nid (x f) args H k
  | _ => yOp cfg nid (.call c) ty x H k)
 | o => yOp cfg nid o ty x H k
noncomputable def qko (cfg : Cfg) (cf : Orac) (fs : List Fact) (frz : Bool) (nid : Option Nat) (o : Oper) (x : Operand → AV) (H : AH) (k : AV → AH → Option β) : Option β :=
 match frz with
 | false => qb2 cfg cf fs nid o.op o.type x H k
 | true => gS (o.op.operands.toList.flatMap fun a => (x a).msIds) fun ids => gH (qR ids H) fun H' => qb2 cfg cf fs nid o.op o.type (fun a => (x a).frz ids H) H' k
theorem qfU {cfg : Cfg} {cf : Orac} (hcf : Le cf (EV cfg)) {fs : List Fact} (hfs : xc cfg fs) {nid : Option Nat} {o : Oper} {x : Operand → AV} {H : AH} {k : AV → AH → Option β} {r : β}
  (h : qb2 cfg cf fs nid o.op o.type x H k = some r) : ∃ q, vj cfg (EV cfg) false nid o x H = some q ∧ k q.1 q.2 = some r := by
 obtain ⟨dst, op, ty, pos, after, guard⟩ := o
 unfold vj
 simp only [quo, if_false] at h ⊢
 have plain : ∀ (op : Op), yOp cfg nid op ty x H k = some r → ∃ q, evOp cfg nid op ty x H = some q ∧ k q.1 q.2 = some r := by
  intro op h
  rw [qsF] at h
  exact quf.1 h
 cases op with
 | call c =>
  obtain ⟨callee, args, argTypes⟩ := c
  cases callee with
  | value f =>
   simp only [qb2, zi qfP] at h ⊢
   unfold qpv at h
   split at h
   ·rename_i t ht
    rw [ht]
    exact qmC hcf hfs h
   ·cases h
  | builtin b => simp only [qb2] at h ⊢; exact plain _ h
  | invoke rv nm => simp only [qb2] at h ⊢; exact plain _ h
 | _ => simp only [qb2] at h ⊢; exact plain _ h
theorem qg5 {cfg : Cfg} {cf : Orac} (hcf : Le cf (EV cfg)) {fs : List Fact} (hfs : xc cfg fs) {frz : Bool} {nid : Option Nat} {o : Oper} {x : Operand → AV} {H : AH} {k : AV → AH → Option β} {r : β}
  (h : qko cfg cf fs frz nid o x H k = some r) : ∃ q, vj cfg (EV cfg) frz nid o x H = some q ∧ k q.1 q.2 = some r := by
 cases frz with
 | false => exact qfU hcf hfs h
 | true =>
  simp only [qko, yE, qd6] at h
  obtain ⟨q, h1, h2⟩ := qfU hcf hfs h
  refine ⟨q, ?_, h2⟩
  unfold vj at h1 ⊢
  simpa using h1
noncomputable def yOps (cfg : Cfg) (cf : Orac) (fs : List Fact) (f rid : Nat) (ops : Array Oper) (n : Nat) : Nat → List Oper → Ov → AH → (Ov → AH → Option β) → Option β
 | _, [], ov, H, K => K ov H
 | i, o :: rest, ov, H, K =>
  match qbU ops ov o with
  | none => none
  | some b =>
   cond b (qko cfg cf fs (cfg.frz f rid i) none o (opdO ov) H fun v H' => yOps cfg cf fs f rid ops n (i + 1) rest (putO n ov o.dst v) H' K)
    (yOps cfg cf fs f rid ops n (i + 1) rest (putO n ov o.dst (.tup [])) H K)
theorem qew {cfg : Cfg} {cf : Orac} (hcf : Le cf (EV cfg)) {fs : List Fact} (hfs : xc cfg fs) {f rid n : Nat} {ops : Array Oper} {r : β} : ∀ {l : List Oper} {i : Nat} {ov : Ov} {H : AH} {K : Ov → AH → Option β}, OvOk n ov → yOps cfg cf fs f rid ops n i l ov H K = some r →
  ∃ ov' H', OvOk n ov' ∧ yS cfg (EV cfg) f rid ops i l (den n ov) H = some (den n ov', H') ∧ K ov' H' = some r
 | [], i, ov, H, K, hok, h => ⟨ov, H, hok, rfl, h⟩
 | o :: l, i, ov, H, K, hok, h => by
  rw [yOps] at h
  rw [yS, qho hok]
  cases hw : qbU ops ov o with
  | none => rw [hw] at h; cases h
  | some b =>
   rw [hw] at h
   simp only [quq]
   cases b with
   | true =>
    simp only [cond_true] at h
    obtain ⟨q, h1, h2⟩ := qg5 hcf hfs h
    simp only [if_true, qdt hok, h1, quq]
    obtain ⟨ov', H', h3, h4, h5⟩ := qew hcf hfs (qfI hok _ _) h2
    rw [qdO] at h4
    exact ⟨ov', H', h3, h4, h5⟩
   | false =>
    simp only [cond_false] at h
    simp only [quo, if_false]
    obtain ⟨ov', H', h3, h4, h5⟩ := qew hcf hfs (qfI hok _ _) h
    rw [qdO] at h4
    exact ⟨ov', H', h3, h4, h5⟩
noncomputable def qg9 (cfg : Cfg) (cf : Orac) (fs : List Fact) (f rid : Nat) (ops : Array Oper) (n : Nat) : Nat → Nat → List Oper → Ov → AH → (List DR → Ov → AH → Option β) → Option β
 | _, _, [], ov, H, K => K [] ov H
 | i, at_, o :: rest, ov, H, K =>
  match qbU ops ov o with
  | none => none
  | some b =>
   fNat (at_ + qbp cfg o) fun at' =>
   cond b (qko cfg cf fs (cfg.frz f rid i) (some at_) o (opdO ov) H fun v H' => qg9 cfg cf fs f rid ops n (i + 1) at' rest (putO n ov o.dst v) H' fun fps ov' H'' => K (drOf cfg (cfg.frz f rid i) at_ o (opdO ov) H v H' :: fps) ov' H'')
    (qg9 cfg cf fs f rid ops n (i + 1) at' rest (putO n ov o.dst (.tup [])) H fun fps ov' H'' => K (drNo H :: fps) ov' H'')
theorem qdG {cfg : Cfg} {cf : Orac} (hcf : Le cf (EV cfg)) {fs : List Fact} (hfs : xc cfg fs) {f rid n : Nat} {ops : Array Oper} {r : β} : ∀ {l : List Oper} {i at_ : Nat} {ov : Ov} {H : AH} {K : List DR → Ov → AH → Option β}, OvOk n ov → qg9 cfg cf fs f rid ops n i at_ l ov H K = some r →
  ∃ fps ov' H', OvOk n ov' ∧ xG cfg (EV cfg) f rid ops i at_ l (den n ov) H = some (fps, den n ov', H') ∧ K fps ov' H' = some r
 | [], i, at_, ov, H, K, hok, h => ⟨[], ov, H, hok, rfl, h⟩
 | o :: l, i, at_, ov, H, K, hok, h => by
  rw [qg9] at h
  rw [xG, qho hok]
  cases hw : qbU ops ov o with
  | none => rw [hw] at h; cases h
  | some b =>
   rw [hw] at h
   simp only [quq]
   simp only [yl] at h
   cases b with
   | true =>
    simp only [cond_true] at h
    obtain ⟨q, h1, h2⟩ := qg5 hcf hfs h
    simp only [if_true, qdt hok, h1, quq]
    obtain ⟨fps, ov', H', h3, h4, h5⟩ := qdG hcf hfs (qfI hok _ _) h2
    rw [qdO] at h4
    exact ⟨_, ov', H', h3, by rw [h4]; rfl, h5⟩
   | false =>
    simp only [cond_false] at h
    simp only [quo, if_false]
    obtain ⟨fps, ov', H', h3, h4, h5⟩ := qdG hcf hfs (qfI hok _ _) h
    rw [qdO] at h4
    exact ⟨_, ov', H', h3, by rw [h4]; rfl, h5⟩
def qbo : Nat → List Nat → Bool
 | _, [] => true
 | i, k :: ks => quw i k && qbo (k + 1) ks
noncomputable def qkx (ks : List Nat) (ov : Ov) : (Ov → α) → α :=
 List.rec (motive := fun _ => (Ov → α) → α) (fun K => K []) (fun t _ ih K => gW (xg t ov) fun v => ih fun l => K ((t, v) :: l)) ks
theorem qrq (ks : List Nat) (ov : Ov) : ∀ (K : Ov → α), qkx ks ov K = K (ks.map fun t => (t, xg t ov)) := by
 induction ks with
 | nil => intro K; rfl
 | cons t l ih =>
  intro K
  have : qkx (t :: l) ov K = gW (xg t ov) fun v => qkx l ov fun l => K ((t, v) :: l) := rfl
  rw [this, qfP, ih, List.map_cons]
theorem qbK : ∀ (ks : List Nat) (fr : List AV) (i t : Nat), qbo i ks = true → (xF i ks fr)[t]? = if t < fr.length then some (if i + t ∈ ks then (fr[t]?).getD .junk else .junk) else none
 | ks, [], i, t, _ => by cases ks <;> simp [xF]
 | [], a :: fr, i, t, h => by
  rw [xF]
  cases t with
  | zero => simp
  | succ t =>
   simp only [quF]
   rw [qbK [] fr i t rfl]
   simp
 | k :: ks, a :: fr, i, t, h => by
  rw [qbo, que, quJ] at h
  rw [xF]
  have hge : ∀ (l : List Nat) (j : Nat), qbo j l = true → ∀ x ∈ l, j ≤ x := by
   intro l
   induction l with
   | nil => intro j _ x hx; cases hx
   | cons y l ih =>
    intro j hj x hx
    rw [qbo, que, quJ] at hj
    rcases quH.1 hx with rfl | hx
    ·exact hj.1
    ·have := ih _ hj.2 x hx; omega
  split
  ·rename_i e
   have e := qui e
   subst e
   cases t with
   | zero => simp
   | succ t =>
    simp only [quF]
    rw [qbK ks fr (i + 1) t h.2]
    have e1 : i + (t + 1) = i + 1 + t := by omega
    have e2 : ¬ i + 1 + t = i := by omega
    simp only [quM, Nat.add_lt_add_iff_right, e1, quH, e2, false_or]
  ·rename_i e
   have hne : i ≠ k := fun h' => e (by rw [h']; exact Nat.beq_refl _)
   cases t with
   | zero =>
    have : i ∉ k :: ks := by
     intro hm
     rcases quH.1 hm with rfl | hm
     ·exact hne rfl
     ·have := hge _ _ h.2 i hm; omega
    simp [this]
   | succ t =>
    simp only [quF]
    rw [qbK (k :: ks) fr (i + 1) t (by rw [qbo, que, quJ]; exact ⟨by omega, h.2⟩)]
    have e1 : i + (t + 1) = i + 1 + t := by omega
    simp only [quM, Nat.add_lt_add_iff_right, e1]
theorem qp0 (ks : List Nat) (g : Nat → AV) (t : Nat) : xg t (ks.map fun t => (t, g t)) = if t ∈ ks then g t else .junk := by
 induction ks with
 | nil => rfl
 | cons k l ih =>
  rw [List.map_cons, qaH, ih]
  by_cases e : k = t
  ·subst e; simp
  ·have h1 : qun k t = false := by rw [← Bool.not_eq_true]; intro h'; exact e (qui h')
   have h2 : ¬ t = k := fun h => e h.symm
   rw [h1, cond_false]
   simp only [quH, h2, false_or]
noncomputable def qg6 (n : Nat) (ts : Option (List Nat)) (ov : Ov) (K : Ov → Option β) : Option β :=
 match ts with
 | none => K ov
 | some ks => cond (qbo 0 ks && ks.all fun t => Nat.blt t n) (qkx ks ov K) none
theorem qdF {n : Nat} {ts : Option (List Nat)} {ov : Ov} {K : Ov → Option β} {r : β} (hok : OvOk n ov) (h : qg6 n ts ov K = some r) : ∃ ov', OvOk n ov' ∧ vE ts (den n ov) = den n ov' ∧ K ov' = some r := by
 cases ts with
 | none => exact ⟨ov, hok, rfl, h⟩
 | some ks =>
  simp only [qg6, qrq] at h
  cases hc : (qbo 0 ks && ks.all fun t => Nat.blt t n) with
  | false => rw [hc] at h; cases h
  | true =>
   rw [hc] at h
   rw [que, List.all_eq_true] at hc
   have hok' : OvOk n (ks.map fun t => (t, xg t ov)) := by
    intro p hp
    obtain ⟨t, ht, rfl⟩ := List.mem_map.1 hp
    have := hc.2 t ht
    simpa [quL] using this
   refine ⟨_, hok', (qji hok' ?_ fun t ht => ?_).symm, h⟩
   ·show (xF 0 ks (den n ov)).length = n
    rw [(qaL (ts := ks) (fr := den n ov) (k := 0)).1, qdw]
   ·show (xF 0 ks (den n ov))[t]? = _
    rw [qbK _ _ _ _ hc.1, qdw, if_pos ht, Nat.zero_add, qp0, qdx hok, if_pos ht]
    rfl
noncomputable def qbE (n : Nat) : List (Tmp × Nat) → Ov → AH → (Ov → AH → Option β) → Option β
 | [], ov, H, K => K ov H
 | p :: l, ov, H, K =>
  match xg p.1 ov with
  | .nilS => fNat H.length fun i => cond (Nat.blt p.1 n) (gS (H ++ [.rows true p.2 []]) fun H' => qbE n l ((p.1, .ms i 0 0) :: ov) H' K) none
  | .ptr _ _ _ => (match xW p.1 p.2 (den n ov) H with | q => gH q.2 fun H' => qbE n l ov H' K)
  | _ => qbE n l ov H K
theorem qp5 {t sz : Nat} {fr : List AV} {H : AH} {id r off : Nat} (h : fr[t]? = some (.ptr id r off)) : (xW t sz fr H).1 = fr := by
 unfold xW
 rw [h]
 simp only
 split
 ·split
  ·split <;> rfl
  ·rfl
 ·rfl
theorem zR {n : Nat} {r : β} : ∀ {ls : List (Tmp × Nat)} {ov : Ov} {H : AH} {K : Ov → AH → Option β}, OvOk n ov → qbE n ls ov H K = some r → ∃ ov' H', OvOk n ov' ∧ vt ls (den n ov) H = (den n ov', H') ∧ K ov' H' = some r
 | [], ov, H, K, hok, h => ⟨ov, H, hok, rfl, h⟩
 | p :: l, ov, H, K, hok, h => by
  rw [qbE] at h
  rw [vt]
  have hget : (den n ov)[p.1]? = if p.1 < n then some (xg p.1 ov) else none := qdx hok p.1
  split at h
  ·rename_i hv
   simp only [yl] at h
   cases hb : Nat.blt p.1 n with
   | false => rw [hb] at h; cases h
   | true =>
    rw [hb] at h
    simp only [cond_true, yE] at h
    have hlt : p.1 < n := by simpa [quL] using hb
    have hl1 : xW p.1 p.2 (den n ov) H = (den n ((p.1, .ms H.length 0 0) :: ov), H ++ [.rows true p.2 []]) := by
     unfold xW
     rw [hget, if_pos hlt, hv]; rfl
    rw [hl1]
    exact zR (fun q hq => (quH.1 hq).elim (fun e => by subst e; exact hlt) (hok q)) h
  ·rename_i id r' off hv
   simp only [qd6] at h
   by_cases hlt : p.1 < n
   ·rw [qp5 (by rw [hget, if_pos hlt, hv])]
    exact zR hok h
   ·rw [qeU hok hlt] at hv; cases hv
  ·rename_i h1 h2
   have hl1 : xW p.1 p.2 (den n ov) H = (den n ov, H) := by
    unfold xW
    rw [hget]
    by_cases hlt : p.1 < n
    ·rw [if_pos hlt]
     split
     ·rename_i e; exact absurd (Option.some.inj e) h1
     ·rename_i a b c e; exact absurd (Option.some.inj e) (h2 a b c)
     ·rfl
    ·rw [if_neg hlt]
   rw [hl1]
   exact zR hok h
def spGo : Nat → List AV → Ov
 | _, [] => []
 | i, .junk :: l => spGo (i + 1) l
 | i, v :: l => (i, v) :: spGo (i + 1) l
theorem qk8 : ∀ (l : List AV) (i t : Nat), xg t (spGo i l) = if i ≤ t then (l[t - i]?).getD .junk else .junk
 | [], i, t => by simp [spGo, qeT]
 | a :: l, i, t => by
  have ih := qk8 l (i + 1) t
  have key : ∀ (ov : Ov), ov = (i, a) :: spGo (i + 1) l → xg t ov = if i ≤ t then ((a :: l)[t - i]?).getD .junk else .junk := by
   intro ov e
   rw [e, qaH, ih]
   by_cases e2 : i = t
   ·subst e2; simp
   ·have h1 : qun i t = false := by rw [← Bool.not_eq_true]; intro h'; exact e2 (qui h')
    simp only [h1, cond_false]
    by_cases h3 : i + 1 ≤ t
    ·have h4 : t - i = (t - (i + 1)) + 1 := by omega
     rw [if_pos h3, if_pos (by omega), h4, quF]
    ·rw [if_neg h3, if_neg (by omega)]
  cases a with
  | junk =>
   show xg t (spGo (i + 1) l) = _
   rw [ih]
   by_cases h3 : i + 1 ≤ t
   ·have h4 : t - i = (t - (i + 1)) + 1 := by omega
    rw [if_pos h3, if_pos (by omega), h4, quF]
   ·rw [if_neg h3]
    by_cases e2 : i = t
    ·subst e2; simp
    ·rw [if_neg (by omega)]
  | _ => exact key _ rfl
theorem qbV : ∀ (l : List AV) (i n : Nat), i + l.length ≤ n → OvOk n (spGo i l)
 | [], i, n, _ => fun p hp => by cases hp
 | a :: l, i, n, h => by
  simp only [quM] at h
  have ih := qbV l (i + 1) n (by omega)
  have key : OvOk n ((i, a) :: spGo (i + 1) l) := fun p hp => by
   rcases quH.1 hp with rfl | hp
   ·show i < n; omega
   ·exact ih p hp
  cases a <;> first | exact key | exact ih
theorem qiB (l : List AV) : den l.length (spGo 0 l) = l := by
 have hok := qbV l 0 l.length (by omega)
 refine qji hok rfl fun t ht => ?_
 rw [qk8, if_pos (Nat.zero_le _), Nat.sub_zero, quj ht]; rfl
noncomputable def yGc (n k : Nat) (ov : Ov) (H : AH) (K : Ov → AH → Option β) : Option β :=
 cond (quw H.length k) (K ov H) (match qaT k (den n ov) H with | q => gS (spGo 0 q.1) fun ov' => gL gP ov' fun ov' => gH q.2 fun H' => K ov' H')
theorem qrj (ρ : Nat → Nat) (l : List AV) : (renL ρ l).length = l.length := by rw [yJ]; simp
theorem qqm (k : Nat) (fr : List AV) (H : AH) : (qaT k fr H).1.length = fr.length := by
 unfold qaT
 simp only
 cases xj H (xN k H (2 * H.length + 16) [] (qM k fr ++ vS k (H.take k))) with
 | none => rfl
 | some bs =>
  simp only
  split
  ·exact qrj _ _
  ·rfl
theorem qq1 {n k : Nat} {ov : Ov} {H : AH} {K : Ov → AH → Option β} {r : β} (hok : OvOk n ov) (h : yGc n k ov H K = some r) : ∃ ov' H', OvOk n ov' ∧ gc k (den n ov) H = (den n ov', H') ∧ K ov' H' = some r := by
 unfold yGc at h
 unfold gc
 cases hb : quw H.length k with
 | true => rw [hb] at h; exact ⟨ov, H, hok, by simp, h⟩
 | false =>
  rw [hb] at h
  simp only [cond_false] at h
  rw [yE, zi qoX, qd6] at h
  have hl : (qaT k (den n ov) H).1.length = n := by rw [qqm, qdw]
  have := qiB (qaT k (den n ov) H).1
  rw [hl] at this
  refine ⟨_, _, ?_, ?_, h⟩
  ·exact qbV _ _ _ (by omega)
  ·simp only [quo, if_false, this]
noncomputable def qn7 (n k : Nat) (ts : Option (List Tmp)) (ls : List (Tmp × Nat)) (ov : Ov) (H : AH) (K : Ov → AH → Option β) : Option β :=
 qg6 n ts ov fun ov => qbE n ls ov H fun ov H => yGc n k ov H K
theorem qg8 {n k : Nat} {ts : Option (List Tmp)} {ls : List (Tmp × Nat)} {ov : Ov} {H : AH} {K : Ov → AH → Option β} {r : β} (hok : OvOk n ov) (h : qn7 n k ts ls ov H K = some r) :
  ∃ ov' H', OvOk n ov' ∧ x9 k ts ls (den n ov) H = (den n ov', H') ∧ K ov' H' = some r := by
 obtain ⟨ov1, h1, h2, h⟩ := qdF hok h
 obtain ⟨ov2, H2, h3, h4, h⟩ := zR h1 h
 obtain ⟨ov3, H3, h5, h6, h⟩ := qq1 h3 h
 refine ⟨ov3, H3, h5, ?_, h⟩
 unfold x9
 rw [h2, h4]
 exact h6
abbrev YE (β : Type) := Ex → Ov → AH → Option β
noncomputable def qkp (n k : Nat) (ts : Option (List Tmp)) (ls : List (Tmp × Nat)) (body : Ov → AH → YE β → Option β) : Nat → Ov → AH → YE β → Option β
 | 0, _, _, _ => none
 | m + 1, ov, H, K => body ov H fun e ov' H' =>
  match e with
  | .normal => qn7 n k ts ls ov' H' fun ov2 H2 => qkp n k ts ls body m ov2 H2 K
  | e => K e ov' H'
noncomputable def qpu (cfg : Cfg) (cf : Orac) (f : Nat) (rd : Option Nat) (n bs : Nat) (g : Operand) (ps : Array Tmp) (assign body : Code) (ov : Ov) (H : AH) (K : YE β) : Option β :=
 gL gW (den n ov) fun fr =>
 match zy cfg cf f rd bs g ps assign body fr H with
 | none => none
 | some q => gS (spGo 0 q.2.1) fun ov' => gL gP ov' fun ov' => gH q.2.2 fun H' => cond (qun q.2.1.length n) (K q.1 ov' H') none
noncomputable def yC (cfg : Cfg) (cf : Orac) (fs : List Fact) (m f : Nat) (rd : Option Nat) (n bs : Nat) : Code → Ov → AH → YE β → Option β
 | .skip, ov, H, K => K .normal ov H
 | .label _, ov, H, K => K .normal ov H
 | .region id ops draw, ov, H, K =>
  match draw with
  | true => cond (zj ops) (gS (H ++ quB (places cfg ops.toList) .res) fun H1 => qg9 cfg cf fs f id ops n 0 H.length ops.toList ov H1 fun fps ov' H' => cond (qbZ (ancs [] ops.toList) H1 fps) (K .normal ov' H') none) none
  | false => yOps cfg cf fs f id ops n 0 ops.toList ov H fun ov' H' => K .normal ov' H'
 | .seq a b, ov, H, K =>
  match qcs a with
  | some p =>
   gL gW (den n ov) fun fr =>
   match (qaV cfg cf f p.1 p.2 p.2.size [] fr H).bind fun L => qau (fun fr H => (xC cfg cf m f rd bs b (vE (cfg.cut f (qg b)) fr) H).map (qjm bs (dsts a ++ dsts b))) L with
   | none => none
   | some q => gS (spGo 0 q.2.1) fun ov' => gL gP ov' fun ov' => gH q.2.2 fun H' => cond (qun q.2.1.length n) (K q.1 ov' H') none
  | none => yC cfg cf fs m f rd n bs a ov H fun e ov' H' =>
   match e with
   | .normal => qg6 n (cfg.cut f (qg b)) ov' fun ov2 => yC cfg cf fs m f rd n bs b ov2 H' K
   | e => K e ov' H'
 | .cond c a b, ov, H, K =>
  match opdO ov c with
  | .bool t => (match t with | true => yC cfg cf fs m f rd n bs a ov H K | false => yC cfg cf fs m f rd n bs b ov H K)
  | _ => none
 | .block id a, ov, H, K => yC cfg cf fs m f rd n bs a ov H fun e ov' H' =>
  match e with
  | .exit id' => cond (qun id' id) (K .normal ov' H') (K (.exit id') ov' H')
  | e => K e ov' H'
 | .loop a, ov, H, K => qn7 n bs (cfg.keepIn f (qg a)) (cfg.lift f (qg a)) ov H fun ov H =>
   qkp n bs (cfg.keepIn f (qg a)) (cfg.lift f (qg a)) (yC cfg cf fs m f rd n bs a) m ov H fun e ov H => qg6 n (cfg.keepOut f (qg a)) ov fun ov => K e ov H
 | .scope a, ov, H, K => yC cfg cf fs m f rd n bs a ov H fun e ov' H' =>
  match e with
  | .goto _ => none
  | e => K e ov' H'
 | .exit id, ov, H, K => K (.exit id) ov H
 | .goto _, _, _, _ => none
 | .ret, ov, H, K => K .ret ov H
 | .rangeFunc g ps assign body, ov, H, K => qbE n (cfg.lift f (qg body)) ov H fun ov H => qpu cfg cf f rd n bs g ps assign body ov H K
 | .refuse _, _, _, _ => none
theorem qg7 {n k : Nat} {ts : Option (List Tmp)} {ls : List (Tmp × Nat)} {body : Ov → AH → YE β → Option β} {den' : Den} {r : β}
  (hb : ∀ {ov H K}, OvOk n ov → body ov H K = some r → ∃ e ov' H', OvOk n ov' ∧ den' (den n ov) H = some (e, den n ov', H') ∧ K e ov' H' = some r) :
  ∀ (m : Nat) {ov : Ov} {H : AH} {K : YE β}, OvOk n ov → qkp n k ts ls body m ov H K = some r → ∃ e ov' H', OvOk n ov' ∧ xV k ts ls den' m (den n ov, H) = some (e, den n ov', H') ∧ K e ov' H' = some r
 | 0, ov, H, K, _, h => by cases h
 | m + 1, ov, H, K, hok, h => by
  rw [qkp] at h
  obtain ⟨e, ov1, H1, h1, h2, h3⟩ := hb hok h
  rw [xV]
  simp only [h2, quq]
  cases e with
  | normal =>
   simp only at h3 ⊢
   obtain ⟨ov2, H2, h4, h5, h6⟩ := qg8 h1 h3
   rw [h5]
   exact qg7 hb m h4 h6
  | exit id => exact ⟨_, ov1, H1, h1, rfl, h3⟩
  | goto l => exact ⟨_, ov1, H1, h1, rfl, h3⟩
  | ret => exact ⟨_, ov1, H1, h1, rfl, h3⟩
theorem qiV {cfg : Cfg} {cf : Orac} (hcf : Le cf (EV cfg)) {fs : List Fact} (hfs : xc cfg fs) {m f : Nat} {rd : Option Nat} {n bs : Nat} {r : β} : ∀ (c : Code) {ov : Ov} {H : AH} {K : YE β}, OvOk n ov → yC cfg cf fs m f rd n bs c ov H K = some r →
  ∃ e ov' H', OvOk n ov' ∧ evC cfg (EV cfg) f rd bs c (den n ov) H = some (e, den n ov', H') ∧ K e ov' H' = some r := by
 intro c
 induction c with
 | skip => intro ov H K hok h; exact ⟨_, ov, H, hok, by simp only [evC], h⟩
 | label l => intro ov H K hok h; exact ⟨_, ov, H, hok, by simp only [evC], h⟩
 | exit id => intro ov H K hok h; exact ⟨_, ov, H, hok, by simp only [evC], h⟩
 | ret => intro ov H K hok h; exact ⟨_, ov, H, hok, by simp only [evC], h⟩
 | goto l => intro ov H K hok h; cases h
 | refuse s => intro ov H K hok h; cases h
 | region id ops draw =>
  intro ov H K hok h
  simp only [yC] at h
  simp only [evC]
  cases draw with
  | true =>
   simp only at h
   obtain ⟨h1, h⟩ := qb h
   rw [yE] at h
   obtain ⟨fps, ov', H', h2, h3, h⟩ := qdG hcf hfs hok h
   obtain ⟨h4, h⟩ := qb h
   exact ⟨_, ov', H', h2, by simp only [if_true, h1, h3, quq, h4], h⟩
  | false =>
   simp only at h
   obtain ⟨ov', H', h2, h3, h⟩ := qew hcf hfs hok h
   exact ⟨_, ov', H', h2, by simp only [quo, if_false, h3, quz], h⟩
 | seq x y ihx ihy =>
  intro ov H K hok h
  simp only [yC] at h
  simp only [evC]
  cases hco : qcs x with
  | some p =>
   simp only [hco] at h ⊢
   rw [zi qfP] at h
   split at h
   ·cases h
   ·rename_i q hq
    obtain ⟨L, hL, hq⟩ := quf.1 hq
    have hev : Ev (fun _ => EV cfg) cf := fun t a H r h => ⟨0, fun _ _ => hcf t a H r h⟩
    obtain ⟨_, hL'⟩ := qgV hev cfg f p.1 p.2 _ _ _ _ _ hL
    have hL' : qaV cfg (EV cfg) f p.1 p.2 p.2.size [] (den n ov) H = some L := hL' _ (qum _)
    have hq' := qli (G := fun fr H => (evC cfg (EV cfg) f rd bs y (vE (cfg.cut f (qg y)) fr) H).map (qjm bs (dsts x ++ dsts y))) (fun fr H r hr => by
     obtain ⟨r', hr', e⟩ := quk.1 hr
     rw [qt3 cfg hcf m f rd bs y _ _ _ hr', ← e]; rfl) hq
    rw [yE, zi qoX, qd6] at h
    obtain ⟨hl, h⟩ := qb h
    have hl := qui hl
    have hd := qiB q.2.1
    rw [hl] at hd
    refine ⟨q.1, _, q.2.2, ?_, ?_, h⟩
    ·exact qbV _ _ _ (by omega)
    ·rw [hL', quq, hq', hd]
  | none => ?_
  simp only [hco] at h ⊢
  obtain ⟨e, ov1, H1, h1, h2, h⟩ := ihx hok h
  rw [h2]
  simp only [quq]
  cases e with
  | normal =>
   simp only at h ⊢
   obtain ⟨ov2, h3, h4, h⟩ := qdF h1 h
   rw [h4]
   exact ihy h3 h
  | exit id => exact ⟨_, ov1, H1, h1, rfl, h⟩
  | goto l => exact ⟨_, ov1, H1, h1, rfl, h⟩
  | ret => exact ⟨_, ov1, H1, h1, rfl, h⟩
 | cond c x y ihx ihy =>
  intro ov H K hok h
  simp only [yC] at h
  simp only [evC, qdt hok]
  split at h
  ·rename_i t ht
   rw [ht]
   cases t with
   | true => exact ihx hok h
   | false => exact ihy hok h
  ·cases h
 | block id x ih =>
  intro ov H K hok h
  simp only [yC] at h
  simp only [evC]
  obtain ⟨e, ov1, H1, h1, h2, h⟩ := ih hok h
  rw [h2]
  simp only [quq]
  cases e with
  | normal => exact ⟨_, ov1, H1, h1, rfl, h⟩
  | exit id' =>
   simp only at h ⊢
   cases hb : qun id' id with
   | true => rw [hb] at h; exact ⟨_, ov1, H1, h1, by simp, h⟩
   | false => rw [hb] at h; exact ⟨_, ov1, H1, h1, by simp, h⟩
  | goto l => exact ⟨_, ov1, H1, h1, rfl, h⟩
  | ret => exact ⟨_, ov1, H1, h1, rfl, h⟩
 | loop x ih =>
  intro ov H K hok h
  simp only [yC] at h
  simp only [evC]
  obtain ⟨ov1, H1, h1, h2, h⟩ := qg8 hok h
  rw [h2]
  obtain ⟨e, ov2, H2, h3, h4, h⟩ := qg7 (den' := evC cfg (EV cfg) f rd bs x) (fun hok h => ih hok h) m h1 h
  obtain ⟨ov3, h5, h6, h⟩ := qdF h3 h
  rw [qdD h4]
  exact ⟨e, ov3, H2, h5, by simp only [quz, h6], h⟩
 | scope x ih =>
  intro ov H K hok h
  simp only [yC] at h
  simp only [evC]
  obtain ⟨e, ov1, H1, h1, h2, h⟩ := ih hok h
  rw [h2]
  simp only [quq]
  cases e with
  | goto l => cases h
  | normal => exact ⟨_, ov1, H1, h1, rfl, h⟩
  | exit id => exact ⟨_, ov1, H1, h1, rfl, h⟩
  | ret => exact ⟨_, ov1, H1, h1, rfl, h⟩
 | rangeFunc g ps assign body =>
  intro ov H K hok h
  simp only [yC] at h
  simp only [evC]
  obtain ⟨ov1, H1, h1, h2, h⟩ := zR hok h
  rw [h2]
  simp only
  unfold qpu at h
  rw [zi qfP] at h
  split at h
  ·cases h
  ·rename_i q hq
   have hq : zy cfg (EV cfg) f rd bs g ps assign body (den n ov1) H1 = some q := by
    unfold zy at hq ⊢
    split at hq
    ·rename_i hl
     rw [if_pos hl]
     split at hq
     ·split at hq
      ·cases hq
      ·rename_i hx
       rw [if_neg hx]
       obtain ⟨q2, hq2, hq⟩ := quf.1 hq
       rw [hcf _ _ _ _ hq2]
       exact hq
     ·cases hq
    ·cases hq
   rw [yE, zi qoX, qd6] at h
   obtain ⟨hl, h⟩ := qb h
   have hl := qui hl
   have hd := qiB q.2.1
   rw [hl] at hd
   refine ⟨q.1, _, q.2.2, ?_, ?_, h⟩
   ·exact qbV _ _ _ (by omega)
   ·rw [hq, hd]
noncomputable def resO (rs : List ResultVar) (ty : TypeId → Option TI) (ov : Ov) (H : AH) : Option (List AV) :=
 match rs with
 | [] => some []
 | .tmp t :: l => (resO l ty ov H).map fun vs => xg t ov :: vs
 | .cell a t :: l =>
  match ty t with
  | some ti => (zn ti.d.agg ti.sz H (xg a ov)).bind fun v => (resO l ty ov H).map fun vs => v :: vs
  | none => none
theorem qi6 {n : Nat} {ov : Ov} (hok : OvOk n ov) (ty : TypeId → Option TI) (H : AH) : ∀ rs : List ResultVar, xy rs ty (den n ov) H = resO rs ty ov H
 | [] => rfl
 | .tmp t :: l => by
  have : (den n ov).getD t .junk = xg t ov := congrFun (qdt hok) (.tmp t)
  simp only [xy, resO, qi6 hok ty H l, this]
 | .cell a t :: l => by
  have : (den n ov).getD a .junk = xg a ov := congrFun (qdt hok) (.tmp a)
  simp only [xy, resO, qi6 hok ty H l, this]
  cases ty t <;> rfl
noncomputable def yEnd (cfg : Cfg) (f n : Nat) (rs : List ResultVar) : YE (AV × AH) := fun e ov H =>
 match e with
 | .normal | .ret => qbE n (cfg.lift f 0) ov H fun ov H => (match resO rs cfg.ty ov H with | some vs => gA (yX vs) fun v => some (v, H) | none => none)
 | _ => none
def qec : Nat → List AV → Ov
 | _, [] => []
 | i, a :: l => (i, a) :: qec (i + 1) l
theorem qgZ : ∀ (l : List AV) (i n : Nat), i + l.length ≤ n → OvOk n (qec i l)
 | [], i, n, _ => fun p hp => by cases hp
 | a :: l, i, n, h => by
  simp only [quM] at h
  intro p hp
  rcases quH.1 hp with rfl | hp
  ·show i < n; omega
  ·exact qgZ l (i + 1) n (by omega) p hp
theorem qj4 : ∀ (l : List AV) (i t : Nat), xg t (qec i l) = if i ≤ t then (l[t - i]?).getD .junk else .junk
 | [], i, t => by simp [qec, qeT]
 | a :: l, i, t => by
  rw [qec, qaH, qj4 l (i + 1) t]
  by_cases e2 : i = t
  ·subst e2; simp
  ·have h1 : qun i t = false := by rw [← Bool.not_eq_true]; intro h'; exact e2 (qui h')
   simp only [h1, cond_false]
   by_cases h3 : i + 1 ≤ t
   ·have h4 : t - i = (t - (i + 1)) + 1 := by omega
    rw [if_pos h3, if_pos (by omega), h4, quF]
   ·rw [if_neg h3, if_neg (by omega)]
theorem qrC {l : List AV} {n : Nat} (h : l.length ≤ n) : den n (qec 0 l) = l ++ quB (n - l.length) .junk := by
 refine qji (qgZ l 0 n (by omega)) (by simp; omega) fun t ht => ?_
 rw [qj4, if_pos (Nat.zero_le _), Nat.sub_zero]
 by_cases hl : t < l.length
 ·rw [qup hl, quj hl]; rfl
 ·rw [qut (by omega), List.getElem?_replicate, if_pos (by omega), List.getElem?_eq_none (by omega)]; rfl
noncomputable def yY2 (id : Nat) : YE (AV × AH) := fun e _ H =>
 match H[id]? with
 | some (.loop f' fr' ps' assign' body' _ _) =>
  match e with
  | .normal => gS (H.set id (.loop f' fr' ps' assign' body' none .ready)) fun H' => some (.bool true, H')
  | .ret => gS (H.set id (.loop f' fr' ps' assign' body' (some .ret) .done)) fun H' => some (.bool false, H')
  | .exit x => gS (H.set id (.loop f' fr' ps' assign' body' (some (.exit x)) .done)) fun H' => some (.bool false, H')
  | .goto _ => none
 | _ => none
noncomputable def yF (cfg : Cfg) (look : Nat → Option Func) (fs : List Fact) (m : Nat) : Nat → Orac
 | 0, _, _, _ => none
 | d + 1, .f f, args, H =>
  match cfg.ext f with
  | some s => s args H
  | none =>
   if cfg.known f then
    match look f with
    | some fn =>
     match fn.body with
     | some c => cond (quw args.length fn.ntmps) (fNat H.length fun bs => fNat fn.ntmps fun n => gS (qec 0 args) fun ov => yC cfg (yF cfg look fs m d) fs m f none n bs c ov H (yEnd cfg f n fn.results.toList)) none
     | none => none
    | none => none
   else none
 | d + 1, .y id, args, H =>
  match H[id]? with
  | some (.loop f fr ps assign body _ .ready) =>
   cond (qun args.length ps.length)
    (fNat H.length fun bs => fNat (yg fr ps args).length fun n => gS (spGo 0 (yg fr ps args)) fun ov => yC cfg (yF cfg look fs m d) fs m f (some id) n bs assign ov H fun e ov H =>
     match e with
     | .normal =>
      (match H[id]? with
      | some (.loop f' fr' ps' assign' body' pend' .ready) => gS (H.set id (.loop f' fr' ps' assign' body' pend' .busy)) fun H' => yC cfg (yF cfg look fs m d) fs m f (some id) n bs body ov H' (yY2 id)
      | _ => none)
     | _ => none) none
  | _ => none
theorem qn8 (cfg : Cfg) {look : Nat → Option Func} (hl : ∀ f fn, look f = some fn → cfg.P.funcs[f]? = some fn) {fs : List Fact} (hfs : xc cfg fs) (m : Nat) : ∀ (d : Nat) (t : Tgt) (a : List AV) (H : AH) (r), yF cfg look fs m d t a H = some r → EV cfg t a H = some r
 | 0, _, _, _, _, h => by cases h
 | d + 1, t, a, H, r, h => by
  have ih := qn8 cfg hl hfs m d
  refine qps ?_
  cases t with
  | f f =>
   simp only [yF] at h
   unfold xH
   split at h
   ·rename_i s hs
    simp only [hs]
    exact h
   ·rename_i hs
    simp only [hs]
    split at h
    ·rename_i hk
     rw [if_pos hk]
     split at h
     ·rename_i fn hf
      simp only [hl f fn hf]
      split at h
      ·rename_i c hb
       simp only [hb]
       obtain ⟨hle, h⟩ := qb h
       rw [quJ] at hle
       simp only [yl, yE] at h
       obtain ⟨e, ov', H', h1, h2, h3⟩ := qiV ih hfs c (qgZ a 0 fn.ntmps (by omega)) h
       rw [qrC hle] at h2
       rw [h2]
       simp only [quq]
       unfold yEnd at h3
       have fin : ∀ (e : Ex), (e = .normal ∨ e = .ret) → (qbE fn.ntmps (cfg.lift f 0) ov' H' fun ov H => (match resO fn.results.toList cfg.ty ov H with | some vs => gA (yX vs) fun v => some (v, H) | none => none)) = some r →
         qbu cfg fn.results.toList (e, vt (cfg.lift f 0) (den fn.ntmps ov') H') = some r := by
        intro e he h3
        obtain ⟨ov2, H2, h4, h5, h6⟩ := zR h1 h3
        rw [h5]
        unfold qbu
        rcases he with rfl | rfl <;>
        ·simp only [qi6 h4]
         split at h6
         ·rename_i vs hv
          rw [qbe] at h6
          rw [hv]
          exact h6
         ·cases h6
       cases e with
       | normal => exact fin _ (.inl rfl) h3
       | ret => exact fin _ (.inr rfl) h3
       | exit x => cases h3
       | goto l => cases h3
      ·cases h
     ·cases h
    ·cases h
  | y id =>
   simp only [yF] at h
   unfold xH
   split at h
   ·rename_i f fr ps assign body p hlp
    simp only [hlp]
    obtain ⟨hlen, h⟩ := qb h
    rw [if_pos (qui hlen)]
    simp only [yl, yE] at h
    obtain ⟨e, ov1, H1, h1, h2, h3⟩ := qiV ih hfs assign (qbV _ 0 _ (by omega)) h
    rw [qiB] at h2
    rw [h2]
    simp only [quq]
    cases e with
    | normal =>
     simp only at h3 ⊢
     split at h3
     ·rename_i f' fr' ps' assign' body' pend' hl1
      simp only [hl1]
      obtain ⟨e2, ov2, H2, h4, h5, h6⟩ := qiV ih hfs body h1 h3
      rw [h5]
      simp only [quq]
      unfold yY2 at h6
      split at h6
      ·rename_i hl2
       simp only [hl2]
       cases e2 with
       | normal => simp only [yE] at h6; exact h6
       | ret => simp only [yE] at h6; exact h6
       | exit x => simp only [yE] at h6; exact h6
       | goto l => cases h6
      ·cases h6
     ·cases h3
    | exit x => cases h3
    | goto l => cases h3
    | ret => cases h3
   ·cases h
theorem qsW {cfg : Cfg} {look : Nat → Option Func} (hl : ∀ f fn, look f = some fn → cfg.P.funcs[f]? = some fn) {fs : List Fact} (hfs : xc cfg fs) {f : Nat} {args : List AV} {v : AV} (m d : Nat)
  (h : (match yF cfg look fs m d (.f f) args [] with | some r => some r.1 | none => none) = some v) : EVs (EV cfg) f args = some v := by
 unfold EVs
 cases hx : yF cfg look fs m d (.f f) args [] with
 | none => rw [hx] at h; cases h
 | some r => rw [hx] at h; rw [qn8 cfg hl hfs m d _ _ _ _ hx]; exact h
theorem qsX {cfg : Cfg} {look : Nat → Option Func} (hl : ∀ f fn, look f = some fn → cfg.P.funcs[f]? = some fn) {fs : List Fact} (hfs : xc cfg fs) {f : Nat} {args : List AV} {v : AV} (m d : Nat)
  (h : (match yF cfg look fs m d (.f f) args [] with | some r => gA (r.1.frz r.1.msIds r.2).fg some | none => none) = some v) : EVf (EV cfg) f args = some v := by
 unfold EVf
 cases hx : yF cfg look fs m d (.f f) args [] with
 | none => rw [hx] at h; cases h
 | some r => rw [hx] at h; rw [qn8 cfg hl hfs m d _ _ _ _ hx]; simp only [qbe] at h; exact h
def qit : List AV → AH → Option (AV × AH)
 | [.str a, .str b], H => some (.int .i64 (if a == b then 0 else if Op.bytesLess a b then -1 else 1), H)
 | _, _ => none
end Go.Av
end
section
namespace Go.Proofs.YtkohdkldmpiiiaaGreat
open Go.Av
def qks : BT TI := .node 111 ({ d := .func, sz := 1, bytes := 8, zero := [.nilF], eq := false }) (.node 59 ({ d := .func, sz := 1, bytes := 8, zero := [.nilF], eq := false }) (.node 29 ({ d := .struct [(0, 3), (1, 3), (2, 3), (3, 25)], sz := 7, bytes := 80, zero := [.int .i64 0, .int .i64 0, .int .i64 0, .int .i64 0, .int .i64 0, .str [], .nilS], eq := false }) (.node 17 ({ d := .ptr 260, sz := 1, bytes := 8, zero := [.nilP], eq := false }) (.node 7 ({ d := .struct [(0, 2), (1, 3), (2, 4), (3, 6)], sz := 4, bytes := 24, zero := [.int .i64 0, .int .i64 0, .bool false, .int .u8 0], eq := true }) (.node 4 ({ d := .bool, sz := 1, bytes := 1, zero := [.bool false], eq := false }) (.node 2 ({ d := .int .i64, sz := 1, bytes := 8, zero := [.int .i64 0], eq := false }) (.node 1 ({ d := .func, sz := 1, bytes := 8, zero := [.nilF], eq := false }) .leaf .leaf) (.node 3 ({ d := .int .i64, sz := 1, bytes := 8, zero := [.int .i64 0], eq := false }) .leaf .leaf)) (.node 6 ({ d := .int .u8, sz := 1, bytes := 1, zero := [.int .u8 0], eq := false }) (.node 5 ({ d := .int .u8, sz := 1, bytes := 1, zero := [.int .u8 0], eq := false }) .leaf .leaf) .leaf)) (.node 13 ({ d := .struct [(0, 9), (1, 12)], sz := 2, bytes := 24, zero := [.str [], .int .u64 0], eq := false }) (.node 12 ({ d := .int .u64, sz := 1, bytes := 8, zero := [.int .u64 0], eq := false }) (.node 9 ({ d := .str, sz := 1, bytes := 16, zero := [.str []], eq := false }) .leaf .leaf) .leaf) (.node 16 ({ d := .ptr 251, sz := 1, bytes := 8, zero := [.nilP], eq := false }) (.node 15 ({ d := .ptr 248, sz := 1, bytes := 8, zero := [.nilP], eq := false }) .leaf .leaf) .leaf))) (.node 23 ({ d := .slice 25, sz := 1, bytes := 24, zero := [.nilS], eq := false }) (.node 20 ({ d := .iface, sz := 1, bytes := 16, zero := [.nilI], eq := false }) (.node 19 ({ d := .struct [(0, 17)], sz := 1, bytes := 8, zero := [.nilP], eq := false }) (.node 18 ({ d := .struct [(0, 17)], sz := 1, bytes := 8, zero := [.nilP], eq := false }) .leaf .leaf) .leaf) (.node 22 ({ d := .slice 29, sz := 1, bytes := 24, zero := [.nilS], eq := false }) (.node 21 ({ d := .int .i32, sz := 1, bytes := 4, zero := [.int .i32 0], eq := false }) .leaf .leaf) .leaf)) (.node 26 ({ d := .func, sz := 1, bytes := 8, zero := [.nilF], eq := false }) (.node 25 ({ d := .struct [(0, 3), (1, 3), (2, 9), (3, 23)], sz := 4, bytes := 56, zero := [.int .i64 0, .int .i64 0, .str [], .nilS], eq := false }) (.node 24 ({ d := .struct [(0, 3), (1, 3), (2, 9), (3, 23)], sz := 4, bytes := 56, zero := [.int .i64 0, .int .i64 0, .str [], .nilS], eq := false }) .leaf .leaf) .leaf) (.node 28 ({ d := .struct [(0, 3), (1, 3), (2, 3), (3, 25)], sz := 7, bytes := 80, zero := [.int .i64 0, .int .i64 0, .int .i64 0, .int .i64 0, .int .i64 0, .str [], .nilS], eq := false }) (.node 27 ({ d := .func, sz := 1, bytes := 8, zero := [.nilF], eq := false }) .leaf .leaf) .leaf)))) (.node 44 ({ d := .func, sz := 1, bytes := 8, zero := [.nilF], eq := false }) (.node 37 ({ d := .func, sz := 1, bytes := 8, zero := [.nilF], eq := false }) (.node 34 ({ d := .func, sz := 1, bytes := 8, zero := [.nilF], eq := false }) (.node 31 ({ d := .func, sz := 1, bytes := 8, zero := [.nilF], eq := false }) (.node 30 ({ d := .func, sz := 1, bytes := 8, zero := [.nilF], eq := false }) .leaf .leaf) (.node 32 ({ d := .int .i64, sz := 1, bytes := 8, zero := [.int .i64 0], eq := false }) .leaf .leaf)) (.node 36 ({ d := .func, sz := 1, bytes := 8, zero := [.nilF], eq := false }) (.node 35 ({ d := .func, sz := 1, bytes := 8, zero := [.nilF], eq := false }) .leaf .leaf) .leaf)) (.node 40 ({ d := .slice 3, sz := 1, bytes := 24, zero := [.nilS], eq := false }) (.node 39 ({ d := .func, sz := 1, bytes := 8, zero := [.nilF], eq := false }) (.node 38 ({ d := .func, sz := 1, bytes := 8, zero := [.nilF], eq := false }) .leaf .leaf) .leaf) (.node 43 ({ d := .func, sz := 1, bytes := 8, zero := [.nilF], eq := false }) (.node 41 ({ d := .func, sz := 1, bytes := 8, zero := [.nilF], eq := false }) .leaf .leaf) .leaf))) (.node 52 ({ d := .func, sz := 1, bytes := 8, zero := [.nilF], eq := false }) (.node 47 ({ d := .func, sz := 1, bytes := 8, zero := [.nilF], eq := false }) (.node 46 ({ d := .func, sz := 1, bytes := 8, zero := [.nilF], eq := false }) (.node 45 ({ d := .func, sz := 1, bytes := 8, zero := [.nilF], eq := false }) .leaf .leaf) .leaf) (.node 50 ({ d := .func, sz := 1, bytes := 8, zero := [.nilF], eq := false }) (.node 48 ({ d := .slice 89, sz := 1, bytes := 24, zero := [.nilS], eq := false }) .leaf .leaf) .leaf)) (.node 55 ({ d := .struct [(0, 4), (1, 23), (2, 54)], sz := 3, bytes := 56, zero := [.bool false, .nilS, .nilS], eq := false }) (.node 54 ({ d := .slice 61, sz := 1, bytes := 24, zero := [.nilS], eq := false }) (.node 53 ({ d := .func, sz := 1, bytes := 8, zero := [.nilF], eq := false }) .leaf .leaf) .leaf) (.node 58 ({ d := .func, sz := 1, bytes := 8, zero := [.nilF], eq := false }) (.node 56 ({ d := .struct [(0, 4), (1, 23), (2, 54)], sz := 3, bytes := 56, zero := [.bool false, .nilS, .nilS], eq := false }) .leaf .leaf) .leaf))))) (.node 85 ({ d := .ptr 87, sz := 1, bytes := 8, zero := [.nilP], eq := false }) (.node 73 ({ d := .func, sz := 1, bytes := 8, zero := [.nilF], eq := false }) (.node 67 ({ d := .func, sz := 1, bytes := 8, zero := [.nilF], eq := false }) (.node 64 ({ d := .func, sz := 1, bytes := 8, zero := [.nilF], eq := false }) (.node 61 ({ d := .struct [(0, 3), (1, 23)], sz := 2, bytes := 32, zero := [.int .i64 0, .nilS], eq := false }) (.node 60 ({ d := .struct [(0, 3), (1, 23)], sz := 2, bytes := 32, zero := [.int .i64 0, .nilS], eq := false }) .leaf .leaf) (.node 63 ({ d := .func, sz := 1, bytes := 8, zero := [.nilF], eq := false }) .leaf .leaf)) (.node 66 ({ d := .func, sz := 1, bytes := 8, zero := [.nilF], eq := false }) (.node 65 ({ d := .func, sz := 1, bytes := 8, zero := [.nilF], eq := false }) .leaf .leaf) .leaf)) (.node 70 ({ d := .struct [(0, 25), (4, 3), (5, 23), (6, 23), (7, 69), (8, 4)], sz := 9, bytes := 128, zero := [.int .i64 0, .int .i64 0, .str [], .nilS, .int .i64 0, .nilS, .nilS, .nilM, .bool false], eq := false }) (.node 69 ({ d := .map 3 25, sz := 1, bytes := 8, zero := [.nilM], eq := false }) (.node 68 ({ d := .ptr 71, sz := 1, bytes := 8, zero := [.nilP], eq := false }) .leaf .leaf) .leaf) (.node 72 ({ d := .int .i64, sz := 1, bytes := 8, zero := [.int .i64 0], eq := false }) (.node 71 ({ d := .struct [(0, 25), (4, 3), (5, 23), (6, 23), (7, 69), (8, 4)], sz := 9, bytes := 128, zero := [.int .i64 0, .int .i64 0, .str [], .nilS, .int .i64 0, .nilS, .nilS, .nilM, .bool false], eq := false }) .leaf .leaf) .leaf))) (.node 79 ({ d := .struct [(0, 25), (4, 3), (5, 23), (6, 23), (7, 78), (8, 4)], sz := 9, bytes := 144, zero := [.int .i64 0, .int .i64 0, .str [], .nilS, .int .i64 0, .nilS, .nilS, .nilS, .bool false], eq := false }) (.node 76 ({ d := .func, sz := 1, bytes := 8, zero := [.nilF], eq := false }) (.node 75 ({ d := .func, sz := 1, bytes := 8, zero := [.nilF], eq := false }) (.node 74 ({ d := .func, sz := 1, bytes := 8, zero := [.nilF], eq := false }) .leaf .leaf) .leaf) (.node 78 ({ d := .slice 164, sz := 1, bytes := 24, zero := [.nilS], eq := false }) (.node 77 ({ d := .ptr 80, sz := 1, bytes := 8, zero := [.nilP], eq := false }) .leaf .leaf) .leaf)) (.node 82 ({ d := .func, sz := 1, bytes := 8, zero := [.nilF], eq := false }) (.node 81 ({ d := .func, sz := 1, bytes := 8, zero := [.nilF], eq := false }) (.node 80 ({ d := .struct [(0, 25), (4, 3), (5, 23), (6, 23), (7, 78), (8, 4)], sz := 9, bytes := 144, zero := [.int .i64 0, .int .i64 0, .str [], .nilS, .int .i64 0, .nilS, .nilS, .nilS, .bool false], eq := false }) .leaf .leaf) .leaf) (.node 84 ({ d := .func, sz := 1, bytes := 8, zero := [.nilF], eq := false }) (.node 83 ({ d := .func, sz := 1, bytes := 8, zero := [.nilF], eq := false }) .leaf .leaf) .leaf)))) (.node 98 ({ d := .func, sz := 1, bytes := 8, zero := [.nilF], eq := false }) (.node 92 ({ d := .func, sz := 1, bytes := 8, zero := [.nilF], eq := false }) (.node 89 ({ d := .struct [(0, 25), (4, 23), (5, 23)], sz := 6, bytes := 104, zero := [.int .i64 0, .int .i64 0, .str [], .nilS, .nilS, .nilS], eq := false }) (.node 87 ({ d := .struct [(0, 22)], sz := 1, bytes := 24, zero := [.nilS], eq := false }) (.node 86 ({ d := .struct [(0, 22)], sz := 1, bytes := 24, zero := [.nilS], eq := false }) .leaf .leaf) (.node 88 ({ d := .struct [(0, 25), (4, 23), (5, 23)], sz := 6, bytes := 104, zero := [.int .i64 0, .int .i64 0, .str [], .nilS, .nilS, .nilS], eq := false }) .leaf .leaf)) (.node 91 ({ d := .func, sz := 1, bytes := 8, zero := [.nilF], eq := false }) (.node 90 ({ d := .func, sz := 1, bytes := 8, zero := [.nilF], eq := false }) .leaf .leaf) .leaf)) (.node 95 ({ d := .func, sz := 1, bytes := 8, zero := [.nilF], eq := false }) (.node 94 ({ d := .func, sz := 1, bytes := 8, zero := [.nilF], eq := false }) (.node 93 ({ d := .func, sz := 1, bytes := 8, zero := [.nilF], eq := false }) .leaf .leaf) .leaf) (.node 97 ({ d := .func, sz := 1, bytes := 8, zero := [.nilF], eq := false }) (.node 96 ({ d := .func, sz := 1, bytes := 8, zero := [.nilF], eq := false }) .leaf .leaf) .leaf))) (.node 104 ({ d := .func, sz := 1, bytes := 8, zero := [.nilF], eq := false }) (.node 101 ({ d := .func, sz := 1, bytes := 8, zero := [.nilF], eq := false }) (.node 100 ({ d := .func, sz := 1, bytes := 8, zero := [.nilF], eq := false }) (.node 99 ({ d := .func, sz := 1, bytes := 8, zero := [.nilF], eq := false }) .leaf .leaf) .leaf) (.node 103 ({ d := .func, sz := 1, bytes := 8, zero := [.nilF], eq := false }) (.node 102 ({ d := .func, sz := 1, bytes := 8, zero := [.nilF], eq := false }) .leaf .leaf) .leaf)) (.node 107 ({ d := .func, sz := 1, bytes := 8, zero := [.nilF], eq := false }) (.node 106 ({ d := .struct [(0, 4), (1, 4), (2, 4), (3, 25), (7, 61)], sz := 9, bytes := 96, zero := [.bool false, .bool false, .bool false, .int .i64 0, .int .i64 0, .str [], .nilS, .int .i64 0, .nilS], eq := false }) (.node 105 ({ d := .struct [(0, 4), (1, 4), (2, 4), (3, 25), (7, 61)], sz := 9, bytes := 96, zero := [.bool false, .bool false, .bool false, .int .i64 0, .int .i64 0, .str [], .nilS, .int .i64 0, .nilS], eq := false }) .leaf .leaf) .leaf) (.node 110 ({ d := .func, sz := 1, bytes := 8, zero := [.nilF], eq := false }) (.node 108 ({ d := .func, sz := 1, bytes := 8, zero := [.nilF], eq := false }) .leaf .leaf) .leaf)))))) (.node 168 ({ d := .func, sz := 1, bytes := 8, zero := [.nilF], eq := false }) (.node 141 ({ d := .func, sz := 1, bytes := 8, zero := [.nilF], eq := false }) (.node 128 ({ d := .func, sz := 1, bytes := 8, zero := [.nilF], eq := false }) (.node 121 ({ d := .func, sz := 1, bytes := 8, zero := [.nilF], eq := false }) (.node 116 ({ d := .func, sz := 1, bytes := 8, zero := [.nilF], eq := false }) (.node 114 ({ d := .func, sz := 1, bytes := 8, zero := [.nilF], eq := false }) (.node 112 ({ d := .func, sz := 1, bytes := 8, zero := [.nilF], eq := false }) .leaf .leaf) (.node 115 ({ d := .func, sz := 1, bytes := 8, zero := [.nilF], eq := false }) .leaf .leaf)) (.node 119 ({ d := .func, sz := 1, bytes := 8, zero := [.nilF], eq := false }) (.node 117 ({ d := .func, sz := 1, bytes := 8, zero := [.nilF], eq := false }) .leaf .leaf) .leaf)) (.node 125 ({ d := .func, sz := 1, bytes := 8, zero := [.nilF], eq := false }) (.node 123 ({ d := .func, sz := 1, bytes := 8, zero := [.nilF], eq := false }) (.node 122 ({ d := .func, sz := 1, bytes := 8, zero := [.nilF], eq := false }) .leaf .leaf) .leaf) (.node 127 ({ d := .func, sz := 1, bytes := 8, zero := [.nilF], eq := false }) (.node 126 ({ d := .func, sz := 1, bytes := 8, zero := [.nilF], eq := false }) .leaf .leaf) .leaf))) (.node 135 ({ d := .func, sz := 1, bytes := 8, zero := [.nilF], eq := false }) (.node 131 ({ d := .func, sz := 1, bytes := 8, zero := [.nilF], eq := false }) (.node 130 ({ d := .func, sz := 1, bytes := 8, zero := [.nilF], eq := false }) (.node 129 ({ d := .func, sz := 1, bytes := 8, zero := [.nilF], eq := false }) .leaf .leaf) .leaf) (.node 133 ({ d := .ptr 4, sz := 1, bytes := 8, zero := [.nilP], eq := false }) (.node 132 ({ d := .func, sz := 1, bytes := 8, zero := [.nilF], eq := false }) .leaf .leaf) .leaf)) (.node 138 ({ d := .func, sz := 1, bytes := 8, zero := [.nilF], eq := false }) (.node 137 ({ d := .func, sz := 1, bytes := 8, zero := [.nilF], eq := false }) (.node 136 ({ d := .func, sz := 1, bytes := 8, zero := [.nilF], eq := false }) .leaf .leaf) .leaf) (.node 140 ({ d := .func, sz := 1, bytes := 8, zero := [.nilF], eq := false }) (.node 139 ({ d := .func, sz := 1, bytes := 8, zero := [.nilF], eq := false }) .leaf .leaf) .leaf)))) (.node 154 ({ d := .slice 153, sz := 1, bytes := 24, zero := [.nilS], eq := false }) (.node 148 ({ d := .func, sz := 1, bytes := 8, zero := [.nilF], eq := false }) (.node 145 ({ d := .func, sz := 1, bytes := 8, zero := [.nilF], eq := false }) (.node 143 ({ d := .func, sz := 1, bytes := 8, zero := [.nilF], eq := false }) (.node 142 ({ d := .func, sz := 1, bytes := 8, zero := [.nilF], eq := false }) .leaf .leaf) (.node 144 ({ d := .func, sz := 1, bytes := 8, zero := [.nilF], eq := false }) .leaf .leaf)) (.node 147 ({ d := .int .u64, sz := 1, bytes := 8, zero := [.int .u64 0], eq := false }) (.node 146 ({ d := .func, sz := 1, bytes := 8, zero := [.nilF], eq := false }) .leaf .leaf) .leaf)) (.node 151 ({ d := .func, sz := 1, bytes := 8, zero := [.nilF], eq := false }) (.node 150 ({ d := .func, sz := 1, bytes := 8, zero := [.nilF], eq := false }) (.node 149 ({ d := .func, sz := 1, bytes := 8, zero := [.nilF], eq := false }) .leaf .leaf) .leaf) (.node 153 ({ d := .struct [(0, 25), (4, 25)], sz := 8, bytes := 112, zero := [.int .i64 0, .int .i64 0, .str [], .nilS, .int .i64 0, .int .i64 0, .str [], .nilS], eq := false }) (.node 152 ({ d := .struct [(0, 25), (4, 25)], sz := 8, bytes := 112, zero := [.int .i64 0, .int .i64 0, .str [], .nilS, .int .i64 0, .int .i64 0, .str [], .nilS], eq := false }) .leaf .leaf) .leaf))) (.node 160 ({ d := .func, sz := 1, bytes := 8, zero := [.nilF], eq := false }) (.node 157 ({ d := .func, sz := 1, bytes := 8, zero := [.nilF], eq := false }) (.node 156 ({ d := .func, sz := 1, bytes := 8, zero := [.nilF], eq := false }) (.node 155 ({ d := .slice 5, sz := 1, bytes := 24, zero := [.nilS], eq := false }) .leaf .leaf) .leaf) (.node 159 ({ d := .func, sz := 1, bytes := 8, zero := [.nilF], eq := false }) (.node 158 ({ d := .func, sz := 1, bytes := 8, zero := [.nilF], eq := false }) .leaf .leaf) .leaf)) (.node 163 ({ d := .struct [(0, 3), (1, 25)], sz := 5, bytes := 64, zero := [.int .i64 0, .int .i64 0, .int .i64 0, .str [], .nilS], eq := false }) (.node 162 ({ d := .func, sz := 1, bytes := 8, zero := [.nilF], eq := false }) (.node 161 ({ d := .func, sz := 1, bytes := 8, zero := [.nilF], eq := false }) .leaf .leaf) .leaf) (.node 166 ({ d := .func, sz := 1, bytes := 8, zero := [.nilF], eq := false }) (.node 164 ({ d := .struct [(0, 3), (1, 25)], sz := 5, bytes := 64, zero := [.int .i64 0, .int .i64 0, .int .i64 0, .str [], .nilS], eq := false }) .leaf .leaf) .leaf))))) (.node 213 ({ d := .ptr 3, sz := 1, bytes := 8, zero := [.nilP], eq := false }) (.node 190 ({ d := .int .u64, sz := 1, bytes := 8, zero := [.int .u64 0], eq := false }) (.node 178 ({ d := .func, sz := 1, bytes := 8, zero := [.nilF], eq := false }) (.node 172 ({ d := .func, sz := 1, bytes := 8, zero := [.nilF], eq := false }) (.node 170 ({ d := .func, sz := 1, bytes := 8, zero := [.nilF], eq := false }) (.node 169 ({ d := .map 3 4, sz := 1, bytes := 8, zero := [.nilM], eq := false }) .leaf .leaf) (.node 171 ({ d := .func, sz := 1, bytes := 8, zero := [.nilF], eq := false }) .leaf .leaf)) (.node 177 ({ d := .func, sz := 1, bytes := 8, zero := [.nilF], eq := false }) (.node 176 ({ d := .array 2 23, sz := 2, bytes := 48, zero := [.nilS, .nilS], eq := false }) .leaf .leaf) .leaf)) (.node 181 ({ d := .int .i64, sz := 1, bytes := 8, zero := [.int .i64 0], eq := false }) (.node 180 ({ d := .func, sz := 1, bytes := 8, zero := [.nilF], eq := false }) (.node 179 ({ d := .func, sz := 1, bytes := 8, zero := [.nilF], eq := false }) .leaf .leaf) .leaf) (.node 189 ({ d := .func, sz := 1, bytes := 8, zero := [.nilF], eq := false }) (.node 188 ({ d := .int .u32, sz := 1, bytes := 4, zero := [.int .u32 0], eq := false }) .leaf .leaf) .leaf))) (.node 203 ({ d := .func, sz := 1, bytes := 8, zero := [.nilF], eq := false }) (.node 198 ({ d := .ptr 200, sz := 1, bytes := 8, zero := [.nilP], eq := false }) (.node 195 ({ d := .struct [(0, 25), (4, 78), (5, 3)], sz := 6, bytes := 88, zero := [.int .i64 0, .int .i64 0, .str [], .nilS, .nilS, .int .i64 0], eq := false }) (.node 194 ({ d := .struct [(0, 25), (4, 78), (5, 3)], sz := 6, bytes := 88, zero := [.int .i64 0, .int .i64 0, .str [], .nilS, .nilS, .int .i64 0], eq := false }) .leaf .leaf) .leaf) (.node 200 ({ d := .struct [(0, 195), (6, 4)], sz := 7, bytes := 96, zero := [.int .i64 0, .int .i64 0, .str [], .nilS, .nilS, .int .i64 0, .bool false], eq := false }) (.node 199 ({ d := .struct [(0, 195), (6, 4)], sz := 7, bytes := 96, zero := [.int .i64 0, .int .i64 0, .str [], .nilS, .nilS, .int .i64 0, .bool false], eq := false }) .leaf .leaf) .leaf)) (.node 206 ({ d := .func, sz := 1, bytes := 8, zero := [.nilF], eq := false }) (.node 205 ({ d := .struct [(0, 190), (1, 190)], sz := 2, bytes := 16, zero := [.int .u64 0, .int .u64 0], eq := true }) (.node 204 ({ d := .struct [(0, 190), (1, 190)], sz := 2, bytes := 16, zero := [.int .u64 0, .int .u64 0], eq := true }) .leaf .leaf) .leaf) (.node 209 ({ d := .int .u64, sz := 1, bytes := 8, zero := [.int .u64 0], eq := false }) (.node 207 ({ d := .func, sz := 1, bytes := 8, zero := [.nilF], eq := false }) .leaf .leaf) .leaf)))) (.node 246 ({ d := .func, sz := 1, bytes := 8, zero := [.nilF], eq := false }) (.node 230 ({ d := .func, sz := 1, bytes := 8, zero := [.nilF], eq := false }) (.node 217 ({ d := .func, sz := 1, bytes := 8, zero := [.nilF], eq := false }) (.node 216 ({ d := .func, sz := 1, bytes := 8, zero := [.nilF], eq := false }) (.node 214 ({ d := .func, sz := 1, bytes := 8, zero := [.nilF], eq := false }) .leaf .leaf) .leaf) (.node 225 ({ d := .ptr 209, sz := 1, bytes := 8, zero := [.nilP], eq := false }) (.node 224 ({ d := .ptr 205, sz := 1, bytes := 8, zero := [.nilP], eq := false }) .leaf .leaf) .leaf)) (.node 235 ({ d := .func, sz := 1, bytes := 8, zero := [.nilF], eq := false }) (.node 232 ({ d := .func, sz := 1, bytes := 8, zero := [.nilF], eq := false }) (.node 231 ({ d := .func, sz := 1, bytes := 8, zero := [.nilF], eq := false }) .leaf .leaf) .leaf) (.node 245 ({ d := .func, sz := 1, bytes := 8, zero := [.nilF], eq := false }) (.node 241 ({ d := .ptr 25, sz := 1, bytes := 8, zero := [.nilP], eq := false }) .leaf .leaf) .leaf))) (.node 255 ({ d := .func, sz := 1, bytes := 8, zero := [.nilF], eq := false }) (.node 250 ({ d := .struct [(0, 249)], sz := 0, bytes := 0, zero := [], eq := false }) (.node 249 ({ d := .array 0 16, sz := 0, bytes := 0, zero := [], eq := false }) (.node 247 ({ d := .struct [(0, 17), (1, 17), (2, 17), (3, 9)], sz := 4, bytes := 40, zero := [.nilP, .nilP, .nilP, .str []], eq := false }) .leaf .leaf) .leaf) (.node 254 ({ d := .int .u8, sz := 1, bytes := 1, zero := [.int .u8 0], eq := false }) (.node 253 ({ d := .int .u8, sz := 1, bytes := 1, zero := [.int .u8 0], eq := false }) .leaf .leaf) .leaf)) (.node 258 ({ d := .int .i32, sz := 1, bytes := 4, zero := [.int .i32 0], eq := false }) (.node 257 ({ d := .int .i32, sz := 1, bytes := 4, zero := [.int .i32 0], eq := false }) (.node 256 ({ d := .ptr 5, sz := 1, bytes := 8, zero := [.nilP], eq := false }) .leaf .leaf) .leaf) (.node 260 ({ d := .struct [(0, 12), (1, 12), (2, 188), (3, 253), (4, 5), (5, 5), (6, 254), (7, 255), (8, 256), (9, 257), (10, 258)], sz := 11, bytes := 48, zero := [.int .u64 0, .int .u64 0, .int .u32 0, .int .u8 0, .int .u8 0, .int .u8 0, .int .u8 0, .nilF, .nilP, .int .i32 0, .int .i32 0], eq := false }) (.node 259 ({ d := .struct [(0, 12), (1, 12), (2, 188), (3, 253), (4, 5), (5, 5), (6, 254), (7, 255), (8, 256), (9, 257), (10, 258)], sz := 11, bytes := 48, zero := [.int .u64 0, .int .u64 0, .int .u32 0, .int .u8 0, .int .u8 0, .int .u8 0, .int .u8 0, .nilF, .nilP, .int .i32 0, .int .i32 0], eq := false }) .leaf .leaf) .leaf))))))
def qsg : BT CMode := .node 118 (.obj) (.node 57 (.obj) (.node 35 (.scal) (.node 17 (.scal) (.node 10 (.scal) (.node 9 (.scal) (.node 5 (.scal) .leaf .leaf) .leaf) (.node 15 (.scal) (.node 13 (.pfrz) .leaf .leaf) .leaf)) (.node 26 (.pfrz) (.node 20 (.pfrz) (.node 18 (.scal) .leaf .leaf) .leaf) (.node 27 (.pfrz) .leaf .leaf))) (.node 49 (.pfrz) (.node 41 (.pfrz) (.node 40 (.pfrz) (.node 37 (.scal) .leaf .leaf) .leaf) (.node 48 (.pfrz) (.node 47 (.scal) .leaf .leaf) .leaf)) (.node 52 (.pfrz) (.node 51 (.obj) (.node 50 (.pfrz) .leaf .leaf) .leaf) (.node 56 (.scal) .leaf .leaf)))) (.node 93 (.scal) (.node 67 (.scal) (.node 63 (.pfrz) (.node 62 (.pfrz) (.node 61 (.pown) .leaf .leaf) .leaf) (.node 65 (.scal) (.node 64 (.pfrz) .leaf .leaf) .leaf)) (.node 79 (.scal) (.node 77 (.scal) (.node 69 (.pown) .leaf .leaf) .leaf) (.node 90 (.scal) .leaf .leaf))) (.node 108 (.obj) (.node 106 (.pfrz) (.node 105 (.pfrz) (.node 98 (.slf) .leaf .leaf) .leaf) (.node 107 (.obj) .leaf .leaf)) (.node 116 (.scal) (.node 110 (.pown) (.node 109 (.inpl) .leaf .leaf) .leaf) (.node 117 (.scal) .leaf .leaf))))) (.node 194 (.scal) (.node 152 (.scal) (.node 138 (.scal) (.node 127 (.scal) (.node 125 (.pfrz) (.node 119 (.obj) .leaf .leaf) .leaf) (.node 137 (.scal) (.node 129 (.scal) .leaf .leaf) .leaf)) (.node 147 (.scal) (.node 140 (.scal) (.node 139 (.scal) .leaf .leaf) .leaf) (.node 151 (.scal) .leaf .leaf))) (.node 171 (.scal) (.node 166 (.scal) (.node 165 (.obj) (.node 154 (.pfrz) .leaf .leaf) .leaf) (.node 170 (.scal) .leaf .leaf)) (.node 178 (.pfrz) (.node 177 (.scal) (.node 172 (.pfrz) .leaf .leaf) .leaf) (.node 179 (.pfrz) .leaf .leaf)))) (.node 245 (.inpl) (.node 216 (.inpl) (.node 207 (.inpf) (.node 206 (.scal) (.node 195 (.scal) .leaf .leaf) .leaf) (.node 214 (.scal) (.node 213 (.scal) .leaf .leaf) .leaf)) (.node 231 (.inpf) (.node 225 (.scal) (.node 217 (.scal) .leaf .leaf) .leaf) (.node 232 (.inpf) .leaf .leaf))) (.node 250 (.inpf) (.node 248 (.inpl) (.node 247 (.inpf) (.node 246 (.pfrz) .leaf .leaf) .leaf) (.node 249 (.inpf) .leaf .leaf)) (.node 263 (.inpf) (.node 261 (.pfrz) (.node 251 (.inpf) .leaf .leaf) .leaf) (.node 266 (.scal) .leaf .leaf)))))
def qsU : BT (BT (List Nat)) := .node 52 (.node 1 ([1]) .leaf .leaf) (.node 27 (.node 8 ([2]) (.node 6 ([12]) .leaf .leaf) .leaf) (.node 20 (.node 10 ([4]) .leaf .leaf) (.node 18 (.node 6 ([4]) .leaf .leaf) .leaf .leaf) .leaf) (.node 48 (.node 1 ([3, 7, 9, 11]) .leaf .leaf) .leaf .leaf)) (.node 95 (.node 21 ([3]) .leaf .leaf) (.node 64 (.node 3 ([3]) .leaf .leaf) .leaf .leaf) (.node 105 (.node 5 ([6]) .leaf .leaf) .leaf .leaf))
noncomputable def qky {α : Type} (a b : Nat) (t : BT (BT α)) : Option α := match t.look a with | some u => u.look b | none => none
noncomputable def qsj (f r k : Nat) : Bool := match qky f r qsU with | some l => xO k l | none => false
def qsh : BT (BT (List Tmp × List Tmp)) := .node 95 (.node 15 ([0, 7, 48], [0, 7]) .leaf .leaf) (.node 51 (.node 11 ([0, 4, 7, 37, 38, 39], [0, 4, 7]) (.node 4 ([0, 3, 4, 20, 21, 22], [0, 3, 4]) .leaf .leaf) .leaf) (.node 20 (.node 6 ([6, 19, 20, 21], [6]) .leaf .leaf) (.node 13 (.node 6 ([0, 6, 10, 11, 12], [6, 7, 8, 9, 11]) .leaf .leaf) (.node 9 (.node 2 ([0, 3], [2]) .leaf .leaf) (.node 5 (.node 18 ([3, 4, 6, 12, 13], [3, 6, 12]) .leaf .leaf) .leaf .leaf) .leaf) (.node 17 (.node 4 ([0, 1, 5], [4]) .leaf .leaf) .leaf .leaf)) (.node 35 (.node 5 ([1, 2, 5, 6], [5]) .leaf .leaf) (.node 27 (.node 4 ([2, 4, 5, 11, 12, 13], [2, 4, 5]) .leaf .leaf) (.node 26 (.node 5 ([4, 16, 17, 18], [4]) .leaf .leaf) .leaf .leaf) .leaf) (.node 47 (.node 4 ([0, 1, 5], [4]) .leaf .leaf) .leaf .leaf))) (.node 67 (.node 2 ([0, 1, 7, 8], [4]) .leaf .leaf) (.node 62 (.node 3 ([3, 6, 7, 8], [3]) .leaf .leaf) (.node 61 (.node 7 ([2, 3, 4], [2, 3, 4, 5]) .leaf .leaf) (.node 52 (.node 3 ([3, 8, 9], [3]) .leaf .leaf) .leaf .leaf) .leaf) (.node 64 (.node 3 ([3], [3, 4]) .leaf .leaf) .leaf .leaf)) (.node 93 (.node 4 ([2, 3], [2, 3]) .leaf .leaf) (.node 79 (.node 9 ([5, 6, 70, 71], [5]) (.node 2 ([5], [4]) .leaf .leaf) .leaf) (.node 77 (.node 1 ([2, 3], [4]) .leaf .leaf) .leaf .leaf) .leaf) (.node 94 (.node 15 ([2], []) .leaf .leaf) .leaf .leaf)))) (.node 165 (.node 16 ([3, 69, 70, 71], []) .leaf .leaf) (.node 125 (.node 14 ([2, 4, 5, 73, 74, 77, 78, 79], [2, 3, 4, 5, 73, 74]) (.node 11 ([2, 4, 5, 73, 74], [2, 3, 4]) .leaf .leaf) .leaf) (.node 109 (.node 1 ([0, 1, 6, 7], []) .leaf .leaf) (.node 105 (.node 3 ([0, 2, 3, 4], [2, 3]) .leaf .leaf) (.node 98 (.node 6 ([1, 2, 3, 4, 18, 19, 20], [2, 3, 4]) .leaf .leaf) .leaf .leaf) .leaf) (.node 118 (.node 1 ([0, 6, 7, 8], []) .leaf .leaf) .leaf .leaf)) (.node 147 (.node 2 ([0, 1, 2, 11, 12, 13], [0, 1, 6]) .leaf .leaf) (.node 139 (.node 3 ([3, 6, 7, 8], [2, 3]) .leaf .leaf) (.node 129 (.node 5 ([4, 32, 33, 34], [2, 3, 4]) .leaf .leaf) .leaf .leaf) .leaf) (.node 154 (.node 4 ([0, 1, 2, 6, 24, 25, 26], [0, 1, 2, 6, 7]) .leaf .leaf) .leaf .leaf))) (.node 181 (.node 1 ([0, 3], []) .leaf .leaf) (.node 179 (.node 5 ([4], [4, 5]) .leaf .leaf) (.node 178 (.node 11 ([3, 7, 29], [7]) (.node 6 ([3], [3]) .leaf .leaf) .leaf) (.node 176 (.node 0 ([0, 1, 2], [1, 2]) .leaf .leaf) .leaf .leaf) .leaf) (.node 180 (.node 1 ([0, 1, 3], []) .leaf .leaf) .leaf .leaf)) (.node 250 (.node 4 ([7], [0, 5, 6, 7]) .leaf .leaf) (.node 213 (.node 2 ([0, 1, 7, 8], [4]) .leaf .leaf) (.node 205 (.node 7 ([3], [0, 3]) (.node 1 ([0, 3], []) .leaf .leaf) .leaf) .leaf .leaf) .leaf) (.node 265 (.node 0 ([0, 1], []) .leaf .leaf) .leaf .leaf))))
def qs0 : BT (BT (List Tmp)) := .leaf
def qsi : BT (BT (List (Tmp × Nat))) := .node 95 (.node 15 ([(7, 4)]) .leaf .leaf) (.node 62 (.node 3 ([(3, 4)]) .leaf .leaf) (.node 61 (.node 7 ([(2, 6), (4, 6)]) (.node 0 ([(2, 6)]) .leaf .leaf) .leaf) (.node 27 (.node 4 ([(5, 4)]) .leaf .leaf) .leaf .leaf) .leaf) (.node 79 (.node 9 ([(5, 8)]) (.node 2 ([(5, 8)]) .leaf .leaf) .leaf) (.node 69 (.node 0 ([(2, 4)]) .leaf .leaf) .leaf .leaf) .leaf)) (.node 179 (.node 5 ([(4, 4)]) .leaf .leaf) (.node 178 (.node 11 ([(7, 1)]) .leaf .leaf) (.node 110 (.node 0 ([(2, 7)]) .leaf .leaf) .leaf .leaf) .leaf) (.node 205 (.node 7 ([(3, 4)]) (.node 1 ([(3, 4)]) .leaf .leaf) .leaf) (.node 181 (.node 1 ([(3, 4)]) .leaf .leaf) .leaf .leaf) .leaf))
def zx (f : Nat) : List (Nat × (List AV → AH → Option (AV × AH))) → Option (List AV → AH → Option (AV × AH))
 | [] => none
 | p :: l => if qun p.1 f then some p.2 else zx f l
def qs5 : BT TypeId := .leaf
def qrm : BT (List (Nat × Nat × Nat)) := .node 108 ([(0, 0, 7)]) (.node 57 ([(0, 0, 7)]) (.node 51 ([(0, 0, 7)]) .leaf .leaf) (.node 107 ([(0, 0, 7)]) .leaf .leaf)) (.node 119 ([(0, 0, 7)]) (.node 118 ([(0, 0, 7)]) .leaf .leaf) (.node 165 ([(4, 0, 7)]) .leaf .leaf))
def qrn : BT Nat := .node 108 (0) (.node 57 (0) (.node 51 (0) .leaf .leaf) (.node 107 (0) .leaf .leaf)) (.node 119 (0) (.node 118 (0) .leaf .leaf) (.node 165 (5) .leaf .leaf))
def qsP : BT (List BSh) := .node 108 ([.row false [.sl 1], .rows true 7]) (.node 57 ([.row false [.sl 1], .rows true 7]) (.node 51 ([.row false [.sl 1], .rows true 7]) .leaf .leaf) (.node 107 ([.row false [.sl 1], .rows true 7]) .leaf .leaf)) (.node 119 ([.row false [.sl 1], .rows true 7]) (.node 118 ([.row false [.sl 1], .rows true 7]) .leaf .leaf) (.node 165 ([.row false [.mp 3], .row false [.ptr 4], .row false [.is (.fn (.func 165) [] [.ptr 0 0 0, .ptr 1 0 0, .ptr 2 0 0])], .mp true, .row false [.sl 5], .rows true 7]) .leaf .leaf))
noncomputable def qn3 : List (Nat × (List AV → AH → Option (AV × AH))) := []
noncomputable def qfg : List (Nat × (List AV → AH → Option (AV × AH))) := (225, qit) :: qn3
theorem qis : qn3 = [] := rfl
def qrs : BT Unit := .node 124 (()) (.node 62 (()) (.node 38 (()) (.node 18 (()) (.node 13 (()) (.node 9 (()) (.node 5 (()) .leaf .leaf) (.node 10 (()) .leaf .leaf)) (.node 17 (()) (.node 15 (()) .leaf .leaf) .leaf)) (.node 27 (()) (.node 26 (()) (.node 20 (()) .leaf .leaf) .leaf) (.node 37 (()) (.node 35 (()) .leaf .leaf) .leaf))) (.node 50 (()) (.node 47 (()) (.node 40 (()) (.node 39 (()) .leaf .leaf) (.node 41 (()) .leaf .leaf)) (.node 49 (()) (.node 48 (()) .leaf .leaf) .leaf)) (.node 56 (()) (.node 52 (()) (.node 51 (()) .leaf .leaf) .leaf) (.node 61 (()) (.node 57 (()) .leaf .leaf) .leaf)))) (.node 97 (()) (.node 79 (()) (.node 67 (()) (.node 64 (()) (.node 63 (()) .leaf .leaf) (.node 65 (()) .leaf .leaf)) (.node 77 (()) (.node 69 (()) .leaf .leaf) .leaf)) (.node 94 (()) (.node 93 (()) (.node 90 (()) .leaf .leaf) .leaf) (.node 96 (()) (.node 95 (()) .leaf .leaf) .leaf))) (.node 109 (()) (.node 106 (()) (.node 105 (()) (.node 98 (()) .leaf .leaf) .leaf) (.node 108 (()) (.node 107 (()) .leaf .leaf) .leaf)) (.node 117 (()) (.node 116 (()) (.node 110 (()) .leaf .leaf) .leaf) (.node 119 (()) (.node 118 (()) .leaf .leaf) .leaf))))) (.node 180 (()) (.node 152 (()) (.node 138 (()) (.node 128 (()) (.node 126 (()) (.node 125 (()) .leaf .leaf) (.node 127 (()) .leaf .leaf)) (.node 137 (()) (.node 129 (()) .leaf .leaf) .leaf)) (.node 147 (()) (.node 140 (()) (.node 139 (()) .leaf .leaf) .leaf) (.node 151 (()) (.node 150 (()) .leaf .leaf) .leaf))) (.node 171 (()) (.node 165 (()) (.node 154 (()) (.node 153 (()) .leaf .leaf) .leaf) (.node 170 (()) (.node 166 (()) .leaf .leaf) .leaf)) (.node 177 (()) (.node 176 (()) (.node 172 (()) .leaf .leaf) .leaf) (.node 179 (()) (.node 178 (()) .leaf .leaf) .leaf)))) (.node 245 (()) (.node 213 (()) (.node 205 (()) (.node 194 (()) (.node 181 (()) .leaf .leaf) (.node 195 (()) .leaf .leaf)) (.node 207 (()) (.node 206 (()) .leaf .leaf) .leaf)) (.node 217 (()) (.node 216 (()) (.node 214 (()) .leaf .leaf) .leaf) (.node 232 (()) (.node 231 (()) .leaf .leaf) .leaf))) (.node 251 (()) (.node 248 (()) (.node 247 (()) (.node 246 (()) .leaf .leaf) .leaf) (.node 250 (()) (.node 249 (()) .leaf .leaf) .leaf)) (.node 263 (()) (.node 262 (()) (.node 261 (()) .leaf .leaf) .leaf) (.node 266 (()) (.node 265 (()) .leaf .leaf) .leaf)))))
def qsZ : BT Unit := .node 56 (()) (.node 29 (()) (.node 23 (()) (.node 22 (()) .leaf .leaf) (.node 25 (()) .leaf .leaf)) (.node 54 (()) (.node 48 (()) .leaf .leaf) .leaf)) (.node 164 (()) (.node 78 (()) (.node 61 (()) .leaf .leaf) (.node 89 (()) .leaf .leaf)) (.node 200 (()) (.node 195 (()) .leaf .leaf) .leaf))
def qs8 : BT Unit := .node 195 (()) (.node 56 (()) .leaf .leaf) .leaf
def qsK : BT Unit := .node 40 (()) .leaf .leaf
def qsY : BT Unit := .leaf
def qsN : BT (List Nat) := .node 120 ([22, 40]) (.node 57 ([56, 32]) (.node 49 ([48, 32]) (.node 42 ([22, 32]) (.node 33 ([25, 4, 3, 32]) .leaf .leaf) .leaf) (.node 51 ([25, 32]) .leaf .leaf)) (.node 113 ([3, 25, 32]) (.node 109 ([25, 4]) (.node 62 ([25, 4, 32]) .leaf .leaf) .leaf) (.node 118 ([48, 4]) .leaf .leaf))) (.node 182 ([3, 181]) (.node 165 ([23, 4]) (.node 134 ([89, 4]) (.node 124 ([3, 4]) .leaf .leaf) .leaf) (.node 167 ([4, 4]) .leaf .leaf)) (.node 226 ([3, 3]) (.node 218 ([40, 4]) (.node 192 ([78, 4]) .leaf .leaf) .leaf) (.node 244 ([190, 190]) .leaf .leaf)))
noncomputable def qqk : List (Nat × Func) := [(124, Tryz.f124), (126, Tryz.f126), (128, Tryz.f128), (150, Tryz.f150), (176, Tryz.f176), (180, Tryz.f180), (181, Tryz.f181), (205, Tryz.f205), (262, Tryz.f262), (265, Tryz.f265)]
noncomputable def qoZ : BT Func := .node 124 (Tryz.f124) (.node 62 (Tryz.f62) (.node 38 (Tryz.f38) (.node 18 (Tryz.f18) (.node 13 (Tryz.f13) (.node 9 (Tryz.f9) (.node 5 (Tryz.f5) .leaf .leaf) (.node 10 (Tryz.f10) .leaf .leaf)) (.node 17 (Tryz.f17) (.node 15 (Tryz.f15) .leaf .leaf) .leaf)) (.node 27 (Tryz.f27) (.node 26 (Tryz.f26) (.node 20 (Tryz.f20) .leaf .leaf) .leaf) (.node 37 (Tryz.f37) (.node 35 (Tryz.f35) .leaf .leaf) .leaf))) (.node 50 (Tryz.f50) (.node 47 (Tryz.f47) (.node 40 (Tryz.f40) (.node 39 (Tryz.f39) .leaf .leaf) (.node 41 (Tryz.f41) .leaf .leaf)) (.node 49 (Tryz.f49) (.node 48 (Tryz.f48) .leaf .leaf) .leaf)) (.node 56 (Tryz.f56) (.node 52 (Tryz.f52) (.node 51 (Tryz.f51) .leaf .leaf) .leaf) (.node 61 (Tryz.f61) (.node 57 (Tryz.f57) .leaf .leaf) .leaf)))) (.node 97 (Tryz.f97) (.node 79 (Tryz.f79) (.node 67 (Tryz.f67) (.node 64 (Tryz.f64) (.node 63 (Tryz.f63) .leaf .leaf) (.node 65 (Tryz.f65) .leaf .leaf)) (.node 77 (Tryz.f77) (.node 69 (Tryz.f69) .leaf .leaf) .leaf)) (.node 94 (Tryz.f94) (.node 93 (Tryz.f93) (.node 90 (Tryz.f90) .leaf .leaf) .leaf) (.node 96 (Tryz.f96) (.node 95 (Tryz.f95) .leaf .leaf) .leaf))) (.node 109 (Tryz.f109) (.node 106 (Tryz.f106) (.node 105 (Tryz.f105) (.node 98 (Tryz.f98) .leaf .leaf) .leaf) (.node 108 (Tryz.f108) (.node 107 (Tryz.f107) .leaf .leaf) .leaf)) (.node 117 (Tryz.f117) (.node 116 (Tryz.f116) (.node 110 (Tryz.f110) .leaf .leaf) .leaf) (.node 119 (Tryz.f119) (.node 118 (Tryz.f118) .leaf .leaf) .leaf))))) (.node 180 (Tryz.f180) (.node 152 (Tryz.f152) (.node 138 (Tryz.f138) (.node 128 (Tryz.f128) (.node 126 (Tryz.f126) (.node 125 (Tryz.f125) .leaf .leaf) (.node 127 (Tryz.f127) .leaf .leaf)) (.node 137 (Tryz.f137) (.node 129 (Tryz.f129) .leaf .leaf) .leaf)) (.node 147 (Tryz.f147) (.node 140 (Tryz.f140) (.node 139 (Tryz.f139) .leaf .leaf) .leaf) (.node 151 (Tryz.f151) (.node 150 (Tryz.f150) .leaf .leaf) .leaf))) (.node 171 (Tryz.f171) (.node 165 (Tryz.f165) (.node 154 (Tryz.f154) (.node 153 (Tryz.f153) .leaf .leaf) .leaf) (.node 170 (Tryz.f170) (.node 166 (Tryz.f166) .leaf .leaf) .leaf)) (.node 177 (Tryz.f177) (.node 176 (Tryz.f176) (.node 172 (Tryz.f172) .leaf .leaf) .leaf) (.node 179 (Tryz.f179) (.node 178 (Tryz.f178) .leaf .leaf) .leaf)))) (.node 245 (Tryz.f245) (.node 213 (Tryz.f213) (.node 205 (Tryz.f205) (.node 194 (Tryz.f194) (.node 181 (Tryz.f181) .leaf .leaf) (.node 195 (Tryz.f195) .leaf .leaf)) (.node 207 (Tryz.f207) (.node 206 (Tryz.f206) .leaf .leaf) .leaf)) (.node 217 (Tryz.f217) (.node 216 (Tryz.f216) (.node 214 (Tryz.f214) .leaf .leaf) .leaf) (.node 232 (Tryz.f232) (.node 231 (Tryz.f231) .leaf .leaf) .leaf))) (.node 251 (Tryz.f251) (.node 248 (Tryz.f248) (.node 247 (Tryz.f247) (.node 246 (Tryz.f246) .leaf .leaf) .leaf) (.node 250 (Tryz.f250) (.node 249 (Tryz.f249) .leaf .leaf) .leaf)) (.node 263 (Tryz.f263) (.node 262 (Tryz.f262) (.node 261 (Tryz.f261) .leaf .leaf) .leaf) (.node 266 (Tryz.f266) (.node 265 (Tryz.f265) .leaf .leaf) .leaf)))))
theorem qr3 : qoZ.All fun f fn => Tryz.prog.funcs[f]? = some fn := (BT.all_node Tryz.func124 (BT.all_node Tryz.func62 (BT.all_node Tryz.func38 (BT.all_node Tryz.func18 (BT.all_node Tryz.func13 (BT.all_node Tryz.func9 (BT.all_node Tryz.func5 trivial trivial) (BT.all_node Tryz.func10 trivial trivial)) (BT.all_node Tryz.func17 (BT.all_node Tryz.func15 trivial trivial) trivial)) (BT.all_node Tryz.func27 (BT.all_node Tryz.func26 (BT.all_node Tryz.func20 trivial trivial) trivial) (BT.all_node Tryz.func37 (BT.all_node Tryz.func35 trivial trivial) trivial))) (BT.all_node Tryz.func50 (BT.all_node Tryz.func47 (BT.all_node Tryz.func40 (BT.all_node Tryz.func39 trivial trivial) (BT.all_node Tryz.func41 trivial trivial)) (BT.all_node Tryz.func49 (BT.all_node Tryz.func48 trivial trivial) trivial)) (BT.all_node Tryz.func56 (BT.all_node Tryz.func52 (BT.all_node Tryz.func51 trivial trivial) trivial) (BT.all_node Tryz.func61 (BT.all_node Tryz.func57 trivial trivial) trivial)))) (BT.all_node Tryz.func97 (BT.all_node Tryz.func79 (BT.all_node Tryz.func67 (BT.all_node Tryz.func64 (BT.all_node Tryz.func63 trivial trivial) (BT.all_node Tryz.func65 trivial trivial)) (BT.all_node Tryz.func77 (BT.all_node Tryz.func69 trivial trivial) trivial)) (BT.all_node Tryz.func94 (BT.all_node Tryz.func93 (BT.all_node Tryz.func90 trivial trivial) trivial) (BT.all_node Tryz.func96 (BT.all_node Tryz.func95 trivial trivial) trivial))) (BT.all_node Tryz.func109 (BT.all_node Tryz.func106 (BT.all_node Tryz.func105 (BT.all_node Tryz.func98 trivial trivial) trivial) (BT.all_node Tryz.func108 (BT.all_node Tryz.func107 trivial trivial) trivial)) (BT.all_node Tryz.func117 (BT.all_node Tryz.func116 (BT.all_node Tryz.func110 trivial trivial) trivial) (BT.all_node Tryz.func119 (BT.all_node Tryz.func118 trivial trivial) trivial))))) (BT.all_node Tryz.func180 (BT.all_node Tryz.func152 (BT.all_node Tryz.func138 (BT.all_node Tryz.func128 (BT.all_node Tryz.func126 (BT.all_node Tryz.func125 trivial trivial) (BT.all_node Tryz.func127 trivial trivial)) (BT.all_node Tryz.func137 (BT.all_node Tryz.func129 trivial trivial) trivial)) (BT.all_node Tryz.func147 (BT.all_node Tryz.func140 (BT.all_node Tryz.func139 trivial trivial) trivial) (BT.all_node Tryz.func151 (BT.all_node Tryz.func150 trivial trivial) trivial))) (BT.all_node Tryz.func171 (BT.all_node Tryz.func165 (BT.all_node Tryz.func154 (BT.all_node Tryz.func153 trivial trivial) trivial) (BT.all_node Tryz.func170 (BT.all_node Tryz.func166 trivial trivial) trivial)) (BT.all_node Tryz.func177 (BT.all_node Tryz.func176 (BT.all_node Tryz.func172 trivial trivial) trivial) (BT.all_node Tryz.func179 (BT.all_node Tryz.func178 trivial trivial) trivial)))) (BT.all_node Tryz.func245 (BT.all_node Tryz.func213 (BT.all_node Tryz.func205 (BT.all_node Tryz.func194 (BT.all_node Tryz.func181 trivial trivial) (BT.all_node Tryz.func195 trivial trivial)) (BT.all_node Tryz.func207 (BT.all_node Tryz.func206 trivial trivial) trivial)) (BT.all_node Tryz.func217 (BT.all_node Tryz.func216 (BT.all_node Tryz.func214 trivial trivial) trivial) (BT.all_node Tryz.func232 (BT.all_node Tryz.func231 trivial trivial) trivial))) (BT.all_node Tryz.func251 (BT.all_node Tryz.func248 (BT.all_node Tryz.func247 (BT.all_node Tryz.func246 trivial trivial) trivial) (BT.all_node Tryz.func250 (BT.all_node Tryz.func249 trivial trivial) trivial)) (BT.all_node Tryz.func263 (BT.all_node Tryz.func262 (BT.all_node Tryz.func261 trivial trivial) trivial) (BT.all_node Tryz.func266 (BT.all_node Tryz.func265 trivial trivial) trivial))))))
noncomputable def cfg : Cfg := { P := Tryz.prog, ty := fun t => qks.look t, mode := fun f => match qsg.look f with | some m => m | none => .imp, frz := fun f r k => qsj f r k, mask := fun f r => qky f r qsh, cut := fun f r => qky f r qs0, tup := fun t => qsN.look t, ext := fun f => zx f qfg, known := fun f => (qrs.look f).isSome, dat := fun t => (qsZ.look t).isSome, inl := fun f => qfO f qqk, lift := fun f r => match qky f r qsi with | some l => l | none => [], ems := fun t => (qsY.look t).isSome, ali := fun t => (qs8.look t).isSome, wrt := fun t => (qsK.look t).isSome, bld := fun t => qs5.look t, olift := fun f => match qrm.look f with | some l => l | none => [], shp := fun f => match qsP.look f with | some l => l | none => [], okeep := fun f => match qrn.look f with | some n => n | none => 0 }
theorem qua {fs : List Fact} (hfs : xc cfg fs) {f : Nat} {args : List AV} {v : AV} (m d : Nat) (h : (match yF cfg (fun f => qoZ.look f) fs m d (.f f) args [] with | some r => some r.1 | none => none) = some v) : EVs (EV cfg) f args = some v := qsW (fun _ _ h => BT.all_look qr3 h) hfs m d h
theorem qkK {fs : List Fact} (hfs : xc cfg fs) {f : Nat} {args : List AV} {v : AV} (m d : Nat) (h : (match yF cfg (fun f => qoZ.look f) fs m d (.f f) args [] with | some r => gA (r.1.frz r.1.msIds r.2).fg some | none => none) = some v) : EVf (EV cfg) f args = some v := qsX (fun _ _ h => BT.all_look qr3 h) hfs m d h
instance inl_ok : InlOk cfg := InlOk.of qqk (fun _ => rfl) ⟨⟨rfl, rfl, Tryz.func124, rfl⟩, ⟨⟨rfl, rfl, Tryz.func126, rfl⟩, ⟨⟨rfl, rfl, Tryz.func128, rfl⟩, ⟨⟨rfl, rfl, Tryz.func150, rfl⟩, ⟨⟨rfl, rfl, Tryz.func176, rfl⟩, ⟨⟨rfl, rfl, Tryz.func180, rfl⟩, ⟨⟨rfl, rfl, Tryz.func181, rfl⟩, ⟨⟨rfl, rfl, Tryz.func205, rfl⟩, ⟨⟨rfl, rfl, Tryz.func262, rfl⟩, ⟨⟨rfl, rfl, Tryz.func265, rfl⟩, trivial⟩⟩⟩⟩⟩⟩⟩⟩⟩⟩
end Go.Proofs.YtkohdkldmpiiiaaGreat
end
section
namespace Go.Av
def cmpS (a b : List UInt8) : Int := if a == b then 0 else if Op.bytesLess a b then -1 else 1
theorem qcL : ∀ a b : List UInt8, Lib.compareBytes a b = cmpS a b
 | [], [] => rfl
 | [], _ :: _ => by simp [Lib.compareBytes, cmpS, Op.bytesLess]
 | _ :: _, [] => by simp [Lib.compareBytes, cmpS, Op.bytesLess]
 | a :: l, b :: m => by
  rw [Lib.compareBytes, qcL l m]
  unfold cmpS
  by_cases h : a = b
  ·subst h
   have : ¬ a < a := by simp
   by_cases h2 : l = m
   ·subst h2; simp
   ·simp [Op.bytesLess, h2]
  ·have h' : (a :: l == b :: m) = false := by simp [h]
   rw [h']
   simp only [quo, if_false, Op.bytesLess]
   by_cases hlt : a < b
   ·simp [hlt]
   ·have : b < a := by
     have h1 : ¬ a.toNat < b.toNat := hlt
     have h2 : a.toNat ≠ b.toNat := fun e => h (UInt8.toNat.inj e)
     show b.toNat < a.toNat
     omega
    simp [hlt, this, h]
theorem ql5 [Lent] {P : Program} {f : FuncId} {fn : Func} (hf : P.funcs[f]? = some fn) (hn : (fn.name == "runtime.NumGoroutine") = false) (hb : fn.body.isNone = true) (hx : Extern.findNext fn = none)
  (he : Extern.find fn = some Extern.BytealgCompare.compare) {args : List AV} {H H' : AH} {r : AV} (hr : qit args H = some (r, H')) {C : qd} {μ : MMap} {w : World} {vs : Array Value} (ha : qo C μ args vs) (hw : Wld C μ H w) :
  vP P (callFunc f vs) w (xn C μ H w r H') := by
 unfold qit at hr
 split at hr
 ·rename_i H0 a b
  cases hr
  obtain ⟨hl, hv⟩ := ha
  obtain ⟨x, y, rfl⟩ : ∃ x y, vs = #[x, y] := by
   obtain ⟨l⟩ := vs
   match l, hl with
   | [x, y], _ => exact ⟨x, y, rfl⟩
  have h0 := hv 0 _ _ rfl rfl
  have h1 := hv 1 _ _ rfl rfl
  cases h0
  cases h1
  have hrun : (callFunc f #[.string ⟨a.toArray⟩, .string ⟨b.toArray⟩]).run P w = .ok (.value (.int .i64 (cmpS a b))) w := by
   unfold callFunc
   simp only [Sem.run_bind, run_program, Result.andThen_ok, hf, hn, hb, quo, if_false, if_true, run_mark, hx, he, Lib.run_compareString, Sem.run_pure]
   rw [qcL]
  unfold vP
  rw [hrun]
  exact ⟨C, μ, .int _ _, hw, Ext.refl (qum _)⟩
 ·cases hr
end Go.Av
namespace Go.Proofs.YtkohdkldmpiiiaaGreat
open Go.Av
theorem qpF : qks.All fun t ti => tiOf Tryz.prog t = some ti := by
 unfold qks
 repeat (first | exact trivial | refine BT.all_node (by show tiOf Tryz.prog _ = _; kernel_rfl) ?_ ?_)
theorem qrp : Tryz.prog.funcs.toList.all (fun fn => !(fn.name == "runtime.NumGoroutine")) = true := by kernel_rfl
theorem qlw : Tryz.prog.follows .mixedOrders = true := by kernel_rfl
end Go.Proofs.YtkohdkldmpiiiaaGreat
end
section
namespace Go.Av
abbrev Rz := List (List AV)
abbrev Bz := List UInt8
inductive Tm where
 | mk (k n : Int) (s : List UInt8) (l : List Tm)
 deriving Inhabited
namespace Tm
def kind : Tm → Int | mk k _ _ _ => k
def num : Tm → Int | mk _ n _ _ => n
def str : Tm → List UInt8 | mk _ _ s _ => s
def subs : Tm → List Tm | mk _ _ _ l => l
end Tm
mutual
def Tm.cells : Tm → List AV
 | .mk k n s l => [.int .i64 k, .int .i64 n, .str s, .sl (qa l)]
def qa : List Tm → List (List AV)
 | [] => []
 | t :: l => t.cells :: qa l
end
def Tm.av (t : Tm) : AV := .agg t.cells
theorem Tm.cells_mk (k n : Int) (s : List UInt8) (l : List Tm) : (Tm.mk k n s l).cells = [.int .i64 k, .int .i64 n, .str s, .sl (qa l)] := by rw [Tm.cells]
theorem Tm.av_mk (k n : Int) (s : List UInt8) (l : List Tm) : (Tm.mk k n s l).av = .agg [.int .i64 k, .int .i64 n, .str s, .sl (qa l)] := by rw [Tm.av, Tm.cells_mk]
theorem zE : ∀ l : List Tm, qa l = l.map Tm.cells
 | [] => by rw [qa]; rfl
 | t :: l => by rw [qa, zE l]; rfl
@[simp] theorem qh (l : List Tm) : (qa l).length = l.length := by rw [zE]; simp
@[simp] theorem vG : qa [] = [] := by rw [qa]
theorem qG (t : Tm) (l : List Tm) : qa (t :: l) = t.cells :: qa l := by rw [qa]
theorem vM (a b : List Tm) : qa (a ++ b) = qa a ++ qa b := by simp [zE]
theorem qor (n : Nat) (a : List Tm) : (qa a).take n = qa (a.take n) := by simp [zE, List.map_take]
theorem qos (n : Nat) (a : List Tm) : (qa a).drop n = qa (a.drop n) := by simp [zE, List.map_drop]
theorem y8 (l : List Tm) (i : Nat) : (qa l)[i]? = (l[i]?).map Tm.cells := by rw [zE]; simp
theorem qpS (l : List Tm) (i : Nat) (t : Tm) : (qa l).set i t.cells = qa (l.set i t) := by simp [zE, List.map_set]
theorem qiI (t : Tm) : qt 0 t.cells = true := by
 obtain ⟨k, n, s, l⟩ := t
 rw [Tm.cells_mk]; rfl
theorem qhz (l : List Tm) : qA 0 (qa l) = true := by
 induction l with
 | nil => rw [qa]; rfl
 | cons t l ih => rw [qa, qA, ih, qiI]; rfl
mutual
/-- no list is longer than is counted here, no text -/
def Tm.Ok : Tm → Prop
 | .mk _ _ s l => s.length < 1099511627776 ∧ l.length < 1099511627776 ∧ OkL l
def OkL : List Tm → Prop
 | [] => True
 | t :: l => t.Ok ∧ OkL l
end
theorem qjr {l : List Tm} : OkL l ↔ ∀ t ∈ l, t.Ok := by
 induction l with
 | nil => simp [OkL]
 | cons t l ih => simp [OkL, ih]
theorem Tm.Ok.str {k n : Int} {s : List UInt8} {l : List Tm} (h : (Tm.mk k n s l).Ok) : s.length < 1099511627776 := by rw [Tm.Ok] at h; exact h.1
theorem Tm.Ok.len {k n : Int} {s : List UInt8} {l : List Tm} (h : (Tm.mk k n s l).Ok) : l.length < 1099511627776 := by rw [Tm.Ok] at h; exact h.2.1
theorem Tm.Ok.sub {k n : Int} {s : List UInt8} {l : List Tm} (h : (Tm.mk k n s l).Ok) {t : Tm} (ht : t ∈ l) : t.Ok := by rw [Tm.Ok] at h; exact qjr.1 h.2.2 t ht
theorem OkL.get {l : List Tm} (h : OkL l) {t : Tm} (ht : t ∈ l) : t.Ok := qjr.1 h t ht
theorem Tm.ind {P : Tm → Prop} (h : ∀ k n s l, (∀ t ∈ l, P t) → P (.mk k n s l)) : ∀ t, P t
 | .mk k n s l => h k n s l (fun t _ => Tm.ind h t)
theorem xa {x : Int} (h1 : -9223372036854775808 ≤ x) (h2 : x < 9223372036854775808) : IntKind.wrap .i64 x = x := by
 simp [IntKind.wrap, IntKind.bits, IntKind.signed]; omega
theorem vr {i n : Nat} (h : i < n) (hn : n < 1099511627776) : IntKind.wrap .i64 ((i : Int) + 1) = ((i + 1 : Nat) : Int) := by
 rw [xa (by omega) (by omega)]; rfl
theorem vq (i : Nat) : qj 0 (i : Int) = true := by simp [qj]
theorem xT (i n : Nat) : qp (i : Int) (n : Int) = decide (i < n) := by simp [qp]
def kTmC {α : Type} (l : List AV) (k : Int → Int → List UInt8 → List (List AV) → Option α) : Option α :=
 qc l fun c cs => kInt .i64 c fun n => qc cs fun c cs => kInt .i64 c fun m => qc cs fun c cs => kStr c fun s => qc cs fun c cs => kSl c fun A => kNil cs (k n m s A)
def kTmV {α : Type} (v : AV) (k : Int → Int → List UInt8 → List (List AV) → Option α) : Option α := kAgg v fun cs => kTmC cs k
theorem qgJ {α : Type} {l : List Tm} {i : Nat} {t : Tm} (h : l[i]? = some t) (k : List AV → Option α) : kOpt (qul (qa l) (quG (i : Int))) k = k t.cells := by
 rw [qK, quE, y8, h]; rfl
mutual
def Tm.w : Tm → Nat
 | .mk _ _ s l => 1 + s.length + wL l
def wL : List Tm → Nat
 | [] => 0
 | t :: l => t.w + wL l
end
theorem Tm.w_mk (k n : Int) (s : List UInt8) (l : List Tm) : (Tm.mk k n s l).w = 1 + s.length + wL l := by rw [Tm.w]
theorem Tm.w_eq (t : Tm) : t.w = 1 + t.str.length + wL t.subs := by cases t; rw [Tm.w_mk]; rfl
@[simp] theorem xp : wL [] = 0 := by rw [wL]
@[simp] theorem qv (t : Tm) (l : List Tm) : wL (t :: l) = t.w + wL l := by rw [wL]
@[simp] theorem y7 (a b : List Tm) : wL (a ++ b) = wL a + wL b := by
 induction a with
 | nil => simp
 | cons t l ih => simp [ih]; omega
theorem yP (t : Tm) : 1 ≤ t.w := by rw [Tm.w_eq]; omega
theorem yv {t : Tm} {l : List Tm} (h : t ∈ l) : t.w ≤ wL l := by
 induction l with
 | nil => cases h
 | cons x l ih =>
  rw [qv]
  rcases quH.1 h with rfl | h
  ·omega
  ·have := ih h; omega
theorem qaA (l : List Tm) : l.length ≤ wL l := by
 induction l with
 | nil => simp
 | cons x l ih => have := yP x; simp; omega
theorem qdu (t : Tm) : t.w < 1099511627776 → t.Ok := by
 induction t using Tm.ind with
 | _ k n s l ih =>
  intro h
  rw [Tm.w_mk] at h
  rw [Tm.Ok]
  have := qaA l
  exact ⟨by omega, by omega, qjr.2 fun t ht => ih t ht (by have := yv ht; omega)⟩
theorem qpC (l : List Tm) : wL l.reverse = wL l := by
 induction l with
 | nil => rfl
 | cons x l ih => simp [ih]; omega
end Go.Av
end
section
namespace Go.Proofs.YtkohdkldmpiiiaaGreat
open Go.Av
def C0 (W : World) : qd := fun b o => W.cell? ⟨b, o, none⟩
def M0 : MMap := fun _ => none
theorem wld0 (W : World) : Wld (C0 W) M0 [] W where
 cl := fun _ _ _ h => h
 dom := fun id m h => by cases h
 res := fun id h => by simp at h
 live := fun id b h => by simp at h
 froz := fun id d sz rs h => by simp at h
 inj := fun i i' b b' m m' h => by simp at h
 free := yT.nil
 lnt := ⟨fun _ _ _ h => (by cases h), fun h => h.elim, fun _ _ => trivial⟩
structure TermTys (P : Program) (tT tL tI tS : TypeId) : Prop where
 uT : ∃ f0 f1 f2 f3 : Field, P.underlying tT = some (.struct #[f0, f1, f2, f3]) ∧ f0.type = tI ∧ f0.offset = 0 ∧ f1.type = tI ∧ f1.offset = 1 ∧ f2.type = tS ∧ f2.offset = 2 ∧ f3.type = tL ∧ f3.offset = 3
 uL : P.underlying tL = some (.slice tT)
 uI : P.underlying tI = some (.int .i64)
 uS : P.underlying tS = some .string
 cT : P.cellsOf tT = 4
 cL : P.cellsOf tL = 1
 cI : P.cellsOf tI = 1
 cS : P.cellsOf tS = 1
section
variable {H : Type} {enc : TypeId × Value → H} {P : Program} {W : World} {tT tL tI tS : TypeId}
def qg4 (W : World) (cs : List Value) (t : Tm) : Prop := cs.length = 4 ∧ ∀ (j : Nat) a v, t.cells[j]? = some a → cs[j]? = some v → a.isCell = true ∧ Rep (C0 W) M0 a v
theorem qdh {base : Nat} {a : Addr} {n : Nat} {cs : List Value} (h : W.cells? base a n = some cs) (hn : 0 < n) : a.spot = none ∧ cs.length = n ∧ ∀ (j : Nat) v, cs[j]? = some v → W.cell? ⟨a.block, a.off + j, none⟩ = some v := by
 unfold World.cells? at h
 split at h
 ·have hl : cs.length = n := by simpa using mapM_some_length h
  have hg : ∀ (j : Nat), j < n → W.cell? (a.add j) = cs[j]? := fun j hj => mapM_some_get h j j (by simp [hj])
  have hsp : a.spot = none := by
   have h0 := hg 0 hn
   rw [quj (by omega)] at h0
   cases hs : a.spot with
   | none => rfl
   | some s =>
    simp only [World.cell?, Addr.add, if_pos, hs] at h0
    split at h0
    ·simp at h0
    ·cases h0
  refine ⟨hsp, hl, fun j v hv => ?_⟩
  have hj : j < n := by rw [← hl]; exact (quh.1 hv).1
  have := hg j hj
  rw [hv] at this
  rw [yH _ _ hsp] at this
  exact this
 ·cases h
theorem qqH {H : Type} {d : DataW H} {l : List (DataW H)} (h : d ∈ l) : Rows.uptoBulk d ≤ Rows.uptoBulkAll l := by
 induction l with
 | nil => cases h
 | cons x r ih =>
  simp only [Rows.uptoBulkAll]
  cases quH.1 h with
  | inl e => subst e; omega
  | inr e => have := ih e; omega
theorem qiJ {H : Type} : ∀ (l : List Tm) (ds : List (DataW H)), l.length = ds.length → (∀ (i : Nat) t d, l[i]? = some t → ds[i]? = some d → t.w ≤ Rows.uptoBulk d) → wL l ≤ Rows.uptoBulkAll ds
 | [], [], _, _ => by simp [Rows.uptoBulkAll]
 | t :: l, d :: ds, hl, h => by
  have h0 := h 0 t d rfl rfl
  have := qiJ l ds (by simpa using hl) (fun i t d ht hd => h (i + 1) t d (by simpa using ht) (by simpa using hd))
  simp only [qv, Rows.uptoBulkAll]
  omega
theorem qp2 (T : TermTys P tT tL tI tS) : ∀ (n : Nat),
  (∀ cs x, DataW.trod enc P W 0 (fun _ => true) true n tT cs = some x → ∃ t : Tm, qg4 W cs t ∧ t.w ≤ Rows.uptoBulk x.1 ∧
   ∀ (W' : World) (sp : Nat → Bool), (∀ p ∈ x.2, W.sameAt W' p) → (∀ p ∈ x.2, sp p.block = true) → DataW.trod enc P W' 0 sp true n tT cs = some x) ∧
  (∀ cs x, DataW.trod enc P W 0 (fun _ => true) true n tL cs = some x → ∃ (l : List Tm) (v : Value), cs = [v] ∧ Rep (C0 W) M0 (.sl (qa l)) v ∧ wL l ≤ Rows.uptoBulk x.1 ∧
   ∀ (W' : World) (sp : Nat → Bool), (∀ p ∈ x.2, W.sameAt W' p) → (∀ p ∈ x.2, sp p.block = true) → DataW.trod enc P W' 0 sp true n tL cs = some x) := by
 intro n
 induction n with
 | zero => exact ⟨fun cs x h => by simp [DataW.trod] at h, fun cs x h => by simp [DataW.trod] at h⟩
 | succ n ih =>
  obtain ⟨ihT, ihL⟩ := ih
  refine ⟨fun cs x h => ?_, fun cs x h => ?_⟩
  ·obtain ⟨f0, f1, f2, f3, hu, t0, o0, t1, o1, t2, o2, t3, o3⟩ := T.uT
   obtain ⟨xs, n', e, rfl, hl, hxl, hx⟩ := DataW.trod_struct hu h
   obtain rfl : n' = n := by omega
   rw [T.cT] at hl
   obtain ⟨c0, c1, c2, c3, rfl⟩ : ∃ c0 c1 c2 c3, cs = [c0, c1, c2, c3] := by
    match cs, hl with
    | [a, b, c, d], _ => exact ⟨a, b, c, d, rfl⟩
   obtain ⟨x0, x1, x2, x3, rfl⟩ : ∃ c0 c1 c2 c3, xs = [c0, c1, c2, c3] := by
    match xs, hxl with
    | [a, b, c, d], _ => exact ⟨a, b, c, d, rfl⟩
   have h0 := hx 0 f0 rfl
   have h1 := hx 1 f1 rfl
   have h2 := hx 2 f2 rfl
   have h3 := hx 3 f3 rfl
   rw [t0, o0, T.cI] at h0
   rw [t1, o1, T.cI] at h1
   rw [t2, o2, T.cS] at h2
   rw [t3, o3, T.cL] at h3
   simp at h0 h1 h2 h3
   obtain ⟨k, e0, rfl, w0⟩ := DataW.trod_int T.uI h0
   obtain ⟨m, e1, rfl, w1⟩ := DataW.trod_int T.uI h1
   obtain ⟨s, e2, rfl, w2⟩ := DataW.trod_string T.uS h2
   obtain ⟨l, v, e3, hr, hb, hback⟩ := ihL _ _ h3
   simp at e0 e1 e2 e3
   subst e0 e1 e2 e3
   refine ⟨.mk k m s.data.toList l, ⟨rfl, fun j a u ha hu => ?_⟩, ?_, fun W' sp hs hp => ?_⟩
   ·rw [Tm.cells_mk] at ha
    match j, ha, hu with
    | 0, ha, hu => simp at ha hu; subst ha hu; exact ⟨rfl, .int _ _⟩
    | 1, ha, hu => simp at ha hu; subst ha hu; exact ⟨rfl, .int _ _⟩
    | 2, ha, hu =>
     simp at ha hu; subst ha hu
     refine ⟨rfl, ?_⟩
     have := Rep.str (C := C0 W) (μ := M0) s.data.toList
     simpa using this
    | 3, ha, hu => simp at ha hu; subst ha hu; exact ⟨rfl, hr⟩
    | (j + 4), ha, hu => simp at ha
   ·simp only [List.map_cons, List.map_nil, Rows.uptoBulk, Rows.uptoBulkAll]
    rw [Tm.w_mk]
    omega
   ·have hs3 : ∀ p ∈ x3.2, W.sameAt W' p := fun p hp => hs p (by simp [hp])
    have hp3 : ∀ p ∈ x3.2, sp p.block = true := fun p hpp => hp p (by simp [hpp])
    have b3 := hback W' sp hs3 hp3
    have b0 : DataW.trod enc P W' 0 sp true n' tI [Value.int .i64 k] = some (.lit (.int .i64 k), []) := by
     cases n' with
     | zero => simp [DataW.trod] at h0
     | succ q => simp [DataW.trod, T.uI, w0]
    have b1 : DataW.trod enc P W' 0 sp true n' tI [Value.int .i64 m] = some (.lit (.int .i64 m), []) := by
     cases n' with
     | zero => simp [DataW.trod] at h0
     | succ q => simp [DataW.trod, T.uI, w1]
    have b2 : DataW.trod enc P W' 0 sp true n' tS [Value.string s] = some (.lit (.string s.data.toList), []) := by
     cases n' with
     | zero => simp [DataW.trod] at h0
     | succ q => simp [DataW.trod, T.uS, w2]
    unfold DataW.trod
    rw [hu]
    simp [T.cT, t0, o0, t1, o1, t2, o2, t3, o3, T.cI, T.cS, T.cL, b0, b1, b2, b3]
  ·rcases DataW.trod_slice T.uL h with ⟨rfl, rfl⟩ | ⟨a, len, cap, elems, rest, n', e, rfl, rfl, hb, hlc, hmx, hel, hg, hsp, _⟩
   ·refine ⟨[], _, rfl, by rw [vG]; exact .slNil, by simp, fun W' sp _ _ => ?_⟩
    simp [DataW.trod, T.uL]
   ·obtain rfl : n' = n := by omega
    obtain ⟨hrl, hrg⟩ := hsp rfl
    have one : ∀ (i : Nat) (y : DataW H × List MemPlace), (W.cells? 0 (a.add (i * P.cellsOf tT)) (P.cellsOf tT)).bind (DataW.trod enc P W 0 (fun _ => true) true n' tT) = some y →
      ∃ cs', W.cells? 0 (a.add (i * 4)) 4 = some cs' ∧ DataW.trod enc P W 0 (fun _ => true) true n' tT cs' = some y := by
     intro i y hy
     rw [T.cT] at hy
     exact quf.1 hy
    -- the terms
    have tms : ∃ f : Nat → Tm, ∀ (i : Nat) y, elems[i]? = some y → ∃ cs', W.cells? 0 (a.add (i * 4)) 4 = some cs' ∧ qg4 W cs' (f i) ∧ (f i).w ≤ Rows.uptoBulk y.1 := by
     have : ∀ i : Nat, ∃ t : Tm, ∀ y, elems[i]? = some y → ∃ cs', W.cells? 0 (a.add (i * 4)) 4 = some cs' ∧ qg4 W cs' t ∧ t.w ≤ Rows.uptoBulk y.1 := by
      intro i
      cases hy : elems[i]? with
      | none => exact ⟨default, fun y h => by cases h⟩
      | some y =>
       have hi : i < len := by rw [← hel]; exact (quh.1 hy).1
       obtain ⟨cs', h1, h2⟩ := one i y ((hg i hi).trans hy)
       obtain ⟨t, h3, h4, _⟩ := ihT _ _ h2
       exact ⟨t, fun y' hy' => by cases hy'; exact ⟨cs', h1, h3, h4⟩⟩
     exact ⟨fun i => Classical.choose (this i), fun i => Classical.choose_spec (this i)⟩
    obtain ⟨f, hf⟩ := tms
    have hget : ∀ (i : Nat) (row : List AV), (qa ((quK len).map f))[i]? = some row → i < len ∧ row = (f i).cells := by
     intro i row hi
     have hil : i < len := by have := (quh.1 hi).1; simpa using this
     refine ⟨hil, ?_⟩
     rw [y8, List.getElem?_map, List.getElem?_range hil] at hi
     simpa using hi.symm
    have hcell : ∀ (i j : Nat) (row : List AV) x, (qa ((quK len).map f))[i]? = some row → row[j]? = some x → a.spot = none ∧ x.isCell = true ∧ ∃ v, W.cell? ⟨a.block, a.off + i * 4 + j, none⟩ = some v ∧ Rep (C0 W) M0 x v := by
     intro i j row x hi hj
     obtain ⟨hil, rfl⟩ := hget i row hi
     obtain ⟨cs', h1, h2, _⟩ := hf i _ (quj (by omega))
     obtain ⟨s1, s2, s3⟩ := qdh h1 (by omega)
     have hspot : a.spot = none := by
      obtain ⟨cs0, q1, _⟩ := hf 0 _ (quj (by omega))
      have := (qdh q1 (by omega)).1
      simpa [Addr.add] using this
     have hjl : j < cs'.length := by
      rw [h2.1]
      have := (quh.1 hj).1
      cases hfi : f i with
      | mk k n s l => rw [hfi, Tm.cells_mk] at this; simpa using this
     have h4 := h2.2 j x _ hj (quj hjl)
     refine ⟨hspot, h4.1, _, ?_, h4.2⟩
     have := s3 j _ (quj hjl)
     rw [yH _ _ hspot] at this
     exact this
    refine ⟨(quK len).map f, _, rfl, ?_, ?_, fun W' sp hs hp => ?_⟩
    ·have := Rep.sl (C := C0 W) (μ := M0) (qa ((quK len).map f)) a cap 4 (fun i j => (W.cell? ⟨a.block, a.off + i * 4 + j, none⟩).getD undef) (fun hne => ?_) (fun i row hi => ?_) (fun i j row x hi hj => ?_) (fun i j row x hi hj => ?_) (fun i j row x hi hj => ?_) (by simpa using hlc) (qhz _)
     ·simpa using this
     ·have hl0 : 0 < len := by
       rcases Nat.eq_zero_or_pos len with h0 | h0
       ·subst h0; exact absurd (by simp) hne
       ·exact h0
      obtain ⟨cs0, q1, _⟩ := hf 0 _ (quj (by omega))
      have := (qdh q1 (by omega)).1
      simpa [Addr.add] using this
     ·obtain ⟨_, rfl⟩ := hget i row hi
      cases hfi : f i with
      | mk k n s l => rw [Tm.cells_mk]; rfl
     ·obtain ⟨_, _, v, h1, _⟩ := hcell i j row x hi hj
      show W.cell? _ = _
      rw [h1]; rfl
     ·obtain ⟨_, _, v, h1, h2⟩ := hcell i j row x hi hj
      rw [h1]; exact h2
     ·exact (hcell i j row x hi hj).2.1
    ·simp only [Rows.uptoBulk]
     have := qiJ ((quK len).map f) (elems.map (·.1)) (by simp [hel]) (fun i t d ht hd => by
      rw [List.getElem?_map] at ht hd
      obtain ⟨j, hj, rfl⟩ := quk.1 ht
      obtain ⟨y, hy, rfl⟩ := quk.1 hd
      have hil : i < len := by have := (quh.1 hj).1; simpa using this
      rw [List.getElem?_range hil] at hj
      cases hj
      obtain ⟨_, _, _, h4⟩ := hf i y hy
      exact h4)
     omega
    ·have hrow : 0 < (elems.length + rest.length) → sp a.block = true := fun hpos => hp (.cell a.block (a.off + 0)) (by
      rw [quA]
      exact .inl (MemPlace.mem_row.2 ⟨0, Nat.mul_pos hpos (by rw [T.cT]; omega), rfl⟩))
     unfold DataW.trod at h ⊢
     rw [T.uL] at h ⊢
     simp only [if_true] at h ⊢
     rw [if_pos ⟨hb, hlc, hmx⟩] at h ⊢
     simp only [quk, quf] at h ⊢
     obtain ⟨elems', he, rest', hr, hx⟩ := h
     have hlen : elems'.length = len := by simpa using mapM_some_length he
     have hrl' : rest'.length = cap - len := by simpa using mapM_some_length hr
     simp only [Prod.mk.injEq, DataW.slice.injEq] at hx
     have one' : ∀ (i : Nat) (y : DataW H × List MemPlace), i < elems'.length + rest'.length → y ∈ elems' ++ rest' →
       (W.cells? 0 (a.add (i * P.cellsOf tT)) (P.cellsOf tT)).bind (DataW.trod enc P W 0 (fun _ => true) true n' tT) = some y → (W'.cells? 0 (a.add (i * P.cellsOf tT)) (P.cellsOf tT)).bind (DataW.trod enc P W' 0 sp true n' tT) = some y := by
      intro i y hi hy hv
      simp only [quf] at hv ⊢
      obtain ⟨cs', hc', hy'⟩ := hv
      obtain ⟨_, _, _, hbk⟩ := ihT _ _ hy'
      refine ⟨cs', World.cells?_carry hc' (fun p hpp => hs p ?_), hbk W' sp (fun p hpp => hs p ?_) (fun p hpp => hp p ?_)⟩
      ·rw [← hx.2]
       obtain ⟨j, hj, rfl⟩ := MemPlace.mem_row.1 hpp
       simp only [quA]
       left
       refine MemPlace.mem_row.2 ⟨i * P.cellsOf tT + j, ?_, ?_⟩
       ·calc i * P.cellsOf tT + j < i * P.cellsOf tT + P.cellsOf tT := by omega
         _ = (i + 1) * P.cellsOf tT := by rw [Nat.add_mul, Nat.one_mul]
         _ ≤ (elems'.length + rest'.length) * P.cellsOf tT := quC _ hi
       ·unfold Addr.add
        split
        ·rename_i h0
         simp [h0]
        ·simp [Nat.add_assoc]
      ·rw [← hx.2]
       simp only [quA, List.mem_flatMap]
       right
       exact ⟨y, by simpa using hy, hpp⟩
      ·rw [← hx.2]
       simp only [quA, List.mem_flatMap]
       right
       exact ⟨y, by simpa using hy, hpp⟩
     refine ⟨elems', mapM_carry he (fun i y hi hy => one' i y (by have : i < len := (by simpa using hi); omega) (by simp [hy])), rest', ?_, by simp only [Prod.mk.injEq, DataW.slice.injEq]; exact hx⟩
     by_cases h0 : 0 < elems.length + rest.length
     ·rw [if_pos (hrow h0)]
      exact mapM_carry hr (fun j y hj hy => one' (len + j) y (by have : j < cap - len := (by simpa using hj); omega) (by simp [hy]))
     ·have hc0 : cap - len = 0 := by omega
      rw [hc0] at hr ⊢
      simp at hr
      subst hr
      split <;> rfl
end
end Go.Proofs.YtkohdkldmpiiiaaGreat
end
section
namespace Go.Proofs.YtkohdkldmpiiiaaGreat
open Go.Av Go.ChangeShapes Go.WideShapes Go.ChangeAt Go.RowKit
theorem qrk : ownKnob Tryz.prog.godebug = none := by kernel_rfl
section
variable {H : Type} {enc : TypeId × Value → H} {P : Program} {W W' : World}
theorem qpZ {f : Func} {s : ChangeSpec} {apart fresh handsOn again : Bool} {args : Array Value} {v : Value} {ds gs : List (DataW H)} {before pa pv : List MemPlace}
  (hW : DataW.Whole enc P f.params.toList s.vars apart W args.toList ds gs before)
  (hres : ∀ (b : Nat) (sp : Nat → Bool) (hd : Bool), DataW.TrodAll enc P W' b sp hd f.resultTypes.toList (v.resultList f.resultTypes.size) (s.fn H (ds ++ gs)).results [])
  (hargs : ∀ sp : Nat → Bool, (∀ p ∈ before, sp p.block = true) → DataW.TrodAll enc P W' 0 sp true f.params.toList args.toList (s.fn H (ds ++ gs)).args pa)
  (hvars : ∀ sp : Nat → Bool, (∀ p ∈ before, sp p.block = true) → DataW.TrodVars enc P W' sp s.vars (s.fn H (ds ++ gs)).vars pv)
  (hps : before = pa ++ pv) (hk : W.keptBut W' (· ∈ before)) (hfz : ∀ b o, b < W.heap.size → W'.frozen? ⟨b, o, none⟩ = W.frozen? ⟨b, o, none⟩)
  (hok : ∀ (j : Nat) (t : TypeId) (r : Value), f.resultTypes[j]? = some t → (v.resultList f.resultTypes.size)[j]? = some r → Value.okWide P W' .any 0 t r) :
  s.post enc P f apart fresh handsOn again W args v W' := by
 have hlt := hW.lt
 have hold : ∀ p ∈ before, (fun b => decide (b < W.heap.size)) p.block = true := fun p hp => by simpa using hlt p hp
 refine ⟨ds, gs, before, [], pa, pv, hW, hres _ _ _, hargs _ hold, hvars _ hold, World.keptBut_mono (fun p hp => ⟨hp, ?_⟩) hk, fun _ => ?_⟩
 ·rw [hps, quA] at hp
  exact Or.inr hp
 ·obtain ⟨_, _, _, _, _, hz, hn⟩ := hW
  refine ⟨hok, _, _, ([] ++ pa) ++ pv, ⟨[] ++ pa, pv, trodAll_append (hargs _ (fun _ _ => rfl)) (hres _ _ _), hvars _ (fun _ _ => rfl), rfl, ?_, ?_⟩, ?_⟩
  ·intro b off hp
   have hp' : MemPlace.cell b off ∈ before := by rw [hps]; simpa using hp
   rw [hfz b off (hlt _ hp')]
   exact hz b off hp'
  ·intro ha
   have := hn ha
   rw [hps] at this
   simpa using this
  ·intro p hp _
   rw [hps]
   simpa using hp
theorem qlC (h : ∀ b, b < W.heap.size → W'.heap[b]? = W.heap[b]?) (ho : W'.os = W.os) (hu : W'.output = W.output) (may : MemPlace → Prop) : W.keptBut W' may := by
 refine ⟨ho, hu, fun i hi => ?_⟩
 rw [h i hi]
 cases W.heap[i]? with
 | none => rfl
 | some o => cases o <;> simp
theorem qld (h : ∀ b, b < W.heap.size → W'.heap[b]? = W.heap[b]?) {p : MemPlace} (hp : p.block < W.heap.size) : W.sameAt W' p := by
 cases p with
 | cell b o => simp only [World.sameAt, World.cell?]; rw [h b hp]
 | map b => exact h b hp
theorem qjh (h : ∀ b, b < W.heap.size → W'.heap[b]? = W.heap[b]?) (b o : Nat) (hb : b < W.heap.size) : W'.frozen? ⟨b, o, none⟩ = W.frozen? ⟨b, o, none⟩ := by
 simp only [World.frozen?]; rw [h b hb]
structure Opened (enc : TypeId × Value → H) (P : Program) (W : World) (t : TypeId) (v : Value) (d : DataW H) (ps : List MemPlace) (a : AV) : Prop where
 rep : Rep (C0 W) M0 a v
 back : ∀ (W' : World) (sp : Nat → Bool), (∀ p ∈ ps, W.sameAt W' p) → (∀ p ∈ ps, sp p.block = true) → DataW.Trod enc P W' 0 sp true t v d ps
theorem qp1 {tT tL tI tS : TypeId} (T : TermTys P tT tL tI tS) {r : Reach} {b0 : Nat} {v : Value} {d : DataW H} {ps : List MemPlace} (hval : Value.okWide P W r b0 tT v) (hd : DataW.Trod enc P W 0 (fun _ => true) true tT v d ps) :
  ∃ t : Tm, Opened enc P W tT v d ps t.av ∧ t.w ≤ Rows.uptoBulk d := by
 obtain ⟨f0, f1, f2, f3, hu, _⟩ := T.uT
 obtain ⟨cs, rfl, hsz⟩ := okWide_struct hu hval
 obtain ⟨n, hn⟩ := hd
 obtain ⟨t, h1, h2, h3⟩ := (qp2 T n).1 _ _ hn
 refine ⟨t, ⟨?_, fun W' sp hs hp => ⟨n, h3 W' sp hs hp⟩⟩, h2⟩
 have := Rep.agg (C := C0 W) (μ := M0) t.cells cs.toList (by
  have := h1.1
  cases t with
  | mk k n s l => rw [Tm.cells_mk]; simpa [Value.cells] using this.symm) (fun i a v ha hv => (h1.2 i a v ha (by simpa [Value.cells] using hv)).2)
 simpa [Tm.av] using this
end
theorem qso {H : Type} {l : List (DataW H)} (hk : Rows.uptoSmall H l = true) {d : DataW H} (hd : d ∈ l) : Rows.uptoBulk d < 1099511627776 := by
 have h : Rows.uptoBulkAll l ≤ 1048576 := of_decide_eq_true hk
 have := qqH hd
 omega
theorem qsc {C : qd} {a : AV} {x : Value} (h1 : Rep C M0 a x) : qo C M0 [a] #[x] := ⟨rfl, fun i c v hc hv => by
 match i, hc, hv with
 | 0, hc, hv => simp at hc hv; subst hc hv; exact h1
 | (i + 1), hc, hv => simp at hc⟩
end Go.Proofs.YtkohdkldmpiiiaaGreat
end
section
namespace Go.Proofs.YtkohdkldmpiiiaaGreat
open Go.Av Go.ChangeShapes Go.WideShapes Go.ChangeAt Go.RowKit
theorem qq6 : TermTys Tryz.prog 25 23 3 9 where
 uT := ⟨_, _, _, _, Tryz.underlying25, rfl, rfl, rfl, rfl, rfl, rfl, rfl, rfl⟩
 uL := Tryz.underlying23
 uI := Tryz.underlying3
 uS := Tryz.underlying9
 cT := by kernel_rfl
 cL := by kernel_rfl
 cI := by kernel_rfl
 cS := by kernel_rfl
end Go.Proofs.YtkohdkldmpiiiaaGreat
end
section
namespace Go.Proofs.YtkohdkldmpiiiaaGreat
open Go.Av Go.ChangeShapes Go.WideShapes Go.ChangeAt Go.RowKit
theorem qlv (f : FuncId) (fn : Func) (h : Tryz.prog.funcs[f]? = some fn) : (fn.name == "runtime.NumGoroutine") = false := by
 have h1 := List.all_eq_true.1 qrp fn (by
  rw [← Array.getElem?_toList] at h
  exact quv h)
 simpa using h1
theorem qqx [Lent] {args : List AV} {H H' : AH} {r : AV} {C : qd} {μ : MMap} {w : World} {vs : Array Value} (hr : qit args H = some (r, H')) (ha : qo C μ args vs) (hw : Wld C μ H w) :
  vP Tryz.prog (callFunc 225 vs) w (xn C μ H w r H') :=
 ql5 (P := Tryz.prog) Tryz.func225 (by rfl) (by rfl) (by kernel_rfl) (by kernel_rfl) hr ha hw
theorem qs4 [Lent] : CfgOk cfg where
  ty := ⟨fun t ti h => BT.all_look qpF h⟩
  mixed := qlw
  named := fun f fn _ h => qlv f fn h
  ext := fun f s h args H r H' hr C μ w vs ha hw => by
    have h : zx f qfg = some s := h
    unfold qfg at h
    rw [zx] at h
    split at h
    · rename_i e
      have e := qui e
      subst e
      cases h
      exact qqx hr ha hw
    · rw [qis] at h
      first
        | (rw [zx] at h; cases h; done)
        | (have okK : CfgOk K.cfg := {
             ty := ⟨fun t ti h => BT.all_look (show K.qks.All _ from qpF) h⟩
             mixed := qlw
             named := fun f fn _ h => qlv f fn h
             ext := fun f s h args H r H' hr C μ w vs ha hw => by
               have h : K.zx f K.qfg = some s := h
               unfold K.qfg at h
               rw [K.zx] at h
               split at h
               · rename_i e
                 have e := qui e
                 subst e
                 cases h
                 exact qqx hr ha hw
               · rw [K.qis, K.zx] at h
                 cases h }
           rw [zx] at h
           split at h
           · rename_i e
             have e := qui e
             subst e
             cases h
             exact (qmA okK).calls _ _ _ _ _ hr C μ w vs _ ha hw rfl
           · rw [zx] at h
             cases h)
theorem qpV {f : FuncId} {args : List AV} {vs : Array Value} {W : World} (hx : cfg.ext f = none) (he : EVs (EV cfg) f args = some (.bool true)) (ha : qo (C0 W) M0 args vs) :
  Calls Tryz.prog f vs W fun e W' => e = .returned (.bool true) ∧ (∀ b, b < W.heap.size → W'.heap[b]? = W.heap[b]?) ∧ W.heap.size ≤ W'.heap.size ∧ W'.os = W.os ∧ W'.output = W.output := by
 unfold EVs at he
 obtain ⟨q, h1, h2⟩ := quk.1 he
 have := qrR qs4 hx (r := q.1) (H' := q.2) h1 ha (wld0 W)
 refine this.mono fun e W' ⟨v, hv, C', μ', p1, p2, p3⟩ => ?_
 rw [h2] at p1
 cases p1
 refine ⟨hv, fun b hb => (p3.fr b hb yo).1, p3.size, p3.os, p3.output⟩
end Go.Proofs.YtkohdkldmpiiiaaGreat
end
section
namespace Go.Av
mutual
def AV.wt : AV → Nat
 | .str s => s.length + 1
 | .sl rows => wtR rows + 1
 | _ => 1
def wtL : List AV → Nat
 | [] => 0
 | a :: l => a.wt + wtL l
def wtR : List (List AV) → Nat
 | [] => 0
 | a :: l => wtL a + wtR l
end
@[simp] theorem wtL_nil : wtL [] = 0 := by rw [wtL]
@[simp] theorem wtL_cons (a : AV) (l : List AV) : wtL (a :: l) = a.wt + wtL l := by rw [wtL]
@[simp] theorem wtR_nil : wtR [] = 0 := by rw [wtR]
@[simp] theorem wtR_cons (a : List AV) (l : List (List AV)) : wtR (a :: l) = wtL a + wtR l := by rw [wtR]
@[simp] theorem wt_int (k : IntKind) (n : Int) : (AV.int k n).wt = 1 := by rw [AV.wt] <;> simp
@[simp] theorem wt_bool (b : Bool) : (AV.bool b).wt = 1 := by rw [AV.wt] <;> simp
@[simp] theorem wt_str (s : List UInt8) : (AV.str s).wt = s.length + 1 := by rw [AV.wt]
@[simp] theorem wt_sl (r : List (List AV)) : (AV.sl r).wt = wtR r + 1 := by rw [AV.wt]
end Go.Av
namespace Go.Proofs.YtkohdkldmpiiiaaGreat
open Go.Av Go.WideShapes
def qbx (W : World) (cs : List Value) (cz : List AV) : Prop := cz.length = cs.length ∧ ∀ (j : Nat) a v, cz[j]? = some a → cs[j]? = some v → a.isCell = true ∧ Rep (C0 W) M0 a v
theorem qbx.nil {W : World} : qbx W [] [] := ⟨rfl, fun j a v h => by simp at h⟩
theorem qbx.one {W : World} {a : AV} {v : Value} (h1 : a.isCell = true) (h2 : Rep (C0 W) M0 a v) : qbx W [v] [a] := ⟨rfl, fun j a' v' ha hv => by
 match j, ha, hv with
 | 0, ha, hv => simp at ha hv; subst ha hv; exact ⟨h1, h2⟩
 | j + 1, ha, hv => simp at ha⟩
theorem qbx.append {W : World} {cs cs' : List Value} {cz cz' : List AV} (h : qbx W cs cz) (h' : qbx W cs' cz') : qbx W (cs ++ cs') (cz ++ cz') := by
 refine ⟨by simp [h.1, h'.1], fun j a v ha hv => ?_⟩
 by_cases hj : j < cz.length
 ·rw [qup hj] at ha
  rw [qup (by rw [← h.1]; exact hj)] at hv
  exact h.2 j a v ha hv
 ·rw [qut (by omega)] at ha
  rw [qut (by rw [← h.1]; omega), ← h.1] at hv
  exact h'.2 _ a v ha hv
section
variable {H : Type} {enc : TypeId × Value → H} {P : Program} {W : World}
end
structure InsA where
 o : Int
 a : Int
 b : Int
 t : Tm
def InsA.av (x : InsA) : AV := .agg (.int .i64 x.o :: .int .i64 x.a :: .int .i64 x.b :: x.t.cells)
structure InsA.Ok (x : InsA) : Prop where
 o1 : -9223372036854775808 ≤ x.o
 o2 : x.o ≤ 9223372036854775807
 a1 : -9223372036854775808 ≤ x.a
 a2 : x.a ≤ 9223372036854775807
 b1 : -9223372036854775808 ≤ x.b
 b2 : x.b ≤ 9223372036854775807
 w : x.t.w < 1099511627776
end Go.Proofs.YtkohdkldmpiiiaaGreat
end
section
namespace Go.Av
@[simp] theorem Tm.kind_mk (k n : Int) (s : List UInt8) (l : List Tm) : (Tm.mk k n s l).kind = k := rfl
@[simp] theorem Tm.num_mk (k n : Int) (s : List UInt8) (l : List Tm) : (Tm.mk k n s l).num = n := rfl
@[simp] theorem Tm.str_mk (k n : Int) (s : List UInt8) (l : List Tm) : (Tm.mk k n s l).str = s := rfl
@[simp] theorem Tm.subs_mk (k n : Int) (s : List UInt8) (l : List Tm) : (Tm.mk k n s l).subs = l := rfl
@[simp] theorem Tm.eta (t : Tm) : Tm.mk t.kind t.num t.str t.subs = t := by cases t; rfl
theorem Tm.cells_eq (t : Tm) : t.cells = [.int .i64 t.kind, .int .i64 t.num, .str t.str, .sl (qa t.subs)] := by cases t; rw [Tm.cells_mk]; rfl
@[simp] theorem cells_fold (k n : Int) (s : List UInt8) (l : List Tm) : [AV.int .i64 k, AV.int .i64 n, AV.str s, AV.sl (qa l)] = (Tm.mk k n s l).cells := (Tm.cells_mk k n s l).symm
@[simp] theorem cells_fold0 (k n : Int) (s : List UInt8) : [AV.int .i64 k, AV.int .i64 n, AV.str s, AV.sl []] = (Tm.mk k n s []).cells := by rw [Tm.cells_mk, vG]
@[simp] theorem agg_cells (t : Tm) : AV.agg t.cells = t.av := rfl
@[simp] theorem qpT (t : Tm) : [t.cells] = qa [t] := by rw [qG, vG]
@[simp] theorem rowsT_cons' (t : Tm) (l : List Tm) : t.cells :: qa l = qa (t :: l) := (qG t l).symm
@[simp] theorem rowsT_append' (a b : List Tm) : qa a ++ qa b = qa (a ++ b) := (vM a b).symm
@[simp] theorem rowsT_app (a b : List Tm) : quD (qa a) (qa b) = qa (a ++ b) := (vM a b).symm
@[simp] theorem rowsT_take' (n : Nat) (a : List Tm) : (qa a).take n = qa (a.take n) := qor n a
@[simp] theorem rowsT_drop' (n : Nat) (a : List Tm) : (qa a).drop n = qa (a.drop n) := qos n a
@[simp] theorem rowsT_set' (l : List Tm) (i : Nat) (t : Tm) : (qa l).set i t.cells = qa (l.set i t) := qpS l i t
@[simp] theorem rowsT_get' (l : List Tm) (i : Nat) : (qa l)[i]? = (l[i]?).map Tm.cells := y8 l i
@[simp] theorem rowsT_getElem (l : List Tm) (i : Nat) (h : i < (qa l).length) : (qa l)[i] = (l[i]'(by simpa using h)).cells := by
 have h1 := y8 l i
 rw [quj h, quj (by simpa using h)] at h1
 exact Option.some.inj h1
@[simp] theorem kOpt_map {α β γ : Type} (o : Option β) (g : β → γ) (k : γ → Option α) : kOpt (o.map g) k = kOpt o fun x => k (g x) := by cases o <;> rfl
@[simp] theorem qN (t : Tm) : t.cells.length = 4 := by rw [Tm.cells_eq]; rfl
@[simp] theorem q8 (t : Tm) : t.cells.take 4 = t.cells := by rw [Tm.cells_eq]; rfl
@[simp] theorem drop_cells (t : Tm) : t.cells.drop 4 = [] := by rw [Tm.cells_eq]; rfl
@[simp] theorem cells_0 (t : Tm) : t.cells[0]? = some (.int .i64 t.kind) := by rw [Tm.cells_eq]; rfl
@[simp] theorem cells_1 (t : Tm) : t.cells[1]? = some (.int .i64 t.num) := by rw [Tm.cells_eq]; rfl
@[simp] theorem cells_2 (t : Tm) : t.cells[2]? = some (.str t.str) := by rw [Tm.cells_eq]; rfl
@[simp] theorem cells_3 (t : Tm) : t.cells[3]? = some (.sl (qa t.subs)) := by rw [Tm.cells_eq]; rfl
@[simp] theorem refs_cells (n : Nat) (t : Tm) : qt n t.cells = true := by rw [Tm.cells_eq]; rfl
@[simp] theorem allCells_cells (t : Tm) : vX t.cells = true := by rw [Tm.cells_eq]; rfl
@[simp] theorem rowsT_free' (l : List Tm) : qA 0 (qa l) = true := qhz l
@[simp] theorem qaE (l : List Tm) : vR 4 (qa l) = true := by
 cases l with
 | nil => rw [vG]; rfl
 | cons t l => rw [qG, vR, qN]; rfl
@[simp] theorem q9 {α : Type} (t : Tm) (k : Int → Int → List UInt8 → List (List AV) → Option α) : kTmC t.cells k = k t.kind t.num t.str (qa t.subs) := by rw [Tm.cells_eq]; rfl
@[simp] theorem qa4 {α : Type} (t : Tm) (k : Int → Int → List UInt8 → List (List AV) → Option α) : kTmV t.av k = k t.kind t.num t.str (qa t.subs) := by rw [Tm.av, Tm.cells_eq]; rfl
theorem qsL {i n : Nat} (h : i < n) (hn : n < 1099511627776) : IntKind.wrap .i64 ((i : Int) + 1) = (i : Int) + 1 := xa (by omega) (by omega)
@[simp] theorem cast_nn (q : Nat) : (0 ≤ (q : Int) + 1) = True := eq_true (by omega)
@[simp] theorem cast_le1 (q n : Nat) : ((q : Int) + 1 ≤ (n : Int)) = (q + 1 ≤ n) := propext (by omega)
@[simp] theorem cast_lt1 (q n : Nat) : ((q : Int) + 1 < (n : Int)) = (q + 1 < n) := propext (by omega)
@[simp] theorem cast_nn' (q : Nat) : (0 < (q : Int) + 1) = True := eq_true (by omega)
@[simp] theorem cast_ne0 (q : Nat) : ((q : Int) + 1 == 0) = false := by rw [beqD]; exact decide_eq_false (by omega)
@[simp] theorem cast_lt_s (q : Nat) : ((q : Int) < (q : Int) + 1) = True := eq_true (by omega)
@[simp] theorem cast_le_s (q : Nat) : ((q : Int) ≤ (q : Int) + 1) = True := eq_true (by omega)
theorem qt4 {n : Nat} (hn : n < 4398046511104) : IntKind.wrap .i64 (n : Int) = n := xa (by omega) (by omega)
def C3 (p q r : Int) : Prop := (p ≤ 0 → q ≤ 0 → r ≤ 0) ∧ (p < 0 → q ≤ 0 → r < 0) ∧ (p ≤ 0 → q < 0 → r < 0) ∧ (0 ≤ p → 0 ≤ q → 0 ≤ r) ∧ (0 < p → 0 ≤ q → 0 < r) ∧ (0 ≤ p → 0 < q → 0 < r)
def yy (k n : Int) (s : List UInt8) (m : Nat) : Bool :=
 if k = 1 then decide (-576460752303423488 ≤ n) && (decide (n ≤ 576460752303423487) && (decide (s = []) && decide (m = 0)))
 else if k = 2 then decide (n = 0) && (decide (s.length ≤ 64) && decide (m = 0))
 else if k = 3 then decide (0 ≤ n) && (decide (n ≤ 1073741824) && (decide (s = []) && decide (m = 0)))
 else if k = 4 then decide (0 ≤ n) && (decide (n ≤ 1073741824) && (decide (s = []) && decide (m = 0)))
 else if k = 6 then decide (0 ≤ n) && (decide (n ≤ 1073741824) && (decide (s = []) && decide (m = 0)))
 else if k = 5 then decide (0 ≤ n) && (decide (n ≤ 1073741824) && (decide (s = []) && decide (m ≤ 64)))
 else if k = 7 then decide (n = 0) && (decide (s = []) && decide (m ≤ 64))
 else if k = 8 then decide (n = 0) && (decide (s = []) && decide (m = 0))
 else if k = 9 then decide (n = 0) && (decide (s = []) && decide (m = 2))
 else false
def Tm.sound (t : Tm) : Bool := yy t.kind t.num t.str t.subs.length
def Tm.own (t : Tm) : Nat := if t.kind = 7 ∨ t.kind = 5 then 2 else 1
theorem yj (a b : Bool) : (bif a then some (AV.bool b) else some (AV.bool false)) = some (.bool (a && b)) := by cases a <;> rfl
theorem qs6 (s : List UInt8) : (s == []) = decide (s = []) := by cases s <;> simp
theorem beqI (a b : Int) : (a == b) = decide (a = b) := by simp [beqD]
mutual
/-- may all parts of a term be? -/
def Tm.parts : Tm → Bool
 | .mk k n s l => yy k n s l.length && vK l
def vK : List Tm → Bool
 | [] => true
 | t :: l => t.parts && vK l
end
mutual
/-- how many words all parts have -/
def Tm.words : Tm → Nat
 | .mk k n s l => (Tm.mk k n s l).own + vm l
def vm : List Tm → Nat
 | [] => 0
 | t :: l => t.words + vm l
end
theorem Tm.parts_eq (t : Tm) : t.parts = (t.sound && vK t.subs) := by cases t; rw [Tm.parts]; rfl
theorem Tm.words_eq (t : Tm) : t.words = t.own + vm t.subs := by cases t; rw [Tm.words]; rfl
theorem qbA (a b : List Tm) : vK (a ++ b) = (vK a && vK b) := by
 induction a with
 | nil => simp [vK]
 | cons x l ih => simp [vK, ih, Bool.and_assoc]
theorem qby (a b : List Tm) : vm (a ++ b) = vm a + vm b := by
 induction a with
 | nil => simp [vm]
 | cons x l ih => simp [vm, ih]; omega
theorem qoB (a : List Tm) : vK a.reverse = vK a := by
 induction a with
 | nil => rfl
 | cons x l ih => simp [qbA, vK, ih, Bool.and_comm]
theorem qob (a : List Tm) : vm a.reverse = vm a := by
 induction a with
 | nil => rfl
 | cons x l ih => simp [qby, vm, ih]; omega
theorem Tm.own_le (t : Tm) : t.own ≤ 2 ∧ 1 ≤ t.own := by unfold Tm.own; split <;> omega
def chkS (R : List Tm) (wd : Nat) : Int := if vK R then (if 65536 < wd + vm R then 3 else 0) else 2
def Tm.chk (t : Tm) : Int := chkS [t] 0
theorem qrI {R : List Tm} {x : Tm} {wd : Nat} (h : x.sound = false) : chkS (R ++ [x]) wd = 2 := by
 unfold chkS
 rw [qbA]
 simp [vK, Tm.parts_eq, h]
theorem qj1 {R : List Tm} {x : Tm} {wd : Nat} (h : x.sound = true) : chkS (R ++ x.subs.reverse) (wd + x.own) = chkS (R ++ [x]) wd := by
 unfold chkS
 simp only [qbA, qoB, qby, qob, vK, vm, Tm.parts_eq, Tm.words_eq, h, Bool.true_and, Bool.and_true]
 have : wd + x.own + (vm R + vm x.subs) = wd + (vm R + (x.own + vm x.subs + 0)) := by omega
 rw [this]
def tupT (l : List Tm) : Tm := .mk 7 0 [] l
def qrV : Tm := .mk 0 0 [] []
def InB (a : Int) : Prop := -576460752303423488 ≤ a ∧ a ≤ 576460752303423487
instance (a : Int) : Decidable (InB a) := inferInstanceAs (Decidable (_ ∧ _))
theorem beqS (a b : List UInt8) : (a == b) = decide (a = b) := by by_cases h : a = b <;> simp [h]
structure Env where
 obj : Tm
 binds : List (Int × Tm)
 self : Int
def qeW : List (List UInt8 × List Int) := [
 ([115, 101, 108, 102], [0]),
 ([105, 115, 95, 97, 116, 111, 109], [1]),
 ([105, 115, 95, 105, 110, 116, 101, 103, 101, 114], [1]),
 ([105, 115, 95, 108, 105, 115, 116], [1]),
 ([105, 115, 95, 116, 117, 112, 108, 101], [1]),
 ([105, 115, 95, 112, 105, 100], [1]),
 ([105, 115, 95, 102, 117, 110, 99, 116, 105, 111, 110], [1]),
 ([105, 115, 95, 114, 101, 102, 101, 114, 101, 110, 99, 101], [1]),
 ([110, 111, 116], [1]),
 ([98, 110, 111, 116], [1]),
 ([97, 98, 115], [1]),
 ([116, 117, 112, 108, 101, 95, 115, 105, 122, 101], [1]),
 ([115, 105, 122, 101], [1]),
 ([104, 100], [1]),
 ([116, 108], [1]),
 ([108, 101, 110, 103, 116, 104], [1]),
 ([43], [1, 2]),
 ([45], [1, 2]),
 ([61, 61], [2]),
 ([61, 58, 61], [2]),
 ([47, 61], [2]),
 ([61, 47, 61], [2]),
 ([60], [2]),
 ([61, 60], [2]),
 ([62], [2]),
 ([62, 61], [2]),
 ([97, 110, 100], [2]),
 ([111, 114], [2]),
 ([120, 111, 114], [2]),
 ([97, 110, 100, 97, 108, 115, 111], [2]),
 ([111, 114, 101, 108, 115, 101], [2]),
 ([42], [2]),
 ([100, 105, 118], [2]),
 ([114, 101, 109], [2]),
 ([98, 97, 110, 100], [2]),
 ([98, 111, 114], [2]),
 ([98, 120, 111, 114], [2]),
 ([101, 108, 101, 109, 101, 110, 116], [2])]
def qaJ {β : Type} (op : List UInt8) (d : β) : List (List UInt8 × β) → β
 | [] => d
 | p :: l => bif op == p.1 then p.2 else qaJ op d l
theorem qjO {β γ : Type} (g : β → γ) (op : List UInt8) (d : β) : ∀ l : List (List UInt8 × β), qaJ op (g d) (l.map fun p => (p.1, g p.2)) = g (qaJ op d l)
 | [] => rfl
 | p :: l => by
  rw [List.map_cons, qaJ, qaJ, qjO g op d l]
  cases op == p.1 <;> rfl
def opsG (op : List UInt8) : List Int := qaJ op [] qeW
def vF (l : List Int) : List (List AV) := l.map fun n => [.int .i64 n]
theorem qav (l : List Int) : (vF l).length = l.length := by simp [vF]
theorem qqi (l : List Int) (i : Nat) : (vF l)[i]? = (l[i]?).map fun n => [AV.int .i64 n] := by simp [vF]
def qt5 (n : Int) : Bool := decide (1 ≤ n) && decide (n ≤ 1073741824)
theorem Tm.Ok.subs {t : Tm} (h : t.Ok) {x : Tm} (hx : x ∈ t.subs) : x.Ok := by
 obtain ⟨k, n, s, l⟩ := t
 exact h.sub hx
def y0 (b : UInt8) : Option Int := if b.toNat < 48 then none else if b.toNat > 57 then none else some ((b.toNat : Int) - 48)
def varG : List UInt8 → Option Int
 | [a, b] => if a.toNat = 36 then y0 b else none
 | [a, b, c] => if a.toNat = 36 ∧ b.toNat ≠ 48 then (y0 b).bind fun x => (y0 c).map fun y => x * 10 + y else none
 | _ => none
theorem qcK {b : UInt8} {x : Int} (h : y0 b = some x) : 0 ≤ x ∧ x ≤ 9 := by
 unfold y0 at h
 split at h
 ·cases h
 ·split at h
  ·cases h
  ·cases h; omega
theorem qrW (a b : UInt8) : varG [a, b] = if a.toNat = 36 then y0 b else none := rfl
theorem qod (a b c : UInt8) : varG [a, b, c] = if a.toNat = 36 ∧ b.toNat ≠ 48 then (y0 b).bind fun x => (y0 c).map fun y => x * 10 + y else none := rfl
theorem qnI {s : List UInt8} {x : Int} (h : varG s = some x) : 0 ≤ x ∧ x ≤ 99 := by
 unfold varG at h
 split at h
 ·split at h
  ·have := qcK h; omega
  ·cases h
 ·split at h
  ·obtain ⟨a, h1, h2⟩ := quf.1 h
   obtain ⟨b, h3, rfl⟩ := quk.1 h2
   have := qcK h1
   have := qcK h3
   omega
  ·cases h
 ·cases h
def varT (t : Tm) : Option Int := if t.kind = 2 ∧ t.chk = 0 then varG t.str else none
theorem qoa {n : Nat} (h : n < 18446744073709551616) : IntKind.wrap .u64 (n : Int) = n := by
 simp [IntKind.wrap, IntKind.bits, IntKind.signed]; omega
theorem qnK {n : Nat} (h : n < 64) : vU (Op.shift .shl .u64 1 .i64 (n : Int)) = some (.int .u64 ((2 ^ n : Nat) : Int)) := by
 have hp : 2 ^ n < 18446744073709551616 := by
  have : 2 ^ n < 2 ^ 64 := Nat.pow_lt_pow_right (by omega) h
  simpa using this
 have : vU (Op.shift .shl .u64 1 .i64 (n : Int)) = some (.int .u64 (IntKind.wrap .u64 (1 * 2 ^ (min (n : Int).toNat 64)))) := by
  unfold Op.shift
  rw [if_neg (by omega)]; rfl
 rw [this, quE, Nat.min_eq_left (by omega), Int.one_mul]
 have e : ((2 : Int) ^ n) = ((2 ^ n : Nat) : Int) := by simp
 rw [e, qoa hp]
theorem qnP {a b : Nat} (ha : a < 18446744073709551616) (hb : b < 18446744073709551616) : vU (Op.intBits .or .u64 (a : Int) (b : Int)) = some (.int .u64 ((a ||| b : Nat) : Int)) := by
 have : vU (Op.intBits .or .u64 (a : Int) (b : Int)) = some (.int .u64 (IntKind.wrap .u64 (BitVec.ofInt 64 (a : Int) ||| BitVec.ofInt 64 (b : Int)).toNat)) := rfl
 rw [this]
 have ea : (BitVec.ofInt 64 (a : Int)).toNat = a := by simp [BitVec.toNat_ofInt]; omega
 have eb : (BitVec.ofInt 64 (b : Int)).toNat = b := by simp [BitVec.toNat_ofInt]; omega
 have hlt := (BitVec.ofInt 64 (a : Int) ||| BitVec.ofInt 64 (b : Int)).isLt
 rw [qoa (by simpa using hlt), BitVec.toNat_or, ea, eb]
theorem qnJ {a n : Nat} (ha : a < 18446744073709551616) (hn : n < 64) : vU (Op.shift .shr .u64 (a : Int) .i64 (n : Int)) = some (.int .u64 ((a / 2 ^ n : Nat) : Int)) := by
 have : vU (Op.shift .shr .u64 (a : Int) .i64 (n : Int)) = some (.int .u64 (Int.fdiv a (2 ^ (min (n : Int).toNat 64)))) := by
  unfold Op.shift
  rw [if_neg (by omega)]; rfl
 rw [this, quE, Nat.min_eq_left (by omega)]
 have e : ((2 : Int) ^ n) = ((2 ^ n : Nat) : Int) := by simp
 rw [e, Int.fdiv_eq_ediv_of_nonneg _ (Int.natCast_nonneg _)]
 rfl
theorem qn4 {a : Nat} (ha : a < 18446744073709551616) : vU (Op.intBits .and .u64 (a : Int) 1) = some (.int .u64 ((a % 2 : Nat) : Int)) := by
 have : vU (Op.intBits .and .u64 (a : Int) 1) = some (.int .u64 (IntKind.wrap .u64 (BitVec.ofInt 64 (a : Int) &&& BitVec.ofInt 64 1).toNat)) := rfl
 rw [this]
 have ea : (BitVec.ofInt 64 (a : Int)).toNat = a := by simp [BitVec.toNat_ofInt]; omega
 have eb : (BitVec.ofInt 64 (1 : Int)).toNat = 1 := by decide
 rw [BitVec.toNat_and, ea, eb, Nat.and_one_is_mod, qoa (by omega)]
def qbv (p : Nat → Bool) (r : List AV) : Prop := ∃ (lo hi : Nat) (l : List AV), r = .int .u64 lo :: .int .u64 hi :: l ∧ lo < 18446744073709551616 ∧ hi < 18446744073709551616 ∧ (∀ n, n < 64 → lo.testBit n = p n) ∧ ∀ n, n < 64 → hi.testBit n = p (n + 64)
theorem qpI {r cs : List AV} {o k : Nat} (hc : cs.length = 4) (h : o + 4 ≤ r.length) (hk : k < o ∨ o + 4 ≤ k) : (quD (quD (r.take o) cs) (r.drop (o + 4)))[k]? = r[k]? := by
 show ((r.take o ++ cs) ++ r.drop (o + 4))[k]? = r[k]?
 have hl : (r.take o).length = o := by simp; omega
 rcases hk with hk | hk
 ·rw [qup (by simp; omega), qup (by omega), List.getElem?_take, if_pos hk]
 ·rw [qut (by simp; omega), List.getElem?_drop]
  congr 1
  simp [hc]
  omega
theorem qpH {r cs : List AV} {o : Nat} (hc : cs.length = 4) (h : o + 4 ≤ r.length) : (quD (quD (r.take o) cs) (r.drop (o + 4))).length = r.length := by
 show ((r.take o ++ cs) ++ r.drop (o + 4)).length = r.length
 simp [hc]; omega
theorem qoe {r cs : List AV} {o : Nat} (hc : cs.length = 4) (h : o + 4 ≤ r.length) : ((quD (quD (r.take o) cs) (r.drop (o + 4))).drop o).take 4 = cs := by
 show (((r.take o ++ cs) ++ r.drop (o + 4)).drop o).take 4 = cs
 have hl : (r.take o).length = o := by simp; omega
 rw [List.append_assoc, List.drop_append_of_le_length (by omega), List.drop_of_length_le (by omega), List.nil_append, List.take_append_of_le_length (by omega), quu (by omega)]
theorem qmM {r cs : List AV} {o o' : Nat} (hc : cs.length = 4) (h : o + 4 ≤ r.length) (hd : o' + 4 ≤ o ∨ o + 4 ≤ o') : ((quD (quD (r.take o) cs) (r.drop (o + 4))).drop o').take 4 = (r.drop o').take 4 := by
 apply List.ext_getElem?
 intro j
 by_cases hj : j < 4
 ·rw [List.getElem?_take, List.getElem?_take, if_pos hj, if_pos hj, List.getElem?_drop, List.getElem?_drop, qpI hc h (by omega)]
 ·rw [List.getElem?_take, List.getElem?_take, if_neg hj, if_neg hj]
def mayB : Int → List (Int × Tm) → Bool
 | _, [] => true
 | last, p :: l => decide (last < p.1) && (decide (p.1 ≤ 99) && (decide (p.2.chk = 0) && mayB p.1 l))
def zA (n : Int) : List (Int × Tm) → Option Tm
 | [] => none
 | p :: l => if p.1 = n then some p.2 else zA n l
structure BRow (m : List (Int × Tm)) (r : List AV) : Prop where
 len : r.length = 402
 set : qbv (fun i => (zA i m).isSome) r
 cells : ∀ i : Nat, i < 100 → ∀ t, zA i m = some t → (r.drop (2 + i * 4)).take 4 = t.cells
 free : qt 0 r = true
theorem qdQ (n : Int) (p : Int × Tm) : ∀ m : List (Int × Tm), zA n (m ++ [p]) = match zA n m with | some t => some t | none => if p.1 = n then some p.2 else none
 | [] => by simp [zA]
 | q :: m => by
  rw [List.cons_append, zA, zA]
  by_cases h : q.1 = n
  ·rw [if_pos h, if_pos h]
  ·rw [if_neg h, if_neg h]; exact qdQ n p m
theorem BRow.add {m : List (Int × Tm)} {r r' : List AV} {n : Nat} {t : Tm} (h : BRow m r) (hn : n < 100) (hnew : zA n m = none)
  (h1 : qbv (fun i => (fun i : Nat => (zA i m).isSome) i || decide (i = n)) r') (h2 : r'.drop 2 = r.drop 2) (h3 : r'.length = r.length) (h4 : qt 0 r = true → qt 0 r' = true) :
  BRow (m ++ [((n : Int), t)]) (quD (quD (r'.take (2 + n * 4)) t.cells) (r'.drop (2 + n * 4 + 4))) := by
 have hl : r'.length = 402 := by rw [h3, h.len]
 have hc : t.cells.length = 4 := qN t
 have ho : 2 + n * 4 + 4 ≤ r'.length := by omega
 have hd : ∀ j, (r'.drop (2 + j)) = r.drop (2 + j) := by
  intro j
  rw [← List.drop_drop, ← List.drop_drop, h2]
 refine ⟨by rw [qpH hc ho, hl], ?_, fun i hi t' ht' => ?_, ?_⟩
 ·obtain ⟨lo, hi, l, rfl, a1, a2, a3, a4⟩ := h1
  obtain ⟨o, ho'⟩ : ∃ o, 2 + n * 4 = o + 2 := ⟨n * 4, by omega⟩
  have lk : ∀ i : Nat, (zA i (m ++ [((n : Int), t)])).isSome = ((zA i m).isSome || decide (i = n)) := by
   intro i
   rw [qdQ]
   cases hx : zA (i : Int) m with
   | some x => rfl
   | none =>
    by_cases hi : i = n
    ·subst hi; simp
    ·have : ¬ ((n : Int) = (i : Int)) := by omega
     simp [this, hi]
  refine ⟨lo, hi, (l.take o ++ t.cells) ++ l.drop (o + 4), ?_, a1, a2, fun i hi => ?_, fun i hi => ?_⟩
  ·rw [ho']; rfl
  ·exact (a3 i hi).trans (lk i).symm
  ·exact (a4 i hi).trans (lk (i + 64)).symm
 ·rw [qdQ] at ht'
  by_cases hin : i = n
  ·subst hin
   rw [hnew] at ht'
   simp at ht'
   subst ht'
   exact qoe hc ho
  ·cases hx : zA (i : Int) m with
   | none =>
    rw [hx] at ht'
    have : ¬ ((n : Int) = (i : Int)) := by omega
    simp [this] at ht'
   | some x =>
    rw [hx] at ht'
    cases ht'
    rw [qmM hc ho (by omega), hd]
    exact h.cells i hi _ hx
 ·show qt 0 ((r'.take (2 + n * 4) ++ t.cells) ++ r'.drop (2 + n * 4 + 4)) = true
  have hf := h4 h.free
  exact qba (qba (qeO hf) (qiI t)) (qeP hf)
mutual
/-- is a term an expression over some variables? -/
def isG (V : List Int) : Tm → Bool
  | .mk k n s l =>
    if k = 2 then (match varT (.mk k n s l) with | none => true | some x => decide (x ∈ V))
    else if k = 9 then allG V l
    else if k = 7 then
      (match l with
       | [] => false
       | (.mk k1 _ s1 l1) :: rest =>
         if k1 = 7 then decide (rest.length = 0) && allG V l1
         else if k1 = 2 then (if s1 = [99, 111, 110, 115, 116] then decide (rest.length = 1) else decide ((rest.length : Int) ∈ opsG s1) && allG V rest)
         else false)
    else true
def allG (V : List Int) : List Tm → Bool
  | [] => true
  | t :: l => isG V t && allG V l
end
theorem qrv {V : List Int} {t : Tm} (h : t.kind = 2) : isG V t = (match varT t with | none => true | some x => decide (x ∈ V)) := by
 obtain ⟨k, n, s, l⟩ := t
 simp only [Tm.kind_mk] at h
 rw [isG.eq_def]; simp only []; rw [if_pos h]
theorem qlS {V : List Int} {t : Tm} (h : t.kind = 9) : isG V t = allG V t.subs := by
 obtain ⟨k, n, s, l⟩ := t
 simp only [Tm.kind_mk] at h
 subst h
 rw [isG.eq_def]; simp only []; rw [if_neg (by omega), if_pos trivial]; rfl
theorem qnX {V : List Int} {t : Tm} (h : t.kind = 7) (hl : t.subs = []) : isG V t = false := by
 obtain ⟨k, n, s, l⟩ := t
 simp only [Tm.kind_mk, Tm.subs_mk] at h hl
 subst h hl
 rw [isG.eq_def]; simp only []; rw [if_neg (by omega), if_neg (by omega), if_pos trivial]
theorem qnW {V : List Int} {t f : Tm} {r : List Tm} (h : t.kind = 7) (hl : t.subs = f :: r) : isG V t =
  if f.kind = 7 then decide (r.length = 0) && allG V f.subs
  else if f.kind = 2 then (if f.str = [99, 111, 110, 115, 116] then decide (r.length = 1) else decide ((r.length : Int) ∈ opsG f.str) && allG V r) else false := by
 obtain ⟨k, n, s, l⟩ := t
 obtain ⟨k1, n1, s1, l1⟩ := f
 simp only [Tm.kind_mk, Tm.subs_mk] at h hl
 subst h hl
 rw [isG.eq_def]; simp only []; rw [if_neg (by omega), if_neg (by omega), if_pos trivial]; rfl
theorem qqh {V : List Int} {t : Tm} (h2 : t.kind ≠ 2) (h9 : t.kind ≠ 9) (h7 : t.kind ≠ 7) : isG V t = true := by
 obtain ⟨k, n, s, l⟩ := t
 simp only [Tm.kind_mk] at h2 h9 h7
 rw [isG.eq_def]; simp only []; rw [if_neg h2, if_neg h9, if_neg h7]
theorem qef {V : List Int} : ∀ {l : List Tm}, allG V l = false ↔ ∃ x ∈ l, isG V x = false
 | [] => by simp [allG]
 | t :: l => by
  rw [allG, Bool.and_eq_false_iff, qef (l := l)]
  simp
def yG (V : List Int) (t : Tm) : Int := if t.chk = 0 then (if isG V t then 0 else 10) else 2
end Go.Av
end
section
namespace Go.Proofs.YtkohdkldmpiiiaaGreat
open Go.Av
abbrev zT : Tm := .mk 0 0 [] []
def InsA.row (x : InsA) : List AV := .int .i64 x.o :: .int .i64 x.a :: .int .i64 x.b :: x.t.cells
def qe (l : List InsA) : List (List AV) := l.map InsA.row
@[simp] theorem rowsN_nil : qe [] = [] := rfl
@[simp] theorem q6 (l : List InsA) : (qe l).length = l.length := by simp [qe]
theorem qjH (a b : List InsA) : qe (a ++ b) = qe a ++ qe b := by simp [qe]
theorem InsA.row_len (x : InsA) : x.row.length = 7 := by rw [InsA.row, Tm.cells_eq]; rfl
theorem qlj (l : List InsA) : vR 7 (qe l) = true := by
 induction l with
 | nil => rfl
 | cons x l ih => show vR 7 (x.row :: qe l) = true; rw [vR, x.row_len]; rfl
theorem qdN {l : List InsA} {i : Nat} {x : InsA} (h : l[i]? = some x) : qul (qe l) i = some x.row := by
 rw [qK, qe, List.getElem?_map, h]; rfl
def andS : List UInt8 := [97, 110, 100, 97, 108, 115, 111]
def orS : List UInt8 := [111, 114, 101, 108, 115, 101]
def qfn : List UInt8 := [99, 111, 110, 115, 116]
def qdR (o : Int) (at_ : Nat) (x : List InsA) (y : List InsA) : List InsA :=
 x ++ ⟨o, 0, ((at_ + x.length + 1 + y.length + 1 : Nat) : Int), zT⟩ :: (y ++ [⟨17, 0, 0, zT⟩])
mutual
/-- the code of an expression, from a place on -/
def qC : Tm → Nat → List InsA
  | .mk k n s l, at_ =>
    if k = 2 then (match varT (.mk k n s l) with
      | some x => [⟨8, x, 0, zT⟩]
      | none => if s = [36, 95] then [⟨9, 0, 0, zT⟩] else if s = [36, 36] then [⟨10, 0, 0, zT⟩] else [⟨7, 0, 0, .mk k n s l⟩])
    else if k = 9 then xE l at_ ++ [⟨12, 0, 0, zT⟩]
    else if k = 7 then
      (match l with
       | [] => []
       | (.mk k1 n1 s1 l1) :: rest =>
         if k1 = 7 then xE l1 at_ ++ [⟨11, (l1.length : Int), 0, zT⟩]
         else if s1 = qfn then qcq rest
         else if s1 = andS then zd 15 rest at_
         else if s1 = orS then zd 16 rest at_
         else xE rest at_ ++ [⟨13, (rest.length : Int), 0, .mk k1 n1 s1 l1⟩])
    else [⟨7, 0, 0, .mk k n s l⟩]
def xE : List Tm → Nat → List InsA
  | [], _ => []
  | t :: l, at_ => qC t at_ ++ xE l (at_ + (qC t at_).length)
def zd : Int → List Tm → Nat → List InsA
  | _, [], _ => []
  | o, a :: l, at_ => qkt o l at_ (qC a at_)
def qkt : Int → List Tm → Nat → List InsA → List InsA
  | _, [], _, _ => []
  | o, b :: _, at_, x => qdR o at_ x (qC b (at_ + x.length + 1))
def qcq : List Tm → List InsA
  | [] => []
  | c :: _ => [⟨7, 0, 0, c⟩]
end
theorem qd9 {t : Tm} (h : t.kind = 2) (at_ : Nat) : qC t at_ = (match varT t with
   | some x => [⟨8, x, 0, zT⟩]
   | none => if t.str = [36, 95] then [⟨9, 0, 0, zT⟩] else if t.str = [36, 36] then [⟨10, 0, 0, zT⟩] else [⟨7, 0, 0, t⟩]) := by
 obtain ⟨k, n, s, l⟩ := t
 simp only [Tm.kind_mk] at h
 subst h
 rw [qC.eq_def]; simp only []; rw [if_pos trivial]; rfl
theorem qd8 {t : Tm} (h : t.kind = 9) (at_ : Nat) : qC t at_ = xE t.subs at_ ++ [⟨12, 0, 0, zT⟩] := by
 obtain ⟨k, n, s, l⟩ := t
 simp only [Tm.kind_mk] at h
 subst h
 rw [qC.eq_def]; simp only []; rw [if_neg (by omega), if_pos trivial]; rfl
theorem qfh {t f : Tm} {r : List Tm} (h : t.kind = 7) (hl : t.subs = f :: r) (at_ : Nat) : qC t at_ =
  if f.kind = 7 then xE f.subs at_ ++ [⟨11, (f.subs.length : Int), 0, zT⟩]
  else if f.str = qfn then qcq r
  else if f.str = andS then zd 15 r at_
  else if f.str = orS then zd 16 r at_
  else xE r at_ ++ [⟨13, (r.length : Int), 0, f⟩] := by
 obtain ⟨k, n, s, l⟩ := t
 obtain ⟨k1, n1, s1, l1⟩ := f
 simp only [Tm.kind_mk, Tm.subs_mk] at h hl
 subst h hl
 rw [qC.eq_def]; simp only []; rw [if_neg (by omega), if_neg (by omega), if_pos trivial]; rfl
theorem qdc {t : Tm} (h2 : t.kind ≠ 2) (h9 : t.kind ≠ 9) (h7 : t.kind ≠ 7) (at_ : Nat) : qC t at_ = [⟨7, 0, 0, t⟩] := by
 obtain ⟨k, n, s, l⟩ := t
 simp only [Tm.kind_mk] at h2 h9 h7
 rw [qC.eq_def]; simp only []; rw [if_neg h2, if_neg h9, if_neg h7]
theorem qcD (at_ : Nat) : xE [] at_ = [] := by rw [xE]
theorem qbH (t : Tm) (l : List Tm) (at_ : Nat) : xE (t :: l) at_ = qC t at_ ++ xE l (at_ + (qC t at_).length) := by rw [xE]
theorem qe2 (o : Int) (a b : Tm) (l : List Tm) (at_ : Nat) : zd o (a :: b :: l) at_ = qdR o at_ (qC a at_) (qC b (at_ + (qC a at_).length + 1)) := by rw [zd, qkt]
theorem qjN {l : List Tm} (h : ∀ t ∈ l, ∀ i, (qC t i).length ≤ t.w) : ∀ at_, (xE l at_).length ≤ wL l := by
 induction l with
 | nil => intro i; rw [qcD]; simp
 | cons t l ih =>
  intro i
  rw [qbH, qus, qv]
  have h1 := h t (by simp) i
  have h2 := ih (fun x hx => h x (by simp [hx])) (i + (qC t i).length)
  omega
theorem qqr : ∀ (n : Nat) (t : Tm), t.w ≤ n → ∀ at_, (qC t at_).length ≤ t.w := by
 intro n
 induction n with
 | zero => intro t h; have := t.w_eq; omega
 | succ n ih =>
  intro t h i
  have hw := t.w_eq
  have hm : ∀ l : List Tm, wL l ≤ n → ∀ j, (xE l j).length ≤ wL l := fun l hl j => qjN (fun x hx j => ih x (by have := yv hx; omega) j) j
  by_cases h2 : t.kind = 2
  ·rw [qd9 h2]
   split
   ·simp; omega
   ·split
    ·simp; omega
    ·split <;> · simp; omega
  by_cases h9 : t.kind = 9
  ·rw [qd8 h9, qus]
   have := hm t.subs (by omega) i
   simp; omega
  by_cases h7 : t.kind = 7
  ·cases hl : t.subs with
   | nil =>
    obtain ⟨k, n', s, l⟩ := t
    simp only [Tm.kind_mk, Tm.subs_mk] at h7 hl
    subst h7 hl
    rw [qC.eq_def]; simp
   | cons f r =>
    rw [hl, qv] at hw
    have hf := f.w_eq
    rw [qfh h7 hl]
    split
    ·rw [qus]
     have := hm f.subs (by omega) i
     simp; omega
    ·split
     ·cases r with
      | nil => rw [qcq]; simp
      | cons c r => rw [qcq]; simp; omega
     ·have hz : ∀ o, (zd o r i).length ≤ t.w := by
       intro o
       match r with
       | [] => rw [zd]; simp
       | [a] => rw [zd, qkt]; simp
       | a :: b :: r =>
        rw [qe2, qdR]
        rw [qv, qv] at hw
        have ha := ih a (by omega) i
        have hb := ih b (by omega) (i + (qC a i).length + 1)
        simp; omega
      split
      ·exact hz _
      ·split
       ·exact hz _
       ·rw [qus]
        have := hm r (by omega) i
        simp; omega
  rw [qdc h2 h9 h7]
  simp; omega
theorem yp (t : Tm) (at_ : Nat) : (qC t at_).length ≤ t.w := qqr t.w t (qum _) at_
theorem qgL (l : List Tm) (at_ : Nat) : (xE l at_).length ≤ wL l := qjN (fun t _ => yp t) at_
noncomputable def qrP : Den := evC cfg (EV cfg) 118 none 2 (sub (ql Tryz.f118) [1, 0, 0])
noncomputable def qrU : Ex × List AV × AH → Option (AV × AH) := kAft (Cfg.keepOut cfg 118 1) (kRun cfg (EV cfg) (kfN cfg 6) 118 none 2 (qfM cfg 1 (Cfg.lift cfg 118 0) Tryz.f118.results.toList) ([.block 0]))
noncomputable def qmx : List AV × AH → Option (AV × AH) := fun p => kOpt (LOOP 2 (some [0, 6, 7, 8]) ([]) qrP p) qrU
noncomputable abbrev qk1 (l : Rz) (v8 : Int) (nc0_0 : Nat) (h1 : Rz) : Option (AV × AH) := qmx  (((fx 16 [(0, .ptr 0 0 0), (6, .sl l), (7, .int .i64 (l.length : Int)), (8, .int .i64 v8)]) : List AV), ([.rows false 1 [[.ms 1 0 nc0_0]], .rows true 7 h1] : AH))
noncomputable abbrev qeE (l : Rz) (v8 : Int) (nc0_0 : Nat) (h2 : Rz) : Option (AV × AH) := qmx  (((fx 16 [(0, .ptr 0 0 0), (6, .sl l), (7, .int .i64 (l.length : Int)), (8, .int .i64 v8)]) : List AV), ([.rows false 1 [[.ms 2 0 nc0_0]], .dead, .rows true 7 h2] : AH))
theorem qqE (ins : Rz) (o a b k n : Int) (w : Bz) (l : Rz) {P : AV × AH → Prop} (h : Gets (bif quw (0 + qug ins) (qug ins) && vD (qug ins + 1) 80 then some (.int .i64 (IntKind.wrap .i64 ((↑ (qug ins + 1) : Int) - 1)), [.rows false 1 [[.ms 1 0 (qug ins + 1)]], .rows true 7 (quD (qux (qug ins) ins) [[AV.int .i64 o, .int .i64 a, .int .i64 b, .int .i64 k, .int .i64 n, .str w, .sl l]])]) else none) P) : Gets (EVj (EV cfg) 108 1 [.ptr 0 0 0, .agg [.int .i64 o, .int .i64 a, .int .i64 b, .int .i64 k, .int .i64 n, .str w, .sl l]] ([ABlk.rows false (1 : Nat) [[AV.ms (1 : Nat) (0 : Nat) (qug ins)]], ABlk.rows true (7 : Nat) ins] : AH)) P :=
  gE (fun _ => funJ rfl rfl Tryz.func108 rfl) (by kernel_rfl) h
theorem qpb (ins l : Rz) {P : AV × AH → Prop} (h : Gets (qk1 l 0 (qug ins) ins) P) : Gets (EVj (EV cfg) 118 1 [.ptr 0 0 0, .sl l] ([ABlk.rows false (1 : Nat) [[AV.ms (1 : Nat) (0 : Nat) (qug ins)]], ABlk.rows true (7 : Nat) ins] : AH)) P :=
  gE (fun _ => funJ rfl rfl Tryz.func118 rfl) (by kernel_rfl) h
theorem qpc (ins : Rz) (o : Int) (l : Rz) {P : AV × AH → Prop} (h : Gets (bif qp 0 (l.length : Int) then kOpt (qul l 0) fun row => bif qun (qug row) 4 then bif quw 4 (qug row) then kTmC (qux 4 row) fun n n_1 s rows => (kOpt (EVj (EV cfg) 57 1 [.ptr 0 0 0, .agg [.int .i64 n, .int .i64 n_1, .str s, .sl rows]] [.rows false 1 [[.ms 1 0 (qug ins)]], .rows true 7 ins]) fun q => qq q.2 fun b bs => qr b fun d' n rs => bif beqB false d' && qun n 1 then qS rs fun row rest => vg rest (qq bs fun b bs => qr b fun d' n rs => bif beqB true d' && qun n 7 then vw bs (qc row fun c cs => kMsE c fun id off len => bif qun id 1 && (qun off 0 && qun len (qug rs)) then kNil cs (kOpt (EVj (EV cfg) 108 1 [.ptr 0 0 0, AV.agg [.int .i64 o, .int .i64 0, .int .i64 0, .int .i64 0, .int .i64 0, .str [], .sl []]] [.rows false 1 [[.ms 1 0 (qug rs)]], .rows true 7 rs]) fun q => qq q.2 fun b bs => qr b fun d' n rs => bif beqB false d' && qun n 1 then qS rs fun row rest => vg rest (qq bs fun b bs => qr b fun d' n rs => bif beqB true d' && qun n 7 then vw bs (qc row fun c cs => kMsE c fun id off len => bif qun id 1 && (qun off 0 && qun len (qug rs)) then kNil cs (kInt .i64 q.1 fun n => bif qp 1 (l.length : Int) then kOpt (qul l 1) fun row => bif qun (qug row) 4 then bif quw 4 (qug row) then kTmC (qux 4 row) fun n_2 n_3 s rows => (kOpt (EVj (EV cfg) 57 1 [.ptr 0 0 0, .agg [.int .i64 n_2, .int .i64 n_3, .str s, .sl rows]] [.rows false 1 [[.ms 1 0 (qug rs)]], .rows true 7 rs]) fun q => qq q.2 fun b bs => qr b fun d' n_4 rs => bif beqB false d' && qun n_4 1 then qS rs fun row rest => vg rest (qq bs fun b bs => qr b fun d' n_5 rs => bif beqB true d' && qun n_5 7 then vw bs (qc row fun c cs => kMsE c fun id off len => bif qun id 1 && (qun off 0 && qun len (qug rs)) then kNil cs (kOpt (EVj (EV cfg) 108 1 [.ptr 0 0 0, AV.agg [.int .i64 (17 : Int), .int .i64 0, .int .i64 0, .int .i64 0, .int .i64 0, .str [], .sl []]] [.rows false 1 [[.ms 1 0 (qug rs)]], .rows true 7 rs]) fun q => qq q.2 fun b bs => qr b fun d' n_6 rs => bif beqB false d' && qun n_6 1 then qS rs fun row rest => vg rest (qq bs fun b bs => qr b fun d' n_7 rs => bif beqB true d' && qun n_7 7 then vw bs (qc row fun c cs => kMsE c fun id off len => bif qun id 1 && (qun off 0 && qun len (qug rs)) then kNil cs (kInt .i64 q.1 fun n_8 => bif qj 0 n && qp n (rs.length : Int) then kOpt (qul rs (0 + n.toNat)) fun row => bif quw 3 (qug row) then some (AV.tup [], [.rows false 1 [[.ms 1 0 (qug rs)]], .rows true 7 (List.set rs (0 + n.toNat) (quD (quD (qux 2 row) [AV.int .i64 (rs.length : Int)]) (quN 3 row)))]) else none else none) else none) else none) else none) else none) else none) else none) else none else none else none) else none) else none) else none) else none) else none) else none) else none else none else none) P) : Gets (EVj (EV cfg) 119 1 [.ptr 0 0 0, .int .i64 o, .sl l] ([ABlk.rows false (1 : Nat) [[AV.ms (1 : Nat) (0 : Nat) (qug ins)]], ABlk.rows true (7 : Nat) ins] : AH)) P :=
  gE (fun _ => funJ rfl rfl Tryz.func119 rfl) (by kernel_rfl) h
noncomputable abbrev za6 (n n_1 : Int) (s : Bz) (rows : Rz) (nc0_0 : Nat) (h1 l : Rz) (v8 : Int) : Option (AV × AH) := (kOpt (EVj (EV cfg) 57 1 [.ptr 0 0 0, .agg [.int .i64 n, .int .i64 n_1, .str s, .sl rows]] [.rows false 1 [[.ms 1 0 nc0_0]], .rows true 7 h1]) fun q => qq q.2 fun b bs => qr b fun d' n rs => bif beqB false d' && qun n 1 then qS rs fun row rest => vg rest (qq bs fun b bs => qr b fun d' n rs => bif beqB true d' && qun n 7 then vw bs (qc row fun c cs => kMsE c fun id off len => bif qun id 1 && (qun off 0 && qun len (qug rs)) then kNil cs (qeE l (IntKind.wrap .i64 (v8 + 1)) (qug rs) rs) else none) else none) else none)
noncomputable abbrev za5 (row : List AV) (nc0_0 : Nat) (h1 l : Rz) (v8 : Int) : Option (AV × AH) := kTmC (qux 4 row) fun n n_1 s rows => za6 n n_1 s rows nc0_0 h1 l v8
noncomputable abbrev za4 (row : List AV) (nc0_0 : Nat) (h1 l : Rz) (v8 : Int) : Option (AV × AH) := bif quw 4 (qug row) then za5 row nc0_0 h1 l v8 else none
noncomputable abbrev za3 (row : List AV) (nc0_0 : Nat) (h1 l : Rz) (v8 : Int) : Option (AV × AH) := bif qun (qug row) 4 then za4 row nc0_0 h1 l v8 else none
noncomputable abbrev za2 (l : Rz) (v8 : Int) (nc0_0 : Nat) (h1 : Rz) : Option (AV × AH) := kOpt (qul l (v8.toNat)) fun row => za3 row nc0_0 h1 l v8
noncomputable abbrev za1 (v8 : Int) (l : Rz) (nc0_0 : Nat) (h1 : Rz) : Option (AV × AH) := bif qj 0 v8 && qp v8 (l.length : Int) then za2 l v8 nc0_0 h1 else none
noncomputable abbrev za0 (v8 : Int) (l : Rz) (nc0_0 : Nat) (h1 : Rz) : Option (AV × AH) := bif decide (v8 < (l.length : Int)) then za1 v8 l nc0_0 h1 else some (AV.tup [], [.rows false 1 [[.ms 1 0 nc0_0]], .rows true 7 h1])
theorem qj5 (l : Rz) (v8 : Int) (nc0_0 : Nat) (h1 : Rz) {P : AV × AH → Prop} (h : Gets (za0 v8 l nc0_0 h1) P) : Gets (qk1 l v8 nc0_0 h1) P :=
  gE (fun _ => qB (cfg := cfg) (f := 118) (rd := none) (bs := 2)) (by kernel_rfl) h
theorem qdl (l : Rz) (v8 : Int) (nc0_0 : Nat) (h2 : Rz) {P : AV × AH → Prop} (h : Gets (za0 v8 l nc0_0 h2) P) : Gets (qeE l v8 nc0_0 h2) P :=
  gE (fun _ => qB (cfg := cfg) (f := 118) (rd := none) (bs := 2)) (by kernel_rfl) h
noncomputable abbrev zb6 (rs : Rz) : Option (AV × AH) := some (AV.tup [], [.rows false 1 [[.ms 1 0 (qug rs)]], .rows true 7 rs])
noncomputable abbrev zb5 (q : AV × AH) (rs : Rz) : Option (AV × AH) := kInt .i64 q.1 fun n => zb6 rs
noncomputable abbrev zb4 (rest : Rz) (bs : AH) (row : List AV) (q : AV × AH) : Option (AV × AH) := vg rest (qq bs fun b bs => qr b fun d' n rs => bif beqB true d' && qun n 7 then vw bs (qc row fun c cs => kMsE c fun id off len => bif qun id 1 && (qun off 0 && qun len (qug rs)) then kNil cs (zb5 q rs) else none) else none)
noncomputable abbrev zb3 (rs : Rz) (bs : AH) (q : AV × AH) : Option (AV × AH) := qS rs fun row rest => zb4 rest bs row q
noncomputable abbrev zb2 (d' : Bool) (n : Nat) (rs : Rz) (bs : AH) (q : AV × AH) : Option (AV × AH) := bif beqB false d' && qun n 1 then zb3 rs bs q else none
noncomputable abbrev zb1 (b : ABlk) (bs : AH) (q : AV × AH) : Option (AV × AH) := qr b fun d' n rs => zb2 d' n rs bs q
noncomputable abbrev zb0 (q : AV × AH) : Option (AV × AH) := qq q.2 fun b bs => zb1 b bs q
noncomputable abbrev zb7 (k n : Int) (s : Bz) (l ins : Rz) : Option (AV × AH) := kOpt (EVj (EV cfg) 108 1 [.ptr 0 0 0, .agg [.int .i64 7, .int .i64 0, .int .i64 0, .int .i64 k, .int .i64 n, .str s, .sl l]] [.rows false 1 [[.ms 1 0 (qug ins)]], .rows true 7 ins]) fun q => zb0 q
theorem qpf (ins : Rz) (k n : Int) (s : Bz) (l : Rz) {P : AV × AH → Prop} (h : Gets (bif k == 2 then kOpt (EVs (EV cfg) 117 [.agg [.int .i64 k, .int .i64 n, .str s, .sl l]]) fun v => kTup v fun cs => qc cs fun c cs => kInt .i64 c fun n_1 => qc cs fun c cs => ve c fun b => kNil cs (bif b then kOpt (EVj (EV cfg) 108 1 [.ptr 0 0 0, .agg [.int .i64 8, .int .i64 n_1, .int .i64 0, .int .i64 0, .int .i64 0, .str [], .sl []]] [.rows false 1 [[.ms 1 0 (qug ins)]], .rows true 7 ins]) fun q => zb0 q else bif s == [(36 : UInt8), (95 : UInt8)] then kOpt (EVj (EV cfg) 108 1 [.ptr 0 0 0, AV.agg [.int .i64 9, .int .i64 0, .int .i64 0, .int .i64 0, .int .i64 0, .str [], .sl []]] [.rows false 1 [[.ms 1 0 (qug ins)]], .rows true 7 ins]) fun q => zb0 q else bif s == [(36 : UInt8), (36 : UInt8)] then kOpt (EVj (EV cfg) 108 1 [.ptr 0 0 0, AV.agg [.int .i64 10, .int .i64 0, .int .i64 0, .int .i64 0, .int .i64 0, .str [], .sl []]] [.rows false 1 [[.ms 1 0 (qug ins)]], .rows true 7 ins]) fun q => zb0 q else zb7 k n s l ins) else bif k == 9 then kOpt (EVj (EV cfg) 118 1 [.ptr 0 0 0, .sl l] [.rows false 1 [[.ms 1 0 (qug ins)]], .rows true 7 ins]) fun q => qq q.2 fun b bs => qr b fun d' n rs => bif beqB false d' && qun n 1 then qS rs fun row rest => vg rest (qq bs fun b bs => qr b fun d' n rs => bif beqB true d' && qun n 7 then vw bs (qc row fun c cs => kMsE c fun id off len => bif qun id 1 && (qun off 0 && qun len (qug rs)) then kNil cs (kOpt (EVj (EV cfg) 108 1 [.ptr 0 0 0, AV.agg [.int .i64 12, .int .i64 0, .int .i64 0, .int .i64 0, .int .i64 0, .str [], .sl []]] [.rows false 1 [[.ms 1 0 (qug rs)]], .rows true 7 rs]) fun q => zb0 q) else none) else none) else none else bif k == 7 then bif qp 0 (l.length : Int) then kOpt (qul l 0) fun row => bif qun (qug row) 4 then bif quw 4 (qug row) then kTmC (qux 4 row) fun n n_1 s rows => (bif qj 1 (l.length : Int) then bif vR 4 l then bif n == 7 then kOpt (EVj (EV cfg) 118 1 [.ptr 0 0 0, .sl rows] [.rows false 1 [[.ms 1 0 (qug ins)]], .rows true 7 ins]) fun q => qq q.2 fun b bs => qr b fun d' n rs => bif beqB false d' && qun n 1 then qS rs fun row rest => vg rest (qq bs fun b bs => qr b fun d' n rs => bif beqB true d' && qun n 7 then vw bs (qc row fun c cs => kMsE c fun id off len => bif qun id 1 && (qun off 0 && qun len (qug rs)) then kNil cs (kOpt (EVj (EV cfg) 108 1 [.ptr 0 0 0, AV.agg [.int .i64 11, .int .i64 (rows.length : Int), .int .i64 0, .int .i64 0, .int .i64 0, .str [], .sl []]] [.rows false 1 [[.ms 1 0 (qug rs)]], .rows true 7 rs]) fun q => zb0 q) else none) else none) else none else bif s == [(99 : UInt8), (111 : UInt8), (110 : UInt8), (115 : UInt8), (116 : UInt8)] then bif qp 0 (↑ (qug (qux (qug l - 1) (quN 1 l))) : Int) then kOpt (qul (qux (qug l - 1) (quN 1 l)) 0) fun row => bif qun (qug row) 4 then bif quw 4 (qug row) then kTmC (qux 4 row) fun n n_2 s rows => (kOpt (EVj (EV cfg) 108 1 [.ptr 0 0 0, AV.agg [.int .i64 7, .int .i64 0, .int .i64 0, .int .i64 n, .int .i64 n_2, .str s, .sl rows]] [.rows false 1 [[.ms 1 0 (qug ins)]], .rows true 7 ins]) fun q => qq q.2 fun b bs => qr b fun d' n rs => bif beqB false d' && qun n 1 then qS rs fun row rest => vg rest (qq bs fun b bs => qr b fun d' n rs => bif beqB true d' && qun n 7 then vw bs (qc row fun c cs => kMsE c fun id off len => bif qun id 1 && (qun off 0 && qun len (qug rs)) then kNil cs (zb5 q rs) else none) else none) else none) else none else none else none else bif s == [(97 : UInt8), (110 : UInt8), (100 : UInt8), (97 : UInt8), (108 : UInt8), (115 : UInt8), (111 : UInt8)] then kOpt (EVj (EV cfg) 119 1 [.ptr 0 0 0, .int .i64 15, .sl (qux (qug l - 1) (quN 1 l))] [.rows false 1 [[.ms 1 0 (qug ins)]], .rows true 7 ins]) fun q => qq q.2 fun b bs => qr b fun d' n rs => bif beqB false d' && qun n 1 then qS rs fun row rest => vg rest (qq bs fun b bs => qr b fun d' n rs => bif beqB true d' && qun n 7 then vw bs (qc row fun c cs => kMsE c fun id off len => bif qun id 1 && (qun off 0 && qun len (qug rs)) then kNil cs (zb6 rs) else none) else none) else none else bif s == [(111 : UInt8), (114 : UInt8), (101 : UInt8), (108 : UInt8), (115 : UInt8), (101 : UInt8)] then kOpt (EVj (EV cfg) 119 1 [.ptr 0 0 0, .int .i64 16, .sl (qux (qug l - 1) (quN 1 l))] [.rows false 1 [[.ms 1 0 (qug ins)]], .rows true 7 ins]) fun q => qq q.2 fun b bs => qr b fun d' n rs => bif beqB false d' && qun n 1 then qS rs fun row rest => vg rest (qq bs fun b bs => qr b fun d' n rs => bif beqB true d' && qun n 7 then vw bs (qc row fun c cs => kMsE c fun id off len => bif qun id 1 && (qun off 0 && qun len (qug rs)) then kNil cs (zb6 rs) else none) else none) else none else kOpt (EVj (EV cfg) 118 1 [.ptr 0 0 0, .sl (qux (qug l - 1) (quN 1 l))] [.rows false 1 [[.ms 1 0 (qug ins)]], .rows true 7 ins]) fun q => qq q.2 fun b bs => qr b fun d' n_2 rs => bif beqB false d' && qun n_2 1 then qS rs fun row rest => vg rest (qq bs fun b bs => qr b fun d' n_3 rs => bif beqB true d' && qun n_3 7 then vw bs (qc row fun c cs => kMsE c fun id off len => bif qun id 1 && (qun off 0 && qun len (qug rs)) then kNil cs (kOpt (EVj (EV cfg) 108 1 [.ptr 0 0 0, AV.agg [.int .i64 13, .int .i64 (↑ (qug (qux (qug l - 1) (quN 1 l))) : Int), .int .i64 0, .int .i64 n, .int .i64 n_1, .str s, .sl rows]] [.rows false 1 [[.ms 1 0 (qug rs)]], .rows true 7 rs]) fun q => zb0 q) else none) else none) else none else none else none) else none else none else none else zb7 k n s l ins) P) : Gets (EVj (EV cfg) 57 1 [.ptr 0 0 0, .agg [.int .i64 k, .int .i64 n, .str s, .sl l]] ([ABlk.rows false (1 : Nat) [[AV.ms (1 : Nat) (0 : Nat) (qug ins)]], ABlk.rows true (7 : Nat) ins] : AH)) P :=
  gE (fun _ => funJ rfl rfl Tryz.func57 rfl) (by kernel_rfl) h
noncomputable def qtp : Den := evC cfg (EV cfg) 129 none 0 (sub (ql Tryz.f129) [1, 1, 1, 0, 1, 0, 0])
noncomputable def qtL : Ex × List AV × AH → Option AV := kAft (Cfg.keepOut cfg 129 5) (kRun cfg (EV cfg) (kfN cfg 6) 129 none 0 (qaP cfg (Cfg.lift cfg 129 0) Tryz.f129.results.toList) ([.block 0, .seq (sub (ql Tryz.f129) [1, 1, 1, 1])]))
noncomputable def qtd : List AV × AH → Option AV := fun p => kOpt (LOOP 0 (some [4, 32, 33, 34]) ([]) qtp p) qtL
noncomputable abbrev qb4 (s : Bz) (v4 v34 : Int) (h0 : Rz) : Option (AV) := qtd  (((fx 52 [(4, .int .i64 v4), (32, .ms 0 0 (qug (qux (qug s - 1) (quN 1 s)))), (33, .int .i64 (↑(qug (qux (qug s - 1) (quN 1 s))) : Int)), (34, .int .i64 v34)]) : List AV), ([.rows true 1 h0] : AH))
noncomputable abbrev zc1 (s : Bz) : Option (AV) := qb4 s 0 0 (List.map (fun b => [.int .u8 (↑ (UInt8.toNat b) : Int)]) (qux (qug s - 1) (quN 1 s)))
noncomputable abbrev zc0 (s : Bz) : Option (AV) := bif qj 1 (s.length : Int) then zc1 s else none
theorem qj9 (s : Bz) {P : AV → Prop} (h : Gets (bif decide ((s.length : Int) < 2) then some (AV.tup [.int .i64 0, .bool false]) else bif decide ((s.length : Int) > 3) then some (AV.tup [.int .i64 0, .bool false]) else kOpt (qul s 0) fun b => bif (↑ (UInt8.toNat b) : Int) != 36 then some (AV.tup [.int .i64 0, .bool false]) else bif (s.length : Int) == 3 then kOpt (qul s 1) fun b => bif (↑ (UInt8.toNat b) : Int) == 48 then some (AV.tup [.int .i64 0, .bool false]) else zc0 s else zc0 s) P) : Gets (EVs (EV cfg) 129 [.str s]) P :=
  gE (fun _ => funS rfl rfl Tryz.func129 rfl) (by kernel_rfl) h
theorem qoz (kt nt : Int) (st : Bz) (lt : Rz) {P : AV → Prop} (h : Gets (kOpt (EVs (EV cfg) 93 [.agg [.int .i64 kt, .int .i64 nt, .str st, .sl lt]]) fun v => kInt .i64 v fun n => some (.bool (n == 0))) P) : Gets (EVs (EV cfg) 127 [.agg [.int .i64 kt, .int .i64 nt, .str st, .sl lt]]) P :=
  gE (fun _ => funS rfl rfl Tryz.func127 rfl) (by kernel_rfl) h
theorem qoy (kt nt : Int) (st : Bz) (lt : Rz) {P : AV → Prop} (h : Gets (bif kt != 2 then some (AV.tup [.int .i64 0, .bool false]) else kOpt (EVs (EV cfg) 127 [.agg [.int .i64 kt, .int .i64 nt, .str st, .sl lt]]) fun v => ve v fun b => bif ! b then some (AV.tup [.int .i64 0, .bool false]) else kOpt (EVs (EV cfg) 129 [.str st]) fun v => kTup v fun cs => qc cs fun c cs => kInt .i64 c fun n => qc cs fun c cs => ve c fun b => kNil cs (some (AV.tup [.int .i64 n, .bool b]))) P) : Gets (EVs (EV cfg) 117 [.agg [.int .i64 kt, .int .i64 nt, .str st, .sl lt]]) P :=
  gE (fun _ => funS rfl rfl Tryz.func117 rfl) (by kernel_rfl) h
noncomputable abbrev zc2 (v : AV) : Option (AV) := kInt .u64 v fun n => kOpt (vU (Op.intBits BinOp.and .u64 n 1)) fun v => kInt .u64 v fun n => some (.bool (n == 1))
theorem qok (n : Int) (r : List AV) {P : AV → Prop} (h : Gets (bif decide (n < 64) then kOpt (qul r 0) fun v => kInt .u64 v fun n_1 => kOpt (vU (Op.shift BinOp.shr .u64 n_1 .i64 n)) fun v => zc2 v else kOpt (qul r 1) fun v => kInt .u64 v fun n_1 => kOpt (vU (Op.shift BinOp.shr .u64 n_1 .i64 (IntKind.wrap .i64 (n - 64)))) fun v => zc2 v) P) : Gets (EVs (EV cfg) 217 [.cptr r 0, .int .i64 n]) P :=
  gE (fun _ => funS rfl rfl Tryz.func217 rfl) (by kernel_rfl) h
theorem qfZ (s : Bz) (v4 v34 : Int) (h0 : Rz) {P : AV → Prop} (h : Gets (bif decide (v34 < (↑ (qug (qux (qug s - 1) (quN 1 s))) : Int)) then bif qj 0 v34 && qp v34 (↑ (qug (qux (qug s - 1) (quN 1 s))) : Int) then kOpt (qul h0 (0 + v34.toNat)) fun row => kOpt (qul row 0) fun v => kInt .u8 v fun n => bif decide (n < 48) then some (AV.tup [.int .i64 0, .bool false]) else bif decide (n > 57) then some (AV.tup [.int .i64 0, .bool false]) else qb4 s (IntKind.wrap .i64 (IntKind.wrap .i64 (v4 * 10) + IntKind.wrap .i64 (IntKind.wrap .u8 (n - 48)))) (IntKind.wrap .i64 (v34 + 1)) h0 else none else some (AV.tup [.int .i64 v4, .bool true])) P) : Gets (qb4 s v4 v34 h0) P :=
  gE (fun _ => qB (cfg := cfg) (f := 129) (rd := none) (bs := 0)) (by kernel_rfl) h
noncomputable def qqU : Den := evC cfg (EV cfg) 205 none 5 (sub (ql Tryz.f205) [1, 0, 0])
noncomputable def qqZ : Ex × List AV × AH → Option AV := kAft (Cfg.keepOut cfg 205 (qg (sub (ql Tryz.f205) [1, 0, 0]))) (xu 0 (yb cfg (Cfg.lift cfg 205 0) (fun (v : AV) (H : AH) => (fun (r : AV × AH) => yh 0 4 (fx 17 [(2, AV.ptr 1 0 0), (3, AV.ptr 2 0 0)]) (xu 0 (kSeq (fun (fr : List AV) (H : AH) => yZ (Cfg.cut cfg 93 (qg (sub (ql Tryz.f93) [1, 1, 1]))) fr H fun (fr : List AV) (H : AH) => vB cfg (EV cfg) (kfN cfg 6) 93 none 0 (sub (ql Tryz.f93) [1, 1, 1]) fr H (qaP cfg (Cfg.lift cfg 93 0) (Array.toList (Func.results Tryz.f93)))) (qaP cfg (Cfg.lift cfg 93 0) (Array.toList (Func.results Tryz.f93))))) (Prod.snd r)) (v, H)) (Array.toList (Func.results (Prod.snd (205, Tryz.f205))))))
noncomputable def qtc : List AV × AH → Option AV := fun (p : List AV × AH) => kOpt (LOOP 5 (some [0, 3]) [(3, 4)] qqU p) qqZ
noncomputable def qto : Den := evC cfg (EV cfg) 180 none 10 (sub (ql Tryz.f180) [1, 0, 0])
noncomputable def qtK : Ex × List AV × AH → Option AV := kAft (Cfg.keepOut cfg 180 (qg (sub (ql Tryz.f180) [1, 0, 0]))) (xu 0 (yb cfg (Cfg.lift cfg 180 0) (fun (v : AV) (H : AH) => (fun (r : AV × AH) => yh 5 9 (fx 38 [(0, AV.yld 4), (3, AV.ptr 5 0 0)]) (xu 2 (xu 1 (kLp 5 (some [0, 3]) [(3, 4)] qqU qqZ))) (Prod.snd r)) (v, H)) (Array.toList (Func.results (Prod.snd (180, Tryz.f180))))))
noncomputable def qqN : List AV × AH → Option AV := fun (p : List AV × AH) => kOpt (LOOP 10 (some [0, 1, 3]) [] qto p) qtK
noncomputable abbrev qb3 (c0_0 c0_1 : Int) (c0_2 : Bz) (c0_3 : Rz) (c1_0 c2_0 c3_0 c3_1 : Int) (c3_2 : Bz) (c3_3 : Rz) (nc5_0 : Nat) (h6 : Rz) : Option (AV) := qtc  (((fx 38 [(0, .yld 4), (3, .ptr 5 0 0)]) : List AV), ([.rows false 4 [[.int .i64 c0_0, .int .i64 c0_1, .str c0_2, .sl c0_3]], .rows false 1 [[.int .i64 c1_0]], .rows false 1 [[.int .i64 c2_0]], .rows false 4 [[.int .i64 c3_0, .int .i64 c3_1, .str c3_2, .sl c3_3]], rngB Tryz.f93 93 [1, 1, 0, 1, 0] (fx 17 [(2, .ptr 1 0 0), (3, .ptr 2 0 0)]) none LoopState.ready, .rows false 1 [[.ms 6 0 nc5_0]], .rows true 4 h6] : AH))
noncomputable abbrev qkS (v3 c0_0 c0_1 : Int) (c0_2 : Bz) (c0_3 : Rz) (c1_0 c2_0 c3_0 c3_1 : Int) (c3_2 : Bz) (c3_3 : Rz) (nc5_0 : Nat) (h6 : Rz) (c7_0 c7_1 : Int) (c7_2 : Bz) (c7_3 c8_0 : Rz) : Option (AV) := qqN  (((fx 19 [(0, .yld 9), (1, .ptr 8 0 0), (3, .int .i64 v3)]) : List AV), ([.rows false 4 [[.int .i64 c0_0, .int .i64 c0_1, .str c0_2, .sl c0_3]], .rows false 1 [[.int .i64 c1_0]], .rows false 1 [[.int .i64 c2_0]], .rows false 4 [[.int .i64 c3_0, .int .i64 c3_1, .str c3_2, .sl c3_3]], rngB Tryz.f93 93 [1, 1, 0, 1, 0] (fx 17 [(2, .ptr 1 0 0), (3, .ptr 2 0 0)]) none LoopState.ready, .rows false 1 [[.ms 6 0 nc5_0]], .rows true 4 h6, .rows false 4 [[.int .i64 c7_0, .int .i64 c7_1, .str c7_2, .sl c7_3]], .rows false 1 [[.sl c8_0]], rngB Tryz.f205 205 [1, 0, 0, 1, 0, 1, 1, 1, 1, 0] (fx 38 [(3, .ptr 5 0 0)]) none LoopState.ready] : AH))
noncomputable abbrev qiW (v3 c0_0 c0_1 : Int) (c0_2 : Bz) (c0_3 : Rz) (c1_0 c2_0 c3_0 c3_1 : Int) (c3_2 : Bz) (c3_3 : Rz) (nc5_0 : Nat) (c7_0 c7_1 : Int) (c7_2 : Bz) (c7_3 c8_0 h10 : Rz) : Option (AV) := qqN  (((fx 19 [(0, .yld 9), (1, .ptr 8 0 0), (3, .int .i64 v3)]) : List AV), ([.rows false 4 [[.int .i64 c0_0, .int .i64 c0_1, .str c0_2, .sl c0_3]], .rows false 1 [[.int .i64 c1_0]], .rows false 1 [[.int .i64 c2_0]], .rows false 4 [[.int .i64 c3_0, .int .i64 c3_1, .str c3_2, .sl c3_3]], rngB Tryz.f93 93 [1, 1, 0, 1, 0] (fx 17 [(2, .ptr 1 0 0), (3, .ptr 2 0 0)]) none LoopState.ready, .rows false 1 [[.ms 10 0 nc5_0]], .dead, .rows false 4 [[.int .i64 c7_0, .int .i64 c7_1, .str c7_2, .sl c7_3]], .rows false 1 [[.sl c8_0]], rngB Tryz.f205 205 [1, 0, 0, 1, 0, 1, 1, 1, 1, 0] (fx 38 [(3, .ptr 5 0 0)]) none LoopState.ready, .rows true 4 h10] : AH))
noncomputable abbrev zd4 (kt : Int) (lt : Rz) : Option (AV) := bif kt == 5 then some (.bool (decide ((lt.length : Int) ≤ 64))) else some (.bool false)
noncomputable abbrev zd3 (lt : Rz) (kt : Int) : Option (AV) := bif (lt.length : Int) == 0 then some (.bool true) else zd4 kt lt
noncomputable abbrev zd2 (st : Bz) (lt : Rz) (kt : Int) : Option (AV) := bif st == [] then zd3 lt kt else some (.bool false)
noncomputable abbrev zd1 (nt : Int) (st : Bz) (lt : Rz) (kt : Int) : Option (AV) := bif decide (nt ≤ 1073741824) then zd2 st lt kt else some (.bool false)
noncomputable abbrev zd0 (nt : Int) (st : Bz) (lt : Rz) (kt : Int) : Option (AV) := bif decide (nt ≥ 0) then zd1 nt st lt kt else some (.bool false)
theorem qiZ (kt nt : Int) (st : Bz) (lt : Rz) {P : AV → Prop} (h : Gets (bif kt == 1 then bif decide (nt ≥ (- 576460752303423488)) then bif decide (nt ≤ 576460752303423487) then bif st == [] then some (.bool ((lt.length : Int) == 0)) else some (.bool false) else some (.bool false) else some (.bool false) else bif kt == 2 then bif nt == 0 then bif decide ((st.length : Int) ≤ 64) then some (.bool ((lt.length : Int) == 0)) else some (.bool false) else some (.bool false) else bif kt == 3 then bif decide (nt ≥ 0) then bif decide (nt ≤ 1073741824) then bif st == [] then bif (lt.length : Int) == 0 then some (.bool true) else bif kt == 5 then some (.bool (decide ((↑ (qug lt) : Int) ≤ 64))) else some (.bool false) else some (.bool false) else some (.bool false) else some (.bool false) else bif kt == 4 then zd0 nt st lt kt else bif kt == 6 then zd0 nt st lt kt else bif kt == 5 then zd0 nt st lt kt else bif kt == 7 then bif nt == 0 then bif st == [] then some (.bool (decide ((lt.length : Int) ≤ 64))) else some (.bool false) else some (.bool false) else bif kt == 8 then bif nt == 0 then bif st == [] then some (.bool ((lt.length : Int) == 0)) else some (.bool false) else some (.bool false) else bif kt == 9 then bif nt == 0 then bif st == [] then some (.bool ((lt.length : Int) == 2)) else some (.bool false) else some (.bool false) else some (.bool false)) P) : Gets (EVs (EV cfg) 151 [.agg [.int .i64 kt, .int .i64 nt, .str st, .sl lt]]) P :=
  gE (fun _ => funS rfl rfl Tryz.func151 rfl) (by kernel_rfl) h
theorem qk4 (kt nt : Int) (st : Bz) (lt : Rz) {P : AV → Prop} (h : Gets (bif kt == 7 then some (.int .i64 2) else bif kt == 5 then some (.int .i64 2) else some (.int .i64 1)) P) : Gets (EVs (EV cfg) 152 [.agg [.int .i64 kt, .int .i64 nt, .str st, .sl lt]]) P :=
  gE (fun _ => funS rfl rfl Tryz.func152 rfl) (by kernel_rfl) h
theorem qi0 (kt nt : Int) (st : Bz) (lt : Rz) {P : AV → Prop} (h : Gets (qb3 kt nt st lt 0 0 kt nt st lt 1 [[.int .i64 kt, .int .i64 nt, .str st, .sl lt]]) P) : Gets (EVs (EV cfg) 93 [.agg [.int .i64 kt, .int .i64 nt, .str st, .sl lt]]) P :=
  gE (fun _ => funS rfl rfl Tryz.func93 rfl) (by kernel_rfl) h
theorem qcP (c0_0 c0_1 : Int) (c0_2 : Bz) (c0_3 : Rz) (c1_0 c2_0 c3_0 c3_1 : Int) (c3_2 : Bz) (c3_3 : Rz) (nc5_0 : Nat) (h6 : Rz) {P : AV → Prop} (h : Gets (bif decide ((↑ nc5_0 : Int) > 0) then bif qj 0 (IntKind.wrap .i64 ((↑ nc5_0 : Int) - 1)) && qp (IntKind.wrap .i64 ((↑ nc5_0 : Int) - 1)) (↑ nc5_0 : Int) then kOpt (qul h6 (0 + quG (IntKind.wrap .i64 ((↑ nc5_0 : Int) - 1)))) fun row => bif quw 4 (qug row) then kTmC (qux 4 row) fun n n_1 s rows => (bif qj 0 (IntKind.wrap .i64 ((↑ nc5_0 : Int) - 1)) && qj (IntKind.wrap .i64 ((↑ nc5_0 : Int) - 1)) (↑ nc5_0 : Int) then kOpt (EVs (EV cfg) 151 [.agg [.int .i64 n, .int .i64 n_1, .str s, .sl rows]]) fun v => ve v fun b => bif ! b then some (.int .i64 2) else kOpt (EVs (EV cfg) 152 [.agg [.int .i64 n, .int .i64 n_1, .str s, .sl rows]]) fun v => kInt .i64 v fun n_2 => qkS (IntKind.wrap .i64 ((↑ (qug rows) : Int) - 1)) c0_0 c0_1 c0_2 c0_3 c1_0 (IntKind.wrap .i64 (c2_0 + n_2)) c3_0 c3_1 c3_2 c3_3 (quG (IntKind.wrap .i64 ((↑ nc5_0 : Int) - 1)) - 0) h6 n n_1 s rows rows else none) else none else none else bif decide (c2_0 > 65536) then some (.int .i64 3) else some (.int .i64 0)) P) : Gets (qb3 c0_0 c0_1 c0_2 c0_3 c1_0 c2_0 c3_0 c3_1 c3_2 c3_3 nc5_0 h6) P :=
  gE (fun _ => qB (cfg := cfg) (f := 205) (rd := none) (bs := 5)) (by kernel_rfl) h
noncomputable abbrev zd10 (row : List AV) (nc5_0 : Nat) (h6 : Rz) (v3 c0_0 c0_1 : Int) (c0_2 : Bz) (c0_3 : Rz) (c1_0 c2_0 c3_0 c3_1 : Int) (c3_2 : Bz) (c3_3 : Rz) (c7_0 c7_1 : Int) (c7_2 : Bz) (c7_3 c8_0 : Rz) : Option (AV) := kTmC (qux 4 row) fun n n_1 s rows => (bif quw (0 + nc5_0) (qug h6) && vD (nc5_0 + 1) 56 then bif qj 0 (↑ nc5_0 : Int) && qp (↑ nc5_0 : Int) (↑ (nc5_0 + 1) : Int) then kOpt (qul (quD (qux nc5_0 h6) [[.int .i64 0, .int .i64 0, .str [], .nilS]]) (0 + quG (↑ nc5_0 : Int))) fun row => bif quw 4 (qug row) then qiW (IntKind.wrap .i64 (v3 - (1 : Int))) c0_0 c0_1 c0_2 c0_3 c1_0 c2_0 c3_0 c3_1 c3_2 c3_3 (nc5_0 + 1) c7_0 c7_1 c7_2 c7_3 c8_0 (List.set (quD (qux nc5_0 h6) [[.int .i64 0, .int .i64 0, .str [], .nilS]]) (0 + quG (↑ nc5_0 : Int)) (.int .i64 n :: .int .i64 n_1 :: .str s :: .sl rows :: quN 4 row)) else none else none else none)
noncomputable abbrev zd9 (row : List AV) (nc5_0 : Nat) (h6 : Rz) (v3 c0_0 c0_1 : Int) (c0_2 : Bz) (c0_3 : Rz) (c1_0 c2_0 c3_0 c3_1 : Int) (c3_2 : Bz) (c3_3 : Rz) (c7_0 c7_1 : Int) (c7_2 : Bz) (c7_3 c8_0 : Rz) : Option (AV) := bif quw 4 (qug row) then zd10 row nc5_0 h6 v3 c0_0 c0_1 c0_2 c0_3 c1_0 c2_0 c3_0 c3_1 c3_2 c3_3 c7_0 c7_1 c7_2 c7_3 c8_0 else none
noncomputable abbrev zd8 (row : List AV) (nc5_0 : Nat) (h6 : Rz) (v3 c0_0 c0_1 : Int) (c0_2 : Bz) (c0_3 : Rz) (c1_0 c2_0 c3_0 c3_1 : Int) (c3_2 : Bz) (c3_3 : Rz) (c7_0 c7_1 : Int) (c7_2 : Bz) (c7_3 c8_0 : Rz) : Option (AV) := bif qun (qug row) 4 then zd9 row nc5_0 h6 v3 c0_0 c0_1 c0_2 c0_3 c1_0 c2_0 c3_0 c3_1 c3_2 c3_3 c7_0 c7_1 c7_2 c7_3 c8_0 else none
noncomputable abbrev zd7 (c8_0 : Rz) (v3 : Int) (nc5_0 : Nat) (h6 : Rz) (c0_0 c0_1 : Int) (c0_2 : Bz) (c0_3 : Rz) (c1_0 c2_0 c3_0 c3_1 : Int) (c3_2 : Bz) (c3_3 : Rz) (c7_0 c7_1 : Int) (c7_2 : Bz) (c7_3 : Rz) : Option (AV) := kOpt (qul c8_0 (v3.toNat)) fun row => zd8 row nc5_0 h6 v3 c0_0 c0_1 c0_2 c0_3 c1_0 c2_0 c3_0 c3_1 c3_2 c3_3 c7_0 c7_1 c7_2 c7_3 c8_0
noncomputable abbrev zd6 (v3 : Int) (c8_0 : Rz) (nc5_0 : Nat) (h6 : Rz) (c0_0 c0_1 : Int) (c0_2 : Bz) (c0_3 : Rz) (c1_0 c2_0 c3_0 c3_1 : Int) (c3_2 : Bz) (c3_3 : Rz) (c7_0 c7_1 : Int) (c7_2 : Bz) (c7_3 : Rz) : Option (AV) := bif qj 0 v3 && qp v3 (c8_0.length : Int) then zd7 c8_0 v3 nc5_0 h6 c0_0 c0_1 c0_2 c0_3 c1_0 c2_0 c3_0 c3_1 c3_2 c3_3 c7_0 c7_1 c7_2 c7_3 else none
noncomputable abbrev zd5 (v3 : Int) (c8_0 : Rz) (nc5_0 : Nat) (h6 : Rz) (c0_0 c0_1 : Int) (c0_2 : Bz) (c0_3 : Rz) (c1_0 c2_0 c3_0 c3_1 : Int) (c3_2 : Bz) (c3_3 : Rz) (c7_0 c7_1 : Int) (c7_2 : Bz) (c7_3 : Rz) : Option (AV) := bif decide (v3 ≥ 0) then zd6 v3 c8_0 nc5_0 h6 c0_0 c0_1 c0_2 c0_3 c1_0 c2_0 c3_0 c3_1 c3_2 c3_3 c7_0 c7_1 c7_2 c7_3 else qb3 c0_0 c0_1 c0_2 c0_3 c1_0 c2_0 c3_0 c3_1 c3_2 c3_3 nc5_0 h6
theorem qmD (v3 c0_0 c0_1 : Int) (c0_2 : Bz) (c0_3 : Rz) (c1_0 c2_0 c3_0 c3_1 : Int) (c3_2 : Bz) (c3_3 : Rz) (nc5_0 : Nat) (h6 : Rz) (c7_0 c7_1 : Int) (c7_2 : Bz) (c7_3 c8_0 : Rz) {P : AV → Prop} (h : Gets (zd5 v3 c8_0 nc5_0 h6 c0_0 c0_1 c0_2 c0_3 c1_0 c2_0 c3_0 c3_1 c3_2 c3_3 c7_0 c7_1 c7_2 c7_3) P) : Gets (qkS v3 c0_0 c0_1 c0_2 c0_3 c1_0 c2_0 c3_0 c3_1 c3_2 c3_3 nc5_0 h6 c7_0 c7_1 c7_2 c7_3 c8_0) P :=
  gE (fun _ => qB (cfg := cfg) (f := 180) (rd := none) (bs := 10)) (by kernel_rfl) h
theorem qex (v3 c0_0 c0_1 : Int) (c0_2 : Bz) (c0_3 : Rz) (c1_0 c2_0 c3_0 c3_1 : Int) (c3_2 : Bz) (c3_3 : Rz) (nc5_0 : Nat) (c7_0 c7_1 : Int) (c7_2 : Bz) (c7_3 c8_0 h10 : Rz) {P : AV → Prop} (h : Gets (zd5 v3 c8_0 nc5_0 h10 c0_0 c0_1 c0_2 c0_3 c1_0 c2_0 c3_0 c3_1 c3_2 c3_3 c7_0 c7_1 c7_2 c7_3) P) : Gets (qiW v3 c0_0 c0_1 c0_2 c0_3 c1_0 c2_0 c3_0 c3_1 c3_2 c3_3 nc5_0 c7_0 c7_1 c7_2 c7_3 c8_0 h10) P :=
  gE (fun _ => qB (cfg := cfg) (f := 180) (rd := none) (bs := 10)) (by kernel_rfl) h
end Go.Proofs.YtkohdkldmpiiiaaGreat
end
section
namespace Go.Av
def qiS (p : Prop) (v : AV) : Prop := ∃ b : Bool, v = .bool b ∧ (b = true ↔ p)
theorem za {p : Prop} {b : Bool} : qiS p (.bool b) ↔ (b = true ↔ p) := ⟨fun ⟨_, h1, h2⟩ => by cases h1; exact h2, fun h => ⟨b, rfl, h⟩⟩
end Go.Av
namespace Go.Proofs.YtkohdkldmpiiiaaGreat
open Go.Av
theorem zN {n : Nat} (h : n ≤ 1099511627776) : vD n 56 = true := by
 unfold vD
 rw [que, quJ, quJ]
 omega
theorem xl (t : Tm) : (AV.agg [.int .i64 t.kind, .int .i64 t.num, .str t.str, .sl (qa t.subs)]) = t.av := by rw [Tm.av, Tm.cells_eq]
theorem qq9 (t : Tm) : EVs (EV cfg) 151 [t.av] = some (.bool t.sound) := by
 obtain ⟨k, n, s, l⟩ := t
 apply Gets.get
 rw [Tm.av_mk]
 refine qiZ _ _ _ _ ?_
 unfold zd0 zd1 zd2 zd3 zd4
 simp only [Tm.sound, Tm.kind_mk, Tm.num_mk, Tm.str_mk, Tm.subs_mk, qh, beqI, qs6, yy]
 by_cases h1 : k = 1
 ·subst h1; simp [yj] <;> (try rw [Bool.eq_iff_iff]) <;> (try simp) <;> first | omega | grind
 by_cases h2 : k = 2
 ·subst h2; simp [yj] <;> (try rw [Bool.eq_iff_iff]) <;> (try simp) <;> first | omega | grind
 by_cases h3 : k = 3
 ·subst h3; simp [yj] <;> (try rw [Bool.eq_iff_iff]) <;> (try simp) <;> first | omega | grind
 by_cases h4 : k = 4
 ·subst h4; simp [yj] <;> (try rw [Bool.eq_iff_iff]) <;> (try simp) <;> first | omega | grind
 by_cases h6 : k = 6
 ·subst h6; simp [yj] <;> (try rw [Bool.eq_iff_iff]) <;> (try simp) <;> first | omega | grind
 by_cases h5 : k = 5
 ·subst h5
  cases l with
  | nil => simp [yj] <;> (try rw [Bool.eq_iff_iff]) <;> (try simp) <;> first | omega | grind
  | cons x l =>
   have hx : ¬ ((l.length : Int) + 1 = 0) := by omega
   simp [hx, yj] <;> (try rw [Bool.eq_iff_iff]) <;> (try simp) <;> first | omega | grind
 by_cases h7 : k = 7
 ·subst h7; simp [yj] <;> (try rw [Bool.eq_iff_iff]) <;> (try simp) <;> first | omega | grind
 by_cases h8 : k = 8
 ·subst h8; simp [yj] <;> (try rw [Bool.eq_iff_iff]) <;> (try simp) <;> first | omega | grind
 by_cases h9 : k = 9
 ·subst h9; simp [yj] <;> (try rw [Bool.eq_iff_iff]) <;> (try simp) <;> first | omega | grind
 simp [h1, h2, h3, h4, h5, h6, h7, h8, h9]
theorem qsR (t : Tm) : EVs (EV cfg) 152 [t.av] = some (.int .i64 t.own) := by
 obtain ⟨k, n, s, l⟩ := t
 apply Gets.get
 rw [Tm.av_mk]
 refine qk4 _ _ _ _ ?_
 simp only [Tm.own, Tm.kind_mk, beqI]
 by_cases h7 : k = 7
 ·simp [h7]
 ·by_cases h5 : k = 5
  ·simp [h5]
  ·simp [h7, h5]
theorem qg1 (l : List (List AV)) (z : List AV) : (l ++ [z])[l.length]? = some z := by simp
theorem qg0 (l : List (List AV)) (z c : List AV) : (l ++ [z]).set l.length c = l ++ [c] := by simp
theorem qpX {t x : Tm} (hx : x.subs.length < 1099511627776) {wd : Int} {P : AV → Prop} : ∀ (j : Nat) (R : List Tm), j ≤ x.subs.length → R.length + j < 1099511627776 →
  Gets (qb3 t.kind t.num t.str (qa t.subs) 0 wd t.kind t.num t.str (qa t.subs) (R.length + j) (qa (R ++ (x.subs.take j).reverse))) P →
  Gets (qiW ((j : Int) - 1) t.kind t.num t.str (qa t.subs) 0 wd t.kind t.num t.str (qa t.subs) R.length x.kind x.num x.str (qa x.subs) (qa x.subs) (qa R)) P
 | 0, R, _, _, h => by
  refine qex _ _ _ _ _ _ _ _ _ _ _ _ _ _ _ _ _ _ ?_
  unfold zd5 zd6 zd7 zd8 zd9 zd10
  simpa using h
 | j + 1, R, hj, hR, h => by
  have ih := qpX (t := t) hx (wd := wd) (P := P) j (R ++ [x.subs[j]]) (by omega) (by simp; omega)
  have e1 : x.subs.take (j + 1) = x.subs.take j ++ [x.subs[j]] := by rw [List.take_add_one, quj (by omega)]; rfl
  have e4 : R ++ (x.subs.take j ++ [x.subs[j]]).reverse = R ++ x.subs[j] :: (x.subs.take j).reverse := by rw [List.reverse_append]; rfl
  rw [e1, e4, show R.length + (j + 1) = R.length + 1 + j by omega] at h
  refine qex _ _ _ _ _ _ _ _ _ _ _ _ _ _ _ _ _ _ ?_
  unfold zd5 zd6 zd7 zd8 zd9 zd10
  have hw : IntKind.wrap .i64 ((j : Int) - 1) = (j : Int) - 1 := xa (by omega) (by omega)
  have hjl : j < x.subs.length := by omega
  have e2 : ((j + 1 : Nat) : Int) - 1 = j := by omega
  rw [e2]
  have ht : qux R.length (qa R) = qa R := quu (by simp)
  have g0 := qg1 (qa R) [.int .i64 0, .int .i64 0, .str [], .nilS]
  have s0 := qg0 (qa R) [.int .i64 0, .int .i64 0, .str [], .nilS] x.subs[j].cells
  rw [qh] at g0 s0
  simp [hjl, hw, zN (show R.length + 1 ≤ 1099511627776 by omega), ht] at ih ⊢
  exact ih h
theorem qsQ {t x : Tm} (hx : x.subs.length < 1099511627776) {wd : Int} {P : AV → Prop} {R : List Tm} {Z : List (List AV)} (hR : R.length + x.subs.length < 1099511627776)
  (h0 : x.subs = [] → Gets (qb3 t.kind t.num t.str (qa t.subs) 0 wd t.kind t.num t.str (qa t.subs) R.length (qa R ++ Z)) P)
  (h : x.subs ≠ [] → Gets (qb3 t.kind t.num t.str (qa t.subs) 0 wd t.kind t.num t.str (qa t.subs) (R ++ x.subs.reverse).length (qa (R ++ x.subs.reverse))) P) :
  Gets (qkS ((x.subs.length : Int) - 1) t.kind t.num t.str (qa t.subs) 0 wd t.kind t.num t.str (qa t.subs) R.length (qa R ++ Z) x.kind x.num x.str (qa x.subs) (qa x.subs)) P := by
 refine qmD _ _ _ _ _ _ _ _ _ _ _ _ _ _ _ _ _ _ ?_
 unfold zd5 zd6 zd7 zd8 zd9 zd10
 rcases Nat.eq_zero_or_pos x.subs.length with hz | hp
 ·have hz' : x.subs = [] := List.length_eq_zero_iff.1 hz
  have := h0 hz'
  simpa [hz'] using this
 ·obtain ⟨j, hj⟩ : ∃ j, x.subs.length = j + 1 := ⟨x.subs.length - 1, by omega⟩
  have hne : x.subs ≠ [] := by intro e; rw [e] at hp; simp at hp
  have hjl : j < x.subs.length := by omega
  have e2 : (x.subs.length : Int) - 1 = j := by omega
  have hw : IntKind.wrap .i64 ((j : Int) - 1) = (j : Int) - 1 := xa (by omega) (by omega)
  have ht : qux R.length (qa R ++ Z) = qa R := by rw [List.take_append_of_le_length (by simp), quu (by simp)]
  have e5 : x.subs = x.subs.take j ++ [x.subs[j]] := by
   have : x.subs.take (j + 1) = x.subs := quu (by omega)
   rw [List.take_add_one, quj hjl] at this
   exact this.symm
  have e6 : R ++ x.subs.reverse = R ++ [x.subs[j]] ++ (x.subs.take j).reverse := by
   conv => lhs; rw [e5]
   rw [List.reverse_append, List.append_assoc]; rfl
  have := qpX (t := t) hx (wd := wd) (P := P) j (R ++ [x.subs[j]]) (by omega) (by simp; omega) (by
   have h := h hne
   rw [e6] at h
   have e7 : (R ++ [x.subs[j]] ++ (x.subs.take j).reverse).length = (R ++ [x.subs[j]]).length + j := by
    rw [qus, List.length_reverse, List.length_take]; omega
   rw [e7] at h
   exact h)
  rw [e2]
  simp at this
  simp [hjl, hw, zN (show R.length + 1 ≤ 1099511627776 by omega), ht]
  exact this
theorem qsn {t : Tm} : ∀ (n : Nat) (R : List Tm) (Z : List (List AV)) (wd : Nat), wL R ≤ n → n < 1099511627776 → wd + 2 * wL R < 9007199254740992 →
  Gets (qb3 t.kind t.num t.str (qa t.subs) 0 (wd : Int) t.kind t.num t.str (qa t.subs) R.length (qa R ++ Z)) (· = .int .i64 (chkS R wd)) := by
 intro n
 induction n with
 | zero =>
  intro R Z wd hn _ _
  have : R = [] := by
   have := qaA R
   exact List.length_eq_zero_iff.1 (by omega)
  subst this
  refine qcP _ _ _ _ _ _ _ _ _ _ _ _ ?_
  by_cases h : 65536 < wd
  ·have h' : (65536 : Int) < wd := by omega
   simp [h, h', chkS, vK, vm]
  ·have h' : ¬ (65536 : Int) < wd := by omega
   simp [h, h', chkS, vK, vm]
 | succ n ih =>
  intro R Z wd hn hN hw
  rcases List.eq_nil_or_concat R with rfl | ⟨R0, x, rfl⟩
  ·refine qcP _ _ _ _ _ _ _ _ _ _ _ _ ?_
   by_cases h : 65536 < wd
   ·have h' : (65536 : Int) < wd := by omega
    simp [h, h', chkS, vK, vm]
   ·have h' : ¬ (65536 : Int) < wd := by omega
    simp [h, h', chkS, vK, vm]
  ·rw [List.concat_eq_append] at *
   have hwx := x.w_eq
   have ho := x.own_le
   simp only [y7, qv, xp] at hn hw
   have hl0 := qaA R0
   have hls := qaA x.subs
   have hsd := qq9 x
   have how := qsR x
   refine qcP _ _ _ _ _ _ _ _ _ _ _ _ ?_
   have e1 : (R0 ++ [x]).length = R0.length + 1 := by simp
   have hw1 : IntKind.wrap .i64 (R0.length : Int) = R0.length := qt4 (by omega)
   have hw2 : IntKind.wrap .i64 ((wd : Int) + x.own) = ((wd + x.own : Nat) : Int) := by rw [xa (by omega) (by omega)]; omega
   have hw3 : IntKind.wrap .i64 ((x.subs.length : Int) - 1) = (x.subs.length : Int) - 1 := xa (by omega) (by omega)
   have g : (qa (R0 ++ [x]) ++ Z)[R0.length]? = some x.cells := by
    rw [qup (by simp), y8]; simp
   cases hs : x.sound with
   | false =>
    rw [hs] at hsd
    simp [e1, hw1, g, hsd, qrI hs]
   | true =>
    rw [hs] at hsd
    have e3 : qa (R0 ++ [x]) ++ Z = qa R0 ++ (x.cells :: Z) := by rw [vM, List.append_assoc, qG, vG]; rfl
    have := qsQ (t := t) (x := x) (R := R0) (Z := x.cells :: Z) (wd := ((wd + x.own : Nat) : Int)) (P := (· = .int .i64 (chkS (R0 ++ [x]) wd))) (by omega) (by omega)
     (fun hz => by
      have := ih R0 (x.cells :: Z) (wd + x.own) (by omega) (by omega) (by omega)
      rw [← qj1 hs, hz, List.reverse_nil, List.append_nil]
      exact this)
     (fun hz => by
      have := ih (R0 ++ x.subs.reverse) [] (wd + x.own) (by rw [y7, qpC]; omega) (by omega) (by rw [y7, qpC]; omega)
      rw [← qj1 hs]
      rw [List.append_nil] at this
      exact this)
    simp only [e1, e3] at g ⊢
    simp only [Int.natCast_add] at hw2 this
    simp [hw1, hsd, how, hw2, hw3]
    exact this
theorem qgW {t : Tm} (h : t.w < 1099511627776) : EVs (EV cfg) 93 [t.av] = some (.int .i64 t.chk) := by
 have := qsn (t := t) _ [t] [] 0 (qum _) (by simpa using h) (by simp; omega)
 apply Gets.get
 rw [Tm.av, Tm.cells_eq]
 refine qi0 _ _ _ _ ?_
 rw [← Tm.cells_eq, qpT, Tm.chk]
 simpa using this
theorem qcX {s h0 : List UInt8} {b : UInt8} {v : Int} {i : Nat} {P : AV → Prop} (hv : 0 ≤ v ∧ v ≤ 9) (hlen : (qux (s.length - 1) (s.drop 1)).length = h0.length) (hl : h0.length ≤ 2) (hb : h0[i]? = some b)
  (h : Gets (match y0 b with | none => some (AV.tup [.int .i64 0, .bool false]) | some x => qb4 s (v * 10 + x) ((i + 1 : Nat) : Int) (h0.map fun b => [.int .u8 (b.toNat : Int)])) P) : Gets (qb4 s v i (h0.map fun b => [.int .u8 (b.toNat : Int)])) P := by
 have hi : i < h0.length := (quh.1 hb).1
 refine qfZ _ _ _ _ ?_
 have hbl := b.toNat_lt
 rw [hlen, decide_eq_true (show (i : Int) < (h0.length : Int) by omega), vq, xT, decide_eq_true hi]
 simp only [cond_true, quy, qK, Nat.zero_add, quE, List.getElem?_map, hb, quz, qf, List.getElem?_cons_zero, qn]
 unfold y0 at h
 by_cases h1 : b.toNat < 48
 ·rw [if_pos h1] at h
  rw [decide_eq_true (show (b.toNat : Int) < 48 by omega)]; exact h
 ·rw [if_neg h1] at h
  rw [decide_eq_false (show ¬ (b.toNat : Int) < 48 by omega), cond_false]
  by_cases h2 : b.toNat > 57
  ·rw [if_pos h2] at h
   rw [decide_eq_true (show (b.toNat : Int) > 57 by omega)]; exact h
  ·rw [if_neg h2] at h
   rw [decide_eq_false (show ¬ (b.toNat : Int) > 57 by omega), cond_false]
   have w1 : IntKind.wrap .i64 (v * 10) = v * 10 := xa (by omega) (by omega)
   have w2 : IntKind.wrap .u8 ((b.toNat : Int) - 48) = (b.toNat : Int) - 48 := by
    simp [IntKind.wrap, IntKind.bits, IntKind.signed]; omega
   have w3 : IntKind.wrap .i64 ((b.toNat : Int) - 48) = (b.toNat : Int) - 48 := xa (by omega) (by omega)
   have w4 : IntKind.wrap .i64 (v * 10 + ((b.toNat : Int) - 48)) = v * 10 + ((b.toNat : Int) - 48) := xa (by omega) (by omega)
   have w5 : IntKind.wrap .i64 ((i : Int) + 1) = ((i + 1 : Nat) : Int) := vr (n := 2) (by omega) (by omega)
   rw [w1, w2, w3, w4, w5]
   exact h
theorem qhP {s h0 : List UInt8} {v : Int} {i : Nat} (hlen : (qux (s.length - 1) (s.drop 1)).length = h0.length) (hi : i = h0.length) : Gets (qb4 s v i (h0.map fun b => [.int .u8 (b.toNat : Int)])) (· = .tup [.int .i64 v, .bool true]) := by
 refine qfZ _ _ _ _ ?_
 rw [hlen, decide_eq_false (by omega)]
 exact ⟨_, rfl, rfl⟩
def varR (o : Option Int) : AV := .tup [.int .i64 (o.getD 0), .bool o.isSome]
theorem qcc (s : List UInt8) : EVs (EV cfg) 129 [.str s] = some (varR (varG s)) := by
 apply Gets.get
 refine qj9 _ ?_
 unfold zc0 zc1
 match s with
 | [] => exact ⟨_, rfl, rfl⟩
 | [a] => exact ⟨_, rfl, rfl⟩
 | a :: b :: c :: d :: l =>
  have h1 : ¬ ((a :: b :: c :: d :: l).length : Int) < 2 := by simp; omega
  have h2 : ((a :: b :: c :: d :: l).length : Int) > 3 := by simp; omega
  rw [decide_eq_false h1, decide_eq_true h2]
  exact ⟨_, rfl, rfl⟩
 | [a, b] =>
  by_cases h : a.toNat = 36
  ·have e : (((a.toNat : Int)) != 36) = false := by rw [h]; rfl
   have hs := qcX (s := [a, b]) (h0 := [b]) (b := b) (v := 0) (i := 0) (P := (· = varR (varG [a, b]))) (by omega) rfl (by simp) rfl (by
    rw [qrW, if_pos h]
    cases hd : y0 b with
    | none => exact ⟨_, rfl, rfl⟩
    | some x =>
     refine (qhP (s := [a, b]) (h0 := [b]) rfl rfl).mono ?_
     rintro _ rfl
     show _ = varR (some x)
     simp [varR])
   show Gets (bif (((a.toNat : Int)) != 36) then _ else _) _
   rw [e]
   exact hs
  ·have e : (((a.toNat : Int)) != 36) = true := by simpa using fun h' => h (by omega)
   show Gets (bif (((a.toNat : Int)) != 36) then _ else _) _
   rw [e]
   refine ⟨_, rfl, ?_⟩
   rw [qrW, if_neg h]; rfl
 | [a, b, c] =>
  by_cases h : a.toNat = 36
  ·have e : (((a.toNat : Int)) != 36) = false := by rw [h]; rfl
   show Gets (bif (((a.toNat : Int)) != 36) then _ else bif (((b.toNat : Int)) == 48) then _ else _) _
   rw [e]
   by_cases hb : b.toNat = 48
   ·have e2 : (((b.toNat : Int)) == 48) = true := by rw [hb]; rfl
    rw [e2]
    refine ⟨_, rfl, ?_⟩
    rw [qod, if_neg (fun h => h.2 hb)]; rfl
   ·have e2 : (((b.toNat : Int)) == 48) = false := by simpa using fun h' => hb (by omega)
    rw [e2]
    show Gets (qb4 [a, b, c] 0 0 ([b, c].map fun b => [.int .u8 (b.toNat : Int)])) _
    refine qcX (s := [a, b, c]) (h0 := [b, c]) (b := b) (v := 0) (i := 0) (by omega) rfl (by simp) rfl ?_
    rw [qod, if_pos ⟨h, hb⟩]
    cases hd : y0 b with
    | none => exact ⟨_, rfl, rfl⟩
    | some x =>
     have hx := qcK hd
     refine qcX (s := [a, b, c]) (h0 := [b, c]) (b := c) (i := 1) (by omega) rfl (by simp) rfl ?_
     cases hd2 : y0 c with
     | none => exact ⟨_, rfl, by simp [varR]⟩
     | some y =>
      refine (qhP (s := [a, b, c]) (h0 := [b, c]) rfl rfl).mono ?_
      rintro _ rfl
      simp [varR]
  ·have e : (((a.toNat : Int)) != 36) = true := by simpa using fun h' => h (by omega)
   show Gets (bif (((a.toNat : Int)) != 36) then _ else _) _
   rw [e]
   refine ⟨_, rfl, ?_⟩
   rw [qod, if_neg (fun h' => h h'.1)]; rfl
theorem qeS {t : Tm} (h : t.w < 1099511627776) : EVs (EV cfg) 127 [t.av] = some (.bool (decide (t.chk = 0))) := by
 have hc := qgW h
 apply Gets.get
 rw [Tm.av, Tm.cells_eq] at hc ⊢
 refine qoz _ _ _ _ ?_
 rw [hc]
 simp [beqI]
theorem qcA {t : Tm} (h : t.w < 1099511627776) : EVs (EV cfg) 117 [t.av] = some (varR (varT t)) := by
 have hc := qeS h
 apply Gets.get
 rw [Tm.av, Tm.cells_eq] at hc ⊢
 refine qoy _ _ _ _ ?_
 rw [hc, qcc]
 unfold varT
 by_cases h1 : t.kind = 2
 ·by_cases h2 : t.chk = 0
  ·simp [h1, h2, varR, kTup, qc, kNil]
  ·simp [h1, h2, varR]
 ·have h1' : (t.kind != 2) = true := by simpa using h1
  rw [h1']
  simp [h1, varR]
end Go.Proofs.YtkohdkldmpiiiaaGreat
end
section
namespace Go.Av
theorem zk {t : Tm} : t.chk = 0 ↔ t.parts = true ∧ t.words ≤ 65536 := by
 unfold Tm.chk chkS
 simp only [vK, vm, Bool.and_true, Nat.zero_add, Nat.add_zero]
 cases h : t.parts with
 | false => simp
 | true =>
  simp
theorem qq3 (l : List Tm) (h : ∀ x ∈ l, x.parts = true → x.w ≤ 65 * x.words) : vK l = true → wL l ≤ 65 * vm l := by
 induction l with
 | nil => intro _; simp
 | cons x l ih =>
  intro hp
  rw [vK, que] at hp
  have h1 := h x (by simp) hp.1
  have h2 := ih (fun y hy => h y (by simp [hy])) hp.2
  rw [qv, vm]; omega
theorem qpL {k n : Int} {s : List UInt8} {m : Nat} (h : yy k n s m = true) : s.length ≤ 64 ∧ m ≤ 64 := by
 unfold yy at h
 repeat' split at h
 all_goals simp at h
 all_goals first | (obtain ⟨_, _, h3, h4⟩ := h; subst h3; simp; omega) | (obtain ⟨_, h3, h4⟩ := h; subst h3; simp; omega) | omega
theorem qr7 (t : Tm) : t.parts = true → t.w ≤ 65 * t.words := by
 induction t using Tm.ind with
 | _ k n s l ih =>
  intro hp
  rw [Tm.parts, que] at hp
  have h1 := qpL hp.1
  have h2 := qq3 l ih hp.2
  have h3 := (Tm.mk k n s l).own_le
  rw [Tm.w_mk, Tm.words]; omega
theorem qbF {t : Tm} (h : t.chk = 0) : t.w ≤ 4259840 := by
 obtain ⟨h1, h2⟩ := zk.1 h
 have := qr7 t h1
 omega
theorem qhf {x : Tm} {l : List Tm} (h : x ∈ l) : x.words ≤ vm l := by
 induction l with
 | nil => cases h
 | cons y l ih =>
  rw [vm]
  rcases quH.1 h with rfl | h
  ·omega
  ·have := ih h; omega
theorem qhK {l : List Tm} (h : vK l = true) : ∀ x ∈ l, x.parts = true := by
 induction l with
 | nil => intro x hx; cases hx
 | cons y l ih =>
  intro x hx
  rw [vK, que] at h
  rcases quH.1 hx with rfl | hx
  ·exact h.1
  ·exact ih h.2 x hx
theorem xi {t x : Tm} (h : t.chk = 0) (hx : x ∈ t.subs) : x.chk = 0 := by
 obtain ⟨h1, h2⟩ := zk.1 h
 rw [Tm.parts_eq, que] at h1
 have := qhf hx
 rw [Tm.words_eq] at h2
 exact zk.2 ⟨qhK h1.2 x hx, by omega⟩
theorem qcr {t : Tm} (h : t.chk = 0) (hk : t.kind = 9) : ∃ a b, t.subs = [a, b] := by
 obtain ⟨h1, _⟩ := zk.1 h
 rw [Tm.parts_eq, que] at h1
 have h2 : yy t.kind t.num t.str t.subs.length = true := h1.1
 rw [hk] at h2
 simp [yy] at h2
 match hl : t.subs, h2.2.2 with
 | [a, b], _ => exact ⟨a, b, rfl⟩
def qP (l : List Tm) : Tm := l.foldr (fun x e => .mk 9 0 [] [x, e]) (.mk 8 0 [] [])
structure EnvOk (e : Env) : Prop where
 obj : e.obj.chk = 0
 may : mayB (-1) e.binds = true
 self : qt5 e.self = true
theorem qlx : ∀ {l : List (Int × Tm)} {last : Int}, mayB last l = true → (l.length : Int) ≤ max 0 (99 - last)
 | [], _, _ => by simp; omega
 | p :: l, last, h => by
  simp only [mayB, que, decide_eq_true_eq] at h
  have := qlx h.2.2.2
  simp only [quM]
  omega
theorem EnvOk.len {e : Env} (h : EnvOk e) : e.binds.length ≤ 100 := by have := qlx h.may; omega
theorem qee {V : List Int} {l : List Tm} (h : allG V l = true) : ∀ x ∈ l, isG V x = true := by
 intro x hx
 cases hg : isG V x with
 | true => rfl
 | false => rw [qef.2 ⟨x, hx, hg⟩] at h; cases h
def qaS : Nat → Tm → List Tm × Bool
 | 0, _ => ([], false)
 | n + 1, t => if t.kind = 9 then (match t.subs with | [a, b] => (a :: (qaS n b).1, (qaS n b).2) | _ => ([], false)) else ([], decide (t.kind = 8))
def qw (t : Tm) : List Tm × Bool := qaS t.w t
theorem qng : ∀ (n m : Nat) (t : Tm), t.w ≤ n → t.w ≤ m → qaS n t = qaS m t := by
 intro n
 induction n with
 | zero => intro m t h; have := yP t; omega
 | succ n ih =>
  intro m t hn hm
  obtain ⟨m, rfl⟩ : ∃ k, m = k + 1 := ⟨m - 1, by have := yP t; omega⟩
  rw [qaS, qaS]
  by_cases h9 : t.kind = 9
  ·rw [if_pos h9, if_pos h9]
   have hw := t.w_eq
   cases hs : t.subs with
   | nil => rfl
   | cons a l =>
    cases l with
    | nil => rfl
    | cons b l =>
     cases l with
     | nil =>
      rw [hs] at hw
      simp only [qv, xp] at hw
      simp only []
      rw [ih m b (by omega) (by omega)]
     | cons c l => rfl
  ·rw [if_neg h9, if_neg h9]
theorem xo {t a b : Tm} (hk : t.kind = 9) (hs : t.subs = [a, b]) : qw t = (a :: (qw b).1, (qw b).2) := by
 have hw := t.w_eq
 rw [hs] at hw
 simp only [qv, xp] at hw
 unfold qw
 obtain ⟨n, hn⟩ : ∃ n, t.w = n + 1 := ⟨t.w - 1, by have := yP t; omega⟩
 rw [hn, qaS, if_pos hk, hs]
 simp only []
 rw [qng n b.w b (by omega) (qum _)]
theorem yB {t : Tm} (hk : t.kind ≠ 9) : qw t = ([], decide (t.kind = 8)) := by
 unfold qw
 obtain ⟨n, hn⟩ : ∃ n, t.w = n + 1 := ⟨t.w - 1, by have := yP t; omega⟩
 rw [hn, qaS, if_neg hk]
theorem qbd : ∀ l : List Tm, qw (qP l) = (l, true)
 | [] => yB (by decide)
 | x :: l => by
  rw [xo (a := x) (b := qP l) rfl rfl, qbd l]
theorem qrE {P : Tm → Prop} (h9 : ∀ t a b, t.kind = 9 → t.subs = [a, b] → t.chk = 0 → P b → P t) (h0 : ∀ t, t.kind ≠ 9 → t.chk = 0 → P t) : ∀ (n : Nat) (t : Tm), t.w ≤ n → t.chk = 0 → P t := by
 intro n
 induction n with
 | zero => intro t h; have := yP t; omega
 | succ n ih =>
  intro t hw hc
  by_cases hk : t.kind = 9
  ·obtain ⟨a, b, hs⟩ := qcr hc hk
   have hwe := t.w_eq
   rw [hs] at hwe
   simp only [qv, xp] at hwe
   exact h9 t a b hk hs hc (ih b (by omega) (xi hc (by rw [hs]; simp)))
  ·exact h0 t hk hc
theorem qjj {P : Tm → Prop} (t : Tm) (hc : t.chk = 0) (h9 : ∀ t a b, t.kind = 9 → t.subs = [a, b] → t.chk = 0 → P b → P t) (h0 : ∀ t, t.kind ≠ 9 → t.chk = 0 → P t) : P t := qrE h9 h0 t.w t (qum _) hc
theorem qbP {t : Tm} (hc : t.chk = 0) : ∀ x ∈ (qw t).1, x.chk = 0 := by
 refine qjj (P := fun t => ∀ x ∈ (qw t).1, x.chk = 0) t hc (fun t a b hk hs hc ih => ?_) (fun t hk hc => ?_)
 ·rw [xo hk hs]
  intro x hx
  rcases quH.1 hx with rfl | hx
  ·exact xi hc (by rw [hs]; simp)
  ·exact ih x hx
 ·rw [yB hk]
  intro x hx
  cases hx
theorem qcj {t : Tm} (hc : t.chk = 0) : wL (qw t).1 + (qw t).1.length ≤ t.w := by
 refine qjj (P := fun t => wL (qw t).1 + (qw t).1.length ≤ t.w) t hc (fun t a b hk hs hc ih => ?_) (fun t hk hc => ?_)
 ·rw [xo hk hs, t.w_eq, hs]
  simp only [qv, xp, quM]
  omega
 ·rw [yB hk]
  simp
def anyT (p : Tm) : Bool := decide (p.kind = 2) && (decide (p.str = [95]) && decide (p.chk = 0))
def qd5 (p : Tm) : Bool := (varT p).isSome || (decide (p.kind = 7) || anyT p)
mutual
/-- does a variable stand in a pattern? -/
def xq (n : Int) : Tm → Bool
 | .mk k _ s l => if k = 7 ∨ k = 9 then qhq n l else decide (k = 2) && decide (varG s = some n)
def qhq (n : Int) : List Tm → Bool
 | [] => false
 | t :: l => xq n t || qhq n l
end
theorem qhp (n : Int) : ∀ l : List Tm, qhq n l = l.any (xq n)
 | [] => rfl
 | t :: l => by rw [qhq, qhp n l]; rfl
theorem qaZ (n : Int) (t : Tm) : xq n t = if t.kind = 7 ∨ t.kind = 9 then t.subs.any (xq n) else decide (t.kind = 2) && decide (varG t.str = some n) := by
 obtain ⟨k, m, s, l⟩ := t
 rw [xq, qhp]; rfl
def zS (p : Tm) : List Int := if p.chk = 0 then ((quK 100).filter fun n => xq (n : Nat) p).map Int.ofNat else []
structure Cl where
 head : Tm
 gs : List Tm
 bs : List Tm
 deriving Inhabited
def Cl.cells (c : Cl) : List AV := [.int .i64 c.head.kind, .int .i64 c.head.num, .str c.head.str, .sl (qa c.head.subs), .sl (qa c.gs), .sl (qa c.bs)]
def Cl.av (c : Cl) : AV := .agg c.cells
def qV (l : List Cl) : List (List AV) := l.map Cl.cells
def qtZ : Cl := ⟨qrV, [], []⟩
theorem vQ (l : List Cl) : (qV l).length = l.length := by simp [qV]
theorem qeL (l : List Cl) (i : Nat) : (qV l)[i]? = (l[i]?).map Cl.cells := by simp [qV]
theorem qeM (a b : List Cl) : qV (a ++ b) = qV a ++ qV b := by simp [qV]
theorem qpU (l : List Cl) (i : Nat) (c : Cl) : (qV l).set i c.cells = qV (l.set i c) := by simp [qV, List.map_set]
def xB (t : Tm) : Option Cl :=
 if t.kind = 7 then (match t.subs with
  | [h, g, b] => if qd5 h && ((qw g).2 && ((qw b).2 && !(qw b).1.isEmpty)) && ((qw g).1.all (fun e => decide (yG (zS h) e = 0)) && (qw b).1.all (fun e => decide (yG (zS h) e = 0))) then some ⟨h, (qw g).1, (qw b).1⟩ else none
  | _ => none)
 else none
def seqC : List Tm → Option (List Cl)
 | [] => some []
 | t :: l => (xB t).bind fun c => (seqC l).map (c :: ·)
def clsG (t : Tm) : List Cl × Int :=
 if t.chk = 0 then (match seqC (qw t).1 with
  | some l => if (qw t).2 && !l.isEmpty then (l, 0) else ([], 10)
  | none => ([], 10))
 else ([], 2)
theorem qlb : ∀ {l : List Tm} {cs : List Cl}, seqC l = some cs → cs.length = l.length
 | [], cs, h => by cases h; rfl
 | t :: l, cs, h => by
  rw [seqC] at h
  obtain ⟨c, _, h⟩ := quf.1 h
  obtain ⟨r, hr, rfl⟩ := quk.1 h
  simp [qlb hr]
noncomputable instance tmEq : DecidableEq Tm := fun _ _ => Classical.propDecidable _
def clT (c : Cl) : Tm := tupT [c.head, qP c.gs, qP c.bs]
def selT (l : List Cl) : Tm := qP (l.map clT)
def ofG (l : List Cl) : Tm × Int := if (clsG (selT l)).2 = 0 then (selT l, 0) else (qrV, (clsG (selT l)).2)
end Go.Av
end
section
namespace Go.Proofs.YtkohdkldmpiiiaaGreat
open Go.Av
noncomputable def qtm : Den := evC cfg (EV cfg) 180 none 4 (sub (ql Tryz.f180) [1, 0, 0])
noncomputable def qtI : Ex × List AV × AH → Option AV := kAft (Cfg.keepOut cfg 180 (qg (sub (ql Tryz.f180) [1, 0, 0]))) (xu 0 (yb cfg (Cfg.lift cfg 180 0) (fun (v : AV) (H : AH) => (fun (r : AV × AH) => yh 0 3 (fx 16 [(3, AV.ptr 0 0 0), (4, AV.ptr 1 0 0)]) (xu 0 (kSeq (fun (fr : List AV) (H : AH) => yZ (Cfg.cut cfg 64 (qg (sub (ql Tryz.f64) [1, 1]))) fr H fun (fr : List AV) (H : AH) => vB cfg (EV cfg) (kfN cfg 6) 64 none 0 (sub (ql Tryz.f64) [1, 1]) fr H (yR cfg (Cfg.lift cfg 64 0) (Array.toList (Func.results Tryz.f64)))) (yR cfg (Cfg.lift cfg 64 0) (Array.toList (Func.results Tryz.f64))))) (Prod.snd r)) (v, H)) (Array.toList (Func.results (Prod.snd (180, Tryz.f180))))))
noncomputable def qta : List AV × AH → Option AV := fun (p : List AV × AH) => kOpt (LOOP 4 (some [0, 1, 3]) [] qtm p) qtI
noncomputable abbrev qhd (v3 c0_0 c0_1 : Int) (c0_2 : Bz) (c0_3 : Rz) (c1_0 c1_1 : Int) (c1_2 : Bz) (c1_3 c2_0 : Rz) : Option (AV) := qta  (((fx 19 [(0, .yld 3), (1, .ptr 2 0 0), (3, .int .i64 v3)]) : List AV), ([.rows false 4 [[.int .i64 c0_0, .int .i64 c0_1, .str c0_2, .sl c0_3]], .rows false 4 [[.int .i64 c1_0, .int .i64 c1_1, .str c1_2, .sl c1_3]], .rows false 1 [[.sl c2_0]], rngB Tryz.f64 64 [1, 0, 1, 0] (fx 16 [(3, .ptr 0 0 0)]) none LoopState.ready] : AH))
theorem qnj (kt nt : Int) (st : Bz) (lt V : Rz) {P : AV → Prop} (h : Gets (bif kt == 2 then kOpt (EVs (EV cfg) 117 [.agg [.int .i64 kt, .int .i64 nt, .str st, .sl lt]]) fun v => kTup v fun cs => qc cs fun c cs => kInt .i64 c fun n => qc cs fun c cs => ve c fun b => kNil cs (bif ! b then some (.bool true) else kOpt (EVs (EV cfg) 170 [.sl V, .int .i64 n]) fun v => ve v fun b => some (.bool b)) else bif kt == 9 then kOpt (EVs (EV cfg) 171 [.sl lt, .sl V]) fun v => ve v fun b => some (.bool b) else bif kt == 7 then bif (lt.length : Int) == 0 then some (.bool false) else bif qp 0 (lt.length : Int) then kOpt (qul lt 0) fun row => bif qun (qug row) 4 then bif quw 4 (qug row) then kTmC (qux 4 row) fun n n_1 s rows => (bif qj 1 (lt.length : Int) then bif vR 4 lt then bif n == 7 then bif (↑ (qug (qux (qug lt - 1) (quN 1 lt))) : Int) == (0 : Int) then kOpt (EVs (EV cfg) 171 [.sl rows, .sl V]) fun v => ve v fun b => some (.bool b) else some (.bool false) else bif n != 2 then some (.bool false) else bif s == [(99 : UInt8), (111 : UInt8), (110 : UInt8), (115 : UInt8), (116 : UInt8)] then some (.bool ((↑ (qug (qux (qug lt - 1) (quN 1 lt))) : Int) == 1)) else kOpt (EVf (EV cfg) 172 [.str s]) fun v => kSl v fun rows => kOpt (EVs (EV cfg) 170 [.sl rows, .int .i64 (↑ (qug (qux (qug lt - 1) (quN 1 lt))) : Int)]) fun v => ve v fun b => bif b then kOpt (EVs (EV cfg) 171 [.sl (qux (qug lt - 1) (quN 1 lt)), .sl V]) fun v => ve v fun b => some (.bool b) else some (.bool false) else none else none) else none else none else none else some (.bool true)) P) : Gets (EVs (EV cfg) 116 [.agg [.int .i64 kt, .int .i64 nt, .str st, .sl lt], .sl V]) P :=
  gE (fun _ => funS rfl rfl Tryz.func116 rfl) (by kernel_rfl) h
theorem qlX (L V : Rz) {P : AV → Prop} (h : Gets (kOpt (EVs (EV cfg) 90 [.sl L, AV.fn (Fn.func 214) [] [AV.cptr [.sl V] 0]]) fun v => ve v fun b => some (.bool ! b)) P) : Gets (EVs (EV cfg) 171 [.sl L, .sl V]) P :=
  gE (fun _ => funS rfl rfl Tryz.func171 rfl) (by kernel_rfl) h
theorem qjf (kt nt : Int) (st : Bz) (lt V : Rz) {P : AV → Prop} (h : Gets (kOpt (EVs (EV cfg) 93 [.agg [.int .i64 kt, .int .i64 nt, .str st, .sl lt]]) fun v => kInt .i64 v fun n => bif n != 0 then some (.int .i64 2) else kOpt (EVs (EV cfg) 116 [.agg [.int .i64 kt, .int .i64 nt, .str st, .sl lt], .sl V]) fun v => ve v fun b => bif ! b then some (.int .i64 10) else some (.int .i64 0)) P) : Gets (EVs (EV cfg) 56 [.agg [.int .i64 kt, .int .i64 nt, .str st, .sl lt], .sl V]) P :=
  gE (fun _ => funS rfl rfl Tryz.func56 rfl) (by kernel_rfl) h
theorem qlz (L : Rz) (kt nt : Int) (st : Bz) (lt : Rz) {P : AV → Prop} (h : Gets (qhd (IntKind.wrap .i64 ((L.length : Int) - 1)) kt nt st lt 0 0 [] [] L) P) : Gets (EVf (EV cfg) 64 [.sl L, .agg [.int .i64 kt, .int .i64 nt, .str st, .sl lt]]) P :=
  gE (fun _ => funF rfl rfl Tryz.func64 rfl) (by kernel_rfl) h
theorem qfX (v3 c0_0 c0_1 : Int) (c0_2 : Bz) (c0_3 : Rz) (c1_0 c1_1 : Int) (c1_2 : Bz) (c1_3 c2_0 : Rz) {P : AV → Prop} (h : Gets (bif decide (v3 ≥ 0) then bif qj 0 v3 && qp v3 (c2_0.length : Int) then kOpt (qul c2_0 (v3.toNat)) fun row => bif qun (qug row) 4 then bif quw 4 (qug row) then kTmC (qux 4 row) fun n n_1 s rows => (qhd (IntKind.wrap .i64 (v3 - (1 : Int))) 9 0 [] [[.int .i64 n, .int .i64 n_1, .str s, .sl rows], [.int .i64 c0_0, .int .i64 c0_1, .str c0_2, .sl c0_3]] c1_0 c1_1 c1_2 c1_3 c2_0) else none else none else none else some (.agg [.int .i64 c0_0, .int .i64 c0_1, .str c0_2, .sl c0_3])) P) : Gets (qhd v3 c0_0 c0_1 c0_2 c0_3 c1_0 c1_1 c1_2 c1_3 c2_0) P :=
  gE (fun _ => qB (cfg := cfg) (f := 180) (rd := none) (bs := 4)) (by kernel_rfl) h
noncomputable def qtl : Den := evC cfg (EV cfg) 67 none 0 (sub (ql Tryz.f67) [1, 0, 1, 0, 0])
noncomputable def qtH : Ex × List AV × AH → Option AV := kAft (Cfg.keepOut cfg 67 2) (kRun cfg (EV cfg) (kfN cfg 6) 67 none 0 (qaP cfg (Cfg.lift cfg 67 0) Tryz.f67.results.toList) ([.block 0, .seq (sub (ql Tryz.f67) [1, 1])]))
noncomputable def qs9 : List AV × AH → Option AV := fun p => kOpt (LOOP 0 (some [0, 1, 7, 8]) ([]) qtl p) qtH
noncomputable abbrev qhc (L V : Rz) (v8 : Int) : Option (AV) := qs9  (((fx 19 [(0, .sl L), (1, .fn (Fn.func 214) [] [.cptr [.sl V] 0]), (7, .int .i64 (L.length : Int)), (8, .int .i64 v8)]) : List AV), ([] : AH))
theorem ql9 (L V : Rz) {P : AV → Prop} (h : Gets (kOpt (EVs (EV cfg) 67 [.sl L, AV.fn (Fn.func 214) [] [AV.cptr [.sl V] 0]]) fun v => kInt .i64 v fun n => some (.bool (decide (n ≥ 0)))) P) : Gets (EVs (EV cfg) 90 [.sl L, .fn (Fn.func 214) [] [.cptr [.sl V] 0]]) P :=
  gE (fun _ => funS rfl rfl Tryz.func90 rfl) (by kernel_rfl) h
theorem qnh (L V : Rz) {P : AV → Prop} (h : Gets (qhc L V 0) P) : Gets (EVs (EV cfg) 67 [.sl L, .fn (Fn.func 214) [] [.cptr [.sl V] 0]]) P :=
  gE (fun _ => funS rfl rfl Tryz.func67 rfl) (by kernel_rfl) h
theorem qqK (ke ne : Int) (se : Bz) (le V : Rz) {P : AV → Prop} (h : Gets (kOpt (EVs (EV cfg) 116 [.agg [.int .i64 ke, .int .i64 ne, .str se, .sl le], .sl V]) fun v => ve v fun b => some (.bool ! b)) P) : Gets (EVs (EV cfg) 214 [.agg [.int .i64 ke, .int .i64 ne, .str se, .sl le], .cptr [.sl V] 0]) P :=
  gE (fun _ => funS rfl rfl Tryz.func214 rfl) (by kernel_rfl) h
theorem qfW (L V : Rz) (v8 : Int) {P : AV → Prop} (h : Gets (bif decide (v8 < (L.length : Int)) then bif qj 0 v8 && qp v8 (L.length : Int) then kOpt (qul L (v8.toNat)) fun row => bif qun (qug row) 4 then bif quw 4 (qug row) then kTmC (qux 4 row) fun n n_1 s rows => (kOpt (EVs (EV cfg) 214 [.agg [.int .i64 n, .int .i64 n_1, .str s, .sl rows], AV.cptr [.sl V] 0]) fun v => ve v fun b => bif b then some (.int .i64 v8) else qhc L V (IntKind.wrap .i64 (v8 + 1))) else none else none else none else some (.int .i64 (- 1))) P) : Gets (qhc L V v8) P :=
  gE (fun _ => qB (cfg := cfg) (f := 67) (rd := none) (bs := 0)) (by kernel_rfl) h
noncomputable def qtu : Den := evC cfg (EV cfg) 213 none 0 (sub (ql Tryz.f213) [1, 0, 1, 0, 0])
noncomputable def qtQ : Ex × List AV × AH → Option AV := kAft (Cfg.keepOut cfg 213 2) (kRun cfg (EV cfg) (kfN cfg 6) 213 none 0 (qaP cfg (Cfg.lift cfg 213 0) Tryz.f213.results.toList) ([.block 0, .seq (sub (ql Tryz.f213) [1, 1])]))
noncomputable def qtg : List AV × AH → Option AV := fun p => kOpt (LOOP 0 (some [0, 1, 7, 8]) ([]) qtu p) qtQ
noncomputable abbrev qhj (A : Rz) (n v8 : Int) : Option (AV) := qtg  (((fx 19 [(0, .sl A), (1, .int .i64 n), (7, .int .i64 (A.length : Int)), (8, .int .i64 v8)]) : List AV), ([] : AH))
theorem qkf (op : Bz) {P : AV → Prop} (h : Gets (bif op == [(115 : UInt8), (101 : UInt8), (108 : UInt8), (102 : UInt8)] then some (.sl [[.int .i64 0]]) else bif op == [(105 : UInt8), (115 : UInt8), (95 : UInt8), (97 : UInt8), (116 : UInt8), (111 : UInt8), (109 : UInt8)] then some (.sl [[.int .i64 1]]) else bif op == [(105 : UInt8), (115 : UInt8), (95 : UInt8), (105 : UInt8), (110 : UInt8), (116 : UInt8), (101 : UInt8), (103 : UInt8), (101 : UInt8), (114 : UInt8)] then some (.sl [[.int .i64 1]]) else bif op == [(105 : UInt8), (115 : UInt8), (95 : UInt8), (108 : UInt8), (105 : UInt8), (115 : UInt8), (116 : UInt8)] then some (.sl [[.int .i64 1]]) else bif op == [(105 : UInt8), (115 : UInt8), (95 : UInt8), (116 : UInt8), (117 : UInt8), (112 : UInt8), (108 : UInt8), (101 : UInt8)] then some (.sl [[.int .i64 1]]) else bif op == [(105 : UInt8), (115 : UInt8), (95 : UInt8), (112 : UInt8), (105 : UInt8), (100 : UInt8)] then some (.sl [[.int .i64 1]]) else bif op == [(105 : UInt8), (115 : UInt8), (95 : UInt8), (102 : UInt8), (117 : UInt8), (110 : UInt8), (99 : UInt8), (116 : UInt8), (105 : UInt8), (111 : UInt8), (110 : UInt8)] then some (.sl [[.int .i64 1]]) else bif op == [(105 : UInt8), (115 : UInt8), (95 : UInt8), (114 : UInt8), (101 : UInt8), (102 : UInt8), (101 : UInt8), (114 : UInt8), (101 : UInt8), (110 : UInt8), (99 : UInt8), (101 : UInt8)] then some (.sl [[.int .i64 1]]) else bif op == [(110 : UInt8), (111 : UInt8), (116 : UInt8)] then some (.sl [[.int .i64 1]]) else bif op == [(98 : UInt8), (110 : UInt8), (111 : UInt8), (116 : UInt8)] then some (.sl [[.int .i64 1]]) else bif op == [(97 : UInt8), (98 : UInt8), (115 : UInt8)] then some (.sl [[.int .i64 1]]) else bif op == [(116 : UInt8), (117 : UInt8), (112 : UInt8), (108 : UInt8), (101 : UInt8), (95 : UInt8), (115 : UInt8), (105 : UInt8), (122 : UInt8), (101 : UInt8)] then some (.sl [[.int .i64 1]]) else bif op == [(115 : UInt8), (105 : UInt8), (122 : UInt8), (101 : UInt8)] then some (.sl [[.int .i64 1]]) else bif op == [(104 : UInt8), (100 : UInt8)] then some (.sl [[.int .i64 1]]) else bif op == [(116 : UInt8), (108 : UInt8)] then some (.sl [[.int .i64 1]]) else bif op == [(108 : UInt8), (101 : UInt8), (110 : UInt8), (103 : UInt8), (116 : UInt8), (104 : UInt8)] then some (.sl [[.int .i64 1]]) else bif op == [(43 : UInt8)] then some (.sl [[.int .i64 1], [.int .i64 2]]) else bif op == [(45 : UInt8)] then some (.sl [[.int .i64 1], [.int .i64 2]]) else bif op == [(61 : UInt8), (61 : UInt8)] then some (.sl [[.int .i64 2]]) else bif op == [(61 : UInt8), (58 : UInt8), (61 : UInt8)] then some (.sl [[.int .i64 2]]) else bif op == [(47 : UInt8), (61 : UInt8)] then some (.sl [[.int .i64 2]]) else bif op == [(61 : UInt8), (47 : UInt8), (61 : UInt8)] then some (.sl [[.int .i64 2]]) else bif op == [(60 : UInt8)] then some (.sl [[.int .i64 2]]) else bif op == [(61 : UInt8), (60 : UInt8)] then some (.sl [[.int .i64 2]]) else bif op == [(62 : UInt8)] then some (.sl [[.int .i64 2]]) else bif op == [(62 : UInt8), (61 : UInt8)] then some (.sl [[.int .i64 2]]) else bif op == [(97 : UInt8), (110 : UInt8), (100 : UInt8)] then some (.sl [[.int .i64 2]]) else bif op == [(111 : UInt8), (114 : UInt8)] then some (.sl [[.int .i64 2]]) else bif op == [(120 : UInt8), (111 : UInt8), (114 : UInt8)] then some (.sl [[.int .i64 2]]) else bif op == [(97 : UInt8), (110 : UInt8), (100 : UInt8), (97 : UInt8), (108 : UInt8), (115 : UInt8), (111 : UInt8)] then some (.sl [[.int .i64 2]]) else bif op == [(111 : UInt8), (114 : UInt8), (101 : UInt8), (108 : UInt8), (115 : UInt8), (101 : UInt8)] then some (.sl [[.int .i64 2]]) else bif op == [(42 : UInt8)] then some (.sl [[.int .i64 2]]) else bif op == [(100 : UInt8), (105 : UInt8), (118 : UInt8)] then some (.sl [[.int .i64 2]]) else bif op == [(114 : UInt8), (101 : UInt8), (109 : UInt8)] then some (.sl [[.int .i64 2]]) else bif op == [(98 : UInt8), (97 : UInt8), (110 : UInt8), (100 : UInt8)] then some (.sl [[.int .i64 2]]) else bif op == [(98 : UInt8), (111 : UInt8), (114 : UInt8)] then some (.sl [[.int .i64 2]]) else bif op == [(98 : UInt8), (120 : UInt8), (111 : UInt8), (114 : UInt8)] then some (.sl [[.int .i64 2]]) else bif op == [(101 : UInt8), (108 : UInt8), (101 : UInt8), (109 : UInt8), (101 : UInt8), (110 : UInt8), (116 : UInt8)] then some (.sl [[.int .i64 2]]) else some (.sl [])) P) : Gets (EVf (EV cfg) 172 [.str op]) P :=
  gE (fun _ => funF rfl rfl Tryz.func172 rfl) (by kernel_rfl) h
theorem qkg (A : Rz) (n : Int) {P : AV → Prop} (h : Gets (kOpt (EVs (EV cfg) 213 [.sl A, .int .i64 n]) fun v => kInt .i64 v fun n => some (.bool (decide (n ≥ 0)))) P) : Gets (EVs (EV cfg) 170 [.sl A, .int .i64 n]) P :=
  gE (fun _ => funS rfl rfl Tryz.func170 rfl) (by kernel_rfl) h
theorem qoV (A : Rz) (n : Int) {P : AV → Prop} (h : Gets (qhj A n 0) P) : Gets (EVs (EV cfg) 213 [.sl A, .int .i64 n]) P :=
  gE (fun _ => funS rfl rfl Tryz.func213 rfl) (by kernel_rfl) h
theorem qf3 (A : Rz) (n v8 : Int) {P : AV → Prop} (h : Gets (bif decide (v8 < (A.length : Int)) then bif qj 0 v8 && qp v8 (A.length : Int) then kOpt (qul A (v8.toNat)) fun row => bif qun (qug row) 1 then kOpt (qul row 0) fun v => kInt .i64 v fun n_1 => bif n == n_1 then some (.int .i64 v8) else qhj A n (IntKind.wrap .i64 (v8 + 1)) else none else none else some (.int .i64 (- 1))) P) : Gets (qhj A n v8) P :=
  gE (fun _ => qB (cfg := cfg) (f := 213) (rd := none) (bs := 0)) (by kernel_rfl) h
noncomputable def qts : Den := evC cfg (EV cfg) 98 none 1 (sub (ql Tryz.f98) [1, 1, 1, 0, 1, 0, 0])
noncomputable def qtO : Ex × List AV × AH → Option (AV × List (List AV)) := kAft (Cfg.keepOut cfg 98 6) (kRun cfg (EV cfg) (kfN cfg 6) 98 none 1 (qr1 cfg 1 (Cfg.lift cfg 98 0) Tryz.f98.results.toList) ([.block 0, .seq (sub (ql Tryz.f98) [1, 1, 1, 1])]))
noncomputable def qte : List AV × AH → Option (AV × List (List AV)) := fun p => kOpt (LOOP 1 (some [1, 2, 3, 4, 18, 19, 20]) ([]) qts p) qtO
noncomputable def qtt : Den := evC cfg (EV cfg) 35 none 0 (sub (ql Tryz.f35) [1, 1, 1, 0, 1, 0, 0])
noncomputable def qtP : Ex × List AV × AH → Option AV := kAft (Cfg.keepOut cfg 35 5) (kRun cfg (EV cfg) (kfN cfg 6) 35 none 0 (qaP cfg (Cfg.lift cfg 35 0) Tryz.f35.results.toList) ([.block 0, .seq (sub (ql Tryz.f35) [1, 1, 1, 1])]))
noncomputable def qtf : List AV × AH → Option AV := fun p => kOpt (LOOP 0 (some [1, 2, 5, 6]) ([]) qtt p) qtP
noncomputable abbrev qhh (lt : Rz) (v20 c1_0 c1_1 : Int) (c1_2 : Bz) (c1_3 : Rz) (c2_0 c2_1 : Int) (c2_2 : Bz) (c2_3 h3 : Rz) : Option (AV × List (List AV)) := qte  (((fx 35 [(1, .ptr 0 0 0), (2, .ptr 1 0 0), (3, .ptr 2 0 0), (4, .ms 3 0 (quG (lt.length : Int))), (18, .sl lt), (19, .int .i64 (lt.length : Int)), (20, .int .i64 v20)]) : List AV), ([.rows false 1 [[.fn (Fn.func 98) [] [.ptr 0 0 0]]], .rows false 4 [[.int .i64 c1_0, .int .i64 c1_1, .str c1_2, .sl c1_3]], .rows false 4 [[.int .i64 c2_0, .int .i64 c2_1, .str c2_2, .sl c2_3]], .rows true 4 h3] : AH))
noncomputable abbrev qhi (most v5 v6 c0_0 c0_1 : Int) (c0_2 : Bz) (c0_3 : Rz) : Option (AV) := qtf  (((fx 43 [(1, .int .i64 most), (2, .ptr 0 0 0), (5, .int .i64 v5), (6, .int .i64 v6)]) : List AV), ([.rows false 4 [[.int .i64 c0_0, .int .i64 c0_1, .str c0_2, .sl c0_3]]] : AH))
theorem qj6 (kt nt : Int) (st : Bz) (lt : Rz) {P : AV → Prop} (h : Gets (kOpt (EVk (EV cfg) 98 [.agg [.int .i64 kt, .int .i64 nt, .str st, .sl lt], .ptr 0 0 0] 1 [[AV.fn (Fn.func 98) [] [.ptr 0 0 0]]]) fun q => kTmV q fun n n_1 s rows => (some (.agg [.int .i64 n, .int .i64 n_1, .str s, .sl rows]))) P) : Gets (EVf (EV cfg) 40 [.agg [.int .i64 kt, .int .i64 nt, .str st, .sl lt]]) P :=
  gE (fun _ => funF rfl rfl Tryz.func40 rfl) (by kernel_rfl) h
theorem qo7 (kt nt : Int) (st : Bz) (lt : Rz) {P : AV × List (List AV) → Prop} (h : Gets (bif (lt.length : Int) == 0 then bif AV.refsLt 0 (.agg [.int .i64 kt, .int .i64 nt, .str st, .sl []]) then some (.agg [.int .i64 kt, .int .i64 nt, .str st, .sl []], [[AV.fn (Fn.func 98) [] [.ptr 0 0 0]]]) else none else bif qj 0 (lt.length : Int) && qj (lt.length : Int) (lt.length : Int) && qj ((↑ (qug lt) : Int) * 56) 140737488355328 && qj (lt.length : Int) 9223372036854775807 then qhh lt 0 kt nt st lt 0 0 [] [] (quB (quG (lt.length : Int)) [.int .i64 0, .int .i64 0, .str [], .nilS]) else none) P) : Gets (EVx (EV cfg) 98 [.agg [.int .i64 kt, .int .i64 nt, .str st, .sl lt], .ptr 0 0 0] 1 [[(AV.fn (Fn.func 98) [] [AV.ptr 0 0 0])]]) P :=
  gE (fun _ => funX rfl rfl Tryz.func98 rfl) (by kernel_rfl) h
theorem qoI (kt nt : Int) (st : Bz) (lt : Rz) (most : Int) {P : AV → Prop} (h : Gets (kOpt (EVs (EV cfg) 35 [.agg [.int .i64 kt, .int .i64 nt, .str st, .sl lt], .int .i64 (IntKind.wrap .i64 (most + 1))]) fun v => kInt .i64 v fun n => some (.bool (decide (n > most)))) P) : Gets (EVs (EV cfg) 10 [.agg [.int .i64 kt, .int .i64 nt, .str st, .sl lt], .int .i64 most]) P :=
  gE (fun _ => funS rfl rfl Tryz.func10 rfl) (by kernel_rfl) h
theorem qgn (kt nt : Int) (st : Bz) (lt : Rz) (most : Int) {P : AV → Prop} (h : Gets (bif decide ((st.length : Int) > 100) then some (.int .i64 most) else bif decide ((lt.length : Int) > most) then some (.int .i64 most) else qhi most 1 0 kt nt st lt) P) : Gets (EVs (EV cfg) 35 [.agg [.int .i64 kt, .int .i64 nt, .str st, .sl lt], .int .i64 most]) P :=
  gE (fun _ => funS rfl rfl Tryz.func35 rfl) (by kernel_rfl) h
theorem qf1 (lt : Rz) (v20 c1_0 c1_1 : Int) (c1_2 : Bz) (c1_3 : Rz) (c2_0 c2_1 : Int) (c2_2 : Bz) (c2_3 h3 : Rz) {P : AV × List (List AV) → Prop} (h : Gets (bif decide (v20 < (lt.length : Int)) then bif qj 0 v20 && qp v20 (lt.length : Int) then kOpt (qul lt (v20.toNat)) fun row => bif qun (qug row) 4 then bif quw 4 (qug row) then kTmC (qux 4 row) fun n n_1 s rows => (kOpt (EVk (EV cfg) 98 [.agg [.int .i64 n, .int .i64 n_1, .str s, .sl rows], .ptr 0 0 0] 1 [[AV.fn (Fn.func 98) [] [.ptr 0 0 0]]]) fun q => kTmV q fun n n_2 s rows => (bif qj 0 v20 && qp v20 (↑ (quG (lt.length : Int)) : Int) then kOpt (qul h3 (0 + v20.toNat)) fun row => bif quw 4 (qug row) then qhh lt (IntKind.wrap .i64 (v20 + 1)) c1_0 c1_1 c1_2 c1_3 c2_0 c2_1 c2_2 c2_3 (List.set h3 (0 + v20.toNat) (.int .i64 n :: .int .i64 n_2 :: .str s :: .sl rows :: quN 4 row)) else none else none)) else none else none else none else bif quw (0 + quG (lt.length : Int)) (qug h3) && true then some (.agg [.int .i64 c1_0, .int .i64 c1_1, .str c1_2, .sl (qux (quG (lt.length : Int)) h3)], [[AV.fn (Fn.func 98) [] [.ptr 0 0 0]]]) else none) P) : Gets (qhh lt v20 c1_0 c1_1 c1_2 c1_3 c2_0 c2_1 c2_2 c2_3 h3) P :=
  gE (fun _ => qB (cfg := cfg) (f := 98) (rd := none) (bs := 1)) (by kernel_rfl) h
theorem qf2 (most v5 v6 c0_0 c0_1 : Int) (c0_2 : Bz) (c0_3 : Rz) {P : AV → Prop} (h : Gets (bif decide (v6 < (c0_3.length : Int)) then bif decide (v5 < most) then bif qj 0 v6 && qp v6 (c0_3.length : Int) then kOpt (qul c0_3 (quG v6)) fun row => bif qun (qug row) 4 then bif quw 4 (qug row) then kTmC (qux 4 row) fun n n_1 s rows => (kOpt (EVs (EV cfg) 35 [.agg [.int .i64 n, .int .i64 n_1, .str s, .sl rows], .int .i64 (IntKind.wrap .i64 (most - v5))]) fun v => kInt .i64 v fun n => qhi most (IntKind.wrap .i64 (v5 + n)) (IntKind.wrap .i64 (v6 + 1)) c0_0 c0_1 c0_2 c0_3) else none else none else none else some (.int .i64 v5) else some (.int .i64 v5)) P) : Gets (qhi most v5 v6 c0_0 c0_1 c0_2 c0_3) P :=
  gE (fun _ => qB (cfg := cfg) (f := 35) (rd := none) (bs := 0)) (by kernel_rfl) h
def qa9 : List (List AV) := [[AV.fn (Fn.func 98) [] [AV.ptr 0 0 0]]]
theorem qqv (t : Tm) : t.Ok → EVx (EV cfg) 98 [t.av, .ptr 0 0 0] 1 qa9 = some (t.av, qa9) := by
 induction t using Tm.ind with
 | _ k n s l ih =>
  intro hok
  have hlen := hok.len
  have loop : ∀ (d i : Nat), i + d = l.length → Gets (qhh (qa l) i k n s (qa l) 0 0 [] [] (qa (l.take i) ++ quB d [.int .i64 0, .int .i64 0, .str [], .nilS])) (· = ((Tm.mk k n s l).av, qa9)) := by
   intro d
   induction d with
   | zero =>
    intro i hi
    refine qf1 _ _ _ _ _ _ _ _ _ _ _ ?_
    obtain rfl : i = l.length := by omega
    have e : l.take l.length = l := quu (qum _)
    rw [e]
    simp
    rfl
   | succ d ihd =>
    intro i hi
    refine qf1 _ _ _ _ _ _ _ _ _ _ _ ?_
    have hil : i < l.length := by omega
    have hx : l[i]? = some l[i] := quj hil
    have hxl := quv hx
    have hix := qqY (ih l[i] hxl (hok.sub hxl))
    have hih := ihd (i + 1) (by omega)
    have hw := qsL hil hlen
    have e1 : l.take (i + 1) = l.take i ++ [l[i]] := by rw [List.take_add_one, hx]; rfl
    have ht : (qa (l.take i)).length = i := by rw [qh, List.length_take]; omega
    have g : (qa (l.take i) ++ quB (d + 1) [AV.int .i64 0, .int .i64 0, .str [], .nilS])[i]? = some [AV.int .i64 0, .int .i64 0, .str [], .nilS] := by
     rw [qut (by omega), ht, Nat.sub_self]; rfl
    have g2 : (qa (l.take i) ++ quB (d + 1) [AV.int .i64 0, .int .i64 0, .str [], .nilS]).set i l[i].cells = qa (l.take (i + 1)) ++ quB d [AV.int .i64 0, .int .i64 0, .str [], .nilS] := by
     rw [List.set_append_right _ _ (by omega), e1, vM, qG, vG]
     have e3 : i - (qa (l.take i)).length = 0 := by omega
     rw [e3, List.replicate_succ, List.set_cons_zero, List.append_assoc]; rfl
    simp only [qa9] at hix
    simp [hil, hix, g, hw]
    rw [g2]
    simpa using hih
  apply Gets.get
  rw [Tm.av_mk]
  refine qo7 _ _ _ _ ?_
  rw [qh]
  by_cases hl : l.length = 0
  ·have : l = [] := List.length_eq_zero_iff.1 hl
   subst this
   simp [qa9, AV.refsLt, qt]
  ·have hl' : ((l.length : Int) == 0) = false := by rw [beqD]; exact decide_eq_false (by omega)
   have h56 : qj ((l.length : Int) * 56) 140737488355328 = true := by simp [qj]; omega
   have hm : qj (l.length : Int) 9223372036854775807 = true := by simp [qj]; omega
   have hz : qj 0 (l.length : Int) = true := vq _
   have hs : qj (l.length : Int) (l.length : Int) = true := by simp [qj]
   rw [hl', h56, hm, hz, hs]
   have := loop l.length 0 (by omega)
   rw [Tm.av_mk] at this
   simpa using this
theorem qfQ {t : Tm} (h : t.Ok) : EVf (EV cfg) 40 [t.av] = some t.av := by
 have h1 := qqY (qqv t h)
 obtain ⟨k, n, s, l⟩ := t
 rw [Tm.av_mk] at h1 ⊢
 apply Gets.get
 refine qj6 _ _ _ _ ?_
 simp only [qa9] at h1
 rw [h1]
 simp [← Tm.av_mk]
theorem qsS (op : List UInt8) : EVf (EV cfg) 172 [.str op] = some (.sl (vF (opsG op))) := by
 apply Gets.get
 refine qkf _ ?_
 have h := qjO (fun l => some (AV.sl (vF l))) op [] qeW
 have : Gets (qaJ op (some (AV.sl (vF []))) (qeW.map fun p => (p.1, some (AV.sl (vF p.2))))) (· = .sl (vF (opsG op))) := by
  rw [h]; exact ⟨_, rfl, rfl⟩
 exact this
theorem qrx (l : List Int) (hl : l.length < 1099511627776) (n : Int) : ∀ d i : Nat, i + d = l.length → Gets (qhj (vF l) n i) (fun v => ∃ j : Int, v = .int .i64 j ∧ (0 ≤ j ↔ n ∈ l.drop i)) := by
 intro d
 induction d with
 | zero =>
  intro i hi
  refine qf3 _ _ _ ?_
  rw [qav, decide_eq_false (by omega)]
  refine ⟨_, rfl, -1, rfl, ?_⟩
  rw [List.drop_eq_nil_of_le (by omega)]
  simp
 | succ d ih =>
  intro i hi
  have hil : i < l.length := by omega
  refine qf3 _ _ _ ?_
  have hx : l[i]? = some l[i] := quj hil
  have hd : l.drop i = l[i] :: l.drop (i + 1) := List.drop_eq_getElem_cons hil
  have h := ih (i + 1) (by omega)
  rw [qav, decide_eq_true (show (i : Int) < (l.length : Int) by omega), vq, xT, decide_eq_true hil, qK, quE, qqi, hx, vr hil hl]
  by_cases he : n = l[i]
  ·refine ⟨.int .i64 i, ?_, i, rfl, ?_⟩
   ·simp [he]
   ·rw [hd, he]; exact ⟨fun _ => List.mem_cons_self, fun _ => by omega⟩
  ·have hne : (n == l[i]) = false := by rw [beqI]; exact decide_eq_false he
   simp [hne]
   refine Gets.mono (by simpa using h) ?_
   rintro _ ⟨j, rfl, hj⟩
   exact ⟨j, rfl, by rw [hj, hd, quH]; exact ⟨Or.inr, fun h => h.resolve_left he⟩⟩
theorem qgu (l : List Int) (hl : l.length < 1099511627776) (n : Int) : EVs (EV cfg) 170 [.sl (vF l), .int .i64 n] = some (.bool (decide (n ∈ l))) := by
 obtain ⟨_, h1, j, rfl, hj⟩ := qrx l hl n l.length 0 (by omega)
 have h2 : EVs (EV cfg) 213 [.sl (vF l), .int .i64 n] = some (.int .i64 j) := by
  apply Gets.get
  exact qoV _ _ ⟨_, h1, rfl⟩
 apply Gets.get
 refine qkg _ _ ?_
 rw [h2]
 rw [List.drop_zero] at hj
 refine ⟨_, rfl, ?_⟩
 show AV.bool (decide (j ≥ 0)) = _
 congr 1
 exact decide_eq_decide.2 hj
theorem qrl (op : List UInt8) : (opsG op).length < 1099511627776 := by
 have : ∀ (l : List (List UInt8 × List Int)), (∀ p ∈ l, p.2.length ≤ 2) → (qaJ op [] l).length ≤ 2 := by
  intro l
  induction l with
  | nil => intro _; simp [qaJ]
  | cons p l ih =>
   intro h
   rw [qaJ]
   cases op == p.1
   ·exact ih fun q hq => h q (by simp [hq])
   ·exact h p (by simp)
 have := this qeW (by decide)
 unfold opsG
 omega
theorem qs7 {V : List Int} {l : List Tm} (hlen : l.length < 1099511627776) (ih : ∀ x ∈ l, EVs (EV cfg) 116 [x.av, .sl (vF V)] = some (.bool (isG V x))) :
  EVs (EV cfg) 171 [.sl (qa l), .sl (vF V)] = some (.bool (allG V l)) := by
 have hin : ∀ x ∈ l, EVs (EV cfg) 214 [x.av, .cptr [.sl (vF V)] 0] = some (.bool (!isG V x)) := by
  intro x hx
  have h := ih x hx
  apply Gets.get
  rw [Tm.av, Tm.cells_eq] at h ⊢
  refine qqK _ _ _ _ _ ?_
  rw [h]; exact ⟨_, rfl, rfl⟩
 have loop : ∀ d i : Nat, i + d = l.length → Gets (qhc (qa l) (vF V) i) (fun v => ∃ j : Int, v = .int .i64 j ∧ (0 ≤ j ↔ allG V (l.drop i) = false)) := by
  intro d
  induction d with
  | zero =>
   intro i hi
   refine qfW _ _ _ ?_
   rw [qh, decide_eq_false (by omega)]
   refine ⟨_, rfl, -1, rfl, ?_⟩
   rw [List.drop_eq_nil_of_le (by omega)]
   simp [allG]
  | succ d ihd =>
   intro i hi
   have hil : i < l.length := by omega
   refine qfW _ _ _ ?_
   have hx : l[i]? = some l[i] := quj hil
   have hd : l.drop i = l[i] :: l.drop (i + 1) := List.drop_eq_getElem_cons hil
   have h1 := hin l[i] (quv hx)
   have h2 := ihd (i + 1) (by omega)
   rw [qh, decide_eq_true (show (i : Int) < (l.length : Int) by omega), vq, xT, decide_eq_true hil, qgJ hx, vr hil hlen]
   simp only [cond_true, quy, qN, Nat.beq_refl, q8, q9, show quw 4 4 = true from rfl, xl, h1, qf, qm]
   cases hg : isG V l[i] with
   | false =>
    refine ⟨_, rfl, i, rfl, ?_⟩
    rw [hd, allG, hg]
    exact ⟨fun _ => rfl, fun _ => by omega⟩
   | true =>
    refine h2.mono ?_
    rintro _ ⟨j, rfl, hj⟩
    refine ⟨j, rfl, ?_⟩
    rw [hd, allG, hg, Bool.true_and]; exact hj
 obtain ⟨_, h1, j, rfl, hj⟩ := loop l.length 0 (by omega)
 rw [List.drop_zero] at hj
 have h2 : EVs (EV cfg) 67 [.sl (qa l), .fn (.func 214) [] [.cptr [.sl (vF V)] 0]] = some (.int .i64 j) := by
  apply Gets.get
  exact qnh _ _ ⟨_, h1, rfl⟩
 have h3 : EVs (EV cfg) 90 [.sl (qa l), .fn (.func 214) [] [.cptr [.sl (vF V)] 0]] = some (.bool (decide (j ≥ 0))) := by
  apply Gets.get
  refine ql9 _ _ ?_
  rw [h2]; exact ⟨_, rfl, rfl⟩
 apply Gets.get
 refine qlX _ _ ?_
 rw [h3]
 refine ⟨_, rfl, ?_⟩
 show AV.bool (!decide (j ≥ 0)) = _
 congr 1
 cases ha : allG V l with
 | false => rw [decide_eq_true (hj.2 ha)]; rfl
 | true =>
  have : ¬ j ≥ 0 := fun h => by have := hj.1 h; rw [ha] at this; cases this
  rw [decide_eq_false this]; rfl
theorem qt8 {V : List Int} (hV : V.length < 1099511627776) : ∀ (n : Nat) (t : Tm), t.w ≤ n → n < 1099511627776 → EVs (EV cfg) 116 [t.av, .sl (vF V)] = some (.bool (isG V t)) := by
 intro n
 induction n with
 | zero => intro t h; have := yP t; omega
 | succ n ih =>
  intro t hw hn
  have hwe := t.w_eq
  have hwl := qaA t.subs
  have allOf : ∀ l : List Tm, wL l ≤ n → EVs (EV cfg) 171 [.sl (qa l), .sl (vF V)] = some (.bool (allG V l)) := fun l hl =>
   qs7 (by have := qaA l; omega) fun x hx => ih x (by have := yv hx; omega) (by omega)
  have hvar := qcA (t := t) (by omega)
  have hsub := allOf t.subs (by omega)
  apply Gets.get
  rw [Tm.av, Tm.cells_eq] at hvar ⊢
  refine qnj _ _ _ _ _ ?_
  rw [hvar, hsub]
  simp only [beqI, qf, qm]
  by_cases h2 : t.kind = 2
  ·rw [decide_eq_true h2, cond_true, qrv h2]
   simp only [varR, kTup, qc, qn, qm, kNil]
   cases hv : varT t with
   | none => exact ⟨_, rfl, rfl⟩
   | some x =>
    have hc := qgu V hV x
    simp only [Option.getD_some, Option.isSome_some, Bool.not_true, cond_false]
    rw [hc]; exact ⟨_, rfl, rfl⟩
  ·rw [decide_eq_false h2, cond_false]
   by_cases h9 : t.kind = 9
   ·rw [decide_eq_true h9, cond_true, qlS h9]; exact ⟨_, rfl, rfl⟩
   ·rw [decide_eq_false h9, cond_false]
    by_cases h7 : t.kind = 7
    ·rw [decide_eq_true h7, cond_true]
     cases hl : t.subs with
     | nil => rw [qnX h7 hl]; exact ⟨_, rfl, rfl⟩
     | cons f r =>
      rw [qnW h7 hl]
      rw [hl] at hwl hwe
      rw [qv] at hwe
      have hfw := f.w_eq
      have hfs := allOf f.subs (by omega)
      have hr := allOf r (by omega)
      have c0 : (decide (((qa (f :: r)).length : Int) = 0)) = false := by rw [qh]; exact decide_eq_false (by simp; omega)
      have c1 : qp 0 ((qa (f :: r)).length : Int) = true := by rw [qh]; exact decide_eq_true (by simp)
      have c2 : qj 1 ((qa (f :: r)).length : Int) = true := by rw [qh]; exact decide_eq_true (by simp; omega)
      have g0 : (qa (f :: r))[(0 : Int).toNat]? = some f.cells := by rw [qG]; rfl
      have tk : qux ((qa (f :: r)).length - 1) (quN 1 (qa (f :: r))) = qa r := by
       rw [qG, List.drop_succ_cons, List.drop_zero, quM, Nat.add_sub_cancel, List.take_length]
      have g0' : (qa (f :: r))[0]? = some f.cells := g0
      rw [c0, c1, c2, tk]
      simp only [cond_false, cond_true, qK, g0', qf, qN, Nat.beq_refl, show quw 4 4 = true from rfl, q8, q9, qaE, qh, beqS]
      by_cases f7 : f.kind = 7
      ·rw [if_pos f7, decide_eq_true f7, cond_true, hfs]
       by_cases hrl : r.length = 0
       ·have : decide ((r.length : Int) = 0) = true := decide_eq_true (by omega)
        rw [this, decide_eq_true hrl]; exact ⟨_, rfl, rfl⟩
       ·have : decide ((r.length : Int) = 0) = false := decide_eq_false (by omega)
        rw [this, decide_eq_false hrl]; exact ⟨_, rfl, rfl⟩
      ·rw [if_neg f7, decide_eq_false f7, cond_false]
       by_cases f2 : f.kind = 2
       ·have : (f.kind != 2) = false := by rw [f2]; rfl
        rw [if_pos f2, this, cond_false]
        by_cases hc : f.str = [99, 111, 110, 115, 116]
        ·rw [if_pos hc, decide_eq_true hc]
         refine ⟨_, rfl, ?_⟩
         show AV.bool (decide ((r.length : Int) = 1)) = _
         congr 1
         exact decide_eq_decide.2 (by omega)
        ·rw [if_neg hc, decide_eq_false hc, cond_false, qsS]
         have hcn := qgu (opsG f.str) (qrl f.str) (r.length : Int)
         simp only [qf, yz, hcn, qm, hr]
         cases decide ((r.length : Int) ∈ opsG f.str) <;> exact ⟨_, rfl, rfl⟩
       ·have : (f.kind != 2) = true := by simpa using f2
        rw [if_neg f2, this]; exact ⟨_, rfl, rfl⟩
    ·rw [decide_eq_false h7, qqh h2 h9 h7]; exact ⟨_, rfl, rfl⟩
theorem qes {V : List Int} (hV : V.length < 1099511627776) {t : Tm} (h : t.w < 1099511627776) : EVs (EV cfg) 56 [t.av, .sl (vF V)] = some (.int .i64 (yG V t)) := by
 have hc := qgW h
 have hi := qt8 hV t.w t (qum _) h
 apply Gets.get
 rw [Tm.av, Tm.cells_eq] at hc hi ⊢
 refine qjf _ _ _ _ _ ?_
 rw [hc, hi]
 unfold yG
 simp only [qf, qn, qm]
 by_cases h0 : t.chk = 0
 ·have : (t.chk != 0) = false := by rw [h0]; rfl
  rw [this, if_pos h0]
  cases isG V t <;> exact ⟨_, rfl, rfl⟩
 ·have : (t.chk != 0) = true := by simpa using h0
  rw [this, if_neg h0]; exact ⟨_, rfl, rfl⟩
end Go.Proofs.YtkohdkldmpiiiaaGreat
end
section
namespace Go.Av
theorem qkJ (x : Tm) (l : List Tm) : qul (qa (x :: l)) 0 = some x.cells := by rw [qK, qG]; rfl
theorem qkI (x y : Tm) (l : List Tm) : qul (qa (x :: y :: l)) 1 = some y.cells := by rw [qK, qG, qG]; rfl
theorem lt0T (x : Tm) (l : List Tm) : qp 0 ((qa (x :: l)).length : Int) = true := by rw [qh]; exact decide_eq_true (by simp)
theorem lt1T (x y : Tm) (l : List Tm) : qp 1 ((qa (x :: y :: l)).length : Int) = true := by rw [qh]; exact decide_eq_true (by simp; omega)
theorem qbi : quw 4 4 = true := rfl
theorem qlr {t : Tm} (h : t.chk = 0) : t.Ok := qdu t (by have := qbF h; omega)
end Go.Av
namespace Go.Proofs.YtkohdkldmpiiiaaGreat
open Go.Av
end Go.Proofs.YtkohdkldmpiiiaaGreat
end
section
namespace Go.Av
def qku (x e : Tm) : Tm := .mk 9 0 [] [x, e]
def qbb (l : List Tm) (e : Tm) : Tm := l.foldr qku e
end Go.Av
namespace Go.Proofs.YtkohdkldmpiiiaaGreat
open Go.Av
theorem qcY {l : List Tm} (hlen : l.length < 1099511627776) (e : Tm) : EVf (EV cfg) 64 [.sl (qa l), e.av] = some (qbb l e).av := by
 have loop : ∀ (j : Nat) (a : Tm), j ≤ l.length → Gets (qhd ((j : Int) - 1) a.kind a.num a.str (qa a.subs) 0 0 [] [] (qa l)) (· = ((l.take j).foldr qku a).av) := by
  intro j
  induction j with
  | zero =>
   intro a _
   refine qfX _ _ _ _ _ _ _ _ _ _ ?_
   refine ⟨_, rfl, ?_⟩
   rw [xl]; rfl
  | succ j ih =>
   intro a hj
   refine qfX _ _ _ _ _ _ _ _ _ _ ?_
   have hil : j < l.length := by omega
   have hx : l[j]? = some l[j] := quj hil
   have h := ih (qku l[j] a) (by omega)
   have e1 : l.take (j + 1) = l.take j ++ [l[j]] := by rw [List.take_add_one, hx]; rfl
   have e2 : (((j + 1 : Nat) : Int) - 1) = (j : Int) := by omega
   have w1 : IntKind.wrap .i64 ((j : Int) - 1) = (j : Int) - 1 := xa (by omega) (by omega)
   rw [e2, w1, decide_eq_true (show (j : Int) ≥ 0 by omega), qh, vq, xT, decide_eq_true hil, qgJ hx, e1, List.foldr_append]
   simp only [cond_true, quy, qN, Nat.beq_refl, q8, q9, show quw 4 4 = true from rfl]
   rw [← Tm.cells_eq, ← Tm.cells_eq]
   have e3 : qa (qku l[j] a).subs = [l[j].cells, a.cells] := by show qa [l[j], a] = _; rw [qG, qG, vG]
   rw [e3] at h
   exact h
 apply Gets.get
 rw [Tm.av, Tm.cells_eq]
 refine qlz _ _ _ _ _ ?_
 have h := loop l.length e (qum _)
 rw [List.take_length] at h
 rw [qh, xa (by omega) (by omega)]
 exact h
theorem qjx {p : Nat → Bool} {r : List AV} (h : qbv p r) {n : Nat} (hn : n < 100) : EVs (EV cfg) 217 [.cptr r 0, .int .i64 n] = some (.bool (p n)) := by
 obtain ⟨lo, hi, l, rfl, h1, h2, h3, h4⟩ := h
 have key : ∀ {a k : Nat}, a < 18446744073709551616 → k < 64 → ((((a / 2 ^ k % 2 : Nat) : Int)) == 1) = a.testBit k := by
  intro a k _ _
  rw [Nat.testBit_eq_decide_div_mod_eq]
  rw [beqI]
  exact decide_eq_decide.2 (by omega)
 apply Gets.get
 refine qok _ _ ?_
 unfold zc2
 by_cases hs : n < 64
 ·have e : p n = lo.testBit n := (h3 n hs).symm
  have hd := Nat.div_le_self lo (2 ^ n)
  rw [decide_eq_true (show (n : Int) < 64 by omega), e]
  simp only [cond_true, qK, List.getElem?_cons_zero, qf, qn, qnJ h1 hs, qn4 (show lo / 2 ^ n < 18446744073709551616 by omega), key h1 hs]
  exact ⟨_, rfl, rfl⟩
 ·obtain ⟨k, rfl⟩ : ∃ k, n = k + 64 := ⟨n - 64, by omega⟩
  have hk : k < 64 := by omega
  have e : p (k + 64) = hi.testBit k := (h4 k hk).symm
  have hd := Nat.div_le_self hi (2 ^ k)
  have w : IntKind.wrap .i64 (((k + 64 : Nat) : Int) - 64) = (k : Int) := by rw [xa (by omega) (by omega)]; omega
  rw [decide_eq_false (show ¬ ((k + 64 : Nat) : Int) < 64 by omega), w, e]
  simp only [cond_false, qK, quF, List.getElem?_cons_zero, qf, qn, qnJ h2 hk, qn4 (show hi / 2 ^ k < 18446744073709551616 by omega), key h2 hk]
  exact ⟨_, rfl, rfl⟩
theorem qt9 {n : Nat} (h : n ≤ 1099511627776) : vD n 8 = true := by
 unfold vD
 rw [que, quJ, quJ]
 omega
noncomputable def qtz : Den := evC cfg (EV cfg) 176 none 7 (sub (ql Tryz.f176) [0, 0, 0])
noncomputable def qtV : Ex × List AV × AH → Option AV := kAft (Cfg.keepOut cfg 176 (qg (sub (ql Tryz.f176) [0, 0, 0]))) (xu 0 (kSeq (fun (fr : List AV) (H : AH) => yZ (Cfg.cut cfg 176 (qg (sub (ql Tryz.f176) [1]))) fr H fun (fr : List AV) (H : AH) => vB cfg (EV cfg) (kfN cfg (5)) 176 none 7 (sub (ql Tryz.f176) [1]) fr H (yb cfg (Cfg.lift cfg 176 0) (fun (v : AV) (H : AH) => (fun (r : AV × AH) => yh 0 6 (fx 18 [(4, AV.ptr 1 0 0), (5, AV.ptr 2 0 0)]) (xu 0 (kSeq (fun (fr : List AV) (H : AH) => yZ (Cfg.cut cfg 179 (qg (sub (ql Tryz.f179) [1, 1, 1, 1]))) fr H fun (fr : List AV) (H : AH) => vB cfg (EV cfg) (kfN cfg 6) 179 none 0 (sub (ql Tryz.f179) [1, 1, 1, 1]) fr H (yR cfg (Cfg.lift cfg 179 0) (Array.toList (Func.results Tryz.f179)))) (yR cfg (Cfg.lift cfg 179 0) (Array.toList (Func.results Tryz.f179))))) (Prod.snd r)) (v, H)) (Array.toList (Func.results (Prod.snd (176, Tryz.f176)))))) (yb cfg (Cfg.lift cfg 176 0) (fun (v : AV) (H : AH) => (fun (r : AV × AH) => yh 0 6 (fx 18 [(4, AV.ptr 1 0 0), (5, AV.ptr 2 0 0)]) (xu 0 (kSeq (fun (fr : List AV) (H : AH) => yZ (Cfg.cut cfg 179 (qg (sub (ql Tryz.f179) [1, 1, 1, 1]))) fr H fun (fr : List AV) (H : AH) => vB cfg (EV cfg) (kfN cfg 6) 179 none 0 (sub (ql Tryz.f179) [1, 1, 1, 1]) fr H (yR cfg (Cfg.lift cfg 179 0) (Array.toList (Func.results Tryz.f179)))) (yR cfg (Cfg.lift cfg 179 0) (Array.toList (Func.results Tryz.f179))))) (Prod.snd r)) (v, H)) (Array.toList (Func.results (Prod.snd (176, Tryz.f176)))))))
noncomputable def qqT : List AV × AH → Option AV := fun (p : List AV × AH) => kOpt (LOOP 7 (some [0, 1, 2]) [] qtz p) qtV
noncomputable def qtA : Den := evC cfg (EV cfg) 62 none 0 (sub (ql Tryz.f62) [1, 1, 0, 1, 0, 0])
noncomputable def qtW : Ex × List AV × AH → Option AV := kAft (Cfg.keepOut cfg 62 3) (kRun cfg (EV cfg) (kfN cfg 6) 62 none 0 (yR cfg (Cfg.lift cfg 62 0) Tryz.f62.results.toList) ([.block 0, .seq (sub (ql Tryz.f62) [1, 1, 1])]))
noncomputable def qti : List AV × AH → Option AV := fun p => kOpt (LOOP 0 (some [3, 6, 7, 8]) ([(3, 4)]) qtA p) qtW
noncomputable abbrev qkZ (c0_0 c0_1 : Int) (c0_2 : Bz) (c0_3 : Rz) (nc1_0 : Nat) (c2_0 : Bool) (c3_0 c3_1 : Int) (c3_2 : Bz) (c3_3 h5 : Rz) : Option (AV) := qqT  (((fx 23 [(0, .yld 6), (1, .ptr 3 0 0), (2, .ptr 4 0 0)]) : List AV), ([.rows false 4 [[.int .i64 c0_0, .int .i64 c0_1, .str c0_2, .sl c0_3]], .rows false 1 [[.ms 5 0 nc1_0]], .rows false 1 [[.bool c2_0]], .rows false 4 [[.int .i64 c3_0, .int .i64 c3_1, .str c3_2, .sl c3_3]], .rows false 1 [[.ptr 2 0 0]], .rows true 4 h5, rngB Tryz.f179 179 [1, 1, 1, 0, 1, 0] (fx 18 [(4, .ptr 1 0 0)]) none LoopState.ready] : AH))
noncomputable abbrev qhm (L : Rz) (nv3 : Nat) (v8 : Int) (h0 : Rz) : Option (AV) := qti  (((fx 19 [(3, .ms 0 0 nv3), (6, .sl L), (7, .int .i64 (L.length : Int)), (8, .int .i64 v8)]) : List AV), ([.rows true 4 h0] : AH))
noncomputable abbrev qiY (c0_0 c0_1 : Int) (c0_2 : Bz) (c0_3 : Rz) (nc1_0 : Nat) (c2_0 : Bool) (c3_0 c3_1 : Int) (c3_2 : Bz) (c3_3 h7 : Rz) : Option (AV) := qqT  (((fx 23 [(0, .yld 6), (1, .ptr 3 0 0), (2, .ptr 4 0 0)]) : List AV), ([.rows false 4 [[.int .i64 c0_0, .int .i64 c0_1, .str c0_2, .sl c0_3]], .rows false 1 [[.ms 7 0 nc1_0]], .rows false 1 [[.bool c2_0]], .rows false 4 [[.int .i64 c3_0, .int .i64 c3_1, .str c3_2, .sl c3_3]], .rows false 1 [[.ptr 2 0 0]], .dead, rngB Tryz.f179 179 [1, 1, 1, 0, 1, 0] (fx 18 [(4, .ptr 1 0 0)]) none LoopState.ready, .rows true 4 h7] : AH))
theorem qoA (kt nt : Int) (st : Bz) (lt : Rz) {P : AV → Prop} (h : Gets (bif kt == 2 then bif st == [(95 : UInt8)] then kOpt (EVs (EV cfg) 127 [.agg [.int .i64 kt, .int .i64 nt, .str st, .sl lt]]) fun v => ve v fun b => some (.bool b) else some (.bool false) else some (.bool false)) P) : Gets (EVs (EV cfg) 166 [.agg [.int .i64 kt, .int .i64 nt, .str st, .sl lt]]) P :=
  gE (fun _ => funS rfl rfl Tryz.func166 rfl) (by kernel_rfl) h
theorem qoi (kt nt : Int) (st : Bz) (lt : Rz) {P : AV → Prop} (h : Gets (kOpt (EVs (EV cfg) 117 [.agg [.int .i64 kt, .int .i64 nt, .str st, .sl lt]]) fun v => kTup v fun cs => qc cs fun c cs => kInt .i64 c fun n => qc cs fun c cs => ve c fun b => kNil cs (bif b then some (.bool true) else bif kt == 7 then some (.bool true) else kOpt (EVs (EV cfg) 166 [.agg [.int .i64 kt, .int .i64 nt, .str st, .sl lt]]) fun v => ve v fun b => some (.bool b))) P) : Gets (EVs (EV cfg) 177 [.agg [.int .i64 kt, .int .i64 nt, .str st, .sl lt]]) P :=
  gE (fun _ => funS rfl rfl Tryz.func177 rfl) (by kernel_rfl) h
theorem qoh (kt nt : Int) (st : Bz) (lt : Rz) {P : AV → Prop} (h : Gets (qkZ kt nt st lt 0 false kt nt st lt []) P) : Gets (EVf (EV cfg) 179 [.agg [.int .i64 kt, .int .i64 nt, .str st, .sl lt]]) P :=
  gE (fun _ => funF rfl rfl Tryz.func179 rfl) (by kernel_rfl) h
theorem qmQ (kt nt : Int) (st : Bz) (lt : Rz) {P : AV → Prop} (h : Gets (kOpt (EVq (EV cfg) 61 [.agg [.int .i64 kt, .int .i64 nt, .str st, .sl lt]]) fun q => kInt .i64 q.2 fun n => kOwn q.1 (some (.int .i64 n)) fun sz rs off len => some (.int .i64 n)) P) : Gets (EVs (EV cfg) 65 [.agg [.int .i64 kt, .int .i64 nt, .str st, .sl lt]]) P :=
  gE (fun _ => funS rfl rfl Tryz.func65 rfl) (by kernel_rfl) h
theorem qk9 (L : Rz) {P : AV → Prop} (h : Gets (qhm L 0 0 []) P) : Gets (EVf (EV cfg) 62 [.sl L]) P :=
  gE (fun _ => funF rfl rfl Tryz.func62 rfl) (by kernel_rfl) h
theorem qkb (L : Rz) {P : AV → Prop} (h : Gets (kOpt (EVo (EV cfg) 69 [.sl L]) fun o => kOwn o (some (.agg [.int .i64 7, .int .i64 0, .str [], .sl []])) fun sz rs off len => bif quw (off + len) (qug rs) && true then some (.agg [.int .i64 7, .int .i64 0, .str [], .sl (qux len (quN off rs))]) else none) P) : Gets (EVf (EV cfg) 63 [.sl L]) P :=
  gE (fun _ => funF rfl rfl Tryz.func63 rfl) (by kernel_rfl) h
noncomputable abbrev zl6 (nc1_0 : Nat) (h5 c3_3 : Rz) (c0_0 c0_1 : Int) (c0_2 : Bz) (c0_3 : Rz) (c2_0 : Bool) (n n_1 : Int) (s : Bz) (rows : Rz) : Option (AV) := (bif quw (0 + nc1_0) (qug h5) && vD (nc1_0 + 1) 56 then bif qj 0 (↑ nc1_0 : Int) && qp (↑ nc1_0 : Int) (↑ (nc1_0 + 1) : Int) then kOpt (qul (quD (qux nc1_0 h5) [[AV.int .i64 0, .int .i64 (0 : Int), .str [], .nilS]]) (0 + quG (↑ nc1_0 : Int))) fun row => bif quw 4 (qug row) then bif qp 1 (c3_3.length : Int) then kOpt (qul c3_3 1) fun row_1 => bif qun (qug row_1) 4 then bif quw 4 (qug row_1) then kTmC (qux 4 row_1) fun n_2 n_3 s_1 rows_1 => (qiY c0_0 c0_1 c0_2 c0_3 (nc1_0 + 1) c2_0 n_2 n_3 s_1 rows_1 (List.set (quD (qux nc1_0 h5) [[AV.int .i64 0, .int .i64 0, .str [], .nilS]]) (0 + quG (↑ nc1_0 : Int)) (.int .i64 n :: .int .i64 n_1 :: .str s :: .sl rows :: quN 4 row))) else none else none else none else none else none else none)
noncomputable abbrev zl5 (row : List AV) (nc1_0 : Nat) (h5 c3_3 : Rz) (c0_0 c0_1 : Int) (c0_2 : Bz) (c0_3 : Rz) (c2_0 : Bool) : Option (AV) := kTmC (qux 4 row) fun n n_1 s rows => zl6 nc1_0 h5 c3_3 c0_0 c0_1 c0_2 c0_3 c2_0 n n_1 s rows
noncomputable abbrev zl4 (row : List AV) (nc1_0 : Nat) (h5 c3_3 : Rz) (c0_0 c0_1 : Int) (c0_2 : Bz) (c0_3 : Rz) (c2_0 : Bool) : Option (AV) := bif quw 4 (qug row) then zl5 row nc1_0 h5 c3_3 c0_0 c0_1 c0_2 c0_3 c2_0 else none
noncomputable abbrev zl3 (row : List AV) (nc1_0 : Nat) (h5 c3_3 : Rz) (c0_0 c0_1 : Int) (c0_2 : Bz) (c0_3 : Rz) (c2_0 : Bool) : Option (AV) := bif qun (qug row) 4 then zl4 row nc1_0 h5 c3_3 c0_0 c0_1 c0_2 c0_3 c2_0 else none
noncomputable abbrev zl2 (c3_3 : Rz) (nc1_0 : Nat) (h5 : Rz) (c0_0 c0_1 : Int) (c0_2 : Bz) (c0_3 : Rz) (c2_0 : Bool) : Option (AV) := kOpt (qul c3_3 0) fun row => zl3 row nc1_0 h5 c3_3 c0_0 c0_1 c0_2 c0_3 c2_0
noncomputable abbrev zl1 (c3_3 : Rz) (nc1_0 : Nat) (h5 : Rz) (c0_0 c0_1 : Int) (c0_2 : Bz) (c0_3 : Rz) (c2_0 : Bool) : Option (AV) := bif qp 0 (c3_3.length : Int) then zl2 c3_3 nc1_0 h5 c0_0 c0_1 c0_2 c0_3 c2_0 else none
noncomputable abbrev zl0 (c3_0 : Int) (c3_3 : Rz) (nc1_0 : Nat) (h5 : Rz) (c0_0 c0_1 : Int) (c0_2 : Bz) (c0_3 : Rz) (c2_0 : Bool) : Option (AV) := bif c3_0 == 9 then zl1 c3_3 nc1_0 h5 c0_0 c0_1 c0_2 c0_3 c2_0 else bif quw (0 + nc1_0) (qug h5) && true then some (AV.tup [.sl (qux nc1_0 h5), .bool (c3_0 == 8)]) else none
theorem qmJ (c0_0 c0_1 : Int) (c0_2 : Bz) (c0_3 : Rz) (nc1_0 : Nat) (c2_0 : Bool) (c3_0 c3_1 : Int) (c3_2 : Bz) (c3_3 h5 : Rz) {P : AV → Prop} (h : Gets (zl0 c3_0 c3_3 nc1_0 h5 c0_0 c0_1 c0_2 c0_3 c2_0) P) : Gets (qkZ c0_0 c0_1 c0_2 c0_3 nc1_0 c2_0 c3_0 c3_1 c3_2 c3_3 h5) P :=
  gE (fun _ => qB (cfg := cfg) (f := 176) (rd := none) (bs := 7)) (by kernel_rfl) h
theorem qf6 (L : Rz) (nv3 : Nat) (v8 : Int) (h0 : Rz) {P : AV → Prop} (h : Gets (bif decide (v8 < (L.length : Int)) then bif qj 0 v8 && qp v8 (L.length : Int) then kOpt (qul L (v8.toNat)) fun row => bif qun (qug row) 4 then bif quw 4 (qug row) then kTmC (qux 4 row) fun n n_1 s rows => (kOpt (EVf (EV cfg) 40 [.agg [.int .i64 n, .int .i64 n_1, .str s, .sl rows]]) fun v => kTmV v fun n n_2 s rows => (bif quw (0 + nv3) (qug h0) && vD (nv3 + 1) 56 then qhm L (nv3 + 1) (IntKind.wrap .i64 (v8 + 1)) (quD (qux nv3 h0) [[AV.int .i64 n, .int .i64 n_2, .str s, .sl rows]]) else none)) else none else none else none else bif quw (0 + nv3) (qug h0) && true then some (.sl (qux nv3 h0)) else none) P) : Gets (qhm L nv3 v8 h0) P :=
  gE (fun _ => qB (cfg := cfg) (f := 62) (rd := none) (bs := 0)) (by kernel_rfl) h
theorem qkY (c0_0 c0_1 : Int) (c0_2 : Bz) (c0_3 : Rz) (nc1_0 : Nat) (c2_0 : Bool) (c3_0 c3_1 : Int) (c3_2 : Bz) (c3_3 h7 : Rz) {P : AV → Prop} (h : Gets (zl0 c3_0 c3_3 nc1_0 h7 c0_0 c0_1 c0_2 c0_3 c2_0) P) : Gets (qiY c0_0 c0_1 c0_2 c0_3 nc1_0 c2_0 c3_0 c3_1 c3_2 c3_3 h7) P :=
  gE (fun _ => qB (cfg := cfg) (f := 176) (rd := none) (bs := 7)) (by kernel_rfl) h
theorem qpi (r : List AV) (L : Rz) {P : OV → Prop} (h : Gets (bif vR 4 (r :: L) then bif vD (0 + qug (r :: L)) 56 then some (OV.own 4 (r :: L) 0 (0 + qug (r :: L))) else none else none) P) : Gets (EVo (EV cfg) 69 [.sl (r :: L)]) P :=
  gE (fun _ => funO rfl rfl Tryz.func69 rfl) (by kernel_rfl) h
end Go.Proofs.YtkohdkldmpiiiaaGreat
end
section
namespace Go.Av
def lsR (r : List Tm × Bool) : AV := .tup [.sl (qa r.1), .bool r.2]
end Go.Av
namespace Go.Proofs.YtkohdkldmpiiiaaGreat
open Go.Av
theorem qjL {t : Tm} (h : t.w < 1099511627776) : EVs (EV cfg) 166 [t.av] = some (.bool (anyT t)) := by
 have hm := qeS h
 apply Gets.get
 rw [Tm.av, Tm.cells_eq] at hm ⊢
 refine qoA _ _ _ _ ?_
 rw [hm]
 simp only [beqI, beqS, qf, qm]
 unfold anyT
 cases decide (t.kind = 2) <;> cases decide (t.str = [95]) <;> exact ⟨_, rfl, rfl⟩
theorem qpK {t : Tm} (h : t.w < 1099511627776) : EVs (EV cfg) 177 [t.av] = some (.bool (qd5 t)) := by
 have hv := qcA h
 have ha := qjL h
 apply Gets.get
 rw [Tm.av, Tm.cells_eq] at hv ha ⊢
 refine qoi _ _ _ _ ?_
 rw [hv, ha]
 unfold qd5 varR
 simp only [beqI, qf, qm, kTup, qc, qn, kNil]
 cases (varT t).isSome <;> cases decide (t.kind = 7) <;> exact ⟨_, rfl, rfl⟩
theorem qqG {x : Tm} {l : List Tm} (h : l.length < 1099511627775) : EVo (EV cfg) 69 [.sl (qa (x :: l))] = some (.own 4 (qa (x :: l)) 0 (x :: l).length) := by
 apply Gets.get
 rw [qG]
 refine qpi _ _ ?_
 rw [← qG, qaE]
 simp only [cond_true, qh, quM, Nat.zero_add, zN (show l.length + 1 ≤ 1099511627776 by omega)]
 exact ⟨_, rfl, rfl⟩
theorem qly {x : Tm} {l : List Tm} (h : l.length < 1099511627775) : EVf (EV cfg) 63 [.sl (qa (x :: l))] = some (tupT (x :: l)).av := by
 apply Gets.get
 refine qkb _ ?_
 rw [qqG h, tupT, Tm.av_mk]
 have hb : quw (0 + (x :: l).length) (qa (x :: l)).length = true := by rw [quJ, qh]; omega
 have ht : qux (x :: l).length (quN 0 (qa (x :: l))) = qa (x :: l) := quu (by simp)
 simp only [qf, qgO, hb, ht, Bool.and_true, cond_true]
 exact ⟨_, rfl, rfl⟩
theorem qgb {l : List Tm} (hlen : l.length < 1099511627776) (hc : ∀ x ∈ l, x.Ok) : EVf (EV cfg) 62 [.sl (qa l)] = some (.sl (qa l)) := by
 have loop : ∀ d i : Nat, i + d = l.length → Gets (qhm (qa l) i i (qa (l.take i))) (· = .sl (qa l)) := by
  intro d
  induction d with
  | zero =>
   intro i hi
   refine qf6 _ _ _ _ ?_
   obtain rfl : i = l.length := by omega
   have hb : quw (0 + l.length) (qa l).length = true := by rw [quJ, qh]; omega
   have ht : qux l.length (qa l) = qa l := quu (by simp)
   rw [List.take_length, hb, ht, qh, decide_eq_false (by omega)]
   exact ⟨_, rfl, rfl⟩
  | succ d ihd =>
   intro i hi
   have hil : i < l.length := by omega
   refine qf6 _ _ _ _ ?_
   have hx : l[i]? = some l[i] := quj hil
   have h1 := qfQ (hc l[i] (quv hx))
   have h2 := ihd (i + 1) (by omega)
   have e1 : l.take (i + 1) = l.take i ++ [l[i]] := by rw [List.take_add_one, hx]; rfl
   have ht : (qa (l.take i)).length = i := by rw [qh, List.length_take]; omega
   have e2 : quD (qux i (qa (l.take i))) [l[i].cells] = qa (l.take (i + 1)) := by
    rw [quu (by omega), e1, vM, qG, vG]; rfl
   have e3 : quw (0 + i) (qa (l.take i)).length = true := by rw [ht, quJ]; omega
   rw [qh, decide_eq_true (show (i : Int) < (l.length : Int) by omega), vq, xT, decide_eq_true hil, qgJ hx, vr hil hlen, e3, zN (by omega)]
   simp only [cond_true, quy, qN, Nat.beq_refl, q8, q9, qbi, xl, h1, qf, qa4]
   rw [← Tm.cells_eq, e2]
   exact h2
 apply Gets.get
 refine qk9 _ ?_
 exact (by simpa [vG] using loop l.length 0 (by omega))
theorem qk7 {c : Tm} {b : Bool} : ∀ (n : Nat) (t : Tm) (acc : List Tm), t.w ≤ n → t.chk = 0 → acc.length + n < 1099511627776 → Gets (qiY c.kind c.num c.str (qa c.subs) acc.length b t.kind t.num t.str (qa t.subs) (qa acc)) (· = lsR (acc ++ (qw t).1, (qw t).2)) := by
 intro n
 induction n with
 | zero => intro t acc h; have := yP t; omega
 | succ n ih =>
  intro t acc hw hc hn
  refine qkY _ _ _ _ _ _ _ _ _ _ _ ?_
  unfold zl0 zl1 zl2 zl3 zl4 zl5 zl6
  rw [beqI, beqI]
  by_cases h9 : t.kind = 9
  ·obtain ⟨x, y, hs⟩ := qcr hc h9
   have hwe := t.w_eq
   rw [hs] at hwe
   simp only [qv, xp] at hwe
   have h := ih y (acc ++ [x]) (by omega) (xi hc (by rw [hs]; simp)) (by simp; omega)
   have e1 : quw (0 + acc.length) (qa acc).length = true := by rw [quJ, qh]; omega
   have e2 : qux acc.length (qa acc) = qa acc := quu (by simp)
   have e3 : qp (acc.length : Int) ((acc.length + 1 : Nat) : Int) = true := decide_eq_true (by omega)
   have e4 : (quD (qa acc) [[AV.int .i64 0, .int .i64 0, .str [], .nilS]])[0 + quG (acc.length : Int)]? = some [AV.int .i64 0, .int .i64 0, .str [], .nilS] := by
    rw [quE, Nat.zero_add]
    have := qg1 (qa acc) [AV.int .i64 0, .int .i64 0, .str [], .nilS]
    rw [qh] at this
    exact this
   have e5 : List.set (quD (qa acc) [[AV.int .i64 0, .int .i64 0, .str [], .nilS]]) (0 + quG (acc.length : Int)) x.cells = qa (acc ++ [x]) := by
    rw [quE, Nat.zero_add]
    have := qg0 (qa acc) [AV.int .i64 0, .int .i64 0, .str [], .nilS] x.cells
    rw [qh] at this
    rw [vM, qG, vG]
    exact this
   rw [decide_eq_true h9, cond_true, hs, lt0T, qkJ, lt1T, qkI, e1, e2, zN (by omega), vq, e3, qK, e4]
   simp only [cond_true, quy, qf, qN, Nat.beq_refl, q8, q9, quM, List.length_nil, show quw 4 (0 + 1 + 1 + 1 + 1) = true from rfl, List.drop_succ_cons, List.drop_zero]
   rw [← Tm.cells_eq, e5, xo h9 hs]
   rw [qus] at h
   refine Gets.mono h ?_
   rintro _ rfl
   simp [lsR]
  ·have e1 : quw (0 + acc.length) (qa acc).length = true := by rw [quJ, qh]; omega
   have e2 : qux acc.length (qa acc) = qa acc := quu (by simp)
   rw [decide_eq_false h9, cond_false, e1, e2, yB h9]
   exact ⟨_, rfl, by simp [lsR]⟩
theorem qmP {c : Tm} {b : Bool} : ∀ (n : Nat) (t : Tm) (acc : List Tm), t.w ≤ n → t.chk = 0 → acc.length + n < 1099511627776 → Gets (qkZ c.kind c.num c.str (qa c.subs) acc.length b t.kind t.num t.str (qa t.subs) (qa acc)) (· = lsR (acc ++ (qw t).1, (qw t).2)) := by
 intro n
 induction n with
 | zero => intro t acc h; have := yP t; omega
 | succ n ih =>
  intro t acc hw hc hn
  refine qmJ _ _ _ _ _ _ _ _ _ _ _ ?_
  unfold zl0 zl1 zl2 zl3 zl4 zl5 zl6
  rw [beqI, beqI]
  by_cases h9 : t.kind = 9
  ·obtain ⟨x, y, hs⟩ := qcr hc h9
   have hwe := t.w_eq
   rw [hs] at hwe
   simp only [qv, xp] at hwe
   have h := qk7 (c := c) (b := b) n y (acc ++ [x]) (by omega) (xi hc (by rw [hs]; simp)) (by simp; omega)
   have e1 : quw (0 + acc.length) (qa acc).length = true := by rw [quJ, qh]; omega
   have e2 : qux acc.length (qa acc) = qa acc := quu (by simp)
   have e3 : qp (acc.length : Int) ((acc.length + 1 : Nat) : Int) = true := decide_eq_true (by omega)
   have e4 : (quD (qa acc) [[AV.int .i64 0, .int .i64 0, .str [], .nilS]])[0 + quG (acc.length : Int)]? = some [AV.int .i64 0, .int .i64 0, .str [], .nilS] := by
    rw [quE, Nat.zero_add]
    have := qg1 (qa acc) [AV.int .i64 0, .int .i64 0, .str [], .nilS]
    rw [qh] at this
    exact this
   have e5 : List.set (quD (qa acc) [[AV.int .i64 0, .int .i64 0, .str [], .nilS]]) (0 + quG (acc.length : Int)) x.cells = qa (acc ++ [x]) := by
    rw [quE, Nat.zero_add]
    have := qg0 (qa acc) [AV.int .i64 0, .int .i64 0, .str [], .nilS] x.cells
    rw [qh] at this
    rw [vM, qG, vG]
    exact this
   rw [decide_eq_true h9, cond_true, hs, lt0T, qkJ, lt1T, qkI, e1, e2, zN (by omega), vq, e3, qK, e4]
   simp only [cond_true, quy, qf, qN, Nat.beq_refl, q8, q9, quM, List.length_nil, show quw 4 (0 + 1 + 1 + 1 + 1) = true from rfl, List.drop_succ_cons, List.drop_zero]
   rw [← Tm.cells_eq, e5, xo h9 hs]
   rw [qus] at h
   refine Gets.mono h ?_
   rintro _ rfl
   simp [lsR]
  ·have e1 : quw (0 + acc.length) (qa acc).length = true := by rw [quJ, qh]; omega
   have e2 : qux acc.length (qa acc) = qa acc := quu (by simp)
   rw [decide_eq_false h9, cond_false, e1, e2, yB h9]
   exact ⟨_, rfl, by simp [lsR]⟩
theorem qjw {t : Tm} (hc : t.chk = 0) : EVf (EV cfg) 179 [t.av] = some (lsR (qw t)) := by
 apply Gets.get
 rw [Tm.av, Tm.cells_eq]
 refine qoh _ _ _ _ ?_
 have hw := qbF hc
 have h := qmP (c := t) (b := false) t.w t [] (qum _) hc (by simp; omega)
 rw [vG] at h
 exact h
noncomputable def qtr : Den := evC cfg (EV cfg) 181 none 4 (sub (ql Tryz.f181) [0, 1, 1, 0, 0])
noncomputable def qtN : Ex × List AV × AH → Option AV := kAft (Cfg.keepOut cfg 181 (qg (sub (ql Tryz.f181) [0, 1, 1, 0, 0]))) (xu 0 (qh1 (yb cfg (Cfg.lift cfg 181 0) (fun (v : AV) (H : AH) => (fun (r : AV × AH) => yh 0 3 (fx 40 [(3, AV.ptr 1 0 0)]) (xu 0 (kSeq (fun (fr : List AV) (H : AH) => yZ (Cfg.cut cfg 178 (qg (sub (ql Tryz.f178) [1, 1, 1, 1]))) fr H fun (fr : List AV) (H : AH) => vB cfg (EV cfg) (kfN cfg 6) 178 none 0 (sub (ql Tryz.f178) [1, 1, 1, 1]) fr H (yR cfg (Cfg.lift cfg 178 0) (Array.toList (Func.results Tryz.f178)))) (yR cfg (Cfg.lift cfg 178 0) (Array.toList (Func.results Tryz.f178))))) (Prod.snd r)) (v, H)) (Array.toList (Func.results (Prod.snd (181, Tryz.f181)))))))
noncomputable def qqP : List AV × AH → Option AV := fun (p : List AV × AH) => kOpt (LOOP 4 (some [0, 3]) [(3, 4)] qtr p) qtN
noncomputable def qtq : Den := evC cfg (EV cfg) 178 none 0 (sub (ql Tryz.f178) [1, 1, 1, 1, 1, 0, 1, 0, 0])
noncomputable def qtM : Ex × List AV × AH → Option AV := kAft (Cfg.keepOut cfg 178 11) (kRun cfg (EV cfg) (kfN cfg 6) 178 none 0 (yR cfg (Cfg.lift cfg 178 0) Tryz.f178.results.toList) ([.block 2, .seq (sub (ql Tryz.f178) [1, 1, 1, 1, 1, 1])]))
noncomputable def qqO : List AV × AH → Option AV := fun p => kOpt (LOOP 0 (some [3, 7, 29]) ([(7, 1)]) qtq p) qtM
noncomputable abbrev qaz (nv3 : Nat) (c0_0 c0_1 : Int) (c0_2 : Bz) (c0_3 : Rz) (c1_0 c1_1 c2_0 c2_1 : Int) (c2_2 : Bz) (c2_3 h4 : Rz) : Option (AV) := qqP  (((fx 37 [(0, .yld 3), (3, .ms 4 0 nv3)]) : List AV), ([.rows false 4 [[.int .i64 c0_0, .int .i64 c0_1, .str c0_2, .sl c0_3]], .rows false 2 [[.int .u64 c1_0, .int .u64 c1_1]], .rows false 4 [[.int .i64 c2_0, .int .i64 c2_1, .str c2_2, .sl c2_3]], rngB Tryz.f178 178 [1, 1, 1, 0, 1, 0] (fx 40 [(3, .ptr 1 0 0)]) none LoopState.ready, .rows true 4 h4] : AH))
noncomputable abbrev zs (nv3 : Nat) (c0_0 c0_1 : Int) (c0_2 : Bz) (c0_3 h1 : Rz) (c2_0 c2_1 : Int) (c2_2 : Bz) (c2_3 h4 : Rz) : Option (AV) := qqP  (((fx 37 [(0, .yld 3), (3, .ms 4 0 nv3)]) : List AV), ([.rows false 4 [[.int .i64 c0_0, .int .i64 c0_1, .str c0_2, .sl c0_3]], .rows true 2 h1, .rows false 4 [[.int .i64 c2_0, .int .i64 c2_1, .str c2_2, .sl c2_3]], rngB Tryz.f178 178 [1, 1, 1, 0, 1, 0] (fx 40 [(3, .ptr 1 0 0)]) none LoopState.ready, .rows true 4 h4] : AH))
noncomputable abbrev qdk (nv7 : Nat) (v29 c0_0 c0_1 : Int) (h1 : Rz) : Option (AV) := qqO  (((fx 40 [(3, .ptr 0 0 0), (7, .ms 1 0 nv7), (29, .int .i64 v29)]) : List AV), ([.rows false 2 [[.int .u64 c0_0, .int .u64 c0_1]], .rows true 1 h1] : AH))
noncomputable abbrev qbT (nv7 : Nat) (v29 : Int) (h0 h1 : Rz) : Option (AV) := qqO  (((fx 40 [(3, .ptr 0 0 0), (7, .ms 1 0 nv7), (29, .int .i64 v29)]) : List AV), ([.rows true 2 h0, .rows true 1 h1] : AH))
theorem qgc (n : Int) (r : List AV) {P : MV × List (List AV) → Prop} (h : Gets (bif decide (n < 64) then kOpt (qul r 0) fun v => kInt .u64 v fun n_1 => kOpt (vU (Op.shift BinOp.shl .u64 1 .i64 n)) fun v => kInt .u64 v fun n => kOpt (vU (Op.intBits BinOp.or .u64 n_1 n)) fun v => kInt .u64 v fun n => bif quw 1 (qug r) then some (MV.unit, [AV.int .u64 n :: quN 1 r]) else none else kOpt (qul r 1) fun v => kInt .u64 v fun n_1 => kOpt (vU (Op.shift BinOp.shl .u64 1 .i64 (IntKind.wrap .i64 (n - 64)))) fun v => kInt .u64 v fun n => kOpt (vU (Op.intBits BinOp.or .u64 n_1 n)) fun v => kInt .u64 v fun n => bif quw 2 (qug r) then some (MV.unit, [quD (quD (qux 1 r) [AV.int .u64 n]) (quN 2 r)]) else none) P) : Gets (EVm (EV cfg) 216 [.ptr 0 0 0, .int .i64 n] 2 [r]) P :=
  gE (fun _ => funM rfl rfl Tryz.func216 rfl) (by kernel_rfl) h
theorem qmX (kp np : Int) (sp : Bz) (lp : Rz) {P : AV → Prop} (h : Gets (kOpt (EVs (EV cfg) 127 [.agg [.int .i64 kp, .int .i64 np, .str sp, .sl lp]]) fun v => ve v fun b => bif ! b then some (.sl []) else qaz 1 kp np sp lp 0 (0 : Int) kp np sp lp [[AV.int .i64 kp, .int .i64 np, .str sp, .sl lp]]) P) : Gets (EVf (EV cfg) 178 [.agg [.int .i64 kp, .int .i64 np, .str sp, .sl lp]]) P :=
  gE (fun _ => funF rfl rfl Tryz.func178 rfl) (by kernel_rfl) h
theorem qcQ (nv3 : Nat) (c0_0 c0_1 : Int) (c0_2 : Bz) (c0_3 : Rz) (c1_0 c1_1 c2_0 c2_1 : Int) (c2_2 : Bz) (c2_3 h4 : Rz) {P : AV → Prop} (h : Gets (bif decide ((↑ nv3 : Int) > 0) then bif qj 0 (IntKind.wrap .i64 ((↑ nv3 : Int) - 1)) && qp (IntKind.wrap .i64 ((↑ nv3 : Int) - 1)) (↑ nv3 : Int) then kOpt (qul h4 (0 + quG (IntKind.wrap .i64 ((↑ nv3 : Int) - 1)))) fun row => bif quw 4 (qug row) then kTmC (qux 4 row) fun n n_1 s rows => (bif qj 0 (IntKind.wrap .i64 ((↑ nv3 : Int) - 1)) && qj (IntKind.wrap .i64 ((↑ nv3 : Int) - 1)) (↑ nv3 : Int) then bif n == 7 then bif vR 4 rows then bif quw (0 + (quG (IntKind.wrap .i64 ((↑ nv3 : Int) - 1)) - 0)) (qug h4) && vD (quG (IntKind.wrap .i64 ((↑ nv3 : Int) - 1)) - 0 + qug rows) 56 then qaz (quG (IntKind.wrap .i64 ((↑ nv3 : Int) - 1)) - 0 + qug rows) c0_0 c0_1 c0_2 c0_3 c1_0 c1_1 c2_0 c2_1 c2_2 c2_3 (quD (qux (quG (IntKind.wrap .i64 ((↑ nv3 : Int) - 1)) - 0) h4) rows) else none else none else bif n == 9 then bif vR 4 rows then bif quw (0 + (quG (IntKind.wrap .i64 ((↑ nv3 : Int) - 1)) - 0)) (qug h4) && vD (quG (IntKind.wrap .i64 ((↑ nv3 : Int) - 1)) - 0 + qug rows) 56 then qaz (quG (IntKind.wrap .i64 ((↑ nv3 : Int) - 1)) - 0 + qug rows) c0_0 c0_1 c0_2 c0_3 c1_0 c1_1 c2_0 c2_1 c2_2 c2_3 (quD (qux (quG (IntKind.wrap .i64 ((↑ nv3 : Int) - 1)) - 0) h4) rows) else none else none else kOpt (EVs (EV cfg) 129 [.str s]) fun v => kTup v fun cs => qc cs fun c cs => kInt .i64 c fun n_2 => qc cs fun c cs => ve c fun b => kNil cs (bif b then bif n == 2 then kOpt (EVm (EV cfg) 216 [.ptr 0 0 0, .int .i64 n_2] 2 [[AV.int .u64 c1_0, .int .u64 c1_1]]) fun q => qbq q.1 (zs (quG (IntKind.wrap .i64 ((↑ nv3 : Int) - 1)) - 0) c0_0 c0_1 c0_2 c0_3 q.2 c2_0 c2_1 c2_2 c2_3 h4) else qaz (quG (IntKind.wrap .i64 ((↑ nv3 : Int) - 1)) - 0) c0_0 c0_1 c0_2 c0_3 c1_0 c1_1 c2_0 c2_1 c2_2 c2_3 h4 else qaz (quG (IntKind.wrap .i64 ((↑ nv3 : Int) - 1)) - 0) c0_0 c0_1 c0_2 c0_3 c1_0 c1_1 c2_0 c2_1 c2_2 c2_3 h4) else none) else none else none else qdk 0 0 c1_0 c1_1 []) P) : Gets (qaz nv3 c0_0 c0_1 c0_2 c0_3 c1_0 c1_1 c2_0 c2_1 c2_2 c2_3 h4) P :=
  gE (fun _ => qB (cfg := cfg) (f := 181) (rd := none) (bs := 4)) (by kernel_rfl) h
theorem qb5 (nv3 : Nat) (c0_0 c0_1 : Int) (c0_2 : Bz) (c0_3 h1 : Rz) (c2_0 c2_1 : Int) (c2_2 : Bz) (c2_3 h4 : Rz) {P : AV → Prop} (h : Gets (bif decide ((↑ nv3 : Int) > 0) then bif qj 0 (IntKind.wrap .i64 ((↑ nv3 : Int) - 1)) && qp (IntKind.wrap .i64 ((↑ nv3 : Int) - 1)) (↑ nv3 : Int) then kOpt (qul h4 (0 + quG (IntKind.wrap .i64 ((↑ nv3 : Int) - 1)))) fun row => bif quw 4 (qug row) then kTmC (qux 4 row) fun n n_1 s rows => (bif qj 0 (IntKind.wrap .i64 ((↑ nv3 : Int) - 1)) && qj (IntKind.wrap .i64 ((↑ nv3 : Int) - 1)) (↑ nv3 : Int) then bif n == 7 then bif vR 4 rows then bif quw (0 + (quG (IntKind.wrap .i64 ((↑ nv3 : Int) - 1)) - 0)) (qug h4) && vD (quG (IntKind.wrap .i64 ((↑ nv3 : Int) - 1)) - 0 + qug rows) 56 then zs (quG (IntKind.wrap .i64 ((↑ nv3 : Int) - 1)) - 0 + qug rows) c0_0 c0_1 c0_2 c0_3 h1 c2_0 c2_1 c2_2 c2_3 (quD (qux (quG (IntKind.wrap .i64 ((↑ nv3 : Int) - 1)) - 0) h4) rows) else none else none else bif n == 9 then bif vR 4 rows then bif quw (0 + (quG (IntKind.wrap .i64 ((↑ nv3 : Int) - 1)) - 0)) (qug h4) && vD (quG (IntKind.wrap .i64 ((↑ nv3 : Int) - 1)) - 0 + qug rows) 56 then zs (quG (IntKind.wrap .i64 ((↑ nv3 : Int) - 1)) - 0 + qug rows) c0_0 c0_1 c0_2 c0_3 h1 c2_0 c2_1 c2_2 c2_3 (quD (qux (quG (IntKind.wrap .i64 ((↑ nv3 : Int) - 1)) - 0) h4) rows) else none else none else kOpt (EVs (EV cfg) 129 [.str s]) fun v => kTup v fun cs => qc cs fun c cs => kInt .i64 c fun n_2 => qc cs fun c cs => ve c fun b => kNil cs (bif b then bif n == 2 then kOpt (EVm (EV cfg) 216 [.ptr 0 0 0, .int .i64 n_2] 2 h1) fun q => qbq q.1 (zs (quG (IntKind.wrap .i64 ((↑ nv3 : Int) - 1)) - 0) c0_0 c0_1 c0_2 c0_3 q.2 c2_0 c2_1 c2_2 c2_3 h4) else zs (quG (IntKind.wrap .i64 ((↑ nv3 : Int) - 1)) - 0) c0_0 c0_1 c0_2 c0_3 h1 c2_0 c2_1 c2_2 c2_3 h4 else zs (quG (IntKind.wrap .i64 ((↑ nv3 : Int) - 1)) - 0) c0_0 c0_1 c0_2 c0_3 h1 c2_0 c2_1 c2_2 c2_3 h4) else none) else none else none else qbT 0 0 h1 []) P) : Gets (zs nv3 c0_0 c0_1 c0_2 c0_3 h1 c2_0 c2_1 c2_2 c2_3 h4) P :=
  gE (fun _ => qB (cfg := cfg) (f := 181) (rd := none) (bs := 4)) (by kernel_rfl) h
theorem qf0 (nv7 : Nat) (v29 c0_0 c0_1 : Int) (h1 : Rz) {P : AV → Prop} (h : Gets (bif decide (v29 < 100) then kOpt (EVs (EV cfg) 217 [AV.cptr [AV.int .u64 c0_0, .int .u64 c0_1] 0, .int .i64 v29]) fun v => ve v fun b => bif b then bif quw (0 + nv7) (qug h1) && vD (nv7 + 1) 8 then qdk (nv7 + 1) (IntKind.wrap .i64 (v29 + 1)) c0_0 c0_1 (quD (qux nv7 h1) [[AV.int .i64 v29]]) else none else qdk nv7 (IntKind.wrap .i64 (v29 + 1)) c0_0 c0_1 h1 else bif quw (0 + nv7) (qug h1) && true then some (.sl (qux nv7 h1)) else none) P) : Gets (qdk nv7 v29 c0_0 c0_1 h1) P :=
  gE (fun _ => qB (cfg := cfg) (f := 178) (rd := none) (bs := 0)) (by kernel_rfl) h
theorem qey (nv7 : Nat) (v29 : Int) (h0 h1 : Rz) {P : AV → Prop} (h : Gets (bif decide (v29 < 100) then kOpt (qul h0 0) fun row => bif qt 0 row then bif qt 0 [AV.cptr row 0, .int .i64 v29] then kOpt (EVs (EV cfg) 217 [AV.cptr row 0, .int .i64 v29]) fun v => ve v fun b => bif b then bif quw (0 + nv7) (qug h1) && vD (nv7 + 1) 8 then qbT (nv7 + 1) (IntKind.wrap .i64 (v29 + 1)) h0 (quD (qux nv7 h1) [[AV.int .i64 v29]]) else none else qbT nv7 (IntKind.wrap .i64 (v29 + 1)) h0 h1 else none else none else bif quw (0 + nv7) (qug h1) && true then some (.sl (qux nv7 h1)) else none) P) : Gets (qbT nv7 v29 h0 h1) P :=
  gE (fun _ => qB (cfg := cfg) (f := 178) (rd := none) (bs := 0)) (by kernel_rfl) h
end Go.Proofs.YtkohdkldmpiiiaaGreat
end
