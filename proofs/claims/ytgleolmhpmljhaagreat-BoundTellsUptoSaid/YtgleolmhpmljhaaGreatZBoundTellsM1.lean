/-
  Parts of the proof of BoundTellsUptoSaid, put together: the abstract evaluation and its contracts. Own work.
  What is proved: each lemma as it stands; no condition.
-/
import Derived.RangeFuncNested
import Derived.OrdersIn
import Derived.Laws.Sem
import Derived.Laws.World
import Derived.Lib.FrozenHead
import Derived.Laws.Cells
import Derived.Laws.IdiomCopy
import Derived.Laws.Entries
import Derived.Laws.Strings
import Derived.Laws.Small
import Derived.Laws.Append
import Derived.Laws.BytesString
import Derived.Lib.ConvBytes
import Derived.Lib.Strings
open Go.IntKind renaming wrap → qFD
open List renaming getElem?_eq_getElem → qFE, getElem?_eq_some_iff → qFF, get?Internal → qFG, length → qFI, mem_of_getElem? → qFK, take → qFN, take_of_length_le → qFP, drop_eq_getElem_cons → qFS, length_append → qFU, drop_eq_nil_of_le → qFV, getElem?_append_left → qFX, eq_nil_of_length_eq_zero → qFZ, getElem?_append_right → qF0, getElem?_set → qF1, append → qF2, mem_cons → qF6, mem_append → qF8, length_take → qF9, drop → qGb, replicate → qGd, length_cons → qGf, append_nil → qGh, take_add_one → qGk, append_assoc → qGl, range → qGn
open Nat renaming le_refl → qFH, eq_of_beq_eq_true → qFO, ble → qFR, beq → qFY, beq_refl → qF3, mul_le_mul_right → qGe, zero_add → qGi, ble_eq → qGj
open Bool renaming and_eq_true → qFJ, not_true → qFW, not_false → qF4, false_eq_true → qF5, and_self → qF7, true_and → qGm
open Option renaming bind_eq_some_iff → qFL, map_eq_some_iff → qFM, bind_some → qGa, map_some → qGc
open Int renaming toNat → qFQ, toNat_natCast → qFT
open Array renaming toList → qGg
namespace Go.Av
theorem qGo{p:Prop}[Decidable p](h:p):decide p=true:=decide_eq_true h
theorem qGp{p:Prop}[Decidable p](h:¬p):decide p=false:=decide_eq_false h
theorem qGq{c:Prop}{h:Decidable c}(hc:c){α:Sort _}{t e:α}:(ite c t e)=t:=if_pos hc
theorem qGr{c:Prop}{h:Decidable c}(hnc:¬c){α:Sort _}{t e:α}:(ite c t e)=e:=if_neg hnc
end Go.Av
set_option maxRecDepth 1000000
set_option maxHeartbeats 0
noncomputable section
namespace Go.Av
inductive BT (α:Type) where
 |leaf
 |node (k:Nat) (v:α) (l r:BT α)
def BT.look{α:Type}(t:Nat)(b:BT α):Option α:=
 BT.rec (motive:=λ_=>Option α) none (λk v _ _ il ir=>Bool.rec (motive:=λ_=>Option α) (Bool.rec (motive:=λ_=>Option α) ir (some v) (qFY t k)) il (Nat.blt t k)) b
theorem BT.look_node{α:Type}(t k:Nat)(v:α)(l r:BT α):(BT.node k v l r).look t=cond (Nat.blt t k) (l.look t) (cond (qFY t k) (some v) (r.look t)):=by
 have h:(BT.node k v l r).look t=Bool.rec (motive:=λ_=>Option α) (Bool.rec (motive:=λ_=>Option α) (r.look t) (some v) (qFY t k)) (l.look t) (Nat.blt t k):=rfl;rw[h];cases Nat.blt t k<;>cases qFY t k<;>rfl
def BT.All{α:Type}(p:Nat->α->Prop):BT α->Prop
 | .leaf=>True
 | .node k v l r=>p k v∧BT.All p l∧BT.All p r
theorem BT.all_node{α:Type}{p:Nat->α->Prop}{k:Nat}{v:α}{l r:BT α}(h1:p k v)(h2:l.All p)(h3:r.All p):(BT.node k v l r).All p:=⟨h1,h2,h3⟩
theorem BT.all_look{α:Type}{p:Nat->α->Prop}{t:Nat}{v:α}:∀{b:BT α},b.All p->b.look t=some v->p t v
 | .leaf,_,h=>by cases h
 | .node k v' l r,ha,h=>by
  rw[BT.look_node]at h;cases h1:Nat.blt t k with
  |true=>rw[h1]at h;exact BT.all_look ha.2.1 h
  |false=>
   rw[h1]at h;cases h2:qFY t k with
   |true=>
    rw[h2]at h;cases h;rw[qFO h2];exact ha.1
   |false=>rw[h2]at h;exact BT.all_look ha.2.2 h
inductive AV where
 |int (k:IntKind) (n:Int)
 |bool (b:Bool)
 |str (s:List UInt8)
 |agg (cs:List AV)
 |tup (vs:List AV)
 |nilS
 |sl (rows:List (List AV))
 |em
 |ms (id off len:Nat)
 |nilP
 |ptr (id row off:Nat)
 |cptr (cells:List AV) (off:Nat)
 |fn (f:Fn) (first caps:List AV)
 |yld (id:Nat)
 |nilF
 |nilM
 |mp (id:Nat)
 |nilI
 |ifc (t:TypeId) (v:AV)
 |lsl (rows:List (List AV))
 |lpt (cells:List AV) (off:Nat)
 |rsl (id:Nat) (rows:List (List AV))
 |rpt (id:Nat) (cells:List AV) (off:Nat)
 |alt (l:List AV)
 |wr (n:Nat) (v:AV)
 |junk
 deriving Inhabited
inductive ABlk where
 |rows (d:Bool) (sz:Nat) (rs:List (List AV))
 |froz (d:Bool) (sz:Nat) (rs:List (List AV))
 |mp (d:Bool) (es:List (AV×AV))
 |loop (f:Nat) (fr:List AV) (ps:List Tmp) (assign body:Code) (pend:Option Code) (st:LoopState)
 |reg
 |spl
 |dead
 |res
 |bld (T e:TypeId) (s:List UInt8)
 deriving Inhabited
abbrev AH:=List ABlk
def ABlk.live:ABlk->Bool
 | .dead| .res| .froz _ _ _=>false
 |_=>true
def ABlk.vacant:ABlk->Bool
 | .rows _ _ []| .reg| .spl=>true
 |_=>false
abbrev qk:=Nat->Nat->Option Value
class Lent where
 l:qk
 u:Prop
 nw:Nat->Prop
 k:Nat->Option Obj
instance:Lent:=⟨λ_ _=>none,False,λ_=>True,λ_=>none⟩
open Classical in
def LC [Lent] (C:qk):qk:=λb o=>if Lent.nw b then C b o else Lent.l b o
theorem qnE[Lent]{C C':qk}(h:∀b o v,C b o=some v->C' b o=some v):∀b o v,LC C b o=some v->LC C' b o=some v:=by
 intro b o v hb;unfold LC at hb⊢;split
 ·rename_i e;rw[qGq e]at hb;exact h b o v hb
 ·rename_i e;rw[qGr e]at hb;exact hb
def Lent.fr[Lent](b:Nat):Prop:=(∀o,Lent.l b o=none)∧Lent.nw b
structure MI where
 block:Nat
 base:Nat
 size:Nat
 sz:Nat
 D:qk
abbrev MI.mk4(block base size sz:Nat):MI:=⟨block,base,size,sz,λ_ _=>none⟩
def MI.has(m:MI)(b:Nat):Prop:=m.block=b∨∃o,m.D b o≠none
theorem MI.has_block(m:MI):m.has m.block:=.inl rfl
theorem MI.has_mk4{block base size sz b:Nat}(h:(MI.mk4 block base size sz).has b):b=block:=by
 rcases h with h|⟨o,h⟩
 ·exact h.symm
 ·exact absurd rfl h
abbrev MMap:=Nat->Option MI
def MI.le(m m':MI):Prop:=m'.block=m.block∧m'.base=m.base∧m'.size=m.size∧m'.sz=m.sz∧∀b o v,m.D b o=some v->m'.D b o=some v
theorem MI.le.refl(m:MI):m.le m:=⟨rfl,rfl,rfl,rfl,λ_ _ _ h=>h⟩
theorem MI.le.trans{a b c:MI}(h:a.le b)(h':b.le c):a.le c:=
 ⟨h'.1.trans h.1,h'.2.1.trans h.2.1,h'.2.2.1.trans h.2.2.1,h'.2.2.2.1.trans h.2.2.2.1,λx o v e=>h'.2.2.2.2 x o v (h.2.2.2.2 x o v e)⟩
def MLe(μ μ':MMap):Prop:=∀id m,μ id=some m->∃m',μ' id=some m'∧m.le m'
theorem MLe.st{μ μ':MMap}(h:∀id m,μ id=some m->μ' id=some m):MLe μ μ':=λid m hm=>⟨m,h id m hm,.refl m⟩
def AV.isCell:AV->Bool
 | .agg _| .tup _| .junk| .alt _| .wr _ _=>false
 |_=>true
mutual
def AV.refsLt (k:Nat):AV->Bool
 | .agg cs=>qK k cs
 | .tup cs=>qK k cs
 | .sl _=>true
 | .ms id _ _=>Nat.blt id k
 | .ptr id _ _=>Nat.blt id k
 | .cptr cs _=>qK k cs
 | .fn _ a b=>qK k a&&qK k b
 | .yld id=>Nat.blt id k
 | .mp id=>Nat.blt id k
 | .ifc _ v=>v.refsLt k
 | .rsl id _=>Nat.blt id k
 | .rpt id _ _=>Nat.blt id k
 | .alt l=>qK k l
 | .wr _ v=>v.refsLt k
 |_=>true
def qK (k:Nat):List AV->Bool
 |[]=>true
 |a::l=>a.refsLt k&&qK k l
def qQ (k:Nat):List (List AV)->Bool
 |[]=>true
 |a::l=>qK k a&&qQ k l
end
inductive Rep0 (D:qk):AV->Value->Prop
 |int (k:IntKind) (n:Int):Rep0 D (.int k n) (.int k n)
 |bool (b:Bool):Rep0 D (.bool b) (.bool b)
 |str (s:List UInt8):Rep0 D (.str s) (.string ⟨s.toArray⟩)
 |nilS:Rep0 D .nilS (.slice none 0 0)
 |sl (rows:List (List AV)) (a:Addr) (cap sz:Nat) (vals:Nat->Nat->Value)
   (hs:rows≠[]->a.spot=none)
   (hsz:∀(i:Nat) row,rows[i]? =some row->row.length=sz)
   (hc:∀(i j:Nat) row x,rows[i]? =some row->row[j]? =some x->D a.block (a.off+i*sz+j)=some (vals i j))
   (hr:∀(i j:Nat) row x,rows[i]? =some row->row[j]? =some x->Rep0 D x (vals i j))
   (hcell:∀(i j:Nat) row x,rows[i]? =some row->row[j]? =some x->x.isCell=true)
   (hcap:rows.length<=cap) (hfree:qQ 0 rows=true):Rep0 D (.sl rows) (.slice (some a) rows.length cap)
 |slNil:Rep0 D (.sl []) (.slice none 0 0)
 |em (a:Addr) (cap:Nat):Rep0 D .em (.slice (some a) 0 cap)
inductive Rep [Lent] (C:qk) (μ:MMap):AV->Value->Prop
 |int (k:IntKind) (n:Int):Rep C μ (.int k n) (.int k n)
 |bool (b:Bool):Rep C μ (.bool b) (.bool b)
 |str (s:List UInt8):Rep C μ (.str s) (.string ⟨s.toArray⟩)
 |agg (cs:List AV) (vs:List Value) (hl:cs.length=vs.length) (h:∀(i:Nat) a v,cs[i]? =some a->vs[i]? =some v->Rep C μ a v):Rep C μ (.agg cs) (.agg vs.toArray)
 |tup (cs:List AV) (vs:List Value) (hl:cs.length=vs.length) (h:∀(i:Nat) a v,cs[i]? =some a->vs[i]? =some v->Rep C μ a v):Rep C μ (.tup cs) (.tuple vs.toArray)
 |nilS:Rep C μ .nilS (.slice none 0 0)
 |sl (rows:List (List AV)) (a:Addr) (cap sz:Nat) (vals:Nat->Nat->Value)
   (hs:rows≠[]->a.spot=none)
   (hsz:∀(i:Nat) row,rows[i]? =some row->row.length=sz)
   (hc:∀(i j:Nat) row x,rows[i]? =some row->row[j]? =some x->C a.block (a.off+i*sz+j)=some (vals i j))
   (hr:∀(i j:Nat) row x,rows[i]? =some row->row[j]? =some x->Rep C μ x (vals i j))
   (hcell:∀(i j:Nat) row x,rows[i]? =some row->row[j]? =some x->x.isCell=true)
   (hcap:rows.length<=cap) (hfree:qQ 0 rows=true):Rep C μ (.sl rows) (.slice (some a) rows.length cap)
 |slNil:Rep C μ (.sl []) (.slice none 0 0)
 |em (a:Addr) (cap:Nat):Rep C μ .em (.slice (some a) 0 cap)
 |ms (id off len cap:Nat) (a:Addr) (m:MI) (hm:μ id=some m) (hl:len<=cap)
   (ha:cap≠0->a=⟨m.block,m.base+off*m.sz,none⟩∧(off+cap)*m.sz<=m.size):Rep C μ (.ms id off len) (.slice (some a) len cap)
 |msN (id off:Nat):Rep C μ (.ms id off 0) (.slice none 0 0)
 |nilP:Rep C μ .nilP (.pointer none)
 |ptr (id row off:Nat) (m:MI) (hm:μ id=some m):Rep C μ (.ptr id row off) (.pointer (some ⟨m.block,m.base+row*m.sz+off,none⟩))
 |cptr (cells:List AV) (off b o:Nat) (vals:Nat->Value)
   (hc:∀(j:Nat) x,cells[j]? =some x->C b (o+j)=some (vals j)) (hr:∀(j:Nat) x,cells[j]? =some x->Rep C μ x (vals j)):
   Rep C μ (.cptr cells off) (.pointer (some ⟨b,o+off,none⟩))
 |fn (f:Fn) (first caps:List AV) (vf vc:List Value) (hl1:first.length=vf.length) (hl2:caps.length=vc.length)
   (h1:∀(i:Nat) a v,first[i]? =some a->vf[i]? =some v->Rep C μ a v) (h2:∀(i:Nat) a v,caps[i]? =some a->vc[i]? =some v->Rep C μ a v):
   Rep C μ (.fn f first caps) (.func f vf.toArray vc.toArray)
 |yld (id:Nat) (m:MI) (hm:μ id=some m):Rep C μ (.yld id) (.func (.yield m.block) #[] #[])
 |nilF:Rep C μ .nilF .nilFunc
 |nilM:Rep C μ .nilM (.map none)
 |mp (id:Nat) (m:MI) (hm:μ id=some m):Rep C μ (.mp id) (.map (some m.block))
 |nilI:Rep C μ .nilI .nilIface
 |ifc (t:TypeId) (a:AV) (v:Value) (h:Rep C μ a v):Rep C μ (.ifc t a) (.iface t v)
 |lsl (rows:List (List AV)) (v:Value) (h:Rep0 (LC C) (.sl rows) v):Rep C μ (.lsl rows) v
 |lpt (cells:List AV) (off b o:Nat) (vals:Nat->Value)
   (hc:∀(j:Nat) x,cells[j]? =some x->LC C b (o+j)=some (vals j)) (hr:∀(j:Nat) x,cells[j]? =some x->Rep0 (LC C) x (vals j)):
   Rep C μ (.lpt cells off) (.pointer (some ⟨b,o+off,none⟩))
 |rsl (id:Nat) (rows:List (List AV)) (v:Value) (D:qk) (hD:rows≠[]->∃m,μ id=some m∧m.D=D) (h:Rep0 D (.sl rows) v):Rep C μ (.rsl id rows) v
 |rpt (id:Nat) (cells:List AV) (off b o:Nat) (vals:Nat->Value) (m:MI) (hm:μ id=some m)
   (hc:∀(j:Nat) x,cells[j]? =some x->m.D b (o+j)=some (vals j)) (hr:∀(j:Nat) x,cells[j]? =some x->Rep0 m.D x (vals j)):
   Rep C μ (.rpt id cells off) (.pointer (some ⟨b,o+off,none⟩))
 |alt (l:List AV) (i:Nat) (a:AV) (v:Value) (ha:l[i]? =some a) (h:Rep C μ a v):Rep C μ (.alt l) v
 |wr (n:Nat) (a:AV) (ad:Option Addr) (c:Nat) (hn:n<=c) (h:Rep C μ a (.slice ad c c)):Rep C μ (.wr n a) (.slice ad n c)
 |junk (v:Value):Rep C μ .junk v
inductive TD where
 |int (k:IntKind)
 |bool
 |str
 |ptr (e:TypeId)
 |slice (e:TypeId)
 |struct (fs:List (Nat×TypeId))
 |array (n:Nat) (e:TypeId)
 |map (k e:TypeId)
 |func
 |iface
 |other
structure TI where
 d:TD
 sz:Nat
 bytes:Nat
 zero:List AV
 /-- a struct of named numbers, bools and texts, one behind the other -/
 eq:Bool
def TD.agg:TD->Bool
 | .struct _| .array _ _=>true
 |_=>false
def xA:Value->AV
 | .bool b=>.bool b
 | .int k n=>.int k n
 | .string s=>.str s.data.toList
 | .slice none 0 0=>.nilS
 | .pointer none=>.nilP
 | .map none=>.nilM
 | .nilFunc=>.nilF
 | .nilIface=>.nilI
 |_=>.junk
def ofValue:Value->AV
 | .agg cs=>.agg (cs.toList.map xA)
 |v=>xA v
def tdOf:TypeDesc->TD
 | .int k=>.int k
 | .bool=>.bool
 | .string=>.str
 | .pointer e=>.ptr e
 | .slice e=>.slice e
 | .struct fs=>.struct (fs.toList.map λf=>(f.offset,f.type))
 | .array n e=>.array n e
 | .map k e=>.map k e
 | .func _ _ _=>.func
 | .interface _=>.iface
 |_=>.other
def qhQ:Value->Bool
 | .agg _=>true
 |_=>false
def qDG(P:Program)(t:TypeId):Bool:=
 match P.underlying t with
 |some (.int _)|some .bool|some .string=>true
 |_=>false
def qmj(P:Program):Nat→List Field→Bool
 |_,[]=>true
 |i,f::l=>f.name != "_" &&qFY f.offset i&&qDG P f.type&&qmj P (i+1) l
def eqOf(P:Program)(t:TypeId)(u:TypeDesc):Bool:=
 match u with
 | .struct fs=>qmj P 0 fs.toList&& !P.stoodInHeld t&& !P.eqGuardType P.depth t
 |_=>false
def tiOf(P:Program)(t:TypeId):Option TI:=
 match P.info? t,P.underlying t with
 |some i,some u=>
  match i.zero with
  |some z=>if qhQ z==(tdOf u).agg then some { d:=tdOf u,sz:=i.size,bytes:=i.bytes,zero:=z.cells.toList.map xA,eq:=eqOf P t u }else none
  |none=>none
 |_,_=>none
inductive CMode where
 |scal|pfrz|nfrz|pown|inpl|imp|ifrz|inpf|slf|rgn|over
 deriving DecidableEq
inductive Tgt where
 |f (f:FuncId)
 |y (id:Nat)
inductive FK where
 |int (k:IntKind)
 |bool
 |str
 |sl
 |any
inductive CSh where
 |leaf (s:FK)
 |sl (j:Nat)
 |mp (j:Nat)
 |ptr (j:Nat)
 |is (v:AV)
inductive BSh where
 |row (d:Bool) (cs:List CSh)
 |rows (d:Bool) (sz:Nat)
 |mp (d:Bool)
abbrev Orac:=Tgt->List AV->AH->Option (AV×AH)
structure Cfg where
 P:Program
 ty:TypeId->Option TI
 mode:FuncId->CMode
 /-- the operations whose slices are frozen ahead of them: function, region, place -/
 frz:FuncId->Nat->Nat->Bool
 /-- which slots are kept at a loop's head and behind it, the others being forgotten: function, the loop body's first region -/
 mask:FuncId->Nat->Option (List Tmp×List Tmp)
 /-- the slots kept where a sequence goes on: function, the first region behind -/
 cut:FuncId->Nat->Option (List Tmp)
 ext:FuncId->Option (List AV->AH->Option (AV×AH))
 /-- the functions that may be entered -/
 known:FuncId->Bool
 /-- the types of tuples, for what is handed back together -/
 tup:TypeId->Option (List TypeId)
 /-- the types of data: whether a slice in them is nil is forgotten -/
 dat:TypeId->Bool
 /-- the functions that are gone into where they are called -/
 inl:FuncId->Option Func
 /-- the slots in which nil gets rows of its own, with the rows' cells: at a loop's head, ahead of a range over a function (function, the body's first region), at a function's end (region 0) -/
 lift:FuncId->Nat->List (Tmp×Nat)
 /-- the types of slices of which a part without rows is told not to be nil -/
 ems:TypeId->Bool
 /-- the types of data in whose own blocks nil is kept apart -/
 ali:TypeId->Bool
 /-- the types of slices whose capacity is kept where they are made -/
 wrt:TypeId->Bool
 /-- the types of builders of texts, with their bytes' type -/
 bld:TypeId->Option TypeId
 /-- of calls on objects: in which cells nil gets rows of its own (block, cell, the rows' cells); what they leave -/
 olift:FuncId->List (Nat×Nat×Nat)
 shp:FuncId->List BSh
 /-- how many blocks keep their places, at least -/
 okeep:FuncId->Nat
 /-- calls on objects that are handed one slice, which may be nil if it has no rows -/
 nsp:FuncId->Bool
def Cfg.sz(c:Cfg)(t:TypeId):Option Nat:=match c.ty t with|some i=>some i.sz|none=>none
def Cfg.td(c:Cfg)(t:TypeId):Option TD:=match c.ty t with|some i=>some i.d|none=>none
def AV.scalar1:AV->Bool
 | .int _ _| .bool _| .str _| .nilS| .nilP=>true
 |_=>false
def qiN:List AV->Bool
 |[]=>true
 |a::l=>a.scalar1&&qiN l
def AV.scalar:AV->Bool
 | .agg cs| .tup cs=>qiN cs
 |a=>a.scalar1
def vP(n:Nat):List (List AV)->Bool
 |[]=>true
 |r::_=>r.length==n
def zI(s:List UInt8):List (List AV):=s.map λb=>[AV.int .u8 b.toNat]
def vg(H:AH)(id:Nat):Option (Nat×List (List AV)):=
 match H[id]? with
 |some (.rows _ sz rs)=>some (sz,rs)
 |some (.froz _ sz rs)=>some (sz,rs)
 |_=>none
def xT(H:AH)(id:Nat):Bool:=
 match H[id]? with
 |some (.rows d _ _)=>d
 |some (.froz d _ _)=>d
 |_=>false
def x7(H:AH):AV->Bool
 | .sl _| .str _| .nilS| .em=>true
 | .ms id _ _=>xT H id
 |_=>false
def yH(H:AH)(n:Nat):AV->Option (List (List AV))
 | .nilS=>some []
 | .em=>some []
 | .sl rows=>if vP n rows then some rows else none
 | .ms id off len=>
  match vg H id with
  |some (sz,rs)=>if sz==n&&qFR (off+len) rs.length then some ((rs.drop off).take len)else none
  |none=>none
 |_=>none
def xZ:List AV->Bool
 |[]=>true
 |a::l=>a.isCell&&xZ l
def AV.cells:AV->Option (List AV)
 | .agg cs=>if xZ cs then some cs else none
 | .tup _| .junk| .alt _| .wr _ _=>none
 |v=>some [v]
def AV.lend:AV->AV
 | .sl rows=>.lsl rows
 |a=>a
def AV.regn(id:Nat):AV->AV
 | .sl rows=>.rsl id rows
 |a=>a
def qam:List AV->Bool
 |[.int .i64 _,.int .i64 _,.str _,.sl _]=>true
 |_=>false
def qiQ:List AV:=[.int .i64 77,.int .i64 0,.str [],.sl []]
def row0:List AV:=[.int .i64 0,.int .i64 0,.str [],.sl []]
def ql8:List AV->Bool
 |[.int .i64 _,.int .i64 _,.int .i64 _,.int .i64 _,.int .i64 _,.str _,.sl _]=>true
 |_=>false
def qcY:AV->Bool
 | .agg [.int .i64 99,.int .i64 0,.int .i64 0,.int .i64 0,.int .i64 0,.str [],.nilS]=>true
 | .agg [.int .i64 99,.int .i64 0,.int .i64 0,.int .i64 0,.int .i64 0,.str [],.sl []]=>true
 |_=>false
def AV.plain:AV->Bool
 | .int _ _| .bool _=>true
 |_=>false
def qcW(cs:List AV):Nat->Option (List (List AV))
 |0=>none
 |o+1=>
  match cs[o]?,cs[o+1]? with
  |some a,some (.sl rows)=>if a.plain then some rows else none
  |_,_=>none
def qm5(id:Nat)(cs:List AV)(o:Nat):Option AV:=(qcW cs o).map (.rsl id)
def is77:AV->Bool
 | .agg [.int .i64 77,.int .i64 0,.str [],.nilS]=>true
 | .agg [.int .i64 77,.int .i64 0,.str [],.sl []]=>true
 |_=>false
def qaC(agg:Bool)(n:Nat)(H:AH):AV->Option AV
 | .ptr id r off=>
  match vg H id with
  |some (_,rs)=>
   match rs[r]? with
   |some row=>if agg then(if qFR (off+n) row.length then some (.agg ((row.drop off).take n))else none)else row[off]?
   |none=>none
  |none=>none
 | .cptr cs off=>if agg then(if qFR (off+n) cs.length then some (.agg ((cs.drop off).take n))else none)else cs[off]?
 | .lpt cs off=>if agg then(if qFR (off+n) cs.length then some (.agg (((cs.drop off).take n).map AV.lend))else none)else(cs[off]?).map AV.lend
 | .rpt id cs off=>
  match H[id]? with
  |some .reg=>if agg then(if qFR (off+n) cs.length then some (.agg (((cs.drop off).take n).map (AV.regn id)))else none)else(cs[off]?).map (AV.regn id)
  |some .spl=>
   if agg then(if qFY n 4&&qam ((cs.drop off).take 4)then some (.alt [.agg (((cs.drop off).take 4).map (AV.regn id)),.agg qiQ,.agg row0])else none)
   else qm5 id cs off
  |_=>none
 |_=>none
def qcq(n:Nat)(H:AH)(p v:AV):Option AH:=
 match p,v.cells with
 | .ptr id r off,some cs=>
  match H[id]? with
  |some (.rows d sz rs)=>
   match rs[r]? with
   |some row=>if cs.length==n&&qFR (off+n) row.length then some (H.set id (.rows (d&&qK 0 cs) sz (rs.set r (row.take off++cs++row.drop (off+n)))))else none
   |none=>none
  |_=>none
 | .rpt id cs off,some _=>
  match H[id]? with
  |some .spl=>if qFY n 4&&qam ((cs.drop off).take 4)&&is77 v then some H else if qFY n 7&&ql8 (cs.drop off)&&qcY v then some H else none
  |_=>none
 |_,_=>none
def aNew(nid:Option Nat)(H:AH)(b:ABlk):Option (Nat×AH):=
 match nid with
 |none=>some (H.length,H++[b])
 |some k=>
  match H[k]? with
  |some .res=>some (k,H.set k b)
  |_=>none
def yd(id:Nat):List Nat->Bool
 |[]=>false
 |a::l=>qFY a id||yd id l
def AV.frz1(ids:List Nat)(H:AH):AV->AV
 | .ms id off len=>
  match vg H id with
  |some (_,rs)=>if yd id ids&&qFR (off+len) rs.length&&(xT H id||qQ 0 ((rs.drop off).take len))then .sl ((rs.drop off).take len)else .ms id off len
  |none=>.ms id off len
 |a=>a
def AV.frz(ids:List Nat)(H:AH):AV->AV
 | .agg cs=>.agg (cs.map (AV.frz1 ids H))
 | .tup cs=>.tup (cs.map (AV.frz1 ids H))
 |a=>a.frz1 ids H
def AV.msId:AV->List Nat
 | .ms id _ _=>[id]
 |_=>[]
def AV.msIds:AV->List Nat
 | .agg cs=>cs.flatMap AV.msId
 | .tup cs=>cs.flatMap AV.msId
 |a=>a.msId
def AV.unwr:AV->AV
 | .wr n (.sl rows)=>.sl (rows.take n)
 | .wr n (.ms id off _)=>.ms id off n
 | .wr _ _=>.junk
 |a=>a
def AV.lenW:AV->Option Nat
 | .sl rows=>some rows.length
 | .ms _ _ len=>some len
 |_=>none
def AV.fg1:AV->AV
 | .nilS=>.sl []
 | .em=>.sl []
 | .wr n (.sl rows)=>.sl (rows.take n)
 |a=>a
def AV.fg:AV->AV
 | .agg cs=>.agg (cs.map AV.fg1)
 | .tup cs=>.tup (cs.map AV.fg1)
 |a=>a.fg1
def Cfg.isStruct(c:Cfg)(t:TypeId):Bool:=match c.td t with|some (.struct _)=>true|_=>false
def Cfg.fgs(c:Cfg)(t:TypeId)(cs:List AV):List AV:=if c.dat t&&c.isStruct t then cs.map AV.fg1 else cs
def Cfg.fga(c:Cfg)(t:TypeId)(cs:List AV):List AV:=if c.ali t then cs else c.fgs t cs
def xl(H:AH)(id:Nat):AH:=
 match H[id]? with
 |some (.rows d sz rs)=>H.set id (.froz d sz rs)
 |_=>H
def qV(ids:List Nat)(H:AH):AH:=ids.foldl xl H
def AV.data1(a:AV):AV:=if a.refsLt 0 then a else .junk
def qmu(row:List AV):List AV:=if qK 0 row then row else row.map AV.data1
def AV.snap1(H:AH):AV->AV
 | .ms id off len=>AV.frz1 [id] H (.ms id off len)
 | .ptr id r off=>
  match vg H id with
  |some (_,rs)=>
   match rs[r]? with
   |some row=>.cptr (qmu row) off
   |none=>.ptr id r off
  |none=>.ptr id r off
 | .rsl id rows=>(match H[id]? with|some .reg=>.sl rows|_=>.rsl id rows)
 |a=>a
def AV.snap(H:AH):AV->AV
 | .agg cs=>.agg (cs.map (AV.snap1 H))
 | .fn f a b=>.fn f (a.map (AV.snap1 H)) (b.map (AV.snap1 H))
 |a=>a.snap1 H
def qJ:Sem Value->Option AV
 | .pure (.int k n)=>some (.int k n)
 | .pure (.bool b)=>some (.bool b)
 |_=>none
def aStr(op:BinOp)(a b:List UInt8):Option AV:=
 match op with
 | .add=>cond (qFR (a.length+b.length) 9223372036854775807) (some (.str (a++b))) none
 | .eql=>some (.bool (a==b))
 | .neq=>some (.bool (!(a==b)))
 | .lss=>some (.bool (Op.bytesLess a b))
 | .leq=>some (.bool (Op.bytesLess a b||a==b))
 | .gtr=>some (.bool (!(Op.bytesLess a b||a==b)))
 | .geq=>some (.bool (!(Op.bytesLess a b)))
 |_=>none
def AV.isNil:TD->AV->Option Bool
 | .slice _,.nilS=>some true
 | .slice _,.sl (_::_)=>some false
 | .slice _,.em=>some false
 | .slice _,.ms _ _ (_+1)=>some false
 | .ptr _,.nilP=>some true
 | .ptr _,.ptr _ _ _=>some false
 | .ptr _,.cptr _ _=>some false
 | .map _ _,.nilM=>some true
 | .map _ _,.mp _=>some false
 | .func,.nilF=>some true
 | .func,.fn _ _ _=>some false
 | .func,.yld _=>some false
 | .iface,.nilI=>some true
 | .iface,.ifc _ _=>some false
 |_,_=>none
def litN:Operand->Operand->Bool
 | .const _,_=>true
 |_,.const _=>true
 |_,_=>false
def TD.isIface:TD->Bool
 | .iface=>true
 |_=>false
def qmM(lit:Bool)(d:TD)(x y:AV):Option Bool:=
 match x.isNil d,y.isNil d with
 |some true,some b=>if lit|| !d.isIface|| !b then some b else none
 |some false,some true=>some false
 |_,_=>none
def AV.eqS:Option TD->AV->AV->Option Bool
 |some (.int _),.int k a,.int k' b=>if k=k' then some (decide (a=b))else none
 |some .bool,.bool a,.bool b=>some (a==b)
 |some .str,.str a,.str b=>some (a==b)
 |_,_,_=>none
def eqSL(cfg:Cfg):List (Nat×TypeId)->List AV->List AV->Option Bool
 |[],[],[]=>some true
 |f::fs,a::l,b::m=>
  match AV.eqS (cfg.td f.2) a b,eqSL cfg fs l m with
  |some x,some y=>some (x&&y)
  |_,_=>none
 |_,_,_=>none
def aEqS(cfg:Cfg)(t:TypeId)(cs ds:List AV):Option Bool:=
 match cfg.ty t with
 |some ti=>
  match ti.d with
  | .struct fs=>if ti.eq then eqSL cfg fs cs ds else none
  |_=>none
 |none=>none
def aBin(cfg:Cfg)(lit:Bool)(op:BinOp)(t:TypeId)(x y:AV):Option AV:=
 match x,y with
 | .int k a,.int k' b=>qJ (binOp op t (.int k a) (.int k' b))
 | .str a,.str b=>aStr op a b
 | .bool a,.bool b=>
  match op,cfg.td t with
  | .eql,some .bool=>some (.bool (a==b))
  | .neq,some .bool=>some (.bool (!(a==b)))
  |_,_=>none
 | .agg cs,.agg ds=>
  match op with
  | .eql=>(aEqS cfg t cs ds).map .bool
  | .neq=>(aEqS cfg t cs ds).map λb=>.bool (!b)
  |_=>none
 |x,y=>
  match op,cfg.td t with
  | .eql,some d=>(qmM lit d x y).map .bool
  | .neq,some d=>(qmM lit d x y).map λb=>.bool (!b)
  |_,_=>none
def aUn(op:UnOp):AV->Option AV
 | .int k n=>qJ (Op.unary op (.int k n))
 | .bool b=>qJ (Op.unary op (.bool b))
 |_=>none
def qd7(place:Nat->Option (Nat×Nat))(cells:List AV):List (Nat×AV)->Option (List AV)
 |[]=>some cells
 |(i,v)::rest=>
  match place i,v.cells with
  |some (off,size),some cs=>
   if cs.length==size&&qFR (off+size) cells.length then qd7 place (cells.take off++cs++cells.drop (off+size)) rest else none
  |_,_=>none
def qaX(cfg:Cfg):List (Nat×TypeId)->Option (List (Nat×Nat))
 |[]=>some []
 |(off,t)::l=>
  match cfg.sz t,qaX cfg l with
  |some n,some ps=>some ((off,n)::ps)
  |_,_=>none
def qca(n:Nat)(rows:List (List AV)):List (Nat×AV)->Option (List (List AV))
 |[]=>some rows
 |(i,v)::rest=>
  match v.cells with
  |some cs=>if cs.length==n&&Nat.blt i rows.length then qca n (rows.set i cs) rest else none
  |none=>none
def qbu(lo hi:Nat)(x:Option AV)(dflt:Nat):Option Nat:=
 match x with
 |none=>some dflt
 |some (.int _ i)=>if(lo:Int)<=i∧i<=hi then some i.toNat else none
 |_=>none
def qa5(n:Nat)(lo hi mx:Option AV):Option (Nat×Nat):=
 if hi.isNone&&mx.isSome then none else
 match qbu 0 n hi n with
 |some h=>
  match qbu h n mx h with
  |some _=>
   match qbu 0 h lo 0 with
   |some l=>some (l,h)
   |none=>none
  |none=>none
 |none=>none
def slE(e:Bool)(rows:List (List AV))(l h:Nat):AV:=
 match e with
 |false=>.sl ((rows.drop l).take (h - l))
 |true=>if qFY h l&& !rows.isEmpty then .em else .sl ((rows.drop l).take (h - l))
def qcr(cfg:Cfg)(t:TypeId)(H:AH)(x:AV)(lo hi mx:Option AV):Option AV:=
 match cfg.td t,x with
 |some .str,.str s=>
  match mx,qa5 s.length lo hi none with
  |none,some (l,h)=>some (.str ((s.drop l).take (h - l)))
  |_,_=>none
 |some (.slice e),.nilS=>
  match cfg.sz e,qa5 0 lo hi mx with
  |some _,some _=>some .nilS
  |_,_=>none
 |some (.slice e),.sl rows=>
  match cfg.sz e,qa5 rows.length lo hi mx with
  |some n,some (l,h)=>if vP n rows then some (slE (cfg.ems t) rows l h)else none
  |_,_=>none
 |some (.slice e),.ms id off len=>
  match cfg.sz e,qa5 len lo hi mx,vg H id with
  |some n,some (l,h),some (sz,_)=>if sz==n then some (.ms id (off+l) (h - l))else none
  |_,_,_=>none
 |some (.slice e),.wr _ v=>
  match cfg.sz e,v.lenW,lo,hi,mx with
  |some _,some c,none,some (.int _ h),none=>if 0<=h∧h<=c then some (.wr h.toNat v)else none
  |_,_,_,_,_=>none
 |_,_=>none
def zg(cfg:Cfg)(t:TypeId)(H:AH)(x i:AV):Option AV:=
 match cfg.td t,x,i with
 |some (.slice e),.ms id off len,.int _ i=>
  match cfg.sz e,vg H id with
  |some n,some (sz,_)=>if sz==n∧0<=i∧i<len then some (.ptr id (off+i.toNat) 0)else none
  |_,_=>none
 |some (.slice e),.sl rows,.int _ i=>
  match cfg.sz e with
  |some n=>
   if 0<=i∧i<rows.length then
    match rows[i.toNat]? with
    |some row=>if row.length==n then some (.cptr row 0)else none
    |none=>none
   else none
  |none=>none
 |some (.slice e),.lsl rows,.int _ i=>
  match cfg.sz e with
  |some n=>
   if 0<=i∧i<rows.length then
    match rows[i.toNat]? with
    |some row=>if row.length==n then some (.lpt row 0)else none
    |none=>none
   else none
  |none=>none
 |some (.slice e),.rsl id rows,.int _ i=>
  match cfg.sz e with
  |some n=>
   if 0<=i∧i<rows.length then
    match rows[i.toNat]? with
    |some row=>if row.length==n then some (.rpt id row 0)else none
    |none=>none
   else none
  |none=>none
 |some (.array n e),.ptr id r off,.int _ i=>
  match cfg.sz e with
  |some sz=>if 0<=i∧i<n then some (.ptr id r (off+i.toNat*sz))else none
  |none=>none
 |some (.array n e),.cptr cs off,.int _ i=>
  match cfg.sz e with
  |some sz=>if 0<=i∧i<n then some (.cptr cs (off+i.toNat*sz))else none
  |none=>none
 |_,_,_=>none
def qi7(cfg:Cfg)(t:TypeId)(cs:List AV)(off:Nat):Option AV:=
 match cfg.ty t with
 |some ti=>if ti.d.agg then(if qFR (off+ti.sz) cs.length then some (.agg ((cs.drop off).take ti.sz))else none)else cs[off]?
 |none=>none
def qh7(cfg:Cfg)(t:TypeId)(x i:AV):Option AV:=
 match cfg.td t,x,i with
 |some (.array n e),.agg cs,.int _ i=>
  match cfg.sz e with
  |some sz=>if 0<=i∧i<n then qi7 cfg e cs (i.toNat*sz)else none
  |none=>none
 |some .str,.str s,.int _ i=>
  if 0<=i then
   match s[i.toNat]? with
   |some b=>some (.int .u8 b.toNat)
   |none=>none
  else none
 |_,_,_=>none
def qh8(cfg:Cfg)(t:TypeId)(x:AV)(f:Nat):Option AV:=
 match cfg.td t,x with
 |some (.struct fs),.agg cs=>
  match fs[f]? with
  |some (off,ft)=>qi7 cfg ft cs off
  |none=>none
 |_,_=>none
def qbx(cfg:Cfg)(t:TypeId)(x:AV)(f:Nat):Option AV:=
 match cfg.td t with
 |some (.struct fs)=>
  match fs[f]? with
  |some (o,ft)=>
   match cfg.sz ft,x with
   |some (_+1),.ptr id r off=>some (.ptr id r (off+o))
   |some (_+1),.cptr cs off=>some (.cptr cs (off+o))
   |some (_+1),.rpt id cs off=>some (.rpt id cs (off+o))
   |_,_=>none
  |none=>none
 |_=>none
def xV:List (List AV)->Option (List UInt8)
 |[]=>some []
 |[.int .u8 n]::l=>
  if 0<=n∧n<256 then
   match xV l with
   |some bs=>some (UInt8.ofNat n.toNat::bs)
   |none=>none
  else none
 |_=>none
def qai(cfg:Cfg)(nid:Option Nat)(src dst:TypeId)(x:AV)(H:AH):Option (AV×AH):=
 match cfg.td src,cfg.td dst,x with
 |some _,some (.int k),.int _ n=>some (.int k (k.wrap n),H)
 |some _,some .str,.str s=>some (.str s,H)
 |some _,some (.slice e),.str s=>
  match cfg.td e with
  |some (.int .u8)=>
   match aNew nid H (.rows true 1 (zI s))with
   |some (k,H')=>some (.ms k 0 s.length,H')
   |none=>none
  |_=>none
 |some (.slice e),some .str,x=>
  match cfg.td e,yH H 1 x with
  |some (.int .u8),some rows=>
   match xV rows with
   |some bs=>some (.str bs,H)
   |none=>none
  |_,_=>none
 |_,_,_=>none
def TD.notInt:TD->Bool
 | .int _=>false
 |_=>true
def yv(H:AH)(sz:Nat):AV->Option (List (List AV))
 | .str b=>if qFY sz 1 then some (zI b)else none
 |x=>yH H sz x
def qI(n bytes:Nat):Bool:=qFR (n*bytes) 140737488355328&&qFR n 9223372036854775807
def qbb(cfg:Cfg)(nid:Option Nat)(t xt:TypeId)(s x:AV)(H:AH):Option (AV×AH):=
 match cfg.td t,cfg.td xt with
 |some (.slice e),some xd=>
  match cfg.ty e with
  |some ei=>
   if xd.notInt&&Nat.blt 0 ei.sz&&qFY ei.zero.length ei.sz then
    match yv H ei.sz x with
    |some news=>
     match s with
     | .nilS=>
      if news.isEmpty then some (.nilS,H)
      else if qI news.length ei.bytes then
       match aNew nid H (.rows (x7 H x) ei.sz news)with
       |some (k,H')=>some (.ms k 0 news.length,H')
       |none=>none
      else none
     | .ms id off len=>
      match H[id]? with
      |some (.rows d sz rs)=>
       if qFY sz ei.sz&&qFR (off+len) rs.length&&qI (len+news.length) ei.bytes then
        match aNew nid (H.set id .dead) (.rows (d&&x7 H x) sz ((rs.drop off).take len++news))with
        |some (k,H')=>some (.ms k 0 (len+news.length),H')
        |none=>none
       else none
      |_=>none
     |_=>none
    |none=>none
   else none
  |none=>none
 |_,_=>none
def aLen(cfg:Cfg)(t:TypeId)(x:AV)(H:AH):Option AV:=
 match cfg.td t,x with
 |some .str,.str s=>some (.int .i64 s.length)
 |some (.slice _),.nilS=>some (.int .i64 0)
 |some (.slice _),.em=>some (.int .i64 0)
 |some (.slice _),.sl rows=>some (.int .i64 rows.length)
 |some (.slice _),.ms _ _ len=>some (.int .i64 len)
 |some (.slice _),.lsl rows=>some (.int .i64 rows.length)
 |some (.slice _),.rsl _ rows=>some (.int .i64 rows.length)
 |some (.array n _),_=>some (.int .i64 n)
 |some (.map _ _),.nilM=>some (.int .i64 0)
 |some (.map _ _),.mp id=>
  match H[id]? with
  |some (.mp _ es)=>some (.int .i64 es.length)
  |_=>none
 |_,_=>none
def aMin(lt:Int->Int->Bool):List AV->Option AV
 |[.int k a,.int k' b]=>if k=k' then some (.int k (if lt b a then b else a))else none
 |_=>none
def zU(ti:TI):Bool:=Nat.blt 0 ti.sz&&qFY ti.zero.length ti.sz&&xZ ti.zero
def qcb(cfg:Cfg)(nid:Option Nat)(t:TypeId)(len cap:AV)(H:AH):Option (AV×AH):=
 match cfg.td t,len,cap with
 |some (.slice e),.int .i64 n,.int .i64 c=>
  match cfg.ty e with
  |some ei=>
   if zU ei then
    if 0<=n∧n<=c∧c*ei.bytes<=140737488355328∧c<=9223372036854775807 then
     match aNew nid H (.rows true ei.sz (qGd n.toNat ei.zero))with
     |some (k,H')=>some (.ms k 0 n.toNat,H')
     |none=>none
    else none
   else none
  |none=>none
 |_,_,_=>none
def qtt:AV×AH->Option (AV×AH)
 |(.ms id off len,H)=>some (.wr len (.ms id off len),H)
 |_=>none
def qcs(cfg:Cfg)(nid:Option Nat)(t:TypeId)(len cap:AV)(H:AH):Option (AV×AH):=
 match cfg.wrt t with
 |false=>qcb cfg nid t len cap H
 |true=>
  match len,cap with
  | .int _ n,.int _ c=>if decide (n=c)then(qcb cfg nid t len cap H).bind qtt else none
  |_,_=>none
def aCap(cfg:Cfg)(t:TypeId)(x:AV):Option AV:=
 match cfg.td t,x with
 |some (.slice _),.wr _ v=>v.lenW.map fun(c:Nat)=>.int .i64 (c:Int)
 |_,_=>none
def TD.keyed:TD->Bool
 | .int _| .str=>true
 |_=>false
def quy(d:TD)(k k':AV):Option Bool:=
 match d,k,k' with
 | .int _,.int a x,.int b y=>if a=b then some (x==y)else none
 | .str,.str a,.str b=>some (a==b)
 |_,_,_=>none
def qbM(d:TD)(k:AV):List (AV×AV)->Nat->Option (Option (Nat×AV))
 |[],_=>some none
 |e::es,i=>
  match quy d k e.1 with
  |some true=>some (some (i,e.2))
  |some false=>qbM d k es (i+1)
  |none=>none
def Cfg.zeroV(c:Cfg)(t:TypeId):Option AV:=
 match c.ty t with
 |some ti=>if ti.d.agg then some (.agg ti.zero)else(match ti.zero with|[z]=>some z|_=>none)
 |none=>none
def qdV(H:AH):AV->Option (List (AV×AV))
 | .nilM=>some []
 | .mp id=>
  match H[id]? with
  |some (.mp _ es)=>some es
  |_=>none
 |_=>none
def qaB(cfg:Cfg)(t:TypeId)(x k:AV)(ok:Bool)(H:AH):Option AV:=
 match cfg.td t with
 |some (.map kt et)=>
  match cfg.td kt,qdV H x with
  |some d,some es=>
   if d.keyed then
    match qbM d k es 0 with
    |some (some r)=>some (if ok then .tup [r.2,.bool true]else r.2)
    |some none=>
     match cfg.zeroV et with
     |some z=>some (if ok then .tup [z,.bool false]else z)
     |none=>none
    |none=>none
   else none
  |_,_=>none
 |_=>none
def qba(cfg:Cfg)(t:TypeId)(m k v:AV)(H:AH):Option AH:=
 match cfg.td t,m with
 |some (.map kt _),.mp id=>
  match cfg.td kt,H[id]? with
  |some d,some (.mp d0 es)=>
   if d.keyed then
    match qbM d k es 0 with
    |some (some r)=>some (H.set id (.mp (d0&&(k.refsLt 0&&v.refsLt 0)) (es.set r.1 (k,v))))
    |some none=>some (H.set id (.mp (d0&&(k.refsLt 0&&v.refsLt 0)) (es++[(k,v)])))
    |none=>none
   else none
  |_,_=>none
 |_,_=>none
def qe6(cfg:Cfg)(t:TypeId)(x:AV)(H:AH):Option AH:=
 match cfg.td t,x with
 |some (.map _ _),.nilM=>some H
 |some (.map _ _),.mp id=>
  match H[id]? with
  |some (.mp _ _)=>some (H.set id (.mp true []))
  |_=>none
 |some (.slice _),.nilS=>some H
 |some (.slice e),.ms id off len=>
  match cfg.ty e,H[id]? with
  |some ei,some (.rows d sz rs)=>
   if zU ei&&qFY sz ei.sz&&qFR (off+len) rs.length then
    some (H.set id (.rows d sz (rs.take off++qGd len ei.zero++rs.drop (off+len))))
   else none
  |_,_=>none
 |_,_=>none
def qi8(cfg:Cfg)(t:TypeId)(d s:AV)(H:AH):Option (AV×AH):=
 match cfg.td t,d with
 |some (.slice e),.ms id off len=>
  match cfg.sz e,H[id]? with
  |some n,some (.rows d sz rs)=>
   match yv H n s with
   |some news=>
    if qFY sz n&&qFR (off+len) rs.length&&Nat.blt 0 sz then
     some (.int .i64 (Nat.min news.length len),H.set id (.rows (d&&x7 H s) sz (rs.take off++news.take len++rs.drop (off+(news.take len).length))))
    else none
   |none=>none
  |_,_=>none
 |_,_=>none
def bigZ(l:List AV):Bool:=qFR 100 l.length&&qK 0 l
def qfW(cfg:Cfg)(t:TypeId)(z:List AV):ABlk:=
 match cfg.bld t,z with
 |some e,[.nilP,.nilS]=>.bld t e []
 |_,_=>.rows (bigZ (cfg.fga t z)) z.length [cfg.fga t z]
def qmD(cfg:Cfg)(t:TypeId)(cs:List AV):ABlk:=
 match cfg.bld t,cs with
 |some e,[.nilP,.nilS]=>.bld t e []
 |_,_=>.rows (bigZ cs) cs.length [cs]
def evOp(cfg:Cfg)(nid:Option Nat)(o:Op)(_ty:TypeId)(x:Operand->AV)(H:AH):Option (AV×AH):=
 match o with
 | .move a| .assign a=>some (x a,H)
 | .pick c a b=>
  match x c with
  | .bool t=>some (if t then x a else x b,H)
  |_=>none
 | .alloc t=>
  match cfg.ty t with
  |some ti=>
   if xZ ti.zero then
    match aNew nid H (qfW cfg t ti.zero)with
    |some (k,H')=>some (.ptr k 0 0,H')
    |none=>none
   else none
  |none=>none
 | .box t a=>
  match(x a).cells with
  |some cs=>
   match aNew nid H (qmD cfg t cs)with
   |some (k,H')=>some (.ptr k 0 0,H')
   |none=>none
  |none=>none
 | .build t parts=>
  match cfg.ty t with
  |some ti=>
   if xZ ti.zero then
    match ti.d with
    | .struct fs=>
     match qaX cfg fs with
     |some ps=>(qd7 (λi=>ps[i]?) ti.zero (parts.toList.map λp=>(p.1,x p.2))).map λcs=>(.agg (cfg.fga t cs),H)
     |none=>none
    | .array _ e=>
     match cfg.sz e with
     |some n=>(qd7 (λi=>some (i*n,n)) ti.zero (parts.toList.map λp=>(p.1,x p.2))).map λcs=>(.agg cs,H)
     |none=>none
    |_=>none
   else none
  |none=>none
 | .buildSlice t len parts=>
  match cfg.td t with
  |some (.slice e)=>
   match cfg.ty e with
   |some ei=>
    if zU ei&&qFR (len*ei.sz) 16777216 then
     match qca ei.sz (qGd len ei.zero) (parts.toList.map λp=>(p.1,x p.2))with
     |some rows=>
      match aNew nid H (.rows (qQ 0 rows) ei.sz rows)with
      |some (k,H')=>some (.ms k 0 len,H')
      |none=>none
     |none=>none
    else none
   |none=>none
  |_=>none
 | .load t a=>
  match cfg.ty t with
  |some ti=>(qaC ti.d.agg ti.sz H (x a)).map λv=>(v,H)
  |none=>none
 | .store t a v=>
  match cfg.sz t with
  |some n=>(qcq n H (x a) (x v)).map λH'=>(.junk,H')
  |none=>none
 | .nilCheck a=>
  match x a with
  | .ptr id r off=>some (.ptr id r off,H)
  | .cptr cs off=>some (.cptr cs off,H)
  | .fn (.func f) a b=>some (.fn (.func f) a b,H)
  | .mp id=>some (.mp id,H)
  | .yld id=>some (.yld id,H)
  |_=>none
 | .binOp op t a b _=>(aBin cfg (litN a b) op t (x a) (x b)).map λv=>(v,H)
 | .unOp op _ a=>(aUn op (x a)).map λv=>(v,H)
 | .convert s d a=>qai cfg nid s d (x a) H
 | .makeFunc f first caps=>some (.fn f (first.toList.map x) (caps.toList.map x),H)
 | .makeSlice t l c=>qcs cfg nid t (x l) (x c) H
 | .makeMap t r=>
  match cfg.td t,(match r with|none=>some true|some h=>(match x h with| .int _ _=>some true|_=>none))with
  |some (.map _ _),some _=>
   match aNew nid H (.mp true [])with
   |some (k,H')=>some (.mp k,H')
   |none=>none
  |_,_=>none
 | .lookup t a k ok=>(qaB cfg t (x a) (x k) ok H).map λv=>(v,H)
 | .mapUpdate t m k v| .insert t m k v=>(qba cfg t (x m) (x k) (x v) H).map λH'=>(.junk,H')
 | .slice t a lo hi mx=>(qcr cfg t H (x a) (lo.map x) (hi.map x) (mx.map x)).map λv=>(v,H)
 | .fieldAddr t a f=>(qbx cfg t (x a) f).map λv=>(v,H)
 | .field t a f=>(qh8 cfg t (x a) f).map λv=>(v,H)
 | .indexAddr t a i=>(zg cfg t H (x a).unwr (x i)).map λv=>(v,H)
 | .index t a i=>(qh7 cfg t (x a) (x i)).map λv=>(v,H)
 | .extract t i=>
  match x t with
  | .tup vs=>(vs[i]?).map λv=>(v,H)
  |_=>none
 | .call c=>
  match c.callee,c.args.toList,c.argTypes.toList with
  | .builtin .len,[a],[t]=>(aLen cfg t (x a).unwr H).map λv=>(v,H)
  | .builtin .cap,[a],[t]=>(aCap cfg t (x a)).map λv=>(v,H)
  | .builtin .append,[s,a],[t,xt]=>qbb cfg nid t xt (x s) (x a) H
  | .builtin .copy,[d,s],[t,_]=>qi8 cfg t (x d).unwr (x s) H
  | .builtin .clear,[a],[t]=>(qe6 cfg t (x a) H).map λH'=>(.tup [],H')
  | .builtin .min,[a,b],_=>(aMin (λb a=>decide (b<a)) [x a,x b]).map λv=>(v,H)
  | .builtin .max,[a,b],_=>(aMin (λb a=>decide (a<b)) [x a,x b]).map λv=>(v,H)
  |_,_,_=>none
 |_=>none
mutual
def AV.idsGe (k:Nat):AV->List Nat
 | .agg cs=>vo k cs
 | .tup cs=>vo k cs
 | .sl _=>[]
 | .ms id _ _=>if Nat.blt id k then[]else[id]
 | .ptr id _ _=>if Nat.blt id k then[]else[id]
 | .cptr cs _=>vo k cs
 | .fn _ a b=>vo k a++vo k b
 | .yld id=>if Nat.blt id k then[]else[id]
 | .mp id=>if Nat.blt id k then[]else[id]
 | .ifc _ v=>v.idsGe k
 | .rsl id _=>if Nat.blt id k then[]else[id]
 | .rpt id _ _=>if Nat.blt id k then[]else[id]
 | .alt l=>vo k l
 | .wr _ v=>v.idsGe k
 |_=>[]
def vo (k:Nat):List AV->List Nat
 |[]=>[]
 |a::l=>a.idsGe k++vo k l
def yZ (k:Nat):List (List AV)->List Nat
 |[]=>[]
 |a::l=>vo k a++yZ k l
end
mutual
def AV.ren (ρ:Nat->Nat):AV->AV
 | .agg cs=>.agg (renL ρ cs)
 | .tup cs=>.tup (renL ρ cs)
 | .ms id a b=>.ms (ρ id) a b
 | .ptr id a b=>.ptr (ρ id) a b
 | .cptr cs o=>.cptr (renL ρ cs) o
 | .fn f a b=>.fn f (renL ρ a) (renL ρ b)
 | .yld id=>.yld (ρ id)
 | .mp id=>.mp (ρ id)
 | .ifc t v=>.ifc t (v.ren ρ)
 | .rsl id r=>.rsl (ρ id) r
 | .rpt id r o=>.rpt (ρ id) r o
 | .alt l=>.alt (renL ρ l)
 | .wr n v=>.wr n (v.ren ρ)
 |v=>v
def renL (ρ:Nat->Nat):List AV->List AV
 |[]=>[]
 |a::l=>a.ren ρ::renL ρ l
def renR (ρ:Nat->Nat):List (List AV)->List (List AV)
 |[]=>[]
 |a::l=>renL ρ a::renR ρ l
end
def ABlk.idsGe(k:Nat):ABlk->List Nat
 | .rows d _ rs| .froz d _ rs=>if d then[]else yZ k rs
 | .mp d es=>if d then[]else es.flatMap λe=>e.1.idsGe k++e.2.idsGe k
 | .loop _ fr _ _ _ _ _=>vo k fr
 | .reg| .spl| .dead| .res| .bld _ _ _=>[]
def ABlk.ren(ρ:Nat->Nat):ABlk->ABlk
 | .rows d n rs=>.rows d n (if d then rs else renR ρ rs)
 | .froz d n rs=>.froz d n (if d then rs else renR ρ rs)
 | .mp d es=>.mp d (if d then es else es.map λe=>(e.1.ren ρ,e.2.ren ρ))
 | .loop f fr ps a b p s=>.loop f (renL ρ fr) ps a b p s
 | .reg=>.reg
 | .spl=>.spl
 | .dead=>.dead
 | .res=>.res
 | .bld T e s=>.bld T e s
def qae(k:Nat):AH->List Nat
 |[]=>[]
 |b::l=>b.idsGe k++qae k l
def renH(ρ:Nat->Nat):AH->AH
 |[]=>[]
 |b::l=>b.ren ρ::renH ρ l
def qAm(k:Nat)(H:AH)(id:Nat):List Nat:=
 match H[id]? with
 |some b=>b.idsGe k
 |none=>[]
def qdO(k:Nat)(H:AH):Nat->List Nat->List Nat->List Nat
 |0,found,_=>found
 |_+1,found,[]=>found
 |n+1,found,id::todo=>if yd id found then qdO k H n found todo else qdO k H n (found++[id]) (todo++qAm k H id)
def ye(L:List Nat):List Nat->Bool
 |[]=>true
 |a::l=>yd a L&&ye L l
def qbH(id:Nat):Nat->List Nat->Option Nat
 |_,[]=>none
 |j,a::l=>if qFY a id then some j else qbH id (j+1) l
def qdN(k:Nat)(L:List Nat)(id:Nat):Nat:=
 if Nat.blt id k then id else
 match qbH id k L with
 |some j=>j
 |none=>id
def qe3(H:AH):List Nat->Option AH
 |[]=>some []
 |id::l=>
  match H[id]?,qe3 H l with
  |some b,some bs=>some (b::bs)
  |_,_=>none
def qi2(k:Nat)(fr:List AV)(H:AH):List AV×AH:=
 let L:=qdO k H (2*H.length+16) [] (vo k fr++qae k (H.take k))
 match qe3 H L with
 |some bs=>
  if ye L (vo k fr)&&ye L (qae k (H.take k))&&ye L (qae k bs)&&qFR k H.length then
   (renL (qdN k L) fr,renH (qdN k L) (H.take k)++renH (qdN k L) bs)
  else(fr,H)
 |none=>(fr,H)
def gc(k:Nat)(fr:List AV)(H:AH):List AV×AH:=if qFR H.length k then(fr,H)else qi2 k fr H
def za(nid:Option Nat)(G:AH)(r:AV)(H:AH):Option (AV×AH):=
 match r with
 | .ms id off len=>
  match G[id]? with
  |some (.rows d sz rs)=>
   if d||qQ 0 rs then
    match aNew nid H (.rows true sz rs)with
    |some (k,H')=>some (.ms k off len,H')
    |none=>none
   else none
  |_=>none
 |r=>if r.refsLt 0 then some (r,H)else none
def qdi(nid:Option Nat)(G:AH)(r:AV)(H:AH):Option (AV×AH):=
 match r with
 | .tup [a,s]=>if(s.frz s.msIds G).fg.refsLt 0 then(za nid (qV s.msIds G) a H).map λq=>(.tup [q.1,(s.frz s.msIds G).fg],q.2)else none
 |r=>za nid G r H
def yY(nid:Option Nat)(k:Nat)(r:AV)(H:AH):Option (AV×AH):=
 match gc k [r] H with
 |([r'],H')=>
  match nid with
  |none=>some (r',H')
  |some _=>if qFY H'.length k then some (r',H')else none
 |_=>none
def qbL:List Nat->Bool
 |[]=>true
 |a::l=> !(qFY a 0)&&qbL l
def qlJ(sz:Nat)(r:AV×AH):Option (AV×List (List AV)):=
 match r.2 with
 | .rows true sz' rs::_=>if qFY sz' sz&&ye [0] (r.1.idsGe 0)then some (r.1,rs)else none
 |_=>none
def qmd(sz:Nat)(r:AV×AH):Option (AV×List (List AV)):=
 match r.2 with
 | .rows true sz' rs::_=>if qFY sz' sz&&qbL r.1.msIds&&(r.1.frz r.1.msIds r.2).fg.refsLt 0 then some ((r.1.frz r.1.msIds r.2).fg,rs)else none
 |_=>none
def qli(sz:Nat)(r:AV×AH):Option (AV×List (List AV)):=
 match r.2 with
 | .rows false sz' rs::_=>if qFY sz' sz&&qbL r.1.msIds&&(r.1.frz r.1.msIds r.2).fg.refsLt 0&&ye [0] (yZ 0 rs)then some ((r.1.frz r.1.msIds r.2).fg,rs)else none
 |_=>none
def qpN(G:AH):AV->Option (List (List AV))
 | .rsl id rows=>(match G[id]? with|some .reg=>some rows|_=>none)
 | .sl []=>some []
 | .nilS=>some []
 | .em=>some []
 |_=>none
def qlB:List AV->Bool
 |[]=>true
 |a::l=>a.plain&&qlB l
def rgTm(G:AH):AV->Option AV
 | .agg [.int .i64 k,.int .i64 n,.str s,c]=>(qpN G c).map λrows=>.agg [.int .i64 k,.int .i64 n,.str s,.sl rows]
 |_=>none
def rgL(G:AH):List AV->Option (List AV)
 |[]=>none
 |a::l=>if a.plain then(rgL G l).map λq=>a::q else if qlB l then(rgTm G a).map λx=>x::l else none
def qtP(G:AH):AV->Option AV
 | .tup l=>(rgL G l).map .tup
 |a=>rgTm G a
def AV.rgId:AV->List Nat
 | .rsl id _=>[id]
 |_=>[]
def AV.rgId1:AV->List Nat
 | .agg cs=>cs.flatMap AV.rgId
 |a=>a.rgId
def AV.rgId2:AV->List Nat
 | .tup cs=>cs.flatMap AV.rgId1
 |a=>a.rgId1
def AV.dat0:AV->Option AV
 | .int k n=>some (.int k n)
 | .bool b=>some (.bool b)
 | .str s=>some (.str s)
 | .rsl _ rows=>some (.sl rows)
 | .sl []=>some (.sl [])
 | .nilS=>some (.sl [])
 | .em=>some (.sl [])
 |_=>none
def datL(g:AV->Option AV):List AV->Option (List AV)
 |[]=>some []
 |a::l=>
  match g a,datL g l with
  |some x,some q=>some (x::q)
  |_,_=>none
def AV.dat1:AV->Option AV
 | .agg cs=>(datL AV.dat0 cs).map .agg
 |a=>a.dat0
def AV.dat2:AV->Option AV
 | .tup cs=>(datL AV.dat1 cs).map .tup
 |a=>a.dat1
def qtQ(G:AH)(a:AV):Option AV:=
 match a.rgId2 with
 |[]=>a.dat2
 |id::l=>
  match G[id]? with
  |some .reg=>if ye [id] l then a.dat2 else none
  |_=>none
def qhm(G:AH)(a:AV):Option AV:=
 match qtP G a with
 |some V=>some V
 |none=>qtQ G a
def AV.rgA(i:Nat):AV->AV
 | .agg cs=>.agg (cs.map (AV.regn i))
 | .sl rows=>.rsl i rows
 |a=>a
def AV.unl:AV->Option AV
 | .int k n=>some (.int k n)
 | .bool b=>some (.bool b)
 | .str s=>some (.str s)
 | .lsl rows=>some (.sl rows)
 | .sl []=>some (.sl [])
 | .nilS=>some (.sl [])
 | .em=>some (.sl [])
 |_=>none
def unlR:List (List AV)->Option (List (List AV))
 |[]=>some []
 |r::l=>
  match datL AV.unl r,unlR l with
  |some x,some q=>some (x::q)
  |_,_=>none
def z9(G:AH):AV->Option AV
 | .ms id off len=>
  match G[id]? with
  |some (.rows _ _ rs)=>if qFR (off+len) rs.length then(unlR ((rs.drop off).take len)).map .sl else none
  |_=>none
 | .lsl rows=>some (.sl rows)
 | .sl []=>some (.sl [])
 | .nilS=>some (.sl [])
 | .em=>some (.sl [])
 | .int k n=>some (.int k n)
 | .bool b=>some (.bool b)
 | .str s=>some (.str s)
 |_=>none
def qbj(G:AH):AV->Option AV
 | .agg cs=>(datL (z9 G) cs).map .agg
 |a=>z9 G a
def qfw(G:AH):AV->Option AV
 | .tup cs=>(datL (qbj G) cs).map .tup
 |a=>qbj G a
def AV.lendA:AV->AV
 | .agg cs=>.agg (cs.map AV.lend)
 |a=>a
def AV.lend1:AV->AV
 | .agg cs=>.agg (cs.map AV.lend)
 |a=>a.lend
def AV.lendT:AV->AV
 | .tup cs=>.tup (cs.map AV.lend1)
 |a=>a.lend1
def rgIn(i:Nat):AV->AV
 | .tup l=>.tup (l.map (AV.rgA i))
 |a=>a.rgA i
def qiT(r:AV×AH):Option Unit:=
 match r.1,r.2 with
 | .tup [],.spl::_=>some ()
 |_,_=>none
def zY(cf:Orac)(f:Nat):List AV->Option Unit
 |[]=>some ()
 |a::l=>(cf (.f f) [a] [.spl]).bind λr=>(qiT r).bind λ_=>zY cf f l
def AV.alts:AV->List AV
 | .alt l=>l
 |a=>[a]
def lsz(n:Nat):Nat:=if qFR 1000 n then n - 1000 else n
def qfz(t sz:Nat)(fr:List AV)(H:AH):List AV×AH:=
 match fr[t]? with
 |some .nilS=>(fr.set t (.ms H.length 0 0),H++[.rows true sz []])
 |some (.ptr id r off)=>
  match H[id]? with
  |some (.rows _ n rs)=>
   match rs[r]? with
   |some row=>
    match row[off]? with
    |some .nilS=>(fr,H.set id (.rows false n (rs.set r (row.set off (.ms H.length 0 0))))++[.rows true (lsz sz) []])
    |some (.ms j 0 len)=>
     if qFR 1000 sz then
      match H[j]? with
      |some (.rows true n' rs')=>(fr,H.set j (.rows true n' (rs'.take len)))
      |_=>(fr,H)
     else(fr,H)
    |_=>(fr,H)
   |none=>(fr,H)
  |_=>(fr,H)
 |_=>(fr,H)
def vA(cfg:Cfg)(cf:Orac)(nid:Option Nat)(t:Tgt)(args:List AV)(H:AH):Option (AV×AH):=
 match t with
 | .y id=>(cf (.y id) args H).bind λr=>yY nid H.length r.1 r.2
 | .f f=>
  match cfg.mode f with
  | .scal=>
   if qK 0 (args.map λa=>(a.snap H).fg)then
    (cf (.f f) (args.map λa=>(a.snap H).fg) []).bind λr=>if r.1.scalar then some (r.1,H)else none
   else none
  | .pfrz=>
   if qK 0 (args.map AV.fg)then
    (cf (.f f) (args.map AV.fg) []).bind λr=>if(r.1.frz r.1.msIds r.2).fg.refsLt 0 then some ((r.1.frz r.1.msIds r.2).fg,H)else none
   else none
  | .pown=>if qK 0 args then(cf (.f f) args []).bind λr=>qdi nid r.2 r.1 H else none
  | .nfrz=>if qK 0 (args.map AV.fg)then(cf (.f f) (args.map AV.fg) []).bind λr=>(qfw r.2 r.1).map λV=>(V.lendT,H)else none
  | .inpl=>
   match vo 0 args with
   |id::l=>
    if ye [id] l then
     match H[id]? with
     |some (.rows d sz rs)=>if d||qQ 0 rs then(cf (.f f) (renL (λ_=>0) args) [.rows true sz rs]).bind λr=>(qlJ sz r).map λq=>(q.1.ren (λ_=>id),H.set id (.rows true sz q.2))else none
     |_=>none
    else none
   |[]=>if qK 0 args then(cf (.f f) args []).bind λr=>if r.1.refsLt 0 then some (r.1,H)else none else none
  | .imp=>(cf (.f f) args H).bind λr=>yY nid H.length r.1 r.2
  | .ifrz=>(cf (.f f) args H).bind λr=>yY nid H.length (r.1.frz r.1.msIds r.2) (qV r.1.msIds r.2)
  | .inpf=>
   match vo 0 args with
   |id::l=>
    if ye [id] l then
     match H[id]? with
     |some (.rows d sz rs)=>if d||qQ 0 rs then(cf (.f f) (renL (λ_=>0) args) [.rows true sz rs]).bind λr=>(qmd sz r).map λq=>(q.1,H.set id (.rows true sz q.2))else none
     |_=>none
    else none
   |[]=>none
  | .slf=>
   match vo 0 args with
   |id::l=>
    if ye [id] l then
     match H[id]? with
     |some (.rows _ sz rs)=>if ye [id] (yZ 0 rs)then(cf (.f f) (renL (λ_=>0) args) [.rows false sz (renR (λ_=>0) rs)]).bind λr=>(qli sz r).map λq=>(q.1,H.set id (.rows false sz (renR (λ_=>id) q.2)))else none
     |_=>none
    else none
   |[]=>none
  | .rgn=>if qK 0 (args.map AV.fg)then(cf (.f f) (args.map AV.fg) []).bind λr=>(qhm r.2 r.1).bind λV=>(aNew nid H .reg).map λp=>(rgIn p.1 V,p.2)else none
  | .over=>
   match args with
   |[a]=>
    match vo 0 a.alts with
    |id::l=>
     if ye [id] l then
      match H[id]? with
      |some .reg=>(zY cf f (renL (λ_=>0) a.alts)).map λ_=>(.tup [],H.set id .spl)
      |some .spl=>(zY cf f (renL (λ_=>0) a.alts)).map λ_=>(.tup [],H)
      |_=>none
     else none
    |[]=>none
   |_=>none
open Classical in
def eqC {β:Type} (a b:β):Bool:=decide (a=b)
theorem qwZ{β:Type}{a b:β}(h:eqC a b=true):a=b:=by unfold eqC at h;simpa using h
theorem qqL{β:Type}(a:β):eqC a a=true:=by unfold eqC;simp
def qaE(cfg:Cfg)(t:Tgt)(args:List AV):Option Nat:=
 match t with
 | .y _=>none
 | .f f=>
  match cfg.mode f with
  |_=>none
def yA(cfg:Cfg)(cf:Orac)(nid:Option Nat)(t:Tgt)(args:List AV)(H:AH):Option (AV×AH):=
 match qaE cfg t args with
 |some 0=>
  match vA cfg cf nid t [.nilS] H,vA cfg cf nid t [.em] H with
  |some a,some b=>if eqC a b then some a else none
  |_,_=>none
 |_=>vA cfg cf nid t args H
def zy(f:AV)(args:List AV):Option (Tgt×List AV):=
 match f with
 | .fn (.func g) first caps=>some (.f g,first++args++caps)
 | .yld id=>some (.y id,args)
 |_=>none
def put(fr:List AV)(dst:Option Tmp)(v:AV):List AV:=
 match dst with
 |some d=>fr.set d v
 |none=>fr
def opd(fr:List AV):Operand->AV
 | .tmp t=>fr.getD t .junk
 | .const v=>ofValue v
 | .global _=>.junk
 | .func f=>.fn (.func f) [] []
def vZ(cfg:Cfg)(cf:Orac)(frz:Bool)(nid:Option Nat)(o:Oper)(x:Operand->AV)(H:AH):Option (AV×AH):=
 if frz then
  let ids:=o.op.operands.toList.flatMap λa=>(x a).msIds
  let x':=λa=>(x a).frz ids H
  let H':=qV ids H
  match o.op with
  | .call c=>
   match c.callee with
   | .value f=>(zy (x' f) (c.args.toList.map x')).bind λt=>yA cfg cf nid t.1 t.2 H'
   |_=>evOp cfg nid o.op o.type x' H'
  |_=>evOp cfg nid o.op o.type x' H'
 else
  match o.op with
  | .call c=>
   match c.callee with
   | .value f=>(zy (x f) (c.args.toList.map x)).bind λt=>yA cfg cf nid t.1 t.2 H
   |_=>evOp cfg nid o.op o.type x H
  |_=>evOp cfg nid o.op o.type x H
def y7(ops:Array Oper)(fr:List AV)(o:Oper):Option Bool:=
 match o.guard with
 |none=>some true
 |some (j,want)=>
  match(ops[j]?).bind (·.dst)with
  |some d=>
   match fr[d]? with
   |some (.bool b)=>some (b==want)
   |some (.tup [])=>some false
   |_=>none
  |none=>none
def qb8(cfg:Cfg)(cf:Orac)(f rid:Nat)(ops:Array Oper):Nat->List Oper->List AV->AH->Option (List AV×AH)
 |_,[],fr,H=>some (fr,H)
 |k,o::rest,fr,H=>
  (y7 ops fr o).bind λb=>
   if b then
    (vZ cfg cf (cfg.frz f rid k) none o (opd fr) H).bind λr=>qb8 cfg cf f rid ops (k+1) rest (put fr o.dst r.1) r.2
   else qb8 cfg cf f rid ops (k+1) rest (put fr o.dst (.tup [])) H
structure FP where
 rd:List Nat
 wr:List Nat
 wall:Bool
def FP.none:FP:=⟨[],[],false⟩
def AV.hid:AV->List Nat
 | .ms id _ _| .ptr id _ _| .mp id| .rsl id _| .rpt id _ _=>[id]
 | .wr _ (.ms id _ _)=>[id]
 |_=>[]
def AV.hids:AV->List Nat
 | .agg cs=>cs.flatMap AV.hid
 | .fn _ a b=>a.flatMap AV.hid++b.flatMap AV.hid
 |v=>v.hid
def qaz(cfg:Cfg)(nid:Nat)(t:Tgt)(args:List AV)(H:AH):FP:=
 match t with
 | .y _=>⟨[],[],true⟩
 | .f f=>
  match cfg.mode f with
  | .scal=>⟨args.flatMap AV.hids,[],false⟩
  | .pfrz| .nfrz=>.none
  | .pown| .rgn=>⟨[],[nid],false⟩
  | .inpl| .inpf| .slf=>⟨[],vo 0 args,false⟩
  |_=>⟨[],[],true⟩
def qdt(cfg:Cfg)(nid:Nat)(t:Tgt)(args:List AV)(H:AH):FP:=
 match qaE cfg t args with
 |some _=>⟨[],[],true⟩
 |none=>qaz cfg nid t args H
def yI(cfg:Cfg)(frz:Bool)(nid:Nat)(o:Oper)(x:Operand->AV)(H:AH):FP:=
 if frz then
  match o.op with
  | .build _ _=>⟨[],o.op.operands.toList.flatMap λa=>(x a).msIds,false⟩
  | .call c=>
   match c.callee with
   | .value f=>
    match zy (x f) (c.args.toList.map x)with
    |some (.f h,_)=>
     match cfg.mode h with
     | .pfrz=>⟨[],o.op.operands.toList.flatMap λa=>(x a).msIds,false⟩
     |_=>⟨[],[],true⟩
    |_=>⟨[],[],true⟩
   |_=>⟨[],[],true⟩
  |_=>⟨[],[],true⟩
 else
 match o.op with
 | .alloc _| .box _ _| .buildSlice _ _ _=>⟨[],[nid],false⟩
 | .load _ a=>⟨(x a).hid,[],false⟩
 | .store _ a _=>⟨[],(x a).hid,false⟩
 | .indexAddr _ a _=>⟨(x a).hid,[],false⟩
 | .slice _ a _ _ _=>⟨(x a).hid,[],false⟩
 | .lookup _ a _ _=>⟨(x a).hid,[],false⟩
 | .makeMap _ _| .mapUpdate _ _ _ _| .insert _ _ _ _=>⟨[],[],true⟩
 | .convert _ _ a=>⟨(x a).hid,[nid],false⟩
 | .makeSlice _ _ _=>⟨[],[nid],false⟩
 | .call c=>
  match c.callee,c.args.toList with
  | .builtin .len,[a]=>⟨(x a).hid,[],false⟩
  | .builtin .cap,[_]=>.none
  | .builtin .append,[s,a]=>⟨(x a).hid,nid::(x s).hid,false⟩
  | .builtin .min,_| .builtin .max,_=>.none
  | .builtin _,_=>⟨[],[],true⟩
  | .value f,_=>
   match zy (x f) (c.args.toList.map x)with
   |some t=>qdt cfg nid t.1 t.2 H
   |none=>⟨[],[],true⟩
  |_,_=>⟨[],[],true⟩
 |_=>.none
def FP.touches(a:FP):Bool:=a.wall|| !a.rd.isEmpty|| !a.wr.isEmpty
def qdl(L:List Nat):List Nat->Bool
 |[]=>true
 |a::l=> !(yd a L)&&qdl L l
def FP.indep(a b:FP):Bool:=
 !(a.wall&&b.touches)&& !(b.wall&&a.touches)&&qdl a.wr b.rd&&qdl a.wr b.wr&&qdl a.rd b.wr
def qeL:List Operand->List Tmp
 |[]=>[]
 | .tmp t::l=>t::qeL l
 |_::l=>qeL l
def z3(ops:Array Oper)(o:Oper):List Tmp:=
 qeL o.op.operands.toList++(match o.guard with|some (j,_)=>((ops[j]?).bind (·.dst)).toList|none=>[])
def qfV(acc:List Nat)(o:Oper):Nat:=
 o.after.toList.foldl (λs e=>if Region.binds .any e then s ||| 2 ^ e.on ||| acc.getD e.on 0 else s) 0
def ancs(acc:List Nat):List Oper->List Nat
 |[]=>acc
 |o::l=>ancs (acc++[qfV acc o]) l
def zn:Nat->List Oper->Bool
 |_,[]=>true
 |k,o::l=>(o.after.toList.all λe=> !Region.binds .any e||Nat.blt e.on k)&&zn (k+1) l
def qbT(ops:Array Oper)(a b:Oper):Bool:=
 (match a.dst with|some d=> !(yd d (z3 ops b))|none=>true)&&(match b.dst with|some d=> !(yd d (z3 ops a))|none=>true)
def qbS(a b:Oper):Bool:=
 match a.dst,b.dst with
 |some d,some e=> !(qFY d e)
 |_,_=>true
def qiL(ops:Array Oper)(A:List Nat)(i:Nat)(a:Oper):Nat->List Oper->Bool
 |_,[]=>true
 |j,b::l=>qbS a b&&((A.getD j 0).testBit i||qbT ops a b)&&qiL ops A i a (j+1) l
def qiM(ops:Array Oper)(A:List Nat):Nat->List Oper->Bool
 |_,[]=>true
 |i,a::l=>qiL ops A i a (i+1) l&&qiM ops A (i+1) l
def qnx(ops:Array Oper):Bool:=
 match ops.toList with
 |[a,b,c,d]=>
  match a.op,b.op,c.op,d.op with
  | .alloc _,.store _ (.tmp p) _,.store _ (.tmp q) _,.load _ _=>qFY p q
  |_,_,_,_=>false
 |_=>false
def qfS(ops:Array Oper):Bool:= !qnx ops&&(zn 0 ops.toList&&qiM ops (ancs [] ops.toList) 0 ops.toList)
def qmt(A:List Nat)(i:Nat)(a:FP):Nat->List FP->Bool
 |_,[]=>true
 |j,b::l=>((A.getD j 0).testBit i||a.indep b)&&qmt A i a (j+1) l
def qhY(A:List Nat):Nat->List FP->Bool
 |_,[]=>true
 |i,a::l=>qmt A i a (i+1) l&&qhY A (i+1) l
structure DR where
 fp:FP
 hp:AH
 re:AH->Bool
def AV.same1:AV->AV->Bool
 | .int k n,.int k' n'=>decide (k=k')&&decide (n=n')
 | .bool a,.bool b=>a==b
 | .nilS,.nilS=>true
 | .nilP,.nilP=>true
 | .nilM,.nilM=>true
 | .nilF,.nilF=>true
 | .ms a b c,.ms a' b' c'=>qFY a a'&&qFY b b'&&qFY c c'
 | .ptr a b c,.ptr a' b' c'=>qFY a a'&&qFY b b'&&qFY c c'
 | .mp a,.mp a'=>qFY a a'
 |_,_=>false
def qls(cfg:Cfg)(frz:Bool)(at_:Nat)(o:Oper)(x:Operand->AV)(v:AV)(G:AH):Bool:=
 if frz then false else
 match o.op with
 | .load t a=>
  match x a with
  | .ptr _ _ _=>(match evOp cfg (some at_) (.load t a) o.type x G with|some (v',_)=>v'.same1 v|none=>false)
  |_=>false
 |_=>false
def drOf(cfg:Cfg)(frz:Bool)(at_:Nat)(o:Oper)(x:Operand->AV)(H:AH)(v:AV)(H':AH):DR:=⟨yI cfg frz at_ o x H,H',qls cfg frz at_ o x v⟩
def drNo(H:AH):DR:=⟨.none,H,λ_=>false⟩
def qmK(r:AH->Bool):List DR->Bool
 |[]=>true
 |d::l=>r d.hp&&qmK r l
def stab(H0:AH)(l:List DR)(d:DR):FP:=if d.re H0&&qmK d.re l then FP.none else d.fp
def qi4(A:List Nat)(H0:AH)(l:List DR):Bool:=qhY A 0 (l.map DR.fp)||qhY A 0 (l.map (stab H0 l))
def qAh(cfg:Cfg)(o:Oper):Bool:=
 match o.op with
 | .alloc _| .box _ _| .buildSlice _ _ _| .convert _ _ _| .makeSlice _ _ _| .makeMap _ _=>true
 | .call c=>
  match c.callee with
  | .builtin .append=>true
  | .value (.func f)=>(match cfg.mode f with| .pown=>true| .rgn=>true|_=>false)
  |_=>false
 |_=>false
def qeW(cfg:Cfg)(o:Oper):Nat:=
 match o.op with
 | .call c=>
  match c.callee with
  | .value (.func f)=>(match cfg.mode f with| .pown=>1| .rgn=>1|_=>0)
  | .value (.tmp _)=>if qFY o.type 0 then 4 else 0
  |_=>if qAh cfg o then 1 else 0
 |_=>if qAh cfg o then 1 else 0
def places(cfg:Cfg):List Oper->Nat
 |[]=>0
 |o::l=>qeW cfg o+places cfg l
def zO(cfg:Cfg)(cf:Orac)(f rid:Nat)(ops:Array Oper):Nat->Nat->List Oper->List AV->AH->Option (List DR×List AV×AH)
 |_,_,[],fr,H=>some ([],fr,H)
 |k,at_,o::rest,fr,H=>
  (y7 ops fr o).bind λb=>
   if b then
    (vZ cfg cf (cfg.frz f rid k) (some at_) o (opd fr) H).bind λr=>
     (zO cfg cf f rid ops (k+1) (at_+qeW cfg o) rest (put fr o.dst r.1) r.2).map λq=>(drOf cfg (cfg.frz f rid k) at_ o (opd fr) H r.1 r.2::q.1,q.2)
   else(zO cfg cf f rid ops (k+1) (at_+qeW cfg o) rest (put fr o.dst (.tup [])) H).map λq=>(drNo H::q.1,q.2)
inductive Ex where
 |normal
 |exit (id:Nat)
 |goto (l:Nat)
 |ret
def zN:Nat->List Tmp->List AV->List AV
 |_,_,[]=>[]
 |i,[],_::fr=>.junk::zN i [] fr
 |i,k::ks,a::fr=>if qFY i k then a::zN (i+1) ks fr else .junk::zN (i+1) (k::ks) fr
def xk(ts:Option (List Tmp))(fr:List AV):List AV:=
 match ts with
 |none=>fr
 |some ks=>zN 0 ks fr
def xf:List (Tmp×Nat)->List AV->AH->List AV×AH
 |[],fr,H=>(fr,H)
 |p::l,fr,H=>xf l (qfz p.1 p.2 fr H).1 (qfz p.1 p.2 fr H).2
def qbr(k:Nat)(ts:Option (List Tmp))(ls:List (Tmp×Nat))(fr:List AV)(H:AH):List AV×AH:=
 gc k (xf ls (xk ts fr) H).1 (xf ls (xk ts fr) H).2
def Cfg.keepIn(c:Cfg)(f r:Nat):Option (List Tmp):=match c.mask f r with|some p=>some p.1|none=>none
def Cfg.keepOut(c:Cfg)(f r:Nat):Option (List Tmp):=match c.mask f r with|some p=>some p.2|none=>none
def qm:Code->Nat
 | .region id _ _=>id
 | .seq a _=>qm a
 | .block _ a=>qm a
 | .loop a=>qm a
 | .scope a=>qm a
 |_=>0
open Classical in
def lim {α:Type} (g:Nat->Option α):Option α:=
 if h:∃(n:Nat) (r:α),g n=some r then some (Classical.choose (Classical.choose_spec h))else none
abbrev Den:=List AV->AH->Option (Ex×List AV×AH)
def qat(k:Nat)(ts:Option (List Tmp))(ls:List (Tmp×Nat))(body:Den):Nat->List AV×AH->Option (Ex×List AV×AH)
 |0,_=>none
 |n+1,p=>
  (body p.1 p.2).bind λr=>
   match r.1 with
   | .normal=>qat k ts ls body n (qbr k ts ls r.2.1 r.2.2)
   |e=>some (e,r.2)
def LOOP(k:Nat)(ts:Option (List Tmp))(ls:List (Tmp×Nat))(body:Den)(p:List AV×AH):Option (Ex×List AV×AH):=lim λn=>qat k ts ls body n p
def qpQ(rd:Option Nat)(H:AH):Bool:=
 match rd with
 |none=>true
 |some l=>(match H[l]? with|some (.loop _ _ _ _ _ _ _)=>true|_=>false)
def qe2(cfg:Cfg)(cf:Orac)(f:Nat)(rd:Option Nat)(k:Nat)(g:Operand)(ps:Array Tmp)(assign body:Code)(fr:List AV)(H:AH):Option (Ex×List AV×AH):=
 if qpQ rd H then
  match opd fr g with
  | .fn (.func h) first caps=>
   if(cfg.ext h).isSome then none else
   (cf (.f h) (first++[.yld H.length]++caps) (H++[.loop f (xk (cfg.keepIn f (qm body)) fr) ps.toList assign body none .ready])).bind λr=>
    match r.2[H.length]? with
    |some (.loop _ _ _ _ _ pend st)=>
     match st with
     | .busy=>none
     |_=>
      match gc k (xk (cfg.keepOut f (qm body)) fr) (r.2.set H.length .dead),pend with
      |q,none=>some (.normal,q)
      |q,some .ret=>some (.ret,q)
      |q,some (.exit id)=>some (.exit id,q)
      |_,_=>none
    |_=>none
  |_=>none
 else none
def qab(a b:IntKind):Bool:=decide (a=b)
mutual
def AV.same:AV->AV->Bool
 | .int a b,.int c d=>qab a c&&decide (b=d)
 | .bool a,.bool b=>a==b
 | .str a,.str b=>a==b
 | .agg a,.agg b=>qao a b
 | .tup a,.tup b=>qao a b
 | .nilS,.nilS=>true
 | .sl a,.sl b=>qdJ a b
 | .em,.em=>true
 | .nilP,.nilP=>true
 | .nilF,.nilF=>true
 | .nilM,.nilM=>true
 | .nilI,.nilI=>true
 | .junk,.junk=>true
 | .fn (.func f) a b,.fn (.func g) c d=>qFY f g&&(qao a c&&qao b d)
 | .cptr a i,.cptr b j=>qFY i j&&qao a b
 | .ms a b c,.ms d e f=>qFY a d&&(qFY b e&&qFY c f)
 | .ptr a b c,.ptr d e f=>qFY a d&&(qFY b e&&qFY c f)
 | .yld a,.yld b=>qFY a b
 | .mp a,.mp b=>qFY a b
 | .ifc t a,.ifc u b=>qFY t u&&a.same b
 |_,_=>false
def qao:List AV->List AV->Bool
 |[],[]=>true
 |a::l,b::m=>a.same b&&qao l m
 |_,_=>false
def qdJ:List (List AV)->List (List AV)->Bool
 |[],[]=>true
 |a::l,b::m=>qao a b&&qdJ l m
 |_,_=>false
end
mutual
theorem AV.same_eq:∀{a b:AV},a.same b=true->a=b
 | .int a b,y,h=>by
  cases y<;>simp[AV.same,qab]at h
  rw[h.1,h.2]
 | .bool a,y,h=>by cases y<;>simp[AV.same]at h;rw[h]
 | .str a,y,h=>by cases y<;>simp[AV.same]at h;rw[h]
 | .agg a,y,h=>by cases y<;>simp[AV.same]at h;rw[zB h]
 | .tup a,y,h=>by cases y<;>simp[AV.same]at h;rw[zB h]
 | .nilS,y,h=>by cases y<;>simp[AV.same]at h;rfl
 | .sl a,y,h=>by cases y<;>simp[AV.same]at h;rw[qfp h]
 | .em,y,h=>by cases y<;>simp[AV.same]at h;rfl
 | .nilP,y,h=>by cases y<;>simp[AV.same]at h;rfl
 | .nilF,y,h=>by cases y<;>simp[AV.same]at h;rfl
 | .nilM,y,h=>by cases y<;>simp[AV.same]at h;rfl
 | .nilI,y,h=>by cases y<;>simp[AV.same]at h;rfl
 | .junk,y,h=>by cases y<;>simp[AV.same]at h;rfl
 | .fn f a b,y,h=>by
  cases f<;>cases y<;>first|(rename_i g c d;cases g<;>simp[AV.same]at h;rw[h.1,zB h.2.1,zB h.2.2])|simp[AV.same]at h
 | .cptr a i,y,h=>by
  cases y<;>simp[AV.same]at h
  rw[h.1,zB h.2]
 | .ms _ _ _,y,h=>by
  cases y<;>simp[AV.same]at h
  rw[h.1,h.2.1,h.2.2]
 | .ptr _ _ _,y,h=>by
  cases y<;>simp[AV.same]at h
  rw[h.1,h.2.1,h.2.2]
 | .yld _,y,h=>by
  cases y<;>simp[AV.same]at h
  rw[h]
 | .mp _,y,h=>by
  cases y<;>simp[AV.same]at h
  rw[h]
 | .ifc _ _,y,h=>by
  cases y<;>simp[AV.same]at h
  rw[h.1,AV.same_eq h.2]
theorem zB:∀{a b:List AV},qao a b=true->a=b
 |[],[],_=>rfl
 |a::l,b::m,h=>by
  simp only[qao,qFJ]at h
  rw[AV.same_eq h.1,zB h.2]
 |[],_::_,h=>by simp[qao]at h
 |_::_,[],h=>by simp[qao]at h
theorem qfp:∀{a b:List (List AV)},qdJ a b=true->a=b
 |[],[],_=>rfl
 |a::l,b::m,h=>by
  simp only[qdJ,qFJ]at h
  rw[zB h.1,qfp h.2]
 |[],_::_,h=>by simp[qdJ]at h
 |_::_,[],h=>by simp[qdJ]at h
end
def qiP:List (AV×AV)->List (AV×AV)->Bool
 |[],[]=>true
 |a::l,b::m=>(a.1.same b.1&&a.2.same b.2)&&qiP l m
 |_,_=>false
theorem qpJ:∀{a b:List (AV×AV)},qiP a b=true->a=b
 |[],[],_=>rfl
 |(a1,a2)::l,(b1,b2)::m,h=>by
  simp only[qiP,qFJ]at h;rw[AV.same_eq h.1.1,AV.same_eq h.1.2,qpJ h.2]
 |[],_::_,h=>by simp[qiP]at h
 |_::_,[],h=>by simp[qiP]at h
def qll:Value->Value->Bool
 | .bool a,.bool b=>a==b
 | .int k n,.int l m=>qab k l&&decide (n=m)
 | .string a,.string b=>a.data.toList==b.data.toList
 | .slice none a b,.slice none c d=>qFY a c&&qFY b d
 |_,_=>false
theorem qnU{a b:Value}(h:qll a b=true):a=b:=by
 unfold qll at h;split at h
 ·rw[eq_of_beq h]
 ·simp only[qFJ,qab,decide_eq_true_eq]at h;rw[h.1,h.2]
 ·rename_i x y;obtain⟨⟨x⟩⟩:=x;obtain⟨⟨y⟩⟩:=y;have:x=y:=eq_of_beq h;rw[this]
 ·simp only[qFJ]at h;rw[qFO h.1,qFO h.2]
 ·cases h
def qeN:List Value->List Value->Bool
 |[],[]=>true
 |a::l,b::m=>qll a b&&qeN l m
 |_,_=>false
theorem qnQ:∀{a b:List Value},qeN a b=true->a=b
 |[],[],_=>rfl
 |a::l,b::m,h=>by
  simp only[qeN,qFJ]at h;rw[qnU h.1,qnQ h.2]
 |[],_::_,h=>by simp[qeN]at h
 |_::_,[],h=>by simp[qeN]at h
theorem qe5{α:Type}{a b:Array α}(h:a.toList=b.toList):a=b:=by
 obtain⟨a⟩:=a;obtain⟨b⟩:=b;have:a=b:=h;rw[this]
def qtI:Value->Value->Bool
 | .agg a,.agg b=>qeN a.toList b.toList
 |a,b=>qll a b
theorem qx5{a b:Value}(h:qtI a b=true):a=b:=by
 unfold qtI at h;split at h
 ·rw[qe5 (qnQ h)]
 ·exact qnU h
def zA:Operand->Operand->Bool
 | .tmp a,.tmp b=>qFY a b
 | .func a,.func b=>qFY a b
 | .const a,.const b=>qtI a b
 |_,_=>false
theorem yh{a b:Operand}(h:zA a b=true):a=b:=by
 unfold zA at h;split at h
 ·rw[qFO h]
 ·rw[qFO h]
 ·rw[qx5 h]
 ·cases h
def qeO:List Operand->List Operand->Bool
 |[],[]=>true
 |a::l,b::m=>zA a b&&qeO l m
 |_,_=>false
theorem qnS:∀{a b:List Operand},qeO a b=true->a=b
 |[],[],_=>rfl
 |a::l,b::m,h=>by
  simp only[qeO,qFJ]at h;rw[yh h.1,qnS h.2]
 |[],_::_,h=>by simp[qeO]at h
 |_::_,[],h=>by simp[qeO]at h
def qa6:List (Nat×Operand)->List (Nat×Operand)->Bool
 |[],[]=>true
 |a::l,b::m=>(qFY a.1 b.1&&zA a.2 b.2)&&qa6 l m
 |_,_=>false
theorem qhg:∀{a b:List (Nat×Operand)},qa6 a b=true->a=b
 |[],[],_=>rfl
 |(a1,a2)::l,(b1,b2)::m,h=>by
  simp only[qa6,qFJ]at h;rw[qFO h.1.1,yh h.1.2,qhg h.2]
 |[],_::_,h=>by simp[qa6]at h
 |_::_,[],h=>by simp[qa6]at h
def qpK:Builtin->Builtin->Bool
 | .len,.len=>true
 | .append,.append=>true
 |_,_=>false
def qaW:List Nat->List Nat->Bool
 |[],[]=>true
 |a::l,b::m=>qFY a b&&qaW l m
 |_,_=>false
theorem qef:∀{a b:List Nat},qaW a b=true->a=b
 |[],[],_=>rfl
 |a::l,b::m,h=>by
  simp only[qaW,qFJ]at h;rw[qFO h.1,qef h.2]
 |[],_::_,h=>by simp[qaW]at h
 |_::_,[],h=>by simp[qaW]at h
def qpF:Op->Op->Bool
 | .move a,.move b=>zA a b
 | .assign a,.assign b=>zA a b
 | .alloc a,.alloc b=>qFY a b
 | .box a x,.box b y=>qFY a b&&zA x y
 | .load a x,.load b y=>qFY a b&&zA x y
 | .store a x u,.store b y v=>qFY a b&&(zA x y&&zA u v)
 | .nilCheck a,.nilCheck b=>zA a b
 | .fieldAddr a x i,.fieldAddr b y j=>qFY a b&&(zA x y&&qFY i j)
 | .indexAddr a x i,.indexAddr b y j=>qFY a b&&(zA x y&&zA i j)
 | .buildSlice a n p,.buildSlice b m q=>qFY a b&&(qFY n m&&qa6 p.toList q.toList)
 | .call ⟨.builtin f,a,s⟩,.call ⟨.builtin g,b,t⟩=>qpK f g&&(qeO a.toList b.toList&&qaW s.toList t.toList)
 |_,_=>false
theorem qvS{a b:Op}(h:qpF a b=true):a=b:=by
 unfold qpF at h;split at h
 ·rw[yh h]
 ·rw[yh h]
 ·rw[qFO h]
 ·simp only[qFJ]at h;rw[qFO h.1,yh h.2]
 ·simp only[qFJ]at h;rw[qFO h.1,yh h.2]
 ·simp only[qFJ]at h;rw[qFO h.1,yh h.2.1,yh h.2.2]
 ·rw[yh h]
 ·simp only[qFJ]at h;rw[qFO h.1,yh h.2.1,qFO h.2.2]
 ·simp only[qFJ]at h;rw[qFO h.1,yh h.2.1,yh h.2.2]
 ·simp only[qFJ]at h;rw[qFO h.1,qFO h.2.1,qe5 (qhg h.2.2)]
 ·simp only[qFJ]at h;have hf:∀{f g:Builtin},qpK f g=true->f=g:=by
   intro f g h;unfold qpK at h;split at h
   ·rfl
   ·rfl
   ·cases h
  rw[hf h.1,qe5 (qnS h.2.1),qe5 (qef h.2.2)]
 ·cases h
def qeP:List Edge->List Edge->Bool
 |[],[]=>true
 |a::l,b::m=>(qFY a.on b.on&&decide (a.ground=b.ground))&&qeP l m
 |_,_=>false
theorem qnT:∀{a b:List Edge},qeP a b=true->a=b
 |[],[],_=>rfl
 |⟨a1,a2⟩::l,⟨b1,b2⟩::m,h=>by
  simp only[qeP,qFJ,decide_eq_true_eq]at h;rw[qFO h.1.1,h.1.2,qnT h.2]
 |[],_::_,h=>by simp[qeP]at h
 |_::_,[],h=>by simp[qeP]at h
def qkr(a b:Oper):Bool:=decide (a.dst=b.dst)&&(qpF a.op b.op&&(qFY a.type b.type&&(decide (a.pos=b.pos)&&(qeP a.after.toList b.after.toList&&decide (a.guard=b.guard)))))
theorem qrA{a b:Oper}(h:qkr a b=true):a=b:=by
 obtain⟨a1,a2,a3,a4,a5,a6⟩:=a;obtain⟨b1,b2,b3,b4,b5,b6⟩:=b;simp only[qkr,qFJ,decide_eq_true_eq]at h;rw[h.1,qvS h.2.1,qFO h.2.2.1,h.2.2.2.1,qe5 (qnT h.2.2.2.2.1),h.2.2.2.2.2]
def qa7:List Oper->List Oper->Bool
 |[],[]=>true
 |a::l,b::m=>qkr a b&&qa7 l m
 |_,_=>false
theorem qhh:∀{a b:List Oper},qa7 a b=true->a=b
 |[],[],_=>rfl
 |a::l,b::m,h=>by
  simp only[qa7,qFJ]at h;rw[qrA h.1,qhh h.2]
 |[],_::_,h=>by simp[qa7]at h
 |_::_,[],h=>by simp[qa7]at h
def xe:Code->Code->Bool
 | .skip,.skip=>true
 | .ret,.ret=>true
 | .exit a,.exit b=>qFY a b
 | .region i o d,.region j p e=>qFY i j&&(qa7 o.toList p.toList&&d==e)
 | .seq a b,.seq c d=>xe a c&&xe b d
 | .cond x a b,.cond y c d=>zA x y&&(xe a c&&xe b d)
 | .block i a,.block j b=>qFY i j&&xe a b
 | .loop a,.loop b=>xe a b
 | .scope a,.scope b=>xe a b
 |_,_=>false
theorem qjP:∀{a b:Code},xe a b=true->a=b:=by
 intro a
 induction a with
 |skip=>intro b h;cases b<;>first|rfl|(simp[xe]at h)
 |ret=>intro b h;cases b<;>first|rfl|(simp[xe]at h)
 |exit i=>intro b h;cases b<;>simp[xe]at h;rw[h]
 |region i o d=>
  intro b h;cases b<;>simp[xe]at h
  rw[h.1,qe5 (qhh h.2.1),h.2.2]
 |seq x y ihx ihy=>
  intro b h;cases b<;>simp[xe]at h
  rw[ihx h.1,ihy h.2]
 |cond c x y ihx ihy=>
  intro b h;cases b<;>simp[xe]at h
  rw[yh h.1,ihx h.2.1,ihy h.2.2]
 |block i x ih=>
  intro b h;cases b<;>simp[xe]at h
  rw[h.1,ih h.2]
 |loop x ih=>
  intro b h;cases b<;>simp[xe]at h
  rw[ih h]
 |scope x ih=>
  intro b h;cases b<;>simp[xe]at h
  rw[ih h]
 |_=>intro b h;cases b<;>simp[xe]at h
def ABlk.same:ABlk->ABlk->Bool
 | .rows a n rs,.rows b m ss=>(a==b)&&(qFY n m&&qdJ rs ss)
 | .froz a n rs,.froz b m ss=>(a==b)&&(qFY n m&&qdJ rs ss)
 | .mp c a,.mp d b=>(c==d)&&qiP a b
 | .loop f fr ps a b none s,.loop g fr' qs c d none t=>(qFY f g&&(qao fr fr'&&qaW ps qs))&&(xe a c&&(xe b d&&decide (s=t)))
 | .dead,.dead=>true
 | .res,.res=>true
 | .reg,.reg=>true
 | .spl,.spl=>true
 |_,_=>false
theorem ABlk.same_eq{a b:ABlk}(h:a.same b=true):a=b:=by
 unfold ABlk.same at h;split at h
 ·simp at h;rw[h.1,h.2.1,qfp h.2.2]
 ·simp at h;rw[h.1,h.2.1,qfp h.2.2]
 ·simp only[qFJ,beq_iff_eq]at h;rw[h.1,qpJ h.2]
 ·simp only[qFJ,decide_eq_true_eq]at h;rw[qFO h.1.1,zB h.1.2.1,qef h.1.2.2,qjP h.2.1,qjP h.2.2.1,h.2.2.2]
 ·rfl
 ·rfl
 ·rfl
 ·rfl
 ·cases h
def qiO:AH->AH->Bool
 |[],[]=>true
 |a::l,b::m=>a.same b&&qiO l m
 |_,_=>false
theorem qpI:∀{a b:AH},qiO a b=true->a=b
 |[],[],_=>rfl
 |a::l,b::m,h=>by
  simp only[qiO,qFJ]at h;rw[ABlk.same_eq h.1,qpI h.2]
 |[],_::_,h=>by simp[qiO]at h
 |_::_,[],h=>by simp[qiO]at h
def Ex.same:Ex->Ex->Bool
 | .normal,.normal=>true
 | .ret,.ret=>true
 | .exit a,.exit b=>qFY a b
 |_,_=>false
theorem Ex.same_eq{a b:Ex}(h:a.same b=true):a=b:=by
 cases a<;>cases b<;>simp[Ex.same]at h<;>first|rfl|(rw[h])
def qtH(a b:Ex×List AV×AH):Bool:=a.1.same b.1&&(qao a.2.1 b.2.1&&qiO a.2.2 b.2.2)
theorem qx4{a b:Ex×List AV×AH}(h:qtH a b=true):a=b:=by
 obtain⟨a1,a2,a3⟩:=a;obtain⟨b1,b2,b3⟩:=b;simp only[qtH,qFJ]at h;rw[Ex.same_eq h.1,zB h.2.1,qpI h.2.2]
def rdyB(D:List Nat)(o:Oper):Bool:=o.after.toList.all λe=> !(Region.binds .any e)||D.any (qFY e.on)
def yz(D:List Nat):Nat->List Oper->List (Nat×Oper)
 |_,[]=>[]
 |i,o::l=>if !(D.any (qFY i))&&rdyB D o then(i,o)::yz D (i+1) l else yz D (i+1) l
def qcn(cfg:Cfg)(cf:Orac)(f rid:Nat)(ops:Array Oper)(i:Nat)(o:Oper)(fr:List AV)(H:AH):Option (List AV×AH):=
 (y7 ops fr o).bind λb=>if b then(vZ cfg cf (cfg.frz f rid i) none o (opd fr) H).map λr=>(put fr o.dst r.1,r.2)else some (put fr o.dst (.tup []),H)
def qbt(F:Nat->List AV->AH->Option (List (List AV×AH)))(G:Nat->Oper->Option (List AV×AH)):List (Nat×Oper)->Option (List (List AV×AH))
 |[]=>some []
 |p::l=>(G p.1 p.2).bind λq=>(F p.1 q.1 q.2).bind λL=>(qbt F G l).map λL'=>L++L'
def qaA(cfg:Cfg)(cf:Orac)(f rid:Nat)(ops:Array Oper):Nat->List Nat->List AV->AH->Option (List (List AV×AH))
 |0,D,fr,H=>if(yz D 0 ops.toList).isEmpty then some [(fr,H)]else none
 |n+1,D,fr,H=>if(yz D 0 ops.toList).isEmpty then some [(fr,H)]else qbt (λi fr H=>qaA cfg cf f rid ops n (i::D) fr H) (λi o=>qcn cfg cf f rid ops i o fr H) (yz D 0 ops.toList)
def qoV(F:Nat->Option (List (List (Nat×Oper)))):List (Nat×Oper)->Option (List (List (Nat×Oper)))
 |[]=>some []
 |p::l=>
  match F p.1,qoV F l with
  |some (a::A),some B=>some ((a::A).map (p::·)++B)
  |_,_=>none
def qiU(ops:Array Oper):Nat->List Nat->Option (List (List (Nat×Oper)))
 |0,D=>if(yz D 0 ops.toList).isEmpty then some [[]]else none
 |n+1,D=>if(yz D 0 ops.toList).isEmpty then some [[]]else qoV (λi=>qiU ops n (i::D)) (yz D 0 ops.toList)
def qb7(cfg:Cfg)(cf:Orac)(f rid:Nat)(ops:Array Oper):List (Nat×Oper)->List AV->AH->Option (List AV×AH)
 |[],fr,H=>some (fr,H)
 |p::l,fr,H=>(qcn cfg cf f rid ops p.1 p.2 fr H).bind λq=>qb7 cfg cf f rid ops l q.1 q.2
def y3(cfg:Cfg)(cf:Orac)(f rid:Nat)(ops:Array Oper):List (List (Nat×Oper))->List AV->AH->Option (List (List AV×AH))
 |[],_,_=>some []
 |o::O,fr,H=>(qb7 cfg cf f rid ops o fr H).bind λq=>(y3 cfg cf f rid ops O fr H).map λL=>q::L
theorem qmm{cfg:Cfg}{cf:Orac}{f rid:Nat}{ops:Array Oper}{fr:List AV}{H:AH}:∀{A B:List (List (Nat×Oper))} {L:List (List AV×AH)},y3 cfg cf f rid ops (A++B) fr H=some L->∃L1 L2,y3 cfg cf f rid ops A fr H=some L1∧y3 cfg cf f rid ops B fr H=some L2∧L=L1++L2
 |[],B,L,h=>⟨[],L,rfl,h,rfl⟩
 |a::A,B,L,h=>by
  obtain⟨q,h1,h⟩:=qFL.1 h;obtain⟨L',h2,rfl⟩:=qFM.1 h;obtain⟨L1,L2,h3,h4,rfl⟩:=qmm h2;exact⟨q::L1,L2,by simp only[y3,h1,qGa,h3,qGc],h4,rfl⟩
theorem qml{cfg:Cfg}{cf:Orac}{f rid:Nat}{ops:Array Oper}{fr:List AV}{H:AH}{p:Nat×Oper}{q:List AV×AH}(hq:qcn cfg cf f rid ops p.1 p.2 fr H=some q):∀{A:List (List (Nat×Oper))} {L:List (List AV×AH)},y3 cfg cf f rid ops (A.map (p::·)) fr H=some L->y3 cfg cf f rid ops A q.1 q.2=some L
 |[],L,h=>h
 |a::A,L,h=>by
  obtain⟨x,h1,h⟩:=qFL.1 h;obtain⟨L',h2,rfl⟩:=qFM.1 h;have h3:=qml hq h2;rw[qb7,hq,qGa]at h1;simp only[y3,h1,qGa,h3,qGc]
theorem qmn{cfg:Cfg}{cf:Orac}{f rid:Nat}{ops:Array Oper}:∀(n:Nat) (D:List Nat) {O:List (List (Nat×Oper))} {fr:List AV} {H:AH} {L:List (List AV×AH)},qiU ops n D=some O->y3 cfg cf f rid ops O fr H=some L->qaA cfg cf f rid ops n D fr H=some L
 |0,D,O,fr,H,L,h,hl=>by
  rw[qiU]at h;rw[qaA];split at h
  ·rename_i he;cases h;rw[qGq he]
   simpa [y3,qb7]using hl
  ·cases h
 |n+1,D,O,fr,H,L,h,hl=>by
  rw[qiU]at h;rw[qaA];split at h
  ·rename_i he;cases h;rw[qGq he]
   simpa [y3,qb7]using hl
  ·rename_i he;rw[qGr he];have key:∀(l:List (Nat×Oper)) {O:List (List (Nat×Oper))} {L:List (List AV×AH)},qoV (λi=>qiU ops n (i::D)) l=some O->y3 cfg cf f rid ops O fr H=some L->qbt (λi fr H=>qaA cfg cf f rid ops n (i::D) fr H) (λi o=>qcn cfg cf f rid ops i o fr H) l=some L:=by
    intro l
    induction l with
    |nil=>intro O L h hl;cases h;rw[y3]at hl;rw[qbt];exact hl
    |cons p l ih=>
     intro O L h hl;rw[qoV]at h;split at h
     ·rename_i a A B hA hB;cases h;obtain⟨L1,L2,h1,h2,rfl⟩:=qmm hl;have h1':=h1;rw[List.map_cons]at h1';obtain⟨x,hx,_⟩:=qFL.1 h1';rw[qb7]at hx;obtain⟨q,hq,_⟩:=qFL.1 hx;have h3:=qmn n (p.1::D) hA (qml hq h1);rw[qbt,hq,qGa,h3,qGa,ih hB h2];rfl
     ·cases h
   exact key _ h hl
def qhZ:Code->Option (Nat×Array Oper)
 | .region id ops true=>if qnx ops then some (id,ops)else none
 |_=>none
def dsts:Code->List Tmp
 | .region _ ops _=>ops.toList.filterMap Oper.dst
 | .seq a b=>dsts a++dsts b
 | .cond _ a b=>dsts a++dsts b
 | .block _ a=>dsts a
 | .loop a=>dsts a
 | .scope a=>dsts a
 |_=>[]
def qmg(ts:List Tmp)(fr:List AV):List AV:=ts.foldl (λfr t=>put fr (some t) .junk) fr
def qs9(k:Nat)(ts:List Tmp)(r:Ex×List AV×AH):Ex×List AV×AH:=(r.1,gc k (qmg ts r.2.1) r.2.2)
def qaI(F:List AV->AH->Option (Ex×List AV×AH))(r:Ex×List AV×AH):List (List AV×AH)->Bool
 |[]=>true
 |q::l=>(match F q.1 q.2 with|some r'=>qtH r r'||eqC r r'|none=>false)&&qaI F r l
def qcX(F:List AV->AH->Option (Ex×List AV×AH)):List (List AV×AH)->Option (Ex×List AV×AH)
 |[]=>none
 |q::l=>(F q.1 q.2).bind λr=>if qaI F r l then some r else none
theorem qmL{F:List AV->AH->Option (Ex×List AV×AH)}{r:Ex×List AV×AH}:∀{l:List (List AV×AH)},qaI F r l=true->∀q∈l,F q.1 q.2=some r
 |[],_,q,hq=>by cases hq
 |x::l,h,q,hq=>by
  simp only[qaI,qFJ]at h;rcases qF6.1 hq with rfl|hq
  ·have h1:=h.1;split at h1
   ·rename_i r' hr';rw[Bool.or_eq_true]at h1;rcases h1 with h1|h1
    ·rw[hr',qx4 h1]
    ·rw[hr',qwZ h1]
   ·cases h1
  ·exact qmL h.2 q hq
theorem qrB{F:List AV->AH->Option (Ex×List AV×AH)}{r:Ex×List AV×AH}{l:List (List AV×AH)}(h:qcX F l=some r):∀q∈l,F q.1 q.2=some r:=by
 cases l with
 |nil=>cases h
 |cons x l=>
  obtain⟨r',h1,h⟩:=qFL.1 h;split at h
  ·rename_i h2;cases h;intro q hq;rcases qF6.1 hq with rfl|hq
   ·exact h1
   ·exact qmL h2 q hq
  ·cases h
def evC(cfg:Cfg)(cf:Orac)(f:Nat)(rd:Option Nat)(k:Nat):Code->List AV->AH->Option (Ex×List AV×AH)
 | .skip,fr,H=>some (.normal,fr,H)
 | .label _,fr,H=>some (.normal,fr,H)
 | .region id ops draw,fr,H=>
  if draw then
   if qfS ops then
    (zO cfg cf f id ops 0 H.length ops.toList fr (H++qGd (places cfg ops.toList) .res)).bind λq=>
     if qi4 (ancs [] ops.toList) (H++qGd (places cfg ops.toList) .res) q.1 then some (.normal,q.2)else none
   else none
  else(qb8 cfg cf f id ops 0 ops.toList fr H).map λq=>(.normal,q)
 | .seq a b,fr,H=>
  match qhZ a with
  |some p=>
   (qaA cfg cf f p.1 p.2 p.2.size [] fr H).bind λL=>
    qcX (λfr H=>(evC cfg cf f rd k b (xk (cfg.cut f (qm b)) fr) H).map (qs9 k (dsts a++dsts b))) L
  |none=>
   (evC cfg cf f rd k a fr H).bind λr=>
    match r.1 with
    | .normal=>evC cfg cf f rd k b (xk (cfg.cut f (qm b)) r.2.1) r.2.2
    |e=>some (e,r.2)
 | .cond c a b,fr,H=>
  match opd fr c with
  | .bool t=>if t then evC cfg cf f rd k a fr H else evC cfg cf f rd k b fr H
  |_=>none
 | .block id a,fr,H=>
  (evC cfg cf f rd k a fr H).bind λr=>
   match r.1 with
   | .exit id'=>some (if qFY id' id then(.normal,r.2)else r)
   |_=>some r
 | .loop a,fr,H=>(LOOP k (cfg.keepIn f (qm a)) (cfg.lift f (qm a)) (evC cfg cf f rd k a) (qbr k (cfg.keepIn f (qm a)) (cfg.lift f (qm a)) fr H)).map λr=>(r.1,xk (cfg.keepOut f (qm a)) r.2.1,r.2.2)
 | .scope a,fr,H=>
  (evC cfg cf f rd k a fr H).bind λr=>
   match r.1 with
   | .goto _=>none
   |_=>some r
 | .exit id,fr,H=>some (.exit id,fr,H)
 | .goto _,_,_=>none
 | .ret,fr,H=>some (.ret,fr,H)
 | .rangeFunc g ps assign body,fr,H=>qe2 cfg cf f rd k g ps assign body (xf (cfg.lift f (qm body)) fr H).1 (xf (cfg.lift f (qm body)) fr H).2
 | .refuse _,_,_=>none
def yR(rs:List ResultVar)(ty:TypeId->Option TI)(fr:List AV)(H:AH):Option (List AV):=
 match rs with
 |[]=>some []
 | .tmp t::l=>(yR l ty fr H).map λvs=>fr.getD t .junk::vs
 | .cell a t::l=>
  match ty t with
  |some ti=>(qaC ti.d.agg ti.sz H (fr.getD a .junk)).bind λv=>(yR l ty fr H).map λvs=>v::vs
  |none=>none
def qap:List AV->AV
 |[v]=>v
 |vs=>.tup vs
def qeZ(cfg:Cfg)(rs:List ResultVar)(r:Ex×List AV×AH):Option (AV×AH):=
 match r.1 with
 | .normal| .ret=>(yR rs cfg.ty r.2.1 r.2.2).map λvs=>(qap vs,r.2.2)
 |_=>none
def zu(fr:List AV):List Tmp->List AV->List AV
 |t::ts,a::al=>zu (fr.set t a) ts al
 |_,_=>fr
def vR(cfg:Cfg)(cf:Orac):Orac
 | .f f,args,H=>
  match cfg.ext f with
  |some s=>s args H
  |none=>
   if cfg.known f then
    match cfg.P.funcs[f]? with
    |some fn=>
     match fn.body with
     |some c=>(evC cfg cf f none H.length c (args++qGd (fn.ntmps - args.length) .junk) H).bind λr=>qeZ cfg fn.results.toList (r.1,xf (cfg.lift f 0) r.2.1 r.2.2)
     |none=>none
    |none=>none
   else none
 | .y id,args,H=>
  match H[id]? with
  |some (.loop f fr ps assign body _ .ready)=>
   if args.length=ps.length then
    (evC cfg cf f (some id) H.length assign (zu fr ps args) H).bind λr=>
     match r.1,r.2.2[id]? with
     | .normal,some (.loop f' fr' ps' assign' body' pend' .ready)=>
      (evC cfg cf f (some id) H.length body r.2.1 (r.2.2.set id (.loop f' fr' ps' assign' body' pend' .busy))).bind λq=>
       match q.2.2[id]? with
       |some (.loop f' fr' ps' assign' body' _ _)=>
        match q.1 with
        | .normal=>some (.bool true,q.2.2.set id (.loop f' fr' ps' assign' body' none .ready))
        | .ret=>some (.bool false,q.2.2.set id (.loop f' fr' ps' assign' body' (some .ret) .done))
        | .exit x=>some (.bool false,q.2.2.set id (.loop f' fr' ps' assign' body' (some (.exit x)) .done))
        | .goto _=>none
       |_=>none
     |_,_=>none
   else none
  |_=>none
def evF(cfg:Cfg):Nat->Orac
 |0,_,_,_=>none
 |n+1,t,args,H=>vR cfg (evF cfg n) t args H
def EV(cfg:Cfg):Orac:=λt args H=>lim λn=>evF cfg n t args H
theorem vL{a:Nat}{L:List Nat}:yd a L=true↔a∈L:=by
 induction L with
 |nil=>simp[yd]
 |cons b l ih=>
  simp only[yd,Bool.or_eq_true,ih,qF6];constructor
  ·rintro(h|h)
   ·exact .inl (qFO h).symm
   ·exact .inr h
  ·rintro(h|h)
   ·exact .inl (by rw[h];exact qF3 _)
   ·exact .inr h
theorem ze{L l:List Nat}:ye L l=true↔∀a∈l,a∈L:=by
 induction l with
 |nil=>simp[ye]
 |cons b l ih=>simp[ye,ih,vL]
theorem quh{L l:List Nat}:qdl L l=true↔∀a∈l,a ∉ L:=by
 induction l with
 |nil=>simp[qdl]
 |cons b l ih=>
  simp only[qdl,qFJ,ih,Bool.not_eq_true',qF6,forall_eq_or_imp];rw[←Bool.not_eq_true,vL]
theorem Rep0.monoD{D D':qk}(hD:∀b o v,D b o=some v->D' b o=some v){a:AV}{v:Value}(h:Rep0 D a v):Rep0 D' a v:=by
 induction h with
 |int k n=>exact .int k n
 |bool b=>exact .bool b
 |str s=>exact .str s
 |nilS=>exact .nilS
 |slNil=>exact .slNil
 |em a cap=>exact .em a cap
 |sl rows a cap sz vals hs hsz hc _ hcell hcap hfree ih=>exact .sl rows a cap sz vals hs hsz (λi j row x h1 h2=>hD _ _ _ (hc i j row x h1 h2)) ih hcell hcap hfree
theorem Rep.monoG[Lent]{C C':qk}{μ μ':MMap}(hC:∀b o v,C b o=some v->C' b o=some v)(hμ:MLe μ μ'){a:AV}{v:Value}(h:Rep C μ a v):Rep C' μ' a v:=by
 induction h with
 |int k n=>exact .int k n
 |bool b=>exact .bool b
 |str s=>exact .str s
 |agg cs vs hl _ ih=>exact .agg cs vs hl ih
 |tup cs vs hl _ ih=>exact .tup cs vs hl ih
 |nilS=>exact .nilS
 |slNil=>exact .slNil
 |em a cap=>exact .em a cap
 |sl rows a cap sz vals hs hsz hc _ hcell hcap hfree ih=>exact .sl rows a cap sz vals hs hsz (λi j row x h1 h2=>hC _ _ _ (hc i j row x h1 h2)) ih hcell hcap hfree
 |ms id off len cap a m hm hl ha=>obtain⟨m',h1,e1,e2,e3,e4,_⟩:=hμ _ _ hm;exact .ms id off len cap a m' h1 hl (by rw[e1,e2,e3,e4];exact ha)
 |msN id off=>exact .msN id off
 |nilP=>exact .nilP
 |ptr id row off m hm=>obtain⟨m',h1,e1,e2,_,e4,_⟩:=hμ _ _ hm;rw[←e1,←e2,←e4];exact .ptr id row off m' h1
 |cptr cells off b o vals hc _ ih=>exact .cptr cells off b o vals (λj x h=>hC _ _ _ (hc j x h)) ih
 |fn f first caps vf vc hl1 hl2 _ _ ih1 ih2=>exact .fn f first caps vf vc hl1 hl2 ih1 ih2
 |yld id m hm=>obtain⟨m',h1,e1,_⟩:=hμ _ _ hm;rw[←e1];exact .yld id m' h1
 |nilF=>exact .nilF
 |nilM=>exact .nilM
 |mp id m hm=>obtain⟨m',h1,e1,_⟩:=hμ _ _ hm;rw[←e1];exact .mp id m' h1
 |nilI=>exact .nilI
 |ifc t a v _ ih=>exact .ifc t a v ih
 |lsl rows v h=>exact .lsl rows v (h.monoD (qnE hC))
 |lpt cells off b o vals hc hr=>exact .lpt cells off b o vals (λj x h=>qnE hC _ _ _ (hc j x h)) (λj x h=>(hr j x h).monoD (qnE hC))
 |rsl id rows v D hD h=> 
  by_cases hne:rows=[]
  ·exact .rsl id rows v D (λh=>absurd hne h) h
  ·obtain⟨m,h1,rfl⟩:=hD hne;obtain⟨m',g1,_,_,_,_,g2⟩:=hμ _ _ h1;exact .rsl id rows v m'.D (λ_=>⟨m',g1,rfl⟩) (h.monoD g2)
 |rpt id cells off b o vals m hm hc hr=>obtain⟨m',g1,_,_,_,_,g2⟩:=hμ _ _ hm;exact .rpt id cells off b o vals m' g1 (λj x h=>g2 _ _ _ (hc j x h)) (λj x h=>(hr j x h).monoD g2)
 |alt l i a v ha _ ih=>exact .alt l i a v ha ih
 |wr n a ad c hn _ ih=>exact .wr n a ad c hn ih
 |junk v=>exact .junk v
theorem Rep.mono[Lent]{C C':qk}{μ μ':MMap}(hC:∀b o v,C b o=some v->C' b o=some v)(hμ:∀id m,μ id=some m->μ' id=some m){a:AV}{v:Value}(h:Rep C μ a v):Rep C' μ' a v:=h.monoG hC (.st hμ)
theorem zD(ρ:Nat->Nat)(l:List AV):renL ρ l=l.map (AV.ren ρ):=by
 induction l with
 |nil=>rfl
 |cons a l ih=>simp[renL,ih]
theorem qdf(ρ:Nat->Nat)(l:List (List AV)):renR ρ l=l.map (renL ρ):=by
 induction l with
 |nil=>rfl
 |cons a l ih=>simp[renR,ih]
theorem qdg(ρ:Nat->Nat)(l:AH):renH ρ l=l.map (ABlk.ren ρ):=by
 induction l with
 |nil=>rfl
 |cons a l ih=>simp[renH,ih]
theorem yK{k:Nat}{l:List AV}{i:Nat}{a:AV}(h:l[i]? =some a):∀x∈a.idsGe k,x∈vo k l:=by
 induction l generalizing i with
 |nil=>simp at h
 |cons b l ih=>
  intro x hx;cases i with
  |zero=>simp at h;subst h;simp[vo,hx]
  |succ i=>simp at h;simp[vo,ih h x hx]
theorem quX{k:Nat}{l:List (List AV)}{i:Nat}{a:List AV}(h:l[i]? =some a):∀x∈vo k a,x∈yZ k l:=by
 induction l generalizing i with
 |nil=>simp at h
 |cons b l ih=>
  intro x hx;cases i with
  |zero=>simp at h;subst h;simp[yZ,hx]
  |succ i=>simp at h;simp[yZ,ih h x hx]
theorem ql9{k:Nat}{l:AH}{i:Nat}{a:ABlk}(h:l[i]? =some a):∀x∈a.idsGe k,x∈qae k l:=by
 induction l generalizing i with
 |nil=>simp at h
 |cons b l ih=>
  intro x hx;cases i with
  |zero=>simp at h;subst h;simp[qae,hx]
  |succ i=>simp at h;simp[qae,ih h x hx]
theorem qw{α β:Type}{f:α->β}{l:List α}{i:Nat}{b:β}(h:(l.map f)[i]? =some b):∃a,l[i]? =some a∧f a=b:=by
 rw[List.getElem?_map]at h;cases hl:l[i]? with
 |none=>rw[hl]at h;cases h
 |some a=>rw[hl]at h;exact⟨a,rfl,by simpa using h⟩
theorem quN(ρ:Nat->Nat)(a:AV):(a.ren ρ).isCell=a.isCell:=by cases a<;>rfl
theorem xJ{k:Nat}{l:List AV}(h:qK k l=true){i:Nat}{a:AV}(ha:l[i]? =some a):a.refsLt k=true:=by
 induction l generalizing i with
 |nil=>simp at ha
 |cons b l ih=>
  rw[qK,qFJ]at h;cases i with
  |zero=>simp at ha;subst ha;exact h.1
  |succ i=>exact ih h.2 (by simpa using ha)
theorem zV{k:Nat}{l:List (List AV)}(h:qQ k l=true){i:Nat}{a:List AV}(ha:l[i]? =some a):qK k a=true:=by
 induction l generalizing i with
 |nil=>simp at ha
 |cons b l ih=>
  rw[qQ,qFJ]at h;cases i with
  |zero=>simp at ha;subst ha;exact h.1
  |succ i=>exact ih h.2 (by simpa using ha)
theorem Rep.free[Lent]{C:qk}{μ:MMap}(μ':MMap){a:AV}{v:Value}(h:Rep C μ a v)(hr:a.refsLt 0=true):Rep C μ' a v:=by
 induction h with
 |int k n=>exact .int k n
 |bool b=>exact .bool b
 |str s=>exact .str s
 |agg cs vs hl _ ih=>exact .agg cs vs hl (λi a v h1 h2=>ih i a v h1 h2 (xJ (by simpa [AV.refsLt]using hr) h1))
 |tup cs vs hl _ ih=>exact .tup cs vs hl (λi a v h1 h2=>ih i a v h1 h2 (xJ (by simpa [AV.refsLt]using hr) h1))
 |nilS=>exact .nilS
 |slNil=>exact .slNil
 |em a cap=>exact .em a cap
 |sl rows a cap sz vals hs hsz hc _ hcell hcap hfree ih=>exact .sl rows a cap sz vals hs hsz hc (λi j row x h1 h2=>ih i j row x h1 h2 (xJ (zV hfree h1) h2)) hcell hcap hfree
 |ms id off len cap a m hm hl ha=>simp[AV.refsLt,Nat.blt_eq]at hr
 |msN id off=>exact .msN id off
 |nilP=>exact .nilP
 |ptr id row off m hm=>simp[AV.refsLt,Nat.blt_eq]at hr
 |cptr cells off b o vals hc _ ih=>exact .cptr cells off b o vals hc (λj x h=>ih j x h (xJ (by simpa [AV.refsLt]using hr) h))
 |fn f first caps vf vc hl1 hl2 _ _ ih1 ih2=>
  rw[AV.refsLt,qFJ]at hr;exact .fn f first caps vf vc hl1 hl2 (λi a v h1 h2=>ih1 i a v h1 h2 (xJ hr.1 h1)) (λi a v h1 h2=>ih2 i a v h1 h2 (xJ hr.2 h1))
 |yld id m hm=>simp[AV.refsLt,Nat.blt_eq]at hr
 |nilF=>exact .nilF
 |nilM=>exact .nilM
 |mp id m hm=>simp[AV.refsLt,Nat.blt_eq]at hr
 |nilI=>exact .nilI
 |ifc t a v _ ih=>exact .ifc t a v (ih (by simpa [AV.refsLt]using hr))
 |lsl rows v h=>exact .lsl rows v h
 |lpt cells off b o vals hc hr'=>exact .lpt cells off b o vals hc hr'
 |rsl id rows v D hD h=>simp[AV.refsLt,Nat.blt_eq]at hr
 |rpt id cells off b o vals m hm hc hr'=>simp[AV.refsLt,Nat.blt_eq]at hr
 |alt l i a v ha _ ih=>exact .alt l i a v ha (ih (xJ (by simpa [AV.refsLt]using hr) ha))
 |wr n a ad c hn _ ih=>exact .wr n a ad c hn (ih (by simpa [AV.refsLt]using hr))
 |junk v=>exact .junk v
theorem Rep.renm[Lent]{C:qk}{μ μ':MMap}{k:Nat}{L:List Nat}{ρ:Nat->Nat}(hμ:∀id m,(id<k∨id∈L)->μ id=some m->μ' (ρ id)=some m){a:AV}{v:Value}(h:Rep C μ a v)(hi:∀x∈a.idsGe k,x∈L):Rep C μ' (a.ren ρ) v:=by
 have one:∀id,(∀x∈(if Nat.blt id k then[]else[id]),x∈L)->(id<k∨id∈L):=by
  intro id h
  by_cases hk:id<k
  ·exact .inl hk
  ·refine .inr (h id ?_);rw[qGr (by simpa [Nat.blt_eq]using hk)];simp
 induction h with
 |int k n=>exact .int k n
 |bool b=>exact .bool b
 |str s=>exact .str s
 |agg cs vs hl _ ih=>
  rw[AV.ren,zD];refine .agg _ vs (by simpa using hl) (λi a v h1 h2=>?_);obtain⟨b,hb,rfl⟩:=qw h1;exact ih i b v hb h2 (λx hx=>hi x (by rw[AV.idsGe];exact yK hb x hx))
 |tup cs vs hl _ ih=>
  rw[AV.ren,zD];refine .tup _ vs (by simpa using hl) (λi a v h1 h2=>?_);obtain⟨b,hb,rfl⟩:=qw h1;exact ih i b v hb h2 (λx hx=>hi x (by rw[AV.idsGe];exact yK hb x hx))
 |nilS=>exact .nilS
 |slNil=>exact .slNil
 |em a cap=>exact .em a cap
 |sl rows a cap sz vals hs hsz hc hr hcell hcap hfree ih=>
  exact .sl rows a cap sz vals hs hsz hc (λi j row x h1 h2=>(hr i j row x h1 h2).free μ' (xJ (zV hfree h1) h2)) hcell hcap hfree
 |ms id off len cap a m hm hl ha=>exact .ms _ off len cap a m (hμ _ _ (one id (by simpa [AV.idsGe]using hi)) hm) hl ha
 |msN id off=>exact .msN _ off
 |nilP=>exact .nilP
 |ptr id row off m hm=>exact .ptr _ row off m (hμ _ _ (one id (by simpa [AV.idsGe]using hi)) hm)
 |cptr cells off b o vals hc _ ih=>
  rw[AV.ren,zD];refine .cptr _ off b o vals (λj x h=>?_) (λj x h=>?_)
  ·obtain⟨y,hy,rfl⟩:=qw h;exact hc j y hy
  ·obtain⟨y,hy,rfl⟩:=qw h;exact ih j y hy (λz hz=>hi z (by rw[AV.idsGe];exact yK hy z hz))
 |fn f first caps vf vc hl1 hl2 _ _ ih1 ih2=>
  rw[AV.ren,zD,zD];refine .fn f _ _ vf vc (by simpa using hl1) (by simpa using hl2) (λi a v h1 h2=>?_) (λi a v h1 h2=>?_)
  ·obtain⟨b,hb,rfl⟩:=qw h1;exact ih1 i b v hb h2 (λx hx=>hi x (by rw[AV.idsGe];exact qF8.2 (.inl (yK hb x hx))))
  ·obtain⟨b,hb,rfl⟩:=qw h1;exact ih2 i b v hb h2 (λx hx=>hi x (by rw[AV.idsGe];exact qF8.2 (.inr (yK hb x hx))))
 |yld id m hm=>exact .yld _ m (hμ _ _ (one id (by simpa [AV.idsGe]using hi)) hm)
 |nilF=>exact .nilF
 |nilM=>exact .nilM
 |mp id m hm=>exact .mp _ m (hμ _ _ (one id (by simpa [AV.idsGe]using hi)) hm)
 |nilI=>exact .nilI
 |ifc t a v _ ih=>exact .ifc t _ v (ih (by simpa [AV.idsGe]using hi))
 |lsl rows v h=>exact .lsl rows v h
 |lpt cells off b o vals hc hr=>exact .lpt cells off b o vals hc hr
 |rsl id rows v D hD h=>exact .rsl _ rows v D (λhne=>let⟨m,h1,h2⟩:=hD hne;⟨m,hμ _ _ (one id (by simpa [AV.idsGe]using hi)) h1,h2⟩) h
 |rpt id cells off b o vals m hm hc hr=>exact .rpt _ cells off b o vals m (hμ _ _ (one id (by simpa [AV.idsGe]using hi)) hm) hc hr
 |alt l i a v ha _ ih=>
  rw[AV.ren,zD];exact .alt _ i _ v (by rw[List.getElem?_map,ha];rfl) (ih (λx hx=>hi x (by rw[AV.idsGe];exact yK ha x hx)))
 |wr n a ad c hn _ ih=>exact .wr n _ ad c hn (ih (by simpa [AV.idsGe]using hi))
 |junk v=>exact .junk v
def yl[Lent](C:qk)(μ:MMap)(g:Nat->Option Value)(sz:Nat)(rs:List (List AV)):Prop:=
 ∀(i:Nat) row,rs[i]? =some row->row.length=sz∧∀(j:Nat) x,row[j]? =some x->x.isCell=true∧∃v,g (i*sz+j)=some v∧Rep C μ x v
def qy[Lent](C:qk)(μ:MMap)(fr:List AV)(tmps:Array Value):Prop:=
 fr.length=tmps.size∧∀(i:Nat) a v,fr[i]? =some a->tmps[i]? =some v->Rep C μ a v
def vF(w:World)(m:MI)(o:Nat):Option Value:=w.cell? ⟨m.block,m.base+o,none⟩
def qd9(D:qk)(b o:Nat):Prop:=(∃k,D b o=some (.int .i64 k))∧(∃n,D b (o+1)=some (.int .i64 n))∧(∃s,D b (o+2)=some (.string s))∧∃x l c,D b (o+3)=some (.slice x l c)
def qaJ(w:World)(b o:Nat)(k:Int):Prop:=w.cell? ⟨b,o,none⟩=some (.int .i64 k)∧w.cell? ⟨b,o+1,none⟩=some (.int .i64 0)∧w.cell? ⟨b,o+2,none⟩=some (.string ⟨#[]⟩)∧∃v,w.cell? ⟨b,o+3,none⟩=some v∧Rep0 (λ_ _=>none) (.sl []) v
def qre(D:qk)(b o:Nat):Prop:=(∃k n,D b o=some (.int k n))∨∃t,D b o=some (.bool t)
def zR(D:qk)(w:World):Prop:=(∀b o v,D b o=some v->w.frozen? ⟨b,o,none⟩=false∧(w.cell? ⟨b,o,none⟩).isSome=true) ∧
 (∀b o,qd9 D b o->(∀j,j<4->w.cell? ⟨b,o+j,none⟩=D b (o+j))∨qaJ w b o 77∨qaJ w b o 0) ∧
 ∀b o,qre D b o->(∃x l c,D b (o+1)=some (.slice x l c))->w.cell? ⟨b,o+1,none⟩=D b (o+1)
theorem zR.heap{D:qk}{w w':World}(hw:∀b o v,D b o=some v->w'.heap[b]? =w.heap[b]?)(h:zR D w):zR D w':=by
 obtain⟨h1,h2,h3⟩:=h;refine⟨λb o v hd=>?_,λb o hr=>?_,λb o hp hs=>?_⟩
 ·have:=h1 b o v hd;simp only[World.frozen?,World.cell?,hw b o v hd]at this⊢;exact this
 ·have hb:=hw b o _ hr.1.choose_spec;have:=h2 b o hr;simp only[qaJ,World.cell?,hb]at this⊢;exact this
 ·have hb:w'.heap[b]? =w.heap[b]? :=by
   rcases hp with⟨k,n,e⟩|⟨t,e⟩
   ·exact hw b o _ e
   ·exact hw b o _ e
  have:=h3 b o hp hs;simp only[World.cell?,hb]at this⊢;exact this
def qic(w:World)(m:MI)(T e:TypeId)(s:List UInt8):Prop:=
 m.base=0∧∃p v,w.heap[m.block]? =some (.cells #[p,v] T (0,0))∧(p= .pointer none∨p= .pointer (some ⟨m.block,0,none⟩))∧w.ownsRowF 0 e 1 v s.length (Go.Lib.byteCells s) ∧
  v.ownBlock≠some m.block∧(s=[]->v= .slice none 0 0)∧∀g,v.ownBlock=some g->m.has g
theorem qic.heap{w w':World}{m:MI}{T e:TypeId}{s:List UInt8}(hw:∀b,m.has b->w'.heap[b]? =w.heap[b]?)(h:qic w m T e s):qic w' m T e s:=by
 obtain⟨h1,p,v,h2,h3,h4,h5,h6,h7⟩:=h;refine⟨h1,p,v,(hw _ m.has_block).trans h2,h3,⟨h4.1,?_⟩,h5,h6,h7⟩;rcases h4.2 with e|⟨g,cap,cur,fz,e1,e2,e3,e4⟩
 ·exact .inl e
 ·exact .inr ⟨g,cap,cur,fz,e1,e2,(hw g (h7 g (by rw[e1];rfl))).trans e3,e4⟩
def xr[Lent](C:qk)(μ:MMap)(w:World)(m:MI):ABlk->Prop
 | .rows _d sz rs=>sz=m.sz∧rs.length*sz<=m.size∧yl C μ (vF w m) sz rs∧∀o,o<m.size->(vF w m o).isSome=true∧w.frozen? ⟨m.block,m.base+o,none⟩=false
 | .mp _ es=>∃arr clock,w.heap[m.block]? =some (.map arr clock)∧arr.size=es.length∧∀(i:Nat) e me,es[i]? =some e->arr[i]? =some me->Rep C μ e.1 me.key∧Rep C μ e.2 me.val
 | .loop _ fr ps assign body pend st=>∃r:Loop,w.heap[m.block]? =some (.loop r)∧r.state=st∧r.pending=pend∧r.params.toList=ps∧r.assign=assign∧r.body=body∧qy C μ fr r.tmps
 | .reg=>∀b o v,m.D b o=some v->w.cell? ⟨b,o,none⟩=some v∧w.frozen? ⟨b,o,none⟩=false
 | .spl=>zR m.D w
 | .bld T e s=>qic w m T e s
 |_=>True
def qib[Lent](C:qk)(μ:MMap)(m:MI)(sz:Nat)(rs:List (List AV)):Prop:=
 sz=m.sz∧rs.length*sz<=m.size∧yl C μ (λo=>C m.block (m.base+o)) sz rs
theorem zi{k:Nat}{l:List AV}:qK k l=true↔∀a∈l,a.refsLt k=true:=by
 induction l with
 |nil=>simp[qK]
 |cons a l ih=>simp[qK,ih]
theorem yM{k:Nat}{l:List (List AV)}:qQ k l=true↔∀a∈l,qK k a=true:=by
 induction l with
 |nil=>simp[qQ]
 |cons a l ih=>simp[qQ,ih]
theorem qeg{k:Nat}{a b:List (List AV)}(ha:qQ k a=true)(hb:qQ k b=true):qQ k (a++b)=true:=by
 rw[yM]at *;intro x hx;rcases qF8.1 hx with h|h
 ·exact ha x h
 ·exact hb x h
theorem yW{k n:Nat}{a:List (List AV)}(ha:qQ k a=true):qQ k (a.take n)=true:=by
 rw[yM]at *;exact λx hx=>ha x (List.mem_of_mem_take hx)
theorem z8{k n:Nat}{a:List (List AV)}(ha:qQ k a=true):qQ k (a.drop n)=true:=by
 rw[yM]at *;exact λx hx=>ha x (List.mem_of_mem_drop hx)
theorem qjU{k:Nat}{a b:List AV}(ha:qK k a=true)(hb:qK k b=true):qK k (a++b)=true:=by
 rw[zi]at *;intro x hx;rcases qF8.1 hx with h|h
 ·exact ha x h
 ·exact hb x h
theorem qpO{k n:Nat}{a:List AV}(ha:qK k a=true):qK k (a.take n)=true:=by
 rw[zi]at *;exact λx hx=>ha x (List.mem_of_mem_take hx)
theorem qpP{k n:Nat}{a:List AV}(ha:qK k a=true):qK k (a.drop n)=true:=by
 rw[zi]at *;exact λx hx=>ha x (List.mem_of_mem_drop hx)
theorem qrI{k i:Nat}{a:List (List AV)}{row:List AV}(ha:qQ k a=true)(hr:qK k row=true):qQ k (a.set i row)=true:=by
 rw[yM]at *;intro x hx;rcases List.mem_or_eq_of_mem_set hx with h|h
 ·exact ha x h
 ·subst h;exact hr
theorem qjT{k n:Nat}{row:List AV}(hr:qK k row=true):qQ k (qGd n row)=true:=by
 rw[yM];intro x hx;rw[(List.mem_replicate.1 hx).2];exact hr
theorem qgg{k:Nat}(s:List UInt8):qQ k (zI s)=true:=by
 rw[yM];intro x hx;obtain⟨b,_,rfl⟩:=List.mem_map.1 hx;rfl
theorem qlr(k:Nat)(v:Value):(xA v).refsLt k=true:=by
 unfold xA;split<;>simp[AV.refsLt]
theorem qdh(k:Nat)(l:List Value):qK k (l.map xA)=true:=by
 rw[zi];intro x hx;obtain⟨b,_,rfl⟩:=List.mem_map.1 hx;exact qlr k b
def ABlk.Free:ABlk->Prop
 | .rows d _ rs| .froz d _ rs=>d=true->qQ 0 rs=true
 | .mp d es=>d=true->∀(i:Nat) (e:AV×AV),es[i]? =some e->e.1.refsLt 0=true∧e.2.refsLt 0=true
 |_=>True
def yL(H:AH):Prop:=∀(id:Nat) b,H[id]? =some b->b.Free
theorem yL.blk{H:AH}(h:yL H){id sz:Nat}{rs:List (List AV)}(hb:vg H id=some (sz,rs))(hf:xT H id=true):qQ 0 rs=true:=by
 unfold vg at hb;unfold xT at hf;split at hb
 ·rename_i d sz' rs' hi;rw[hi]at hf;cases hb;exact h id _ hi hf
 ·rename_i d sz' rs' hi;rw[hi]at hf;cases hb;exact h id _ hi hf
 ·cases hb
theorem yL.nil:yL []:=λid b h=>by simp at h
theorem yL.set{H:AH}{b:ABlk}{id:Nat}(h:yL H)(hb:b.Free):yL (H.set id b):=λi b' hi=>by
 rw[qF1]at hi;split at hi
 ·split at hi
  ·cases hi;exact hb
  ·cases hi
 ·exact h i b' hi
theorem yL.get{H:AH}{id:Nat}{b:ABlk}(h:yL H)(hi:H[id]? =some b):b.Free:=h id b hi
structure Wld [Lent] (C:qk) (μ:MMap) (H:AH) (w:World):Prop where
 cl:∀b o v,C b o=some v->w.cell? ⟨b,o,none⟩=some v
 dom:∀id m,μ id=some m->id<H.length
 res:∀(id:Nat),H[id]? =some .res->μ id=none
 live:∀(id:Nat) blk,H[id]? =some blk->blk.live=true->(μ id=none->blk.vacant=true)∧∀m,μ id=some m->(∀b,m.has b->b<w.heap.size∧(∀o,C b o=none)∧Lent.fr b)∧xr C μ w m blk
 froz:∀(id:Nat) d sz rs,H[id]? =some (.froz d sz rs)->(μ id=none->rs=[])∧∀m,μ id=some m->qib C μ m sz rs
 inj:∀(id id':Nat) b b' m m',H[id]? =some b->H[id']? =some b'->b.live=true->b'.live=true->μ id=some m->μ id'=some m'->∀x,m.has x->m'.has x->id=id'
 free:yL H
 lnt:(∀b o v,Lent.l b o=some v->w.cell? ⟨b,o,none⟩=some v∧∀ob,Lent.k b=some ob->w.heap[b]? =some ob)∧(Lent.u->∀b o v,Lent.nw b->C b o=some v->w.frozen? ⟨b,o,none⟩=false)∧∀b,w.heap.size<=b->Lent.nw b
theorem Wld.liveH[Lent]{C:qk}{μ:MMap}{H:AH}{w:World}(h:Wld C μ H w){id:Nat}{blk:ABlk}{m:MI}(hi:H[id]? =some blk)(hl:blk.live=true)(hm:μ id=some m):
  ∀b,m.has b->b<w.heap.size∧(∀o,C b o=none)∧Lent.fr b:=((h.live id blk hi hl).2 m hm).1
theorem Wld.liveM[Lent]{C:qk}{μ:MMap}{H:AH}{w:World}(h:Wld C μ H w){id:Nat}{blk:ABlk}{m:MI}(hi:H[id]? =some blk)(hl:blk.live=true)(hm:μ id=some m):
  m.block<w.heap.size∧(∀o,C m.block o=none)∧xr C μ w m blk:=
 ⟨(h.liveH hi hl hm _ m.has_block).1,(h.liveH hi hl hm _ m.has_block).2.1,((h.live id blk hi hl).2 m hm).2⟩
theorem Wld.liveX[Lent]{C:qk}{μ:MMap}{H:AH}{w:World}(h:Wld C μ H w){id:Nat}{blk:ABlk}(hi:H[id]? =some blk)(hl:blk.live=true)(hv:blk.vacant=false):
  ∃m,μ id=some m∧m.block<w.heap.size∧(∀o,C m.block o=none)∧xr C μ w m blk:=by
 obtain⟨h1,_⟩:=h.live id blk hi hl;cases hm:μ id with
 |none=>rw[h1 hm]at hv;cases hv
 |some m=>exact⟨m,rfl,h.liveM hi hl hm⟩
theorem Wld.frozX[Lent]{C:qk}{μ:MMap}{H:AH}{w:World}(h:Wld C μ H w){id sz:Nat}{d:Bool}{rs:List (List AV)}{r:Nat}{row:List AV}(hi:H[id]? =some (.froz d sz rs))(hr:rs[r]? =some row):
  ∃m,μ id=some m∧qib C μ m sz rs:=by
 obtain⟨h1,h2⟩:=h.froz id d sz rs hi;cases hm:μ id with
 |none=>rw[h1 hm]at hr;simp at hr
 |some m=>exact⟨m,rfl,h2 m hm⟩
theorem qjJ{d:Bool}{sz r:Nat}{rs:List (List AV)}{row:List AV}(hr:rs[r]? =some row):(ABlk.rows d sz rs).vacant=false:=by
 cases rs with
 |nil=>simp at hr
 |cons=>rfl
def Live(H:AH)(μ:MMap)(b:Nat):Prop:=∃(id:Nat) (blk:ABlk) (m:MI),H[id]? =some blk∧blk.live=true∧μ id=some m∧m.has b
structure Ext (k:Nat) (C:qk) (μ:MMap) (H:AH) (w:World) (C':qk) (μ':MMap) (H':AH) (w':World):Prop where
 os:w'.os=w.os
 tape:w'.tape=w.tape
 output:w'.output=w.output
 size:w.heap.size<=w'.heap.size
 cl:∀b o v,C b o=some v->C' b o=some v
 mu:∀id m,id<k->μ id=some m->∃m',μ' id=some m'∧m.le m'
 fr:∀b,b<w.heap.size->¬Live H μ b->w'.heap[b]? =w.heap[b]? ∧¬Live H' μ' b∧C' b=C b
 len:k<=H'.length
theorem Ext.refl{k:Nat}{C:qk}{μ:MMap}{H:AH}{w:World}(hk:k<=H.length):Ext k C μ H w C μ H w:=
 ⟨rfl,rfl,rfl,qFH _,λ_ _ _ h=>h,λ_ m _ h=>⟨m,h,.refl m⟩,λ_ _ hl=>⟨rfl,hl,rfl⟩,hk⟩
theorem Ext.less{k k':Nat}{C C':qk}{μ μ':MMap}{H H':AH}{w w':World}(h:Ext k' C μ H w C' μ' H' w')(hk:k<=k'):Ext k C μ H w C' μ' H' w':=
 ⟨h.os,h.tape,h.output,h.size,h.cl,λid m hid hm=>h.mu id m (Nat.lt_of_lt_of_le hid hk) hm,h.fr,Nat.le_trans hk h.len⟩
theorem Ext.trans {k k' : Nat} {C C' C'' : qk} {μ μ' μ'' : MMap} {H H' H'' : AH} {w w' w'' : World} (h : Ext k C μ H w C' μ' H' w') (h' : Ext k' C' μ' H' w' C'' μ'' H'' w'') (hk : k ≤ k') : Ext k C μ H w C'' μ'' H'' w'' :=
  ⟨h'.os.trans h.os, h'.tape.trans h.tape, h'.output.trans h.output, Nat.le_trans h.size h'.size, fun b o v hc => h'.cl b o v (h.cl b o v hc),
   fun id m hid hm => let ⟨m1, e1, l1⟩ := h.mu id m hid hm; let ⟨m2, e2, l2⟩ := h'.mu id m1 (Nat.lt_of_lt_of_le hid hk) e1; ⟨m2, e2, l1.trans l2⟩,
   fun b hb hl => by
     obtain ⟨e1, l1, c1⟩ := h.fr b hb hl
     obtain ⟨e2, l2, c2⟩ := h'.fr b (Nat.lt_of_lt_of_le hb h.size) l1
     exact ⟨e2.trans e1, l2, c2.trans c1⟩,
   Nat.le_trans hk h'.len⟩
theorem qy.monoG[Lent]{C C':qk}{μ μ':MMap}(hC:∀b o v,C b o=some v->C' b o=some v)(hμ:MLe μ μ'){fr:List AV}{t:Array Value}(h:qy C μ fr t):qy C' μ' fr t:=
 ⟨h.1,λi a v h1 h2=>(h.2 i a v h1 h2).monoG hC hμ⟩
theorem qy.mono[Lent]{C C':qk}{μ μ':MMap}(hC:∀b o v,C b o=some v->C' b o=some v)(hμ:∀id m,μ id=some m->μ' id=some m){fr:List AV}{t:Array Value}(h:qy C μ fr t):qy C' μ' fr t:=
 h.monoG hC (.st hμ)
theorem yl.monoG[Lent]{C C':qk}{μ μ':MMap}(hC:∀b o v,C b o=some v->C' b o=some v)(hμ:MLe μ μ'){g g':Nat->Option Value}{sz:Nat}{rs:List (List AV)}(hg:∀(i j:Nat) row x,rs[i]? =some row->row[j]? =some x->g' (i*sz+j)=g (i*sz+j))(h:yl C μ g sz rs):yl C' μ' g' sz rs:=by
 intro i row hi;refine⟨(h i row hi).1,λj x hj=>?_⟩;obtain⟨h1,v,h2,h3⟩:=(h i row hi).2 j x hj;exact⟨h1,v,by rw[hg i j row x hi hj];exact h2,h3.monoG hC hμ⟩
theorem yl.mono[Lent]{C C':qk}{μ μ':MMap}(hC:∀b o v,C b o=some v->C' b o=some v)(hμ:∀id m,μ id=some m->μ' id=some m){g g':Nat->Option Value}{sz:Nat}{rs:List (List AV)}(hg:∀(i j:Nat) row x,rs[i]? =some row->row[j]? =some x->g' (i*sz+j)=g (i*sz+j))(h:yl C μ g sz rs):yl C' μ' g' sz rs:=h.monoG hC (.st hμ) hg
theorem xr.monoG[Lent]{C C':qk}{μ μ':MMap}(hC:∀b o v,C b o=some v->C' b o=some v)(hμ:MLe μ μ'){w w':World}{m:MI}(hw:∀b,m.has b->w'.heap[b]? =w.heap[b]?){blk:ABlk}(h:xr C μ w m blk):xr C' μ' w' m blk:=by
 have hw0:=hw _ m.has_block;have hc:∀o,vF w' m o=vF w m o:=λo=>by simp only[vF,World.cell?,hw0]
 have hf:∀o,w'.frozen? ⟨m.block,m.base+o,none⟩=w.frozen? ⟨m.block,m.base+o,none⟩:=λo=>by simp only[World.frozen?,hw0]
 cases blk with
 |rows sz rs=>
  obtain⟨h1,h2,h3,h4⟩:=h;exact⟨h1,h2,h3.monoG hC hμ (λi j row x _ _=>hc _),λo ho=>by rw[hc,hf];exact h4 o ho⟩
 |froz sz rs=>trivial
 |mp _ es=>
  obtain⟨arr,clock,h1,h2,h3⟩:=h;exact⟨arr,clock,hw0.trans h1,h2,λi e me he hme=>⟨(h3 i e me he hme).1.monoG hC hμ,(h3 i e me he hme).2.monoG hC hμ⟩⟩
 |loop f fr ps assign body pend st=>
  obtain⟨r,h1,h2,h3,h4,h5,h6,h7⟩:=h;exact⟨r,hw0.trans h1,h2,h3,h4,h5,h6,h7.monoG hC hμ⟩
 |reg=>
  intro b o v hd;have hb:=hw b (.inr ⟨o,by rw[hd];simp⟩);simp only[World.cell?,World.frozen?,hb];exact h b o v hd
 |spl=>exact zR.heap (λb o v hd=>hw b (.inr ⟨o,by rw[hd];simp⟩)) h
 |bld T e s=>exact qic.heap hw h
 |dead=>trivial
 |res=>trivial
theorem xr.mono[Lent]{C C':qk}{μ μ':MMap}(hC:∀b o v,C b o=some v->C' b o=some v)(hμ:∀id m,μ id=some m->μ' id=some m){w w':World}{m:MI}(hw:∀b,m.has b->w'.heap[b]? =w.heap[b]?){blk:ABlk}(h:xr C μ w m blk):xr C' μ' w' m blk:=h.monoG hC (.st hμ) hw
theorem Rep.takeW[Lent]{C:qk}{μ:MMap}{rows:List (List AV)}{n c:Nat}{ad:Option Addr}(h:Rep C μ (.sl rows) (.slice ad c c))(hn:n<=c):Rep C μ (.sl (rows.take n)) (.slice ad n c):=by
 generalize hv:Value.slice ad c c=v at h;cases h with
 |slNil=>
  cases hv;obtain rfl:n=0:=by omega
  exact .slNil
 |sl _ a cap sz vals h1 h2 h3 h4 h5 h6 h7=>
  injection hv with e1 e2 e3
  subst e1 e2 e3;have hl:(rows.take n).length=n:=by rw[qF9];omega
  have get:∀(i:Nat) row,(rows.take n)[i]? =some row->rows[i]? =some row:=λi row h=>by
   rw[List.getElem?_take]at h;split at h
   ·exact h
   ·cases h
  have:=Rep.sl (C:=C) (μ:=μ) (rows.take n) a rows.length sz vals (λhne=>h1 λe=>hne (by rw[e];simp)) (λi row hi=>h2 i row (get i row hi)) (λi j row x hi hj=>h3 i j row x (get i row hi) hj)
   (λi j row x hi hj=>h4 i j row x (get i row hi) hj) (λi j row x hi hj=>h5 i j row x (get i row hi) hj) (by rw[hl];exact hn) (yW h7)
  rw[hl]at this;exact this
theorem Rep.unwr[Lent]{C:qk}{μ:MMap}{a:AV}{v:Value}(h:Rep C μ a v):Rep C μ a.unwr v:=by
 by_cases hw:∃n b,a= .wr n b
 ·obtain⟨n,b,rfl⟩:=hw;cases h with
  |wr _ _ ad c hn h1=>
   cases b with
   |sl rows=>exact h1.takeW hn
   |ms id off len=>
    show Rep C μ (.ms id off n) _;generalize hv:Value.slice ad c c=v at h1;cases h1 with
    |msN _ _=>
     cases hv;obtain rfl:n=0:=by omega
     exact .msN id off
    |ms _ _ _ cap a m hm hl ha=>
     injection hv with e1 e2 e3
     subst e1 e2 e3;exact .ms id off n _ a m hm hn ha
   |_=>exact .junk _
 ·have:a.unwr=a:=by cases a<;>first|rfl|exact absurd ⟨_,_,rfl⟩ hw
  rw[this];exact h
theorem Rep.lenW[Lent]{C:qk}{μ:MMap}{a:AV}{ad:Option Addr}{n c:Nat}(h:Rep C μ a (.slice ad c c))(hl:a.lenW=some n):n=c:=by
 unfold AV.lenW at hl;generalize hv:Value.slice ad c c=v at h;split at hl
 ·cases hl;cases h with
  |slNil=>cases hv;rfl
  |sl _ a cap sz vals h1 h2 h3 h4 h5 h6 h7=>injection hv with e1 e2 e3;exact e2.symm
 ·cases hl;cases h with
  |msN _ _=>cases hv;rfl
  |ms _ _ _ cap a m hm hl ha=>injection hv with e1 e2 e3;exact e2.symm
 ·cases hl
theorem Rep.spotW[Lent]{C:qk}{μ:MMap}{a:AV}{b:Addr}{n c:Nat}(h:Rep C μ a (.slice (some b) c c))(hl:a.lenW=some n)(hc:c≠0):b.spot=none:=by
 unfold AV.lenW at hl;generalize hv:Value.slice (some b) c c=v at h;split at hl
 ·cases hl;cases h with
  |slNil=>cases hv
  |sl rows a cap sz vals h1 h2 h3 h4 h5 h6 h7=>
   injection hv with e1 e2 e3
   injection e1 with e1
   subst e1;exact h1 (by rintro rfl;exact hc e2)
 ·cases hl;cases h with
  |msN _ _=>cases hv
  |ms _ _ _ cap a m hm hl ha=>
   injection hv with e1 e2 e3
   injection e1 with e1
   subst e1;rw[(ha (by omega)).1]
 ·cases hl
variable {C C' : qk} {μ μ' : MMap} {H H' : AH} {w w' : World}
def upd(μ:MMap)(k:Nat)(m:MI):MMap:=λid=>if id=k then some m else μ id
theorem Wld.block_lt[Lent](h:Wld C μ H w){b o:Nat}{v:Value}(hc:C b o=some v):b<w.heap.size:=World.block_lt_of_cell? w ⟨b,o,none⟩ (h.cl b o v hc)
theorem Wld.live_lt[Lent](h:Wld C μ H w){b:Nat}(hl:Live H μ b):b<w.heap.size:=by
 obtain⟨id,blk,m,h1,h2,h3,h4⟩:=hl;exact(h.liveH h1 h2 h3 b h4).1
theorem Wld.world[Lent](h:Wld C μ H w)(hs:w.heap.size<=w'.heap.size)(hb:∀b,b<w.heap.size->w'.heap[b]? =w.heap[b]?):Wld C μ H w' where
 cl:=λb o v hc=>by
  have h1:=h.cl b o v hc;have h2:=hb b (h.block_lt hc);simp only[World.cell?]at h1⊢;rw[h2];exact h1
 dom:=h.dom
 res:=h.res
 live:=λid blk h1 h2=>⟨(h.live id blk h1 h2).1,λm h3=>by
  obtain⟨h4,h6⟩:=(h.live id blk h1 h2).2 m h3;exact⟨λb hbh=>⟨Nat.lt_of_lt_of_le (h4 b hbh).1 hs,(h4 b hbh).2⟩,h6.mono (λ_ _ _ h=>h) (λ_ _ h=>h) (λb hbh=>hb _ (h4 b hbh).1)⟩⟩
 froz:=h.froz
 inj:=h.inj
 free:=h.free
 lnt:=⟨λb o v hc=>by
  have h1:=h.lnt.1 b o v hc;have h2:=hb b (World.block_lt_of_cell? w ⟨b,o,none⟩ h1.1);simp only[World.cell?]at h1⊢;rw[h2];exact h1,λhu b o v hn hc=>by
  have h1:=h.lnt.2.1 hu b o v hn hc;simp only[World.frozen?]at h1⊢;rw[hb b (h.block_lt hc)];exact h1,λb hb'=>h.lnt.2.2 b (Nat.le_trans hs hb')⟩
theorem Wld.worldG[Lent](h:Wld C μ H w)(hs:w.heap.size<=w'.heap.size)(hb:∀b,b<w.heap.size->(Live H μ b∨(∃o,C b o≠none)∨∃o,Lent.l b o≠none)->w'.heap[b]? =w.heap[b]?):Wld C μ H w' where
 cl:=λb o v hc=>by
  have h1:=h.cl b o v hc;have h2:=hb b (h.block_lt hc) (.inr (.inl ⟨o,by rw[hc];simp⟩));simp only[World.cell?]at h1⊢;rw[h2];exact h1
 dom:=h.dom
 res:=h.res
 live:=λid blk h1 h2=>⟨(h.live id blk h1 h2).1,λm h3=>by
  obtain⟨h4,h6⟩:=(h.live id blk h1 h2).2 m h3;exact⟨λb hbh=>⟨Nat.lt_of_lt_of_le (h4 b hbh).1 hs,(h4 b hbh).2⟩,h6.mono (λ_ _ _ h=>h) (λ_ _ h=>h) (λb hbh=>hb _ (h4 b hbh).1 (.inl ⟨id,blk,m,h1,h2,h3,hbh⟩))⟩⟩
 froz:=h.froz
 inj:=h.inj
 free:=h.free
 lnt:=⟨λb o v hc=>by
  have h1:=h.lnt.1 b o v hc;have h2:=hb b (World.block_lt_of_cell? w ⟨b,o,none⟩ h1.1) (.inr (.inr ⟨o,by rw[hc];simp⟩));simp only[World.cell?]at h1⊢;rw[h2];exact h1,λhu b o v hn hc=>by
  have h1:=h.lnt.2.1 hu b o v hn hc;simp only[World.frozen?]at h1⊢;rw[hb b (h.block_lt hc) (.inr (.inl ⟨o,by rw[hc];simp⟩))];exact h1,λb hb'=>h.lnt.2.2 b (Nat.le_trans hs hb')⟩
theorem Wld.heap[Lent](h:Wld C μ H w)(hw:w'.heap=w.heap):Wld C μ H w':=h.world (by rw[hw];exact qFH _) (λb _=>by rw[hw])
theorem Wld.kill[Lent](h:Wld C μ H w)(id:Nat)(_hr:H[id]? ≠some .res):Wld C μ (H.set id .dead) w where
 cl:=h.cl
 dom:=λi m hm=>by simpa using h.dom i m hm
 res:=λi hi=>by
  rw[qF1]at hi;split at hi
  ·split at hi<;>simp at hi
  ·exact h.res i hi
 live:=λi blk h1 h2=>by
  rw[qF1]at h1;split at h1
  ·split at h1
   ·simp at h1;subst h1;simp[ABlk.live]at h2
   ·simp at h1
  ·exact h.live i blk h1 h2
 free:=h.free.set trivial
 lnt:=h.lnt
 froz:=λi d sz rs h1=>by
  rw[qF1]at h1;split at h1
  ·split at h1<;>simp at h1
  ·exact h.froz i d sz rs h1
 inj:=λi i' b b' m m' h1 h2 h3 h4 h5 h6 h7=>by
  rw[qF1]at h1 h2;split at h1
  ·split at h1
   ·simp at h1;subst h1;simp[ABlk.live]at h3
   ·simp at h1
  ·split at h2
   ·split at h2
    ·simp at h2;subst h2;simp[ABlk.live]at h4
    ·simp at h2
   ·exact h.inj i i' b b' m m' h1 h2 h3 h4 h5 h6 h7
theorem Live.of_kill{b id:Nat}(h:Live (H.set id .dead) μ b):Live H μ b∧∀m,μ id=some m->(∀(id':Nat) b' m',H[id']? =some b'->b'.live=true->μ id'=some m'->id'≠id->¬m'.has m.block)->b≠m.block:=by
 obtain⟨i,blk,m,h1,h2,h3,h4⟩:=h;rw[qF1]at h1;split at h1
 ·split at h1
  ·simp at h1;subst h1;simp[ABlk.live]at h2
  ·simp at h1
 ·rename_i hne;exact⟨⟨i,blk,m,h1,h2,h3,h4⟩,λm' hm' hinj e=>hinj i blk m h1 h2 h3 (λe=>hne e.symm) (e▸h4)⟩
theorem Wld.new[Lent](h:Wld C μ H w){nid:Option Nat}{k:Nat}{blk:ABlk}{m:MI}(hn:aNew nid H blk=some (k,H'))(hl:∀b,m.has b->¬Live H μ b)(hm:∀b,m.has b->b<w.heap.size)(hc:∀b,m.has b->∀o,C b o=none)(hcl:∀b,m.has b->Lent.fr b)(hb:blk.live=true)(hr:xr C (upd μ k m) w m blk)(hfr:blk.Free:=by trivial):Wld C (upd μ k m) H' w∧(∀id m',μ id=some m'->upd μ k m id=some m')∧H.length<=H'.length∧(∀b,Live H' (upd μ k m) b->Live H μ b∨m.has b)∧H'[k]? =some blk:=by
 have key:μ k=none∧k<H'.length∧H.length<=H'.length∧H'[k]? =some blk∧∀i,i≠k->H'[i]? =H[i]? :=by
  unfold aNew at hn;cases nid with
  |none=>
   simp only[Option.some.injEq,Prod.mk.injEq]at hn;obtain⟨rfl,rfl⟩:=hn;refine⟨?_,by simp,by simp,by simp,λi hi=>?_⟩
   ·cases hk:μ H.length with
    |none=>rfl
    |some m'=>exact absurd (h.dom _ _ hk) (Nat.lt_irrefl _)
   ·rw[List.getElem?_append];split
    ·rfl
    ·rename_i hlt;have:H.length<i:=by omega
     rw[List.getElem?_eq_none (by simp;omega),List.getElem?_eq_none (by omega)]
  |some k'=>
   simp only at hn;split at hn
   ·rename_i hk;simp only[Option.some.injEq,Prod.mk.injEq]at hn;obtain⟨rfl,rfl⟩:=hn;have hlt:k'<H.length:=(qFF.1 hk).1;exact⟨h.res _ hk,by simpa using hlt,by simp,by simp[hlt],λi hi=>by rw[List.getElem?_set_ne (Ne.symm hi)]⟩
   ·cases hn
 obtain⟨h0,h1,hlen,h2,h3⟩:=key;have hmu:∀id m',μ id=some m'->upd μ k m id=some m':=by
  intro id m' hid;unfold upd
  by_cases e:id=k
  ·subst e;rw[h0]at hid;cases hid
  ·rw[qGr e];exact hid
 refine⟨⟨h.cl,λid m' hid=>?_,λi hi=>?_,λi b hi hb'=>?_,λi d sz rs hi=>?_,?_,λi b hi=>?_,h.lnt⟩,hmu,hlen,?_,h2⟩
 ·unfold upd at hid
  by_cases e:id=k
  ·subst e;exact h1
  ·rw[qGr e]at hid;exact Nat.lt_of_lt_of_le (h.dom id m' hid) hlen
 ·by_cases e:i=k
  ·subst e;rw[h2]at hi;cases hi;simp[ABlk.live]at hb
  ·rw[h3 i e]at hi;unfold upd;rw[qGr e];exact h.res i hi
 ·by_cases e:i=k
  ·subst e;rw[h2]at hi;cases hi;have hself:upd μ i m i=some m:=by unfold upd;rw[qGq rfl]
   exact⟨λhn=>(by rw[hself]at hn;cases hn),λm' hm'=>(by rw[hself]at hm';cases hm';exact⟨λb hb=>⟨hm b hb,hc b hb,hcl b hb⟩,hr⟩)⟩
  ·rw[h3 i e]at hi;have hself:upd μ k m i=μ i:=by unfold upd;rw[qGr e]
   rw[hself];refine⟨(h.live i b hi hb').1,λm' e1=>?_⟩;obtain⟨e2,e4⟩:=(h.live i b hi hb').2 m' e1;exact⟨e2,e4.mono (λ_ _ _ h=>h) hmu (λ_ _=>rfl)⟩
 ·by_cases e:i=k
  ·subst e;rw[h2]at hi;cases hi;simp[ABlk.live]at hb
  ·rw[h3 i e]at hi;have hself:upd μ k m i=μ i:=by unfold upd;rw[qGr e]
   rw[hself];refine⟨(h.froz i d sz rs hi).1,λm' e1=>?_⟩;obtain⟨e2,e3,e4⟩:=(h.froz i d sz rs hi).2 m' e1;exact⟨e2,e3,e4.mono (λ_ _ _ h=>h) hmu (λ_ _ _ _ _ _=>rfl)⟩
 ·intro i i' b b' m1 m2 hi hi' hb1 hb2 hm1 hm2 x hx1 hx2;have aux:∀(j:Nat) bj mj,j≠k->H'[j]? =some bj->bj.live=true->upd μ k m j=some mj->mj.has x->¬m.has x:=by
   intro j bj mj hj hjk hjl hjm e1 e;rw[h3 j hj]at hjk;unfold upd at hjm;rw[qGr hj]at hjm;exact hl x e ⟨j,bj,mj,hjk,hjl,hjm,e1⟩
  by_cases e:i=k
  ·by_cases e':i'=k
   ·rw[e,e']
   ·subst e;have:m1=m:=by unfold upd at hm1;rw[qGq rfl]at hm1;exact(Option.some.inj hm1).symm
    subst this;exact absurd hx1 (aux i' b' m2 e' hi' hb2 hm2 hx2)
  ·by_cases e':i'=k
   ·subst e';have:m2=m:=by unfold upd at hm2;rw[qGq rfl]at hm2;exact(Option.some.inj hm2).symm
    subst this;exact absurd hx2 (aux i b m1 e hi hb1 hm1 hx1)
   ·rw[h3 i e]at hi;rw[h3 i' e']at hi';unfold upd at hm1 hm2;rw[qGr e]at hm1;rw[qGr e']at hm2;exact h.inj i i' b b' m1 m2 hi hi' hb1 hb2 hm1 hm2 x hx1 hx2
 ·by_cases e:i=k
  ·subst e;rw[h2]at hi;cases hi;exact hfr
  ·rw[h3 i e]at hi;exact h.free i b hi
 ·rintro b ⟨i,bi,mi,e1,e2,e3,e4⟩
  by_cases e:i=k
  ·subst e;have:mi=m:=by unfold upd at e3;rw[qGq rfl]at e3;exact(Option.some.inj e3).symm
   subst this;exact .inr e4
  ·rw[h3 i e]at e1;unfold upd at e3;rw[qGr e]at e3;exact .inl ⟨i,bi,mi,e1,e2,e3,e4⟩
theorem Wld.newV[Lent](h:Wld C μ H w){nid:Option Nat}{k:Nat}{blk:ABlk}(hn:aNew nid H blk=some (k,H'))(hb:blk.live=true)(hv:blk.vacant=true)(hfr:blk.Free):
  Wld C μ H' w∧∀j,j<=H.length->Ext j C μ H w C μ H' w:=by
 have key:μ k=none∧H.length<=H'.length∧H'[k]? =some blk∧∀i,i≠k->H'[i]? =H[i]? :=by
  unfold aNew at hn;cases nid with
  |none=>
   simp only[Option.some.injEq,Prod.mk.injEq]at hn;obtain⟨rfl,rfl⟩:=hn;refine⟨?_,by simp,by simp,λi hi=>?_⟩
   ·cases hk:μ H.length with
    |none=>rfl
    |some m'=>exact absurd (h.dom _ _ hk) (Nat.lt_irrefl _)
   ·rw[List.getElem?_append];split
    ·rfl
    ·rename_i hlt;have:H.length<i:=by omega
     rw[List.getElem?_eq_none (by simp;omega),List.getElem?_eq_none (by omega)]
  |some k'=>
   simp only at hn;split at hn
   ·rename_i hk;simp only[Option.some.injEq,Prod.mk.injEq]at hn;obtain⟨rfl,rfl⟩:=hn;have hlt:k'<H.length:=(qFF.1 hk).1;exact⟨h.res _ hk,by simp,by simp[hlt],λi hi=>by rw[List.getElem?_set_ne (Ne.symm hi)]⟩
   ·cases hn
 obtain⟨h0,hlen,h2,h3⟩:=key;have other:∀(i:Nat) b m,H'[i]? =some b->μ i=some m->H[i]? =some b:=λi b m hi hm=>by
  by_cases e:i=k
  ·subst e;rw[h0]at hm;cases hm
  ·rw[←h3 i e];exact hi
 refine⟨⟨h.cl,λid m hid=>Nat.lt_of_lt_of_le (h.dom id m hid) hlen,λi hi=>?_,λi b hi hb'=>?_,λi d sz rs hi=>?_,λi i' b b' m m' hi hi' hb1 hb2 hm1 hm2=>h.inj i i' b b' m m' (other i b m hi hm1) (other i' b' m' hi' hm2) hb1 hb2 hm1 hm2,λi b hi=>?_,h.lnt⟩,
  λj hj=>⟨rfl,rfl,rfl,qFH _,λ_ _ _ h=>h,λ_ m _ h=>⟨m,h,.refl m⟩,λb _ hnl=>⟨rfl,λhl=>?_,rfl⟩,Nat.le_trans hj hlen⟩⟩
 ·by_cases e:i=k
  ·subst e;exact h0
  ·rw[h3 i e]at hi;exact h.res i hi
 ·by_cases e:i=k
  ·subst e;rw[h2]at hi;cases hi;exact⟨λ_=>hv,λm hm=>by rw[h0]at hm;cases hm⟩
  ·rw[h3 i e]at hi;exact h.live i b hi hb'
 ·by_cases e:i=k
  ·subst e;rw[h2]at hi;cases hi;simp[ABlk.live]at hb
  ·rw[h3 i e]at hi;exact h.froz i d sz rs hi
 ·by_cases e:i=k
  ·subst e;rw[h2]at hi;cases hi;exact hfr
  ·rw[h3 i e]at hi;exact h.free i b hi
 ·obtain⟨i,bi,mi,e1,e2,e3,e4⟩:=hl;exact hnl ⟨i,bi,mi,other i bi mi e1 e3,e2,e3,e4⟩
theorem Live.set_iff{id b:Nat}{blk blk':ABlk}(hi:H[id]? =some blk)(hl:blk.live=true)(h:Live (H.set id blk') μ b):Live H μ b:=by
 obtain⟨i,bi,m,h1,h2,h3,h4⟩:=h;rw[qF1]at h1;split at h1
 ·rename_i e;subst e;exact⟨id,blk,m,hi,hl,h3,h4⟩
 ·exact⟨i,bi,m,h1,h2,h3,h4⟩
theorem Wld.weaken[Lent](h:Wld C μ H w){id sz:Nat}{d d':Bool}{rs:List (List AV)}(hi:H[id]? =some (.rows d sz rs))(hd:d'=true->d=true):Wld C μ (H.set id (.rows d' sz rs)) w where
 cl:=h.cl
 dom:=λi m hm=>by simpa using h.dom i m hm
 res:=λi hi'=>by
  rw[qF1]at hi';split at hi'
  ·split at hi'<;>simp at hi'
  ·exact h.res i hi'
 live:=λi b h1 h2=>by
  rw[qF1]at h1;split at h1
  ·rename_i e;subst e;split at h1
   ·simp at h1;subst h1;have:=h.live id _ hi rfl;exact⟨λhn=>(by have:=this.1 hn;cases rs<;>first|rfl|cases this),this.2⟩
   ·simp at h1
  ·exact h.live i b h1 h2
 froz:=λi d sz rs h1=>by
  rw[qF1]at h1;split at h1
  ·split at h1<;>simp at h1
  ·exact h.froz i d sz rs h1
 inj:=λi i' b b' m m' h1 h2 h3 h4 h5 h6 h7=>by
  have aux:∀(j:Nat) bj,(H.set id (.rows d' sz rs))[j]? =some bj->bj.live=true->∃bj',H[j]? =some bj'∧bj'.live=true:=by
   intro j bj hj hjl;rw[qF1]at hj;split at hj
   ·rename_i e;subst e;exact⟨_,hi,rfl⟩
   ·exact⟨bj,hj,hjl⟩
  obtain⟨b1,e1,e2⟩:=aux i b h1 h3;obtain⟨b2,e3,e4⟩:=aux i' b' h2 h4;exact h.inj i i' b1 b2 m m' e1 e3 e2 e4 h5 h6 h7
 free:=h.free.set (b:=.rows d' sz rs) (λhh=>h.free.get hi (hd hh))
 lnt:=h.lnt
theorem Wld.weakenX[Lent](_h:Wld C μ H w){id sz:Nat}{d d':Bool}{rs:List (List AV)}(hi:H[id]? =some (.rows d sz rs))(k:Nat)(hk:k<=H.length):Ext k C μ H w C μ (H.set id (.rows d' sz rs)) w:=
 ⟨rfl,rfl,rfl,qFH _,λ_ _ _ h=>h,λ_ m _ h=>⟨m,h,.refl m⟩,λb _ hnl=>⟨rfl,λhl'=>hnl (hl'.set_iff hi rfl),rfl⟩,by simpa using hk⟩
theorem Wld.setBlkH[Lent](h:Wld C μ H w){id:Nat}{blk blk':ABlk}{m:MI}(hi:H[id]? =some blk)(hl:blk.live=true)(hl':blk'.live=true)(hm:μ id=some m)(hs:w'.heap.size=w.heap.size)(hb:∀b,¬m.has b->w'.heap[b]? =w.heap[b]?)(hr:xr C μ w' m blk')(hfr:blk'.Free:=by trivial):Wld C μ (H.set id blk') w' where
 free:=h.free.set hfr
 cl:=λb o v hc=>by
  have hne:¬m.has b:=λe=>by rw[(h.liveH hi hl hm b e).2.1 o]at hc;cases hc
  have h1:=h.cl b o v hc;simp only[World.cell?]at h1⊢;rw[hb b hne];exact h1
 dom:=λi m hm=>by simpa using h.dom i m hm
 res:=λi hi'=>by
  rw[qF1]at hi';split at hi'
  ·split at hi'
   ·simp at hi';subst hi';simp[ABlk.live]at hl'
   ·simp at hi'
  ·exact h.res i hi'
 live:=λi b h1 h2=>by
  rw[qF1]at h1;split at h1
  ·rename_i e;subst e;split at h1
   ·simp at h1;subst h1;have h4:=h.liveH hi hl hm;exact⟨λhn=>(by rw[hm]at hn;cases hn),λm' hm'=>by rw[hm]at hm';cases hm';exact⟨by rw[hs];exact h4,hr⟩⟩
   ·simp at h1
  ·rename_i e;refine⟨(h.live i b h1 h2).1,λm' h3=>?_⟩;obtain⟨h4,h6⟩:=(h.live i b h1 h2).2 m' h3;exact⟨by rw[hs];exact h4,h6.mono (λ_ _ _ h=>h) (λ_ _ h=>h) (λx hx=>hb _ λe'=>e (h.inj i id b blk m' m h1 hi h2 hl h3 hm x hx e').symm)⟩
 froz:=λi d sz rs h1=>by
  rw[qF1]at h1;split at h1
  ·split at h1
   ·simp at h1;subst h1;simp[ABlk.live]at hl'
   ·simp at h1
  ·exact h.froz i d sz rs h1
 inj:=λi i' b b' m m' h1 h2 h3 h4 h5 h6 h7=>by
  have aux:∀(j:Nat) bj,(H.set id blk')[j]? =some bj->bj.live=true->∃bj',H[j]? =some bj'∧bj'.live=true:=by
   intro j bj hj hjl;rw[qF1]at hj;split at hj
   ·rename_i e;subst e;exact⟨blk,hi,hl⟩
   ·exact⟨bj,hj,hjl⟩
  obtain⟨b1,e1,e2⟩:=aux i b h1 h3;obtain⟨b2,e3,e4⟩:=aux i' b' h2 h4;exact h.inj i i' b1 b2 m m' e1 e3 e2 e4 h5 h6 h7
 lnt:=⟨λb o v hc=>by
  have hne:¬m.has b:=λe=>by rw[(h.liveH hi hl hm b e).2.2.1 o]at hc;cases hc
  have h1:=h.lnt.1 b o v hc;simp only[World.cell?]at h1⊢;rw[hb b hne];exact h1,λhu b o v hn hc=>by
  have hne:¬m.has b:=λe=>by rw[(h.liveH hi hl hm b e).2.1 o]at hc;cases hc
  have h1:=h.lnt.2.1 hu b o v hn hc;simp only[World.frozen?]at h1⊢;rw[hb b hne];exact h1,λb hb'=>h.lnt.2.2 b (by rw[←hs];exact hb')⟩
theorem Wld.setBlk[Lent](h:Wld C μ H w){id:Nat}{blk blk':ABlk}{m:MI}(hi:H[id]? =some blk)(hl:blk.live=true)(hl':blk'.live=true)(hm:μ id=some m)(hs:w'.heap.size=w.heap.size)(hb:∀b,b≠m.block->w'.heap[b]? =w.heap[b]?)(hr:xr C μ w' m blk')(hfr:blk'.Free:=by trivial):Wld C μ (H.set id blk') w':=
 h.setBlkH hi hl hl' hm hs (λb hn=>hb b λe=>hn (.inl e.symm)) hr hfr
theorem Ext.setBlk[Lent](_h:Wld C μ H w){k id:Nat}{blk blk':ABlk}{m:MI}(hi:H[id]? =some blk)(hl:blk.live=true)(hm:μ id=some m)(hs:w'.heap.size=w.heap.size)(hb:∀b,b≠m.block->w'.heap[b]? =w.heap[b]?)(ho:w'.os=w.os)(ht:w'.tape=w.tape)(hu:w'.output=w.output)(hk:k<=H.length):Ext k C μ H w C μ (H.set id blk') w':=
 ⟨ho,ht,hu,by rw[hs];exact qFH _,λ_ _ _ h=>h,λ_ m _ h=>⟨m,h,.refl m⟩,λb _ hnl=>⟨hb b (λe=>hnl ⟨id,blk,m,hi,hl,hm,.inl e.symm⟩),λhl'=>hnl (hl'.set_iff hi hl),rfl⟩,by simpa using hk⟩
def frzC(C:qk)(w:World)(m:MI)(n:Nat):qk:=λb o=>if b=m.block then(if m.base<=o∧o<m.base+n then w.cell? ⟨b,o,none⟩else none)else C b o
theorem Wld.freeze[Lent](h:Wld C μ H w){id sz:Nat}{d:Bool}{rs:List (List AV)}(hi:H[id]? =some (.rows d sz rs)):∃C',(∀b o v,C b o=some v->C' b o=some v)∧Wld C' μ (H.set id (.froz d sz rs)) w ∧
  (∀k,k<=H.length->Ext k C μ H w C' μ (H.set id (.froz d sz rs)) w):=by
 have hlive0:∀(i:Nat) b,(H.set id (.froz d sz rs))[i]? =some b->b.live=true->i≠id∧H[i]? =some b:=by
  intro i b h1 h2;rw[qF1]at h1;split at h1
  ·split at h1
   ·simp at h1;subst h1;simp[ABlk.live]at h2
   ·simp at h1
  ·rename_i e;exact⟨λe'=>e e'.symm,h1⟩
 cases hm0:μ id with
 |none=>
  have hv:=(h.live id _ hi rfl).1 hm0;obtain rfl:rs=[]:=by
   cases rs with
   |nil=>rfl
   |cons=>cases hv
  refine⟨C,λ_ _ _ h=>h,⟨h.cl,λi m hm=>by simpa using h.dom i m hm,λi h1=>?_,λi b h1 h2=>?_,λi d' s r h1=>?_,?_,h.free.set (b:=.froz d sz []) (λhd=>h.free.get hi hd),h.lnt⟩,λk hk=>⟨rfl,rfl,rfl,qFH _,λ_ _ _ h=>h,λ_ m _ h=>⟨m,h,.refl m⟩,λb _ hnl=>⟨rfl,λhl=>?_,rfl⟩,by simpa using hk⟩⟩
  ·rw[qF1]at h1;split at h1
   ·split at h1<;>simp at h1
   ·exact h.res i h1
  ·obtain⟨_,h1⟩:=hlive0 i b h1 h2;exact h.live i b h1 h2
  ·rw[qF1]at h1;split at h1
   ·rename_i e;subst e;split at h1
    ·simp only[Option.some.injEq,ABlk.froz.injEq]at h1;obtain⟨rfl,rfl,rfl⟩:=h1;exact⟨λ_=>rfl,λm hm=>by rw[hm0]at hm;cases hm⟩
    ·simp at h1
   ·exact h.froz i _ s r h1
  ·intro i i' b b' m1 m2 h1 h2 h3 h4;obtain⟨_,h1⟩:=hlive0 i b h1 h3;obtain⟨_,h2⟩:=hlive0 i' b' h2 h4;exact h.inj i i' b b' m1 m2 h1 h2 h3 h4
  ·obtain⟨i,bi,mi,h1,h2,h3,h4⟩:=hl;obtain⟨_,h1⟩:=hlive0 i bi h1 h2;exact hnl ⟨i,bi,mi,h1,h2,h3,h4⟩
 |some m=>
 have hm:=hm0;obtain⟨hlt,hc,hsz,hle,hrows,hcells⟩:=h.liveM hi rfl hm;have hC:∀b o v,C b o=some v->frzC C w m (rs.length*sz) b o=some v:=by
  intro b o v hb;unfold frzC
  by_cases e:b=m.block
  ·subst e;rw[hc o]at hb;cases hb
  ·rw[qGr e];exact hb
 have hufz:Lent.u->∀b o v,Lent.nw b->frzC C w m (rs.length*sz) b o=some v->w.frozen? ⟨b,o,none⟩=false:=by
  intro hu b o v hn hb;unfold frzC at hb
  by_cases e:b=m.block
  ·subst e;rw[qGq rfl]at hb;split at hb
   ·rename_i hr;have:=(hcells (o - m.base) (by omega)).2
    rwa [show m.base+(o - m.base)=o by omega]at this
   ·cases hb
  ·rw[qGr e]at hb;exact h.lnt.2.1 hu b o v hn hb
 have hlive:∀(i:Nat) b,(H.set id (.froz d sz rs))[i]? =some b->b.live=true->i≠id∧H[i]? =some b:=by
  intro i b h1 h2;rw[qF1]at h1;split at h1
  ·split at h1
   ·simp at h1;subst h1;simp[ABlk.live]at h2
   ·simp at h1
  ·rename_i e;exact⟨λe'=>e e'.symm,h1⟩
 refine⟨frzC C w m (rs.length*sz),hC,⟨λb o v hb=>?_,λi m hm=>by simpa using h.dom i m hm,λi h1=>?_,λi b h1 h2=>?_,λi d s r h1=>?_,?_,h.free.set (b:=.froz d sz rs) (λhd=>h.free.get hi hd),h.lnt.1,hufz,h.lnt.2.2⟩,λk hk=>⟨rfl,rfl,rfl,qFH _,hC,λ_ m _ h=>⟨m,h,.refl m⟩,λb _ hnl=>⟨rfl,λhl=>?_,?_⟩,by simpa using hk⟩⟩
 ·unfold frzC at hb
  by_cases e:b=m.block
  ·rw[qGq e]at hb;split at hb
   ·exact hb
   ·cases hb
  ·rw[qGr e]at hb;exact h.cl b o v hb
 ·rw[qF1]at h1;split at h1
  ·split at h1<;>simp at h1
  ·exact h.res i h1
 ·obtain⟨e,h1⟩:=hlive i b h1 h2;refine⟨(h.live i b h1 h2).1,λm' h3=>?_⟩;obtain⟨h4,h6⟩:=(h.live i b h1 h2).2 m' h3;have hne:∀x,m'.has x->x≠m.block:=λx hx he=>e (h.inj i id b _ m' m h1 hi h2 rfl h3 hm x hx (.inl he.symm))
  exact⟨λx hx=>⟨(h4 x hx).1,λo=>by unfold frzC;rw[qGr (hne x hx)];exact(h4 x hx).2.1 o,(h4 x hx).2.2⟩,h6.mono hC (λ_ _ h=>h) (λ_ _=>rfl)⟩
 ·rw[qF1]at h1;split at h1
  ·rename_i e;subst e;split at h1
   ·simp only[Option.some.injEq,ABlk.froz.injEq]at h1;obtain⟨rfl,rfl,rfl⟩:=h1;refine⟨λhn=>(by rw[hm]at hn;cases hn),λm' hm'=>?_⟩;rw[hm]at hm';cases hm';refine⟨hsz,hle,λi row hir=>⟨(hrows i row hir).1,λj x hj=>?_⟩⟩;obtain⟨hcell,v,hv,hrep⟩:=(hrows i row hir).2 j x hj;have hjl:j<row.length:=(qFF.1 hj).1;have hil:i<rs.length:=(qFF.1 hir).1;have hlen:=(hrows i row hir).1
    have hlt':i*sz+j<rs.length*sz:=by
     have:(i+1)*sz<=rs.length*sz:=qGe _ hil;rw[Nat.add_mul]at this;omega
    refine⟨hcell,v,?_,hrep.mono hC (λ_ _ h=>h)⟩;show frzC C w m (rs.length*sz) m.block (m.base+(i*sz+j))=some v;unfold frzC;rw[qGq rfl,qGq (by omega)];exact hv
   ·simp at h1
  ·refine⟨(h.froz i _ s r h1).1,λm' e1=>?_⟩;obtain⟨e2,e3,e4⟩:=(h.froz i _ s r h1).2 m' e1;exact⟨e2,e3,e4.mono hC (λ_ _ h=>h) (λi j row x hi' hj'=>by
    obtain⟨_,v,hv,_⟩:=(e4 i row hi').2 j x hj';exact(hC _ _ _ hv).trans hv.symm)⟩
 ·intro i i' b b' m1 m2 h1 h2 h3 h4;obtain⟨_,h1⟩:=hlive i b h1 h3;obtain⟨_,h2⟩:=hlive i' b' h2 h4;exact h.inj i i' b b' m1 m2 h1 h2 h3 h4
 ·obtain⟨i,bi,mi,h1,h2,h3,h4⟩:=hl;obtain⟨_,h1⟩:=hlive i bi h1 h2;exact hnl ⟨i,bi,mi,h1,h2,h3,h4⟩
 ·have hne:b≠m.block:=λe=>hnl ⟨id,_,m,hi,rfl,hm,.inl e.symm⟩
  funext o
  unfold frzC;rw[qGr hne]
theorem qmE{H:AH}:∀{L:List Nat} {bs:AH},qe3 H L=some bs->bs.length=L.length∧∀(j:Nat) id,L[j]? =some id->∃b,H[id]? =some b∧bs[j]? =some b
 |[],bs,h=>by
  simp[qe3]at h;subst h;exact⟨rfl,λj id hj=>by simp at hj⟩
 |id::L,bs,h=>by
  rw[qe3]at h;split at h
  ·rename_i b bs' h1 h2;simp only[Option.some.injEq]at h;subst h;obtain⟨e1,e2⟩:=qmE h2;refine⟨by simp[e1],λj id' hj=>?_⟩;cases j with
   |zero=>simp at hj;subst hj;exact⟨b,h1,by simp⟩
   |succ j=>exact(by simpa using e2 j id' (by simpa using hj))
  ·cases h
theorem qhs{id:Nat}:∀{L:List Nat} {k p:Nat},qbH id k L=some p->k<=p∧L[p - k]? =some id
 |[],k,p,h=>by simp[qbH]at h
 |a::L,k,p,h=>by
  rw[qbH]at h;split at h
  ·rename_i he;simp only[Option.some.injEq]at h;subst h;exact⟨qFH _,by simp[qFO he]⟩
  ·obtain⟨e1,e2⟩:=qhs h;refine⟨by omega,?_⟩;have:p - k=(p - (k+1))+1:=by omega
   rw[this];simpa using e2
theorem qjY{id:Nat}:∀{L:List Nat} {k:Nat},id∈L->∃p,qbH id k L=some p
 |[],_,h=>by cases h
 |a::L,k,h=>by
  rw[qbH];split
  ·exact⟨_,rfl⟩
  ·rename_i he;rcases qF6.1 h with e|e
   ·subst e;exact absurd (qF3 _) he
   ·exact qjY e
theorem qei(k:Nat)(H:AH):∀(n:Nat) (found todo:List Nat),found.Nodup->(qdO k H n found todo).Nodup
 |0,found,_,h=>h
 |n+1,found,[],h=>h
 |n+1,found,id::todo,h=>by
  rw[qdO];split
  ·exact qei k H n _ _ h
  ·rename_i hn;have hni:id ∉ found:=λhm=>hn (vL.2 hm)
   refine qei k H n _ _ (List.nodup_append.2 ⟨h,by simp,?_⟩);intro a ha b hb e;simp at hb;subst hb;subst e;exact hni ha
theorem qa9(k id:Nat):∀x∈(if Nat.blt id k then[]else[id]),k<=x:=by
 intro x hx;split at hx
 ·cases hx
 ·rename_i hn;simp at hx;subst hx
  simpa [Nat.blt_eq]using hn
mutual
theorem AV.idsGe_ge (k:Nat):∀a:AV,∀x∈a.idsGe k,k<=x
 | .agg cs,x,hx=>yP k cs x (by simpa [AV.idsGe]using hx)
 | .tup cs,x,hx=>yP k cs x (by simpa [AV.idsGe]using hx)
 | .sl rows,x,hx=>by simp[AV.idsGe]at hx
 | .ms id _ _,x,hx=>qa9 k id x (by simpa [AV.idsGe]using hx)
 | .ptr id _ _,x,hx=>qa9 k id x (by simpa [AV.idsGe]using hx)
 | .cptr cs _,x,hx=>yP k cs x (by simpa [AV.idsGe]using hx)
 | .fn _ a b,x,hx=>by
  rw[AV.idsGe,qF8]at hx
  rcases hx with hx|hx
  ·exact yP k a x hx
  ·exact yP k b x hx
 | .yld id,x,hx=>qa9 k id x (by simpa [AV.idsGe]using hx)
 | .mp id,x,hx=>qa9 k id x (by simpa [AV.idsGe]using hx)
 | .ifc _ v,x,hx=>AV.idsGe_ge k v x (by simpa [AV.idsGe]using hx)
 | .int _ _,x,hx=>by simp[AV.idsGe]at hx
 | .bool _,x,hx=>by simp[AV.idsGe]at hx
 | .str _,x,hx=>by simp[AV.idsGe]at hx
 | .nilS,x,hx=>by simp[AV.idsGe]at hx
 | .em,x,hx=>by simp[AV.idsGe]at hx
 | .nilP,x,hx=>by simp[AV.idsGe]at hx
 | .nilF,x,hx=>by simp[AV.idsGe]at hx
 | .nilM,x,hx=>by simp[AV.idsGe]at hx
 | .nilI,x,hx=>by simp[AV.idsGe]at hx
 | .junk,x,hx=>by simp[AV.idsGe]at hx
 | .lsl _,x,hx=>by simp[AV.idsGe]at hx
 | .lpt _ _,x,hx=>by simp[AV.idsGe]at hx
 | .rsl id _,x,hx=>qa9 k id x (by simpa [AV.idsGe]using hx)
 | .rpt id _ _,x,hx=>qa9 k id x (by simpa [AV.idsGe]using hx)
 | .alt l,x,hx=>yP k l x (by simpa [AV.idsGe]using hx)
 | .wr _ v,x,hx=>AV.idsGe_ge k v x (by simpa [AV.idsGe]using hx)
theorem yP (k:Nat):∀l:List AV,∀x∈vo k l,k<=x
 |[],x,hx=>by simp[vo]at hx
 |a::l,x,hx=>by
  rw[vo,qF8]at hx
  rcases hx with hx|hx
  ·exact AV.idsGe_ge k a x hx
  ·exact yP k l x hx
theorem qhR (k:Nat):∀l:List (List AV),∀x∈yZ k l,k<=x
 |[],x,hx=>by simp[yZ]at hx
 |a::l,x,hx=>by
  rw[yZ,qF8]at hx
  rcases hx with hx|hx
  ·exact yP k a x hx
  ·exact qhR k l x hx
end
theorem ABlk.idsGe_ge(k:Nat)(b:ABlk):∀x∈b.idsGe k,k<=x:=by
 intro x hx;cases b with
 |rows d n rs=>
  cases d with
  |true=>simp[ABlk.idsGe]at hx
  |false=>exact qhR k rs x (by simpa [ABlk.idsGe]using hx)
 |froz d n rs=>
  cases d with
  |true=>simp[ABlk.idsGe]at hx
  |false=>exact qhR k rs x (by simpa [ABlk.idsGe]using hx)
 |mp d es=>
  cases d with
  |true=>simp[ABlk.idsGe]at hx
  |false=>
   simp only[ABlk.idsGe,qF5,if_false,List.mem_flatMap,qF8]at hx;obtain⟨e,_,hx|hx⟩:=hx
   ·exact AV.idsGe_ge k _ x hx
   ·exact AV.idsGe_ge k _ x hx
 |loop f fr ps a b p s=>exact yP k fr x hx
 |dead=>simp[ABlk.idsGe]at hx
 |res=>simp[ABlk.idsGe]at hx
 |reg=>simp[ABlk.idsGe]at hx
 |spl=>simp[ABlk.idsGe]at hx
 |bld=>simp[ABlk.idsGe]at hx
theorem qod(k:Nat):∀H:AH,∀x∈qae k H,k<=x
 |[],x,hx=>by simp[qae]at hx
 |a::l,x,hx=>by
  rw[qae,qF8]at hx;rcases hx with hx|hx
  ·exact ABlk.idsGe_ge k a x hx
  ·exact qod k l x hx
theorem qkt(k:Nat)(H:AH):∀(n:Nat) (found todo:List Nat),(∀x∈found,k<=x)->(∀x∈todo,k<=x)->∀x∈qdO k H n found todo,k<=x
 |0,found,_,h,_=>h
 |n+1,found,[],h,_=>h
 |n+1,found,id::todo,h,ht=>by
  rw[qdO];have hid:k<=id:=ht id (by simp);have ht':∀x∈todo,k<=x:=λx hx=>ht x (by simp[hx])
  split
  ·exact qkt k H n _ _ h ht'
  ·refine qkt k H n _ _ (λx hx=>?_) (λx hx=>?_)
   ·rcases qF8.1 hx with hx|hx
    ·exact h x hx
    ·simp at hx;subst hx;exact hid
   ·rcases qF8.1 hx with hx|hx
    ·exact ht' x hx
    ·unfold qAm at hx;split at hx
     ·exact ABlk.idsGe_ge k _ x hx
     ·cases hx
theorem qkA(ρ:Nat->Nat)(b:ABlk):(b.ren ρ).live=b.live:=by cases b<;>rfl
theorem qty(ρ:Nat->Nat)(b:ABlk):(b.ren ρ).vacant=b.vacant:=by
 cases b with
 |rows d sz rs=>cases d<;>cases rs<;>rfl
 |_=>rfl
theorem yl.renm[Lent]{k:Nat}{L:List Nat}{ρ:Nat->Nat}(hμ:∀id m,(id<k∨id∈L)->μ id=some m->μ' (ρ id)=some m){g:Nat->Option Value}{sz:Nat}{rs:List (List AV)}(h:yl C μ g sz rs)(hi:∀x∈yZ k rs,x∈L):yl C μ' g sz (renR ρ rs):=by
 intro i row hrow;rw[qdf]at hrow;obtain⟨r,hr,rfl⟩:=qw hrow;rw[zD];refine⟨by simpa using (h i r hr).1,λj x hx=>?_⟩;obtain⟨y,hy,rfl⟩:=qw hx;obtain⟨h1,v,h2,h3⟩:=(h i r hr).2 j y hy;exact⟨by rw[quN];exact h1,v,h2,h3.renm hμ (λz hz=>hi z (quX hr _ (yK hy z hz)))⟩
theorem yl.free[Lent]{g:Nat->Option Value}{sz:Nat}{rs:List (List AV)}(μ':MMap)(h:yl C μ g sz rs)(hr:qQ 0 rs=true):yl C μ' g sz rs:=by
 intro i row hrow;refine⟨(h i row hrow).1,λj x hx=>?_⟩;obtain⟨h1,v,h2,h3⟩:=(h i row hrow).2 j x hx;exact⟨h1,v,h2,h3.free μ' (xJ (zV hr hrow) hx)⟩
theorem qyT{ρ:Nat->Nat}{b:ABlk}(h:b.Free):(b.ren ρ).Free:=by
 cases b with
 |rows d sz rs=>cases d with
  |true=>exact h
  |false=>exact λh=>by cases h
 |froz d sz rs=>cases d with
  |true=>exact h
  |false=>exact λh=>by cases h
 |mp d es=>cases d with
  |true=>exact h
  |false=>exact λh=>by cases h
 |_=>trivial
theorem qy.renm[Lent]{k:Nat}{L:List Nat}{ρ:Nat->Nat}(hμ:∀id m,(id<k∨id∈L)->μ id=some m->μ' (ρ id)=some m){fr:List AV}{t:Array Value}(h:qy C μ fr t)(hi:∀x∈vo k fr,x∈L):qy C μ' (renL ρ fr) t:=by
 rw[zD];refine⟨by simpa using h.1,λi a v h1 h2=>?_⟩;obtain⟨y,hy,rfl⟩:=qw h1;exact(h.2 i y v hy h2).renm hμ (λz hz=>hi z (yK hy z hz))
theorem xr.renm[Lent]{k:Nat}{L:List Nat}{ρ:Nat->Nat}(hμ:∀id m,(id<k∨id∈L)->μ id=some m->μ' (ρ id)=some m){m:MI}{b:ABlk}(h:xr C μ w m b)(hi:∀x∈b.idsGe k,x∈L)(hfr:b.Free):xr C μ' w m (b.ren ρ):=by
 cases b with
 |rows d sz rs=>
  obtain⟨h1,h2,h3,h4⟩:=h;cases d with
  |true=>exact⟨h1,h2,h3.free μ' (hfr rfl),h4⟩
  |false=>exact⟨h1,by simp only[qF5,if_false];rw[qdf,List.length_map];exact h2,by simp only[qF5,if_false];exact h3.renm hμ (by simpa [ABlk.idsGe]using hi),h4⟩
 |froz sz rs=>trivial
 |mp d es=>
  obtain⟨arr,clock,h1,h2,h3⟩:=h;cases d with
  |true=>exact⟨arr,clock,h1,h2,λi e me he hme=>⟨(h3 i e me he hme).1.free μ' (hfr rfl i e he).1,(h3 i e me he hme).2.free μ' (hfr rfl i e he).2⟩⟩
  |false=>
  refine⟨arr,clock,h1,by simpa using h2,λi e me he hme=>?_⟩;simp only[qF5,if_false]at he;obtain⟨y,hy,rfl⟩:=qw he;have hin:∀x,x∈y.1.idsGe k++y.2.idsGe k->x∈L:=λx hx=>hi x (by
   simp only[ABlk.idsGe,qF5,if_false,List.mem_flatMap];exact⟨y,qFK hy,hx⟩)
  exact⟨(h3 i y me hy hme).1.renm hμ (λz hz=>hin z (qF8.2 (.inl hz))),(h3 i y me hy hme).2.renm hμ (λz hz=>hin z (qF8.2 (.inr hz)))⟩
 |loop f fr ps assign body pend st=>
  obtain⟨r,h1,h2,h3,h4,h5,h6,h7⟩:=h;exact⟨r,h1,h2,h3,h4,h5,h6,h7.renm hμ hi⟩
 |dead=>trivial
 |res=>trivial
 |reg=>exact h
 |spl=>exact h
 |bld=>exact h
theorem qsp[Lent](h:Wld C μ H w){fr:List AV}{tmps:Array Value}(hf:qy C μ fr tmps)(k:Nat)(hk:k<=H.length):∃μ',Wld C μ' (qi2 k fr H).2 w∧qy C μ' (qi2 k fr H).1 tmps ∧
  (∀id m,id<k->μ id=some m->μ' id=some m)∧(∀b,Live (qi2 k fr H).2 μ' b->Live H μ b)∧k<=(qi2 k fr H).2.length:=by
 have triv:∃μ',Wld C μ' H w∧qy C μ' fr tmps∧(∀id m,id<k->μ id=some m->μ' id=some m)∧(∀b,Live H μ' b->Live H μ b)∧k<=H.length:=⟨μ,h,hf,λ_ _ _ h=>h,λ_ h=>h,hk⟩;unfold qi2;simp only;generalize hL:qdO k H (2*H.length+16) [] (vo k fr++qae k (H.take k))=L;have hnd:L.Nodup:=hL▸qei k H _ _ _ List.nodup_nil;have hge:∀x∈L,k<=x:=hL▸qkt k H _ _ _ (λ_ hx=>by cases hx) (λx hx=>by
  rcases qF8.1 hx with hx|hx
  ·exact yP k fr x hx
  ·exact qod k _ x hx)
 cases hbs:qe3 H L with
 |none=>exact triv
 |some bs=>
  simp only;split
  case isFalse=>exact triv
  rename_i hc;simp only[qFJ,ze]at hc;obtain⟨⟨⟨hfr,htk⟩,hbk⟩,_⟩:=hc;obtain⟨hbl,hbg⟩:=qmE hbs
  let μ':MMap:=λid=>if id<k then μ id else(L[id - k]?).bind μ
  let ρ:=qdN k L
  have hμ:∀id m,(id<k∨id∈L)->μ id=some m->μ' (ρ id)=some m:=by
   intro id m hid hm
   by_cases hlt:id<k
   ·have hr:ρ id=id:=by
     show qdN k L id=id;unfold qdN;rw[qGq (by simpa [Nat.blt_eq]using hlt)]
    rw[hr];show(if id<k then μ id else _)=_;rw[qGq hlt];exact hm
   ·have hin:id∈L:=hid.resolve_left hlt;obtain⟨p,hp⟩:=qjY (k:=k) hin;obtain⟨e1,e2⟩:=qhs hp;have hr:ρ id=p:=by
     show qdN k L id=p;unfold qdN;rw[qGr (by simpa [Nat.blt_eq]using hlt),hp]
    rw[hr];show(if p<k then μ p else(L[p - k]?).bind μ)=some m;rw[qGr (by omega),e2];exact hm
  -- where a block of the new heap comes from
  have src:∀(i:Nat) b',(renH ρ (H.take k)++renH ρ bs)[i]? =some b'->∃o b,H[o]? =some b∧b'=b.ren ρ∧μ' i=μ o∧(∀x∈b.idsGe k,x∈L)∧((i<k∧o=i)∨(k<=i∧L[i - k]? =some o)):=by
   intro i b' hi;have hlen:(renH ρ (H.take k)).length=k:=by rw[qdg];simp;omega
   rw[List.getElem?_append]at hi;split at hi
   ·rename_i hlt;rw[hlen]at hlt;rw[qdg]at hi;obtain⟨b,hb,rfl⟩:=qw hi;have hb':H[i]? =some b:=by rw[List.getElem?_take]at hb;rw[qGq hlt]at hb;exact hb
    refine⟨i,b,hb',rfl,?_,λx hx=>htk x (ql9 hb x hx),.inl ⟨hlt,rfl⟩⟩;show(if i<k then μ i else _)=_;rw[qGq hlt]
   ·rename_i hlt;rw[hlen]at hlt hi;rw[qdg]at hi;obtain⟨b,hb,rfl⟩:=qw hi;have hil:i - k<L.length:=by rw[←hbl];exact(qFF.1 hb).1
    obtain⟨o,ho⟩:∃o,L[i - k]? =some o:=⟨_,qFE hil⟩;obtain⟨b2,e1,e2⟩:=hbg _ _ ho;rw[hb]at e2;cases e2;refine⟨o,b,e1,rfl,?_,λx hx=>hbk x (ql9 hb x hx),.inr ⟨by omega,ho⟩⟩;show(if i<k then μ i else(L[i - k]?).bind μ)=_;rw[qGr (by omega),ho];rfl
  have uniq:∀i i' o:Nat,((i<k∧o=i)∨(k<=i∧L[i - k]? =some o))->((i'<k∧o=i')∨(k<=i'∧L[i' - k]? =some o))->i=i':=by
   intro i i' o h1 h2;rcases h1 with⟨h1,e1⟩|⟨h1,e1⟩<;>rcases h2 with⟨h2,e2⟩|⟨h2,e2⟩
   ·omega
   ·have:=hge o (qFK e2);omega
   ·have:=hge o (qFK e1);omega
   ·have h3:i - k<L.length:=(qFF.1 e1).1;have h4:i' - k<L.length:=(qFF.1 e2).1;have h5:L[i - k]=L[i' - k]:=by
     rw[qFE h3]at e1;rw[qFE h4]at e2;exact(Option.some.inj e1).trans (Option.some.inj e2).symm
    have hpw:=List.pairwise_iff_getElem.1 hnd;rcases Nat.lt_trichotomy (i - k) (i' - k)with hlt|heq|hgt
    ·exact absurd h5 (hpw _ _ h3 h4 hlt)
    ·omega
    ·exact absurd h5.symm (hpw _ _ h4 h3 hgt)
  refine⟨μ',⟨h.cl,λid m hm=>?_,λi hi=>?_,λi b hi hb=>?_,λi d sz rs hi=>?_,λi i' b b' m m' hi hi' hb hb' hm hm' x hx hx'=>?_,λi b hi=>?_,h.lnt⟩,hf.renm hμ hfr,λid m hid hm=>?_,λb hb=>?_,?_⟩
  ·simp only[qdg,qFU,List.length_map,qF9]
   by_cases hid:id<k
   ·omega
   ·have hm':(L[id - k]?).bind μ=some m:=by
     have:μ' id=some m:=hm;simp only[μ',qGr hid]at this;exact this
    cases hl:L[id - k]? with
    |none=>rw[hl]at hm';cases hm'
    |some o=>
     have:=(qFF.1 hl).1;omega
  ·obtain⟨o,b,e1,e2,e3,_,_⟩:=src i _ hi;have:b= .res:=by cases b<;>simp[ABlk.ren]at e2;rfl
   subst this;rw[e3];exact h.res o e1
  ·obtain⟨o,b0,e1,rfl,e3,e4,_⟩:=src i _ hi;rw[qkA]at hb;rw[e3];refine⟨λhn=>by rw[qty];exact(h.live o b0 e1 hb).1 hn,λm h1=>?_⟩;obtain⟨h2,h4⟩:=(h.live o b0 e1 hb).2 m h1;exact⟨h2,h4.renm hμ e4 (h.free.get e1)⟩
  ·obtain⟨o,b0,e1,e2,e3,e4,_⟩:=src i _ hi;cases b0<;>simp[ABlk.ren]at e2
   obtain⟨rfl,rfl,rfl⟩:=e2;rw[e3];refine⟨λhn=>?_,λm h1=>?_⟩
   ·have:=(h.froz o _ _ _ e1).1 hn;subst this;cases d<;>rfl
   obtain⟨h2,h3,h4⟩:=(h.froz o _ _ _ e1).2 m h1;cases d with
   |true=>exact⟨h2,h3,h4.free μ' (h.free.get e1 rfl)⟩
   |false=>exact⟨h2,by simp only[qF5,if_false];rw[qdf,List.length_map];exact h3,by simp only[qF5,if_false];exact h4.renm hμ (by simpa [ABlk.idsGe]using e4)⟩
  ·obtain⟨o,b0,e1,rfl,e3,_,e4⟩:=src i _ hi;obtain⟨o',b0',e1',rfl,e3',_,e4'⟩:=src i' _ hi';rw[qkA]at hb hb';rw[e3]at hm;rw[e3']at hm';have:=h.inj o o' b0 b0' m m' e1 e1' hb hb' hm hm' x hx hx';subst this;exact uniq i i' o e4 e4'
  ·obtain⟨o,b0,e1,rfl,_,_,_⟩:=src i _ hi;exact qyT (h.free.get e1)
  ·show(if id<k then μ id else _)=_;rw[qGq hid];exact hm
  ·obtain⟨i,bi,m,e1,e2,e3,e5⟩:=hb;obtain⟨o,b0,f1,rfl,f3,_,_⟩:=src i _ e1;rw[qkA]at e2;rw[f3]at e3;exact⟨o,b0,m,f1,e2,e3,e5⟩
  ·simp only[qdg,qFU,List.length_map,qF9];omega
theorem qqz[Lent](h:Wld C μ H w){fr:List AV}{tmps:Array Value}(hf:qy C μ fr tmps)(k:Nat)(hk:k<=H.length):∃μ',Wld C μ' (gc k fr H).2 w∧qy C μ' (gc k fr H).1 tmps ∧
  (∀id m,id<k->μ id=some m->μ' id=some m)∧(∀b,Live (gc k fr H).2 μ' b->Live H μ b)∧k<=(gc k fr H).2.length:=by
 unfold gc;split
 ·exact⟨μ,h,hf,λ_ _ _ h=>h,λ_ h=>h,hk⟩
 ·exact qsp h hf k hk
variable {C C' : qk} {μ μ' : MMap} {H H' : AH} {w w' : World} {P : Program}
theorem z4{t:TypeId}{ti:TI}(h:tiOf P t=some ti):∃i u z,P.info? t=some i∧P.underlying t=some u∧i.zero=some z∧ti={ d:=tdOf u,sz:=i.size,bytes:=i.bytes,zero:=z.cells.toList.map xA,eq:=eqOf P t u }:=by
 unfold tiOf at h;split at h
 ·rename_i i u hi hu;split at h
  ·rename_i z hz;split at h
   ·cases h;exact⟨i,u,z,hi,hu,hz,rfl⟩
   ·cases h
  ·cases h
 ·cases h
theorem qxR{t:TypeId}{ti:TI}(h:tiOf P t=some ti):∃z,(∀w,(zeroValue t).run P w= .ok z w)∧ti.zero=z.cells.toList.map xA∧qhQ z=ti.d.agg:=by
 unfold tiOf at h;split at h
 ·rename_i i u hi hu;split at h
  ·rename_i z hz;split at h
   ·rename_i hc;cases h;exact⟨z,λw=>by simp[zeroValue,typeInfo,hi,hz],rfl,by simpa using hc⟩
   ·cases h
  ·cases h
 ·cases h
theorem zr{t:TypeId}{i:TypeInfo}(h:P.info? t=some i)(w:World):(typeInfo t).run P w= .ok i w:=by simp[typeInfo,h]
theorem qS{t:TypeId}{ti:TI}(h:tiOf P t=some ti)(w:World):(sizeOf t).run P w= .ok ti.sz w:=by
 obtain⟨i,u,z,hi,hu,hz,rfl⟩:=z4 h;simp[sizeOf,zr hi]
theorem qaK{t:TypeId}{ti:TI}(h:tiOf P t=some ti)(w:World):∃z,(zeroValue t).run P w= .ok z w∧ti.zero=z.cells.toList.map xA:=by
 obtain⟨i,u,z,hi,hu,hz,rfl⟩:=z4 h;exact⟨z,by simp[zeroValue,zr hi,hz],rfl⟩
theorem qnV{t:TypeId}{ti:TI}(h:tiOf P t=some ti)(w:World):(isAgg t).run P w= .ok ti.d.agg w:=by
 obtain⟨i,u,z,hi,hu,hz,rfl⟩:=z4 h;simp only[isAgg,Sem.run_bind,run_underlying hu,Result.andThen_ok];cases u<;>rfl
theorem vG{u:TypeDesc}{e:TypeId}(h:tdOf u= .slice e):u= .slice e:=by cases u<;>simp_all [tdOf]
theorem qdb{u:TypeDesc}{n:Nat}{e:TypeId}(h:tdOf u= .array n e):u= .array n e:=by cases u<;>simp_all [tdOf]
theorem qeM{u:TypeDesc}(h:tdOf u= .str):u= .string:=by cases u<;>simp_all [tdOf]
theorem qlh{u:TypeDesc}{k:IntKind}(h:tdOf u= .int k):u= .int k:=by cases u<;>simp_all [tdOf]
theorem qm2{u:TypeDesc}(h:tdOf u= .bool):u= .bool:=by cases u<;>simp_all [tdOf]
theorem qDn{u:TypeDesc}{e:TypeId}(h:tdOf u= .ptr e):u= .pointer e:=by cases u<;>simp_all [tdOf]
theorem qce{u:TypeDesc}{k e:TypeId}(h:tdOf u= .map k e):u= .map k e:=by cases u<;>simp_all [tdOf]
theorem qhb{u:TypeDesc}{fs:List (Nat×TypeId)}(h:tdOf u= .struct fs):∃f,u= .struct f∧fs=f.toList.map λf=>(f.offset,f.type):=by
 cases u<;>simp_all [tdOf]
theorem qAu{u:TypeDesc}(h:tdOf u= .func):∃a b c,u= .func a b c:=by cases u<;>simp_all [tdOf]
theorem Rep0.oneCell{D:qk}{a:AV}{v:Value}(h:Rep0 D a v):v.oneCell'=true:=by
 cases h<;>rfl
theorem Rep.oneCell[Lent]{a:AV}{v:Value}(h:Rep C μ a v)(hc:a.isCell=true):v.oneCell'=true:=by
 cases h<;>first|rfl|(rename_i h;exact Rep0.oneCell h)|simp[AV.isCell]at hc
theorem Wld.lc_cell[Lent](h:Wld C μ H w){b o:Nat}{v:Value}(hc:LC C b o=some v):w.cell? ⟨b,o,none⟩=some v:=by
 unfold LC at hc;split at hc
 ·exact h.cl _ _ _ hc
 ·exact(h.lnt.1 _ _ _ hc).1
theorem Rep0.lend[Lent]{a:AV}{v:Value}(h:Rep0 (LC C) a v):Rep C μ a.lend v:=by
 cases h with
 |int k n=>exact .int k n
 |bool b=>exact .bool b
 |str s=>exact .str s
 |nilS=>exact .nilS
 |sl rows a cap sz vals h1 h2 h3 h4 h5 h6 h7=>exact .lsl rows _ (.sl rows a cap sz vals h1 h2 h3 h4 h5 h6 h7)
 |slNil=>exact .lsl [] _ .slNil
 |em a cap=>exact .em a cap
theorem Rep0.regn[Lent]{a:AV}{v:Value}{id:Nat}{m:MI}(hm:μ id=some m)(h:Rep0 m.D a v):Rep C μ (a.regn id) v:=by
 cases h with
 |int k n=>exact .int k n
 |bool b=>exact .bool b
 |str s=>exact .str s
 |nilS=>exact .nilS
 |sl rows a cap sz vals h1 h2 h3 h4 h5 h6 h7=>exact .rsl id rows _ m.D (λ_=>⟨m,hm,rfl⟩) (.sl rows a cap sz vals h1 h2 h3 h4 h5 h6 h7)
 |slNil=>exact .rsl id [] _ m.D (λh=>absurd rfl h) .slNil
 |em a cap=>exact .em a cap
theorem qfn{cs:List AV}(h:qam cs=true):∃k n s rows,cs=[.int .i64 k,.int .i64 n,.str s,.sl rows]:=by
 unfold qam at h;split at h
 ·exact⟨_,_,_,_,rfl⟩
 ·cases h
theorem Rep.toEmp[Lent]{v:Value}(h:Rep C μ (.sl []) v):Rep0 (λ_ _=>none) (.sl []) v:=by
 cases h with
 |slNil=>exact .slNil
 |sl _ a cap=>exact .sl [] a cap 0 (λ_ _=>undef) (λh=>absurd rfl h) (λi row h=>by simp at h) (λi j row x h=>by simp at h) (λi j row x h=>by simp at h) (λi j row x h=>by simp at h) (Nat.zero_le _) rfl
theorem Rep0.ofEmp[Lent]{D:qk}{v:Value}(h:Rep0 D (.sl []) v):Rep C μ (.sl []) v:=by
 cases h with
 |slNil=>exact .slNil
 |sl _ a cap=>exact .sl [] a cap 0 (λ_ _=>undef) (λh=>absurd rfl h) (λi row h=>by simp at h) (λi j row x h=>by simp at h) (λi j row x h=>by simp at h) (λi j row x h=>by simp at h) (Nat.zero_le _) rfl
theorem qs2{a:AV}(h:is77 a=true):a= .agg qiQ∨a= .agg [.int .i64 77,.int .i64 0,.str [],.nilS]:=by
 unfold is77 at h;split at h
 ·exact .inr rfl
 ·exact .inl rfl
 ·cases h
theorem qyJ[Lent]{a:AV}{v:Value}(h:is77 a=true)(hr:Rep C μ a v):Rep C μ (.agg qiQ) v:=by
 rcases qs2 h with rfl|rfl
 ·exact hr
 ·cases hr with
  |agg _ vs hl hh=>
   refine .agg _ vs hl λi a v h1 h2=>?_
   unfold qiQ at h1;rcases i with _|_|_|_|i
   ·exact hh 0 a v h1 h2
   ·exact hh 1 a v h1 h2
   ·exact hh 2 a v h1 h2
   ·cases h1;have:=hh 3 _ v rfl h2;cases this;exact .slNil
   ·simp at h1
theorem qgc{D:qk}{cs:List AV}{b o:Nat}{vals:Nat->Value}(h:qam cs=true)(hc:∀(j:Nat) x,cs[j]? =some x->D b (o+j)=some (vals j))(hr:∀(j:Nat) x,cs[j]? =some x->Rep0 D x (vals j)):qd9 D b o:=by
 obtain⟨k,n,s,rows,rfl⟩:=qfn h;have c0:=hc 0 _ rfl;have c1:=hc 1 _ rfl;have c2:=hc 2 _ rfl;have c3:=hc 3 _ rfl;have r0:=hr 0 _ rfl;have r1:=hr 1 _ rfl;have r2:=hr 2 _ rfl;have r3:=hr 3 _ rfl;refine⟨⟨k,?_⟩,⟨n,?_⟩,⟨⟨s.toArray⟩,?_⟩,?_⟩
 ·generalize vals 0=v at c0 r0;cases r0;exact c0
 ·generalize vals 1=v at c1 r1;cases r1;exact c1
 ·generalize vals 2=v at c2 r2;cases r2;exact c2
 ·generalize vals 3=v at c3 r3;cases r3 with
  |sl _ a cap=>exact⟨_,_,_,c3⟩
  |slNil=>exact⟨_,_,_,c3⟩
theorem qd9.apart{D:qk}{b o o':Nat}(h:qd9 D b o)(h':qd9 D b o'):o=o'∨o+4<=o'∨o'+4<=o:=by
 have main:∀{o o':Nat},qd9 D b o->qd9 D b o'->∀d,d=1∨d=2∨d=3->o'=o+d->False:=by
  intro o o' h h' d hd he;obtain⟨⟨k,a0⟩,⟨n,a1⟩,⟨s,a2⟩,x,l,c,a3⟩:=h;obtain⟨⟨k',b0⟩,⟨n',b1⟩,⟨s',b2⟩,x',l',c',b3⟩:=h';subst he;rcases hd with rfl|rfl|rfl
  ·rw[show o+1+1=o+2 by omega,a2]at b1;cases b1
  ·rw[a2]at b0;cases b0
  ·rw[a3]at b0;cases b0
 by_cases h1:o<o'
 ·by_cases h2:o+4<=o'
  ·exact .inr (.inl h2)
  ·exact(main h h' (o' - o) (by omega) (by omega)).elim
 ·by_cases h3:o'+4<=o
  ·exact .inr (.inr h3)
  ·by_cases h4:o=o'
   ·exact .inl h4
   ·exact(main h' h (o - o') (by omega) (by omega)).elim
theorem qbh[Lent](v:Value):Rep C μ (xA v) v:=by
 unfold xA;split
 ·exact .bool _
 ·exact .int _ _
 ·rename_i s;have h:(⟨s.data.toList.toArray⟩:ByteArray)=s:=by cases s;simp
  have:=Rep.str (C:=C) (μ:=μ) s.data.toList
  rwa [h]at this
 ·exact .nilS
 ·exact .nilP
 ·exact .nilM
 ·exact .nilF
 ·exact .nilI
 ·exact .junk _
theorem qjS[Lent](v:Value):Rep C μ (ofValue v) v:=by
 unfold ofValue;split
 ·rename_i cs;have:=Rep.agg (C:=C) (μ:=μ) (cs.toList.map xA) cs.toList (by simp) (λi a v h1 h2=>by
   obtain⟨b,hb,rfl⟩:=qw h1;rw[h2]at hb;cases hb;exact qbh v)
  simpa using this
 ·exact qbh v
theorem qh2{cs:List AV}:xZ cs=true↔∀(i:Nat) x,cs[i]? =some x->x.isCell=true:=by
 induction cs with
 |nil=>simp[xZ]
 |cons a l ih=>
  simp only[xZ,qFJ,ih];constructor
  ·rintro⟨h1,h2⟩ i x hx;cases i with
   |zero=>simp at hx;subst hx;exact h1
   |succ i=>exact h2 i x (by simpa using hx)
  ·intro h;exact⟨h 0 a rfl,λi x hx=>h (i+1) x (by simpa using hx)⟩
theorem Rep.cells[Lent]{a:AV}{v:Value}{cs:List AV}(h:Rep C μ a v)(hc:a.cells=some cs):
  ∃vs:List Value,v.cells=vs.toArray∧cs.length=vs.length∧(∀x∈vs,x.oneCell'=true)∧∀(i:Nat) x y,cs[i]? =some x->vs[i]? =some y->x.isCell=true∧Rep C μ x y:=by
 have single:∀{x:AV} {y:Value},Rep C μ x y->x.isCell=true->∃vs:List Value,y.cells=vs.toArray∧[x].length=vs.length∧(∀z∈vs,z.oneCell'=true) ∧
   ∀(i:Nat) x' y',[x][i]? =some x'->vs[i]? =some y'->x'.isCell=true∧Rep C μ x' y':=by
  intro x y hr hx;have ho:=hr.oneCell hx;refine⟨[y],by cases y<;>simp_all [Value.cells,Value.oneCell'],rfl,by simpa using ho,λi x' y' h1 h2=>?_⟩;cases i with
  |zero=>simp at h1 h2;subst h1;subst h2;exact⟨hx,hr⟩
  |succ i=>simp at h1
 cases h with
 |agg cs' vs hl hr=>
  simp only[AV.cells]at hc;split at hc
  ·rename_i hall;cases hc;rw[qh2]at hall;refine⟨vs,rfl,hl,λx hx=>?_,λi x y h1 h2=>⟨hall i x h1,hr i x y h1 h2⟩⟩;obtain⟨i,hi⟩:=List.mem_iff_getElem?.1 hx;have hlt:i<cs.length:=by rw[hl];exact(qFF.1 hi).1
   exact(hr i _ x (qFE hlt) hi).oneCell (hall i _ (qFE hlt))
  ·cases hc
 |tup cs' vs hl hr=>simp[AV.cells]at hc
 |junk v=>simp[AV.cells]at hc
 |int k n=>simp[AV.cells]at hc;subst hc;exact single (.int k n) rfl
 |bool b=>simp[AV.cells]at hc;subst hc;exact single (.bool b) rfl
 |str s=>simp[AV.cells]at hc;subst hc;exact single (.str s) rfl
 |nilS=>simp[AV.cells]at hc;subst hc;exact single .nilS rfl
 |slNil=>simp[AV.cells]at hc;subst hc;exact single .slNil rfl
 |em a cap=>simp[AV.cells]at hc;subst hc;exact single (.em a cap) rfl
 |sl rows a cap sz vals h1 h2 h3 h4 h5 h6 h7=>simp[AV.cells]at hc;subst hc;exact single (.sl rows a cap sz vals h1 h2 h3 h4 h5 h6 h7) rfl
 |ms id off len cap a m h1 h2 h3=>simp[AV.cells]at hc;subst hc;exact single (.ms id off len cap a m h1 h2 h3) rfl
 |msN id off=>simp[AV.cells]at hc;subst hc;exact single (.msN id off) rfl
 |nilP=>simp[AV.cells]at hc;subst hc;exact single .nilP rfl
 |ptr id row off m h1=>simp[AV.cells]at hc;subst hc;exact single (.ptr id row off m h1) rfl
 |cptr cells off b o vals h1 h2=>simp[AV.cells]at hc;subst hc;exact single (.cptr cells off b o vals h1 h2) rfl
 |fn f first caps vf vc h1 h2 h3 h4=>simp[AV.cells]at hc;subst hc;exact single (.fn f first caps vf vc h1 h2 h3 h4) rfl
 |yld id m h1=>simp[AV.cells]at hc;subst hc;exact single (.yld id m h1) rfl
 |nilF=>simp[AV.cells]at hc;subst hc;exact single .nilF rfl
 |nilM=>simp[AV.cells]at hc;subst hc;exact single .nilM rfl
 |mp id m h1=>simp[AV.cells]at hc;subst hc;exact single (.mp id m h1) rfl
 |nilI=>simp[AV.cells]at hc;subst hc;exact single .nilI rfl
 |ifc t a v h1=>simp[AV.cells]at hc;subst hc;exact single (.ifc t a v h1) rfl
 |lsl rows v h1=>simp[AV.cells]at hc;subst hc;exact single (.lsl rows v h1) rfl
 |lpt cells off b o vals h1 h2=>simp[AV.cells]at hc;subst hc;exact single (.lpt cells off b o vals h1 h2) rfl
 |rsl id rows v D h1 h2=>simp[AV.cells]at hc;subst hc;exact single (.rsl id rows v D h1 h2) rfl
 |rpt id cells off b o vals m h1 h2 h3=>simp[AV.cells]at hc;subst hc;exact single (.rpt id cells off b o vals m h1 h2 h3) rfl
 |alt l i a v h1 h2=>simp[AV.cells]at hc
 |wr n a ad c hn h1=>simp[AV.cells]at hc
theorem Wld.rowCells[Lent](h:Wld C μ H w){id sz r:Nat}{rs:List (List AV)}{row:List AV}(hb:vg H id=some (sz,rs))(hr:rs[r]? =some row):
  ∃m,μ id=some m∧sz=m.sz∧row.length=sz∧∀(j:Nat) x,row[j]? =some x->x.isCell=true∧∃v,w.cell? ⟨m.block,m.base+r*sz+j,none⟩=some v∧Rep C μ x v:=by
 unfold vg at hb;split at hb
 ·rename_i sz' rs' hi;cases hb;obtain⟨m,hm,hlt,hc,hsz,hle,hrows,hcells⟩:=h.liveX hi rfl (qjJ hr);refine⟨m,hm,hsz,(hrows r row hr).1,λj x hj=>?_⟩;obtain⟨e1,v,e2,e3⟩:=(hrows r row hr).2 j x hj;exact⟨e1,v,by rw[Nat.add_assoc];exact e2,e3⟩
 ·rename_i sz' rs' hi;cases hb;obtain⟨m,hm,hsz,hle,hrows⟩:=h.frozX hi hr;refine⟨m,hm,hsz,(hrows r row hr).1,λj x hj=>?_⟩;obtain⟨e1,v,e2,e3⟩:=(hrows r row hr).2 j x hj;exact⟨e1,v,by rw[Nat.add_assoc];exact h.cl _ _ _ e2,e3⟩
 ·cases hb
theorem y4(b o j:Nat):(⟨b,o,none⟩:Addr).add j=⟨b,o+j,none⟩:=by unfold Addr.add;split<;>simp_all
theorem zf(a:Addr)(j:Nat)(h:a.spot=none):a.add j=⟨a.block,a.off+j,none⟩:=by cases a;simp at h;subst h;exact y4 _ _ _
theorem qvU[Lent]{b o n:Nat}{cs:List AV}(hn:cs.length=n)(h:∀(j:Nat) x,cs[j]? =some x->∃v,w.cell? ⟨b,o+j,none⟩=some v∧Rep C μ x v):
  ∃vs:List Value,(loadCells ⟨b,o,none⟩ n).run P w= .ok vs.toArray w∧vs.length=n∧∀(i:Nat) x y,cs[i]? =some x->vs[i]? =some y->Rep C μ x y:=by
 have hv:∀j,j<n->∃v,w.cell? ⟨b,o+j,none⟩=some v∧∀x,cs[j]? =some x->Rep C μ x v:=by
  intro j hj;have hlt:j<cs.length:=by omega
  obtain⟨v,h1,h2⟩:=h j _ (qFE hlt);exact⟨v,h1,λx hx=>by rw[qFE hlt]at hx;cases hx;exact h2⟩
 have hl:∀j,j<n->w.cell? (Addr.add ⟨b,o,none⟩ j)=some ((w.cell? ⟨b,o+j,none⟩).getD undef):=by
  intro j hj;obtain⟨v,h1,_⟩:=hv j hj;rw[y4,h1];rfl
 refine⟨(qGn n).map λj=>(w.cell? ⟨b,o+j,none⟩).getD undef,run_loadCells w _ n _ hl,by simp,λi x y h1 h2=>?_⟩;obtain⟨j,hj,rfl⟩:=qw h2;have hjl:i<n:=by have:=(qFF.1 hj).1;simpa using this
 have:j=i:=by rw[List.getElem?_range hjl]at hj;exact(Option.some.inj hj).symm
 subst this;obtain⟨v,e1,e2⟩:=hv j hjl;rw[e1];exact e2 x h1
theorem vp{α:Type}{l:List α}{off n j:Nat}{x:α}(h:((l.drop off).take n)[j]? =some x):j<n∧l[off+j]? =some x:=by
 rw[List.getElem?_take]at h;split at h
 ·rename_i hlt;exact⟨hlt,by rwa [List.getElem?_drop]at h⟩
 ·cases h
theorem qtC{id:Nat}{cs:List AV}{off:Nat}{v:AV}(h:qm5 id cs off=some v):∃o rows a,off=o+1∧cs[o]? =some a∧cs[o+1]? =some (.sl rows)∧a.plain=true∧v= .rsl id rows:=by
 obtain⟨rows,h1,rfl⟩:=qFM.1 h;clear h
 rename (qcW cs off=some rows)=>h
 cases off with
 |zero=>cases h
 |succ o=>
  have h:(match cs[o]?,cs[o+1]? with|some a,some (.sl rows)=>if a.plain=true then some rows else none|_,_=>none)=some rows:=h;split at h
  ·rename_i a rows' ha hs;split at h
   ·rename_i hp;cases h;exact⟨o,rows,a,rfl,ha,hs,hp,rfl⟩
   ·cases h
  ·cases h
theorem zR.store{D:qk}{w:World}(h:zR D w){b p:Nat}{vs:List Value}(hD:∀j,j<vs.length->∃u,D b (p+j)=some u)(hrow:∀o2,qd9 D b o2->o2+4<=p∨p+vs.length<=o2∨∃d k v3,o2=p+d∧(k=77∨k=0)∧vs[d]? =some (.int .i64 k)∧vs[d+1]? =some (.int .i64 0)∧vs[d+2]? =some (.string ⟨#[]⟩)∧vs[d+3]? =some v3∧Rep0 (λ_ _=>none) (.sl []) v3)(hsl:∀o2,qre D b o2->(∃x l c,D b (o2+1)=some (.slice x l c))->o2+1<p∨p+vs.length<=o2+1):zR D (w.setCells b p vs):=by
 obtain⟨h1,h2,h3⟩:=h;have hsome:∀j,j<vs.length->(w.cell? ⟨b,p+j,none⟩).isSome=true:=λj hj=>by obtain⟨u,hu⟩:=hD j hj;exact(h1 _ _ _ hu).2
 have hin:∀(j:Nat) v,vs[j]? =some v->(w.setCells b p vs).cell? ⟨b,p+j,none⟩=some v:=λj v hj=>by
  obtain⟨hl,rfl⟩:=qFF.1 hj;exact World.cell?_setCells_in b vs p w hsome j hl
 have hout:∀b2 o2,b2≠b∨o2<p∨p+vs.length<=o2->(w.setCells b p vs).cell? ⟨b2,o2,none⟩=w.cell? ⟨b2,o2,none⟩:=λb2 o2 ho=>World.cell?_setCells_out b vs p w _ (λhb _=>ho.resolve_left (λhn=>hn hb))
 refine⟨λb2 o2 v hd=>⟨by rw[World.frozen?_setCells];exact(h1 _ _ _ hd).1,?_⟩,λb2 o2 hr=>?_,λb2 o2 hp hs=>?_⟩
 ·by_cases hb:b2≠b∨o2<p∨p+vs.length<=o2
  ·rw[hout _ _ hb];exact(h1 _ _ _ hd).2
  ·have hbb:b2=b:=Classical.not_not.1 λe=>hb (.inl e)
   subst hbb;have hlt:o2 - p<vs.length:=by omega
   have:=hin (o2 - p) _ (qFE hlt);rw[show p+(o2 - p)=o2 by omega]at this;rw[this];rfl
 ·have same:(∀j,j<4->(w.setCells b p vs).cell? ⟨b2,o2+j,none⟩=w.cell? ⟨b2,o2+j,none⟩)->(∀j,j<4->(w.setCells b p vs).cell? ⟨b2,o2+j,none⟩=D b2 (o2+j))∨qaJ (w.setCells b p vs) b2 o2 77∨qaJ (w.setCells b p vs) b2 o2 0:=by
   intro hq;have q0:=hq 0 (by omega);rw[Nat.add_zero]at q0;have emp:∀k,qaJ w b2 o2 k->qaJ (w.setCells b p vs) b2 o2 k:=λk hk=>by
    unfold qaJ at hk⊢;rw[q0,hq 1 (by omega),hq 2 (by omega),hq 3 (by omega)];exact hk
   rcases h2 b2 o2 hr with c|c|c
   ·exact .inl λj hj=>(hq j hj).trans (c j hj)
   ·exact .inr (.inl (emp _ c))
   ·exact .inr (.inr (emp _ c))
  by_cases hb:b2=b
  ·subst hb;rcases hrow o2 hr with hc|hc|⟨d,k,v3,rfl,hk,e0,e1,e2,e3,e4⟩
   ·exact same λj hj=>hout _ _ (.inr (.inl (by omega)))
   ·exact same λj hj=>hout _ _ (.inr (.inr (by omega)))
   ·have f:qaJ (w.setCells b2 p vs) b2 (p+d) k:=⟨hin d _ e0,hin (d+1) _ e1,hin (d+2) _ e2,v3,hin (d+3) _ e3,e4⟩;rcases hk with rfl|rfl
    ·exact .inr (.inl f)
    ·exact .inr (.inr f)
  ·exact same λj hj=>hout _ _ (.inl hb)
 ·by_cases hb:b2=b
  ·subst hb;rw[hout _ _ (.inr (hsl o2 hp hs))];exact h3 _ _ hp hs
  ·rw[hout _ _ (.inl hb)];exact h3 _ _ hp hs
theorem qwN{cs:List AV}(h:ql8 cs=true):∃a b c k n s rows,cs=[.int .i64 a,.int .i64 b,.int .i64 c,.int .i64 k,.int .i64 n,.str s,.sl rows]:=by
 unfold ql8 at h;split at h
 ·exact⟨_,_,_,_,_,_,_,rfl⟩
 ·cases h
theorem qoI[Lent]{a:AV}{v:Value}(h:qcY a=true)(hr:Rep C μ a v):∃v3,v.cells=[Value.int .i64 99,.int .i64 0,.int .i64 0,.int .i64 0,.int .i64 0,.string ⟨#[]⟩,v3].toArray∧Rep0 (λ_ _=>none) (.sl []) v3:=by
 have go:∀x:AV,(∀v,Rep C μ x v->Rep0 (λ_ _=>none) (.sl []) v)->Rep C μ (.agg [.int .i64 99,.int .i64 0,.int .i64 0,.int .i64 0,.int .i64 0,.str [],x]) v->∃v3,v.cells=[Value.int .i64 99,.int .i64 0,.int .i64 0,.int .i64 0,.int .i64 0,.string ⟨#[]⟩,v3].toArray∧Rep0 (λ_ _=>none) (.sl []) v3:=by
  intro x hx hr;cases hr with
  |agg _ us hl hh=>
   match us,hl,hh with
   |[u0,u1,u2,u3,u4,u5,u6],_,hh=>
    have r0:=hh 0 _ _ rfl rfl;have r1:=hh 1 _ _ rfl rfl;have r2:=hh 2 _ _ rfl rfl;have r3:=hh 3 _ _ rfl rfl;have r4:=hh 4 _ _ rfl rfl;have r5:=hh 5 _ _ rfl rfl;have r6:=hh 6 _ _ rfl rfl;cases r0;cases r1;cases r2;cases r3;cases r4;cases r5;exact⟨u6,rfl,hx _ r6⟩
 unfold qcY at h;split at h
 ·exact go _ (λv hv=>by cases hv;exact .slNil) hr
 ·exact go _ (λv hv=>hv.toEmp) hr
 ·cases h
theorem qlP[Lent](h:Wld C μ H w){t:TypeId}{ti:TI}(ht:tiOf P t=some ti){p:AV}{pv:Value}{v:AV}(hp:Rep C μ p pv)(he:qaC ti.d.agg ti.sz H p=some v):
  ∃a u,pv= .pointer (some a)∧(loadVar t a).run P w= .ok u w∧Rep C μ v u:=by
 have core:∀(b o off:Nat) (row:List AV) {v:AV},(∀(j:Nat) x,row[j]? =some x->∃v,w.cell? ⟨b,o+j,none⟩=some v∧Rep C μ x v) ->
   (if ti.d.agg=true then(if qFR (off+ti.sz) row.length=true then some (AV.agg ((row.drop off).take ti.sz))else none)else row[off]?)=some v ->
   ∃u,(loadVar t ⟨b,o+off,none⟩).run P w= .ok u w∧Rep C μ v u:=by
  intro b o off row v hrow hv;simp only[loadVar,Sem.run_bind,qnV ht,Result.andThen_ok];cases hagg:ti.d.agg with
  |true=>
   rw[hagg]at hv;simp only[if_true]at hv;split at hv
   ·rename_i hle;rw[qGj]at hle;cases hv;obtain⟨vs,e1,e2,e3⟩:=qvU (P:=P) (w:=w) (C:=C) (μ:=μ) (b:=b) (o:=o+off) (n:=ti.sz) (cs:=(row.drop off).take ti.sz) (by simp;omega) (λj x hj=>by
     obtain⟨_,hx⟩:=vp hj;rw[Nat.add_assoc];exact hrow _ x hx)
    refine⟨.agg vs.toArray,by simp[qS ht,e1],.agg _ vs (by simp;omega) e3⟩
   ·cases hv
  |false=>
   rw[hagg]at hv;simp only[qF5,if_false]at hv;obtain⟨u,e1,e2⟩:=hrow off v hv;exact⟨u,by simp[e1],e2⟩
 unfold qaC at he;split at he
 ·rename_i id r off;split at he
  ·rename_i sz rs hb;split at he
   ·rename_i row hr;obtain⟨m,hm,hsz,hlen,hc⟩:=h.rowCells hb hr;cases hp with
    |ptr _ _ _ m' hm'=>
     rw[hm]at hm';cases hm';obtain⟨u,e1,e2⟩:=core m.block (m.base+r*m.sz) off row (λj x hj=>by
      obtain⟨_,v,e1,e2⟩:=hc j x hj;exact⟨v,by rw[←hsz];exact e1,e2⟩) he
     exact⟨_,u,rfl,e1,e2⟩
   ·cases he
  ·cases he
 ·rename_i cs off;cases hp with
  |cptr _ _ b o vals hc hr=>
   obtain⟨u,e1,e2⟩:=core b o off cs (λj x hj=>⟨vals j,h.cl _ _ _ (hc j x hj),hr j x hj⟩) he;exact⟨_,u,rfl,e1,e2⟩
 ·rename_i cs off;cases hp with
  |lpt _ _ b o vals hc hr=>
   obtain⟨u,e1,e2⟩:=core b o off (cs.map AV.lend) (λj x hj=>by
    obtain⟨y,hy,rfl⟩:=qw hj;exact⟨vals j,h.lc_cell (hc j y hy),(hr j y hy).lend⟩) (by
    rw[←he];split
    ·simp only[List.length_map,List.map_take,List.map_drop]
    ·rw[List.getElem?_map])
   exact⟨_,u,rfl,e1,e2⟩
 ·rename_i id cs off;cases hp with
  |rpt _ _ _ b o vals m hm hc hr=>
  split at he
  ·rename_i hi;have hreg:∀b o v,m.D b o=some v->w.cell? ⟨b,o,none⟩=some v∧w.frozen? ⟨b,o,none⟩=false:=(h.liveM hi rfl hm).2.2;obtain⟨u,e1,e2⟩:=core b o off (cs.map (AV.regn id)) (λj x hj=>by
    obtain⟨y,hy,rfl⟩:=qw hj;exact⟨vals j,(hreg _ _ _ (hc j y hy)).1,(hr j y hy).regn hm⟩) (by
    rw[←he];split
    ·simp only[List.length_map,List.map_take,List.map_drop]
    ·rw[List.getElem?_map])
   exact⟨_,u,rfl,e1,e2⟩
  ·rename_i hi;have hspl:zR m.D w:=(h.liveM hi rfl hm).2.2;split at he
   ·rename_i hagg;split at he
    case isFalse=>cases he
    rename_i hc0;simp only[qFJ]at hc0;obtain⟨hsz,htr⟩:=hc0;replace hsz:=qFO hsz;cases he;have hc':∀(j:Nat) x,((cs.drop off).take 4)[j]? =some x->m.D b (o+off+j)=some (vals (off+j)):=λj x hj=>by
     obtain⟨_,hx⟩:=vp hj;rw[Nat.add_assoc];exact hc _ x hx
    have hr':∀(j:Nat) x,((cs.drop off).take 4)[j]? =some x->Rep0 m.D x (vals (off+j)):=λj x hj=>by
     obtain⟨_,hx⟩:=vp hj;exact hr _ x hx
    generalize (cs.drop off).take 4=cs4 at htr hc' hr'⊢;have hrow:=qgc (vals:=λj=>vals (off+j)) htr hc' hr';have emp:∀k,qaJ w b (o+off) k->∃u,(loadVar t ⟨b,o+off,none⟩).run P w= .ok u w∧Rep C μ (.agg [.int .i64 k,.int .i64 0,.str [],.sl []]) u:=by
     rintro k ⟨d0,d1,d2,v3,d3,r3⟩;exact core b (o+off) 0 [.int .i64 k,.int .i64 0,.str [],.sl []] (v:=.agg [.int .i64 k,.int .i64 0,.str [],.sl []]) (λj x hj=>by
      rcases j with _|_|_|_|j
      ·cases hj;exact⟨_,d0,.int _ _⟩
      ·cases hj;exact⟨_,d1,.int _ _⟩
      ·cases hj;exact⟨_,d2,.str []⟩
      ·cases hj;exact⟨_,d3,r3.ofEmp⟩
      ·simp at hj) (by
      rw[hagg,hsz];rfl)
    rcases hspl.2.1 b (o+off) hrow with hcell|hcell|hcell
    ·obtain⟨u,e1,e2⟩:=core b (o+off) 0 (cs4.map (AV.regn id)) (v:=.agg (cs4.map (AV.regn id))) (λj x hj=>by
      obtain⟨y,hy,rfl⟩:=qw hj;obtain⟨k,n,s,rows,rfl⟩:=qfn htr;have hjl:j<4:=by have:=(qFF.1 hy).1;simpa using this
      exact⟨vals (off+j),by rw[hcell j hjl];exact hc' j y hy,(hr' j y hy).regn hm⟩) (by
      obtain⟨k,n,s,rows,rfl⟩:=qfn htr;rw[hagg,hsz];rfl)
     exact⟨_,u,rfl,e1,.alt _ 0 _ _ rfl e2⟩
    ·obtain⟨u,e1,e2⟩:=emp 77 hcell;exact⟨_,u,rfl,e1,.alt _ 1 _ _ rfl e2⟩
    ·obtain⟨u,e1,e2⟩:=emp 0 hcell;exact⟨_,u,rfl,e1,.alt _ 2 _ _ rfl e2⟩
   ·rename_i hagg;obtain⟨o',rows,a,rfl,ha,hs,hpl,rfl⟩:=qtC he;have q1:=hc o' a ha;have r1:=hr o' a ha;have q2:=hc (o'+1) _ hs;have r2:=hr (o'+1) _ hs;have hpd:qre m.D b (o+o'):=by
     cases a<;>simp[AV.plain]at hpl
     ·generalize vals o'=u at q1 r1;cases r1;exact .inl ⟨_,_,q1⟩
     ·generalize vals o'=u at q1 r1;cases r1;exact .inr ⟨_,q1⟩
    have hsl:∃x l c,m.D b (o+o'+1)=some (.slice x l c):=by
     rw[Nat.add_assoc,q2];generalize vals (o'+1)=u at r2;cases r2<;>exact⟨_,_,_,rfl⟩
    have hcell:=hspl.2.2 b (o+o') hpd hsl;obtain⟨u,e1,e2⟩:=core b (o+(o'+1)) 0 [.rsl id rows] (v:=.rsl id rows) (λj x hj=>by
     rcases j with _|j
     ·cases hj;exact⟨vals (o'+1),by rw[Nat.add_zero,←Nat.add_assoc,hcell,Nat.add_assoc];exact q2,r2.regn hm⟩
     ·simp at hj) (by
     rw[qGr hagg];rfl)
    exact⟨_,u,rfl,e1,e2⟩
  ·cases he
 ·cases he
theorem zL(b:Nat):∀(vs:List Value) (o:Nat) (w:World),(w.setCells b o vs).heap.size=w.heap.size∧(∀k,k≠b->(w.setCells b o vs).heap[k]? =w.heap[k]?) ∧
  (w.setCells b o vs).os=w.os∧(w.setCells b o vs).tape=w.tape∧(w.setCells b o vs).output=w.output
 |[],_,_=>⟨rfl,λ_ _=>rfl,rfl,rfl,rfl⟩
 |v::r,o,w=>by
  obtain⟨h1,h2,h3,h4,h5⟩:=zL b r (o+1) (w.setCell ⟨b,o,none⟩ v);refine⟨by rw[World.setCells,h1];simp,λk hk=>?_,by rw[World.setCells,h3];rfl,by rw[World.setCells,h4];rfl,by rw[World.setCells,h5];rfl⟩;rw[World.setCells,h2 k hk];simp only[World.setCell,Array.getElem?_modify];rw[qGr (λe=>hk e.symm)]
theorem qtM[Lent]{d:Bool}{m:MI}{sz:Nat}{rs:List (List AV)}{r off:Nat}{row cs:List AV}{vs:List Value}(hsz:sz=m.sz)(hle:rs.length*sz<=m.size)(hrows:yl C μ (vF w m) sz rs)(hcells:∀o,o<m.size->(vF w m o).isSome=true∧w.frozen? ⟨m.block,m.base+o,none⟩=false)(hr:rs[r]? =some row)(hfit:off+cs.length<=row.length)(hl:cs.length=vs.length)(hv:∀(i:Nat) x y,cs[i]? =some x->vs[i]? =some y->x.isCell=true∧Rep C μ x y):
  xr C μ (w.setCells m.block (m.base+r*sz+off) vs) m (.rows d sz (rs.set r (row.take off++cs++row.drop (off+cs.length)))):=by
 have hlen:=(hrows r row hr).1;have hrl:r<rs.length:=(qFF.1 hr).1;have hmul:∀i,i<rs.length->i*sz+sz<=rs.length*sz:=λi hi=>by
  have:(i+1)*sz<=rs.length*sz:=qGe _ hi;rw[Nat.add_mul]at this;omega
 have hsome:∀j,j<vs.length->(w.cell? ⟨m.block,m.base+r*sz+off+j,none⟩).isSome=true:=by
  intro j hj;have h1:=hmul r hrl;have:=(hcells (r*sz+off+j) (by omega)).1;unfold vF at this
  rwa [show m.base+(r*sz+off+j)=m.base+r*sz+off+j by omega]at this
 refine⟨hsz,by simpa using hle,λi row' hi=>?_,λo ho=>?_⟩
 ·rw[qF1]at hi
  by_cases e:r=i
  ·subst e;rw[qGq rfl,qGq hrl]at hi;cases hi;refine⟨by simp;omega,λj x hj=>?_⟩;have h1:=hmul r hrl
   by_cases hj1:j<off
   ·rw[qFX (by simp;omega),qFX (by simp;omega),List.getElem?_take,qGq hj1]at hj;obtain⟨e1,v,e2,e3⟩:=(hrows r row hr).2 j x hj;refine⟨e1,v,?_,e3⟩;unfold vF at e2⊢;rw[World.cell?_setCells_out]
    ·exact e2
    ·intro _ _;left;simp;omega
   ·by_cases hj2:j<off+cs.length
    ·rw[qFX (by simp;omega),qF0 (by simp;omega)]at hj;simp only[qF9]at hj;rw[show j - min off row.length=j - off by omega]at hj;have hlt:j - off<vs.length:=by omega
     obtain⟨e1,e2⟩:=hv (j - off) x vs[j - off] hj (qFE hlt);refine⟨e1,vs[j - off],?_,e2⟩;unfold vF;have:=World.cell?_setCells_in m.block vs (m.base+r*sz+off) w hsome (j - off) hlt
     rwa [show m.base+r*sz+off+(j - off)=m.base+(r*sz+j) by omega]at this
    ·rw[qF0 (by simp;omega)]at hj;simp only[qFU,qF9]at hj;rw[List.getElem?_drop,show off+cs.length+(j - (min off row.length+cs.length))=j by omega]at hj;obtain⟨e1,v,e2,e3⟩:=(hrows r row hr).2 j x hj;refine⟨e1,v,?_,e3⟩;unfold vF at e2⊢;rw[World.cell?_setCells_out]
     ·exact e2
     ·intro _ _;right;simp;omega
  ·rw[qGr e]at hi;refine⟨(hrows i row' hi).1,λj x hj=>?_⟩;obtain⟨e1,v,e2,e3⟩:=(hrows i row' hi).2 j x hj;refine⟨e1,v,?_,e3⟩;have hlen':=(hrows i row' hi).1;have hjl:j<sz:=by rw[←hlen'];exact(qFF.1 hj).1
   unfold vF at e2⊢;rw[World.cell?_setCells_out]
   ·exact e2
   ·intro _ _;rcases Nat.lt_or_gt_of_ne e with h|h
    ·right
     have:(r+1)*sz<=i*sz:=qGe _ h;rw[Nat.add_mul]at this;simp;omega
    ·left
     have:(i+1)*sz<=r*sz:=qGe _ h;rw[Nat.add_mul]at this;simp;omega
 ·have h0:=hcells o ho;refine⟨?_,by rw[World.frozen?_setCells];exact h0.2⟩;unfold vF at h0⊢
  by_cases hin:r*sz+off<=o∧o<r*sz+off+vs.length
  ·have:=World.cell?_setCells_in m.block vs (m.base+r*sz+off) w hsome (o - (r*sz+off)) (by omega);rw[show m.base+r*sz+off+(o - (r*sz+off))=m.base+o by omega]at this;rw[this];rfl
  ·rw[World.cell?_setCells_out]
   ·exact h0.1
   ·intro _ _;simp;omega
theorem qru[Lent](h:Wld C μ H w){t:TypeId}{ti:TI}(ht:tiOf P t=some ti){p x:AV}{pv xv:Value}(hp:Rep C μ p pv)(hx:Rep C μ x xv)(he:qcq ti.sz H p x=some H'):
  ∃a w',pv= .pointer (some a)∧(storeVar t a xv).run P w= .ok () w'∧Wld C μ H' w'∧(∀k,k<=H.length->Ext k C μ H w C μ H' w'):=by
 unfold qcq at he;split at he
 ·rename_i id r off cs hcs;split at he
  ·rename_i d sz rs hi;split at he
   ·rename_i row hr;split at he
    ·rename_i hc;simp only[qFJ,beq_iff_eq,qGj]at hc;cases he;obtain⟨m,hm,hlt,hcl,hsz,hle,hrows,hcells⟩:=h.liveX hi rfl (qjJ hr);cases hp with
     |ptr _ _ _ m' hm'=>
      rw[hm]at hm';cases hm';obtain⟨vs,e1,e2,e3,e4⟩:=hx.cells hcs;have hw:=qtM (d:=d&&qK 0 cs) (w:=w) (cs:=cs) (vs:=vs) (off:=off) hsz hle hrows hcells hr (by omega) e2 e4;rw[hc.1]at hw;obtain⟨g1,g2,g3,g4,g5⟩:=zL m.block vs (m.base+r*sz+off) w;have hrl:r<rs.length:=(qFF.1 hr).1;have hlen:=(hrows r row hr).1;have hmul:r*sz+sz<=rs.length*sz:=by
       have:(r+1)*sz<=rs.length*sz:=qGe _ hrl;rw[Nat.add_mul]at this;omega
      have hcell:∀j,j<vs.length->(w.cell? ⟨m.block,m.base+r*sz+off+0+j,none⟩).isSome=true∧w.frozen? ⟨m.block,m.base+r*sz+off+0+j,none⟩=false:=by
       intro j hj;have:=hcells (r*sz+off+j) (by omega);unfold vF at this
       rwa [show m.base+(r*sz+off+j)=m.base+r*sz+off+0+j by omega]at this
      have hrun:=run_storeCells_cells (P:=P) m.block (m.base+r*sz+off) vs 0 w (λj hj=>(hcell j hj).1) (λj hj=>(hcell j hj).2) e3;refine⟨_,w.setCells m.block (m.base+r*sz+off) vs,rfl,?_,h.setBlk hi rfl rfl hm g1 g2 hw ?_,λk hk=>Ext.setBlk h hi rfl hm g1 g2 g3 g4 g5 hk⟩;simp only[storeVar,Sem.run_bind,qS ht,Result.andThen_ok,e1];rw[qGr (by simp;omega)];rw[←hsz]
      simpa using hrun
      ·intro hd;rw[qFJ]at hd;have hfree:=h.free.get hi hd.1;exact qrI hfree (qjU (qjU (qpO (zV hfree hr)) hd.2) (qpP (zV hfree hr)))
    ·cases he
   ·cases he
  ·cases he
 ·rename_i id cs off cs' hcs;split at he
  case h_2=>cases he
  rename_i hi;cases hp with
  |rpt _ _ _ b o vals m hm hc hr=>
  have hspl:zR m.D w:=(h.liveM hi rfl hm).2.2;have hset:H.set id .spl=H:=by
   apply List.ext_getElem?;intro i;rw[qF1];split
   ·rename_i he;subst he;rw[qGq (qFF.1 hi).1,hi]
   ·rfl
  have fin:∀(vs:List Value),xv.cells=vs.toArray->vs.length=ti.sz->(∀x∈vs,x.oneCell'=true)->(∀j,j<vs.length->∃u,m.D b (o+off+j)=some u)->0<vs.length->zR m.D (w.setCells b (o+off) vs)->H'=H ->
    ∃(a:Addr) (w':World),Value.pointer (some ⟨b,o+off,none⟩)= .pointer (some a)∧(storeVar t a xv).run P w= .ok () w'∧Wld C μ H' w'∧∀k,k<=H.length->Ext k C μ H w C μ H' w':=by
   intro vs e1 hl e3 hD hpos hspl' hH;subst hH;obtain⟨g1,g2,g3,g4,g5⟩:=zL b vs (o+off) w;have hmb:m.has b:=.inr ⟨o+off+0,by obtain⟨u,hu⟩:=hD 0 hpos;rw[hu];simp⟩;have hw':=h.setBlkH (w':=w.setCells b (o+off) vs) (blk':=.spl) hi rfl rfl hm g1 (λb' hb'=>g2 b' λe=>hb' (e▸hmb)) hspl';rw[hset]at hw';have hq:∀j,j<vs.length->w.frozen? ⟨b,o+off+j,none⟩=false∧(w.cell? ⟨b,o+off+j,none⟩).isSome=true:=λj hj=>by obtain⟨u,hu⟩:=hD j hj;exact hspl.1 _ _ _ hu
   have hrun:=run_storeCells_cells (P:=P) b (o+off) vs 0 w (λj hj=>by simpa using (hq j hj).2) (λj hj=>by simpa using (hq j hj).1) e3;refine⟨_,w.setCells b (o+off) vs,rfl,?_,hw',λk hk=>⟨g3,g4,g5,by rw[g1];exact qFH _,λ_ _ _ h=>h,λ_ _ _ h=>⟨_,h,.refl _⟩,λb' _ hnl=>⟨g2 b' (λe=>hnl ⟨id,.spl,m,hi,rfl,hm,e▸hmb⟩),hnl,rfl⟩,hk⟩⟩;simp only[storeVar,Sem.run_bind,qS ht,Result.andThen_ok,e1];rw[qGr (by simp;omega)]
   simpa using hrun
  split at he
  ·rename_i hc0;simp only[qFJ]at hc0;obtain⟨⟨hsz,htr⟩,h77⟩:=hc0;replace hsz:=qFO hsz;replace hx:=qyJ h77 hx;have hrow:=qgc (vals:=λj=>vals (off+j)) (b:=b) (o:=o+off) (D:=m.D) htr (λj x hj=>by
     obtain⟨_,hx⟩:=vp hj;rw[Nat.add_assoc];exact hc _ x hx) (λj x hj=>by
     obtain⟨_,hx⟩:=vp hj;exact hr _ x hx)
   obtain⟨vs,e1,e2,e3,e4⟩:=hx.cells (cs:=qiQ) rfl;obtain⟨v3,hv3,hvs⟩:∃v3,Rep0 (λ_ _=>none) (.sl []) v3∧vs=[.int .i64 77,.int .i64 0,.string ⟨#[]⟩,v3]:=by
    match vs,e2,e4 with
    |[v0,v1,v2,v3],_,e4=>
     have r0:=(e4 0 _ _ rfl rfl).2;have r1:=(e4 1 _ _ rfl rfl).2;have r2:=(e4 2 _ _ rfl rfl).2;have r3:=(e4 3 _ _ rfl rfl).2;cases r0;cases r1;cases r2;exact⟨v3,r3.toEmp,rfl⟩
   subst hvs;have hD:∀j,j<[Value.int .i64 77,.int .i64 0,.string ⟨#[]⟩,v3].length->∃u,m.D b (o+off+j)=some u:=by
    obtain⟨⟨k,a0⟩,⟨n,a1⟩,⟨s,a2⟩,x,l,c,a3⟩:=hrow;intro j hj;rcases j with _|_|_|_|j
    ·exact⟨_,a0⟩
    ·exact⟨_,a1⟩
    ·exact⟨_,a2⟩
    ·exact⟨_,a3⟩
    ·simp at hj;omega
   refine fin _ e1 (by simpa using hsz.symm) e3 hD (by simp) ?_ (by cases he;rfl);refine hspl.store hD (λo2 hrow2=>?_) (λo2 hp hs=>?_)
   ·rcases hrow.apart hrow2 with he|he|he
    ·exact .inr (.inr ⟨0,77,v3,he.symm,.inl rfl,rfl,rfl,rfl,rfl,hv3⟩)
    ·exact .inr (.inl (by simpa using he))
    ·exact .inl he
   ·obtain⟨⟨k,a0⟩,⟨n,a1⟩,⟨s,a2⟩,x,l,c,a3⟩:=hrow;obtain⟨x',l',c',hs⟩:=hs;have len4:[Value.int .i64 77,.int .i64 0,.string ⟨#[]⟩,v3].length=4:=rfl;rw[len4];apply Classical.byContradiction;intro hn;obtain⟨j,hj,hlt⟩:∃j,o2+1=o+off+j∧j<4:=⟨o2+1 - (o+off),by omega,by omega⟩;rw[hj]at hs;rcases j with _|_|_|_|j
    ·rw[Nat.add_zero,a0]at hs;cases hs
    ·rw[a1]at hs;cases hs
    ·rw[a2]at hs;cases hs
    ·obtain rfl:o2=o+off+2:=by omega
     rcases hp with⟨k',n',e⟩|⟨t',e⟩<;>(rw[a2]at e;cases e)
    ·omega
  ·split at he
   case isFalse=>cases he
   rename_i hc0;simp only[qFJ]at hc0;obtain⟨⟨hsz,htr⟩,h99⟩:=hc0;replace hsz:=qFO hsz;obtain⟨v3,e1,hv3⟩:=qoI h99 hx;obtain⟨x0,x1,x2,x3,x4,x5,x6,hcs7⟩:=qwN htr;have cell:∀(j:Nat) a,(cs.drop off)[j]? =some a->m.D b (o+off+j)=some (vals (off+j))∧Rep0 m.D a (vals (off+j)):=λj a hj=>by
    rw[List.getElem?_drop]at hj;exact⟨by rw[Nat.add_assoc];exact hc _ _ hj,hr _ _ hj⟩
   rw[hcs7]at cell;obtain⟨a0,r0⟩:=cell 0 _ rfl;obtain⟨a1,r1⟩:=cell 1 _ rfl;obtain⟨a2,r2⟩:=cell 2 _ rfl;obtain⟨a3,r3⟩:=cell 3 _ rfl;obtain⟨a4,r4⟩:=cell 4 _ rfl;obtain⟨a5,r5⟩:=cell 5 _ rfl;obtain⟨a6,r6⟩:=cell 6 _ rfl;clear cell;have len7:[Value.int .i64 99,.int .i64 0,.int .i64 0,.int .i64 0,.int .i64 0,.string ⟨#[]⟩,v3].length=7:=rfl;have hD:∀j,j<[Value.int .i64 99,.int .i64 0,.int .i64 0,.int .i64 0,.int .i64 0,.string ⟨#[]⟩,v3].length->∃u,m.D b (o+off+j)=some u:=by
    rw[len7];intro j hj;rcases j with _|_|_|_|_|_|_|j
    ·exact⟨_,a0⟩
    ·exact⟨_,a1⟩
    ·exact⟨_,a2⟩
    ·exact⟨_,a3⟩
    ·exact⟨_,a4⟩
    ·exact⟨_,a5⟩
    ·exact⟨_,a6⟩
    ·omega
   generalize vals (off+0)=u0 at a0 r0;generalize vals (off+1)=u1 at a1 r1;generalize vals (off+2)=u2 at a2 r2;generalize vals (off+3)=u3 at a3 r3;generalize vals (off+4)=u4 at a4 r4;generalize vals (off+5)=u5 at a5 r5;generalize vals (off+6)=u6 at a6 r6;cases r0;cases r1;cases r2;cases r3;cases r4;cases r5;rw[Nat.add_zero]at a0;obtain⟨y6,l6,c6,rfl⟩:∃x l c,u6= .slice x l c:=by cases r6<;>exact⟨_,_,_,rfl⟩
   have e3:∀x∈[Value.int .i64 99,.int .i64 0,.int .i64 0,.int .i64 0,.int .i64 0,.string ⟨#[]⟩,v3],x.oneCell'=true:=by
    intro x hx;simp only[qF6,List.not_mem_nil,or_false]at hx;rcases hx with rfl|rfl|rfl|rfl|rfl|rfl|rfl
    all_goals first|rfl|exact hv3.oneCell
   refine fin _ e1 (by rw[len7];exact hsz.symm) e3 hD (by simp) ?_ (by cases he;rfl);refine hspl.store hD (λo2 hrow2=>?_) (λo2 hp hs=>?_)
   ·rw[len7];obtain⟨⟨k,b0⟩,⟨n,b1⟩,⟨s,b2⟩,x,l,c,b3⟩:=hrow2
    by_cases h1:o2+4<=o+off
    ·exact .inl h1
    by_cases h2:o+off+7<=o2
    ·exact .inr (.inl h2)
    refine .inr (.inr ?_)
    by_cases h3:o2<o+off
    ·exfalso;obtain⟨d,hd,hd1⟩:∃d,o+off=o2+d∧(d=1∨d=2∨d=3):=⟨o+off - o2,by omega,by omega⟩;rw[hd]at a0 a1;rcases hd1 with rfl|rfl|rfl
     ·rw[show o2+1+1=o2+2 by omega,b2]at a1;cases a1
     ·rw[b2]at a0;cases a0
     ·rw[b3]at a0;cases a0
    ·obtain⟨d,rfl,hd⟩:∃d,o2=o+off+d∧d<7:=⟨o2 - (o+off),by omega,by omega⟩;rcases d with _|_|_|_|_|_|_|d
     ·rw[Nat.add_zero,a2]at b2;cases b2
     ·rw[show o+off+1+2=o+off+3 by omega,a3]at b2;cases b2
     ·rw[show o+off+2+2=o+off+4 by omega,a4]at b2;cases b2
     ·exact⟨3,0,v3,rfl,.inr rfl,rfl,rfl,rfl,rfl,hv3⟩
     ·rw[show o+off+4+1=o+off+5 by omega,a5]at b1;cases b1
     ·rw[a5]at b0;cases b0
     ·rw[a6]at b0;cases b0
     ·omega
   ·rw[len7];obtain⟨x',l',c',hs⟩:=hs;apply Classical.byContradiction;intro hn;obtain⟨j,hj,hlt⟩:∃j,o2+1=o+off+j∧j<7:=⟨o2+1 - (o+off),by omega,by omega⟩;rw[hj]at hs;rcases j with _|_|_|_|_|_|_|j
    ·rw[Nat.add_zero,a0]at hs;cases hs
    ·rw[a1]at hs;cases hs
    ·rw[a2]at hs;cases hs
    ·rw[a3]at hs;cases hs
    ·rw[a4]at hs;cases hs
    ·rw[a5]at hs;cases hs
    ·obtain rfl:o2=o+off+5:=by omega
     rcases hp with⟨k',n',e⟩|⟨t',e⟩<;>(rw[a5]at e;cases e)
    ·omega
 ·cases he
theorem qmN[Lent](h:Wld C μ H w){nid:Option Nat}{k:Nat}{b:ABlk}(hn:aNew nid H b=some (k,H')):μ k=none:=by
 unfold aNew at hn;cases nid with
 |none=>
  simp only[Option.some.injEq,Prod.mk.injEq]at hn;cases hk:μ k with
  |none=>rfl
  |some m=>have:=h.dom _ _ hk;omega
 |some k'=>
  simp only at hn;split at hn
  ·rename_i hk;simp only[Option.some.injEq,Prod.mk.injEq]at hn;rw[←hn.1];exact h.res _ hk
  ·cases hn
structure Grew (w w':World) (c:Array Value) (e:TypeId):Prop where
 os:w'.os=w.os
 tape:w'.tape=w.tape
 output:w'.output=w.output
 size:w'.heap.size=w.heap.size+1
 old:∀b,b<w.heap.size->w'.heap[b]? =w.heap[b]?
 new:∃fz:Nat×Nat,w'.heap[w.heap.size]? =some (.cells c e fz)∧∀o,o<c.size->¬(fz.1<=o∧o<fz.2)
theorem Grew.alloc(w:World)(c:Array Value)(e:TypeId):Grew w (w.alloc (.cells c e)) c e:=
 ⟨rfl,rfl,rfl,by simp,λb hb=>by
  show(w.heap.push _)[b]? =_;rw[Array.getElem?_push,qGr (by omega)],⟨(0,0),by
  show(w.heap.push _)[w.heap.size]? =_;simp,λo _ h=>by simp at h⟩⟩
theorem Grew.drew{w w':World}{c:Array Value}{e:TypeId}(h:Grew w.drew w' c e):Grew w w' c e:=⟨h.os,h.tape,h.output,h.size,h.old,h.new⟩
theorem Wld.lent_none[Lent](h:Wld C μ H w){b:Nat}(hb:w.heap.size<=b):Lent.fr b:=⟨λo=>by
 cases hc:Lent.l b o with
 |none=>rfl
 |some v=>
  have:b<w.heap.size:=World.block_lt_of_cell? w ⟨b,o,none⟩ (h.lnt.1 b o v hc).1;omega,h.lnt.2.2 b hb⟩
theorem Wld.new4[Lent](h:Wld C μ H w){nid:Option Nat}{k:Nat}{blk:ABlk}{B b0 n0 z0:Nat}(hn:aNew nid H blk=some (k,H'))(hl:¬Live H μ B)(hm:B<w.heap.size)(hc:∀o,C B o=none)(hcl:Lent.fr B)(hb:blk.live=true)(hr:xr C (upd μ k (MI.mk4 B b0 n0 z0)) w (MI.mk4 B b0 n0 z0) blk)(hfr:blk.Free:=by trivial):
  Wld C (upd μ k (MI.mk4 B b0 n0 z0)) H' w∧(∀id m',μ id=some m'->upd μ k (MI.mk4 B b0 n0 z0) id=some m')∧H.length<=H'.length∧(∀b,Live H' (upd μ k (MI.mk4 B b0 n0 z0)) b->Live H μ b∨b=B)∧H'[k]? =some blk:=by
 obtain⟨e1,e2,e3,e4,e5⟩:=h.new hn (m:=MI.mk4 B b0 n0 z0) (λb hb=>MI.has_mk4 hb▸hl) (λb hb=>MI.has_mk4 hb▸hm) (λb hb=>MI.has_mk4 hb▸hc) (λb hb=>MI.has_mk4 hb▸hcl) hb hr hfr;exact⟨e1,e2,e3,λb hb=>(e4 b hb).imp id MI.has_mk4,e5⟩
theorem qdm[Lent](h:Wld C μ H w){nid:Option Nat}{k sz:Nat}{d:Bool}{rs:List (List AV)}{c:Array Value}{e:TypeId}(hg:Grew w w' c e)(hn:aNew nid H (.rows d sz rs)=some (k,H'))(hle:rs.length*sz<=c.size)(hr:∀(i:Nat) row,rs[i]? =some row->row.length=sz∧∀(j:Nat) x,row[j]? =some x->x.isCell=true∧∃v,c[i*sz+j]? =some v∧Rep C μ x v)(hfr:d=true->qQ 0 rs=true):
  Wld C (upd μ k (MI.mk4 w.heap.size 0 c.size sz)) H' w'∧(∀j,j<=H.length->Ext j C μ H w C (upd μ k (MI.mk4 w.heap.size 0 c.size sz)) H' w') ∧
   (∀id m,μ id=some m->upd μ k (MI.mk4 w.heap.size 0 c.size sz) id=some m):=by
 have hnl:¬Live H μ w.heap.size:=λhl=>Nat.lt_irrefl _ (h.live_lt hl)
 have hnc:∀o,C w.heap.size o=none:=λo=>by
  cases hc:C w.heap.size o with
  |none=>rfl
  |some v=>exact absurd (h.block_lt hc) (Nat.lt_irrefl _)
 have hfresh:=qmN h hn;have hmu:∀id m,μ id=some m->upd μ k (MI.mk4 w.heap.size 0 c.size sz) id=some m:=by
  intro id m hid;unfold upd;split
  ·rename_i he;subst he;rw[hfresh]at hid;cases hid
  ·exact hid
 obtain⟨fz,hnew,hfz⟩:=hg.new;have hb:xr C (upd μ k (MI.mk4 w.heap.size 0 c.size sz)) w' (MI.mk4 w.heap.size 0 c.size sz) (.rows d sz rs):=by
  refine⟨rfl,hle,λi row hi=>⟨(hr i row hi).1,λj x hj=>?_⟩,λo ho=>⟨?_,?_⟩⟩
  ·obtain⟨e1,v,e2,e3⟩:=(hr i row hi).2 j x hj;exact⟨e1,v,by simpa [vF,World.cell?,hnew]using e2,e3.mono (λ_ _ _ h=>h) hmu⟩
  ·have ho':o<c.size:=ho;simp[vF,World.cell?,hnew,ho']
  ·have:=hfz o ho;simp only[World.frozen?,hnew,qGi]
   simpa using this
 have hw':Wld C μ H w':=h.world (by rw[hg.size];omega) (λb hb=>hg.old b hb);obtain⟨e1,e2,e3,e4,e5⟩:=hw'.new4 hn hnl (by rw[hg.size];simp) hnc (h.lent_none (qFH _)) rfl hb hfr;refine⟨e1,λj hj=>⟨hg.os,hg.tape,hg.output,by rw[hg.size];omega,λ_ _ _ h=>h,λid m' _ hm'=>⟨_,e2 id m' hm',.refl _⟩,λb hb hnl=>⟨hg.old b hb,λhl=>?_,rfl⟩,Nat.le_trans hj e3⟩,hmu⟩;rcases e4 b hl with hl|hl
 ·exact hnl hl
 ·omega
theorem Ext.kill(k:Nat)(hk:k<=H.length)(id:Nat):Ext k C μ H w C μ (H.set id .dead) w:=
 ⟨rfl,rfl,rfl,qFH _,λ_ _ _ h=>h,λ_ _ _ h=>⟨_,h,.refl _⟩,λb _ hnl=>⟨rfl,λhl=>hnl hl.of_kill.1,rfl⟩,by simpa using hk⟩
variable {C C' : qk} {μ μ' : MMap} {H H' : AH} {w w' : World} {P : Program}
structure CfgTy (cfg:Cfg):Prop where
 ty:∀t ti,cfg.ty t=some ti->tiOf cfg.P t=some ti
theorem CfgTy.sz{cfg:Cfg}(h:CfgTy cfg){t:TypeId}{n:Nat}(hs:cfg.sz t=some n):∃ti,tiOf cfg.P t=some ti∧ti.sz=n:=by
 unfold Cfg.sz at hs;split at hs
 ·rename_i ti hti;cases hs;exact⟨ti,h.ty _ _ hti,rfl⟩
 ·cases hs
theorem CfgTy.td{cfg:Cfg}(h:CfgTy cfg){t:TypeId}{d:TD}(hs:cfg.td t=some d):∃ti u,tiOf cfg.P t=some ti∧ti.d=d∧cfg.P.underlying t=some u∧tdOf u=d:=by
 unfold Cfg.td at hs;split at hs
 ·rename_i ti hti;cases hs;have h1:=h.ty _ _ hti;obtain⟨i,u,z,e1,e2,e3,e4⟩:=z4 h1;exact⟨ti,u,h1,rfl,e2,by rw[e4]⟩
 ·cases hs
theorem qcA[Lent]{s:Sem Value}{a:AV}(h:qJ s=some a):∃v,s= .pure v∧Rep C μ a v:=by
 unfold qJ at h;split at h
 ·cases h;exact⟨_,rfl,.int _ _⟩
 ·cases h;exact⟨_,rfl,.bool _⟩
 ·cases h
theorem qvr[Lent]{op:BinOp}{a b:List UInt8}{r:AV}(h:aStr op a b=some r)(t:TypeId):∃v,(binOp op t (.string ⟨a.toArray⟩) (.string ⟨b.toArray⟩)).run P w= .ok v w∧Rep C μ r v:=by
 have ta:(⟨a.toArray⟩:ByteArray).toList=a:=by rw[ByteArray.toList_eq]
 have tb:(⟨b.toArray⟩:ByteArray).toList=b:=by rw[ByteArray.toList_eq]
 unfold aStr at h;split at h
 ·cases hle:qFR (a.length+b.length) 9223372036854775807 with
  |true=>
   rw[hle]at h;cases h;rw[qGj]at hle;refine⟨.string (⟨a.toArray⟩++⟨b.toArray⟩),?_,?_⟩
   ·have:¬(((⟨a.toArray⟩:ByteArray).size+(⟨b.toArray⟩:ByteArray).size:Nat):Int)>IntKind.i64.max:=by
     simp[ByteArray.size];omega
    simp only[binOp,Op.stringOp];rw[qGr this];rfl
   ·have e:(⟨a.toArray⟩++⟨b.toArray⟩:ByteArray)=⟨(a++b).toArray⟩:=by
     apply ByteArray.ext;simp[ByteArray.data_append]
    rw[e];exact .str _
  |false=>rw[hle]at h;cases h
 all_goals first
  |(cases h;refine⟨_,?_,.bool _⟩;simp[binOp,Op.stringOp,ta,tb])
  |cases h
theorem qax[Lent]{d:TD}{x:AV}{b:Bool}{vx:Value}(h:x.isNil d=some b)(hx:Rep C μ x vx):
  (∃e,d= .slice e∧∃a n c,vx= .slice a n c∧a.isNone=b)∨(∃e,d= .ptr e∧∃a,vx= .pointer a∧a.isNone=b)∨(∃k e,d= .map k e∧∃a,vx= .map a∧a.isNone=b) ∨
  (d= .func∧((b=true∧vx= .nilFunc)∨(b=false∧∃f x y,vx= .func f x y)))∨(d= .iface∧((b=true∧vx= .nilIface)∨(b=false∧∃t x,vx= .iface t x))):=by
 unfold AV.isNil at h;split at h<;>first
  |cases h
  |skip
 all_goals cases hx
 all_goals first
  |exact .inl ⟨_,rfl,_,_,_,rfl,rfl⟩
  |exact .inr (.inl ⟨_,rfl,_,rfl,rfl⟩)
  |exact .inr (.inr (.inl ⟨_,_,rfl,_,rfl,rfl⟩))
  |exact .inr (.inr (.inr (.inl ⟨rfl,.inl ⟨rfl,rfl⟩⟩)))
  |exact .inr (.inr (.inr (.inl ⟨rfl,.inr ⟨rfl,_,_,_,rfl⟩⟩)))
  |exact .inr (.inr (.inr (.inr ⟨rfl,.inl ⟨rfl,rfl⟩⟩)))
  |exact .inr (.inr (.inr (.inr ⟨rfl,.inr ⟨rfl,_,_,rfl⟩⟩)))
theorem qu4{t e:TypeId}(hu:P.underlying t=some (.slice e))(d:Nat)(a b:Option Addr)(n c n' c':Nat)(h:a.isNone=true∨b.isNone=true)(w:World):
  (Op.equalIn (d+1) t (.slice a n c) (.slice b n' c')).run P w= .ok (a.isNone&&b.isNone) w:=by
 cases a<;>cases b<;>simp at h<;>simp[Op.equalIn,run_underlying hu]
theorem qyV{t e:TypeId}(hu:P.underlying t=some (.pointer e))(d:Nat)(a b:Option Addr)(h:a.isNone=true∨b.isNone=true)(w:World):
  (Op.equalIn (d+1) t (.pointer a) (.pointer b)).run P w= .ok (a.isNone&&b.isNone) w:=by
 cases a<;>cases b<;>simp at h<;>simp[Op.equalIn,run_underlying hu]
theorem qyW{t k e:TypeId}(hu:P.underlying t=some (.map k e))(d:Nat)(a b:Option Nat)(h:a.isNone=true∨b.isNone=true)(w:World):
  (Op.equalIn (d+1) t (.map a) (.map b)).run P w= .ok (a.isNone&&b.isNone) w:=by
 cases a<;>cases b<;>simp at h<;>simp[Op.equalIn,run_underlying hu]
theorem qwY{t:TypeId}{x y:Array TypeId}{z:Bool}(hu:P.underlying t=some (.func x y z))(d:Nat)(w:World):
  (Op.equalIn (d+1) t .nilFunc .nilFunc).run P w= .ok true w∧(∀f a b,(Op.equalIn (d+1) t .nilFunc (.func f a b)).run P w= .ok false w)∧(∀f a b,(Op.equalIn (d+1) t (.func f a b) .nilFunc).run P w= .ok false w):=
 ⟨by simp[Op.equalIn,run_underlying hu],λf a b=>by simp[Op.equalIn,run_underlying hu],λf a b=>by simp[Op.equalIn,run_underlying hu]⟩
theorem qu5{t:TypeId}{ms:Array (String×TypeId)}(hu:P.underlying t=some (.interface ms))(d:Nat)(w:World):
  (Op.equalIn (d+1) t .nilIface .nilIface).run P w= .ok true w∧(∀f a,(Op.equalIn (d+1) t .nilIface (.iface f a)).run P w= .ok false w)∧(∀f a,(Op.equalIn (d+1) t (.iface f a) .nilIface).run P w= .ok false w):=
 ⟨by simp[Op.equalIn,run_underlying hu],λf a=>by simp[Op.equalIn,run_underlying hu],λf a=>by simp[Op.equalIn,run_underlying hu]⟩
theorem qxT{u:TypeDesc}(h:tdOf u= .iface):∃m,u= .interface m:=by
 cases u<;>first
  |(simp[tdOf]at h;done)
  |exact⟨_,rfl⟩
theorem qh5[Lent]{d:TD}{x y:AV}{b:Bool}{vx vy:Value}{t:TypeId}{u:TypeDesc}(hu:P.underlying t=some u)(hd:tdOf u=d)(o1 o2:Operand)(h:qmM (litN o1 o2) d x y=some b)(hx:Rep C μ x vx)(hy:Rep C μ y vy)(op:BinOp):
  (Op.equal t vx vy).run P w= .ok b w∧eqGuard op t o1 o2 vx vy=pure ()∧(op= .eql->binOp op t vx vy=(do pure (.bool (←Op.equal t vx vy))))∧(op= .neq->binOp op t vx vy=(do pure (.bool (!(←Op.equal t vx vy))))):=by
 unfold qmM at h;have key:∃bx by',x.isNil d=some bx∧y.isNil d=some by'∧b=(bx&&by')∧(bx=true∨by'=true)∧(bx=true->by'=true->litN o1 o2=true∨d.isIface=false):=by
  split at h
  ·rename_i b' h1 h2;split at h
   ·rename_i hl;cases h;refine⟨_,_,h1,h2,by simp,.inl rfl,λ_ e=>?_⟩;subst e
    simpa using hl
   ·cases h
  ·rename_i h1 h2;cases h;exact⟨_,_,h1,h2,rfl,.inr rfl,λe=>by cases e⟩
  ·cases h
 obtain⟨bx,by',h1,h2,rfl,hb,hlit⟩:=key;subst hd;have he:∀x y,Op.equal t x y=Op.equalIn (9999+1) t x y:=λ_ _=>rfl
 rcases qax h1 hx with⟨e,hd,a,n,c,rfl,ha⟩|⟨e,hd,a,rfl,ha⟩|⟨k,e,hd,a,rfl,ha⟩|⟨hd,ha⟩|⟨hd,ha⟩
 ·rcases qax h2 hy with⟨e',hd',a',n',c',rfl,ha'⟩|⟨e',hd',a',rfl,ha'⟩|⟨k',e',hd',a',rfl,ha'⟩|⟨hd',ha'⟩|⟨hd',ha'⟩
  ·have hu':=vG hd;subst hu';refine⟨?_,by cases op<;>rfl,λh=>by subst h;rfl,λh=>by subst h;rfl⟩;rw[he,qu4 hu _ _ _ _ _ _ _ (by rw[ha,ha'];exact hb),ha,ha']
  all_goals (rw[hd]at hd';cases hd')
 ·rcases qax h2 hy with⟨e',hd',a',n',c',rfl,ha'⟩|⟨e',hd',a',rfl,ha'⟩|⟨k',e',hd',a',rfl,ha'⟩|⟨hd',ha'⟩|⟨hd',ha'⟩
  ·rw[hd]at hd';cases hd'
  ·have hu':=qDn hd;subst hu';refine⟨?_,by cases op<;>rfl,λh=>by subst h;rfl,λh=>by subst h;rfl⟩;rw[he,qyV hu _ _ _ (by rw[ha,ha'];exact hb),ha,ha']
  all_goals (rw[hd]at hd';cases hd')
 ·rcases qax h2 hy with⟨e',hd',a',n',c',rfl,ha'⟩|⟨e',hd',a',rfl,ha'⟩|⟨k',e',hd',a',rfl,ha'⟩|⟨hd',ha'⟩|⟨hd',ha'⟩
  ·rw[hd]at hd';cases hd'
  ·rw[hd]at hd';cases hd'
  ·have hu':=qce hd;subst hu';refine⟨?_,by cases op<;>rfl,λh=>by subst h;rfl,λh=>by subst h;rfl⟩;rw[he,qyW hu _ _ _ (by rw[ha,ha'];exact hb),ha,ha']
  ·rw[hd]at hd';cases hd'
  ·rw[hd]at hd';cases hd'
 ·rcases qax h2 hy with⟨e',hd',a',n',c',rfl,ha'⟩|⟨e',hd',a',rfl,ha'⟩|⟨k',e',hd',a',rfl,ha'⟩|⟨hd',ha'⟩|⟨hd',ha'⟩
  ·rw[hd]at hd';cases hd'
  ·rw[hd]at hd';cases hd'
  ·rw[hd]at hd';cases hd'
  ·obtain⟨a,b',c,rfl⟩:=qAu hd;obtain⟨f1,f2,f3⟩:=qwY hu 9999 w;rcases ha with⟨rfl,rfl⟩|⟨rfl,f,x1,y1,rfl⟩<;>rcases ha' with⟨rfl,rfl⟩|⟨rfl,f',x2,y2,rfl⟩
   ·exact⟨by rw[he];exact f1,by cases op<;>cases o1<;>cases o2<;>rfl,λh=>by subst h;rfl,λh=>by subst h;rfl⟩
   ·exact⟨by rw[he];exact f2 _ _ _,by cases op<;>rfl,λh=>by subst h;rfl,λh=>by subst h;rfl⟩
   ·exact⟨by rw[he];exact f3 _ _ _,by cases op<;>rfl,λh=>by subst h;rfl,λh=>by subst h;rfl⟩
   ·simp at hb
  ·rw[hd]at hd';cases hd'
 ·rcases qax h2 hy with⟨e',hd',a',n',c',rfl,ha'⟩|⟨e',hd',a',rfl,ha'⟩|⟨k',e',hd',a',rfl,ha'⟩|⟨hd',ha'⟩|⟨hd',ha'⟩
  ·rw[hd]at hd';cases hd'
  ·rw[hd]at hd';cases hd'
  ·rw[hd]at hd';cases hd'
  ·rw[hd]at hd';cases hd'
  ·obtain⟨a,rfl⟩:=qxT hd;obtain⟨f1,f2,f3⟩:=qu5 hu 9999 w;rcases ha with⟨rfl,rfl⟩|⟨rfl,f,x1,rfl⟩<;>rcases ha' with⟨rfl,rfl⟩|⟨rfl,f',x2,rfl⟩
   ·refine⟨by rw[he];exact f1,?_,λh=>by subst h;rfl,λh=>by subst h;rfl⟩;rcases hlit rfl rfl with hl|hl
    ·cases op<;>cases o1<;>cases o2<;>first|rfl|(simp[litN]at hl)
    ·rw[hd]at hl;cases hl
   ·exact⟨by rw[he];exact f2 _ _,by cases op<;>rfl,λh=>by subst h;rfl,λh=>by subst h;rfl⟩
   ·exact⟨by rw[he];exact f3 _ _,by cases op<;>rfl,λh=>by subst h;rfl,λh=>by subst h;rfl⟩
   ·simp at hb
theorem qwX[Lent]{cfg:Cfg}(hc:CfgTy cfg){t:TypeId}{a b:AV}{r:Bool}(h:AV.eqS (cfg.td t) a b=some r){va vb:Value}(ha:Rep C μ a va)(hb:Rep C μ b vb):
  (∀d,(Op.equalIn (d+1) t va vb).run cfg.P w= .ok r w)∧∀(xs:Array Value) off v,xs[off]? =some v->(part t xs off).run cfg.P w= .ok v w:=by
 unfold AV.eqS at h;split at h
 ·rename_i kd k a k' b ht;obtain⟨ti,u,_,_,hu,hd⟩:=hc.td ht;have:∃kk,u= .int kk:=by cases u<;>simp[tdOf]at hd;exact⟨_,rfl⟩
  obtain⟨kk,rfl⟩:=this;cases ha;cases hb;split at h
  ·rename_i e;subst e;cases h;exact⟨λd=>by simp[Op.equalIn,run_underlying hu];rfl,λxs off v hx=>by simp[part,isAgg,run_underlying hu,hx]⟩
  ·cases h
 ·rename_i a b ht;obtain⟨ti,u,_,_,hu,hd⟩:=hc.td ht;have:=qm2 hd;subst this;cases ha;cases hb;cases h;exact⟨λd=>by simp[Op.equalIn,run_underlying hu],λxs off v hx=>by simp[part,isAgg,run_underlying hu,hx]⟩
 ·rename_i x y ht;obtain⟨ti,u,_,_,hu,hd⟩:=hc.td ht;have:u= .string:=by cases u<;>simp[tdOf]at hd;rfl
  subst this;cases ha;cases hb;cases h;have:((⟨x.toArray⟩:ByteArray)==⟨y.toArray⟩)=(x==y):=by
   rw[beq_toListBytes,ByteArray.toList_eq,ByteArray.toList_eq]
  exact⟨λd=>by simp[Op.equalIn,run_underlying hu,this],λxs off v hx=>by simp[part,isAgg,run_underlying hu,hx]⟩
 ·cases h
theorem qmr[Lent]{cfg:Cfg}(hc:CfgTy cfg){xs ys:Array Value}{d:Nat}:∀{fs:List Field} {i:Nat} {cs ds:List AV} {r:Bool},qmj cfg.P i fs=true→eqSL cfg (fs.map λf=>(f.offset,f.type)) cs ds=some r →
  (∀(j:Nat) a,cs[j]? =some a→∃v,xs[i+j]? =some v∧Rep C μ a v)→(∀(j:Nat) a,ds[j]? =some a→∃v,ys[i+j]? =some v∧Rep C μ a v)→(Op.eqFields (d+1) xs ys fs).run cfg.P w= .ok r w
 |[],i,cs,ds,r,hf,h,hx,hy=>by
  cases cs<;>cases ds<;>simp[eqSL]at h
  subst h;simp[Op.eqFields]
 |f::fs,i,cs,ds,r,hf,h,hx,hy=>by
  cases cs with
  |nil=>cases ds<;>simp[eqSL]at h
  |cons a l=>
   cases ds with
   |nil=>simp[eqSL]at h
   |cons b m=>
    rw[qmj,qFJ,qFJ,qFJ]at hf;obtain⟨⟨⟨h1,h2⟩,h3⟩,h4⟩:=hf;have h2:=qFO h2;simp only[List.map_cons,eqSL]at h;split at h
    case h_2=>cases h
    rename_i p q hp hq;cases h;obtain⟨va,e1,e2⟩:=hx 0 a rfl;obtain⟨vb,e3,e4⟩:=hy 0 b rfl;obtain⟨g1,g2⟩:=qwX (w:=w) hc hp e2 e4;have ih:=qmr (d:=d) hc h4 hq (λj a hj=>by
     obtain⟨v,z1,z2⟩:=hx (j+1) a (by simpa using hj);exact⟨v,by rw[show i+1+j=i+(j+1) by omega];exact z1,z2⟩) (λj a hj=>by
     obtain⟨v,z1,z2⟩:=hy (j+1) a (by simpa using hj);exact⟨v,by rw[show i+1+j=i+(j+1) by omega];exact z1,z2⟩)
    have hne:f.name≠ "_" :=by simpa using h1
    rw[Op.eqFields,qGq hne];simp only[Sem.run_bind,g2 xs f.offset va (by rw[h2];exact e1),g2 ys f.offset vb (by rw[h2];exact e3),g1 d,Result.andThen_ok];cases p with
    |true=>simpa using ih
    |false=>simp
theorem qmP[Lent]{cfg:Cfg}(hc:CfgTy cfg){t:TypeId}{cs ds:List AV}{r:Bool}(h:aEqS cfg t cs ds=some r){vx vy:Value}(hx:Rep C μ (.agg cs) vx)(hy:Rep C μ (.agg ds) vy)(op:BinOp)(o1 o2:Operand):
  (Op.equal t vx vy).run cfg.P w= .ok r w∧(eqGuard op t o1 o2 vx vy).run cfg.P w= .ok () w∧(binOp .eql t vx vy=(do pure (.bool (←Op.equal t vx vy))))∧(binOp .neq t vx vy=(do pure (.bool (!(←Op.equal t vx vy))))):=by
 unfold aEqS at h;split at h
 case h_2=>cases h
 rename_i ti hti;split at h
 case h_2=>cases h
 rename_i fs hfs;split at h
 case isFalse=>cases h
 rename_i heq;have hT:=hc.ty t ti hti;unfold tiOf at hT;split at hT
 case h_2=>cases hT
 rename_i i u hi hu;split at hT
 case h_2=>cases hT
 split at hT
 case isFalse=>cases hT
 cases hT;cases hx with
 |agg _ vs hl hv=>
 cases hy with
 |agg _ ws hl' hv'=>
 have hu':∃a,u= .struct a:=by cases u<;>simp[tdOf]at hfs;exact⟨_,rfl⟩
 obtain⟨a,rfl⟩:=hu';simp only[tdOf,TD.struct.injEq]at hfs;simp only[eqOf,qFJ,Bool.not_eq_true']at heq;obtain⟨⟨f1,f2⟩,f3⟩:=heq;have hfo:cfg.P.fieldsOf t=a:=by unfold Program.fieldsOf;rw[hu]
 subst hfs;have key:=qmr (w:=w) (xs:=vs.toArray) (ys:=ws.toArray) (d:=9998) hc f1 h (λj b hj=>by
  have hlt:j<vs.length:=by rw[←hl];exact(qFF.1 hj).1
  exact⟨vs[j],by simp[hlt],hv j b _ hj (qFE hlt)⟩) (λj b hj=>by
  have hlt:j<ws.length:=by rw[←hl'];exact(qFF.1 hj).1
  exact⟨ws[j],by simp[hlt],hv' j b _ hj (qFE hlt)⟩)
 refine⟨?_,?_,rfl,rfl⟩
 ·show(Op.equalIn (9999+1) t _ _).run cfg.P w=_;rw[run_equalIn_struct w 9999 t _ _ (by rw[hfo];exact hu) f2,hfo];exact key
 ·unfold eqGuard;cases op<;>simp[f3,run_program]
theorem qvv[Lent]{cfg:Cfg}(hc:CfgTy cfg){op:BinOp}{t:TypeId}{x y r:AV}{vx vy:Value}(o1 o2:Operand)(h:aBin cfg (litN o1 o2) op t x y=some r)(hx:Rep C μ x vx)(hy:Rep C μ y vy):
  ∃v,(do eqGuard op t o1 o2 vx vy;binOp op t vx vy:Sem Value).run cfg.P w= .ok v w∧Rep C μ r v:=by
 unfold aBin at h;split at h
 ·cases hx;cases hy;obtain⟨v,e1,e2⟩:=qcA (C:=C) (μ:=μ) h;refine⟨v,?_,e2⟩;rw[eqGuard_at_int,e1];rfl
 ·cases hx;cases hy;obtain⟨v,e1,e2⟩:=qvr (P:=cfg.P) (w:=w) (C:=C) (μ:=μ) h t;refine⟨v,?_,e2⟩;rw[eqGuard_at_string]
  simpa using e1
 ·cases hx;cases hy;rename_i a b;split at h
  ·rename_i ht;cases h;obtain⟨ti,u,_,_,hu,hd⟩:=hc.td ht;have:=qm2 hd;subst this;exact⟨_,by rw[eqGuard_at_bool];simp[run_eql_bool w t a b hu],.bool _⟩
  ·rename_i ht;cases h;obtain⟨ti,u,_,_,hu,hd⟩:=hc.td ht;have:=qm2 hd;subst this;exact⟨_,by rw[eqGuard_at_bool];simp[run_neq_bool w t a b hu],.bool _⟩
  ·cases h
 ·split at h
  ·obtain⟨b,hb,rfl⟩:=qFM.1 h;obtain⟨e1,e2,e3,_⟩:=qmP (w:=w) hc hb hx hy .eql o1 o2;exact⟨.bool b,by rw[Sem.run_bind,e2];simp only[Result.andThen_ok];rw[e3];simp[e1],.bool _⟩
  ·obtain⟨b,hb,rfl⟩:=qFM.1 h;obtain⟨e1,e2,_,e3⟩:=qmP (w:=w) hc hb hx hy .neq o1 o2;exact⟨.bool (!b),by rw[Sem.run_bind,e2];simp only[Result.andThen_ok];rw[e3];simp[e1],.bool _⟩
  ·cases h
 ·split at h
  ·rename_i d ht;obtain⟨b,hb,rfl⟩:=qFM.1 h;obtain⟨ti,u,_,_,hu,hd⟩:=hc.td ht;obtain⟨e1,e2,e3,_⟩:=qh5 (w:=w) hu hd o1 o2 hb hx hy .eql;exact⟨.bool b,by rw[e2,e3 rfl];simp[e1],.bool _⟩
  ·rename_i d ht;obtain⟨b,hb,rfl⟩:=qFM.1 h;obtain⟨ti,u,_,_,hu,hd⟩:=hc.td ht;obtain⟨e1,e2,_,e3⟩:=qh5 (w:=w) hu hd o1 o2 hb hx hy .neq;exact⟨.bool (!b),by rw[e2,e3 rfl];simp[e1],.bool _⟩
  ·cases h
theorem qxp[Lent]{op:UnOp}{x r:AV}{vx:Value}(h:aUn op x=some r)(hx:Rep C μ x vx):∃v,(Op.unary op vx).run P w= .ok v w∧Rep C μ r v:=by
 unfold aUn at h;split at h
 ·cases hx;obtain⟨v,e1,e2⟩:=qcA (C:=C) (μ:=μ) h;exact⟨v,by rw[e1];rfl,e2⟩
 ·cases hx;obtain⟨v,e1,e2⟩:=qcA (C:=C) (μ:=μ) h;exact⟨v,by rw[e1];rfl,e2⟩
 ·cases h
theorem qkj[Lent]{cfg:Cfg}(hc:CfgTy cfg){t:TypeId}{cs:List AV}{off:Nat}{r:AV}{vs:List Value}(h:qi7 cfg t cs off=some r)(hl:cs.length=vs.length)(hr:∀(i:Nat) a v,cs[i]? =some a->vs[i]? =some v->Rep C μ a v):∃v,(part t vs.toArray off).run cfg.P w= .ok v w∧Rep C μ r v:=by
 unfold qi7 at h;split at h
 ·rename_i ti hti;have ht:=hc.ty _ _ hti;simp only[part,Sem.run_bind,qnV ht,Result.andThen_ok];cases hagg:ti.d.agg with
  |true=>
   rw[hagg]at h;simp only[if_true]at h;split at h
   ·rename_i hle;rw[qGj]at hle;cases h;refine⟨.agg ((vs.drop off).take ti.sz).toArray,?_,.agg _ _ (by simp[hl]) (λi a v h1 h2=>?_)⟩
    ·simp[qS ht]
    ·obtain⟨_,h1⟩:=vp h1;obtain⟨_,h2⟩:=vp h2;exact hr _ a v h1 h2
   ·cases h
  |false=>
   rw[hagg]at h;simp only[qF5,if_false]at h;have hlt:off<vs.length:=by rw[←hl];exact(qFF.1 h).1
   refine⟨vs[off],by simp[hlt],hr off r _ h (qFE hlt)⟩
 ·cases h
theorem qrb[Lent]{cfg:Cfg}(hc:CfgTy cfg){t:TypeId}{x:AV}{f:Nat}{r:AV}{vx:Value}(h:qh8 cfg t x f=some r)(hx:Rep C μ x vx):∃v,(Instr.field t vx f).run cfg.P w= .ok v w∧Rep C μ r v:=by
 unfold qh8 at h;split at h
 ·rename_i fs cs ht;split at h
  ·rename_i off ft hf;cases hx with
   |agg _ vs hl hr=>
    obtain⟨ti,u,_,_,hu,hd⟩:=hc.td ht;obtain⟨flds,rfl,rfl⟩:=qhb hd;obtain⟨fl,hfl,he⟩:=qw hf;cases he;obtain⟨v,e1,e2⟩:=qkj hc (w:=w) h hl hr;have hfl':flds[f]? =some fl:=by simpa using hfl
    exact⟨v,by simp[Instr.field,run_underlying hu,hfl',asAgg,e1],e2⟩
  ·cases h
 ·cases h
theorem qra[Lent]{cfg:Cfg}(hc:CfgTy cfg){t:TypeId}{x i:AV}{r:AV}{vx vi:Value}(h:qh7 cfg t x i=some r)(hx:Rep C μ x vx)(hi:Rep C μ i vi):∃v,(Instr.index t vx vi).run cfg.P w= .ok v w∧Rep C μ r v:=by
 unfold qh7 at h;split at h
 ·rename_i n e cs k i ht;split at h
  ·rename_i sz hsz;split at h
   ·rename_i hb;cases hi;cases hx with
    |agg _ vs hl hr=>
     obtain⟨ti,u,_,_,hu,hd⟩:=hc.td ht;have:=qdb hd;subst this;obtain⟨te,hte,rfl⟩:=hc.sz hsz;obtain⟨v,e1,e2⟩:=qkj hc (w:=w) h hl hr;exact⟨v,by simp[Instr.index,asIntOf,run_underlying hu,hb,qS hte,e1],e2⟩
   ·cases h
  ·cases h
 ·rename_i s k i ht;split at h
  ·rename_i hb;split at h
   ·rename_i b hs;cases h;cases hi;cases hx;obtain⟨ti,u,_,_,hu,hd⟩:=hc.td ht;have:=qeM hd;subst this;refine⟨.int .u8 b.toNat,?_,.int _ _⟩;have hlt:i.toNat<s.length:=(qFF.1 hs).1;have hg:(⟨s.toArray⟩:ByteArray)[i.toNat]? =some b:=by
     rw[getElem?_pos _ _ (by simpa [ByteArray.size]using hlt)];rw[qFE hlt]at hs
     simpa [ByteArray.getElem_eq_getElem_data]using hs
    simp[Instr.index,asIntOf,run_underlying hu,hb,hg]
   ·cases h
  ·cases h
 ·cases h
theorem qkQ[Lent]{cfg:Cfg}(hc:CfgTy cfg){t:TypeId}{x:AV}{f:Nat}{r:AV}{vx:Value}(h:qbx cfg t x f=some r)(hx:Rep C μ x vx):∃v,(Instr.fieldAt t vx f).run cfg.P w= .ok v w∧Rep C μ r v:=by
 unfold qbx at h;split at h
 ·rename_i fs ht;split at h
  ·rename_i o ft hf;obtain⟨ti,u,_,_,hu,hd⟩:=hc.td ht;obtain⟨flds,rfl,rfl⟩:=qhb hd;obtain⟨fl,hfl,he⟩:=qw hf;cases he;have hfl':flds[f]? =some fl:=by simpa using hfl
   split at h
   ·rename_i n id r' off hsz;cases h;cases hx with
    |ptr _ _ _ m hm=>
     obtain⟨te,hte,he⟩:=hc.sz hsz;have hne:¬te.sz=0:=by omega
     refine⟨.pointer (some ⟨m.block,m.base+r'*m.sz+(off+fl.offset),none⟩),?_,.ptr id r' _ m hm⟩;simp[Instr.fieldAt,run_underlying hu,hfl',Instr.sureAddr,fieldPlace,qS hte,hne,y4,Nat.add_assoc]
   ·rename_i n cs off hsz;cases h;cases hx with
    |cptr _ _ b o' vals h1 h2=>
     obtain⟨te,hte,he⟩:=hc.sz hsz;have hne:¬te.sz=0:=by omega
     refine⟨.pointer (some ⟨b,o'+(off+fl.offset),none⟩),?_,.cptr cs _ b o' vals h1 h2⟩;simp[Instr.fieldAt,run_underlying hu,hfl',Instr.sureAddr,fieldPlace,qS hte,hne,y4,Nat.add_assoc]
   ·rename_i n id cs off hsz;cases h;cases hx with
    |rpt _ _ _ b o' vals m hm h1 h2=>
     obtain⟨te,hte,he⟩:=hc.sz hsz;have hne:¬te.sz=0:=by omega
     refine⟨.pointer (some ⟨b,o'+(off+fl.offset),none⟩),?_,.rpt id cs _ b o' vals m hm h1 h2⟩;simp[Instr.fieldAt,run_underlying hu,hfl',Instr.sureAddr,fieldPlace,qS hte,hne,y4,Nat.add_assoc]
   ·cases h
  ·cases h
 ·cases h
theorem qkP[Lent]{cfg:Cfg}(hc:CfgTy cfg)(h:Wld C μ H w){t:TypeId}{x i:AV}{r:AV}{vx vi:Value}(he:zg cfg t H x i=some r)(hx:Rep C μ x vx)(hi:Rep C μ i vi):
  ∃v,(Instr.indexAt t vx vi).run cfg.P w= .ok v w∧Rep C μ r v:=by
 unfold zg at he;split at he
 ·-- an owned slice
  rename_i e id off len k i ht;split at he
  ·rename_i n sz rs hsz hb;split at he
   ·rename_i hcond;cases he;cases hi;obtain⟨hsn,h0,h1⟩:=hcond;obtain⟨ti,u,_,_,hu,hd⟩:=hc.td ht;have:=vG hd;subst this;obtain⟨te,hte,rfl⟩:=hc.sz hsz;cases hx with
    |msN _ _=>omega
    |ms _ _ _ cap a m hm hl ha=>
     have hcap:cap≠0:=by omega
     obtain⟨rfl,hfit⟩:=ha hcap;have hmsz:sz=m.sz:=by
      unfold vg at hb;split at hb
      ·rename_i hh;cases hb;exact(h.liveM hh rfl hm).2.2.1
      ·rename_i hh;cases hb;exact((h.froz id _ _ _ hh).2 m hm).1
      ·cases hb
     refine⟨.pointer (some ⟨m.block,m.base+(off+i.toNat)*m.sz+0,none⟩),?_,.ptr id _ 0 m hm⟩;have hszz:te.sz=m.sz:=by simp at hsn;omega
     simp[Instr.indexAt,asIntOf,run_underlying hu,h0,h1,qS hte,y4,hszz,Nat.add_mul,Nat.add_assoc]
   ·cases he
  ·cases he
 ·-- a slice that stays
  rename_i e rows k i ht;split at he
  ·rename_i n hsz;split at he
   ·rename_i hb;split at he
    ·rename_i row hrow;split at he
     ·rename_i hlen;cases he;cases hi;obtain⟨ti,u,_,_,hu,hd⟩:=hc.td ht;have:=vG hd;subst this;obtain⟨te,hte,rfl⟩:=hc.sz hsz;cases hx with
      |slNil=>simp at hb;omega
      |sl _ a cap sz vals hs hsz' hcl hr hcell hcap hfree=>
       have hne:rows≠[]:=by rintro rfl;simp at hb;omega
       have hspot:=hs hne;have hsz2:sz=te.sz:=by
        have:=hsz' _ row hrow;simp at hlen;omega
       refine⟨.pointer (some ⟨a.block,a.off+i.toNat*sz+0,none⟩),?_,.cptr row 0 a.block (a.off+i.toNat*sz) (λj=>vals i.toNat j) (λj x hj=>hcl _ _ row x hrow hj) (λj x hj=>hr _ _ row x hrow hj)⟩;simp[Instr.indexAt,asIntOf,run_underlying hu,hb,qS hte,zf _ _ hspot,hsz2]
     ·cases he
    ·cases he
   ·cases he
  ·cases he
 ·rename_i e rows k i ht;split at he
  ·rename_i n hsz;split at he
   ·rename_i hb;split at he
    ·rename_i row hrow;split at he
     ·rename_i hlen;cases he;cases hi;obtain⟨ti,u,_,_,hu,hd⟩:=hc.td ht;have:=vG hd;subst this;obtain⟨te,hte,rfl⟩:=hc.sz hsz;have hne:rows≠[]:=by rintro rfl;simp at hb;omega
      cases hx with
      |lsl _ _ h0=>
       cases h0 with
       |slNil=>exact absurd rfl hne
       |sl _ a cap sz vals hs hsz' hcl hr hcell hcap hfree=>
        have hspot:=hs hne;have hsz2:sz=te.sz:=by
         have:=hsz' _ row hrow;simp at hlen;omega
        refine⟨.pointer (some ⟨a.block,a.off+i.toNat*sz+0,none⟩),?_,.lpt row 0 a.block (a.off+i.toNat*sz) (λj=>vals i.toNat j) (λj x hj=>hcl _ _ row x hrow hj) (λj x hj=>hr _ _ row x hrow hj)⟩;simp[Instr.indexAt,asIntOf,run_underlying hu,hb,qS hte,zf _ _ hspot,hsz2]
     ·cases he
    ·cases he
   ·cases he
  ·cases he
 ·rename_i e id rows k i ht;split at he
  ·rename_i n hsz;split at he
   ·rename_i hb;split at he
    ·rename_i row hrow;split at he
     ·rename_i hlen;cases he;cases hi;obtain⟨ti,u,_,_,hu,hd⟩:=hc.td ht;have:=vG hd;subst this;obtain⟨te,hte,rfl⟩:=hc.sz hsz;have hne:rows≠[]:=by rintro rfl;simp at hb;omega
      cases hx with
      |rsl _ _ _ D hD h0=>
       obtain⟨m,hm,rfl⟩:=hD hne;cases h0 with
       |slNil=>exact absurd rfl hne
       |sl _ a cap sz vals hs hsz' hcl hr hcell hcap hfree=>
        have hspot:=hs hne;have hsz2:sz=te.sz:=by
         have:=hsz' _ row hrow;simp at hlen;omega
        refine⟨.pointer (some ⟨a.block,a.off+i.toNat*sz,none⟩),?_,.rpt id row 0 a.block (a.off+i.toNat*sz) (λj=>vals i.toNat j) m hm (λj x hj=>hcl _ _ row x hrow hj) (λj x hj=>hr _ _ row x hrow hj)⟩;simp[Instr.indexAt,asIntOf,run_underlying hu,hb,qS hte,zf _ _ hspot,hsz2]
     ·cases he
    ·cases he
   ·cases he
  ·cases he
 ·rename_i n e id r' off k i ht;split at he
  ·rename_i sz hsz;split at he
   ·rename_i hb;cases he;cases hi;obtain⟨ti,u,_,_,hu,hd⟩:=hc.td ht;have:=qdb hd;subst this;obtain⟨te,hte,rfl⟩:=hc.sz hsz;cases hx with
    |ptr _ _ _ m hm=>
     refine⟨.pointer (some ⟨m.block,m.base+r'*m.sz+(off+i.toNat*te.sz),none⟩),?_,.ptr id r' _ m hm⟩;simp[Instr.indexAt,asIntOf,run_underlying hu,Instr.sureAddr,hb,qS hte,y4,Nat.add_assoc]
   ·cases he
  ·cases he
 ·rename_i n e cs off k i ht;split at he
  ·rename_i sz hsz;split at he
   ·rename_i hb;cases he;cases hi;obtain⟨ti,u,_,_,hu,hd⟩:=hc.td ht;have:=qdb hd;subst this;obtain⟨te,hte,rfl⟩:=hc.sz hsz;cases hx with
    |cptr _ _ b o' vals h1 h2=>
     refine⟨.pointer (some ⟨b,o'+(off+i.toNat*te.sz),none⟩),?_,.cptr cs _ b o' vals h1 h2⟩;simp[Instr.indexAt,asIntOf,run_underlying hu,Instr.sureAddr,hb,qS hte,y4,Nat.add_assoc]
   ·cases he
  ·cases he
 ·cases he
variable {C C' : qk} {μ μ' : MMap} {H H' : AH} {w w' : World} {P : Program}
def Runs[Lent](P:Program)(s:Sem Value)(C:qk)(μ:MMap)(H:AH)(w:World)(a:AV)(H':AH):Prop:=
 ∃v w' C' μ',s.run P w= .ok v w'∧Rep C' μ' a v∧Wld C' μ' H' w'∧Ext H.length C μ H w C' μ' H' w'
theorem Runs.pure'[Lent](h:Wld C μ H w){s:Sem Value}{a:AV}(hr:∃v,s.run P w= .ok v w∧Rep C μ a v):Runs P s C μ H w a H:=by
 obtain⟨v,h1,h2⟩:=hr;exact⟨v,w,C,μ,h1,h2,h,Ext.refl (qFH _)⟩
theorem qaH[Lent]{lo hi n d cap:Nat}{x:Option AV}{v:Option Value}(h:qbu lo hi x d=some n)(hx:∀a,x=some a->∃u,v=some u∧Rep C μ a u)(hn:x=none->v=none)(hc:hi<=cap∨n<=cap)(code:BoundsCode):
  (x=none∧v=none∧n=d)∨(∃u,v=some u∧lo<=n∧n<=hi∧(Instr.sliceBound u cap code).run P w= .ok n w):=by
 unfold qbu at h;split at h
 ·cases h;exact .inl ⟨rfl,hn rfl,rfl⟩
 ·rename_i k i;split at h
  ·rename_i hb;cases h;obtain⟨u,rfl,hu⟩:=hx _ rfl;cases hu;refine .inr ⟨_,rfl,by omega,by omega,?_⟩;have h0:0<=i∧i<=(cap:Int):=by omega
   simp[Instr.sliceBound,asIntOf,h0]
  ·cases h
 ·cases h
theorem y9[Lent]{n cap l h:Nat}{lo hi mx:Option AV}{vlo vhi vmx:Option Value}(hb:qa5 n lo hi mx=some (l,h))(isS:Bool)(hc:n<=cap)(hlo:∀a,lo=some a->∃u,vlo=some u∧Rep C μ a u)(hlo':lo=none->vlo=none)(hhi:∀a,hi=some a->∃u,vhi=some u∧Rep C μ a u)(hhi':hi=none->vhi=none)(hmx:∀a,mx=some a->∃u,vmx=some u∧Rep C μ a u)(hmx':mx=none->vmx=none):
  ∃m,(Instr.sliceBounds isS n cap vlo vhi vmx).run P w= .ok (l,h,m) w∧l<=h∧h<=n∧h<=m∧m<=cap:=by
 unfold qa5 at hb;split at hb
 ·cases hb
 ·rename_i hno;split at hb
  ·rename_i h' hh;split at hb
   ·rename_i m' hm;split at hb
    ·rename_i l' hl;simp only[Option.some.injEq,Prod.mk.injEq]at hb;obtain⟨rfl,rfl⟩:=hb;have hlb:∀code,l'<=h'∧((lo=none∧vlo=none∧l'=0)∨∃u,vlo=some u∧(Instr.sliceBound u h' code).run P w= .ok l' w):=by
      intro code;rcases qaH (P:=P) (w:=w) hl hlo hlo' (.inl (qFH h')) code with⟨e1,e2,rfl⟩|⟨u,e1,e2,e3,e4⟩
      ·exact⟨by omega,.inl ⟨e1,e2,rfl⟩⟩
      ·exact⟨e3,.inr ⟨u,e1,e4⟩⟩
     cases mx with
     |none=>
      have hvm:=hmx' rfl;subst hvm;rcases qaH (P:=P) (w:=w) hh hhi hhi' (.inl hc) (if isS then .sliceAcap else .sliceAlen)with⟨e1,e2,rfl⟩|⟨u,e1,e2,e3,e4⟩
      ·subst e2;refine⟨cap,?_,(hlb .sliceB).1,qFH _,hc,qFH _⟩;rcases(hlb .sliceB).2 with⟨_,f2,rfl⟩|⟨u,rfl,f2⟩
       ·subst f2;simp[Instr.sliceBounds]
       ·simp[Instr.sliceBounds,f2]
      ·subst e1;refine⟨cap,?_,(hlb .sliceB).1,e3,by omega,qFH _⟩;rcases(hlb .sliceB).2 with⟨_,f2,rfl⟩|⟨u',rfl,f2⟩
       ·subst f2;simp[Instr.sliceBounds,e4]
       ·simp[Instr.sliceBounds,e4,f2]
     |some mxa=>
      cases hi with
      |none=>simp at hno
      |some hia=>
       rcases qaH (P:=P) (w:=w) hm hmx hmx' (.inl hc) (if isS then .slice3Acap else .slice3Alen)with⟨e1,_,_⟩|⟨um,rfl,g2,g3,g4⟩
       ·cases e1
       ·rcases qaH (P:=P) (w:=w) (cap:=m') hh hhi hhi' (.inr g2) .slice3B with⟨e1,_,_⟩|⟨uh,rfl,e2,e3,e4⟩
        ·cases e1
        ·refine⟨m',?_,(hlb .slice3C).1,by omega,by omega,by omega⟩;rcases(hlb .slice3C).2 with⟨_,f2,rfl⟩|⟨u',rfl,f2⟩
         ·subst f2;simp[Instr.sliceBounds,e4,g4]
         ·simp[Instr.sliceBounds,e4,f2,g4]
    ·cases hb
   ·cases hb
  ·cases hb
theorem qnd[Lent]{x:Operand->AV}{ρ:Operand->Value}(hx:∀a,Rep C μ (x a) (ρ a))(o:Option Operand):(∀a,o.map x=some a->∃u,o.map ρ=some u∧Rep C μ a u)∧(o.map x=none->o.map ρ=none):=by
 cases o with
 |none=>exact⟨λa h=>by simp at h,λ_=>rfl⟩
 |some o=>exact⟨λa h=>by simp at h;subst h;exact⟨ρ o,rfl,hx o⟩,λh=>by simp at h⟩
theorem qlo{n sz:Nat}{rows:List (List AV)}(h:vP n rows=true)(hs:∀(i:Nat) row,rows[i]? =some row->row.length=sz)(hne:rows≠[]):sz=n:=by
 cases rows with
 |nil=>exact absurd rfl hne
 |cons r l=>
  have:=hs 0 r rfl;simp[vP]at h;omega
theorem qmF[Lent](h:Wld C μ H w){id sz:Nat}{rs:List (List AV)}{m:MI}(hb:vg H id=some (sz,rs))(hm:μ id=some m):sz=m.sz:=by
 unfold vg at hb;split at hb
 ·rename_i hh;cases hb;exact(h.liveM hh rfl hm).2.2.1
 ·rename_i hh;cases hb;exact((h.froz id _ _ _ hh).2 m hm).1
 ·cases hb
theorem qq7[Lent]{cfg:Cfg}(hc:CfgTy cfg)(h:Wld C μ H w){t:TypeId}{a:AV}{va:Value}{x:Operand->AV}{ρ:Operand->Value}(hx:∀a,Rep C μ (x a) (ρ a))(lo hi mx:Option Operand){r:AV}(he:qcr cfg t H a (lo.map x) (hi.map x) (mx.map x)=some r)(ha:Rep C μ a va):∃v,(Instr.sliceAt t va (lo.map ρ) (hi.map ρ) (mx.map ρ)).run cfg.P w= .ok v w∧Rep C μ r v:=by
 obtain⟨l1,l2⟩:=qnd hx lo;obtain⟨h1,h2⟩:=qnd hx hi;obtain⟨m1,m2⟩:=qnd hx mx;unfold qcr at he;split at he
 ·rename_i s ht;split at he
  ·rename_i l h' hmx hbd;cases he;cases ha;obtain⟨ti,u,_,_,hu,hd⟩:=hc.td ht;have:=qeM hd;subst this;have hm0:mx=none:=by cases mx<;>simp at hmx;rfl
   subst hm0;obtain⟨m,e1,e2,e3,e4,e5⟩:=y9 (P:=cfg.P) (w:=w) (C:=C) (μ:=μ) (cap:=s.length) (vmx:=none) hbd false (qFH _) l1 l2 h1 h2 (λa h=>by simp at h) (λ_=>rfl);have hsz:(⟨s.toArray⟩:ByteArray).size=s.length:=by simp[ByteArray.size]
   refine⟨.string ((⟨s.toArray⟩:ByteArray).extract l h'),by simp[Instr.sliceAt,Instr.slice,run_underlying hu,hsz,e1],?_⟩;have hb:((⟨s.toArray⟩:ByteArray).extract l h')=⟨((s.drop l).take (h' - l)).toArray⟩:=by
    apply ByteArray.ext;apply Array.ext';rw[Lib.extract_data]
   rw[hb];exact .str _
  ·cases he
 ·rename_i e ht;split at he
  ·rename_i n lh hsz hbd;cases he;cases ha;obtain⟨ti,u,_,_,hu,hd⟩:=hc.td ht;have:=vG hd;subst this;obtain⟨te,hte,rfl⟩:=hc.sz hsz;obtain⟨l,h'⟩:=lh;obtain⟨m,e1,e2,e3,e4,e5⟩:=y9 (P:=cfg.P) (w:=w) (C:=C) (μ:=μ) (cap:=0) hbd true (qFH _) l1 l2 h1 h2 m1 m2;obtain rfl:h'=0:=by omega
   obtain rfl:l=0:=by omega
   obtain rfl:m=0:=by omega
   exact⟨.slice none 0 0,by simp[Instr.sliceAt,Instr.slice,run_underlying hu,e1,qS hte],.nilS⟩
  ·cases he
 ·rename_i e rows ht;split at he
  ·rename_i n l h' hsz hbd;split at he
   ·rename_i hok;cases he;obtain⟨ti,u,_,_,hu,hd⟩:=hc.td ht;have:=vG hd;subst this;obtain⟨te,hte,rfl⟩:=hc.sz hsz;cases ha with
    |slNil=>
     obtain⟨m,e1,e2,e3,e4,e5⟩:=y9 (P:=cfg.P) (w:=w) (C:=C) (μ:=μ) (cap:=0) hbd true (qFH _) l1 l2 h1 h2 m1 m2;obtain rfl:h'=0:=by omega
     obtain rfl:l=0:=by omega
     obtain rfl:m=0:=by omega
     rw[List.length_nil]at e1;exact⟨.slice none 0 0,by simp[Instr.sliceAt,Instr.slice,run_underlying hu,e1,qS hte],by cases hE:cfg.ems t<;>simpa [slE]using Rep.slNil⟩
    |sl _ b cap sz vals hs hsz' hcl hr hcell hcap hfree=>
     obtain⟨m,e1,e2,e3,e4,e5⟩:=y9 (P:=cfg.P) (w:=w) (C:=C) (μ:=μ) (cap:=cap) hbd true hcap l1 l2 h1 h2 m1 m2;have hlen:((rows.drop l).take (h' - l)).length=h' - l:=by simp;omega
     refine⟨.slice (some (if m=l then b else b.add (l*te.sz))) (h' - l) (m - l),?_,?_⟩
     ·by_cases hml:m=l<;>simp[Instr.sliceAt,Instr.slice,run_underlying hu,e1,qS hte,hml]
     ·have:=Rep.sl (C:=C) (μ:=μ) ((rows.drop l).take (h' - l)) (if m=l then b else b.add (l*te.sz)) (m - l) sz (λi j=>vals (l+i) j) (λhne=>?_) (λi row hi=>?_) (λi j row x hi hj=>?_)
       (λi j row x hi hj=>?_) (λi j row x hi hj=>?_) (by rw[hlen];omega) (yW (z8 hfree))
      ·rw[hlen]at this;cases hE:cfg.ems t with
       |false=>exact this
       |true=>
        simp only[slE];split
        ·rename_i hz;rw[qFJ]at hz;have:=qFO hz.1;subst this;rw[Nat.sub_self];exact .em _ _
        ·exact this
      ·have hr0:rows≠[]:=by rintro rfl;simp at hne
       have hsp:=hs hr0;split
       ·exact hsp
       ·rw[zf _ _ hsp]
      ·obtain⟨_,hi'⟩:=vp hi;exact hsz' _ row hi'
      ·obtain⟨hlt,hi'⟩:=vp hi;have hr0:rows≠[]:=by rintro rfl;simp at hi'
       have hsp:=hs hr0;have hse:=qlo hok hsz' hr0;have hne:m≠l:=by omega
       rw[qGr hne,zf _ _ hsp];have:=hcl _ j row x hi' hj;rw[←this,←hse];simp only[Nat.add_mul]
       congr 1;omega
      ·obtain⟨_,hi'⟩:=vp hi;exact hr _ j row x hi' hj
      ·obtain⟨_,hi'⟩:=vp hi;exact hcell _ j row x hi' hj
   ·cases he
  ·cases he
 ·rename_i e id off len ht;split at he
  ·rename_i n l h' sz rs hsz hbd hblk;split at he
   ·rename_i hsn;cases he;obtain⟨ti,u,_,_,hu,hd⟩:=hc.td ht;have:=vG hd;subst this;obtain⟨te,hte,rfl⟩:=hc.sz hsz;cases ha with
    |msN _ _=>
     obtain⟨m,e1,e2,e3,e4,e5⟩:=y9 (P:=cfg.P) (w:=w) (C:=C) (μ:=μ) (cap:=0) hbd true (qFH _) l1 l2 h1 h2 m1 m2;obtain rfl:h'=0:=by omega
     obtain rfl:l=0:=by omega
     obtain rfl:m=0:=by omega
     exact⟨.slice none 0 0,by simp[Instr.sliceAt,Instr.slice,run_underlying hu,e1,qS hte],.msN _ _⟩
    |ms _ _ _ cap b m' hm hl ha'=>
     have hmsz:te.sz=m'.sz:=by have:=qmF h hblk hm;simp at hsn;omega
     obtain⟨m,e1,e2,e3,e4,e5⟩:=y9 (P:=cfg.P) (w:=w) (C:=C) (μ:=μ) (cap:=cap) hbd true hl l1 l2 h1 h2 m1 m2;refine⟨.slice (some (if m=l then b else b.add (l*te.sz))) (h' - l) (m - l),?_,.ms id _ _ _ _ m' hm (by omega) (λhcap=>?_)⟩
     ·by_cases hml:m=l<;>simp[Instr.sliceAt,Instr.slice,run_underlying hu,e1,qS hte,hml]
     ·have hne:m≠l:=by omega
      obtain⟨rfl,hfit⟩:=ha' (by omega);rw[qGr hne,y4,hmsz];refine⟨?_,?_⟩
      ·simp only[Nat.add_mul];congr 1;omega
      ·refine Nat.le_trans (qGe _ ?_) hfit;omega
   ·cases he
  ·cases he
 ·rename_i e n v ht;split at he
  case h_2=>cases he
  rename_i s c kd hh hsz hlen hlo hhi hmx;split at he
  case isFalse=>cases he
  rename_i hb;cases he;obtain⟨ti,u,_,_,hu,hd⟩:=hc.td ht;have:=vG hd;subst this;obtain⟨te,hte,rfl⟩:=hc.sz hsz;have hl0:lo.map ρ=none:=l2 hlo;have hm0:mx.map ρ=none:=m2 hmx;cases ha with
  |wr _ _ ad c' hn h0=>
  obtain rfl:=h0.lenW hlen;have hbd:qbu 0 c (some (.int kd hh)) c=some hh.toNat:=by simp[qbu,hb]
  have hhi':hi.map x=some (.int kd hh):=hhi;rw[←hhi']at hbd;obtain⟨vu,hvu,e4⟩:∃vu,hi.map ρ=some vu∧(Instr.sliceBound vu c .sliceAcap).run cfg.P w= .ok hh.toNat w:=by
   rcases qaH (P:=cfg.P) (w:=w) hbd h1 h2 (.inl (qFH c)) .sliceAcap with⟨e1,_,_⟩|⟨u,e1,e2,e3,e4⟩
   ·rw[hhi']at e1;cases e1
   ·exact⟨u,e1,e4⟩
  rw[hl0,hm0,hvu];refine⟨.slice ad hh.toNat c,?_,.wr hh.toNat v ad c (by omega) h0⟩;cases ad with
  |none=>
   have:c=0:=by cases v<;>first|(cases h0;rfl)|(cases hlen)
   subst this;have:hh.toNat=0:=by omega
   rw[this]at e4⊢;simp[Instr.sliceAt,Instr.slice,run_underlying hu,Instr.sliceBounds,e4,qS hte]
  |some b=>
   simp[Instr.sliceAt,Instr.slice,run_underlying hu,Instr.sliceBounds,e4,qS hte];intro hc0;rw[zf _ _ (h0.spotW hlen hc0)];have:=h0.spotW hlen hc0;cases b;simp_all
 ·cases he
def vr[Lent](C:qk)(μ:MMap)(n:Nat)(rows:List (List AV))(vs:List Value):Prop:=
 vs.length=rows.length*n∧∀(i:Nat) row,rows[i]? =some row->row.length=n∧∀(j:Nat) x,row[j]? =some x->x.isCell=true∧∃v,vs[i*n+j]? =some v∧Rep C μ x v
theorem vr.nil[Lent](n:Nat):vr C μ n [] []:=⟨by simp,λi row h=>by simp at h⟩
theorem vr.append[Lent]{n:Nat}{r1 r2:List (List AV)}{v1 v2:List Value}(h1:vr C μ n r1 v1)(h2:vr C μ n r2 v2):vr C μ n (r1++r2) (v1++v2):=by
 refine⟨by rw[qFU,h1.1,h2.1,qFU,Nat.add_mul],λi row hi=>?_⟩;rw[List.getElem?_append]at hi;split at hi
 ·rename_i hlt;refine⟨(h1.2 i row hi).1,λj x hj=>?_⟩;obtain⟨e1,v,e2,e3⟩:=(h1.2 i row hi).2 j x hj;exact⟨e1,v,by rw[qFX (qFF.1 e2).1];exact e2,e3⟩
 ·rename_i hge;refine⟨(h2.2 _ row hi).1,λj x hj=>?_⟩;obtain⟨e1,v,e2,e3⟩:=(h2.2 _ row hi).2 j x hj;refine⟨e1,v,?_,e3⟩;have hle:r1.length*n<=i*n:=qGe _ (by omega);rw[qF0 (by rw[h1.1];omega),h1.1];rw[Nat.sub_mul]at e2;rw[←e2];congr 1;omega
theorem vr.take[Lent]{n:Nat}{rows:List (List AV)}{vs:List Value}(h:vr C μ n rows vs)(k:Nat):vr C μ n (rows.take k) (vs.take (k*n)):=by
 refine⟨by rw[qF9,qF9,h.1];exact(Nat.mul_min_mul_right _ _ _),λi row hi=>?_⟩;rw[List.getElem?_take]at hi;split at hi
 ·rename_i hlt;refine⟨(h.2 i row hi).1,λj x hj=>?_⟩;obtain⟨e1,v,e2,e3⟩:=(h.2 i row hi).2 j x hj;refine⟨e1,v,?_,e3⟩;have hj':j<n:=by rw[←(h.2 i row hi).1];exact(qFF.1 hj).1
  have:(i+1)*n<=k*n:=qGe _ hlt;rw[Nat.add_mul]at this;rw[List.getElem?_take,qGq (by omega)];exact e2
 ·cases hi
theorem vr.one[Lent]{n:Nat}{rows:List (List AV)}{vs:List Value}(h:vr C μ n rows vs):∀v∈vs,v.oneCell'=true:=by
 intro v hv;obtain⟨k,hk⟩:=List.mem_iff_getElem?.1 hv;have hlt:k<vs.length:=(qFF.1 hk).1;rw[h.1]at hlt;have hn:0<n:=Nat.pos_of_ne_zero (λe=>by subst e;simp at hlt);have hi:k / n<rows.length:=Nat.div_lt_of_lt_mul (by rwa [Nat.mul_comm]at hlt);obtain⟨hlen,hc⟩:=h.2 (k / n) _ (qFE hi);have hj:k % n<(rows[k / n]).length:=by rw[hlen];exact Nat.mod_lt _ hn
 obtain⟨e1,u,e2,e3⟩:=hc (k % n) _ (qFE hj);rw[Nat.mul_comm,Nat.div_add_mod,hk]at e2;cases e2;exact e3.oneCell e1
theorem qgl[Lent]{n:Nat}{rows:List (List AV)}{b o:Nat}(hn:0<n)(h:∀(i:Nat) row,rows[i]? =some row->row.length=n∧∀(j:Nat) x,row[j]? =some x->x.isCell=true∧∃v,w.cell? ⟨b,o+i*n+j,none⟩=some v∧Rep C μ x v):
  ∃vs:List Value,vr C μ n rows vs∧∀(k:Nat) v,vs[k]? =some v->w.cell? ⟨b,o+k,none⟩=some v:=by
 have hcell:∀k,k<rows.length*n->∃v,w.cell? ⟨b,o+k,none⟩=some v:=by
  intro k hk;have hi:k / n<rows.length:=Nat.div_lt_of_lt_mul (by rwa [Nat.mul_comm]at hk);obtain⟨hlen,hc⟩:=h (k / n) _ (qFE hi);have hj:k % n<(rows[k / n]).length:=by rw[hlen];exact Nat.mod_lt _ hn
  obtain⟨_,u,e2,_⟩:=hc (k % n) _ (qFE hj);refine⟨u,?_⟩;rw[Nat.add_assoc,Nat.mul_comm,Nat.div_add_mod]at e2;exact e2
 refine⟨(qGn (rows.length*n)).map λk=>(w.cell? ⟨b,o+k,none⟩).getD undef,⟨by simp,λi row hi=>⟨(h i row hi).1,λj x hj=>?_⟩⟩,λk v hk=>?_⟩
 ·obtain⟨e1,v,e2,e3⟩:=(h i row hi).2 j x hj;refine⟨e1,v,?_,e3⟩;have hj':j<n:=by rw[←(h i row hi).1];exact(qFF.1 hj).1
  have hi':i<rows.length:=(qFF.1 hi).1;have:(i+1)*n<=rows.length*n:=qGe _ hi';rw[Nat.add_mul]at this;rw[List.getElem?_map,List.getElem?_range (by omega)];simp only[qGc];rw[←Nat.add_assoc,e2];rfl
 ·obtain⟨k',hk',rfl⟩:=qw hk;have hlt:k<rows.length*n:=by have:=(qFF.1 hk').1;simpa using this
  rw[List.getElem?_range hlt]at hk';cases hk';obtain⟨v,hv⟩:=hcell k hlt;rw[hv];rfl
theorem qdK{a:Addr}{n len cap:Nat}{vs:List Value}(hl:vs.length=len*n)(h:∀(k:Nat) v,vs[k]? =some v->w.cell? (a.add k)=some v):(Builtin.firstCells n len (.slice (some a) len cap)).run P w= .ok vs.toArray w:=by
 have:=run_loadCells_list (P:=P) w a vs h;rw[hl]at this
 simpa [Builtin.firstCells]using this
theorem qom{w w':World}(h:w'.heap=w.heap)(a:Addr):w'.cell? a=w.cell? a:=by simp[World.cell?,h]
theorem qch[Lent](h:Wld C μ H w){x:AV}{v:Value}{n:Nat}{rows:List (List AV)}(hn:0<n)(hx:Rep C μ x v)(hr:yH H n x=some rows):
  ∃(a:Option Addr) (cap:Nat) (vs:List Value),v= .slice a rows.length cap∧rows.length<=cap∧vr C μ n rows vs∧(∀w':World,w'.heap=w.heap->(Builtin.firstCells n rows.length v).run P w'= .ok vs.toArray w') ∧
   (∀b,a=some b->∀(k:Nat) u,vs[k]? =some u->w.cell? (b.add k)=some u)∧(a=none->rows=[]):=by
 unfold yH at hr;split at hr
 ·cases hr;cases hx;exact⟨none,0,[],rfl,by simp,.nil n,λw' _=>by simp[Builtin.firstCells],(λb hb=>by cases hb),λ_=>rfl⟩
 ·cases hr;cases hx with
  |em a cap=>exact⟨some a,cap,[],rfl,by simp,.nil n,λw' _=>by simp[Builtin.firstCells,loadCells,loadCellsFrom],(λb hb k u hk=>by simp at hk),λh=>by cases h⟩
 ·rename_i rows';split at hr
  ·rename_i hok;cases hr;cases hx with
   |slNil=>exact⟨none,0,[],rfl,by simp,.nil n,λw' _=>by simp[Builtin.firstCells],(λb hb=>by cases hb),λ_=>rfl⟩
   |sl _ a cap sz vals hs hsz hcl hrep hcell hcap hfree=>
    by_cases hne:rows=[]
    ·subst hne;refine⟨some a,cap,[],rfl,hcap,.nil n,λw' _=>?_,λb hb k u hk=>by simp at hk,λh=>by cases h⟩;exact qdK (vs:=[]) (by simp) (λk v hk=>by simp at hk)
    ·have hse:=qlo hok hsz hne;have hsp:=hs hne;obtain⟨vs,f1,f2⟩:=qgl (w:=w) (C:=C) (μ:=μ) (b:=a.block) (o:=a.off) (rows:=rows) hn (λi row hi=>⟨by rw[hsz i row hi,hse],λj x hj=>⟨hcell i j row x hi hj,vals i j,by
      have:=h.cl _ _ _ (hcl i j row x hi hj)
      rwa [hse]at this,hrep i j row x hi hj⟩⟩)
     have f3:∀(k:Nat) u,vs[k]? =some u->w.cell? (a.add k)=some u:=λk u hk=>by rw[zf _ _ hsp];exact f2 k u hk
     exact⟨some a,cap,vs,rfl,hcap,f1,λw' hw=>qdK f1.1 (λk v hk=>by rw[qom hw];exact f3 k v hk),λb hb=>by cases hb;exact f3,λh=>by cases h⟩
  ·cases hr
 ·rename_i id off len;split at hr
  ·rename_i sz rs hb;split at hr
   ·rename_i hcnd;simp only[qFJ,beq_iff_eq,qGj]at hcnd;cases hr;cases hx with
    |msN _ _=>exact⟨none,0,[],by simp,by simp,by simpa using vr.nil n,λw' _=>by simp[Builtin.firstCells],(λb hb=>by cases hb),λ_=>by simp⟩
    |ms _ _ _ cap a m hm hl ha=>
     have hlen:((rs.drop off).take len).length=len:=by simp;omega
     by_cases h0:len=0
     ·subst h0;refine⟨some a,cap,[],by simp,by simp,by simpa using vr.nil n,λw' _=>?_,λb hb k u hk=>by simp at hk,λh=>by cases h⟩
      simpa using qdK (P:=P) (w:=w') (a:=a) (n:=n) (len:=0) (cap:=cap) (vs:=[]) (by simp) (λk v hk=>by simp at hk)
     ·obtain⟨rfl,hfit⟩:=ha (by omega);have hmsz:=qmF h hb hm;obtain⟨vs,f1,f2⟩:=qgl (w:=w) (C:=C) (μ:=μ) (b:=m.block) (o:=m.base+off*m.sz) (rows:=(rs.drop off).take len) hn (λi row hi=>by
       obtain⟨_,hi'⟩:=vp hi;obtain⟨m',g1,g2,g3,g4⟩:=h.rowCells hb hi';rw[hm]at g1;cases g1;refine⟨by omega,λj x hj=>?_⟩;obtain⟨c1,v,c2,c3⟩:=g4 j x hj;refine⟨c1,v,?_,c3⟩;rw[←c2,←hcnd.1,←hmsz,Nat.add_mul]
       congr 2;omega)
      have f3:∀(k:Nat) u,vs[k]? =some u->w.cell? (Addr.add ⟨m.block,m.base+off*m.sz,none⟩ k)=some u:=λk u hk=>by rw[y4];exact f2 k u hk
      refine⟨some _,cap,vs,by rw[hlen],by omega,f1,λw' hw=>?_,λb hb=>by cases hb;exact f3,λh=>by cases h⟩;have:=qdK (P:=P) (w:=w') (cap:=cap) f1.1 (λk v hk=>by rw[qom hw];exact f3 k v hk);rw[hlen]at this⊢;exact this
   ·cases hr
  ·cases hr
 ·cases hr
theorem qah(s:List UInt8):(zI s).length=s.length:=by simp[zI]
theorem qcB[Lent](s:List UInt8):vr C μ 1 (zI s) (s.map λb=>Value.int .u8 b.toNat):=by
 refine⟨by simp[zI],λi row hi=>?_⟩;obtain⟨b,hb,rfl⟩:=qw hi;refine⟨rfl,λj x hj=>?_⟩;cases j with
 |zero=>
  simp at hj;subst hj;exact⟨rfl,.int .u8 b.toNat,by simp[hb],.int _ _⟩
 |succ j=>simp at hj
variable {C C' : qk} {μ μ' : MMap} {H H' : AH} {w w' : World} {P : Program}
theorem notInt(xd:TypeDesc):(∀k,xd≠.int k)->(xd matches .int _)=false:=by
 intro h;cases xd<;>first|rfl|exact absurd rfl (h _)
theorem qvG{u:TypeDesc}(h:(tdOf u).notInt=true):∀k,u≠.int k:=by
 intro k e;subst e;simp[tdOf,TD.notInt]at h
theorem qbe{t xt e ty:TypeId}{ti:TI}{xd:TypeDesc}{base:Option Addr}{sLen sCap n:Nat}{x:Value}{news:Array Value}(ht:P.underlying t=some (.slice e))(hxt:P.underlying xt=some xd)(hni:∀k,xd≠.int k)(hti:tiOf P e=some ti)(hl:(Builtin.lenOf x).run P w= .ok n w)(hf:sLen+n<=sCap)(hn:(Builtin.firstCells ti.sz n x).run P w= .ok news w):
  (Builtin.append_ #[t,xt] ty #[.slice base sLen sCap,x]).run P w =
   match base with
   |some a=>((storeCells (a.add (sLen*ti.sz)) news.toList).run P w).andThen λ_ w'=>.ok (.slice base (sLen+n) sCap) w'
   |none=>.ok (.slice base (sLen+n) sCap) w:=by
 have hz:=notInt xd hni;unfold Builtin.append_;simp only[List.getElem?_toArray,List.getElem?_cons_zero,List.getElem?_cons_succ,Sem.run_bind,run_underlying ht,run_underlying hxt,Result.andThen_ok,qS hti,Sem.run_pure,hl,qGq hf,
  qF5,if_false,qF4,if_true,hn]
 cases base<;>simp
theorem qks{t xt e ty:TypeId}{ti:TI}{i:TypeInfo}{z:Value}{xd:TypeDesc}{base:Option Addr}{sLen sCap n:Nat}{x:Value}{news olds:Array Value}(ht:P.underlying t=some (.slice e))(hxt:P.underlying xt=some xd)(hni:∀k,xd≠.int k)(hti:tiOf P e=some ti)(hi:P.info? e=some i)(hz:i.zero=some z)(hl:(Builtin.lenOf x).run P w= .ok n w)(hf:¬sLen+n<=sCap)(hmax:sLen+n<=9223372036854775807)(hb:(sLen+n)*i.bytes<=140737488355328)(hn:(Builtin.firstCells ti.sz n x).run P w.drew= .ok news w.drew)(ho:(Builtin.firstCells ti.sz sLen (.slice base sLen sCap)).run P w.drew= .ok olds w.drew):
  ∃c,sLen+n<=c∧(Builtin.append_ #[t,xt] ty #[.slice base sLen sCap,x]).run P w =
   .ok (.slice (some ⟨w.heap.size,0,none⟩) (sLen+n) c) (w.drew.alloc (.cells (olds++news++Builtin.zeroCells z.cells (c - (sLen+n))) e)):=by
 have hzz:=notInt xd hni;have h63:¬(((sLen+n:Nat):Int)>IntKind.i64.max∧(false=true∨i.bytes=0)):=by simp;omega
 have h48:¬(Builtin.nextslicecap (sLen+n) sCap*i.bytes>2 ^ 48):=by
  have:=growslice_fits (need:=sLen+n) (old:=sCap) (bytes:=i.bytes) (by omega) hb;omega
 refine⟨grownCap w (sLen+n) sCap e,?_,?_⟩
 ·unfold grownCap Question.cut;exact Nat.le_add_right _ _
 ·unfold Builtin.append_;simp only[List.getElem?_toArray,List.getElem?_cons_zero,List.getElem?_cons_succ,Sem.run_bind,run_underlying ht,run_underlying hxt,Result.andThen_ok,qS hti,Sem.run_pure,hl,qGr hf,
   qF5,if_false,qF4,if_true,zr hi,h48,run_choose,Question.forced,Sem.run_ite]
  simp only[World.drew_eq,run_askRoom,Result.andThen_ok,ho,hn,zeroValue,Sem.run_bind,zr hi,hz,Sem.run_pure,newRow,run_newObj,World.alloc_eq];rw[qGr (by simp;omega)];rfl
theorem qsa(a:Option Addr)(n c:Nat)(w:World):(Builtin.lenOf (.slice a n c)).run P w= .ok n w:=rfl
theorem qvV[Lent](h:Wld C μ H w){n:Nat}{x:AV}{v:Value}{rows:List (List AV)}(hx:Rep C μ x v)(hr:yH H n x=some rows)(hf:x7 H x=true):qQ 0 rows=true:=by
 unfold yH at hr;split at hr
 ·cases hr;rfl
 ·cases hr;rfl
 ·split at hr
  ·cases hr;cases hx with
   |slNil=>rfl
   |sl _ a cap sz vals h1 h2 h3 h4 h5 h6 h7=>exact h7
  ·cases hr
 ·split at hr
  ·rename_i hb;split at hr
   ·cases hr;exact yW (z8 (h.free.blk hb hf))
   ·cases hr
  ·cases hr
 ·cases hr
theorem qkn[Lent](h:Wld C μ H w){n:Nat}{x:AV}{v:Value}{rows:List (List AV)}(hx:Rep C μ x v)(hr:yv H n x=some rows)(hf:x7 H x=true):qQ 0 rows=true:=by
 unfold yv at hr;split at hr
 ·split at hr
  ·cases hr;exact qgg _
  ·cases hr
 ·exact qvV h hx hr hf
theorem qmH[Lent](h:Wld C μ H w){x:AV}{vx:Value}{sz:Nat}{news:List (List AV)}(hn:0<sz)(hx:Rep C μ x vx)(hs:yv H sz x=some news):
  ∃vs:List Value,vr C μ sz news vs∧(∀w':World,w'.heap=w.heap->(Builtin.lenOf vx).run P w'= .ok news.length w'∧(Builtin.firstCells sz news.length vx).run P w'= .ok vs.toArray w'):=by
 unfold yv at hs;split at hs
 ·rename_i b;split at hs
  ·rename_i h1;have h1':=qFO h1;subst h1';cases hs;cases hx;refine⟨_,qcB b,λw' _=>⟨?_,?_⟩⟩
   ·simp[Builtin.lenOf,qah,ByteArray.size]
   ·have:(⟨b.toArray⟩:ByteArray).extract 0 b.length=⟨b.toArray⟩:=by
     apply ByteArray.ext;apply Array.ext';rw[Lib.extract_data];simp
    simp[Builtin.firstCells,qah,this]
  ·cases hs
 ·obtain⟨a,cap,vs,rfl,e2,e3,e4,_,_⟩:=qch (P:=P) h hn hx hs;exact⟨vs,e3,λw' hw=>⟨qsa _ _ _ _,e4 w' hw⟩⟩
theorem qsv{n b:Nat}(h:qI n b=true):n*b<=140737488355328∧n<=9223372036854775807:=by
 simp only[qI,qFJ,qGj]at h;exact h
theorem qmT(z:Array Value)(n:Nat):(Builtin.zeroCells z n).size=n*z.size:=by simp[Builtin.zeroCells]
set_option maxHeartbeats 800000 in
theorem qoP[Lent]{cfg:Cfg}(hc:CfgTy cfg)(h:Wld C μ H w){nid:Option Nat}{t xt ty:TypeId}{s x r:AV}{vs vx:Value}(he:qbb cfg nid t xt s x H=some (r,H'))(hs:Rep C μ s vs)(hx:Rep C μ x vx):
  Runs cfg.P (Builtin.append_ #[t,xt] ty #[vs,vx]) C μ H w r H':=by
 unfold qbb at he;split at he
 case h_2=>cases he
 rename_i e xd ht hxt;split at he
 case h_2=>cases he
 rename_i ei hei;split at he
 case isFalse=>cases he
 rename_i hcnd;rw[qFJ,qFJ,Nat.blt_eq]at hcnd;obtain⟨⟨hni,h0⟩,hzl⟩:=hcnd;have hzl:=qFO hzl;obtain⟨tt,u,_,_,hu,hd⟩:=hc.td ht;have:=vG hd;subst this;obtain⟨tx,ux,_,_,hux,hdx⟩:=hc.td hxt;have hni':=qvG (u:=ux) (by rw[hdx];exact hni);have hti:=hc.ty _ _ hei;obtain⟨i,ue,z,hi,_,hz,hie⟩:=z4 hti;have hsz:ei.sz=i.size:=by rw[hie]
 have hby:ei.bytes=i.bytes:=by rw[hie]
 have hzs:z.cells.size=ei.sz:=by
  have:ei.zero=z.cells.toList.map xA:=by rw[hie]
  rw[this]at hzl
  simpa using hzl
 split at he
 case h_2=>cases he
 rename_i news hsrc;obtain⟨nv,f1,f2⟩:=qmH (P:=cfg.P) h h0 hx hsrc
 -- a new row that holds old rows and the new ones
 have grow:∀{d:Bool} {H0 H1:AH} {k len cap:Nat} {base:Option Addr} {olds:List (List AV)} {ov:List Value} (_:Wld C μ H0 w) (_:H.length=H0.length) (_:vr C μ ei.sz olds ov) (_:olds.length=len)
   (_:(Builtin.firstCells ei.sz len (.slice base len cap)).run cfg.P w.drew= .ok ov.toArray w.drew) (_:qI (len+news.length) ei.bytes=true) (_:¬len+news.length<=cap)
   (_:aNew nid H0 (.rows d ei.sz (olds++news))=some (k,H1)) (_:∀j,j<=H.length->Ext j C μ H w C μ H0 w) (_:d=true->qQ 0 (olds++news)=true),Runs cfg.P (Builtin.append_ #[t,xt] ty #[.slice base len cap,vx]) C μ H w (.ms k 0 (len+news.length)) H1:=by
  intro d H0 H1 k len cap base olds ov hw0 hlen0 hol hol' hfirst hfit hcap hnew hext hfr;obtain⟨hb1,hb2⟩:=qsv hfit;obtain⟨c,hc1,hrun⟩:=qks (P:=cfg.P) (w:=w) (ty:=ty) (base:=base) (sLen:=len) (sCap:=cap) hu hux hni' hti hi hz (f2 w rfl).1 hcap hb2 (by rw[←hby];exact hb1) (f2 w.drew rfl).2 hfirst;have hfl:=hol.append f1;have hg:Grew w (w.drew.alloc (.cells (ov.toArray++nv.toArray++Builtin.zeroCells z.cells (c - (len+news.length))) e)) (ov.toArray++nv.toArray++Builtin.zeroCells z.cells (c - (len+news.length))) e:=(Grew.alloc w.drew _ _).drew
  obtain⟨g1,g2,g3⟩:=qdm hw0 hg hnew (by have:=hfl.1;simp only[qFU]at this⊢;simp;omega) (λi row hi'=>⟨(hfl.2 i row hi').1,λj x hj=>by
   obtain⟨c1,v,c2,c3⟩:=(hfl.2 i row hi').2 j x hj;refine⟨c1,v,?_,c3⟩;rw[Array.getElem?_append_left (by simpa using (qFF.1 c2).1)]
   simpa using c2⟩) hfr
  refine⟨_,_,C,_,hrun,?_,g1,(hext _ (qFH _)).trans (g2 H.length (by omega)) (qFH _)⟩;refine .ms k 0 _ c _ _ (by unfold upd;rw[qGq rfl]) hc1 (λ_=>⟨by simp,?_⟩);have hfl1:=hfl.1;simp only[qFU]at hfl1;have hov:ov.length+nv.length=(len+news.length)*ei.sz:=by rw[hfl1,hol']
  show(0+c)*ei.sz<=(ov.toArray++nv.toArray++Builtin.zeroCells z.cells (c - (len+news.length))).size;rw[Array.size_append,Array.size_append,qmT,hzs,qGi];simp only[List.size_toArray];rw[hov,←Nat.add_mul];exact qGe _ (by omega)
 split at he
 ·-- a nil slice
  cases hs;split at he
  ·rename_i hemp;cases he;have hnil:news=[]:=by simpa using hemp
   subst hnil;have hrun:=qbe (P:=cfg.P) (w:=w) (ty:=ty) (base:=none) (sLen:=0) (sCap:=0) hu hux hni' hti (f2 w rfl).1 (by simp) (f2 w rfl).2;exact Runs.pure' h ⟨.slice none 0 0,by simpa using hrun,.nilS⟩
  ·rename_i hemp;split at he
   ·rename_i hfit;split at he
    ·rename_i k H1 hnew;cases he;have hpos:0<news.length:=by cases news<;>simp_all
     have:=grow (olds:=[]) (ov:=[]) (base:=none) (len:=0) (cap:=0) h rfl (.nil _) rfl (by simp[Builtin.firstCells]) (by simpa using hfit) (by omega) (by simpa using hnew) (λj hj=>Ext.refl hj) (λhd=>by simpa using qkn h hx hsrc hd)
     simpa using this
    ·cases he
   ·cases he
 ·rename_i id off len;split at he
  case h_2=>cases he
  rename_i d sz rs hid;split at he
  case isFalse=>cases he
  rename_i hcn;simp only[qFJ,qGj]at hcn;obtain⟨⟨hsze,hle⟩,hfit⟩:=hcn;have hsze:=qFO hsze;subst hsze;split at he
  case h_2=>cases he
  rename_i k H1 hnew;cases he;have hkill:=h.kill id (by rw[hid];simp);have hfree:(d&&x7 H x)=true->qQ 0 ((rs.drop off).take len++news)=true:=λhd=>by
   rw[qFJ]at hd;exact qeg (yW (z8 (h.free.get hid hd.1))) (qkn h hx hsrc hd.2)
  cases hs with
  |msN _ _=>
   by_cases hemp:news=[]
   ·subst hemp;have hrun:=qbe (P:=cfg.P) (w:=w) (ty:=ty) (base:=none) (sLen:=0) (sCap:=0) hu hux hni' hti (f2 w rfl).1 (by simp) (f2 w rfl).2;simp only[List.take_zero,List.nil_append]at hnew hfree;obtain⟨n1,n2⟩:=hkill.newV hnew rfl rfl (λhd=>rfl);exact⟨.slice none 0 0,w,C,μ,by simpa using hrun,.msN _ _,n1,(Ext.kill _ (qFH _) id).trans (n2 H.length (by simp)) (qFH _)⟩
   ·have hpos:0<news.length:=by cases news<;>simp_all
    exact grow (olds:=[]) (ov:=[]) (base:=none) (len:=0) (cap:=0) hkill (by simp) (.nil _) rfl (by simp[Builtin.firstCells]) hfit (by omega) (by simpa using hnew) (λj hj=>Ext.kill j hj id) (λhd=>by simpa using hfree hd)
  |ms _ _ _ cap a m hm hl ha=>
   have hroff:yH H ei.sz (.ms id off len)=some ((rs.drop off).take len):=by
    simp[yH,vg,hid,hle]
   have hlen:((rs.drop off).take len).length=len:=by simp;omega
   obtain⟨_,_,ov,e1,e2,o1,o2,o3,_⟩:=qch (P:=cfg.P) h h0 (Rep.ms (C:=C) (μ:=μ) id off len cap a m hm hl ha) hroff;rw[hlen]at o2
   by_cases hcap:len+news.length<=cap
   ·-- it fits
    obtain⟨hlt,hcl,hsz',hle',hrows,hcells⟩:=h.liveM hid rfl hm;have hrun:=qbe (P:=cfg.P) (w:=w) (ty:=ty) (base:=some a) (sLen:=len) (sCap:=cap) hu hux hni' hti (f2 w rfl).1 hcap (f2 w rfl).2;simp only at hrun
    -- the block, by its new number
    have core:∀w',w'.heap.size=w.heap.size->(∀b,b≠m.block->w'.heap[b]? =w.heap[b]?)->w'.os=w.os->w'.tape=w.tape->w'.output=w.output ->
      (∀o,o<m.size->(vF w' m o).isSome=true∧w'.frozen? ⟨m.block,m.base+o,none⟩=false) ->
      (∀o v,o<(off+len)*ei.sz->vF w m o=some v->vF w' m o=some v) ->
      (∀(j:Nat) v,nv[j]? =some v->vF w' m ((off+len)*ei.sz+j)=some v) ->
      Wld C (upd μ k (MI.mk4 m.block (m.base+off*ei.sz) (m.size - off*ei.sz) ei.sz)) H' w'∧Ext H.length C μ H w C (upd μ k (MI.mk4 m.block (m.base+off*ei.sz) (m.size - off*ei.sz) ei.sz)) H' w':=by
     intro w' hs' hb' hos hta hou hc1 hc2 hc3;have hcll:=(h.liveH hid rfl hm _ m.has_block).2.2;have hnl:¬Live (H.set id .dead) μ m.block:=λhl'=>(hl'.of_kill).2 m hm (λid' b' m'' e1 e2 e3 hne heq=>hne (h.inj id' id b' _ m'' m e1 hid e2 rfl e3 hm _ heq m.has_block)) rfl
     have hw':Wld C μ (H.set id .dead) w':=hkill.worldG (by omega) (λb hb hlc=>hb' b (λe=>by
      subst e;rcases hlc with hlc|⟨o,ho⟩|⟨o,ho⟩
      ·exact hnl hlc
      ·exact ho (hcl o)
      ·exact ho (hcll.1 o)))
     have hfitrows:((rs.drop off).take len++news).length*ei.sz<=m.size - off*ei.sz:=by
      rw[qFU,hlen];rcases Nat.eq_zero_or_pos cap with hz0|hz0
      ·have:len+news.length=0:=by omega
       rw[this];simp
      ·have h1:=(ha (by omega)).2;rw[←hsz']at h1;have h2:(off+(len+news.length))*ei.sz<=(off+cap)*ei.sz:=qGe _ (by omega);rw[Nat.add_mul]at h2;omega
     have hoff:off*ei.sz<=m.size:=Nat.le_trans (qGe _ (by omega)) hle';have hmu:=qmN hkill hnew;have hmu':∀(M:MI) id' m'',μ id'=some m''->upd μ k M id'=some m'':=by
      intro M id' m'' hid';unfold upd;split
      ·rename_i e;subst e;rw[hmu]at hid';cases hid'
      ·exact hid'
     have hblk:xr C (upd μ k (MI.mk4 m.block (m.base+off*ei.sz) (m.size - off*ei.sz) ei.sz)) w' (MI.mk4 m.block (m.base+off*ei.sz) (m.size - off*ei.sz) ei.sz) (.rows (d&&x7 H x) ei.sz ((rs.drop off).take len++news)):=by
      refine⟨rfl,hfitrows,λi row hi=>?_,λo ho=>?_⟩
      ·rw[List.getElem?_append]at hi;split at hi
       ·rename_i hil;rw[hlen]at hil;obtain⟨_,hi'⟩:=vp hi;refine⟨(hrows _ row hi').1,λj x hj=>?_⟩;obtain⟨c1,v,c2,c3⟩:=(hrows _ row hi').2 j x hj;refine⟨c1,v,?_,c3.mono (λ_ _ _ h=>h) (hmu' _)⟩;have hj':j<ei.sz:=by rw[←(hrows _ row hi').1];exact(qFF.1 hj).1
        have h3:(off+i+1)*ei.sz<=(off+len)*ei.sz:=qGe _ (by omega);have:=hc2 ((off+i)*ei.sz+j) v (by rw[Nat.add_mul]at h3;omega) c2;unfold vF at this⊢;rw[Nat.add_mul]at this;rw[←this];simp only[]
        congr 2;omega
       ·rename_i hil;rw[hlen]at hi hil;refine⟨(f1.2 _ row hi).1,λj x hj=>?_⟩;obtain⟨c1,v,c2,c3⟩:=(f1.2 _ row hi).2 j x hj;refine⟨c1,v,?_,c3.mono (λ_ _ _ h=>h) (hmu' _)⟩;have:=hc3 _ v c2;have h3:len*ei.sz<=i*ei.sz:=qGe _ (by omega);unfold vF at this⊢;rw[Nat.add_mul,Nat.sub_mul]at this;rw[←this];simp only[]
        congr 2;omega
      ·have hlt2:off*ei.sz+o<m.size:=by
        have:o<m.size - off*ei.sz:=ho;omega
       have:=hc1 (off*ei.sz+o) hlt2;unfold vF at this⊢;simp only[Nat.add_assoc]at this⊢;exact this
     obtain⟨n1,n2,n3,n4,n5⟩:=hw'.new4 hnew hnl (by rw[hs'];exact hlt) hcl hcll rfl hblk hfree;refine⟨n1,⟨hos,hta,hou,by omega,λ_ _ _ h=>h,λid' m'' _ hm''=>⟨_,n2 id' m'' hm'',.refl _⟩,λb hb hnlb=>⟨hb' b (λe=>hnlb ⟨id,_,m,hid,rfl,hm,.inl e.symm⟩),λhl'=>?_,rfl⟩,by simpa using n3⟩⟩;rcases n4 b hl' with hl''|hl''
     ·exact hnlb hl''.of_kill.1
     ·exact hnlb ⟨id,_,m,hid,rfl,hm,.inl hl''.symm⟩
    by_cases hcap0:cap=0
    ·-- nothing at all
     have hl0:len=0:=by omega
     have hn0:news.length=0:=by omega
     have hnv:nv=[]:=by have:=f1.1;rw[hn0]at this;simpa using this
     have hnew0:news=[]:=qFZ hn0;have hst:(storeCells (a.add (len*ei.sz)) nv.toArray.toList).run cfg.P w= .ok () w:=by rw[hnv];rfl
     rw[hst,Result.andThen_ok]at hrun;obtain⟨n1,n2⟩:=core w rfl (λ_ _=>rfl) rfl rfl rfl hcells (λo v _ hv=>hv) (λj v hv=>by rw[hnv]at hv;simp at hv);refine⟨_,_,C,_,hrun,.ms k 0 _ _ a _ (by unfold upd;rw[qGq rfl]) hcap (λhne=>absurd hcap0 hne),n1,n2⟩
    ·obtain⟨rfl,hfitc⟩:=ha hcap0;rw[←hsz']at hfitc hrun⊢;have hin:∀j,j<nv.length->(off+len)*ei.sz+j<m.size:=by
      intro j hj;have h1:=f1.1;have h2:(off+(len+news.length))*ei.sz<=(off+cap)*ei.sz:=qGe _ (by omega);rw[←Nat.add_assoc,Nat.add_mul (off+len)]at h2;omega
     have hst:=run_storeCells_cells (P:=cfg.P) m.block (m.base+(off+len)*ei.sz) nv 0 w (λj hj=>by
      have:=(hcells _ (hin j hj)).1;unfold vF at this
      rwa [←Nat.add_assoc]at this) (λj hj=>by
      have:=(hcells _ (hin j hj)).2
      rwa [←Nat.add_assoc]at this) f1.one
     have hadr:(Addr.add ⟨m.block,m.base+off*ei.sz,none⟩ (len*ei.sz))=⟨m.block,m.base+(off+len)*ei.sz,none⟩:=by
      rw[y4];simp only[Nat.add_mul];congr 1;omega
     simp only[hadr,Nat.add_zero]at hrun hst;rw[hst,Result.andThen_ok]at hrun;obtain⟨s1,s2,s3,s4,s5⟩:=zL m.block nv (m.base+(off+len)*ei.sz) w;have hsome:∀j,j<nv.length->(w.cell? ⟨m.block,m.base+(off+len)*ei.sz+j,none⟩).isSome=true:=by
      intro j hj;have:=(hcells _ (hin j hj)).1;unfold vF at this
      rwa [←Nat.add_assoc]at this
     obtain⟨n1,n2⟩:=core (w.setCells m.block (m.base+(off+len)*ei.sz) nv) s1 s2 s3 s4 s5 (λo ho=>by
       refine⟨?_,by rw[World.frozen?_setCells];exact(hcells o ho).2⟩;unfold vF
       by_cases hr':(off+len)*ei.sz<=o∧o<(off+len)*ei.sz+nv.length
       ·have:=World.cell?_setCells_in m.block nv (m.base+(off+len)*ei.sz) w hsome (o - (off+len)*ei.sz) (by omega);rw[show m.base+(off+len)*ei.sz+(o - (off+len)*ei.sz)=m.base+o by omega]at this;rw[this];rfl
       ·rw[World.cell?_setCells_out]
        ·exact(hcells o ho).1
        ·intro _ _;simp;omega) (λo v ho hv=>by
       unfold vF at hv⊢;rw[World.cell?_setCells_out]
       ·exact hv
       ·intro _ _;left;simp;omega) (λj v hv=>by
       have hjl:j<nv.length:=(qFF.1 hv).1;have:=World.cell?_setCells_in m.block nv (m.base+(off+len)*ei.sz) w hsome j hjl;unfold vF;rw[←Nat.add_assoc,this,←hv,qFE hjl])
     refine⟨_,_,C,_,hrun,.ms k 0 _ _ _ _ (by unfold upd;rw[qGq rfl]) hcap (λ_=>⟨by simp,?_⟩),n1,n2⟩;show(0+cap)*ei.sz<=m.size - off*ei.sz;rw[Nat.add_mul]at hfitc;rw[qGi];omega
   ·exact grow hkill (by simp) o1 hlen (o2 _ rfl) hfit hcap hnew (λj hj=>Ext.kill j hj id) hfree
 ·cases he
variable {C C' : qk} {μ μ' : MMap} {H H' : AH} {w w' : World} {P : Program}
theorem qqD(off:Nat):∀(l:List Value) (k:Nat) (arr:Array Value),off+k+l.length<=arr.size ->
  ((l.zipIdx k).foldl (λcs (p:Value×Nat)=>cs.setIfInBounds (off+p.2) p.1) arr).toList=arr.toList.take (off+k)++l++arr.toList.drop (off+k+l.length)
 |[],k,arr,_=>by simp
 |v::rest,k,arr,h=>by
  simp only[List.zipIdx_cons,List.foldl_cons];have ih:=qqD off rest (k+1) (arr.setIfInBounds (off+k) v) (by simp at h⊢;omega);rw[show off+(k+1)=off+k+1 by omega]at ih;rw[ih,Array.toList_setIfInBounds];have:=list_seg_step arr.toList (off+k) v rest (by simp at h⊢;omega)
  simpa [Nat.add_assoc]using this
theorem qmh(off:Nat)(v:Value)(vs:List Value)(hv:v.cells=vs.toArray)(arr:Array Value)(h:off+vs.length<=arr.size):
  (v.cells.zipIdx.foldl (λcs (c,j)=>cs.setIfInBounds (off+j) c) arr).toList=arr.toList.take off++vs++arr.toList.drop (off+vs.length):=by
 rw[hv,←Array.foldl_toList];have:=qqD off vs 0 arr (by simpa using h)
 simpa using this
def yF[Lent](C:qk)(μ:MMap)(cs:List AV)(vs:List Value):Prop:=cs.length=vs.length∧∀(i:Nat) x v,cs[i]? =some x->vs[i]? =some v->x.isCell=true∧Rep C μ x v
theorem Rep.fg1[Lent]{a:AV}{v:Value}(h:Rep C μ a v):Rep C μ a.fg1 v:=by
 cases h with
 |nilS=>exact .slNil
 |int k n=>exact .int k n
 |bool b=>exact .bool b
 |str s=>exact .str s
 |agg cs vs hl ih=>exact .agg cs vs hl ih
 |tup cs vs hl ih=>exact .tup cs vs hl ih
 |slNil=>exact .slNil
 |em a cap=>exact .sl [] a cap 0 (λ_ _=>undef) (λh=>absurd rfl h) (λi row h=>by simp at h) (λi j row x h=>by simp at h) (λi j row x h=>by simp at h) (λi j row x h=>by simp at h) (Nat.zero_le _) rfl
 |sl rows a cap sz vals h1 h2 h3 h4 h5 h6 h7=>exact .sl rows a cap sz vals h1 h2 h3 h4 h5 h6 h7
 |ms id off len cap a m h1 h2 h3=>exact .ms id off len cap a m h1 h2 h3
 |msN id off=>exact .msN id off
 |nilP=>exact .nilP
 |ptr id row off m hm=>exact .ptr id row off m hm
 |cptr cells off b o vals h1 h2=>exact .cptr cells off b o vals h1 h2
 |fn f first caps vf vc h1 h2 h3 h4=>exact .fn f first caps vf vc h1 h2 h3 h4
 |yld id m hm=>exact .yld id m hm
 |nilF=>exact .nilF
 |nilM=>exact .nilM
 |mp id m hm=>exact .mp id m hm
 |nilI=>exact .nilI
 |ifc t a v h=>exact .ifc t a v h
 |lsl rows v h=>exact .lsl rows v h
 |lpt cells off b o vals h1 h2=>exact .lpt cells off b o vals h1 h2
 |rsl id rows v D h1 h2=>exact .rsl id rows v D h1 h2
 |rpt id cells off b o vals m h1 h2 h3=>exact .rpt id cells off b o vals m h1 h2 h3
 |alt l i a v h1 h2=>exact .alt l i a v h1 h2
 |wr n a ad c hn h1=>
  cases a with
  |sl rows=>exact h1.takeW hn
  |_=>exact .wr n _ ad c hn h1
 |junk v=>exact .junk v
theorem quO{a:AV}(h:a.isCell=true):a.fg1.isCell=true:=by
 cases a<;>simp_all [AV.fg1,AV.isCell]
theorem yF.fgs[Lent]{cs:List AV}{vs:List Value}(h:yF C μ cs vs)(cfg:Cfg)(t:TypeId):yF C μ (cfg.fgs t cs) vs:=by
 unfold Cfg.fgs;split
 ·refine⟨by simpa using h.1,λi x v hx hv=>?_⟩;obtain⟨y,hy,rfl⟩:=qw hx;exact⟨quO (h.2 i y v hy hv).1,(h.2 i y v hy hv).2.fg1⟩
 ·exact h
theorem yF.fga[Lent]{cs:List AV}{vs:List Value}(h:yF C μ cs vs)(cfg:Cfg)(t:TypeId):yF C μ (cfg.fga t cs) vs:=by
 unfold Cfg.fga;split
 ·exact h
 ·exact h.fgs cfg t
theorem quZ(cfg:Cfg)(t:TypeId)(cs:List AV):(cfg.fga t cs).length=cs.length:=by
 unfold Cfg.fga Cfg.fgs;split
 ·rfl
 ·split<;>simp
theorem qtB{α β:Type}{R:α->β->Prop}{a a':List α}{b b':List β}{off:Nat}(hl:a.length=b.length)(h:∀(i:Nat) x y,a[i]? =some x->b[i]? =some y->R x y)(hl':a'.length=b'.length)(h':∀(i:Nat) x y,a'[i]? =some x->b'[i]? =some y->R x y)(hf:off+a'.length<=a.length):
  (a.take off++a'++a.drop (off+a'.length)).length=(b.take off++b'++b.drop (off+b'.length)).length ∧
   ∀(i:Nat) x y,(a.take off++a'++a.drop (off+a'.length))[i]? =some x->(b.take off++b'++b.drop (off+b'.length))[i]? =some y->R x y:=by
 refine⟨by simp;omega,λi x y hx hy=>?_⟩
 by_cases h1:i<off
 ·rw[qFX (by simp;omega),qFX (by simp;omega),List.getElem?_take,qGq h1]at hx hy;exact h i x y hx hy
 ·by_cases h2:i<off+a'.length
  ·rw[qFX (by simp;omega),qF0 (by simp;omega)]at hx hy;simp only[qF9]at hx hy;rw[show i - min off a.length=i - off by omega]at hx;rw[show i - min off b.length=i - off by omega]at hy;exact h' _ x y hx hy
  ·rw[qF0 (by simp;omega)]at hx hy;simp only[qFU,qF9]at hx hy;rw[List.getElem?_drop,show off+a'.length+(i - (min off a.length+a'.length))=i by omega]at hx;rw[List.getElem?_drop,show off+b'.length+(i - (min off b.length+b'.length))=i by omega]at hy;exact h i x y hx hy
theorem qev[Lent]{place:Nat->Option (Nat×Nat)}:∀{parts:List (Nat×AV)} {vparts:List (Nat×Value)} {cells cells':List AV} {vs:List Value},qd7 place cells parts=some cells'->yF C μ cells vs ->
  parts.length=vparts.length->(∀(i:Nat) p q,parts[i]? =some p->vparts[i]? =some q->p.1=q.1∧Rep C μ p.2 q.2)->∃vs':Array Value,Instr.fill place vs.toArray vparts=some vs'∧yF C μ cells' vs'.toList
 |[],vparts,cells,cells',vs,h,hc,hl,hp=>by
  have:vparts=[]:=qFZ (by simpa using hl.symm);subst this;simp[qd7]at h;subst h;exact⟨vs.toArray,rfl,by simpa using hc⟩
 |(i,x)::rest,vparts,cells,cells',vs,h,hc,hl,hp=>by
  cases vparts with
  |nil=>simp at hl
  |cons q vrest=>
   obtain⟨hq1,hq2⟩:=hp 0 (i,x) q rfl rfl;obtain⟨j,v⟩:=q;simp only at hq1 hq2;subst hq1;rw[qd7]at h;split at h
   ·rename_i off size cs hpl hcs;split at h
    ·rename_i hcond;simp only[qFJ,beq_iff_eq,qGj]at hcond;obtain⟨ws,e1,e2,e3,e4⟩:=hq2.cells hcs;have hfit:off+ws.length<=vs.toArray.size:=by have:=hc.1;simp;omega
     have hfold:=qmh off v ws e1 vs.toArray hfit;obtain⟨s1,s2⟩:=qtB (R:=λx y=>x.isCell=true∧Rep C μ x y) (off:=off) hc.1 hc.2 e2 e4 (by omega);have hcr:yF C μ (cells.take off++cs++cells.drop (off+size)) (vs.take off++ws++vs.drop (off+ws.length)):=by
      rw[←hcond.1];exact⟨s1,s2⟩
     obtain⟨vs',g1,g2⟩:=qev h hcr (by simpa using hl) (λk p q hk hk'=>hp (k+1) p q (by simpa using hk) (by simpa using hk'));refine⟨vs',?_,g2⟩;rw[Instr.fill,hpl];simp only;have hsz:v.cells.size=size:=by rw[e1];simp;omega
     have hsz2:¬(v.cells.size≠size||decide (off+v.cells.size>vs.toArray.size))=true:=by
      rw[hsz];simp;have:=hc.1;omega
     rw[qGr (by simpa using hsz2)];have:v.cells.zipIdx.foldl (λcs (c,j)=>cs.setIfInBounds (off+j) c) vs.toArray=(vs.take off++ws++vs.drop (off+ws.length)).toArray:=by
      apply Array.ext';rw[hfold]
     rw[this];exact g1
    ·cases h
   ·cases h
theorem qn3[Lent]{x:Operand->AV}{ρ:Operand->Value}(hx:∀a,Rep C μ (x a) (ρ a))(parts:Array (Nat×Operand)):
  (parts.toList.map λp=>(p.1,x p.2)).length=(parts.map fun(i,x)=>(i,ρ x)).toList.length ∧
   ∀(i:Nat) p q,(parts.toList.map λp=>(p.1,x p.2))[i]? =some p->(parts.map fun(i,x)=>(i,ρ x)).toList[i]? =some q->p.1=q.1∧Rep C μ p.2 q.2:=by
 refine⟨by simp,λi p q hp hq=>?_⟩;obtain⟨o,ho,rfl⟩:=qw hp;rw[Array.toList_map]at hq;obtain⟨o',ho',rfl⟩:=qw hq;rw[ho]at ho';cases ho';exact⟨rfl,hx _⟩
theorem qcC[Lent]{ti:TI}{z:Value}(hz:ti.zero=z.cells.toList.map xA)(ha:xZ ti.zero=true):yF C μ ti.zero z.cells.toList:=by
 rw[qh2]at ha;refine⟨by rw[hz];simp,λi x v hx hv=>⟨ha i x hx,?_⟩⟩;rw[hz]at hx;obtain⟨y,hy,rfl⟩:=qw hx;rw[hv]at hy;cases hy;exact qbh _
theorem qlC{cfg:Cfg}(hc:CfgTy cfg):∀(fs:List Field) {ps:List (Nat×Nat)},qaX cfg (fs.map λf=>(f.offset,f.type))=some ps ->
  (fs.mapM (λf=>do pure (f.offset,←sizeOf f.type):Field->Sem (Nat×Nat))).run cfg.P w= .ok ps w
 |[],ps,h=>by simp[qaX]at h;subst h;simp
 |f::fs,ps,h=>by
  simp only[List.map_cons,qaX]at h;split at h
  ·rename_i n ps' hn hps;cases h;obtain⟨ti,hti,rfl⟩:=hc.sz hn;have ih:=qlC hc fs hps;simp only[List.mapM_cons,Sem.run_bind,qS hti,Result.andThen_ok,Sem.run_pure,ih]
  ·cases h
theorem qsE[Lent]{cfg:Cfg}(hc:CfgTy cfg){t:TypeId}{parts:Array (Nat×Operand)}{x:Operand->AV}{ρ:Operand->Value}(hx:∀a,Rep C μ (x a) (ρ a)){nid:Option Nat}{ty:TypeId}{r:AV}(he:evOp cfg nid (.build t parts) ty x H=some (r,H')):H'=H∧∃v,(Instr.build t (parts.map fun(i,x)=>(i,ρ x))).run cfg.P w= .ok v w∧Rep C μ r v:=by
 simp only[evOp]at he;split at he
 ·rename_i ti hti;split at he
  ·rename_i hall;have ht:=hc.ty _ _ hti;obtain⟨i,u,z,e1,e2,e3,e4⟩:=z4 ht;obtain⟨z',hz1,hz2⟩:=qaK ht w;have hzc:=qcC (C:=C) (μ:=μ) hz2 hall;obtain⟨p1,p2⟩:=qn3 hx parts;split at he
   ·rename_i fs hfs;split at he
    ·rename_i ps hps;obtain⟨cs,hcs,hcs2⟩:=qFM.1 he;cases hcs2;have hd:tdOf u= .struct fs:=by rw[e4]at hfs;exact hfs
     obtain⟨flds,rfl,rfl⟩:=qhb hd;obtain⟨vs',g1,g2⟩:=qev hcs hzc p1 p2;refine⟨rfl,.agg vs',?_,?_⟩
     ·have hpl:=qlC (w:=w) hc flds.toList hps;have hpl':(flds.mapM (λf=>do pure (f.offset,←sizeOf f.type):Field->Sem (Nat×Nat))).run cfg.P w= .ok ps.toArray w:=by
       rw[Array.mapM_eq_mapM_toList];simp only[Sem.run_map,hpl,Result.andThen_ok]
      simp only[Instr.build,Sem.run_bind,hz1,Result.andThen_ok,run_underlying e2,hpl'];have:(fun(x:Nat)=>ps.toArray[x]?)=fun(i:Nat)=>ps[i]? :=by funext k;simp
      rw[this,show z'.cells=z'.cells.toList.toArray by simp,g1];simp
     ·have g3:=g2.fga cfg t;have:=Rep.agg (C:=C) (μ:=μ) (cfg.fga t cs) vs'.toList g3.1 (λi a v h1 h2=>(g3.2 i a v h1 h2).2)
      simpa using this
    ·cases he
   ·rename_i n e hfs;split at he
    ·rename_i sz hsz;obtain⟨cs,hcs,hcs2⟩:=qFM.1 he;cases hcs2;have hd:tdOf u= .array n e:=by rw[e4]at hfs;exact hfs
     have:=qdb hd;subst this;obtain⟨te,hte,rfl⟩:=hc.sz hsz;obtain⟨vs',g1,g2⟩:=qev hcs hzc p1 p2;refine⟨rfl,.agg vs',?_,?_⟩
     ·simp only[Instr.build,Sem.run_bind,hz1,Result.andThen_ok,run_underlying e2,qS hte];rw[show z'.cells=z'.cells.toList.toArray by simp,g1];simp
     ·have:=Rep.agg (C:=C) (μ:=μ) cs vs'.toList g2.1 (λi a v h1 h2=>(g2.2 i a v h1 h2).2)
      simpa using this
    ·cases he
   ·cases he
  ·cases he
 ·cases he
theorem vr.one_row[Lent]{n:Nat}{cs:List AV}{vs:List Value}(hn:cs.length=n)(h:yF C μ cs vs):vr C μ n [cs] vs:=by
 refine⟨by rw[←h.1,hn];simp,λi row hi=>?_⟩;cases i with
 |zero=>
  simp at hi;subst hi;refine⟨hn,λj x hj=>?_⟩;have hjl:j<vs.length:=by rw[←h.1];exact(qFF.1 hj).1
  obtain⟨e1,e2⟩:=h.2 j x _ hj (qFE hjl);exact⟨e1,vs[j],by simp[hjl],e2⟩
 |succ i=>simp at hi
theorem vr.drop[Lent]{n:Nat}{rows:List (List AV)}{vs:List Value}(h:vr C μ n rows vs)(k:Nat):vr C μ n (rows.drop k) (vs.drop (k*n)):=by
 refine⟨by rw[List.length_drop,List.length_drop,h.1,Nat.sub_mul],λi row hi=>?_⟩;rw[List.getElem?_drop]at hi;refine⟨(h.2 _ row hi).1,λj x hj=>?_⟩;obtain⟨e1,v,e2,e3⟩:=(h.2 _ row hi).2 j x hj;refine⟨e1,v,?_,e3⟩;rw[List.getElem?_drop,←e2,Nat.add_mul]
 congr 1;omega
theorem qfa[Lent]{ti:TI}{z:Value}(hz:ti.zero=z.cells.toList.map xA)(hr:zU ti=true)(len:Nat):vr C μ ti.sz (qGd len ti.zero) ((Array.range (len*ti.sz)).map (z.cells[· % z.cells.size]!)).toList:=by
 simp only[zU,qFJ,Nat.blt_eq]at hr;obtain⟨⟨h0,hl⟩,ha⟩:=hr;have hl:=qFO hl;have hzc:=qcC (C:=C) (μ:=μ) hz ha;have hzs:z.cells.size=ti.sz:=by rw[hz]at hl;simpa using hl
 refine⟨by simp,λi row hi=>?_⟩;have hil:i<len:=by simpa using (qFF.1 hi).1
 rw[List.getElem?_replicate,qGq hil]at hi;cases hi;refine⟨hl,λj x hj=>?_⟩;have hjl:j<ti.sz:=by rw[←hl];exact(qFF.1 hj).1
 have hjz:j<z.cells.size:=by omega
 obtain⟨e1,e2⟩:=hzc.2 j x z.cells[j] hj (by simp[hjz]);refine⟨e1,z.cells[j],?_,e2⟩;have hlt:i*ti.sz+j<len*ti.sz:=by
  have:(i+1)*ti.sz<=len*ti.sz:=qGe _ hil;rw[Nat.add_mul]at this;omega
 have hmod:(i*ti.sz+j) % z.cells.size=j:=by rw[hzs,Nat.mul_comm,Nat.mul_add_mod,Nat.mod_eq_of_lt hjl]
 simp[hlt,hmod,hjz]
theorem qki[Lent]{n:Nat}:∀{parts:List (Nat×AV)} {vparts:List (Nat×Value)} {rows rows':List (List AV)} {vs:List Value},qca n rows parts=some rows'->vr C μ n rows vs ->
  parts.length=vparts.length->(∀(i:Nat) p q,parts[i]? =some p->vparts[i]? =some q->p.1=q.1∧Rep C μ p.2 q.2)->∃vs':Array Value,Instr.fill (λi=>some (i*n,n)) vs.toArray vparts=some vs'∧vr C μ n rows' vs'.toList
 |[],vparts,rows,rows',vs,h,hc,hl,hp=>by
  have:vparts=[]:=qFZ (by simpa using hl.symm);subst this;simp[qca]at h;subst h;exact⟨vs.toArray,rfl,by simpa using hc⟩
 |(i,x)::rest,vparts,rows,rows',vs,h,hc,hl,hp=>by
  cases vparts with
  |nil=>simp at hl
  |cons q vrest=>
   obtain⟨hq1,hq2⟩:=hp 0 (i,x) q rfl rfl;obtain⟨j,v⟩:=q;simp only at hq1 hq2;subst hq1;rw[qca]at h;split at h
   ·rename_i cs hcs;split at h
    ·rename_i hcond;simp only[qFJ,beq_iff_eq,Nat.blt_eq]at hcond;obtain⟨ws,e1,e2,e3,e4⟩:=hq2.cells hcs;have hmul:i*n+n<=rows.length*n:=by
      have:(i+1)*n<=rows.length*n:=qGe _ hcond.2;rw[Nat.add_mul]at this;omega
     have hfit:i*n+ws.length<=vs.toArray.size:=by have:=hc.1;simp;omega
     have hfold:=qmh (i*n) v ws e1 vs.toArray hfit;have hset:rows.set i cs=rows.take i++[cs]++rows.drop (i+1):=by
      rw[List.set_eq_take_append_cons_drop,qGq hcond.2];simp
     have hfl:vr C μ n (rows.set i cs) (vs.take (i*n)++ws++vs.drop (i*n+ws.length)):=by
      rw[hset];refine((hc.take i).append (vr.one_row hcond.1 ⟨e2,e4⟩)).append ?_;have:=hc.drop (i+1);rw[Nat.add_mul]at this;rw[show i*n+ws.length=i*n+1*n by omega];exact this
     obtain⟨vs',g1,g2⟩:=qki h hfl (by simpa using hl) (λk p q hk hk'=>hp (k+1) p q (by simpa using hk) (by simpa using hk'));refine⟨vs',?_,g2⟩;rw[Instr.fill];simp only;have hsz:v.cells.size=n:=by rw[e1];simp;omega
     have hsz2:¬(v.cells.size≠n||decide (i*n+v.cells.size>vs.toArray.size))=true:=by
      rw[hsz];simp;have:=hc.1;omega
     rw[qGr (by simpa using hsz2)];have:v.cells.zipIdx.foldl (λcs (c,j)=>cs.setIfInBounds (i*n+j) c) vs.toArray=(vs.take (i*n)++ws++vs.drop (i*n+ws.length)).toArray:=by
      apply Array.ext';rw[hfold]
     rw[this];exact g1
    ·cases h
   ·cases h
variable {C C' : qk} {μ μ' : MMap} {H H' : AH} {w w' : World} {P : Program}
theorem qde{ti:TI}(h:zU ti=true):0<ti.sz∧ti.zero.length=ti.sz∧xZ ti.zero=true:=by
 simp only[zU,qFJ,Nat.blt_eq]at h;exact⟨h.1.1,qFO h.1.2,h.2⟩
theorem qnW[Lent](h:Wld C μ H w){d:Bool}(d':Bool){id off:Nat}{sz:Nat}{rs news:List (List AV)}{vs:List Value}{m:MI}(hid:H[id]? =some (.rows d sz rs))(hm:μ id=some m)(hf:vr C μ sz news vs)(hfit:off+news.length<=rs.length)(hfr:d'=true->d=true∧qQ 0 news=true):
  (storeCells ⟨m.block,m.base+off*sz,none⟩ vs).run P w= .ok () (w.setCells m.block (m.base+off*sz) vs) ∧
   Wld C μ (H.set id (.rows d' sz (rs.take off++news++rs.drop (off+news.length)))) (w.setCells m.block (m.base+off*sz) vs) ∧
   (∀k,k<=H.length->Ext k C μ H w C μ (H.set id (.rows d' sz (rs.take off++news++rs.drop (off+news.length)))) (w.setCells m.block (m.base+off*sz) vs)):=by
 obtain⟨hlt,hcl,hsz,hle,hrows,hcells⟩:=h.liveM hid rfl hm;have hmul:off*sz+news.length*sz<=rs.length*sz:=by rw[←Nat.add_mul];exact qGe _ hfit
 have hvl:=hf.1;have hc0:∀j,j<vs.length->(w.cell? ⟨m.block,m.base+off*sz+0+j,none⟩).isSome=true∧w.frozen? ⟨m.block,m.base+off*sz+0+j,none⟩=false:=by
  intro j hj;have:=hcells (off*sz+j) (by omega);unfold vF at this
  rwa [show m.base+(off*sz+j)=m.base+off*sz+0+j by omega]at this
 have hrun:=run_storeCells_cells (P:=P) m.block (m.base+off*sz) vs 0 w (λj hj=>(hc0 j hj).1) (λj hj=>(hc0 j hj).2) hf.one;simp only[Nat.add_zero]at hrun hc0;obtain⟨s1,s2,s3,s4,s5⟩:=zL m.block vs (m.base+off*sz) w;have hb:xr C μ (w.setCells m.block (m.base+off*sz) vs) m (.rows d' sz (rs.take off++news++rs.drop (off+news.length))):=by
  refine⟨hsz,?_,λi row hi=>?_,λo ho=>?_⟩
  ·have:(rs.take off++news++rs.drop (off+news.length)).length=rs.length:=by simp;omega
   rw[this];exact hle
  ·by_cases h1:i<off
   ·rw[qFX (by simp;omega),qFX (by simp;omega),List.getElem?_take,qGq h1]at hi;refine⟨(hrows i row hi).1,λj x hj=>?_⟩;obtain⟨c1,v,c2,c3⟩:=(hrows i row hi).2 j x hj;refine⟨c1,v,?_,c3⟩;have hj':j<sz:=by rw[←(hrows i row hi).1];exact(qFF.1 hj).1
    have h2:(i+1)*sz<=off*sz:=qGe _ h1;rw[Nat.add_mul]at h2;unfold vF at c2⊢;rw[World.cell?_setCells_out]
    ·exact c2
    ·intro _ _;left;simp;omega
   ·by_cases h2:i<off+news.length
    ·rw[qFX (by simp;omega),qF0 (by simp;omega)]at hi;simp only[qF9]at hi;rw[show i - min off rs.length=i - off by omega]at hi;refine⟨(hf.2 _ row hi).1,λj x hj=>?_⟩;obtain⟨c1,v,c2,c3⟩:=(hf.2 _ row hi).2 j x hj;refine⟨c1,v,?_,c3⟩;have hjl:(i - off)*sz+j<vs.length:=(qFF.1 c2).1;have:=World.cell?_setCells_in m.block vs (m.base+off*sz) w (λj hj=>(hc0 j hj).1) _ hjl
     unfold vF;have h3:off*sz<=i*sz:=qGe _ (by omega);have e1:some vs[(i - off)*sz+j]=some v:=by rw[←qFE hjl];exact c2
     have e2:m.base+off*sz+((i - off)*sz+j)=m.base+(i*sz+j):=by rw[Nat.sub_mul];omega
     rw[e2,e1]at this;exact this
    ·rw[qF0 (by simp;omega)]at hi;simp only[qFU,qF9]at hi;rw[List.getElem?_drop,show off+news.length+(i - (min off rs.length+news.length))=i by omega]at hi;refine⟨(hrows i row hi).1,λj x hj=>?_⟩;obtain⟨c1,v,c2,c3⟩:=(hrows i row hi).2 j x hj;refine⟨c1,v,?_,c3⟩;have h3:(off+news.length)*sz<=i*sz:=qGe _ (by omega);rw[Nat.add_mul]at h3
     unfold vF at c2⊢;rw[World.cell?_setCells_out]
     ·exact c2
     ·intro _ _;right;simp;omega
  ·refine⟨?_,by rw[World.frozen?_setCells];exact(hcells o ho).2⟩;unfold vF
   by_cases hr':off*sz<=o∧o<off*sz+vs.length
   ·have:=World.cell?_setCells_in m.block vs (m.base+off*sz) w (λj hj=>(hc0 j hj).1) (o - off*sz) (by omega);rw[show m.base+off*sz+(o - off*sz)=m.base+o by omega]at this;rw[this];rfl
   ·rw[World.cell?_setCells_out]
    ·exact(hcells o ho).1
    ·intro _ _;simp;omega
 exact⟨hrun,h.setBlk hid rfl rfl hm s1 s2 hb (λhd=>qeg (qeg (yW (h.free.get hid (hfr hd).1)) (hfr hd).2) (z8 (h.free.get hid (hfr hd).1))),λk hk=>Ext.setBlk h hid rfl hm s1 s2 s3 s4 s5 hk⟩
theorem qsK[Lent]{cfg:Cfg}(hc:CfgTy cfg)(h:Wld C μ H w){t xt ty:TypeId}{d s r:AV}{vd vs:Value}(he:qi8 cfg t d s H=some (r,H'))(hd:Rep C μ d vd)(hs:Rep C μ s vs):
  Runs cfg.P (Builtin.copy_ #[t,xt] ty #[vd,vs]) C μ H w r H':=by
 unfold qi8 at he;split at he
 case h_2=>cases he
 rename_i e id off len ht;split at he
 case h_2=>cases he
 rename_i n d sz rs hn hid;split at he
 case h_2=>cases he
 rename_i news hsrc;split at he
 case isFalse=>cases he
 rename_i hcn;simp only[qFJ,qGj,Nat.blt_eq]at hcn;obtain⟨⟨hsz,hle⟩,h0⟩:=hcn;have hsz:=qFO hsz;subst hsz;cases he;obtain⟨tt,u,_,_,hu,hdd⟩:=hc.td ht;have:=vG hdd;subst this;obtain⟨te,hte,rfl⟩:=hc.sz hn;cases hd with
 |msN _ _=>
  obtain⟨nv,hb1,hb2⟩:=qmH (P:=cfg.P) h h0 hs hsrc;obtain⟨hb3,hb4⟩:=hb2 w rfl;have hf0:(Builtin.firstCells te.sz 0 vs).run cfg.P w= .ok #[] w:=by
   unfold yv at hsrc;split at hsrc
   ·split at hsrc
    ·cases hs;simp[Builtin.firstCells]
    ·cases hsrc
   ·obtain⟨a',cap',sv,rfl,_⟩:=qch (P:=cfg.P) h h0 hs hsrc;cases a'<;>simp[Builtin.firstCells,loadCells,loadCellsFrom]
  have hH:H.set id (.rows (d&&x7 H s) te.sz (rs.take off++news.take 0++rs.drop (off+(news.take 0).length)))=H.set id (.rows (d&&x7 H s) te.sz rs):=by simp
  refine⟨goInt (Nat.min news.length 0),w,C,μ,?_,by simpa [goInt]using Rep.int (C:=C) (μ:=μ) .i64 0,?_,?_⟩
  ·unfold Builtin.copy_;simp[run_underlying hu,hb3,qS hte,hf0]
  ·rw[hH];exact h.weaken hid (λhd=>by rw[qFJ]at hd;exact hd.1)
  ·rw[hH];exact h.weakenX hid _ (qFH _)
 |ms _ _ _ cap a m hm hl ha=>
  -- what is copied, read whole; of it the part that goes over
  have hread:∃nv:List Value,vr C μ te.sz (news.take len) nv∧(Builtin.lenOf vs).run cfg.P w= .ok news.length w∧(Builtin.firstCells te.sz (Nat.min news.length len) vs).run cfg.P w= .ok nv.toArray w:=by
   unfold yv at hsrc;split at hsrc
   ·rename_i b;split at hsrc
    ·rename_i h1;have h1':=qFO h1;cases hsrc;cases hs;refine⟨(b.map λb=>Value.int .u8 b.toNat).take len,?_,by simp[Builtin.lenOf,qah,ByteArray.size],?_⟩
     ·rw[h1'];have:=(qcB (C:=C) (μ:=μ) b).take len
      simpa using this
     ·simp only[Builtin.firstCells,qah];have hx:((⟨b.toArray⟩:ByteArray).extract 0 (Nat.min b.length len)).data.toList=b.take len:=by
       rw[Lib.extract_data];show qFN (Nat.min b.length len - 0) (qGb 0 b)=_;rw[List.drop_zero,Nat.sub_zero];rcases Nat.le_total b.length len with hh|hh
       ·rw[show Nat.min b.length len=b.length from Nat.min_eq_left hh,qFP (qFH _),qFP hh]
       ·rw[show Nat.min b.length len=len from Nat.min_eq_right hh]
      simp only[Sem.run_pure]
      congr 1
      apply Array.ext';rw[Array.toList_map,hx,List.map_take]
    ·cases hsrc
   ·obtain⟨a',cap',sv,rfl,e2,e3,e4,e5,e6⟩:=qch (P:=cfg.P) h h0 hs hsrc;refine⟨sv.take (len*te.sz),e3.take len,rfl,?_⟩;cases a' with
    |none=>
     have:=e6 rfl;subst this;have hsv:sv=[]:=by have:=e3.1;simpa using this
     subst hsv;simp[Builtin.firstCells]
    |some b=>
     have hmin:(sv.take (len*te.sz)).length=Nat.min news.length len*te.sz:=by
      rw[qF9,e3.1,Nat.mul_min_mul_right,Nat.min_comm]
     have:=run_loadCells_list (P:=cfg.P) w b (sv.take (len*te.sz)) (λk v hk=>by
      rw[List.getElem?_take]at hk;split at hk
      ·exact e5 b rfl k v hk
      ·cases hk)
     rw[hmin]at this
     simpa [Builtin.firstCells]using this
  obtain⟨nv,f1,f2,f3⟩:=hread;have hfit:off+(news.take len).length<=rs.length:=by simp;omega
  obtain⟨r1,r2,r3⟩:=qnW (P:=cfg.P) h (d&&x7 H s) hid hm f1 hfit (λhd=>by rw[qFJ]at hd;exact⟨hd.1,yW (qkn h hs hsrc hd.2)⟩);have hlen:(Builtin.lenOf vs).run cfg.P w= .ok news.length w:=f2;have base:(Builtin.copy_ #[t,xt] ty #[.slice (some a) len cap,vs]).run cfg.P w=((storeCells a nv).run cfg.P w).andThen λ_ w'=>.ok (goInt (Nat.min news.length len)) w':=by
   unfold Builtin.copy_;simp only[List.getElem?_toArray,List.getElem?_cons_zero,List.getElem?_cons_succ,Sem.run_bind,run_underlying hu,Result.andThen_ok,hlen,qS hte,f3,Sem.run_pure]
  by_cases hz:cap=0
  ·have hl0:len=0:=by omega
   subst hl0;have hnv:nv=[]:=by have:=f1.1;simpa using this
   subst hnv;refine⟨goInt (Nat.min news.length 0),w,C,μ,by rw[base];rfl,.int _ _,?_,?_⟩
   ·have:=r2;simpa [World.setCells]using this
   ·have:=r3 _ (qFH _);simpa [World.setCells]using this
  ·obtain⟨rfl,_⟩:=ha hz;have hms:=qmF (id:=id) (sz:=te.sz) (rs:=rs) h (by simp[vg,hid]) hm;rw[←hms,r1,Result.andThen_ok]at base;rw[←hms];exact⟨goInt (Nat.min news.length len),_,C,μ,base,.int _ _,r2,r3 _ (qFH _)⟩
theorem qo3(z:Array Value)(n:Nat):Builtin.zeroCells z n=(Array.range (n*z.size)).map (z[· % z.size]!):=rfl
theorem qbd{r:Nat}{es:Array MapEntry}{c:Nat}(h:w.heap[r]? =some (.map es c)):(getObj r).run P w= .ok (.map es c) w:=by simp[getObj,Sem.run,h]
theorem qfq{r:Nat}{es:Array MapEntry}{c:Nat}(h:w.heap[r]? =some (.map es c))(es':Array MapEntry)(c':Nat):(setObj r (.map es' c')).run P w= .ok () (w.putObj r (.map es' c')):=by simp[setObj,Sem.run,h,World.putObj]
theorem qnh[Lent](h:Wld C μ H w){id:Nat}{d0:Bool}{es:List (AV×AV)}{m:MI}(hi:H[id]? =some (.mp d0 es))(hm:μ id=some m)(d1:Bool){es':List (AV×AV)}(hfr:(ABlk.mp d1 es').Free){arr:Array MapEntry}{c:Nat}(hl:arr.size=es'.length)(hr:∀(i:Nat) e me,es'[i]? =some e->arr[i]? =some me->Rep C μ e.1 me.key∧Rep C μ e.2 me.val):
  Wld C μ (H.set id (.mp d1 es')) (w.putObj m.block (.map arr c))∧∀k,k<=H.length->Ext k C μ H w C μ (H.set id (.mp d1 es')) (w.putObj m.block (.map arr c)):=by
 obtain⟨h1,_,_⟩:=h.liveM hi rfl hm;exact⟨h.setBlk hi rfl rfl hm (by simp) (λb hb=>World.putObj_heap_other hb) ⟨arr,c,World.putObj_heap_same h1,hl,hr⟩ hfr,
  λk hk=>Ext.setBlk h hi rfl hm (by simp) (λb hb=>World.putObj_heap_other hb) rfl rfl rfl hk⟩
theorem qrc[Lent]{cfg:Cfg}(hc:CfgTy cfg)(h:Wld C μ H w){t ty:TypeId}{x:AV}{vx:Value}(he:qe6 cfg t x H=some H')(hx:Rep C μ x vx):
  Runs cfg.P (Builtin.clear_ #[t] ty #[vx]) C μ H w (.tup []) H':=by
 have hres:Rep C μ (.tup []) (.tuple #[]):=.tup [] [] rfl (λi a v h=>by simp at h);unfold qe6 at he;split at he
 ·rename_i e e' ht;cases he;cases hx;obtain⟨tt,u,_,_,hu,hdd⟩:=hc.td ht;have:=qce hdd;subst this;exact Runs.pure' h ⟨.tuple #[],by simp[Builtin.clear_,run_underlying hu],hres⟩
 ·rename_i e e' id ht;split at he
  case h_2=>cases he
  rename_i d0 es hid;cases he;obtain⟨tt,u,_,_,hu,hdd⟩:=hc.td ht;have:=qce hdd;subst this;cases hx with
  |mp _ m hm=>
   obtain⟨_,_,arr,c,h3,_,_⟩:=h.liveM hid rfl hm;obtain⟨g1,g2⟩:=qnh h hid hm true (es':=[]) (λ_ i e a1=>by simp at a1) (arr:= #[]) (c:=c) rfl (λi e me a1 _=>by simp at a1);refine⟨.tuple #[],_,C,μ,?_,hres,g1,g2 _ (qFH _)⟩;simp[Builtin.clear_,run_underlying hu,qbd h3,qfq h3]
 ·rename_i e ht;cases he;cases hx;obtain⟨tt,u,_,_,hu,hdd⟩:=hc.td ht;have:=vG hdd;subst this;exact Runs.pure' h ⟨.tuple #[],by simp[Builtin.clear_,run_underlying hu],hres⟩
 ·rename_i e id off len ht;split at he
  case h_2=>cases he
  rename_i ei d sz rs hei hid;split at he
  case isFalse=>cases he
  rename_i hcn;simp only[qFJ,qGj]at hcn;obtain⟨⟨hrz,hsz⟩,hle⟩:=hcn;have hsz:=qFO hsz;subst hsz;cases he;obtain⟨tt,u,_,_,hu,hdd⟩:=hc.td ht;have:=vG hdd;subst this;have hte:=hc.ty _ _ hei;obtain⟨z,hz1,hz2⟩:=qaK hte w;obtain⟨h0,hzl,hza⟩:=qde hrz;cases hx with
  |msN _ _=>
   have hH:H.set id (.rows d ei.sz (rs.take off++qGd 0 ei.zero++rs.drop (off+0)))=H.set id (.rows d ei.sz rs):=by simp
   refine⟨.tuple #[],w,C,μ,by simp[Builtin.clear_,run_underlying hu],hres,?_,?_⟩
   ·rw[hH];exact h.weaken hid (λhd=>hd)
   ·rw[hH];exact h.weakenX hid _ (qFH _)
  |ms _ _ _ cap a m hm hl ha=>
   have hzf:=qfa (C:=C) (μ:=μ) hz2 hrz len;obtain⟨r1,r2,r3⟩:=qnW (P:=cfg.P) (off:=off) h d hid hm hzf (by simpa using hle) (λhd=>⟨hd,qjT (by rw[hz2];exact qdh 0 _)⟩);simp only[List.length_replicate]at r2 r3;have hzs:z.cells.size=ei.sz:=by rw[hz2]at hzl;simpa using hzl
   by_cases hl0:len=0
   ·subst hl0;refine⟨.tuple #[],w,C,μ,by simp[Builtin.clear_,run_underlying hu],hres,?_,?_⟩
    ·simpa [World.setCells]using r2
    ·have:=r3 _ (qFH _);simpa [World.setCells]using this
   ·obtain⟨rfl,_⟩:=ha (by omega);have hms:=qmF (id:=id) (sz:=ei.sz) (rs:=rs) h (by simp[vg,hid]) hm;rw[←hms];refine⟨.tuple #[],_,C,μ,?_,hres,r2,r3 _ (qFH _)⟩;have hst:(storeCells ⟨m.block,m.base+off*ei.sz,none⟩ (Builtin.zeroCells z.cells len).toList).run cfg.P w= .ok () (w.setCells m.block (m.base+off*ei.sz) ((Array.range (len*ei.sz)).map (z.cells[· % z.cells.size]!)).toList):=by
     rw[qo3,hzs];rw[hzs]at r1;exact r1
    obtain⟨l',rfl⟩:=Nat.exists_eq_succ_of_ne_zero hl0;unfold Builtin.clear_;simp[Sem.run_bind,run_underlying hu,Result.andThen_ok,hz1,hst,-Array.toList_map]
 ·cases he
theorem qh6[Lent]{cfg:Cfg}(hc:CfgTy cfg)(h:Wld C μ H w){nid:Option Nat}{t:TypeId}{l c r:AV}{vl vc:Value}(he:qcb cfg nid t l c H=some (r,H'))(hl:Rep C μ l vl)(hcv:Rep C μ c vc):
  ∃v w' C' μ',(Instr.makeSlice t vl vc).run cfg.P w= .ok v w'∧Rep C' μ' r v∧Wld C' μ' H' w'∧Ext H.length C μ H w C' μ' H' w'∧∀k n k' n',l= .int k n->c= .int k' n'->∃ad,v= .slice ad n.toNat n'.toNat:=by
 unfold qcb at he;split at he
 case h_2=>cases he
 rename_i e n cc ht;split at he
 case h_2=>cases he
 rename_i ei hei;split at he
 case isFalse=>cases he
 rename_i hrz;split at he
 case isFalse=>cases he
 rename_i hb;split at he
 case h_2=>cases he
 rename_i k H1 hnew;cases he;cases hl;cases hcv;obtain⟨tt,u,_,_,hu,hdd⟩:=hc.td ht;have:=vG hdd;subst this;have hte:=hc.ty _ _ hei;obtain⟨i,ue,z,hi,_,hz,hie⟩:=z4 hte;have hby:ei.bytes=i.bytes:=by rw[hie]
 have hz2:ei.zero=z.cells.toList.map xA:=by rw[hie]
 obtain⟨h0,hzl,hza⟩:=qde hrz;have hzf:=qfa (C:=C) (μ:=μ) hz2 hrz cc.toNat;have hg:Grew w (w.alloc (.cells ((Array.range (cc.toNat*ei.sz)).map (z.cells[· % z.cells.size]!)) e)) ((Array.range (cc.toNat*ei.sz)).map (z.cells[· % z.cells.size]!)) e:=Grew.alloc _ _ _;have hle:n.toNat*ei.sz<=cc.toNat*ei.sz:=qGe _ (by omega);obtain⟨g1,g2,g3⟩:=qdm h hg hnew (by simpa using hle) (λj row hj=>by
  have hjl:j<n.toNat:=by simpa using (qFF.1 hj).1
  rw[List.getElem?_replicate,qGq hjl]at hj;have hj':(qGd cc.toNat ei.zero)[j]? =some row:=by rw[List.getElem?_replicate,qGq (by omega)];exact hj
  refine⟨(hzf.2 j row hj').1,λq x hq=>?_⟩;obtain⟨c1,v,c2,c3⟩:=(hzf.2 j row hj').2 q x hq;exact⟨c1,v,by rw[←Array.getElem?_toList];exact c2,c3⟩) (λ_=>qjT (by rw[hz2];exact qdh 0 _))
 refine⟨_,_,C,_,?_,.ms k 0 n.toNat cc.toNat ⟨w.heap.size,0,none⟩ _ (by unfold upd;rw[qGq rfl]) (by omega) (λ_=>⟨by simp,by simp⟩),g1,g2 _ (qFH _),λk n k' n' e1 e2=>by cases e1;cases e2;exact⟨_,rfl⟩⟩;have w1:IntKind.i64.wrap n=n:=by
  simp[qFD,IntKind.bits,IntKind.signed];omega
 have w2:IntKind.i64.wrap cc=cc:=by
  simp[qFD,IntKind.bits,IntKind.signed];omega
 have hb1:¬((decide (cc<0)||decide ((i.bytes:Int)*cc>2 ^ 48))=true):=by
  have:=hb.2.2.1;rw[hby,Int.mul_comm]at this;simp;omega
 have hb2:¬(n<0):=by omega
 have hb3:¬(n>cc):=by omega
 have hno:¬((decide (cc<0)||decide ((i.bytes:Int)*cc>2 ^ 48)||decide (n<0)||decide (n>cc))=true):=by
  simp at hb1⊢;omega
 unfold Instr.makeSlice;simp only[Sem.run_bind,run_underlying hu,Result.andThen_ok,asInt,asIntOf,Sem.run_pure,zr hi,w1,w2];rw[qGr hno];have harr:(Array.range (cc.toNat*ei.sz)).map (λx=>(if cc.toNat*ei.sz=0 then #[]else z.cells)[x % (if cc.toNat*ei.sz=0 then(#[]:Array Value)else z.cells).size]!)=(Array.range (cc.toNat*ei.sz)).map (z.cells[· % z.cells.size]!):=by
  by_cases hc0:cc.toNat*ei.sz=0
  ·rw[hc0];simp
  ·simp only[qGr hc0]
 by_cases hc0:cc.toNat*ei.sz=0
 ·simp only[qGq hc0]at harr;simp only[Sem.run_bind,Sem.run_pure,Result.andThen_ok,run_askRoom,qS hte,qGq hc0,newRow,run_newObj,World.alloc_eq,harr]
 ·simp only[Sem.run_bind,Sem.run_pure,Result.andThen_ok,run_askRoom,qS hte,qGr hc0,zeroValue,zr hi,hz,newRow,run_newObj,World.alloc_eq]
theorem qsI[Lent]{cfg:Cfg}(hc:CfgTy cfg)(h:Wld C μ H w){nid:Option Nat}{t:TypeId}{l c r:AV}{vl vc:Value}(he:qcb cfg nid t l c H=some (r,H'))(hl:Rep C μ l vl)(hcv:Rep C μ c vc):
  Runs cfg.P (Instr.makeSlice t vl vc) C μ H w r H':=
 let⟨v,w',C',μ',h1,h2,h3,h4,_⟩:=qh6 hc h he hl hcv
 ⟨v,w',C',μ',h1,h2,h3,h4⟩
theorem qq8[Lent]{cfg:Cfg}(hc:CfgTy cfg)(h:Wld C μ H w){nid:Option Nat}{t:TypeId}{l c r:AV}{vl vc:Value}(he:qcs cfg nid t l c H=some (r,H'))(hl:Rep C μ l vl)(hcv:Rep C μ c vc):
  Runs cfg.P (Instr.makeSlice t vl vc) C μ H w r H':=by
 unfold qcs at he;split at he
 ·exact qsI hc h he hl hcv
 ·split at he
  case h_2=>cases he
  rename_i k n k' n';split at he
  case isFalse=>cases he
  rename_i hn;rw[decide_eq_true_eq]at hn;subst hn;obtain⟨q,hq,hw⟩:=qFL.1 he;obtain⟨v,w',C',μ',h1,h2,h3,h4,h5⟩:=qh6 hc h hq hl hcv;obtain⟨ad,rfl⟩:=h5 k n k' n rfl rfl;unfold qtt at hw;split at hw
  ·cases hw;rename_i id off len;have hlen:len=n.toNat:=h2.lenW rfl;subst hlen;exact⟨_,w',C',μ',h1,.wr _ _ ad _ (qFH _) h2,h3,h4⟩
  ·cases hw
end Go.Av
end
