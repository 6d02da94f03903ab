/-
  Parts of the proof of CodeTellsUptoSaid, put together: the abstract evaluation and its contracts. Own work.
  What is proved: each lemma as it stands; no condition.
-/
import Derived.Test.YtafdkafbgohigaaGreatZCodeTellsM3
open List renaming length → qBe, get?Internal → qBg, getElem?_eq_getElem → qBk, take → qBm, getElem?_eq_some_iff → qBn, length_append → qBr, take_of_length_le → qBt, getElem?_append_left → qBx, mem_of_getElem? → qBy, getElem?_append_right → qBz, append → qBA, getElem?_set → qBC, length_map → qBE, mem_append → qBF, mem_cons → qBG, replicate → qBI, drop_eq_getElem_cons → qBJ, length_cons → qBK, getElem?_cons_zero → qBP, getElem?_cons_succ → qBQ, drop_eq_nil_of_le → qBR, take_length → qBS, range → qBT, drop → qBU, length_take → qBW, map_cons → qBZ
open Go.IntKind renaming wrap → qBf, i64 → qB2
open Nat renaming beq → qBh, eq_of_beq_eq_true → qBo, le_refl → qBp, ble → qBv, mul_le_mul_right → qBH, beq_refl → qBL, ble_eq → qBN, add_assoc → qBO, blt_eq → qBY, zero_add → qB0
open Bool renaming and_eq_true → qBi, false_eq_true → qBu, and_self → qBw, true_and → qBV, not_true → qB1
open Int renaming toNat → qBj, toNat_natCast → qBB, reduceEq → qBX
open Option renaming bind_eq_some_iff → qBl, map_eq_some_iff → qBq, bind_some → qBs, map_some → qBD
open Array renaming toList → qBM
set_option maxRecDepth 1000000
set_option maxHeartbeats 0
noncomputable section
namespace Go.Proofs.YtafdkafbgohigaaGreat
open Go.Av
abbrev zT:Tm:=.mk 0 0 [] []
def InsA.row(x:InsA):List AV:=.int .i64 x.o:: .int .i64 x.a:: .int .i64 x.b::x.t.cells
def qo(l:List InsA):List (List AV):=l.map InsA.row
@[simp] theorem rowsN_nil:qo []=[]:=rfl
@[simp] theorem vN(l:List InsA):(qo l).length=l.length:=by simp[qo]
theorem quP(a b:List InsA):qo (a++b)=qo a++qo b:=by simp[qo]
theorem InsA.row_len(x:InsA):x.row.length=7:=by rw[InsA.row,Tm.cells_eq];rfl
theorem qwR(l:List InsA):xR 7 (qo l)=true:=by
 induction l with
 |nil=>rfl
 |cons x l ih=>show xR 7 (x.row::qo l)=true;rw[xR,x.row_len];rfl
theorem qjH{l:List InsA}{i:Nat}{x:InsA}(h:l[i]? =some x):qBg (qo l) i=some x.row:=by
 rw[qI,qo,List.getElem?_map,h];rfl
def andS:List UInt8:=[97,110,100,97,108,115,111]
def orS:List UInt8:=[111,114,101,108,115,101]
def qfP:List UInt8:=[99,111,110,115,116]
def qeC(o:Int)(at_:Nat)(x:List InsA)(y:List InsA):List InsA:=
 x++⟨o,0,((at_+x.length+1+y.length+1:Nat):Int),zT⟩::(y++[⟨17,0,0,zT⟩])
mutual
/-- the code of an expression, from a place on -/
def qL : Tm → Nat → List InsA
  | .mk k n s l, at_ =>
    if k = 2 then (match varT (.mk k n s l) with
      | some x => [⟨8, x, 0, zT⟩]
      | none => if s = [36, 95] then [⟨9, 0, 0, zT⟩] else if s = [36, 36] then [⟨10, 0, 0, zT⟩] else [⟨7, 0, 0, .mk k n s l⟩])
    else if k = 9 then xq l at_ ++ [⟨12, 0, 0, zT⟩]
    else if k = 7 then
      (match l with
       | [] => []
       | (.mk k1 n1 s1 l1) :: rest =>
         if k1 = 7 then xq l1 at_ ++ [⟨11, (l1.length : Int), 0, zT⟩]
         else if s1 = qfP then qda rest
         else if s1 = andS then zo 15 rest at_
         else if s1 = orS then zo 16 rest at_
         else xq rest at_ ++ [⟨13, (rest.length : Int), 0, .mk k1 n1 s1 l1⟩])
    else [⟨7, 0, 0, .mk k n s l⟩]
def xq : List Tm → Nat → List InsA
  | [], _ => []
  | t :: l, at_ => qL t at_ ++ xq l (at_ + (qL t at_).length)
def zo : Int → List Tm → Nat → List InsA
  | _, [], _ => []
  | o, a :: l, at_ => qn3 o l at_ (qL a at_)
def qn3 : Int → List Tm → Nat → List InsA → List InsA
  | _, [], _, _ => []
  | o, b :: _, at_, x => qeC o at_ x (qL b (at_ + x.length + 1))
def qda : List Tm → List InsA
  | [] => []
  | c :: _ => [⟨7, 0, 0, c⟩]
end
theorem qdC{t:Tm}(h:t.kind=2)(at_:Nat):qL t at_=(match varT t with
   |some x=>[⟨8,x,0,zT⟩]
   |none=>if t.str=[36,95]then[⟨9,0,0,zT⟩]else if t.str=[36,36]then[⟨10,0,0,zT⟩]else[⟨7,0,0,t⟩]):=by
 obtain⟨k,n,s,l⟩:=t;simp only[Tm.kind_mk]at h;subst h;rw[qL.eq_def];simp only[];rw[qB5 trivial];rfl
theorem qdB{t:Tm}(h:t.kind=9)(at_:Nat):qL t at_=xq t.subs at_++[⟨12,0,0,zT⟩]:=by
 obtain⟨k,n,s,l⟩:=t;simp only[Tm.kind_mk]at h;subst h;rw[qL.eq_def];simp only[];rw[qB6 (by omega),qB5 trivial];rfl
theorem qeL{t f:Tm}{r:List Tm}(h:t.kind=7)(hl:t.subs=f::r)(at_:Nat):qL t at_ =
  if f.kind=7 then xq f.subs at_++[⟨11,(f.subs.length:Int),0,zT⟩]
  else if f.str=qfP then qda r
  else if f.str=andS then zo 15 r at_
  else if f.str=orS then zo 16 r at_
  else xq r at_++[⟨13,(r.length:Int),0,f⟩]:=by
 obtain⟨k,n,s,l⟩:=t;obtain⟨k1,n1,s1,l1⟩:=f;simp only[Tm.kind_mk,Tm.subs_mk]at h hl;subst h hl;rw[qL.eq_def];simp only[];rw[qB6 (by omega),qB6 (by omega),qB5 trivial];rfl
theorem qcS{t:Tm}(h2:t.kind≠2)(h9:t.kind≠9)(h7:t.kind≠7)(at_:Nat):qL t at_=[⟨7,0,0,t⟩]:=by
 obtain⟨k,n,s,l⟩:=t;simp only[Tm.kind_mk]at h2 h9 h7;rw[qL.eq_def];simp only[];rw[qB6 h2,qB6 h9,qB6 h7]
theorem qc3(at_:Nat):xq [] at_=[]:=by rw[xq]
theorem qb9(t:Tm)(l:List Tm)(at_:Nat):xq (t::l) at_=qL t at_++xq l (at_+(qL t at_).length):=by rw[xq]
theorem qeD(o:Int)(a b:Tm)(l:List Tm)(at_:Nat):zo o (a::b::l) at_=qeC o at_ (qL a at_) (qL b (at_+(qL a at_).length+1)):=by rw[zo,qn3]
theorem qnb{l:List Tm}(h:∀t∈l,∀i,(qL t i).length<=t.w):∀at_,(xq l at_).length<=wL l:=by
 induction l with
 |nil=>intro i;rw[qc3];simp
 |cons t l ih=>
  intro i;rw[qb9,qBr,qE];have h1:=h t (by simp) i;have h2:=ih (λx hx=>h x (by simp[hx])) (i+(qL t i).length);omega
theorem qvG:∀(n:Nat) (t:Tm),t.w<=n->∀at_,(qL t at_).length<=t.w:=by
 intro n
 induction n with
 |zero=>intro t h;have:=t.w_eq;omega
 |succ n ih=>
  intro t h i;have hw:=t.w_eq;have hm:∀l:List Tm,wL l<=n->∀j,(xq l j).length<=wL l:=λl hl j=>qnb (λx hx j=>ih x (by have:=xW hx;omega) j) j
  by_cases h2:t.kind=2
  ·rw[qdC h2];split
   ·simp;omega
   ·split
    ·simp;omega
    ·split<;>· simp;omega
  by_cases h9:t.kind=9
  ·rw[qdB h9,qBr];have:=hm t.subs (by omega) i;simp;omega
  by_cases h7:t.kind=7
  ·cases hl:t.subs with
   |nil=>
    obtain⟨k,n',s,l⟩:=t;simp only[Tm.kind_mk,Tm.subs_mk]at h7 hl;subst h7 hl;rw[qL.eq_def];simp
   |cons f r=>
    rw[hl,qE]at hw;have hf:=f.w_eq;rw[qeL h7 hl];split
    ·rw[qBr];have:=hm f.subs (by omega) i;simp;omega
    ·split
     ·cases r with
      |nil=>rw[qda];simp
      |cons c r=>rw[qda];simp;omega
     ·have hz:∀o,(zo o r i).length<=t.w:=by
       intro o
       match r with
       |[]=>rw[zo];simp
       |[a]=>rw[zo,qn3];simp
       |a::b::r=>
        rw[qeD,qeC];rw[qE,qE]at hw;have ha:=ih a (by omega) i;have hb:=ih b (by omega) (i+(qL a i).length+1);simp;omega
      split
      ·exact hz _
      ·split
       ·exact hz _
       ·rw[qBr];have:=hm r (by omega) i;simp;omega
  rw[qcS h2 h9 h7];simp;omega
theorem zj(t:Tm)(at_:Nat):(qL t at_).length<=t.w:=qvG t.w t (qBp _) at_
theorem qjL(l:List Tm)(at_:Nat):(xq l at_).length<=wL l:=qnb (λt _=>zj t) at_
end Go.Proofs.YtafdkafbgohigaaGreat
end
noncomputable section
namespace Go.Av
theorem zl{t:Tm}:t.chk=0↔t.parts=true∧t.words<=65536:=by
 unfold Tm.chk chkS;simp only[xh,vG,Bool.and_true,qB0,Nat.add_zero];cases h:t.parts with
 |false=>simp
 |true=>
  simp
theorem qwy(l:List Tm)(h:∀x∈l,x.parts=true->x.w<=65*x.words):xh l=true->wL l<=65*vG l:=by
 induction l with
 |nil=>intro _;simp
 |cons x l ih=>
  intro hp;rw[xh,qBi]at hp;have h1:=h x (by simp) hp.1;have h2:=ih (λy hy=>h y (by simp[hy])) hp.2;rw[qE,vG];omega
theorem qmT{k n:Int}{s:List UInt8}{m:Nat}(h:yH k n s m=true):s.length<=64∧m<=64:=by
 unfold yH at h
 repeat' split at h
 all_goals simp at h
 all_goals first|(obtain⟨_,_,h3,h4⟩:=h;subst h3;simp;omega)|(obtain⟨_,h3,h4⟩:=h;subst h3;simp;omega)|omega
theorem qyd(t:Tm):t.parts=true->t.w<=65*t.words:=by
 induction t using Tm.ind with
 |_ k n s l ih=>
  intro hp;rw[Tm.parts,qBi]at hp;have h1:=qmT hp.1;have h2:=qwy l ih hp.2;have h3:=(Tm.mk k n s l).own_le;rw[Tm.w_mk,Tm.words];omega
theorem xx{t:Tm}(h:t.chk=0):t.w<=4259840:=by
 obtain⟨h1,h2⟩:=zl.1 h;have:=qyd t h1;omega
theorem qbI{t:Tm}(h:t.chk=0):t.subs.length<=64:=by
 obtain⟨h1,_⟩:=zl.1 h;rw[Tm.parts_eq,qBi]at h1;exact(qmT h1.1).2
theorem qkp{x:Tm}{l:List Tm}(h:x∈l):x.words<=vG l:=by
 induction l with
 |nil=>cases h
 |cons y l ih=>
  rw[vG];rcases qBG.1 h with rfl|h
  ·omega
  ·have:=ih h;omega
theorem qkW{l:List Tm}(h:xh l=true):∀x∈l,x.parts=true:=by
 induction l with
 |nil=>intro x hx;cases hx
 |cons y l ih=>
  intro x hx;rw[xh,qBi]at h;rcases qBG.1 hx with rfl|hx
  ·exact h.1
  ·exact ih h.2 x hx
theorem vA{t x:Tm}(h:t.chk=0)(hx:x∈t.subs):x.chk=0:=by
 obtain⟨h1,h2⟩:=zl.1 h;rw[Tm.parts_eq,qBi]at h1;have:=qkp hx;rw[Tm.words_eq]at h2;exact zl.2 ⟨qkW h1.2 x hx,by omega⟩
theorem zM{t:Tm}(h:t.chk=0)(hk:t.kind=9):∃a b,t.subs=[a,b]:=by
 obtain⟨h1,_⟩:=zl.1 h;rw[Tm.parts_eq,qBi]at h1;have h2:yH t.kind t.num t.str t.subs.length=true:=h1.1;rw[hk]at h2;simp[yH]at h2
 match hl:t.subs,h2.2.2 with
 |[a,b],_=>exact⟨a,b,rfl⟩
def xV(t:Tm):Option Tm:=if t.chk=0 then some t else none
theorem qdn{t v:Tm}(h:xV t=some v):v.chk=0∧v=t:=by
 unfold xV at h;split at h
 ·rename_i hc;cases h;exact⟨hc,rfl⟩
 ·cases h
def lenT:Nat->Tm->Option Nat
 |0,_=>none
 |n+1,t=>if t.kind=9 then(match t.subs with|[_,b]=>(lenT n b).map (·+1)|_=>none)else if t.kind=8 then some 0 else none
def lenG(t:Tm):Option Nat:=lenT t.w t
theorem qvg:∀(n m:Nat) (t:Tm),t.w<=n->t.w<=m->lenT n t=lenT m t:=by
 intro n
 induction n with
 |zero=>intro m t h;have:=xK t;omega
 |succ n ih=>
  intro m t hn hm;obtain⟨m,rfl⟩:∃k,m=k+1:=⟨m - 1,by have:=xK t;omega⟩;rw[lenT,lenT]
  by_cases h9:t.kind=9
  ·rw[qB5 h9,qB5 h9];have hw:=t.w_eq;cases hs:t.subs with
   |nil=>rfl
   |cons a l=>
    cases l with
    |nil=>rfl
    |cons b l=>
     cases l with
     |nil=>
      rw[hs]at hw;simp only[qE,xy]at hw;simp only[];rw[ih m b (by omega) (by omega)]
     |cons c l=>rfl
  ·rw[qB6 h9,qB6 h9]
theorem qvi{t a b:Tm}(hk:t.kind=9)(hs:t.subs=[a,b]):lenG t=(lenG b).map (·+1):=by
 have hw:=t.w_eq;rw[hs]at hw;simp only[qE,xy]at hw;unfold lenG;obtain⟨n,hn⟩:∃n,t.w=n+1:=⟨t.w - 1,by have:=xK t;omega⟩;rw[hn,lenT,qB5 hk,hs];simp only[];rw[qvg n b.w b (by omega) (qBp _)]
theorem qxf{t:Tm}(hk:t.kind=8):lenG t=some 0:=by
 unfold lenG;obtain⟨n,hn⟩:∃n,t.w=n+1:=⟨t.w - 1,by have:=xK t;omega⟩;rw[hn,lenT,qB6 (by omega),qB5 hk]
theorem qvh{t:Tm}(h9:t.kind≠9)(h8:t.kind≠8):lenG t=none:=by
 unfold lenG;obtain⟨n,hn⟩:∃n,t.w=n+1:=⟨t.w - 1,by have:=xK t;omega⟩;rw[hn,lenT,qB6 h9,qB6 h8]
def oneG(op:List UInt8)(t:Tm):Option Tm:=
 if op=[105,115,95,97,116,111,109]then some (xc (decide (t.kind=2)))
 else if op=[105,115,95,105,110,116,101,103,101,114]then some (xc (decide (t.kind=1)))
 else if op=[105,115,95,108,105,115,116]then some (xc (decide (t.kind=9)||decide (t.kind=8)))
 else if op=[105,115,95,116,117,112,108,101]then some (xc (decide (t.kind=7)))
 else if op=[105,115,95,112,105,100]then some (xc (decide (t.kind=6)))
 else if op=[105,115,95,102,117,110,99,116,105,111,110]then some (xc (decide (t.kind=5)))
 else if op=[105,115,95,114,101,102,101,114,101,110,99,101]then some (xc (decide (t.kind=3)||decide (t.kind=4)))
 else if op=[110,111,116]then(vL t).map λb=>xc (!b)
 else if op=[98,110,111,116]then(if t.kind=1 then vj (-1 - t.num)else none)
 else if op=[43]then(if t.kind=1 then vj t.num else none)
 else if op=[45]then(if t.kind=1 then vj (-t.num)else none)
 else if op=[97,98,115]then(if t.kind=1 then vj (if t.num<0 then -t.num else t.num)else none)
 else if op=[116,117,112,108,101,95,115,105,122,101]then(if t.kind=7 then vj t.subs.length else none)
 else if op=[115,105,122,101]then(if t.kind=7 then vj t.subs.length else none)
 else if op=[108,101,110,103,116,104]then(lenG t).bind λn=>vj n
 else if t.kind=9 then(if op=[104,100]then t.subs[0]? else t.subs[1]?)
 else none
def zm(op:List UInt8)(l:List Tm)(self:Int):Option Tm:=
 match l with
 |[a]=>oneG op a
 |[a,b]=>twoG op a b
 |_=>some (.mk 6 self [] [])
theorem qqm{n:Int}{v:Tm}(h:vj n=some v):v.chk=0:=by
 unfold vj at h;split at h
 ·rename_i hb;cases h;exact qw0 hb
 ·cases h
theorem qsh(b:Bool):(xc b).chk=0:=by cases b<;>decide
def seqO:List (Option Tm)->Option (List Tm)
 |[]=>some []
 |o::l=>o.bind λx=>(seqO l).map (x::·)
def vr(l:List Tm):Tm:=l.foldr (λx e=>.mk 9 0 [] [x,e]) (.mk 8 0 [] [])
def qcG(an:Bool):List (Option Tm)->Option Tm
 |a::b::_=>a.bind λx=>(vL x).bind λv=>if v=an then(b.bind λy=>(vL y).map λ_=>y)else some x
 |_=>none
mutual
/-- an expression's value -/
def valG (e : Env) : Tm → Option Tm
  | .mk k n s l =>
    if k = 2 then
      (match varT (.mk k n s l) with
       | some x => some ((qG x e.binds).getD q9)
       | none => if s = [36, 95] then some e.obj else if s = [36, 36] then xV (vr (e.binds.map (·.2))) else some (.mk k n s l))
    else if k = 9 then (seqO (xf e l)).bind fun ts => xV (.mk 9 0 [] ts)
    else if k = 7 then
      (match l with
       | [] => none
       | (.mk k1 _ s1 l1) :: rest =>
         if k1 = 7 then (seqO (xf e l1)).bind fun ts => xV (.mk 7 0 [] ts)
         else if s1 = [99, 111, 110, 115, 116] then rest[0]?
         else if s1 = [97, 110, 100, 97, 108, 115, 111] then qcG true (xf e rest)
         else if s1 = [111, 114, 101, 108, 115, 101] then qcG false (xf e rest)
         else (seqO (xf e rest)).bind fun ts => (zm s1 ts e.self).bind xV)
    else some (.mk k n s l)
def xf (e : Env) : List Tm → List (Option Tm)
  | [] => []
  | t :: l => valG e t :: xf e l
end
theorem qey(e:Env):∀l:List Tm,xf e l=l.map (valG e)
 |[]=>rfl
 |t::l=>by rw[xf,qey e l];rfl
theorem qg9{e:Env}{t:Tm}(h:t.kind=2):valG e t=match varT t with
  |some x=>some ((qG x e.binds).getD q9)
  |none=>if t.str=[36,95]then some e.obj else if t.str=[36,36]then xV (vr (e.binds.map (·.2)))else some t:=by
 obtain⟨k,n,s,l⟩:=t;simp only[Tm.kind_mk]at h;rw[valG.eq_def];simp only[];rw[qB5 h];rfl
theorem qg8{e:Env}{t:Tm}(h:t.kind=9):valG e t=(seqO (xf e t.subs)).bind λts=>xV (.mk 9 0 [] ts):=by
 obtain⟨k,n,s,l⟩:=t;simp only[Tm.kind_mk]at h;subst h;rw[valG.eq_def];simp only[];rw[qB6 (by omega),qB5 trivial];rfl
theorem qjz{e:Env}{t f:Tm}{r:List Tm}(h:t.kind=7)(hl:t.subs=f::r):valG e t =
  if f.kind=7 then(seqO (xf e f.subs)).bind λts=>xV (.mk 7 0 [] ts)
  else if f.str=[99,111,110,115,116]then r[0]?
  else if f.str=[97,110,100,97,108,115,111]then qcG true (xf e r)
  else if f.str=[111,114,101,108,115,101]then qcG false (xf e r)
  else(seqO (xf e r)).bind λts=>(zm f.str ts e.self).bind xV:=by
 obtain⟨k,n,s,l⟩:=t;obtain⟨k1,n1,s1,l1⟩:=f;simp only[Tm.kind_mk,Tm.subs_mk]at h hl;subst h hl;rw[valG.eq_def];simp only[];rw[qB6 (by omega),qB6 (by omega),qB5 trivial];rfl
theorem qf2{e:Env}{t:Tm}(h2:t.kind≠2)(h9:t.kind≠9)(h7:t.kind≠7):valG e t=some t:=by
 obtain⟨k,n,s,l⟩:=t;simp only[Tm.kind_mk]at h2 h9 h7;rw[valG.eq_def];simp only[];rw[qB6 h2,qB6 h9,qB6 h7]
structure EnvOk (e:Env):Prop where
 obj:e.obj.chk=0
 may:mayB (-1) e.binds=true
 self:zw e.self=true
theorem qjK:∀{l:List (Int×Tm)} {last:Int},mayB last l=true->(l.length:Int)<=max 0 (99 - last)
 |[],_,_=>by simp;omega
 |p::l,last,h=>by
  simp only[mayB,qBi,decide_eq_true_eq]at h;have:=qjK h.2.2.2;simp only[qBK];omega
theorem qd9:∀{l:List (Int×Tm)} {last:Int},mayB last l=true->∀p∈l,p.2.chk=0
 |[],_,_,p,hp=>by cases hp
 |q::l,last,h,p,hp=>by
  simp only[mayB,qBi,decide_eq_true_eq]at h;rcases qBG.1 hp with rfl|hp
  ·exact h.2.2.1
  ·exact qd9 h.2.2.2 p hp
theorem EnvOk.len{e:Env}(h:EnvOk e):e.binds.length<=100:=by have:=qjK h.may;omega
def ya(e:Env):List Int:=e.binds.map (·.1)
theorem qdr{n:Int}:∀{m:List (Int×Tm)},n∈m.map (·.1)->∃t,qG n m=some t
 |[],h=>by cases h
 |q::m,h=>by
  rw[qG]
  by_cases hq:q.1=n
  ·exact⟨q.2,by rw[qB5 hq]⟩
  ·rw[qB6 hq];rw[qBZ,qBG]at h;exact qdr (h.resolve_left λh=>hq h.symm)
theorem yy{V:List Int}{l:List Tm}(h:allG V l=true):∀x∈l,isG V x=true:=by
 intro x hx;cases hg:isG V x with
 |true=>rfl
 |false=>rw[qgD.2 ⟨x,hx,hg⟩]at h;cases h
theorem qjD:∀{l:List (Option Tm)} {ts:List Tm},seqO l=some ts->l=ts.map some
 |[],ts,h=>by cases h;rfl
 |o::l,ts,h=>by
  rw[seqO]at h;obtain⟨x,hx,h⟩:=qBl.1 h;obtain⟨r,hr,rfl⟩:=qBq.1 h;rw[hx,qjD hr];rfl
theorem qdX{e:Env}(he:EnvOk e):∀(n:Nat) (t:Tm),t.w<=n->t.chk=0->isG (ya e) t=true->∀v,valG e t=some v->v.chk=0:=by
 intro n
 induction n with
 |zero=>intro t h;have:=xK t;omega
 |succ n ih=>
  intro t hw hc hg v hv;have hwe:=t.w_eq
  by_cases h2:t.kind=2
  ·rw[qg9 h2]at hv;rw[qee h2]at hg;cases hx:varT t with
   |some x=>
    rw[hx]at hv hg;obtain⟨y,hy⟩:=qdr (of_decide_eq_true hg);simp only[hy,Option.getD_some]at hv;cases hv;exact qd9 he.may _ (xD hy)
   |none=>
    rw[hx]at hv;simp only[]at hv;split at hv
    ·cases hv;exact he.obj
    ·split at hv
     ·exact(qdn hv).1
     ·cases hv;exact hc
  by_cases h9:t.kind=9
  ·rw[qg8 h9]at hv;obtain⟨ts,_,h⟩:=qBl.1 hv;exact(qdn h).1
  by_cases h7:t.kind=7
  ·cases hl:t.subs with
   |nil=>rw[qdK h7 hl]at hg;cases hg
   |cons f r=>
    have hr:∀x∈r,x.w<=n∧x.chk=0:=λx hx=>by
     have h1:x∈t.subs:=by rw[hl];simp[hx]
     have h2:=xW h1;exact⟨by omega,vA hc h1⟩
    rw[qjz h7 hl]at hv;rw[qdJ h7 hl]at hg
    by_cases f7:f.kind=7
    ·rw[qB5 f7]at hv;obtain⟨ts,_,h⟩:=qBl.1 hv;exact(qdn h).1
    rw[qB6 f7]at hv hg
    by_cases f2:f.kind=2
    ·rw[qB5 f2]at hg
     by_cases hk:f.str=[99,111,110,115,116]
     ·rw[qB5 hk]at hv;exact(hr v (qBy hv)).2
     rw[qB6 hk]at hv hg;rw[qBi]at hg;have hlz:∀an,qcG an (xf e r)=some v->v.chk=0:=by
      intro an h;rw[qey]at h
      match r,hr,hg.2 with
      |[],_,_=>cases h
      |[a],_,_=>cases h
      |a::b::q,hr,hg2=>
       simp only[qBZ,qcG]at h;obtain⟨x,hx,h⟩:=qBl.1 h;obtain⟨bb,_,h⟩:=qBl.1 h;have hga:=yy hg2;split at h
       ·obtain⟨y,hy,h⟩:=qBl.1 h;obtain⟨_,_,rfl⟩:=qBq.1 h;exact ih b (hr b (by simp)).1 (hr b (by simp)).2 (hga b (by simp)) _ hy
       ·cases h;exact ih a (hr a (by simp)).1 (hr a (by simp)).2 (hga a (by simp)) _ hx
     split at hv
     ·exact hlz _ hv
     split at hv
     ·exact hlz _ hv
     obtain⟨ts,_,h⟩:=qBl.1 hv;obtain⟨w,_,h⟩:=qBl.1 h;exact(qdn h).1
    ·rw[qB6 f2]at hg;cases hg
  ·rw[qf2 h2 h9 h7]at hv;cases hv;exact hc
theorem qjE{e:Env}(he:EnvOk e){l ts:List Tm}(hl:∀x∈l,x.chk=0∧isG (ya e) x=true)(h:seqO (xf e l)=some ts):∀x∈ts,x.chk=0:=by
 have:=qjD h;rw[qey]at this;intro x hx;have hm:some x∈l.map (valG e):=by rw[this];exact List.mem_map_of_mem hx
 obtain⟨y,hy,hv⟩:=List.mem_map.1 hm;exact qdX he _ y (qBp _) (hl y hy).1 (hl y hy).2 x hv
theorem qd0{e:Env}{l ts:List Tm}(h:seqO (xf e l)=some ts):ts.length=l.length:=by
 have:=congrArg qBe (qjD h);rw[qey]at this
 simpa using this.symm
def envG(e:Env):Bool:=mayB (-1) e.binds&&(decide (e.obj.chk=0)&&zw e.self)
theorem qfM{e:Env}:envG e=true↔EnvOk e:=by
 unfold envG;constructor
 ·intro h;rw[qBi,qBi,decide_eq_true_eq]at h;exact⟨h.2.1,h.1,h.2.2⟩
 ·rintro⟨h1,h2,h3⟩;rw[h2,h3,qB3 h1];rfl
def yT(e:Env)(t:Tm):Tm×Int:=if envG e&&decide (xm (ya e) t=0)then(match valG e t with|some v=>(v,0)|none=>(q9,10))else(q9,2)
def qb1(e:Env)(t:Tm):Bool:=decide ((yT e t).2=0)&&(decide ((yT e t).1.kind=2)&&decide ((yT e t).1.str=tru))
def qfI(e:Env)(l:List Tm):Bool:=l.all (qb1 e)&&envG e
theorem qaI{V:List Int}{t:Tm}(h:xm V t=0):t.chk=0∧isG V t=true:=by
 unfold xm at h;split at h
 ·rename_i h0;split at h
  ·rename_i h1;exact⟨h0,h1⟩
  ·cases h
 ·cases h
def qcj:Nat->Tm->List Tm×Bool
 |0,_=>([],false)
 |n+1,t=>if t.kind=9 then(match t.subs with|[a,b]=>(a::(qcj n b).1,(qcj n b).2)|_=>([],false))else([],decide (t.kind=8))
def qS(t:Tm):List Tm×Bool:=qcj t.w t
theorem qra:∀(n m:Nat) (t:Tm),t.w<=n->t.w<=m->qcj n t=qcj m t:=by
 intro n
 induction n with
 |zero=>intro m t h;have:=xK t;omega
 |succ n ih=>
  intro m t hn hm;obtain⟨m,rfl⟩:∃k,m=k+1:=⟨m - 1,by have:=xK t;omega⟩;rw[qcj,qcj]
  by_cases h9:t.kind=9
  ·rw[qB5 h9,qB5 h9];have hw:=t.w_eq;cases hs:t.subs with
   |nil=>rfl
   |cons a l=>
    cases l with
    |nil=>rfl
    |cons b l=>
     cases l with
     |nil=>
      rw[hs]at hw;simp only[qE,xy]at hw;simp only[];rw[ih m b (by omega) (by omega)]
     |cons c l=>rfl
  ·rw[qB6 h9,qB6 h9]
theorem x8{t a b:Tm}(hk:t.kind=9)(hs:t.subs=[a,b]):qS t=(a::(qS b).1,(qS b).2):=by
 have hw:=t.w_eq;rw[hs]at hw;simp only[qE,xy]at hw;unfold qS;obtain⟨n,hn⟩:∃n,t.w=n+1:=⟨t.w - 1,by have:=xK t;omega⟩;rw[hn,qcj,qB5 hk,hs];simp only[];rw[qra n b.w b (by omega) (qBp _)]
theorem zC{t:Tm}(hk:t.kind≠9):qS t=([],decide (t.kind=8)):=by
 unfold qS;obtain⟨n,hn⟩:∃n,t.w=n+1:=⟨t.w - 1,by have:=xK t;omega⟩;rw[hn,qcj,qB6 hk]
theorem qcM:∀l:List Tm,qS (vr l)=(l,true)
 |[]=>zC (by decide)
 |x::l=>by
  rw[x8 (a:=x) (b:=vr l) rfl rfl,qcM l]
theorem qxw{P:Tm->Prop}(h9:∀t a b,t.kind=9->t.subs=[a,b]->t.chk=0->P b->P t)(h0:∀t,t.kind≠9->t.chk=0->P t):∀(n:Nat) (t:Tm),t.w<=n->t.chk=0->P t:=by
 intro n
 induction n with
 |zero=>intro t h;have:=xK t;omega
 |succ n ih=>
  intro t hw hc
  by_cases hk:t.kind=9
  ·obtain⟨a,b,hs⟩:=zM hc hk;have hwe:=t.w_eq;rw[hs]at hwe;simp only[qE,xy]at hwe;exact h9 t a b hk hs hc (ih b (by omega) (vA hc (by rw[hs];simp)))
  ·exact h0 t hk hc
theorem qmE{P:Tm->Prop}(t:Tm)(hc:t.chk=0)(h9:∀t a b,t.kind=9->t.subs=[a,b]->t.chk=0->P b->P t)(h0:∀t,t.kind≠9->t.chk=0->P t):P t:=qxw h9 h0 t.w t (qBp _) hc
theorem qdx{t:Tm}(hc:t.chk=0):∀x∈(qS t).1,x.chk=0:=by
 refine qmE (P:=λt=>∀x∈(qS t).1,x.chk=0) t hc (λt a b hk hs hc ih=>?_) (λt hk hc=>?_)
 ·rw[x8 hk hs];intro x hx;rcases qBG.1 hx with rfl|hx
  ·exact vA hc (by rw[hs];simp)
  ·exact ih x hx
 ·rw[zC hk];intro x hx;cases hx
theorem qec{t:Tm}(hc:t.chk=0):wL (qS t).1+(qS t).1.length<=t.w:=by
 refine qmE (P:=λt=>wL (qS t).1+(qS t).1.length<=t.w) t hc (λt a b hk hs hc ih=>?_) (λt hk hc=>?_)
 ·rw[x8 hk hs,t.w_eq,hs];simp only[qE,xy,qBK];omega
 ·rw[zC hk];simp
def anyT(p:Tm):Bool:=decide (p.kind=2)&&(decide (p.str=[95])&&decide (p.chk=0))
def qgr(p:Tm):Bool:=(varT p).isSome||(decide (p.kind=7)||anyT p)
mutual
/-- does a variable stand in a pattern? -/
def xL (n:Int):Tm->Bool
 | .mk k _ s l=>if k=7∨k=9 then qkC n l else decide (k=2)&&decide (varG s=some n)
def qkC (n:Int):List Tm->Bool
 |[]=>false
 |t::l=>xL n t||qkC n l
end
theorem qkB(n:Int):∀l:List Tm,qkC n l=l.any (xL n)
 |[]=>rfl
 |t::l=>by rw[qkC,qkB n l];rfl
theorem qbH(n:Int)(t:Tm):xL n t=if t.kind=7∨t.kind=9 then t.subs.any (xL n)else decide (t.kind=2)&&decide (varG t.str=some n):=by
 obtain⟨k,m,s,l⟩:=t;rw[xL,qkB];rfl
def zQ(p:Tm):List Int:=if p.chk=0 then((qBT 100).filter λn=>xL (n:Nat) p).map Int.ofNat else[]
structure Cl where
 head:Tm
 gs:List Tm
 bs:List Tm
 deriving Inhabited
def Cl.cells(c:Cl):List AV:=[.int .i64 c.head.kind,.int .i64 c.head.num,.str c.head.str,.sl (qb c.head.subs),.sl (qb c.gs),.sl (qb c.bs)]
def Cl.av(c:Cl):AV:=.agg c.cells
def vK(l:List Cl):List (List AV):=l.map Cl.cells
def qA0:Cl:=⟨q9,[],[]⟩
theorem yI(l:List Cl):(vK l).length=l.length:=by simp[vK]
theorem qhi(l:List Cl)(i:Nat):(vK l)[i]? =(l[i]?).map Cl.cells:=by simp[vK]
theorem qhj(a b:List Cl):vK (a++b)=vK a++vK b:=by simp[vK]
theorem quQ(l:List Cl)(i:Nat)(c:Cl):(vK l).set i c.cells=vK (l.set i c):=by simp[vK,List.map_set]
def yl(t:Tm):Option Cl:=
 if t.kind=7 then(match t.subs with
  |[h,g,b]=>if qgr h&&((qS g).2&&((qS b).2&& !(qS b).1.isEmpty))&&((qS g).1.all (λe=>decide (xm (zQ h) e=0))&&(qS b).1.all (λe=>decide (xm (zQ h) e=0)))then some ⟨h,(qS g).1,(qS b).1⟩else none
  |_=>none)
 else none
def seqC:List Tm->Option (List Cl)
 |[]=>some []
 |t::l=>(yl t).bind λc=>(seqC l).map (c::·)
def clsG(t:Tm):List Cl×Int:=
 if t.chk=0 then(match seqC (qS t).1 with
  |some l=>if(qS t).2&& !l.isEmpty then(l,0)else([],10)
  |none=>([],10))
 else([],2)
theorem qoM:∀{l:List Tm} {cs:List Cl},seqC l=some cs->cs.length=l.length
 |[],cs,h=>by cases h;rfl
 |t::l,cs,h=>by
  rw[seqC]at h;obtain⟨c,_,h⟩:=qBl.1 h;obtain⟨r,hr,rfl⟩:=qBq.1 h;simp[qoM hr]
instance tmEq:DecidableEq Tm:=λ_ _=>Classical.propDecidable _
mutual
/-- bindings with which a pattern matches a term -/
def xT:Tm->Tm->List (Int×Tm)->Option (List (Int×Tm))
 | .mk k n s l,t,m=>
  if k=2 then
   (if s=[95]then some m else match varG s with
    |none=>if Tm.mk k n s l=t then some m else none
    |some v=>match qG v m with
     |some x=>if x=t then some m else none
     |none=>some (m++[(v,t)]))
  else if k=7∨k=9 then(if t.kind≠k∨t.subs.length≠l.length then none else xk l t.subs m)
  else if Tm.mk k n s l=t then some m else none
def xk:List Tm->List Tm->List (Int×Tm)->Option (List (Int×Tm))
 |p::l,t::l',m=>(xT p t m).bind λm'=>xk l l' m'
 |_,_,m=>some m
end
def xM(m:List (Int×Tm)):List (Int×Tm):=(qBT 100).filterMap λn=>(qG (n:Nat) m).map λt=>((n:Int),t)
def qaY(p t:Tm):Option (List (Int×Tm)):=if p.chk=0∧t.chk=0 then(xT p t []).map xM else none
def qgw:Tm:=symT [69,88,73,84]
def qcV(e:Env)(out:Tm):List Tm->Tm
 |[]=>out
 |x::l=>if(yT e x).2=0 then qcV e (yT e x).1 l else qgw
def qes(c:Cl)(o:Tm)(self:Int):Option Tm:=
 match qaY c.head o with
 |none=>none
 |some b=>if qfI ⟨o,b,self⟩ c.gs then some (qcV ⟨o,b,self⟩ q9 c.bs)else none
def qab(o:Tm)(self:Int):List Cl->Int->Int×Tm
 |[],_=>(0,q9)
 |c::l,i=>match qes c o self with|some x=>(i+1,x)|none=>qab o self l (i+1)
def yM(t o:Tm)(self:Int):Int×Tm×Int:=
 if(clsG t).2≠0 then(0,q9,(clsG t).2)
 else if o.kind≠7∨o.chk≠0∨self<1∨self>1073741824 then(0,q9,2)
 else((qab o self (clsG t).1 0).1,(qab o self (clsG t).1 0).2,0)
def clT(c:Cl):Tm:=tupT [c.head,vr c.gs,vr c.bs]
def selT(l:List Cl):Tm:=vr (l.map clT)
def ofG(l:List Cl):Tm×Int:=if(clsG (selT l)).2=0 then(selT l,0)else(q9,(clsG (selT l)).2)
end Go.Av
end
noncomputable section
namespace Go.Proofs.YtafdkafbgohigaaGreat
open Go.Av
abbrev iz(o a b:Int):InsA:=⟨o,a,b,zT⟩
mutual
/-- the code of a pattern, where some variables stand ahead; these with its own -/
def vS:Tm->List Int->List InsA×List Int
 | .mk k n s l,V=>
  match varT (.mk k n s l)with
  |some x=>if x∈V then([iz 4 x 0],V)else([iz 3 x 0],V++[x])
  |none=>
   if anyT (.mk k n s l)=true then([iz 5 0 0],V)
   else if k=7 then(iz 1 (l.length:Int) 0::(vU l V).1,(vU l V).2)
   else if k=9 then(iz 2 0 0::(vU l V).1,(vU l V).2)
   else([⟨6,0,0,.mk k n s l⟩],V)
def vU:List Tm->List Int->List InsA×List Int
 |[],V=>([],V)
 |t::l,V=>((vS t V).1++(vU l (vS t V).2).1,(vU l (vS t V).2).2)
end
theorem qgs(t:Tm)(V:List Int):vS t V=(match varT t with
  |some x=>if x∈V then([iz 4 x 0],V)else([iz 3 x 0],V++[x])
  |none=>
   if anyT t=true then([iz 5 0 0],V)
   else if t.kind=7 then(iz 1 (t.subs.length:Int) 0::(vU t.subs V).1,(vU t.subs V).2)
   else if t.kind=9 then(iz 2 0 0::(vU t.subs V).1,(vU t.subs V).2)
   else([⟨6,0,0,t⟩],V)):=by
 obtain⟨k,n,s,l⟩:=t;rw[vS.eq_def];rfl
theorem qdz(V:List Int):vU [] V=([],V):=by rw[vU]
theorem qcN(t:Tm)(l:List Tm)(V:List Int):vU (t::l) V=((vS t V).1++(vU l (vS t V).2).1,(vU l (vS t V).2).2):=by rw[vU]
theorem qvy:∀(n:Nat) (t:Tm),t.w<=n->∀V,(vS t V).1.length<=t.w:=by
 intro n
 induction n with
 |zero=>intro t h;have:=t.w_eq;omega
 |succ n ih=>
  intro t h V;have hw:=t.w_eq;have hm:∀l:List Tm,wL l<=n->∀V,(vU l V).1.length<=wL l:=by
   intro l
   induction l with
   |nil=>intro _ V;rw[qdz];simp
   |cons t l ihl=>
    intro hl V;rw[qE]at hl;rw[qcN,qE];have h1:=ih t (by omega) V;have h2:=ihl (by omega) (vS t V).2;simp;omega
  have h1:=hm t.subs (by omega) V;rw[qgs];split
  ·split<;>· simp;omega
  ·split
   ·simp;omega
   ·split
    ·simp;omega
    ·split<;>· simp;omega
theorem qjQ(t:Tm)(V:List Int):(vS t V).1.length<=t.w:=qvy t.w t (qBp _) V
def mV(V:List Int):List (AV×AV):=V.map λx=>(.int .i64 x,.bool true)
theorem qzg(V:List Int)(x:Int):qBA (mV V) [(.int .i64 x,.bool true)]=mV (V++[x]):=by
 show mV V++_=_;unfold mV;simp
theorem qrU{x:Int}:∀{V:List Int},x ∉ V->∀j,vw (TD.int .i64) (.int .i64 x) (mV V) j=some none
 |[],_,_=>rfl
 |y::V,h,j=>by
  show vw _ _ ((.int .i64 y,.bool true)::mV V) j=_;rw[vw];have hn:x≠y:=λe=>h (by simp[e])
  have e:qak (TD.int .i64) (.int .i64 x) (.int .i64 y)=some false:=by
   unfold qak;simp[hn]
  rw[e];exact qrU (λhx=>h (by simp[hx])) (j+1)
theorem qrT{x:Int}:∀{V:List Int},x∈V->∀j,∃i,vw (TD.int .i64) (.int .i64 x) (mV V) j=some (some (i,.bool true))
 |[],h,_=>absurd h (by simp)
 |y::V,h,j=>by
  show ∃i,vw _ _ ((.int .i64 y,.bool true)::mV V) j=_;rw[vw]
  by_cases hn:x=y
  ·have e:qak (TD.int .i64) (.int .i64 x) (.int .i64 y)=some true:=by
    unfold qak;simp[hn]
   rw[e];exact⟨j,rfl⟩
  ·have e:qak (TD.int .i64) (.int .i64 x) (.int .i64 y)=some false:=by
    unfold qak;simp[hn]
   rw[e];exact qrT (by simpa [hn]using h) (j+1)
def qz0:Den:=evC cfg (EV cfg) 216 none 0 (sub (qg Tryz.f216) [1,1,1,0,1,0,0])
def qAz:Ex×List AV×AH->Option AV:=kAft (Cfg.keepOut cfg 216 4) (kRun cfg (EV cfg) (kfN cfg 6) 216 none 0 (xz cfg (Cfg.lift cfg 216 0) Tryz.f216.results.toList) ([.block 0,.seq (sub (qg Tryz.f216) [1,1,1,1])]))
def qzE:List AV×AH->Option AV:=λp=>kOpt (LOOP 0 (some [1,4,5,9,10,11]) ([(4,1)]) qz0 p) qAz
def qzY:Den:=evC cfg (EV cfg) 243 none 1 (sub (qg Tryz.f243) [1,1,0,1,0,0])
def qAx:Ex×List AV×AH->Option (AV×List (List AV)):=kAft (Cfg.keepOut cfg 243 (qk (sub (qg Tryz.f243) [1,1,0,1,0,0]))) (vP 0 (kSeq (fun(fr:List AV) (H:AH)=>xa (Cfg.cut cfg 243 (qk (sub (qg Tryz.f243) [1,1,1]))) fr H fun(fr:List AV) (H:AH)=>vh cfg (EV cfg) (kfN cfg 6) 243 none 1 (sub (qg Tryz.f243) [1,1,1]) fr H (qcg cfg 7 (Cfg.lift cfg 243 0) (qBM (Func.results Tryz.f243)))) (qcg cfg 7 (Cfg.lift cfg 243 0) (qBM (Func.results Tryz.f243)))))
def qzC:List AV×AH->Option (AV×List (List AV)):=fun(p:List AV×AH)=>kOpt (LOOP 1 (some [0,5,8,9,10]) [(5,4)] qzY p) qAx
def qzZ:Den:=evC cfg (EV cfg) 242 none 1 (sub (qg Tryz.f242) [1,1,0,1,0,0])
def qAy:Ex×List AV×AH->Option (AV×List (List AV)):=kAft (Cfg.keepOut cfg 242 (qk (sub (qg Tryz.f242) [1,1,0,1,0,0]))) (vP 0 (kSeq (fun(fr:List AV) (H:AH)=>xa (Cfg.cut cfg 242 (qk (sub (qg Tryz.f242) [1,1,1]))) fr H fun(fr:List AV) (H:AH)=>vh cfg (EV cfg) (kfN cfg 6) 242 none 1 (sub (qg Tryz.f242) [1,1,1]) fr H (qcg cfg 7 (Cfg.lift cfg 242 0) (qBM (Func.results Tryz.f242)))) (qcg cfg 7 (Cfg.lift cfg 242 0) (qBM (Func.results Tryz.f242)))))
def qzD:List AV×AH->Option (AV×List (List AV)):=fun(p:List AV×AH)=>kOpt (LOOP 1 (some [2,3,10,11,12]) [(3,4)] qzZ p) qAy
def qz1:Den:=evC cfg (EV cfg) 181 none 0 (sub (qg Tryz.f181) [1,1,0,1,0,0])
def qAA:Ex×List AV×AH->Option AV:=kAft (Cfg.keepOut cfg 181 3) (kRun cfg (EV cfg) (kfN cfg 6) 181 none 0 (qaM cfg (Cfg.lift cfg 181 0) Tryz.f181.results.toList) ([.block 0,.seq (sub (qg Tryz.f181) [1,1,1])]))
def qzF:List AV×AH->Option AV:=λp=>kOpt (LOOP 0 (some [3,6,16,17,18]) ([]) qz1 p) qAA
def qzX:Den:=evC cfg (EV cfg) 203 none 4 (sub (qg Tryz.f203) [1,0,0])
def qAw:Ex×List AV×AH->Option AV:=kAft (Cfg.keepOut cfg 203 (qk (sub (qg Tryz.f203) [1,0,0]))) (vP 0 (xO cfg (Cfg.lift cfg 203 0) (fun(v:AV) (H:AH)=>(fun(r:AV×AH)=>ym 0 3 (fx 16 [(3,AV.ptr 0 0 0),(4,AV.ptr 1 0 0)]) (vP 0 (kSeq (fun(fr:List AV) (H:AH)=>xa (Cfg.cut cfg 153 (qk (sub (qg Tryz.f153) [1,1]))) fr H fun(fr:List AV) (H:AH)=>vh cfg (EV cfg) (kfN cfg 6) 153 none 0 (sub (qg Tryz.f153) [1,1]) fr H (xz cfg (Cfg.lift cfg 153 0) (qBM (Func.results Tryz.f153)))) (xz cfg (Cfg.lift cfg 153 0) (qBM (Func.results Tryz.f153))))) (Prod.snd r)) (v,H)) (qBM (Func.results (Prod.snd (203,Tryz.f203))))))
def qzB:List AV×AH->Option AV:=fun(p:List AV×AH)=>kOpt (LOOP 4 (some [0,1,3]) [] qzX p) qAw
abbrev qkh(bd:Rz)(nv4:Nat)(v5 v11 c0_0 c0_1:Int)(c0_2:Bz)(c0_3 c0_4:Rz)(c0_5:Int)(h1:Rz):Option (AV):=qzE (((fx 48 [(1,.ptr 0 0 0),(4,.ms 1 0 nv4),(5,.int .i64 v5),(9,.sl bd),(10,.int .i64 (bd.length:Int)),(11,.int .i64 v11)]):List AV),([.rows false 6 [[.int .i64 c0_0,.int .i64 c0_1,.str c0_2,.sl c0_3,.sl c0_4,.int .i64 c0_5]],.rows true 1 h1]:AH))
abbrev qgV(L:Rz)(nv5:Nat)(v10:Int)(h0 h1:Rz):Option (AV×List (List AV)):=qzC (((fx 26 [(0,.ptr 0 0 0),(5,.ms 1 0 nv5),(8,.sl L),(9,.int .i64 (L.length:Int)),(10,.int .i64 v10)]):List AV),([.rows true 7 h0,.rows true 4 h1]:AH))
abbrev qkg(bd:Rz)(nv3:Nat)(v12:Int)(h0:Rz)(c1_0 c1_1:Int)(c1_2:Bz)(c1_3 h2:Rz):Option (AV×List (List AV)):=qzD (((fx 25 [(2,.ptr 1 0 0),(3,.ms 2 0 nv3),(10,.sl bd),(11,.int .i64 (bd.length:Int)),(12,.int .i64 v12)]):List AV),([.rows true 7 h0,.rows false 4 [[.int .i64 c1_0,.int .i64 c1_1,.str c1_2,.sl c1_3]],.rows true 4 h2]:AH))
abbrev qki(L:Rz)(b:Bool)(v18 c0_0 c0_1:Int)(c0_2:Bz)(c0_3 c0_4:Rz)(c0_5:Int):Option (AV):=qzF (((fx 42 [(3,.ptr 0 0 0),(6,.bool b),(16,.sl L),(17,.int .i64 (L.length:Int)),(18,.int .i64 v18)]):List AV),([.rows false 6 [[.int .i64 c0_0,.int .i64 c0_1,.str c0_2,.sl c0_3,.sl c0_4,.int .i64 c0_5]]]:AH))
abbrev qkf(v3 c0_0 c0_1:Int)(c0_2:Bz)(c0_3:Rz)(c1_0 c1_1:Int)(c1_2:Bz)(c1_3 c2_0:Rz):Option (AV):=qzB (((fx 19 [(0,.yld 3),(1,.ptr 2 0 0),(3,.int .i64 v3)]):List AV),([.rows false 4 [[.int .i64 c0_0,.int .i64 c0_1,.str c0_2,.sl c0_3]],.rows false 4 [[.int .i64 c1_0,.int .i64 c1_1,.str c1_2,.sl c1_3]],.rows false 1 [[.sl c2_0]],rngB Tryz.f153 153 [1,0,1,0] (fx 16 [(3,.ptr 0 0 0)]) none LoopState.ready]:AH))
theorem qpw(ke ne:Int)(se:Bz)(le bd:Rz)(self:Int){P:AV->Prop}(h:Gets (qkh bd 0 (- 1) 0 ke ne se le bd self []) P):Gets (EVf (EV cfg) 216 [.agg [.int .i64 ke,.int .i64 ne,.str se,.sl le,.sl bd,.int .i64 self]]) P:=
  gE (λ_=>funF rfl rfl Tryz.func216 rfl) (by kernel_rfl) h
theorem qrd(kt nt:Int)(st:Bz)(lt V:Rz){P:AV->Prop}(h:Gets (bif kt==2 then kOpt (EVs (EV cfg) 113 [.agg [.int .i64 kt,.int .i64 nt,.str st,.sl lt]]) λv=>kTup v λcs=>qa cs λc cs=>kInt .i64 c λn=>qa cs λc cs=>qu c λb=>kNil cs (bif ! b then some (.bool true)else kOpt (EVs (EV cfg) 172 [.sl V,.int .i64 n]) λv=>qu v λb=>some (.bool b))else bif kt==9 then kOpt (EVs (EV cfg) 173 [.sl lt,.sl V]) λv=>qu v λb=>some (.bool b)else bif kt==7 then bif(lt.length:Int)==0 then some (.bool false)else bif qn 0 (lt.length:Int)then kOpt (qBg lt 0) λrow=>bif qBh (qBe row) 4 then bif qBv 4 (qBe row)then kTmC (qBm 4 row) λn n_1 s rows=>(bif qh 1 (lt.length:Int)then bif xR 4 lt then bif n==7 then bif(↑ (qBe (qBm (qBe lt - 1) (qBU 1 lt))):Int)==(0:Int)then kOpt (EVs (EV cfg) 173 [.sl rows,.sl V]) λv=>qu v λb=>some (.bool b)else some (.bool false)else bif n != 2 then some (.bool false)else bif s==[(99:UInt8),(111:UInt8),(110:UInt8),(115:UInt8),(116:UInt8)]then some (.bool ((↑ (qBe (qBm (qBe lt - 1) (qBU 1 lt))):Int)==1))else kOpt (EVf (EV cfg) 174 [.str s]) λv=>kSl v λrows=>kOpt (EVs (EV cfg) 172 [.sl rows,.int .i64 (↑ (qBe (qBm (qBe lt - 1) (qBU 1 lt))):Int)]) λv=>qu v λb=>bif b then kOpt (EVs (EV cfg) 173 [.sl (qBm (qBe lt - 1) (qBU 1 lt)),.sl V]) λv=>qu v λb=>some (.bool b)else some (.bool false)else none else none)else none else none else none else some (.bool true)) P):Gets (EVs (EV cfg) 112 [.agg [.int .i64 kt,.int .i64 nt,.str st,.sl lt],.sl V]) P:=
  gE (λ_=>funS rfl rfl Tryz.func112 rfl) (by kernel_rfl) h
theorem qpx(L V:Rz){P:AV->Prop}(h:Gets (kOpt (EVs (EV cfg) 212 [.sl L,AV.fn (Fn.func 213) [] [AV.cptr [.sl V] 0]]) λv=>qu v λb=>some (.bool ! b)) P):Gets (EVs (EV cfg) 173 [.sl L,.sl V]) P:=
  gE (λ_=>funS rfl rfl Tryz.func173 rfl) (by kernel_rfl) h
theorem qmz(kt nt:Int)(st:Bz)(lt V:Rz){P:AV->Prop}(h:Gets (kOpt (EVs (EV cfg) 83 [.agg [.int .i64 kt,.int .i64 nt,.str st,.sl lt]]) λv=>kInt .i64 v λn=>bif n != 0 then some (.int .i64 2)else kOpt (EVs (EV cfg) 112 [.agg [.int .i64 kt,.int .i64 nt,.str st,.sl lt],.sl V]) λv=>qu v λb=>bif ! b then some (.int .i64 10)else some (.int .i64 0)) P):Gets (EVs (EV cfg) 62 [.agg [.int .i64 kt,.int .i64 nt,.str st,.sl lt],.sl V]) P:=
  gE (λ_=>funS rfl rfl Tryz.func62 rfl) (by kernel_rfl) h
abbrev za0(q:AV×List (List AV)):Option (AV×List (List AV)):=kTmV q.1 λn n_1 s rows=>(some (.agg [.int .i64 n,.int .i64 n_1,.str s,.sl rows],q.2))
theorem qk8(ke ne:Int)(se:Bz)(le bd:Rz)(self:Int)(bad:Bool)(kt nt:Int)(st:Bz)(lt:Rz){P:AV×List (List AV)->Prop}(h:Gets (bif bad then kOpt (EVd (EV cfg) 250 [.ptr 0 0 0] 7 [[.int .i64 ke,.int .i64 ne,.str se,.sl le,.sl bd,.int .i64 self,.bool bad]]) λq=>za0 q else kOpt (EVs (EV cfg) 83 [.agg [.int .i64 kt,.int .i64 nt,.str st,.sl lt]]) λv=>kInt .i64 v λn=>bif n != 0 then kOpt (EVd (EV cfg) 250 [.ptr 0 0 0] 7 [[.int .i64 ke,.int .i64 ne,.str se,.sl le,.sl bd,.int .i64 self,.bool bad]]) λq=>za0 q else some (.agg [.int .i64 kt,.int .i64 nt,.str st,.sl lt],[[.int .i64 ke,.int .i64 ne,.str se,.sl le,.sl bd,.int .i64 self,.bool bad]])) P):Gets (EVd (EV cfg) 241 [.ptr 0 0 0,.agg [.int .i64 kt,.int .i64 nt,.str st,.sl lt]] 7 [[AV.int .i64 ke,AV.int .i64 ne,AV.str se,AV.sl le,AV.sl bd,AV.int .i64 self,AV.bool bad]]) P:=
  gE (λ_=>funD rfl rfl Tryz.func241 rfl) (by kernel_rfl) h
theorem qqV(ke ne:Int)(se:Bz)(le bd:Rz)(self:Int)(bad:Bool)(L:Rz){P:AV×List (List AV)->Prop}(h:Gets (qgV L 0 0 [[.int .i64 ke,.int .i64 ne,.str se,.sl le,.sl bd,.int .i64 self,.bool bad]] []) P):Gets (EVd (EV cfg) 243 [.ptr 0 0 0,.sl L] 7 [[AV.int .i64 ke,AV.int .i64 ne,AV.str se,AV.sl le,AV.sl bd,AV.int .i64 self,AV.bool bad]]) P:=
  gE (λ_=>funD rfl rfl Tryz.func243 rfl) (by kernel_rfl) h
theorem qsY(ke ne:Int)(se:Bz)(le bd:Rz)(self:Int)(bad:Bool)(kt nt:Int)(st:Bz)(lt:Rz){P:AV×List (List AV)->Prop}(h:Gets (bif kt==2 then kOpt (EVs (EV cfg) 113 [.agg [.int .i64 kt,.int .i64 nt,.str st,.sl lt]]) λv=>kTup v λcs=>qa cs λc cs=>kInt .i64 c λn=>qa cs λc cs=>qu c λb=>kNil cs (bif b then kOpt (EVf (EV cfg) 240 [.sl bd,.int .i64 n]) λv=>kTup v λcs=>qa cs λc cs=>kAgg c λcs_1=>qa cs_1 λc cs_2=>kInt .i64 c λn=>qa cs_2 λc cs_3=>kInt .i64 c λn_1=>qa cs_3 λc cs_4=>kStr c λs=>qa cs_4 λc cs_5=>kSl c λrows=>kNil cs_5 (qa cs λc cs=>qu c λb=>kNil cs (some (.agg [.int .i64 n,.int .i64 n_1,.str s,.sl rows],[[.int .i64 ke,.int .i64 ne,.str se,.sl le,.sl bd,.int .i64 self,.bool bad]])))else bif st==[(36:UInt8),(95:UInt8)]then some (.agg [.int .i64 ke,.int .i64 ne,.str se,.sl le],[[.int .i64 ke,.int .i64 ne,.str se,.sl le,.sl bd,.int .i64 self,.bool bad]])else bif st==[(36:UInt8),(36:UInt8)]then kOpt (EVd (EV cfg) 242 [.ptr 0 0 0] 7 [[.int .i64 ke,.int .i64 ne,.str se,.sl le,.sl bd,.int .i64 self,.bool bad]]) λq=>kTmV q.1 λn n_1 s rows=>(kOpt (EVd (EV cfg) 241 [.ptr 0 0 0,.agg [.int .i64 n,.int .i64 n_1,.str s,.sl rows]] 7 q.2) λq=>kTmV q.1 λn n_2 s rows=>(some (.agg [.int .i64 n,.int .i64 n_2,.str s,.sl rows],q.2)))else some (.agg [.int .i64 kt,.int .i64 nt,.str st,.sl lt],[[.int .i64 ke,.int .i64 ne,.str se,.sl le,.sl bd,.int .i64 self,.bool bad]]))else bif kt==9 then kOpt (EVd (EV cfg) 243 [.ptr 0 0 0,.sl lt] 7 [[.int .i64 ke,.int .i64 ne,.str se,.sl le,.sl bd,.int .i64 self,.bool bad]]) λq=>kSl q.1 λrows=>kOpt (EVd (EV cfg) 241 [.ptr 0 0 0,.agg [.int .i64 9,.int .i64 0,.str [],.sl rows]] 7 q.2) λq=>za0 q else bif kt==7 then bif qn 0 (lt.length:Int)then kOpt (qBg lt 0) λrow=>bif qBh (qBe row) 4 then bif qBv 4 (qBe row)then kTmC (qBm 4 row) λn n_1 s rows=>(bif n==7 then kOpt (EVd (EV cfg) 243 [.ptr 0 0 0,.sl rows] 7 [[.int .i64 ke,.int .i64 ne,.str se,.sl le,.sl bd,.int .i64 self,.bool bad]]) λq=>kSl q.1 λrows=>kOpt (EVd (EV cfg) 241 [.ptr 0 0 0,.agg [.int .i64 7,.int .i64 0,.str [],.sl rows]] 7 q.2) λq=>kTmV q.1 λn n_2 s rows=>(some (.agg [.int .i64 n,.int .i64 n_2,.str s,.sl rows],q.2))else bif s==[(99:UInt8),(111:UInt8),(110:UInt8),(115:UInt8),(116:UInt8)]then bif qn 1 (lt.length:Int)then kOpt (qBg lt 1) λrow=>bif qBh (qBe row) 4 then bif qBv 4 (qBe row)then kTmC (qBm 4 row) λn n_2 s rows=>(some (.agg [.int .i64 n,.int .i64 n_2,.str s,.sl rows],[[.int .i64 ke,.int .i64 ne,.str se,.sl le,.sl bd,.int .i64 self,.bool bad]]))else none else none else none else bif s==[(97:UInt8),(110:UInt8),(100:UInt8),(97:UInt8),(108:UInt8),(115:UInt8),(111:UInt8)]then bif qn 1 (lt.length:Int)then kOpt (qBg lt 1) λrow=>bif qBh (qBe row) 4 then bif qBv 4 (qBe row)then kTmC (qBm 4 row) λn n_2 s_1 rows=>(kOpt (EVd (EV cfg) 217 [.ptr 0 0 0,.agg [.int .i64 n,.int .i64 n_2,.str s_1,.sl rows]] 7 [[.int .i64 ke,.int .i64 ne,.str se,.sl le,.sl bd,.int .i64 self,.bool bad]]) λq=>kTmV q.1 λn n_3 s_2 rows=>(kOpt (qBg q.2 0) λrow=>kOpt (qBg row 6) λv=>qu v λb=>bif b then some (.agg [.int .i64 n,.int .i64 n_3,.str s_2,.sl rows],q.2)else kOpt (EVm (EV cfg) 244 [.ptr 0 0 0,.agg [.int .i64 n,.int .i64 n_3,.str s_2,.sl rows]] 7 q.2) λq=>yc q.1 λb=>bif ! b==(s==[(97:UInt8),(110:UInt8),(100:UInt8),(97:UInt8),(108:UInt8),(115:UInt8),(111:UInt8)])then some (.agg [.int .i64 n,.int .i64 n_3,.str s_2,.sl rows],q.2)else kOpt (qBg q.2 0) λrow=>kOpt (qBg row 6) λv=>qu v λb=>bif b then some (.agg [.int .i64 n,.int .i64 n_3,.str s_2,.sl rows],q.2)else bif qn 2 (lt.length:Int)then kOpt (qBg lt 2) λrow=>bif qBh (qBe row) 4 then bif qBv 4 (qBe row)then kTmC (qBm 4 row) λn n_4 s rows=>(kOpt (EVd (EV cfg) 217 [.ptr 0 0 0,AV.agg [.int .i64 n,.int .i64 n_4,.str s,.sl rows]] 7 q.2) λq=>kTmV q.1 λn n_5 s rows=>(kOpt (qBg q.2 0) λrow=>kOpt (qBg row 6) λv=>qu v λb=>bif ! b then kOpt (EVm (EV cfg) 244 [.ptr 0 0 0,AV.agg [.int .i64 n,.int .i64 n_5,.str s,.sl rows]] 7 q.2) λq=>yc q.1 λb=>some (AV.agg [.int .i64 n,.int .i64 n_5,.str s,.sl rows],q.2)else some (AV.agg [.int .i64 n,.int .i64 n_5,.str s,.sl rows],q.2)))else none else none else none))else none else none else none else bif s==[(111:UInt8),(114:UInt8),(101:UInt8),(108:UInt8),(115:UInt8),(101:UInt8)]then bif qn 1 (lt.length:Int)then kOpt (qBg lt 1) λrow=>bif qBh (qBe row) 4 then bif qBv 4 (qBe row)then kTmC (qBm 4 row) λn n_2 s_1 rows=>(kOpt (EVd (EV cfg) 217 [.ptr 0 0 0,.agg [.int .i64 n,.int .i64 n_2,.str s_1,.sl rows]] 7 [[.int .i64 ke,.int .i64 ne,.str se,.sl le,.sl bd,.int .i64 self,.bool bad]]) λq=>kTmV q.1 λn n_3 s_2 rows=>(kOpt (qBg q.2 0) λrow=>kOpt (qBg row 6) λv=>qu v λb=>bif b then some (.agg [.int .i64 n,.int .i64 n_3,.str s_2,.sl rows],q.2)else kOpt (EVm (EV cfg) 244 [.ptr 0 0 0,.agg [.int .i64 n,.int .i64 n_3,.str s_2,.sl rows]] 7 q.2) λq=>yc q.1 λb=>bif ! b==(s==[(97:UInt8),(110:UInt8),(100:UInt8),(97:UInt8),(108:UInt8),(115:UInt8),(111:UInt8)])then some (.agg [.int .i64 n,.int .i64 n_3,.str s_2,.sl rows],q.2)else kOpt (qBg q.2 0) λrow=>kOpt (qBg row 6) λv=>qu v λb=>bif b then some (.agg [.int .i64 n,.int .i64 n_3,.str s_2,.sl rows],q.2)else bif qn 2 (lt.length:Int)then kOpt (qBg lt 2) λrow=>bif qBh (qBe row) 4 then bif qBv 4 (qBe row)then kTmC (qBm 4 row) λn n_4 s rows=>(kOpt (EVd (EV cfg) 217 [.ptr 0 0 0,AV.agg [.int .i64 n,.int .i64 n_4,.str s,.sl rows]] 7 q.2) λq=>kTmV q.1 λn n_5 s rows=>(kOpt (qBg q.2 0) λrow=>kOpt (qBg row 6) λv=>qu v λb=>bif ! b then kOpt (EVm (EV cfg) 244 [.ptr 0 0 0,AV.agg [.int .i64 n,.int .i64 n_5,.str s,.sl rows]] 7 q.2) λq=>yc q.1 λb=>some (AV.agg [.int .i64 n,.int .i64 n_5,.str s,.sl rows],q.2)else some (AV.agg [.int .i64 n,.int .i64 n_5,.str s,.sl rows],q.2)))else none else none else none))else none else none else none else bif qh 1 (lt.length:Int)then bif xR 4 lt then kOpt (EVd (EV cfg) 243 [.ptr 0 0 0,.sl (qBm (qBe lt - 1) (qBU 1 lt))] 7 [[.int .i64 ke,.int .i64 ne,.str se,.sl le,.sl bd,.int .i64 self,.bool bad]]) λq=>kSl q.1 λrows=>kOpt (qBg q.2 0) λrow=>kOpt (qBg row 6) λv=>qu v λb=>bif b then some (.agg [.int .i64 0,.int .i64 0,.str [],.sl []],q.2)else kOpt (EVd (EV cfg) 205 [.ptr 0 0 0,.str s,.sl rows] 7 q.2) λq=>kTmV q.1 λn n_2 s rows=>(kOpt (EVd (EV cfg) 241 [.ptr 0 0 0,.agg [.int .i64 n,.int .i64 n_2,.str s,.sl rows]] 7 q.2) λq=>kTmV q.1 λn n_3 s rows=>(some (.agg [.int .i64 n,.int .i64 n_3,.str s,.sl rows],q.2)))else none else none)else none else none else none else some (.agg [.int .i64 kt,.int .i64 nt,.str st,.sl lt],[[.int .i64 ke,.int .i64 ne,.str se,.sl le,.sl bd,.int .i64 self,.bool bad]])) P):Gets (EVd (EV cfg) 217 [.ptr 0 0 0,.agg [.int .i64 kt,.int .i64 nt,.str st,.sl lt]] 7 [[AV.int .i64 ke,AV.int .i64 ne,AV.str se,AV.sl le,AV.sl bd,AV.int .i64 self,AV.bool bad]]) P:=
  gE (λ_=>funD rfl rfl Tryz.func217 rfl) (by kernel_rfl) h
theorem qs0(ke ne:Int)(se:Bz)(le bd:Rz)(self:Int)(bad:Bool){P:AV×List (List AV)->Prop}(h:Gets (qkg bd 0 0 [[.int .i64 ke,.int .i64 ne,.str se,.sl le,.sl bd,.int .i64 self,.bool bad]] 0 0 [] [] []) P):Gets (EVd (EV cfg) 242 [.ptr 0 0 0] 7 [[AV.int .i64 ke,AV.int .i64 ne,AV.str se,AV.sl le,AV.sl bd,AV.int .i64 self,AV.bool bad]]) P:=
  gE (λ_=>funD rfl rfl Tryz.func242 rfl) (by kernel_rfl) h
theorem qvA(kt nt:Int)(st:Bz)(lt:Rz)(ke ne:Int)(se:Bz)(le bd:Rz)(self:Int){P:AV->Prop}(h:Gets (kOpt (EVf (EV cfg) 216 [.agg [.int .i64 ke,.int .i64 ne,.str se,.sl le,.sl bd,.int .i64 self]]) λv=>kTup v λcs=>qa cs λc cs=>kSl c λrows=>qa cs λc cs=>qu c λb=>kNil cs (bif ! b then some (AV.tup [.agg [.int .i64 0,.int .i64 (0:Int),.str [],.sl []],.int .i64 2])else kOpt (EVs (EV cfg) 62 [.agg [.int .i64 kt,.int .i64 nt,.str st,.sl lt],.sl rows]) λv=>kInt .i64 v λn=>bif n != 0 then some (AV.tup [.agg [.int .i64 0,.int .i64 0,.str [],.sl []],.int .i64 2])else kOpt (EVd (EV cfg) 217 [.ptr 0 0 0,.agg [.int .i64 kt,.int .i64 nt,.str st,.sl lt]] 7 [[.int .i64 ke,.int .i64 ne,.str se,.sl le,.sl bd,.int .i64 self,.bool false]]) λq=>kTmV q.1 λn n_1 s rows=>(kOpt (qBg q.2 0) λrow=>kOpt (qBg row 6) λv=>qu v λb=>bif b then some (AV.tup [.agg [.int .i64 0,.int .i64 0,.str [],.sl []],.int .i64 10])else kOpt (EVf (EV cfg) 45 [.agg [.int .i64 n,.int .i64 n_1,.str s,.sl rows]]) λv=>kTmV v λn n_2 s rows=>(some (AV.tup [.agg [.int .i64 n,.int .i64 n_2,.str s,.sl rows],.int .i64 0]))))) P):Gets (EVf (EV cfg) 182 [.agg [.int .i64 kt,.int .i64 nt,.str st,.sl lt],.agg [.int .i64 ke,.int .i64 ne,.str se,.sl le,.sl bd,.int .i64 self]]) P:=
  gE (λ_=>funF rfl rfl Tryz.func182 rfl) (by kernel_rfl) h
theorem qts(L:Rz)(ke ne:Int)(se:Bz)(le bd:Rz)(self:Int){P:AV->Prop}(h:Gets (kOpt (EVf (EV cfg) 216 [.agg [.int .i64 ke,.int .i64 ne,.str se,.sl le,.sl bd,.int .i64 self]]) λv=>kTup v λcs=>qa cs λc cs=>kSl c λrows=>qa cs λc cs=>qu c λb=>kNil cs (qki L b 0 ke ne se le bd self)) P):Gets (EVs (EV cfg) 181 [.sl L,.agg [.int .i64 ke,.int .i64 ne,.str se,.sl le,.sl bd,.int .i64 self]]) P:=
  gE (λ_=>funS rfl rfl Tryz.func181 rfl) (by kernel_rfl) h
theorem qo7(L:Rz)(kt nt:Int)(st:Bz)(lt:Rz){P:AV->Prop}(h:Gets (qkf (qBf .i64 ((L.length:Int) - 1)) kt nt st lt 0 0 [] [] L) P):Gets (EVf (EV cfg) 153 [.sl L,.agg [.int .i64 kt,.int .i64 nt,.str st,.sl lt]]) P:=
  gE (λ_=>funF rfl rfl Tryz.func153 rfl) (by kernel_rfl) h
theorem qiF(bd:Rz)(nv4:Nat)(v5 v11 c0_0 c0_1:Int)(c0_2:Bz)(c0_3 c0_4:Rz)(c0_5:Int)(h1:Rz){P:AV->Prop}(h:Gets (bif decide (v11<(bd.length:Int))then bif qh 0 v11&&qn v11 (bd.length:Int)then kOpt (qBg bd (v11.toNat)) λrow=>bif qBh (qBe row) 5 then bif qBv 5 (qBe row)then qa (qBm 5 row) λc cs=>kInt .i64 c λn=>kTmC cs λn_1 n_2 s rows=>(bif decide (n<=v5)then some (AV.tup [.sl [],.bool false])else bif decide (n>99)then some (AV.tup [.sl [],.bool false])else kOpt (EVs (EV cfg) 83 [.agg [.int .i64 n_1,.int .i64 n_2,.str s,.sl rows]]) λv=>kInt .i64 v λn_3=>bif n_3 != 0 then some (AV.tup [.sl [],.bool false])else bif qBv (0+nv4) (qBe h1)&&q8 (nv4+1) 8 then qkh bd (nv4+1) n (qBf .i64 (v11+1)) c0_0 c0_1 c0_2 c0_3 c0_4 c0_5 (qBA (qBm nv4 h1) [[.int .i64 n]])else none)else none else none else none else kOpt (EVs (EV cfg) 83 [.agg [.int .i64 c0_0,.int .i64 c0_1,.str c0_2,.sl c0_3]]) λv=>kInt .i64 v λn=>bif n==0 then kOpt (EVs (EV cfg) 204 [.int .i64 c0_5]) λv=>qu v λb=>bif qBv (0+nv4) (qBe h1)&&true then some (AV.tup [.sl (qBm nv4 h1),.bool b])else none else bif qBv (0+nv4) (qBe h1)&&true then some (AV.tup [.sl (qBm nv4 h1),.bool false])else none) P):Gets (qkh bd nv4 v5 v11 c0_0 c0_1 c0_2 c0_3 c0_4 c0_5 h1) P:=
  gE (λ_=>qB (cfg:=cfg) (f:=216) (rd:=none) (bs:=0)) (by kernel_rfl) h
theorem qeT(L:Rz)(nv5:Nat)(v10:Int)(h0 h1:Rz){P:AV×List (List AV)->Prop}(h:Gets (bif decide (v10<(L.length:Int))then bif qh 0 v10&&qn v10 (L.length:Int)then kOpt (qBg L (v10.toNat)) λrow=>bif qBh (qBe row) 4 then bif qBv 4 (qBe row)then kTmC (qBm 4 row) λn n_1 s rows=>(kOpt (qBg h0 0) λrow=>kOpt (qBg row 6) λv=>qu v λb=>bif b then some (.sl [],h0)else kOpt (EVd (EV cfg) 217 [.ptr 0 0 0,.agg [.int .i64 n,.int .i64 n_1,.str s,.sl rows]] 7 h0) λq=>kTmV q.1 λn n_2 s rows=>(bif qBv (0+nv5) (qBe h1)&&q8 (nv5+1) 56 then qgV L (nv5+1) (qBf .i64 (v10+1)) q.2 (qBA (qBm nv5 h1) [[.int .i64 n,.int .i64 n_2,.str s,.sl rows]])else none))else none else none else none else bif qBv (0+nv5) (qBe h1)&&true then some (.sl (qBm nv5 h1),h0)else none) P):Gets (qgV L nv5 v10 h0 h1) P:=
  gE (λ_=>qB (cfg:=cfg) (f:=243) (rd:=none) (bs:=1)) (by kernel_rfl) h
theorem qiE(bd:Rz)(nv3:Nat)(v12:Int)(h0:Rz)(c1_0 c1_1:Int)(c1_2:Bz)(c1_3 h2:Rz){P:AV×List (List AV)->Prop}(h:Gets (bif decide (v12<(bd.length:Int))then bif qh 0 v12&&qn v12 (bd.length:Int)then kOpt (qBg bd (v12.toNat)) λrow=>bif qBh (qBe row) 5 then bif qBv 5 (qBe row)then qa (qBm 5 row) λc cs=>kInt .i64 c λn=>kTmC cs λn n_1 s rows=>(bif qBv (0+nv3) (qBe h2)&&q8 (nv3+1) 56 then qkg bd (nv3+1) (qBf .i64 (v12+1)) h0 c1_0 c1_1 c1_2 c1_3 (qBA (qBm nv3 h2) [[.int .i64 n,.int .i64 n_1,.str s,.sl rows]])else none)else none else none else none else bif qBv (0+nv3) (qBe h2)&&true then kOpt (EVf (EV cfg) 153 [.sl (qBm nv3 h2),.agg [.int .i64 8,.int .i64 0,.str [],.sl []]]) λv=>kTmV v λn n_1 s rows=>(some (.agg [.int .i64 n,.int .i64 n_1,.str s,.sl rows],h0))else none) P):Gets (qkg bd nv3 v12 h0 c1_0 c1_1 c1_2 c1_3 h2) P:=
  gE (λ_=>qB (cfg:=cfg) (f:=242) (rd:=none) (bs:=1)) (by kernel_rfl) h
theorem qiG(L:Rz)(b:Bool)(v18 c0_0 c0_1:Int)(c0_2:Bz)(c0_3 c0_4:Rz)(c0_5:Int){P:AV->Prop}(h:Gets (bif decide (v18<(L.length:Int))then bif qh 0 v18&&qn v18 (L.length:Int)then kOpt (qBg L (v18.toNat)) λrow=>bif qBh (qBe row) 4 then bif qBv 4 (qBe row)then kTmC (qBm 4 row) λn n_1 s rows=>(kOpt (EVf (EV cfg) 182 [.agg [.int .i64 n,.int .i64 n_1,.str s,.sl rows],.agg [.int .i64 c0_0,.int .i64 c0_1,.str c0_2,.sl c0_3,.sl c0_4,.int .i64 c0_5]]) λv=>kTup v λcs=>qa cs λc cs=>kAgg c λcs_1=>qa cs_1 λc cs_2=>kInt .i64 c λn=>qa cs_2 λc cs_3=>kInt .i64 c λn_2=>qa cs_3 λc cs_4=>kStr c λs=>qa cs_4 λc cs_5=>kSl c λrows=>kNil cs_5 (qa cs λc cs=>kInt .i64 c λn_3=>kNil cs (bif n_3 != 0 then some (.bool false)else bif n != 2 then some (.bool false)else bif ! s==[(116:UInt8),(114:UInt8),(117:UInt8),(101:UInt8)]then some (.bool false)else qki L b (qBf .i64 (v18+1)) c0_0 c0_1 c0_2 c0_3 c0_4 c0_5)))else none else none else none else some (.bool b)) P):Gets (qki L b v18 c0_0 c0_1 c0_2 c0_3 c0_4 c0_5) P:=
  gE (λ_=>qB (cfg:=cfg) (f:=181) (rd:=none) (bs:=0)) (by kernel_rfl) h
theorem qiD(v3 c0_0 c0_1:Int)(c0_2:Bz)(c0_3:Rz)(c1_0 c1_1:Int)(c1_2:Bz)(c1_3 c2_0:Rz){P:AV->Prop}(h:Gets (bif decide (v3≥0)then bif qh 0 v3&&qn v3 (c2_0.length:Int)then kOpt (qBg c2_0 (v3.toNat)) λrow=>bif qBh (qBe row) 4 then bif qBv 4 (qBe row)then kTmC (qBm 4 row) λn n_1 s rows=>(qkf (qBf .i64 (v3 - (1:Int))) 9 0 [] [[.int .i64 n,.int .i64 n_1,.str s,.sl rows],[.int .i64 c0_0,.int .i64 c0_1,.str c0_2,.sl c0_3]] c1_0 c1_1 c1_2 c1_3 c2_0)else none else none else none else some (.agg [.int .i64 c0_0,.int .i64 c0_1,.str c0_2,.sl c0_3])) P):Gets (qkf v3 c0_0 c0_1 c0_2 c0_3 c1_0 c1_1 c1_2 c1_3 c2_0) P:=
  gE (λ_=>qB (cfg:=cfg) (f:=203) (rd:=none) (bs:=4)) (by kernel_rfl) h
def qzW:Den:=evC cfg (EV cfg) 236 none 0 (sub (qg Tryz.f236) [1,0,1,0,0])
def qAv:Ex×List AV×AH->Option AV:=kAft (Cfg.keepOut cfg 236 2) (kRun cfg (EV cfg) (kfN cfg 6) 236 none 0 (qaM cfg (Cfg.lift cfg 236 0) Tryz.f236.results.toList) ([.block 0,.seq (sub (qg Tryz.f236) [1,1])]))
def qzA:List AV×AH->Option AV:=λp=>kOpt (LOOP 0 (some [0,1,7,8]) ([]) qzW p) qAv
abbrev qke(L V:Rz)(v8:Int):Option (AV):=qzA (((fx 19 [(0,.sl L),(1,.fn (Fn.func 213) [] [.cptr [.sl V] 0]),(7,.int .i64 (L.length:Int)),(8,.int .i64 v8)]):List AV),([]:AH))
theorem qpL(L V:Rz){P:AV->Prop}(h:Gets (kOpt (EVs (EV cfg) 236 [.sl L,AV.fn (Fn.func 213) [] [AV.cptr [.sl V] 0]]) λv=>kInt .i64 v λn=>some (.bool (decide (n≥0)))) P):Gets (EVs (EV cfg) 212 [.sl L,.fn (Fn.func 213) [] [.cptr [.sl V] 0]]) P:=
  gE (λ_=>funS rfl rfl Tryz.func212 rfl) (by kernel_rfl) h
theorem qrb(L V:Rz){P:AV->Prop}(h:Gets (qke L V 0) P):Gets (EVs (EV cfg) 236 [.sl L,.fn (Fn.func 213) [] [.cptr [.sl V] 0]]) P:=
  gE (λ_=>funS rfl rfl Tryz.func236 rfl) (by kernel_rfl) h
theorem qv2(ke ne:Int)(se:Bz)(le V:Rz){P:AV->Prop}(h:Gets (kOpt (EVs (EV cfg) 112 [.agg [.int .i64 ke,.int .i64 ne,.str se,.sl le],.sl V]) λv=>qu v λb=>some (.bool ! b)) P):Gets (EVs (EV cfg) 213 [.agg [.int .i64 ke,.int .i64 ne,.str se,.sl le],.cptr [.sl V] 0]) P:=
  gE (λ_=>funS rfl rfl Tryz.func213 rfl) (by kernel_rfl) h
theorem qiC(L V:Rz)(v8:Int){P:AV->Prop}(h:Gets (bif decide (v8<(L.length:Int))then bif qh 0 v8&&qn v8 (L.length:Int)then kOpt (qBg L (v8.toNat)) λrow=>bif qBh (qBe row) 4 then bif qBv 4 (qBe row)then kTmC (qBm 4 row) λn n_1 s rows=>(kOpt (EVs (EV cfg) 213 [.agg [.int .i64 n,.int .i64 n_1,.str s,.sl rows],AV.cptr [.sl V] 0]) λv=>qu v λb=>bif b then some (.int .i64 v8)else qke L V (qBf .i64 (v8+1)))else none else none else none else some (.int .i64 (- 1))) P):Gets (qke L V v8) P:=
  gE (λ_=>qB (cfg:=cfg) (f:=236) (rd:=none) (bs:=0)) (by kernel_rfl) h
def qz9:Den:=evC cfg (EV cfg) 176 none 0 (sub (qg Tryz.f176) [1,1,1,0,1,0,0])
def qAI:Ex×List AV×AH->Option AV:=kAft (Cfg.keepOut cfg 176 5) (kRun cfg (EV cfg) (kfN cfg 6) 176 none 0 (qaM cfg (Cfg.lift cfg 176 0) Tryz.f176.results.toList) ([.block 0,.seq (sub (qg Tryz.f176) [1,1,1,1])]))
def qzM:List AV×AH->Option AV:=λp=>kOpt (LOOP 0 (some [4,32,33,34]) ([]) qz9 p) qAI
abbrev qdR(s:Bz)(v4 v34:Int)(h0:Rz):Option (AV):=qzM (((fx 52 [(4,.int .i64 v4),(32,.ms 0 0 (qBe (qBm (qBe s - 1) (qBU 1 s)))),(33,.int .i64 (↑(qBe (qBm (qBe s - 1) (qBU 1 s))):Int)),(34,.int .i64 v34)]):List AV),([.rows true 1 h0]:AH))
abbrev zc1(s:Bz):Option (AV):=qdR s 0 0 (List.map (λb=>[.int .u8 (↑ (UInt8.toNat b):Int)]) (qBm (qBe s - 1) (qBU 1 s)))
abbrev zc0(s:Bz):Option (AV):=bif qh 1 (s.length:Int)then zc1 s else none
theorem qnH(s:Bz){P:AV->Prop}(h:Gets (bif decide ((s.length:Int)<2)then some (AV.tup [.int .i64 0,.bool false])else bif decide ((s.length:Int)>3)then some (AV.tup [.int .i64 0,.bool false])else kOpt (qBg s 0) λb=>bif(↑ (UInt8.toNat b):Int) != 36 then some (AV.tup [.int .i64 0,.bool false])else bif(s.length:Int)==3 then kOpt (qBg s 1) λb=>bif(↑ (UInt8.toNat b):Int)==48 then some (AV.tup [.int .i64 0,.bool false])else zc0 s else zc0 s) P):Gets (EVs (EV cfg) 176 [.str s]) P:=
  gE (λ_=>funS rfl rfl Tryz.func176 rfl) (by kernel_rfl) h
theorem qsN(kt nt:Int)(st:Bz)(lt:Rz){P:AV->Prop}(h:Gets (kOpt (EVs (EV cfg) 83 [.agg [.int .i64 kt,.int .i64 nt,.str st,.sl lt]]) λv=>kInt .i64 v λn=>some (.bool (n==0))) P):Gets (EVs (EV cfg) 175 [.agg [.int .i64 kt,.int .i64 nt,.str st,.sl lt]]) P:=
  gE (λ_=>funS rfl rfl Tryz.func175 rfl) (by kernel_rfl) h
theorem qsM(kt nt:Int)(st:Bz)(lt:Rz){P:AV->Prop}(h:Gets (bif kt != 2 then some (AV.tup [.int .i64 0,.bool false])else kOpt (EVs (EV cfg) 175 [.agg [.int .i64 kt,.int .i64 nt,.str st,.sl lt]]) λv=>qu v λb=>bif ! b then some (AV.tup [.int .i64 0,.bool false])else kOpt (EVs (EV cfg) 176 [.str st]) λv=>kTup v λcs=>qa cs λc cs=>kInt .i64 c λn=>qa cs λc cs=>qu c λb=>kNil cs (some (AV.tup [.int .i64 n,.bool b]))) P):Gets (EVs (EV cfg) 113 [.agg [.int .i64 kt,.int .i64 nt,.str st,.sl lt]]) P:=
  gE (λ_=>funS rfl rfl Tryz.func113 rfl) (by kernel_rfl) h
theorem qkJ(n:Int)(r:List AV){P:MV×List (List AV)->Prop}(h:Gets (bif decide (n<64)then kOpt (qBg r 0) λv=>kInt .u64 v λn_1=>kOpt (qU (Op.shift BinOp.shl .u64 1 .i64 n)) λv=>kInt .u64 v λn=>kOpt (qU (Op.intBits BinOp.or .u64 n_1 n)) λv=>kInt .u64 v λn=>bif qBv 1 (qBe r)then some (MV.unit,[.int .u64 n::qBU 1 r])else none else kOpt (qBg r 1) λv=>kInt .u64 v λn_1=>kOpt (qU (Op.shift BinOp.shl .u64 1 .i64 (qBf .i64 (n - 64)))) λv=>kInt .u64 v λn=>kOpt (qU (Op.intBits BinOp.or .u64 n_1 n)) λv=>kInt .u64 v λn=>bif qBv 2 (qBe r)then some (MV.unit,[qBA (qBA (qBm 1 r) [.int .u64 n]) (qBU 2 r)])else none) P):Gets (EVm (EV cfg) 226 [.ptr 0 0 0,.int .i64 n] 402 [r]) P:=
  gE (λ_=>funM rfl rfl Tryz.func226 rfl) (by kernel_rfl) h
abbrev zc2(v:AV):Option (AV):=kInt .u64 v λn=>kOpt (qU (Op.intBits BinOp.and .u64 n 1)) λv=>kInt .u64 v λn=>some (.bool (n==1))
theorem qsB(n:Int)(r:List AV){P:AV->Prop}(h:Gets (bif decide (n<64)then kOpt (qBg r 0) λv=>kInt .u64 v λn_1=>kOpt (qU (Op.shift BinOp.shr .u64 n_1 .i64 n)) λv=>zc2 v else kOpt (qBg r 1) λv=>kInt .u64 v λn_1=>kOpt (qU (Op.shift BinOp.shr .u64 n_1 .i64 (qBf .i64 (n - 64)))) λv=>zc2 v) P):Gets (EVs (EV cfg) 227 [.cptr r 0,.int .i64 n]) P:=
  gE (λ_=>funS rfl rfl Tryz.func227 rfl) (by kernel_rfl) h
theorem qiL(s:Bz)(v4 v34:Int)(h0:Rz){P:AV->Prop}(h:Gets (bif decide (v34<(↑ (qBe (qBm (qBe s - 1) (qBU 1 s))):Int))then bif qh 0 v34&&qn v34 (↑ (qBe (qBm (qBe s - 1) (qBU 1 s))):Int)then kOpt (qBg h0 (0+v34.toNat)) λrow=>kOpt (qBg row 0) λv=>kInt .u8 v λn=>bif decide (n<48)then some (AV.tup [.int .i64 0,.bool false])else bif decide (n>57)then some (AV.tup [.int .i64 0,.bool false])else qdR s (qBf .i64 (qBf .i64 (v4*10)+qBf .i64 (qBf .u8 (n - 48)))) (qBf .i64 (v34+1)) h0 else none else some (AV.tup [.int .i64 v4,.bool true])) P):Gets (qdR s v4 v34 h0) P:=
  gE (λ_=>qB (cfg:=cfg) (f:=176) (rd:=none) (bs:=0)) (by kernel_rfl) h
def qwl:Den:=evC cfg (EV cfg) 192 none 5 (sub (qg Tryz.f192) [1,0,0])
def qwt:Ex×List AV×AH->Option AV:=kAft (Cfg.keepOut cfg 192 (qk (sub (qg Tryz.f192) [1,0,0]))) (vP 0 (xO cfg (Cfg.lift cfg 192 0) (fun(v:AV) (H:AH)=>(fun(r:AV×AH)=>ym 0 4 (fx 17 [(2,AV.ptr 1 0 0),(3,AV.ptr 2 0 0)]) (vP 0 (kSeq (fun(fr:List AV) (H:AH)=>xa (Cfg.cut cfg 83 (qk (sub (qg Tryz.f83) [1,1,1]))) fr H fun(fr:List AV) (H:AH)=>vh cfg (EV cfg) (kfN cfg 6) 83 none 0 (sub (qg Tryz.f83) [1,1,1]) fr H (qaM cfg (Cfg.lift cfg 83 0) (qBM (Func.results Tryz.f83)))) (qaM cfg (Cfg.lift cfg 83 0) (qBM (Func.results Tryz.f83))))) (Prod.snd r)) (v,H)) (qBM (Func.results (Prod.snd (192,Tryz.f192))))))
def qzK:List AV×AH->Option AV:=fun(p:List AV×AH)=>kOpt (LOOP 5 (some [0,3]) [(3,4)] qwl p) qwt
def qz7:Den:=evC cfg (EV cfg) 203 none 10 (sub (qg Tryz.f203) [1,0,0])
def qAG:Ex×List AV×AH->Option AV:=kAft (Cfg.keepOut cfg 203 (qk (sub (qg Tryz.f203) [1,0,0]))) (vP 0 (xO cfg (Cfg.lift cfg 203 0) (fun(v:AV) (H:AH)=>(fun(r:AV×AH)=>ym 5 9 (fx 38 [(0,AV.yld 4),(3,AV.ptr 5 0 0)]) (vP 2 (vP 1 (kLp 5 (some [0,3]) [(3,4)] qwl qwt))) (Prod.snd r)) (v,H)) (qBM (Func.results (Prod.snd (203,Tryz.f203))))))
def qwa:List AV×AH->Option AV:=fun(p:List AV×AH)=>kOpt (LOOP 10 (some [0,1,3]) [] qz7 p) qAG
abbrev qdQ(c0_0 c0_1:Int)(c0_2:Bz)(c0_3:Rz)(c1_0 c2_0 c3_0 c3_1:Int)(c3_2:Bz)(c3_3:Rz)(nc5_0:Nat)(h6:Rz):Option (AV):=qzK (((fx 38 [(0,.yld 4),(3,.ptr 5 0 0)]):List AV),([.rows false 4 [[.int .i64 c0_0,.int .i64 c0_1,.str c0_2,.sl c0_3]],.rows false 1 [[.int .i64 c1_0]],.rows false 1 [[.int .i64 c2_0]],.rows false 4 [[.int .i64 c3_0,.int .i64 c3_1,.str c3_2,.sl c3_3]],rngB Tryz.f83 83 [1,1,0,1,0] (fx 17 [(2,.ptr 1 0 0),(3,.ptr 2 0 0)]) none LoopState.ready,.rows false 1 [[.ms 6 0 nc5_0]],.rows true 4 h6]:AH))
abbrev qoq(v3 c0_0 c0_1:Int)(c0_2:Bz)(c0_3:Rz)(c1_0 c2_0 c3_0 c3_1:Int)(c3_2:Bz)(c3_3:Rz)(nc5_0:Nat)(h6:Rz)(c7_0 c7_1:Int)(c7_2:Bz)(c7_3 c8_0:Rz):Option (AV):=qwa (((fx 19 [(0,.yld 9),(1,.ptr 8 0 0),(3,.int .i64 v3)]):List AV),([.rows false 4 [[.int .i64 c0_0,.int .i64 c0_1,.str c0_2,.sl c0_3]],.rows false 1 [[.int .i64 c1_0]],.rows false 1 [[.int .i64 c2_0]],.rows false 4 [[.int .i64 c3_0,.int .i64 c3_1,.str c3_2,.sl c3_3]],rngB Tryz.f83 83 [1,1,0,1,0] (fx 17 [(2,.ptr 1 0 0),(3,.ptr 2 0 0)]) none LoopState.ready,.rows false 1 [[.ms 6 0 nc5_0]],.rows true 4 h6,.rows false 4 [[.int .i64 c7_0,.int .i64 c7_1,.str c7_2,.sl c7_3]],.rows false 1 [[.sl c8_0]],rngB Tryz.f192 192 [1,0,0,1,0,1,1,1,1,0] (fx 38 [(3,.ptr 5 0 0)]) none LoopState.ready]:AH))
abbrev qmc(v3 c0_0 c0_1:Int)(c0_2:Bz)(c0_3:Rz)(c1_0 c2_0 c3_0 c3_1:Int)(c3_2:Bz)(c3_3:Rz)(nc5_0:Nat)(c7_0 c7_1:Int)(c7_2:Bz)(c7_3 c8_0 h10:Rz):Option (AV):=qwa (((fx 19 [(0,.yld 9),(1,.ptr 8 0 0),(3,.int .i64 v3)]):List AV),([.rows false 4 [[.int .i64 c0_0,.int .i64 c0_1,.str c0_2,.sl c0_3]],.rows false 1 [[.int .i64 c1_0]],.rows false 1 [[.int .i64 c2_0]],.rows false 4 [[.int .i64 c3_0,.int .i64 c3_1,.str c3_2,.sl c3_3]],rngB Tryz.f83 83 [1,1,0,1,0] (fx 17 [(2,.ptr 1 0 0),(3,.ptr 2 0 0)]) none LoopState.ready,.rows false 1 [[.ms 10 0 nc5_0]],.dead,.rows false 4 [[.int .i64 c7_0,.int .i64 c7_1,.str c7_2,.sl c7_3]],.rows false 1 [[.sl c8_0]],rngB Tryz.f192 192 [1,0,0,1,0,1,1,1,1,0] (fx 38 [(3,.ptr 5 0 0)]) none LoopState.ready,.rows true 4 h10]:AH))
abbrev zd4(kt:Int)(lt:Rz):Option (AV):=bif kt==5 then some (.bool (decide ((lt.length:Int)<=64)))else some (.bool false)
abbrev zd3(lt:Rz)(kt:Int):Option (AV):=bif(lt.length:Int)==0 then some (.bool true)else zd4 kt lt
abbrev zd2(st:Bz)(lt:Rz)(kt:Int):Option (AV):=bif st==[]then zd3 lt kt else some (.bool false)
abbrev zd1(nt:Int)(st:Bz)(lt:Rz)(kt:Int):Option (AV):=bif decide (nt<=1073741824)then zd2 st lt kt else some (.bool false)
abbrev zd0(nt:Int)(st:Bz)(lt:Rz)(kt:Int):Option (AV):=bif decide (nt≥0)then zd1 nt st lt kt else some (.bool false)
theorem qmf(kt nt:Int)(st:Bz)(lt:Rz){P:AV->Prop}(h:Gets (bif kt==1 then bif decide (nt≥(- 576460752303423488))then bif decide (nt<=576460752303423487)then bif st==[]then some (.bool ((lt.length:Int)==0))else some (.bool false)else some (.bool false)else some (.bool false)else bif kt==2 then bif nt==0 then bif decide ((st.length:Int)<=64)then some (.bool ((lt.length:Int)==0))else some (.bool false)else some (.bool false)else bif kt==3 then bif decide (nt≥0)then bif decide (nt<=1073741824)then bif st==[]then bif(lt.length:Int)==0 then some (.bool true)else bif kt==5 then some (.bool (decide ((↑ (qBe lt):Int)<=64)))else some (.bool false)else some (.bool false)else some (.bool false)else some (.bool false)else bif kt==4 then zd0 nt st lt kt else bif kt==6 then zd0 nt st lt kt else bif kt==5 then zd0 nt st lt kt else bif kt==7 then bif nt==0 then bif st==[]then some (.bool (decide ((lt.length:Int)<=64)))else some (.bool false)else some (.bool false)else bif kt==8 then bif nt==0 then bif st==[]then some (.bool ((lt.length:Int)==0))else some (.bool false)else some (.bool false)else bif kt==9 then bif nt==0 then bif st==[]then some (.bool ((lt.length:Int)==2))else some (.bool false)else some (.bool false)else some (.bool false)) P):Gets (EVs (EV cfg) 133 [.agg [.int .i64 kt,.int .i64 nt,.str st,.sl lt]]) P:=
  gE (λ_=>funS rfl rfl Tryz.func133 rfl) (by kernel_rfl) h
theorem qoD(kt nt:Int)(st:Bz)(lt:Rz){P:AV->Prop}(h:Gets (bif kt==7 then some (.int .i64 2)else bif kt==5 then some (.int .i64 2)else some (.int .i64 1)) P):Gets (EVs (EV cfg) 134 [.agg [.int .i64 kt,.int .i64 nt,.str st,.sl lt]]) P:=
  gE (λ_=>funS rfl rfl Tryz.func134 rfl) (by kernel_rfl) h
theorem qmg(kt nt:Int)(st:Bz)(lt:Rz){P:AV->Prop}(h:Gets (qdQ kt nt st lt 0 0 kt nt st lt 1 [[.int .i64 kt,.int .i64 nt,.str st,.sl lt]]) P):Gets (EVs (EV cfg) 83 [.agg [.int .i64 kt,.int .i64 nt,.str st,.sl lt]]) P:=
  gE (λ_=>funS rfl rfl Tryz.func83 rfl) (by kernel_rfl) h
theorem qeV(c0_0 c0_1:Int)(c0_2:Bz)(c0_3:Rz)(c1_0 c2_0 c3_0 c3_1:Int)(c3_2:Bz)(c3_3:Rz)(nc5_0:Nat)(h6:Rz){P:AV->Prop}(h:Gets (bif decide ((↑ nc5_0:Int)>0)then bif qh 0 (qBf .i64 ((↑ nc5_0:Int) - 1))&&qn (qBf .i64 ((↑ nc5_0:Int) - 1)) (↑ nc5_0:Int)then kOpt (qBg h6 (0+qBj (qBf .i64 ((↑ nc5_0:Int) - 1)))) λrow=>bif qBv 4 (qBe row)then kTmC (qBm 4 row) λn n_1 s rows=>(bif qh 0 (qBf .i64 ((↑ nc5_0:Int) - 1))&&qh (qBf .i64 ((↑ nc5_0:Int) - 1)) (↑ nc5_0:Int)then kOpt (EVs (EV cfg) 133 [.agg [.int .i64 n,.int .i64 n_1,.str s,.sl rows]]) λv=>qu v λb=>bif ! b then some (.int .i64 2)else kOpt (EVs (EV cfg) 134 [.agg [.int .i64 n,.int .i64 n_1,.str s,.sl rows]]) λv=>kInt .i64 v λn_2=>qoq (qBf .i64 ((↑ (qBe rows):Int) - 1)) c0_0 c0_1 c0_2 c0_3 c1_0 (qBf .i64 (c2_0+n_2)) c3_0 c3_1 c3_2 c3_3 (qBj (qBf .i64 ((↑ nc5_0:Int) - 1)) - 0) h6 n n_1 s rows rows else none)else none else none else bif decide (c2_0>65536)then some (.int .i64 3)else some (.int .i64 0)) P):Gets (qdQ c0_0 c0_1 c0_2 c0_3 c1_0 c2_0 c3_0 c3_1 c3_2 c3_3 nc5_0 h6) P:=
  gE (λ_=>qB (cfg:=cfg) (f:=192) (rd:=none) (bs:=5)) (by kernel_rfl) h
abbrev zd10(row:List AV)(nc5_0:Nat)(h6:Rz)(v3 c0_0 c0_1:Int)(c0_2:Bz)(c0_3:Rz)(c1_0 c2_0 c3_0 c3_1:Int)(c3_2:Bz)(c3_3:Rz)(c7_0 c7_1:Int)(c7_2:Bz)(c7_3 c8_0:Rz):Option (AV):=kTmC (qBm 4 row) λn n_1 s rows=>(bif qBv (0+nc5_0) (qBe h6)&&q8 (nc5_0+1) 56 then bif qh 0 (↑ nc5_0:Int)&&qn (↑ nc5_0:Int) (↑ (nc5_0+1):Int)then kOpt (qBg (qBA (qBm nc5_0 h6) [[.int .i64 0,.int .i64 0,.str [],.nilS]]) (0+qBj (↑ nc5_0:Int))) λrow=>bif qBv 4 (qBe row)then qmc (qBf .i64 (v3 - (1:Int))) c0_0 c0_1 c0_2 c0_3 c1_0 c2_0 c3_0 c3_1 c3_2 c3_3 (nc5_0+1) c7_0 c7_1 c7_2 c7_3 c8_0 (List.set (qBA (qBm nc5_0 h6) [[.int .i64 0,.int .i64 0,.str [],.nilS]]) (0+qBj (↑ nc5_0:Int)) (.int .i64 n:: .int .i64 n_1:: .str s:: .sl rows::qBU 4 row))else none else none else none)
abbrev zd9(row:List AV)(nc5_0:Nat)(h6:Rz)(v3 c0_0 c0_1:Int)(c0_2:Bz)(c0_3:Rz)(c1_0 c2_0 c3_0 c3_1:Int)(c3_2:Bz)(c3_3:Rz)(c7_0 c7_1:Int)(c7_2:Bz)(c7_3 c8_0:Rz):Option (AV):=bif qBv 4 (qBe row)then zd10 row nc5_0 h6 v3 c0_0 c0_1 c0_2 c0_3 c1_0 c2_0 c3_0 c3_1 c3_2 c3_3 c7_0 c7_1 c7_2 c7_3 c8_0 else none
abbrev zd8(row:List AV)(nc5_0:Nat)(h6:Rz)(v3 c0_0 c0_1:Int)(c0_2:Bz)(c0_3:Rz)(c1_0 c2_0 c3_0 c3_1:Int)(c3_2:Bz)(c3_3:Rz)(c7_0 c7_1:Int)(c7_2:Bz)(c7_3 c8_0:Rz):Option (AV):=bif qBh (qBe row) 4 then zd9 row nc5_0 h6 v3 c0_0 c0_1 c0_2 c0_3 c1_0 c2_0 c3_0 c3_1 c3_2 c3_3 c7_0 c7_1 c7_2 c7_3 c8_0 else none
abbrev zd7(c8_0:Rz)(v3:Int)(nc5_0:Nat)(h6:Rz)(c0_0 c0_1:Int)(c0_2:Bz)(c0_3:Rz)(c1_0 c2_0 c3_0 c3_1:Int)(c3_2:Bz)(c3_3:Rz)(c7_0 c7_1:Int)(c7_2:Bz)(c7_3:Rz):Option (AV):=kOpt (qBg c8_0 (v3.toNat)) λrow=>zd8 row nc5_0 h6 v3 c0_0 c0_1 c0_2 c0_3 c1_0 c2_0 c3_0 c3_1 c3_2 c3_3 c7_0 c7_1 c7_2 c7_3 c8_0
abbrev zd6(v3:Int)(c8_0:Rz)(nc5_0:Nat)(h6:Rz)(c0_0 c0_1:Int)(c0_2:Bz)(c0_3:Rz)(c1_0 c2_0 c3_0 c3_1:Int)(c3_2:Bz)(c3_3:Rz)(c7_0 c7_1:Int)(c7_2:Bz)(c7_3:Rz):Option (AV):=bif qh 0 v3&&qn v3 (c8_0.length:Int)then zd7 c8_0 v3 nc5_0 h6 c0_0 c0_1 c0_2 c0_3 c1_0 c2_0 c3_0 c3_1 c3_2 c3_3 c7_0 c7_1 c7_2 c7_3 else none
abbrev zd5(v3:Int)(c8_0:Rz)(nc5_0:Nat)(h6:Rz)(c0_0 c0_1:Int)(c0_2:Bz)(c0_3:Rz)(c1_0 c2_0 c3_0 c3_1:Int)(c3_2:Bz)(c3_3:Rz)(c7_0 c7_1:Int)(c7_2:Bz)(c7_3:Rz):Option (AV):=bif decide (v3≥0)then zd6 v3 c8_0 nc5_0 h6 c0_0 c0_1 c0_2 c0_3 c1_0 c2_0 c3_0 c3_1 c3_2 c3_3 c7_0 c7_1 c7_2 c7_3 else qdQ c0_0 c0_1 c0_2 c0_3 c1_0 c2_0 c3_0 c3_1 c3_2 c3_3 nc5_0 h6
theorem qqi(v3 c0_0 c0_1:Int)(c0_2:Bz)(c0_3:Rz)(c1_0 c2_0 c3_0 c3_1:Int)(c3_2:Bz)(c3_3:Rz)(nc5_0:Nat)(h6:Rz)(c7_0 c7_1:Int)(c7_2:Bz)(c7_3 c8_0:Rz){P:AV->Prop}(h:Gets (zd5 v3 c8_0 nc5_0 h6 c0_0 c0_1 c0_2 c0_3 c1_0 c2_0 c3_0 c3_1 c3_2 c3_3 c7_0 c7_1 c7_2 c7_3) P):Gets (qoq v3 c0_0 c0_1 c0_2 c0_3 c1_0 c2_0 c3_0 c3_1 c3_2 c3_3 nc5_0 h6 c7_0 c7_1 c7_2 c7_3 c8_0) P:=
  gE (λ_=>qB (cfg:=cfg) (f:=203) (rd:=none) (bs:=10)) (by kernel_rfl) h
theorem qgX(v3 c0_0 c0_1:Int)(c0_2:Bz)(c0_3:Rz)(c1_0 c2_0 c3_0 c3_1:Int)(c3_2:Bz)(c3_3:Rz)(nc5_0:Nat)(c7_0 c7_1:Int)(c7_2:Bz)(c7_3 c8_0 h10:Rz){P:AV->Prop}(h:Gets (zd5 v3 c8_0 nc5_0 h10 c0_0 c0_1 c0_2 c0_3 c1_0 c2_0 c3_0 c3_1 c3_2 c3_3 c7_0 c7_1 c7_2 c7_3) P):Gets (qmc v3 c0_0 c0_1 c0_2 c0_3 c1_0 c2_0 c3_0 c3_1 c3_2 c3_3 nc5_0 c7_0 c7_1 c7_2 c7_3 c8_0 h10) P:=
  gE (λ_=>qB (cfg:=cfg) (f:=203) (rd:=none) (bs:=10)) (by kernel_rfl) h
end Go.Proofs.YtafdkafbgohigaaGreat
end
noncomputable section
namespace Go.Av
def qeQ(p:Prop)(v:AV):Prop:=∃b:Bool,v= .bool b∧(b=true↔p)
theorem yA{p:Prop}{b:Bool}:qeQ p (.bool b)↔(b=true↔p):=⟨fun⟨_,h1,h2⟩=>by cases h1;exact h2,λh=>⟨b,rfl,h⟩⟩
end Go.Av
namespace Go.Proofs.YtafdkafbgohigaaGreat
open Go.Av
theorem y3{n:Nat}(h:n<=1099511627776):q8 n 56=true:=by
 unfold q8;rw[qBi,qBN,qBN];omega
theorem qJ(t:Tm):(AV.agg [.int .i64 t.kind,.int .i64 t.num,.str t.str,.sl (qb t.subs)])=t.av:=by rw[Tm.av,Tm.cells_eq]
theorem qwG(t:Tm):EVs (EV cfg) 133 [t.av]=some (.bool t.sound):=by
 obtain⟨k,n,s,l⟩:=t;apply Gets.get;rw[Tm.av_mk];refine qmf _ _ _ _ ?_;unfold zd0 zd1 zd2 zd3 zd4;simp only[Tm.sound,Tm.kind_mk,Tm.num_mk,Tm.str_mk,Tm.subs_mk,qe,beqI,qzw,yH]
 by_cases h1:k=1
 ·subst h1;simp[ze]<;>(try rw[Bool.eq_iff_iff])<;>(try simp)<;>first|omega|grind
 by_cases h2:k=2
 ·subst h2;simp[ze]<;>(try rw[Bool.eq_iff_iff])<;>(try simp)<;>first|omega|grind
 by_cases h3:k=3
 ·subst h3;simp[ze]<;>(try rw[Bool.eq_iff_iff])<;>(try simp)<;>first|omega|grind
 by_cases h4:k=4
 ·subst h4;simp[ze]<;>(try rw[Bool.eq_iff_iff])<;>(try simp)<;>first|omega|grind
 by_cases h6:k=6
 ·subst h6;simp[ze]<;>(try rw[Bool.eq_iff_iff])<;>(try simp)<;>first|omega|grind
 by_cases h5:k=5
 ·subst h5;cases l with
  |nil=>simp[ze]<;>(try rw[Bool.eq_iff_iff])<;>(try simp)<;>first|omega|grind
  |cons x l=>
   have hx:¬((l.length:Int)+1=0):=by omega
   simp[hx,ze]<;>(try rw[Bool.eq_iff_iff])<;>(try simp)<;>first|omega|grind
 by_cases h7:k=7
 ·subst h7;simp[ze]<;>(try rw[Bool.eq_iff_iff])<;>(try simp)<;>first|omega|grind
 by_cases h8:k=8
 ·subst h8;simp[ze]<;>(try rw[Bool.eq_iff_iff])<;>(try simp)<;>first|omega|grind
 by_cases h9:k=9
 ·subst h9;simp[ze]<;>(try rw[Bool.eq_iff_iff])<;>(try simp)<;>first|omega|grind
 simp[h1,h2,h3,h4,h5,h6,h7,h8,h9]
theorem qza(t:Tm):EVs (EV cfg) 134 [t.av]=some (.int .i64 t.own):=by
 obtain⟨k,n,s,l⟩:=t;apply Gets.get;rw[Tm.av_mk];refine qoD _ _ _ _ ?_;simp only[Tm.own,Tm.kind_mk,beqI]
 by_cases h7:k=7
 ·simp[h7]
 ·by_cases h5:k=5
  ·simp[h5]
  ·simp[h7,h5]
theorem qj1(l:List (List AV))(z:List AV):(l++[z])[l.length]? =some z:=by simp
theorem qj0(l:List (List AV))(z c:List AV):(l++[z]).set l.length c=l++[c]:=by simp
theorem quV{t x:Tm}(hx:x.subs.length<1099511627776){wd:Int}{P:AV->Prop}:∀(j:Nat) (R:List Tm),j<=x.subs.length->R.length+j<1099511627776 ->
  Gets (qdQ t.kind t.num t.str (qb t.subs) 0 wd t.kind t.num t.str (qb t.subs) (R.length+j) (qb (R++(x.subs.take j).reverse))) P ->
  Gets (qmc ((j:Int) - 1) t.kind t.num t.str (qb t.subs) 0 wd t.kind t.num t.str (qb t.subs) R.length x.kind x.num x.str (qb x.subs) (qb x.subs) (qb R)) P
 |0,R,_,_,h=>by
  refine qgX _ _ _ _ _ _ _ _ _ _ _ _ _ _ _ _ _ _ ?_;unfold zd5 zd6 zd7 zd8 zd9 zd10
  simpa using h
 |j+1,R,hj,hR,h=>by
  have ih:=quV (t:=t) hx (wd:=wd) (P:=P) j (R++[x.subs[j]]) (by omega) (by simp;omega);have e1:x.subs.take (j+1)=x.subs.take j++[x.subs[j]]:=by rw[List.take_add_one,qBk (by omega)];rfl
  have e4:R++(x.subs.take j++[x.subs[j]]).reverse=R++x.subs[j]::(x.subs.take j).reverse:=by rw[List.reverse_append];rfl
  rw[e1,e4,show R.length+(j+1)=R.length+1+j by omega]at h;refine qgX _ _ _ _ _ _ _ _ _ _ _ _ _ _ _ _ _ _ ?_;unfold zd5 zd6 zd7 zd8 zd9 zd10;have hw:qBf .i64 ((j:Int) - 1)=(j:Int) - 1:=vq (by omega) (by omega);have hjl:j<x.subs.length:=by omega
  have e2:((j+1:Nat):Int) - 1=j:=by omega
  rw[e2];have ht:qBm R.length (qb R)=qb R:=qBt (by simp);have g0:=qj1 (qb R) [.int .i64 0,.int .i64 0,.str [],.nilS];have s0:=qj0 (qb R) [.int .i64 0,.int .i64 0,.str [],.nilS] x.subs[j].cells;rw[qe]at g0 s0;simp[hjl,hw,y3 (show R.length+1<=1099511627776 by omega),ht]at ih⊢;exact ih h
theorem qy9{t x:Tm}(hx:x.subs.length<1099511627776){wd:Int}{P:AV->Prop}{R:List Tm}{Z:List (List AV)}(hR:R.length+x.subs.length<1099511627776)(h0:x.subs=[]->Gets (qdQ t.kind t.num t.str (qb t.subs) 0 wd t.kind t.num t.str (qb t.subs) R.length (qb R++Z)) P)(h:x.subs≠[]->Gets (qdQ t.kind t.num t.str (qb t.subs) 0 wd t.kind t.num t.str (qb t.subs) (R++x.subs.reverse).length (qb (R++x.subs.reverse))) P):
  Gets (qoq ((x.subs.length:Int) - 1) t.kind t.num t.str (qb t.subs) 0 wd t.kind t.num t.str (qb t.subs) R.length (qb R++Z) x.kind x.num x.str (qb x.subs) (qb x.subs)) P:=by
 refine qqi _ _ _ _ _ _ _ _ _ _ _ _ _ _ _ _ _ _ ?_;unfold zd5 zd6 zd7 zd8 zd9 zd10;rcases Nat.eq_zero_or_pos x.subs.length with hz|hp
 ·have hz':x.subs=[]:=List.length_eq_zero_iff.1 hz;have:=h0 hz'
  simpa [hz']using this
 ·obtain⟨j,hj⟩:∃j,x.subs.length=j+1:=⟨x.subs.length - 1,by omega⟩;have hne:x.subs≠[]:=by intro e;rw[e]at hp;simp at hp
  have hjl:j<x.subs.length:=by omega
  have e2:(x.subs.length:Int) - 1=j:=by omega
  have hw:qBf .i64 ((j:Int) - 1)=(j:Int) - 1:=vq (by omega) (by omega);have ht:qBm R.length (qb R++Z)=qb R:=by rw[List.take_append_of_le_length (by simp),qBt (by simp)]
  have e5:x.subs=x.subs.take j++[x.subs[j]]:=by
   have:x.subs.take (j+1)=x.subs:=qBt (by omega);rw[List.take_add_one,qBk hjl]at this;exact this.symm
  have e6:R++x.subs.reverse=R++[x.subs[j]]++(x.subs.take j).reverse:=by
   conv=>lhs;rw[e5]
   rw[List.reverse_append,List.append_assoc];rfl
  have:=quV (t:=t) hx (wd:=wd) (P:=P) j (R++[x.subs[j]]) (by omega) (by simp;omega) (by
   have h:=h hne;rw[e6]at h;have e7:(R++[x.subs[j]]++(x.subs.take j).reverse).length=(R++[x.subs[j]]).length+j:=by
    rw[qBr,List.length_reverse,qBW];omega
   rw[e7]at h;exact h)
  rw[e2];simp at this;simp[hjl,hw,y3 (show R.length+1<=1099511627776 by omega),ht];exact this
theorem qyC{t:Tm}:∀(n:Nat) (R:List Tm) (Z:List (List AV)) (wd:Nat),wL R<=n->n<1099511627776->wd+2*wL R<9007199254740992 ->
  Gets (qdQ t.kind t.num t.str (qb t.subs) 0 (wd:Int) t.kind t.num t.str (qb t.subs) R.length (qb R++Z)) (·= .int .i64 (chkS R wd)):=by
 intro n
 induction n with
 |zero=>
  intro R Z wd hn _ _;have:R=[]:=by
   have:=qat R;exact List.length_eq_zero_iff.1 (by omega)
  subst this;refine qeV _ _ _ _ _ _ _ _ _ _ _ _ ?_
  by_cases h:65536<wd
  ·have h':(65536:Int)<wd:=by omega
   simp[h,h',chkS,xh,vG]
  ·have h':¬(65536:Int)<wd:=by omega
   simp[h,h',chkS,xh,vG]
 |succ n ih=>
  intro R Z wd hn hN hw;rcases List.eq_nil_or_concat R with rfl|⟨R0,x,rfl⟩
  ·refine qeV _ _ _ _ _ _ _ _ _ _ _ _ ?_
   by_cases h:65536<wd
   ·have h':(65536:Int)<wd:=by omega
    simp[h,h',chkS,xh,vG]
   ·have h':¬(65536:Int)<wd:=by omega
    simp[h,h',chkS,xh,vG]
  ·rw[List.concat_eq_append]at *;have hwx:=x.w_eq;have ho:=x.own_le;simp only[y9,qE,xy]at hn hw;have hl0:=qat R0;have hls:=qat x.subs;have hsd:=qwG x;have how:=qza x;refine qeV _ _ _ _ _ _ _ _ _ _ _ _ ?_;have e1:(R0++[x]).length=R0.length+1:=by simp
   have hw1:qBf .i64 (R0.length:Int)=R0.length:=qxV (by omega);have hw2:qBf .i64 ((wd:Int)+x.own)=((wd+x.own:Nat):Int):=by rw[vq (by omega) (by omega)];omega
   have hw3:qBf .i64 ((x.subs.length:Int) - 1)=(x.subs.length:Int) - 1:=vq (by omega) (by omega);have g:(qb (R0++[x])++Z)[R0.length]? =some x.cells:=by
    rw[qBx (by simp),zx];simp
   cases hs:x.sound with
   |false=>
    rw[hs]at hsd;simp[e1,hw1,g,hsd,qxC hs]
   |true=>
    rw[hs]at hsd;have e3:qb (R0++[x])++Z=qb R0++(x.cells::Z):=by rw[vH,List.append_assoc,qR,vo];rfl
    have:=qy9 (t:=t) (x:=x) (R:=R0) (Z:=x.cells::Z) (wd:=((wd+x.own:Nat):Int)) (P:=(·= .int .i64 (chkS (R0++[x]) wd))) (by omega) (by omega)
     (λhz=>by
      have:=ih R0 (x.cells::Z) (wd+x.own) (by omega) (by omega) (by omega);rw[←qnv hs,hz,List.reverse_nil,List.append_nil];exact this)
     (λhz=>by
      have:=ih (R0++x.subs.reverse) [] (wd+x.own) (by rw[y9,qul];omega) (by omega) (by rw[y9,qul];omega);rw[←qnv hs];rw[List.append_nil]at this;exact this)
    simp only[e1,e3]at g⊢;simp only[Int.natCast_add]at hw2 this;simp[hw1,g,hsd,how,hw2,hw3];exact this
theorem qao{t:Tm}(h:t.w<1099511627776):EVs (EV cfg) 83 [t.av]=some (.int .i64 t.chk):=by
 have:=qyC (t:=t) _ [t] [] 0 (qBp _) (by simpa using h) (by simp;omega);apply Gets.get;rw[Tm.av,Tm.cells_eq];refine qmg _ _ _ _ ?_;rw[←Tm.cells_eq,quO,Tm.chk]
 simpa using this
theorem qe3{s h0:List UInt8}{b:UInt8}{v:Int}{i:Nat}{P:AV->Prop}(hv:0<=v∧v<=9)(hlen:(qBm (s.length - 1) (s.drop 1)).length=h0.length)(hl:h0.length<=2)(hb:h0[i]? =some b)(h:Gets (match qac b with|none=>some (AV.tup [.int .i64 0,.bool false])|some x=>qdR s (v*10+x) ((i+1:Nat):Int) (h0.map λb=>[.int .u8 (b.toNat:Int)])) P):Gets (qdR s v i (h0.map λb=>[.int .u8 (b.toNat:Int)])) P:=by
 have hi:i<h0.length:=(qBn.1 hb).1;refine qiL _ _ _ _ ?_;have hbl:=b.toNat_lt;rw[hlen,qB3 (show(i:Int)<(h0.length:Int) by omega),qZ,vO,qB3 hi];simp only[cond_true,qBw,qI,qB0,qBB,List.getElem?_map,hb,qBD,qc,qBP,qi];unfold qac at h
 by_cases h1:b.toNat<48
 ·rw[qB5 h1]at h;rw[qB3 (show(b.toNat:Int)<48 by omega)];exact h
 ·rw[qB6 h1]at h;rw[qB4 (show ¬(b.toNat:Int)<48 by omega),cond_false]
  by_cases h2:b.toNat>57
  ·rw[qB5 h2]at h;rw[qB3 (show(b.toNat:Int)>57 by omega)];exact h
  ·rw[qB6 h2]at h;rw[qB4 (show ¬(b.toNat:Int)>57 by omega),cond_false];have w1:qBf .i64 (v*10)=v*10:=vq (by omega) (by omega);have w2:qBf .u8 ((b.toNat:Int) - 48)=(b.toNat:Int) - 48:=by
    simp[qBf,IntKind.bits,IntKind.signed];omega
   have w3:qBf .i64 ((b.toNat:Int) - 48)=(b.toNat:Int) - 48:=vq (by omega) (by omega);have w4:qBf .i64 (v*10+((b.toNat:Int) - 48))=v*10+((b.toNat:Int) - 48):=vq (by omega) (by omega);have w5:qBf .i64 ((i:Int)+1)=((i+1:Nat):Int):=vn (n:=2) (by omega) (by omega);rw[w1,w2,w3,w4,w5];exact h
theorem qk0{s h0:List UInt8}{v:Int}{i:Nat}(hlen:(qBm (s.length - 1) (s.drop 1)).length=h0.length)(hi:i=h0.length):Gets (qdR s v i (h0.map λb=>[.int .u8 (b.toNat:Int)])) (·= .tup [.int .i64 v,.bool true]):=by
 refine qiL _ _ _ _ ?_;rw[hlen,qB4 (by omega)];exact⟨_,rfl,rfl⟩
def varR(o:Option Int):AV:=.tup [.int .i64 (o.getD 0),.bool o.isSome]
theorem qb7(s:List UInt8):EVs (EV cfg) 176 [.str s]=some (varR (varG s)):=by
 apply Gets.get;refine qnH _ ?_;unfold zc0 zc1
 match s with
 |[]=>exact⟨_,rfl,rfl⟩
 |[a]=>exact⟨_,rfl,rfl⟩
 |a::b::c::d::l=>
  have h1:¬((a::b::c::d::l).length:Int)<2:=by simp;omega
  have h2:((a::b::c::d::l).length:Int)>3:=by simp;omega
  rw[qB4 h1,qB3 h2];exact⟨_,rfl,rfl⟩
 |[a,b]=>
  by_cases h:a.toNat=36
  ·have e:(((a.toNat:Int)) != 36)=false:=by rw[h];rfl
   have hs:=qe3 (s:=[a,b]) (h0:=[b]) (b:=b) (v:=0) (i:=0) (P:=(·=varR (varG [a,b]))) (by omega) rfl (by simp) rfl (by
    rw[qxW,qB5 h];cases hd:qac b with
    |none=>exact⟨_,rfl,rfl⟩
    |some x=>
     refine(qk0 (s:=[a,b]) (h0:=[b]) rfl rfl).mono ?_;rintro _ rfl;show _=varR (some x);simp[varR])
   show Gets (bif(((a.toNat:Int)) != 36)then _ else _) _;rw[e];exact hs
  ·have e:(((a.toNat:Int)) != 36)=true:=by simpa using λh'=>h (by omega)
   show Gets (bif(((a.toNat:Int)) != 36)then _ else _) _;rw[e];refine⟨_,rfl,?_⟩;rw[qxW,qB6 h];rfl
 |[a,b,c]=>
  by_cases h:a.toNat=36
  ·have e:(((a.toNat:Int)) != 36)=false:=by rw[h];rfl
   show Gets (bif(((a.toNat:Int)) != 36)then _ else bif(((b.toNat:Int))==48)then _ else _) _;rw[e]
   by_cases hb:b.toNat=48
   ·have e2:(((b.toNat:Int))==48)=true:=by rw[hb];rfl
    rw[e2];refine⟨_,rfl,?_⟩;rw[qsf,qB6 (λh=>h.2 hb)];rfl
   ·have e2:(((b.toNat:Int))==48)=false:=by simpa using λh'=>hb (by omega)
    rw[e2];show Gets (qdR [a,b,c] 0 0 ([b,c].map λb=>[.int .u8 (b.toNat:Int)])) _;refine qe3 (s:=[a,b,c]) (h0:=[b,c]) (b:=b) (v:=0) (i:=0) (by omega) rfl (by simp) rfl ?_;rw[qsf,qB5 ⟨h,hb⟩];cases hd:qac b with
    |none=>exact⟨_,rfl,rfl⟩
    |some x=>
     have hx:=qeN hd;refine qe3 (s:=[a,b,c]) (h0:=[b,c]) (b:=c) (i:=1) (by omega) rfl (by simp) rfl ?_;cases hd2:qac c with
     |none=>exact⟨_,rfl,by simp[varR,hd2]⟩
     |some y=>
      refine(qk0 (s:=[a,b,c]) (h0:=[b,c]) rfl rfl).mono ?_;rintro _ rfl;simp[varR,hd2]
  ·have e:(((a.toNat:Int)) != 36)=true:=by simpa using λh'=>h (by omega)
   show Gets (bif(((a.toNat:Int)) != 36)then _ else _) _;rw[e];refine⟨_,rfl,?_⟩;rw[qsf,qB6 (λh'=>h h'.1)];rfl
theorem qbQ{t:Tm}(h:t.w<1099511627776):EVs (EV cfg) 175 [t.av]=some (.bool (decide (t.chk=0))):=by
 have hc:=qao h;apply Gets.get;rw[Tm.av,Tm.cells_eq]at hc⊢;refine qsN _ _ _ _ ?_;rw[hc];simp[beqI]
theorem qc2{t:Tm}(h:t.w<1099511627776):EVs (EV cfg) 113 [t.av]=some (varR (varT t)):=by
 have hc:=qbQ h;apply Gets.get;rw[Tm.av,Tm.cells_eq]at hc⊢;refine qsM _ _ _ _ ?_;rw[hc,qb7];unfold varT
 by_cases h1:t.kind=2
 ·by_cases h2:t.chk=0
  ·simp[h1,h2,varR,kTup,qa,kNil]
  ·simp[h1,h2,varR]
 ·have h1':(t.kind != 2)=true:=by simpa using h1
  rw[h1'];simp[h1,varR]
def qAj:Den:=evC cfg (EV cfg) 211 none 0 (sub (qg Tryz.f211) [1,0,1,0,0])
def qAS:Ex×List AV×AH->Option AV:=kAft (Cfg.keepOut cfg 211 2) (kRun cfg (EV cfg) (kfN cfg 6) 211 none 0 (qaM cfg (Cfg.lift cfg 211 0) Tryz.f211.results.toList) ([.block 0,.seq (sub (qg Tryz.f211) [1,1])]))
def qzR:List AV×AH->Option AV:=λp=>kOpt (LOOP 0 (some [0,1,7,8]) ([]) qAj p) qAS
def qAk:Den:=evC cfg (EV cfg) 155 none 0 (sub (qg Tryz.f155) [1,1,0,1,0,0])
def qAT:Ex×List AV×AH->Option AV:=kAft (Cfg.keepOut cfg 155 4) (kRun cfg (EV cfg) (kfN cfg 6) 155 none 0 (xz cfg (Cfg.lift cfg 155 0) Tryz.f155.results.toList) ([.block 0,.seq (sub (qg Tryz.f155) [1,1,1])]))
def qzS:List AV×AH->Option AV:=λp=>kOpt (LOOP 0 (some [0,1,2,6,24,25,26]) ([]) qAk p) qAT
abbrev qkv(A:Rz)(n v8:Int):Option (AV):=qzR (((fx 19 [(0,.sl A),(1,.int .i64 n),(7,.int .i64 (A.length:Int)),(8,.int .i64 v8)]):List AV),([]:AH))
abbrev qkw(op:Bz)(L:Rz)(pid v26 c0_0 c0_1:Int)(c0_2:Bz)(c0_3:Rz):Option (AV):=qzS (((fx 50 [(0,.str op),(1,.sl L),(2,.int .i64 pid),(6,.ptr 0 0 0),(24,.sl L),(25,.int .i64 (L.length:Int)),(26,.int .i64 v26)]):List AV),([.rows false 4 [[.int .i64 c0_0,.int .i64 c0_1,.str c0_2,.sl c0_3]]]:AH))
theorem qnM(op:Bz){P:AV->Prop}(h:Gets (bif op==[(115:UInt8),(101:UInt8),(108:UInt8),(102:UInt8)]then some (.sl [[.int .i64 0]])else bif op==[(105:UInt8),(115:UInt8),(95:UInt8),(97:UInt8),(116:UInt8),(111:UInt8),(109:UInt8)]then some (.sl [[.int .i64 1]])else bif op==[(105:UInt8),(115:UInt8),(95:UInt8),(105:UInt8),(110:UInt8),(116:UInt8),(101:UInt8),(103:UInt8),(101:UInt8),(114:UInt8)]then some (.sl [[.int .i64 1]])else bif op==[(105:UInt8),(115:UInt8),(95:UInt8),(108:UInt8),(105:UInt8),(115:UInt8),(116:UInt8)]then some (.sl [[.int .i64 1]])else bif op==[(105:UInt8),(115:UInt8),(95:UInt8),(116:UInt8),(117:UInt8),(112:UInt8),(108:UInt8),(101:UInt8)]then some (.sl [[.int .i64 1]])else bif op==[(105:UInt8),(115:UInt8),(95:UInt8),(112:UInt8),(105:UInt8),(100:UInt8)]then some (.sl [[.int .i64 1]])else bif op==[(105:UInt8),(115:UInt8),(95:UInt8),(102:UInt8),(117:UInt8),(110:UInt8),(99:UInt8),(116:UInt8),(105:UInt8),(111:UInt8),(110:UInt8)]then some (.sl [[.int .i64 1]])else bif op==[(105:UInt8),(115:UInt8),(95:UInt8),(114:UInt8),(101:UInt8),(102:UInt8),(101:UInt8),(114:UInt8),(101:UInt8),(110:UInt8),(99:UInt8),(101:UInt8)]then some (.sl [[.int .i64 1]])else bif op==[(110:UInt8),(111:UInt8),(116:UInt8)]then some (.sl [[.int .i64 1]])else bif op==[(98:UInt8),(110:UInt8),(111:UInt8),(116:UInt8)]then some (.sl [[.int .i64 1]])else bif op==[(97:UInt8),(98:UInt8),(115:UInt8)]then some (.sl [[.int .i64 1]])else bif op==[(116:UInt8),(117:UInt8),(112:UInt8),(108:UInt8),(101:UInt8),(95:UInt8),(115:UInt8),(105:UInt8),(122:UInt8),(101:UInt8)]then some (.sl [[.int .i64 1]])else bif op==[(115:UInt8),(105:UInt8),(122:UInt8),(101:UInt8)]then some (.sl [[.int .i64 1]])else bif op==[(104:UInt8),(100:UInt8)]then some (.sl [[.int .i64 1]])else bif op==[(116:UInt8),(108:UInt8)]then some (.sl [[.int .i64 1]])else bif op==[(108:UInt8),(101:UInt8),(110:UInt8),(103:UInt8),(116:UInt8),(104:UInt8)]then some (.sl [[.int .i64 1]])else bif op==[(43:UInt8)]then some (.sl [[.int .i64 1],[.int .i64 2]])else bif op==[(45:UInt8)]then some (.sl [[.int .i64 1],[.int .i64 2]])else bif op==[(61:UInt8),(61:UInt8)]then some (.sl [[.int .i64 2]])else bif op==[(61:UInt8),(58:UInt8),(61:UInt8)]then some (.sl [[.int .i64 2]])else bif op==[(47:UInt8),(61:UInt8)]then some (.sl [[.int .i64 2]])else bif op==[(61:UInt8),(47:UInt8),(61:UInt8)]then some (.sl [[.int .i64 2]])else bif op==[(60:UInt8)]then some (.sl [[.int .i64 2]])else bif op==[(61:UInt8),(60:UInt8)]then some (.sl [[.int .i64 2]])else bif op==[(62:UInt8)]then some (.sl [[.int .i64 2]])else bif op==[(62:UInt8),(61:UInt8)]then some (.sl [[.int .i64 2]])else bif op==[(97:UInt8),(110:UInt8),(100:UInt8)]then some (.sl [[.int .i64 2]])else bif op==[(111:UInt8),(114:UInt8)]then some (.sl [[.int .i64 2]])else bif op==[(120:UInt8),(111:UInt8),(114:UInt8)]then some (.sl [[.int .i64 2]])else bif op==[(97:UInt8),(110:UInt8),(100:UInt8),(97:UInt8),(108:UInt8),(115:UInt8),(111:UInt8)]then some (.sl [[.int .i64 2]])else bif op==[(111:UInt8),(114:UInt8),(101:UInt8),(108:UInt8),(115:UInt8),(101:UInt8)]then some (.sl [[.int .i64 2]])else bif op==[(42:UInt8)]then some (.sl [[.int .i64 2]])else bif op==[(100:UInt8),(105:UInt8),(118:UInt8)]then some (.sl [[.int .i64 2]])else bif op==[(114:UInt8),(101:UInt8),(109:UInt8)]then some (.sl [[.int .i64 2]])else bif op==[(98:UInt8),(97:UInt8),(110:UInt8),(100:UInt8)]then some (.sl [[.int .i64 2]])else bif op==[(98:UInt8),(111:UInt8),(114:UInt8)]then some (.sl [[.int .i64 2]])else bif op==[(98:UInt8),(120:UInt8),(111:UInt8),(114:UInt8)]then some (.sl [[.int .i64 2]])else bif op==[(101:UInt8),(108:UInt8),(101:UInt8),(109:UInt8),(101:UInt8),(110:UInt8),(116:UInt8)]then some (.sl [[.int .i64 2]])else some (.sl [])) P):Gets (EVf (EV cfg) 174 [.str op]) P:=
  gE (λ_=>funF rfl rfl Tryz.func174 rfl) (by kernel_rfl) h
theorem qmx(n:Int){P:AV->Prop}(h:Gets (bif decide (n≥1)then some (.bool (decide (n<=1073741824)))else some (.bool false)) P):Gets (EVs (EV cfg) 204 [.int .i64 n]) P:=
  gE (λ_=>funS rfl rfl Tryz.func204 rfl) (by kernel_rfl) h
abbrev ze0(v:AV):Option (AV):=kTmV v λn n_1 s rows=>(some (.agg [.int .i64 n,.int .i64 n_1,.str s,.sl rows]))
theorem qlC(b:Bool){P:AV->Prop}(h:Gets (bif b then kOpt (EVf (EV cfg) 265 [.str [(116:UInt8),(114:UInt8),(117:UInt8),(101:UInt8)]]) λv=>ze0 v else kOpt (EVf (EV cfg) 265 [.str [(102:UInt8),(97:UInt8),(108:UInt8),(115:UInt8),(101:UInt8)]]) λv=>ze0 v) P):Gets (EVf (EV cfg) 247 [.bool b]) P:=
  gE (λ_=>funF rfl rfl Tryz.func247 rfl) (by kernel_rfl) h
theorem qmy(s:Bz){P:AV->Prop}(h:Gets (some (.agg [.int .i64 2,.int .i64 0,.str s,.sl []])) P):Gets (EVf (EV cfg) 265 [.str s]) P:=
  gE (λ_=>funF rfl rfl Tryz.func265 rfl) (by kernel_rfl) h
theorem qnN(A:Rz)(n:Int){P:AV->Prop}(h:Gets (kOpt (EVs (EV cfg) 211 [.sl A,.int .i64 n]) λv=>kInt .i64 v λn=>some (.bool (decide (n≥0)))) P):Gets (EVs (EV cfg) 172 [.sl A,.int .i64 n]) P:=
  gE (λ_=>funS rfl rfl Tryz.func172 rfl) (by kernel_rfl) h
theorem qto(A:Rz)(n:Int){P:AV->Prop}(h:Gets (qkv A n 0) P):Gets (EVs (EV cfg) 211 [.sl A,.int .i64 n]) P:=
  gE (λ_=>funS rfl rfl Tryz.func211 rfl) (by kernel_rfl) h
theorem qsZ(ke ne:Int)(se:Bz)(le bd:Rz)(self:Int)(bad:Bool){P:AV×List (List AV)->Prop}(h:Gets (some (.agg [.int .i64 0,.int .i64 0,.str [],.sl []],[[.int .i64 ke,.int .i64 ne,.str se,.sl le,.sl bd,.int .i64 self,.bool true]])) P):Gets (EVd (EV cfg) 250 [.ptr 0 0 0] 7 [[AV.int .i64 ke,AV.int .i64 ne,AV.str se,AV.sl le,AV.sl bd,AV.int .i64 self,AV.bool bad]]) P:=
  gE (λ_=>funD rfl rfl Tryz.func250 rfl) (by kernel_rfl) h
abbrev ze3(n n_1:Int)(s:Bz)(rows:Rz)(q:AV×List (List AV)):Option (AV×List (List AV)):=(some (.agg [.int .i64 n,.int .i64 n_1,.str s,.sl rows],q.2))
abbrev ze2(q:AV×List (List AV)):Option (AV×List (List AV)):=kTmV q.1 λn n_1 s rows=>ze3 n n_1 s rows q
abbrev ze1(ke ne:Int)(se:Bz)(le bd:Rz)(self:Int)(bad:Bool):Option (AV×List (List AV)):=kOpt (EVd (EV cfg) 250 [.ptr 0 0 0] 7 [[.int .i64 ke,.int .i64 ne,.str se,.sl le,.sl bd,.int .i64 self,.bool bad]]) λq=>ze2 q
theorem qqX(ke ne:Int)(se:Bz)(le bd:Rz)(self:Int)(bad:Bool)(n:Int){P:AV×List (List AV)->Prop}(h:Gets (bif decide (n<(- 576460752303423488))then ze1 ke ne se le bd self bad else bif decide (n>(576460752303423487:Int))then ze1 ke ne se le bd self bad else some (.agg [.int .i64 1,.int .i64 n,.str [],.sl []],[[.int .i64 ke,.int .i64 ne,.str se,.sl le,.sl bd,.int .i64 self,.bool bad]])) P):Gets (EVd (EV cfg) 248 [.ptr 0 0 0,.int .i64 n] 7 [[AV.int .i64 ke,AV.int .i64 ne,AV.str se,AV.sl le,AV.sl bd,AV.int .i64 self,AV.bool bad]]) P:=
  gE (λ_=>funD rfl rfl Tryz.func248 rfl) (by kernel_rfl) h
abbrev ze12(n_1 ke ne:Int)(se:Bz)(le bd:Rz)(self:Int)(bad:Bool):Option (AV×List (List AV)):=kOpt (EVd (EV cfg) 248 [.ptr 0 0 0,.int .i64 (qBf .i64 (1*qBf .i64 n_1))] 7 [[.int .i64 ke,.int .i64 ne,.str se,.sl le,.sl bd,.int .i64 self,.bool bad]]) λq=>ze2 q
abbrev ze11(n_1 ke ne:Int)(se:Bz)(le bd:Rz)(self:Int)(bad:Bool):Option (AV×List (List AV)):=bif decide (n_1>576460752303423488)then ze1 ke ne se le bd self bad else ze12 n_1 ke ne se le bd self bad
abbrev ze10(n ke ne:Int)(se:Bz)(le bd:Rz)(self:Int)(bad:Bool)(n_1:Int):Option (AV×List (List AV)):=bif decide (n>0)then ze1 ke ne se le bd self bad else ze11 n_1 ke ne se le bd self bad
abbrev ze9(cs:List AV)(n ke ne:Int)(se:Bz)(le bd:Rz)(self:Int)(bad:Bool)(n_1:Int):Option (AV×List (List AV)):=kNil cs (ze10 n ke ne se le bd self bad n_1)
abbrev ze8(c:AV)(cs:List AV)(n ke ne:Int)(se:Bz)(le bd:Rz)(self:Int)(bad:Bool):Option (AV×List (List AV)):=kInt .u64 c λn_1=>ze9 cs n ke ne se le bd self bad n_1
abbrev ze7(cs:List AV)(n ke ne:Int)(se:Bz)(le bd:Rz)(self:Int)(bad:Bool):Option (AV×List (List AV)):=qa cs λc cs=>ze8 c cs n ke ne se le bd self bad
abbrev ze6(c:AV)(cs:List AV)(ke ne:Int)(se:Bz)(le bd:Rz)(self:Int)(bad:Bool):Option (AV×List (List AV)):=kInt .u64 c λn=>ze7 cs n ke ne se le bd self bad
abbrev ze5(cs:List AV)(ke ne:Int)(se:Bz)(le bd:Rz)(self:Int)(bad:Bool):Option (AV×List (List AV)):=qa cs λc cs=>ze6 c cs ke ne se le bd self bad
abbrev ze4(v:AV)(ke ne:Int)(se:Bz)(le bd:Rz)(self:Int)(bad:Bool):Option (AV×List (List AV)):=kTup v λcs=>ze5 cs ke ne se le bd self bad
abbrev ze21(n_1 ke ne:Int)(se:Bz)(le bd:Rz)(self:Int)(bad:Bool):Option (AV×List (List AV)):=kOpt (EVd (EV cfg) 248 [.ptr 0 0 0,.int .i64 (qBf .i64 ((- 1)*qBf .i64 n_1))] 7 [[.int .i64 ke,.int .i64 ne,.str se,.sl le,.sl bd,.int .i64 self,.bool bad]]) λq=>ze2 q
abbrev ze20(n_1 ke ne:Int)(se:Bz)(le bd:Rz)(self:Int)(bad:Bool):Option (AV×List (List AV)):=bif decide (n_1>576460752303423488)then ze1 ke ne se le bd self bad else ze21 n_1 ke ne se le bd self bad
abbrev ze19(n ke ne:Int)(se:Bz)(le bd:Rz)(self:Int)(bad:Bool)(n_1:Int):Option (AV×List (List AV)):=bif decide (n>0)then ze1 ke ne se le bd self bad else ze20 n_1 ke ne se le bd self bad
abbrev ze18(cs:List AV)(n ke ne:Int)(se:Bz)(le bd:Rz)(self:Int)(bad:Bool)(n_1:Int):Option (AV×List (List AV)):=kNil cs (ze19 n ke ne se le bd self bad n_1)
abbrev ze17(c:AV)(cs:List AV)(n ke ne:Int)(se:Bz)(le bd:Rz)(self:Int)(bad:Bool):Option (AV×List (List AV)):=kInt .u64 c λn_1=>ze18 cs n ke ne se le bd self bad n_1
abbrev ze16(cs:List AV)(n ke ne:Int)(se:Bz)(le bd:Rz)(self:Int)(bad:Bool):Option (AV×List (List AV)):=qa cs λc cs=>ze17 c cs n ke ne se le bd self bad
abbrev ze15(c:AV)(cs:List AV)(ke ne:Int)(se:Bz)(le bd:Rz)(self:Int)(bad:Bool):Option (AV×List (List AV)):=kInt .u64 c λn=>ze16 cs n ke ne se le bd self bad
abbrev ze14(cs:List AV)(ke ne:Int)(se:Bz)(le bd:Rz)(self:Int)(bad:Bool):Option (AV×List (List AV)):=qa cs λc cs=>ze15 c cs ke ne se le bd self bad
abbrev ze13(v:AV)(ke ne:Int)(se:Bz)(le bd:Rz)(self:Int)(bad:Bool):Option (AV×List (List AV)):=kTup v λcs=>ze14 cs ke ne se le bd self bad
theorem qo9(ke ne:Int)(se:Bz)(le bd:Rz)(self:Int)(bad:Bool)(a b:Int){P:AV×List (List AV)->Prop}(h:Gets (bif decide (a<0)then bif decide (b<0)then kOpt (EVs (EV cfg) 280 [.int .u64 (qBf .u64 (qBf .i64 (0 - a))),.int .u64 (qBf .u64 (qBf .i64 (0 - b)))]) λv=>ze4 v ke ne se le bd self bad else kOpt (EVs (EV cfg) 280 [.int .u64 (qBf .u64 (qBf .i64 (0 - a))),.int .u64 (qBf .u64 b)]) λv=>ze13 v ke ne se le bd self bad else bif decide (b<0)then kOpt (EVs (EV cfg) 280 [.int .u64 (qBf .u64 a),.int .u64 (qBf .u64 (qBf .i64 (0 - b)))]) λv=>ze13 v ke ne se le bd self bad else kOpt (EVs (EV cfg) 280 [.int .u64 (qBf .u64 a),.int .u64 (qBf .u64 b)]) λv=>ze4 v ke ne se le bd self bad) P):Gets (EVd (EV cfg) 271 [.ptr 0 0 0,.int .i64 a,.int .i64 b] 7 [[AV.int .i64 ke,AV.int .i64 ne,AV.str se,AV.sl le,AV.sl bd,AV.int .i64 self,AV.bool bad]]) P:=
  gE (λ_=>funD rfl rfl Tryz.func271 rfl) (by kernel_rfl) h
abbrev ze23(n ke ne:Int)(se:Bz)(le bd:Rz)(self:Int)(bad:Bool):Option (AV×List (List AV)):=kOpt (EVd (EV cfg) 248 [.ptr 0 0 0,.int .i64 n] 7 [[.int .i64 ke,.int .i64 ne,.str se,.sl le,.sl bd,.int .i64 self,.bool bad]]) λq=>ze2 q
abbrev ze22(v:AV)(ke ne:Int)(se:Bz)(le bd:Rz)(self:Int)(bad:Bool):Option (AV×List (List AV)):=kInt .i64 v λn=>ze23 n ke ne se le bd self bad
theorem qhy(ke ne:Int)(se:Bz)(le bd:Rz)(self:Int)(bad:Bool)(op:Bz)(a b:Int){P:AV×List (List AV)->Prop}(h:Gets (bif bad then some (.agg [.int .i64 0,.int .i64 0,.str [],.sl []],[[.int .i64 ke,.int .i64 ne,.str se,.sl le,.sl bd,.int .i64 self,.bool bad]])else bif op==[(43:UInt8)]then kOpt (EVd (EV cfg) 248 [.ptr 0 0 0,.int .i64 (qBf .i64 (a+b))] 7 [[.int .i64 ke,.int .i64 ne,.str se,.sl le,.sl bd,.int .i64 self,.bool bad]]) λq=>ze2 q else bif op==[(45:UInt8)]then kOpt (EVd (EV cfg) 248 [.ptr 0 0 0,.int .i64 (qBf .i64 (a - b))] 7 [[.int .i64 ke,.int .i64 ne,.str se,.sl le,.sl bd,.int .i64 self,.bool bad]]) λq=>ze2 q else bif op==[(42:UInt8)]then kOpt (EVd (EV cfg) 271 [.ptr 0 0 0,.int .i64 a,.int .i64 b] 7 [[.int .i64 ke,.int .i64 ne,.str se,.sl le,.sl bd,.int .i64 self,.bool bad]]) λq=>ze2 q else bif op==[(98:UInt8),(97:UInt8),(110:UInt8),(100:UInt8)]then kOpt (qU (Op.intBits BinOp.and .i64 a b)) λv=>ze22 v ke ne se le bd self bad else bif op==[(98:UInt8),(111:UInt8),(114:UInt8)]then kOpt (qU (Op.intBits BinOp.or .i64 a b)) λv=>ze22 v ke ne se le bd self bad else bif op==[(98:UInt8),(120:UInt8),(111:UInt8),(114:UInt8)]then kOpt (qU (Op.intBits BinOp.xor .i64 a b)) λv=>ze22 v ke ne se le bd self bad else bif b==0 then ze1 ke ne se le bd self bad else bif op==[(100:UInt8),(105:UInt8),(118:UInt8)]then kOpt (qU (Op.intDiv BinOp.quo .i64 a b)) λv=>ze22 v ke ne se le bd self bad else kOpt (qU (Op.intDiv BinOp.rem .i64 a b)) λv=>ze22 v ke ne se le bd self bad) P):Gets (EVd (EV cfg) 253 [.ptr 0 0 0,.str op,.int .i64 a,.int .i64 b] 7 [[AV.int .i64 ke,AV.int .i64 ne,AV.str se,AV.sl le,AV.sl bd,AV.int .i64 self,AV.bool bad]]) P:=
  gE (λ_=>funD rfl rfl Tryz.func253 rfl) (by kernel_rfl) h
theorem qxc(ke ne:Int)(se:Bz)(le bd:Rz)(self:Int)(bad:Bool)(kt nt:Int)(st:Bz)(lt:Rz){P:MV×List (List AV)->Prop}(h:Gets (bif kt != 1 then kOpt (EVd (EV cfg) 250 [.ptr 0 0 0] 7 [[.int .i64 ke,.int .i64 ne,.str se,.sl le,.sl bd,.int .i64 self,.bool bad]]) λq=>kTmV q.1 λn n s rows=>(some (MV.int .i64 nt,q.2))else some (MV.int .i64 nt,[[.int .i64 ke,.int .i64 ne,.str se,.sl le,.sl bd,.int .i64 self,.bool bad]])) P):Gets (EVm (EV cfg) 249 [.ptr 0 0 0,.agg [.int .i64 kt,.int .i64 nt,.str st,.sl lt]] 7 [[AV.int .i64 ke,AV.int .i64 ne,AV.str se,AV.sl le,AV.sl bd,AV.int .i64 self,AV.bool bad]]) P:=
  gE (λ_=>funM rfl rfl Tryz.func249 rfl) (by kernel_rfl) h
abbrev ze24(q:AV×List (List AV))(st:Bz):Option (MV×List (List AV)):=kTmV q.1 λn n s rows=>(some (MV.bool (st==[(116:UInt8),(114:UInt8),(117:UInt8),(101:UInt8)]),q.2))
theorem qvb(ke ne:Int)(se:Bz)(le bd:Rz)(self:Int)(bad:Bool)(kt nt:Int)(st:Bz)(lt:Rz){P:MV×List (List AV)->Prop}(h:Gets (bif kt != 2 then kOpt (EVd (EV cfg) 250 [.ptr 0 0 0] 7 [[.int .i64 ke,.int .i64 ne,.str se,.sl le,.sl bd,.int .i64 self,.bool bad]]) λq=>ze24 q st else bif ! st==[(116:UInt8),(114:UInt8),(117:UInt8),(101:UInt8)]then bif ! st==[(102:UInt8),(97:UInt8),(108:UInt8),(115:UInt8),(101:UInt8)]then kOpt (EVd (EV cfg) 250 [.ptr 0 0 0] 7 [[.int .i64 ke,.int .i64 ne,.str se,.sl le,.sl bd,.int .i64 self,.bool bad]]) λq=>ze24 q st else some (MV.bool (st==[(116:UInt8),(114:UInt8),(117:UInt8),(101:UInt8)]),[[.int .i64 ke,.int .i64 ne,.str se,.sl le,.sl bd,.int .i64 self,.bool bad]])else some (MV.bool (st==[(116:UInt8),(114:UInt8),(117:UInt8),(101:UInt8)]),[[.int .i64 ke,.int .i64 ne,.str se,.sl le,.sl bd,.int .i64 self,.bool bad]])) P):Gets (EVm (EV cfg) 244 [.ptr 0 0 0,.agg [.int .i64 kt,.int .i64 nt,.str st,.sl lt]] 7 [[AV.int .i64 ke,AV.int .i64 ne,AV.str se,AV.sl le,AV.sl bd,AV.int .i64 self,AV.bool bad]]) P:=
  gE (λ_=>funM rfl rfl Tryz.func244 rfl) (by kernel_rfl) h
abbrev ze26(n n_1:Int)(s:Bz)(rows:Rz)(ke ne:Int)(se:Bz)(le bd:Rz)(self:Int)(bad:Bool):Option (AV×List (List AV)):=(some (.agg [.int .i64 n,.int .i64 n_1,.str s,.sl rows],[[.int .i64 ke,.int .i64 ne,.str se,.sl le,.sl bd,.int .i64 self,.bool bad]]))
abbrev ze25(v:AV)(ke ne:Int)(se:Bz)(le bd:Rz)(self:Int)(bad:Bool):Option (AV×List (List AV)):=kTmV v λn n_1 s rows=>ze26 n n_1 s rows ke ne se le bd self bad
abbrev ze34(n n_1:Int)(s:Bz)(rows:Rz)(q:MV×List (List AV)):Option (AV×List (List AV)):=(some (.agg [.int .i64 n,.int .i64 n_1,.str s,.sl rows],q.2))
abbrev ze33(v:AV)(q:MV×List (List AV)):Option (AV×List (List AV)):=kTmV v λn n_1 s rows=>ze34 n n_1 s rows q
abbrev ze32(b_1:Bool)(q:MV×List (List AV)):Option (AV×List (List AV)):=kOpt (EVf (EV cfg) 247 [.bool b_1]) λv=>ze33 v q
abbrev ze35(q:MV×List (List AV)):Option (AV×List (List AV)):=kOpt (EVf (EV cfg) 247 [.bool false]) λv=>ze33 v q
abbrev ze31(b b_1:Bool)(q:MV×List (List AV)):Option (AV×List (List AV)):=bif b then ze32 b_1 q else ze35 q
abbrev ze30(q:MV×List (List AV))(b:Bool):Option (AV×List (List AV)):=yc q.1 λb_1=>ze31 b b_1 q
abbrev ze29(kb nb:Int)(sb:Bz)(lb:Rz)(q:MV×List (List AV))(b:Bool):Option (AV×List (List AV)):=kOpt (EVm (EV cfg) 244 [.ptr 0 0 0,.agg [.int .i64 kb,.int .i64 nb,.str sb,.sl lb]] 7 q.2) λq=>ze30 q b
abbrev ze28(q:MV×List (List AV))(kb nb:Int)(sb:Bz)(lb:Rz):Option (AV×List (List AV)):=yc q.1 λb=>ze29 kb nb sb lb q b
abbrev ze27(ka na:Int)(sa:Bz)(la:Rz)(ke ne:Int)(se:Bz)(le bd:Rz)(self:Int)(bad:Bool)(kb nb:Int)(sb:Bz)(lb:Rz):Option (AV×List (List AV)):=kOpt (EVm (EV cfg) 244 [.ptr 0 0 0,.agg [.int .i64 ka,.int .i64 na,.str sa,.sl la]] 7 [[.int .i64 ke,.int .i64 ne,.str se,.sl le,.sl bd,.int .i64 self,.bool bad]]) λq=>ze28 q kb nb sb lb
abbrev ze41(q:MV×List (List AV)):Option (AV×List (List AV)):=kOpt (EVf (EV cfg) 247 [.bool true]) λv=>ze33 v q
abbrev ze40(b:Bool)(q:MV×List (List AV))(b_1:Bool):Option (AV×List (List AV)):=bif b then ze41 q else ze32 b_1 q
abbrev ze39(q:MV×List (List AV))(b:Bool):Option (AV×List (List AV)):=yc q.1 λb_1=>ze40 b q b_1
abbrev ze38(kb nb:Int)(sb:Bz)(lb:Rz)(q:MV×List (List AV))(b:Bool):Option (AV×List (List AV)):=kOpt (EVm (EV cfg) 244 [.ptr 0 0 0,.agg [.int .i64 kb,.int .i64 nb,.str sb,.sl lb]] 7 q.2) λq=>ze39 q b
abbrev ze37(q:MV×List (List AV))(kb nb:Int)(sb:Bz)(lb:Rz):Option (AV×List (List AV)):=yc q.1 λb=>ze38 kb nb sb lb q b
abbrev ze36(ka na:Int)(sa:Bz)(la:Rz)(ke ne:Int)(se:Bz)(le bd:Rz)(self:Int)(bad:Bool)(kb nb:Int)(sb:Bz)(lb:Rz):Option (AV×List (List AV)):=kOpt (EVm (EV cfg) 244 [.ptr 0 0 0,.agg [.int .i64 ka,.int .i64 na,.str sa,.sl la]] 7 [[.int .i64 ke,.int .i64 ne,.str se,.sl le,.sl bd,.int .i64 self,.bool bad]]) λq=>ze37 q kb nb sb lb
abbrev ze42(q:MV×List (List AV)):Option (AV×List (List AV)):=kOpt (EVd (EV cfg) 250 [.ptr 0 0 0] 7 q.2) λq=>ze2 q
theorem qw9(ke ne:Int)(se:Bz)(le bd:Rz)(self:Int)(bad:Bool)(op:Bz)(ka na:Int)(sa:Bz)(la:Rz)(kb nb:Int)(sb:Bz)(lb:Rz){P:AV×List (List AV)->Prop}(h:Gets (bif op==[(61:UInt8),(61:UInt8)]then kOpt (EVs (EV cfg) 252 [.agg [.int .i64 ka,.int .i64 na,.str sa,.sl la],.agg [.int .i64 kb,.int .i64 nb,.str sb,.sl lb]]) λv=>kInt .i64 v λn=>kOpt (EVf (EV cfg) 247 [.bool (n==0)]) λv=>ze25 v ke ne se le bd self bad else bif op==[(61:UInt8),(58:UInt8),(61:UInt8)]then kOpt (EVs (EV cfg) 252 [.agg [.int .i64 ka,.int .i64 na,.str sa,.sl la],.agg [.int .i64 kb,.int .i64 nb,.str sb,.sl lb]]) λv=>kInt .i64 v λn=>kOpt (EVf (EV cfg) 247 [.bool (n==0)]) λv=>ze25 v ke ne se le bd self bad else bif op==[(47:UInt8),(61:UInt8)]then kOpt (EVs (EV cfg) 252 [.agg [.int .i64 ka,.int .i64 na,.str sa,.sl la],.agg [.int .i64 kb,.int .i64 nb,.str sb,.sl lb]]) λv=>kInt .i64 v λn=>kOpt (EVf (EV cfg) 247 [.bool (n != 0)]) λv=>ze25 v ke ne se le bd self bad else bif op==[(61:UInt8),(47:UInt8),(61:UInt8)]then kOpt (EVs (EV cfg) 252 [.agg [.int .i64 ka,.int .i64 na,.str sa,.sl la],.agg [.int .i64 kb,.int .i64 nb,.str sb,.sl lb]]) λv=>kInt .i64 v λn=>kOpt (EVf (EV cfg) 247 [.bool (n != 0)]) λv=>ze25 v ke ne se le bd self bad else bif op==[(60:UInt8)]then kOpt (EVs (EV cfg) 252 [.agg [.int .i64 ka,.int .i64 na,.str sa,.sl la],.agg [.int .i64 kb,.int .i64 nb,.str sb,.sl lb]]) λv=>kInt .i64 v λn=>kOpt (EVf (EV cfg) 247 [.bool (decide (n<0))]) λv=>ze25 v ke ne se le bd self bad else bif op==[(61:UInt8),(60:UInt8)]then kOpt (EVs (EV cfg) 252 [.agg [.int .i64 ka,.int .i64 na,.str sa,.sl la],.agg [.int .i64 kb,.int .i64 nb,.str sb,.sl lb]]) λv=>kInt .i64 v λn=>kOpt (EVf (EV cfg) 247 [.bool (decide (n<=0))]) λv=>ze25 v ke ne se le bd self bad else bif op==[(62:UInt8)]then kOpt (EVs (EV cfg) 252 [.agg [.int .i64 ka,.int .i64 na,.str sa,.sl la],.agg [.int .i64 kb,.int .i64 nb,.str sb,.sl lb]]) λv=>kInt .i64 v λn=>kOpt (EVf (EV cfg) 247 [.bool (decide (n>0))]) λv=>ze25 v ke ne se le bd self bad else bif op==[(62:UInt8),(61:UInt8)]then kOpt (EVs (EV cfg) 252 [.agg [.int .i64 ka,.int .i64 na,.str sa,.sl la],.agg [.int .i64 kb,.int .i64 nb,.str sb,.sl lb]]) λv=>kInt .i64 v λn=>kOpt (EVf (EV cfg) 247 [.bool (decide (n≥0))]) λv=>ze25 v ke ne se le bd self bad else bif op==[(97:UInt8),(110:UInt8),(100:UInt8)]then ze27 ka na sa la ke ne se le bd self bad kb nb sb lb else bif op==[(97:UInt8),(110:UInt8),(100:UInt8),(97:UInt8),(108:UInt8),(115:UInt8),(111:UInt8)]then ze27 ka na sa la ke ne se le bd self bad kb nb sb lb else bif op==[(111:UInt8),(114:UInt8)]then ze36 ka na sa la ke ne se le bd self bad kb nb sb lb else bif op==[(111:UInt8),(114:UInt8),(101:UInt8),(108:UInt8),(115:UInt8),(101:UInt8)]then ze36 ka na sa la ke ne se le bd self bad kb nb sb lb else bif op==[(120:UInt8),(111:UInt8),(114:UInt8)]then kOpt (EVm (EV cfg) 244 [.ptr 0 0 0,.agg [.int .i64 ka,.int .i64 na,.str sa,.sl la]] 7 [[.int .i64 ke,.int .i64 ne,.str se,.sl le,.sl bd,.int .i64 self,.bool bad]]) λq=>yc q.1 λb=>kOpt (EVm (EV cfg) 244 [.ptr 0 0 0,.agg [.int .i64 kb,.int .i64 nb,.str sb,.sl lb]] 7 q.2) λq=>yc q.1 λb_1=>kOpt (EVf (EV cfg) 247 [.bool ! b==b_1]) λv=>ze33 v q else bif op==[(101:UInt8),(108:UInt8),(101:UInt8),(109:UInt8),(101:UInt8),(110:UInt8),(116:UInt8)]then kOpt (EVm (EV cfg) 249 [.ptr 0 0 0,.agg [.int .i64 ka,.int .i64 na,.str sa,.sl la]] 7 [[.int .i64 ke,.int .i64 ne,.str se,.sl le,.sl bd,.int .i64 self,.bool bad]]) λq=>qcd .i64 q.1 λn=>bif decide (n≥1)then bif kb==7 then bif decide (n<=(↑ (qBe lb):Int))then bif qh 0 (qBf .i64 (n - 1))&&qn (qBf .i64 (n - 1)) (lb.length:Int)then kOpt (qBg lb (qBj (qBf .i64 (n - 1)))) λrow=>bif qBh (qBe row) 4 then bif qBv 4 (qBe row)then kTmC (qBm 4 row) λn n_1 s rows=>ze34 n n_1 s rows q else none else none else none else ze42 q else ze42 q else ze42 q else kOpt (EVm (EV cfg) 249 [.ptr 0 0 0,.agg [.int .i64 ka,.int .i64 na,.str sa,.sl la]] 7 [[.int .i64 ke,.int .i64 ne,.str se,.sl le,.sl bd,.int .i64 self,.bool bad]]) λq=>qcd .i64 q.1 λn=>kOpt (EVm (EV cfg) 249 [.ptr 0 0 0,.agg [.int .i64 kb,.int .i64 nb,.str sb,.sl lb]] 7 q.2) λq=>qcd .i64 q.1 λn_1=>kOpt (EVd (EV cfg) 253 [.ptr 0 0 0,.str op,.int .i64 n,.int .i64 n_1] 7 q.2) λq=>ze2 q) P):Gets (EVd (EV cfg) 231 [.ptr 0 0 0,.str op,.agg [.int .i64 ka,.int .i64 na,.str sa,.sl la],.agg [.int .i64 kb,.int .i64 nb,.str sb,.sl lb]] 7 [[AV.int .i64 ke,AV.int .i64 ne,AV.str se,AV.sl le,AV.sl bd,AV.int .i64 self,AV.bool bad]]) P:=
  gE (λ_=>funD rfl rfl Tryz.func231 rfl) (by kernel_rfl) h
abbrev ze43(n:Int)(q:MV×List (List AV)):Option (AV×List (List AV)):=kOpt (EVd (EV cfg) 248 [.ptr 0 0 0,.int .i64 n] 7 q.2) λq=>ze2 q
abbrev ze45(lt:Rz)(ke ne:Int)(se:Bz)(le bd:Rz)(self:Int)(bad:Bool):Option (AV×List (List AV)):=kOpt (EVd (EV cfg) 248 [.ptr 0 0 0,.int .i64 (↑ (qBe lt):Int)] 7 [[.int .i64 ke,.int .i64 ne,.str se,.sl le,.sl bd,.int .i64 self,.bool bad]]) λq=>ze2 q
abbrev ze44(kt ke ne:Int)(se:Bz)(le bd:Rz)(self:Int)(bad:Bool)(lt:Rz):Option (AV×List (List AV)):=bif kt != (7:Int)then ze1 ke ne se le bd self bad else ze45 lt ke ne se le bd self bad
theorem qxa(ke ne:Int)(se:Bz)(le bd:Rz)(self:Int)(bad:Bool)(op:Bz)(kt nt:Int)(st:Bz)(lt:Rz){P:AV×List (List AV)->Prop}(h:Gets (bif op==[(105:UInt8),(115:UInt8),(95:UInt8),(97:UInt8),(116:UInt8),(111:UInt8),(109:UInt8)]then kOpt (EVf (EV cfg) 247 [.bool (kt==2)]) λv=>ze25 v ke ne se le bd self bad else bif op==[(105:UInt8),(115:UInt8),(95:UInt8),(105:UInt8),(110:UInt8),(116:UInt8),(101:UInt8),(103:UInt8),(101:UInt8),(114:UInt8)]then kOpt (EVf (EV cfg) 247 [.bool (kt==1)]) λv=>ze25 v ke ne se le bd self bad else bif op==[(105:UInt8),(115:UInt8),(95:UInt8),(108:UInt8),(105:UInt8),(115:UInt8),(116:UInt8)]then bif kt==9 then kOpt (EVf (EV cfg) 247 [.bool true]) λv=>ze25 v ke ne se le bd self bad else kOpt (EVf (EV cfg) 247 [.bool (kt==8)]) λv=>ze25 v ke ne se le bd self bad else bif op==[(105:UInt8),(115:UInt8),(95:UInt8),(116:UInt8),(117:UInt8),(112:UInt8),(108:UInt8),(101:UInt8)]then kOpt (EVf (EV cfg) 247 [.bool (kt==7)]) λv=>ze25 v ke ne se le bd self bad else bif op==[(105:UInt8),(115:UInt8),(95:UInt8),(112:UInt8),(105:UInt8),(100:UInt8)]then kOpt (EVf (EV cfg) 247 [.bool (kt==6)]) λv=>ze25 v ke ne se le bd self bad else bif op==[(105:UInt8),(115:UInt8),(95:UInt8),(102:UInt8),(117:UInt8),(110:UInt8),(99:UInt8),(116:UInt8),(105:UInt8),(111:UInt8),(110:UInt8)]then kOpt (EVf (EV cfg) 247 [.bool (kt==5)]) λv=>ze25 v ke ne se le bd self bad else bif op==[(105:UInt8),(115:UInt8),(95:UInt8),(114:UInt8),(101:UInt8),(102:UInt8),(101:UInt8),(114:UInt8),(101:UInt8),(110:UInt8),(99:UInt8),(101:UInt8)]then bif kt==3 then kOpt (EVf (EV cfg) 247 [.bool true]) λv=>ze25 v ke ne se le bd self bad else kOpt (EVf (EV cfg) 247 [.bool (kt==4)]) λv=>ze25 v ke ne se le bd self bad else bif op==[(110:UInt8),(111:UInt8),(116:UInt8)]then kOpt (EVm (EV cfg) 244 [.ptr 0 0 0,.agg [.int .i64 kt,.int .i64 nt,.str st,.sl lt]] 7 [[.int .i64 ke,.int .i64 ne,.str se,.sl le,.sl bd,.int .i64 self,.bool bad]]) λq=>yc q.1 λb=>kOpt (EVf (EV cfg) 247 [.bool ! b]) λv=>ze33 v q else bif op==[(98:UInt8),(110:UInt8),(111:UInt8),(116:UInt8)]then kOpt (EVm (EV cfg) 249 [.ptr 0 0 0,.agg [.int .i64 kt,.int .i64 nt,.str st,.sl lt]] 7 [[.int .i64 ke,.int .i64 ne,.str se,.sl le,.sl bd,.int .i64 self,.bool bad]]) λq=>qcd .i64 q.1 λn=>kOpt (qU (Op.intBits BinOp.xor .i64 (- 1) n)) λv=>kInt .i64 v λn=>ze43 n q else bif op==[(43:UInt8)]then kOpt (EVm (EV cfg) 249 [.ptr 0 0 0,.agg [.int .i64 kt,.int .i64 nt,.str st,.sl lt]] 7 [[.int .i64 ke,.int .i64 ne,.str se,.sl le,.sl bd,.int .i64 self,.bool bad]]) λq=>qcd .i64 q.1 λn=>ze43 n q else bif op==[(45:UInt8)]then kOpt (EVm (EV cfg) 249 [.ptr 0 0 0,.agg [.int .i64 kt,.int .i64 nt,.str st,.sl lt]] 7 [[.int .i64 ke,.int .i64 ne,.str se,.sl le,.sl bd,.int .i64 self,.bool bad]]) λq=>qcd .i64 q.1 λn=>kOpt (EVd (EV cfg) 248 [.ptr 0 0 0,.int .i64 (qBf .i64 (0 - n))] 7 q.2) λq=>ze2 q else bif op==[(97:UInt8),(98:UInt8),(115:UInt8)]then kOpt (EVm (EV cfg) 249 [.ptr 0 0 0,.agg [.int .i64 kt,.int .i64 nt,.str st,.sl lt]] 7 [[.int .i64 ke,.int .i64 ne,.str se,.sl le,.sl bd,.int .i64 self,.bool bad]]) λq=>qcd .i64 q.1 λn=>kOpt (EVd (EV cfg) 248 [.ptr 0 0 0,.int .i64 (if(λb a=>decide (a<b)) (qBf .i64 (0 - nt)) n=true then qBf .i64 (0 - nt)else n)] 7 q.2) λq=>ze2 q else bif op==[(116:UInt8),(117:UInt8),(112:UInt8),(108:UInt8),(101:UInt8),(95:UInt8),(115:UInt8),(105:UInt8),(122:UInt8),(101:UInt8)]then ze44 kt ke ne se le bd self bad lt else bif op==[(115:UInt8),(105:UInt8),(122:UInt8),(101:UInt8)]then ze44 kt ke ne se le bd self bad lt else kOpt (EVd (EV cfg) 251 [.ptr 0 0 0,.str op,.agg [.int .i64 kt,.int .i64 nt,.str st,.sl lt]] 7 [[.int .i64 ke,.int .i64 ne,.str se,.sl le,.sl bd,.int .i64 self,.bool bad]]) λq=>ze2 q) P):Gets (EVd (EV cfg) 230 [.ptr 0 0 0,.str op,.agg [.int .i64 kt,.int .i64 nt,.str st,.sl lt]] 7 [[AV.int .i64 ke,AV.int .i64 ne,AV.str se,AV.sl le,AV.sl bd,AV.int .i64 self,AV.bool bad]]) P:=
  gE (λ_=>funD rfl rfl Tryz.func230 rfl) (by kernel_rfl) h
theorem qs1(ke ne:Int)(se:Bz)(le bd:Rz)(self:Int)(bad:Bool)(op:Bz)(L:Rz){P:AV×List (List AV)->Prop}(h:Gets (bif(L.length:Int)==1 then bif qn 0 (L.length:Int)then kOpt (qBg L 0) λrow=>bif qBh (qBe row) 4 then bif qBv 4 (qBe row)then kTmC (qBm 4 row) λn n_1 s rows=>(kOpt (EVd (EV cfg) 230 [.ptr 0 0 0,.str op,.agg [.int .i64 n,.int .i64 n_1,.str s,.sl rows]] 7 [[.int .i64 ke,.int .i64 ne,.str se,.sl le,.sl bd,.int .i64 self,.bool bad]]) λq=>kTmV q.1 λn n_2 s rows=>(some (.agg [.int .i64 n,.int .i64 n_2,.str s,.sl rows],q.2)))else none else none else none else bif(L.length:Int)==2 then bif qn 0 (L.length:Int)then kOpt (qBg L 0) λrow=>bif qBh (qBe row) 4 then bif qBv 4 (qBe row)then kTmC (qBm 4 row) λn n_1 s rows=>(bif qn 1 (L.length:Int)then kOpt (qBg L 1) λrow=>bif qBh (qBe row) 4 then bif qBv 4 (qBe row)then kTmC (qBm 4 row) λn_2 n_3 s_1 rows_1=>(kOpt (EVd (EV cfg) 231 [.ptr 0 0 0,.str op,.agg [.int .i64 n,.int .i64 n_1,.str s,.sl rows],.agg [.int .i64 n_2,.int .i64 n_3,.str s_1,.sl rows_1]] 7 [[.int .i64 ke,.int .i64 ne,.str se,.sl le,.sl bd,.int .i64 self,.bool bad]]) λq=>kTmV q.1 λn n_4 s rows=>(some (.agg [.int .i64 n,.int .i64 n_4,.str s,.sl rows],q.2)))else none else none else none)else none else none else none else some (.agg [.int .i64 6,.int .i64 self,.str [],.sl []],[[.int .i64 ke,.int .i64 ne,.str se,.sl le,.sl bd,.int .i64 self,.bool bad]])) P):Gets (EVd (EV cfg) 205 [.ptr 0 0 0,.str op,.sl L] 7 [[AV.int .i64 ke,AV.int .i64 ne,AV.str se,AV.sl le,AV.sl bd,AV.int .i64 self,AV.bool bad]]) P:=
  gE (λ_=>funD rfl rfl Tryz.func205 rfl) (by kernel_rfl) h
theorem qtu(op:Bz)(L:Rz)(pid:Int){P:AV->Prop}(h:Gets (kOpt (EVf (EV cfg) 174 [.str op]) λv=>kSl v λrows=>kOpt (EVs (EV cfg) 172 [.sl rows,.int .i64 (L.length:Int)]) λv=>qu v λb=>bif ! b then some (AV.tup [.agg [.int .i64 0,.int .i64 0,.str [],.sl []],.int .i64 2])else kOpt (EVs (EV cfg) 204 [.int .i64 pid]) λv=>qu v λb=>bif ! b then some (AV.tup [.agg [.int .i64 0,.int .i64 0,.str [],.sl []],.int .i64 2])else qkw op L pid 0 (0:Int) 0 [] []) P):Gets (EVf (EV cfg) 155 [.str op,.sl L,.int .i64 pid]) P:=
  gE (λ_=>funF rfl rfl Tryz.func155 rfl) (by kernel_rfl) h
theorem qiS(A:Rz)(n v8:Int){P:AV->Prop}(h:Gets (bif decide (v8<(A.length:Int))then bif qh 0 v8&&qn v8 (A.length:Int)then kOpt (qBg A (v8.toNat)) λrow=>bif qBh (qBe row) 1 then kOpt (qBg row 0) λv=>kInt .i64 v λn_1=>bif n==n_1 then some (.int .i64 v8)else qkv A n (qBf .i64 (v8+1))else none else none else some (.int .i64 (- 1))) P):Gets (qkv A n v8) P:=
  gE (λ_=>qB (cfg:=cfg) (f:=211) (rd:=none) (bs:=0)) (by kernel_rfl) h
theorem qiT(op:Bz)(L:Rz)(pid v26 c0_0 c0_1:Int)(c0_2:Bz)(c0_3:Rz){P:AV->Prop}(h:Gets (bif decide (v26<(L.length:Int))then bif qh 0 v26&&qn v26 (L.length:Int)then kOpt (qBg L (v26.toNat)) λrow=>bif qBh (qBe row) 4 then bif qBv 4 (qBe row)then kTmC (qBm 4 row) λn n_1 s rows=>(kOpt (EVs (EV cfg) 83 [.agg [.int .i64 n,.int .i64 n_1,.str s,.sl rows]]) λv=>kInt .i64 v λn=>bif n != 0 then some (AV.tup [.agg [.int .i64 0,.int .i64 0,.str [],.sl []],.int .i64 2])else qkw op L pid (qBf .i64 (v26+1)) c0_0 c0_1 c0_2 c0_3)else none else none else none else kOpt (EVd (EV cfg) 205 [.ptr 0 0 0,.str op,.sl L] 7 [[.int .i64 0,.int .i64 0,.str [],.sl [],.sl [],.int .i64 pid,.bool false]]) λq=>kTmV q.1 λn n_1 s rows=>(kOpt (qBg q.2 0) λrow=>kOpt (qBg row 6) λv=>qu v λb=>bif b then some (AV.tup [.agg [.int .i64 0,.int .i64 0,.str [],.sl []],.int .i64 10])else kOpt (EVf (EV cfg) 45 [.agg [.int .i64 n,.int .i64 n_1,.str s,.sl rows]]) λv=>kTmV v λn n_2 s rows=>(some (AV.tup [.agg [.int .i64 n,.int .i64 n_2,.str s,.sl rows],.int .i64 0])))) P):Gets (qkw op L pid v26 c0_0 c0_1 c0_2 c0_3) P:=
  gE (λ_=>qB (cfg:=cfg) (f:=155) (rd:=none) (bs:=0)) (by kernel_rfl) h
theorem yK(e:Env)(b:Bool):EVd (EV cfg) 250 [.ptr 0 0 0] 7 (mR e b)=some (q9.av,mR e true):=by
 apply Gets.get;refine qsZ _ _ _ _ _ _ _ ?_;rw[x9];simp
theorem qla(e:Env)(b:Bool)(n:Int):EVd (EV cfg) 248 [.ptr 0 0 0,.int .i64 n] 7 (mR e b)=some (if InB n then((numT n).av,mR e b)else(q9.av,mR e true)):=by
 have hr:=yK e b;apply Gets.get;refine qqX _ _ _ _ _ _ _ _ ?_;unfold ze1 ze2 ze3;simp only[hr];unfold InB;rw[qyo]
 by_cases h1:n< -576460752303423488
 ·have:¬(-576460752303423488<=n∧n<=576460752303423487):=by omega
  simp[h1,this]
 ·by_cases h2:n>576460752303423487
  ·have:¬(-576460752303423488<=n∧n<=576460752303423487):=by omega
   simp[h1,h2,this]
  ·have:(-576460752303423488<=n∧n<=576460752303423487):=by omega
   simp[h1,h2,this]
theorem qaa(e:Env)(n:Int){P:AV×List (List AV)->Prop}(h:∀r,Res e (vj n) r->(∃t:Tm,r.1=t.av)->P r):Gets (EVd (EV cfg) 248 [.ptr 0 0 0,.int .i64 n] 7 (mR e false)) P:=by
 rw[qla];refine⟨_,rfl,h _ ?_ ?_⟩
 ·unfold vj Res
  by_cases hb:InB n
  ·simp[hb]
  ·simp[hb];exact⟨_,rfl⟩
 ·by_cases hb:InB n
  ·exact⟨numT n,by simp[hb]⟩
  ·exact⟨q9,by simp[hb]⟩
theorem qhz(e:Env)(op:List UInt8)(a b:Int):EVd (EV cfg) 253 [.ptr 0 0 0,.str op,.int .i64 a,.int .i64 b] 7 (mR e true)=some (q9.av,mR e true):=by
 apply Gets.get;refine qhy _ _ _ _ _ _ _ _ _ _ ?_;unfold ze22 ze23 ze1 ze2 ze3;rw[x9];simp
def xo:Prop:=∀(e:Env) (a b:Int),InB a->InB b->Gets (EVd (EV cfg) 271 [.ptr 0 0 0,.int .i64 a,.int .i64 b] 7 (mR e false)) (Res e (vj (a*b)))
theorem zZ{e:Env}{o:Option Tm}{r:AV×List (List AV)}(h:Res e o r)(ht:∃t:Tm,r.1=t.av):Gets (kTmV r.1 fun(n n_1:Int) (s:List UInt8) (rows:List (List AV))=>some (AV.agg [.int .i64 n,.int .i64 n_1,.str s,.sl rows],r.2)) (Res e o):=by
 obtain⟨t,ht⟩:=ht;rw[ht,qW];refine⟨_,rfl,?_⟩;have:(AV.agg [.int .i64 t.kind,.int .i64 t.num,.str t.str,.sl (qb t.subs)],r.2)=r:=by
  rw[←Tm.cells_eq];exact Prod.ext ht.symm rfl
 rw[this];exact h
theorem qa7{e:Env}{o:Option Tm}{r:AV×List (List AV)}(h:Res e o r):∃t:Tm,r.1=t.av:=by
 unfold Res at h;split at h
 ·exact⟨_,by rw[h]⟩
 ·exact h.2
theorem qqW(e:Env)(op:List UInt8){a b:Int}(ha:InB a)(hb:InB b)(hp:op=[42]->xo):Gets (EVd (EV cfg) 253 [.ptr 0 0 0,.str op,.int .i64 a,.int .i64 b] 7 (mR e false)) (Res e (qbL op a b)):=by
 have num:∀n,Gets (kOpt (EVd (EV cfg) 248 [.ptr 0 0 0,.int .i64 n] 7 (mR e false)) λq=>kTmV q.1 fun(n n_1:Int) (s:List UInt8) (rows:List (List AV))=>some (AV.agg [.int .i64 n,.int .i64 n_1,.str s,.sl rows],q.2)) (Res e (vj n)):=
  λn=>Gets.bind (qaa e n λr h1 h2=>h1) λr h=>zZ h (qa7 h)
 refine qhy _ _ _ _ _ _ _ _ _ _ ?_;unfold ze22 ze23 ze1 ze2 ze3;have ha':=ha;have hb':=hb;obtain⟨a1,a2⟩:=ha;obtain⟨b1,b2⟩:=hb;simp only[beqS,beqD,cond_false];unfold qbL
 by_cases h1:op=[43]
 ·rw[qB5 h1,qB3 h1,cond_true,vq (by omega) (by omega)];exact num _
 rw[qB6 h1,qB4 h1,cond_false]
 by_cases h2:op=[45]
 ·rw[qB5 h2,qB3 h2,cond_true,vq (by omega) (by omega)];exact num _
 rw[qB6 h2,qB4 h2,cond_false]
 by_cases h3:op=[42]
 ·rw[qB5 h3,qB3 h3,cond_true];exact Gets.bind (hp h3 e a b ha' hb') λr h=>zZ h (qa7 h)
 rw[qB6 h3,qB4 h3,cond_false]
 by_cases h4:op=[98,97,110,100]
 ·rw[qB5 h4,qB3 h4,cond_true,qyE ha' hb'];simp only[qc,qi];exact num _
 rw[qB6 h4,qB4 h4,cond_false]
 by_cases h5:op=[98,111,114]
 ·rw[qB5 h5,qB3 h5,cond_true,qzu ha' hb'];simp only[qc,qi];exact num _
 rw[qB6 h5,qB4 h5,cond_false]
 by_cases h6:op=[98,120,111,114]
 ·rw[qB5 h6,qB3 h6,cond_true,qyD ha' hb'];simp only[qc,qi];exact num _
 rw[qB6 h6,qB4 h6,cond_false]
 by_cases h7:b=0
 ·rw[qB5 h7,qB3 h7,cond_true,yK];simp only[qc,qW];exact⟨_,rfl,rfl,q9,by rw[Tm.av,Tm.cells_eq]⟩
 rw[qB6 h7,qB4 h7,cond_false,qtn h7,qtm h7]
 by_cases h8:op=[100,105,118]
 ·have:=qwD (a:=a) h7;rw[qB5 h8,qB3 h8,cond_true,vq (by omega) (by omega)];simp only[qc,qi];exact num _
 ·rw[qB6 h8,qB4 h8,cond_false];simp only[qc,qi];exact num _
def qz5:Den:=evC cfg (EV cfg) 269 none 0 (sub (qg Tryz.f269) [1,1,0,1,0,0])
def qAE:Ex×List AV×AH->Option AV:=kAft (Cfg.keepOut cfg 269 3) (kRun cfg (EV cfg) (kfN cfg 6) 269 none 0 (qaM cfg (Cfg.lift cfg 269 0) Tryz.f269.results.toList) ([.block 0,.seq (sub (qg Tryz.f269) [1,1,1])]))
def qv9:List AV×AH->Option AV:=λp=>kOpt (LOOP 0 (some [3,6,7,8]) ([]) qz5 p) qAE
def qz3:Den:=evC cfg (EV cfg) 279 none 0 (sub (qg Tryz.f279) [1,0,1,0,0])
def qAC:Ex×List AV×AH->Option AV:=kAft (Cfg.keepOut cfg 279 2) (kRun cfg (EV cfg) (kfN cfg 6) 279 none 0 (qaM cfg (Cfg.lift cfg 279 0) Tryz.f279.results.toList) ([.block 0,.seq (sub (qg Tryz.f279) [1,1])]))
def qzG:List AV×AH->Option AV:=λp=>kOpt (LOOP 0 (some [0,1,2,11,12,13]) ([]) qz3 p) qAC
def qz8:Den:=evC cfg (EV cfg) 252 none 0 (sub (qg Tryz.f252) [1,0,1,0,0])
def qAH:Ex×List AV×AH->Option AV:=kAft (Cfg.keepOut cfg 252 1) (kRun cfg (EV cfg) (kfN cfg 6) 252 none 0 (qaM cfg (Cfg.lift cfg 252 0) Tryz.f252.results.toList) ([.block 0,.scope]))
def qzL:List AV×AH->Option AV:=λp=>kOpt (LOOP 0 (some [2,3]) ([]) qz8 p) qAH
abbrev qfp(a b c v8:Int):Option (AV):=qv9 (((fx 18 [(3,.int .i64 (0:Int)),(6,.sl [[.int .i64 a],[.int .i64 b],[.int .i64 c]]),(7,.int .i64 (3:Int)),(8,.int .i64 v8)]):List AV),([]:AH))
abbrev qfo(a b v8:Int):Option (AV):=qv9 (((fx 18 [(3,.int .i64 (0:Int)),(6,.sl [[.int .i64 a],[.int .i64 b]]),(7,.int .i64 (2:Int)),(8,.int .i64 v8)]):List AV),([]:AH))
abbrev qkl(A B:Rz)(v13:Int):Option (AV):=qzG (((fx 39 [(0,.sl A),(1,.sl B),(2,.fn (Fn.func 252) [] []),(11,.sl A),(12,.int .i64 (A.length:Int)),(13,.int .i64 v13)]):List AV),([]:AH))
abbrev qko(c0_0 c0_1:Int)(c0_2:Bz)(c0_3:Rz)(c1_0 c1_1:Int)(c1_2:Bz)(c1_3:Rz):Option (AV):=qzL (((fx 117 [(2,.ptr 0 0 0),(3,.ptr 1 0 0)]):List AV),([.rows false 4 [[.int .i64 c0_0,.int .i64 c0_1,.str c0_2,.sl c0_3]],.rows false 4 [[.int .i64 c1_0,.int .i64 c1_1,.str c1_2,.sl c1_3]]]:AH))
theorem qxz(a b:Int){P:AV->Prop}(h:Gets (kOpt (EVs (EV cfg) 277 [.int .i64 a]) λv=>qu v λb_1=>kOpt (EVs (EV cfg) 277 [.int .i64 b]) λv=>qu v λb_2=>bif b_1 then bif b_2 then some (.int .i64 0)else some (.int .i64 (- 1))else bif b_2 then some (.int .i64 1)else bif decide (a<b)then some (.int .i64 (- 1))else bif decide (a>b)then some (.int .i64 1)else some (.int .i64 0)) P):Gets (EVs (EV cfg) 267 [.int .i64 a,.int .i64 b]) P:=
  gE (λ_=>funS rfl rfl Tryz.func267 rfl) (by kernel_rfl) h
theorem qvP(a b:Bz){P:AV->Prop}(h:Gets (kOpt (EVs (EV cfg) 278 [.str a,.str b]) λv=>kInt .i64 v λn=>some (.int .i64 n)) P):Gets (EVs (EV cfg) 268 [.str a,.str b]) P:=
  gE (λ_=>funS rfl rfl Tryz.func268 rfl) (by kernel_rfl) h
theorem qyh(a b c:Int){P:AV->Prop}(h:Gets (qfp a b c 0) P):Gets (EVs (EV cfg) 269 [.sl [[.int .i64 a],[.int .i64 b],[.int .i64 c]]]) P:=
  gE (λ_=>funS rfl rfl Tryz.func269 rfl) (by kernel_rfl) h
theorem qyi(a b:Int){P:AV->Prop}(h:Gets (qfo a b 0) P):Gets (EVs (EV cfg) 269 [.sl [[.int .i64 a],[.int .i64 b]]]) P:=
  gE (λ_=>funS rfl rfl Tryz.func269 rfl) (by kernel_rfl) h
theorem qrn(A B:Rz){P:AV->Prop}(h:Gets (qkl A B 0) P):Gets (EVs (EV cfg) 279 [.sl A,.sl B,.fn (Fn.func 252) [] []]) P:=
  gE (λ_=>funS rfl rfl Tryz.func279 rfl) (by kernel_rfl) h
theorem qtj(a:Int){P:AV->Prop}(h:Gets (some (.bool (a != a))) P):Gets (EVs (EV cfg) 277 [.int .i64 a]) P:=
  gE (λ_=>funS rfl rfl Tryz.func277 rfl) (by kernel_rfl) h
theorem qtJ(a b:Bz){P:AV->Prop}(h:Gets (kOpt (EVs (EV cfg) 281 [.str a,.str b]) λv=>kInt .i64 v λn=>some (.int .i64 n)) P):Gets (EVs (EV cfg) 278 [.str a,.str b]) P:=
  gE (λ_=>funS rfl rfl Tryz.func278 rfl) (by kernel_rfl) h
theorem qkY(A B:Rz){P:AV->Prop}(h:Gets (kOpt (EVs (EV cfg) 279 [.sl A,.sl B,AV.fn (Fn.func 252) [] []]) λv=>kInt .i64 v λn=>some (.int .i64 n)) P):Gets (EVs (EV cfg) 270 [.sl A,.sl B]) P:=
  gE (λ_=>funS rfl rfl Tryz.func270 rfl) (by kernel_rfl) h
theorem qht(ka na:Int)(sa:Bz)(la:Rz)(kb nb:Int)(sb:Bz)(lb:Rz){P:AV->Prop}(h:Gets (qko ka na sa la kb nb sb lb) P):Gets (EVs (EV cfg) 252 [.agg [.int .i64 ka,.int .i64 na,.str sa,.sl la],.agg [.int .i64 kb,.int .i64 nb,.str sb,.sl lb]]) P:=
  gE (λ_=>funS rfl rfl Tryz.func252 rfl) (by kernel_rfl) h
theorem qcB(a b c v8:Int){P:AV->Prop}(h:Gets (bif decide (v8<3)then bif qh 0 v8&&qn v8 (↑ 3:Int)then kOpt (qBg [[.int .i64 a],[.int .i64 b],[.int .i64 c]] (v8.toNat)) λrow=>bif qBh (qBe row) 1 then kOpt (qBg row 0) λv=>kInt .i64 v λn=>bif n != 0 then some (.int .i64 n)else qfp a b c (qBf .i64 (v8+1))else none else none else some (.int .i64 0)) P):Gets (qfp a b c v8) P:=
  gE (λ_=>qB (cfg:=cfg) (f:=269) (rd:=none) (bs:=0)) (by kernel_rfl) h
theorem qdP(a b v8:Int){P:AV->Prop}(h:Gets (bif decide (v8<2)then bif qh 0 v8&&qn v8 (↑ 2:Int)then kOpt (qBg [[.int .i64 a],[.int .i64 b]] (v8.toNat)) λrow=>bif qBh (qBe row) 1 then kOpt (qBg row 0) λv=>kInt .i64 v λn=>bif n != 0 then some (.int .i64 n)else qfo a b (qBf .i64 (v8+1))else none else none else some (.int .i64 0)) P):Gets (qfo a b v8) P:=
  gE (λ_=>qB (cfg:=cfg) (f:=269) (rd:=none) (bs:=0)) (by kernel_rfl) h
theorem qiI(A B:Rz)(v13:Int){P:AV->Prop}(h:Gets (bif decide (v13<(A.length:Int))then bif qh 0 v13&&qn v13 (A.length:Int)then kOpt (qBg A (v13.toNat)) λrow=>bif qBh (qBe row) 4 then bif qBv 4 (qBe row)then kTmC (qBm 4 row) λn n_1 s rows=>(bif decide (v13≥(↑ (qBe B):Int))then some (.int .i64 1)else bif qh 0 v13&&qn v13 (B.length:Int)then kOpt (qBg B (v13.toNat)) λrow=>bif qBh (qBe row) 4 then bif qBv 4 (qBe row)then kTmC (qBm 4 row) λn_2 n_3 s_1 rows_1=>(kOpt (EVs (EV cfg) 252 [.agg [.int .i64 n,.int .i64 n_1,.str s,.sl rows],.agg [.int .i64 n_2,.int .i64 n_3,.str s_1,.sl rows_1]]) λv=>kInt .i64 v λn=>bif n != 0 then some (.int .i64 n)else qkl A B (qBf .i64 (v13+1)))else none else none else none)else none else none else none else bif decide ((A.length:Int)<(B.length:Int))then some (.int .i64 (- 1))else some (.int .i64 0)) P):Gets (qkl A B v13) P:=
  gE (λ_=>qB (cfg:=cfg) (f:=279) (rd:=none) (bs:=0)) (by kernel_rfl) h
abbrev zf0(c0_1 c1_1:Int):Option (AV):=kOpt (EVs (EV cfg) 267 [.int .i64 c0_1,.int .i64 c1_1]) λv=>kInt .i64 v λn=>some (.int .i64 n)
abbrev zf5(n n_1:Int):Option (AV):=kOpt (EVs (EV cfg) 269 [.sl [[.int .i64 n],[.int .i64 n_1]]]) λv=>kInt .i64 v λn=>some (.int .i64 n)
abbrev zf4(v:AV)(n:Int):Option (AV):=kInt .i64 v λn_1=>zf5 n n_1
abbrev zf3(c0_3 c1_3:Rz)(n:Int):Option (AV):=kOpt (EVs (EV cfg) 270 [.sl c0_3,.sl c1_3]) λv=>zf4 v n
abbrev zf2(v:AV)(c0_3 c1_3:Rz):Option (AV):=kInt .i64 v λn=>zf3 c0_3 c1_3 n
abbrev zf1(c0_3 c1_3:Rz):Option (AV):=kOpt (EVs (EV cfg) 267 [.int .i64 (c0_3.length:Int),.int .i64 (↑ (qBe c1_3):Int)]) λv=>zf2 v c0_3 c1_3
theorem qqj(c0_0 c0_1:Int)(c0_2:Bz)(c0_3:Rz)(c1_0 c1_1:Int)(c1_2:Bz)(c1_3:Rz){P:AV->Prop}(h:Gets (kOpt (EVs (EV cfg) 267 [.int .i64 c0_0,.int .i64 c1_0]) λv=>kInt .i64 v λn=>bif n != 0 then some (.int .i64 n)else bif c0_0==1 then zf0 c0_1 c1_1 else bif c0_0==3 then zf0 c0_1 c1_1 else bif c0_0==4 then zf0 c0_1 c1_1 else bif c0_0==6 then zf0 c0_1 c1_1 else bif c0_0==2 then kOpt (EVs (EV cfg) 268 [.str c0_2,.str c1_2]) λv=>kInt .i64 v λn=>some (.int .i64 n)else bif c0_0==5 then kOpt (EVs (EV cfg) 267 [.int .i64 c0_1,.int .i64 c1_1]) λv=>kInt .i64 v λn=>kOpt (EVs (EV cfg) 267 [.int .i64 (c0_3.length:Int),.int .i64 (c1_3.length:Int)]) λv=>kInt .i64 v λn_1=>kOpt (EVs (EV cfg) 270 [.sl c0_3,.sl c1_3]) λv=>kInt .i64 v λn_2=>kOpt (EVs (EV cfg) 269 [.sl [[.int .i64 n],[.int .i64 n_1],[.int .i64 n_2]]]) λv=>kInt .i64 v λn=>some (.int .i64 n)else bif c0_0==9 then bif(↑ (qBe c0_3):Int)==2 then bif(c1_3.length:Int)==2 then bif qn 0 (c0_3.length:Int)then kOpt (qBg c0_3 0) λrow=>bif qBh (qBe row) 4 then bif qBv 4 (qBe row)then kTmC (qBm 4 row) λn n_1 s rows=>(bif qn (0:Int) (c1_3.length:Int)then kOpt (qBg c1_3 0) λrow=>bif qBh (qBe row) 4 then bif qBv 4 (qBe row)then kTmC (qBm 4 row) λn_2 n_3 s_1 rows_1=>(kOpt (EVs (EV cfg) 252 [.agg [.int .i64 n,.int .i64 n_1,.str s,.sl rows],.agg [.int .i64 n_2,.int .i64 n_3,.str s_1,.sl rows_1]]) λv=>kInt .i64 v λn=>bif n != 0 then some (.int .i64 n)else bif qn 1 (c0_3.length:Int)then kOpt (qBg c0_3 1) λrow=>bif qBh (qBe row) 4 then bif qBv 4 (qBe row)then kTmC (qBm 4 row) λn n_4 s rows=>(bif qn 1 (c1_3.length:Int)then kOpt (qBg c1_3 1) λrow=>bif qBh (qBe row) 4 then bif qBv 4 (qBe row)then kTmC (qBm 4 row) λn_5 n_6 s_2 rows_2=>(qko n n_4 s rows n_5 n_6 s_2 rows_2)else none else none else none)else none else none else none)else none else none else none)else none else none else none else zf1 c0_3 c1_3 else zf1 c0_3 c1_3 else bif c0_0==7 then kOpt (EVs (EV cfg) 267 [.int .i64 (c0_3.length:Int),.int .i64 (c1_3.length:Int)]) λv=>zf2 v c0_3 c1_3 else some (.int .i64 0)) P):Gets (qko c0_0 c0_1 c0_2 c0_3 c1_0 c1_1 c1_2 c1_3) P:=
  gE (λ_=>qB (cfg:=cfg) (f:=252) (rd:=none) (bs:=0)) (by kernel_rfl) h
theorem qpr(a:Int):EVs (EV cfg) 277 [.int .i64 a]=some (.bool false):=by
 apply Gets.get;refine qtj _ ?_;simp
theorem qzp(a b:Int):EVs (EV cfg) 267 [.int .i64 a,.int .i64 b]=some (.int .i64 (numC a b)):=by
 apply Gets.get;refine qxz _ _ ?_;rw[qpr,qpr];unfold numC
 by_cases h1:a<b
 ·simp[h1]
 ·by_cases h2:b<a
  ·simp[h1,h2]
  ·simp[h1,h2]
theorem qvN(a b:List UInt8):EVs (EV cfg) 281 [.str a,.str b]=some (.int .i64 (strC a b)):=by
 refine qwq (H:=[]) (qoj ?_);have hx:cfg.ext 281=some qfL:=rfl;unfold yg;simp only[hx];unfold qfL strC
 by_cases h:a=b
 ·simp[h]
 ·simp[h]
theorem quv(a b:List UInt8):EVs (EV cfg) 268 [.str a,.str b]=some (.int .i64 (strC a b)):=by
 have h96:EVs (EV cfg) 278 [.str a,.str b]=some (.int .i64 (strC a b)):=by
  apply Gets.get;refine qtJ _ _ ?_;rw[qvN];simp
 apply Gets.get;refine qvP _ _ ?_;rw[h96];simp
theorem qzb(a b c:Int):EVs (EV cfg) 269 [.sl [[.int .i64 a],[.int .i64 b],[.int .i64 c]]]=some (.int .i64 (if a≠0 then a else if b≠0 then b else c)):=by
 apply Gets.get;refine qyh _ _ _ ?_;have w1:qBf .i64 (0+1)=1:=vq (by omega) (by omega);have w2:qBf .i64 (1+1)=2:=vq (by omega) (by omega);have w3:qBf .i64 (2+1)=3:=vq (by omega) (by omega);have s3:Gets (qfp a b c 3) (·= .int .i64 0):=by
  refine qcB _ _ _ _ ?_;simp
 have s2:Gets (qfp a b c 2) (·= .int .i64 c):=by
  refine qcB _ _ _ _ ?_;rw[w3]
  by_cases h:c=0
  ·subst h;simp;exact s3
  ·simp[bneD,h]
 have s1:Gets (qfp a b c 1) (·= .int .i64 (if b≠0 then b else c)):=by
  refine qcB _ _ _ _ ?_;rw[w2]
  by_cases h:b=0
  ·subst h;simp;exact s2
  ·simp[bneD,h]
 refine qcB _ _ _ _ ?_;rw[w1]
 by_cases h:a=0
 ·subst h;simp only[ne_eq,ite_not]at s1;simp;exact s1
 ·simp[bneD,h]
theorem qzc(a b:Int):EVs (EV cfg) 269 [.sl [[.int .i64 a],[.int .i64 b]]]=some (.int .i64 (if a≠0 then a else b)):=by
 apply Gets.get;refine qyi _ _ ?_;have w1:qBf .i64 (0+1)=1:=vq (by omega) (by omega);have w2:qBf .i64 (1+1)=2:=vq (by omega) (by omega);have s2:Gets (qfo a b 2) (·= .int .i64 0):=by
  refine qdP _ _ _ ?_;simp
 have s1:Gets (qfo a b 1) (·= .int .i64 b):=by
  refine qdP _ _ _ ?_;rw[w2]
  by_cases h:b=0
  ·subst h;simp;exact s2
  ·simp[bneD,h]
 refine qdP _ _ _ ?_;rw[w1]
 by_cases h:a=0
 ·subst h;simp;exact s1
 ·simp[bneD,h]
theorem qjV{β:Type}{l:List β}{i:Nat}{x:β}(h:l[i]? =some x):l.drop i=x::l.drop (i+1):=by
 obtain⟨h1,h2⟩:=qBn.1 h;rw[←h2];exact qBJ h1
theorem qmC{β:Type}{l:List β}{i:Nat}(h:l.length<=i):l.drop i=[]:=qBR h
theorem qvd(la lb:List Tm)(hlen:la.length<1099511627776)(ih:∀a∈la,∀b∈lb,EVs (EV cfg) 252 [a.av,b.av]=some (.int .i64 (cmpT a b))):
  EVs (EV cfg) 279 [.sl (qb la),.sl (qb lb),.fn (.func 252) [] []]=some (.int .i64 (cmpE la lb)):=by
 have loop:∀(d i:Nat),i+d=la.length->Gets (qkl (qb la) (qb lb) i) (·= .int .i64 (cmpE (la.drop i) (lb.drop i))):=by
  intro d
  induction d with
  |zero=>
   intro i hi;refine qiI _ _ _ ?_;rw[qmC (l:=la) (by omega)]
   by_cases h:i<lb.length
   ·obtain⟨y,hy⟩:∃y,lb[i]? =some y:=⟨_,qBk h⟩;rw[qjV hy,qnP];simp[show ¬i<la.length by omega,show la.length<lb.length by omega]
   ·rw[qmC (l:=lb) (by omega),qpT];simp[show ¬i<la.length by omega,show ¬la.length<lb.length by omega]
  |succ d ihd=>
   intro i hi;refine qiI _ _ _ ?_;obtain⟨x,hx⟩:∃x,la[i]? =some x:=⟨_,qBk (by omega)⟩;rw[qjV hx]
   by_cases h:i<lb.length
   ·obtain⟨y,hy⟩:∃y,lb[i]? =some y:=⟨_,qBk h⟩;have hix:=ih x (qBy hx) y (qBy hy);have hih:=ihd (i+1) (by omega);rw[qjV hy,qhX];obtain⟨k,n,s,l⟩:=x;obtain⟨k',n',s',l'⟩:=y;simp only[qI,qBB,qgb hx,qgb hy];simp[show i<la.length by omega,h,show ¬lb.length<=i by omega,hix,bneD]
    by_cases hc:cmpT (.mk k n s l) (.mk k' n' s' l')=0
    ·simp[hc];rw[vn (n:=la.length) (by omega) hlen];exact hih
    ·simp[hc]
   ·rw[qmC (l:=lb) (by omega),qnQ];obtain⟨k,n,s,l⟩:=x;simp only[qI,qBB,qgb hx];simp[show i<la.length by omega,show lb.length<=i by omega]
 apply Gets.get;refine qrn _ _ ?_;exact loop la.length 0 (by omega)
theorem qxe(la lb:List Tm)(hlen:la.length<1099511627776)(ih:∀a∈la,∀b∈lb,EVs (EV cfg) 252 [a.av,b.av]=some (.int .i64 (cmpT a b))):
  EVs (EV cfg) 270 [.sl (qb la),.sl (qb lb)]=some (.int .i64 (cmpE la lb)):=by
 apply Gets.get;refine qkY _ _ ?_;rw[qvd la lb hlen ih];simp
theorem qpM(a:Tm):a.Ok->∀(kb nb:Int) (sb:List UInt8) (lb:List Tm),(Tm.mk kb nb sb lb).Ok->Gets (qko a.kind a.num a.str (qb a.subs) kb nb sb (qb lb)) (·= .int .i64 (cmpT a (.mk kb nb sb lb))):=by
 induction a using Tm.ind with
 |_ k n s l ih=>
  intro hok kb nb sb lb hokb;have ihe:∀a∈l,∀b∈lb,EVs (EV cfg) 252 [a.av,b.av]=some (.int .i64 (cmpT a b)):=by
   intro a ha b hb;have:=ih a ha (hok.sub ha);have hob:=hokb.sub hb;obtain⟨k1,n1,s1,l1⟩:=a;obtain⟨k2,n2,s2,l2⟩:=b;rw[Tm.av_mk,Tm.av_mk];apply Gets.get;exact qht _ _ _ _ _ _ _ _ (this k2 n2 s2 l2 hob)
  have hlists:=qxe l lb hok.len ihe;rw[qyB];refine qqj _ _ _ _ _ _ _ _ ?_;unfold zf1 zf2 zf3 zf4 zf5 zf0;simp only[Tm.kind,Tm.num,Tm.str,Tm.subs,qzp,quv,hlists,qzc,qzb,qe,qc,qi,bneD,beqD]
  by_cases h0:¬numC k kb=0
  ·simp[h0]
  have h0:numC k kb=0:=Classical.not_not.1 h0;simp[h0]
  by_cases h1:k=1
  ·simp[h1]
  by_cases h3:k=3
  ·simp[h3]
  by_cases h4:k=4
  ·simp[h4]
  by_cases h6:k=6
  ·simp[h6]
  by_cases h2:k=2
  ·simp[h2]
  by_cases h5:k=5
  ·simp[h5,cmpL]
  by_cases h9:k=9
  ·subst h9
   by_cases hl:l.length=2
   ·by_cases hl':lb.length=2
    ·obtain⟨x,y,rfl⟩:∃x y,l=[x,y]:=by
      match l,hl with
      |[x,y],_=>exact⟨x,y,rfl⟩
     obtain⟨x',y',rfl⟩:∃x y,lb=[x,y]:=by
      match lb,hl' with
      |[x,y],_=>exact⟨x,y,rfl⟩
     have hx:=ihe x (by simp) x' (by simp);have hy:=ih y (by simp) (hok.sub (by simp));have hoy:=hokb.sub (t:=y') (by simp);have hcl:cmpL [x,y] [x',y']=if cmpT x x'≠0 then cmpT x x' else cmpT y y':=by
      unfold cmpL;rw[qhX,qhX,qpT]
      by_cases e1:cmpT x x'=0<;>by_cases e2:cmpT y y'=0<;>simp[qu3,e1,e2]
     obtain⟨k1,n1,s1,l1⟩:=x;obtain⟨k2,n2,s2,l2⟩:=y;obtain⟨k1',n1',s1',l1'⟩:=x';obtain⟨k2',n2',s2',l2'⟩:=y';have hyy:=hy k2' n2' s2' l2' hoy;simp only[qR,vo,Tm.cells_mk];simp[hcl,hx]
     by_cases hc:cmpT (.mk k1 n1 s1 l1) (.mk k1' n1' s1' l1')=0
     ·simp[hc];exact hyy
     ·simp[hc]
    ·have:¬((lb.length:Int)=2):=by omega
     simp[hl,this,cmpL]
   ·have:¬((l.length:Int)=2):=by omega
    simp[this,cmpL]
  by_cases h7:k=7
  ·simp[h7,cmpL]
  simp[h1,h2,h3,h4,h5,h6,h7,h9]
theorem qtH{a b:Tm}(ha:a.Ok)(hb:b.Ok):EVs (EV cfg) 252 [a.av,b.av]=some (.int .i64 (cmpT a b)):=by
 have:=qpM a ha;obtain⟨k1,n1,s1,l1⟩:=a;obtain⟨k2,n2,s2,l2⟩:=b;rw[Tm.av_mk,Tm.av_mk];apply Gets.get;exact qht _ _ _ _ _ _ _ _ (this k2 n2 s2 l2 hb)
theorem qoB(b:Bool):EVf (EV cfg) 247 [.bool b]=some (xc b).av:=by
 have ha:∀s,EVf (EV cfg) 265 [.str s]=some (symT s).av:=by
  intro s;apply Gets.get;refine qmy _ ?_;rw[qrG];simp
 apply Gets.get;refine qlC _ ?_;unfold ze0;rw[ha,ha];cases b<;>simp[xc,tru,fal]
theorem qmq(e:Env)(b:Bool)(t:Tm):EVm (EV cfg) 249 [.ptr 0 0 0,t.av] 7 (mR e b)=some (.int .i64 t.num,mR e (b||decide (t.kind≠1))):=by
 have hr:=yK e b;apply Gets.get;rw[Tm.av,Tm.cells_eq];refine qxc _ _ _ _ _ _ _ _ _ _ _ ?_;rw[hr,bneD]
 by_cases h:t.kind=1
 ·simp[h]
 ·simp[h]
theorem qai(e:Env)(b:Bool)(t:Tm):EVm (EV cfg) 244 [.ptr 0 0 0,t.av] 7 (mR e b)=some (.bool (decide (t.str=tru)),mR e (b||(vL t).isNone)):=by
 have hr:=yK e b;apply Gets.get;rw[Tm.av,Tm.cells_eq];refine qvb _ _ _ _ _ _ _ _ _ _ _ ?_;unfold ze24;rw[hr,bneD];unfold vL;simp only[beqS,show([116,114,117,101]:List UInt8)=tru from rfl,show([102,97,108,115,101]:List UInt8)=fal from rfl]
 by_cases h:t.kind=2
 ·by_cases h1:t.str=tru
  ·simp[h,h1]
  ·by_cases h2:t.str=fal
   ·simp[h,h1,h2];have:¬fal=tru:=by decide
    simp[this]
   ·simp[h,h1,h2]
 ·simp[h]
theorem qco{t:Tm}{x:Bool}(h:vL t=some x):decide (t.str=tru)=x:=by
 unfold vL at h;split at h
 ·rename_i h1;cases h;exact qB3 h1.2
 ·split at h
  ·rename_i h1;cases h;rw[h1.2];decide
  ·cases h
theorem vM{e:Env}{t:Tm}:Gets (some (t.av,mR e true)) (Res e none):=⟨_,rfl,rfl,t,rfl⟩
theorem vg{e:Env}{t:Tm}:Gets (some (t.av,mR e false)) (Res e (some t)):=⟨_,rfl,rfl⟩
theorem qfv{e:Env}{a b:Tm}(f:Bool->Bool->Bool){o:Option (AV×List (List AV))}(h:o=some ((xc (f (decide (a.str=tru)) (decide (b.str=tru)))).av,mR e (false||(vL a).isNone||(vL b).isNone))):
  Gets o (Res e ((vL a).bind λx=>(vL b).map λy=>xc (f x y))):=by
 subst h;cases ha:vL a with
 |none=>exact vM
 |some x=>
  cases hb:vL b with
  |none=>exact vM
  |some y=>
   rw[qco ha,qco hb];exact vg
theorem qyr(e:Env)(op:List UInt8){a b:Tm}(ha:a.Ok)(hb:b.Ok)(ia:a.kind=1->InB a.num)(ib:b.kind=1->InB b.num)(hp:op=[42]->xo):
  Gets (EVd (EV cfg) 231 [.ptr 0 0 0,.str op,a.av,b.av] 7 (mR e false)) (Res e (twoG op a b)):=by
 have hc:=qtH ha hb;rw[Tm.av,Tm.av,Tm.cells_eq a,Tm.cells_eq b];refine qw9 _ _ _ _ _ _ _ _ _ _ _ _ _ _ _ _ ?_;unfold ze42 ze36 ze37 ze38 ze39 ze40 ze41 ze27 ze28 ze29 ze30 ze31 ze35 ze32 ze33 ze34 ze25 ze26 ze2 ze3;simp only[qJ,hc,qc,qi,qoB,qW,beqS,beqD,bneD];unfold twoG
 by_cases h1:op=[61,61]
 ·rw[qB5 h1,qB3 h1,cond_true];exact vg
 rw[qB6 h1,qB4 h1,cond_false]
 by_cases h2:op=[61,58,61]
 ·rw[qB5 h2,qB3 h2,cond_true];exact vg
 rw[qB6 h2,qB4 h2,cond_false]
 by_cases h3:op=[47,61]
 ·rw[qB5 h3,qB3 h3,cond_true];exact vg
 rw[qB6 h3,qB4 h3,cond_false]
 by_cases h4:op=[61,47,61]
 ·rw[qB5 h4,qB3 h4,cond_true];exact vg
 rw[qB6 h4,qB4 h4,cond_false]
 by_cases h5:op=[60]
 ·rw[qB5 h5,qB3 h5,cond_true];exact vg
 rw[qB6 h5,qB4 h5,cond_false]
 by_cases h6:op=[61,60]
 ·rw[qB5 h6,qB3 h6,cond_true];exact vg
 rw[qB6 h6,qB4 h6,cond_false]
 by_cases h7:op=[62]
 ·rw[qB5 h7,qB3 h7,cond_true];exact vg
 rw[qB6 h7,qB4 h7,cond_false]
 by_cases h8:op=[62,61]
 ·rw[qB5 h8,qB3 h8,cond_true];exact vg
 rw[qB6 h8,qB4 h8,cond_false]
 by_cases h9:op=[97,110,100]
 ·rw[qB5 (Or.inl h9),qB3 h9,cond_true];refine qfv (λx y=>x&&y) ?_;simp only[qai,qc,xG];cases decide (a.str=tru)<;>cases decide (b.str=tru)<;>rfl
 rw[qB4 h9,cond_false]
 by_cases h10:op=[97,110,100,97,108,115,111]
 ·rw[qB5 (Or.inr h10),qB3 h10,cond_true];refine qfv (λx y=>x&&y) ?_;simp only[qai,qc,xG];cases decide (a.str=tru)<;>cases decide (b.str=tru)<;>rfl
 rw[qB6 (λh=>h.elim h9 h10),qB4 h10,cond_false]
 by_cases h11:op=[111,114]
 ·rw[qB5 (Or.inl h11),qB3 h11,cond_true];refine qfv (λx y=>x||y) ?_;simp only[qai,qc,xG];cases decide (a.str=tru)<;>cases decide (b.str=tru)<;>rfl
 rw[qB4 h11,cond_false]
 by_cases h12:op=[111,114,101,108,115,101]
 ·rw[qB5 (Or.inr h12),qB3 h12,cond_true];refine qfv (λx y=>x||y) ?_;simp only[qai,qc,xG];cases decide (a.str=tru)<;>cases decide (b.str=tru)<;>rfl
 rw[qB6 (λh=>h.elim h11 h12),qB4 h12,cond_false]
 by_cases h13:op=[120,111,114]
 ·rw[qB5 h13,qB3 h13,cond_true];refine qfv (λx y=>x != y) ?_;simp only[qai,qc,xG];cases decide (a.str=tru)<;>cases decide (b.str=tru)<;>rfl
 rw[qB6 h13,qB4 h13,cond_false]
 by_cases h14:op=[101,108,101,109,101,110,116]
 ·rw[qB5 h14,qB3 h14,cond_true];simp only[qmq,qc,qhH,yK,qW,qJ]
  by_cases g1:1<=a.num
  ·rw[qB3 (show a.num≥1 from g1),cond_true]
   by_cases g2:b.kind=7
   ·rw[qB3 g2,cond_true]
    by_cases g3:a.num<=b.subs.length
    ·have hl:(a.num - 1).toNat<b.subs.length:=by omega
     obtain⟨j,hj⟩:∃j:Nat,a.num=(j:Int)+1:=⟨(a.num - 1).toNat,by omega⟩;have hjl:j<b.subs.length:=by omega
     have hbl:=hb;have hw:qBf .i64 (a.num - 1)=(j:Int):=by
      have:b.subs.length<1099511627776:=by
       obtain⟨kb,nb,sb,lb⟩:=b;exact hb.len
      rw[vq (by omega) (by omega)];omega
     have hx:b.subs[j]? =some b.subs[j]:=qBk hjl;have e1:(a.num - 1).toNat=j:=by omega
     rw[qe,qB3 g3,cond_true,hw,qZ,vO,qB3 hjl,qaS hx,e1,hx];simp only[Bool.and_true,cond_true,qD,qBL,qBN,qQ,qv,qJ]
     by_cases g0:a.kind=1
     ·rw[qB5 ⟨g0,g1,g2,g3⟩];simp only[g0];exact vg
     ·rw[qB6 (λh=>g0 h.1),qB3 g0];exact vM
    ·rw[qe,qB4 g3,cond_false,qB6 (λh=>g3 h.2.2.2)];exact vM
   ·rw[qB4 g2,cond_false,qB6 (λh=>g2 h.2.2.1)];exact vM
  ·rw[qB4 g1,cond_false,qB6 (λh=>g1 h.2.1)];exact vM
 rw[qB6 h14,qB4 h14,cond_false];simp only[qmq,qc,qhH]
 by_cases ga:a.kind=1
 ·by_cases gb:b.kind=1
  ·rw[qB5 ⟨ga,gb⟩];simp only[ga,gb];exact Gets.bind (qqW e op (ia ga) (ib gb) hp) λr h=>zZ h (qa7 h)
  ·rw[qB6 (λh=>gb h.2),qB3 gb,Bool.or_true,qhz];simp only[qc,qW,qJ];exact vM
 ·rw[qB6 (λh=>ga h.1),qB3 ga,Bool.or_true,Bool.true_or,qhz];simp only[qc,qW,qJ];exact vM
def qAf:Den:=evC cfg (EV cfg) 94 none 1 (sub (qg Tryz.f94) [1,1,1,0,1,0,0])
def qAO:Ex×List AV×AH->Option (AV×List (List AV)):=kAft (Cfg.keepOut cfg 94 6) (kRun cfg (EV cfg) (kfN cfg 6) 94 none 1 (qx1 cfg 1 (Cfg.lift cfg 94 0) Tryz.f94.results.toList) ([.block 0,.seq (sub (qg Tryz.f94) [1,1,1,1])]))
def qzO:List AV×AH->Option (AV×List (List AV)):=λp=>kOpt (LOOP 1 (some [1,2,3,4,18,19,20]) ([]) qAf p) qAO
def qAg:Den:=evC cfg (EV cfg) 40 none 0 (sub (qg Tryz.f40) [1,1,1,0,1,0,0])
def qAP:Ex×List AV×AH->Option AV:=kAft (Cfg.keepOut cfg 40 5) (kRun cfg (EV cfg) (kfN cfg 6) 40 none 0 (qaM cfg (Cfg.lift cfg 40 0) Tryz.f40.results.toList) ([.block 0,.seq (sub (qg Tryz.f40) [1,1,1,1])]))
def qzP:List AV×AH->Option AV:=λp=>kOpt (LOOP 0 (some [1,2,5,6]) ([]) qAg p) qAP
abbrev qks(lt:Rz)(v20 c1_0 c1_1:Int)(c1_2:Bz)(c1_3:Rz)(c2_0 c2_1:Int)(c2_2:Bz)(c2_3 h3:Rz):Option (AV×List (List AV)):=qzO (((fx 35 [(1,.ptr 0 0 0),(2,.ptr 1 0 0),(3,.ptr 2 0 0),(4,.ms 3 0 (qBj (lt.length:Int))),(18,.sl lt),(19,.int .i64 (lt.length:Int)),(20,.int .i64 v20)]):List AV),([.rows false 1 [[.fn (Fn.func 94) [] [.ptr 0 0 0]]],.rows false 4 [[.int .i64 c1_0,.int .i64 c1_1,.str c1_2,.sl c1_3]],.rows false 4 [[.int .i64 c2_0,.int .i64 c2_1,.str c2_2,.sl c2_3]],.rows true 4 h3]:AH))
abbrev qkt(most v5 v6 c0_0 c0_1:Int)(c0_2:Bz)(c0_3:Rz):Option (AV):=qzP (((fx 43 [(1,.int .i64 most),(2,.ptr 0 0 0),(5,.int .i64 v5),(6,.int .i64 v6)]):List AV),([.rows false 4 [[.int .i64 c0_0,.int .i64 c0_1,.str c0_2,.sl c0_3]]]:AH))
theorem qnC(kt nt:Int)(st:Bz)(lt:Rz){P:AV->Prop}(h:Gets (kOpt (EVk (EV cfg) 94 [.agg [.int .i64 kt,.int .i64 nt,.str st,.sl lt],.ptr 0 0 0] 1 [[AV.fn (Fn.func 94) [] [.ptr 0 0 0]]]) λq=>kTmV q λn n_1 s rows=>(some (.agg [.int .i64 n,.int .i64 n_1,.str s,.sl rows]))) P):Gets (EVf (EV cfg) 45 [.agg [.int .i64 kt,.int .i64 nt,.str st,.sl lt]]) P:=
  gE (λ_=>funF rfl rfl Tryz.func45 rfl) (by kernel_rfl) h
theorem qtF(kt nt:Int)(st:Bz)(lt:Rz){P:AV×List (List AV)->Prop}(h:Gets (bif(lt.length:Int)==0 then bif AV.refsLt 0 (.agg [.int .i64 kt,.int .i64 nt,.str st,.sl []])then some (.agg [.int .i64 kt,.int .i64 nt,.str st,.sl []],[[AV.fn (Fn.func 94) [] [.ptr 0 0 0]]])else none else bif qh 0 (lt.length:Int)&&qh (lt.length:Int) (lt.length:Int)&&qh ((↑ (qBe lt):Int)*56) 140737488355328&&qh (lt.length:Int) 9223372036854775807 then qks lt 0 kt nt st lt 0 0 [] [] (qBI (qBj (lt.length:Int)) [.int .i64 0,.int .i64 0,.str [],.nilS])else none) P):Gets (EVx (EV cfg) 94 [.agg [.int .i64 kt,.int .i64 nt,.str st,.sl lt],.ptr 0 0 0] 1 [[(AV.fn (Fn.func 94) [] [AV.ptr 0 0 0])]]) P:=
  gE (λ_=>funX rfl rfl Tryz.func94 rfl) (by kernel_rfl) h
theorem qs6(kt nt:Int)(st:Bz)(lt:Rz)(most:Int){P:AV->Prop}(h:Gets (kOpt (EVs (EV cfg) 40 [.agg [.int .i64 kt,.int .i64 nt,.str st,.sl lt],.int .i64 (qBf .i64 (most+1))]) λv=>kInt .i64 v λn=>some (.bool (decide (n>most)))) P):Gets (EVs (EV cfg) 9 [.agg [.int .i64 kt,.int .i64 nt,.str st,.sl lt],.int .i64 most]) P:=
  gE (λ_=>funS rfl rfl Tryz.func9 rfl) (by kernel_rfl) h
theorem qjf(kt nt:Int)(st:Bz)(lt:Rz)(most:Int){P:AV->Prop}(h:Gets (bif decide ((st.length:Int)>100)then some (.int .i64 most)else bif decide ((lt.length:Int)>most)then some (.int .i64 most)else qkt most 1 0 kt nt st lt) P):Gets (EVs (EV cfg) 40 [.agg [.int .i64 kt,.int .i64 nt,.str st,.sl lt],.int .i64 most]) P:=
  gE (λ_=>funS rfl rfl Tryz.func40 rfl) (by kernel_rfl) h
theorem qiP(lt:Rz)(v20 c1_0 c1_1:Int)(c1_2:Bz)(c1_3:Rz)(c2_0 c2_1:Int)(c2_2:Bz)(c2_3 h3:Rz){P:AV×List (List AV)->Prop}(h:Gets (bif decide (v20<(lt.length:Int))then bif qh 0 v20&&qn v20 (lt.length:Int)then kOpt (qBg lt (v20.toNat)) λrow=>bif qBh (qBe row) 4 then bif qBv 4 (qBe row)then kTmC (qBm 4 row) λn n_1 s rows=>(kOpt (EVk (EV cfg) 94 [.agg [.int .i64 n,.int .i64 n_1,.str s,.sl rows],.ptr 0 0 0] 1 [[AV.fn (Fn.func 94) [] [.ptr 0 0 0]]]) λq=>kTmV q λn n_2 s rows=>(bif qh 0 v20&&qn v20 (↑ (qBj (lt.length:Int)):Int)then kOpt (qBg h3 (0+v20.toNat)) λrow=>bif qBv 4 (qBe row)then qks lt (qBf .i64 (v20+1)) c1_0 c1_1 c1_2 c1_3 c2_0 c2_1 c2_2 c2_3 (List.set h3 (0+v20.toNat) (.int .i64 n:: .int .i64 n_2:: .str s:: .sl rows::qBU 4 row))else none else none))else none else none else none else bif qBv (0+qBj (lt.length:Int)) (qBe h3)&&true then some (.agg [.int .i64 c1_0,.int .i64 c1_1,.str c1_2,.sl (qBm (qBj (lt.length:Int)) h3)],[[AV.fn (Fn.func 94) [] [.ptr 0 0 0]]])else none) P):Gets (qks lt v20 c1_0 c1_1 c1_2 c1_3 c2_0 c2_1 c2_2 c2_3 h3) P:=
  gE (λ_=>qB (cfg:=cfg) (f:=94) (rd:=none) (bs:=1)) (by kernel_rfl) h
theorem qiQ(most v5 v6 c0_0 c0_1:Int)(c0_2:Bz)(c0_3:Rz){P:AV->Prop}(h:Gets (bif decide (v6<(c0_3.length:Int))then bif decide (v5<most)then bif qh 0 v6&&qn v6 (c0_3.length:Int)then kOpt (qBg c0_3 (qBj v6)) λrow=>bif qBh (qBe row) 4 then bif qBv 4 (qBe row)then kTmC (qBm 4 row) λn n_1 s rows=>(kOpt (EVs (EV cfg) 40 [.agg [.int .i64 n,.int .i64 n_1,.str s,.sl rows],.int .i64 (qBf .i64 (most - v5))]) λv=>kInt .i64 v λn=>qkt most (qBf .i64 (v5+n)) (qBf .i64 (v6+1)) c0_0 c0_1 c0_2 c0_3)else none else none else none else some (.int .i64 v5)else some (.int .i64 v5)) P):Gets (qkt most v5 v6 c0_0 c0_1 c0_2 c0_3) P:=
  gE (λ_=>qB (cfg:=cfg) (f:=40) (rd:=none) (bs:=0)) (by kernel_rfl) h
def qcA:List (List AV):=[[AV.fn (Fn.func 94) [] [AV.ptr 0 0 0]]]
theorem qvL(t:Tm):t.Ok->EVx (EV cfg) 94 [t.av,.ptr 0 0 0] 1 qcA=some (t.av,qcA):=by
 induction t using Tm.ind with
 |_ k n s l ih=>
  intro hok;have hlen:=hok.len;have loop:∀(d i:Nat),i+d=l.length->Gets (qks (qb l) i k n s (qb l) 0 0 [] [] (qb (l.take i)++qBI d [.int .i64 0,.int .i64 0,.str [],.nilS])) (·=((Tm.mk k n s l).av,qcA)):=by
   intro d
   induction d with
   |zero=>
    intro i hi;refine qiP _ _ _ _ _ _ _ _ _ _ _ ?_;obtain rfl:i=l.length:=by omega
    have e:l.take l.length=l:=qBt (qBp _);rw[e];simp;rfl
   |succ d ihd=>
    intro i hi;refine qiP _ _ _ _ _ _ _ _ _ _ _ ?_;have hil:i<l.length:=by omega
    have hx:l[i]? =some l[i]:=qBk hil;have hxl:=qBy hx;have hix:=qwr (ih l[i] hxl (hok.sub hxl));have hih:=ihd (i+1) (by omega);have hw:=quh hil hlen;have e1:l.take (i+1)=l.take i++[l[i]]:=by rw[List.take_add_one,hx];rfl
    have ht:(qb (l.take i)).length=i:=by rw[qe,qBW];omega
    have g:(qb (l.take i)++qBI (d+1) [AV.int .i64 0,.int .i64 0,.str [],.nilS])[i]? =some [AV.int .i64 0,.int .i64 0,.str [],.nilS]:=by
     rw[qBz (by omega),ht,Nat.sub_self];rfl
    have g2:(qb (l.take i)++qBI (d+1) [AV.int .i64 0,.int .i64 0,.str [],.nilS]).set i l[i].cells=qb (l.take (i+1))++qBI d [AV.int .i64 0,.int .i64 0,.str [],.nilS]:=by
     rw[List.set_append_right _ _ (by omega),e1,vH,qR,vo];have e3:i - (qb (l.take i)).length=0:=by omega
     rw[e3,List.replicate_succ,List.set_cons_zero,List.append_assoc];rfl
    simp only[qcA]at hix;simp[hil,hx,hix,g,hw];rw[g2]
    simpa using hih
  apply Gets.get;rw[Tm.av_mk];refine qtF _ _ _ _ ?_;rw[qe]
  by_cases hl:l.length=0
  ·have:l=[]:=List.length_eq_zero_iff.1 hl;subst this;simp[qcA,AV.refsLt,qF]
  ·have hl':((l.length:Int)==0)=false:=by rw[beqD];exact qB4 (by omega)
   have h56:qh ((l.length:Int)*56) 140737488355328=true:=by simp[qh];omega
   have hm:qh (l.length:Int) 9223372036854775807=true:=by simp[qh];omega
   have hz:qh 0 (l.length:Int)=true:=qZ _;have hs:qh (l.length:Int) (l.length:Int)=true:=by simp[qh]
   rw[hl',h56,hm,hz,hs];have:=loop l.length 0 (by omega);rw[Tm.av_mk]at this
   simpa using this
theorem qbX{t:Tm}(h:t.Ok):EVf (EV cfg) 45 [t.av]=some t.av:=by
 have h1:=qwr (qvL t h);obtain⟨k,n,s,l⟩:=t;rw[Tm.av_mk]at h1⊢;apply Gets.get;refine qnC _ _ _ _ ?_;simp only[qcA]at h1;rw[h1];simp[←Tm.av_mk]
theorem quZ(op:List UInt8):EVf (EV cfg) 174 [.str op]=some (.sl (vC (opsG op))):=by
 apply Gets.get;refine qnM _ ?_;have h:=qnd (λl=>some (AV.sl (vC l))) op [] qfC;have:Gets (qaK op (some (AV.sl (vC []))) (qfC.map λp=>(p.1,some (AV.sl (vC p.2))))) (·= .sl (vC (opsG op))):=by
  rw[h];exact⟨_,rfl,rfl⟩
 exact this
theorem qxk(l:List Int)(hl:l.length<1099511627776)(n:Int):∀d i:Nat,i+d=l.length->Gets (qkv (vC l) n i) (λv=>∃j:Int,v= .int .i64 j∧(0<=j↔n∈l.drop i)):=by
 intro d
 induction d with
 |zero=>
  intro i hi;refine qiS _ _ _ ?_;rw[zE,qB4 (by omega)];refine⟨_,rfl,-1,rfl,?_⟩;rw[qBR (by omega)];simp
 |succ d ih=>
  intro i hi;have hil:i<l.length:=by omega
  refine qiS _ _ _ ?_;have hx:l[i]? =some l[i]:=qBk hil;have hd:l.drop i=l[i]::l.drop (i+1):=qBJ hil;have h:=ih (i+1) (by omega);rw[zE,qB3 (show(i:Int)<(l.length:Int) by omega),qZ,vO,qB3 hil,qI,qBB,qvv,hx,vn hil hl]
  by_cases he:n=l[i]
  ·refine⟨.int .i64 i,?_,i,rfl,?_⟩
   ·simp[he]
   ·rw[hd,he];exact⟨λ_=>List.mem_cons_self,λ_=>by omega⟩
  ·have hne:(n==l[i])=false:=by rw[beqI];exact qB4 he
   simp[hne];refine Gets.mono (by simpa using h) ?_;rintro _ ⟨j,rfl,hj⟩;exact⟨j,rfl,by rw[hj,hd,qBG];exact⟨Or.inr,λh=>h.resolve_left he⟩⟩
theorem qfi(l:List Int)(hl:l.length<1099511627776)(n:Int):EVs (EV cfg) 172 [.sl (vC l),.int .i64 n]=some (.bool (decide (n∈l))):=by
 obtain⟨_,h1,j,rfl,hj⟩:=qxk l hl n l.length 0 (by omega);have h2:EVs (EV cfg) 211 [.sl (vC l),.int .i64 n]=some (.int .i64 j):=by
  apply Gets.get;exact qto _ _ ⟨_,h1,rfl⟩
 apply Gets.get;refine qnN _ _ ?_;rw[h2];rw[List.drop_zero]at hj;refine⟨_,rfl,?_⟩;show AV.bool (decide (j≥0))=_
 congr 1
 exact decide_eq_decide.2 hj
theorem qrK(n:Int):EVs (EV cfg) 204 [.int .i64 n]=some (.bool (zw n)):=by
 apply Gets.get;refine qmx _ ?_;unfold zw
 by_cases h:1<=n
 ·simp[h]
 ·simp[h]
theorem qo2(op:List UInt8):(opsG op).length<1099511627776:=by
 have:∀(l:List (List UInt8×List Int)),(∀p∈l,p.2.length<=2)->(qaK op [] l).length<=2:=by
  intro l
  induction l with
  |nil=>intro _;simp[qaK]
  |cons p l ih=>
   intro h;rw[qaK];cases op==p.1
   ·exact ih λq hq=>h q (by simp[hq])
   ·exact h p (by simp)
 have:=this qfC (by decide);unfold opsG;omega
theorem qzx{V:List Int}{l:List Tm}(hlen:l.length<1099511627776)(ih:∀x∈l,EVs (EV cfg) 112 [x.av,.sl (vC V)]=some (.bool (isG V x))):
  EVs (EV cfg) 173 [.sl (qb l),.sl (vC V)]=some (.bool (allG V l)):=by
 have hin:∀x∈l,EVs (EV cfg) 213 [x.av,.cptr [.sl (vC V)] 0]=some (.bool (!isG V x)):=by
  intro x hx;have h:=ih x hx;apply Gets.get;rw[Tm.av,Tm.cells_eq]at h⊢;refine qv2 _ _ _ _ _ ?_;rw[h];exact⟨_,rfl,rfl⟩
 have loop:∀d i:Nat,i+d=l.length->Gets (qke (qb l) (vC V) i) (λv=>∃j:Int,v= .int .i64 j∧(0<=j↔allG V (l.drop i)=false)):=by
  intro d
  induction d with
  |zero=>
   intro i hi;refine qiC _ _ _ ?_;rw[qe,qB4 (by omega)];refine⟨_,rfl,-1,rfl,?_⟩;rw[qBR (by omega)];simp[allG]
  |succ d ihd=>
   intro i hi;have hil:i<l.length:=by omega
   refine qiC _ _ _ ?_;have hx:l[i]? =some l[i]:=qBk hil;have hd:l.drop i=l[i]::l.drop (i+1):=qBJ hil;have h1:=hin l[i] (qBy hx);have h2:=ihd (i+1) (by omega);rw[qe,qB3 (show(i:Int)<(l.length:Int) by omega),qZ,vO,qB3 hil,qaS hx,vn hil hlen];simp only[cond_true,qBw,qD,qBL,qQ,qv,show qBv 4 4=true from rfl,qJ,h1,qc,qd]
   cases hg:isG V l[i]with
   |false=>
    refine⟨_,rfl,i,rfl,?_⟩;rw[hd,allG,hg];exact⟨λ_=>rfl,λ_=>by omega⟩
   |true=>
    refine h2.mono ?_;rintro _ ⟨j,rfl,hj⟩;refine⟨j,rfl,?_⟩;rw[hd,allG,hg,qBV];exact hj
 obtain⟨_,h1,j,rfl,hj⟩:=loop l.length 0 (by omega);rw[List.drop_zero]at hj;have h2:EVs (EV cfg) 236 [.sl (qb l),.fn (.func 213) [] [.cptr [.sl (vC V)] 0]]=some (.int .i64 j):=by
  apply Gets.get;exact qrb _ _ ⟨_,h1,rfl⟩
 have h3:EVs (EV cfg) 212 [.sl (qb l),.fn (.func 213) [] [.cptr [.sl (vC V)] 0]]=some (.bool (decide (j≥0))):=by
  apply Gets.get;refine qpL _ _ ?_;rw[h2];exact⟨_,rfl,rfl⟩
 apply Gets.get;refine qpx _ _ ?_;rw[h3];refine⟨_,rfl,?_⟩;show AV.bool (!decide (j≥0))=_
 congr 1
 cases ha:allG V l with
 |false=>rw[qB3 (hj.2 ha)];rfl
 |true=>
  have:¬j≥0:=λh=>by have:=hj.1 h;rw[ha]at this;cases this
  rw[qB4 this];rfl
theorem qA9{V:List Int}(hV:V.length<1099511627776):∀(n:Nat) (t:Tm),t.w<=n->n<1099511627776->EVs (EV cfg) 112 [t.av,.sl (vC V)]=some (.bool (isG V t)):=by
 intro n
 induction n with
 |zero=>intro t h;have:=xK t;omega
 |succ n ih=>
  intro t hw hn;have hwe:=t.w_eq;have hwl:=qat t.subs;have allOf:∀l:List Tm,wL l<=n->EVs (EV cfg) 173 [.sl (qb l),.sl (vC V)]=some (.bool (allG V l)):=λl hl=>
   qzx (by have:=qat l;omega) λx hx=>ih x (by have:=xW hx;omega) (by omega)
  have hvar:=qc2 (t:=t) (by omega);have hsub:=allOf t.subs (by omega);apply Gets.get;rw[Tm.av,Tm.cells_eq]at hvar⊢;refine qrd _ _ _ _ _ ?_;rw[hvar,hsub];simp only[beqI,qc,qd]
  by_cases h2:t.kind=2
  ·rw[qB3 h2,cond_true,qee h2];simp only[varR,kTup,qa,qi,qd,kNil];cases hv:varT t with
   |none=>exact⟨_,rfl,rfl⟩
   |some x=>
    have hc:=qfi V hV x;simp only[Option.getD_some,Option.isSome_some,qB1,cond_false];rw[hc];exact⟨_,rfl,rfl⟩
  ·rw[qB4 h2,cond_false]
   by_cases h9:t.kind=9
   ·rw[qB3 h9,cond_true,qed h9];exact⟨_,rfl,rfl⟩
   ·rw[qB4 h9,cond_false]
    by_cases h7:t.kind=7
    ·rw[qB3 h7,cond_true];cases hl:t.subs with
     |nil=>rw[qdK h7 hl];exact⟨_,rfl,rfl⟩
     |cons f r=>
      rw[qdJ h7 hl];rw[hl]at hwl hwe;rw[qE]at hwe;have hfw:=f.w_eq;have hfs:=allOf f.subs (by omega);have hr:=allOf r (by omega);have c0:(decide (((qb (f::r)).length:Int)=0))=false:=by rw[qe];exact qB4 (by simp;omega)
      have c1:qn 0 ((qb (f::r)).length:Int)=true:=by rw[qe];exact qB3 (by simp)
      have c2:qh 1 ((qb (f::r)).length:Int)=true:=by rw[qe];exact qB3 (by simp;omega)
      have g0:(qb (f::r))[(0:Int).toNat]? =some f.cells:=by rw[qR];rfl
      have tk:qBm ((qb (f::r)).length - 1) (qBU 1 (qb (f::r)))=qb r:=by
       rw[qR,List.drop_succ_cons,List.drop_zero,qBK,Nat.add_sub_cancel,qBS]
      have g0':(qb (f::r))[0]? =some f.cells:=g0;rw[c0,c1,c2,tk];simp only[cond_false,cond_true,qI,g0,g0',qc,qD,qBL,show qBv 4 4=true from rfl,qQ,qv,qb5,qe,beqS]
      by_cases f7:f.kind=7
      ·rw[qB5 f7,qB3 f7,cond_true,hfs]
       by_cases hrl:r.length=0
       ·have:decide ((r.length:Int)=0)=true:=qB3 (by omega);rw[this,qB3 hrl];exact⟨_,rfl,rfl⟩
       ·have:decide ((r.length:Int)=0)=false:=qB4 (by omega);rw[this,qB4 hrl];exact⟨_,rfl,rfl⟩
      ·rw[qB6 f7,qB4 f7,cond_false]
       by_cases f2:f.kind=2
       ·have:(f.kind != 2)=false:=by rw[f2];rfl
        rw[qB5 f2,this,cond_false]
        by_cases hc:f.str=[99,111,110,115,116]
        ·rw[qB5 hc,qB3 hc];refine⟨_,rfl,?_⟩;show AV.bool (decide ((r.length:Int)=1))=_
         congr 1
         exact decide_eq_decide.2 (by omega)
        ·rw[qB6 hc,qB4 hc,cond_false,quZ];have hcn:=qfi (opsG f.str) (qo2 f.str) (r.length:Int);simp only[qc,q4,hcn,qd,hr];cases decide ((r.length:Int)∈opsG f.str)<;>exact⟨_,rfl,rfl⟩
       ·have:(f.kind != 2)=true:=by simpa using f2
        rw[qB6 f2,this];exact⟨_,rfl,rfl⟩
    ·rw[qB4 h7,qnk h2 h9 h7];exact⟨_,rfl,rfl⟩
theorem qdh{V:List Int}(hV:V.length<1099511627776){t:Tm}(h:t.w<1099511627776):EVs (EV cfg) 62 [t.av,.sl (vC V)]=some (.int .i64 (xm V t)):=by
 have hc:=qao h;have hi:=qA9 hV t.w t (qBp _) h;apply Gets.get;rw[Tm.av,Tm.cells_eq]at hc hi⊢;refine qmz _ _ _ _ _ ?_;rw[hc,hi];unfold xm;simp only[qc,qi,qd]
 by_cases h0:t.chk=0
 ·have:(t.chk != 0)=false:=by rw[h0];rfl
  rw[this,qB5 h0];cases isG V t<;>exact⟨_,rfl,rfl⟩
 ·have:(t.chk != 0)=true:=by simpa using h0
  rw[this,qB6 h0];exact⟨_,rfl,rfl⟩
def qzV:Den:=evC cfg (EV cfg) 276 none 6 (sub (qg Tryz.f276) [0,0])
def qAu:Ex×List AV×AH->Option (AV×List (List AV)):=kAft (Cfg.keepOut cfg 276 (qk (sub (qg Tryz.f276) [0,0]))) (vP 0 (xO cfg (Cfg.lift cfg 276 0) (fun(v:AV) (H:AH)=>(fun(r:AV×AH)=>ym 1 5 (fx 37 [(0,AV.ptr 0 0 0),(5,AV.ptr 1 0 0),(6,AV.ptr 2 0 0),(7,AV.ptr 3 0 0)]) (vP 0 (kSeq (fun(fr:List AV) (H:AH)=>xa (Cfg.cut cfg 251 (qk (sub (qg Tryz.f251) [1,0,1,0,0,1,1,1]))) fr H fun(fr:List AV) (H:AH)=>vh cfg (EV cfg) (kfN cfg 6) 251 none 1 (sub (qg Tryz.f251) [1,0,1,0,0,1,1,1]) fr H (qfH (kSeq (fun(fr:List AV) (H:AH)=>xa (Cfg.cut cfg 251 (qk (sub (qg Tryz.f251) [1,1]))) fr H fun(fr:List AV) (H:AH)=>vh cfg (EV cfg) (kfN cfg 6) 251 none 1 (sub (qg Tryz.f251) [1,1]) fr H (qcg cfg 7 (Cfg.lift cfg 251 0) (qBM (Func.results Tryz.f251)))) (qcg cfg 7 (Cfg.lift cfg 251 0) (qBM (Func.results Tryz.f251)))))) (qfH (kSeq (fun(fr:List AV) (H:AH)=>xa (Cfg.cut cfg 251 (qk (sub (qg Tryz.f251) [1,1]))) fr H fun(fr:List AV) (H:AH)=>vh cfg (EV cfg) (kfN cfg 6) 251 none 1 (sub (qg Tryz.f251) [1,1]) fr H (qcg cfg 7 (Cfg.lift cfg 251 0) (qBM (Func.results Tryz.f251)))) (qcg cfg 7 (Cfg.lift cfg 251 0) (qBM (Func.results Tryz.f251))))))) (Prod.snd r)) (v,H)) (qBM (Func.results (Prod.snd (276,Tryz.f276))))))
def qzz:List AV×AH->Option (AV×List (List AV)):=fun(p:List AV×AH)=>kOpt (LOOP 6 (some [0,1]) [] qzV p) qAu
abbrev qkd(h0:Rz)(c1_0 c1_1:Int)(c1_2:Bz)(c1_3:Rz)(c2_0 c2_1:Int)(c2_2:Bz)(c2_3:Rz)(c3_0:Int):Option (AV×List (List AV)):=qzz (((fx 25 [(0,.yld 5),(1,.ptr 4 0 0)]):List AV),([.rows true 7 h0,.rows false 4 [[.int .i64 c1_0,.int .i64 c1_1,.str c1_2,.sl c1_3]],.rows false 4 [[.int .i64 c2_0,.int .i64 c2_1,.str c2_2,.sl c2_3]],.rows false 1 [[.int .i64 c3_0]],.rows false 1 [[.ptr 1 0 0]],rngB Tryz.f251 251 [1,0,1,0,0,1,1,0,1,0] (fx 37 [(7,.ptr 3 0 0)]) none LoopState.ready]:AH))
abbrev zh0(q:AV×List (List AV)):Option (AV×List (List AV)):=kTmV q.1 λn n_1 s rows=>(some (.agg [.int .i64 n,.int .i64 n_1,.str s,.sl rows],q.2))
abbrev zh1(row:List AV)(ke ne:Int)(se:Bz)(le bd:Rz)(self:Int)(bad:Bool):Option (AV×List (List AV)):=bif qBh (qBe row) 4 then bif qBv 4 (qBe row)then kTmC (qBm 4 row) λn n_1 s rows=>(some (.agg [.int .i64 n,.int .i64 n_1,.str s,.sl rows],[[AV.int .i64 ke,.int .i64 ne,.str se,.sl le,.sl bd,.int .i64 self,.bool bad]]))else none else none
theorem qu9(ke ne:Int)(se:Bz)(le bd:Rz)(self:Int)(bad:Bool)(op:Bz)(kt nt:Int)(st:Bz)(lt:Rz){P:AV×List (List AV)->Prop}(h:Gets (bif op==[(108:UInt8),(101:UInt8),(110:UInt8),(103:UInt8),(116:UInt8),(104:UInt8)]then qkd [[AV.int .i64 ke,.int .i64 ne,.str se,.sl le,.sl bd,.int .i64 self,.bool bad]] kt nt st lt 0 0 [] [] 0 else bif kt != 9 then kOpt (EVd (EV cfg) 250 [.ptr 0 0 0] 7 [[AV.int .i64 ke,.int .i64 ne,.str se,.sl le,.sl bd,.int .i64 self,.bool bad]]) λq=>zh0 q else bif op==[(104:UInt8),(100:UInt8)]then bif qn 0 (lt.length:Int)then kOpt (qBg lt 0) λrow=>zh1 row ke ne se le bd self bad else none else bif qn 1 (↑ (qBe lt):Int)then kOpt (qBg lt 1) λrow=>zh1 row ke ne se le bd self bad else none) P):Gets (EVd (EV cfg) 251 [.ptr 0 0 0,.str op,.agg [.int .i64 kt,.int .i64 nt,.str st,.sl lt]] 7 [[AV.int .i64 ke,AV.int .i64 ne,AV.str se,AV.sl le,AV.sl bd,AV.int .i64 self,AV.bool bad]]) P:=
  gE (λ_=>funD rfl rfl Tryz.func251 rfl) (by kernel_rfl) h
theorem qu5(a b:Int){P:AV->Prop}(h:Gets (kOpt (qU (Op.intBits BinOp.and .u64 a 4294967295)) λv=>kInt .u64 v λn=>kOpt (qU (Op.shift BinOp.shr .u64 a .u64 32)) λv=>kInt .u64 v λn_1=>kOpt (qU (Op.intBits BinOp.and .u64 b 4294967295)) λv=>kInt .u64 v λn_2=>kOpt (qU (Op.shift BinOp.shr .u64 b .u64 32)) λv=>kInt .u64 v λn_3=>kOpt (qU (Op.shift BinOp.shr .u64 (qBf .u64 (n*n_2)) .u64 32)) λv=>kInt .u64 v λn_4=>kOpt (qU (Op.intBits BinOp.and .u64 (qBf .u64 (qBf .u64 (n_1*n_2)+n_4)) 4294967295)) λv=>kInt .u64 v λn_5=>kOpt (qU (Op.shift BinOp.shr .u64 (qBf .u64 (qBf .u64 (n_1*n_2)+n_4)) .u64 32)) λv=>kInt .u64 v λn_6=>kOpt (qU (Op.shift BinOp.shr .u64 (qBf .u64 (n_5+qBf .u64 (n*n_3))) .u64 32)) λv=>kInt .u64 v λn=>some (AV.tup [AV.int .u64 (qBf .u64 (qBf .u64 (qBf .u64 (n_1*n_3)+n_6)+n)),.int .u64 (qBf .u64 (a*b))])) P):Gets (EVs (EV cfg) 280 [.int .u64 a,.int .u64 b]) P:=
  gE (λ_=>funS rfl rfl Tryz.func280 rfl) (by kernel_rfl) h
theorem qqh(h0:Rz)(c1_0 c1_1:Int)(c1_2:Bz)(c1_3:Rz)(c2_0 c2_1:Int)(c2_2:Bz)(c2_3:Rz)(c3_0:Int){P:AV×List (List AV)->Prop}(h:Gets (bif c1_0==9 then bif qn 0 (c1_3.length:Int)then kOpt (qBg c1_3 0) λrow=>bif qBh (qBe row) 4 then bif qBv 4 (qBe row)then kTmC (qBm 4 row) λn n s rows=>(bif qn 1 (c1_3.length:Int)then kOpt (qBg c1_3 1) λrow=>bif qBh (qBe row) 4 then bif qBv 4 (qBe row)then kTmC (qBm 4 row) λn n_1 s rows=>(qkd h0 n n_1 s rows c2_0 c2_1 c2_2 c2_3 (qBf .i64 (c3_0+1)))else none else none else none)else none else none else none else bif c1_0 != 8 then kOpt (EVd (EV cfg) 250 [.ptr 0 0 0] 7 h0) λq=>zh0 q else kOpt (EVd (EV cfg) 248 [.ptr 0 0 0,.int .i64 c3_0] 7 h0) λq=>zh0 q) P):Gets (qkd h0 c1_0 c1_1 c1_2 c1_3 c2_0 c2_1 c2_2 c2_3 c3_0) P:=
  gE (λ_=>qB (cfg:=cfg) (f:=276) (rd:=none) (bs:=6)) (by kernel_rfl) h
end Go.Proofs.YtafdkafbgohigaaGreat
end
noncomputable section
namespace Go.Av
theorem qx9{n:Int}(h1: -9223372036854775808<=n)(h2:n<9223372036854775808):qU (Op.intBits .xor .i64 (-1) n)=some (.int .i64 (-1 - n)):=by
 have:qU (Op.intBits .xor .i64 (-1) n)=some (.int .i64 (qBf .i64 (BitVec.ofInt 64 (-1) ^^^ BitVec.ofInt 64 n).toNat)):=rfl;rw[this,qdm];have e:BitVec.ofInt 64 (-1) ^^^ BitVec.ofInt 64 n= ~~~(BitVec.ofInt 64 n):=by
  rw[show BitVec.ofInt 64 (-1)=BitVec.allOnes 64 from by decide,BitVec.allOnes_xor]
 have en:n=(BitVec.ofInt 64 n).toInt:=by rw[BitVec.toInt_ofInt,Int.bmod_eq_of_le (by omega) (by omega)]
 have hn:=BitVec.toNat_not (x:=BitVec.ofInt 64 n);rw[e]
 congr 2
 rw[BitVec.toInt_eq_toNat_cond]at en⊢;have hl:=(BitVec.ofInt 64 n).isLt;rw[hn];generalize (BitVec.ofInt 64 n).toNat=U at *;split at en<;>split<;>omega
theorem qdA(x:Tm)(l:List Tm):qBg (qb (x::l)) 0=some x.cells:=by rw[qI,qR];rfl
theorem qcO(x y:Tm)(l:List Tm):qBg (qb (x::y::l)) 1=some y.cells:=by rw[qI,qR,qR];rfl
theorem qx5(x y z:Tm)(l:List Tm):qBg (qb (x::y::z::l)) 2=some z.cells:=by rw[qI,qR,qR,qR];rfl
theorem lt0T(x:Tm)(l:List Tm):qn 0 ((qb (x::l)).length:Int)=true:=by rw[qe];exact qB3 (by simp)
theorem lt1T(x y:Tm)(l:List Tm):qn 1 ((qb (x::y::l)).length:Int)=true:=by rw[qe];exact qB3 (by simp;omega)
theorem lt2T(x y z:Tm)(l:List Tm):qn 2 ((qb (x::y::z::l)).length:Int)=true:=by rw[qe];exact qB3 (by simp;omega)
theorem yh:qBv 4 4=true:=rfl
theorem qrP{t:Tm}(h:t.chk=0): -576460752303423488<=t.num∧t.num<=576460752303423487:=by
 obtain⟨h1,_⟩:=zl.1 h;rw[Tm.parts_eq,qBi]at h1;have h2:yH t.kind t.num t.str t.subs.length=true:=h1.1;generalize t.kind=k at h2;generalize t.num=n at *;unfold yH at h2
 repeat' split at h2
 all_goals simp at h2
 all_goals omega
theorem qd6{t:Tm}(h:t.chk=0):t.Ok:=qbR t (by have:=xx h;omega)
theorem qrY{t:Tm}(h:t.chk=0):t.kind=1->InB t.num:=λ_=>qrP h
end Go.Av
namespace Go.Proofs.YtafdkafbgohigaaGreat
open Go.Av
theorem qym(e:Env)(n:Int):∃t:Tm,EVd (EV cfg) 248 [.ptr 0 0 0,.int .i64 n] 7 (mR e true)=some (t.av,mR e true):=by
 rw[qla]
 by_cases h:InB n
 ·exact⟨numT n,by rw[qB5 h]⟩
 ·exact⟨q9,by rw[qB6 h]⟩
theorem qir{e:Env}{b:Bool}{n:Int}{k:Int}:Gets (kOpt (EVd (EV cfg) 248 [.ptr 0 0 0,.int .i64 n] 7 (mR e (false||decide (k≠1)))) λq=>kTmV q.1 fun(n n_1:Int) (s:List UInt8) (rows:List (List AV))=>some (AV.agg [.int .i64 n,.int .i64 n_1,.str s,.sl rows],q.2)) (Res e (if k=1 then vj n else none)):=by
 by_cases h:k=1
 ·rw[qB5 h,qB4 (by simpa using h)];exact Gets.bind (qaa e n λr h1 h2=>h1) λr h=>zZ h (qa7 h)
 ·rw[qB6 h,qB3 (by simpa using h)];obtain⟨t,ht⟩:=qym e n;rw[Bool.or_true,ht];simp only[qc,qW,qJ];exact vM
theorem qyu(e:Env){a b:Int}{s:List UInt8}{r:List (List AV)}:∀(n:Nat) (t:Tm) (c:Nat),t.w<=n->t.chk=0->c+n<1099511627776 ->
  Gets (qkd (mR e false) t.kind t.num t.str (qb t.subs) a b s r c) (Res e ((lenG t).bind λm=>vj ((c+m:Nat):Int))):=by
 intro n
 induction n with
 |zero=>intro t _ h;have:=xK t;omega
 |succ n ih=>
  intro t c hw hc hn;refine qqh _ _ _ _ _ _ _ _ _ _ ?_;unfold zh0
  by_cases h9:t.kind=9
  ·obtain⟨x,y,hs⟩:=zM hc h9;have hwe:=t.w_eq;rw[hs]at hwe;simp only[qE,xy]at hwe;have h:=ih y (c+1) (by omega) (vA hc (by rw[hs];simp)) (by omega);rw[qvi h9 hs,hs,beqI,qB3 h9];simp only[cond_true,lt0T,lt1T,qdA,qcO,qc,qD,qBL,yh,qQ,qv,vn (show c<c+1 by omega) (by omega)];have e1:((lenG y).map (·+1)).bind (λm=>vj ((c+m:Nat):Int))=(lenG y).bind λm=>vj ((c+1+m:Nat):Int):=by
    cases lenG y with
    |none=>rw[Option.map_none,Option.bind_none,Option.bind_none]
    |some m=>rw[qBD,qBs,qBs,show c+(m+1)=c+1+m by omega]
   rw[e1];exact h
  ·rw[beqI,qB4 h9,cond_false]
   by_cases h8:t.kind=8
   ·have:(t.kind != 8)=false:=by rw[h8];rfl
    have e0:((some 0).bind λm=>vj ((c+m:Nat):Int))=vj c:=by rw[qBs,Nat.add_zero]
    rw[this,qxf h8,e0];exact Gets.bind (qaa e c λr h1 h2=>h1) λr h=>zZ h (qa7 h)
   ·have:(t.kind != 8)=true:=by simpa using h8
    rw[this,qvh h9 h8,yK];simp only[cond_true,qc,qW,qJ];exact vM
def qmr(op:List UInt8)(t:Tm):Option Tm:=
 if op=[108,101,110,103,116,104]then(lenG t).bind λn=>vj n
 else if t.kind=9 then(if op=[104,100]then t.subs[0]? else t.subs[1]?)
 else none
theorem qxb(e:Env)(op:List UInt8){t:Tm}(hc:t.chk=0):Gets (EVd (EV cfg) 251 [.ptr 0 0 0,.str op,t.av] 7 (mR e false)) (Res e (qmr op t)):=by
 rw[Tm.av,Tm.cells_eq];refine qu9 _ _ _ _ _ _ _ _ _ _ _ _ ?_;unfold zh1 zh0;have hw:=xx hc;unfold qmr;rw[beqS]
 by_cases h1:op=[108,101,110,103,116,104]
 ·rw[qB5 h1,qB3 h1,cond_true];have h:=qyu e (a:=0) (b:=0) (s:=[]) (r:=[]) t.w t 0 (qBp _) hc (by omega)
  simpa using h
 ·rw[qB6 h1,qB4 h1,cond_false]
  by_cases h9:t.kind=9
  ·obtain⟨x,y,hs⟩:=zM hc h9;have:(t.kind != 9)=false:=by rw[h9];rfl
   rw[this,qB5 h9,hs,beqS];simp only[cond_false,lt0T,lt1T,qdA,qcO,qc,qD,qBL,yh,qQ,qv,cond_true,qJ]
   by_cases h2:op=[104,100]
   ·rw[qB5 h2,qB3 h2];exact vg
   ·rw[qB6 h2,qB4 h2];exact vg
  ·have:(t.kind != 9)=true:=by simpa using h9
   rw[this,qB6 h9,yK];simp only[cond_true,qc,qW,qJ];exact vM
theorem qu1{op:List UInt8}{t:Tm}:(if op=[108,101,110,103,116,104]then(lenG t).bind λn=>vj n else if t.kind=9 then(if op=[104,100]then t.subs[0]? else t.subs[1]?)else none)=qmr op t:=rfl
theorem qys(e:Env)(op:List UInt8){t:Tm}(hc:t.chk=0):Gets (EVd (EV cfg) 230 [.ptr 0 0 0,.str op,t.av] 7 (mR e false)) (Res e (oneG op t)):=by
 have hl:=qxb e op hc;have hn:=qrP hc;have hs:=qbI hc;have w1:qBf .i64 (0 - t.num)= -t.num:=by rw[vq (by omega) (by omega)];omega
 rw[Tm.av,Tm.cells_eq]at hl⊢;refine qxa _ _ _ _ _ _ _ _ _ _ _ _ ?_;unfold ze44 ze45 ze43 ze33 ze34 ze25 ze26 ze1 ze2 ze3;simp only[qJ,qoB,qc,qW,beqS,beqI,w1,yK,qai,qmq,xG,qhH,qx9 (show -9223372036854775808<=t.num by omega) (by omega),qi];rw[qJ]at hl;unfold oneG
 by_cases h1:op=[105,115,95,97,116,111,109]
 ·rw[qB5 h1,qB3 h1,cond_true];exact vg
 rw[qB6 h1,qB4 h1,cond_false]
 by_cases h2:op=[105,115,95,105,110,116,101,103,101,114]
 ·rw[qB5 h2,qB3 h2,cond_true];exact vg
 rw[qB6 h2,qB4 h2,cond_false]
 by_cases h3:op=[105,115,95,108,105,115,116]
 ·rw[qB5 h3,qB3 h3,cond_true];cases decide (t.kind=9)
  ·exact vg
  ·exact vg
 rw[qB6 h3,qB4 h3,cond_false]
 by_cases h4:op=[105,115,95,116,117,112,108,101]
 ·rw[qB5 h4,qB3 h4,cond_true];exact vg
 rw[qB6 h4,qB4 h4,cond_false]
 by_cases h5:op=[105,115,95,112,105,100]
 ·rw[qB5 h5,qB3 h5,cond_true];exact vg
 rw[qB6 h5,qB4 h5,cond_false]
 by_cases h6:op=[105,115,95,102,117,110,99,116,105,111,110]
 ·rw[qB5 h6,qB3 h6,cond_true];exact vg
 rw[qB6 h6,qB4 h6,cond_false]
 by_cases h7:op=[105,115,95,114,101,102,101,114,101,110,99,101]
 ·rw[qB5 h7,qB3 h7,cond_true];cases decide (t.kind=3)
  ·exact vg
  ·exact vg
 rw[qB6 h7,qB4 h7,cond_false]
 by_cases h8:op=[110,111,116]
 ·rw[qB5 h8,qB3 h8,cond_true];cases hb:vL t with
  |none=>exact vM
  |some x=>rw[qco hb];exact vg
 rw[qB6 h8,qB4 h8,cond_false]
 by_cases h9:op=[98,110,111,116]
 ·rw[qB5 h9,qB3 h9,cond_true];exact qir (b:=false)
 rw[qB6 h9,qB4 h9,cond_false]
 by_cases h10:op=[43]
 ·rw[qB5 h10,qB3 h10,cond_true];exact qir (b:=false)
 rw[qB6 h10,qB4 h10,cond_false]
 by_cases h11:op=[45]
 ·rw[qB5 h11,qB3 h11,cond_true];exact qir (b:=false)
 rw[qB6 h11,qB4 h11,cond_false]
 by_cases h12:op=[97,98,115]
 ·rw[qB5 h12,qB3 h12,cond_true];have e1:(if decide (t.num< -t.num)=true then -t.num else t.num)=if t.num<0 then -t.num else t.num:=by
   by_cases h:t.num<0
   ·rw[qB5 h,qB5 (qB3 (by omega))]
   ·rw[qB6 h,qB6 (by rw[qB4 (by omega)];simp)]
  rw[e1];exact qir (b:=false)
 rw[qB6 h12,qB4 h12,cond_false];have tup:Gets (bif t.kind != 7 then some (q9.av,mR e true)else kOpt (EVd (EV cfg) 248 [.ptr 0 0 0,.int .i64 ((qb t.subs).length:Int)] 7 (mR e false)) λq=>kTmV q.1 fun(n n_1:Int) (s:List UInt8) (rows:List (List AV))=>some (AV.agg [.int .i64 n,.int .i64 n_1,.str s,.sl rows],q.2)) (Res e (if t.kind=7 then vj t.subs.length else none)):=by
  by_cases h:t.kind=7
  ·have:(t.kind != 7)=false:=by rw[h];rfl
   rw[this,qB5 h,cond_false,qe];exact Gets.bind (qaa e _ λr h1 h2=>h1) λr h=>zZ h (qa7 h)
  ·have:(t.kind != 7)=true:=by simpa using h
   rw[this,qB6 h,cond_true];exact vM
 by_cases h13:op=[116,117,112,108,101,95,115,105,122,101]
 ·rw[qB5 h13,qB3 h13,cond_true];exact tup
 rw[qB6 h13,qB4 h13,cond_false]
 by_cases h14:op=[115,105,122,101]
 ·rw[qB5 h14,qB3 h14,cond_true];exact tup
 rw[qB6 h14,qB4 h14,cond_false,qu1];exact Gets.bind hl λr h=>zZ h (qa7 h)
theorem qnc(e:Env)(op:List UInt8){l:List Tm}(hl:∀x∈l,x.chk=0)(hlen:l.length<=2)(hp:op=[42]->xo):
  Gets (EVd (EV cfg) 205 [.ptr 0 0 0,.str op,.sl (qb l)] 7 (mR e false)) (Res e (zm op l e.self)):=by
 refine qs1 _ _ _ _ _ _ _ _ _ ?_
 match l,hl,hlen with
 |[],_,_=>
  simp only[qe,List.length_nil];refine⟨_,rfl,?_⟩;show _=(Tm.av _,mR e false);rw[Tm.av_mk,vo]
 |[a],hl,_=>
  have h1:=qys e op (hl a (by simp));have c1:((((qb [a]).length:Nat):Int)==1)=true:=by rw[qe];rfl
  rw[c1];simp only[cond_true,lt0T,qdA,qc,qD,qBL,yh,qQ,qv,qJ];exact Gets.bind h1 λr h=>zZ h (qa7 h)
 |[a,b],hl,_=>
  have ha:=hl a (by simp);have hb:=hl b (by simp);have h1:=qyr e op (qd6 ha) (qd6 hb) (qrY ha) (qrY hb) hp;have c1:((((qb [a,b]).length:Nat):Int)==1)=false:=by rw[qe];rfl
  have c2:((((qb [a,b]).length:Nat):Int)==2)=true:=by rw[qe];rfl
  rw[c1,c2];simp only[cond_true,cond_false,lt0T,lt1T,qdA,qcO,qc,qD,qBL,yh,qQ,qv,qJ];exact Gets.bind h1 λr h=>zZ h (qa7 h)
 |_::_::_::_,_,h=>simp at h
end Go.Proofs.YtafdkafbgohigaaGreat
end
noncomputable section
namespace Go.Av
def qin(x e:Tm):Tm:=.mk 9 0 [] [x,e]
def qbf(l:List Tm)(e:Tm):Tm:=l.foldr qin e
end Go.Av
namespace Go.Proofs.YtafdkafbgohigaaGreat
open Go.Av
theorem qja{l:List Tm}(hlen:l.length<1099511627776)(e:Tm):EVf (EV cfg) 153 [.sl (qb l),e.av]=some (qbf l e).av:=by
 have loop:∀(j:Nat) (a:Tm),j<=l.length->Gets (qkf ((j:Int) - 1) a.kind a.num a.str (qb a.subs) 0 0 [] [] (qb l)) (·=((l.take j).foldr qin a).av):=by
  intro j
  induction j with
  |zero=>
   intro a _;refine qiD _ _ _ _ _ _ _ _ _ _ ?_;refine⟨_,rfl,?_⟩;rw[qJ];rfl
  |succ j ih=>
   intro a hj;refine qiD _ _ _ _ _ _ _ _ _ _ ?_;have hil:j<l.length:=by omega
   have hx:l[j]? =some l[j]:=qBk hil;have h:=ih (qin l[j] a) (by omega);have e1:l.take (j+1)=l.take j++[l[j]]:=by rw[List.take_add_one,hx];rfl
   have e2:(((j+1:Nat):Int) - 1)=(j:Int):=by omega
   have w1:qBf .i64 ((j:Int) - 1)=(j:Int) - 1:=vq (by omega) (by omega);rw[e2,w1,qB3 (show(j:Int)≥0 by omega),qe,qZ,vO,qB3 hil,qaS hx,e1,List.foldr_append];simp only[cond_true,qBw,qD,qBL,qQ,qv,show qBv 4 4=true from rfl,qc];rw[←Tm.cells_eq,←Tm.cells_eq];have e3:qb (qin l[j] a).subs=[l[j].cells,a.cells]:=by show qb [l[j],a]=_;rw[qR,qR,vo]
   rw[e3]at h;exact h
 apply Gets.get;rw[Tm.av,Tm.cells_eq];refine qo7 _ _ _ _ _ ?_;have h:=loop l.length e (qBp _);rw[qBS]at h;rw[qe,vq (by omega) (by omega)];exact h
theorem qcZ{p:Nat->Bool}{r:List AV}(h:qbv p r){n:Nat}(hn:n<100):EVs (EV cfg) 227 [.cptr r 0,.int .i64 n]=some (.bool (p n)):=by
 obtain⟨lo,hi,l,rfl,h1,h2,h3,h4⟩:=h;have key:∀{a k:Nat},a<18446744073709551616->k<64->((((a / 2 ^ k % 2:Nat):Int))==1)=a.testBit k:=by
  intro a k _ _;rw[Nat.testBit_eq_decide_div_mod_eq];rw[beqI];exact decide_eq_decide.2 (by omega)
 apply Gets.get;refine qsB _ _ ?_;unfold zc2
 by_cases hs:n<64
 ·have e:p n=lo.testBit n:=(h3 n hs).symm;have hd:=Nat.div_le_self lo (2 ^ n);rw[qB3 (show(n:Int)<64 by omega),e];simp only[cond_true,qI,qBP,qc,qi,qrH h1 hs,qr7 (show lo / 2 ^ n<18446744073709551616 by omega),key h1 hs];exact⟨_,rfl,rfl⟩
 ·obtain⟨k,rfl⟩:∃k,n=k+64:=⟨n - 64,by omega⟩;have hk:k<64:=by omega
  have e:p (k+64)=hi.testBit k:=(h4 k hk).symm;have hd:=Nat.div_le_self hi (2 ^ k);have w:qBf .i64 (((k+64:Nat):Int) - 64)=(k:Int):=by rw[vq (by omega) (by omega)];omega
  rw[qB4 (show ¬((k+64:Nat):Int)<64 by omega),w,e];simp only[cond_false,qI,qBQ,qBP,qc,qi,qrH h2 hk,qr7 (show hi / 2 ^ k<18446744073709551616 by omega),key h2 hk];exact⟨_,rfl,rfl⟩
theorem qmV{p:Nat->Bool}{r:List AV}(h:qbv p r){n:Nat}(hn:n<100):∃r',EVm (EV cfg) 226 [.ptr 0 0 0,.int .i64 n] 402 [r]=some (.unit,[r']) ∧
  qbv (λi=>p i||decide (i=n)) r'∧r'.drop 2=r.drop 2∧r'.length=r.length∧(qF 0 r=true->qF 0 r'=true):=by
 obtain⟨lo,hi,l,rfl,h1,h2,h3,h4⟩:=h;have pw:∀{k:Nat},k<64->2 ^ k<18446744073709551616:=by
  intro k hk;have:2 ^ k<2 ^ 64:=Nat.pow_lt_pow_right (by omega) hk
  simpa using this
 have orlt:∀{a b:Nat},a<18446744073709551616->b<18446744073709551616->a ||| b<18446744073709551616:=by
  intro a b ha hb;have:=Nat.or_lt_two_pow (n:=64) (by simpa using ha) (by simpa using hb)
  simpa using this
 have bit:∀{a k i:Nat},(a ||| 2 ^ k).testBit i=(a.testBit i||decide (i=k)):=by
  intro a k i;rw[Nat.testBit_or,Nat.testBit_two_pow]
  congr 1
  exact decide_eq_decide.2 ⟨λh=>h.symm,λh=>h.symm⟩
 by_cases hs:n<64
 ·refine⟨.int .u64 ((lo ||| 2 ^ n:Nat):Int):: .int .u64 hi::l,?_,⟨_,hi,l,rfl,orlt h1 (pw hs),h2,λi hi=>?_,λi hi=>?_⟩,rfl,rfl,λh=>h⟩
  ·apply Gets.get;refine qkJ _ _ ?_;rw[qB3 (show(n:Int)<64 by omega)];simp only[cond_true,qI,qBP,qc,qi,qig hs,qip h1 (pw hs)];exact⟨_,rfl,rfl⟩
  ·rw[bit,h3 i hi]
  ·have:decide (i+64=n)=false:=qB4 (by omega);rw[h4 i hi];show p (i+64)=(p (i+64)||decide (i+64=n));rw[this,Bool.or_false]
 ·obtain⟨k,rfl⟩:∃k,n=k+64:=⟨n - 64,by omega⟩;have hk:k<64:=by omega
  have w:qBf .i64 (((k+64:Nat):Int) - 64)=(k:Int):=by rw[vq (by omega) (by omega)];omega
  refine⟨.int .u64 lo:: .int .u64 ((hi ||| 2 ^ k:Nat):Int)::l,?_,⟨lo,_,l,rfl,h1,orlt h2 (pw hk),λi hi=>?_,λi hi=>?_⟩,rfl,rfl,λh=>h⟩
  ·apply Gets.get;refine qkJ _ _ ?_;rw[qB4 (show ¬((k+64:Nat):Int)<64 by omega),w];simp only[cond_false,qI,qBQ,qBP,qc,qi,qig hk,qip h2 (pw hk)];exact⟨_,rfl,rfl⟩
  ·have:decide (i=k+64)=false:=qB4 (by omega);rw[h3 i hi];show p i=(p i||decide (i=k+64));rw[this,Bool.or_false]
  ·rw[bit,h4 i hi]
   congr 1
   exact decide_eq_decide.2 (by omega)
def qz2:Den:=evC cfg (EV cfg) 237 none 1 (sub (qg Tryz.f237) [1,1,1,0,1,0,0])
def qAB(B:Rz)(n:Int):Ex×List AV×AH→Option AV:=kAft (Cfg.keepOut cfg 237 (qk (sub (qg Tryz.f237) [1,1,1,0,1,0,0]))) (vP 0 (kSeq (fun(fr:List AV) (H:AH)=>xa (Cfg.cut cfg 237 (qk (sub (qg Tryz.f237) [1,1,1,1]))) fr H fun(fr:List AV) (H:AH)=>vh cfg (EV cfg) (kfN cfg (5)) 237 none 1 (sub (qg Tryz.f237) [1,1,1,1]) fr H (xO cfg (Cfg.lift cfg 237 0) (fun(v:AV) (H:AH)=>(fun(r:AV×AH)=>kOpt (qay none 1 (Prod.fst r) (Prod.snd r)) fun(r:AV×AH)=>kTy noTy cfg (Oper.type { dst:=some 8,op:=Op.call { callee:=Callee.value (Operand.func 237),args:= #[Operand.tmp 7],argTypes:= #[93] },type:=256,pos:= "pattern.go:188",after:= #[{ on:=0,ground:=Ground.data }],guard:=none }) (Prod.fst r) fun(v:AV)=>(fun(v:AV) (H':AH)=>kOps cfg (EV cfg) (kfN cfg 6) 240 1 (qez (sub (qg Tryz.f240) [1,0])) (0+1+1) (qBU 2 (qBM (qez (sub (qg Tryz.f240) [1,0])))) (put (fx 35 [(0,AV.sl B),(1,AV.int qB2 n),(4,AV.ptr 0 0 0),(5,AV.bool false),(7,AV.sl B)]) (some 8) v) H' fun(fr':List AV) (H':AH)=>kSeq (fun(fr:List AV) (H:AH)=>xa (Cfg.cut cfg 240 (qk (sub (qg Tryz.f240) [1,1]))) fr H fun(fr:List AV) (H:AH)=>vh cfg (EV cfg) (kfN cfg 6) 240 none 0 (sub (qg Tryz.f240) [1,1]) fr H (xz cfg (Cfg.lift cfg 240 0) (qBM (Func.results Tryz.f240)))) (xz cfg (Cfg.lift cfg 240 0) (qBM (Func.results Tryz.f240))) Ex.normal fr' H') v (Prod.snd r)) (v,H)) (qBM (Func.results (Prod.snd (237,Tryz.f237)))))) (xO cfg (Cfg.lift cfg 237 0) (fun(v:AV) (H:AH)=>(fun(r:AV×AH)=>kOpt (qay none 1 (Prod.fst r) (Prod.snd r)) fun(r:AV×AH)=>kTy noTy cfg (Oper.type { dst:=some 8,op:=Op.call { callee:=Callee.value (Operand.func 237),args:= #[Operand.tmp 7],argTypes:= #[93] },type:=256,pos:= "pattern.go:188",after:= #[{ on:=0,ground:=Ground.data }],guard:=none }) (Prod.fst r) fun(v:AV)=>(fun(v:AV) (H':AH)=>kOps cfg (EV cfg) (kfN cfg 6) 240 1 (qez (sub (qg Tryz.f240) [1,0])) (0+1+1) (qBU 2 (qBM (qez (sub (qg Tryz.f240) [1,0])))) (put (fx 35 [(0,AV.sl B),(1,AV.int qB2 n),(4,AV.ptr 0 0 0),(5,AV.bool false),(7,AV.sl B)]) (some 8) v) H' fun(fr':List AV) (H':AH)=>kSeq (fun(fr:List AV) (H:AH)=>xa (Cfg.cut cfg 240 (qk (sub (qg Tryz.f240) [1,1]))) fr H fun(fr:List AV) (H:AH)=>vh cfg (EV cfg) (kfN cfg 6) 240 none 0 (sub (qg Tryz.f240) [1,1]) fr H (xz cfg (Cfg.lift cfg 240 0) (qBM (Func.results Tryz.f240)))) (xz cfg (Cfg.lift cfg 240 0) (qBM (Func.results Tryz.f240))) Ex.normal fr' H') v (Prod.snd r)) (v,H)) (qBM (Func.results (Prod.snd (237,Tryz.f237)))))))
def qv8(B:Rz)(n:Int):List AV×AH->Option AV:=fun(p:List AV×AH)=>kOpt (LOOP 1 (some [3,4,9,10,11]) [] qz2 p) (qAB B n)
abbrev qkk(B:Rz)(n v4 v11 c0_0 c0_1:Int)(c0_2:Bz)(c0_3:Rz)(c1r0:List AV):Option (AV):=qv8 (B) (n) (((fx 48 [(3,.ptr 1 0 0),(4,.int .i64 v4),(9,.sl B),(10,.int .i64 (B.length:Int)),(11,.int .i64 v11)]):List AV),([.rows false 4 [[.int .i64 c0_0,.int .i64 c0_1,.str c0_2,.sl c0_3]],.rows true 402 [c1r0]]:AH))
abbrev qya(B:Rz)(n n' n'' n''':Int)(s:Bz)(rows:Rz)(q:MV×List (List AV))(row:List AV)(v4 v11 c0_0 c0_1:Int)(c0_2:Bz)(c0_3:Rz):Option (AV):=qv8 (B) (n) (((fx 48 [(3,.ptr 1 0 0),(4,.int .i64 v4),(9,.sl B),(10,.int .i64 (B.length:Int)),(11,.int .i64 v11)]):List AV),([.rows false 4 [[.int .i64 c0_0,.int .i64 c0_1,.str c0_2,.sl c0_3]],.rows true 402 (List.set q.2 0 (qBA (qBA (qBm (2+qBj n'*4) row) [.int .i64 n'',.int .i64 n''',.str s,.sl rows]) (qBU (2+qBj n'*4+4) row)))]:AH))
theorem qqN(B:Rz)(n:Int){P:AV->Prop}(h:Gets (qkk B n (- 1) 0 0 0 [] [] [AV.int .u64 0,.int .u64 0,.int .i64 0,.int .i64 0,.str [],.nilS,.int .i64 0,.int .i64 0,.str [],.nilS,.int .i64 0,.int .i64 0,.str [],.nilS,.int .i64 0,.int .i64 0,.str [],.nilS,.int .i64 0,.int .i64 (0:Int),.str [],.nilS,.int .i64 0,.int .i64 0,.str [],.nilS,.int .i64 0,.int .i64 0,.str [],.nilS,.int .i64 0,.int .i64 0,.str [],.nilS,.int .i64 0,.int .i64 0,.str [],.nilS,.int .i64 0,.int .i64 0,.str [],.nilS,.int .i64 0,.int .i64 0,.str [],.nilS,.int .i64 0,.int .i64 0,.str [],.nilS,.int .i64 0,.int .i64 0,.str [],.nilS,.int .i64 0,.int .i64 0,.str [],.nilS,.int .i64 0,.int .i64 0,.str [],.nilS,.int .i64 0,.int .i64 0,.str [],.nilS,.int .i64 0,.int .i64 0,.str [],.nilS,.int .i64 0,.int .i64 0,.str [],.nilS,.int .i64 0,.int .i64 0,.str [],.nilS,.int .i64 0,.int .i64 0,.str [],.nilS,.int .i64 0,.int .i64 0,.str [],.nilS,.int .i64 0,.int .i64 0,.str [],.nilS,.int .i64 0,.int .i64 0,.str [],.nilS,.int .i64 0,.int .i64 0,.str [],.nilS,.int .i64 0,.int .i64 0,.str [],.nilS,.int .i64 0,.int .i64 0,.str [],.nilS,.int .i64 0,.int .i64 0,.str [],.nilS,.int .i64 0,.int .i64 0,.str [],.nilS,.int .i64 0,.int .i64 0,.str [],.nilS,.int .i64 0,.int .i64 0,.str [],.nilS,.int .i64 0,.int .i64 0,.str [],.nilS,.int .i64 0,.int .i64 0,.str [],.nilS,.int .i64 0,.int .i64 0,.str [],.nilS,.int .i64 0,.int .i64 0,.str [],.nilS,.int .i64 0,.int .i64 0,.str [],.nilS,.int .i64 0,.int .i64 0,.str [],.nilS,.int .i64 0,.int .i64 0,.str [],.nilS,.int .i64 0,.int .i64 0,.str [],.nilS,.int .i64 0,.int .i64 0,.str [],.nilS,.int .i64 0,.int .i64 0,.str [],.nilS,.int .i64 0,.int .i64 0,.str [],.nilS,.int .i64 0,.int .i64 0,.str [],.nilS,.int .i64 0,.int .i64 0,.str [],.nilS,.int .i64 0,.int .i64 0,.str [],.nilS,.int .i64 0,.int .i64 0,.str [],.nilS,.int .i64 0,.int .i64 0,.str [],.nilS,.int .i64 0,.int .i64 0,.str [],.nilS,.int .i64 0,.int .i64 0,.str [],.nilS,.int .i64 0,.int .i64 0,.str [],.nilS,.int .i64 0,.int .i64 0,.str [],.nilS,.int .i64 0,.int .i64 0,.str [],.nilS,.int .i64 0,.int .i64 0,.str [],.nilS,.int .i64 0,.int .i64 0,.str [],.nilS,.int .i64 0,.int .i64 0,.str [],.nilS,.int .i64 0,.int .i64 0,.str [],.nilS,.int .i64 0,.int .i64 0,.str [],.nilS,.int .i64 0,.int .i64 0,.str [],.nilS,.int .i64 0,.int .i64 0,.str [],.nilS,.int .i64 0,.int .i64 0,.str [],.nilS,.int .i64 0,.int .i64 0,.str [],.nilS,.int .i64 0,.int .i64 0,.str [],.nilS,.int .i64 0,.int .i64 0,.str [],.nilS,.int .i64 0,.int .i64 0,.str [],.nilS,.int .i64 0,.int .i64 0,.str [],.nilS,.int .i64 0,.int .i64 0,.str [],.nilS,.int .i64 0,.int .i64 0,.str [],.nilS,.int .i64 0,.int .i64 0,.str [],.nilS,.int .i64 0,.int .i64 0,.str [],.nilS,.int .i64 0,.int .i64 0,.str [],.nilS,.int .i64 0,.int .i64 0,.str [],.nilS,.int .i64 0,.int .i64 0,.str [],.nilS,.int .i64 0,.int .i64 0,.str [],.nilS,.int .i64 0,.int .i64 0,.str [],.nilS,.int .i64 0,.int .i64 0,.str [],.nilS,.int .i64 0,.int .i64 0,.str [],.nilS,.int .i64 0,.int .i64 0,.str [],.nilS,.int .i64 0,.int .i64 0,.str [],.nilS,.int .i64 0,.int .i64 0,.str [],.nilS,.int .i64 0,.int .i64 0,.str [],.nilS,.int .i64 0,.int .i64 0,.str [],.nilS,.int .i64 0,.int .i64 0,.str [],.nilS,.int .i64 0,.int .i64 0,.str [],.nilS,.int .i64 0,.int .i64 0,.str [],.nilS,.int .i64 0,.int .i64 0,.str [],.nilS,.int .i64 0,.int .i64 0,.str [],.nilS,.int .i64 0,.int .i64 0,.str [],.nilS,.int .i64 0,.int .i64 0,.str [],.nilS,.int .i64 0,.int .i64 0,.str [],.nilS,.int .i64 0,.int .i64 0,.str [],.nilS,.int .i64 0,.int .i64 0,.str [],.nilS,.int .i64 0,.int .i64 0,.str [],.nilS,.int .i64 0,.int .i64 0,.str [],.nilS,.int .i64 0,.int .i64 0,.str [],.nilS,.int .i64 0,.int .i64 0,.str [],.nilS,.int .i64 0,.int .i64 0,.str [],.nilS,.int .i64 0,.int .i64 0,.str [],.nilS,.int .i64 0,.int .i64 0,.str [],.nilS,.int .i64 0,.int .i64 0,.str [],.nilS,.int .i64 0,.int .i64 0,.str [],.nilS,.int .i64 0,.int .i64 0,.str [],.nilS]) P):Gets (EVf (EV cfg) 240 [.sl B,.int .i64 n]) P:=
  gE (λ_=>funF rfl rfl Tryz.func240 rfl) (by kernel_rfl) h
abbrev zi0:Option (AV):=some (AV.tup [.agg [.int .i64 0,.int .i64 0,.str [],.sl []],.bool false])
theorem qiH(B:Rz)(n v4 v11 c0_0 c0_1:Int)(c0_2:Bz)(c0_3:Rz)(c1r0:List AV){P:AV->Prop}(h:Gets (bif decide (v11<(B.length:Int))then bif qh 0 v11&&qn v11 (B.length:Int)then kOpt (qBg B (v11.toNat)) λrow=>bif qBh (qBe row) 5 then bif qBv 5 (qBe row)then qa (qBm 5 row) λc cs=>kInt .i64 c λn_1=>kTmC cs λn_2 n_3 s rows=>(bif decide (n_1<=v4)then some (AV.tup [.agg [.int .i64 0,.int .i64 0,.str [],.sl []],.bool false])else bif decide (n_1>99)then some (AV.tup [.agg [.int .i64 0,.int .i64 0,.str [],.sl []],.bool false])else kOpt (EVs (EV cfg) 175 [.agg [.int .i64 n_2,.int .i64 n_3,.str s,.sl rows]]) λv=>qu v λb=>bif ! b then some (AV.tup [.agg [.int .i64 0,.int .i64 0,.str [],.sl []],.bool false])else kOpt (EVm (EV cfg) 226 [.ptr 0 0 0,.int .i64 n_1] 402 [c1r0]) λq=>qa2 q.1 (bif qh 0 n_1&&qn n_1 100 then kOpt (qBg q.2 0) λrow=>bif qBv (2+qBj n_1*4+4) (qBe row)then qya B n n_1 n_2 n_3 s rows q row n_1 (qBf .i64 (v11+1)) c0_0 c0_1 c0_2 c0_3 else none else none))else none else none else none else bif decide (n<0)then zi0 else bif decide (n>99)then zi0 else bif qF 0 c1r0 then bif qF 0 [AV.cptr c1r0 0,.int .i64 n]then kOpt (EVs (EV cfg) 227 [AV.cptr c1r0 0,.int .i64 n]) λv=>qu v λb=>bif ! b then zi0 else bif qh 0 n&&qn n 100 then bif qBv (2+qBj n*4+4) (qBe c1r0)then qa (qBm 4 (qBU (2+qBj n*4) c1r0)) λc cs=>kInt .i64 c λn=>qa cs λc cs=>kInt .i64 c λn_1=>qa cs λc cs=>kStr c λs=>qa cs λc cs=>kSl c λrows=>kNil cs (kOpt (EVf (EV cfg) 45 [.agg [.int .i64 n,.int .i64 n_1,.str s,.sl rows]]) λv=>kTmV v λn n_2 s rows=>(some (AV.tup [.agg [.int .i64 n,.int .i64 n_2,.str s,.sl rows],.bool true])))else none else none else none else none) P):Gets (qkk B n v4 v11 c0_0 c0_1 c0_2 c0_3 c1r0) P:=
  gE (λ_=>qB (cfg:=cfg) (f:=237) (rd:=none) (bs:=1)) (by kernel_rfl) h
def qgv(o:Option Tm):AV:=match o with|some t=>.tup [t.av,.bool true]|none=>.tup [q9.av,.bool false]
theorem qxq{L:List (Int×Tm)}{n last:Int}{r:List AV}(hm:mayB (-1) L=true)(hr:BRow L r)(hok:∀p∈L,p.2.Ok):Gets (qkk (xb L) n last L.length 0 0 [] [] r) (·=qgv (qeK n L)):=by
 have hz:AV.agg [.int .i64 0,.int .i64 0,.str [],.sl []]=q9.av:=x9.symm;unfold qeK;rw[qB5 hm];refine qiH _ _ _ _ _ _ _ _ _ ?_;unfold zi0;rw[yG,qB4 (show ¬(L.length:Int)<(L.length:Int) by omega),cond_false,hz]
 by_cases h1:n<0
 ·have:qG n L=none:=by
   cases hx:qG n L with
   |none=>rfl
   |some t=>have:=qge hm _ (xD hx);simp at this;omega
  rw[qB3 h1,this];exact⟨_,rfl,rfl⟩
 ·rw[qB4 h1,cond_false]
  by_cases h2:n>99
  ·have:qG n L=none:=by
    cases hx:qG n L with
    |none=>rfl
    |some t=>have:=qge hm _ (xD hx);simp at this;omega
   rw[qB3 h2,this];exact⟨_,rfl,rfl⟩
  ·rw[qB4 h2,cond_false];obtain⟨k,rfl⟩:∃k:Nat,n=k:=⟨n.toNat,by omega⟩;have hk:k<100:=by omega
   have hf2:qF 0 [AV.cptr r 0,.int .i64 (k:Int)]=true:=by simp[qF,AV.refsLt,hr.free]
   rw[hr.free,hf2,qcZ hr.set hk];simp only[cond_true,qc,qd];cases hx:qG (k:Int) L with
   |none=>exact⟨_,rfl,rfl⟩
   |some t=>
    have hc:=hr.cells k hk t hx;have hcopy:=qbX (hok _ (xD hx));have hb:qBv (2+(k:Int).toNat*4+4) r.length=true:=by rw[qBN,hr.len];omega
    have hl2:qn (k:Int) 100=true:=by simp[qn];omega
    rw[qZ,hl2,hb,qBB,hc,Tm.cells_eq];simp only[Option.isSome_some,qB1,cond_false,cond_true,qBw,qa,qi,qw,q4,kNil,qJ];rw[hcopy];simp only[qc,qW,qJ];exact⟨_,rfl,rfl⟩
theorem qvF{L:List (Int×Tm)}{n:Int}(hlen:L.length<1099511627776)(hw:∀p∈L,p.2.w<1099511627776):∀(d i:Nat) (last:Int) (r:List AV),i+d=L.length->-1<=last ->
  (mayB (-1) L=mayB last (L.drop i))->(∀p∈L.take i,p.1<=last)->BRow (L.take i) r->Gets (qkk (xb L) n last i 0 0 [] [] r) (·=qgv (qeK n L)):=by
 have hok:∀p∈L,p.2.Ok:=λp hp=>qbR _ (hw p hp)
 have hz:AV.agg [.int .i64 0,.int .i64 0,.str [],.sl []]=q9.av:=x9.symm;intro d
 induction d with
 |zero=>
  intro i last r hi _ hm _ hr;obtain rfl:i=L.length:=by omega
  rw[qBt (qBp _)]at hr;have hm':mayB (-1) L=true:=by rw[hm,qBR (qBp _)];rfl
  exact qxq hm' hr hok
 |succ d ih=>
  intro i last r hi hlast hm hkeys hr;have hil:i<L.length:=by omega
  have hx:L[i]? =some L[i]:=qBk hil;have hd:L.drop i=L[i]::L.drop (i+1):=qBJ hil;have ht:L.take (i+1)=L.take i++[L[i]]:=by rw[List.take_add_one,hx];rfl
  have hmem:=qBy hx;have hmay:=qbQ (hw _ hmem);rw[hd]at hm;generalize hp:L[i]=p at *;obtain⟨pn,pt⟩:=p;simp only at hmay;refine qiH _ _ _ _ _ _ _ _ _ ?_;unfold zi0;rw[yG,qB3 (show(i:Int)<(L.length:Int) by omega),qZ,vO,qB3 hil,qI,qBB,qgz,hx,vn hil hlen];simp only[cond_true,qBw,qBD,qc,qBK,qD,qBL,show qBv (4+1) (4+1)=true from rfl,show qBv 5 (4+1)=true from rfl,show qBh (4+1) 5=true from rfl]
  have htk:qBm 5 (AV.int .i64 pn::pt.cells)=AV.int .i64 pn::pt.cells:=qBt (by simp);rw[htk];simp only[qa,qi,qv,qJ];rw[hmay];have none_of:mayB (-1) L=false->qgv (qeK n L)= .tup [q9.av,.bool false]:=λh=>by unfold qeK;rw[h];rfl
  rw[hz]
  by_cases h1:pn<=last
  ·rw[qB3 h1];refine⟨_,rfl,(none_of ?_).symm⟩;rw[hm,mayB,qB4 (by show ¬last<pn;omega),Bool.false_and]
  ·rw[qB4 h1,cond_false]
   by_cases h2:pn>99
   ·rw[qB3 h2];refine⟨_,rfl,(none_of ?_).symm⟩;rw[hm,mayB,qB4 (show ¬(pn,pt).1<=99 by show ¬pn<=99;omega),Bool.false_and,Bool.and_false]
   ·rw[qB4 h2,cond_false]
    by_cases h3:pt.chk=0
    ·obtain⟨k,rfl⟩:∃k:Nat,pn=k:=⟨pn.toNat,by omega⟩;have hk:k<100:=by omega
     obtain⟨r',e1,e2,e3,e4,e5⟩:=qmV hr.set hk;have hnew:qG (k:Int) (L.take i)=none:=by
      cases hx:qG (k:Int) (L.take i)with
      |none=>rfl
      |some t=>have:=hkeys _ (xD hx);simp at this;omega
     have hadd:=hr.add (t:=pt) hk hnew e2 e3 e4 e5;have hb:qBv (2+(k:Int).toNat*4+4) r'.length=true:=by rw[qBN,e4,hr.len];omega
     have hl2:qn (k:Int) 100=true:=by simp[qn];omega
     have:=ih (i+1) k _ (by omega) (by omega) (by rw[hm,mayB,qB3 (show last<(k:Int) by omega),qB3 (show((k:Int))<=99 by omega),qB3 h3];rfl)
      (λp hpm=>by
       rw[ht]at hpm;rcases qBF.1 hpm with h|h
       ·have:=hkeys p h;omega
       ·simp at h;subst h;exact Int.le_refl _) (by rw[ht];exact hadd)
     simp only[qc,qd,qB3 h3,qB1,cond_false,e1,qcJ,qZ,hl2,qBw,cond_true,qI,qBP,hb];rw[Tm.cells_eq]at this;exact this
    ·simp only[qc,qd,qB4 h3,Bool.not_false,cond_true];refine⟨_,rfl,(none_of ?_).symm⟩;rw[hm,mayB,qB4 (show ¬(((pn,pt):Int×Tm).2).chk=0 from h3),Bool.false_and,Bool.and_false,Bool.and_false]
theorem qrz:BRow [] ([AV.int .u64 0,.int .u64 0]++(qBI 100 [AV.int .i64 0,.int .i64 0,.str [],.nilS]).flatten) where
 len:=by decide +kernel
 set:=⟨0,0,_,rfl,by omega,by omega,λn _=>by simp[qG],λn _=>by simp[qG]⟩
 cells:=λi _ t h=>by simp[qG]at h
 free:=by decide +kernel
theorem qsO{L:List (Int×Tm)}(hlen:L.length<1099511627776)(hw:∀p∈L,p.2.w<1099511627776)(n:Int):EVf (EV cfg) 240 [.sl (xb L),.int .i64 n]=some (qgv (qeK n L)):=by
 apply Gets.get;refine qqN _ _ ?_;have h:=qvF (n:=n) hlen hw L.length 0 (-1) _ (by omega) (by omega) rfl (λp hp=>by simp at hp) qrz;refine Gets.eq ?_ h
 kernel_rfl
def mayR(last:Int)(pre:List Int)(L:List (Int×Tm))(o:Tm)(self:Int):AV:=
 if mayB last L then .tup [.sl (vC (pre++L.map (·.1))),.bool (decide (o.chk=0)&&zw self)]else .tup [.sl [],.bool false]
def envR(o:Tm)(L:List (Int×Tm))(self:Int):AV:=.agg [.int .i64 o.kind,.int .i64 o.num,.str o.str,.sl (qb o.subs),.sl (xb L),.int .i64 self]
theorem qx7{n:Nat}(h:n<=1099511627776):q8 n 8=true:=by
 unfold q8;rw[qBi,qBN,qBN];omega
theorem qjl{L:List (Int×Tm)}(hlen:L.length<1099511627776)(hw:∀p∈L,p.2.w<1099511627776){o:Tm}(ho:o.w<1099511627776)(self:Int):
  EVf (EV cfg) 216 [envR o L self]=some (mayR (-1) [] L o self):=by
 have hco:=qao ho;rw[Tm.av,Tm.cells_eq]at hco;have loop:∀(d i:Nat) (last:Int),i+d=L.length->Gets (qkh (xb L) i last i o.kind o.num o.str (qb o.subs) (xb L) self (vC ((L.take i).map (·.1)))) (·=mayR last ((L.take i).map (·.1)) (L.drop i) o self):=by
  intro d
  induction d with
  |zero=>
   intro i last hi;refine qiF _ _ _ _ _ _ _ _ _ _ _ ?_;obtain rfl:i=L.length:=by omega
   have hb:qBv (0+L.length) (vC ((L.take L.length).map (·.1))).length=true:=by rw[qBN,zE,qBE,qBW];omega
   have ht:qBm L.length (vC ((L.take L.length).map (·.1)))=vC ((L.take L.length).map (·.1)):=qBt (by rw[zE,qBE,qBW];omega);rw[yG,qB4 (by omega),qBR (qBp _),hco,qrK];unfold mayR;simp only[cond_false,qc,qi,qd,beqI,cond_true,mayB,if_true,List.map_nil,List.append_nil,hb,ht,Bool.and_true]
   by_cases hc:o.chk=0
   ·rw[qB3 hc];exact⟨_,rfl,rfl⟩
   ·rw[qB4 hc];exact⟨_,rfl,rfl⟩
  |succ d ih=>
   intro i last hi;refine qiF _ _ _ _ _ _ _ _ _ _ _ ?_;have hil:i<L.length:=by omega
   have hx:L[i]? =some L[i]:=qBk hil;have hd:L.drop i=L[i]::L.drop (i+1):=qBJ hil;have hck:=qao (hw L[i] (qBy hx));have h:=ih (i+1) L[i].1 (by omega);have e1:(L.take (i+1)).map (·.1)=(L.take i).map (·.1)++[L[i].1]:=by
    have ht:L.take (i+1)=L.take i++[L[i]]:=by rw[List.take_add_one,hx];rfl
    rw[ht,List.map_append];rfl
   have hl0:(vC ((L.take i).map (·.1))).length=i:=by rw[zE,qBE,qBW];omega
   have e2:qBA (qBm i (vC ((L.take i).map (·.1)))) [[AV.int .i64 L[i].1]]=vC ((L.take (i+1)).map (·.1)):=by
    rw[qBt (by omega),e1];simp[vC]
   have e3:qBv (0+i) (vC ((L.take i).map (·.1))).length=true:=by rw[hl0,qBN];omega
   rw[yG,qB3 (show(i:Int)<(L.length:Int) by omega),qZ,vO,qB3 hil,qI,qBB,qgz,hx,vn hil hlen,hd];simp only[qBD,cond_true,qBw,qc,qBK,qD,show qBh (4+1) 5=true from rfl,show qBv 5 (4+1)=true from rfl,List.take_succ_cons,qQ,qa,qi,qv,qJ,hck,e2,e3,qx7 (show i+1<=1099511627776 by omega)]
   unfold mayR at h⊢;rw[mayB]
   by_cases h1:last<L[i].1
   ·rw[qB4 (show ¬L[i].1<=last by omega),qB3 h1,cond_false,qBV]
    by_cases h2:L[i].1<=99
    ·rw[qB4 (show ¬L[i].1>99 by omega),qB3 h2,cond_false,qBV]
     by_cases h3:L[i].2.chk=0
     ·have e0:(L[i].2.chk != 0)=false:=by rw[h3];rfl
      rw[e0,qB3 h3,cond_false,qBV];have e4:(L.take (i+1)).map (·.1)++(L.drop (i+1)).map (·.1)=(L.take i).map (·.1)++(L[i]::L.drop (i+1)).map (·.1):=by rw[e1,List.append_assoc];rfl
      rw[e4]at h;exact h
     ·have e0:(L[i].2.chk != 0)=true:=by simpa using h3
      rw[e0,qB4 h3];exact⟨_,rfl,rfl⟩
    ·rw[qB3 (show L[i].1>99 by omega),qB4 h2];exact⟨_,rfl,rfl⟩
   ·rw[qB3 (show L[i].1<=last by omega),qB4 h1];exact⟨_,rfl,rfl⟩
 apply Gets.get;refine qpw _ _ _ _ _ _ ?_;have h:=loop L.length 0 (-1) (by omega);exact h
def qkr(b:Bool)(t:Tm):Option Tm:=if b then none else if t.chk=0 then some t else none
theorem qu7(e:Env)(b:Bool){t:Tm}(h:t.w<1099511627776):Gets (EVd (EV cfg) 241 [.ptr 0 0 0,t.av] 7 (mR e b)) (Res e (qkr b t)):=by
 have hc:=qao h;have hr:=yK e b;unfold qkr;rw[Tm.av,Tm.cells_eq]at hc⊢;refine qk8 _ _ _ _ _ _ _ _ _ _ _ ?_;unfold za0;rw[hc];cases b with
 |true=>
  rw[qB5 rfl,cond_true,hr];simp only[qc,qW];rw[qJ];exact vM
 |false=>
  rw[qB6 (by simp),cond_false];simp only[qc,qi]
  by_cases h0:t.chk=0
  ·have e0:(t.chk != 0)=false:=by rw[h0];rfl
   rw[e0,qB5 h0,cond_false,qJ];exact vg
  ·have e0:(t.chk != 0)=true:=by simpa using h0
   rw[e0,qB6 h0,cond_true,hr];simp only[qc,qW];rw[qJ];exact vM
theorem qva{e:Env}(hlen:e.binds.length<1099511627776)(b:Bool):EVd (EV cfg) 242 [.ptr 0 0 0] 7 (mR e b)=some ((qbf (e.binds.map (·.2)) (.mk 8 0 [] [])).av,mR e b):=by
 have loop:∀(d i:Nat),i+d=e.binds.length->Gets (qkg (xb e.binds) i i (mR e b) 0 0 [] [] (qb ((e.binds.take i).map (·.2)))) (·=((qbf (e.binds.map (·.2)) (.mk 8 0 [] [])).av,mR e b)):=by
  intro d
  induction d with
  |zero=>
   intro i hi;refine qiE _ _ _ _ _ _ _ _ _ ?_;obtain rfl:i=e.binds.length:=by omega
   have hb:qBv (0+e.binds.length) (qb ((e.binds.take e.binds.length).map (·.2))).length=true:=by rw[qBN,qe,qBE,qBW];omega
   have ht:qBm e.binds.length (qb ((e.binds.take e.binds.length).map (·.2)))=qb (e.binds.map (·.2)):=by
    rw[qBt (by rw[qe,qBE,qBW];omega),qBS]
   have hm:=qja (l:=e.binds.map (·.2)) (by rw[qBE];exact hlen) (.mk 8 0 [] []);rw[Tm.av_mk,vo]at hm;rw[yG,qB4 (by omega)];simp only[cond_false,hb,Bool.and_true,cond_true,ht,hm,qc,qW,qJ];exact⟨_,rfl,rfl⟩
  |succ d ih=>
   intro i hi;refine qiE _ _ _ _ _ _ _ _ _ ?_;have hil:i<e.binds.length:=by omega
   have hx:e.binds[i]? =some e.binds[i]:=qBk hil;have h:=ih (i+1) (by omega);have e1:(e.binds.take (i+1)).map (·.2)=(e.binds.take i).map (·.2)++[e.binds[i].2]:=by
    have ht:e.binds.take (i+1)=e.binds.take i++[e.binds[i]]:=by rw[List.take_add_one,hx];rfl
    rw[ht,List.map_append];rfl
   have hl0:(qb ((e.binds.take i).map (·.2))).length=i:=by rw[qe,qBE,qBW];omega
   have e2:qBA (qBm i (qb ((e.binds.take i).map (·.2)))) [e.binds[i].2.cells]=qb ((e.binds.take (i+1)).map (·.2)):=by
    rw[qBt (by omega),e1,vH,qR,vo];rfl
   have e3:qBv (0+i) (qb ((e.binds.take i).map (·.2))).length=true:=by rw[hl0,qBN];omega
   rw[yG,qB3 (show(i:Int)<(e.binds.length:Int) by omega),qZ,vO,qB3 hil,qI,qBB,qgz,hx,vn hil hlen];simp only[qBD,cond_true,qBw,qc,qBK,qD,show qBh (4+1) 5=true from rfl,show qBv 5 (4+1)=true from rfl,List.take_succ_cons,qQ,qa,qi,qv,e3,y3 (show i+1<=1099511627776 by omega)]
   rw[←Tm.cells_eq,e2];exact h
 apply Gets.get;refine qs0 _ _ _ _ _ _ _ ?_;exact loop e.binds.length 0 (by omega)
end Go.Proofs.YtafdkafbgohigaaGreat
end
noncomputable section
namespace Go.Av
def qby(f:Tm->Option Tm):List Tm->Option (List Tm)
 |[]=>some []
 |t::l=>(f t).bind λx=>(qby f l).map (x::·)
def ResL(e:Env)(o:Option (List Tm))(r:AV×List (List AV)):Prop:=
 match o with
 |some ts=>r=(.sl (qb ts),mR e false)
 |none=>r.2=mR e true∧∃ts:List Tm,r.1= .sl (qb ts)
end Go.Av
namespace Go.Proofs.YtafdkafbgohigaaGreat
open Go.Av
theorem qsg{e:Env}{l acc:List Tm}{i:Nat}(hi:i<=l.length)(ha:acc.length=i):Gets (qgV (qb l) i i (mR e true) (qb acc)) (ResL e none):=by
 refine qeT _ _ _ _ _ ?_
 by_cases hil:i<l.length
 ·have hx:l[i]? =some l[i]:=qBk hil;rw[qe,qB3 (show(i:Int)<(l.length:Int) by omega),qZ,vO,qB3 hil,qaS hx];simp only[cond_true,qBw,qD,qBL,qQ,qv,show qBv 4 4=true from rfl,qc];exact⟨_,rfl,rfl,[],by rw[vo]⟩
 ·have e3:(qBv (0+i) (qb acc).length&&true)=true:=by rw[Bool.and_true,qBN,qe];omega
  rw[qe,qB4 (by omega),cond_false,e3,cond_true,qBt (by rw[qe];omega)];exact⟨_,rfl,rfl,acc,rfl⟩
theorem qsX{e:Env}{f:Tm->Option Tm}{l:List Tm}(hlen:l.length<1099511627776)(ih:∀x∈l,Gets (EVd (EV cfg) 217 [.ptr 0 0 0,x.av] 7 (mR e false)) (Res e (f x))):
  Gets (EVd (EV cfg) 243 [.ptr 0 0 0,.sl (qb l)] 7 (mR e false)) (ResL e (qby f l)):=by
 have loop:∀(d i:Nat) (acc:List Tm),i+d=l.length->acc.length=i->Gets (qgV (qb l) i i (mR e false) (qb acc)) (ResL e ((qby f (l.drop i)).map (acc++·))):=by
  intro d
  induction d with
  |zero=>
   intro i acc hi ha;refine qeT _ _ _ _ _ ?_;have e3:(qBv (0+i) (qb acc).length&&true)=true:=by rw[Bool.and_true,qBN,qe];omega
   rw[qe,qB4 (by omega),cond_false,e3,cond_true,qBt (by rw[qe];omega),qBR (by omega)];refine⟨_,rfl,?_⟩;show _=(AV.sl (qb (acc++[])),mR e false);rw[List.append_nil]
  |succ d ihd=>
   intro i acc hi ha;refine qeT _ _ _ _ _ ?_;have hil:i<l.length:=by omega
   have hx:l[i]? =some l[i]:=qBk hil;have hd:l.drop i=l[i]::l.drop (i+1):=qBJ hil;have h1:=ih l[i] (qBy hx);have e3:(qBv (0+i) (qb acc).length&&q8 (i+1) 56)=true:=by rw[y3 (by omega),Bool.and_true,qBN,qe];omega
   have e4:∀t:Tm,qBA (qBm i (qb acc)) [[.int .i64 t.kind,.int .i64 t.num,.str t.str,.sl (qb t.subs)]]=qb (acc++[t]):=by
    intro t;rw[qBt (by rw[qe];omega),vH,qR,vo,Tm.cells_eq];rfl
   rw[qe,qB3 (show(i:Int)<(l.length:Int) by omega),qZ,vO,qB3 hil,qaS hx,vn hil hlen,hd,qby];simp only[cond_true,qBw,qD,qBL,qQ,qv,show qBv 4 4=true from rfl,qc,qJ];show Gets (kOpt (EVd (EV cfg) _ _ 7 (mR e false)) _) _;refine Gets.bind h1 ?_;intro r hr;cases hf:f l[i]with
   |none=>
    rw[hf]at hr;obtain⟨h2,t,h3⟩:=hr;rw[h2,h3,qW,e3,e4,cond_true];exact qsg (by omega) (by simp[ha])
   |some t=>
    rw[hf]at hr;obtain rfl:r=(t.av,mR e false):=hr;have h2:=ihd (i+1) (acc++[t]) (by omega) (by simp[ha]);rw[qW,e3,e4,cond_true];have e5:((some t).bind λx=>(qby f (l.drop (i+1))).map (x::·)).map (acc++·)=(qby f (l.drop (i+1))).map (acc++[t]++·):=by
     cases qby f (l.drop (i+1))<;>simp
    rw[e5];exact h2
 refine qqV _ _ _ _ _ _ _ _ ?_;have h:=loop l.length 0 [] (by omega) rfl;rw[List.drop_zero]at h;have e6:(qby f l).map ([]++·)=qby f l:=by cases qby f l<;>simp
 rw[e6]at h;exact h
end Go.Proofs.YtafdkafbgohigaaGreat
end
noncomputable section
namespace Go.Av
theorem qkL(e:Env):∀l:List Tm,qby (valG e) l=seqO (xf e l)
 |[]=>rfl
 |t::l=>by rw[qby,xf,seqO,qkL e l]
theorem qe6(l:List Tm):qbf l (.mk 8 0 [] [])=vr l:=rfl
theorem zy(e:Env)(b:Bool):qBg (mR e b) 0=some [.int .i64 e.obj.kind,.int .i64 e.obj.num,.str e.obj.str,.sl (qb e.obj.subs),.sl (xb e.binds),.int .i64 e.self,.bool b]:=rfl
theorem zz(e:Env)(b:Bool):qBg [AV.int .i64 e.obj.kind,.int .i64 e.obj.num,.str e.obj.str,.sl (qb e.obj.subs),.sl (xb e.binds),.int .i64 e.self,.bool b] 6=some (.bool b):=rfl
theorem qdW{l:List Tm}(h:∀x∈l,x.chk=0):wL l<=l.length*4259840:=by
 induction l with
 |nil=>simp
 |cons x l ih=>
  have h1:=xx (h x (by simp));have h2:=ih λy hy=>h y (by simp[hy])
  rw[qE,qBK];omega
theorem qrV:∀l:List Tm,(vr l).w<=1+l.length+wL l
 |[]=>by simp[vr,Tm.w_mk]
 |x::l=>by
  have h:=qrV l;have:vr (x::l)= .mk 9 0 [] [x,vr l]:=rfl;rw[this,Tm.w_mk,qE,qE,qE,xy,qBK];simp only[List.length_nil];omega
theorem qjJ(op:List UInt8){n:Nat}(h:(n:Int)∈opsG op):n<=2:=by
 have:∀(l:List (List UInt8×List Int)),(∀p∈l,∀x∈p.2,x<=2)->∀x∈qaK op [] l,x<=2:=by
  intro l
  induction l with
  |nil=>intro _ x hx;simp[qaK]at hx
  |cons p l ih=>
   intro h x hx;rw[qaK]at hx;cases hp:op==p.1
   ·rw[hp]at hx;exact ih (λq hq=>h q (by simp[hq])) x hx
   ·rw[hp]at hx;exact h p (by simp) x hx
 have:=this qfC (by decide) _ h;omega
theorem qnq{α:Type}(c:Bool)(x:α):(bif c then x else x)=x:=by cases c<;>rfl
theorem qx4{c:Prop}[Decidable c]{x y:Option Tm}{P:Tm->Prop}(h1:∀t,x=some t->P t)(h2:∀t,y=some t->P t):∀t,(if c then x else y)=some t->P t:=by
 intro t h
 by_cases hc:c
 ·rw[qB5 hc]at h;exact h1 t h
 ·rw[qB6 hc]at h;exact h2 t h
theorem qf1(b:Bool):(xc b).w<1099511627776:=by have:=xx (qsh b);omega
theorem qmQ{n:Int}{v:Tm}(h:vj n=some v):v.w<1099511627776:=by have:=xx (qqm h);omega
theorem qzd{op:List UInt8}{t:Tm}(hc:t.chk=0):∀v,oneG op t=some v->v.w<1099511627776:=by
 have tr:∀b:Bool,∀v,some (xc b)=some v->v.w<1099511627776:=λb v h=>by cases h;exact qf1 _
 have sub:∀i:Nat,∀v,t.subs[i]? =some v->v.w<1099511627776:=λi v h=>by have:=xx (vA hc (qBy h));omega
 have wi:∀n:Int,∀v,vj n=some v->v.w<1099511627776:=λn v h=>qmQ h
 have no:∀v,(none:Option Tm)=some v->v.w<1099511627776:=λv h=>by cases h
 have bo:∀v,((vL t).map λb=>xc (!b))=some v->v.w<1099511627776:=λv h=>by obtain⟨_,_,rfl⟩:=qBq.1 h;exact qf1 _
 have ln:∀v,((lenG t).bind λn=>vj n)=some v->v.w<1099511627776:=λv h=>by obtain⟨_,_,h⟩:=qBl.1 h;exact qmQ h
 unfold oneG
 repeat' first
  |exact tr _
  |exact wi _
  |exact no
  |exact sub _
  |exact bo
  |exact ln
  |refine qx4 ?_ ?_
theorem qsT{op:List UInt8}{a b:Int}{v:Tm}(h:qbL op a b=some v):v.w<1099511627776:=by
 obtain⟨_,n,rfl⟩:=qqP h;rw[numT,Tm.w_mk];simp
theorem qy3{op:List UInt8}{a b:Tm}(hb:b.chk=0):∀v,twoG op a b=some v->v.w<1099511627776:=by
 have tr:∀c:Bool,∀v,some (xc c)=some v->v.w<1099511627776:=λb v h=>by cases h;exact qf1 _
 have bo:∀f:Bool->Bool->Bool,∀v,((vL a).bind λx=>(vL b).map λy=>xc (f x y))=some v->v.w<1099511627776:=by
  intro f v h;obtain⟨_,_,h⟩:=qBl.1 h;obtain⟨_,_,rfl⟩:=qBq.1 h;exact qf1 _
 have no:∀v,(none:Option Tm)=some v->v.w<1099511627776:=λv h=>by cases h
 have sub:∀i:Nat,∀v,b.subs[i]? =some v->v.w<1099511627776:=λi v h=>by have:=xx (vA hb (qBy h));omega
 have nu:∀v,qbL op a.num b.num=some v->v.w<1099511627776:=λv h=>qsT h
 unfold twoG
 repeat' first
  |exact tr _
  |exact bo (λx y=>x&&y)
  |exact bo (λx y=>x||y)
  |exact bo (λx y=>x != y)
  |exact no
  |exact sub _
  |exact nu
  |refine qx4 ?_ ?_
theorem qjZ{op:List UInt8}{l:List Tm}{self:Int}{v:Tm}(hl:∀x∈l,x.chk=0)(hlen:l.length<=2)(h:zm op l self=some v):v.w<1099511627776:=by
 match l,hl,hlen with
 |[],_,_=>cases h;rw[Tm.w_mk];simp
 |[a],hl,_=>exact qzd (hl a (by simp)) _ h
 |[a,b],hl,_=>exact qy3 (hl b (by simp)) _ h
 |_::_::_::_,_,h=>simp at h
end Go.Av
namespace Go.Proofs.YtafdkafbgohigaaGreat
open Go.Av
theorem qwx(t:Tm):qkr false t=xV t:=by unfold qkr xV;rfl
theorem qhx{e:Env}{t:Tm}(h:t.w<1099511627776):Gets (kOpt (EVd (EV cfg) 241 [.ptr 0 0 0,t.av] 7 (mR e false)) λq=>kTmV q.1 fun(n n_1:Int) (s:List UInt8) (rows:List (List AV))=>some (AV.agg [.int .i64 n,.int .i64 n_1,.str s,.sl rows],q.2)) (Res e (xV t)):=by
 have:=qu7 e false h;rw[qwx]at this;exact Gets.bind this λr h=>zZ h (qa7 h)
theorem qk9{e:Env}(t:Tm):Gets (kOpt (EVd (EV cfg) 241 [.ptr 0 0 0,t.av] 7 (mR e true)) λq=>kTmV q.1 fun(n n_1:Int) (s:List UInt8) (rows:List (List AV))=>some (AV.agg [.int .i64 n,.int .i64 n_1,.str s,.sl rows],q.2)) (Res e none):=by
 have hr:=yK e true;have h1:EVd (EV cfg) 241 [.ptr 0 0 0,t.av] 7 (mR e true)=some (q9.av,mR e true):=by
  apply Gets.get;rw[Tm.av,Tm.cells_eq];refine qk8 _ _ _ _ _ _ _ _ _ _ _ ?_;unfold za0;rw[cond_true,hr];simp only[qc,qW];rw[qJ];exact⟨_,rfl,rfl⟩
 rw[h1];simp only[qc,qW,qJ];exact vM
theorem qv4(k:Int)(ts:List Tm):(AV.agg [.int .i64 k,.int .i64 0,.str [],.sl (qb ts)])=(Tm.mk k 0 [] ts).av:=by rw[Tm.av_mk]
theorem qkD{e:Env}(he:EnvOk e){l:List Tm}(k:Int)(hlen:l.length<=64)(hl:∀x∈l,x.chk=0∧isG (ya e) x=true)(hv:Gets (EVd (EV cfg) 243 [.ptr 0 0 0,.sl (qb l)] 7 (mR e false)) (ResL e (seqO (xf e l)))):
  Gets (kOpt (EVd (EV cfg) 243 [.ptr 0 0 0,.sl (qb l)] 7 (mR e false)) λq=>kSl q.1 fun(rows:List (List AV))=>kOpt (EVd (EV cfg) 241 [.ptr 0 0 0,.agg [.int .i64 k,.int .i64 0,.str [],.sl rows]] 7 q.2) λq=>kTmV q.1 fun(n n_1:Int) (s:List UInt8) (rows:List (List AV))=>some (AV.agg [.int .i64 n,.int .i64 n_1,.str s,.sl rows],q.2)) (Res e ((seqO (xf e l)).bind λts=>xV (.mk k 0 [] ts))):=by
 refine Gets.bind hv ?_;intro r hr;cases ho:seqO (xf e l)with
 |none=>
  rw[ho]at hr;obtain⟨h1,ts,h2⟩:=hr;rw[h1,h2,q4,qv4];exact qk9 _
 |some ts=>
  rw[ho]at hr;obtain rfl:r=(.sl (qb ts),mR e false):=hr;have h1:=qdW (qjE he hl ho);have h2:=qd0 ho;simp only[q4,qv4];rw[qBs];have h3:ts.length*4259840<=64*4259840:=qBH _ (by omega);exact qhx (by rw[Tm.w_mk];simp only[List.length_nil];omega)
theorem qpb{e:Env}{y:Tm}:Gets (kOpt (EVm (EV cfg) 244 [.ptr 0 0 0,y.av] 7 (mR e false)) fun(q:MV×List (List AV))=>yc q.1 fun(_:Bool)=>some (y.av,q.2)) (Res e ((vL y).map λ_=>y)):=by
 rw[qai];simp only[qc,xG];cases vL y with
 |none=>exact vM
 |some b=>exact vg
theorem qu8{e:Env}(he:EnvOk e)(hp:xo):∀(n:Nat) (t:Tm),t.w<=n->t.chk=0->isG (ya e) t=true ->
  Gets (EVd (EV cfg) 217 [.ptr 0 0 0,t.av] 7 (mR e false)) (Res e (valG e t)):=by
 intro n
 induction n with
 |zero=>intro t h;have:=xK t;omega
 |succ n ih=>
  intro t hw hc hg;have hwe:=t.w_eq;have hwc:=xx hc;have hvar:=qc2 (t:=t) (by omega);have hbl:=he.len;have hbw:∀p∈e.binds,p.2.w<1099511627776:=λp hp=>by have:=xx (qd9 he.may p hp);omega
  have vals:∀l:List Tm,l.length<=64->(∀x∈l,x.w<=n∧x.chk=0∧isG (ya e) x=true)->Gets (EVd (EV cfg) 243 [.ptr 0 0 0,.sl (qb l)] 7 (mR e false)) (ResL e (seqO (xf e l))):=by
   intro l hlen hl;rw[←qkL];exact qsX (by omega) λx hx=>ih x (hl x hx).1 (hl x hx).2.1 (hl x hx).2.2
  rw[Tm.av,Tm.cells_eq]at hvar⊢;refine qsY _ _ _ _ _ _ _ _ _ _ _ ?_;unfold za0;rw[hvar];simp only[beqI,beqS,qc]
  by_cases h2:t.kind=2
  ·rw[qB3 h2,cond_true,qg9 h2];rw[qee h2]at hg;simp only[varR,kTup,qa,qi,qd,kNil];cases hx:varT t with
   |some x=>
    rw[hx]at hg;obtain⟨y,hy⟩:=qdr (of_decide_eq_true hg);have hf:=qsO (L:=e.binds) (by omega) hbw x;have hfr:qgv (qeK x e.binds)= .tup [y.av,.bool true]:=by
     unfold qeK;rw[qB5 he.may,hy];rfl
    rw[hfr]at hf;simp only[Option.isSome_some,Option.getD_some,cond_true,hf,qc,hy];obtain⟨ky,ny,sy,ly⟩:=y;rw[Tm.av_mk];refine⟨_,rfl,?_⟩;show _=((Tm.mk ky ny sy ly).av,mR e false);rw[Tm.av_mk]
   |none=>
    simp only[Option.isSome_none,cond_false]
    by_cases s1:t.str=[36,95]
    ·rw[qB5 s1,qB3 s1,cond_true,qJ];exact vg
    rw[qB6 s1,qB4 s1,cond_false]
    by_cases s2:t.str=[36,36]
    ·rw[qB5 s2,qB3 s2,cond_true,qva (by omega)];simp only[qc,qW,qJ];rw[qe6];refine qhx ?_;have h1:=qrV (e.binds.map (·.2));have h3:=qdW (l:=e.binds.map (·.2)) (λx hx=>by
      obtain⟨p,hp,rfl⟩:=List.mem_map.1 hx;exact qd9 he.may p hp)
     rw[qBE]at h1 h3;have h4:e.binds.length*4259840<=100*4259840:=qBH _ hbl;omega
    rw[qB6 s2,qB4 s2,cond_false,qJ];exact vg
  rw[qB4 h2,cond_false];have hsub:∀x∈t.subs,x.w<=n∧x.chk=0:=λx hx=>by
   have:=xW hx;exact⟨by omega,vA hc hx⟩
  by_cases h9:t.kind=9
  ·rw[qB3 h9,cond_true,qg8 h9];rw[qed h9]at hg;have hall:=yy hg;exact qkD he 9 (qbI hc) (λx hx=>⟨(hsub x hx).2,hall x hx⟩) (vals t.subs (qbI hc) λx hx=>⟨(hsub x hx).1,(hsub x hx).2,hall x hx⟩)
  rw[qB4 h9,cond_false]
  by_cases h7:t.kind=7
  ·rw[qB3 h7,cond_true];cases hl:t.subs with
   |nil=>rw[qdK h7 hl]at hg;cases hg
   |cons f r=>
    have hf:=hsub f (by rw[hl];simp);have hr:∀x∈r,x.w<=n∧x.chk=0:=λx hx=>hsub x (by rw[hl];simp[hx])
    have hlen:=qbI hc;rw[hl,qBK]at hlen;rw[qjz h7 hl];rw[qdJ h7 hl]at hg;have c2:qh 1 ((qb (f::r)).length:Int)=true:=by rw[qe];exact qB3 (by simp;omega)
    have tk:qBm ((qb (f::r)).length - 1) (qBU 1 (qb (f::r)))=qb r:=by
     rw[qR,List.drop_succ_cons,List.drop_zero,qBK,Nat.add_sub_cancel,qBS]
    rw[c2,tk];simp only[cond_true,lt0T,qdA,qc,qD,qBL,yh,qQ,qv,qb5,beqI,beqS]
    by_cases f7:f.kind=7
    ·rw[qB5 f7]at hg⊢;rw[qB3 f7,cond_true];rw[qBi]at hg;have hall:=yy hg.2;have fs:=qbI hf.2;have hfs:∀x∈f.subs,x.w<=n∧x.chk=0:=λx hx=>by
      have h1:=xW hx;have h2:=f.w_eq;exact⟨by have:=hf.1;omega,vA hf.2 hx⟩
     exact qkD he 7 fs (λx hx=>⟨(hfs x hx).2,hall x hx⟩) (vals f.subs fs λx hx=>⟨(hfs x hx).1,(hfs x hx).2,hall x hx⟩)
    rw[qB6 f7]at hg⊢;rw[qB4 f7,cond_false]
    by_cases f2:f.kind=2
    ·rw[qB5 f2]at hg
     by_cases hk:f.str=[99,111,110,115,116]
     ·rw[qB5 hk]at hg⊢;rw[qB3 hk,cond_true]
      match r,of_decide_eq_true hg with
      |[a],_=>
       simp only[lt1T,qcO,cond_true,qc,qD,qBL,yh,qQ,qv,qJ];exact vg
     rw[qB6 hk]at hg⊢;rw[qB4 hk,cond_false];rw[qBi]at hg;have hrg:=yy hg.2;have hop:=of_decide_eq_true hg.1
     by_cases ha:f.str=[97,110,100,97,108,115,111]
     ·rw[qB5 ha,qB3 ha];have hl2:r.length=2:=by
       rw[ha]at hop;have:opsG [97,110,100,97,108,115,111]=[2]:=by decide
       rw[this]at hop;simp at hop;omega
      match r,hr,hrg with
      |[],_,_=>simp at hl2
      |[a],_,_=>simp at hl2
      |a::b::q,hr,hrg=>
       have ra:=hr a (by simp);have rb:=hr b (by simp);have iha:=ih a ra.1 ra.2 (hrg a (by simp));have ihb:=ih b rb.1 rb.2 (hrg b (by simp));simp only[cond_true,cond_false,lt1T,lt2T,qcO,qx5,qc,qD,qBL,yh,qQ,qv,qJ,xf,qcG];refine Gets.bind iha ?_;intro x hx;cases hva:valG e a with
       |none=>
        rw[hva]at hx;obtain⟨h1,y,h2⟩:=hx;rw[h1,h2];simp only[qW,zy,zz,qc,qd,cond_true,qJ];exact vM
       |some y=>
        rw[hva]at hx;obtain rfl:x=(y.av,mR e false):=hx;simp only[qW,zy,zz,qc,qd,cond_false,qJ,qai,xG,qBs];cases hb:vL y with
        |none=>
         simp only[Option.isNone_none,Bool.or_true,cond_true,Option.bind_none];rw[qnq];exact vM
        |some v=>
         rw[qco hb];simp only[Option.isNone_some,Bool.or_false,cond_false,qBs];cases v with
         |false=>
          rw[qB6 (by simp)];exact vg
         |true=>
          rw[qB5 rfl];change Gets (kOpt (EVd (EV cfg) _ _ 7 (mR e false)) _) _;refine Gets.bind ihb ?_;intro x hx;cases hvb:valG e b with
          |none=>
           rw[hvb]at hx;obtain⟨h1,z,h2⟩:=hx;rw[h1,h2];simp only[qW,zy,zz,qc,qd,qB1,cond_false,qJ];exact vM
          |some z=>
           rw[hvb]at hx;obtain rfl:x=(z.av,mR e false):=hx;simp only[qW,zy,zz,qc,qd,Bool.not_false,cond_true,qJ,qBs];exact qpb
     rw[qB6 ha,qB4 ha]
     by_cases hb:f.str=[111,114,101,108,115,101]
     ·rw[qB5 hb,qB3 hb];have hl2:r.length=2:=by
       rw[hb]at hop;have:opsG [111,114,101,108,115,101]=[2]:=by decide
       rw[this]at hop;simp at hop;omega
      simp only[cond_false]
      match r,hr,hrg with
      |[],_,_=>simp at hl2
      |[a],_,_=>simp at hl2
      |a::b::q,hr,hrg=>
       have ra:=hr a (by simp);have rb:=hr b (by simp);have iha:=ih a ra.1 ra.2 (hrg a (by simp));have ihb:=ih b rb.1 rb.2 (hrg b (by simp));simp only[cond_true,cond_false,lt1T,lt2T,qcO,qx5,qc,qD,qBL,yh,qQ,qv,qJ,xf,qcG];refine Gets.bind iha ?_;intro x hx;cases hva:valG e a with
       |none=>
        rw[hva]at hx;obtain⟨h1,y,h2⟩:=hx;rw[h1,h2];simp only[qW,zy,zz,qc,qd,cond_true,qJ];exact vM
       |some y=>
        rw[hva]at hx;obtain rfl:x=(y.av,mR e false):=hx;simp only[qW,zy,zz,qc,qd,cond_false,qJ,qai,xG,qBs];cases hb:vL y with
        |none=>
         simp only[Option.isNone_none,Bool.or_true,cond_true,Option.bind_none];rw[qnq];exact vM
        |some v=>
         rw[qco hb];simp only[Option.isNone_some,Bool.or_false,cond_false,qBs];cases v with
         |true=>
          rw[qB6 (by simp)];exact vg
         |false=>
          rw[qB5 rfl];change Gets (kOpt (EVd (EV cfg) _ _ 7 (mR e false)) _) _;refine Gets.bind ihb ?_;intro x hx;cases hvb:valG e b with
          |none=>
           rw[hvb]at hx;obtain⟨h1,z,h2⟩:=hx;rw[h1,h2];simp only[qW,zy,zz,qc,qd,qB1,cond_false,qJ];exact vM
          |some z=>
           rw[hvb]at hx;obtain rfl:x=(z.av,mR e false):=hx;simp only[qW,zy,zz,qc,qd,Bool.not_false,cond_true,qJ,qBs];exact qpb
     rw[qB6 hb,qB4 hb];simp only[cond_false];have hv:=vals r (by omega) λx hx=>⟨(hr x hx).1,(hr x hx).2,hrg x hx⟩
     refine Gets.bind hv ?_;intro q hq;cases ho:seqO (xf e r)with
     |none=>
      rw[ho]at hq;obtain⟨h1,ts,h3⟩:=hq;rw[h1,h3];simp only[q4,zy,zz,qc,qd,cond_true];exact⟨_,rfl,rfl,q9,by rw[x9]⟩
     |some ts=>
      rw[ho]at hq;obtain rfl:q=(.sl (qb ts),mR e false):=hq;have hts:=qjE he (λx hx=>⟨(hr x hx).2,hrg x hx⟩) ho;have hlt:=qd0 ho;have h2:=qjJ _ hop;simp only[q4,zy,zz,qc,qd,cond_false,qBs];refine Gets.bind (qnc e f.str hts (by omega) (λ_=>hp)) ?_;intro q hq;cases hap:zm f.str ts e.self with
      |none=>
       rw[hap]at hq;obtain⟨h1,z,h3⟩:=hq;rw[h1,h3];simp only[qW,qJ];exact qk9 z
      |some z=>
       rw[hap]at hq;obtain rfl:q=(z.av,mR e false):=hq;simp only[qW,qJ,qBs];exact qhx (qjZ hts (by omega) hap)
    ·rw[qB6 f2]at hg;cases hg
  ·rw[qB4 h7,qf2 h2 h9 h7,cond_false,qJ];exact vg
def qAo:Den:=evC cfg (EV cfg) 188 none 7 (sub (qg Tryz.f188) [0,0,0])
def qAX:Ex×List AV×AH->Option AV:=kAft (Cfg.keepOut cfg 188 (qk (sub (qg Tryz.f188) [0,0,0]))) (vP 0 (kSeq (fun(fr:List AV) (H:AH)=>xa (Cfg.cut cfg 188 (qk (sub (qg Tryz.f188) [1]))) fr H fun(fr:List AV) (H:AH)=>vh cfg (EV cfg) (kfN cfg (5)) 188 none 7 (sub (qg Tryz.f188) [1]) fr H (xO cfg (Cfg.lift cfg 188 0) (fun(v:AV) (H:AH)=>(fun(r:AV×AH)=>ym 0 6 (fx 18 [(4,AV.ptr 1 0 0),(5,AV.ptr 2 0 0)]) (vP 0 (kSeq (fun(fr:List AV) (H:AH)=>xa (Cfg.cut cfg 191 (qk (sub (qg Tryz.f191) [1,1,1,1]))) fr H fun(fr:List AV) (H:AH)=>vh cfg (EV cfg) (kfN cfg 6) 191 none 0 (sub (qg Tryz.f191) [1,1,1,1]) fr H (xz cfg (Cfg.lift cfg 191 0) (qBM (Func.results Tryz.f191)))) (xz cfg (Cfg.lift cfg 191 0) (qBM (Func.results Tryz.f191))))) (Prod.snd r)) (v,H)) (qBM (Func.results (Prod.snd (188,Tryz.f188)))))) (xO cfg (Cfg.lift cfg 188 0) (fun(v:AV) (H:AH)=>(fun(r:AV×AH)=>ym 0 6 (fx 18 [(4,AV.ptr 1 0 0),(5,AV.ptr 2 0 0)]) (vP 0 (kSeq (fun(fr:List AV) (H:AH)=>xa (Cfg.cut cfg 191 (qk (sub (qg Tryz.f191) [1,1,1,1]))) fr H fun(fr:List AV) (H:AH)=>vh cfg (EV cfg) (kfN cfg 6) 191 none 0 (sub (qg Tryz.f191) [1,1,1,1]) fr H (xz cfg (Cfg.lift cfg 191 0) (qBM (Func.results Tryz.f191)))) (xz cfg (Cfg.lift cfg 191 0) (qBM (Func.results Tryz.f191))))) (Prod.snd r)) (v,H)) (qBM (Func.results (Prod.snd (188,Tryz.f188)))))))
def qwj:List AV×AH->Option AV:=fun(p:List AV×AH)=>kOpt (LOOP 7 (some [0,1,2]) [] qAo p) qAX
def qAp:Den:=evC cfg (EV cfg) 103 none 0 (sub (qg Tryz.f103) [1,1,0,1,0,0])
def qAY:Ex×List AV×AH->Option AV:=kAft (Cfg.keepOut cfg 103 3) (kRun cfg (EV cfg) (kfN cfg 6) 103 none 0 (xz cfg (Cfg.lift cfg 103 0) Tryz.f103.results.toList) ([.block 0,.seq (sub (qg Tryz.f103) [1,1,1])]))
def qzT:List AV×AH->Option AV:=λp=>kOpt (LOOP 0 (some [3,6,7,8]) ([(3,4)]) qAp p) qAY
abbrev qox(c0_0 c0_1:Int)(c0_2:Bz)(c0_3:Rz)(nc1_0:Nat)(c2_0:Bool)(c3_0 c3_1:Int)(c3_2:Bz)(c3_3 h5:Rz):Option (AV):=qwj (((fx 23 [(0,.yld 6),(1,.ptr 3 0 0),(2,.ptr 4 0 0)]):List AV),([.rows false 4 [[.int .i64 c0_0,.int .i64 c0_1,.str c0_2,.sl c0_3]],.rows false 1 [[.ms 5 0 nc1_0]],.rows false 1 [[.bool c2_0]],.rows false 4 [[.int .i64 c3_0,.int .i64 c3_1,.str c3_2,.sl c3_3]],.rows false 1 [[.ptr 2 0 0]],.rows true 4 h5,rngB Tryz.f191 191 [1,1,1,0,1,0] (fx 18 [(4,.ptr 1 0 0)]) none LoopState.ready]:AH))
abbrev qky(L:Rz)(nv3:Nat)(v8:Int)(h0:Rz):Option (AV):=qzT (((fx 19 [(3,.ms 0 0 nv3),(6,.sl L),(7,.int .i64 (L.length:Int)),(8,.int .i64 v8)]):List AV),([.rows true 4 h0]:AH))
abbrev qme(c0_0 c0_1:Int)(c0_2:Bz)(c0_3:Rz)(nc1_0:Nat)(c2_0:Bool)(c3_0 c3_1:Int)(c3_2:Bz)(c3_3 h7:Rz):Option (AV):=qwj (((fx 23 [(0,.yld 6),(1,.ptr 3 0 0),(2,.ptr 4 0 0)]):List AV),([.rows false 4 [[.int .i64 c0_0,.int .i64 c0_1,.str c0_2,.sl c0_3]],.rows false 1 [[.ms 7 0 nc1_0]],.rows false 1 [[.bool c2_0]],.rows false 4 [[.int .i64 c3_0,.int .i64 c3_1,.str c3_2,.sl c3_3]],.rows false 1 [[.ptr 2 0 0]],.dead,rngB Tryz.f191 191 [1,1,1,0,1,0] (fx 18 [(4,.ptr 1 0 0)]) none LoopState.ready,.rows true 4 h7]:AH))
theorem qsP(kt nt:Int)(st:Bz)(lt:Rz){P:AV->Prop}(h:Gets (bif kt==2 then bif st==[(95:UInt8)]then kOpt (EVs (EV cfg) 175 [.agg [.int .i64 kt,.int .i64 nt,.str st,.sl lt]]) λv=>qu v λb=>some (.bool b)else some (.bool false)else some (.bool false)) P):Gets (EVs (EV cfg) 168 [.agg [.int .i64 kt,.int .i64 nt,.str st,.sl lt]]) P:=
  gE (λ_=>funS rfl rfl Tryz.func168 rfl) (by kernel_rfl) h
theorem qsp(kt nt:Int)(st:Bz)(lt:Rz){P:AV->Prop}(h:Gets (kOpt (EVs (EV cfg) 113 [.agg [.int .i64 kt,.int .i64 nt,.str st,.sl lt]]) λv=>kTup v λcs=>qa cs λc cs=>kInt .i64 c λn=>qa cs λc cs=>qu c λb=>kNil cs (bif b then some (.bool true)else bif kt==7 then some (.bool true)else kOpt (EVs (EV cfg) 168 [.agg [.int .i64 kt,.int .i64 nt,.str st,.sl lt]]) λv=>qu v λb=>some (.bool b))) P):Gets (EVs (EV cfg) 189 [.agg [.int .i64 kt,.int .i64 nt,.str st,.sl lt]]) P:=
  gE (λ_=>funS rfl rfl Tryz.func189 rfl) (by kernel_rfl) h
theorem qso(kt nt:Int)(st:Bz)(lt:Rz){P:AV->Prop}(h:Gets (qox kt nt st lt 0 false kt nt st lt []) P):Gets (EVf (EV cfg) 191 [.agg [.int .i64 kt,.int .i64 nt,.str st,.sl lt]]) P:=
  gE (λ_=>funF rfl rfl Tryz.func191 rfl) (by kernel_rfl) h
theorem qoH(L:Rz){P:AV->Prop}(h:Gets (qky L 0 0 []) P):Gets (EVf (EV cfg) 103 [.sl L]) P:=
  gE (λ_=>funF rfl rfl Tryz.func103 rfl) (by kernel_rfl) h
theorem qo8(s:Bz){P:AV->Prop}(h:Gets (some (.agg [.int .i64 2,.int .i64 0,.str s,.sl []])) P):Gets (EVf (EV cfg) 46 [.str s]) P:=
  gE (λ_=>funF rfl rfl Tryz.func46 rfl) (by kernel_rfl) h
theorem quy(kt nt:Int)(st:Bz)(lt:Rz)(ko no:Int)(so:Bz)(lo:Rz)(self:Int){P:AV->Prop}(h:Gets (kOpt (EVf (EV cfg) 67 [.agg [.int .i64 kt,.int .i64 nt,.str st,.sl lt],.agg [.int .i64 ko,.int .i64 no,.str so,.sl lo],.int .i64 self]) λv=>kTup v λcs=>qa cs λc cs=>kInt .i64 c λn=>qa cs λc cs=>kAgg c λcs_1=>qa cs_1 λc cs_2=>kInt .i64 c λn_1=>qa cs_2 λc cs_3=>kInt .i64 c λn_2=>qa cs_3 λc cs_4=>kStr c λs=>qa cs_4 λc cs_5=>kSl c λrows=>kNil cs_5 (qa cs λc cs=>kInt .i64 c λn_3=>kNil cs (some (AV.tup [.agg [.int .i64 n_1,.int .i64 n_2,.str s,.sl rows],.bool (decide (n>0)),.int .i64 n_3])))) P):Gets (EVf (EV cfg) 25 [.agg [.int .i64 kt,.int .i64 nt,.str st,.sl lt],.agg [.int .i64 ko,.int .i64 no,.str so,.sl lo],.int .i64 self]) P:=
  gE (λ_=>funF rfl rfl Tryz.func25 rfl) (by kernel_rfl) h
theorem qo1(kt nt:Int)(st:Bz)(lt:Rz)(ko no:Int)(so:Bz)(lo:Rz){P:AV->Prop}(h:Gets (kOpt (EVf (EV cfg) 215 [.agg [.int .i64 kt,.int .i64 nt,.str st,.sl lt],.agg [.int .i64 ko,.int .i64 no,.str so,.sl lo],.sl []]) λv=>kTup v λcs=>qa cs λc cs=>kSl c λrows=>qa cs λc cs=>qu c λb=>kNil cs (some (AV.tup [.sl rows,.bool b]))) P):Gets (EVf (EV cfg) 180 [.agg [.int .i64 kt,.int .i64 nt,.str st,.sl lt],.agg [.int .i64 ko,.int .i64 no,.str so,.sl lo]]) P:=
  gE (λ_=>funF rfl rfl Tryz.func180 rfl) (by kernel_rfl) h
abbrev zj6(nc1_0:Nat)(h5 c3_3:Rz)(c0_0 c0_1:Int)(c0_2:Bz)(c0_3:Rz)(c2_0:Bool)(n n_1:Int)(s:Bz)(rows:Rz):Option (AV):=(bif qBv (0+nc1_0) (qBe h5)&&q8 (nc1_0+1) 56 then bif qh 0 (↑ nc1_0:Int)&&qn (↑ nc1_0:Int) (↑ (nc1_0+1):Int)then kOpt (qBg (qBA (qBm nc1_0 h5) [[AV.int .i64 0,.int .i64 (0:Int),.str [],.nilS]]) (0+qBj (↑ nc1_0:Int))) λrow=>bif qBv 4 (qBe row)then bif qn 1 (c3_3.length:Int)then kOpt (qBg c3_3 1) λrow_1=>bif qBh (qBe row_1) 4 then bif qBv 4 (qBe row_1)then kTmC (qBm 4 row_1) λn_2 n_3 s_1 rows_1=>(qme c0_0 c0_1 c0_2 c0_3 (nc1_0+1) c2_0 n_2 n_3 s_1 rows_1 (List.set (qBA (qBm nc1_0 h5) [[AV.int .i64 0,.int .i64 0,.str [],.nilS]]) (0+qBj (↑ nc1_0:Int)) (.int .i64 n:: .int .i64 n_1:: .str s:: .sl rows::qBU 4 row)))else none else none else none else none else none else none)
abbrev zj5(row:List AV)(nc1_0:Nat)(h5 c3_3:Rz)(c0_0 c0_1:Int)(c0_2:Bz)(c0_3:Rz)(c2_0:Bool):Option (AV):=kTmC (qBm 4 row) λn n_1 s rows=>zj6 nc1_0 h5 c3_3 c0_0 c0_1 c0_2 c0_3 c2_0 n n_1 s rows
abbrev zj4(row:List AV)(nc1_0:Nat)(h5 c3_3:Rz)(c0_0 c0_1:Int)(c0_2:Bz)(c0_3:Rz)(c2_0:Bool):Option (AV):=bif qBv 4 (qBe row)then zj5 row nc1_0 h5 c3_3 c0_0 c0_1 c0_2 c0_3 c2_0 else none
abbrev zj3(row:List AV)(nc1_0:Nat)(h5 c3_3:Rz)(c0_0 c0_1:Int)(c0_2:Bz)(c0_3:Rz)(c2_0:Bool):Option (AV):=bif qBh (qBe row) 4 then zj4 row nc1_0 h5 c3_3 c0_0 c0_1 c0_2 c0_3 c2_0 else none
abbrev zj2(c3_3:Rz)(nc1_0:Nat)(h5:Rz)(c0_0 c0_1:Int)(c0_2:Bz)(c0_3:Rz)(c2_0:Bool):Option (AV):=kOpt (qBg c3_3 0) λrow=>zj3 row nc1_0 h5 c3_3 c0_0 c0_1 c0_2 c0_3 c2_0
abbrev zj1(c3_3:Rz)(nc1_0:Nat)(h5:Rz)(c0_0 c0_1:Int)(c0_2:Bz)(c0_3:Rz)(c2_0:Bool):Option (AV):=bif qn 0 (c3_3.length:Int)then zj2 c3_3 nc1_0 h5 c0_0 c0_1 c0_2 c0_3 c2_0 else none
abbrev zj0(c3_0:Int)(c3_3:Rz)(nc1_0:Nat)(h5:Rz)(c0_0 c0_1:Int)(c0_2:Bz)(c0_3:Rz)(c2_0:Bool):Option (AV):=bif c3_0==9 then zj1 c3_3 nc1_0 h5 c0_0 c0_1 c0_2 c0_3 c2_0 else bif qBv (0+nc1_0) (qBe h5)&&true then some (AV.tup [.sl (qBm nc1_0 h5),.bool (c3_0==8)])else none
theorem qqr(c0_0 c0_1:Int)(c0_2:Bz)(c0_3:Rz)(nc1_0:Nat)(c2_0:Bool)(c3_0 c3_1:Int)(c3_2:Bz)(c3_3 h5:Rz){P:AV->Prop}(h:Gets (zj0 c3_0 c3_3 nc1_0 h5 c0_0 c0_1 c0_2 c0_3 c2_0) P):Gets (qox c0_0 c0_1 c0_2 c0_3 nc1_0 c2_0 c3_0 c3_1 c3_2 c3_3 h5) P:=
  gE (λ_=>qB (cfg:=cfg) (f:=188) (rd:=none) (bs:=7)) (by kernel_rfl) h
theorem qiV(L:Rz)(nv3:Nat)(v8:Int)(h0:Rz){P:AV->Prop}(h:Gets (bif decide (v8<(L.length:Int))then bif qh 0 v8&&qn v8 (L.length:Int)then kOpt (qBg L (v8.toNat)) λrow=>bif qBh (qBe row) 4 then bif qBv 4 (qBe row)then kTmC (qBm 4 row) λn n_1 s rows=>(kOpt (EVf (EV cfg) 45 [.agg [.int .i64 n,.int .i64 n_1,.str s,.sl rows]]) λv=>kTmV v λn n_2 s rows=>(bif qBv (0+nv3) (qBe h0)&&q8 (nv3+1) 56 then qky L (nv3+1) (qBf .i64 (v8+1)) (qBA (qBm nv3 h0) [[AV.int .i64 n,.int .i64 n_2,.str s,.sl rows]])else none))else none else none else none else bif qBv (0+nv3) (qBe h0)&&true then some (.sl (qBm nv3 h0))else none) P):Gets (qky L nv3 v8 h0) P:=
  gE (λ_=>qB (cfg:=cfg) (f:=103) (rd:=none) (bs:=0)) (by kernel_rfl) h
theorem qow(c0_0 c0_1:Int)(c0_2:Bz)(c0_3:Rz)(nc1_0:Nat)(c2_0:Bool)(c3_0 c3_1:Int)(c3_2:Bz)(c3_3 h7:Rz){P:AV->Prop}(h:Gets (zj0 c3_0 c3_3 nc1_0 h7 c0_0 c0_1 c0_2 c0_3 c2_0) P):Gets (qme c0_0 c0_1 c0_2 c0_3 nc1_0 c2_0 c3_0 c3_1 c3_2 c3_3 h7) P:=
  gE (λ_=>qB (cfg:=cfg) (f:=188) (rd:=none) (bs:=7)) (by kernel_rfl) h
end Go.Proofs.YtafdkafbgohigaaGreat
end
noncomputable section
namespace Go.Av
def lsR(r:List Tm×Bool):AV:=.tup [.sl (qb r.1),.bool r.2]
end Go.Av
namespace Go.Proofs.YtafdkafbgohigaaGreat
open Go.Av
theorem qm8{t:Tm}(h:t.w<1099511627776):EVs (EV cfg) 168 [t.av]=some (.bool (anyT t)):=by
 have hm:=qbQ h;apply Gets.get;rw[Tm.av,Tm.cells_eq]at hm⊢;refine qsP _ _ _ _ ?_;rw[hm];simp only[beqI,beqS,qc,qd];unfold anyT;cases decide (t.kind=2)<;>cases decide (t.str=[95])<;>exact⟨_,rfl,rfl⟩
theorem quz{t:Tm}(h:t.w<1099511627776):EVs (EV cfg) 189 [t.av]=some (.bool (qgr t)):=by
 have hv:=qc2 h;have ha:=qm8 h;apply Gets.get;rw[Tm.av,Tm.cells_eq]at hv ha⊢;refine qsp _ _ _ _ ?_;rw[hv,ha];unfold qgr varR;simp only[beqI,qc,qd,kTup,qa,qi,kNil];cases(varT t).isSome<;>cases decide (t.kind=7)<;>exact⟨_,rfl,rfl⟩
theorem qqU(s:List UInt8):EVf (EV cfg) 46 [.str s]=some (symT s).av:=by
 apply Gets.get;refine qo8 _ ?_;rw[qrG];exact⟨_,rfl,rfl⟩
theorem qi0{l:List Tm}(hlen:l.length<1099511627776)(hc:∀x∈l,x.Ok):EVf (EV cfg) 103 [.sl (qb l)]=some (.sl (qb l)):=by
 have loop:∀d i:Nat,i+d=l.length->Gets (qky (qb l) i i (qb (l.take i))) (·= .sl (qb l)):=by
  intro d
  induction d with
  |zero=>
   intro i hi;refine qiV _ _ _ _ ?_;obtain rfl:i=l.length:=by omega
   have hb:qBv (0+l.length) (qb l).length=true:=by rw[qBN,qe];omega
   have ht:qBm l.length (qb l)=qb l:=qBt (by simp);rw[qBS,hb,ht,qe,qB4 (by omega)];exact⟨_,rfl,rfl⟩
  |succ d ihd=>
   intro i hi;have hil:i<l.length:=by omega
   refine qiV _ _ _ _ ?_;have hx:l[i]? =some l[i]:=qBk hil;have h1:=qbX (hc l[i] (qBy hx));have h2:=ihd (i+1) (by omega);have e1:l.take (i+1)=l.take i++[l[i]]:=by rw[List.take_add_one,hx];rfl
   have ht:(qb (l.take i)).length=i:=by rw[qe,qBW];omega
   have e2:qBA (qBm i (qb (l.take i))) [l[i].cells]=qb (l.take (i+1)):=by
    rw[qBt (by omega),e1,vH,qR,vo];rfl
   have e3:qBv (0+i) (qb (l.take i)).length=true:=by rw[ht,qBN];omega
   rw[qe,qB3 (show(i:Int)<(l.length:Int) by omega),qZ,vO,qB3 hil,qaS hx,vn hil hlen,e3,y3 (by omega)];simp only[cond_true,qBw,qD,qBL,qQ,qv,yh,qJ,h1,qc,qW];rw[←Tm.cells_eq,e2];exact h2
 apply Gets.get;refine qoH _ ?_;exact(by simpa [vo]using loop l.length 0 (by omega))
theorem qoE{c:Tm}{b:Bool}:∀(n:Nat) (t:Tm) (acc:List Tm),t.w<=n->t.chk=0->acc.length+n<1099511627776->Gets (qme c.kind c.num c.str (qb c.subs) acc.length b t.kind t.num t.str (qb t.subs) (qb acc)) (·=lsR (acc++(qS t).1,(qS t).2)):=by
 intro n
 induction n with
 |zero=>intro t acc h;have:=xK t;omega
 |succ n ih=>
  intro t acc hw hc hn;refine qow _ _ _ _ _ _ _ _ _ _ _ ?_;unfold zj0 zj1 zj2 zj3 zj4 zj5 zj6;rw[beqI,beqI]
  by_cases h9:t.kind=9
  ·obtain⟨x,y,hs⟩:=zM hc h9;have hwe:=t.w_eq;rw[hs]at hwe;simp only[qE,xy]at hwe;have h:=ih y (acc++[x]) (by omega) (vA hc (by rw[hs];simp)) (by simp;omega);have e1:qBv (0+acc.length) (qb acc).length=true:=by rw[qBN,qe];omega
   have e2:qBm acc.length (qb acc)=qb acc:=qBt (by simp);have e3:qn (acc.length:Int) ((acc.length+1:Nat):Int)=true:=qB3 (by omega);have e4:(qBA (qb acc) [[AV.int .i64 0,.int .i64 0,.str [],.nilS]])[0+qBj (acc.length:Int)]? =some [AV.int .i64 0,.int .i64 0,.str [],.nilS]:=by
    rw[qBB,qB0];have:=qj1 (qb acc) [AV.int .i64 0,.int .i64 0,.str [],.nilS];rw[qe]at this;exact this
   have e5:List.set (qBA (qb acc) [[AV.int .i64 0,.int .i64 0,.str [],.nilS]]) (0+qBj (acc.length:Int)) x.cells=qb (acc++[x]):=by
    rw[qBB,qB0];have:=qj0 (qb acc) [AV.int .i64 0,.int .i64 0,.str [],.nilS] x.cells;rw[qe]at this;rw[vH,qR,vo];exact this
   rw[qB3 h9,cond_true,hs,lt0T,qdA,lt1T,qcO,e1,e2,y3 (by omega),qZ,e3,qI,e4];simp only[cond_true,qBw,qc,qD,qBL,qQ,qv,yh,qBK,List.length_nil,show qBv 4 (0+1+1+1+1)=true from rfl,List.drop_succ_cons,List.drop_zero];rw[←Tm.cells_eq,e5,x8 h9 hs];rw[qBr]at h;refine Gets.mono h ?_
   rintro _ rfl;simp[lsR]
  ·have e1:qBv (0+acc.length) (qb acc).length=true:=by rw[qBN,qe];omega
   have e2:qBm acc.length (qb acc)=qb acc:=qBt (by simp);rw[qB4 h9,cond_false,e1,e2,zC h9];exact⟨_,rfl,by simp[lsR]⟩
theorem qqy{c:Tm}{b:Bool}:∀(n:Nat) (t:Tm) (acc:List Tm),t.w<=n->t.chk=0->acc.length+n<1099511627776->Gets (qox c.kind c.num c.str (qb c.subs) acc.length b t.kind t.num t.str (qb t.subs) (qb acc)) (·=lsR (acc++(qS t).1,(qS t).2)):=by
 intro n
 induction n with
 |zero=>intro t acc h;have:=xK t;omega
 |succ n ih=>
  intro t acc hw hc hn;refine qqr _ _ _ _ _ _ _ _ _ _ _ ?_;unfold zj0 zj1 zj2 zj3 zj4 zj5 zj6;rw[beqI,beqI]
  by_cases h9:t.kind=9
  ·obtain⟨x,y,hs⟩:=zM hc h9;have hwe:=t.w_eq;rw[hs]at hwe;simp only[qE,xy]at hwe;have h:=qoE (c:=c) (b:=b) n y (acc++[x]) (by omega) (vA hc (by rw[hs];simp)) (by simp;omega);have e1:qBv (0+acc.length) (qb acc).length=true:=by rw[qBN,qe];omega
   have e2:qBm acc.length (qb acc)=qb acc:=qBt (by simp);have e3:qn (acc.length:Int) ((acc.length+1:Nat):Int)=true:=qB3 (by omega);have e4:(qBA (qb acc) [[AV.int .i64 0,.int .i64 0,.str [],.nilS]])[0+qBj (acc.length:Int)]? =some [AV.int .i64 0,.int .i64 0,.str [],.nilS]:=by
    rw[qBB,qB0];have:=qj1 (qb acc) [AV.int .i64 0,.int .i64 0,.str [],.nilS];rw[qe]at this;exact this
   have e5:List.set (qBA (qb acc) [[AV.int .i64 0,.int .i64 0,.str [],.nilS]]) (0+qBj (acc.length:Int)) x.cells=qb (acc++[x]):=by
    rw[qBB,qB0];have:=qj0 (qb acc) [AV.int .i64 0,.int .i64 0,.str [],.nilS] x.cells;rw[qe]at this;rw[vH,qR,vo];exact this
   rw[qB3 h9,cond_true,hs,lt0T,qdA,lt1T,qcO,e1,e2,y3 (by omega),qZ,e3,qI,e4];simp only[cond_true,qBw,qc,qD,qBL,qQ,qv,yh,qBK,List.length_nil,show qBv 4 (0+1+1+1+1)=true from rfl,List.drop_succ_cons,List.drop_zero];rw[←Tm.cells_eq,e5,x8 h9 hs];rw[qBr]at h;refine Gets.mono h ?_
   rintro _ rfl;simp[lsR]
  ·have e1:qBv (0+acc.length) (qb acc).length=true:=by rw[qBN,qe];omega
   have e2:qBm acc.length (qb acc)=qb acc:=qBt (by simp);rw[qB4 h9,cond_false,e1,e2,zC h9];exact⟨_,rfl,by simp[lsR]⟩
theorem qmS{t:Tm}(hc:t.chk=0):EVf (EV cfg) 191 [t.av]=some (lsR (qS t)):=by
 apply Gets.get;rw[Tm.av,Tm.cells_eq];refine qso _ _ _ _ ?_;have hw:=xx hc;have h:=qqy (c:=t) (b:=false) t.w t [] (qBp _) hc (by simp;omega);rw[vo]at h;exact h
def qAb:Den:=evC cfg (EV cfg) 246 none 4 (sub (qg Tryz.f246) [0,1,1,0,0])
def qAK:Ex×List AV×AH->Option AV:=kAft (Cfg.keepOut cfg 246 (qk (sub (qg Tryz.f246) [0,1,1,0,0]))) (vP 0 (qfH (xO cfg (Cfg.lift cfg 246 0) (fun(v:AV) (H:AH)=>(fun(r:AV×AH)=>ym 0 3 (fx 40 [(3,AV.ptr 1 0 0)]) (vP 0 (kSeq (fun(fr:List AV) (H:AH)=>xa (Cfg.cut cfg 190 (qk (sub (qg Tryz.f190) [1,1,1,1]))) fr H fun(fr:List AV) (H:AH)=>vh cfg (EV cfg) (kfN cfg 6) 190 none 0 (sub (qg Tryz.f190) [1,1,1,1]) fr H (xz cfg (Cfg.lift cfg 190 0) (qBM (Func.results Tryz.f190)))) (xz cfg (Cfg.lift cfg 190 0) (qBM (Func.results Tryz.f190))))) (Prod.snd r)) (v,H)) (qBM (Func.results (Prod.snd (246,Tryz.f246)))))))
def qwc:List AV×AH->Option AV:=fun(p:List AV×AH)=>kOpt (LOOP 4 (some [0,3]) [(3,4)] qAb p) qAK
def qAa:Den:=evC cfg (EV cfg) 190 none 0 (sub (qg Tryz.f190) [1,1,1,1,1,0,1,0,0])
def qAJ:Ex×List AV×AH->Option AV:=kAft (Cfg.keepOut cfg 190 11) (kRun cfg (EV cfg) (kfN cfg 6) 190 none 0 (xz cfg (Cfg.lift cfg 190 0) Tryz.f190.results.toList) ([.block 2,.seq (sub (qg Tryz.f190) [1,1,1,1,1,1])]))
def qwb:List AV×AH->Option AV:=λp=>kOpt (LOOP 0 (some [3,7,29]) ([(7,1)]) qAa p) qAJ
abbrev qb0(nv3:Nat)(c0_0 c0_1:Int)(c0_2:Bz)(c0_3:Rz)(c1_0 c1_1 c2_0 c2_1:Int)(c2_2:Bz)(c2_3 h4:Rz):Option (AV):=qwc (((fx 37 [(0,.yld 3),(3,.ms 4 0 nv3)]):List AV),([.rows false 4 [[.int .i64 c0_0,.int .i64 c0_1,.str c0_2,.sl c0_3]],.rows false 2 [[.int .u64 c1_0,.int .u64 c1_1]],.rows false 4 [[.int .i64 c2_0,.int .i64 c2_1,.str c2_2,.sl c2_3]],rngB Tryz.f190 190 [1,1,1,0,1,0] (fx 40 [(3,.ptr 1 0 0)]) none LoopState.ready,.rows true 4 h4]:AH))
abbrev qaz(nv3:Nat)(c0_0 c0_1:Int)(c0_2:Bz)(c0_3 h1:Rz)(c2_0 c2_1:Int)(c2_2:Bz)(c2_3 h4:Rz):Option (AV):=qwc (((fx 37 [(0,.yld 3),(3,.ms 4 0 nv3)]):List AV),([.rows false 4 [[.int .i64 c0_0,.int .i64 c0_1,.str c0_2,.sl c0_3]],.rows true 2 h1,.rows false 4 [[.int .i64 c2_0,.int .i64 c2_1,.str c2_2,.sl c2_3]],rngB Tryz.f190 190 [1,1,1,0,1,0] (fx 40 [(3,.ptr 1 0 0)]) none LoopState.ready,.rows true 4 h4]:AH))
abbrev qfr(nv7:Nat)(v29 c0_0 c0_1:Int)(h1:Rz):Option (AV):=qwb (((fx 40 [(3,.ptr 0 0 0),(7,.ms 1 0 nv7),(29,.int .i64 v29)]):List AV),([.rows false 2 [[.int .u64 c0_0,.int .u64 c0_1]],.rows true 1 h1]:AH))
abbrev qdF(nv7:Nat)(v29:Int)(h0 h1:Rz):Option (AV):=qwb (((fx 40 [(3,.ptr 0 0 0),(7,.ms 1 0 nv7),(29,.int .i64 v29)]):List AV),([.rows true 2 h0,.rows true 1 h1]:AH))
theorem qi1(n:Int)(r:List AV){P:MV×List (List AV)->Prop}(h:Gets (bif decide (n<64)then kOpt (qBg r 0) λv=>kInt .u64 v λn_1=>kOpt (qU (Op.shift BinOp.shl .u64 1 .i64 n)) λv=>kInt .u64 v λn=>kOpt (qU (Op.intBits BinOp.or .u64 n_1 n)) λv=>kInt .u64 v λn=>bif qBv 1 (qBe r)then some (MV.unit,[AV.int .u64 n::qBU 1 r])else none else kOpt (qBg r 1) λv=>kInt .u64 v λn_1=>kOpt (qU (Op.shift BinOp.shl .u64 1 .i64 (qBf .i64 (n - 64)))) λv=>kInt .u64 v λn=>kOpt (qU (Op.intBits BinOp.or .u64 n_1 n)) λv=>kInt .u64 v λn=>bif qBv 2 (qBe r)then some (MV.unit,[qBA (qBA (qBm 1 r) [AV.int .u64 n]) (qBU 2 r)])else none) P):Gets (EVm (EV cfg) 226 [.ptr 0 0 0,.int .i64 n] 2 [r]) P:=
  gE (λ_=>funM rfl rfl Tryz.func226 rfl) (by kernel_rfl) h
theorem qqJ(kp np:Int)(sp:Bz)(lp:Rz){P:AV->Prop}(h:Gets (kOpt (EVs (EV cfg) 175 [.agg [.int .i64 kp,.int .i64 np,.str sp,.sl lp]]) λv=>qu v λb=>bif ! b then some (.sl [])else qb0 1 kp np sp lp 0 (0:Int) kp np sp lp [[AV.int .i64 kp,.int .i64 np,.str sp,.sl lp]]) P):Gets (EVf (EV cfg) 190 [.agg [.int .i64 kp,.int .i64 np,.str sp,.sl lp]]) P:=
  gE (λ_=>funF rfl rfl Tryz.func190 rfl) (by kernel_rfl) h
theorem qeW(nv3:Nat)(c0_0 c0_1:Int)(c0_2:Bz)(c0_3:Rz)(c1_0 c1_1 c2_0 c2_1:Int)(c2_2:Bz)(c2_3 h4:Rz){P:AV->Prop}(h:Gets (bif decide ((↑ nv3:Int)>0)then bif qh 0 (qBf .i64 ((↑ nv3:Int) - 1))&&qn (qBf .i64 ((↑ nv3:Int) - 1)) (↑ nv3:Int)then kOpt (qBg h4 (0+qBj (qBf .i64 ((↑ nv3:Int) - 1)))) λrow=>bif qBv 4 (qBe row)then kTmC (qBm 4 row) λn n_1 s rows=>(bif qh 0 (qBf .i64 ((↑ nv3:Int) - 1))&&qh (qBf .i64 ((↑ nv3:Int) - 1)) (↑ nv3:Int)then bif n==7 then bif xR 4 rows then bif qBv (0+(qBj (qBf .i64 ((↑ nv3:Int) - 1)) - 0)) (qBe h4)&&q8 (qBj (qBf .i64 ((↑ nv3:Int) - 1)) - 0+qBe rows) 56 then qb0 (qBj (qBf .i64 ((↑ nv3:Int) - 1)) - 0+qBe rows) c0_0 c0_1 c0_2 c0_3 c1_0 c1_1 c2_0 c2_1 c2_2 c2_3 (qBA (qBm (qBj (qBf .i64 ((↑ nv3:Int) - 1)) - 0) h4) rows)else none else none else bif n==9 then bif xR 4 rows then bif qBv (0+(qBj (qBf .i64 ((↑ nv3:Int) - 1)) - 0)) (qBe h4)&&q8 (qBj (qBf .i64 ((↑ nv3:Int) - 1)) - 0+qBe rows) 56 then qb0 (qBj (qBf .i64 ((↑ nv3:Int) - 1)) - 0+qBe rows) c0_0 c0_1 c0_2 c0_3 c1_0 c1_1 c2_0 c2_1 c2_2 c2_3 (qBA (qBm (qBj (qBf .i64 ((↑ nv3:Int) - 1)) - 0) h4) rows)else none else none else kOpt (EVs (EV cfg) 176 [.str s]) λv=>kTup v λcs=>qa cs λc cs=>kInt .i64 c λn_2=>qa cs λc cs=>qu c λb=>kNil cs (bif b then bif n==2 then kOpt (EVm (EV cfg) 226 [.ptr 0 0 0,.int .i64 n_2] 2 [[AV.int .u64 c1_0,.int .u64 c1_1]]) λq=>qa2 q.1 (qaz (qBj (qBf .i64 ((↑ nv3:Int) - 1)) - 0) c0_0 c0_1 c0_2 c0_3 q.2 c2_0 c2_1 c2_2 c2_3 h4)else qb0 (qBj (qBf .i64 ((↑ nv3:Int) - 1)) - 0) c0_0 c0_1 c0_2 c0_3 c1_0 c1_1 c2_0 c2_1 c2_2 c2_3 h4 else qb0 (qBj (qBf .i64 ((↑ nv3:Int) - 1)) - 0) c0_0 c0_1 c0_2 c0_3 c1_0 c1_1 c2_0 c2_1 c2_2 c2_3 h4)else none)else none else none else qfr 0 0 c1_0 c1_1 []) P):Gets (qb0 nv3 c0_0 c0_1 c0_2 c0_3 c1_0 c1_1 c2_0 c2_1 c2_2 c2_3 h4) P:=
  gE (λ_=>qB (cfg:=cfg) (f:=246) (rd:=none) (bs:=4)) (by kernel_rfl) h
theorem qdS(nv3:Nat)(c0_0 c0_1:Int)(c0_2:Bz)(c0_3 h1:Rz)(c2_0 c2_1:Int)(c2_2:Bz)(c2_3 h4:Rz){P:AV->Prop}(h:Gets (bif decide ((↑ nv3:Int)>0)then bif qh 0 (qBf .i64 ((↑ nv3:Int) - 1))&&qn (qBf .i64 ((↑ nv3:Int) - 1)) (↑ nv3:Int)then kOpt (qBg h4 (0+qBj (qBf .i64 ((↑ nv3:Int) - 1)))) λrow=>bif qBv 4 (qBe row)then kTmC (qBm 4 row) λn n_1 s rows=>(bif qh 0 (qBf .i64 ((↑ nv3:Int) - 1))&&qh (qBf .i64 ((↑ nv3:Int) - 1)) (↑ nv3:Int)then bif n==7 then bif xR 4 rows then bif qBv (0+(qBj (qBf .i64 ((↑ nv3:Int) - 1)) - 0)) (qBe h4)&&q8 (qBj (qBf .i64 ((↑ nv3:Int) - 1)) - 0+qBe rows) 56 then qaz (qBj (qBf .i64 ((↑ nv3:Int) - 1)) - 0+qBe rows) c0_0 c0_1 c0_2 c0_3 h1 c2_0 c2_1 c2_2 c2_3 (qBA (qBm (qBj (qBf .i64 ((↑ nv3:Int) - 1)) - 0) h4) rows)else none else none else bif n==9 then bif xR 4 rows then bif qBv (0+(qBj (qBf .i64 ((↑ nv3:Int) - 1)) - 0)) (qBe h4)&&q8 (qBj (qBf .i64 ((↑ nv3:Int) - 1)) - 0+qBe rows) 56 then qaz (qBj (qBf .i64 ((↑ nv3:Int) - 1)) - 0+qBe rows) c0_0 c0_1 c0_2 c0_3 h1 c2_0 c2_1 c2_2 c2_3 (qBA (qBm (qBj (qBf .i64 ((↑ nv3:Int) - 1)) - 0) h4) rows)else none else none else kOpt (EVs (EV cfg) 176 [.str s]) λv=>kTup v λcs=>qa cs λc cs=>kInt .i64 c λn_2=>qa cs λc cs=>qu c λb=>kNil cs (bif b then bif n==2 then kOpt (EVm (EV cfg) 226 [.ptr 0 0 0,.int .i64 n_2] 2 h1) λq=>qa2 q.1 (qaz (qBj (qBf .i64 ((↑ nv3:Int) - 1)) - 0) c0_0 c0_1 c0_2 c0_3 q.2 c2_0 c2_1 c2_2 c2_3 h4)else qaz (qBj (qBf .i64 ((↑ nv3:Int) - 1)) - 0) c0_0 c0_1 c0_2 c0_3 h1 c2_0 c2_1 c2_2 c2_3 h4 else qaz (qBj (qBf .i64 ((↑ nv3:Int) - 1)) - 0) c0_0 c0_1 c0_2 c0_3 h1 c2_0 c2_1 c2_2 c2_3 h4)else none)else none else none else qdF 0 0 h1 []) P):Gets (qaz nv3 c0_0 c0_1 c0_2 c0_3 h1 c2_0 c2_1 c2_2 c2_3 h4) P:=
  gE (λ_=>qB (cfg:=cfg) (f:=246) (rd:=none) (bs:=4)) (by kernel_rfl) h
theorem qiM(nv7:Nat)(v29 c0_0 c0_1:Int)(h1:Rz){P:AV->Prop}(h:Gets (bif decide (v29<100)then kOpt (EVs (EV cfg) 227 [AV.cptr [AV.int .u64 c0_0,.int .u64 c0_1] 0,.int .i64 v29]) λv=>qu v λb=>bif b then bif qBv (0+nv7) (qBe h1)&&q8 (nv7+1) 8 then qfr (nv7+1) (qBf .i64 (v29+1)) c0_0 c0_1 (qBA (qBm nv7 h1) [[AV.int .i64 v29]])else none else qfr nv7 (qBf .i64 (v29+1)) c0_0 c0_1 h1 else bif qBv (0+nv7) (qBe h1)&&true then some (.sl (qBm nv7 h1))else none) P):Gets (qfr nv7 v29 c0_0 c0_1 h1) P:=
  gE (λ_=>qB (cfg:=cfg) (f:=190) (rd:=none) (bs:=0)) (by kernel_rfl) h
theorem qgY(nv7:Nat)(v29:Int)(h0 h1:Rz){P:AV->Prop}(h:Gets (bif decide (v29<100)then kOpt (qBg h0 0) λrow=>bif qF 0 row then bif qF 0 [AV.cptr row 0,.int .i64 v29]then kOpt (EVs (EV cfg) 227 [AV.cptr row 0,.int .i64 v29]) λv=>qu v λb=>bif b then bif qBv (0+nv7) (qBe h1)&&q8 (nv7+1) 8 then qdF (nv7+1) (qBf .i64 (v29+1)) h0 (qBA (qBm nv7 h1) [[AV.int .i64 v29]])else none else qdF nv7 (qBf .i64 (v29+1)) h0 h1 else none else none else bif qBv (0+nv7) (qBe h1)&&true then some (.sl (qBm nv7 h1))else none) P):Gets (qdF nv7 v29 h0 h1) P:=
  gE (λ_=>qB (cfg:=cfg) (f:=190) (rd:=none) (bs:=0)) (by kernel_rfl) h
end Go.Proofs.YtafdkafbgohigaaGreat
end
noncomputable section
namespace Go.Av
def zt(q:Nat->Bool):AV:=.sl (vC (((qBT 100).filter q).map Int.ofNat))
theorem qbq:∀l:List Tm,l.length<=wL l
 |[]=>qBp _
 |t::l=>by rw[qE,qBK];have:=xK t;have:=qbq l;omega
theorem qrI:qbv (λ_=>false) [.int .u64 0,.int .u64 0]:=⟨0,0,[],rfl,by decide,by decide,λn _=>Nat.zero_testBit n,λn _=>Nat.zero_testBit n⟩
theorem qex(x:Tm):xR 4 (qb x.subs)=true:=qb5 _
end Go.Av
namespace Go.Proofs.YtafdkafbgohigaaGreat
open Go.Av
theorem qkK{p:Nat->Bool}{r:List AV}(h:qbv p r){n:Nat}(hn:n<100):∃r',EVm (EV cfg) 226 [.ptr 0 0 0,.int .i64 n] 2 [r]=some (.unit,[r']) ∧
  qbv (λi=>p i||decide (i=n)) r'∧r'.drop 2=r.drop 2∧r'.length=r.length∧(qF 0 r=true->qF 0 r'=true):=by
 obtain⟨lo,hi,l,rfl,h1,h2,h3,h4⟩:=h;have pw:∀{k:Nat},k<64->2 ^ k<18446744073709551616:=by
  intro k hk;have:2 ^ k<2 ^ 64:=Nat.pow_lt_pow_right (by omega) hk
  simpa using this
 have orlt:∀{a b:Nat},a<18446744073709551616->b<18446744073709551616->a ||| b<18446744073709551616:=by
  intro a b ha hb;have:=Nat.or_lt_two_pow (n:=64) (by simpa using ha) (by simpa using hb)
  simpa using this
 have bit:∀{a k i:Nat},(a ||| 2 ^ k).testBit i=(a.testBit i||decide (i=k)):=by
  intro a k i;rw[Nat.testBit_or,Nat.testBit_two_pow]
  congr 1
  exact decide_eq_decide.2 ⟨λh=>h.symm,λh=>h.symm⟩
 by_cases hs:n<64
 ·refine⟨.int .u64 ((lo ||| 2 ^ n:Nat):Int):: .int .u64 hi::l,?_,⟨_,hi,l,rfl,orlt h1 (pw hs),h2,λi hi=>?_,λi hi=>?_⟩,rfl,rfl,λh=>h⟩
  ·apply Gets.get;refine qi1 _ _ ?_;rw[qB3 (show(n:Int)<64 by omega)];simp only[cond_true,qI,qBP,qc,qi,qig hs,qip h1 (pw hs)];exact⟨_,rfl,rfl⟩
  ·rw[bit,h3 i hi]
  ·have:decide (i+64=n)=false:=qB4 (by omega);rw[h4 i hi];show p (i+64)=(p (i+64)||decide (i+64=n));rw[this,Bool.or_false]
 ·obtain⟨k,rfl⟩:∃k,n=k+64:=⟨n - 64,by omega⟩;have hk:k<64:=by omega
  have w:qBf .i64 (((k+64:Nat):Int) - 64)=(k:Int):=by rw[vq (by omega) (by omega)];omega
  refine⟨.int .u64 lo:: .int .u64 ((hi ||| 2 ^ k:Nat):Int)::l,?_,⟨lo,_,l,rfl,h1,orlt h2 (pw hk),λi hi=>?_,λi hi=>?_⟩,rfl,rfl,λh=>h⟩
  ·apply Gets.get;refine qi1 _ _ ?_;rw[qB4 (show ¬((k+64:Nat):Int)<64 by omega),w];simp only[cond_false,qI,qBQ,qBP,qc,qi,qig hk,qip h2 (pw hk)];exact⟨_,rfl,rfl⟩
  ·have:decide (i=k+64)=false:=qB4 (by omega);rw[h3 i hi];show p i=(p i||decide (i=k+64));rw[this,Bool.or_false]
  ·rw[bit,h4 i hi]
   congr 1
   exact decide_eq_decide.2 (by omega)
theorem qoA{q:Nat->Bool}{s:List AV}(h:qbv q s)(h2:s.length=2):Gets (qdF 0 0 [s] []) (·=zt q):=by
 have hf:qF 0 s=true:=by
  obtain⟨lo,hi,l,rfl,_⟩:=h;cases l with
  |nil=>rfl
  |cons a l=>simp at h2
 have hg:∀n:Int,qF 0 [AV.cptr s 0,.int .i64 n]=true:=by
  intro n;obtain⟨lo,hi,l,rfl,_⟩:=h;cases l with
  |nil=>rfl
  |cons a l=>simp at h2
 have loop:∀d i:Nat,i+d=100->Gets (qdF ((qBT i).filter q).length i [s] (vC (((qBT i).filter q).map Int.ofNat))) (·=zt q):=by
  intro d
  induction d with
  |zero=>
   intro i hi;obtain rfl:i=100:=by omega
   refine qgY _ _ _ _ ?_;have e1:qBv (0+((qBT 100).filter q).length) (vC (((qBT 100).filter q).map Int.ofNat)).length=true:=by rw[qBN,zE,qBE];omega
   have e2:qBm ((qBT 100).filter q).length (vC (((qBT 100).filter q).map Int.ofNat))=vC (((qBT 100).filter q).map Int.ofNat):=qBt (by rw[zE,qBE];exact qBp _);rw[show decide (((100:Nat):Int)<100)=false from rfl,e1,e2];exact⟨_,rfl,rfl⟩
  |succ d ih=>
   intro i hi;have h1:=ih (i+1) (by omega);rw[List.range_succ,List.filter_append]at h1;refine qgY _ _ _ _ ?_;have hle:((qBT i).filter q).length<=i:=by have:=List.length_filter_le q (qBT i);rw[List.length_range]at this;exact this
   have e1:qBv (0+((qBT i).filter q).length) (vC (((qBT i).filter q).map Int.ofNat)).length=true:=by rw[qBN,zE,qBE];omega
   have e2:qBm ((qBT i).filter q).length (vC (((qBT i).filter q).map Int.ofNat))=vC (((qBT i).filter q).map Int.ofNat):=qBt (by rw[zE,qBE];exact qBp _);have e3:qBf .i64 ((i:Int)+1)=((i+1:Nat):Int):=by rw[vq (by omega) (by omega)];omega
   rw[qB3 (show(i:Int)<100 by omega),qI,qBP,e1,e2,e3,qx7 (by omega)];simp only[cond_true,qc,qd,hf,hg,qBw,qcZ h (show i<100 by omega)];cases hq:q i with
   |true=>
    rw[List.filter_cons_of_pos hq,List.filter_nil,List.map_append,qBr]at h1;rw[cond_true];have e4:vC (((qBT i).filter q).map Int.ofNat++[i].map Int.ofNat)=qBA (vC (((qBT i).filter q).map Int.ofNat)) [[AV.int .i64 i]]:=by
     unfold vC;rw[List.map_append];rfl
    rw[e4]at h1;exact h1
   |false=>
    rw[List.filter_cons_of_neg (by rw[hq];decide),List.filter_nil,List.append_nil]at h1;rw[cond_false];exact h1
 exact loop 100 0 rfl
theorem qmR:Gets (qfr 0 0 0 0 []) (·=zt λi=>([]:List Tm).any (xL (i:Nat))):=by
 have loop:∀d i:Nat,i+d=100->Gets (qfr 0 i 0 0 []) (·=zt λi=>([]:List Tm).any (xL (i:Nat))):=by
  intro d
  induction d with
  |zero=>
   intro i hi;obtain rfl:i=100:=by omega
   refine qiM _ _ _ _ _ ?_;rw[show decide (((100:Nat):Int)<100)=false from rfl];exact⟨_,rfl,rfl⟩
  |succ d ih=>
   intro i hi;refine qiM _ _ _ _ _ ?_;have e3:qBf .i64 ((i:Int)+1)=((i+1:Nat):Int):=by rw[vq (by omega) (by omega)];omega
   rw[qB3 (show(i:Int)<100 by omega),qcZ qrI (show i<100 by omega),e3];simp only[cond_true,qc,qd,cond_false];exact ih (i+1) (by omega)
 exact loop 100 0 rfl
theorem qse{p:Tm}:∀(n:Nat) (R:List Tm) (h4:List (List AV)) (s:List AV) (q:Nat->Bool),wL R<=n->n<1099511627776->R.length<=h4.length->h4.take R.length=qb R->qbv q s->s.length=2-> 
  Gets (qaz R.length p.kind p.num p.str (qb p.subs) [s] p.kind p.num p.str (qb p.subs) h4) (·=zt λi=>q i||R.any (xL (i:Nat))):=by
 intro n
 induction n with
 |zero=>
  intro R h4 s q hw hn hl ht hs hs2;have hR:R=[]:=by
   cases R with
   |nil=>rfl
   |cons x l=>rw[qE]at hw;have:=xK x;omega
  subst hR;refine qdS _ _ _ _ _ _ _ _ _ _ _ ?_;have:decide (((([]:List Tm).length:Nat):Int)>0)=false:=rfl;rw[this,cond_false];exact qoA (by simpa using hs) hs2
 |succ n ih=>
  intro R h4 s q hw hn hl ht hs hs2;rcases List.eq_nil_or_concat R with rfl|⟨R',x,hR⟩
  ·refine qdS _ _ _ _ _ _ _ _ _ _ _ ?_;have:decide (((([]:List Tm).length:Nat):Int)>0)=false:=rfl;rw[this,cond_false];exact qoA (by simpa using hs) hs2
  ·obtain rfl:R=R'++[x]:=by rw[hR];simp
   clear hR;rw[y9,qE,xy]at hw;have hx:=xK x;have hwe:=x.w_eq;have hRl:=qbq R';rw[qBr,List.length_singleton]at hl ht⊢;refine qdS _ _ _ _ _ _ _ _ _ _ _ ?_;have g0:decide (((R'.length+1:Nat):Int)>0)=true:=qB3 (by omega);have g1:qBf .i64 (((R'.length+1:Nat):Int) - 1)=(R'.length:Int):=by rw[vq (by omega) (by omega)];omega
   have g2:qn (R'.length:Int) ((R'.length+1:Nat):Int)=true:=qB3 (by omega);have g3:qh (R'.length:Int) ((R'.length+1:Nat):Int)=true:=qB3 (by omega);have g4:h4[R'.length]? =some x.cells:=by
    have:(h4.take (R'.length+1))[R'.length]? =some x.cells:=by
     rw[ht,zx];simp
    rwa [List.getElem?_take,qB5 (by omega)]at this
   have g5:h4.take R'.length=qb R':=by
    have:(h4.take (R'.length+1)).take R'.length=qb R':=by
     rw[ht,vH];exact List.take_left' (qe R')
    rwa [List.take_take,Nat.min_eq_left (by omega)]at this
   have g6:qBv (0+R'.length) h4.length=true:=by rw[qBN];omega
   rw[g0,g1,qZ,g2,g3,qI,qBB,qB0,g4,Nat.sub_zero];simp only[cond_true,qBw,qc,qD,qQ,qv,yh,qe,g5,qex];have push:(x.kind=7∨x.kind=9)->Gets (qaz (R'.length+x.subs.length) p.kind p.num p.str (qb p.subs) [s] p.kind p.num p.str (qb p.subs) (qBA (qb R') (qb x.subs))) (·=zt λi=>q i||(R'++[x]).any (xL (i:Nat))):=by
    intro hk;have hl:=qbq x.subs;have h:=ih (R'++x.subs) (qb (R'++x.subs)) s q (by rw[y9];omega) (by omega) (by rw[qe];exact qBp _) (qBt (by simp)) hs hs2;rw[qBr]at h;rw[show qBA (qb R') (qb x.subs)=qb (R'++x.subs)from(vH _ _).symm];refine Gets.mono h ?_;rintro _ rfl;apply congrArg zt
    funext i
    rw[List.any_append,List.any_append,List.any_cons,List.any_nil,Bool.or_false,qbH _ x,qB5 hk]
   have drop:(¬(x.kind=7∨x.kind=9))->¬(x.kind=2∧(varG x.str).isSome)->Gets (qaz R'.length p.kind p.num p.str (qb p.subs) [s] p.kind p.num p.str (qb p.subs) h4) (·=zt λi=>q i||(R'++[x]).any (xL (i:Nat))):=by
    intro hk hv;refine Gets.mono (ih R' h4 s q (by omega) (by omega) (by omega) g5 hs hs2) ?_;rintro _ rfl;apply congrArg zt
    funext i
    have:xL (i:Nat) x=false:=by
     rw[qbH,qB6 hk]
     by_cases h2:x.kind=2
     ·rw[qB3 h2,qBV,qB4];intro h;exact hv ⟨h2,by rw[h];rfl⟩
     ·rw[qB4 h2,Bool.false_and]
    rw[List.any_append,List.any_cons,List.any_nil,this,Bool.or_false,Bool.or_false]
   rw[beqI,beqI,beqI,qb7,g6]
   by_cases h7:x.kind=7
   ·rw[qB3 h7];simp only[cond_true,qBV,y3 (show R'.length+x.subs.length<=1099511627776 by have:=qbq x.subs;omega)];exact push (.inl h7)
   rw[qB4 h7,cond_false]
   by_cases h9:x.kind=9
   ·rw[qB3 h9];simp only[cond_true,qBV,y3 (show R'.length+x.subs.length<=1099511627776 by have:=qbq x.subs;omega)];exact push (.inr h9)
   rw[qB4 h9,cond_false];have hk:¬(x.kind=7∨x.kind=9):=by omega
   unfold varR;simp only[qc,kTup,qa,qi,qd,kNil];cases hv:varG x.str with
   |none=>
    rw[hv]at drop;exact drop hk (by simp)
   |some v=>
    by_cases h2:x.kind=2
    ·rw[qB3 h2];obtain⟨hv0,hv9⟩:=qfu hv;obtain⟨m,rfl⟩:∃m:Nat,v=m:=⟨v.toNat,by omega⟩;obtain⟨r',hr1,hr2,hr3,hr4,hr5⟩:=qkK hs (n:=m) (by omega);simp only[Option.getD_some,Option.isSome_some,cond_true,hr1,qc,qa2];refine Gets.mono (ih R' h4 r' _ (by omega) (by omega) (by omega) g5 hr2 (by rw[hr4];exact hs2)) ?_;rintro _ rfl;apply congrArg zt
     funext i
     have:xL (i:Nat) x=decide (i=m):=by
      rw[qbH,qB6 hk,qB3 h2,qBV,hv];exact decide_eq_decide.2 ⟨λh=>by cases h;rfl,λh=>by rw[h]⟩
     rw[List.any_append,List.any_cons,List.any_nil,this,Bool.or_false];cases q i<;>cases decide (i=m)<;>cases R'.any (xL (i:Nat))<;>rfl
    ·rw[qB4 h2];exact drop hk (λh=>h2 h.1)
theorem qum{p:Tm}:∀(n:Nat) (R:List Tm) (h4:List (List AV)),wL R<=n->n<1099511627776->R.length<=h4.length->h4.take R.length=qb R-> 
  Gets (qb0 R.length p.kind p.num p.str (qb p.subs) 0 0 p.kind p.num p.str (qb p.subs) h4) (·=zt λi=>R.any (xL (i:Nat))):=by
 intro n
 induction n with
 |zero=>
  intro R h4 hw hn hl ht ;have hR:R=[]:=by
   cases R with
   |nil=>rfl
   |cons x l=>rw[qE]at hw;have:=xK x;omega
  subst hR;refine qeW _ _ _ _ _ _ _ _ _ _ _ _ ?_;have:decide (((([]:List Tm).length:Nat):Int)>0)=false:=rfl;rw[this,cond_false];exact qmR
 |succ n ih=>
  intro R h4 hw hn hl ht ;rcases List.eq_nil_or_concat R with rfl|⟨R',x,hR⟩
  ·refine qeW _ _ _ _ _ _ _ _ _ _ _ _ ?_;have:decide (((([]:List Tm).length:Nat):Int)>0)=false:=rfl;rw[this,cond_false];exact qmR
  ·obtain rfl:R=R'++[x]:=by rw[hR];simp
   clear hR;rw[y9,qE,xy]at hw;have hx:=xK x;have hwe:=x.w_eq;have hRl:=qbq R';rw[qBr,List.length_singleton]at hl ht⊢;refine qeW _ _ _ _ _ _ _ _ _ _ _ _ ?_;have g0:decide (((R'.length+1:Nat):Int)>0)=true:=qB3 (by omega);have g1:qBf .i64 (((R'.length+1:Nat):Int) - 1)=(R'.length:Int):=by rw[vq (by omega) (by omega)];omega
   have g2:qn (R'.length:Int) ((R'.length+1:Nat):Int)=true:=qB3 (by omega);have g3:qh (R'.length:Int) ((R'.length+1:Nat):Int)=true:=qB3 (by omega);have g4:h4[R'.length]? =some x.cells:=by
    have:(h4.take (R'.length+1))[R'.length]? =some x.cells:=by
     rw[ht,zx];simp
    rwa [List.getElem?_take,qB5 (by omega)]at this
   have g5:h4.take R'.length=qb R':=by
    have:(h4.take (R'.length+1)).take R'.length=qb R':=by
     rw[ht,vH];exact List.take_left' (qe R')
    rwa [List.take_take,Nat.min_eq_left (by omega)]at this
   have g6:qBv (0+R'.length) h4.length=true:=by rw[qBN];omega
   rw[g0,g1,qZ,g2,g3,qI,qBB,qB0,g4,Nat.sub_zero];simp only[cond_true,qBw,qc,qD,qQ,qv,yh,qe,g5,qex];have push:(x.kind=7∨x.kind=9)->Gets (qb0 (R'.length+x.subs.length) p.kind p.num p.str (qb p.subs) 0 0 p.kind p.num p.str (qb p.subs) (qBA (qb R') (qb x.subs))) (·=zt λi=>(R'++[x]).any (xL (i:Nat))):=by
    intro hk;have hl:=qbq x.subs;have h:=ih (R'++x.subs) (qb (R'++x.subs)) (by rw[y9];omega) (by omega) (by rw[qe];exact qBp _) (qBt (by simp)) ;rw[qBr]at h;rw[show qBA (qb R') (qb x.subs)=qb (R'++x.subs)from(vH _ _).symm];refine Gets.mono h ?_;rintro _ rfl;apply congrArg zt
    funext i
    rw[List.any_append,List.any_append,List.any_cons,List.any_nil,Bool.or_false,qbH _ x,qB5 hk]
   have drop:(¬(x.kind=7∨x.kind=9))->¬(x.kind=2∧(varG x.str).isSome)->Gets (qb0 R'.length p.kind p.num p.str (qb p.subs) 0 0 p.kind p.num p.str (qb p.subs) h4) (·=zt λi=>(R'++[x]).any (xL (i:Nat))):=by
    intro hk hv;refine Gets.mono (ih R' h4 (by omega) (by omega) (by omega) g5 ) ?_;rintro _ rfl;apply congrArg zt
    funext i
    have:xL (i:Nat) x=false:=by
     rw[qbH,qB6 hk]
     by_cases h2:x.kind=2
     ·rw[qB3 h2,qBV,qB4];intro h;exact hv ⟨h2,by rw[h];rfl⟩
     ·rw[qB4 h2,Bool.false_and]
    rw[List.any_append,List.any_cons,List.any_nil,this,Bool.or_false,Bool.or_false]
   rw[beqI,beqI,beqI,qb7,g6]
   by_cases h7:x.kind=7
   ·rw[qB3 h7];simp only[cond_true,qBV,y3 (show R'.length+x.subs.length<=1099511627776 by have:=qbq x.subs;omega)];exact push (.inl h7)
   rw[qB4 h7,cond_false]
   by_cases h9:x.kind=9
   ·rw[qB3 h9];simp only[cond_true,qBV,y3 (show R'.length+x.subs.length<=1099511627776 by have:=qbq x.subs;omega)];exact push (.inr h9)
   rw[qB4 h9,cond_false];have hk:¬(x.kind=7∨x.kind=9):=by omega
   unfold varR;simp only[qc,kTup,qa,qi,qd,kNil];cases hv:varG x.str with
   |none=>
    rw[hv]at drop;exact drop hk (by simp)
   |some v=>
    by_cases h2:x.kind=2
    ·rw[qB3 h2];obtain⟨hv0,hv9⟩:=qfu hv;obtain⟨m,rfl⟩:∃m:Nat,v=m:=⟨v.toNat,by omega⟩;obtain⟨r',hr1,hr2,hr3,hr4,hr5⟩:=qkK qrI (n:=m) (by omega);simp only[Option.getD_some,Option.isSome_some,cond_true,hr1,qc,qa2];refine Gets.mono (qse n R' h4 r' _ (by omega) (by omega) (by omega) g5 hr2 (by rw[hr4];rfl)) ?_;rintro _ rfl;apply congrArg zt
     funext i
     have:xL (i:Nat) x=decide (i=m):=by
      rw[qbH,qB6 hk,qB3 h2,qBV,hv];exact decide_eq_decide.2 ⟨λh=>by cases h;rfl,λh=>by rw[h]⟩
     rw[List.any_append,List.any_cons,List.any_nil,this,Bool.or_false];cases decide (i=m)<;>cases R'.any (xL (i:Nat))<;>rfl
    ·rw[qB4 h2];exact drop hk (λh=>h2 h.1)
theorem qsL{t:Tm}(h:t.w<1099511627776):EVf (EV cfg) 190 [t.av]=some (.sl (vC (zQ t))):=by
 have hm:=qbQ h;apply Gets.get;rw[Tm.av,Tm.cells_eq]at hm⊢;refine qqJ _ _ _ _ ?_;rw[hm];simp only[qc,qd];unfold zQ
 by_cases hc:t.chk=0
 ·rw[qB3 hc,qB5 hc];have hl:=qum (p:=t) t.w [t] [t.cells] (by rw[qE,xy];exact qBp _) h (qBp _) rfl;rw[Tm.cells_eq]at hl;refine Gets.mono hl ?_;rintro _ rfl;unfold zt;have:(λi:Nat=>[t].any (xL (i:Nat)))=λi:Nat=>xL (i:Nat) t:=by funext i;simp
  rw[this]
 ·rw[qB4 hc,qB6 hc];exact⟨_,rfl,rfl⟩
def qwk:Den:=evC cfg (EV cfg) 151 none 0 (sub (qg Tryz.f151) [1,0,1,1,0,0,0])
def qws:Ex×List AV×AH->Option AV:=kAft (Cfg.keepOut cfg 151 2) (kRun cfg (EV cfg) (kfN cfg 6) 151 none 0 (qaM cfg (Cfg.lift cfg 151 0) Tryz.f151.results.toList) ([.block 0,.seq (sub (qg Tryz.f151) [1,0,1,1,1]),.scope]))
def qzJ:List AV×AH->Option AV:=λp=>kOpt (LOOP 0 (some [5]) ([(5,8)]) qwk p) qws
def qz6:Den:=evC cfg (EV cfg) 151 none 0 (sub (qg Tryz.f151) [1,0,1,1,0,0,0,1,0,1,1,1,1,1,0,0])
def qAF:Ex×List AV×AH->Option AV:=kAft (Cfg.keepOut cfg 151 9) (kRun cfg (EV cfg) (kfN cfg 6) 151 none 0 (kLp 0 (some [5]) ([(5,8)]) qwk qws) ([.block 2,.block 1]))
def qzI:List AV×AH->Option AV:=λp=>kOpt (LOOP 0 (some [5,6,70,71]) ([(5,8)]) qz6 p) qAF
abbrev qfq(nv5:Nat)(h0:Rz):Option (AV):=qzJ (((fx 91 [(5,.ms 0 0 nv5)]):List AV),([.rows true 8 h0]:AH))
abbrev qkn(rows:Rz)(nv5:Nat)(v71:Int)(h0:Rz)(c1_0 c1_1:Int)(c1_2:Bz)(c1_3:Rz)(c1_4 c1_5:Int)(c1_6:Bz)(c1_7:Rz):Option (AV):=qzI (((fx 91 [(5,.ms 0 0 nv5),(6,.ptr 1 0 0),(70,.int .i64 (rows.length:Int)),(71,.int .i64 v71)]):List AV),([.rows true 8 h0,.rows false 8 [[.int .i64 c1_0,.int .i64 c1_1,.str c1_2,.sl c1_3,.int .i64 c1_4,.int .i64 c1_5,.str c1_6,.sl c1_7]]]:AH))
theorem qnB(ka na:Int)(sa:Bz)(la:Rz)(kb nb:Int)(sb:Bz)(lb:Rz){P:AV->Prop}(h:Gets (qfq 1 [[.int .i64 ka,.int .i64 na,.str sa,.sl la,.int .i64 kb,.int .i64 nb,.str sb,.sl lb]]) P):Gets (EVs (EV cfg) 151 [.agg [.int .i64 ka,.int .i64 na,.str sa,.sl la],.agg [.int .i64 kb,.int .i64 nb,.str sb,.sl lb]]) P:=
  gE (λ_=>funS rfl rfl Tryz.func151 rfl) (by kernel_rfl) h
theorem qeU(nv5:Nat)(h0:Rz){P:AV->Prop}(h:Gets (bif decide ((↑ nv5:Int)>0)then bif qh 0 (qBf .i64 ((↑ nv5:Int) - 1))&&qn (qBf .i64 ((↑ nv5:Int) - 1)) (↑ nv5:Int)then kOpt (qBg h0 (0+qBj (qBf .i64 ((↑ nv5:Int) - 1)))) λrow=>bif qBv 8 (qBe row)then qa (qBm 8 row) λc cs=>kInt .i64 c λn=>qa cs λc cs=>kInt .i64 c λn_1=>qa cs λc cs=>kStr c λs=>qa cs λc cs=>kSl c λrows=>kTmC cs λn_2 n_3 s_1 rows_1=>(bif qh 0 (qBf .i64 ((↑ nv5:Int) - 1))&&qh (qBf .i64 ((↑ nv5:Int) - 1)) (↑ nv5:Int)then bif n != n_2 then some (.bool false)else bif n_1 != n_3 then some (.bool false)else bif ! s==s_1 then some (.bool false)else bif(rows.length:Int) != (rows_1.length:Int)then some (.bool false)else bif(↑ (qBe rows):Int)==0 then qfq (qBj (qBf .i64 ((↑ nv5:Int) - 1)) - 0) h0 else qkn rows (qBj (qBf .i64 ((↑ nv5:Int) - 1)) - 0) (0:Int) h0 n n_1 s rows n_2 n_3 s_1 rows_1 else none)else none else none else some (.bool true)) P):Gets (qfq nv5 h0) P:=
  gE (λ_=>qB (cfg:=cfg) (f:=151) (rd:=none) (bs:=0)) (by kernel_rfl) h
theorem qiK(rows:Rz)(nv5:Nat)(v71:Int)(h0:Rz)(c1_0 c1_1:Int)(c1_2:Bz)(c1_3:Rz)(c1_4 c1_5:Int)(c1_6:Bz)(c1_7:Rz){P:AV->Prop}(h:Gets (bif decide (v71<(rows.length:Int))then bif qh 0 v71&&qn v71 (c1_3.length:Int)then kOpt (qBg c1_3 (v71.toNat)) λrow=>bif qBh (qBe row) 4 then bif qBv 4 (qBe row)then kTmC (qBm 4 row) λn n_1 s rows_1=>(bif qh (0:Int) v71&&qn v71 (c1_7.length:Int)then kOpt (qBg c1_7 (v71.toNat)) λrow=>bif qBh (qBe row) 4 then bif qBv 4 (qBe row)then kTmC (qBm 4 row) λn_2 n_3 s_1 rows_2=>(bif qBv (0+nv5) (qBe h0)&&q8 (nv5+1) 112 then qkn rows (nv5+1) (qBf .i64 (v71+1)) (qBA (qBm nv5 h0) [[.int .i64 n,.int .i64 n_1,.str s,.sl rows_1,.int .i64 n_2,.int .i64 n_3,.str s_1,.sl rows_2]]) c1_0 c1_1 c1_2 c1_3 c1_4 c1_5 c1_6 c1_7 else none)else none else none else none)else none else none else none else qfq nv5 h0) P):Gets (qkn rows nv5 v71 h0 c1_0 c1_1 c1_2 c1_3 c1_4 c1_5 c1_6 c1_7) P:=
  gE (λ_=>qB (cfg:=cfg) (f:=151) (rd:=none) (bs:=0)) (by kernel_rfl) h
end Go.Proofs.YtafdkafbgohigaaGreat
end
noncomputable section
namespace Go.Av
def xY(R:List (Tm×Tm)):List (List AV):=R.map λp=>p.1.cells++p.2.cells
theorem qdq(R:List (Tm×Tm)):(xY R).length=R.length:=by simp[xY]
theorem qgN(R S:List (Tm×Tm)):xY (R++S)=xY R++xY S:=by simp[xY]
theorem qsR(R:List (Tm×Tm))(i:Nat):(xY R)[i]? =(R[i]?).map λp=>p.1.cells++p.2.cells:=by simp[xY]
theorem qt8:∀(a b:List Tm),a.length=b.length->((∀p∈a.zip b,p.1=p.2)↔a=b)
 |[],[],_=>by simp
 |x::a,y::b,h=>by
  have:=qt8 a b (by simpa using h);simp only[List.zip_cons_cons,qBG,forall_eq_or_imp,List.cons.injEq,this]
 |[],_::_,h=>by simp at h
 |_::_,[],h=>by simp at h
end Go.Av
namespace Go.Proofs.YtafdkafbgohigaaGreat
open Go.Av
theorem qyx{n:Nat}(h:n<=1099511627776):q8 n 112=true:=by
 unfold q8;rw[qBi,qBN,qBN];omega
theorem qmX{x y:Tm}(hxy:x.subs.length=y.subs.length)(hx:x.subs.length<1099511627776){P:AV->Prop}:∀(d i:Nat) (R:List (Tm×Tm)) (Z:List (List AV)),i+d=x.subs.length->R.length+d<1099511627776->(d=0->Z=[]) ->
  Gets (qfq (R++(x.subs.zip y.subs).drop i).length (xY (R++(x.subs.zip y.subs).drop i))) P ->
  Gets (qkn (qb x.subs) R.length i (xY R++Z) x.kind x.num x.str (qb x.subs) y.kind y.num y.str (qb y.subs)) P
 |0,i,R,Z,hi,_,hz,h=>by
  refine qiK _ _ _ _ _ _ _ _ _ _ _ _ ?_;obtain rfl:=hz rfl;rw[qBR (by simp;omega)]at h;simp at h;have:¬i<x.subs.length:=by omega
  simpa [this]using h
 |d+1,i,R,Z,hi,hR,_,h=>by
  refine qiK _ _ _ _ _ _ _ _ _ _ _ _ ?_;have h1:i<x.subs.length:=by omega
  have h2:i<y.subs.length:=by omega
  have hzl:i<(x.subs.zip y.subs).length:=by simp;omega
  have hd:(x.subs.zip y.subs).drop i=(x.subs[i],y.subs[i])::(x.subs.zip y.subs).drop (i+1):=by
   rw[qBJ hzl,List.getElem_zip]
  have ih:=qmX hxy hx (P:=P) d (i+1) (R++[(x.subs[i],y.subs[i])]) [] (by omega) (by simp;omega) (λ_=>rfl) (by
   rw[hd]at h
   simpa using h)
  have ht:qBm R.length (xY R++Z)=xY R:=by rw[List.take_append_of_le_length (by rw[qdq];exact qBp _),qBt (by rw[qdq];exact qBp _)]
  have hp:xY (R++[(x.subs[i],y.subs[i])])=xY R++[x.subs[i].cells++y.subs[i].cells]:=by rw[qgN];rfl
  have hw:=quh h1 hx;rw[List.append_nil,hp]at ih;simp[h1,h2,hw,qyx (show R.length+1<=1099511627776 by omega),ht,qdq]at ih⊢;rw[Tm.cells_eq x.subs[i]]at ih;exact ih
theorem qy8:∀(n:Nat) (R:List (Tm×Tm)) (Z:List (List AV)),wL (R.map Prod.fst)<=n->n<1099511627776 ->
  Gets (qfq R.length (xY R++Z)) (qeQ (∀p∈R,p.1=p.2)):=by
 intro n
 induction n with
 |zero=>
  intro R Z hn _;have:R=[]:=by
   have:=qat (R.map Prod.fst);exact List.length_eq_zero_iff.1 (by simp at this;omega)
  subst this;refine qeU _ _ ?_;simp[yA]
 |succ n ih=>
  intro R Z hn hN;rcases List.eq_nil_or_concat R with rfl|⟨R0,p,rfl⟩
  ·refine qeU _ _ ?_;simp[yA]
  ·rw[List.concat_eq_append]at *;obtain⟨x,y⟩:=p;have hwx:=x.w_eq;simp only[List.map_append,qBZ,List.map_nil,y9,qE,xy]at hn;have hl0:=qat (R0.map Prod.fst);rw[qBE]at hl0;have hls:=qat x.subs;refine qeU _ _ ?_;have e1:(R0++[(x,y)]).length=R0.length+1:=by simp
   have hw1:qBf .i64 (R0.length:Int)=R0.length:=qxV (by omega);have g:(xY (R0++[(x,y)])++Z)[R0.length]? =some (.int .i64 x.kind:: .int .i64 x.num:: .str x.str:: .sl (qb x.subs)::y.cells):=by
    rw[qBx (by rw[qdq];simp),qsR];simp;rw[Tm.cells_eq x];rfl
   have e3:xY (R0++[(x,y)])++Z=xY R0++((x.cells++y.cells)::Z):=by rw[qgN,List.append_assoc];rfl
   have hq:(∀p∈R0++[(x,y)],p.1=p.2)↔((∀p∈R0,p.1=p.2)∧x=y):=by simp[or_imp,forall_and]
   have hxy:x=y↔(x.kind=y.kind∧x.num=y.num∧x.str=y.str∧x.subs=y.subs):=by
    constructor
    ·rintro rfl;exact⟨rfl,rfl,rfl,rfl⟩
    ·rintro⟨h1,h2,h3,h4⟩;rw[←Tm.eta x,←Tm.eta y,h1,h2,h3,h4]
   rw[propext hq];have hno:¬(x.kind=y.kind∧x.num=y.num∧x.str=y.str∧x.subs=y.subs)->qeQ ((∀p∈R0,p.1=p.2)∧x=y) (.bool false):=λh=>yA.2 ⟨λe=>(by cases e),λh'=>absurd (hxy.1 h'.2) h⟩
   simp only[e3]at g⊢;simp[e1,hw1,g]
   by_cases h1:x.kind=y.kind
   ·by_cases h2:x.num=y.num
    ·by_cases h3:x.str=y.str
     ·by_cases h4:x.subs.length=y.subs.length
      ·have hsub:(∀p∈x.subs.zip y.subs,p.1=p.2)↔x=y:=by
        rw[qt8 _ _ h4,hxy];simp[h1,h2,h3]
       have c1:(x.kind != y.kind)=false:=by simp[h1]
       have c2:(x.num != y.num)=false:=by simp[h2]
       have c3:(x.str==y.str)=true:=by simp[h3]
       have c4:((x.subs.length:Int) != (y.subs.length:Int))=false:=by simp[h4]
       have eall:(∀(a b:Tm),(a,b)∈R0->a=b)↔(∀p∈R0,p.1=p.2):=⟨λh p hp=>h p.1 p.2 hp,λh a b hp=>h (a,b) hp⟩;rw[c1,c2,c3,c4];simp only[cond_false,cond_true];rcases Nat.eq_zero_or_pos x.subs.length with hz|hp
       ·have hr:=ih R0 ((x.cells++y.cells)::Z) (by omega) (by omega);have hx0:x.subs=[]:=List.length_eq_zero_iff.1 hz;have hxy':x=y:=hsub.1 (by rw[hx0];simp);have c5:((x.subs.length:Int)==0)=true:=by simp[hz]
        rw[c5,propext (show((∀(a b:Tm),(a,b)∈R0->a=b)∧x=y)↔(∀p∈R0,p.1=p.2)from⟨λh=>eall.1 h.1,λh=>⟨eall.2 h,hxy'⟩⟩)];exact hr
       ·have c5:((x.subs.length:Int)==0)=false:=by rw[beqD];exact qB4 (by omega)
        rw[c5];simp only[cond_false];have hm:(R0++x.subs.zip y.subs).map Prod.fst=R0.map Prod.fst++x.subs:=by rw[List.map_append,List.map_fst_zip (by omega)]
        have hr:=ih (R0++x.subs.zip y.subs) [] (by rw[hm,y9];omega) (by omega);rw[List.append_nil]at hr;have hP:(∀p∈R0++x.subs.zip y.subs,p.1=p.2)↔((∀(a b:Tm),(a,b)∈R0->a=b)∧x=y):=by
         rw[←hsub,eall];simp only[qBF,or_imp,forall_and]
        rw[propext hP]at hr;exact qmX h4 (by omega) x.subs.length 0 R0 _ (by omega) (by omega) (λh=>by omega) (by rw[List.drop_zero];exact hr)
      ·have h4':¬((x.subs.length:Int)=(y.subs.length:Int)):=by omega
       simp[h1,h2,h3,h4',bneD]
       simpa using hno λh=>h4 (by rw[h.2.2.2])
     ·have h3':(x.str==y.str)=false:=by simpa using h3
      simp[h1,h2,h3',bneD]
      simpa using hno λh=>h3 h.2.2.1
    ·simp[h1,h2,bneD]
     simpa using hno λh=>h2 h.2.1
   ·simp[h1,bneD]
    simpa using hno λh=>h1 h.1
theorem qrM{a:Tm}(h:a.w<1099511627776)(b:Tm):Gets (EVs (EV cfg) 151 [a.av,b.av]) (qeQ (a=b)):=by
 have:=qy8 _ [(a,b)] [] (qBp _) (by simpa using h);rw[List.append_nil]at this;rw[Tm.av,Tm.av,Tm.cells_eq a,Tm.cells_eq b];refine qnB _ _ _ _ _ _ _ _ ?_;have e:xY [(a,b)]=[[AV.int .i64 a.kind,.int .i64 a.num,.str a.str,.sl (qb a.subs),.int .i64 b.kind,.int .i64 b.num,.str b.str,.sl (qb b.subs)]]:=by
  simp only[xY,qBZ,List.map_nil,Tm.cells_eq];rfl
 have e2:(∀p∈[(a,b)],p.1=p.2)↔a=b:=by simp
 rw[e,propext e2]at this;exact this
def qAe:Den:=evC cfg (EV cfg) 238 none 1 (sub (qg Tryz.f238) [1,0,1,0,1,1,1,0,1,0,1,0,0])
def qAN:Ex×List AV×AH->Option (MV×List (List AV)):=kAft (Cfg.keepOut cfg 238 (qk (sub (qg Tryz.f238) [1,0,1,0,1,1,1,0,1,0,1,0,0]))) (vP 2 (kSeq (fun(fr:List AV) (H:AH)=>xa (Cfg.cut cfg 238 (qk (sub (qg Tryz.f238) [1,0,1,0,1,1,1,0,1,1]))) fr H fun(fr:List AV) (H:AH)=>vh cfg (EV cfg) (kfN cfg 6) 238 none 1 (sub (qg Tryz.f238) [1,0,1,0,1,1,1,0,1,1]) fr H (vP 0 (kSeq (fun(fr:List AV) (H:AH)=>xa (Cfg.cut cfg 238 (qk (sub (qg Tryz.f238) [1,1]))) fr H fun(fr:List AV) (H:AH)=>vh cfg (EV cfg) (kfN cfg 6) 238 none 1 (sub (qg Tryz.f238) [1,1]) fr H (qis cfg 402 (Cfg.lift cfg 238 0) (qBM (Func.results Tryz.f238)))) (qis cfg 402 (Cfg.lift cfg 238 0) (qBM (Func.results Tryz.f238)))))) (vP 0 (kSeq (fun(fr:List AV) (H:AH)=>xa (Cfg.cut cfg 238 (qk (sub (qg Tryz.f238) [1,1]))) fr H fun(fr:List AV) (H:AH)=>vh cfg (EV cfg) (kfN cfg 6) 238 none 1 (sub (qg Tryz.f238) [1,1]) fr H (qis cfg 402 (Cfg.lift cfg 238 0) (qBM (Func.results Tryz.f238)))) (qis cfg 402 (Cfg.lift cfg 238 0) (qBM (Func.results Tryz.f238)))))))
def qwe:List AV×AH->Option (MV×List (List AV)):=fun(p:List AV×AH)=>kOpt (LOOP 1 (some [0,4,5,70,71]) [] qAe p) qAN
def qAd:Den:=evC cfg (EV cfg) 239 none 1 (sub (qg Tryz.f239) [1,1,0,1,0,0])
def qAM:Ex×List AV×AH->Option (AV×List (List AV)):=kAft (Cfg.keepOut cfg 239 (qk (sub (qg Tryz.f239) [1,1,0,1,0,0]))) (vP 0 (kSeq (fun(fr:List AV) (H:AH)=>xa (Cfg.cut cfg 239 (qk (sub (qg Tryz.f239) [1,1,1]))) fr H fun(fr:List AV) (H:AH)=>vh cfg (EV cfg) (kfN cfg 6) 239 none 1 (sub (qg Tryz.f239) [1,1,1]) fr H (qcg cfg 402 (Cfg.lift cfg 239 0) (qBM (Func.results Tryz.f239)))) (qcg cfg 402 (Cfg.lift cfg 239 0) (qBM (Func.results Tryz.f239)))))
def qzN:List AV×AH->Option (AV×List (List AV)):=fun(p:List AV×AH)=>kOpt (LOOP 1 (some [0,3,5]) [(3,5)] qAd p) qAM
abbrev qg1(lp:Rz)(v71:Int)(c0r0:List AV)(c1_0 c1_1:Int)(c1_2:Bz)(c1_3:Rz)(c2_0 c2_1:Int)(c2_2:Bz)(c2_3:Rz):Option (MV×List (List AV)):=qwe (((fx 91 [(0,.ptr 0 0 0),(4,.ptr 1 0 0),(5,.ptr 2 0 0),(70,.int .i64 (lp.length:Int)),(71,.int .i64 v71)]):List AV),([.rows true 402 [c0r0],.rows false 4 [[.int .i64 c1_0,.int .i64 c1_1,.str c1_2,.sl c1_3]],.rows false 4 [[.int .i64 c2_0,.int .i64 c2_1,.str c2_2,.sl c2_3]]]:AH))
abbrev qgZ(nv3:Nat)(v5:Int)(c0r0:List AV)(h1:Rz):Option (AV×List (List AV)):=qzN (((fx 27 [(0,.ptr 0 0 0),(3,.ms 1 0 nv3),(5,.int .i64 v5)]):List AV),([.rows true 402 [c0r0],.rows true 5 h1]:AH))
abbrev qh8(lp:Rz)(q:MV×List (List AV))(v71 c1_0 c1_1:Int)(c1_2:Bz)(c1_3:Rz)(c2_0 c2_1:Int)(c2_2:Bz)(c2_3:Rz):Option (MV×List (List AV)):=qwe (((fx 91 [(0,.ptr 0 0 0),(4,.ptr 1 0 0),(5,.ptr 2 0 0),(70,.int .i64 (lp.length:Int)),(71,.int .i64 v71)]):List AV),([.rows true 402 q.2,.rows false 4 [[.int .i64 c1_0,.int .i64 c1_1,.str c1_2,.sl c1_3]],.rows false 4 [[.int .i64 c2_0,.int .i64 c2_1,.str c2_2,.sl c2_3]]]:AH))
theorem qtY(kp np:Int)(sp:Bz)(lp:Rz)(kt nt:Int)(st:Bz)(lt:Rz)(r:List AV){P:MV×List (List AV)->Prop}(h:Gets (bif kp==2 then bif sp==[(95:UInt8)]then some (MV.bool true,[r])else kOpt (EVs (EV cfg) 176 [.str sp]) λv=>kTup v λcs=>qa cs λc cs=>kInt .i64 c λn=>qa cs λc cs=>qu c λb=>kNil cs (bif ! b then kOpt (EVs (EV cfg) 151 [.agg [.int .i64 kp,.int .i64 np,.str sp,.sl lp],.agg [.int .i64 kt,.int .i64 nt,.str st,.sl lt]]) λv=>qu v λb=>some (MV.bool b,[r])else bif qF 0 r then bif qF 0 [AV.cptr r 0,.int .i64 n]then kOpt (EVs (EV cfg) 227 [AV.cptr r 0,.int .i64 n]) λv=>qu v λb=>bif b then bif qh 0 n&&qn n 100 then bif qBv (2+qBj n*4+4) (qBe r)then qa (qBm 4 (qBU (2+qBj n*4) r)) λc cs=>kInt .i64 c λn=>qa cs λc cs=>kInt .i64 c λn_1=>qa cs λc cs=>kStr c λs=>qa cs λc cs=>kSl c λrows=>kNil cs (kOpt (EVs (EV cfg) 151 [.agg [.int .i64 n,.int .i64 n_1,.str s,.sl rows],.agg [.int .i64 kt,.int .i64 nt,.str st,.sl lt]]) λv=>qu v λb=>some (MV.bool b,[r]))else none else none else kOpt (EVm (EV cfg) 226 [.ptr 0 0 0,.int .i64 n] 402 [r]) λq=>qa2 q.1 (bif qh 0 n&&qn n 100 then kOpt (qBg q.2 0) λrow=>bif qBv (2+qBj n*4+4) (qBe row)then some (MV.bool true,List.set q.2 0 (qBA (qBA (qBm (2+qBj n*4) row) [AV.int .i64 kt,.int .i64 nt,.str st,.sl lt]) (qBU (2+qBj n*4+4) row)))else none else none)else none else none)else bif kp==7 then bif kt != kp then some (MV.bool false,[r])else bif(lt.length:Int) != (lp.length:Int)then some (MV.bool false,[r])else qg1 lp 0 r kp np sp lp kt nt st lt else bif kp==9 then bif kt != kp then some (MV.bool false,[r])else bif(lt.length:Int) != (↑ (qBe lp):Int)then some (MV.bool false,[r])else qg1 lp 0 r kp np sp lp kt nt st lt else kOpt (EVs (EV cfg) 151 [.agg [.int .i64 kp,.int .i64 np,.str sp,.sl lp],.agg [.int .i64 kt,.int .i64 nt,.str st,.sl lt]]) λv=>qu v λb=>some (MV.bool b,[r])) P):Gets (EVm (EV cfg) 238 [.ptr 0 0 0,.agg [.int .i64 kp,.int .i64 np,.str sp,.sl lp],.agg [.int .i64 kt,.int .i64 nt,.str st,.sl lt]] 402 [r]) P:=
  gE (λ_=>funM rfl rfl Tryz.func238 rfl) (by kernel_rfl) h
theorem qtX(r:List AV){P:AV×List (List AV)->Prop}(h:Gets (qgZ 0 0 r []) P):Gets (EVd (EV cfg) 239 [.ptr 0 0 0] 402 [r]) P:=
  gE (λ_=>funD rfl rfl Tryz.func239 rfl) (by kernel_rfl) h
theorem qiO(lp:Rz)(v71:Int)(c0r0:List AV)(c1_0 c1_1:Int)(c1_2:Bz)(c1_3:Rz)(c2_0 c2_1:Int)(c2_2:Bz)(c2_3:Rz){P:MV×List (List AV)->Prop}(h:Gets (bif decide (v71<(lp.length:Int))then bif qh 0 v71&&qn v71 (c1_3.length:Int)then kOpt (qBg c1_3 (v71.toNat)) λrow=>bif qBh (qBe row) 4 then bif qBv 4 (qBe row)then kTmC (qBm 4 row) λn n_1 s rows=>(bif qh (0:Int) v71&&qn v71 (c2_3.length:Int)then kOpt (qBg c2_3 (v71.toNat)) λrow=>bif qBh (qBe row) 4 then bif qBv 4 (qBe row)then kTmC (qBm 4 row) λn_2 n_3 s_1 rows_1=>(kOpt (EVm (EV cfg) 238 [.ptr 0 0 0,.agg [.int .i64 n,.int .i64 n_1,.str s,.sl rows],.agg [.int .i64 n_2,.int .i64 n_3,.str s_1,.sl rows_1]] 402 [c0r0]) λq=>yc q.1 λb=>bif ! b then some (MV.bool false,q.2)else qh8 lp q (qBf .i64 (v71+1)) c1_0 c1_1 c1_2 c1_3 c2_0 c2_1 c2_2 c2_3)else none else none else none)else none else none else none else some (MV.bool true,[c0r0])) P):Gets (qg1 lp v71 c0r0 c1_0 c1_1 c1_2 c1_3 c2_0 c2_1 c2_2 c2_3) P:=
  gE (λ_=>qB (cfg:=cfg) (f:=238) (rd:=none) (bs:=1)) (by kernel_rfl) h
theorem qiN(nv3:Nat)(v5:Int)(c0r0:List AV)(h1:Rz){P:AV×List (List AV)->Prop}(h:Gets (bif decide (v5<100)then bif qF 0 c0r0 then bif qF 0 [AV.cptr c0r0 0,.int .i64 v5]then kOpt (EVs (EV cfg) 227 [AV.cptr c0r0 0,.int .i64 v5]) λv=>qu v λb=>bif b then bif qh 0 v5&&qn v5 100 then bif qBv (2+qBj v5*4+4) (qBe c0r0)then qa (qBm 4 (qBU (2+qBj v5*4) c0r0)) λc cs=>kInt .i64 c λn=>qa cs λc cs=>kInt .i64 c λn_1=>qa cs λc cs=>kStr c λs=>qa cs λc cs=>kSl c λrows=>kNil cs (kOpt (EVf (EV cfg) 45 [.agg [.int .i64 n,.int .i64 n_1,.str s,.sl rows]]) λv=>kTmV v λn n_2 s rows=>(bif qBv (0+nv3) (qBe h1)&&q8 (nv3+1) 64 then qgZ (nv3+1) (qBf .i64 (v5+1)) c0r0 (qBA (qBm nv3 h1) [[AV.int .i64 v5,.int .i64 n,.int .i64 n_2,.str s,.sl rows]])else none))else none else none else qgZ nv3 (qBf .i64 (v5+1)) c0r0 h1 else none else none else bif qBv (0+nv3) (qBe h1)&&true then some (.sl (qBm nv3 h1),[c0r0])else none) P):Gets (qgZ nv3 v5 c0r0 h1) P:=
  gE (λ_=>qB (cfg:=cfg) (f:=239) (rd:=none) (bs:=1)) (by kernel_rfl) h
theorem qg0(lp:Rz)(q:MV×List (List AV))(v71 c1_0 c1_1:Int)(c1_2:Bz)(c1_3:Rz)(c2_0 c2_1:Int)(c2_2:Bz)(c2_3:Rz){P:MV×List (List AV)->Prop}(h:Gets (bif decide (v71<(lp.length:Int))then bif qh 0 v71&&qn v71 (c1_3.length:Int)then kOpt (qBg c1_3 (v71.toNat)) λrow=>bif qBh (qBe row) 4 then bif qBv 4 (qBe row)then kTmC (qBm 4 row) λn n_1 s rows=>(bif qh (0:Int) v71&&qn v71 (c2_3.length:Int)then kOpt (qBg c2_3 (v71.toNat)) λrow=>bif qBh (qBe row) 4 then bif qBv 4 (qBe row)then kTmC (qBm 4 row) λn_2 n_3 s_1 rows_1=>(kOpt (EVm (EV cfg) 238 [.ptr 0 0 0,.agg [.int .i64 n,.int .i64 n_1,.str s,.sl rows],.agg [.int .i64 n_2,.int .i64 n_3,.str s_1,.sl rows_1]] 402 q.2) λq=>yc q.1 λb=>bif ! b then some (MV.bool false,q.2)else qh8 lp q (qBf .i64 (v71+1)) c1_0 c1_1 c1_2 c1_3 c2_0 c2_1 c2_2 c2_3)else none else none else none)else none else none else none else some (MV.bool true,q.2)) P):Gets (qh8 lp q v71 c1_0 c1_1 c1_2 c1_3 c2_0 c2_1 c2_2 c2_3) P:=
  gE (λ_=>qB (cfg:=cfg) (f:=238) (rd:=none) (bs:=1)) (by kernel_rfl) h
def qAc:Den:=evC cfg (EV cfg) 237 none 2 (sub (qg Tryz.f237) [1,1,1,0,1,0,0])
def qAL(kp:Int)(np:Int)(sp:Bz)(lp:Rz)(kt:Int)(nt:Int)(st:Bz)(lt:Rz)(B:Rz):Ex×List AV×AH→Option AV:=kAft (Cfg.keepOut cfg 237 (qk (sub (qg Tryz.f237) [1,1,1,0,1,0,0]))) (vP 0 (kSeq (fun(fr:List AV) (H:AH)=>xa (Cfg.cut cfg 237 (qk (sub (qg Tryz.f237) [1,1,1,1]))) fr H fun(fr:List AV) (H:AH)=>vh cfg (EV cfg) (kfN cfg (5)) 237 none 2 (sub (qg Tryz.f237) [1,1,1,1]) fr H (xO cfg (Cfg.lift cfg 237 0) (fun(v:AV) (H:AH)=>(fun(r:AV×AH)=>kOpt (qay none 2 (Prod.fst r) (Prod.snd r)) fun(r:AV×AH)=>kTy noTy cfg (Oper.type { dst:=some 10,op:=Op.call { callee:=Callee.value (Operand.func 237),args:= #[Operand.tmp 9],argTypes:= #[93] },type:=256,pos:= "pattern.go:179",after:= #[{ on:=0,ground:=Ground.data }],guard:=none }) (Prod.fst r) fun(v:AV)=>(fun(v:AV) (H':AH)=>kOps cfg (EV cfg) (kfN cfg 6) 215 1 (qez (sub (qg Tryz.f215) [1,0])) (0+1+1) (qBU 2 (qBM (qez (sub (qg Tryz.f215) [1,0])))) (put (fx 32 [(0,AV.agg [AV.int qB2 kp,AV.int qB2 np,AV.str sp,AV.sl lp]),(1,AV.agg [AV.int qB2 kt,AV.int qB2 nt,AV.str st,AV.sl lt]),(2,AV.sl B),(3,AV.ptr 0 0 0),(4,AV.ptr 1 0 0),(6,AV.nilS),(7,AV.bool false),(9,AV.sl B)]) (some 10) v) H' fun(fr':List AV) (H':AH)=>kSeq (fun(fr:List AV) (H:AH)=>xa (Cfg.cut cfg 215 (qk (sub (qg Tryz.f215) [1,1]))) fr H fun(fr:List AV) (H:AH)=>vh cfg (EV cfg) (kfN cfg 6) 215 none 0 (sub (qg Tryz.f215) [1,1]) fr H (xz cfg (Cfg.lift cfg 215 0) (qBM (Func.results Tryz.f215)))) (xz cfg (Cfg.lift cfg 215 0) (qBM (Func.results Tryz.f215))) Ex.normal fr' H') v (Prod.snd r)) (v,H)) (qBM (Func.results (Prod.snd (237,Tryz.f237)))))) (xO cfg (Cfg.lift cfg 237 0) (fun(v:AV) (H:AH)=>(fun(r:AV×AH)=>kOpt (qay none 2 (Prod.fst r) (Prod.snd r)) fun(r:AV×AH)=>kTy noTy cfg (Oper.type { dst:=some 10,op:=Op.call { callee:=Callee.value (Operand.func 237),args:= #[Operand.tmp 9],argTypes:= #[93] },type:=256,pos:= "pattern.go:179",after:= #[{ on:=0,ground:=Ground.data }],guard:=none }) (Prod.fst r) fun(v:AV)=>(fun(v:AV) (H':AH)=>kOps cfg (EV cfg) (kfN cfg 6) 215 1 (qez (sub (qg Tryz.f215) [1,0])) (0+1+1) (qBU 2 (qBM (qez (sub (qg Tryz.f215) [1,0])))) (put (fx 32 [(0,AV.agg [AV.int qB2 kp,AV.int qB2 np,AV.str sp,AV.sl lp]),(1,AV.agg [AV.int qB2 kt,AV.int qB2 nt,AV.str st,AV.sl lt]),(2,AV.sl B),(3,AV.ptr 0 0 0),(4,AV.ptr 1 0 0),(6,AV.nilS),(7,AV.bool false),(9,AV.sl B)]) (some 10) v) H' fun(fr':List AV) (H':AH)=>kSeq (fun(fr:List AV) (H:AH)=>xa (Cfg.cut cfg 215 (qk (sub (qg Tryz.f215) [1,1]))) fr H fun(fr:List AV) (H:AH)=>vh cfg (EV cfg) (kfN cfg 6) 215 none 0 (sub (qg Tryz.f215) [1,1]) fr H (xz cfg (Cfg.lift cfg 215 0) (qBM (Func.results Tryz.f215)))) (xz cfg (Cfg.lift cfg 215 0) (qBM (Func.results Tryz.f215))) Ex.normal fr' H') v (Prod.snd r)) (v,H)) (qBM (Func.results (Prod.snd (237,Tryz.f237)))))))
def qwd(kp:Int)(np:Int)(sp:Bz)(lp:Rz)(kt:Int)(nt:Int)(st:Bz)(lt:Rz)(B:Rz):List AV×AH->Option AV:=fun(p:List AV×AH)=>kOpt (LOOP 2 (some [3,4,9,10,11]) [] qAc p) (qAL kp np sp lp kt nt st lt B)
abbrev quj(kp np:Int)(sp:Bz)(lp:Rz)(kt nt:Int)(st:Bz)(lt B:Rz)(v4 v11 c0_0 c0_1:Int)(c0_2:Bz)(c0_3:Rz)(c1_0 c1_1:Int)(c1_2:Bz)(c1_3:Rz)(c2r0:List AV):Option (AV):=qwd (kp) (np) (sp) (lp) (kt) (nt) (st) (lt) (B) (((fx 48 [(3,.ptr 2 0 0),(4,.int .i64 v4),(9,.sl B),(10,.int .i64 (B.length:Int)),(11,.int .i64 v11)]):List AV),([.rows false 4 [[.int .i64 c0_0,.int .i64 c0_1,.str c0_2,.sl c0_3]],.rows false 4 [[.int .i64 c1_0,.int .i64 c1_1,.str c1_2,.sl c1_3]],.rows true 402 [c2r0]]:AH))
abbrev qyb(kp np:Int)(sp:Bz)(lp:Rz)(kt nt:Int)(st:Bz)(lt B:Rz)(n n' n'':Int)(s:Bz)(rows:Rz)(q:MV×List (List AV))(row:List AV)(v4 v11 c0_0 c0_1:Int)(c0_2:Bz)(c0_3:Rz)(c1_0 c1_1:Int)(c1_2:Bz)(c1_3:Rz):Option (AV):=qwd (kp) (np) (sp) (lp) (kt) (nt) (st) (lt) (B) (((fx 48 [(3,.ptr 2 0 0),(4,.int .i64 v4),(9,.sl B),(10,.int .i64 (B.length:Int)),(11,.int .i64 v11)]):List AV),([.rows false 4 [[.int .i64 c0_0,.int .i64 c0_1,.str c0_2,.sl c0_3]],.rows false 4 [[.int .i64 c1_0,.int .i64 c1_1,.str c1_2,.sl c1_3]],.rows true 402 (List.set q.2 0 (qBA (qBA (qBm (2+qBj n*4) row) [.int .i64 n',.int .i64 n'',.str s,.sl rows]) (qBU (2+qBj n*4+4) row)))]:AH))
theorem qqK(kp np:Int)(sp:Bz)(lp:Rz)(kt nt:Int)(st:Bz)(lt B:Rz){P:AV->Prop}(h:Gets (quj kp np sp lp kt nt st lt B (- 1) 0 kp np sp lp kt nt st lt [AV.int .u64 0,.int .u64 0,.int .i64 0,.int .i64 0,.str [],.nilS,.int .i64 0,.int .i64 0,.str [],.nilS,.int .i64 0,.int .i64 0,.str [],.nilS,.int .i64 0,.int .i64 0,.str [],.nilS,.int .i64 (0:Int),.int .i64 0,.str [],.nilS,.int .i64 0,.int .i64 0,.str [],.nilS,.int .i64 0,.int .i64 0,.str [],.nilS,.int .i64 0,.int .i64 0,.str [],.nilS,.int .i64 0,.int .i64 0,.str [],.nilS,.int .i64 0,.int .i64 0,.str [],.nilS,.int .i64 0,.int .i64 0,.str [],.nilS,.int .i64 0,.int .i64 0,.str [],.nilS,.int .i64 0,.int .i64 0,.str [],.nilS,.int .i64 0,.int .i64 0,.str [],.nilS,.int .i64 0,.int .i64 0,.str [],.nilS,.int .i64 0,.int .i64 0,.str [],.nilS,.int .i64 0,.int .i64 0,.str [],.nilS,.int .i64 0,.int .i64 0,.str [],.nilS,.int .i64 0,.int .i64 0,.str [],.nilS,.int .i64 0,.int .i64 0,.str [],.nilS,.int .i64 0,.int .i64 0,.str [],.nilS,.int .i64 0,.int .i64 0,.str [],.nilS,.int .i64 0,.int .i64 0,.str [],.nilS,.int .i64 0,.int .i64 0,.str [],.nilS,.int .i64 0,.int .i64 0,.str [],.nilS,.int .i64 0,.int .i64 0,.str [],.nilS,.int .i64 0,.int .i64 0,.str [],.nilS,.int .i64 0,.int .i64 0,.str [],.nilS,.int .i64 0,.int .i64 0,.str [],.nilS,.int .i64 0,.int .i64 0,.str [],.nilS,.int .i64 0,.int .i64 0,.str [],.nilS,.int .i64 0,.int .i64 0,.str [],.nilS,.int .i64 0,.int .i64 0,.str [],.nilS,.int .i64 0,.int .i64 0,.str [],.nilS,.int .i64 0,.int .i64 0,.str [],.nilS,.int .i64 0,.int .i64 0,.str [],.nilS,.int .i64 0,.int .i64 0,.str [],.nilS,.int .i64 0,.int .i64 0,.str [],.nilS,.int .i64 0,.int .i64 0,.str [],.nilS,.int .i64 0,.int .i64 0,.str [],.nilS,.int .i64 0,.int .i64 0,.str [],.nilS,.int .i64 0,.int .i64 0,.str [],.nilS,.int .i64 0,.int .i64 0,.str [],.nilS,.int .i64 0,.int .i64 0,.str [],.nilS,.int .i64 0,.int .i64 0,.str [],.nilS,.int .i64 0,.int .i64 0,.str [],.nilS,.int .i64 0,.int .i64 0,.str [],.nilS,.int .i64 0,.int .i64 0,.str [],.nilS,.int .i64 0,.int .i64 0,.str [],.nilS,.int .i64 0,.int .i64 0,.str [],.nilS,.int .i64 0,.int .i64 0,.str [],.nilS,.int .i64 0,.int .i64 0,.str [],.nilS,.int .i64 0,.int .i64 0,.str [],.nilS,.int .i64 0,.int .i64 0,.str [],.nilS,.int .i64 0,.int .i64 0,.str [],.nilS,.int .i64 0,.int .i64 0,.str [],.nilS,.int .i64 0,.int .i64 0,.str [],.nilS,.int .i64 0,.int .i64 0,.str [],.nilS,.int .i64 0,.int .i64 0,.str [],.nilS,.int .i64 0,.int .i64 0,.str [],.nilS,.int .i64 0,.int .i64 0,.str [],.nilS,.int .i64 0,.int .i64 0,.str [],.nilS,.int .i64 0,.int .i64 0,.str [],.nilS,.int .i64 0,.int .i64 0,.str [],.nilS,.int .i64 0,.int .i64 0,.str [],.nilS,.int .i64 0,.int .i64 0,.str [],.nilS,.int .i64 0,.int .i64 0,.str [],.nilS,.int .i64 0,.int .i64 0,.str [],.nilS,.int .i64 0,.int .i64 0,.str [],.nilS,.int .i64 0,.int .i64 0,.str [],.nilS,.int .i64 0,.int .i64 0,.str [],.nilS,.int .i64 0,.int .i64 0,.str [],.nilS,.int .i64 0,.int .i64 0,.str [],.nilS,.int .i64 0,.int .i64 0,.str [],.nilS,.int .i64 0,.int .i64 0,.str [],.nilS,.int .i64 0,.int .i64 0,.str [],.nilS,.int .i64 0,.int .i64 0,.str [],.nilS,.int .i64 0,.int .i64 0,.str [],.nilS,.int .i64 0,.int .i64 0,.str [],.nilS,.int .i64 0,.int .i64 0,.str [],.nilS,.int .i64 0,.int .i64 0,.str [],.nilS,.int .i64 0,.int .i64 0,.str [],.nilS,.int .i64 0,.int .i64 0,.str [],.nilS,.int .i64 0,.int .i64 0,.str [],.nilS,.int .i64 0,.int .i64 0,.str [],.nilS,.int .i64 0,.int .i64 0,.str [],.nilS,.int .i64 0,.int .i64 0,.str [],.nilS,.int .i64 0,.int .i64 0,.str [],.nilS,.int .i64 0,.int .i64 0,.str [],.nilS,.int .i64 0,.int .i64 0,.str [],.nilS,.int .i64 0,.int .i64 0,.str [],.nilS,.int .i64 0,.int .i64 0,.str [],.nilS,.int .i64 0,.int .i64 0,.str [],.nilS,.int .i64 0,.int .i64 0,.str [],.nilS,.int .i64 0,.int .i64 0,.str [],.nilS,.int .i64 0,.int .i64 0,.str [],.nilS,.int .i64 0,.int .i64 0,.str [],.nilS,.int .i64 0,.int .i64 0,.str [],.nilS,.int .i64 0,.int .i64 0,.str [],.nilS,.int .i64 0,.int .i64 0,.str [],.nilS]) P):Gets (EVf (EV cfg) 215 [.agg [.int .i64 kp,.int .i64 np,.str sp,.sl lp],.agg [.int .i64 kt,.int .i64 nt,.str st,.sl lt],.sl B]) P:=
  gE (λ_=>funF rfl rfl Tryz.func215 rfl) (by kernel_rfl) h
theorem qql(kp np:Int)(sp:Bz)(lp:Rz)(kt nt:Int)(st:Bz)(lt B:Rz)(v4 v11 c0_0 c0_1:Int)(c0_2:Bz)(c0_3:Rz)(c1_0 c1_1:Int)(c1_2:Bz)(c1_3:Rz)(c2r0:List AV){P:AV->Prop}(h:Gets (bif decide (v11<(B.length:Int))then bif qh 0 v11&&qn v11 (B.length:Int)then kOpt (qBg B (v11.toNat)) λrow=>bif qBh (qBe row) 5 then bif qBv 5 (qBe row)then qa (qBm 5 row) λc cs=>kInt .i64 c λn=>kTmC cs λn_1 n_2 s rows=>(bif decide (n<=v4)then some (AV.tup [.sl [],.bool false])else bif decide (n>99)then some (AV.tup [.sl [],.bool false])else kOpt (EVs (EV cfg) 175 [.agg [.int .i64 n_1,.int .i64 n_2,.str s,.sl rows]]) λv=>qu v λb=>bif ! b then some (AV.tup [.sl [],.bool false])else kOpt (EVm (EV cfg) 226 [.ptr 0 0 0,.int .i64 n] 402 [c2r0]) λq=>qa2 q.1 (bif qh 0 n&&qn n 100 then kOpt (qBg q.2 0) λrow=>bif qBv (2+qBj n*4+4) (qBe row)then qyb kp np sp lp kt nt st lt B n n_1 n_2 s rows q row n (qBf .i64 (v11+1)) c0_0 c0_1 c0_2 c0_3 c1_0 c1_1 c1_2 c1_3 else none else none))else none else none else none else kOpt (EVs (EV cfg) 175 [.agg [.int .i64 c0_0,.int .i64 c0_1,.str c0_2,.sl c0_3]]) λv=>qu v λb=>bif ! b then some (AV.tup [.sl [],.bool false])else kOpt (EVs (EV cfg) 175 [.agg [.int .i64 c1_0,.int .i64 c1_1,.str c1_2,.sl c1_3]]) λv=>qu v λb=>bif ! b then some (AV.tup [.sl [],.bool false])else kOpt (EVm (EV cfg) 238 [.ptr 0 0 0,.agg [.int .i64 c0_0,.int .i64 c0_1,.str c0_2,.sl c0_3],.agg [.int .i64 c1_0,.int .i64 c1_1,.str c1_2,.sl c1_3]] 402 [c2r0]) λq=>yc q.1 λb=>bif ! b then some (AV.tup [.sl [],.bool false])else kOpt (EVd (EV cfg) 239 [.ptr 0 0 0] 402 q.2) λq=>kSl q.1 λrows=>some (AV.tup [.sl rows,.bool true])) P):Gets (quj kp np sp lp kt nt st lt B v4 v11 c0_0 c0_1 c0_2 c0_3 c1_0 c1_1 c1_2 c1_3 c2r0) P:=
  gE (λ_=>qB (cfg:=cfg) (f:=237) (rd:=none) (bs:=2)) (by kernel_rfl) h
end Go.Proofs.YtafdkafbgohigaaGreat
end
