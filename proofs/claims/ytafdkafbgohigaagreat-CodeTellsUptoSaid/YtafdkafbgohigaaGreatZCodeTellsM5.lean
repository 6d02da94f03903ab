/-
  Parts of the proof of CodeTellsUptoSaid, put together: the abstract evaluation and its contracts. Own work.
  What is proved: each lemma as it stands; no condition.
-/
import Derived.Test.YtafdkafbgohigaaGreatZCodeTellsM4
open List renaming length → qBe, get?Internal → qBg, getElem?_eq_getElem → qBk, take → qBm, getElem?_eq_some_iff → qBn, length_append → qBr, take_of_length_le → qBt, getElem?_append_left → qBx, mem_of_getElem? → qBy, getElem?_append_right → qBz, append → qBA, getElem?_set → qBC, length_map → qBE, mem_append → qBF, mem_cons → qBG, replicate → qBI, drop_eq_getElem_cons → qBJ, length_cons → qBK, getElem?_cons_zero → qBP, getElem?_cons_succ → qBQ, drop_eq_nil_of_le → qBR, take_length → qBS, range → qBT, drop → qBU, length_take → qBW, map_cons → qBZ
open Go.IntKind renaming wrap → qBf, i64 → qB2
open Nat renaming beq → qBh, eq_of_beq_eq_true → qBo, le_refl → qBp, ble → qBv, mul_le_mul_right → qBH, beq_refl → qBL, ble_eq → qBN, add_assoc → qBO, blt_eq → qBY, zero_add → qB0
open Bool renaming and_eq_true → qBi, false_eq_true → qBu, and_self → qBw, true_and → qBV, not_true → qB1
open Int renaming toNat → qBj, toNat_natCast → qBB, reduceEq → qBX
open Option renaming bind_eq_some_iff → qBl, map_eq_some_iff → qBq, bind_some → qBs, map_some → qBD
open Array renaming toList → qBM
set_option maxRecDepth 1000000
set_option maxHeartbeats 0
noncomputable section
namespace Go.Av
theorem qaX(p t:Tm)(m:List (Int×Tm)):xT p t m=if p.kind=2 then
   (if p.str=[95]then some m else match varG p.str with
    |none=>if p=t then some m else none
    |some v=>match qG v m with
     |some x=>if x=t then some m else none
     |none=>some (m++[(v,t)]))
  else if p.kind=7∨p.kind=9 then(if t.kind≠p.kind∨t.subs.length≠p.subs.length then none else xk p.subs t.subs m)
  else if p=t then some m else none:=by
 obtain⟨k,n,s,l⟩:=p;rw[xT];rfl
theorem qaE(p t:Tm)(l l':List Tm)(m:List (Int×Tm)):xk (p::l) (t::l') m=(xT p t m).bind λm'=>xk l l' m':=by rw[xk]
theorem qbd(l':List Tm)(m:List (Int×Tm)):xk [] l' m=some m:=by rw[xk];simp
theorem xA{l:List Tm}{i:Nat}{t:Tm}(h:l[i]? =some t):qBg (qb l) (qBj (i:Int))=some t.cells:=by
 rw[qI,qBB,zx,h];rfl
def MOut(o:Option (List (Int×Tm)))(b:Bool)(r:List AV):Prop:=match o with
 |some m=>b=true∧BRow m r∧∀q∈m,q.2.chk=0
 |none=>b=false
def QM(o:Option (List (Int×Tm)))(q:MV×List (List AV)):Prop:=∃b r,q=(MV.bool b,[r])∧MOut o b r
theorem QM.same{p t:Tm}{m:List (Int×Tm)}{r:List AV}(h:BRow m r)(hm:∀q∈m,q.2.chk=0):QM (if p=t then some m else none) (MV.bool (decide (p=t)),[r]):=by
 refine⟨_,r,rfl,?_⟩
 by_cases h1:p=t
 ·rw[qB5 h1,qB3 h1];exact⟨rfl,h,hm⟩
 ·rw[qB6 h1,qB4 h1];exact rfl
def qk5(o:Option (List (Int×Tm))):AV:=match o with
 |some b=>.tup [.sl (xb b),.bool true]
 |none=>.tup [.sl [],.bool false]
end Go.Av
namespace Go.Proofs.YtafdkafbgohigaaGreat
open Go.Av
theorem qyw{n:Nat}(h:n<=1099511627776):q8 n 64=true:=by
 unfold q8;rw[qBi,qBN,qBN];omega
theorem qoO{a b:Tm}(h:a.w<1099511627776):EVs (EV cfg) 151 [a.av,b.av]=some (.bool (decide (a=b))):=by
 obtain⟨v,h1,c,rfl,h2⟩:=qrM h b;rw[h1]
 congr 2
 by_cases hab:a=b
 ·rw[qB3 hab,h2.2 hab]
 ·rw[qB4 hab];cases c with
  |false=>rfl
  |true=>exact absurd (h2.1 rfl) hab
theorem qw6:∀(n:Nat) (p t:Tm) (m:List (Int×Tm)) (r:List AV),p.w<=n->p.chk=0->t.chk=0->(∀q∈m,q.2.chk=0)->BRow m r ->
  Gets (EVm (EV cfg) 238 [.ptr 0 0 0,p.av,t.av] 402 [r]) (QM (xT p t m)):=by
 intro n
 induction n with
 |zero=>intro p t m r h;have:=xK p;omega
 |succ n ih=>
  intro p t m r hw hp ht hm hr;have hwp:=xx hp;have hwe:=p.w_eq;have step:∀(i:Nat) (m:List (Int×Tm)) (r:List AV),i<p.subs.length->p.subs.length=t.subs.length->(∀q∈m,q.2.chk=0)->BRow m r ->
    ∃x y,p.subs[i]? =some x∧t.subs[i]? =some y∧p.subs.drop i=x::p.subs.drop (i+1)∧t.subs.drop i=y::t.subs.drop (i+1)∧Gets (EVm (EV cfg) 238 [.ptr 0 0 0,x.av,y.av] 402 [r]) (QM (xT x y m)):=by
   intro i m r hi hl hm hr;have hj:i<t.subs.length:=by omega
   have hx:p.subs[i]? =some p.subs[i]:=qBk hi;have hy:t.subs[i]? =some t.subs[i]:=qBk hj;have mx:=qBy hx;have my:=qBy hy;have:=xW mx;exact⟨_,_,hx,hy,qBJ hi,qBJ hj,ih _ _ m r (by omega) (vA hp mx) (vA ht my) hm hr⟩
  have hlen:p.subs.length<1099511627776:=by have:=qbq p.subs;omega
  have loopA:p.subs.length=t.subs.length->∀(d i:Nat) (m:List (Int×Tm)) (r:List AV) (v:MV),i+d=p.subs.length->(∀q∈m,q.2.chk=0)->BRow m r ->
    Gets (qh8 (qb p.subs) (v,[r]) i p.kind p.num p.str (qb p.subs) t.kind t.num t.str (qb t.subs)) (QM (xk (p.subs.drop i) (t.subs.drop i) m)):=by
   intro hl d
   induction d with
   |zero=>
    intro i m r v hi hm hr;obtain rfl:i=p.subs.length:=by omega
    refine qg0 _ _ _ _ _ _ _ _ _ _ _ ?_;rw[qe,qB4 (by omega),qBR (qBp _),qbd];exact⟨_,rfl,_,_,rfl,rfl,hr,hm⟩
   |succ d ihd=>
    intro i m r v hi hm hr;have hil:i<p.subs.length:=by omega
    obtain⟨x,y,hx,hy,dx,dy,hc⟩:=step i m r hil hl hm hr;refine qg0 _ _ _ _ _ _ _ _ _ _ _ ?_;obtain⟨q,hq,b,r',rfl,ho⟩:=hc;have gx:qBg (qb p.subs) (qBj (i:Int))=some x.cells:=xA hx;have gy:qBg (qb t.subs) (qBj (i:Int))=some y.cells:=xA hy;rw[qe,qe,qB3 (show(i:Int)<(p.subs.length:Int) by omega),qZ,vO,vO,←hl,qB3 hil,gx,gy,vn hil hlen,dx,dy,qaE]
    simp only[cond_true,qBw,qD,qBL,qQ,qv,yh,qJ,qc];rw[hq];simp only[qc,xG];cases hmt:xT x y m with
    |none=>
     rw[hmt]at ho;obtain rfl:b=false:=ho;exact⟨_,rfl,_,_,rfl,rfl⟩
    |some m'=>
     rw[hmt]at ho;obtain⟨rfl,hb,hm'⟩:=ho;exact ihd (i+1) m' r' _ (by omega) hm' hb
  have loop:p.subs.length=t.subs.length->Gets (qg1 (qb p.subs) 0 r p.kind p.num p.str (qb p.subs) t.kind t.num t.str (qb t.subs)) (QM (xk p.subs t.subs m)):=by
   intro hl
   by_cases h0:p.subs.length=0
   ·refine qiO _ _ _ _ _ _ _ _ _ _ _ ?_;have hn:p.subs=[]:=List.length_eq_zero_iff.1 h0;rw[qe,h0,hn,qbd];exact⟨_,rfl,_,_,rfl,rfl,hr,hm⟩
   ·have hil:0<p.subs.length:=by omega
    obtain⟨x,y,hx,hy,dx,dy,hc⟩:=step 0 m r hil hl hm hr;rw[List.drop_zero]at dx dy;refine qiO _ _ _ _ _ _ _ _ _ _ _ ?_;obtain⟨q,hq,b,r',rfl,ho⟩:=hc;have g1:qh 0 0=true:=rfl;have g2:qn 0 (p.subs.length:Int)=true:=qB3 (by omega);have g3:qBf .i64 (0+1)=((0+1:Nat):Int):=rfl;have gx:qBg (qb p.subs) (qBj 0)=some x.cells:=xA (i:=0) hx;have gy:qBg (qb t.subs) (qBj 0)=some y.cells:=xA (i:=0) hy
    rw[qe,qe,qB3 (show(0:Int)<(p.subs.length:Int) by omega),g1,←hl,g2,gx,gy,g3];have e:xk p.subs t.subs m=(xT x y m).bind λm'=>xk (p.subs.drop (0+1)) (t.subs.drop (0+1)) m':=by
     rw[←qaE,←dx,←dy]
    rw[e];simp only[cond_true,qBw,qD,qBL,qQ,qv,yh,qJ,qc];rw[hq];simp only[qc,xG];cases hmt:xT x y m with
    |none=>
     rw[hmt]at ho;obtain rfl:b=false:=ho;exact⟨_,rfl,_,_,rfl,rfl⟩
    |some m'=>
     rw[hmt]at ho;obtain⟨rfl,hb,hm'⟩:=ho;exact loopA hl (p.subs.length - 1) 1 m' r' _ (by omega) hm' hb
  have same:=qoO (a:=p) (b:=t) (by omega);have hf1:=hr.free;rw[Tm.av,Tm.av,Tm.cells_eq,Tm.cells_eq];refine qtY _ _ _ _ _ _ _ _ _ ?_;rw[beqI,beqI,beqI,beqS,qb7,qJ,qJ,same,qaX,qe,qe]
  by_cases h2:p.kind=2
  ·rw[qB3 h2,qB5 h2,cond_true]
   by_cases h95:p.str=[95]
   ·rw[qB3 h95,qB5 h95];exact⟨_,rfl,_,_,rfl,rfl,hr,hm⟩
   ·rw[qB4 h95,qB6 h95,cond_false];unfold varR;simp only[qc,kTup,qa,qi,qd,kNil];cases hv:varG p.str with
    |none=>exact⟨_,rfl,QM.same hr hm⟩
    |some v=>
     obtain⟨hv0,hv9⟩:=qfu hv;obtain⟨k,rfl⟩:∃k:Nat,v=k:=⟨v.toNat,by omega⟩;have hk:k<100:=by omega
     have hf2:qF 0 [AV.cptr r 0,.int .i64 (k:Int)]=true:=by simp[qF,AV.refsLt,hr.free]
     have hl2:qn (k:Int) 100=true:=by simp[qn];omega
     simp only[Option.getD_some,Option.isSome_some,qB1,cond_false,hf1,hf2,cond_true,qcZ hr.set hk,qc,qd,qZ,hl2,qBw,qBB];cases hx:qG (k:Int) m with
     |some x=>
      have hc:=hr.cells k hk x hx;have hb:qBv (2+k*4+4) r.length=true:=by rw[qBN,hr.len];omega
      have hxc:x.chk=0:=hm _ (xD hx);have hxw:=xx hxc;have hs:=qoO (a:=x) (b:=t) (by omega);rw[hb,hc,Tm.cells_eq];simp only[Option.isSome_some,cond_true,qi,qw,q4,qJ,hs,qc,qd];exact⟨_,rfl,QM.same hr hm⟩
     |none=>
      obtain⟨r',e1,e2,e3,e4,e5⟩:=qmV hr.set hk;have hadd:=hr.add (t:=t) hk hx e2 e3 e4 e5;have hb:qBv (2+k*4+4) r'.length=true:=by rw[qBN,e4,hr.len];omega
      rw[Tm.cells_eq]at hadd;simp only[Option.isSome_none,cond_false,e1,qc,qcJ,qI,qBP,hb,cond_true];refine⟨_,rfl,true,_,rfl,rfl,hadd,?_⟩;intro q hq;rcases qBF.1 hq with h|h
      ·exact hm q h
      ·simp at h;subst h;exact ht
  ·rw[qB4 h2,qB6 h2,cond_false,bneD,bneD];have hlb:(p.kind=7∨p.kind=9)->Gets (bif !decide (t.kind=p.kind)then some (MV.bool false,[r])else bif !decide ((t.subs.length:Int)=(p.subs.length:Int))then some (MV.bool false,[r])else qg1 (qb p.subs) 0 r p.kind p.num p.str (qb p.subs) t.kind t.num t.str (qb t.subs)) (QM (if p.kind=7∨p.kind=9 then(if t.kind≠p.kind∨t.subs.length≠p.subs.length then none else xk p.subs t.subs m)else if p=t then some m else none)):=by
    intro h79;rw[qB5 h79]
    by_cases hk:t.kind=p.kind
    ·rw[qB3 hk]
     by_cases hl:t.subs.length=p.subs.length
     ·rw[qB3 (show(t.subs.length:Int)=(p.subs.length:Int) by omega),qB6 (by simp[hk,hl])];exact loop hl.symm
     ·rw[qB4 (show ¬(t.subs.length:Int)=(p.subs.length:Int) by omega),qB5 (.inr hl)];exact⟨_,rfl,_,_,rfl,rfl⟩
    ·rw[qB4 hk,qB5 (.inl hk)];exact⟨_,rfl,_,_,rfl,rfl⟩
   by_cases h7:p.kind=7
   ·rw[qB3 h7,cond_true];exact hlb (.inl h7)
   ·rw[qB4 h7,cond_false]
    by_cases h9:p.kind=9
    ·rw[qB3 h9,cond_true];exact hlb (.inr h9)
    ·rw[qB4 h9,cond_false,qB6 (by omega)];exact⟨_,rfl,QM.same hr hm⟩
theorem qwC{m:List (Int×Tm)}{r:List AV}(hr:BRow m r)(hm:∀q∈m,q.2.chk=0):EVd (EV cfg) 239 [.ptr 0 0 0] 402 [r]=some (.sl (xb (xM m)),[r]):=by
 have hf1:=hr.free;have loop:∀d i:Nat,i+d=100->Gets (qgZ ((qBT i).filterMap λn=>(qG (n:Nat) m).map λt=>((n:Int),t)).length i r (xb ((qBT i).filterMap λn=>(qG (n:Nat) m).map λt=>((n:Int),t)))) (·=(AV.sl (xb (xM m)),[r])):=by
  intro d
  induction d with
  |zero=>
   intro i hi;obtain rfl:i=100:=by omega
   refine qiN _ _ _ _ ?_;have e1:qBv (0+(xM m).length) (xb (xM m)).length=true:=by rw[qBN,yG];omega
   have e2:qBm (xM m).length (xb (xM m))=xb (xM m):=qBt (by rw[yG];exact qBp _);unfold xM at e1 e2;rw[show decide (((100:Nat):Int)<100)=false from rfl,e1,e2];exact⟨_,rfl,rfl⟩
  |succ d ih=>
   intro i hi;have hk:i<100:=by omega
   have h1:=ih (i+1) (by omega);rw[List.range_succ,List.filterMap_append]at h1;generalize hacc:(qBT i).filterMap (λn=>(qG (n:Nat) m).map λt=>((n:Int),t))=acc at h1⊢;have hle:acc.length<=i:=by
    rw[←hacc];have:=List.length_filterMap_le (λn=>(qG (n:Nat) m).map λt=>((n:Int),t)) (qBT i);rw[List.length_range]at this;exact this
   refine qiN _ _ _ _ ?_;have e1:qBv (0+acc.length) (xb acc).length=true:=by rw[qBN,yG];omega
   have e2:qBm acc.length (xb acc)=xb acc:=qBt (by rw[yG];exact qBp _);have e3:qBf .i64 ((i:Int)+1)=((i+1:Nat):Int):=by rw[vq (by omega) (by omega)];omega
   have hf2:qF 0 [AV.cptr r 0,.int .i64 (i:Int)]=true:=by simp[qF,AV.refsLt,hr.free]
   have hl2:qn (i:Int) 100=true:=by simp[qn];omega
   have hb:qBv (2+i*4+4) r.length=true:=by rw[qBN,hr.len];omega
   rw[qB3 (show(i:Int)<100 by omega),e1,e2,e3];simp only[cond_true,qc,qd,hf1,hf2,qBw,qcZ hr.set hk,qZ,hl2,qBB,hb];cases hx:qG (i:Int) m with
   |none=>
    have:List.filterMap (λn=>(qG (n:Nat) m).map λt=>((n:Int),t)) [i]=[]:=by simp[hx]
    rw[this,List.append_nil]at h1;rw[Option.isSome_none,cond_false];exact h1
   |some x=>
    have hc:=hr.cells i hk x hx;have hxc:x.chk=0:=hm _ (xD hx);have hcp:=qbX (qd6 hxc);have:List.filterMap (λn=>(qG (n:Nat) m).map λt=>((n:Int),t)) [i]=[((i:Int),x)]:=by simp[hx]
    rw[this,qBr,List.length_singleton]at h1;have e4:xb (acc++[((i:Int),x)])=qBA (xb acc) [.int .i64 i::x.cells]:=by unfold xb;rw[List.map_append];rfl
    rw[e4,Tm.cells_eq]at h1;rw[hc,Tm.cells_eq];simp only[Option.isSome_some,cond_true,qa,qi,qw,q4,kNil,qJ,hcp,qc,qW,qyw (show acc.length+1<=1099511627776 by omega)];exact h1
 apply Gets.get;refine qtX _ ?_;exact loop 100 0 rfl
theorem qqL{p t:Tm}(wp:p.w<1099511627776)(wt:t.w<1099511627776):EVf (EV cfg) 215 [p.av,t.av,.sl []]=some (qk5 (qaY p t)):=by
 have mp:=qbQ wp;have mt:=qbQ wt;have hm:=qw6 p.w p t [] ([AV.int .u64 0,AV.int .u64 0]++(qBI 100 [AV.int .i64 0,AV.int .i64 0,.str [],.nilS]).flatten) (qBp _);apply Gets.get;rw[Tm.av,Tm.av,Tm.cells_eq,Tm.cells_eq]at hm⊢;rw[Tm.av,Tm.cells_eq]at mp mt;refine qqK _ _ _ _ _ _ _ _ _ ?_;refine qql _ _ _ _ _ _ _ _ _ _ _ _ _ _ _ _ _ _ _ _ ?_;rw[mp,mt];simp only[qc,qd,show decide ((0:Int)<(([]:List (List AV)).length:Int))=false from rfl,cond_false]
 unfold qaY
 by_cases hp:p.chk=0
 ·by_cases ht:t.chk=0
  ·rw[qB3 hp,qB3 ht,qB5 ⟨hp,ht⟩];obtain⟨q,hq,b,r',rfl,ho⟩:=hm hp ht (by simp) qrz;have h:Gets (kOpt (EVm (EV cfg) 238 [.ptr 0 0 0,.agg [AV.int .i64 p.kind,.int .i64 p.num,.str p.str,.sl (qb p.subs)],.agg [AV.int .i64 t.kind,.int .i64 t.num,.str t.str,.sl (qb t.subs)]] 402 [[AV.int .u64 0,AV.int .u64 0]++(qBI 100 [AV.int .i64 0,AV.int .i64 0,.str [],.nilS]).flatten]) fun(q:MV×List (List AV))=>yc q.1 fun(b:Bool)=>bif !b then some (AV.tup [.sl [],.bool false])else kOpt (EVd (EV cfg) 239 [.ptr 0 0 0] 402 q.2) fun(q:AV×List (List AV))=>kSl q.1 fun(rows:List (List AV))=>some (AV.tup [.sl rows,.bool true])) (·=qk5 ((xT p t []).map xM)):=by
    rw[hq];simp only[qc,xG];cases hmt:xT p t []with
    |none=>
     rw[hmt]at ho;obtain rfl:b=false:=ho;exact⟨_,rfl,rfl⟩
    |some m'=>
     rw[hmt]at ho;obtain⟨rfl,hb,hm'⟩:=ho;rw[qwC hb hm'];exact⟨_,rfl,rfl⟩
   refine Gets.eq ?_ h
   kernel_rfl
  ·rw[qB3 hp,qB4 ht,qB6 (λh=>ht h.2)];exact⟨_,rfl,rfl⟩
 ·rw[qB4 hp,qB6 (λh=>hp h.1)];exact⟨_,rfl,rfl⟩
theorem qqM{p t:Tm}(wp:p.w<1099511627776)(wt:t.w<1099511627776):EVf (EV cfg) 180 [p.av,t.av]=some (qk5 (qaY p t)):=by
 have hm:=qqL wp wt;apply Gets.get;rw[Tm.av,Tm.av,Tm.cells_eq,Tm.cells_eq]at hm⊢;refine qo1 _ _ _ _ _ _ _ _ ?_;rw[hm];cases qaY p t<;>exact⟨_,rfl,rfl⟩
def qAn:Den:=evC cfg (EV cfg) 188 none 10 (sub (qg Tryz.f188) [0,0,0])
def qAW:Ex×List AV×AH->Option (OV×AV):=kAft (Cfg.keepOut cfg 188 (qk (sub (qg Tryz.f188) [0,0,0]))) (vP 0 (kSeq (fun(fr:List AV) (H:AH)=>xa (Cfg.cut cfg 188 (qk (sub (qg Tryz.f188) [1]))) fr H fun(fr:List AV) (H:AH)=>vh cfg (EV cfg) (kfN cfg (5)) 188 none 10 (sub (qg Tryz.f188) [1]) fr H (xO cfg (Cfg.lift cfg 188 0) (fun(v:AV) (H:AH)=>(fun(r:AV×AH)=>ym 0 9 (fx 34 [(2,AV.ptr 1 0 0),(3,AV.ptr 2 0 0),(4,AV.ptr 3 0 0),(5,AV.ptr 4 0 0)]) (vP 0 (kSeq (fun(fr:List AV) (H:AH)=>xa (Cfg.cut cfg 81 (qk (sub (qg Tryz.f81) [1,1,1,1,1]))) fr H fun(fr:List AV) (H:AH)=>vh cfg (EV cfg) (kfN cfg 6) 81 none 0 (sub (qg Tryz.f81) [1,1,1,1,1]) fr H (qlt cfg (Cfg.lift cfg 81 0) (qBM (Func.results Tryz.f81)))) (qlt cfg (Cfg.lift cfg 81 0) (qBM (Func.results Tryz.f81))))) (Prod.snd r)) (v,H)) (qBM (Func.results (Prod.snd (188,Tryz.f188)))))) (xO cfg (Cfg.lift cfg 188 0) (fun(v:AV) (H:AH)=>(fun(r:AV×AH)=>ym 0 9 (fx 34 [(2,AV.ptr 1 0 0),(3,AV.ptr 2 0 0),(4,AV.ptr 3 0 0),(5,AV.ptr 4 0 0)]) (vP 0 (kSeq (fun(fr:List AV) (H:AH)=>xa (Cfg.cut cfg 81 (qk (sub (qg Tryz.f81) [1,1,1,1,1]))) fr H fun(fr:List AV) (H:AH)=>vh cfg (EV cfg) (kfN cfg 6) 81 none 0 (sub (qg Tryz.f81) [1,1,1,1,1]) fr H (qlt cfg (Cfg.lift cfg 81 0) (qBM (Func.results Tryz.f81)))) (qlt cfg (Cfg.lift cfg 81 0) (qBM (Func.results Tryz.f81))))) (Prod.snd r)) (v,H)) (qBM (Func.results (Prod.snd (188,Tryz.f188)))))))
def qwi:List AV×AH->Option (OV×AV):=fun(p:List AV×AH)=>kOpt (LOOP 10 (some [0,1,2]) [] qAn p) qAW
def qwm:Den:=evC cfg (EV cfg) 130 none 0 (sub (qg Tryz.f130) [1,1,1,1,1,1,1,1,0,1,0,0])
def qwu:Ex×List AV×AH->Option AV:=kAft (Cfg.keepOut cfg 130 11) (kRun cfg (EV cfg) (kfN cfg 6) 130 none 0 (xz cfg (Cfg.lift cfg 130 0) Tryz.f130.results.toList) ([.block 0,.seq (sub (qg Tryz.f130) [1,1,1,1,1,1,1,1,1])]))
def qp9:List AV×AH->Option AV:=λp=>kOpt (LOOP 0 (some [2,4,5,73,74]) ([]) qwm p) qwu
def qAm:Den:=evC cfg (EV cfg) 130 none 0 (sub (qg Tryz.f130) [1,1,1,1,1,1,1,1,0,1,0,0,1,1,0,0,1,1,0,0])
def qAV:Ex×List AV×AH->Option AV:=kAft (Cfg.keepOut cfg 130 14) (kRun cfg (EV cfg) (kfN cfg 6) 130 none 0 (kLp 0 (some [2,4,5,73,74]) ([]) qwm qwu) ([.block 2,.block 1,.seq (sub (qg Tryz.f130) [1,1,1,1,1,1,1,1,0,1,0,0,1,1,1])]))
def qwh:List AV×AH->Option AV:=λp=>kOpt (LOOP 0 (some [2,4,5,73,74,77,78,79]) ([]) qAm p) qAV
abbrev qov(c0_0 c0_1:Int)(c0_2:Bz)(c0_3:Rz)(nc1_0:Nat)(c2_0:Int)(nc3_0:Nat)(c4_0:Bool)(c5_0 c5_1:Int)(c5_2:Bz)(c5_3 h7 h8:Rz):Option (OV×AV):=qwi (((fx 23 [(0,.yld 9),(1,.ptr 5 0 0),(2,.ptr 6 0 0)]):List AV),([.rows false 4 [[.int .i64 c0_0,.int .i64 c0_1,.str c0_2,.sl c0_3]],.rows false 1 [[.ms 7 0 nc1_0]],.rows false 1 [[.int .i64 c2_0]],.rows false 1 [[.ms 8 0 nc3_0]],.rows false 1 [[.bool c4_0]],.rows false 4 [[.int .i64 c5_0,.int .i64 c5_1,.str c5_2,.sl c5_3]],.rows false 1 [[.ptr 4 0 0]],.rows true 6 h7,.rows true 6 h8,rngB Tryz.f81 81 [1,1,1,1,0,1,0] (fx 34 [(2,.ptr 1 0 0),(3,.ptr 2 0 0),(4,.ptr 3 0 0)]) none LoopState.ready]:AH))
abbrev quk(n n':Int)(s:Bz)(rows rows' rows'' rows''':Rz):Option (AV):=qp9 (((fx 91 [(2,.ptr 0 0 0),(4,.ptr 1 0 0),(5,.sl rows'),(73,.agg [.sl rows'',.sl rows''']),(74,.int .i64 (0:Int))]):List AV),([.rows false 6 [[.int .i64 (0:Int),.int .i64 (0:Int),.str [],.sl [],.sl [],.sl []]],.rows false 6 [[.int .i64 n,.int .i64 n',.str s,.sl rows,.sl rows'',.sl rows''']]]:AH))
abbrev qmd(c0_0 c0_1:Int)(c0_2:Bz)(c0_3:Rz)(nc1_0:Nat)(c2_0:Int)(nc3_0:Nat)(c4_0:Bool)(c5_0 c5_1:Int)(c5_2:Bz)(c5_3 h7 h10:Rz):Option (OV×AV):=qwi (((fx 23 [(0,.yld 9),(1,.ptr 5 0 0),(2,.ptr 6 0 0)]):List AV),([.rows false 4 [[.int .i64 c0_0,.int .i64 c0_1,.str c0_2,.sl c0_3]],.rows false 1 [[.ms 7 0 nc1_0]],.rows false 1 [[.int .i64 c2_0]],.rows false 1 [[.ms 10 0 nc3_0]],.rows false 1 [[.bool c4_0]],.rows false 4 [[.int .i64 c5_0,.int .i64 c5_1,.str c5_2,.sl c5_3]],.rows false 1 [[.ptr 4 0 0]],.rows true 6 h7,.dead,rngB Tryz.f81 81 [1,1,1,1,0,1,0] (fx 34 [(2,.ptr 1 0 0),(3,.ptr 2 0 0),(4,.ptr 3 0 0)]) none LoopState.ready,.rows true 6 h10]:AH))
abbrev qkx(rows' rows'' rows''':Rz)(v79 c0_0 c0_1:Int)(c0_2:Bz)(c0_3 c0_4 c0_5:Rz)(c1_0 c1_1:Int)(c1_2:Bz)(c1_3 c1_4 c1_5:Rz):Option (AV):=qwh (((fx 91 [(2,.ptr 0 0 0),(4,.ptr 1 0 0),(5,.sl rows'),(73,.agg [.sl rows'',.sl rows''']),(74,.int .i64 (0:Int)),(77,.sl rows''),(78,.int .i64 (rows''.length:Int)),(79,.int .i64 v79)]):List AV),([.rows false 6 [[.int .i64 c0_0,.int .i64 c0_1,.str c0_2,.sl c0_3,.sl c0_4,.sl c0_5]],.rows false 6 [[.int .i64 c1_0,.int .i64 c1_1,.str c1_2,.sl c1_3,.sl c1_4,.sl c1_5]]]:AH))
abbrev qrE(rows' rows'' rows''':Rz)(c0_0 c0_1:Int)(c0_2:Bz)(c0_3 c0_4 c0_5:Rz)(c1_0 c1_1:Int)(c1_2:Bz)(c1_3 c1_4 c1_5:Rz):Option (AV):=qp9 (((fx 91 [(2,.ptr 0 0 0),(4,.ptr 1 0 0),(5,.sl rows'),(73,.agg [.sl rows'',.sl rows''']),(74,.int .i64 (1:Int))]):List AV),([.rows false 6 [[.int .i64 c0_0,.int .i64 c0_1,.str c0_2,.sl c0_3,.sl c0_4,.sl c0_5]],.rows false 6 [[.int .i64 c1_0,.int .i64 c1_1,.str c1_2,.sl c1_3,.sl c1_4,.sl c1_5]]]:AH))
abbrev qib(rows' rows'' rows''':Rz)(v79 c0_0 c0_1:Int)(c0_2:Bz)(c0_3 c0_4 c0_5:Rz)(c1_0 c1_1:Int)(c1_2:Bz)(c1_3 c1_4 c1_5:Rz):Option (AV):=qwh (((fx 91 [(2,.ptr 0 0 0),(4,.ptr 1 0 0),(5,.sl rows'),(73,.agg [.sl rows'',.sl rows''']),(74,.int .i64 (1:Int)),(77,.sl rows'''),(78,.int .i64 (rows'''.length:Int)),(79,.int .i64 v79)]):List AV),([.rows false 6 [[.int .i64 c0_0,.int .i64 c0_1,.str c0_2,.sl c0_3,.sl c0_4,.sl c0_5]],.rows false 6 [[.int .i64 c1_0,.int .i64 c1_1,.str c1_2,.sl c1_3,.sl c1_4,.sl c1_5]]]:AH))
abbrev qrD(rows' rows'' rows''':Rz)(c0_0 c0_1:Int)(c0_2:Bz)(c0_3 c0_4 c0_5:Rz)(c1_0 c1_1:Int)(c1_2:Bz)(c1_3 c1_4 c1_5:Rz):Option (AV):=qp9 (((fx 91 [(2,.ptr 0 0 0),(4,.ptr 1 0 0),(5,.sl rows'),(73,.agg [.sl rows'',.sl rows''']),(74,.int .i64 (2:Int))]):List AV),([.rows false 6 [[.int .i64 c0_0,.int .i64 c0_1,.str c0_2,.sl c0_3,.sl c0_4,.sl c0_5]],.rows false 6 [[.int .i64 c1_0,.int .i64 c1_1,.str c1_2,.sl c1_3,.sl c1_4,.sl c1_5]]]:AH))
theorem qml(kt nt:Int)(st:Bz)(lt:Rz){P:OV×AV->Prop}(h:Gets (kOpt (EVs (EV cfg) 83 [.agg [.int .i64 kt,.int .i64 nt,.str st,.sl lt]]) λv=>kInt .i64 v λn=>bif n != 0 then some (OV.own 6 [] 0 0,.int .i64 (2:Int))else qov kt nt st lt 0 0 0 false kt nt st lt [] []) P):Gets (EVq (EV cfg) 81 [.agg [.int .i64 kt,.int .i64 nt,.str st,.sl lt]]) P:=
  gE (λ_=>funQ rfl rfl Tryz.func81 rfl) (by kernel_rfl) h
abbrev zp0:Option (AV):=some (AV.tup [.agg [.int .i64 0,.int .i64 0,.str [],.sl [],.sl [],.sl []],.bool false])
abbrev zp1:Option (AV):=some (AV.tup [AV.agg [.int .i64 0,.int .i64 0,.str [],.sl [],.sl [],.sl []],.bool false])
theorem qoI(kt nt:Int)(st:Bz)(lt:Rz){P:AV->Prop}(h:Gets (bif kt != 7 then zp0 else bif(lt.length:Int) != 3 then zp0 else bif qn 0 (lt.length:Int)then kOpt (qBg lt 0) λrow=>bif qBh (qBe row) 4 then bif qBv 4 (qBe row)then kTmC (qBm 4 row) λn n_1 s rows=>(kOpt (EVs (EV cfg) 189 [.agg [.int .i64 n,.int .i64 n_1,.str s,.sl rows]]) λv=>qu v λb=>bif ! b then some (AV.tup [.agg [.int .i64 0,.int .i64 0,.str [],.sl [],.sl [],.sl []],.bool false])else bif qn 0 (lt.length:Int)then kOpt (qBg lt 0) λrow=>bif qBh (qBe row) 4 then bif qBv 4 (qBe row)then kTmC (qBm 4 row) λn n_2 s rows=>(kOpt (EVf (EV cfg) 190 [.agg [.int .i64 n,.int .i64 n_2,.str s,.sl rows]]) λv=>kSl v λrows_1=>bif qn 1 (lt.length:Int)then kOpt (qBg lt 1) λrow=>bif qBh (qBe row) 4 then bif qBv 4 (qBe row)then kTmC (qBm 4 row) λn_3 n_4 s_1 rows_2=>(kOpt (EVf (EV cfg) 191 [.agg [.int .i64 n_3,.int .i64 n_4,.str s_1,.sl rows_2]]) λv=>kTup v λcs=>qa cs λc cs=>kSl c λrows_3=>qa cs λc cs=>qu c λb=>kNil cs (bif qn 2 (lt.length:Int)then kOpt (qBg lt 2) λrow=>bif qBh (qBe row) 4 then bif qBv 4 (qBe row)then kTmC (qBm 4 row) λn_5 n_6 s_2 rows_4=>(kOpt (EVf (EV cfg) 191 [AV.agg [.int .i64 n_5,.int .i64 n_6,.str s_2,.sl rows_4]]) λv=>kTup v λcs=>qa cs λc cs=>kSl c λrows_5=>qa cs λc cs=>qu c λb_1=>kNil cs (bif ! b then some (AV.tup [AV.agg [.int .i64 0,.int .i64 (0:Int),.str [],.sl [],.sl [],.sl []],.bool false])else bif ! b_1 then zp1 else bif(rows_5.length:Int)==0 then zp1 else quk n n_2 s rows rows_1 rows_3 rows_5))else none else none else none))else none else none else none)else none else none else none)else none else none else none) P):Gets (EVf (EV cfg) 130 [.agg [.int .i64 kt,.int .i64 nt,.str st,.sl lt]]) P:=
  gE (λ_=>funF rfl rfl Tryz.func130 rfl) (by kernel_rfl) h
abbrev zp9(cs:List AV)(nc3_0:Nat)(h8 c5_3:Rz)(c0_0 c0_1:Int)(c0_2:Bz)(c0_3:Rz)(nc1_0:Nat)(c2_0:Int)(c4_0:Bool)(h7:Rz)(n n_2:Int)(s:Bz)(rows rows_1 rows_2:Rz):Option (OV×AV):=qa cs λc cs=>qu c λb=>kNil cs (bif ! b then some (OV.own 6 [] 0 0,.int .i64 10)else bif qBv (0+nc3_0) (qBe h8)&&q8 (nc3_0+1) 104 then bif qn 1 (c5_3.length:Int)then kOpt (qBg c5_3 1) λrow=>bif qBh (qBe row) 4 then bif qBv 4 (qBe row)then kTmC (qBm 4 row) λn_3 n_4 s_1 rows_3=>(qmd c0_0 c0_1 c0_2 c0_3 nc1_0 c2_0 (nc3_0+1) c4_0 n_3 n_4 s_1 rows_3 h7 (qBA (qBm nc3_0 h8) [[AV.int .i64 n,.int .i64 n_2,.str s,.sl rows,.sl rows_1,.sl rows_2]]))else none else none else none else none)
abbrev zp8(n n_1:Int)(s:Bz)(rows:Rz)(nc3_0:Nat)(h8 c5_3:Rz)(c0_0 c0_1:Int)(c0_2:Bz)(c0_3:Rz)(nc1_0:Nat)(c2_0:Int)(c4_0:Bool)(h7:Rz):Option (OV×AV):=(kOpt (EVf (EV cfg) 130 [.agg [.int .i64 n,.int .i64 n_1,.str s,.sl rows]]) λv=>kTup v λcs=>qa cs λc cs=>kAgg c λcs_1=>qa cs_1 λc cs_2=>kInt .i64 c λn=>qa cs_2 λc cs_3=>kInt .i64 c λn_2=>qa cs_3 λc cs_4=>kStr c λs=>qa cs_4 λc cs_5=>kSl c λrows=>qa cs_5 λc cs_6=>kSl c λrows_1=>qa cs_6 λc cs_7=>kSl c λrows_2=>kNil cs_7 (zp9 cs nc3_0 h8 c5_3 c0_0 c0_1 c0_2 c0_3 nc1_0 c2_0 c4_0 h7 n n_2 s rows rows_1 rows_2))
abbrev zp7(row:List AV)(nc3_0:Nat)(h8 c5_3:Rz)(c0_0 c0_1:Int)(c0_2:Bz)(c0_3:Rz)(nc1_0:Nat)(c2_0:Int)(c4_0:Bool)(h7:Rz):Option (OV×AV):=kTmC (qBm 4 row) λn n_1 s rows=>zp8 n n_1 s rows nc3_0 h8 c5_3 c0_0 c0_1 c0_2 c0_3 nc1_0 c2_0 c4_0 h7
abbrev zp6(row:List AV)(nc3_0:Nat)(h8 c5_3:Rz)(c0_0 c0_1:Int)(c0_2:Bz)(c0_3:Rz)(nc1_0:Nat)(c2_0:Int)(c4_0:Bool)(h7:Rz):Option (OV×AV):=bif qBv 4 (qBe row)then zp7 row nc3_0 h8 c5_3 c0_0 c0_1 c0_2 c0_3 nc1_0 c2_0 c4_0 h7 else none
abbrev zp5(row:List AV)(nc3_0:Nat)(h8 c5_3:Rz)(c0_0 c0_1:Int)(c0_2:Bz)(c0_3:Rz)(nc1_0:Nat)(c2_0:Int)(c4_0:Bool)(h7:Rz):Option (OV×AV):=bif qBh (qBe row) 4 then zp6 row nc3_0 h8 c5_3 c0_0 c0_1 c0_2 c0_3 nc1_0 c2_0 c4_0 h7 else none
abbrev zp4(c5_3:Rz)(nc3_0:Nat)(h8:Rz)(c0_0 c0_1:Int)(c0_2:Bz)(c0_3:Rz)(nc1_0:Nat)(c2_0:Int)(c4_0:Bool)(h7:Rz):Option (OV×AV):=kOpt (qBg c5_3 0) λrow=>zp5 row nc3_0 h8 c5_3 c0_0 c0_1 c0_2 c0_3 nc1_0 c2_0 c4_0 h7
abbrev zp3(c5_3:Rz)(nc3_0:Nat)(h8:Rz)(c0_0 c0_1:Int)(c0_2:Bz)(c0_3:Rz)(nc1_0:Nat)(c2_0:Int)(c4_0:Bool)(h7:Rz):Option (OV×AV):=bif qn 0 (c5_3.length:Int)then zp4 c5_3 nc3_0 h8 c0_0 c0_1 c0_2 c0_3 nc1_0 c2_0 c4_0 h7 else none
abbrev zp2(c5_0:Int)(c5_3:Rz)(nc3_0:Nat)(h8:Rz)(c0_0 c0_1:Int)(c0_2:Bz)(c0_3:Rz)(nc1_0:Nat)(c2_0:Int)(c4_0:Bool)(h7:Rz):Option (OV×AV):=bif c5_0==9 then zp3 c5_3 nc3_0 h8 c0_0 c0_1 c0_2 c0_3 nc1_0 c2_0 c4_0 h7 else bif ! c5_0==8 then some (OV.own 6 [] 0 0,.int .i64 10)else bif(↑ nc3_0:Int)==0 then some (OV.own 6 [] 0 0,.int .i64 10)else some (OV.own 6 h8 0 nc3_0,.int .i64 0)
theorem qqq(c0_0 c0_1:Int)(c0_2:Bz)(c0_3:Rz)(nc1_0:Nat)(c2_0:Int)(nc3_0:Nat)(c4_0:Bool)(c5_0 c5_1:Int)(c5_2:Bz)(c5_3 h7 h8:Rz){P:OV×AV->Prop}(h:Gets (zp2 c5_0 c5_3 nc3_0 h8 c0_0 c0_1 c0_2 c0_3 nc1_0 c2_0 c4_0 h7) P):Gets (qov c0_0 c0_1 c0_2 c0_3 nc1_0 c2_0 nc3_0 c4_0 c5_0 c5_1 c5_2 c5_3 h7 h8) P:=
  gE (λ_=>qB (cfg:=cfg) (f:=188) (rd:=none) (bs:=10)) (by kernel_rfl) h
theorem qqp(n n':Int)(s:Bz)(rows rows' rows'' rows''':Rz){P:AV->Prop}(h:Gets (qkx rows' rows'' rows''' 0 0 0 [] [] [] [] n n' s rows rows'' rows''') P):Gets (quk n n' s rows rows' rows'' rows''') P:=
  gE (λ_=>qB (cfg:=cfg) (f:=130) (rd:=none) (bs:=0)) (by kernel_rfl) h
theorem qou(c0_0 c0_1:Int)(c0_2:Bz)(c0_3:Rz)(nc1_0:Nat)(c2_0:Int)(nc3_0:Nat)(c4_0:Bool)(c5_0 c5_1:Int)(c5_2:Bz)(c5_3 h7 h10:Rz){P:OV×AV->Prop}(h:Gets (zp2 c5_0 c5_3 nc3_0 h10 c0_0 c0_1 c0_2 c0_3 nc1_0 c2_0 c4_0 h7) P):Gets (qmd c0_0 c0_1 c0_2 c0_3 nc1_0 c2_0 nc3_0 c4_0 c5_0 c5_1 c5_2 c5_3 h7 h10) P:=
  gE (λ_=>qB (cfg:=cfg) (f:=188) (rd:=none) (bs:=10)) (by kernel_rfl) h
theorem qiU(rows' rows'' rows''':Rz)(v79 c0_0 c0_1:Int)(c0_2:Bz)(c0_3 c0_4 c0_5:Rz)(c1_0 c1_1:Int)(c1_2:Bz)(c1_3 c1_4 c1_5:Rz){P:AV->Prop}(h:Gets (bif decide (v79<(rows''.length:Int))then bif qh 0 v79&&qn v79 (rows''.length:Int)then kOpt (qBg rows'' (v79.toNat)) λrow=>bif qBh (qBe row) 4 then bif qBv 4 (qBe row)then kTmC (qBm 4 row) λn n_1 s rows=>(kOpt (EVs (EV cfg) 62 [.agg [.int .i64 n,.int .i64 n_1,.str s,.sl rows],.sl rows']) λv=>kInt .i64 v λn=>bif n != 0 then some (AV.tup [.agg [.int .i64 (0:Int),.int .i64 0,.str [],.sl [],.sl [],.sl []],.bool false])else qkx rows' rows'' rows''' (qBf .i64 (v79+1)) c0_0 c0_1 c0_2 c0_3 c0_4 c0_5 c1_0 c1_1 c1_2 c1_3 c1_4 c1_5)else none else none else none else qrE rows' rows'' rows''' c0_0 c0_1 c0_2 c0_3 c0_4 c0_5 c1_0 c1_1 c1_2 c1_3 c1_4 c1_5) P):Gets (qkx rows' rows'' rows''' v79 c0_0 c0_1 c0_2 c0_3 c0_4 c0_5 c1_0 c1_1 c1_2 c1_3 c1_4 c1_5) P:=
  gE (λ_=>qB (cfg:=cfg) (f:=130) (rd:=none) (bs:=0)) (by kernel_rfl) h
theorem qot(rows' rows'' rows''':Rz)(c0_0 c0_1:Int)(c0_2:Bz)(c0_3 c0_4 c0_5:Rz)(c1_0 c1_1:Int)(c1_2:Bz)(c1_3 c1_4 c1_5:Rz){P:AV->Prop}(h:Gets (qib rows' rows'' rows''' 0 c0_0 c0_1 c0_2 c0_3 c0_4 c0_5 c1_0 c1_1 c1_2 c1_3 c1_4 c1_5) P):Gets (qrE rows' rows'' rows''' c0_0 c0_1 c0_2 c0_3 c0_4 c0_5 c1_0 c1_1 c1_2 c1_3 c1_4 c1_5) P:=
  gE (λ_=>qB (cfg:=cfg) (f:=130) (rd:=none) (bs:=0)) (by kernel_rfl) h
theorem qg4(rows' rows'' rows''':Rz)(v79 c0_0 c0_1:Int)(c0_2:Bz)(c0_3 c0_4 c0_5:Rz)(c1_0 c1_1:Int)(c1_2:Bz)(c1_3 c1_4 c1_5:Rz){P:AV->Prop}(h:Gets (bif decide (v79<(rows'''.length:Int))then bif qh 0 v79&&qn v79 (rows'''.length:Int)then kOpt (qBg rows''' (v79.toNat)) λrow=>bif qBh (qBe row) 4 then bif qBv 4 (qBe row)then kTmC (qBm 4 row) λn n_1 s rows=>(kOpt (EVs (EV cfg) 62 [.agg [.int .i64 n,.int .i64 n_1,.str s,.sl rows],.sl rows']) λv=>kInt .i64 v λn=>bif n != 0 then some (AV.tup [.agg [.int .i64 0,.int .i64 0,.str [],.sl [],.sl [],.sl []],.bool false])else qib rows' rows'' rows''' (qBf .i64 (v79+1)) c0_0 c0_1 c0_2 c0_3 c0_4 c0_5 c1_0 c1_1 c1_2 c1_3 c1_4 c1_5)else none else none else none else qrD rows' rows'' rows''' c0_0 c0_1 c0_2 c0_3 c0_4 c0_5 c1_0 c1_1 c1_2 c1_3 c1_4 c1_5) P):Gets (qib rows' rows'' rows''' v79 c0_0 c0_1 c0_2 c0_3 c0_4 c0_5 c1_0 c1_1 c1_2 c1_3 c1_4 c1_5) P:=
  gE (λ_=>qB (cfg:=cfg) (f:=130) (rd:=none) (bs:=0)) (by kernel_rfl) h
theorem qos(rows' rows'' rows''':Rz)(c0_0 c0_1:Int)(c0_2:Bz)(c0_3 c0_4 c0_5:Rz)(c1_0 c1_1:Int)(c1_2:Bz)(c1_3 c1_4 c1_5:Rz){P:AV->Prop}(h:Gets (some (AV.tup [.agg [.int .i64 c1_0,.int .i64 c1_1,.str c1_2,.sl c1_3,.sl c1_4,.sl c1_5],.bool true])) P):Gets (qrD rows' rows'' rows''' c0_0 c0_1 c0_2 c0_3 c0_4 c0_5 c1_0 c1_1 c1_2 c1_3 c1_4 c1_5) P:=
  gE (λ_=>qB (cfg:=cfg) (f:=130) (rd:=none) (bs:=0)) (by kernel_rfl) h
def qAl:Den:=evC cfg (EV cfg) 56 none 0 (sub (qg Tryz.f56) [1,1,1,0,1,0,0])
def qAU:Ex×List AV×AH->Option AV:=kAft (Cfg.keepOut cfg 56 5) (kRun cfg (EV cfg) (kfN cfg 6) 56 none 0 (xz cfg (Cfg.lift cfg 56 0) Tryz.f56.results.toList) ([.block 0,.seq (sub (qg Tryz.f56) [1,1,1,1])]))
def qwg:List AV×AH->Option AV:=λp=>kOpt (LOOP 0 (some [4,16,17,18]) ([]) qAl p) qAU
abbrev qy2(v18:Int):Option (AV):=qwg (((fx 38 [(4,.nilS),(16,.nilS),(17,.int .i64 (0:Int)),(18,.int .i64 v18)]):List AV),([]:AH))
abbrev qia(sz off len:Nat)(v18:Int)(h0:Rz):Option (AV):=qwg (((fx 38 [(4,.ms 0 off len),(16,.ms 0 off len),(17,.int .i64 (↑len:Int)),(18,.int .i64 v18)]):List AV),([.rows true sz h0]:AH))
theorem qnF(kt nt:Int)(st:Bz)(lt:Rz){P:AV->Prop}(h:Gets (kOpt (EVq (EV cfg) 81 [.agg [.int .i64 kt,.int .i64 nt,.str st,.sl lt]]) λq=>kInt .i64 q.2 λn=>kOwn q.1 (bif n != 0 then some (AV.tup [.sl [],.int .i64 n])else qy2 0) λsz rs off len=>bif n != 0 then some (AV.tup [.sl [],.int .i64 n])else qia sz off len (0:Int) rs) P):Gets (EVf (EV cfg) 56 [.agg [.int .i64 kt,.int .i64 nt,.str st,.sl lt]]) P:=
  gE (λ_=>funF rfl rfl Tryz.func56 rfl) (by kernel_rfl) h
theorem qg3(sz off len:Nat)(v18:Int)(h0:Rz){P:AV->Prop}(h:Gets (bif decide (v18<(↑ len:Int))then bif qBh sz 6&&qh 0 v18&&qn v18 (↑ len:Int)then kOpt (qBg h0 (off+v18.toNat)) λrow=>bif qBv 6 (qBe row)then qa (qBm 6 row) λc cs=>kInt .i64 c λn=>qa cs λc cs=>kInt .i64 c λn_1=>qa cs λc cs=>kStr c λs=>qa cs λc cs=>kSl c λrows=>qa cs λc cs=>kSl c λrows_1=>qa cs λc cs=>kSl c λrows_2=>kNil cs (kOpt (EVf (EV cfg) 45 [.agg [.int .i64 n,.int .i64 n_1,.str s,.sl rows]]) λv=>kTmV v λn n_2 s rows=>(kOpt (EVf (EV cfg) 103 [.sl rows_1]) λv=>kSl v λrows_3=>kOpt (EVf (EV cfg) 103 [.sl rows_2]) λv=>kSl v λrows_4=>bif qBh sz 6&&qh 0 v18&&qn v18 (↑ len:Int)then kOpt (qBg h0 (off+v18.toNat)) λrow=>bif qBv 6 (qBe row)then qia sz off len (qBf .i64 (v18+1)) (List.set h0 (off+v18.toNat) (.int .i64 n:: .int .i64 n_2:: .str s:: .sl rows:: .sl rows_3:: .sl rows_4::qBU 6 row))else none else none))else none else none else bif qBv (off+len) (qBe h0)&&true then some (AV.tup [.sl (qBm len (qBU off h0)),.int .i64 0])else none) P):Gets (qia sz off len v18 h0) P:=
  gE (λ_=>qB (cfg:=cfg) (f:=56) (rd:=none) (bs:=0)) (by kernel_rfl) h
end Go.Proofs.YtafdkafbgohigaaGreat
end
noncomputable section
namespace Go.Av
def clR(o:Option Cl):AV:=match o with
 |some c=>.tup [c.av,.bool true]
 |none=>.tup [qA0.av,.bool false]
def clsQ(r:List Cl×Int):OV×AV:=(.own 6 (vK r.1) 0 r.1.length,.int .i64 r.2)
def clsA(acc:List Cl)(t:Tm):List Cl×Int:=match seqC (qS t).1 with
 |some l=>if(qS t).2&& !(acc++l).isEmpty then(acc++l,0)else([],10)
 |none=>([],10)
def okV(V:List Int)(l:List Tm):Bool:=l.all λe=>decide (xm V e=0)
theorem qo3(V:List Int)(x:Tm)(l:List Tm):okV V (x::l)=(decide (xm V x=0)&&okV V l):=rfl
theorem qun(p:Tm):(zQ p).length<=100:=by
 unfold zQ
 by_cases h:p.chk=0
 ·rw[qB5 h,qBE];have:=List.length_filter_le (λn:Nat=>xL (n:Nat) p) (qBT 100);rw[List.length_range]at this;exact this
 ·rw[qB6 h];exact Nat.zero_le _
theorem qr0{n:Nat}(h:n<=1099511627776):q8 n 104=true:=by
 unfold q8;rw[qBi,qBN,qBN];omega
def ClOk(c:Cl):Prop:=c.head.chk=0∧(∀x∈c.gs,x.chk=0)∧(∀x∈c.bs,x.chk=0)∧c.gs.length<=8388608∧c.bs.length<=8388608
theorem qtV{t:Tm}(h:t.chk=0){c:Cl}(hc:yl t=some c):ClOk c:=by
 unfold yl at hc
 by_cases h7:t.kind=7
 ·rw[qB5 h7]at hc;have hw:=xx h;have hwe:=t.w_eq;cases hs:t.subs with
  |nil=>rw[hs]at hc;cases hc
  |cons a l=>cases l with
   |nil=>rw[hs]at hc;cases hc
   |cons b l=>cases l with
    |nil=>rw[hs]at hc;cases hc
    |cons d l=>cases l with
     |nil=>
      rw[hs]at hc hwe;simp only[qE,xy]at hwe;simp only[]at hc;split at hc
      ·cases hc;have ha:a.chk=0:=vA h (by rw[hs];simp);have hb:b.chk=0:=vA h (by rw[hs];simp);have hd:d.chk=0:=vA h (by rw[hs];simp);have lb:=qec hb;have ld:=qec hd;exact⟨ha,qdx hb,qdx hd,by show(qS b).1.length<=_;omega,by show(qS d).1.length<=_;omega⟩
      ·cases hc
     |cons e l=>rw[hs]at hc;cases hc
 ·rw[qB6 h7]at hc;cases hc
theorem qrJ:∀{l:List Tm} {cs:List Cl},(∀x∈l,x.chk=0)->seqC l=some cs->∀c∈cs,ClOk c
 |[],cs,_,h=>by cases h;intro c hc;cases hc
 |t::l,cs,ho,h=>by
  rw[seqC]at h;obtain⟨c,hc,h⟩:=qBl.1 h;obtain⟨r,hr,rfl⟩:=qBq.1 h;intro d hd;rcases qBG.1 hd with rfl|hd
  ·exact qtV (ho t List.mem_cons_self) hc
  ·exact qrJ (λx hx=>ho x (List.mem_cons_of_mem _ hx)) hr d hd
theorem qmH(t:Tm):(∀c∈(clsG t).1,ClOk c)∧(clsG t).1.length<=8388608:=by
 unfold clsG
 by_cases hc:t.chk=0
 ·rw[qB5 hc];have hw:=xx hc;have hl:=qec hc;cases hs:seqC (qS t).1 with
  |none=>exact⟨λc hc=>(by cases hc),Nat.zero_le _⟩
  |some l=>
   simp only[];have hn:=qoM hs;split
   ·exact⟨qrJ (qdx hc) hs,by show l.length<=_;omega⟩
   ·exact⟨λc hc=>(by cases hc),Nat.zero_le _⟩
 ·rw[qB6 hc];exact⟨λc hc=>(by cases hc),Nat.zero_le _⟩
end Go.Av
namespace Go.Proofs.YtafdkafbgohigaaGreat
open Go.Av
theorem qpY{V:List Int}{h:Tm}{G B:List Tm}(hV:V.length<1099511627776)(hB:B.length<1099511627776)(wB:∀x∈B,x.w<1099511627776):∀d i:Nat,i+d=B.length ->
  Gets (qib (vC V) (qb G) (qb B) i 0 0 [] [] [] [] h.kind h.num h.str (qb h.subs) (qb G) (qb B)) (·=clR (if okV V (B.drop i)then some ⟨h,G,B⟩else none)):=by
 intro d
 induction d with
 |zero=>
  intro i hi;obtain rfl:i=B.length:=by omega
  refine qg4 _ _ _ _ _ _ _ _ _ _ _ _ _ _ _ _ ?_;rw[qe,qB4 (by omega),cond_false,qBR (qBp _)];refine qos _ _ _ _ _ _ _ _ _ _ _ _ _ _ _ ?_;exact⟨_,rfl,rfl⟩
 |succ d ih=>
  intro i hi;have hil:i<B.length:=by omega
  have hx:B[i]? =some B[i]:=qBk hil;have hg:=qdh hV (wB _ (qBy hx));have h1:=ih (i+1) (by omega);rw[qBJ hil,qo3];refine qg4 _ _ _ _ _ _ _ _ _ _ _ _ _ _ _ _ ?_;have gx:qBg (qb B) (qBj (i:Int))=some B[i].cells:=xA hx;rw[qe,qB3 (show(i:Int)<(B.length:Int) by omega),qZ,vO,qB3 hil,gx,vn hil hB]
  simp only[cond_true,qBw,qc,qD,qBL,qQ,qv,yh,qJ,hg,qi,bneD]
  by_cases h0:xm V B[i]=0
  ·rw[qB3 h0,qBV];exact h1
  ·rw[qB4 h0];exact⟨_,rfl,rfl⟩
theorem qpZ{V:List Int}{h:Tm}{G B:List Tm}(hV:V.length<1099511627776)(hG:G.length<1099511627776)(wG:∀x∈G,x.w<1099511627776)(hB:B.length<1099511627776)(wB:∀x∈B,x.w<1099511627776):∀d i:Nat,i+d=G.length ->
  Gets (qkx (vC V) (qb G) (qb B) i 0 0 [] [] [] [] h.kind h.num h.str (qb h.subs) (qb G) (qb B)) (·=clR (if okV V (G.drop i)&&okV V B then some ⟨h,G,B⟩else none)):=by
 intro d
 induction d with
 |zero=>
  intro i hi;obtain rfl:i=G.length:=by omega
  refine qiU _ _ _ _ _ _ _ _ _ _ _ _ _ _ _ _ ?_;rw[qe,qB4 (by omega),cond_false,qBR (qBp _)];refine qot _ _ _ _ _ _ _ _ _ _ _ _ _ _ _ ?_;exact qpY (h:=h) (G:=G) hV hB wB B.length 0 (by omega)
 |succ d ih=>
  intro i hi;have hil:i<G.length:=by omega
  have hx:G[i]? =some G[i]:=qBk hil;have hg:=qdh hV (wG _ (qBy hx));have h1:=ih (i+1) (by omega);rw[qBJ hil,qo3];refine qiU _ _ _ _ _ _ _ _ _ _ _ _ _ _ _ _ ?_;have gx:qBg (qb G) (qBj (i:Int))=some G[i].cells:=xA hx;rw[qe,qB3 (show(i:Int)<(G.length:Int) by omega),qZ,vO,qB3 hil,gx,vn hil hG]
  simp only[cond_true,qBw,qc,qD,qBL,qQ,qv,yh,qJ,hg,qi,bneD]
  by_cases h0:xm V G[i]=0
  ·rw[qB3 h0,qBV];exact h1
  ·rw[qB4 h0];exact⟨_,rfl,rfl⟩
theorem qnu{t:Tm}(hc:t.chk=0):EVf (EV cfg) 130 [t.av]=some (clR (yl t)):=by
 have hw:=xx hc;have hwe:=t.w_eq;have hz:AV.tup [.agg [AV.int .i64 (0:Int),.int .i64 (0:Int),.str [],.sl [],.sl [],.sl []],.bool false]=clR none:=rfl;apply Gets.get;rw[Tm.av,Tm.cells_eq];refine qoI _ _ _ _ ?_;unfold zp1 zp0;rw[bneD,bneD,hz,qe]
 by_cases h7:t.kind=7
 ·rw[qB3 h7]
  by_cases h3:t.subs.length=3
  ·obtain⟨h,g,b,hs⟩:∃h g b,t.subs=[h,g,b]:=by
    cases hs:t.subs with
    |nil=>rw[hs]at h3;simp at h3
    |cons a l=>cases l with
     |nil=>rw[hs]at h3;simp at h3
     |cons b l=>cases l with
      |nil=>rw[hs]at h3;simp at h3
      |cons d l=>cases l with
       |nil=>exact⟨a,b,d,rfl⟩
       |cons e l=>rw[hs]at h3;simp at h3
   have ch:h.chk=0:=vA hc (by rw[hs];simp);have cg:g.chk=0:=vA hc (by rw[hs];simp);have cb:b.chk=0:=vA hc (by rw[hs];simp);rw[hs]at hwe;simp only[qE,xy]at hwe;have lg:=qec cg;have lb:=qec cb;have hh:=quz (t:=h) (by omega);have hv:=qsL (t:=h) (by omega);have e1:=qmS cg;have e2:=qmS cb;have hl:=qpZ (V:=zQ h) (h:=h) (G:=(qS g).1) (B:=(qS b).1) (by have:=qun h;omega) (by omega) (λx hx=>by have:=xW hx;omega) (by omega) (λx hx=>by have:=xW hx;omega) (qS g).1.length 0 (by omega)
   have gh:yl t=if qgr h&&((qS g).2&&((qS b).2&& !(qS b).1.isEmpty))&&(okV (zQ h) (qS g).1&&okV (zQ h) (qS b).1)then some ⟨h,(qS g).1,(qS b).1⟩else none:=by
    unfold yl;rw[qB5 h7,hs];rfl
   rw[qB3 (show(t.subs.length:Int)=3 by omega),hs,qR,qR,qR,vo,gh];have g0:qBg [h.cells,g.cells,b.cells] 0=some h.cells:=rfl;have g1:qBg [h.cells,g.cells,b.cells] 1=some g.cells:=rfl;have g2:qBg [h.cells,g.cells,b.cells] 2=some b.cells:=rfl;have l0:qn 0 (([h,g,b].length:Nat):Int)=true:=rfl;have l1:qn 1 (([h,g,b].length:Nat):Int)=true:=rfl
   have l2:qn 2 (([h,g,b].length:Nat):Int)=true:=rfl;rw[g0,g1,g2];simp only[l0,l1,l2,qB1,cond_false,cond_true,qc,qD,qBL,qQ,qv,yh,qJ,hh,qd];cases qgr h with
   |false=>exact⟨_,rfl,rfl⟩
   |true=>
    simp only[qB1,cond_false,qBV,hv,e1,e2,lsR,qc,kTup,qa,q4,qd,kNil,qe,beqI];cases(qS g).2 with
    |false=>exact⟨_,rfl,rfl⟩
    |true=>
     cases(qS b).2 with
     |false=>exact⟨_,rfl,rfl⟩
     |true=>
      simp only[qB1,cond_false,qBV];cases hb:(qS b).1 with
      |nil=>exact⟨_,rfl,rfl⟩
      |cons x l=>
       rw[hb]at hl;rw[qB4 (show ¬(((x::l).length:Nat):Int)=0 by simp;omega)];refine qqp _ _ _ _ _ _ _ ?_;exact hl
  ·have:yl t=none:=by
    unfold yl;rw[qB5 h7];cases hs:t.subs with
    |nil=>rfl
    |cons a l=>cases l with
     |nil=>rfl
     |cons b l=>cases l with
      |nil=>rfl
      |cons d l=>cases l with
       |nil=>rw[hs]at h3;simp at h3
       |cons e l=>rfl
   rw[qB4 (show ¬(t.subs.length:Int)=3 by omega),this];exact⟨_,rfl,rfl⟩
 ·have:yl t=none:=by unfold yl;rw[qB6 h7]
  rw[qB4 h7,this];exact⟨_,rfl,rfl⟩
theorem qnR{c:Tm}:∀(n:Nat) (t:Tm) (acc:List Cl),t.w<=n->t.chk=0->acc.length+n<1099511627776 ->
  Gets (qmd c.kind c.num c.str (qb c.subs) 0 0 acc.length false t.kind t.num t.str (qb t.subs) [] (vK acc)) (·=clsQ (clsA acc t)):=by
 intro n
 induction n with
 |zero=>intro t acc h;have:=xK t;omega
 |succ n ih=>
  intro t acc hw hc hn;refine qou _ _ _ _ _ _ _ _ _ _ _ _ _ _ ?_;unfold zp2 zp3 zp4 zp5 zp6 zp7 zp8 zp9;rw[beqI,beqI,beqI]
  by_cases h9:t.kind=9
  ·obtain⟨x,y,hs⟩:=zM hc h9;have hwe:=t.w_eq;rw[hs]at hwe;simp only[qE,xy]at hwe;have hxc:x.chk=0:=vA hc (by rw[hs];simp);have hyc:y.chk=0:=vA hc (by rw[hs];simp);have hce:=qnu hxc;have e1:qBv (0+acc.length) (vK acc).length=true:=by rw[qBN,yI];omega
   have e2:qBm acc.length (vK acc)=vK acc:=qBt (by rw[yI];exact qBp _);rw[qB3 h9,cond_true,hs,lt0T,qdA,lt1T,qcO,e1,e2,qr0 (by omega)];simp only[cond_true,qBw,qc,qD,qBL,qQ,qv,yh,qJ,hce];cases hcl:yl x with
   |none=>
    have:clsA acc t=([],10):=by unfold clsA;rw[x8 h9 hs,seqC,hcl];rfl
    rw[this];exact⟨_,rfl,rfl⟩
   |some d=>
    have:clsA acc t=clsA (acc++[d]) y:=by
     unfold clsA;rw[x8 h9 hs,seqC,hcl];cases seqC (qS y).1 with
     |none=>rfl
     |some l=>simp
    rw[this];have h:=ih y (acc++[d]) (by omega) hyc (by rw[qBr,List.length_singleton];omega);rw[qBr,List.length_singleton]at h;have e3:qBA (vK acc) [[AV.int .i64 d.head.kind,.int .i64 d.head.num,.str d.head.str,.sl (qb d.head.subs),.sl (qb d.gs),.sl (qb d.bs)]]=vK (acc++[d]):=(qhj acc [d]).symm;simp only[clR,Cl.av,Cl.cells,kTup,qa,kAgg,qi,qw,q4,kNil,qd,qB1,cond_false,e3]
    exact h
  ·rw[qB4 h9,cond_false];have hi:clsA acc t=if t.kind=8∧acc≠[]then(acc,0)else([],10):=by
    unfold clsA;rw[zC h9,seqC]
    by_cases h8:t.kind=8
    ·cases acc<;>simp[h8]
    ·simp[h8]
   rw[hi]
   by_cases h8:t.kind=8
   ·rw[qB3 h8];cases acc with
    |nil=>rw[qB6 (λh=>h.2 rfl)];exact⟨_,rfl,rfl⟩
    |cons a l=>
     rw[qB4 (show ¬(((a::l).length:Nat):Int)=0 by simp;omega),qB5 ⟨h8,by simp⟩];exact⟨_,rfl,rfl⟩
   ·rw[qB4 h8,qB6 (λh=>h8 h.1)];exact⟨_,rfl,rfl⟩
theorem qpX{c:Tm}:∀(n:Nat) (t:Tm) (acc:List Cl),t.w<=n->t.chk=0->acc.length+n<1099511627776 ->
  Gets (qov c.kind c.num c.str (qb c.subs) 0 0 acc.length false t.kind t.num t.str (qb t.subs) [] (vK acc)) (·=clsQ (clsA acc t)):=by
 intro n
 induction n with
 |zero=>intro t acc h;have:=xK t;omega
 |succ n ih=>
  intro t acc hw hc hn;refine qqq _ _ _ _ _ _ _ _ _ _ _ _ _ _ ?_;unfold zp2 zp3 zp4 zp5 zp6 zp7 zp8 zp9;rw[beqI,beqI,beqI]
  by_cases h9:t.kind=9
  ·obtain⟨x,y,hs⟩:=zM hc h9;have hwe:=t.w_eq;rw[hs]at hwe;simp only[qE,xy]at hwe;have hxc:x.chk=0:=vA hc (by rw[hs];simp);have hyc:y.chk=0:=vA hc (by rw[hs];simp);have hce:=qnu hxc;have e1:qBv (0+acc.length) (vK acc).length=true:=by rw[qBN,yI];omega
   have e2:qBm acc.length (vK acc)=vK acc:=qBt (by rw[yI];exact qBp _);rw[qB3 h9,cond_true,hs,lt0T,qdA,lt1T,qcO,e1,e2,qr0 (by omega)];simp only[cond_true,qBw,qc,qD,qBL,qQ,qv,yh,qJ,hce];cases hcl:yl x with
   |none=>
    have:clsA acc t=([],10):=by unfold clsA;rw[x8 h9 hs,seqC,hcl];rfl
    rw[this];exact⟨_,rfl,rfl⟩
   |some d=>
    have:clsA acc t=clsA (acc++[d]) y:=by
     unfold clsA;rw[x8 h9 hs,seqC,hcl];cases seqC (qS y).1 with
     |none=>rfl
     |some l=>simp
    rw[this];have h:=qnR (c:=c) n y (acc++[d]) (by omega) hyc (by rw[qBr,List.length_singleton];omega);rw[qBr,List.length_singleton]at h;have e3:qBA (vK acc) [[AV.int .i64 d.head.kind,.int .i64 d.head.num,.str d.head.str,.sl (qb d.head.subs),.sl (qb d.gs),.sl (qb d.bs)]]=vK (acc++[d]):=(qhj acc [d]).symm;simp only[clR,Cl.av,Cl.cells,kTup,qa,kAgg,qi,qw,q4,kNil,qd,qB1,cond_false,e3]
    exact h
  ·rw[qB4 h9,cond_false];have hi:clsA acc t=if t.kind=8∧acc≠[]then(acc,0)else([],10):=by
    unfold clsA;rw[zC h9,seqC]
    by_cases h8:t.kind=8
    ·cases acc<;>simp[h8]
    ·simp[h8]
   rw[hi]
   by_cases h8:t.kind=8
   ·rw[qB3 h8];cases acc with
    |nil=>rw[qB6 (λh=>h.2 rfl)];exact⟨_,rfl,rfl⟩
    |cons a l=>
     rw[qB4 (show ¬(((a::l).length:Nat):Int)=0 by simp;omega),qB5 ⟨h8,by simp⟩];exact⟨_,rfl,rfl⟩
   ·rw[qB4 h8,qB6 (λh=>h8 h.1)];exact⟨_,rfl,rfl⟩
theorem qlZ{t:Tm}(hw:t.w<1099511627776):EVq (EV cfg) 81 [t.av]=some (clsQ (clsG t)):=by
 have hk:=qao hw;apply Gets.get;rw[Tm.av,Tm.cells_eq]at hk⊢;refine qml _ _ _ _ ?_;rw[hk];simp only[qc,qi,bneD];unfold clsG
 by_cases hc:t.chk=0
 ·rw[qB3 hc,qB5 hc];exact qpX (c:=t) t.w t [] (qBp _) hc (by have:=xx hc;simp;omega)
 ·rw[qB4 hc,qB6 hc];exact⟨_,rfl,rfl⟩
theorem qhd{t:Tm}(hw:t.w<1099511627776):EVf (EV cfg) 56 [t.av]=some (.tup [.sl (vK (clsG t).1),.int .i64 (clsG t).2]):=by
 have hk:=qlZ hw;obtain⟨ho,hn⟩:=qmH t;apply Gets.get;rw[Tm.av,Tm.cells_eq]at hk⊢;refine qnF _ _ _ _ ?_;rw[hk];simp only[clsQ,qc,qi,qjO,bneD];have hz:(clsG t).2≠0->(clsG t).1=[]:=by
  unfold clsG
  by_cases hc:t.chk=0
  ·rw[qB5 hc];cases seqC (qS t).1 with
   |none=>intro _;rfl
   |some l=>
    simp only[];split
    ·intro h;exact absurd rfl h
    ·intro _;rfl
  ·rw[qB6 hc];intro _;rfl
 generalize hl:(clsG t).1=l at *;generalize he:(clsG t).2=e at *
 by_cases h0:e=0
 ·subst h0;rw[qB3 rfl];simp only[qB1,cond_false];have loop:∀d i:Nat,i+d=l.length->Gets (qia 6 0 l.length i (vK l)) (·= .tup [.sl (vK l),.int .i64 0]):=by
   intro d
   induction d with
   |zero=>
    intro i hi;obtain rfl:i=l.length:=by omega
    refine qg3 _ _ _ _ _ ?_;have hb:qBv (0+l.length) (vK l).length=true:=by rw[qBN,yI];omega
    have ht:qBm l.length (qBU 0 (vK l))=vK l:=qBt (by rw[List.drop_zero,yI];exact qBp _);rw[qB4 (by omega),hb,ht];exact⟨_,rfl,rfl⟩
   |succ d ih=>
    intro i hi;have hil:i<l.length:=by omega
    have hx:l[i]? =some l[i]:=qBk hil;obtain⟨c1,c2,c3,c4,c5⟩:=ho _ (qBy hx);have k1:=qbX (qd6 c1);have k2:=qi0 (l:=l[i].gs) (by omega) (λx hx=>qd6 (c2 x hx));have k3:=qi0 (l:=l[i].bs) (by omega) (λx hx=>qd6 (c3 x hx));have gx:qBg (vK l) (0+qBj (i:Int))=some l[i].cells:=by
     rw[qB0,qI,qBB,qhi,hx];rfl
    have gs:List.set (vK l) (0+qBj (i:Int)) l[i].cells=vK l:=by
     rw[qB0,qBB,quQ,List.set_getElem_self]
    have h1:=ih (i+1) (by omega);refine qg3 _ _ _ _ _ ?_;rw[qB3 (show(i:Int)<(l.length:Int) by omega),qZ,vO,qB3 hil,gx,vn hil (show l.length<1099511627776 by omega)];have b6:qBv 6 l[i].cells.length=true:=rfl;have t6:qBm 6 l[i].cells=l[i].cells:=rfl;have d6:qBU 6 l[i].cells=[]:=rfl;simp only[show qBh 6 6=true from rfl,cond_true,qBw,qc,b6,t6,d6]
    unfold Cl.cells at gs⊢;simp only[qa,qi,qw,q4,kNil,qJ,k1,k2,k3,qc,qW,gs];exact h1
  exact loop l.length 0 (by omega)
 ·rw[qB4 h0,hz h0];exact⟨_,rfl,rfl⟩
end Go.Proofs.YtafdkafbgohigaaGreat
end
noncomputable section
namespace Go.Av
def qoi(r:Tm×Int):AV:=.tup [r.1.av,.int .i64 r.2]
theorem qzh{α:Type}(t:Tm)(x:Int)(K:Int->Int->List UInt8->List (List AV)->Int->Option α):(kTup (.tup [t.av,.int .i64 x]) λcs=>qa cs λc cs=>kAgg c λcs_1=>qa cs_1 λc cs_2=>kInt .i64 c λn=>qa cs_2 λc cs_3=>kInt .i64 c λn_1=>qa cs_3 λc cs_4=>kStr c λs=>qa cs_4 λc cs_5=>kSl c λrows=>kNil cs_5 (qa cs λc cs=>kInt .i64 c λm=>kNil cs (K n n_1 s rows m)))=K t.kind t.num t.str (qb t.subs) x:=by
 obtain⟨k,n,s,l⟩:=t;rw[Tm.av_mk];rfl
structure EnvW (e:Env):Prop where
 obj:e.obj.w<1099511627776
 len:e.binds.length<1099511627776
 binds:∀p∈e.binds,p.2.w<1099511627776
end Go.Av
namespace Go.Proofs.YtafdkafbgohigaaGreat
open Go.Av
theorem qr3(hp:xo){e:Env}(he:EnvW e){t:Tm}(ht:t.w<1099511627776):EVf (EV cfg) 182 [t.av,envR e.obj e.binds e.self]=some (qoi (yT e t)):=by
 have hm:=qjl he.len he.binds he.obj e.self;have hz:AV.agg [.int .i64 0,.int .i64 0,.str [],.sl []]=q9.av:=x9.symm;apply Gets.get;unfold envR at hm⊢;unfold qoi yT envG;rw[Tm.av,Tm.cells_eq];refine qvA _ _ _ _ _ _ _ _ _ _ ?_;rw[hm];unfold mayR;cases hb:mayB (-1) e.binds with
 |false=>
  rw[qB6 (by simp)];simp only[qc,kTup,qa,q4,qd,kNil,Bool.not_false,cond_true,hz,Bool.false_and];exact⟨_,rfl,by rw[qB6 (by simp)]⟩
 |true=>
  rw[qB5 rfl];simp only[qc,kTup,qa,q4,qd,kNil,hz,qBV,List.nil_append,qJ];cases ho:(decide (e.obj.chk=0)&&zw e.self)with
  |false=>
   simp only[Bool.not_false,cond_true,Bool.false_and];exact⟨_,rfl,by rw[qB6 (by simp)]⟩
  |true=>
   have hok:EnvOk e:=qfM.1 (by unfold envG;rw[hb,ho];rfl);have hc:=qdh (V:=ya e) (by unfold ya;rw[qBE];exact he.len) ht;have hn:e.binds.map (·.1)=ya e:=rfl;simp only[qB1,cond_false,qBV,hn,hc,qc,qi]
   by_cases h0:xm (ya e) t=0
   ·obtain⟨h1,h2⟩:=qaI h0;have hv:=qu8 hok hp t.w t (qBp _) h1 h2;rw[qB5 (qB3 h0),h0];simp only[show((0:Int) != 0)=false from rfl,cond_false];show Gets (kOpt (EVd (EV cfg) _ _ 7 (mR e false)) _) _;refine Gets.bind hv ?_;intro r hr;cases hvv:valG e t with
    |none=>
     rw[hvv]at hr;obtain⟨g1,z,g2⟩:=hr;rw[g1,g2];simp only[qW,zy,zz,qc,qd,cond_true];exact⟨_,rfl,rfl⟩
    |some v=>
     rw[hvv]at hr;obtain rfl:r=(v.av,mR e false):=hr;have hcp:=qbX (qd6 (qdX hok _ t (qBp _) h1 h2 v hvv));simp only[qW,zy,zz,qc,qd,cond_false,qJ,hcp];exact⟨_,rfl,rfl⟩
   ·have:(xm (ya e) t != 0)=true:=by simpa using h0
    rw[this,qB6 (by simpa using h0)];exact⟨_,rfl,rfl⟩
theorem qxl(hp:xo){e:Env}(he:EnvW e){l:List Tm}(hl:∀x∈l,x.w<1099511627776)(hlen:l.length<1099511627776):EVs (EV cfg) 181 [.sl (qb l),envR e.obj e.binds e.self]=some (.bool (qfI e l)):=by
 have loop:∀(d i:Nat) (b:Bool),i+d=l.length->Gets (qki (qb l) b i e.obj.kind e.obj.num e.obj.str (qb e.obj.subs) (xb e.binds) e.self) (·= .bool ((l.drop i).all (qb1 e)&&b)):=by
  intro d
  induction d with
  |zero=>
   intro i b hi;refine qiG _ _ _ _ _ _ _ _ _ ?_;rw[qe,qB4 (by omega),qBR (by omega)];exact⟨_,rfl,rfl⟩
  |succ d ih=>
   intro i b hi;refine qiG _ _ _ _ _ _ _ _ _ ?_;have hil:i<l.length:=by omega
   have hx:l[i]? =some l[i]:=qBk hil;have hd:l.drop i=l[i]::l.drop (i+1):=qBJ hil;have h:=ih (i+1) b (by omega);have h1:=qr3 hp he (hl l[i] (qBy hx));unfold envR at h1;rw[qe,qB3 (show(i:Int)<(l.length:Int) by omega),qZ,vO,qB3 hil,qaS hx,vn hil hlen,hd,List.all_cons];simp only[cond_true,qBw,qD,qBL,qQ,qv,yh,qJ,h1,qc,qoi]
   rw[qzh];unfold qb1 at h⊢;simp only[beqS,show([116,114,117,101]:List UInt8)=tru from rfl]
   by_cases h2:(yT e l[i]).2=0
   ·have e0:((yT e l[i]).2 != 0)=false:=by rw[h2];rfl
    rw[e0,qB3 h2,cond_false,qBV]
    by_cases h3:(yT e l[i]).1.kind=2
    ·have e1:((yT e l[i]).1.kind != 2)=false:=by rw[h3];rfl
     rw[e1,qB3 h3,cond_false,qBV]
     by_cases h4:(yT e l[i]).1.str=tru
     ·rw[qB3 h4,qBV];exact h
     ·rw[qB4 h4];exact⟨_,rfl,rfl⟩
    ·have e1:((yT e l[i]).1.kind != 2)=true:=by simpa using h3
     rw[e1,qB4 h3];exact⟨_,rfl,rfl⟩
   ·have e0:((yT e l[i]).2 != 0)=true:=by simpa using h2
    rw[e0,qB4 h2];exact⟨_,rfl,rfl⟩
 have hm:=qjl he.len he.binds he.obj e.self;apply Gets.get;unfold envR at hm⊢;refine qts _ _ _ _ _ _ _ ?_;rw[hm];unfold mayR qfI envG;cases hb:mayB (-1) e.binds with
 |false=>
  have h:=loop l.length 0 false (by omega);rw[qB6 (by simp)];simp only[qc,kTup,qa,q4,qd,kNil,Bool.false_and];exact h
 |true=>
  have h:=loop l.length 0 (decide (e.obj.chk=0)&&zw e.self) (by omega);rw[qB5 rfl];simp only[qc,kTup,qa,q4,qd,kNil,qBV];exact h
def qAh:Den:=evC cfg (EV cfg) 120 none 0 (sub (qg Tryz.f120) [1,1,1,1,1,0,1,0,0])
def qAQ:Ex×List AV×AH->Option AV:=kAft (Cfg.keepOut cfg 120 7) (kRun cfg (EV cfg) (kfN cfg 6) 120 none 0 (xz cfg (Cfg.lift cfg 120 0) Tryz.f120.results.toList) ([.block 0,.seq (sub (qg Tryz.f120) [1,1,1,1,1,1])]))
def qzQ:List AV×AH->Option AV:=λp=>kOpt (LOOP 0 (some [6,10,11,38,39,40]) ([]) qAh p) qAQ
def qAi:Den:=evC cfg (EV cfg) 67 none 0 (sub (qg Tryz.f67) [1,0,1,1,1,0,1,0,0])
def qAR:Ex×List AV×AH->Option AV:=kAft (Cfg.keepOut cfg 67 7) (kRun cfg (EV cfg) (kfN cfg 6) 67 none 0 (xz cfg (Cfg.lift cfg 67 0) Tryz.f67.results.toList) ([.block 1,.seq (sub (qg Tryz.f67) [1,0,1,1,1,1]),.scope]))
def qwf:List AV×AH->Option AV:=λp=>kOpt (LOOP 0 (some [2,4,7,43,44,45]) ([]) qAi p) qAR
abbrev qku(bo:Rz)(v40 c0_0 c0_1:Int)(c0_2:Bz)(c0_3:Rz)(c1_0 c1_1:Int)(c1_2:Bz)(c1_3 c1_4:Rz)(c1_5 c2_0 c2_1:Int)(c2_2:Bz)(c2_3:Rz):Option (AV):=qzQ (((fx 56 [(6,.ptr 0 0 0),(10,.ptr 1 0 0),(11,.ptr 2 0 0),(38,.sl bo),(39,.int .i64 (bo.length:Int)),(40,.int .i64 v40)]):List AV),([.rows false 4 [[.int .i64 c0_0,.int .i64 c0_1,.str c0_2,.sl c0_3]],.rows false 6 [[.int .i64 c1_0,.int .i64 c1_1,.str c1_2,.sl c1_3,.sl c1_4,.int .i64 c1_5]],.rows false 4 [[.int .i64 c2_0,.int .i64 c2_1,.str c2_2,.sl c2_3]]]:AH))
abbrev qy1(self v45 c0_0 c0_1:Int)(c0_2:Bz)(c0_3:Rz)(c1_0 c1_1:Int)(c1_2:Bz)(c1_3:Rz):Option (AV):=qwf (((fx 64 [(2,.int .i64 self),(4,.ptr 0 0 0),(7,.ptr 1 0 0),(43,.nilS),(44,.int .i64 (0:Int)),(45,.int .i64 v45)]):List AV),([.rows false 4 [[.int .i64 c0_0,.int .i64 c0_1,.str c0_2,.sl c0_3]],.rows false 4 [[.int .i64 c1_0,.int .i64 c1_1,.str c1_2,.sl c1_3]]]:AH))
abbrev qh9(self:Int)(sz off len:Nat)(v45 c0_0 c0_1:Int)(c0_2:Bz)(c0_3:Rz)(c1_0 c1_1:Int)(c1_2:Bz)(c1_3 h2:Rz):Option (AV):=qwf (((fx 64 [(2,.int .i64 self),(4,.ptr 0 0 0),(7,.ptr 1 0 0),(43,.ms 2 off len),(44,.int .i64 (↑len:Int)),(45,.int .i64 v45)]):List AV),([.rows false 4 [[.int .i64 c0_0,.int .i64 c0_1,.str c0_2,.sl c0_3]],.rows false 4 [[.int .i64 c1_0,.int .i64 c1_1,.str c1_2,.sl c1_3]],.rows true sz h2]:AH))
theorem qqx(kh nh:Int)(sh:Bz)(lh gd bo:Rz)(ko no:Int)(so:Bz)(lo:Rz)(self:Int){P:AV->Prop}(h:Gets (kOpt (EVf (EV cfg) 180 [.agg [.int .i64 kh,.int .i64 nh,.str sh,.sl lh],.agg [.int .i64 ko,.int .i64 no,.str so,.sl lo]]) λv=>kTup v λcs=>qa cs λc cs=>kSl c λrows=>qa cs λc cs=>qu c λb=>kNil cs (bif ! b then some (AV.tup [.agg [.int .i64 0,.int .i64 0,.str [],.sl []],.bool false])else kOpt (EVs (EV cfg) 181 [.sl gd,.agg [.int .i64 ko,.int .i64 no,.str so,.sl lo,.sl rows,.int .i64 self]]) λv=>qu v λb=>bif ! b then some (AV.tup [.agg [.int .i64 0,.int .i64 0,.str [],.sl []],.bool false])else qku bo 0 0 (0:Int) [] [] ko no so lo rows self 0 0 [] [])) P):Gets (EVf (EV cfg) 120 [.agg [.int .i64 kh,.int .i64 nh,.str sh,.sl lh,.sl gd,.sl bo],.agg [.int .i64 ko,.int .i64 no,.str so,.sl lo],.int .i64 self]) P:=
  gE (λ_=>funF rfl rfl Tryz.func120 rfl) (by kernel_rfl) h
abbrev zr0:Option (AV):=some (AV.tup [AV.int .i64 0,.agg [.int .i64 0,.int .i64 0,.str [],.sl []],.int .i64 2])
theorem qqz(kt nt:Int)(st:Bz)(lt:Rz)(ko no:Int)(so:Bz)(lo:Rz)(self:Int){P:AV->Prop}(h:Gets (kOpt (EVq (EV cfg) 81 [.agg [.int .i64 kt,.int .i64 nt,.str st,.sl lt]]) λq=>kInt .i64 q.2 λn=>kOwn q.1 (bif n != 0 then some (AV.tup [AV.int .i64 0,.agg [.int .i64 0,.int .i64 0,.str [],.sl []],.int .i64 n])else bif ko != 7 then some (AV.tup [AV.int .i64 0,.agg [.int .i64 (0:Int),.int .i64 0,.str [],.sl []],.int .i64 2])else kOpt (EVs (EV cfg) 83 [.agg [.int .i64 ko,.int .i64 no,.str so,.sl lo]]) λv=>kInt .i64 v λn=>bif n != 0 then zr0 else bif decide (self<1)then zr0 else bif decide (self>1073741824)then zr0 else qy1 self 0 ko no so lo 0 (0:Int) [] []) λsz rs off len=>bif n != 0 then some (AV.tup [AV.int .i64 0,.agg [.int .i64 0,.int .i64 0,.str [],.sl []],.int .i64 n])else bif ko != 7 then zr0 else kOpt (EVs (EV cfg) 83 [.agg [.int .i64 ko,.int .i64 no,.str so,.sl lo]]) λv=>kInt .i64 v λn=>bif n != 0 then zr0 else bif decide (self<1)then zr0 else bif decide (self>1073741824)then zr0 else qh9 self sz off len 0 ko no so lo 0 0 [] [] rs) P):Gets (EVf (EV cfg) 67 [.agg [.int .i64 kt,.int .i64 nt,.str st,.sl lt],.agg [.int .i64 ko,.int .i64 no,.str so,.sl lo],.int .i64 self]) P:=
  gE (λ_=>funF rfl rfl Tryz.func67 rfl) (by kernel_rfl) h
theorem qiR(bo:Rz)(v40 c0_0 c0_1:Int)(c0_2:Bz)(c0_3:Rz)(c1_0 c1_1:Int)(c1_2:Bz)(c1_3 c1_4:Rz)(c1_5 c2_0 c2_1:Int)(c2_2:Bz)(c2_3:Rz){P:AV->Prop}(h:Gets (bif decide (v40<(bo.length:Int))then bif qh 0 v40&&qn v40 (bo.length:Int)then kOpt (qBg bo (v40.toNat)) λrow=>bif qBh (qBe row) 4 then bif qBv 4 (qBe row)then kTmC (qBm 4 row) λn n_1 s rows=>(kOpt (EVf (EV cfg) 182 [.agg [.int .i64 n,.int .i64 n_1,.str s,.sl rows],.agg [.int .i64 c1_0,.int .i64 c1_1,.str c1_2,.sl c1_3,.sl c1_4,.int .i64 c1_5]]) λv=>kTup v λcs=>qa cs λc cs=>kAgg c λcs_1=>qa cs_1 λc cs_2=>kInt .i64 c λn=>qa cs_2 λc cs_3=>kInt .i64 c λn_2=>qa cs_3 λc cs_4=>kStr c λs=>qa cs_4 λc cs_5=>kSl c λrows=>kNil cs_5 (qa cs λc cs=>kInt .i64 c λn_3=>kNil cs (bif n_3 != 0 then some (AV.tup [AV.agg [.int .i64 2,.int .i64 0,.str [(69:UInt8),(88:UInt8),(73:UInt8),(84:UInt8)],.sl []],.bool true])else qku bo (qBf .i64 (v40+1)) c0_0 c0_1 c0_2 c0_3 c1_0 c1_1 c1_2 c1_3 c1_4 c1_5 n n_2 s rows)))else none else none else none else some (AV.tup [.agg [.int .i64 c2_0,.int .i64 c2_1,.str c2_2,.sl c2_3],.bool true])) P):Gets (qku bo v40 c0_0 c0_1 c0_2 c0_3 c1_0 c1_1 c1_2 c1_3 c1_4 c1_5 c2_0 c2_1 c2_2 c2_3) P:=
  gE (λ_=>qB (cfg:=cfg) (f:=120) (rd:=none) (bs:=0)) (by kernel_rfl) h
theorem qg2(self:Int)(sz off len:Nat)(v45 c0_0 c0_1:Int)(c0_2:Bz)(c0_3:Rz)(c1_0 c1_1:Int)(c1_2:Bz)(c1_3 h2:Rz){P:AV->Prop}(h:Gets (bif decide (v45<(↑ len:Int))then bif qBh sz 6&&qh 0 v45&&qn v45 (↑ len:Int)then kOpt (qBg h2 (off+v45.toNat)) λrow=>bif qBv 6 (qBe row)then qa (qBm 6 row) λc cs=>kInt .i64 c λn=>qa cs λc cs=>kInt .i64 c λn_1=>qa cs λc cs=>kStr c λs=>qa cs λc cs=>kSl c λrows=>qa cs λc cs=>kSl c λrows_1=>qa cs λc cs=>kSl c λrows_2=>kNil cs (kOpt (EVf (EV cfg) 120 [.agg [.int .i64 n,.int .i64 n_1,.str s,.sl rows,.sl rows_1,.sl rows_2],.agg [.int .i64 c0_0,.int .i64 c0_1,.str c0_2,.sl c0_3],.int .i64 self]) λv=>kTup v λcs=>qa cs λc cs=>kAgg c λcs_1=>qa cs_1 λc cs_2=>kInt .i64 c λn=>qa cs_2 λc cs_3=>kInt .i64 c λn_2=>qa cs_3 λc cs_4=>kStr c λs=>qa cs_4 λc cs_5=>kSl c λrows=>kNil cs_5 (qa cs λc cs=>qu c λb=>kNil cs (bif ! b then qh9 self sz off len (qBf .i64 (v45+1)) c0_0 c0_1 c0_2 c0_3 c1_0 c1_1 c1_2 c1_3 h2 else some (AV.tup [AV.int .i64 (qBf .i64 (v45+1)),.agg [.int .i64 n,.int .i64 n_2,.str s,.sl rows],.int .i64 0]))))else none else none else some (AV.tup [AV.int .i64 0,.agg [.int .i64 0,.int .i64 0,.str [],.sl []],.int .i64 0])) P):Gets (qh9 self sz off len v45 c0_0 c0_1 c0_2 c0_3 c1_0 c1_1 c1_2 c1_3 h2) P:=
  gE (λ_=>qB (cfg:=cfg) (f:=67) (rd:=none) (bs:=0)) (by kernel_rfl) h
end Go.Proofs.YtafdkafbgohigaaGreat
end
noncomputable section
namespace Go.Av
theorem qk4:∀(n:Nat) (p t:Tm) (m m':List (Int×Tm)),p.w<=n->t.chk=0->(∀q∈m,q.2.chk=0)->xT p t m=some m'->∀q∈m',q.2.chk=0:=by
 intro n
 induction n with
 |zero=>intro p t m m' h;have:=xK p;omega
 |succ n ih=>
  intro p t m m' hw ht hm h;have hwe:=p.w_eq;rw[qaX]at h
  by_cases h2:p.kind=2
  ·rw[qB5 h2]at h
   by_cases h95:p.str=[95]
   ·rw[qB5 h95]at h;cases h;exact hm
   ·rw[qB6 h95]at h;cases hv:varG p.str with
    |none=>
     rw[hv]at h;simp only[]at h;split at h
     ·cases h;exact hm
     ·cases h
    |some v=>
     rw[hv]at h;simp only[]at h;cases hx:qG v m with
     |some x=>
      rw[hx]at h;simp only[]at h;split at h
      ·cases h;exact hm
      ·cases h
     |none=>
      rw[hx]at h;cases h;intro q hq;rcases qBF.1 hq with hq|hq
      ·exact hm q hq
      ·simp at hq;subst hq;exact ht
  ·rw[qB6 h2]at h
   by_cases h79:p.kind=7∨p.kind=9
   ·rw[qB5 h79]at h;split at h
    ·cases h
    ·have main:∀(l l':List Tm) (m m':List (Int×Tm)),wL l<=n->(∀x∈l',x.chk=0)->(∀q∈m,q.2.chk=0)->xk l l' m=some m'->∀q∈m',q.2.chk=0:=by
      intro l
      induction l with
      |nil=>intro l' m m' _ _ hm h;rw[qbd]at h;cases h;exact hm
      |cons x l ihl=>
       intro l' m m' hw hl hm h;rw[qE]at hw;cases l' with
       |nil=>
        have:xk (x::l) [] m=some m:=by rw[xk];simp
        rw[this]at h;cases h;exact hm
       |cons y l'=>
        rw[qaE]at h;obtain⟨m1,h1,h3⟩:=qBl.1 h;have hm1:=ih x y m m1 (by omega) (hl y List.mem_cons_self) hm h1;exact ihl l' m1 m' (by omega) (λz hz=>hl z (List.mem_cons_of_mem _ hz)) hm1 h3
     exact main p.subs t.subs m m' (by omega) (λx hx=>vA ht hx) hm h
   ·rw[qB6 h79]at h;split at h
    ·cases h;exact hm
    ·cases h
theorem qur{m:List (Int×Tm)}{q:Int×Tm}(h:q∈xM m):q∈m∧0<=q.1∧q.1<=99:=by
 unfold xM at h;obtain⟨n,hn,h⟩:=List.mem_filterMap.1 h;obtain⟨t,ht,rfl⟩:=qBq.1 h;rw[List.mem_range]at hn;exact⟨xD ht,by show(0:Int)<=(n:Int);omega,by show(n:Int)<=99;omega⟩
theorem qmo{f:Nat->Option Tm}(hf:∀n t,f n=some t->t.chk=0):∀(d i:Nat) (last:Int),i+d=100->last<i->mayB last ((List.range' i d).filterMap λn=>(f n).map λt=>((n:Int),t))=true:=by
 intro d
 induction d with
 |zero=>intro i last _ _;rfl
 |succ d ih=>
  intro i last hi hl;rw[List.range'_succ,List.filterMap_cons];cases hx:f i with
  |none=>exact ih (i+1) last (by omega) (by omega)
  |some t=>
   have h1:=ih (i+1) i (by omega) (by omega);simp only[qBD,mayB,qB3 hl,qB3 (show(i:Int)<=99 by omega),qB3 (hf i t hx),qBV];exact h1
theorem qk6{p t:Tm}{b:List (Int×Tm)}(h:qaY p t=some b):mayB (-1) b=true∧(∀q∈b,q.2.chk=0)∧t.chk=0∧p.chk=0:=by
 unfold qaY at h;split at h
 ·rename_i hc;obtain⟨m,hm,rfl⟩:=qBq.1 h;have hk:=qk4 _ p t [] m (qBp _) hc.2 (by simp) hm;refine⟨?_,λq hq=>hk q (qur hq).1,hc.2,hc.1⟩;unfold xM;rw[List.range_eq_range'];exact qmo (f:=λn=>qG (n:Nat) m) (λn t ht=>hk _ (xD ht)) 100 0 (-1) rfl (by omega)
 ·cases h
theorem qgf:∀l:List Tm,wL l+l.length<=(vr l).w
 |[]=>Nat.zero_le _
 |x::l=>by
  have h:=qgf l;have:(vr (x::l)).w=1+0+(x.w+((vr l).w+0))∨wL (x::l)+(x::l).length<=(vr (x::l)).w:=by
   right
   have e:=(vr (x::l)).w_eq;have:(vr (x::l)).subs=[x,vr l]:=rfl;rw[this]at e;simp only[qE,xy,qBK]at e⊢;omega
  rcases this with h1|h1
  ·simp only[qE,qBK];omega
  ·exact h1
end Go.Av
namespace Go.Proofs.YtafdkafbgohigaaGreat
open Go.Av
theorem qv5(t:Tm):t.av= .agg [.int .i64 t.kind,.int .i64 t.num,.str t.str,.sl (qb t.subs)]:=by rw[Tm.av,Tm.cells_eq]
theorem qqA(hp:xo){e:Env}(he:EnvW e){B:List Tm}(hB:B.length<1099511627776)(wB:∀x∈B,x.w<1099511627776):∀(d i:Nat) (out:Tm),i+d=B.length ->
  Gets (qku (qb B) i 0 0 [] [] e.obj.kind e.obj.num e.obj.str (qb e.obj.subs) (xb e.binds) e.self out.kind out.num out.str (qb out.subs)) (·= .tup [(qcV e out (B.drop i)).av,.bool true]):=by
 intro d
 induction d with
 |zero=>
  intro i out hi;obtain rfl:i=B.length:=by omega
  refine qiR _ _ _ _ _ _ _ _ _ _ _ _ _ _ _ _ ?_;rw[qe,qB4 (by omega),qBR (qBp _)];simp only[cond_false,qJ];exact⟨_,rfl,rfl⟩
 |succ d ih=>
  intro i out hi;have hil:i<B.length:=by omega
  have hx:B[i]? =some B[i]:=qBk hil;have hv:=qr3 hp he (wB _ (qBy hx));unfold envR qoi at hv;rw[qBJ hil,qcV];refine qiR _ _ _ _ _ _ _ _ _ _ _ _ _ _ _ _ ?_;have gx:qBg (qb B) (qBj (i:Int))=some B[i].cells:=xA hx;rw[qe,qB3 (show(i:Int)<(B.length:Int) by omega),qZ,vO,qB3 hil,gx,vn hil hB]
  simp only[cond_true,qBw,qc,qD,qBL,qQ,qv,yh,qJ,hv,bneD];generalize yT e B[i]=r;have h1:=ih (i+1) r.1 (by omega);rw[Tm.av,Tm.cells_eq];simp only[kTup,qa,kAgg,qi,qw,q4,kNil]
  by_cases h0:r.2=0
  ·rw[qB3 h0,qB5 h0];exact h1
  ·rw[qB4 h0,qB6 h0];exact⟨_,rfl,rfl⟩
theorem qsn(hp:xo){c:Cl}(hc:ClOk c){o:Tm}(ho:o.w<1099511627776)(self:Int):EVf (EV cfg) 120 [c.av,o.av,.int .i64 self]=some (qgv (qes c o self)):=by
 obtain⟨c1,c2,c3,c4,c5⟩:=hc;have hm:=qqM (p:=c.head) (t:=o) (by have:=xx c1;omega) ho;apply Gets.get;unfold Cl.av Cl.cells qes;rw[Tm.av,Tm.av,Tm.cells_eq,Tm.cells_eq]at hm;rw[Tm.av,Tm.cells_eq];refine qqx _ _ _ _ _ _ _ _ _ _ _ ?_;rw[hm];cases hmg:qaY c.head o with
 |none=>exact⟨_,rfl,rfl⟩
 |some b=>
  obtain⟨hmay,hbc,_,_⟩:=qk6 hmg;have he:EnvW ⟨o,b,self⟩:=⟨ho,by have:=qjK hmay;show b.length<_;omega,λq hq=>by have:=xx (hbc q hq);omega⟩;have hh:=qxl hp he (l:=c.gs) (λx hx=>by have:=xx (c2 x hx);omega) (by omega);have hl:=qqA hp he (B:=c.bs) (by omega) (λx hx=>by have:=xx (c3 x hx);omega) c.bs.length 0 q9 (by omega);unfold envR at hh;simp only[qk5,qc,kTup,qa,q4,qd,kNil,qB1,cond_false,hh]
  cases qfI ⟨o,b,self⟩ c.gs with
  |false=>exact⟨_,rfl,rfl⟩
  |true=>exact hl
def qlK(r:Int×Tm×Int):AV:=.tup [.int .i64 r.1,r.2.1.av,.int .i64 r.2.2]
theorem qoG(hp:xo){o:Tm}(ho:o.w<1099511627776){self:Int}{l:List Cl}(hl:∀c∈l,ClOk c)(hlen:l.length<=8388608):∀d i:Nat,i+d=l.length ->
  Gets (qh9 self 6 0 l.length i o.kind o.num o.str (qb o.subs) 0 0 [] [] (vK l)) (·=qlK ((qab o self (l.drop i) i).1,(qab o self (l.drop i) i).2,0)):=by
 intro d
 induction d with
 |zero=>
  intro i hi;obtain rfl:i=l.length:=by omega
  refine qg2 _ _ _ _ _ _ _ _ _ _ _ _ _ _ ?_;rw[qB4 (by omega),qBR (qBp _)];exact⟨_,rfl,rfl⟩
 |succ d ih=>
  intro i hi;have hil:i<l.length:=by omega
  have hx:l[i]? =some l[i]:=qBk hil;have ht:=qsn hp (hl _ (qBy hx)) ho self;have h1:=ih (i+1) (by omega);rw[qBJ hil,qab];refine qg2 _ _ _ _ _ _ _ _ _ _ _ _ _ _ ?_;have gx:qBg (vK l) (0+qBj (i:Int))=some l[i].cells:=by
   rw[qB0,qI,qBB,qhi,hx];rfl
  rw[qB3 (show(i:Int)<(l.length:Int) by omega),qZ,vO,qB3 hil,gx,vn hil (show l.length<1099511627776 by omega)];have b6:qBv 6 l[i].cells.length=true:=rfl;have t6:qBm 6 l[i].cells=l[i].cells:=rfl;simp only[show qBh 6 6=true from rfl,cond_true,qBw,qc,b6,t6];unfold Cl.av at ht;unfold Cl.cells at ht⊢;simp only[qa,qi,qw,q4,kNil,qJ,ht,qc]
  cases qes l[i] o self with
  |none=>exact h1
  |some x=>
   simp only[qgv];rw[Tm.av,Tm.cells_eq];refine⟨_,rfl,?_⟩;unfold qlK;rw[Tm.av,Tm.cells_eq];rfl
theorem qsq(hp:xo){t o:Tm}(ht:t.w<1099511627776)(ho:o.w<1099511627776)(self:Int):EVf (EV cfg) 67 [t.av,o.av,.int .i64 self]=some (qlK (yM t o self)):=by
 have hk:=qlZ ht;have hc:=qao ho;obtain⟨hok,hlen⟩:=qmH t;have hl:=qoG hp ho (self:=self) hok hlen (clsG t).1.length 0 (by omega);apply Gets.get;rw[Tm.av,Tm.cells_eq]at hk hc;rw[Tm.av,Tm.av,Tm.cells_eq,Tm.cells_eq];refine qqz _ _ _ _ _ _ _ _ _ ?_;unfold zr0;rw[hk,hc];unfold yM;simp only[clsQ,qc,qi,qjO,bneD]
 by_cases h0:(clsG t).2=0
 ·rw[h0,qB3 rfl,qB6 (by simp)]
  by_cases h7:o.kind=7
  ·rw[qB3 h7]
   by_cases hoc:o.chk=0
   ·rw[qB3 hoc]
    by_cases h1:self<1
    ·rw[qB3 h1,qB5 (.inr (.inr (.inl h1)))];exact⟨_,rfl,rfl⟩
    ·rw[qB4 h1]
     by_cases h2:self>1073741824
     ·rw[qB3 h2,qB5 (.inr (.inr (.inr h2)))];exact⟨_,rfl,rfl⟩
     ·rw[qB4 h2,qB6 (λh=>h.elim (λh=>h h7) λh=>h.elim (λh=>h hoc) λh=>h.elim h1 h2)];exact hl
   ·rw[qB4 hoc,qB5 (.inr (.inl hoc))];exact⟨_,rfl,rfl⟩
  ·rw[qB4 h7,qB5 (.inl h7)];exact⟨_,rfl,rfl⟩
 ·rw[qB4 h0,qB5 h0];exact⟨_,rfl,rfl⟩
theorem qwF(hp:xo){t o:Tm}(ht:t.w<1099511627776)(ho:o.w<1099511627776)(self:Int):EVf (EV cfg) 25 [t.av,o.av,.int .i64 self]=some (.tup [(yM t o self).2.1.av,.bool (decide ((yM t o self).1>0)),.int .i64 (yM t o self).2.2]):=by
 have hk:=qsq hp ht ho self;apply Gets.get;generalize yM t o self=r at *;obtain⟨n,x,e⟩:=r;unfold qlK at hk;rw[qv5 t,qv5 o]at hk⊢;refine quy _ _ _ _ _ _ _ _ _ ?_;rw[hk];simp only[];rw[Tm.av,Tm.cells_eq];exact⟨_,rfl,rfl⟩
end Go.Proofs.YtafdkafbgohigaaGreat
end
noncomputable section
namespace Go.Av
def okC(c:Cl):Bool:=qgr c.head&& !c.bs.isEmpty&&(c.gs.all (λe=>decide (xm (zQ c.head) e=0))&&c.bs.all (λe=>decide (xm (zQ c.head) e=0)))
theorem qrq(c:Cl):yl (clT c)=if okC c then some c else none:=by
 unfold yl clT;rw[qB5 (show(tupT [c.head,vr c.gs,vr c.bs]).kind=7 from rfl)];show(if qgr c.head&&((qS (vr c.gs)).2&&((qS (vr c.bs)).2&& !(qS (vr c.bs)).1.isEmpty))&&((qS (vr c.gs)).1.all (λe=>decide (xm (zQ c.head) e=0))&&(qS (vr c.bs)).1.all (λe=>decide (xm (zQ c.head) e=0)))then some (Cl.mk c.head (qS (vr c.gs)).1 (qS (vr c.bs)).1)else none)=_
 rw[qcM,qcM];simp only[qBV];rfl
theorem qoN:∀cs:List Cl,seqC (cs.map clT)=if cs.all okC then some cs else none
 |[]=>rfl
 |c::cs=>by
  rw[qBZ,seqC,qrq,qoN cs,List.all_cons];cases okC c<;>cases cs.all okC<;>rfl
theorem qnt(cs:List Cl):clsG (selT cs)=if(selT cs).chk=0 then(if cs.all okC&& !cs.isEmpty then(cs,0)else([],10))else([],2):=by
 unfold clsG;have h:qS (selT cs)=(cs.map clT,true):=qcM _;rw[h];simp only[qoN,qBV];cases h1:cs.all okC<;>cases cs<;>simp
structure SelOk (cs:List Cl):Prop where
 chk:(selT cs).chk=0
 ok:∀c∈cs,okC c=true
 ne:cs≠[]
theorem qns{cs:List Cl}:(clsG (selT cs)).2=0↔SelOk cs:=by
 rw[qnt]
 by_cases h:(selT cs).chk=0
 ·rw[qB5 h];cases h1:cs.all okC&& !cs.isEmpty with
  |true=>
   rw[qBi,List.all_eq_true]at h1;exact⟨λ_=>⟨h,h1.1,by rintro rfl;exact absurd h1.2 (by simp)⟩,λ_=>rfl⟩
  |false=>
   refine⟨λh=>(by cases h),λg=>?_⟩;rw[List.all_eq_true.2 g.ok,qBV]at h1;exact absurd (List.isEmpty_iff.1 (by simpa using h1)) g.ne
 ·rw[qB6 h];exact⟨λh=>(by cases h),λg=>absurd g.chk h⟩
theorem SelOk.cls{cs:List Cl}(h:SelOk cs):clsG (selT cs)=(cs,0):=by
 rw[qnt,qB5 h.chk,List.all_eq_true.2 h.ok];cases cs with
 |nil=>exact absurd rfl h.ne
 |cons c cs=>rfl
theorem SelOk.of{cs:List Cl}(h:SelOk cs):ofG cs=(selT cs,0):=by
 unfold ofG;rw[qB5 (qns.2 h)]
theorem qvM{t a b:Tm}(hc:t.chk=0)(hk:t.kind=9)(hs:t.subs=[a,b]):t= .mk 9 0 [] [a,b]:=by
 obtain⟨h1,_⟩:=zl.1 hc;obtain⟨k,n,s,l⟩:=t;simp only[Tm.kind_mk,Tm.subs_mk]at hk hs;subst hk hs;rw[Tm.parts_eq,qBi]at h1;have h2:yH 9 n s 2=true:=h1.1;simp[yH]at h2;rw[h2.1,h2.2]
theorem qw2{t:Tm}(hc:t.chk=0)(hk:t.kind=8):t= .mk 8 0 [] []:=by
 obtain⟨h1,_⟩:=zl.1 hc;obtain⟨k,n,s,l⟩:=t;simp only[Tm.kind_mk]at hk;subst hk;rw[Tm.parts_eq,qBi]at h1;have h2:yH 8 n s l.length=true:=h1.1;simp[yH]at h2;rw[h2.1,h2.2.1,h2.2.2]
theorem qwA{t:Tm}(hc:t.chk=0)(hk:t.kind=7):t=tupT t.subs:=by
 obtain⟨h1,_⟩:=zl.1 hc;obtain⟨k,n,s,l⟩:=t;simp only[Tm.kind_mk]at hk;subst hk;rw[Tm.parts_eq,qBi]at h1;have h2:yH 7 n s l.length=true:=h1.1;simp[yH]at h2;rw[h2.1,h2.2.1];rfl
theorem qe7{t:Tm}(hc:t.chk=0)(h:(qS t).2=true):vr (qS t).1=t:=by
 refine qmE (P:=λt=>(qS t).2=true->t.chk=0->vr (qS t).1=t) t hc (λt a b hk hs hc ih h hc=>?_) (λt hk hc h hc=>?_) h hc
 ·rw[x8 hk hs]at h⊢;have h2:=ih h (vA hc (by rw[hs];simp));show Tm.mk 9 0 [] [a,vr (qS b).1]=t;rw[h2,←qvM hc hk hs]
 ·rw[zC hk]at h⊢;exact(qw2 hc (of_decide_eq_true h)).symm
theorem qtW{t:Tm}(hc:t.chk=0){c:Cl}(h:yl t=some c):t=clT c:=by
 unfold yl at h;split at h
 ·rename_i hk;split at h
  ·rename_i a g b hs;split at h
   ·rename_i hcond;cases h;simp only[qBi]at hcond;have hg:=qe7 (vA hc (x:=g) (by rw[hs];simp)) hcond.1.2.1;have hb:=qe7 (vA hc (x:=b) (by rw[hs];simp)) hcond.1.2.2.1;show t=tupT [a,vr (qS g).1,vr (qS b).1];rw[hg,hb,←hs];exact qwA hc hk
   ·cases h
  ·cases h
 ·cases h
theorem qmW:∀{l:List Tm} {cs:List Cl},(∀x∈l,x.chk=0)->seqC l=some cs->l=cs.map clT
 |[],cs,_,h=>by cases h;rfl
 |t::l,cs,hc,h=>by
  rw[seqC]at h;obtain⟨c,h1,h⟩:=qBl.1 h;obtain⟨r,hr,rfl⟩:=qBq.1 h;rw[qBZ,←qtW (hc t (by simp)) h1,qmW (λx hx=>hc x (by simp[hx])) hr]
theorem qvX{t:Tm}(h:(clsG t).2=0):selT (clsG t).1=t∧SelOk (clsG t).1:=by
 have key:selT (clsG t).1=t:=by
  unfold clsG at h⊢
  by_cases hc:t.chk=0
  ·rw[qB5 hc]at h⊢;cases hs:seqC (qS t).1 with
   |none=>rw[hs]at h;cases h
   |some l=>
    rw[hs]at h;simp only[]at h⊢;split at h
    ·rename_i h2;rw[qB5 h2];rw[qBi]at h2;show vr (l.map clT)=t;rw[←qmW (qdx hc) hs];exact qe7 hc h2.1
    ·cases h
  ·rw[qB6 hc]at h;cases h
 refine⟨key,qns.1 ?_⟩;rw[key];exact h
theorem qe4:∀l:List Tm,(vr l).words=1+l.length+vG l
 |[]=>by decide
 |x::l=>by
  have h:(vr (x::l)).words=1+(x.words+((vr l).words+0)):=by
   show(Tm.mk 9 0 [] [x,vr l]).words=_;rw[Tm.words];simp[vG,Tm.own]
  rw[h,qe4 l,vG,qBK];omega
theorem qe5:∀l:List Tm,(vr l).parts=xh l
 |[]=>by decide
 |x::l=>by
  have h:(vr (x::l)).parts=(x.parts&&((vr l).parts&&true)):=by
   show(Tm.mk 9 0 [] [x,vr l]).parts=_;rw[Tm.parts];simp[xh,yH]
  rw[h,qe5 l,xh,Bool.and_true]
theorem qyf{c:Cl}:(selT [c]).chk=0↔(clT c).parts=true∧2+(clT c).words<=65536:=by
 rw[zl,selT,qe4,qe5];simp[xh,vG]
theorem SelOk.one{cs:List Cl}(h:SelOk cs){c:Cl}(hc:c∈cs):SelOk [c]:=by
 obtain⟨h1,h2⟩:=zl.1 h.chk;rw[selT,qe5]at h1;rw[selT,qe4]at h2;have hm:=List.mem_map_of_mem (f:=clT) hc;have:=qkp hm;have hl:1<=cs.length:=List.length_pos_of_mem hc;rw[qBE]at h2;exact⟨qyf.2 ⟨qkW h1 _ hm,by omega⟩,by simpa using h.ok c hc,by simp⟩
theorem qtx{cs:List Cl}(h:SelOk cs)(o:Tm)(self:Int):yM (selT cs) o self=if o.kind≠7∨o.chk≠0∨self<1∨self>1073741824 then(0,q9,2)else((qab o self cs 0).1,(qab o self cs 0).2,0):=by
 unfold yM;rw[h.cls];simp only[];rw[qB6 (by omega)]
theorem qsW{p o:Tm}{b:List (Int×Tm)}(h:qaY p o=some b){self:Int}(h1:1<=self)(h2:self<=1073741824):EnvOk ⟨o,b,self⟩:=by
 obtain⟨h3,_,h4,_⟩:=qk6 h;refine⟨h4,h3,?_⟩;show zw self=true;simp[zw];omega
end Go.Av
end
noncomputable section
namespace Go.Proofs.YtafdkafbgohigaaGreat
open Go.Av
def qx8(t:Tm)(most:Int)(v:AV):Prop:=∃n:Int,v= .int .i64 n∧1<=n∧n<=most∧(n<most->t.w<=101*n∧t.words<=2*n)
theorem qwK(t:Tm):t.Ok->∀most:Int,1<=most->most<=1073741824->Gets (EVs (EV cfg) 40 [t.av,.int .i64 most]) (qx8 t most):=by
 induction t using Tm.ind with
 |_ k n s l ih=>
  intro hok most h1 hmx
  by_cases hs:s.length<=100
  ·have loop:∀(d i:Nat) (m:Int),i+d=l.length->1<=m->m<=most->(m<most->(1+s.length:Nat)+wL (l.take i)<=101*m∧2+vG (l.take i)<=2*m)->Gets (qkt most m i k n s (qb l)) (qx8 (.mk k n s l) most):=by
    intro d
    induction d with
    |zero=>
     intro i m hi hm1 hm2 hmw;refine qiQ _ _ _ _ _ _ _ ?_;rw[qe,qB4 (by omega)];refine⟨_,rfl,m,rfl,hm1,hm2,λhlt=>?_⟩;have hmw:=hmw hlt;rw[qBt (by omega)]at hmw;have:=(Tm.mk k n s l).own_le;rw[Tm.w_mk,Tm.words];omega
    |succ d ihd=>
     intro i m hi hm1 hm2 hmw;refine qiQ _ _ _ _ _ _ _ ?_;have hil:i<l.length:=by omega
     have hx:l[i]? =some l[i]:=qBk hil;have hxl:=qBy hx;have hix:=ih l[i] hxl (hok.sub hxl)
     by_cases hm:m<most
     ·have hmw:=hmw hm;rw[vn hil hok.len,vq (x:=most - m) (by omega) (by omega)];simp[hil,hm];refine Gets.bind (hix (most - m) (by omega) (by omega)) ?_;rintro _ ⟨n'',rfl,q1,q2,q3⟩;have hg:=ihd (i+1) (m+n'') (by omega) (by omega) (by omega) (λhlt=>by
       have:=q3 (by omega);rw[List.take_add_one,hx,Option.toList_some,y9,qde,qE,xy,vG,vG];omega)
      simp only[qi];rw[vq (x:=m+n'') (by omega) (by omega)]
      simpa using hg
     ·simp[hil,hm];exact⟨m,rfl,hm1,hm2,λh=>absurd h hm⟩
   rw[Tm.av_mk];refine qjf _ _ _ _ _ ?_;rw[qB4 (by omega)]
   by_cases h2:(l.length:Int)>most
   ·rw[qe,qB3 h2];exact⟨_,rfl,most,rfl,h1,Int.le_refl _,λh=>absurd h (by omega)⟩
   ·rw[qe,qB4 h2];exact loop l.length 0 1 (by omega) (by omega) (by omega) (λ_=>by simp[vG];omega)
  ·rw[Tm.av_mk];refine qjf _ _ _ _ _ ?_;rw[qB3 (by omega)];exact⟨_,rfl,most,rfl,h1,Int.le_refl _,λh=>absurd h (by omega)⟩
def BigP(t:Tm)(most:Int)(v:AV):Prop:=∃b:Bool,v= .bool b∧(b=false->t.w<=101*most∧t.words<=2*most)
theorem qyF{t:Tm}(h:t.Ok){most:Int}(h1:1<=most)(h2:most<=1000000000):Gets (EVs (EV cfg) 9 [t.av,.int .i64 most]) (BigP t most):=by
 have h1:=qwK t h (most+1) (by omega) (by omega);rw[Tm.av,Tm.cells_eq]at h1⊢;refine qs6 _ _ _ _ _ ?_;rw[vq (by omega) (by omega)];refine Gets.bind h1 ?_;rintro _ ⟨n,rfl,q1,q2,q3⟩;simp only[qi];refine⟨_,rfl,_,rfl,λhb=>?_⟩;have hb:¬n>most:=of_decide_eq_false hb;have:=q3 (by omega);omega
def qz4:Den:=evC cfg (EV cfg) 52 none 0 (sub (qg Tryz.f52) [1,1,0,1,0,0])
def qAD:Ex×List AV×AH->Option AV:=kAft (Cfg.keepOut cfg 52 4) (kRun cfg (EV cfg) (kfN cfg 6) 52 none 0 (qaM cfg (Cfg.lift cfg 52 0) Tryz.f52.results.toList) ([.block 0,.seq (sub (qg Tryz.f52) [1,1,1])]))
def qzH:List AV×AH->Option AV:=λp=>kOpt (LOOP 0 (some [0,1,5]) ([]) qz4 p) qAD
abbrev qkm(A B:Rz)(v5:Int):Option (AV):=qzH (((fx 27 [(0,.sl A),(1,.sl B),(5,.int .i64 v5)]):List AV),([]:AH))
theorem qeY(ka na:Int)(sa:Bz)(la:Rz)(kb nb:Int)(sb:Bz)(lb:Rz){P:AV->Prop}(h:Gets (bif ka==kb then bif na==nb then bif sa==sb then kOpt (EVs (EV cfg) 52 [.sl la,.sl lb]) λv=>qu v λb=>some (.bool b)else some (.bool false)else some (.bool false)else some (.bool false)) P):Gets (EVs (EV cfg) 14 [.agg [.int .i64 ka,.int .i64 na,.str sa,.sl la],.agg [.int .i64 kb,.int .i64 nb,.str sb,.sl lb]]) P:=
  gE (λ_=>funS rfl rfl Tryz.func14 rfl) (by kernel_rfl) h
theorem qep(A B:Rz){P:AV->Prop}(h:Gets (bif(A.length:Int) != (B.length:Int)then some (.bool false)else qkm A B 0) P):Gets (EVs (EV cfg) 52 [.sl A,.sl B]) P:=
  gE (λ_=>funS rfl rfl Tryz.func52 rfl) (by kernel_rfl) h
theorem qiJ(A B:Rz)(v5:Int){P:AV->Prop}(h:Gets (bif decide (v5<(A.length:Int))then bif qh 0 v5&&qn v5 (A.length:Int)then kOpt (qBg A (v5.toNat)) λrow=>bif qBh (qBe row) 4 then bif qBv 4 (qBe row)then kTmC (qBm 4 row) λn n_1 s rows=>(bif qh 0 v5&&qn v5 (B.length:Int)then kOpt (qBg B (v5.toNat)) λrow=>bif qBh (qBe row) 4 then bif qBv 4 (qBe row)then kTmC (qBm 4 row) λn_2 n_3 s_1 rows_1=>(kOpt (EVs (EV cfg) 14 [.agg [.int .i64 n,.int .i64 n_1,.str s,.sl rows],.agg [.int .i64 n_2,.int .i64 n_3,.str s_1,.sl rows_1]]) λv=>qu v λb=>bif ! b then some (.bool false)else qkm A B (qBf .i64 (v5+1)))else none else none else none)else none else none else none else some (.bool true)) P):Gets (qkm A B v5) P:=
  gE (λ_=>qB (cfg:=cfg) (f:=52) (rd:=none) (bs:=0)) (by kernel_rfl) h
theorem qwO(la lb:List Tm)(hlen:la.length<1099511627776)(ih:∀a∈la,∀b,Gets (EVs (EV cfg) 14 [a.av,b.av]) (qeQ (a=b))):Gets (EVs (EV cfg) 52 [.sl (qb la),.sl (qb lb)]) (qeQ (la=lb)):=by
 have loop:la.length=lb.length->∀(d i:Nat),i+d=la.length->la.take i=lb.take i->Gets (qkm (qb la) (qb lb) i) (qeQ (la=lb)):=by
  intro hl d
  induction d with
  |zero=>
   intro i hi ht;refine qiJ _ _ _ ?_;rw[qBt (by omega),qBt (by omega)]at ht;have h1:¬i<la.length:=by omega
   simp[h1,yA];exact ht
  |succ d ihd=>
   intro i hi ht;refine qiJ _ _ _ ?_;have hlt1:i<la.length:=by omega
   have hlt2:i<lb.length:=by omega
   have hx:la[i]? =some la[i]:=qBk hlt1;have hy:lb[i]? =some lb[i]:=qBk hlt2;have hix:=ih la[i] (qBy hx) lb[i];have hta:la.take (i+1)=la.take i++[la[i]]:=by rw[List.take_add_one,hx];rfl
   have htb:lb.take (i+1)=lb.take i++[lb[i]]:=by rw[List.take_add_one,hy];rfl
   have hih:=ihd (i+1) (by omega);have hne:la[i]≠lb[i]->la≠lb:=by intro h e;subst e;exact h rfl
   rw[hta,htb,ht]at hih;rw[vn (n:=la.length) (by omega) hlen];simp[hlt1,hlt2];refine Gets.bind hix ?_;rintro _ ⟨b,rfl,hb⟩;cases b with
   |true=>simp;exact hih (by rw[hb.1 rfl])
   |false=>
    have:la≠lb:=hne (λe=>by cases hb.2 e);simp[yA,this]
 refine qep _ _ ?_
 by_cases hl:la.length=lb.length
 ·simp[hl];exact loop hl la.length 0 (by omega) (by simp)
 ·have:la≠lb:=λe=>hl (by rw[e])
  have hl':¬((la.length:Int)=lb.length):=by omega
  simp[bneD,hl',yA,this]
theorem qwN(a:Tm):a.Ok->∀b:Tm,Gets (EVs (EV cfg) 14 [a.av,b.av]) (qeQ (a=b)):=by
 induction a using Tm.ind with
 |_ k n s l ih=>
  intro hok b;obtain⟨k',n',s',l'⟩:=b;have hl:=qwO l l' hok.len (λa ha b=>ih a ha (hok.sub ha) b);rw[Tm.av_mk,Tm.av_mk];refine qeY _ _ _ _ _ _ _ _ ?_
  by_cases h1:k=k'
  ·by_cases h2:n=n'
   ·by_cases h3:s=s'
    ·subst h1 h2 h3;simp;refine Gets.bind hl ?_;rintro _ ⟨b,rfl,hb⟩;simp[yA,hb]
    ·simp[h1,h2,beqD,h3,yA]
   ·simp[h1,beqD,h2,yA]
  ·simp[beqD,h1,yA]
theorem quJ{a b:Tm}(h:a.Ok){c:Bool}(hc:c=true↔a=b):EVs (EV cfg) 14 [a.av,b.av]=some (.bool c):=by
 obtain⟨_,h1,b',rfl,h2⟩:=qwN a h b;rw[h1];have:b'=c:=by rw[Bool.eq_iff_iff];exact h2.trans hc.symm
 rw[this]
end Go.Proofs.YtafdkafbgohigaaGreat
end
noncomputable section
namespace Go.Av
theorem qj2{a:Nat}(ha:a<18446744073709551616):qU (Op.intBits .and .u64 (a:Int) 4294967295)=some (.int .u64 ((a % 4294967296:Nat):Int)):=by
 have:qU (Op.intBits .and .u64 (a:Int) 4294967295)=some (.int .u64 (qBf .u64 (BitVec.ofInt 64 (a:Int) &&& BitVec.ofInt 64 4294967295).toNat)):=rfl;rw[this];have ea:(BitVec.ofInt 64 (a:Int)).toNat=a:=by simp[BitVec.toNat_ofInt];omega
 have eb:(BitVec.ofInt 64 (4294967295:Int)).toNat=2 ^ 32 - 1:=by decide
 rw[BitVec.toNat_and,ea,eb,Nat.and_two_pow_sub_one_eq_mod,qkj (by omega)]
theorem qhe{a:Nat}(_ha:a<18446744073709551616):qU (Op.shift .shr .u64 (a:Int) .u64 32)=some (.int .u64 ((a / 4294967296:Nat):Int)):=by
 have:qU (Op.shift .shr .u64 (a:Int) .u64 32)=some (.int .u64 (Int.fdiv a (2 ^ (min (32:Int).toNat 64)))):=by
  unfold Op.shift;rw[qB6 (by omega)];rfl
 rw[this];have e:((2:Int) ^ (min (32:Int).toNat 64))=((4294967296:Nat):Int):=by decide
 rw[e,Int.fdiv_eq_ediv_of_nonneg _ (Int.natCast_nonneg _)];rfl
theorem qbp{n:Int}{m:Nat}(h:n=(m:Int))(hm:m<18446744073709551616):qBf .u64 n=(m:Int):=by rw[h,qkj hm]
theorem qui(n:Nat):qBf .u64 (n:Int)=((n % 18446744073709551616:Nat):Int):=by
 simp[qBf,IntKind.bits,IntKind.signed]
theorem qxm{a b:Nat}(ha:a<18446744073709551616)(hb:b<18446744073709551616):
  let p:=a / 4294967296*(b % 4294967296);let q:=a % 4294967296*(b / 4294967296);let r:=a % 4294967296*(b % 4294967296);let s:=a / 4294967296*(b / 4294967296)
  r<18446744073709551616∧p<18446744073709551616∧q<18446744073709551616∧s<18446744073709551616∧p+r / 4294967296<18446744073709551616∧(p+r / 4294967296) % 4294967296+q<18446744073709551616∧s+(p+r / 4294967296) / 4294967296<18446744073709551616 ∧
  s+(p+r / 4294967296) / 4294967296+((p+r / 4294967296) % 4294967296+q) / 4294967296=a*b / 18446744073709551616∧a*b / 18446744073709551616<18446744073709551616:=by
 intro p q r s;have ea:a=a / 4294967296*4294967296+a % 4294967296:=by omega
 have eb:b=b / 4294967296*4294967296+b % 4294967296:=by omega
 have e:a*b=s*18446744073709551616+(p+q)*4294967296+r:=by
  show a*b=(a / 4294967296*(b / 4294967296))*18446744073709551616+(a / 4294967296*(b % 4294967296)+a % 4294967296*(b / 4294967296))*4294967296+a % 4294967296*(b % 4294967296);generalize a / 4294967296=x1 at *;generalize a % 4294967296=x0 at *;generalize b / 4294967296=y1 at *;generalize b % 4294967296=y0 at *;rw[ea,eb];have h1:x1*4294967296*(y1*4294967296)=x1*y1*18446744073709551616:=by
   rw[Nat.mul_mul_mul_comm]
  have h2:x1*4294967296*y0=x1*y0*4294967296:=by rw[Nat.mul_right_comm]
  have h3:x0*(y1*4294967296)=x0*y1*4294967296:=by rw[Nat.mul_assoc]
  rw[Nat.add_mul,Nat.mul_add,Nat.mul_add,h1,h2,h3];omega
 have bp:p<=4294967295*4294967295:=Nat.mul_le_mul (by omega) (by omega);have bq:q<=4294967295*4294967295:=Nat.mul_le_mul (by omega) (by omega);have br:r<=4294967295*4294967295:=Nat.mul_le_mul (by omega) (by omega);have bs:s<=4294967295*4294967295:=Nat.mul_le_mul (by omega) (by omega);have hab:a*b<18446744073709551616*18446744073709551616:=Nat.mul_lt_mul'' ha hb
 clear_value p q r s
 rw[e]at hab⊢;clear e ea eb;refine⟨by omega,by omega,by omega,by omega,by omega,by omega,by omega,by omega,by omega⟩
end Go.Av
namespace Go.Proofs.YtafdkafbgohigaaGreat
open Go.Av
theorem qw4{a b:Nat}(ha:a<18446744073709551616)(hb:b<18446744073709551616):
  EVs (EV cfg) 280 [.int .u64 (a:Int),.int .u64 (b:Int)]=some (.tup [.int .u64 ((a*b / 18446744073709551616:Nat):Int),.int .u64 ((a*b % 18446744073709551616:Nat):Int)]):=by
 obtain⟨h1,h2,h3,h4,h5,h6,h7,h8,h9⟩:=qxm ha hb;have w0:qBf .u64 (((a % 4294967296:Nat):Int)*((b % 4294967296:Nat):Int))=((a % 4294967296*(b % 4294967296):Nat):Int):=qbp (Int.natCast_mul _ _).symm h1;have w1:qBf .u64 (((a / 4294967296:Nat):Int)*((b % 4294967296:Nat):Int))=((a / 4294967296*(b % 4294967296):Nat):Int):=qbp (Int.natCast_mul _ _).symm h2;have w2:qBf .u64 (((a % 4294967296:Nat):Int)*((b / 4294967296:Nat):Int))=((a % 4294967296*(b / 4294967296):Nat):Int):=qbp (Int.natCast_mul _ _).symm h3
 have w3:qBf .u64 (((a / 4294967296:Nat):Int)*((b / 4294967296:Nat):Int))=((a / 4294967296*(b / 4294967296):Nat):Int):=qbp (Int.natCast_mul _ _).symm h4;have w4:qBf .u64 ((a:Int)*(b:Int))=((a*b % 18446744073709551616:Nat):Int):=by rw[←Int.natCast_mul,qui]
 apply Gets.get;refine qu5 _ _ ?_;rw[qj2 ha,qhe ha,qj2 hb,qhe hb];simp only[qc,qi,w0,w1,w2,w3,w4];rw[qhe h1];simp only[qc,qi];rw[qbp (Int.natCast_add _ _).symm h5,qj2 h5,qhe h5];simp only[qc,qi];rw[qbp (Int.natCast_add _ _).symm h6,qhe h6];simp only[qc,qi];rw[qbp (Int.natCast_add _ _).symm h7,qbp (Int.natCast_add _ _).symm (by rw[h8];exact h9),h8]
 exact⟨_,rfl,rfl⟩
theorem qkT:xo:=by
 intro e a b ha hb;obtain⟨a1,a2⟩:=ha;obtain⟨b1,b2⟩:=hb
 -- what follows the two signs
 have fin:∀(x y:Nat) (sg:Int),x<=576460752303423488->y<=576460752303423488->(sg=1∨sg= -1)->a*b=sg*(x*y:Nat) ->
   Gets (kOpt (EVs (EV cfg) 280 [.int .u64 (x:Int),.int .u64 (y:Int)]) fun(v:AV)=>kTup v fun(cs:List AV)=>qa cs fun(c:AV) (cs:List AV)=>kInt .u64 c fun(n:Int)=>qa cs fun(c:AV) (cs:List AV)=>kInt .u64 c fun(n_1:Int)=>kNil cs (bif decide (n>(0:Int))then kOpt (EVd (EV cfg) 250 [.ptr 0 0 0] 7 (mR e false)) fun(q:AV×List (List AV))=>kTmV q.1 fun(n n_2:Int) (s:List UInt8) (rows:List (List AV))=>(some (.agg [.int .i64 n,.int .i64 n_2,.str s,.sl rows],q.2))else bif decide (n_1>(576460752303423488:Int))then kOpt (EVd (EV cfg) 250 [.ptr 0 0 0] 7 (mR e false)) fun(q:AV×List (List AV))=>kTmV q.1 fun(n n_2:Int) (s:List UInt8) (rows:List (List AV))=>(some (.agg [.int .i64 n,.int .i64 n_2,.str s,.sl rows],q.2))else kOpt (EVd (EV cfg) 248 [.ptr 0 0 0,.int .i64 (qBf .i64 (sg*qBf .i64 n_1))] 7 (mR e false)) fun(q:AV×List (List AV))=>kTmV q.1 fun(n n_2:Int) (s:List UInt8) (rows:List (List AV))=>(some (.agg [.int .i64 n,.int .i64 n_2,.str s,.sl rows],q.2)))) (Res e (vj (a*b))):=by
  intro x y sg hx hy hsg hab;rw[qw4 (by omega) (by omega)];simp only[qc,kTup,qa,qi,kNil,yK,qW,qJ];have hbad:(x*y:Nat)>576460752303423488->vj (a*b)=none:=by
   intro h;unfold vj;rw[qB6];rintro⟨h1,h2⟩;rw[hab]at h1 h2;rcases hsg with rfl|rfl<;>omega
  rw[hab]at hbad⊢;generalize x*y=p at *
  by_cases c1:p / 18446744073709551616>0
  ·rw[qB3 (by omega),cond_true,hbad (by omega)];exact vM
  ·rw[qB4 (by omega),cond_false];have ep:p % 18446744073709551616=p:=by omega
   rw[ep]
   by_cases c2:p>576460752303423488
   ·rw[qB3 (by omega),cond_true,hbad c2];exact vM
   ·rw[qB4 (by omega),cond_false,vq (x:=(p:Int)) (by omega) (by omega)];have:qBf .i64 (sg*(p:Int))=sg*p:=by rcases hsg with rfl|rfl<;>exact vq (by omega) (by omega)
    rw[this];exact Gets.bind (qaa e _ λr h1 h2=>h1) λr h=>zZ h (qa7 h)
 have wneg:∀z:Int,-576460752303423488<=z->z<0->qBf .u64 (qBf .i64 (0 - z))=((-z).toNat:Int):=by
  intro z h1 h2;rw[vq (by omega) (by omega)];exact qbp (by omega) (by omega)
 have wpos:∀z:Int,0<=z->z<=576460752303423488->qBf .u64 z=(z.toNat:Int):=λz h1 h2=>qbp (by omega) (by omega)
 refine qo9 _ _ _ _ _ _ _ _ _ ?_;unfold ze13 ze14 ze15 ze16 ze17 ze18 ze19 ze20 ze21 ze4 ze5 ze6 ze7 ze8 ze9 ze10 ze11 ze12 ze1 ze2 ze3
 by_cases ca:a<0
 ·rw[qB3 ca,cond_true]
  by_cases cb:b<0
  ·rw[qB3 cb,cond_true,wneg a a1 ca,wneg b b1 cb];refine fin (-a).toNat (-b).toNat 1 (by omega) (by omega) (Or.inl rfl) ?_;rw[Int.natCast_mul,Int.toNat_of_nonneg (by omega),Int.toNat_of_nonneg (by omega),Int.neg_mul_neg,Int.one_mul]
  ·rw[qB4 cb,cond_false,wneg a a1 ca,wpos b (by omega) (by omega)];refine fin (-a).toNat b.toNat (-1) (by omega) (by omega) (Or.inr rfl) ?_;rw[Int.natCast_mul,Int.toNat_of_nonneg (by omega),Int.toNat_of_nonneg (by omega),Int.neg_mul,Int.one_mul,Int.neg_mul,Int.neg_neg]
 ·rw[qB4 ca,cond_false]
  by_cases cb:b<0
  ·rw[qB3 cb,cond_true,wpos a (by omega) (by omega),wneg b b1 cb];refine fin a.toNat (-b).toNat (-1) (by omega) (by omega) (Or.inr rfl) ?_;rw[Int.natCast_mul,Int.toNat_of_nonneg (by omega),Int.toNat_of_nonneg (by omega),Int.neg_mul,Int.one_mul,Int.mul_neg,Int.neg_neg]
  ·rw[qB4 cb,cond_false,wpos a (by omega) (by omega),wpos b (by omega) (by omega)];refine fin a.toNat b.toNat 1 (by omega) (by omega) (Or.inl rfl) ?_;rw[Int.natCast_mul,Int.toNat_of_nonneg (by omega),Int.toNat_of_nonneg (by omega),Int.one_mul]
def q6(p:Int)(x:InsA):InsA:=
 if x.o∈([1,2,4,6,14,11,12,10,13,17]:List Int)then⟨x.o,x.a,p,x.t⟩else if x.o=15∨x.o=16 then⟨x.o,p,x.b,x.t⟩else x
theorem qfJ(p:Int)(x:InsA):(q6 p x).o=x.o:=by unfold q6;split;rfl;split<;>rfl
theorem qiv(p:Int)(x:InsA):(q6 p x).t=x.t:=by unfold q6;split;rfl;split<;>rfl
def xu:List Tm->Nat->List InsA
 |[],_=>[]
 |e::l,at_=>qL e at_++iz 14 0 0::xu l (at_+(qL e at_).length+1)
def qaJ:List Tm->Nat->List InsA
 |[],_=>[]
 |e::l,at_=>iz 19 0 0::(qL e (at_+1)++qaJ l (at_+1+(qL e (at_+1)).length))
def zH:List Tm->Nat->List InsA
 |[],_=>[]
 |e::l,at_=>qL e at_++qaJ l (at_+(qL e at_).length)
def xe(c:Cl)(at_:Nat):List InsA:=(vS c.head []).1++xu c.gs (at_+(vS c.head []).1.length)
def qbb(c:Cl)(at_:Nat):List InsA:=iz 18 0 0::(zH c.bs (at_+(xe c at_).length+1)++[iz 20 0 0])
def xp(c:Cl)(at_:Nat):List InsA:=(xe c at_).map (q6 ((at_+(xe c at_).length+(qbb c at_).length:Nat):Int))++qbb c at_
def xg:List Cl->Nat->List InsA
 |[],_=>[]
 |c::l,at_=>xp c at_++xg l (at_+(xp c at_).length)
def wCl(c:Cl):Nat:=c.head.w+(wL c.gs+c.gs.length)+(wL c.bs+c.bs.length)
theorem qfc:∀(l:List Tm) (i:Nat),(xu l i).length<=wL l+l.length
 |[],i=>by simp[xu]
 |e::l,i=>by
  have h1:=zj e i;have h2:=qfc l (i+(qL e i).length+1);rw[xu,qE];simp;omega
theorem qm6:∀(l:List Tm) (i:Nat),(qaJ l i).length<=wL l+l.length
 |[],i=>by simp[qaJ]
 |e::l,i=>by
  have h1:=zj e (i+1);have h2:=qm6 l (i+1+(qL e (i+1)).length);rw[qaJ,qE];simp;omega
theorem qnx(l:List Tm)(i:Nat):(zH l i).length<=wL l+l.length:=by
 cases l with
 |nil=>simp[zH]
 |cons e l=>
  have h1:=zj e i;have h2:=qm6 l (i+(qL e i).length);rw[zH,qE];simp;omega
theorem qfj(c:Cl)(i:Nat):(xp c i).length<=wCl c+2:=by
 have h1:=qjQ c.head [];have h2:=qfc c.gs (i+(vS c.head []).1.length);have h3:=qnx c.bs (i+(xe c i).length+1);unfold xp qbb wCl;rw[qBr,qBE];unfold xe at *;simp at h1 h2 h3⊢;omega
theorem qhZ(c:Cl):wCl c+2<=2*(clT c).w:=by
 have h1:=qgf c.gs;have h2:=qgf c.bs;have:(clT c).w=1+(c.head.w+((vr c.gs).w+((vr c.bs).w+0))):=by
  rw[Tm.w_eq];show 1+0+wL [c.head,vr c.gs,vr c.bs]=_;simp only[qE,xy]
 unfold wCl;omega
theorem qhW:∀(l:List Cl) (i:Nat),(xg l i).length<=2*wL (l.map clT)
 |[],i=>by simp[xg]
 |c::l,i=>by
  have h1:=qfj c i;have h2:=qhZ c;have h3:=qhW l (i+(xp c i).length);rw[xg,qBZ,qE];simp;omega
def ve(B:Nat)(l:List InsA):Prop:=∀x∈l,x.o≠20∧x.t.w<=B
theorem ve.app{B:Nat}{a b:List InsA}(ha:ve B a)(hb:ve B b):ve B (a++b):=λx hx=>(qBF.1 hx).elim (ha x) (hb x)
theorem ve.mono{B B':Nat}{a:List InsA}(ha:ve B a)(h:B<=B'):ve B' a:=λx hx=>⟨(ha x hx).1,Nat.le_trans (ha x hx).2 h⟩
theorem zT_w:zT.w=1:=by rw[Tm.w_mk];simp
theorem ve.z{B:Nat}(hB:1<=B){o a b:Int}(ho:o≠20):ve B [iz o a b]:=λx hx=>by
 rw[List.mem_singleton]at hx;subst hx;exact⟨ho,by show zT.w<=B;rw[zT_w];exact hB⟩
theorem ve.t{B:Nat}{t:Tm}(hB:t.w<=B){o a b:Int}(ho:o≠20):ve B [⟨o,a,b,t⟩]:=λx hx=>by
 rw[List.mem_singleton]at hx;subst hx;exact⟨ho,hB⟩
theorem ve.nil{B:Nat}:ve B []:=λx hx=>absurd hx (by simp)
theorem qqT{l:List Tm}{B:Nat}(h:∀t∈l,∀i,ve B (qL t i)):∀i,ve B (xq l i):=by
 induction l with
 |nil=>intro i;rw[qc3];exact ve.nil
 |cons t l ih=>intro i;rw[qb9];exact(h t (by simp) i).app (ih (λx hx=>h x (by simp[hx])) _)
theorem qpH:∀(n:Nat) (t:Tm),t.w<=n->∀i,ve t.w (qL t i):=by
 intro n
 induction n with
 |zero=>intro t h;have:=t.w_eq;omega
 |succ n ih=>
  intro t h i;have hw:=t.w_eq;have h1:1<=t.w:=by omega
  have hm:∀l:List Tm,wL l<=n->wL l<=t.w->∀j,ve t.w (xq l j):=λl hl hl' j=>qqT (λx hx j=>(ih x (by have:=xW hx;omega) j).mono (by have:=xW hx;omega)) j
  by_cases h2:t.kind=2
  ·rw[qdC h2];split
   ·exact ve.z h1 (by decide)
   ·split
    ·exact ve.z h1 (by decide)
    ·split
     ·exact ve.z h1 (by decide)
     ·exact ve.t (qBp _) (by decide)
  by_cases h9:t.kind=9
  ·rw[qdB h9];exact(hm t.subs (by omega) (by omega) i).app (ve.z h1 (by decide))
  by_cases h7:t.kind=7
  ·cases hl:t.subs with
   |nil=>
    obtain⟨k,n',s,l⟩:=t;simp only[Tm.kind_mk,Tm.subs_mk]at h7 hl;subst h7 hl;rw[qL.eq_def];exact ve.nil
   |cons f r=>
    rw[hl,qE]at hw;have hf:=f.w_eq;rw[qeL h7 hl];split
    ·exact(hm f.subs (by omega) (by omega) i).app (ve.z h1 (by decide))
    ·split
     ·cases r with
      |nil=>rw[qda];exact ve.nil
      |cons c r=>rw[qda];rw[qE]at hw;exact ve.t (by omega) (by decide)
     ·have hz:∀o:Int,o≠20->ve t.w (zo o r i):=by
       intro o ho
       match r with
       |[]=>rw[zo];exact ve.nil
       |[a]=>rw[zo,qn3];exact ve.nil
       |a::b::r=>
        rw[qeD,qeC];rw[qE,qE]at hw;have ha:=(ih a (by omega) i).mono (show a.w<=t.w by omega);have hb:=(ih b (by omega) (i+(qL a i).length+1)).mono (show b.w<=t.w by omega);exact ha.app ((ve.z h1 ho).app (hb.app (ve.z h1 (by decide))))
      split
      ·exact hz _ (by decide)
      ·split
       ·exact hz _ (by decide)
       ·exact(hm r (by omega) (by omega) i).app (ve.t (by omega) (by decide))
  rw[qcS h2 h9 h7];exact ve.t (qBp _) (by decide)
theorem qfg(t:Tm)(i:Nat):ve t.w (qL t i):=qpH t.w t (qBp _) i
theorem qpv:∀(n:Nat) (t:Tm),t.w<=n->∀V,ve t.w (vS t V).1:=by
 intro n
 induction n with
 |zero=>intro t h;have:=t.w_eq;omega
 |succ n ih=>
  intro t h V;have hw:=t.w_eq;have h1:1<=t.w:=by omega
  have hm:∀l:List Tm,wL l<=n->wL l<=t.w->∀V,ve t.w (vU l V).1:=by
   intro l
   induction l with
   |nil=>intro _ _ V;rw[qdz];exact ve.nil
   |cons x l ihl=>
    intro hl hl' V;rw[qE]at hl hl';rw[qcN];exact((ih x (by omega) V).mono (by omega)).app (ihl (by omega) (by omega) (vS x V).2)
  have h2:=hm t.subs (by omega) (by omega) V;rw[qgs];split
  ·split<;>exact ve.z h1 (by decide)
  ·split
   ·exact ve.z h1 (by decide)
   ·split
    ·exact(ve.z (o:=1) h1 (by decide)).app h2
    ·split
     ·exact(ve.z (o:=2) h1 (by decide)).app h2
     ·exact ve.t (qBp _) (by decide)
theorem qrc(t:Tm)(V:List Int):ve t.w (vS t V).1:=qpv t.w t (qBp _) V
theorem qgQ{B:Nat}(h1:1<=B):∀(l:List Tm) (i:Nat),wL l<=B->ve B (xu l i)
 |[],i,_=>by rw[xu];exact ve.nil
 |e::l,i,h=>by
  rw[qE]at h;rw[xu];exact((qfg e i).mono (by omega)).app ((ve.z h1 (by decide)).app (qgQ h1 l _ (by omega)))
theorem qi5{B:Nat}(h1:1<=B):∀(l:List Tm) (i:Nat),wL l<=B->ve B (qaJ l i)
 |[],i,_=>by rw[qaJ];exact ve.nil
 |e::l,i,h=>by
  rw[qE]at h;rw[qaJ];exact(ve.z (o:=19) h1 (by decide)).app (((qfg e _).mono (by omega)).app (qi5 h1 l _ (by omega)))
theorem qjr{B:Nat}(h1:1<=B)(l:List Tm)(i:Nat)(h:wL l<=B):ve B (zH l i):=by
 cases l with
 |nil=>rw[zH];exact ve.nil
 |cons e l=>
  rw[qE]at h;rw[zH];exact((qfg e i).mono (by omega)).app (qi5 h1 l _ (by omega))
theorem qh3(c:Cl)(i:Nat):ve (wCl c) (xe c i):=by
 have h1:=c.head.w_eq;unfold xe wCl;exact((qrc c.head []).mono (by omega)).app (qgQ (by omega) _ _ (by omega))
def tells(l:List InsA):Nat:=(l.filter λx=>decide (x.o=20)).length
theorem qer(a b:List InsA):tells (a++b)=tells a+tells b:=by simp[tells]
theorem qeZ{B:Nat}{l:List InsA}(h:ve B l):tells l=0:=by
 unfold tells;rw[List.length_eq_zero_iff,List.filter_eq_nil_iff];intro x hx;simp[(h x hx).1]
theorem qnS(c:Cl)(i:Nat):tells (xp c i)=1:=by
 unfold xp qbb;have h1:1<=wCl c:=by have:=c.head.w_eq;unfold wCl;omega
 have e1:ve (wCl c) ((xe c i).map (q6 ((i+(xe c i).length+(iz 18 0 0::(zH c.bs (i+(xe c i).length+1)++[iz 20 0 0])).length:Nat):Int))):=by
  intro x hx;obtain⟨y,hy,rfl⟩:=List.mem_map.1 hx;rw[qfJ,qiv];exact qh3 c i y hy
 have e2:tells (iz 18 0 0::(zH c.bs (i+(xe c i).length+1)++[iz 20 0 0]))=1:=by
  rw[show iz 18 0 0::(zH c.bs (i+(xe c i).length+1)++[iz 20 0 0])=[iz 18 0 0]++(zH c.bs (i+(xe c i).length+1)++[iz 20 0 0])from rfl,qer,qer,qeZ (ve.z (B:=1) (by omega) (by decide)),qeZ (qjr h1 c.bs _ (by unfold wCl;omega))];rfl
 rw[qer,e2];show tells (List.map _ _)+1=1;unfold qbb at e1;rw[qeZ e1]
theorem qjm:∀(l:List Cl) (i:Nat),tells (xg l i)=l.length
 |[],i=>rfl
 |c::l,i=>by rw[xg,qer,qnS,qjm l];simp;omega
theorem qmF:∀(l:List Cl) (i:Nat) (B:Nat),(∀c∈l,wCl c<=B)->∀x∈xg l i,x.t.w<=B
 |[],i,B,_,x,hx=>absurd hx (by simp[xg])
 |c::l,i,B,h,x,hx=>by
  have h0:=h c (by simp);have h1:1<=wCl c:=by have:=c.head.w_eq;unfold wCl;omega
  rw[xg]at hx;rcases qBF.1 hx with hx|hx
  ·unfold xp at hx;rcases qBF.1 hx with hx|hx
   ·obtain⟨y,hy,rfl⟩:=List.mem_map.1 hx;rw[qiv];have:=(qh3 c i y hy).2;omega
   ·unfold qbb at hx;rcases qBG.1 hx with rfl|hx
    ·show zT.w<=B;rw[zT_w];omega
    ·rcases qBF.1 hx with hx|hx
     ·have:=(qjr h1 c.bs _ (by unfold wCl;omega) x hx).2;omega
     ·rw[List.mem_singleton]at hx;subst hx;show zT.w<=B;rw[zT_w];omega
  ·exact qmF l _ B (λc hc=>h c (by simp[hc])) x hx
structure SK where
 left:List Tm
 vals:List Tm
 binds:List (Int×Tm)
 body:Bool
abbrev newK(o:Tm):SK:=⟨[o],[],[],false⟩
structure BO where
 put:Int->Tm->List (Int×Tm)->List (Int×Tm)
 all:List (Int×Tm)->List Tm
def putB(n:Int)(t:Tm):List (Int×Tm)->List (Int×Tm)
 |[]=>[(n,t)]
 |p::l=>if p.1=n then(n,t)::l else p::putB n t l
def allB(m:List (Int×Tm)):List Tm:=(qBT 100).filterMap λn=>qG (n:Nat) m
def opsK:BO:=⟨putB,allB⟩
inductive How where
 |next|fails|jumps|raises|tells|broken
 deriving DecidableEq
def zi(bo:BO)(s:SK)(x:InsA):How×SK:=
 match s.left with
 |[]=>(.broken,s)
 |t::r=>
  if x.o=1 then(if x.a<0 then(.broken,{ s with left:=r })else if t.kind=7∧(t.subs.length:Int)=x.a then(.next,{ s with left:=t.subs++r })else(.fails,{ s with left:=r }))
  else if x.o=2 then(if t.kind=9 then(.next,{ s with left:=t.subs++r })else(.fails,{ s with left:=r }))
  else if x.o=6 then(if x.t.chk=0 then(if t=x.t then(.next,{ s with left:=r })else(.fails,{ s with left:=r }))else(.broken,{ s with left:=r }))
  else if x.o=3 then(if x.a<0∨99<x.a then(.broken,{ s with left:=r })else(.next,{ s with left:=r,binds:=bo.put x.a t s.binds }))
  else if x.o=4 then(if x.a<0∨99<x.a then(.broken,{ s with left:=r })else
   match qG x.a s.binds with
   |none=>(.broken,{ s with left:=r })
   |some h=>if h=t then(.next,{ s with left:=r })else(.fails,{ s with left:=r }))
  else(.next,{ s with left:=r })
def xN(t:Tm)(s:SK):How×SK:=if t.chk=0 then(.next,{ s with vals:=t::s.vals })else(.raises,s)
def qaL(bo:BO)(o:Tm)(s:SK)(x:InsA):How×SK:=
 if x.o=7 then(if x.t.chk=0 then xN x.t s else(.broken,s))
 else if x.o=9 then xN o s
 else if x.o=8 then(match qG x.a s.binds with|none=>(.broken,s)|some t=>xN t s)
 else xN (qbf (bo.all s.binds) qbA) s
def doO(op:List UInt8)(l:List Tm)(self:Int):Option Tm:=if((l.length:Int)∈opsG op∧zw self=true)∧∀x∈l,x.chk=0 then zm op l self else none
def yo(x:InsA):Int:=if x.o=12 then 2 else x.a
def qca(self:Int)(s:SK)(x:InsA):How×SK:=
 if yo x<0∨(s.vals.length:Int)<yo x∨(x.o=13∧(x.t.kind≠2∨x.t.chk≠0))then(.broken,s)
 else if x.o=11 then xN (tupT (s.vals.take (yo x).toNat).reverse) { s with vals:=s.vals.drop (yo x).toNat }
 else if x.o=12 then xN (.mk 9 0 [] (s.vals.take (yo x).toNat).reverse) { s with vals:=s.vals.drop (yo x).toNat }
 else match doO x.t.str (s.vals.take (yo x).toNat).reverse self with
  |none=>(.raises,{ s with vals:=s.vals.drop (yo x).toNat })
  |some t=>xN t { s with vals:=s.vals.drop (yo x).toNat }
def qbg(s:SK)(x:InsA):How×SK:=
 match s.vals with
 |[]=>(.broken,s)
 |t::r=>
  if x.o=20 then(.tells,s)
  else if x.o=19 then(.next,{ s with vals:=r })
  else if x.o=14 then(if vL t=some true then(.next,{ s with vals:=r })else(.fails,{ s with vals:=r }))
  else match vL t with
   |none=>(.raises,s)
   |some b=>if x.o=17 then(.next,s)else if b=decide (x.o=15)then(.next,{ s with vals:=r })else(.jumps,s)
def vD(bo:BO)(o:Tm)(self:Int)(s:SK)(x:InsA):How×SK:=
 if x.o∈([1,2,3,4,5,6]:List Int)then zi bo s x
 else if x.o∈([7,8,9,10]:List Int)then qaL bo o s x
 else if x.o∈([11,12,13]:List Int)then qca self s x
 else if x.o∈([14,15,16,17,19,20]:List Int)then qbg s x
 else if x.o=18 then(.next,{ s with body:=true })
 else(.broken,s)
def xX(at_:Nat)(x:InsA)(h:How):Int:=
 match h with
 | .next| .tells| .broken=>(at_:Int)+1
 | .raises=>if x.o=15∨x.o=16 then x.a else x.b
 | .fails| .jumps=>x.b
def runO(bo:BO)(l:List InsA)(o:Tm)(self:Int)(at_ n:Nat)(s:SK):Tm×Bool×Int×Int:=
 match h:l[at_]? with
 |none=>(q9,false,(n:Int),0)
 |some x=>
  match vD bo o self s x with
  |(.tells,s')=>(s'.vals.headD q9,true,(n:Int)+1,0)
  |(.broken,_)=>(q9,false,0,9)
  |(.raises,s')=>if s'.body then(qgw,true,(n:Int)+1,0)else if h2:xX at_ x .raises<=at_∨(l.length:Int)<xX at_ x .raises then(q9,false,0,9)else runO bo l o self (xX at_ x .raises).toNat (n+1) (newK o)
  |(.fails,_)=>if h2:xX at_ x .fails<=at_∨(l.length:Int)<xX at_ x .fails then(q9,false,0,9)else runO bo l o self (xX at_ x .fails).toNat (n+1) (newK o)
  |(.jumps,s')=>if h2:xX at_ x .jumps<=at_∨(l.length:Int)<xX at_ x .jumps then(q9,false,0,9)else runO bo l o self (xX at_ x .jumps).toNat (n+1) s'
  |(.next,s')=>runO bo l o self (at_+1) (n+1) s'
termination_by l.length - at_
decreasing_by
 all_goals
  have hlt:at_<l.length:=(qBn.1 h).1
  omega
theorem qd2{bo:BO}{l:List InsA}{o:Tm}{self:Int}{at_ n:Nat}{s:SK}(h:l[at_]? =none):runO bo l o self at_ n s=(q9,false,(n:Int),0):=by
 rw[runO];split
 ·rfl
 ·rename_i x hx;rw[h]at hx;cases hx
theorem qf8{bo:BO}{l:List InsA}{o:Tm}{self:Int}{at_ n:Nat}{s s':SK}{x:InsA}(h:l[at_]? =some x)(hd:vD bo o self s x=(.tells,s')):runO bo l o self at_ n s=(s'.vals.headD q9,true,(n:Int)+1,0):=by
 rw[runO];split
 ·rename_i hx;rw[h]at hx;cases hx
 ·rename_i y hx;rw[h]at hx;cases hx;rw[hd]
theorem qi4{bo:BO}{l:List InsA}{o:Tm}{self:Int}{at_ n:Nat}{s s':SK}{x:InsA}(h:l[at_]? =some x)(hd:vD bo o self s x=(.broken,s')):runO bo l o self at_ n s=(q9,false,0,9):=by
 rw[runO];split
 ·rename_i hx;rw[h]at hx;cases hx
 ·rename_i y hx;rw[h]at hx;cases hx;rw[hd]
theorem zc{bo:BO}{l:List InsA}{o:Tm}{self:Int}{at_ n:Nat}{s s':SK}{x:InsA}(h:l[at_]? =some x)(hd:vD bo o self s x=(.next,s')):runO bo l o self at_ n s=runO bo l o self (at_+1) (n+1) s':=by
 rw[runO];split
 ·rename_i hx;rw[h]at hx;cases hx
 ·rename_i y hx;rw[h]at hx;cases hx;rw[hd]
def goO(bo:BO)(l:List InsA)(o:Tm)(self:Int)(at_:Nat)(p:Int)(n:Nat)(s:SK):Tm×Bool×Int×Int:=
 if p<=at_∨(l.length:Int)<p then(q9,false,0,9)else runO bo l o self p.toNat n s
theorem qcC{bo:BO}{l:List InsA}{o:Tm}{self:Int}{at_ n:Nat}{s s':SK}{x:InsA}(h:l[at_]? =some x)(hd:vD bo o self s x=(.raises,s')):runO bo l o self at_ n s=if s'.body then(qgw,true,(n:Int)+1,0)else goO bo l o self at_ (xX at_ x .raises) (n+1) (newK o):=by
 rw[runO];split
 ·rename_i hx;rw[h]at hx;cases hx
 ·rename_i y hx;rw[h]at hx;cases hx;rw[hd];rfl
theorem qga{bo:BO}{l:List InsA}{o:Tm}{self:Int}{at_ n:Nat}{s s':SK}{x:InsA}(h:l[at_]? =some x)(hd:vD bo o self s x=(.fails,s')):runO bo l o self at_ n s=goO bo l o self at_ (xX at_ x .fails) (n+1) (newK o):=by
 rw[runO];split
 ·rename_i hx;rw[h]at hx;cases hx
 ·rename_i y hx;rw[h]at hx;cases hx;rw[hd];rfl
theorem qf9{bo:BO}{l:List InsA}{o:Tm}{self:Int}{at_ n:Nat}{s s':SK}{x:InsA}(h:l[at_]? =some x)(hd:vD bo o self s x=(.jumps,s')):runO bo l o self at_ n s=goO bo l o self at_ (xX at_ x .jumps) (n+1) s':=by
 rw[runO];split
 ·rename_i hx;rw[h]at hx;cases hx
 ·rename_i y hx;rw[h]at hx;cases hx;rw[hd];rfl
def runC(bo:BO)(l:List InsA)(o:Tm)(self:Int):Tm×Bool×Int×Int:=
 if o.kind=7∧o.chk=0∧zw self=true then runO bo l o self 0 0 (newK o)else(q9,false,0,2)
structure SOk (s:SK):Prop where
 left:∀x∈s.left,x.chk=0
 vals:∀x∈s.vals,x.chk=0
 binds:∀p∈s.binds,p.2.chk=0∧0<=p.1∧p.1<=99
theorem qrQ{o:Tm}(h:o.chk=0):SOk (newK o):=⟨λx hx=>by rw[List.mem_singleton]at hx;subst hx;exact h,λx hx=>absurd hx (by simp),λp hp=>absurd hp (by simp)⟩
theorem qbl{α β:Type}{f g:α->Option β}:∀{l:List α},(∀x∈l,f x=g x)->l.filterMap f=l.filterMap g
 |[],_=>rfl
 |x::l,h=>by
  have h1:=qbl (l:=l) λy hy=>h y (by simp[hy])
  rw[List.filterMap_cons,List.filterMap_cons,h x (by simp),h1]
theorem qoY{n:Int}{t:Tm}:∀{m:List (Int×Tm)} {p:Int×Tm},p∈putB n t m->p=(n,t)∨p∈m
 |[],p,h=>.inl (List.mem_singleton.1 h)
 |q::m,p,h=>by
  rw[putB]at h;split at h
  ·rcases qBG.1 h with rfl|h
   ·exact .inl rfl
   ·exact .inr (List.mem_cons_of_mem _ h)
  ·rcases qBG.1 h with rfl|h
   ·exact .inr List.mem_cons_self
   ·exact(qoY h).imp id (List.mem_cons_of_mem _)
def BO.Ok(bo:BO):Prop:=∀n t m p,p∈bo.put n t m->p=(n,t)∨p∈m
theorem qyj:opsK.Ok:=λ_ _ _ _ h=>qoY h
theorem qoZ{t:Tm}{s s':SK}{h:How}(hs:SOk s)(e:xN t s=(h,s')):SOk s':=by
 unfold xN at e;split at e
 ·rename_i hc;cases e;exact⟨hs.left,λx hx=>(qBG.1 hx).elim (λe=>e▸hc) (hs.vals x),hs.binds⟩
 ·cases e;exact hs
theorem SOk.pop{s:SK}(hs:SOk s){r:List Tm}(h:∀x∈r,x∈s.left):SOk { s with left:=r }:=⟨λx hx=>hs.left x (h x hx),hs.vals,hs.binds⟩
theorem SOk.popV{s:SK}(hs:SOk s){r:List Tm}(h:∀x∈r,x∈s.vals):SOk { s with vals:=r }:=⟨hs.left,λx hx=>hs.vals x (h x hx),hs.binds⟩
theorem qu6{bo:BO}(hb:bo.Ok){s s':SK}{x:InsA}{h:How}(hs:SOk s)(e:zi bo s x=(h,s')):SOk s':=by
 unfold zi at e;split at e
 ·cases e;exact hs
 ·rename_i t r hl;have ht:t.chk=0:=hs.left t (by rw[hl];simp);have h1:SOk { s with left:=r }:=hs.pop λx hx=>by rw[hl];simp[hx]
  have h2:SOk { s with left:=t.subs++r }:=⟨λx hx=>by
   rcases qBF.1 hx with hx|hx
   ·exact vA ht hx
   ·exact h1.left x hx,hs.vals,hs.binds⟩
  repeat' split at e
  all_goals cases e
  all_goals first|exact h1|exact h2|skip
  rename_i ha;refine⟨h1.left,hs.vals,λp hp=>?_⟩;rcases hb _ _ _ _ hp with rfl|hp
  ·simp only[];exact⟨ht,by omega,by omega⟩
  ·exact hs.binds p hp
theorem qxu{bo:BO}(hb:bo.Ok){o:Tm}{self:Int}{s s':SK}{x:InsA}{h:How}(hs:SOk s)(e:vD bo o self s x=(h,s')):SOk s':=by
 unfold vD at e;split at e
 ·exact qu6 hb hs e
 split at e
 ·unfold qaL at e
  repeat' split at e
  all_goals first|exact qoZ hs e|(cases e;exact hs)
 split at e
 ·unfold qca at e;have h1:SOk { s with vals:=s.vals.drop (yo x).toNat }:=hs.popV λy hy=>List.mem_of_mem_drop hy
  repeat' split at e
  all_goals first|exact qoZ h1 e|(cases e;first|exact hs|exact h1)
 split at e
 ·unfold qbg at e;split at e
  ·cases e;exact hs
  ·rename_i t r hv;have h1:SOk { s with vals:=r }:=hs.popV λy hy=>by rw[hv];simp[hy]
   repeat' split at e
   all_goals (cases e;first|exact hs|exact h1)
 split at e
 ·cases e;exact⟨hs.left,hs.vals,hs.binds⟩
 ·cases e;exact hs
theorem qjc{k last:Int}:∀{m:List (Int×Tm)},mayB last m=true->k<=last->qG k m=none
 |[],_,_=>rfl
 |p::m,h,hk=>by
  simp only[mayB,qBi,decide_eq_true_eq]at h;rw[qG,qB6 (by omega)];exact qjc h.2.2.2 (by omega)
theorem qtZ:∀(d a:Nat) (m:List (Int×Tm)),mayB ((a:Int) - 1) m=true->a+d=100->(List.range' a d).filterMap (λn:Nat=>qG (n:Int) m)=m.map (·.2):=by
 intro d
 induction d with
 |zero=>
  intro a m h hd;cases m with
  |nil=>rfl
  |cons p m=>
   simp only[mayB,qBi,decide_eq_true_eq]at h;omega
 |succ d ih=>
  intro a m h hd;rw[List.range'_succ];cases m with
  |nil=>
   rw[List.filterMap_cons_none rfl];exact ih (a+1) [] rfl (by omega)
  |cons p m=>
   have h0:=h;simp only[mayB,qBi,decide_eq_true_eq]at h
   by_cases hp:p.1=(a:Int)
   ·rw[List.filterMap_cons_some (b:=p.2) (by rw[qG,qB5 hp]),qBZ]
    congr 1
    have h1:mayB (((a+1:Nat):Int) - 1) m=true:=by
     have e:(((a+1:Nat):Int) - 1)=p.1:=by omega
     rw[e];exact h.2.2.2
    rw[←ih (a+1) m h1 (by omega)];refine qbl λn hn=>?_
    have:=(List.mem_range'_1.1 hn).1;rw[qG,qB6 (by omega)]
   ·rw[List.filterMap_cons_none (by rw[qG,qB6 hp];exact qjc h.2.2.2 (by omega))];refine ih (a+1) (p::m) ?_ (by omega);simp only[mayB,qBi,decide_eq_true_eq];exact⟨by omega,h.2⟩
theorem qrv{m:List (Int×Tm)}(h:mayB (-1) m=true):allB m=m.map (·.2):=by
 unfold allB;rw[List.range_eq_range'];exact qtZ 100 0 m (by simpa using h) (by omega)
structure Alike (s r:SK):Prop where
 left:s.left=r.left
 vals:s.vals=r.vals
 body:s.body=r.body
 binds:∀n,qG n s.binds=qG n r.binds
 may:mayB (-1) r.binds=true
theorem Alike.all{s r:SK}(h:Alike s r):allB s.binds=r.binds.map (·.2):=by
 rw[←qrv h.may];unfold allB;exact qbl λn _=>h.binds n
def qxK:Den:=evC cfg (EV cfg) 91 none 4 (sub (qg Tryz.f91) [1,1,1,0,1,0,0])
def qxR:Ex×List AV×AH->Option (AV×AH):=kAft (Cfg.keepOut cfg 91 (qk (sub (qg Tryz.f91) [1,1,1,0,1,0,0]))) (vP 1 (kSeq (fun(fr:List AV) (H:AH)=>xa (Cfg.cut cfg 91 (qk (sub (qg Tryz.f91) [1,1,1,1]))) fr H fun(fr:List AV) (H:AH)=>vh cfg (EV cfg) (kfN cfg 6) 91 none 4 (sub (qg Tryz.f91) [1,1,1,1]) fr H (qcK cfg 1 (Cfg.lift cfg 91 0) (qBM (Func.results Tryz.f91)))) (qcK cfg 1 (Cfg.lift cfg 91 0) (qBM (Func.results Tryz.f91)))))
def qxG:List AV×AH->Option (AV×AH):=fun(p:List AV×AH)=>kOpt (LOOP 4 (some [0,7,48]) [(7,4)] qxK p) qxR
abbrev qdT(nv7:Nat)(v48 c0_0 c0_1:Int)(c0_2:Bz)(c0_3:Rz)(c0_4:Int)(nc0_5 nc0_6:Nat)(c0_8:Bool)(h1 h2:Rz)(m3:List (AV×AV))(h4:Rz):Option (AV×AH):=qxG (((fx 71 [(0,.ptr 0 0 0),(7,.ms 4 0 nv7),(48,.int .i64 v48)]):List AV),([.rows false 9 [[.int .i64 c0_0,.int .i64 c0_1,.str c0_2,.sl c0_3,.int .i64 c0_4,.ms 1 0 nc0_5,.ms 2 0 nc0_6,.mp 3,.bool c0_8]],.rows true 4 h1,.rows true 4 h2,.mp true m3,.rows true 4 h4]:AH))
abbrev zt0(ko no:Int)(so:Bz)(lo:Rz)(self:Int):Option (AV×AH):=some (AV.tup [],[.rows false 9 [[AV.int .i64 ko,.int .i64 no,.str so,.sl lo,.int .i64 self,.ms 1 0 1,.ms 2 0 0,AV.mp 3,.bool false]],.rows true 4 [[AV.int .i64 ko,.int .i64 no,.str so,.sl lo]],.rows true 4 [],ABlk.mp true []])
theorem qsz(ko no self:Int)(so:Bz)(lo L V:Rz)(es:List (AV×AV))(bd:Bool){P:AV×AH->Prop}(h:Gets (zt0 ko no so lo self) P):Gets (EVj (EV cfg) 43 1 [.ptr 0 0 0] ([ABlk.rows false (9:Nat) [[AV.int qB2 ko,AV.int qB2 no,AV.str so,AV.sl lo,AV.int qB2 self,AV.ms (1:Nat) (0:Nat) (qBe L),AV.ms (2:Nat) (0:Nat) (qBe V),AV.mp (3:Nat),AV.bool bd]],ABlk.rows true (4:Nat) L,ABlk.rows true (4:Nat) V,ABlk.mp true es]:AH)) P:=
  gE (λ_=>funJ rfl rfl Tryz.func43 rfl) (by kernel_rfl) h
theorem qqE(ko no self:Int)(so:Bz)(lo:Rz){P:AV×AH->Prop}(h:Gets (zt0 ko no so lo self) P):Gets (EVj (EV cfg) 43 1 [.ptr 0 0 0] ([ABlk.rows false (9:Nat) [[AV.int qB2 ko,AV.int qB2 no,AV.str so,AV.sl lo,AV.int qB2 self,AV.ms (1:Nat) (0:Nat) (0:Nat),AV.ms (2:Nat) (0:Nat) (0:Nat),AV.nilM,AV.bool false]],ABlk.rows true (4:Nat) [],ABlk.rows true (4:Nat) []]:AH)) P:=
  gE (λ_=>funJ rfl rfl Tryz.func43 rfl) (by kernel_rfl) h
theorem qss(ko no self:Int)(so:Bz)(lo L V:Rz)(es:List (AV×AV))(bd:Bool)(kt nt:Int)(st:Bz)(lt:Rz){P:AV×AH->Prop}(h:Gets (kOpt (EVs (EV cfg) 42 [.agg [.int .i64 kt,.int .i64 nt,.str st,.sl lt]]) λv=>qu v λb=>bif ! b then some (.int .i64 3,[.rows false 9 [[AV.int .i64 ko,.int .i64 no,.str so,.sl lo,.int .i64 self,.ms 1 0 (qBe L),.ms 2 0 (qBe V),AV.mp 3,.bool bd]],.rows true 4 L,.rows true 4 V,ABlk.mp true es])else bif qBv (0+qBe V) (qBe V)&&q8 (qBe V+1) 56 then bif qh 0 (V.length:Int)&&qn (V.length:Int) (↑ (qBe V+1):Int)then kOpt (qBg (qBA (qBm (qBe V) V) [[AV.int .i64 0,.int .i64 0,.str [],.nilS]]) (0+qBj (V.length:Int))) λrow=>bif qBv 4 (qBe row)then some (.int .i64 0,[.rows false 9 [[AV.int .i64 ko,.int .i64 no,.str so,.sl lo,.int .i64 self,.ms 1 0 (qBe L),.ms 2 0 (qBe V+1),AV.mp 3,.bool bd]],.rows true 4 L,.rows true 4 (qBm (qBe V+1) (List.set (qBA (qBm (qBe V) V) [[AV.int .i64 (0:Int),.int .i64 0,.str [],.nilS]]) (0+qBj (V.length:Int)) (.int .i64 kt:: .int .i64 nt:: .str st:: .sl lt::qBU 4 row))),ABlk.mp true es])else none else none else none) P):Gets (EVj (EV cfg) 152 1 [.ptr 0 0 0,.agg [.int .i64 kt,.int .i64 nt,.str st,.sl lt]] ([ABlk.rows false (9:Nat) [[AV.int qB2 ko,AV.int qB2 no,AV.str so,AV.sl lo,AV.int qB2 self,AV.ms (1:Nat) (0:Nat) (qBe L),AV.ms (2:Nat) (0:Nat) (qBe V),AV.mp (3:Nat),AV.bool bd]],ABlk.rows true (4:Nat) L,ABlk.rows true (4:Nat) V,ABlk.mp true es]:AH)) P:=
  gE (λ_=>funJ rfl rfl Tryz.func152 rfl) (by kernel_rfl) h
abbrev zt1(ko no:Int)(so:Bz)(lo:Rz)(self:Int)(L V:Rz)(bd:Bool)(es:List (AV×AV)):Option (AV×AH):=some (.int .i64 5,[.rows false 9 [[AV.int .i64 ko,.int .i64 no,.str so,.sl lo,.int .i64 self,.ms 1 0 (qBe L),.ms 2 0 (qBe V),AV.mp 3,.bool bd]],.rows true 4 L,.rows true 4 V,ABlk.mp true es])
abbrev zt8(n_3 n n_1:Int)(s:Bz)(rows:Rz)(n_2:Int)(rs rs_1:Rz)(b:Bool)(es:List (AV×AV)):Option (AV×AH):=some (.int .i64 n_3,[.rows false 9 [[AV.int .i64 n,.int .i64 n_1,.str s,.sl rows,.int .i64 n_2,.ms 1 0 (qBe rs),.ms 2 0 (qBe rs_1),AV.mp 3,.bool b]],.rows true 4 rs,.rows true 4 rs_1,ABlk.mp true es])
abbrev zt7(q:AV×AH)(n n_1:Int)(s:Bz)(rows:Rz)(n_2:Int)(rs rs_1:Rz)(b:Bool)(es:List (AV×AV)):Option (AV×AH):=kInt .i64 q.1 λn_3=>zt8 n_3 n n_1 s rows n_2 rs rs_1 b es
abbrev zt6(rest:Rz)(bs:AH)(row:List AV)(q:AV×AH):Option (AV×AH):=qX rest (qf bs λb bs=>qj b λd' n rs=>bif beqB true d'&&qBh n 4 then qf bs λb bs=>qj b λd' n rs_1=>bif beqB true d'&&qBh n 4 then qf bs λb bs=>kMpB b λd' es=>bif beqB true d' then qT bs (qa row λc cs=>kInt .i64 c λn=>qa cs λc cs=>kInt .i64 c λn_1=>qa cs λc cs=>kStr c λs=>qa cs λc cs=>kSl c λrows=>qa cs λc cs=>kInt .i64 c λn_2=>qa cs λc cs=>kMsE c λid off len=>bif qBh id 1&&(qBh off 0&&qBh len (qBe rs))then qa cs λc cs=>kMsE c λid off len=>bif qBh id 2&&(qBh off 0&&qBh len (qBe rs_1))then qa cs λc cs=>kMpE c λid=>bif qBh id 3 then qa cs λc cs=>qu c λb=>kNil cs (zt7 q n n_1 s rows n_2 rs rs_1 b es)else none else none else none)else none else none else none)
abbrev zt5(rs:Rz)(bs:AH)(q:AV×AH):Option (AV×AH):=qN rs λrow rest=>zt6 rest bs row q
abbrev zt4(d':Bool)(n:Nat)(rs:Rz)(bs:AH)(q:AV×AH):Option (AV×AH):=bif beqB false d'&&qBh n 9 then zt5 rs bs q else none
abbrev zt3(b:ABlk)(bs:AH)(q:AV×AH):Option (AV×AH):=qj b λd' n rs=>zt4 d' n rs bs q
abbrev zt2(q:AV×AH):Option (AV×AH):=qf q.2 λb bs=>zt3 b bs q
theorem qsx(ko no self:Int)(so:Bz)(lo L V:Rz)(es:List (AV×AV))(bd:Bool)(o a b k n:Int)(w:Bz)(l:Rz){P:AV×AH->Prop}(h:Gets (bif o==7 then kOpt (EVs (EV cfg) 42 [.agg [.int .i64 k,.int .i64 n,.str w,.sl l]]) λv=>qu v λb=>bif ! b then zt1 ko no so lo self L V bd es else kOpt (EVj (EV cfg) 152 1 [.ptr 0 0 0,.agg [.int .i64 k,.int .i64 n,.str w,.sl l]] [.rows false 9 [[AV.int .i64 ko,.int .i64 no,.str so,.sl lo,.int .i64 self,.ms 1 0 (qBe L),.ms 2 0 (qBe V),AV.mp 3,.bool bd]],.rows true 4 (qBm (qBe L) L),.rows true 4 (qBm (qBe V) V),ABlk.mp true es]) λq=>zt2 q else bif o==9 then kOpt (EVj (EV cfg) 152 1 [.ptr 0 0 0,.agg [.int .i64 ko,.int .i64 no,.str so,.sl lo]] [.rows false 9 [[AV.int .i64 ko,.int .i64 no,.str so,.sl lo,.int .i64 self,.ms 1 0 (qBe L),.ms 2 0 (qBe V),AV.mp 3,.bool bd]],.rows true 4 (qBm (qBe L) L),.rows true 4 (qBm (qBe V) V),ABlk.mp true es]) λq=>zt2 q else bif o==8 then kOpt (vw (TD.int .i64) (.int .i64 a) es 0) λr=>ye r (some (.int .i64 5,[.rows false 9 [[AV.int .i64 ko,.int .i64 no,.str so,.sl lo,.int .i64 self,.ms 1 0 (qBe L),.ms 2 0 (qBe V),AV.mp 3,.bool bd]],.rows true 4 L,.rows true 4 V,ABlk.mp true es])) λx v=>kTmV v λn n_1 s rows=>(kOpt (EVj (EV cfg) 152 1 [.ptr 0 0 0,.agg [.int .i64 n,.int .i64 n_1,.str s,.sl rows]] [.rows false 9 [[AV.int .i64 ko,.int .i64 no,.str so,.sl lo,.int .i64 self,.ms 1 0 (qBe L),.ms 2 0 (qBe V),AV.mp 3,.bool bd]],.rows true 4 (qBm (qBe L) L),.rows true 4 (qBm (qBe V) V),ABlk.mp true es]) λq=>qf q.2 λb bs=>qj b λd' n rs=>bif beqB false d'&&qBh n 9 then qN rs λrow rest=>qX rest (qf bs λb bs=>qj b λd' n rs=>bif beqB true d'&&qBh n 4 then qf bs λb bs=>qj b λd' n rs_1=>bif beqB true d'&&qBh n 4 then qf bs λb bs=>kMpB b λd' es=>bif beqB true d' then qT bs (qa row λc cs=>kInt .i64 c λn=>qa cs λc cs=>kInt .i64 c λn_2=>qa cs λc cs=>kStr c λs=>qa cs λc cs=>kSl c λrows=>qa cs λc cs=>kInt .i64 c λn_3=>qa cs λc cs=>kMsE c λid off len=>bif qBh id 1&&(qBh off 0&&qBh len (qBe rs))then qa cs λc cs=>kMsE c λid off len=>bif qBh id 2&&(qBh off 0&&qBh len (qBe rs_1))then qa cs λc cs=>kMpE c λid=>bif qBh id 3 then qa cs λc cs=>qu c λb=>kNil cs (zt7 q n n_2 s rows n_3 rs rs_1 b es)else none else none else none)else none else none else none)else none)else qdT 0 0 ko no so lo self (qBe L) (qBe V) bd L V es []) P):Gets (EVj (EV cfg) 91 1 [.ptr 0 0 0,.agg [.int .i64 o,.int .i64 a,.int .i64 b,.int .i64 k,.int .i64 n,.str w,.sl l]] ([ABlk.rows false (9:Nat) [[AV.int qB2 ko,AV.int qB2 no,AV.str so,AV.sl lo,AV.int qB2 self,AV.ms (1:Nat) (0:Nat) (qBe L),AV.ms (2:Nat) (0:Nat) (qBe V),AV.mp (3:Nat),AV.bool bd]],ABlk.rows true (4:Nat) L,ABlk.rows true (4:Nat) V,ABlk.mp true es]:AH)) P:=
  gE (λ_=>funJ rfl rfl Tryz.func91 rfl) (by kernel_rfl) h
theorem qsw(ko no self:Int)(so:Bz)(lo L V:Rz)(es:List (AV×AV))(bd:Bool)(o a b k n:Int)(w:Bz)(l:Rz){P:AV×AH->Prop}(h:Gets (bif(V.length:Int)==0 then zt1 ko no so lo self L V bd es else bif qh 0 (qBf .i64 ((V.length:Int) - 1))&&qn (qBf .i64 ((V.length:Int) - 1)) (V.length:Int)then kOpt (qBg V (0+qBj (qBf .i64 ((V.length:Int) - (1:Int))))) λrow=>bif qBv 4 (qBe row)then kTmC (qBm 4 row) λn n_1 s rows=>(bif n==2 then bif s==[(116:UInt8),(114:UInt8),(117:UInt8),(101:UInt8)]then bif o==20 then some (.int .i64 4,[.rows false 9 [[AV.int .i64 ko,.int .i64 no,.str so,.sl lo,.int .i64 self,.ms 1 0 (qBe L),.ms 2 0 (qBe V),AV.mp 3,.bool bd]],.rows true 4 L,.rows true 4 V,ABlk.mp true es])else bif o==19 then bif qh 0 (qBf .i64 ((V.length:Int) - 1))&&qh (qBf .i64 ((V.length:Int) - 1)) (V.length:Int)then some (.int .i64 0,[.rows false 9 [[AV.int .i64 ko,.int .i64 no,.str so,.sl lo,.int .i64 self,.ms 1 0 (qBe L),.ms 2 0 (qBj (qBf .i64 ((V.length:Int) - (1:Int))) - 0),AV.mp 3,.bool bd]],.rows true 4 L,.rows true 4 (qBm (qBj (qBf .i64 ((V.length:Int) - 1)) - 0) V),ABlk.mp true es])else none else bif o==14 then bif qh 0 (qBf .i64 ((V.length:Int) - 1))&&qh (qBf .i64 ((V.length:Int) - 1)) (↑ (qBe V):Int)then bif s==[(116:UInt8),(114:UInt8),(117:UInt8),(101:UInt8)]then some (.int .i64 0,[.rows false 9 [[AV.int .i64 ko,.int .i64 no,.str so,.sl lo,.int .i64 self,.ms 1 0 (qBe L),.ms 2 0 (qBj (qBf .i64 ((V.length:Int) - 1)) - 0),AV.mp 3,.bool bd]],.rows true 4 L,.rows true 4 (qBm (qBj (qBf .i64 ((V.length:Int) - 1)) - 0) V),ABlk.mp true es])else some (.int .i64 1,[.rows false 9 [[AV.int .i64 ko,.int .i64 no,.str so,.sl lo,.int .i64 self,.ms 1 0 (qBe L),.ms 2 0 (qBj (qBf .i64 ((V.length:Int) - 1)) - 0),AV.mp 3,.bool bd]],.rows true 4 L,.rows true 4 (qBm (qBj (qBf .i64 ((V.length:Int) - 1)) - 0) V),ABlk.mp true es])else none else bif o==17 then some (.int .i64 0,[.rows false 9 [[AV.int .i64 ko,.int .i64 no,.str so,.sl lo,.int .i64 self,.ms 1 0 (qBe L),.ms 2 0 (qBe V),AV.mp 3,.bool bd]],.rows true 4 L,.rows true 4 V,ABlk.mp true es])else bif ! (s==[(116:UInt8),(114:UInt8),(117:UInt8),(101:UInt8)])==(o==15)then some (.int .i64 2,[.rows false 9 [[AV.int .i64 ko,.int .i64 no,.str so,.sl lo,.int .i64 self,.ms 1 0 (qBe L),.ms 2 0 (qBe V),AV.mp 3,.bool bd]],.rows true 4 L,.rows true 4 V,ABlk.mp true es])else bif qh 0 (qBf .i64 ((V.length:Int) - 1))&&qh (qBf .i64 ((V.length:Int) - 1)) (V.length:Int)then some (.int .i64 0,[.rows false 9 [[AV.int .i64 ko,.int .i64 no,.str so,.sl lo,.int .i64 self,.ms 1 0 (qBe L),.ms 2 0 (qBj (qBf .i64 ((V.length:Int) - 1)) - 0),AV.mp 3,.bool bd]],.rows true 4 L,.rows true 4 (qBm (qBj (qBf .i64 ((V.length:Int) - 1)) - 0) V),ABlk.mp true es])else none else bif o==20 then some (.int .i64 4,[.rows false 9 [[AV.int .i64 ko,.int .i64 no,.str so,.sl lo,.int .i64 self,.ms 1 0 (qBe L),.ms 2 0 (qBe V),AV.mp 3,.bool bd]],.rows true 4 L,.rows true 4 V,ABlk.mp true es])else bif o==19 then bif qh 0 (qBf .i64 ((V.length:Int) - 1))&&qh (qBf .i64 ((V.length:Int) - 1)) (V.length:Int)then some (.int .i64 0,[.rows false 9 [[AV.int .i64 ko,.int .i64 no,.str so,.sl lo,.int .i64 self,.ms 1 0 (qBe L),.ms 2 0 (qBj (qBf .i64 ((V.length:Int) - 1)) - 0),AV.mp 3,.bool bd]],.rows true 4 L,.rows true 4 (qBm (qBj (qBf .i64 ((V.length:Int) - 1)) - 0) V),ABlk.mp true es])else none else bif o==14 then bif qh 0 (qBf .i64 ((↑ (qBe V):Int) - 1))&&qh (qBf .i64 ((V.length:Int) - 1)) (V.length:Int)then bif s==[(102:UInt8),(97:UInt8),(108:UInt8),(115:UInt8),(101:UInt8)]then bif s==[(116:UInt8),(114:UInt8),(117:UInt8),(101:UInt8)]then some (.int .i64 0,[.rows false 9 [[AV.int .i64 ko,.int .i64 no,.str so,.sl lo,.int .i64 self,.ms 1 0 (qBe L),.ms 2 0 (qBj (qBf .i64 ((V.length:Int) - 1)) - 0),AV.mp 3,.bool bd]],.rows true 4 L,.rows true 4 (qBm (qBj (qBf .i64 ((V.length:Int) - 1)) - 0) V),ABlk.mp true es])else some (.int .i64 1,[.rows false 9 [[AV.int .i64 ko,.int .i64 no,.str so,.sl lo,.int .i64 self,.ms 1 0 (qBe L),.ms 2 0 (qBj (qBf .i64 ((V.length:Int) - 1)) - 0),AV.mp 3,.bool bd]],.rows true 4 L,.rows true 4 (qBm (qBj (qBf .i64 ((V.length:Int) - 1)) - 0) V),ABlk.mp true es])else some (.int .i64 1,[.rows false 9 [[AV.int .i64 ko,.int .i64 no,.str so,.sl lo,.int .i64 self,.ms 1 0 (qBe L),.ms 2 0 (qBj (qBf .i64 ((V.length:Int) - 1)) - 0),AV.mp 3,.bool bd]],.rows true 4 L,.rows true 4 (qBm (qBj (qBf .i64 ((V.length:Int) - 1)) - 0) V),ABlk.mp true es])else none else bif ! s==[(102:UInt8),(97:UInt8),(108:UInt8),(115:UInt8),(101:UInt8)]then some (.int .i64 3,[.rows false 9 [[AV.int .i64 ko,.int .i64 no,.str so,.sl lo,.int .i64 self,.ms 1 0 (qBe L),.ms 2 0 (qBe V),AV.mp 3,.bool bd]],.rows true 4 L,.rows true 4 V,ABlk.mp true es])else bif o==17 then some (.int .i64 0,[.rows false 9 [[AV.int .i64 ko,.int .i64 no,.str so,.sl lo,.int .i64 self,.ms 1 0 (qBe L),.ms 2 0 (qBe V),AV.mp 3,.bool bd]],.rows true 4 L,.rows true 4 V,ABlk.mp true es])else bif ! (s==[(116:UInt8),(114:UInt8),(117:UInt8),(101:UInt8)])==(o==15)then some (.int .i64 2,[.rows false 9 [[AV.int .i64 ko,.int .i64 no,.str so,.sl lo,.int .i64 self,.ms 1 0 (qBe L),.ms 2 0 (qBe V),AV.mp 3,.bool bd]],.rows true 4 L,.rows true 4 V,ABlk.mp true es])else bif qh 0 (qBf .i64 ((↑ (qBe V):Int) - 1))&&qh (qBf .i64 ((V.length:Int) - 1)) (V.length:Int)then some (.int .i64 0,[.rows false 9 [[AV.int .i64 ko,.int .i64 no,.str so,.sl lo,.int .i64 self,.ms 1 0 (qBe L),.ms 2 0 (qBj (qBf .i64 ((V.length:Int) - 1)) - 0),AV.mp 3,.bool bd]],.rows true 4 L,.rows true 4 (qBm (qBj (qBf .i64 ((V.length:Int) - 1)) - 0) V),ABlk.mp true es])else none else bif o==20 then some (.int .i64 4,[.rows false 9 [[AV.int .i64 ko,.int .i64 no,.str so,.sl lo,.int .i64 self,.ms 1 0 (qBe L),.ms 2 0 (qBe V),AV.mp 3,.bool bd]],.rows true 4 L,.rows true 4 V,ABlk.mp true es])else bif o==19 then bif qh 0 (qBf .i64 ((V.length:Int) - 1))&&qh (qBf .i64 ((↑ (qBe V):Int) - 1)) (V.length:Int)then some (.int .i64 0,[.rows false 9 [[AV.int .i64 ko,.int .i64 no,.str so,.sl lo,.int .i64 self,.ms 1 0 (qBe L),.ms 2 0 (qBj (qBf .i64 ((V.length:Int) - 1)) - 0),AV.mp 3,.bool bd]],.rows true 4 L,.rows true 4 (qBm (qBj (qBf .i64 ((↑ (qBe V):Int) - 1)) - 0) V),ABlk.mp true es])else none else bif o==14 then bif qh 0 (qBf .i64 ((V.length:Int) - 1))&&qh (qBf .i64 ((V.length:Int) - 1)) (V.length:Int)then some (.int .i64 1,[.rows false 9 [[AV.int .i64 ko,.int .i64 no,.str so,.sl lo,.int .i64 self,.ms 1 0 (qBe L),.ms 2 0 (qBj (qBf .i64 ((V.length:Int) - 1)) - 0),AV.mp 3,.bool bd]],.rows true 4 L,.rows true 4 (qBm (qBj (qBf .i64 ((V.length:Int) - 1)) - 0) V),ABlk.mp true es])else none else some (.int .i64 3,[.rows false 9 [[AV.int .i64 ko,.int .i64 no,.str so,.sl lo,.int .i64 self,.ms 1 0 (qBe L),.ms 2 0 (qBe V),AV.mp 3,.bool bd]],.rows true 4 L,.rows true 4 V,ABlk.mp true es]))else none else none) P):Gets (EVj (EV cfg) 93 1 [.ptr 0 0 0,.agg [.int .i64 o,.int .i64 a,.int .i64 b,.int .i64 k,.int .i64 n,.str w,.sl l]] ([ABlk.rows false (9:Nat) [[AV.int qB2 ko,AV.int qB2 no,AV.str so,AV.sl lo,AV.int qB2 self,AV.ms (1:Nat) (0:Nat) (qBe L),AV.ms (2:Nat) (0:Nat) (qBe V),AV.mp (3:Nat),AV.bool bd]],ABlk.rows true (4:Nat) L,ABlk.rows true (4:Nat) V,ABlk.mp true es]:AH)) P:=
  gE (λ_=>funJ rfl rfl Tryz.func93 rfl) (by kernel_rfl) h
abbrev zt9(o a b k n:Int)(w:Bz)(l:Rz)(ko no:Int)(so:Bz)(lo:Rz)(self:Int)(L V:Rz)(bd:Bool)(es:List (AV×AV)):Option (AV×AH):=kOpt (EVj (EV cfg) 90 1 [.ptr 0 0 0,.agg [.int .i64 o,.int .i64 a,.int .i64 b,.int .i64 k,.int .i64 n,.str w,.sl l]] [.rows false 9 [[AV.int .i64 ko,.int .i64 no,.str so,.sl lo,.int .i64 self,.ms 1 0 (qBe L),.ms 2 0 (qBe V),AV.mp 3,.bool bd]],.rows true 4 (qBm (qBe L) L),.rows true 4 (qBm (qBe V) V),ABlk.mp true es]) λq=>zt2 q
abbrev zt10(o a b k n:Int)(w:Bz)(l:Rz)(ko no:Int)(so:Bz)(lo:Rz)(self:Int)(L V:Rz)(bd:Bool)(es:List (AV×AV)):Option (AV×AH):=kOpt (EVj (EV cfg) 91 1 [.ptr 0 0 0,.agg [.int .i64 o,.int .i64 a,.int .i64 b,.int .i64 k,.int .i64 n,.str w,.sl l]] [.rows false 9 [[AV.int .i64 ko,.int .i64 no,.str so,.sl lo,.int .i64 self,.ms 1 0 (qBe L),.ms 2 0 (qBe V),AV.mp 3,.bool bd]],.rows true 4 (qBm (qBe L) L),.rows true 4 (qBm (qBe V) V),ABlk.mp true es]) λq=>zt2 q
abbrev zt11(o a b k n:Int)(w:Bz)(l:Rz)(ko no:Int)(so:Bz)(lo:Rz)(self:Int)(L V:Rz)(bd:Bool)(es:List (AV×AV)):Option (AV×AH):=kOpt (EVj (EV cfg) 92 1 [.ptr 0 0 0,.agg [.int .i64 o,.int .i64 a,.int .i64 b,.int .i64 k,.int .i64 n,.str w,.sl l]] [.rows false 9 [[AV.int .i64 ko,.int .i64 no,.str so,.sl lo,.int .i64 self,.ms 1 0 (qBe L),.ms 2 0 (qBe V),AV.mp 3,.bool bd]],.rows true 4 (qBm (qBe L) L),.rows true 4 (qBm (qBe V) V),ABlk.mp true es]) λq=>zt2 q
abbrev zt12(o a b k n:Int)(w:Bz)(l:Rz)(ko no:Int)(so:Bz)(lo:Rz)(self:Int)(L V:Rz)(bd:Bool)(es:List (AV×AV)):Option (AV×AH):=kOpt (EVj (EV cfg) 93 1 [.ptr 0 0 0,.agg [.int .i64 o,.int .i64 a,.int .i64 b,.int .i64 k,.int .i64 n,.str w,.sl l]] [.rows false 9 [[AV.int .i64 ko,.int .i64 no,.str so,.sl lo,.int .i64 self,.ms 1 0 (qBe L),.ms 2 0 (qBe V),AV.mp 3,.bool bd]],.rows true 4 (qBm (qBe L) L),.rows true 4 (qBm (qBe V) V),ABlk.mp true es]) λq=>zt2 q
theorem qsy(ko no self:Int)(so:Bz)(lo L V:Rz)(es:List (AV×AV))(bd:Bool)(o a b k n:Int)(w:Bz)(l:Rz){P:AV×AH->Prop}(h:Gets (bif o==1 then zt9 o a b k n w l ko no so lo self L V bd es else bif o==2 then zt9 o a b k n w l ko no so lo self L V bd es else bif o==3 then zt9 o a b k n w l ko no so lo self L V bd es else bif o==4 then zt9 o a b k n w l ko no so lo self L V bd es else bif o==5 then zt9 o a b k n w l ko no so lo self L V bd es else bif o==6 then zt9 o a b k n w l ko no so lo self L V bd es else bif o==7 then zt10 o a b k n w l ko no so lo self L V bd es else bif o==8 then zt10 o a b k n w l ko no so lo self L V bd es else bif o==9 then zt10 o a b k n w l ko no so lo self L V bd es else bif o==10 then zt10 o a b k n w l ko no so lo self L V bd es else bif o==11 then zt11 o a b k n w l ko no so lo self L V bd es else bif o==12 then zt11 o a b k n w l ko no so lo self L V bd es else bif o==13 then zt11 o a b k n w l ko no so lo self L V bd es else bif o==14 then zt12 o a b k n w l ko no so lo self L V bd es else bif o==15 then zt12 o a b k n w l ko no so lo self L V bd es else bif o==16 then zt12 o a b k n w l ko no so lo self L V bd es else bif o==17 then zt12 o a b k n w l ko no so lo self L V bd es else bif o==19 then zt12 o a b k n w l ko no so lo self L V bd es else bif o==20 then zt12 o a b k n w l ko no so lo self L V bd es else bif o==18 then some (.int .i64 0,[.rows false 9 [[AV.int .i64 ko,.int .i64 no,.str so,.sl lo,.int .i64 self,.ms 1 0 (qBe L),.ms 2 0 (qBe V),AV.mp 3,.bool true]],.rows true 4 L,.rows true 4 V,ABlk.mp true es])else zt1 ko no so lo self L V bd es) P):Gets (EVj (EV cfg) 44 1 [.ptr 0 0 0,.agg [.int .i64 o,.int .i64 a,.int .i64 b,.int .i64 k,.int .i64 n,.str w,.sl l]] ([ABlk.rows false (9:Nat) [[AV.int qB2 ko,AV.int qB2 no,AV.str so,AV.sl lo,AV.int qB2 self,AV.ms (1:Nat) (0:Nat) (qBe L),AV.ms (2:Nat) (0:Nat) (qBe V),AV.mp (3:Nat),AV.bool bd]],ABlk.rows true (4:Nat) L,ABlk.rows true (4:Nat) V,ABlk.mp true es]:AH)) P:=
  gE (λ_=>funJ rfl rfl Tryz.func44 rfl) (by kernel_rfl) h
theorem qgE(nv7:Nat)(v48 c0_0 c0_1:Int)(c0_2:Bz)(c0_3:Rz)(c0_4:Int)(nc0_5 nc0_6:Nat)(c0_8:Bool)(h1 h2:Rz)(m3:List (AV×AV))(h4:Rz){P:AV×AH->Prop}(h:Gets (bif decide (v48<100)then kOpt (vw (TD.int .i64) (.int .i64 v48) m3 0) λr=>ye r (qdT nv7 (qBf .i64 (v48+1)) c0_0 c0_1 c0_2 c0_3 c0_4 nc0_5 nc0_6 c0_8 h1 h2 m3 h4) λx v=>kTmV v λn n_1 s rows=>(bif qBv (0+nv7) (qBe h4)&&q8 (nv7+1) 56 then qdT (nv7+1) (qBf .i64 (v48+1)) c0_0 c0_1 c0_2 c0_3 c0_4 nc0_5 nc0_6 c0_8 h1 h2 m3 (qBA (qBm nv7 h4) [[AV.int .i64 n,.int .i64 n_1,.str s,.sl rows]])else none)else bif qBv (0+nv7) (qBe h4)&&true then kOpt (EVf (EV cfg) 153 [.sl (qBm nv7 h4),.agg [.int .i64 8,.int .i64 0,.str [],.sl []]]) λv=>kTmV v λn n_1 s rows=>(kOpt (EVj (EV cfg) 152 1 [.ptr 0 0 0,.agg [.int .i64 n,.int .i64 n_1,.str s,.sl rows]] [.rows false 9 [[AV.int .i64 c0_0,.int .i64 c0_1,.str c0_2,.sl c0_3,.int .i64 c0_4,.ms 1 0 nc0_5,.ms 2 0 nc0_6,AV.mp 3,.bool c0_8]],.rows true 4 (qBm nc0_5 h1),.rows true 4 (qBm nc0_6 h2),ABlk.mp true m3]) λq=>qf q.2 λb bs=>qj b λd' n rs=>bif beqB false d'&&qBh n 9 then qN rs λrow rest=>qX rest (qf bs λb bs=>qj b λd' n rs=>bif beqB true d'&&qBh n 4 then qf bs λb bs=>qj b λd' n rs_1=>bif beqB true d'&&qBh n 4 then qf bs λb bs=>kMpB b λd' es=>bif beqB true d' then qT bs (qa row λc cs=>kInt .i64 c λn=>qa cs λc cs=>kInt .i64 c λn_2=>qa cs λc cs=>kStr c λs=>qa cs λc cs=>kSl c λrows=>qa cs λc cs=>kInt .i64 c λn_3=>qa cs λc cs=>kMsE c λid off len=>bif qBh id 1&&(qBh off 0&&qBh len (qBe rs))then qa cs λc cs=>kMsE c λid off len=>bif qBh id 2&&(qBh off 0&&qBh len (qBe rs_1))then qa cs λc cs=>kMpE c λid=>bif qBh id 3 then qa cs λc cs=>qu c λb=>kNil cs (zt7 q n n_2 s rows n_3 rs rs_1 b es)else none else none else none)else none else none else none)else none)else none) P):Gets (qdT nv7 v48 c0_0 c0_1 c0_2 c0_3 c0_4 nc0_5 nc0_6 c0_8 h1 h2 m3 h4) P:=
  gE (λ_=>qB (cfg:=cfg) (f:=91) (rd:=none) (bs:=4)) (by kernel_rfl) h
abbrev zu0(ko no:Int)(so:Bz)(lo:Rz)(self:Int)(L V:Rz)(bd:Bool)(es:List (AV×AV)):Option (AV×AH):=some (.int .i64 5,[.rows false 9 [[AV.int .i64 ko,.int .i64 no,.str so,.sl lo,.int .i64 self,.ms 1 0 (qBe L),.ms 2 0 (qBe V),AV.mp 3,.bool bd]],.rows true 4 L,.rows true 4 V,ABlk.mp true es])
abbrev zu2(n_3 n n_1:Int)(s:Bz)(rows:Rz)(n_2:Int)(rs rs_1:Rz)(b:Bool)(es:List (AV×AV)):Option (AV×AH):=some (.int .i64 n_3,[.rows false 9 [[AV.int .i64 n,.int .i64 n_1,.str s,.sl rows,.int .i64 n_2,.ms 1 0 (qBe rs),.ms 2 0 (qBe rs_1),AV.mp 3,.bool b]],.rows true 4 rs,.rows true 4 (qBm (qBe rs_1) rs_1),ABlk.mp true es])
abbrev zu1(q:AV×AH)(n n_1:Int)(s:Bz)(rows:Rz)(n_2:Int)(rs rs_1:Rz)(b:Bool)(es:List (AV×AV)):Option (AV×AH):=kInt .i64 q.1 λn_3=>zu2 n_3 n n_1 s rows n_2 rs rs_1 b es
abbrev zu7(rest:Rz)(bs:AH)(row:List AV)(q:AV×AH):Option (AV×AH):=qX rest (qf bs λb bs=>qj b λd' n rs=>bif beqB true d'&&qBh n 4 then qf bs λb bs=>qj b λd' n rs_1=>bif beqB true d'&&qBh n 4 then qf bs λb bs=>kMpB b λd' es=>bif beqB true d' then qT bs (qa row λc cs=>kInt .i64 c λn=>qa cs λc cs=>kInt .i64 c λn_3=>qa cs λc cs=>kStr c λs=>qa cs λc cs=>kSl c λrows=>qa cs λc cs=>kInt .i64 c λn_4=>qa cs λc cs=>kMsE c λid off len=>bif qBh id 1&&(qBh off 0&&qBh len (qBe rs))then qa cs λc cs=>kMsE c λid off len=>bif qBh id 2&&(qBh off 0&&qBh len (qBe rs_1))then qa cs λc cs=>kMpE c λid=>bif qBh id 3 then qa cs λc cs=>qu c λb=>kNil cs (zu1 q n n_3 s rows n_4 rs rs_1 b es)else none else none else none)else none else none else none)
abbrev zu6(rs:Rz)(bs:AH)(q:AV×AH):Option (AV×AH):=qN rs λrow rest=>zu7 rest bs row q
abbrev zu5(d':Bool)(n:Nat)(rs:Rz)(bs:AH)(q:AV×AH):Option (AV×AH):=bif beqB false d'&&qBh n 9 then zu6 rs bs q else none
abbrev zu4(b:ABlk)(bs:AH)(q:AV×AH):Option (AV×AH):=qj b λd' n rs=>zu5 d' n rs bs q
abbrev zu3(q:AV×AH):Option (AV×AH):=qf q.2 λb bs=>zu4 b bs q
abbrev zu8(n n_1:Int)(s:Bz)(rows:Rz)(ko no:Int)(so:Bz)(lo:Rz)(self:Int)(L V:Rz)(bd:Bool)(rs:Rz)(es:List (AV×AV)):Option (AV×AH):=kOpt (EVj (EV cfg) 152 1 [.ptr 0 0 0,.agg [.int .i64 n,.int .i64 n_1,.str s,.sl rows]] [.rows false 9 [[AV.int .i64 ko,.int .i64 no,.str so,.sl lo,.int .i64 self,.ms 1 0 (qBe L),.ms 2 0 (qBj (qBf .i64 ((V.length:Int) - 2)) - 0),AV.mp 3,.bool bd]],.rows true 4 (qBm (qBe L) L),.rows true 4 (qBm (qBj (qBf .i64 ((V.length:Int) - 2)) - 0) rs),ABlk.mp true es]) λq=>zu3 q
theorem qsv(ko no self:Int)(so:Bz)(lo L V:Rz)(es:List (AV×AV))(bd:Bool)(o a b k n:Int)(w:Bz)(l:Rz){P:AV×AH->Prop}(h:Gets (bif o==12 then bif decide (2>(V.length:Int))then zu0 ko no so lo self L V bd es else bif o==13 then bif k != 2 then zu0 ko no so lo self L V bd es else kOpt (EVs (EV cfg) 42 [.agg [.int .i64 k,.int .i64 n,.str w,.sl l]]) λv=>qu v λb_1=>bif ! b_1 then zu0 ko no so lo self L V bd es else bif qh 0 (qBf .i64 ((V.length:Int) - 2))&&qh (qBf .i64 ((V.length:Int) - 2)) (↑ (qBe V):Int)then qcI (qBe V - qBj (qBf .i64 ((V.length:Int) - 2))) (kOpt (EVj (EV cfg) 154 0 [.nilS] []) λq=>qT q.2 (kSl q.1 λrows=>kOpt (EVj (EV cfg) 154 0 [AV.em] []) λq=>qT q.2 (kSl q.1 λrows_1=>kEqR (AV.sl rows,[.rows false 9 [[AV.int .i64 ko,.int .i64 no,.str so,.sl lo,.int .i64 self,.ms 1 0 (qBe L),.ms 2 0 (qBe V),AV.mp 3,.bool bd]],.rows true 4 L,.rows true 4 V,ABlk.mp true es,.rows false 7 [[AV.int .i64 o,.int .i64 a,.int .i64 b,.int .i64 k,.int .i64 n,.str w,.sl l]],ABlk.res,ABlk.res,ABlk.res,ABlk.res]) (AV.sl rows_1,[.rows false 9 [[AV.int .i64 ko,.int .i64 no,.str so,.sl lo,.int .i64 self,.ms 1 0 (qBe L),.ms 2 0 (qBe V),AV.mp 3,.bool bd]],.rows true 4 L,.rows true 4 V,ABlk.mp true es,.rows false 7 [[AV.int .i64 o,.int .i64 a,.int .i64 b,.int .i64 k,.int .i64 n,.str w,.sl l]],ABlk.res,ABlk.res,ABlk.res,ABlk.res]) (bif qh 0 (qBf .i64 ((V.length:Int) - 2))&&qh (qBf .i64 ((V.length:Int) - 2)) (V.length:Int)then bif o==11 then kOpt (EVj (EV cfg) 152 1 [.ptr 0 0 0,.agg [.int .i64 7,.int .i64 0,.str [],.sl rows]] [.rows false 9 [[AV.int .i64 ko,.int .i64 no,.str so,.sl lo,.int .i64 self,.ms 1 0 (qBe L),.ms 2 0 (qBj (qBf .i64 ((V.length:Int) - 2)) - 0),AV.mp 3,.bool bd]],.rows true 4 (qBm (qBe L) L),.rows true 4 (qBm (qBj (qBf .i64 ((↑ (qBe V):Int) - 2)) - 0) V),ABlk.mp true es]) λq=>qf q.2 λb bs=>qj b λd' n rs=>bif beqB false d'&&qBh n 9 then qN rs λrow rest=>qX rest (qf bs λb bs=>qj b λd' n rs=>bif beqB true d'&&qBh n 4 then qf bs λb bs=>qj b λd' n rs_1=>bif beqB true d'&&qBh n 4 then qf bs λb bs=>kMpB b λd' es=>bif beqB true d' then qT bs (qa row λc cs=>kInt .i64 c λn=>qa cs λc cs=>kInt .i64 c λn_1=>qa cs λc cs=>kStr c λs=>qa cs λc cs=>kSl c λrows=>qa cs λc cs=>kInt .i64 c λn_2=>qa cs λc cs=>kMsE c λid off len=>bif qBh id 1&&(qBh off 0&&qBh len (qBe rs))then qa cs λc cs=>kMsE c λid off len=>bif qBh id 2&&(qBh off 0&&qBh len (qBe rs_1))then qa cs λc cs=>kMpE c λid=>bif qBh id 3 then qa cs λc cs=>qu c λb=>kNil cs (zu1 q n n_1 s rows n_2 rs rs_1 b es)else none else none else none)else none else none else none)else none else bif o==12 then kOpt (EVj (EV cfg) 152 1 [.ptr 0 0 0,.agg [.int .i64 9,.int .i64 0,.str [],.sl rows]] [.rows false 9 [[AV.int .i64 ko,.int .i64 no,.str so,.sl lo,.int .i64 self,.ms 1 0 (qBe L),.ms 2 0 (qBj (qBf .i64 ((V.length:Int) - 2)) - 0),AV.mp 3,.bool bd]],.rows true 4 (qBm (qBe L) L),.rows true 4 (qBm (qBj (qBf .i64 ((V.length:Int) - 2)) - 0) V),ABlk.mp true es]) λq=>qf q.2 λb bs=>qj b λd' n rs=>bif beqB false d'&&qBh n 9 then qN rs λrow rest=>qX rest (qf bs λb bs=>qj b λd' n rs=>bif beqB true d'&&qBh n 4 then qf bs λb bs=>qj b λd' n rs_1=>bif beqB true d'&&qBh n 4 then qf bs λb bs=>kMpB b λd' es=>bif beqB true d' then qT bs (qa row λc cs=>kInt .i64 c λn=>qa cs λc cs=>kInt .i64 c λn_1=>qa cs λc cs=>kStr c λs=>qa cs λc cs=>kSl c λrows=>qa cs λc cs=>kInt .i64 c λn_2=>qa cs λc cs=>kMsE c λid off len=>bif qBh id 1&&(qBh off 0&&qBh len (qBe rs))then qa cs λc cs=>kMsE c λid off len=>bif qBh id 2&&(qBh off 0&&qBh len (qBe rs_1))then qa cs λc cs=>kMpE c λid=>bif qBh id 3 then qa cs λc cs=>qu c λb=>kNil cs (zu1 q n n_1 s rows n_2 rs rs_1 b es)else none else none else none)else none else none else none)else none else kOpt (EVf (EV cfg) 155 [.str w,.sl rows,.int .i64 self]) λv=>kTup v λcs=>qa cs λc cs=>kAgg c λcs_1=>qa cs_1 λc cs_2=>kInt .i64 c λn=>qa cs_2 λc cs_3=>kInt .i64 c λn_1=>qa cs_3 λc cs_4=>kStr c λs=>qa cs_4 λc cs_5=>kSl c λrows=>kNil cs_5 (qa cs λc cs=>kInt .i64 c λn_2=>kNil cs (bif n_2 != 0 then some (.int .i64 3,[.rows false 9 [[AV.int .i64 ko,.int .i64 no,.str so,.sl lo,.int .i64 self,.ms 1 0 (qBe L),.ms 2 0 (qBj (qBf .i64 ((↑ (qBe V):Int) - 2)) - 0),AV.mp 3,.bool bd]],.rows true 4 L,.rows true 4 (qBm (qBj (qBf .i64 ((V.length:Int) - 2)) - 0) V),ABlk.mp true es])else kOpt (EVj (EV cfg) 152 1 [.ptr 0 0 0,.agg [.int .i64 n,.int .i64 n_1,.str s,.sl rows]] [.rows false 9 [[AV.int .i64 ko,.int .i64 no,.str so,.sl lo,.int .i64 self,.ms 1 0 (qBe L),.ms 2 0 (qBj (qBf .i64 ((V.length:Int) - 2)) - 0),AV.mp 3,.bool bd]],.rows true 4 (qBm (qBe L) L),.rows true 4 (qBm (qBj (qBf .i64 ((V.length:Int) - 2)) - 0) V),ABlk.mp true es]) λq=>zu3 q))else none)))) (kOpt (EVj (EV cfg) 154 1 [.ms 0 (0+qBj (qBf .i64 ((V.length:Int) - 2))) (qBe V - qBj (qBf .i64 ((V.length:Int) - 2)))] [.rows true 4 V]) λq=>qf q.2 λb bs=>qj b λd' n rs=>bif beqB true d'&&qBh n 4 then qT bs (kSl q.1 λrows=>bif qh 0 (qBf .i64 ((↑ (qBe V):Int) - 2))&&qh (qBf .i64 ((V.length:Int) - 2)) (V.length:Int)then bif o==11 then kOpt (EVj (EV cfg) 152 1 [.ptr 0 0 0,.agg [.int .i64 7,.int .i64 0,.str [],.sl rows]] [.rows false 9 [[AV.int .i64 ko,.int .i64 no,.str so,.sl lo,.int .i64 self,.ms 1 0 (qBe L),.ms 2 0 (qBj (qBf .i64 ((V.length:Int) - 2)) - 0),AV.mp 3,.bool bd]],.rows true 4 (qBm (qBe L) L),.rows true 4 (qBm (qBj (qBf .i64 ((V.length:Int) - 2)) - 0) rs),ABlk.mp true es]) λq=>qf q.2 λb bs=>qj b λd' n rs=>bif beqB false d'&&qBh n 9 then qN rs λrow rest=>qX rest (qf bs λb bs=>qj b λd' n rs=>bif beqB true d'&&qBh n 4 then qf bs λb bs=>qj b λd' n rs_1=>bif beqB true d'&&qBh n 4 then qf bs λb bs=>kMpB b λd' es=>bif beqB true d' then qT bs (qa row λc cs=>kInt .i64 c λn=>qa cs λc cs=>kInt .i64 c λn_1=>qa cs λc cs=>kStr c λs=>qa cs λc cs=>kSl c λrows=>qa cs λc cs=>kInt .i64 c λn_2=>qa cs λc cs=>kMsE c λid off len=>bif qBh id 1&&(qBh off 0&&qBh len (qBe rs))then qa cs λc cs=>kMsE c λid off len=>bif qBh id 2&&(qBh off 0&&qBh len (qBe rs_1))then qa cs λc cs=>kMpE c λid=>bif qBh id 3 then qa cs λc cs=>qu c λb=>kNil cs (zu1 q n n_1 s rows n_2 rs rs_1 b es)else none else none else none)else none else none else none)else none else bif o==12 then kOpt (EVj (EV cfg) 152 1 [.ptr 0 0 0,.agg [.int .i64 9,.int .i64 0,.str [],.sl rows]] [.rows false 9 [[AV.int .i64 ko,.int .i64 no,.str so,.sl lo,.int .i64 self,.ms 1 0 (qBe L),.ms 2 0 (qBj (qBf .i64 ((V.length:Int) - 2)) - 0),AV.mp 3,.bool bd]],.rows true 4 (qBm (qBe L) L),.rows true 4 (qBm (qBj (qBf .i64 ((V.length:Int) - 2)) - 0) rs),ABlk.mp true es]) λq=>qf q.2 λb bs=>qj b λd' n rs=>bif beqB false d'&&qBh n 9 then qN rs λrow rest=>qX rest (qf bs λb bs=>qj b λd' n rs=>bif beqB true d'&&qBh n 4 then qf bs λb bs=>qj b λd' n rs_1=>bif beqB true d'&&qBh n 4 then qf bs λb bs=>kMpB b λd' es=>bif beqB true d' then qT bs (qa row λc cs=>kInt .i64 c λn=>qa cs λc cs=>kInt .i64 c λn_1=>qa cs λc cs=>kStr c λs=>qa cs λc cs=>kSl c λrows=>qa cs λc cs=>kInt .i64 c λn_2=>qa cs λc cs=>kMsE c λid off len=>bif qBh id 1&&(qBh off 0&&qBh len (qBe rs))then qa cs λc cs=>kMsE c λid off len=>bif qBh id 2&&(qBh off 0&&qBh len (qBe rs_1))then qa cs λc cs=>kMpE c λid=>bif qBh id 3 then qa cs λc cs=>qu c λb=>kNil cs (zu1 q n n_1 s rows n_2 rs rs_1 b es)else none else none else none)else none else none else none)else none else kOpt (EVf (EV cfg) 155 [.str w,.sl rows,.int .i64 self]) λv=>kTup v λcs=>qa cs λc cs=>kAgg c λcs_1=>qa cs_1 λc cs_2=>kInt .i64 c λn=>qa cs_2 λc cs_3=>kInt .i64 c λn_1=>qa cs_3 λc cs_4=>kStr c λs=>qa cs_4 λc cs_5=>kSl c λrows=>kNil cs_5 (qa cs λc cs=>kInt .i64 c λn_2=>kNil cs (bif n_2 != 0 then some (.int .i64 3,[.rows false 9 [[AV.int .i64 ko,.int .i64 no,.str so,.sl lo,.int .i64 self,.ms 1 0 (qBe L),.ms 2 0 (qBj (qBf .i64 ((V.length:Int) - 2)) - 0),AV.mp 3,.bool bd]],.rows true 4 L,.rows true 4 (qBm (qBj (qBf .i64 ((V.length:Int) - 2)) - 0) rs),ABlk.mp true es])else zu8 n n_1 s rows ko no so lo self L V bd rs es))else none)else none)else none else bif qh 0 (qBf .i64 ((V.length:Int) - 2))&&qh (qBf .i64 ((V.length:Int) - 2)) (V.length:Int)then qcI (qBe V - qBj (qBf .i64 ((V.length:Int) - 2))) (kOpt (EVj (EV cfg) 154 0 [.nilS] []) λq=>qT q.2 (kSl q.1 λrows=>kOpt (EVj (EV cfg) 154 0 [AV.em] []) λq=>qT q.2 (kSl q.1 λrows_1=>kEqR (AV.sl rows,[.rows false 9 [[AV.int .i64 ko,.int .i64 no,.str so,.sl lo,.int .i64 self,.ms 1 0 (qBe L),.ms 2 0 (qBe V),AV.mp 3,.bool bd]],.rows true 4 L,.rows true 4 V,ABlk.mp true es,.rows false 7 [[AV.int .i64 o,.int .i64 a,.int .i64 b,.int .i64 k,.int .i64 n,.str w,.sl l]],ABlk.res,ABlk.res,ABlk.res,ABlk.res]) (AV.sl rows_1,[.rows false 9 [[AV.int .i64 ko,.int .i64 no,.str so,.sl lo,.int .i64 self,.ms 1 0 (qBe L),.ms 2 0 (qBe V),AV.mp 3,.bool bd]],.rows true 4 L,.rows true 4 V,ABlk.mp true es,.rows false 7 [[AV.int .i64 o,.int .i64 a,.int .i64 b,.int .i64 k,.int .i64 n,.str w,.sl l]],ABlk.res,ABlk.res,ABlk.res,ABlk.res]) (bif qh 0 (qBf .i64 ((V.length:Int) - 2))&&qh (qBf .i64 ((V.length:Int) - 2)) (↑ (qBe V):Int)then bif o==11 then kOpt (EVj (EV cfg) 152 1 [.ptr 0 0 0,.agg [.int .i64 7,.int .i64 0,.str [],.sl rows]] [.rows false 9 [[AV.int .i64 ko,.int .i64 no,.str so,.sl lo,.int .i64 self,.ms 1 0 (qBe L),.ms 2 0 (qBj (qBf .i64 ((V.length:Int) - 2)) - 0),AV.mp 3,.bool bd]],.rows true 4 (qBm (qBe L) L),.rows true 4 (qBm (qBj (qBf .i64 ((V.length:Int) - 2)) - 0) V),ABlk.mp true es]) λq=>qf q.2 λb bs=>qj b λd' n rs=>bif beqB false d'&&qBh n 9 then qN rs λrow rest=>qX rest (qf bs λb bs=>qj b λd' n rs=>bif beqB true d'&&qBh n 4 then qf bs λb bs=>qj b λd' n rs_1=>bif beqB true d'&&qBh n 4 then qf bs λb bs=>kMpB b λd' es=>bif beqB true d' then qT bs (qa row λc cs=>kInt .i64 c λn=>qa cs λc cs=>kInt .i64 c λn_1=>qa cs λc cs=>kStr c λs=>qa cs λc cs=>kSl c λrows=>qa cs λc cs=>kInt .i64 c λn_2=>qa cs λc cs=>kMsE c λid off len=>bif qBh id 1&&(qBh off 0&&qBh len (qBe rs))then qa cs λc cs=>kMsE c λid off len=>bif qBh id 2&&(qBh off 0&&qBh len (qBe rs_1))then qa cs λc cs=>kMpE c λid=>bif qBh id 3 then qa cs λc cs=>qu c λb=>kNil cs (zu1 q n n_1 s rows n_2 rs rs_1 b es)else none else none else none)else none else none else none)else none else bif o==12 then kOpt (EVj (EV cfg) 152 1 [.ptr 0 0 0,.agg [.int .i64 9,.int .i64 0,.str [],.sl rows]] [.rows false 9 [[AV.int .i64 ko,.int .i64 no,.str so,.sl lo,.int .i64 self,.ms 1 0 (qBe L),.ms 2 0 (qBj (qBf .i64 ((V.length:Int) - 2)) - 0),AV.mp 3,.bool bd]],.rows true 4 (qBm (qBe L) L),.rows true 4 (qBm (qBj (qBf .i64 ((V.length:Int) - 2)) - 0) V),ABlk.mp true es]) λq=>qf q.2 λb bs=>qj b λd' n rs=>bif beqB false d'&&qBh n 9 then qN rs λrow rest=>qX rest (qf bs λb bs=>qj b λd' n rs=>bif beqB true d'&&qBh n 4 then qf bs λb bs=>qj b λd' n rs_1=>bif beqB true d'&&qBh n 4 then qf bs λb bs=>kMpB b λd' es=>bif beqB true d' then qT bs (qa row λc cs=>kInt .i64 c λn=>qa cs λc cs=>kInt .i64 c λn_1=>qa cs λc cs=>kStr c λs=>qa cs λc cs=>kSl c λrows=>qa cs λc cs=>kInt .i64 c λn_2=>qa cs λc cs=>kMsE c λid off len=>bif qBh id 1&&(qBh off 0&&qBh len (qBe rs))then qa cs λc cs=>kMsE c λid off len=>bif qBh id 2&&(qBh off 0&&qBh len (qBe rs_1))then qa cs λc cs=>kMpE c λid=>bif qBh id 3 then qa cs λc cs=>qu c λb=>kNil cs (zu1 q n n_1 s rows n_2 rs rs_1 b es)else none else none else none)else none else none else none)else none else kOpt (EVf (EV cfg) 155 [.str w,.sl rows,.int .i64 self]) λv=>kTup v λcs=>qa cs λc cs=>kAgg c λcs_1=>qa cs_1 λc cs_2=>kInt .i64 c λn=>qa cs_2 λc cs_3=>kInt .i64 c λn_1=>qa cs_3 λc cs_4=>kStr c λs=>qa cs_4 λc cs_5=>kSl c λrows=>kNil cs_5 (qa cs λc cs=>kInt .i64 c λn_2=>kNil cs (bif n_2 != 0 then some (.int .i64 3,[.rows false 9 [[AV.int .i64 ko,.int .i64 no,.str so,.sl lo,.int .i64 self,.ms 1 0 (qBe L),.ms 2 0 (qBj (qBf .i64 ((V.length:Int) - 2)) - 0),AV.mp 3,.bool bd]],.rows true 4 L,.rows true 4 (qBm (qBj (qBf .i64 ((V.length:Int) - 2)) - 0) V),ABlk.mp true es])else kOpt (EVj (EV cfg) 152 1 [.ptr 0 0 0,.agg [.int .i64 n,.int .i64 n_1,.str s,.sl rows]] [.rows false 9 [[AV.int .i64 ko,.int .i64 no,.str so,.sl lo,.int .i64 self,.ms 1 0 (qBe L),.ms 2 0 (qBj (qBf .i64 ((↑ (qBe V):Int) - 2)) - 0),AV.mp 3,.bool bd]],.rows true 4 (qBm (qBe L) L),.rows true 4 (qBm (qBj (qBf .i64 ((V.length:Int) - (2:Int))) - 0) V),ABlk.mp true es]) λq=>zu3 q))else none)))) (kOpt (EVj (EV cfg) 154 1 [.ms 0 (0+qBj (qBf .i64 ((V.length:Int) - 2))) (qBe V - qBj (qBf .i64 ((V.length:Int) - 2)))] [.rows true 4 V]) λq=>qf q.2 λb bs=>qj b λd' n rs=>bif beqB true d'&&qBh n 4 then qT bs (kSl q.1 λrows=>bif qh 0 (qBf .i64 ((V.length:Int) - 2))&&qh (qBf .i64 ((↑ (qBe V):Int) - 2)) (V.length:Int)then bif o==11 then kOpt (EVj (EV cfg) 152 1 [.ptr 0 0 0,.agg [.int .i64 7,.int .i64 0,.str [],.sl rows]] [.rows false 9 [[AV.int .i64 ko,.int .i64 no,.str so,.sl lo,.int .i64 self,.ms 1 0 (qBe L),.ms 2 0 (qBj (qBf .i64 ((V.length:Int) - 2)) - 0),AV.mp 3,.bool bd]],.rows true 4 (qBm (qBe L) L),.rows true 4 (qBm (qBj (qBf .i64 ((V.length:Int) - 2)) - 0) rs),ABlk.mp true es]) λq=>qf q.2 λb bs=>qj b λd' n rs=>bif beqB false d'&&qBh n 9 then qN rs λrow rest=>qX rest (qf bs λb bs=>qj b λd' n rs=>bif beqB true d'&&qBh n 4 then qf bs λb bs=>qj b λd' n rs_1=>bif beqB true d'&&qBh n 4 then qf bs λb bs=>kMpB b λd' es=>bif beqB true d' then qT bs (qa row λc cs=>kInt .i64 c λn=>qa cs λc cs=>kInt .i64 c λn_1=>qa cs λc cs=>kStr c λs=>qa cs λc cs=>kSl c λrows=>qa cs λc cs=>kInt .i64 c λn_2=>qa cs λc cs=>kMsE c λid off len=>bif qBh id 1&&(qBh off 0&&qBh len (qBe rs))then qa cs λc cs=>kMsE c λid off len=>bif qBh id 2&&(qBh off 0&&qBh len (qBe rs_1))then qa cs λc cs=>kMpE c λid=>bif qBh id 3 then qa cs λc cs=>qu c λb=>kNil cs (zu1 q n n_1 s rows n_2 rs rs_1 b es)else none else none else none)else none else none else none)else none else bif o==12 then kOpt (EVj (EV cfg) 152 1 [.ptr 0 0 0,.agg [.int .i64 9,.int .i64 0,.str [],.sl rows]] [.rows false 9 [[AV.int .i64 ko,.int .i64 no,.str so,.sl lo,.int .i64 self,.ms 1 0 (qBe L),.ms 2 0 (qBj (qBf .i64 ((V.length:Int) - 2)) - 0),AV.mp 3,.bool bd]],.rows true 4 (qBm (qBe L) L),.rows true 4 (qBm (qBj (qBf .i64 ((V.length:Int) - 2)) - 0) rs),ABlk.mp true es]) λq=>qf q.2 λb bs=>qj b λd' n rs=>bif beqB false d'&&qBh n 9 then qN rs λrow rest=>qX rest (qf bs λb bs=>qj b λd' n rs=>bif beqB true d'&&qBh n 4 then qf bs λb bs=>qj b λd' n rs_1=>bif beqB true d'&&qBh n 4 then qf bs λb bs=>kMpB b λd' es=>bif beqB true d' then qT bs (qa row λc cs=>kInt .i64 c λn=>qa cs λc cs=>kInt .i64 c λn_1=>qa cs λc cs=>kStr c λs=>qa cs λc cs=>kSl c λrows=>qa cs λc cs=>kInt .i64 c λn_2=>qa cs λc cs=>kMsE c λid off len=>bif qBh id 1&&(qBh off 0&&qBh len (qBe rs))then qa cs λc cs=>kMsE c λid off len=>bif qBh id 2&&(qBh off 0&&qBh len (qBe rs_1))then qa cs λc cs=>kMpE c λid=>bif qBh id 3 then qa cs λc cs=>qu c λb=>kNil cs (zu1 q n n_1 s rows n_2 rs rs_1 b es)else none else none else none)else none else none else none)else none else kOpt (EVf (EV cfg) 155 [.str w,.sl rows,.int .i64 self]) λv=>kTup v λcs=>qa cs λc cs=>kAgg c λcs_1=>qa cs_1 λc cs_2=>kInt .i64 c λn=>qa cs_2 λc cs_3=>kInt .i64 c λn_1=>qa cs_3 λc cs_4=>kStr c λs=>qa cs_4 λc cs_5=>kSl c λrows=>kNil cs_5 (qa cs λc cs=>kInt .i64 c λn_2=>kNil cs (bif n_2 != 0 then some (.int .i64 (3:Int),[.rows false 9 [[AV.int .i64 ko,.int .i64 no,.str so,.sl lo,.int .i64 self,.ms 1 0 (qBe L),.ms 2 0 (qBj (qBf .i64 ((V.length:Int) - 2)) - 0),AV.mp 3,.bool bd]],.rows true 4 L,.rows true 4 (qBm (qBj (qBf .i64 ((V.length:Int) - 2)) - 0) rs),ABlk.mp true es])else zu8 n n_1 s rows ko no so lo self L V bd rs es))else none)else none)else none else bif decide (a<0)then zu0 ko no so lo self L V bd es else bif decide (a>(↑ (qBe V):Int))then zu0 ko no so lo self L V bd es else bif o==13 then bif k != 2 then zu0 ko no so lo self L V bd es else kOpt (EVs (EV cfg) 42 [.agg [.int .i64 k,.int .i64 n,.str w,.sl l]]) λv=>qu v λb_1=>bif ! b_1 then zu0 ko no so lo self L V bd es else bif qh 0 (qBf .i64 ((V.length:Int) - a))&&qh (qBf .i64 ((V.length:Int) - a)) (V.length:Int)then qcI (qBe V - qBj (qBf .i64 ((↑ (qBe V):Int) - a))) (kOpt (EVj (EV cfg) 154 0 [.nilS] []) λq=>qT q.2 (kSl q.1 λrows=>kOpt (EVj (EV cfg) 154 0 [AV.em] []) λq=>qT q.2 (kSl q.1 λrows_1=>kEqR (AV.sl rows,[.rows false 9 [[AV.int .i64 ko,.int .i64 no,.str so,.sl lo,.int .i64 self,.ms 1 0 (qBe L),.ms 2 0 (qBe V),AV.mp 3,.bool bd]],.rows true 4 L,.rows true 4 V,ABlk.mp true es,.rows false 7 [[AV.int .i64 o,.int .i64 a,.int .i64 b,.int .i64 k,.int .i64 n,.str w,.sl l]],ABlk.res,ABlk.res,ABlk.res,ABlk.res]) (AV.sl rows_1,[.rows false 9 [[AV.int .i64 ko,.int .i64 no,.str so,.sl lo,.int .i64 self,.ms 1 0 (qBe L),.ms 2 0 (qBe V),AV.mp 3,.bool bd]],.rows true 4 L,.rows true 4 V,ABlk.mp true es,.rows false 7 [[AV.int .i64 o,.int .i64 a,.int .i64 b,.int .i64 k,.int .i64 n,.str w,.sl l]],ABlk.res,ABlk.res,ABlk.res,ABlk.res]) (bif qh 0 (qBf .i64 ((V.length:Int) - a))&&qh (qBf .i64 ((V.length:Int) - a)) (V.length:Int)then bif o==11 then kOpt (EVj (EV cfg) 152 1 [.ptr 0 0 0,.agg [.int .i64 7,.int .i64 0,.str [],.sl rows]] [.rows false 9 [[AV.int .i64 ko,.int .i64 no,.str so,.sl lo,.int .i64 self,.ms 1 0 (qBe L),.ms 2 0 (qBj (qBf .i64 ((V.length:Int) - a)) - 0),AV.mp 3,.bool bd]],.rows true 4 (qBm (qBe L) L),.rows true 4 (qBm (qBj (qBf .i64 ((V.length:Int) - a)) - 0) V),ABlk.mp true es]) λq=>qf q.2 λb bs=>qj b λd' n rs=>bif beqB false d'&&qBh n 9 then qN rs λrow rest=>qX rest (qf bs λb bs=>qj b λd' n rs=>bif beqB true d'&&qBh n 4 then qf bs λb bs=>qj b λd' n rs_1=>bif beqB true d'&&qBh n 4 then qf bs λb bs=>kMpB b λd' es=>bif beqB true d' then qT bs (qa row λc cs=>kInt .i64 c λn=>qa cs λc cs=>kInt .i64 c λn_1=>qa cs λc cs=>kStr c λs=>qa cs λc cs=>kSl c λrows=>qa cs λc cs=>kInt .i64 c λn_2=>qa cs λc cs=>kMsE c λid off len=>bif qBh id 1&&(qBh off 0&&qBh len (qBe rs))then qa cs λc cs=>kMsE c λid off len=>bif qBh id 2&&(qBh off 0&&qBh len (qBe rs_1))then qa cs λc cs=>kMpE c λid=>bif qBh id 3 then qa cs λc cs=>qu c λb=>kNil cs (zu1 q n n_1 s rows n_2 rs rs_1 b es)else none else none else none)else none else none else none)else none else bif o==12 then kOpt (EVj (EV cfg) 152 1 [.ptr 0 0 0,.agg [.int .i64 9,.int .i64 0,.str [],.sl rows]] [.rows false 9 [[AV.int .i64 ko,.int .i64 no,.str so,.sl lo,.int .i64 self,.ms 1 0 (qBe L),.ms 2 0 (qBj (qBf .i64 ((↑ (qBe V):Int) - a)) - 0),AV.mp 3,.bool bd]],.rows true 4 (qBm (qBe L) L),.rows true 4 (qBm (qBj (qBf .i64 ((V.length:Int) - a)) - 0) V),ABlk.mp true es]) λq=>qf q.2 λb bs=>qj b λd' n rs=>bif beqB false d'&&qBh n 9 then qN rs λrow rest=>qX rest (qf bs λb bs=>qj b λd' n rs=>bif beqB true d'&&qBh n 4 then qf bs λb bs=>qj b λd' n rs_1=>bif beqB true d'&&qBh n 4 then qf bs λb bs=>kMpB b λd' es=>bif beqB true d' then qT bs (qa row λc cs=>kInt .i64 c λn=>qa cs λc cs=>kInt .i64 c λn_1=>qa cs λc cs=>kStr c λs=>qa cs λc cs=>kSl c λrows=>qa cs λc cs=>kInt .i64 c λn_2=>qa cs λc cs=>kMsE c λid off len=>bif qBh id 1&&(qBh off 0&&qBh len (qBe rs))then qa cs λc cs=>kMsE c λid off len=>bif qBh id 2&&(qBh off 0&&qBh len (qBe rs_1))then qa cs λc cs=>kMpE c λid=>bif qBh id 3 then qa cs λc cs=>qu c λb=>kNil cs (zu1 q n n_1 s rows n_2 rs rs_1 b es)else none else none else none)else none else none else none)else none else kOpt (EVf (EV cfg) 155 [.str w,.sl rows,.int .i64 self]) λv=>kTup v λcs=>qa cs λc cs=>kAgg c λcs_1=>qa cs_1 λc cs_2=>kInt .i64 c λn=>qa cs_2 λc cs_3=>kInt .i64 c λn_1=>qa cs_3 λc cs_4=>kStr c λs=>qa cs_4 λc cs_5=>kSl c λrows=>kNil cs_5 (qa cs λc cs=>kInt .i64 c λn_2=>kNil cs (bif n_2 != 0 then some (.int .i64 3,[.rows false 9 [[AV.int .i64 ko,.int .i64 no,.str so,.sl lo,.int .i64 self,.ms 1 0 (qBe L),.ms 2 0 (qBj (qBf .i64 ((V.length:Int) - a)) - 0),AV.mp 3,.bool bd]],.rows true 4 L,.rows true 4 (qBm (qBj (qBf .i64 ((V.length:Int) - a)) - 0) V),ABlk.mp true es])else kOpt (EVj (EV cfg) 152 1 [.ptr 0 0 0,.agg [.int .i64 n,.int .i64 n_1,.str s,.sl rows]] [.rows false 9 [[AV.int .i64 ko,.int .i64 no,.str so,.sl lo,.int .i64 self,.ms 1 0 (qBe L),.ms 2 0 (qBj (qBf .i64 ((V.length:Int) - a)) - 0),AV.mp 3,.bool bd]],.rows true 4 (qBm (qBe L) L),.rows true 4 (qBm (qBj (qBf .i64 ((V.length:Int) - a)) - 0) V),ABlk.mp true es]) λq=>zu3 q))else none)))) (kOpt (EVj (EV cfg) 154 1 [.ms 0 (0+qBj (qBf .i64 ((↑ (qBe V):Int) - a))) (qBe V - qBj (qBf .i64 ((V.length:Int) - a)))] [.rows true 4 V]) λq=>qf q.2 λb bs=>qj b λd' n rs=>bif beqB true d'&&qBh n 4 then qT bs (kSl q.1 λrows=>bif qh 0 (qBf .i64 ((↑ (qBe V):Int) - a))&&qh (qBf .i64 ((V.length:Int) - a)) (V.length:Int)then bif o==11 then kOpt (EVj (EV cfg) 152 1 [.ptr 0 0 0,.agg [.int .i64 7,.int .i64 0,.str [],.sl rows]] [.rows false 9 [[AV.int .i64 ko,.int .i64 no,.str so,.sl lo,.int .i64 self,.ms 1 0 (qBe L),.ms 2 0 (qBj (qBf .i64 ((V.length:Int) - a)) - 0),AV.mp 3,.bool bd]],.rows true 4 (qBm (qBe L) L),.rows true 4 (qBm (qBj (qBf .i64 ((↑ (qBe V):Int) - a)) - 0) rs),ABlk.mp true es]) λq=>qf q.2 λb bs=>qj b λd' n rs=>bif beqB false d'&&qBh n 9 then qN rs λrow rest=>qX rest (qf bs λb bs=>qj b λd' n rs=>bif beqB true d'&&qBh n 4 then qf bs λb bs=>qj b λd' n rs_1=>bif beqB true d'&&qBh n 4 then qf bs λb bs=>kMpB b λd' es=>bif beqB true d' then qT bs (qa row λc cs=>kInt .i64 c λn=>qa cs λc cs=>kInt .i64 c λn_1=>qa cs λc cs=>kStr c λs=>qa cs λc cs=>kSl c λrows=>qa cs λc cs=>kInt .i64 c λn_2=>qa cs λc cs=>kMsE c λid off len=>bif qBh id 1&&(qBh off 0&&qBh len (qBe rs))then qa cs λc cs=>kMsE c λid off len=>bif qBh id 2&&(qBh off 0&&qBh len (qBe rs_1))then qa cs λc cs=>kMpE c λid=>bif qBh id 3 then qa cs λc cs=>qu c λb=>kNil cs (zu1 q n n_1 s rows n_2 rs rs_1 b es)else none else none else none)else none else none else none)else none else bif o==12 then kOpt (EVj (EV cfg) 152 1 [.ptr 0 0 0,.agg [.int .i64 9,.int .i64 0,.str [],.sl rows]] [.rows false 9 [[AV.int .i64 ko,.int .i64 no,.str so,.sl lo,.int .i64 self,.ms 1 0 (qBe L),.ms 2 0 (qBj (qBf .i64 ((V.length:Int) - a)) - 0),AV.mp 3,.bool bd]],.rows true 4 (qBm (qBe L) L),.rows true 4 (qBm (qBj (qBf .i64 ((V.length:Int) - a)) - 0) rs),ABlk.mp true es]) λq=>qf q.2 λb bs=>qj b λd' n rs=>bif beqB false d'&&qBh n 9 then qN rs λrow rest=>qX rest (qf bs λb bs=>qj b λd' n rs=>bif beqB true d'&&qBh n 4 then qf bs λb bs=>qj b λd' n rs_1=>bif beqB true d'&&qBh n 4 then qf bs λb bs=>kMpB b λd' es=>bif beqB true d' then qT bs (qa row λc cs=>kInt .i64 c λn=>qa cs λc cs=>kInt .i64 c λn_1=>qa cs λc cs=>kStr c λs=>qa cs λc cs=>kSl c λrows=>qa cs λc cs=>kInt .i64 c λn_2=>qa cs λc cs=>kMsE c λid off len=>bif qBh id 1&&(qBh off 0&&qBh len (qBe rs))then qa cs λc cs=>kMsE c λid off len=>bif qBh id 2&&(qBh off 0&&qBh len (qBe rs_1))then qa cs λc cs=>kMpE c λid=>bif qBh id 3 then qa cs λc cs=>qu c λb=>kNil cs (zu1 q n n_1 s rows n_2 rs rs_1 b es)else none else none else none)else none else none else none)else none else kOpt (EVf (EV cfg) 155 [.str w,.sl rows,.int .i64 self]) λv=>kTup v λcs=>qa cs λc cs=>kAgg c λcs_1=>qa cs_1 λc cs_2=>kInt .i64 c λn=>qa cs_2 λc cs_3=>kInt .i64 c λn_1=>qa cs_3 λc cs_4=>kStr c λs=>qa cs_4 λc cs_5=>kSl c λrows=>kNil cs_5 (qa cs λc cs=>kInt .i64 c λn_2=>kNil cs (bif n_2 != 0 then some (.int .i64 (3:Int),[.rows false 9 [[AV.int .i64 ko,.int .i64 no,.str so,.sl lo,.int .i64 self,.ms 1 0 (qBe L),.ms 2 0 (qBj (qBf .i64 ((V.length:Int) - a)) - 0),AV.mp 3,.bool bd]],.rows true 4 L,.rows true 4 (qBm (qBj (qBf .i64 ((V.length:Int) - a)) - 0) rs),ABlk.mp true es])else kOpt (EVj (EV cfg) 152 1 [.ptr 0 0 0,.agg [.int .i64 n,.int .i64 n_1,.str s,.sl rows]] [.rows false 9 [[AV.int .i64 ko,.int .i64 no,.str so,.sl lo,.int .i64 self,.ms 1 0 (qBe L),.ms 2 0 (qBj (qBf .i64 ((V.length:Int) - a)) - 0),AV.mp 3,.bool bd]],.rows true 4 (qBm (qBe L) L),.rows true 4 (qBm (qBj (qBf .i64 ((↑ (qBe V):Int) - a)) - 0) rs),ABlk.mp true es]) λq=>zu3 q))else none)else none)else none else bif qh 0 (qBf .i64 ((V.length:Int) - a))&&qh (qBf .i64 ((V.length:Int) - a)) (V.length:Int)then qcI (qBe V - qBj (qBf .i64 ((V.length:Int) - a))) (kOpt (EVj (EV cfg) 154 0 [.nilS] []) λq=>qT q.2 (kSl q.1 λrows=>kOpt (EVj (EV cfg) 154 0 [AV.em] []) λq=>qT q.2 (kSl q.1 λrows_1=>kEqR (AV.sl rows,[.rows false 9 [[AV.int .i64 ko,.int .i64 no,.str so,.sl lo,.int .i64 self,.ms 1 0 (qBe L),.ms 2 0 (qBe V),AV.mp 3,.bool bd]],.rows true 4 L,.rows true 4 V,ABlk.mp true es,.rows false 7 [[AV.int .i64 o,.int .i64 a,.int .i64 b,.int .i64 k,.int .i64 n,.str w,.sl l]],ABlk.res,ABlk.res,ABlk.res,ABlk.res]) (AV.sl rows_1,[.rows false 9 [[AV.int .i64 ko,.int .i64 no,.str so,.sl lo,.int .i64 self,.ms 1 0 (qBe L),.ms 2 0 (qBe V),AV.mp 3,.bool bd]],.rows true 4 L,.rows true 4 V,ABlk.mp true es,.rows false 7 [[AV.int .i64 o,.int .i64 a,.int .i64 b,.int .i64 k,.int .i64 n,.str w,.sl l]],ABlk.res,ABlk.res,ABlk.res,ABlk.res]) (bif qh 0 (qBf .i64 ((↑ (qBe V):Int) - a))&&qh (qBf .i64 ((V.length:Int) - a)) (V.length:Int)then bif o==11 then kOpt (EVj (EV cfg) 152 1 [.ptr 0 0 0,.agg [.int .i64 7,.int .i64 0,.str [],.sl rows]] [.rows false 9 [[AV.int .i64 ko,.int .i64 no,.str so,.sl lo,.int .i64 self,.ms 1 0 (qBe L),.ms 2 0 (qBj (qBf .i64 ((V.length:Int) - a)) - 0),AV.mp 3,.bool bd]],.rows true 4 (qBm (qBe L) L),.rows true 4 (qBm (qBj (qBf .i64 ((↑ (qBe V):Int) - a)) - 0) V),ABlk.mp true es]) λq=>qf q.2 λb bs=>qj b λd' n rs=>bif beqB false d'&&qBh n 9 then qN rs λrow rest=>qX rest (qf bs λb bs=>qj b λd' n rs=>bif beqB true d'&&qBh n 4 then qf bs λb bs=>qj b λd' n rs_1=>bif beqB true d'&&qBh n 4 then qf bs λb bs=>kMpB b λd' es=>bif beqB true d' then qT bs (qa row λc cs=>kInt .i64 c λn=>qa cs λc cs=>kInt .i64 c λn_1=>qa cs λc cs=>kStr c λs=>qa cs λc cs=>kSl c λrows=>qa cs λc cs=>kInt .i64 c λn_2=>qa cs λc cs=>kMsE c λid off len=>bif qBh id 1&&(qBh off 0&&qBh len (qBe rs))then qa cs λc cs=>kMsE c λid off len=>bif qBh id 2&&(qBh off 0&&qBh len (qBe rs_1))then qa cs λc cs=>kMpE c λid=>bif qBh id 3 then qa cs λc cs=>qu c λb=>kNil cs (zu1 q n n_1 s rows n_2 rs rs_1 b es)else none else none else none)else none else none else none)else none else bif o==12 then kOpt (EVj (EV cfg) 152 1 [.ptr 0 0 0,.agg [.int .i64 9,.int .i64 0,.str [],.sl rows]] [.rows false 9 [[AV.int .i64 ko,.int .i64 no,.str so,.sl lo,.int .i64 self,.ms 1 0 (qBe L),.ms 2 0 (qBj (qBf .i64 ((V.length:Int) - a)) - 0),AV.mp 3,.bool bd]],.rows true 4 (qBm (qBe L) L),.rows true 4 (qBm (qBj (qBf .i64 ((V.length:Int) - a)) - 0) V),ABlk.mp true es]) λq=>qf q.2 λb bs=>qj b λd' n rs=>bif beqB false d'&&qBh n 9 then qN rs λrow rest=>qX rest (qf bs λb bs=>qj b λd' n rs=>bif beqB true d'&&qBh n 4 then qf bs λb bs=>qj b λd' n rs_1=>bif beqB true d'&&qBh n 4 then qf bs λb bs=>kMpB b λd' es=>bif beqB true d' then qT bs (qa row λc cs=>kInt .i64 c λn=>qa cs λc cs=>kInt .i64 c λn_1=>qa cs λc cs=>kStr c λs=>qa cs λc cs=>kSl c λrows=>qa cs λc cs=>kInt .i64 c λn_2=>qa cs λc cs=>kMsE c λid off len=>bif qBh id 1&&(qBh off 0&&qBh len (qBe rs))then qa cs λc cs=>kMsE c λid off len=>bif qBh id 2&&(qBh off 0&&qBh len (qBe rs_1))then qa cs λc cs=>kMpE c λid=>bif qBh id 3 then qa cs λc cs=>qu c λb=>kNil cs (zu1 q n n_1 s rows n_2 rs rs_1 b es)else none else none else none)else none else none else none)else none else kOpt (EVf (EV cfg) 155 [.str w,.sl rows,.int .i64 self]) λv=>kTup v λcs=>qa cs λc cs=>kAgg c λcs_1=>qa cs_1 λc cs_2=>kInt .i64 c λn=>qa cs_2 λc cs_3=>kInt .i64 c λn_1=>qa cs_3 λc cs_4=>kStr c λs=>qa cs_4 λc cs_5=>kSl c λrows=>kNil cs_5 (qa cs λc cs=>kInt .i64 c λn_2=>kNil cs (bif n_2 != 0 then some (.int .i64 (3:Int),[.rows false 9 [[AV.int .i64 ko,.int .i64 no,.str so,.sl lo,.int .i64 self,.ms 1 0 (qBe L),.ms 2 0 (qBj (qBf .i64 ((V.length:Int) - a)) - 0),AV.mp 3,.bool bd]],.rows true 4 L,.rows true 4 (qBm (qBj (qBf .i64 ((V.length:Int) - a)) - 0) V),ABlk.mp true es])else kOpt (EVj (EV cfg) 152 1 [.ptr 0 0 0,.agg [.int .i64 n,.int .i64 n_1,.str s,.sl rows]] [.rows false 9 [[AV.int .i64 ko,.int .i64 no,.str so,.sl lo,.int .i64 self,.ms 1 0 (qBe L),.ms 2 0 (qBj (qBf .i64 ((V.length:Int) - a)) - 0),AV.mp 3,.bool bd]],.rows true 4 (qBm (qBe L) L),.rows true 4 (qBm (qBj (qBf .i64 ((↑ (qBe V):Int) - a)) - 0) V),ABlk.mp true es]) λq=>zu3 q))else none)))) (kOpt (EVj (EV cfg) 154 1 [.ms 0 (0+qBj (qBf .i64 ((V.length:Int) - a))) (qBe V - qBj (qBf .i64 ((V.length:Int) - a)))] [.rows true 4 V]) λq=>qf q.2 λb bs=>qj b λd' n rs=>bif beqB true d'&&qBh n 4 then qT bs (kSl q.1 λrows=>bif qh 0 (qBf .i64 ((V.length:Int) - a))&&qh (qBf .i64 ((↑ (qBe V):Int) - a)) (V.length:Int)then bif o==11 then kOpt (EVj (EV cfg) 152 1 [.ptr 0 0 0,.agg [.int .i64 7,.int .i64 0,.str [],.sl rows]] [.rows false 9 [[AV.int .i64 ko,.int .i64 no,.str so,.sl lo,.int .i64 self,.ms 1 0 (qBe L),.ms 2 0 (qBj (qBf .i64 ((V.length:Int) - a)) - 0),AV.mp 3,.bool bd]],.rows true 4 (qBm (qBe L) L),.rows true 4 (qBm (qBj (qBf .i64 ((V.length:Int) - a)) - 0) rs),ABlk.mp true es]) λq=>qf q.2 λb bs=>qj b λd' n rs=>bif beqB false d'&&qBh n 9 then qN rs λrow rest=>qX rest (qf bs λb bs=>qj b λd' n rs=>bif beqB true d'&&qBh n 4 then qf bs λb bs=>qj b λd' n rs_1=>bif beqB true d'&&qBh n 4 then qf bs λb bs=>kMpB b λd' es=>bif beqB true d' then qT bs (qa row λc cs=>kInt .i64 c λn=>qa cs λc cs=>kInt .i64 c λn_1=>qa cs λc cs=>kStr c λs=>qa cs λc cs=>kSl c λrows=>qa cs λc cs=>kInt .i64 c λn_2=>qa cs λc cs=>kMsE c λid off len=>bif qBh id 1&&(qBh off 0&&qBh len (qBe rs))then qa cs λc cs=>kMsE c λid off len=>bif qBh id 2&&(qBh off 0&&qBh len (qBe rs_1))then qa cs λc cs=>kMpE c λid=>bif qBh id 3 then qa cs λc cs=>qu c λb=>kNil cs (zu1 q n n_1 s rows n_2 rs rs_1 b es)else none else none else none)else none else none else none)else none else bif o==12 then kOpt (EVj (EV cfg) 152 1 [.ptr 0 0 0,.agg [.int .i64 9,.int .i64 0,.str [],.sl rows]] [.rows false 9 [[AV.int .i64 ko,.int .i64 no,.str so,.sl lo,.int .i64 self,.ms 1 0 (qBe L),.ms 2 0 (qBj (qBf .i64 ((V.length:Int) - a)) - 0),AV.mp 3,.bool bd]],.rows true 4 (qBm (qBe L) L),.rows true 4 (qBm (qBj (qBf .i64 ((V.length:Int) - a)) - 0) rs),ABlk.mp true es]) λq=>qf q.2 λb bs=>qj b λd' n rs=>bif beqB false d'&&qBh n 9 then qN rs λrow rest=>qX rest (qf bs λb bs=>qj b λd' n rs=>bif beqB true d'&&qBh n 4 then qf bs λb bs=>qj b λd' n rs_1=>bif beqB true d'&&qBh n 4 then qf bs λb bs=>kMpB b λd' es=>bif beqB true d' then qT bs (qa row λc cs=>kInt .i64 c λn=>qa cs λc cs=>kInt .i64 c λn_1=>qa cs λc cs=>kStr c λs=>qa cs λc cs=>kSl c λrows=>qa cs λc cs=>kInt .i64 c λn_2=>qa cs λc cs=>kMsE c λid off len=>bif qBh id 1&&(qBh off 0&&qBh len (qBe rs))then qa cs λc cs=>kMsE c λid off len=>bif qBh id 2&&(qBh off 0&&qBh len (qBe rs_1))then qa cs λc cs=>kMpE c λid=>bif qBh id 3 then qa cs λc cs=>qu c λb=>kNil cs (zu1 q n n_1 s rows n_2 rs rs_1 b es)else none else none else none)else none else none else none)else none else kOpt (EVf (EV cfg) 155 [.str w,.sl rows,.int .i64 self]) λv=>kTup v λcs=>qa cs λc cs=>kAgg c λcs_1=>qa cs_1 λc cs_2=>kInt .i64 c λn=>qa cs_2 λc cs_3=>kInt .i64 c λn_1=>qa cs_3 λc cs_4=>kStr c λs=>qa cs_4 λc cs_5=>kSl c λrows=>kNil cs_5 (qa cs λc cs=>kInt .i64 c λn_2=>kNil cs (bif n_2 != 0 then some (.int .i64 3,[.rows false 9 [[AV.int .i64 ko,.int .i64 no,.str so,.sl lo,.int .i64 self,.ms 1 0 (qBe L),.ms 2 0 (qBj (qBf .i64 ((V.length:Int) - a)) - 0),AV.mp 3,.bool bd]],.rows true 4 L,.rows true 4 (qBm (qBj (qBf .i64 ((V.length:Int) - a)) - 0) rs),ABlk.mp true es])else kOpt (EVj (EV cfg) 152 1 [.ptr 0 0 0,.agg [.int .i64 n,.int .i64 n_1,.str s,.sl rows]] [.rows false 9 [[AV.int .i64 ko,.int .i64 no,.str so,.sl lo,.int .i64 self,.ms 1 0 (qBe L),.ms 2 0 (qBj (qBf .i64 ((V.length:Int) - a)) - 0),AV.mp 3,.bool bd]],.rows true 4 (qBm (qBe L) L),.rows true 4 (qBm (qBj (qBf .i64 ((V.length:Int) - a)) - 0) rs),ABlk.mp true es]) λq=>zu3 q))else none)else none)else none) P):Gets (EVj (EV cfg) 92 1 [.ptr 0 0 0,.agg [.int .i64 o,.int .i64 a,.int .i64 b,.int .i64 k,.int .i64 n,.str w,.sl l]] ([ABlk.rows false (9:Nat) [[AV.int qB2 ko,AV.int qB2 no,AV.str so,AV.sl lo,AV.int qB2 self,AV.ms (1:Nat) (0:Nat) (qBe L),AV.ms (2:Nat) (0:Nat) (qBe V),AV.mp (3:Nat),AV.bool bd]],ABlk.rows true (4:Nat) L,ABlk.rows true (4:Nat) V,ABlk.mp true es]:AH)) P:=
  gE (λ_=>funJ rfl rfl Tryz.func92 rfl) (by kernel_rfl) h
theorem qqD(V:Rz)(off n:Nat){P:AV×AH->Prop}(h:Gets (bif qBv (off+(n+1)) (qBe V)then bif q8 (0+qBe (qBm (n+1) (qBU off V))) 56 then bif qBv (0+(0+qBe (qBm (n+1) (qBU off V)))) (qBe (qBm (n+1) (qBU off V)))&&true then some (.sl (qBm (0+qBe (qBm (n+1) (qBU off V))) (qBm (n+1) (qBU off V))),[.rows true 4 V])else none else none else none) P):Gets (EVj (EV cfg) 154 1 [.ms 0 off (n+1)] ([ABlk.rows true (4:Nat) V]:AH)) P:=
  gE (λ_=>funJ rfl rfl Tryz.func154 rfl) (by kernel_rfl) h
theorem qoJ(a:AV){P:AV×AH->Prop}(h:Gets (some (.sl [],[])) P):Gets (EVj (EV cfg) 154 0 [.nilS] ([]:AH)) P:=
  gE (λ_=>funJ rfl rfl Tryz.func154 rfl) (by kernel_rfl) h
theorem qoK(a:AV){P:AV×AH->Prop}(h:Gets (some (.sl [],[])) P):Gets (EVj (EV cfg) 154 0 [.em] ([]:AH)) P:=
  gE (λ_=>funJ rfl rfl Tryz.func154 rfl) (by kernel_rfl) h
theorem quC(k:Int)(n:Int)(s:List UInt8)(l:List (List AV)){P:AV->Prop}(h:Gets (kOpt (EVs (EV cfg) 83 [.agg [AV.int .i64 k,.int .i64 n,.str s,.sl l]]) fun(v:AV)=>kInt .i64 v fun(n:Int)=>some (.bool (n==(0:Int)))) P):Gets (EVs (EV cfg) 42 ([AV.agg [AV.int qB2 k,AV.int qB2 n,AV.str s,AV.sl l]]:List AV)) P:=
 Gets.ev (λ_ h=>funS rfl rfl Tryz.func42 rfl h) (Gets.eq (by kernel_rfl) h)
def qxN:Den:=evC cfg (EV cfg) 114 none 2 (sub (qg Tryz.f114) [1,0,0])
def qxU:Ex×List AV×AH->Option (AV×AH):=kAft (Cfg.keepOut cfg 114 1) (kRun cfg (EV cfg) (kfN cfg 6) 114 none 2 (qcK cfg 1 (Cfg.lift cfg 114 0) Tryz.f114.results.toList) ([.block 0]))
def qqb:List AV×AH->Option (AV×AH):=λp=>kOpt (LOOP 2 (some [0,6,7,8]) ([]) qxN p) qxU
abbrev qoz(l:Rz)(v8:Int)(nc0_0:Nat)(h1:Rz):Option (AV×AH):=qqb (((fx 16 [(0,.ptr 0 0 0),(6,.sl l),(7,.int .i64 (l.length:Int)),(8,.int .i64 v8)]):List AV),([.rows false 1 [[.ms 1 0 nc0_0]],.rows true 7 h1]:AH))
abbrev qg7(l:Rz)(v8:Int)(nc0_0:Nat)(h2:Rz):Option (AV×AH):=qqb (((fx 16 [(0,.ptr 0 0 0),(6,.sl l),(7,.int .i64 (l.length:Int)),(8,.int .i64 v8)]):List AV),([.rows false 1 [[.ms 2 0 nc0_0]],.dead,.rows true 7 h2]:AH))
theorem qvW(ins:Rz)(o a b k n:Int)(w:Bz)(l:Rz){P:AV×AH->Prop}(h:Gets (bif qBv (0+qBe ins) (qBe ins)&&q8 (qBe ins+1) 80 then some (.int .i64 (qBf .i64 ((↑ (qBe ins+1):Int) - 1)),[.rows false 1 [[.ms 1 0 (qBe ins+1)]],.rows true 7 (qBA (qBm (qBe ins) ins) [[AV.int .i64 o,.int .i64 a,.int .i64 b,.int .i64 k,.int .i64 n,.str w,.sl l]])])else none) P):Gets (EVj (EV cfg) 105 1 [.ptr 0 0 0,.agg [.int .i64 o,.int .i64 a,.int .i64 b,.int .i64 k,.int .i64 n,.str w,.sl l]] ([ABlk.rows false (1:Nat) [[AV.ms (1:Nat) (0:Nat) (qBe ins)]],ABlk.rows true (7:Nat) ins]:AH)) P:=
  gE (λ_=>funJ rfl rfl Tryz.func105 rfl) (by kernel_rfl) h
theorem qtL(ins l:Rz){P:AV×AH->Prop}(h:Gets (qoz l 0 (qBe ins) ins) P):Gets (EVj (EV cfg) 114 1 [.ptr 0 0 0,.sl l] ([ABlk.rows false (1:Nat) [[AV.ms (1:Nat) (0:Nat) (qBe ins)]],ABlk.rows true (7:Nat) ins]:AH)) P:=
  gE (λ_=>funJ rfl rfl Tryz.func114 rfl) (by kernel_rfl) h
theorem qtM(ins:Rz)(o:Int)(l:Rz){P:AV×AH->Prop}(h:Gets (bif qn 0 (l.length:Int)then kOpt (qBg l 0) λrow=>bif qBh (qBe row) 4 then bif qBv 4 (qBe row)then kTmC (qBm 4 row) λn n_1 s rows=>(kOpt (EVj (EV cfg) 63 1 [.ptr 0 0 0,.agg [.int .i64 n,.int .i64 n_1,.str s,.sl rows]] [.rows false 1 [[.ms 1 0 (qBe ins)]],.rows true 7 ins]) λq=>qf q.2 λb bs=>qj b λd' n rs=>bif beqB false d'&&qBh n 1 then qN rs λrow rest=>qX rest (qf bs λb bs=>qj b λd' n rs=>bif beqB true d'&&qBh n 7 then qT bs (qa row λc cs=>kMsE c λid off len=>bif qBh id 1&&(qBh off 0&&qBh len (qBe rs))then kNil cs (kOpt (EVj (EV cfg) 105 1 [.ptr 0 0 0,AV.agg [.int .i64 o,.int .i64 0,.int .i64 0,.int .i64 0,.int .i64 0,.str [],.sl []]] [.rows false 1 [[.ms 1 0 (qBe rs)]],.rows true 7 rs]) λq=>qf q.2 λb bs=>qj b λd' n rs=>bif beqB false d'&&qBh n 1 then qN rs λrow rest=>qX rest (qf bs λb bs=>qj b λd' n rs=>bif beqB true d'&&qBh n 7 then qT bs (qa row λc cs=>kMsE c λid off len=>bif qBh id 1&&(qBh off 0&&qBh len (qBe rs))then kNil cs (kInt .i64 q.1 λn=>bif qn 1 (l.length:Int)then kOpt (qBg l 1) λrow=>bif qBh (qBe row) 4 then bif qBv 4 (qBe row)then kTmC (qBm 4 row) λn_2 n_3 s rows=>(kOpt (EVj (EV cfg) 63 1 [.ptr 0 0 0,.agg [.int .i64 n_2,.int .i64 n_3,.str s,.sl rows]] [.rows false 1 [[.ms 1 0 (qBe rs)]],.rows true 7 rs]) λq=>qf q.2 λb bs=>qj b λd' n_4 rs=>bif beqB false d'&&qBh n_4 1 then qN rs λrow rest=>qX rest (qf bs λb bs=>qj b λd' n_5 rs=>bif beqB true d'&&qBh n_5 7 then qT bs (qa row λc cs=>kMsE c λid off len=>bif qBh id 1&&(qBh off 0&&qBh len (qBe rs))then kNil cs (kOpt (EVj (EV cfg) 105 1 [.ptr 0 0 0,AV.agg [.int .i64 (17:Int),.int .i64 0,.int .i64 0,.int .i64 0,.int .i64 0,.str [],.sl []]] [.rows false 1 [[.ms 1 0 (qBe rs)]],.rows true 7 rs]) λq=>qf q.2 λb bs=>qj b λd' n_6 rs=>bif beqB false d'&&qBh n_6 1 then qN rs λrow rest=>qX rest (qf bs λb bs=>qj b λd' n_7 rs=>bif beqB true d'&&qBh n_7 7 then qT bs (qa row λc cs=>kMsE c λid off len=>bif qBh id 1&&(qBh off 0&&qBh len (qBe rs))then kNil cs (kInt .i64 q.1 λn_8=>bif qh 0 n&&qn n (rs.length:Int)then kOpt (qBg rs (0+n.toNat)) λrow=>bif qBv 3 (qBe row)then some (AV.tup [],[.rows false 1 [[.ms 1 0 (qBe rs)]],.rows true 7 (List.set rs (0+n.toNat) (qBA (qBA (qBm 2 row) [AV.int .i64 (rs.length:Int)]) (qBU 3 row)))])else none else none)else none)else none)else none)else none)else none)else none)else none else none else none)else none)else none)else none)else none)else none)else none)else none else none else none) P):Gets (EVj (EV cfg) 115 1 [.ptr 0 0 0,.int .i64 o,.sl l] ([ABlk.rows false (1:Nat) [[AV.ms (1:Nat) (0:Nat) (qBe ins)]],ABlk.rows true (7:Nat) ins]:AH)) P:=
  gE (λ_=>funJ rfl rfl Tryz.func115 rfl) (by kernel_rfl) h
abbrev zv6(n n_1:Int)(s:Bz)(rows:Rz)(nc0_0:Nat)(h1 l:Rz)(v8:Int):Option (AV×AH):=(kOpt (EVj (EV cfg) 63 1 [.ptr 0 0 0,.agg [.int .i64 n,.int .i64 n_1,.str s,.sl rows]] [.rows false 1 [[.ms 1 0 nc0_0]],.rows true 7 h1]) λq=>qf q.2 λb bs=>qj b λd' n rs=>bif beqB false d'&&qBh n 1 then qN rs λrow rest=>qX rest (qf bs λb bs=>qj b λd' n rs=>bif beqB true d'&&qBh n 7 then qT bs (qa row λc cs=>kMsE c λid off len=>bif qBh id 1&&(qBh off 0&&qBh len (qBe rs))then kNil cs (qg7 l (qBf .i64 (v8+1)) (qBe rs) rs)else none)else none)else none)
abbrev zv5(row:List AV)(nc0_0:Nat)(h1 l:Rz)(v8:Int):Option (AV×AH):=kTmC (qBm 4 row) λn n_1 s rows=>zv6 n n_1 s rows nc0_0 h1 l v8
abbrev zv4(row:List AV)(nc0_0:Nat)(h1 l:Rz)(v8:Int):Option (AV×AH):=bif qBv 4 (qBe row)then zv5 row nc0_0 h1 l v8 else none
abbrev zv3(row:List AV)(nc0_0:Nat)(h1 l:Rz)(v8:Int):Option (AV×AH):=bif qBh (qBe row) 4 then zv4 row nc0_0 h1 l v8 else none
abbrev zv2(l:Rz)(v8:Int)(nc0_0:Nat)(h1:Rz):Option (AV×AH):=kOpt (qBg l (v8.toNat)) λrow=>zv3 row nc0_0 h1 l v8
abbrev zv1(v8:Int)(l:Rz)(nc0_0:Nat)(h1:Rz):Option (AV×AH):=bif qh 0 v8&&qn v8 (l.length:Int)then zv2 l v8 nc0_0 h1 else none
abbrev zv0(v8:Int)(l:Rz)(nc0_0:Nat)(h1:Rz):Option (AV×AH):=bif decide (v8<(l.length:Int))then zv1 v8 l nc0_0 h1 else some (AV.tup [],[.rows false 1 [[.ms 1 0 nc0_0]],.rows true 7 h1])
theorem qnA(l:Rz)(v8:Int)(nc0_0:Nat)(h1:Rz){P:AV×AH->Prop}(h:Gets (zv0 v8 l nc0_0 h1) P):Gets (qoz l v8 nc0_0 h1) P:=
  gE (λ_=>qB (cfg:=cfg) (f:=114) (rd:=none) (bs:=2)) (by kernel_rfl) h
theorem qft(l:Rz)(v8:Int)(nc0_0:Nat)(h2:Rz){P:AV×AH->Prop}(h:Gets (zv0 v8 l nc0_0 h2) P):Gets (qg7 l v8 nc0_0 h2) P:=
  gE (λ_=>qB (cfg:=cfg) (f:=114) (rd:=none) (bs:=2)) (by kernel_rfl) h
abbrev zw6(rs:Rz):Option (AV×AH):=some (AV.tup [],[.rows false 1 [[.ms 1 0 (qBe rs)]],.rows true 7 rs])
abbrev zw5(q:AV×AH)(rs:Rz):Option (AV×AH):=kInt .i64 q.1 λn=>zw6 rs
abbrev zw4(rest:Rz)(bs:AH)(row:List AV)(q:AV×AH):Option (AV×AH):=qX rest (qf bs λb bs=>qj b λd' n rs=>bif beqB true d'&&qBh n 7 then qT bs (qa row λc cs=>kMsE c λid off len=>bif qBh id 1&&(qBh off 0&&qBh len (qBe rs))then kNil cs (zw5 q rs)else none)else none)
abbrev zw3(rs:Rz)(bs:AH)(q:AV×AH):Option (AV×AH):=qN rs λrow rest=>zw4 rest bs row q
abbrev zw2(d':Bool)(n:Nat)(rs:Rz)(bs:AH)(q:AV×AH):Option (AV×AH):=bif beqB false d'&&qBh n 1 then zw3 rs bs q else none
abbrev zw1(b:ABlk)(bs:AH)(q:AV×AH):Option (AV×AH):=qj b λd' n rs=>zw2 d' n rs bs q
abbrev zw0(q:AV×AH):Option (AV×AH):=qf q.2 λb bs=>zw1 b bs q
abbrev zw7(k n:Int)(s:Bz)(l ins:Rz):Option (AV×AH):=kOpt (EVj (EV cfg) 105 1 [.ptr 0 0 0,.agg [.int .i64 7,.int .i64 0,.int .i64 0,.int .i64 k,.int .i64 n,.str s,.sl l]] [.rows false 1 [[.ms 1 0 (qBe ins)]],.rows true 7 ins]) λq=>zw0 q
theorem qtP(ins:Rz)(k n:Int)(s:Bz)(l:Rz){P:AV×AH->Prop}(h:Gets (bif k==2 then kOpt (EVs (EV cfg) 113 [.agg [.int .i64 k,.int .i64 n,.str s,.sl l]]) λv=>kTup v λcs=>qa cs λc cs=>kInt .i64 c λn_1=>qa cs λc cs=>qu c λb=>kNil cs (bif b then kOpt (EVj (EV cfg) 105 1 [.ptr 0 0 0,.agg [.int .i64 8,.int .i64 n_1,.int .i64 0,.int .i64 0,.int .i64 0,.str [],.sl []]] [.rows false 1 [[.ms 1 0 (qBe ins)]],.rows true 7 ins]) λq=>zw0 q else bif s==[(36:UInt8),(95:UInt8)]then kOpt (EVj (EV cfg) 105 1 [.ptr 0 0 0,AV.agg [.int .i64 9,.int .i64 0,.int .i64 0,.int .i64 0,.int .i64 0,.str [],.sl []]] [.rows false 1 [[.ms 1 0 (qBe ins)]],.rows true 7 ins]) λq=>zw0 q else bif s==[(36:UInt8),(36:UInt8)]then kOpt (EVj (EV cfg) 105 1 [.ptr 0 0 0,AV.agg [.int .i64 10,.int .i64 0,.int .i64 0,.int .i64 0,.int .i64 0,.str [],.sl []]] [.rows false 1 [[.ms 1 0 (qBe ins)]],.rows true 7 ins]) λq=>zw0 q else zw7 k n s l ins)else bif k==9 then kOpt (EVj (EV cfg) 114 1 [.ptr 0 0 0,.sl l] [.rows false 1 [[.ms 1 0 (qBe ins)]],.rows true 7 ins]) λq=>qf q.2 λb bs=>qj b λd' n rs=>bif beqB false d'&&qBh n 1 then qN rs λrow rest=>qX rest (qf bs λb bs=>qj b λd' n rs=>bif beqB true d'&&qBh n 7 then qT bs (qa row λc cs=>kMsE c λid off len=>bif qBh id 1&&(qBh off 0&&qBh len (qBe rs))then kNil cs (kOpt (EVj (EV cfg) 105 1 [.ptr 0 0 0,AV.agg [.int .i64 12,.int .i64 0,.int .i64 0,.int .i64 0,.int .i64 0,.str [],.sl []]] [.rows false 1 [[.ms 1 0 (qBe rs)]],.rows true 7 rs]) λq=>zw0 q)else none)else none)else none else bif k==7 then bif qn 0 (l.length:Int)then kOpt (qBg l 0) λrow=>bif qBh (qBe row) 4 then bif qBv 4 (qBe row)then kTmC (qBm 4 row) λn n_1 s rows=>(bif qh 1 (l.length:Int)then bif xR 4 l then bif n==7 then kOpt (EVj (EV cfg) 114 1 [.ptr 0 0 0,.sl rows] [.rows false 1 [[.ms 1 0 (qBe ins)]],.rows true 7 ins]) λq=>qf q.2 λb bs=>qj b λd' n rs=>bif beqB false d'&&qBh n 1 then qN rs λrow rest=>qX rest (qf bs λb bs=>qj b λd' n rs=>bif beqB true d'&&qBh n 7 then qT bs (qa row λc cs=>kMsE c λid off len=>bif qBh id 1&&(qBh off 0&&qBh len (qBe rs))then kNil cs (kOpt (EVj (EV cfg) 105 1 [.ptr 0 0 0,AV.agg [.int .i64 11,.int .i64 (rows.length:Int),.int .i64 0,.int .i64 0,.int .i64 0,.str [],.sl []]] [.rows false 1 [[.ms 1 0 (qBe rs)]],.rows true 7 rs]) λq=>zw0 q)else none)else none)else none else bif s==[(99:UInt8),(111:UInt8),(110:UInt8),(115:UInt8),(116:UInt8)]then bif qn 0 (↑ (qBe (qBm (qBe l - 1) (qBU 1 l))):Int)then kOpt (qBg (qBm (qBe l - 1) (qBU 1 l)) 0) λrow=>bif qBh (qBe row) 4 then bif qBv 4 (qBe row)then kTmC (qBm 4 row) λn n_2 s rows=>(kOpt (EVj (EV cfg) 105 1 [.ptr 0 0 0,AV.agg [.int .i64 7,.int .i64 0,.int .i64 0,.int .i64 n,.int .i64 n_2,.str s,.sl rows]] [.rows false 1 [[.ms 1 0 (qBe ins)]],.rows true 7 ins]) λq=>qf q.2 λb bs=>qj b λd' n rs=>bif beqB false d'&&qBh n 1 then qN rs λrow rest=>qX rest (qf bs λb bs=>qj b λd' n rs=>bif beqB true d'&&qBh n 7 then qT bs (qa row λc cs=>kMsE c λid off len=>bif qBh id 1&&(qBh off 0&&qBh len (qBe rs))then kNil cs (zw5 q rs)else none)else none)else none)else none else none else none else bif s==[(97:UInt8),(110:UInt8),(100:UInt8),(97:UInt8),(108:UInt8),(115:UInt8),(111:UInt8)]then kOpt (EVj (EV cfg) 115 1 [.ptr 0 0 0,.int .i64 15,.sl (qBm (qBe l - 1) (qBU 1 l))] [.rows false 1 [[.ms 1 0 (qBe ins)]],.rows true 7 ins]) λq=>qf q.2 λb bs=>qj b λd' n rs=>bif beqB false d'&&qBh n 1 then qN rs λrow rest=>qX rest (qf bs λb bs=>qj b λd' n rs=>bif beqB true d'&&qBh n 7 then qT bs (qa row λc cs=>kMsE c λid off len=>bif qBh id 1&&(qBh off 0&&qBh len (qBe rs))then kNil cs (zw6 rs)else none)else none)else none else bif s==[(111:UInt8),(114:UInt8),(101:UInt8),(108:UInt8),(115:UInt8),(101:UInt8)]then kOpt (EVj (EV cfg) 115 1 [.ptr 0 0 0,.int .i64 16,.sl (qBm (qBe l - 1) (qBU 1 l))] [.rows false 1 [[.ms 1 0 (qBe ins)]],.rows true 7 ins]) λq=>qf q.2 λb bs=>qj b λd' n rs=>bif beqB false d'&&qBh n 1 then qN rs λrow rest=>qX rest (qf bs λb bs=>qj b λd' n rs=>bif beqB true d'&&qBh n 7 then qT bs (qa row λc cs=>kMsE c λid off len=>bif qBh id 1&&(qBh off 0&&qBh len (qBe rs))then kNil cs (zw6 rs)else none)else none)else none else kOpt (EVj (EV cfg) 114 1 [.ptr 0 0 0,.sl (qBm (qBe l - 1) (qBU 1 l))] [.rows false 1 [[.ms 1 0 (qBe ins)]],.rows true 7 ins]) λq=>qf q.2 λb bs=>qj b λd' n_2 rs=>bif beqB false d'&&qBh n_2 1 then qN rs λrow rest=>qX rest (qf bs λb bs=>qj b λd' n_3 rs=>bif beqB true d'&&qBh n_3 7 then qT bs (qa row λc cs=>kMsE c λid off len=>bif qBh id 1&&(qBh off 0&&qBh len (qBe rs))then kNil cs (kOpt (EVj (EV cfg) 105 1 [.ptr 0 0 0,AV.agg [.int .i64 13,.int .i64 (↑ (qBe (qBm (qBe l - 1) (qBU 1 l))):Int),.int .i64 0,.int .i64 n,.int .i64 n_1,.str s,.sl rows]] [.rows false 1 [[.ms 1 0 (qBe rs)]],.rows true 7 rs]) λq=>zw0 q)else none)else none)else none else none else none)else none else none else none else zw7 k n s l ins) P):Gets (EVj (EV cfg) 63 1 [.ptr 0 0 0,.agg [.int .i64 k,.int .i64 n,.str s,.sl l]] ([ABlk.rows false (1:Nat) [[AV.ms (1:Nat) (0:Nat) (qBe ins)]],ABlk.rows true (7:Nat) ins]:AH)) P:=
  gE (λ_=>funJ rfl rfl Tryz.func63 rfl) (by kernel_rfl) h
abbrev mkH(r:List (List AV)):AH:=[.rows false 1 [[.ms 1 0 r.length]],.rows true 7 r]
theorem qvE{n:Nat}(h:n<=1099511627776):q8 n 80=true:=by unfold q8;simp only[nble,qBi,decide_eq_true_eq];omega
theorem qnr{ins:List InsA}(hi:ins.length<1099511627776)(o a b k n:Int)(s:List UInt8)(l:List Tm)(r:List (List AV))(hr:r=qb l):
  EVj (EV cfg) 105 1 [.ptr 0 0 0,.agg [.int .i64 o,.int .i64 a,.int .i64 b,.int .i64 k,.int .i64 n,.str s,.sl r]] (mkH (qo ins))=some (.int .i64 (ins.length:Int),mkH (qo (ins++[⟨o,a,b,.mk k n s l⟩]))):=by
 subst hr;apply Gets.get;refine qvW _ _ _ _ _ _ _ _ ?_;have e1:(qBv (0+(qo ins).length) (qo ins).length&&q8 ((qo ins).length+1) 80)=true:=by
  rw[vN,qvE (by omega),nble,qB3 (by omega)];rfl
 have e2:qBA (qBm (qo ins).length (qo ins)) [[AV.int .i64 o,.int .i64 a,.int .i64 b,.int .i64 k,.int .i64 n,.str s,.sl (qb l)]]=qo (ins++[⟨o,a,b,.mk k n s l⟩]):=by
  rw[qBt (qBp _),quP];show qo ins++_=qo ins++[InsA.row _];rw[InsA.row,Tm.cells_mk]
 have e3:qBf .i64 ((((qo ins).length+1:Nat):Int) - 1)=(ins.length:Int):=by
  rw[vN,vq (by omega) (by omega)];omega
 rw[e1,cond_true,e2,e3];refine⟨_,rfl,?_⟩;show _=(_,mkH _);rw[mkH,show(qo ins).length+1=(qo (ins++[⟨o,a,b,.mk k n s l⟩])).length by simp]
theorem qfQ{ins:List InsA}(hi:ins.length<1099511627776)(o a b:Int)(t:Tm):
  EVj (EV cfg) 105 1 [.ptr 0 0 0,.agg [.int .i64 o,.int .i64 a,.int .i64 b,.int .i64 t.kind,.int .i64 t.num,.str t.str,.sl (qb t.subs)]] (mkH (qo ins))=some (.int .i64 (ins.length:Int),mkH (qo (ins++[⟨o,a,b,t⟩]))):=by
 have:=qnr hi o a b t.kind t.num t.str t.subs _ rfl;rw[Tm.eta]at this;exact this
theorem yk{ins:List InsA}(hi:ins.length<1099511627776)(o a b:Int):
  EVj (EV cfg) 105 1 [.ptr 0 0 0,.agg [.int .i64 o,.int .i64 a,.int .i64 b,.int .i64 0,.int .i64 0,.str [],.sl []]] (mkH (qo ins))=some (.int .i64 (ins.length:Int),mkH (qo (ins++[⟨o,a,b,zT⟩]))):=
 qnr hi o a b 0 0 [] [] _ vo.symm
def qaf(t:Tm):Prop:=∀ins:List InsA,ins.length+t.w<1099511627776->EVj (EV cfg) 63 1 [.ptr 0 0 0,t.av] (mkH (qo ins))=some (.tup [],mkH (qo (ins++qL t ins.length)))
theorem qaf.c{t:Tm}(h:qaf t){ins:List InsA}(hw:ins.length+t.w<1099511627776):EVj (EV cfg) 63 1 [.ptr 0 0 0,.agg [.int .i64 t.kind,.int .i64 t.num,.str t.str,.sl (qb t.subs)]] (mkH (qo ins))=some (.tup [],mkH (qo (ins++qL t ins.length))):=by
 rw[qJ];exact h ins hw
theorem qvR{l:List Tm}(hx:∀t∈l,qaf t):∀(k i:Nat) (ins:List InsA),l.length - i=k->i<=l.length->ins.length+wL (l.drop i)<1099511627776->l.length<1099511627776 ->
  Gets (qg7 (qb l) (i:Int) (qo ins).length (qo ins)) (·=(.tup [],mkH (qo (ins++xq (l.drop i) ins.length)))):=by
 intro k
 induction k with
 |zero=>
  intro i ins hk hi hw hlen;refine qft _ _ _ _ ?_;unfold zv0 zv1 zv2 zv3 zv4 zv5 zv6;rw[qe,qB4 (by omega),cond_false];refine⟨_,rfl,?_⟩;rw[qBR (by omega),qc3,List.append_nil]
 |succ k ih=>
  intro i ins hk hi hw hlen;refine qft _ _ _ _ ?_;unfold zv0 zv1 zv2 zv3 zv4 zv5 zv6;have hil:i<l.length:=by omega
  have g0:l[i]? =some l[i]:=qBk hil;have hd:l.drop i=l[i]::l.drop (i+1):=by rw[qBJ hil]
  rw[hd,qE]at hw;have hc:=zj l[i] ins.length;have e1:(qh 0 (i:Int)&&qn (i:Int) ((qb l).length:Int))=true:=by simp;omega
  have hz:=(hx l[i] (List.getElem_mem hil)).c (ins:=ins) (by omega);rw[qB3 (show(i:Int)<((qb l).length:Int) by simp;omega),e1];simp only[xA g0,qc,qq,qp,qP,qM,qz,qBw,cond_true,qt,qC,qy,ql,qx,qO,qD,qQ,qv,show qBv 4 4=true from rfl,hz]
  rw[vn hil hlen];have:=ih (i+1) (ins++qL l[i] ins.length) (by omega) (by omega) (by simp;omega) hlen;rw[hd,qb9,←List.append_assoc];rw[qBr]at this;exact this
theorem qhY{l:List Tm}(hx:∀t∈l,qaf t){ins:List InsA}(hw:ins.length+wL l<1099511627776):
  EVj (EV cfg) 114 1 [.ptr 0 0 0,.sl (qb l)] (mkH (qo ins))=some (.tup [],mkH (qo (ins++xq l ins.length))):=by
 apply Gets.get;refine qtL _ _ ?_;refine qnA _ _ _ _ ?_;unfold zv0 zv1 zv2 zv3 zv4 zv5 zv6;have hlen:l.length<1099511627776:=by have:=qat l;omega
 cases l with
 |nil=>
  simp only[vo,List.length_nil];refine⟨_,rfl,?_⟩;rw[qc3,List.append_nil]
 |cons t l=>
  have g0:(t::l)[0]? =some t:=rfl;have e1:(qh 0 (0:Int)&&qn (0:Int) ((qb (t::l)).length:Int))=true:=by simp<;>omega
  have hz:=(hx t (by simp)).c (ins:=ins) (by rw[qE]at hw;omega);have g0':=xA g0;rw[qB3 (show(0:Int)<((qb (t::l)).length:Int) by simp<;>omega),e1];rw[show((0:Nat):Int)=0 from rfl]at g0';simp only[g0',qc,qq,qp,qP,qM,qz,qBw,cond_true,qt,qC,qy,ql,qx,qO,qD,qQ,qv,show qBv 4 4=true from rfl,hz]
  have hc:=zj t ins.length;have:=qvR (l:=t::l) hx l.length 1 (ins++qL t ins.length) (by simp) (by simp) (by rw[qE]at hw;simp;omega) hlen;rw[qb9,←List.append_assoc];rw[qBr]at this;exact this
theorem qm4(P Q:List InsA)(h h':InsA):List.set (qo (P++h::Q)) P.length h'.row=qo (P++h'::Q):=by
 unfold qo;rw[List.map_append,List.map_append,show P.length=(P.map InsA.row).length by simp,List.set_append];simp
theorem qm5(P Q:List InsA)(h:InsA):qBg (qo (P++h::Q)) P.length=some h.row:=by
 apply qjH;simp
theorem qvk(o:Int)(ins x y:List InsA):ins++qeC o ins.length x y=(ins++x)++(⟨o,0,((ins++x++[iz o 0 0]++y++[iz 17 0 0]).length:Int),zT⟩:InsA)::(y++[iz 17 0 0]):=by
 rw[qeC,←List.append_assoc];have:ins.length+x.length+1+y.length+1=(ins++x++[iz o 0 0]++y++[iz 17 0 0]).length:=by simp;omega
 rw[this]
theorem qvS(o:Int){a b:Tm}{r:List Tm}(ha:qaf a)(hb:qaf b){ins:List InsA}(hw:ins.length+(wL (a::b::r)+2)<1099511627776):
  EVj (EV cfg) 115 1 [.ptr 0 0 0,.int .i64 o,.sl (qb (a::b::r))] (mkH (qo ins))=some (.tup [],mkH (qo (ins++zo o (a::b::r) ins.length))):=by
 apply Gets.get;refine qtM _ _ _ ?_;rw[qE,qE]at hw;have la:=zj a ins.length;have z1:=ha.c (ins:=ins) (by omega);have z2:=yk (ins:=ins++qL a ins.length) (by simp;omega) o 0 0;have lb:=zj b (ins.length+(qL a ins.length).length+1);have hl2:(ins++qL a ins.length++[iz o 0 0]).length=ins.length+(qL a ins.length).length+1:=by simp;omega
 have z3:=hb.c (ins:=ins++qL a ins.length++[iz o 0 0]) (by rw[hl2];omega);rw[hl2]at z3;have z4:=yk (ins:=ins++qL a ins.length++[iz o 0 0]++qL b (ins.length+(qL a ins.length).length+1)) (by rw[qBr,hl2];omega) 17 0 0;have g0:qBg (qb (a::b::r)) 0=some a.cells:=by rw[qR];rfl
 have g1:qBg (qb (a::b::r)) 1=some b.cells:=by rw[qR,qR];rfl
 have e1:qn 0 ((qb (a::b::r)).length:Int)=true:=by simp<;>omega
 have e2:qn 1 ((qb (a::b::r)).length:Int)=true:=by simp<;>omega
 simp only[e1,e2,g0,g1,z1,z2,z3,z4,qc,qq,qp,qP,qM,qz,qBw,cond_true,qt,qC,qy,ql,qi,qx,qO,qD,qQ,qv,show qBv 4 4=true from rfl];generalize hy:qL b (ins.length+(qL a ins.length).length+1)=y at *;have e3:(qh 0 ((ins++qL a ins.length).length:Int)&&qn ((ins++qL a ins.length).length:Int) ((qo (ins++qL a ins.length++[iz o 0 0]++y++[iz 17 0 0])).length:Int))=true:=by
  rw[qZ,vO,vN];simp
 have e4:ins++qL a ins.length++[iz o 0 0]++y++[iz 17 0 0]=(ins++qL a ins.length)++iz o 0 0::(y++[iz 17 0 0]):=by simp
 rw[e3,cond_true,qBB,qB0];have e5:zo o (a::b::r) ins.length=qeC o ins.length (qL a ins.length) y:=by rw[qeD,hy]
 rw[e5,qvk,e4,qm5];simp only[qc,InsA.row_len,show qBv 3 7=true from rfl,cond_true];refine⟨_,rfl,?_⟩;have e6:∀n:Int,qBA (qBA (qBm 2 (iz o 0 0).row) [AV.int .i64 n]) (qBU 3 (iz o 0 0).row)=(iz o 0 n).row:=λn=>rfl
 rw[e6,qm4,vN];show _=(_,mkH _);rw[mkH,vN];simp
theorem yy{V:List Int}{l:List Tm}(h:allG V l=true):∀x∈l,isG V x=true:=by
 intro x hx;cases hn:isG V x with
 |true=>rfl
 |false=>rw[qgD.2 ⟨x,hx,hn⟩]at h;exact h
theorem qvU{V:List Int}:∀(n:Nat) (t:Tm),t.w<=n->isG V t=true->qaf t:=by
 intro n
 induction n with
 |zero=>intro t h;have:=t.w_eq;omega
 |succ n ih=>
  intro t h hg ins hw;have hwe:=t.w_eq;have hi:ins.length<1099511627776:=by omega
  apply Gets.get;rw[Tm.av,Tm.cells_eq];refine qtP _ _ _ _ _ ?_;unfold zw7 zw0 zw1 zw2 zw3 zw4 zw5 zw6
  by_cases h2:t.kind=2
  ·have hv:=qc2 (t:=t) (by omega);have b1:(t.kind==(2:Int))=true:=by simp[h2]
   have z:=qfQ hi 7 0 0 t;rw[qdC h2,b1,cond_true,qJ,hv];cases hvt:varT t with
   |some x=>
    simp only[varR,qc,qq,qp,qP,qM,qz,qBw,cond_true,qt,qC,qy,ql,qi,qx,qY,qd,qO,yk hi];exact⟨_,rfl,rfl⟩
   |none=>
    simp only[varR,qc,ql,qi,qx,qY,qd]
    by_cases s1:t.str=[36,95]
    ·have b2:(t.str==[36,95])=true:=by simp[s1]
     rw[b2,qB5 s1];simp only[qc,qq,qp,qP,qM,qz,qBw,cond_true,qt,qC,qy,ql,qi,qx,qO,yk hi];exact⟨_,rfl,rfl⟩
    have b2:(t.str==[36,95])=false:=by simp[s1]
    rw[b2,qB6 s1]
    by_cases s2:t.str=[36,36]
    ·have b3:(t.str==[36,36])=true:=by simp[s2]
     rw[b3,qB5 s2];simp only[qc,qq,qp,qP,qM,qz,qBw,cond_true,cond_false,qt,qC,qy,ql,qi,qx,qO,yk hi];exact⟨_,rfl,rfl⟩
    have b3:(t.str==[36,36])=false:=by simp[s2]
    rw[b3,qB6 s2];simp only[qc,qq,qp,qP,qM,qz,qBw,cond_true,cond_false,qt,qC,qy,ql,qi,qx,qO,z];exact⟨_,rfl,rfl⟩
  have b1:(t.kind==(2:Int))=false:=by simp[h2]
  rw[b1,cond_false]
  by_cases h9:t.kind=9
  ·have b2:(t.kind==(9:Int))=true:=by simp[h9]
   rw[qed h9]at hg;have hx:=λx hx=>ih x (by have:=xW (l:=t.subs) hx;omega) (yy hg x hx)
   have lm:=qjL t.subs ins.length;have z1:=qhY hx (ins:=ins) (by omega);have z2:=yk (ins:=ins++xq t.subs ins.length) (by rw[qBr];omega) 12 0 0;rw[b2,qdB h9];simp only[qc,qq,qp,qP,qM,qz,qBw,cond_true,qt,qC,qy,ql,qi,qx,qO,z1,z2]
   refine⟨_,rfl,?_⟩;rw[List.append_assoc]
  have b2:(t.kind==(9:Int))=false:=by simp[h9]
  rw[b2,cond_false]
  by_cases h7:t.kind=7
  ·have b3:(t.kind==(7:Int))=true:=by simp[h7]
   rw[b3,cond_true];cases hl:t.subs with
   |nil=>rw[qdK h7 hl]at hg;exact absurd hg (by simp)
   |cons f r=>
    rw[qdJ h7 hl]at hg;rw[hl,qE]at hwe;have hfe:=f.w_eq;have g0:qBg (qb (f::r)) 0=some f.cells:=by rw[qR];rfl
    have e1:qn 0 ((qb (f::r)).length:Int)=true:=by simp<;>omega
    have e2:qh 1 ((qb (f::r)).length:Int)=true:=by simp<;>omega
    have e3:qBm ((qb (f::r)).length - 1) (qBU 1 (qb (f::r)))=qb r:=by
     rw[qR];show qBm (qb r).length (qb r)=qb r;exact qBt (qBp _)
    simp only[e1,e2,e3,g0,qc,qz,cond_true,qD,qQ,qv,show qBv 4 4=true from rfl,qb5];rw[qeL h7 hl]
    by_cases f7:f.kind=7
    ·have b4:(f.kind==(7:Int))=true:=by simp[f7]
     rw[qB5 f7,qBi]at hg;have hx:=λx hx=>ih x (by have:=xW (l:=f.subs) hx;omega) (yy hg.2 x hx)
     have lm:=qjL f.subs ins.length;have z1:=qhY hx (ins:=ins) (by omega);have z2:=yk (ins:=ins++xq f.subs ins.length) (by rw[qBr];omega) 11 f.subs.length 0;rw[b4,qB5 f7];simp only[qc,qq,qp,qP,qM,qz,qBw,cond_true,qt,qC,qy,ql,qi,qx,qO,z1,z2,qe]
     refine⟨_,rfl,?_⟩;rw[List.append_assoc]
    have b4:(f.kind==(7:Int))=false:=by simp[f7]
    rw[b4,qB6 f7,cond_false];rw[qB6 f7]at hg;have f2:f.kind=2:=by
     by_cases f2:f.kind=2
     ·exact f2
     ·rw[qB6 f2]at hg;exact absurd hg (by simp)
    rw[qB5 f2]at hg
    by_cases s1:f.str=qfP
    ·have b5:(f.str==[99,111,110,115,116])=true:=by simp[s1,qfP]
     rw[qB5 (show f.str=[99,111,110,115,116]from s1)]at hg;rw[b5,qB5 s1,cond_true]
     match r,hg with
     |[c],_=>
      have g1:qBg (qb [c]) 0=some c.cells:=by rw[qR];rfl
      have e4:qn 0 ((qb [c]).length:Int)=true:=by simp<;>omega
      have z:=qfQ hi 7 0 0 c;simp only[g1,e4,qc,qq,qp,qP,qM,qz,qBw,cond_true,qt,qC,qy,ql,qi,qx,qO,qD,qQ,qv,show qBv 4 4=true from rfl,z];refine⟨_,rfl,?_⟩;rw[qda]
    have b5:(f.str==[99,111,110,115,116])=false:=by simpa [qfP]using s1
    rw[qB6 (show ¬f.str=[99,111,110,115,116]from s1),qBi]at hg;rw[b5,qB6 s1,cond_false];have hx:=λx hx=>ih x (by have:=xW (l:=r) hx;omega) (yy hg.2 x hx)
    have hz:(f.str=andS∨f.str=orS)->∀o:Int,EVj (EV cfg) 115 1 [.ptr 0 0 0,.int .i64 o,.sl (qb r)] (mkH (qo ins))=some (.tup [],mkH (qo (ins++zo o r ins.length))):=by
     intro hs o;have h2r:r.length=2:=by
      have h0:=hg.1;rcases hs with hs|hs<;>· rw[hs]at h0;have h0:(r.length:Int)=2:=(by simpa [opsG,qfC,qaK,andS,orS]using h0);omega
     match r,h2r with
     |[a,b],_=>
      have hfs:1<=f.str.length:=by rcases hs with hs|hs<;>· rw[hs];decide
      exact qvS o (hx a (by simp)) (hx b (by simp)) (by simp only[qE,xy]at hwe⊢;omega)
    by_cases s2:f.str=andS
    ·have b6:(f.str==[97,110,100,97,108,115,111])=true:=by simp[s2,andS]
     rw[b6,qB5 s2];simp only[qc,qq,qp,qP,qM,qz,qBw,cond_true,qt,qC,qy,ql,qx,qO,hz (Or.inl s2)];exact⟨_,rfl,rfl⟩
    have b6:(f.str==[97,110,100,97,108,115,111])=false:=by simpa [andS]using s2
    rw[b6,qB6 s2,cond_false]
    by_cases s3:f.str=orS
    ·have b7:(f.str==[111,114,101,108,115,101])=true:=by simp[s3,orS]
     rw[b7,qB5 s3];simp only[qc,qq,qp,qP,qM,qz,qBw,cond_true,qt,qC,qy,ql,qx,qO,hz (Or.inr s3)];exact⟨_,rfl,rfl⟩
    have b7:(f.str==[111,114,101,108,115,101])=false:=by simpa [orS]using s3
    rw[b7,qB6 s3,cond_false];have lm:=qjL r ins.length;have z1:=qhY hx (ins:=ins) (by omega);have z2:=qfQ (ins:=ins++xq r ins.length) (by rw[qBr];omega) 13 r.length 0 f;simp only[qc,qq,qp,qP,qM,qz,qBw,cond_true,qt,qC,qy,ql,qi,qx,qO,z1,z2,qe]
    refine⟨_,rfl,?_⟩;rw[List.append_assoc]
  have b3:(t.kind==(7:Int))=false:=by simp[h7]
  have z:=qfQ hi 7 0 0 t;rw[b3,qcS h2 h9 h7];simp only[qc,qq,qp,qP,qM,qz,qBw,cond_true,cond_false,qt,qC,qy,ql,qi,qx,qO,z];exact⟨_,rfl,rfl⟩
def qxM:Den:=evC cfg (EV cfg) 167 none 6 (sub (qg Tryz.f167) [1,1,1,1,0,1,0,0])
def qxT:Ex×List AV×AH->Option (AV×AH):=kAft (Cfg.keepOut cfg 167 16) (kRun cfg (EV cfg) (kfN cfg 6) 167 none 6 (qcK cfg 5 (Cfg.lift cfg 167 0) Tryz.f167.results.toList) ([.block 1]))
def qxI:List AV×AH->Option (AV×AH):=λp=>kOpt (LOOP 6 (some [3,69,70,71]) ([]) qxM p) qxT
abbrev qaN(l:Rz)(v71:Int)(m3:List (AV×AV))(nc4_0:Nat)(h6:Rz):Option (AV×AH):=qxI (((fx 79 [(3,.ptr 2 0 0),(69,.sl l),(70,.int .i64 (l.length:Int)),(71,.int .i64 v71)]):List AV),([.rows false 1 [[.mp 3]],.rows false 1 [[.ptr 4 0 0]],.rows false 1 [[.fn (Fn.func 167) [] [.ptr 0 0 0,.ptr 1 0 0,.ptr 2 0 0]]],.mp true m3,.rows false 1 [[.ms 6 0 nc4_0]],.dead,.rows true 7 h6]:AH))
theorem qtN(ins:Rz)(k n:Int)(s:Bz)(l:Rz){P:AV×AH->Prop}(h:Gets (kOpt (EVj (EV cfg) 167 5 [.agg [.int .i64 k,.int .i64 n,.str s,.sl l],.ptr 0 0 0,.ptr 1 0 0,.ptr 2 0 0] [.rows false 1 [[AV.mp 3]],.rows false 1 [[.ptr 4 0 0]],.rows false 1 [[AV.fn (Fn.func 167) [] [.ptr 0 0 0,.ptr 1 0 0,.ptr 2 0 0]]],ABlk.mp true [],.rows false 1 [[.ms 5 0 (qBe ins)]],.rows true 7 ins]) λq=>qf q.2 λb bs=>qj b λd' n rs=>bif beqB false d'&&qBh n 1 then qN rs λrow rest=>qX rest (qf bs λb bs=>qj b λd' n rs=>bif beqB false d'&&qBh n 1 then qN rs λrow_1 rest=>qX rest (qf bs λb bs=>qj b λd' n rs=>bif beqB false d'&&qBh n 1 then qN rs λrow_2 rest=>qX rest (qf bs λb bs=>kMpB b λd' es=>bif beqB true d' then qf bs λb bs=>qj b λd' n rs=>bif beqB false d'&&qBh n 1 then qN rs λrow_3 rest=>qX rest (qf bs λb bs=>qj b λd' n rs=>bif beqB true d'&&qBh n 7 then qT bs (qa row λc cs=>kMpE c λid=>bif qBh id 3 then kNil cs (qa row_1 λc cs=>qlk c λid r off=>bif qBh id 4&&(qBh r 0&&qBh off 0)then kNil cs (qa row_2 λc cs=>bif AV.same c (AV.fn (Fn.func 167) [] [.ptr 0 0 0,.ptr 1 0 0,.ptr 2 0 0])then kNil cs (qa row_3 λc cs=>kMsE c λid off len=>bif qBh id 5&&(qBh off 0&&qBh len (qBe rs))then kNil cs (some (AV.tup [],[.rows false 1 [[.ms 1 0 (qBe rs)]],.rows true 7 rs]))else none)else none)else none)else none)else none)else none else none)else none)else none)else none) P):Gets (EVj (EV cfg) 104 1 [.ptr 0 0 0,.agg [.int .i64 k,.int .i64 n,.str s,.sl l]] ([ABlk.rows false (1:Nat) [[AV.ms (1:Nat) (0:Nat) (qBe ins)]],ABlk.rows true (7:Nat) ins]:AH)) P:=
  gE (λ_=>funJ rfl rfl Tryz.func104 rfl) (by kernel_rfl) h
abbrev zx2(l:Rz)(es:List (AV×AV))(n_1:Int)(rs:Rz):Option (AV×AH):=qaN l 0 (qBA es [(.int .i64 n_1,.bool true)]) (qBe rs) rs
abbrev zx4(es:List (AV×AV))(n_1:Int)(rs:Rz):Option (AV×AH):=some (AV.tup [],[.rows false 1 [[AV.mp 3]],.rows false 1 [[.ptr 4 0 0]],.rows false 1 [[AV.fn (Fn.func 167) [] [.ptr 0 0 0,.ptr 1 0 0,.ptr 2 0 0]]],ABlk.mp true (qBA es [(.int .i64 n_1,.bool true)]),.rows false 1 [[.ms 5 0 (qBe rs)]],.rows true 7 rs])
abbrev zx3(k:Int)(l:Rz)(es:List (AV×AV))(n_1:Int)(rs:Rz):Option (AV×AH):=bif k==9 then zx2 l es n_1 rs else zx4 es n_1 rs
abbrev zx1(k:Int)(l:Rz)(es:List (AV×AV))(n_1:Int)(rs:Rz):Option (AV×AH):=bif k==7 then zx2 l es n_1 rs else zx3 k l es n_1 rs
abbrev zx0(q:AV×AH)(k:Int)(l:Rz)(es:List (AV×AV))(n_1:Int)(rs:Rz):Option (AV×AH):=kInt .i64 q.1 λn=>zx1 k l es n_1 rs
abbrev zx5(l:Rz)(es:List (AV×AV))(i:Nat)(n_1:Int)(rs:Rz):Option (AV×AH):=qaN l 0 (List.set es i (.int .i64 n_1,.bool true)) (qBe rs) rs
abbrev zx7(es:List (AV×AV))(i:Nat)(n_1:Int)(rs:Rz):Option (AV×AH):=some (AV.tup [],[.rows false 1 [[AV.mp 3]],.rows false 1 [[.ptr 4 0 0]],.rows false 1 [[AV.fn (Fn.func 167) [] [.ptr 0 0 0,.ptr 1 0 0,.ptr 2 0 0]]],ABlk.mp true (List.set es i (.int .i64 n_1,.bool true)),.rows false 1 [[.ms 5 0 (qBe rs)]],.rows true 7 rs])
abbrev zx6(k:Int)(l:Rz)(es:List (AV×AV))(i:Nat)(n_1:Int)(rs:Rz):Option (AV×AH):=bif k==9 then zx5 l es i n_1 rs else zx7 es i n_1 rs
abbrev zx11(es:List (AV×AV))(rs:Rz):Option (AV×AH):=some (AV.tup [],[.rows false 1 [[AV.mp 3]],.rows false 1 [[.ptr 4 0 0]],.rows false 1 [[AV.fn (Fn.func 167) [] [.ptr 0 0 0,.ptr 1 0 0,.ptr 2 0 0]]],ABlk.mp true es,.rows false 1 [[.ms 5 0 (qBe rs)]],.rows true 7 rs])
abbrev zx10(k:Int)(l:Rz)(es:List (AV×AV))(rs:Rz):Option (AV×AH):=bif k==9 then qaN l 0 es (qBe rs) rs else zx11 es rs
abbrev zx9(k:Int)(l:Rz)(es:List (AV×AV))(rs:Rz):Option (AV×AH):=bif k==7 then qaN l 0 es (qBe rs) rs else zx10 k l es rs
abbrev zx8(q:AV×AH)(k:Int)(l:Rz)(es:List (AV×AV))(rs:Rz):Option (AV×AH):=kInt .i64 q.1 λn=>zx9 k l es rs
abbrev zx18(k:Int)(l:Rz)(es:List (AV×AV))(rs:Rz):Option (AV×AH):=bif k==(7:Int)then qaN l 0 es (qBe rs) rs else zx10 k l es rs
abbrev zx17(q:AV×AH)(k:Int)(l:Rz)(es:List (AV×AV))(rs:Rz):Option (AV×AH):=kInt .i64 q.1 λn=>zx18 k l es rs
abbrev zx16(rest:Rz)(bs:AH)(row:List AV)(q:AV×AH)(k:Int)(l:Rz)(es:List (AV×AV)):Option (AV×AH):=qX rest (qf bs λb bs=>qj b λd' n rs=>bif beqB true d'&&qBh n 7 then qT bs (qa row λc cs=>kMsE c λid off len=>bif qBh id 1&&(qBh off 0&&qBh len (qBe rs))then kNil cs (zx17 q k l es rs)else none)else none)
abbrev zx15(rs:Rz)(bs:AH)(q:AV×AH)(k:Int)(l:Rz)(es:List (AV×AV)):Option (AV×AH):=qN rs λrow rest=>zx16 rest bs row q k l es
abbrev zx14(d':Bool)(n:Nat)(rs:Rz)(bs:AH)(q:AV×AH)(k:Int)(l:Rz)(es:List (AV×AV)):Option (AV×AH):=bif beqB false d'&&qBh n 1 then zx15 rs bs q k l es else none
abbrev zx13(b:ABlk)(bs:AH)(q:AV×AH)(k:Int)(l:Rz)(es:List (AV×AV)):Option (AV×AH):=qj b λd' n rs=>zx14 d' n rs bs q k l es
abbrev zx12(q:AV×AH)(k:Int)(l:Rz)(es:List (AV×AV)):Option (AV×AH):=qf q.2 λb bs=>zx13 b bs q k l es
abbrev zx28(k:Int)(l:Rz)(es:List (AV×AV))(i:Nat)(n_1:Int)(rs:Rz):Option (AV×AH):=bif k==(7:Int)then zx5 l es i n_1 rs else zx6 k l es i n_1 rs
abbrev zx27(q:AV×AH)(k:Int)(l:Rz)(es:List (AV×AV))(i:Nat)(n_1:Int)(rs:Rz):Option (AV×AH):=kInt .i64 q.1 λn=>zx28 k l es i n_1 rs
abbrev zx26(rest:Rz)(bs:AH)(row:List AV)(q:AV×AH)(k:Int)(l:Rz)(es:List (AV×AV))(i:Nat)(n_1:Int):Option (AV×AH):=qX rest (qf bs λb bs=>qj b λd' n rs=>bif beqB true d'&&qBh n 7 then qT bs (qa row λc cs=>kMsE c λid off len=>bif qBh id 1&&(qBh off 0&&qBh len (qBe rs))then kNil cs (zx27 q k l es i n_1 rs)else none)else none)
abbrev zx25(rs:Rz)(bs:AH)(q:AV×AH)(k:Int)(l:Rz)(es:List (AV×AV))(i:Nat)(n_1:Int):Option (AV×AH):=qN rs λrow rest=>zx26 rest bs row q k l es i n_1
abbrev zx24(d':Bool)(n:Nat)(rs:Rz)(bs:AH)(q:AV×AH)(k:Int)(l:Rz)(es:List (AV×AV))(i:Nat)(n_1:Int):Option (AV×AH):=bif beqB false d'&&qBh n 1 then zx25 rs bs q k l es i n_1 else none
abbrev zx23(b:ABlk)(bs:AH)(q:AV×AH)(k:Int)(l:Rz)(es:List (AV×AV))(i:Nat)(n_1:Int):Option (AV×AH):=qj b λd' n rs=>zx24 d' n rs bs q k l es i n_1
abbrev zx22(q:AV×AH)(k:Int)(l:Rz)(es:List (AV×AV))(i:Nat)(n_1:Int):Option (AV×AH):=qf q.2 λb bs=>zx23 b bs q k l es i n_1
abbrev zx21(n_1:Int)(ins:Rz)(k:Int)(l:Rz)(es:List (AV×AV))(i:Nat):Option (AV×AH):=kOpt (EVj (EV cfg) 105 1 [.ptr 0 0 0,AV.agg [.int .i64 3,.int .i64 n_1,.int .i64 0,.int .i64 0,.int .i64 0,.str [],.sl []]] [.rows false 1 [[.ms 1 0 (qBe ins)]],.rows true 7 ins]) λq=>zx22 q k l es i n_1
abbrev zx20(r:Option (Nat×AV))(n_1:Int)(ins:Rz)(k:Int)(l:Rz)(es:List (AV×AV)):Option (AV×AH):=ye r (kOpt (EVj (EV cfg) 105 1 [.ptr 0 0 0,AV.agg [.int .i64 3,.int .i64 n_1,.int .i64 0,.int .i64 0,.int .i64 0,.str [],.sl []]] [.rows false 1 [[.ms 1 0 (qBe ins)]],.rows true 7 ins]) λq=>qf q.2 λb bs=>qj b λd' n rs=>bif beqB false d'&&qBh n 1 then qN rs λrow rest=>qX rest (qf bs λb bs=>qj b λd' n rs=>bif beqB true d'&&qBh n 7 then qT bs (qa row λc cs=>kMsE c λid off len=>bif qBh id 1&&(qBh off 0&&qBh len (qBe rs))then kNil cs (zx0 q k l es n_1 rs)else none)else none)else none) λi x=>zx21 n_1 ins k l es i
abbrev zx19(n_1:Int)(es:List (AV×AV))(ins:Rz)(k:Int)(l:Rz):Option (AV×AH):=kOpt (vw (TD.int .i64) (.int .i64 n_1) es 0) λr=>zx20 r n_1 ins k l es
abbrev zx34(rest:Rz)(bs:AH)(row:List AV)(q:AV×AH)(k:Int)(l:Rz)(es:List (AV×AV)):Option (AV×AH):=qX rest (qf bs λb bs=>qj b λd' n rs=>bif beqB true d'&&qBh n 7 then qT bs (qa row λc cs=>kMsE c λid off len=>bif qBh id 1&&(qBh off 0&&qBh len (qBe rs))then kNil cs (zx8 q k l es rs)else none)else none)
abbrev zx33(rs:Rz)(bs:AH)(q:AV×AH)(k:Int)(l:Rz)(es:List (AV×AV)):Option (AV×AH):=qN rs λrow rest=>zx34 rest bs row q k l es
abbrev zx32(d':Bool)(n:Nat)(rs:Rz)(bs:AH)(q:AV×AH)(k:Int)(l:Rz)(es:List (AV×AV)):Option (AV×AH):=bif beqB false d'&&qBh n 1 then zx33 rs bs q k l es else none
abbrev zx31(b:ABlk)(bs:AH)(q:AV×AH)(k:Int)(l:Rz)(es:List (AV×AV)):Option (AV×AH):=qj b λd' n rs=>zx32 d' n rs bs q k l es
abbrev zx30(q:AV×AH)(k:Int)(l:Rz)(es:List (AV×AV)):Option (AV×AH):=qf q.2 λb bs=>zx31 b bs q k l es
abbrev zx29(ins:Rz)(k:Int)(l:Rz)(es:List (AV×AV)):Option (AV×AH):=kOpt (EVj (EV cfg) 105 1 [.ptr 0 0 0,AV.agg [.int .i64 5,.int .i64 (0:Int),.int .i64 0,.int .i64 0,.int .i64 0,.str [],.sl []]] [.rows false 1 [[.ms 1 0 (qBe ins)]],.rows true 7 ins]) λq=>zx30 q k l es
abbrev zx35(l ins:Rz)(k:Int)(es:List (AV×AV)):Option (AV×AH):=kOpt (EVj (EV cfg) 105 1 [.ptr 0 0 0,AV.agg [.int .i64 1,.int .i64 (l.length:Int),.int .i64 0,.int .i64 0,.int .i64 0,.str [],.sl []]] [.rows false 1 [[.ms 1 0 (qBe ins)]],.rows true 7 ins]) λq=>zx30 q k l es
abbrev zx36(ins:Rz)(k:Int)(l:Rz)(es:List (AV×AV)):Option (AV×AH):=kOpt (EVj (EV cfg) 105 1 [.ptr 0 0 0,AV.agg [.int .i64 2,.int .i64 0,.int .i64 0,.int .i64 0,.int .i64 0,.str [],.sl []]] [.rows false 1 [[.ms 1 0 (qBe ins)]],.rows true 7 ins]) λq=>zx30 q k l es
theorem qtQ(es:List (AV×AV))(ins:Rz)(k n:Int)(s:Bz)(l:Rz){P:AV×AH->Prop}(h:Gets (kOpt (EVs (EV cfg) 113 [.agg [.int .i64 k,.int .i64 n,.str s,.sl l]]) λv=>kTup v λcs=>qa cs λc cs=>kInt .i64 c λn_1=>qa cs λc cs=>qu c λb=>kNil cs (bif b then kOpt (vw (TD.int .i64) (.int .i64 n_1) es 0) λr=>ye r (bif b then kOpt (vw (TD.int .i64) (.int .i64 n_1) es 0) λr=>ye r (kOpt (EVj (EV cfg) 105 1 [.ptr 0 0 0,AV.agg [.int .i64 3,.int .i64 n_1,.int .i64 0,.int .i64 0,.int .i64 0,.str [],.sl []]] [.rows false 1 [[.ms 1 0 (qBe ins)]],.rows true 7 ins]) λq=>qf q.2 λb bs=>qj b λd' n rs=>bif beqB false d'&&qBh n 1 then qN rs λrow rest=>qX rest (qf bs λb bs=>qj b λd' n rs=>bif beqB true d'&&qBh n 7 then qT bs (qa row λc cs=>kMsE c λid off len=>bif qBh id 1&&(qBh off 0&&qBh len (qBe rs))then kNil cs (zx0 q k l es n_1 rs)else none)else none)else none) λi x=>kOpt (EVj (EV cfg) 105 1 [.ptr 0 0 0,AV.agg [.int .i64 3,.int .i64 n_1,.int .i64 0,.int .i64 0,.int .i64 0,.str [],.sl []]] [.rows false 1 [[.ms 1 0 (qBe ins)]],.rows true 7 ins]) λq=>qf q.2 λb bs=>qj b λd' n rs=>bif beqB false d'&&qBh n 1 then qN rs λrow rest=>qX rest (qf bs λb bs=>qj b λd' n rs=>bif beqB true d'&&qBh n 7 then qT bs (qa row λc cs=>kMsE c λid off len=>bif qBh id 1&&(qBh off 0&&qBh len (qBe rs))then kNil cs (kInt .i64 q.1 λn=>bif k==7 then zx5 l es i n_1 rs else zx6 k l es i n_1 rs)else none)else none)else none else kOpt (EVs (EV cfg) 168 [.agg [.int .i64 k,.int .i64 n,.str s,.sl l]]) λv=>qu v λb=>bif b then kOpt (EVj (EV cfg) 105 1 [.ptr 0 0 0,AV.agg [.int .i64 5,.int .i64 0,.int .i64 0,.int .i64 0,.int .i64 0,.str [],.sl []]] [.rows false 1 [[.ms 1 0 (qBe ins)]],.rows true 7 ins]) λq=>qf q.2 λb bs=>qj b λd' n rs=>bif beqB false d'&&qBh n 1 then qN rs λrow rest=>qX rest (qf bs λb bs=>qj b λd' n rs=>bif beqB true d'&&qBh n 7 then qT bs (qa row λc cs=>kMsE c λid off len=>bif qBh id 1&&(qBh off 0&&qBh len (qBe rs))then kNil cs (zx8 q k l es rs)else none)else none)else none else bif k==7 then kOpt (EVj (EV cfg) 105 1 [.ptr 0 0 0,AV.agg [.int .i64 1,.int .i64 (l.length:Int),.int .i64 0,.int .i64 0,.int .i64 0,.str [],.sl []]] [.rows false 1 [[.ms 1 0 (qBe ins)]],.rows true 7 ins]) λq=>qf q.2 λb bs=>qj b λd' n rs=>bif beqB false d'&&qBh n 1 then qN rs λrow rest=>qX rest (qf bs λb bs=>qj b λd' n rs=>bif beqB true d'&&qBh n 7 then qT bs (qa row λc cs=>kMsE c λid off len=>bif qBh id 1&&(qBh off 0&&qBh len (qBe rs))then kNil cs (zx8 q k l es rs)else none)else none)else none else bif k==9 then kOpt (EVj (EV cfg) 105 1 [.ptr 0 0 0,AV.agg [.int .i64 2,.int .i64 0,.int .i64 0,.int .i64 0,.int .i64 0,.str [],.sl []]] [.rows false 1 [[.ms 1 0 (qBe ins)]],.rows true 7 ins]) λq=>qf q.2 λb bs=>qj b λd' n rs=>bif beqB false d'&&qBh n 1 then qN rs λrow rest=>qX rest (qf bs λb bs=>qj b λd' n rs=>bif beqB true d'&&qBh n 7 then qT bs (qa row λc cs=>kMsE c λid off len=>bif qBh id 1&&(qBh off 0&&qBh len (qBe rs))then kNil cs (zx8 q k l es rs)else none)else none)else none else kOpt (EVj (EV cfg) 105 1 [.ptr 0 0 0,.agg [.int .i64 6,.int .i64 0,.int .i64 0,.int .i64 k,.int .i64 n,.str s,.sl l]] [.rows false 1 [[.ms 1 0 (qBe ins)]],.rows true 7 ins]) λq=>qf q.2 λb bs=>qj b λd' n rs=>bif beqB false d'&&qBh n 1 then qN rs λrow rest=>qX rest (qf bs λb bs=>qj b λd' n rs=>bif beqB true d'&&qBh n 7 then qT bs (qa row λc cs=>kMsE c λid off len=>bif qBh id 1&&(qBh off 0&&qBh len (qBe rs))then kNil cs (zx8 q k l es rs)else none)else none)else none) λx v=>qu v λb_1=>bif b_1 then kOpt (EVj (EV cfg) 105 1 [.ptr 0 0 0,AV.agg [.int .i64 4,.int .i64 n_1,.int .i64 0,.int .i64 0,.int .i64 0,.str [],.sl []]] [.rows false 1 [[.ms 1 0 (qBe ins)]],.rows true 7 ins]) λq=>zx12 q k l es else bif b then zx19 n_1 es ins k l else kOpt (EVs (EV cfg) 168 [.agg [.int .i64 k,.int .i64 n,.str s,.sl l]]) λv=>qu v λb=>bif b then zx29 ins k l es else bif k==7 then zx35 l ins k es else bif k==9 then zx36 ins k l es else kOpt (EVj (EV cfg) 105 1 [.ptr 0 0 0,AV.agg [.int .i64 6,.int .i64 0,.int .i64 0,.int .i64 k,.int .i64 n,.str s,.sl l]] [.rows false 1 [[.ms 1 0 (qBe ins)]],.rows true 7 ins]) λq=>zx12 q k l es else bif b then zx19 n_1 es ins k l else kOpt (EVs (EV cfg) 168 [.agg [.int .i64 k,.int .i64 n,.str s,.sl l]]) λv=>qu v λb=>bif b then zx29 ins k l es else bif k==7 then zx35 l ins k es else bif k==9 then zx36 ins k l es else kOpt (EVj (EV cfg) 105 1 [.ptr 0 0 0,.agg [.int .i64 6,.int .i64 0,.int .i64 0,.int .i64 k,.int .i64 n,.str s,.sl l]] [.rows false 1 [[.ms 1 0 (qBe ins)]],.rows true 7 ins]) λq=>zx12 q k l es)) P):Gets (EVj (EV cfg) 167 5 [.agg [.int .i64 k,.int .i64 n,.str s,.sl l],.ptr 0 0 0,.ptr 1 0 0,.ptr 2 0 0] ([ABlk.rows false (1:Nat) [[AV.mp (3:Nat)]],ABlk.rows false (1:Nat) [[AV.ptr (4:Nat) (0:Nat) (0:Nat)]],ABlk.rows false (1:Nat) [[AV.fn (Fn.func 167) [] [AV.ptr (0:Nat) (0:Nat) (0:Nat),AV.ptr (1:Nat) (0:Nat) (0:Nat),AV.ptr (2:Nat) (0:Nat) (0:Nat)]]],ABlk.mp true es,ABlk.rows false (1:Nat) [[AV.ms (5:Nat) (0:Nat) (qBe ins)]],ABlk.rows true (7:Nat) ins]:AH)) P:=
  gE (λ_=>funJ rfl rfl Tryz.func167 rfl) (by kernel_rfl) h
theorem qgI(l:Rz)(v71:Int)(m3:List (AV×AV))(nc4_0:Nat)(h6:Rz){P:AV×AH->Prop}(h:Gets (bif decide (v71<(l.length:Int))then bif qh 0 v71&&qn v71 (l.length:Int)then kOpt (qBg l (v71.toNat)) λrow=>bif qBh (qBe row) 4 then bif qBv 4 (qBe row)then kTmC (qBm 4 row) λn n_1 s rows=>(kOpt (EVj (EV cfg) 167 5 [.agg [.int .i64 n,.int .i64 n_1,.str s,.sl rows],.ptr 0 0 0,.ptr 1 0 0,.ptr 2 0 0] [.rows false 1 [[AV.mp 3]],.rows false 1 [[.ptr 4 0 0]],.rows false 1 [[AV.fn (Fn.func 167) [] [.ptr 0 0 0,.ptr 1 0 0,.ptr 2 0 0]]],ABlk.mp true m3,.rows false 1 [[.ms 5 0 nc4_0]],.rows true 7 h6]) λq=>qf q.2 λb bs=>qj b λd' n rs=>bif beqB false d'&&qBh n 1 then qN rs λrow rest=>qX rest (qf bs λb bs=>qj b λd' n rs=>bif beqB false d'&&qBh n 1 then qN rs λrow_1 rest=>qX rest (qf bs λb bs=>qj b λd' n rs=>bif beqB false d'&&qBh n 1 then qN rs λrow_2 rest=>qX rest (qf bs λb bs=>kMpB b λd' es=>bif beqB true d' then qf bs λb bs=>qj b λd' n rs=>bif beqB false d'&&qBh n 1 then qN rs λrow_3 rest=>qX rest (qf bs λb bs=>qj b λd' n rs=>bif beqB true d'&&qBh n 7 then qT bs (qa row λc cs=>kMpE c λid=>bif qBh id 3 then kNil cs (qa row_1 λc cs=>qlk c λid r off=>bif qBh id 4&&(qBh r 0&&qBh off 0)then kNil cs (qa row_2 λc cs=>bif AV.same c (AV.fn (Fn.func 167) [] [.ptr 0 0 0,.ptr 1 0 0,.ptr 2 0 0])then kNil cs (qa row_3 λc cs=>kMsE c λid off len=>bif qBh id 5&&(qBh off 0&&qBh len (qBe rs))then kNil cs (qaN l (qBf .i64 (v71+1)) es (qBe rs) rs)else none)else none)else none)else none)else none)else none else none)else none)else none)else none)else none else none else none else some (AV.tup [],[.rows false 1 [[AV.mp 3]],.rows false 1 [[.ptr 4 0 0]],.rows false 1 [[AV.fn (Fn.func 167) [] [.ptr 0 0 0,.ptr 1 0 0,.ptr 2 0 0]]],ABlk.mp true m3,.rows false 1 [[.ms 5 0 nc4_0]],.rows true 7 h6])) P):Gets (qaN l v71 m3 nc4_0 h6) P:=
  gE (λ_=>qB (cfg:=cfg) (f:=167) (rd:=none) (bs:=6)) (by kernel_rfl) h
abbrev mkD(es:List (AV×AV))(r:List (List AV)):AH:=[.rows false 1 [[.mp 3]],.rows false 1 [[.ptr 4 0 0]],.rows false 1 [[.fn (.func 167) [] [.ptr 0 0 0,.ptr 1 0 0,.ptr 2 0 0]]],.mp true es,.rows false 1 [[.ms 5 0 r.length]],.rows true 7 r]
theorem qvD:AV.same (AV.fn (Fn.func 167) [] [.ptr 0 0 0,.ptr 1 0 0,.ptr 2 0 0]) (AV.fn (Fn.func 167) [] [.ptr 0 0 0,.ptr 1 0 0,.ptr 2 0 0])=true:=by kernel_rfl
def qqd(t:Tm):Prop:=∀(V:List Int) (ins:List InsA),ins.length+t.w<1099511627776->EVj (EV cfg) 167 5 [.agg [.int .i64 t.kind,.int .i64 t.num,.str t.str,.sl (qb t.subs)],.ptr 0 0 0,.ptr 1 0 0,.ptr 2 0 0] (mkD (mV V) (qo ins))=some (.tup [],mkD (mV (vS t V).2) (qo (ins++(vS t V).1)))
theorem qpU{l:List Tm}(hx:∀t∈l,qqd t):∀(k i:Nat) (V:List Int) (ins:List InsA),l.length - i=k->i<=l.length->ins.length+wL (l.drop i)<1099511627776->l.length<1099511627776 ->
  Gets (qaN (qb l) (i:Int) (mV V) (qo ins).length (qo ins)) (·=(.tup [],mkD (mV (vU (l.drop i) V).2) (qo (ins++(vU (l.drop i) V).1)))):=by
 intro k
 induction k with
 |zero=>
  intro i V ins hk hi hw hlen;refine qgI _ _ _ _ _ ?_;rw[qe,qB4 (by omega),cond_false];refine⟨_,rfl,?_⟩;rw[qBR (by omega),qdz,List.append_nil]
 |succ k ih=>
  intro i V ins hk hi hw hlen;refine qgI _ _ _ _ _ ?_;have hil:i<l.length:=by omega
  have g0:l[i]? =some l[i]:=qBk hil;have hd:l.drop i=l[i]::l.drop (i+1):=by rw[qBJ hil]
  rw[hd,qE]at hw;have hc:=qjQ l[i] V;have e1:(qh 0 (i:Int)&&qn (i:Int) ((qb l).length:Int))=true:=by simp;omega
  have hz:=hx l[i] (List.getElem_mem hil) V ins (by omega);rw[qB3 (show(i:Int)<((qb l).length:Int) by simp;omega),e1];simp only[xA g0,qc,qq,qp,qP,qM,qz,qBw,cond_true,qt,qC,qy,ql,qx,qO,vY,vX,qnj,qvD,qD,qQ,qv,show qBv 4 4=true from rfl,hz]
  rw[vn hil hlen];have:=ih (i+1) (vS l[i] V).2 (ins++(vS l[i] V).1) (by omega) (by omega) (by simp;omega) hlen;rw[hd,qcN,←List.append_assoc];exact this
theorem qvV:∀(n:Nat) (t:Tm),t.w<=n->qqd t:=by
 intro n
 induction n with
 |zero=>intro t h;have:=t.w_eq;omega
 |succ n ih=>
  intro t h V ins hw;have hwe:=t.w_eq;have hi:ins.length<1099511627776:=by omega
  apply Gets.get;refine qtQ _ _ _ _ _ _ ?_;unfold zx36 zx35 zx29 zx30 zx31 zx32 zx33 zx34 zx19 zx20 zx21 zx22 zx23 zx24 zx25 zx26 zx27 zx28 zx12 zx13 zx14 zx15 zx16 zx17 zx18 zx8 zx9 zx10 zx11 zx6 zx7 zx5 zx0 zx1 zx3 zx4 zx2;have hv:=qc2 (t:=t) (by omega);have ha:=qm8 (t:=t) (by omega);have z6:=qfQ hi 6 0 0 t;have hx:∀x∈t.subs,qqd x:=λx hx=>ih x (by have:=xW hx;omega)
  have hlen:t.subs.length<1099511627776:=by have:=qat t.subs;omega
  rw[qgs];simp only[qJ,hv,ha];cases hvt:varT t with
  |some x=>
   have h2:t.kind=2:=by
    unfold varT at hvt;split at hvt
    ·rename_i h;exact h.1
    ·exact absurd hvt (by simp)
   have b7:(t.kind==(7:Int))=false:=by simp[h2]
   have b9:(t.kind==(9:Int))=false:=by simp[h2]
   by_cases hm:x∈V
   ·obtain⟨i,hf⟩:=qrT hm 0;simp only[varR,Option.isSome_some,Option.getD_some,qc,qq,qp,qP,qM,qz,qBw,cond_true,cond_false,qt,qC,qy,ql,qi,qx,qY,qd,qO,hf,yd,yk hi,b7,b9,qB5 hm];exact⟨_,rfl,rfl⟩
   ·have hf:=qrU hm 0;simp only[varR,Option.isSome_some,Option.getD_some,qc,qq,qp,qP,qM,qz,qBw,cond_true,cond_false,qt,qC,qy,ql,qi,qx,qY,qd,qO,hf,zL,yk hi,b7,b9,qB6 hm,qzg];exact⟨_,rfl,rfl⟩
  |none=>
   simp only[varR,Option.isSome_none,Option.getD_none,qc,cond_false,ql,qi,qx,qY,qd];cases hat:anyT t with
   |true=>
    have h2:t.kind=2:=by
     unfold anyT at hat;simp only[qBi,decide_eq_true_eq]at hat;exact hat.1
    have b7:(t.kind==(7:Int))=false:=by simp[h2]
    have b9:(t.kind==(9:Int))=false:=by simp[h2]
    simp only[qc,qq,qp,qP,qM,qz,qBw,cond_true,cond_false,qt,qC,qy,ql,qi,qx,qO,yk hi,b7,b9,if_true];exact⟨_,rfl,rfl⟩
   |false=>
    by_cases h7:t.kind=7
    ·have b7:(t.kind==(7:Int))=true:=by simp[h7]
     simp only[qc,qq,qp,qP,qM,qz,qBw,cond_true,cond_false,qt,qC,qy,ql,qi,qx,qO,yk hi,b7,qe];have:=qpU hx t.subs.length 0 V (ins++[iz 1 t.subs.length 0]) (by omega) (by omega) (by simp;omega) hlen;rw[qB6 (by simp),qB5 h7];rw[List.drop_zero,List.append_assoc]at this
     exact this
    have b7:(t.kind==(7:Int))=false:=by simp[h7]
    by_cases h9:t.kind=9
    ·have b9:(t.kind==(9:Int))=true:=by simp[h9]
     simp only[qc,qq,qp,qP,qM,qz,qBw,cond_true,cond_false,qt,qC,qy,ql,qi,qx,qO,yk hi,b7,b9];have:=qpU hx t.subs.length 0 V (ins++[iz 2 0 0]) (by omega) (by omega) (by simp;omega) hlen;rw[qB6 (by simp),qB6 h7,qB5 h9];rw[List.drop_zero,List.append_assoc]at this
     exact this
    have b9:(t.kind==(9:Int))=false:=by simp[h9]
    simp only[qc,qq,qp,qP,qM,qz,qBw,cond_true,cond_false,qt,qC,qy,ql,qi,qx,qO,z6,b7,b9];rw[qB6 (by simp),qB6 h7,qB6 h9];exact⟨_,rfl,rfl⟩
theorem qvT(t:Tm){ins:List InsA}(hw:ins.length+t.w<1099511627776):
  EVj (EV cfg) 104 1 [.ptr 0 0 0,t.av] (mkH (qo ins))=some (.tup [],mkH (qo (ins++(vS t []).1))):=by
 apply Gets.get;rw[Tm.av,Tm.cells_eq];refine qtN _ _ _ _ _ ?_;have hz:=qvV t.w t (qBp _) [] ins hw;rw[show mV []=[]from rfl]at hz;simp only[hz,qc,qq,qp,qP,qM,qz,qBw,cond_true,qt,qC,qy,ql,qx,qO,vY,vX,qnj,qvD];exact⟨_,rfl,rfl⟩
abbrev mkS(o:Tm)(self:Int)(L V:List (List AV))(es:List (AV×AV))(b:Bool):AH:=
 [.rows false 9 [[.int .i64 o.kind,.int .i64 o.num,.str o.str,.sl (qb o.subs),.int .i64 self,.ms 1 0 L.length,.ms 2 0 V.length,.mp 3,.bool b]],.rows true 4 L,.rows true 4 V,.mp true es]
def mB(m:List (Int×Tm)):List (AV×AV):=m.map λp=>(.int .i64 p.1,p.2.av)
abbrev stS(o:Tm)(self:Int)(s:SK):AH:=mkS o self (qb s.left.reverse) (qb s.vals.reverse) (mB s.binds) s.body
def howI:How->Int
 | .next=>0
 | .fails=>1
 | .jumps=>2
 | .raises=>3
 | .tells=>4
 | .broken=>5
theorem qb4(t:Tm)(r:List Tm):qb (t::r).reverse=qb r.reverse++[t.cells]:=by
 rw[List.reverse_cons,vH,qR,vo]
theorem quU(V:List (List AV))(z c:List AV):qBm (V.length+1) (List.set (qBA (qBm V.length V) [z]) (0+qBj (V.length:Int)) c)=V++[c]:=by
 rw[qBS,qB0,qBB];show qBm _ (List.set (V++[z]) _ _)=_;rw[List.set_append_right _ _ (qBp _),Nat.sub_self];show qBm _ (V++[c])=_;rw[qBt (by simp)]
theorem qwU(V:List (List AV))(z:List AV):qBg (qBA (qBm V.length V) [z]) (0+qBj (V.length:Int))=some z:=by
 rw[qBS,qB0,qBB,qI];show(V++[z])[V.length]? =_;rw[qBz (qBp _),Nat.sub_self];rfl
theorem qgg(R:List (List AV))(c:List AV):qBg (R++[c]) (0+qBj (R.length:Int))=some c:=by
 rw[qB0,qBB,qI,qBz (qBp _),Nat.sub_self];rfl
theorem qne(R:List (List AV))(c:List AV):qBm (qBj (R.length:Int) - 0) (R++[c])=R:=by
 rw[qBB,Nat.sub_zero,List.take_left]
theorem qgW{n:Nat}(h:n<1099511627776):qBf .i64 (((n+1:Nat):Int) - 1)=(n:Int):=by
 rw[vq (by omega) (by omega)];omega
theorem qdZ{t:Tm}(h:t.w<1099511627776):EVs (EV cfg) 42 [t.av]=some (.bool (decide (t.chk=0))):=by
 have hc:=qao h;apply Gets.get;rw[Tm.av,Tm.cells_eq]at hc⊢;refine quC _ _ _ _ ?_;rw[hc];simp only[qc,qi,beqI];exact⟨_,rfl,rfl⟩
theorem qaQ{o:Tm}{self:Int}{s:SK}{t:Tm}(ht:t.w<1099511627776)(hv:s.vals.length<1099511627776):
  EVj (EV cfg) 152 1 [.ptr 0 0 0,t.av] (stS o self s)=some (.int .i64 (howI (xN t s).1),stS o self (xN t s).2):=by
 have hm:=qdZ ht;apply Gets.get;rw[Tm.av,Tm.cells_eq]at hm⊢;refine qss _ _ _ _ _ _ _ _ _ _ _ _ _ ?_;rw[hm];simp only[qc,qd];unfold xN
 by_cases hc:t.chk=0
 ·rw[qB3 hc,qB5 hc];generalize hV:qb s.vals.reverse=V;have hl:V.length=s.vals.length:=by rw[←hV];simp
  have e1:(qBv (0+V.length) V.length&&q8 (V.length+1) 56)=true:=by
   rw[hl,y3 (by omega),nble,qB3 (by omega)];rfl
  have e2:(qh (0:Int) (V.length:Int)&&qn (V.length:Int) ((V.length+1:Nat):Int))=true:=by
   simp
  have e3:qb (t::s.vals).reverse=V++[t.cells]:=by rw[qb4,hV]
  rw[e1,e2,qwU];simp only[qc,cond_true,cond_false,qB1];refine⟨_,rfl,?_⟩;rw[quU];show _=(_,mkS o self _ (qb (t::s.vals).reverse) _ _);rw[e3,Tm.cells_eq,mkS,qBr];rfl
 ·rw[qB4 hc,qB6 hc];exact⟨_,rfl,rfl⟩
theorem quF{o:Tm}{self:Int}{s:SK}{x:InsA}(hx:x.o=14∨x.o=15∨x.o=16∨x.o=17∨x.o=19∨x.o=20)(hv:s.vals.length<1099511627776):
  EVj (EV cfg) 93 1 [.ptr 0 0 0,x.av] (stS o self s)=some (.int .i64 (howI (qbg s x).1),stS o self (qbg s x).2):=by
 obtain⟨L,V,B,b⟩:=s;apply Gets.get;rw[InsA.av,Tm.cells_eq];refine qsw _ _ _ _ _ _ _ _ _ _ _ _ _ _ _ _ ?_;unfold zt1;cases V with
 |nil=>exact⟨_,rfl,rfl⟩
 |cons t r=>
  have hr:r.length<1099511627776:=by simp at hv;omega
  rw[qb4];generalize hR:qb r.reverse=R;have hl:R.length=r.length:=by rw[←hR];simp
  have e0:((((R++[t.cells]).length:Nat):Int)==(0:Int))=false:=by simp<;>omega
  have e1:qBf .i64 ((((R++[t.cells]).length:Nat):Int) - 1)=(R.length:Int):=by
   rw[qBr];exact qgW (by omega)
  have e2:(qh (0:Int) (R.length:Int)&&qn (R.length:Int) (((R++[t.cells]).length:Nat):Int))=true:=by simp
  have e3:(qh (0:Int) (R.length:Int)&&qh (R.length:Int) (((R++[t.cells]).length:Nat):Int))=true:=by simp
  rw[e0,e1,e2,e3,qgg,qne];have et:(qBj (R.length:Int) - 0)=R.length:=by simp
  rw[et];have s1:∀(w:How),(AV.int .i64 (howI w),mkS o self (qb L.reverse) (R++[t.cells]) (mB B) b)=(AV.int .i64 (howI w),stS o self ⟨L,t::r,B,b⟩):=λw=>by
   rw[stS,qb4,hR]
  have s2:∀(w:How),(AV.int .i64 (howI w),mkS o self (qb L.reverse) R (mB B) b)=(AV.int .i64 (howI w),stS o self ⟨L,r,B,b⟩):=λw=>by
   rw[stS,hR]
  have ht4:qBm 4 t.cells=t.cells:=by rw[Tm.cells_eq];rfl
  have hl4:qBv 4 t.cells.length=true:=by rw[Tm.cells_eq];rfl
  simp only[qc,cond_false,cond_true,hl4,ht4,qv,beqI,beqS,show([116,114,117,101]:List UInt8)=tru from rfl,show([102,97,108,115,101]:List UInt8)=fal from rfl];unfold qbg vL;simp only[];have hft:fal≠tru:=by decide
  by_cases h2:t.kind=2
  ·by_cases h3:t.str=tru
   ·have h4:¬t.str=fal:=by rw[h3];decide
    rcases hx with hx|hx|hx|hx|hx|hx
    all_goals simp only[qBX,hx,h2,h3,decide_true,decide_false,cond_true,cond_false,and_self,if_true,if_false,reduceCtorEq]
    all_goals first|exact⟨_,rfl,s2 .next⟩|exact⟨_,rfl,s2 .fails⟩|exact⟨_,rfl,s1 .next⟩|exact⟨_,rfl,s1 .jumps⟩|exact⟨_,rfl,s1 .raises⟩|exact⟨_,rfl,s1 .tells⟩
   ·by_cases h4:t.str=fal
    ·rcases hx with hx|hx|hx|hx|hx|hx
     all_goals simp only[qBX,hx,h2,h4,hft,decide_true,decide_false,cond_true,cond_false,and_self,and_false,if_true,if_false,Option.some.injEq,reduceCtorEq,qB1]
     all_goals first|exact⟨_,rfl,s2 .next⟩|exact⟨_,rfl,s2 .fails⟩|exact⟨_,rfl,s1 .next⟩|exact⟨_,rfl,s1 .jumps⟩|exact⟨_,rfl,s1 .raises⟩|exact⟨_,rfl,s1 .tells⟩
    ·rcases hx with hx|hx|hx|hx|hx|hx
     all_goals simp only[qBX,hx,h2,h3,h4,decide_true,decide_false,cond_true,cond_false,and_false,if_true,if_false,reduceCtorEq,Bool.not_false]
     all_goals first|exact⟨_,rfl,s2 .next⟩|exact⟨_,rfl,s2 .fails⟩|exact⟨_,rfl,s1 .next⟩|exact⟨_,rfl,s1 .jumps⟩|exact⟨_,rfl,s1 .raises⟩|exact⟨_,rfl,s1 .tells⟩
  ·rcases hx with hx|hx|hx|hx|hx|hx
   all_goals simp only[qBX,hx,h2,decide_true,decide_false,cond_true,cond_false,false_and,if_true,if_false,reduceCtorEq]
   all_goals first|exact⟨_,rfl,s2 .next⟩|exact⟨_,rfl,s2 .fails⟩|exact⟨_,rfl,s1 .next⟩|exact⟨_,rfl,s1 .jumps⟩|exact⟨_,rfl,s1 .raises⟩|exact⟨_,rfl,s1 .tells⟩
theorem qfF{a:Int}:∀{B:List (Int×Tm)} (j:Nat),qG a B=none->vw (TD.int .i64) (.int .i64 a) (mB B) j=some none
 |[],_,_=>rfl
 |p::B,j,h=>by
  rw[qG]at h;split at h
  ·cases h
  ·rename_i hp;show vw _ _ ((.int .i64 p.1,p.2.av)::mB B) j=_;rw[vw];have e:qak (TD.int .i64) (.int .i64 a) (.int .i64 p.1)=some false:=by
    unfold qak;simp;exact λh=>hp h.symm
   rw[e];exact qfF (j+1) h
theorem qfE{a:Int}{t:Tm}:∀{B:List (Int×Tm)} (j:Nat),qG a B=some t->∃i,vw (TD.int .i64) (.int .i64 a) (mB B) j=some (some (j+i,t.av))∧∀x:Tm,List.set (mB B) i (.int .i64 a,x.av)=mB (putB a x B)
 |[],_,h=>by cases h
 |p::B,j,h=>by
  rw[qG]at h;split at h
  ·rename_i hp;cases h;have e:qak (TD.int .i64) (.int .i64 a) (.int .i64 p.1)=some true:=by
    unfold qak;simp[hp]
   refine⟨0,?_,λx=>?_⟩
   ·show vw _ _ ((.int .i64 p.1,p.2.av)::mB B) j=_;rw[vw,e];rfl
   ·rw[putB,qB5 hp];rfl
  ·rename_i hp;have e:qak (TD.int .i64) (.int .i64 a) (.int .i64 p.1)=some false:=by
    unfold qak;simp;exact λh=>hp h.symm
   obtain⟨i,h1,h2⟩:=qfE (j+1) h;refine⟨i+1,?_,λx=>?_⟩
   ·show vw _ _ ((.int .i64 p.1,p.2.av)::mB B) j=_;rw[vw,e];simp only[];rw[h1,show j+1+i=j+(i+1) by omega]
   ·rw[putB,qB6 hp];show(.int .i64 p.1,p.2.av)::List.set (mB B) i _=_;rw[h2];rfl
theorem qvc{a:Int}{t:Tm}:∀{B:List (Int×Tm)},qG a B=none->mB (putB a t B)=mB B++[(.int .i64 a,t.av)]
 |[],_=>rfl
 |p::B,h=>by
  rw[qG]at h;split at h
  ·cases h
  ·rename_i hp;rw[putB,qB6 hp];show(.int .i64 p.1,p.2.av)::mB (putB a t B)=(.int .i64 p.1,p.2.av)::(mB B++_);rw[qvc h]
theorem qdW{c:Nat}:∀{l:List Tm},(∀x∈l,x.w<=c)->wL l<=c*l.length
 |[],_=>by simp
 |x::l,h=>by
  rw[qE,qBK,Nat.mul_succ];have h1:=h x (by simp);have h2:=qdW (l:=l) λy hy=>h y (by simp[hy])
  omega
theorem qrS:∀l:List Tm,(qbf l qbA).w=l.length+wL l+1
 |[]=>by simp[qbf,qbA,Tm.w_mk]
 |x::l=>by
  have h:=qrS l;show(qin x (qbf l qbA)).w=_;unfold qin;rw[Tm.w_mk,qE,qE,xy,h,qE];simp;omega
theorem qkE{l:List Tm}(h:∀x∈l,x.chk=0)(hl:l.length<=200000):wL l<=851968000000:=by
 have:=qdW (l:=l) (c:=4259840) λx hx=>xx (h x hx)
 have h2:4259840*l.length<=4259840*200000:=Nat.mul_le_mul_left _ hl;omega
theorem qw1:qbA.av= .agg [.int .i64 8,.int .i64 0,.str [],.sl []]:=by rw[qbA,Tm.av_mk];rfl
theorem qqC{o:Tm}{self:Int}{s:SK}(hs:SOk s)(hv:s.vals.length<=200000):∀(d i:Nat),i+d=100 ->
  Gets (qdT ((qBT i).filterMap λn:Nat=>qG (n:Int) s.binds).length (i:Int) o.kind o.num o.str (qb o.subs) self (qb s.left.reverse).length (qb s.vals.reverse).length s.body (qb s.left.reverse) (qb s.vals.reverse) (mB s.binds) (qb ((qBT i).filterMap λn:Nat=>qG (n:Int) s.binds)))
   (·=(.int .i64 (howI (xN (qbf (allB s.binds) qbA) s).1),stS o self (xN (qbf (allB s.binds) qbA) s).2)):=by
 intro d
 induction d with
 |zero=>
  intro i hi;obtain rfl:i=100:=by omega
  refine qgE _ _ _ _ _ _ _ _ _ _ _ _ _ _ ?_;unfold zt7 zt8;show Gets (bif decide ((((100:Nat)):Int)<(100:Int))then _ else _) _;rw[qB4 (by decide),cond_false];show Gets (bif qBv (0+(allB s.binds).length) (qb (allB s.binds)).length&&true then kOpt (EVf (EV cfg) _ [.sl (qBm (allB s.binds).length (qb (allB s.binds))),_]) _ else none) _;have hA:∀x∈allB s.binds,x.chk=0:=λx hx=>by
   obtain⟨n,_,h⟩:=List.mem_filterMap.1 hx;exact(hs.binds _ (xD h)).1
  have hAl:(allB s.binds).length<=100:=by unfold allB;exact Nat.le_trans (List.length_filterMap_le _ _) (by simp)
  have hw:=qkE hA (by omega);have hm:=qja (l:=allB s.binds) (by omega) qbA;rw[qw1]at hm;have hz:=qaQ (o:=o) (self:=self) (s:=s) (t:=qbf (allB s.binds) qbA) (by rw[qrS];omega) (by omega);rw[qe,nble,qB3 (by omega),qBt (by simp),hm];simp only[cond_true,qc,qW,qBS,qJ,hz,qq,qp,qP,qM,qz,qBw,qt,qC,qy,ql,qw,qi,q4,qx,qd,qO,vY,vX]
  exact⟨_,rfl,rfl⟩
 |succ d ih=>
  intro i hi;refine qgE _ _ _ _ _ _ _ _ _ _ _ _ _ _ ?_;unfold zt7 zt8;have h1:=ih (i+1) (by omega);rw[qB3 (show(i:Int)<100 by omega),cond_true,vn (show i<100 by omega) (by omega)];have hr:qBT (i+1)=qBT i++[i]:=List.range_succ;rw[hr,List.filterMap_append]at h1;cases hl:qG (i:Int) s.binds with
  |none=>
   rw[qfF 0 hl];have e:([i]:List Nat).filterMap (λn:Nat=>qG (n:Int) s.binds)=[]:=by
    simp only[List.filterMap_cons,hl,List.filterMap_nil]
   rw[e,List.append_nil]at h1;exact h1
  |some t=>
   obtain⟨j,hj,_⟩:=qfE 0 hl;rw[hj];have e:([i]:List Nat).filterMap (λn:Nat=>qG (n:Int) s.binds)=[t]:=by
    simp only[List.filterMap_cons,hl,List.filterMap_nil]
   rw[e]at h1;have hAl:((qBT i).filterMap λn:Nat=>qG (n:Int) s.binds).length<=100:=Nat.le_trans (List.length_filterMap_le _ _) (by simp;omega);generalize (qBT i).filterMap (λn:Nat=>qG (n:Int) s.binds)=A at *;have e1:(qBv (0+A.length) (qb A).length&&q8 (A.length+1) 56)=true:=by
    rw[qe,y3 (by omega),nble,qB3 (by omega)];rfl
   have e2:qBA (qBm A.length (qb A)) [[AV.int .i64 t.kind,.int .i64 t.num,.str t.str,.sl (qb t.subs)]]=qb (A++[t]):=by
    rw[qBt (by simp),vH,qR,vo,Tm.cells_eq];rfl
   simp only[qc,yd,qW,e1,cond_true,e2];rw[qBr]at h1;exact h1
theorem quG{o:Tm}{self:Int}{s:SK}{x:InsA}(hx:x.o=7∨x.o=8∨x.o=9∨x.o=10)(hxw:x.t.w<1099511627776)(ho:o.chk=0)(hs:SOk s)(hv:s.vals.length<=200000):
  EVj (EV cfg) 91 1 [.ptr 0 0 0,x.av] (stS o self s)=some (.int .i64 (howI (qaL opsK o s x).1),stS o self (qaL opsK o s x).2):=by
 have how:=xx ho;have hm:=qdZ hxw;have hzo:=qaQ (o:=o) (self:=self) (s:=s) (t:=o) (by omega) (by omega);have hzx:=qaQ (o:=o) (self:=self) (s:=s) (t:=x.t) hxw (by omega);have hloop:=qqC (o:=o) (self:=self) hs hv 100 0 (by omega);apply Gets.get;rw[InsA.av,Tm.cells_eq];refine qsx _ _ _ _ _ _ _ _ _ _ _ _ _ _ _ _ ?_;unfold zt2 zt3 zt4 zt5 zt6 zt7 zt8 zt1;unfold qaL;rcases hx with hx|hx|hx|hx
 ·simp only[hx,beqI,qBX,decide_true,cond_true,qJ,hm,qc,qd,if_true]
  by_cases hc:x.t.chk=0
  ·simp only[hc,decide_true,qB1,cond_false,if_true,qBS,hzx,qc,qq,qp,qP,qM,qz,qBw,cond_true,qt,qC,qy,ql,qw,qi,q4,qx,qd,qO,vY,vX];exact⟨_,rfl,rfl⟩
  ·simp only[hc,decide_false,Bool.not_false,cond_true,if_false];exact⟨_,rfl,rfl⟩
 ·simp only[hx,beqI,qBX,decide_true,decide_false,cond_true,cond_false,if_true,if_false];cases hl:qG x.a s.binds with
  |none=>
   rw[qfF 0 hl];exact⟨_,rfl,rfl⟩
  |some t=>
   obtain⟨j,hj,_⟩:=qfE 0 hl;have htw:=xx (hs.binds _ (xD hl)).1;have hzt:=qaQ (o:=o) (self:=self) (s:=s) (t:=t) (by simp only[]at htw;omega) (by omega);rw[hj];simp only[qc,yd,qW,qJ,qBS,hzt,qq,qp,qP,qM,qz,qBw,cond_true,qt,qC,qy,ql,qw,qi,q4,qx,qd,qO,vY,vX]
   exact⟨_,rfl,rfl⟩
 ·simp only[hx,beqI,qBX,decide_true,decide_false,cond_true,cond_false,if_true,if_false,qJ,qBS,hzo,qc,qq,qp,qP,qM,qz,qBw,qt,qC,qy,ql,qw,qi,q4,qx,qd,qO,vY,vX];exact⟨_,rfl,rfl⟩
 ·simp only[hx,beqI,qBX,decide_false,cond_false,if_false];exact hloop
def qxJ:Den:=evC cfg (EV cfg) 203 none 9 (sub (qg Tryz.f203) [1,0,0])
def qxQ:Ex×List AV×AH->Option (AV×AH):=kAft (Cfg.keepOut cfg 203 (qk (sub (qg Tryz.f203) [1,0,0]))) (vP 0 (xO cfg (Cfg.lift cfg 203 0) (fun(v:AV) (H:AH)=>(fun(r:AV×AH)=>ym 4 8 (fx 169 [(41,AV.ptr 0 0 5)]) (vP 2 (vP 0 (kSeq (fun(fr:List AV) (H:AH)=>xa (Cfg.cut cfg 90 (qk (sub (qg Tryz.f90) [1,1,1,1,1]))) fr H fun(fr:List AV) (H:AH)=>vh cfg (EV cfg) (kfN cfg 6) 90 none 4 (sub (qg Tryz.f90) [1,1,1,1,1]) fr H (qcK cfg 1 (Cfg.lift cfg 90 0) (qBM (Func.results Tryz.f90)))) (qcK cfg 1 (Cfg.lift cfg 90 0) (qBM (Func.results Tryz.f90)))))) (Prod.snd r)) (v,H)) (qBM (Func.results (Prod.snd (203,Tryz.f203))))))
def qqa:List AV×AH->Option (AV×AH):=fun(p:List AV×AH)=>kOpt (LOOP 9 (some [0,1,3]) [] qxJ p) qxQ
abbrev xw(v3 c0_0 c0_1:Int)(c0_2:Bz)(c0_3:Rz)(c0_4:Int)(nc0_5 nc0_6:Nat)(c0_8:Bool)(h1 h2:Rz)(m3:List (AV×AV))(c5_0 c5_1 c5_2 c5_3 c5_4:Int)(c5_5:Bz)(c5_6:Rz)(c6_0 c6_1:Int)(c6_2:Bz)(c6_3 c7_0:Rz):Option (AV×AH):=qqa (((fx 19 [(0,.yld 8),(1,.ptr 7 0 0),(3,.int .i64 v3)]):List AV),([.rows false 9 [[.int .i64 c0_0,.int .i64 c0_1,.str c0_2,.sl c0_3,.int .i64 c0_4,.ms 1 0 nc0_5,.ms 2 0 nc0_6,.mp 3,.bool c0_8]],.rows true 4 h1,.rows true 4 h2,.mp true m3,.rows false 1 [[.ptr 0 0 0]],.rows false 7 [[.int .i64 c5_0,.int .i64 c5_1,.int .i64 c5_2,.int .i64 c5_3,.int .i64 c5_4,.str c5_5,.sl c5_6]],.rows false 4 [[.int .i64 c6_0,.int .i64 c6_1,.str c6_2,.sl c6_3]],.rows false 1 [[.sl c7_0]],rngB Tryz.f90 90 [1,1,1,1,0,1,0,1,0,1,1,0] (fx 169 [(2,.ptr 4 0 0)]) none LoopState.ready]:AH))
abbrev qeq(v3 c0_0 c0_1:Int)(c0_2:Bz)(c0_3:Rz)(c0_4:Int)(nc0_5 nc0_6:Nat)(c0_8:Bool)(h2:Rz)(m3:List (AV×AV))(c5_0 c5_1 c5_2 c5_3 c5_4:Int)(c5_5:Bz)(c5_6:Rz)(c6_0 c6_1:Int)(c6_2:Bz)(c6_3 c7_0 h9:Rz):Option (AV×AH):=qqa (((fx 19 [(0,.yld 8),(1,.ptr 7 0 0),(3,.int .i64 v3)]):List AV),([.rows false 9 [[.int .i64 c0_0,.int .i64 c0_1,.str c0_2,.sl c0_3,.int .i64 c0_4,.ms 9 0 nc0_5,.ms 2 0 nc0_6,.mp 3,.bool c0_8]],.dead,.rows true 4 h2,.mp true m3,.rows false 1 [[.ptr 0 0 0]],.rows false 7 [[.int .i64 c5_0,.int .i64 c5_1,.int .i64 c5_2,.int .i64 c5_3,.int .i64 c5_4,.str c5_5,.sl c5_6]],.rows false 4 [[.int .i64 c6_0,.int .i64 c6_1,.str c6_2,.sl c6_3]],.rows false 1 [[.sl c7_0]],rngB Tryz.f90 90 [1,1,1,1,0,1,0,1,0,1,1,0] (fx 169 [(2,.ptr 4 0 0)]) none LoopState.ready,.rows true 4 h9]:AH))
theorem qqB(ko no self:Int)(so:Bz)(lo L V:Rz)(es:List (AV×AV))(bd:Bool)(o a b k n:Int)(w:Bz)(l:Rz){P:AV×AH->Prop}(h:Gets (bif(L.length:Int)==0 then some (.int .i64 5,[.rows false 9 [[AV.int .i64 ko,.int .i64 no,.str so,.sl lo,.int .i64 self,.ms 1 0 (qBe L),.ms 2 0 (qBe V),AV.mp 3,.bool bd]],.rows true 4 L,.rows true 4 V,ABlk.mp true es])else bif qh 0 (qBf .i64 ((L.length:Int) - 1))&&qn (qBf .i64 ((L.length:Int) - 1)) (L.length:Int)then kOpt (qBg L (0+qBj (qBf .i64 ((L.length:Int) - (1:Int))))) λrow=>bif qBv 4 (qBe row)then kTmC (qBm 4 row) λn_1 n_2 s rows=>(bif qh 0 (qBf .i64 ((L.length:Int) - 1))&&qh (qBf .i64 ((L.length:Int) - 1)) (L.length:Int)then bif o==1 then bif o==(1:Int)then bif decide (a<0)then some (.int .i64 5,[.rows false 9 [[AV.int .i64 ko,.int .i64 no,.str so,.sl lo,.int .i64 self,.ms 1 0 (qBj (qBf .i64 ((L.length:Int) - 1)) - 0),.ms 2 0 (qBe V),AV.mp 3,.bool bd]],.rows true 4 (qBm (qBj (qBf .i64 ((L.length:Int) - 1)) - 0) L),.rows true 4 V,ABlk.mp true es])else bif o==1 then bif n_1 != 7 then some (.int .i64 1,[.rows false 9 [[AV.int .i64 ko,.int .i64 no,.str so,.sl lo,.int .i64 self,.ms 1 0 (qBj (qBf .i64 ((L.length:Int) - 1)) - 0),.ms 2 0 (qBe V),AV.mp 3,.bool bd]],.rows true 4 (qBm (qBj (qBf .i64 ((L.length:Int) - 1)) - 0) L),.rows true 4 V,ABlk.mp true es])else bif(rows.length:Int) != a then some (.int .i64 1,[.rows false 9 [[AV.int .i64 ko,.int .i64 no,.str so,.sl lo,.int .i64 self,.ms 1 0 (qBj (qBf .i64 ((L.length:Int) - 1)) - 0),.ms 2 0 (qBe V),AV.mp 3,.bool bd]],.rows true 4 (qBm (qBj (qBf .i64 ((L.length:Int) - 1)) - 0) L),.rows true 4 V,ABlk.mp true es])else bif o==2 then bif n_1 != 9 then some (.int .i64 1,[.rows false 9 [[AV.int .i64 ko,.int .i64 no,.str so,.sl lo,.int .i64 self,.ms 1 0 (qBj (qBf .i64 ((↑ (qBe L):Int) - 1)) - 0),.ms 2 0 (qBe V),AV.mp 3,.bool bd]],.rows true 4 (qBm (qBj (qBf .i64 ((L.length:Int) - 1)) - 0) L),.rows true 4 V,ABlk.mp true es])else xw (qBf .i64 ((rows.length:Int) - 1)) ko no so lo self (qBj (qBf .i64 ((L.length:Int) - (1:Int))) - 0) (qBe V) bd L V es o a b k n w l n_1 n_2 s rows rows else xw (qBf .i64 ((rows.length:Int) - 1)) ko no so lo self (qBj (qBf .i64 ((L.length:Int) - 1)) - 0) (qBe V) bd L V es o a b k n w l n_1 n_2 s rows rows else bif o==2 then bif n_1 != 9 then some (.int .i64 1,[.rows false 9 [[AV.int .i64 ko,.int .i64 no,.str so,.sl lo,.int .i64 self,.ms 1 0 (qBj (qBf .i64 ((L.length:Int) - 1)) - 0),.ms 2 0 (qBe V),AV.mp 3,.bool bd]],.rows true 4 (qBm (qBj (qBf .i64 ((L.length:Int) - 1)) - 0) L),.rows true 4 V,ABlk.mp true es])else xw (qBf .i64 ((rows.length:Int) - 1)) ko no so lo self (qBj (qBf .i64 ((L.length:Int) - 1)) - 0) (qBe V) bd L V es o a b k n w l n_1 n_2 s rows rows else xw (qBf .i64 ((rows.length:Int) - 1)) ko no so lo self (qBj (qBf .i64 ((L.length:Int) - 1)) - 0) (qBe V) bd L V es o a b k n w l n_1 n_2 s rows rows else bif o==1 then bif n_1 != 7 then some (.int .i64 1,[.rows false 9 [[AV.int .i64 ko,.int .i64 no,.str so,.sl lo,.int .i64 self,.ms 1 0 (qBj (qBf .i64 ((L.length:Int) - 1)) - 0),.ms 2 0 (qBe V),AV.mp 3,.bool bd]],.rows true 4 (qBm (qBj (qBf .i64 ((L.length:Int) - 1)) - 0) L),.rows true 4 V,ABlk.mp true es])else bif(rows.length:Int) != a then some (.int .i64 1,[.rows false 9 [[AV.int .i64 ko,.int .i64 no,.str so,.sl lo,.int .i64 self,.ms 1 0 (qBj (qBf .i64 ((L.length:Int) - 1)) - 0),.ms 2 0 (qBe V),AV.mp 3,.bool bd]],.rows true 4 (qBm (qBj (qBf .i64 ((L.length:Int) - 1)) - 0) L),.rows true 4 V,ABlk.mp true es])else bif o==2 then bif n_1 != 9 then some (.int .i64 1,[.rows false 9 [[AV.int .i64 ko,.int .i64 no,.str so,.sl lo,.int .i64 self,.ms 1 0 (qBj (qBf .i64 ((L.length:Int) - 1)) - 0),.ms 2 0 (qBe V),AV.mp 3,.bool bd]],.rows true 4 (qBm (qBj (qBf .i64 ((↑ (qBe L):Int) - 1)) - 0) L),.rows true 4 V,ABlk.mp true es])else xw (qBf .i64 ((rows.length:Int) - 1)) ko no so lo self (qBj (qBf .i64 ((L.length:Int) - 1)) - 0) (qBe V) bd L V es o a b k n w l n_1 n_2 s rows rows else xw (qBf .i64 ((rows.length:Int) - 1)) ko no so lo self (qBj (qBf .i64 ((L.length:Int) - 1)) - 0) (qBe V) bd L V es o a b k n w l n_1 n_2 s rows rows else bif o==2 then bif n_1 != 9 then some (.int .i64 1,[.rows false 9 [[AV.int .i64 ko,.int .i64 no,.str so,.sl lo,.int .i64 self,.ms 1 0 (qBj (qBf .i64 ((↑ (qBe L):Int) - 1)) - 0),.ms 2 0 (qBe V),AV.mp 3,.bool bd]],.rows true 4 (qBm (qBj (qBf .i64 ((L.length:Int) - 1)) - 0) L),.rows true 4 V,ABlk.mp true es])else xw (qBf .i64 ((rows.length:Int) - 1)) ko no so lo self (qBj (qBf .i64 ((L.length:Int) - (1:Int))) - 0) (qBe V) bd L V es o a b k n w l n_1 n_2 s rows rows else xw (qBf .i64 ((rows.length:Int) - 1)) ko no so lo self (qBj (qBf .i64 ((L.length:Int) - 1)) - 0) (qBe V) bd L V es o a b k n w l n_1 n_2 s rows rows else bif o==2 then bif o==1 then bif decide (a<(0:Int))then some (.int .i64 5,[.rows false 9 [[AV.int .i64 ko,.int .i64 no,.str so,.sl lo,.int .i64 self,.ms 1 0 (qBj (qBf .i64 ((L.length:Int) - 1)) - 0),.ms 2 0 (qBe V),AV.mp 3,.bool bd]],.rows true 4 (qBm (qBj (qBf .i64 ((L.length:Int) - 1)) - 0) L),.rows true 4 V,ABlk.mp true es])else bif o==1 then bif n_1 != 7 then some (.int .i64 1,[.rows false 9 [[AV.int .i64 ko,.int .i64 no,.str so,.sl lo,.int .i64 self,.ms 1 0 (qBj (qBf .i64 ((L.length:Int) - 1)) - 0),.ms 2 0 (qBe V),AV.mp 3,.bool bd]],.rows true 4 (qBm (qBj (qBf .i64 ((L.length:Int) - 1)) - 0) L),.rows true 4 V,ABlk.mp true es])else bif(rows.length:Int) != a then some (.int .i64 1,[.rows false 9 [[AV.int .i64 ko,.int .i64 no,.str so,.sl lo,.int .i64 self,.ms 1 0 (qBj (qBf .i64 ((L.length:Int) - 1)) - 0),.ms 2 0 (qBe V),AV.mp 3,.bool bd]],.rows true 4 (qBm (qBj (qBf .i64 ((L.length:Int) - 1)) - 0) L),.rows true 4 V,ABlk.mp true es])else bif o==2 then bif n_1 != (9:Int)then some (.int .i64 1,[.rows false 9 [[AV.int .i64 ko,.int .i64 no,.str so,.sl lo,.int .i64 self,.ms 1 0 (qBj (qBf .i64 ((L.length:Int) - 1)) - 0),.ms 2 0 (qBe V),AV.mp 3,.bool bd]],.rows true 4 (qBm (qBj (qBf .i64 ((L.length:Int) - 1)) - 0) L),.rows true 4 V,ABlk.mp true es])else xw (qBf .i64 ((rows.length:Int) - 1)) ko no so lo self (qBj (qBf .i64 ((L.length:Int) - 1)) - 0) (qBe V) bd L V es o a b k n w l n_1 n_2 s rows rows else xw (qBf .i64 ((rows.length:Int) - 1)) ko no so lo self (qBj (qBf .i64 ((L.length:Int) - 1)) - 0) (qBe V) bd L V es o a b k n w l n_1 n_2 s rows rows else bif o==2 then bif n_1 != 9 then some (.int .i64 1,[.rows false 9 [[AV.int .i64 ko,.int .i64 no,.str so,.sl lo,.int .i64 self,.ms 1 0 (qBj (qBf .i64 ((L.length:Int) - 1)) - 0),.ms 2 0 (qBe V),AV.mp 3,.bool bd]],.rows true 4 (qBm (qBj (qBf .i64 ((L.length:Int) - 1)) - 0) L),.rows true 4 V,ABlk.mp true es])else xw (qBf .i64 ((rows.length:Int) - 1)) ko no so lo self (qBj (qBf .i64 ((L.length:Int) - 1)) - 0) (qBe V) bd L V es o a b k n w l n_1 n_2 s rows rows else xw (qBf .i64 ((rows.length:Int) - 1)) ko no so lo self (qBj (qBf .i64 ((L.length:Int) - 1)) - 0) (qBe V) bd L V es o a b k n w l n_1 n_2 s rows rows else bif o==1 then bif n_1 != 7 then some (.int .i64 1,[.rows false 9 [[AV.int .i64 ko,.int .i64 no,.str so,.sl lo,.int .i64 self,.ms 1 0 (qBj (qBf .i64 ((L.length:Int) - 1)) - 0),.ms 2 0 (qBe V),AV.mp 3,.bool bd]],.rows true 4 (qBm (qBj (qBf .i64 ((L.length:Int) - 1)) - 0) L),.rows true 4 V,ABlk.mp true es])else bif(rows.length:Int) != a then some (.int .i64 1,[.rows false 9 [[AV.int .i64 ko,.int .i64 no,.str so,.sl lo,.int .i64 self,.ms 1 0 (qBj (qBf .i64 ((L.length:Int) - 1)) - 0),.ms 2 0 (qBe V),AV.mp 3,.bool bd]],.rows true 4 (qBm (qBj (qBf .i64 ((L.length:Int) - 1)) - 0) L),.rows true 4 V,ABlk.mp true es])else bif o==2 then bif n_1 != 9 then some (.int .i64 1,[.rows false 9 [[AV.int .i64 ko,.int .i64 no,.str so,.sl lo,.int .i64 self,.ms 1 0 (qBj (qBf .i64 ((L.length:Int) - 1)) - 0),.ms 2 0 (qBe V),AV.mp 3,.bool bd]],.rows true 4 (qBm (qBj (qBf .i64 ((↑ (qBe L):Int) - 1)) - 0) L),.rows true 4 V,ABlk.mp true es])else xw (qBf .i64 ((rows.length:Int) - 1)) ko no so lo self (qBj (qBf .i64 ((L.length:Int) - 1)) - 0) (qBe V) bd L V es o a b k n w l n_1 n_2 s rows rows else xw (qBf .i64 ((rows.length:Int) - 1)) ko no so lo self (qBj (qBf .i64 ((L.length:Int) - 1)) - 0) (qBe V) bd L V es o a b k n w l n_1 n_2 s rows rows else bif o==2 then bif n_1 != 9 then some (.int .i64 1,[.rows false 9 [[AV.int .i64 ko,.int .i64 no,.str so,.sl lo,.int .i64 self,.ms 1 0 (qBj (qBf .i64 ((↑ (qBe L):Int) - 1)) - 0),.ms 2 0 (qBe V),AV.mp 3,.bool bd]],.rows true 4 (qBm (qBj (qBf .i64 ((L.length:Int) - 1)) - 0) L),.rows true 4 V,ABlk.mp true es])else xw (qBf .i64 ((rows.length:Int) - 1)) ko no so lo self (qBj (qBf .i64 ((L.length:Int) - (1:Int))) - 0) (qBe V) bd L V es o a b k n w l n_1 n_2 s rows rows else xw (qBf .i64 ((rows.length:Int) - 1)) ko no so lo self (qBj (qBf .i64 ((L.length:Int) - 1)) - 0) (qBe V) bd L V es o a b k n w l n_1 n_2 s rows rows else bif o==6 then kOpt (EVs (EV cfg) 42 [.agg [.int .i64 k,.int .i64 n,.str w,.sl l]]) λv=>qu v λb=>bif ! b then some (.int .i64 5,[.rows false 9 [[AV.int .i64 ko,.int .i64 no,.str so,.sl lo,.int .i64 self,.ms 1 0 (qBj (qBf .i64 ((L.length:Int) - 1)) - 0),.ms 2 0 (qBe V),AV.mp 3,.bool bd]],.rows true 4 (qBm (qBj (qBf .i64 ((L.length:Int) - 1)) - 0) L),.rows true 4 V,ABlk.mp true es])else kOpt (EVs (EV cfg) 151 [.agg [.int .i64 n_1,.int .i64 n_2,.str s,.sl rows],.agg [.int .i64 k,.int .i64 n,.str w,.sl l]]) λv=>qu v λb=>bif ! b then some (.int .i64 1,[.rows false 9 [[AV.int .i64 ko,.int .i64 no,.str so,.sl lo,.int .i64 self,.ms 1 0 (qBj (qBf .i64 ((L.length:Int) - 1)) - 0),.ms 2 0 (qBe V),AV.mp 3,.bool bd]],.rows true 4 (qBm (qBj (qBf .i64 ((L.length:Int) - 1)) - 0) L),.rows true 4 V,ABlk.mp true es])else some (.int .i64 0,[.rows false 9 [[AV.int .i64 ko,.int .i64 no,.str so,.sl lo,.int .i64 self,.ms 1 0 (qBj (qBf .i64 ((L.length:Int) - 1)) - 0),.ms 2 0 (qBe V),AV.mp 3,.bool bd]],.rows true 4 (qBm (qBj (qBf .i64 ((L.length:Int) - 1)) - 0) L),.rows true 4 V,ABlk.mp true es])else bif o==3 then kOpt (vw (TD.int .i64) (.int .i64 a) es 0) λr=>ye r (bif decide (a<0)then some (.int .i64 5,[.rows false 9 [[AV.int .i64 ko,.int .i64 no,.str so,.sl lo,.int .i64 self,.ms 1 0 (qBj (qBf .i64 ((L.length:Int) - 1)) - 0),.ms 2 0 (qBe V),AV.mp 3,.bool bd]],.rows true 4 (qBm (qBj (qBf .i64 ((L.length:Int) - 1)) - 0) L),.rows true 4 V,ABlk.mp true es])else bif decide (a>99)then some (.int .i64 5,[.rows false 9 [[AV.int .i64 ko,.int .i64 no,.str so,.sl lo,.int .i64 self,.ms 1 0 (qBj (qBf .i64 ((L.length:Int) - 1)) - 0),.ms 2 0 (qBe V),AV.mp 3,.bool bd]],.rows true 4 (qBm (qBj (qBf .i64 ((L.length:Int) - 1)) - 0) L),.rows true 4 V,ABlk.mp true es])else bif o==4 then some (.int .i64 (5:Int),[.rows false 9 [[AV.int .i64 ko,.int .i64 no,.str so,.sl lo,.int .i64 self,.ms 1 0 (qBj (qBf .i64 ((L.length:Int) - 1)) - 0),.ms 2 0 (qBe V),AV.mp 3,.bool bd]],.rows true 4 (qBm (qBj (qBf .i64 ((L.length:Int) - 1)) - 0) L),.rows true 4 V,ABlk.mp true es])else bif o==(3:Int)then kOpt (vw (TD.int .i64) (.int .i64 a) es 0) λr=>ye r (some (.int .i64 0,[.rows false 9 [[AV.int .i64 ko,.int .i64 no,.str so,.sl lo,.int .i64 self,.ms 1 0 (qBj (qBf .i64 ((L.length:Int) - 1)) - 0),.ms 2 0 (qBe V),AV.mp 3,.bool bd]],.rows true 4 (qBm (qBj (qBf .i64 ((L.length:Int) - 1)) - 0) L),.rows true 4 V,ABlk.mp true (qBA es [(.int .i64 a,.agg [.int .i64 n_1,.int .i64 n_2,.str s,.sl rows])])])) λi x=>some (.int .i64 0,[.rows false 9 [[AV.int .i64 ko,.int .i64 no,.str so,.sl lo,.int .i64 self,.ms 1 0 (qBj (qBf .i64 ((↑ (qBe L):Int) - 1)) - 0),.ms 2 0 (qBe V),AV.mp 3,.bool bd]],.rows true 4 (qBm (qBj (qBf .i64 ((L.length:Int) - 1)) - 0) L),.rows true 4 V,ABlk.mp true (List.set es i (.int .i64 a,.agg [.int .i64 n_1,.int .i64 n_2,.str s,.sl rows]))])else bif qF 0 [.agg [.int .i64 0,.int .i64 0,.str [],.sl []],.agg [.int .i64 n_1,.int .i64 n_2,.str s,.sl rows]]then kOpt (EVs (EV cfg) 151 [.agg [.int .i64 0,.int .i64 0,.str [],.sl []],.agg [.int .i64 n_1,.int .i64 n_2,.str s,.sl rows]]) λv=>qu v λb=>bif ! b then some (.int .i64 1,[.rows false 9 [[AV.int .i64 ko,.int .i64 no,.str so,.sl lo,.int .i64 self,.ms 1 0 (qBj (qBf .i64 ((L.length:Int) - 1)) - 0),.ms 2 0 (qBe V),AV.mp 3,.bool bd]],.rows true 4 (qBm (qBj (qBf .i64 ((L.length:Int) - 1)) - 0) L),.rows true 4 V,ABlk.mp true es])else some (.int .i64 0,[.rows false 9 [[AV.int .i64 ko,.int .i64 no,.str so,.sl lo,.int .i64 self,.ms 1 0 (qBj (qBf .i64 ((L.length:Int) - 1)) - 0),.ms 2 0 (qBe V),AV.mp 3,.bool bd]],.rows true 4 (qBm (qBj (qBf .i64 ((L.length:Int) - 1)) - 0) L),.rows true 4 V,ABlk.mp true es])else none) λx v=>kTmV v λn n_3 s_1 rows_1=>(bif decide (a<0)then some (.int .i64 5,[.rows false 9 [[AV.int .i64 ko,.int .i64 no,.str so,.sl lo,.int .i64 self,.ms 1 0 (qBj (qBf .i64 ((L.length:Int) - 1)) - 0),.ms 2 0 (qBe V),AV.mp 3,.bool bd]],.rows true 4 (qBm (qBj (qBf .i64 ((↑ (qBe L):Int) - 1)) - 0) L),.rows true 4 V,ABlk.mp true es])else bif decide (a>99)then some (.int .i64 5,[.rows false 9 [[AV.int .i64 ko,.int .i64 no,.str so,.sl lo,.int .i64 self,.ms 1 0 (qBj (qBf .i64 ((L.length:Int) - 1)) - 0),.ms 2 0 (qBe V),AV.mp 3,.bool bd]],.rows true 4 (qBm (qBj (qBf .i64 ((L.length:Int) - 1)) - 0) L),.rows true 4 V,ABlk.mp true es])else bif o==4 then bif o==3 then kOpt (vw (TD.int .i64) (.int .i64 a) es 0) λr=>ye r (some (.int .i64 0,[.rows false 9 [[AV.int .i64 ko,.int .i64 no,.str so,.sl lo,.int .i64 self,.ms 1 0 (qBj (qBf .i64 ((L.length:Int) - 1)) - 0),.ms 2 0 (qBe V),AV.mp 3,.bool bd]],.rows true 4 (qBm (qBj (qBf .i64 ((↑ (qBe L):Int) - 1)) - 0) L),.rows true 4 V,ABlk.mp true (qBA es [(.int .i64 a,.agg [.int .i64 n_1,.int .i64 n_2,.str s,.sl rows])])])) λi x=>some (.int .i64 0,[.rows false 9 [[AV.int .i64 ko,.int .i64 no,.str so,.sl lo,.int .i64 self,.ms 1 0 (qBj (qBf .i64 ((L.length:Int) - 1)) - 0),.ms 2 0 (qBe V),AV.mp 3,.bool bd]],.rows true 4 (qBm (qBj (qBf .i64 ((L.length:Int) - 1)) - 0) L),.rows true 4 V,ABlk.mp true (List.set es i (.int .i64 a,.agg [.int .i64 n_1,.int .i64 n_2,.str s,.sl rows]))])else kOpt (EVs (EV cfg) 151 [.agg [.int .i64 n,.int .i64 n_3,.str s_1,.sl rows_1],.agg [.int .i64 n_1,.int .i64 n_2,.str s,.sl rows]]) λv=>qu v λb=>bif ! b then some (.int .i64 1,[.rows false 9 [[AV.int .i64 ko,.int .i64 no,.str so,.sl lo,.int .i64 self,.ms 1 0 (qBj (qBf .i64 ((L.length:Int) - 1)) - 0),.ms 2 0 (qBe V),AV.mp 3,.bool bd]],.rows true 4 (qBm (qBj (qBf .i64 ((L.length:Int) - 1)) - 0) L),.rows true 4 V,ABlk.mp true es])else some (.int .i64 0,[.rows false 9 [[AV.int .i64 ko,.int .i64 no,.str so,.sl lo,.int .i64 self,.ms 1 0 (qBj (qBf .i64 ((L.length:Int) - 1)) - 0),.ms 2 0 (qBe V),AV.mp 3,.bool bd]],.rows true 4 (qBm (qBj (qBf .i64 ((L.length:Int) - 1)) - 0) L),.rows true 4 V,ABlk.mp true es])else bif o==3 then kOpt (vw (TD.int .i64) (.int .i64 a) es 0) λr=>ye r (some (.int .i64 0,[.rows false 9 [[AV.int .i64 ko,.int .i64 no,.str so,.sl lo,.int .i64 self,.ms 1 0 (qBj (qBf .i64 ((↑ (qBe L):Int) - 1)) - 0),.ms 2 0 (qBe V),AV.mp 3,.bool bd]],.rows true 4 (qBm (qBj (qBf .i64 ((L.length:Int) - 1)) - 0) L),.rows true 4 V,ABlk.mp true (qBA es [(.int .i64 a,.agg [.int .i64 n_1,.int .i64 n_2,.str s,.sl rows])])])) λi x=>some (.int .i64 0,[.rows false 9 [[AV.int .i64 ko,.int .i64 no,.str so,.sl lo,.int .i64 self,.ms 1 0 (qBj (qBf .i64 ((L.length:Int) - 1)) - 0),.ms 2 0 (qBe V),AV.mp 3,.bool bd]],.rows true 4 (qBm (qBj (qBf .i64 ((L.length:Int) - 1)) - 0) L),.rows true 4 V,ABlk.mp true (List.set es i (.int .i64 a,.agg [.int .i64 n_1,.int .i64 n_2,.str s,.sl rows]))])else kOpt (EVs (EV cfg) 151 [.agg [.int .i64 n,.int .i64 n_3,.str s_1,.sl rows_1],.agg [.int .i64 n_1,.int .i64 n_2,.str s,.sl rows]]) λv=>qu v λb=>bif ! b then some (.int .i64 1,[.rows false 9 [[AV.int .i64 ko,.int .i64 no,.str so,.sl lo,.int .i64 self,.ms 1 0 (qBj (qBf .i64 ((L.length:Int) - 1)) - 0),.ms 2 0 (qBe V),AV.mp 3,.bool bd]],.rows true 4 (qBm (qBj (qBf .i64 ((L.length:Int) - (1:Int))) - 0) L),.rows true 4 V,ABlk.mp true es])else some (.int .i64 0,[.rows false 9 [[AV.int .i64 ko,.int .i64 no,.str so,.sl lo,.int .i64 self,.ms 1 0 (qBj (qBf .i64 ((L.length:Int) - 1)) - 0),.ms 2 0 (qBe V),AV.mp 3,.bool bd]],.rows true 4 (qBm (qBj (qBf .i64 ((↑ (qBe L):Int) - 1)) - 0) L),.rows true 4 V,ABlk.mp true es]))else bif o==4 then kOpt (vw (TD.int .i64) (.int .i64 a) es 0) λr=>ye r (bif decide (a<0)then some (.int .i64 5,[.rows false 9 [[AV.int .i64 ko,.int .i64 no,.str so,.sl lo,.int .i64 self,.ms 1 0 (qBj (qBf .i64 ((↑ (qBe L):Int) - 1)) - 0),.ms 2 0 (qBe V),AV.mp 3,.bool bd]],.rows true 4 (qBm (qBj (qBf .i64 ((L.length:Int) - 1)) - 0) L),.rows true 4 V,ABlk.mp true es])else bif decide (a>99)then some (.int .i64 5,[.rows false 9 [[AV.int .i64 ko,.int .i64 no,.str so,.sl lo,.int .i64 self,.ms 1 0 (qBj (qBf .i64 ((L.length:Int) - 1)) - 0),.ms 2 0 (qBe V),AV.mp 3,.bool bd]],.rows true 4 (qBm (qBj (qBf .i64 ((↑ (qBe L):Int) - 1)) - 0) L),.rows true 4 V,ABlk.mp true es])else bif o==4 then some (.int .i64 5,[.rows false 9 [[AV.int .i64 ko,.int .i64 no,.str so,.sl lo,.int .i64 self,.ms 1 0 (qBj (qBf .i64 ((L.length:Int) - 1)) - 0),.ms 2 0 (qBe V),AV.mp 3,.bool bd]],.rows true 4 (qBm (qBj (qBf .i64 ((L.length:Int) - 1)) - 0) L),.rows true 4 V,ABlk.mp true es])else bif o==3 then kOpt (vw (TD.int .i64) (.int .i64 a) es 0) λr=>ye r (some (.int .i64 0,[.rows false 9 [[AV.int .i64 ko,.int .i64 no,.str so,.sl lo,.int .i64 self,.ms 1 0 (qBj (qBf .i64 ((↑ (qBe L):Int) - 1)) - 0),.ms 2 0 (qBe V),AV.mp 3,.bool bd]],.rows true 4 (qBm (qBj (qBf .i64 ((L.length:Int) - 1)) - 0) L),.rows true 4 V,ABlk.mp true (qBA es [(.int .i64 a,.agg [.int .i64 n_1,.int .i64 n_2,.str s,.sl rows])])])) λi x=>some (.int .i64 0,[.rows false 9 [[AV.int .i64 ko,.int .i64 no,.str so,.sl lo,.int .i64 self,.ms 1 0 (qBj (qBf .i64 ((L.length:Int) - 1)) - 0),.ms 2 0 (qBe V),AV.mp 3,.bool bd]],.rows true 4 (qBm (qBj (qBf .i64 ((L.length:Int) - 1)) - 0) L),.rows true 4 V,ABlk.mp true (List.set es i (.int .i64 a,.agg [.int .i64 n_1,.int .i64 n_2,.str s,.sl rows]))])else bif qF 0 [.agg [.int .i64 0,.int .i64 0,.str [],.sl []],.agg [.int .i64 n_1,.int .i64 n_2,.str s,.sl rows]]then kOpt (EVs (EV cfg) 151 [.agg [.int .i64 0,.int .i64 0,.str [],.sl []],.agg [.int .i64 n_1,.int .i64 n_2,.str s,.sl rows]]) λv=>qu v λb=>bif ! b then some (.int .i64 1,[.rows false 9 [[AV.int .i64 ko,.int .i64 no,.str so,.sl lo,.int .i64 self,.ms 1 0 (qBj (qBf .i64 ((↑ (qBe L):Int) - 1)) - 0),.ms 2 0 (qBe V),AV.mp 3,.bool bd]],.rows true 4 (qBm (qBj (qBf .i64 ((L.length:Int) - 1)) - 0) L),.rows true 4 V,ABlk.mp true es])else some (.int .i64 0,[.rows false 9 [[AV.int .i64 ko,.int .i64 no,.str so,.sl lo,.int .i64 self,.ms 1 0 (qBj (qBf .i64 ((↑ (qBe L):Int) - 1)) - 0),.ms 2 0 (qBe V),AV.mp 3,.bool bd]],.rows true 4 (qBm (qBj (qBf .i64 ((L.length:Int) - 1)) - 0) L),.rows true 4 V,ABlk.mp true es])else none) λx v=>kTmV v λn n_3 s_1 rows_1=>(bif decide (a<0)then some (.int .i64 5,[.rows false 9 [[AV.int .i64 ko,.int .i64 no,.str so,.sl lo,.int .i64 self,.ms 1 0 (qBj (qBf .i64 ((L.length:Int) - 1)) - 0),.ms 2 0 (qBe V),AV.mp 3,.bool bd]],.rows true 4 (qBm (qBj (qBf .i64 ((L.length:Int) - 1)) - 0) L),.rows true 4 V,ABlk.mp true es])else bif decide (a>99)then some (.int .i64 5,[.rows false 9 [[AV.int .i64 ko,.int .i64 no,.str so,.sl lo,.int .i64 self,.ms 1 0 (qBj (qBf .i64 ((↑ (qBe L):Int) - 1)) - 0),.ms 2 0 (qBe V),AV.mp 3,.bool bd]],.rows true 4 (qBm (qBj (qBf .i64 ((L.length:Int) - 1)) - 0) L),.rows true 4 V,ABlk.mp true es])else bif o==4 then bif o==3 then kOpt (vw (TD.int .i64) (.int .i64 a) es 0) λr=>ye r (some (.int .i64 0,[.rows false 9 [[AV.int .i64 ko,.int .i64 no,.str so,.sl lo,.int .i64 self,.ms 1 0 (qBj (qBf .i64 ((L.length:Int) - 1)) - 0),.ms 2 0 (qBe V),AV.mp 3,.bool bd]],.rows true 4 (qBm (qBj (qBf .i64 ((L.length:Int) - 1)) - 0) L),.rows true 4 V,ABlk.mp true (qBA es [(.int .i64 a,.agg [.int .i64 n_1,.int .i64 n_2,.str s,.sl rows])])])) λi x=>some (.int .i64 0,[.rows false 9 [[AV.int .i64 ko,.int .i64 no,.str so,.sl lo,.int .i64 self,.ms 1 0 (qBj (qBf .i64 ((L.length:Int) - 1)) - 0),.ms 2 0 (qBe V),AV.mp 3,.bool bd]],.rows true 4 (qBm (qBj (qBf .i64 ((L.length:Int) - 1)) - 0) L),.rows true 4 V,ABlk.mp true (List.set es i (.int .i64 a,.agg [.int .i64 n_1,.int .i64 n_2,.str s,.sl rows]))])else kOpt (EVs (EV cfg) 151 [.agg [.int .i64 n,.int .i64 n_3,.str s_1,.sl rows_1],.agg [.int .i64 n_1,.int .i64 n_2,.str s,.sl rows]]) λv=>qu v λb=>bif ! b then some (.int .i64 1,[.rows false 9 [[AV.int .i64 ko,.int .i64 no,.str so,.sl lo,.int .i64 self,.ms 1 0 (qBj (qBf .i64 ((↑ (qBe L):Int) - 1)) - 0),.ms 2 0 (qBe V),AV.mp 3,.bool bd]],.rows true 4 (qBm (qBj (qBf .i64 ((L.length:Int) - 1)) - 0) L),.rows true 4 V,ABlk.mp true es])else some (.int .i64 0,[.rows false 9 [[AV.int .i64 ko,.int .i64 no,.str so,.sl lo,.int .i64 self,.ms 1 0 (qBj (qBf .i64 ((↑ (qBe L):Int) - 1)) - 0),.ms 2 0 (qBe V),AV.mp 3,.bool bd]],.rows true 4 (qBm (qBj (qBf .i64 ((L.length:Int) - 1)) - 0) L),.rows true 4 V,ABlk.mp true es])else bif o==3 then kOpt (vw (TD.int .i64) (.int .i64 a) es 0) λr=>ye r (some (.int .i64 0,[.rows false 9 [[AV.int .i64 ko,.int .i64 no,.str so,.sl lo,.int .i64 self,.ms 1 0 (qBj (qBf .i64 ((L.length:Int) - 1)) - 0),.ms 2 0 (qBe V),AV.mp 3,.bool bd]],.rows true 4 (qBm (qBj (qBf .i64 ((L.length:Int) - 1)) - 0) L),.rows true 4 V,ABlk.mp true (qBA es [(.int .i64 a,.agg [.int .i64 n_1,.int .i64 n_2,.str s,.sl rows])])])) λi x=>some (.int .i64 0,[.rows false 9 [[AV.int .i64 ko,.int .i64 no,.str so,.sl lo,.int .i64 self,.ms 1 0 (qBj (qBf .i64 ((L.length:Int) - 1)) - 0),.ms 2 0 (qBe V),AV.mp 3,.bool bd]],.rows true 4 (qBm (qBj (qBf .i64 ((↑ (qBe L):Int) - 1)) - 0) L),.rows true 4 V,ABlk.mp true (List.set es i (.int .i64 a,.agg [.int .i64 n_1,.int .i64 n_2,.str s,.sl rows]))])else kOpt (EVs (EV cfg) 151 [.agg [.int .i64 n,.int .i64 n_3,.str s_1,.sl rows_1],.agg [.int .i64 n_1,.int .i64 n_2,.str s,.sl rows]]) λv=>qu v λb=>bif ! b then some (.int .i64 (1:Int),[.rows false 9 [[AV.int .i64 ko,.int .i64 no,.str so,.sl lo,.int .i64 self,.ms 1 0 (qBj (qBf .i64 ((L.length:Int) - 1)) - 0),.ms 2 0 (qBe V),AV.mp 3,.bool bd]],.rows true 4 (qBm (qBj (qBf .i64 ((L.length:Int) - 1)) - 0) L),.rows true 4 V,ABlk.mp true es])else some (.int .i64 0,[.rows false 9 [[AV.int .i64 ko,.int .i64 no,.str so,.sl lo,.int .i64 self,.ms 1 0 (qBj (qBf .i64 ((L.length:Int) - 1)) - 0),.ms 2 0 (qBe V),AV.mp 3,.bool bd]],.rows true 4 (qBm (qBj (qBf .i64 ((L.length:Int) - 1)) - 0) L),.rows true 4 V,ABlk.mp true es]))else some (.int .i64 0,[.rows false 9 [[AV.int .i64 ko,.int .i64 no,.str so,.sl lo,.int .i64 self,.ms 1 0 (qBj (qBf .i64 ((L.length:Int) - 1)) - 0),.ms 2 0 (qBe V),AV.mp 3,.bool bd]],.rows true 4 (qBm (qBj (qBf .i64 ((L.length:Int) - 1)) - 0) L),.rows true 4 V,ABlk.mp true es])else none)else none else none) P):Gets (EVj (EV cfg) 90 1 [.ptr 0 0 0,.agg [.int .i64 o,.int .i64 a,.int .i64 b,.int .i64 k,.int .i64 n,.str w,.sl l]] ([ABlk.rows false (9:Nat) [[AV.int qB2 ko,AV.int qB2 no,AV.str so,AV.sl lo,AV.int qB2 self,AV.ms (1:Nat) (0:Nat) (qBe L),AV.ms (2:Nat) (0:Nat) (qBe V),AV.mp (3:Nat),AV.bool bd]],ABlk.rows true (4:Nat) L,ABlk.rows true (4:Nat) V,ABlk.mp true es]:AH)) P:=
  gE (λ_=>funJ rfl rfl Tryz.func90 rfl) (by kernel_rfl) h
theorem qnz(v3 c0_0 c0_1:Int)(c0_2:Bz)(c0_3:Rz)(c0_4:Int)(nc0_5 nc0_6:Nat)(c0_8:Bool)(h1 h2:Rz)(m3:List (AV×AV))(c5_0 c5_1 c5_2 c5_3 c5_4:Int)(c5_5:Bz)(c5_6:Rz)(c6_0 c6_1:Int)(c6_2:Bz)(c6_3 c7_0:Rz){P:AV×AH->Prop}(h:Gets (bif decide (v3≥0)then bif qh 0 v3&&qn v3 (c7_0.length:Int)then kOpt (qBg c7_0 (v3.toNat)) λrow=>bif qBh (qBe row) 4 then bif qBv 4 (qBe row)then kTmC (qBm 4 row) λn n_1 s rows=>(bif qBv (0+nc0_5) (qBe h1)&&q8 (nc0_5+1) 56 then bif qBv (0+nc0_5) (qBe h1)&&q8 (nc0_5+1) 56 then bif qh 0 (↑ nc0_5:Int)&&qn (↑ nc0_5:Int) (↑ (nc0_5+1):Int)then kOpt (qBg (qBA (qBm nc0_5 h1) [[AV.int .i64 0,.int .i64 0,.str [],.nilS]]) (0+qBj (↑ nc0_5:Int))) λrow=>bif qBv 4 (qBe row)then kEqR (Ex.normal,(fx 169 [(2,.ptr 4 0 0),(7,.ptr 9 0 0),(84,.int .i64 v3),(85,.agg [.int .i64 n,.int .i64 n_1,.str s,.sl rows])]),[.rows false 9 [[AV.int .i64 c0_0,.int .i64 c0_1,.str c0_2,.sl c0_3,.int .i64 c0_4,.ms 10 0 (nc0_5+1),.ms 2 0 nc0_6,AV.mp 3,.bool c0_8]],.dead,.rows true 4 h2,ABlk.mp true m3,.rows false 1 [[.ptr 0 0 0]],.rows false 7 [[AV.int .i64 c5_0,.int .i64 c5_1,.int .i64 c5_2,.int .i64 c5_3,.int .i64 c5_4,.str c5_5,.sl c5_6]],.rows false 4 [[AV.int .i64 c6_0,.int .i64 c6_1,.str c6_2,.sl c6_3]],.rows false 1 [[.sl c7_0]],rngB Tryz.f90 90 [1,1,1,1,0,1,0,1,0,1,1,0] (fx 169 [(2,.ptr 4 0 0)]) none LoopState.busy,.rows false 4 [[AV.int .i64 n,.int .i64 n_1,.str s,.sl rows]],.rows true 4 (qBA (qBm nc0_5 h1) [[AV.int .i64 n,.int .i64 n_1,.str s,.sl rows]])]) (Ex.normal,(fx 169 [(2,.ptr 4 0 0),(7,.ptr 9 0 0),(84,.int .i64 v3),(85,.agg [.int .i64 n,.int .i64 n_1,.str s,.sl rows])]),[.rows false 9 [[AV.int .i64 c0_0,.int .i64 c0_1,.str c0_2,.sl c0_3,.int .i64 c0_4,.ms 10 0 (nc0_5+1),.ms 2 0 nc0_6,AV.mp 3,.bool c0_8]],.dead,.rows true 4 h2,ABlk.mp true m3,.rows false 1 [[.ptr 0 0 0]],.rows false 7 [[AV.int .i64 c5_0,.int .i64 c5_1,.int .i64 c5_2,.int .i64 c5_3,.int .i64 c5_4,.str c5_5,.sl c5_6]],.rows false 4 [[AV.int .i64 c6_0,.int .i64 c6_1,.str c6_2,.sl c6_3]],.rows false 1 [[.sl c7_0]],rngB Tryz.f90 90 [1,1,1,1,0,1,0,1,0,1,1,0] (fx 169 [(2,.ptr 4 0 0)]) none LoopState.busy,.rows false 4 [[AV.int .i64 n,.int .i64 n_1,.str s,.sl rows]],.rows true 4 (List.set (qBA (qBm nc0_5 h1) [[AV.int .i64 0,.int .i64 0,.str [],.nilS]]) (0+qBj (↑ nc0_5:Int)) (.int .i64 n:: .int .i64 n_1:: .str s:: .sl rows::qBU 4 row))]) (qeq (qBf .i64 (v3 - 1)) c0_0 c0_1 c0_2 c0_3 c0_4 (nc0_5+1) nc0_6 c0_8 h2 m3 c5_0 c5_1 c5_2 c5_3 c5_4 c5_5 c5_6 c6_0 c6_1 c6_2 c6_3 c7_0 (qBA (qBm nc0_5 h1) [[AV.int .i64 n,.int .i64 n_1,.str s,.sl rows]]))else none else none else none else none)else none else none else none else some (.int .i64 0,[.rows false 9 [[AV.int .i64 c0_0,.int .i64 c0_1,.str c0_2,.sl c0_3,.int .i64 c0_4,.ms 1 0 nc0_5,.ms 2 0 nc0_6,AV.mp 3,.bool c0_8]],.rows true 4 (qBm nc0_5 h1),.rows true 4 h2,ABlk.mp true m3])) P):Gets (xw v3 c0_0 c0_1 c0_2 c0_3 c0_4 nc0_5 nc0_6 c0_8 h1 h2 m3 c5_0 c5_1 c5_2 c5_3 c5_4 c5_5 c5_6 c6_0 c6_1 c6_2 c6_3 c7_0) P:=
  gE (λ_=>qB (cfg:=cfg) (f:=203) (rd:=none) (bs:=9)) (by kernel_rfl) h
theorem qfs(v3 c0_0 c0_1:Int)(c0_2:Bz)(c0_3:Rz)(c0_4:Int)(nc0_5 nc0_6:Nat)(c0_8:Bool)(h2:Rz)(m3:List (AV×AV))(c5_0 c5_1 c5_2 c5_3 c5_4:Int)(c5_5:Bz)(c5_6:Rz)(c6_0 c6_1:Int)(c6_2:Bz)(c6_3 c7_0 h9:Rz){P:AV×AH->Prop}(h:Gets (bif decide (v3≥0)then bif qh 0 v3&&qn v3 (c7_0.length:Int)then kOpt (qBg c7_0 (v3.toNat)) λrow=>bif qBh (qBe row) 4 then bif qBv 4 (qBe row)then kTmC (qBm 4 row) λn n_1 s rows=>(bif qBv (0+nc0_5) (qBe h9)&&q8 (nc0_5+1) 56 then bif qBv (0+nc0_5) (qBe h9)&&q8 (nc0_5+1) 56 then bif qh 0 (↑ nc0_5:Int)&&qn (↑ nc0_5:Int) (↑ (nc0_5+1):Int)then kOpt (qBg (qBA (qBm nc0_5 h9) [[AV.int .i64 0,.int .i64 0,.str [],.nilS]]) (0+qBj (↑ nc0_5:Int))) λrow=>bif qBv 4 (qBe row)then kEqR (Ex.normal,(fx 169 [(2,.ptr 4 0 0),(7,.ptr 10 0 0),(84,.int .i64 v3),(85,.agg [.int .i64 n,.int .i64 n_1,.str s,.sl rows])]),[.rows false 9 [[AV.int .i64 c0_0,.int .i64 c0_1,.str c0_2,.sl c0_3,.int .i64 c0_4,.ms 11 0 (nc0_5+1),.ms 2 0 nc0_6,AV.mp 3,.bool c0_8]],.dead,.rows true 4 h2,ABlk.mp true m3,.rows false 1 [[.ptr 0 0 0]],.rows false 7 [[AV.int .i64 c5_0,.int .i64 c5_1,.int .i64 c5_2,.int .i64 c5_3,.int .i64 c5_4,.str c5_5,.sl c5_6]],.rows false 4 [[AV.int .i64 c6_0,.int .i64 c6_1,.str c6_2,.sl c6_3]],.rows false 1 [[.sl c7_0]],rngB Tryz.f90 90 [1,1,1,1,0,1,0,1,0,1,1,0] (fx 169 [(2,.ptr 4 0 0)]) none LoopState.busy,.dead,.rows false 4 [[AV.int .i64 n,.int .i64 n_1,.str s,.sl rows]],.rows true 4 (qBA (qBm nc0_5 h9) [[AV.int .i64 n,.int .i64 n_1,.str s,.sl rows]])]) (Ex.normal,(fx 169 [(2,.ptr 4 0 0),(7,.ptr 10 0 0),(84,.int .i64 v3),(85,.agg [.int .i64 n,.int .i64 n_1,.str s,.sl rows])]),[.rows false 9 [[AV.int .i64 c0_0,.int .i64 c0_1,.str c0_2,.sl c0_3,.int .i64 c0_4,.ms 11 0 (nc0_5+1),.ms 2 0 nc0_6,AV.mp 3,.bool c0_8]],.dead,.rows true 4 h2,ABlk.mp true m3,.rows false 1 [[.ptr 0 0 0]],.rows false 7 [[AV.int .i64 c5_0,.int .i64 c5_1,.int .i64 c5_2,.int .i64 c5_3,.int .i64 c5_4,.str c5_5,.sl c5_6]],.rows false 4 [[AV.int .i64 c6_0,.int .i64 c6_1,.str c6_2,.sl c6_3]],.rows false 1 [[.sl c7_0]],rngB Tryz.f90 90 [1,1,1,1,0,1,0,1,0,1,1,0] (fx 169 [(2,.ptr 4 0 0)]) none LoopState.busy,.dead,.rows false 4 [[AV.int .i64 n,.int .i64 n_1,.str s,.sl rows]],.rows true 4 (List.set (qBA (qBm nc0_5 h9) [[AV.int .i64 0,.int .i64 0,.str [],.nilS]]) (0+qBj (↑ nc0_5:Int)) (.int .i64 n:: .int .i64 n_1:: .str s:: .sl rows::qBU 4 row))]) (qeq (qBf .i64 (v3 - 1)) c0_0 c0_1 c0_2 c0_3 c0_4 (nc0_5+1) nc0_6 c0_8 h2 m3 c5_0 c5_1 c5_2 c5_3 c5_4 c5_5 c5_6 c6_0 c6_1 c6_2 c6_3 c7_0 (qBA (qBm nc0_5 h9) [[AV.int .i64 n,.int .i64 n_1,.str s,.sl rows]]))else none else none else none else none)else none else none else none else some (.int .i64 (0:Int),[.rows false 9 [[AV.int .i64 c0_0,.int .i64 c0_1,.str c0_2,.sl c0_3,.int .i64 c0_4,.ms 1 0 nc0_5,.ms 2 0 nc0_6,AV.mp 3,.bool c0_8]],.rows true 4 (qBm nc0_5 h9),.rows true 4 h2,ABlk.mp true m3])) P):Gets (qeq v3 c0_0 c0_1 c0_2 c0_3 c0_4 nc0_5 nc0_6 c0_8 h2 m3 c5_0 c5_1 c5_2 c5_3 c5_4 c5_5 c5_6 c6_0 c6_1 c6_2 c6_3 c7_0 h9) P:=
  gE (λ_=>qB (cfg:=cfg) (f:=203) (rd:=none) (bs:=9)) (by kernel_rfl) h
theorem qoL(R:List (List AV))(z c:List AV):List.set (qBA R [z]) (0+qBj (R.length:Int)) c=qBA R [c]:=by
 rw[qB0,qBB];show List.set (R++[z]) _ _=R++[c];rw[List.set_append_right _ _ (qBp _),Nat.sub_self];rfl
theorem qr6(R:List (List AV))(z:List AV):qBg (qBA R [z]) (0+qBj (R.length:Int))=some z:=qgg R z
theorem qmO{n:Nat}(h:n<1099511627776):qBf .i64 ((((n+1:Nat):Int) - 1) - 1)=(n:Int) - 1:=by
 rw[vq (by omega) (by omega)];omega
theorem qsu{o:Tm}{self:Int}{V:List (List AV)}{es:List (AV×AV)}{b:Bool}{x:InsA}{t:Tm}{ts:List Tm}(hts:ts.length<1000000):∀(j:Nat),j<=ts.length->∀(R:List (List AV)),R.length+j<1099511627776 ->
  Gets (qeq ((j:Int) - 1) o.kind o.num o.str (qb o.subs) self R.length V.length b V es x.o x.a x.b x.t.kind x.t.num x.t.str (qb x.t.subs) t.kind t.num t.str (qb t.subs) (qb ts) R)
   (·=(.int .i64 0,mkS o self (R++qb (ts.take j).reverse) V es b)):=by
 intro j
 induction j with
 |zero=>
  intro _ R _;refine qfs _ _ _ _ _ _ _ _ _ _ _ _ _ _ _ _ _ _ _ _ _ _ _ _ ?_;rw[qB4 (by omega),cond_false];refine⟨_,rfl,?_⟩;simp
 |succ j ih=>
  intro hj R hR;have hjl:j<ts.length:=by omega
  have g0:ts[j]? =some ts[j]:=qBk hjl;have e0:(((j+1:Nat):Int) - 1)=(j:Int):=by omega
  have h1:=ih (by omega) (R++[ts[j].cells]) (by simp;omega);refine qfs _ _ _ _ _ _ _ _ _ _ _ _ _ _ _ _ _ _ _ _ _ _ _ _ ?_;rw[qmO (by omega),e0];have e1:(qh 0 (j:Int)&&qn (j:Int) ((qb ts).length:Int))=true:=by simp;omega
  have e2:(qBv (0+R.length) R.length&&q8 (R.length+1) 56)=true:=by
   rw[y3 (by omega),nble,qB3 (by omega)];rfl
  have e3:(qh (0:Int) (R.length:Int)&&qn (R.length:Int) ((R.length+1:Nat):Int))=true:=by simp
  rw[qB3 (show(j:Int)≥0 by omega),e1,xA g0,qBS,qr6,e2,e3];have ht4:qBm 4 ts[j].cells=ts[j].cells:=by rw[Tm.cells_eq];rfl
  have hl4:qBv 4 ts[j].cells.length=true:=by rw[Tm.cells_eq];rfl
  have hb4:qBh ts[j].cells.length 4=true:=by rw[Tm.cells_eq];rfl
  simp only[qc,cond_true,ht4,hl4,hb4,qv];have hz:(qBU 4 [AV.int .i64 (0:Int),.int .i64 (0:Int),.str [],.nilS])=[]:=rfl;rw[hz,qoL];have hc:[AV.int .i64 ts[j].kind,.int .i64 ts[j].num,.str ts[j].str,.sl (qb ts[j].subs)]=ts[j].cells:=by rw[Tm.cells_eq]
  have hn:(qBv 4 [AV.int .i64 (0:Int),.int .i64 (0:Int),.str [],.nilS].length)=true:=rfl;rw[hn,cond_true,qeH,hc];have e4:(R++[ts[j].cells]).length=R.length+1:=by simp
  rw[e4]at h1;refine h1.mono λr hr=>?_
  rw[hr];have e5:(ts.take (j+1)).reverse=ts[j]::(ts.take j).reverse:=by rw[List.take_add_one,g0];simp
  rw[e5,qR,List.append_assoc];rfl
theorem quD{o:Tm}{self:Int}{V:List (List AV)}{es:List (AV×AV)}{b:Bool}{x:InsA}{t:Tm}{ts:List Tm}(hts:ts.length<1000000)(R:List (List AV))(c:List AV)(hR:R.length+ts.length<1099511627776):
  Gets (xw (qBf .i64 ((ts.length:Int) - 1)) o.kind o.num o.str (qb o.subs) self R.length V.length b (R++[c]) V es x.o x.a x.b x.t.kind x.t.num x.t.str (qb x.t.subs) t.kind t.num t.str (qb t.subs) (qb ts))
   (·=(.int .i64 0,mkS o self (R++qb ts.reverse) V es b)):=by
 rw[vq (by omega) (by omega)];refine qnz _ _ _ _ _ _ _ _ _ _ _ _ _ _ _ _ _ _ _ _ _ _ _ _ ?_;rw[List.take_left];cases hj:ts.length with
 |zero=>
  obtain rfl:ts=[]:=List.length_eq_zero_iff.1 hj;rw[qB4 (by omega),cond_false];refine⟨_,rfl,?_⟩;simp
 |succ j=>
  have hjl:j<ts.length:=by omega
  have g0:ts[j]? =some ts[j]:=qBk hjl;have e0:(((j+1:Nat):Int) - 1)=(j:Int):=by omega
  have h1:=qsu (o:=o) (self:=self) (V:=V) (es:=es) (b:=b) (x:=x) (t:=t) hts j (by omega) (R++[ts[j].cells]) (by simp;omega);rw[qmO (by omega),e0];have e1:(qh 0 (j:Int)&&qn (j:Int) ((qb ts).length:Int))=true:=by simp;omega
  have e2:(qBv (0+R.length) (R++[c]).length&&q8 (R.length+1) 56)=true:=by
   rw[y3 (by omega),nble,qB3 (by simp)];rfl
  have e3:(qh (0:Int) (R.length:Int)&&qn (R.length:Int) ((R.length+1:Nat):Int))=true:=by simp
  rw[qB3 (show(j:Int)≥0 by omega),e1,xA g0,qr6,e2,e3];have ht4:qBm 4 ts[j].cells=ts[j].cells:=by rw[Tm.cells_eq];rfl
  have hl4:qBv 4 ts[j].cells.length=true:=by rw[Tm.cells_eq];rfl
  have hb4:qBh ts[j].cells.length 4=true:=by rw[Tm.cells_eq];rfl
  simp only[qc,cond_true,ht4,hl4,hb4,qv];have hz:(qBU 4 [AV.int .i64 (0:Int),.int .i64 (0:Int),.str [],.nilS])=[]:=rfl;rw[hz,qoL];have hc:[AV.int .i64 ts[j].kind,.int .i64 ts[j].num,.str ts[j].str,.sl (qb ts[j].subs)]=ts[j].cells:=by rw[Tm.cells_eq]
  have hn:(qBv 4 [AV.int .i64 (0:Int),.int .i64 (0:Int),.str [],.nilS].length)=true:=rfl;rw[hn,cond_true,qeH,hc];have e4:(R++[ts[j].cells]).length=R.length+1:=by simp
  rw[e4]at h1;refine h1.mono λr hr=>?_
  rw[hr];have e5:ts.reverse=ts[j]::(ts.take j).reverse:=by
   have:ts=ts.take (j+1):=(qBt (by omega)).symm;rw[show ts.reverse=(ts.take (j+1)).reverse by rw[←this],List.take_add_one,g0];simp
  rw[e5,qR,List.append_assoc];rfl
theorem qiX{a b:Tm}(h:a.w<1099511627776):EVs (EV cfg) 151 [a.av,b.av]=some (.bool (decide (a=b))):=by
 obtain⟨v,hv,c,rfl,hc⟩:=qrM h b;rw[hv]
 congr 2
 cases c with
 |true=>rw[qB3 (hc.1 rfl)]
 |false=>rw[qB4 λe=>absurd (hc.2 e) (by decide)]
theorem qst{o:Tm}{self:Int}{s:SK}{x:InsA}(hx:x.o=1∨x.o=2∨x.o=3∨x.o=4∨x.o=5∨x.o=6)(hxw:x.t.w<1099511627776)(hs:SOk s)(hl:s.left.length<1000000000):
  EVj (EV cfg) 90 1 [.ptr 0 0 0,x.av] (stS o self s)=some (.int .i64 (howI (zi opsK s x).1),stS o self (zi opsK s x).2):=by
 obtain⟨L,V,B,b⟩:=s;have hm:=qdZ hxw;apply Gets.get;rw[InsA.av,Tm.cells_eq];refine qqB _ _ _ _ _ _ _ _ _ _ _ _ _ _ _ _ ?_;cases L with
 |nil=>exact⟨_,rfl,rfl⟩
 |cons t r=>
  have htc:t.chk=0:=hs.left t (by simp);have htw:=xx htc;have hsl:=qbI htc;rw[qb4];generalize hR:qb r.reverse=R;generalize hVV:qb V.reverse=VV;have hlR:R.length=r.length:=by rw[←hR];simp
  have hr:r.length<1000000000:=by simp at hl;omega
  have e0:((((R++[t.cells]).length:Nat):Int)==(0:Int))=false:=by simp<;>omega
  have e1:qBf .i64 ((((R++[t.cells]).length:Nat):Int) - 1)=(R.length:Int):=by
   rw[qBr];exact qgW (by omega)
  have e2:(qh (0:Int) (R.length:Int)&&qn (R.length:Int) (((R++[t.cells]).length:Nat):Int))=true:=by simp
  have e3:(qh (0:Int) (R.length:Int)&&qh (R.length:Int) (((R++[t.cells]).length:Nat):Int))=true:=by simp
  have hloop:=quD (o:=o) (self:=self) (V:=VV) (es:=mB B) (b:=b) (x:=x) (t:=t) (ts:=t.subs) (by omega) R t.cells (by omega);have et:(qBj (R.length:Int) - 0)=R.length:=by simp
  have ht4:qBm 4 t.cells=t.cells:=by rw[Tm.cells_eq];rfl
  have hl4:qBv 4 t.cells.length=true:=by rw[Tm.cells_eq];rfl
  have s2:∀(w:How),(AV.int .i64 (howI w),mkS o self R VV (mB B) b)=(AV.int .i64 (howI w),stS o self ⟨r,V,B,b⟩):=λw=>by
   rw[stS,hR,hVV]
  have s3:(AV.int .i64 0,mkS o self (R++qb t.subs.reverse) VV (mB B) b)=(AV.int .i64 (howI .next),stS o self ⟨t.subs++r,V,B,b⟩):=by
   rw[stS,List.reverse_append,vH,hR,hVV];rfl
  have s4:∀(es:List (AV×AV)) (B':List (Int×Tm)),es=mB B'->(AV.int .i64 0,mkS o self R VV es b)=(AV.int .i64 (howI .next),stS o self ⟨r,V,B',b⟩):=λes B' e=>by
   rw[stS,hR,hVV,e];rfl
  rw[e0,e1,e2,e3,qgg,qne,et];simp only[qc,cond_false,cond_true,hl4,ht4,qv,beqI,bneD,qe];unfold zi;simp only[];rcases hx with hx|hx|hx|hx|hx|hx
  ·simp only[hx,qBX,decide_true,cond_true,if_true]
   by_cases ha:x.a<0
   ·simp only[ha,decide_true,cond_true,if_true];exact⟨_,rfl,s2 .broken⟩
   simp only[ha,decide_false,cond_false,if_false]
   by_cases h7:t.kind=7
   ·by_cases hla:(t.subs.length:Int)=x.a
    ·simp only[h7,hla,decide_true,qB1,cond_false,and_self,if_true];rw[hx,h7,←hla]at hloop;simp only[←hla];exact hloop.mono λr hr=>hr.trans s3
    ·simp only[h7,hla,decide_true,decide_false,qB1,Bool.not_false,cond_true,cond_false,and_false,if_false];exact⟨_,rfl,s2 .fails⟩
   ·simp only[h7,decide_false,Bool.not_false,cond_true,false_and,if_false];exact⟨_,rfl,s2 .fails⟩
  ·simp only[hx,qBX,decide_true,decide_false,cond_true,cond_false,if_true,if_false]
   by_cases h9:t.kind=9
   ·simp only[h9,decide_true,qB1,cond_false,if_true];rw[hx,h9]at hloop;exact hloop.mono λr hr=>hr.trans s3
   ·simp only[h9,decide_false,Bool.not_false,cond_true,if_false];exact⟨_,rfl,s2 .fails⟩
  ·simp only[hx,qBX,decide_true,decide_false,cond_true,cond_false,if_true,if_false];cases hlk:qG x.a B with
   |none=>
    rw[qfF 0 hlk]
    by_cases ha:x.a<0
    ·simp only[qc,zL,ha,decide_true,cond_true,true_or,if_true];exact⟨_,rfl,s2 .broken⟩
    by_cases hb:x.a>99
    ·simp only[qc,zL,ha,hb,decide_true,decide_false,cond_true,cond_false,or_true,if_true];exact⟨_,rfl,s2 .broken⟩
    simp only[qc,zL,ha,hb,decide_false,cond_false,or_self,if_false];exact⟨_,rfl,s4 _ (putB x.a t B) (by rw[qvc hlk,Tm.av,Tm.cells_eq];rfl)⟩
   |some u=>
    obtain⟨j,hj,hset⟩:=qfE (B:=B) 0 hlk;rw[hj]
    by_cases ha:x.a<0
    ·simp only[qc,yd,qW,ha,decide_true,cond_true,true_or,if_true];exact⟨_,rfl,s2 .broken⟩
    by_cases hb:x.a>99
    ·simp only[qc,yd,qW,ha,hb,decide_true,decide_false,cond_true,cond_false,or_true,if_true];exact⟨_,rfl,s2 .broken⟩
    simp only[qc,yd,qW,ha,hb,decide_false,cond_false,or_self,if_false];exact⟨_,rfl,s4 _ (putB x.a t B) (by rw[←hset t,Tm.av,Tm.cells_eq,qB0])⟩
  ·simp only[hx,qBX,decide_true,decide_false,cond_true,cond_false,if_true,if_false];cases hlk:qG x.a B with
   |none=>
    rw[qfF 0 hlk]
    by_cases ha:x.a<0
    ·simp only[qc,zL,ha,decide_true,cond_true,true_or,if_true];exact⟨_,rfl,s2 .broken⟩
    by_cases hb:x.a>99
    ·simp only[qc,zL,ha,hb,decide_true,decide_false,cond_true,cond_false,or_true,if_true];exact⟨_,rfl,s2 .broken⟩
    simp only[qc,zL,ha,hb,decide_false,cond_false,or_self,if_false];exact⟨_,rfl,s2 .broken⟩
   |some u=>
    obtain⟨j,hj,hset⟩:=qfE (B:=B) 0 hlk;have huw:=xx (hs.binds _ (xD hlk)).1;have hsame:=qiX (a:=u) (b:=t) (by simp only[]at huw;omega);rw[hj]
    by_cases ha:x.a<0
    ·simp only[qc,yd,qW,ha,decide_true,cond_true,true_or,if_true];exact⟨_,rfl,s2 .broken⟩
    by_cases hb:x.a>99
    ·simp only[qc,yd,qW,ha,hb,decide_true,decide_false,cond_true,cond_false,or_true,if_true];exact⟨_,rfl,s2 .broken⟩
    simp only[qc,yd,qW,ha,hb,decide_false,cond_false,or_self,if_false,qJ,hsame,qd]
    by_cases he:u=t
    ·rw[qB3 he,qB5 he];exact⟨_,rfl,s2 .next⟩
    ·rw[qB4 he,qB6 he];exact⟨_,rfl,s2 .fails⟩
  ·simp only[hx,qBX,decide_false,cond_false,if_false];exact⟨_,rfl,s2 .next⟩
  ·have hsame:=qiX (a:=t) (b:=x.t) (by omega);simp only[hx,qBX,decide_true,decide_false,cond_true,cond_false,if_true,if_false,qJ,hm,hsame,qc,qd]
   by_cases hc:x.t.chk=0
   ·by_cases he:t=x.t
    ·simp only[hc,decide_true,qB1,cond_false,if_true];rw[qB3 he,qB5 he];exact⟨_,rfl,s2 .next⟩
    ·simp only[hc,decide_true,qB1,cond_false,if_true];rw[qB4 he,qB6 he];exact⟨_,rfl,s2 .fails⟩
   ·simp only[hc,decide_false,Bool.not_false,cond_true,if_false];exact⟨_,rfl,s2 .broken⟩
def qdc(op:List UInt8)(l:List Tm)(self:Int):Tm×Int:=
 if((l.length:Int)∈opsG op∧zw self=true)∧∀x∈l,x.chk=0 then(match zm op l self with|some t=>(t,0)|none=>(q9,10))else(q9,2)
theorem qv0(op:List UInt8)(l:List Tm)(self:Int):doO op l self=if(qdc op l self).2=0 then some (qdc op l self).1 else none:=by
 unfold doO qdc;split
 ·cases zm op l self<;>rfl
 ·rfl
theorem qtv(hp:xo){op:List UInt8}{l:List Tm}(hl:∀x∈l,x.w<1099511627776)(hlen:l.length<1099511627776)(self:Int):
  EVf (EV cfg) 155 [.str op,.sl (qb l),.int .i64 self]=some (.tup [(qdc op l self).1.av,.int .i64 (qdc op l self).2]):=by
 apply Gets.get;refine qtu _ _ _ ?_;rw[qe,quZ,←x9];simp only[qc,q4];rw[qfi _ (qo2 op),qrK];simp only[qc,qd];unfold qdc
 by_cases hop:(l.length:Int)∈opsG op
 case neg=>
  rw[qB4 hop,qB6 (λh=>hop h.1.1)];exact⟨_,rfl,rfl⟩
 rw[qB3 hop];cases hs:zw self with
 |false=>rw[qB6 (by rintro⟨⟨_,h⟩,_⟩;cases h)];exact⟨_,rfl,rfl⟩
 |true=>
 have h2:=qjJ op hop;have loop:∀(d i:Nat),i+d=l.length->(∀(j:Nat) x,j<i->l[j]? =some x->x.chk=0)->Gets (qkw op (qb l) self i 0 0 [] []) (·= .tup [(if ∀x∈l,x.chk=0 then(match zm op l self with|some t=>(t,0)|none=>(q9,10))else(q9,2):Tm×Int).1.av,.int .i64 (if ∀x∈l,x.chk=0 then(match zm op l self with|some t=>(t,0)|none=>(q9,10))else(q9,2):Tm×Int).2]):=by
  intro d
  induction d with
  |zero=>
   intro i hi ha;refine qiT _ _ _ _ _ _ _ _ ?_;have hall:∀x∈l,x.chk=0:=λx hx=>by
    obtain⟨j,hj,rfl⟩:=List.mem_iff_getElem.1 hx;exact ha j _ (by omega) (qBk hj)
   have hm:=qnc ⟨q9,[],self⟩ op hall h2 (λ_=>hp);have e0:mR ⟨q9,[],self⟩ false=[[.int .i64 0,.int .i64 0,.str [],.sl [],.sl [],.int .i64 self,.bool false]]:=by simp[mR,q9,xb]
   rw[e0]at hm;rw[qe,qB4 (by omega),qB5 hall,←x9];refine Gets.bind hm ?_;intro r hr;unfold Res at hr;cases hap:zm op l self with
   |none=>
    rw[hap]at hr;obtain⟨g1,z,g2⟩:=hr;rw[g1,g2];simp only[qW,zy,qc];exact⟨_,rfl,rfl⟩
   |some z=>
    rw[hap]at hr;have hr:r=(z.av,mR ⟨q9,[],self⟩ false):=hr;subst hr;have hcp:=qbX (qbR z (qjZ hall h2 hap));simp only[qW,zy,qc,qJ,hcp];exact⟨_,rfl,rfl⟩
  |succ d ih=>
   intro i hi ha;refine qiT _ _ _ _ _ _ _ _ ?_;have hil:i<l.length:=by omega
   have hx:l[i]? =some l[i]:=qBk hil;have hc:=qao (hl l[i] (qBy hx));rw[qe,qB3 (show(i:Int)<(l.length:Int) by omega),qZ,vO,qB3 hil,qaS hx,vn hil hlen,←x9];simp only[cond_true,qBw,qD,qBL,qQ,qv,yh,qJ];rw[hc];simp only[qc,qi,bneD]
   by_cases h0:l[i].chk=0
   ·rw[qB3 h0];refine ih (i+1) (by omega) (λj x hj hjx=>?_)
    by_cases e:j=i
    ·subst e;rw[hx]at hjx;cases hjx;exact h0
    ·exact ha j x (by omega) hjx
   ·rw[qB4 h0,qB6 (λh=>h0 (h _ (qBy hx)))];exact⟨_,rfl,rfl⟩
 have h:=loop l.length 0 (by omega) (λj x hj=>by omega);refine h.mono λr hr=>?_
 rw[hr]
 by_cases hall:∀x∈l,x.chk=0
 ·rw[qB5 hall,qB5 ⟨⟨hop,rfl⟩,hall⟩]
 ·rw[qB6 hall,qB6 (λh=>hall h.2)]
theorem qwJ{V:List (List AV)}{off n:Nat}(h:off+(n+1)<=V.length)(hn:V.length<1099511627776):
  EVj (EV cfg) 154 1 [.ms 0 off (n+1)] [.rows true 4 V]=some (.sl ((V.drop off).take (n+1)),[.rows true 4 V]):=by
 apply Gets.get;refine qqD _ _ _ ?_;have hl:(qBm (n+1) (qBU off V)).length=n+1:=by rw[qBW,List.length_drop];omega
 rw[hl,nble,qB3 h,y3 (by omega),nble,qB3 (by omega),qB0,qBt (by rw[hl];exact qBp _)];exact⟨_,rfl,rfl⟩
theorem qkI:EVj (EV cfg) 154 0 [.nilS] []=some (.sl [],[]):=by
 apply Gets.get;exact qoJ .junk ⟨_,rfl,rfl⟩
theorem qmU:EVj (EV cfg) 154 0 [.em] []=some (.sl [],[]):=by
 apply Gets.get;exact qoK .junk ⟨_,rfl,rfl⟩
theorem qs4(R T:List (List AV)):qBm (qBj (R.length:Int) - 0) (R++T)=R:=by
 rw[qBB,Nat.sub_zero,List.take_left]
theorem qy4(ts:List Tm):(tupT ts).av= .agg [.int .i64 7,.int .i64 0,.str [],.sl (qb ts)]:=by rw[tupT,Tm.av_mk]
theorem qyA(ts:List Tm):(Tm.mk 9 0 [] ts).av= .agg [.int .i64 9,.int .i64 0,.str [],.sl (qb ts)]:=by rw[Tm.av_mk]
theorem qx3{α:Type}(t:Tm)(e:Int)(K:Int->Int->List UInt8->List (List AV)->Int->Option α):
  (kTup (.tup [t.av,.int .i64 e]) fun(cs:List AV)=>qa cs fun(c:AV) (cs:List AV)=>kAgg c fun(cs_1:List AV)=>qa cs_1 fun(c:AV) (cs_2:List AV)=>kInt .i64 c fun(n:Int)=>qa cs_2 fun(c:AV) (cs_3:List AV)=>kInt .i64 c fun(n_1:Int)=>qa cs_3 fun(c:AV) (cs_4:List AV)=>kStr c fun(s:List UInt8)=>qa cs_4 fun(c:AV) (cs_5:List AV)=>kSl c fun(rows:List (List AV))=>kNil cs_5 (qa cs fun(c:AV) (cs:List AV)=>kInt .i64 c fun(n_2:Int)=>kNil cs (K n n_1 s rows n_2)))=K t.kind t.num t.str (qb t.subs) e:=by
 rw[Tm.av,Tm.cells_eq];rfl
theorem quE(hp:xo){o:Tm}{self:Int}{s:SK}{x:InsA}(hx:x.o=11∨x.o=12∨x.o=13)(hxw:x.t.w<1099511627776)(hs:SOk s)(hv:s.vals.length<=200000):
  EVj (EV cfg) 92 1 [.ptr 0 0 0,x.av] (stS o self s)=some (.int .i64 (howI (qca self s x).1),stS o self (qca self s x).2):=by
 have hm:=qdZ hxw;apply Gets.get;rw[InsA.av,Tm.cells_eq];refine qsv _ _ _ _ _ _ _ _ _ _ _ _ _ _ _ _ ?_;unfold zu8 zu3 zu4 zu5 zu6 zu7 zu1 zu2 zu0;generalize hVV:qb s.vals.reverse=VV;have hVl:VV.length=s.vals.length:=by rw[←hVV];simp
 have sb:(AV.int .i64 5,mkS o self (qb s.left.reverse) VV (mB s.binds) s.body)=(AV.int .i64 (howI .broken),stS o self s):=by rw[stS,hVV];rfl
 unfold qca
 by_cases hbad:yo x<0∨(s.vals.length:Int)<yo x∨(x.o=13∧(x.t.kind≠2∨x.t.chk≠0))
 ·rw[qB5 hbad];unfold yo at hbad;rcases hx with hx|hx|hx
  ·rw[hx,qB6 (by decide)]at hbad;simp only[hx,beqI,qBX,decide_true,decide_false,cond_true,cond_false]
   by_cases ha:x.a<0
   ·rw[qB3 ha];exact⟨_,rfl,sb⟩
   ·rw[qB4 ha,qB3 (show x.a>(VV.length:Int) by omega)];exact⟨_,rfl,sb⟩
  ·rw[hx,qB5 rfl]at hbad;simp only[hx,beqI,qBX,decide_true,decide_false,cond_true,cond_false];rw[qB3 (show(2:Int)>(VV.length:Int) by omega)];exact⟨_,rfl,sb⟩
  ·rw[hx,qB6 (by decide)]at hbad;simp only[hx,beqI,bneD,qBX,decide_true,decide_false,cond_true,cond_false]
   by_cases ha:x.a<0
   ·rw[qB3 ha];exact⟨_,rfl,sb⟩
   ·rw[qB4 ha]
    by_cases hb:x.a>(VV.length:Int)
    ·rw[qB3 hb];exact⟨_,rfl,sb⟩
    ·rw[qB4 hb]
     by_cases hk:x.t.kind=2
     ·rw[qB3 hk];have hc:¬x.t.chk=0:=by omega
      simp only[cond_false,qB1,qJ,hm,qc,qd,hc,decide_false,Bool.not_false,cond_true];exact⟨_,rfl,sb⟩
     ·rw[qB4 hk];exact⟨_,rfl,sb⟩
 ·rw[qB6 hbad];obtain⟨N,hN⟩:∃N:Nat,yo x=(N:Int):=⟨(yo x).toNat,by omega⟩;have hNl:N<=s.vals.length:=by omega
  have h13:x.o=13->x.t.kind=2∧x.t.chk=0:=λh=>by omega
  rw[hN,qBB];generalize hts:(s.vals.take N).reverse=ts;generalize hrest:s.vals.drop N=rest;have hrev:s.vals.reverse=rest.reverse++ts:=by
   rw[←hts,←hrest,←List.reverse_append,List.take_append_drop]
  have htl:ts.length=N:=by rw[←hts];simp;omega
  have hrl:rest.length=s.vals.length - N:=by rw[←hrest];simp
  have htc:∀y∈ts,y.chk=0:=λy hy=>hs.vals y (List.mem_of_mem_take (List.mem_reverse.1 (hts▸hy)))
  have htw:=qkE htc (by omega);have hV:VV=qb rest.reverse++qb ts:=by rw[←hVV,hrev,vH]
  have z7:=qaQ (o:=o) (self:=self) (s:={ s with vals:=rest }) (t:=tupT ts) (by rw[tupT,Tm.w_mk];simp;omega) (by simp only[];omega);have z9:=qaQ (o:=o) (self:=self) (s:={ s with vals:=rest }) (t:=.mk 9 0 [] ts) (by rw[Tm.w_mk];simp;omega) (by simp only[];omega);have za:=qtv hp (op:=x.t.str) (l:=ts) (λy hy=>by have:=xx (htc y hy);omega) (by omega) self;have hd:=qv0 x.t.str ts self
  have zaw:∀v,doO x.t.str ts self=some v->v.w<1099511627776:=λv hv=>by
   unfold doO at hv;split at hv
   ·rename_i hc;exact qjZ htc (qjJ _ hc.1.1) hv
   ·cases hv
  rw[qy4]at z7;rw[qyA]at z9;have hRl:(qb rest.reverse).length=rest.length:=by simp
  have hTl:(qb ts).length=N:=by rw[qe,htl]
  subst hV;have zp:∀t:Tm,t.w<1099511627776->EVj (EV cfg) 152 1 [.ptr 0 0 0,t.av] (mkS o self (qb s.left.reverse) (qb rest.reverse) (mB s.binds) s.body)=some (.int .i64 (howI (xN t { s with vals:=rest }).1),stS o self (xN t { s with vals:=rest }).2):=λt ht=>qaQ (o:=o) (self:=self) (s:={ s with vals:=rest }) (t:=t) ht (by simp only[];omega)
  have sr:(AV.int .i64 3,mkS o self (qb s.left.reverse) (qb rest.reverse) (mB s.binds) s.body)=(AV.int .i64 (howI .raises),stS o self { s with vals:=rest }):=rfl;simp only[stS]at z7 z9;generalize hR:qb rest.reverse=R at *;generalize hT:qb ts=T at *;have hlen:((R++T).length:Int) - (N:Int)=(R.length:Int):=by rw[qBr,hTl];omega
  have e1:qBf .i64 (((R++T).length:Int) - (N:Int))=(R.length:Int):=by rw[hlen,vq (by omega) (by omega)]
  have e2:(qh (0:Int) (R.length:Int)&&qh (R.length:Int) ((R++T).length:Int))=true:=by simp;omega
  have e3:(R++T).length - qBj (R.length:Int)=N:=by rw[qBr,hTl,qBB];omega
  have e4:qBm (qBj (R.length:Int) - 0) (R++T)=R:=qs4 R T;have e5:(qBj (R.length:Int) - 0)=R.length:=by simp
  have e6:(0+qBj (R.length:Int))=R.length:=by simp
  have e7:qBm R.length (R++T)=R:=List.take_left;have ec:∀k,N=k+1->EVj (EV cfg) 154 1 [.ms 0 R.length (k+1)] [.rows true 4 (R++T)]=some (.sl T,[.rows true 4 (R++T)]):=λk hk=>by
   have:=qwJ (V:=R++T) (off:=R.length) (n:=k) (by rw[qBr];omega) (by omega);rw[List.drop_left,qBt (by omega)]at this;exact this
  have e8:N=0->T=[]:=λh=>List.length_eq_zero_iff.1 (by omega)
  rcases hx with hx|hx|hx
  ·have hxa:x.a=(N:Int):=by
    have:=hN;unfold yo at this
    rwa [hx,qB6 (by decide)]at this
   simp only[hx,hxa,beqI,qBX,decide_true,decide_false,cond_true,cond_false,if_true,e1,e2,e3];rw[qB4 (show ¬((N:Int)<0) by omega),qB4 (show ¬((N:Int)>((R++T).length:Int)) by omega)];cases N with
   |zero=>
    have:=e8 rfl;subst this;simp only[cond_false,cond_true,qcI,qkI,qmU,qc,qy,q4,qeH,e5,e7,qBS,z7,qq,qp,qP,qM,qz,qBw,qt,qC,ql,qw,qi,qx,qd,qO,vY,vX];exact⟨_,rfl,rfl⟩
   |succ k=>
    simp only[cond_false,cond_true,qcI,ec k rfl,e6,qc,qy,q4,e5,e7,qBS,z7,qq,qp,qP,qM,qz,qBw,qt,qC,ql,qw,qi,qx,qd,qO,vY,vX];exact⟨_,rfl,rfl⟩
  ·have hN2:N=1+1:=by
    have:=hN;unfold yo at this;rw[hx,qB5 rfl]at this;omega
   have e1':qBf .i64 (((R++T).length:Int) - 2)=(R.length:Int):=by
    have:(2:Int)=(N:Int):=by omega
    rw[this];exact e1
   rw[hN2]at e3;simp only[hx,beqI,qBX,decide_true,decide_false,cond_true,cond_false,if_true,if_false,e1',e2,e3];rw[qB4 (show ¬((2:Int)>((R++T).length:Int)) by omega)];simp only[cond_false,cond_true,qcI,ec 1 hN2,e6,qc,qy,q4,e5,e7,qBS,z9,qq,qp,qP,qM,qz,qBw,qt,qC,ql,qw,qi,qx,qd,qO,vY,vX]
   exact⟨_,rfl,rfl⟩
  ·have hxa:x.a=(N:Int):=by
    have:=hN;unfold yo at this
    rwa [hx,qB6 (by decide)]at this
   obtain⟨hk2,hc0⟩:=h13 hx;simp only[hx,hxa,hk2,beqI,bneD,qBX,decide_true,decide_false,cond_true,cond_false,if_false,e1,e2,e3];rw[qB4 (show ¬((N:Int)<0) by omega),qB4 (show ¬((N:Int)>((R++T).length:Int)) by omega)];rw[←hk2];cases N with
   |zero=>
    have:=e8 rfl;subst this;simp only[cond_false,qJ,hm,hc0,decide_true,qB1,qcI,qkI,qmU,qc,qy,q4,qeH,e5,e7,qBS,za,qx3,qd];rw[hd]
    by_cases h0:(qdc x.t.str ts self).2=0
    ·rw[qB5 h0,qB3 h0];rw[qB5 h0]at hd;have hz:=zp _ (zaw _ hd);simp only[qB1,cond_false,hz,qc,qy,q4,qq,qp,qP,qM,qz,qBw,cond_true,qt,qC,ql,qw,qi,qx,qd,qO,vY,vX];exact⟨_,rfl,rfl⟩
    ·rw[qB6 h0,qB4 h0];exact⟨_,rfl,by rw[stS,hR];rfl⟩
   |succ k=>
    simp only[cond_false,cond_true,qJ,hm,hc0,decide_true,qB1,qcI,ec k rfl,e6,qc,qy,q4,e5,e7,qBS,za,qx3,qd,qq,qp,qM,qz,qBw];rw[hd]
    by_cases h0:(qdc x.t.str ts self).2=0
    ·rw[qB5 h0,qB3 h0];rw[qB5 h0]at hd;have hz:=zp _ (zaw _ hd);simp only[qB1,cond_false,hz,qc,qy,q4,qq,qp,qP,qM,qz,qBw,cond_true,qt,qC,ql,qw,qi,qx,qd,qO,vY,vX];exact⟨_,rfl,rfl⟩
    ·rw[qB6 h0,qB4 h0];exact⟨_,rfl,by rw[stS,hR];rfl⟩
end Go.Proofs.YtafdkafbgohigaaGreat
end
