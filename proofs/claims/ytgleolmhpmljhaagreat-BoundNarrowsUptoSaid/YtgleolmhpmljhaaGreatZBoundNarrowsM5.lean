/-
  Parts of the proof of BoundNarrowsUptoSaid, put together: the abstract evaluation and its contracts. Own work.
  What is proved: each lemma as it stands; no condition.
-/
import Derived.Test.YtgleolmhpmljhaaGreatZBoundNarrowsM4
open Go.IntKind renaming wrap → qBZ
open List renaming get?Internal → qB0, length → qB1, getElem?_eq_getElem → qB3, getElem?_eq_some_iff → qB5, take → qB8, mem_of_getElem? → qCc, take_of_length_le → qCd, getElem?_append_left → qCf, drop → qCk, getElem?_set → qCn, getElem?_append_right → qCo, drop_eq_getElem_cons → qCp, length_append → qCq, replicate → qCr, drop_eq_nil_of_le → qCs, append → qCu, mem_append → qCy, set → qCA, mem_cons → qCB, getElem?_cons_zero → qCC, length_take → qCD, length_cons → qCE, length_map → qCH, range → qCJ
open Bool renaming and_eq_true → qB2, false_eq_true → qCg, not_true → qCj, not_false → qCm, and_self → qCx, true_and → qCF, or_eq_true → qCI
open Nat renaming ble → qB4, eq_of_beq_eq_true → qB9, le_refl → qCa, beq → qCh, mul_le_mul_right → qCv, beq_refl → qCw, ble_eq → qCz, zero_add → qCG
open Option renaming bind_eq_some_iff → qB6, map_eq_some_iff → qCb, bind_some → qCe, map_some → qCt
open Int renaming toNat → qB7, toNat_natCast → qCi
open Array renaming toList → qCl
set_option maxRecDepth 1000000
set_option maxHeartbeats 0
noncomputable section
namespace Go.Av
def clR(o:Option Cl):AV:=match o with
 |some c=>.tup [c.av,.bool true]
 |none=>.tup [qBG.av,.bool false]
def clsQ(r:List Cl×Int):OV×AV:=(.own 6 (vw r.1) 0 r.1.length,.int .i64 r.2)
def clsA(acc:List Cl)(t:Tm):List Cl×Int:=match seqC (qJ t).1 with
 |some l=>if(qJ t).2&& !(acc++l).isEmpty then(acc++l,0)else([],10)
 |none=>([],10)
def okV(V:List Int)(l:List Tm):Bool:=l.all λe=>decide (xY V e=0)
theorem qoo(V:List Int)(x:Tm)(l:List Tm):okV V (x::l)=(decide (xY V x=0)&&okV V l):=rfl
theorem qtB(p:Tm):(z7 p).length<=100:=by
 unfold z7
 by_cases h:p.chk=0
 ·rw[qCM h,qCH];have:=List.length_filter_le (λn:Nat=>xy (n:Nat) p) (qCJ 100);rw[List.length_range]at this;exact this
 ·rw[qCN h];exact Nat.zero_le _
theorem qrf{n:Nat}(h:n<=1099511627776):qW n 104=true:=by
 unfold qW;rw[qB2,qCz,qCz];omega
def ClOk(c:Cl):Prop:=c.head.chk=0∧(∀x∈c.gs,x.chk=0)∧(∀x∈c.bs,x.chk=0)∧c.gs.length<=8388608∧c.bs.length<=8388608
theorem qs8{t:Tm}(h:t.chk=0){c:Cl}(hc:ya t=some c):ClOk c:=by
 unfold ya at hc
 by_cases h7:t.kind=7
 ·rw[qCM h7]at hc;have hw:=xo h;have hwe:=t.w_eq;cases hs:t.subs with
  |nil=>rw[hs]at hc;cases hc
  |cons a l=>cases l with
   |nil=>rw[hs]at hc;cases hc
   |cons b l=>cases l with
    |nil=>rw[hs]at hc;cases hc
    |cons d l=>cases l with
     |nil=>
      rw[hs]at hc hwe;simp only[qY,xg]at hwe;simp only[]at hc;split at hc
      ·cases hc;have ha:a.chk=0:=vh h (by rw[hs];simp);have hb:b.chk=0:=vh h (by rw[hs];simp);have hd:d.chk=0:=vh h (by rw[hs];simp);have lb:=qcZ hb;have ld:=qcZ hd;exact⟨ha,qeZ hb,qeZ hd,by show(qJ b).1.length<=_;omega,by show(qJ d).1.length<=_;omega⟩
      ·cases hc
     |cons e l=>rw[hs]at hc;cases hc
 ·rw[qCN h7]at hc;cases hc
theorem qq1:∀{l:List Tm} {cs:List Cl},(∀x∈l,x.chk=0)->seqC l=some cs->∀c∈cs,ClOk c
 |[],cs,_,h=>by cases h;intro c hc;cases hc
 |t::l,cs,ho,h=>by
  rw[seqC]at h;obtain⟨c,hc,h⟩:=qB6.1 h;obtain⟨r,hr,rfl⟩:=qCb.1 h;intro d hd;rcases qCB.1 hd with rfl|hd
  ·exact qs8 (ho t List.mem_cons_self) hc
  ·exact qq1 (λx hx=>ho x (List.mem_cons_of_mem _ hx)) hr d hd
theorem qlV(t:Tm):(∀c∈(clsG t).1,ClOk c)∧(clsG t).1.length<=8388608:=by
 unfold clsG
 by_cases hc:t.chk=0
 ·rw[qCM hc];have hw:=xo hc;have hl:=qcZ hc;cases hs:seqC (qJ t).1 with
  |none=>exact⟨λc hc=>(by cases hc),Nat.zero_le _⟩
  |some l=>
   simp only[];have hn:=qoe hs;split
   ·exact⟨qq1 (qeZ hc) hs,by show l.length<=_;omega⟩
   ·exact⟨λc hc=>(by cases hc),Nat.zero_le _⟩
 ·rw[qCN hc];exact⟨λc hc=>(by cases hc),Nat.zero_le _⟩
end Go.Av
namespace Go.Proofs.YtgleolmhpmljhaaGreat
open Go.Av
theorem qpj{V:List Int}{h:Tm}{G B:List Tm}(hV:V.length<1099511627776)(hB:B.length<1099511627776)(wB:∀x∈B,x.w<1099511627776):∀d i:Nat,i+d=B.length ->
  Gets (qhh (q6 V) (qa G) (qa B) i 0 0 [] [] [] [] h.kind h.num h.str (qa h.subs) (qa G) (qa B)) (·=clR (if okV V (B.drop i)then some ⟨h,G,B⟩else none)):=by
 intro d
 induction d with
 |zero=>
  intro i hi;obtain rfl:i=B.length:=by omega
  refine qfO _ _ _ _ _ _ _ _ _ _ _ _ _ _ _ _ ?_;rw[qg,qCL (by omega),cond_false,qCs (qCa _)];refine qnM _ _ _ _ _ _ _ _ _ _ _ _ _ _ _ ?_;exact⟨_,rfl,rfl⟩
 |succ d ih=>
  intro i hi;have hil:i<B.length:=by omega
  have hx:B[i]? =some B[i]:=qB3 hil;have hg:=qb7 hV (wB _ (qCc hx));have h1:=ih (i+1) (by omega);rw[qCp hil,qoo];refine qfO _ _ _ _ _ _ _ _ _ _ _ _ _ _ _ _ ?_;have gx:qB0 (qa B) (qB7 (i:Int))=some B[i].cells:=yI hx;rw[qg,qCK (show(i:Int)<(B.length:Int) by omega),qE,qP,qCK hil,gx,qZ hil hB]
  simp only[cond_true,qCx,qb,qj,qCw,qm,qk,xe,qq,hg,qi,bneD]
  by_cases h0:xY V B[i]=0
  ·rw[qCK h0,qCF];exact h1
  ·rw[qCL h0];exact⟨_,rfl,rfl⟩
theorem qpk{V:List Int}{h:Tm}{G B:List Tm}(hV:V.length<1099511627776)(hG:G.length<1099511627776)(wG:∀x∈G,x.w<1099511627776)(hB:B.length<1099511627776)(wB:∀x∈B,x.w<1099511627776):∀d i:Nat,i+d=G.length ->
  Gets (qjD (q6 V) (qa G) (qa B) i 0 0 [] [] [] [] h.kind h.num h.str (qa h.subs) (qa G) (qa B)) (·=clR (if okV V (G.drop i)&&okV V B then some ⟨h,G,B⟩else none)):=by
 intro d
 induction d with
 |zero=>
  intro i hi;obtain rfl:i=G.length:=by omega
  refine qid _ _ _ _ _ _ _ _ _ _ _ _ _ _ _ _ ?_;rw[qg,qCL (by omega),cond_false,qCs (qCa _)];refine qnN _ _ _ _ _ _ _ _ _ _ _ _ _ _ _ ?_;exact qpj (h:=h) (G:=G) hV hB wB B.length 0 (by omega)
 |succ d ih=>
  intro i hi;have hil:i<G.length:=by omega
  have hx:G[i]? =some G[i]:=qB3 hil;have hg:=qb7 hV (wG _ (qCc hx));have h1:=ih (i+1) (by omega);rw[qCp hil,qoo];refine qid _ _ _ _ _ _ _ _ _ _ _ _ _ _ _ _ ?_;have gx:qB0 (qa G) (qB7 (i:Int))=some G[i].cells:=yI hx;rw[qg,qCK (show(i:Int)<(G.length:Int) by omega),qE,qP,qCK hil,gx,qZ hil hG]
  simp only[cond_true,qCx,qb,qj,qCw,qm,qk,xe,qq,hg,qi,bneD]
  by_cases h0:xY V G[i]=0
  ·rw[qCK h0,qCF];exact h1
  ·rw[qCL h0];exact⟨_,rfl,rfl⟩
theorem qmS{t:Tm}(hc:t.chk=0):EVf (EV cfg) 83 [t.av]=some (clR (ya t)):=by
 have hw:=xo hc;have hwe:=t.w_eq;have hz:AV.tup [.agg [AV.int .i64 (0:Int),.int .i64 (0:Int),.str [],.sl [],.sl [],.sl []],.bool false]=clR none:=rfl;apply Gets.get;rw[Tm.av,Tm.cells_eq];refine qn9 _ _ _ _ ?_;unfold zp1 zp0;rw[bneD,bneD,hz,qg]
 by_cases h7:t.kind=7
 ·rw[qCK h7]
  by_cases h3:t.subs.length=3
  ·obtain⟨h,g,b,hs⟩:∃h g b,t.subs=[h,g,b]:=by
    cases hs:t.subs with
    |nil=>rw[hs]at h3;simp at h3
    |cons a l=>cases l with
     |nil=>rw[hs]at h3;simp at h3
     |cons b l=>cases l with
      |nil=>rw[hs]at h3;simp at h3
      |cons d l=>cases l with
       |nil=>exact⟨a,b,d,rfl⟩
       |cons e l=>rw[hs]at h3;simp at h3
   have ch:h.chk=0:=vh hc (by rw[hs];simp);have cg:g.chk=0:=vh hc (by rw[hs];simp);have cb:b.chk=0:=vh hc (by rw[hs];simp);rw[hs]at hwe;simp only[qY,xg]at hwe;have lg:=qcZ cg;have lb:=qcZ cb;have hh:=qtN (t:=h) (by omega);have hv:=qr2 (t:=h) (by omega);have e1:=qms cg;have e2:=qms cb;have hl:=qpk (V:=z7 h) (h:=h) (G:=(qJ g).1) (B:=(qJ b).1) (by have:=qtB h;omega) (by omega) (λx hx=>by have:=y5 hx;omega) (by omega) (λx hx=>by have:=y5 hx;omega) (qJ g).1.length 0 (by omega)
   have gh:ya t=if qe2 h&&((qJ g).2&&((qJ b).2&& !(qJ b).1.isEmpty))&&(okV (z7 h) (qJ g).1&&okV (z7 h) (qJ b).1)then some ⟨h,(qJ g).1,(qJ b).1⟩else none:=by
    unfold ya;rw[qCM h7,hs];rfl
   rw[qCK (show(t.subs.length:Int)=3 by omega),hs,qN,qN,qN,q4,gh];have g0:qB0 [h.cells,g.cells,b.cells] 0=some h.cells:=rfl;have g1:qB0 [h.cells,g.cells,b.cells] 1=some g.cells:=rfl;have g2:qB0 [h.cells,g.cells,b.cells] 2=some b.cells:=rfl;have l0:qe 0 (([h,g,b].length:Nat):Int)=true:=rfl;have l1:qe 1 (([h,g,b].length:Nat):Int)=true:=rfl
   have l2:qe 2 (([h,g,b].length:Nat):Int)=true:=rfl;rw[g0,g1,g2];simp only[l0,l1,l2,qCj,cond_false,cond_true,qb,qj,qCw,qm,qk,xe,qq,hh,qp];cases qe2 h with
   |false=>exact⟨_,rfl,rfl⟩
   |true=>
    simp only[qCj,cond_false,qCF,hv,e1,e2,lsR,qb,kTup,qf,vt,qp,kNil,qg,beqI];cases(qJ g).2 with
    |false=>exact⟨_,rfl,rfl⟩
    |true=>
     cases(qJ b).2 with
     |false=>exact⟨_,rfl,rfl⟩
     |true=>
      simp only[qCj,cond_false,qCF];cases hb:(qJ b).1 with
      |nil=>exact⟨_,rfl,rfl⟩
      |cons x l=>
       rw[hb]at hl;rw[qCL (show ¬(((x::l).length:Nat):Int)=0 by simp;omega)];refine qpM _ _ _ _ _ _ _ ?_;exact hl
  ·have:ya t=none:=by
    unfold ya;rw[qCM h7];cases hs:t.subs with
    |nil=>rfl
    |cons a l=>cases l with
     |nil=>rfl
     |cons b l=>cases l with
      |nil=>rfl
      |cons d l=>cases l with
       |nil=>rw[hs]at h3;simp at h3
       |cons e l=>rfl
   rw[qCL (show ¬(t.subs.length:Int)=3 by omega),this];exact⟨_,rfl,rfl⟩
 ·have:ya t=none:=by unfold ya;rw[qCN h7]
  rw[qCL h7,this];exact⟨_,rfl,rfl⟩
theorem qna{c:Tm}:∀(n:Nat) (t:Tm) (acc:List Cl),t.w<=n->t.chk=0->acc.length+n<1099511627776 ->
  Gets (qlg c.kind c.num c.str (qa c.subs) 0 0 acc.length false t.kind t.num t.str (qa t.subs) [] (vw acc)) (·=clsQ (clsA acc t)):=by
 intro n
 induction n with
 |zero=>intro t acc h;have:=vU t;omega
 |succ n ih=>
  intro t acc hw hc hn;refine qnO _ _ _ _ _ _ _ _ _ _ _ _ _ _ ?_;unfold zp2 zp3 zp4 zp5 zp6 zp7 zp8 zp9;rw[beqI,beqI,beqI]
  by_cases h9:t.kind=9
  ·obtain⟨x,y,hs⟩:=zV hc h9;have hwe:=t.w_eq;rw[hs]at hwe;simp only[qY,xg]at hwe;have hxc:x.chk=0:=vh hc (by rw[hs];simp);have hyc:y.chk=0:=vh hc (by rw[hs];simp);have hce:=qmS hxc;have e1:qB4 (0+acc.length) (vw acc).length=true:=by rw[qCz,zh];omega
   have e2:qB8 acc.length (vw acc)=vw acc:=qCd (by rw[zh];exact qCa _);rw[qCK h9,cond_true,hs,lt0T,qcn,lt1T,qbI,e1,e2,qrf (by omega)];simp only[cond_true,qCx,qb,qj,qCw,qm,qk,xe,qq,hce];cases hcl:ya x with
   |none=>
    have:clsA acc t=([],10):=by unfold clsA;rw[xT h9 hs,seqC,hcl];rfl
    rw[this];exact⟨_,rfl,rfl⟩
   |some d=>
    have:clsA acc t=clsA (acc++[d]) y:=by
     unfold clsA;rw[xT h9 hs,seqC,hcl];cases seqC (qJ y).1 with
     |none=>rfl
     |some l=>simp
    rw[this];have h:=ih y (acc++[d]) (by omega) hyc (by rw[qCq,List.length_singleton];omega);rw[qCq,List.length_singleton]at h;have e3:qCu (vw acc) [[AV.int .i64 d.head.kind,.int .i64 d.head.num,.str d.head.str,.sl (qa d.head.subs),.sl (qa d.gs),.sl (qa d.bs)]]=vw (acc++[d]):=(qgi acc [d]).symm;simp only[clR,Cl.av,Cl.cells,kTup,qf,kAgg,qi,zm,vt,kNil,qp,qCj,cond_false,e3]
    exact h
  ·rw[qCL h9,cond_false];have hi:clsA acc t=if t.kind=8∧acc≠[]then(acc,0)else([],10):=by
    unfold clsA;rw[zo h9,seqC]
    by_cases h8:t.kind=8
    ·cases acc<;>simp[h8]
    ·simp[h8]
   rw[hi]
   by_cases h8:t.kind=8
   ·rw[qCK h8];cases acc with
    |nil=>rw[qCN (λh=>h.2 rfl)];exact⟨_,rfl,rfl⟩
    |cons a l=>
     rw[qCL (show ¬(((a::l).length:Nat):Int)=0 by simp;omega),qCM ⟨h8,by simp⟩];exact⟨_,rfl,rfl⟩
   ·rw[qCL h8,qCN (λh=>h8 h.1)];exact⟨_,rfl,rfl⟩
theorem qpi{c:Tm}:∀(n:Nat) (t:Tm) (acc:List Cl),t.w<=n->t.chk=0->acc.length+n<1099511627776 ->
  Gets (qnP c.kind c.num c.str (qa c.subs) 0 0 acc.length false t.kind t.num t.str (qa t.subs) [] (vw acc)) (·=clsQ (clsA acc t)):=by
 intro n
 induction n with
 |zero=>intro t acc h;have:=vU t;omega
 |succ n ih=>
  intro t acc hw hc hn;refine qpN _ _ _ _ _ _ _ _ _ _ _ _ _ _ ?_;unfold zp2 zp3 zp4 zp5 zp6 zp7 zp8 zp9;rw[beqI,beqI,beqI]
  by_cases h9:t.kind=9
  ·obtain⟨x,y,hs⟩:=zV hc h9;have hwe:=t.w_eq;rw[hs]at hwe;simp only[qY,xg]at hwe;have hxc:x.chk=0:=vh hc (by rw[hs];simp);have hyc:y.chk=0:=vh hc (by rw[hs];simp);have hce:=qmS hxc;have e1:qB4 (0+acc.length) (vw acc).length=true:=by rw[qCz,zh];omega
   have e2:qB8 acc.length (vw acc)=vw acc:=qCd (by rw[zh];exact qCa _);rw[qCK h9,cond_true,hs,lt0T,qcn,lt1T,qbI,e1,e2,qrf (by omega)];simp only[cond_true,qCx,qb,qj,qCw,qm,qk,xe,qq,hce];cases hcl:ya x with
   |none=>
    have:clsA acc t=([],10):=by unfold clsA;rw[xT h9 hs,seqC,hcl];rfl
    rw[this];exact⟨_,rfl,rfl⟩
   |some d=>
    have:clsA acc t=clsA (acc++[d]) y:=by
     unfold clsA;rw[xT h9 hs,seqC,hcl];cases seqC (qJ y).1 with
     |none=>rfl
     |some l=>simp
    rw[this];have h:=qna (c:=c) n y (acc++[d]) (by omega) hyc (by rw[qCq,List.length_singleton];omega);rw[qCq,List.length_singleton]at h;have e3:qCu (vw acc) [[AV.int .i64 d.head.kind,.int .i64 d.head.num,.str d.head.str,.sl (qa d.head.subs),.sl (qa d.gs),.sl (qa d.bs)]]=vw (acc++[d]):=(qgi acc [d]).symm;simp only[clR,Cl.av,Cl.cells,kTup,qf,kAgg,qi,zm,vt,kNil,qp,qCj,cond_false,e3]
    exact h
  ·rw[qCL h9,cond_false];have hi:clsA acc t=if t.kind=8∧acc≠[]then(acc,0)else([],10):=by
    unfold clsA;rw[zo h9,seqC]
    by_cases h8:t.kind=8
    ·cases acc<;>simp[h8]
    ·simp[h8]
   rw[hi]
   by_cases h8:t.kind=8
   ·rw[qCK h8];cases acc with
    |nil=>rw[qCN (λh=>h.2 rfl)];exact⟨_,rfl,rfl⟩
    |cons a l=>
     rw[qCL (show ¬(((a::l).length:Nat):Int)=0 by simp;omega),qCM ⟨h8,by simp⟩];exact⟨_,rfl,rfl⟩
   ·rw[qCL h8,qCN (λh=>h8 h.1)];exact⟨_,rfl,rfl⟩
theorem qkW{t:Tm}(hw:t.w<1099511627776):EVq (EV cfg) 50 [t.av]=some (clsQ (clsG t)):=by
 have hk:=zW hw;apply Gets.get;rw[Tm.av,Tm.cells_eq]at hk⊢;refine qls _ _ _ _ ?_;rw[hk];simp only[qb,qi,bneD];unfold clsG
 by_cases hc:t.chk=0
 ·rw[qCK hc,qCM hc];exact qpi (c:=t) t.w t [] (qCa _) hc (by have:=xo hc;simp;omega)
 ·rw[qCL hc,qCN hc];exact⟨_,rfl,rfl⟩
theorem qn8{t:Tm}(hw:t.w<1099511627776):EVf (EV cfg) 17 [t.av]=some (.tup [.sl (vw (clsG t).1),.int .i64 (clsG t).2]):=by
 have hk:=qkW hw;obtain⟨ho,hn⟩:=qlV t;apply Gets.get;rw[Tm.av,Tm.cells_eq]at hk⊢;refine qm0 _ _ _ _ ?_;rw[hk];simp only[clsQ,qb,qi,qoF,bneD];have hz:(clsG t).2≠0->(clsG t).1=[]:=by
  unfold clsG
  by_cases hc:t.chk=0
  ·rw[qCM hc];cases seqC (qJ t).1 with
   |none=>intro _;rfl
   |some l=>
    simp only[];split
    ·intro h;exact absurd rfl h
    ·intro _;rfl
  ·rw[qCN hc];intro _;rfl
 generalize hl:(clsG t).1=l at *;generalize he:(clsG t).2=e at *
 by_cases h0:e=0
 ·subst h0;rw[qCK rfl];simp only[qCj,cond_false];have loop:∀d i:Nat,i+d=l.length->Gets (qhg 6 0 l.length i (vw l)) (·= .tup [.sl (vw l),.int .i64 0]):=by
   intro d
   induction d with
   |zero=>
    intro i hi;obtain rfl:i=l.length:=by omega
    refine qfN _ _ _ _ _ ?_;have hb:qB4 (0+l.length) (vw l).length=true:=by rw[qCz,zh];omega
    have ht:qB8 l.length (qCk 0 (vw l))=vw l:=qCd (by rw[List.drop_zero,zh];exact qCa _);rw[qCL (by omega),hb,ht];exact⟨_,rfl,rfl⟩
   |succ d ih=>
    intro i hi;have hil:i<l.length:=by omega
    have hx:l[i]? =some l[i]:=qB3 hil;obtain⟨c1,c2,c3,c4,c5⟩:=ho _ (qCc hx);have k1:=qeg (qcV c1);have k2:=qii (l:=l[i].gs) (by omega) (λx hx=>qcV (c2 x hx));have k3:=qii (l:=l[i].bs) (by omega) (λx hx=>qcV (c3 x hx));have gx:qB0 (vw l) (0+qB7 (i:Int))=some l[i].cells:=by
     rw[qCG,qv,qCi,qgh,hx];rfl
    have gs:qCA (vw l) (0+qB7 (i:Int)) l[i].cells=vw l:=by
     rw[qCG,qCi,qtW,List.set_getElem_self]
    have h1:=ih (i+1) (by omega);refine qfN _ _ _ _ _ ?_;rw[qCK (show(i:Int)<(l.length:Int) by omega),qE,qP,qCK hil,gx,qZ hil (show l.length<1099511627776 by omega)];have b6:qB4 6 l[i].cells.length=true:=rfl;have t6:qB8 6 l[i].cells=l[i].cells:=rfl;have d6:qCk 6 l[i].cells=[]:=rfl;simp only[show qCh 6 6=true from rfl,cond_true,qCx,qb,b6,t6,d6]
    unfold Cl.cells at gs⊢;simp only[qf,qi,zm,vt,kNil,qq,k1,k2,k3,qb,qV,gs];exact h1
  exact loop l.length 0 (by omega)
 ·rw[qCL h0,hz h0];exact⟨_,rfl,rfl⟩
end Go.Proofs.YtgleolmhpmljhaaGreat
end
noncomputable section
namespace Go.Av
def qnz(r:Tm×Int):AV:=.tup [r.1.av,.int .i64 r.2]
theorem qz0{α:Type}(t:Tm)(x:Int)(K:Int->Int->List UInt8->List (List AV)->Int->Option α):(kTup (.tup [t.av,.int .i64 x]) λcs=>qf cs λc cs=>kAgg c λcs_1=>qf cs_1 λc cs_2=>kInt .i64 c λn=>qf cs_2 λc cs_3=>kInt .i64 c λn_1=>qf cs_3 λc cs_4=>kStr c λs=>qf cs_4 λc cs_5=>kSl c λrows=>kNil cs_5 (qf cs λc cs=>kInt .i64 c λm=>kNil cs (K n n_1 s rows m)))=K t.kind t.num t.str (qa t.subs) x:=by
 obtain⟨k,n,s,l⟩:=t;rw[Tm.av_mk];rfl
structure EnvW (e:Env):Prop where
 obj:e.obj.w<1099511627776
 len:e.binds.length<1099511627776
 binds:∀p∈e.binds,p.2.w<1099511627776
end Go.Av
namespace Go.Proofs.YtgleolmhpmljhaaGreat
open Go.Av
theorem qrh(hp:xH){e:Env}(he:EnvW e){t:Tm}(ht:t.w<1099511627776):EVf (EV cfg) 114 [t.av,envR e.obj e.binds e.self]=some (qnz (zq e t)):=by
 have hm:=qiw he.len he.binds he.obj e.self;have hz:AV.agg [.int .i64 0,.int .i64 0,.str [],.sl []]=xb.av:=qbi.symm;apply Gets.get;unfold envR at hm⊢;unfold qnz zq envG;rw[Tm.av,Tm.cells_eq];refine quR _ _ _ _ _ _ _ _ _ _ ?_;rw[hm];unfold mayR;cases hb:mayB (-1) e.binds with
 |false=>
  rw[qCN (by simp)];simp only[qb,kTup,qf,vt,qp,kNil,qCm,cond_true,hz,Bool.false_and];exact⟨_,rfl,by rw[qCN (by simp)]⟩
 |true=>
  rw[qCM rfl];simp only[qb,kTup,qf,vt,qp,kNil,hz,qCF,List.nil_append,qq];cases ho:(decide (e.obj.chk=0)&&qeH e.self)with
  |false=>
   simp only[qCm,cond_true,Bool.false_and];exact⟨_,rfl,by rw[qCN (by simp)]⟩
  |true=>
   have hok:EnvOk e:=qyi.1 (by unfold envG;rw[hb,ho];rfl);have hc:=qb7 (V:=zP e) (by unfold zP;rw[qCH];exact he.len) ht;have hn:e.binds.map (·.1)=zP e:=rfl;simp only[qCj,cond_false,qCF,hn,hc,qb,qi]
   by_cases h0:xY (zP e) t=0
   ·obtain⟨h1,h2⟩:=qqJ h0;have hv:=qup hok hp t.w t (qCa _) h1 h2;rw[qCM (qCK h0),h0];simp only[show((0:Int) != 0)=false from rfl,cond_false];show Gets (kOpt (EVd (EV cfg) _ _ 7 (mR e false)) _) _;refine Gets.bind hv ?_;intro r hr;cases hvv:valG e t with
    |none=>
     rw[hvv]at hr;obtain⟨g1,z,g2⟩:=hr;rw[g1,g2];simp only[qV,zy,zz,qb,qp,cond_true];exact⟨_,rfl,rfl⟩
    |some v=>
     rw[hvv]at hr;obtain rfl:r=(v.av,mR e false):=hr;have hcp:=qeg (qcV (qnW hok _ t (qCa _) h1 h2 v hvv));simp only[qV,zy,zz,qb,qp,cond_false,qq,hcp];exact⟨_,rfl,rfl⟩
   ·have:(xY (zP e) t != 0)=true:=by simpa using h0
    rw[this,qCN (by simpa using h0)];exact⟨_,rfl,rfl⟩
theorem qwE(hp:xH){e:Env}(he:EnvW e){l:List Tm}(hl:∀x∈l,x.w<1099511627776)(hlen:l.length<1099511627776):EVs (EV cfg) 113 [.sl (qa l),envR e.obj e.binds e.self]=some (.bool (qkw e l)):=by
 have loop:∀(d i:Nat) (b:Bool),i+d=l.length->Gets (qjp (qa l) b i e.obj.kind e.obj.num e.obj.str (qa e.obj.subs) (vH e.binds) e.self) (·= .bool ((l.drop i).all (qrJ e)&&b)):=by
  intro d
  induction d with
  |zero=>
   intro i b hi;refine qhW _ _ _ _ _ _ _ _ _ ?_;rw[qg,qCL (by omega),qCs (by omega)];exact⟨_,rfl,rfl⟩
  |succ d ih=>
   intro i b hi;refine qhW _ _ _ _ _ _ _ _ _ ?_;have hil:i<l.length:=by omega
   have hx:l[i]? =some l[i]:=qB3 hil;have hd:l.drop i=l[i]::l.drop (i+1):=qCp hil;have h:=ih (i+1) b (by omega);have h1:=qrh hp he (hl l[i] (qCc hx));unfold envR at h1;rw[qg,qCK (show(i:Int)<(l.length:Int) by omega),qE,qP,qCK hil,vW hx,qZ hil hlen,hd,List.all_cons];simp only[cond_true,qCx,qj,qCw,qm,qk,xe,qq,h1,qb,qnz]
   rw[qz0];unfold qrJ at h⊢;simp only[beqS,show([116,114,117,101]:List UInt8)=tru from rfl]
   by_cases h2:(zq e l[i]).2=0
   ·have e0:((zq e l[i]).2 != 0)=false:=by rw[h2];rfl
    rw[e0,qCK h2,cond_false,qCF]
    by_cases h3:(zq e l[i]).1.kind=2
    ·have e1:((zq e l[i]).1.kind != 2)=false:=by rw[h3];rfl
     rw[e1,qCK h3,cond_false,qCF]
     by_cases h4:(zq e l[i]).1.str=tru
     ·rw[qCK h4,qCF];exact h
     ·rw[qCL h4];exact⟨_,rfl,rfl⟩
    ·have e1:((zq e l[i]).1.kind != 2)=true:=by simpa using h3
     rw[e1,qCL h3];exact⟨_,rfl,rfl⟩
   ·have e0:((zq e l[i]).2 != 0)=true:=by simpa using h2
    rw[e0,qCL h2];exact⟨_,rfl,rfl⟩
 have hm:=qiw he.len he.binds he.obj e.self;apply Gets.get;unfold envR at hm⊢;refine qsP _ _ _ _ _ _ _ ?_;rw[hm];unfold mayR qkw envG;cases hb:mayB (-1) e.binds with
 |false=>
  have h:=loop l.length 0 false (by omega);rw[qCN (by simp)];simp only[qb,kTup,qf,vt,qp,kNil,Bool.false_and];exact h
 |true=>
  have h:=loop l.length 0 (decide (e.obj.chk=0)&&qeH e.self) (by omega);rw[qCM rfl];simp only[qb,kTup,qf,vt,qp,kNil,qCF];exact h
def qAZ:Den:=evC cfg (EV cfg) 80 none 0 (sub (qc Tryz.f80) [1,1,1,1,1,0,1,0,0])
def qBy:Ex×List AV×AH->Option AV:=kAft (Cfg.keepOut cfg 80 7) (kRun cfg (EV cfg) (kfN cfg 6) 80 none 0 (vL cfg (Cfg.lift cfg 80 0) Tryz.f80.results.toList) ([.block 0,.seq (sub (qc Tryz.f80) [1,1,1,1,1,1])]))
def qAx:List AV×AH->Option AV:=λp=>kOpt (LOOP 0 (some [6,10,11,38,39,40]) ([]) qAZ p) qBy
def qA0:Den:=evC cfg (EV cfg) 44 none 0 (sub (qc Tryz.f44) [1,0,1,1,1,0,1,0,0])
def qBz:Ex×List AV×AH->Option AV:=kAft (Cfg.keepOut cfg 44 7) (kRun cfg (EV cfg) (kfN cfg 6) 44 none 0 (vL cfg (Cfg.lift cfg 44 0) Tryz.f44.results.toList) ([.block 1,.seq (sub (qc Tryz.f44) [1,0,1,1,1,1]),.scope]))
def qvu:List AV×AH->Option AV:=λp=>kOpt (LOOP 0 (some [2,4,7,43,44,45]) ([]) qA0 p) qBz
abbrev qjB(bo:Rz)(v40 c0_0 c0_1:Int)(c0_2:Bz)(c0_3:Rz)(c1_0 c1_1:Int)(c1_2:Bz)(c1_3 c1_4:Rz)(c1_5 c2_0 c2_1:Int)(c2_2:Bz)(c2_3:Rz):Option (AV):=qAx (((fx 56 [(6,.ptr 0 0 0),(10,.ptr 1 0 0),(11,.ptr 2 0 0),(38,.sl bo),(39,.int .i64 (bo.length:Int)),(40,.int .i64 v40)]):List AV),([.rows false 4 [[.int .i64 c0_0,.int .i64 c0_1,.str c0_2,.sl c0_3]],.rows false 6 [[.int .i64 c1_0,.int .i64 c1_1,.str c1_2,.sl c1_3,.sl c1_4,.int .i64 c1_5]],.rows false 4 [[.int .i64 c2_0,.int .i64 c2_1,.str c2_2,.sl c2_3]]]:AH))
abbrev qzM(self v45 c0_0 c0_1:Int)(c0_2:Bz)(c0_3:Rz)(c1_0 c1_1:Int)(c1_2:Bz)(c1_3:Rz):Option (AV):=qvu (((fx 64 [(2,.int .i64 self),(4,.ptr 0 0 0),(7,.ptr 1 0 0),(43,.nilS),(44,.int .i64 (0:Int)),(45,.int .i64 v45)]):List AV),([.rows false 4 [[.int .i64 c0_0,.int .i64 c0_1,.str c0_2,.sl c0_3]],.rows false 4 [[.int .i64 c1_0,.int .i64 c1_1,.str c1_2,.sl c1_3]]]:AH))
abbrev qhf(self:Int)(sz off len:Nat)(v45 c0_0 c0_1:Int)(c0_2:Bz)(c0_3:Rz)(c1_0 c1_1:Int)(c1_2:Bz)(c1_3 h2:Rz):Option (AV):=qvu (((fx 64 [(2,.int .i64 self),(4,.ptr 0 0 0),(7,.ptr 1 0 0),(43,.ms 2 off len),(44,.int .i64 (↑len:Int)),(45,.int .i64 v45)]):List AV),([.rows false 4 [[.int .i64 c0_0,.int .i64 c0_1,.str c0_2,.sl c0_3]],.rows false 4 [[.int .i64 c1_0,.int .i64 c1_1,.str c1_2,.sl c1_3]],.rows true sz h2]:AH))
theorem qpW(kh nh:Int)(sh:Bz)(lh gd bo:Rz)(ko no:Int)(so:Bz)(lo:Rz)(self:Int){P:AV->Prop}(h:Gets (kOpt (EVf (EV cfg) 112 [.agg [.int .i64 kh,.int .i64 nh,.str sh,.sl lh],.agg [.int .i64 ko,.int .i64 no,.str so,.sl lo]]) λv=>kTup v λcs=>qf cs λc cs=>kSl c λrows=>qf cs λc cs=>qr c λb=>kNil cs (bif ! b then some (AV.tup [.agg [.int .i64 0,.int .i64 0,.str [],.sl []],.bool false])else kOpt (EVs (EV cfg) 113 [.sl gd,.agg [.int .i64 ko,.int .i64 no,.str so,.sl lo,.sl rows,.int .i64 self]]) λv=>qr v λb=>bif ! b then some (AV.tup [.agg [.int .i64 0,.int .i64 0,.str [],.sl []],.bool false])else qjB bo 0 0 (0:Int) [] [] ko no so lo rows self 0 0 [] [])) P):Gets (EVf (EV cfg) 80 [.agg [.int .i64 kh,.int .i64 nh,.str sh,.sl lh,.sl gd,.sl bo],.agg [.int .i64 ko,.int .i64 no,.str so,.sl lo],.int .i64 self]) P:=
  gE (λ_=>funF rfl rfl Tryz.func80 rfl) (by kernel_rfl) h
abbrev zr0:Option (AV):=some (AV.tup [AV.int .i64 0,.agg [.int .i64 0,.int .i64 0,.str [],.sl []],.int .i64 2])
theorem qpY(kt nt:Int)(st:Bz)(lt:Rz)(ko no:Int)(so:Bz)(lo:Rz)(self:Int){P:AV->Prop}(h:Gets (kOpt (EVq (EV cfg) 50 [.agg [.int .i64 kt,.int .i64 nt,.str st,.sl lt]]) λq=>kInt .i64 q.2 λn=>kOwn q.1 (bif n != 0 then some (AV.tup [AV.int .i64 0,.agg [.int .i64 0,.int .i64 0,.str [],.sl []],.int .i64 n])else bif ko != 7 then some (AV.tup [AV.int .i64 0,.agg [.int .i64 (0:Int),.int .i64 0,.str [],.sl []],.int .i64 2])else kOpt (EVs (EV cfg) 79 [.agg [.int .i64 ko,.int .i64 no,.str so,.sl lo]]) λv=>kInt .i64 v λn=>bif n != 0 then zr0 else bif decide (self<1)then zr0 else bif decide (self>1073741824)then zr0 else qzM self 0 ko no so lo 0 (0:Int) [] []) λsz rs off len=>bif n != 0 then some (AV.tup [AV.int .i64 0,.agg [.int .i64 0,.int .i64 0,.str [],.sl []],.int .i64 n])else bif ko != 7 then zr0 else kOpt (EVs (EV cfg) 79 [.agg [.int .i64 ko,.int .i64 no,.str so,.sl lo]]) λv=>kInt .i64 v λn=>bif n != 0 then zr0 else bif decide (self<1)then zr0 else bif decide (self>1073741824)then zr0 else qhf self sz off len 0 ko no so lo 0 0 [] [] rs) P):Gets (EVf (EV cfg) 44 [.agg [.int .i64 kt,.int .i64 nt,.str st,.sl lt],.agg [.int .i64 ko,.int .i64 no,.str so,.sl lo],.int .i64 self]) P:=
  gE (λ_=>funF rfl rfl Tryz.func44 rfl) (by kernel_rfl) h
theorem qib(bo:Rz)(v40 c0_0 c0_1:Int)(c0_2:Bz)(c0_3:Rz)(c1_0 c1_1:Int)(c1_2:Bz)(c1_3 c1_4:Rz)(c1_5 c2_0 c2_1:Int)(c2_2:Bz)(c2_3:Rz){P:AV->Prop}(h:Gets (bif decide (v40<(bo.length:Int))then bif qd 0 v40&&qe v40 (bo.length:Int)then kOpt (qB0 bo (v40.toNat)) λrow=>bif qCh (qB1 row) 4 then bif qB4 4 (qB1 row)then kTmC (qB8 4 row) λn n_1 s rows=>(kOpt (EVf (EV cfg) 114 [.agg [.int .i64 n,.int .i64 n_1,.str s,.sl rows],.agg [.int .i64 c1_0,.int .i64 c1_1,.str c1_2,.sl c1_3,.sl c1_4,.int .i64 c1_5]]) λv=>kTup v λcs=>qf cs λc cs=>kAgg c λcs_1=>qf cs_1 λc cs_2=>kInt .i64 c λn=>qf cs_2 λc cs_3=>kInt .i64 c λn_2=>qf cs_3 λc cs_4=>kStr c λs=>qf cs_4 λc cs_5=>kSl c λrows=>kNil cs_5 (qf cs λc cs=>kInt .i64 c λn_3=>kNil cs (bif n_3 != 0 then some (AV.tup [AV.agg [.int .i64 2,.int .i64 0,.str [(69:UInt8),88,73,84],.sl []],.bool true])else qjB bo (qBZ .i64 (v40+1)) c0_0 c0_1 c0_2 c0_3 c1_0 c1_1 c1_2 c1_3 c1_4 c1_5 n n_2 s rows)))else none else none else none else some (AV.tup [.agg [.int .i64 c2_0,.int .i64 c2_1,.str c2_2,.sl c2_3],.bool true])) P):Gets (qjB bo v40 c0_0 c0_1 c0_2 c0_3 c1_0 c1_1 c1_2 c1_3 c1_4 c1_5 c2_0 c2_1 c2_2 c2_3) P:=
  gE (λ_=>ql (cfg:=cfg) (f:=80) (rd:=none) (bs:=0)) (by kernel_rfl) h
theorem qfM(self:Int)(sz off len:Nat)(v45 c0_0 c0_1:Int)(c0_2:Bz)(c0_3:Rz)(c1_0 c1_1:Int)(c1_2:Bz)(c1_3 h2:Rz){P:AV->Prop}(h:Gets (bif decide (v45<(↑ len:Int))then bif qCh sz 6&&qd 0 v45&&qe v45 (↑ len:Int)then kOpt (qB0 h2 (off+v45.toNat)) λrow=>bif qB4 6 (qB1 row)then qf (qB8 6 row) λc cs=>kInt .i64 c λn=>qf cs λc cs=>kInt .i64 c λn_1=>qf cs λc cs=>kStr c λs=>qf cs λc cs=>kSl c λrows=>qf cs λc cs=>kSl c λrows_1=>qf cs λc cs=>kSl c λrows_2=>kNil cs (kOpt (EVf (EV cfg) 80 [.agg [.int .i64 n,.int .i64 n_1,.str s,.sl rows,.sl rows_1,.sl rows_2],.agg [.int .i64 c0_0,.int .i64 c0_1,.str c0_2,.sl c0_3],.int .i64 self]) λv=>kTup v λcs=>qf cs λc cs=>kAgg c λcs_1=>qf cs_1 λc cs_2=>kInt .i64 c λn=>qf cs_2 λc cs_3=>kInt .i64 c λn_2=>qf cs_3 λc cs_4=>kStr c λs=>qf cs_4 λc cs_5=>kSl c λrows=>kNil cs_5 (qf cs λc cs=>qr c λb=>kNil cs (bif ! b then qhf self sz off len (qBZ .i64 (v45+1)) c0_0 c0_1 c0_2 c0_3 c1_0 c1_1 c1_2 c1_3 h2 else some (AV.tup [AV.int .i64 (qBZ .i64 (v45+1)),.agg [.int .i64 n,.int .i64 n_2,.str s,.sl rows],.int .i64 0]))))else none else none else some (AV.tup [AV.int .i64 0,.agg [.int .i64 0,.int .i64 0,.str [],.sl []],.int .i64 0])) P):Gets (qhf self sz off len v45 c0_0 c0_1 c0_2 c0_3 c1_0 c1_1 c1_2 c1_3 h2) P:=
  gE (λ_=>ql (cfg:=cfg) (f:=44) (rd:=none) (bs:=0)) (by kernel_rfl) h
end Go.Proofs.YtgleolmhpmljhaaGreat
end
noncomputable section
namespace Go.Av
theorem qse:∀(n:Nat) (p t:Tm) (m m':List (Int×Tm)),p.w<=n->t.chk=0->(∀q∈m,q.2.chk=0)->ye p t m=some m'->∀q∈m',q.2.chk=0:=by
 intro n
 induction n with
 |zero=>intro p t m m' h;have:=vU p;omega
 |succ n ih=>
  intro p t m m' hw ht hm h;have hwe:=p.w_eq;rw[qbV]at h
  by_cases h2:p.kind=2
  ·rw[qCM h2]at h
   by_cases h95:p.str=[95]
   ·rw[qCM h95]at h;cases h;exact hm
   ·rw[qCN h95]at h;cases hv:varG p.str with
    |none=>
     rw[hv]at h;simp only[]at h;split at h
     ·cases h;exact hm
     ·cases h
    |some v=>
     rw[hv]at h;simp only[]at h;cases hx:q7 v m with
     |some x=>
      rw[hx]at h;simp only[]at h;split at h
      ·cases h;exact hm
      ·cases h
     |none=>
      rw[hx]at h;cases h;intro q hq;rcases qCy.1 hq with hq|hq
      ·exact hm q hq
      ·simp at hq;subst hq;exact ht
  ·rw[qCN h2]at h
   by_cases h79:p.kind=7∨p.kind=9
   ·rw[qCM h79]at h;split at h
    ·cases h
    ·have main:∀(l l':List Tm) (m m':List (Int×Tm)),wL l<=n->(∀x∈l',x.chk=0)->(∀q∈m,q.2.chk=0)->xK l l' m=some m'->∀q∈m',q.2.chk=0:=by
      intro l
      induction l with
      |nil=>intro l' m m' _ _ hm h;rw[qeO]at h;cases h;exact hm
      |cons x l ihl=>
       intro l' m m' hw hl hm h;rw[qY]at hw;cases l' with
       |nil=>
        have:xK (x::l) [] m=some m:=by rw[xK];simp
        rw[this]at h;cases h;exact hm
       |cons y l'=>
        rw[qal]at h;obtain⟨m1,h1,h3⟩:=qB6.1 h;have hm1:=ih x y m m1 (by omega) (hl y List.mem_cons_self) hm h1;exact ihl l' m1 m' (by omega) (λz hz=>hl z (List.mem_cons_of_mem _ hz)) hm1 h3
     exact main p.subs t.subs m m' (by omega) (λx hx=>vh ht hx) hm h
   ·rw[qCN h79]at h;split at h
    ·cases h;exact hm
    ·cases h
theorem qtD{m:List (Int×Tm)}{q:Int×Tm}(h:q∈z8 m):q∈m∧0<=q.1∧q.1<=99:=by
 unfold z8 at h;obtain⟨n,hn,h⟩:=List.mem_filterMap.1 h;obtain⟨t,ht,rfl⟩:=qCb.1 h;rw[List.mem_range]at hn;exact⟨yl ht,by show(0:Int)<=(n:Int);omega,by show(n:Int)<=99;omega⟩
theorem qly{f:Nat->Option Tm}(hf:∀n t,f n=some t->t.chk=0):∀(d i:Nat) (last:Int),i+d=100->last<i->mayB last ((List.range' i d).filterMap λn=>(f n).map λt=>((n:Int),t))=true:=by
 intro d
 induction d with
 |zero=>intro i last _ _;rfl
 |succ d ih=>
  intro i last hi hl;rw[List.range'_succ,List.filterMap_cons];cases hx:f i with
  |none=>exact ih (i+1) last (by omega) (by omega)
  |some t=>
   have h1:=ih (i+1) i (by omega) (by omega);simp only[qCt,mayB,qCK hl,qCK (show(i:Int)<=99 by omega),qCK (hf i t hx),qCF];exact h1
theorem qsf{p t:Tm}{b:List (Int×Tm)}(h:yJ p t=some b):mayB (-1) b=true∧(∀q∈b,q.2.chk=0)∧t.chk=0∧p.chk=0:=by
 unfold yJ at h;split at h
 ·rename_i hc;obtain⟨m,hm,rfl⟩:=qCb.1 h;have hk:=qse _ p t [] m (qCa _) hc.2 (by simp) hm;refine⟨?_,λq hq=>hk q (qtD hq).1,hc.2,hc.1⟩;unfold z8;rw[List.range_eq_range'];exact qly (f:=λn=>q7 (n:Nat) m) (λn t ht=>hk _ (yl ht)) 100 0 (-1) rfl (by omega)
 ·cases h
end Go.Av
namespace Go.Proofs.YtgleolmhpmljhaaGreat
open Go.Av
theorem qg1(t:Tm):t.av= .agg [.int .i64 t.kind,.int .i64 t.num,.str t.str,.sl (qa t.subs)]:=by rw[Tm.av,Tm.cells_eq]
theorem qpZ(hp:xH){e:Env}(he:EnvW e){B:List Tm}(hB:B.length<1099511627776)(wB:∀x∈B,x.w<1099511627776):∀(d i:Nat) (out:Tm),i+d=B.length ->
  Gets (qjB (qa B) i 0 0 [] [] e.obj.kind e.obj.num e.obj.str (qa e.obj.subs) (vH e.binds) e.self out.kind out.num out.str (qa out.subs)) (·= .tup [(qnA e out (B.drop i)).av,.bool true]):=by
 intro d
 induction d with
 |zero=>
  intro i out hi;obtain rfl:i=B.length:=by omega
  refine qib _ _ _ _ _ _ _ _ _ _ _ _ _ _ _ _ ?_;rw[qg,qCL (by omega),qCs (qCa _)];simp only[cond_false,qq];exact⟨_,rfl,rfl⟩
 |succ d ih=>
  intro i out hi;have hil:i<B.length:=by omega
  have hx:B[i]? =some B[i]:=qB3 hil;have hv:=qrh hp he (wB _ (qCc hx));unfold envR qnz at hv;rw[qCp hil,qnA];refine qib _ _ _ _ _ _ _ _ _ _ _ _ _ _ _ _ ?_;have gx:qB0 (qa B) (qB7 (i:Int))=some B[i].cells:=yI hx;rw[qg,qCK (show(i:Int)<(B.length:Int) by omega),qE,qP,qCK hil,gx,qZ hil hB]
  simp only[cond_true,qCx,qb,qj,qCw,qm,qk,xe,qq,hv,bneD];generalize zq e B[i]=r;have h1:=ih (i+1) r.1 (by omega);rw[Tm.av,Tm.cells_eq];simp only[kTup,qf,kAgg,qi,zm,vt,kNil]
  by_cases h0:r.2=0
  ·rw[qCK h0,qCM h0];exact h1
  ·rw[qCL h0,qCN h0];exact⟨_,rfl,rfl⟩
theorem qrP(hp:xH){c:Cl}(hc:ClOk c){o:Tm}(ho:o.w<1099511627776)(self:Int):EVf (EV cfg) 80 [c.av,o.av,.int .i64 self]=some (qe5 (qhr c o self)):=by
 obtain⟨c1,c2,c3,c4,c5⟩:=hc;have hm:=qp7 (p:=c.head) (t:=o) (by have:=xo c1;omega) ho;apply Gets.get;unfold Cl.av Cl.cells qhr;rw[Tm.av,Tm.av,Tm.cells_eq,Tm.cells_eq]at hm;rw[Tm.av,Tm.cells_eq];refine qpW _ _ _ _ _ _ _ _ _ _ _ ?_;rw[hm];cases hmg:yJ c.head o with
 |none=>exact⟨_,rfl,rfl⟩
 |some b=>
  obtain⟨hmay,hbc,_,_⟩:=qsf hmg;have he:EnvW ⟨o,b,self⟩:=⟨ho,by have:=qiR hmay;show b.length<_;omega,λq hq=>by have:=xo (hbc q hq);omega⟩;have hh:=qwE hp he (l:=c.gs) (λx hx=>by have:=xo (c2 x hx);omega) (by omega);have hl:=qpZ hp he (B:=c.bs) (by omega) (λx hx=>by have:=xo (c3 x hx);omega) c.bs.length 0 xb (by omega);unfold envR at hh;simp only[qj6,qb,kTup,qf,vt,qp,kNil,qCj,cond_false,hh]
  cases qkw ⟨o,b,self⟩ c.gs with
  |false=>exact⟨_,rfl,rfl⟩
  |true=>exact hl
def qkH(r:Int×Tm×Int):AV:=.tup [.int .i64 r.1,r.2.1.av,.int .i64 r.2.2]
theorem qn6(hp:xH){o:Tm}(ho:o.w<1099511627776){self:Int}{l:List Cl}(hl:∀c∈l,ClOk c)(hlen:l.length<=8388608):∀d i:Nat,i+d=l.length ->
  Gets (qhf self 6 0 l.length i o.kind o.num o.str (qa o.subs) 0 0 [] [] (vw l)) (·=qkH ((qba o self (l.drop i) i).1,(qba o self (l.drop i) i).2,0)):=by
 intro d
 induction d with
 |zero=>
  intro i hi;obtain rfl:i=l.length:=by omega
  refine qfM _ _ _ _ _ _ _ _ _ _ _ _ _ _ ?_;rw[qCL (by omega),qCs (qCa _)];exact⟨_,rfl,rfl⟩
 |succ d ih=>
  intro i hi;have hil:i<l.length:=by omega
  have hx:l[i]? =some l[i]:=qB3 hil;have ht:=qrP hp (hl _ (qCc hx)) ho self;have h1:=ih (i+1) (by omega);rw[qCp hil,qba];refine qfM _ _ _ _ _ _ _ _ _ _ _ _ _ _ ?_;have gx:qB0 (vw l) (0+qB7 (i:Int))=some l[i].cells:=by
   rw[qCG,qv,qCi,qgh,hx];rfl
  rw[qCK (show(i:Int)<(l.length:Int) by omega),qE,qP,qCK hil,gx,qZ hil (show l.length<1099511627776 by omega)];have b6:qB4 6 l[i].cells.length=true:=rfl;have t6:qB8 6 l[i].cells=l[i].cells:=rfl;simp only[show qCh 6 6=true from rfl,cond_true,qCx,qb,b6,t6];unfold Cl.av at ht;unfold Cl.cells at ht⊢;simp only[qf,qi,zm,vt,kNil,qq,ht,qb]
  cases qhr l[i] o self with
  |none=>exact h1
  |some x=>
   simp only[qe5];rw[Tm.av,Tm.cells_eq];refine⟨_,rfl,?_⟩;unfold qkH;rw[Tm.av,Tm.cells_eq];rfl
theorem qrS(hp:xH){t o:Tm}(ht:t.w<1099511627776)(ho:o.w<1099511627776)(self:Int):EVf (EV cfg) 44 [t.av,o.av,.int .i64 self]=some (qkH (qa9 t o self)):=by
 have hk:=qkW ht;have hc:=zW ho;obtain⟨hok,hlen⟩:=qlV t;have hl:=qn6 hp ho (self:=self) hok hlen (clsG t).1.length 0 (by omega);apply Gets.get;rw[Tm.av,Tm.cells_eq]at hk hc;rw[Tm.av,Tm.av,Tm.cells_eq,Tm.cells_eq];refine qpY _ _ _ _ _ _ _ _ _ ?_;unfold zr0;rw[hk,hc];unfold qa9;simp only[clsQ,qb,qi,qoF,bneD]
 by_cases h0:(clsG t).2=0
 ·rw[h0,qCK rfl,qCN (by simp)]
  by_cases h7:o.kind=7
  ·rw[qCK h7]
   by_cases hoc:o.chk=0
   ·rw[qCK hoc]
    by_cases h1:self<1
    ·rw[qCK h1,qCM (.inr (.inr (.inl h1)))];exact⟨_,rfl,rfl⟩
    ·rw[qCL h1]
     by_cases h2:self>1073741824
     ·rw[qCK h2,qCM (.inr (.inr (.inr h2)))];exact⟨_,rfl,rfl⟩
     ·rw[qCL h2,qCN (λh=>h.elim (λh=>h h7) λh=>h.elim (λh=>h hoc) λh=>h.elim h1 h2)];exact hl
   ·rw[qCL hoc,qCM (.inr (.inl hoc))];exact⟨_,rfl,rfl⟩
  ·rw[qCL h7,qCM (.inl h7)];exact⟨_,rfl,rfl⟩
 ·rw[qCL h0,qCM h0];exact⟨_,rfl,rfl⟩
theorem qvT(hp:xH){t o:Tm}(ht:t.w<1099511627776)(ho:o.w<1099511627776)(self:Int):EVf (EV cfg) 13 [t.av,o.av,.int .i64 self]=some (.tup [(qa9 t o self).2.1.av,.bool (decide ((qa9 t o self).1>0)),.int .i64 (qa9 t o self).2.2]):=by
 have hk:=qrS hp ht ho self;apply Gets.get;generalize qa9 t o self=r at *;obtain⟨n,x,e⟩:=r;unfold qkH at hk;rw[qg1 t,qg1 o]at hk⊢;refine qtM _ _ _ _ _ _ _ _ _ ?_;rw[hk];simp only[];rw[Tm.av,Tm.cells_eq];exact⟨_,rfl,rfl⟩
end Go.Proofs.YtgleolmhpmljhaaGreat
end
noncomputable section
namespace Go.Av
def Rg.cells(r:Rg):List AV:=[.int .i64 r.ar,.sl (qa r.fst)]
def Rg.av(r:Rg):AV:=.agg r.cells
def qD(l:List Rg):List (List AV):=l.map Rg.cells
def Bnd.av(b:Bnd):AV:=.agg [.bool b.all,.sl (qa b.keys),.sl (qD b.rgs)]
theorem yk(l:List Rg):(qD l).length=l.length:=by simp[qD]
theorem qgg(l:List Rg)(i:Nat):(qD l)[i]? =(l[i]?).map Rg.cells:=by simp[qD]
structure RgW (r:Rg):Prop where
 len:r.fst.length<1099511627776
 ws:∀x∈r.fst,x.w<1099511627776
def qot(b:Bnd)(k:Tm):Bool:=decide (k.chk=0)&&(b.all||((b.keys.any λx=>decide (x.chk=0)&&decide (x=k))||b.rgs.any λr=>allK r.fst&&q8 r k))
def AtP(i:Nat)(p:Bool)(v:AV):Prop:=∃j:Int,v= .int .i64 j∧(0<=j↔p=true)
end Go.Av
namespace Go.Proofs.YtgleolmhpmljhaaGreat
open Go.Av
theorem qvf{t:Tm}(h:t.w<1099511627776):EVs (EV cfg) 81 [t.av]=some (.bool (!decide (t.chk=0))):=by
 have hc:=zW h;apply Gets.get;rw[Tm.av,Tm.cells_eq]at hc⊢;refine qtb _ _ _ _ ?_;rw[hc];simp only[qb,qi,bneD];exact⟨_,rfl,rfl⟩
theorem qmc{l:List Tm}(hlen:l.length<1099511627776)(hw:∀x∈l,x.w<1099511627776):EVs (EV cfg) 45 [.sl (qa l)]=some (.bool (allK l)):=by
 have loop:∀d i:Nat,i+d=l.length->Gets (qg9 (qa l) i) (AtP i (!allK (l.drop i))):=by
  intro d
  induction d with
  |zero=>
   intro i hi;refine qfB _ _ ?_;rw[qg,qCL (by omega)];refine⟨_,rfl,-1,rfl,?_⟩;rw[qCs (by omega)];simp[allK]
  |succ d ihd=>
   intro i hi;have hil:i<l.length:=by omega
   refine qfB _ _ ?_;have hx:l[i]? =some l[i]:=qB3 hil;have hd:l.drop i=l[i]::l.drop (i+1):=qCp hil;have h1:=qvf (hw _ (qCc hx));have h2:=ihd (i+1) (by omega);rw[qg,qCK (show(i:Int)<(l.length:Int) by omega),qE,qP,qCK hil,vW hx,qZ hil hlen];simp only[cond_true,qCx,qj,qCw,qm,qk,show qB4 4 4=true from rfl,qq,h1,qb,qp]
   by_cases hg:l[i].chk=0
   ·rw[qCK hg];refine h2.mono ?_;rintro _ ⟨j,rfl,hj⟩;refine⟨j,rfl,?_⟩;rw[hd,allK,List.all_cons,qCK hg,qCF];exact hj
   ·rw[qCL hg];refine⟨_,rfl,i,rfl,?_⟩;rw[hd,allK,List.all_cons,qCL hg];exact⟨λ_=>rfl,λ_=>by omega⟩
 obtain⟨_,h1,j,rfl,hj⟩:=loop l.length 0 (by omega);rw[List.drop_zero]at hj;have h2:EVs (EV cfg) 19 [.sl (qa l),.fn (.func 81) [] []]=some (.int .i64 j):=Gets.get (qsK _ ⟨_,h1,rfl⟩);have h3:EVs (EV cfg) 46 [.sl (qa l),.fn (.func 81) [] []]=some (.bool (decide (j≥0))):=by
  apply Gets.get;refine qqF _ ?_;rw[h2];exact⟨_,rfl,rfl⟩
 apply Gets.get;refine qwV _ ?_;rw[h3];refine⟨_,rfl,?_⟩;show AV.bool (!decide (j≥0))=_
 congr 1
 cases ha:allK l with
 |false=>rw[ha]at hj;rw[qCK (hj.2 rfl)];rfl
 |true=>
  rw[ha]at hj;have:¬j≥0:=λh=>by have:=hj.1 h;cases this
  rw[qCL this];rfl
theorem qvh{l m:List Tm}(hl:l.length<1099511627776)(hw:∀x∈l,x.w<1099511627776):EVs (EV cfg) 87 [.sl (qa l),.sl (qa m),.fn (.func 31) [] []]=some (.bool (decide (l=m))):=by
 apply Gets.get;refine qsV _ _ ?_;rw[qg,qg,bneD]
 by_cases hlm:l.length=m.length
 ·have loop:∀d i:Nat,i+d=l.length->Gets (qet (qa l) (qa m) i) (·= .bool (decide (l.drop i=m.drop i))):=by
   intro d
   induction d with
   |zero=>
    intro i hi;refine qfe _ _ _ ?_;rw[qg,qCL (by omega),qCs (by omega),qCs (by omega)];exact⟨_,rfl,rfl⟩
   |succ d ihd=>
    intro i hi;have hil:i<l.length:=by omega
    have him:i<m.length:=by omega
    refine qfe _ _ _ ?_;have hx:l[i]? =some l[i]:=qB3 hil;have hy:m[i]? =some m[i]:=qB3 him;have hd:l.drop i=l[i]::l.drop (i+1):=qCp hil;have hd':m.drop i=m[i]::m.drop (i+1):=qCp him;have h1:=qbo (b:=m[i]) (hw _ (qCc hx));have h2:=ihd (i+1) (by omega);rw[qg,qg,qCK (show(i:Int)<(l.length:Int) by omega),qE,qP,qP,qCK hil,qCK him,vW hx,qZ hil hl]
    simp only[cond_true,qCx,qj,qCw,qm,qk,show qB4 4 4=true from rfl];rw[vW hy];simp only[cond_true,qj,qCw,qm,qk,show qB4 4 4=true from rfl,qq,h1,qb,qp];rw[hd,hd']
    by_cases he:l[i]=m[i]
    ·rw[qCK he];refine h2.mono ?_;rintro _ rfl;rw[he]
     congr 1
     exact decide_eq_decide.2 ⟨λh=>by rw[h],λh=>(List.cons.inj h).2⟩
    ·rw[qCL he];refine⟨_,rfl,?_⟩;rw[qCL (λh=>he (List.cons.inj h).1)]
  rw[qCK (show(l.length:Int)=m.length by omega)];have:=loop l.length 0 (by omega)
  simpa using this
 ·rw[qCL (show ¬(l.length:Int)=m.length by omega)];refine⟨_,rfl,?_⟩;rw[qCL (λh=>hlm (by rw[h]))]
theorem qk3{l m:List Tm}(hl:l.length<1099511627776)(hw:∀x∈l,x.w<1099511627776):EVs (EV cfg) 60 [.sl (qa l),.sl (qa m)]=some (.bool (decide (m.length<=l.length)&&decide (l.take m.length=m))):=by
 have he:=qvh (l:=l.take m.length) (m:=m) (by rw[qCD];omega) (λx hx=>hw x (List.mem_of_mem_take hx));apply Gets.get;refine qqO _ _ ?_;rw[qg,qg]
 by_cases h:m.length<=l.length
 ·have hle:qd (m.length:Int) (l.length:Int)=true:=by simp only[qd];exact qCK (by omega)
  have r4:xl 4 (qa l)=true:=y9 _;rw[qCK (show(l.length:Int)≥m.length by omega),qCK h,qE,hle,r4,qCi,Nat.sub_zero,qaV,he];simp only[qCx,cond_true,qb,qp,qCF];exact⟨_,rfl,rfl⟩
 ·rw[qCL (show ¬(l.length:Int)≥m.length by omega),qCL h];exact⟨_,rfl,rfl⟩
theorem qk2(r:Rg){k:Tm}(hk:k.w<1099511627776):EVs (EV cfg) 27 [r.av,k.av]=some (.bool (q8 r k)):=by
 have hwe:=k.w_eq;have hb:=qk3 (l:=k.subs) (m:=r.fst) (by have:=xL k.subs;omega) (λx hx=>by have:=y5 hx;omega);apply Gets.get;rw[qg1 k];refine qqN _ _ _ _ _ _ ?_;rw[hb,beqI,qg,beqI];unfold q8;cases decide (k.kind=7)<;>cases decide ((k.subs.length:Int)=r.ar)<;>exact⟨_,rfl,rfl⟩
theorem qve{b:Bnd}(hkl:b.keys.length<1099511627776)(hkw:∀x∈b.keys,x.w<1099511627776)(hrl:b.rgs.length<1099511627776)(hrw:∀r∈b.rgs,RgW r){k:Tm}(hk:k.w<1099511627776):EVs (EV cfg) 14 [b.av,k.av]=some (.bool (qot b k)):=by
 have m1:=qmc (l:=[k]) (by simp) (by simpa using hk);have k1:∀k:Tm,allK [k]=decide (k.chk=0):=λk=>by simp[allK]
 have er:∀k:Tm,[[AV.int .i64 k.kind,.int .i64 k.num,.str k.str,.sl (qa k.subs)]]=qa [k]:=λk=>by rw[qN,q4,Tm.cells_eq]
 have hin:∀x∈b.keys,EVs (EV cfg) 47 [x.av,.cptr [.int .i64 k.kind,.int .i64 k.num,.str k.str,.sl (qa k.subs)] 0]=some (.bool (decide (x.chk=0)&&decide (x=k))):=by
  intro x hx;have m2:=qmc (l:=[x]) (by simp) (by simpa using hkw x hx);have hs:=qbo (b:=k) (hkw x hx);apply Gets.get;rw[qg1 x];refine qos _ _ _ _ _ _ _ _ ?_;rw[er,m2,k1];simp only[qb,qp,qq,hs];cases decide (x.chk=0)<;>exact⟨_,rfl,rfl⟩
 have hrin:∀r∈b.rgs,EVs (EV cfg) 48 [r.av,.cptr [.int .i64 k.kind,.int .i64 k.num,.str k.str,.sl (qa k.subs)] 0]=some (.bool (allK r.fst&&q8 r k)):=by
  intro r hr;have m2:=qmc (hrw r hr).len (hrw r hr).ws;have hs:=qk2 r hk;apply Gets.get;refine qqc _ _ _ _ _ _ ?_;rw[m2,qq k];have e:(AV.agg [.int .i64 r.ar,.sl (qa r.fst)])=r.av:=rfl;simp only[qb,qp,e,hs];cases allK r.fst<;>exact⟨_,rfl,rfl⟩
 have loopK:∀d i:Nat,i+d=b.keys.length->Gets (qes (qa b.keys) k.kind k.num k.str (qa k.subs) i) (AtP i ((b.keys.drop i).any λx=>decide (x.chk=0)&&decide (x=k))):=by
  intro d
  induction d with
  |zero=>
   intro i hi;refine qfd _ _ _ _ _ _ ?_;rw[qg,qCL (by omega)];refine⟨_,rfl,-1,rfl,?_⟩;rw[qCs (by omega)];simp
  |succ d ihd=>
   intro i hi;have hil:i<b.keys.length:=by omega
   refine qfd _ _ _ _ _ _ ?_;have hx:b.keys[i]? =some b.keys[i]:=qB3 hil;have hd:b.keys.drop i=b.keys[i]::b.keys.drop (i+1):=qCp hil;have h1:=hin _ (qCc hx);have h2:=ihd (i+1) (by omega);rw[qg,qCK (show(i:Int)<(b.keys.length:Int) by omega),qE,qP,qCK hil,vW hx,qZ hil hkl]
   simp only[cond_true,qCx,qj,qCw,qm,qk,show qB4 4 4=true from rfl,qq,h1,qb,qp];rw[hd,List.any_cons];cases hg:(decide (b.keys[i].chk=0)&&decide (b.keys[i]=k))with
   |true=>
    refine⟨_,rfl,i,rfl,?_⟩;exact⟨λ_=>rfl,λ_=>by omega⟩
   |false=>
    refine h2.mono ?_;rintro _ ⟨j,rfl,hj⟩;exact⟨j,rfl,by rw[Bool.false_or];exact hj⟩
 have loopR:∀d i:Nat,i+d=b.rgs.length->Gets (qg8 (qD b.rgs) k.kind k.num k.str (qa k.subs) i) (AtP i ((b.rgs.drop i).any λr=>allK r.fst&&q8 r k)):=by
  intro d
  induction d with
  |zero=>
   intro i hi;refine qfA _ _ _ _ _ _ ?_;rw[yk,qCL (by omega)];refine⟨_,rfl,-1,rfl,?_⟩;rw[qCs (by omega)];simp
  |succ d ihd=>
   intro i hi;have hil:i<b.rgs.length:=by omega
   refine qfA _ _ _ _ _ _ ?_;have hx:b.rgs[i]? =some b.rgs[i]:=qB3 hil;have hd:b.rgs.drop i=b.rgs[i]::b.rgs.drop (i+1):=qCp hil;have h1:=hrin _ (qCc hx);have h2:=ihd (i+1) (by omega);have gx:qB0 (qD b.rgs) (qB7 (i:Int))=some b.rgs[i].cells:=by
    rw[qv,qCi,qgg,hx];rfl
   rw[yk,qCK (show(i:Int)<(b.rgs.length:Int) by omega),qE,qP,qCK hil,gx,qZ hil hrl];generalize b.rgs[i]=r at *;have e:(AV.agg [.int .i64 r.ar,.sl (qa r.fst)])=r.av:=rfl;have c2:r.cells.length=2:=rfl;have t2:qB8 2 r.cells=r.cells:=rfl;have kc:∀{α:Type} (K:Int->List (List AV)->Option α),(qf r.cells λc cs=>kInt .i64 c λn=>qf cs λc cs=>kSl c λrows=>kNil cs (K n rows))=K r.ar (qa r.fst):=λK=>rfl
   simp only[cond_true,qCx,c2,t2,qCw,show qB4 2 2=true from rfl,qb];rw[kc];simp only[e,h1,qb,qp];rw[hd,List.any_cons];cases hg:(allK r.fst&&q8 r k)with
   |true=>
    refine⟨_,rfl,i,rfl,?_⟩;exact⟨λ_=>rfl,λ_=>by omega⟩
   |false=>
    refine h2.mono ?_;rintro _ ⟨j,rfl,hj⟩;exact⟨j,rfl,by rw[Bool.false_or];exact hj⟩
 obtain⟨_,a1,j,rfl,hj⟩:=loopK b.keys.length 0 (by omega);obtain⟨_,b1,j',rfl,hj'⟩:=loopR b.rgs.length 0 (by omega);rw[List.drop_zero]at hj hj';have a2:EVs (EV cfg) 19 [.sl (qa b.keys),.fn (.func 47) [] [.cptr [.int .i64 k.kind,.int .i64 k.num,.str k.str,.sl (qa k.subs)] 0]]=some (.int .i64 j):=Gets.get (qsL _ _ _ _ _ ⟨_,a1,rfl⟩);have a3:EVs (EV cfg) 46 [.sl (qa b.keys),.fn (.func 47) [] [.cptr [.int .i64 k.kind,.int .i64 k.num,.str k.str,.sl (qa k.subs)] 0]]=some (.bool (decide (j≥0))):=by
  apply Gets.get;refine qqG _ _ _ _ _ ?_;rw[a2];exact⟨_,rfl,rfl⟩
 have b2:EVs (EV cfg) 59 [.sl (qD b.rgs),.fn (.func 48) [] [.cptr [.int .i64 k.kind,.int .i64 k.num,.str k.str,.sl (qa k.subs)] 0]]=some (.int .i64 j'):=Gets.get (quJ _ _ _ _ _ ⟨_,b1,rfl⟩);have b3:EVs (EV cfg) 25 [.sl (qD b.rgs),.fn (.func 48) [] [.cptr [.int .i64 k.kind,.int .i64 k.num,.str k.str,.sl (qa k.subs)] 0]]=some (.bool (decide (j'≥0))):=by
  apply Gets.get;refine qs0 _ _ _ _ _ ?_;rw[b2];exact⟨_,rfl,rfl⟩
 have d1:∀{j:Int} {p:Bool},(0<=j↔p=true)->decide (j≥0)=p:=fun{j p} h=>by
  cases p with
  |true=>exact qCK (h.2 rfl)
  |false=>exact qCL (λhh=>by have:=h.1 hh;cases this)
 rw[d1 hj]at a3;rw[d1 hj']at b3;apply Gets.get;rw[qg1 k];refine qta _ _ _ _ _ _ _ ?_;rw[er,m1,k1,a3,b3];unfold qot;simp only[qb,qp];cases decide (k.chk=0)with
 |false=>exact⟨_,rfl,rfl⟩
 |true=>
  cases b.all with
  |true=>exact⟨_,rfl,rfl⟩
  |false=>
   cases(b.keys.any λx=>decide (x.chk=0)&&decide (x=k))<;>exact⟨_,rfl,rfl⟩
end Go.Proofs.YtgleolmhpmljhaaGreat
end
noncomputable section
namespace Go.Av
def okC(c:Cl):Bool:=qe2 c.head&& !c.bs.isEmpty&&(c.gs.all (λe=>decide (xY (z7 c.head) e=0))&&c.bs.all (λe=>decide (xY (z7 c.head) e=0)))
theorem qqI(c:Cl):ya (clT c)=if okC c then some c else none:=by
 unfold ya clT;rw[qCM (show(tupT [c.head,vS c.gs,vS c.bs]).kind=7 from rfl)];show(if qe2 c.head&&((qJ (vS c.gs)).2&&((qJ (vS c.bs)).2&& !(qJ (vS c.bs)).1.isEmpty))&&((qJ (vS c.gs)).1.all (λe=>decide (xY (z7 c.head) e=0))&&(qJ (vS c.bs)).1.all (λe=>decide (xY (z7 c.head) e=0)))then some (Cl.mk c.head (qJ (vS c.gs)).1 (qJ (vS c.bs)).1)else none)=_
 rw[qbH,qbH];simp only[qCF];rfl
theorem qof:∀cs:List Cl,seqC (cs.map clT)=if cs.all okC then some cs else none
 |[]=>rfl
 |c::cs=>by
  rw[List.map_cons,seqC,qqI,qof cs,List.all_cons];cases okC c<;>cases cs.all okC<;>rfl
theorem qu9(cs:List Cl):clsG (selT cs)=if(selT cs).chk=0 then(if cs.all okC&& !cs.isEmpty then(cs,0)else([],10))else([],2):=by
 unfold clsG;have h:qJ (selT cs)=(cs.map clT,true):=qbH _;rw[h];simp only[qof,qCF];cases h1:cs.all okC<;>cases cs<;>simp
structure SelOk (cs:List Cl):Prop where
 chk:(selT cs).chk=0
 ok:∀c∈cs,okC c=true
 ne:cs≠[]
theorem qu8{cs:List Cl}:(clsG (selT cs)).2=0↔SelOk cs:=by
 rw[qu9]
 by_cases h:(selT cs).chk=0
 ·rw[qCM h];cases h1:cs.all okC&& !cs.isEmpty with
  |true=>
   rw[qB2,List.all_eq_true]at h1;exact⟨λ_=>⟨h,h1.1,by rintro rfl;exact absurd h1.2 (by simp)⟩,λ_=>rfl⟩
  |false=>
   refine⟨λh=>(by cases h),λg=>?_⟩;rw[List.all_eq_true.2 g.ok,qCF]at h1;exact absurd (List.isEmpty_iff.1 (by simpa using h1)) g.ne
 ·rw[qCN h];exact⟨λh=>(by cases h),λg=>absurd g.chk h⟩
theorem SelOk.of{cs:List Cl}(h:SelOk cs):ofG cs=(selT cs,0):=by
 unfold ofG;rw[qCM (qu8.2 h)]
theorem qmQ{t a b:Tm}(hc:t.chk=0)(hk:t.kind=9)(hs:t.subs=[a,b]):t= .mk 9 0 [] [a,b]:=by
 obtain⟨h1,_⟩:=yT.1 hc;obtain⟨k,n,s,l⟩:=t;simp only[Tm.kind_mk,Tm.subs_mk]at hk hs;subst hk hs;rw[Tm.parts_eq,qB2]at h1;have h2:yq 9 n s 2=true:=h1.1;simp[yq]at h2;rw[h2.1,h2.2]
theorem qnX{t:Tm}(hc:t.chk=0)(hk:t.kind=7):t=tupT t.subs:=by
 obtain⟨h1,_⟩:=yT.1 hc;obtain⟨k,n,s,l⟩:=t;simp only[Tm.kind_mk]at hk;subst hk;rw[Tm.parts_eq,qB2]at h1;have h2:yq 7 n s l.length=true:=h1.1;simp[yq]at h2;rw[h2.1,h2.2.1];rfl
theorem qdG:∀l:List Tm,(vS l).words=1+l.length+q9 l
 |[]=>by decide
 |x::l=>by
  have h:(vS (x::l)).words=1+(x.words+((vS l).words+0)):=by
   show(Tm.mk 9 0 [] [x,vS l]).words=_;rw[Tm.words];simp[q9,Tm.own]
  rw[h,qdG l,q9,qCE];omega
theorem qdH:∀l:List Tm,(vS l).parts=vJ l
 |[]=>by decide
 |x::l=>by
  have h:(vS (x::l)).parts=(x.parts&&((vS l).parts&&true)):=by
   show(Tm.mk 9 0 [] [x,vS l]).parts=_;rw[Tm.parts];simp[vJ,yq]
  rw[h,qdH l,vJ,Bool.and_true]
theorem qxW{c:Cl}:(selT [c]).chk=0↔(clT c).parts=true∧2+(clT c).words<=65536:=by
 rw[yT,selT,qdG,qdH];simp[vJ,q9]
theorem SelOk.one{cs:List Cl}(h:SelOk cs){c:Cl}(hc:c∈cs):SelOk [c]:=by
 obtain⟨h1,h2⟩:=yT.1 h.chk;rw[selT,qdH]at h1;rw[selT,qdG]at h2;have hm:=List.mem_map_of_mem (f:=clT) hc;have:=qjv hm;have hl:1<=cs.length:=List.length_pos_of_mem hc;rw[qCH]at h2;exact⟨qxW.2 ⟨qj0 h1 _ hm,by omega⟩,by simpa using h.ok c hc,by simp⟩
mutual
/-- does neither a variable nor what matches all stand in a pattern? -/
def gndT:Tm->Bool
 | .mk k _ s l=>if k=7∨k=9 then gndL l else !(decide (k=2)&&((varG s).isSome||decide (s=[95])))
def gndL:List Tm->Bool
 |[]=>true
 |t::l=>gndT t&&gndL l
end
theorem qaF:∀l:List Tm,gndL l=l.all gndT
 |[]=>rfl
 |t::l=>by rw[gndL,qaF l];rfl
theorem qhE(t:Tm):gndT t=if t.kind=7∨t.kind=9 then t.subs.all gndT else !(decide (t.kind=2)&&((varG t.str).isSome||decide (t.str=[95]))):=by
 obtain⟨k,m,s,l⟩:=t;rw[gndT,qaF];rfl
def bndG(p:Tm):Bool:=decide (p.chk=0)&&gndT p
theorem qgw:∀{l l':List Tm} {m m':List (Int×Tm)},xK l l' m=some m'->∀(i:Nat) (p t:Tm),l[i]? =some p->l'[i]? =some t->∃m1 m2,ye p t m1=some m2
 |[],_,_,_,_,i,p,t,hp,_=>by cases hp
 |_::_,[],_,_,_,i,p,t,_,ht=>by cases ht
 |q::l,u::l',m,m',h,i,p,t,hp,ht=>by
  rw[qal]at h;obtain⟨m1,h1,h2⟩:=qB6.1 h;cases i with
  |zero=>cases hp;cases ht;exact⟨m,m1,h1⟩
  |succ i=>exact qgw h2 i p t hp ht
theorem quP:∀(n:Nat) (p:Tm),p.w<=n->p.chk=0->gndT p=true->∀(t:Tm) (m m':List (Int×Tm)),t.chk=0->ye p t m=some m'->p=t:=by
 intro n
 induction n with
 |zero=>intro p h;have:=p.w_eq;omega
 |succ n ih=>
  intro p hw hc hg t m m' ht h;have hwe:=p.w_eq;rw[qbV]at h;rw[qhE]at hg
  by_cases h2:p.kind=2
  ·rw[qCM h2]at h;rw[qCN (by omega)]at hg;simp only[h2,decide_true,qCF,Bool.not_eq_true',Bool.or_eq_false_iff,decide_eq_false_iff_not]at hg;rw[qCN hg.2]at h;have hv:varG p.str=none:=by
    cases hx:varG p.str with
    |none=>rfl
    |some x=>rw[hx]at hg;cases hg.1
   rw[hv]at h;simp only[]at h;split at h
   ·assumption
   ·cases h
  rw[qCN h2]at h
  by_cases h79:p.kind=7∨p.kind=9
  ·rw[qCM h79]at h hg;split at h
   ·cases h
   ·rename_i hn;have hk:t.kind=p.kind:=by omega
    have hl:t.subs.length=p.subs.length:=by omega
    have hs:p.subs=t.subs:=by
     refine List.ext_getElem? λi=>?_
     by_cases hi:i<p.subs.length
     ·have e1:p.subs[i]? =some p.subs[i]:=qB3 hi;have e2:t.subs[i]? =some (t.subs[i]'(by omega)):=qB3 (by omega);obtain⟨m1,m2,hm⟩:=qgw h i _ _ e1 e2;have hmem:=qCc e1;have:=ih p.subs[i] (by have:=y5 hmem;omega) (vh hc hmem) (List.all_eq_true.1 hg _ hmem) _ m1 m2 (vh ht (qCc e2)) hm;rw[e1,e2,this]
     ·rw[List.getElem?_eq_none (by omega),List.getElem?_eq_none (by omega)]
    rcases h79 with h7|h9
    ·rw[qnX hc h7,qnX ht (by omega),hs]
    ·obtain⟨a,b,hab⟩:=zV hc h9;rw[qmQ hc h9 hab,qmQ ht (by omega) (by rw[←hs];exact hab)]
  ·rw[qCN h79]at h;split at h
   ·assumption
   ·cases h
theorem qmV{p t:Tm}{m m':List (Int×Tm)}(hb:bndG p=true)(ht:t.chk=0)(h:ye p t m=some m'):p=t:=by
 unfold bndG at hb;rw[qB2,decide_eq_true_eq]at hb;exact quP p.w p (qCa _) hb.1 hb.2 t m m' ht h
inductive Meet
 |all
 |none
 |key (k:Tm)
 |rng (r:Rg)
def vV(h:Tm)(pos:Nat):Meet:=
 if h.kind≠7 then .all
 else match h.subs[pos - 1]? with
  |Option.none=>.none
  |some p=>if bndG p then .key p else if p.kind=7 then .rng ⟨p.subs.length,p.subs.takeWhile bndG⟩else .all
theorem qcN:∀{l l':List Tm} {m m':List (Int×Tm)},l.length=l'.length->(∀x∈l',x.chk=0)->xK l l' m=some m'->l'.take (l.takeWhile bndG).length=l.takeWhile bndG
 |[],l',_,_,_,_,_=>by simp
 |p::l,[],_,_,hl,_,_=>by simp at hl
 |p::l,t::l',m,m',hl,hc,h=>by
  rw[qal]at h;obtain⟨m1,h1,h2⟩:=qB6.1 h;rw[List.takeWhile_cons];split
  ·rename_i hb;have:=qmV hb (hc t (by simp)) h1;subst this;rw[qCE,List.take_succ_cons,qcN (by simpa using hl) (λx hx=>hc x (by simp[hx])) h2]
  ·simp
theorem qsd{h o:Tm}{b:List (Int×Tm)}(hm:yJ h o=some b){pos:Nat}(h1:1<=pos){k:Tm}(hk:o.subs[pos - 1]? =some k):
  k.chk=0∧match vV h pos with
   | .all=>True
   | .none=>False
   | .key p=>p=k
   | .rng r=>q8 r k=true:=by
 unfold yJ at hm;split at hm
 case isFalse=>cases hm
 rename_i hc;obtain⟨m',hm',_⟩:=qCb.1 hm;have hkc:k.chk=0:=vh hc.2 (qCc hk);refine⟨hkc,?_⟩;unfold vV
 by_cases h7:h.kind=7
 case neg=>rw[qCM h7];trivial
 rw[qCN (by simp[h7])];rw[qbV,qCN (by omega),qCM (.inl h7)]at hm';split at hm'
 ·cases hm'
 rename_i hn;have hl:o.subs.length=h.subs.length:=by omega
 have hlt:pos - 1<o.subs.length:=(qB5.1 hk).1;have hp:h.subs[pos - 1]? =some (h.subs[pos - 1]'(by omega)):=qB3 (by omega);rw[hp];simp only[];obtain⟨m1,m2,hpm⟩:=qgw hm' _ _ _ hp hk;generalize h.subs[pos - 1]'(by omega)=p at *;cases hb:bndG p with
 |true=>
  simp only[if_true];exact qmV hb hkc hpm
 |false=>
  simp only[qCg,if_false]
  by_cases hp7:p.kind=7
  case neg=>rw[qCN hp7];trivial
  rw[qCM hp7];simp only[];rw[qbV,qCN (by omega),qCM (.inl hp7)]at hpm;split at hpm
  ·cases hpm
  rename_i hn2;have hl2:p.subs.length=k.subs.length:=by omega
  have ht:=qcN hl2 (λx hx=>vh hkc hx) hpm;have hle:(p.subs.takeWhile bndG).length<=k.subs.length:=by rw[←hl2];exact(List.takeWhile_sublist _).length_le
  unfold q8;simp only[qB2,decide_eq_true_eq];exact⟨by omega,by omega,hle,ht⟩
def yD(r s:Rg):Bool:=decide (r.ar=s.ar)&&(decide (s.fst.length<=r.fst.length)&&decide (r.fst.take s.fst.length=s.fst))
theorem qpL{r s:Rg}{k:Tm}(h:yD r s=true)(hk:q8 r k=true):q8 s k=true:=by
 unfold yD at h;unfold q8 at *;simp only[qB2,decide_eq_true_eq]at *;obtain⟨h1,h2,h3⟩:=h;obtain⟨k1,k2,k3,k4⟩:=hk;refine⟨k1,by omega,by omega,?_⟩;have e1:k.subs.take s.fst.length=(k.subs.take r.fst.length).take s.fst.length:=by rw[List.take_take,Nat.min_eq_left h2]
 rw[e1,k4,h3]
def xO:List Rg->List Rg->List Rg
 |out,[]=>out
 |out,r::l=>if out.any (yD r)then xO out l else xO (out++[r]) l
theorem qrD(r:Rg):yD r r=true:=by
 unfold yD;simp
theorem qbB{r:Rg}:∀{l out:List Rg},r∈out->r∈xO out l
 |[],out,h=>h
 |s::l,out,h=>by
  rw[xO];split
  ·exact qbB h
  ·exact qbB (by simp[h])
theorem qeB{r:Rg}:∀{l out:List Rg},r∈l->∃s∈xO out l,yD r s=true
 |[],out,h=>by cases h
 |s::l,out,h=>by
  rw[xO];rcases qCB.1 h with rfl|h
  ·split
   ·rename_i ha;obtain⟨x,hx,hw⟩:=List.any_eq_true.1 ha;exact⟨x,qbB hx,hw⟩
   ·exact⟨r,qbB (by simp),qrD r⟩
  ·split
   ·exact qeB h
   ·exact qeB h
theorem qez{r:Rg}:∀{l out:List Rg},r∈xO out l->r∈out∨r∈l
 |[],out,h=>.inl h
 |s::l,out,h=>by
  rw[xO]at h;split at h
  ·exact(qez h).imp id (by simp +contextual)
  ·rcases qez h with h|h
   ·rcases qCy.1 h with h|h
    ·exact .inl h
    ·rw[List.mem_singleton]at h;subst h;exact .inr (by simp)
   ·exact .inr (by simp[h])
structure BndFor (cs:List Cl) (pos:Nat) (b:Bnd):Prop where
 all:(∃c∈cs,∃x,vV c.head pos=x∧x= .all)->b.all=true
 rng:b.all=false->∀c∈cs,∀r,vV c.head pos= .rng r->∃s∈b.rgs,yD r s=true
 key:b.all=false->∀c∈cs,∀k,vV c.head pos= .key k->(∃s∈b.rgs,q8 s k=true)∨k∈b.keys
def qou(b:Bnd)(k:Tm):Bool:=decide (k.chk=0)&&(b.all||(b.keys.any (λx=>decide (x.chk=0)&&decide (x=k))||b.rgs.any λr=>allK r.fst&&q8 r k))
theorem qyb{cs:List Cl}{pos:Nat}{b:Bnd}(hb:BndFor cs pos b)(hr:∀s∈b.rgs,allK s.fst=true)(h1:1<=pos){c:Cl}(hc:c∈cs){o:Tm}{bs:List (Int×Tm)}(hm:yJ c.head o=some bs){k:Tm}(hk:o.subs[pos - 1]? =some k):qou b k=true:=by
 obtain⟨hkc,hx⟩:=qsd hm h1 hk;unfold qou;rw[qCK hkc,qCF];cases ha:b.all with
 |true=>rfl
 |false=>
  rw[Bool.false_or,qCI,List.any_eq_true,List.any_eq_true];cases hmt:vV c.head pos with
  |all=>
   have:=hb.all ⟨c,hc,_,rfl,hmt⟩;rw[ha]at this;cases this
  |none=>rw[hmt]at hx;exact hx.elim
  |key p=>
   rw[hmt]at hx;simp only[]at hx;subst hx;rcases hb.key ha c hc p hmt with⟨s,hs,hw⟩|h
   ·exact .inr ⟨s,hs,by rw[hr s hs,hw];rfl⟩
   ·exact .inl ⟨p,h,by simp[hkc]⟩
  |rng r=>
   rw[hmt]at hx;simp only[]at hx;obtain⟨s,hs,hw⟩:=hb.rng ha c hc r hmt;exact .inr ⟨s,hs,by rw[hr s hs,qpL hw hx];rfl⟩
end Go.Av
end
noncomputable section
namespace Go.Proofs.YtgleolmhpmljhaaGreat
open Go.Av
def qy0:Den:=evC cfg (EV cfg) 19 none 0 (sub (qc Tryz.f19) [1,0,1,0,0])
def qzp:Ex×List AV×AH->Option AV:=kAft (Cfg.keepOut cfg 19 2) (kRun cfg (EV cfg) (kfN cfg 6) 19 none 0 (xS cfg (Cfg.lift cfg 19 0) Tryz.f19.results.toList) ([.block 0,.seq (sub (qc Tryz.f19) [1,1])]))
def qrp:List AV×AH->Option AV:=λp=>kOpt (LOOP 0 (some [0,1,7,8]) ([]) qy0 p) qzp
def qyZ:Den:=evC cfg (EV cfg) 59 none 0 (sub (qc Tryz.f59) [1,0,1,0,0])
def qzo:Ex×List AV×AH->Option AV:=kAft (Cfg.keepOut cfg 59 2) (kRun cfg (EV cfg) (kfN cfg 6) 59 none 0 (xS cfg (Cfg.lift cfg 59 0) Tryz.f59.results.toList) ([.block 0,.seq (sub (qc Tryz.f59) [1,1])]))
def qyx:List AV×AH->Option AV:=λp=>kOpt (LOOP 0 (some [0,1,7,8]) ([]) qyZ p) qzo
def qy1:Den:=evC cfg (EV cfg) 85 none 4 (sub (qc Tryz.f85) [0,1,1,0,0])
def qzq:Ex×List AV×AH->Option AV:=kAft (Cfg.keepOut cfg 85 (qh (sub (qc Tryz.f85) [0,1,1,0,0]))) (qO 0 (qa0 (vT cfg (Cfg.lift cfg 85 0) (fun(v:AV) (H:AH)=>(fun(r:AV×AH)=>xG 0 3 (fx 29 [(2,AV.ptr 1 0 0)]) (qO 0 (kSeq (fun(fr:List AV) (H:AH)=>qL (Cfg.cut cfg 18 (qh (sub (qc Tryz.f18) [1,1,1]))) fr H fun(fr:List AV) (H:AH)=>qG cfg (EV cfg) (kfN cfg 6) 18 none 0 (sub (qc Tryz.f18) [1,1,1]) fr H (xS cfg (Cfg.lift cfg 18 0) (qCl (Func.results Tryz.f18)))) (xS cfg (Cfg.lift cfg 18 0) (qCl (Func.results Tryz.f18))))) (Prod.snd r)) (v,H)) (qCl (Func.results (Prod.snd (85,Tryz.f85)))))))
def qyy:List AV×AH->Option AV:=fun(p:List AV×AH)=>kOpt (LOOP 4 (some [0,3]) [(3,4)] qy1 p) qzq
abbrev qhd(L:Rz)(v8:Int):Option (AV):=qrp (((fx 19 [(0,.sl L),(1,.fn (Fn.func 20) [] []),(7,.int .i64 (L.length:Int)),(8,.int .i64 v8)]):List AV),([]:AH))
abbrev qey(L rs:Rz)(v8:Int):Option (AV):=qrp (((fx 19 [(0,.sl L),(1,.fn (Fn.func 24) [] [.cptr [.sl rs] 0]),(7,.int .i64 (L.length:Int)),(8,.int .i64 v8)]):List AV),([]:AH))
abbrev qhc(L:Rz)(kt nt:Int)(st:Bz)(lt:Rz)(v8:Int):Option (AV):=qyx (((fx 19 [(0,.sl L),(1,.fn (Fn.func 26) [] [.cptr [.int .i64 kt,.int .i64 nt,.str st,.sl lt] 0]),(7,.int .i64 (L.length:Int)),(8,.int .i64 v8)]):List AV),([]:AH))
abbrev z6(nv3:Nat)(c0_0 c0_1:Int)(c0_2:Bz)(c0_3:Rz)(c1_0:Bool)(c2_0 c2_1:Int)(c2_2:Bz)(c2_3 h4:Rz):Option (AV):=qyy (((fx 37 [(0,.yld 3),(3,.ms 4 0 nv3)]):List AV),([.rows false 4 [[.int .i64 c0_0,.int .i64 c0_1,.str c0_2,.sl c0_3]],.rows false 1 [[.bool c1_0]],.rows false 4 [[.int .i64 c2_0,.int .i64 c2_1,.str c2_2,.sl c2_3]],rngB Tryz.f18 18 [1,1,0,1,0] (fx 29 [(2,.ptr 1 0 0)]) none LoopState.ready,.rows true 4 h4]:AH))
theorem qvd(ar:Int)(fs:Rz)(br:Int)(gs:Rz){P:AV->Prop}(h:Gets (bif ar==br then kOpt (EVs (EV cfg) 60 [.sl fs,.sl gs]) λv=>qr v λb=>some (.bool b)else some (.bool false)) P):Gets (EVs (EV cfg) 58 [.agg [.int .i64 ar,.sl fs],.agg [.int .i64 br,.sl gs]]) P:=
  gE (λ_=>funS rfl rfl Tryz.func58 rfl) (by kernel_rfl) h
theorem que(kt nt:Int)(st:Bz)(lt:Rz){P:AV->Prop}(h:Gets (kOpt (EVs (EV cfg) 18 [.agg [.int .i64 kt,.int .i64 nt,.str st,.sl lt]]) λv=>qr v λb=>some (.bool ! b)) P):Gets (EVs (EV cfg) 20 [.agg [.int .i64 kt,.int .i64 nt,.str st,.sl lt]]) P:=
  gE (λ_=>funS rfl rfl Tryz.func20 rfl) (by kernel_rfl) h
theorem qwh(kt nt:Int)(st:Bz)(lt rs:Rz){P:AV->Prop}(h:Gets (kOpt (EVs (EV cfg) 25 [.sl rs,AV.fn (Fn.func 26) [] [AV.cptr [AV.int .i64 kt,.int .i64 nt,.str st,.sl lt] 0]]) λv=>qr v λb=>some (.bool b)) P):Gets (EVs (EV cfg) 24 [.agg [.int .i64 kt,.int .i64 nt,.str st,.sl lt],.cptr [.sl rs] 0]) P:=
  gE (λ_=>funS rfl rfl Tryz.func24 rfl) (by kernel_rfl) h
theorem quf(ar:Int)(fs:Rz)(kt nt:Int)(st:Bz)(lt:Rz){P:AV->Prop}(h:Gets (kOpt (EVs (EV cfg) 27 [.agg [.int .i64 ar,.sl fs],.agg [.int .i64 kt,.int .i64 nt,.str st,.sl lt]]) λv=>qr v λb=>some (.bool b)) P):Gets (EVs (EV cfg) 26 [.agg [.int .i64 ar,.sl fs],.cptr [.int .i64 kt,.int .i64 nt,.str st,.sl lt] 0]) P:=
  gE (λ_=>funS rfl rfl Tryz.func26 rfl) (by kernel_rfl) h
theorem qsJ(L:Rz){P:AV->Prop}(h:Gets (qhd L 0) P):Gets (EVs (EV cfg) 19 [.sl L,.fn (Fn.func 20) [] []]) P:=
  gE (λ_=>funS rfl rfl Tryz.func19 rfl) (by kernel_rfl) h
theorem quL(L rs:Rz){P:AV->Prop}(h:Gets (qey L rs 0) P):Gets (EVs (EV cfg) 19 [.sl L,.fn (Fn.func 24) [] [.cptr [.sl rs] 0]]) P:=
  gE (λ_=>funS rfl rfl Tryz.func19 rfl) (by kernel_rfl) h
theorem qs1(L:Rz)(kt nt:Int)(st:Bz)(lt:Rz){P:AV->Prop}(h:Gets (kOpt (EVs (EV cfg) 59 [.sl L,AV.fn (Fn.func 26) [] [AV.cptr [AV.int .i64 kt,.int .i64 nt,.str st,.sl lt] 0]]) λv=>kInt .i64 v λn=>some (.bool (decide (n≥0)))) P):Gets (EVs (EV cfg) 25 [.sl L,.fn (Fn.func 26) [] [.cptr [.int .i64 kt,.int .i64 nt,.str st,.sl lt] 0]]) P:=
  gE (λ_=>funS rfl rfl Tryz.func25 rfl) (by kernel_rfl) h
theorem qsM(L:Rz)(kt nt:Int)(st:Bz)(lt:Rz){P:AV->Prop}(h:Gets (qhc L kt nt st lt 0) P):Gets (EVs (EV cfg) 59 [.sl L,.fn (Fn.func 26) [] [.cptr [.int .i64 kt,.int .i64 nt,.str st,.sl lt] 0]]) P:=
  gE (λ_=>funS rfl rfl Tryz.func59 rfl) (by kernel_rfl) h
theorem qr9(kt nt:Int)(st:Bz)(lt:Rz){P:AV->Prop}(h:Gets (kOpt (EVs (EV cfg) 53 [.agg [.int .i64 kt,.int .i64 nt,.str st,.sl lt]]) λv=>qr v λb=>bif ! b then some (.bool false)else z6 1 kt nt st lt false kt nt st lt [[AV.int .i64 kt,.int .i64 nt,.str st,.sl lt]]) P):Gets (EVs (EV cfg) 18 [.agg [.int .i64 kt,.int .i64 nt,.str st,.sl lt]]) P:=
  gE (λ_=>funS rfl rfl Tryz.func18 rfl) (by kernel_rfl) h
theorem qnK(L:Rz)(v8:Int){P:AV->Prop}(h:Gets (bif decide (v8<(L.length:Int))then bif qd 0 v8&&qe v8 (L.length:Int)then kOpt (qB0 L (v8.toNat)) λrow=>bif qCh (qB1 row) 4 then bif qB4 4 (qB1 row)then kTmC (qB8 4 row) λn n_1 s rows=>(kOpt (EVs (EV cfg) 20 [.agg [.int .i64 n,.int .i64 n_1,.str s,.sl rows]]) λv=>qr v λb=>bif b then some (.int .i64 v8)else qhd L (qBZ .i64 (v8+1)))else none else none else none else some (.int .i64 (- 1))) P):Gets (qhd L v8) P:=
  gE (λ_=>ql (cfg:=cfg) (f:=19) (rd:=none) (bs:=0)) (by kernel_rfl) h
theorem qfn(L rs:Rz)(v8:Int){P:AV->Prop}(h:Gets (bif decide (v8<(L.length:Int))then bif qd 0 v8&&qe v8 (L.length:Int)then kOpt (qB0 L (v8.toNat)) λrow=>bif qCh (qB1 row) 4 then bif qB4 4 (qB1 row)then kTmC (qB8 4 row) λn n_1 s rows=>(kOpt (EVs (EV cfg) 24 [.agg [.int .i64 n,.int .i64 n_1,.str s,.sl rows],AV.cptr [.sl rs] 0]) λv=>qr v λb=>bif b then some (.int .i64 v8)else qey L rs (qBZ .i64 (v8+1)))else none else none else none else some (.int .i64 (- 1))) P):Gets (qey L rs v8) P:=
  gE (λ_=>ql (cfg:=cfg) (f:=19) (rd:=none) (bs:=0)) (by kernel_rfl) h
theorem qfH(L:Rz)(kt nt:Int)(st:Bz)(lt:Rz)(v8:Int){P:AV->Prop}(h:Gets (bif decide (v8<(L.length:Int))then bif qd 0 v8&&qe v8 (L.length:Int)then kOpt (qB0 L (v8.toNat)) λrow=>bif qCh (qB1 row) 2 then bif qB4 2 (qB1 row)then qf (qB8 2 row) λc cs=>kInt .i64 c λn=>qf cs λc cs=>kSl c λrows=>kNil cs (kOpt (EVs (EV cfg) 26 [.agg [.int .i64 n,.sl rows],AV.cptr [AV.int .i64 kt,.int .i64 nt,.str st,.sl lt] 0]) λv=>qr v λb=>bif b then some (.int .i64 v8)else qhc L kt nt st lt (qBZ .i64 (v8+1)))else none else none else none else some (.int .i64 (- 1:Int))) P):Gets (qhc L kt nt st lt v8) P:=
  gE (λ_=>ql (cfg:=cfg) (f:=59) (rd:=none) (bs:=0)) (by kernel_rfl) h
theorem qcI(nv3:Nat)(c0_0 c0_1:Int)(c0_2:Bz)(c0_3:Rz)(c1_0:Bool)(c2_0 c2_1:Int)(c2_2:Bz)(c2_3 h4:Rz){P:AV->Prop}(h:Gets (bif decide ((↑ nv3:Int)>0)then bif qd 0 (qBZ .i64 ((↑ nv3:Int) - 1))&&qe (qBZ .i64 ((↑ nv3:Int) - 1)) (↑ nv3:Int)then kOpt (qB0 h4 (0+qB7 (qBZ .i64 ((↑ nv3:Int) - 1)))) λrow=>bif qB4 4 (qB1 row)then kTmC (qB8 4 row) λn n_1 s rows=>(bif qd 0 (qBZ .i64 ((↑ nv3:Int) - 1))&&qd (qBZ .i64 ((↑ nv3:Int) - 1)) (↑ nv3:Int)then bif n==7 then bif xl 4 rows then bif qB4 (0+(qB7 (qBZ .i64 ((↑ nv3:Int) - 1)) - 0)) (qB1 h4)&&qW (qB7 (qBZ .i64 ((↑ nv3:Int) - 1)) - 0+qB1 rows) 56 then z6 (qB7 (qBZ .i64 ((↑ nv3:Int) - 1)) - 0+qB1 rows) c0_0 c0_1 c0_2 c0_3 c1_0 c2_0 c2_1 c2_2 c2_3 (qCu (qB8 (qB7 (qBZ .i64 ((↑ nv3:Int) - 1)) - 0) h4) rows)else none else none else bif n==9 then bif xl 4 rows then bif qB4 (0+(qB7 (qBZ .i64 ((↑ nv3:Int) - 1)) - 0)) (qB1 h4)&&qW (qB7 (qBZ .i64 ((↑ nv3:Int) - 1)) - 0+qB1 rows) 56 then z6 (qB7 (qBZ .i64 ((↑ nv3:Int) - 1)) - 0+qB1 rows) c0_0 c0_1 c0_2 c0_3 c1_0 c2_0 c2_1 c2_2 c2_3 (qCu (qB8 (qB7 (qBZ .i64 ((↑ nv3:Int) - 1)) - 0) h4) rows)else none else none else kOpt (EVs (EV cfg) 55 [.str s]) λv=>kTup v λcs=>qf cs λc cs=>kInt .i64 c λn_2=>qf cs λc cs=>qr c λb=>kNil cs (bif n==2 then bif b then some (.bool false)else bif s==[(95:UInt8)]then some (.bool false)else z6 (qB7 (qBZ .i64 ((↑ nv3:Int) - 1)) - 0) c0_0 c0_1 c0_2 c0_3 c1_0 c2_0 c2_1 c2_2 c2_3 h4 else z6 (qB7 (qBZ .i64 ((↑ nv3:Int) - 1)) - 0) c0_0 c0_1 c0_2 c0_3 c1_0 c2_0 c2_1 c2_2 c2_3 h4)else none)else none else none else some (.bool true)) P):Gets (z6 nv3 c0_0 c0_1 c0_2 c0_3 c1_0 c2_0 c2_1 c2_2 c2_3 h4) P:=
  gE (λ_=>ql (cfg:=cfg) (f:=85) (rd:=none) (bs:=4)) (by kernel_rfl) h
end Go.Proofs.YtgleolmhpmljhaaGreat
end
noncomputable section
namespace Go.Proofs.YtgleolmhpmljhaaGreat.K
open Go.Av
theorem qs7(r:List AV)(L:Rz){P:AV->Prop}(h:Gets (bif xl 4 (r::L)then bif qW (0+qB1 (r::L)) 56 then bif qB4 (0+(0+qB1 (r::L))) (qB1 (r::L))&&true then some (.sl (r::qB8 (Nat.add 0 (qB1 L)) L))else none else none else none) P):Gets (EVf (EV cfg) 21 [.sl (r::L)]) P:=
  gE (λ_=>funF rfl rfl Tryz.func21 rfl) (by kernel_rfl) h
theorem qs5{P:AV×AH->Prop}(h:Gets (some (.ms 0 0 0,[.rows true 4 []])) P):Gets (EV cfg (.f 21) [.nilS] ([]:AH)) P:=
  gE (λ_=>funA rfl rfl Tryz.func21 rfl) (by kernel_rfl) h
theorem qs6{P:AV×AH->Prop}(h:Gets (some (.ms 1 0 0,[.dead,.rows true 4 []])) P):Gets (EV cfg (.f 21) [.em] ([]:AH)) P:=
  gE (λ_=>funA rfl rfl Tryz.func21 rfl) (by kernel_rfl) h
end Go.Proofs.YtgleolmhpmljhaaGreat.K
end
noncomputable section
namespace Go.Proofs.YtgleolmhpmljhaaGreat
open Go.Av
def qpz:Den:=evC cfg (EV cfg) 120 none 1 (sub (qc Tryz.f120) [1,0,0])
def qpA:Ex×List AV×AH->Option (MV×List (List AV)):=kAft (Cfg.keepOut cfg 120 1) (kRun cfg (EV cfg) (kfN cfg 6) 120 none 1 (vI cfg 2 (Cfg.lift cfg 120 0) Tryz.f120.results.toList) ([.block 0]))
def qw9:List AV×AH->Option (MV×List (List AV)):=λp=>kOpt (LOOP 1 (some [0,1,2,3,8]) ([]) qpz p) qpA
def qyX:Den:=evC cfg (EV cfg) 86 none 1 (sub (qc Tryz.f86) [1,1,0,0,0])
def qzm:Ex×List AV×AH->Option (MV×List (List AV)):=kAft (Cfg.keepOut cfg 86 (qh (sub (qc Tryz.f86) [1,1,0,0,0]))) (qO 0 (kSeq (fun(fr:List AV) (H:AH)=>qL (Cfg.cut cfg 86 (qh (sub (qc Tryz.f86) [1,1,1]))) fr H fun(fr:List AV) (H:AH)=>qG cfg (EV cfg) (kfN cfg 6) 86 none 1 (sub (qc Tryz.f86) [1,1,1]) fr H (vI cfg 2 (Cfg.lift cfg 86 0) (qCl (Func.results Tryz.f86)))) (vI cfg 2 (Cfg.lift cfg 86 0) (qCl (Func.results Tryz.f86)))))
def qyv:List AV×AH->Option (MV×List (List AV)):=fun(p:List AV×AH)=>kOpt (LOOP 1 (some [0,1,2,6,7,8]) [] qyX p) qzm
def qxi:Den:=evC cfg (EV cfg) 121 none 1 (sub (qc Tryz.f121) [0,1,0,1,1,0,0,0])
def qxu:Ex×List AV×AH->Option (MV×List (List AV)):=kAft (Cfg.keepOut cfg 121 (qh (sub (qc Tryz.f121) [0,1,0,1,1,0,0,0]))) (qO 0 (kSeq (fun(fr:List AV) (H:AH)=>qL (Cfg.cut cfg 121 (qh (sub (qc Tryz.f121) [0,1,0,1,1,1]))) fr H fun(fr:List AV) (H:AH)=>qG cfg (EV cfg) (kfN cfg 6) 121 none 1 (sub (qc Tryz.f121) [0,1,0,1,1,1]) fr H (kSeq (fun(fr:List AV) (H:AH)=>qL (Cfg.cut cfg 121 (qh (sub (qc Tryz.f121) [1]))) fr H fun(fr:List AV) (H:AH)=>qG cfg (EV cfg) (kfN cfg 6) 121 none 1 (sub (qc Tryz.f121) [1]) fr H (vI cfg 2 (Cfg.lift cfg 121 0) (qCl (Func.results Tryz.f121)))) (vI cfg 2 (Cfg.lift cfg 121 0) (qCl (Func.results Tryz.f121))))) (kSeq (fun(fr:List AV) (H:AH)=>qL (Cfg.cut cfg 121 (qh (sub (qc Tryz.f121) [1]))) fr H fun(fr:List AV) (H:AH)=>qG cfg (EV cfg) (kfN cfg 6) 121 none 1 (sub (qc Tryz.f121) [1]) fr H (vI cfg 2 (Cfg.lift cfg 121 0) (qCl (Func.results Tryz.f121)))) (vI cfg 2 (Cfg.lift cfg 121 0) (qCl (Func.results Tryz.f121))))))
def qw7:List AV×AH->Option (MV×List (List AV)):=fun(p:List AV×AH)=>kOpt (LOOP 1 (some [0,1,4,10,11]) [] qxi p) qxu
def qxh:Den:=evC cfg (EV cfg) 121 none 1 (sub (qc Tryz.f121) [1,0,1,0,1,1,0,0,0])
def qxt:Ex×List AV×AH->Option (MV×List (List AV)):=kAft (Cfg.keepOut cfg 121 (qh (sub (qc Tryz.f121) [1,0,1,0,1,1,0,0,0]))) (qO 4 (kSeq (fun(fr:List AV) (H:AH)=>qL (Cfg.cut cfg 121 (qh (sub (qc Tryz.f121) [1,0,1,0,1,1,1]))) fr H fun(fr:List AV) (H:AH)=>qG cfg (EV cfg) (kfN cfg 6) 121 none 1 (sub (qc Tryz.f121) [1,0,1,0,1,1,1]) fr H (kSeq (fun(fr:List AV) (H:AH)=>qL (Cfg.cut cfg 121 (qh (sub (qc Tryz.f121) [1,1]))) fr H fun(fr:List AV) (H:AH)=>qG cfg (EV cfg) (kfN cfg 6) 121 none 1 (sub (qc Tryz.f121) [1,1]) fr H (vI cfg 2 (Cfg.lift cfg 121 0) (qCl (Func.results Tryz.f121)))) (vI cfg 2 (Cfg.lift cfg 121 0) (qCl (Func.results Tryz.f121))))) (kSeq (fun(fr:List AV) (H:AH)=>qL (Cfg.cut cfg 121 (qh (sub (qc Tryz.f121) [1,1]))) fr H fun(fr:List AV) (H:AH)=>qG cfg (EV cfg) (kfN cfg 6) 121 none 1 (sub (qc Tryz.f121) [1,1]) fr H (vI cfg 2 (Cfg.lift cfg 121 0) (qCl (Func.results Tryz.f121)))) (vI cfg 2 (Cfg.lift cfg 121 0) (qCl (Func.results Tryz.f121))))))
def qw6:List AV×AH->Option (MV×List (List AV)):=fun(p:List AV×AH)=>kOpt (LOOP 1 (some [0,2,4,14,15]) [] qxh p) qxt
def qxg:Den:=evC cfg (EV cfg) 121 none 1 (sub (qc Tryz.f121) [1,1,1,1,1,1,1,0,0,0])
def qxs:Ex×List AV×AH->Option (MV×List (List AV)):=kAft (Cfg.keepOut cfg 121 (qh (sub (qc Tryz.f121) [1,1,1,1,1,1,1,0,0,0]))) (qO 8 (kSeq (fun(fr:List AV) (H:AH)=>qL (Cfg.cut cfg 121 (qh (sub (qc Tryz.f121) [1,1,1,1,1,1,1,1]))) fr H fun(fr:List AV) (H:AH)=>qG cfg (EV cfg) (kfN cfg 6) 121 none 1 (sub (qc Tryz.f121) [1,1,1,1,1,1,1,1]) fr H (vI cfg 2 (Cfg.lift cfg 121 0) (qCl (Func.results Tryz.f121)))) (vI cfg 2 (Cfg.lift cfg 121 0) (qCl (Func.results Tryz.f121)))))
def qw5:List AV×AH->Option (MV×List (List AV)):=fun(p:List AV×AH)=>kOpt (LOOP 1 (some [0,1,2,3,4,18,19,20,21,22]) [] qxg p) qxs
def qxd:Den:=evC cfg (EV cfg) 146 none 1 (sub (qc Tryz.f146) [1,1,0,0,0])
def qxp:Ex×List AV×AH->Option (MV×List (List AV)):=kAft (Cfg.keepOut cfg 146 (qh (sub (qc Tryz.f146) [1,1,0,0,0]))) (qO 0 (kSeq (fun(fr:List AV) (H:AH)=>qL (Cfg.cut cfg 146 (qh (sub (qc Tryz.f146) [1,1,1]))) fr H fun(fr:List AV) (H:AH)=>qG cfg (EV cfg) (kfN cfg 6) 146 none 1 (sub (qc Tryz.f146) [1,1,1]) fr H (vI cfg 2 (Cfg.lift cfg 146 0) (qCl (Func.results Tryz.f146)))) (vI cfg 2 (Cfg.lift cfg 146 0) (qCl (Func.results Tryz.f146)))))
def qw2:List AV×AH->Option (MV×List (List AV)):=fun(p:List AV×AH)=>kOpt (LOOP 1 (some [0,2,4,10,11]) [] qxd p) qxp
def qxc:Den:=evC cfg (EV cfg) 165 none 1 (sub (qc Tryz.f165) [1,0,0])
def qxo:Ex×List AV×AH->Option (MV×List (List AV)):=kAft (Cfg.keepOut cfg 165 1) (kRun cfg (EV cfg) (kfN cfg 6) 165 none 1 (vI cfg 2 (Cfg.lift cfg 165 0) Tryz.f165.results.toList) ([.block 0]))
def qw1:List AV×AH->Option (MV×List (List AV)):=λp=>kOpt (LOOP 1 (some [0,1,2,3,10]) ([]) qxc p) qxo
def qyY:Den:=evC cfg (EV cfg) 78 none 0 (sub (qc Tryz.f78) [1,0,1,0,0])
def qzn:Ex×List AV×AH->Option AV:=kAft (Cfg.keepOut cfg 78 2) (kRun cfg (EV cfg) (kfN cfg 6) 78 none 0 (xS cfg (Cfg.lift cfg 78 0) Tryz.f78.results.toList) ([.block 0,.seq (sub (qc Tryz.f78) [1,1])]))
def qyw:List AV×AH->Option AV:=λp=>kOpt (LOOP 0 (some [0,1,2,11,12,13]) ([]) qyY p) qzn
def qxj:Den:=evC cfg (EV cfg) 120 none 1 (sub (qc Tryz.f120) [1,0,0,1,0,0,1,0,0])
def qxv:Ex×List AV×AH->Option (MV×List (List AV)):=kAft (Cfg.keepOut cfg 120 4) (kRun cfg (EV cfg) (kfN cfg 6) 120 none 1 (kLp 1 (some [0,1,2,3,8]) ([]) qpz qpA) ([.block 2,.block 1,.seq (sub (qc Tryz.f120) [1,0,0,1,1])]))
def qw8:List AV×AH->Option (MV×List (List AV)):=λp=>kOpt (LOOP 1 (some [0,1,2,3,8,9]) ([]) qxj p) qxv
def qrr:Den:=evC cfg (EV cfg) 86 none 1 (sub (qc Tryz.f86) [1,1,1,1,0,0])
def qru:Ex×List AV×AH->Option (MV×List (List AV)):=kAft (Cfg.keepOut cfg 86 7) (kRun cfg (EV cfg) (kfN cfg 6) 86 none 1 (vI cfg 2 (Cfg.lift cfg 86 0) Tryz.f86.results.toList) ([.block 2]))
def qyu:List AV×AH->Option (MV×List (List AV)):=λp=>kOpt (LOOP 1 (some [0,1,2,6]) ([]) qrr p) qru
def qxf:Den:=evC cfg (EV cfg) 121 none 1 (sub (qc Tryz.f121) [0,1,0,1,1,1,0,1,0,0])
def qxr:Ex×List AV×AH->Option (MV×List (List AV)):=kAft (Cfg.keepOut cfg 121 9) (kRun cfg (EV cfg) (kfN cfg 6) 121 none 1 (vI cfg 2 (Cfg.lift cfg 121 0) Tryz.f121.results.toList) ([.block 2,.seq (sub (qc Tryz.f121) [0,1,0,1,1,1,1]),.seq (sub (qc Tryz.f121) [1])]))
def qw4:List AV×AH->Option (MV×List (List AV)):=λp=>kOpt (LOOP 1 (some [0,10,13]) ([]) qxf p) qxr
def qxe:Den:=evC cfg (EV cfg) 121 none 1 (sub (qc Tryz.f121) [1,0,1,0,1,1,1,0,1,0,0])
def qxq:Ex×List AV×AH->Option (MV×List (List AV)):=kAft (Cfg.keepOut cfg 121 21) (kRun cfg (EV cfg) (kfN cfg 6) 121 none 1 (vI cfg 2 (Cfg.lift cfg 121 0) Tryz.f121.results.toList) ([.block 6,.seq (sub (qc Tryz.f121) [0,1,0,1,1,1,1]),.seq (sub (qc Tryz.f121) [1,1])]))
def qw3:List AV×AH->Option (MV×List (List AV)):=λp=>kOpt (LOOP 1 (some [0,14,17]) ([]) qxe p) qxq
def qyW:Den:=evC cfg (EV cfg) 86 none 1 (sub (qc Tryz.f86) [1,1,1,1,0,0,1,0,1,0,0,0])
def qzl:Ex×List AV×AH->Option (MV×List (List AV)):=kAft (Cfg.keepOut cfg 86 9) (kRun cfg (EV cfg) (kfN cfg 6) 86 none 1 (kLp 1 (some [0,1,2,6]) ([]) qrr qru) ([.block 4,.seq (sub (qc Tryz.f86) [1,1,1,1,0,0,1,0,1,1]),.block 3]))
def qyt:List AV×AH->Option (MV×List (List AV)):=λp=>kOpt (LOOP 1 (some [0,1,2,6,7,8]) ([]) qyW p) qzl
abbrev qbj(nn:Nat)(a b v8:Int)(h0:Rz):Option (MV×List (List AV)):=qw9 (((fx 53 [(0,.ms 0 0 nn),(1,.int .i64 a),(2,.int .i64 b),(3,.fn (Fn.func 57) [] []),(8,.int .i64 v8)]):List AV),([.rows true 2 h0]:AH))
abbrev qdU(nn:Nat)(n v7 v8:Int)(h0:Rz):Option (MV×List (List AV)):=qyv (((fx 63 [(0,.ms 0 0 nn),(1,.int .i64 n),(2,.fn (Fn.func 57) [] []),(6,.int .i64 (20:Int)),(7,.int .i64 v7),(8,.int .i64 v8)]):List AV),([.rows true 2 h0]:AH))
abbrev qcH(nn:Nat)(a v10 v11:Int)(h0:Rz):Option (MV×List (List AV)):=qw7 (((fx 220 [(0,.ms 0 0 nn),(1,.int .i64 a),(4,.fn (Fn.func 57) [] []),(10,.int .i64 v10),(11,.int .i64 v11)]):List AV),([.rows true 2 h0]:AH))
abbrev qcG(nn:Nat)(m v14 v15:Int)(h0:Rz):Option (MV×List (List AV)):=qw6 (((fx 220 [(0,.ms 0 0 nn),(2,.int .i64 m),(4,.fn (Fn.func 57) [] []),(14,.int .i64 v14),(15,.int .i64 v15)]):List AV),([.rows true 2 h0]:AH))
abbrev qaA(nn:Nat)(a m b n v20 v21:Int)(h0:Rz):Option (MV×List (List AV)):=qw5 (((fx 220 [(0,.ms 0 0 nn),(1,.int .i64 a),(2,.int .i64 m),(3,.int .i64 b),(4,.fn (Fn.func 57) [] []),(18,.int .i64 (qBZ .i64 n)),(19,.int .i64 (qBZ .i64 (qBZ .i64 n+m))),(20,.int .i64 v20),(21,.int .i64 v21),(22,.int .i64 (qBZ .i64 (qBZ .i64 (qBZ .i64 n+m) - (1:Int))))]):List AV),([.rows true 2 h0]:AH))
abbrev qcF(nn:Nat)(m v10 v11:Int)(h0:Rz):Option (MV×List (List AV)):=qw2 (((fx 58 [(0,.ms 0 0 nn),(2,.int .i64 m),(4,.fn (Fn.func 57) [] []),(10,.int .i64 v10),(11,.int .i64 v11)]):List AV),([.rows true 2 h0]:AH))
abbrev qeu(nn:Nat)(a b n v10:Int)(h0:Rz):Option (MV×List (List AV)):=qw1 (((fx 38 [(0,.ms 0 0 nn),(1,.int .i64 a),(2,.int .i64 b),(3,.int .i64 n),(10,.int .i64 v10)]):List AV),([.rows true 2 h0]:AH))
abbrev qhb(L M:Rz)(v13:Int):Option (AV):=qyw (((fx 39 [(0,.sl L),(1,.sl M),(2,.fn (Fn.func 29) [] []),(11,.sl L),(12,.int .i64 (L.length:Int)),(13,.int .i64 v13)]):List AV),([]:AH))
abbrev qex(nn:Nat)(a b v8 v9:Int)(h0:Rz):Option (MV×List (List AV)):=qw8 (((fx 53 [(0,.ms 0 0 nn),(1,.int .i64 a),(2,.int .i64 b),(3,.fn (Fn.func 57) [] []),(8,.int .i64 v8),(9,.int .i64 v9)]):List AV),([.rows true 2 h0]:AH))
abbrev qcq(nn:Nat)(n v6:Int)(h0:Rz):Option (MV×List (List AV)):=qyu (((fx 63 [(0,.ms 0 0 nn),(1,.int .i64 n),(2,.fn (Fn.func 57) [] []),(6,.int .i64 v6)]):List AV),([.rows true 2 h0]:AH))
abbrev qew(nn:Nat)(v10 v13:Int)(h0:Rz):Option (MV×List (List AV)):=qw4 (((fx 220 [(0,.ms 0 0 nn),(10,.int .i64 v10),(13,.int .i64 v13)]):List AV),([.rows true 2 h0]:AH))
abbrev qev(nn:Nat)(v14 v17:Int)(h0:Rz):Option (MV×List (List AV)):=qw3 (((fx 220 [(0,.ms 0 0 nn),(14,.int .i64 v14),(17,.int .i64 v17)]):List AV),([.rows true 2 h0]:AH))
abbrev qha(nn:Nat)(n v6 v7 v8:Int)(h0:Rz):Option (MV×List (List AV)):=qyt (((fx 63 [(0,.ms 0 0 nn),(1,.int .i64 n),(2,.fn (Fn.func 57) [] []),(6,.int .i64 v6),(7,.int .i64 v7),(8,.int .i64 v8)]):List AV),([.rows true 2 h0]:AH))
theorem qwB(rows:Rz)(nn:Nat)(a b:Int){P:MV×List (List AV)->Prop}(h:Gets (qbj nn a b (qBZ .i64 (a+1)) rows) P):Gets (EVm (EV cfg) 120 [.ms 0 0 nn,.int .i64 a,.int .i64 b,.fn (Fn.func 57) [] []] 2 rows) P:=
  gE (λ_=>funM rfl rfl Tryz.func120 rfl) (by kernel_rfl) h
theorem qtK(rows:Rz)(nn:Nat)(n:Int){P:MV×List (List AV)->Prop}(h:Gets (qdU nn n 0 20 rows) P):Gets (EVm (EV cfg) 86 [.ms 0 0 nn,.int .i64 n,.fn (Fn.func 57) [] []] 2 rows) P:=
  gE (λ_=>funM rfl rfl Tryz.func86 rfl) (by kernel_rfl) h
theorem qvR(rows:Rz)(nn:Nat)(a m b:Int){P:MV×List (List AV)->Prop}(h:Gets (bif qBZ .i64 (m - a)==1 then qcH nn a m b rows else bif qBZ .i64 (b - m)==1 then qcG nn m a m rows else kOpt (qn (Op.shift BinOp.shr .u64 (qBZ .u64 (qBZ .i64 (a+b))) .u64 1)) λv=>kInt .u64 v λn=>bif decide (m>qBZ .i64 n)then qaA nn a m b n (qBZ .i64 (qBZ .i64 (qBZ .i64 n+m) - b)) (qBZ .i64 n) rows else qaA nn a m b n a m rows) P):Gets (EVm (EV cfg) 121 [.ms 0 0 nn,.int .i64 a,.int .i64 m,.int .i64 b,.fn (Fn.func 57) [] []] 2 rows) P:=
  gE (λ_=>funM rfl rfl Tryz.func121 rfl) (by kernel_rfl) h
theorem qv2(rows:Rz)(nn:Nat)(a m b:Int){P:MV×List (List AV)->Prop}(h:Gets (qcF nn m (qBZ .i64 (m - a)) (qBZ .i64 (b - m)) rows) P):Gets (EVm (EV cfg) 146 [.ms 0 0 nn,.int .i64 a,.int .i64 m,.int .i64 b,.fn (Fn.func 57) [] []] 2 rows) P:=
  gE (λ_=>funM rfl rfl Tryz.func146 rfl) (by kernel_rfl) h
theorem qvS(rows:Rz)(nn:Nat)(a b n:Int){P:MV×List (List AV)->Prop}(h:Gets (qeu nn a b n 0 rows) P):Gets (EVm (EV cfg) 165 [.ms 0 0 nn,.int .i64 a,.int .i64 b,.int .i64 n,.fn (Fn.func 57) [] []] 2 rows) P:=
  gE (λ_=>funM rfl rfl Tryz.func165 rfl) (by kernel_rfl) h
theorem qtP(rows:Rz)(nn:Nat){P:MV×List (List AV)->Prop}(h:Gets (kOpt (EVm (EV cfg) 86 [.ms 0 0 nn,.int .i64 (↑ nn:Int),AV.fn (Fn.func 57) [] []] 2 rows) λq=>qx q.1 (some (MV.unit,q.2))) P):Gets (EVm (EV cfg) 56 [.ms 0 0 nn,.fn (Fn.func 57) [] []] 2 rows) P:=
  gE (λ_=>funM rfl rfl Tryz.func56 rfl) (by kernel_rfl) h
theorem qte(ar:Int)(fs:Rz)(br:Int)(gs:Rz){P:AV->Prop}(h:Gets (kOpt (EVs (EV cfg) 63 [AV.int .i64 ar,.int .i64 br]) λv=>kInt .i64 v λn=>kOpt (EVs (EV cfg) 63 [AV.int .i64 (fs.length:Int),.int .i64 (↑ (qB1 gs):Int)]) λv=>kInt .i64 v λn_1=>kOpt (EVs (EV cfg) 78 [.sl fs,.sl gs,AV.fn (Fn.func 29) [] []]) λv=>kInt .i64 v λn_2=>kOpt (EVs (EV cfg) 65 [.sl [[AV.int .i64 n],[AV.int .i64 n_1],[AV.int .i64 n_2]]]) λv=>kInt .i64 v λn=>some (.int .i64 n)) P):Gets (EVs (EV cfg) 57 [.agg [.int .i64 ar,.sl fs],.agg [.int .i64 br,.sl gs]]) P:=
  gE (λ_=>funS rfl rfl Tryz.func57 rfl) (by kernel_rfl) h
theorem qu3(L M:Rz){P:AV->Prop}(h:Gets (qhb L M 0) P):Gets (EVs (EV cfg) 78 [.sl L,.sl M,.fn (Fn.func 29) [] []]) P:=
  gE (λ_=>funS rfl rfl Tryz.func78 rfl) (by kernel_rfl) h
theorem qfm(nn:Nat)(a b v8:Int)(h0:Rz){P:MV×List (List AV)->Prop}(h:Gets (bif decide (v8<b)then qex nn a b v8 v8 h0 else some (MV.unit,h0)) P):Gets (qbj nn a b v8 h0) P:=
  gE (λ_=>ql (cfg:=cfg) (f:=120) (rd:=none) (bs:=1)) (by kernel_rfl) h
theorem qfF(nn:Nat)(n v7 v8:Int)(h0:Rz){P:MV×List (List AV)->Prop}(h:Gets (bif decide (v8<=n)then kOpt (EVm (EV cfg) 120 [.ms 0 0 nn,.int .i64 v7,.int .i64 v8,AV.fn (Fn.func 57) [] []] 2 h0) λq=>qx q.1 (qdU nn n v8 (qBZ .i64 (v8+20)) q.2)else kOpt (EVm (EV cfg) 120 [.ms 0 0 nn,.int .i64 v7,.int .i64 n,AV.fn (Fn.func 57) [] []] 2 h0) λq=>qx q.1 (qcq nn n 20 q.2)) P):Gets (qdU nn n v7 v8 h0) P:=
  gE (λ_=>ql (cfg:=cfg) (f:=86) (rd:=none) (bs:=1)) (by kernel_rfl) h
theorem qfk(nn:Nat)(a v10 v11:Int)(h0:Rz){P:MV×List (List AV)->Prop}(h:Gets (bif decide (v10<v11)then kOpt (qn (Op.shift BinOp.shr .u64 (qBZ .u64 (qBZ .i64 (v10+v11))) .u64 1)) λv=>kInt .u64 v λn=>bif qd 0 (qBZ .i64 n)&&qe (qBZ .i64 n) (↑ nn:Int)then kOpt (qB0 h0 (0+qB7 (qBZ .i64 n))) λrow=>bif qB4 2 (qB1 row)then qf (qB8 2 row) λc cs=>kInt .i64 c λn_1=>qf cs λc cs=>kSl c λrows=>kNil cs (bif qd 0 a&&qe a (↑ nn:Int)then kOpt (qB0 h0 (0+a.toNat)) λrow=>bif qB4 2 (qB1 row)then qf (qB8 2 row) λc cs=>kInt .i64 c λn_2=>qf cs λc cs=>kSl c λrows_1=>kNil cs (kOpt (EVs (EV cfg) 57 [.agg [.int .i64 n_1,.sl rows],.agg [.int .i64 n_2,.sl rows_1]]) λv=>kInt .i64 v λn_3=>bif decide (n_3<0)then qcH nn a (qBZ .i64 (qBZ .i64 n+1)) v11 h0 else qcH nn a v10 (qBZ .i64 n) h0)else none else none)else none else none else qew nn v10 a h0) P):Gets (qcH nn a v10 v11 h0) P:=
  gE (λ_=>ql (cfg:=cfg) (f:=121) (rd:=none) (bs:=1)) (by kernel_rfl) h
theorem qfj(nn:Nat)(m v14 v15:Int)(h0:Rz){P:MV×List (List AV)->Prop}(h:Gets (bif decide (v14<v15)then kOpt (qn (Op.shift BinOp.shr .u64 (qBZ .u64 (qBZ .i64 (v14+v15))) .u64 1)) λv=>kInt .u64 v λn=>bif qd 0 m&&qe m (↑ nn:Int)then kOpt (qB0 h0 (0+m.toNat)) λrow=>bif qB4 2 (qB1 row)then qf (qB8 2 row) λc cs=>kInt .i64 c λn_1=>qf cs λc cs=>kSl c λrows=>kNil cs (bif qd 0 (qBZ .i64 n)&&qe (qBZ .i64 n) (↑ nn:Int)then kOpt (qB0 h0 (0+qB7 (qBZ .i64 n))) λrow=>bif qB4 2 (qB1 row)then qf (qB8 2 row) λc cs=>kInt .i64 c λn_2=>qf cs λc cs=>kSl c λrows_1=>kNil cs (kOpt (EVs (EV cfg) 57 [.agg [.int .i64 n_1,.sl rows],.agg [.int .i64 n_2,.sl rows_1]]) λv=>kInt .i64 v λn_3=>bif ! decide (n_3<0)then qcG nn m (qBZ .i64 (qBZ .i64 n+1)) v15 h0 else qcG nn m v14 (qBZ .i64 n) h0)else none else none)else none else none else qev nn v14 m h0) P):Gets (qcG nn m v14 v15 h0) P:=
  gE (λ_=>ql (cfg:=cfg) (f:=121) (rd:=none) (bs:=1)) (by kernel_rfl) h
abbrev zu3(q:MV×List (List AV))(n m v20 b:Int)(nn:Nat):Option (MV×List (List AV)):=qx q.1 (bif decide (qBZ .i64 n<qBZ .i64 (qBZ .i64 (qBZ .i64 n+m) - v20))then bif decide (qBZ .i64 (qBZ .i64 (qBZ .i64 n+m) - v20)<b)then kOpt (EVm (EV cfg) 121 [.ms 0 0 nn,.int .i64 (qBZ .i64 n),.int .i64 (qBZ .i64 (qBZ .i64 (qBZ .i64 n+m) - v20)),.int .i64 b,AV.fn (Fn.func 57) [] []] 2 q.2) λq=>qx q.1 (some (MV.unit,q.2))else some (MV.unit,q.2)else some (MV.unit,q.2))
abbrev zu2(nn:Nat)(a v20 n:Int)(h0:Rz)(m b:Int):Option (MV×List (List AV)):=kOpt (EVm (EV cfg) 121 [.ms 0 0 nn,.int .i64 a,.int .i64 v20,.int .i64 (qBZ .i64 n),AV.fn (Fn.func 57) [] []] 2 h0) λq=>zu3 q n m v20 b nn
abbrev zu6(nn:Nat)(n m v20 b:Int)(h0:Rz):Option (MV×List (List AV)):=kOpt (EVm (EV cfg) 121 [.ms 0 0 nn,.int .i64 (qBZ .i64 n),.int .i64 (qBZ .i64 (qBZ .i64 (qBZ .i64 n+m) - v20)),.int .i64 b,AV.fn (Fn.func 57) [] []] 2 h0) λq=>qx q.1 (some (MV.unit,q.2))
abbrev zu5(n m v20 b:Int)(nn:Nat)(h0:Rz):Option (MV×List (List AV)):=bif decide (qBZ .i64 (qBZ .i64 (qBZ .i64 n+m) - v20)<b)then zu6 nn n m v20 b h0 else some (MV.unit,h0)
abbrev zu4(n m v20 b:Int)(nn:Nat)(h0:Rz):Option (MV×List (List AV)):=bif decide (qBZ .i64 n<qBZ .i64 (qBZ .i64 (qBZ .i64 n+m) - v20))then zu5 n m v20 b nn h0 else some (MV.unit,h0)
abbrev zu1(v20 n:Int)(nn:Nat)(a:Int)(h0:Rz)(m b:Int):Option (MV×List (List AV)):=bif decide (v20<qBZ .i64 n)then zu2 nn a v20 n h0 m b else zu4 n m v20 b nn h0
abbrev zu0(a v20 n:Int)(nn:Nat)(h0:Rz)(m b:Int):Option (MV×List (List AV)):=bif decide (a<v20)then zu1 v20 n nn a h0 m b else zu4 n m v20 b nn h0
theorem qfi(nn:Nat)(a m b n v20 v21:Int)(h0:Rz){P:MV×List (List AV)->Prop}(h:Gets (bif decide (v20<v21)then kOpt (qn (Op.shift BinOp.shr .u64 (qBZ .u64 (qBZ .i64 (v20+v21))) .u64 1)) λv=>kInt .u64 v λn_1=>bif qd 0 (qBZ .i64 (qBZ .i64 (qBZ .i64 (qBZ .i64 n+m) - 1) - qBZ .i64 n_1))&&qe (qBZ .i64 (qBZ .i64 (qBZ .i64 (qBZ .i64 n+m) - 1) - qBZ .i64 n_1)) (↑ nn:Int)then kOpt (qB0 h0 (0+qB7 (qBZ .i64 (qBZ .i64 (qBZ .i64 (qBZ .i64 n+m) - 1) - qBZ .i64 n_1)))) λrow=>bif qB4 2 (qB1 row)then qf (qB8 2 row) λc cs=>kInt .i64 c λn_2=>qf cs λc cs=>kSl c λrows=>kNil cs (bif qd 0 (qBZ .i64 n_1)&&qe (qBZ .i64 n_1) (↑ nn:Int)then kOpt (qB0 h0 (0+qB7 (qBZ .i64 n_1))) λrow=>bif qB4 2 (qB1 row)then qf (qB8 2 row) λc cs=>kInt .i64 c λn_3=>qf cs λc cs=>kSl c λrows_1=>kNil cs (kOpt (EVs (EV cfg) 57 [.agg [.int .i64 n_2,.sl rows],.agg [.int .i64 n_3,.sl rows_1]]) λv=>kInt .i64 v λn_4=>bif ! decide (n_4<0)then qaA nn a m b n (qBZ .i64 (qBZ .i64 n_1+1)) v21 h0 else qaA nn a m b n v20 (qBZ .i64 n_1) h0)else none else none)else none else none else bif decide (v20<m)then bif decide (m<qBZ .i64 (qBZ .i64 (qBZ .i64 n+m) - v20))then kOpt (EVm (EV cfg) 146 [.ms 0 0 nn,.int .i64 v20,.int .i64 m,.int .i64 (qBZ .i64 (qBZ .i64 (qBZ .i64 n+m) - v20)),AV.fn (Fn.func 57) [] []] 2 h0) λq=>qx q.1 (bif decide (a<v20)then bif decide (v20<qBZ .i64 n)then kOpt (EVm (EV cfg) 121 [.ms 0 0 nn,.int .i64 a,.int .i64 v20,.int .i64 (qBZ .i64 n),AV.fn (Fn.func 57) [] []] 2 q.2) λq=>qx q.1 (bif decide (qBZ .i64 n<qBZ .i64 (qBZ .i64 (qBZ .i64 n+m) - v20))then bif decide (qBZ .i64 (qBZ .i64 (qBZ .i64 n+m) - v20)<b)then kOpt (EVm (EV cfg) 121 [.ms 0 0 nn,.int .i64 (qBZ .i64 n),.int .i64 (qBZ .i64 (qBZ .i64 (qBZ .i64 n+m) - v20)),.int .i64 b,AV.fn (Fn.func 57) [] []] 2 q.2) λq=>qx q.1 (some (MV.unit,q.2))else some (MV.unit,q.2)else some (MV.unit,q.2))else bif decide (qBZ .i64 n<qBZ .i64 (qBZ .i64 (qBZ .i64 n+m) - v20))then bif decide (qBZ .i64 (qBZ .i64 (qBZ .i64 n+m) - v20)<b)then kOpt (EVm (EV cfg) 121 [.ms 0 0 nn,.int .i64 (qBZ .i64 n),.int .i64 (qBZ .i64 (qBZ .i64 (qBZ .i64 n+m) - v20)),.int .i64 b,AV.fn (Fn.func 57) [] []] 2 q.2) λq=>qx q.1 (some (MV.unit,q.2))else some (MV.unit,q.2)else some (MV.unit,q.2)else bif decide (qBZ .i64 n<qBZ .i64 (qBZ .i64 (qBZ .i64 n+m) - v20))then bif decide (qBZ .i64 (qBZ .i64 (qBZ .i64 n+m) - v20)<b)then kOpt (EVm (EV cfg) 121 [.ms 0 0 nn,.int .i64 (qBZ .i64 n),.int .i64 (qBZ .i64 (qBZ .i64 (qBZ .i64 n+m) - v20)),.int .i64 b,AV.fn (Fn.func 57) [] []] 2 q.2) λq=>qx q.1 (some (MV.unit,q.2))else some (MV.unit,q.2)else some (MV.unit,q.2))else zu0 a v20 n nn h0 m b else zu0 a v20 n nn h0 m b) P):Gets (qaA nn a m b n v20 v21 h0) P:=
  gE (λ_=>ql (cfg:=cfg) (f:=121) (rd:=none) (bs:=1)) (by kernel_rfl) h
theorem qmX(nn:Nat)(m v10 v11:Int)(h0:Rz){P:MV×List (List AV)->Prop}(h:Gets (bif v10 != v11 then bif decide (v10>v11)then kOpt (EVm (EV cfg) 165 [.ms 0 0 nn,.int .i64 (qBZ .i64 (m - v10)),.int .i64 m,.int .i64 v11,AV.fn (Fn.func 57) [] []] 2 h0) λq=>qx q.1 (qcF nn m (qBZ .i64 (v10 - v11)) v11 q.2)else kOpt (EVm (EV cfg) 165 [.ms 0 0 nn,.int .i64 (qBZ .i64 (m - v10)),.int .i64 (qBZ .i64 (qBZ .i64 (m+v11) - v10)),.int .i64 v10,AV.fn (Fn.func 57) [] []] 2 h0) λq=>qx q.1 (qcF nn m v10 (qBZ .i64 (v11 - v10)) q.2)else kOpt (EVm (EV cfg) 165 [.ms 0 0 nn,.int .i64 (qBZ .i64 (m - v10)),.int .i64 m,.int .i64 v10,AV.fn (Fn.func 57) [] []] 2 h0) λq=>qx q.1 (some (MV.unit,q.2))) P):Gets (qcF nn m v10 v11 h0) P:=
  gE (λ_=>ql (cfg:=cfg) (f:=146) (rd:=none) (bs:=1)) (by kernel_rfl) h
theorem qff(nn:Nat)(a b n v10:Int)(h0:Rz){P:MV×List (List AV)->Prop}(h:Gets (bif decide (v10<n)then bif qd 0 (qBZ .i64 (b+v10))&&qe (qBZ .i64 (b+v10)) (↑ nn:Int)then kOpt (qB0 h0 (0+qB7 (qBZ .i64 (b+v10)))) λrow=>bif qB4 2 (qB1 row)then qf (qB8 2 row) λc cs=>kInt .i64 c λn_1=>qf cs λc cs=>kSl c λrows=>kNil cs (bif qd 0 (qBZ .i64 (a+v10))&&qe (qBZ .i64 (a+v10)) (↑ nn:Int)then kOpt (qB0 h0 (0+qB7 (qBZ .i64 (a+v10)))) λrow=>bif qB4 2 (qB1 row)then qf (qB8 2 row) λc cs=>kInt .i64 c λn_2=>qf cs λc cs=>kSl c λrows_1=>kNil cs (bif qd 0 (qBZ .i64 (a+v10))&&qe (qBZ .i64 (a+v10)) (↑ nn:Int)then kOpt (qB0 h0 (0+qB7 (qBZ .i64 (a+v10)))) λrow=>bif qB4 2 (qB1 row)then bif qd 0 (qBZ .i64 (b+v10))&&qe (qBZ .i64 (b+v10)) (↑ nn:Int)then kOpt (qB0 (qCA h0 (0+qB7 (qBZ .i64 (a+v10))) (.int .i64 n_1:: .sl rows::qCk 2 row)) (0+qB7 (qBZ .i64 (b+v10)))) λrow_1=>bif qB4 2 (qB1 row_1)then qeu nn a b n (qBZ .i64 (v10+1)) (qCA (qCA h0 (0+qB7 (qBZ .i64 (a+v10))) (.int .i64 n_1:: .sl rows::qCk 2 row)) (0+qB7 (qBZ .i64 (b+v10))) (.int .i64 n_2:: .sl rows_1::qCk 2 row_1))else none else none else none else none)else none else none)else none else none else some (MV.unit,h0)) P):Gets (qeu nn a b n v10 h0) P:=
  gE (λ_=>ql (cfg:=cfg) (f:=165) (rd:=none) (bs:=1)) (by kernel_rfl) h
theorem qfG(L M:Rz)(v13:Int){P:AV->Prop}(h:Gets (bif decide (v13<(L.length:Int))then bif qd 0 v13&&qe v13 (L.length:Int)then kOpt (qB0 L (v13.toNat)) λrow=>bif qCh (qB1 row) 4 then bif qB4 4 (qB1 row)then kTmC (qB8 4 row) λn n_1 s rows=>(bif decide (v13≥(↑ (qB1 M):Int))then some (.int .i64 1)else bif qd 0 v13&&qe v13 (M.length:Int)then kOpt (qB0 M (v13.toNat)) λrow=>bif qCh (qB1 row) 4 then bif qB4 4 (qB1 row)then kTmC (qB8 4 row) λn_2 n_3 s_1 rows_1=>(kOpt (EVs (EV cfg) 29 [.agg [.int .i64 n,.int .i64 n_1,.str s,.sl rows],.agg [.int .i64 n_2,.int .i64 n_3,.str s_1,.sl rows_1]]) λv=>kInt .i64 v λn=>bif n != 0 then some (.int .i64 n)else qhb L M (qBZ .i64 (v13+1)))else none else none else none)else none else none else none else bif decide ((L.length:Int)<(M.length:Int))then some (.int .i64 (- 1))else some (.int .i64 0)) P):Gets (qhb L M v13) P:=
  gE (λ_=>ql (cfg:=cfg) (f:=78) (rd:=none) (bs:=0)) (by kernel_rfl) h
theorem qfl(nn:Nat)(a b v8 v9:Int)(h0:Rz){P:MV×List (List AV)->Prop}(h:Gets (bif decide (v9>a)then bif qd 0 v9&&qe v9 (↑ nn:Int)then kOpt (qB0 h0 (0+v9.toNat)) λrow=>bif qB4 2 (qB1 row)then qf (qB8 2 row) λc cs=>kInt .i64 c λn=>qf cs λc cs=>kSl c λrows=>kNil cs (bif qd (0:Int) (qBZ .i64 (v9 - 1))&&qe (qBZ .i64 (v9 - 1)) (↑ nn:Int)then kOpt (qB0 h0 (0+qB7 (qBZ .i64 (v9 - 1)))) λrow=>bif qB4 2 (qB1 row)then qf (qB8 2 row) λc cs=>kInt .i64 c λn_1=>qf cs λc cs=>kSl c λrows_1=>kNil cs (kOpt (EVs (EV cfg) 57 [.agg [.int .i64 n,.sl rows],.agg [.int .i64 n_1,.sl rows_1]]) λv=>kInt .i64 v λn=>bif decide (n<0)then bif qd 0 (qBZ .i64 (v9 - 1))&&qe (qBZ .i64 (v9 - 1)) (↑ nn:Int)then kOpt (qB0 h0 (0+qB7 (qBZ .i64 (v9 - 1)))) λrow=>bif qB4 2 (qB1 row)then qf (qB8 2 row) λc cs=>kInt .i64 c λn=>qf cs λc cs=>kSl c λrows=>kNil cs (bif qd 0 v9&&qe v9 (↑ nn:Int)then kOpt (qB0 h0 (0+v9.toNat)) λrow=>bif qB4 2 (qB1 row)then qf (qB8 2 row) λc cs=>kInt .i64 c λn_2=>qf cs λc cs=>kSl c λrows_2=>kNil cs (bif qd 0 v9&&qe v9 (↑ nn:Int)then kOpt (qB0 h0 (0+v9.toNat)) λrow=>bif qB4 2 (qB1 row)then bif qd 0 (qBZ .i64 (v9 - 1))&&qe (qBZ .i64 (v9 - 1)) (↑ nn:Int)then kOpt (qB0 (qCA h0 (0+v9.toNat) (.int .i64 n:: .sl rows::qCk 2 row)) (0+qB7 (qBZ .i64 (v9 - 1)))) λrow_1=>bif qB4 2 (qB1 row_1)then qex nn a b v8 (qBZ .i64 (v9 - 1)) (qCA (qCA h0 (0+v9.toNat) (.int .i64 n:: .sl rows::qCk 2 row)) (0+qB7 (qBZ .i64 (v9 - 1))) (.int .i64 n_2:: .sl rows_2::qCk 2 row_1))else none else none else none else none)else none else none)else none else none else qbj nn a b (qBZ .i64 (v8+1)) h0)else none else none)else none else none else qbj nn a b (qBZ .i64 (v8+1)) h0) P):Gets (qex nn a b v8 v9 h0) P:=
  gE (λ_=>ql (cfg:=cfg) (f:=120) (rd:=none) (bs:=1)) (by kernel_rfl) h
theorem qfE(nn:Nat)(n v6:Int)(h0:Rz){P:MV×List (List AV)->Prop}(h:Gets (bif decide (v6<n)then qha nn n v6 0 (qBZ .i64 (2*v6)) h0 else some (MV.unit,h0)) P):Gets (qcq nn n v6 h0) P:=
  gE (λ_=>ql (cfg:=cfg) (f:=86) (rd:=none) (bs:=1)) (by kernel_rfl) h
theorem qfh(nn:Nat)(v10 v13:Int)(h0:Rz){P:MV×List (List AV)->Prop}(h:Gets (bif decide (v13<qBZ .i64 (v10 - 1))then bif qd 0 (qBZ .i64 (v13+1))&&qe (qBZ .i64 (v13+1)) (↑ nn:Int)then kOpt (qB0 h0 (0+qB7 (qBZ .i64 (v13+1)))) λrow=>bif qB4 2 (qB1 row)then qf (qB8 2 row) λc cs=>kInt .i64 c λn=>qf cs λc cs=>kSl c λrows=>kNil cs (bif qd 0 v13&&qe v13 (↑ nn:Int)then kOpt (qB0 h0 (0+v13.toNat)) λrow=>bif qB4 2 (qB1 row)then qf (qB8 2 row) λc cs=>kInt .i64 c λn_1=>qf cs λc cs=>kSl c λrows_1=>kNil cs (bif qd 0 v13&&qe v13 (↑ nn:Int)then kOpt (qB0 h0 (0+v13.toNat)) λrow=>bif qB4 2 (qB1 row)then bif qd 0 (qBZ .i64 (v13+1))&&qe (qBZ .i64 (v13+1)) (↑ nn:Int)then kOpt (qB0 (qCA h0 (0+v13.toNat) (.int .i64 n:: .sl rows::qCk 2 row)) (0+qB7 (qBZ .i64 (v13+1)))) λrow_1=>bif qB4 2 (qB1 row_1)then qew nn v10 (qBZ .i64 (v13+1)) (qCA (qCA h0 (0+v13.toNat) (.int .i64 n:: .sl rows::qCk 2 row)) (0+qB7 (qBZ .i64 (v13+1))) (.int .i64 n_1:: .sl rows_1::qCk 2 row_1))else none else none else none else none)else none else none)else none else none else some (MV.unit,h0)) P):Gets (qew nn v10 v13 h0) P:=
  gE (λ_=>ql (cfg:=cfg) (f:=121) (rd:=none) (bs:=1)) (by kernel_rfl) h
theorem qfg(nn:Nat)(v14 v17:Int)(h0:Rz){P:MV×List (List AV)->Prop}(h:Gets (bif decide (v17>v14)then bif qd 0 (qBZ .i64 (v17 - 1))&&qe (qBZ .i64 (v17 - 1)) (↑ nn:Int)then kOpt (qB0 h0 (0+qB7 (qBZ .i64 (v17 - 1)))) λrow=>bif qB4 2 (qB1 row)then qf (qB8 2 row) λc cs=>kInt .i64 c λn=>qf cs λc cs=>kSl c λrows=>kNil cs (bif qd 0 v17&&qe v17 (↑ nn:Int)then kOpt (qB0 h0 (0+v17.toNat)) λrow=>bif qB4 2 (qB1 row)then qf (qB8 2 row) λc cs=>kInt .i64 c λn_1=>qf cs λc cs=>kSl c λrows_1=>kNil cs (bif qd 0 v17&&qe v17 (↑ nn:Int)then kOpt (qB0 h0 (0+v17.toNat)) λrow=>bif qB4 2 (qB1 row)then bif qd 0 (qBZ .i64 (v17 - 1))&&qe (qBZ .i64 (v17 - 1)) (↑ nn:Int)then kOpt (qB0 (qCA h0 (0+v17.toNat) (.int .i64 n:: .sl rows::qCk 2 row)) (0+qB7 (qBZ .i64 (v17 - 1)))) λrow_1=>bif qB4 2 (qB1 row_1)then qev nn v14 (qBZ .i64 (v17 - 1)) (qCA (qCA h0 (0+v17.toNat) (.int .i64 n:: .sl rows::qCk 2 row)) (0+qB7 (qBZ .i64 (v17 - 1))) (.int .i64 n_1:: .sl rows_1::qCk 2 row_1))else none else none else none else none)else none else none)else none else none else some (MV.unit,h0)) P):Gets (qev nn v14 v17 h0) P:=
  gE (λ_=>ql (cfg:=cfg) (f:=121) (rd:=none) (bs:=1)) (by kernel_rfl) h
theorem qfD(nn:Nat)(n v6 v7 v8:Int)(h0:Rz){P:MV×List (List AV)->Prop}(h:Gets (bif decide (v8<=n)then kOpt (EVm (EV cfg) 121 [.ms 0 0 nn,.int .i64 v7,.int .i64 (qBZ .i64 (v7+v6)),.int .i64 v8,AV.fn (Fn.func 57) [] []] 2 h0) λq=>qx q.1 (qha nn n v6 v8 (qBZ .i64 (v8+qBZ .i64 (2*v6))) q.2)else bif decide (qBZ .i64 (v7+v6)<n)then kOpt (EVm (EV cfg) 121 [.ms 0 0 nn,.int .i64 v7,.int .i64 (qBZ .i64 (v7+v6)),.int .i64 n,AV.fn (Fn.func 57) [] []] 2 h0) λq=>qx q.1 (qcq nn n (qBZ .i64 (v6*2)) q.2)else qcq nn n (qBZ .i64 (v6*2)) h0) P):Gets (qha nn n v6 v7 v8 h0) P:=
  gE (λ_=>ql (cfg:=cfg) (f:=86) (rd:=none) (bs:=1)) (by kernel_rfl) h
end Go.Proofs.YtgleolmhpmljhaaGreat
end
noncomputable section
namespace Go.Av
def yX{α:Type}(l:List α)(i j:Nat):List α:=
 match l[i]?,l[j]? with
 |some x,some y=>(l.set i y).set j x
 |_,_=>l
theorem qn3{α:Type}{l:List α}{i j:Nat}{x y:α}(hi:l[i]? =some x)(hj:l[j]? =some y):yX l i j=(l.set i y).set j x:=by
 unfold yX;rw[hi,hj]
theorem qH{α:Type}(l:List α)(i j:Nat):(yX l i j).Perm l:=by
 unfold yX;split
 ·rename_i x y hi hj;obtain⟨h1,rfl⟩:=qB5.1 hi;obtain⟨h2,rfl⟩:=qB5.1 hj;exact List.set_set_perm h1 h2
 ·exact List.Perm.refl _
theorem vF{α:Type}(l:List α)(i j:Nat):(yX l i j).length=l.length:=(qH l i j).length_eq
end Go.Av
end
noncomputable section
namespace Go.Proofs.YtgleolmhpmljhaaGreat
open Go.Av
def qrt:Den:=evC cfg (EV cfg) 88 none 1 (sub (qc Tryz.f88) [1,0,0])
def qrw:Ex×List AV×AH->Option (MV×List (List AV)):=kAft (Cfg.keepOut cfg 88 1) (kRun cfg (EV cfg) (kfN cfg 6) 88 none 1 (vI cfg 4 (Cfg.lift cfg 88 0) Tryz.f88.results.toList) ([.block 0]))
def qyS:List AV×AH->Option (MV×List (List AV)):=λp=>kOpt (LOOP 1 (some [0,1,2,3,8]) ([]) qrt p) qrw
def qxk:Den:=evC cfg (EV cfg) 122 none 1 (sub (qc Tryz.f122) [1,0,0])
def qxw:Ex×List AV×AH->Option (MV×List (List AV)):=kAft (Cfg.keepOut cfg 122 1) (kRun cfg (EV cfg) (kfN cfg 6) 122 none 1 (vI cfg 4 (Cfg.lift cfg 122 0) Tryz.f122.results.toList) ([.block 0]))
def qxa:List AV×AH->Option (MV×List (List AV)):=λp=>kOpt (LOOP 1 (some [0,2,3,4,10]) ([]) qxk p) qxw
def qzg:Den:=evC cfg (EV cfg) 89 none 1 (sub (qc Tryz.f89) [1,1,1,0,1,0,0])
def qzF:Ex×List AV×AH->Option (MV×List (List AV)):=kAft (Cfg.keepOut cfg 89 (qh (sub (qc Tryz.f89) [1,1,1,0,1,0,0]))) (qO 0 (kSeq (fun(fr:List AV) (H:AH)=>qL (Cfg.cut cfg 89 (qh (sub (qc Tryz.f89) [1,1,1,1]))) fr H fun(fr:List AV) (H:AH)=>qG cfg (EV cfg) (kfN cfg 6) 89 none 1 (sub (qc Tryz.f89) [1,1,1,1]) fr H (vI cfg 4 (Cfg.lift cfg 89 0) (qCl (Func.results Tryz.f89)))) (vI cfg 4 (Cfg.lift cfg 89 0) (qCl (Func.results Tryz.f89)))))
def qyQ:List AV×AH->Option (MV×List (List AV)):=fun(p:List AV×AH)=>kOpt (LOOP 1 (some [0,3,8,9,10,11]) [] qzg p) qzF
def qze:Den:=evC cfg (EV cfg) 92 none 1 (sub (qc Tryz.f92) [1,1,0,0])
def qzD:Ex×List AV×AH->Option (MV×List (List AV)):=kAft (Cfg.keepOut cfg 92 2) (kRun cfg (EV cfg) (kfN cfg 6) 92 none 1 (vI cfg 4 (Cfg.lift cfg 92 0) Tryz.f92.results.toList) ([.block 0]))
def qyO:List AV×AH->Option (MV×List (List AV)):=λp=>kOpt (LOOP 1 (some [0,8,9]) ([]) qze p) qzD
def qy8:Den:=evC cfg (EV cfg) 95 none 1 (sub (qc Tryz.f95) [1,1,1,0,0,0])
def qzx:Ex×List AV×AH->Option (AV×List (List AV)):=kAft (Cfg.keepOut cfg 95 (qh (sub (qc Tryz.f95) [1,1,1,0,0,0]))) (qO 0 (kSeq (fun(fr:List AV) (H:AH)=>qL (Cfg.cut cfg 95 (qh (sub (qc Tryz.f95) [1,1,1,1]))) fr H fun(fr:List AV) (H:AH)=>qG cfg (EV cfg) (kfN cfg 6) 95 none 1 (sub (qc Tryz.f95) [1,1,1,1]) fr H (yh cfg 4 (Cfg.lift cfg 95 0) (qCl (Func.results Tryz.f95)))) (yh cfg 4 (Cfg.lift cfg 95 0) (qCl (Func.results Tryz.f95)))))
def qyG:List AV×AH->Option (AV×List (List AV)):=fun(p:List AV×AH)=>kOpt (LOOP 1 (some [0,1,4,12,13]) [] qy8 p) qzx
def qhL:Den:=evC cfg (EV cfg) 94 none 1 (sub (qc Tryz.f94) [1,1,1,0,0,0])
def qhP:Ex×List AV×AH->Option (AV×List (List AV)):=kAft (Cfg.keepOut cfg 94 (qh (sub (qc Tryz.f94) [1,1,1,0,0,0]))) (qO 0 (kSeq (fun(fr:List AV) (H:AH)=>qL (Cfg.cut cfg 94 (qh (sub (qc Tryz.f94) [1,1,1,1]))) fr H fun(fr:List AV) (H:AH)=>qG cfg (EV cfg) (kfN cfg 6) 94 none 1 (sub (qc Tryz.f94) [1,1,1,1]) fr H (yh cfg 4 (Cfg.lift cfg 94 0) (qCl (Func.results Tryz.f94)))) (yh cfg 4 (Cfg.lift cfg 94 0) (qCl (Func.results Tryz.f94)))))
def qyJ:List AV×AH->Option (AV×List (List AV)):=fun(p:List AV×AH)=>kOpt (LOOP 1 (some [0,1,4,11,12]) [] qhL p) qhP
def qem:Den:=evC cfg (EV cfg) 93 none 1 (sub (qc Tryz.f93) [1,1,0,1,0,0])
def qeo:Ex×List AV×AH->Option (AV×List (List AV)):=kAft (Cfg.keepOut cfg 93 (qh (sub (qc Tryz.f93) [1,1,0,1,0,0]))) (qO 0 (kSeq (fun(fr:List AV) (H:AH)=>qL (Cfg.cut cfg 93 (qh (sub (qc Tryz.f93) [1,1,1]))) fr H fun(fr:List AV) (H:AH)=>qG cfg (EV cfg) (kfN cfg 6) 93 none 1 (sub (qc Tryz.f93) [1,1,1]) fr H (yh cfg 4 (Cfg.lift cfg 93 0) (qCl (Func.results Tryz.f93)))) (yh cfg 4 (Cfg.lift cfg 93 0) (qCl (Func.results Tryz.f93)))))
def qyN:List AV×AH->Option (AV×List (List AV)):=fun(p:List AV×AH)=>kOpt (LOOP 1 (some [0,1,2,3,9,10]) [] qem p) qeo
def qzh:Den:=evC cfg (EV cfg) 88 none 1 (sub (qc Tryz.f88) [1,0,0,1,0,0,1,0,0])
def qzG:Ex×List AV×AH->Option (MV×List (List AV)):=kAft (Cfg.keepOut cfg 88 4) (kRun cfg (EV cfg) (kfN cfg 6) 88 none 1 (kLp 1 (some [0,1,2,3,8]) ([]) qrt qrw) ([.block 2,.block 1,.seq (sub (qc Tryz.f88) [1,0,0,1,1])]))
def qyR:List AV×AH->Option (MV×List (List AV)):=λp=>kOpt (LOOP 1 (some [0,1,2,3,8,9]) ([]) qzh p) qzG
def qzf:Den:=evC cfg (EV cfg) 89 none 1 (sub (qc Tryz.f89) [1,1,1,1,1,0,0])
def qzE:Ex×List AV×AH->Option (MV×List (List AV)):=kAft (Cfg.keepOut cfg 89 8) (kRun cfg (EV cfg) (kfN cfg 6) 89 none 1 (vI cfg 4 (Cfg.lift cfg 89 0) Tryz.f89.results.toList) ([.block 2]))
def qyP:List AV×AH->Option (MV×List (List AV)):=λp=>kOpt (LOOP 1 (some [0,3,8,9,12]) ([]) qzf p) qzE
def qy7:Den:=evC cfg (EV cfg) 95 none 1 (sub (qc Tryz.f95) [1,1,1,1,0,0,0])
def qzw:Ex×List AV×AH->Option (AV×List (List AV)):=kAft (Cfg.keepOut cfg 95 5) (kRun cfg (EV cfg) (kfN cfg 6) 95 none 1 (yh cfg 4 (Cfg.lift cfg 95 0) Tryz.f95.results.toList) ([.block 2,.seq (sub (qc Tryz.f95) [1,1,1,1,1])]))
def qyF:List AV×AH->Option (AV×List (List AV)):=λp=>kOpt (LOOP 1 (some [0,1,4,12,13]) ([]) qy7 p) qzw
def qza:Den:=evC cfg (EV cfg) 94 none 1 (sub (qc Tryz.f94) [1,1,1,0,0,0,0,0,0,0])
def qzz:Ex×List AV×AH->Option (AV×List (List AV)):=kAft (Cfg.keepOut cfg 94 3) (kRun cfg (EV cfg) (kfN cfg 6) 94 none 1 (kLp 1 (some [0,1,4,11,12]) ([]) qhL qhP) ([.block 2,.seq (sub (qc Tryz.f94) [1,1,1,0,0,0,0,1]),.block 1]))
def qyI:List AV×AH->Option (AV×List (List AV)):=λp=>kOpt (LOOP 1 (some [0,1,4,11,12]) ([]) qza p) qzz
def qzd:Den:=evC cfg (EV cfg) 93 none 1 (sub (qc Tryz.f93) [1,1,0,1,0,0,1,0,0,0,0,0])
def qzC:Ex×List AV×AH->Option (AV×List (List AV)):=kAft (Cfg.keepOut cfg 93 5) (kRun cfg (EV cfg) (kfN cfg 6) 93 none 1 (kLp 1 (some [0,1,2,3,9,10]) ([]) qem qeo) ([.block 2,.seq (sub (qc Tryz.f93) [1,1,0,1,0,0,1,0,0,1]),.block 1,.seq (sub (qc Tryz.f93) [1,1,0,1,0,0,1,1])]))
def qyM:List AV×AH->Option (AV×List (List AV)):=λp=>kOpt (LOOP 1 (some [0,1,2,3,9,10]) ([]) qzd p) qzC
def qhK:Den:=evC cfg (EV cfg) 95 none 1 (sub (qc Tryz.f95) [1,1,1,1,1,1,1,1,1,0,0,0])
def qhO:Ex×List AV×AH->Option (AV×List (List AV)):=kAft (Cfg.keepOut cfg 95 13) (kRun cfg (EV cfg) (kfN cfg 6) 95 none 1 (yh cfg 4 (Cfg.lift cfg 95 0) Tryz.f95.results.toList) ([.block 4,.seq (sub (qc Tryz.f95) [1,1,1,1,1,1,1,1,1,1])]))
def qyE:List AV×AH->Option (AV×List (List AV)):=λp=>kOpt (LOOP 1 (some [0,1,4,12,13]) ([]) qhK p) qhO
def qy9:Den:=evC cfg (EV cfg) 94 none 1 (sub (qc Tryz.f94) [1,1,1,0,0,0,0,1,0,0,0])
def qzy:Ex×List AV×AH->Option (AV×List (List AV)):=kAft (Cfg.keepOut cfg 94 (qh (sub (qc Tryz.f94) [1,1,1,0,0,0,0,1,0,0,0]))) (qO 4 (kSeq (fun(fr:List AV) (H:AH)=>qL (Cfg.cut cfg 94 (qh (sub (qc Tryz.f94) [1,1,1,0,0,0,0,1,1]))) fr H fun(fr:List AV) (H:AH)=>qG cfg (EV cfg) (kfN cfg 6) 94 none 1 (sub (qc Tryz.f94) [1,1,1,0,0,0,0,1,1]) fr H (kRun cfg (EV cfg) (kfN cfg 6) 94 none 1 (kLp 1 (some [0,1,4,11,12]) [] qhL qhP) [Ko.block 1])) (kRun cfg (EV cfg) (kfN cfg 6) 94 none 1 (kLp 1 (some [0,1,4,11,12]) [] qhL qhP) [Ko.block 1])))
def qyH:List AV×AH->Option (AV×List (List AV)):=fun(p:List AV×AH)=>kOpt (LOOP 1 (some [0,1,4,11,12]) [] qy9 p) qzy
def qzc:Den:=evC cfg (EV cfg) 93 none 1 (sub (qc Tryz.f93) [1,1,0,1,0,0,1,0,0,1,1,1,1,0,1,0,1,0,0])
def qzB:Ex×List AV×AH->Option (AV×List (List AV)):=kAft (Cfg.keepOut cfg 93 (qh (sub (qc Tryz.f93) [1,1,0,1,0,0,1,0,0,1,1,1,1,0,1,0,1,0,0]))) (qO 4 (kSeq (fun(fr:List AV) (H:AH)=>qL (Cfg.cut cfg 93 (qh (sub (qc Tryz.f93) [1,1,0,1,0,0,1,0,0,1,1,1,1,1]))) fr H fun(fr:List AV) (H:AH)=>qG cfg (EV cfg) (kfN cfg 6) 93 none 1 (sub (qc Tryz.f93) [1,1,0,1,0,0,1,0,0,1,1,1,1,1]) fr H (kRun cfg (EV cfg) (kfN cfg 6) 93 none 1 (kLp 1 (some [0,1,2,3,9,10]) [] qem qeo) [Ko.block 1,Ko.seq (sub (qc Tryz.f93) [1,1,0,1,0,0,1,1])])) (kRun cfg (EV cfg) (kfN cfg 6) 93 none 1 (kLp 1 (some [0,1,2,3,9,10]) [] qem qeo) [Ko.block 1,Ko.seq (sub (qc Tryz.f93) [1,1,0,1,0,0,1,1])])))
def qyL:List AV×AH->Option (AV×List (List AV)):=fun(p:List AV×AH)=>kOpt (LOOP 1 (some [0,1,2,3,9,10,11]) [] qzc p) qzB
def qzb:Den:=evC cfg (EV cfg) 93 none 1 (sub (qc Tryz.f93) [1,1,0,1,0,0,1,0,0,1,1,1,1,1,1,0,1,0,0])
def qzA:Ex×List AV×AH->Option (AV×List (List AV)):=kAft (Cfg.keepOut cfg 93 (qh (sub (qc Tryz.f93) [1,1,0,1,0,0,1,0,0,1,1,1,1,1,1,0,1,0,0]))) (qO 6 (kRun cfg (EV cfg) (kfN cfg 6) 93 none 1 (kLp 1 (some [0,1,2,3,9,10]) [] qem qeo) [Ko.block 1,Ko.seq (sub (qc Tryz.f93) [1,1,0,1,0,0,1,1])]))
def qyK:List AV×AH->Option (AV×List (List AV)):=fun(p:List AV×AH)=>kOpt (LOOP 1 (some [0,1,2,3,9,10,12]) [] qzb p) qzA
def qy6:Den:=evC cfg (EV cfg) 95 none 1 (sub (qc Tryz.f95) [1,1,1,1,1,1,1,1,1,0,0,0,0,0,0,0])
def qzv:Ex×List AV×AH->Option (AV×List (List AV)):=kAft (Cfg.keepOut cfg 95 13) (kRun cfg (EV cfg) (kfN cfg 6) 95 none 1 (kLp 1 (some [0,1,4,12,13]) ([]) qhK qhO) ([.block 6,.seq (sub (qc Tryz.f95) [1,1,1,1,1,1,1,1,1,0,0,0,0,1]),.block 5]))
def qyD:List AV×AH->Option (AV×List (List AV)):=λp=>kOpt (LOOP 1 (some [0,1,4,12,13]) ([]) qy6 p) qzv
def qy5:Den:=evC cfg (EV cfg) 95 none 1 (sub (qc Tryz.f95) [1,1,1,1,1,1,1,1,1,0,0,0,0,1,0,0,0])
def qzu:Ex×List AV×AH->Option (AV×List (List AV)):=kAft (Cfg.keepOut cfg 95 (qh (sub (qc Tryz.f95) [1,1,1,1,1,1,1,1,1,0,0,0,0,1,0,0,0]))) (qO 8 (kSeq (fun(fr:List AV) (H:AH)=>qL (Cfg.cut cfg 95 (qh (sub (qc Tryz.f95) [1,1,1,1,1,1,1,1,1,0,0,0,0,1,1]))) fr H fun(fr:List AV) (H:AH)=>qG cfg (EV cfg) (kfN cfg 6) 95 none 1 (sub (qc Tryz.f95) [1,1,1,1,1,1,1,1,1,0,0,0,0,1,1]) fr H (kRun cfg (EV cfg) (kfN cfg 6) 95 none 1 (kLp 1 (some [0,1,4,12,13]) [] qhK qhO) [Ko.block 5])) (kRun cfg (EV cfg) (kfN cfg 6) 95 none 1 (kLp 1 (some [0,1,4,12,13]) [] qhK qhO) [Ko.block 5])))
def qyC:List AV×AH->Option (AV×List (List AV)):=fun(p:List AV×AH)=>kOpt (LOOP 1 (some [0,1,4,12,13]) [] qy5 p) qzu
abbrev qct(nn:Nat)(a b v8:Int)(h0:Rz):Option (MV×List (List AV)):=qyS (((fx 53 [(0,.ms 0 0 nn),(1,.int .i64 a),(2,.int .i64 b),(3,.fn (Fn.func 29) [] []),(8,.int .i64 v8)]):List AV),([.rows true 4 h0]:AH))
abbrev qaC(nn:Nat)(hi fst v10:Int)(h0:Rz):Option (MV×List (List AV)):=qxa (((fx 82 [(0,.ms 0 0 nn),(2,.int .i64 hi),(3,.int .i64 fst),(4,.fn (Fn.func 29) [] []),(10,.int .i64 v10)]):List AV),([.rows true 4 h0]:AH))
abbrev qhp(nn:Nat)(a b v11:Int)(h0:Rz):Option (MV×List (List AV)):=qyQ (((fx 60 [(0,.ms 0 0 nn),(3,.fn (Fn.func 29) [] []),(8,.int .i64 a),(9,.int .i64 (0:Int)),(10,.int .i64 (qBZ .i64 (b - a))),(11,.int .i64 v11)]):List AV),([.rows true 4 h0]:AH))
abbrev qhn(nn:Nat)(v8 v9:Int)(h0:Rz):Option (MV×List (List AV)):=qyO (((fx 34 [(0,.ms 0 0 nn),(8,.int .i64 v8),(9,.int .i64 v9)]):List AV),([.rows true 4 h0]:AH))
abbrev qhj(nn:Nat)(a b v12:Int)(h0:Rz):Option (AV×List (List AV)):=qyG (((fx 178 [(0,.ms 0 0 nn),(1,.int .i64 a),(4,.fn (Fn.func 29) [] []),(12,.int .i64 v12),(13,.int .i64 (qBZ .i64 (b - (1:Int))))]):List AV),([.rows true 4 h0]:AH))
abbrev qhl(nn:Nat)(a v11 v12:Int)(h0:Rz):Option (AV×List (List AV)):=qyJ (((fx 90 [(0,.ms 0 0 nn),(1,.int .i64 a),(4,.fn (Fn.func 29) [] []),(11,.int .i64 v11),(12,.int .i64 v12)]):List AV),([.rows true 4 h0]:AH))
abbrev yo(nn:Nat)(a b v9 v10:Int)(h0:Rz):Option (AV×List (List AV)):=qyN (((fx 141 [(0,.ms 0 0 nn),(1,.int .i64 a),(2,.int .i64 b),(3,.fn (Fn.func 29) [] []),(9,.int .i64 v9),(10,.int .i64 v10)]):List AV),([.rows true 4 h0]:AH))
abbrev qhq(nn:Nat)(a b v8 v9:Int)(h0:Rz):Option (MV×List (List AV)):=qyR (((fx 53 [(0,.ms 0 0 nn),(1,.int .i64 a),(2,.int .i64 b),(3,.fn (Fn.func 29) [] []),(8,.int .i64 v8),(9,.int .i64 v9)]):List AV),([.rows true 4 h0]:AH))
abbrev qho(nn:Nat)(a v12:Int)(h0:Rz):Option (MV×List (List AV)):=qyP (((fx 60 [(0,.ms 0 0 nn),(3,.fn (Fn.func 29) [] []),(8,.int .i64 a),(9,.int .i64 (0:Int)),(12,.int .i64 v12)]):List AV),([.rows true 4 h0]:AH))
abbrev qdZ(nn:Nat)(a v12 v13:Int)(h0:Rz):Option (AV×List (List AV)):=qyF (((fx 178 [(0,.ms 0 0 nn),(1,.int .i64 a),(4,.fn (Fn.func 29) [] []),(12,.int .i64 v12),(13,.int .i64 v13)]):List AV),([.rows true 4 h0]:AH))
abbrev qhk(nn:Nat)(a v12 v11:Int)(h0:Rz):Option (AV×List (List AV)):=qyI (((fx 90 [(0,.ms 0 0 nn),(1,.int .i64 a),(4,.fn (Fn.func 29) [] []),(11,.int .i64 v11),(12,.int .i64 v12)]):List AV),([.rows true 4 h0]:AH))
abbrev qhm(nn:Nat)(a b v10 v9:Int)(h0:Rz):Option (AV×List (List AV)):=qyM (((fx 141 [(0,.ms 0 0 nn),(1,.int .i64 a),(2,.int .i64 b),(3,.fn (Fn.func 29) [] []),(9,.int .i64 v9),(10,.int .i64 v10)]):List AV),([.rows true 4 h0]:AH))
abbrev qdY(nn:Nat)(a v12 v13:Int)(h0:Rz):Option (AV×List (List AV)):=qyE (((fx 178 [(0,.ms 0 0 nn),(1,.int .i64 a),(4,.fn (Fn.func 29) [] []),(12,.int .i64 v12),(13,.int .i64 v13)]):List AV),([.rows true 4 h0]:AH))
abbrev qbl(nn:Nat)(a v11 v12:Int)(h0:Rz):Option (AV×List (List AV)):=qyH (((fx 90 [(0,.ms 0 0 nn),(1,.int .i64 a),(4,.fn (Fn.func 29) [] []),(11,.int .i64 v11),(12,.int .i64 v12)]):List AV),([.rows true 4 h0]:AH))
abbrev qd0(nn:Nat)(a b v10 v9 v11:Int)(h0:Rz):Option (AV×List (List AV)):=qyL (((fx 141 [(0,.ms 0 0 nn),(1,.int .i64 a),(2,.int .i64 b),(3,.fn (Fn.func 29) [] []),(9,.int .i64 v9),(10,.int .i64 v10),(11,.int .i64 v11)]):List AV),([.rows true 4 h0]:AH))
abbrev qaH(nn:Nat)(a b v10 v9 v12:Int)(h0:Rz):Option (AV×List (List AV)):=qyK (((fx 141 [(0,.ms 0 0 nn),(1,.int .i64 a),(2,.int .i64 b),(3,.fn (Fn.func 29) [] []),(9,.int .i64 v9),(10,.int .i64 v10),(12,.int .i64 v12)]):List AV),([.rows true 4 h0]:AH))
abbrev qhi(nn:Nat)(a v13 v12:Int)(h0:Rz):Option (AV×List (List AV)):=qyD (((fx 178 [(0,.ms 0 0 nn),(1,.int .i64 a),(4,.fn (Fn.func 29) [] []),(12,.int .i64 v12),(13,.int .i64 v13)]):List AV),([.rows true 4 h0]:AH))
abbrev qbk(nn:Nat)(a v12 v13:Int)(h0:Rz):Option (AV×List (List AV)):=qyC (((fx 178 [(0,.ms 0 0 nn),(1,.int .i64 a),(4,.fn (Fn.func 29) [] []),(12,.int .i64 v12),(13,.int .i64 v13)]):List AV),([.rows true 4 h0]:AH))
theorem qwA(rows:Rz)(nn:Nat)(a b:Int){P:MV×List (List AV)->Prop}(h:Gets (qct nn a b (qBZ .i64 (a+1)) rows) P):Gets (EVm (EV cfg) 88 [.ms 0 0 nn,.int .i64 a,.int .i64 b,.fn (Fn.func 29) [] []] 4 rows) P:=
  gE (λ_=>funM rfl rfl Tryz.func88 rfl) (by kernel_rfl) h
theorem qtR(rows:Rz)(nn:Nat)(lo hi fst:Int){P:MV×List (List AV)->Prop}(h:Gets (qaC nn hi fst lo rows) P):Gets (EVm (EV cfg) 122 [.ms 0 0 nn,.int .i64 lo,.int .i64 hi,.int .i64 fst,.fn (Fn.func 29) [] []] 4 rows) P:=
  gE (λ_=>funM rfl rfl Tryz.func122 rfl) (by kernel_rfl) h
theorem quN(rows:Rz)(nn:Nat)(a b:Int){P:MV×List (List AV)->Prop}(h:Gets (kOpt (qn (Op.intDiv BinOp.quo .i64 (qBZ .i64 (qBZ .i64 (b - a) - 1)) 2)) λv=>kInt .i64 v λn=>qhp nn a b n rows) P):Gets (EVm (EV cfg) 89 [.ms 0 0 nn,.int .i64 a,.int .i64 b,.fn (Fn.func 29) [] []] 4 rows) P:=
  gE (λ_=>funM rfl rfl Tryz.func89 rfl) (by kernel_rfl) h
theorem qv3(rows:Rz)(nn:Nat)(a b:Int){P:MV×List (List AV)->Prop}(h:Gets (qhn nn a (qBZ .i64 (b - 1)) rows) P):Gets (EVm (EV cfg) 92 [.ms 0 0 nn,.int .i64 a,.int .i64 b,.fn (Fn.func 29) [] []] 4 rows) P:=
  gE (λ_=>funM rfl rfl Tryz.func92 rfl) (by kernel_rfl) h
theorem qt7(rows:Rz)(nn:Nat)(a b p:Int){P:AV×List (List AV)->Prop}(h:Gets (bif qd 0 p&&qe p (↑ nn:Int)then kOpt (qB0 rows (0+p.toNat)) λrow=>bif qB4 4 (qB1 row)then kTmC (qB8 4 row) λn n_1 s rows_1=>(bif qd 0 a&&qe a (↑ nn:Int)then kOpt (qB0 rows (0+a.toNat)) λrow=>bif qB4 4 (qB1 row)then kTmC (qB8 4 row) λn_2 n_3 s_1 rows_2=>(bif qd 0 a&&qe a (↑ nn:Int)then kOpt (qB0 rows (0+a.toNat)) λrow=>bif qB4 4 (qB1 row)then bif qd 0 p&&qe p (↑ nn:Int)then kOpt (qB0 (qCA rows (0+a.toNat) (.int .i64 n:: .int .i64 n_1:: .str s:: .sl rows_1::qCk 4 row)) (0+p.toNat)) λrow_1=>bif qB4 4 (qB1 row_1)then qhj nn a b (qBZ .i64 (a+1)) (qCA (qCA rows (0+a.toNat) (.int .i64 n:: .int .i64 n_1:: .str s:: .sl rows_1::qCk 4 row)) (0+qB7 p) (.int .i64 n_2:: .int .i64 n_3:: .str s_1:: .sl rows_2::qCk 4 row_1))else none else none else none else none)else none else none)else none else none) P):Gets (EVd (EV cfg) 95 [.ms 0 0 nn,.int .i64 a,.int .i64 b,.int .i64 p,.fn (Fn.func 29) [] []] 4 rows) P:=
  gE (λ_=>funD rfl rfl Tryz.func95 rfl) (by kernel_rfl) h
theorem qt8(rows:Rz)(nn:Nat)(a b p:Int){P:AV×List (List AV)->Prop}(h:Gets (bif qd 0 p&&qe p (↑ nn:Int)then kOpt (qB0 rows (0+p.toNat)) λrow=>bif qB4 4 (qB1 row)then kTmC (qB8 4 row) λn n_1 s rows_1=>(bif qd 0 a&&qe a (↑ nn:Int)then kOpt (qB0 rows (0+a.toNat)) λrow=>bif qB4 4 (qB1 row)then kTmC (qB8 4 row) λn_2 n_3 s_1 rows_2=>(bif qd 0 a&&qe a (↑ nn:Int)then kOpt (qB0 rows (0+a.toNat)) λrow=>bif qB4 4 (qB1 row)then bif qd 0 p&&qe p (↑ nn:Int)then kOpt (qB0 (qCA rows (0+a.toNat) (.int .i64 n:: .int .i64 n_1:: .str s:: .sl rows_1::qCk 4 row)) (0+p.toNat)) λrow_1=>bif qB4 4 (qB1 row_1)then qhl nn a (qBZ .i64 (a+1)) (qBZ .i64 (b - 1)) (qCA (qCA rows (0+a.toNat) (.int .i64 n:: .int .i64 n_1:: .str s:: .sl rows_1::qCk 4 row)) (0+p.toNat) (.int .i64 n_2:: .int .i64 n_3:: .str s_1:: .sl rows_2::qCk 4 row_1))else none else none else none else none)else none else none)else none else none) P):Gets (EVd (EV cfg) 94 [.ms 0 0 nn,.int .i64 a,.int .i64 b,.int .i64 p,.fn (Fn.func 29) [] []] 4 rows) P:=
  gE (λ_=>funD rfl rfl Tryz.func94 rfl) (by kernel_rfl) h
theorem qt4(rows:Rz)(nn:Nat)(a b:Int){P:AV×List (List AV)->Prop}(h:Gets (yo nn a b (qBZ .i64 (a+1)) 0 rows) P):Gets (EVd (EV cfg) 93 [.ms 0 0 nn,.int .i64 a,.int .i64 b,.fn (Fn.func 29) [] []] 4 rows) P:=
  gE (λ_=>funD rfl rfl Tryz.func93 rfl) (by kernel_rfl) h
theorem qf8(nn:Nat)(a b v8:Int)(h0:Rz){P:MV×List (List AV)->Prop}(h:Gets (bif decide (v8<b)then qhq nn a b v8 v8 h0 else some (MV.unit,h0)) P):Gets (qct nn a b v8 h0) P:=
  gE (λ_=>ql (cfg:=cfg) (f:=88) (rd:=none) (bs:=1)) (by kernel_rfl) h
theorem qfp(nn:Nat)(hi fst v10:Int)(h0:Rz){P:MV×List (List AV)->Prop}(h:Gets (bif decide (qBZ .i64 (qBZ .i64 (2*v10)+1)≥hi)then some (MV.unit,h0)else bif decide (qBZ .i64 (qBZ .i64 (qBZ .i64 (2*v10)+1)+1)<hi)then bif qd 0 (qBZ .i64 (fst+qBZ .i64 (qBZ .i64 (2*v10)+1)))&&qe (qBZ .i64 (fst+qBZ .i64 (qBZ .i64 (2*v10)+1))) (↑ nn:Int)then kOpt (qB0 h0 (0+qB7 (qBZ .i64 (fst+qBZ .i64 (qBZ .i64 (2*v10)+1))))) λrow=>bif qB4 4 (qB1 row)then kTmC (qB8 4 row) λn n_1 s rows=>(bif qd 0 (qBZ .i64 (qBZ .i64 (fst+qBZ .i64 (qBZ .i64 (2*v10)+1))+1))&&qe (qBZ .i64 (qBZ .i64 (fst+qBZ .i64 (qBZ .i64 (2*v10)+1))+1)) (↑ nn:Int)then kOpt (qB0 h0 (0+qB7 (qBZ .i64 (qBZ .i64 (fst+qBZ .i64 (qBZ .i64 (2*v10)+1))+1)))) λrow=>bif qB4 4 (qB1 row)then kTmC (qB8 4 row) λn_2 n_3 s_1 rows_1=>(kOpt (EVs (EV cfg) 29 [.agg [.int .i64 n,.int .i64 n_1,.str s,.sl rows],.agg [.int .i64 n_2,.int .i64 n_3,.str s_1,.sl rows_1]]) λv=>kInt .i64 v λn=>bif decide (n<0)then bif qd 0 (qBZ .i64 (fst+v10))&&qe (qBZ .i64 (fst+v10)) (↑ nn:Int)then kOpt (qB0 h0 (0+qB7 (qBZ .i64 (fst+v10)))) λrow=>bif qB4 4 (qB1 row)then kTmC (qB8 4 row) λn n_4 s rows=>(bif qd 0 (qBZ .i64 (fst+qBZ .i64 (qBZ .i64 (qBZ .i64 (2*v10)+1)+1)))&&qe (qBZ .i64 (fst+qBZ .i64 (qBZ .i64 (qBZ .i64 (2*v10)+1)+1))) (↑ nn:Int)then kOpt (qB0 h0 (0+qB7 (qBZ .i64 (fst+qBZ .i64 (qBZ .i64 (qBZ .i64 (2*v10)+1)+1))))) λrow=>bif qB4 4 (qB1 row)then kTmC (qB8 4 row) λn_5 n_6 s_2 rows_2=>(kOpt (EVs (EV cfg) 29 [.agg [.int .i64 n,.int .i64 n_4,.str s,.sl rows],.agg [.int .i64 n_5,.int .i64 n_6,.str s_2,.sl rows_2]]) λv=>kInt .i64 v λn=>bif ! decide (n<0)then some (MV.unit,h0)else bif qd 0 (qBZ .i64 (fst+qBZ .i64 (qBZ .i64 (qBZ .i64 (2*v10)+1)+1)))&&qe (qBZ .i64 (fst+qBZ .i64 (qBZ .i64 (qBZ .i64 (2*v10)+1)+1))) (↑ nn:Int)then kOpt (qB0 h0 (0+qB7 (qBZ .i64 (fst+qBZ .i64 (qBZ .i64 (qBZ .i64 (2*v10)+1)+1))))) λrow=>bif qB4 4 (qB1 row)then kTmC (qB8 4 row) λn n_7 s rows=>(bif qd 0 (qBZ .i64 (fst+v10))&&qe (qBZ .i64 (fst+v10)) (↑ nn:Int)then kOpt (qB0 h0 (0+qB7 (qBZ .i64 (fst+v10)))) λrow=>bif qB4 4 (qB1 row)then kTmC (qB8 4 row) λn_8 n_9 s_3 rows_3=>(bif qd 0 (qBZ .i64 (fst+v10))&&qe (qBZ .i64 (fst+v10)) (↑ nn:Int)then kOpt (qB0 h0 (0+qB7 (qBZ .i64 (fst+v10)))) λrow=>bif qB4 4 (qB1 row)then bif qd 0 (qBZ .i64 (fst+qBZ .i64 (qBZ .i64 (qBZ .i64 (2*v10)+1)+1)))&&qe (qBZ .i64 (fst+qBZ .i64 (qBZ .i64 (qBZ .i64 (2*v10)+1)+1))) (↑ nn:Int)then kOpt (qB0 (qCA h0 (0+qB7 (qBZ .i64 (fst+v10))) (.int .i64 n:: .int .i64 n_7:: .str s:: .sl rows::qCk 4 row)) (0+qB7 (qBZ .i64 (fst+qBZ .i64 (qBZ .i64 (qBZ .i64 (2*v10)+1)+1))))) λrow_1=>bif qB4 4 (qB1 row_1)then qaC nn hi fst (qBZ .i64 (qBZ .i64 (qBZ .i64 (2*v10)+1)+1)) (qCA (qCA h0 (0+qB7 (qBZ .i64 (fst+v10))) (.int .i64 n:: .int .i64 n_7:: .str s:: .sl rows::qCk 4 row)) (0+qB7 (qBZ .i64 (fst+qBZ .i64 (qBZ .i64 (qBZ .i64 (2*v10)+1)+1)))) (.int .i64 n_8:: .int .i64 n_9:: .str s_3:: .sl rows_3::qCk 4 row_1))else none else none else none else none)else none else none)else none else none)else none else none)else none else none else bif qd 0 (qBZ .i64 (fst+v10))&&qe (qBZ .i64 (fst+v10)) (↑ nn:Int)then kOpt (qB0 h0 (0+qB7 (qBZ .i64 (fst+v10)))) λrow=>bif qB4 4 (qB1 row)then kTmC (qB8 4 row) λn n_4 s rows=>(bif qd 0 (qBZ .i64 (fst+qBZ .i64 (qBZ .i64 (2*v10)+1)))&&qe (qBZ .i64 (fst+qBZ .i64 (qBZ .i64 (2*v10)+1))) (↑ nn:Int)then kOpt (qB0 h0 (0+qB7 (qBZ .i64 (fst+qBZ .i64 (qBZ .i64 (2*v10)+1))))) λrow=>bif qB4 4 (qB1 row)then kTmC (qB8 4 row) λn_5 n_6 s_2 rows_2=>(kOpt (EVs (EV cfg) 29 [.agg [.int .i64 n,.int .i64 n_4,.str s,.sl rows],.agg [.int .i64 n_5,.int .i64 n_6,.str s_2,.sl rows_2]]) λv=>kInt .i64 v λn=>bif ! decide (n<0)then some (MV.unit,h0)else bif qd 0 (qBZ .i64 (fst+qBZ .i64 (qBZ .i64 (2*v10)+1)))&&qe (qBZ .i64 (fst+qBZ .i64 (qBZ .i64 ((2:Int)*v10)+1))) (↑ nn:Int)then kOpt (qB0 h0 (0+qB7 (qBZ .i64 (fst+qBZ .i64 (qBZ .i64 (2*v10)+1))))) λrow=>bif qB4 4 (qB1 row)then kTmC (qB8 4 row) λn n_7 s rows=>(bif qd 0 (qBZ .i64 (fst+v10))&&qe (qBZ .i64 (fst+v10)) (↑ nn:Int)then kOpt (qB0 h0 (0+qB7 (qBZ .i64 (fst+v10)))) λrow=>bif qB4 4 (qB1 row)then kTmC (qB8 4 row) λn_8 n_9 s_3 rows_3=>(bif qd 0 (qBZ .i64 (fst+v10))&&qe (qBZ .i64 (fst+v10)) (↑ nn:Int)then kOpt (qB0 h0 (0+qB7 (qBZ .i64 (fst+v10)))) λrow=>bif qB4 4 (qB1 row)then bif qd 0 (qBZ .i64 (fst+qBZ .i64 (qBZ .i64 (2*v10)+1)))&&qe (qBZ .i64 (fst+qBZ .i64 (qBZ .i64 (2*v10)+1))) (↑ nn:Int)then kOpt (qB0 (qCA h0 (0+qB7 (qBZ .i64 (fst+v10))) (.int .i64 n:: .int .i64 n_7:: .str s:: .sl rows::qCk 4 row)) (0+qB7 (qBZ .i64 (fst+qBZ .i64 (qBZ .i64 (2*v10)+1))))) λrow_1=>bif qB4 4 (qB1 row_1)then qaC nn hi fst (qBZ .i64 (qBZ .i64 (2*v10)+1)) (qCA (qCA h0 (0+qB7 (qBZ .i64 (fst+v10))) (.int .i64 n:: .int .i64 n_7:: .str s:: .sl rows::qCk 4 row)) (0+qB7 (qBZ .i64 (fst+qBZ .i64 (qBZ .i64 (2*v10)+1)))) (.int .i64 n_8:: .int .i64 n_9:: .str s_3:: .sl rows_3::qCk 4 row_1))else none else none else none else none)else none else none)else none else none)else none else none)else none else none)else none else none)else none else none else bif qd 0 (qBZ .i64 (fst+v10))&&qe (qBZ .i64 (fst+v10)) (↑ nn:Int)then kOpt (qB0 h0 (0+qB7 (qBZ .i64 (fst+v10)))) λrow=>bif qB4 4 (qB1 row)then kTmC (qB8 4 row) λn n_1 s rows=>(bif qd 0 (qBZ .i64 (fst+qBZ .i64 (qBZ .i64 (2*v10)+1)))&&qe (qBZ .i64 (fst+qBZ .i64 (qBZ .i64 (2*v10)+1))) (↑ nn:Int)then kOpt (qB0 h0 (0+qB7 (qBZ .i64 (fst+qBZ .i64 (qBZ .i64 (2*v10)+1))))) λrow=>bif qB4 4 (qB1 row)then kTmC (qB8 4 row) λn_2 n_3 s_1 rows_1=>(kOpt (EVs (EV cfg) 29 [.agg [.int .i64 n,.int .i64 n_1,.str s,.sl rows],.agg [.int .i64 n_2,.int .i64 n_3,.str s_1,.sl rows_1]]) λv=>kInt .i64 v λn=>bif ! decide (n<0)then some (MV.unit,h0)else bif qd 0 (qBZ .i64 (fst+qBZ .i64 (qBZ .i64 (2*v10)+1)))&&qe (qBZ .i64 (fst+qBZ .i64 (qBZ .i64 (2*v10)+1))) (↑ nn:Int)then kOpt (qB0 h0 (0+qB7 (qBZ .i64 (fst+qBZ .i64 (qBZ .i64 (2*v10)+1))))) λrow=>bif qB4 4 (qB1 row)then kTmC (qB8 4 row) λn n_4 s rows=>(bif qd 0 (qBZ .i64 (fst+v10))&&qe (qBZ .i64 (fst+v10)) (↑ nn:Int)then kOpt (qB0 h0 (0+qB7 (qBZ .i64 (fst+v10)))) λrow=>bif qB4 4 (qB1 row)then kTmC (qB8 4 row) λn_5 n_6 s_2 rows_2=>(bif qd 0 (qBZ .i64 (fst+v10))&&qe (qBZ .i64 (fst+v10)) (↑ nn:Int)then kOpt (qB0 h0 (0+qB7 (qBZ .i64 (fst+v10)))) λrow=>bif qB4 4 (qB1 row)then bif qd 0 (qBZ .i64 (fst+qBZ .i64 (qBZ .i64 (2*v10)+1)))&&qe (qBZ .i64 (fst+qBZ .i64 (qBZ .i64 (2*v10)+1))) (↑ nn:Int)then kOpt (qB0 (qCA h0 (0+qB7 (qBZ .i64 (fst+v10))) (.int .i64 n:: .int .i64 n_4:: .str s:: .sl rows::qCk 4 row)) (0+qB7 (qBZ .i64 (fst+qBZ .i64 (qBZ .i64 (2*v10)+1))))) λrow_1=>bif qB4 4 (qB1 row_1)then qaC nn hi fst (qBZ .i64 (qBZ .i64 (2*v10)+1)) (qCA (qCA h0 (0+qB7 (qBZ .i64 (fst+v10))) (.int .i64 n:: .int .i64 n_4:: .str s:: .sl rows::qCk 4 row)) (0+qB7 (qBZ .i64 (fst+qBZ .i64 (qBZ .i64 (2*v10)+1)))) (.int .i64 n_5:: .int .i64 n_6:: .str s_2:: .sl rows_2::qCk 4 row_1))else none else none else none else none)else none else none)else none else none)else none else none)else none else none) P):Gets (qaC nn hi fst v10 h0) P:=
  gE (λ_=>ql (cfg:=cfg) (f:=122) (rd:=none) (bs:=1)) (by kernel_rfl) h
theorem qf6(nn:Nat)(a b v11:Int)(h0:Rz){P:MV×List (List AV)->Prop}(h:Gets (bif decide (v11≥0)then kOpt (EVm (EV cfg) 122 [.ms 0 0 nn,.int .i64 v11,.int .i64 (qBZ .i64 (b - a)),.int .i64 a,AV.fn (Fn.func 29) [] []] 4 h0) λq=>qx q.1 (qhp nn a b (qBZ .i64 (v11 - 1)) q.2)else qho nn a (qBZ .i64 (qBZ .i64 (b - a) - 1)) h0) P):Gets (qhp nn a b v11 h0) P:=
  gE (λ_=>ql (cfg:=cfg) (f:=89) (rd:=none) (bs:=1)) (by kernel_rfl) h
theorem qf4(nn:Nat)(v8 v9:Int)(h0:Rz){P:MV×List (List AV)->Prop}(h:Gets (bif decide (v8<v9)then bif qd 0 v9&&qe v9 (↑ nn:Int)then kOpt (qB0 h0 (0+v9.toNat)) λrow=>bif qB4 4 (qB1 row)then kTmC (qB8 4 row) λn n_1 s rows=>(bif qd 0 v8&&qe v8 (↑ nn:Int)then kOpt (qB0 h0 (0+v8.toNat)) λrow=>bif qB4 4 (qB1 row)then kTmC (qB8 4 row) λn_2 n_3 s_1 rows_1=>(bif qd 0 v8&&qe v8 (↑ nn:Int)then kOpt (qB0 h0 (0+v8.toNat)) λrow=>bif qB4 4 (qB1 row)then bif qd 0 v9&&qe v9 (↑ nn:Int)then kOpt (qB0 (qCA h0 (0+v8.toNat) (.int .i64 n:: .int .i64 n_1:: .str s:: .sl rows::qCk 4 row)) (0+v9.toNat)) λrow_1=>bif qB4 4 (qB1 row_1)then qhn nn (qBZ .i64 (v8+1)) (qBZ .i64 (v9 - 1)) (qCA (qCA h0 (0+v8.toNat) (.int .i64 n:: .int .i64 n_1:: .str s:: .sl rows::qCk 4 row)) (0+v9.toNat) (.int .i64 n_2:: .int .i64 n_3:: .str s_1:: .sl rows_1::qCk 4 row_1))else none else none else none else none)else none else none)else none else none else some (MV.unit,h0)) P):Gets (qhn nn v8 v9 h0) P:=
  gE (λ_=>ql (cfg:=cfg) (f:=92) (rd:=none) (bs:=1)) (by kernel_rfl) h
theorem qfW(nn:Nat)(a b v12:Int)(h0:Rz){P:AV×List (List AV)->Prop}(h:Gets (bif decide (v12<=qBZ .i64 (b - 1))then bif qd 0 v12&&qe v12 (↑ nn:Int)then kOpt (qB0 h0 (0+v12.toNat)) λrow=>bif qB4 4 (qB1 row)then kTmC (qB8 4 row) λn n_1 s rows=>(bif qd 0 a&&qe a (↑ nn:Int)then kOpt (qB0 h0 (0+a.toNat)) λrow=>bif qB4 4 (qB1 row)then kTmC (qB8 4 row) λn_2 n_3 s_1 rows_1=>(kOpt (EVs (EV cfg) 29 [.agg [.int .i64 n,.int .i64 n_1,.str s,.sl rows],.agg [.int .i64 n_2,.int .i64 n_3,.str s_1,.sl rows_1]]) λv=>kInt .i64 v λn=>bif decide (n<0)then qhj nn a b (qBZ .i64 (v12+1)) h0 else qdZ nn a v12 (qBZ .i64 (b - 1)) h0)else none else none)else none else none else qdZ nn a v12 (qBZ .i64 (b - 1)) h0) P):Gets (qhj nn a b v12 h0) P:=
  gE (λ_=>ql (cfg:=cfg) (f:=95) (rd:=none) (bs:=1)) (by kernel_rfl) h
theorem qfZ(nn:Nat)(a v11 v12:Int)(h0:Rz){P:AV×List (List AV)->Prop}(h:Gets (qhk nn a v12 v11 h0) P):Gets (qhl nn a v11 v12 h0) P:=
  gE (λ_=>ql (cfg:=cfg) (f:=94) (rd:=none) (bs:=1)) (by kernel_rfl) h
theorem qf3(nn:Nat)(a b v9 v10:Int)(h0:Rz){P:AV×List (List AV)->Prop}(h:Gets (bif decide (v10<5)then qhm nn a b v10 v9 h0 else some (.bool false,h0)) P):Gets (yo nn a b v9 v10 h0) P:=
  gE (λ_=>ql (cfg:=cfg) (f:=93) (rd:=none) (bs:=1)) (by kernel_rfl) h
theorem qf7(nn:Nat)(a b v8 v9:Int)(h0:Rz){P:MV×List (List AV)->Prop}(h:Gets (bif decide (v9>a)then bif qd 0 v9&&qe v9 (↑ nn:Int)then kOpt (qB0 h0 (0+v9.toNat)) λrow=>bif qB4 4 (qB1 row)then kTmC (qB8 4 row) λn n_1 s rows=>(bif qd 0 (qBZ .i64 (v9 - 1))&&qe (qBZ .i64 (v9 - (1:Int))) (↑ nn:Int)then kOpt (qB0 h0 (0+qB7 (qBZ .i64 (v9 - 1)))) λrow=>bif qB4 4 (qB1 row)then kTmC (qB8 4 row) λn_2 n_3 s_1 rows_1=>(kOpt (EVs (EV cfg) 29 [.agg [.int .i64 n,.int .i64 n_1,.str s,.sl rows],.agg [.int .i64 n_2,.int .i64 n_3,.str s_1,.sl rows_1]]) λv=>kInt .i64 v λn=>bif decide (n<0)then bif qd 0 (qBZ .i64 (v9 - 1))&&qe (qBZ .i64 (v9 - 1)) (↑ nn:Int)then kOpt (qB0 h0 (0+qB7 (qBZ .i64 (v9 - 1)))) λrow=>bif qB4 4 (qB1 row)then kTmC (qB8 4 row) λn n_4 s rows=>(bif qd 0 v9&&qe v9 (↑ nn:Int)then kOpt (qB0 h0 (0+v9.toNat)) λrow=>bif qB4 4 (qB1 row)then kTmC (qB8 4 row) λn_5 n_6 s_2 rows_2=>(bif qd 0 v9&&qe v9 (↑ nn:Int)then kOpt (qB0 h0 (0+v9.toNat)) λrow=>bif qB4 4 (qB1 row)then bif qd 0 (qBZ .i64 (v9 - 1))&&qe (qBZ .i64 (v9 - 1)) (↑ nn:Int)then kOpt (qB0 (qCA h0 (0+v9.toNat) (.int .i64 n:: .int .i64 n_4:: .str s:: .sl rows::qCk 4 row)) (0+qB7 (qBZ .i64 (v9 - 1)))) λrow_1=>bif qB4 4 (qB1 row_1)then qhq nn a b v8 (qBZ .i64 (v9 - 1)) (qCA (qCA h0 (0+v9.toNat) (.int .i64 n:: .int .i64 n_4:: .str s:: .sl rows::qCk 4 row)) (0+qB7 (qBZ .i64 (v9 - 1))) (.int .i64 n_5:: .int .i64 n_6:: .str s_2:: .sl rows_2::qCk 4 row_1))else none else none else none else none)else none else none)else none else none else qct nn a b (qBZ .i64 (v8+1)) h0)else none else none)else none else none else qct nn a b (qBZ .i64 (v8+1)) h0) P):Gets (qhq nn a b v8 v9 h0) P:=
  gE (λ_=>ql (cfg:=cfg) (f:=88) (rd:=none) (bs:=1)) (by kernel_rfl) h
theorem qf5(nn:Nat)(a v12:Int)(h0:Rz){P:MV×List (List AV)->Prop}(h:Gets (bif decide (v12≥0)then bif qd 0 (qBZ .i64 (a+v12))&&qe (qBZ .i64 (a+v12)) (↑ nn:Int)then kOpt (qB0 h0 (0+qB7 (qBZ .i64 (a+v12)))) λrow=>bif qB4 4 (qB1 row)then kTmC (qB8 4 row) λn n_1 s rows=>(bif qd 0 a&&qe a (↑ nn:Int)then kOpt (qB0 h0 (0+a.toNat)) λrow=>bif qB4 4 (qB1 row)then kTmC (qB8 4 row) λn_2 n_3 s_1 rows_1=>(bif qd 0 a&&qe a (↑ nn:Int)then kOpt (qB0 h0 (0+a.toNat)) λrow=>bif qB4 4 (qB1 row)then bif qd 0 (qBZ .i64 (a+v12))&&qe (qBZ .i64 (a+v12)) (↑ nn:Int)then kOpt (qB0 (qCA h0 (0+a.toNat) (.int .i64 n:: .int .i64 n_1:: .str s:: .sl rows::qCk 4 row)) (0+qB7 (qBZ .i64 (a+v12)))) λrow_1=>bif qB4 4 (qB1 row_1)then kOpt (EVm (EV cfg) 122 [.ms 0 0 nn,.int .i64 0,.int .i64 v12,.int .i64 a,AV.fn (Fn.func 29) [] []] 4 (qCA (qCA h0 (0+a.toNat) (.int .i64 n:: .int .i64 n_1:: .str s:: .sl rows::qCk 4 row)) (0+qB7 (qBZ .i64 (a+v12))) (.int .i64 n_2:: .int .i64 n_3:: .str s_1:: .sl rows_1::qCk 4 row_1))) λq=>qx q.1 (qho nn a (qBZ .i64 (v12 - 1)) q.2)else none else none else none else none)else none else none)else none else none else some (MV.unit,h0)) P):Gets (qho nn a v12 h0) P:=
  gE (λ_=>ql (cfg:=cfg) (f:=89) (rd:=none) (bs:=1)) (by kernel_rfl) h
theorem qfV(nn:Nat)(a v12 v13:Int)(h0:Rz){P:AV×List (List AV)->Prop}(h:Gets (bif decide (v12<=v13)then bif qd 0 v13&&qe v13 (↑ nn:Int)then kOpt (qB0 h0 (0+v13.toNat)) λrow=>bif qB4 4 (qB1 row)then kTmC (qB8 4 row) λn n_1 s rows=>(bif qd 0 a&&qe a (↑ nn:Int)then kOpt (qB0 h0 (0+qB7 a)) λrow=>bif qB4 4 (qB1 row)then kTmC (qB8 4 row) λn_2 n_3 s_1 rows_1=>(kOpt (EVs (EV cfg) 29 [.agg [.int .i64 n,.int .i64 n_1,.str s,.sl rows],.agg [.int .i64 n_2,.int .i64 n_3,.str s_1,.sl rows_1]]) λv=>kInt .i64 v λn=>bif ! decide (n<0)then qdZ nn a v12 (qBZ .i64 (v13 - 1)) h0 else bif decide (v12>v13)then bif qd 0 a&&qe a (↑ nn:Int)then kOpt (qB0 h0 (0+qB7 a)) λrow=>bif qB4 4 (qB1 row)then kTmC (qB8 4 row) λn n_4 s rows=>(bif qd 0 v13&&qe v13 (↑ nn:Int)then kOpt (qB0 h0 (0+v13.toNat)) λrow=>bif qB4 4 (qB1 row)then kTmC (qB8 4 row) λn_5 n_6 s_2 rows_2=>(bif qd 0 v13&&qe v13 (↑ nn:Int)then kOpt (qB0 h0 (0+v13.toNat)) λrow=>bif qB4 4 (qB1 row)then bif qd 0 a&&qe a (↑ nn:Int)then kOpt (qB0 (qCA h0 (0+v13.toNat) (.int .i64 n:: .int .i64 n_4:: .str s:: .sl rows::qCk 4 row)) (0+a.toNat)) λrow_1=>bif qB4 4 (qB1 row_1)then some (AV.tup [AV.int .i64 v13,.bool true],qCA (qCA h0 (0+v13.toNat) (.int .i64 n:: .int .i64 n_4:: .str s:: .sl rows::qCk 4 row)) (0+a.toNat) (.int .i64 n_5:: .int .i64 n_6:: .str s_2:: .sl rows_2::qCk 4 row_1))else none else none else none else none)else none else none)else none else none else bif qd 0 v13&&qe v13 (↑ nn:Int)then kOpt (qB0 h0 (0+v13.toNat)) λrow=>bif qB4 4 (qB1 row)then kTmC (qB8 4 row) λn n_4 s rows=>(bif qd 0 v12&&qe v12 (↑ nn:Int)then kOpt (qB0 h0 (0+v12.toNat)) λrow=>bif qB4 4 (qB1 row)then kTmC (qB8 4 row) λn_5 n_6 s_2 rows_2=>(bif qd 0 v12&&qe v12 (↑ nn:Int)then kOpt (qB0 h0 (0+v12.toNat)) λrow=>bif qB4 4 (qB1 row)then bif qd 0 v13&&qe v13 (↑ nn:Int)then kOpt (qB0 (qCA h0 (0+v12.toNat) (.int .i64 n:: .int .i64 n_4:: .str s:: .sl rows::qCk 4 row)) (0+v13.toNat)) λrow_1=>bif qB4 4 (qB1 row_1)then qdY nn a (qBZ .i64 (v12+1)) (qBZ .i64 (v13 - 1)) (qCA (qCA h0 (0+v12.toNat) (.int .i64 n:: .int .i64 n_4:: .str s:: .sl rows::qCk 4 row)) (0+v13.toNat) (.int .i64 n_5:: .int .i64 n_6:: .str s_2:: .sl rows_2::qCk 4 row_1))else none else none else none else none)else none else none)else none else none)else none else none)else none else none else bif decide (v12>v13)then bif qd 0 a&&qe a (↑ nn:Int)then kOpt (qB0 h0 (0+a.toNat)) λrow=>bif qB4 4 (qB1 row)then kTmC (qB8 4 row) λn n_1 s rows=>(bif qd 0 v13&&qe v13 (↑ nn:Int)then kOpt (qB0 h0 (0+v13.toNat)) λrow=>bif qB4 4 (qB1 row)then kTmC (qB8 4 row) λn_2 n_3 s_1 rows_1=>(bif qd 0 v13&&qe v13 (↑ nn:Int)then kOpt (qB0 h0 (0+v13.toNat)) λrow=>bif qB4 4 (qB1 row)then bif qd 0 a&&qe a (↑ nn:Int)then kOpt (qB0 (qCA h0 (0+v13.toNat) (.int .i64 n:: .int .i64 n_1:: .str s:: .sl rows::qCk 4 row)) (0+a.toNat)) λrow_1=>bif qB4 4 (qB1 row_1)then some (AV.tup [AV.int .i64 v13,.bool true],qCA (qCA h0 (0+v13.toNat) (.int .i64 n:: .int .i64 n_1:: .str s:: .sl rows::qCk 4 row)) (0+a.toNat) (.int .i64 n_2:: .int .i64 n_3:: .str s_1:: .sl rows_1::qCk 4 row_1))else none else none else none else none)else none else none)else none else none else bif qd 0 v13&&qe v13 (↑ nn:Int)then kOpt (qB0 h0 (0+v13.toNat)) λrow=>bif qB4 4 (qB1 row)then kTmC (qB8 4 row) λn n_1 s rows=>(bif qd 0 v12&&qe v12 (↑ nn:Int)then kOpt (qB0 h0 (0+v12.toNat)) λrow=>bif qB4 4 (qB1 row)then kTmC (qB8 4 row) λn_2 n_3 s_1 rows_1=>(bif qd 0 v12&&qe v12 (↑ nn:Int)then kOpt (qB0 h0 (0+v12.toNat)) λrow=>bif qB4 4 (qB1 row)then bif qd 0 v13&&qe v13 (↑ nn:Int)then kOpt (qB0 (qCA h0 (0+qB7 v12) (.int .i64 n:: .int .i64 n_1:: .str s:: .sl rows::qCk 4 row)) (0+v13.toNat)) λrow_1=>bif qB4 4 (qB1 row_1)then qdY nn a (qBZ .i64 (v12+1)) (qBZ .i64 (v13 - 1)) (qCA (qCA h0 (0+v12.toNat) (.int .i64 n:: .int .i64 n_1:: .str s:: .sl rows::qCk 4 row)) (0+v13.toNat) (.int .i64 n_2:: .int .i64 n_3:: .str s_1:: .sl rows_1::qCk 4 row_1))else none else none else none else none)else none else none)else none else none) P):Gets (qdZ nn a v12 v13 h0) P:=
  gE (λ_=>ql (cfg:=cfg) (f:=95) (rd:=none) (bs:=1)) (by kernel_rfl) h
theorem qfY(nn:Nat)(a v12 v11:Int)(h0:Rz){P:AV×List (List AV)->Prop}(h:Gets (bif decide (v11<=v12)then bif qd 0 a&&qe a (↑ nn:Int)then kOpt (qB0 h0 (0+a.toNat)) λrow=>bif qB4 4 (qB1 row)then kTmC (qB8 4 row) λn n_1 s rows=>(bif qd 0 v11&&qe v11 (↑ nn:Int)then kOpt (qB0 h0 (0+qB7 v11)) λrow=>bif qB4 4 (qB1 row)then kTmC (qB8 4 row) λn_2 n_3 s_1 rows_1=>(kOpt (EVs (EV cfg) 29 [.agg [.int .i64 n,.int .i64 n_1,.str s,.sl rows],.agg [.int .i64 n_2,.int .i64 n_3,.str s_1,.sl rows_1]]) λv=>kInt .i64 v λn=>bif ! decide (n<0)then qhk nn a v12 (qBZ .i64 (v11+1)) h0 else qbl nn a v11 v12 h0)else none else none)else none else none else qbl nn a v11 v12 h0) P):Gets (qhk nn a v12 v11 h0) P:=
  gE (λ_=>ql (cfg:=cfg) (f:=94) (rd:=none) (bs:=1)) (by kernel_rfl) h
theorem qf2(nn:Nat)(a b v10 v9:Int)(h0:Rz){P:AV×List (List AV)->Prop}(h:Gets (bif decide (v9<b)then bif qd 0 v9&&qe v9 (↑ nn:Int)then kOpt (qB0 h0 (0+v9.toNat)) λrow=>bif qB4 4 (qB1 row)then kTmC (qB8 4 row) λn n_1 s rows=>(bif qd 0 (qBZ .i64 (v9 - 1))&&qe (qBZ .i64 (v9 - (1:Int))) (↑ nn:Int)then kOpt (qB0 h0 (0+qB7 (qBZ .i64 (v9 - 1)))) λrow=>bif qB4 4 (qB1 row)then kTmC (qB8 4 row) λn_2 n_3 s_1 rows_1=>(kOpt (EVs (EV cfg) 29 [.agg [.int .i64 n,.int .i64 n_1,.str s,.sl rows],.agg [.int .i64 n_2,.int .i64 n_3,.str s_1,.sl rows_1]]) λv=>kInt .i64 v λn=>bif ! decide (n<0)then qhm nn a b v10 (qBZ .i64 (v9+1)) h0 else bif v9==b then some (.bool true,h0)else bif decide (qBZ .i64 (b - a)<50)then some (.bool false,h0)else bif qd 0 (qBZ .i64 (v9 - 1))&&qe (qBZ .i64 (v9 - 1)) (↑ nn:Int)then kOpt (qB0 h0 (0+qB7 (qBZ .i64 (v9 - 1)))) λrow=>bif qB4 4 (qB1 row)then kTmC (qB8 4 row) λn n_4 s rows=>(bif qd 0 v9&&qe v9 (↑ nn:Int)then kOpt (qB0 h0 (0+qB7 v9)) λrow=>bif qB4 4 (qB1 row)then kTmC (qB8 4 row) λn_5 n_6 s_2 rows_2=>(bif qd 0 v9&&qe v9 (↑ nn:Int)then kOpt (qB0 h0 (0+v9.toNat)) λrow=>bif qB4 4 (qB1 row)then bif qd 0 (qBZ .i64 (v9 - (1:Int)))&&qe (qBZ .i64 (v9 - 1)) (↑ nn:Int)then kOpt (qB0 (qCA h0 (0+v9.toNat) (.int .i64 n:: .int .i64 n_4:: .str s:: .sl rows::qCk 4 row)) (0+qB7 (qBZ .i64 (v9 - 1)))) λrow_1=>bif qB4 4 (qB1 row_1)then bif decide (qBZ .i64 (v9 - a)≥(2:Int))then qd0 nn a b v10 v9 (qBZ .i64 (v9 - 1)) (qCA (qCA h0 (0+v9.toNat) (.int .i64 n:: .int .i64 n_4:: .str s:: .sl rows::qCk 4 row)) (0+qB7 (qBZ .i64 (v9 - 1))) (.int .i64 n_5:: .int .i64 n_6:: .str s_2:: .sl rows_2::qCk 4 row_1))else bif decide (qBZ .i64 (b - v9)≥(2:Int))then qaH nn a b v10 v9 (qBZ .i64 (v9+1)) (qCA (qCA h0 (0+v9.toNat) (.int .i64 n:: .int .i64 n_4:: .str s:: .sl rows::qCk 4 row)) (0+qB7 (qBZ .i64 (v9 - 1))) (.int .i64 n_5:: .int .i64 n_6:: .str s_2:: .sl rows_2::qCk 4 row_1))else yo nn a b v9 (qBZ .i64 (v10+1)) (qCA (qCA h0 (0+v9.toNat) (.int .i64 n:: .int .i64 n_4:: .str s:: .sl rows::qCk 4 row)) (0+qB7 (qBZ .i64 (v9 - 1))) (.int .i64 n_5:: .int .i64 n_6:: .str s_2:: .sl rows_2::qCk 4 row_1))else none else none else none else none)else none else none)else none else none)else none else none)else none else none else bif v9==b then some (.bool true,h0)else bif decide (qBZ .i64 (b - a)<50)then some (.bool false,h0)else bif qd 0 (qBZ .i64 (v9 - 1))&&qe (qBZ .i64 (v9 - 1)) (↑ nn:Int)then kOpt (qB0 h0 (0+qB7 (qBZ .i64 (v9 - 1)))) λrow=>bif qB4 4 (qB1 row)then kTmC (qB8 4 row) λn n_1 s rows=>(bif qd 0 v9&&qe v9 (↑ nn:Int)then kOpt (qB0 h0 (0+v9.toNat)) λrow=>bif qB4 4 (qB1 row)then kTmC (qB8 4 row) λn_2 n_3 s_1 rows_1=>(bif qd 0 v9&&qe v9 (↑ nn:Int)then kOpt (qB0 h0 (0+v9.toNat)) λrow=>bif qB4 4 (qB1 row)then bif qd 0 (qBZ .i64 (v9 - 1))&&qe (qBZ .i64 (v9 - 1)) (↑ nn:Int)then kOpt (qB0 (qCA h0 (0+v9.toNat) (.int .i64 n:: .int .i64 n_1:: .str s:: .sl rows::qCk 4 row)) (0+qB7 (qBZ .i64 (v9 - 1)))) λrow_1=>bif qB4 4 (qB1 row_1)then bif decide (qBZ .i64 (v9 - a)≥2)then qd0 nn a b v10 v9 (qBZ .i64 (v9 - 1)) (qCA (qCA h0 (0+v9.toNat) (.int .i64 n:: .int .i64 n_1:: .str s:: .sl rows::qCk 4 row)) (0+qB7 (qBZ .i64 (v9 - 1))) (.int .i64 n_2:: .int .i64 n_3:: .str s_1:: .sl rows_1::qCk 4 row_1))else bif decide (qBZ .i64 (b - v9)≥2)then qaH nn a b v10 v9 (qBZ .i64 (v9+1)) (qCA (qCA h0 (0+v9.toNat) (.int .i64 n:: .int .i64 n_1:: .str s:: .sl rows::qCk 4 row)) (0+qB7 (qBZ .i64 (v9 - 1))) (.int .i64 n_2:: .int .i64 n_3:: .str s_1:: .sl rows_1::qCk 4 row_1))else yo nn a b v9 (qBZ .i64 (v10+1)) (qCA (qCA h0 (0+v9.toNat) (.int .i64 n:: .int .i64 n_1:: .str s:: .sl rows::qCk 4 row)) (0+qB7 (qBZ .i64 (v9 - 1))) (.int .i64 n_2:: .int .i64 n_3:: .str s_1:: .sl rows_1::qCk 4 row_1))else none else none else none else none)else none else none)else none else none) P):Gets (qhm nn a b v10 v9 h0) P:=
  gE (λ_=>ql (cfg:=cfg) (f:=93) (rd:=none) (bs:=1)) (by kernel_rfl) h
theorem qfU(nn:Nat)(a v12 v13:Int)(h0:Rz){P:AV×List (List AV)->Prop}(h:Gets (qhi nn a v13 v12 h0) P):Gets (qdY nn a v12 v13 h0) P:=
  gE (λ_=>ql (cfg:=cfg) (f:=95) (rd:=none) (bs:=1)) (by kernel_rfl) h
theorem qfX(nn:Nat)(a v11 v12:Int)(h0:Rz){P:AV×List (List AV)->Prop}(h:Gets (bif decide (v11<=v12)then bif qd 0 a&&qe a (↑ nn:Int)then kOpt (qB0 h0 (0+a.toNat)) λrow=>bif qB4 4 (qB1 row)then kTmC (qB8 4 row) λn n_1 s rows=>(bif qd 0 v12&&qe v12 (↑ nn:Int)then kOpt (qB0 h0 (0+qB7 v12)) λrow=>bif qB4 4 (qB1 row)then kTmC (qB8 4 row) λn_2 n_3 s_1 rows_1=>(kOpt (EVs (EV cfg) 29 [.agg [.int .i64 n,.int .i64 n_1,.str s,.sl rows],.agg [.int .i64 n_2,.int .i64 n_3,.str s_1,.sl rows_1]]) λv=>kInt .i64 v λn=>bif decide (n<0)then qbl nn a v11 (qBZ .i64 (v12 - 1)) h0 else bif decide (v11>v12)then some (.int .i64 v11,h0)else bif qd 0 v12&&qe v12 (↑ nn:Int)then kOpt (qB0 h0 (0+v12.toNat)) λrow=>bif qB4 4 (qB1 row)then kTmC (qB8 4 row) λn n_4 s rows=>(bif qd (0:Int) v11&&qe v11 (↑ nn:Int)then kOpt (qB0 h0 (0+v11.toNat)) λrow=>bif qB4 4 (qB1 row)then kTmC (qB8 4 row) λn_5 n_6 s_2 rows_2=>(bif qd 0 v11&&qe v11 (↑ nn:Int)then kOpt (qB0 h0 (0+v11.toNat)) λrow=>bif qB4 4 (qB1 row)then bif qd 0 v12&&qe v12 (↑ nn:Int)then kOpt (qB0 (qCA h0 (0+v11.toNat) (.int .i64 n:: .int .i64 n_4:: .str s:: .sl rows::qCk 4 row)) (0+v12.toNat)) λrow_1=>bif qB4 4 (qB1 row_1)then qhl nn a (qBZ .i64 (v11+1)) (qBZ .i64 (v12 - 1)) (qCA (qCA h0 (0+v11.toNat) (.int .i64 n:: .int .i64 n_4:: .str s:: .sl rows::qCk 4 row)) (0+v12.toNat) (.int .i64 n_5:: .int .i64 n_6:: .str s_2:: .sl rows_2::qCk 4 row_1))else none else none else none else none)else none else none)else none else none)else none else none)else none else none else bif decide (v11>v12)then some (.int .i64 v11,h0)else bif qd 0 v12&&qe v12 (↑ nn:Int)then kOpt (qB0 h0 (0+v12.toNat)) λrow=>bif qB4 4 (qB1 row)then kTmC (qB8 4 row) λn n_1 s rows=>(bif qd 0 v11&&qe v11 (↑ nn:Int)then kOpt (qB0 h0 (0+v11.toNat)) λrow=>bif qB4 4 (qB1 row)then kTmC (qB8 4 row) λn_2 n_3 s_1 rows_1=>(bif qd 0 v11&&qe v11 (↑ nn:Int)then kOpt (qB0 h0 (0+v11.toNat)) λrow=>bif qB4 4 (qB1 row)then bif qd 0 v12&&qe v12 (↑ nn:Int)then kOpt (qB0 (qCA h0 (0+v11.toNat) (.int .i64 n:: .int .i64 n_1:: .str s:: .sl rows::qCk 4 row)) (0+v12.toNat)) λrow_1=>bif qB4 4 (qB1 row_1)then qhl nn a (qBZ .i64 (v11+1)) (qBZ .i64 (v12 - 1)) (qCA (qCA h0 (0+v11.toNat) (.int .i64 n:: .int .i64 n_1:: .str s:: .sl rows::qCk 4 row)) (0+v12.toNat) (.int .i64 n_2:: .int .i64 n_3:: .str s_1:: .sl rows_1::qCk 4 row_1))else none else none else none else none)else none else none)else none else none) P):Gets (qbl nn a v11 v12 h0) P:=
  gE (λ_=>ql (cfg:=cfg) (f:=94) (rd:=none) (bs:=1)) (by kernel_rfl) h
theorem qf1(nn:Nat)(a b v10 v9 v11:Int)(h0:Rz){P:AV×List (List AV)->Prop}(h:Gets (bif decide (v11≥1)then bif qd 0 v11&&qe v11 (↑ nn:Int)then kOpt (qB0 h0 (0+v11.toNat)) λrow=>bif qB4 4 (qB1 row)then kTmC (qB8 4 row) λn n_1 s rows=>(bif qd 0 (qBZ .i64 (v11 - 1))&&qe (qBZ .i64 (v11 - 1)) (↑ nn:Int)then kOpt (qB0 h0 (0+qB7 (qBZ .i64 (v11 - 1)))) λrow=>bif qB4 4 (qB1 row)then kTmC (qB8 4 row) λn_2 n_3 s_1 rows_1=>(kOpt (EVs (EV cfg) 29 [.agg [.int .i64 n,.int .i64 n_1,.str s,.sl rows],.agg [.int .i64 n_2,.int .i64 n_3,.str s_1,.sl rows_1]]) λv=>kInt .i64 v λn=>bif ! decide (n<0)then bif decide (qBZ .i64 (b - v9)≥2)then qaH nn a b v10 v9 (qBZ .i64 (v9+1)) h0 else yo nn a b v9 (qBZ .i64 (v10+1)) h0 else bif qd 0 (qBZ .i64 (v11 - 1))&&qe (qBZ .i64 (v11 - 1)) (↑ nn:Int)then kOpt (qB0 h0 (0+qB7 (qBZ .i64 (v11 - 1)))) λrow=>bif qB4 4 (qB1 row)then kTmC (qB8 4 row) λn n_4 s rows=>(bif qd 0 v11&&qe v11 (↑ nn:Int)then kOpt (qB0 h0 (0+v11.toNat)) λrow=>bif qB4 4 (qB1 row)then kTmC (qB8 4 row) λn_5 n_6 s_2 rows_2=>(bif qd 0 v11&&qe v11 (↑ nn:Int)then kOpt (qB0 h0 (0+v11.toNat)) λrow=>bif qB4 4 (qB1 row)then bif qd 0 (qBZ .i64 (v11 - 1))&&qe (qBZ .i64 (v11 - 1)) (↑ nn:Int)then kOpt (qB0 (qCA h0 (0+v11.toNat) (.int .i64 n:: .int .i64 n_4:: .str s:: .sl rows::qCk 4 row)) (0+qB7 (qBZ .i64 (v11 - 1)))) λrow_1=>bif qB4 4 (qB1 row_1)then qd0 nn a b v10 v9 (qBZ .i64 (v11 - 1)) (qCA (qCA h0 (0+v11.toNat) (.int .i64 n:: .int .i64 n_4:: .str s:: .sl rows::qCk 4 row)) (0+qB7 (qBZ .i64 (v11 - 1))) (.int .i64 n_5:: .int .i64 n_6:: .str s_2:: .sl rows_2::qCk 4 row_1))else none else none else none else none)else none else none)else none else none)else none else none)else none else none else bif decide (qBZ .i64 (b - v9)≥2)then qaH nn a b v10 v9 (qBZ .i64 (v9+1)) h0 else yo nn a b v9 (qBZ .i64 (v10+1)) h0) P):Gets (qd0 nn a b v10 v9 v11 h0) P:=
  gE (λ_=>ql (cfg:=cfg) (f:=93) (rd:=none) (bs:=1)) (by kernel_rfl) h
theorem qf0(nn:Nat)(a b v10 v9 v12:Int)(h0:Rz){P:AV×List (List AV)->Prop}(h:Gets (bif decide (v12<b)then bif qd 0 v12&&qe v12 (↑ nn:Int)then kOpt (qB0 h0 (0+v12.toNat)) λrow=>bif qB4 4 (qB1 row)then kTmC (qB8 4 row) λn n_1 s rows=>(bif qd 0 (qBZ .i64 (v12 - 1))&&qe (qBZ .i64 (v12 - 1)) (↑ nn:Int)then kOpt (qB0 h0 (0+qB7 (qBZ .i64 (v12 - 1)))) λrow=>bif qB4 4 (qB1 row)then kTmC (qB8 4 row) λn_2 n_3 s_1 rows_1=>(kOpt (EVs (EV cfg) 29 [.agg [.int .i64 n,.int .i64 n_1,.str s,.sl rows],.agg [.int .i64 n_2,.int .i64 n_3,.str s_1,.sl rows_1]]) λv=>kInt .i64 v λn=>bif ! decide (n<0)then yo nn a b v9 (qBZ .i64 (v10+1)) h0 else bif qd 0 (qBZ .i64 (v12 - 1))&&qe (qBZ .i64 (v12 - 1)) (↑ nn:Int)then kOpt (qB0 h0 (0+qB7 (qBZ .i64 (v12 - (1:Int))))) λrow=>bif qB4 4 (qB1 row)then kTmC (qB8 4 row) λn n_4 s rows=>(bif qd 0 v12&&qe v12 (↑ nn:Int)then kOpt (qB0 h0 (0+v12.toNat)) λrow=>bif qB4 4 (qB1 row)then kTmC (qB8 4 row) λn_5 n_6 s_2 rows_2=>(bif qd 0 v12&&qe v12 (↑ nn:Int)then kOpt (qB0 h0 (0+v12.toNat)) λrow=>bif qB4 4 (qB1 row)then bif qd 0 (qBZ .i64 (v12 - 1))&&qe (qBZ .i64 (v12 - 1)) (↑ nn:Int)then kOpt (qB0 (qCA h0 (0+v12.toNat) (.int .i64 n:: .int .i64 n_4:: .str s:: .sl rows::qCk 4 row)) (0+qB7 (qBZ .i64 (v12 - 1)))) λrow_1=>bif qB4 4 (qB1 row_1)then qaH nn a b v10 v9 (qBZ .i64 (v12+1)) (qCA (qCA h0 (0+v12.toNat) (.int .i64 n:: .int .i64 n_4:: .str s:: .sl rows::qCk 4 row)) (0+qB7 (qBZ .i64 (v12 - 1))) (.int .i64 n_5:: .int .i64 n_6:: .str s_2:: .sl rows_2::qCk 4 row_1))else none else none else none else none)else none else none)else none else none)else none else none)else none else none else yo nn a b v9 (qBZ .i64 (v10+1)) h0) P):Gets (qaH nn a b v10 v9 v12 h0) P:=
  gE (λ_=>ql (cfg:=cfg) (f:=93) (rd:=none) (bs:=1)) (by kernel_rfl) h
theorem qfT(nn:Nat)(a v13 v12:Int)(h0:Rz){P:AV×List (List AV)->Prop}(h:Gets (bif decide (v12<=v13)then bif qd 0 v12&&qe v12 (↑ nn:Int)then kOpt (qB0 h0 (0+v12.toNat)) λrow=>bif qB4 4 (qB1 row)then kTmC (qB8 4 row) λn n_1 s rows=>(bif qd 0 a&&qe a (↑ nn:Int)then kOpt (qB0 h0 (0+qB7 a)) λrow=>bif qB4 4 (qB1 row)then kTmC (qB8 4 row) λn_2 n_3 s_1 rows_1=>(kOpt (EVs (EV cfg) 29 [.agg [.int .i64 n,.int .i64 n_1,.str s,.sl rows],.agg [.int .i64 n_2,.int .i64 n_3,.str s_1,.sl rows_1]]) λv=>kInt .i64 v λn=>bif decide (n<0)then qhi nn a v13 (qBZ .i64 (v12+1)) h0 else qbk nn a v12 v13 h0)else none else none)else none else none else qbk nn a v12 v13 h0) P):Gets (qhi nn a v13 v12 h0) P:=
  gE (λ_=>ql (cfg:=cfg) (f:=95) (rd:=none) (bs:=1)) (by kernel_rfl) h
theorem qfS(nn:Nat)(a v12 v13:Int)(h0:Rz){P:AV×List (List AV)->Prop}(h:Gets (bif decide (v12<=v13)then bif qd 0 v13&&qe v13 (↑ nn:Int)then kOpt (qB0 h0 (0+v13.toNat)) λrow=>bif qB4 4 (qB1 row)then kTmC (qB8 4 row) λn n_1 s rows=>(bif qd 0 a&&qe a (↑ nn:Int)then kOpt (qB0 h0 (0+qB7 a)) λrow=>bif qB4 4 (qB1 row)then kTmC (qB8 4 row) λn_2 n_3 s_1 rows_1=>(kOpt (EVs (EV cfg) 29 [.agg [.int .i64 n,.int .i64 n_1,.str s,.sl rows],.agg [.int .i64 n_2,.int .i64 n_3,.str s_1,.sl rows_1]]) λv=>kInt .i64 v λn=>bif ! decide (n<0)then qbk nn a v12 (qBZ .i64 (v13 - 1)) h0 else bif decide (v12>v13)then bif qd 0 a&&qe a (↑ nn:Int)then kOpt (qB0 h0 (0+qB7 a)) λrow=>bif qB4 4 (qB1 row)then kTmC (qB8 4 row) λn n_4 s rows=>(bif qd 0 v13&&qe v13 (↑ nn:Int)then kOpt (qB0 h0 (0+v13.toNat)) λrow=>bif qB4 4 (qB1 row)then kTmC (qB8 4 row) λn_5 n_6 s_2 rows_2=>(bif qd 0 v13&&qe v13 (↑ nn:Int)then kOpt (qB0 h0 (0+v13.toNat)) λrow=>bif qB4 4 (qB1 row)then bif qd 0 a&&qe a (↑ nn:Int)then kOpt (qB0 (qCA h0 (0+v13.toNat) (.int .i64 n:: .int .i64 n_4:: .str s:: .sl rows::qCk 4 row)) (0+a.toNat)) λrow_1=>bif qB4 4 (qB1 row_1)then some (AV.tup [AV.int .i64 v13,.bool false],qCA (qCA h0 (0+v13.toNat) (.int .i64 n:: .int .i64 n_4:: .str s:: .sl rows::qCk 4 row)) (0+a.toNat) (.int .i64 n_5:: .int .i64 n_6:: .str s_2:: .sl rows_2::qCk 4 row_1))else none else none else none else none)else none else none)else none else none else bif qd 0 v13&&qe v13 (↑ nn:Int)then kOpt (qB0 h0 (0+v13.toNat)) λrow=>bif qB4 4 (qB1 row)then kTmC (qB8 4 row) λn n_4 s rows=>(bif qd 0 v12&&qe v12 (↑ nn:Int)then kOpt (qB0 h0 (0+v12.toNat)) λrow=>bif qB4 4 (qB1 row)then kTmC (qB8 4 row) λn_5 n_6 s_2 rows_2=>(bif qd 0 v12&&qe v12 (↑ nn:Int)then kOpt (qB0 h0 (0+v12.toNat)) λrow=>bif qB4 4 (qB1 row)then bif qd 0 v13&&qe v13 (↑ nn:Int)then kOpt (qB0 (qCA h0 (0+v12.toNat) (.int .i64 n:: .int .i64 n_4:: .str s:: .sl rows::qCk 4 row)) (0+v13.toNat)) λrow_1=>bif qB4 4 (qB1 row_1)then qdY nn a (qBZ .i64 (v12+1)) (qBZ .i64 (v13 - 1)) (qCA (qCA h0 (0+v12.toNat) (.int .i64 n:: .int .i64 n_4:: .str s:: .sl rows::qCk 4 row)) (0+v13.toNat) (.int .i64 n_5:: .int .i64 n_6:: .str s_2:: .sl rows_2::qCk 4 row_1))else none else none else none else none)else none else none)else none else none)else none else none)else none else none else bif decide (v12>v13)then bif qd 0 a&&qe a (↑ nn:Int)then kOpt (qB0 h0 (0+a.toNat)) λrow=>bif qB4 4 (qB1 row)then kTmC (qB8 4 row) λn n_1 s rows=>(bif qd 0 v13&&qe v13 (↑ nn:Int)then kOpt (qB0 h0 (0+v13.toNat)) λrow=>bif qB4 4 (qB1 row)then kTmC (qB8 4 row) λn_2 n_3 s_1 rows_1=>(bif qd 0 v13&&qe v13 (↑ nn:Int)then kOpt (qB0 h0 (0+v13.toNat)) λrow=>bif qB4 4 (qB1 row)then bif qd 0 a&&qe a (↑ nn:Int)then kOpt (qB0 (qCA h0 (0+v13.toNat) (.int .i64 n:: .int .i64 n_1:: .str s:: .sl rows::qCk 4 row)) (0+a.toNat)) λrow_1=>bif qB4 4 (qB1 row_1)then some (AV.tup [AV.int .i64 v13,.bool false],qCA (qCA h0 (0+v13.toNat) (.int .i64 n:: .int .i64 n_1:: .str s:: .sl rows::qCk 4 row)) (0+a.toNat) (.int .i64 n_2:: .int .i64 n_3:: .str s_1:: .sl rows_1::qCk 4 row_1))else none else none else none else none)else none else none)else none else none else bif qd (0:Int) v13&&qe v13 (↑ nn:Int)then kOpt (qB0 h0 (0+v13.toNat)) λrow=>bif qB4 4 (qB1 row)then kTmC (qB8 4 row) λn n_1 s rows=>(bif qd 0 v12&&qe v12 (↑ nn:Int)then kOpt (qB0 h0 (0+v12.toNat)) λrow=>bif qB4 4 (qB1 row)then kTmC (qB8 4 row) λn_2 n_3 s_1 rows_1=>(bif qd 0 v12&&qe v12 (↑ nn:Int)then kOpt (qB0 h0 (0+v12.toNat)) λrow=>bif qB4 4 (qB1 row)then bif qd 0 v13&&qe v13 (↑ nn:Int)then kOpt (qB0 (qCA h0 (0+v12.toNat) (.int .i64 n:: .int .i64 n_1:: .str s:: .sl rows::qCk 4 row)) (0+v13.toNat)) λrow_1=>bif qB4 4 (qB1 row_1)then qdY nn a (qBZ .i64 (v12+1)) (qBZ .i64 (v13 - 1)) (qCA (qCA h0 (0+v12.toNat) (.int .i64 n:: .int .i64 n_1:: .str s:: .sl rows::qCk 4 row)) (0+v13.toNat) (.int .i64 n_2:: .int .i64 n_3:: .str s_1:: .sl rows_1::qCk 4 row_1))else none else none else none else none)else none else none)else none else none) P):Gets (qbk nn a v12 v13 h0) P:=
  gE (λ_=>ql (cfg:=cfg) (f:=95) (rd:=none) (bs:=1)) (by kernel_rfl) h
def qy3:Den:=evC cfg (EV cfg) 90 none 1 (sub (qc Tryz.f90) [1,1,0,1,1,1,0,0])
def qzs:Ex×List AV×AH->Option (MV×List (List AV)):=kAft (Cfg.keepOut cfg 90 5) (kRun cfg (EV cfg) (kfN cfg 6) 90 none 1 (vI cfg 4 (Cfg.lift cfg 90 0) Tryz.f90.results.toList) ([.block 0]))
def qrq:List AV×AH->Option (MV×List (List AV)):=λp=>kOpt (LOOP 1 (some [0,1,8,9,10,11]) ([]) qy3 p) qzs
def qy4:Den:=evC cfg (EV cfg) 61 none 1 (sub (qc Tryz.f61) [1,1,0,0])
def qzt:Ex×List AV×AH->Option (MV×List (List AV)):=kAft (Cfg.keepOut cfg 61 2) (kRun cfg (EV cfg) (kfN cfg 6) 61 none 1 (vI cfg 4 (Cfg.lift cfg 61 0) Tryz.f61.results.toList) ([.block 0]))
def qyB:List AV×AH->Option (MV×List (List AV)):=λp=>kOpt (LOOP 1 (some [0,1,2,3,4,10,11]) ([]) qy4 p) qzt
abbrev qli(nn:Nat)(a b n v11:Int)(h0:Rz)(c1_0:Int):Option (MV×List (List AV)):=qrq (((fx 67 [(0,.ms 0 0 nn),(1,.int .i64 a),(8,.int .i64 (qBZ .i64 (b - a))),(9,.ptr 1 0 0),(10,.int .u64 n),(11,.int .i64 v11)]):List AV),([.rows true 4 h0,.rows false 1 [[.int .u64 c1_0]]]:AH))
abbrev qC(nn:Nat)(v1 v2 v3:Int)(v10 v11:Bool)(h0:Rz):Option (MV×List (List AV)):=qyB (((fx 148 [(0,.ms 0 0 nn),(1,.int .i64 v1),(2,.int .i64 v2),(3,.int .i64 v3),(4,.fn (Fn.func 29) [] []),(10,.bool v10),(11,.bool v11)]):List AV),([.rows true 4 h0]:AH))
abbrev qaB(nn:Nat)(a b n v11:Int)(h0 h1:Rz):Option (MV×List (List AV)):=qrq (((fx 67 [(0,.ms 0 0 nn),(1,.int .i64 a),(8,.int .i64 (qBZ .i64 (b - a))),(9,.ptr 1 0 0),(10,.int .u64 n),(11,.int .i64 v11)]):List AV),([.rows true 4 h0,.rows true 1 h1]:AH))
theorem qwT(rows:Rz)(nn:Nat)(a b:Int){P:MV×List (List AV)->Prop}(h:Gets (bif decide (qBZ .i64 (b - a)≥8)then kOpt (EVs (EV cfg) 123 [AV.int .i64 (qBZ .i64 (b - a))]) λv=>kInt .u64 v λn=>kOpt (qn (Op.intDiv BinOp.quo .i64 (qBZ .i64 (b - a)) 4)) λv=>kInt .i64 v λn_1=>qli nn a b n (qBZ .i64 (qBZ .i64 (a+qBZ .i64 (n_1*2)) - 1)) rows (qBZ .u64 (qBZ .i64 (b - a)))else some (MV.unit,rows)) P):Gets (EVm (EV cfg) 90 [.ms 0 0 nn,.int .i64 a,.int .i64 b,.fn (Fn.func 29) [] []] 4 rows) P:=
  gE (λ_=>funM rfl rfl Tryz.func90 rfl) (by kernel_rfl) h
abbrev zw4(n_5 n:Int):Option (AV):=bif n_5==0 then some (AV.tup [AV.int .i64 n,.int .i64 1])else bif n_5==12 then some (AV.tup [AV.int .i64 n,.int .i64 2])else some (AV.tup [AV.int .i64 n,.int .i64 0])
abbrev zw3(v:AV)(n:Int):Option (AV):=kInt .i64 v λn_5=>zw4 n_5 n
abbrev zw2(row:List AV)(n:Int):Option (AV):=kOpt (qB0 row 0) λv=>zw3 v n
abbrev zw1(q:AV×List (List AV))(n:Int):Option (AV):=kOpt (qB0 q.2 0) λrow=>zw2 row n
abbrev zw0(q:AV×List (List AV)):Option (AV):=kInt .i64 q.1 λn=>zw1 q n
theorem qv5(rows:Rz)(a b:Int){P:AV->Prop}(h:Gets (kOpt (qn (Op.intDiv BinOp.quo .i64 (qBZ .i64 (b - a)) 4)) λv=>kInt .i64 v λn=>kOpt (qn (Op.intDiv BinOp.quo .i64 (qBZ .i64 (b - a)) 4)) λv=>kInt .i64 v λn_1=>kOpt (qn (Op.intDiv BinOp.quo .i64 (qBZ .i64 (b - a)) 4)) λv=>kInt .i64 v λn_2=>bif decide (qBZ .i64 (b - a)≥8)then bif decide (qBZ .i64 (b - a)≥50)then kOpt (EVd (EV cfg) 125 [.sl rows,.int .i64 (qBZ .i64 (a+qBZ .i64 (n*1))),.ptr 0 0 0,AV.fn (Fn.func 29) [] []] 1 [[AV.int .i64 0]]) λq=>kInt .i64 q.1 λn=>kOpt (EVd (EV cfg) 125 [.sl rows,.int .i64 (qBZ .i64 (a+qBZ .i64 (n_1*2))),.ptr 0 0 0,AV.fn (Fn.func 29) [] []] 1 q.2) λq=>kInt .i64 q.1 λn_3=>kOpt (EVd (EV cfg) 125 [.sl rows,.int .i64 (qBZ .i64 (a+qBZ .i64 (n_2*3))),.ptr 0 0 0,AV.fn (Fn.func 29) [] []] 1 q.2) λq=>kInt .i64 q.1 λn_4=>kOpt (EVd (EV cfg) 126 [.sl rows,.int .i64 n,.int .i64 n_3,.int .i64 n_4,.ptr 0 0 0,AV.fn (Fn.func 29) [] []] 1 q.2) λq=>zw0 q else kOpt (EVd (EV cfg) 126 [.sl rows,.int .i64 (qBZ .i64 (a+qBZ .i64 (n*1))),.int .i64 (qBZ .i64 (a+qBZ .i64 (n_1*2))),.int .i64 (qBZ .i64 (a+qBZ .i64 (n_2*3))),.ptr 0 0 0,AV.fn (Fn.func 29) [] []] 1 [[AV.int .i64 0]]) λq=>zw0 q else some (AV.tup [AV.int .i64 (qBZ .i64 (a+qBZ .i64 (n_1*2))),.int .i64 1])) P):Gets (EVs (EV cfg) 91 [.sl rows,.int .i64 a,.int .i64 b,.fn (Fn.func 29) [] []]) P:=
  gE (λ_=>funS rfl rfl Tryz.func91 rfl) (by kernel_rfl) h
theorem qom(rows:Rz)(nn:Nat)(a b lim:Int){P:MV×List (List AV)->Prop}(h:Gets (qC nn a b lim true true rows) P):Gets (EVm (EV cfg) 61 [.ms 0 0 nn,.int .i64 a,.int .i64 b,.int .i64 lim,.fn (Fn.func 29) [] []] 4 rows) P:=
  gE (λ_=>funM rfl rfl Tryz.func61 rfl) (by kernel_rfl) h
theorem qua(rows:Rz)(a b s:Int){P:AV×List (List AV)->Prop}(h:Gets (bif qd 0 b&&qe b (rows.length:Int)then kOpt (qB0 rows (b.toNat)) λrow=>bif qCh (qB1 row) 4 then bif qB4 4 (qB1 row)then kTmC (qB8 4 row) λn n_1 s_1 rows_1=>(bif qd 0 a&&qe a (rows.length:Int)then kOpt (qB0 rows (a.toNat)) λrow=>bif qCh (qB1 row) 4 then bif qB4 4 (qB1 row)then kTmC (qB8 4 row) λn_2 n_3 s_2 rows=>(kOpt (EVs (EV cfg) 29 [.agg [.int .i64 n,.int .i64 n_1,.str s_1,.sl rows_1],.agg [.int .i64 n_2,.int .i64 n_3,.str s_2,.sl rows]]) λv=>kInt .i64 v λn=>bif decide (n<0)then some (AV.tup [AV.int .i64 b,.int .i64 a],[[AV.int .i64 (qBZ .i64 (s+1))]])else some (AV.tup [AV.int .i64 a,.int .i64 b],[[AV.int .i64 s]]))else none else none else none)else none else none else none) P):Gets (EVd (EV cfg) 147 [.sl rows,.int .i64 a,.int .i64 b,.ptr 0 0 0,.fn (Fn.func 29) [] []] 1 [[AV.int .i64 s]]) P:=
  gE (λ_=>funD rfl rfl Tryz.func147 rfl) (by kernel_rfl) h
theorem qwo(rows:Rz)(a b c s:Int){P:AV×List (List AV)->Prop}(h:Gets (kOpt (EVd (EV cfg) 147 [.sl rows,.int .i64 a,.int .i64 b,.ptr 0 0 0,AV.fn (Fn.func 29) [] []] 1 [[AV.int .i64 s]]) λq=>kTup q.1 λcs=>qf cs λc_1 cs=>kInt .i64 c_1 λn=>qf cs λc_2 cs=>kInt .i64 c_2 λn_1=>kNil cs (kOpt (EVd (EV cfg) 147 [.sl rows,.int .i64 n_1,.int .i64 c,.ptr 0 0 0,AV.fn (Fn.func 29) [] []] 1 q.2) λq=>kTup q.1 λcs=>qf cs λc cs=>kInt .i64 c λn_2=>qf cs λc cs=>kInt .i64 c λn_3=>kNil cs (kOpt (EVd (EV cfg) 147 [.sl rows,.int .i64 n,.int .i64 n_2,.ptr 0 0 0,AV.fn (Fn.func 29) [] []] 1 q.2) λq=>kTup q.1 λcs=>qf cs λc cs=>kInt .i64 c λn=>qf cs λc cs=>kInt .i64 c λn=>kNil cs (some (.int .i64 n,q.2))))) P):Gets (EVd (EV cfg) 126 [.sl rows,.int .i64 a,.int .i64 b,.int .i64 c,.ptr 0 0 0,.fn (Fn.func 29) [] []] 1 [[AV.int .i64 s]]) P:=
  gE (λ_=>funD rfl rfl Tryz.func126 rfl) (by kernel_rfl) h
theorem qum(rows:Rz)(a s:Int){P:AV×List (List AV)->Prop}(h:Gets (kOpt (EVd (EV cfg) 126 [.sl rows,.int .i64 (qBZ .i64 (a - 1)),.int .i64 a,.int .i64 (qBZ .i64 (a+1)),.ptr 0 0 0,AV.fn (Fn.func 29) [] []] 1 [[AV.int .i64 s]]) λq=>kInt .i64 q.1 λn=>some (.int .i64 n,q.2)) P):Gets (EVd (EV cfg) 125 [.sl rows,.int .i64 a,.ptr 0 0 0,.fn (Fn.func 29) [] []] 1 [[AV.int .i64 s]]) P:=
  gE (λ_=>funD rfl rfl Tryz.func125 rfl) (by kernel_rfl) h
theorem qui(n:Int){P:AV->Prop}(h:Gets (kOpt (EVs (EV cfg) 62 [AV.int .u64 (qBZ .u64 n)]) λv=>kInt .i64 v λn=>kOpt (qn (Op.shift BinOp.shl .u64 1 .i64 n)) λv=>kInt .u64 v λn=>some (.int .u64 n)) P):Gets (EVs (EV cfg) 123 [.int .i64 n]) P:=
  gE (λ_=>funS rfl rfl Tryz.func123 rfl) (by kernel_rfl) h
abbrev zw9(v11:Int)(nn:Nat)(h0:Rz)(a n_3 b n_4 n_5:Int)(s:Bz)(rows:Rz)(n:Int)(q:AV×List (List AV)):Option (MV×List (List AV)):=(bif qd 0 v11&&qe v11 (↑ nn:Int)then kOpt (qB0 h0 (0+v11.toNat)) λrow=>bif qB4 4 (qB1 row)then kTmC (qB8 4 row) λn_6 n_7 s_1 rows_1=>(bif qd 0 v11&&qe v11 (↑ nn:Int)then kOpt (qB0 h0 (0+v11.toNat)) λrow=>bif qB4 4 (qB1 row)then bif qd 0 (qBZ .i64 (a+qBZ .i64 (qBZ .i64 n_3 - qBZ .i64 (b - a))))&&qe (qBZ .i64 (a+qBZ .i64 (qBZ .i64 n_3 - qBZ .i64 (b - a)))) (↑ nn:Int)then kOpt (qB0 (qCA h0 (0+v11.toNat) (.int .i64 n_4:: .int .i64 n_5:: .str s:: .sl rows::qCk 4 row)) (0+qB7 (qBZ .i64 (a+qBZ .i64 (qBZ .i64 n_3 - qBZ .i64 (b - a)))))) λrow_1=>bif qB4 4 (qB1 row_1)then qaB nn a b n (qBZ .i64 (v11+1)) (qCA (qCA h0 (0+v11.toNat) (.int .i64 n_4:: .int .i64 n_5:: .str s:: .sl rows::qCk 4 row)) (0+qB7 (qBZ .i64 (a+qBZ .i64 (qBZ .i64 n_3 - qBZ .i64 (b - a))))) (.int .i64 n_6:: .int .i64 n_7:: .str s_1:: .sl rows_1::qCk 4 row_1)) q.2 else none else none else none else none)else none else none)
abbrev zw8(row:List AV)(v11:Int)(nn:Nat)(h0:Rz)(a n_3 b n:Int)(q:AV×List (List AV)):Option (MV×List (List AV)):=kTmC (qB8 4 row) λn_4 n_5 s rows=>zw9 v11 nn h0 a n_3 b n_4 n_5 s rows n q
abbrev zw7(row:List AV)(v11:Int)(nn:Nat)(h0:Rz)(a n_3 b n:Int)(q:AV×List (List AV)):Option (MV×List (List AV)):=bif qB4 4 (qB1 row)then zw8 row v11 nn h0 a n_3 b n q else none
abbrev zw6(h0:Rz)(a n_3 b v11:Int)(nn:Nat)(n:Int)(q:AV×List (List AV)):Option (MV×List (List AV)):=kOpt (qB0 h0 (0+qB7 (qBZ .i64 (a+qBZ .i64 (qBZ .i64 n_3 - qBZ .i64 (b - a)))))) λrow=>zw7 row v11 nn h0 a n_3 b n q
abbrev zw5(a n_3 b:Int)(nn:Nat)(h0:Rz)(v11 n:Int)(q:AV×List (List AV)):Option (MV×List (List AV)):=bif qd 0 (qBZ .i64 (a+qBZ .i64 (qBZ .i64 n_3 - qBZ .i64 (b - a))))&&qe (qBZ .i64 (a+qBZ .i64 (qBZ .i64 n_3 - qBZ .i64 (b - a)))) (↑ nn:Int)then zw6 h0 a n_3 b v11 nn n q else none
theorem qnS(nn:Nat)(a b n v11:Int)(h0:Rz)(c1_0:Int){P:MV×List (List AV)->Prop}(h:Gets (kOpt (qn (Op.intDiv BinOp.quo .i64 (qBZ .i64 (b - a)) 4)) λv=>kInt .i64 v λn_1=>bif decide (v11<=qBZ .i64 (qBZ .i64 (a+qBZ .i64 (n_1*2))+1))then kOpt (EVd (EV cfg) 124 [.ptr 0 0 0] 1 [[AV.int .u64 c1_0]]) λq=>kInt .u64 q.1 λn_2=>kOpt (qn (Op.intBits BinOp.and .u64 n_2 (qBZ .u64 (n - 1)))) λv=>kInt .u64 v λn_3=>bif decide (qBZ .i64 n_3≥qBZ .i64 (b - a))then zw5 a n_3 b nn h0 v11 n q else bif qd 0 (qBZ .i64 (a+qBZ .i64 n_3))&&qe (qBZ .i64 (a+qBZ .i64 n_3)) (↑ nn:Int)then kOpt (qB0 h0 (0+qB7 (qBZ .i64 (a+qBZ .i64 n_3)))) λrow=>bif qB4 4 (qB1 row)then kTmC (qB8 4 row) λn_4 n_5 s rows=>(bif qd 0 v11&&qe v11 (↑ nn:Int)then kOpt (qB0 h0 (0+v11.toNat)) λrow=>bif qB4 4 (qB1 row)then kTmC (qB8 4 row) λn_6 n_7 s_1 rows_1=>(bif qd 0 v11&&qe v11 (↑ nn:Int)then kOpt (qB0 h0 (0+v11.toNat)) λrow=>bif qB4 4 (qB1 row)then bif qd 0 (qBZ .i64 (a+qBZ .i64 n_3))&&qe (qBZ .i64 (a+qBZ .i64 n_3)) (↑ nn:Int)then kOpt (qB0 (qCA h0 (0+v11.toNat) (.int .i64 n_4:: .int .i64 n_5:: .str s:: .sl rows::qCk 4 row)) (0+qB7 (qBZ .i64 (a+qBZ .i64 n_3)))) λrow_1=>bif qB4 4 (qB1 row_1)then qaB nn a b n (qBZ .i64 (v11+1)) (qCA (qCA h0 (0+v11.toNat) (.int .i64 n_4:: .int .i64 n_5:: .str s:: .sl rows::qCk 4 row)) (0+qB7 (qBZ .i64 (a+qBZ .i64 n_3))) (.int .i64 n_6:: .int .i64 n_7:: .str s_1:: .sl rows_1::qCk 4 row_1)) q.2 else none else none else none else none)else none else none)else none else none else some (MV.unit,h0)) P):Gets (qli nn a b n v11 h0 c1_0) P:=
  gE (λ_=>ql (cfg:=cfg) (f:=90) (rd:=none) (bs:=1)) (by kernel_rfl) h
abbrev zw14(q:MV×List (List AV))(nn:Nat)(n v2 v3 v1 n_7:Int)(b:Bool):Option (MV×List (List AV)):=qx q.1 (qC nn (qBZ .i64 (n+1)) v2 (qBZ .i64 (v3 - 1)) (decide (qBZ .i64 (n - v1)≥n_7)) b q.2)
abbrev zw13(nn:Nat)(v1 n v3:Int)(q:AV×List (List AV))(v2 n_7:Int)(b:Bool):Option (MV×List (List AV)):=kOpt (EVm (EV cfg) 61 [.ms 0 0 nn,.int .i64 v1,.int .i64 n,.int .i64 (qBZ .i64 (v3 - 1)),AV.fn (Fn.func 29) [] []] 4 q.2) λq=>zw14 q nn n v2 v3 v1 n_7 b
abbrev zw16(q:MV×List (List AV))(nn:Nat)(v1 n v3 v2 n_7:Int)(b:Bool):Option (MV×List (List AV)):=qx q.1 (qC nn v1 n (qBZ .i64 (v3 - 1)) (decide (qBZ .i64 (v2 - n)≥n_7)) b q.2)
abbrev zw15(nn:Nat)(n v2 v3:Int)(q:AV×List (List AV))(v1 n_7:Int)(b:Bool):Option (MV×List (List AV)):=kOpt (EVm (EV cfg) 61 [.ms 0 0 nn,.int .i64 (qBZ .i64 (n+1)),.int .i64 v2,.int .i64 (qBZ .i64 (v3 - 1)),AV.fn (Fn.func 29) [] []] 4 q.2) λq=>zw16 q nn v1 n v3 v2 n_7 b
abbrev zw12(n v1 v2:Int)(nn:Nat)(v3:Int)(q:AV×List (List AV))(n_7:Int)(b:Bool):Option (MV×List (List AV)):=bif decide (qBZ .i64 (n - v1)<qBZ .i64 (v2 - n))then zw13 nn v1 n v3 q v2 n_7 b else zw15 nn n v2 v3 q v1 n_7 b
abbrev zw11(v:AV)(n v1 v2:Int)(nn:Nat)(v3:Int)(q:AV×List (List AV))(b:Bool):Option (MV×List (List AV)):=kInt .i64 v λn_7=>zw12 n v1 v2 nn v3 q n_7 b
abbrev zw10(v2 v1 n:Int)(nn:Nat)(v3:Int)(q:AV×List (List AV))(b:Bool):Option (MV×List (List AV)):=kOpt (qn (Op.intDiv BinOp.quo .i64 (qBZ .i64 (v2 - v1)) 8)) λv=>zw11 v n v1 v2 nn v3 q b
abbrev zw27(q:MV×List (List AV))(nn:Nat)(n v2 v3 v1 n_2:Int)(b:Bool):Option (MV×List (List AV)):=qx q.1 (qC nn (qBZ .i64 (n+1)) v2 (qBZ .i64 (v3 - (1:Int))) (decide (qBZ .i64 (n - v1)≥n_2)) b q.2)
abbrev zw26(nn:Nat)(v1 n v3:Int)(q:AV×List (List AV))(v2 n_2:Int)(b:Bool):Option (MV×List (List AV)):=kOpt (EVm (EV cfg) 61 [.ms 0 0 nn,.int .i64 v1,.int .i64 n,.int .i64 (qBZ .i64 (v3 - 1)),AV.fn (Fn.func 29) [] []] 4 q.2) λq=>zw27 q nn n v2 v3 v1 n_2 b
abbrev zw25(n v1 v2:Int)(nn:Nat)(v3:Int)(q:AV×List (List AV))(n_2:Int)(b:Bool):Option (MV×List (List AV)):=bif decide (qBZ .i64 (n - v1)<qBZ .i64 (v2 - n))then zw26 nn v1 n v3 q v2 n_2 b else zw15 nn n v2 v3 q v1 n_2 b
abbrev zw24(v:AV)(n v1 v2:Int)(nn:Nat)(v3:Int)(q:AV×List (List AV))(b:Bool):Option (MV×List (List AV)):=kInt .i64 v λn_2=>zw25 n v1 v2 nn v3 q n_2 b
abbrev zw23(v2 v1 n:Int)(nn:Nat)(v3:Int)(q:AV×List (List AV))(b:Bool):Option (MV×List (List AV)):=kOpt (qn (Op.intDiv BinOp.quo .i64 (qBZ .i64 (v2 - v1)) 8)) λv=>zw24 v n v1 v2 nn v3 q b
abbrev zw22(cs:List AV)(v2 v1 n:Int)(nn:Nat)(v3:Int)(q:AV×List (List AV))(b:Bool):Option (MV×List (List AV)):=kNil cs (zw23 v2 v1 n nn v3 q b)
abbrev zw21(c:AV)(cs:List AV)(v2 v1 n:Int)(nn:Nat)(v3:Int)(q:AV×List (List AV)):Option (MV×List (List AV)):=qr c λb=>zw22 cs v2 v1 n nn v3 q b
abbrev zw20(cs:List AV)(v2 v1 n:Int)(nn:Nat)(v3:Int)(q:AV×List (List AV)):Option (MV×List (List AV)):=qf cs λc cs=>zw21 c cs v2 v1 n nn v3 q
abbrev zw19(c:AV)(cs:List AV)(v2 v1:Int)(nn:Nat)(v3:Int)(q:AV×List (List AV)):Option (MV×List (List AV)):=kInt .i64 c λn=>zw20 cs v2 v1 n nn v3 q
abbrev zw18(cs:List AV)(v2 v1:Int)(nn:Nat)(v3:Int)(q:AV×List (List AV)):Option (MV×List (List AV)):=qf cs λc cs=>zw19 c cs v2 v1 nn v3 q
abbrev zw17(q:AV×List (List AV))(v2 v1:Int)(nn:Nat)(v3:Int):Option (MV×List (List AV)):=kTup q.1 λcs=>zw18 cs v2 v1 nn v3 q
abbrev zw33(n:Int)(nn:Nat)(q:MV×List (List AV))(n_2 n_3:Int)(s:Bz)(rows:Rz)(v1 v2 v3:Int)(v10 v11:Bool):Option (MV×List (List AV)):=(bif qd 0 n&&qe n (↑ nn:Int)then kOpt (qB0 q.2 (0+n.toNat)) λrow=>bif qB4 4 (qB1 row)then kTmC (qB8 4 row) λn_4 n_5 s_1 rows_1=>(kOpt (EVs (EV cfg) 29 [.agg [.int .i64 n_2,.int .i64 n_3,.str s,.sl rows],.agg [.int .i64 n_4,.int .i64 n_5,.str s_1,.sl rows_1]]) λv=>kInt .i64 v λn_6=>bif ! decide (n_6<0)then kOpt (EVd (EV cfg) 94 [.ms 0 0 nn,.int .i64 v1,.int .i64 v2,.int .i64 n,AV.fn (Fn.func 29) [] []] 4 q.2) λq=>kInt .i64 q.1 λn=>qC nn n v2 (qBZ .i64 (v3 - 1)) v10 v11 q.2 else kOpt (EVd (EV cfg) 95 [.ms 0 0 nn,.int .i64 v1,.int .i64 v2,.int .i64 n,AV.fn (Fn.func 29) [] []] 4 q.2) λq=>kTup q.1 λcs=>qf cs λc cs=>kInt .i64 c λn=>qf cs λc cs=>qr c λb=>kNil cs (zw10 v2 v1 n nn v3 q b))else none else none)
abbrev zw32(row:List AV)(n:Int)(nn:Nat)(q:MV×List (List AV))(v1 v2 v3:Int)(v10 v11:Bool):Option (MV×List (List AV)):=kTmC (qB8 4 row) λn_2 n_3 s rows=>zw33 n nn q n_2 n_3 s rows v1 v2 v3 v10 v11
abbrev zw31(row:List AV)(n:Int)(nn:Nat)(q:MV×List (List AV))(v1 v2 v3:Int)(v10 v11:Bool):Option (MV×List (List AV)):=bif qB4 4 (qB1 row)then zw32 row n nn q v1 v2 v3 v10 v11 else none
abbrev zw30(q:MV×List (List AV))(v1 n:Int)(nn:Nat)(v2 v3:Int)(v10 v11:Bool):Option (MV×List (List AV)):=kOpt (qB0 q.2 (0+qB7 (qBZ .i64 (v1 - 1)))) λrow=>zw31 row n nn q v1 v2 v3 v10 v11
abbrev zw29(v1:Int)(nn:Nat)(q:MV×List (List AV))(n v2 v3:Int)(v10 v11:Bool):Option (MV×List (List AV)):=bif qd 0 (qBZ .i64 (v1 - 1))&&qe (qBZ .i64 (v1 - 1)) (↑ nn:Int)then zw30 q v1 n nn v2 v3 v10 v11 else none
abbrev zw34(nn:Nat)(v1 v2 n:Int)(q:MV×List (List AV))(v3:Int):Option (MV×List (List AV)):=kOpt (EVd (EV cfg) 95 [.ms 0 0 nn,.int .i64 v1,.int .i64 v2,.int .i64 n,AV.fn (Fn.func 29) [] []] 4 q.2) λq=>zw17 q v2 v1 nn v3
abbrev zw28(v1:Int)(nn:Nat)(q:MV×List (List AV))(n v2 v3:Int)(v10 v11:Bool):Option (MV×List (List AV)):=bif decide (v1>0)then zw29 v1 nn q n v2 v3 v10 v11 else zw34 nn v1 v2 n q v3
abbrev zw39(q:MV×List (List AV))(nn:Nat)(n v2 v3 v1 n_7:Int)(b:Bool):Option (MV×List (List AV)):=qx q.1 (qC nn (qBZ .i64 (n+1)) v2 v3 (decide (qBZ .i64 (n - v1)≥n_7)) b q.2)
abbrev zw38(nn:Nat)(v1 n v3:Int)(q:AV×List (List AV))(v2 n_7:Int)(b:Bool):Option (MV×List (List AV)):=kOpt (EVm (EV cfg) 61 [.ms 0 0 nn,.int .i64 v1,.int .i64 n,.int .i64 v3,AV.fn (Fn.func 29) [] []] 4 q.2) λq=>zw39 q nn n v2 v3 v1 n_7 b
abbrev zw41(q:MV×List (List AV))(nn:Nat)(v1 n v3 v2 n_7:Int)(b:Bool):Option (MV×List (List AV)):=qx q.1 (qC nn v1 n v3 (decide (qBZ .i64 (v2 - n)≥n_7)) b q.2)
abbrev zw40(nn:Nat)(n v2 v3:Int)(q:AV×List (List AV))(v1 n_7:Int)(b:Bool):Option (MV×List (List AV)):=kOpt (EVm (EV cfg) 61 [.ms 0 0 nn,.int .i64 (qBZ .i64 (n+1)),.int .i64 v2,.int .i64 v3,AV.fn (Fn.func 29) [] []] 4 q.2) λq=>zw41 q nn v1 n v3 v2 n_7 b
abbrev zw37(n v1 v2:Int)(nn:Nat)(v3:Int)(q:AV×List (List AV))(n_7:Int)(b:Bool):Option (MV×List (List AV)):=bif decide (qBZ .i64 (n - v1)<qBZ .i64 (v2 - n))then zw38 nn v1 n v3 q v2 n_7 b else zw40 nn n v2 v3 q v1 n_7 b
abbrev zw36(v:AV)(n v1 v2:Int)(nn:Nat)(v3:Int)(q:AV×List (List AV))(b:Bool):Option (MV×List (List AV)):=kInt .i64 v λn_7=>zw37 n v1 v2 nn v3 q n_7 b
abbrev zw35(v2 v1 n:Int)(nn:Nat)(v3:Int)(q:AV×List (List AV))(b:Bool):Option (MV×List (List AV)):=kOpt (qn (Op.intDiv BinOp.quo .i64 (qBZ .i64 (v2 - v1)) 8)) λv=>zw36 v n v1 v2 nn v3 q b
abbrev zw47(cs:List AV)(v2 v1 n:Int)(nn:Nat)(v3:Int)(q:AV×List (List AV))(b:Bool):Option (MV×List (List AV)):=kNil cs (zw35 v2 v1 n nn v3 q b)
abbrev zw46(c:AV)(cs:List AV)(v2 v1 n:Int)(nn:Nat)(v3:Int)(q:AV×List (List AV)):Option (MV×List (List AV)):=qr c λb=>zw47 cs v2 v1 n nn v3 q b
abbrev zw45(cs:List AV)(v2 v1 n:Int)(nn:Nat)(v3:Int)(q:AV×List (List AV)):Option (MV×List (List AV)):=qf cs λc cs=>zw46 c cs v2 v1 n nn v3 q
abbrev zw44(c:AV)(cs:List AV)(v2 v1:Int)(nn:Nat)(v3:Int)(q:AV×List (List AV)):Option (MV×List (List AV)):=kInt .i64 c λn=>zw45 cs v2 v1 n nn v3 q
abbrev zw43(cs:List AV)(v2 v1:Int)(nn:Nat)(v3:Int)(q:AV×List (List AV)):Option (MV×List (List AV)):=qf cs λc cs=>zw44 c cs v2 v1 nn v3 q
abbrev zw42(q:AV×List (List AV))(v2 v1:Int)(nn:Nat)(v3:Int):Option (MV×List (List AV)):=kTup q.1 λcs=>zw43 cs v2 v1 nn v3 q
abbrev zw53(n:Int)(nn:Nat)(h0:Rz)(n_2 n_3:Int)(s:Bz)(rows:Rz)(v1 v2 v3:Int)(v10 v11:Bool):Option (MV×List (List AV)):=(bif qd 0 n&&qe n (↑ nn:Int)then kOpt (qB0 h0 (0+n.toNat)) λrow=>bif qB4 4 (qB1 row)then kTmC (qB8 4 row) λn_4 n_5 s_1 rows_1=>(kOpt (EVs (EV cfg) 29 [.agg [.int .i64 n_2,.int .i64 n_3,.str s,.sl rows],.agg [.int .i64 n_4,.int .i64 n_5,.str s_1,.sl rows_1]]) λv=>kInt .i64 v λn_6=>bif ! decide (n_6<0)then kOpt (EVd (EV cfg) 94 [.ms 0 0 nn,.int .i64 v1,.int .i64 v2,.int .i64 n,AV.fn (Fn.func 29) [] []] 4 h0) λq=>kInt .i64 q.1 λn=>qC nn n v2 v3 v10 v11 q.2 else kOpt (EVd (EV cfg) 95 [.ms 0 0 nn,.int .i64 v1,.int .i64 v2,.int .i64 n,AV.fn (Fn.func 29) [] []] 4 h0) λq=>kTup q.1 λcs=>qf cs λc cs=>kInt .i64 c λn=>qf cs λc cs=>qr c λb=>kNil cs (zw35 v2 v1 n nn v3 q b))else none else none)
abbrev zw52(row:List AV)(n:Int)(nn:Nat)(h0:Rz)(v1 v2 v3:Int)(v10 v11:Bool):Option (MV×List (List AV)):=kTmC (qB8 4 row) λn_2 n_3 s rows=>zw53 n nn h0 n_2 n_3 s rows v1 v2 v3 v10 v11
abbrev zw51(row:List AV)(n:Int)(nn:Nat)(h0:Rz)(v1 v2 v3:Int)(v10 v11:Bool):Option (MV×List (List AV)):=bif qB4 4 (qB1 row)then zw52 row n nn h0 v1 v2 v3 v10 v11 else none
abbrev zw50(h0:Rz)(v1 n:Int)(nn:Nat)(v2 v3:Int)(v10 v11:Bool):Option (MV×List (List AV)):=kOpt (qB0 h0 (0+qB7 (qBZ .i64 (v1 - 1)))) λrow=>zw51 row n nn h0 v1 v2 v3 v10 v11
abbrev zw49(v1:Int)(nn:Nat)(h0:Rz)(n v2 v3:Int)(v10 v11:Bool):Option (MV×List (List AV)):=bif qd 0 (qBZ .i64 (v1 - 1))&&qe (qBZ .i64 (v1 - 1)) (↑ nn:Int)then zw50 h0 v1 n nn v2 v3 v10 v11 else none
abbrev zw54(nn:Nat)(v1 v2 n:Int)(h0:Rz)(v3:Int):Option (MV×List (List AV)):=kOpt (EVd (EV cfg) 95 [.ms 0 0 nn,.int .i64 v1,.int .i64 v2,.int .i64 n,AV.fn (Fn.func 29) [] []] 4 h0) λq=>zw42 q v2 v1 nn v3
abbrev zw48(v1:Int)(nn:Nat)(h0:Rz)(n v2 v3:Int)(v10 v11:Bool):Option (MV×List (List AV)):=bif decide (v1>0)then zw49 v1 nn h0 n v2 v3 v10 v11 else zw54 nn v1 v2 n h0 v3
theorem qfR(nn:Nat)(v1 v2 v3:Int)(v10 v11:Bool)(h0:Rz){P:MV×List (List AV)->Prop}(h:Gets (bif decide (qBZ .i64 (v2 - v1)<=12)then kOpt (EVm (EV cfg) 88 [.ms 0 0 nn,.int .i64 v1,.int .i64 v2,AV.fn (Fn.func 29) [] []] 4 h0) λq=>qx q.1 (some (MV.unit,q.2))else bif v3==0 then kOpt (EVm (EV cfg) 89 [.ms 0 0 nn,.int .i64 v1,.int .i64 v2,AV.fn (Fn.func 29) [] []] 4 h0) λq=>qx q.1 (some (MV.unit,q.2))else bif ! v10 then kOpt (EVm (EV cfg) 90 [.ms 0 0 nn,.int .i64 v1,.int .i64 v2,AV.fn (Fn.func 29) [] []] 4 h0) λq=>qx q.1 (bif qB4 (0+nn) (qB1 q.2)&&true then kOpt (EVs (EV cfg) 91 [.sl (qB8 nn q.2),.int .i64 v1,.int .i64 v2,AV.fn (Fn.func 29) [] []]) λv=>kTup v λcs=>qf cs λc cs=>kInt .i64 c λn=>qf cs λc cs=>kInt .i64 c λn_1=>kNil cs (bif n_1==2 then kOpt (EVm (EV cfg) 92 [.ms 0 0 nn,.int .i64 v1,.int .i64 v2,AV.fn (Fn.func 29) [] []] 4 q.2) λq=>qx q.1 (bif v10 then bif v11 then kOpt (EVd (EV cfg) 93 [.ms 0 0 nn,.int .i64 v1,.int .i64 v2,AV.fn (Fn.func 29) [] []] 4 q.2) λq=>qr q.1 λb=>bif b then some (MV.unit,q.2)else bif decide (v1>0)then bif qd 0 (qBZ .i64 (v1 - 1))&&qe (qBZ .i64 (v1 - 1)) (↑ nn:Int)then kOpt (qB0 q.2 (0+qB7 (qBZ .i64 (v1 - 1)))) λrow=>bif qB4 4 (qB1 row)then kTmC (qB8 4 row) λn_2 n_3 s rows=>(bif qd 0 (qBZ .i64 (qBZ .i64 (v2 - 1) - qBZ .i64 (n - v1)))&&qe (qBZ .i64 (qBZ .i64 (v2 - 1) - qBZ .i64 (n - v1))) (↑ nn:Int)then kOpt (qB0 q.2 (0+qB7 (qBZ .i64 (qBZ .i64 (v2 - 1) - qBZ .i64 (n - v1))))) λrow=>bif qB4 4 (qB1 row)then kTmC (qB8 4 row) λn_4 n_5 s_1 rows_1=>(kOpt (EVs (EV cfg) 29 [.agg [.int .i64 n_2,.int .i64 n_3,.str s,.sl rows],.agg [.int .i64 n_4,.int .i64 n_5,.str s_1,.sl rows_1]]) λv=>kInt .i64 v λn_6=>bif ! decide (n_6<0)then kOpt (EVd (EV cfg) 94 [.ms 0 0 nn,.int .i64 v1,.int .i64 v2,.int .i64 (qBZ .i64 (qBZ .i64 (v2 - 1) - qBZ .i64 (n - v1))),AV.fn (Fn.func 29) [] []] 4 q.2) λq=>kInt .i64 q.1 λn=>qC nn n v2 (qBZ .i64 (v3 - 1)) v10 v11 q.2 else kOpt (EVd (EV cfg) 95 [.ms 0 0 nn,.int .i64 v1,.int .i64 v2,.int .i64 (qBZ .i64 (qBZ .i64 (v2 - 1) - qBZ .i64 (n - v1))),AV.fn (Fn.func 29) [] []] 4 q.2) λq=>kTup q.1 λcs=>qf cs λc cs=>kInt .i64 c λn=>qf cs λc cs=>qr c λb=>kNil cs (zw10 v2 v1 n nn v3 q b))else none else none)else none else none else kOpt (EVd (EV cfg) 95 [.ms 0 0 nn,.int .i64 v1,.int .i64 v2,.int .i64 (qBZ .i64 (qBZ .i64 (v2 - 1) - qBZ .i64 (n - v1))),AV.fn (Fn.func 29) [] []] 4 q.2) λq=>kTup q.1 λcs=>qf cs λc cs=>kInt .i64 c λn=>qf cs λc cs=>qr c λb=>kNil cs (zw10 v2 v1 n nn v3 q b)else bif decide (v1>0)then bif qd 0 (qBZ .i64 (v1 - 1))&&qe (qBZ .i64 (v1 - 1)) (↑ nn:Int)then kOpt (qB0 q.2 (0+qB7 (qBZ .i64 (v1 - 1)))) λrow=>bif qB4 4 (qB1 row)then kTmC (qB8 4 row) λn_2 n_3 s rows=>(bif qd 0 (qBZ .i64 (qBZ .i64 (v2 - 1) - qBZ .i64 (n - v1)))&&qe (qBZ .i64 (qBZ .i64 (v2 - 1) - qBZ .i64 (n - v1))) (↑ nn:Int)then kOpt (qB0 q.2 (0+qB7 (qBZ .i64 (qBZ .i64 (v2 - 1) - qBZ .i64 (n - v1))))) λrow=>bif qB4 4 (qB1 row)then kTmC (qB8 4 row) λn_4 n_5 s_1 rows_1=>(kOpt (EVs (EV cfg) 29 [.agg [.int .i64 n_2,.int .i64 n_3,.str s,.sl rows],.agg [.int .i64 n_4,.int .i64 n_5,.str s_1,.sl rows_1]]) λv=>kInt .i64 v λn_6=>bif ! decide (n_6<0)then kOpt (EVd (EV cfg) 94 [.ms 0 0 nn,.int .i64 v1,.int .i64 v2,.int .i64 (qBZ .i64 (qBZ .i64 (v2 - 1) - qBZ .i64 (n - v1))),AV.fn (Fn.func 29) [] []] 4 q.2) λq=>kInt .i64 q.1 λn=>qC nn n v2 (qBZ .i64 (v3 - 1)) v10 v11 q.2 else kOpt (EVd (EV cfg) 95 [.ms 0 0 nn,.int .i64 v1,.int .i64 v2,.int .i64 (qBZ .i64 (qBZ .i64 (v2 - 1) - qBZ .i64 (n - v1))),AV.fn (Fn.func 29) [] []] 4 q.2) λq=>kTup q.1 λcs=>qf cs λc cs=>kInt .i64 c λn=>qf cs λc cs=>qr c λb=>kNil cs (zw10 v2 v1 n nn v3 q b))else none else none)else none else none else kOpt (EVd (EV cfg) 95 [.ms 0 0 nn,.int .i64 v1,.int .i64 v2,.int .i64 (qBZ .i64 (qBZ .i64 (v2 - 1) - qBZ .i64 (n - v1))),AV.fn (Fn.func 29) [] []] 4 q.2) λq=>kTup q.1 λcs=>qf cs λc cs=>kInt .i64 c λn=>qf cs λc cs=>qr c λb=>kNil cs (zw10 v2 v1 n nn v3 q b)else bif decide (v1>0)then bif qd 0 (qBZ .i64 (v1 - 1))&&qe (qBZ .i64 (v1 - 1)) (↑ nn:Int)then kOpt (qB0 q.2 (0+qB7 (qBZ .i64 (v1 - 1)))) λrow=>bif qB4 4 (qB1 row)then kTmC (qB8 4 row) λn_2 n_3 s rows=>(bif qd 0 (qBZ .i64 (qBZ .i64 (v2 - 1) - qBZ .i64 (n - v1)))&&qe (qBZ .i64 (qBZ .i64 (v2 - 1) - qBZ .i64 (n - v1))) (↑ nn:Int)then kOpt (qB0 q.2 (0+qB7 (qBZ .i64 (qBZ .i64 (v2 - 1) - qBZ .i64 (n - v1))))) λrow=>bif qB4 4 (qB1 row)then kTmC (qB8 4 row) λn_4 n_5 s_1 rows_1=>(kOpt (EVs (EV cfg) 29 [.agg [.int .i64 n_2,.int .i64 n_3,.str s,.sl rows],.agg [.int .i64 n_4,.int .i64 n_5,.str s_1,.sl rows_1]]) λv=>kInt .i64 v λn_6=>bif ! decide (n_6<0)then kOpt (EVd (EV cfg) 94 [.ms 0 0 nn,.int .i64 v1,.int .i64 v2,.int .i64 (qBZ .i64 (qBZ .i64 (v2 - 1) - qBZ .i64 (n - v1))),AV.fn (Fn.func 29) [] []] 4 q.2) λq=>kInt .i64 q.1 λn=>qC nn n v2 (qBZ .i64 (v3 - 1)) v10 v11 q.2 else kOpt (EVd (EV cfg) 95 [.ms 0 0 nn,.int .i64 v1,.int .i64 v2,.int .i64 (qBZ .i64 (qBZ .i64 (v2 - 1) - qBZ .i64 (n - v1))),AV.fn (Fn.func 29) [] []] 4 q.2) λq=>kTup q.1 λcs=>qf cs λc cs=>kInt .i64 c λn=>qf cs λc cs=>qr c λb=>kNil cs (zw10 v2 v1 n nn v3 q b))else none else none)else none else none else kOpt (EVd (EV cfg) 95 [.ms 0 0 nn,.int .i64 v1,.int .i64 v2,.int .i64 (qBZ .i64 (qBZ .i64 (v2 - 1) - qBZ .i64 (n - v1))),AV.fn (Fn.func 29) [] []] 4 q.2) λq=>kTup q.1 λcs=>qf cs λc cs=>kInt .i64 c λn=>qf cs λc cs=>qr c λb=>kNil cs (zw10 v2 v1 n nn v3 q b))else bif v10 then bif v11 then bif n_1==1 then kOpt (EVd (EV cfg) 93 [.ms 0 0 nn,.int .i64 v1,.int .i64 v2,AV.fn (Fn.func 29) [] []] 4 q.2) λq=>qr q.1 λb=>bif b then some (MV.unit,q.2)else bif decide (v1>0)then bif qd 0 (qBZ .i64 (v1 - 1))&&qe (qBZ .i64 (v1 - 1)) (↑ nn:Int)then kOpt (qB0 q.2 (0+qB7 (qBZ .i64 (v1 - 1)))) λrow=>bif qB4 4 (qB1 row)then kTmC (qB8 4 row) λn_2 n_3 s rows=>(bif qd 0 n&&qe n (↑ nn:Int)then kOpt (qB0 q.2 (0+n.toNat)) λrow=>bif qB4 4 (qB1 row)then kTmC (qB8 4 row) λn_4 n_5 s_1 rows_1=>(kOpt (EVs (EV cfg) 29 [.agg [.int .i64 n_2,.int .i64 n_3,.str s,.sl rows],.agg [.int .i64 n_4,.int .i64 n_5,.str s_1,.sl rows_1]]) λv=>kInt .i64 v λn_6=>bif ! decide (n_6<0)then kOpt (EVd (EV cfg) 94 [.ms 0 0 nn,.int .i64 v1,.int .i64 v2,.int .i64 n,AV.fn (Fn.func 29) [] []] 4 q.2) λq=>kInt .i64 q.1 λn=>qC nn n v2 (qBZ .i64 (v3 - 1)) v10 v11 q.2 else kOpt (EVd (EV cfg) 95 [.ms 0 0 nn,.int .i64 v1,.int .i64 v2,.int .i64 n,AV.fn (Fn.func 29) [] []] 4 q.2) λq=>kTup q.1 λcs=>qf cs λc cs=>kInt .i64 c λn=>qf cs λc cs=>qr c λb=>kNil cs (zw10 v2 v1 n nn v3 q b))else none else none)else none else none else kOpt (EVd (EV cfg) 95 [.ms 0 0 nn,.int .i64 v1,.int .i64 v2,.int .i64 n,AV.fn (Fn.func 29) [] []] 4 q.2) λq=>zw17 q v2 v1 nn v3 else zw28 v1 nn q n v2 v3 v10 v11 else zw28 v1 nn q n v2 v3 v10 v11 else zw28 v1 nn q n v2 v3 v10 v11)else none)else bif qB4 (0+nn) (qB1 h0)&&true then kOpt (EVs (EV cfg) 91 [.sl (qB8 nn h0),.int .i64 v1,.int .i64 v2,AV.fn (Fn.func 29) [] []]) λv=>kTup v λcs=>qf cs λc cs=>kInt .i64 c λn=>qf cs λc cs=>kInt .i64 c λn_1=>kNil cs (bif n_1==2 then kOpt (EVm (EV cfg) 92 [.ms 0 0 nn,.int .i64 v1,.int .i64 v2,AV.fn (Fn.func 29) [] []] 4 h0) λq=>qx q.1 (bif v10 then bif v11 then kOpt (EVd (EV cfg) 93 [.ms 0 0 nn,.int .i64 v1,.int .i64 v2,AV.fn (Fn.func 29) [] []] 4 q.2) λq=>qr q.1 λb=>bif b then some (MV.unit,q.2)else bif decide (v1>0)then bif qd 0 (qBZ .i64 (v1 - 1))&&qe (qBZ .i64 (v1 - 1)) (↑ nn:Int)then kOpt (qB0 q.2 (0+qB7 (qBZ .i64 (v1 - 1)))) λrow=>bif qB4 4 (qB1 row)then kTmC (qB8 4 row) λn_2 n_3 s rows=>(bif qd 0 (qBZ .i64 (qBZ .i64 (v2 - 1) - qBZ .i64 (n - v1)))&&qe (qBZ .i64 (qBZ .i64 (v2 - 1) - qBZ .i64 (n - v1))) (↑ nn:Int)then kOpt (qB0 q.2 (0+qB7 (qBZ .i64 (qBZ .i64 (v2 - (1:Int)) - qBZ .i64 (n - v1))))) λrow=>bif qB4 4 (qB1 row)then kTmC (qB8 4 row) λn_4 n_5 s_1 rows_1=>(kOpt (EVs (EV cfg) 29 [.agg [.int .i64 n_2,.int .i64 n_3,.str s,.sl rows],.agg [.int .i64 n_4,.int .i64 n_5,.str s_1,.sl rows_1]]) λv=>kInt .i64 v λn_6=>bif ! decide (n_6<0)then kOpt (EVd (EV cfg) 94 [.ms 0 0 nn,.int .i64 v1,.int .i64 v2,.int .i64 (qBZ .i64 (qBZ .i64 (v2 - 1) - qBZ .i64 (n - v1))),AV.fn (Fn.func 29) [] []] 4 q.2) λq=>kInt .i64 q.1 λn=>qC nn n v2 v3 v10 v11 q.2 else kOpt (EVd (EV cfg) 95 [.ms 0 0 nn,.int .i64 v1,.int .i64 v2,.int .i64 (qBZ .i64 (qBZ .i64 (v2 - 1) - qBZ .i64 (n - v1))),AV.fn (Fn.func 29) [] []] 4 q.2) λq=>kTup q.1 λcs=>qf cs λc cs=>kInt .i64 c λn=>qf cs λc cs=>qr c λb=>kNil cs (zw35 v2 v1 n nn v3 q b))else none else none)else none else none else kOpt (EVd (EV cfg) 95 [.ms 0 0 nn,.int .i64 v1,.int .i64 v2,.int .i64 (qBZ .i64 (qBZ .i64 (v2 - 1) - qBZ .i64 (n - v1))),AV.fn (Fn.func 29) [] []] 4 q.2) λq=>kTup q.1 λcs=>qf cs λc cs=>kInt .i64 c λn=>qf cs λc cs=>qr c λb=>kNil cs (zw35 v2 v1 n nn v3 q b)else bif decide (v1>0)then bif qd 0 (qBZ .i64 (v1 - 1))&&qe (qBZ .i64 (v1 - 1)) (↑ nn:Int)then kOpt (qB0 q.2 (0+qB7 (qBZ .i64 (v1 - 1)))) λrow=>bif qB4 4 (qB1 row)then kTmC (qB8 4 row) λn_2 n_3 s rows=>(bif qd 0 (qBZ .i64 (qBZ .i64 (v2 - 1) - qBZ .i64 (n - v1)))&&qe (qBZ .i64 (qBZ .i64 (v2 - 1) - qBZ .i64 (n - v1))) (↑ nn:Int)then kOpt (qB0 q.2 (0+qB7 (qBZ .i64 (qBZ .i64 (v2 - 1) - qBZ .i64 (n - v1))))) λrow=>bif qB4 4 (qB1 row)then kTmC (qB8 4 row) λn_4 n_5 s_1 rows_1=>(kOpt (EVs (EV cfg) 29 [.agg [.int .i64 n_2,.int .i64 n_3,.str s,.sl rows],.agg [.int .i64 n_4,.int .i64 n_5,.str s_1,.sl rows_1]]) λv=>kInt .i64 v λn_6=>bif ! decide (n_6<0)then kOpt (EVd (EV cfg) 94 [.ms 0 0 nn,.int .i64 v1,.int .i64 v2,.int .i64 (qBZ .i64 (qBZ .i64 (v2 - 1) - qBZ .i64 (n - v1))),AV.fn (Fn.func 29) [] []] 4 q.2) λq=>kInt .i64 q.1 λn=>qC nn n v2 v3 v10 v11 q.2 else kOpt (EVd (EV cfg) 95 [.ms 0 0 nn,.int .i64 v1,.int .i64 v2,.int .i64 (qBZ .i64 (qBZ .i64 (v2 - 1) - qBZ .i64 (n - v1))),AV.fn (Fn.func 29) [] []] 4 q.2) λq=>kTup q.1 λcs=>qf cs λc cs=>kInt .i64 c λn=>qf cs λc cs=>qr c λb=>kNil cs (zw35 v2 v1 n nn v3 q b))else none else none)else none else none else kOpt (EVd (EV cfg) 95 [.ms 0 0 nn,.int .i64 v1,.int .i64 v2,.int .i64 (qBZ .i64 (qBZ .i64 (v2 - 1) - qBZ .i64 (n - v1))),AV.fn (Fn.func 29) [] []] 4 q.2) λq=>kTup q.1 λcs=>qf cs λc cs=>kInt .i64 c λn=>qf cs λc cs=>qr c λb=>kNil cs (zw35 v2 v1 n nn v3 q b)else bif decide (v1>0)then bif qd 0 (qBZ .i64 (v1 - (1:Int)))&&qe (qBZ .i64 (v1 - 1)) (↑ nn:Int)then kOpt (qB0 q.2 (0+qB7 (qBZ .i64 (v1 - 1)))) λrow=>bif qB4 4 (qB1 row)then kTmC (qB8 4 row) λn_2 n_3 s rows=>(bif qd 0 (qBZ .i64 (qBZ .i64 (v2 - 1) - qBZ .i64 (n - v1)))&&qe (qBZ .i64 (qBZ .i64 (v2 - 1) - qBZ .i64 (n - v1))) (↑ nn:Int)then kOpt (qB0 q.2 (0+qB7 (qBZ .i64 (qBZ .i64 (v2 - 1) - qBZ .i64 (n - v1))))) λrow=>bif qB4 4 (qB1 row)then kTmC (qB8 4 row) λn_4 n_5 s_1 rows_1=>(kOpt (EVs (EV cfg) 29 [.agg [.int .i64 n_2,.int .i64 n_3,.str s,.sl rows],.agg [.int .i64 n_4,.int .i64 n_5,.str s_1,.sl rows_1]]) λv=>kInt .i64 v λn_6=>bif ! decide (n_6<0)then kOpt (EVd (EV cfg) 94 [.ms 0 0 nn,.int .i64 v1,.int .i64 v2,.int .i64 (qBZ .i64 (qBZ .i64 (v2 - 1) - qBZ .i64 (n - v1))),AV.fn (Fn.func 29) [] []] 4 q.2) λq=>kInt .i64 q.1 λn=>qC nn n v2 v3 v10 v11 q.2 else kOpt (EVd (EV cfg) 95 [.ms 0 0 nn,.int .i64 v1,.int .i64 v2,.int .i64 (qBZ .i64 (qBZ .i64 (v2 - 1) - qBZ .i64 (n - v1))),AV.fn (Fn.func 29) [] []] 4 q.2) λq=>kTup q.1 λcs=>qf cs λc cs=>kInt .i64 c λn=>qf cs λc cs=>qr c λb=>kNil cs (zw35 v2 v1 n nn v3 q b))else none else none)else none else none else kOpt (EVd (EV cfg) 95 [.ms 0 0 nn,.int .i64 v1,.int .i64 v2,.int .i64 (qBZ .i64 (qBZ .i64 (v2 - 1) - qBZ .i64 (n - v1))),AV.fn (Fn.func 29) [] []] 4 q.2) λq=>kTup q.1 λcs=>qf cs λc cs=>kInt .i64 c λn=>qf cs λc cs=>qr c λb=>kNil cs (zw35 v2 v1 n nn v3 q b))else bif v10 then bif v11 then bif n_1==(1:Int)then kOpt (EVd (EV cfg) 93 [.ms 0 0 nn,.int .i64 v1,.int .i64 v2,AV.fn (Fn.func 29) [] []] 4 h0) λq=>qr q.1 λb=>bif b then some (MV.unit,q.2)else bif decide (v1>0)then bif qd 0 (qBZ .i64 (v1 - 1))&&qe (qBZ .i64 (v1 - 1)) (↑ nn:Int)then kOpt (qB0 q.2 (0+qB7 (qBZ .i64 (v1 - 1)))) λrow=>bif qB4 4 (qB1 row)then kTmC (qB8 4 row) λn_2 n_3 s rows=>(bif qd 0 n&&qe n (↑ nn:Int)then kOpt (qB0 q.2 (0+n.toNat)) λrow=>bif qB4 4 (qB1 row)then kTmC (qB8 4 row) λn_4 n_5 s_1 rows_1=>(kOpt (EVs (EV cfg) 29 [.agg [.int .i64 n_2,.int .i64 n_3,.str s,.sl rows],.agg [.int .i64 n_4,.int .i64 n_5,.str s_1,.sl rows_1]]) λv=>kInt .i64 v λn_6=>bif ! decide (n_6<0)then kOpt (EVd (EV cfg) 94 [.ms 0 0 nn,.int .i64 v1,.int .i64 v2,.int .i64 n,AV.fn (Fn.func 29) [] []] 4 q.2) λq=>kInt .i64 q.1 λn=>qC nn n v2 v3 v10 v11 q.2 else kOpt (EVd (EV cfg) 95 [.ms 0 0 nn,.int .i64 v1,.int .i64 v2,.int .i64 n,AV.fn (Fn.func 29) [] []] 4 q.2) λq=>kTup q.1 λcs=>qf cs λc cs=>kInt .i64 c λn=>qf cs λc cs=>qr c λb=>kNil cs (zw35 v2 v1 n nn v3 q b))else none else none)else none else none else kOpt (EVd (EV cfg) 95 [.ms 0 0 nn,.int .i64 v1,.int .i64 v2,.int .i64 n,AV.fn (Fn.func 29) [] []] 4 q.2) λq=>zw42 q v2 v1 nn v3 else zw48 v1 nn h0 n v2 v3 v10 v11 else bif decide (v1>(0:Int))then zw49 v1 nn h0 n v2 v3 v10 v11 else zw54 nn v1 v2 n h0 v3 else zw48 v1 nn h0 n v2 v3 v10 v11)else none) P):Gets (qC nn v1 v2 v3 v10 v11 h0) P:=
  gE (λ_=>ql (cfg:=cfg) (f:=61) (rd:=none) (bs:=1)) (by kernel_rfl) h
theorem qfo(nn:Nat)(a b n v11:Int)(h0 h1:Rz){P:MV×List (List AV)->Prop}(h:Gets (kOpt (qn (Op.intDiv BinOp.quo .i64 (qBZ .i64 (b - a)) 4)) λv=>kInt .i64 v λn_1=>bif decide (v11<=qBZ .i64 (qBZ .i64 (a+qBZ .i64 (n_1*2))+1))then kOpt (EVd (EV cfg) 124 [.ptr 0 0 0] 1 h1) λq=>kInt .u64 q.1 λn_2=>kOpt (qn (Op.intBits BinOp.and .u64 n_2 (qBZ .u64 (n - 1)))) λv=>kInt .u64 v λn_3=>bif decide (qBZ .i64 n_3≥qBZ .i64 (b - a))then zw5 a n_3 b nn h0 v11 n q else bif qd 0 (qBZ .i64 (a+qBZ .i64 n_3))&&qe (qBZ .i64 (a+qBZ .i64 n_3)) (↑ nn:Int)then kOpt (qB0 h0 (0+qB7 (qBZ .i64 (a+qBZ .i64 n_3)))) λrow=>bif qB4 4 (qB1 row)then kTmC (qB8 4 row) λn_4 n_5 s rows=>(bif qd 0 v11&&qe v11 (↑ nn:Int)then kOpt (qB0 h0 (0+v11.toNat)) λrow=>bif qB4 4 (qB1 row)then kTmC (qB8 4 row) λn_6 n_7 s_1 rows_1=>(bif qd (0:Int) v11&&qe v11 (↑ nn:Int)then kOpt (qB0 h0 (0+v11.toNat)) λrow=>bif qB4 4 (qB1 row)then bif qd 0 (qBZ .i64 (a+qBZ .i64 n_3))&&qe (qBZ .i64 (a+qBZ .i64 n_3)) (↑ nn:Int)then kOpt (qB0 (qCA h0 (0+v11.toNat) (.int .i64 n_4:: .int .i64 n_5:: .str s:: .sl rows::qCk 4 row)) (0+qB7 (qBZ .i64 (a+qBZ .i64 n_3)))) λrow_1=>bif qB4 4 (qB1 row_1)then qaB nn a b n (qBZ .i64 (v11+1)) (qCA (qCA h0 (0+v11.toNat) (.int .i64 n_4:: .int .i64 n_5:: .str s:: .sl rows::qCk 4 row)) (0+qB7 (qBZ .i64 (a+qBZ .i64 n_3))) (.int .i64 n_6:: .int .i64 n_7:: .str s_1:: .sl rows_1::qCk 4 row_1)) q.2 else none else none else none else none)else none else none)else none else none else some (MV.unit,h0)) P):Gets (qaB nn a b n v11 h0 h1) P:=
  gE (λ_=>ql (cfg:=cfg) (f:=90) (rd:=none) (bs:=1)) (by kernel_rfl) h
end Go.Proofs.YtgleolmhpmljhaaGreat
end
noncomputable section
namespace Go.Av
theorem rdB{n i:Nat}(h:i<n):(qd 0 (i:Int)&&qe (i:Int) (n:Int))=true:=by rw[qE,qP,qCK h];rfl
def qB(X:List (List AV))(l:List Tm):List (List AV):=qa l++X
theorem qmC{X:List (List AV)}{l:List Tm}{i:Nat}{x:Tm}(hx:l[i]? =some x):(qB X l)[i]? =some x.cells:=by
 have hi:=(qB5.1 hx).1;unfold qB;rw[qCf (by rw[qg];exact hi),xu,hx];rfl
theorem qge{X:List (List AV)}{l:List Tm}{i:Nat}(hi:i<l.length)(y:Tm):(qB X l).set i y.cells=qB X (l.set i y):=by
 unfold qB;rw[List.set_append_left _ _ (by rw[qg];exact hi),qgf]
theorem rdG{X:List (List AV)}{l:List Tm}{i:Nat}{x:Tm}(hx:l[i]? =some x):qB0 (qB X l) (0+qB7 (i:Int))=some x.cells:=by
 rw[qCG,qv,qCi,qmC hx]
theorem sw4{X:List (List AV)}{l:List Tm}{i j:Nat}{x y:Tm}(hx:l[i]? =some x)(_hy:l[j]? =some y):qCA (qB X l) (0+qB7 (i:Int)) [.int .i64 y.kind,.int .i64 y.num,.str y.str,.sl (qa y.subs)]=qB X (l.set i y):=by
 rw[qCG,qCi,←Tm.cells_eq,qge (qB5.1 hx).1]
theorem sw5{X:List (List AV)}{l:List Tm}{i j:Nat}{x y:Tm}(_hx:l[i]? =some x)(hy:l[j]? =some y):qCA (qB X (l.set i y)) (0+qB7 (j:Int)) [.int .i64 x.kind,.int .i64 x.num,.str x.str,.sl (qa x.subs)]=qB X ((l.set i y).set j x):=by
 rw[qCG,qCi,←Tm.cells_eq,qge (by rw[List.length_set];exact(qB5.1 hy).1)]
theorem sw2{X:List (List AV)}{l:List Tm}{i j:Nat}{x y:Tm}(hx:l[i]? =some x)(hy:l[j]? =some y):qB0 (qB X (l.set i y)) (0+qB7 (j:Int))=some y.cells:=by
 refine rdG ?_;have hi:=(qB5.1 hx).1
 by_cases h:i=j
 ·subst h;rw[List.getElem?_set_self hi]
 ·rw[List.getElem?_set_ne h,hy]
theorem sw3{l:List Tm}{i j:Nat}{x y:Tm}(hx:l[i]? =some x)(hy:l[j]? =some y):(l.set i y).set j x=yX l i j:=(qn3 hx hy).symm
theorem qK{l:List Tm}{i:Nat}(h:i<l.length):∃x,l[i]? =some x:=⟨l[i],qB3 h⟩
def qX(l:List Tm):Prop:=∀x∈l,x.Ok
theorem qX.perm{l l':List Tm}(h:qX l)(p:l'.Perm l):qX l':=λx hx=>h x (p.mem_iff.1 hx)
theorem qX.at{l:List Tm}(h:qX l){i:Nat}{x:Tm}(hx:l[i]? =some x):x.Ok:=h x (qCc hx)
theorem wr1{n:Nat}(h:n<4398046511104):qBZ .i64 ((n:Int)+1)=((n+1:Nat):Int):=by rw[qt (by omega) (by omega)];omega
theorem wr0{n:Nat}(h:n<4398046511104):qBZ .i64 (((n+1:Nat):Int) - 1)=(n:Int):=by rw[qt (by omega) (by omega)];omega
def xf(X:List (List AV))(l:List Tm)(r:MV×List (List AV)):Prop:=∃l':List Tm,l'.Perm l∧r=(.unit,qB X l')
end Go.Av
namespace Go.Proofs.YtgleolmhpmljhaaGreat
open Go.Av
variable {X : List (List AV)}
abbrev cmpF:AV:=.fn (Fn.func 29) [] []
theorem qsF{n a b i:Nat}(hn:n<1099511627776){P:MV×List (List AV)->Prop}:∀(j:Nat) (l:List Tm),l.length=n->qX l->j<n->i<n ->
  (∀l':List Tm,l'.Perm l->Gets (qct n a b ((i+1:Nat):Int) (qB X l')) P)->Gets (qhq n a b (i:Int) (j:Int) (qB X l)) P:=by
 intro j
 induction j with
 |zero=>
  intro l hl hok hj hi h;refine qf7 _ _ _ _ _ _ ?_;rw[qCL (by omega),wr1 (by omega)];exact h l (List.Perm.refl _)
 |succ j ih=>
  intro l hl hok hj hi h;refine qf7 _ _ _ _ _ _ ?_
  by_cases ha:a<j+1
  case neg=>
   rw[qCL (by omega),wr1 (by omega)];exact h l (List.Perm.refl _)
  obtain⟨y,hy⟩:=qK (l:=l) (i:=j+1) (by omega);obtain⟨x,hx⟩:=qK (l:=l) (i:=j) (by omega);have hc:=vG (hok.at hy) (hok.at hx);rw[qCK (show((j+1:Nat):Int)>(a:Int) by omega),wr0 (by omega),wr1 (show i<4398046511104 by omega)];simp -implicitDefEqProofs only[cond_true,qb,qj,show qB4 4 4=true from rfl,qm,qk,qF,qq,qi,rdB (show j+1<n by omega),rdB (show j<n by omega),rdG hy,rdG hx,hc]
  by_cases hlt:cmpT y x<0
  ·rw[qCK hlt];simp -implicitDefEqProofs only[cond_true,qb,qj,show qB4 4 4=true from rfl,qF,rdB (show j+1<n by omega),rdB (show j<n by omega),rdG hy,rdG hx,sw2 hy hx,sw4 hy hx,sw5 hy hx,sw3 hy hx];refine ih _ (by rw[vF];exact hl) (hok.perm (qH _ _ _)) (by omega) hi ?_
   intro l' hp;exact h l' (hp.trans (qH _ _ _))
  ·rw[qCL hlt];exact h l (List.Perm.refl _)
theorem qsE{n a b:Nat}(hn:n<1099511627776)(hb:b<=n):∀(d i:Nat) (l:List Tm),l.length=n->qX l->b<=i+d->Gets (qct n a b (i:Int) (qB X l)) (xf X l):=by
 intro d
 induction d with
 |zero=>
  intro i l hl hok hd;refine qf8 _ _ _ _ _ ?_;rw[qCL (by omega)];exact⟨_,rfl,l,List.Perm.refl _,rfl⟩
 |succ d ih=>
  intro i l hl hok hd;refine qf8 _ _ _ _ _ ?_
  by_cases hib:i<b
  case neg=>
   rw[qCL (by omega)];exact⟨_,rfl,l,List.Perm.refl _,rfl⟩
  rw[qCK (show(i:Int)<(b:Int) by omega)];refine qsF hn i l hl hok (by omega) (by omega) ?_;intro l' hp;refine(ih (i+1) l' (by rw[hp.length_eq];exact hl) (hok.perm hp) (by omega)).mono ?_;rintro r ⟨l2,h2,rfl⟩;exact⟨l2,h2.trans hp,rfl⟩
theorem qrb{n a b:Nat}(hn:n<1099511627776)(hb:b<=n)(ha:a<=n){l:List Tm}(hl:l.length=n)(hok:qX l):
  Gets (EVm (EV cfg) 88 [.ms 0 0 n,.int .i64 (a:Int),.int .i64 (b:Int),cmpF] 4 (qB X l)) (xf X l):=by
 refine qwA _ _ _ _ ?_;rw[wr1 (by omega)];exact qsE hn hb b (a+1) l hl hok (by omega)
theorem qtY{n:Nat}(hn:n<1099511627776):∀(d i j:Nat) (l:List Tm),l.length=n->qX l->j<=i+d->j<n->Gets (qhn n (i:Int) (j:Int) (qB X l)) (xf X l):=by
 intro d
 induction d with
 |zero=>
  intro i j l hl hok hd hj;refine qf4 _ _ _ _ ?_;rw[qCL (by omega)];exact⟨_,rfl,l,List.Perm.refl _,rfl⟩
 |succ d ih=>
  intro i j l hl hok hd hj;refine qf4 _ _ _ _ ?_
  by_cases hij:i<j
  case neg=>
   rw[qCL (by omega)];exact⟨_,rfl,l,List.Perm.refl _,rfl⟩
  obtain⟨j,rfl⟩:∃k,j=k+1:=⟨j - 1,by omega⟩;obtain⟨x,hx⟩:=qK (l:=l) (i:=i) (by omega);obtain⟨y,hy⟩:=qK (l:=l) (i:=j+1) (by omega);rw[qCK (show(i:Int)<((j+1:Nat):Int) by omega),wr0 (by omega),wr1 (by omega)];simp -implicitDefEqProofs only[cond_true,qb,qj,show qB4 4 4=true from rfl,qm,qk,qF,rdB (show i<n by omega),rdB (show j+1<n by omega),rdG hx,rdG hy,sw2 hx hy,sw4 hx hy,sw5 hx hy,sw3 hx hy]
  refine(ih (i+1) j _ (by rw[vF];exact hl) (hok.perm (qH _ _ _)) (by omega) (by omega)).mono ?_;rintro r ⟨l2,h2,rfl⟩;exact⟨l2,h2.trans (qH _ _ _),rfl⟩
theorem qxZ{n a b:Nat}(hn:n<1099511627776)(hb:b<=n)(hab:a<b){l:List Tm}(hl:l.length=n)(hok:qX l):
  Gets (EVm (EV cfg) 92 [.ms 0 0 n,.int .i64 (a:Int),.int .i64 (b:Int),cmpF] 4 (qB X l)) (xf X l):=by
 refine qv3 _ _ _ _ ?_;obtain⟨b,rfl⟩:∃k,b=k+1:=⟨b - 1,by omega⟩;rw[wr0 (by omega)];exact qtY hn b a b l hl hok (by omega) (by omega)
end Go.Proofs.YtgleolmhpmljhaaGreat
end
noncomputable section
namespace Go.Av
def xj(X:List (List AV))(l:List Tm)(Q:AV->Prop)(r:AV×List (List AV)):Prop:=∃(l':List Tm) (v:AV),l'.Perm l∧Q v∧r=(v,qB X l')
theorem qkx(m k:Nat):((m:Int)).tdiv (k:Int)=((m / k:Nat):Int):=rfl
end Go.Av
namespace Go.Proofs.YtgleolmhpmljhaaGreat
open Go.Av
variable {X : List (List AV)}
theorem qrT{n f hi:Nat}(hn:n<1099511627776)(hf:f+hi<=n):∀(d r:Nat) (l:List Tm),l.length=n->qX l->hi<=r+d->r<=n->Gets (qaC n hi f (r:Int) (qB X l)) (xf X l):=by
 intro d
 induction d with
 |zero=>
  intro r l hl hok hd hr;refine qfp _ _ _ _ _ ?_;have w1:qBZ .i64 ((2:Int)*(r:Int))=((2*r:Nat):Int):=by rw[qt (by omega) (by omega)];omega
  have w2:qBZ .i64 (((2*r:Nat):Int)+1)=((2*r+1:Nat):Int):=by rw[qt (by omega) (by omega)];omega
  rw[w1,w2,qCK (show((2*r+1:Nat):Int)≥(hi:Int) by omega)];exact⟨_,rfl,l,List.Perm.refl _,rfl⟩
 |succ d ih=>
  intro r l hl hok hd hr;refine qfp _ _ _ _ _ ?_;have w1:qBZ .i64 ((2:Int)*(r:Int))=((2*r:Nat):Int):=by rw[qt (by omega) (by omega)];omega
  have w2:qBZ .i64 (((2*r:Nat):Int)+1)=((2*r+1:Nat):Int):=by rw[qt (by omega) (by omega)];omega
  by_cases h1:hi<=2*r+1
  ·rw[w1,w2,qCK (show((2*r+1:Nat):Int)≥(hi:Int) by omega)];exact⟨_,rfl,l,List.Perm.refl _,rfl⟩
  have w3:qBZ .i64 (((2*r+1:Nat):Int)+1)=((2*r+2:Nat):Int):=by rw[qt (by omega) (by omega)];omega
  have w4:qBZ .i64 ((f:Int)+((2*r+1:Nat):Int))=((f+(2*r+1):Nat):Int):=by rw[qt (by omega) (by omega)];omega
  have w5:qBZ .i64 (((f+(2*r+1):Nat):Int)+1)=((f+(2*r+2):Nat):Int):=by rw[qt (by omega) (by omega)];omega
  have w6:qBZ .i64 ((f:Int)+((2*r+2:Nat):Int))=((f+(2*r+2):Nat):Int):=by rw[qt (by omega) (by omega)];omega
  have w7:qBZ .i64 ((f:Int)+(r:Int))=((f+r:Nat):Int):=by rw[qt (by omega) (by omega)];omega
  simp only[w1,w2,w3,w4,w5,w6,w7];rw[qCL (show ¬((2*r+1:Nat):Int)≥(hi:Int) by omega)];obtain⟨z,hz⟩:=qK (l:=l) (i:=f+r) (by omega);obtain⟨x,hx⟩:=qK (l:=l) (i:=f+(2*r+1)) (by omega);have go:∀c:Nat,r<c->c<=2*r+2->c<=n->Gets (qaC n hi f (c:Int) (qB X (yX l (f+r) (f+c)))) (xf X l):=λc h1 h2 h3=>by
   refine(ih c _ (by rw[vF];exact hl) (hok.perm (qH _ _ _)) (by omega) h3).mono ?_;rintro r ⟨l2,h2,rfl⟩;exact⟨l2,h2.trans (qH _ _ _),rfl⟩
  have done:xf X l (MV.unit,qB X l):=⟨l,List.Perm.refl _,rfl⟩;have hcx:=vG (hok.at hz) (hok.at hx)
  by_cases h2:2*r+2<hi
  ·obtain⟨y,hy⟩:=qK (l:=l) (i:=f+(2*r+2)) (by omega);have hcy:=vG (hok.at hz) (hok.at hy);have hxy:=vG (hok.at hx) (hok.at hy);rw[qCK (show((2*r+2:Nat):Int)<(hi:Int) by omega)];simp -implicitDefEqProofs only[cond_true,cond_false,qb,qj,show qB4 4 4=true from rfl,qm,qk,qq,qi,rdB (show f+(2*r+1)<n by omega),rdB (show f+(2*r+2)<n by omega),rdG hx,rdG hy,hxy]
   by_cases hlt:cmpT x y<0
   ·rw[qCK hlt];simp -implicitDefEqProofs only[cond_true,qb,qj,show qB4 4 4=true from rfl,qm,qk,qF,qq,qi,rdB (show f+r<n by omega),rdB (show f+(2*r+2)<n by omega),rdG hz,rdG hy,hcy]
    by_cases hlt2:cmpT z y<0
    ·rw[qCK hlt2];simp -implicitDefEqProofs only[cond_true,cond_false,qCj,qb,qj,show qB4 4 4=true from rfl,qF,rdB (show f+r<n by omega),rdB (show f+(2*r+2)<n by omega),rdG hz,rdG hy,sw2 hz hy,sw4 hz hy,sw5 hz hy,sw3 hz hy];exact go (2*r+2) (by omega) (by omega) (by omega)
    ·rw[qCL hlt2];exact⟨_,rfl,done⟩
   ·rw[qCL hlt];simp -implicitDefEqProofs only[cond_true,cond_false,qb,qj,show qB4 4 4=true from rfl,qm,qk,qF,qq,qi,rdB (show f+r<n by omega),rdB (show f+(2*r+1)<n by omega),rdG hz,rdG hx,hcx]
    by_cases hlt2:cmpT z x<0
    ·rw[qCK hlt2];simp -implicitDefEqProofs only[cond_true,cond_false,qCj,qb,qj,show qB4 4 4=true from rfl,qF,rdB (show f+r<n by omega),rdB (show f+(2*r+1)<n by omega),rdG hz,rdG hx,sw2 hz hx,sw4 hz hx,sw5 hz hx,sw3 hz hx];exact go (2*r+1) (by omega) (by omega) (by omega)
    ·rw[qCL hlt2];exact⟨_,rfl,done⟩
  ·rw[qCL (show ¬((2*r+2:Nat):Int)<(hi:Int) by omega)];simp -implicitDefEqProofs only[cond_true,cond_false,qb,qj,show qB4 4 4=true from rfl,qm,qk,qF,qq,qi,rdB (show f+r<n by omega),rdB (show f+(2*r+1)<n by omega),rdG hz,rdG hx,hcx]
   by_cases hlt2:cmpT z x<0
   ·rw[qCK hlt2];simp -implicitDefEqProofs only[cond_true,cond_false,qCj,qb,qj,show qB4 4 4=true from rfl,qF,rdB (show f+r<n by omega),rdB (show f+(2*r+1)<n by omega),rdG hz,rdG hx,sw2 hz hx,sw4 hz hx,sw5 hz hx,sw3 hz hx];exact go (2*r+1) (by omega) (by omega) (by omega)
   ·rw[qCL hlt2];exact⟨_,rfl,done⟩
theorem qoa{n f hi r:Nat}(hn:n<1099511627776)(hf:f+hi<=n)(hr:r<=n){l:List Tm}(hl:l.length=n)(hok:qX l):
  Gets (EVm (EV cfg) 122 [.ms 0 0 n,.int .i64 (r:Int),.int .i64 (hi:Int),.int .i64 (f:Int),cmpF] 4 (qB X l)) (xf X l):=by
 refine qtR _ _ _ _ _ ?_;exact qrT hn hf hi r l hl hok (by omega) hr
theorem quM{n a b:Nat}(hn:n<1099511627776)(hb:b<=n):∀(j:Nat) (l:List Tm),a+j<=b->l.length=n->qX l->Gets (qho n a ((j:Int) - 1) (qB X l)) (xf X l):=by
 intro j
 induction j with
 |zero=>
  intro l hj hl hok;refine qf5 _ _ _ _ ?_;rw[qCL (by omega)];exact⟨_,rfl,l,List.Perm.refl _,rfl⟩
 |succ j ih=>
  intro l hj hl hok;refine qf5 _ _ _ _ ?_;have e0:(((j+1:Nat):Int) - 1)=(j:Int):=by omega
  have w1:qBZ .i64 ((a:Int)+(j:Int))=((a+j:Nat):Int):=by rw[qt (by omega) (by omega)];omega
  have w2:qBZ .i64 ((j:Int) - 1)=(j:Int) - 1:=by rw[qt (by omega) (by omega)]
  obtain⟨x,hx⟩:=qK (l:=l) (i:=a) (by omega);obtain⟨y,hy⟩:=qK (l:=l) (i:=a+j) (by omega);have hs:=qoa (X:=X) (f:=a) (hi:=j) (r:=0) hn (by omega) (by omega) (l:=yX l a (a+j)) (by rw[vF];exact hl) (hok.perm (qH _ _ _));simp only[e0,w1,w2];rw[qCK (show(j:Int)≥0 by omega)];simp -implicitDefEqProofs only[cond_true,qb,qj,show qB4 4 4=true from rfl,qm,qk,qF,rdB (show a<n by omega),rdB (show a+j<n by omega),rdG hx,rdG hy,sw2 hx hy,sw4 hx hy,sw5 hx hy,sw3 hx hy]
  refine Gets.bind hs ?_;rintro r ⟨l2,h2,rfl⟩;simp only[qU];refine(ih l2 (by omega) (by rw[h2.length_eq,vF];exact hl) ((hok.perm (qH _ _ _)).perm h2)).mono ?_;rintro r ⟨l3,h3,rfl⟩;exact⟨l3,h3.trans (h2.trans (qH _ _ _)),rfl⟩
theorem quO{n a b:Nat}(hn:n<1099511627776)(hb:b<=n)(hab:a<b):∀(j:Nat) (l:List Tm),a+j<=b->l.length=n->qX l->Gets (qhp n a b ((j:Int) - 1) (qB X l)) (xf X l):=by
 have w1:qBZ .i64 ((b:Int) - (a:Int))=((b - a:Nat):Int):=by rw[qt (by omega) (by omega)];omega
 have w3:qBZ .i64 (((b - a:Nat):Int) - 1)=((b - a:Nat):Int) - 1:=by rw[qt (by omega) (by omega)]
 intro j
 induction j with
 |zero=>
  intro l hj hl hok;refine qf6 _ _ _ _ _ ?_;rw[qCL (by omega),w1,w3];exact quM hn hb (b - a) l (by omega) hl hok
 |succ j ih=>
  intro l hj hl hok;refine qf6 _ _ _ _ _ ?_;have e0:(((j+1:Nat):Int) - 1)=(j:Int):=by omega
  have w2:qBZ .i64 ((j:Int) - 1)=(j:Int) - 1:=by rw[qt (by omega) (by omega)]
  have hs:=qoa (X:=X) (f:=a) (hi:=b - a) (r:=j) hn (by omega) (by omega) hl hok;simp only[e0,w1,w2];rw[qCK (show(j:Int)≥0 by omega)];refine Gets.bind hs ?_;rintro r ⟨l2,h2,rfl⟩;simp only[qU];refine(ih l2 (by omega) (by rw[h2.length_eq];exact hl) (hok.perm h2)).mono ?_;rintro r ⟨l3,h3,rfl⟩;exact⟨l3,h3.trans h2,rfl⟩
theorem qwG{n a b:Nat}(hn:n<1099511627776)(hb:b<=n)(hab:a<b){l:List Tm}(hl:l.length=n)(hok:qX l):
  Gets (EVm (EV cfg) 89 [.ms 0 0 n,.int .i64 (a:Int),.int .i64 (b:Int),cmpF] 4 (qB X l)) (xf X l):=by
 refine quN _ _ _ _ ?_;have w1:qBZ .i64 ((b:Int) - (a:Int))=((b - a:Nat):Int):=by rw[qt (by omega) (by omega)];omega
 have w3:qBZ .i64 (((b - a:Nat):Int) - 1)=((b - a - 1:Nat):Int):=by rw[qt (by omega) (by omega)];omega
 have w4:qBZ .i64 ((((b - a - 1:Nat):Int)).tdiv 2)=(((b - a - 1) / 2+1:Nat):Int) - 1:=by
  rw[show((2:Int))=((2:Nat):Int)from rfl,qkx,qt (by omega) (by omega)];omega
 rw[w1,w3,yN (by decide),w4];simp only[qb,qi];exact quO hn hb hab ((b - a - 1) / 2+1) l (by omega) hl hok
end Go.Proofs.YtgleolmhpmljhaaGreat
end
noncomputable section
namespace Go.Av
def MidB(a b:Nat)(v:AV):Prop:=∃(j:Nat) (c:Bool),a<=j∧j<b∧v= .tup [.int .i64 (j:Int),.bool c]
def MidI(a b:Nat)(v:AV):Prop:=∃i:Nat,a<i∧i<=b∧v= .int .i64 (i:Int)
def IsB(v:AV):Prop:=∃c:Bool,v= .bool c
theorem xj.trans{X:List (List AV)}{l l':List Tm}{Q:AV->Prop}{r:AV×List (List AV)}(h:xj X l' Q r)(p:l'.Perm l):xj X l Q r:=by
 obtain⟨l2,v,h2,hv,rfl⟩:=h;exact⟨l2,v,h2.trans p,hv,rfl⟩
theorem xf.trans{X:List (List AV)}{l l':List Tm}{r:MV×List (List AV)}(h:xf X l' r)(p:l'.Perm l):xf X l r:=by
 obtain⟨l2,h2,rfl⟩:=h;exact⟨l2,h2.trans p,rfl⟩
end Go.Av
namespace Go.Proofs.YtgleolmhpmljhaaGreat
open Go.Av
variable {X : List (List AV)}
theorem qv9{n a b:Nat}(hn:n<1099511627776)(hb:b<=n):∀(m:Nat),
  (∀(i j:Nat) (l:List Tm),j+1 - i<=m->a<i->i<=b->a<=j->j<b->l.length=n->qX l->Gets (qbk n a (i:Int) (j:Int) (qB X l)) (xj X l (MidB a b))) ∧
  (∀(i j:Nat) (l:List Tm),j+1 - i<=m->a<i->i<=b->a<=j->j<b->l.length=n->qX l->Gets (qhi n a (j:Int) (i:Int) (qB X l)) (xj X l (MidB a b))):=by
 intro m
 induction m with
 |zero=>
  have h4:∀(i j:Nat) (l:List Tm),j+1 - i<=0->a<i->i<=b->a<=j->j<b->l.length=n->qX l->Gets (qbk n a (i:Int) (j:Int) (qB X l)) (xj X l (MidB a b)):=by
   intro i j l hm hai hib haj hjb hl hok;refine qfS _ _ _ _ _ ?_;obtain⟨x,hx⟩:=qK (l:=l) (i:=j) (by omega);obtain⟨y,hy⟩:=qK (l:=l) (i:=a) (by omega);rw[qCL (show ¬(i:Int)<=(j:Int) by omega),qCK (show(i:Int)>(j:Int) by omega)];simp -implicitDefEqProofs only[cond_true,cond_false,qb,qj,show qB4 4 4=true from rfl,qm,qk,qF,qq,rdB (show j<n by omega),rdB (show a<n by omega),rdG hx,rdG hy,sw2 hx hy,sw4 hx hy,sw5 hx hy,sw3 hx hy]
   exact⟨_,rfl,yX l j a,_,qH _ _ _,⟨j,false,haj,hjb,rfl⟩,rfl⟩
  refine⟨h4,λi j l hm hai hib haj hjb hl hok=>?_⟩;refine qfT _ _ _ _ _ ?_;rw[qCL (show ¬(i:Int)<=(j:Int) by omega)];exact h4 i j l hm hai hib haj hjb hl hok
 |succ m ih=>
  obtain⟨ih4,ih3⟩:=ih;have h4:∀(i j:Nat) (l:List Tm),j+1 - i<=m+1->a<i->i<=b->a<=j->j<b->l.length=n->qX l->Gets (qbk n a (i:Int) (j:Int) (qB X l)) (xj X l (MidB a b)):=by
   intro i j l hm hai hib haj hjb hl hok
   by_cases hij:i<=j
   case neg=>exact ih4 i j l (by omega) hai hib haj hjb hl hok
   obtain⟨j,rfl⟩:∃k,j=k+1:=⟨j - 1,by omega⟩;refine qfS _ _ _ _ _ ?_;obtain⟨x,hx⟩:=qK (l:=l) (i:=j+1) (by omega);obtain⟨y,hy⟩:=qK (l:=l) (i:=a) (by omega);obtain⟨z,hz⟩:=qK (l:=l) (i:=i) (by omega);have hc:=vG (hok.at hx) (hok.at hy);rw[qCK (show(i:Int)<=((j+1:Nat):Int) by omega),qCL (show ¬(i:Int)>((j+1:Nat):Int) by omega),wr0 (by omega),wr1 (by omega)]
   simp -implicitDefEqProofs only[cond_true,cond_false,qb,qj,show qB4 4 4=true from rfl,qm,qk,qF,qq,qi,rdB (show j+1<n by omega),rdB (show a<n by omega),rdG hx,rdG hy,hc]
   by_cases hlt:cmpT x y<0
   ·rw[qCK hlt];simp -implicitDefEqProofs only[cond_true,cond_false,qCj,qb,qj,show qB4 4 4=true from rfl,qm,qk,qF,rdB (show i<n by omega),rdB (show j+1<n by omega),rdG hz,rdG hx,sw2 hz hx,sw4 hz hx,sw5 hz hx,sw3 hz hx];refine qfU _ _ _ _ _ ?_;refine(ih3 (i+1) j _ (by omega) (by omega) (by omega) (by omega) (by omega) (by rw[vF];exact hl) (hok.perm (qH _ _ _))).mono ?_
    exact λr hr=>hr.trans (qH _ _ _)
   ·rw[qCL hlt];exact ih4 i j l (by omega) hai hib (by omega) (by omega) hl hok
  refine⟨h4,λi j l hm hai hib haj hjb hl hok=>?_⟩;refine qfT _ _ _ _ _ ?_
  by_cases hij:i<=j
  case neg=>
   rw[qCL (show ¬(i:Int)<=(j:Int) by omega)];exact h4 i j l hm hai hib haj hjb hl hok
  obtain⟨x,hx⟩:=qK (l:=l) (i:=i) (by omega);obtain⟨y,hy⟩:=qK (l:=l) (i:=a) (by omega);have hc:=vG (hok.at hx) (hok.at hy);rw[qCK (show(i:Int)<=(j:Int) by omega),wr1 (by omega)];simp -implicitDefEqProofs only[cond_true,qb,qj,show qB4 4 4=true from rfl,qm,qk,qq,qi,rdB (show i<n by omega),rdB (show a<n by omega),rdG hx,rdG hy,hc]
  by_cases hlt:cmpT x y<0
  ·rw[qCK hlt];exact ih3 (i+1) j l (by omega) (by omega) (by omega) haj hjb hl hok
  ·rw[qCL hlt];exact h4 i j l hm hai hib haj hjb hl hok
theorem qlu{n a b:Nat}(hn:n<1099511627776)(hb:b<=n):∀(m i j:Nat) (l:List Tm),j+1 - i<=m->a<i->i<=b->a<=j->j<b->l.length=n->qX l->Gets (qdZ n a (i:Int) (j:Int) (qB X l)) (xj X l (MidB a b)):=by
 intro m
 induction m with
 |zero=>
  intro i j l hm hai hib haj hjb hl hok;refine qfV _ _ _ _ _ ?_;obtain⟨x,hx⟩:=qK (l:=l) (i:=j) (by omega);obtain⟨y,hy⟩:=qK (l:=l) (i:=a) (by omega);rw[qCL (show ¬(i:Int)<=(j:Int) by omega),qCK (show(i:Int)>(j:Int) by omega)];simp -implicitDefEqProofs only[cond_true,cond_false,qb,qj,show qB4 4 4=true from rfl,qm,qk,qF,qq,rdB (show j<n by omega),rdB (show a<n by omega),rdG hx,rdG hy,sw2 hx hy,sw4 hx hy,sw5 hx hy,sw3 hx hy]
  exact⟨_,rfl,yX l j a,_,qH _ _ _,⟨j,true,haj,hjb,rfl⟩,rfl⟩
 |succ m ih=>
  intro i j l hm hai hib haj hjb hl hok
  by_cases hij:i<=j
  case neg=>exact ih i j l (by omega) hai hib haj hjb hl hok
  obtain⟨j,rfl⟩:∃k,j=k+1:=⟨j - 1,by omega⟩;refine qfV _ _ _ _ _ ?_;obtain⟨x,hx⟩:=qK (l:=l) (i:=j+1) (by omega);obtain⟨y,hy⟩:=qK (l:=l) (i:=a) (by omega);obtain⟨z,hz⟩:=qK (l:=l) (i:=i) (by omega);have hc:=vG (hok.at hx) (hok.at hy);rw[qCK (show(i:Int)<=((j+1:Nat):Int) by omega),qCL (show ¬(i:Int)>((j+1:Nat):Int) by omega),wr0 (by omega),wr1 (by omega)]
  simp -implicitDefEqProofs only[cond_true,cond_false,qb,qj,show qB4 4 4=true from rfl,qm,qk,qF,qq,qi,rdB (show j+1<n by omega),rdB (show a<n by omega),rdG hx,rdG hy,hc]
  by_cases hlt:cmpT x y<0
  ·rw[qCK hlt];simp -implicitDefEqProofs only[cond_true,cond_false,qCj,qb,qj,show qB4 4 4=true from rfl,qm,qk,qF,rdB (show i<n by omega),rdB (show j+1<n by omega),rdG hz,rdG hx,sw2 hz hx,sw4 hz hx,sw5 hz hx,sw3 hz hx];refine qfU _ _ _ _ _ ?_;refine((qv9 hn hb (j+1 - (i+1))).2 (i+1) j _ (qCa _) (by omega) (by omega) (by omega) (by omega) (by rw[vF];exact hl) (hok.perm (qH _ _ _))).mono ?_
   exact λr hr=>hr.trans (qH _ _ _)
  ·rw[qCL hlt];exact ih i j l (by omega) hai hib (by omega) (by omega) hl hok
theorem qx3{n a b:Nat}(hn:n<1099511627776)(hb:b+1<=n):∀(m i:Nat) (l:List Tm),b+1 - i<=m->a<i->i<=b+1->a<=b->l.length=n->qX l->Gets (qhj n a ((b+1:Nat):Int) (i:Int) (qB X l)) (xj X l (MidB a (b+1))):=by
 intro m
 induction m with
 |zero=>
  intro i l hm hai hib hab hl hok;refine qfW _ _ _ _ _ ?_;rw[wr0 (by omega),qCL (show ¬(i:Int)<=(b:Int) by omega)];exact qlu hn hb (b+1 - i) i b l (qCa _) hai hib hab (by omega) hl hok
 |succ m ih=>
  intro i l hm hai hib hab hl hok;refine qfW _ _ _ _ _ ?_
  by_cases hij:i<=b
  case neg=>
   rw[wr0 (by omega),qCL (show ¬(i:Int)<=(b:Int) by omega)];exact qlu hn hb (b+1 - i) i b l (qCa _) hai hib hab (by omega) hl hok
  obtain⟨x,hx⟩:=qK (l:=l) (i:=i) (by omega);obtain⟨y,hy⟩:=qK (l:=l) (i:=a) (by omega);have hc:=vG (hok.at hx) (hok.at hy);rw[wr0 (by omega),qCK (show(i:Int)<=(b:Int) by omega),wr1 (by omega)];simp -implicitDefEqProofs only[cond_true,qb,qj,show qB4 4 4=true from rfl,qm,qk,qq,qi,rdB (show i<n by omega),rdB (show a<n by omega),rdG hx,rdG hy,hc]
  by_cases hlt:cmpT x y<0
  ·rw[qCK hlt];exact ih (i+1) l (by omega) (by omega) (by omega) hab hl hok
  ·rw[qCL hlt];exact qlu hn hb (b+1 - i) i b l (qCa _) hai hib hab (by omega) hl hok
theorem qv8{n a b p:Nat}(hn:n<1099511627776)(hb:b<=n)(hab:a<b)(hp:p<n){l:List Tm}(hl:l.length=n)(hok:qX l):
  Gets (EVd (EV cfg) 95 [.ms 0 0 n,.int .i64 (a:Int),.int .i64 (b:Int),.int .i64 (p:Int),cmpF] 4 (qB X l)) (xj X l (MidB a b)):=by
 refine qt7 _ _ _ _ _ ?_;obtain⟨b,rfl⟩:∃k,b=k+1:=⟨b - 1,by omega⟩;obtain⟨x,hx⟩:=qK (l:=l) (i:=a) (by omega);obtain⟨y,hy⟩:=qK (l:=l) (i:=p) (by omega);rw[wr1 (by omega)];simp -implicitDefEqProofs only[cond_true,qb,qj,show qB4 4 4=true from rfl,qm,qk,qF,rdB (show a<n by omega),rdB (show p<n by omega),rdG hx,rdG hy,sw2 hx hy,sw4 hx hy,sw5 hx hy,sw3 hx hy]
 refine(qx3 hn hb (b+1) (a+1) _ (by omega) (by omega) (by omega) (by omega) (by rw[vF];exact hl) (hok.perm (qH _ _ _))).mono ?_;exact λr hr=>hr.trans (qH _ _ _)
theorem qwb{n a b:Nat}(hn:n<1099511627776)(hb:b<=n):∀(m:Nat),
  (∀(i j:Nat) (l:List Tm),j+1 - i<=m->a<i->i<=b->a<=j->j<b->l.length=n->qX l->Gets (qbl n a (i:Int) (j:Int) (qB X l)) (xj X l (MidI a b))) ∧
  (∀(i j:Nat) (l:List Tm),j+1 - i<=m->a<i->i<=b->a<=j->j<b->l.length=n->qX l->Gets (qhk n a (j:Int) (i:Int) (qB X l)) (xj X l (MidI a b))):=by
 intro m
 induction m with
 |zero=>
  have h4:∀(i j:Nat) (l:List Tm),j+1 - i<=0->a<i->i<=b->a<=j->j<b->l.length=n->qX l->Gets (qbl n a (i:Int) (j:Int) (qB X l)) (xj X l (MidI a b)):=by
   intro i j l hm hai hib haj hjb hl hok;refine qfX _ _ _ _ _ ?_;rw[qCL (show ¬(i:Int)<=(j:Int) by omega),qCK (show(i:Int)>(j:Int) by omega)];exact⟨_,rfl,l,_,List.Perm.refl _,⟨i,hai,hib,rfl⟩,rfl⟩
  refine⟨h4,λi j l hm hai hib haj hjb hl hok=>?_⟩;refine qfY _ _ _ _ _ ?_;rw[qCL (show ¬(i:Int)<=(j:Int) by omega)];exact h4 i j l hm hai hib haj hjb hl hok
 |succ m ih=>
  obtain⟨ih4,ih3⟩:=ih;have h4:∀(i j:Nat) (l:List Tm),j+1 - i<=m+1->a<i->i<=b->a<=j->j<b->l.length=n->qX l->Gets (qbl n a (i:Int) (j:Int) (qB X l)) (xj X l (MidI a b)):=by
   intro i j l hm hai hib haj hjb hl hok
   by_cases hij:i<=j
   case neg=>exact ih4 i j l (by omega) hai hib haj hjb hl hok
   obtain⟨j,rfl⟩:∃k,j=k+1:=⟨j - 1,by omega⟩;refine qfX _ _ _ _ _ ?_;obtain⟨x,hx⟩:=qK (l:=l) (i:=j+1) (by omega);obtain⟨y,hy⟩:=qK (l:=l) (i:=a) (by omega);obtain⟨z,hz⟩:=qK (l:=l) (i:=i) (by omega);have hc:=vG (hok.at hy) (hok.at hx);rw[qCK (show(i:Int)<=((j+1:Nat):Int) by omega),qCL (show ¬(i:Int)>((j+1:Nat):Int) by omega),wr0 (by omega),wr1 (by omega)]
   simp -implicitDefEqProofs only[cond_true,cond_false,qb,qj,show qB4 4 4=true from rfl,qm,qk,qq,qi,rdB (show j+1<n by omega),rdB (show a<n by omega),rdG hx,rdG hy,hc]
   by_cases hlt:cmpT y x<0
   ·rw[qCK hlt];exact ih4 i j l (by omega) hai hib (by omega) (by omega) hl hok
   ·rw[qCL hlt];simp -implicitDefEqProofs only[cond_true,cond_false,qb,qj,show qB4 4 4=true from rfl,qm,qk,qF,rdB (show i<n by omega),rdB (show j+1<n by omega),rdG hz,rdG hx,sw2 hz hx,sw4 hz hx,sw5 hz hx,sw3 hz hx];refine qfZ _ _ _ _ _ ?_;refine(ih3 (i+1) j _ (by omega) (by omega) (by omega) (by omega) (by omega) (by rw[vF];exact hl) (hok.perm (qH _ _ _))).mono ?_
    exact λr hr=>hr.trans (qH _ _ _)
  refine⟨h4,λi j l hm hai hib haj hjb hl hok=>?_⟩;refine qfY _ _ _ _ _ ?_
  by_cases hij:i<=j
  case neg=>
   rw[qCL (show ¬(i:Int)<=(j:Int) by omega)];exact h4 i j l hm hai hib haj hjb hl hok
  obtain⟨x,hx⟩:=qK (l:=l) (i:=i) (by omega);obtain⟨y,hy⟩:=qK (l:=l) (i:=a) (by omega);have hc:=vG (hok.at hy) (hok.at hx);rw[qCK (show(i:Int)<=(j:Int) by omega),wr1 (by omega)];simp -implicitDefEqProofs only[cond_true,qb,qj,show qB4 4 4=true from rfl,qm,qk,qq,qi,rdB (show i<n by omega),rdB (show a<n by omega),rdG hx,rdG hy,hc]
  by_cases hlt:cmpT y x<0
  ·rw[qCK hlt];exact h4 i j l hm hai hib haj hjb hl hok
  ·rw[qCL hlt];exact ih3 (i+1) j l (by omega) (by omega) (by omega) haj hjb hl hok
theorem qwa{n a b p:Nat}(hn:n<1099511627776)(hb:b<=n)(hab:a<b)(hp:p<n){l:List Tm}(hl:l.length=n)(hok:qX l):
  Gets (EVd (EV cfg) 94 [.ms 0 0 n,.int .i64 (a:Int),.int .i64 (b:Int),.int .i64 (p:Int),cmpF] 4 (qB X l)) (xj X l (MidI a b)):=by
 refine qt8 _ _ _ _ _ ?_;obtain⟨b,rfl⟩:∃k,b=k+1:=⟨b - 1,by omega⟩;obtain⟨x,hx⟩:=qK (l:=l) (i:=a) (by omega);obtain⟨y,hy⟩:=qK (l:=l) (i:=p) (by omega);rw[wr1 (by omega),wr0 (by omega)];simp -implicitDefEqProofs only[cond_true,qb,qj,show qB4 4 4=true from rfl,qm,qk,qF,rdB (show a<n by omega),rdB (show p<n by omega),rdG hx,rdG hy,sw2 hx hy,sw4 hx hy,sw5 hx hy,sw3 hx hy]
 refine qfZ _ _ _ _ _ ?_;refine((qwb hn hb (b+1 - (a+1))).2 (a+1) b _ (qCa _) (by omega) (by omega) (by omega) (by omega) (by rw[vF];exact hl) (hok.perm (qH _ _ _))).mono ?_;exact λr hr=>hr.trans (qH _ _ _)
theorem qq3{n a b i k:Nat}(hn:n<1099511627776)(hb:b<=n)(hk:k<100)(hcont:∀l:List Tm,l.length=n->qX l->Gets (yo n a b (i:Int) ((k+1:Nat):Int) (qB X l)) (xj X l IsB)):∀(m j:Nat) (l:List Tm),b - j<=m->1<=j->l.length=n->qX l->Gets (qaH n a b (k:Int) (i:Int) (j:Int) (qB X l)) (xj X l IsB):=by
 intro m
 induction m with
 |zero=>
  intro j l hm hj hl hok;refine qf0 _ _ _ _ _ _ _ ?_;rw[qCL (by omega),wr1 (by omega)];exact hcont l hl hok
 |succ m ih=>
  intro j l hm hj hl hok;refine qf0 _ _ _ _ _ _ _ ?_
  by_cases hjb:j<b
  case neg=>
   rw[qCL (by omega),wr1 (by omega)];exact hcont l hl hok
  obtain⟨j,rfl⟩:∃q,j=q+1:=⟨j - 1,by omega⟩;obtain⟨y,hy⟩:=qK (l:=l) (i:=j+1) (by omega);obtain⟨x,hx⟩:=qK (l:=l) (i:=j) (by omega);have hc:=vG (hok.at hy) (hok.at hx);rw[qCK (show((j+1:Nat):Int)<(b:Int) by omega),wr0 (by omega),wr1 (show j+1<4398046511104 by omega),wr1 (show k<4398046511104 by omega)];simp -implicitDefEqProofs only[cond_true,qb,qj,show qB4 4 4=true from rfl,qm,qk,qF,qq,qi,rdB (show j+1<n by omega),rdB (show j<n by omega),rdG hy,rdG hx,hc]
  by_cases hlt:cmpT y x<0
  ·rw[qCK hlt];simp -implicitDefEqProofs only[cond_true,cond_false,qCj,qb,qj,show qB4 4 4=true from rfl,qF,rdB (show j+1<n by omega),rdB (show j<n by omega),rdG hy,rdG hx,sw2 hy hx,sw4 hy hx,sw5 hy hx,sw3 hy hx];exact(ih (j+1+1) _ (by omega) (by omega) (by rw[vF];exact hl) (hok.perm (qH _ _ _))).mono λr hr=>hr.trans (qH _ _ _)
  ·rw[qCL hlt];exact hcont l hl hok
theorem qx1{n a b i k:Nat}(hn:n<1099511627776)(hb:b<=n)(hk:k<100)(hib:i<b)(hcont:∀l:List Tm,l.length=n->qX l->Gets (yo n a b (i:Int) ((k+1:Nat):Int) (qB X l)) (xj X l IsB)):∀(j:Nat) (l:List Tm),j<n->l.length=n->qX l->Gets (qd0 n a b (k:Int) (i:Int) (j:Int) (qB X l)) (xj X l IsB):=by
 have rest:∀l:List Tm,l.length=n->qX l->Gets (bif decide (((b - i:Nat):Int)≥2)then qaH n a b (k:Int) (i:Int) ((i+1:Nat):Int) (qB X l)else yo n a b (i:Int) ((k+1:Nat):Int) (qB X l)) (xj X l IsB):=by
  intro l hl hok;cases decide (((b - i:Nat):Int)≥2)with
  |true=>exact qq3 hn hb hk hcont b (i+1) l (by omega) (by omega) hl hok
  |false=>exact hcont l hl hok
 have wb:qBZ .i64 ((b:Int) - (i:Int))=((b - i:Nat):Int):=by rw[qt (by omega) (by omega)];omega
 intro j
 induction j with
 |zero=>
  intro l hj hl hok;refine qf1 _ _ _ _ _ _ _ ?_;rw[qCL (by omega),wb,wr1 (show i<4398046511104 by omega),wr1 (show k<4398046511104 by omega)];exact rest l hl hok
 |succ j ih=>
  intro l hj hl hok;refine qf1 _ _ _ _ _ _ _ ?_;obtain⟨y,hy⟩:=qK (l:=l) (i:=j+1) (by omega);obtain⟨x,hx⟩:=qK (l:=l) (i:=j) (by omega);have hc:=vG (hok.at hy) (hok.at hx);rw[qCK (show((j+1:Nat):Int)≥1 by omega),wr0 (by omega),wb,wr1 (show i<4398046511104 by omega),wr1 (show k<4398046511104 by omega)];simp -implicitDefEqProofs only[cond_true,qb,qj,show qB4 4 4=true from rfl,qm,qk,qF,qq,qi,rdB (show j+1<n by omega),rdB (show j<n by omega),rdG hy,rdG hx,hc]
  by_cases hlt:cmpT y x<0
  ·rw[qCK hlt];simp -implicitDefEqProofs only[cond_true,cond_false,qCj,qb,qj,show qB4 4 4=true from rfl,qF,rdB (show j+1<n by omega),rdB (show j<n by omega),rdG hy,rdG hx,sw2 hy hx,sw4 hy hx,sw5 hy hx,sw3 hy hx];exact(ih _ (by omega) (by rw[vF];exact hl) (hok.perm (qH _ _ _))).mono λr hr=>hr.trans (qH _ _ _)
  ·rw[qCL hlt];exact rest l hl hok
theorem qv7{n a b:Nat}(hn:n<1099511627776)(hb:b<=n)(hab:a<b):∀(q k:Nat),5<=k+q->k<=5->∀(i:Nat) (l:List Tm),a<i->i<=b->l.length=n->qX l->Gets (yo n a b (i:Int) (k:Int) (qB X l)) (xj X l IsB):=by
 intro q
 induction q with
 |zero=>
  intro k hq hk i l hai hib hl hok;refine qf3 _ _ _ _ _ _ ?_;rw[qCL (by omega)];exact⟨_,rfl,l,_,List.Perm.refl _,⟨false,rfl⟩,rfl⟩
 |succ q ihq=>
  intro k hq hk i l hai hib hl hok;refine qf3 _ _ _ _ _ _ ?_
  by_cases hk5:k<5
  case neg=>
   rw[qCL (by omega)];exact⟨_,rfl,l,_,List.Perm.refl _,⟨false,rfl⟩,rfl⟩
  rw[qCK (show(k:Int)<5 by omega),cond_true];have loop:∀(m i:Nat) (l:List Tm),b - i<=m->a<i->i<=b->l.length=n->qX l->Gets (qhm n a b (k:Int) (i:Int) (qB X l)) (xj X l IsB):=by
   intro m
   induction m with
   |zero=>
    intro i l hm hai hib hl hok;refine qf2 _ _ _ _ _ _ ?_;have hi:i=b:=by omega
    rw[qCL (show ¬(i:Int)<(b:Int) by omega),beqI,qCK (show(i:Int)=(b:Int) by omega)];exact⟨_,rfl,l,_,List.Perm.refl _,⟨true,rfl⟩,rfl⟩
   |succ m ihm=>
    intro i l hm hai hib hl hok
    by_cases hlt:i<b
    case neg=>exact ihm i l (by omega) hai hib hl hok
    refine qf2 _ _ _ _ _ _ ?_;obtain⟨i,rfl⟩:∃q,i=q+1:=⟨i - 1,by omega⟩;obtain⟨y,hy⟩:=qK (l:=l) (i:=i+1) (by omega);obtain⟨x,hx⟩:=qK (l:=l) (i:=i) (by omega);have hc:=vG (hok.at hy) (hok.at hx);have wa:qBZ .i64 ((b:Int) - (a:Int))=((b - a:Nat):Int):=by rw[qt (by omega) (by omega)];omega
    have wb:qBZ .i64 ((b:Int) - ((i+1:Nat):Int))=((b - (i+1):Nat):Int):=by rw[qt (by omega) (by omega)];omega
    have wc:qBZ .i64 (((i+1:Nat):Int) - (a:Int))=((i+1 - a:Nat):Int):=by rw[qt (by omega) (by omega)];omega
    rw[qCK (show((i+1:Nat):Int)<(b:Int) by omega),beqI,qCL (show ¬((i+1:Nat):Int)=(b:Int) by omega),wr0 (by omega),wa,wb,wc,wr1 (show i+1<4398046511104 by omega),wr1 (show k<4398046511104 by omega)];simp -implicitDefEqProofs only[cond_true,cond_false,qb,qj,show qB4 4 4=true from rfl,qm,qk,qF,qq,qi,rdB (show i+1<n by omega),rdB (show i<n by omega),rdG hy,rdG hx,hc]
    by_cases hlt2:cmpT y x<0
    case neg=>
     rw[qCL hlt2];exact ihm (i+1+1) l (by omega) (by omega) (by omega) hl hok
    rw[qCK hlt2];cases decide (((b - a:Nat):Int)<50)with
    |true=>exact⟨_,rfl,l,_,List.Perm.refl _,⟨false,rfl⟩,rfl⟩
    |false=>
     simp -implicitDefEqProofs only[cond_true,cond_false,qCj,qb,qj,show qB4 4 4=true from rfl,qF,rdB (show i+1<n by omega),rdB (show i<n by omega),rdG hy,rdG hx,sw2 hy hx,sw4 hy hx,sw5 hy hx,sw3 hy hx];have hcont:∀l:List Tm,l.length=n->qX l->Gets (yo n a b ((i+1:Nat):Int) ((k+1:Nat):Int) (qB X l)) (xj X l IsB):=λl hl hok=>ihq (k+1) (by omega) (by omega) (i+1) l hai hib hl hok
     have hl2:(yX l (i+1) i).length=n:=by rw[vF];exact hl
     have hok2:qX (yX l (i+1) i):=hok.perm (qH _ _ _);have fin:∀r,xj X (yX l (i+1) i) IsB r->xj X l IsB r:=λr hr=>hr.trans (qH _ _ _)
     cases decide (((i+1 - a:Nat):Int)≥2)with
     |true=>exact(qx1 hn hb (by omega) hlt hcont i _ (by omega) hl2 hok2).mono fin
     |false=>
      cases decide (((b - (i+1):Nat):Int)≥2)with
      |true=>exact(qq3 hn hb (by omega) hcont b (i+1+1) _ (by omega) (by omega) hl2 hok2).mono fin
      |false=>exact(hcont _ hl2 hok2).mono fin
  exact loop (b - i) i l (qCa _) hai hib hl hok
theorem qv6{n a b:Nat}(hn:n<1099511627776)(hb:b<=n)(hab:a<b){l:List Tm}(hl:l.length=n)(hok:qX l):
  Gets (EVd (EV cfg) 93 [.ms 0 0 n,.int .i64 (a:Int),.int .i64 (b:Int),cmpF] 4 (qB X l)) (xj X l IsB):=by
 refine qt4 _ _ _ _ ?_;rw[wr1 (by omega)];exact qv7 hn hb hab 5 0 (by omega) (by omega) (a+1) l (by omega) (by omega) hl hok
theorem qwW(n:Int){P:AV->Prop}(h:Gets (kOpt (EVs (EV cfg) 97 [AV.int .u64 n]) λv=>kInt .i64 v λn=>some (.int .i64 n)) P):Gets (EVs (EV cfg) 62 [.int .u64 n]) P:=
  gE (λ_=>funS rfl rfl Tryz.func62 rfl) (by kernel_rfl) h
theorem qtd(n:Int){P:AV->Prop}(h:Gets (bif decide (n≥4294967296)then kOpt (qn (Op.shift BinOp.shr .u64 n .u64 32)) λv=>kInt .u64 v λn=>bif decide (n≥65536)then kOpt (qn (Op.shift BinOp.shr .u64 n .u64 16)) λv=>kInt .u64 v λn=>bif decide (n≥256)then kOpt (qn (Op.shift BinOp.shr .u64 n .u64 8)) λv=>kInt .u64 v λn=>bif qd 0 (qBZ .u8 n)then kOpt (qB0 [(0:UInt8),1,2,2,3,3,3,3,4,4,4,4,4,4,4,4,5,5,5,5,5,5,5,5,5,5,5,5,5,5,5,5,6,6,6,6,6,6,6,6,6,6,6,6,6,6,6,6,6,6,6,6,6,6,6,6,6,6,6,6,6,6,6,6,7,7,7,7,7,7,7,7,7,7,7,7,7,7,7,7,7,7,7,7,7,7,7,7,7,7,7,7,7,7,7,7,7,7,7,7,7,7,7,7,7,7,7,7,7,7,7,7,7,7,7,7,7,7,7,7,7,7,7,7,7,7,7,7,8,8,8,8,8,8,8,8,8,8,8,8,8,8,8,8,8,8,8,8,8,8,8,8,8,8,8,8,8,8,8,8,8,8,8,8,8,8,8,8,8,8,8,8,8,8,8,8,8,8,8,8,8,8,8,8,8,8,8,8,8,8,8,8,8,8,8,8,8,8,8,8,8,8,8,8,8,8,8,8,8,8,8,8,8,8,8,8,8,8,8,8,8,8,8,8,8,8,8,8,8,8,8,8,8,8,8,8,8,8,8,8,8,8,8,8,8,8,8,8,8,8,8,8,8,8,8,8] (qB7 (qBZ .u8 n))) λb=>some (.int .i64 (qBZ .i64 (56+qBZ .i64 (↑ (UInt8.toNat b):Int))))else none else bif qd 0 (qBZ .u8 n)then kOpt (qB0 [(0:UInt8),1,2,2,3,3,3,3,4,4,4,4,4,4,4,4,5,5,5,5,5,5,5,5,5,5,5,5,5,5,5,5,6,6,6,6,6,6,6,6,6,6,6,6,6,6,6,6,6,6,6,6,6,6,6,6,6,6,6,6,6,6,6,6,7,7,7,7,7,7,7,7,7,7,7,7,7,7,7,7,7,7,7,7,7,7,7,7,7,7,7,7,7,7,7,7,7,7,7,7,7,7,7,7,7,7,7,7,7,7,7,7,7,7,7,7,7,7,7,7,7,7,7,7,7,7,7,7,8,8,8,8,8,8,8,8,8,8,8,8,8,8,8,8,8,8,8,8,8,8,8,8,8,8,8,8,8,8,8,8,8,8,8,8,8,8,8,8,8,8,8,8,8,8,8,8,8,8,8,8,8,8,8,8,8,8,8,8,8,8,8,8,8,8,8,8,8,8,8,8,8,8,8,8,8,8,8,8,8,8,8,8,8,8,8,8,8,8,8,8,8,8,8,8,8,8,8,8,8,8,8,8,8,8,8,8,8,8,8,8,8,8,8,8,8,8,8,8,8,8,8,8,8,8,8,8] (qB7 (qBZ .u8 n))) λb=>some (.int .i64 (qBZ .i64 ((48:Int)+qBZ .i64 (↑ (UInt8.toNat b):Int))))else none else bif decide (n≥256)then kOpt (qn (Op.shift BinOp.shr .u64 n .u64 8)) λv=>kInt .u64 v λn=>bif qd 0 (qBZ .u8 n)then kOpt (qB0 [(0:UInt8),1,2,2,3,3,3,3,4,4,4,4,4,4,4,4,5,5,5,5,5,5,5,5,5,5,5,5,5,5,5,5,6,6,6,6,6,6,6,6,6,6,6,6,6,6,6,6,6,6,6,6,6,6,6,6,6,6,6,6,6,6,6,6,7,7,7,7,7,7,7,7,7,7,7,7,7,7,7,7,7,7,7,7,7,7,7,7,7,7,7,7,7,7,7,7,7,7,7,7,7,7,7,7,7,7,7,7,7,7,7,7,7,7,7,7,7,7,7,7,7,7,7,7,7,7,7,7,8,8,8,8,8,8,8,8,8,8,8,8,8,8,8,8,8,8,8,8,8,8,8,8,8,8,8,8,8,8,8,8,8,8,8,8,8,8,8,8,8,8,8,8,8,8,8,8,8,8,8,8,8,8,8,8,8,8,8,8,8,8,8,8,8,8,8,8,8,8,8,8,8,8,8,8,8,8,8,8,8,8,8,8,8,8,8,8,8,8,8,8,8,8,8,8,8,8,8,8,8,8,8,8,8,8,8,8,8,8,8,8,8,8,8,8,8,8,8,8,8,8,8,8,8,8,8,8] (qB7 (qBZ .u8 n))) λb=>some (.int .i64 (qBZ .i64 (40+qBZ .i64 (↑ (UInt8.toNat b):Int))))else none else bif qd 0 (qBZ .u8 n)then kOpt (qB0 [(0:UInt8),1,2,2,3,3,3,3,4,4,4,4,4,4,4,4,5,5,5,5,5,5,5,5,5,5,5,5,5,5,5,5,6,6,6,6,6,6,6,6,6,6,6,6,6,6,6,6,6,6,6,6,6,6,6,6,6,6,6,6,6,6,6,6,7,7,7,7,7,7,7,7,7,7,7,7,7,7,7,7,7,7,7,7,7,7,7,7,7,7,7,7,7,7,7,7,7,7,7,7,7,7,7,7,7,7,7,7,7,7,7,7,7,7,7,7,7,7,7,7,7,7,7,7,7,7,7,7,8,8,8,8,8,8,8,8,8,8,8,8,8,8,8,8,8,8,8,8,8,8,8,8,8,8,8,8,8,8,8,8,8,8,8,8,8,8,8,8,8,8,8,8,8,8,8,8,8,8,8,8,8,8,8,8,8,8,8,8,8,8,8,8,8,8,8,8,8,8,8,8,8,8,8,8,8,8,8,8,8,8,8,8,8,8,8,8,8,8,8,8,8,8,8,8,8,8,8,8,8,8,8,8,8,8,8,8,8,8,8,8,8,8,8,8,8,8,8,8,8,8,8,8,8,8,8,8] (qB7 (qBZ .u8 n))) λb=>some (.int .i64 (qBZ .i64 (32+qBZ .i64 (↑ (UInt8.toNat b):Int))))else none else bif decide (n≥65536)then kOpt (qn (Op.shift BinOp.shr .u64 n .u64 16)) λv=>kInt .u64 v λn=>bif decide (n≥256)then kOpt (qn (Op.shift BinOp.shr .u64 n .u64 8)) λv=>kInt .u64 v λn=>bif qd 0 (qBZ .u8 n)then kOpt (qB0 [(0:UInt8),1,2,2,3,3,3,3,4,4,4,4,4,4,4,4,5,5,5,5,5,5,5,5,5,5,5,5,5,5,5,5,6,6,6,6,6,6,6,6,6,6,6,6,6,6,6,6,6,6,6,6,6,6,6,6,6,6,6,6,6,6,6,6,7,7,7,7,7,7,7,7,7,7,7,7,7,7,7,7,7,7,7,7,7,7,7,7,7,7,7,7,7,7,7,7,7,7,7,7,7,7,7,7,7,7,7,7,7,7,7,7,7,7,7,7,7,7,7,7,7,7,7,7,7,7,7,7,8,8,8,8,8,8,8,8,8,8,8,8,8,8,8,8,8,8,8,8,8,8,8,8,8,8,8,8,8,8,8,8,8,8,8,8,8,8,8,8,8,8,8,8,8,8,8,8,8,8,8,8,8,8,8,8,8,8,8,8,8,8,8,8,8,8,8,8,8,8,8,8,8,8,8,8,8,8,8,8,8,8,8,8,8,8,8,8,8,8,8,8,8,8,8,8,8,8,8,8,8,8,8,8,8,8,8,8,8,8,8,8,8,8,8,8,8,8,8,8,8,8,8,8,8,8,8,8] (qB7 (qBZ .u8 n))) λb=>some (.int .i64 (qBZ .i64 (24+qBZ .i64 (↑ (UInt8.toNat b):Int))))else none else bif qd 0 (qBZ .u8 n)then kOpt (qB0 [(0:UInt8),1,2,2,3,3,3,3,4,4,4,4,4,4,4,4,5,5,5,5,5,5,5,5,5,5,5,5,5,5,5,5,6,6,6,6,6,6,6,6,6,6,6,6,6,6,6,6,6,6,6,6,6,6,6,6,6,6,6,6,6,6,6,6,7,7,7,7,7,7,7,7,7,7,7,7,7,7,7,7,7,7,7,7,7,7,7,7,7,7,7,7,7,7,7,7,7,7,7,7,7,7,7,7,7,7,7,7,7,7,7,7,7,7,7,7,7,7,7,7,7,7,7,7,7,7,7,7,8,8,8,8,8,8,8,8,8,8,8,8,8,8,8,8,8,8,8,8,8,8,8,8,8,8,8,8,8,8,8,8,8,8,8,8,8,8,8,8,8,8,8,8,8,8,8,8,8,8,8,8,8,8,8,8,8,8,8,8,8,8,8,8,8,8,8,8,8,8,8,8,8,8,8,8,8,8,8,8,8,8,8,8,8,8,8,8,8,8,8,8,8,8,8,8,8,8,8,8,8,8,8,8,8,8,8,8,8,8,8,8,8,8,8,8,8,8,8,8,8,8,8,8,8,8,8,8] (qB7 (qBZ .u8 n))) λb=>some (.int .i64 (qBZ .i64 (16+qBZ .i64 (↑ (UInt8.toNat b):Int))))else none else bif decide (n≥256)then kOpt (qn (Op.shift BinOp.shr .u64 n .u64 8)) λv=>kInt .u64 v λn=>bif qd 0 (qBZ .u8 n)then kOpt (qB0 [(0:UInt8),1,2,2,3,3,3,3,4,4,4,4,4,4,4,4,5,5,5,5,5,5,5,5,5,5,5,5,5,5,5,5,6,6,6,6,6,6,6,6,6,6,6,6,6,6,6,6,6,6,6,6,6,6,6,6,6,6,6,6,6,6,6,6,7,7,7,7,7,7,7,7,7,7,7,7,7,7,7,7,7,7,7,7,7,7,7,7,7,7,7,7,7,7,7,7,7,7,7,7,7,7,7,7,7,7,7,7,7,7,7,7,7,7,7,7,7,7,7,7,7,7,7,7,7,7,7,7,8,8,8,8,8,8,8,8,8,8,8,8,8,8,8,8,8,8,8,8,8,8,8,8,8,8,8,8,8,8,8,8,8,8,8,8,8,8,8,8,8,8,8,8,8,8,8,8,8,8,8,8,8,8,8,8,8,8,8,8,8,8,8,8,8,8,8,8,8,8,8,8,8,8,8,8,8,8,8,8,8,8,8,8,8,8,8,8,8,8,8,8,8,8,8,8,8,8,8,8,8,8,8,8,8,8,8,8,8,8,8,8,8,8,8,8,8,8,8,8,8,8,8,8,8,8,8,8] (qB7 (qBZ .u8 n))) λb=>some (.int .i64 (qBZ .i64 (8+qBZ .i64 (↑ (UInt8.toNat b):Int))))else none else bif qd 0 (qBZ .u8 n)then kOpt (qB0 [(0:UInt8),1,2,2,3,3,3,3,4,4,4,4,4,4,4,4,5,5,5,5,5,5,5,5,5,5,5,5,5,5,5,5,6,6,6,6,6,6,6,6,6,6,6,6,6,6,6,6,6,6,6,6,6,6,6,6,6,6,6,6,6,6,6,6,7,7,7,7,7,7,7,7,7,7,7,7,7,7,7,7,7,7,7,7,7,7,7,7,7,7,7,7,7,7,7,7,7,7,7,7,7,7,7,7,7,7,7,7,7,7,7,7,7,7,7,7,7,7,7,7,7,7,7,7,7,7,7,7,8,8,8,8,8,8,8,8,8,8,8,8,8,8,8,8,8,8,8,8,8,8,8,8,8,8,8,8,8,8,8,8,8,8,8,8,8,8,8,8,8,8,8,8,8,8,8,8,8,8,8,8,8,8,8,8,8,8,8,8,8,8,8,8,8,8,8,8,8,8,8,8,8,8,8,8,8,8,8,8,8,8,8,8,8,8,8,8,8,8,8,8,8,8,8,8,8,8,8,8,8,8,8,8,8,8,8,8,8,8,8,8,8,8,8,8,8,8,8,8,8,8,8,8,8,8,8,8] (qB7 (qBZ .u8 n))) λb=>some (.int .i64 (qBZ .i64 (0+qBZ .i64 (↑ (UInt8.toNat b):Int))))else none) P):Gets (EVs (EV cfg) 97 [.int .u64 n]) P:=
  gE (λ_=>funS rfl rfl Tryz.func97 rfl) (by kernel_rfl) h
theorem qrz(s:Int){P:AV×List (List AV)->Prop}(h:Gets (kOpt (qn (Op.shift BinOp.shl .u64 s .u64 13)) λv=>kInt .u64 v λn=>kOpt (qn (Op.intBits BinOp.xor .u64 s n)) λv=>kInt .u64 v λn=>kOpt (qn (Op.shift BinOp.shr .u64 n .u64 7)) λv=>kInt .u64 v λn_1=>kOpt (qn (Op.intBits BinOp.xor .u64 n n_1)) λv=>kInt .u64 v λn=>kOpt (qn (Op.shift BinOp.shl .u64 n .u64 17)) λv=>kInt .u64 v λn_2=>kOpt (qn (Op.intBits BinOp.xor .u64 n n_2)) λv=>kInt .u64 v λn=>some (.int .u64 n,[[AV.int .u64 n]])) P):Gets (EVd (EV cfg) 124 [.ptr 0 0 0] 1 [[AV.int .u64 s]]) P:=
  gE (λ_=>funD rfl rfl Tryz.func124 rfl) (by kernel_rfl) h
end Go.Proofs.YtgleolmhpmljhaaGreat
end
noncomputable section
namespace Go.Av
theorem qnm{a n:Nat}(hn:n<64):qn (Op.shift .shr .u64 (a:Int) .u64 (n:Int))=some (.int .u64 ((a / 2 ^ n:Nat):Int)):=by
 have:qn (Op.shift .shr .u64 (a:Int) .u64 (n:Int))=some (.int .u64 (Int.fdiv a (2 ^ (min (n:Int).toNat 64)))):=by
  unfold Op.shift;rw[qCN (by omega)];rfl
 rw[this,qCi,Nat.min_eq_left (by omega)];have e:((2:Int) ^ n)=((2 ^ n:Nat):Int):=by simp
 rw[e,Int.fdiv_eq_ediv_of_nonneg _ (Int.natCast_nonneg _)];rfl
theorem qmj(n:Nat):qBZ .u64 (n:Int)=((n % 18446744073709551616:Nat):Int):=by
 simp[qBZ,IntKind.bits,IntKind.signed]
theorem qxA{a n:Nat}(hn:n<64):qn (Op.shift .shl .u64 (a:Int) .u64 (n:Int))=some (.int .u64 ((a*2 ^ n % 18446744073709551616:Nat):Int)):=by
 have:qn (Op.shift .shl .u64 (a:Int) .u64 (n:Int))=some (.int .u64 (qBZ .u64 (a*2 ^ (min (n:Int).toNat 64)))):=by
  unfold Op.shift;rw[qCN (by omega)];rfl
 rw[this,qCi,Nat.min_eq_left (by omega)];have e:((a:Int)*(2:Int) ^ n)=((a*2 ^ n:Nat):Int):=by simp
 rw[e,qmj]
theorem qrA{a b:Nat}(ha:a<18446744073709551616)(hb:b<18446744073709551616):qn (Op.intBits .xor .u64 (a:Int) (b:Int))=some (.int .u64 ((a ^^^ b:Nat):Int))∧a ^^^ b<18446744073709551616:=by
 have:qn (Op.intBits .xor .u64 (a:Int) (b:Int))=some (.int .u64 (qBZ .u64 (BitVec.ofInt 64 (a:Int) ^^^ BitVec.ofInt 64 (b:Int)).toNat)):=rfl;have ea:(BitVec.ofInt 64 (a:Int)).toNat=a:=by simp[BitVec.toNat_ofInt];omega
 have eb:(BitVec.ofInt 64 (b:Int)).toNat=b:=by simp[BitVec.toNat_ofInt];omega
 have hlt:=(BitVec.ofInt 64 (a:Int) ^^^ BitVec.ofInt 64 (b:Int)).isLt;rw[BitVec.toNat_xor,ea,eb]at hlt;rw[this,BitVec.toNat_xor,ea,eb];have hlt:a ^^^ b<18446744073709551616:=by simpa using hlt
 exact⟨by rw[qas hlt],hlt⟩
theorem qxM{a b:Nat}(ha:a<18446744073709551616)(hb:b<18446744073709551616):qn (Op.intBits .and .u64 (a:Int) (b:Int))=some (.int .u64 ((a &&& b:Nat):Int)):=by
 have:qn (Op.intBits .and .u64 (a:Int) (b:Int))=some (.int .u64 (qBZ .u64 (BitVec.ofInt 64 (a:Int) &&& BitVec.ofInt 64 (b:Int)).toNat)):=rfl;have ea:(BitVec.ofInt 64 (a:Int)).toNat=a:=by simp[BitVec.toNat_ofInt];omega
 have eb:(BitVec.ofInt 64 (b:Int)).toNat=b:=by simp[BitVec.toNat_ofInt];omega
 have hle:a &&& b<=b:=Nat.and_le_right;rw[this,BitVec.toNat_and,ea,eb,qas (by omega)]
def tabL:List UInt8:=[(0:UInt8),1,2,2,3,3,3,3,4,4,4,4,4,4,4,4,5,5,5,5,5,5,5,5,5,5,5,5,5,5,5,5,6,6,6,6,6,6,6,6,6,6,6,6,6,6,6,6,6,6,6,6,6,6,6,6,6,6,6,6,6,6,6,6,7,7,7,7,7,7,7,7,7,7,7,7,7,7,7,7,7,7,7,7,7,7,7,7,7,7,7,7,7,7,7,7,7,7,7,7,7,7,7,7,7,7,7,7,7,7,7,7,7,7,7,7,7,7,7,7,7,7,7,7,7,7,7,7,8,8,8,8,8,8,8,8,8,8,8,8,8,8,8,8,8,8,8,8,8,8,8,8,8,8,8,8,8,8,8,8,8,8,8,8,8,8,8,8,8,8,8,8,8,8,8,8,8,8,8,8,8,8,8,8,8,8,8,8,8,8,8,8,8,8,8,8,8,8,8,8,8,8,8,8,8,8,8,8,8,8,8,8,8,8,8,8,8,8,8,8,8,8,8,8,8,8,8,8,8,8,8,8,8,8,8,8,8,8,8,8,8,8,8,8,8,8,8,8,8,8,8,8,8,8,8,8]
theorem qxT:∀m:Nat,m<256->∃b:UInt8,qB0 tabL m=some b∧b.toNat<=8∧(m≠0->1<=b.toNat∧2 ^ (b.toNat - 1)<=m):=by
 have h:(qCJ 256).all (λm=>match qB0 tabL m with|some b=>decide (b.toNat<=8)&&(decide (m=0)||(decide (1<=b.toNat)&&decide (2 ^ (b.toNat - 1)<=m)))|none=>false)=true:=by decide +kernel
 intro m hm;have h1:=List.all_eq_true.1 h m (List.mem_range.2 hm);cases hb:qB0 tabL m with
 |none=>rw[hb]at h1;cases h1
 |some b=>
  rw[hb]at h1;simp only[qB2,qCI,decide_eq_true_eq]at h1;exact⟨b,rfl,h1.1,λh0=>h1.2.resolve_left h0⟩
def Two(a b:Nat)(r:AV×List (List AV)):Prop:=∃(x y:Nat) (s:Int),((x=a∧y=b)∨(x=b∧y=a))∧r=(.tup [.int .i64 (x:Int),.int .i64 (y:Int)],[[.int .i64 s]])
def One3(a b c:Nat)(r:AV×List (List AV)):Prop:=∃(x:Nat) (s:Int),(x=a∨x=b∨x=c)∧r=(.int .i64 (x:Int),[[.int .i64 s]])
def PivP(a b:Nat)(v:AV):Prop:=∃(j:Nat) (h:Int),a<=j∧j<b∧v= .tup [.int .i64 (j:Int),.int .i64 h]
def LenP(n:Nat)(v:AV):Prop:=∃L:Nat,L<=24∧(1<=n->1<=L∧2 ^ (L - 1)<=n)∧v= .int .i64 (L:Int)
def NxtP(r:AV×List (List AV)):Prop:=∃b:Nat,b<18446744073709551616∧r=(.int .u64 (b:Int),[[.int .u64 (b:Int)]])
end Go.Av
namespace Go.Proofs.YtgleolmhpmljhaaGreat
open Go.Av
theorem qiN{l:List Tm}{a b:Nat}(ha:a<l.length)(hb:b<l.length)(hok:qX l)(s:Int):
  Gets (EVd (EV cfg) 147 [.sl (qa l),.int .i64 (a:Int),.int .i64 (b:Int),.ptr 0 0 0,cmpF] 1 [[.int .i64 s]]) (Two a b):=by
 refine qua _ _ _ _ ?_;obtain⟨x,hx⟩:=qK ha;obtain⟨y,hy⟩:=qK hb;have hc:=vG (hok.at hy) (hok.at hx);rw[qg,rdB ha,rdB hb];simp -implicitDefEqProofs only[cond_true,qb,qj,show qB4 4 4=true from rfl,show qCh 4 4=true from rfl,qm,qk,qq,qi,yI hx,yI hy,hc];cases decide (cmpT y x<0)with
 |true=>exact⟨_,rfl,b,a,_,.inr ⟨rfl,rfl⟩,rfl⟩
 |false=>exact⟨_,rfl,a,b,_,.inl ⟨rfl,rfl⟩,rfl⟩
theorem qlx{l:List Tm}{a b c:Nat}(ha:a<l.length)(hb:b<l.length)(hc:c<l.length)(hok:qX l)(s:Int):
  Gets (EVd (EV cfg) 126 [.sl (qa l),.int .i64 (a:Int),.int .i64 (b:Int),.int .i64 (c:Int),.ptr 0 0 0,cmpF] 1 [[.int .i64 s]]) (One3 a b c):=by
 refine qwo _ _ _ _ _ ?_;refine Gets.bind (qiN ha hb hok s) ?_;rintro _ ⟨x,y,s1,h1,rfl⟩;simp only[zS,vq,qi,vR];have hx:x<l.length:=by omega
 have hy:y<l.length:=by omega
 refine Gets.bind (qiN hy hc hok s1) ?_;rintro _ ⟨z,w,s2,h2,rfl⟩;simp only[zS,vq,qi,vR];have hz:z<l.length:=by omega
 refine Gets.bind (qiN hx hz hok s2) ?_;rintro _ ⟨u,v,s3,h3,rfl⟩;simp only[zS,vq,qi,vR];exact⟨_,rfl,v,s3,by omega,rfl⟩
theorem qiQ{l:List Tm}{a:Nat}(h1:1<=a)(ha:a+1<l.length)(hl:l.length<1099511627776)(hok:qX l)(s:Int):
  Gets (EVd (EV cfg) 125 [.sl (qa l),.int .i64 (a:Int),.ptr 0 0 0,cmpF] 1 [[.int .i64 s]]) (One3 (a - 1) a (a+1)):=by
 refine qum _ _ _ ?_;have w0:qBZ .i64 ((a:Int) - 1)=((a - 1:Nat):Int):=by rw[qt (by omega) (by omega)];omega
 rw[w0,wr1 (by omega)];refine Gets.bind (qlx (by omega) (by omega) (by omega) hok s) ?_;rintro _ ⟨x,s1,hx,rfl⟩;simp only[qi];exact⟨_,rfl,x,s1,hx,rfl⟩
theorem qx0{l:List Tm}{a b:Nat}(hl:l.length<1099511627776)(hb:b<=l.length)(hab:a+8<=b)(hok:qX l):
  Gets (EVs (EV cfg) 91 [.sl (qa l),.int .i64 (a:Int),.int .i64 (b:Int),cmpF]) (PivP a b):=by
 refine qv5 _ _ _ ?_;unfold zw0 zw1 zw2 zw3 zw4;have w1:qBZ .i64 ((b:Int) - (a:Int))=((b - a:Nat):Int):=by rw[qt (by omega) (by omega)];omega
 have w2:qBZ .i64 ((((b - a:Nat):Int)).tdiv 4)=(((b - a) / 4:Nat):Int):=by
  rw[show((4:Int))=((4:Nat):Int)from rfl,qkx,qt (by omega) (by omega)]
 have w3:qBZ .i64 ((a:Int)+qBZ .i64 ((((b - a) / 4:Nat):Int)*1))=((a+(b - a) / 4:Nat):Int):=by
  rw[qt (x:=_*1) (by omega) (by omega),qt (by omega) (by omega)];omega
 have w4:qBZ .i64 ((a:Int)+qBZ .i64 ((((b - a) / 4:Nat):Int)*2))=((a+(b - a) / 4*2:Nat):Int):=by
  rw[qt (x:=_*2) (by omega) (by omega),qt (by omega) (by omega)];omega
 have w5:qBZ .i64 ((a:Int)+qBZ .i64 ((((b - a) / 4:Nat):Int)*3))=((a+(b - a) / 4*3:Nat):Int):=by
  rw[qt (x:=_*3) (by omega) (by omega),qt (by omega) (by omega)];omega
 rw[w1,yN (by decide),w2];simp only[qb,qi,w3,w4,w5];rw[qCK (show((b - a:Nat):Int)≥8 by omega),cond_true];have fin:∀(j:Nat) (s:Int),a<=j->j<b->Gets (kInt .i64 (.int .i64 s) fun(n_5:Int)=>bif n_5==(0:Int)then some (AV.tup [AV.int .i64 (j:Int),.int .i64 (1:Int)])else bif n_5==(12:Int)then some (AV.tup [AV.int .i64 (j:Int),.int .i64 (2:Int)])else some (AV.tup [AV.int .i64 (j:Int),.int .i64 (0:Int)])) (PivP a b):=by
  intro j s h1 h2;simp only[qi];cases s==(0:Int)with
  |true=>exact⟨_,rfl,j,_,h1,h2,rfl⟩
  |false=>
   cases s==(12:Int)with
   |true=>exact⟨_,rfl,j,_,h1,h2,rfl⟩
   |false=>exact⟨_,rfl,j,_,h1,h2,rfl⟩
 by_cases h50:50<=b - a
 ·rw[qCK (show((b - a:Nat):Int)≥50 by omega),cond_true];refine Gets.bind (qiQ (a:=a+(b - a) / 4) (by omega) (by omega) hl hok 0) ?_;rintro _ ⟨x,s1,hx,rfl⟩;have hx1:a<=x:=by omega
  have hx2:x<b:=by omega
  clear hx;simp only[qi];refine Gets.bind (qiQ (a:=a+(b - a) / 4*2) (by omega) (by omega) hl hok s1) ?_;rintro _ ⟨y,s2,hy,rfl⟩;have hy1:a<=y:=by omega
  have hy2:y<b:=by omega
  clear hy;simp only[qi];refine Gets.bind (qiQ (a:=a+(b - a) / 4*3) (by omega) (by omega) hl hok s2) ?_;rintro _ ⟨z,s3,hz,rfl⟩;have hz1:a<=z:=by omega
  have hz2:z<b:=by omega
  clear hz;simp only[qi];refine Gets.bind (qlx (a:=x) (b:=y) (c:=z) (by omega) (by omega) (by omega) hok s3) ?_;rintro _ ⟨j,s4,hj,rfl⟩;have ha1:a<=j:=by omega
  have ha2:j<b:=by omega
  exact fin j s4 ha1 ha2
 ·rw[qCL (show ¬((b - a:Nat):Int)≥50 by omega),cond_false];refine Gets.bind (qlx (a:=a+(b - a) / 4) (b:=a+(b - a) / 4*2) (c:=a+(b - a) / 4*3) (by omega) (by omega) (by omega) hok 0) ?_;rintro _ ⟨j,s4,hj,rfl⟩;have ha1:a<=j:=by omega
  have ha2:j<b:=by omega
  exact fin j s4 ha1 ha2
theorem qmi{a:Nat}(ha:a<18446744073709551616):Gets (EVd (EV cfg) 124 [.ptr 0 0 0] 1 [[.int .u64 (a:Int)]]) NxtP:=by
 refine qrz _ ?_;have e13:((13:Int))=((13:Nat):Int):=rfl;have e7:((7:Int))=((7:Nat):Int):=rfl;have e17:((17:Int))=((17:Nat):Int):=rfl;have m:∀x:Nat,x % 18446744073709551616<18446744073709551616:=λx=>Nat.mod_lt _ (by decide)
 rw[e13,e7,e17,qxA (by decide)];simp only[qb,qi];obtain⟨h1,l1⟩:=qrA ha (m (a*2 ^ 13));rw[h1];generalize a ^^^ (a*2 ^ 13 % 18446744073709551616)=c at *;simp only[qb,qi];rw[qnm (by decide)];simp only[qb,qi];obtain⟨h2,l2⟩:=qrA l1 (show c / 2 ^ 7<18446744073709551616 by omega);rw[h2];generalize c ^^^ (c / 2 ^ 7)=d at *;simp only[qb,qi];rw[qxA (by decide)]
 simp only[qb,qi];obtain⟨h3,l3⟩:=qrA l2 (m (d*2 ^ 17));rw[h3];simp only[qb,qi];exact⟨_,rfl,_,l3,rfl⟩
theorem qvg{n:Nat}(hn:n<16777216):Gets (EVs (EV cfg) 97 [.int .u64 (n:Int)]) (LenP n):=by
 refine qtd _ ?_;have w8:∀m:Nat,m<256->qBZ .u8 (m:Int)=(m:Int):=λm h=>by
  simp[qBZ,IntKind.bits,IntKind.signed];omega
 have e16:((16:Int))=((16:Nat):Int):=rfl;have e8:((8:Int))=((8:Nat):Int):=rfl;have fin:∀(m c:Nat),m<256->(1<=n->m≠0)->c+8<=24->2 ^ c*m<=n->Gets (bif qd (0:Int) (qBZ .u8 (m:Int))then kOpt (qB0 tabL (qB7 (qBZ .u8 (m:Int)))) fun(b:UInt8)=>some (AV.int .i64 (qBZ .i64 ((c:Int)+qBZ .i64 ((UInt8.toNat b:Nat):Int))))else none) (LenP n):=by
  intro m c hm h0 hc hle;obtain⟨b,hb,hb8,hbm⟩:=qxT m hm;rw[w8 m hm,qE,qCi,hb];simp only[cond_true,qb];rw[qt (x:=((UInt8.toNat b:Nat):Int)) (by omega) (by omega),qt (by omega) (by omega)];refine⟨_,rfl,c+b.toNat,by omega,λh1=>?_,by simp⟩;obtain⟨hb1,hbp⟩:=hbm (h0 h1);refine⟨by omega,?_⟩;have:2 ^ (c+b.toNat - 1)=2 ^ c*2 ^ (b.toNat - 1):=by rw[←Nat.pow_add];congr 1;omega
  rw[this];exact Nat.le_trans (Nat.mul_le_mul_left _ hbp) hle
 rw[qCL (show ¬(n:Int)≥4294967296 by omega),cond_false]
 by_cases h16:65536<=n
 ·rw[qCK (show(n:Int)≥65536 by omega),cond_true,e16,qnm (by decide)];simp only[qb,qi];have h2:n / 2 ^ 16<256:=by omega
  rw[qCL (show ¬((n / 2 ^ 16:Nat):Int)≥256 by omega),cond_false];exact fin (n / 2 ^ 16) 16 h2 (λ_=>by omega) (by omega) (by omega)
 ·rw[qCL (show ¬(n:Int)≥65536 by omega),cond_false]
  by_cases h8:256<=n
  ·rw[qCK (show(n:Int)≥256 by omega),cond_true,e8,qnm (by decide)];simp only[qb,qi];exact fin (n / 2 ^ 8) 8 (by omega) (λ_=>by omega) (by omega) (by omega)
  ·rw[qCL (show ¬(n:Int)≥256 by omega),cond_false];exact fin n 0 (by omega) (λ_=>by omega) (by omega) (by omega)
end Go.Proofs.YtgleolmhpmljhaaGreat
end
noncomputable section
namespace Go.Av
def AllW(l:List Rg):Prop:=∀r∈l,RgW r
theorem AllW.perm{l l':List Rg}(h:AllW l)(p:l'.Perm l):AllW l':=λx hx=>h x (p.mem_iff.1 hx)
theorem AllW.at{l:List Rg}(h:AllW l){i:Nat}{x:Rg}(hx:l[i]? =some x):RgW x:=h x (qCc hx)
theorem rgB2(a b:AV):qB4 2 (qB1 [a,b])=true:=rfl
theorem rgT2(a b:AV):qB8 2 [a,b]=[a,b]:=rfl
theorem rgD2(a b:AV):qCk 2 [a,b]=[]:=rfl
theorem rgG{l:List Rg}{i:Nat}{x:Rg}(hx:l[i]? =some x):qB0 (qD l) (0+qB7 (i:Int))=some [.int .i64 x.ar,.sl (qa x.fst)]:=by
 rw[qCG,qv,qCi,qgg,hx];rfl
theorem rg4{l:List Rg}{i:Nat}{y:Rg}:qCA (qD l) (0+qB7 (i:Int)) [.int .i64 y.ar,.sl (qa y.fst)]=qD (l.set i y):=by
 rw[qCG,qCi];unfold qD;rw[List.map_set];rfl
theorem rg2{l:List Rg}{i j:Nat}{x y:Rg}(hx:l[i]? =some x)(hy:l[j]? =some y):qB0 (qD (l.set i y)) (0+qB7 (j:Int))=some [.int .i64 y.ar,.sl (qa y.fst)]:=by
 refine rgG ?_;have hi:=(qB5.1 hx).1
 by_cases h:i=j
 ·subst h;rw[List.getElem?_set_self hi]
 ·rw[List.getElem?_set_ne h,hy]
theorem rg3{l:List Rg}{i j:Nat}{x y:Rg}(hx:l[i]? =some x)(hy:l[j]? =some y):(l.set i y).set j x=yX l i j:=(qn3 hx hy).symm
theorem yZ{l:List Rg}{i:Nat}(h:i<l.length):∃x,l[i]? =some x:=⟨l[i],qB3 h⟩
def xi(l:List Rg)(r:MV×List (List AV)):Prop:=∃l':List Rg,l'.Perm l∧r=(.unit,qD l')
theorem xi.trans{l l':List Rg}{r:MV×List (List AV)}(h:xi l' r)(p:l'.Perm l):xi l r:=by
 obtain⟨l2,h2,rfl⟩:=h;exact⟨l2,h2.trans p,rfl⟩
def qkV:List Tm->List Tm->Int
 |[],[]=>0
 |[],_::_=> -1
 |_::_,[]=>1
 |x::l,y::m=>if cmpT x y≠0 then cmpT x y else qkV l m
def qg0(r s:Rg):Int:=lexI (numC r.ar s.ar) (lexI (numC r.fst.length s.fst.length) (qkV r.fst s.fst))
theorem wadd{x y:Nat}(h:x+y<4398046511104):qBZ .i64 ((x:Int)+(y:Int))=((x+y:Nat):Int):=by rw[qt (by omega) (by omega)];omega
theorem wsub{x y:Nat}(h:y<=x)(hx:x<4398046511104):qBZ .i64 ((x:Int) - (y:Int))=((x - y:Nat):Int):=by rw[qt (by omega) (by omega)];omega
theorem wid{x:Nat}(hx:x<4398046511104):qBZ .i64 (x:Int)=(x:Int):=qt (by omega) (by omega)
theorem shr1{x y:Nat}(h:x+y<4398046511104):qn (Op.shift BinOp.shr .u64 (qBZ .u64 (qBZ .i64 ((x:Int)+(y:Int)))) .u64 (1:Int))=some (.int .u64 (((x+y) / 2:Nat):Int)):=by
 rw[wadd h,qmj,Nat.mod_eq_of_lt (by omega)];exact qnm (n:=1) (by omega)
end Go.Av
namespace Go.Proofs.YtgleolmhpmljhaaGreat
open Go.Av
abbrev ahF:AV:=.fn (Fn.func 57) [] []
theorem qu4{l m:List Tm}(hl:l.length<1099511627776)(hw:∀x∈l,x.w<1099511627776)(hm:∀x∈m,x.w<1099511627776):EVs (EV cfg) 78 [.sl (qa l),.sl (qa m),.fn (.func 29) [] []]=some (.int .i64 (qkV l m)):=by
 have loop:∀d i:Nat,i+d=l.length->i<=m.length->Gets (qhb (qa l) (qa m) i) (·= .int .i64 (qkV (l.drop i) (m.drop i))):=by
  intro d
  induction d with
  |zero=>
   intro i hi hm;refine qfG _ _ _ ?_;rw[qg,qg,qCL (show ¬((i:Int)<(l.length:Int)) by omega),qCs (show l.length<=i by omega)]
   by_cases h:l.length<m.length
   ·rw[qCK (show(l.length:Int)<(m.length:Int) by omega),qCp (show i<m.length by omega)];exact⟨_,rfl,rfl⟩
   ·rw[qCL (show ¬(l.length:Int)<(m.length:Int) by omega),qCs (show m.length<=i by omega)];exact⟨_,rfl,rfl⟩
  |succ d ihd=>
   intro i hi hmi;have hil:i<l.length:=by omega
   refine qfG _ _ _ ?_;have hx:l[i]? =some l[i]:=qB3 hil;have hd:l.drop i=l[i]::l.drop (i+1):=qCp hil;rw[qg,qg,qCK (show(i:Int)<(l.length:Int) by omega),qE,qP,qP,qCK hil,vW hx,wr1 (by omega)];simp only[cond_true,qCx,qj,qCw,qm,qk,show qB4 4 4=true from rfl]
   by_cases him:i<m.length
   ·have hy:m[i]? =some m[i]:=qB3 him;have hd':m.drop i=m[i]::m.drop (i+1):=qCp him;have h1:=vG (qcw _ (hw _ (qCc hx))) (qcw _ (hm _ (qCc hy)));have h2:=ihd (i+1) (by omega) (by omega);rw[qCK him,qCL (show ¬(i:Int)≥(m.length:Int) by omega),vW hy];simp only[cond_true,cond_false,qCx,qj,qCw,qm,qk,show qB4 4 4=true from rfl,qq,h1,qb,qi,bneD]
    rw[hd,hd',qkV]
    by_cases he:cmpT l[i] m[i]=0
    ·rw[qCK he,qCN (by omega)];exact h2
    ·rw[qCL he,qCM he];exact⟨_,rfl,rfl⟩
   ·rw[qCK (show(i:Int)≥(m.length:Int) by omega),hd,qCs (show m.length<=i by omega)];exact⟨_,rfl,rfl⟩
 apply Gets.get;refine qu3 _ _ ?_
 simpa using loop l.length 0 (by omega) (by omega)
theorem qdt{r s:Rg}(hr:RgW r)(hs:RgW s):EVs (EV cfg) 57 [.agg [.int .i64 r.ar,.sl (qa r.fst)],.agg [.int .i64 s.ar,.sl (qa s.fst)]]=some (.int .i64 (qg0 r s)):=by
 apply Gets.get;refine qte _ _ _ _ ?_;rw[qpg,qg,qg,qpg,qu4 hr.len hr.ws hs.ws];simp only[qb,qi,qub];exact⟨_,rfl,rfl⟩
theorem qsH{n a b i:Nat}(hn:n<1099511627776){P:MV×List (List AV)->Prop}:∀(j:Nat) (l:List Rg),l.length=n->AllW l->j<n->i<n ->
  (∀l':List Rg,l'.Perm l->Gets (qbj n a b ((i+1:Nat):Int) (qD l')) P)->Gets (qex n a b (i:Int) (j:Int) (qD l)) P:=by
 intro j
 induction j with
 |zero=>
  intro l hl hok hj hi h;refine qfl _ _ _ _ _ _ ?_;rw[qCL (by omega),wr1 (by omega)];exact h l (List.Perm.refl _)
 |succ j ih=>
  intro l hl hok hj hi h;refine qfl _ _ _ _ _ _ ?_
  by_cases ha:a<j+1
  case neg=>
   rw[qCL (by omega),wr1 (by omega)];exact h l (List.Perm.refl _)
  obtain⟨y,hy⟩:=yZ (l:=l) (i:=j+1) (by omega);obtain⟨x,hx⟩:=yZ (l:=l) (i:=j) (by omega);have hc:=qdt (hok.at hy) (hok.at hx);rw[qCK (show((j+1:Nat):Int)>(a:Int) by omega),wr0 (by omega),wr1 (show i<4398046511104 by omega)];simp -implicitDefEqProofs only[cond_true,qb,rgB2,rgT2,rgD2,vq,vt,vR,qi,rdB (show j+1<n by omega),rdB (show j<n by omega),rgG hy,rgG hx,hc]
  by_cases hlt:qg0 y x<0
  ·rw[qCK hlt];simp -implicitDefEqProofs only[cond_true,qb,rgB2,rgD2,rdB (show j+1<n by omega),rdB (show j<n by omega),rgG hy,rgG hx,rg2 hy hx,rg4,rg3 hy hx];refine ih _ (by rw[vF];exact hl) (hok.perm (qH _ _ _)) (by omega) hi ?_;intro l' hp;exact h l' (hp.trans (qH _ _ _))
  ·rw[qCL hlt];exact h l (List.Perm.refl _)
theorem qsG{n a b:Nat}(hn:n<1099511627776)(hb:b<=n):∀(d i:Nat) (l:List Rg),l.length=n->AllW l->b<=i+d->Gets (qbj n a b (i:Int) (qD l)) (xi l):=by
 intro d
 induction d with
 |zero=>
  intro i l hl hok hd;refine qfm _ _ _ _ _ ?_;rw[qCL (by omega)];exact⟨_,rfl,l,List.Perm.refl _,rfl⟩
 |succ d ih=>
  intro i l hl hok hd;refine qfm _ _ _ _ _ ?_
  by_cases hib:i<b
  case neg=>
   rw[qCL (by omega)];exact⟨_,rfl,l,List.Perm.refl _,rfl⟩
  rw[qCK (show(i:Int)<(b:Int) by omega)];refine qsH hn i l hl hok (by omega) (by omega) ?_;intro l' hp;exact(ih (i+1) l' (by rw[hp.length_eq];exact hl) (hok.perm hp) (by omega)).mono λr hr=>hr.trans hp
theorem qrc{n a b:Nat}(hn:n<1099511627776)(hb:b<=n)(ha:a<=n){l:List Rg}(hl:l.length=n)(hok:AllW l):
  Gets (EVm (EV cfg) 120 [.ms 0 0 n,.int .i64 (a:Int),.int .i64 (b:Int),ahF] 2 (qD l)) (xi l):=by
 refine qwB _ _ _ _ ?_;rw[wr1 (by omega)];exact qsG hn hb b (a+1) l hl hok (by omega)
theorem qlo{n a b k:Nat}(hn:n<1099511627776)(ha:a+k<=n)(hb:b+k<=n){l:List Rg}(hl:l.length=n):
  Gets (EVm (EV cfg) 165 [.ms 0 0 n,.int .i64 (a:Int),.int .i64 (b:Int),.int .i64 (k:Int),ahF] 2 (qD l)) (xi l):=by
 have loop:∀(d i:Nat) (l:List Rg),l.length=n->k<=i+d->Gets (qeu n a b k (i:Int) (qD l)) (xi l):=by
  intro d
  induction d with
  |zero=>
   intro i l hl hd;refine qff _ _ _ _ _ _ ?_;rw[qCL (by omega)];exact⟨_,rfl,l,List.Perm.refl _,rfl⟩
  |succ d ih=>
   intro i l hl hd;refine qff _ _ _ _ _ _ ?_
   by_cases hik:i<k
   case neg=>
    rw[qCL (by omega)];exact⟨_,rfl,l,List.Perm.refl _,rfl⟩
   obtain⟨y,hy⟩:=yZ (l:=l) (i:=b+i) (by omega);obtain⟨x,hx⟩:=yZ (l:=l) (i:=a+i) (by omega);rw[qCK (show(i:Int)<(k:Int) by omega),wadd (x:=b) (y:=i) (by omega),wadd (x:=a) (y:=i) (by omega),wr1 (show i<4398046511104 by omega)];simp -implicitDefEqProofs only[cond_true,qb,rgB2,rgT2,rgD2,vq,vt,vR,qi,rdB (show a+i<n by omega),rdB (show b+i<n by omega),rgG hx,rgG hy,rg2 hx hy,rg4,rg3 hx hy]
   exact(ih (i+1) _ (by rw[vF];exact hl) (by omega)).mono λr hr=>hr.trans (qH _ _ _)
 exact qvS _ _ _ _ _ (loop k 0 l hl (by omega))
theorem qxY{n a m b:Nat}(hn:n<1099511627776)(ha:a<m)(hm:m<b)(hb:b<=n){l:List Rg}(hl:l.length=n):
  Gets (EVm (EV cfg) 146 [.ms 0 0 n,.int .i64 (a:Int),.int .i64 (m:Int),.int .i64 (b:Int),ahF] 2 (qD l)) (xi l):=by
 have loop:∀(d i j:Nat) (l:List Rg),l.length=n->0<i->0<j->i<=m->m+j<=n->i+j<=d->Gets (qcF n m (i:Int) (j:Int) (qD l)) (xi l):=by
  intro d
  induction d with
  |zero=>intro i j l hl hi hj;omega
  |succ d ih=>
   intro i j l hl hi hj him hjn hd;refine qmX _ _ _ _ _ ?_;have w1:qBZ .i64 ((m:Int) - (i:Int))=((m - i:Nat):Int):=wsub him (by omega);have w2:qBZ .i64 (qBZ .i64 ((m:Int)+(j:Int)) - (i:Int))=((m+j - i:Nat):Int):=by rw[wadd (by omega),wsub (by omega) (by omega)]
   rw[w1,w2,bneD]
   by_cases hij:i=j
   ·subst hij;rw[qCK rfl];simp only[qCj,cond_false];refine Gets.bind (qlo hn (by omega) (by omega) hl) ?_;rintro _ ⟨l2,h2,rfl⟩;exact⟨_,rfl,l2,h2,rfl⟩
   ·rw[qCL (show ¬(i:Int)=(j:Int) by omega)];simp only[qCm,cond_true]
    by_cases hlt:j<i
    ·rw[qCK (show(i:Int)>(j:Int) by omega),cond_true];refine Gets.bind (qlo hn (by omega) (by omega) hl) ?_;rintro _ ⟨l2,h2,rfl⟩;rw[qU,wsub (by omega) (by omega)];exact(ih (i - j) j l2 (by rw[h2.length_eq];exact hl) (by omega) hj (by omega) hjn (by omega)).mono λr hr=>hr.trans h2
    ·rw[qCL (show ¬(i:Int)>(j:Int) by omega),cond_false];refine Gets.bind (qlo hn (by omega) (by omega) hl) ?_;rintro _ ⟨l2,h2,rfl⟩;rw[qU,wsub (by omega) (by omega)];exact(ih i (j - i) l2 (by rw[h2.length_eq];exact hl) hi (by omega) him (by omega) (by omega)).mono λr hr=>hr.trans h2
 refine qv2 _ _ _ _ _ ?_;rw[wsub (by omega) (by omega),wsub (by omega) (by omega)];exact loop (m - a+(b - m)) (m - a) (b - m) l hl (by omega) (by omega) (by omega) (by omega) (by omega)
theorem qp9{p q:Tm}{f:Bool}:∀(n:Nat) (R:List Tm) (h4:List (List AV)),wL R<=n->n<1099511627776->R.length<=h4.length->h4.take R.length=qa R ->
  Gets (z6 R.length p.kind p.num p.str (qa p.subs) f q.kind q.num q.str (qa q.subs) h4) (·= .bool (gndL R)):=by
 intro n
 induction n with
 |zero=>
  intro R h4 hw hn hl ht;have hR:R=[]:=by
   cases R with
   |nil=>rfl
   |cons x l=>rw[qY]at hw;have:=vU x;omega
  subst hR;refine qcI _ _ _ _ _ _ _ _ _ _ _ ?_;have:decide (((([]:List Tm).length:Nat):Int)>0)=false:=rfl;rw[this,cond_false];exact⟨_,rfl,rfl⟩
 |succ n ih=>
  intro R h4 hw hn hl ht;rcases List.eq_nil_or_concat R with rfl|⟨R',x,hR⟩
  ·refine qcI _ _ _ _ _ _ _ _ _ _ _ ?_;have:decide (((([]:List Tm).length:Nat):Int)>0)=false:=rfl;rw[this,cond_false];exact⟨_,rfl,rfl⟩
  ·obtain rfl:R=R'++[x]:=by rw[hR];simp
   clear hR;rw[xF,qY,xg]at hw;have hx:=vU x;have hwe:=x.w_eq;have hRl:=xL R';rw[qCq,List.length_singleton]at hl ht⊢;refine qcI _ _ _ _ _ _ _ _ _ _ _ ?_;have g0:decide (((R'.length+1:Nat):Int)>0)=true:=qCK (by omega);have g1:qBZ .i64 (((R'.length+1:Nat):Int) - 1)=(R'.length:Int):=by rw[qt (by omega) (by omega)];omega
   have g2:qe (R'.length:Int) ((R'.length+1:Nat):Int)=true:=qCK (by omega);have g3:qd (R'.length:Int) ((R'.length+1:Nat):Int)=true:=qCK (by omega);have g4:h4[R'.length]? =some x.cells:=by
    have:(h4.take (R'.length+1))[R'.length]? =some x.cells:=by
     rw[ht,xu];simp
    rwa [List.getElem?_take,qCM (by omega)]at this
   have g5:h4.take R'.length=qa R':=by
    have:(h4.take (R'.length+1)).take R'.length=qa R':=by
     rw[ht,vn];exact List.take_left' (qg R')
    rwa [List.take_take,Nat.min_eq_left (by omega)]at this
   have g6:qB4 (0+R'.length) h4.length=true:=by rw[qCz];omega
   have ga:gndL (R'++[x])=(gndL R'&&gndT x):=by rw[qaF,qaF,List.all_append,List.all_cons,List.all_nil,Bool.and_true]
   rw[ga,g0,g1,qE,g2,g3,qv,qCi,qCG,g4,Nat.sub_zero];simp only[cond_true,qCx,qb,qj,qm,qk,xe,qg,g5,qaW];have push:(x.kind=7∨x.kind=9)->Gets (z6 (R'.length+x.subs.length) p.kind p.num p.str (qa p.subs) f q.kind q.num q.str (qa q.subs) (qCu (qa R') (qa x.subs))) (·= .bool (gndL R'&&gndT x)):=by
    intro hk;have hl:=xL x.subs;have h:=ih (R'++x.subs) (qa (R'++x.subs)) (by rw[xF];omega) (by omega) (by rw[qg];exact qCa _) (qCd (by simp));rw[qCq]at h;rw[show qCu (qa R') (qa x.subs)=qa (R'++x.subs)from(vn _ _).symm];refine Gets.mono h ?_;rintro _ rfl;rw[qhE x,qCM hk,qaF,qaF,List.all_append]
   have drop:gndT x=true->Gets (z6 R'.length p.kind p.num p.str (qa p.subs) f q.kind q.num q.str (qa q.subs) h4) (·= .bool (gndL R'&&gndT x)):=by
    intro hk;refine Gets.mono (ih R' h4 (by omega) (by omega) (by omega) g5) ?_;rintro _ rfl;rw[hk,Bool.and_true]
   rw[beqI,beqI,beqI,zM,g6]
   by_cases h7:x.kind=7
   ·rw[qCK h7];simp only[cond_true,qCF,yv (show R'.length+x.subs.length<=1099511627776 by have:=xL x.subs;omega)];exact push (.inl h7)
   rw[qCL h7,cond_false]
   by_cases h9:x.kind=9
   ·rw[qCK h9];simp only[cond_true,qCF,yv (show R'.length+x.subs.length<=1099511627776 by have:=xL x.subs;omega)];exact push (.inr h9)
   rw[qCL h9,cond_false];have hk:¬(x.kind=7∨x.kind=9):=by omega
   have gx:=qhE x;rw[qCN hk]at gx;unfold varR;simp only[qb,kTup,qf,qi,qp,kNil]
   by_cases h2:x.kind=2
   ·rw[qCK h2]at gx⊢;rw[cond_true];cases hv:(varG x.str).isSome with
    |true=>
     rw[hv]at gx;simp only[Bool.true_or,Bool.and_true,qCj]at gx;rw[gx,cond_true,Bool.and_false];exact⟨_,rfl,rfl⟩
    |false=>
     rw[hv]at gx;simp only[Bool.false_or,qCF]at gx;rw[cond_false]
     by_cases hs:x.str=[95]
     ·rw[qCK hs]at gx;rw[gx,hs,qCj,Bool.and_false];exact⟨_,rfl,rfl⟩
     ·rw[qCL hs]at gx;rw[show(x.str==[(95:UInt8)])=false from beq_false_of_ne hs,cond_false];exact drop gx
   ·rw[qCL h2]at gx⊢;rw[cond_false];exact drop gx
theorem qmE{t:Tm}(h:t.w<1099511627776):EVs (EV cfg) 18 [t.av]=some (.bool (bndG t)):=by
 have hm:=zN h;apply Gets.get;rw[Tm.av,Tm.cells_eq]at hm⊢;refine qr9 _ _ _ _ ?_;rw[hm];simp only[qb,qp];unfold bndG
 by_cases hc:t.chk=0
 ·rw[qCK hc];have hl:=qp9 (p:=t) (q:=t) (f:=false) t.w [t] [t.cells] (by rw[qY,xg];exact qCa _) h (qCa _) rfl;rw[Tm.cells_eq,qaF,List.all_cons,List.all_nil,Bool.and_true]at hl;rw[qCF];exact hl
 ·rw[qCL hc];exact⟨_,rfl,rfl⟩
theorem qwg{t:Tm}(h:t.w<1099511627776):EVs (EV cfg) 20 [t.av]=some (.bool (!bndG t)):=by
 have hm:=qmE h;apply Gets.get;rw[Tm.av,Tm.cells_eq]at hm⊢;refine que _ _ _ _ ?_;rw[hm];exact⟨_,rfl,rfl⟩
theorem quK{l:List Tm}(hl:l.length<1099511627776)(hw:∀x∈l,x.w<1099511627776)(hx:l.all bndG=false):
  EVs (EV cfg) 19 [.sl (qa l),.fn (.func 20) [] []]=some (.int .i64 ((l.takeWhile bndG).length:Int)):=by
 have loop:∀d i:Nat,i+d=l.length->(l.takeWhile bndG).length=i+((l.drop i).takeWhile bndG).length->(l.drop i).all bndG=false->Gets (qhd (qa l) i) (·= .int .i64 ((l.takeWhile bndG).length:Int)):=by
  intro d
  induction d with
  |zero=>
   intro i hi _ ha;rw[qCs (by omega)]at ha;cases ha
  |succ d ihd=>
   intro i hi ht ha;have hil:i<l.length:=by omega
   have hx:l[i]? =some l[i]:=qB3 hil;have hd:l.drop i=l[i]::l.drop (i+1):=qCp hil;have h1:=qwg (hw _ (qCc hx));rw[hd,List.takeWhile_cons]at ht;rw[hd,List.all_cons]at ha;refine qnK _ _ ?_;rw[qg,qCK (show(i:Int)<(l.length:Int) by omega),qE,qP,qCK hil,vW hx,qZ hil hl];simp only[cond_true,qCx,qj,qCw,qm,qk,xe,qq,h1,qb,qp]
   cases hb:bndG l[i]with
   |false=>
    rw[hb]at ht;simp only[qCg,if_false,List.length_nil,Nat.add_zero]at ht;rw[ht];exact⟨_,rfl,rfl⟩
   |true=>
    rw[hb]at ht ha;simp only[if_true,qCE]at ht;exact ihd (i+1) (by omega) (by omega) (by simpa using ha)
 apply Gets.get;refine qsJ _ ?_;exact loop l.length 0 (by omega) (by simp) (by simpa using hx)
theorem qwi(r:Rg){k:Tm}(hk:k.w<1099511627776):EVs (EV cfg) 26 [r.av,.cptr [.int .i64 k.kind,.int .i64 k.num,.str k.str,.sl (qa k.subs)] 0]=some (.bool (q8 r k)):=by
 have h:=qk2 r hk;rw[Tm.av,Tm.cells_eq]at h;apply Gets.get;refine quf _ _ _ _ _ _ ?_;rw[show(AV.agg [.int .i64 r.ar,.sl (qa r.fst)])=r.av from rfl,h];exact⟨_,rfl,rfl⟩
theorem qq6{l:List Rg}(hl:l.length<1099511627776){k:Tm}(hk:k.w<1099511627776):
  EVs (EV cfg) 24 [k.av,.cptr [.sl (qD l)] 0]=some (.bool (l.any λr=>q8 r k)):=by
 have loop:∀d i:Nat,i+d=l.length->Gets (qhc (qD l) k.kind k.num k.str (qa k.subs) i) (AtP i ((l.drop i).any λr=>q8 r k)):=by
  intro d
  induction d with
  |zero=>
   intro i hi;refine qfH _ _ _ _ _ _ ?_;rw[yk,qCL (by omega)];refine⟨_,rfl,-1,rfl,?_⟩;rw[qCs (by omega)];simp
  |succ d ihd=>
   intro i hi;have hil:i<l.length:=by omega
   refine qfH _ _ _ _ _ _ ?_;have hx:l[i]? =some l[i]:=qB3 hil;have hd:l.drop i=l[i]::l.drop (i+1):=qCp hil;have h1:=qwi l[i] hk;have h2:=ihd (i+1) (by omega);have gx:qB0 (qD l) (qB7 (i:Int))=some l[i].cells:=by
    rw[qv,qCi,qgg,hx];rfl
   rw[yk,qCK (show(i:Int)<(l.length:Int) by omega),qE,qP,qCK hil,gx,qZ hil hl];generalize l[i]=r at *;have e:(AV.agg [.int .i64 r.ar,.sl (qa r.fst)])=r.av:=rfl;have c2:r.cells.length=2:=rfl;have t2:qB8 2 r.cells=r.cells:=rfl;have kc:∀{α:Type} (K:Int->List (List AV)->Option α),(qf r.cells λc cs=>kInt .i64 c λn=>qf cs λc cs=>kSl c λrows=>kNil cs (K n rows))=K r.ar (qa r.fst):=λK=>rfl
   simp only[cond_true,qCx,c2,t2,qCw,show qB4 2 2=true from rfl,qb];rw[kc,e,h1];simp only[qb,qp];rw[hd,List.any_cons];cases hb:q8 r k with
   |true=>exact⟨_,rfl,(i:Int),rfl,by simp⟩
   |false=>
    refine h2.mono ?_;rintro _ ⟨j,rfl,hj⟩;exact⟨j,rfl,by simpa using hj⟩
 obtain⟨_,b1,j',rfl,hj⟩:=loop l.length 0 (by omega);have b2:EVs (EV cfg) 59 [.sl (qD l),.fn (.func 26) [] [.cptr [.int .i64 k.kind,.int .i64 k.num,.str k.str,.sl (qa k.subs)] 0]]=some (.int .i64 j'):=Gets.get (qsM _ _ _ _ _ ⟨_,b1,rfl⟩);have b3:EVs (EV cfg) 25 [.sl (qD l),.fn (.func 26) [] [.cptr [.int .i64 k.kind,.int .i64 k.num,.str k.str,.sl (qa k.subs)] 0]]=some (.bool (decide (j'≥0))):=by
  apply Gets.get;refine qs1 _ _ _ _ _ ?_;rw[b2];exact⟨_,rfl,rfl⟩
 apply Gets.get;rw[Tm.av,Tm.cells_eq];refine qwh _ _ _ _ _ ?_;rw[b3];refine⟨_,rfl,?_⟩;rw[List.drop_zero]at hj;cases ha:l.any λr=>q8 r k with
 |true=>rw[ha]at hj;rw[qCK (show j'≥0 from hj.2 rfl)]
 |false=>rw[ha]at hj;rw[qCL (λh=>by have:=hj.1 h;cases this)]
theorem qwD{l:List Rg}(hl:l.length<1099511627776){ks:List Tm}(hk:ks.length<1099511627776)(hw:∀x∈ks,x.w<1099511627776):
  ∃j:Int,EVs (EV cfg) 19 [.sl (qa ks),.fn (.func 24) [] [.cptr [.sl (qD l)] 0]]=some (.int .i64 j) ∧
   ((j= -1∧∀k∈ks,(l.any λr=>q8 r k)=false)∨∃(i:Nat) (k:Tm),j=i∧ks[i]? =some k∧(l.any λr=>q8 r k)=true∧∀x∈ks.take i,(l.any λr=>q8 r x)=false):=by
 have loop:∀d i:Nat,i+d=ks.length->(∀x∈ks.take i,(l.any λr=>q8 r x)=false)->Gets (qey (qa ks) (qD l) i) (λv=>∃j:Int,v= .int .i64 j ∧
   ((j= -1∧∀k∈ks,(l.any λr=>q8 r k)=false)∨∃(i:Nat) (k:Tm),j=i∧ks[i]? =some k∧(l.any λr=>q8 r k)=true∧∀x∈ks.take i,(l.any λr=>q8 r x)=false)):=by
  intro d
  induction d with
  |zero=>
   intro i hi ha;refine qfn _ _ _ ?_;rw[qg,qCL (by omega)];rw[qCd (by omega)]at ha;exact⟨_,rfl,-1,rfl,.inl ⟨rfl,ha⟩⟩
  |succ d ihd=>
   intro i hi ha;have hil:i<ks.length:=by omega
   have hx:ks[i]? =some ks[i]:=qB3 hil;have h1:=qq6 hl (hw _ (qCc hx));refine qfn _ _ _ ?_;rw[qg,qCK (show(i:Int)<(ks.length:Int) by omega),qE,qP,qCK hil,vW hx,qZ hil hk];simp only[cond_true,qCx,qj,qCw,qm,qk,xe,qq,h1,qb,qp]
   cases hb:l.any λr=>q8 r ks[i]with
   |true=>exact⟨_,rfl,_,rfl,.inr ⟨i,_,rfl,hx,hb,ha⟩⟩
   |false=>
    refine ihd (i+1) (by omega) (λx hxm=>?_);rw[List.take_add_one,hx]at hxm;rcases qCy.1 hxm with h|h
    ·exact ha x h
    ·simp at h;subst h;exact hb
 obtain⟨v,h1,j,rfl,h2⟩:=loop ks.length 0 (by omega) (by simp);exact⟨j,Gets.get (quL _ _ ⟨_,h1,rfl⟩),h2⟩
theorem qwU{r s:Rg}(hr:RgW r):EVs (EV cfg) 58 [.agg [.int .i64 r.ar,.sl (qa r.fst)],.agg [.int .i64 s.ar,.sl (qa s.fst)]]=some (.bool (yD r s)):=by
 have h:=qk3 (m:=s.fst) hr.len hr.ws;apply Gets.get;refine qvd _ _ _ _ ?_;rw[h,beqI];unfold yD;cases decide (r.ar=s.ar)<;>exact⟨_,rfl,rfl⟩
theorem qva{l:List Tm}(hl:l.length<1099511627775):EVf (EV cfg) 21 [.sl (qa l)]=some (.sl (qa l)):=by
 have hx:cfg.ext 21=some (qbc (EV K.cfg (.f 21))):=by rfl
 have he:∀args H r,qbc (EV K.cfg (.f 21)) args H=some r->EV cfg (.f 21) args H=some r:=λargs H r h=>qhN (by unfold xn;simp only[hx];exact h)
 cases l with
 |nil=>
  obtain⟨a,h1,ha⟩:=K.qs5 (P:=(·=(.ms 0 0 0,[.rows true 4 []]))) ⟨_,rfl,rfl⟩;obtain⟨b,h2,hb⟩:=K.qs6 (P:=(·=(.ms 1 0 0,[.dead,.rows true 4 []]))) ⟨_,rfl,rfl⟩;subst ha hb;have h3:qbc (EV K.cfg (.f 21)) [.sl []] []=some (.sl [],[]):=by
   unfold qbc;rw[h1,h2];rfl
  unfold EVf;show Option.map _ (EV cfg (.f 21) [.sl []] [])=_;rw[he _ _ _ h3];rfl
 |cons x l=>
  have hr:qa (x::l)=x.cells::qa l:=qN x l;have hl':l.length+1<1099511627775:=by simpa using hl
  have h:=K.qs7 x.cells (qa l) (P:=(·= .sl (x.cells::qa l))) (by
   rw[←hr,y9,qg,qCE,qCG,yv (by omega),qCG,nble,qCK (qCa _),qCd (by rw[qg,Nat.add_eq,qCG];exact qCa _)];exact⟨_,rfl,by rw[hr]⟩)
  obtain⟨_,h,rfl⟩:=h;unfold EVf at h⊢;obtain⟨q,h1,h2⟩:=qCb.1 h;rw[hr,he [.sl (x.cells::qa l)] [] q (by unfold qbc;exact h1)];exact congrArg some h2
def qrs:Den:=evC cfg (EV cfg) 30 none 1 (sub (qc Tryz.f30) [1,1,0,1,0,0])
def qrv:Ex×List AV×AH->Option (MV×List (List AV)):=kAft (Cfg.keepOut cfg 30 (qh (sub (qc Tryz.f30) [1,1,0,1,0,0]))) (qO 0 (kSeq (fun(fr:List AV) (H:AH)=>qL (Cfg.cut cfg 30 (qh (sub (qc Tryz.f30) [1,1,1]))) fr H fun(fr:List AV) (H:AH)=>qG cfg (EV cfg) (kfN cfg 6) 30 none 1 (sub (qc Tryz.f30) [1,1,1]) fr H (vI cfg 4 (Cfg.lift cfg 30 0) (qCl (Func.results Tryz.f30)))) (vI cfg 4 (Cfg.lift cfg 30 0) (qCl (Func.results Tryz.f30)))))
def qyA:List AV×AH->Option (MV×List (List AV)):=fun(p:List AV×AH)=>kOpt (LOOP 1 (some [0,1,5]) [] qrs p) qrv
def qy2:Den:=evC cfg (EV cfg) 30 none 1 (sub (qc Tryz.f30) [1,1,0,1,0,0,1,0,0,1,0,1,0,1,0,0])
def qzr:Ex×List AV×AH->Option (MV×List (List AV)):=kAft (Cfg.keepOut cfg 30 9) (kRun cfg (EV cfg) (kfN cfg 6) 30 none 1 (kLp 1 (some [0,1,5]) ([]) qrs qrv) ([.block 2,.seq (sub (qc Tryz.f30) [1,1,0,1,0,0,1,0,0,1,0,1,1]),.block 1,.seq (sub (qc Tryz.f30) [1,1,0,1,0,0,1,1])]))
def qyz:List AV×AH->Option (MV×List (List AV)):=λp=>kOpt (LOOP 1 (some [0,1,5,6,7]) ([]) qy2 p) qzr
abbrev qdX(nn:Nat)(v5:Int)(h0:Rz):Option (MV×List (List AV)):=qyA (((fx 66 [(0,.ms 0 0 nn),(1,.fn (Fn.func 31) [] []),(5,.int .i64 v5)]):List AV),([.rows true 4 h0]:AH))
abbrev qcs(nn:Nat)(v5 v5' v7:Int)(h0:Rz):Option (MV×List (List AV)):=qyz (((fx 66 [(0,.ms 0 0 nn),(1,.fn (Fn.func 31) [] []),(5,.int .i64 v5'),(6,.ms 0 (0+qB7 v5) (nn - qB7 v5)),(7,.int .i64 v7)]):List AV),([.rows true 4 h0]:AH))
theorem qtO(rows:Rz)(nn:Nat){P:MV×List (List AV)->Prop}(h:Gets (kOpt (EVs (EV cfg) 62 [AV.int .u64 (qBZ .u64 (↑ nn:Int))]) λv=>kInt .i64 v λn=>kOpt (EVm (EV cfg) 61 [.ms 0 0 nn,.int .i64 0,.int .i64 (↑ nn:Int),.int .i64 n,AV.fn (Fn.func 29) [] []] 4 rows) λq=>qx q.1 (some (MV.unit,q.2))) P):Gets (EVm (EV cfg) 28 [.ms 0 0 nn,.fn (Fn.func 29) [] []] 4 rows) P:=
  gE (λ_=>funM rfl rfl Tryz.func28 rfl) (by kernel_rfl) h
theorem qpe(rows:Rz)(nn:Nat){P:MV×List (List AV)->Prop}(h:Gets (bif decide ((↑ nn:Int)<2)then some (MV.sl 0 nn,rows)else qdX nn 1 rows) P):Gets (EVm (EV cfg) 30 [.ms 0 0 nn,.fn (Fn.func 31) [] []] 4 rows) P:=
  gE (λ_=>funM rfl rfl Tryz.func30 rfl) (by kernel_rfl) h
theorem qfQ(nn:Nat)(v5:Int)(h0:Rz){P:MV×List (List AV)->Prop}(h:Gets (bif decide (v5<(↑ nn:Int))then bif qd 0 v5&&qe v5 (↑ nn:Int)then kOpt (qB0 h0 (0+v5.toNat)) λrow=>bif qB4 4 (qB1 row)then kTmC (qB8 4 row) λn n_1 s rows=>(bif qd 0 (qBZ .i64 (v5 - 1))&&qe (qBZ .i64 (v5 - 1)) (↑ nn:Int)then kOpt (qB0 h0 (0+qB7 (qBZ .i64 (v5 - 1)))) λrow=>bif qB4 4 (qB1 row)then kTmC (qB8 4 row) λn_2 n_3 s_1 rows_1=>(kOpt (EVs (EV cfg) 31 [.agg [.int .i64 n,.int .i64 n_1,.str s,.sl rows],.agg [.int .i64 n_2,.int .i64 n_3,.str s_1,.sl rows_1]]) λv=>qr v λb=>bif b then bif qd 0 v5&&qd v5 (↑ nn:Int)then qcs nn v5 v5 1 h0 else none else qdX nn (qBZ .i64 (v5+1)) h0)else none else none)else none else none else some (MV.sl 0 nn,h0)) P):Gets (qdX nn v5 h0) P:=
  gE (λ_=>ql (cfg:=cfg) (f:=30) (rd:=none) (bs:=1)) (by kernel_rfl) h
theorem qfP(nn:Nat)(v5 v5' v7:Int)(h0:Rz){P:MV×List (List AV)->Prop}(h:Gets (bif decide (v7<(↑ (nn - v5.toNat):Int))then bif qd 0 v7&&qe v7 (↑ (nn - v5.toNat):Int)then kOpt (qB0 h0 (0+qB7 v5+v7.toNat)) λrow=>bif qB4 4 (qB1 row)then kTmC (qB8 4 row) λn n_1 s rows=>(bif qd 0 (qBZ .i64 (v7 - 1))&&qe (qBZ .i64 (v7 - 1)) (↑ (nn - v5.toNat):Int)then kOpt (qB0 h0 (0+qB7 v5+qB7 (qBZ .i64 (v7 - (1:Int))))) λrow=>bif qB4 4 (qB1 row)then kTmC (qB8 4 row) λn_2 n_3 s_1 rows_1=>(kOpt (EVs (EV cfg) 31 [.agg [.int .i64 n,.int .i64 n_1,.str s,.sl rows],.agg [.int .i64 n_2,.int .i64 n_3,.str s_1,.sl rows_1]]) λv=>qr v λb=>bif ! b then bif qd 0 v7&&qe v7 (↑ (nn - v5.toNat):Int)then kOpt (qB0 h0 (0+qB7 v5+v7.toNat)) λrow=>bif qB4 4 (qB1 row)then kTmC (qB8 4 row) λn n_4 s rows=>(bif qd 0 v5'&&qe v5' (↑ nn:Int)then kOpt (qB0 h0 (0+qB7 v5')) λrow=>bif qB4 4 (qB1 row)then qcs nn v5 (qBZ .i64 (v5'+1)) (qBZ .i64 (v7+1)) (qCA h0 (0+qB7 v5') (.int .i64 n:: .int .i64 n_4:: .str s:: .sl rows::qCk 4 row))else none else none)else none else none else qcs nn v5 v5' (qBZ .i64 (v7+1)) h0)else none else none)else none else none else bif qd 0 v5'&&qd v5' (↑ nn:Int)then bif qB4 (0+qB7 v5'+(nn - v5'.toNat)) (qB1 h0)then bif qd 0 v5'&&qd v5' (↑ nn:Int)then some (MV.sl 0 (qB7 v5' - 0),qCu (qCu (qB8 (0+v5'.toNat) h0) (qCr (nn - v5'.toNat) [AV.int .i64 0,.int .i64 0,.str [],.nilS])) (qCk (0+qB7 v5'+(nn - v5'.toNat)) h0))else none else none else none) P):Gets (qcs nn v5 v5' v7 h0) P:=
  gE (λ_=>ql (cfg:=cfg) (f:=30) (rd:=none) (bs:=1)) (by kernel_rfl) h
end Go.Proofs.YtgleolmhpmljhaaGreat
end
