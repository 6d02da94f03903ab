/-
  Parts of the proof of CodeRunsUptoSaid, put together: the abstract evaluation and its contracts. Own work.
  What is proved: each lemma as it stands; no condition.
-/
import Derived.Test.YtafdkafbgohigaaGreatZCodeRunsM5
open List renaming length → qzO, getElem?_eq_getElem → qzS, take → qzT, get?Internal → qzU, getElem?_eq_some_iff → qzW, getElem?_append_right → qz2, take_length → qz4, mem_of_getElem? → qz5, getElem?_append_left → qz6, getElem?_set → qz9, take_of_length_le → qAa, length_append → qAc, mem_cons → qAd, replicate → qAf, mem_append → qAh, append → qAi, range → qAs
open Nat renaming beq → qzP, eq_of_beq_eq_true → qzY, le_refl → qz0, ble → qz8, mul_le_mul_right → qAg, blt_eq → qAm, add_assoc → qAo, beq_refl → qAq, add_mul → qAr
open Go.IntKind renaming wrap → qzQ, i64 → qAn
open Bool renaming and_eq_true → qzR, false_eq_true → qz1, and_self → qz7, not_true → qAj, not_false → qAp
open Int renaming toNat → qzV, reduceEq → qAb, toNat_natCast → qAk
open Option renaming bind_eq_some_iff → qzX, map_eq_some_iff → qzZ, bind_some → qz3, map_some → qAe
open Array renaming getElem?_toList → qAl, toList → qAt
set_option maxRecDepth 1000000
set_option maxHeartbeats 0
noncomputable section
namespace Go.Proofs.YtafdkafbgohigaaGreat
open Go.Av
theorem qsG{o:Tm}{self:Int}{V B:List (List AV)}{b:Bool}{t:Tm}{ts:List Tm}(hts:ts.length<1000000):∀(j:Nat),j<=ts.length->∀(R:List (List AV)),R.length+j<1099511627776 ->
  Gets (qcX ((j:Int) - 1) o.kind o.num o.str (qb o.subs) self R.length V.length B.length b t.kind t.num t.str (qb ts) R V B)
   (·=(.int .i64 0,mkR o self (R++qb (ts.take j).reverse) V B b)):=by
 intro j
 induction j with
 |zero=>
  intro _ R _;refine qfs _ _ _ _ _ _ _ _ _ _ _ _ _ _ _ _ _ ?_;rw[qAv (by omega),cond_false];refine⟨_,rfl,?_⟩;simp
 |succ j ih=>
  intro hj R hR;have hjl:j<ts.length:=by omega
  have g0:ts[j]? =some ts[j]:=qzS hjl;have e0:(((j+1:Nat):Int) - 1)=(j:Int):=by omega
  have h1:=ih (by omega) (R++[ts[j].cells]) (by simp;omega);refine qfs _ _ _ _ _ _ _ _ _ _ _ _ _ _ _ _ _ ?_;have e1:(qe 0 (j:Int)&&qu (j:Int) ((qb ts).length:Int))=true:=by simp;omega
  have e2:(qz8 (0+R.length) R.length&&qX (R.length+1) 56)=true:=by
   rw[yv (by omega),nble,qAu (by omega)];rfl
  have e3:(qe (0:Int) (R.length:Int)&&qu (R.length:Int) ((R.length+1:Nat):Int))=true:=by simp
  have w1:qzQ .i64 ((j:Int) - 1)=(j:Int) - 1:=by rw[qS (by omega) (by omega)]
  rw[e0,qAu (show(j:Int)≥0 by omega),e1,qdy g0,qz4,qlc,e2,e3,w1];have ht4:qzT 4 ts[j].cells=ts[j].cells:=by rw[Tm.cells_eq];rfl
  have hl4:qz8 4 ts[j].cells.length=true:=by rw[Tm.cells_eq];rfl
  have hb4:qzP ts[j].cells.length 4=true:=by rw[Tm.cells_eq];rfl
  simp only[qc,cond_true,ht4,hl4,hb4,qv];have hz:(List.drop 4 [AV.int .i64 (0:Int),.int .i64 (0:Int),.str [],.nilS])=[]:=rfl;rw[hz,qh2];have hc:[AV.int .i64 ts[j].kind,.int .i64 ts[j].num,.str ts[j].str,.sl (qb ts[j].subs)]=ts[j].cells:=by rw[Tm.cells_eq]
  have hn:(qz8 4 [AV.int .i64 (0:Int),.int .i64 (0:Int),.str [],.nilS].length)=true:=rfl;rw[hn,cond_true,hc];have e4:(R++[ts[j].cells]).length=R.length+1:=by simp
  rw[e4]at h1;refine h1.mono λr hr=>?_
  rw[hr];have e5:(ts.take (j+1)).reverse=ts[j]::(ts.take j).reverse:=by rw[List.take_add_one,g0];simp
  rw[e5,q4,List.append_assoc];rfl
theorem qm2{o:Tm}{self:Int}{s:SK}{x:InsA}(hx:x.o=1∨x.o=2∨x.o=3∨x.o=4∨x.o=5∨x.o=6)(hxw:x.t.w<1099511627776)(hs:SOk s)(hm:mayB (-1) s.binds=true)(hl:s.left.length<1000000000):
  EVj (EV cfg) 97 1 [.ptr 0 0 0,x.av] (stR o self s)=some (.int .i64 (howR (zm opsR s x).1),stR o self (zm opsR s x).2):=by
 obtain⟨L,V,B,b⟩:=s;have hck:=zS hxw;have hbl:=qdb hm;simp only[]at hbl;apply Gets.get;rw[InsA.av,Tm.cells_eq];refine ql3 _ _ _ _ _ _ _ _ _ _ _ _ _ _ _ _ ?_;unfold zF59 zF63 zF67 zF68 zF69 zF64 zF65 zF66 zF60 zF61 zF62 zF10 zF16 zF18 zF22 zF23 zF24 zF32 zF33 zF34 zF35 zF36 zF37 zF38 zF39 zF40 zF41 zF42 zF43 zF44 zF45 zF46 zF47 zF48 zF49 zF50 zF51 zF52 zF53 zF55 zF56 zF57 zF58 zF54 zF25 zF26 zF27 zF28 zF29 zF30 zF31 zF19 zF20 zF21 zF17 zF11 zF15 zF12 zF13 zF14 zF7 zF8 zF9 zF1 zF3 zF4 zF5 zF6 zF2 zF0
 cases L with
 |nil=>
  have h1:=qsF (o:=o) (self:=self) (V:=V) (B:=B) (b:=b);simp only[qz4,h1,qc,qp,qo,qI,qF,qy,qz7,cond_true,qt,qz,qx,qn,qD,qi,qJ,qC,qg,qG,kTB,qAp];exact⟨_,rfl,rfl⟩
 |cons t r=>
  have htc:t.chk=0:=hs.left t (by simp);have htw:=xO htc;have hsl:=qbD htc;have hr:r.length<1000000000:=by simp at hl;omega
  have h1:=qut (o:=o) (t:=t) (self:=self) (V:=V) (B:=B) (b:=b) hr;simp only[qz4,h1,qc,qp,qo,qI,qF,qy,qz7,cond_true,cond_false,qt,qz,qx,qn,qD,qi,qJ,qC,qg,qG,kTB,qAj,beqI,bneD,qK,hck];have hloop:=qsG (o:=o) (self:=self) (V:=qb V.reverse) (B:=qO B) (b:=b) (t:=t) (ts:=t.subs) (by omega) t.subs.length (qz0 _) (qb r.reverse) (by simp;omega)
  have hbd:=qiW (o:=o) (self:=self) (s:=⟨r,V,B,b⟩) (n:=x.a) (by simp only[];omega);have hbi:=qsI (o:=o) (t:=t) (self:=self) (s:=⟨r,V,B,b⟩) (n:=x.a) (by simp only[];omega) hm;rw[qz4]at hloop;have w1:qzQ .i64 ((t.subs.length:Int) - 1)=(t.subs.length:Int) - 1:=by rw[qS (by omega) (by omega)]
  have s2:∀(w:How),(AV.int .i64 (howR w),mkR o self (qb r.reverse) (qb V.reverse) (qO B) b)=(AV.int .i64 (howR w),stR o self ⟨r,V,B,b⟩):=λw=>rfl
  have s3:(AV.int .i64 0,mkR o self (qb r.reverse++qb t.subs.reverse) (qb V.reverse) (qO B) b)=(AV.int .i64 (howR .next),stR o self ⟨t.subs++r,V,B,b⟩):=by
   rw[stR,List.reverse_append,vO];rfl
  have hts:(qb t.subs).length=t.subs.length:=by simp
  unfold zm;simp only[];rcases hx with hx|hx|hx|hx|hx|hx
  ·simp only[hx,qAb,decide_true,cond_true,if_true]
   by_cases ha:x.a<0
   ·simp only[ha,decide_true,cond_true,if_true];exact⟨_,rfl,s2 .broken⟩
   simp only[ha,decide_false,cond_false,if_false]
   by_cases h7:t.kind=7
   ·by_cases hla:(t.subs.length:Int)=x.a
    ·simp only[h7,hla,hts,decide_true,qAj,cond_false,and_self,if_true];rw[h7]at hloop;rw[hla]at w1 hloop;rw[w1];exact hloop.mono λr hr=>hr.trans s3
    ·simp only[h7,hla,hts,decide_true,decide_false,qAj,qAp,cond_true,cond_false,and_false,if_false];exact⟨_,rfl,s2 .fails⟩
   ·simp only[h7,decide_false,qAp,cond_true,false_and,if_false];exact⟨_,rfl,s2 .fails⟩
  ·simp only[hx,qAb,decide_true,decide_false,cond_true,cond_false,if_true,if_false]
   by_cases h9:t.kind=9
   ·simp only[h9,hts,decide_true,qAj,cond_false,if_true];rw[h9]at hloop;rw[w1];exact hloop.mono λr hr=>hr.trans s3
   ·simp only[h9,decide_false,qAp,cond_true,if_false];exact⟨_,rfl,s2 .fails⟩
  ·simp only[hx,qAb,decide_true,decide_false,cond_true,cond_false,if_true,if_false]
   by_cases ha:x.a<0
   ·simp only[ha,decide_true,cond_true,true_or,if_true];exact⟨_,rfl,s2 .broken⟩
   by_cases hb:x.a>99
   ·simp only[ha,hb,decide_true,decide_false,cond_true,cond_false,or_true,if_true];exact⟨_,rfl,s2 .broken⟩
   simp only[ha,hb,decide_false,cond_false,or_self,if_false,hbi,qc,qp,qo,qI,qF,qy,qz7,cond_true,qt,qz,qx,qn,qD,qi,qJ,qC,qg,qG];exact⟨_,rfl,rfl⟩
  ·simp only[hx,qAb,decide_false,cond_false,if_true,if_false]
   by_cases ha:x.a<0
   ·simp only[ha,decide_true,cond_true,true_or,if_true];exact⟨_,rfl,s2 .broken⟩
   by_cases hb:x.a>99
   ·simp only[ha,hb,decide_true,decide_false,cond_true,cond_false,or_true,if_true];exact⟨_,rfl,s2 .broken⟩
   simp only[ha,hb,decide_false,cond_false,or_self,if_false,hbd,qc,qp,qo,qI,qF,qy,qz7,cond_true,qt,qz,qx,qn,qD,qi,qJ,qC,qg,qG,kTB];cases hlk:qR x.a B with
   |none=>
    simp only[Option.isSome_none,qAp,cond_true];exact⟨_,rfl,s2 .broken⟩
   |some u=>
    have huw:=xO (hs.binds _ (qbf hlk)).1;have hsame:=qja u (by simp only[]at huw;omega) t;simp only[Option.isSome_some,Option.getD_some,qAj,cond_false,qK,hsame,qc,qg]
    by_cases he:u=t
    ·rw[qAu he,qAw he];exact⟨_,rfl,s2 .next⟩
    ·rw[qAv he,qAx he];exact⟨_,rfl,s2 .fails⟩
  ·simp only[hx,qAb,decide_true,decide_false,cond_true,cond_false,if_false];exact⟨_,rfl,s2 .next⟩
  ·have hsame:=qja t (by omega) x.t;simp only[hx,qAb,decide_true,decide_false,cond_true,cond_false,if_true,if_false]
   by_cases hc:x.t.chk=0
   ·simp only[hc,decide_true,qAj,cond_false,if_true,hsame,qc,qg]
    by_cases he:t=x.t
    ·rw[qAu he,qAw he];exact⟨_,rfl,s2 .next⟩
    ·rw[qAv he,qAx he];exact⟨_,rfl,s2 .fails⟩
   ·simp only[hc,decide_false,qAp,cond_true,if_false];exact⟨_,rfl,s2 .broken⟩
theorem qm3{o:Tm}{self:Int}{s:SK}(hs:SOk s)(hm:mayB (-1) s.binds=true)(hv:s.vals.length<=200000):∀(rest pre:List (Int×Tm)),s.binds=pre++rest ->
  Gets (qeN pre.length (pre.length:Int) o.kind o.num o.str (qb o.subs) self (qb s.left.reverse).length (qb s.vals.reverse).length (qO s.binds).length s.body (qb s.left.reverse) (qb s.vals.reverse) (qO s.binds) (qb (pre.map (·.2))))
   (·=(.int .i64 (howR (vL (yV (s.binds.map (·.2)) zy) s).1),stR o self (vL (yV (s.binds.map (·.2)) zy) s).2)):=by
 have hbl:=qdb hm;intro rest
 induction rest with
 |nil=>
  intro pre h;refine qfr _ _ _ _ _ _ _ _ _ _ _ _ _ _ _ ?_;unfold zF75 zF76;rw[List.append_nil]at h;have hA:∀y∈pre.map (·.2),y.chk=0:=λy hy=>by
   obtain⟨p,hp,rfl⟩:=List.mem_map.1 hy;exact(hs.binds p (h▸hp)).1
  have hpl:pre.length<=100:=by rw[←h];omega
  have hw:=qcv hA (by simp;omega);have hmk:=qtT (l:=pre.map (·.2)) (by simp;omega);have hz:=qcy (o:=o) (self:=self) (s:=s) (t:=yV (pre.map (·.2)) zy) (by rw[qkU,List.length_map];omega) (by omega);rw[qAv (by rw[vp,h];omega)];have hlp:(qb (pre.map (·.2))).length=pre.length:=by simp
  have htk:qzT pre.length (qb (pre.map (·.2)))=qb (pre.map (·.2)):=qAa (by omega);rw[htk,hlp,nble,qAu (show 0+pre.length<=pre.length by omega),hmk];simp only[cond_false,qz7,cond_true,qc,ve,qK,qz4,hz,qp,qo,qI,qF,qy,qt,qz,qx,qn,qD,qi,qJ,qC,qg,qG]
  refine⟨_,rfl,?_⟩;rw[h]
 |cons p rest ih=>
  intro pre h;refine qfr _ _ _ _ _ _ _ _ _ _ _ _ _ _ _ ?_;unfold zF75 zF76;have hl:s.binds.length=pre.length+(rest.length+1):=by rw[h];simp
  have g0:qzU (qO s.binds) (0+qzV (pre.length:Int))=some (.int .i64 p.1::p.2.cells):=by
   rw[Nat.zero_add,qAk,q9,qcJ,h,qz2 (qz0 _),Nat.sub_self];rfl
  have e1:(qe 0 (pre.length:Int)&&qu (pre.length:Int) ((qO s.binds).length:Int))=true:=by rw[vp];simp;omega
  have h1:=ih (pre++[p]) (by rw[h];simp);have w1:qzQ .i64 ((pre.length:Int)+1)=(((pre++[p]).length:Nat):Int):=by rw[qS (by omega) (by omega)];simp
  have hl5:qz8 5 (qzO (AV.int qAn p.1::p.2.cells))=true:=by rw[Tm.cells_eq];rfl
  have hd:qzT 4 (List.drop 1 (AV.int qAn p.1::p.2.cells))=[.int .i64 p.2.kind,.int .i64 p.2.num,.str p.2.str,.sl (qb p.2.subs)]:=by rw[Tm.cells_eq];rfl
  have hlp:(qb (pre.map (·.2))).length=pre.length:=by simp
  have htk:qzT pre.length (qb (pre.map (·.2)))=qb (pre.map (·.2)):=qAa (by omega);rw[qAu (show(pre.length:Int)<((qO s.binds).length:Int) by rw[vp];omega),e1,g0,htk,hlp,nble,qAu (show 0+pre.length<=pre.length by omega),yv (by omega),w1];simp only[cond_true,qc,hl5,hd,qn,qi,qD,qJ,qC,qz7];have e5:qAi (qb (pre.map (·.2))) [[AV.int .i64 p.2.kind,.int .i64 p.2.num,.str p.2.str,.sl (qb p.2.subs)]]=qb ((pre++[p]).map (·.2)):=by
   show qb _++_=_;rw[List.map_append,vO];simp only[List.map_cons,List.map_nil,q4,q6,Tm.cells_eq]
  rw[e5];have e6:(pre++[p]).length=pre.length+1:=by simp
  rw[e6]at h1⊢;exact h1
theorem qqK{o:Tm}{self:Int}{s:SK}{x:InsA}(hx:x.o=7∨x.o=8∨x.o=9∨x.o=10)(hxw:x.t.w<1099511627776)(ho:o.chk=0)(hs:SOk s)(hm:mayB (-1) s.binds=true)(hv:s.vals.length<=200000):
  EVj (EV cfg) 98 1 [.ptr 0 0 0,x.av] (stR o self s)=some (.int .i64 (howR (qaZ opsR o s x).1),stR o self (qaZ opsR o s x).2):=by
 have hck:=zS hxw;have hbl:=qdb hm;have hzo:=qdu (o:=o) (self:=self) (s:=s) (t:=o) (by omega);have hzx:=qdu (o:=o) (self:=self) (s:=s) (t:=x.t) (by omega);have hbd:=qiW (o:=o) (self:=self) (s:=s) (n:=x.a) (by omega);have hloop:=qm3 (o:=o) (self:=self) hs hm hv s.binds [] rfl;apply Gets.get;rw[InsA.av,Tm.cells_eq];refine qoX _ _ _ _ _ _ _ _ _ _ _ _ _ _ _ _ ?_
 unfold zF77 zF78 zF70 zF71 zF72 zF73 zF74 zF75 zF76 zF0;unfold qaZ;rcases hx with hx|hx|hx|hx
 ·simp -implicitDefEqProofs only[hx,beqI,bneD,qAb,decide_true,cond_true,qK,hck,qc,qi,if_true]
  by_cases hc:x.t.chk=0
  ·simp -implicitDefEqProofs only[hc,decide_true,qAj,cond_false,if_true,qz4,hzx,qc,qp,qo,qI,qF,qy,qz7,cond_true,qt,qz,qx,qn,qD,qi,qJ,qC,qg,qG];refine⟨_,rfl,?_⟩;unfold vL;rw[qAw hc];rfl
  ·simp -implicitDefEqProofs only[hc,decide_false,qAp,cond_true,if_false];exact⟨_,rfl,rfl⟩
 ·simp -implicitDefEqProofs only[hx,beqI,qAb,decide_false,cond_true,cond_false,if_true,if_false,qz4,hbd,qc,qp,qo,qI,qF,qy,qz7,qt,qz,qx,qn,qD,qi,qJ,qC,qg,qG,kTB];cases hlk:qR x.a s.binds with
  |none=>
   simp -implicitDefEqProofs only[Option.isSome_none,qAp,cond_true];exact⟨_,rfl,rfl⟩
  |some u=>
   have hu:=(hs.binds _ (qbf hlk)).1;have hzu:=qdu (o:=o) (self:=self) (s:=s) (t:=u) (by omega);simp -implicitDefEqProofs only[Option.isSome_some,Option.getD_some,qAj,cond_false,qK,hzu,qc,qp,qo,qI,qF,qy,qz7,cond_true,qt,qz,qx,qn,qD,qi,qJ,qC,qg,qG];refine⟨_,rfl,?_⟩
   unfold vL;rw[qAw hu];rfl
 ·simp -implicitDefEqProofs only[hx,beqI,qAb,decide_true,decide_false,cond_true,cond_false,if_true,if_false,qK,qz4,hzo,qc,qp,qo,qI,qF,qy,qz7,qt,qz,qx,qn,qD,qi,qJ,qC,qg,qG];refine⟨_,rfl,?_⟩;unfold vL;rw[qAw ho];rfl
 ·simp -implicitDefEqProofs only[hx,beqI,qAb,decide_true,decide_false,cond_true,cond_false,if_false];exact hloop
theorem qt5(op:List UInt8)(l:List Tm)(self:Int):doO op l self=if(qck op l self).2=0 then some (qck op l self).1 else none:=by
 unfold doO qck;split
 ·cases zo op l self<;>rfl
 ·rfl
theorem qbT{α:Type}(r:List (List AV))(b:Bool)(K:List (List AV)->Bool->Option α):
  (kTup (.tup [.sl r,.bool b]) fun(cs:List AV)=>qa cs fun(c:AV) (cs:List AV)=>kSl c fun(rows:List (List AV))=>qa cs fun(c:AV) (cs:List AV)=>qq c fun(b:Bool)=>kNil cs (K rows b))=K r b:=rfl
theorem qqI{o:Tm}{self:Int}{s:SK}{x:InsA}(hx:x.o=11∨x.o=12∨x.o=13)(hxw:x.t.w<1099511627776)(hs:SOk s)(hv:s.vals.length<=200000):
  EVj (EV cfg) 99 1 [.ptr 0 0 0,x.av] (stR o self s)=some (.int .i64 (howR (qaX self s x).1),stR o self (qaX self s x).2):=by
 have hck:=zS hxw;apply Gets.get;rw[InsA.av,Tm.cells_eq];refine qoV _ _ _ _ _ _ _ _ _ _ _ _ _ _ _ _ ?_;unfold qqu qwd qwc qwb qwa qv9 qv8 qv7 qv6 qv5 qv4 qv3 qv2 qvU qvT qv1 qqt qv0 qvZ qvY qvX qvW qvV zF79 zF80 zF81 zF82 zF83 zF84 zF85 zF86 zF87 zF88 zF89 zF90 zF91 zF98 qqv qwz qwy qwx qww qwv qwu qwt qws qwr qwq qwp qwo qwn qwm qwl qwk qwj qwi qwh qwg qwf qwe qmq zF99 qwE qwD qwC qwB qwA zF92 zF93 zF94 zF95 zF96 zF97 zF77 zF78 zF0
 have sb:(AV.int .i64 3,stR o self s)=(AV.int .i64 (howR .broken),stR o self s):=rfl;unfold qaX;have tb:∀n:Int,(n<0∨(s.vals.length:Int)<n)->EVj (EV cfg) 164 1 [.ptr 0 0 0,.int .i64 n] (stR o self s)=some (.tup [.sl [],.bool false],stR o self s):=λn h=>qqF h
 by_cases hc:x.o=13∧(x.t.kind≠2∨x.t.chk≠0)
 ·rw[qAw (.inr (.inr hc))];simp only[hc.1,beqI,bneD,qAb,decide_true,decide_false,cond_true,cond_false,qK,hck,qc,qi]
  by_cases h0:x.t.chk=0
  ·rw[qAu h0,qAv (show ¬x.t.kind=2 by omega)];exact⟨_,rfl,sb⟩
  ·rw[qAv h0];exact⟨_,rfl,sb⟩
 by_cases hn:xi x<0∨(s.vals.length:Int)<xi x
 ·rw[qAw (by omega)];have z:=tb _ hn;unfold xi at z;rcases hx with hx|hx|hx
  ·rw[qAx (by omega)]at z;simp only[hx,beqI,bneD,qAb,decide_true,decide_false,cond_true,cond_false,qz4,z,qc,qp,qo,qI,qF,qy,qz7,qt,qz,qx,qn,qD,qi,qJ,qC,qg,qG,qbT,qAp];exact⟨_,rfl,sb⟩
  ·rw[qAw hx]at z;simp only[hx,beqI,bneD,qAb,decide_true,decide_false,cond_true,cond_false,qz4,z,qc,qp,qo,qI,qF,qy,qz7,qt,qz,qx,qn,qD,qi,qJ,qC,qg,qG,qbT,qAp];exact⟨_,rfl,sb⟩
  ·rw[qAx (by omega)]at z;have h0:x.t.chk=0:=by omega
   have h2:x.t.kind=2:=by omega
   simp only[hx,h0,beqI,bneD,qAb,decide_true,decide_false,qAj,cond_true,cond_false,qK,hck,qz4,z,qc,qp,qo,qI,qF,qy,qz7,qt,qz,qx,qn,qD,qi,qJ,qC,qg,qG,qbT,qAp,qAu h2];exact⟨_,rfl,sb⟩
 rw[qAx (by omega)];obtain⟨N,hN⟩:∃N:Nat,xi x=(N:Int):=⟨(xi x).toNat,by omega⟩;have hNl:N<=s.vals.length:=by omega
 have zt:=qlk (o:=o) (self:=self) (s:=s) (n:=N) hNl (by omega);rw[hN,qAk];generalize hts:(s.vals.take N).reverse=ts at *;generalize hrest:s.vals.drop N=rest at *;have htl:ts.length=N:=by rw[←hts];simp;omega
 have hrl:rest.length=s.vals.length - N:=by rw[←hrest];simp
 have htc:∀y∈ts,y.chk=0:=λy hy=>hs.vals y (List.mem_of_mem_take (List.mem_reverse.1 (hts▸hy)))
 have htw:=qcv htc (by omega);have z7:=qcy (o:=o) (self:=self) (s:={ s with vals:=rest }) (t:=tupT ts) (by rw[tupT,Tm.w_mk];simp;omega) (by simp only[];omega);have z9:=qcy (o:=o) (self:=self) (s:={ s with vals:=rest }) (t:=.mk 9 0 [] ts) (by rw[Tm.w_mk];simp;omega) (by simp only[];omega);have za:=qnp (op:=x.t.str) (l:=ts) (λy hy=>by have:=xO (htc y hy);omega) (by omega) self
 have hd:=qt5 x.t.str ts self;have zaw:∀v,doO x.t.str ts self=some v->v.w<1099511627776:=λv hv=>by
  unfold doO at hv;split at hv
  ·rename_i hc;exact qfn htc (qeZ _ hc.1.1) hv
  ·cases hv
 rw[qsx]at z7;rw[qql]at z9;rcases hx with hx|hx|hx
 ·have hxa:x.a=(N:Int):=by
   have:=hN;unfold xi at this
   rwa [hx,qAx (by decide)]at this
  simp only[hx,hxa,beqI,bneD,qAb,decide_true,decide_false,cond_true,cond_false,if_true,qz4,zt,qc,qp,qo,qI,qF,qy,qz7,qt,qz,qx,qn,qD,qi,qJ,qC,qg,qG,qbT,qAj,z7];exact⟨_,rfl,rfl⟩
 ·have hN2:N=2:=by
   have:=hN;unfold xi at this;rw[hx,qAw rfl]at this;omega
  subst hN2;have zt2:EVj (EV cfg) 164 1 [.ptr 0 0 0,.int .i64 2] (stR o self s)=_:=zt;simp only[hx,beqI,bneD,qAb,decide_true,decide_false,cond_true,cond_false,if_true,if_false,qz4,zt2,qc,qp,qo,qI,qF,qy,qz7,qt,qz,qx,qn,qD,qi,qJ,qC,qg,qG,qbT,qAj,z9];exact⟨_,rfl,rfl⟩
 ·have hxa:x.a=(N:Int):=by
   have:=hN;unfold xi at this
   rwa [hx,qAx (by decide)]at this
  have h0:x.t.chk=0:=by omega
  have h2:x.t.kind=2:=by omega
  simp only[hx,hxa,h2,beqI,bneD,qAb,decide_true,decide_false,qAj,cond_true,cond_false,if_false];have hck2:=hck;rw[Tm.av,Tm.cells_eq,h2]at hck2;rw[hd];unfold qj7 at za;simp only[hck2,h0,decide_true,qAj,cond_false,qz4,zt,qc,qp,qo,qI,qF,qy,qz7,qt,qz,qx,qn,qD,qi,qJ,qC,qg,qG,qbT,za,qrI,cond_true]
  by_cases he:(qck x.t.str ts self).2=0
  ·have zv:=zaw (qck x.t.str ts self).1 (by rw[hd,qAw he]);have zp:=qcy (o:=o) (self:=self) (s:={ s with vals:=rest }) (t:=(qck x.t.str ts self).1) zv (by simp only[];omega);simp only[he,decide_true,qAj,cond_false,if_true,qK,zp,qc,qp,qo,qI,qF,qy,qz7,cond_true,qt,qz,qx,qn,qD,qi,qJ,qC,qg,qG]
   exact⟨_,rfl,rfl⟩
  ·simp only[he,decide_false,qAp,cond_true,if_false];exact⟨_,rfl,rfl⟩
theorem qqJ{o:Tm}{self:Int}{s:SK}{x:InsA}(hx:x.o=14∨x.o=15∨x.o=16∨x.o=17∨x.o=19∨x.o=20)(hv:s.vals.length<1000000000):
  EVj (EV cfg) 100 1 [.ptr 0 0 0,x.av] (stR o self s)=some (.int .i64 (howR (qaY s x).1),stR o self (qaY s x).2):=by
 obtain⟨L,V,B,b⟩:=s;apply Gets.get;rw[InsA.av,Tm.cells_eq];refine qoW _ _ _ _ _ _ _ _ _ _ _ _ _ _ _ _ ?_;unfold qqs qvS qvR qvQ qvP qvO qvN qmq zF21 zF17 zF2 zF0;cases V with
 |nil=>exact⟨_,rfl,rfl⟩
 |cons t r=>
  have hr:r.length<1000000000:=by simp at hv;omega
  have zt:EVj (EV cfg) 164 1 [.ptr 0 0 0,.int .i64 1] (stR o self ⟨L,t::r,B,b⟩)=some (.tup [.sl (qb [t]),.bool true],stR o self ⟨L,r,B,b⟩):=qlk (o:=o) (self:=self) (s:=⟨L,t::r,B,b⟩) (n:=1) (by simp) hv;have hl:((qb (t::r).reverse).length:Int)=((r.length+1:Nat):Int):=by simp
  have e0:((((r.length+1:Nat)):Int)==(0:Int))=false:=by simp<;>omega
  have e1:qzQ .i64 ((((r.length+1:Nat):Int)) - 1)=(r.length:Int):=qa8 (by omega);have e2:(qe (0:Int) (r.length:Int)&&qu (r.length:Int) (((r.length+1:Nat):Int)))=true:=by simp
  have e4:qzU (qb (t::r).reverse) (0+qzV (r.length:Int))=some t.cells:=by
   have:=qa6 (qb r.reverse) t.cells;rw[qj,List.length_reverse]at this;rw[yw];exact this
  have ht4:qzT 4 t.cells=t.cells:=by rw[Tm.cells_eq];rfl
  have hl4:qz8 4 t.cells.length=true:=by rw[Tm.cells_eq];rfl
  have htr:=qpQ t;have s1:∀(w:How),(AV.int .i64 (howR w),mkR o self (qb L.reverse) (qb (t::r).reverse) (qO B) b)=(AV.int .i64 (howR w),stR o self ⟨L,t::r,B,b⟩):=λw=>rfl
  have s2:∀(w:How),(AV.int .i64 (howR w),mkR o self (qb L.reverse) (qb r.reverse) (qO B) b)=(AV.int .i64 (howR w),stR o self ⟨L,r,B,b⟩):=λw=>rfl
  rw[hl,e0,e1,e2,e4];simp only[qc,cond_false,cond_true,hl4,ht4,qv,qK,htr,qu5,qn,qg,qC];unfold qaY;simp only[];rcases hx with hx|hx|hx|hx|hx|hx
  ·simp only[hx,beqI,qAb,decide_true,decide_false,cond_true,cond_false,if_true,if_false,qz4,zt,qc,qp,qo,qI,qF,qy,qz7,qt,qz,qx,qn,qD,qi,qJ,qC,qg,qG,qbT]
   by_cases hb:vC t=some true
   ·rw[hb,qAw rfl,qAu rfl];exact⟨_,rfl,s2 .next⟩
   ·rw[qAv hb,qAx hb];cases vC t with
    |none=>exact⟨_,rfl,s2 .fails⟩
    |some c=>exact⟨_,rfl,s2 .fails⟩
  ·simp only[hx,beqI,qAb,decide_true,decide_false,cond_true,cond_false,if_false,qz4,zt,qc,qp,qo,qI,qF,qy,qz7,qt,qz,qx,qn,qD,qi,qJ,qC,qg,qG,qbT];cases hb:vC t with
   |none=>exact⟨_,rfl,s1 .raises⟩
   |some c=>
    cases c with
    |true=>exact⟨_,rfl,s2 .next⟩
    |false=>exact⟨_,rfl,s1 .jumps⟩
  ·simp only[hx,beqI,qAb,decide_false,cond_true,cond_false,if_false,qz4,zt,qc,qp,qo,qI,qF,qy,qz7,qt,qz,qx,qn,qD,qi,qJ,qC,qg,qG,qbT];cases hb:vC t with
   |none=>exact⟨_,rfl,s1 .raises⟩
   |some c=>
    cases c with
    |true=>exact⟨_,rfl,s1 .jumps⟩
    |false=>exact⟨_,rfl,s2 .next⟩
  ·simp only[hx,beqI,qAb,decide_true,decide_false,cond_true,cond_false,if_true,if_false];cases hb:vC t with
   |none=>exact⟨_,rfl,s1 .raises⟩
   |some c=>exact⟨_,rfl,s1 .next⟩
  ·simp only[hx,beqI,qAb,decide_true,decide_false,cond_true,cond_false,if_true,if_false,qz4,zt,qc,qp,qo,qI,qF,qy,qz7,qt,qz,qx,qn,qD,qi,qJ,qC,qg,qG,qbT];exact⟨_,rfl,s2 .next⟩
  ·simp only[hx,beqI,qAb,decide_true,decide_false,cond_true,cond_false,if_true,if_false];exact⟨_,rfl,s1 .tells⟩
theorem qsH{o:Tm}{self:Int}{s:SK}{x:InsA}(hxw:x.t.w<1099511627776)(ho:o.chk=0)(hs:SOk s)(hm:mayB (-1) s.binds=true)(hv:s.vals.length<=200000)(hl:s.left.length<1000000000):
  EVj (EV cfg) 50 1 [.ptr 0 0 0,x.av] (stR o self s)=some (.int .i64 (howR (vZ opsR o self s x).1),stR o self (vZ opsR o self s x).2):=by
 have m1:∀h,_:=λh=>qm2 (o:=o) (self:=self) (x:=x) (s:=s) h hxw hs hm hl
 have m2:∀h,_:=λh=>qqK (o:=o) (self:=self) (x:=x) (s:=s) h hxw ho hs hm hv
 have m3:∀h,_:=λh=>qqI (o:=o) (self:=self) (x:=x) (s:=s) h hxw hs hv
 have m4:∀h,_:=λh=>qqJ (o:=o) (self:=self) (x:=x) (s:=s) h (by omega)
 apply Gets.get;rw[InsA.av,Tm.cells_eq]at m1 m2 m3 m4⊢;refine qqL _ _ _ _ _ _ _ _ _ _ _ _ _ _ _ _ ?_;unfold qeI qmp qio qeJ zF70 zF71 zF72 zF73 zF74 zF75 zF76 zF0;unfold vZ
 by_cases h1:x.o=1∨x.o=2∨x.o=3∨x.o=4∨x.o=5∨x.o=6
 ·have z:=m1 h1;rw[qAw (by simp only[qAd,List.not_mem_nil,or_false];exact h1)];rcases h1 with h|h|h|h|h|h
  all_goals
   simp only[h]at z;simp only[h,beqI,qAb,decide_true,decide_false,cond_true,cond_false,qz4,z,qc,qp,qo,qI,qF,qy,qz7,qt,qz,qx,qn,qD,qi,qJ,qC,qg,qG];exact⟨_,rfl,rfl⟩
 rw[qAx (by simp only[qAd,List.not_mem_nil,or_false];exact h1)]
 by_cases h2:x.o=7∨x.o=8∨x.o=9∨x.o=10
 ·have z:=m2 h2;rw[qAw (by simp only[qAd,List.not_mem_nil,or_false];exact h2)];rcases h2 with h|h|h|h
  all_goals
   simp only[h]at z;simp only[h,beqI,qAb,decide_true,decide_false,cond_true,cond_false,qz4,z,qc,qp,qo,qI,qF,qy,qz7,qt,qz,qx,qn,qD,qi,qJ,qC,qg,qG];exact⟨_,rfl,rfl⟩
 rw[qAx (by simp only[qAd,List.not_mem_nil,or_false];exact h2)]
 by_cases h3:x.o=11∨x.o=12∨x.o=13
 ·have z:=m3 h3;rw[qAw (by simp only[qAd,List.not_mem_nil,or_false];exact h3)];rcases h3 with h|h|h
  all_goals
   simp only[h]at z;simp only[h,beqI,qAb,decide_true,decide_false,cond_true,cond_false,qz4,z,qc,qp,qo,qI,qF,qy,qz7,qt,qz,qx,qn,qD,qi,qJ,qC,qg,qG];exact⟨_,rfl,rfl⟩
 rw[qAx (by simp only[qAd,List.not_mem_nil,or_false];exact h3)]
 by_cases h4:x.o=14∨x.o=15∨x.o=16∨x.o=17∨x.o=19∨x.o=20
 ·have z:=m4 h4;rw[qAw (by simp only[qAd,List.not_mem_nil,or_false];exact h4)];rcases h4 with h|h|h|h|h|h
  all_goals
   simp only[h]at z;simp only[h,beqI,qAb,decide_true,decide_false,cond_true,cond_false,qz4,z,qc,qp,qo,qI,qF,qy,qz7,qt,qz,qx,qn,qD,qi,qJ,qC,qg,qG];exact⟨_,rfl,rfl⟩
 rw[qAx (by simp only[qAd,List.not_mem_nil,or_false];exact h4)];have n1:∀k:Int,(k=1∨k=2∨k=3∨k=4∨k=5∨k=6∨k=7∨k=8∨k=9∨k=10∨k=11∨k=12∨k=13∨k=14∨k=15∨k=16∨k=17∨k=19∨k=20)->(x.o==k)=false:=by
  intro k hk;rw[beqI,qAv];omega
 simp only[n1 1 (by simp),n1 2 (by simp),n1 3 (by simp),n1 4 (by simp),n1 5 (by simp),n1 6 (by simp),n1 7 (by simp),n1 8 (by simp),n1 9 (by simp),n1 10 (by simp),n1 11 (by simp),n1 12 (by simp),n1 13 (by simp),n1 14 (by simp),n1 15 (by simp),n1 16 (by simp),n1 17 (by simp),n1 19 (by simp),n1 20 (by simp),cond_false]
 by_cases h5:x.o=18
 ·rw[qAw h5,beqI,qAu h5];exact⟨_,rfl,rfl⟩
 ·rw[qAx h5,beqI,qAv h5];exact⟨_,rfl,rfl⟩
def qxG:Den:=evC cfg (EV cfg) 13 none 0 (sub (ql Tryz.f13) [1,1,1,1,1,0,1,0,0])
def qxP:Ex×List AV×AH->Option AV:=kAft (Cfg.keepOut cfg 13 7) (kRun cfg (EV cfg) (kfN cfg 6) 13 none 0 (qcF cfg (Cfg.lift cfg 13 0) Tryz.f13.results.toList) ([.block 0,.seq (sub (ql Tryz.f13) [1,1,1,1,1,1])]))
def qxz:List AV×AH->Option AV:=λp=>kOpt (LOOP 0 (some [0,6,10,11,12]) ([]) qxG p) qxP
abbrev qa9(L:Rz)(v11 v12 c0_0 c0_1:Int)(c0_2:Bz)(c0_3:Rz)(c1_0 c1_1:Int)(c1_2:Bz)(c1_3:Rz)(c1_4:Int)(nc1_5 nc1_6 nc1_7:Nat)(c1_8:Bool)(h2 h3 h4:Rz):Option (AV):=qxz (((fx 117 [(0,.sl L),(6,.ptr 0 0 0),(10,.ptr 1 0 0),(11,.int .i64 v11),(12,.int .i64 v12)]):List AV),([.rows false 4 [[.int .i64 c0_0,.int .i64 c0_1,.str c0_2,.sl c0_3]],.rows false 9 [[.int .i64 c1_0,.int .i64 c1_1,.str c1_2,.sl c1_3,.int .i64 c1_4,.ms 2 0 nc1_5,.ms 3 0 nc1_6,.ms 4 0 nc1_7,.bool c1_8]],.rows true 4 h2,.rows true 4 h3,.rows true 5 h4]:AH))
abbrev zG0:Option (AV):=some (AV.tup [.agg [.int .i64 0,.int .i64 0,.str [],.sl []],.bool false,.int .i64 0,.int .i64 2])
theorem qsE(L:Rz)(k n:Int)(s:Bz)(l:Rz)(self:Int){P:AV->Prop}(h:Gets (kOpt (EVs (EV cfg) 47 [.agg [.int .i64 k,.int .i64 n,.str s,.sl l]]) λv=>kInt .i64 v λn_1=>bif n_1 != 0 then zG0 else bif k != 7 then zG0 else kOpt (EVs (EV cfg) 48 [AV.int .i64 self]) λv=>qq v λb=>bif ! b then zG0 else kOpt (EVj (EV cfg) 49 1 [.ptr 0 0 0] [.rows false 9 [[AV.int .i64 k,.int .i64 n,.str s,.sl l,.int .i64 self,.ms 1 0 0,.ms 2 0 0,.ms 3 0 0,.bool false]],.rows true 4 [],.rows true 4 [],.rows true 5 []]) λq=>qd q.2 λb bs=>qf b λd' n rs=>bif beqB false d'&&qzP n 9 then qW rs λrow rest=>vg rest (qd bs λb bs=>qf b λd' n rs=>bif beqB true d'&&qzP n 4 then qd bs λb bs=>qf b λd' n rs_1=>bif beqB true d'&&qzP n 4 then qd bs λb bs=>qf b λd' n rs_2=>bif beqB true d'&&qzP n 5 then qU bs (qa row λc cs=>kInt .i64 c λn=>qa cs λc cs=>kInt .i64 c λn_2=>qa cs λc cs=>kStr c λs=>qa cs λc cs=>kSl c λrows=>qa cs λc cs=>kInt .i64 c λn_3=>qa cs λc cs=>kMsE c λid off len=>bif qzP id 1&&(qzP off 0&&qzP len (qzO rs))then qa cs λc cs=>kMsE c λid off len=>bif qzP id 2&&(qzP off 0&&qzP len (qzO rs_1))then qa cs λc cs=>kMsE c λid off len=>bif qzP id 3&&(qzP off 0&&qzP len (qzO rs_2))then qa cs λc cs=>qq c λb=>kNil cs (qa9 L 0 0 0 0 [] [] n n_2 s rows n_3 (qzO rs) (qzO rs_1) (qzO rs_2) b rs rs_1 rs_2)else none else none else none)else none else none else none)else none) P):Gets (EVf (EV cfg) 13 [.sl L,.agg [.int .i64 k,.int .i64 n,.str s,.sl l],.int .i64 self]) P:=
  gE (λ_=>funF rfl rfl Tryz.func13 rfl) (by kernel_rfl) h
abbrev zG1:Option (AV):=some (AV.tup [AV.agg [.int .i64 0,.int .i64 0,.str [],.sl []],.bool false,.int .i64 0,.int .i64 9])
abbrev zG11(L:Rz)(v11 n_1 c0_0 c0_1:Int)(c0_2:Bz)(c0_3:Rz)(n n_13:Int)(s:Bz)(rows:Rz)(n_14:Int)(rs rs_3 rs_4:Rz)(b:Bool):Option (AV):=qa9 L (qzQ .i64 (v11+1)) n_1 c0_0 c0_1 c0_2 c0_3 n n_13 s rows n_14 (qzO rs) (qzO rs_3) (qzO rs_4) b rs rs_3 rs_4
abbrev zG10(rest:Rz)(bs:AH)(row:List AV)(L:Rz)(v11 n_1 c0_0 c0_1:Int)(c0_2:Bz)(c0_3:Rz):Option (AV):=vg rest (qd bs λb bs=>qf b λd' n rs=>bif beqB true d'&&qzP n 4 then qd bs λb bs=>qf b λd' n rs_3=>bif beqB true d'&&qzP n 4 then qd bs λb bs=>qf b λd' n rs_4=>bif beqB true d'&&qzP n 5 then qU bs (qa row λc cs=>kInt .i64 c λn=>qa cs λc cs=>kInt .i64 c λn_13=>qa cs λc cs=>kStr c λs=>qa cs λc cs=>kSl c λrows=>qa cs λc cs=>kInt .i64 c λn_14=>qa cs λc cs=>kMsE c λid off len=>bif qzP id (1:Nat)&&(qzP off (0:Nat)&&qzP len (qzO rs))then qa cs λc cs=>kMsE c λid off len=>bif qzP id (2:Nat)&&(qzP off (0:Nat)&&qzP len (qzO rs_3))then qa cs λc cs=>kMsE c λid off len=>bif qzP id (3:Nat)&&(qzP off (0:Nat)&&qzP len (qzO rs_4))then qa cs λc cs=>qq c λb=>kNil cs (zG11 L v11 n_1 c0_0 c0_1 c0_2 c0_3 n n_13 s rows n_14 rs rs_3 rs_4 b)else none else none else none)else none else none else none)
abbrev zG9(rs:Rz)(bs:AH)(L:Rz)(v11 n_1 c0_0 c0_1:Int)(c0_2:Bz)(c0_3:Rz):Option (AV):=qW rs λrow rest=>zG10 rest bs row L v11 n_1 c0_0 c0_1 c0_2 c0_3
abbrev zG8(d':Bool)(n:Nat)(rs:Rz)(bs:AH)(L:Rz)(v11 n_1 c0_0 c0_1:Int)(c0_2:Bz)(c0_3:Rz):Option (AV):=bif beqB false d'&&qzP n 9 then zG9 rs bs L v11 n_1 c0_0 c0_1 c0_2 c0_3 else none
abbrev zG7(b:ABlk)(bs:AH)(L:Rz)(v11 n_1 c0_0 c0_1:Int)(c0_2:Bz)(c0_3:Rz):Option (AV):=qf b λd' n rs=>zG8 d' n rs bs L v11 n_1 c0_0 c0_1 c0_2 c0_3
abbrev zG6(q:AV×AH)(L:Rz)(v11 n_1 c0_0 c0_1:Int)(c0_2:Bz)(c0_3:Rz):Option (AV):=qd q.2 λb bs=>zG7 b bs L v11 n_1 c0_0 c0_1 c0_2 c0_3
abbrev zG5(n_9 n_10:Int)(s:Bz)(rows:Rz)(n_11:Int)(rs rs_1 rs_2:Rz)(b:Bool)(L:Rz)(v11 n_1 c0_0 c0_1:Int)(c0_2:Bz)(c0_3:Rz):Option (AV):=kOpt (EVj (EV cfg) 49 1 [.ptr 0 0 0] [.rows false 9 [[AV.int .i64 n_9,.int .i64 n_10,.str s,.sl rows,.int .i64 n_11,.ms 1 0 (qzO rs),.ms 2 0 (qzO rs_1),.ms 3 0 (qzO rs_2),.bool b]],.rows true 4 (qzT (qzO rs) rs),.rows true 4 (qzT (qzO rs_1) rs_1),.rows true 5 (qzT (qzO rs_2) rs_2)]) λq=>zG6 q L v11 n_1 c0_0 c0_1 c0_2 c0_3
abbrev zG12(n_12 n_9 n_10:Int)(s:Bz)(rows:Rz)(n_11:Int)(rs rs_1 rs_2:Rz)(b:Bool)(L:Rz)(v11 n_1 c0_0 c0_1:Int)(c0_2:Bz)(c0_3:Rz):Option (AV):=bif n_12==1 then zG5 n_9 n_10 s rows n_11 rs rs_1 rs_2 b L v11 n_1 c0_0 c0_1 c0_2 c0_3 else zG11 L v11 n_1 c0_0 c0_1 c0_2 c0_3 n_9 n_10 s rows n_11 rs rs_1 rs_2 b
abbrev zG4(n_12 n_9 n_10:Int)(s:Bz)(rows:Rz)(n_11:Int)(rs rs_1 rs_2:Rz)(b:Bool)(L:Rz)(v11 n_1 c0_0 c0_1:Int)(c0_2:Bz)(c0_3:Rz):Option (AV):=bif n_12==2 then zG5 n_9 n_10 s rows n_11 rs rs_1 rs_2 b L v11 n_1 c0_0 c0_1 c0_2 c0_3 else zG12 n_12 n_9 n_10 s rows n_11 rs rs_1 rs_2 b L v11 n_1 c0_0 c0_1 c0_2 c0_3
abbrev zG3(n_1:Int)(L:Rz)(n_12 n_9 n_10:Int)(s:Bz)(rows:Rz)(n_11:Int)(rs rs_1 rs_2:Rz)(b:Bool)(v11 c0_0 c0_1:Int)(c0_2:Bz)(c0_3:Rz):Option (AV):=bif decide (n_1>(L.length:Int))then zG1 else zG4 n_12 n_9 n_10 s rows n_11 rs rs_1 rs_2 b L v11 n_1 c0_0 c0_1 c0_2 c0_3
abbrev zG2(n_1 v12:Int)(L:Rz)(n_12 n_9 n_10:Int)(s:Bz)(rows:Rz)(n_11:Int)(rs rs_1 rs_2:Rz)(b:Bool)(v11 c0_0 c0_1:Int)(c0_2:Bz)(c0_3:Rz):Option (AV):=bif decide (n_1<=v12)then zG1 else zG3 n_1 L n_12 n_9 n_10 s rows n_11 rs rs_1 rs_2 b v11 c0_0 c0_1 c0_2 c0_3
abbrev zG15:Option (AV):=some (AV.tup [AV.agg [.int .i64 0,.int .i64 (0:Int),.str [],.sl []],.bool false,.int .i64 0,.int .i64 9])
abbrev zG14(n_2:Int)(L:Rz)(n_12 n_9 n_10:Int)(s:Bz)(rows:Rz)(n_11:Int)(rs rs_1 rs_2:Rz)(b:Bool)(v11 c0_0 c0_1:Int)(c0_2:Bz)(c0_3:Rz):Option (AV):=bif decide (n_2>(L.length:Int))then zG15 else zG4 n_12 n_9 n_10 s rows n_11 rs rs_1 rs_2 b L v11 n_2 c0_0 c0_1 c0_2 c0_3
abbrev zG13(n_2 v12:Int)(L:Rz)(n_12 n_9 n_10:Int)(s:Bz)(rows:Rz)(n_11:Int)(rs rs_1 rs_2:Rz)(b:Bool)(v11 c0_0 c0_1:Int)(c0_2:Bz)(c0_3:Rz):Option (AV):=bif decide (n_2<=v12)then zG1 else zG14 n_2 L n_12 n_9 n_10 s rows n_11 rs rs_1 rs_2 b v11 c0_0 c0_1 c0_2 c0_3
abbrev zG21(rest:Rz)(bs:AH)(row:List AV)(L:Rz)(v11 v12 c0_0 c0_1:Int)(c0_2:Bz)(c0_3:Rz):Option (AV):=vg rest (qd bs λb bs=>qf b λd' n rs=>bif beqB true d'&&qzP n 4 then qd bs λb bs=>qf b λd' n rs_3=>bif beqB true d'&&qzP n 4 then qd bs λb bs=>qf b λd' n rs_4=>bif beqB true d'&&qzP n 5 then qU bs (qa row λc cs=>kInt .i64 c λn=>qa cs λc cs=>kInt .i64 c λn_13=>qa cs λc cs=>kStr c λs=>qa cs λc cs=>kSl c λrows=>qa cs λc cs=>kInt .i64 c λn_14=>qa cs λc cs=>kMsE c λid off len=>bif qzP id (1:Nat)&&(qzP off (0:Nat)&&qzP len (qzO rs))then qa cs λc cs=>kMsE c λid off len=>bif qzP id (2:Nat)&&(qzP off (0:Nat)&&qzP len (qzO rs_3))then qa cs λc cs=>kMsE c λid off len=>bif qzP id (3:Nat)&&(qzP off (0:Nat)&&qzP len (qzO rs_4))then qa cs λc cs=>qq c λb=>kNil cs (qa9 L (qzQ .i64 (v11+1)) (qzQ .i64 (v12+1)) c0_0 c0_1 c0_2 c0_3 n n_13 s rows n_14 (qzO rs) (qzO rs_3) (qzO rs_4) b rs rs_3 rs_4)else none else none else none)else none else none else none)
abbrev zG20(rs:Rz)(bs:AH)(L:Rz)(v11 v12 c0_0 c0_1:Int)(c0_2:Bz)(c0_3:Rz):Option (AV):=qW rs λrow rest=>zG21 rest bs row L v11 v12 c0_0 c0_1 c0_2 c0_3
abbrev zG19(d':Bool)(n:Nat)(rs:Rz)(bs:AH)(L:Rz)(v11 v12 c0_0 c0_1:Int)(c0_2:Bz)(c0_3:Rz):Option (AV):=bif beqB false d'&&qzP n 9 then zG20 rs bs L v11 v12 c0_0 c0_1 c0_2 c0_3 else none
abbrev zG18(b:ABlk)(bs:AH)(L:Rz)(v11 v12 c0_0 c0_1:Int)(c0_2:Bz)(c0_3:Rz):Option (AV):=qf b λd' n rs=>zG19 d' n rs bs L v11 v12 c0_0 c0_1 c0_2 c0_3
abbrev zG17(q:AV×AH)(L:Rz)(v11 v12 c0_0 c0_1:Int)(c0_2:Bz)(c0_3:Rz):Option (AV):=qd q.2 λb bs=>zG18 b bs L v11 v12 c0_0 c0_1 c0_2 c0_3
abbrev zG16(n_9 n_10:Int)(s:Bz)(rows:Rz)(n_11:Int)(rs rs_1 rs_2:Rz)(b:Bool)(L:Rz)(v11 v12 c0_0 c0_1:Int)(c0_2:Bz)(c0_3:Rz):Option (AV):=kOpt (EVj (EV cfg) 49 1 [.ptr 0 0 0] [.rows false 9 [[AV.int .i64 n_9,.int .i64 n_10,.str s,.sl rows,.int .i64 n_11,.ms 1 0 (qzO rs),.ms 2 0 (qzO rs_1),.ms 3 0 (qzO rs_2),.bool b]],.rows true 4 (qzT (qzO rs) rs),.rows true 4 (qzT (qzO rs_1) rs_1),.rows true 5 (qzT (qzO rs_2) rs_2)]) λq=>zG17 q L v11 v12 c0_0 c0_1 c0_2 c0_3
theorem qfK(L:Rz)(v11 v12 c0_0 c0_1:Int)(c0_2:Bz)(c0_3:Rz)(c1_0 c1_1:Int)(c1_2:Bz)(c1_3:Rz)(c1_4:Int)(nc1_5 nc1_6 nc1_7:Nat)(c1_8:Bool)(h2 h3 h4:Rz){P:AV->Prop}(h:Gets (bif decide (v12<(L.length:Int))then bif qe 0 v12&&qu v12 (L.length:Int)then kOpt (qzU L (v12.toNat)) λrow=>bif qzP (qzO row) 7 then bif qz8 7 (qzO row)then qa (qzT 7 row) λc cs=>kInt .i64 c λn=>qa cs λc cs=>kInt .i64 c λn_1=>qa cs λc cs=>kInt .i64 c λn_2=>kTmC cs λn_3 n_4 s rows=>(kOpt (EVj (EV cfg) 50 1 [.ptr 0 0 0,.agg [.int .i64 n,.int .i64 n_1,.int .i64 n_2,.int .i64 n_3,.int .i64 n_4,.str s,.sl rows]] [.rows false 9 [[AV.int .i64 c1_0,.int .i64 c1_1,.str c1_2,.sl c1_3,.int .i64 c1_4,.ms 1 0 nc1_5,.ms 2 0 nc1_6,.ms 3 0 nc1_7,.bool c1_8]],.rows true 4 (qzT nc1_5 h2),.rows true 4 (qzT nc1_6 h3),.rows true 5 (qzT nc1_7 h4)]) λq=>qd q.2 λb bs=>qf b λd' n_5 rs=>bif beqB false d'&&qzP n_5 9 then qW rs λrow rest=>vg rest (qd bs λb bs=>qf b λd' n_6 rs=>bif beqB true d'&&qzP n_6 4 then qd bs λb bs=>qf b λd' n_7 rs_1=>bif beqB true d'&&qzP n_7 4 then qd bs λb bs=>qf b λd' n_8 rs_2=>bif beqB true d'&&qzP n_8 5 then qU bs (qa row λc cs=>kInt .i64 c λn_9=>qa cs λc cs=>kInt .i64 c λn_10=>qa cs λc cs=>kStr c λs=>qa cs λc cs=>kSl c λrows=>qa cs λc cs=>kInt .i64 c λn_11=>qa cs λc cs=>kMsE c λid off len=>bif qzP id 1&&(qzP off 0&&qzP len (qzO rs))then qa cs λc cs=>kMsE c λid off len=>bif qzP id 2&&(qzP off 0&&qzP len (qzO rs_1))then qa cs λc cs=>kMsE c λid off len=>bif qzP id 3&&(qzP off 0&&qzP len (qzO rs_2))then qa cs λc cs=>qq c λb=>kNil cs (kInt .i64 q.1 λn_12=>bif n_12==5 then bif qe 0 (qzQ .i64 ((rs_1.length:Int) - 1))&&qu (qzQ .i64 ((rs_1.length:Int) - 1)) (rs_1.length:Int)then kOpt (qzU rs_1 (0+qzV (qzQ .i64 ((rs_1.length:Int) - 1)))) λrow=>bif qz8 4 (qzO row)then kTmC (qzT 4 row) λn n_13 s rows=>(kOpt (EVf (EV cfg) 51 [AV.agg [.int .i64 n,.int .i64 n_13,.str s,.sl rows]]) λv=>kTmV v λn n_14 s rows=>(some (AV.tup [AV.agg [.int .i64 n,.int .i64 n_14,.str s,.sl rows],.bool true,.int .i64 (qzQ .i64 (v11+1)),.int .i64 (0:Int)])))else none else none else bif n_12==3 then zG1 else bif n_12==2 then bif b then some (AV.tup [AV.agg [.int .i64 2,.int .i64 0,.str [(69:UInt8),(88:UInt8),(73:UInt8),(84:UInt8)],.sl []],.bool true,.int .i64 (qzQ .i64 (v11+1)),.int .i64 0])else bif n==15 then zG2 n_1 v12 L n_12 n_9 n_10 s rows n_11 rs rs_1 rs_2 b v11 c0_0 c0_1 c0_2 c0_3 else bif n==16 then zG2 n_1 v12 L n_12 n_9 n_10 s rows n_11 rs rs_1 rs_2 b v11 c0_0 c0_1 c0_2 c0_3 else zG2 n_2 v12 L n_12 n_9 n_10 s rows n_11 rs rs_1 rs_2 b v11 c0_0 c0_1 c0_2 c0_3 else bif n_12==1 then zG13 n_2 v12 L n_12 n_9 n_10 s rows n_11 rs rs_1 rs_2 b v11 c0_0 c0_1 c0_2 c0_3 else bif n_12==4 then zG13 n_2 v12 L n_12 n_9 n_10 s rows n_11 rs rs_1 rs_2 b v11 c0_0 c0_1 c0_2 c0_3 else bif decide (qzQ .i64 (v12+1)<=v12)then zG1 else bif decide (qzQ .i64 (v12+1)>(L.length:Int))then zG1 else bif n_12==2 then zG16 n_9 n_10 s rows n_11 rs rs_1 rs_2 b L v11 v12 c0_0 c0_1 c0_2 c0_3 else bif n_12==1 then zG16 n_9 n_10 s rows n_11 rs rs_1 rs_2 b L v11 v12 c0_0 c0_1 c0_2 c0_3 else qa9 L (qzQ .i64 (v11+1)) (qzQ .i64 (v12+1)) c0_0 c0_1 c0_2 c0_3 n_9 n_10 s rows n_11 (qzO rs) (qzO rs_1) (qzO rs_2) b rs rs_1 rs_2)else none else none else none)else none else none else none)else none)else none else none else none else some (AV.tup [.agg [.int .i64 0,.int .i64 0,.str [],.sl []],.bool false,.int .i64 v11,.int .i64 0])) P):Gets (qa9 L v11 v12 c0_0 c0_1 c0_2 c0_3 c1_0 c1_1 c1_2 c1_3 c1_4 nc1_5 nc1_6 nc1_7 c1_8 h2 h3 h4) P:=
  gE (λ_=>qM (cfg:=cfg) (f:=13) (rd:=none) (bs:=0)) (by kernel_rfl) h
theorem qtR{o:Tm}{self:Int}{s s':SK}{x:InsA}{h:How}(hs:SOk s)(hm:mayB (-1) s.binds=true)(e:vZ opsR o self s x=(h,s')):mayB (-1) s'.binds=true:=by
 have hpu:∀{t:Tm} {s1:SK},mayB (-1) s1.binds=true->vL t s1=(h,s')->mayB (-1) s'.binds=true:=λh1 e=>by
  unfold vL at e;split at e<;>(cases e;exact h1)
 unfold vZ at e;split at e
 ·unfold zm at e;split at e
  ·cases e;exact hm
  ·rename_i t r hl;have ht:=hs.left t (by rw[hl];simp)
   repeat' split at e
   all_goals first|(cases e;exact hm)|(cases e;exact qh8 (by omega) ht (by omega) hm)
 split at e
 ·unfold qaZ at e
  repeat' split at e
  all_goals first|exact hpu hm e|(cases e;exact hm)
 split at e
 ·unfold qaX at e
  repeat' split at e
  all_goals first|exact hpu (by exact hm) e|(cases e;exact hm)
 split at e
 ·unfold qaY at e;split at e
  ·cases e;exact hm
  ·repeat' split at e
   all_goals (cases e;exact hm)
 split at e
 ·cases e;exact hm
 ·cases e;exact hm
theorem qqG(hp:yd){l:List InsA}(hlx:∀x∈l,x.t.w<1099511627776)(hll:l.length<=200000){o:Tm}(ho:o.chk=0){self:Int}:∀(d at_ n:Nat) (s:SK),l.length - at_<=d->at_<=l.length->n<=at_->SOk s->mayB (-1) s.binds=true->s.vals.length<=n->s.left.length<=1+64*n ->
  Gets (qa9 (qQ l) (n:Int) (at_:Int) 0 0 [] [] o.kind o.num o.str (qb o.subs) self (qb s.left.reverse).length (qb s.vals.reverse).length (qO s.binds).length s.body (qb s.left.reverse) (qb s.vals.reverse) (qO s.binds)) (·=vV (runO opsR l o self at_ n s)):=by
 intro d
 induction d with
 |zero=>
  intro at_ n s hd ha hn hs hmb hv hl;refine qfK _ _ _ _ _ _ _ _ _ _ _ _ _ _ _ _ _ _ _ ?_;unfold zG16 zG17 zG18 zG19 zG20 zG21 zG13 zG14 zG15 zG2 zG3 zG4 zG12 zG5 zG6 zG7 zG8 zG9 zG10 zG11 zG1;rw[q7,qAv (by omega),y5 (List.getElem?_eq_none (by omega))];refine⟨_,rfl,?_⟩;rw[vV,vr]
 |succ d ih=>
  intro at_ n s hd ha hn hs hmb hv hl;refine qfK _ _ _ _ _ _ _ _ _ _ _ _ _ _ _ _ _ _ _ ?_;unfold zG16 zG17 zG18 zG19 zG20 zG21 zG13 zG14 zG15 zG2 zG3 zG4 zG12 zG5 zG6 zG7 zG8 zG9 zG10 zG11 zG1
  by_cases hlt:at_<l.length
  case neg=>
   rw[q7,qAv (by omega),y5 (List.getElem?_eq_none (by omega))];refine⟨_,rfl,?_⟩;rw[vV,vr]
  have g0:l[at_]? =some l[at_]:=qzS hlt;generalize hxe:l[at_]=x at *;have hxw:=hlx x (hxe▸List.getElem_mem hlt);have e1:(qe (0:Int) (at_:Int)&&qu (at_:Int) ((qQ l).length:Int))=true:=by rw[q7];simp;omega
  have e2:qzU (qQ l) (qzV (at_:Int))=some x.row:=by rw[qAk];exact qc3 g0
  have hz:=qsH (o:=o) (self:=self) (s:=s) (x:=x) hxw ho hs hmb (by omega) (by omega);rw[InsA.av,Tm.cells_eq]at hz;have wn:qzQ .i64 ((n:Int)+1)=((n+1:Nat):Int):=by rw[qS (by omega) (by omega)];omega
  have wa:qzQ .i64 ((at_:Int)+1)=((at_+1:Nat):Int):=by rw[qS (by omega) (by omega)];omega
  have hnew:=ih;have r7:qzT 7 x.row=x.row:=qAa (by rw[InsA.row_len];exact qz0 _);have hrow:x.row= .int .i64 x.o:: .int .i64 x.a:: .int .i64 x.b::x.t.cells:=rfl;rw[qAu (show(at_:Int)<((qQ l).length:Int) by rw[q7];omega),e1,e2];simp -implicitDefEqProofs only[cond_true,qc,r7,InsA.row_len,show qzP 7 7=true from rfl,show qz8 7 7=true from rfl]
  rw[hrow];cases hdo:vZ opsR o self s x with
  |mk w s'=>
   rw[hdo]at hz;obtain⟨hvl,hll'⟩:=qlQ hs hdo;have hs':=qfj qxb hs hdo;have hmb':=qtR hs hmb hdo;have go:∀(p:Int) (s2:SK),¬p<=(at_:Int)->¬p>((qQ l).length:Int)->SOk s2->mayB (-1) s2.binds=true->s2.vals.length<=n+1->s2.left.length<=1+64*(n+1) ->
     Gets (qa9 (qQ l) ((n+1:Nat):Int) p 0 0 [] [] o.kind o.num o.str (qb o.subs) self (qb s2.left.reverse).length (qb s2.vals.reverse).length (qO s2.binds).length s2.body (qb s2.left.reverse) (qb s2.vals.reverse) (qO s2.binds)) (·=vV (goO opsR l o self at_ p (n+1) s2)):=by
    intro p s2 h1 h2 h3 h3m h4 h5;rw[q7]at h2;have h6:((p.toNat:Nat):Int)=p:=by omega
    have:=ih p.toNat (n+1) s2 (by omega) (by omega) (by omega) h3 h3m h4 h5;rw[h6]at this;unfold goO;rw[qAx (by omega)];exact this
   have bad:∀(p:Int) (s2:SK),p<=(at_:Int)∨p>((qQ l).length:Int)->(AV.tup [AV.agg [AV.int .i64 (0:Int),.int .i64 (0:Int),.str [],.sl []],.bool false,.int .i64 (0:Int),.int .i64 (9:Int)])=vV (goO opsR l o self at_ p (n+1) s2):=by
    intro p s2 h;rw[q7]at h;unfold goO;rw[qAw (by omega),vV,vr]
   have nk:=zW ho;have hA:=λL V B b=>qlm o self L V B b
   cases w with
   |next=>
    have:=ih (at_+1) (n+1) s' (by omega) (by omega) (by omega) hs' hmb' (by omega) (by omega);rw[qb8 g0 hdo];simp -implicitDefEqProofs only[qn,qi,qv,qz4,hz,qc,qp,qo,qI,qF,qy,qz7,cond_true,cond_false,qt,qz,qx,qD,qJ,qC,qg,qG,howR,beqI,qAb,decide_false,wn,wa]
    rw[qAv (by omega),qAv (by rw[q7];omega)];exact this
   |fails=>
    rw[qbn g0 hdo];have hg:=go x.b (newK o);have hb:=bad x.b (newK o);show Gets _ (·=vV (goO opsR l o self at_ x.b (n+1) (newK o)));simp -implicitDefEqProofs only[qn,qi,qv,qz4,hz,qc,qp,qo,qI,qF,qy,qz7,cond_true,cond_false,qt,qz,qx,qD,qJ,qC,qg,qG,howR,beqI,qAb,decide_true,decide_false,wn,wa]
    by_cases h1:x.b<=(at_:Int)
    ·rw[qAu h1];exact⟨_,rfl,hb (.inl h1)⟩
    by_cases h2:x.b>((qQ l).length:Int)
    ·rw[qAv h1,qAu h2];exact⟨_,rfl,hb (.inr h2)⟩
    rw[qAv h1,qAv h2];simp -implicitDefEqProofs only[cond_false,hA,qn,qi,qc,qp,qo,qI,qF,qy,qz7,cond_true,qt,qz,qx,qD,qJ,qC,qg,qG];exact hg h1 h2 nk rfl (by simp) (by simp)
   |jumps=>
    rw[qbm g0 hdo];have hg:=go x.b s';have hb:=bad x.b s';show Gets _ (·=vV (goO opsR l o self at_ x.b (n+1) s'));simp -implicitDefEqProofs only[qn,qi,qv,qz4,hz,qc,qp,qo,qI,qF,qy,qz7,cond_true,cond_false,qt,qz,qx,qD,qJ,qC,qg,qG,howR,beqI,qAb,decide_true,decide_false,wn,wa]
    by_cases h1:x.b<=(at_:Int)
    ·rw[qAu h1];exact⟨_,rfl,hb (.inl h1)⟩
    by_cases h2:x.b>((qQ l).length:Int)
    ·rw[qAv h1,qAu h2];exact⟨_,rfl,hb (.inr h2)⟩
    rw[qAv h1,qAv h2];exact hg h1 h2 hs' hmb' (by omega) (by omega)
   |raises=>
    rw[qaJ g0 hdo];simp -implicitDefEqProofs only[qn,qi,qv,qz4,hz,qc,qp,qo,qI,qF,qy,qz7,cond_true,cond_false,qt,qz,qx,qD,qJ,qC,qg,qG,howR,beqI,qAb,decide_true,decide_false,wn,wa];cases hbd:s'.body with
    |true=>
     simp -implicitDefEqProofs only[cond_true,if_true];refine⟨_,rfl,?_⟩;rw[vV];show _=AV.tup [(Tm.mk 2 0 [69,88,73,84] []).av,.bool true,.int .i64 ((n:Int)+1),.int .i64 0];rw[Tm.av_mk,q6,show((n+1:Nat):Int)=(n:Int)+1 by omega]
    |false=>
     simp -implicitDefEqProofs only[cond_false,qz1,if_false];have key:∀p:Int,p=xl at_ x .raises->Gets (bif decide (p<=(at_:Int))then some (AV.tup [AV.agg [AV.int .i64 (0:Int),.int .i64 (0:Int),.str [],.sl []],.bool false,.int .i64 (0:Int),.int .i64 (9:Int)])else bif decide (p>((qQ l).length:Int))then some (AV.tup [AV.agg [AV.int .i64 (0:Int),.int .i64 (0:Int),.str [],.sl []],.bool false,.int .i64 (0:Int),.int .i64 (9:Int)])else qa9 (qQ l) ((n+1:Nat):Int) p 0 0 [] [] o.kind o.num o.str (qb o.subs) self (qb (newK o).left.reverse).length (qb (newK o).vals.reverse).length (qO (newK o).binds).length (newK o).body (qb (newK o).left.reverse) (qb (newK o).vals.reverse) (qO (newK o).binds)) (·=vV (goO opsR l o self at_ (xl at_ x .raises) (n+1) (newK o))):=by
      rintro p rfl
      by_cases h1:xl at_ x .raises<=(at_:Int)
      ·rw[qAu h1];exact⟨_,rfl,bad _ _ (.inl h1)⟩
      by_cases h2:xl at_ x .raises>((qQ l).length:Int)
      ·rw[qAv h1,qAu h2];exact⟨_,rfl,bad _ _ (.inr h2)⟩
      rw[qAv h1,qAv h2];exact go _ _ h1 h2 nk rfl (by simp) (by simp)
     have pl:xl at_ x .raises=if x.o=15∨x.o=16 then x.a else x.b:=rfl
     by_cases h15:x.o=15
     ·have:=key x.a (by rw[pl,qAw (.inl h15)]);simp -implicitDefEqProofs only[h15,decide_true,cond_true,hA,qn,qi,qc,qp,qo,qI,qF,qy,qz7,qt,qz,qx,qD,qJ,qC,qg,qG];exact this
     by_cases h16:x.o=16
     ·have:=key x.a (by rw[pl,qAw (.inr h16)]);simp -implicitDefEqProofs only[h16,qAb,decide_true,decide_false,cond_true,cond_false,hA,qn,qi,qc,qp,qo,qI,qF,qy,qz7,qt,qz,qx,qD,qJ,qC,qg,qG];exact this
     have:=key x.b (by rw[pl,qAx (by omega)]);simp -implicitDefEqProofs only[h15,h16,decide_false,cond_false,hA,qn,qi,qc,qp,qo,qI,qF,qy,qz7,cond_true,qt,qz,qx,qD,qJ,qC,qg,qG];exact this
   |tells=>
    rw[qbl g0 hdo];obtain⟨t,r,hv'⟩:=qd9 hdo;have htc:=hs'.vals t (by rw[hv'];simp);have hcp:=qjc t (by have:=xO htc;omega);have hrs:qb s'.vals.reverse=qb r.reverse++[t.cells]:=by rw[hv',yw]
    have hrl:(qb r.reverse).length+1<=200002:=by
     rw[hv']at hvl;simp at hvl⊢;omega
    simp -implicitDefEqProofs only[qn,qi,qv,qz4,hz,qc,qp,qo,qI,qF,qy,qz7,cond_true,cond_false,qt,qz,qx,qD,qJ,qC,qg,qG,howR,beqI,qAb,decide_true,decide_false,wn,wa];rw[hrs];generalize qb r.reverse=R at *;have e1:qzQ .i64 ((((R++[t.cells]).length:Nat):Int) - 1)=(R.length:Int):=by
     rw[qAc];exact qa8 (by omega)
    have e2:(qe (0:Int) (R.length:Int)&&qu (R.length:Int) (((R++[t.cells]).length:Nat):Int))=true:=by simp
    have ht4:qzT 4 t.cells=t.cells:=by rw[Tm.cells_eq];rfl
    have hl4:qz8 4 t.cells.length=true:=by rw[Tm.cells_eq];rfl
    rw[e1,e2,qa6];simp -implicitDefEqProofs only[cond_true,qc,hl4,ht4,qv,qK,hcp,ve];refine⟨_,rfl,?_⟩;rw[vV,hv'];show _=AV.tup [_,_,.int .i64 ((n:Int)+1),_];rw[show((n+1:Nat):Int)=(n:Int)+1 by omega];rfl
   |broken=>
    rw[qaK g0 hdo];simp -implicitDefEqProofs only[qn,qi,qv,qz4,hz,qc,qp,qo,qI,qF,qy,qz7,cond_true,cond_false,qt,qz,qx,qD,qJ,qC,qg,qG,howR,beqI,qAb,decide_true,decide_false];exact⟨_,rfl,by rw[vV,vr]⟩
theorem qus(hp:yd){l:List InsA}(hlx:∀x∈l,x.t.w<1099511627776)(hll:l.length<=200000){o:Tm}(how:o.w<1099511627776)(self:Int):
  EVf (EV cfg) 13 [.sl (qQ l),o.av,.int .i64 self]=some (vV (runC opsR l o self)):=by
 have hm:=zS how;have hz:(AV.tup [AV.agg [AV.int .i64 (0:Int),.int .i64 (0:Int),.str [],.sl []],.bool false,.int .i64 (0:Int),.int .i64 (2:Int)])=vV (vh,false,0,2):=by rw[vV,vr]
 apply Gets.get;rw[Tm.av,Tm.cells_eq]at hm⊢;refine qsE _ _ _ _ _ _ ?_;unfold zG0;unfold runC;rw[hm];simp -implicitDefEqProofs only[qc,qi,bneD,qi8,qg]
 by_cases hc:o.chk=0
 case neg=>
  rw[qAv hc,qAx (λh=>hc h.2.1)];exact⟨_,rfl,hz⟩
 rw[qAu hc]
 by_cases h7:o.kind=7
 case neg=>
  rw[qAv h7,qAx (λh=>h7 h.1)];exact⟨_,rfl,hz⟩
 rw[qAu h7];cases h1:qau self with
 |false=>
  rw[qAx (by rintro⟨_,_,h⟩;cases h)];exact⟨_,rfl,hz⟩
 |true=>
 rw[qAw ⟨h7,hc,rfl⟩];have hl:=qqG hp hlx hll hc (self:=self) l.length 0 0 (newK o) (by omega) (by omega) (by omega) (zW hc) rfl (by simp) (by simp);have hA:EVj (EV cfg) 49 1 [.ptr 0 0 0] [.rows false 9 [[.int .i64 o.kind,.int .i64 o.num,.str o.str,.sl (qb o.subs),.int .i64 self,.ms 1 0 0,.ms 2 0 0,.ms 3 0 0,.bool false]],.rows true 4 [],.rows true 4 [],.rows true 5 []]=some (.tup [],stR o self (newK o)):=qlm o self [] [] [] false
 simp -implicitDefEqProofs only[qAj,cond_false,hA,qn,qi,qc,qp,qo,qI,qF,qy,qz7,cond_true,qt,qz,qx,qD,qJ,qC,qg,qG];exact hl
end Go.Proofs.YtafdkafbgohigaaGreat
end
noncomputable section
namespace Go.Proofs.YtafdkafbgohigaaGreat.R
open Go.Av
def ze{α:Type}(f:Nat):List (Nat×α)->Option α
 |[]=>none
 |p::l=>if qzP p.1 f then some p.2 else ze f l
theorem qlC{α:Type}{p:Nat->α->Prop}{f:Nat}{x:α}:∀{l:List (Nat×α)},(∀q∈l,p q.1 q.2)->ze f l=some x->p f x
 |[],_,h=>by cases h
 |q::l,ha,h=>by
  rw[ze]at h;split at h
  ·rename_i e;cases h;rw[←qzY e];exact ha q (by simp)
  ·exact qlC (λq hq=>ha q (by simp[hq])) h
theorem qhP{f:Nat}{fn:Func}:∀{l:List (Nat×Func)},qbL f l=some fn->∃p∈l,p.1=f
 |[],h=>by cases h
 |q::l,h=>by
  rw[qbL]at h;split at h
  ·rename_i e;exact⟨q,by simp,qzY e⟩
  ·obtain⟨p,h1,h2⟩:=qhP h;exact⟨p,by simp[h1],h2⟩
def qzH:List (Nat×CMode):=[(45,.rgn),(15,.over),(12,.rgn)]
def kL:List (Nat×Unit):=[(9,()),(11,()),(14,()),(41,()),(52,()),(54,()),(55,()),(101,()),(46,()),(83,()),(42,()),(43,()),(44,()),(8,()),(10,()),(16,()),(17,()),(13,())]
open Classical in
def qcQ (args:List AV) (H:AH):Option (AV×AH):=
 match args,H with
 |[.agg [a,b,c,.sl rows]],[]=>if ∃t:Tm,t.Ok∧t.av= .agg [a,b,c,.sl rows]then some (.agg [a,b,c,.rsl 0 rows],[.reg])else none
 |_,_=>none
def xL:List (Nat×(List AV->AH->Option (AV×AH))):=[(45,qcQ)]
def frzL:List (Nat×Nat×Nat):=[]
def qwV(f r k:Nat):List (Nat×Nat×Nat)->Bool
 |[]=>false
 |p::l=>(qzP p.1 f&&(qzP p.2.1 r&&qzP p.2.2 k))||qwV f r k l
def ext(f:Nat):Option (List AV->AH->Option (AV×AH)):=
 match ze f xL with
 |some s=>some s
 |none=>match ze f kL with
  |some _=>some (EV Go.Proofs.YtafdkafbgohigaaGreat.cfg (.f f))
  |none=>Go.Proofs.YtafdkafbgohigaaGreat.cfg.ext f
def cfg:Cfg:={ Go.Proofs.YtafdkafbgohigaaGreat.cfg with mode:=λf=>match ze f qzH with|some m=>m|none=>Go.Proofs.YtafdkafbgohigaaGreat.cfg.mode f,frz:=λf r k=>qwV f r k frzL||Go.Proofs.YtafdkafbgohigaaGreat.cfg.frz f r k,ext:=ext }
theorem qu7:qjR.all (λp=>(ze p.1 xL).isNone&&(ze p.1 kL).isNone)=true:=rfl
instance inl_ok:InlOk cfg where
 ok f fn h:=by
  have h:qbL f qjR=some fn:=h
  obtain⟨h1,h2,h3,h4⟩:=Go.Proofs.YtafdkafbgohigaaGreat.inl_ok.ok f fn h
  refine⟨?_,h2,h3,h4⟩
  obtain⟨p,hp,rfl⟩:=qhP h
  have:=List.all_eq_true.1 qu7 p hp
  rw[qzR,Option.isNone_iff_eq_none,Option.isNone_iff_eq_none]at this
  show ext p.1=none
  unfold ext
  rw[this.1,this.2]
  exact h1
theorem ev_k{f:Nat}(hx:(ze f xL).isNone=true)(hk:(ze f kL).isSome=true)(args:List AV)(H:AH):EV cfg (.f f) args H=EV Go.Proofs.YtafdkafbgohigaaGreat.cfg (.f f) args H:=by
 have he:cfg.ext f=some (EV Go.Proofs.YtafdkafbgohigaaGreat.cfg (.f f)):=by
  show ext f=_;unfold ext;rw[Option.isNone_iff_eq_none]at hx;obtain⟨u,hu⟩:=Option.isSome_iff_exists.1 hk;rw[hx,hu]
 have h1:∀n,evF cfg (n+1) (.f f) args H=EV Go.Proofs.YtafdkafbgohigaaGreat.cfg (.f f) args H:=λn=>by
  show xn cfg (evF cfg n) (.f f) args H=_;unfold xn;simp only[he]
 have h0:evF cfg 0 (.f f) args H=none:=rfl;cases h:EV Go.Proofs.YtafdkafbgohigaaGreat.cfg (.f f) args H with
 |some r=>exact qnF (g:=λn=>evF cfg n (.f f) args H) (λn r h=>qfh cfg n (.f f) args H r h) (n:=1) ((h1 0).trans h)
 |none=>
  have:¬∃(n:Nat) (r:AV×AH),evF cfg n (.f f) args H=some r:=by
   rintro⟨n,r,hr⟩;cases n with
   |zero=>rw[h0]at hr;cases hr
   |succ n=>rw[h1,h]at hr;cases hr
  exact dif_neg this
theorem qj6{f:Nat}(args:List AV)(hx:(ze f xL).isNone=true)(hk:(ze f kL).isSome=true):EVs (EV cfg) f args=EVs (EV Go.Proofs.YtafdkafbgohigaaGreat.cfg) f args:=by unfold EVs;rw[ev_k hx hk]
theorem qrZ{f:Nat}(args:List AV)(hx:(ze f xL).isNone=true)(hk:(ze f kL).isSome=true):EVf (EV cfg) f args=EVf (EV Go.Proofs.YtafdkafbgohigaaGreat.cfg) f args:=by unfold EVf;rw[ev_k hx hk]
theorem qrY{f:Nat}(k:Nat)(args:List AV)(G:AH)(hx:(ze f xL).isNone=true)(hk:(ze f kL).isSome=true):EVj (EV cfg) f k args G=EVj (EV Go.Proofs.YtafdkafbgohigaaGreat.cfg) f k args G:=by unfold EVj;rw[ev_k hx hk]
def qxE:Den:=evC cfg (EV cfg) 12 none 0 (sub (ql Tryz.f12) [1,0,1,1,1,1,1,0,0,0])
def qxN:Ex×List AV×AH->Option AV:=kAft (Cfg.keepOut cfg 12 6) (kRun cfg (EV cfg) (kfN cfg 6) 12 none 0 (qwR cfg (Cfg.lift cfg 12 0) Tryz.f12.results.toList) ([.block 0,.seq (sub (ql Tryz.f12) [1,0,1,1,1,1,1,1]),.scope]))
def qxx:List AV×AH->Option AV:=λp=>kOpt (LOOP 0 (some [0,6,10,11,12]) ([]) qxE p) qxN
def qy8:Den:=evC cfg (EV cfg) 3 none 0 (sub (ql Tryz.f3) [1,1,0,1,0,0])
def qzw:Ex×List AV×AH->Option AV:=kAft (Cfg.keepOut cfg 3 4) (kRun cfg (EV cfg) (kfN cfg 6) 3 none 0 (yx cfg (Cfg.lift cfg 3 0) Tryz.f3.results.toList) ([.block 0,.seq (sub (ql Tryz.f3) [1,1,1])]))
def qyN:List AV×AH->Option AV:=λp=>kOpt (LOOP 0 (some [0,2,4,7]) ([]) qy8 p) qzw
abbrev qar(L:Rz)(v11 v12 c0_0 c0_1:Int)(c0_2:Bz)(c0_3:Rz)(c1_0 c1_1:Int)(c1_2:Bz)(c1_3:Rz)(c1_4:Int)(nc1_5 nc1_6:Nat)(c1_8:Bool)(h2 h3:Rz)(m4:List (AV×AV)):Option (AV):=qxx (((fx 120 [(0,.sl L),(6,.ptr 0 0 0),(10,.ptr 1 0 0),(11,.int .i64 v11),(12,.int .i64 v12)]):List AV),([.rows false 4 [[.int .i64 c0_0,.int .i64 c0_1,.str c0_2,.sl c0_3]],.rows false 9 [[.int .i64 c1_0,.int .i64 c1_1,.str c1_2,.sl c1_3,.int .i64 c1_4,.ms 2 0 nc1_5,.ms 3 0 nc1_6,.mp 4,.bool c1_8]],.rows true 4 h2,.rows true 4 h3,.mp true m4]:AH))
abbrev qiO(L:Rz)(self v7 c0_0 c0_1:Int)(c0_2:Bz)(c0_3:Rz):Option (AV):=qyN (((fx 92 [(0,.sl L),(2,.int .i64 self),(4,.ptr 0 0 0),(7,.int .i64 v7)]):List AV),([.rows false 4 [[.int .i64 c0_0,.int .i64 c0_1,.str c0_2,.sl c0_3]]]:AH))
abbrev zH0:Option (AV):=some (AV.tup [.agg [.int .i64 0,.int .i64 0,.str [],.sl []],.bool false,.int .i64 0,.int .i64 2])
theorem qqQ(L:Rz)(k n:Int)(s:Bz)(l:Rz)(self:Int){P:AV->Prop}(h:Gets (bif k != 7 then zH0 else kOpt (EVs (EV cfg) 42 [.agg [.int .i64 k,.int .i64 n,.str s,.sl l]]) λv=>qq v λb=>bif ! b then zH0 else bif decide (self<1)then zH0 else bif decide (self>1073741824)then zH0 else kOpt (EVj (EV cfg) 43 1 [.ptr 0 0 0] [.rows false 9 [[AV.int .i64 k,.int .i64 n,.str s,.sl l,.int .i64 self,.ms 1 0 0,.ms 2 0 0,AV.nilM,.bool false]],.rows true 4 [],.rows true 4 []]) λq=>qd q.2 λb bs=>qf b λd' n rs=>bif beqB false d'&&qzP n 9 then qW rs λrow rest=>vg rest (qd bs λb bs=>qf b λd' n rs=>bif beqB true d'&&qzP n 4 then qd bs λb bs=>qf b λd' n rs_1=>bif beqB true d'&&qzP n 4 then qd bs λb bs=>kMpB b λd' es=>bif beqB true d' then qU bs (qa row λc cs=>kInt .i64 c λn=>qa cs λc cs=>kInt .i64 c λn_1=>qa cs λc cs=>kStr c λs=>qa cs λc cs=>kSl c λrows=>qa cs λc cs=>kInt .i64 c λn_2=>qa cs λc cs=>kMsE c λid off len=>bif qzP id 1&&(qzP off 0&&qzP len (qzO rs))then qa cs λc cs=>kMsE c λid off len=>bif qzP id 2&&(qzP off 0&&qzP len (qzO rs_1))then qa cs λc cs=>kMpE c λid=>bif qzP id 3 then qa cs λc cs=>qq c λb=>kNil cs (qar L 0 0 0 0 [] [] n n_1 s rows n_2 (qzO rs) (qzO rs_1) b rs rs_1 es)else none else none else none)else none else none else none)else none) P):Gets (EVg (EV cfg) 12 [.sl L,.agg [.int .i64 k,.int .i64 n,.str s,.sl l],.int .i64 self]) P:=
  gE (λ_=>funR rfl rfl Tryz.func12 rfl) (by kernel_rfl) h
theorem qol(L:Rz)(k n:Int)(s:Bz)(l:Rz)(self:Int){P:AV->Prop}(h:Gets (bif decide ((L.length:Int)>60)then some (.bool true)else kOpt (EVs (EV cfg) 8 [.sl [[AV.int .i64 k,.int .i64 n,.str s,.sl l]]]) λv=>qq v λb=>bif b then some (.bool true)else qiO L self 0 k n s l) P):Gets (EVs (EV cfg) 3 [.sl L,.agg [.int .i64 k,.int .i64 n,.str s,.sl l],.int .i64 self]) P:=
  gE (λ_=>funS rfl rfl Tryz.func3 rfl) (by kernel_rfl) h
abbrev zH1:Option (AV):=some (AV.tup [AV.agg [.int .i64 0,.int .i64 0,.str [],.sl []],.bool false,.int .i64 0,.int .i64 9])
abbrev zH10(rest:Rz)(bs:AH)(row:List AV)(L:Rz)(v11 n_1 c0_0 c0_1:Int)(c0_2:Bz)(c0_3:Rz):Option (AV):=vg rest (qd bs λb bs=>qf b λd' n rs=>bif beqB true d'&&qzP n 4 then qd bs λb bs=>qf b λd' n rs_2=>bif beqB true d'&&qzP n 4 then qd bs λb bs=>kMpB b λd' es=>bif beqB true d' then qU bs (qa row λc cs=>kInt .i64 c λn=>qa cs λc cs=>kInt .i64 c λn_12=>qa cs λc cs=>kStr c λs=>qa cs λc cs=>kSl c λrows=>qa cs λc cs=>kInt .i64 c λn_13=>qa cs λc cs=>kMsE c λid off len=>bif qzP id (1:Nat)&&(qzP off (0:Nat)&&qzP len (qzO rs))then qa cs λc cs=>kMsE c λid off len=>bif qzP id (2:Nat)&&(qzP off (0:Nat)&&qzP len (qzO rs_2))then qa cs λc cs=>kMpE c λid=>bif qzP id (3:Nat)then qa cs λc cs=>qq c λb=>kNil cs (qar L (qzQ .i64 (v11+1)) n_1 c0_0 c0_1 c0_2 c0_3 n n_12 s rows n_13 (qzO rs) (qzO rs_2) b rs rs_2 es)else none else none else none)else none else none else none)
abbrev zH9(rs:Rz)(bs:AH)(L:Rz)(v11 n_1 c0_0 c0_1:Int)(c0_2:Bz)(c0_3:Rz):Option (AV):=qW rs λrow rest=>zH10 rest bs row L v11 n_1 c0_0 c0_1 c0_2 c0_3
abbrev zH8(d':Bool)(n:Nat)(rs:Rz)(bs:AH)(L:Rz)(v11 n_1 c0_0 c0_1:Int)(c0_2:Bz)(c0_3:Rz):Option (AV):=bif beqB false d'&&qzP n 9 then zH9 rs bs L v11 n_1 c0_0 c0_1 c0_2 c0_3 else none
abbrev zH7(b:ABlk)(bs:AH)(L:Rz)(v11 n_1 c0_0 c0_1:Int)(c0_2:Bz)(c0_3:Rz):Option (AV):=qf b λd' n rs=>zH8 d' n rs bs L v11 n_1 c0_0 c0_1 c0_2 c0_3
abbrev zH6(q:AV×AH)(L:Rz)(v11 n_1 c0_0 c0_1:Int)(c0_2:Bz)(c0_3:Rz):Option (AV):=qd q.2 λb bs=>zH7 b bs L v11 n_1 c0_0 c0_1 c0_2 c0_3
abbrev zH5(n_8 n_9:Int)(s:Bz)(rows:Rz)(n_10:Int)(rs rs_1:Rz)(b:Bool)(es:List (AV×AV))(L:Rz)(v11 n_1 c0_0 c0_1:Int)(c0_2:Bz)(c0_3:Rz):Option (AV):=kOpt (EVj (EV cfg) 43 1 [.ptr 0 0 0] [.rows false 9 [[AV.int .i64 n_8,.int .i64 n_9,.str s,.sl rows,.int .i64 n_10,.ms 1 0 (qzO rs),.ms 2 0 (qzO rs_1),AV.mp 3,.bool b]],.rows true 4 (qzT (qzO rs) rs),.rows true 4 (qzT (qzO rs_1) rs_1),ABlk.mp true es]) λq=>zH6 q L v11 n_1 c0_0 c0_1 c0_2 c0_3
abbrev zH11(n_11 n_8 n_9:Int)(s:Bz)(rows:Rz)(n_10:Int)(rs rs_1:Rz)(b:Bool)(es:List (AV×AV))(L:Rz)(v11 n_1 c0_0 c0_1:Int)(c0_2:Bz)(c0_3:Rz):Option (AV):=bif n_11==1 then zH5 n_8 n_9 s rows n_10 rs rs_1 b es L v11 n_1 c0_0 c0_1 c0_2 c0_3 else qar L (qzQ .i64 (v11+1)) n_1 c0_0 c0_1 c0_2 c0_3 n_8 n_9 s rows n_10 (qzO rs) (qzO rs_1) b rs rs_1 es
abbrev zH4(n_11 n_8 n_9:Int)(s:Bz)(rows:Rz)(n_10:Int)(rs rs_1:Rz)(b:Bool)(es:List (AV×AV))(L:Rz)(v11 n_1 c0_0 c0_1:Int)(c0_2:Bz)(c0_3:Rz):Option (AV):=bif n_11==3 then zH5 n_8 n_9 s rows n_10 rs rs_1 b es L v11 n_1 c0_0 c0_1 c0_2 c0_3 else zH11 n_11 n_8 n_9 s rows n_10 rs rs_1 b es L v11 n_1 c0_0 c0_1 c0_2 c0_3
abbrev zH3(n_1:Int)(L:Rz)(n_11 n_8 n_9:Int)(s:Bz)(rows:Rz)(n_10:Int)(rs rs_1:Rz)(b:Bool)(es:List (AV×AV))(v11 c0_0 c0_1:Int)(c0_2:Bz)(c0_3:Rz):Option (AV):=bif decide (n_1>(L.length:Int))then zH1 else zH4 n_11 n_8 n_9 s rows n_10 rs rs_1 b es L v11 n_1 c0_0 c0_1 c0_2 c0_3
abbrev zH2(n_1 v12:Int)(L:Rz)(n_11 n_8 n_9:Int)(s:Bz)(rows:Rz)(n_10:Int)(rs rs_1:Rz)(b:Bool)(es:List (AV×AV))(v11 c0_0 c0_1:Int)(c0_2:Bz)(c0_3:Rz):Option (AV):=bif decide (n_1<=v12)then zH1 else zH3 n_1 L n_11 n_8 n_9 s rows n_10 rs rs_1 b es v11 c0_0 c0_1 c0_2 c0_3
abbrev zH14:Option (AV):=some (AV.tup [AV.agg [.int .i64 (0:Int),.int .i64 0,.str [],.sl []],.bool false,.int .i64 0,.int .i64 9])
abbrev zH13(n_2:Int)(L:Rz)(n_11 n_8 n_9:Int)(s:Bz)(rows:Rz)(n_10:Int)(rs rs_1:Rz)(b:Bool)(es:List (AV×AV))(v11 c0_0 c0_1:Int)(c0_2:Bz)(c0_3:Rz):Option (AV):=bif decide (n_2>(L.length:Int))then zH14 else zH4 n_11 n_8 n_9 s rows n_10 rs rs_1 b es L v11 n_2 c0_0 c0_1 c0_2 c0_3
abbrev zH12(n_2 v12:Int)(L:Rz)(n_11 n_8 n_9:Int)(s:Bz)(rows:Rz)(n_10:Int)(rs rs_1:Rz)(b:Bool)(es:List (AV×AV))(v11 c0_0 c0_1:Int)(c0_2:Bz)(c0_3:Rz):Option (AV):=bif decide (n_2<=v12)then zH1 else zH13 n_2 L n_11 n_8 n_9 s rows n_10 rs rs_1 b es v11 c0_0 c0_1 c0_2 c0_3
abbrev zH20(rest:Rz)(bs:AH)(row:List AV)(L:Rz)(v11 v12 c0_0 c0_1:Int)(c0_2:Bz)(c0_3:Rz):Option (AV):=vg rest (qd bs λb bs=>qf b λd' n rs=>bif beqB true d'&&qzP n 4 then qd bs λb bs=>qf b λd' n rs_2=>bif beqB true d'&&qzP n 4 then qd bs λb bs=>kMpB b λd' es=>bif beqB true d' then qU bs (qa row λc cs=>kInt .i64 c λn=>qa cs λc cs=>kInt .i64 c λn_12=>qa cs λc cs=>kStr c λs=>qa cs λc cs=>kSl c λrows=>qa cs λc cs=>kInt .i64 c λn_13=>qa cs λc cs=>kMsE c λid off len=>bif qzP id (1:Nat)&&(qzP off (0:Nat)&&qzP len (qzO rs))then qa cs λc cs=>kMsE c λid off len=>bif qzP id (2:Nat)&&(qzP off (0:Nat)&&qzP len (qzO rs_2))then qa cs λc cs=>kMpE c λid=>bif qzP id (3:Nat)then qa cs λc cs=>qq c λb=>kNil cs (qar L (qzQ .i64 (v11+1)) (qzQ .i64 (v12+1)) c0_0 c0_1 c0_2 c0_3 n n_12 s rows n_13 (qzO rs) (qzO rs_2) b rs rs_2 es)else none else none else none)else none else none else none)
abbrev zH19(rs:Rz)(bs:AH)(L:Rz)(v11 v12 c0_0 c0_1:Int)(c0_2:Bz)(c0_3:Rz):Option (AV):=qW rs λrow rest=>zH20 rest bs row L v11 v12 c0_0 c0_1 c0_2 c0_3
abbrev zH18(d':Bool)(n:Nat)(rs:Rz)(bs:AH)(L:Rz)(v11 v12 c0_0 c0_1:Int)(c0_2:Bz)(c0_3:Rz):Option (AV):=bif beqB false d'&&qzP n 9 then zH19 rs bs L v11 v12 c0_0 c0_1 c0_2 c0_3 else none
abbrev zH17(b:ABlk)(bs:AH)(L:Rz)(v11 v12 c0_0 c0_1:Int)(c0_2:Bz)(c0_3:Rz):Option (AV):=qf b λd' n rs=>zH18 d' n rs bs L v11 v12 c0_0 c0_1 c0_2 c0_3
abbrev zH16(q:AV×AH)(L:Rz)(v11 v12 c0_0 c0_1:Int)(c0_2:Bz)(c0_3:Rz):Option (AV):=qd q.2 λb bs=>zH17 b bs L v11 v12 c0_0 c0_1 c0_2 c0_3
abbrev zH15(n_8 n_9:Int)(s:Bz)(rows:Rz)(n_10:Int)(rs rs_1:Rz)(b:Bool)(es:List (AV×AV))(L:Rz)(v11 v12 c0_0 c0_1:Int)(c0_2:Bz)(c0_3:Rz):Option (AV):=kOpt (EVj (EV cfg) 43 1 [.ptr 0 0 0] [.rows false 9 [[AV.int .i64 n_8,.int .i64 n_9,.str s,.sl rows,.int .i64 n_10,.ms 1 0 (qzO rs),.ms 2 0 (qzO rs_1),AV.mp 3,.bool b]],.rows true 4 (qzT (qzO rs) rs),.rows true 4 (qzT (qzO rs_1) rs_1),ABlk.mp true es]) λq=>zH16 q L v11 v12 c0_0 c0_1 c0_2 c0_3
theorem qfI(L:Rz)(v11 v12 c0_0 c0_1:Int)(c0_2:Bz)(c0_3:Rz)(c1_0 c1_1:Int)(c1_2:Bz)(c1_3:Rz)(c1_4:Int)(nc1_5 nc1_6:Nat)(c1_8:Bool)(h2 h3:Rz)(m4:List (AV×AV)){P:AV->Prop}(h:Gets (bif decide (v12<(L.length:Int))then bif qe 0 v12&&qu v12 (L.length:Int)then kOpt (qzU L (v12.toNat)) λrow=>bif qzP (qzO row) 7 then bif qz8 7 (qzO row)then qa (qzT 7 row) λc cs=>kInt .i64 c λn=>qa cs λc cs=>kInt .i64 c λn_1=>qa cs λc cs=>kInt .i64 c λn_2=>kTmC cs λn_3 n_4 s rows=>(kOpt (EVj (EV cfg) 44 1 [.ptr 0 0 0,.agg [.int .i64 n,.int .i64 n_1,.int .i64 n_2,.int .i64 n_3,.int .i64 n_4,.str s,.sl rows]] [.rows false 9 [[AV.int .i64 c1_0,.int .i64 c1_1,.str c1_2,.sl c1_3,.int .i64 c1_4,.ms 1 0 nc1_5,.ms 2 0 nc1_6,AV.mp 3,.bool c1_8]],.rows true 4 (qzT nc1_5 h2),.rows true 4 (qzT nc1_6 h3),ABlk.mp true m4]) λq=>qd q.2 λb bs=>qf b λd' n_5 rs=>bif beqB false d'&&qzP n_5 9 then qW rs λrow rest=>vg rest (qd bs λb bs=>qf b λd' n_6 rs=>bif beqB true d'&&qzP n_6 4 then qd bs λb bs=>qf b λd' n_7 rs_1=>bif beqB true d'&&qzP n_7 4 then qd bs λb bs=>kMpB b λd' es=>bif beqB true d' then qU bs (qa row λc cs=>kInt .i64 c λn_8=>qa cs λc cs=>kInt .i64 c λn_9=>qa cs λc cs=>kStr c λs=>qa cs λc cs=>kSl c λrows=>qa cs λc cs=>kInt .i64 c λn_10=>qa cs λc cs=>kMsE c λid off len=>bif qzP id 1&&(qzP off 0&&qzP len (qzO rs))then qa cs λc cs=>kMsE c λid off len=>bif qzP id 2&&(qzP off 0&&qzP len (qzO rs_1))then qa cs λc cs=>kMpE c λid=>bif qzP id 3 then qa cs λc cs=>qq c λb=>kNil cs (kInt .i64 q.1 λn_11=>bif n_11==4 then bif qe 0 (qzQ .i64 ((rs_1.length:Int) - 1))&&qu (qzQ .i64 ((↑ (qzO rs_1):Int) - 1)) (rs_1.length:Int)then kOpt (qzU rs_1 (0+qzV (qzQ .i64 ((rs_1.length:Int) - 1)))) λrow=>bif qz8 4 (qzO row)then kTmC (qzT 4 row) λn n_12 s rows=>(kOpt (EVg (EV cfg) 45 [AV.agg [.int .i64 n,.int .i64 n_12,.str s,.sl rows]]) λV=>kTmV V λn n_13 s rows=>(some (AV.tup [AV.agg [.int .i64 n,.int .i64 n_13,.str s,.sl rows],.bool true,.int .i64 (qzQ .i64 (v11+1)),.int .i64 0])))else none else none else bif n_11==5 then zH1 else bif n_11==3 then bif b then kOpt (EVf (EV cfg) 46 [.str [(69:UInt8),(88:UInt8),(73:UInt8),(84:UInt8)]]) λv=>kTmV v λn n_12 s rows=>(bif List.isEmpty rows then some (AV.tup [AV.agg [.int .i64 n,.int .i64 n_12,.str s,.sl []],.bool true,.int .i64 (qzQ .i64 (v11+1)),.int .i64 0])else none)else bif n==15 then zH2 n_1 v12 L n_11 n_8 n_9 s rows n_10 rs rs_1 b es v11 c0_0 c0_1 c0_2 c0_3 else bif n==16 then zH2 n_1 v12 L n_11 n_8 n_9 s rows n_10 rs rs_1 b es v11 c0_0 c0_1 c0_2 c0_3 else zH2 n_2 v12 L n_11 n_8 n_9 s rows n_10 rs rs_1 b es v11 c0_0 c0_1 c0_2 c0_3 else bif n_11==1 then zH12 n_2 v12 L n_11 n_8 n_9 s rows n_10 rs rs_1 b es v11 c0_0 c0_1 c0_2 c0_3 else bif n_11==2 then zH12 n_2 v12 L n_11 n_8 n_9 s rows n_10 rs rs_1 b es v11 c0_0 c0_1 c0_2 c0_3 else bif decide (qzQ .i64 (v12+1)<=v12)then zH1 else bif decide (qzQ .i64 (v12+1)>(L.length:Int))then zH1 else bif n_11==3 then zH15 n_8 n_9 s rows n_10 rs rs_1 b es L v11 v12 c0_0 c0_1 c0_2 c0_3 else bif n_11==1 then zH15 n_8 n_9 s rows n_10 rs rs_1 b es L v11 v12 c0_0 c0_1 c0_2 c0_3 else qar L (qzQ .i64 (v11+1)) (qzQ .i64 (v12+1)) c0_0 c0_1 c0_2 c0_3 n_8 n_9 s rows n_10 (qzO rs) (qzO rs_1) b rs rs_1 es)else none else none else none)else none else none else none)else none)else none else none else none else some (AV.tup [.agg [.int .i64 0,.int .i64 (0:Int),.str [],.sl []],.bool false,.int .i64 v11,.int .i64 0])) P):Gets (qar L v11 v12 c0_0 c0_1 c0_2 c0_3 c1_0 c1_1 c1_2 c1_3 c1_4 nc1_5 nc1_6 c1_8 h2 h3 m4) P:=
  gE (λ_=>qM (cfg:=cfg) (f:=12) (rd:=none) (bs:=0)) (by kernel_rfl) h
theorem qht(L:Rz)(self v7 c0_0 c0_1:Int)(c0_2:Bz)(c0_3:Rz){P:AV->Prop}(h:Gets (bif decide (v7<(L.length:Int))then bif qe 0 v7&&qu v7 (L.length:Int)then kOpt (qzU L (v7.toNat)) λrow=>bif qzP (qzO row) 7 then bif qz8 7 (qzO row)then qa (qzT 4 (List.drop 3 row)) λc cs=>kInt .i64 c λn=>qa cs λc cs=>kInt .i64 c λn_1=>qa cs λc cs=>kStr c λs=>qa cs λc cs=>kSl c λrows=>kNil cs (kOpt (EVs (EV cfg) 9 [.agg [.int .i64 n,.int .i64 n_1,.str s,.sl rows],.int .i64 100]) λv=>qq v λb=>bif b then some (.bool true)else qiO L self (qzQ .i64 (v7+1)) c0_0 c0_1 c0_2 c0_3)else none else none else none else kOpt (EVf (EV cfg) 10 [.sl L]) λv=>kSl v λrows=>kOpt (EVf (EV cfg) 11 [.agg [.int .i64 c0_0,.int .i64 c0_1,.str c0_2,.sl c0_3]]) λv=>kTmV v λn n_1 s rows_1=>(kOpt (EVg (EV cfg) 12 [.sl rows,.agg [.int .i64 n,.int .i64 n_1,.str s,.sl rows_1],.int .i64 self]) λV=>kTup V λcs=>qa cs λc cs=>kAgg c λcs_1=>qa cs_1 λc cs_2=>kInt .i64 c λn_2=>qa cs_2 λc cs_3=>kInt .i64 c λn_3=>qa cs_3 λc cs_4=>kStr c λs_1=>qa cs_4 λc cs_5=>kSl c λrows_2=>kNil cs_5 (qa cs λc cs=>qq c λb=>qa cs λc cs=>kInt .i64 c λn_4=>qa cs λc cs=>kInt .i64 c λn_5=>kNil cs (kOpt (EVf (EV cfg) 13 [.sl L,.agg [.int .i64 c0_0,.int .i64 c0_1,.str c0_2,.sl c0_3],.int .i64 self]) λv=>kTup v λcs=>qa cs λc cs=>kAgg c λcs_6=>qa cs_6 λc cs_7=>kInt .i64 c λn_6=>qa cs_7 λc cs_8=>kInt .i64 c λn_7=>qa cs_8 λc cs_9=>kStr c λs_2=>qa cs_9 λc cs_10=>kSl c λrows_3=>kNil cs_10 (qa cs λc cs=>qq c λb_1=>qa cs λc cs=>kInt .i64 c λn_8=>qa cs λc cs=>kInt .i64 c λn_9=>kNil cs (bif n_5 != n_9 then some (.bool false)else bif ! b==b_1 then some (.bool false)else bif n_4 != n_8 then some (.bool false)else kOpt (EVs (EV cfg) 14 [AV.agg [.int .i64 n_2,.int .i64 n_3,.str s_1,.sl rows_2],AV.agg [.int .i64 n_6,.int .i64 n_7,.str s_2,.sl rows_3]]) λv=>qq v λb=>bif ! b then some (.bool false)else kOpt (EVz (EV cfg) 15 (AV.agg [.int .i64 n_2,.int .i64 n_3,.str s_1,AV.rsl 0 rows_2])) λx=>kOpt (EVs (EV cfg) 16 [.sl rows,.sl L]) λv=>qq v λb=>bif b then kOpt (EVs (EV cfg) 14 [AV.agg [.int .i64 n,.int .i64 n_1,.str s,.sl rows_1],AV.agg [.int .i64 c0_0,.int .i64 c0_1,.str c0_2,.sl c0_3]]) λv=>qq v λb=>bif b then kOpt (EVs (EV cfg) 17 []) λv=>qq v λb=>some (.bool b)else some (.bool false)else some (.bool false))))))) P):Gets (qiO L self v7 c0_0 c0_1 c0_2 c0_3) P:=
  gE (λ_=>qM (cfg:=cfg) (f:=3) (rd:=none) (bs:=0)) (by kernel_rfl) h
end Go.Proofs.YtafdkafbgohigaaGreat.R
end
noncomputable section
namespace Go.Proofs.YtafdkafbgohigaaGreat
open Go.Av
def qxD:Den:=evC cfg (EV cfg) 94 none 1 (sub (ql Tryz.f94) [1,1,1,0,1,0,0])
def qxM:Ex×List AV×AH->Option (AV×List (List AV)):=kAft (Cfg.keepOut cfg 94 6) (kRun cfg (EV cfg) (kfN cfg 6) 94 none 1 (qrC cfg 1 (Cfg.lift cfg 94 0) Tryz.f94.results.toList) ([.block 0,.seq (sub (ql Tryz.f94) [1,1,1,1])]))
def qxw:List AV×AH->Option (AV×List (List AV)):=λp=>kOpt (LOOP 1 (some [1,2,3,4,18,19,20]) ([]) qxD p) qxM
abbrev qgI(lt:Rz)(v20 c1_0 c1_1:Int)(c1_2:Bz)(c2_0 c2_1:Int)(c2_2:Bz)(c2_3 h3:Rz):Option (AV×List (List AV)):=qxw (((fx 35 [(1,.ptr 0 0 0),(2,.ptr 1 0 0),(3,.ptr 2 0 0),(4,.ms 3 0 (qzV (lt.length:Int))),(18,.lsl lt),(19,.int .i64 (lt.length:Int)),(20,.int .i64 v20)]):List AV),([.rows false 1 [[.fn (Fn.func 94) [] [.ptr 0 0 0]]],.rows false 4 [[.int .i64 c1_0,.int .i64 c1_1,.str c1_2,.lsl lt]],.rows false 4 [[.int .i64 c2_0,.int .i64 c2_1,.str c2_2,.sl c2_3]],.rows true 4 h3]:AH))
theorem qkD(kt:Int)(nt:Int)(st:Bz)(lt:Rz){P:AV->Prop}(h:Gets (kOpt (EVk (EV cfg) 94 [.agg [AV.int .i64 kt,.int .i64 nt,.str st,AV.lsl lt],.ptr 0 0 0] 1 [[AV.fn (Fn.func 94) [] [.ptr 0 0 0]]]) fun(q:AV)=>kTmV q fun(n n_1:Int) (s:List 
  UInt8) (rows:Rz)=>(some (.agg [AV.int .i64 n,.int .i64 n_1,.str s,.sl rows]))) P):Gets (EVf (EV cfg) 45 ([AV.agg [AV.int qAn kt,AV.int qAn nt,AV.str st,AV.lsl lt]]:List AV)) P:=
  Gets.ev (λ_ h=>funF rfl rfl Tryz.func45 rfl h) (Gets.eq (by kernel_rfl) h)
theorem qpS(kt nt:Int)(st:Bz)(lt:Rz){P:AV×List (List AV)->Prop}(h:Gets (bif(lt.length:Int)==0 then bif AV.refsLt 0 (.agg [.int .i64 kt,.int .i64 nt,.str st,.sl []])then some (.agg [.int .i64 kt,.int .i64 nt,.str st,.sl []],[[AV.fn (Fn.func 94) [] [.ptr 0 0 0]]])else none else bif qe 0 (lt.length:Int)&&qe (lt.length:Int) (lt.length:Int)&&qe ((↑ (qzO lt):Int)*56) 140737488355328&&qe (lt.length:Int) 9223372036854775807 then qgI lt 0 kt nt st 0 0 [] [] (qAf (qzV (lt.length:Int)) [AV.int .i64 0,.int .i64 0,.str [],.nilS])else none) P):Gets (EVx (EV cfg) 94 [.agg [.int .i64 kt,.int .i64 nt,.str st,.lsl lt],.ptr 0 0 0] 1 [[(AV.fn (Fn.func 94) [] [AV.ptr 0 0 0])]]) P:=
  gE (λ_=>funX rfl rfl Tryz.func94 rfl) (by kernel_rfl) h
theorem qfH(lt:Rz)(v20 c1_0 c1_1:Int)(c1_2:Bz)(c2_0 c2_1:Int)(c2_2:Bz)(c2_3 h3:Rz){P:AV×List (List AV)->Prop}(h:Gets (bif decide (v20<(lt.length:Int))then bif qe 0 v20&&qu v20 (lt.length:Int)then kOpt (qzU lt (v20.toNat)) λrow=>bif qzP (qzO row) 4 then bif qz8 4 (qzO row)then kTmC (qzT 4 row) λn n_1 s rows=>(kOpt (EVk (EV cfg) 94 [.agg [.int .i64 n,.int .i64 n_1,.str s,AV.lsl rows],.ptr 0 0 0] 1 [[AV.fn (Fn.func 94) [] [.ptr 0 0 0]]]) λq=>kTmV q λn n_2 s rows=>(bif qe 0 v20&&qu v20 (↑ (qzV (lt.length:Int)):Int)then kOpt (qzU h3 (0+v20.toNat)) λrow=>bif qz8 4 (qzO row)then qgI lt (qzQ .i64 (v20+1)) c1_0 c1_1 c1_2 c2_0 c2_1 c2_2 c2_3 (List.set h3 (0+v20.toNat) (.int .i64 n:: .int .i64 n_2:: .str s:: .sl rows::List.drop 4 row))else none else none))else none else none else none else bif qz8 (0+qzV (lt.length:Int)) (qzO h3)&&true then some (.agg [.int .i64 c1_0,.int .i64 c1_1,.str c1_2,.sl (qzT (qzV (lt.length:Int)) h3)],[[AV.fn (Fn.func 94) [] [.ptr 0 0 0]]])else none) P):Gets (qgI lt v20 c1_0 c1_1 c1_2 c2_0 c2_1 c2_2 c2_3 h3) P:=
  gE (λ_=>qM (cfg:=cfg) (f:=94) (rd:=none) (bs:=1)) (by kernel_rfl) h
def avL(t:Tm):AV:=.agg [.int .i64 t.kind,.int .i64 t.num,.str t.str,.lsl (qb t.subs)]
theorem qot(k n:Int)(s:List UInt8)(l:List Tm):avL (Tm.mk k n s l)= .agg [.int .i64 k,.int .i64 n,.str s,.lsl (qb l)]:=rfl
theorem qr7(t:Tm):t.Ok->EVx (EV cfg) 94 [avL t,.ptr 0 0 0] 1 ym=some (t.av,ym):=by
 induction t using Tm.ind with
 |_ k n s l ih=>
  intro hok;have hlen:=hok.len;have loop:∀(d i:Nat),i+d=l.length->Gets (qgI (qb l) i k n s 0 0 [] [] (qb (l.take i)++qAf d [.int .i64 0,.int .i64 0,.str [],.nilS])) (·=((Tm.mk k n s l).av,ym)):=by
   intro d
   induction d with
   |zero=>
    intro i hi;refine qfH _ _ _ _ _ _ _ _ _ _ ?_;obtain rfl:i=l.length:=by omega
    have e:l.take l.length=l:=qAa (qz0 _);rw[e];simp;rfl
   |succ d ihd=>
    intro i hi;refine qfH _ _ _ _ _ _ _ _ _ _ ?_;have hil:i<l.length:=by omega
    have hx:l[i]? =some l[i]:=qzS hil;have hxl:=qz5 hx;have hix:=qkx (ih l[i] hxl (hok.sub hxl));have hih:=ihd (i+1) (by omega);have hw:=qmT hil hlen;have e1:l.take (i+1)=l.take i++[l[i]]:=by rw[List.take_add_one,hx];rfl
    have ht:(qb (l.take i)).length=i:=by rw[qj,List.length_take];omega
    have g:(qb (l.take i)++qAf (d+1) [AV.int .i64 0,.int .i64 0,.str [],.nilS])[i]? =some [AV.int .i64 0,.int .i64 0,.str [],.nilS]:=by
     rw[qz2 (by omega),ht,Nat.sub_self];rfl
    have g2:(qb (l.take i)++qAf (d+1) [AV.int .i64 0,.int .i64 0,.str [],.nilS]).set i l[i].cells=qb (l.take (i+1))++qAf d [AV.int .i64 0,.int .i64 0,.str [],.nilS]:=by
     rw[List.set_append_right _ _ (by omega),e1,vO,q4,q6];have e3:i - (qb (l.take i)).length=0:=by omega
     rw[e3,List.replicate_succ,List.set_cons_zero,List.append_assoc];rfl
    simp only[ym,avL]at hix;simp[hil,hix,g,hw];rw[g2]
    simpa using hih
  apply Gets.get;rw[Tm.av_mk,qot];refine qpS _ _ _ _ ?_;rw[qj]
  by_cases hl:l.length=0
  ·have:l=[]:=List.length_eq_zero_iff.1 hl;subst this;simp[ym,AV.refsLt,qE]
  ·have hl':((l.length:Int)==0)=false:=by rw[beqD];exact qAv (by omega)
   have h56:qe ((l.length:Int)*56) 140737488355328=true:=by simp[qe];omega
   have hm:qe (l.length:Int) 9223372036854775807=true:=by simp[qe];omega
   have hz:qe 0 (l.length:Int)=true:=vX _;have hs:qe (l.length:Int) (l.length:Int)=true:=by simp[qe]
   rw[hl',h56,hm,hz,hs];have:=loop l.length 0 (by omega);rw[Tm.av_mk]at this
   simpa using this
theorem qvi{t:Tm}(h:t.Ok):EVf (EV cfg) 45 [avL t]=some t.av:=by
 have h1:=qkx (qr7 t h);obtain⟨k,n,s,l⟩:=t;rw[Tm.av_mk,qot]at h1⊢;apply Gets.get;refine qkD _ _ _ _ ?_;simp only[ym]at h1;rw[h1];simp[←Tm.av_mk]
def avR(id:Nat)(t:Tm):AV:=.agg [.int .i64 t.kind,.int .i64 t.num,.str t.str,.rsl id (qb t.subs)]
theorem qs0{L:Lent}{C:qk}{μ:MMap}(l:List Tm)(ih:∀t∈l,∀v,@Rep L C μ (.sl (qb t.subs)) v->Rep0 C (.sl (qb t.subs)) v){v:Value}(h: @Rep L C μ (.sl (qb l)) v):Rep0 C (.sl (qb l)) v:=by
 generalize hR:qb l=R at h;cases h with
 |slNil=>exact .slNil
 |sl _ a cap sz vals hs hsz hc hr hcell hcap hfree=>
  refine .sl R a cap sz vals hs hsz hc (λi j row x h1 h2=>?_) hcell hcap hfree;have hrep:=hr i j row x h1 h2;rw[←hR,yG]at h1;cases hl:l[i]? with
  |none=>rw[hl]at h1;cases h1
  |some t=>
   rw[hl]at h1;cases h1;obtain⟨k,n,s,l'⟩:=t;rw[Tm.cells_mk]at h2
   match j,h2 with
   |0,h2=>cases h2;generalize vals i 0=u at hrep⊢;cases hrep;exact .int _ _
   |1,h2=>cases h2;generalize vals i 1=u at hrep⊢;cases hrep;exact .int _ _
   |2,h2=>cases h2;generalize vals i 2=u at hrep⊢;cases hrep;exact .str _
   |3,h2=>cases h2;exact ih _ (qz5 hl) _ hrep
   |j+4,h2=>simp at h2
theorem qp9{L:Lent}{C:qk}{μ:MMap}(t:Tm):∀v,@Rep L C μ (.sl (qb t.subs)) v->Rep0 C (.sl (qb t.subs)) v:=by
 induction t using Tm.ind with
 |_ k n s l ih=>exact λv h=>qs0 l ih h
theorem Rep0.claims{D D':qk}{a:AV}{v:Value}(hD:∀b o v,D b o=some v->D' b o=some v)(h:Rep0 D a v):Rep0 D' a v:=by
 induction h with
 |int k n=>exact .int k n
 |bool b=>exact .bool b
 |str s=>exact .str s
 |nilS=>exact .nilS
 |slNil=>exact .slNil
 |em a cap=>exact .em a cap
 |sl rows a cap sz vals hs hsz hc _ hcell hcap hfree ih=>exact .sl rows a cap sz vals hs hsz (λi j row x h1 h2=>hD _ _ _ (hc i j row x h1 h2)) ih hcell hcap hfree
@[reducible] def yJ(L:Lent)(C:qk)(w:World):Lent:=⟨λb o=>match C b o with|some v=>some v|none=>L.l b o,True,λb=>w.heap.size<=b,λ_=>none⟩
theorem qye{L:Lent}{C:qk}{w:World}{b o:Nat}{v:Value}(h:C b o=some v)(hb:b<w.heap.size): @LC (yJ L C w) (λ_ _=>none) b o=some v:=by
 unfold LC;refine(qAx (Nat.not_le.2 hb)).trans ?_;show(match C b o with|some v=>some v|none=>L.l b o)=some v;rw[h]
theorem qq7{D:qk}{l:List Tm}{v:Value}(h:Rep0 D (.sl (qb l)) v)(hl:qb l≠[]):∃b o,D b o≠none:=by
 generalize hR:qb l=R at h;cases h with
 |slNil=>exact absurd hR hl
 |sl _ a cap sz vals hs hsz hc hr hcell hcap hfree=>
  cases l with
  |nil=>exact absurd (by rw[qb]) hl
  |cons t l=>
   obtain⟨k,n,s,l'⟩:=t;have h1:R[0]? =some [.int .i64 k,.int .i64 n,.str s,.sl (qb l')]:=by rw[←hR,yG];exact congrArg some (Tm.cells_mk k n s l')
   exact⟨_,_,by rw[hc 0 0 _ _ h1 rfl];simp⟩
theorem qxK{cf:Orac}{f:Nat}{al:List AV}{v:AV}(h:EVf cf f al=some v):∃r H,cf (.f f) al []=some (r,H)∧(r.frz r.msIds H).fg=v:=by
 unfold EVf at h;cases hc:cf (.f f) al []with
 |none=>rw[hc]at h;cases h
 |some q=>rw[hc]at h;exact⟨q.1,q.2,rfl,Option.some.inj h⟩
theorem qtw[Lent](hu:Lent.u){f:FuncId}{al:List AV}{k n:Int}{s:List UInt8}{l:List Tm}(he:EVf (EV cfg) f al=some (Tm.mk k n s l).av){w:World}{vs:Array Value}(hw:Wld (λ_=>λ_=>none) (λ_=>none) [] w)(ha:qA (λ_=>λ_=>none) (λ_=>none) al vs):
  vM Tryz.prog (callFunc f vs) w (λv w1=>∃(D:qk) (v3:Value),v= .agg [.int .i64 k,.int .i64 n,.string ⟨s.toArray⟩,v3].toArray∧Rep0 D (.sl (qb l)) v3∧(∀b o u,D b o=some u->w1.cell? ⟨b,o,none⟩=some u∧w1.frozen? ⟨b,o,none⟩=false∧w.heap.size<=b) ∧
   (∀b,b<w.heap.size->w1.heap[b]? =w.heap[b]?)∧w.heap.size<=w1.heap.size∧w1.os=w.os∧w1.tape=w.tape∧w1.output=w.output):=by
 have he2:=qxK he;clear he;obtain⟨qr,qH,hq,hqe⟩:=he2;have hO:=qfp qeA;have hcall:=hO.calls _ _ _ _ _ hq (λ_=>λ_=>none) (λ_=>none) w vs _ ha hw rfl;refine hcall.mono λv w1 ⟨C2,μ2,e1,e2,e3⟩=>?_
 obtain⟨C3,a1,a2,a3⟩:=xy qr.msIds e2;have x:=e3.trans (a3 0 (Nat.zero_le _)) (qz0 _);have r1:Rep C3 μ2 (Tm.mk k n s l).av v:=by
  rw[←hqe];exact((e1.mono a1 (λ_ _ h=>h)).frzA (ye.of a2)).fgA
 rw[Tm.av_mk]at r1;cases r1 with
 |agg _ us hl hh=>
 match us,hl,hh with
 |[u0,u1,u2,u3],_,hh=>
 have h0:Rep0 C3 (.sl (qb l)) u3:=qp9 (.mk k n s l) u3 (hh 3 _ _ rfl rfl);have q0:=hh 0 _ _ rfl rfl;have q1:=hh 1 _ _ rfl rfl;have q2:=hh 2 _ _ rfl rfl;cases q0;cases q1;cases q2;have hge:∀b o u,C3 b o=some u->w.heap.size<=b:=λb o u h=>by
  rcases Nat.lt_or_ge b w.heap.size with hb|hb
  ·have h5:=(x.fr b hb vY).2.2;rw[h5]at h;cases h
  ·exact hb
 exact⟨C3,u3,rfl,h0,λb o u h=>⟨a2.cl b o u h,a2.lnt.2.1 hu b o u (hw.lnt.2.2 b (hge b o u h)) h,hge b o u h⟩,λb hb=>(x.fr b hb vY).1,x.size,x.os,x.tape,x.output⟩
theorem quG[L:Lent]{f:FuncId}{al:List AV}{t:Tm}(he:EVf (EV cfg) f al=some t.av){C:qk}{w:World}{vs:Array Value}(hw:Wld C (λ_=>none) [] w)(ha': @qA (yJ L C w) (λ_=>λ_=>none) (λ_=>none) al vs):
  vM Tryz.prog (callFunc f vs) w (xe C (λ_=>none) [] w (avR 0 t) [.reg]):=by
 have hlent:∀b o v,(yJ L C w).l b o=some v->w.cell? ⟨b,o,none⟩=some v∧∀ob,(yJ L C w).k b=some ob->w.heap[b]? =some ob:=λb o v h=>by
  have h:(match C b o with|some v=>some v|none=>L.l b o)=some v:=h;split at h
  ·rename_i u hu;cases h;exact⟨hw.cl _ _ _ hu,λ_ h=>(nomatch h)⟩
  ·exact⟨(hw.lnt.1 _ _ _ h).1,λ_ h=>(nomatch h)⟩
 have hw': @Wld (yJ L C w) (λ_=>λ_=>none) (λ_=>none) [] w:=
  @Wld.mk (yJ L C w) _ _ _ _ (λb o v h=>(nomatch h)) (λid m hm=>(nomatch hm)) (λid hi=>rfl) (λid blk h1=>(by simp at h1)) (λid d sz rs h1=>(by simp at h1)) (λi i' b b' m m' h1=>(by simp at h1)) z5.nil ⟨hlent,λ_ b o v _ h=>(nomatch h),λb hb=>hb⟩
 obtain⟨k,n,s,l⟩:=t;refine(@qtw (yJ L C w) trivial _ _ _ _ _ _ he _ _ hw' ha').mono λv w1 ⟨C3,u3,hv,h0,hD,old,hsz,hos,htp,hou⟩=>?_
 subst hv;have hw1:Wld C (λ_=>none) [] w1:=hw.world hsz old;have fin:∀μ':MMap,(qb l≠[]->∃m,μ' 0=some m∧m.D=C3)->Rep C μ' (avR 0 (.mk k n s l)) (.agg [.int .i64 k,.int .i64 n,.string ⟨s.toArray⟩,u3].toArray):=by
  intro μ' hm;refine Rep.agg _ [.int .i64 k,.int .i64 n,.string ⟨s.toArray⟩,u3] rfl (λi a v h1 h2=>?_)
  match i,h1,h2 with
  |0,h1,h2=>cases h1;cases h2;exact .int _ _
  |1,h1,h2=>cases h1;cases h2;exact .int _ _
  |2,h1,h2=>cases h1;cases h2;exact .str _
  |3,h1,h2=>cases h1;cases h2;exact .rsl 0 _ _ C3 hm h0
  |i+4,h1,h2=>simp at h1
 by_cases hex:∃b o,C3 b o≠none
 ·obtain⟨b0,o0,hb0⟩:=hex;have hhas:∀b,(MI.mk b0 0 0 0 C3).has b->∃o u,C3 b o=some u:=by
   rintro b (h|⟨o,h⟩)
   ·have:b0=b:=h;subst this;cases hc:C3 b0 o0 with
    |none=>exact absurd hc hb0
    |some u=>exact⟨o0,u,hc⟩
   ·cases hc:C3 b o with
    |none=>exact absurd hc h
    |some u=>exact⟨o,u,hc⟩
  have hge:∀b,(MI.mk b0 0 0 0 C3).has b->w.heap.size<=b:=λb hb=>by
   obtain⟨o,u,hc⟩:=hhas b hb;exact(hD b o u hc).2.2
  have hlt:∀b,(MI.mk b0 0 0 0 C3).has b->b<w1.heap.size:=λb hb=>by
   obtain⟨o,u,hc⟩:=hhas b hb;exact World.block_lt_of_cell? w1 ⟨b,o,none⟩ ((hD b o u hc).1)
  obtain⟨n1,n2,n3,n4,n5⟩:=hw1.new (nid:=none) (k:=0) (H':=[.reg]) (blk:=.reg) (m:=MI.mk b0 0 0 0 C3) rfl (λb hb=>vY) hlt
   (λb hb o=>by
    cases hc:C b o with
    |none=>rfl
    |some u=>have h5:=hw.block_lt hc;have h6:=hge b hb;omega)
   (λb hb=>hw.lent_none (hge b hb)) rfl (λb o u hd=>⟨(hD b o u hd).1,(hD b o u hd).2.1⟩)
  refine⟨C,_,fin _ (λ_=>⟨_,by unfold upd;rw[qAw rfl],rfl⟩),n1,⟨hos,htp,hou,hsz,λ_ _ _ h=>h,λid m _ hm=>(nomatch hm),λb hb hnl=>⟨old b hb,λhl=>?_,rfl⟩,Nat.zero_le _⟩⟩;rcases n4 b hl with h|h
  ·exact vY h
  ·have:=hge b h;omega
 ·obtain⟨n1,n2⟩:=hw1.newV (nid:=none) (k:=0) (H':=[.reg]) (blk:=.reg) rfl rfl rfl trivial;have n3:=n2 0 (Nat.zero_le _);refine⟨C,_,fin (λ_=>none) (λhne=>absurd (qq7 h0 hne) hex),n1,⟨hos,htp,hou,hsz,λ_ _ _ h=>h,λid m _ hm=>(nomatch hm),λb hb hnl=>⟨old b hb,λhl=>?_,rfl⟩,Nat.zero_le _⟩⟩;obtain⟨i,bi,mi,h1,h2,h3,h4⟩:=hl;cases h3
theorem qtU[L:Lent]{t:Tm}{C:qk}{w:World}{vs:Array Value}(hw:Wld C (λ_=>none) [] w)(ha:qA C (λ_=>none) [t.av] vs): @qA (yJ L C w) (λ_=>λ_=>none) (λ_=>none) [avL t] vs:=by
 obtain⟨h1,h2⟩:=ha;refine⟨by simpa using h1,λi a v hi hv=>?_⟩
 match i,hi with
 |0,hi=>
  cases hi;have h3:=h2 0 t.av v rfl hv;obtain⟨k,n,s,l⟩:=t;rw[Tm.av_mk]at h3;rw[qot];cases h3 with
  |agg _ us hl hh=>
   refine @Rep.agg (yJ L C w) _ _ _ us hl (λi a v h1 h2=>?_)
   match i,h1 with
   |0,h1=>cases h1;have h4:=hh 0 _ v rfl h2;cases h4;exact @Rep.int (yJ L C w) _ _ _ _
   |1,h1=>cases h1;have h4:=hh 1 _ v rfl h2;cases h4;exact @Rep.int (yJ L C w) _ _ _ _
   |2,h1=>cases h1;have h4:=hh 2 _ v rfl h2;cases h4;exact @Rep.str (yJ L C w) _ _ _
   |3,h1=>
    cases h1;have h4:=hh 3 _ v rfl h2;exact @Rep.lsl (yJ L C w) _ _ _ _ (Rep0.claims (λb o v h=>qye h (hw.block_lt h)) (qp9 (.mk k n s l) v h4))
   |i+4,h1=>simp at h1
 |i+1,hi=>simp at hi
theorem qvg[L:Lent]{t:Tm}(hok:t.Ok){C:qk}{w:World}{vs:Array Value}(hw:Wld C (λ_=>none) [] w)(ha:qA C (λ_=>none) [t.av] vs):
  vM Tryz.prog (callFunc 45 vs) w (xe C (λ_=>none) [] w (avR 0 t) [.reg]):=by
 exact quG (f:=45) (al:=[avL t]) (qvi hok) hw (qtU hw ha)
end Go.Proofs.YtafdkafbgohigaaGreat
end
noncomputable section
namespace Go.Proofs.YtafdkafbgohigaaGreat.R
open Go.Av Go.ChangeShapes Go.WideShapes Go.ChangeAt Go.RowKit
theorem qxs[Lent]{args:List AV}{H H':AH}{r:AV}{C:qk}{μ:MMap}{w:World}{vs:Array Value}(hr:qcQ args H=some (r,H'))(ha:qA C μ args vs)(hw:Wld C μ H w):
  vM Tryz.prog (callFunc 45 vs) w (xe C μ H w r H'):=by
 unfold qcQ at hr;split at hr
 case h_2=>cases hr
 rename_i a b c rows;split at hr
 case isFalse=>cases hr
 rename_i hx;obtain⟨t,hok,ht⟩:=hx;cases hr;have hμ:μ=λ_=>none:=by
  funext id
  cases hm:μ id with
  |none=>rfl
  |some m=>have:=hw.dom id m hm;simp at this
 subst hμ;have e2:avR 0 t= .agg [a,b,c,.rsl 0 rows]:=by
  obtain⟨k,n,s,l⟩:=t;rw[Tm.av_mk]at ht;simp only[AV.agg.injEq,List.cons.injEq,AV.sl.injEq,and_true]at ht;obtain⟨rfl,rfl,rfl,rfl⟩:=ht;rfl
 have h:=qvg hok hw (by rw[ht];exact ha);rw[e2]at h;exact h
def OkX[Lent](f:Nat)(s:List AV->AH->Option (AV×AH)):Prop:=∀args H r H',s args H=some (r,H')->∀C μ w vs,qA C μ args vs->Wld C μ H w->vM Tryz.prog (callFunc f vs) w (xe C μ H w r H')
theorem qyp[Lent]{f:Nat}{s:List AV->AH->Option (AV×AH)}{l:List (Nat×(List AV->AH->Option (AV×AH)))}(h:OkX f s)(hl:∀q∈l,OkX q.1 q.2):∀q∈(f,s)::l,OkX q.1 q.2:=λq hq=>by
 rcases qAd.1 hq with rfl|hq
 ·exact h
 ·exact hl q hq
theorem qzG[Lent]:∀q∈([]:List (Nat×(List AV->AH->Option (AV×AH)))),OkX q.1 q.2:=λq hq=>by cases hq
theorem qzM[Lent]:OkX 45 qcQ:=λ_ _ _ _ hr _ _ _ _ ha hw=>qxs hr ha hw
theorem qzA[Lent]:∀q∈xL,OkX q.1 q.2:=by
 unfold xL
 repeat' first|exact qzG|exact qzM|refine qyp ?_ ?_
theorem qeA[Lent]:CfgOk cfg where
 ty:=⟨λt ti h=>BT.all_look qmX h⟩
 mixed:=qh7
 named:=λf fn _ h=>qh6 f fn h
 ext:=λf s h args H r H' hr C μ w vs ha hw=>by
  have h:ext f=some s:=h;unfold ext at h;split at h
  ·rename_i s' hs;cases h;exact qlC (p:=OkX) qzA hs args H r H' hr C μ w vs ha hw
  ·split at h
   ·cases h;exact(qfp Go.Proofs.YtafdkafbgohigaaGreat.qeA).calls _ _ _ _ _ hr C μ w vs _ ha hw rfl
   ·exact Go.Proofs.YtafdkafbgohigaaGreat.qeA.ext f s h args H r H' hr C μ w vs ha hw
theorem qlw{f:FuncId}{args:List AV}{vs:Array Value}{W:World}(hx:cfg.ext f=none)(he:EVs (EV cfg) f args=some (.bool true))(ha:qA (C0 W) M0 args vs):
  Calls Tryz.prog f vs W λe W'=>e= .returned (.bool true)∧(∀b,b<W.heap.size->W'.heap[b]? =W.heap[b]?)∧W.heap.size<=W'.heap.size∧W'.os=W.os∧W'.output=W.output:=by
 unfold EVs at he;obtain⟨q,h1,h2⟩:=qzZ.1 he;have:=qoE qeA hx (r:=q.1) (H':=q.2) h1 ha (wld0 W);refine this.mono λe W' ⟨v,hv,C',μ',p1,p2,p3⟩=>?_
 rw[h2]at p1;cases p1;refine⟨hv,λb hb=>(p3.fr b hb vY).1,p3.size,p3.os,p3.output⟩
theorem qvh{t:Tm}(h:t.Ok):EVg (EV cfg) 45 [t.av]=some t.av:=by
 obtain⟨k,n,s,l⟩:=t;have e:EV cfg (.f 45) [(Tm.mk k n s l).av] []=some (avR 0 (.mk k n s l),[.reg]):=by
  refine qky ?_;unfold xn;have hx:cfg.ext 45=some qcQ:=rfl;simp only[hx];rw[Tm.av_mk];show qcQ [.agg [.int .i64 k,.int .i64 n,.str s,.sl (qb l)]] []=_;exact qAw ⟨_,h,Tm.av_mk k n s l⟩
 unfold EVg;rw[e,Tm.av_mk];rfl
theorem qoZ(hp:yd){l:List InsA}(hlx:∀x∈l,x.t.w<1099511627776)(hll:l.length<=200000){o:Tm}(ho:o.chk=0){self:Int}:∀(d at_ n:Nat) (s:SK),l.length - at_<=d->at_<=l.length->n<=at_->SOk s->s.vals.length<=n->s.left.length<=1+64*n ->
  Gets (qar (qQ l) (n:Int) (at_:Int) 0 0 [] [] o.kind o.num o.str (qb o.subs) self (qb s.left.reverse).length (qb s.vals.reverse).length s.body (qb s.left.reverse) (qb s.vals.reverse) (mB s.binds)) (·=vV (runO opsK l o self at_ n s)):=by
 intro d
 induction d with
 |zero=>
  intro at_ n s hd ha hn hs hv hl;refine qfI _ _ _ _ _ _ _ _ _ _ _ _ _ _ _ _ _ _ ?_;unfold zH15 zH16 zH17 zH18 zH19 zH20 zH12 zH13 zH14 zH2 zH3 zH4 zH11 zH5 zH6 zH7 zH8 zH9 zH10 zH1;rw[q7,qAv (by omega),y5 (List.getElem?_eq_none (by omega))];refine⟨_,rfl,?_⟩;rw[vV,vr]
 |succ d ih=>
  intro at_ n s hd ha hn hs hv hl;refine qfI _ _ _ _ _ _ _ _ _ _ _ _ _ _ _ _ _ _ ?_;unfold zH15 zH16 zH17 zH18 zH19 zH20 zH12 zH13 zH14 zH2 zH3 zH4 zH11 zH5 zH6 zH7 zH8 zH9 zH10 zH1
  by_cases hlt:at_<l.length
  case neg=>
   rw[q7,qAv (by omega),y5 (List.getElem?_eq_none (by omega))];refine⟨_,rfl,?_⟩;rw[vV,vr]
  have g0:l[at_]? =some l[at_]:=qzS hlt;generalize hxe:l[at_]=x at *;have hxw:=hlx x (hxe▸List.getElem_mem hlt);have e1:(qe (0:Int) (at_:Int)&&qu (at_:Int) ((qQ l).length:Int))=true:=by rw[q7];simp;omega
  have e2:qzU (qQ l) (qzV (at_:Int))=some x.row:=by rw[qAk];exact qc3 g0
  have hz:=qsQ hp (o:=o) (self:=self) (s:=s) (x:=x) hxw ho hs (by omega) (by omega);rw[InsA.av,Tm.cells_eq,←qrY _ _ _ rfl rfl]at hz;have wn:qzQ .i64 ((n:Int)+1)=((n+1:Nat):Int):=by rw[qS (by omega) (by omega)];omega
  have wa:qzQ .i64 ((at_:Int)+1)=((at_+1:Nat):Int):=by rw[qS (by omega) (by omega)];omega
  have hnew:=ih;have r7:qzT 7 x.row=x.row:=qAa (by rw[InsA.row_len];exact qz0 _);have hrow:x.row= .int .i64 x.o:: .int .i64 x.a:: .int .i64 x.b::x.t.cells:=rfl;rw[qAu (show(at_:Int)<((qQ l).length:Int) by rw[q7];omega),e1,e2];simp -implicitDefEqProofs only[cond_true,qc,r7,InsA.row_len,show qzP 7 7=true from rfl,show qz8 7 7=true from rfl]
  rw[hrow];cases hdo:vZ opsK o self s x with
  |mk w s'=>
   rw[hdo]at hz;obtain⟨hvl,hll'⟩:=qlQ hs hdo;have hs':=qfj qkS hs hdo;have go:∀(p:Int) (s2:SK),¬p<=(at_:Int)->¬p>((qQ l).length:Int)->SOk s2->s2.vals.length<=n+1->s2.left.length<=1+64*(n+1) ->
     Gets (qar (qQ l) ((n+1:Nat):Int) p 0 0 [] [] o.kind o.num o.str (qb o.subs) self (qb s2.left.reverse).length (qb s2.vals.reverse).length s2.body (qb s2.left.reverse) (qb s2.vals.reverse) (mB s2.binds)) (·=vV (goO opsK l o self at_ p (n+1) s2)):=by
    intro p s2 h1 h2 h3 h4 h5;rw[q7]at h2;have h6:((p.toNat:Nat):Int)=p:=by omega
    have:=ih p.toNat (n+1) s2 (by omega) (by omega) (by omega) h3 h4 h5;rw[h6]at this;unfold goO;rw[qAx (by omega)];exact this
   have bad:∀(p:Int) (s2:SK),p<=(at_:Int)∨p>((qQ l).length:Int)->(AV.tup [AV.agg [AV.int .i64 (0:Int),.int .i64 (0:Int),.str [],.sl []],.bool false,.int .i64 (0:Int),.int .i64 (9:Int)])=vV (goO opsK l o self at_ p (n+1) s2):=by
    intro p s2 h;rw[q7]at h;unfold goO;rw[qAw (by omega),vV,vr]
   have nk:=zW ho;have hA:∀L V es b,EVj (EV cfg) 43 1 [.ptr 0 0 0] (mkS o self L V es b)=some (.tup [],stS o self (newK o)):=λL V es b=>by rw[qrY _ _ _ rfl rfl];exact qsR o self L V es b
   cases w with
   |next=>
    have:=ih (at_+1) (n+1) s' (by omega) (by omega) (by omega) hs' (by omega) (by omega);rw[qb8 g0 hdo];simp -implicitDefEqProofs only[qn,qi,qv,qz4,hz,qc,qp,qo,qI,qF,qy,qz7,cond_true,cond_false,qt,qz,qx,qD,qJ,qC,qg,qG,vS,vR,howI,beqI,qAb,decide_false,wn,wa]
    rw[qAv (by omega),qAv (by rw[q7];omega)];exact this
   |fails=>
    rw[qbn g0 hdo];have hg:=go x.b (newK o);have hb:=bad x.b (newK o);show Gets _ (·=vV (goO opsK l o self at_ x.b (n+1) (newK o)));simp -implicitDefEqProofs only[qn,qi,qv,qz4,hz,qc,qp,qo,qI,qF,qy,qz7,cond_true,cond_false,qt,qz,qx,qD,qJ,qC,qg,qG,vS,vR,howI,beqI,qAb,decide_true,decide_false,wn,wa]
    by_cases h1:x.b<=(at_:Int)
    ·rw[qAu h1];exact⟨_,rfl,hb (.inl h1)⟩
    by_cases h2:x.b>((qQ l).length:Int)
    ·rw[qAv h1,qAu h2];exact⟨_,rfl,hb (.inr h2)⟩
    rw[qAv h1,qAv h2];simp -implicitDefEqProofs only[cond_false,hA,qn,qi,qc,qp,qo,qI,qF,qy,qz7,cond_true,qt,qz,qx,qD,qJ,qC,qg,qG,vS,vR];exact hg h1 h2 nk (by simp) (by simp)
   |jumps=>
    rw[qbm g0 hdo];have hg:=go x.b s';have hb:=bad x.b s';show Gets _ (·=vV (goO opsK l o self at_ x.b (n+1) s'));simp -implicitDefEqProofs only[qn,qi,qv,qz4,hz,qc,qp,qo,qI,qF,qy,qz7,cond_true,cond_false,qt,qz,qx,qD,qJ,qC,qg,qG,vS,vR,howI,beqI,qAb,decide_true,decide_false,wn,wa]
    by_cases h1:x.b<=(at_:Int)
    ·rw[qAu h1];exact⟨_,rfl,hb (.inl h1)⟩
    by_cases h2:x.b>((qQ l).length:Int)
    ·rw[qAv h1,qAu h2];exact⟨_,rfl,hb (.inr h2)⟩
    rw[qAv h1,qAv h2];exact hg h1 h2 hs' (by omega) (by omega)
   |raises=>
    rw[qaJ g0 hdo];have hma:=qpp [69,88,73,84];rw[←qrZ _ rfl rfl]at hma;simp -implicitDefEqProofs only[qn,qi,qv,qz4,hz,qc,qp,qo,qI,qF,qy,qz7,cond_true,cond_false,qt,qz,qx,qD,qJ,qC,qg,qG,vS,vR,howI,beqI,qAb,decide_true,decide_false,wn,wa]
    cases hbd:s'.body with
    |true=>
     simp -implicitDefEqProofs only[cond_true,hma,qc,ve,if_true];refine⟨_,rfl,?_⟩;rw[vV];show AV.tup [.agg [.int .i64 2,.int .i64 0,.str [69,88,73,84],.sl _],_,_,_]=AV.tup [(Tm.mk 2 0 [69,88,73,84] []).av,.bool true,.int .i64 ((n:Int)+1),.int .i64 0];rw[Tm.av_mk,show((n+1:Nat):Int)=(n:Int)+1 by omega];rfl
    |false=>
     simp -implicitDefEqProofs only[cond_false,qz1,if_false];have key:∀p:Int,p=xl at_ x .raises->Gets (bif decide (p<=(at_:Int))then some (AV.tup [AV.agg [AV.int .i64 (0:Int),.int .i64 (0:Int),.str [],.sl []],.bool false,.int .i64 (0:Int),.int .i64 (9:Int)])else bif decide (p>((qQ l).length:Int))then some (AV.tup [AV.agg [AV.int .i64 (0:Int),.int .i64 (0:Int),.str [],.sl []],.bool false,.int .i64 (0:Int),.int .i64 (9:Int)])else qar (qQ l) ((n+1:Nat):Int) p 0 0 [] [] o.kind o.num o.str (qb o.subs) self (qb (newK o).left.reverse).length (qb (newK o).vals.reverse).length (newK o).body (qb (newK o).left.reverse) (qb (newK o).vals.reverse) (mB (newK o).binds)) (·=vV (goO opsK l o self at_ (xl at_ x .raises) (n+1) (newK o))):=by
      rintro p rfl
      by_cases h1:xl at_ x .raises<=(at_:Int)
      ·rw[qAu h1];exact⟨_,rfl,bad _ _ (.inl h1)⟩
      by_cases h2:xl at_ x .raises>((qQ l).length:Int)
      ·rw[qAv h1,qAu h2];exact⟨_,rfl,bad _ _ (.inr h2)⟩
      rw[qAv h1,qAv h2];exact go _ _ h1 h2 nk (by simp) (by simp)
     have pl:xl at_ x .raises=if x.o=15∨x.o=16 then x.a else x.b:=rfl
     by_cases h15:x.o=15
     ·have:=key x.a (by rw[pl,qAw (.inl h15)]);simp -implicitDefEqProofs only[h15,decide_true,cond_true,hA,qn,qi,qc,qp,qo,qI,qF,qy,qz7,qt,qz,qx,qD,qJ,qC,qg,qG,vS,vR];exact this
     by_cases h16:x.o=16
     ·have:=key x.a (by rw[pl,qAw (.inr h16)]);simp -implicitDefEqProofs only[h16,qAb,decide_true,decide_false,cond_true,cond_false,hA,qn,qi,qc,qp,qo,qI,qF,qy,qz7,qt,qz,qx,qD,qJ,qC,qg,qG,vS,vR];exact this
     have:=key x.b (by rw[pl,qAx (by omega)]);simp -implicitDefEqProofs only[h15,h16,decide_false,cond_false,hA,qn,qi,qc,qp,qo,qI,qF,qy,qz7,cond_true,qt,qz,qx,qD,qJ,qC,qg,qG,vS,vR];exact this
   |tells=>
    rw[qbl g0 hdo];obtain⟨t,r,hv'⟩:=qd9 hdo;have htc:=hs'.vals t (by rw[hv'];simp);have hcp:=qvh (t:=t) (qax _ (by have:=xO htc;omega));have hrs:qb s'.vals.reverse=qb r.reverse++[t.cells]:=by rw[hv',yw]
    have hrl:(qb r.reverse).length+1<=200002:=by
     rw[hv']at hvl;simp at hvl⊢;omega
    simp -implicitDefEqProofs only[qn,qi,qv,qz4,hz,qc,qp,qo,qI,qF,qy,qz7,cond_true,cond_false,qt,qz,qx,qD,qJ,qC,qg,qG,vS,vR,howI,beqI,qAb,decide_true,decide_false,wn,wa];rw[hrs];generalize qb r.reverse=R at *;have e1:qzQ .i64 ((((R++[t.cells]).length:Nat):Int) - 1)=(R.length:Int):=by
     rw[qAc];exact qa8 (by omega)
    have e2:(qe (0:Int) (R.length:Int)&&qu (R.length:Int) (((R++[t.cells]).length:Nat):Int))=true:=by simp
    have ht4:qzT 4 t.cells=t.cells:=by rw[Tm.cells_eq];rfl
    have hl4:qz8 4 t.cells.length=true:=by rw[Tm.cells_eq];rfl
    rw[e1,e2,qa6];simp -implicitDefEqProofs only[cond_true,qc,hl4,ht4,qv,qK,hcp,ve];refine⟨_,rfl,?_⟩;rw[vV,hv'];show _=AV.tup [_,_,.int .i64 ((n:Int)+1),_];rw[show((n+1:Nat):Int)=(n:Int)+1 by omega];rfl
   |broken=>
    rw[qaK g0 hdo];simp -implicitDefEqProofs only[qn,qi,qv,qz4,hz,qc,qp,qo,qI,qF,qy,qz7,cond_true,cond_false,qt,qz,qx,qD,qJ,qC,qg,qG,vS,vR,howI,beqI,qAb,decide_true,decide_false];exact⟨_,rfl,by rw[vV,vr]⟩
theorem qsK(hp:yd){l:List InsA}(hlx:∀x∈l,x.t.w<1099511627776)(hll:l.length<=200000){o:Tm}(how:o.w<1099511627776)(self:Int):
  EVg (EV cfg) 12 [.sl (qQ l),o.av,.int .i64 self]=some (vV (runC opsK l o self)):=by
 have hm:=qc1 how;have hz:(AV.tup [AV.agg [AV.int .i64 (0:Int),.int .i64 (0:Int),.str [],.sl []],.bool false,.int .i64 (0:Int),.int .i64 (2:Int)])=vV (vh,false,0,2):=by rw[vV,vr]
 apply Gets.get;rw[←qj6 _ rfl rfl]at hm;rw[Tm.av,Tm.cells_eq]at hm⊢;refine qqQ _ _ _ _ _ _ ?_;unfold zH0;unfold runC qau;rw[hm];simp -implicitDefEqProofs only[qc,qg,bneD]
 by_cases h7:o.kind=7
 case neg=>
  rw[qAv h7,qAx (λh=>h7 h.1)];exact⟨_,rfl,hz⟩
 rw[qAu h7]
 by_cases hc:o.chk=0
 case neg=>
  rw[qAv hc,qAx (λh=>hc h.2.1)];exact⟨_,rfl,hz⟩
 rw[qAu hc]
 by_cases h1:self<1
 ·rw[qAu h1,qAx (by rintro⟨_,_,h⟩;simp at h;omega)];exact⟨_,rfl,hz⟩
 rw[qAv h1]
 by_cases h2:self>1073741824
 ·rw[qAu h2,qAx (by rintro⟨_,_,h⟩;simp at h;omega)];exact⟨_,rfl,hz⟩
 rw[qAv h2,qAw ⟨h7,hc,by simp;omega⟩];have hl:=qoZ hp hlx hll hc (self:=self) l.length 0 0 (newK o) (by omega) (by omega) (by omega) (zW hc) (by simp) (by simp);have hA:=qqZ o self;rw[←qrY _ _ _ rfl rfl]at hA;simp -implicitDefEqProofs only[qAj,cond_false,hA,qn,qi,qc,qp,qo,qI,qF,qy,qz7,cond_true,qt,qz,qx,qD,qJ,qC,qg,qG,vS,vR]
 exact hl
end Go.Proofs.YtafdkafbgohigaaGreat.R
end
noncomputable section
namespace Go.Proofs.YtafdkafbgohigaaGreat
open Go.Av
def qxF:Den:=evC cfg (EV cfg) 10 none 0 (sub (ql Tryz.f10) [1,1,0,1,0,0])
def qxO:Ex×List AV×AH->Option AV:=kAft (Cfg.keepOut cfg 10 3) (kRun cfg (EV cfg) (kfN cfg 6) 10 none 0 (qcF cfg (Cfg.lift cfg 10 0) Tryz.f10.results.toList) ([.block 0,.seq (sub (ql Tryz.f10) [1,1,1])]))
def qxy:List AV×AH->Option AV:=λp=>kOpt (LOOP 0 (some [0,3,4]) ([(3,7)]) qxF p) qxO
abbrev qgJ(L:Rz)(nv3:Nat)(v4:Int)(h0:Rz):Option (AV):=qxy (((fx 25 [(0,.sl L),(3,.ms 0 0 nv3),(4,.int .i64 v4)]):List AV),([.rows true 7 h0]:AH))
theorem qnH(L:Rz){P:AV->Prop}(h:Gets (qgJ L 0 0 []) P):Gets (EVf (EV cfg) 10 [.sl L]) P:=
  gE (λ_=>funF rfl rfl Tryz.func10 rfl) (by kernel_rfl) h
theorem qfJ(L:Rz)(nv3:Nat)(v4:Int)(h0:Rz){P:AV->Prop}(h:Gets (bif decide (v4<(L.length:Int))then bif qe 0 v4&&qu v4 (L.length:Int)then kOpt (qzU L (v4.toNat)) λrow=>bif qzP (qzO row) 7 then bif qz8 7 (qzO row)then qa (qzT 7 row) λc cs=>kInt .i64 c λn=>qa cs λc cs=>kInt .i64 c λn_1=>qa cs λc cs=>kInt .i64 c λn_2=>kTmC cs λn_3 n_4 s rows=>(kOpt (EVf (EV cfg) 11 [.agg [.int .i64 n_3,.int .i64 n_4,.str s,.sl rows]]) λv=>kTmV v λn_5 n_6 s rows=>(bif qz8 (0+nv3) (qzO h0)&&qX (nv3+1) 80 then qgJ L (nv3+1) (qzQ .i64 (v4+1)) (qAi (qzT nv3 h0) [[AV.int .i64 n,.int .i64 n_1,.int .i64 n_2,.int .i64 n_5,.int .i64 n_6,.str s,.sl rows]])else none))else none else none else none else bif qz8 (0+nv3) (qzO h0)&&true then some (.sl (qzT nv3 h0))else none) P):Gets (qgJ L nv3 v4 h0) P:=
  gE (λ_=>qM (cfg:=cfg) (f:=10) (rd:=none) (bs:=0)) (by kernel_rfl) h
end Go.Proofs.YtafdkafbgohigaaGreat
end
noncomputable section
namespace Go.Proofs.YtafdkafbgohigaaGreat.R
open Go.Av
def qxI:Den:=evC cfg (EV cfg) 15 none 1 (sub (ql Tryz.f15) [1,1,0,0])
def qxR:Ex×List AV×AH->Option Unit:=kAft (Cfg.keepOut cfg 15 2) (kRun cfg (EV cfg) (kfN cfg 6) 15 none 1 (qwQ cfg (Cfg.lift cfg 15 0) Tryz.f15.results.toList) ([.block 0]))
def qqr:List AV×AH->Option Unit:=λp=>kOpt (LOOP 1 (some [1,2]) ([]) qxI p) qxR
abbrev qgL(l:Rz)(v2 c1_0 c1_1:Int)(c1_2:Bz):Option (Unit):=qqr (((fx 21 [(1,.ptr 1 0 0),(2,.int .i64 v2)]):List AV),([.spl,.rows false 4 [[.int .i64 c1_0,.int .i64 c1_1,.str c1_2,.rsl 0 l]]]:AH))
abbrev qmW(v2 c1_0 c1_1:Int)(c1_2:Bz)(c1_3:Rz):Option (Unit):=qqr (((fx 21 [(1,.ptr 1 0 0),(2,.int .i64 v2)]):List AV),([.spl,.rows false 4 [[.int .i64 c1_0,.int .i64 c1_1,.str c1_2,.sl c1_3]]]:AH))
theorem qtb(k n:Int)(s:Bz)(l:Rz){P:Unit->Prop}(h:Gets (qgL l 0 k n s) P):Gets (EVz (EV cfg) 15 (AV.agg [AV.int qAn k,AV.int qAn n,AV.str s,AV.rsl (0:Nat) l])) P:=
  gE (λ_=>funZ rfl rfl Tryz.func15 rfl) (by kernel_rfl) h
theorem qtc(k n:Int)(s:Bz){P:Unit->Prop}(h:Gets (qmW 0 k n s []) P):Gets (EVz (EV cfg) 15 (AV.agg [AV.int qAn k,AV.int qAn n,AV.str s,AV.sl []])) P:=
  gE (λ_=>funZ rfl rfl Tryz.func15 rfl) (by kernel_rfl) h
theorem qfM(l:Rz)(v2 c1_0 c1_1:Int)(c1_2:Bz){P:Unit->Prop}(h:Gets (bif decide (v2<(l.length:Int))then bif qe 0 v2&&qu v2 (l.length:Int)then kOpt (qzU l (v2.toNat)) λrow=>bif qzP (qzO row) 4 then kTmC (qzT 4 row) λn n_1 s rows=>(kOpt (EVz (EV cfg) 15 (.agg [.int .i64 n,.int .i64 n_1,.str s,AV.rsl 0 rows])) λx=>kOpt (EVz (EV cfg) 15 (.agg [.int .i64 77,.int .i64 0,.str [],.sl []])) λx=>kOpt (EVz (EV cfg) 15 (.agg [.int .i64 0,.int .i64 0,.str [],.sl []])) λx=>bif qe 0 v2&&qu v2 (l.length:Int)then kOpt (qzU l (v2.toNat)) λrow=>bif qzP (qzO row) 4 then bif qat (qzT 4 row)&&true then qgL l (qzQ .i64 (v2+1)) c1_0 c1_1 c1_2 else none else none else none)else none else none else some PUnit.unit) P):Gets (qgL l v2 c1_0 c1_1 c1_2) P:=
  gE (λ_=>qM (cfg:=cfg) (f:=15) (rd:=none) (bs:=1)) (by kernel_rfl) h
theorem qlX(v2 c1_0 c1_1:Int)(c1_2:Bz)(c1_3:Rz){P:Unit->Prop}(h:Gets (bif decide (v2<(c1_3.length:Int))then bif qe 0 v2&&qu v2 (c1_3.length:Int)then kOpt (qzU c1_3 (v2.toNat)) λrow=>bif qzP (qzO row) 4 then bif qz8 4 (qzO row)then kTmC (qzT 4 row) λn n s rows=>none else none else none else none else some PUnit.unit) P):Gets (qmW v2 c1_0 c1_1 c1_2 c1_3) P:=
  gE (λ_=>qM (cfg:=cfg) (f:=15) (rd:=none) (bs:=1)) (by kernel_rfl) h
end Go.Proofs.YtafdkafbgohigaaGreat.R
end
noncomputable section
namespace Go.Av
theorem ql0(t:Tm):qat t.cells=true:=by obtain⟨k,n,s,l⟩:=t;rw[Tm.cells_mk];rfl
end Go.Av
namespace Go.Proofs.YtafdkafbgohigaaGreat.R
open Go.Av
theorem quK(k n:Int)(s:List UInt8):EVz (EV cfg) 15 (.agg [.int .i64 k,.int .i64 n,.str s,.sl []])=some ():=by
 apply Gets.get;refine qtc k n s ?_;refine qlX _ _ _ _ _ ?_;exact⟨_,rfl,rfl⟩
theorem quJ(t:Tm):t.Ok->EVz (EV cfg) 15 (avR 0 t)=some ():=by
 induction t using Tm.ind with
 |_ k n s l ih=>
  intro hok;have hlen:=hok.len;have loop:∀(d i:Nat),i+d=l.length->Gets (qgL (qb l) i k n s) (·=()):=by
   intro d
   induction d with
   |zero=>
    intro i hi;refine qfM _ _ _ _ _ ?_;rw[qj,qAv (by omega)];exact⟨_,rfl,rfl⟩
   |succ d ihd=>
    intro i hi;refine qfM _ _ _ _ _ ?_;have hil:i<l.length:=by omega
    have hx:l[i]? =some l[i]:=qzS hil;have h1:=ih l[i] (qz5 hx) (hok.sub (qz5 hx));unfold avR at h1;have h:=ihd (i+1) (by omega);rw[qj,qAu (show(i:Int)<(l.length:Int) by omega),vX,xg,qAu hil,xG hx,vJ hil hlen];simp only[cond_true,qz7,qV,qAq,vn,qv,h1,quK,qc,xG hx,ql0,Bool.and_true]
    exact h.mono λ_ _=>trivial
  apply Gets.get;unfold avR;exact qtb k n s (qb l) (loop l.length 0 (by omega))
theorem qtd{t:Tm}(h:t.Ok):EVz (EV cfg) 15 (.agg [.int .i64 t.kind,.int .i64 t.num,.str t.str,.rsl 0 (qb t.subs)])=some ():=quJ t h
end Go.Proofs.YtafdkafbgohigaaGreat.R
end
noncomputable section
namespace Go.Proofs.YtafdkafbgohigaaGreat
open Go.Av
def qxH:Den:=evC cfg (EV cfg) 16 none 0 (sub (ql Tryz.f16) [1,1,0,1,0,0])
def qxQ:Ex×List AV×AH->Option AV:=kAft (Cfg.keepOut cfg 16 4) (kRun cfg (EV cfg) (kfN cfg 6) 16 none 0 (yx cfg (Cfg.lift cfg 16 0) Tryz.f16.results.toList) ([.block 0,.seq (sub (ql Tryz.f16) [1,1,1])]))
def qxA:List AV×AH->Option AV:=λp=>kOpt (LOOP 0 (some [0,1,5]) ([]) qxH p) qxQ
def qy9:Den:=evC cfg (EV cfg) 8 none 0 (sub (ql Tryz.f8) [1,0,1,0,0])
def qzx:Ex×List AV×AH->Option AV:=kAft (Cfg.keepOut cfg 8 2) (kRun cfg (EV cfg) (kfN cfg 6) 8 none 0 (yx cfg (Cfg.lift cfg 8 0) Tryz.f8.results.toList) ([.block 0,.seq (sub (ql Tryz.f8) [1,1])]))
def qyO:List AV×AH->Option AV:=λp=>kOpt (LOOP 0 (some [0,3]) ([]) qy9 p) qzx
abbrev qgK(l m:Rz)(v5:Int):Option (AV):=qxA (((fx 68 [(0,.sl l),(1,.sl m),(5,.int .i64 v5)]):List AV),([]:AH))
abbrev qiP(l:Rz)(v3:Int):Option (AV):=qyO (((fx 15 [(0,.sl l),(3,.int .i64 v3)]):List AV),([]:AH))
theorem qsT(l m:Rz){P:AV->Prop}(h:Gets (bif(l.length:Int) != (m.length:Int)then some (.bool false)else qgK l m 0) P):Gets (EVs (EV cfg) 16 [.sl l,.sl m]) P:=
  gE (λ_=>funS rfl rfl Tryz.func16 rfl) (by kernel_rfl) h
theorem qpv(l:Rz){P:AV->Prop}(h:Gets (qiP l 0) P):Gets (EVs (EV cfg) 8 [.sl l]) P:=
  gE (λ_=>funS rfl rfl Tryz.func8 rfl) (by kernel_rfl) h
theorem qfL(l m:Rz)(v5:Int){P:AV->Prop}(h:Gets (bif decide (v5<(l.length:Int))then bif qe 0 v5&&qu v5 (l.length:Int)then kOpt (qzU l (v5.toNat)) λrow=>bif qzP (qzO row) 7 then kOpt (qzU row 0) λv=>kInt .i64 v λn=>bif qe 0 v5&&qu v5 (m.length:Int)then kOpt (qzU m (v5.toNat)) λrow=>bif qzP (qzO row) 7 then kOpt (qzU row 0) λv=>kInt .i64 v λn_1=>bif n != n_1 then some (.bool false)else bif qe 0 v5&&qu v5 (l.length:Int)then kOpt (qzU l (v5.toNat)) λrow=>bif qzP (qzO row) 7 then kOpt (qzU row 1) λv=>kInt .i64 v λn=>bif qe 0 v5&&qu v5 (m.length:Int)then kOpt (qzU m (v5.toNat)) λrow=>bif qzP (qzO row) 7 then kOpt (qzU row 1) λv=>kInt .i64 v λn_2=>bif n != n_2 then some (.bool false)else bif qe 0 v5&&qu v5 (l.length:Int)then kOpt (qzU l (v5.toNat)) λrow=>bif qzP (qzO row) 7 then kOpt (qzU row 2) λv=>kInt .i64 v λn=>bif qe 0 v5&&qu v5 (m.length:Int)then kOpt (qzU m (v5.toNat)) λrow=>bif qzP (qzO row) 7 then kOpt (qzU row 2) λv=>kInt .i64 v λn_3=>bif n != n_3 then some (.bool false)else bif qe 0 v5&&qu v5 (l.length:Int)then kOpt (qzU l (v5.toNat)) λrow=>bif qzP (qzO row) 7 then bif qz8 7 (qzO row)then qa (qzT 4 (List.drop 3 row)) λc cs=>kInt .i64 c λn=>qa cs λc cs=>kInt .i64 c λn_4=>qa cs λc cs=>kStr c λs=>qa cs λc cs=>kSl c λrows=>kNil cs (bif qe 0 v5&&qu v5 (↑ (qzO m):Int)then kOpt (qzU m (v5.toNat)) λrow=>bif qzP (qzO row) 7 then bif qz8 7 (qzO row)then qa (qzT 4 (List.drop 3 row)) λc cs=>kInt .i64 c λn_5=>qa cs λc cs=>kInt .i64 c λn_6=>qa cs λc cs=>kStr c λs_1=>qa cs λc cs=>kSl c λrows_1=>kNil cs (kOpt (EVs (EV cfg) 14 [AV.agg [.int .i64 n,.int .i64 n_4,.str s,.sl rows],AV.agg [.int .i64 n_5,.int .i64 n_6,.str s_1,.sl rows_1]]) λv=>qq v λb=>bif ! b then some (.bool false)else qgK l m (qzQ .i64 (v5+1)))else none else none else none)else none else none else none else none else none else none else none else none else none else none else none else none else none else none else none else some (.bool true)) P):Gets (qgK l m v5) P:=
  gE (λ_=>qM (cfg:=cfg) (f:=16) (rd:=none) (bs:=0)) (by kernel_rfl) h
theorem qhu(l:Rz)(v3:Int){P:AV->Prop}(h:Gets (bif decide (v3<(l.length:Int))then bif qe 0 v3&&qu v3 (l.length:Int)then kOpt (qzU l (v3.toNat)) λrow=>bif qzP (qzO row) 4 then bif qz8 4 (qzO row)then kTmC (qzT 4 row) λn n_1 s rows=>(kOpt (EVs (EV cfg) 9 [.agg [.int .i64 n,.int .i64 n_1,.str s,.sl rows],.int .i64 400]) λv=>qq v λb=>bif b then some (.bool true)else qiP l (qzQ .i64 (v3+1)))else none else none else none else some (.bool false)) P):Gets (qiP l v3) P:=
  gE (λ_=>qM (cfg:=cfg) (f:=8) (rd:=none) (bs:=0)) (by kernel_rfl) h
theorem InsA.row_t(x:InsA):qzT 4 (List.drop 3 x.row)=[.int .i64 x.t.kind,.int .i64 x.t.num,.str x.t.str,.sl (qb x.t.subs)]:=by
 rw[InsA.row,Tm.cells_eq];rfl
structure ClX (c:Cl):Prop where
 gs:∀t∈c.gs,qkw t
 bs:∀t∈c.bs,qkw t
theorem qop:EVf (EV cfg) 190 [.agg [.int .i64 7,.int .i64 0,.str [],.sl [[.int .i64 2,.int .i64 0,.str [36,49],.sl []],[.int .i64 2,.int .i64 0,.str [97],.sl []]]]]=some (.sl [[.int .i64 1]]):=qmJ (.nil) 1000 1000 (by kernel_rfl)
theorem qoo:EVf (EV cfg) 56 [.agg [.int .i64 9,.int .i64 0,.str [],.sl [[.int .i64 7,.int .i64 0,.str [],.sl [[.int .i64 7,.int .i64 0,.str [],.sl [[.int .i64 2,.int .i64 0,.str [36,49],.sl []],[.int .i64 2,.int .i64 0,.str [97],.sl []]]],[.int .i64 8,.int .i64 0,.str [],.sl []],[.int .i64 9,.int .i64 0,.str [],.sl [[.int .i64 2,.int .i64 0,.str [36,49],.sl []],[.int .i64 8,.int .i64 0,.str [],.sl []]]]]],[.int .i64 8,.int .i64 0,.str [],.sl []]]]]=some (.tup [.sl [[.int .i64 7,.int .i64 0,.str [],.sl [[.int .i64 2,.int .i64 0,.str [36,49],.sl []],[.int .i64 2,.int .i64 0,.str [97],.sl []]],.sl [],.sl [[.int .i64 2,.int .i64 0,.str [36,49],.sl []]]]],.int .i64 0]):=qmJ (.consF qop (.nil)) 1000 1000 (by kernel_rfl)
theorem qon:EVf (EV cfg) 19 [.agg [.int .i64 9,.int .i64 0,.str [],.sl [[.int .i64 7,.int .i64 0,.str [],.sl [[.int .i64 7,.int .i64 0,.str [],.sl [[.int .i64 2,.int .i64 0,.str [36,49],.sl []],[.int .i64 2,.int .i64 0,.str [97],.sl []]]],[.int .i64 8,.int .i64 0,.str [],.sl []],[.int .i64 9,.int .i64 0,.str [],.sl [[.int .i64 2,.int .i64 0,.str [36,49],.sl []],[.int .i64 8,.int .i64 0,.str [],.sl []]]]]],[.int .i64 8,.int .i64 0,.str [],.sl []]]]]=some (.tup [.sl [[.int .i64 1,.int .i64 2,.int .i64 6,.int .i64 0,.int .i64 0,.str [],.sl []],[.int .i64 3,.int .i64 1,.int .i64 0,.int .i64 0,.int .i64 0,.str [],.sl []],[.int .i64 6,.int .i64 0,.int .i64 6,.int .i64 2,.int .i64 0,.str [97],.sl []],[.int .i64 18,.int .i64 0,.int .i64 0,.int .i64 0,.int .i64 0,.str [],.sl []],[.int .i64 8,.int .i64 1,.int .i64 0,.int .i64 0,.int .i64 0,.str [],.sl []],[.int .i64 20,.int .i64 0,.int .i64 0,.int .i64 0,.int .i64 0,.str [],.sl []]],.int .i64 0]):=qmJ (.consF qoo (.nil)) 1000 1000 (by kernel_rfl)
theorem qom:EVf (EV cfg) 12 [.sl [[.int .i64 1,.int .i64 2,.int .i64 6,.int .i64 0,.int .i64 0,.str [],.sl []],[.int .i64 3,.int .i64 1,.int .i64 0,.int .i64 0,.int .i64 0,.str [],.sl []],[.int .i64 6,.int .i64 0,.int .i64 6,.int .i64 2,.int .i64 0,.str [97],.sl []],[.int .i64 18,.int .i64 0,.int .i64 0,.int .i64 0,.int .i64 0,.str [],.sl []],[.int .i64 8,.int .i64 1,.int .i64 0,.int .i64 0,.int .i64 0,.str [],.sl []],[.int .i64 20,.int .i64 0,.int .i64 0,.int .i64 0,.int .i64 0,.str [],.sl []]],.agg [.int .i64 7,.int .i64 0,.str [],.sl [[.int .i64 2,.int .i64 0,.str [107],.sl []],[.int .i64 2,.int .i64 0,.str [97],.sl []]]],.int .i64 1]=some (.tup [.agg [.int .i64 2,.int .i64 0,.str [107],.sl []],.bool true,.int .i64 6,.int .i64 0]):=qmJ (.nil) 1000 1000 (by kernel_rfl)
theorem qoq:EVs (EV cfg) 17 []=some (.bool true):=qzK (.consF qon (.consF qom (.nil))) 1000 1000 (by kernel_rfl)
def JB(v:AV):Prop:=∃b:Bool,v= .bool b
theorem qrt{l:List Tm}(hl:OkL l)(hlen:l.length<1099511627776):Gets (EVs (EV cfg) 8 [.sl (qb l)]) JB:=by
 have loop:∀(d i:Nat),i+d=l.length->Gets (qiP (qb l) i) JB:=by
  intro d
  induction d with
  |zero=>
   intro i hi;refine qhu _ _ ?_;rw[qj,qAv (by omega)];exact⟨_,rfl,_,rfl⟩
  |succ d ihd=>
   intro i hi;refine qhu _ _ ?_;have hil:i<l.length:=by omega
   have hxi:l[i]? =some l[i]:=qzS hil;have hb:=qqq (hl.get (qz5 hxi)) (most:=400) (by omega) (by omega);rw[vJ hil hlen];simp[hil];refine Gets.bind hb ?_;rintro _ ⟨b,rfl,hbw⟩;cases b with
   |true=>exact⟨_,rfl,_,rfl⟩
   |false=>
    have hg:=ihd (i+1) (by omega)
    simpa using hg
 exact qpv _ (loop l.length 0 (by omega))
theorem row1(p:Tm):([[AV.int .i64 p.kind,.int .i64 p.num,.str p.str,.sl (qb p.subs)]]:List (List AV))=qb [p]:=by
 rw[q4,q6,Tm.cells_eq]
theorem quD{l:List InsA}(hx:∀x∈l,x.t.Ok)(hl:l.length<1099511627776):EVs (EV cfg) 16 [.sl (qQ l),.sl (qQ l)]=some (.bool true):=by
 apply Gets.get;refine qsT _ _ ?_;have loop:∀(k i:Nat),l.length - i=k->i<=l.length->Gets (qgK (qQ l) (qQ l) (i:Int)) (·= .bool true):=by
  intro k
  induction k with
  |zero=>
   intro i hk hi;refine qfL _ _ _ ?_;rw[qAv (show ¬((i:Int)<((qQ l).length:Int)) by rw[q7];omega),cond_false];exact⟨_,rfl,rfl⟩
  |succ k ih=>
   intro i hk hi;have hil:i<l.length:=by omega
   have g0:l[i]? =some l[i]:=qzS hil;refine qfL _ _ _ ?_;have e0:decide ((i:Int)<((qQ l).length:Int))=true:=qAu (by rw[q7];omega);have e1:(qe 0 (i:Int)&&qu (i:Int) ((qQ l).length:Int))=true:=by rw[q7];simp;omega
   have e2:qzU (qQ l) (qzV (i:Int))=some (l[i]).row:=by rw[qAk];exact qc3 g0
   have r0:qzU (l[i]).row 0=some (.int .i64 (l[i]).o):=rfl;have r1:qzU (l[i]).row 1=some (.int .i64 (l[i]).a):=rfl;have r2:qzU (l[i]).row 2=some (.int .i64 (l[i]).b):=rfl;have hs:=qfR (hx l[i] (List.getElem_mem hil)) (b:=(l[i]).t) (c:=true) (by simp);simp only[e0,e1,e2,r0,r1,r2,qc,cond_true,cond_false,InsA.row_len,show qzP 7 7=true from rfl,show qz8 7 7=true from rfl,InsA.row_t,qn,qi,qD,qJ,qC,qK,hs,bne_self_eq_false,qg,qAj]
   rw[vJ hil hl];exact ih (i+1) (by omega) (by omega)
 have hb:(((qQ l).length:Int) != ((qQ l).length:Int))=false:=by simp
 have h0:=loop l.length 0 (by omega) (by omega)
 simpa [hb]using h0
def Has(L:List InsA)(q:Nat)(c:List InsA):Prop:=∀i x,c[i]? =some x->L[q+i]? =some x
theorem Has.cons{L:List InsA}{q:Nat}{x:InsA}{c:List InsA}(h:Has L q (x::c)):L[q]? =some x∧Has L (q+1) c:=by
 refine⟨h 0 x rfl,λi y hi=>?_⟩;have:=h (i+1) y (by simpa using hi);rw[show q+1+i=q+(i+1) by omega];exact this
theorem Has.le{L:List InsA}{q:Nat}{c:List InsA}(h:Has L q c)(hc:c≠[]):q+c.length<=L.length:=by
 have h0:0<c.length:=List.length_pos_iff.2 hc;have:=h (c.length - 1) c[c.length - 1] (qzS (by omega));have:=(qzW.1 this).1;omega
abbrev RT:=Tm×Bool×Int×Int
structure Md (L:List InsA) (o:Tm) (pid:Int) (φ:InsA->InsA) (body:Bool) (R:Nat->RT) (hi:Nat):Prop where
 ho:∀x,(φ x).o=x.o
 ht:∀x,(φ x).t=x.t
 ha:∀x,x.o≠15->x.o≠16->(φ x).a=x.a
 hb:∀x,x.o=15∨x.o=16->(φ x).b=x.b
 raise:∀(q:Nat) (x:InsA) (n:Nat) (s s':SK),q<hi->x.o∈([10,11,12,13,15,16,17]:List Int)->L[q]? =some (φ x)->s'.body=body->vZ opsK o pid s (φ x)=(.raises,s')->runO opsK L o pid q n s=R (n+1)
structure EnvS (e:Env) (s:SK):Prop where
 look:∀n,qR n s.binds=qR n e.binds
 all:allB s.binds=e.binds.map (·.2)
noncomputable section
variable {L : List InsA} {o : Tm} {self : Int} {φ : InsA → InsA} {body : Bool} {R : Nat → RT} {hi : Nat}
end
theorem qoj{l:List Tm}(hlen:l.length<1099511627776)(ih:∀x∈l,EVf (EV cfg) 11 [x.av]=some x.av):
  EVo (EV cfg) 41 [.sl (qb l)]=some (OV.own 4 (qb l) 0 l.length):=by
 have loop:∀d i:Nat,i+d=l.length->Gets (qiF (qb l) i i (qb (l.take i))) (·=OV.own 4 (qb l) 0 l.length):=by
  intro d
  induction d with
  |zero=>
   intro i hi;refine qhn _ _ _ _ ?_;obtain rfl:i=l.length:=by omega
   rw[qj,qAv (by omega),qz4];exact⟨_,rfl,rfl⟩
  |succ d ihd=>
   intro i hi;have hil:i<l.length:=by omega
   refine qhn _ _ _ _ ?_;have hx:l[i]? =some l[i]:=qzS hil;have h1:=ih l[i] (qz5 hx);have h2:=ihd (i+1) (by omega);have e1:l.take (i+1)=l.take i++[l[i]]:=by rw[List.take_add_one,hx];rfl
   have ht:(qb (l.take i)).length=i:=by rw[qj,List.length_take];omega
   have e2:qAi (qzT i (qb (l.take i))) [l[i].cells]=qb (l.take (i+1)):=by
    rw[qAa (by omega),e1,vO,q4,q6];rfl
   have e3:qz8 (0+i) (qb (l.take i)).length=true:=by rw[ht,Nat.ble_eq];omega
   rw[qj,qAu (show(i:Int)<(l.length:Int) by omega),vX,xg,qAu hil,xG hx,vJ hil hlen,e3,yv (by omega)];simp only[cond_true,qz7,qV,qAq,vn,qv,show qz8 4 4=true from rfl,qK,h1,qc,ve];rw[←Tm.cells_eq,e2];exact h2
 apply Gets.get;exact qdr _ (by simpa [q6]using loop l.length 0 (by omega))
theorem qhQ(t:Tm):t.w<1099511627776->EVf (EV cfg) 11 [t.av]=some t.av:=by
 induction t using Tm.ind with
 |_ k n s l ih=>
  intro hw;rw[Tm.w_mk]at hw;have hlen:=zg l;have h:=qoj (l:=l) (by omega) λx hx=>ih x hx (by have:=qb6 hx;omega)
  apply Gets.get;rw[Tm.av_mk];refine qdV _ _ _ _ ?_;rw[h];have e:(qz8 (0+l.length) (qb l).length&&true)=true:=by rw[Bool.and_true,Nat.ble_eq,qj];omega
  have e2:qzT l.length (List.drop 0 (qb l))=qb l:=qAa (by simp);show Gets (bif(qz8 (0+l.length) (qb l).length&&true)then some (AV.agg [.int .i64 k,.int .i64 n,.str s,.sl (qzT l.length (List.drop 0 (qb l)))])else none) _;rw[e,e2];exact⟨_,rfl,rfl⟩
end Go.Proofs.YtafdkafbgohigaaGreat
end
noncomputable section
namespace Go.Av
theorem qwZ:vh.w<1099511627776:=by unfold vh;rw[Tm.w_mk];simp
theorem qxr:qmL.w<1099511627776:=by unfold qmL symT;rw[Tm.w_mk];simp
end Go.Av
end
noncomputable section
namespace Go.Proofs.YtafdkafbgohigaaGreat
open Go.Av
theorem qpu{l:List InsA}(hx:∀x∈l,x.t.w<1099511627776)(hl:l.length<1000000000):EVf (EV cfg) 10 [.sl (qQ l)]=some (.sl (qQ l)):=by
 have loop:∀(rest pre:List InsA),l=pre++rest->Gets (qgJ (qQ l) pre.length (pre.length:Int) (qQ pre)) (·= .sl (qQ l)):=by
  intro rest
  induction rest with
  |nil=>
   intro pre h;refine qfJ _ _ _ _ ?_;rw[List.append_nil]at h;subst h;rw[q7,qAv (by omega),nble,qAu (show 0+l.length<=l.length by omega),qAa (show(qQ l).length<=l.length by rw[q7];exact qz0 _)];exact⟨_,rfl,rfl⟩
  |cons x rest ih=>
   intro pre h;refine qfJ _ _ _ _ ?_;have hpl:l.length=pre.length+(rest.length+1):=by rw[h];simp
   have g0:l[pre.length]? =some x:=by rw[h,qz2 (qz0 _),Nat.sub_self];rfl
   have hc:=qhQ x.t (hx x (qz5 g0));have e1:(qe (0:Int) (pre.length:Int)&&qu (pre.length:Int) ((qQ l).length:Int))=true:=by rw[q7];simp;omega
   have e2:qzU (qQ l) (qzV (pre.length:Int))=some x.row:=by rw[qAk];exact qc3 g0
   have r7:qzT 7 x.row=x.row:=qAa (by rw[InsA.row_len];exact qz0 _);have hrow:x.row= .int .i64 x.o:: .int .i64 x.a:: .int .i64 x.b::x.t.cells:=rfl;have w1:qzQ .i64 ((pre.length:Int)+1)=(((pre++[x]).length:Nat):Int):=by rw[qS (by omega) (by omega)];simp
   have e3:(qz8 (0+pre.length) (qQ pre).length&&qX (pre.length+1) 80)=true:=by rw[q7,qyh (by omega),nble,qAu (by omega)];rfl
   have h1:=ih (pre++[x]) (by rw[h];simp);have e4:qzT pre.length (qQ pre)=qQ pre:=qAa (by rw[q7];exact qz0 _);have e5:qAi (qQ pre) [[AV.int .i64 x.o,.int .i64 x.a,.int .i64 x.b,.int .i64 x.t.kind,.int .i64 x.t.num,.str x.t.str,.sl (qb x.t.subs)]]=qQ (pre++[x]):=by
    show qQ pre++_=_;rw[qsY];show _=_++[x.row];rw[hrow,Tm.cells_eq]
   rw[qAu (show(pre.length:Int)<((qQ l).length:Int) by rw[q7];omega),e1,e2];simp -implicitDefEqProofs only[cond_true,qc,r7,InsA.row_len,show qzP 7 7=true from rfl,show qz8 7 7=true from rfl];rw[hrow];simp -implicitDefEqProofs only[qn,qi,qv,qK,hc,qc,ve,e3,cond_true,e4,e5,w1];have e6:(pre++[x]).length=pre.length+1:=by simp
   rw[e6]at h1⊢;exact h1
 apply Gets.get;exact qnH _ (loop l [] rfl)
theorem qx5{bo:BO}(hb:bo.Ok){l:List InsA}{o:Tm}{self:Int}:(runC bo l o self).1.w<1099511627776:=by
 have zw:vh.w<1099511627776:=qwZ;have loop:∀(d at_ n:Nat) (s:SK),l.length - at_<=d->o.chk=0->SOk s->(runO bo l o self at_ n s).1.w<1099511627776:=by
  intro d
  induction d with
  |zero=>
   intro at_ n s hd ho hs;rw[y5 (List.getElem?_eq_none (by omega))];exact zw
  |succ d ih=>
   intro at_ n s hd ho hs;cases hx:l[at_]? with
   |none=>rw[y5 hx];exact zw
   |some x=>
    have hlt:at_<l.length:=(qzW.1 hx).1;have go:∀(p:Int) (m:Nat) (s:SK),SOk s->(goO bo l o self at_ p m s).1.w<1099511627776:=by
     intro p m s hs;unfold goO;split
     ·exact zw
     ·exact ih _ _ _ (by omega) ho hs
    cases e:vZ bo o self s x with
    |mk w s'=>
     have hs':=qfj hb hs e;cases w with
     |next=>rw[qb8 hx e];exact ih _ _ _ (by omega) ho hs'
     |fails=>rw[qbn hx e];exact go _ _ _ (zW ho)
     |jumps=>rw[qbm hx e];exact go _ _ _ hs'
     |raises=>
      rw[qaJ hx e];split
      ·exact qxr
      ·exact go _ _ _ (zW ho)
     |tells=>
      rw[qbl hx e];obtain⟨t,r,hv⟩:=qd9 e;have:=xO (hs'.vals t (by rw[hv];simp));simp only[hv,List.headD_cons];omega
     |broken=>rw[qaK hx e];exact zw
 unfold runC;split
 ·rename_i h;exact loop l.length 0 0 _ (by omega) h.2.1 (zW h.2.1)
 ·exact zw
end Go.Proofs.YtafdkafbgohigaaGreat
namespace Go.Proofs.YtafdkafbgohigaaGreat.R
open Go.Av
theorem qwO{α:Type}(r:Tm×Bool×Int×Int)(K:Int->Int->List UInt8->List (List AV)->Bool->Int->Int->Option α):(kTup (vV r) λcs=>qa cs λc cs=>kAgg c λcs_1=>qa cs_1 λc cs_2=>kInt .i64 c λn=>qa cs_2 λc cs_3=>kInt .i64 c λn_1=>qa cs_3 λc cs_4=>kStr c λs=>qa cs_4 λc cs_5=>kSl c λrows=>kNil cs_5 (qa cs λc cs=>qq c λb=>qa cs λc cs=>kInt .i64 c λm=>qa cs λc cs=>kInt .i64 c λm1=>kNil cs (K n n_1 s rows b m m1)))=K r.1.kind r.1.num r.1.str (qb r.1.subs) r.2.1 r.2.2.1 r.2.2.2:=by
 rw[vV,Tm.av,Tm.cells_eq];rfl
theorem qpU{l:List InsA}(hx:∀x∈l,x.t.w<=1048576)(hl:l.length<=1048576){o:Tm}(ho:o.w<=1048576)(self:Int):EVs (EV cfg) 3 [.sl (qQ l),o.av,.int .i64 self]=some (.bool true):=by
 have hxw:∀x∈l,x.t.w<1099511627776:=λx h=>by have:=hx x h;omega
 have how:o.w<1099511627776:=by omega
 have h1:=qrt (l:=[o]) (quP (by rw[xq,z8];omega)) (by simp);rw[←qj6 _ rfl rfl,←row1]at h1;have h2:=qpu hxw (by omega);have h3:=qhQ o how;rw[←qrZ _ rfl rfl]at h2 h3;have h7:=qoq;rw[←qj6 _ rfl rfl]at h7;have hrun:(runC opsK l o self).1.w<1099511627776:=qx5 qkS;have h10:EVs (EV Go.Proofs.YtafdkafbgohigaaGreat.cfg) 14 [o.av,o.av]=some (.bool true):=qfR (qax _ how) (by simp)
 have h11:EVs (EV Go.Proofs.YtafdkafbgohigaaGreat.cfg) 14 [(runC opsK l o self).1.av,(runC opsK l o self).1.av]=some (.bool true):=qfR (qax _ hrun) (by simp);have h12:=qtd (qax _ hrun);have h13:=quD (l:=l) (λx h=>qax _ (hxw x h)) (by omega);rw[←qj6 _ rfl rfl]at h10 h11 h13;have loop:l.length<=60->∀(d i:Nat),i+d=l.length->Gets (qiO (qQ l) self (i:Int) o.kind o.num o.str (qb o.subs)) (·= .bool true):=by
  intro h60 d
  induction d with
  |zero=>
   intro i hi;refine qht _ _ _ _ _ _ _ ?_;have h4:=qsK qjd hxw (by omega) how self;have h5:=qus qjd hxw (by omega) how self;rw[←qrZ _ rfl rfl,←qq5]at h5;rw[q7,qAv (by omega)];generalize runC opsK l o self=r at *;simp -implicitDefEqProofs only[cond_false,h2,qc,qJ,qK,h3,ve,h4,qwO,h5,bne_self_eq_false,beq_self_eq_true,qAj,h11,qg,h12,h13,cond_true,h10,h7]
   exact⟨_,rfl,rfl⟩
  |succ d ih=>
   intro i hi;refine qht _ _ _ _ _ _ _ ?_;have hil:i<l.length:=by omega
   have g0:l[i]? =some l[i]:=qzS hil;have e1:(qe (0:Int) (i:Int)&&qu (i:Int) ((qQ l).length:Int))=true:=by rw[q7];simp;omega
   have e2:qzU (qQ l) (qzV (i:Int))=some (l[i]).row:=by rw[qAk];exact qc3 g0
   have hb:=qqq (qax _ (hxw l[i] (List.getElem_mem hil))) (most:=100) (by omega) (by omega);rw[←qj6 _ rfl rfl]at hb;have h1:=ih (i+1) (by omega);rw[qAu (show(i:Int)<((qQ l).length:Int) by rw[q7];omega),e1,e2,vJ hil (by omega)];simp -implicitDefEqProofs only[cond_true,qc,InsA.row_len,show qzP 7 7=true from rfl,show qz8 7 7=true from rfl,InsA.row_t,qn,qi,qD,qJ,qC,qK]
   refine Gets.bind hb ?_;rintro _ ⟨b,rfl,_⟩;cases b with
   |true=>exact⟨_,rfl,rfl⟩
   |false=>exact h1
 apply Gets.get;rw[qyt o];refine qol _ _ _ _ _ _ ?_
 by_cases h60:l.length<=60
 ·rw[q7,qAv (by omega),cond_false];refine Gets.bind h1 ?_;rintro _ ⟨b,rfl⟩;cases b with
  |true=>exact⟨_,rfl,rfl⟩
  |false=>exact loop h60 l.length 0 (by omega)
 ·rw[q7,qAu (by omega)];exact⟨_,rfl,rfl⟩
end Go.Proofs.YtafdkafbgohigaaGreat.R
end
noncomputable section
namespace Go.Proofs.YtafdkafbgohigaaGreat
open Go.Av
def Cl.wt(c:Cl):Nat:=c.head.w+wL c.gs+wL c.bs
def qeu:List TypeId:=[22,29,25,23,3,9]
theorem qn3:∀t∈qeu,qgs Tryz.prog qeu t=true:=by
 have:qeu.all (qgs Tryz.prog qeu)=true:=by kernel_rfl
 exact List.all_eq_true.1 this
theorem qu2{n:Nat}{cz:List AV}(h:Lay Tryz.prog n 29 cz):∃x:InsA,cz=x.row∧x.t.w<wtL cz:=by
 obtain⟨x,h1,h2,_⟩:=qxo h;unfold InsA.av at h1;cases h1;exact⟨x,rfl,h2⟩
theorem qtg{H:Type}{enc:TypeId×Value->H}{W:World}{r:Reach}{b0:Nat}{v:Value}{d:DataW H}{ps:List MemPlace}(hval:Value.okWide Tryz.prog W r b0 22 v)(hd:DataW.Trod enc Tryz.prog W 0 (λ_=>true) true 22 v d ps):
  ∃l:List InsA,Opened enc Tryz.prog W 22 v d ps (.sl (qQ l))∧(∀x∈l,x.t.w<=Rows.uptoBulk d)∧l.length<=Rows.uptoBulk d:=by
 obtain⟨rows,n,h1,h2,h3⟩:=qrk qn3 (by simp[qeu]) Tryz.underlying22 hval hd;obtain⟨l,rfl,w1,w2⟩:=qu1 (w:=λx:InsA=>x.t.w) (λcz h=>qu2 h) rows h2;exact⟨l,h1,λc hc=>by have:=w1 c hc;omega,by omega⟩
end Go.Proofs.YtafdkafbgohigaaGreat
end
