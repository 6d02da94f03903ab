/-
  Parts of the proof of CodeRunsUptoSaid, put together: the abstract evaluation and its contracts. Own work.
  What is proved: each lemma as it stands; no condition.
-/
import Derived.Test.YtafdkafbgohigaaGreatZCodeRunsM3
open List renaming length → qzO, getElem?_eq_getElem → qzS, take → qzT, get?Internal → qzU, getElem?_eq_some_iff → qzW, getElem?_append_right → qz2, take_length → qz4, mem_of_getElem? → qz5, getElem?_append_left → qz6, getElem?_set → qz9, take_of_length_le → qAa, length_append → qAc, mem_cons → qAd, replicate → qAf, mem_append → qAh, append → qAi, range → qAs
open Nat renaming beq → qzP, eq_of_beq_eq_true → qzY, le_refl → qz0, ble → qz8, mul_le_mul_right → qAg, blt_eq → qAm, add_assoc → qAo, beq_refl → qAq, add_mul → qAr
open Go.IntKind renaming wrap → qzQ, i64 → qAn
open Bool renaming and_eq_true → qzR, false_eq_true → qz1, and_self → qz7, not_true → qAj, not_false → qAp
open Int renaming toNat → qzV, reduceEq → qAb, toNat_natCast → qAk
open Option renaming bind_eq_some_iff → qzX, map_eq_some_iff → qzZ, bind_some → qz3, map_some → qAe
open Array renaming getElem?_toList → qAl, toList → qAt
set_option maxRecDepth 1000000
set_option maxHeartbeats 0
noncomputable section
namespace Go.Proofs.YtafdkafbgohigaaGreat
open Go.Av
structure InsA where
 o:Int
 a:Int
 b:Int
 t:Tm
def InsA.av(x:InsA):AV:=.agg (.int .i64 x.o:: .int .i64 x.a:: .int .i64 x.b::x.t.cells)
structure InsA.Ok (x:InsA):Prop where
 o1: -9223372036854775808<=x.o
 o2:x.o<=9223372036854775807
 a1: -9223372036854775808<=x.a
 a2:x.a<=9223372036854775807
 b1: -9223372036854775808<=x.b
 b2:x.b<=9223372036854775807
 w:x.t.w<1099511627776
theorem qia{n:Nat}{cz:List AV}(h:Lay Tryz.prog n 3 cz):∃m:Int,cz=[.int .i64 m]∧-9223372036854775808<=m∧m<=9223372036854775807:=by
 cases n with
 |zero=>exact absurd h (by unfold Lay;exact id)
 |succ n=>
  unfold Lay at h;rw[Tryz.underlying3]at h;obtain⟨m,rfl,hm⟩:=h;unfold Lit.wf at hm;rw[qzR,decide_eq_true_eq,decide_eq_true_eq]at hm;exact⟨m,rfl,hm.1,hm.2⟩
theorem qtA{n:Nat}{cz:List AV}(h:Lay Tryz.prog n 25 cz):∃t:Tm,cz=t.cells∧t.w<wtL cz:=(qtz qmZ n).1 cz h
theorem qxo{n:Nat}{cz:List AV}(h:Lay Tryz.prog n 29 cz):∃x:InsA,.agg cz=x.av∧x.t.w<wtL cz∧(x.t.w<1099511627776->x.Ok):=by
 cases n with
 |zero=>exact absurd h (by unfold Lay;exact id)
 |succ n=>
  unfold Lay at h;rw[Tryz.underlying29]at h;obtain⟨hl,hf⟩:=h;have hl:cz.length=7:=by rw[hl];kernel_rfl
  match cz,hl with
  |[a,b,c,d,e,f,g],_=>
   have h0:Lay Tryz.prog n 3 ((([a,b,c,d,e,f,g]:List AV).drop 0).take (Tryz.prog.cellsOf 3)):=hf 0 _ rfl;have h1:Lay Tryz.prog n 3 ((([a,b,c,d,e,f,g]:List AV).drop 1).take (Tryz.prog.cellsOf 3)):=hf 1 _ rfl;have h2:Lay Tryz.prog n 3 ((([a,b,c,d,e,f,g]:List AV).drop 2).take (Tryz.prog.cellsOf 3)):=hf 2 _ rfl;have h3:Lay Tryz.prog n 25 ((([a,b,c,d,e,f,g]:List AV).drop 3).take (Tryz.prog.cellsOf 25)):=hf 3 _ rfl
   rw[show Tryz.prog.cellsOf 3=1 by kernel_rfl]at h0 h1 h2;rw[show Tryz.prog.cellsOf 25=4 by kernel_rfl]at h3;obtain⟨x0,e0,r0⟩:=qia h0;obtain⟨x1,e1,r1⟩:=qia h1;obtain⟨x2,e2,r2⟩:=qia h2;obtain⟨t,e3,w3⟩:=qtA h3;simp at e0 e1 e2;have hc3:[d,e,f,g]=t.cells:=e3;have hw3:t.w<wtL [d,e,f,g]:=w3;subst e0 e1 e2;refine⟨⟨x0,x1,x2,t⟩,?_,?_,λhw=>⟨r0.1,r0.2,r1.1,r1.2,r2.1,r2.2,hw⟩⟩
   ·show AV.agg [AV.int qAn x0,AV.int qAn x1,AV.int qAn x2,d,e,f,g]=AV.agg (AV.int qAn x0::AV.int qAn x1::AV.int qAn x2::t.cells);rw[←hc3]
   ·simp at hw3⊢;omega
end Go.Proofs.YtafdkafbgohigaaGreat
end
noncomputable section
namespace Go.Av
@[simp] theorem Tm.kind_mk(k n:Int)(s:List UInt8)(l:List Tm):(Tm.mk k n s l).kind=k:=rfl
@[simp] theorem Tm.num_mk(k n:Int)(s:List UInt8)(l:List Tm):(Tm.mk k n s l).num=n:=rfl
@[simp] theorem Tm.str_mk(k n:Int)(s:List UInt8)(l:List Tm):(Tm.mk k n s l).str=s:=rfl
@[simp] theorem Tm.subs_mk(k n:Int)(s:List UInt8)(l:List Tm):(Tm.mk k n s l).subs=l:=rfl
@[simp] theorem Tm.eta(t:Tm):Tm.mk t.kind t.num t.str t.subs=t:=by cases t;rfl
theorem Tm.cells_eq(t:Tm):t.cells=[.int .i64 t.kind,.int .i64 t.num,.str t.str,.sl (qb t.subs)]:=by cases t;rw[Tm.cells_mk];rfl
@[simp] theorem cells_fold(k n:Int)(s:List UInt8)(l:List Tm):[AV.int .i64 k,AV.int .i64 n,AV.str s,AV.sl (qb l)]=(Tm.mk k n s l).cells:=(Tm.cells_mk k n s l).symm
@[simp] theorem cells_fold0(k n:Int)(s:List UInt8):[AV.int .i64 k,AV.int .i64 n,AV.str s,AV.sl []]=(Tm.mk k n s []).cells:=by rw[Tm.cells_mk,q6]
@[simp] theorem agg_cells(t:Tm):AV.agg t.cells=t.av:=rfl
@[simp] theorem qsX(t:Tm):[t.cells]=qb [t]:=by rw[q4,q6]
@[simp] theorem rowsT_cons'(t:Tm)(l:List Tm):t.cells::qb l=qb (t::l):=(q4 t l).symm
@[simp] theorem rowsT_append'(a b:List Tm):qb a++qb b=qb (a++b):=(vO a b).symm
@[simp] theorem rowsT_app(a b:List Tm):qAi (qb a) (qb b)=qb (a++b):=(vO a b).symm
@[simp] theorem rowsT_take'(n:Nat)(a:List Tm):(qb a).take n=qb (a.take n):=qq8 n a
@[simp] theorem rowsT_drop'(n:Nat)(a:List Tm):(qb a).drop n=qb (a.drop n):=qq9 n a
@[simp] theorem rowsT_set'(l:List Tm)(i:Nat)(t:Tm):(qb l).set i t.cells=qb (l.set i t):=qsW l i t
@[simp] theorem rowsT_get'(l:List Tm)(i:Nat):(qb l)[i]? =(l[i]?).map Tm.cells:=yG l i
@[simp] theorem rowsT_getElem(l:List Tm)(i:Nat)(h:i<(qb l).length):(qb l)[i]=(l[i]'(by simpa using h)).cells:=by
 have h1:=yG l i
 rw[qzS h,qzS (by simpa using h)]at h1
 exact Option.some.inj h1
@[simp] theorem kOpt_map{α β γ:Type}(o:Option β)(g:β->γ)(k:γ->Option α):kOpt (o.map g) k=kOpt o λx=>k (g x):=by cases o<;>rfl
@[simp] theorem qV(t:Tm):t.cells.length=4:=by rw[Tm.cells_eq];rfl
@[simp] theorem vn(t:Tm):t.cells.take 4=t.cells:=by rw[Tm.cells_eq];rfl
@[simp] theorem drop_cells(t:Tm):t.cells.drop 4=[]:=by rw[Tm.cells_eq];rfl
@[simp] theorem cells_0(t:Tm):t.cells[0]? =some (.int .i64 t.kind):=by rw[Tm.cells_eq];rfl
@[simp] theorem cells_1(t:Tm):t.cells[1]? =some (.int .i64 t.num):=by rw[Tm.cells_eq];rfl
@[simp] theorem cells_2(t:Tm):t.cells[2]? =some (.str t.str):=by rw[Tm.cells_eq];rfl
@[simp] theorem cells_3(t:Tm):t.cells[3]? =some (.sl (qb t.subs)):=by rw[Tm.cells_eq];rfl
@[simp] theorem refs_cells(n:Nat)(t:Tm):qE n t.cells=true:=by rw[Tm.cells_eq];rfl
@[simp] theorem allCells_cells(t:Tm):xh t.cells=true:=by rw[Tm.cells_eq];rfl
@[simp] theorem rowsT_free'(l:List Tm):qN 0 (qb l)=true:=qi0 l
@[simp] theorem rowsOk_rowsT(l:List Tm):qca 4 (qb l)=true:=by
 cases l with
 |nil=>rw[q6];rfl
 |cons t l=>rw[q4,qca,qV];rfl
@[simp] theorem qv{α:Type}(t:Tm)(k:Int->Int->List UInt8->List (List AV)->Option α):kTmC t.cells k=k t.kind t.num t.str (qb t.subs):=by rw[Tm.cells_eq];rfl
@[simp] theorem ve{α:Type}(t:Tm)(k:Int->Int->List UInt8->List (List AV)->Option α):kTmV t.av k=k t.kind t.num t.str (qb t.subs):=by rw[Tm.av,Tm.cells_eq];rfl
theorem qmT{i n:Nat}(h:i<n)(hn:n<1099511627776):qzQ .i64 ((i:Int)+1)=(i:Int)+1:=qS (by omega) (by omega)
@[simp] theorem cast_nn(q:Nat):(0<=(q:Int)+1)=True:=eq_true (by omega)
@[simp] theorem cast_le1(q n:Nat):((q:Int)+1<=(n:Int))=(q+1<=n):=propext (by omega)
@[simp] theorem cast_lt1(q n:Nat):((q:Int)+1<(n:Int))=(q+1<n):=propext (by omega)
@[simp] theorem cast_nn'(q:Nat):(0<(q:Int)+1)=True:=eq_true (by omega)
@[simp] theorem cast_ne0(q:Nat):((q:Int)+1==0)=false:=by rw[beqD];exact qAv (by omega)
@[simp] theorem cast_lt_s(q:Nat):((q:Int)<(q:Int)+1)=True:=eq_true (by omega)
@[simp] theorem cast_le_s(q:Nat):((q:Int)<=(q:Int)+1)=True:=eq_true (by omega)
theorem qwH{n:Nat}(hn:n<4398046511104):qzQ .i64 (n:Int)=n:=qS (by omega) (by omega)
def numC(a b:Int):Int:=if a<b then -1 else if b<a then 1 else 0
def strC(a b:List UInt8):Int:=if a=b then 0 else if Op.bytesLess a b then -1 else 1
mutual
def cmpT:Tm->Tm->Int
 | .mk k n s l,b=>
  if numC k b.kind≠0 then numC k b.kind
  else if k=1∨k=3∨k=4∨k=6 then numC n b.num
  else if k=2 then strC s b.str
  else if k=5 then(if numC n b.num≠0 then numC n b.num else if numC l.length b.subs.length≠0 then numC l.length b.subs.length else cmpE l b.subs)
  else if k=7∨k=9 then(if numC l.length b.subs.length≠0 then numC l.length b.subs.length else cmpE l b.subs)
  else 0
def cmpE:List Tm->List Tm->Int
 |[],[]=>0
 |[],_::_=> -1
 |_::_,[]=>1
 |a::l,b::l'=>if cmpT a b≠0 then cmpT a b else cmpE l l'
end
def cmpL(l l':List Tm):Int:=if numC l.length l'.length≠0 then numC l.length l'.length else cmpE l l'
theorem qlB{a b:Int}:numC a b=0↔a=b:=by unfold numC;split<;>(try split)<;>omega
theorem qtk(a:Int):numC a a=0:=qlB.2 rfl
theorem qqm(k n:Int)(s:List UInt8)(l:List Tm)(k' n':Int)(s':List UInt8)(l':List Tm):cmpT (.mk k n s l) (.mk k' n' s' l') =
  if numC k k'≠0 then numC k k' else if k=1∨k=3∨k=4∨k=6 then numC n n' else if k=2 then strC s s'
  else if k=5 then(if numC n n'≠0 then numC n n' else cmpL l l')else if k=7∨k=9 then cmpL l l' else 0:=by
 rw[cmpT];rfl
theorem qdL(a b:Tm)(l l':List Tm):cmpE (a::l) (b::l')=if cmpT a b≠0 then cmpT a b else cmpE l l':=by rw[cmpE]
theorem qig:cmpE [] []=0:=by rw[cmpE]
theorem qmi(b:Tm)(l':List Tm):cmpE [] (b::l')= -1:=by rw[cmpE]
theorem qmj(a:Tm)(l:List Tm):cmpE (a::l) []=1:=by rw[cmpE]
theorem qdm:∀a:List UInt8,Op.bytesLess a a=false
 |[]=>rfl
 |a::l=>by rw[Op.bytesLess,qdm l];simp
def C3(p q r:Int):Prop:=(p<=0->q<=0->r<=0)∧(p<0->q<=0->r<0)∧(p<=0->q<0->r<0)∧(0<=p->0<=q->0<=r)∧(0<p->0<=q->0<r)∧(0<=p->0<q->0<r)
def yo(k n:Int)(s:List UInt8)(m:Nat):Bool:=
 if k=1 then decide (-576460752303423488<=n)&&(decide (n<=576460752303423487)&&(decide (s=[])&&decide (m=0)))
 else if k=2 then decide (n=0)&&(decide (s.length<=64)&&decide (m=0))
 else if k=3 then decide (0<=n)&&(decide (n<=1073741824)&&(decide (s=[])&&decide (m=0)))
 else if k=4 then decide (0<=n)&&(decide (n<=1073741824)&&(decide (s=[])&&decide (m=0)))
 else if k=6 then decide (0<=n)&&(decide (n<=1073741824)&&(decide (s=[])&&decide (m=0)))
 else if k=5 then decide (0<=n)&&(decide (n<=1073741824)&&(decide (s=[])&&decide (m<=64)))
 else if k=7 then decide (n=0)&&(decide (s=[])&&decide (m<=64))
 else if k=8 then decide (n=0)&&(decide (s=[])&&decide (m=0))
 else if k=9 then decide (n=0)&&(decide (s=[])&&decide (m=2))
 else false
def Tm.sound(t:Tm):Bool:=yo t.kind t.num t.str t.subs.length
def Tm.own(t:Tm):Nat:=if t.kind=7∨t.kind=5 then 2 else 1
theorem vP(a b:Bool):(bif a then some (AV.bool b)else some (AV.bool false))=some (.bool (a&&b)):=by cases a<;>rfl
theorem qt4(s:List UInt8):(s==[])=decide (s=[]):=by cases s<;>simp
theorem beqI(a b:Int):(a==b)=decide (a=b):=by simp[beqD]
mutual
/-- may all parts of a term be? -/
def Tm.parts:Tm->Bool
 | .mk k n s l=>yo k n s l.length&&vD l
def vD:List Tm->Bool
 |[]=>true
 |t::l=>t.parts&&vD l
end
mutual
/-- how many words all parts have -/
def Tm.words:Tm->Nat
 | .mk k n s l=>(Tm.mk k n s l).own+qZ l
def qZ:List Tm->Nat
 |[]=>0
 |t::l=>t.words+qZ l
end
theorem Tm.parts_eq(t:Tm):t.parts=(t.sound&&vD t.subs):=by cases t;rw[Tm.parts];rfl
theorem Tm.words_eq(t:Tm):t.words=t.own+qZ t.subs:=by cases t;rw[Tm.words];rfl
theorem qcp(a b:List Tm):vD (a++b)=(vD a&&vD b):=by
 induction a with
 |nil=>simp[vD]
 |cons x l ih=>simp[vD,ih,Bool.and_assoc]
theorem qcm(a b:List Tm):qZ (a++b)=qZ a+qZ b:=by
 induction a with
 |nil=>simp[qZ]
 |cons x l ih=>simp[qZ,ih];omega
theorem qrh(a:List Tm):vD a.reverse=vD a:=by
 induction a with
 |nil=>rfl
 |cons x l ih=>simp[qcp,vD,ih,Bool.and_comm]
theorem qqA(a:List Tm):qZ a.reverse=qZ a:=by
 induction a with
 |nil=>rfl
 |cons x l ih=>simp[qcm,qZ,ih];omega
theorem Tm.own_le(t:Tm):t.own<=2∧1<=t.own:=by unfold Tm.own;split<;>omega
theorem qun(t:Tm):t.words<=2*t.w:=by
 induction t using Tm.ind with
 |_ k n s l ih=>
  have h1:qZ l<=2*wL l:=by
   clear n s
   induction l with
   |nil=>simp[qZ]
   |cons x l ih2=>
    have:=ih x (by simp);have:=ih2 (λt ht=>ih t (by simp[ht]));simp[qZ];omega
  have:=(Tm.mk k n s l).own_le;rw[Tm.words,Tm.w_mk];omega
def chkS(R:List Tm)(wd:Nat):Int:=if vD R then(if 65536<wd+qZ R then 3 else 0)else 2
def Tm.chk(t:Tm):Int:=chkS [t] 0
theorem qvk{R:List Tm}{x:Tm}{wd:Nat}(h:x.sound=false):chkS (R++[x]) wd=2:=by
 unfold chkS;rw[qcp];simp[vD,Tm.parts_eq,h]
theorem qlS{R:List Tm}{x:Tm}{wd:Nat}(h:x.sound=true):chkS (R++x.subs.reverse) (wd+x.own)=chkS (R++[x]) wd:=by
 unfold chkS;simp only[qcp,qrh,qcm,qqA,vD,qZ,Tm.parts_eq,Tm.words_eq,h,Bool.true_and,Bool.and_true];have:wd+x.own+(qZ R+qZ x.subs)=wd+(qZ R+(x.own+qZ x.subs+0)):=by omega
 rw[this]
def numT(i:Int):Tm:=.mk 1 i [] []
def symT(s:List UInt8):Tm:=.mk 2 0 s []
def zy:Tm:=.mk 8 0 [] []
def tupT(l:List Tm):Tm:=.mk 7 0 [] l
def vh:Tm:=.mk 0 0 [] []
theorem qg2(i:Int):(numT i).av= .agg [.int .i64 1,.int .i64 i,.str [],.sl []]:=by rw[numT,Tm.av_mk,q6]
theorem qkG(s:List UInt8):(symT s).av= .agg [.int .i64 2,.int .i64 0,.str s,.sl []]:=by rw[symT,Tm.av_mk,q6]
theorem vr:vh.av= .agg [.int .i64 0,.int .i64 0,.str [],.sl []]:=by rw[vh,Tm.av_mk,q6]
def InB(a:Int):Prop:= -576460752303423488<=a∧a<=576460752303423487
instance (a:Int):Decidable (InB a):=inferInstanceAs (Decidable (_∧_))
theorem quQ{a:Int}(h:InB a):(numT a).chk=0:=by
 obtain⟨h1,h2⟩:=h;simp[numT,Tm.chk,chkS,vD,Tm.parts,yo,qZ,Tm.words,Tm.own,Tm.kind,h1,h2]
def qL(n:Int):Option Tm:=if InB n then some (numT n)else none
theorem qbe{a:Int}(h:InB a):BitVec.ofInt 64 a=(BitVec.ofInt 60 a).signExtend 64:=by
 obtain⟨h1,h2⟩:=h;apply BitVec.eq_of_toInt_eq;rw[BitVec.toInt_signExtend_of_le (by omega),BitVec.toInt_ofInt,BitVec.toInt_ofInt];rw[Int.bmod_eq_of_le (by omega) (by omega),Int.bmod_eq_of_le (by omega) (by omega)]
theorem qcu(r:BitVec 64):qzQ .i64 r.toNat=r.toInt:=by
 have h:=r.isLt;rw[BitVec.toInt_eq_toNat_cond];simp[qzQ,IntKind.bits,IntKind.signed];omega
def bvG(op:BinOp)(a b:Int):Int:=
 match op with
 | .and=>(BitVec.ofInt 60 a &&& BitVec.ofInt 60 b).toInt
 | .or=>(BitVec.ofInt 60 a ||| BitVec.ofInt 60 b).toInt
 |_=>(BitVec.ofInt 60 a ^^^ BitVec.ofInt 60 b).toInt
theorem qqo{a b:Int}(ha:InB a)(hb:InB b):qP (Op.intBits .and .i64 a b)=some (.int .i64 (bvG .and a b)):=by
 have:qP (Op.intBits .and .i64 a b)=some (.int .i64 (qzQ .i64 (BitVec.ofInt 64 a &&& BitVec.ofInt 64 b).toNat)):=rfl;rw[this,qcu,qbe ha,qbe hb,←BitVec.signExtend_and,BitVec.toInt_signExtend_of_le (by omega)];rfl
theorem qt1{a b:Int}(ha:InB a)(hb:InB b):qP (Op.intBits .or .i64 a b)=some (.int .i64 (bvG .or a b)):=by
 have:qP (Op.intBits .or .i64 a b)=some (.int .i64 (qzQ .i64 (BitVec.ofInt 64 a ||| BitVec.ofInt 64 b).toNat)):=rfl;rw[this,qcu,qbe ha,qbe hb,←BitVec.signExtend_or,BitVec.toInt_signExtend_of_le (by omega)];rfl
theorem qqn{a b:Int}(ha:InB a)(hb:InB b):qP (Op.intBits .xor .i64 a b)=some (.int .i64 (bvG .xor a b)):=by
 have:qP (Op.intBits .xor .i64 a b)=some (.int .i64 (qzQ .i64 (BitVec.ofInt 64 a ^^^ BitVec.ofInt 64 b).toNat)):=rfl;rw[this,qcu,qbe ha,qbe hb,←BitVec.signExtend_xor,BitVec.toInt_signExtend_of_le (by omega)];rfl
def xW(op:List UInt8)(a b:Int):Option Tm:=
 if op=[43]then qL (a+b)
 else if op=[45]then qL (a - b)
 else if op=[42]then qL (a*b)
 else if op=[98,97,110,100]then qL (bvG .and a b)
 else if op=[98,111,114]then qL (bvG .or a b)
 else if op=[98,120,111,114]then qL (bvG .xor a b)
 else if b=0 then none
 else if op=[100,105,118]then qL (a.tdiv b)
 else qL (a.tmod b)
theorem beqS(a b:List UInt8):(a==b)=decide (a=b):=by by_cases h:a=b<;>simp[h]
theorem yz{a b:Int}(h:b≠0):qP (Op.intDiv .quo .i64 a b)=some (.int .i64 (qzQ .i64 (a.tdiv b))):=by
 unfold Op.intDiv;rw[qAx h];rfl
theorem qjP{a b:Int}(h:b≠0):qP (Op.intDiv .rem .i64 a b)=some (.int .i64 (a.tmod b)):=by
 unfold Op.intDiv;rw[qAx h];rfl
theorem qm1{a b:Int}(_h:b≠0):(a.tdiv b).natAbs<=a.natAbs:=by
 rw[Int.natAbs_tdiv];exact Nat.div_le_self _ _
structure Env where
 obj:Tm
 binds:List (Int×Tm)
 self:Int
def qO(l:List (Int×Tm)):List (List AV):=l.map λp=>.int .i64 p.1::p.2.cells
theorem qsc:qO []=[]:=rfl
theorem vp(l:List (Int×Tm)):(qO l).length=l.length:=by simp[qO]
theorem qcJ(l:List (Int×Tm))(i:Nat):(qO l)[i]? =(l[i]?).map λp=>.int .i64 p.1::p.2.cells:=by simp[qO]
abbrev mR(e:Env)(b:Bool):List (List AV):=[[.int .i64 e.obj.kind,.int .i64 e.obj.num,.str e.obj.str,.sl (qb e.obj.subs),.sl (qO e.binds),.int .i64 e.self,.bool b]]
def Res(e:Env)(o:Option Tm)(r:AV×List (List AV)):Prop:=
 match o with
 |some t=>r=(t.av,mR e false)
 |none=>r.2=mR e true∧∃t:Tm,r.1=t.av
def tru:List UInt8:=[116,114,117,101]
def fal:List UInt8:=[102,97,108,115,101]
def vt(b:Bool):Tm:=symT (if b then tru else fal)
def vC(t:Tm):Option Bool:=if t.kind=2∧t.str=tru then some true else if t.kind=2∧t.str=fal then some false else none
def twoG(op:List UInt8)(a b:Tm):Option Tm:=
 if op=[61,61]then some (vt (decide (cmpT a b=0)))
 else if op=[61,58,61]then some (vt (decide (cmpT a b=0)))
 else if op=[47,61]then some (vt (!decide (cmpT a b=0)))
 else if op=[61,47,61]then some (vt (!decide (cmpT a b=0)))
 else if op=[60]then some (vt (decide (cmpT a b<0)))
 else if op=[61,60]then some (vt (decide (cmpT a b<=0)))
 else if op=[62]then some (vt (decide (cmpT a b>0)))
 else if op=[62,61]then some (vt (decide (cmpT a b≥0)))
 else if op=[97,110,100]∨op=[97,110,100,97,108,115,111]then(vC a).bind λx=>(vC b).map λy=>vt (x&&y)
 else if op=[111,114]∨op=[111,114,101,108,115,101]then(vC a).bind λx=>(vC b).map λy=>vt (x||y)
 else if op=[120,111,114]then(vC a).bind λx=>(vC b).map λy=>vt (x != y)
 else if op=[101,108,101,109,101,110,116]then(if a.kind=1∧1<=a.num∧b.kind=7∧a.num<=b.subs.length then b.subs[(a.num - 1).toNat]? else none)
 else if a.kind=1∧b.kind=1 then xW op a.num b.num else none
def qc8:List (List UInt8×List Int):=[
 ([115,101,108,102],[0]),
 ([105,115,95,97,116,111,109],[1]),
 ([105,115,95,105,110,116,101,103,101,114],[1]),
 ([105,115,95,108,105,115,116],[1]),
 ([105,115,95,116,117,112,108,101],[1]),
 ([105,115,95,112,105,100],[1]),
 ([105,115,95,102,117,110,99,116,105,111,110],[1]),
 ([105,115,95,114,101,102,101,114,101,110,99,101],[1]),
 ([110,111,116],[1]),
 ([98,110,111,116],[1]),
 ([97,98,115],[1]),
 ([116,117,112,108,101,95,115,105,122,101],[1]),
 ([115,105,122,101],[1]),
 ([104,100],[1]),
 ([116,108],[1]),
 ([108,101,110,103,116,104],[1]),
 ([43],[1,2]),
 ([45],[1,2]),
 ([61,61],[2]),
 ([61,58,61],[2]),
 ([47,61],[2]),
 ([61,47,61],[2]),
 ([60],[2]),
 ([61,60],[2]),
 ([62],[2]),
 ([62,61],[2]),
 ([97,110,100],[2]),
 ([111,114],[2]),
 ([120,111,114],[2]),
 ([97,110,100,97,108,115,111],[2]),
 ([111,114,101,108,115,101],[2]),
 ([42],[2]),
 ([100,105,118],[2]),
 ([114,101,109],[2]),
 ([98,97,110,100],[2]),
 ([98,111,114],[2]),
 ([98,120,111,114],[2]),
 ([101,108,101,109,101,110,116],[2])]
def yi{β:Type}(op:List UInt8)(d:β):List (List UInt8×β)->β
 |[]=>d
 |p::l=>bif op==p.1 then p.2 else yi op d l
theorem qgc{β γ:Type}(g:β->γ)(op:List UInt8)(d:β):∀l:List (List UInt8×β),yi op (g d) (l.map λp=>(p.1,g p.2))=g (yi op d l)
 |[]=>rfl
 |p::l=>by
  rw[List.map_cons,yi,yi,qgc g op d l];cases op==p.1<;>rfl
def opsG(op:List UInt8):List Int:=yi op [] qc8
def yP(l:List Int):List (List AV):=l.map λn=>[.int .i64 n]
theorem qdI(l:List Int):(yP l).length=l.length:=by simp[yP]
theorem qlM(l:List Int)(i:Nat):(yP l)[i]? =(l[i]?).map λn=>[AV.int .i64 n]:=by simp[yP]
def qau(n:Int):Bool:=decide (1<=n)&&decide (n<=1073741824)
theorem qxg(n:Int):(numT n).Ok:=by simp[numT,Tm.Ok,OkL]
theorem qli{n:Int}{t:Tm}(h:qL n=some t):t.Ok∧t=numT n:=by
 unfold qL at h;split at h
 ·cases h;exact⟨qxg n,rfl⟩
 ·cases h
theorem qpm{op:List UInt8}{a b:Int}{t:Tm}(h:xW op a b=some t):t.Ok∧∃n,t=numT n:=by
 unfold xW at h
 repeat' split at h
 all_goals first|(cases h;done)|exact⟨(qli h).1,_,(qli h).2⟩
theorem Tm.Ok.subs{t:Tm}(h:t.Ok){x:Tm}(hx:x∈t.subs):x.Ok:=by
 obtain⟨k,n,s,l⟩:=t;exact h.sub hx
def qoh(b:UInt8):Option Int:=if b.toNat<48 then none else if b.toNat>57 then none else some ((b.toNat:Int) - 48)
def varG:List UInt8->Option Int
 |[a,b]=>if a.toNat=36 then qoh b else none
 |[a,b,c]=>if a.toNat=36∧b.toNat≠48 then(qoh b).bind λx=>(qoh c).map λy=>x*10+y else none
 |_=>none
def varT(t:Tm):Option Int:=if t.kind=2∧t.chk=0 then varG t.str else none
theorem qwG{n:Nat}(h:n<18446744073709551616):qzQ .u64 (n:Int)=n:=by
 simp[qzQ,IntKind.bits,IntKind.signed];omega
def quc(p:Nat->Bool)(r:List AV):Prop:=∃(lo hi:Nat) (l:List AV),r= .int .u64 lo:: .int .u64 hi::l∧lo<18446744073709551616∧hi<18446744073709551616∧(∀n,n<64->lo.testBit n=p n)∧∀n,n<64->hi.testBit n=p (n+64)
theorem qsD{r cs:List AV}{o k:Nat}(hc:cs.length=4)(h:o+4<=r.length)(hk:k<o∨o+4<=k):(qAi (qAi (r.take o) cs) (r.drop (o+4)))[k]? =r[k]? :=by
 show((r.take o++cs)++r.drop (o+4))[k]? =r[k]?;have hl:(r.take o).length=o:=by simp;omega
 rcases hk with hk|hk
 ·rw[qz6 (by simp;omega),qz6 (by omega),List.getElem?_take,qAw hk]
 ·rw[qz2 (by simp;omega),List.getElem?_drop]
  congr 1
  simp[hc];omega
theorem qsC{r cs:List AV}{o:Nat}(hc:cs.length=4)(h:o+4<=r.length):(qAi (qAi (r.take o) cs) (r.drop (o+4))).length=r.length:=by
 show((r.take o++cs)++r.drop (o+4)).length=r.length;simp[hc];omega
theorem qqE{r cs:List AV}{o:Nat}(hc:cs.length=4)(h:o+4<=r.length):((qAi (qAi (r.take o) cs) (r.drop (o+4))).drop o).take 4=cs:=by
 show(((r.take o++cs)++r.drop (o+4)).drop o).take 4=cs;have hl:(r.take o).length=o:=by simp;omega
 rw[List.append_assoc,List.drop_append_of_le_length (by omega),List.drop_of_length_le (by omega),List.nil_append,List.take_append_of_le_length (by omega),qAa (by omega)]
theorem qoR{r cs:List AV}{o o':Nat}(hc:cs.length=4)(h:o+4<=r.length)(hd:o'+4<=o∨o+4<=o'):((qAi (qAi (r.take o) cs) (r.drop (o+4))).drop o').take 4=(r.drop o').take 4:=by
 apply List.ext_getElem?;intro j
 by_cases hj:j<4
 ·rw[List.getElem?_take,List.getElem?_take,qAw hj,qAw hj,List.getElem?_drop,List.getElem?_drop,qsD hc h (by omega)]
 ·rw[List.getElem?_take,List.getElem?_take,qAx hj,qAx hj]
def mayB:Int->List (Int×Tm)->Bool
 |_,[]=>true
 |last,p::l=>decide (last<p.1)&&(decide (p.1<=99)&&(decide (p.2.chk=0)&&mayB p.1 l))
def qR(n:Int):List (Int×Tm)->Option Tm
 |[]=>none
 |p::l=>if p.1=n then some p.2 else qR n l
structure BRow (m:List (Int×Tm)) (r:List AV):Prop where
 len:r.length=402
 set:quc (λi=>(qR i m).isSome) r
 cells:∀i:Nat,i<100->∀t,qR i m=some t->(r.drop (2+i*4)).take 4=t.cells
 free:qE 0 r=true
theorem qe1(n:Int)(p:Int×Tm):∀m:List (Int×Tm),qR n (m++[p])=match qR n m with|some t=>some t|none=>if p.1=n then some p.2 else none
 |[]=>by simp[qR]
 |q::m=>by
  rw[List.cons_append,qR,qR]
  by_cases h:q.1=n
  ·rw[qAw h,qAw h]
  ·rw[qAx h,qAx h];exact qe1 n p m
theorem qbf{n:Int}{t:Tm}:∀{m:List (Int×Tm)},qR n m=some t->(n,t)∈m
 |[],h=>by cases h
 |q::m,h=>by
  rw[qR]at h
  by_cases hq:q.1=n
  ·rw[qAw hq]at h;cases h;subst hq;exact List.mem_cons_self
  ·rw[qAx hq]at h;exact List.mem_cons_of_mem _ (qbf h)
theorem qjn:∀{l:List (Int×Tm)} {last:Int},mayB last l=true->∀p∈l,last<p.1∧p.1<=99
 |[],_,_,p,hp=>by cases hp
 |q::l,last,h,p,hp=>by
  simp only[mayB,qzR,decide_eq_true_eq]at h;rcases qAd.1 hp with rfl|hp
  ·exact⟨h.1,h.2.1⟩
  ·have:=qjn h.2.2.2 p hp;omega
theorem BRow.add{m:List (Int×Tm)}{r r':List AV}{n:Nat}{t:Tm}(h:BRow m r)(hn:n<100)(hnew:qR n m=none)(h1:quc (λi=>(λi:Nat=>(qR i m).isSome) i||decide (i=n)) r')(h2:r'.drop 2=r.drop 2)(h3:r'.length=r.length)(h4:qE 0 r=true->qE 0 r'=true):
  BRow (m++[((n:Int),t)]) (qAi (qAi (r'.take (2+n*4)) t.cells) (r'.drop (2+n*4+4))):=by
 have hl:r'.length=402:=by rw[h3,h.len]
 have hc:t.cells.length=4:=qV t;have ho:2+n*4+4<=r'.length:=by omega
 have hd:∀j,(r'.drop (2+j))=r.drop (2+j):=by
  intro j;rw[←List.drop_drop,←List.drop_drop,h2]
 refine⟨by rw[qsC hc ho,hl],?_,λi hi t' ht'=>?_,?_⟩
 ·obtain⟨lo,hi,l,rfl,a1,a2,a3,a4⟩:=h1;obtain⟨o,ho'⟩:∃o,2+n*4=o+2:=⟨n*4,by omega⟩;have lk:∀i:Nat,(qR i (m++[((n:Int),t)])).isSome=((qR i m).isSome||decide (i=n)):=by
   intro i;rw[qe1];cases hx:qR (i:Int) m with
   |some x=>rfl
   |none=>
    by_cases hi:i=n
    ·subst hi;simp
    ·have:¬((n:Int)=(i:Int)):=by omega
     simp[this,hi]
  refine⟨lo,hi,(l.take o++t.cells)++l.drop (o+4),?_,a1,a2,λi hi=>?_,λi hi=>?_⟩
  ·rw[ho'];rfl
  ·exact(a3 i hi).trans (lk i).symm
  ·exact(a4 i hi).trans (lk (i+64)).symm
 ·rw[qe1]at ht'
  by_cases hin:i=n
  ·subst hin;rw[hnew]at ht';simp at ht';subst ht';exact qqE hc ho
  ·cases hx:qR (i:Int) m with
   |none=>
    rw[hx]at ht';have:¬((n:Int)=(i:Int)):=by omega
    simp[this]at ht'
   |some x=>
    rw[hx]at ht';cases ht';rw[qoR hc ho (by omega),hd];exact h.cells i hi _ hx
 ·show qE 0 ((r'.take (2+n*4)++t.cells)++r'.drop (2+n*4+4))=true;have hf:=h4 h.free;exact qaL (qaL (qfX hf) (qkm t)) (qfY hf)
mutual
/-- is a term an expression over some variables? -/
def isG (V : List Int) : Tm → Bool
  | .mk k n s l =>
    if k = 2 then (match varT (.mk k n s l) with | none => true | some x => decide (x ∈ V))
    else if k = 9 then allG V l
    else if k = 7 then
      (match l with
       | [] => false
       | (.mk k1 _ s1 l1) :: rest =>
         if k1 = 7 then decide (rest.length = 0) && allG V l1
         else if k1 = 2 then (if s1 = [99, 111, 110, 115, 116] then decide (rest.length = 1) else decide ((rest.length : Int) ∈ opsG s1) && allG V rest)
         else false)
    else true
def allG (V : List Int) : List Tm → Bool
  | [] => true
  | t :: l => isG V t && allG V l
end
def qez(V:List Int)(t:Tm):Int:=if t.chk=0 then(if isG V t then 0 else 10)else 2
end Go.Av
end
noncomputable section
namespace Go.Proofs.YtafdkafbgohigaaGreat
open Go.Av
abbrev zT:Tm:=.mk 0 0 [] []
def InsA.row(x:InsA):List AV:=.int .i64 x.o:: .int .i64 x.a:: .int .i64 x.b::x.t.cells
def qQ(l:List InsA):List (List AV):=l.map InsA.row
@[simp] theorem rowsN_nil:qQ []=[]:=rfl
@[simp] theorem q7(l:List InsA):(qQ l).length=l.length:=by simp[qQ]
theorem qsY(a b:List InsA):qQ (a++b)=qQ a++qQ b:=by simp[qQ]
theorem InsA.row_len(x:InsA):x.row.length=7:=by rw[InsA.row,Tm.cells_eq];rfl
theorem qc3{l:List InsA}{i:Nat}{x:InsA}(h:l[i]? =some x):qzU (qQ l) i=some x.row:=by
 rw[q9,qQ,List.getElem?_map,h];rfl
def andS:List UInt8:=[97,110,100,97,108,115,111]
def orS:List UInt8:=[111,114,101,108,115,101]
def qyn:List UInt8:=[99,111,110,115,116]
def qzI(o:Int)(at_:Nat)(x:List InsA)(y:List InsA):List InsA:=
 x++⟨o,0,((at_+x.length+1+y.length+1:Nat):Int),zT⟩::(y++[⟨17,0,0,zT⟩])
mutual
/-- the code of an expression, from a place on -/
def qg7 : Tm → Nat → List InsA
  | .mk k n s l, at_ =>
    if k = 2 then (match varT (.mk k n s l) with
      | some x => [⟨8, x, 0, zT⟩]
      | none => if s = [36, 95] then [⟨9, 0, 0, zT⟩] else if s = [36, 36] then [⟨10, 0, 0, zT⟩] else [⟨7, 0, 0, .mk k n s l⟩])
    else if k = 9 then qmz l at_ ++ [⟨12, 0, 0, zT⟩]
    else if k = 7 then
      (match l with
       | [] => []
       | (.mk k1 n1 s1 l1) :: rest =>
         if k1 = 7 then qmz l1 at_ ++ [⟨11, (l1.length : Int), 0, zT⟩]
         else if s1 = qyn then qyo rest
         else if s1 = andS then qwN 15 rest at_
         else if s1 = orS then qwN 16 rest at_
         else qmz rest at_ ++ [⟨13, (rest.length : Int), 0, .mk k1 n1 s1 l1⟩])
    else [⟨7, 0, 0, .mk k n s l⟩]
def qmz : List Tm → Nat → List InsA
  | [], _ => []
  | t :: l, at_ => qg7 t at_ ++ qmz l (at_ + (qg7 t at_).length)
def qwN : Int → List Tm → Nat → List InsA
  | _, [], _ => []
  | o, a :: l, at_ => qzD o l at_ (qg7 a at_)
def qzD : Int → List Tm → Nat → List InsA → List InsA
  | _, [], _, _ => []
  | o, b :: _, at_, x => qzI o at_ x (qg7 b (at_ + x.length + 1))
def qyo : List Tm → List InsA
  | [] => []
  | c :: _ => [⟨7, 0, 0, c⟩]
end
end Go.Proofs.YtafdkafbgohigaaGreat
end
noncomputable section
namespace Go.Av
theorem zE{t:Tm}:t.chk=0↔t.parts=true∧t.words<=65536:=by
 unfold Tm.chk chkS;simp only[vD,qZ,Bool.and_true,Nat.zero_add,Nat.add_zero];cases h:t.parts with
 |false=>simp
 |true=>
  simp
theorem qup(l:List Tm)(h:∀x∈l,x.parts=true->x.w<=65*x.words):vD l=true->wL l<=65*qZ l:=by
 induction l with
 |nil=>intro _;simp
 |cons x l ih=>
  intro hp;rw[vD,qzR]at hp;have h1:=h x (by simp) hp.1;have h2:=ih (λy hy=>h y (by simp[hy])) hp.2;rw[xq,qZ];omega
theorem qln{k n:Int}{s:List UInt8}{m:Nat}(h:yo k n s m=true):s.length<=64∧m<=64:=by
 unfold yo at h
 repeat' split at h
 all_goals simp at h
 all_goals first|(obtain⟨_,_,h3,h4⟩:=h;subst h3;simp;omega)|(obtain⟨_,h3,h4⟩:=h;subst h3;simp;omega)|omega
theorem qw1(t:Tm):t.parts=true->t.w<=65*t.words:=by
 induction t using Tm.ind with
 |_ k n s l ih=>
  intro hp;rw[Tm.parts,qzR]at hp;have h1:=qln hp.1;have h2:=qup l ih hp.2;have h3:=(Tm.mk k n s l).own_le;rw[Tm.w_mk,Tm.words];omega
theorem xO{t:Tm}(h:t.chk=0):t.w<=4259840:=by
 obtain⟨h1,h2⟩:=zE.1 h;have:=qw1 t h1;omega
theorem qbD{t:Tm}(h:t.chk=0):t.subs.length<=64:=by
 obtain⟨h1,_⟩:=zE.1 h;rw[Tm.parts_eq,qzR]at h1;exact(qln h1.1).2
theorem qiI{x:Tm}{l:List Tm}(h:x∈l):x.words<=qZ l:=by
 induction l with
 |nil=>cases h
 |cons y l ih=>
  rw[qZ];rcases qAd.1 h with rfl|h
  ·omega
  ·have:=ih h;omega
theorem qcz{l:List Tm}(h:vD l=true):∀x∈l,x.parts=true:=by
 induction l with
 |nil=>intro x hx;cases hx
 |cons y l ih=>
  intro x hx;rw[vD,qzR]at h;rcases qAd.1 hx with rfl|hx
  ·exact h.1
  ·exact ih h.2 x hx
theorem qey{t x:Tm}(h:t.chk=0)(hx:x∈t.subs):x.chk=0:=by
 obtain⟨h1,h2⟩:=zE.1 h;rw[Tm.parts_eq,qzR]at h1;have:=qiI hx;rw[Tm.words_eq]at h2;exact zE.2 ⟨qcz h1.2 x hx,by omega⟩
theorem qdk{t:Tm}(h:t.chk=0)(hk:t.kind=9):∃a b,t.subs=[a,b]:=by
 obtain⟨h1,_⟩:=zE.1 h;rw[Tm.parts_eq,qzR]at h1;have h2:yo t.kind t.num t.str t.subs.length=true:=h1.1;rw[hk]at h2;simp[yo]at h2
 match hl:t.subs,h2.2.2 with
 |[a,b],_=>exact⟨a,b,rfl⟩
theorem qqg{t:Tm}(h:t.chk=0)(hk:t.kind=1):InB t.num∧t=numT t.num:=by
 obtain⟨h1,_⟩:=zE.1 h;obtain⟨k,n,s,l⟩:=t;simp only[Tm.kind_mk]at hk;subst hk;rw[Tm.parts_eq,qzR]at h1;have h2:yo 1 n s l.length=true:=h1.1;simp[yo]at h2;obtain⟨a,b,c,d⟩:=h2;subst c d;exact⟨⟨a,b⟩,rfl⟩
def lenT:Nat->Tm->Option Nat
 |0,_=>none
 |n+1,t=>if t.kind=9 then(match t.subs with|[_,b]=>(lenT n b).map (·+1)|_=>none)else if t.kind=8 then some 0 else none
def lenG(t:Tm):Option Nat:=lenT t.w t
theorem qqd:∀(n:Nat) (t:Tm) (m:Nat),lenT n t=some m->m<=n
 |0,_,_,h=>by cases h
 |n+1,t,m,h=>by
  rw[lenT]at h;split at h
  ·split at h
   ·obtain⟨x,h1,rfl⟩:=qzZ.1 h;have:=qqd n _ x h1;omega
   ·cases h
  ·split at h
   ·cases h;omega
   ·cases h
theorem qtx:∀(n m:Nat) (t:Tm),t.w<=n->t.w<=m->lenT n t=lenT m t:=by
 intro n
 induction n with
 |zero=>intro m t h;have:=qas t;omega
 |succ n ih=>
  intro m t hn hm;obtain⟨m,rfl⟩:∃k,m=k+1:=⟨m - 1,by have:=qas t;omega⟩;rw[lenT,lenT]
  by_cases h9:t.kind=9
  ·rw[qAw h9,qAw h9];have hw:=t.w_eq;cases hs:t.subs with
   |nil=>rfl
   |cons a l=>
    cases l with
    |nil=>rfl
    |cons b l=>
     cases l with
     |nil=>
      rw[hs]at hw;simp only[xq,z8]at hw;simp only[];rw[ih m b (by omega) (by omega)]
     |cons c l=>rfl
  ·rw[qAx h9,qAx h9]
theorem qlG{t a b:Tm}(hk:t.kind=9)(hs:t.subs=[a,b]):lenG t=(lenG b).map (·+1):=by
 have hw:=t.w_eq;rw[hs]at hw;simp only[xq,z8]at hw;unfold lenG;obtain⟨n,hn⟩:∃n,t.w=n+1:=⟨t.w - 1,by have:=qas t;omega⟩;rw[hn,lenT,qAw hk,hs];simp only[];rw[qtx n b.w b (by omega) (qz0 _)]
theorem qnG{t:Tm}(hk:t.kind=8):lenG t=some 0:=by
 unfold lenG;obtain⟨n,hn⟩:∃n,t.w=n+1:=⟨t.w - 1,by have:=qas t;omega⟩;rw[hn,lenT,qAx (by omega),qAw hk]
theorem qlF{t:Tm}(h9:t.kind≠9)(h8:t.kind≠8):lenG t=none:=by
 unfold lenG;obtain⟨n,hn⟩:∃n,t.w=n+1:=⟨t.w - 1,by have:=qas t;omega⟩;rw[hn,lenT,qAx h9,qAx h8]
theorem qxn{t:Tm}{m:Nat}(h:lenG t=some m):m<=t.w:=qqd _ _ _ h
def oneG(op:List UInt8)(t:Tm):Option Tm:=
 if op=[105,115,95,97,116,111,109]then some (vt (decide (t.kind=2)))
 else if op=[105,115,95,105,110,116,101,103,101,114]then some (vt (decide (t.kind=1)))
 else if op=[105,115,95,108,105,115,116]then some (vt (decide (t.kind=9)||decide (t.kind=8)))
 else if op=[105,115,95,116,117,112,108,101]then some (vt (decide (t.kind=7)))
 else if op=[105,115,95,112,105,100]then some (vt (decide (t.kind=6)))
 else if op=[105,115,95,102,117,110,99,116,105,111,110]then some (vt (decide (t.kind=5)))
 else if op=[105,115,95,114,101,102,101,114,101,110,99,101]then some (vt (decide (t.kind=3)||decide (t.kind=4)))
 else if op=[110,111,116]then(vC t).map λb=>vt (!b)
 else if op=[98,110,111,116]then(if t.kind=1 then qL (-1 - t.num)else none)
 else if op=[43]then(if t.kind=1 then qL t.num else none)
 else if op=[45]then(if t.kind=1 then qL (-t.num)else none)
 else if op=[97,98,115]then(if t.kind=1 then qL (if t.num<0 then -t.num else t.num)else none)
 else if op=[116,117,112,108,101,95,115,105,122,101]then(if t.kind=7 then qL t.subs.length else none)
 else if op=[115,105,122,101]then(if t.kind=7 then qL t.subs.length else none)
 else if op=[108,101,110,103,116,104]then(lenG t).bind λn=>qL n
 else if t.kind=9 then(if op=[104,100]then t.subs[0]? else t.subs[1]?)
 else none
def zo(op:List UInt8)(l:List Tm)(self:Int):Option Tm:=
 match l with
 |[a]=>oneG op a
 |[a,b]=>twoG op a b
 |_=>some (.mk 6 self [] [])
theorem qoM{n:Int}{v:Tm}(h:qL n=some v):v.chk=0:=by
 unfold qL at h;split at h
 ·rename_i hb;cases h;exact quQ hb
 ·cases h
theorem qqB(b:Bool):(vt b).chk=0:=by cases b<;>decide
def xP(l:List Tm):Tm:=l.foldr (λx e=>.mk 9 0 [] [x,e]) (.mk 8 0 [] [])
structure EnvOk (e:Env):Prop where
 obj:e.obj.chk=0
 may:mayB (-1) e.binds=true
 self:qau e.self=true
theorem qdb:∀{l:List (Int×Tm)} {last:Int},mayB last l=true->(l.length:Int)<=max 0 (99 - last)
 |[],_,_=>by simp;omega
 |p::l,last,h=>by
  simp only[mayB,qzR,decide_eq_true_eq]at h;have:=qdb h.2.2.2;simp only[List.length_cons];omega
theorem EnvOk.len{e:Env}(h:EnvOk e):e.binds.length<=100:=by have:=qdb h.may;omega
def qbv:Nat->Tm->List Tm×Bool
 |0,_=>([],false)
 |n+1,t=>if t.kind=9 then(match t.subs with|[a,b]=>(a::(qbv n b).1,(qbv n b).2)|_=>([],false))else([],decide (t.kind=8))
def xb(t:Tm):List Tm×Bool:=qbv t.w t
theorem qpG:∀(n m:Nat) (t:Tm),t.w<=n->t.w<=m->qbv n t=qbv m t:=by
 intro n
 induction n with
 |zero=>intro m t h;have:=qas t;omega
 |succ n ih=>
  intro m t hn hm;obtain⟨m,rfl⟩:∃k,m=k+1:=⟨m - 1,by have:=qas t;omega⟩;rw[qbv,qbv]
  by_cases h9:t.kind=9
  ·rw[qAw h9,qAw h9];have hw:=t.w_eq;cases hs:t.subs with
   |nil=>rfl
   |cons a l=>
    cases l with
    |nil=>rfl
    |cons b l=>
     cases l with
     |nil=>
      rw[hs]at hw;simp only[xq,z8]at hw;simp only[];rw[ih m b (by omega) (by omega)]
     |cons c l=>rfl
  ·rw[qAx h9,qAx h9]
theorem qpF{t a b:Tm}(hk:t.kind=9)(hs:t.subs=[a,b]):xb t=(a::(xb b).1,(xb b).2):=by
 have hw:=t.w_eq;rw[hs]at hw;simp only[xq,z8]at hw;unfold xb;obtain⟨n,hn⟩:∃n,t.w=n+1:=⟨t.w - 1,by have:=qas t;omega⟩;rw[hn,qbv,qAw hk,hs];simp only[];rw[qpG n b.w b (by omega) (qz0 _)]
theorem qrJ{t:Tm}(hk:t.kind≠9):xb t=([],decide (t.kind=8)):=by
 unfold xb;obtain⟨n,hn⟩:∃n,t.w=n+1:=⟨t.w - 1,by have:=qas t;omega⟩;rw[hn,qbv,qAx hk]
theorem qbY:∀l:List Tm,xb (xP l)=(l,true)
 |[]=>qrJ (by decide)
 |x::l=>by
  rw[qpF (a:=x) (b:=xP l) rfl rfl,qbY l]
def anyT(p:Tm):Bool:=decide (p.kind=2)&&(decide (p.str=[95])&&decide (p.chk=0))
def qrQ(p:Tm):Bool:=(varT p).isSome||(decide (p.kind=7)||anyT p)
mutual
/-- does a variable stand in a pattern? -/
def qwI (n:Int):Tm->Bool
 | .mk k _ s l=>if k=7∨k=9 then qsw n l else decide (k=2)&&decide (varG s=some n)
def qsw (n:Int):List Tm->Bool
 |[]=>false
 |t::l=>qwI n t||qsw n l
end
def qgM(p:Tm):List Int:=if p.chk=0 then((qAs 100).filter λn=>qwI (n:Nat) p).map Int.ofNat else[]
structure Cl where
 head:Tm
 gs:List Tm
 bs:List Tm
 deriving Inhabited
def Cl.cells(c:Cl):List AV:=[.int .i64 c.head.kind,.int .i64 c.head.num,.str c.head.str,.sl (qb c.head.subs),.sl (qb c.gs),.sl (qb c.bs)]
def Cl.av(c:Cl):AV:=.agg c.cells
def qla(t:Tm):Option Cl:=
 if t.kind=7 then(match t.subs with
  |[h,g,b]=>if qrQ h&&((xb g).2&&((xb b).2&& !(xb b).1.isEmpty))&&((xb g).1.all (λe=>decide (qez (qgM h) e=0))&&(xb b).1.all (λe=>decide (qez (qgM h) e=0)))then some ⟨h,(xb g).1,(xb b).1⟩else none
  |_=>none)
 else none
def seqC:List Tm->Option (List Cl)
 |[]=>some []
 |t::l=>(qla t).bind λc=>(seqC l).map (c::·)
def clsG(t:Tm):List Cl×Int:=
 if t.chk=0 then(match seqC (xb t).1 with
  |some l=>if(xb t).2&& !l.isEmpty then(l,0)else([],10)
  |none=>([],10))
 else([],2)
instance tmEq:DecidableEq Tm:=λ_ _=>Classical.propDecidable _
def qmL:Tm:=symT [69,88,73,84]
def clT(c:Cl):Tm:=tupT [c.head,xP c.gs,xP c.bs]
def selT(l:List Cl):Tm:=xP (l.map clT)
def ofG(l:List Cl):Tm×Int:=if(clsG (selT l)).2=0 then(selT l,0)else(vh,(clsG (selT l)).2)
end Go.Av
end
noncomputable section
namespace Go.Proofs.YtafdkafbgohigaaGreat
open Go.Av
abbrev iz(o a b:Int):InsA:=⟨o,a,b,zT⟩
def qyW:Den:=evC cfg (EV cfg) 203 none 4 (sub (ql Tryz.f203) [1,0,0])
def qzk:Ex×List AV×AH->Option AV:=kAft (Cfg.keepOut cfg 203 (qm (sub (ql Tryz.f203) [1,0,0]))) (xa 0 (yO cfg (Cfg.lift cfg 203 0) (fun(v:AV) (H:AH)=>(fun(r:AV×AH)=>qak 0 3 (fx 16 [(3,AV.ptr 0 0 0),(4,AV.ptr 1 0 0)]) (xa 0 (kSeq (fun(fr:List AV) (H:AH)=>xR (Cfg.cut cfg 153 (qm (sub (ql Tryz.f153) [1,1]))) fr H fun(fr:List AV) (H:AH)=>vA cfg (EV cfg) (kfN cfg 6) 153 none 0 (sub (ql Tryz.f153) [1,1]) fr H (qcF cfg (Cfg.lift cfg 153 0) (qAt (Func.results Tryz.f153)))) (qcF cfg (Cfg.lift cfg 153 0) (qAt (Func.results Tryz.f153))))) (Prod.snd r)) (v,H)) (qAt (Func.results (Prod.snd (203,Tryz.f203))))))
def qyB:List AV×AH->Option AV:=fun(p:List AV×AH)=>kOpt (LOOP 4 (some [0,1,3]) [] qyW p) qzk
abbrev qiC(v3 c0_0 c0_1:Int)(c0_2:Bz)(c0_3:Rz)(c1_0 c1_1:Int)(c1_2:Bz)(c1_3 c2_0:Rz):Option (AV):=qyB (((fx 19 [(0,.yld 3),(1,.ptr 2 0 0),(3,.int .i64 v3)]):List AV),([.rows false 4 [[.int .i64 c0_0,.int .i64 c0_1,.str c0_2,.sl c0_3]],.rows false 4 [[.int .i64 c1_0,.int .i64 c1_1,.str c1_2,.sl c1_3]],.rows false 1 [[.sl c2_0]],rngB Tryz.f153 153 [1,0,1,0] (fx 16 [(3,.ptr 0 0 0)]) none LoopState.ready]:AH))
theorem qnB(L:Rz)(kt nt:Int)(st:Bz)(lt:Rz){P:AV->Prop}(h:Gets (qiC (qzQ .i64 ((L.length:Int) - 1)) kt nt st lt 0 0 [] [] L) P):Gets (EVf (EV cfg) 153 [.sl L,.agg [.int .i64 kt,.int .i64 nt,.str st,.sl lt]]) P:=
  gE (λ_=>funF rfl rfl Tryz.func153 rfl) (by kernel_rfl) h
theorem qhk(v3 c0_0 c0_1:Int)(c0_2:Bz)(c0_3:Rz)(c1_0 c1_1:Int)(c1_2:Bz)(c1_3 c2_0:Rz){P:AV->Prop}(h:Gets (bif decide (v3≥0)then bif qe 0 v3&&qu v3 (c2_0.length:Int)then kOpt (qzU c2_0 (v3.toNat)) λrow=>bif qzP (qzO row) 4 then bif qz8 4 (qzO row)then kTmC (qzT 4 row) λn n_1 s rows=>(qiC (qzQ .i64 (v3 - (1:Int))) 9 0 [] [[.int .i64 n,.int .i64 n_1,.str s,.sl rows],[.int .i64 c0_0,.int .i64 c0_1,.str c0_2,.sl c0_3]] c1_0 c1_1 c1_2 c1_3 c2_0)else none else none else none else some (.agg [.int .i64 c0_0,.int .i64 c0_1,.str c0_2,.sl c0_3])) P):Gets (qiC v3 c0_0 c0_1 c0_2 c0_3 c1_0 c1_1 c1_2 c1_3 c2_0) P:=
  gE (λ_=>qM (cfg:=cfg) (f:=203) (rd:=none) (bs:=4)) (by kernel_rfl) h
def que:Den:=evC cfg (EV cfg) 192 none 5 (sub (ql Tryz.f192) [1,0,0])
def quj:Ex×List AV×AH->Option AV:=kAft (Cfg.keepOut cfg 192 (qm (sub (ql Tryz.f192) [1,0,0]))) (xa 0 (yO cfg (Cfg.lift cfg 192 0) (fun(v:AV) (H:AH)=>(fun(r:AV×AH)=>qak 0 4 (fx 17 [(2,AV.ptr 1 0 0),(3,AV.ptr 2 0 0)]) (xa 0 (kSeq (fun(fr:List AV) (H:AH)=>xR (Cfg.cut cfg 83 (qm (sub (ql Tryz.f83) [1,1,1]))) fr H fun(fr:List AV) (H:AH)=>vA cfg (EV cfg) (kfN cfg 6) 83 none 0 (sub (ql Tryz.f83) [1,1,1]) fr H (yx cfg (Cfg.lift cfg 83 0) (qAt (Func.results Tryz.f83)))) (yx cfg (Cfg.lift cfg 83 0) (qAt (Func.results Tryz.f83))))) (Prod.snd r)) (v,H)) (qAt (Func.results (Prod.snd (192,Tryz.f192))))))
def qyH:List AV×AH->Option AV:=fun(p:List AV×AH)=>kOpt (LOOP 5 (some [0,3]) [(3,4)] que p) quj
def qy2:Den:=evC cfg (EV cfg) 203 none 10 (sub (ql Tryz.f203) [1,0,0])
def qzq:Ex×List AV×AH->Option AV:=kAft (Cfg.keepOut cfg 203 (qm (sub (ql Tryz.f203) [1,0,0]))) (xa 0 (yO cfg (Cfg.lift cfg 203 0) (fun(v:AV) (H:AH)=>(fun(r:AV×AH)=>qak 5 9 (fx 38 [(0,AV.yld 4),(3,AV.ptr 5 0 0)]) (xa 2 (xa 1 (kLp 5 (some [0,3]) [(3,4)] que quj))) (Prod.snd r)) (v,H)) (qAt (Func.results (Prod.snd (203,Tryz.f203))))))
def qub:List AV×AH->Option AV:=fun(p:List AV×AH)=>kOpt (LOOP 10 (some [0,1,3]) [] qy2 p) qzq
abbrev qcW(c0_0 c0_1:Int)(c0_2:Bz)(c0_3:Rz)(c1_0 c2_0 c3_0 c3_1:Int)(c3_2:Bz)(c3_3:Rz)(nc5_0:Nat)(h6:Rz):Option (AV):=qyH (((fx 38 [(0,.yld 4),(3,.ptr 5 0 0)]):List AV),([.rows false 4 [[.int .i64 c0_0,.int .i64 c0_1,.str c0_2,.sl c0_3]],.rows false 1 [[.int .i64 c1_0]],.rows false 1 [[.int .i64 c2_0]],.rows false 4 [[.int .i64 c3_0,.int .i64 c3_1,.str c3_2,.sl c3_3]],rngB Tryz.f83 83 [1,1,0,1,0] (fx 17 [(2,.ptr 1 0 0),(3,.ptr 2 0 0)]) none LoopState.ready,.rows false 1 [[.ms 6 0 nc5_0]],.rows true 4 h6]:AH))
abbrev qmU(v3 c0_0 c0_1:Int)(c0_2:Bz)(c0_3:Rz)(c1_0 c2_0 c3_0 c3_1:Int)(c3_2:Bz)(c3_3:Rz)(nc5_0:Nat)(h6:Rz)(c7_0 c7_1:Int)(c7_2:Bz)(c7_3 c8_0:Rz):Option (AV):=qub (((fx 19 [(0,.yld 9),(1,.ptr 8 0 0),(3,.int .i64 v3)]):List AV),([.rows false 4 [[.int .i64 c0_0,.int .i64 c0_1,.str c0_2,.sl c0_3]],.rows false 1 [[.int .i64 c1_0]],.rows false 1 [[.int .i64 c2_0]],.rows false 4 [[.int .i64 c3_0,.int .i64 c3_1,.str c3_2,.sl c3_3]],rngB Tryz.f83 83 [1,1,0,1,0] (fx 17 [(2,.ptr 1 0 0),(3,.ptr 2 0 0)]) none LoopState.ready,.rows false 1 [[.ms 6 0 nc5_0]],.rows true 4 h6,.rows false 4 [[.int .i64 c7_0,.int .i64 c7_1,.str c7_2,.sl c7_3]],.rows false 1 [[.sl c8_0]],rngB Tryz.f192 192 [1,0,0,1,0,1,1,1,1,0] (fx 38 [(3,.ptr 5 0 0)]) none LoopState.ready]:AH))
abbrev qkB(v3 c0_0 c0_1:Int)(c0_2:Bz)(c0_3:Rz)(c1_0 c2_0 c3_0 c3_1:Int)(c3_2:Bz)(c3_3:Rz)(nc5_0:Nat)(c7_0 c7_1:Int)(c7_2:Bz)(c7_3 c8_0 h10:Rz):Option (AV):=qub (((fx 19 [(0,.yld 9),(1,.ptr 8 0 0),(3,.int .i64 v3)]):List AV),([.rows false 4 [[.int .i64 c0_0,.int .i64 c0_1,.str c0_2,.sl c0_3]],.rows false 1 [[.int .i64 c1_0]],.rows false 1 [[.int .i64 c2_0]],.rows false 4 [[.int .i64 c3_0,.int .i64 c3_1,.str c3_2,.sl c3_3]],rngB Tryz.f83 83 [1,1,0,1,0] (fx 17 [(2,.ptr 1 0 0),(3,.ptr 2 0 0)]) none LoopState.ready,.rows false 1 [[.ms 10 0 nc5_0]],.dead,.rows false 4 [[.int .i64 c7_0,.int .i64 c7_1,.str c7_2,.sl c7_3]],.rows false 1 [[.sl c8_0]],rngB Tryz.f192 192 [1,0,0,1,0,1,1,1,1,0] (fx 38 [(3,.ptr 5 0 0)]) none LoopState.ready,.rows true 4 h10]:AH))
abbrev zd4(kt:Int)(lt:Rz):Option (AV):=bif kt==5 then some (.bool (decide ((lt.length:Int)<=64)))else some (.bool false)
abbrev zd3(lt:Rz)(kt:Int):Option (AV):=bif(lt.length:Int)==0 then some (.bool true)else zd4 kt lt
abbrev zd2(st:Bz)(lt:Rz)(kt:Int):Option (AV):=bif st==[]then zd3 lt kt else some (.bool false)
abbrev zd1(nt:Int)(st:Bz)(lt:Rz)(kt:Int):Option (AV):=bif decide (nt<=1073741824)then zd2 st lt kt else some (.bool false)
abbrev zd0(nt:Int)(st:Bz)(lt:Rz)(kt:Int):Option (AV):=bif decide (nt≥0)then zd1 nt st lt kt else some (.bool false)
theorem qkC(kt nt:Int)(st:Bz)(lt:Rz){P:AV->Prop}(h:Gets (bif kt==1 then bif decide (nt≥(- 576460752303423488))then bif decide (nt<=576460752303423487)then bif st==[]then some (.bool ((lt.length:Int)==0))else some (.bool false)else some (.bool false)else some (.bool false)else bif kt==2 then bif nt==0 then bif decide ((st.length:Int)<=64)then some (.bool ((lt.length:Int)==0))else some (.bool false)else some (.bool false)else bif kt==3 then bif decide (nt≥0)then bif decide (nt<=1073741824)then bif st==[]then bif(lt.length:Int)==0 then some (.bool true)else bif kt==5 then some (.bool (decide ((↑ (qzO lt):Int)<=64)))else some (.bool false)else some (.bool false)else some (.bool false)else some (.bool false)else bif kt==4 then zd0 nt st lt kt else bif kt==6 then zd0 nt st lt kt else bif kt==5 then zd0 nt st lt kt else bif kt==7 then bif nt==0 then bif st==[]then some (.bool (decide ((lt.length:Int)<=64)))else some (.bool false)else some (.bool false)else bif kt==8 then bif nt==0 then bif st==[]then some (.bool ((lt.length:Int)==0))else some (.bool false)else some (.bool false)else bif kt==9 then bif nt==0 then bif st==[]then some (.bool ((lt.length:Int)==2))else some (.bool false)else some (.bool false)else some (.bool false)) P):Gets (EVs (EV cfg) 133 [.agg [.int .i64 kt,.int .i64 nt,.str st,.sl lt]]) P:=
  gE (λ_=>funS rfl rfl Tryz.func133 rfl) (by kernel_rfl) h
theorem qm0(kt nt:Int)(st:Bz)(lt:Rz){P:AV->Prop}(h:Gets (bif kt==7 then some (.int .i64 2)else bif kt==5 then some (.int .i64 2)else some (.int .i64 1)) P):Gets (EVs (EV cfg) 134 [.agg [.int .i64 kt,.int .i64 nt,.str st,.sl lt]]) P:=
  gE (λ_=>funS rfl rfl Tryz.func134 rfl) (by kernel_rfl) h
theorem qkE(kt nt:Int)(st:Bz)(lt:Rz){P:AV->Prop}(h:Gets (qcW kt nt st lt 0 0 kt nt st lt 1 [[.int .i64 kt,.int .i64 nt,.str st,.sl lt]]) P):Gets (EVs (EV cfg) 83 [.agg [.int .i64 kt,.int .i64 nt,.str st,.sl lt]]) P:=
  gE (λ_=>funS rfl rfl Tryz.func83 rfl) (by kernel_rfl) h
theorem qdS(c0_0 c0_1:Int)(c0_2:Bz)(c0_3:Rz)(c1_0 c2_0 c3_0 c3_1:Int)(c3_2:Bz)(c3_3:Rz)(nc5_0:Nat)(h6:Rz){P:AV->Prop}(h:Gets (bif decide ((↑ nc5_0:Int)>0)then bif qe 0 (qzQ .i64 ((↑ nc5_0:Int) - 1))&&qu (qzQ .i64 ((↑ nc5_0:Int) - 1)) (↑ nc5_0:Int)then kOpt (qzU h6 (0+qzV (qzQ .i64 ((↑ nc5_0:Int) - 1)))) λrow=>bif qz8 4 (qzO row)then kTmC (qzT 4 row) λn n_1 s rows=>(bif qe 0 (qzQ .i64 ((↑ nc5_0:Int) - 1))&&qe (qzQ .i64 ((↑ nc5_0:Int) - 1)) (↑ nc5_0:Int)then kOpt (EVs (EV cfg) 133 [.agg [.int .i64 n,.int .i64 n_1,.str s,.sl rows]]) λv=>qq v λb=>bif ! b then some (.int .i64 2)else kOpt (EVs (EV cfg) 134 [.agg [.int .i64 n,.int .i64 n_1,.str s,.sl rows]]) λv=>kInt .i64 v λn_2=>qmU (qzQ .i64 ((↑ (qzO rows):Int) - 1)) c0_0 c0_1 c0_2 c0_3 c1_0 (qzQ .i64 (c2_0+n_2)) c3_0 c3_1 c3_2 c3_3 (qzV (qzQ .i64 ((↑ nc5_0:Int) - 1)) - 0) h6 n n_1 s rows rows else none)else none else none else bif decide (c2_0>65536)then some (.int .i64 3)else some (.int .i64 0)) P):Gets (qcW c0_0 c0_1 c0_2 c0_3 c1_0 c2_0 c3_0 c3_1 c3_2 c3_3 nc5_0 h6) P:=
  gE (λ_=>qM (cfg:=cfg) (f:=192) (rd:=none) (bs:=5)) (by kernel_rfl) h
abbrev zd10(row:List AV)(nc5_0:Nat)(h6:Rz)(v3 c0_0 c0_1:Int)(c0_2:Bz)(c0_3:Rz)(c1_0 c2_0 c3_0 c3_1:Int)(c3_2:Bz)(c3_3:Rz)(c7_0 c7_1:Int)(c7_2:Bz)(c7_3 c8_0:Rz):Option (AV):=kTmC (qzT 4 row) λn n_1 s rows=>(bif qz8 (0+nc5_0) (qzO h6)&&qX (nc5_0+1) 56 then bif qe 0 (↑ nc5_0:Int)&&qu (↑ nc5_0:Int) (↑ (nc5_0+1):Int)then kOpt (qzU (qAi (qzT nc5_0 h6) [[.int .i64 0,.int .i64 0,.str [],.nilS]]) (0+qzV (↑ nc5_0:Int))) λrow=>bif qz8 4 (qzO row)then qkB (qzQ .i64 (v3 - (1:Int))) c0_0 c0_1 c0_2 c0_3 c1_0 c2_0 c3_0 c3_1 c3_2 c3_3 (nc5_0+1) c7_0 c7_1 c7_2 c7_3 c8_0 (List.set (qAi (qzT nc5_0 h6) [[.int .i64 0,.int .i64 0,.str [],.nilS]]) (0+qzV (↑ nc5_0:Int)) (.int .i64 n:: .int .i64 n_1:: .str s:: .sl rows::List.drop 4 row))else none else none else none)
abbrev zd9(row:List AV)(nc5_0:Nat)(h6:Rz)(v3 c0_0 c0_1:Int)(c0_2:Bz)(c0_3:Rz)(c1_0 c2_0 c3_0 c3_1:Int)(c3_2:Bz)(c3_3:Rz)(c7_0 c7_1:Int)(c7_2:Bz)(c7_3 c8_0:Rz):Option (AV):=bif qz8 4 (qzO row)then zd10 row nc5_0 h6 v3 c0_0 c0_1 c0_2 c0_3 c1_0 c2_0 c3_0 c3_1 c3_2 c3_3 c7_0 c7_1 c7_2 c7_3 c8_0 else none
abbrev zd8(row:List AV)(nc5_0:Nat)(h6:Rz)(v3 c0_0 c0_1:Int)(c0_2:Bz)(c0_3:Rz)(c1_0 c2_0 c3_0 c3_1:Int)(c3_2:Bz)(c3_3:Rz)(c7_0 c7_1:Int)(c7_2:Bz)(c7_3 c8_0:Rz):Option (AV):=bif qzP (qzO row) 4 then zd9 row nc5_0 h6 v3 c0_0 c0_1 c0_2 c0_3 c1_0 c2_0 c3_0 c3_1 c3_2 c3_3 c7_0 c7_1 c7_2 c7_3 c8_0 else none
abbrev zd7(c8_0:Rz)(v3:Int)(nc5_0:Nat)(h6:Rz)(c0_0 c0_1:Int)(c0_2:Bz)(c0_3:Rz)(c1_0 c2_0 c3_0 c3_1:Int)(c3_2:Bz)(c3_3:Rz)(c7_0 c7_1:Int)(c7_2:Bz)(c7_3:Rz):Option (AV):=kOpt (qzU c8_0 (v3.toNat)) λrow=>zd8 row nc5_0 h6 v3 c0_0 c0_1 c0_2 c0_3 c1_0 c2_0 c3_0 c3_1 c3_2 c3_3 c7_0 c7_1 c7_2 c7_3 c8_0
abbrev zd6(v3:Int)(c8_0:Rz)(nc5_0:Nat)(h6:Rz)(c0_0 c0_1:Int)(c0_2:Bz)(c0_3:Rz)(c1_0 c2_0 c3_0 c3_1:Int)(c3_2:Bz)(c3_3:Rz)(c7_0 c7_1:Int)(c7_2:Bz)(c7_3:Rz):Option (AV):=bif qe 0 v3&&qu v3 (c8_0.length:Int)then zd7 c8_0 v3 nc5_0 h6 c0_0 c0_1 c0_2 c0_3 c1_0 c2_0 c3_0 c3_1 c3_2 c3_3 c7_0 c7_1 c7_2 c7_3 else none
abbrev zd5(v3:Int)(c8_0:Rz)(nc5_0:Nat)(h6:Rz)(c0_0 c0_1:Int)(c0_2:Bz)(c0_3:Rz)(c1_0 c2_0 c3_0 c3_1:Int)(c3_2:Bz)(c3_3:Rz)(c7_0 c7_1:Int)(c7_2:Bz)(c7_3:Rz):Option (AV):=bif decide (v3≥0)then zd6 v3 c8_0 nc5_0 h6 c0_0 c0_1 c0_2 c0_3 c1_0 c2_0 c3_0 c3_1 c3_2 c3_3 c7_0 c7_1 c7_2 c7_3 else qcW c0_0 c0_1 c0_2 c0_3 c1_0 c2_0 c3_0 c3_1 c3_2 c3_3 nc5_0 h6
theorem qoJ(v3 c0_0 c0_1:Int)(c0_2:Bz)(c0_3:Rz)(c1_0 c2_0 c3_0 c3_1:Int)(c3_2:Bz)(c3_3:Rz)(nc5_0:Nat)(h6:Rz)(c7_0 c7_1:Int)(c7_2:Bz)(c7_3 c8_0:Rz){P:AV->Prop}(h:Gets (zd5 v3 c8_0 nc5_0 h6 c0_0 c0_1 c0_2 c0_3 c1_0 c2_0 c3_0 c3_1 c3_2 c3_3 c7_0 c7_1 c7_2 c7_3) P):Gets (qmU v3 c0_0 c0_1 c0_2 c0_3 c1_0 c2_0 c3_0 c3_1 c3_2 c3_3 nc5_0 h6 c7_0 c7_1 c7_2 c7_3 c8_0) P:=
  gE (λ_=>qM (cfg:=cfg) (f:=203) (rd:=none) (bs:=10)) (by kernel_rfl) h
theorem qfF(v3 c0_0 c0_1:Int)(c0_2:Bz)(c0_3:Rz)(c1_0 c2_0 c3_0 c3_1:Int)(c3_2:Bz)(c3_3:Rz)(nc5_0:Nat)(c7_0 c7_1:Int)(c7_2:Bz)(c7_3 c8_0 h10:Rz){P:AV->Prop}(h:Gets (zd5 v3 c8_0 nc5_0 h10 c0_0 c0_1 c0_2 c0_3 c1_0 c2_0 c3_0 c3_1 c3_2 c3_3 c7_0 c7_1 c7_2 c7_3) P):Gets (qkB v3 c0_0 c0_1 c0_2 c0_3 c1_0 c2_0 c3_0 c3_1 c3_2 c3_3 nc5_0 c7_0 c7_1 c7_2 c7_3 c8_0 h10) P:=
  gE (λ_=>qM (cfg:=cfg) (f:=203) (rd:=none) (bs:=10)) (by kernel_rfl) h
end Go.Proofs.YtafdkafbgohigaaGreat
end
noncomputable section
namespace Go.Av
def qdO(p:Prop)(v:AV):Prop:=∃b:Bool,v= .bool b∧(b=true↔p)
theorem xZ{p:Prop}{b:Bool}:qdO p (.bool b)↔(b=true↔p):=⟨fun⟨_,h1,h2⟩=>by cases h1;exact h2,λh=>⟨b,rfl,h⟩⟩
end Go.Av
namespace Go.Proofs.YtafdkafbgohigaaGreat
open Go.Av
theorem yv{n:Nat}(h:n<=1099511627776):qX n 56=true:=by
 unfold qX;rw[qzR,Nat.ble_eq,Nat.ble_eq];omega
theorem qK(t:Tm):(AV.agg [.int .i64 t.kind,.int .i64 t.num,.str t.str,.sl (qb t.subs)])=t.av:=by rw[Tm.av,Tm.cells_eq]
theorem quv(t:Tm):EVs (EV cfg) 133 [t.av]=some (.bool t.sound):=by
 obtain⟨k,n,s,l⟩:=t;apply Gets.get;rw[Tm.av_mk];refine qkC _ _ _ _ ?_;unfold zd0 zd1 zd2 zd3 zd4;simp only[Tm.sound,Tm.kind_mk,Tm.num_mk,Tm.str_mk,Tm.subs_mk,qj,beqI,qt4,yo]
 by_cases h1:k=1
 ·subst h1;simp[vP]<;>(try rw[Bool.eq_iff_iff])<;>(try simp)<;>first|omega|grind
 by_cases h2:k=2
 ·subst h2;simp[vP]<;>(try rw[Bool.eq_iff_iff])<;>(try simp)<;>first|omega|grind
 by_cases h3:k=3
 ·subst h3;simp[vP]<;>(try rw[Bool.eq_iff_iff])<;>(try simp)<;>first|omega|grind
 by_cases h4:k=4
 ·subst h4;simp[vP]<;>(try rw[Bool.eq_iff_iff])<;>(try simp)<;>first|omega|grind
 by_cases h6:k=6
 ·subst h6;simp[vP]<;>(try rw[Bool.eq_iff_iff])<;>(try simp)<;>first|omega|grind
 by_cases h5:k=5
 ·subst h5;cases l with
  |nil=>simp[vP]<;>(try rw[Bool.eq_iff_iff])<;>(try simp)<;>first|omega|grind
  |cons x l=>
   have hx:¬((l.length:Int)+1=0):=by omega
   simp[hx,vP]<;>(try rw[Bool.eq_iff_iff])<;>(try simp)<;>first|omega|grind
 by_cases h7:k=7
 ·subst h7;simp[vP]<;>(try rw[Bool.eq_iff_iff])<;>(try simp)<;>first|omega|grind
 by_cases h8:k=8
 ·subst h8;simp[vP]<;>(try rw[Bool.eq_iff_iff])<;>(try simp)<;>first|omega|grind
 by_cases h9:k=9
 ·subst h9;simp[vP]<;>(try rw[Bool.eq_iff_iff])<;>(try simp)<;>first|omega|grind
 simp[h1,h2,h3,h4,h5,h6,h7,h8,h9]
theorem qx7(t:Tm):EVs (EV cfg) 134 [t.av]=some (.int .i64 t.own):=by
 obtain⟨k,n,s,l⟩:=t;apply Gets.get;rw[Tm.av_mk];refine qm0 _ _ _ _ ?_;simp only[Tm.own,Tm.kind_mk,beqI]
 by_cases h7:k=7
 ·simp[h7]
 ·by_cases h5:k=5
  ·simp[h5]
  ·simp[h7,h5]
theorem qvm(l:List (List AV))(z:List AV):(l++[z])[l.length]? =some z:=by simp
theorem qvl(l:List (List AV))(z c:List AV):(l++[z]).set l.length c=l++[c]:=by simp
theorem qs8{t x:Tm}(hx:x.subs.length<1099511627776){wd:Int}{P:AV->Prop}:∀(j:Nat) (R:List Tm),j<=x.subs.length->R.length+j<1099511627776 ->
  Gets (qcW t.kind t.num t.str (qb t.subs) 0 wd t.kind t.num t.str (qb t.subs) (R.length+j) (qb (R++(x.subs.take j).reverse))) P ->
  Gets (qkB ((j:Int) - 1) t.kind t.num t.str (qb t.subs) 0 wd t.kind t.num t.str (qb t.subs) R.length x.kind x.num x.str (qb x.subs) (qb x.subs) (qb R)) P
 |0,R,_,_,h=>by
  refine qfF _ _ _ _ _ _ _ _ _ _ _ _ _ _ _ _ _ _ ?_;unfold zd5 zd6 zd7 zd8 zd9 zd10
  simpa using h
 |j+1,R,hj,hR,h=>by
  have ih:=qs8 (t:=t) hx (wd:=wd) (P:=P) j (R++[x.subs[j]]) (by omega) (by simp;omega);have e1:x.subs.take (j+1)=x.subs.take j++[x.subs[j]]:=by rw[List.take_add_one,qzS (by omega)];rfl
  have e4:R++(x.subs.take j++[x.subs[j]]).reverse=R++x.subs[j]::(x.subs.take j).reverse:=by rw[List.reverse_append];rfl
  rw[e1,e4,show R.length+(j+1)=R.length+1+j by omega]at h;refine qfF _ _ _ _ _ _ _ _ _ _ _ _ _ _ _ _ _ _ ?_;unfold zd5 zd6 zd7 zd8 zd9 zd10;have hw:qzQ .i64 ((j:Int) - 1)=(j:Int) - 1:=qS (by omega) (by omega);have hjl:j<x.subs.length:=by omega
  have e2:((j+1:Nat):Int) - 1=j:=by omega
  rw[e2];have ht:qzT R.length (qb R)=qb R:=qAa (by simp);have g0:=qvm (qb R) [.int .i64 0,.int .i64 0,.str [],.nilS];have s0:=qvl (qb R) [.int .i64 0,.int .i64 0,.str [],.nilS] x.subs[j].cells;rw[qj]at g0 s0;simp[hjl,hw,yv (show R.length+1<=1099511627776 by omega),ht]at ih⊢;exact ih h
theorem qx6{t x:Tm}(hx:x.subs.length<1099511627776){wd:Int}{P:AV->Prop}{R:List Tm}{Z:List (List AV)}(hR:R.length+x.subs.length<1099511627776)(h0:x.subs=[]->Gets (qcW t.kind t.num t.str (qb t.subs) 0 wd t.kind t.num t.str (qb t.subs) R.length (qb R++Z)) P)(h:x.subs≠[]->Gets (qcW t.kind t.num t.str (qb t.subs) 0 wd t.kind t.num t.str (qb t.subs) (R++x.subs.reverse).length (qb (R++x.subs.reverse))) P):
  Gets (qmU ((x.subs.length:Int) - 1) t.kind t.num t.str (qb t.subs) 0 wd t.kind t.num t.str (qb t.subs) R.length (qb R++Z) x.kind x.num x.str (qb x.subs) (qb x.subs)) P:=by
 refine qoJ _ _ _ _ _ _ _ _ _ _ _ _ _ _ _ _ _ _ ?_;unfold zd5 zd6 zd7 zd8 zd9 zd10;rcases Nat.eq_zero_or_pos x.subs.length with hz|hp
 ·have hz':x.subs=[]:=List.length_eq_zero_iff.1 hz;have:=h0 hz'
  simpa [hz']using this
 ·obtain⟨j,hj⟩:∃j,x.subs.length=j+1:=⟨x.subs.length - 1,by omega⟩;have hne:x.subs≠[]:=by intro e;rw[e]at hp;simp at hp
  have hjl:j<x.subs.length:=by omega
  have e2:(x.subs.length:Int) - 1=j:=by omega
  have hw:qzQ .i64 ((j:Int) - 1)=(j:Int) - 1:=qS (by omega) (by omega);have ht:qzT R.length (qb R++Z)=qb R:=by rw[List.take_append_of_le_length (by simp),qAa (by simp)]
  have e5:x.subs=x.subs.take j++[x.subs[j]]:=by
   have:x.subs.take (j+1)=x.subs:=qAa (by omega);rw[List.take_add_one,qzS hjl]at this;exact this.symm
  have e6:R++x.subs.reverse=R++[x.subs[j]]++(x.subs.take j).reverse:=by
   conv=>lhs;rw[e5]
   rw[List.reverse_append,List.append_assoc];rfl
  have:=qs8 (t:=t) hx (wd:=wd) (P:=P) j (R++[x.subs[j]]) (by omega) (by simp;omega) (by
   have h:=h hne;rw[e6]at h;have e7:(R++[x.subs[j]]++(x.subs.take j).reverse).length=(R++[x.subs[j]]).length+j:=by
    rw[qAc,List.length_reverse,List.length_take];omega
   rw[e7]at h;exact h)
  rw[e2];simp at this;simp[hjl,hw,yv (show R.length+1<=1099511627776 by omega),ht];exact this
theorem qxu{t:Tm}:∀(n:Nat) (R:List Tm) (Z:List (List AV)) (wd:Nat),wL R<=n->n<1099511627776->wd+2*wL R<9007199254740992 ->
  Gets (qcW t.kind t.num t.str (qb t.subs) 0 (wd:Int) t.kind t.num t.str (qb t.subs) R.length (qb R++Z)) (·= .int .i64 (chkS R wd)):=by
 intro n
 induction n with
 |zero=>
  intro R Z wd hn _ _;have:R=[]:=by
   have:=zg R;exact List.length_eq_zero_iff.1 (by omega)
  subst this;refine qdS _ _ _ _ _ _ _ _ _ _ _ _ ?_
  by_cases h:65536<wd
  ·have h':(65536:Int)<wd:=by omega
   simp[h,h',chkS,vD,qZ]
  ·have h':¬(65536:Int)<wd:=by omega
   simp[h,h',chkS,vD,qZ]
 |succ n ih=>
  intro R Z wd hn hN hw;rcases List.eq_nil_or_concat R with rfl|⟨R0,x,rfl⟩
  ·refine qdS _ _ _ _ _ _ _ _ _ _ _ _ ?_
   by_cases h:65536<wd
   ·have h':(65536:Int)<wd:=by omega
    simp[h,h',chkS,vD,qZ]
   ·have h':¬(65536:Int)<wd:=by omega
    simp[h,h',chkS,vD,qZ]
  ·rw[List.concat_eq_append]at *;have hwx:=x.w_eq;have ho:=x.own_le;simp only[qba,xq,z8]at hn hw;have hl0:=zg R0;have hls:=zg x.subs;have hsd:=quv x;have how:=qx7 x;refine qdS _ _ _ _ _ _ _ _ _ _ _ _ ?_;have e1:(R0++[x]).length=R0.length+1:=by simp
   have hw1:qzQ .i64 (R0.length:Int)=R0.length:=qwH (by omega);have hw2:qzQ .i64 ((wd:Int)+x.own)=((wd+x.own:Nat):Int):=by rw[qS (by omega) (by omega)];omega
   have hw3:qzQ .i64 ((x.subs.length:Int) - 1)=(x.subs.length:Int) - 1:=qS (by omega) (by omega);have g:(qb (R0++[x])++Z)[R0.length]? =some x.cells:=by
    rw[qz6 (by simp),yG];simp
   cases hs:x.sound with
   |false=>
    rw[hs]at hsd;simp[e1,hw1,g,hsd,qvk hs]
   |true=>
    rw[hs]at hsd;have e3:qb (R0++[x])++Z=qb R0++(x.cells::Z):=by rw[vO,List.append_assoc,q4,q6];rfl
    have:=qx6 (t:=t) (x:=x) (R:=R0) (Z:=x.cells::Z) (wd:=((wd+x.own:Nat):Int)) (P:=(·= .int .i64 (chkS (R0++[x]) wd))) (by omega) (by omega)
     (λhz=>by
      have:=ih R0 (x.cells::Z) (wd+x.own) (by omega) (by omega) (by omega);rw[←qlS hs,hz,List.reverse_nil,List.append_nil];exact this)
     (λhz=>by
      have:=ih (R0++x.subs.reverse) [] (wd+x.own) (by rw[qba,qsv];omega) (by omega) (by rw[qba,qsv];omega);rw[←qlS hs];rw[List.append_nil]at this;exact this)
    simp only[e1,e3]at g⊢;simp only[Int.natCast_add]at hw2 this;simp[hw1,g,hsd,how,hw2,hw3];exact this
theorem qor{t:Tm}(h:t.w<1099511627776):EVs (EV cfg) 83 [t.av]=some (.int .i64 t.chk):=by
 have:=qxu (t:=t) _ [t] [] 0 (qz0 _) (by simpa using h) (by simp;omega);apply Gets.get;rw[Tm.av,Tm.cells_eq];refine qkE _ _ _ _ ?_;rw[←Tm.cells_eq,qsX,Tm.chk]
 simpa using this
def qy6:Den:=evC cfg (EV cfg) 211 none 0 (sub (ql Tryz.f211) [1,0,1,0,0])
def qzu:Ex×List AV×AH->Option AV:=kAft (Cfg.keepOut cfg 211 2) (kRun cfg (EV cfg) (kfN cfg 6) 211 none 0 (yx cfg (Cfg.lift cfg 211 0) Tryz.f211.results.toList) ([.block 0,.seq (sub (ql Tryz.f211) [1,1])]))
def qyL:List AV×AH->Option AV:=λp=>kOpt (LOOP 0 (some [0,1,7,8]) ([]) qy6 p) qzu
def qy7:Den:=evC cfg (EV cfg) 155 none 0 (sub (ql Tryz.f155) [1,1,0,1,0,0])
def qzv:Ex×List AV×AH->Option AV:=kAft (Cfg.keepOut cfg 155 4) (kRun cfg (EV cfg) (kfN cfg 6) 155 none 0 (qcF cfg (Cfg.lift cfg 155 0) Tryz.f155.results.toList) ([.block 0,.seq (sub (ql Tryz.f155) [1,1,1])]))
def qyM:List AV×AH->Option AV:=λp=>kOpt (LOOP 0 (some [0,1,2,6,24,25,26]) ([]) qy7 p) qzv
abbrev qiM(A:Rz)(n v8:Int):Option (AV):=qyL (((fx 19 [(0,.sl A),(1,.int .i64 n),(7,.int .i64 (A.length:Int)),(8,.int .i64 v8)]):List AV),([]:AH))
abbrev qiN(op:Bz)(L:Rz)(pid v26 c0_0 c0_1:Int)(c0_2:Bz)(c0_3:Rz):Option (AV):=qyM (((fx 50 [(0,.str op),(1,.sl L),(2,.int .i64 pid),(6,.ptr 0 0 0),(24,.sl L),(25,.int .i64 (L.length:Int)),(26,.int .i64 v26)]):List AV),([.rows false 4 [[.int .i64 c0_0,.int .i64 c0_1,.str c0_2,.sl c0_3]]]:AH))
theorem qmg(op:Bz){P:AV->Prop}(h:Gets (bif op==[(115:UInt8),(101:UInt8),(108:UInt8),(102:UInt8)]then some (.sl [[.int .i64 0]])else bif op==[(105:UInt8),(115:UInt8),(95:UInt8),(97:UInt8),(116:UInt8),(111:UInt8),(109:UInt8)]then some (.sl [[.int .i64 1]])else bif op==[(105:UInt8),(115:UInt8),(95:UInt8),(105:UInt8),(110:UInt8),(116:UInt8),(101:UInt8),(103:UInt8),(101:UInt8),(114:UInt8)]then some (.sl [[.int .i64 1]])else bif op==[(105:UInt8),(115:UInt8),(95:UInt8),(108:UInt8),(105:UInt8),(115:UInt8),(116:UInt8)]then some (.sl [[.int .i64 1]])else bif op==[(105:UInt8),(115:UInt8),(95:UInt8),(116:UInt8),(117:UInt8),(112:UInt8),(108:UInt8),(101:UInt8)]then some (.sl [[.int .i64 1]])else bif op==[(105:UInt8),(115:UInt8),(95:UInt8),(112:UInt8),(105:UInt8),(100:UInt8)]then some (.sl [[.int .i64 1]])else bif op==[(105:UInt8),(115:UInt8),(95:UInt8),(102:UInt8),(117:UInt8),(110:UInt8),(99:UInt8),(116:UInt8),(105:UInt8),(111:UInt8),(110:UInt8)]then some (.sl [[.int .i64 1]])else bif op==[(105:UInt8),(115:UInt8),(95:UInt8),(114:UInt8),(101:UInt8),(102:UInt8),(101:UInt8),(114:UInt8),(101:UInt8),(110:UInt8),(99:UInt8),(101:UInt8)]then some (.sl [[.int .i64 1]])else bif op==[(110:UInt8),(111:UInt8),(116:UInt8)]then some (.sl [[.int .i64 1]])else bif op==[(98:UInt8),(110:UInt8),(111:UInt8),(116:UInt8)]then some (.sl [[.int .i64 1]])else bif op==[(97:UInt8),(98:UInt8),(115:UInt8)]then some (.sl [[.int .i64 1]])else bif op==[(116:UInt8),(117:UInt8),(112:UInt8),(108:UInt8),(101:UInt8),(95:UInt8),(115:UInt8),(105:UInt8),(122:UInt8),(101:UInt8)]then some (.sl [[.int .i64 1]])else bif op==[(115:UInt8),(105:UInt8),(122:UInt8),(101:UInt8)]then some (.sl [[.int .i64 1]])else bif op==[(104:UInt8),(100:UInt8)]then some (.sl [[.int .i64 1]])else bif op==[(116:UInt8),(108:UInt8)]then some (.sl [[.int .i64 1]])else bif op==[(108:UInt8),(101:UInt8),(110:UInt8),(103:UInt8),(116:UInt8),(104:UInt8)]then some (.sl [[.int .i64 1]])else bif op==[(43:UInt8)]then some (.sl [[.int .i64 1],[.int .i64 2]])else bif op==[(45:UInt8)]then some (.sl [[.int .i64 1],[.int .i64 2]])else bif op==[(61:UInt8),(61:UInt8)]then some (.sl [[.int .i64 2]])else bif op==[(61:UInt8),(58:UInt8),(61:UInt8)]then some (.sl [[.int .i64 2]])else bif op==[(47:UInt8),(61:UInt8)]then some (.sl [[.int .i64 2]])else bif op==[(61:UInt8),(47:UInt8),(61:UInt8)]then some (.sl [[.int .i64 2]])else bif op==[(60:UInt8)]then some (.sl [[.int .i64 2]])else bif op==[(61:UInt8),(60:UInt8)]then some (.sl [[.int .i64 2]])else bif op==[(62:UInt8)]then some (.sl [[.int .i64 2]])else bif op==[(62:UInt8),(61:UInt8)]then some (.sl [[.int .i64 2]])else bif op==[(97:UInt8),(110:UInt8),(100:UInt8)]then some (.sl [[.int .i64 2]])else bif op==[(111:UInt8),(114:UInt8)]then some (.sl [[.int .i64 2]])else bif op==[(120:UInt8),(111:UInt8),(114:UInt8)]then some (.sl [[.int .i64 2]])else bif op==[(97:UInt8),(110:UInt8),(100:UInt8),(97:UInt8),(108:UInt8),(115:UInt8),(111:UInt8)]then some (.sl [[.int .i64 2]])else bif op==[(111:UInt8),(114:UInt8),(101:UInt8),(108:UInt8),(115:UInt8),(101:UInt8)]then some (.sl [[.int .i64 2]])else bif op==[(42:UInt8)]then some (.sl [[.int .i64 2]])else bif op==[(100:UInt8),(105:UInt8),(118:UInt8)]then some (.sl [[.int .i64 2]])else bif op==[(114:UInt8),(101:UInt8),(109:UInt8)]then some (.sl [[.int .i64 2]])else bif op==[(98:UInt8),(97:UInt8),(110:UInt8),(100:UInt8)]then some (.sl [[.int .i64 2]])else bif op==[(98:UInt8),(111:UInt8),(114:UInt8)]then some (.sl [[.int .i64 2]])else bif op==[(98:UInt8),(120:UInt8),(111:UInt8),(114:UInt8)]then some (.sl [[.int .i64 2]])else bif op==[(101:UInt8),(108:UInt8),(101:UInt8),(109:UInt8),(101:UInt8),(110:UInt8),(116:UInt8)]then some (.sl [[.int .i64 2]])else some (.sl [])) P):Gets (EVf (EV cfg) 174 [.str op]) P:=
  gE (λ_=>funF rfl rfl Tryz.func174 rfl) (by kernel_rfl) h
theorem qk3(n:Int){P:AV->Prop}(h:Gets (bif decide (n≥1)then some (.bool (decide (n<=1073741824)))else some (.bool false)) P):Gets (EVs (EV cfg) 204 [.int .i64 n]) P:=
  gE (λ_=>funS rfl rfl Tryz.func204 rfl) (by kernel_rfl) h
abbrev ze0(v:AV):Option (AV):=kTmV v λn n_1 s rows=>(some (.agg [.int .i64 n,.int .i64 n_1,.str s,.sl rows]))
theorem qjU(b:Bool){P:AV->Prop}(h:Gets (bif b then kOpt (EVf (EV cfg) 265 [.str [(116:UInt8),(114:UInt8),(117:UInt8),(101:UInt8)]]) λv=>ze0 v else kOpt (EVf (EV cfg) 265 [.str [(102:UInt8),(97:UInt8),(108:UInt8),(115:UInt8),(101:UInt8)]]) λv=>ze0 v) P):Gets (EVf (EV cfg) 247 [.bool b]) P:=
  gE (λ_=>funF rfl rfl Tryz.func247 rfl) (by kernel_rfl) h
theorem qk4(s:Bz){P:AV->Prop}(h:Gets (some (.agg [.int .i64 2,.int .i64 0,.str s,.sl []])) P):Gets (EVf (EV cfg) 265 [.str s]) P:=
  gE (λ_=>funF rfl rfl Tryz.func265 rfl) (by kernel_rfl) h
theorem qmh(A:Rz)(n:Int){P:AV->Prop}(h:Gets (kOpt (EVs (EV cfg) 211 [.sl A,.int .i64 n]) λv=>kInt .i64 v λn=>some (.bool (decide (n≥0)))) P):Gets (EVs (EV cfg) 172 [.sl A,.int .i64 n]) P:=
  gE (λ_=>funS rfl rfl Tryz.func172 rfl) (by kernel_rfl) h
theorem qrO(A:Rz)(n:Int){P:AV->Prop}(h:Gets (qiM A n 0) P):Gets (EVs (EV cfg) 211 [.sl A,.int .i64 n]) P:=
  gE (λ_=>funS rfl rfl Tryz.func211 rfl) (by kernel_rfl) h
theorem qro(ke ne:Int)(se:Bz)(le bd:Rz)(self:Int)(bad:Bool){P:AV×List (List AV)->Prop}(h:Gets (some (.agg [.int .i64 0,.int .i64 0,.str [],.sl []],[[.int .i64 ke,.int .i64 ne,.str se,.sl le,.sl bd,.int .i64 self,.bool true]])) P):Gets (EVd (EV cfg) 250 [.ptr 0 0 0] 7 [[AV.int .i64 ke,AV.int .i64 ne,AV.str se,AV.sl le,AV.sl bd,AV.int .i64 self,AV.bool bad]]) P:=
  gE (λ_=>funD rfl rfl Tryz.func250 rfl) (by kernel_rfl) h
abbrev ze3(n n_1:Int)(s:Bz)(rows:Rz)(q:AV×List (List AV)):Option (AV×List (List AV)):=(some (.agg [.int .i64 n,.int .i64 n_1,.str s,.sl rows],q.2))
abbrev ze2(q:AV×List (List AV)):Option (AV×List (List AV)):=kTmV q.1 λn n_1 s rows=>ze3 n n_1 s rows q
abbrev ze1(ke ne:Int)(se:Bz)(le bd:Rz)(self:Int)(bad:Bool):Option (AV×List (List AV)):=kOpt (EVd (EV cfg) 250 [.ptr 0 0 0] 7 [[.int .i64 ke,.int .i64 ne,.str se,.sl le,.sl bd,.int .i64 self,.bool bad]]) λq=>ze2 q
theorem qpr(ke ne:Int)(se:Bz)(le bd:Rz)(self:Int)(bad:Bool)(n:Int){P:AV×List (List AV)->Prop}(h:Gets (bif decide (n<(- 576460752303423488))then ze1 ke ne se le bd self bad else bif decide (n>(576460752303423487:Int))then ze1 ke ne se le bd self bad else some (.agg [.int .i64 1,.int .i64 n,.str [],.sl []],[[.int .i64 ke,.int .i64 ne,.str se,.sl le,.sl bd,.int .i64 self,.bool bad]])) P):Gets (EVd (EV cfg) 248 [.ptr 0 0 0,.int .i64 n] 7 [[AV.int .i64 ke,AV.int .i64 ne,AV.str se,AV.sl le,AV.sl bd,AV.int .i64 self,AV.bool bad]]) P:=
  gE (λ_=>funD rfl rfl Tryz.func248 rfl) (by kernel_rfl) h
abbrev ze12(n_1 ke ne:Int)(se:Bz)(le bd:Rz)(self:Int)(bad:Bool):Option (AV×List (List AV)):=kOpt (EVd (EV cfg) 248 [.ptr 0 0 0,.int .i64 (qzQ .i64 (1*qzQ .i64 n_1))] 7 [[.int .i64 ke,.int .i64 ne,.str se,.sl le,.sl bd,.int .i64 self,.bool bad]]) λq=>ze2 q
abbrev ze11(n_1 ke ne:Int)(se:Bz)(le bd:Rz)(self:Int)(bad:Bool):Option (AV×List (List AV)):=bif decide (n_1>576460752303423488)then ze1 ke ne se le bd self bad else ze12 n_1 ke ne se le bd self bad
abbrev ze10(n ke ne:Int)(se:Bz)(le bd:Rz)(self:Int)(bad:Bool)(n_1:Int):Option (AV×List (List AV)):=bif decide (n>0)then ze1 ke ne se le bd self bad else ze11 n_1 ke ne se le bd self bad
abbrev ze9(cs:List AV)(n ke ne:Int)(se:Bz)(le bd:Rz)(self:Int)(bad:Bool)(n_1:Int):Option (AV×List (List AV)):=kNil cs (ze10 n ke ne se le bd self bad n_1)
abbrev ze8(c:AV)(cs:List AV)(n ke ne:Int)(se:Bz)(le bd:Rz)(self:Int)(bad:Bool):Option (AV×List (List AV)):=kInt .u64 c λn_1=>ze9 cs n ke ne se le bd self bad n_1
abbrev ze7(cs:List AV)(n ke ne:Int)(se:Bz)(le bd:Rz)(self:Int)(bad:Bool):Option (AV×List (List AV)):=qa cs λc cs=>ze8 c cs n ke ne se le bd self bad
abbrev ze6(c:AV)(cs:List AV)(ke ne:Int)(se:Bz)(le bd:Rz)(self:Int)(bad:Bool):Option (AV×List (List AV)):=kInt .u64 c λn=>ze7 cs n ke ne se le bd self bad
abbrev ze5(cs:List AV)(ke ne:Int)(se:Bz)(le bd:Rz)(self:Int)(bad:Bool):Option (AV×List (List AV)):=qa cs λc cs=>ze6 c cs ke ne se le bd self bad
abbrev ze4(v:AV)(ke ne:Int)(se:Bz)(le bd:Rz)(self:Int)(bad:Bool):Option (AV×List (List AV)):=kTup v λcs=>ze5 cs ke ne se le bd self bad
abbrev ze21(n_1 ke ne:Int)(se:Bz)(le bd:Rz)(self:Int)(bad:Bool):Option (AV×List (List AV)):=kOpt (EVd (EV cfg) 248 [.ptr 0 0 0,.int .i64 (qzQ .i64 ((- 1)*qzQ .i64 n_1))] 7 [[.int .i64 ke,.int .i64 ne,.str se,.sl le,.sl bd,.int .i64 self,.bool bad]]) λq=>ze2 q
abbrev ze20(n_1 ke ne:Int)(se:Bz)(le bd:Rz)(self:Int)(bad:Bool):Option (AV×List (List AV)):=bif decide (n_1>576460752303423488)then ze1 ke ne se le bd self bad else ze21 n_1 ke ne se le bd self bad
abbrev ze19(n ke ne:Int)(se:Bz)(le bd:Rz)(self:Int)(bad:Bool)(n_1:Int):Option (AV×List (List AV)):=bif decide (n>0)then ze1 ke ne se le bd self bad else ze20 n_1 ke ne se le bd self bad
abbrev ze18(cs:List AV)(n ke ne:Int)(se:Bz)(le bd:Rz)(self:Int)(bad:Bool)(n_1:Int):Option (AV×List (List AV)):=kNil cs (ze19 n ke ne se le bd self bad n_1)
abbrev ze17(c:AV)(cs:List AV)(n ke ne:Int)(se:Bz)(le bd:Rz)(self:Int)(bad:Bool):Option (AV×List (List AV)):=kInt .u64 c λn_1=>ze18 cs n ke ne se le bd self bad n_1
abbrev ze16(cs:List AV)(n ke ne:Int)(se:Bz)(le bd:Rz)(self:Int)(bad:Bool):Option (AV×List (List AV)):=qa cs λc cs=>ze17 c cs n ke ne se le bd self bad
abbrev ze15(c:AV)(cs:List AV)(ke ne:Int)(se:Bz)(le bd:Rz)(self:Int)(bad:Bool):Option (AV×List (List AV)):=kInt .u64 c λn=>ze16 cs n ke ne se le bd self bad
abbrev ze14(cs:List AV)(ke ne:Int)(se:Bz)(le bd:Rz)(self:Int)(bad:Bool):Option (AV×List (List AV)):=qa cs λc cs=>ze15 c cs ke ne se le bd self bad
abbrev ze13(v:AV)(ke ne:Int)(se:Bz)(le bd:Rz)(self:Int)(bad:Bool):Option (AV×List (List AV)):=kTup v λcs=>ze14 cs ke ne se le bd self bad
theorem qnD(ke ne:Int)(se:Bz)(le bd:Rz)(self:Int)(bad:Bool)(a b:Int){P:AV×List (List AV)->Prop}(h:Gets (bif decide (a<0)then bif decide (b<0)then kOpt (EVs (EV cfg) 280 [.int .u64 (qzQ .u64 (qzQ .i64 (0 - a))),.int .u64 (qzQ .u64 (qzQ .i64 (0 - b)))]) λv=>ze4 v ke ne se le bd self bad else kOpt (EVs (EV cfg) 280 [.int .u64 (qzQ .u64 (qzQ .i64 (0 - a))),.int .u64 (qzQ .u64 b)]) λv=>ze13 v ke ne se le bd self bad else bif decide (b<0)then kOpt (EVs (EV cfg) 280 [.int .u64 (qzQ .u64 a),.int .u64 (qzQ .u64 (qzQ .i64 (0 - b)))]) λv=>ze13 v ke ne se le bd self bad else kOpt (EVs (EV cfg) 280 [.int .u64 (qzQ .u64 a),.int .u64 (qzQ .u64 b)]) λv=>ze4 v ke ne se le bd self bad) P):Gets (EVd (EV cfg) 271 [.ptr 0 0 0,.int .i64 a,.int .i64 b] 7 [[AV.int .i64 ke,AV.int .i64 ne,AV.str se,AV.sl le,AV.sl bd,AV.int .i64 self,AV.bool bad]]) P:=
  gE (λ_=>funD rfl rfl Tryz.func271 rfl) (by kernel_rfl) h
abbrev ze23(n ke ne:Int)(se:Bz)(le bd:Rz)(self:Int)(bad:Bool):Option (AV×List (List AV)):=kOpt (EVd (EV cfg) 248 [.ptr 0 0 0,.int .i64 n] 7 [[.int .i64 ke,.int .i64 ne,.str se,.sl le,.sl bd,.int .i64 self,.bool bad]]) λq=>ze2 q
abbrev ze22(v:AV)(ke ne:Int)(se:Bz)(le bd:Rz)(self:Int)(bad:Bool):Option (AV×List (List AV)):=kInt .i64 v λn=>ze23 n ke ne se le bd self bad
theorem qga(ke ne:Int)(se:Bz)(le bd:Rz)(self:Int)(bad:Bool)(op:Bz)(a b:Int){P:AV×List (List AV)->Prop}(h:Gets (bif bad then some (.agg [.int .i64 0,.int .i64 0,.str [],.sl []],[[.int .i64 ke,.int .i64 ne,.str se,.sl le,.sl bd,.int .i64 self,.bool bad]])else bif op==[(43:UInt8)]then kOpt (EVd (EV cfg) 248 [.ptr 0 0 0,.int .i64 (qzQ .i64 (a+b))] 7 [[.int .i64 ke,.int .i64 ne,.str se,.sl le,.sl bd,.int .i64 self,.bool bad]]) λq=>ze2 q else bif op==[(45:UInt8)]then kOpt (EVd (EV cfg) 248 [.ptr 0 0 0,.int .i64 (qzQ .i64 (a - b))] 7 [[.int .i64 ke,.int .i64 ne,.str se,.sl le,.sl bd,.int .i64 self,.bool bad]]) λq=>ze2 q else bif op==[(42:UInt8)]then kOpt (EVd (EV cfg) 271 [.ptr 0 0 0,.int .i64 a,.int .i64 b] 7 [[.int .i64 ke,.int .i64 ne,.str se,.sl le,.sl bd,.int .i64 self,.bool bad]]) λq=>ze2 q else bif op==[(98:UInt8),(97:UInt8),(110:UInt8),(100:UInt8)]then kOpt (qP (Op.intBits BinOp.and .i64 a b)) λv=>ze22 v ke ne se le bd self bad else bif op==[(98:UInt8),(111:UInt8),(114:UInt8)]then kOpt (qP (Op.intBits BinOp.or .i64 a b)) λv=>ze22 v ke ne se le bd self bad else bif op==[(98:UInt8),(120:UInt8),(111:UInt8),(114:UInt8)]then kOpt (qP (Op.intBits BinOp.xor .i64 a b)) λv=>ze22 v ke ne se le bd self bad else bif b==0 then ze1 ke ne se le bd self bad else bif op==[(100:UInt8),(105:UInt8),(118:UInt8)]then kOpt (qP (Op.intDiv BinOp.quo .i64 a b)) λv=>ze22 v ke ne se le bd self bad else kOpt (qP (Op.intDiv BinOp.rem .i64 a b)) λv=>ze22 v ke ne se le bd self bad) P):Gets (EVd (EV cfg) 253 [.ptr 0 0 0,.str op,.int .i64 a,.int .i64 b] 7 [[AV.int .i64 ke,AV.int .i64 ne,AV.str se,AV.sl le,AV.sl bd,AV.int .i64 self,AV.bool bad]]) P:=
  gE (λ_=>funD rfl rfl Tryz.func253 rfl) (by kernel_rfl) h
theorem quY(ke ne:Int)(se:Bz)(le bd:Rz)(self:Int)(bad:Bool)(kt nt:Int)(st:Bz)(lt:Rz){P:MV×List (List AV)->Prop}(h:Gets (bif kt != 1 then kOpt (EVd (EV cfg) 250 [.ptr 0 0 0] 7 [[.int .i64 ke,.int .i64 ne,.str se,.sl le,.sl bd,.int .i64 self,.bool bad]]) λq=>kTmV q.1 λn n s rows=>(some (MV.int .i64 nt,q.2))else some (MV.int .i64 nt,[[.int .i64 ke,.int .i64 ne,.str se,.sl le,.sl bd,.int .i64 self,.bool bad]])) P):Gets (EVm (EV cfg) 249 [.ptr 0 0 0,.agg [.int .i64 kt,.int .i64 nt,.str st,.sl lt]] 7 [[AV.int .i64 ke,AV.int .i64 ne,AV.str se,AV.sl le,AV.sl bd,AV.int .i64 self,AV.bool bad]]) P:=
  gE (λ_=>funM rfl rfl Tryz.func249 rfl) (by kernel_rfl) h
abbrev ze24(q:AV×List (List AV))(st:Bz):Option (MV×List (List AV)):=kTmV q.1 λn n s rows=>(some (MV.bool (st==[(116:UInt8),(114:UInt8),(117:UInt8),(101:UInt8)]),q.2))
theorem qtr(ke ne:Int)(se:Bz)(le bd:Rz)(self:Int)(bad:Bool)(kt nt:Int)(st:Bz)(lt:Rz){P:MV×List (List AV)->Prop}(h:Gets (bif kt != 2 then kOpt (EVd (EV cfg) 250 [.ptr 0 0 0] 7 [[.int .i64 ke,.int .i64 ne,.str se,.sl le,.sl bd,.int .i64 self,.bool bad]]) λq=>ze24 q st else bif ! st==[(116:UInt8),(114:UInt8),(117:UInt8),(101:UInt8)]then bif ! st==[(102:UInt8),(97:UInt8),(108:UInt8),(115:UInt8),(101:UInt8)]then kOpt (EVd (EV cfg) 250 [.ptr 0 0 0] 7 [[.int .i64 ke,.int .i64 ne,.str se,.sl le,.sl bd,.int .i64 self,.bool bad]]) λq=>ze24 q st else some (MV.bool (st==[(116:UInt8),(114:UInt8),(117:UInt8),(101:UInt8)]),[[.int .i64 ke,.int .i64 ne,.str se,.sl le,.sl bd,.int .i64 self,.bool bad]])else some (MV.bool (st==[(116:UInt8),(114:UInt8),(117:UInt8),(101:UInt8)]),[[.int .i64 ke,.int .i64 ne,.str se,.sl le,.sl bd,.int .i64 self,.bool bad]])) P):Gets (EVm (EV cfg) 244 [.ptr 0 0 0,.agg [.int .i64 kt,.int .i64 nt,.str st,.sl lt]] 7 [[AV.int .i64 ke,AV.int .i64 ne,AV.str se,AV.sl le,AV.sl bd,AV.int .i64 self,AV.bool bad]]) P:=
  gE (λ_=>funM rfl rfl Tryz.func244 rfl) (by kernel_rfl) h
abbrev ze26(n n_1:Int)(s:Bz)(rows:Rz)(ke ne:Int)(se:Bz)(le bd:Rz)(self:Int)(bad:Bool):Option (AV×List (List AV)):=(some (.agg [.int .i64 n,.int .i64 n_1,.str s,.sl rows],[[.int .i64 ke,.int .i64 ne,.str se,.sl le,.sl bd,.int .i64 self,.bool bad]]))
abbrev ze25(v:AV)(ke ne:Int)(se:Bz)(le bd:Rz)(self:Int)(bad:Bool):Option (AV×List (List AV)):=kTmV v λn n_1 s rows=>ze26 n n_1 s rows ke ne se le bd self bad
abbrev ze34(n n_1:Int)(s:Bz)(rows:Rz)(q:MV×List (List AV)):Option (AV×List (List AV)):=(some (.agg [.int .i64 n,.int .i64 n_1,.str s,.sl rows],q.2))
abbrev ze33(v:AV)(q:MV×List (List AV)):Option (AV×List (List AV)):=kTmV v λn n_1 s rows=>ze34 n n_1 s rows q
abbrev ze32(b_1:Bool)(q:MV×List (List AV)):Option (AV×List (List AV)):=kOpt (EVf (EV cfg) 247 [.bool b_1]) λv=>ze33 v q
abbrev ze35(q:MV×List (List AV)):Option (AV×List (List AV)):=kOpt (EVf (EV cfg) 247 [.bool false]) λv=>ze33 v q
abbrev ze31(b b_1:Bool)(q:MV×List (List AV)):Option (AV×List (List AV)):=bif b then ze32 b_1 q else ze35 q
abbrev ze30(q:MV×List (List AV))(b:Bool):Option (AV×List (List AV)):=qaO q.1 λb_1=>ze31 b b_1 q
abbrev ze29(kb nb:Int)(sb:Bz)(lb:Rz)(q:MV×List (List AV))(b:Bool):Option (AV×List (List AV)):=kOpt (EVm (EV cfg) 244 [.ptr 0 0 0,.agg [.int .i64 kb,.int .i64 nb,.str sb,.sl lb]] 7 q.2) λq=>ze30 q b
abbrev ze28(q:MV×List (List AV))(kb nb:Int)(sb:Bz)(lb:Rz):Option (AV×List (List AV)):=qaO q.1 λb=>ze29 kb nb sb lb q b
abbrev ze27(ka na:Int)(sa:Bz)(la:Rz)(ke ne:Int)(se:Bz)(le bd:Rz)(self:Int)(bad:Bool)(kb nb:Int)(sb:Bz)(lb:Rz):Option (AV×List (List AV)):=kOpt (EVm (EV cfg) 244 [.ptr 0 0 0,.agg [.int .i64 ka,.int .i64 na,.str sa,.sl la]] 7 [[.int .i64 ke,.int .i64 ne,.str se,.sl le,.sl bd,.int .i64 self,.bool bad]]) λq=>ze28 q kb nb sb lb
abbrev ze41(q:MV×List (List AV)):Option (AV×List (List AV)):=kOpt (EVf (EV cfg) 247 [.bool true]) λv=>ze33 v q
abbrev ze40(b:Bool)(q:MV×List (List AV))(b_1:Bool):Option (AV×List (List AV)):=bif b then ze41 q else ze32 b_1 q
abbrev ze39(q:MV×List (List AV))(b:Bool):Option (AV×List (List AV)):=qaO q.1 λb_1=>ze40 b q b_1
abbrev ze38(kb nb:Int)(sb:Bz)(lb:Rz)(q:MV×List (List AV))(b:Bool):Option (AV×List (List AV)):=kOpt (EVm (EV cfg) 244 [.ptr 0 0 0,.agg [.int .i64 kb,.int .i64 nb,.str sb,.sl lb]] 7 q.2) λq=>ze39 q b
abbrev ze37(q:MV×List (List AV))(kb nb:Int)(sb:Bz)(lb:Rz):Option (AV×List (List AV)):=qaO q.1 λb=>ze38 kb nb sb lb q b
abbrev ze36(ka na:Int)(sa:Bz)(la:Rz)(ke ne:Int)(se:Bz)(le bd:Rz)(self:Int)(bad:Bool)(kb nb:Int)(sb:Bz)(lb:Rz):Option (AV×List (List AV)):=kOpt (EVm (EV cfg) 244 [.ptr 0 0 0,.agg [.int .i64 ka,.int .i64 na,.str sa,.sl la]] 7 [[.int .i64 ke,.int .i64 ne,.str se,.sl le,.sl bd,.int .i64 self,.bool bad]]) λq=>ze37 q kb nb sb lb
abbrev ze42(q:MV×List (List AV)):Option (AV×List (List AV)):=kOpt (EVd (EV cfg) 250 [.ptr 0 0 0] 7 q.2) λq=>ze2 q
theorem quV(ke ne:Int)(se:Bz)(le bd:Rz)(self:Int)(bad:Bool)(op:Bz)(ka na:Int)(sa:Bz)(la:Rz)(kb nb:Int)(sb:Bz)(lb:Rz){P:AV×List (List AV)->Prop}(h:Gets (bif op==[(61:UInt8),(61:UInt8)]then kOpt (EVs (EV cfg) 252 [.agg [.int .i64 ka,.int .i64 na,.str sa,.sl la],.agg [.int .i64 kb,.int .i64 nb,.str sb,.sl lb]]) λv=>kInt .i64 v λn=>kOpt (EVf (EV cfg) 247 [.bool (n==0)]) λv=>ze25 v ke ne se le bd self bad else bif op==[(61:UInt8),(58:UInt8),(61:UInt8)]then kOpt (EVs (EV cfg) 252 [.agg [.int .i64 ka,.int .i64 na,.str sa,.sl la],.agg [.int .i64 kb,.int .i64 nb,.str sb,.sl lb]]) λv=>kInt .i64 v λn=>kOpt (EVf (EV cfg) 247 [.bool (n==0)]) λv=>ze25 v ke ne se le bd self bad else bif op==[(47:UInt8),(61:UInt8)]then kOpt (EVs (EV cfg) 252 [.agg [.int .i64 ka,.int .i64 na,.str sa,.sl la],.agg [.int .i64 kb,.int .i64 nb,.str sb,.sl lb]]) λv=>kInt .i64 v λn=>kOpt (EVf (EV cfg) 247 [.bool (n != 0)]) λv=>ze25 v ke ne se le bd self bad else bif op==[(61:UInt8),(47:UInt8),(61:UInt8)]then kOpt (EVs (EV cfg) 252 [.agg [.int .i64 ka,.int .i64 na,.str sa,.sl la],.agg [.int .i64 kb,.int .i64 nb,.str sb,.sl lb]]) λv=>kInt .i64 v λn=>kOpt (EVf (EV cfg) 247 [.bool (n != 0)]) λv=>ze25 v ke ne se le bd self bad else bif op==[(60:UInt8)]then kOpt (EVs (EV cfg) 252 [.agg [.int .i64 ka,.int .i64 na,.str sa,.sl la],.agg [.int .i64 kb,.int .i64 nb,.str sb,.sl lb]]) λv=>kInt .i64 v λn=>kOpt (EVf (EV cfg) 247 [.bool (decide (n<0))]) λv=>ze25 v ke ne se le bd self bad else bif op==[(61:UInt8),(60:UInt8)]then kOpt (EVs (EV cfg) 252 [.agg [.int .i64 ka,.int .i64 na,.str sa,.sl la],.agg [.int .i64 kb,.int .i64 nb,.str sb,.sl lb]]) λv=>kInt .i64 v λn=>kOpt (EVf (EV cfg) 247 [.bool (decide (n<=0))]) λv=>ze25 v ke ne se le bd self bad else bif op==[(62:UInt8)]then kOpt (EVs (EV cfg) 252 [.agg [.int .i64 ka,.int .i64 na,.str sa,.sl la],.agg [.int .i64 kb,.int .i64 nb,.str sb,.sl lb]]) λv=>kInt .i64 v λn=>kOpt (EVf (EV cfg) 247 [.bool (decide (n>0))]) λv=>ze25 v ke ne se le bd self bad else bif op==[(62:UInt8),(61:UInt8)]then kOpt (EVs (EV cfg) 252 [.agg [.int .i64 ka,.int .i64 na,.str sa,.sl la],.agg [.int .i64 kb,.int .i64 nb,.str sb,.sl lb]]) λv=>kInt .i64 v λn=>kOpt (EVf (EV cfg) 247 [.bool (decide (n≥0))]) λv=>ze25 v ke ne se le bd self bad else bif op==[(97:UInt8),(110:UInt8),(100:UInt8)]then ze27 ka na sa la ke ne se le bd self bad kb nb sb lb else bif op==[(97:UInt8),(110:UInt8),(100:UInt8),(97:UInt8),(108:UInt8),(115:UInt8),(111:UInt8)]then ze27 ka na sa la ke ne se le bd self bad kb nb sb lb else bif op==[(111:UInt8),(114:UInt8)]then ze36 ka na sa la ke ne se le bd self bad kb nb sb lb else bif op==[(111:UInt8),(114:UInt8),(101:UInt8),(108:UInt8),(115:UInt8),(101:UInt8)]then ze36 ka na sa la ke ne se le bd self bad kb nb sb lb else bif op==[(120:UInt8),(111:UInt8),(114:UInt8)]then kOpt (EVm (EV cfg) 244 [.ptr 0 0 0,.agg [.int .i64 ka,.int .i64 na,.str sa,.sl la]] 7 [[.int .i64 ke,.int .i64 ne,.str se,.sl le,.sl bd,.int .i64 self,.bool bad]]) λq=>qaO q.1 λb=>kOpt (EVm (EV cfg) 244 [.ptr 0 0 0,.agg [.int .i64 kb,.int .i64 nb,.str sb,.sl lb]] 7 q.2) λq=>qaO q.1 λb_1=>kOpt (EVf (EV cfg) 247 [.bool ! b==b_1]) λv=>ze33 v q else bif op==[(101:UInt8),(108:UInt8),(101:UInt8),(109:UInt8),(101:UInt8),(110:UInt8),(116:UInt8)]then kOpt (EVm (EV cfg) 249 [.ptr 0 0 0,.agg [.int .i64 ka,.int .i64 na,.str sa,.sl la]] 7 [[.int .i64 ke,.int .i64 ne,.str se,.sl le,.sl bd,.int .i64 self,.bool bad]]) λq=>qbr .i64 q.1 λn=>bif decide (n≥1)then bif kb==7 then bif decide (n<=(↑ (qzO lb):Int))then bif qe 0 (qzQ .i64 (n - 1))&&qu (qzQ .i64 (n - 1)) (lb.length:Int)then kOpt (qzU lb (qzV (qzQ .i64 (n - 1)))) λrow=>bif qzP (qzO row) 4 then bif qz8 4 (qzO row)then kTmC (qzT 4 row) λn n_1 s rows=>ze34 n n_1 s rows q else none else none else none else ze42 q else ze42 q else ze42 q else kOpt (EVm (EV cfg) 249 [.ptr 0 0 0,.agg [.int .i64 ka,.int .i64 na,.str sa,.sl la]] 7 [[.int .i64 ke,.int .i64 ne,.str se,.sl le,.sl bd,.int .i64 self,.bool bad]]) λq=>qbr .i64 q.1 λn=>kOpt (EVm (EV cfg) 249 [.ptr 0 0 0,.agg [.int .i64 kb,.int .i64 nb,.str sb,.sl lb]] 7 q.2) λq=>qbr .i64 q.1 λn_1=>kOpt (EVd (EV cfg) 253 [.ptr 0 0 0,.str op,.int .i64 n,.int .i64 n_1] 7 q.2) λq=>ze2 q) P):Gets (EVd (EV cfg) 231 [.ptr 0 0 0,.str op,.agg [.int .i64 ka,.int .i64 na,.str sa,.sl la],.agg [.int .i64 kb,.int .i64 nb,.str sb,.sl lb]] 7 [[AV.int .i64 ke,AV.int .i64 ne,AV.str se,AV.sl le,AV.sl bd,AV.int .i64 self,AV.bool bad]]) P:=
  gE (λ_=>funD rfl rfl Tryz.func231 rfl) (by kernel_rfl) h
abbrev ze43(n:Int)(q:MV×List (List AV)):Option (AV×List (List AV)):=kOpt (EVd (EV cfg) 248 [.ptr 0 0 0,.int .i64 n] 7 q.2) λq=>ze2 q
abbrev ze45(lt:Rz)(ke ne:Int)(se:Bz)(le bd:Rz)(self:Int)(bad:Bool):Option (AV×List (List AV)):=kOpt (EVd (EV cfg) 248 [.ptr 0 0 0,.int .i64 (↑ (qzO lt):Int)] 7 [[.int .i64 ke,.int .i64 ne,.str se,.sl le,.sl bd,.int .i64 self,.bool bad]]) λq=>ze2 q
abbrev ze44(kt ke ne:Int)(se:Bz)(le bd:Rz)(self:Int)(bad:Bool)(lt:Rz):Option (AV×List (List AV)):=bif kt != (7:Int)then ze1 ke ne se le bd self bad else ze45 lt ke ne se le bd self bad
theorem quW(ke ne:Int)(se:Bz)(le bd:Rz)(self:Int)(bad:Bool)(op:Bz)(kt nt:Int)(st:Bz)(lt:Rz){P:AV×List (List AV)->Prop}(h:Gets (bif op==[(105:UInt8),(115:UInt8),(95:UInt8),(97:UInt8),(116:UInt8),(111:UInt8),(109:UInt8)]then kOpt (EVf (EV cfg) 247 [.bool (kt==2)]) λv=>ze25 v ke ne se le bd self bad else bif op==[(105:UInt8),(115:UInt8),(95:UInt8),(105:UInt8),(110:UInt8),(116:UInt8),(101:UInt8),(103:UInt8),(101:UInt8),(114:UInt8)]then kOpt (EVf (EV cfg) 247 [.bool (kt==1)]) λv=>ze25 v ke ne se le bd self bad else bif op==[(105:UInt8),(115:UInt8),(95:UInt8),(108:UInt8),(105:UInt8),(115:UInt8),(116:UInt8)]then bif kt==9 then kOpt (EVf (EV cfg) 247 [.bool true]) λv=>ze25 v ke ne se le bd self bad else kOpt (EVf (EV cfg) 247 [.bool (kt==8)]) λv=>ze25 v ke ne se le bd self bad else bif op==[(105:UInt8),(115:UInt8),(95:UInt8),(116:UInt8),(117:UInt8),(112:UInt8),(108:UInt8),(101:UInt8)]then kOpt (EVf (EV cfg) 247 [.bool (kt==7)]) λv=>ze25 v ke ne se le bd self bad else bif op==[(105:UInt8),(115:UInt8),(95:UInt8),(112:UInt8),(105:UInt8),(100:UInt8)]then kOpt (EVf (EV cfg) 247 [.bool (kt==6)]) λv=>ze25 v ke ne se le bd self bad else bif op==[(105:UInt8),(115:UInt8),(95:UInt8),(102:UInt8),(117:UInt8),(110:UInt8),(99:UInt8),(116:UInt8),(105:UInt8),(111:UInt8),(110:UInt8)]then kOpt (EVf (EV cfg) 247 [.bool (kt==5)]) λv=>ze25 v ke ne se le bd self bad else bif op==[(105:UInt8),(115:UInt8),(95:UInt8),(114:UInt8),(101:UInt8),(102:UInt8),(101:UInt8),(114:UInt8),(101:UInt8),(110:UInt8),(99:UInt8),(101:UInt8)]then bif kt==3 then kOpt (EVf (EV cfg) 247 [.bool true]) λv=>ze25 v ke ne se le bd self bad else kOpt (EVf (EV cfg) 247 [.bool (kt==4)]) λv=>ze25 v ke ne se le bd self bad else bif op==[(110:UInt8),(111:UInt8),(116:UInt8)]then kOpt (EVm (EV cfg) 244 [.ptr 0 0 0,.agg [.int .i64 kt,.int .i64 nt,.str st,.sl lt]] 7 [[.int .i64 ke,.int .i64 ne,.str se,.sl le,.sl bd,.int .i64 self,.bool bad]]) λq=>qaO q.1 λb=>kOpt (EVf (EV cfg) 247 [.bool ! b]) λv=>ze33 v q else bif op==[(98:UInt8),(110:UInt8),(111:UInt8),(116:UInt8)]then kOpt (EVm (EV cfg) 249 [.ptr 0 0 0,.agg [.int .i64 kt,.int .i64 nt,.str st,.sl lt]] 7 [[.int .i64 ke,.int .i64 ne,.str se,.sl le,.sl bd,.int .i64 self,.bool bad]]) λq=>qbr .i64 q.1 λn=>kOpt (qP (Op.intBits BinOp.xor .i64 (- 1) n)) λv=>kInt .i64 v λn=>ze43 n q else bif op==[(43:UInt8)]then kOpt (EVm (EV cfg) 249 [.ptr 0 0 0,.agg [.int .i64 kt,.int .i64 nt,.str st,.sl lt]] 7 [[.int .i64 ke,.int .i64 ne,.str se,.sl le,.sl bd,.int .i64 self,.bool bad]]) λq=>qbr .i64 q.1 λn=>ze43 n q else bif op==[(45:UInt8)]then kOpt (EVm (EV cfg) 249 [.ptr 0 0 0,.agg [.int .i64 kt,.int .i64 nt,.str st,.sl lt]] 7 [[.int .i64 ke,.int .i64 ne,.str se,.sl le,.sl bd,.int .i64 self,.bool bad]]) λq=>qbr .i64 q.1 λn=>kOpt (EVd (EV cfg) 248 [.ptr 0 0 0,.int .i64 (qzQ .i64 (0 - n))] 7 q.2) λq=>ze2 q else bif op==[(97:UInt8),(98:UInt8),(115:UInt8)]then kOpt (EVm (EV cfg) 249 [.ptr 0 0 0,.agg [.int .i64 kt,.int .i64 nt,.str st,.sl lt]] 7 [[.int .i64 ke,.int .i64 ne,.str se,.sl le,.sl bd,.int .i64 self,.bool bad]]) λq=>qbr .i64 q.1 λn=>kOpt (EVd (EV cfg) 248 [.ptr 0 0 0,.int .i64 (if(λb a=>decide (a<b)) (qzQ .i64 (0 - nt)) n=true then qzQ .i64 (0 - nt)else n)] 7 q.2) λq=>ze2 q else bif op==[(116:UInt8),(117:UInt8),(112:UInt8),(108:UInt8),(101:UInt8),(95:UInt8),(115:UInt8),(105:UInt8),(122:UInt8),(101:UInt8)]then ze44 kt ke ne se le bd self bad lt else bif op==[(115:UInt8),(105:UInt8),(122:UInt8),(101:UInt8)]then ze44 kt ke ne se le bd self bad lt else kOpt (EVd (EV cfg) 251 [.ptr 0 0 0,.str op,.agg [.int .i64 kt,.int .i64 nt,.str st,.sl lt]] 7 [[.int .i64 ke,.int .i64 ne,.str se,.sl le,.sl bd,.int .i64 self,.bool bad]]) λq=>ze2 q) P):Gets (EVd (EV cfg) 230 [.ptr 0 0 0,.str op,.agg [.int .i64 kt,.int .i64 nt,.str st,.sl lt]] 7 [[AV.int .i64 ke,AV.int .i64 ne,AV.str se,AV.sl le,AV.sl bd,AV.int .i64 self,AV.bool bad]]) P:=
  gE (λ_=>funD rfl rfl Tryz.func230 rfl) (by kernel_rfl) h
theorem qrp(ke ne:Int)(se:Bz)(le bd:Rz)(self:Int)(bad:Bool)(op:Bz)(L:Rz){P:AV×List (List AV)->Prop}(h:Gets (bif(L.length:Int)==1 then bif qu 0 (L.length:Int)then kOpt (qzU L 0) λrow=>bif qzP (qzO row) 4 then bif qz8 4 (qzO row)then kTmC (qzT 4 row) λn n_1 s rows=>(kOpt (EVd (EV cfg) 230 [.ptr 0 0 0,.str op,.agg [.int .i64 n,.int .i64 n_1,.str s,.sl rows]] 7 [[.int .i64 ke,.int .i64 ne,.str se,.sl le,.sl bd,.int .i64 self,.bool bad]]) λq=>kTmV q.1 λn n_2 s rows=>(some (.agg [.int .i64 n,.int .i64 n_2,.str s,.sl rows],q.2)))else none else none else none else bif(L.length:Int)==2 then bif qu 0 (L.length:Int)then kOpt (qzU L 0) λrow=>bif qzP (qzO row) 4 then bif qz8 4 (qzO row)then kTmC (qzT 4 row) λn n_1 s rows=>(bif qu 1 (L.length:Int)then kOpt (qzU L 1) λrow=>bif qzP (qzO row) 4 then bif qz8 4 (qzO row)then kTmC (qzT 4 row) λn_2 n_3 s_1 rows_1=>(kOpt (EVd (EV cfg) 231 [.ptr 0 0 0,.str op,.agg [.int .i64 n,.int .i64 n_1,.str s,.sl rows],.agg [.int .i64 n_2,.int .i64 n_3,.str s_1,.sl rows_1]] 7 [[.int .i64 ke,.int .i64 ne,.str se,.sl le,.sl bd,.int .i64 self,.bool bad]]) λq=>kTmV q.1 λn n_4 s rows=>(some (.agg [.int .i64 n,.int .i64 n_4,.str s,.sl rows],q.2)))else none else none else none)else none else none else none else some (.agg [.int .i64 6,.int .i64 self,.str [],.sl []],[[.int .i64 ke,.int .i64 ne,.str se,.sl le,.sl bd,.int .i64 self,.bool bad]])) P):Gets (EVd (EV cfg) 205 [.ptr 0 0 0,.str op,.sl L] 7 [[AV.int .i64 ke,AV.int .i64 ne,AV.str se,AV.sl le,AV.sl bd,AV.int .i64 self,AV.bool bad]]) P:=
  gE (λ_=>funD rfl rfl Tryz.func205 rfl) (by kernel_rfl) h
theorem qrT(op:Bz)(L:Rz)(pid:Int){P:AV->Prop}(h:Gets (kOpt (EVf (EV cfg) 174 [.str op]) λv=>kSl v λrows=>kOpt (EVs (EV cfg) 172 [.sl rows,.int .i64 (L.length:Int)]) λv=>qq v λb=>bif ! b then some (AV.tup [.agg [.int .i64 0,.int .i64 0,.str [],.sl []],.int .i64 2])else kOpt (EVs (EV cfg) 204 [.int .i64 pid]) λv=>qq v λb=>bif ! b then some (AV.tup [.agg [.int .i64 0,.int .i64 0,.str [],.sl []],.int .i64 2])else qiN op L pid 0 (0:Int) 0 [] []) P):Gets (EVf (EV cfg) 155 [.str op,.sl L,.int .i64 pid]) P:=
  gE (λ_=>funF rfl rfl Tryz.func155 rfl) (by kernel_rfl) h
theorem qhr(A:Rz)(n v8:Int){P:AV->Prop}(h:Gets (bif decide (v8<(A.length:Int))then bif qe 0 v8&&qu v8 (A.length:Int)then kOpt (qzU A (v8.toNat)) λrow=>bif qzP (qzO row) 1 then kOpt (qzU row 0) λv=>kInt .i64 v λn_1=>bif n==n_1 then some (.int .i64 v8)else qiM A n (qzQ .i64 (v8+1))else none else none else some (.int .i64 (- 1))) P):Gets (qiM A n v8) P:=
  gE (λ_=>qM (cfg:=cfg) (f:=211) (rd:=none) (bs:=0)) (by kernel_rfl) h
theorem qhs(op:Bz)(L:Rz)(pid v26 c0_0 c0_1:Int)(c0_2:Bz)(c0_3:Rz){P:AV->Prop}(h:Gets (bif decide (v26<(L.length:Int))then bif qe 0 v26&&qu v26 (L.length:Int)then kOpt (qzU L (v26.toNat)) λrow=>bif qzP (qzO row) 4 then bif qz8 4 (qzO row)then kTmC (qzT 4 row) λn n_1 s rows=>(kOpt (EVs (EV cfg) 83 [.agg [.int .i64 n,.int .i64 n_1,.str s,.sl rows]]) λv=>kInt .i64 v λn=>bif n != 0 then some (AV.tup [.agg [.int .i64 0,.int .i64 0,.str [],.sl []],.int .i64 2])else qiN op L pid (qzQ .i64 (v26+1)) c0_0 c0_1 c0_2 c0_3)else none else none else none else kOpt (EVd (EV cfg) 205 [.ptr 0 0 0,.str op,.sl L] 7 [[.int .i64 0,.int .i64 0,.str [],.sl [],.sl [],.int .i64 pid,.bool false]]) λq=>kTmV q.1 λn n_1 s rows=>(kOpt (qzU q.2 0) λrow=>kOpt (qzU row 6) λv=>qq v λb=>bif b then some (AV.tup [.agg [.int .i64 0,.int .i64 0,.str [],.sl []],.int .i64 10])else kOpt (EVf (EV cfg) 45 [.agg [.int .i64 n,.int .i64 n_1,.str s,.sl rows]]) λv=>kTmV v λn n_2 s rows=>(some (AV.tup [.agg [.int .i64 n,.int .i64 n_2,.str s,.sl rows],.int .i64 0])))) P):Gets (qiN op L pid v26 c0_0 c0_1 c0_2 c0_3) P:=
  gE (λ_=>qM (cfg:=cfg) (f:=155) (rd:=none) (bs:=0)) (by kernel_rfl) h
theorem yW(e:Env)(b:Bool):EVd (EV cfg) 250 [.ptr 0 0 0] 7 (mR e b)=some (vh.av,mR e true):=by
 apply Gets.get;refine qro _ _ _ _ _ _ _ ?_;rw[vr];simp
theorem qjp(e:Env)(b:Bool)(n:Int):EVd (EV cfg) 248 [.ptr 0 0 0,.int .i64 n] 7 (mR e b)=some (if InB n then((numT n).av,mR e b)else(vh.av,mR e true)):=by
 have hr:=yW e b;apply Gets.get;refine qpr _ _ _ _ _ _ _ _ ?_;unfold ze1 ze2 ze3;simp only[hr];unfold InB;rw[qg2]
 by_cases h1:n< -576460752303423488
 ·have:¬(-576460752303423488<=n∧n<=576460752303423487):=by omega
  simp[h1,this]
 ·by_cases h2:n>576460752303423487
  ·have:¬(-576460752303423488<=n∧n<=576460752303423487):=by omega
   simp[h1,h2,this]
  ·have:(-576460752303423488<=n∧n<=576460752303423487):=by omega
   simp[h1,h2,this]
theorem zn(e:Env)(n:Int){P:AV×List (List AV)->Prop}(h:∀r,Res e (qL n) r->(∃t:Tm,r.1=t.av)->P r):Gets (EVd (EV cfg) 248 [.ptr 0 0 0,.int .i64 n] 7 (mR e false)) P:=by
 rw[qjp];refine⟨_,rfl,h _ ?_ ?_⟩
 ·unfold qL Res
  by_cases hb:InB n
  ·simp[hb]
  ·simp[hb];exact⟨_,rfl⟩
 ·by_cases hb:InB n
  ·exact⟨numT n,by simp[hb]⟩
  ·exact⟨vh,by simp[hb]⟩
theorem qgb(e:Env)(op:List UInt8)(a b:Int):EVd (EV cfg) 253 [.ptr 0 0 0,.str op,.int .i64 a,.int .i64 b] 7 (mR e true)=some (vh.av,mR e true):=by
 apply Gets.get;refine qga _ _ _ _ _ _ _ _ _ _ ?_;unfold ze22 ze23 ze1 ze2 ze3;rw[vr];simp
def yd:Prop:=∀(e:Env) (a b:Int),InB a->InB b->Gets (EVd (EV cfg) 271 [.ptr 0 0 0,.int .i64 a,.int .i64 b] 7 (mR e false)) (Res e (qL (a*b)))
theorem zQ{e:Env}{o:Option Tm}{r:AV×List (List AV)}(h:Res e o r)(ht:∃t:Tm,r.1=t.av):Gets (kTmV r.1 fun(n n_1:Int) (s:List UInt8) (rows:List (List AV))=>some (AV.agg [.int .i64 n,.int .i64 n_1,.str s,.sl rows],r.2)) (Res e o):=by
 obtain⟨t,ht⟩:=ht;rw[ht,ve];refine⟨_,rfl,?_⟩;have:(AV.agg [.int .i64 t.kind,.int .i64 t.num,.str t.str,.sl (qb t.subs)],r.2)=r:=by
  rw[←Tm.cells_eq];exact Prod.ext ht.symm rfl
 rw[this];exact h
theorem qaT{e:Env}{o:Option Tm}{r:AV×List (List AV)}(h:Res e o r):∃t:Tm,r.1=t.av:=by
 unfold Res at h;split at h
 ·exact⟨_,by rw[h]⟩
 ·exact h.2
theorem qpq(e:Env)(op:List UInt8){a b:Int}(ha:InB a)(hb:InB b)(hp:op=[42]->yd):Gets (EVd (EV cfg) 253 [.ptr 0 0 0,.str op,.int .i64 a,.int .i64 b] 7 (mR e false)) (Res e (xW op a b)):=by
 have num:∀n,Gets (kOpt (EVd (EV cfg) 248 [.ptr 0 0 0,.int .i64 n] 7 (mR e false)) λq=>kTmV q.1 fun(n n_1:Int) (s:List UInt8) (rows:List (List AV))=>some (AV.agg [.int .i64 n,.int .i64 n_1,.str s,.sl rows],q.2)) (Res e (qL n)):=
  λn=>Gets.bind (zn e n λr h1 h2=>h1) λr h=>zQ h (qaT h)
 refine qga _ _ _ _ _ _ _ _ _ _ ?_;unfold ze22 ze23 ze1 ze2 ze3;have ha':=ha;have hb':=hb;obtain⟨a1,a2⟩:=ha;obtain⟨b1,b2⟩:=hb;simp only[beqS,beqD,cond_false];unfold xW
 by_cases h1:op=[43]
 ·rw[qAw h1,qAu h1,cond_true,qS (by omega) (by omega)];exact num _
 rw[qAx h1,qAv h1,cond_false]
 by_cases h2:op=[45]
 ·rw[qAw h2,qAu h2,cond_true,qS (by omega) (by omega)];exact num _
 rw[qAx h2,qAv h2,cond_false]
 by_cases h3:op=[42]
 ·rw[qAw h3,qAu h3,cond_true];exact Gets.bind (hp h3 e a b ha' hb') λr h=>zQ h (qaT h)
 rw[qAx h3,qAv h3,cond_false]
 by_cases h4:op=[98,97,110,100]
 ·rw[qAw h4,qAu h4,cond_true,qqo ha' hb'];simp only[qc,qi];exact num _
 rw[qAx h4,qAv h4,cond_false]
 by_cases h5:op=[98,111,114]
 ·rw[qAw h5,qAu h5,cond_true,qt1 ha' hb'];simp only[qc,qi];exact num _
 rw[qAx h5,qAv h5,cond_false]
 by_cases h6:op=[98,120,111,114]
 ·rw[qAw h6,qAu h6,cond_true,qqn ha' hb'];simp only[qc,qi];exact num _
 rw[qAx h6,qAv h6,cond_false]
 by_cases h7:b=0
 ·rw[qAw h7,qAu h7,cond_true,yW];simp only[qc,ve];exact⟨_,rfl,rfl,vh,by rw[Tm.av,Tm.cells_eq]⟩
 rw[qAx h7,qAv h7,cond_false,yz h7,qjP h7]
 by_cases h8:op=[100,105,118]
 ·have:=qm1 (a:=a) h7;rw[qAw h8,qAu h8,cond_true,qS (by omega) (by omega)];simp only[qc,qi];exact num _
 ·rw[qAx h8,qAv h8,cond_false];simp only[qc,qi];exact num _
def qyZ:Den:=evC cfg (EV cfg) 269 none 0 (sub (ql Tryz.f269) [1,1,0,1,0,0])
def qzn:Ex×List AV×AH->Option AV:=kAft (Cfg.keepOut cfg 269 3) (kRun cfg (EV cfg) (kfN cfg 6) 269 none 0 (yx cfg (Cfg.lift cfg 269 0) Tryz.f269.results.toList) ([.block 0,.seq (sub (ql Tryz.f269) [1,1,1])]))
def qua:List AV×AH->Option AV:=λp=>kOpt (LOOP 0 (some [3,6,7,8]) ([]) qyZ p) qzn
def qyX:Den:=evC cfg (EV cfg) 279 none 0 (sub (ql Tryz.f279) [1,0,1,0,0])
def qzl:Ex×List AV×AH->Option AV:=kAft (Cfg.keepOut cfg 279 2) (kRun cfg (EV cfg) (kfN cfg 6) 279 none 0 (yx cfg (Cfg.lift cfg 279 0) Tryz.f279.results.toList) ([.block 0,.seq (sub (ql Tryz.f279) [1,1])]))
def qyC:List AV×AH->Option AV:=λp=>kOpt (LOOP 0 (some [0,1,2,11,12,13]) ([]) qyX p) qzl
def qy3:Den:=evC cfg (EV cfg) 252 none 0 (sub (ql Tryz.f252) [1,0,1,0,0])
def qzr:Ex×List AV×AH->Option AV:=kAft (Cfg.keepOut cfg 252 1) (kRun cfg (EV cfg) (kfN cfg 6) 252 none 0 (yx cfg (Cfg.lift cfg 252 0) Tryz.f252.results.toList) ([.block 0,.scope]))
def qyI:List AV×AH->Option AV:=λp=>kOpt (LOOP 0 (some [2,3]) ([]) qy3 p) qzr
abbrev qef(a b c v8:Int):Option (AV):=qua (((fx 18 [(3,.int .i64 (0:Int)),(6,.sl [[.int .i64 a],[.int .i64 b],[.int .i64 c]]),(7,.int .i64 (3:Int)),(8,.int .i64 v8)]):List AV),([]:AH))
abbrev qee(a b v8:Int):Option (AV):=qua (((fx 18 [(3,.int .i64 (0:Int)),(6,.sl [[.int .i64 a],[.int .i64 b]]),(7,.int .i64 (2:Int)),(8,.int .i64 v8)]):List AV),([]:AH))
abbrev qiD(A B:Rz)(v13:Int):Option (AV):=qyC (((fx 39 [(0,.sl A),(1,.sl B),(2,.fn (Fn.func 252) [] []),(11,.sl A),(12,.int .i64 (A.length:Int)),(13,.int .i64 v13)]):List AV),([]:AH))
abbrev qiH(c0_0 c0_1:Int)(c0_2:Bz)(c0_3:Rz)(c1_0 c1_1:Int)(c1_2:Bz)(c1_3:Rz):Option (AV):=qyI (((fx 117 [(2,.ptr 0 0 0),(3,.ptr 1 0 0)]):List AV),([.rows false 4 [[.int .i64 c0_0,.int .i64 c0_1,.str c0_2,.sl c0_3]],.rows false 4 [[.int .i64 c1_0,.int .i64 c1_1,.str c1_2,.sl c1_3]]]:AH))
theorem qvj(a b:Int){P:AV->Prop}(h:Gets (kOpt (EVs (EV cfg) 277 [.int .i64 a]) λv=>qq v λb_1=>kOpt (EVs (EV cfg) 277 [.int .i64 b]) λv=>qq v λb_2=>bif b_1 then bif b_2 then some (.int .i64 0)else some (.int .i64 (- 1))else bif b_2 then some (.int .i64 1)else bif decide (a<b)then some (.int .i64 (- 1))else bif decide (a>b)then some (.int .i64 1)else some (.int .i64 0)) P):Gets (EVs (EV cfg) 267 [.int .i64 a,.int .i64 b]) P:=
  gE (λ_=>funS rfl rfl Tryz.func267 rfl) (by kernel_rfl) h
theorem qtY(a b:Bz){P:AV->Prop}(h:Gets (kOpt (EVs (EV cfg) 278 [.str a,.str b]) λv=>kInt .i64 v λn=>some (.int .i64 n)) P):Gets (EVs (EV cfg) 268 [.str a,.str b]) P:=
  gE (λ_=>funS rfl rfl Tryz.func268 rfl) (by kernel_rfl) h
theorem qw9(a b c:Int){P:AV->Prop}(h:Gets (qef a b c 0) P):Gets (EVs (EV cfg) 269 [.sl [[.int .i64 a],[.int .i64 b],[.int .i64 c]]]) P:=
  gE (λ_=>funS rfl rfl Tryz.func269 rfl) (by kernel_rfl) h
theorem qxa(a b:Int){P:AV->Prop}(h:Gets (qee a b 0) P):Gets (EVs (EV cfg) 269 [.sl [[.int .i64 a],[.int .i64 b]]]) P:=
  gE (λ_=>funS rfl rfl Tryz.func269 rfl) (by kernel_rfl) h
theorem qpV(A B:Rz){P:AV->Prop}(h:Gets (qiD A B 0) P):Gets (EVs (EV cfg) 279 [.sl A,.sl B,.fn (Fn.func 252) [] []]) P:=
  gE (λ_=>funS rfl rfl Tryz.func279 rfl) (by kernel_rfl) h
theorem qrL(a:Int){P:AV->Prop}(h:Gets (some (.bool (a != a))) P):Gets (EVs (EV cfg) 277 [.int .i64 a]) P:=
  gE (λ_=>funS rfl rfl Tryz.func277 rfl) (by kernel_rfl) h
theorem qsb(a b:Bz){P:AV->Prop}(h:Gets (kOpt (EVs (EV cfg) 281 [.str a,.str b]) λv=>kInt .i64 v λn=>some (.int .i64 n)) P):Gets (EVs (EV cfg) 278 [.str a,.str b]) P:=
  gE (λ_=>funS rfl rfl Tryz.func278 rfl) (by kernel_rfl) h
theorem qji(A B:Rz){P:AV->Prop}(h:Gets (kOpt (EVs (EV cfg) 279 [.sl A,.sl B,AV.fn (Fn.func 252) [] []]) λv=>kInt .i64 v λn=>some (.int .i64 n)) P):Gets (EVs (EV cfg) 270 [.sl A,.sl B]) P:=
  gE (λ_=>funS rfl rfl Tryz.func270 rfl) (by kernel_rfl) h
theorem qf6(ka na:Int)(sa:Bz)(la:Rz)(kb nb:Int)(sb:Bz)(lb:Rz){P:AV->Prop}(h:Gets (qiH ka na sa la kb nb sb lb) P):Gets (EVs (EV cfg) 252 [.agg [.int .i64 ka,.int .i64 na,.str sa,.sl la],.agg [.int .i64 kb,.int .i64 nb,.str sb,.sl lb]]) P:=
  gE (λ_=>funS rfl rfl Tryz.func252 rfl) (by kernel_rfl) h
theorem qbP(a b c v8:Int){P:AV->Prop}(h:Gets (bif decide (v8<3)then bif qe 0 v8&&qu v8 (↑ 3:Int)then kOpt (qzU [[.int .i64 a],[.int .i64 b],[.int .i64 c]] (v8.toNat)) λrow=>bif qzP (qzO row) 1 then kOpt (qzU row 0) λv=>kInt .i64 v λn=>bif n != 0 then some (.int .i64 n)else qef a b c (qzQ .i64 (v8+1))else none else none else some (.int .i64 0)) P):Gets (qef a b c v8) P:=
  gE (λ_=>qM (cfg:=cfg) (f:=269) (rd:=none) (bs:=0)) (by kernel_rfl) h
theorem qcV(a b v8:Int){P:AV->Prop}(h:Gets (bif decide (v8<2)then bif qe 0 v8&&qu v8 (↑ 2:Int)then kOpt (qzU [[.int .i64 a],[.int .i64 b]] (v8.toNat)) λrow=>bif qzP (qzO row) 1 then kOpt (qzU row 0) λv=>kInt .i64 v λn=>bif n != 0 then some (.int .i64 n)else qee a b (qzQ .i64 (v8+1))else none else none else some (.int .i64 0)) P):Gets (qee a b v8) P:=
  gE (λ_=>qM (cfg:=cfg) (f:=269) (rd:=none) (bs:=0)) (by kernel_rfl) h
theorem qhl(A B:Rz)(v13:Int){P:AV->Prop}(h:Gets (bif decide (v13<(A.length:Int))then bif qe 0 v13&&qu v13 (A.length:Int)then kOpt (qzU A (v13.toNat)) λrow=>bif qzP (qzO row) 4 then bif qz8 4 (qzO row)then kTmC (qzT 4 row) λn n_1 s rows=>(bif decide (v13≥(↑ (qzO B):Int))then some (.int .i64 1)else bif qe 0 v13&&qu v13 (B.length:Int)then kOpt (qzU B (v13.toNat)) λrow=>bif qzP (qzO row) 4 then bif qz8 4 (qzO row)then kTmC (qzT 4 row) λn_2 n_3 s_1 rows_1=>(kOpt (EVs (EV cfg) 252 [.agg [.int .i64 n,.int .i64 n_1,.str s,.sl rows],.agg [.int .i64 n_2,.int .i64 n_3,.str s_1,.sl rows_1]]) λv=>kInt .i64 v λn=>bif n != 0 then some (.int .i64 n)else qiD A B (qzQ .i64 (v13+1)))else none else none else none)else none else none else none else bif decide ((A.length:Int)<(B.length:Int))then some (.int .i64 (- 1))else some (.int .i64 0)) P):Gets (qiD A B v13) P:=
  gE (λ_=>qM (cfg:=cfg) (f:=279) (rd:=none) (bs:=0)) (by kernel_rfl) h
abbrev zf0(c0_1 c1_1:Int):Option (AV):=kOpt (EVs (EV cfg) 267 [.int .i64 c0_1,.int .i64 c1_1]) λv=>kInt .i64 v λn=>some (.int .i64 n)
abbrev zf5(n n_1:Int):Option (AV):=kOpt (EVs (EV cfg) 269 [.sl [[.int .i64 n],[.int .i64 n_1]]]) λv=>kInt .i64 v λn=>some (.int .i64 n)
abbrev zf4(v:AV)(n:Int):Option (AV):=kInt .i64 v λn_1=>zf5 n n_1
abbrev zf3(c0_3 c1_3:Rz)(n:Int):Option (AV):=kOpt (EVs (EV cfg) 270 [.sl c0_3,.sl c1_3]) λv=>zf4 v n
abbrev zf2(v:AV)(c0_3 c1_3:Rz):Option (AV):=kInt .i64 v λn=>zf3 c0_3 c1_3 n
abbrev zf1(c0_3 c1_3:Rz):Option (AV):=kOpt (EVs (EV cfg) 267 [.int .i64 (c0_3.length:Int),.int .i64 (↑ (qzO c1_3):Int)]) λv=>zf2 v c0_3 c1_3
theorem qoK(c0_0 c0_1:Int)(c0_2:Bz)(c0_3:Rz)(c1_0 c1_1:Int)(c1_2:Bz)(c1_3:Rz){P:AV->Prop}(h:Gets (kOpt (EVs (EV cfg) 267 [.int .i64 c0_0,.int .i64 c1_0]) λv=>kInt .i64 v λn=>bif n != 0 then some (.int .i64 n)else bif c0_0==1 then zf0 c0_1 c1_1 else bif c0_0==3 then zf0 c0_1 c1_1 else bif c0_0==4 then zf0 c0_1 c1_1 else bif c0_0==6 then zf0 c0_1 c1_1 else bif c0_0==2 then kOpt (EVs (EV cfg) 268 [.str c0_2,.str c1_2]) λv=>kInt .i64 v λn=>some (.int .i64 n)else bif c0_0==5 then kOpt (EVs (EV cfg) 267 [.int .i64 c0_1,.int .i64 c1_1]) λv=>kInt .i64 v λn=>kOpt (EVs (EV cfg) 267 [.int .i64 (c0_3.length:Int),.int .i64 (c1_3.length:Int)]) λv=>kInt .i64 v λn_1=>kOpt (EVs (EV cfg) 270 [.sl c0_3,.sl c1_3]) λv=>kInt .i64 v λn_2=>kOpt (EVs (EV cfg) 269 [.sl [[.int .i64 n],[.int .i64 n_1],[.int .i64 n_2]]]) λv=>kInt .i64 v λn=>some (.int .i64 n)else bif c0_0==9 then bif(↑ (qzO c0_3):Int)==2 then bif(c1_3.length:Int)==2 then bif qu 0 (c0_3.length:Int)then kOpt (qzU c0_3 0) λrow=>bif qzP (qzO row) 4 then bif qz8 4 (qzO row)then kTmC (qzT 4 row) λn n_1 s rows=>(bif qu (0:Int) (c1_3.length:Int)then kOpt (qzU c1_3 0) λrow=>bif qzP (qzO row) 4 then bif qz8 4 (qzO row)then kTmC (qzT 4 row) λn_2 n_3 s_1 rows_1=>(kOpt (EVs (EV cfg) 252 [.agg [.int .i64 n,.int .i64 n_1,.str s,.sl rows],.agg [.int .i64 n_2,.int .i64 n_3,.str s_1,.sl rows_1]]) λv=>kInt .i64 v λn=>bif n != 0 then some (.int .i64 n)else bif qu 1 (c0_3.length:Int)then kOpt (qzU c0_3 1) λrow=>bif qzP (qzO row) 4 then bif qz8 4 (qzO row)then kTmC (qzT 4 row) λn n_4 s rows=>(bif qu 1 (c1_3.length:Int)then kOpt (qzU c1_3 1) λrow=>bif qzP (qzO row) 4 then bif qz8 4 (qzO row)then kTmC (qzT 4 row) λn_5 n_6 s_2 rows_2=>(qiH n n_4 s rows n_5 n_6 s_2 rows_2)else none else none else none)else none else none else none)else none else none else none)else none else none else none else zf1 c0_3 c1_3 else zf1 c0_3 c1_3 else bif c0_0==7 then kOpt (EVs (EV cfg) 267 [.int .i64 (c0_3.length:Int),.int .i64 (c1_3.length:Int)]) λv=>zf2 v c0_3 c1_3 else some (.int .i64 0)) P):Gets (qiH c0_0 c0_1 c0_2 c0_3 c1_0 c1_1 c1_2 c1_3) P:=
  gE (λ_=>qM (cfg:=cfg) (f:=252) (rd:=none) (bs:=0)) (by kernel_rfl) h
theorem qn0(a:Int):EVs (EV cfg) 277 [.int .i64 a]=some (.bool false):=by
 apply Gets.get;refine qrL _ ?_;simp
theorem qyq(a b:Int):EVs (EV cfg) 267 [.int .i64 a,.int .i64 b]=some (.int .i64 (numC a b)):=by
 apply Gets.get;refine qvj _ _ ?_;rw[qn0,qn0];unfold numC
 by_cases h1:a<b
 ·simp[h1]
 ·by_cases h2:b<a
  ·simp[h1,h2]
  ·simp[h1,h2]
theorem qtW(a b:List UInt8):EVs (EV cfg) 281 [.str a,.str b]=some (.int .i64 (strC a b)):=by
 refine quh (H:=[]) (qky ?_);have hx:cfg.ext 281=some qev:=rfl;unfold xn;simp only[hx];unfold qev strC
 by_cases h:a=b
 ·simp[h]
 ·simp[h]
theorem qsB(a b:List UInt8):EVs (EV cfg) 268 [.str a,.str b]=some (.int .i64 (strC a b)):=by
 have h96:EVs (EV cfg) 278 [.str a,.str b]=some (.int .i64 (strC a b)):=by
  apply Gets.get;refine qsb _ _ ?_;rw[qtW];simp
 apply Gets.get;refine qtY _ _ ?_;rw[h96];simp
theorem qx8(a b c:Int):EVs (EV cfg) 269 [.sl [[.int .i64 a],[.int .i64 b],[.int .i64 c]]]=some (.int .i64 (if a≠0 then a else if b≠0 then b else c)):=by
 apply Gets.get;refine qw9 _ _ _ ?_;have w1:qzQ .i64 (0+1)=1:=qS (by omega) (by omega);have w2:qzQ .i64 (1+1)=2:=qS (by omega) (by omega);have w3:qzQ .i64 (2+1)=3:=qS (by omega) (by omega);have s3:Gets (qef a b c 3) (·= .int .i64 0):=by
  refine qbP _ _ _ _ ?_;simp
 have s2:Gets (qef a b c 2) (·= .int .i64 c):=by
  refine qbP _ _ _ _ ?_;rw[w3]
  by_cases h:c=0
  ·subst h;simp;exact s3
  ·simp[bneD,h]
 have s1:Gets (qef a b c 1) (·= .int .i64 (if b≠0 then b else c)):=by
  refine qbP _ _ _ _ ?_;rw[w2]
  by_cases h:b=0
  ·subst h;simp;exact s2
  ·simp[bneD,h]
 refine qbP _ _ _ _ ?_;rw[w1]
 by_cases h:a=0
 ·subst h;simp only[ne_eq,ite_not]at s1;simp;exact s1
 ·simp[bneD,h]
theorem qx9(a b:Int):EVs (EV cfg) 269 [.sl [[.int .i64 a],[.int .i64 b]]]=some (.int .i64 (if a≠0 then a else b)):=by
 apply Gets.get;refine qxa _ _ ?_;have w1:qzQ .i64 (0+1)=1:=qS (by omega) (by omega);have w2:qzQ .i64 (1+1)=2:=qS (by omega) (by omega);have s2:Gets (qee a b 2) (·= .int .i64 0):=by
  refine qcV _ _ _ ?_;simp
 have s1:Gets (qee a b 1) (·= .int .i64 b):=by
  refine qcV _ _ _ ?_;rw[w2]
  by_cases h:b=0
  ·subst h;simp;exact s2
  ·simp[bneD,h]
 refine qcV _ _ _ ?_;rw[w1]
 by_cases h:a=0
 ·subst h;simp;exact s1
 ·simp[bneD,h]
theorem qif{β:Type}{l:List β}{i:Nat}{x:β}(h:l[i]? =some x):l.drop i=x::l.drop (i+1):=by
 obtain⟨h1,h2⟩:=qzW.1 h;rw[←h2];exact List.drop_eq_getElem_cons h1
theorem qk7{β:Type}{l:List β}{i:Nat}(h:l.length<=i):l.drop i=[]:=List.drop_eq_nil_of_le h
theorem qtu(la lb:List Tm)(hlen:la.length<1099511627776)(ih:∀a∈la,∀b∈lb,EVs (EV cfg) 252 [a.av,b.av]=some (.int .i64 (cmpT a b))):
  EVs (EV cfg) 279 [.sl (qb la),.sl (qb lb),.fn (.func 252) [] []]=some (.int .i64 (cmpE la lb)):=by
 have loop:∀(d i:Nat),i+d=la.length->Gets (qiD (qb la) (qb lb) i) (·= .int .i64 (cmpE (la.drop i) (lb.drop i))):=by
  intro d
  induction d with
  |zero=>
   intro i hi;refine qhl _ _ _ ?_;rw[qk7 (l:=la) (by omega)]
   by_cases h:i<lb.length
   ·obtain⟨y,hy⟩:∃y,lb[i]? =some y:=⟨_,qzS h⟩;rw[qif hy,qmi];simp[show ¬i<la.length by omega,show la.length<lb.length by omega]
   ·rw[qk7 (l:=lb) (by omega),qig];simp[show ¬i<la.length by omega,show ¬la.length<lb.length by omega]
  |succ d ihd=>
   intro i hi;refine qhl _ _ _ ?_;obtain⟨x,hx⟩:∃x,la[i]? =some x:=⟨_,qzS (by omega)⟩;rw[qif hx]
   by_cases h:i<lb.length
   ·obtain⟨y,hy⟩:∃y,lb[i]? =some y:=⟨_,qzS h⟩;have hix:=ih x (qz5 hx) y (qz5 hy);have hih:=ihd (i+1) (by omega);rw[qif hy,qdL];obtain⟨k,n,s,l⟩:=x;obtain⟨k',n',s',l'⟩:=y;simp only[q9,qAk,qeW hx,qeW hy];simp[show i<la.length by omega,h,show ¬lb.length<=i by omega,hix,bneD]
    by_cases hc:cmpT (.mk k n s l) (.mk k' n' s' l')=0
    ·simp[hc];rw[vJ (n:=la.length) (by omega) hlen];exact hih
    ·simp[hc]
   ·rw[qk7 (l:=lb) (by omega),qmj];obtain⟨k,n,s,l⟩:=x;simp only[q9,qAk,qeW hx];simp[show i<la.length by omega,show lb.length<=i by omega]
 apply Gets.get;refine qpV _ _ ?_;exact loop la.length 0 (by omega)
theorem qu0(la lb:List Tm)(hlen:la.length<1099511627776)(ih:∀a∈la,∀b∈lb,EVs (EV cfg) 252 [a.av,b.av]=some (.int .i64 (cmpT a b))):
  EVs (EV cfg) 270 [.sl (qb la),.sl (qb lb)]=some (.int .i64 (cmpE la lb)):=by
 apply Gets.get;refine qji _ _ ?_;rw[qtu la lb hlen ih];simp
theorem qok(a:Tm):a.Ok->∀(kb nb:Int) (sb:List UInt8) (lb:List Tm),(Tm.mk kb nb sb lb).Ok->Gets (qiH a.kind a.num a.str (qb a.subs) kb nb sb (qb lb)) (·= .int .i64 (cmpT a (.mk kb nb sb lb))):=by
 induction a using Tm.ind with
 |_ k n s l ih=>
  intro hok kb nb sb lb hokb;have ihe:∀a∈l,∀b∈lb,EVs (EV cfg) 252 [a.av,b.av]=some (.int .i64 (cmpT a b)):=by
   intro a ha b hb;have:=ih a ha (hok.sub ha);have hob:=hokb.sub hb;obtain⟨k1,n1,s1,l1⟩:=a;obtain⟨k2,n2,s2,l2⟩:=b;rw[Tm.av_mk,Tm.av_mk];apply Gets.get;exact qf6 _ _ _ _ _ _ _ _ (this k2 n2 s2 l2 hob)
  have hlists:=qu0 l lb hok.len ihe;rw[qqm];refine qoK _ _ _ _ _ _ _ _ ?_;unfold zf1 zf2 zf3 zf4 zf5 zf0;simp only[Tm.kind,Tm.num,Tm.str,Tm.subs,qyq,qsB,hlists,qx9,qx8,qj,qc,qi,bneD,beqD]
  by_cases h0:¬numC k kb=0
  ·simp[h0]
  have h0:numC k kb=0:=Classical.not_not.1 h0;simp[h0]
  by_cases h1:k=1
  ·simp[h1]
  by_cases h3:k=3
  ·simp[h3]
  by_cases h4:k=4
  ·simp[h4]
  by_cases h6:k=6
  ·simp[h6]
  by_cases h2:k=2
  ·simp[h2]
  by_cases h5:k=5
  ·simp[h5,cmpL]
  by_cases h9:k=9
  ·subst h9
   by_cases hl:l.length=2
   ·by_cases hl':lb.length=2
    ·obtain⟨x,y,rfl⟩:∃x y,l=[x,y]:=by
      match l,hl with
      |[x,y],_=>exact⟨x,y,rfl⟩
     obtain⟨x',y',rfl⟩:∃x y,lb=[x,y]:=by
      match lb,hl' with
      |[x,y],_=>exact⟨x,y,rfl⟩
     have hx:=ihe x (by simp) x' (by simp);have hy:=ih y (by simp) (hok.sub (by simp));have hoy:=hokb.sub (t:=y') (by simp);have hcl:cmpL [x,y] [x',y']=if cmpT x x'≠0 then cmpT x x' else cmpT y y':=by
      unfold cmpL;rw[qdL,qdL,qig]
      by_cases e1:cmpT x x'=0<;>by_cases e2:cmpT y y'=0<;>simp[qtk,e1,e2]
     obtain⟨k1,n1,s1,l1⟩:=x;obtain⟨k2,n2,s2,l2⟩:=y;obtain⟨k1',n1',s1',l1'⟩:=x';obtain⟨k2',n2',s2',l2'⟩:=y';have hyy:=hy k2' n2' s2' l2' hoy;simp only[q4,q6,Tm.cells_mk];simp[hcl,hx]
     by_cases hc:cmpT (.mk k1 n1 s1 l1) (.mk k1' n1' s1' l1')=0
     ·simp[hc];exact hyy
     ·simp[hc]
    ·have:¬((lb.length:Int)=2):=by omega
     simp[hl,this,cmpL]
   ·have:¬((l.length:Int)=2):=by omega
    simp[this,cmpL]
  by_cases h7:k=7
  ·simp[h7,cmpL]
  simp[h1,h2,h3,h4,h5,h6,h7,h9]
theorem qr9{a b:Tm}(ha:a.Ok)(hb:b.Ok):EVs (EV cfg) 252 [a.av,b.av]=some (.int .i64 (cmpT a b)):=by
 have:=qok a ha;obtain⟨k1,n1,s1,l1⟩:=a;obtain⟨k2,n2,s2,l2⟩:=b;rw[Tm.av_mk,Tm.av_mk];apply Gets.get;exact qf6 _ _ _ _ _ _ _ _ (this k2 n2 s2 l2 hb)
theorem qmY(b:Bool):EVf (EV cfg) 247 [.bool b]=some (vt b).av:=by
 have ha:∀s,EVf (EV cfg) 265 [.str s]=some (symT s).av:=by
  intro s;apply Gets.get;refine qk4 _ ?_;rw[qkG];simp
 apply Gets.get;refine qjU _ ?_;unfold ze0;rw[ha,ha];cases b<;>simp[vt,tru,fal]
theorem qkV(e:Env)(b:Bool)(t:Tm):EVm (EV cfg) 249 [.ptr 0 0 0,t.av] 7 (mR e b)=some (.int .i64 t.num,mR e (b||decide (t.kind≠1))):=by
 have hr:=yW e b;apply Gets.get;rw[Tm.av,Tm.cells_eq];refine quY _ _ _ _ _ _ _ _ _ _ _ ?_;rw[hr,bneD]
 by_cases h:t.kind=1
 ·simp[h]
 ·simp[h]
theorem qbH(e:Env)(b:Bool)(t:Tm):EVm (EV cfg) 244 [.ptr 0 0 0,t.av] 7 (mR e b)=some (.bool (decide (t.str=tru)),mR e (b||(vC t).isNone)):=by
 have hr:=yW e b;apply Gets.get;rw[Tm.av,Tm.cells_eq];refine qtr _ _ _ _ _ _ _ _ _ _ _ ?_;unfold ze24;rw[hr,bneD];unfold vC;simp only[beqS,show([116,114,117,101]:List UInt8)=tru from rfl,show([102,97,108,115,101]:List UInt8)=fal from rfl]
 by_cases h:t.kind=2
 ·by_cases h1:t.str=tru
  ·simp[h,h1]
  ·by_cases h2:t.str=fal
   ·simp[h,h1,h2];have:¬fal=tru:=by decide
    simp[this]
   ·simp[h,h1,h2]
 ·simp[h]
theorem qfl{t:Tm}{x:Bool}(h:vC t=some x):decide (t.str=tru)=x:=by
 unfold vC at h;split at h
 ·rename_i h1;cases h;exact qAu h1.2
 ·split at h
  ·rename_i h1;cases h;rw[h1.2];decide
  ·cases h
theorem xz{e:Env}{t:Tm}:Gets (some (t.av,mR e true)) (Res e none):=⟨_,rfl,rfl,t,rfl⟩
theorem vB{e:Env}{t:Tm}:Gets (some (t.av,mR e false)) (Res e (some t)):=⟨_,rfl,rfl⟩
theorem qei{e:Env}{a b:Tm}(f:Bool->Bool->Bool){o:Option (AV×List (List AV))}(h:o=some ((vt (f (decide (a.str=tru)) (decide (b.str=tru)))).av,mR e (false||(vC a).isNone||(vC b).isNone))):
  Gets o (Res e ((vC a).bind λx=>(vC b).map λy=>vt (f x y))):=by
 subst h;cases ha:vC a with
 |none=>exact xz
 |some x=>
  cases hb:vC b with
  |none=>exact xz
  |some y=>
   rw[qfl ha,qfl hb];exact vB
theorem qxj(e:Env)(op:List UInt8){a b:Tm}(ha:a.Ok)(hb:b.Ok)(ia:a.kind=1->InB a.num)(ib:b.kind=1->InB b.num)(hp:op=[42]->yd):
  Gets (EVd (EV cfg) 231 [.ptr 0 0 0,.str op,a.av,b.av] 7 (mR e false)) (Res e (twoG op a b)):=by
 have hc:=qr9 ha hb;rw[Tm.av,Tm.av,Tm.cells_eq a,Tm.cells_eq b];refine quV _ _ _ _ _ _ _ _ _ _ _ _ _ _ _ _ ?_;unfold ze42 ze36 ze37 ze38 ze39 ze40 ze41 ze27 ze28 ze29 ze30 ze31 ze35 ze32 ze33 ze34 ze25 ze26 ze2 ze3;simp only[qK,hc,qc,qi,qmY,ve,beqS,beqD,bneD];unfold twoG
 by_cases h1:op=[61,61]
 ·rw[qAw h1,qAu h1,cond_true];exact vB
 rw[qAx h1,qAv h1,cond_false]
 by_cases h2:op=[61,58,61]
 ·rw[qAw h2,qAu h2,cond_true];exact vB
 rw[qAx h2,qAv h2,cond_false]
 by_cases h3:op=[47,61]
 ·rw[qAw h3,qAu h3,cond_true];exact vB
 rw[qAx h3,qAv h3,cond_false]
 by_cases h4:op=[61,47,61]
 ·rw[qAw h4,qAu h4,cond_true];exact vB
 rw[qAx h4,qAv h4,cond_false]
 by_cases h5:op=[60]
 ·rw[qAw h5,qAu h5,cond_true];exact vB
 rw[qAx h5,qAv h5,cond_false]
 by_cases h6:op=[61,60]
 ·rw[qAw h6,qAu h6,cond_true];exact vB
 rw[qAx h6,qAv h6,cond_false]
 by_cases h7:op=[62]
 ·rw[qAw h7,qAu h7,cond_true];exact vB
 rw[qAx h7,qAv h7,cond_false]
 by_cases h8:op=[62,61]
 ·rw[qAw h8,qAu h8,cond_true];exact vB
 rw[qAx h8,qAv h8,cond_false]
 by_cases h9:op=[97,110,100]
 ·rw[qAw (Or.inl h9),qAu h9,cond_true];refine qei (λx y=>x&&y) ?_;simp only[qbH,qc,zX];cases decide (a.str=tru)<;>cases decide (b.str=tru)<;>rfl
 rw[qAv h9,cond_false]
 by_cases h10:op=[97,110,100,97,108,115,111]
 ·rw[qAw (Or.inr h10),qAu h10,cond_true];refine qei (λx y=>x&&y) ?_;simp only[qbH,qc,zX];cases decide (a.str=tru)<;>cases decide (b.str=tru)<;>rfl
 rw[qAx (λh=>h.elim h9 h10),qAv h10,cond_false]
 by_cases h11:op=[111,114]
 ·rw[qAw (Or.inl h11),qAu h11,cond_true];refine qei (λx y=>x||y) ?_;simp only[qbH,qc,zX];cases decide (a.str=tru)<;>cases decide (b.str=tru)<;>rfl
 rw[qAv h11,cond_false]
 by_cases h12:op=[111,114,101,108,115,101]
 ·rw[qAw (Or.inr h12),qAu h12,cond_true];refine qei (λx y=>x||y) ?_;simp only[qbH,qc,zX];cases decide (a.str=tru)<;>cases decide (b.str=tru)<;>rfl
 rw[qAx (λh=>h.elim h11 h12),qAv h12,cond_false]
 by_cases h13:op=[120,111,114]
 ·rw[qAw h13,qAu h13,cond_true];refine qei (λx y=>x != y) ?_;simp only[qbH,qc,zX];cases decide (a.str=tru)<;>cases decide (b.str=tru)<;>rfl
 rw[qAx h13,qAv h13,cond_false]
 by_cases h14:op=[101,108,101,109,101,110,116]
 ·rw[qAw h14,qAu h14,cond_true];simp only[qkV,qc,qgm,yW,ve,qK]
  by_cases g1:1<=a.num
  ·rw[qAu (show a.num≥1 from g1),cond_true]
   by_cases g2:b.kind=7
   ·rw[qAu g2,cond_true]
    by_cases g3:a.num<=b.subs.length
    ·have hl:(a.num - 1).toNat<b.subs.length:=by omega
     obtain⟨j,hj⟩:∃j:Nat,a.num=(j:Int)+1:=⟨(a.num - 1).toNat,by omega⟩;have hjl:j<b.subs.length:=by omega
     have hbl:=hb;have hw:qzQ .i64 (a.num - 1)=(j:Int):=by
      have:b.subs.length<1099511627776:=by
       obtain⟨kb,nb,sb,lb⟩:=b;exact hb.len
      rw[qS (by omega) (by omega)];omega
     have hx:b.subs[j]? =some b.subs[j]:=qzS hjl;have e1:(a.num - 1).toNat=j:=by omega
     rw[qj,qAu g3,cond_true,hw,vX,xg,qAu hjl,xG hx,e1,hx];simp only[Bool.and_true,cond_true,qV,qAq,Nat.ble_eq,vn,qv,qK]
     by_cases g0:a.kind=1
     ·rw[qAw ⟨g0,g1,g2,g3⟩];simp only[g0];exact vB
     ·rw[qAx (λh=>g0 h.1),qAu g0];exact xz
    ·rw[qj,qAv g3,cond_false,qAx (λh=>g3 h.2.2.2)];exact xz
   ·rw[qAv g2,cond_false,qAx (λh=>g2 h.2.2.1)];exact xz
  ·rw[qAv g1,cond_false,qAx (λh=>g1 h.2.1)];exact xz
 rw[qAx h14,qAv h14,cond_false];simp only[qkV,qc,qgm]
 by_cases ga:a.kind=1
 ·by_cases gb:b.kind=1
  ·rw[qAw ⟨ga,gb⟩];simp only[ga,gb];exact Gets.bind (qpq e op (ia ga) (ib gb) hp) λr h=>zQ h (qaT h)
  ·rw[qAx (λh=>gb h.2),qAu gb,Bool.or_true,qgb];simp only[qc,ve,qK];exact xz
 ·rw[qAx (λh=>ga h.1),qAu ga,Bool.or_true,Bool.true_or,qgb];simp only[qc,ve,qK];exact xz
def qy4:Den:=evC cfg (EV cfg) 94 none 1 (sub (ql Tryz.f94) [1,1,1,0,1,0,0])
def qzs:Ex×List AV×AH->Option (AV×List (List AV)):=kAft (Cfg.keepOut cfg 94 6) (kRun cfg (EV cfg) (kfN cfg 6) 94 none 1 (qrC cfg 1 (Cfg.lift cfg 94 0) Tryz.f94.results.toList) ([.block 0,.seq (sub (ql Tryz.f94) [1,1,1,1])]))
def qyJ:List AV×AH->Option (AV×List (List AV)):=λp=>kOpt (LOOP 1 (some [1,2,3,4,18,19,20]) ([]) qy4 p) qzs
def qy5:Den:=evC cfg (EV cfg) 40 none 0 (sub (ql Tryz.f40) [1,1,1,0,1,0,0])
def qzt:Ex×List AV×AH->Option AV:=kAft (Cfg.keepOut cfg 40 5) (kRun cfg (EV cfg) (kfN cfg 6) 40 none 0 (yx cfg (Cfg.lift cfg 40 0) Tryz.f40.results.toList) ([.block 0,.seq (sub (ql Tryz.f40) [1,1,1,1])]))
def qyK:List AV×AH->Option AV:=λp=>kOpt (LOOP 0 (some [1,2,5,6]) ([]) qy5 p) qzt
abbrev qiK(lt:Rz)(v20 c1_0 c1_1:Int)(c1_2:Bz)(c1_3:Rz)(c2_0 c2_1:Int)(c2_2:Bz)(c2_3 h3:Rz):Option (AV×List (List AV)):=qyJ (((fx 35 [(1,.ptr 0 0 0),(2,.ptr 1 0 0),(3,.ptr 2 0 0),(4,.ms 3 0 (qzV (lt.length:Int))),(18,.sl lt),(19,.int .i64 (lt.length:Int)),(20,.int .i64 v20)]):List AV),([.rows false 1 [[.fn (Fn.func 94) [] [.ptr 0 0 0]]],.rows false 4 [[.int .i64 c1_0,.int .i64 c1_1,.str c1_2,.sl c1_3]],.rows false 4 [[.int .i64 c2_0,.int .i64 c2_1,.str c2_2,.sl c2_3]],.rows true 4 h3]:AH))
abbrev qiL(most v5 v6 c0_0 c0_1:Int)(c0_2:Bz)(c0_3:Rz):Option (AV):=qyK (((fx 43 [(1,.int .i64 most),(2,.ptr 0 0 0),(5,.int .i64 v5),(6,.int .i64 v6)]):List AV),([.rows false 4 [[.int .i64 c0_0,.int .i64 c0_1,.str c0_2,.sl c0_3]]]:AH))
theorem qlZ(kt nt:Int)(st:Bz)(lt:Rz){P:AV->Prop}(h:Gets (kOpt (EVk (EV cfg) 94 [.agg [.int .i64 kt,.int .i64 nt,.str st,.sl lt],.ptr 0 0 0] 1 [[AV.fn (Fn.func 94) [] [.ptr 0 0 0]]]) λq=>kTmV q λn n_1 s rows=>(some (.agg [.int .i64 n,.int .i64 n_1,.str s,.sl rows]))) P):Gets (EVf (EV cfg) 45 [.agg [.int .i64 kt,.int .i64 nt,.str st,.sl lt]]) P:=
  gE (λ_=>funF rfl rfl Tryz.func45 rfl) (by kernel_rfl) h
theorem qr6(kt nt:Int)(st:Bz)(lt:Rz){P:AV×List (List AV)->Prop}(h:Gets (bif(lt.length:Int)==0 then bif AV.refsLt 0 (.agg [.int .i64 kt,.int .i64 nt,.str st,.sl []])then some (.agg [.int .i64 kt,.int .i64 nt,.str st,.sl []],[[AV.fn (Fn.func 94) [] [.ptr 0 0 0]]])else none else bif qe 0 (lt.length:Int)&&qe (lt.length:Int) (lt.length:Int)&&qe ((↑ (qzO lt):Int)*56) 140737488355328&&qe (lt.length:Int) 9223372036854775807 then qiK lt 0 kt nt st lt 0 0 [] [] (qAf (qzV (lt.length:Int)) [.int .i64 0,.int .i64 0,.str [],.nilS])else none) P):Gets (EVx (EV cfg) 94 [.agg [.int .i64 kt,.int .i64 nt,.str st,.sl lt],.ptr 0 0 0] 1 [[(AV.fn (Fn.func 94) [] [AV.ptr 0 0 0])]]) P:=
  gE (λ_=>funX rfl rfl Tryz.func94 rfl) (by kernel_rfl) h
theorem qru(kt nt:Int)(st:Bz)(lt:Rz)(most:Int){P:AV->Prop}(h:Gets (kOpt (EVs (EV cfg) 40 [.agg [.int .i64 kt,.int .i64 nt,.str st,.sl lt],.int .i64 (qzQ .i64 (most+1))]) λv=>kInt .i64 v λn=>some (.bool (decide (n>most)))) P):Gets (EVs (EV cfg) 9 [.agg [.int .i64 kt,.int .i64 nt,.str st,.sl lt],.int .i64 most]) P:=
  gE (λ_=>funS rfl rfl Tryz.func9 rfl) (by kernel_rfl) h
theorem qhJ(kt nt:Int)(st:Bz)(lt:Rz)(most:Int){P:AV->Prop}(h:Gets (bif decide ((st.length:Int)>100)then some (.int .i64 most)else bif decide ((lt.length:Int)>most)then some (.int .i64 most)else qiL most 1 0 kt nt st lt) P):Gets (EVs (EV cfg) 40 [.agg [.int .i64 kt,.int .i64 nt,.str st,.sl lt],.int .i64 most]) P:=
  gE (λ_=>funS rfl rfl Tryz.func40 rfl) (by kernel_rfl) h
theorem qhp(lt:Rz)(v20 c1_0 c1_1:Int)(c1_2:Bz)(c1_3:Rz)(c2_0 c2_1:Int)(c2_2:Bz)(c2_3 h3:Rz){P:AV×List (List AV)->Prop}(h:Gets (bif decide (v20<(lt.length:Int))then bif qe 0 v20&&qu v20 (lt.length:Int)then kOpt (qzU lt (v20.toNat)) λrow=>bif qzP (qzO row) 4 then bif qz8 4 (qzO row)then kTmC (qzT 4 row) λn n_1 s rows=>(kOpt (EVk (EV cfg) 94 [.agg [.int .i64 n,.int .i64 n_1,.str s,.sl rows],.ptr 0 0 0] 1 [[AV.fn (Fn.func 94) [] [.ptr 0 0 0]]]) λq=>kTmV q λn n_2 s rows=>(bif qe 0 v20&&qu v20 (↑ (qzV (lt.length:Int)):Int)then kOpt (qzU h3 (0+v20.toNat)) λrow=>bif qz8 4 (qzO row)then qiK lt (qzQ .i64 (v20+1)) c1_0 c1_1 c1_2 c1_3 c2_0 c2_1 c2_2 c2_3 (List.set h3 (0+v20.toNat) (.int .i64 n:: .int .i64 n_2:: .str s:: .sl rows::List.drop 4 row))else none else none))else none else none else none else bif qz8 (0+qzV (lt.length:Int)) (qzO h3)&&true then some (.agg [.int .i64 c1_0,.int .i64 c1_1,.str c1_2,.sl (qzT (qzV (lt.length:Int)) h3)],[[AV.fn (Fn.func 94) [] [.ptr 0 0 0]]])else none) P):Gets (qiK lt v20 c1_0 c1_1 c1_2 c1_3 c2_0 c2_1 c2_2 c2_3 h3) P:=
  gE (λ_=>qM (cfg:=cfg) (f:=94) (rd:=none) (bs:=1)) (by kernel_rfl) h
theorem qhq(most v5 v6 c0_0 c0_1:Int)(c0_2:Bz)(c0_3:Rz){P:AV->Prop}(h:Gets (bif decide (v6<(c0_3.length:Int))then bif decide (v5<most)then bif qe 0 v6&&qu v6 (c0_3.length:Int)then kOpt (qzU c0_3 (qzV v6)) λrow=>bif qzP (qzO row) 4 then bif qz8 4 (qzO row)then kTmC (qzT 4 row) λn n_1 s rows=>(kOpt (EVs (EV cfg) 40 [.agg [.int .i64 n,.int .i64 n_1,.str s,.sl rows],.int .i64 (qzQ .i64 (most - v5))]) λv=>kInt .i64 v λn=>qiL most (qzQ .i64 (v5+n)) (qzQ .i64 (v6+1)) c0_0 c0_1 c0_2 c0_3)else none else none else none else some (.int .i64 v5)else some (.int .i64 v5)) P):Gets (qiL most v5 v6 c0_0 c0_1 c0_2 c0_3) P:=
  gE (λ_=>qM (cfg:=cfg) (f:=40) (rd:=none) (bs:=0)) (by kernel_rfl) h
def ym:List (List AV):=[[AV.fn (Fn.func 94) [] [AV.ptr 0 0 0]]]
theorem qtV(t:Tm):t.Ok->EVx (EV cfg) 94 [t.av,.ptr 0 0 0] 1 ym=some (t.av,ym):=by
 induction t using Tm.ind with
 |_ k n s l ih=>
  intro hok;have hlen:=hok.len;have loop:∀(d i:Nat),i+d=l.length->Gets (qiK (qb l) i k n s (qb l) 0 0 [] [] (qb (l.take i)++qAf d [.int .i64 0,.int .i64 0,.str [],.nilS])) (·=((Tm.mk k n s l).av,ym)):=by
   intro d
   induction d with
   |zero=>
    intro i hi;refine qhp _ _ _ _ _ _ _ _ _ _ _ ?_;obtain rfl:i=l.length:=by omega
    have e:l.take l.length=l:=qAa (qz0 _);rw[e];simp;rfl
   |succ d ihd=>
    intro i hi;refine qhp _ _ _ _ _ _ _ _ _ _ _ ?_;have hil:i<l.length:=by omega
    have hx:l[i]? =some l[i]:=qzS hil;have hxl:=qz5 hx;have hix:=qkx (ih l[i] hxl (hok.sub hxl));have hih:=ihd (i+1) (by omega);have hw:=qmT hil hlen;have e1:l.take (i+1)=l.take i++[l[i]]:=by rw[List.take_add_one,hx];rfl
    have ht:(qb (l.take i)).length=i:=by rw[qj,List.length_take];omega
    have g:(qb (l.take i)++qAf (d+1) [AV.int .i64 0,.int .i64 0,.str [],.nilS])[i]? =some [AV.int .i64 0,.int .i64 0,.str [],.nilS]:=by
     rw[qz2 (by omega),ht,Nat.sub_self];rfl
    have g2:(qb (l.take i)++qAf (d+1) [AV.int .i64 0,.int .i64 0,.str [],.nilS]).set i l[i].cells=qb (l.take (i+1))++qAf d [AV.int .i64 0,.int .i64 0,.str [],.nilS]:=by
     rw[List.set_append_right _ _ (by omega),e1,vO,q4,q6];have e3:i - (qb (l.take i)).length=0:=by omega
     rw[e3,List.replicate_succ,List.set_cons_zero,List.append_assoc];rfl
    simp only[ym]at hix;simp[hil,hx,hix,g,hw];rw[g2]
    simpa using hih
  apply Gets.get;rw[Tm.av_mk];refine qr6 _ _ _ _ ?_;rw[qj]
  by_cases hl:l.length=0
  ·have:l=[]:=List.length_eq_zero_iff.1 hl;subst this;simp[ym,AV.refsLt,qE]
  ·have hl':((l.length:Int)==0)=false:=by rw[beqD];exact qAv (by omega)
   have h56:qe ((l.length:Int)*56) 140737488355328=true:=by simp[qe];omega
   have hm:qe (l.length:Int) 9223372036854775807=true:=by simp[qe];omega
   have hz:qe 0 (l.length:Int)=true:=vX _;have hs:qe (l.length:Int) (l.length:Int)=true:=by simp[qe]
   rw[hl',h56,hm,hz,hs];have:=loop l.length 0 (by omega);rw[Tm.av_mk]at this
   simpa using this
theorem qxt{t:Tm}(h:t.Ok):EVf (EV cfg) 45 [t.av]=some t.av:=by
 have h1:=qkx (qtV t h);obtain⟨k,n,s,l⟩:=t;rw[Tm.av_mk]at h1⊢;apply Gets.get;refine qlZ _ _ _ _ ?_;simp only[ym]at h1;rw[h1];simp[←Tm.av_mk]
theorem qya(op:List UInt8):EVf (EV cfg) 174 [.str op]=some (.sl (yP (opsG op))):=by
 apply Gets.get;refine qmg _ ?_;have h:=qgc (λl=>some (AV.sl (yP l))) op [] qc8;have:Gets (yi op (some (AV.sl (yP []))) (qc8.map λp=>(p.1,some (AV.sl (yP p.2))))) (·= .sl (yP (opsG op))):=by
  rw[h];exact⟨_,rfl,rfl⟩
 exact this
theorem qu8(l:List Int)(hl:l.length<1099511627776)(n:Int):∀d i:Nat,i+d=l.length->Gets (qiM (yP l) n i) (λv=>∃j:Int,v= .int .i64 j∧(0<=j↔n∈l.drop i)):=by
 intro d
 induction d with
 |zero=>
  intro i hi;refine qhr _ _ _ ?_;rw[qdI,qAv (by omega)];refine⟨_,rfl,-1,rfl,?_⟩;rw[List.drop_eq_nil_of_le (by omega)];simp
 |succ d ih=>
  intro i hi;have hil:i<l.length:=by omega
  refine qhr _ _ _ ?_;have hx:l[i]? =some l[i]:=qzS hil;have hd:l.drop i=l[i]::l.drop (i+1):=List.drop_eq_getElem_cons hil;have h:=ih (i+1) (by omega);rw[qdI,qAu (show(i:Int)<(l.length:Int) by omega),vX,xg,qAu hil,q9,qAk,qlM,hx,vJ hil hl]
  by_cases he:n=l[i]
  ·refine⟨.int .i64 i,?_,i,rfl,?_⟩
   ·simp[he]
   ·rw[hd,he];exact⟨λ_=>List.mem_cons_self,λ_=>by omega⟩
  ·have hne:(n==l[i])=false:=by rw[beqI];exact qAv he
   simp[hne];refine Gets.mono (by simpa using h) ?_;rintro _ ⟨j,rfl,hj⟩;exact⟨j,rfl,by rw[hj,hd,qAd];exact⟨Or.inr,λh=>h.resolve_left he⟩⟩
theorem qpT(l:List Int)(hl:l.length<1099511627776)(n:Int):EVs (EV cfg) 172 [.sl (yP l),.int .i64 n]=some (.bool (decide (n∈l))):=by
 obtain⟨_,h1,j,rfl,hj⟩:=qu8 l hl n l.length 0 (by omega);have h2:EVs (EV cfg) 211 [.sl (yP l),.int .i64 n]=some (.int .i64 j):=by
  apply Gets.get;exact qrO _ _ ⟨_,h1,rfl⟩
 apply Gets.get;refine qmh _ _ ?_;rw[h2];rw[List.drop_zero]at hj;refine⟨_,rfl,?_⟩;show AV.bool (decide (j≥0))=_
 congr 1
 exact decide_eq_decide.2 hj
theorem qw4(n:Int):EVs (EV cfg) 204 [.int .i64 n]=some (.bool (qau n)):=by
 apply Gets.get;refine qk3 _ ?_;unfold qau
 by_cases h:1<=n
 ·simp[h]
 ·simp[h]
theorem qnz(op:List UInt8):(opsG op).length<1099511627776:=by
 have:∀(l:List (List UInt8×List Int)),(∀p∈l,p.2.length<=2)->(yi op [] l).length<=2:=by
  intro l
  induction l with
  |nil=>intro _;simp[yi]
  |cons p l ih=>
   intro h;rw[yi];cases op==p.1
   ·exact ih λq hq=>h q (by simp[hq])
   ·exact h p (by simp)
 have:=this qc8 (by decide);unfold opsG;omega
def qyP:Den:=evC cfg (EV cfg) 276 none 6 (sub (ql Tryz.f276) [0,0])
def qzd:Ex×List AV×AH->Option (AV×List (List AV)):=kAft (Cfg.keepOut cfg 276 (qm (sub (ql Tryz.f276) [0,0]))) (xa 0 (yO cfg (Cfg.lift cfg 276 0) (fun(v:AV) (H:AH)=>(fun(r:AV×AH)=>qak 1 5 (fx 37 [(0,AV.ptr 0 0 0),(5,AV.ptr 1 0 0),(6,AV.ptr 2 0 0),(7,AV.ptr 3 0 0)]) (xa 0 (kSeq (fun(fr:List AV) (H:AH)=>xR (Cfg.cut cfg 251 (qm (sub (ql Tryz.f251) [1,0,1,0,0,1,1,1]))) fr H fun(fr:List AV) (H:AH)=>vA cfg (EV cfg) (kfN cfg 6) 251 none 1 (sub (ql Tryz.f251) [1,0,1,0,0,1,1,1]) fr H (qgg (kSeq (fun(fr:List AV) (H:AH)=>xR (Cfg.cut cfg 251 (qm (sub (ql Tryz.f251) [1,1]))) fr H fun(fr:List AV) (H:AH)=>vA cfg (EV cfg) (kfN cfg 6) 251 none 1 (sub (ql Tryz.f251) [1,1]) fr H (qjI cfg 7 (Cfg.lift cfg 251 0) (qAt (Func.results Tryz.f251)))) (qjI cfg 7 (Cfg.lift cfg 251 0) (qAt (Func.results Tryz.f251)))))) (qgg (kSeq (fun(fr:List AV) (H:AH)=>xR (Cfg.cut cfg 251 (qm (sub (ql Tryz.f251) [1,1]))) fr H fun(fr:List AV) (H:AH)=>vA cfg (EV cfg) (kfN cfg 6) 251 none 1 (sub (ql Tryz.f251) [1,1]) fr H (qjI cfg 7 (Cfg.lift cfg 251 0) (qAt (Func.results Tryz.f251)))) (qjI cfg 7 (Cfg.lift cfg 251 0) (qAt (Func.results Tryz.f251))))))) (Prod.snd r)) (v,H)) (qAt (Func.results (Prod.snd (276,Tryz.f276))))))
def qyu:List AV×AH->Option (AV×List (List AV)):=fun(p:List AV×AH)=>kOpt (LOOP 6 (some [0,1]) [] qyP p) qzd
abbrev qiw(h0:Rz)(c1_0 c1_1:Int)(c1_2:Bz)(c1_3:Rz)(c2_0 c2_1:Int)(c2_2:Bz)(c2_3:Rz)(c3_0:Int):Option (AV×List (List AV)):=qyu (((fx 25 [(0,.yld 5),(1,.ptr 4 0 0)]):List AV),([.rows true 7 h0,.rows false 4 [[.int .i64 c1_0,.int .i64 c1_1,.str c1_2,.sl c1_3]],.rows false 4 [[.int .i64 c2_0,.int .i64 c2_1,.str c2_2,.sl c2_3]],.rows false 1 [[.int .i64 c3_0]],.rows false 1 [[.ptr 1 0 0]],rngB Tryz.f251 251 [1,0,1,0,0,1,1,0,1,0] (fx 37 [(7,.ptr 3 0 0)]) none LoopState.ready]:AH))
abbrev zh0(q:AV×List (List AV)):Option (AV×List (List AV)):=kTmV q.1 λn n_1 s rows=>(some (.agg [.int .i64 n,.int .i64 n_1,.str s,.sl rows],q.2))
abbrev zh1(row:List AV)(ke ne:Int)(se:Bz)(le bd:Rz)(self:Int)(bad:Bool):Option (AV×List (List AV)):=bif qzP (qzO row) 4 then bif qz8 4 (qzO row)then kTmC (qzT 4 row) λn n_1 s rows=>(some (.agg [.int .i64 n,.int .i64 n_1,.str s,.sl rows],[[AV.int .i64 ke,.int .i64 ne,.str se,.sl le,.sl bd,.int .i64 self,.bool bad]]))else none else none
theorem qtq(ke ne:Int)(se:Bz)(le bd:Rz)(self:Int)(bad:Bool)(op:Bz)(kt nt:Int)(st:Bz)(lt:Rz){P:AV×List (List AV)->Prop}(h:Gets (bif op==[(108:UInt8),(101:UInt8),(110:UInt8),(103:UInt8),(116:UInt8),(104:UInt8)]then qiw [[AV.int .i64 ke,.int .i64 ne,.str se,.sl le,.sl bd,.int .i64 self,.bool bad]] kt nt st lt 0 0 [] [] 0 else bif kt != 9 then kOpt (EVd (EV cfg) 250 [.ptr 0 0 0] 7 [[AV.int .i64 ke,.int .i64 ne,.str se,.sl le,.sl bd,.int .i64 self,.bool bad]]) λq=>zh0 q else bif op==[(104:UInt8),(100:UInt8)]then bif qu 0 (lt.length:Int)then kOpt (qzU lt 0) λrow=>zh1 row ke ne se le bd self bad else none else bif qu 1 (↑ (qzO lt):Int)then kOpt (qzU lt 1) λrow=>zh1 row ke ne se le bd self bad else none) P):Gets (EVd (EV cfg) 251 [.ptr 0 0 0,.str op,.agg [.int .i64 kt,.int .i64 nt,.str st,.sl lt]] 7 [[AV.int .i64 ke,AV.int .i64 ne,AV.str se,AV.sl le,AV.sl bd,AV.int .i64 self,AV.bool bad]]) P:=
  gE (λ_=>funD rfl rfl Tryz.func251 rfl) (by kernel_rfl) h
theorem qtm(a b:Int){P:AV->Prop}(h:Gets (kOpt (qP (Op.intBits BinOp.and .u64 a 4294967295)) λv=>kInt .u64 v λn=>kOpt (qP (Op.shift BinOp.shr .u64 a .u64 32)) λv=>kInt .u64 v λn_1=>kOpt (qP (Op.intBits BinOp.and .u64 b 4294967295)) λv=>kInt .u64 v λn_2=>kOpt (qP (Op.shift BinOp.shr .u64 b .u64 32)) λv=>kInt .u64 v λn_3=>kOpt (qP (Op.shift BinOp.shr .u64 (qzQ .u64 (n*n_2)) .u64 32)) λv=>kInt .u64 v λn_4=>kOpt (qP (Op.intBits BinOp.and .u64 (qzQ .u64 (qzQ .u64 (n_1*n_2)+n_4)) 4294967295)) λv=>kInt .u64 v λn_5=>kOpt (qP (Op.shift BinOp.shr .u64 (qzQ .u64 (qzQ .u64 (n_1*n_2)+n_4)) .u64 32)) λv=>kInt .u64 v λn_6=>kOpt (qP (Op.shift BinOp.shr .u64 (qzQ .u64 (n_5+qzQ .u64 (n*n_3))) .u64 32)) λv=>kInt .u64 v λn=>some (AV.tup [AV.int .u64 (qzQ .u64 (qzQ .u64 (qzQ .u64 (n_1*n_3)+n_6)+n)),.int .u64 (qzQ .u64 (a*b))])) P):Gets (EVs (EV cfg) 280 [.int .u64 a,.int .u64 b]) P:=
  gE (λ_=>funS rfl rfl Tryz.func280 rfl) (by kernel_rfl) h
theorem qoH(h0:Rz)(c1_0 c1_1:Int)(c1_2:Bz)(c1_3:Rz)(c2_0 c2_1:Int)(c2_2:Bz)(c2_3:Rz)(c3_0:Int){P:AV×List (List AV)->Prop}(h:Gets (bif c1_0==9 then bif qu 0 (c1_3.length:Int)then kOpt (qzU c1_3 0) λrow=>bif qzP (qzO row) 4 then bif qz8 4 (qzO row)then kTmC (qzT 4 row) λn n s rows=>(bif qu 1 (c1_3.length:Int)then kOpt (qzU c1_3 1) λrow=>bif qzP (qzO row) 4 then bif qz8 4 (qzO row)then kTmC (qzT 4 row) λn n_1 s rows=>(qiw h0 n n_1 s rows c2_0 c2_1 c2_2 c2_3 (qzQ .i64 (c3_0+1)))else none else none else none)else none else none else none else bif c1_0 != 8 then kOpt (EVd (EV cfg) 250 [.ptr 0 0 0] 7 h0) λq=>zh0 q else kOpt (EVd (EV cfg) 248 [.ptr 0 0 0,.int .i64 c3_0] 7 h0) λq=>zh0 q) P):Gets (qiw h0 c1_0 c1_1 c1_2 c1_3 c2_0 c2_1 c2_2 c2_3 c3_0) P:=
  gE (λ_=>qM (cfg:=cfg) (f:=276) (rd:=none) (bs:=6)) (by kernel_rfl) h
end Go.Proofs.YtafdkafbgohigaaGreat
end
noncomputable section
namespace Go.Av
theorem qw0{n:Int}(h1: -9223372036854775808<=n)(h2:n<9223372036854775808):qP (Op.intBits .xor .i64 (-1) n)=some (.int .i64 (-1 - n)):=by
 have:qP (Op.intBits .xor .i64 (-1) n)=some (.int .i64 (qzQ .i64 (BitVec.ofInt 64 (-1) ^^^ BitVec.ofInt 64 n).toNat)):=rfl;rw[this,qcu];have e:BitVec.ofInt 64 (-1) ^^^ BitVec.ofInt 64 n= ~~~(BitVec.ofInt 64 n):=by
  rw[show BitVec.ofInt 64 (-1)=BitVec.allOnes 64 from by decide,BitVec.allOnes_xor]
 have en:n=(BitVec.ofInt 64 n).toInt:=by rw[BitVec.toInt_ofInt,Int.bmod_eq_of_le (by omega) (by omega)]
 have hn:=BitVec.toNat_not (x:=BitVec.ofInt 64 n);rw[e]
 congr 2
 rw[BitVec.toInt_eq_toNat_cond]at en⊢;have hl:=(BitVec.ofInt 64 n).isLt;rw[hn];generalize (BitVec.ofInt 64 n).toNat=U at *;split at en<;>split<;>omega
theorem qfd(x:Tm)(l:List Tm):qzU (qb (x::l)) 0=some x.cells:=by rw[q9,q4];rfl
theorem qg5(x y:Tm)(l:List Tm):qzU (qb (x::y::l)) 1=some y.cells:=by rw[q9,q4,q4];rfl
theorem lt0T(x:Tm)(l:List Tm):qu 0 ((qb (x::l)).length:Int)=true:=by rw[qj];exact qAu (by simp)
theorem lt1T(x y:Tm)(l:List Tm):qu 1 ((qb (x::y::l)).length:Int)=true:=by rw[qj];exact qAu (by simp;omega)
theorem qaF:qz8 4 4=true:=rfl
theorem qg1{t:Tm}(h:t.chk=0): -576460752303423488<=t.num∧t.num<=576460752303423487:=by
 obtain⟨h1,_⟩:=zE.1 h;rw[Tm.parts_eq,qzR]at h1;have h2:yo t.kind t.num t.str t.subs.length=true:=h1.1;generalize t.kind=k at h2;generalize t.num=n at *;unfold yo at h2
 repeat' split at h2
 all_goals simp at h2
 all_goals omega
theorem qtj{t:Tm}(h:t.chk=0):t.Ok:=qax t (by have:=xO h;omega)
theorem qg4{t:Tm}(h:t.chk=0):t.kind=1->InB t.num:=λ_=>qg1 h
end Go.Av
namespace Go.Proofs.YtafdkafbgohigaaGreat
open Go.Av
theorem qxf(e:Env)(n:Int):∃t:Tm,EVd (EV cfg) 248 [.ptr 0 0 0,.int .i64 n] 7 (mR e true)=some (t.av,mR e true):=by
 rw[qjp]
 by_cases h:InB n
 ·exact⟨numT n,by rw[qAw h]⟩
 ·exact⟨vh,by rw[qAx h]⟩
theorem qg0{e:Env}{b:Bool}{n:Int}{k:Int}:Gets (kOpt (EVd (EV cfg) 248 [.ptr 0 0 0,.int .i64 n] 7 (mR e (false||decide (k≠1)))) λq=>kTmV q.1 fun(n n_1:Int) (s:List UInt8) (rows:List (List AV))=>some (AV.agg [.int .i64 n,.int .i64 n_1,.str s,.sl rows],q.2)) (Res e (if k=1 then qL n else none)):=by
 by_cases h:k=1
 ·rw[qAw h,qAv (by simpa using h)];exact Gets.bind (zn e n λr h1 h2=>h1) λr h=>zQ h (qaT h)
 ·rw[qAx h,qAu (by simpa using h)];obtain⟨t,ht⟩:=qxf e n;rw[Bool.or_true,ht];simp only[qc,ve,qK];exact xz
theorem qxm(e:Env){a b:Int}{s:List UInt8}{r:List (List AV)}:∀(n:Nat) (t:Tm) (c:Nat),t.w<=n->t.chk=0->c+n<1099511627776 ->
  Gets (qiw (mR e false) t.kind t.num t.str (qb t.subs) a b s r c) (Res e ((lenG t).bind λm=>qL ((c+m:Nat):Int))):=by
 intro n
 induction n with
 |zero=>intro t _ h;have:=qas t;omega
 |succ n ih=>
  intro t c hw hc hn;refine qoH _ _ _ _ _ _ _ _ _ _ ?_;unfold zh0
  by_cases h9:t.kind=9
  ·obtain⟨x,y,hs⟩:=qdk hc h9;have hwe:=t.w_eq;rw[hs]at hwe;simp only[xq,z8]at hwe;have h:=ih y (c+1) (by omega) (qey hc (by rw[hs];simp)) (by omega);rw[qlG h9 hs,hs,beqI,qAu h9];simp only[cond_true,lt0T,lt1T,qfd,qg5,qc,qV,qAq,qaF,vn,qv,vJ (show c<c+1 by omega) (by omega)];have e1:((lenG y).map (·+1)).bind (λm=>qL ((c+m:Nat):Int))=(lenG y).bind λm=>qL ((c+1+m:Nat):Int):=by
    cases lenG y with
    |none=>rw[Option.map_none,Option.bind_none,Option.bind_none]
    |some m=>rw[qAe,qz3,qz3,show c+(m+1)=c+1+m by omega]
   rw[e1];exact h
  ·rw[beqI,qAv h9,cond_false]
   by_cases h8:t.kind=8
   ·have:(t.kind != 8)=false:=by rw[h8];rfl
    have e0:((some 0).bind λm=>qL ((c+m:Nat):Int))=qL c:=by rw[qz3,Nat.add_zero]
    rw[this,qnG h8,e0];exact Gets.bind (zn e c λr h1 h2=>h1) λr h=>zQ h (qaT h)
   ·have:(t.kind != 8)=true:=by simpa using h8
    rw[this,qlF h9 h8,yW];simp only[cond_true,qc,ve,qK];exact xz
def qkW(op:List UInt8)(t:Tm):Option Tm:=
 if op=[108,101,110,103,116,104]then(lenG t).bind λn=>qL n
 else if t.kind=9 then(if op=[104,100]then t.subs[0]? else t.subs[1]?)
 else none
theorem quX(e:Env)(op:List UInt8){t:Tm}(hc:t.chk=0):Gets (EVd (EV cfg) 251 [.ptr 0 0 0,.str op,t.av] 7 (mR e false)) (Res e (qkW op t)):=by
 rw[Tm.av,Tm.cells_eq];refine qtq _ _ _ _ _ _ _ _ _ _ _ _ ?_;unfold zh1 zh0;have hw:=xO hc;unfold qkW;rw[beqS]
 by_cases h1:op=[108,101,110,103,116,104]
 ·rw[qAw h1,qAu h1,cond_true];have h:=qxm e (a:=0) (b:=0) (s:=[]) (r:=[]) t.w t 0 (qz0 _) hc (by omega)
  simpa using h
 ·rw[qAx h1,qAv h1,cond_false]
  by_cases h9:t.kind=9
  ·obtain⟨x,y,hs⟩:=qdk hc h9;have:(t.kind != 9)=false:=by rw[h9];rfl
   rw[this,qAw h9,hs,beqS];simp only[cond_false,lt0T,lt1T,qfd,qg5,qc,qV,qAq,qaF,vn,qv,cond_true,qK]
   by_cases h2:op=[104,100]
   ·rw[qAw h2,qAu h2];exact vB
   ·rw[qAx h2,qAv h2];exact vB
  ·have:(t.kind != 9)=true:=by simpa using h9
   rw[this,qAx h9,yW];simp only[cond_true,qc,ve,qK];exact xz
theorem qti{op:List UInt8}{t:Tm}:(if op=[108,101,110,103,116,104]then(lenG t).bind λn=>qL n else if t.kind=9 then(if op=[104,100]then t.subs[0]? else t.subs[1]?)else none)=qkW op t:=rfl
theorem qxk(e:Env)(op:List UInt8){t:Tm}(hc:t.chk=0):Gets (EVd (EV cfg) 230 [.ptr 0 0 0,.str op,t.av] 7 (mR e false)) (Res e (oneG op t)):=by
 have hl:=quX e op hc;have hn:=qg1 hc;have hs:=qbD hc;have w1:qzQ .i64 (0 - t.num)= -t.num:=by rw[qS (by omega) (by omega)];omega
 rw[Tm.av,Tm.cells_eq]at hl⊢;refine quW _ _ _ _ _ _ _ _ _ _ _ _ ?_;unfold ze44 ze45 ze43 ze33 ze34 ze25 ze26 ze1 ze2 ze3;simp only[qK,qmY,qc,ve,beqS,beqI,w1,yW,qbH,qkV,zX,qgm,qw0 (show -9223372036854775808<=t.num by omega) (by omega),qi];rw[qK]at hl;unfold oneG
 by_cases h1:op=[105,115,95,97,116,111,109]
 ·rw[qAw h1,qAu h1,cond_true];exact vB
 rw[qAx h1,qAv h1,cond_false]
 by_cases h2:op=[105,115,95,105,110,116,101,103,101,114]
 ·rw[qAw h2,qAu h2,cond_true];exact vB
 rw[qAx h2,qAv h2,cond_false]
 by_cases h3:op=[105,115,95,108,105,115,116]
 ·rw[qAw h3,qAu h3,cond_true];cases decide (t.kind=9)
  ·exact vB
  ·exact vB
 rw[qAx h3,qAv h3,cond_false]
 by_cases h4:op=[105,115,95,116,117,112,108,101]
 ·rw[qAw h4,qAu h4,cond_true];exact vB
 rw[qAx h4,qAv h4,cond_false]
 by_cases h5:op=[105,115,95,112,105,100]
 ·rw[qAw h5,qAu h5,cond_true];exact vB
 rw[qAx h5,qAv h5,cond_false]
 by_cases h6:op=[105,115,95,102,117,110,99,116,105,111,110]
 ·rw[qAw h6,qAu h6,cond_true];exact vB
 rw[qAx h6,qAv h6,cond_false]
 by_cases h7:op=[105,115,95,114,101,102,101,114,101,110,99,101]
 ·rw[qAw h7,qAu h7,cond_true];cases decide (t.kind=3)
  ·exact vB
  ·exact vB
 rw[qAx h7,qAv h7,cond_false]
 by_cases h8:op=[110,111,116]
 ·rw[qAw h8,qAu h8,cond_true];cases hb:vC t with
  |none=>exact xz
  |some x=>rw[qfl hb];exact vB
 rw[qAx h8,qAv h8,cond_false]
 by_cases h9:op=[98,110,111,116]
 ·rw[qAw h9,qAu h9,cond_true];exact qg0 (b:=false)
 rw[qAx h9,qAv h9,cond_false]
 by_cases h10:op=[43]
 ·rw[qAw h10,qAu h10,cond_true];exact qg0 (b:=false)
 rw[qAx h10,qAv h10,cond_false]
 by_cases h11:op=[45]
 ·rw[qAw h11,qAu h11,cond_true];exact qg0 (b:=false)
 rw[qAx h11,qAv h11,cond_false]
 by_cases h12:op=[97,98,115]
 ·rw[qAw h12,qAu h12,cond_true];have e1:(if decide (t.num< -t.num)=true then -t.num else t.num)=if t.num<0 then -t.num else t.num:=by
   by_cases h:t.num<0
   ·rw[qAw h,qAw (qAu (by omega))]
   ·rw[qAx h,qAx (by rw[qAv (by omega)];simp)]
  rw[e1];exact qg0 (b:=false)
 rw[qAx h12,qAv h12,cond_false];have tup:Gets (bif t.kind != 7 then some (vh.av,mR e true)else kOpt (EVd (EV cfg) 248 [.ptr 0 0 0,.int .i64 ((qb t.subs).length:Int)] 7 (mR e false)) λq=>kTmV q.1 fun(n n_1:Int) (s:List UInt8) (rows:List (List AV))=>some (AV.agg [.int .i64 n,.int .i64 n_1,.str s,.sl rows],q.2)) (Res e (if t.kind=7 then qL t.subs.length else none)):=by
  by_cases h:t.kind=7
  ·have:(t.kind != 7)=false:=by rw[h];rfl
   rw[this,qAw h,cond_false,qj];exact Gets.bind (zn e _ λr h1 h2=>h1) λr h=>zQ h (qaT h)
  ·have:(t.kind != 7)=true:=by simpa using h
   rw[this,qAx h,cond_true];exact xz
 by_cases h13:op=[116,117,112,108,101,95,115,105,122,101]
 ·rw[qAw h13,qAu h13,cond_true];exact tup
 rw[qAx h13,qAv h13,cond_false]
 by_cases h14:op=[115,105,122,101]
 ·rw[qAw h14,qAu h14,cond_true];exact tup
 rw[qAx h14,qAv h14,cond_false,qti];exact Gets.bind hl λr h=>zQ h (qaT h)
theorem qtt(e:Env)(op:List UInt8){l:List Tm}(hl:∀x∈l,x.chk=0)(hlen:l.length<=2)(hp:op=[42]->yd):
  Gets (EVd (EV cfg) 205 [.ptr 0 0 0,.str op,.sl (qb l)] 7 (mR e false)) (Res e (zo op l e.self)):=by
 refine qrp _ _ _ _ _ _ _ _ _ ?_
 match l,hl,hlen with
 |[],_,_=>
  simp only[qj,List.length_nil];refine⟨_,rfl,?_⟩;show _=(Tm.av _,mR e false);rw[Tm.av_mk,q6]
 |[a],hl,_=>
  have h1:=qxk e op (hl a (by simp));have c1:((((qb [a]).length:Nat):Int)==1)=true:=by rw[qj];rfl
  rw[c1];simp only[cond_true,lt0T,qfd,qc,qV,qAq,qaF,vn,qv,qK];exact Gets.bind h1 λr h=>zQ h (qaT h)
 |[a,b],hl,_=>
  have ha:=hl a (by simp);have hb:=hl b (by simp);have h1:=qxj e op (qtj ha) (qtj hb) (qg4 ha) (qg4 hb) hp;have c1:((((qb [a,b]).length:Nat):Int)==1)=false:=by rw[qj];rfl
  have c2:((((qb [a,b]).length:Nat):Int)==2)=true:=by rw[qj];rfl
  rw[c1,c2];simp only[cond_true,cond_false,lt0T,lt1T,qfd,qg5,qc,qV,qAq,qaF,vn,qv,qK];exact Gets.bind h1 λr h=>zQ h (qaT h)
 |_::_::_::_,_,h=>simp at h
end Go.Proofs.YtafdkafbgohigaaGreat
end
noncomputable section
namespace Go.Av
def qaw(x e:Tm):Tm:=.mk 9 0 [] [x,e]
def yV(l:List Tm)(e:Tm):Tm:=l.foldr qaw e
end Go.Av
namespace Go.Proofs.YtafdkafbgohigaaGreat
open Go.Av
theorem qpo{l:List Tm}(hlen:l.length<1099511627776)(e:Tm):EVf (EV cfg) 153 [.sl (qb l),e.av]=some (yV l e).av:=by
 have loop:∀(j:Nat) (a:Tm),j<=l.length->Gets (qiC ((j:Int) - 1) a.kind a.num a.str (qb a.subs) 0 0 [] [] (qb l)) (·=((l.take j).foldr qaw a).av):=by
  intro j
  induction j with
  |zero=>
   intro a _;refine qhk _ _ _ _ _ _ _ _ _ _ ?_;refine⟨_,rfl,?_⟩;rw[qK];rfl
  |succ j ih=>
   intro a hj;refine qhk _ _ _ _ _ _ _ _ _ _ ?_;have hil:j<l.length:=by omega
   have hx:l[j]? =some l[j]:=qzS hil;have h:=ih (qaw l[j] a) (by omega);have e1:l.take (j+1)=l.take j++[l[j]]:=by rw[List.take_add_one,hx];rfl
   have e2:(((j+1:Nat):Int) - 1)=(j:Int):=by omega
   have w1:qzQ .i64 ((j:Int) - 1)=(j:Int) - 1:=qS (by omega) (by omega);rw[e2,w1,qAu (show(j:Int)≥0 by omega),qj,vX,xg,qAu hil,xG hx,e1,List.foldr_append];simp only[cond_true,qz7,qV,qAq,vn,qv,show qz8 4 4=true from rfl,qc];rw[←Tm.cells_eq,←Tm.cells_eq];have e3:qb (qaw l[j] a).subs=[l[j].cells,a.cells]:=by show qb [l[j],a]=_;rw[q4,q4,q6]
   rw[e3]at h;exact h
 apply Gets.get;rw[Tm.av,Tm.cells_eq];refine qnB _ _ _ _ _ ?_;have h:=loop l.length e (qz0 _);rw[qz4]at h;rw[qj,qS (by omega) (by omega)];exact h
end Go.Proofs.YtafdkafbgohigaaGreat
end
noncomputable section
namespace Go.Av
theorem qto(e:Env)(b:Bool):qzU (mR e b) 0=some [.int .i64 e.obj.kind,.int .i64 e.obj.num,.str e.obj.str,.sl (qb e.obj.subs),.sl (qO e.binds),.int .i64 e.self,.bool b]:=rfl
theorem qtp(e:Env)(b:Bool):qzU [AV.int .i64 e.obj.kind,.int .i64 e.obj.num,.str e.obj.str,.sl (qb e.obj.subs),.sl (qO e.binds),.int .i64 e.self,.bool b] 6=some (.bool b):=rfl
theorem qhZ{l:List Tm}(h:∀x∈l,x.chk=0):wL l<=l.length*4259840:=by
 induction l with
 |nil=>simp
 |cons x l ih=>
  have h1:=xO (h x (by simp));have h2:=ih λy hy=>h y (by simp[hy])
  rw[xq,List.length_cons];omega
theorem qeZ(op:List UInt8){n:Nat}(h:(n:Int)∈opsG op):n<=2:=by
 have:∀(l:List (List UInt8×List Int)),(∀p∈l,∀x∈p.2,x<=2)->∀x∈yi op [] l,x<=2:=by
  intro l
  induction l with
  |nil=>intro _ x hx;simp[yi]at hx
  |cons p l ih=>
   intro h x hx;rw[yi]at hx;cases hp:op==p.1
   ·rw[hp]at hx;exact ih (λq hq=>h q (by simp[hq])) x hx
   ·rw[hp]at hx;exact h p (by simp) x hx
 have:=this qc8 (by decide) _ h;omega
theorem qwU{c:Prop}[Decidable c]{x y:Option Tm}{P:Tm->Prop}(h1:∀t,x=some t->P t)(h2:∀t,y=some t->P t):∀t,(if c then x else y)=some t->P t:=by
 intro t h
 by_cases hc:c
 ·rw[qAw hc]at h;exact h1 t h
 ·rw[qAx hc]at h;exact h2 t h
theorem qeQ(b:Bool):(vt b).w<1099511627776:=by have:=xO (qqB b);omega
theorem qlj{n:Int}{v:Tm}(h:qL n=some v):v.w<1099511627776:=by have:=xO (qoM h);omega
theorem qyb{op:List UInt8}{t:Tm}(hc:t.chk=0):∀v,oneG op t=some v->v.w<1099511627776:=by
 have tr:∀b:Bool,∀v,some (vt b)=some v->v.w<1099511627776:=λb v h=>by cases h;exact qeQ _
 have sub:∀i:Nat,∀v,t.subs[i]? =some v->v.w<1099511627776:=λi v h=>by have:=xO (qey hc (qz5 h));omega
 have wi:∀n:Int,∀v,qL n=some v->v.w<1099511627776:=λn v h=>qlj h
 have no:∀v,(none:Option Tm)=some v->v.w<1099511627776:=λv h=>by cases h
 have bo:∀v,((vC t).map λb=>vt (!b))=some v->v.w<1099511627776:=λv h=>by obtain⟨_,_,rfl⟩:=qzZ.1 h;exact qeQ _
 have ln:∀v,((lenG t).bind λn=>qL n)=some v->v.w<1099511627776:=λv h=>by obtain⟨_,_,h⟩:=qzX.1 h;exact qlj h
 unfold oneG
 repeat' first
  |exact tr _
  |exact wi _
  |exact no
  |exact sub _
  |exact bo
  |exact ln
  |refine qwU ?_ ?_
theorem qrl{op:List UInt8}{a b:Int}{v:Tm}(h:xW op a b=some v):v.w<1099511627776:=by
 obtain⟨_,n,rfl⟩:=qpm h;rw[numT,Tm.w_mk];simp
theorem qx0{op:List UInt8}{a b:Tm}(hb:b.chk=0):∀v,twoG op a b=some v->v.w<1099511627776:=by
 have tr:∀c:Bool,∀v,some (vt c)=some v->v.w<1099511627776:=λb v h=>by cases h;exact qeQ _
 have bo:∀f:Bool->Bool->Bool,∀v,((vC a).bind λx=>(vC b).map λy=>vt (f x y))=some v->v.w<1099511627776:=by
  intro f v h;obtain⟨_,_,h⟩:=qzX.1 h;obtain⟨_,_,rfl⟩:=qzZ.1 h;exact qeQ _
 have no:∀v,(none:Option Tm)=some v->v.w<1099511627776:=λv h=>by cases h
 have sub:∀i:Nat,∀v,b.subs[i]? =some v->v.w<1099511627776:=λi v h=>by have:=xO (qey hb (qz5 h));omega
 have nu:∀v,xW op a.num b.num=some v->v.w<1099511627776:=λv h=>qrl h
 unfold twoG
 repeat' first
  |exact tr _
  |exact bo (λx y=>x&&y)
  |exact bo (λx y=>x||y)
  |exact bo (λx y=>x != y)
  |exact no
  |exact sub _
  |exact nu
  |refine qwU ?_ ?_
theorem qfn{op:List UInt8}{l:List Tm}{self:Int}{v:Tm}(hl:∀x∈l,x.chk=0)(hlen:l.length<=2)(h:zo op l self=some v):v.w<1099511627776:=by
 match l,hl,hlen with
 |[],_,_=>cases h;rw[Tm.w_mk];simp
 |[a],hl,_=>exact qyb (hl a (by simp)) _ h
 |[a,b],hl,_=>exact qx0 (hl b (by simp)) _ h
 |_::_::_::_,_,h=>simp at h
end Go.Av
namespace Go.Proofs.YtafdkafbgohigaaGreat
open Go.Av
theorem qnC(s:Bz){P:AV->Prop}(h:Gets (some (.agg [.int .i64 2,.int .i64 0,.str s,.sl []])) P):Gets (EVf (EV cfg) 46 [.str s]) P:=
  gE (λ_=>funF rfl rfl Tryz.func46 rfl) (by kernel_rfl) h
end Go.Proofs.YtafdkafbgohigaaGreat
end
noncomputable section
namespace Go.Av
end Go.Av
namespace Go.Proofs.YtafdkafbgohigaaGreat
open Go.Av
theorem qpp(s:List UInt8):EVf (EV cfg) 46 [.str s]=some (symT s).av:=by
 apply Gets.get;refine qnC _ ?_;rw[qkG];exact⟨_,rfl,rfl⟩
def qud:Den:=evC cfg (EV cfg) 151 none 0 (sub (ql Tryz.f151) [1,0,1,1,0,0,0])
def qui:Ex×List AV×AH->Option AV:=kAft (Cfg.keepOut cfg 151 2) (kRun cfg (EV cfg) (kfN cfg 6) 151 none 0 (yx cfg (Cfg.lift cfg 151 0) Tryz.f151.results.toList) ([.block 0,.seq (sub (ql Tryz.f151) [1,0,1,1,1]),.scope]))
def qyG:List AV×AH->Option AV:=λp=>kOpt (LOOP 0 (some [5]) ([(5,8)]) qud p) qui
def qy1:Den:=evC cfg (EV cfg) 151 none 0 (sub (ql Tryz.f151) [1,0,1,1,0,0,0,1,0,1,1,1,1,1,0,0])
def qzp:Ex×List AV×AH->Option AV:=kAft (Cfg.keepOut cfg 151 9) (kRun cfg (EV cfg) (kfN cfg 6) 151 none 0 (kLp 0 (some [5]) ([(5,8)]) qud qui) ([.block 2,.block 1]))
def qyF:List AV×AH->Option AV:=λp=>kOpt (LOOP 0 (some [5,6,70,71]) ([(5,8)]) qy1 p) qzp
abbrev qeg(nv5:Nat)(h0:Rz):Option (AV):=qyG (((fx 91 [(5,.ms 0 0 nv5)]):List AV),([.rows true 8 h0]:AH))
abbrev qiG(rows:Rz)(nv5:Nat)(v71:Int)(h0:Rz)(c1_0 c1_1:Int)(c1_2:Bz)(c1_3:Rz)(c1_4 c1_5:Int)(c1_6:Bz)(c1_7:Rz):Option (AV):=qyF (((fx 91 [(5,.ms 0 0 nv5),(6,.ptr 1 0 0),(70,.int .i64 (rows.length:Int)),(71,.int .i64 v71)]):List AV),([.rows true 8 h0,.rows false 8 [[.int .i64 c1_0,.int .i64 c1_1,.str c1_2,.sl c1_3,.int .i64 c1_4,.int .i64 c1_5,.str c1_6,.sl c1_7]]]:AH))
theorem qlY(ka na:Int)(sa:Bz)(la:Rz)(kb nb:Int)(sb:Bz)(lb:Rz){P:AV->Prop}(h:Gets (qeg 1 [[.int .i64 ka,.int .i64 na,.str sa,.sl la,.int .i64 kb,.int .i64 nb,.str sb,.sl lb]]) P):Gets (EVs (EV cfg) 151 [.agg [.int .i64 ka,.int .i64 na,.str sa,.sl la],.agg [.int .i64 kb,.int .i64 nb,.str sb,.sl lb]]) P:=
  gE (λ_=>funS rfl rfl Tryz.func151 rfl) (by kernel_rfl) h
theorem qdR(nv5:Nat)(h0:Rz){P:AV->Prop}(h:Gets (bif decide ((↑ nv5:Int)>0)then bif qe 0 (qzQ .i64 ((↑ nv5:Int) - 1))&&qu (qzQ .i64 ((↑ nv5:Int) - 1)) (↑ nv5:Int)then kOpt (qzU h0 (0+qzV (qzQ .i64 ((↑ nv5:Int) - 1)))) λrow=>bif qz8 8 (qzO row)then qa (qzT 8 row) λc cs=>kInt .i64 c λn=>qa cs λc cs=>kInt .i64 c λn_1=>qa cs λc cs=>kStr c λs=>qa cs λc cs=>kSl c λrows=>kTmC cs λn_2 n_3 s_1 rows_1=>(bif qe 0 (qzQ .i64 ((↑ nv5:Int) - 1))&&qe (qzQ .i64 ((↑ nv5:Int) - 1)) (↑ nv5:Int)then bif n != n_2 then some (.bool false)else bif n_1 != n_3 then some (.bool false)else bif ! s==s_1 then some (.bool false)else bif(rows.length:Int) != (rows_1.length:Int)then some (.bool false)else bif(↑ (qzO rows):Int)==0 then qeg (qzV (qzQ .i64 ((↑ nv5:Int) - 1)) - 0) h0 else qiG rows (qzV (qzQ .i64 ((↑ nv5:Int) - 1)) - 0) (0:Int) h0 n n_1 s rows n_2 n_3 s_1 rows_1 else none)else none else none else some (.bool true)) P):Gets (qeg nv5 h0) P:=
  gE (λ_=>qM (cfg:=cfg) (f:=151) (rd:=none) (bs:=0)) (by kernel_rfl) h
theorem qho(rows:Rz)(nv5:Nat)(v71:Int)(h0:Rz)(c1_0 c1_1:Int)(c1_2:Bz)(c1_3:Rz)(c1_4 c1_5:Int)(c1_6:Bz)(c1_7:Rz){P:AV->Prop}(h:Gets (bif decide (v71<(rows.length:Int))then bif qe 0 v71&&qu v71 (c1_3.length:Int)then kOpt (qzU c1_3 (v71.toNat)) λrow=>bif qzP (qzO row) 4 then bif qz8 4 (qzO row)then kTmC (qzT 4 row) λn n_1 s rows_1=>(bif qe (0:Int) v71&&qu v71 (c1_7.length:Int)then kOpt (qzU c1_7 (v71.toNat)) λrow=>bif qzP (qzO row) 4 then bif qz8 4 (qzO row)then kTmC (qzT 4 row) λn_2 n_3 s_1 rows_2=>(bif qz8 (0+nv5) (qzO h0)&&qX (nv5+1) 112 then qiG rows (nv5+1) (qzQ .i64 (v71+1)) (qAi (qzT nv5 h0) [[.int .i64 n,.int .i64 n_1,.str s,.sl rows_1,.int .i64 n_2,.int .i64 n_3,.str s_1,.sl rows_2]]) c1_0 c1_1 c1_2 c1_3 c1_4 c1_5 c1_6 c1_7 else none)else none else none else none)else none else none else none else qeg nv5 h0) P):Gets (qiG rows nv5 v71 h0 c1_0 c1_1 c1_2 c1_3 c1_4 c1_5 c1_6 c1_7) P:=
  gE (λ_=>qM (cfg:=cfg) (f:=151) (rd:=none) (bs:=0)) (by kernel_rfl) h
end Go.Proofs.YtafdkafbgohigaaGreat
end
noncomputable section
namespace Go.Av
def xB(R:List (Tm×Tm)):List (List AV):=R.map λp=>p.1.cells++p.2.cells
theorem qcA(R:List (Tm×Tm)):(xB R).length=R.length:=by simp[xB]
theorem qfA(R S:List (Tm×Tm)):xB (R++S)=xB R++xB S:=by simp[xB]
theorem qri(R:List (Tm×Tm))(i:Nat):(xB R)[i]? =(R[i]?).map λp=>p.1.cells++p.2.cells:=by simp[xB]
theorem qsl:∀(a b:List Tm),a.length=b.length->((∀p∈a.zip b,p.1=p.2)↔a=b)
 |[],[],_=>by simp
 |x::a,y::b,h=>by
  have:=qsl a b (by simpa using h);simp only[List.zip_cons_cons,qAd,forall_eq_or_imp,List.cons.injEq,this]
 |[],_::_,h=>by simp at h
 |_::_,[],h=>by simp at h
end Go.Av
namespace Go.Proofs.YtafdkafbgohigaaGreat
open Go.Av
theorem qxq{n:Nat}(h:n<=1099511627776):qX n 112=true:=by
 unfold qX;rw[qzR,Nat.ble_eq,Nat.ble_eq];omega
theorem qlp{x y:Tm}(hxy:x.subs.length=y.subs.length)(hx:x.subs.length<1099511627776){P:AV->Prop}:∀(d i:Nat) (R:List (Tm×Tm)) (Z:List (List AV)),i+d=x.subs.length->R.length+d<1099511627776->(d=0->Z=[]) ->
  Gets (qeg (R++(x.subs.zip y.subs).drop i).length (xB (R++(x.subs.zip y.subs).drop i))) P ->
  Gets (qiG (qb x.subs) R.length i (xB R++Z) x.kind x.num x.str (qb x.subs) y.kind y.num y.str (qb y.subs)) P
 |0,i,R,Z,hi,_,hz,h=>by
  refine qho _ _ _ _ _ _ _ _ _ _ _ _ ?_;obtain rfl:=hz rfl;rw[List.drop_eq_nil_of_le (by simp;omega)]at h;simp at h;have:¬i<x.subs.length:=by omega
  simpa [this]using h
 |d+1,i,R,Z,hi,hR,_,h=>by
  refine qho _ _ _ _ _ _ _ _ _ _ _ _ ?_;have h1:i<x.subs.length:=by omega
  have h2:i<y.subs.length:=by omega
  have hzl:i<(x.subs.zip y.subs).length:=by simp;omega
  have hd:(x.subs.zip y.subs).drop i=(x.subs[i],y.subs[i])::(x.subs.zip y.subs).drop (i+1):=by
   rw[List.drop_eq_getElem_cons hzl,List.getElem_zip]
  have ih:=qlp hxy hx (P:=P) d (i+1) (R++[(x.subs[i],y.subs[i])]) [] (by omega) (by simp;omega) (λ_=>rfl) (by
   rw[hd]at h
   simpa using h)
  have ht:qzT R.length (xB R++Z)=xB R:=by rw[List.take_append_of_le_length (by rw[qcA];exact qz0 _),qAa (by rw[qcA];exact qz0 _)]
  have hp:xB (R++[(x.subs[i],y.subs[i])])=xB R++[x.subs[i].cells++y.subs[i].cells]:=by rw[qfA];rfl
  have hw:=qmT h1 hx;rw[List.append_nil,hp]at ih;simp[h1,h2,hw,qxq (show R.length+1<=1099511627776 by omega),ht,qcA]at ih⊢;rw[Tm.cells_eq x.subs[i]]at ih;exact ih
theorem qx4:∀(n:Nat) (R:List (Tm×Tm)) (Z:List (List AV)),wL (R.map Prod.fst)<=n->n<1099511627776 ->
  Gets (qeg R.length (xB R++Z)) (qdO (∀p∈R,p.1=p.2)):=by
 intro n
 induction n with
 |zero=>
  intro R Z hn _;have:R=[]:=by
   have:=zg (R.map Prod.fst);exact List.length_eq_zero_iff.1 (by simp at this;omega)
  subst this;refine qdR _ _ ?_;simp[xZ]
 |succ n ih=>
  intro R Z hn hN;rcases List.eq_nil_or_concat R with rfl|⟨R0,p,rfl⟩
  ·refine qdR _ _ ?_;simp[xZ]
  ·rw[List.concat_eq_append]at *;obtain⟨x,y⟩:=p;have hwx:=x.w_eq;simp only[List.map_append,List.map_cons,List.map_nil,qba,xq,z8]at hn;have hl0:=zg (R0.map Prod.fst);rw[List.length_map]at hl0;have hls:=zg x.subs;refine qdR _ _ ?_;have e1:(R0++[(x,y)]).length=R0.length+1:=by simp
   have hw1:qzQ .i64 (R0.length:Int)=R0.length:=qwH (by omega);have g:(xB (R0++[(x,y)])++Z)[R0.length]? =some (.int .i64 x.kind:: .int .i64 x.num:: .str x.str:: .sl (qb x.subs)::y.cells):=by
    rw[qz6 (by rw[qcA];simp),qri];simp;rw[Tm.cells_eq x];rfl
   have e3:xB (R0++[(x,y)])++Z=xB R0++((x.cells++y.cells)::Z):=by rw[qfA,List.append_assoc];rfl
   have hq:(∀p∈R0++[(x,y)],p.1=p.2)↔((∀p∈R0,p.1=p.2)∧x=y):=by simp[or_imp,forall_and]
   have hxy:x=y↔(x.kind=y.kind∧x.num=y.num∧x.str=y.str∧x.subs=y.subs):=by
    constructor
    ·rintro rfl;exact⟨rfl,rfl,rfl,rfl⟩
    ·rintro⟨h1,h2,h3,h4⟩;rw[←Tm.eta x,←Tm.eta y,h1,h2,h3,h4]
   rw[propext hq];have hno:¬(x.kind=y.kind∧x.num=y.num∧x.str=y.str∧x.subs=y.subs)->qdO ((∀p∈R0,p.1=p.2)∧x=y) (.bool false):=λh=>xZ.2 ⟨λe=>(by cases e),λh'=>absurd (hxy.1 h'.2) h⟩
   simp only[e3]at g⊢;simp[e1,hw1,g]
   by_cases h1:x.kind=y.kind
   ·by_cases h2:x.num=y.num
    ·by_cases h3:x.str=y.str
     ·by_cases h4:x.subs.length=y.subs.length
      ·have hsub:(∀p∈x.subs.zip y.subs,p.1=p.2)↔x=y:=by
        rw[qsl _ _ h4,hxy];simp[h1,h2,h3]
       have c1:(x.kind != y.kind)=false:=by simp[h1]
       have c2:(x.num != y.num)=false:=by simp[h2]
       have c3:(x.str==y.str)=true:=by simp[h3]
       have c4:((x.subs.length:Int) != (y.subs.length:Int))=false:=by simp[h4]
       have eall:(∀(a b:Tm),(a,b)∈R0->a=b)↔(∀p∈R0,p.1=p.2):=⟨λh p hp=>h p.1 p.2 hp,λh a b hp=>h (a,b) hp⟩;rw[c1,c2,c3,c4];simp only[cond_false,cond_true];rcases Nat.eq_zero_or_pos x.subs.length with hz|hp
       ·have hr:=ih R0 ((x.cells++y.cells)::Z) (by omega) (by omega);have hx0:x.subs=[]:=List.length_eq_zero_iff.1 hz;have hxy':x=y:=hsub.1 (by rw[hx0];simp);have c5:((x.subs.length:Int)==0)=true:=by simp[hz]
        rw[c5,propext (show((∀(a b:Tm),(a,b)∈R0->a=b)∧x=y)↔(∀p∈R0,p.1=p.2)from⟨λh=>eall.1 h.1,λh=>⟨eall.2 h,hxy'⟩⟩)];exact hr
       ·have c5:((x.subs.length:Int)==0)=false:=by rw[beqD];exact qAv (by omega)
        rw[c5];simp only[cond_false];have hm:(R0++x.subs.zip y.subs).map Prod.fst=R0.map Prod.fst++x.subs:=by rw[List.map_append,List.map_fst_zip (by omega)]
        have hr:=ih (R0++x.subs.zip y.subs) [] (by rw[hm,qba];omega) (by omega);rw[List.append_nil]at hr;have hP:(∀p∈R0++x.subs.zip y.subs,p.1=p.2)↔((∀(a b:Tm),(a,b)∈R0->a=b)∧x=y):=by
         rw[←hsub,eall];simp only[qAh,or_imp,forall_and]
        rw[propext hP]at hr;exact qlp h4 (by omega) x.subs.length 0 R0 _ (by omega) (by omega) (λh=>by omega) (by rw[List.drop_zero];exact hr)
      ·have h4':¬((x.subs.length:Int)=(y.subs.length:Int)):=by omega
       simp[h1,h2,h3,h4',bneD]
       simpa using hno λh=>h4 (by rw[h.2.2.2])
     ·have h3':(x.str==y.str)=false:=by simpa using h3
      simp[h1,h2,h3',bneD]
      simpa using hno λh=>h3 h.2.2.1
    ·simp[h1,h2,bneD]
     simpa using hno λh=>h2 h.2.1
   ·simp[h1,bneD]
    simpa using hno λh=>h1 h.1
theorem qw6{a:Tm}(h:a.w<1099511627776)(b:Tm):Gets (EVs (EV cfg) 151 [a.av,b.av]) (qdO (a=b)):=by
 have:=qx4 _ [(a,b)] [] (qz0 _) (by simpa using h);rw[List.append_nil]at this;rw[Tm.av,Tm.av,Tm.cells_eq a,Tm.cells_eq b];refine qlY _ _ _ _ _ _ _ _ ?_;have e:xB [(a,b)]=[[AV.int .i64 a.kind,.int .i64 a.num,.str a.str,.sl (qb a.subs),.int .i64 b.kind,.int .i64 b.num,.str b.str,.sl (qb b.subs)]]:=by
  simp only[xB,List.map_cons,List.map_nil,Tm.cells_eq];rfl
 have e2:(∀p∈[(a,b)],p.1=p.2)↔a=b:=by simp
 rw[e,propext e2]at this;exact this
end Go.Proofs.YtafdkafbgohigaaGreat
end
noncomputable section
namespace Go.Av
theorem qdy{l:List Tm}{i:Nat}{t:Tm}(h:l[i]? =some t):qzU (qb l) (qzV (i:Int))=some t.cells:=by
 rw[q9,qAk,yG,h];rfl
def MOut(o:Option (List (Int×Tm)))(b:Bool)(r:List AV):Prop:=match o with
 |some m=>b=true∧BRow m r∧∀q∈m,q.2.chk=0
 |none=>b=false
def QM(o:Option (List (Int×Tm)))(q:MV×List (List AV)):Prop:=∃b r,q=(MV.bool b,[r])∧MOut o b r
theorem QM.same{p t:Tm}{m:List (Int×Tm)}{r:List AV}(h:BRow m r)(hm:∀q∈m,q.2.chk=0):QM (if p=t then some m else none) (MV.bool (decide (p=t)),[r]):=by
 refine⟨_,r,rfl,?_⟩
 by_cases h1:p=t
 ·rw[qAw h1,qAu h1];exact⟨rfl,h,hm⟩
 ·rw[qAx h1,qAv h1];exact rfl
end Go.Av
namespace Go.Proofs.YtafdkafbgohigaaGreat
open Go.Av
end Go.Proofs.YtafdkafbgohigaaGreat
end
noncomputable section
namespace Go.Av
def qj7(r:Tm×Int):AV:=.tup [r.1.av,.int .i64 r.2]
structure EnvW (e:Env):Prop where
 obj:e.obj.w<1099511627776
 len:e.binds.length<1099511627776
 binds:∀p∈e.binds,p.2.w<1099511627776
end Go.Av
namespace Go.Proofs.YtafdkafbgohigaaGreat
open Go.Av
end Go.Proofs.YtafdkafbgohigaaGreat
end
noncomputable section
namespace Go.Av
end Go.Av
namespace Go.Proofs.YtafdkafbgohigaaGreat
open Go.Av
theorem qyt(t:Tm):t.av= .agg [.int .i64 t.kind,.int .i64 t.num,.str t.str,.sl (qb t.subs)]:=by rw[Tm.av,Tm.cells_eq]
end Go.Proofs.YtafdkafbgohigaaGreat
end
noncomputable section
namespace Go.Av
def okC(c:Cl):Bool:=qrQ c.head&& !c.bs.isEmpty&&(c.gs.all (λe=>decide (qez (qgM c.head) e=0))&&c.bs.all (λe=>decide (qez (qgM c.head) e=0)))
theorem qpW(c:Cl):qla (clT c)=if okC c then some c else none:=by
 unfold qla clT;rw[qAw (show(tupT [c.head,xP c.gs,xP c.bs]).kind=7 from rfl)];show(if qrQ c.head&&((xb (xP c.gs)).2&&((xb (xP c.bs)).2&& !(xb (xP c.bs)).1.isEmpty))&&((xb (xP c.gs)).1.all (λe=>decide (qez (qgM c.head) e=0))&&(xb (xP c.bs)).1.all (λe=>decide (qez (qgM c.head) e=0)))then some (Cl.mk c.head (xb (xP c.gs)).1 (xb (xP c.bs)).1)else none)=_
 rw[qbY,qbY];simp only[Bool.true_and];rfl
theorem qm9:∀cs:List Cl,seqC (cs.map clT)=if cs.all okC then some cs else none
 |[]=>rfl
 |c::cs=>by
  rw[List.map_cons,seqC,qpW,qm9 cs,List.all_cons];cases okC c<;>cases cs.all okC<;>rfl
theorem qt0(cs:List Cl):clsG (selT cs)=if(selT cs).chk=0 then(if cs.all okC&& !cs.isEmpty then(cs,0)else([],10))else([],2):=by
 unfold clsG;have h:xb (selT cs)=(cs.map clT,true):=qbY _;rw[h];simp only[qm9,Bool.true_and];cases h1:cs.all okC<;>cases cs<;>simp
structure SelOk (cs:List Cl):Prop where
 chk:(selT cs).chk=0
 ok:∀c∈cs,okC c=true
 ne:cs≠[]
theorem qtZ{cs:List Cl}:(clsG (selT cs)).2=0↔SelOk cs:=by
 rw[qt0]
 by_cases h:(selT cs).chk=0
 ·rw[qAw h];cases h1:cs.all okC&& !cs.isEmpty with
  |true=>
   rw[qzR,List.all_eq_true]at h1;exact⟨λ_=>⟨h,h1.1,by rintro rfl;exact absurd h1.2 (by simp)⟩,λ_=>rfl⟩
  |false=>
   refine⟨λh=>(by cases h),λg=>?_⟩;rw[List.all_eq_true.2 g.ok,Bool.true_and]at h1;exact absurd (List.isEmpty_iff.1 (by simpa using h1)) g.ne
 ·rw[qAx h];exact⟨λh=>(by cases h),λg=>absurd g.chk h⟩
theorem SelOk.of{cs:List Cl}(h:SelOk cs):ofG cs=(selT cs,0):=by
 unfold ofG;rw[qAw (qtZ.2 h)]
theorem qdZ:∀l:List Tm,(xP l).words=1+l.length+qZ l
 |[]=>by decide
 |x::l=>by
  have h:(xP (x::l)).words=1+(x.words+((xP l).words+0)):=by
   show(Tm.mk 9 0 [] [x,xP l]).words=_;rw[Tm.words];simp[qZ,Tm.own]
  rw[h,qdZ l,qZ,List.length_cons];omega
theorem qd0:∀l:List Tm,(xP l).parts=vD l
 |[]=>by decide
 |x::l=>by
  have h:(xP (x::l)).parts=(x.parts&&((xP l).parts&&true)):=by
   show(Tm.mk 9 0 [] [x,xP l]).parts=_;rw[Tm.parts];simp[vD,yo]
  rw[h,qd0 l,vD,Bool.and_true]
theorem qw5{c:Cl}:(selT [c]).chk=0↔(clT c).parts=true∧2+(clT c).words<=65536:=by
 rw[zE,selT,qdZ,qd0];simp[vD,qZ]
theorem SelOk.one{cs:List Cl}(h:SelOk cs){c:Cl}(hc:c∈cs):SelOk [c]:=by
 obtain⟨h1,h2⟩:=zE.1 h.chk;rw[selT,qd0]at h1;rw[selT,qdZ]at h2;have hm:=List.mem_map_of_mem (f:=clT) hc;have:=qiI hm;have hl:1<=cs.length:=List.length_pos_of_mem hc;rw[List.length_map]at h2;exact⟨qw5.2 ⟨qcz h1 _ hm,by omega⟩,by simpa using h.ok c hc,by simp⟩
end Go.Av
end
noncomputable section
namespace Go.Proofs.YtafdkafbgohigaaGreat
open Go.Av
def qwX(t:Tm)(most:Int)(v:AV):Prop:=∃n:Int,v= .int .i64 n∧1<=n∧n<=most∧(n<most->t.w<=101*n∧t.words<=2*n)
theorem quy(t:Tm):t.Ok->∀most:Int,1<=most->most<=1073741824->Gets (EVs (EV cfg) 40 [t.av,.int .i64 most]) (qwX t most):=by
 induction t using Tm.ind with
 |_ k n s l ih=>
  intro hok most h1 hmx
  by_cases hs:s.length<=100
  ·have loop:∀(d i:Nat) (m:Int),i+d=l.length->1<=m->m<=most->(m<most->(1+s.length:Nat)+wL (l.take i)<=101*m∧2+qZ (l.take i)<=2*m)->Gets (qiL most m i k n s (qb l)) (qwX (.mk k n s l) most):=by
    intro d
    induction d with
    |zero=>
     intro i m hi hm1 hm2 hmw;refine qhq _ _ _ _ _ _ _ ?_;rw[qj,qAv (by omega)];refine⟨_,rfl,m,rfl,hm1,hm2,λhlt=>?_⟩;have hmw:=hmw hlt;rw[qAa (by omega)]at hmw;have:=(Tm.mk k n s l).own_le;rw[Tm.w_mk,Tm.words];omega
    |succ d ihd=>
     intro i m hi hm1 hm2 hmw;refine qhq _ _ _ _ _ _ _ ?_;have hil:i<l.length:=by omega
     have hx:l[i]? =some l[i]:=qzS hil;have hxl:=qz5 hx;have hix:=ih l[i] hxl (hok.sub hxl)
     by_cases hm:m<most
     ·have hmw:=hmw hm;rw[vJ hil hok.len,qS (x:=most - m) (by omega) (by omega)];simp[hil,hx,hm];refine Gets.bind (hix (most - m) (by omega) (by omega)) ?_;rintro _ ⟨n'',rfl,q1,q2,q3⟩;have hg:=ihd (i+1) (m+n'') (by omega) (by omega) (by omega) (λhlt=>by
       have:=q3 (by omega);rw[List.take_add_one,hx,Option.toList_some,qba,qcm,xq,z8,qZ,qZ];omega)
      simp only[qi];rw[qS (x:=m+n'') (by omega) (by omega)]
      simpa using hg
     ·simp[hil,hm];exact⟨m,rfl,hm1,hm2,λh=>absurd h hm⟩
   rw[Tm.av_mk];refine qhJ _ _ _ _ _ ?_;rw[qAv (by omega)]
   by_cases h2:(l.length:Int)>most
   ·rw[qj,qAu h2];exact⟨_,rfl,most,rfl,h1,Int.le_refl _,λh=>absurd h (by omega)⟩
   ·rw[qj,qAv h2];exact loop l.length 0 1 (by omega) (by omega) (by omega) (λ_=>by simp[qZ];omega)
  ·rw[Tm.av_mk];refine qhJ _ _ _ _ _ ?_;rw[qAu (by omega)];exact⟨_,rfl,most,rfl,h1,Int.le_refl _,λh=>absurd h (by omega)⟩
def BigP(t:Tm)(most:Int)(v:AV):Prop:=∃b:Bool,v= .bool b∧(b=false->t.w<=101*most∧t.words<=2*most)
theorem qqq{t:Tm}(h:t.Ok){most:Int}(h1:1<=most)(h2:most<=1000000000):Gets (EVs (EV cfg) 9 [t.av,.int .i64 most]) (BigP t most):=by
 have h1:=quy t h (most+1) (by omega) (by omega);rw[Tm.av,Tm.cells_eq]at h1⊢;refine qru _ _ _ _ _ ?_;rw[qS (by omega) (by omega)];refine Gets.bind h1 ?_;rintro _ ⟨n,rfl,q1,q2,q3⟩;simp only[qi];refine⟨_,rfl,_,rfl,λhb=>?_⟩;have hb:¬n>most:=of_decide_eq_false hb;have:=q3 (by omega);omega
def qyY:Den:=evC cfg (EV cfg) 52 none 0 (sub (ql Tryz.f52) [1,1,0,1,0,0])
def qzm:Ex×List AV×AH->Option AV:=kAft (Cfg.keepOut cfg 52 4) (kRun cfg (EV cfg) (kfN cfg 6) 52 none 0 (yx cfg (Cfg.lift cfg 52 0) Tryz.f52.results.toList) ([.block 0,.seq (sub (ql Tryz.f52) [1,1,1])]))
def qyD:List AV×AH->Option AV:=λp=>kOpt (LOOP 0 (some [0,1,5]) ([]) qyY p) qzm
def qy0:Den:=evC cfg (EV cfg) 41 none 0 (sub (ql Tryz.f41) [1,1,0,1,0,0])
def qzo:Ex×List AV×AH->Option OV:=kAft (Cfg.keepOut cfg 41 3) (kRun cfg (EV cfg) (kfN cfg 6) 41 none 0 (qwS cfg (Cfg.lift cfg 41 0) Tryz.f41.results.toList) ([.block 0,.seq (sub (ql Tryz.f41) [1,1,1])]))
def qyE:List AV×AH->Option OV:=λp=>kOpt (LOOP 0 (some [0,3,4]) ([(3,4)]) qy0 p) qzo
abbrev qiE(A B:Rz)(v5:Int):Option (AV):=qyD (((fx 27 [(0,.sl A),(1,.sl B),(5,.int .i64 v5)]):List AV),([]:AH))
abbrev qiF(A:Rz)(nv3:Nat)(v4:Int)(h0:Rz):Option (OV):=qyE (((fx 20 [(0,.sl A),(3,.ms 0 0 nv3),(4,.int .i64 v4)]):List AV),([.rows true 4 h0]:AH))
theorem qdU(ka na:Int)(sa:Bz)(la:Rz)(kb nb:Int)(sb:Bz)(lb:Rz){P:AV->Prop}(h:Gets (bif ka==kb then bif na==nb then bif sa==sb then kOpt (EVs (EV cfg) 52 [.sl la,.sl lb]) λv=>qq v λb=>some (.bool b)else some (.bool false)else some (.bool false)else some (.bool false)) P):Gets (EVs (EV cfg) 14 [.agg [.int .i64 ka,.int .i64 na,.str sa,.sl la],.agg [.int .i64 kb,.int .i64 nb,.str sb,.sl lb]]) P:=
  gE (λ_=>funS rfl rfl Tryz.func14 rfl) (by kernel_rfl) h
theorem qdq(A B:Rz){P:AV->Prop}(h:Gets (bif(A.length:Int) != (B.length:Int)then some (.bool false)else qiE A B 0) P):Gets (EVs (EV cfg) 52 [.sl A,.sl B]) P:=
  gE (λ_=>funS rfl rfl Tryz.func52 rfl) (by kernel_rfl) h
theorem qdV(kt nt:Int)(st:Bz)(lt:Rz){P:AV->Prop}(h:Gets (kOpt (EVo (EV cfg) 41 [.sl lt]) λo=>kOwn o (some (.agg [.int .i64 kt,.int .i64 nt,.str st,.sl []])) λsz rs off len=>bif qz8 (off+len) (qzO rs)&&true then some (.agg [.int .i64 kt,.int .i64 nt,.str st,.sl (qzT len (List.drop off rs))])else none) P):Gets (EVf (EV cfg) 11 [.agg [.int .i64 kt,.int .i64 nt,.str st,.sl lt]]) P:=
  gE (λ_=>funF rfl rfl Tryz.func11 rfl) (by kernel_rfl) h
theorem qdr(A:Rz){P:OV->Prop}(h:Gets (qiF A 0 0 []) P):Gets (EVo (EV cfg) 41 [.sl A]) P:=
  gE (λ_=>funO rfl rfl Tryz.func41 rfl) (by kernel_rfl) h
theorem qhm(A B:Rz)(v5:Int){P:AV->Prop}(h:Gets (bif decide (v5<(A.length:Int))then bif qe 0 v5&&qu v5 (A.length:Int)then kOpt (qzU A (v5.toNat)) λrow=>bif qzP (qzO row) 4 then bif qz8 4 (qzO row)then kTmC (qzT 4 row) λn n_1 s rows=>(bif qe 0 v5&&qu v5 (B.length:Int)then kOpt (qzU B (v5.toNat)) λrow=>bif qzP (qzO row) 4 then bif qz8 4 (qzO row)then kTmC (qzT 4 row) λn_2 n_3 s_1 rows_1=>(kOpt (EVs (EV cfg) 14 [.agg [.int .i64 n,.int .i64 n_1,.str s,.sl rows],.agg [.int .i64 n_2,.int .i64 n_3,.str s_1,.sl rows_1]]) λv=>qq v λb=>bif ! b then some (.bool false)else qiE A B (qzQ .i64 (v5+1)))else none else none else none)else none else none else none else some (.bool true)) P):Gets (qiE A B v5) P:=
  gE (λ_=>qM (cfg:=cfg) (f:=52) (rd:=none) (bs:=0)) (by kernel_rfl) h
theorem qhn(A:Rz)(nv3:Nat)(v4:Int)(h0:Rz){P:OV->Prop}(h:Gets (bif decide (v4<(A.length:Int))then bif qe 0 v4&&qu v4 (A.length:Int)then kOpt (qzU A (v4.toNat)) λrow=>bif qzP (qzO row) 4 then bif qz8 4 (qzO row)then kTmC (qzT 4 row) λn n_1 s rows=>(kOpt (EVf (EV cfg) 11 [.agg [.int .i64 n,.int .i64 n_1,.str s,.sl rows]]) λv=>kTmV v λn n_2 s rows=>(bif qz8 (0+nv3) (qzO h0)&&qX (nv3+1) 56 then qiF A (nv3+1) (qzQ .i64 (v4+1)) (qAi (qzT nv3 h0) [[.int .i64 n,.int .i64 n_2,.str s,.sl rows]])else none))else none else none else none else some (OV.own 4 h0 0 nv3)) P):Gets (qiF A nv3 v4 h0) P:=
  gE (λ_=>qM (cfg:=cfg) (f:=41) (rd:=none) (bs:=0)) (by kernel_rfl) h
theorem quC(la lb:List Tm)(hlen:la.length<1099511627776)(ih:∀a∈la,∀b,Gets (EVs (EV cfg) 14 [a.av,b.av]) (qdO (a=b))):Gets (EVs (EV cfg) 52 [.sl (qb la),.sl (qb lb)]) (qdO (la=lb)):=by
 have loop:la.length=lb.length->∀(d i:Nat),i+d=la.length->la.take i=lb.take i->Gets (qiE (qb la) (qb lb) i) (qdO (la=lb)):=by
  intro hl d
  induction d with
  |zero=>
   intro i hi ht;refine qhm _ _ _ ?_;rw[qAa (by omega),qAa (by omega)]at ht;have h1:¬i<la.length:=by omega
   simp[h1,xZ];exact ht
  |succ d ihd=>
   intro i hi ht;refine qhm _ _ _ ?_;have hlt1:i<la.length:=by omega
   have hlt2:i<lb.length:=by omega
   have hx:la[i]? =some la[i]:=qzS hlt1;have hy:lb[i]? =some lb[i]:=qzS hlt2;have hix:=ih la[i] (qz5 hx) lb[i];have hta:la.take (i+1)=la.take i++[la[i]]:=by rw[List.take_add_one,hx];rfl
   have htb:lb.take (i+1)=lb.take i++[lb[i]]:=by rw[List.take_add_one,hy];rfl
   have hih:=ihd (i+1) (by omega);have hne:la[i]≠lb[i]->la≠lb:=by intro h e;subst e;exact h rfl
   rw[hta,htb,ht]at hih;rw[vJ (n:=la.length) (by omega) hlen];simp[hlt1,hlt2,hx,hy];refine Gets.bind hix ?_;rintro _ ⟨b,rfl,hb⟩;cases b with
   |true=>simp;exact hih (by rw[hb.1 rfl])
   |false=>
    have:la≠lb:=hne (λe=>by cases hb.2 e);simp[xZ,this]
 refine qdq _ _ ?_
 by_cases hl:la.length=lb.length
 ·simp[hl];exact loop hl la.length 0 (by omega) (by simp)
 ·have:la≠lb:=λe=>hl (by rw[e])
  have hl':¬((la.length:Int)=lb.length):=by omega
  simp[bneD,hl',xZ,this]
theorem quB(a:Tm):a.Ok->∀b:Tm,Gets (EVs (EV cfg) 14 [a.av,b.av]) (qdO (a=b)):=by
 induction a using Tm.ind with
 |_ k n s l ih=>
  intro hok b;obtain⟨k',n',s',l'⟩:=b;have hl:=quC l l' hok.len (λa ha b=>ih a ha (hok.sub ha) b);rw[Tm.av_mk,Tm.av_mk];refine qdU _ _ _ _ _ _ _ _ ?_
  by_cases h1:k=k'
  ·by_cases h2:n=n'
   ·by_cases h3:s=s'
    ·subst h1 h2 h3;simp;refine Gets.bind hl ?_;rintro _ ⟨b,rfl,hb⟩;simp[xZ,hb]
    ·simp[h1,h2,beqD,h3,xZ]
   ·simp[h1,beqD,h2,xZ]
  ·simp[beqD,h1,xZ]
theorem qfR{a b:Tm}(h:a.Ok){c:Bool}(hc:c=true↔a=b):EVs (EV cfg) 14 [a.av,b.av]=some (.bool c):=by
 obtain⟨_,h1,b',rfl,h2⟩:=quB a h b;rw[h1];have:b'=c:=by rw[Bool.eq_iff_iff];exact h2.trans hc.symm
 rw[this]
end Go.Proofs.YtafdkafbgohigaaGreat
end
noncomputable section
namespace Go.Av
theorem qik{a:Nat}(ha:a<18446744073709551616):qP (Op.intBits .and .u64 (a:Int) 4294967295)=some (.int .u64 ((a % 4294967296:Nat):Int)):=by
 have:qP (Op.intBits .and .u64 (a:Int) 4294967295)=some (.int .u64 (qzQ .u64 (BitVec.ofInt 64 (a:Int) &&& BitVec.ofInt 64 4294967295).toNat)):=rfl;rw[this];have ea:(BitVec.ofInt 64 (a:Int)).toNat=a:=by simp[BitVec.toNat_ofInt];omega
 have eb:(BitVec.ofInt 64 (4294967295:Int)).toNat=2 ^ 32 - 1:=by decide
 rw[BitVec.toNat_and,ea,eb,Nat.and_two_pow_sub_one_eq_mod,qwG (by omega)]
theorem qfQ{a:Nat}(_ha:a<18446744073709551616):qP (Op.shift .shr .u64 (a:Int) .u64 32)=some (.int .u64 ((a / 4294967296:Nat):Int)):=by
 have:qP (Op.shift .shr .u64 (a:Int) .u64 32)=some (.int .u64 (Int.fdiv a (2 ^ (min (32:Int).toNat 64)))):=by
  unfold Op.shift;rw[qAx (by omega)];rfl
 rw[this];have e:((2:Int) ^ (min (32:Int).toNat 64))=((4294967296:Nat):Int):=by decide
 rw[e,Int.fdiv_eq_ediv_of_nonneg _ (Int.natCast_nonneg _)];rfl
theorem qaI{n:Int}{m:Nat}(h:n=(m:Int))(hm:m<18446744073709551616):qzQ .u64 n=(m:Int):=by rw[h,qwG hm]
theorem qsu(n:Nat):qzQ .u64 (n:Int)=((n % 18446744073709551616:Nat):Int):=by
 simp[qzQ,IntKind.bits,IntKind.signed]
theorem qu9{a b:Nat}(ha:a<18446744073709551616)(hb:b<18446744073709551616):
  let p:=a / 4294967296*(b % 4294967296);let q:=a % 4294967296*(b / 4294967296);let r:=a % 4294967296*(b % 4294967296);let s:=a / 4294967296*(b / 4294967296)
  r<18446744073709551616∧p<18446744073709551616∧q<18446744073709551616∧s<18446744073709551616∧p+r / 4294967296<18446744073709551616∧(p+r / 4294967296) % 4294967296+q<18446744073709551616∧s+(p+r / 4294967296) / 4294967296<18446744073709551616 ∧
  s+(p+r / 4294967296) / 4294967296+((p+r / 4294967296) % 4294967296+q) / 4294967296=a*b / 18446744073709551616∧a*b / 18446744073709551616<18446744073709551616:=by
 intro p q r s;have ea:a=a / 4294967296*4294967296+a % 4294967296:=by omega
 have eb:b=b / 4294967296*4294967296+b % 4294967296:=by omega
 have e:a*b=s*18446744073709551616+(p+q)*4294967296+r:=by
  show a*b=(a / 4294967296*(b / 4294967296))*18446744073709551616+(a / 4294967296*(b % 4294967296)+a % 4294967296*(b / 4294967296))*4294967296+a % 4294967296*(b % 4294967296);generalize a / 4294967296=x1 at *;generalize a % 4294967296=x0 at *;generalize b / 4294967296=y1 at *;generalize b % 4294967296=y0 at *;rw[ea,eb];have h1:x1*4294967296*(y1*4294967296)=x1*y1*18446744073709551616:=by
   rw[Nat.mul_mul_mul_comm]
  have h2:x1*4294967296*y0=x1*y0*4294967296:=by rw[Nat.mul_right_comm]
  have h3:x0*(y1*4294967296)=x0*y1*4294967296:=by rw[Nat.mul_assoc]
  rw[qAr,Nat.mul_add,Nat.mul_add,h1,h2,h3];omega
 have bp:p<=4294967295*4294967295:=Nat.mul_le_mul (by omega) (by omega);have bq:q<=4294967295*4294967295:=Nat.mul_le_mul (by omega) (by omega);have br:r<=4294967295*4294967295:=Nat.mul_le_mul (by omega) (by omega);have bs:s<=4294967295*4294967295:=Nat.mul_le_mul (by omega) (by omega);have hab:a*b<18446744073709551616*18446744073709551616:=Nat.mul_lt_mul'' ha hb
 clear_value p q r s
 rw[e]at hab⊢;clear e ea eb;refine⟨by omega,by omega,by omega,by omega,by omega,by omega,by omega,by omega,by omega⟩
end Go.Av
namespace Go.Proofs.YtafdkafbgohigaaGreat
open Go.Av
theorem quT{a b:Nat}(ha:a<18446744073709551616)(hb:b<18446744073709551616):
  EVs (EV cfg) 280 [.int .u64 (a:Int),.int .u64 (b:Int)]=some (.tup [.int .u64 ((a*b / 18446744073709551616:Nat):Int),.int .u64 ((a*b % 18446744073709551616:Nat):Int)]):=by
 obtain⟨h1,h2,h3,h4,h5,h6,h7,h8,h9⟩:=qu9 ha hb;have w0:qzQ .u64 (((a % 4294967296:Nat):Int)*((b % 4294967296:Nat):Int))=((a % 4294967296*(b % 4294967296):Nat):Int):=qaI (Int.natCast_mul _ _).symm h1;have w1:qzQ .u64 (((a / 4294967296:Nat):Int)*((b % 4294967296:Nat):Int))=((a / 4294967296*(b % 4294967296):Nat):Int):=qaI (Int.natCast_mul _ _).symm h2;have w2:qzQ .u64 (((a % 4294967296:Nat):Int)*((b / 4294967296:Nat):Int))=((a % 4294967296*(b / 4294967296):Nat):Int):=qaI (Int.natCast_mul _ _).symm h3
 have w3:qzQ .u64 (((a / 4294967296:Nat):Int)*((b / 4294967296:Nat):Int))=((a / 4294967296*(b / 4294967296):Nat):Int):=qaI (Int.natCast_mul _ _).symm h4;have w4:qzQ .u64 ((a:Int)*(b:Int))=((a*b % 18446744073709551616:Nat):Int):=by rw[←Int.natCast_mul,qsu]
 apply Gets.get;refine qtm _ _ ?_;rw[qik ha,qfQ ha,qik hb,qfQ hb];simp only[qc,qi,w0,w1,w2,w3,w4];rw[qfQ h1];simp only[qc,qi];rw[qaI (Int.natCast_add _ _).symm h5,qik h5,qfQ h5];simp only[qc,qi];rw[qaI (Int.natCast_add _ _).symm h6,qfQ h6];simp only[qc,qi];rw[qaI (Int.natCast_add _ _).symm h7,qaI (Int.natCast_add _ _).symm (by rw[h8];exact h9),h8]
 exact⟨_,rfl,rfl⟩
theorem qjd:yd:=by
 intro e a b ha hb;obtain⟨a1,a2⟩:=ha;obtain⟨b1,b2⟩:=hb
 -- what follows the two signs
 have fin:∀(x y:Nat) (sg:Int),x<=576460752303423488->y<=576460752303423488->(sg=1∨sg= -1)->a*b=sg*(x*y:Nat) ->
   Gets (kOpt (EVs (EV cfg) 280 [.int .u64 (x:Int),.int .u64 (y:Int)]) fun(v:AV)=>kTup v fun(cs:List AV)=>qa cs fun(c:AV) (cs:List AV)=>kInt .u64 c fun(n:Int)=>qa cs fun(c:AV) (cs:List AV)=>kInt .u64 c fun(n_1:Int)=>kNil cs (bif decide (n>(0:Int))then kOpt (EVd (EV cfg) 250 [.ptr 0 0 0] 7 (mR e false)) fun(q:AV×List (List AV))=>kTmV q.1 fun(n n_2:Int) (s:List UInt8) (rows:List (List AV))=>(some (.agg [.int .i64 n,.int .i64 n_2,.str s,.sl rows],q.2))else bif decide (n_1>(576460752303423488:Int))then kOpt (EVd (EV cfg) 250 [.ptr 0 0 0] 7 (mR e false)) fun(q:AV×List (List AV))=>kTmV q.1 fun(n n_2:Int) (s:List UInt8) (rows:List (List AV))=>(some (.agg [.int .i64 n,.int .i64 n_2,.str s,.sl rows],q.2))else kOpt (EVd (EV cfg) 248 [.ptr 0 0 0,.int .i64 (qzQ .i64 (sg*qzQ .i64 n_1))] 7 (mR e false)) fun(q:AV×List (List AV))=>kTmV q.1 fun(n n_2:Int) (s:List UInt8) (rows:List (List AV))=>(some (.agg [.int .i64 n,.int .i64 n_2,.str s,.sl rows],q.2)))) (Res e (qL (a*b))):=by
  intro x y sg hx hy hsg hab;rw[quT (by omega) (by omega)];simp only[qc,kTup,qa,qi,kNil,yW,ve,qK];have hbad:(x*y:Nat)>576460752303423488->qL (a*b)=none:=by
   intro h;unfold qL;rw[qAx];rintro⟨h1,h2⟩;rw[hab]at h1 h2;rcases hsg with rfl|rfl<;>omega
  rw[hab]at hbad⊢;generalize x*y=p at *
  by_cases c1:p / 18446744073709551616>0
  ·rw[qAu (by omega),cond_true,hbad (by omega)];exact xz
  ·rw[qAv (by omega),cond_false];have ep:p % 18446744073709551616=p:=by omega
   rw[ep]
   by_cases c2:p>576460752303423488
   ·rw[qAu (by omega),cond_true,hbad c2];exact xz
   ·rw[qAv (by omega),cond_false,qS (x:=(p:Int)) (by omega) (by omega)];have:qzQ .i64 (sg*(p:Int))=sg*p:=by rcases hsg with rfl|rfl<;>exact qS (by omega) (by omega)
    rw[this];exact Gets.bind (zn e _ λr h1 h2=>h1) λr h=>zQ h (qaT h)
 have wneg:∀z:Int,-576460752303423488<=z->z<0->qzQ .u64 (qzQ .i64 (0 - z))=((-z).toNat:Int):=by
  intro z h1 h2;rw[qS (by omega) (by omega)];exact qaI (by omega) (by omega)
 have wpos:∀z:Int,0<=z->z<=576460752303423488->qzQ .u64 z=(z.toNat:Int):=λz h1 h2=>qaI (by omega) (by omega)
 refine qnD _ _ _ _ _ _ _ _ _ ?_;unfold ze13 ze14 ze15 ze16 ze17 ze18 ze19 ze20 ze21 ze4 ze5 ze6 ze7 ze8 ze9 ze10 ze11 ze12 ze1 ze2 ze3
 by_cases ca:a<0
 ·rw[qAu ca,cond_true]
  by_cases cb:b<0
  ·rw[qAu cb,cond_true,wneg a a1 ca,wneg b b1 cb];refine fin (-a).toNat (-b).toNat 1 (by omega) (by omega) (Or.inl rfl) ?_;rw[Int.natCast_mul,Int.toNat_of_nonneg (by omega),Int.toNat_of_nonneg (by omega),Int.neg_mul_neg,Int.one_mul]
  ·rw[qAv cb,cond_false,wneg a a1 ca,wpos b (by omega) (by omega)];refine fin (-a).toNat b.toNat (-1) (by omega) (by omega) (Or.inr rfl) ?_;rw[Int.natCast_mul,Int.toNat_of_nonneg (by omega),Int.toNat_of_nonneg (by omega),Int.neg_mul,Int.one_mul,Int.neg_mul,Int.neg_neg]
 ·rw[qAv ca,cond_false]
  by_cases cb:b<0
  ·rw[qAu cb,cond_true,wpos a (by omega) (by omega),wneg b b1 cb];refine fin a.toNat (-b).toNat (-1) (by omega) (by omega) (Or.inr rfl) ?_;rw[Int.natCast_mul,Int.toNat_of_nonneg (by omega),Int.toNat_of_nonneg (by omega),Int.neg_mul,Int.one_mul,Int.mul_neg,Int.neg_neg]
  ·rw[qAv cb,cond_false,wpos a (by omega) (by omega),wpos b (by omega) (by omega)];refine fin a.toNat b.toNat 1 (by omega) (by omega) (Or.inl rfl) ?_;rw[Int.natCast_mul,Int.toNat_of_nonneg (by omega),Int.toNat_of_nonneg (by omega),Int.one_mul]
end Go.Proofs.YtafdkafbgohigaaGreat
end
noncomputable section
namespace Go.Av
theorem qwO{α:Type}(t:Tm)(b:Bool)(x:Int)(K:Int->Int->List UInt8->List (List AV)->Bool->Int->Option α):(kTup (.tup [t.av,.bool b,.int .i64 x]) λcs=>qa cs λc cs=>kAgg c λcs_1=>qa cs_1 λc cs_2=>kInt .i64 c λn=>qa cs_2 λc cs_3=>kInt .i64 c λn_1=>qa cs_3 λc cs_4=>kStr c λs=>qa cs_4 λc cs_5=>kSl c λrows=>kNil cs_5 (qa cs λc cs=>qq c λb=>qa cs λc cs=>kInt .i64 c λm=>kNil cs (K n n_1 s rows b m)))=K t.kind t.num t.str (qb t.subs) b x:=by
 obtain⟨k,n,s,l⟩:=t;rw[Tm.av_mk];rfl
end Go.Av
end
noncomputable section
namespace Go.Proofs.YtafdkafbgohigaaGreat
open Go.Av
def qcK(B:Nat)(l:List InsA):Prop:=∀x∈l,x.o≠20∧x.t.w<=B
theorem qcK.mono{B B':Nat}{a:List InsA}(ha:qcK B a)(h:B<=B'):qcK B' a:=λx hx=>⟨(ha x hx).1,Nat.le_trans (ha x hx).2 h⟩
theorem zT_w:zT.w=1:=by rw[Tm.w_mk];simp
theorem qcK.z{B:Nat}(hB:1<=B){o a b:Int}(ho:o≠20):qcK B [iz o a b]:=λx hx=>by
 rw[List.mem_singleton]at hx;subst hx;exact⟨ho,by show zT.w<=B;rw[zT_w];exact hB⟩
theorem qcK.t{B:Nat}{t:Tm}(hB:t.w<=B){o a b:Int}(ho:o≠20):qcK B [⟨o,a,b,t⟩]:=λx hx=>by
 rw[List.mem_singleton]at hx;subst hx;exact⟨ho,hB⟩
theorem qcK.nil{B:Nat}:qcK B []:=λx hx=>absurd hx (by simp)
def tells(l:List InsA):Nat:=(l.filter λx=>decide (x.o=20)).length
structure SK where
 left:List Tm
 vals:List Tm
 binds:List (Int×Tm)
 body:Bool
abbrev newK(o:Tm):SK:=⟨[o],[],[],false⟩
structure BO where
 put:Int->Tm->List (Int×Tm)->List (Int×Tm)
 all:List (Int×Tm)->List Tm
def putB(n:Int)(t:Tm):List (Int×Tm)->List (Int×Tm)
 |[]=>[(n,t)]
 |p::l=>if p.1=n then(n,t)::l else p::putB n t l
def allB(m:List (Int×Tm)):List Tm:=(qAs 100).filterMap λn=>qR (n:Nat) m
def opsK:BO:=⟨putB,allB⟩
def insR(n:Int)(t:Tm):List (Int×Tm)->List (Int×Tm)
 |[]=>[(n,t)]
 |p::l=>if p.1<n then p::insR n t l else if p.1=n then(n,t)::l else(n,t)::p::l
def opsR:BO:=⟨insR,λl=>l.map (·.2)⟩
inductive How where
 |next|fails|jumps|raises|tells|broken
 deriving DecidableEq
def zm(bo:BO)(s:SK)(x:InsA):How×SK:=
 match s.left with
 |[]=>(.broken,s)
 |t::r=>
  if x.o=1 then(if x.a<0 then(.broken,{ s with left:=r })else if t.kind=7∧(t.subs.length:Int)=x.a then(.next,{ s with left:=t.subs++r })else(.fails,{ s with left:=r }))
  else if x.o=2 then(if t.kind=9 then(.next,{ s with left:=t.subs++r })else(.fails,{ s with left:=r }))
  else if x.o=6 then(if x.t.chk=0 then(if t=x.t then(.next,{ s with left:=r })else(.fails,{ s with left:=r }))else(.broken,{ s with left:=r }))
  else if x.o=3 then(if x.a<0∨99<x.a then(.broken,{ s with left:=r })else(.next,{ s with left:=r,binds:=bo.put x.a t s.binds }))
  else if x.o=4 then(if x.a<0∨99<x.a then(.broken,{ s with left:=r })else
   match qR x.a s.binds with
   |none=>(.broken,{ s with left:=r })
   |some h=>if h=t then(.next,{ s with left:=r })else(.fails,{ s with left:=r }))
  else(.next,{ s with left:=r })
def vL(t:Tm)(s:SK):How×SK:=if t.chk=0 then(.next,{ s with vals:=t::s.vals })else(.raises,s)
def qaZ(bo:BO)(o:Tm)(s:SK)(x:InsA):How×SK:=
 if x.o=7 then(if x.t.chk=0 then vL x.t s else(.broken,s))
 else if x.o=9 then vL o s
 else if x.o=8 then(match qR x.a s.binds with|none=>(.broken,s)|some t=>vL t s)
 else vL (yV (bo.all s.binds) zy) s
def doO(op:List UInt8)(l:List Tm)(self:Int):Option Tm:=if((l.length:Int)∈opsG op∧qau self=true)∧∀x∈l,x.chk=0 then zo op l self else none
def xi(x:InsA):Int:=if x.o=12 then 2 else x.a
def qaX(self:Int)(s:SK)(x:InsA):How×SK:=
 if xi x<0∨(s.vals.length:Int)<xi x∨(x.o=13∧(x.t.kind≠2∨x.t.chk≠0))then(.broken,s)
 else if x.o=11 then vL (tupT (s.vals.take (xi x).toNat).reverse) { s with vals:=s.vals.drop (xi x).toNat }
 else if x.o=12 then vL (.mk 9 0 [] (s.vals.take (xi x).toNat).reverse) { s with vals:=s.vals.drop (xi x).toNat }
 else match doO x.t.str (s.vals.take (xi x).toNat).reverse self with
  |none=>(.raises,{ s with vals:=s.vals.drop (xi x).toNat })
  |some t=>vL t { s with vals:=s.vals.drop (xi x).toNat }
def qaY(s:SK)(x:InsA):How×SK:=
 match s.vals with
 |[]=>(.broken,s)
 |t::r=>
  if x.o=20 then(.tells,s)
  else if x.o=19 then(.next,{ s with vals:=r })
  else if x.o=14 then(if vC t=some true then(.next,{ s with vals:=r })else(.fails,{ s with vals:=r }))
  else match vC t with
   |none=>(.raises,s)
   |some b=>if x.o=17 then(.next,s)else if b=decide (x.o=15)then(.next,{ s with vals:=r })else(.jumps,s)
def vZ(bo:BO)(o:Tm)(self:Int)(s:SK)(x:InsA):How×SK:=
 if x.o∈([1,2,3,4,5,6]:List Int)then zm bo s x
 else if x.o∈([7,8,9,10]:List Int)then qaZ bo o s x
 else if x.o∈([11,12,13]:List Int)then qaX self s x
 else if x.o∈([14,15,16,17,19,20]:List Int)then qaY s x
 else if x.o=18 then(.next,{ s with body:=true })
 else(.broken,s)
def xl(at_:Nat)(x:InsA)(h:How):Int:=
 match h with
 | .next| .tells| .broken=>(at_:Int)+1
 | .raises=>if x.o=15∨x.o=16 then x.a else x.b
 | .fails| .jumps=>x.b
def runO(bo:BO)(l:List InsA)(o:Tm)(self:Int)(at_ n:Nat)(s:SK):Tm×Bool×Int×Int:=
 match h:l[at_]? with
 |none=>(vh,false,(n:Int),0)
 |some x=>
  match vZ bo o self s x with
  |(.tells,s')=>(s'.vals.headD vh,true,(n:Int)+1,0)
  |(.broken,_)=>(vh,false,0,9)
  |(.raises,s')=>if s'.body then(qmL,true,(n:Int)+1,0)else if h2:xl at_ x .raises<=at_∨(l.length:Int)<xl at_ x .raises then(vh,false,0,9)else runO bo l o self (xl at_ x .raises).toNat (n+1) (newK o)
  |(.fails,_)=>if h2:xl at_ x .fails<=at_∨(l.length:Int)<xl at_ x .fails then(vh,false,0,9)else runO bo l o self (xl at_ x .fails).toNat (n+1) (newK o)
  |(.jumps,s')=>if h2:xl at_ x .jumps<=at_∨(l.length:Int)<xl at_ x .jumps then(vh,false,0,9)else runO bo l o self (xl at_ x .jumps).toNat (n+1) s'
  |(.next,s')=>runO bo l o self (at_+1) (n+1) s'
termination_by l.length - at_
decreasing_by
 all_goals
  have hlt:at_<l.length:=(qzW.1 h).1
  omega
theorem y5{bo:BO}{l:List InsA}{o:Tm}{self:Int}{at_ n:Nat}{s:SK}(h:l[at_]? =none):runO bo l o self at_ n s=(vh,false,(n:Int),0):=by
 rw[runO];split
 ·rfl
 ·rename_i x hx;rw[h]at hx;cases hx
theorem qbl{bo:BO}{l:List InsA}{o:Tm}{self:Int}{at_ n:Nat}{s s':SK}{x:InsA}(h:l[at_]? =some x)(hd:vZ bo o self s x=(.tells,s')):runO bo l o self at_ n s=(s'.vals.headD vh,true,(n:Int)+1,0):=by
 rw[runO];split
 ·rename_i hx;rw[h]at hx;cases hx
 ·rename_i y hx;rw[h]at hx;cases hx;rw[hd]
theorem qaK{bo:BO}{l:List InsA}{o:Tm}{self:Int}{at_ n:Nat}{s s':SK}{x:InsA}(h:l[at_]? =some x)(hd:vZ bo o self s x=(.broken,s')):runO bo l o self at_ n s=(vh,false,0,9):=by
 rw[runO];split
 ·rename_i hx;rw[h]at hx;cases hx
 ·rename_i y hx;rw[h]at hx;cases hx;rw[hd]
theorem qb8{bo:BO}{l:List InsA}{o:Tm}{self:Int}{at_ n:Nat}{s s':SK}{x:InsA}(h:l[at_]? =some x)(hd:vZ bo o self s x=(.next,s')):runO bo l o self at_ n s=runO bo l o self (at_+1) (n+1) s':=by
 rw[runO];split
 ·rename_i hx;rw[h]at hx;cases hx
 ·rename_i y hx;rw[h]at hx;cases hx;rw[hd]
def goO(bo:BO)(l:List InsA)(o:Tm)(self:Int)(at_:Nat)(p:Int)(n:Nat)(s:SK):Tm×Bool×Int×Int:=
 if p<=at_∨(l.length:Int)<p then(vh,false,0,9)else runO bo l o self p.toNat n s
theorem qaJ{bo:BO}{l:List InsA}{o:Tm}{self:Int}{at_ n:Nat}{s s':SK}{x:InsA}(h:l[at_]? =some x)(hd:vZ bo o self s x=(.raises,s')):runO bo l o self at_ n s=if s'.body then(qmL,true,(n:Int)+1,0)else goO bo l o self at_ (xl at_ x .raises) (n+1) (newK o):=by
 rw[runO];split
 ·rename_i hx;rw[h]at hx;cases hx
 ·rename_i y hx;rw[h]at hx;cases hx;rw[hd];rfl
theorem qbn{bo:BO}{l:List InsA}{o:Tm}{self:Int}{at_ n:Nat}{s s':SK}{x:InsA}(h:l[at_]? =some x)(hd:vZ bo o self s x=(.fails,s')):runO bo l o self at_ n s=goO bo l o self at_ (xl at_ x .fails) (n+1) (newK o):=by
 rw[runO];split
 ·rename_i hx;rw[h]at hx;cases hx
 ·rename_i y hx;rw[h]at hx;cases hx;rw[hd];rfl
theorem qbm{bo:BO}{l:List InsA}{o:Tm}{self:Int}{at_ n:Nat}{s s':SK}{x:InsA}(h:l[at_]? =some x)(hd:vZ bo o self s x=(.jumps,s')):runO bo l o self at_ n s=goO bo l o self at_ (xl at_ x .jumps) (n+1) s':=by
 rw[runO];split
 ·rename_i hx;rw[h]at hx;cases hx
 ·rename_i y hx;rw[h]at hx;cases hx;rw[hd];rfl
def runC(bo:BO)(l:List InsA)(o:Tm)(self:Int):Tm×Bool×Int×Int:=
 if o.kind=7∧o.chk=0∧qau self=true then runO bo l o self 0 0 (newK o)else(vh,false,0,2)
structure SOk (s:SK):Prop where
 left:∀x∈s.left,x.chk=0
 vals:∀x∈s.vals,x.chk=0
 binds:∀p∈s.binds,p.2.chk=0∧0<=p.1∧p.1<=99
theorem zW{o:Tm}(h:o.chk=0):SOk (newK o):=⟨λx hx=>by rw[List.mem_singleton]at hx;subst hx;exact h,λx hx=>absurd hx (by simp),λp hp=>absurd hp (by simp)⟩
theorem qbM{α β:Type}{f g:α->Option β}:∀{l:List α},(∀x∈l,f x=g x)->l.filterMap f=l.filterMap g
 |[],_=>rfl
 |x::l,h=>by
  have h1:=qbM (l:=l) λy hy=>h y (by simp[hy])
  rw[List.filterMap_cons,List.filterMap_cons,h x (by simp),h1]
theorem qnv{n:Int}{t:Tm}:∀{m:List (Int×Tm)} {p:Int×Tm},p∈putB n t m->p=(n,t)∨p∈m
 |[],p,h=>.inl (List.mem_singleton.1 h)
 |q::m,p,h=>by
  rw[putB]at h;split at h
  ·rcases qAd.1 h with rfl|h
   ·exact .inl rfl
   ·exact .inr (List.mem_cons_of_mem _ h)
  ·rcases qAd.1 h with rfl|h
   ·exact .inr List.mem_cons_self
   ·exact(qnv h).imp id (List.mem_cons_of_mem _)
theorem qn2{n:Int}{t:Tm}:∀{m:List (Int×Tm)} {p:Int×Tm},p∈insR n t m->p=(n,t)∨p∈m
 |[],p,h=>.inl (List.mem_singleton.1 h)
 |q::m,p,h=>by
  rw[insR]at h;split at h
  ·rcases qAd.1 h with rfl|h
   ·exact .inr List.mem_cons_self
   ·exact(qn2 h).imp id (List.mem_cons_of_mem _)
  ·split at h
   ·rcases qAd.1 h with rfl|h
    ·exact .inl rfl
    ·exact .inr (List.mem_cons_of_mem _ h)
   ·rcases qAd.1 h with rfl|h
    ·exact .inl rfl
    ·exact .inr h
def BO.Ok(bo:BO):Prop:=∀n t m p,p∈bo.put n t m->p=(n,t)∨p∈m
theorem qkS:opsK.Ok:=λ_ _ _ _ h=>qnv h
theorem qxb:opsR.Ok:=λ_ _ _ _ h=>qn2 h
theorem qnw{t:Tm}{s s':SK}{h:How}(hs:SOk s)(e:vL t s=(h,s')):SOk s':=by
 unfold vL at e;split at e
 ·rename_i hc;cases e;exact⟨hs.left,λx hx=>(qAd.1 hx).elim (λe=>e▸hc) (hs.vals x),hs.binds⟩
 ·cases e;exact hs
theorem SOk.pop{s:SK}(hs:SOk s){r:List Tm}(h:∀x∈r,x∈s.left):SOk { s with left:=r }:=⟨λx hx=>hs.left x (h x hx),hs.vals,hs.binds⟩
theorem SOk.popV{s:SK}(hs:SOk s){r:List Tm}(h:∀x∈r,x∈s.vals):SOk { s with vals:=r }:=⟨hs.left,λx hx=>hs.vals x (h x hx),hs.binds⟩
theorem qtn{bo:BO}(hb:bo.Ok){s s':SK}{x:InsA}{h:How}(hs:SOk s)(e:zm bo s x=(h,s')):SOk s':=by
 unfold zm at e;split at e
 ·cases e;exact hs
 ·rename_i t r hl;have ht:t.chk=0:=hs.left t (by rw[hl];simp);have h1:SOk { s with left:=r }:=hs.pop λx hx=>by rw[hl];simp[hx]
  have h2:SOk { s with left:=t.subs++r }:=⟨λx hx=>by
   rcases qAh.1 hx with hx|hx
   ·exact qey ht hx
   ·exact h1.left x hx,hs.vals,hs.binds⟩
  repeat' split at e
  all_goals cases e
  all_goals first|exact h1|exact h2|skip
  rename_i ha;refine⟨h1.left,hs.vals,λp hp=>?_⟩;rcases hb _ _ _ _ hp with rfl|hp
  ·simp only[];exact⟨ht,by omega,by omega⟩
  ·exact hs.binds p hp
theorem qfj{bo:BO}(hb:bo.Ok){o:Tm}{self:Int}{s s':SK}{x:InsA}{h:How}(hs:SOk s)(e:vZ bo o self s x=(h,s')):SOk s':=by
 unfold vZ at e;split at e
 ·exact qtn hb hs e
 split at e
 ·unfold qaZ at e
  repeat' split at e
  all_goals first|exact qnw hs e|(cases e;exact hs)
 split at e
 ·unfold qaX at e;have h1:SOk { s with vals:=s.vals.drop (xi x).toNat }:=hs.popV λy hy=>List.mem_of_mem_drop hy
  repeat' split at e
  all_goals first|exact qnw h1 e|(cases e;first|exact hs|exact h1)
 split at e
 ·unfold qaY at e;split at e
  ·cases e;exact hs
  ·rename_i t r hv;have h1:SOk { s with vals:=r }:=hs.popV λy hy=>by rw[hv];simp[hy]
   repeat' split at e
   all_goals (cases e;first|exact hs|exact h1)
 split at e
 ·cases e;exact⟨hs.left,hs.vals,hs.binds⟩
 ·cases e;exact hs
theorem qlD{n k:Int}{t:Tm}:∀{m:List (Int×Tm)},qR k (putB n t m)=if n=k then some t else qR k m
 |[]=>by simp[putB,qR]
 |p::m=>by
  rw[putB];split
  ·rename_i h;rw[qR,qR];simp only[]
   by_cases hk:n=k
   ·rw[qAw hk,qAw hk]
   ·rw[qAx hk,qAx hk,qAx (by omega)]
  ·rename_i h;rw[qR,qlD,qR]
   by_cases hk:n=k
   ·rw[qAx (by omega),qAw hk,qAw hk]
   ·simp only[qAx hk]
theorem qlE{n k:Int}{t:Tm}:∀{m:List (Int×Tm)},qR k (insR n t m)=if n=k then some t else qR k m
 |[]=>by simp[insR,qR]
 |p::m=>by
  rw[insR];split
  ·rename_i h;rw[qR,qlE,qR]
   by_cases hk:n=k
   ·rw[qAx (by omega),qAw hk,qAw hk]
   ·simp only[qAx hk]
  ·split
   ·rename_i h;rw[qR,qR];simp only[]
    by_cases hk:n=k
    ·rw[qAw hk,qAw hk]
    ·rw[qAx hk,qAx hk,qAx (by omega)]
   ·rw[qR]
theorem qh8{n:Int}{t:Tm}(hn:n<=99)(ht:t.chk=0):∀{m:List (Int×Tm)} {last:Int},last<n->mayB last m=true->mayB last (insR n t m)=true
 |[],last,h,_=>by simp[insR,mayB,h,hn,ht]
 |p::m,last,h,hm=>by
  simp only[mayB,qzR,decide_eq_true_eq]at hm;rw[insR];split
  ·rename_i h1;simp only[mayB,qzR,decide_eq_true_eq];exact⟨hm.1,hm.2.1,hm.2.2.1,qh8 hn ht h1 hm.2.2.2⟩
  ·split
   ·rename_i h1 h2;simp only[mayB,qzR,decide_eq_true_eq];exact⟨h,hn,ht,by rw[←h2];exact hm.2.2.2⟩
   ·rename_i h1 h2;simp only[mayB,qzR,decide_eq_true_eq];exact⟨h,hn,ht,by omega,hm.2.1,hm.2.2.1,hm.2.2.2⟩
theorem qhG{k last:Int}:∀{m:List (Int×Tm)},mayB last m=true->k<=last->qR k m=none
 |[],_,_=>rfl
 |p::m,h,hk=>by
  simp only[mayB,qzR,decide_eq_true_eq]at h;rw[qR,qAx (by omega)];exact qhG h.2.2.2 (by omega)
theorem qsd:∀(d a:Nat) (m:List (Int×Tm)),mayB ((a:Int) - 1) m=true->a+d=100->(List.range' a d).filterMap (λn:Nat=>qR (n:Int) m)=m.map (·.2):=by
 intro d
 induction d with
 |zero=>
  intro a m h hd;cases m with
  |nil=>rfl
  |cons p m=>
   simp only[mayB,qzR,decide_eq_true_eq]at h;omega
 |succ d ih=>
  intro a m h hd;rw[List.range'_succ];cases m with
  |nil=>
   rw[List.filterMap_cons_none rfl];exact ih (a+1) [] rfl (by omega)
  |cons p m=>
   have h0:=h;simp only[mayB,qzR,decide_eq_true_eq]at h
   by_cases hp:p.1=(a:Int)
   ·rw[List.filterMap_cons_some (b:=p.2) (by rw[qR,qAw hp]),List.map_cons]
    congr 1
    have h1:mayB (((a+1:Nat):Int) - 1) m=true:=by
     have e:(((a+1:Nat):Int) - 1)=p.1:=by omega
     rw[e];exact h.2.2.2
    rw[←ih (a+1) m h1 (by omega)];refine qbM λn hn=>?_
    have:=(List.mem_range'_1.1 hn).1;rw[qR,qAx (by omega)]
   ·rw[List.filterMap_cons_none (by rw[qR,qAx hp];exact qhG h.2.2.2 (by omega))];refine ih (a+1) (p::m) ?_ (by omega);simp only[mayB,qzR,decide_eq_true_eq];exact⟨by omega,h.2⟩
theorem qp1{m:List (Int×Tm)}(h:mayB (-1) m=true):allB m=m.map (·.2):=by
 unfold allB;rw[List.range_eq_range'];exact qsd 100 0 m (by simpa using h) (by omega)
structure Alike (s r:SK):Prop where
 left:s.left=r.left
 vals:s.vals=r.vals
 body:s.body=r.body
 binds:∀n,qR n s.binds=qR n r.binds
 may:mayB (-1) r.binds=true
theorem qe0(o:Tm):Alike (newK o) (newK o):=⟨rfl,rfl,rfl,λ_=>rfl,rfl⟩
theorem Alike.all{s r:SK}(h:Alike s r):allB s.binds=r.binds.map (·.2):=by
 rw[←qp1 h.may];unfold allB;exact qbM λn _=>h.binds n
def qdp(p q:How×SK):Prop:=p.1=q.1∧Alike p.2 q.2
theorem qpj{t:Tm}{s r:SK}(h:Alike s r):qdp (vL t s) (vL t r):=by
 unfold vL;split
 ·exact⟨rfl,⟨h.left,by simp only[h.vals],h.body,h.binds,h.may⟩⟩
 ·exact⟨rfl,h⟩
theorem qpP{o:Tm}{self:Int}{s r:SK}{x:InsA}(h:Alike s r)(hs:SOk s):qdp (vZ opsK o self s x) (vZ opsR o self r x):=by
 obtain⟨L,V,B,b⟩:=s;obtain⟨L',V',B',b'⟩:=r;obtain⟨h1,h2,h3,h4,h5⟩:=h;simp only at h1 h2 h3 h4 h5;subst h1;subst h2;subst h3;have hL:∀q:List Tm,qdp (How.next,⟨q,V,B,b⟩) (How.next,⟨q,V,B',b⟩)∧qdp (How.fails,⟨q,V,B,b⟩) (How.fails,⟨q,V,B',b⟩)∧qdp (How.broken,⟨q,V,B,b⟩) (How.broken,⟨q,V,B',b⟩):=λq=>⟨⟨rfl,rfl,rfl,rfl,h4,h5⟩,⟨rfl,rfl,rfl,rfl,h4,h5⟩,⟨rfl,rfl,rfl,rfl,h4,h5⟩⟩
 have hV:∀(w:How) (q:List Tm),qdp (w,⟨L,q,B,b⟩) (w,⟨L,q,B',b⟩):=λw q=>⟨rfl,rfl,rfl,rfl,h4,h5⟩
 have hP:∀(t:Tm) (q:List Tm),qdp (vL t ⟨L,q,B,b⟩) (vL t ⟨L,q,B',b⟩):=λt q=>qpj ⟨rfl,rfl,rfl,h4,h5⟩
 have hall:opsK.all B=opsR.all B':=Alike.all (s:=⟨L,V,B,b⟩) (r:=⟨L,V,B',b⟩) ⟨rfl,rfl,rfl,h4,h5⟩;unfold vZ;split
 ·unfold zm;cases L with
  |nil=>exact hV _ _
  |cons t r=>
   simp only[];have ht:t.chk=0:=hs.left t (by simp);split
   ·split
    ·exact(hL _).2.2
    ·split
     ·exact(hL _).1
     ·exact(hL _).2.1
   split
   ·split
    ·exact(hL _).1
    ·exact(hL _).2.1
   split
   ·split
    ·split
     ·exact(hL _).1
     ·exact(hL _).2.1
    ·exact(hL _).2.2
   split
   ·split
    ·exact(hL _).2.2
    ·rename_i ha;refine⟨rfl,rfl,rfl,rfl,λn=>?_,?_⟩
     ·show qR n (putB x.a t B)=qR n (insR x.a t B');rw[qlD,qlE,h4]
     ·exact qh8 (by omega) ht (by omega) h5
   split
   ·split
    ·exact(hL _).2.2
    ·rw[h4];split
     ·exact(hL _).2.2
     ·split
      ·exact(hL _).1
      ·exact(hL _).2.1
   exact(hL _).1
 split
 ·unfold qaZ;split
  ·split
   ·exact hP _ _
   ·exact hV _ _
  split
  ·exact hP _ _
  split
  ·simp only[h4];split
   ·exact hV _ _
   ·exact hP _ _
  rw[hall];exact hP _ _
 split
 ·unfold qaX;split
  ·exact hV _ _
  split
  ·exact hP _ _
  split
  ·exact hP _ _
  simp only[];split
  ·exact hV _ _
  ·exact hP _ _
 split
 ·unfold qaY;cases V with
  |nil=>exact hV _ _
  |cons t r=>
   simp only[];split
   ·exact hV _ _
   split
   ·exact hV _ _
   split
   ·split
    ·exact hV _ _
    ·exact hV _ _
   split
   ·exact hV _ _
   ·split
    ·exact hV _ _
    ·split
     ·exact hV _ _
     ·exact hV _ _
 split
 ·exact⟨rfl,rfl,rfl,rfl,h4,h5⟩
 ·exact hV _ _
theorem qq4{l:List InsA}{o:Tm}(ho:o.chk=0){self:Int}:∀(d at_ n:Nat) (s r:SK),l.length - at_<=d->Alike s r->SOk s->runO opsK l o self at_ n s=runO opsR l o self at_ n r:=by
 intro d
 induction d with
 |zero=>
  intro at_ n s r hd _ _;have h0:l[at_]? =none:=List.getElem?_eq_none (by omega);rw[y5 h0,y5 h0]
 |succ d ih=>
  intro at_ n s r hd ha hs;cases hx:l[at_]? with
  |none=>rw[y5 hx,y5 hx]
  |some x=>
   have hlt:at_<l.length:=(qzW.1 hx).1;have h1:=qpP (o:=o) (self:=self) (x:=x) ha hs;have go:∀(p:Int) (m:Nat) (s r:SK),Alike s r->SOk s->goO opsK l o self at_ p m s=goO opsR l o self at_ p m r:=by
    intro p m s r ha hs;unfold goO;split
    ·rfl
    ·exact ih _ _ _ _ (by omega) ha hs
   cases e1:vZ opsK o self s x with
   |mk w s'=>
    cases e2:vZ opsR o self r x with
    |mk w' r'=>
     rw[e1,e2]at h1;obtain⟨hw,ha'⟩:=h1;simp only at hw ha';subst hw;have hs':=qfj qkS hs e1;cases w with
     |next=>rw[qb8 hx e1,qb8 hx e2];exact ih _ _ _ _ (by omega) ha' hs'
     |fails=>rw[qbn hx e1,qbn hx e2];exact go _ _ _ _ (qe0 o) (zW ho)
     |jumps=>rw[qbm hx e1,qbm hx e2];exact go _ _ _ _ ha' hs'
     |raises=>
      rw[qaJ hx e1,qaJ hx e2,ha'.body];split
      ·rfl
      ·exact go _ _ _ _ (qe0 o) (zW ho)
     |tells=>rw[qbl hx e1,qbl hx e2,ha'.vals]
     |broken=>rw[qaK hx e1,qaK hx e2]
theorem qq5(l:List InsA)(o:Tm)(self:Int):runC opsK l o self=runC opsR l o self:=by
 unfold runC;split
 ·rename_i h;exact qq4 h.2.1 l.length 0 0 _ _ (by omega) (qe0 o) (zW h.2.1)
 ·rfl
def qvD:Den:=evC cfg (EV cfg) 91 none 4 (sub (ql Tryz.f91) [1,1,1,0,1,0,0])
def qvM:Ex×List AV×AH->Option (AV×AH):=kAft (Cfg.keepOut cfg 91 (qm (sub (ql Tryz.f91) [1,1,1,0,1,0,0]))) (xa 1 (kSeq (fun(fr:List AV) (H:AH)=>xR (Cfg.cut cfg 91 (qm (sub (ql Tryz.f91) [1,1,1,1]))) fr H fun(fr:List AV) (H:AH)=>vA cfg (EV cfg) (kfN cfg 6) 91 none 4 (sub (ql Tryz.f91) [1,1,1,1]) fr H (yY cfg 1 (Cfg.lift cfg 91 0) (qAt (Func.results Tryz.f91)))) (yY cfg 1 (Cfg.lift cfg 91 0) (qAt (Func.results Tryz.f91)))))
def qvv:List AV×AH->Option (AV×AH):=fun(p:List AV×AH)=>kOpt (LOOP 4 (some [0,7,48]) [(7,4)] qvD p) qvM
abbrev qcY(nv7:Nat)(v48 c0_0 c0_1:Int)(c0_2:Bz)(c0_3:Rz)(c0_4:Int)(nc0_5 nc0_6:Nat)(c0_8:Bool)(h1 h2:Rz)(m3:List (AV×AV))(h4:Rz):Option (AV×AH):=qvv (((fx 71 [(0,.ptr 0 0 0),(7,.ms 4 0 nv7),(48,.int .i64 v48)]):List AV),([.rows false 9 [[.int .i64 c0_0,.int .i64 c0_1,.str c0_2,.sl c0_3,.int .i64 c0_4,.ms 1 0 nc0_5,.ms 2 0 nc0_6,.mp 3,.bool c0_8]],.rows true 4 h1,.rows true 4 h2,.mp true m3,.rows true 4 h4]:AH))
abbrev zt0(ko no:Int)(so:Bz)(lo:Rz)(self:Int):Option (AV×AH):=some (AV.tup [],[.rows false 9 [[AV.int .i64 ko,.int .i64 no,.str so,.sl lo,.int .i64 self,.ms 1 0 1,.ms 2 0 0,AV.mp 3,.bool false]],.rows true 4 [[AV.int .i64 ko,.int .i64 no,.str so,.sl lo]],.rows true 4 [],ABlk.mp true []])
theorem qqY(ko no self:Int)(so:Bz)(lo L V:Rz)(es:List (AV×AV))(bd:Bool){P:AV×AH->Prop}(h:Gets (zt0 ko no so lo self) P):Gets (EVj (EV cfg) 43 1 [.ptr 0 0 0] ([ABlk.rows false (9:Nat) [[AV.int qAn ko,AV.int qAn no,AV.str so,AV.sl lo,AV.int qAn self,AV.ms (1:Nat) (0:Nat) (qzO L),AV.ms (2:Nat) (0:Nat) (qzO V),AV.mp (3:Nat),AV.bool bd]],ABlk.rows true (4:Nat) L,ABlk.rows true (4:Nat) V,ABlk.mp true es]:AH)) P:=
  gE (λ_=>funJ rfl rfl Tryz.func43 rfl) (by kernel_rfl) h
theorem qo3(ko no self:Int)(so:Bz)(lo:Rz){P:AV×AH->Prop}(h:Gets (zt0 ko no so lo self) P):Gets (EVj (EV cfg) 43 1 [.ptr 0 0 0] ([ABlk.rows false (9:Nat) [[AV.int qAn ko,AV.int qAn no,AV.str so,AV.sl lo,AV.int qAn self,AV.ms (1:Nat) (0:Nat) (0:Nat),AV.ms (2:Nat) (0:Nat) (0:Nat),AV.nilM,AV.bool false]],ABlk.rows true (4:Nat) [],ABlk.rows true (4:Nat) []]:AH)) P:=
  gE (λ_=>funJ rfl rfl Tryz.func43 rfl) (by kernel_rfl) h
theorem qqR(ko no self:Int)(so:Bz)(lo L V:Rz)(es:List (AV×AV))(bd:Bool)(kt nt:Int)(st:Bz)(lt:Rz){P:AV×AH->Prop}(h:Gets (kOpt (EVs (EV cfg) 42 [.agg [.int .i64 kt,.int .i64 nt,.str st,.sl lt]]) λv=>qq v λb=>bif ! b then some (.int .i64 3,[.rows false 9 [[AV.int .i64 ko,.int .i64 no,.str so,.sl lo,.int .i64 self,.ms 1 0 (qzO L),.ms 2 0 (qzO V),AV.mp 3,.bool bd]],.rows true 4 L,.rows true 4 V,ABlk.mp true es])else bif qz8 (0+qzO V) (qzO V)&&qX (qzO V+1) 56 then bif qe 0 (V.length:Int)&&qu (V.length:Int) (↑ (qzO V+1):Int)then kOpt (qzU (qAi (qzT (qzO V) V) [[AV.int .i64 0,.int .i64 0,.str [],.nilS]]) (0+qzV (V.length:Int))) λrow=>bif qz8 4 (qzO row)then some (.int .i64 0,[.rows false 9 [[AV.int .i64 ko,.int .i64 no,.str so,.sl lo,.int .i64 self,.ms 1 0 (qzO L),.ms 2 0 (qzO V+1),AV.mp 3,.bool bd]],.rows true 4 L,.rows true 4 (qzT (qzO V+1) (List.set (qAi (qzT (qzO V) V) [[AV.int .i64 (0:Int),.int .i64 0,.str [],.nilS]]) (0+qzV (V.length:Int)) (.int .i64 kt:: .int .i64 nt:: .str st:: .sl lt::List.drop 4 row))),ABlk.mp true es])else none else none else none) P):Gets (EVj (EV cfg) 152 1 [.ptr 0 0 0,.agg [.int .i64 kt,.int .i64 nt,.str st,.sl lt]] ([ABlk.rows false (9:Nat) [[AV.int qAn ko,AV.int qAn no,AV.str so,AV.sl lo,AV.int qAn self,AV.ms (1:Nat) (0:Nat) (qzO L),AV.ms (2:Nat) (0:Nat) (qzO V),AV.mp (3:Nat),AV.bool bd]],ABlk.rows true (4:Nat) L,ABlk.rows true (4:Nat) V,ABlk.mp true es]:AH)) P:=
  gE (λ_=>funJ rfl rfl Tryz.func152 rfl) (by kernel_rfl) h
abbrev zt1(ko no:Int)(so:Bz)(lo:Rz)(self:Int)(L V:Rz)(bd:Bool)(es:List (AV×AV)):Option (AV×AH):=some (.int .i64 5,[.rows false 9 [[AV.int .i64 ko,.int .i64 no,.str so,.sl lo,.int .i64 self,.ms 1 0 (qzO L),.ms 2 0 (qzO V),AV.mp 3,.bool bd]],.rows true 4 L,.rows true 4 V,ABlk.mp true es])
abbrev zt8(n_3 n n_1:Int)(s:Bz)(rows:Rz)(n_2:Int)(rs rs_1:Rz)(b:Bool)(es:List (AV×AV)):Option (AV×AH):=some (.int .i64 n_3,[.rows false 9 [[AV.int .i64 n,.int .i64 n_1,.str s,.sl rows,.int .i64 n_2,.ms 1 0 (qzO rs),.ms 2 0 (qzO rs_1),AV.mp 3,.bool b]],.rows true 4 rs,.rows true 4 rs_1,ABlk.mp true es])
abbrev zt7(q:AV×AH)(n n_1:Int)(s:Bz)(rows:Rz)(n_2:Int)(rs rs_1:Rz)(b:Bool)(es:List (AV×AV)):Option (AV×AH):=kInt .i64 q.1 λn_3=>zt8 n_3 n n_1 s rows n_2 rs rs_1 b es
abbrev zt6(rest:Rz)(bs:AH)(row:List AV)(q:AV×AH):Option (AV×AH):=vg rest (qd bs λb bs=>qf b λd' n rs=>bif beqB true d'&&qzP n 4 then qd bs λb bs=>qf b λd' n rs_1=>bif beqB true d'&&qzP n 4 then qd bs λb bs=>kMpB b λd' es=>bif beqB true d' then qU bs (qa row λc cs=>kInt .i64 c λn=>qa cs λc cs=>kInt .i64 c λn_1=>qa cs λc cs=>kStr c λs=>qa cs λc cs=>kSl c λrows=>qa cs λc cs=>kInt .i64 c λn_2=>qa cs λc cs=>kMsE c λid off len=>bif qzP id 1&&(qzP off 0&&qzP len (qzO rs))then qa cs λc cs=>kMsE c λid off len=>bif qzP id 2&&(qzP off 0&&qzP len (qzO rs_1))then qa cs λc cs=>kMpE c λid=>bif qzP id 3 then qa cs λc cs=>qq c λb=>kNil cs (zt7 q n n_1 s rows n_2 rs rs_1 b es)else none else none else none)else none else none else none)
abbrev zt5(rs:Rz)(bs:AH)(q:AV×AH):Option (AV×AH):=qW rs λrow rest=>zt6 rest bs row q
abbrev zt4(d':Bool)(n:Nat)(rs:Rz)(bs:AH)(q:AV×AH):Option (AV×AH):=bif beqB false d'&&qzP n 9 then zt5 rs bs q else none
abbrev zt3(b:ABlk)(bs:AH)(q:AV×AH):Option (AV×AH):=qf b λd' n rs=>zt4 d' n rs bs q
abbrev zt2(q:AV×AH):Option (AV×AH):=qd q.2 λb bs=>zt3 b bs q
theorem qqW(ko no self:Int)(so:Bz)(lo L V:Rz)(es:List (AV×AV))(bd:Bool)(o a b k n:Int)(w:Bz)(l:Rz){P:AV×AH->Prop}(h:Gets (bif o==7 then kOpt (EVs (EV cfg) 42 [.agg [.int .i64 k,.int .i64 n,.str w,.sl l]]) λv=>qq v λb=>bif ! b then zt1 ko no so lo self L V bd es else kOpt (EVj (EV cfg) 152 1 [.ptr 0 0 0,.agg [.int .i64 k,.int .i64 n,.str w,.sl l]] [.rows false 9 [[AV.int .i64 ko,.int .i64 no,.str so,.sl lo,.int .i64 self,.ms 1 0 (qzO L),.ms 2 0 (qzO V),AV.mp 3,.bool bd]],.rows true 4 (qzT (qzO L) L),.rows true 4 (qzT (qzO V) V),ABlk.mp true es]) λq=>zt2 q else bif o==9 then kOpt (EVj (EV cfg) 152 1 [.ptr 0 0 0,.agg [.int .i64 ko,.int .i64 no,.str so,.sl lo]] [.rows false 9 [[AV.int .i64 ko,.int .i64 no,.str so,.sl lo,.int .i64 self,.ms 1 0 (qzO L),.ms 2 0 (qzO V),AV.mp 3,.bool bd]],.rows true 4 (qzT (qzO L) L),.rows true 4 (qzT (qzO V) V),ABlk.mp true es]) λq=>zt2 q else bif o==8 then kOpt (vN (TD.int .i64) (.int .i64 a) es 0) λr=>yq r (some (.int .i64 5,[.rows false 9 [[AV.int .i64 ko,.int .i64 no,.str so,.sl lo,.int .i64 self,.ms 1 0 (qzO L),.ms 2 0 (qzO V),AV.mp 3,.bool bd]],.rows true 4 L,.rows true 4 V,ABlk.mp true es])) λx v=>kTmV v λn n_1 s rows=>(kOpt (EVj (EV cfg) 152 1 [.ptr 0 0 0,.agg [.int .i64 n,.int .i64 n_1,.str s,.sl rows]] [.rows false 9 [[AV.int .i64 ko,.int .i64 no,.str so,.sl lo,.int .i64 self,.ms 1 0 (qzO L),.ms 2 0 (qzO V),AV.mp 3,.bool bd]],.rows true 4 (qzT (qzO L) L),.rows true 4 (qzT (qzO V) V),ABlk.mp true es]) λq=>qd q.2 λb bs=>qf b λd' n rs=>bif beqB false d'&&qzP n 9 then qW rs λrow rest=>vg rest (qd bs λb bs=>qf b λd' n rs=>bif beqB true d'&&qzP n 4 then qd bs λb bs=>qf b λd' n rs_1=>bif beqB true d'&&qzP n 4 then qd bs λb bs=>kMpB b λd' es=>bif beqB true d' then qU bs (qa row λc cs=>kInt .i64 c λn=>qa cs λc cs=>kInt .i64 c λn_2=>qa cs λc cs=>kStr c λs=>qa cs λc cs=>kSl c λrows=>qa cs λc cs=>kInt .i64 c λn_3=>qa cs λc cs=>kMsE c λid off len=>bif qzP id 1&&(qzP off 0&&qzP len (qzO rs))then qa cs λc cs=>kMsE c λid off len=>bif qzP id 2&&(qzP off 0&&qzP len (qzO rs_1))then qa cs λc cs=>kMpE c λid=>bif qzP id 3 then qa cs λc cs=>qq c λb=>kNil cs (zt7 q n n_2 s rows n_3 rs rs_1 b es)else none else none else none)else none else none else none)else none)else qcY 0 0 ko no so lo self (qzO L) (qzO V) bd L V es []) P):Gets (EVj (EV cfg) 91 1 [.ptr 0 0 0,.agg [.int .i64 o,.int .i64 a,.int .i64 b,.int .i64 k,.int .i64 n,.str w,.sl l]] ([ABlk.rows false (9:Nat) [[AV.int qAn ko,AV.int qAn no,AV.str so,AV.sl lo,AV.int qAn self,AV.ms (1:Nat) (0:Nat) (qzO L),AV.ms (2:Nat) (0:Nat) (qzO V),AV.mp (3:Nat),AV.bool bd]],ABlk.rows true (4:Nat) L,ABlk.rows true (4:Nat) V,ABlk.mp true es]:AH)) P:=
  gE (λ_=>funJ rfl rfl Tryz.func91 rfl) (by kernel_rfl) h
theorem qqV(ko no self:Int)(so:Bz)(lo L V:Rz)(es:List (AV×AV))(bd:Bool)(o a b k n:Int)(w:Bz)(l:Rz){P:AV×AH->Prop}(h:Gets (bif(V.length:Int)==0 then zt1 ko no so lo self L V bd es else bif qe 0 (qzQ .i64 ((V.length:Int) - 1))&&qu (qzQ .i64 ((V.length:Int) - 1)) (V.length:Int)then kOpt (qzU V (0+qzV (qzQ .i64 ((V.length:Int) - (1:Int))))) λrow=>bif qz8 4 (qzO row)then kTmC (qzT 4 row) λn n_1 s rows=>(bif n==2 then bif s==[(116:UInt8),(114:UInt8),(117:UInt8),(101:UInt8)]then bif o==20 then some (.int .i64 4,[.rows false 9 [[AV.int .i64 ko,.int .i64 no,.str so,.sl lo,.int .i64 self,.ms 1 0 (qzO L),.ms 2 0 (qzO V),AV.mp 3,.bool bd]],.rows true 4 L,.rows true 4 V,ABlk.mp true es])else bif o==19 then bif qe 0 (qzQ .i64 ((V.length:Int) - 1))&&qe (qzQ .i64 ((V.length:Int) - 1)) (V.length:Int)then some (.int .i64 0,[.rows false 9 [[AV.int .i64 ko,.int .i64 no,.str so,.sl lo,.int .i64 self,.ms 1 0 (qzO L),.ms 2 0 (qzV (qzQ .i64 ((V.length:Int) - (1:Int))) - 0),AV.mp 3,.bool bd]],.rows true 4 L,.rows true 4 (qzT (qzV (qzQ .i64 ((V.length:Int) - 1)) - 0) V),ABlk.mp true es])else none else bif o==14 then bif qe 0 (qzQ .i64 ((V.length:Int) - 1))&&qe (qzQ .i64 ((V.length:Int) - 1)) (↑ (qzO V):Int)then bif s==[(116:UInt8),(114:UInt8),(117:UInt8),(101:UInt8)]then some (.int .i64 0,[.rows false 9 [[AV.int .i64 ko,.int .i64 no,.str so,.sl lo,.int .i64 self,.ms 1 0 (qzO L),.ms 2 0 (qzV (qzQ .i64 ((V.length:Int) - 1)) - 0),AV.mp 3,.bool bd]],.rows true 4 L,.rows true 4 (qzT (qzV (qzQ .i64 ((V.length:Int) - 1)) - 0) V),ABlk.mp true es])else some (.int .i64 1,[.rows false 9 [[AV.int .i64 ko,.int .i64 no,.str so,.sl lo,.int .i64 self,.ms 1 0 (qzO L),.ms 2 0 (qzV (qzQ .i64 ((V.length:Int) - 1)) - 0),AV.mp 3,.bool bd]],.rows true 4 L,.rows true 4 (qzT (qzV (qzQ .i64 ((V.length:Int) - 1)) - 0) V),ABlk.mp true es])else none else bif o==17 then some (.int .i64 0,[.rows false 9 [[AV.int .i64 ko,.int .i64 no,.str so,.sl lo,.int .i64 self,.ms 1 0 (qzO L),.ms 2 0 (qzO V),AV.mp 3,.bool bd]],.rows true 4 L,.rows true 4 V,ABlk.mp true es])else bif ! (s==[(116:UInt8),(114:UInt8),(117:UInt8),(101:UInt8)])==(o==15)then some (.int .i64 2,[.rows false 9 [[AV.int .i64 ko,.int .i64 no,.str so,.sl lo,.int .i64 self,.ms 1 0 (qzO L),.ms 2 0 (qzO V),AV.mp 3,.bool bd]],.rows true 4 L,.rows true 4 V,ABlk.mp true es])else bif qe 0 (qzQ .i64 ((V.length:Int) - 1))&&qe (qzQ .i64 ((V.length:Int) - 1)) (V.length:Int)then some (.int .i64 0,[.rows false 9 [[AV.int .i64 ko,.int .i64 no,.str so,.sl lo,.int .i64 self,.ms 1 0 (qzO L),.ms 2 0 (qzV (qzQ .i64 ((V.length:Int) - 1)) - 0),AV.mp 3,.bool bd]],.rows true 4 L,.rows true 4 (qzT (qzV (qzQ .i64 ((V.length:Int) - 1)) - 0) V),ABlk.mp true es])else none else bif o==20 then some (.int .i64 4,[.rows false 9 [[AV.int .i64 ko,.int .i64 no,.str so,.sl lo,.int .i64 self,.ms 1 0 (qzO L),.ms 2 0 (qzO V),AV.mp 3,.bool bd]],.rows true 4 L,.rows true 4 V,ABlk.mp true es])else bif o==19 then bif qe 0 (qzQ .i64 ((V.length:Int) - 1))&&qe (qzQ .i64 ((V.length:Int) - 1)) (V.length:Int)then some (.int .i64 0,[.rows false 9 [[AV.int .i64 ko,.int .i64 no,.str so,.sl lo,.int .i64 self,.ms 1 0 (qzO L),.ms 2 0 (qzV (qzQ .i64 ((V.length:Int) - 1)) - 0),AV.mp 3,.bool bd]],.rows true 4 L,.rows true 4 (qzT (qzV (qzQ .i64 ((V.length:Int) - 1)) - 0) V),ABlk.mp true es])else none else bif o==14 then bif qe 0 (qzQ .i64 ((↑ (qzO V):Int) - 1))&&qe (qzQ .i64 ((V.length:Int) - 1)) (V.length:Int)then bif s==[(102:UInt8),(97:UInt8),(108:UInt8),(115:UInt8),(101:UInt8)]then bif s==[(116:UInt8),(114:UInt8),(117:UInt8),(101:UInt8)]then some (.int .i64 0,[.rows false 9 [[AV.int .i64 ko,.int .i64 no,.str so,.sl lo,.int .i64 self,.ms 1 0 (qzO L),.ms 2 0 (qzV (qzQ .i64 ((V.length:Int) - 1)) - 0),AV.mp 3,.bool bd]],.rows true 4 L,.rows true 4 (qzT (qzV (qzQ .i64 ((V.length:Int) - 1)) - 0) V),ABlk.mp true es])else some (.int .i64 1,[.rows false 9 [[AV.int .i64 ko,.int .i64 no,.str so,.sl lo,.int .i64 self,.ms 1 0 (qzO L),.ms 2 0 (qzV (qzQ .i64 ((V.length:Int) - 1)) - 0),AV.mp 3,.bool bd]],.rows true 4 L,.rows true 4 (qzT (qzV (qzQ .i64 ((V.length:Int) - 1)) - 0) V),ABlk.mp true es])else some (.int .i64 1,[.rows false 9 [[AV.int .i64 ko,.int .i64 no,.str so,.sl lo,.int .i64 self,.ms 1 0 (qzO L),.ms 2 0 (qzV (qzQ .i64 ((V.length:Int) - 1)) - 0),AV.mp 3,.bool bd]],.rows true 4 L,.rows true 4 (qzT (qzV (qzQ .i64 ((V.length:Int) - 1)) - 0) V),ABlk.mp true es])else none else bif ! s==[(102:UInt8),(97:UInt8),(108:UInt8),(115:UInt8),(101:UInt8)]then some (.int .i64 3,[.rows false 9 [[AV.int .i64 ko,.int .i64 no,.str so,.sl lo,.int .i64 self,.ms 1 0 (qzO L),.ms 2 0 (qzO V),AV.mp 3,.bool bd]],.rows true 4 L,.rows true 4 V,ABlk.mp true es])else bif o==17 then some (.int .i64 0,[.rows false 9 [[AV.int .i64 ko,.int .i64 no,.str so,.sl lo,.int .i64 self,.ms 1 0 (qzO L),.ms 2 0 (qzO V),AV.mp 3,.bool bd]],.rows true 4 L,.rows true 4 V,ABlk.mp true es])else bif ! (s==[(116:UInt8),(114:UInt8),(117:UInt8),(101:UInt8)])==(o==15)then some (.int .i64 2,[.rows false 9 [[AV.int .i64 ko,.int .i64 no,.str so,.sl lo,.int .i64 self,.ms 1 0 (qzO L),.ms 2 0 (qzO V),AV.mp 3,.bool bd]],.rows true 4 L,.rows true 4 V,ABlk.mp true es])else bif qe 0 (qzQ .i64 ((↑ (qzO V):Int) - 1))&&qe (qzQ .i64 ((V.length:Int) - 1)) (V.length:Int)then some (.int .i64 0,[.rows false 9 [[AV.int .i64 ko,.int .i64 no,.str so,.sl lo,.int .i64 self,.ms 1 0 (qzO L),.ms 2 0 (qzV (qzQ .i64 ((V.length:Int) - 1)) - 0),AV.mp 3,.bool bd]],.rows true 4 L,.rows true 4 (qzT (qzV (qzQ .i64 ((V.length:Int) - 1)) - 0) V),ABlk.mp true es])else none else bif o==20 then some (.int .i64 4,[.rows false 9 [[AV.int .i64 ko,.int .i64 no,.str so,.sl lo,.int .i64 self,.ms 1 0 (qzO L),.ms 2 0 (qzO V),AV.mp 3,.bool bd]],.rows true 4 L,.rows true 4 V,ABlk.mp true es])else bif o==19 then bif qe 0 (qzQ .i64 ((V.length:Int) - 1))&&qe (qzQ .i64 ((↑ (qzO V):Int) - 1)) (V.length:Int)then some (.int .i64 0,[.rows false 9 [[AV.int .i64 ko,.int .i64 no,.str so,.sl lo,.int .i64 self,.ms 1 0 (qzO L),.ms 2 0 (qzV (qzQ .i64 ((V.length:Int) - 1)) - 0),AV.mp 3,.bool bd]],.rows true 4 L,.rows true 4 (qzT (qzV (qzQ .i64 ((↑ (qzO V):Int) - 1)) - 0) V),ABlk.mp true es])else none else bif o==14 then bif qe 0 (qzQ .i64 ((V.length:Int) - 1))&&qe (qzQ .i64 ((V.length:Int) - 1)) (V.length:Int)then some (.int .i64 1,[.rows false 9 [[AV.int .i64 ko,.int .i64 no,.str so,.sl lo,.int .i64 self,.ms 1 0 (qzO L),.ms 2 0 (qzV (qzQ .i64 ((V.length:Int) - 1)) - 0),AV.mp 3,.bool bd]],.rows true 4 L,.rows true 4 (qzT (qzV (qzQ .i64 ((V.length:Int) - 1)) - 0) V),ABlk.mp true es])else none else some (.int .i64 3,[.rows false 9 [[AV.int .i64 ko,.int .i64 no,.str so,.sl lo,.int .i64 self,.ms 1 0 (qzO L),.ms 2 0 (qzO V),AV.mp 3,.bool bd]],.rows true 4 L,.rows true 4 V,ABlk.mp true es]))else none else none) P):Gets (EVj (EV cfg) 93 1 [.ptr 0 0 0,.agg [.int .i64 o,.int .i64 a,.int .i64 b,.int .i64 k,.int .i64 n,.str w,.sl l]] ([ABlk.rows false (9:Nat) [[AV.int qAn ko,AV.int qAn no,AV.str so,AV.sl lo,AV.int qAn self,AV.ms (1:Nat) (0:Nat) (qzO L),AV.ms (2:Nat) (0:Nat) (qzO V),AV.mp (3:Nat),AV.bool bd]],ABlk.rows true (4:Nat) L,ABlk.rows true (4:Nat) V,ABlk.mp true es]:AH)) P:=
  gE (λ_=>funJ rfl rfl Tryz.func93 rfl) (by kernel_rfl) h
abbrev zt9(o a b k n:Int)(w:Bz)(l:Rz)(ko no:Int)(so:Bz)(lo:Rz)(self:Int)(L V:Rz)(bd:Bool)(es:List (AV×AV)):Option (AV×AH):=kOpt (EVj (EV cfg) 90 1 [.ptr 0 0 0,.agg [.int .i64 o,.int .i64 a,.int .i64 b,.int .i64 k,.int .i64 n,.str w,.sl l]] [.rows false 9 [[AV.int .i64 ko,.int .i64 no,.str so,.sl lo,.int .i64 self,.ms 1 0 (qzO L),.ms 2 0 (qzO V),AV.mp 3,.bool bd]],.rows true 4 (qzT (qzO L) L),.rows true 4 (qzT (qzO V) V),ABlk.mp true es]) λq=>zt2 q
abbrev zt10(o a b k n:Int)(w:Bz)(l:Rz)(ko no:Int)(so:Bz)(lo:Rz)(self:Int)(L V:Rz)(bd:Bool)(es:List (AV×AV)):Option (AV×AH):=kOpt (EVj (EV cfg) 91 1 [.ptr 0 0 0,.agg [.int .i64 o,.int .i64 a,.int .i64 b,.int .i64 k,.int .i64 n,.str w,.sl l]] [.rows false 9 [[AV.int .i64 ko,.int .i64 no,.str so,.sl lo,.int .i64 self,.ms 1 0 (qzO L),.ms 2 0 (qzO V),AV.mp 3,.bool bd]],.rows true 4 (qzT (qzO L) L),.rows true 4 (qzT (qzO V) V),ABlk.mp true es]) λq=>zt2 q
abbrev zt11(o a b k n:Int)(w:Bz)(l:Rz)(ko no:Int)(so:Bz)(lo:Rz)(self:Int)(L V:Rz)(bd:Bool)(es:List (AV×AV)):Option (AV×AH):=kOpt (EVj (EV cfg) 92 1 [.ptr 0 0 0,.agg [.int .i64 o,.int .i64 a,.int .i64 b,.int .i64 k,.int .i64 n,.str w,.sl l]] [.rows false 9 [[AV.int .i64 ko,.int .i64 no,.str so,.sl lo,.int .i64 self,.ms 1 0 (qzO L),.ms 2 0 (qzO V),AV.mp 3,.bool bd]],.rows true 4 (qzT (qzO L) L),.rows true 4 (qzT (qzO V) V),ABlk.mp true es]) λq=>zt2 q
abbrev zt12(o a b k n:Int)(w:Bz)(l:Rz)(ko no:Int)(so:Bz)(lo:Rz)(self:Int)(L V:Rz)(bd:Bool)(es:List (AV×AV)):Option (AV×AH):=kOpt (EVj (EV cfg) 93 1 [.ptr 0 0 0,.agg [.int .i64 o,.int .i64 a,.int .i64 b,.int .i64 k,.int .i64 n,.str w,.sl l]] [.rows false 9 [[AV.int .i64 ko,.int .i64 no,.str so,.sl lo,.int .i64 self,.ms 1 0 (qzO L),.ms 2 0 (qzO V),AV.mp 3,.bool bd]],.rows true 4 (qzT (qzO L) L),.rows true 4 (qzT (qzO V) V),ABlk.mp true es]) λq=>zt2 q
theorem qqX(ko no self:Int)(so:Bz)(lo L V:Rz)(es:List (AV×AV))(bd:Bool)(o a b k n:Int)(w:Bz)(l:Rz){P:AV×AH->Prop}(h:Gets (bif o==1 then zt9 o a b k n w l ko no so lo self L V bd es else bif o==2 then zt9 o a b k n w l ko no so lo self L V bd es else bif o==3 then zt9 o a b k n w l ko no so lo self L V bd es else bif o==4 then zt9 o a b k n w l ko no so lo self L V bd es else bif o==5 then zt9 o a b k n w l ko no so lo self L V bd es else bif o==6 then zt9 o a b k n w l ko no so lo self L V bd es else bif o==7 then zt10 o a b k n w l ko no so lo self L V bd es else bif o==8 then zt10 o a b k n w l ko no so lo self L V bd es else bif o==9 then zt10 o a b k n w l ko no so lo self L V bd es else bif o==10 then zt10 o a b k n w l ko no so lo self L V bd es else bif o==11 then zt11 o a b k n w l ko no so lo self L V bd es else bif o==12 then zt11 o a b k n w l ko no so lo self L V bd es else bif o==13 then zt11 o a b k n w l ko no so lo self L V bd es else bif o==14 then zt12 o a b k n w l ko no so lo self L V bd es else bif o==15 then zt12 o a b k n w l ko no so lo self L V bd es else bif o==16 then zt12 o a b k n w l ko no so lo self L V bd es else bif o==17 then zt12 o a b k n w l ko no so lo self L V bd es else bif o==19 then zt12 o a b k n w l ko no so lo self L V bd es else bif o==20 then zt12 o a b k n w l ko no so lo self L V bd es else bif o==18 then some (.int .i64 0,[.rows false 9 [[AV.int .i64 ko,.int .i64 no,.str so,.sl lo,.int .i64 self,.ms 1 0 (qzO L),.ms 2 0 (qzO V),AV.mp 3,.bool true]],.rows true 4 L,.rows true 4 V,ABlk.mp true es])else zt1 ko no so lo self L V bd es) P):Gets (EVj (EV cfg) 44 1 [.ptr 0 0 0,.agg [.int .i64 o,.int .i64 a,.int .i64 b,.int .i64 k,.int .i64 n,.str w,.sl l]] ([ABlk.rows false (9:Nat) [[AV.int qAn ko,AV.int qAn no,AV.str so,AV.sl lo,AV.int qAn self,AV.ms (1:Nat) (0:Nat) (qzO L),AV.ms (2:Nat) (0:Nat) (qzO V),AV.mp (3:Nat),AV.bool bd]],ABlk.rows true (4:Nat) L,ABlk.rows true (4:Nat) V,ABlk.mp true es]:AH)) P:=
  gE (λ_=>funJ rfl rfl Tryz.func44 rfl) (by kernel_rfl) h
theorem qfv(nv7:Nat)(v48 c0_0 c0_1:Int)(c0_2:Bz)(c0_3:Rz)(c0_4:Int)(nc0_5 nc0_6:Nat)(c0_8:Bool)(h1 h2:Rz)(m3:List (AV×AV))(h4:Rz){P:AV×AH->Prop}(h:Gets (bif decide (v48<100)then kOpt (vN (TD.int .i64) (.int .i64 v48) m3 0) λr=>yq r (qcY nv7 (qzQ .i64 (v48+1)) c0_0 c0_1 c0_2 c0_3 c0_4 nc0_5 nc0_6 c0_8 h1 h2 m3 h4) λx v=>kTmV v λn n_1 s rows=>(bif qz8 (0+nv7) (qzO h4)&&qX (nv7+1) 56 then qcY (nv7+1) (qzQ .i64 (v48+1)) c0_0 c0_1 c0_2 c0_3 c0_4 nc0_5 nc0_6 c0_8 h1 h2 m3 (qAi (qzT nv7 h4) [[AV.int .i64 n,.int .i64 n_1,.str s,.sl rows]])else none)else bif qz8 (0+nv7) (qzO h4)&&true then kOpt (EVf (EV cfg) 153 [.sl (qzT nv7 h4),.agg [.int .i64 8,.int .i64 0,.str [],.sl []]]) λv=>kTmV v λn n_1 s rows=>(kOpt (EVj (EV cfg) 152 1 [.ptr 0 0 0,.agg [.int .i64 n,.int .i64 n_1,.str s,.sl rows]] [.rows false 9 [[AV.int .i64 c0_0,.int .i64 c0_1,.str c0_2,.sl c0_3,.int .i64 c0_4,.ms 1 0 nc0_5,.ms 2 0 nc0_6,AV.mp 3,.bool c0_8]],.rows true 4 (qzT nc0_5 h1),.rows true 4 (qzT nc0_6 h2),ABlk.mp true m3]) λq=>qd q.2 λb bs=>qf b λd' n rs=>bif beqB false d'&&qzP n 9 then qW rs λrow rest=>vg rest (qd bs λb bs=>qf b λd' n rs=>bif beqB true d'&&qzP n 4 then qd bs λb bs=>qf b λd' n rs_1=>bif beqB true d'&&qzP n 4 then qd bs λb bs=>kMpB b λd' es=>bif beqB true d' then qU bs (qa row λc cs=>kInt .i64 c λn=>qa cs λc cs=>kInt .i64 c λn_2=>qa cs λc cs=>kStr c λs=>qa cs λc cs=>kSl c λrows=>qa cs λc cs=>kInt .i64 c λn_3=>qa cs λc cs=>kMsE c λid off len=>bif qzP id 1&&(qzP off 0&&qzP len (qzO rs))then qa cs λc cs=>kMsE c λid off len=>bif qzP id 2&&(qzP off 0&&qzP len (qzO rs_1))then qa cs λc cs=>kMpE c λid=>bif qzP id 3 then qa cs λc cs=>qq c λb=>kNil cs (zt7 q n n_2 s rows n_3 rs rs_1 b es)else none else none else none)else none else none else none)else none)else none) P):Gets (qcY nv7 v48 c0_0 c0_1 c0_2 c0_3 c0_4 nc0_5 nc0_6 c0_8 h1 h2 m3 h4) P:=
  gE (λ_=>qM (cfg:=cfg) (f:=91) (rd:=none) (bs:=4)) (by kernel_rfl) h
abbrev zu0(ko no:Int)(so:Bz)(lo:Rz)(self:Int)(L V:Rz)(bd:Bool)(es:List (AV×AV)):Option (AV×AH):=some (.int .i64 5,[.rows false 9 [[AV.int .i64 ko,.int .i64 no,.str so,.sl lo,.int .i64 self,.ms 1 0 (qzO L),.ms 2 0 (qzO V),AV.mp 3,.bool bd]],.rows true 4 L,.rows true 4 V,ABlk.mp true es])
abbrev zu2(n_3 n n_1:Int)(s:Bz)(rows:Rz)(n_2:Int)(rs rs_1:Rz)(b:Bool)(es:List (AV×AV)):Option (AV×AH):=some (.int .i64 n_3,[.rows false 9 [[AV.int .i64 n,.int .i64 n_1,.str s,.sl rows,.int .i64 n_2,.ms 1 0 (qzO rs),.ms 2 0 (qzO rs_1),AV.mp 3,.bool b]],.rows true 4 rs,.rows true 4 (qzT (qzO rs_1) rs_1),ABlk.mp true es])
abbrev zu1(q:AV×AH)(n n_1:Int)(s:Bz)(rows:Rz)(n_2:Int)(rs rs_1:Rz)(b:Bool)(es:List (AV×AV)):Option (AV×AH):=kInt .i64 q.1 λn_3=>zu2 n_3 n n_1 s rows n_2 rs rs_1 b es
abbrev zu7(rest:Rz)(bs:AH)(row:List AV)(q:AV×AH):Option (AV×AH):=vg rest (qd bs λb bs=>qf b λd' n rs=>bif beqB true d'&&qzP n 4 then qd bs λb bs=>qf b λd' n rs_1=>bif beqB true d'&&qzP n 4 then qd bs λb bs=>kMpB b λd' es=>bif beqB true d' then qU bs (qa row λc cs=>kInt .i64 c λn=>qa cs λc cs=>kInt .i64 c λn_3=>qa cs λc cs=>kStr c λs=>qa cs λc cs=>kSl c λrows=>qa cs λc cs=>kInt .i64 c λn_4=>qa cs λc cs=>kMsE c λid off len=>bif qzP id 1&&(qzP off 0&&qzP len (qzO rs))then qa cs λc cs=>kMsE c λid off len=>bif qzP id 2&&(qzP off 0&&qzP len (qzO rs_1))then qa cs λc cs=>kMpE c λid=>bif qzP id 3 then qa cs λc cs=>qq c λb=>kNil cs (zu1 q n n_3 s rows n_4 rs rs_1 b es)else none else none else none)else none else none else none)
abbrev zu6(rs:Rz)(bs:AH)(q:AV×AH):Option (AV×AH):=qW rs λrow rest=>zu7 rest bs row q
abbrev zu5(d':Bool)(n:Nat)(rs:Rz)(bs:AH)(q:AV×AH):Option (AV×AH):=bif beqB false d'&&qzP n 9 then zu6 rs bs q else none
abbrev zu4(b:ABlk)(bs:AH)(q:AV×AH):Option (AV×AH):=qf b λd' n rs=>zu5 d' n rs bs q
abbrev zu3(q:AV×AH):Option (AV×AH):=qd q.2 λb bs=>zu4 b bs q
abbrev zu8(n n_1:Int)(s:Bz)(rows:Rz)(ko no:Int)(so:Bz)(lo:Rz)(self:Int)(L V:Rz)(bd:Bool)(rs:Rz)(es:List (AV×AV)):Option (AV×AH):=kOpt (EVj (EV cfg) 152 1 [.ptr 0 0 0,.agg [.int .i64 n,.int .i64 n_1,.str s,.sl rows]] [.rows false 9 [[AV.int .i64 ko,.int .i64 no,.str so,.sl lo,.int .i64 self,.ms 1 0 (qzO L),.ms 2 0 (qzV (qzQ .i64 ((V.length:Int) - 2)) - 0),AV.mp 3,.bool bd]],.rows true 4 (qzT (qzO L) L),.rows true 4 (qzT (qzV (qzQ .i64 ((V.length:Int) - 2)) - 0) rs),ABlk.mp true es]) λq=>zu3 q
theorem qqU(ko no self:Int)(so:Bz)(lo L V:Rz)(es:List (AV×AV))(bd:Bool)(o a b k n:Int)(w:Bz)(l:Rz){P:AV×AH->Prop}(h:Gets (bif o==12 then bif decide (2>(V.length:Int))then zu0 ko no so lo self L V bd es else bif o==13 then bif k != 2 then zu0 ko no so lo self L V bd es else kOpt (EVs (EV cfg) 42 [.agg [.int .i64 k,.int .i64 n,.str w,.sl l]]) λv=>qq v λb_1=>bif ! b_1 then zu0 ko no so lo self L V bd es else bif qe 0 (qzQ .i64 ((V.length:Int) - 2))&&qe (qzQ .i64 ((V.length:Int) - 2)) (↑ (qzO V):Int)then qbV (qzO V - qzV (qzQ .i64 ((V.length:Int) - 2))) (kOpt (EVj (EV cfg) 154 0 [.nilS] []) λq=>qU q.2 (kSl q.1 λrows=>kOpt (EVj (EV cfg) 154 0 [AV.em] []) λq=>qU q.2 (kSl q.1 λrows_1=>kEqR (AV.sl rows,[.rows false 9 [[AV.int .i64 ko,.int .i64 no,.str so,.sl lo,.int .i64 self,.ms 1 0 (qzO L),.ms 2 0 (qzO V),AV.mp 3,.bool bd]],.rows true 4 L,.rows true 4 V,ABlk.mp true es,.rows false 7 [[AV.int .i64 o,.int .i64 a,.int .i64 b,.int .i64 k,.int .i64 n,.str w,.sl l]],ABlk.res,ABlk.res,ABlk.res,ABlk.res]) (AV.sl rows_1,[.rows false 9 [[AV.int .i64 ko,.int .i64 no,.str so,.sl lo,.int .i64 self,.ms 1 0 (qzO L),.ms 2 0 (qzO V),AV.mp 3,.bool bd]],.rows true 4 L,.rows true 4 V,ABlk.mp true es,.rows false 7 [[AV.int .i64 o,.int .i64 a,.int .i64 b,.int .i64 k,.int .i64 n,.str w,.sl l]],ABlk.res,ABlk.res,ABlk.res,ABlk.res]) (bif qe 0 (qzQ .i64 ((V.length:Int) - 2))&&qe (qzQ .i64 ((V.length:Int) - 2)) (V.length:Int)then bif o==11 then kOpt (EVj (EV cfg) 152 1 [.ptr 0 0 0,.agg [.int .i64 7,.int .i64 0,.str [],.sl rows]] [.rows false 9 [[AV.int .i64 ko,.int .i64 no,.str so,.sl lo,.int .i64 self,.ms 1 0 (qzO L),.ms 2 0 (qzV (qzQ .i64 ((V.length:Int) - 2)) - 0),AV.mp 3,.bool bd]],.rows true 4 (qzT (qzO L) L),.rows true 4 (qzT (qzV (qzQ .i64 ((↑ (qzO V):Int) - 2)) - 0) V),ABlk.mp true es]) λq=>qd q.2 λb bs=>qf b λd' n rs=>bif beqB false d'&&qzP n 9 then qW rs λrow rest=>vg rest (qd bs λb bs=>qf b λd' n rs=>bif beqB true d'&&qzP n 4 then qd bs λb bs=>qf b λd' n rs_1=>bif beqB true d'&&qzP n 4 then qd bs λb bs=>kMpB b λd' es=>bif beqB true d' then qU bs (qa row λc cs=>kInt .i64 c λn=>qa cs λc cs=>kInt .i64 c λn_1=>qa cs λc cs=>kStr c λs=>qa cs λc cs=>kSl c λrows=>qa cs λc cs=>kInt .i64 c λn_2=>qa cs λc cs=>kMsE c λid off len=>bif qzP id 1&&(qzP off 0&&qzP len (qzO rs))then qa cs λc cs=>kMsE c λid off len=>bif qzP id 2&&(qzP off 0&&qzP len (qzO rs_1))then qa cs λc cs=>kMpE c λid=>bif qzP id 3 then qa cs λc cs=>qq c λb=>kNil cs (zu1 q n n_1 s rows n_2 rs rs_1 b es)else none else none else none)else none else none else none)else none else bif o==12 then kOpt (EVj (EV cfg) 152 1 [.ptr 0 0 0,.agg [.int .i64 9,.int .i64 0,.str [],.sl rows]] [.rows false 9 [[AV.int .i64 ko,.int .i64 no,.str so,.sl lo,.int .i64 self,.ms 1 0 (qzO L),.ms 2 0 (qzV (qzQ .i64 ((V.length:Int) - 2)) - 0),AV.mp 3,.bool bd]],.rows true 4 (qzT (qzO L) L),.rows true 4 (qzT (qzV (qzQ .i64 ((V.length:Int) - 2)) - 0) V),ABlk.mp true es]) λq=>qd q.2 λb bs=>qf b λd' n rs=>bif beqB false d'&&qzP n 9 then qW rs λrow rest=>vg rest (qd bs λb bs=>qf b λd' n rs=>bif beqB true d'&&qzP n 4 then qd bs λb bs=>qf b λd' n rs_1=>bif beqB true d'&&qzP n 4 then qd bs λb bs=>kMpB b λd' es=>bif beqB true d' then qU bs (qa row λc cs=>kInt .i64 c λn=>qa cs λc cs=>kInt .i64 c λn_1=>qa cs λc cs=>kStr c λs=>qa cs λc cs=>kSl c λrows=>qa cs λc cs=>kInt .i64 c λn_2=>qa cs λc cs=>kMsE c λid off len=>bif qzP id 1&&(qzP off 0&&qzP len (qzO rs))then qa cs λc cs=>kMsE c λid off len=>bif qzP id 2&&(qzP off 0&&qzP len (qzO rs_1))then qa cs λc cs=>kMpE c λid=>bif qzP id 3 then qa cs λc cs=>qq c λb=>kNil cs (zu1 q n n_1 s rows n_2 rs rs_1 b es)else none else none else none)else none else none else none)else none else kOpt (EVf (EV cfg) 155 [.str w,.sl rows,.int .i64 self]) λv=>kTup v λcs=>qa cs λc cs=>kAgg c λcs_1=>qa cs_1 λc cs_2=>kInt .i64 c λn=>qa cs_2 λc cs_3=>kInt .i64 c λn_1=>qa cs_3 λc cs_4=>kStr c λs=>qa cs_4 λc cs_5=>kSl c λrows=>kNil cs_5 (qa cs λc cs=>kInt .i64 c λn_2=>kNil cs (bif n_2 != 0 then some (.int .i64 3,[.rows false 9 [[AV.int .i64 ko,.int .i64 no,.str so,.sl lo,.int .i64 self,.ms 1 0 (qzO L),.ms 2 0 (qzV (qzQ .i64 ((↑ (qzO V):Int) - 2)) - 0),AV.mp 3,.bool bd]],.rows true 4 L,.rows true 4 (qzT (qzV (qzQ .i64 ((V.length:Int) - 2)) - 0) V),ABlk.mp true es])else kOpt (EVj (EV cfg) 152 1 [.ptr 0 0 0,.agg [.int .i64 n,.int .i64 n_1,.str s,.sl rows]] [.rows false 9 [[AV.int .i64 ko,.int .i64 no,.str so,.sl lo,.int .i64 self,.ms 1 0 (qzO L),.ms 2 0 (qzV (qzQ .i64 ((V.length:Int) - 2)) - 0),AV.mp 3,.bool bd]],.rows true 4 (qzT (qzO L) L),.rows true 4 (qzT (qzV (qzQ .i64 ((V.length:Int) - 2)) - 0) V),ABlk.mp true es]) λq=>zu3 q))else none)))) (kOpt (EVj (EV cfg) 154 1 [.ms 0 (0+qzV (qzQ .i64 ((V.length:Int) - 2))) (qzO V - qzV (qzQ .i64 ((V.length:Int) - 2)))] [.rows true 4 V]) λq=>qd q.2 λb bs=>qf b λd' n rs=>bif beqB true d'&&qzP n 4 then qU bs (kSl q.1 λrows=>bif qe 0 (qzQ .i64 ((↑ (qzO V):Int) - 2))&&qe (qzQ .i64 ((V.length:Int) - 2)) (V.length:Int)then bif o==11 then kOpt (EVj (EV cfg) 152 1 [.ptr 0 0 0,.agg [.int .i64 7,.int .i64 0,.str [],.sl rows]] [.rows false 9 [[AV.int .i64 ko,.int .i64 no,.str so,.sl lo,.int .i64 self,.ms 1 0 (qzO L),.ms 2 0 (qzV (qzQ .i64 ((V.length:Int) - 2)) - 0),AV.mp 3,.bool bd]],.rows true 4 (qzT (qzO L) L),.rows true 4 (qzT (qzV (qzQ .i64 ((V.length:Int) - 2)) - 0) rs),ABlk.mp true es]) λq=>qd q.2 λb bs=>qf b λd' n rs=>bif beqB false d'&&qzP n 9 then qW rs λrow rest=>vg rest (qd bs λb bs=>qf b λd' n rs=>bif beqB true d'&&qzP n 4 then qd bs λb bs=>qf b λd' n rs_1=>bif beqB true d'&&qzP n 4 then qd bs λb bs=>kMpB b λd' es=>bif beqB true d' then qU bs (qa row λc cs=>kInt .i64 c λn=>qa cs λc cs=>kInt .i64 c λn_1=>qa cs λc cs=>kStr c λs=>qa cs λc cs=>kSl c λrows=>qa cs λc cs=>kInt .i64 c λn_2=>qa cs λc cs=>kMsE c λid off len=>bif qzP id 1&&(qzP off 0&&qzP len (qzO rs))then qa cs λc cs=>kMsE c λid off len=>bif qzP id 2&&(qzP off 0&&qzP len (qzO rs_1))then qa cs λc cs=>kMpE c λid=>bif qzP id 3 then qa cs λc cs=>qq c λb=>kNil cs (zu1 q n n_1 s rows n_2 rs rs_1 b es)else none else none else none)else none else none else none)else none else bif o==12 then kOpt (EVj (EV cfg) 152 1 [.ptr 0 0 0,.agg [.int .i64 9,.int .i64 0,.str [],.sl rows]] [.rows false 9 [[AV.int .i64 ko,.int .i64 no,.str so,.sl lo,.int .i64 self,.ms 1 0 (qzO L),.ms 2 0 (qzV (qzQ .i64 ((V.length:Int) - 2)) - 0),AV.mp 3,.bool bd]],.rows true 4 (qzT (qzO L) L),.rows true 4 (qzT (qzV (qzQ .i64 ((V.length:Int) - 2)) - 0) rs),ABlk.mp true es]) λq=>qd q.2 λb bs=>qf b λd' n rs=>bif beqB false d'&&qzP n 9 then qW rs λrow rest=>vg rest (qd bs λb bs=>qf b λd' n rs=>bif beqB true d'&&qzP n 4 then qd bs λb bs=>qf b λd' n rs_1=>bif beqB true d'&&qzP n 4 then qd bs λb bs=>kMpB b λd' es=>bif beqB true d' then qU bs (qa row λc cs=>kInt .i64 c λn=>qa cs λc cs=>kInt .i64 c λn_1=>qa cs λc cs=>kStr c λs=>qa cs λc cs=>kSl c λrows=>qa cs λc cs=>kInt .i64 c λn_2=>qa cs λc cs=>kMsE c λid off len=>bif qzP id 1&&(qzP off 0&&qzP len (qzO rs))then qa cs λc cs=>kMsE c λid off len=>bif qzP id 2&&(qzP off 0&&qzP len (qzO rs_1))then qa cs λc cs=>kMpE c λid=>bif qzP id 3 then qa cs λc cs=>qq c λb=>kNil cs (zu1 q n n_1 s rows n_2 rs rs_1 b es)else none else none else none)else none else none else none)else none else kOpt (EVf (EV cfg) 155 [.str w,.sl rows,.int .i64 self]) λv=>kTup v λcs=>qa cs λc cs=>kAgg c λcs_1=>qa cs_1 λc cs_2=>kInt .i64 c λn=>qa cs_2 λc cs_3=>kInt .i64 c λn_1=>qa cs_3 λc cs_4=>kStr c λs=>qa cs_4 λc cs_5=>kSl c λrows=>kNil cs_5 (qa cs λc cs=>kInt .i64 c λn_2=>kNil cs (bif n_2 != 0 then some (.int .i64 3,[.rows false 9 [[AV.int .i64 ko,.int .i64 no,.str so,.sl lo,.int .i64 self,.ms 1 0 (qzO L),.ms 2 0 (qzV (qzQ .i64 ((V.length:Int) - 2)) - 0),AV.mp 3,.bool bd]],.rows true 4 L,.rows true 4 (qzT (qzV (qzQ .i64 ((V.length:Int) - 2)) - 0) rs),ABlk.mp true es])else zu8 n n_1 s rows ko no so lo self L V bd rs es))else none)else none)else none else bif qe 0 (qzQ .i64 ((V.length:Int) - 2))&&qe (qzQ .i64 ((V.length:Int) - 2)) (V.length:Int)then qbV (qzO V - qzV (qzQ .i64 ((V.length:Int) - 2))) (kOpt (EVj (EV cfg) 154 0 [.nilS] []) λq=>qU q.2 (kSl q.1 λrows=>kOpt (EVj (EV cfg) 154 0 [AV.em] []) λq=>qU q.2 (kSl q.1 λrows_1=>kEqR (AV.sl rows,[.rows false 9 [[AV.int .i64 ko,.int .i64 no,.str so,.sl lo,.int .i64 self,.ms 1 0 (qzO L),.ms 2 0 (qzO V),AV.mp 3,.bool bd]],.rows true 4 L,.rows true 4 V,ABlk.mp true es,.rows false 7 [[AV.int .i64 o,.int .i64 a,.int .i64 b,.int .i64 k,.int .i64 n,.str w,.sl l]],ABlk.res,ABlk.res,ABlk.res,ABlk.res]) (AV.sl rows_1,[.rows false 9 [[AV.int .i64 ko,.int .i64 no,.str so,.sl lo,.int .i64 self,.ms 1 0 (qzO L),.ms 2 0 (qzO V),AV.mp 3,.bool bd]],.rows true 4 L,.rows true 4 V,ABlk.mp true es,.rows false 7 [[AV.int .i64 o,.int .i64 a,.int .i64 b,.int .i64 k,.int .i64 n,.str w,.sl l]],ABlk.res,ABlk.res,ABlk.res,ABlk.res]) (bif qe 0 (qzQ .i64 ((V.length:Int) - 2))&&qe (qzQ .i64 ((V.length:Int) - 2)) (↑ (qzO V):Int)then bif o==11 then kOpt (EVj (EV cfg) 152 1 [.ptr 0 0 0,.agg [.int .i64 7,.int .i64 0,.str [],.sl rows]] [.rows false 9 [[AV.int .i64 ko,.int .i64 no,.str so,.sl lo,.int .i64 self,.ms 1 0 (qzO L),.ms 2 0 (qzV (qzQ .i64 ((V.length:Int) - 2)) - 0),AV.mp 3,.bool bd]],.rows true 4 (qzT (qzO L) L),.rows true 4 (qzT (qzV (qzQ .i64 ((V.length:Int) - 2)) - 0) V),ABlk.mp true es]) λq=>qd q.2 λb bs=>qf b λd' n rs=>bif beqB false d'&&qzP n 9 then qW rs λrow rest=>vg rest (qd bs λb bs=>qf b λd' n rs=>bif beqB true d'&&qzP n 4 then qd bs λb bs=>qf b λd' n rs_1=>bif beqB true d'&&qzP n 4 then qd bs λb bs=>kMpB b λd' es=>bif beqB true d' then qU bs (qa row λc cs=>kInt .i64 c λn=>qa cs λc cs=>kInt .i64 c λn_1=>qa cs λc cs=>kStr c λs=>qa cs λc cs=>kSl c λrows=>qa cs λc cs=>kInt .i64 c λn_2=>qa cs λc cs=>kMsE c λid off len=>bif qzP id 1&&(qzP off 0&&qzP len (qzO rs))then qa cs λc cs=>kMsE c λid off len=>bif qzP id 2&&(qzP off 0&&qzP len (qzO rs_1))then qa cs λc cs=>kMpE c λid=>bif qzP id 3 then qa cs λc cs=>qq c λb=>kNil cs (zu1 q n n_1 s rows n_2 rs rs_1 b es)else none else none else none)else none else none else none)else none else bif o==12 then kOpt (EVj (EV cfg) 152 1 [.ptr 0 0 0,.agg [.int .i64 9,.int .i64 0,.str [],.sl rows]] [.rows false 9 [[AV.int .i64 ko,.int .i64 no,.str so,.sl lo,.int .i64 self,.ms 1 0 (qzO L),.ms 2 0 (qzV (qzQ .i64 ((V.length:Int) - 2)) - 0),AV.mp 3,.bool bd]],.rows true 4 (qzT (qzO L) L),.rows true 4 (qzT (qzV (qzQ .i64 ((V.length:Int) - 2)) - 0) V),ABlk.mp true es]) λq=>qd q.2 λb bs=>qf b λd' n rs=>bif beqB false d'&&qzP n 9 then qW rs λrow rest=>vg rest (qd bs λb bs=>qf b λd' n rs=>bif beqB true d'&&qzP n 4 then qd bs λb bs=>qf b λd' n rs_1=>bif beqB true d'&&qzP n 4 then qd bs λb bs=>kMpB b λd' es=>bif beqB true d' then qU bs (qa row λc cs=>kInt .i64 c λn=>qa cs λc cs=>kInt .i64 c λn_1=>qa cs λc cs=>kStr c λs=>qa cs λc cs=>kSl c λrows=>qa cs λc cs=>kInt .i64 c λn_2=>qa cs λc cs=>kMsE c λid off len=>bif qzP id 1&&(qzP off 0&&qzP len (qzO rs))then qa cs λc cs=>kMsE c λid off len=>bif qzP id 2&&(qzP off 0&&qzP len (qzO rs_1))then qa cs λc cs=>kMpE c λid=>bif qzP id 3 then qa cs λc cs=>qq c λb=>kNil cs (zu1 q n n_1 s rows n_2 rs rs_1 b es)else none else none else none)else none else none else none)else none else kOpt (EVf (EV cfg) 155 [.str w,.sl rows,.int .i64 self]) λv=>kTup v λcs=>qa cs λc cs=>kAgg c λcs_1=>qa cs_1 λc cs_2=>kInt .i64 c λn=>qa cs_2 λc cs_3=>kInt .i64 c λn_1=>qa cs_3 λc cs_4=>kStr c λs=>qa cs_4 λc cs_5=>kSl c λrows=>kNil cs_5 (qa cs λc cs=>kInt .i64 c λn_2=>kNil cs (bif n_2 != 0 then some (.int .i64 3,[.rows false 9 [[AV.int .i64 ko,.int .i64 no,.str so,.sl lo,.int .i64 self,.ms 1 0 (qzO L),.ms 2 0 (qzV (qzQ .i64 ((V.length:Int) - 2)) - 0),AV.mp 3,.bool bd]],.rows true 4 L,.rows true 4 (qzT (qzV (qzQ .i64 ((V.length:Int) - 2)) - 0) V),ABlk.mp true es])else kOpt (EVj (EV cfg) 152 1 [.ptr 0 0 0,.agg [.int .i64 n,.int .i64 n_1,.str s,.sl rows]] [.rows false 9 [[AV.int .i64 ko,.int .i64 no,.str so,.sl lo,.int .i64 self,.ms 1 0 (qzO L),.ms 2 0 (qzV (qzQ .i64 ((↑ (qzO V):Int) - 2)) - 0),AV.mp 3,.bool bd]],.rows true 4 (qzT (qzO L) L),.rows true 4 (qzT (qzV (qzQ .i64 ((V.length:Int) - (2:Int))) - 0) V),ABlk.mp true es]) λq=>zu3 q))else none)))) (kOpt (EVj (EV cfg) 154 1 [.ms 0 (0+qzV (qzQ .i64 ((V.length:Int) - 2))) (qzO V - qzV (qzQ .i64 ((V.length:Int) - 2)))] [.rows true 4 V]) λq=>qd q.2 λb bs=>qf b λd' n rs=>bif beqB true d'&&qzP n 4 then qU bs (kSl q.1 λrows=>bif qe 0 (qzQ .i64 ((V.length:Int) - 2))&&qe (qzQ .i64 ((↑ (qzO V):Int) - 2)) (V.length:Int)then bif o==11 then kOpt (EVj (EV cfg) 152 1 [.ptr 0 0 0,.agg [.int .i64 7,.int .i64 0,.str [],.sl rows]] [.rows false 9 [[AV.int .i64 ko,.int .i64 no,.str so,.sl lo,.int .i64 self,.ms 1 0 (qzO L),.ms 2 0 (qzV (qzQ .i64 ((V.length:Int) - 2)) - 0),AV.mp 3,.bool bd]],.rows true 4 (qzT (qzO L) L),.rows true 4 (qzT (qzV (qzQ .i64 ((V.length:Int) - 2)) - 0) rs),ABlk.mp true es]) λq=>qd q.2 λb bs=>qf b λd' n rs=>bif beqB false d'&&qzP n 9 then qW rs λrow rest=>vg rest (qd bs λb bs=>qf b λd' n rs=>bif beqB true d'&&qzP n 4 then qd bs λb bs=>qf b λd' n rs_1=>bif beqB true d'&&qzP n 4 then qd bs λb bs=>kMpB b λd' es=>bif beqB true d' then qU bs (qa row λc cs=>kInt .i64 c λn=>qa cs λc cs=>kInt .i64 c λn_1=>qa cs λc cs=>kStr c λs=>qa cs λc cs=>kSl c λrows=>qa cs λc cs=>kInt .i64 c λn_2=>qa cs λc cs=>kMsE c λid off len=>bif qzP id 1&&(qzP off 0&&qzP len (qzO rs))then qa cs λc cs=>kMsE c λid off len=>bif qzP id 2&&(qzP off 0&&qzP len (qzO rs_1))then qa cs λc cs=>kMpE c λid=>bif qzP id 3 then qa cs λc cs=>qq c λb=>kNil cs (zu1 q n n_1 s rows n_2 rs rs_1 b es)else none else none else none)else none else none else none)else none else bif o==12 then kOpt (EVj (EV cfg) 152 1 [.ptr 0 0 0,.agg [.int .i64 9,.int .i64 0,.str [],.sl rows]] [.rows false 9 [[AV.int .i64 ko,.int .i64 no,.str so,.sl lo,.int .i64 self,.ms 1 0 (qzO L),.ms 2 0 (qzV (qzQ .i64 ((V.length:Int) - 2)) - 0),AV.mp 3,.bool bd]],.rows true 4 (qzT (qzO L) L),.rows true 4 (qzT (qzV (qzQ .i64 ((V.length:Int) - 2)) - 0) rs),ABlk.mp true es]) λq=>qd q.2 λb bs=>qf b λd' n rs=>bif beqB false d'&&qzP n 9 then qW rs λrow rest=>vg rest (qd bs λb bs=>qf b λd' n rs=>bif beqB true d'&&qzP n 4 then qd bs λb bs=>qf b λd' n rs_1=>bif beqB true d'&&qzP n 4 then qd bs λb bs=>kMpB b λd' es=>bif beqB true d' then qU bs (qa row λc cs=>kInt .i64 c λn=>qa cs λc cs=>kInt .i64 c λn_1=>qa cs λc cs=>kStr c λs=>qa cs λc cs=>kSl c λrows=>qa cs λc cs=>kInt .i64 c λn_2=>qa cs λc cs=>kMsE c λid off len=>bif qzP id 1&&(qzP off 0&&qzP len (qzO rs))then qa cs λc cs=>kMsE c λid off len=>bif qzP id 2&&(qzP off 0&&qzP len (qzO rs_1))then qa cs λc cs=>kMpE c λid=>bif qzP id 3 then qa cs λc cs=>qq c λb=>kNil cs (zu1 q n n_1 s rows n_2 rs rs_1 b es)else none else none else none)else none else none else none)else none else kOpt (EVf (EV cfg) 155 [.str w,.sl rows,.int .i64 self]) λv=>kTup v λcs=>qa cs λc cs=>kAgg c λcs_1=>qa cs_1 λc cs_2=>kInt .i64 c λn=>qa cs_2 λc cs_3=>kInt .i64 c λn_1=>qa cs_3 λc cs_4=>kStr c λs=>qa cs_4 λc cs_5=>kSl c λrows=>kNil cs_5 (qa cs λc cs=>kInt .i64 c λn_2=>kNil cs (bif n_2 != 0 then some (.int .i64 (3:Int),[.rows false 9 [[AV.int .i64 ko,.int .i64 no,.str so,.sl lo,.int .i64 self,.ms 1 0 (qzO L),.ms 2 0 (qzV (qzQ .i64 ((V.length:Int) - 2)) - 0),AV.mp 3,.bool bd]],.rows true 4 L,.rows true 4 (qzT (qzV (qzQ .i64 ((V.length:Int) - 2)) - 0) rs),ABlk.mp true es])else zu8 n n_1 s rows ko no so lo self L V bd rs es))else none)else none)else none else bif decide (a<0)then zu0 ko no so lo self L V bd es else bif decide (a>(↑ (qzO V):Int))then zu0 ko no so lo self L V bd es else bif o==13 then bif k != 2 then zu0 ko no so lo self L V bd es else kOpt (EVs (EV cfg) 42 [.agg [.int .i64 k,.int .i64 n,.str w,.sl l]]) λv=>qq v λb_1=>bif ! b_1 then zu0 ko no so lo self L V bd es else bif qe 0 (qzQ .i64 ((V.length:Int) - a))&&qe (qzQ .i64 ((V.length:Int) - a)) (V.length:Int)then qbV (qzO V - qzV (qzQ .i64 ((↑ (qzO V):Int) - a))) (kOpt (EVj (EV cfg) 154 0 [.nilS] []) λq=>qU q.2 (kSl q.1 λrows=>kOpt (EVj (EV cfg) 154 0 [AV.em] []) λq=>qU q.2 (kSl q.1 λrows_1=>kEqR (AV.sl rows,[.rows false 9 [[AV.int .i64 ko,.int .i64 no,.str so,.sl lo,.int .i64 self,.ms 1 0 (qzO L),.ms 2 0 (qzO V),AV.mp 3,.bool bd]],.rows true 4 L,.rows true 4 V,ABlk.mp true es,.rows false 7 [[AV.int .i64 o,.int .i64 a,.int .i64 b,.int .i64 k,.int .i64 n,.str w,.sl l]],ABlk.res,ABlk.res,ABlk.res,ABlk.res]) (AV.sl rows_1,[.rows false 9 [[AV.int .i64 ko,.int .i64 no,.str so,.sl lo,.int .i64 self,.ms 1 0 (qzO L),.ms 2 0 (qzO V),AV.mp 3,.bool bd]],.rows true 4 L,.rows true 4 V,ABlk.mp true es,.rows false 7 [[AV.int .i64 o,.int .i64 a,.int .i64 b,.int .i64 k,.int .i64 n,.str w,.sl l]],ABlk.res,ABlk.res,ABlk.res,ABlk.res]) (bif qe 0 (qzQ .i64 ((V.length:Int) - a))&&qe (qzQ .i64 ((V.length:Int) - a)) (V.length:Int)then bif o==11 then kOpt (EVj (EV cfg) 152 1 [.ptr 0 0 0,.agg [.int .i64 7,.int .i64 0,.str [],.sl rows]] [.rows false 9 [[AV.int .i64 ko,.int .i64 no,.str so,.sl lo,.int .i64 self,.ms 1 0 (qzO L),.ms 2 0 (qzV (qzQ .i64 ((V.length:Int) - a)) - 0),AV.mp 3,.bool bd]],.rows true 4 (qzT (qzO L) L),.rows true 4 (qzT (qzV (qzQ .i64 ((V.length:Int) - a)) - 0) V),ABlk.mp true es]) λq=>qd q.2 λb bs=>qf b λd' n rs=>bif beqB false d'&&qzP n 9 then qW rs λrow rest=>vg rest (qd bs λb bs=>qf b λd' n rs=>bif beqB true d'&&qzP n 4 then qd bs λb bs=>qf b λd' n rs_1=>bif beqB true d'&&qzP n 4 then qd bs λb bs=>kMpB b λd' es=>bif beqB true d' then qU bs (qa row λc cs=>kInt .i64 c λn=>qa cs λc cs=>kInt .i64 c λn_1=>qa cs λc cs=>kStr c λs=>qa cs λc cs=>kSl c λrows=>qa cs λc cs=>kInt .i64 c λn_2=>qa cs λc cs=>kMsE c λid off len=>bif qzP id 1&&(qzP off 0&&qzP len (qzO rs))then qa cs λc cs=>kMsE c λid off len=>bif qzP id 2&&(qzP off 0&&qzP len (qzO rs_1))then qa cs λc cs=>kMpE c λid=>bif qzP id 3 then qa cs λc cs=>qq c λb=>kNil cs (zu1 q n n_1 s rows n_2 rs rs_1 b es)else none else none else none)else none else none else none)else none else bif o==12 then kOpt (EVj (EV cfg) 152 1 [.ptr 0 0 0,.agg [.int .i64 9,.int .i64 0,.str [],.sl rows]] [.rows false 9 [[AV.int .i64 ko,.int .i64 no,.str so,.sl lo,.int .i64 self,.ms 1 0 (qzO L),.ms 2 0 (qzV (qzQ .i64 ((↑ (qzO V):Int) - a)) - 0),AV.mp 3,.bool bd]],.rows true 4 (qzT (qzO L) L),.rows true 4 (qzT (qzV (qzQ .i64 ((V.length:Int) - a)) - 0) V),ABlk.mp true es]) λq=>qd q.2 λb bs=>qf b λd' n rs=>bif beqB false d'&&qzP n 9 then qW rs λrow rest=>vg rest (qd bs λb bs=>qf b λd' n rs=>bif beqB true d'&&qzP n 4 then qd bs λb bs=>qf b λd' n rs_1=>bif beqB true d'&&qzP n 4 then qd bs λb bs=>kMpB b λd' es=>bif beqB true d' then qU bs (qa row λc cs=>kInt .i64 c λn=>qa cs λc cs=>kInt .i64 c λn_1=>qa cs λc cs=>kStr c λs=>qa cs λc cs=>kSl c λrows=>qa cs λc cs=>kInt .i64 c λn_2=>qa cs λc cs=>kMsE c λid off len=>bif qzP id 1&&(qzP off 0&&qzP len (qzO rs))then qa cs λc cs=>kMsE c λid off len=>bif qzP id 2&&(qzP off 0&&qzP len (qzO rs_1))then qa cs λc cs=>kMpE c λid=>bif qzP id 3 then qa cs λc cs=>qq c λb=>kNil cs (zu1 q n n_1 s rows n_2 rs rs_1 b es)else none else none else none)else none else none else none)else none else kOpt (EVf (EV cfg) 155 [.str w,.sl rows,.int .i64 self]) λv=>kTup v λcs=>qa cs λc cs=>kAgg c λcs_1=>qa cs_1 λc cs_2=>kInt .i64 c λn=>qa cs_2 λc cs_3=>kInt .i64 c λn_1=>qa cs_3 λc cs_4=>kStr c λs=>qa cs_4 λc cs_5=>kSl c λrows=>kNil cs_5 (qa cs λc cs=>kInt .i64 c λn_2=>kNil cs (bif n_2 != 0 then some (.int .i64 3,[.rows false 9 [[AV.int .i64 ko,.int .i64 no,.str so,.sl lo,.int .i64 self,.ms 1 0 (qzO L),.ms 2 0 (qzV (qzQ .i64 ((V.length:Int) - a)) - 0),AV.mp 3,.bool bd]],.rows true 4 L,.rows true 4 (qzT (qzV (qzQ .i64 ((V.length:Int) - a)) - 0) V),ABlk.mp true es])else kOpt (EVj (EV cfg) 152 1 [.ptr 0 0 0,.agg [.int .i64 n,.int .i64 n_1,.str s,.sl rows]] [.rows false 9 [[AV.int .i64 ko,.int .i64 no,.str so,.sl lo,.int .i64 self,.ms 1 0 (qzO L),.ms 2 0 (qzV (qzQ .i64 ((V.length:Int) - a)) - 0),AV.mp 3,.bool bd]],.rows true 4 (qzT (qzO L) L),.rows true 4 (qzT (qzV (qzQ .i64 ((V.length:Int) - a)) - 0) V),ABlk.mp true es]) λq=>zu3 q))else none)))) (kOpt (EVj (EV cfg) 154 1 [.ms 0 (0+qzV (qzQ .i64 ((↑ (qzO V):Int) - a))) (qzO V - qzV (qzQ .i64 ((V.length:Int) - a)))] [.rows true 4 V]) λq=>qd q.2 λb bs=>qf b λd' n rs=>bif beqB true d'&&qzP n 4 then qU bs (kSl q.1 λrows=>bif qe 0 (qzQ .i64 ((↑ (qzO V):Int) - a))&&qe (qzQ .i64 ((V.length:Int) - a)) (V.length:Int)then bif o==11 then kOpt (EVj (EV cfg) 152 1 [.ptr 0 0 0,.agg [.int .i64 7,.int .i64 0,.str [],.sl rows]] [.rows false 9 [[AV.int .i64 ko,.int .i64 no,.str so,.sl lo,.int .i64 self,.ms 1 0 (qzO L),.ms 2 0 (qzV (qzQ .i64 ((V.length:Int) - a)) - 0),AV.mp 3,.bool bd]],.rows true 4 (qzT (qzO L) L),.rows true 4 (qzT (qzV (qzQ .i64 ((↑ (qzO V):Int) - a)) - 0) rs),ABlk.mp true es]) λq=>qd q.2 λb bs=>qf b λd' n rs=>bif beqB false d'&&qzP n 9 then qW rs λrow rest=>vg rest (qd bs λb bs=>qf b λd' n rs=>bif beqB true d'&&qzP n 4 then qd bs λb bs=>qf b λd' n rs_1=>bif beqB true d'&&qzP n 4 then qd bs λb bs=>kMpB b λd' es=>bif beqB true d' then qU bs (qa row λc cs=>kInt .i64 c λn=>qa cs λc cs=>kInt .i64 c λn_1=>qa cs λc cs=>kStr c λs=>qa cs λc cs=>kSl c λrows=>qa cs λc cs=>kInt .i64 c λn_2=>qa cs λc cs=>kMsE c λid off len=>bif qzP id 1&&(qzP off 0&&qzP len (qzO rs))then qa cs λc cs=>kMsE c λid off len=>bif qzP id 2&&(qzP off 0&&qzP len (qzO rs_1))then qa cs λc cs=>kMpE c λid=>bif qzP id 3 then qa cs λc cs=>qq c λb=>kNil cs (zu1 q n n_1 s rows n_2 rs rs_1 b es)else none else none else none)else none else none else none)else none else bif o==12 then kOpt (EVj (EV cfg) 152 1 [.ptr 0 0 0,.agg [.int .i64 9,.int .i64 0,.str [],.sl rows]] [.rows false 9 [[AV.int .i64 ko,.int .i64 no,.str so,.sl lo,.int .i64 self,.ms 1 0 (qzO L),.ms 2 0 (qzV (qzQ .i64 ((V.length:Int) - a)) - 0),AV.mp 3,.bool bd]],.rows true 4 (qzT (qzO L) L),.rows true 4 (qzT (qzV (qzQ .i64 ((V.length:Int) - a)) - 0) rs),ABlk.mp true es]) λq=>qd q.2 λb bs=>qf b λd' n rs=>bif beqB false d'&&qzP n 9 then qW rs λrow rest=>vg rest (qd bs λb bs=>qf b λd' n rs=>bif beqB true d'&&qzP n 4 then qd bs λb bs=>qf b λd' n rs_1=>bif beqB true d'&&qzP n 4 then qd bs λb bs=>kMpB b λd' es=>bif beqB true d' then qU bs (qa row λc cs=>kInt .i64 c λn=>qa cs λc cs=>kInt .i64 c λn_1=>qa cs λc cs=>kStr c λs=>qa cs λc cs=>kSl c λrows=>qa cs λc cs=>kInt .i64 c λn_2=>qa cs λc cs=>kMsE c λid off len=>bif qzP id 1&&(qzP off 0&&qzP len (qzO rs))then qa cs λc cs=>kMsE c λid off len=>bif qzP id 2&&(qzP off 0&&qzP len (qzO rs_1))then qa cs λc cs=>kMpE c λid=>bif qzP id 3 then qa cs λc cs=>qq c λb=>kNil cs (zu1 q n n_1 s rows n_2 rs rs_1 b es)else none else none else none)else none else none else none)else none else kOpt (EVf (EV cfg) 155 [.str w,.sl rows,.int .i64 self]) λv=>kTup v λcs=>qa cs λc cs=>kAgg c λcs_1=>qa cs_1 λc cs_2=>kInt .i64 c λn=>qa cs_2 λc cs_3=>kInt .i64 c λn_1=>qa cs_3 λc cs_4=>kStr c λs=>qa cs_4 λc cs_5=>kSl c λrows=>kNil cs_5 (qa cs λc cs=>kInt .i64 c λn_2=>kNil cs (bif n_2 != 0 then some (.int .i64 (3:Int),[.rows false 9 [[AV.int .i64 ko,.int .i64 no,.str so,.sl lo,.int .i64 self,.ms 1 0 (qzO L),.ms 2 0 (qzV (qzQ .i64 ((V.length:Int) - a)) - 0),AV.mp 3,.bool bd]],.rows true 4 L,.rows true 4 (qzT (qzV (qzQ .i64 ((V.length:Int) - a)) - 0) rs),ABlk.mp true es])else kOpt (EVj (EV cfg) 152 1 [.ptr 0 0 0,.agg [.int .i64 n,.int .i64 n_1,.str s,.sl rows]] [.rows false 9 [[AV.int .i64 ko,.int .i64 no,.str so,.sl lo,.int .i64 self,.ms 1 0 (qzO L),.ms 2 0 (qzV (qzQ .i64 ((V.length:Int) - a)) - 0),AV.mp 3,.bool bd]],.rows true 4 (qzT (qzO L) L),.rows true 4 (qzT (qzV (qzQ .i64 ((↑ (qzO V):Int) - a)) - 0) rs),ABlk.mp true es]) λq=>zu3 q))else none)else none)else none else bif qe 0 (qzQ .i64 ((V.length:Int) - a))&&qe (qzQ .i64 ((V.length:Int) - a)) (V.length:Int)then qbV (qzO V - qzV (qzQ .i64 ((V.length:Int) - a))) (kOpt (EVj (EV cfg) 154 0 [.nilS] []) λq=>qU q.2 (kSl q.1 λrows=>kOpt (EVj (EV cfg) 154 0 [AV.em] []) λq=>qU q.2 (kSl q.1 λrows_1=>kEqR (AV.sl rows,[.rows false 9 [[AV.int .i64 ko,.int .i64 no,.str so,.sl lo,.int .i64 self,.ms 1 0 (qzO L),.ms 2 0 (qzO V),AV.mp 3,.bool bd]],.rows true 4 L,.rows true 4 V,ABlk.mp true es,.rows false 7 [[AV.int .i64 o,.int .i64 a,.int .i64 b,.int .i64 k,.int .i64 n,.str w,.sl l]],ABlk.res,ABlk.res,ABlk.res,ABlk.res]) (AV.sl rows_1,[.rows false 9 [[AV.int .i64 ko,.int .i64 no,.str so,.sl lo,.int .i64 self,.ms 1 0 (qzO L),.ms 2 0 (qzO V),AV.mp 3,.bool bd]],.rows true 4 L,.rows true 4 V,ABlk.mp true es,.rows false 7 [[AV.int .i64 o,.int .i64 a,.int .i64 b,.int .i64 k,.int .i64 n,.str w,.sl l]],ABlk.res,ABlk.res,ABlk.res,ABlk.res]) (bif qe 0 (qzQ .i64 ((↑ (qzO V):Int) - a))&&qe (qzQ .i64 ((V.length:Int) - a)) (V.length:Int)then bif o==11 then kOpt (EVj (EV cfg) 152 1 [.ptr 0 0 0,.agg [.int .i64 7,.int .i64 0,.str [],.sl rows]] [.rows false 9 [[AV.int .i64 ko,.int .i64 no,.str so,.sl lo,.int .i64 self,.ms 1 0 (qzO L),.ms 2 0 (qzV (qzQ .i64 ((V.length:Int) - a)) - 0),AV.mp 3,.bool bd]],.rows true 4 (qzT (qzO L) L),.rows true 4 (qzT (qzV (qzQ .i64 ((↑ (qzO V):Int) - a)) - 0) V),ABlk.mp true es]) λq=>qd q.2 λb bs=>qf b λd' n rs=>bif beqB false d'&&qzP n 9 then qW rs λrow rest=>vg rest (qd bs λb bs=>qf b λd' n rs=>bif beqB true d'&&qzP n 4 then qd bs λb bs=>qf b λd' n rs_1=>bif beqB true d'&&qzP n 4 then qd bs λb bs=>kMpB b λd' es=>bif beqB true d' then qU bs (qa row λc cs=>kInt .i64 c λn=>qa cs λc cs=>kInt .i64 c λn_1=>qa cs λc cs=>kStr c λs=>qa cs λc cs=>kSl c λrows=>qa cs λc cs=>kInt .i64 c λn_2=>qa cs λc cs=>kMsE c λid off len=>bif qzP id 1&&(qzP off 0&&qzP len (qzO rs))then qa cs λc cs=>kMsE c λid off len=>bif qzP id 2&&(qzP off 0&&qzP len (qzO rs_1))then qa cs λc cs=>kMpE c λid=>bif qzP id 3 then qa cs λc cs=>qq c λb=>kNil cs (zu1 q n n_1 s rows n_2 rs rs_1 b es)else none else none else none)else none else none else none)else none else bif o==12 then kOpt (EVj (EV cfg) 152 1 [.ptr 0 0 0,.agg [.int .i64 9,.int .i64 0,.str [],.sl rows]] [.rows false 9 [[AV.int .i64 ko,.int .i64 no,.str so,.sl lo,.int .i64 self,.ms 1 0 (qzO L),.ms 2 0 (qzV (qzQ .i64 ((V.length:Int) - a)) - 0),AV.mp 3,.bool bd]],.rows true 4 (qzT (qzO L) L),.rows true 4 (qzT (qzV (qzQ .i64 ((V.length:Int) - a)) - 0) V),ABlk.mp true es]) λq=>qd q.2 λb bs=>qf b λd' n rs=>bif beqB false d'&&qzP n 9 then qW rs λrow rest=>vg rest (qd bs λb bs=>qf b λd' n rs=>bif beqB true d'&&qzP n 4 then qd bs λb bs=>qf b λd' n rs_1=>bif beqB true d'&&qzP n 4 then qd bs λb bs=>kMpB b λd' es=>bif beqB true d' then qU bs (qa row λc cs=>kInt .i64 c λn=>qa cs λc cs=>kInt .i64 c λn_1=>qa cs λc cs=>kStr c λs=>qa cs λc cs=>kSl c λrows=>qa cs λc cs=>kInt .i64 c λn_2=>qa cs λc cs=>kMsE c λid off len=>bif qzP id 1&&(qzP off 0&&qzP len (qzO rs))then qa cs λc cs=>kMsE c λid off len=>bif qzP id 2&&(qzP off 0&&qzP len (qzO rs_1))then qa cs λc cs=>kMpE c λid=>bif qzP id 3 then qa cs λc cs=>qq c λb=>kNil cs (zu1 q n n_1 s rows n_2 rs rs_1 b es)else none else none else none)else none else none else none)else none else kOpt (EVf (EV cfg) 155 [.str w,.sl rows,.int .i64 self]) λv=>kTup v λcs=>qa cs λc cs=>kAgg c λcs_1=>qa cs_1 λc cs_2=>kInt .i64 c λn=>qa cs_2 λc cs_3=>kInt .i64 c λn_1=>qa cs_3 λc cs_4=>kStr c λs=>qa cs_4 λc cs_5=>kSl c λrows=>kNil cs_5 (qa cs λc cs=>kInt .i64 c λn_2=>kNil cs (bif n_2 != 0 then some (.int .i64 (3:Int),[.rows false 9 [[AV.int .i64 ko,.int .i64 no,.str so,.sl lo,.int .i64 self,.ms 1 0 (qzO L),.ms 2 0 (qzV (qzQ .i64 ((V.length:Int) - a)) - 0),AV.mp 3,.bool bd]],.rows true 4 L,.rows true 4 (qzT (qzV (qzQ .i64 ((V.length:Int) - a)) - 0) V),ABlk.mp true es])else kOpt (EVj (EV cfg) 152 1 [.ptr 0 0 0,.agg [.int .i64 n,.int .i64 n_1,.str s,.sl rows]] [.rows false 9 [[AV.int .i64 ko,.int .i64 no,.str so,.sl lo,.int .i64 self,.ms 1 0 (qzO L),.ms 2 0 (qzV (qzQ .i64 ((V.length:Int) - a)) - 0),AV.mp 3,.bool bd]],.rows true 4 (qzT (qzO L) L),.rows true 4 (qzT (qzV (qzQ .i64 ((↑ (qzO V):Int) - a)) - 0) V),ABlk.mp true es]) λq=>zu3 q))else none)))) (kOpt (EVj (EV cfg) 154 1 [.ms 0 (0+qzV (qzQ .i64 ((V.length:Int) - a))) (qzO V - qzV (qzQ .i64 ((V.length:Int) - a)))] [.rows true 4 V]) λq=>qd q.2 λb bs=>qf b λd' n rs=>bif beqB true d'&&qzP n 4 then qU bs (kSl q.1 λrows=>bif qe 0 (qzQ .i64 ((V.length:Int) - a))&&qe (qzQ .i64 ((↑ (qzO V):Int) - a)) (V.length:Int)then bif o==11 then kOpt (EVj (EV cfg) 152 1 [.ptr 0 0 0,.agg [.int .i64 7,.int .i64 0,.str [],.sl rows]] [.rows false 9 [[AV.int .i64 ko,.int .i64 no,.str so,.sl lo,.int .i64 self,.ms 1 0 (qzO L),.ms 2 0 (qzV (qzQ .i64 ((V.length:Int) - a)) - 0),AV.mp 3,.bool bd]],.rows true 4 (qzT (qzO L) L),.rows true 4 (qzT (qzV (qzQ .i64 ((V.length:Int) - a)) - 0) rs),ABlk.mp true es]) λq=>qd q.2 λb bs=>qf b λd' n rs=>bif beqB false d'&&qzP n 9 then qW rs λrow rest=>vg rest (qd bs λb bs=>qf b λd' n rs=>bif beqB true d'&&qzP n 4 then qd bs λb bs=>qf b λd' n rs_1=>bif beqB true d'&&qzP n 4 then qd bs λb bs=>kMpB b λd' es=>bif beqB true d' then qU bs (qa row λc cs=>kInt .i64 c λn=>qa cs λc cs=>kInt .i64 c λn_1=>qa cs λc cs=>kStr c λs=>qa cs λc cs=>kSl c λrows=>qa cs λc cs=>kInt .i64 c λn_2=>qa cs λc cs=>kMsE c λid off len=>bif qzP id 1&&(qzP off 0&&qzP len (qzO rs))then qa cs λc cs=>kMsE c λid off len=>bif qzP id 2&&(qzP off 0&&qzP len (qzO rs_1))then qa cs λc cs=>kMpE c λid=>bif qzP id 3 then qa cs λc cs=>qq c λb=>kNil cs (zu1 q n n_1 s rows n_2 rs rs_1 b es)else none else none else none)else none else none else none)else none else bif o==12 then kOpt (EVj (EV cfg) 152 1 [.ptr 0 0 0,.agg [.int .i64 9,.int .i64 0,.str [],.sl rows]] [.rows false 9 [[AV.int .i64 ko,.int .i64 no,.str so,.sl lo,.int .i64 self,.ms 1 0 (qzO L),.ms 2 0 (qzV (qzQ .i64 ((V.length:Int) - a)) - 0),AV.mp 3,.bool bd]],.rows true 4 (qzT (qzO L) L),.rows true 4 (qzT (qzV (qzQ .i64 ((V.length:Int) - a)) - 0) rs),ABlk.mp true es]) λq=>qd q.2 λb bs=>qf b λd' n rs=>bif beqB false d'&&qzP n 9 then qW rs λrow rest=>vg rest (qd bs λb bs=>qf b λd' n rs=>bif beqB true d'&&qzP n 4 then qd bs λb bs=>qf b λd' n rs_1=>bif beqB true d'&&qzP n 4 then qd bs λb bs=>kMpB b λd' es=>bif beqB true d' then qU bs (qa row λc cs=>kInt .i64 c λn=>qa cs λc cs=>kInt .i64 c λn_1=>qa cs λc cs=>kStr c λs=>qa cs λc cs=>kSl c λrows=>qa cs λc cs=>kInt .i64 c λn_2=>qa cs λc cs=>kMsE c λid off len=>bif qzP id 1&&(qzP off 0&&qzP len (qzO rs))then qa cs λc cs=>kMsE c λid off len=>bif qzP id 2&&(qzP off 0&&qzP len (qzO rs_1))then qa cs λc cs=>kMpE c λid=>bif qzP id 3 then qa cs λc cs=>qq c λb=>kNil cs (zu1 q n n_1 s rows n_2 rs rs_1 b es)else none else none else none)else none else none else none)else none else kOpt (EVf (EV cfg) 155 [.str w,.sl rows,.int .i64 self]) λv=>kTup v λcs=>qa cs λc cs=>kAgg c λcs_1=>qa cs_1 λc cs_2=>kInt .i64 c λn=>qa cs_2 λc cs_3=>kInt .i64 c λn_1=>qa cs_3 λc cs_4=>kStr c λs=>qa cs_4 λc cs_5=>kSl c λrows=>kNil cs_5 (qa cs λc cs=>kInt .i64 c λn_2=>kNil cs (bif n_2 != 0 then some (.int .i64 3,[.rows false 9 [[AV.int .i64 ko,.int .i64 no,.str so,.sl lo,.int .i64 self,.ms 1 0 (qzO L),.ms 2 0 (qzV (qzQ .i64 ((V.length:Int) - a)) - 0),AV.mp 3,.bool bd]],.rows true 4 L,.rows true 4 (qzT (qzV (qzQ .i64 ((V.length:Int) - a)) - 0) rs),ABlk.mp true es])else kOpt (EVj (EV cfg) 152 1 [.ptr 0 0 0,.agg [.int .i64 n,.int .i64 n_1,.str s,.sl rows]] [.rows false 9 [[AV.int .i64 ko,.int .i64 no,.str so,.sl lo,.int .i64 self,.ms 1 0 (qzO L),.ms 2 0 (qzV (qzQ .i64 ((V.length:Int) - a)) - 0),AV.mp 3,.bool bd]],.rows true 4 (qzT (qzO L) L),.rows true 4 (qzT (qzV (qzQ .i64 ((V.length:Int) - a)) - 0) rs),ABlk.mp true es]) λq=>zu3 q))else none)else none)else none) P):Gets (EVj (EV cfg) 92 1 [.ptr 0 0 0,.agg [.int .i64 o,.int .i64 a,.int .i64 b,.int .i64 k,.int .i64 n,.str w,.sl l]] ([ABlk.rows false (9:Nat) [[AV.int qAn ko,AV.int qAn no,AV.str so,AV.sl lo,AV.int qAn self,AV.ms (1:Nat) (0:Nat) (qzO L),AV.ms (2:Nat) (0:Nat) (qzO V),AV.mp (3:Nat),AV.bool bd]],ABlk.rows true (4:Nat) L,ABlk.rows true (4:Nat) V,ABlk.mp true es]:AH)) P:=
  gE (λ_=>funJ rfl rfl Tryz.func92 rfl) (by kernel_rfl) h
theorem qo2(V:Rz)(off n:Nat){P:AV×AH->Prop}(h:Gets (bif qz8 (off+(n+1)) (qzO V)then bif qX (0+qzO (qzT (n+1) (List.drop off V))) 56 then bif qz8 (0+(0+qzO (qzT (n+1) (List.drop off V)))) (qzO (qzT (n+1) (List.drop off V)))&&true then some (.sl (qzT (0+qzO (qzT (n+1) (List.drop off V))) (qzT (n+1) (List.drop off V))),[.rows true 4 V])else none else none else none) P):Gets (EVj (EV cfg) 154 1 [.ms 0 off (n+1)] ([ABlk.rows true (4:Nat) V]:AH)) P:=
  gE (λ_=>funJ rfl rfl Tryz.func154 rfl) (by kernel_rfl) h
theorem qm7(a:AV){P:AV×AH->Prop}(h:Gets (some (.sl [],[])) P):Gets (EVj (EV cfg) 154 0 [.nilS] ([]:AH)) P:=
  gE (λ_=>funJ rfl rfl Tryz.func154 rfl) (by kernel_rfl) h
theorem qm8(a:AV){P:AV×AH->Prop}(h:Gets (some (.sl [],[])) P):Gets (EVj (EV cfg) 154 0 [.em] ([]:AH)) P:=
  gE (λ_=>funJ rfl rfl Tryz.func154 rfl) (by kernel_rfl) h
theorem qsL(k:Int)(n:Int)(s:List UInt8)(l:List (List AV)){P:AV->Prop}(h:Gets (kOpt (EVs (EV cfg) 83 [.agg [AV.int .i64 k,.int .i64 n,.str s,.sl l]]) fun(v:AV)=>kInt .i64 v fun(n:Int)=>some (.bool (n==(0:Int)))) P):Gets (EVs (EV cfg) 42 ([AV.agg [AV.int qAn k,AV.int qAn n,AV.str s,AV.sl l]]:List AV)) P:=
 Gets.ev (λ_ h=>funS rfl rfl Tryz.func42 rfl h) (Gets.eq (by kernel_rfl) h)
abbrev mkH(r:List (List AV)):AH:=[.rows false 1 [[.ms 1 0 r.length]],.rows true 7 r]
theorem qyh{n:Nat}(h:n<=1099511627776):qX n 80=true:=by unfold qX;simp only[nble,qzR,decide_eq_true_eq];omega
def qkw(t:Tm):Prop:=∀ins:List InsA,ins.length+t.w<1099511627776->EVj (EV cfg) 63 1 [.ptr 0 0 0,t.av] (mkH (qQ ins))=some (.tup [],mkH (qQ (ins++qg7 t ins.length)))
theorem qkw.c{t:Tm}(h:qkw t){ins:List InsA}(hw:ins.length+t.w<1099511627776):EVj (EV cfg) 63 1 [.ptr 0 0 0,.agg [.int .i64 t.kind,.int .i64 t.num,.str t.str,.sl (qb t.subs)]] (mkH (qQ ins))=some (.tup [],mkH (qQ (ins++qg7 t ins.length))):=by
 rw[qK];exact h ins hw
abbrev mkS(o:Tm)(self:Int)(L V:List (List AV))(es:List (AV×AV))(b:Bool):AH:=
 [.rows false 9 [[.int .i64 o.kind,.int .i64 o.num,.str o.str,.sl (qb o.subs),.int .i64 self,.ms 1 0 L.length,.ms 2 0 V.length,.mp 3,.bool b]],.rows true 4 L,.rows true 4 V,.mp true es]
def mB(m:List (Int×Tm)):List (AV×AV):=m.map λp=>(.int .i64 p.1,p.2.av)
abbrev stS(o:Tm)(self:Int)(s:SK):AH:=mkS o self (qb s.left.reverse) (qb s.vals.reverse) (mB s.binds) s.body
def howI:How->Int
 | .next=>0
 | .fails=>1
 | .jumps=>2
 | .raises=>3
 | .tells=>4
 | .broken=>5
theorem yw(t:Tm)(r:List Tm):qb (t::r).reverse=qb r.reverse++[t.cells]:=by
 rw[List.reverse_cons,vO,q4,q6]
theorem qs7(V:List (List AV))(z c:List AV):qzT (V.length+1) (List.set (qAi (qzT V.length V) [z]) (0+qzV (V.length:Int)) c)=V++[c]:=by
 rw[qz4,Nat.zero_add,qAk];show qzT _ (List.set (V++[z]) _ _)=_;rw[List.set_append_right _ _ (qz0 _),Nat.sub_self];show qzT _ (V++[c])=_;rw[qAa (by simp)]
theorem quH(V:List (List AV))(z:List AV):qzU (qAi (qzT V.length V) [z]) (0+qzV (V.length:Int))=some z:=by
 rw[qz4,Nat.zero_add,qAk,q9];show(V++[z])[V.length]? =_;rw[qz2 (qz0 _),Nat.sub_self];rfl
theorem qa6(R:List (List AV))(c:List AV):qzU (R++[c]) (0+qzV (R.length:Int))=some c:=by
 rw[Nat.zero_add,qAk,q9,qz2 (qz0 _),Nat.sub_self];rfl
theorem qge(R:List (List AV))(c:List AV):qzT (qzV (R.length:Int) - 0) (R++[c])=R:=by
 rw[qAk,Nat.sub_zero,List.take_left]
theorem qa8{n:Nat}(h:n<1099511627776):qzQ .i64 (((n+1:Nat):Int) - 1)=(n:Int):=by
 rw[qS (by omega) (by omega)];omega
theorem qc1{t:Tm}(h:t.w<1099511627776):EVs (EV cfg) 42 [t.av]=some (.bool (decide (t.chk=0))):=by
 have hc:=qor h;apply Gets.get;rw[Tm.av,Tm.cells_eq]at hc⊢;refine qsL _ _ _ _ ?_;rw[hc];simp only[qc,qi,beqI];exact⟨_,rfl,rfl⟩
theorem qac{o:Tm}{self:Int}{s:SK}{t:Tm}(ht:t.w<1099511627776)(hv:s.vals.length<1099511627776):
  EVj (EV cfg) 152 1 [.ptr 0 0 0,t.av] (stS o self s)=some (.int .i64 (howI (vL t s).1),stS o self (vL t s).2):=by
 have hm:=qc1 ht;apply Gets.get;rw[Tm.av,Tm.cells_eq]at hm⊢;refine qqR _ _ _ _ _ _ _ _ _ _ _ _ _ ?_;rw[hm];simp only[qc,qg];unfold vL
 by_cases hc:t.chk=0
 ·rw[qAu hc,qAw hc];generalize hV:qb s.vals.reverse=V;have hl:V.length=s.vals.length:=by rw[←hV];simp
  have e1:(qz8 (0+V.length) V.length&&qX (V.length+1) 56)=true:=by
   rw[hl,yv (by omega),nble,qAu (by omega)];rfl
  have e2:(qe (0:Int) (V.length:Int)&&qu (V.length:Int) ((V.length+1:Nat):Int))=true:=by
   simp
  have e3:qb (t::s.vals).reverse=V++[t.cells]:=by rw[yw,hV]
  rw[e1,e2,quH];simp only[qc,cond_true,cond_false,qAj];refine⟨_,rfl,?_⟩;rw[qs7];show _=(_,mkS o self _ (qb (t::s.vals).reverse) _ _);rw[e3,Tm.cells_eq,mkS,qAc];rfl
 ·rw[qAv hc,qAx hc];exact⟨_,rfl,rfl⟩
theorem qsO{o:Tm}{self:Int}{s:SK}{x:InsA}(hx:x.o=14∨x.o=15∨x.o=16∨x.o=17∨x.o=19∨x.o=20)(hv:s.vals.length<1099511627776):
  EVj (EV cfg) 93 1 [.ptr 0 0 0,x.av] (stS o self s)=some (.int .i64 (howI (qaY s x).1),stS o self (qaY s x).2):=by
 obtain⟨L,V,B,b⟩:=s;apply Gets.get;rw[InsA.av,Tm.cells_eq];refine qqV _ _ _ _ _ _ _ _ _ _ _ _ _ _ _ _ ?_;unfold zt1;cases V with
 |nil=>exact⟨_,rfl,rfl⟩
 |cons t r=>
  have hr:r.length<1099511627776:=by simp at hv;omega
  rw[yw];generalize hR:qb r.reverse=R;have hl:R.length=r.length:=by rw[←hR];simp
  have e0:((((R++[t.cells]).length:Nat):Int)==(0:Int))=false:=by simp<;>omega
  have e1:qzQ .i64 ((((R++[t.cells]).length:Nat):Int) - 1)=(R.length:Int):=by
   rw[qAc];exact qa8 (by omega)
  have e2:(qe (0:Int) (R.length:Int)&&qu (R.length:Int) (((R++[t.cells]).length:Nat):Int))=true:=by simp
  have e3:(qe (0:Int) (R.length:Int)&&qe (R.length:Int) (((R++[t.cells]).length:Nat):Int))=true:=by simp
  rw[e0,e1,e2,e3,qa6,qge];have et:(qzV (R.length:Int) - 0)=R.length:=by simp
  rw[et];have s1:∀(w:How),(AV.int .i64 (howI w),mkS o self (qb L.reverse) (R++[t.cells]) (mB B) b)=(AV.int .i64 (howI w),stS o self ⟨L,t::r,B,b⟩):=λw=>by
   rw[stS,yw,hR]
  have s2:∀(w:How),(AV.int .i64 (howI w),mkS o self (qb L.reverse) R (mB B) b)=(AV.int .i64 (howI w),stS o self ⟨L,r,B,b⟩):=λw=>by
   rw[stS,hR]
  have ht4:qzT 4 t.cells=t.cells:=by rw[Tm.cells_eq];rfl
  have hl4:qz8 4 t.cells.length=true:=by rw[Tm.cells_eq];rfl
  simp only[qc,cond_false,cond_true,hl4,ht4,qv,beqI,beqS,show([116,114,117,101]:List UInt8)=tru from rfl,show([102,97,108,115,101]:List UInt8)=fal from rfl];unfold qaY vC;simp only[];have hft:fal≠tru:=by decide
  by_cases h2:t.kind=2
  ·by_cases h3:t.str=tru
   ·have h4:¬t.str=fal:=by rw[h3];decide
    rcases hx with hx|hx|hx|hx|hx|hx
    all_goals simp only[qAb,hx,h2,h3,decide_true,decide_false,cond_true,cond_false,and_self,if_true,if_false,Option.some.injEq,reduceCtorEq]
    all_goals first|exact⟨_,rfl,s2 .next⟩|exact⟨_,rfl,s2 .fails⟩|exact⟨_,rfl,s1 .next⟩|exact⟨_,rfl,s1 .jumps⟩|exact⟨_,rfl,s1 .raises⟩|exact⟨_,rfl,s1 .tells⟩
   ·by_cases h4:t.str=fal
    ·rcases hx with hx|hx|hx|hx|hx|hx
     all_goals simp only[qAb,hx,h2,h4,hft,decide_true,decide_false,cond_true,cond_false,and_self,and_false,if_true,if_false,Option.some.injEq,reduceCtorEq,qAj]
     all_goals first|exact⟨_,rfl,s2 .next⟩|exact⟨_,rfl,s2 .fails⟩|exact⟨_,rfl,s1 .next⟩|exact⟨_,rfl,s1 .jumps⟩|exact⟨_,rfl,s1 .raises⟩|exact⟨_,rfl,s1 .tells⟩
    ·rcases hx with hx|hx|hx|hx|hx|hx
     all_goals simp only[qAb,hx,h2,h3,h4,decide_true,decide_false,cond_true,cond_false,and_self,and_false,if_true,if_false,Option.some.injEq,reduceCtorEq,qAp]
     all_goals first|exact⟨_,rfl,s2 .next⟩|exact⟨_,rfl,s2 .fails⟩|exact⟨_,rfl,s1 .next⟩|exact⟨_,rfl,s1 .jumps⟩|exact⟨_,rfl,s1 .raises⟩|exact⟨_,rfl,s1 .tells⟩
  ·rcases hx with hx|hx|hx|hx|hx|hx
   all_goals simp only[qAb,hx,h2,decide_true,decide_false,cond_true,cond_false,false_and,if_true,if_false,reduceCtorEq]
   all_goals first|exact⟨_,rfl,s2 .next⟩|exact⟨_,rfl,s2 .fails⟩|exact⟨_,rfl,s1 .next⟩|exact⟨_,rfl,s1 .jumps⟩|exact⟨_,rfl,s1 .raises⟩|exact⟨_,rfl,s1 .tells⟩
theorem qes{a:Int}:∀{B:List (Int×Tm)} (j:Nat),qR a B=none->vN (TD.int .i64) (.int .i64 a) (mB B) j=some none
 |[],_,_=>rfl
 |p::B,j,h=>by
  rw[qR]at h;split at h
  ·cases h
  ·rename_i hp;show vN _ _ ((.int .i64 p.1,p.2.av)::mB B) j=_;rw[vN];have e:qcC (TD.int .i64) (.int .i64 a) (.int .i64 p.1)=some false:=by
    unfold qcC;simp;exact λh=>hp h.symm
   rw[e];exact qes (j+1) h
theorem qer{a:Int}{t:Tm}:∀{B:List (Int×Tm)} (j:Nat),qR a B=some t->∃i,vN (TD.int .i64) (.int .i64 a) (mB B) j=some (some (j+i,t.av))∧∀x:Tm,List.set (mB B) i (.int .i64 a,x.av)=mB (putB a x B)
 |[],_,h=>by cases h
 |p::B,j,h=>by
  rw[qR]at h;split at h
  ·rename_i hp;cases h;have e:qcC (TD.int .i64) (.int .i64 a) (.int .i64 p.1)=some true:=by
    unfold qcC;simp[hp]
   refine⟨0,?_,λx=>?_⟩
   ·show vN _ _ ((.int .i64 p.1,p.2.av)::mB B) j=_;rw[vN,e];rfl
   ·rw[putB,qAw hp];rfl
  ·rename_i hp;have e:qcC (TD.int .i64) (.int .i64 a) (.int .i64 p.1)=some false:=by
    unfold qcC;simp;exact λh=>hp h.symm
   obtain⟨i,h1,h2⟩:=qer (j+1) h;refine⟨i+1,?_,λx=>?_⟩
   ·show vN _ _ ((.int .i64 p.1,p.2.av)::mB B) j=_;rw[vN,e];simp only[];rw[h1,show j+1+i=j+(i+1) by omega]
   ·rw[putB,qAx hp];show(.int .i64 p.1,p.2.av)::List.set (mB B) i _=_;rw[h2];rfl
theorem qts{a:Int}{t:Tm}:∀{B:List (Int×Tm)},qR a B=none->mB (putB a t B)=mB B++[(.int .i64 a,t.av)]
 |[],_=>rfl
 |p::B,h=>by
  rw[qR]at h;split at h
  ·cases h
  ·rename_i hp;rw[putB,qAx hp];show(.int .i64 p.1,p.2.av)::mB (putB a t B)=(.int .i64 p.1,p.2.av)::(mB B++_);rw[qts h]
theorem qhZ{c:Nat}:∀{l:List Tm},(∀x∈l,x.w<=c)->wL l<=c*l.length
 |[],_=>by simp
 |x::l,h=>by
  rw[xq,List.length_cons,Nat.mul_succ];have h1:=h x (by simp);have h2:=qhZ (l:=l) λy hy=>h y (by simp[hy])
  omega
theorem qkU:∀l:List Tm,(yV l zy).w=l.length+wL l+1
 |[]=>by simp[yV,zy,Tm.w_mk]
 |x::l=>by
  have h:=qkU l;show(qaw x (yV l zy)).w=_;unfold qaw;rw[Tm.w_mk,xq,xq,z8,h,xq];simp;omega
theorem qcv{l:List Tm}(h:∀x∈l,x.chk=0)(hl:l.length<=200000):wL l<=851968000000:=by
 have:=qhZ (l:=l) (c:=4259840) λx hx=>xO (h x hx)
 have h2:4259840*l.length<=4259840*200000:=Nat.mul_le_mul_left _ hl;omega
theorem quR:zy.av= .agg [.int .i64 8,.int .i64 0,.str [],.sl []]:=by rw[zy,Tm.av_mk];rfl
theorem qo1{o:Tm}{self:Int}{s:SK}(hs:SOk s)(hv:s.vals.length<=200000):∀(d i:Nat),i+d=100 ->
  Gets (qcY ((qAs i).filterMap λn:Nat=>qR (n:Int) s.binds).length (i:Int) o.kind o.num o.str (qb o.subs) self (qb s.left.reverse).length (qb s.vals.reverse).length s.body (qb s.left.reverse) (qb s.vals.reverse) (mB s.binds) (qb ((qAs i).filterMap λn:Nat=>qR (n:Int) s.binds)))
   (·=(.int .i64 (howI (vL (yV (allB s.binds) zy) s).1),stS o self (vL (yV (allB s.binds) zy) s).2)):=by
 intro d
 induction d with
 |zero=>
  intro i hi;obtain rfl:i=100:=by omega
  refine qfv _ _ _ _ _ _ _ _ _ _ _ _ _ _ ?_;unfold zt7 zt8;show Gets (bif decide ((((100:Nat)):Int)<(100:Int))then _ else _) _;rw[qAv (by decide),cond_false];show Gets (bif qz8 (0+(allB s.binds).length) (qb (allB s.binds)).length&&true then kOpt (EVf (EV cfg) _ [.sl (qzT (allB s.binds).length (qb (allB s.binds))),_]) _ else none) _;have hA:∀x∈allB s.binds,x.chk=0:=λx hx=>by
   obtain⟨n,_,h⟩:=List.mem_filterMap.1 hx;exact(hs.binds _ (qbf h)).1
  have hAl:(allB s.binds).length<=100:=by unfold allB;exact Nat.le_trans (List.length_filterMap_le _ _) (by simp)
  have hw:=qcv hA (by omega);have hm:=qpo (l:=allB s.binds) (by omega) zy;rw[quR]at hm;have hz:=qac (o:=o) (self:=self) (s:=s) (t:=yV (allB s.binds) zy) (by rw[qkU];omega) (by omega);rw[qj,nble,qAu (by omega),qAa (by simp),hm];simp only[Bool.and_true,cond_true,qc,ve,qz4,qK,hz,qp,qo,qI,qF,qy,qz7,qt,qz,qx,qn,qD,qi,qJ,qC,qg,qG,vS,vR]
  exact⟨_,rfl,rfl⟩
 |succ d ih=>
  intro i hi;refine qfv _ _ _ _ _ _ _ _ _ _ _ _ _ _ ?_;unfold zt7 zt8;have h1:=ih (i+1) (by omega);rw[qAu (show(i:Int)<100 by omega),cond_true,vJ (show i<100 by omega) (by omega)];have hr:qAs (i+1)=qAs i++[i]:=List.range_succ;rw[hr,List.filterMap_append]at h1;cases hl:qR (i:Int) s.binds with
  |none=>
   rw[qes 0 hl];have e:([i]:List Nat).filterMap (λn:Nat=>qR (n:Int) s.binds)=[]:=by
    simp only[List.filterMap_cons,hl,List.filterMap_nil]
   rw[e,List.append_nil]at h1;exact h1
  |some t=>
   obtain⟨j,hj,_⟩:=qer 0 hl;rw[hj];have e:([i]:List Nat).filterMap (λn:Nat=>qR (n:Int) s.binds)=[t]:=by
    simp only[List.filterMap_cons,hl,List.filterMap_nil]
   rw[e]at h1;have hAl:((qAs i).filterMap λn:Nat=>qR (n:Int) s.binds).length<=100:=Nat.le_trans (List.length_filterMap_le _ _) (by simp;omega);generalize (qAs i).filterMap (λn:Nat=>qR (n:Int) s.binds)=A at *;have e1:(qz8 (0+A.length) (qb A).length&&qX (A.length+1) 56)=true:=by
    rw[qj,yv (by omega),nble,qAu (by omega)];rfl
   have e2:qAi (qzT A.length (qb A)) [[AV.int .i64 t.kind,.int .i64 t.num,.str t.str,.sl (qb t.subs)]]=qb (A++[t]):=by
    rw[qAa (by simp),vO,q4,q6,Tm.cells_eq];rfl
   simp only[qc,yb,ve,e1,cond_true,e2];rw[qAc]at h1;exact h1
theorem qsP{o:Tm}{self:Int}{s:SK}{x:InsA}(hx:x.o=7∨x.o=8∨x.o=9∨x.o=10)(hxw:x.t.w<1099511627776)(ho:o.chk=0)(hs:SOk s)(hv:s.vals.length<=200000):
  EVj (EV cfg) 91 1 [.ptr 0 0 0,x.av] (stS o self s)=some (.int .i64 (howI (qaZ opsK o s x).1),stS o self (qaZ opsK o s x).2):=by
 have how:=xO ho;have hm:=qc1 hxw;have hzo:=qac (o:=o) (self:=self) (s:=s) (t:=o) (by omega) (by omega);have hzx:=qac (o:=o) (self:=self) (s:=s) (t:=x.t) hxw (by omega);have hloop:=qo1 (o:=o) (self:=self) hs hv 100 0 (by omega);apply Gets.get;rw[InsA.av,Tm.cells_eq];refine qqW _ _ _ _ _ _ _ _ _ _ _ _ _ _ _ _ ?_;unfold zt2 zt3 zt4 zt5 zt6 zt7 zt8 zt1;unfold qaZ;rcases hx with hx|hx|hx|hx
 ·simp only[hx,beqI,qAb,decide_true,cond_true,qK,hm,qc,qg,if_true]
  by_cases hc:x.t.chk=0
  ·simp only[hc,decide_true,qAj,cond_false,if_true,qz4,hzx,qc,qp,qo,qI,qF,qy,qz7,cond_true,qt,qz,qx,qn,qD,qi,qJ,qC,qg,qG,vS,vR];exact⟨_,rfl,rfl⟩
  ·simp only[hc,decide_false,qAp,cond_true,if_false];exact⟨_,rfl,rfl⟩
 ·simp only[hx,beqI,qAb,decide_true,decide_false,cond_true,cond_false,if_true,if_false];cases hl:qR x.a s.binds with
  |none=>
   rw[qes 0 hl];exact⟨_,rfl,rfl⟩
  |some t=>
   obtain⟨j,hj,_⟩:=qer 0 hl;have htw:=xO (hs.binds _ (qbf hl)).1;have hzt:=qac (o:=o) (self:=self) (s:=s) (t:=t) (by simp only[]at htw;omega) (by omega);rw[hj];simp only[qc,yb,ve,qK,qz4,hzt,qp,qo,qI,qF,qy,qz7,cond_true,qt,qz,qx,qn,qD,qi,qJ,qC,qg,qG,vS,vR]
   exact⟨_,rfl,rfl⟩
 ·simp only[hx,beqI,qAb,decide_true,decide_false,cond_true,cond_false,if_true,if_false,qK,qz4,hzo,qc,qp,qo,qI,qF,qy,qz7,qt,qz,qx,qn,qD,qi,qJ,qC,qg,qG,vS,vR];exact⟨_,rfl,rfl⟩
 ·simp only[hx,beqI,qAb,decide_true,decide_false,cond_true,cond_false,if_true,if_false];exact hloop
end Go.Proofs.YtafdkafbgohigaaGreat
end
