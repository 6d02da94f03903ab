/-
  Parts of the proof of BoundTellsUptoSaid, put together: the abstract evaluation and its contracts. Own work.
  What is proved: each lemma as it stands; no condition.
-/
import Derived.Test.YtgleolmhpmljhaaGreatZBoundTellsM3
open Go.IntKind renaming wrap → qFD
open List renaming getElem?_eq_getElem → qFE, getElem?_eq_some_iff → qFF, get?Internal → qFG, length → qFI, mem_of_getElem? → qFK, take → qFN, take_of_length_le → qFP, drop_eq_getElem_cons → qFS, length_append → qFU, drop_eq_nil_of_le → qFV, getElem?_append_left → qFX, eq_nil_of_length_eq_zero → qFZ, getElem?_append_right → qF0, getElem?_set → qF1, append → qF2, mem_cons → qF6, mem_append → qF8, length_take → qF9, drop → qGb, replicate → qGd, length_cons → qGf, append_nil → qGh, take_add_one → qGk, append_assoc → qGl, range → qGn
open Nat renaming le_refl → qFH, eq_of_beq_eq_true → qFO, ble → qFR, beq → qFY, beq_refl → qF3, mul_le_mul_right → qGe, zero_add → qGi, ble_eq → qGj
open Bool renaming and_eq_true → qFJ, not_true → qFW, not_false → qF4, false_eq_true → qF5, and_self → qF7, true_and → qGm
open Option renaming bind_eq_some_iff → qFL, map_eq_some_iff → qFM, bind_some → qGa, map_some → qGc
open Int renaming toNat → qFQ, toNat_natCast → qFT
open Array renaming toList → qGg
set_option maxRecDepth 1000000
set_option maxHeartbeats 0
noncomputable section
namespace Go.Proofs.YtgleolmhpmljhaaGreat
open Go.Av
def qEm:Den:=evC cfg (EV cfg) 65 none 0 (sub (qc Tryz.f65) [1,1,0,1,0,0])
def qEV:Ex×List AV×AH->Option AV:=kAft (Cfg.keepOut cfg 65 3) (kRun cfg (EV cfg) (kfN cfg 6) 65 none 0 (vM cfg (Cfg.lift cfg 65 0) Tryz.f65.results.toList) ([.block 0,.seq (sub (qc Tryz.f65) [1,1,1])]))
def qxr:List AV×AH->Option AV:=λp=>kOpt (LOOP 0 (some [3,6,7,8]) ([]) qEm p) qEV
def qEk:Den:=evC cfg (EV cfg) 78 none 0 (sub (qc Tryz.f78) [1,0,1,0,0])
def qET:Ex×List AV×AH->Option AV:=kAft (Cfg.keepOut cfg 78 2) (kRun cfg (EV cfg) (kfN cfg 6) 78 none 0 (vM cfg (Cfg.lift cfg 78 0) Tryz.f78.results.toList) ([.block 0,.seq (sub (qc Tryz.f78) [1,1])]))
def qDU:List AV×AH->Option AV:=λp=>kOpt (LOOP 0 (some [0,1,2,11,12,13]) ([]) qEk p) qET
def qEq:Den:=evC cfg (EV cfg) 29 none 0 (sub (qc Tryz.f29) [1,0,1,0,0])
def qEZ:Ex×List AV×AH->Option AV:=kAft (Cfg.keepOut cfg 29 1) (kRun cfg (EV cfg) (kfN cfg 6) 29 none 0 (vM cfg (Cfg.lift cfg 29 0) Tryz.f29.results.toList) ([.block 0,.scope]))
def qD0:List AV×AH->Option AV:=λp=>kOpt (LOOP 0 (some [2,3]) ([]) qEq p) qEZ
abbrev qey(a b c v8:Int):Option (AV):=qxr (((fx 18 [(3,.int .i64 (0:Int)),(6,.sl [[.int .i64 a],[.int .i64 b],[.int .i64 c]]),(7,.int .i64 (3:Int)),(8,.int .i64 v8)]):List AV),([]:AH))
abbrev qex(a b v8:Int):Option (AV):=qxr (((fx 18 [(3,.int .i64 (0:Int)),(6,.sl [[.int .i64 a],[.int .i64 b]]),(7,.int .i64 (2:Int)),(8,.int .i64 v8)]):List AV),([]:AH))
abbrev qk0(A B:Rz)(v13:Int):Option (AV):=qDU (((fx 39 [(0,.sl A),(1,.sl B),(2,.fn (Fn.func 29) [] []),(11,.sl A),(12,.int .i64 (A.length:Int)),(13,.int .i64 v13)]):List AV),([]:AH))
abbrev qk4(c0_0 c0_1:Int)(c0_2:Bz)(c0_3:Rz)(c1_0 c1_1:Int)(c1_2:Bz)(c1_3:Rz):Option (AV):=qD0 (((fx 117 [(2,.ptr 0 0 0),(3,.ptr 1 0 0)]):List AV),([.rows false 4 [[.int .i64 c0_0,.int .i64 c0_1,.str c0_2,.sl c0_3]],.rows false 4 [[.int .i64 c1_0,.int .i64 c1_1,.str c1_2,.sl c1_3]]]:AH))
theorem qy3(a b:Int){P:AV->Prop}(h:Gets (kOpt (EVs (EV cfg) 98 [.int .i64 a]) λv=>qt v λb_1=>kOpt (EVs (EV cfg) 98 [.int .i64 b]) λv=>qt v λb_2=>bif b_1 then bif b_2 then some (.int .i64 0)else some (.int .i64 (- 1))else bif b_2 then some (.int .i64 1)else bif decide (a<b)then some (.int .i64 (- 1))else bif decide (a>b)then some (.int .i64 1)else some (.int .i64 0)) P):Gets (EVs (EV cfg) 63 [.int .i64 a,.int .i64 b]) P:=
  gE (λ_=>funS rfl rfl Tryz.func63 rfl) (by kernel_rfl) h
theorem qxa(a b:Bz){P:AV->Prop}(h:Gets (kOpt (EVs (EV cfg) 99 [.str a,.str b]) λv=>kInt .i64 v λn=>some (.int .i64 n)) P):Gets (EVs (EV cfg) 64 [.str a,.str b]) P:=
  gE (λ_=>funS rfl rfl Tryz.func64 rfl) (by kernel_rfl) h
theorem qAI(a b c:Int){P:AV->Prop}(h:Gets (qey a b c 0) P):Gets (EVs (EV cfg) 65 [.sl [[.int .i64 a],[.int .i64 b],[.int .i64 c]]]) P:=
  gE (λ_=>funS rfl rfl Tryz.func65 rfl) (by kernel_rfl) h
theorem qAJ(a b:Int){P:AV->Prop}(h:Gets (qex a b 0) P):Gets (EVs (EV cfg) 65 [.sl [[.int .i64 a],[.int .i64 b]]]) P:=
  gE (λ_=>funS rfl rfl Tryz.func65 rfl) (by kernel_rfl) h
theorem qsB(A B:Rz){P:AV->Prop}(h:Gets (qk0 A B 0) P):Gets (EVs (EV cfg) 78 [.sl A,.sl B,.fn (Fn.func 29) [] []]) P:=
  gE (λ_=>funS rfl rfl Tryz.func78 rfl) (by kernel_rfl) h
theorem quM(a:Int){P:AV->Prop}(h:Gets (some (.bool (a != a))) P):Gets (EVs (EV cfg) 98 [.int .i64 a]) P:=
  gE (λ_=>funS rfl rfl Tryz.func98 rfl) (by kernel_rfl) h
theorem qvd(a b:Bz){P:AV->Prop}(h:Gets (kOpt (EVs (EV cfg) 127 [.str a,.str b]) λv=>kInt .i64 v λn=>some (.int .i64 n)) P):Gets (EVs (EV cfg) 99 [.str a,.str b]) P:=
  gE (λ_=>funS rfl rfl Tryz.func99 rfl) (by kernel_rfl) h
theorem qlG(A B:Rz){P:AV->Prop}(h:Gets (kOpt (EVs (EV cfg) 78 [.sl A,.sl B,AV.fn (Fn.func 29) [] []]) λv=>kInt .i64 v λn=>some (.int .i64 n)) P):Gets (EVs (EV cfg) 66 [.sl A,.sl B]) P:=
  gE (λ_=>funS rfl rfl Tryz.func66 rfl) (by kernel_rfl) h
theorem qhw(ka na:Int)(sa:Bz)(la:Rz)(kb nb:Int)(sb:Bz)(lb:Rz){P:AV->Prop}(h:Gets (qk4 ka na sa la kb nb sb lb) P):Gets (EVs (EV cfg) 29 [.agg [.int .i64 ka,.int .i64 na,.str sa,.sl la],.agg [.int .i64 kb,.int .i64 nb,.str sb,.sl lb]]) P:=
  gE (λ_=>funS rfl rfl Tryz.func29 rfl) (by kernel_rfl) h
theorem qbX(a b c v8:Int){P:AV->Prop}(h:Gets (bif decide (v8<3)then bif qj 0 v8&&qA v8 (↑ 3:Int)then kOpt (qFG [[.int .i64 a],[.int .i64 b],[.int .i64 c]] (v8.toNat)) λrow=>bif qFY (qFI row) 1 then kOpt (qFG row 0) λv=>kInt .i64 v λn=>bif n != 0 then some (.int .i64 n)else qey a b c (qFD .i64 (v8+1))else none else none else some (.int .i64 0)) P):Gets (qey a b c v8) P:=
  gE (λ_=>qg (cfg:=cfg) (f:=65) (rd:=none) (bs:=0)) (by kernel_rfl) h
theorem qc3(a b v8:Int){P:AV->Prop}(h:Gets (bif decide (v8<2)then bif qj 0 v8&&qA v8 (↑ 2:Int)then kOpt (qFG [[.int .i64 a],[.int .i64 b]] (v8.toNat)) λrow=>bif qFY (qFI row) 1 then kOpt (qFG row 0) λv=>kInt .i64 v λn=>bif n != 0 then some (.int .i64 n)else qex a b (qFD .i64 (v8+1))else none else none else some (.int .i64 0)) P):Gets (qex a b v8) P:=
  gE (λ_=>qg (cfg:=cfg) (f:=65) (rd:=none) (bs:=0)) (by kernel_rfl) h
theorem qjs(A B:Rz)(v13:Int){P:AV->Prop}(h:Gets (bif decide (v13<(A.length:Int))then rs4 A v13 λn n_1 s rows=>(bif decide (v13≥(B.length:Int))then some (.int .i64 1)else rs4 B v13 λn_2 n_3 s_1 rows_1=>(kOpt (EVs (EV cfg) 29 [.agg [.int .i64 n,.int .i64 n_1,.str s,.sl rows],.agg [.int .i64 n_2,.int .i64 n_3,.str s_1,.sl rows_1]]) λv=>kInt .i64 v λn=>bif n != 0 then some (.int .i64 n)else qk0 A B (qFD .i64 (v13+1))))else bif decide ((A.length:Int)<(B.length:Int))then some (.int .i64 (- 1))else some (.int .i64 0)) P):Gets (qk0 A B v13) P:=
  gE (λ_=>qg (cfg:=cfg) (f:=78) (rd:=none) (bs:=0)) (by kernel_rfl) h
abbrev zi0(c0_1 c1_1:Int):Option (AV):=kOpt (EVs (EV cfg) 63 [.int .i64 c0_1,.int .i64 c1_1]) λv=>kInt .i64 v λn=>some (.int .i64 n)
abbrev zi5(n n_1:Int):Option (AV):=kOpt (EVs (EV cfg) 65 [.sl [[.int .i64 n],[.int .i64 n_1]]]) λv=>kInt .i64 v λn=>some (.int .i64 n)
abbrev zi4(v:AV)(n:Int):Option (AV):=kInt .i64 v λn_1=>zi5 n n_1
abbrev zi3(c0_3 c1_3:Rz)(n:Int):Option (AV):=kOpt (EVs (EV cfg) 66 [.sl c0_3,.sl c1_3]) λv=>zi4 v n
abbrev zi2(v:AV)(c0_3 c1_3:Rz):Option (AV):=kInt .i64 v λn=>zi3 c0_3 c1_3 n
abbrev zi1(c0_3 c1_3:Rz):Option (AV):=kOpt (EVs (EV cfg) 63 [.int .i64 (c0_3.length:Int),.int .i64 (c1_3.length:Int)]) λv=>zi2 v c0_3 c1_3
theorem qrj(c0_0 c0_1:Int)(c0_2:Bz)(c0_3:Rz)(c1_0 c1_1:Int)(c1_2:Bz)(c1_3:Rz){P:AV->Prop}(h:Gets (kOpt (EVs (EV cfg) 63 [.int .i64 c0_0,.int .i64 c1_0]) λv=>kInt .i64 v λn=>bif n != 0 then some (.int .i64 n)else bif c0_0==1 then zi0 c0_1 c1_1 else bif c0_0==3 then zi0 c0_1 c1_1 else bif c0_0==4 then zi0 c0_1 c1_1 else bif c0_0==6 then zi0 c0_1 c1_1 else bif c0_0==2 then kOpt (EVs (EV cfg) 64 [.str c0_2,.str c1_2]) λv=>kInt .i64 v λn=>some (.int .i64 n)else bif c0_0==5 then kOpt (EVs (EV cfg) 63 [.int .i64 c0_1,.int .i64 c1_1]) λv=>kInt .i64 v λn=>kOpt (EVs (EV cfg) 63 [.int .i64 (c0_3.length:Int),.int .i64 (c1_3.length:Int)]) λv=>kInt .i64 v λn_1=>kOpt (EVs (EV cfg) 66 [.sl c0_3,.sl c1_3]) λv=>kInt .i64 v λn_2=>kOpt (EVs (EV cfg) 65 [.sl [[.int .i64 n],[.int .i64 n_1],[.int .i64 n_2]]]) λv=>kInt .i64 v λn=>some (.int .i64 n)else bif c0_0==9 then bif(c0_3.length:Int)==2 then bif(c1_3.length:Int)==2 then bif qA 0 (c0_3.length:Int)then kOpt (qFG c0_3 0) λrow=>bif qFY (qFI row) 4 then bif qFR 4 (qFI row)then kTmC (qFN 4 row) λn n_1 s rows=>(bif qA 0 (c1_3.length:Int)then kOpt (qFG c1_3 0) λrow=>bif qFY (qFI row) 4 then bif qFR 4 (qFI row)then kTmC (qFN 4 row) λn_2 n_3 s_1 rows_1=>(kOpt (EVs (EV cfg) 29 [.agg [.int .i64 n,.int .i64 n_1,.str s,.sl rows],.agg [.int .i64 n_2,.int .i64 n_3,.str s_1,.sl rows_1]]) λv=>kInt .i64 v λn=>bif n != 0 then some (.int .i64 n)else bif qA 1 (c0_3.length:Int)then kOpt (qFG c0_3 1) λrow=>bif qFY (qFI row) 4 then bif qFR 4 (qFI row)then kTmC (qFN 4 row) λn n_4 s rows=>(bif qA 1 (c1_3.length:Int)then kOpt (qFG c1_3 1) λrow=>bif qFY (qFI row) 4 then bif qFR 4 (qFI row)then kTmC (qFN 4 row) λn_5 n_6 s_2 rows_2=>(qk4 n n_4 s rows n_5 n_6 s_2 rows_2)else none else none else none)else none else none else none)else none else none else none)else none else none else none else zi1 c0_3 c1_3 else zi1 c0_3 c1_3 else bif c0_0==7 then zi1 c0_3 c1_3 else some (.int .i64 0)) P):Gets (qk4 c0_0 c0_1 c0_2 c0_3 c1_0 c1_1 c1_2 c1_3) P:=
  gE (λ_=>qg (cfg:=cfg) (f:=29) (rd:=none) (bs:=0)) (by kernel_rfl) h
theorem qqr(a:Int):EVs (EV cfg) 98 [.int .i64 a]=some (.bool false):=by
 apply Gets.get;refine quM _ ?_;simp
theorem qh0(a b:Int):EVs (EV cfg) 63 [.int .i64 a,.int .i64 b]=some (.int .i64 (numC a b)):=by
 apply Gets.get;refine qy3 _ _ ?_;rw[qqr,qqr];unfold numC
 by_cases h1:a<b
 ·simp[h1]
 ·by_cases h2:b<a
  ·simp[h1,h2]
  ·simp[h1,h2]
theorem qw7(a b:List UInt8):EVs (EV cfg) 127 [.str a,.str b]=some (.int .i64 (strC a b)):=by
 refine qxI (H:=[]) (qcS ?_);have hx:cfg.ext 127=some qdv:=rfl;unfold vR;simp only[hx];unfold qdv strC
 by_cases h:a=b
 ·simp[h]
 ·simp[h]
theorem qvJ(a b:List UInt8):EVs (EV cfg) 64 [.str a,.str b]=some (.int .i64 (strC a b)):=by
 have h96:EVs (EV cfg) 99 [.str a,.str b]=some (.int .i64 (strC a b)):=by
  apply Gets.get;refine qvd _ _ ?_;rw[qw7];simp
 apply Gets.get;refine qxa _ _ ?_;rw[h96];simp
theorem qwl(a b c:Int):EVs (EV cfg) 65 [.sl [[.int .i64 a],[.int .i64 b],[.int .i64 c]]]=some (.int .i64 (if a≠0 then a else if b≠0 then b else c)):=by
 apply Gets.get;refine qAI _ _ _ ?_;have w1:qFD .i64 (0+1)=1:=qo (by omega) (by omega);have w2:qFD .i64 (1+1)=2:=qo (by omega) (by omega);have w3:qFD .i64 (2+1)=3:=qo (by omega) (by omega);have s3:Gets (qey a b c 3) (·= .int .i64 0):=by
  refine qbX _ _ _ _ ?_;simp
 have s2:Gets (qey a b c 2) (·= .int .i64 c):=by
  refine qbX _ _ _ _ ?_;rw[w3]
  by_cases h:c=0
  ·subst h;simp;exact s3
  ·simp[bneD,h]
 have s1:Gets (qey a b c 1) (·= .int .i64 (if b≠0 then b else c)):=by
  refine qbX _ _ _ _ ?_;rw[w2]
  by_cases h:b=0
  ·subst h;simp;exact s2
  ·simp[bneD,h]
 refine qbX _ _ _ _ ?_;rw[w1]
 by_cases h:a=0
 ·subst h;simp only[ne_eq,ite_not]at s1;simp;exact s1
 ·simp[bneD,h]
theorem qDs(a b:Int):EVs (EV cfg) 65 [.sl [[.int .i64 a],[.int .i64 b]]]=some (.int .i64 (if a≠0 then a else b)):=by
 apply Gets.get;refine qAJ _ _ ?_;have w1:qFD .i64 (0+1)=1:=qo (by omega) (by omega);have w2:qFD .i64 (1+1)=2:=qo (by omega) (by omega);have s2:Gets (qex a b 2) (·= .int .i64 0):=by
  refine qc3 _ _ _ ?_;simp
 have s1:Gets (qex a b 1) (·= .int .i64 b):=by
  refine qc3 _ _ _ ?_;rw[w2]
  by_cases h:b=0
  ·subst h;simp;exact s2
  ·simp[bneD,h]
 refine qc3 _ _ _ ?_;rw[w1]
 by_cases h:a=0
 ·subst h;simp;exact s1
 ·simp[bneD,h]
theorem qkJ{β:Type}{l:List β}{i:Nat}{x:β}(h:l[i]? =some x):l.drop i=x::l.drop (i+1):=by
 obtain⟨h1,h2⟩:=qFF.1 h;rw[←h2];exact qFS h1
theorem qnv{β:Type}{l:List β}{i:Nat}(h:l.length<=i):l.drop i=[]:=qFV h
theorem qwx(la lb:List Tm)(hlen:la.length<1099511627776)(ih:∀a∈la,∀b∈lb,EVs (EV cfg) 29 [a.av,b.av]=some (.int .i64 (cmpT a b))):
  EVs (EV cfg) 78 [.sl (qa la),.sl (qa lb),.fn (.func 29) [] []]=some (.int .i64 (cmpE la lb)):=by
 have loop:∀(d i:Nat),i+d=la.length->Gets (qk0 (qa la) (qa lb) i) (·= .int .i64 (cmpE (la.drop i) (lb.drop i))):=by
  intro d
  induction d with
  |zero=>
   intro i hi;refine qjs _ _ _ ?_;unfold rs4;rw[qnv (l:=la) (by omega)]
   by_cases h:i<lb.length
   ·obtain⟨y,hy⟩:∃y,lb[i]? =some y:=⟨_,qFE h⟩;rw[qkJ hy,xC];simp[show ¬i<la.length by omega,show la.length<lb.length by omega]
   ·rw[qnv (l:=lb) (by omega),zk];simp[show ¬i<la.length by omega,show ¬la.length<lb.length by omega]
  |succ d ihd=>
   intro i hi;refine qjs _ _ _ ?_;unfold rs4;obtain⟨x,hx⟩:∃x,la[i]? =some x:=⟨_,qFE (by omega)⟩;rw[qkJ hx]
   by_cases h:i<lb.length
   ·obtain⟨y,hy⟩:∃y,lb[i]? =some y:=⟨_,qFE h⟩;have hix:=ih x (qFK hx) y (qFK hy);have hih:=ihd (i+1) (by omega);rw[qkJ hy,zw];obtain⟨k,n,s,l⟩:=x;obtain⟨k',n',s',l'⟩:=y;simp only[qu,qFT,qfr hx,qfr hy];simp[show i<la.length by omega,h,show ¬lb.length<=i by omega,hix,bneD]
    by_cases hc:cmpT (.mk k n s l) (.mk k' n' s' l')=0
    ·simp[hc];rw[qN (n:=la.length) (by omega) hlen];exact hih
    ·simp[hc]
   ·rw[qnv (l:=lb) (by omega),xD];obtain⟨k,n,s,l⟩:=x;simp only[qu,qFT,qfr hx];simp[show i<la.length by omega,show lb.length<=i by omega]
 apply Gets.get;refine qsB _ _ ?_;exact loop la.length 0 (by omega)
theorem qyF(la lb:List Tm)(hlen:la.length<1099511627776)(ih:∀a∈la,∀b∈lb,EVs (EV cfg) 29 [a.av,b.av]=some (.int .i64 (cmpT a b))):
  EVs (EV cfg) 66 [.sl (qa la),.sl (qa lb)]=some (.int .i64 (cmpE la lb)):=by
 apply Gets.get;refine qlG _ _ ?_;rw[qwx la lb hlen ih];simp
theorem qqU(a:Tm):a.Ok->∀(kb nb:Int) (sb:List UInt8) (lb:List Tm),(Tm.mk kb nb sb lb).Ok->Gets (qk4 a.kind a.num a.str (qa a.subs) kb nb sb (qa lb)) (·= .int .i64 (cmpT a (.mk kb nb sb lb))):=by
 induction a using Tm.ind with
 |_ k n s l ih=>
  intro hok kb nb sb lb hokb;have ihe:∀a∈l,∀b∈lb,EVs (EV cfg) 29 [a.av,b.av]=some (.int .i64 (cmpT a b)):=by
   intro a ha b hb;have:=ih a ha (hok.sub ha);have hob:=hokb.sub hb;obtain⟨k1,n1,s1,l1⟩:=a;obtain⟨k2,n2,s2,l2⟩:=b;rw[Tm.av_mk,Tm.av_mk];apply Gets.get;exact qhw _ _ _ _ _ _ _ _ (this k2 n2 s2 l2 hob)
  have hlists:=qyF l lb hok.len ihe;rw[qi6];refine qrj _ _ _ _ _ _ _ _ ?_;unfold zi1 zi2 zi3 zi4 zi5 zi0;simp only[Tm.kind,Tm.num,Tm.str,Tm.subs,qh0,qvJ,hlists,qDs,qwl,qb,qd,qe,bneD,beqD]
  by_cases h0:¬numC k kb=0
  ·simp[h0]
  have h0:numC k kb=0:=Classical.not_not.1 h0;simp[h0]
  by_cases h1:k=1
  ·simp[h1]
  by_cases h3:k=3
  ·simp[h3]
  by_cases h4:k=4
  ·simp[h4]
  by_cases h6:k=6
  ·simp[h6]
  by_cases h2:k=2
  ·simp[h2]
  by_cases h5:k=5
  ·simp[h5,cmpL]
  by_cases h9:k=9
  ·subst h9
   by_cases hl:l.length=2
   ·by_cases hl':lb.length=2
    ·obtain⟨x,y,rfl⟩:∃x y,l=[x,y]:=by
      match l,hl with
      |[x,y],_=>exact⟨x,y,rfl⟩
     obtain⟨x',y',rfl⟩:∃x y,lb=[x,y]:=by
      match lb,hl' with
      |[x,y],_=>exact⟨x,y,rfl⟩
     have hx:=ihe x (by simp) x' (by simp);have hy:=ih y (by simp) (hok.sub (by simp));have hoy:=hokb.sub (t:=y') (by simp);have hcl:cmpL [x,y] [x',y']=if cmpT x x'≠0 then cmpT x x' else cmpT y y':=by
      unfold cmpL;rw[zw,zw,zk]
      by_cases e1:cmpT x x'=0<;>by_cases e2:cmpT y y'=0<;>simp[qdS,e1,e2]
     obtain⟨k1,n1,s1,l1⟩:=x;obtain⟨k2,n2,s2,l2⟩:=y;obtain⟨k1',n1',s1',l1'⟩:=x';obtain⟨k2',n2',s2',l2'⟩:=y';have hyy:=hy k2' n2' s2' l2' hoy;simp only[qF,qO,Tm.cells_mk];simp[hcl,hx]
     by_cases hc:cmpT (.mk k1 n1 s1 l1) (.mk k1' n1' s1' l1')=0
     ·simp[hc];exact hyy
     ·simp[hc]
    ·have:¬((lb.length:Int)=2):=by omega
     simp[hl,this,cmpL]
   ·have:¬((l.length:Int)=2):=by omega
    simp[this,cmpL]
  by_cases h7:k=7
  ·simp[h7,cmpL]
  simp[h1,h2,h3,h4,h5,h6,h7,h9]
theorem vS{a b:Tm}(ha:a.Ok)(hb:b.Ok):EVs (EV cfg) 29 [a.av,b.av]=some (.int .i64 (cmpT a b)):=by
 have:=qqU a ha;obtain⟨k1,n1,s1,l1⟩:=a;obtain⟨k2,n2,s2,l2⟩:=b;rw[Tm.av_mk,Tm.av_mk];apply Gets.get;exact qhw _ _ _ _ _ _ _ _ (this k2 n2 s2 l2 hb)
theorem qDt(op:List UInt8):EVf (EV cfg) 164 [.str op]=some (.sl (qC (opsG op))):=by
 apply Gets.get;refine qoJ _ ?_;have h:=qhA (λl=>some (AV.sl (qC l))) op [] qeU;have:Gets (qbk op (some (AV.sl (qC []))) (qeU.map λp=>(p.1,some (AV.sl (qC p.2))))) (·= .sl (qC (opsG op))):=by
  rw[h];exact⟨_,rfl,rfl⟩
 exact this
theorem qyP(l:List Int)(hl:l.length<1099511627776)(n:Int):∀d i:Nat,i+d=l.length->Gets (qlc (qC l) n i) (λv=>∃j:Int,v= .int .i64 j∧(0<=j↔n∈l.drop i)):=by
 intro d
 induction d with
 |zero=>
  intro i hi;refine qjG _ _ _ ?_;rw[vH,qGp (by omega)];refine⟨_,rfl,-1,rfl,?_⟩;rw[qFV (by omega)];simp
 |succ d ih=>
  intro i hi;have hil:i<l.length:=by omega
  refine qjG _ _ _ ?_;have hx:l[i]? =some l[i]:=qFE hil;have hd:l.drop i=l[i]::l.drop (i+1):=qFS hil;have h:=ih (i+1) (by omega);rw[vH,qGo (show(i:Int)<(l.length:Int) by omega),qv,qD,qGo hil,qu,qFT,qcm,hx,qN hil hl]
  by_cases he:n=l[i]
  ·refine⟨.int .i64 i,?_,i,rfl,?_⟩
   ·simp[he]
   ·rw[hd,he];exact⟨λ_=>List.mem_cons_self,λ_=>by omega⟩
  ·have hne:(n==l[i])=false:=by rw[beqI];exact qGp he
   simp[hne];refine Gets.mono (by simpa using h) ?_;rintro _ ⟨j,rfl,hj⟩;exact⟨j,rfl,by rw[hj,hd,qF6];exact⟨Or.inr,λh=>h.resolve_left he⟩⟩
theorem qkd(l:List Int)(hl:l.length<1099511627776)(n:Int):EVs (EV cfg) 162 [.sl (qC l),.int .i64 n]=some (.bool (decide (n∈l))):=by
 obtain⟨_,h1,j,rfl,hj⟩:=qyP l hl n l.length 0 (by omega);have h2:EVs (EV cfg) 172 [.sl (qC l),.int .i64 n]=some (.int .i64 j):=by
  apply Gets.get;exact quT _ _ ⟨_,h1,rfl⟩
 apply Gets.get;refine qoK _ _ ?_;rw[h2];rw[List.drop_zero]at hj;refine⟨_,rfl,?_⟩;show AV.bool (decide (j≥0))=_
 congr 1
 exact decide_eq_decide.2 hj
theorem qp2(op:List UInt8):(opsG op).length<1099511627776:=by
 have:∀(l:List (List UInt8×List Int)),(∀p∈l,p.2.length<=2)->(qbk op [] l).length<=2:=by
  intro l
  induction l with
  |nil=>intro _;simp[qbk]
  |cons p l ih=>
   intro h;rw[qbk];cases op==p.1
   ·exact ih λq hq=>h q (by simp[hq])
   ·exact h p (by simp)
 have:=this qeU (by decide);unfold opsG;omega
theorem qDK{V:List Int}{l:List Tm}(hlen:l.length<1099511627776)(ih:∀x∈l,EVs (EV cfg) 145 [x.av,.sl (qC V)]=some (.bool (isG V x))):
  EVs (EV cfg) 163 [.sl (qa l),.sl (qC V)]=some (.bool (allG V l)):=by
 have hin:∀x∈l,EVs (EV cfg) 173 [x.av,.cptr [.sl (qC V)] 0]=some (.bool (!isG V x)):=by
  intro x hx;have h:=ih x hx;apply Gets.get;rw[Tm.av,Tm.cells_eq]at h⊢;refine qxm _ _ _ _ _ ?_;rw[h];exact⟨_,rfl,rfl⟩
 have loop:∀d i:Nat,i+d=l.length->Gets (qkX (qa l) (qC V) i) (λv=>∃j:Int,v= .int .i64 j∧(0<=j↔allG V (l.drop i)=false)):=by
  intro d
  induction d with
  |zero=>
   intro i hi;refine qjq _ _ _ ?_;unfold rs4;rw[qb,qGp (by omega)];refine⟨_,rfl,-1,rfl,?_⟩;rw[qFV (by omega)];simp[allG]
  |succ d ihd=>
   intro i hi;have hil:i<l.length:=by omega
   refine qjq _ _ _ ?_;unfold rs4;have hx:l[i]? =some l[i]:=qFE hil;have hd:l.drop i=l[i]::l.drop (i+1):=qFS hil;have h1:=hin l[i] (qFK hx);have h2:=ihd (i+1) (by omega);rw[qb,qGo (show(i:Int)<(l.length:Int) by omega),qv,qD,qGo hil,qY hx,qN hil hlen];simp only[cond_true,qF7,qf,qF3,qi,qh,show qFR 4 4=true from rfl,qB,h1,qd,qp]
   cases hg:isG V l[i]with
   |false=>
    refine⟨_,rfl,i,rfl,?_⟩;rw[hd,allG,hg];exact⟨λ_=>rfl,λ_=>by omega⟩
   |true=>
    refine h2.mono ?_;rintro _ ⟨j,rfl,hj⟩;refine⟨j,rfl,?_⟩;rw[hd,allG,hg,qGm];exact hj
 obtain⟨_,h1,j,rfl,hj⟩:=loop l.length 0 (by omega);rw[List.drop_zero]at hj;have h2:EVs (EV cfg) 19 [.sl (qa l),.fn (.func 173) [] [.cptr [.sl (qC V)] 0]]=some (.int .i64 j):=by
  apply Gets.get;exact qsn _ _ ⟨_,h1,rfl⟩
 have h3:EVs (EV cfg) 46 [.sl (qa l),.fn (.func 173) [] [.cptr [.sl (qC V)] 0]]=some (.bool (decide (j≥0))):=by
  apply Gets.get;refine qqS _ _ ?_;rw[h2];exact⟨_,rfl,rfl⟩
 apply Gets.get;refine qqx _ _ ?_;rw[h3];refine⟨_,rfl,?_⟩;show AV.bool (!decide (j≥0))=_
 congr 1
 cases ha:allG V l with
 |false=>rw[qGo (hj.2 ha)];rfl
 |true=>
  have:¬j≥0:=λh=>by have:=hj.1 h;rw[ha]at this;cases this
  rw[qGp this];rfl
theorem qFw{V:List Int}(hV:V.length<1099511627776):∀(n:Nat) (t:Tm),t.w<=n->n<1099511627776->EVs (EV cfg) 145 [t.av,.sl (qC V)]=some (.bool (isG V t)):=by
 intro n
 induction n with
 |zero=>intro t h;have:=xW t;omega
 |succ n ih=>
  intro t hw hn;have hwe:=t.w_eq;have hwl:=yf t.subs;have allOf:∀l:List Tm,wL l<=n->EVs (EV cfg) 163 [.sl (qa l),.sl (qC V)]=some (.bool (allG V l)):=λl hl=>
   qDK (by have:=yf l;omega) λx hx=>ih x (by have:=xF hx;omega) (by omega)
  have hvar:=qn2 (t:=t) (by omega);have hsub:=allOf t.subs (by omega);apply Gets.get;rw[Tm.av,Tm.cells_eq]at hvar⊢;refine qso _ _ _ _ _ ?_;rw[hvar,hsub];simp only[beqI,qd,qp]
  by_cases h2:t.kind=2
  ·rw[qGo h2,cond_true,qkG h2];simp only[varR,kTup,ql,qe,qp,kNil];cases hv:varT t with
   |none=>exact⟨_,rfl,rfl⟩
   |some x=>
    have hc:=qkd V hV x;simp only[Option.getD_some,Option.isSome_some,qFW,cond_false];rw[hc];exact⟨_,rfl,rfl⟩
  ·rw[qGp h2,cond_false]
   by_cases h9:t.kind=9
   ·rw[qGo h9,cond_true,qqs h9];exact⟨_,rfl,rfl⟩
   ·rw[qGp h9,cond_false]
    by_cases h7:t.kind=7
    ·rw[qGo h7,cond_true];cases hl:t.subs with
     |nil=>rw[qs1 h7 hl];exact⟨_,rfl,rfl⟩
     |cons f r=>
      rw[qs0 h7 hl];rw[hl]at hwl hwe;rw[vC]at hwe;have hfw:=f.w_eq;have hfs:=allOf f.subs (by omega);have hr:=allOf r (by omega);have c0:(decide (((qa (f::r)).length:Int)=0))=false:=by rw[qb];exact qGp (by simp;omega)
      have c1:qA 0 ((qa (f::r)).length:Int)=true:=by rw[qb];exact qGo (by simp)
      have c2:qj 1 ((qa (f::r)).length:Int)=true:=by rw[qb];exact qGo (by simp;omega)
      have g0:(qa (f::r))[(0:Int).toNat]? =some f.cells:=by rw[qF];rfl
      have tk:qFN ((qa (f::r)).length - 1) (qGb 1 (qa (f::r)))=qa r:=by
       rw[qF,List.drop_succ_cons,List.drop_zero,qGf,Nat.add_sub_cancel,List.take_length]
      have g0':(qa (f::r))[0]? =some f.cells:=g0;rw[c0,c1,c2,tk];simp only[cond_false,cond_true,qu,g0,g0',qd,qf,qF3,show qFR 4 4=true from rfl,qi,qh,yV,qb,beqS]
      by_cases f7:f.kind=7
      ·rw[qGq f7,qGo f7,cond_true,hfs]
       by_cases hrl:r.length=0
       ·have:decide ((r.length:Int)=0)=true:=qGo (by omega);rw[this,qGo hrl];exact⟨_,rfl,rfl⟩
       ·have:decide ((r.length:Int)=0)=false:=qGp (by omega);rw[this,qGp hrl];exact⟨_,rfl,rfl⟩
      ·rw[qGr f7,qGp f7,cond_false]
       by_cases f2:f.kind=2
       ·have:(f.kind != 2)=false:=by rw[f2];rfl
        rw[qGq f2,this,cond_false]
        by_cases hc:f.str=[99,111,110,115,116]
        ·rw[qGq hc,qGo hc];refine⟨_,rfl,?_⟩;show AV.bool (decide ((r.length:Int)=1))=_
         congr 1
         exact decide_eq_decide.2 (by omega)
        ·rw[qGr hc,qGp hc,cond_false,qDt];have hcn:=qkd (opsG f.str) (qp2 f.str) (r.length:Int);simp only[qd,q5,hcn,qp,hr];cases decide ((r.length:Int)∈opsG f.str)<;>exact⟨_,rfl,rfl⟩
       ·have:(f.kind != 2)=true:=by simpa using f2
        rw[qGr f2,this];exact⟨_,rfl,rfl⟩
    ·rw[qGp h7,qob h2 h9 h7];exact⟨_,rfl,rfl⟩
theorem qgk{V:List Int}(hV:V.length<1099511627776){t:Tm}(h:t.w<1099511627776):EVs (EV cfg) 119 [t.av,.sl (qC V)]=some (.int .i64 (zs V t)):=by
 have hc:=qfU h;have hi:=qFw hV t.w t (qFH _) h;apply Gets.get;rw[Tm.av,Tm.cells_eq]at hc hi⊢;refine qnp _ _ _ _ _ ?_;rw[hc,hi];unfold zs;simp only[qd,qe,qp]
 by_cases h0:t.chk=0
 ·have:(t.chk != 0)=false:=by rw[h0];rfl
  rw[this,qGq h0];cases isG V t<;>exact⟨_,rfl,rfl⟩
 ·have:(t.chk != 0)=true:=by simpa using h0
  rw[this,qGr h0];exact⟨_,rfl,rfl⟩
end Go.Proofs.YtgleolmhpmljhaaGreat
end
noncomputable section
namespace Go.Av
theorem qmc(x:Tm)(l:List Tm):qFG (qa (x::l)) 0=some x.cells:=by rw[qu,qF];rfl
theorem qmb(x y:Tm)(l:List Tm):qFG (qa (x::y::l)) 1=some y.cells:=by rw[qu,qF,qF];rfl
theorem lt0T(x:Tm)(l:List Tm):qA 0 ((qa (x::l)).length:Int)=true:=by rw[qb];exact qGo (by simp)
theorem lt1T(x y:Tm)(l:List Tm):qA 1 ((qa (x::y::l)).length:Int)=true:=by rw[qb];exact qGo (by simp;omega)
theorem xE:qFR 4 4=true:=rfl
theorem qeV{t:Tm}(h:t.chk=0):t.Ok:=x8 t (by have:=xX h;omega)
end Go.Av
namespace Go.Proofs.YtgleolmhpmljhaaGreat
open Go.Av
theorem qnO{p:Nat->Bool}{r:List AV}(h:qdD p r){n:Nat}(hn:n<100):EVs (EV cfg) 144 [.cptr r 0,.int .i64 n]=some (.bool (p n)):=by
 obtain⟨lo,hi,l,rfl,h1,h2,h3,h4⟩:=h;have key:∀{a k:Nat},a<18446744073709551616->k<64->((((a / 2 ^ k % 2:Nat):Int))==1)=a.testBit k:=by
  intro a k _ _;rw[Nat.testBit_eq_decide_div_mod_eq];rw[beqI];exact decide_eq_decide.2 (by omega)
 apply Gets.get;refine qtG _ _ ?_;unfold zf2
 by_cases hs:n<64
 ·have e:p n=lo.testBit n:=(h3 n hs).symm;have hd:=Nat.div_le_self lo (2 ^ n);rw[qGo (show(n:Int)<64 by omega),e];simp only[cond_true,qu,List.getElem?_cons_zero,qd,qe,qsR h1 hs,qtc (show lo / 2 ^ n<18446744073709551616 by omega),key h1 hs];exact⟨_,rfl,rfl⟩
 ·obtain⟨k,rfl⟩:∃k,n=k+64:=⟨n - 64,by omega⟩;have hk:k<64:=by omega
  have e:p (k+64)=hi.testBit k:=(h4 k hk).symm;have hd:=Nat.div_le_self hi (2 ^ k);have w:qFD .i64 (((k+64:Nat):Int) - 64)=(k:Int):=by rw[qo (by omega) (by omega)];omega
  rw[qGp (show ¬((k+64:Nat):Int)<64 by omega),w,e];simp only[cond_false,qu,List.getElem?_cons_succ,List.getElem?_cons_zero,qd,qe,qsR h2 hk,qtc (show hi / 2 ^ k<18446744073709551616 by omega),key h2 hk];exact⟨_,rfl,rfl⟩
theorem qmk{n:Nat}(h:n<=1099511627776):qI n 8=true:=by
 unfold qI;rw[qFJ,qGj,qGj];omega
def qEG:Den:=evC cfg (EV cfg) 115 none 7 (sub (qc Tryz.f115) [0,0,0])
def qFf:Ex×List AV×AH->Option AV:=kAft (Cfg.keepOut cfg 115 (qm (sub (qc Tryz.f115) [0,0,0]))) (vm 0 (kSeq (fun(fr:List AV) (H:AH)=>ve (Cfg.cut cfg 115 (qm (sub (qc Tryz.f115) [1]))) fr H fun(fr:List AV) (H:AH)=>qR cfg (EV cfg) (kfN cfg (5)) 115 none 7 (sub (qc Tryz.f115) [1]) fr H (xI cfg (Cfg.lift cfg 115 0) (fun(v:AV) (H:AH)=>(fun(r:AV×AH)=>yN 0 6 (fx 18 [(4,AV.ptr 1 0 0),(5,AV.ptr 2 0 0)]) (vm 0 (kSeq (fun(fr:List AV) (H:AH)=>ve (Cfg.cut cfg 118 (qm (sub (qc Tryz.f118) [1,1,1,1]))) fr H fun(fr:List AV) (H:AH)=>qR cfg (EV cfg) (kfN cfg 6) 118 none 0 (sub (qc Tryz.f118) [1,1,1,1]) fr H (vX cfg (Cfg.lift cfg 118 0) (qGg (Func.results Tryz.f118)))) (vX cfg (Cfg.lift cfg 118 0) (qGg (Func.results Tryz.f118))))) (Prod.snd r)) (v,H)) (qGg (Func.results (Prod.snd (115,Tryz.f115)))))) (xI cfg (Cfg.lift cfg 115 0) (fun(v:AV) (H:AH)=>(fun(r:AV×AH)=>yN 0 6 (fx 18 [(4,AV.ptr 1 0 0),(5,AV.ptr 2 0 0)]) (vm 0 (kSeq (fun(fr:List AV) (H:AH)=>ve (Cfg.cut cfg 118 (qm (sub (qc Tryz.f118) [1,1,1,1]))) fr H fun(fr:List AV) (H:AH)=>qR cfg (EV cfg) (kfN cfg 6) 118 none 0 (sub (qc Tryz.f118) [1,1,1,1]) fr H (vX cfg (Cfg.lift cfg 118 0) (qGg (Func.results Tryz.f118)))) (vX cfg (Cfg.lift cfg 118 0) (qGg (Func.results Tryz.f118))))) (Prod.snd r)) (v,H)) (qGg (Func.results (Prod.snd (115,Tryz.f115)))))))
def qxB:List AV×AH->Option AV:=fun(p:List AV×AH)=>kOpt (LOOP 7 (some [0,1,2]) [] qEG p) qFf
def qEH:Den:=evC cfg (EV cfg) 52 none 0 (sub (qc Tryz.f52) [1,1,0,1,0,0])
def qFg:Ex×List AV×AH->Option AV:=kAft (Cfg.keepOut cfg 52 3) (kRun cfg (EV cfg) (kfN cfg 6) 52 none 0 (vX cfg (Cfg.lift cfg 52 0) Tryz.f52.results.toList) ([.block 0,.seq (sub (qc Tryz.f52) [1,1,1])]))
def qEa:List AV×AH->Option AV:=λp=>kOpt (LOOP 0 (some [3,6,7,8]) ([(3,4)]) qEH p) qFg
abbrev qpk(c0_0 c0_1:Int)(c0_2:Bz)(c0_3:Rz)(nc1_0:Nat)(c2_0:Bool)(c3_0 c3_1:Int)(c3_2:Bz)(c3_3 h5:Rz):Option (AV):=qxB (((fx 23 [(0,.yld 6),(1,.ptr 3 0 0),(2,.ptr 4 0 0)]):List AV),([.rows false 4 [[.int .i64 c0_0,.int .i64 c0_1,.str c0_2,.sl c0_3]],.rows false 1 [[.ms 5 0 nc1_0]],.rows false 1 [[.bool c2_0]],.rows false 4 [[.int .i64 c3_0,.int .i64 c3_1,.str c3_2,.sl c3_3]],.rows false 1 [[.ptr 2 0 0]],.rows true 4 h5,rngB Tryz.f118 118 [1,1,1,0,1,0] (fx 18 [(4,.ptr 1 0 0)]) none LoopState.ready]:AH))
abbrev qle(L:Rz)(nv3:Nat)(v8:Int)(h0:Rz):Option (AV):=qEa (((fx 19 [(3,.ms 0 0 nv3),(6,.sl L),(7,.int .i64 (L.length:Int)),(8,.int .i64 v8)]):List AV),([.rows true 4 h0]:AH))
abbrev qmX(c0_0 c0_1:Int)(c0_2:Bz)(c0_3:Rz)(nc1_0:Nat)(c2_0:Bool)(c3_0 c3_1:Int)(c3_2:Bz)(c3_3 h7:Rz):Option (AV):=qxB (((fx 23 [(0,.yld 6),(1,.ptr 3 0 0),(2,.ptr 4 0 0)]):List AV),([.rows false 4 [[.int .i64 c0_0,.int .i64 c0_1,.str c0_2,.sl c0_3]],.rows false 1 [[.ms 7 0 nc1_0]],.rows false 1 [[.bool c2_0]],.rows false 4 [[.int .i64 c3_0,.int .i64 c3_1,.str c3_2,.sl c3_3]],.rows false 1 [[.ptr 2 0 0]],.dead,rngB Tryz.f118 118 [1,1,1,0,1,0] (fx 18 [(4,.ptr 1 0 0)]) none LoopState.ready,.rows true 4 h7]:AH))
theorem quc(kt nt:Int)(st:Bz)(lt:Rz){P:AV->Prop}(h:Gets (bif kt==2 then bif st==[(95:UInt8)]then kOpt (EVs (EV cfg) 53 [.agg [.int .i64 kt,.int .i64 nt,.str st,.sl lt]]) λv=>qt v λb=>some (.bool b)else some (.bool false)else some (.bool false)) P):Gets (EVs (EV cfg) 142 [.agg [.int .i64 kt,.int .i64 nt,.str st,.sl lt]]) P:=
  gE (λ_=>funS rfl rfl Tryz.func142 rfl) (by kernel_rfl) h
theorem qtE(kt nt:Int)(st:Bz)(lt:Rz){P:AV->Prop}(h:Gets (kOpt (EVs (EV cfg) 141 [.agg [.int .i64 kt,.int .i64 nt,.str st,.sl lt]]) λv=>kTup v λcs=>ql cs λc cs=>kInt .i64 c λn=>ql cs λc cs=>qt c λb=>kNil cs (bif b then some (.bool true)else bif kt==7 then some (.bool true)else kOpt (EVs (EV cfg) 142 [.agg [.int .i64 kt,.int .i64 nt,.str st,.sl lt]]) λv=>qt v λb=>some (.bool b))) P):Gets (EVs (EV cfg) 116 [.agg [.int .i64 kt,.int .i64 nt,.str st,.sl lt]]) P:=
  gE (λ_=>funS rfl rfl Tryz.func116 rfl) (by kernel_rfl) h
theorem qtD(kt nt:Int)(st:Bz)(lt:Rz){P:AV->Prop}(h:Gets (qpk kt nt st lt 0 false kt nt st lt []) P):Gets (EVf (EV cfg) 118 [.agg [.int .i64 kt,.int .i64 nt,.str st,.sl lt]]) P:=
  gE (λ_=>funF rfl rfl Tryz.func118 rfl) (by kernel_rfl) h
theorem qpw(L:Rz){P:AV->Prop}(h:Gets (qle L 0 0 []) P):Gets (EVf (EV cfg) 52 [.sl L]) P:=
  gE (λ_=>funF rfl rfl Tryz.func52 rfl) (by kernel_rfl) h
abbrev zl6(nc1_0:Nat)(h5 c3_3:Rz)(c0_0 c0_1:Int)(c0_2:Bz)(c0_3:Rz)(c2_0:Bool)(n n_1:Int)(s:Bz)(rows:Rz):Option (AV):=(bif qFR (0+nc1_0) (qFI h5)&&qI (nc1_0+1) 56 then bif qj 0 (↑ nc1_0:Int)&&qA (↑ nc1_0:Int) (↑ (nc1_0+1):Int)then kOpt (qFG (qF2 (qFN nc1_0 h5) [[AV.int .i64 0,.int .i64 0,.str [],.nilS]]) (0+qFQ (↑ nc1_0:Int))) λrow=>bif qFR 4 (qFI row)then bif qA 1 (c3_3.length:Int)then kOpt (qFG c3_3 1) λrow_1=>bif qFY (qFI row_1) 4 then bif qFR 4 (qFI row_1)then kTmC (qFN 4 row_1) λn_2 n_3 s_1 rows_1=>(qmX c0_0 c0_1 c0_2 c0_3 (nc1_0+1) c2_0 n_2 n_3 s_1 rows_1 (st4 (qF2 (qFN nc1_0 h5) [[AV.int .i64 0,.int .i64 0,.str [],.nilS]]) (↑ nc1_0:Int) n n_1 s rows row))else none else none else none else none else none else none)
abbrev zl5(row:List AV)(nc1_0:Nat)(h5 c3_3:Rz)(c0_0 c0_1:Int)(c0_2:Bz)(c0_3:Rz)(c2_0:Bool):Option (AV):=kTmC (qFN 4 row) λn n_1 s rows=>zl6 nc1_0 h5 c3_3 c0_0 c0_1 c0_2 c0_3 c2_0 n n_1 s rows
abbrev zl4(row:List AV)(nc1_0:Nat)(h5 c3_3:Rz)(c0_0 c0_1:Int)(c0_2:Bz)(c0_3:Rz)(c2_0:Bool):Option (AV):=bif qFR 4 (qFI row)then zl5 row nc1_0 h5 c3_3 c0_0 c0_1 c0_2 c0_3 c2_0 else none
abbrev zl3(row:List AV)(nc1_0:Nat)(h5 c3_3:Rz)(c0_0 c0_1:Int)(c0_2:Bz)(c0_3:Rz)(c2_0:Bool):Option (AV):=bif qFY (qFI row) 4 then zl4 row nc1_0 h5 c3_3 c0_0 c0_1 c0_2 c0_3 c2_0 else none
abbrev zl2(c3_3:Rz)(nc1_0:Nat)(h5:Rz)(c0_0 c0_1:Int)(c0_2:Bz)(c0_3:Rz)(c2_0:Bool):Option (AV):=kOpt (qFG c3_3 0) λrow=>zl3 row nc1_0 h5 c3_3 c0_0 c0_1 c0_2 c0_3 c2_0
abbrev zl1(c3_3:Rz)(nc1_0:Nat)(h5:Rz)(c0_0 c0_1:Int)(c0_2:Bz)(c0_3:Rz)(c2_0:Bool):Option (AV):=bif qA 0 (c3_3.length:Int)then zl2 c3_3 nc1_0 h5 c0_0 c0_1 c0_2 c0_3 c2_0 else none
abbrev zl0(c3_0:Int)(c3_3:Rz)(nc1_0:Nat)(h5:Rz)(c0_0 c0_1:Int)(c0_2:Bz)(c0_3:Rz)(c2_0:Bool):Option (AV):=bif c3_0==9 then zl1 c3_3 nc1_0 h5 c0_0 c0_1 c0_2 c0_3 c2_0 else bif qFR (0+nc1_0) (qFI h5)&&true then some (AV.tup [.sl (qFN nc1_0 h5),.bool (c3_0==8)])else none
theorem qrs(c0_0 c0_1:Int)(c0_2:Bz)(c0_3:Rz)(nc1_0:Nat)(c2_0:Bool)(c3_0 c3_1:Int)(c3_2:Bz)(c3_3 h5:Rz){P:AV->Prop}(h:Gets (zl0 c3_0 c3_3 nc1_0 h5 c0_0 c0_1 c0_2 c0_3 c2_0) P):Gets (qpk c0_0 c0_1 c0_2 c0_3 nc1_0 c2_0 c3_0 c3_1 c3_2 c3_3 h5) P:=
  gE (λ_=>qg (cfg:=cfg) (f:=115) (rd:=none) (bs:=7)) (by kernel_rfl) h
theorem qjI(L:Rz)(nv3:Nat)(v8:Int)(h0:Rz){P:AV->Prop}(h:Gets (bif decide (v8<(L.length:Int))then rs4 L v8 λn n_1 s rows=>(kOpt (EVf (EV cfg) 51 [.agg [.int .i64 n,.int .i64 n_1,.str s,.sl rows]]) λv=>kTmV v λn n_2 s rows=>(bif qFR (0+nv3) (qFI h0)&&qI (nv3+1) 56 then qle L (nv3+1) (qFD .i64 (v8+1)) (qF2 (qFN nv3 h0) [[AV.int .i64 n,.int .i64 n_2,.str s,.sl rows]])else none))else bif qFR (0+nv3) (qFI h0)&&true then some (.sl (qFN nv3 h0))else none) P):Gets (qle L nv3 v8 h0) P:=
  gE (λ_=>qg (cfg:=cfg) (f:=52) (rd:=none) (bs:=0)) (by kernel_rfl) h
theorem qpj(c0_0 c0_1:Int)(c0_2:Bz)(c0_3:Rz)(nc1_0:Nat)(c2_0:Bool)(c3_0 c3_1:Int)(c3_2:Bz)(c3_3 h7:Rz){P:AV->Prop}(h:Gets (zl0 c3_0 c3_3 nc1_0 h7 c0_0 c0_1 c0_2 c0_3 c2_0) P):Gets (qmX c0_0 c0_1 c0_2 c0_3 nc1_0 c2_0 c3_0 c3_1 c3_2 c3_3 h7) P:=
  gE (λ_=>qg (cfg:=cfg) (f:=115) (rd:=none) (bs:=7)) (by kernel_rfl) h
end Go.Proofs.YtgleolmhpmljhaaGreat
end
noncomputable section
namespace Go.Av
def lsR(r:List Tm×Bool):AV:=.tup [.sl (qa r.1),.bool r.2]
end Go.Av
namespace Go.Proofs.YtgleolmhpmljhaaGreat
open Go.Av
theorem qwf{t:Tm}(h:t.w<1099511627776):EVs (EV cfg) 142 [t.av]=some (.bool (anyT t)):=by
 have hm:=qdP h;apply Gets.get;rw[Tm.av,Tm.cells_eq]at hm⊢;refine quc _ _ _ _ ?_;rw[hm];simp only[beqI,beqS,qd,qp];unfold anyT;cases decide (t.kind=2)<;>cases decide (t.str=[95])<;>exact⟨_,rfl,rfl⟩
theorem qvM{t:Tm}(h:t.w<1099511627776):EVs (EV cfg) 116 [t.av]=some (.bool (qb4 t)):=by
 have hv:=qn2 h;have ha:=qwf h;apply Gets.get;rw[Tm.av,Tm.cells_eq]at hv ha⊢;refine qtE _ _ _ _ ?_;rw[hv,ha];unfold qb4 varR;simp only[beqI,qd,qp,kTup,ql,qe,kNil];cases(varT t).isSome<;>cases decide (t.kind=7)<;>exact⟨_,rfl,rfl⟩
theorem qjM{l:List Tm}(hlen:l.length<1099511627776)(hc:∀x∈l,x.Ok):EVf (EV cfg) 52 [.sl (qa l)]=some (.sl (qa l)):=by
 have loop:∀d i:Nat,i+d=l.length->Gets (qle (qa l) i i (qa (l.take i))) (·= .sl (qa l)):=by
  intro d
  induction d with
  |zero=>
   intro i hi;refine qjI _ _ _ _ ?_;unfold rs4;obtain rfl:i=l.length:=by omega
   have hb:qFR (0+l.length) (qa l).length=true:=by rw[qGj,qb];omega
   have ht:qFN l.length (qa l)=qa l:=qFP (by simp);rw[List.take_length,hb,ht,qb,qGp (by omega)];exact⟨_,rfl,rfl⟩
  |succ d ihd=>
   intro i hi;have hil:i<l.length:=by omega
   refine qjI _ _ _ _ ?_;unfold rs4;have hx:l[i]? =some l[i]:=qFE hil;have h1:=qnw (hc l[i] (qFK hx));have h2:=ihd (i+1) (by omega);have e1:l.take (i+1)=l.take i++[l[i]]:=by rw[qGk,hx];rfl
   have ht:(qa (l.take i)).length=i:=by rw[qb,qF9];omega
   have e2:qF2 (qFN i (qa (l.take i))) [l[i].cells]=qa (l.take (i+1)):=by
    rw[qFP (by omega),e1,qW,qF,qO];rfl
   have e3:qFR (0+i) (qa (l.take i)).length=true:=by rw[ht,qGj];omega
   rw[qb,qGo (show(i:Int)<(l.length:Int) by omega),qv,qD,qGo hil,qY hx,qN hil hlen,e3,xg (by omega)];simp only[cond_true,qF7,qf,qF3,qi,qh,xE,qB,h1,qd,yj];rw[←Tm.cells_eq,e2];exact h2
 apply Gets.get;refine qpw _ ?_;exact(by simpa [qO]using loop l.length 0 (by omega))
theorem qpv{c:Tm}{b:Bool}:∀(n:Nat) (t:Tm) (acc:List Tm),t.w<=n->t.chk=0->acc.length+n<1099511627776->Gets (qmX c.kind c.num c.str (qa c.subs) acc.length b t.kind t.num t.str (qa t.subs) (qa acc)) (·=lsR (acc++(qG t).1,(qG t).2)):=by
 intro n
 induction n with
 |zero=>intro t acc h;have:=xW t;omega
 |succ n ih=>
  intro t acc hw hc hn;refine qpj _ _ _ _ _ _ _ _ _ _ _ ?_;unfold zl0 zl1 zl2 zl3 zl4 zl5 zl6 st4;rw[beqI,beqI]
  by_cases h9:t.kind=9
  ·obtain⟨x,y,hs⟩:=qbU hc h9;have hwe:=t.w_eq;rw[hs]at hwe;simp only[vC,xO]at hwe;have h:=ih y (acc++[x]) (by omega) (xi hc (by rw[hs];simp)) (by simp;omega);have e1:qFR (0+acc.length) (qa acc).length=true:=by rw[qGj,qb];omega
   have e2:qFN acc.length (qa acc)=qa acc:=qFP (by simp);have e3:qA (acc.length:Int) ((acc.length+1:Nat):Int)=true:=qGo (by omega);have e4:(qF2 (qa acc) [[AV.int .i64 0,.int .i64 0,.str [],.nilS]])[0+qFQ (acc.length:Int)]? =some [AV.int .i64 0,.int .i64 0,.str [],.nilS]:=by
    rw[qFT,qGi];have:=qkN (qa acc) [AV.int .i64 0,.int .i64 0,.str [],.nilS];rw[qb]at this;exact this
   have e5:List.set (qF2 (qa acc) [[AV.int .i64 0,.int .i64 0,.str [],.nilS]]) (0+qFQ (acc.length:Int)) x.cells=qa (acc++[x]):=by
    rw[qFT,qGi];have:=qkM (qa acc) [AV.int .i64 0,.int .i64 0,.str [],.nilS] x.cells;rw[qb]at this;rw[qW,qF,qO];exact this
   rw[qGo h9,cond_true,hs,lt0T,qmc,lt1T,qmb,e1,e2,xg (by omega),qv,e3,qu,e4];simp only[cond_true,qF7,qd,qf,qF3,qi,qh,xE,qGf,List.length_nil,show qFR 4 (0+1+1+1+1)=true from rfl,List.drop_succ_cons,List.drop_zero];rw[←Tm.cells_eq,e5,yo h9 hs];rw[qFU]at h;refine Gets.mono h ?_
   rintro _ rfl;simp[lsR]
  ·have e1:qFR (0+acc.length) (qa acc).length=true:=by rw[qGj,qb];omega
   have e2:qFN acc.length (qa acc)=qa acc:=qFP (by simp);rw[qGp h9,cond_false,e1,e2,zG h9];exact⟨_,rfl,by simp[lsR]⟩
theorem qry{c:Tm}{b:Bool}:∀(n:Nat) (t:Tm) (acc:List Tm),t.w<=n->t.chk=0->acc.length+n<1099511627776->Gets (qpk c.kind c.num c.str (qa c.subs) acc.length b t.kind t.num t.str (qa t.subs) (qa acc)) (·=lsR (acc++(qG t).1,(qG t).2)):=by
 intro n
 induction n with
 |zero=>intro t acc h;have:=xW t;omega
 |succ n ih=>
  intro t acc hw hc hn;refine qrs _ _ _ _ _ _ _ _ _ _ _ ?_;unfold zl0 zl1 zl2 zl3 zl4 zl5 zl6 st4;rw[beqI,beqI]
  by_cases h9:t.kind=9
  ·obtain⟨x,y,hs⟩:=qbU hc h9;have hwe:=t.w_eq;rw[hs]at hwe;simp only[vC,xO]at hwe;have h:=qpv (c:=c) (b:=b) n y (acc++[x]) (by omega) (xi hc (by rw[hs];simp)) (by simp;omega);have e1:qFR (0+acc.length) (qa acc).length=true:=by rw[qGj,qb];omega
   have e2:qFN acc.length (qa acc)=qa acc:=qFP (by simp);have e3:qA (acc.length:Int) ((acc.length+1:Nat):Int)=true:=qGo (by omega);have e4:(qF2 (qa acc) [[AV.int .i64 0,.int .i64 0,.str [],.nilS]])[0+qFQ (acc.length:Int)]? =some [AV.int .i64 0,.int .i64 0,.str [],.nilS]:=by
    rw[qFT,qGi];have:=qkN (qa acc) [AV.int .i64 0,.int .i64 0,.str [],.nilS];rw[qb]at this;exact this
   have e5:List.set (qF2 (qa acc) [[AV.int .i64 0,.int .i64 0,.str [],.nilS]]) (0+qFQ (acc.length:Int)) x.cells=qa (acc++[x]):=by
    rw[qFT,qGi];have:=qkM (qa acc) [AV.int .i64 0,.int .i64 0,.str [],.nilS] x.cells;rw[qb]at this;rw[qW,qF,qO];exact this
   rw[qGo h9,cond_true,hs,lt0T,qmc,lt1T,qmb,e1,e2,xg (by omega),qv,e3,qu,e4];simp only[cond_true,qF7,qd,qf,qF3,qi,qh,xE,qGf,List.length_nil,show qFR 4 (0+1+1+1+1)=true from rfl,List.drop_succ_cons,List.drop_zero];rw[←Tm.cells_eq,e5,yo h9 hs];rw[qFU]at h;refine Gets.mono h ?_
   rintro _ rfl;simp[lsR]
  ·have e1:qFR (0+acc.length) (qa acc).length=true:=by rw[qGj,qb];omega
   have e2:qFN acc.length (qa acc)=qa acc:=qFP (by simp);rw[qGp h9,cond_false,e1,e2,zG h9];exact⟨_,rfl,by simp[lsR]⟩
theorem qnM{t:Tm}(hc:t.chk=0):EVf (EV cfg) 118 [t.av]=some (lsR (qG t)):=by
 apply Gets.get;rw[Tm.av,Tm.cells_eq];refine qtD _ _ _ _ ?_;have hw:=xX hc;have h:=qry (c:=t) (b:=false) t.w t [] (qFH _) hc (by simp;omega);rw[qO]at h;exact h
def qEz:Den:=evC cfg (EV cfg) 85 none 4 (sub (qc Tryz.f85) [0,1,1,0,0])
def qE8:Ex×List AV×AH->Option AV:=kAft (Cfg.keepOut cfg 85 (qm (sub (qc Tryz.f85) [0,1,1,0,0]))) (vm 0 (qdq (xI cfg (Cfg.lift cfg 85 0) (fun(v:AV) (H:AH)=>(fun(r:AV×AH)=>yN 0 3 (fx 40 [(3,AV.ptr 1 0 0)]) (vm 0 (kSeq (fun(fr:List AV) (H:AH)=>ve (Cfg.cut cfg 117 (qm (sub (qc Tryz.f117) [1,1,1,1]))) fr H fun(fr:List AV) (H:AH)=>qR cfg (EV cfg) (kfN cfg 6) 117 none 0 (sub (qc Tryz.f117) [1,1,1,1]) fr H (vX cfg (Cfg.lift cfg 117 0) (qGg (Func.results Tryz.f117)))) (vX cfg (Cfg.lift cfg 117 0) (qGg (Func.results Tryz.f117))))) (Prod.snd r)) (v,H)) (qGg (Func.results (Prod.snd (85,Tryz.f85)))))))
def qxx:List AV×AH->Option AV:=fun(p:List AV×AH)=>kOpt (LOOP 4 (some [0,3]) [(3,4)] qEz p) qE8
def qEy:Den:=evC cfg (EV cfg) 117 none 0 (sub (qc Tryz.f117) [1,1,1,1,1,0,1,0,0])
def qE7:Ex×List AV×AH->Option AV:=kAft (Cfg.keepOut cfg 117 11) (kRun cfg (EV cfg) (kfN cfg 6) 117 none 0 (vX cfg (Cfg.lift cfg 117 0) Tryz.f117.results.toList) ([.block 2,.seq (sub (qc Tryz.f117) [1,1,1,1,1,1])]))
def qxw:List AV×AH->Option AV:=λp=>kOpt (LOOP 0 (some [3,7,29]) ([(7,1)]) qEy p) qE7
abbrev qbc(nv3:Nat)(c0_0 c0_1:Int)(c0_2:Bz)(c0_3:Rz)(c1_0 c1_1 c2_0 c2_1:Int)(c2_2:Bz)(c2_3 h4:Rz):Option (AV):=qxx (((fx 37 [(0,.yld 3),(3,.ms 4 0 nv3)]):List AV),([.rows false 4 [[.int .i64 c0_0,.int .i64 c0_1,.str c0_2,.sl c0_3]],.rows false 2 [[.int .u64 c1_0,.int .u64 c1_1]],.rows false 4 [[.int .i64 c2_0,.int .i64 c2_1,.str c2_2,.sl c2_3]],rngB Tryz.f117 117 [1,1,1,0,1,0] (fx 40 [(3,.ptr 1 0 0)]) none LoopState.ready,.rows true 4 h4]:AH))
abbrev zS(nv3:Nat)(c0_0 c0_1:Int)(c0_2:Bz)(c0_3 h1:Rz)(c2_0 c2_1:Int)(c2_2:Bz)(c2_3 h4:Rz):Option (AV):=qxx (((fx 37 [(0,.yld 3),(3,.ms 4 0 nv3)]):List AV),([.rows false 4 [[.int .i64 c0_0,.int .i64 c0_1,.str c0_2,.sl c0_3]],.rows true 2 h1,.rows false 4 [[.int .i64 c2_0,.int .i64 c2_1,.str c2_2,.sl c2_3]],rngB Tryz.f117 117 [1,1,1,0,1,0] (fx 40 [(3,.ptr 1 0 0)]) none LoopState.ready,.rows true 4 h4]:AH))
abbrev qeH(nv7:Nat)(v29 c0_0 c0_1:Int)(h1:Rz):Option (AV):=qxw (((fx 40 [(3,.ptr 0 0 0),(7,.ms 1 0 nv7),(29,.int .i64 v29)]):List AV),([.rows false 2 [[.int .u64 c0_0,.int .u64 c0_1]],.rows true 1 h1]:AH))
abbrev qcT(nv7:Nat)(v29:Int)(h0 h1:Rz):Option (AV):=qxw (((fx 40 [(3,.ptr 0 0 0),(7,.ms 1 0 nv7),(29,.int .i64 v29)]):List AV),([.rows true 2 h0,.rows true 1 h1]:AH))
theorem qjN(n:Int)(r:List AV){P:MV×List (List AV)->Prop}(h:Gets (bif decide (n<64)then kOpt (qFG r 0) λv=>kInt .u64 v λn_1=>kOpt (qJ (Op.shift BinOp.shl .u64 1 .i64 n)) λv=>kInt .u64 v λn=>kOpt (qJ (Op.intBits BinOp.or .u64 n_1 n)) λv=>kInt .u64 v λn=>bif qFR 1 (qFI r)then some (MV.unit,[AV.int .u64 n::qGb 1 r])else none else kOpt (qFG r 1) λv=>kInt .u64 v λn_1=>kOpt (qJ (Op.shift BinOp.shl .u64 1 .i64 (qFD .i64 (n - 64)))) λv=>kInt .u64 v λn=>kOpt (qJ (Op.intBits BinOp.or .u64 n_1 n)) λv=>kInt .u64 v λn=>bif qFR 2 (qFI r)then some (MV.unit,[qF2 (qF2 (qFN 1 r) [AV.int .u64 n]) (qGb 2 r)])else none) P):Gets (EVm (EV cfg) 143 [.ptr 0 0 0,.int .i64 n] 2 [r]) P:=
  gE (λ_=>funM rfl rfl Tryz.func143 rfl) (by kernel_rfl) h
theorem qr0(kp np:Int)(sp:Bz)(lp:Rz){P:AV->Prop}(h:Gets (kOpt (EVs (EV cfg) 53 [.agg [.int .i64 kp,.int .i64 np,.str sp,.sl lp]]) λv=>qt v λb=>bif ! b then some (.sl [])else qbc 1 kp np sp lp 0 0 kp np sp lp [[AV.int .i64 kp,.int .i64 np,.str sp,.sl lp]]) P):Gets (EVf (EV cfg) 117 [.agg [.int .i64 kp,.int .i64 np,.str sp,.sl lp]]) P:=
  gE (λ_=>funF rfl rfl Tryz.func117 rfl) (by kernel_rfl) h
theorem qec(nv3:Nat)(c0_0 c0_1:Int)(c0_2:Bz)(c0_3:Rz)(c1_0 c1_1 c2_0 c2_1:Int)(c2_2:Bz)(c2_3 h4:Rz){P:AV->Prop}(h:Gets (bif decide ((↑ nv3:Int)>0)then rd4 nv3 h4 (qFD .i64 ((↑ nv3:Int) - 1)) λn n_1 s rows=>(bif qj 0 (qFD .i64 ((↑ nv3:Int) - 1))&&qj (qFD .i64 ((↑ nv3:Int) - 1)) (↑ nv3:Int)then bif n==7 then bif vP 4 rows then bif qFR (0+(qFQ (qFD .i64 ((↑ nv3:Int) - 1)) - 0)) (qFI h4)&&qI (qFQ (qFD .i64 ((↑ nv3:Int) - 1)) - 0+qFI rows) 56 then qbc (qFQ (qFD .i64 ((↑ nv3:Int) - 1)) - 0+qFI rows) c0_0 c0_1 c0_2 c0_3 c1_0 c1_1 c2_0 c2_1 c2_2 c2_3 (qF2 (qFN (qFQ (qFD .i64 ((↑ nv3:Int) - 1)) - 0) h4) rows)else none else none else bif n==9 then bif vP 4 rows then bif qFR (0+(qFQ (qFD .i64 ((↑ nv3:Int) - 1)) - 0)) (qFI h4)&&qI (qFQ (qFD .i64 ((↑ nv3:Int) - 1)) - 0+qFI rows) 56 then qbc (qFQ (qFD .i64 ((↑ nv3:Int) - 1)) - 0+qFI rows) c0_0 c0_1 c0_2 c0_3 c1_0 c1_1 c2_0 c2_1 c2_2 c2_3 (qF2 (qFN (qFQ (qFD .i64 ((↑ nv3:Int) - 1)) - 0) h4) rows)else none else none else kOpt (EVs (EV cfg) 55 [.str s]) λv=>kTup v λcs=>ql cs λc cs=>kInt .i64 c λn_2=>ql cs λc cs=>qt c λb=>kNil cs (bif b then bif n==2 then kOpt (EVm (EV cfg) 143 [.ptr 0 0 0,.int .i64 n_2] 2 [[AV.int .u64 c1_0,.int .u64 c1_1]]) λq=>q6 q.1 (zS (qFQ (qFD .i64 ((↑ nv3:Int) - 1)) - 0) c0_0 c0_1 c0_2 c0_3 q.2 c2_0 c2_1 c2_2 c2_3 h4)else qbc (qFQ (qFD .i64 ((↑ nv3:Int) - 1)) - 0) c0_0 c0_1 c0_2 c0_3 c1_0 c1_1 c2_0 c2_1 c2_2 c2_3 h4 else qbc (qFQ (qFD .i64 ((↑ nv3:Int) - 1)) - 0) c0_0 c0_1 c0_2 c0_3 c1_0 c1_1 c2_0 c2_1 c2_2 c2_3 h4)else none)else qeH 0 0 c1_0 c1_1 []) P):Gets (qbc nv3 c0_0 c0_1 c0_2 c0_3 c1_0 c1_1 c2_0 c2_1 c2_2 c2_3 h4) P:=
  gE (λ_=>qg (cfg:=cfg) (f:=85) (rd:=none) (bs:=4)) (by kernel_rfl) h
theorem qc9(nv3:Nat)(c0_0 c0_1:Int)(c0_2:Bz)(c0_3 h1:Rz)(c2_0 c2_1:Int)(c2_2:Bz)(c2_3 h4:Rz){P:AV->Prop}(h:Gets (bif decide ((↑ nv3:Int)>0)then rd4 nv3 h4 (qFD .i64 ((↑ nv3:Int) - 1)) λn n_1 s rows=>(bif qj 0 (qFD .i64 ((↑ nv3:Int) - 1))&&qj (qFD .i64 ((↑ nv3:Int) - 1)) (↑ nv3:Int)then bif n==7 then bif vP 4 rows then bif qFR (0+(qFQ (qFD .i64 ((↑ nv3:Int) - 1)) - 0)) (qFI h4)&&qI (qFQ (qFD .i64 ((↑ nv3:Int) - 1)) - 0+qFI rows) 56 then zS (qFQ (qFD .i64 ((↑ nv3:Int) - 1)) - 0+qFI rows) c0_0 c0_1 c0_2 c0_3 h1 c2_0 c2_1 c2_2 c2_3 (qF2 (qFN (qFQ (qFD .i64 ((↑ nv3:Int) - 1)) - 0) h4) rows)else none else none else bif n==9 then bif vP 4 rows then bif qFR (0+(qFQ (qFD .i64 ((↑ nv3:Int) - 1)) - 0)) (qFI h4)&&qI (qFQ (qFD .i64 ((↑ nv3:Int) - 1)) - 0+qFI rows) 56 then zS (qFQ (qFD .i64 ((↑ nv3:Int) - 1)) - 0+qFI rows) c0_0 c0_1 c0_2 c0_3 h1 c2_0 c2_1 c2_2 c2_3 (qF2 (qFN (qFQ (qFD .i64 ((↑ nv3:Int) - 1)) - 0) h4) rows)else none else none else kOpt (EVs (EV cfg) 55 [.str s]) λv=>kTup v λcs=>ql cs λc cs=>kInt .i64 c λn_2=>ql cs λc cs=>qt c λb=>kNil cs (bif b then bif n==2 then kOpt (EVm (EV cfg) 143 [.ptr 0 0 0,.int .i64 n_2] 2 h1) λq=>q6 q.1 (zS (qFQ (qFD .i64 ((↑ nv3:Int) - 1)) - 0) c0_0 c0_1 c0_2 c0_3 q.2 c2_0 c2_1 c2_2 c2_3 h4)else zS (qFQ (qFD .i64 ((↑ nv3:Int) - 1)) - 0) c0_0 c0_1 c0_2 c0_3 h1 c2_0 c2_1 c2_2 c2_3 h4 else zS (qFQ (qFD .i64 ((↑ nv3:Int) - 1)) - 0) c0_0 c0_1 c0_2 c0_3 h1 c2_0 c2_1 c2_2 c2_3 h4)else none)else qcT 0 0 h1 []) P):Gets (zS nv3 c0_0 c0_1 c0_2 c0_3 h1 c2_0 c2_1 c2_2 c2_3 h4) P:=
  gE (λ_=>qg (cfg:=cfg) (f:=85) (rd:=none) (bs:=4)) (by kernel_rfl) h
theorem qjD(nv7:Nat)(v29 c0_0 c0_1:Int)(h1:Rz){P:AV->Prop}(h:Gets (bif decide (v29<100)then kOpt (EVs (EV cfg) 144 [AV.cptr [AV.int .u64 c0_0,.int .u64 c0_1] 0,.int .i64 v29]) λv=>qt v λb=>bif b then bif qFR (0+nv7) (qFI h1)&&qI (nv7+1) 8 then qeH (nv7+1) (qFD .i64 (v29+1)) c0_0 c0_1 (qF2 (qFN nv7 h1) [[AV.int .i64 v29]])else none else qeH nv7 (qFD .i64 (v29+1)) c0_0 c0_1 h1 else bif qFR (0+nv7) (qFI h1)&&true then some (.sl (qFN nv7 h1))else none) P):Gets (qeH nv7 v29 c0_0 c0_1 h1) P:=
  gE (λ_=>qg (cfg:=cfg) (f:=117) (rd:=none) (bs:=0)) (by kernel_rfl) h
theorem qgJ(nv7:Nat)(v29:Int)(h0 h1:Rz){P:AV->Prop}(h:Gets (bif decide (v29<100)then kOpt (qFG h0 0) λrow=>bif qK 0 row then bif qK 0 [AV.cptr row 0,.int .i64 v29]then kOpt (EVs (EV cfg) 144 [AV.cptr row 0,.int .i64 v29]) λv=>qt v λb=>bif b then bif qFR (0+nv7) (qFI h1)&&qI (nv7+1) 8 then qcT (nv7+1) (qFD .i64 (v29+1)) h0 (qF2 (qFN nv7 h1) [[AV.int .i64 v29]])else none else qcT nv7 (qFD .i64 (v29+1)) h0 h1 else none else none else bif qFR (0+nv7) (qFI h1)&&true then some (.sl (qFN nv7 h1))else none) P):Gets (qcT nv7 v29 h0 h1) P:=
  gE (λ_=>qg (cfg:=cfg) (f:=117) (rd:=none) (bs:=0)) (by kernel_rfl) h
end Go.Proofs.YtgleolmhpmljhaaGreat
end
noncomputable section
namespace Go.Av
def zb(q:Nat->Bool):AV:=.sl (qC (((qGn 100).filter q).map Int.ofNat))
theorem xK:∀l:List Tm,l.length<=wL l
 |[]=>qFH _
 |t::l=>by rw[vC,qGf];have:=xW t;have:=xK l;omega
theorem qsS:qdD (λ_=>false) [.int .u64 0,.int .u64 0]:=⟨0,0,[],rfl,by decide,by decide,λn _=>Nat.zero_testBit n,λn _=>Nat.zero_testBit n⟩
theorem qbf(x:Tm):vP 4 (qa x.subs)=true:=yV _
end Go.Av
namespace Go.Proofs.YtgleolmhpmljhaaGreat
open Go.Av
theorem qlk{p:Nat->Bool}{r:List AV}(h:qdD p r){n:Nat}(hn:n<100):∃r',EVm (EV cfg) 143 [.ptr 0 0 0,.int .i64 n] 2 [r]=some (.unit,[r']) ∧
  qdD (λi=>p i||decide (i=n)) r'∧r'.drop 2=r.drop 2∧r'.length=r.length∧(qK 0 r=true->qK 0 r'=true):=by
 obtain⟨lo,hi,l,rfl,h1,h2,h3,h4⟩:=h;have pw:∀{k:Nat},k<64->2 ^ k<18446744073709551616:=by
  intro k hk;have:2 ^ k<2 ^ 64:=Nat.pow_lt_pow_right (by omega) hk
  simpa using this
 have orlt:∀{a b:Nat},a<18446744073709551616->b<18446744073709551616->a ||| b<18446744073709551616:=by
  intro a b ha hb;have:=Nat.or_lt_two_pow (n:=64) (by simpa using ha) (by simpa using hb)
  simpa using this
 have bit:∀{a k i:Nat},(a ||| 2 ^ k).testBit i=(a.testBit i||decide (i=k)):=by
  intro a k i;rw[Nat.testBit_or,Nat.testBit_two_pow]
  congr 1
  exact decide_eq_decide.2 ⟨λh=>h.symm,λh=>h.symm⟩
 by_cases hs:n<64
 ·refine⟨.int .u64 ((lo ||| 2 ^ n:Nat):Int):: .int .u64 hi::l,?_,⟨_,hi,l,rfl,orlt h1 (pw hs),h2,λi hi=>?_,λi hi=>?_⟩,rfl,rfl,λh=>h⟩
  ·apply Gets.get;refine qjN _ _ ?_;rw[qGo (show(n:Int)<64 by omega)];simp only[cond_true,qu,List.getElem?_cons_zero,qd,qe,qm8 hs,qsV h1 (pw hs)];exact⟨_,rfl,rfl⟩
  ·rw[bit,h3 i hi]
  ·have:decide (i+64=n)=false:=qGp (by omega);rw[h4 i hi];show p (i+64)=(p (i+64)||decide (i+64=n));rw[this,Bool.or_false]
 ·obtain⟨k,rfl⟩:∃k,n=k+64:=⟨n - 64,by omega⟩;have hk:k<64:=by omega
  have w:qFD .i64 (((k+64:Nat):Int) - 64)=(k:Int):=by rw[qo (by omega) (by omega)];omega
  refine⟨.int .u64 lo:: .int .u64 ((hi ||| 2 ^ k:Nat):Int)::l,?_,⟨lo,_,l,rfl,h1,orlt h2 (pw hk),λi hi=>?_,λi hi=>?_⟩,rfl,rfl,λh=>h⟩
  ·apply Gets.get;refine qjN _ _ ?_;rw[qGp (show ¬((k+64:Nat):Int)<64 by omega),w];simp only[cond_false,qu,List.getElem?_cons_succ,List.getElem?_cons_zero,qd,qe,qm8 hk,qsV h2 (pw hk)];exact⟨_,rfl,rfl⟩
  ·have:decide (i=k+64)=false:=qGp (by omega);rw[h3 i hi];show p i=(p i||decide (i=k+64));rw[this,Bool.or_false]
  ·rw[bit,h4 i hi]
   congr 1
   exact decide_eq_decide.2 (by omega)
theorem qpn{q:Nat->Bool}{s:List AV}(h:qdD q s)(h2:s.length=2):Gets (qcT 0 0 [s] []) (·=zb q):=by
 have hf:qK 0 s=true:=by
  obtain⟨lo,hi,l,rfl,_⟩:=h;cases l with
  |nil=>rfl
  |cons a l=>simp at h2
 have hg:∀n:Int,qK 0 [AV.cptr s 0,.int .i64 n]=true:=by
  intro n;obtain⟨lo,hi,l,rfl,_⟩:=h;cases l with
  |nil=>rfl
  |cons a l=>simp at h2
 have loop:∀d i:Nat,i+d=100->Gets (qcT ((qGn i).filter q).length i [s] (qC (((qGn i).filter q).map Int.ofNat))) (·=zb q):=by
  intro d
  induction d with
  |zero=>
   intro i hi;obtain rfl:i=100:=by omega
   refine qgJ _ _ _ _ ?_;have e1:qFR (0+((qGn 100).filter q).length) (qC (((qGn 100).filter q).map Int.ofNat)).length=true:=by rw[qGj,vH,List.length_map];omega
   have e2:qFN ((qGn 100).filter q).length (qC (((qGn 100).filter q).map Int.ofNat))=qC (((qGn 100).filter q).map Int.ofNat):=qFP (by rw[vH,List.length_map];exact qFH _);rw[show decide (((100:Nat):Int)<100)=false from rfl,e1,e2];exact⟨_,rfl,rfl⟩
  |succ d ih=>
   intro i hi;have h1:=ih (i+1) (by omega);rw[List.range_succ,List.filter_append]at h1;refine qgJ _ _ _ _ ?_;have hle:((qGn i).filter q).length<=i:=by have:=List.length_filter_le q (qGn i);rw[List.length_range]at this;exact this
   have e1:qFR (0+((qGn i).filter q).length) (qC (((qGn i).filter q).map Int.ofNat)).length=true:=by rw[qGj,vH,List.length_map];omega
   have e2:qFN ((qGn i).filter q).length (qC (((qGn i).filter q).map Int.ofNat))=qC (((qGn i).filter q).map Int.ofNat):=qFP (by rw[vH,List.length_map];exact qFH _);have e3:qFD .i64 ((i:Int)+1)=((i+1:Nat):Int):=by rw[qo (by omega) (by omega)];omega
   rw[qGo (show(i:Int)<100 by omega),qu,List.getElem?_cons_zero,e1,e2,e3,qmk (by omega)];simp only[cond_true,qd,qp,hf,hg,qF7,qnO h (show i<100 by omega)];cases hq:q i with
   |true=>
    rw[List.filter_cons_of_pos hq,List.filter_nil,List.map_append,qFU]at h1;rw[cond_true];have e4:qC (((qGn i).filter q).map Int.ofNat++[i].map Int.ofNat)=qF2 (qC (((qGn i).filter q).map Int.ofNat)) [[AV.int .i64 i]]:=by
     unfold qC;rw[List.map_append];rfl
    rw[e4]at h1;exact h1
   |false=>
    rw[List.filter_cons_of_neg (by rw[hq];decide),List.filter_nil,qGh]at h1;rw[cond_false];exact h1
 exact loop 100 0 rfl
theorem qnH:Gets (qeH 0 0 0 0 []) (·=zb λi=>([]:List Tm).any (vU (i:Nat))):=by
 have loop:∀d i:Nat,i+d=100->Gets (qeH 0 i 0 0 []) (·=zb λi=>([]:List Tm).any (vU (i:Nat))):=by
  intro d
  induction d with
  |zero=>
   intro i hi;obtain rfl:i=100:=by omega
   refine qjD _ _ _ _ _ ?_;rw[show decide (((100:Nat):Int)<100)=false from rfl];exact⟨_,rfl,rfl⟩
  |succ d ih=>
   intro i hi;refine qjD _ _ _ _ _ ?_;have e3:qFD .i64 ((i:Int)+1)=((i+1:Nat):Int):=by rw[qo (by omega) (by omega)];omega
   rw[qGo (show(i:Int)<100 by omega),qnO qsS (show i<100 by omega),e3];simp only[cond_true,qd,qp,cond_false];exact ih (i+1) (by omega)
 exact loop 100 0 rfl
theorem qtx{p:Tm}:∀(n:Nat) (R:List Tm) (h4:List (List AV)) (s:List AV) (q:Nat->Bool),wL R<=n->n<1099511627776->R.length<=h4.length->h4.take R.length=qa R->qdD q s->s.length=2-> 
  Gets (zS R.length p.kind p.num p.str (qa p.subs) [s] p.kind p.num p.str (qa p.subs) h4) (·=zb λi=>q i||R.any (vU (i:Nat))):=by
 intro n
 induction n with
 |zero=>
  intro R h4 s q hw hn hl ht hs hs2;have hR:R=[]:=by
   cases R with
   |nil=>rfl
   |cons x l=>rw[vC]at hw;have:=xW x;omega
  subst hR;refine qc9 _ _ _ _ _ _ _ _ _ _ _ ?_;unfold rd4;have:decide (((([]:List Tm).length:Nat):Int)>0)=false:=rfl;rw[this,cond_false];exact qpn (by simpa using hs) hs2
 |succ n ih=>
  intro R h4 s q hw hn hl ht hs hs2;rcases List.eq_nil_or_concat R with rfl|⟨R',x,hR⟩
  ·refine qc9 _ _ _ _ _ _ _ _ _ _ _ ?_;unfold rd4;have:decide (((([]:List Tm).length:Nat):Int)>0)=false:=rfl;rw[this,cond_false];exact qpn (by simpa using hs) hs2
  ·obtain rfl:R=R'++[x]:=by rw[hR];simp
   clear hR;rw[ya,vC,xO]at hw;have hx:=xW x;have hwe:=x.w_eq;have hRl:=xK R';rw[qFU,List.length_singleton]at hl ht⊢;refine qc9 _ _ _ _ _ _ _ _ _ _ _ ?_;unfold rd4;have g0:decide (((R'.length+1:Nat):Int)>0)=true:=qGo (by omega);have g1:qFD .i64 (((R'.length+1:Nat):Int) - 1)=(R'.length:Int):=by rw[qo (by omega) (by omega)];omega
   have g2:qA (R'.length:Int) ((R'.length+1:Nat):Int)=true:=qGo (by omega);have g3:qj (R'.length:Int) ((R'.length+1:Nat):Int)=true:=qGo (by omega);have g4:h4[R'.length]? =some x.cells:=by
    have:(h4.take (R'.length+1))[R'.length]? =some x.cells:=by
     rw[ht,xy];simp
    rwa [List.getElem?_take,qGq (by omega)]at this
   have g5:h4.take R'.length=qa R':=by
    have:(h4.take (R'.length+1)).take R'.length=qa R':=by
     rw[ht,qW];exact List.take_left' (qb R')
    rwa [List.take_take,Nat.min_eq_left (by omega)]at this
   have g6:qFR (0+R'.length) h4.length=true:=by rw[qGj];omega
   rw[g0,g1,qv,g2,g3,qu,qFT,qGi,g4,Nat.sub_zero];simp only[cond_true,qF7,qd,qf,qi,qh,xE,qb,g5,qbf];have push:(x.kind=7∨x.kind=9)->Gets (zS (R'.length+x.subs.length) p.kind p.num p.str (qa p.subs) [s] p.kind p.num p.str (qa p.subs) (qF2 (qa R') (qa x.subs))) (·=zb λi=>q i||(R'++[x]).any (vU (i:Nat))):=by
    intro hk;have hl:=xK x.subs;have h:=ih (R'++x.subs) (qa (R'++x.subs)) s q (by rw[ya];omega) (by omega) (by rw[qb];exact qFH _) (qFP (by simp)) hs hs2;rw[qFU]at h;rw[show qF2 (qa R') (qa x.subs)=qa (R'++x.subs)from(qW _ _).symm];refine Gets.mono h ?_;rintro _ rfl;apply congrArg zb
    funext i
    rw[List.any_append,List.any_append,List.any_cons,List.any_nil,Bool.or_false,zh _ x,qGq hk]
   have drop:(¬(x.kind=7∨x.kind=9))->¬(x.kind=2∧(varG x.str).isSome)->Gets (zS R'.length p.kind p.num p.str (qa p.subs) [s] p.kind p.num p.str (qa p.subs) h4) (·=zb λi=>q i||(R'++[x]).any (vU (i:Nat))):=by
    intro hk hv;refine Gets.mono (ih R' h4 s q (by omega) (by omega) (by omega) g5 hs hs2) ?_;rintro _ rfl;apply congrArg zb
    funext i
    have:vU (i:Nat) x=false:=by
     rw[zh,qGr hk]
     by_cases h2:x.kind=2
     ·rw[qGo h2,qGm,qGp];intro h;exact hv ⟨h2,by rw[h];rfl⟩
     ·rw[qGp h2,Bool.false_and]
    rw[List.any_append,List.any_cons,List.any_nil,this,Bool.or_false,Bool.or_false]
   rw[beqI,beqI,beqI,qbi,g6]
   by_cases h7:x.kind=7
   ·rw[qGo h7];simp only[cond_true,qGm,xg (show R'.length+x.subs.length<=1099511627776 by have:=xK x.subs;omega)];exact push (.inl h7)
   rw[qGp h7,cond_false]
   by_cases h9:x.kind=9
   ·rw[qGo h9];simp only[cond_true,qGm,xg (show R'.length+x.subs.length<=1099511627776 by have:=xK x.subs;omega)];exact push (.inr h9)
   rw[qGp h9,cond_false];have hk:¬(x.kind=7∨x.kind=9):=by omega
   unfold varR;simp only[qd,kTup,ql,qe,qp,kNil];cases hv:varG x.str with
   |none=>
    rw[hv]at drop;exact drop hk (by simp)
   |some v=>
    by_cases h2:x.kind=2
    ·rw[qGo h2];obtain⟨hv0,hv9⟩:=qiJ hv;obtain⟨m,rfl⟩:∃m:Nat,v=m:=⟨v.toNat,by omega⟩;obtain⟨r',hr1,hr2,hr3,hr4,hr5⟩:=qlk hs (n:=m) (by omega);simp only[Option.getD_some,Option.isSome_some,cond_true,hr1,qd,q6];refine Gets.mono (ih R' h4 r' _ (by omega) (by omega) (by omega) g5 hr2 (by rw[hr4];exact hs2)) ?_;rintro _ rfl;apply congrArg zb
     funext i
     have:vU (i:Nat) x=decide (i=m):=by
      rw[zh,qGr hk,qGo h2,qGm,hv];exact decide_eq_decide.2 ⟨λh=>by cases h;rfl,λh=>by rw[h]⟩
     rw[List.any_append,List.any_cons,List.any_nil,this,Bool.or_false];cases q i<;>cases decide (i=m)<;>cases R'.any (vU (i:Nat))<;>rfl
    ·rw[qGp h2];exact drop hk (λh=>h2 h.1)
theorem qvB{p:Tm}:∀(n:Nat) (R:List Tm) (h4:List (List AV)),wL R<=n->n<1099511627776->R.length<=h4.length->h4.take R.length=qa R-> 
  Gets (qbc R.length p.kind p.num p.str (qa p.subs) 0 0 p.kind p.num p.str (qa p.subs) h4) (·=zb λi=>R.any (vU (i:Nat))):=by
 intro n
 induction n with
 |zero=>
  intro R h4 hw hn hl ht ;have hR:R=[]:=by
   cases R with
   |nil=>rfl
   |cons x l=>rw[vC]at hw;have:=xW x;omega
  subst hR;refine qec _ _ _ _ _ _ _ _ _ _ _ _ ?_;unfold rd4;have:decide (((([]:List Tm).length:Nat):Int)>0)=false:=rfl;rw[this,cond_false];exact qnH
 |succ n ih=>
  intro R h4 hw hn hl ht ;rcases List.eq_nil_or_concat R with rfl|⟨R',x,hR⟩
  ·refine qec _ _ _ _ _ _ _ _ _ _ _ _ ?_;unfold rd4;have:decide (((([]:List Tm).length:Nat):Int)>0)=false:=rfl;rw[this,cond_false];exact qnH
  ·obtain rfl:R=R'++[x]:=by rw[hR];simp
   clear hR;rw[ya,vC,xO]at hw;have hx:=xW x;have hwe:=x.w_eq;have hRl:=xK R';rw[qFU,List.length_singleton]at hl ht⊢;refine qec _ _ _ _ _ _ _ _ _ _ _ _ ?_;unfold rd4;have g0:decide (((R'.length+1:Nat):Int)>0)=true:=qGo (by omega);have g1:qFD .i64 (((R'.length+1:Nat):Int) - 1)=(R'.length:Int):=by rw[qo (by omega) (by omega)];omega
   have g2:qA (R'.length:Int) ((R'.length+1:Nat):Int)=true:=qGo (by omega);have g3:qj (R'.length:Int) ((R'.length+1:Nat):Int)=true:=qGo (by omega);have g4:h4[R'.length]? =some x.cells:=by
    have:(h4.take (R'.length+1))[R'.length]? =some x.cells:=by
     rw[ht,xy];simp
    rwa [List.getElem?_take,qGq (by omega)]at this
   have g5:h4.take R'.length=qa R':=by
    have:(h4.take (R'.length+1)).take R'.length=qa R':=by
     rw[ht,qW];exact List.take_left' (qb R')
    rwa [List.take_take,Nat.min_eq_left (by omega)]at this
   have g6:qFR (0+R'.length) h4.length=true:=by rw[qGj];omega
   rw[g0,g1,qv,g2,g3,qu,qFT,qGi,g4,Nat.sub_zero];simp only[cond_true,qF7,qd,qf,qi,qh,xE,qb,g5,qbf];have push:(x.kind=7∨x.kind=9)->Gets (qbc (R'.length+x.subs.length) p.kind p.num p.str (qa p.subs) 0 0 p.kind p.num p.str (qa p.subs) (qF2 (qa R') (qa x.subs))) (·=zb λi=>(R'++[x]).any (vU (i:Nat))):=by
    intro hk;have hl:=xK x.subs;have h:=ih (R'++x.subs) (qa (R'++x.subs)) (by rw[ya];omega) (by omega) (by rw[qb];exact qFH _) (qFP (by simp)) ;rw[qFU]at h;rw[show qF2 (qa R') (qa x.subs)=qa (R'++x.subs)from(qW _ _).symm];refine Gets.mono h ?_;rintro _ rfl;apply congrArg zb
    funext i
    rw[List.any_append,List.any_append,List.any_cons,List.any_nil,Bool.or_false,zh _ x,qGq hk]
   have drop:(¬(x.kind=7∨x.kind=9))->¬(x.kind=2∧(varG x.str).isSome)->Gets (qbc R'.length p.kind p.num p.str (qa p.subs) 0 0 p.kind p.num p.str (qa p.subs) h4) (·=zb λi=>(R'++[x]).any (vU (i:Nat))):=by
    intro hk hv;refine Gets.mono (ih R' h4 (by omega) (by omega) (by omega) g5 ) ?_;rintro _ rfl;apply congrArg zb
    funext i
    have:vU (i:Nat) x=false:=by
     rw[zh,qGr hk]
     by_cases h2:x.kind=2
     ·rw[qGo h2,qGm,qGp];intro h;exact hv ⟨h2,by rw[h];rfl⟩
     ·rw[qGp h2,Bool.false_and]
    rw[List.any_append,List.any_cons,List.any_nil,this,Bool.or_false,Bool.or_false]
   rw[beqI,beqI,beqI,qbi,g6]
   by_cases h7:x.kind=7
   ·rw[qGo h7];simp only[cond_true,qGm,xg (show R'.length+x.subs.length<=1099511627776 by have:=xK x.subs;omega)];exact push (.inl h7)
   rw[qGp h7,cond_false]
   by_cases h9:x.kind=9
   ·rw[qGo h9];simp only[cond_true,qGm,xg (show R'.length+x.subs.length<=1099511627776 by have:=xK x.subs;omega)];exact push (.inr h9)
   rw[qGp h9,cond_false];have hk:¬(x.kind=7∨x.kind=9):=by omega
   unfold varR;simp only[qd,kTup,ql,qe,qp,kNil];cases hv:varG x.str with
   |none=>
    rw[hv]at drop;exact drop hk (by simp)
   |some v=>
    by_cases h2:x.kind=2
    ·rw[qGo h2];obtain⟨hv0,hv9⟩:=qiJ hv;obtain⟨m,rfl⟩:∃m:Nat,v=m:=⟨v.toNat,by omega⟩;obtain⟨r',hr1,hr2,hr3,hr4,hr5⟩:=qlk qsS (n:=m) (by omega);simp only[Option.getD_some,Option.isSome_some,cond_true,hr1,qd,q6];refine Gets.mono (qtx n R' h4 r' _ (by omega) (by omega) (by omega) g5 hr2 (by rw[hr4];rfl)) ?_;rintro _ rfl;apply congrArg zb
     funext i
     have:vU (i:Nat) x=decide (i=m):=by
      rw[zh,qGr hk,qGo h2,qGm,hv];exact decide_eq_decide.2 ⟨λh=>by cases h;rfl,λh=>by rw[h]⟩
     rw[List.any_append,List.any_cons,List.any_nil,this,Bool.or_false];cases decide (i=m)<;>cases R'.any (vU (i:Nat))<;>rfl
    ·rw[qGp h2];exact drop hk (λh=>h2 h.1)
theorem qt9{t:Tm}(h:t.w<1099511627776):EVf (EV cfg) 117 [t.av]=some (.sl (qC (yJ t))):=by
 have hm:=qdP h;apply Gets.get;rw[Tm.av,Tm.cells_eq]at hm⊢;refine qr0 _ _ _ _ ?_;rw[hm];simp only[qd,qp];unfold yJ
 by_cases hc:t.chk=0
 ·rw[qGo hc,qGq hc];have hl:=qvB (p:=t) t.w [t] [t.cells] (by rw[vC,xO];exact qFH _) h (qFH _) rfl;rw[Tm.cells_eq]at hl;refine Gets.mono hl ?_;rintro _ rfl;unfold zb;have:(λi:Nat=>[t].any (vU (i:Nat)))=λi:Nat=>vU (i:Nat) t:=by funext i;simp
  rw[this]
 ·rw[qGp hc,qGr hc];exact⟨_,rfl,rfl⟩
def qxC:Den:=evC cfg (EV cfg) 31 none 0 (sub (qc Tryz.f31) [1,0,1,1,0,0,0])
def qxK:Ex×List AV×AH->Option AV:=kAft (Cfg.keepOut cfg 31 2) (kRun cfg (EV cfg) (kfN cfg 6) 31 none 0 (vM cfg (Cfg.lift cfg 31 0) Tryz.f31.results.toList) ([.block 0,.seq (sub (qc Tryz.f31) [1,0,1,1,1]),.scope]))
def qDY:List AV×AH->Option AV:=λp=>kOpt (LOOP 0 (some [5]) ([(5,8)]) qxC p) qxK
def qEo:Den:=evC cfg (EV cfg) 31 none 0 (sub (qc Tryz.f31) [1,0,1,1,0,0,0,1,0,1,1,1,1,1,0,0])
def qEX:Ex×List AV×AH->Option AV:=kAft (Cfg.keepOut cfg 31 9) (kRun cfg (EV cfg) (kfN cfg 6) 31 none 0 (kLp 0 (some [5]) ([(5,8)]) qxC qxK) ([.block 2,.block 1]))
def qDX:List AV×AH->Option AV:=λp=>kOpt (LOOP 0 (some [5,6,70,71]) ([(5,8)]) qEo p) qEX
abbrev qez(nv5:Nat)(h0:Rz):Option (AV):=qDY (((fx 91 [(5,.ms 0 0 nv5)]):List AV),([.rows true 8 h0]:AH))
abbrev qk3(rows:Rz)(nv5:Nat)(v71:Int)(h0:Rz)(c1_0 c1_1:Int)(c1_2:Bz)(c1_3:Rz)(c1_4 c1_5:Int)(c1_6:Bz)(c1_7:Rz):Option (AV):=qDX (((fx 91 [(5,.ms 0 0 nv5),(6,.ptr 1 0 0),(70,.int .i64 (rows.length:Int)),(71,.int .i64 v71)]):List AV),([.rows true 8 h0,.rows false 8 [[.int .i64 c1_0,.int .i64 c1_1,.str c1_2,.sl c1_3,.int .i64 c1_4,.int .i64 c1_5,.str c1_6,.sl c1_7]]]:AH))
theorem qos(ka na:Int)(sa:Bz)(la:Rz)(kb nb:Int)(sb:Bz)(lb:Rz){P:AV->Prop}(h:Gets (qez 1 [[.int .i64 ka,.int .i64 na,.str sa,.sl la,.int .i64 kb,.int .i64 nb,.str sb,.sl lb]]) P):Gets (EVs (EV cfg) 31 [.agg [.int .i64 ka,.int .i64 na,.str sa,.sl la],.agg [.int .i64 kb,.int .i64 nb,.str sb,.sl lb]]) P:=
  gE (λ_=>funS rfl rfl Tryz.func31 rfl) (by kernel_rfl) h
theorem qea(nv5:Nat)(h0:Rz){P:AV->Prop}(h:Gets (bif decide ((↑ nv5:Int)>0)then bif qj 0 (qFD .i64 ((↑ nv5:Int) - 1))&&qA (qFD .i64 ((↑ nv5:Int) - 1)) (↑ nv5:Int)then kOpt (qFG h0 (0+qFQ (qFD .i64 ((↑ nv5:Int) - 1)))) λrow=>bif qFR 8 (qFI row)then ql (qFN 8 row) λc cs=>kInt .i64 c λn=>ql cs λc cs=>kInt .i64 c λn_1=>ql cs λc cs=>kStr c λs=>ql cs λc cs=>kSl c λrows=>kTmC cs λn_2 n_3 s_1 rows_1=>(bif qj 0 (qFD .i64 ((↑ nv5:Int) - 1))&&qj (qFD .i64 ((↑ nv5:Int) - 1)) (↑ nv5:Int)then bif n != n_2 then some (.bool false)else bif n_1 != n_3 then some (.bool false)else bif ! s==s_1 then some (.bool false)else bif(rows.length:Int) != (rows_1.length:Int)then some (.bool false)else bif(rows.length:Int)==0 then qez (qFQ (qFD .i64 ((↑ nv5:Int) - 1)) - 0) h0 else qk3 rows (qFQ (qFD .i64 ((↑ nv5:Int) - 1)) - 0) 0 h0 n n_1 s rows n_2 n_3 s_1 rows_1 else none)else none else none else some (.bool true)) P):Gets (qez nv5 h0) P:=
  gE (λ_=>qg (cfg:=cfg) (f:=31) (rd:=none) (bs:=0)) (by kernel_rfl) h
theorem qjv(rows:Rz)(nv5:Nat)(v71:Int)(h0:Rz)(c1_0 c1_1:Int)(c1_2:Bz)(c1_3:Rz)(c1_4 c1_5:Int)(c1_6:Bz)(c1_7:Rz){P:AV->Prop}(h:Gets (bif decide (v71<(rows.length:Int))then rs4 c1_3 v71 λn n_1 s rows_1=>(rs4 c1_7 v71 λn_2 n_3 s_1 rows_2=>(bif qFR (0+nv5) (qFI h0)&&qI (nv5+1) 112 then qk3 rows (nv5+1) (qFD .i64 (v71+1)) (qF2 (qFN nv5 h0) [[.int .i64 n,.int .i64 n_1,.str s,.sl rows_1,.int .i64 n_2,.int .i64 n_3,.str s_1,.sl rows_2]]) c1_0 c1_1 c1_2 c1_3 c1_4 c1_5 c1_6 c1_7 else none))else qez nv5 h0) P):Gets (qk3 rows nv5 v71 h0 c1_0 c1_1 c1_2 c1_3 c1_4 c1_5 c1_6 c1_7) P:=
  gE (λ_=>qg (cfg:=cfg) (f:=31) (rd:=none) (bs:=0)) (by kernel_rfl) h
end Go.Proofs.YtgleolmhpmljhaaGreat
end
noncomputable section
namespace Go.Av
def xQ(R:List (Tm×Tm)):List (List AV):=R.map λp=>p.1.cells++p.2.cells
theorem qcG(R:List (Tm×Tm)):(xQ R).length=R.length:=by simp[xQ]
theorem qgi(R S:List (Tm×Tm)):xQ (R++S)=xQ R++xQ S:=by simp[xQ]
theorem que(R:List (Tm×Tm))(i:Nat):(xQ R)[i]? =(R[i]?).map λp=>p.1.cells++p.2.cells:=by simp[xQ]
theorem qvx:∀(a b:List Tm),a.length=b.length->((∀p∈a.zip b,p.1=p.2)↔a=b)
 |[],[],_=>by simp
 |x::a,y::b,h=>by
  have:=qvx a b (by simpa using h);simp only[List.zip_cons_cons,qF6,forall_eq_or_imp,List.cons.injEq,this]
 |[],_::_,h=>by simp at h
 |_::_,[],h=>by simp at h
end Go.Av
namespace Go.Proofs.YtgleolmhpmljhaaGreat
open Go.Av
theorem qAX{n:Nat}(h:n<=1099511627776):qI n 112=true:=by
 unfold qI;rw[qFJ,qGj,qGj];omega
theorem qnP{x y:Tm}(hxy:x.subs.length=y.subs.length)(hx:x.subs.length<1099511627776){P:AV->Prop}:∀(d i:Nat) (R:List (Tm×Tm)) (Z:List (List AV)),i+d=x.subs.length->R.length+d<1099511627776->(d=0->Z=[]) ->
  Gets (qez (R++(x.subs.zip y.subs).drop i).length (xQ (R++(x.subs.zip y.subs).drop i))) P ->
  Gets (qk3 (qa x.subs) R.length i (xQ R++Z) x.kind x.num x.str (qa x.subs) y.kind y.num y.str (qa y.subs)) P
 |0,i,R,Z,hi,_,hz,h=>by
  refine qjv _ _ _ _ _ _ _ _ _ _ _ _ ?_;unfold rs4;obtain rfl:=hz rfl;rw[qFV (by simp;omega)]at h;simp at h;have:¬i<x.subs.length:=by omega
  simpa [this]using h
 |d+1,i,R,Z,hi,hR,_,h=>by
  refine qjv _ _ _ _ _ _ _ _ _ _ _ _ ?_;unfold rs4;have h1:i<x.subs.length:=by omega
  have h2:i<y.subs.length:=by omega
  have hzl:i<(x.subs.zip y.subs).length:=by simp;omega
  have hd:(x.subs.zip y.subs).drop i=(x.subs[i],y.subs[i])::(x.subs.zip y.subs).drop (i+1):=by
   rw[qFS hzl,List.getElem_zip]
  have ih:=qnP hxy hx (P:=P) d (i+1) (R++[(x.subs[i],y.subs[i])]) [] (by omega) (by simp;omega) (λ_=>rfl) (by
   rw[hd]at h
   simpa using h)
  have ht:qFN R.length (xQ R++Z)=xQ R:=by rw[List.take_append_of_le_length (by rw[qcG];exact qFH _),qFP (by rw[qcG];exact qFH _)]
  have hp:xQ (R++[(x.subs[i],y.subs[i])])=xQ R++[x.subs[i].cells++y.subs[i].cells]:=by rw[qgi];rfl
  have hw:=qo5 h1 hx;rw[qGh,hp]at ih;simp[h1,h2,hw,qAX (show R.length+1<=1099511627776 by omega),ht,qcG]at ih⊢;rw[Tm.cells_eq x.subs[i]]at ih;exact ih
theorem qDo:∀(n:Nat) (R:List (Tm×Tm)) (Z:List (List AV)),wL (R.map Prod.fst)<=n->n<1099511627776 ->
  Gets (qez R.length (xQ R++Z)) (qcQ (∀p∈R,p.1=p.2)):=by
 intro n
 induction n with
 |zero=>
  intro R Z hn _;have:R=[]:=by
   have:=yf (R.map Prod.fst);exact List.length_eq_zero_iff.1 (by simp at this;omega)
  subst this;refine qea _ _ ?_;simp[ym]
 |succ n ih=>
  intro R Z hn hN;rcases List.eq_nil_or_concat R with rfl|⟨R0,p,rfl⟩
  ·refine qea _ _ ?_;simp[ym]
  ·rw[List.concat_eq_append]at *;obtain⟨x,y⟩:=p;have hwx:=x.w_eq;simp only[List.map_append,List.map_cons,List.map_nil,ya,vC,xO]at hn;have hl0:=yf (R0.map Prod.fst);rw[List.length_map]at hl0;have hls:=yf x.subs;refine qea _ _ ?_;have e1:(R0++[(x,y)]).length=R0.length+1:=by simp
   have hw1:qFD .i64 (R0.length:Int)=R0.length:=qz5 (by omega);have g:(xQ (R0++[(x,y)])++Z)[R0.length]? =some (.int .i64 x.kind:: .int .i64 x.num:: .str x.str:: .sl (qa x.subs)::y.cells):=by
    rw[qFX (by rw[qcG];simp),que];simp;rw[Tm.cells_eq x];rfl
   have e3:xQ (R0++[(x,y)])++Z=xQ R0++((x.cells++y.cells)::Z):=by rw[qgi,qGl];rfl
   have hq:(∀p∈R0++[(x,y)],p.1=p.2)↔((∀p∈R0,p.1=p.2)∧x=y):=by simp[or_imp,forall_and]
   have hxy:x=y↔(x.kind=y.kind∧x.num=y.num∧x.str=y.str∧x.subs=y.subs):=by
    constructor
    ·rintro rfl;exact⟨rfl,rfl,rfl,rfl⟩
    ·rintro⟨h1,h2,h3,h4⟩;rw[←Tm.eta x,←Tm.eta y,h1,h2,h3,h4]
   rw[propext hq];have hno:¬(x.kind=y.kind∧x.num=y.num∧x.str=y.str∧x.subs=y.subs)->qcQ ((∀p∈R0,p.1=p.2)∧x=y) (.bool false):=λh=>ym.2 ⟨λe=>(by cases e),λh'=>absurd (hxy.1 h'.2) h⟩
   simp only[e3]at g⊢;simp[e1,hw1,g]
   by_cases h1:x.kind=y.kind
   ·by_cases h2:x.num=y.num
    ·by_cases h3:x.str=y.str
     ·by_cases h4:x.subs.length=y.subs.length
      ·have hsub:(∀p∈x.subs.zip y.subs,p.1=p.2)↔x=y:=by
        rw[qvx _ _ h4,hxy];simp[h1,h2,h3]
       have c1:(x.kind != y.kind)=false:=by simp[h1]
       have c2:(x.num != y.num)=false:=by simp[h2]
       have c3:(x.str==y.str)=true:=by simp[h3]
       have c4:((x.subs.length:Int) != (y.subs.length:Int))=false:=by simp[h4]
       have eall:(∀(a b:Tm),(a,b)∈R0->a=b)↔(∀p∈R0,p.1=p.2):=⟨λh p hp=>h p.1 p.2 hp,λh a b hp=>h (a,b) hp⟩;rw[c1,c2,c3,c4];simp only[cond_false,cond_true];rcases Nat.eq_zero_or_pos x.subs.length with hz|hp
       ·have hr:=ih R0 ((x.cells++y.cells)::Z) (by omega) (by omega);have hx0:x.subs=[]:=List.length_eq_zero_iff.1 hz;have hxy':x=y:=hsub.1 (by rw[hx0];simp);have c5:((x.subs.length:Int)==0)=true:=by simp[hz]
        rw[c5,propext (show((∀(a b:Tm),(a,b)∈R0->a=b)∧x=y)↔(∀p∈R0,p.1=p.2)from⟨λh=>eall.1 h.1,λh=>⟨eall.2 h,hxy'⟩⟩)];exact hr
       ·have c5:((x.subs.length:Int)==0)=false:=by rw[beqD];exact qGp (by omega)
        rw[c5];simp only[cond_false];have hm:(R0++x.subs.zip y.subs).map Prod.fst=R0.map Prod.fst++x.subs:=by rw[List.map_append,List.map_fst_zip (by omega)]
        have hr:=ih (R0++x.subs.zip y.subs) [] (by rw[hm,ya];omega) (by omega);rw[qGh]at hr;have hP:(∀p∈R0++x.subs.zip y.subs,p.1=p.2)↔((∀(a b:Tm),(a,b)∈R0->a=b)∧x=y):=by
         rw[←hsub,eall];simp only[qF8,or_imp,forall_and]
        rw[propext hP]at hr;exact qnP h4 (by omega) x.subs.length 0 R0 _ (by omega) (by omega) (λh=>by omega) (by rw[List.drop_zero];exact hr)
      ·have h4':¬((x.subs.length:Int)=(y.subs.length:Int)):=by omega
       simp[h1,h2,h3,h4',bneD]
       simpa using hno λh=>h4 (by rw[h.2.2.2])
     ·have h3':(x.str==y.str)=false:=by simpa using h3
      simp[h1,h2,h3',bneD]
      simpa using hno λh=>h3 h.2.2.1
    ·simp[h1,h2,bneD]
     simpa using hno λh=>h2 h.2.1
   ·simp[h1,bneD]
    simpa using hno λh=>h1 h.1
theorem qAx{a:Tm}(h:a.w<1099511627776)(b:Tm):Gets (EVs (EV cfg) 31 [a.av,b.av]) (qcQ (a=b)):=by
 have:=qDo _ [(a,b)] [] (qFH _) (by simpa using h);rw[qGh]at this;rw[Tm.av,Tm.av,Tm.cells_eq a,Tm.cells_eq b];refine qos _ _ _ _ _ _ _ _ ?_;have e:xQ [(a,b)]=[[AV.int .i64 a.kind,.int .i64 a.num,.str a.str,.sl (qa a.subs),.int .i64 b.kind,.int .i64 b.num,.str b.str,.sl (qa b.subs)]]:=by
  simp only[xQ,List.map_cons,List.map_nil,Tm.cells_eq];rfl
 have e2:(∀p∈[(a,b)],p.1=p.2)↔a=b:=by simp
 rw[e,propext e2]at this;exact this
end Go.Proofs.YtgleolmhpmljhaaGreat
end
noncomputable section
namespace Go.Av
theorem xz{l:List Tm}{i:Nat}{t:Tm}(h:l[i]? =some t):qFG (qa l) (qFQ (i:Int))=some t.cells:=by
 rw[qu,qFT,xy,h];rfl
end Go.Av
namespace Go.Proofs.YtgleolmhpmljhaaGreat
open Go.Av
theorem qkq{a b:Tm}(h:a.w<1099511627776):EVs (EV cfg) 31 [a.av,b.av]=some (.bool (decide (a=b))):=by
 obtain⟨v,h1,c,rfl,h2⟩:=qAx h b;rw[h1]
 congr 2
 by_cases hab:a=b
 ·rw[qGo hab,h2.2 hab]
 ·rw[qGp hab];cases c with
  |false=>rfl
  |true=>exact absurd (h2.1 rfl) hab
def qEF:Den:=evC cfg (EV cfg) 115 none 10 (sub (qc Tryz.f115) [0,0,0])
def qFe:Ex×List AV×AH->Option (OV×AV):=kAft (Cfg.keepOut cfg 115 (qm (sub (qc Tryz.f115) [0,0,0]))) (vm 0 (kSeq (fun(fr:List AV) (H:AH)=>ve (Cfg.cut cfg 115 (qm (sub (qc Tryz.f115) [1]))) fr H fun(fr:List AV) (H:AH)=>qR cfg (EV cfg) (kfN cfg (5)) 115 none 10 (sub (qc Tryz.f115) [1]) fr H (xI cfg (Cfg.lift cfg 115 0) (fun(v:AV) (H:AH)=>(fun(r:AV×AH)=>yN 0 9 (fx 34 [(2,AV.ptr 1 0 0),(3,AV.ptr 2 0 0),(4,AV.ptr 3 0 0),(5,AV.ptr 4 0 0)]) (vm 0 (kSeq (fun(fr:List AV) (H:AH)=>ve (Cfg.cut cfg 50 (qm (sub (qc Tryz.f50) [1,1,1,1,1]))) fr H fun(fr:List AV) (H:AH)=>qR cfg (EV cfg) (kfN cfg 6) 50 none 0 (sub (qc Tryz.f50) [1,1,1,1,1]) fr H (qi0 cfg (Cfg.lift cfg 50 0) (qGg (Func.results Tryz.f50)))) (qi0 cfg (Cfg.lift cfg 50 0) (qGg (Func.results Tryz.f50))))) (Prod.snd r)) (v,H)) (qGg (Func.results (Prod.snd (115,Tryz.f115)))))) (xI cfg (Cfg.lift cfg 115 0) (fun(v:AV) (H:AH)=>(fun(r:AV×AH)=>yN 0 9 (fx 34 [(2,AV.ptr 1 0 0),(3,AV.ptr 2 0 0),(4,AV.ptr 3 0 0),(5,AV.ptr 4 0 0)]) (vm 0 (kSeq (fun(fr:List AV) (H:AH)=>ve (Cfg.cut cfg 50 (qm (sub (qc Tryz.f50) [1,1,1,1,1]))) fr H fun(fr:List AV) (H:AH)=>qR cfg (EV cfg) (kfN cfg 6) 50 none 0 (sub (qc Tryz.f50) [1,1,1,1,1]) fr H (qi0 cfg (Cfg.lift cfg 50 0) (qGg (Func.results Tryz.f50)))) (qi0 cfg (Cfg.lift cfg 50 0) (qGg (Func.results Tryz.f50))))) (Prod.snd r)) (v,H)) (qGg (Func.results (Prod.snd (115,Tryz.f115)))))))
def qxA:List AV×AH->Option (OV×AV):=fun(p:List AV×AH)=>kOpt (LOOP 10 (some [0,1,2]) [] qEF p) qFe
def qxF:Den:=evC cfg (EV cfg) 83 none 0 (sub (qc Tryz.f83) [1,1,1,1,1,1,1,1,0,1,0,0])
def qxN:Ex×List AV×AH->Option AV:=kAft (Cfg.keepOut cfg 83 11) (kRun cfg (EV cfg) (kfN cfg 6) 83 none 0 (vX cfg (Cfg.lift cfg 83 0) Tryz.f83.results.toList) ([.block 0,.seq (sub (qc Tryz.f83) [1,1,1,1,1,1,1,1,1])]))
def qrd:List AV×AH->Option AV:=λp=>kOpt (LOOP 0 (some [2,4,5,73,74]) ([]) qxF p) qxN
def qEE:Den:=evC cfg (EV cfg) 83 none 0 (sub (qc Tryz.f83) [1,1,1,1,1,1,1,1,0,1,0,0,1,1,0,0,1,1,0,0])
def qFd:Ex×List AV×AH->Option AV:=kAft (Cfg.keepOut cfg 83 14) (kRun cfg (EV cfg) (kfN cfg 6) 83 none 0 (kLp 0 (some [2,4,5,73,74]) ([]) qxF qxN) ([.block 2,.block 1,.seq (sub (qc Tryz.f83) [1,1,1,1,1,1,1,1,0,1,0,0,1,1,1])]))
def qxz:List AV×AH->Option AV:=λp=>kOpt (LOOP 0 (some [2,4,5,73,74,77,78,79]) ([]) qEE p) qFd
abbrev qpi(c0_0 c0_1:Int)(c0_2:Bz)(c0_3:Rz)(nc1_0:Nat)(c2_0:Int)(nc3_0:Nat)(c4_0:Bool)(c5_0 c5_1:Int)(c5_2:Bz)(c5_3 h7 h8:Rz):Option (OV×AV):=qxA (((fx 23 [(0,.yld 9),(1,.ptr 5 0 0),(2,.ptr 6 0 0)]):List AV),([.rows false 4 [[.int .i64 c0_0,.int .i64 c0_1,.str c0_2,.sl c0_3]],.rows false 1 [[.ms 7 0 nc1_0]],.rows false 1 [[.int .i64 c2_0]],.rows false 1 [[.ms 8 0 nc3_0]],.rows false 1 [[.bool c4_0]],.rows false 4 [[.int .i64 c5_0,.int .i64 c5_1,.str c5_2,.sl c5_3]],.rows false 1 [[.ptr 4 0 0]],.rows true 6 h7,.rows true 6 h8,rngB Tryz.f50 50 [1,1,1,1,0,1,0] (fx 34 [(2,.ptr 1 0 0),(3,.ptr 2 0 0),(4,.ptr 3 0 0)]) none LoopState.ready]:AH))
abbrev qvz(n n':Int)(s:Bz)(rows rows' rows'' rows''':Rz):Option (AV):=qrd (((fx 91 [(2,.ptr 0 0 0),(4,.ptr 1 0 0),(5,.sl rows'),(73,.agg [.sl rows'',.sl rows''']),(74,.int .i64 (0:Int))]):List AV),([.rows false 6 [[.int .i64 (0:Int),.int .i64 (0:Int),.str [],.sl [],.sl [],.sl []]],.rows false 6 [[.int .i64 n,.int .i64 n',.str s,.sl rows,.sl rows'',.sl rows''']]]:AH))
abbrev qmW(c0_0 c0_1:Int)(c0_2:Bz)(c0_3:Rz)(nc1_0:Nat)(c2_0:Int)(nc3_0:Nat)(c4_0:Bool)(c5_0 c5_1:Int)(c5_2:Bz)(c5_3 h7 h10:Rz):Option (OV×AV):=qxA (((fx 23 [(0,.yld 9),(1,.ptr 5 0 0),(2,.ptr 6 0 0)]):List AV),([.rows false 4 [[.int .i64 c0_0,.int .i64 c0_1,.str c0_2,.sl c0_3]],.rows false 1 [[.ms 7 0 nc1_0]],.rows false 1 [[.int .i64 c2_0]],.rows false 1 [[.ms 10 0 nc3_0]],.rows false 1 [[.bool c4_0]],.rows false 4 [[.int .i64 c5_0,.int .i64 c5_1,.str c5_2,.sl c5_3]],.rows false 1 [[.ptr 4 0 0]],.rows true 6 h7,.dead,rngB Tryz.f50 50 [1,1,1,1,0,1,0] (fx 34 [(2,.ptr 1 0 0),(3,.ptr 2 0 0),(4,.ptr 3 0 0)]) none LoopState.ready,.rows true 6 h10]:AH))
abbrev qld(rows' rows'' rows''':Rz)(v79 c0_0 c0_1:Int)(c0_2:Bz)(c0_3 c0_4 c0_5:Rz)(c1_0 c1_1:Int)(c1_2:Bz)(c1_3 c1_4 c1_5:Rz):Option (AV):=qxz (((fx 91 [(2,.ptr 0 0 0),(4,.ptr 1 0 0),(5,.sl rows'),(73,.agg [.sl rows'',.sl rows''']),(74,.int .i64 (0:Int)),(77,.sl rows''),(78,.int .i64 (rows''.length:Int)),(79,.int .i64 v79)]):List AV),([.rows false 6 [[.int .i64 c0_0,.int .i64 c0_1,.str c0_2,.sl c0_3,.sl c0_4,.sl c0_5]],.rows false 6 [[.int .i64 c1_0,.int .i64 c1_1,.str c1_2,.sl c1_3,.sl c1_4,.sl c1_5]]]:AH))
abbrev qsN(rows' rows'' rows''':Rz)(c0_0 c0_1:Int)(c0_2:Bz)(c0_3 c0_4 c0_5:Rz)(c1_0 c1_1:Int)(c1_2:Bz)(c1_3 c1_4 c1_5:Rz):Option (AV):=qrd (((fx 91 [(2,.ptr 0 0 0),(4,.ptr 1 0 0),(5,.sl rows'),(73,.agg [.sl rows'',.sl rows''']),(74,.int .i64 (1:Int))]):List AV),([.rows false 6 [[.int .i64 c0_0,.int .i64 c0_1,.str c0_2,.sl c0_3,.sl c0_4,.sl c0_5]],.rows false 6 [[.int .i64 c1_0,.int .i64 c1_1,.str c1_2,.sl c1_3,.sl c1_4,.sl c1_5]]]:AH))
abbrev qiw(rows' rows'' rows''':Rz)(v79 c0_0 c0_1:Int)(c0_2:Bz)(c0_3 c0_4 c0_5:Rz)(c1_0 c1_1:Int)(c1_2:Bz)(c1_3 c1_4 c1_5:Rz):Option (AV):=qxz (((fx 91 [(2,.ptr 0 0 0),(4,.ptr 1 0 0),(5,.sl rows'),(73,.agg [.sl rows'',.sl rows''']),(74,.int .i64 (1:Int)),(77,.sl rows'''),(78,.int .i64 (rows'''.length:Int)),(79,.int .i64 v79)]):List AV),([.rows false 6 [[.int .i64 c0_0,.int .i64 c0_1,.str c0_2,.sl c0_3,.sl c0_4,.sl c0_5]],.rows false 6 [[.int .i64 c1_0,.int .i64 c1_1,.str c1_2,.sl c1_3,.sl c1_4,.sl c1_5]]]:AH))
abbrev qsM(rows' rows'' rows''':Rz)(c0_0 c0_1:Int)(c0_2:Bz)(c0_3 c0_4 c0_5:Rz)(c1_0 c1_1:Int)(c1_2:Bz)(c1_3 c1_4 c1_5:Rz):Option (AV):=qrd (((fx 91 [(2,.ptr 0 0 0),(4,.ptr 1 0 0),(5,.sl rows'),(73,.agg [.sl rows'',.sl rows''']),(74,.int .i64 (2:Int))]):List AV),([.rows false 6 [[.int .i64 c0_0,.int .i64 c0_1,.str c0_2,.sl c0_3,.sl c0_4,.sl c0_5]],.rows false 6 [[.int .i64 c1_0,.int .i64 c1_1,.str c1_2,.sl c1_3,.sl c1_4,.sl c1_5]]]:AH))
theorem qm7(kt nt:Int)(st:Bz)(lt:Rz){P:OV×AV->Prop}(h:Gets (kOpt (EVs (EV cfg) 79 [.agg [.int .i64 kt,.int .i64 nt,.str st,.sl lt]]) λv=>kInt .i64 v λn=>bif n != 0 then some (OV.own 6 [] 0 0,.int .i64 2)else qpi kt nt st lt 0 0 0 false kt nt st lt [] []) P):Gets (EVq (EV cfg) 50 [.agg [.int .i64 kt,.int .i64 nt,.str st,.sl lt]]) P:=
  gE (λ_=>funQ rfl rfl Tryz.func50 rfl) (by kernel_rfl) h
abbrev zq0:Option (AV):=some (AV.tup [.agg [.int .i64 0,.int .i64 0,.str [],.sl [],.sl [],.sl []],.bool false])
abbrev zq1:Option (AV):=some (AV.tup [AV.agg [.int .i64 0,.int .i64 0,.str [],.sl [],.sl [],.sl []],.bool false])
theorem qpy(kt nt:Int)(st:Bz)(lt:Rz){P:AV->Prop}(h:Gets (bif kt != 7 then zq0 else bif(lt.length:Int) != 3 then zq0 else bif qA 0 (lt.length:Int)then kOpt (qFG lt 0) λrow=>bif qFY (qFI row) 4 then bif qFR 4 (qFI row)then kTmC (qFN 4 row) λn n_1 s rows=>(kOpt (EVs (EV cfg) 116 [.agg [.int .i64 n,.int .i64 n_1,.str s,.sl rows]]) λv=>qt v λb=>bif ! b then some (AV.tup [.agg [.int .i64 0,.int .i64 0,.str [],.sl [],.sl [],.sl []],.bool false])else bif qA 0 (lt.length:Int)then kOpt (qFG lt 0) λrow=>bif qFY (qFI row) 4 then bif qFR 4 (qFI row)then kTmC (qFN 4 row) λn n_2 s rows=>(kOpt (EVf (EV cfg) 117 [.agg [.int .i64 n,.int .i64 n_2,.str s,.sl rows]]) λv=>kSl v λrows_1=>bif qA 1 (lt.length:Int)then kOpt (qFG lt 1) λrow=>bif qFY (qFI row) 4 then bif qFR 4 (qFI row)then kTmC (qFN 4 row) λn_3 n_4 s_1 rows_2=>(kOpt (EVf (EV cfg) 118 [.agg [.int .i64 n_3,.int .i64 n_4,.str s_1,.sl rows_2]]) λv=>kTup v λcs=>ql cs λc cs=>kSl c λrows_3=>ql cs λc cs=>qt c λb=>kNil cs (bif qA 2 (lt.length:Int)then kOpt (qFG lt 2) λrow=>bif qFY (qFI row) 4 then bif qFR 4 (qFI row)then kTmC (qFN 4 row) λn_5 n_6 s_2 rows_4=>(kOpt (EVf (EV cfg) 118 [AV.agg [.int .i64 n_5,.int .i64 n_6,.str s_2,.sl rows_4]]) λv=>kTup v λcs=>ql cs λc cs=>kSl c λrows_5=>ql cs λc cs=>qt c λb_1=>kNil cs (bif ! b then zq1 else bif ! b_1 then zq1 else bif(rows_5.length:Int)==0 then zq1 else qvz n n_2 s rows rows_1 rows_3 rows_5))else none else none else none))else none else none else none)else none else none else none)else none else none else none) P):Gets (EVf (EV cfg) 83 [.agg [.int .i64 kt,.int .i64 nt,.str st,.sl lt]]) P:=
  gE (λ_=>funF rfl rfl Tryz.func83 rfl) (by kernel_rfl) h
abbrev zq9(cs:List AV)(nc3_0:Nat)(h8 c5_3:Rz)(c0_0 c0_1:Int)(c0_2:Bz)(c0_3:Rz)(nc1_0:Nat)(c2_0:Int)(c4_0:Bool)(h7:Rz)(n n_2:Int)(s:Bz)(rows rows_1 rows_2:Rz):Option (OV×AV):=ql cs λc cs=>qt c λb=>kNil cs (bif ! b then some (OV.own 6 [] 0 0,.int .i64 10)else bif qFR (0+nc3_0) (qFI h8)&&qI (nc3_0+1) 104 then bif qA 1 (c5_3.length:Int)then kOpt (qFG c5_3 1) λrow=>bif qFY (qFI row) 4 then bif qFR 4 (qFI row)then kTmC (qFN 4 row) λn_3 n_4 s_1 rows_3=>(qmW c0_0 c0_1 c0_2 c0_3 nc1_0 c2_0 (nc3_0+1) c4_0 n_3 n_4 s_1 rows_3 h7 (qF2 (qFN nc3_0 h8) [[AV.int .i64 n,.int .i64 n_2,.str s,.sl rows,.sl rows_1,.sl rows_2]]))else none else none else none else none)
abbrev zq8(n n_1:Int)(s:Bz)(rows:Rz)(nc3_0:Nat)(h8 c5_3:Rz)(c0_0 c0_1:Int)(c0_2:Bz)(c0_3:Rz)(nc1_0:Nat)(c2_0:Int)(c4_0:Bool)(h7:Rz):Option (OV×AV):=(kOpt (EVf (EV cfg) 83 [.agg [.int .i64 n,.int .i64 n_1,.str s,.sl rows]]) λv=>kTup v λcs=>ql cs λc cs=>kAgg c λcs_1=>ql cs_1 λc cs_2=>kInt .i64 c λn=>ql cs_2 λc cs_3=>kInt .i64 c λn_2=>ql cs_3 λc cs_4=>kStr c λs=>ql cs_4 λc cs_5=>kSl c λrows=>ql cs_5 λc cs_6=>kSl c λrows_1=>ql cs_6 λc cs_7=>kSl c λrows_2=>kNil cs_7 (zq9 cs nc3_0 h8 c5_3 c0_0 c0_1 c0_2 c0_3 nc1_0 c2_0 c4_0 h7 n n_2 s rows rows_1 rows_2))
abbrev zq7(row:List AV)(nc3_0:Nat)(h8 c5_3:Rz)(c0_0 c0_1:Int)(c0_2:Bz)(c0_3:Rz)(nc1_0:Nat)(c2_0:Int)(c4_0:Bool)(h7:Rz):Option (OV×AV):=kTmC (qFN 4 row) λn n_1 s rows=>zq8 n n_1 s rows nc3_0 h8 c5_3 c0_0 c0_1 c0_2 c0_3 nc1_0 c2_0 c4_0 h7
abbrev zq6(row:List AV)(nc3_0:Nat)(h8 c5_3:Rz)(c0_0 c0_1:Int)(c0_2:Bz)(c0_3:Rz)(nc1_0:Nat)(c2_0:Int)(c4_0:Bool)(h7:Rz):Option (OV×AV):=bif qFR 4 (qFI row)then zq7 row nc3_0 h8 c5_3 c0_0 c0_1 c0_2 c0_3 nc1_0 c2_0 c4_0 h7 else none
abbrev zq5(row:List AV)(nc3_0:Nat)(h8 c5_3:Rz)(c0_0 c0_1:Int)(c0_2:Bz)(c0_3:Rz)(nc1_0:Nat)(c2_0:Int)(c4_0:Bool)(h7:Rz):Option (OV×AV):=bif qFY (qFI row) 4 then zq6 row nc3_0 h8 c5_3 c0_0 c0_1 c0_2 c0_3 nc1_0 c2_0 c4_0 h7 else none
abbrev zq4(c5_3:Rz)(nc3_0:Nat)(h8:Rz)(c0_0 c0_1:Int)(c0_2:Bz)(c0_3:Rz)(nc1_0:Nat)(c2_0:Int)(c4_0:Bool)(h7:Rz):Option (OV×AV):=kOpt (qFG c5_3 0) λrow=>zq5 row nc3_0 h8 c5_3 c0_0 c0_1 c0_2 c0_3 nc1_0 c2_0 c4_0 h7
abbrev zq3(c5_3:Rz)(nc3_0:Nat)(h8:Rz)(c0_0 c0_1:Int)(c0_2:Bz)(c0_3:Rz)(nc1_0:Nat)(c2_0:Int)(c4_0:Bool)(h7:Rz):Option (OV×AV):=bif qA 0 (c5_3.length:Int)then zq4 c5_3 nc3_0 h8 c0_0 c0_1 c0_2 c0_3 nc1_0 c2_0 c4_0 h7 else none
abbrev zq2(c5_0:Int)(c5_3:Rz)(nc3_0:Nat)(h8:Rz)(c0_0 c0_1:Int)(c0_2:Bz)(c0_3:Rz)(nc1_0:Nat)(c2_0:Int)(c4_0:Bool)(h7:Rz):Option (OV×AV):=bif c5_0==9 then zq3 c5_3 nc3_0 h8 c0_0 c0_1 c0_2 c0_3 nc1_0 c2_0 c4_0 h7 else bif ! c5_0==8 then some (OV.own 6 [] 0 0,.int .i64 10)else bif(↑ nc3_0:Int)==0 then some (OV.own 6 [] 0 0,.int .i64 10)else some (OV.own 6 h8 0 nc3_0,.int .i64 0)
theorem qrr(c0_0 c0_1:Int)(c0_2:Bz)(c0_3:Rz)(nc1_0:Nat)(c2_0:Int)(nc3_0:Nat)(c4_0:Bool)(c5_0 c5_1:Int)(c5_2:Bz)(c5_3 h7 h8:Rz){P:OV×AV->Prop}(h:Gets (zq2 c5_0 c5_3 nc3_0 h8 c0_0 c0_1 c0_2 c0_3 nc1_0 c2_0 c4_0 h7) P):Gets (qpi c0_0 c0_1 c0_2 c0_3 nc1_0 c2_0 nc3_0 c4_0 c5_0 c5_1 c5_2 c5_3 h7 h8) P:=
  gE (λ_=>qg (cfg:=cfg) (f:=115) (rd:=none) (bs:=10)) (by kernel_rfl) h
theorem qrq(n n':Int)(s:Bz)(rows rows' rows'' rows''':Rz){P:AV->Prop}(h:Gets (qld rows' rows'' rows''' 0 0 0 [] [] [] [] n n' s rows rows'' rows''') P):Gets (qvz n n' s rows rows' rows'' rows''') P:=
  gE (λ_=>qg (cfg:=cfg) (f:=83) (rd:=none) (bs:=0)) (by kernel_rfl) h
theorem qph(c0_0 c0_1:Int)(c0_2:Bz)(c0_3:Rz)(nc1_0:Nat)(c2_0:Int)(nc3_0:Nat)(c4_0:Bool)(c5_0 c5_1:Int)(c5_2:Bz)(c5_3 h7 h10:Rz){P:OV×AV->Prop}(h:Gets (zq2 c5_0 c5_3 nc3_0 h10 c0_0 c0_1 c0_2 c0_3 nc1_0 c2_0 c4_0 h7) P):Gets (qmW c0_0 c0_1 c0_2 c0_3 nc1_0 c2_0 nc3_0 c4_0 c5_0 c5_1 c5_2 c5_3 h7 h10) P:=
  gE (λ_=>qg (cfg:=cfg) (f:=115) (rd:=none) (bs:=10)) (by kernel_rfl) h
theorem qjH(rows' rows'' rows''':Rz)(v79 c0_0 c0_1:Int)(c0_2:Bz)(c0_3 c0_4 c0_5:Rz)(c1_0 c1_1:Int)(c1_2:Bz)(c1_3 c1_4 c1_5:Rz){P:AV->Prop}(h:Gets (bif decide (v79<(rows''.length:Int))then rs4 rows'' v79 λn n_1 s rows=>(kOpt (EVs (EV cfg) 119 [.agg [.int .i64 n,.int .i64 n_1,.str s,.sl rows],.sl rows']) λv=>kInt .i64 v λn=>bif n != 0 then some (AV.tup [.agg [.int .i64 0,.int .i64 0,.str [],.sl [],.sl [],.sl []],.bool false])else qld rows' rows'' rows''' (qFD .i64 (v79+1)) c0_0 c0_1 c0_2 c0_3 c0_4 c0_5 c1_0 c1_1 c1_2 c1_3 c1_4 c1_5)else qsN rows' rows'' rows''' c0_0 c0_1 c0_2 c0_3 c0_4 c0_5 c1_0 c1_1 c1_2 c1_3 c1_4 c1_5) P):Gets (qld rows' rows'' rows''' v79 c0_0 c0_1 c0_2 c0_3 c0_4 c0_5 c1_0 c1_1 c1_2 c1_3 c1_4 c1_5) P:=
  gE (λ_=>qg (cfg:=cfg) (f:=83) (rd:=none) (bs:=0)) (by kernel_rfl) h
theorem qpg(rows' rows'' rows''':Rz)(c0_0 c0_1:Int)(c0_2:Bz)(c0_3 c0_4 c0_5:Rz)(c1_0 c1_1:Int)(c1_2:Bz)(c1_3 c1_4 c1_5:Rz){P:AV->Prop}(h:Gets (qiw rows' rows'' rows''' 0 c0_0 c0_1 c0_2 c0_3 c0_4 c0_5 c1_0 c1_1 c1_2 c1_3 c1_4 c1_5) P):Gets (qsN rows' rows'' rows''' c0_0 c0_1 c0_2 c0_3 c0_4 c0_5 c1_0 c1_1 c1_2 c1_3 c1_4 c1_5) P:=
  gE (λ_=>qg (cfg:=cfg) (f:=83) (rd:=none) (bs:=0)) (by kernel_rfl) h
theorem qgM(rows' rows'' rows''':Rz)(v79 c0_0 c0_1:Int)(c0_2:Bz)(c0_3 c0_4 c0_5:Rz)(c1_0 c1_1:Int)(c1_2:Bz)(c1_3 c1_4 c1_5:Rz){P:AV->Prop}(h:Gets (bif decide (v79<(rows'''.length:Int))then rs4 rows''' v79 λn n_1 s rows=>(kOpt (EVs (EV cfg) 119 [.agg [.int .i64 n,.int .i64 n_1,.str s,.sl rows],.sl rows']) λv=>kInt .i64 v λn=>bif n != 0 then some (AV.tup [.agg [.int .i64 0,.int .i64 0,.str [],.sl [],.sl [],.sl []],.bool false])else qiw rows' rows'' rows''' (qFD .i64 (v79+1)) c0_0 c0_1 c0_2 c0_3 c0_4 c0_5 c1_0 c1_1 c1_2 c1_3 c1_4 c1_5)else qsM rows' rows'' rows''' c0_0 c0_1 c0_2 c0_3 c0_4 c0_5 c1_0 c1_1 c1_2 c1_3 c1_4 c1_5) P):Gets (qiw rows' rows'' rows''' v79 c0_0 c0_1 c0_2 c0_3 c0_4 c0_5 c1_0 c1_1 c1_2 c1_3 c1_4 c1_5) P:=
  gE (λ_=>qg (cfg:=cfg) (f:=83) (rd:=none) (bs:=0)) (by kernel_rfl) h
theorem qpf(rows' rows'' rows''':Rz)(c0_0 c0_1:Int)(c0_2:Bz)(c0_3 c0_4 c0_5:Rz)(c1_0 c1_1:Int)(c1_2:Bz)(c1_3 c1_4 c1_5:Rz){P:AV->Prop}(h:Gets (some (AV.tup [.agg [.int .i64 c1_0,.int .i64 c1_1,.str c1_2,.sl c1_3,.sl c1_4,.sl c1_5],.bool true])) P):Gets (qsM rows' rows'' rows''' c0_0 c0_1 c0_2 c0_3 c0_4 c0_5 c1_0 c1_1 c1_2 c1_3 c1_4 c1_5) P:=
  gE (λ_=>qg (cfg:=cfg) (f:=83) (rd:=none) (bs:=0)) (by kernel_rfl) h
def qED:Den:=evC cfg (EV cfg) 17 none 0 (sub (qc Tryz.f17) [1,1,1,0,1,0,0])
def qFc:Ex×List AV×AH->Option AV:=kAft (Cfg.keepOut cfg 17 5) (kRun cfg (EV cfg) (kfN cfg 6) 17 none 0 (vX cfg (Cfg.lift cfg 17 0) Tryz.f17.results.toList) ([.block 0,.seq (sub (qc Tryz.f17) [1,1,1,1])]))
def qxy:List AV×AH->Option AV:=λp=>kOpt (LOOP 0 (some [4,16,17,18]) ([]) qED p) qFc
abbrev qDm(v18:Int):Option (AV):=qxy (((fx 38 [(4,.nilS),(16,.nilS),(17,.int .i64 (0:Int)),(18,.int .i64 v18)]):List AV),([]:AH))
abbrev qiv(sz off len:Nat)(v18:Int)(h0:Rz):Option (AV):=qxy (((fx 38 [(4,.ms 0 off len),(16,.ms 0 off len),(17,.int .i64 (↑len:Int)),(18,.int .i64 v18)]):List AV),([.rows true sz h0]:AH))
theorem qow(kt nt:Int)(st:Bz)(lt:Rz){P:AV->Prop}(h:Gets (kOpt (EVq (EV cfg) 50 [.agg [.int .i64 kt,.int .i64 nt,.str st,.sl lt]]) λq=>kInt .i64 q.2 λn=>kOwn q.1 (bif n != 0 then some (AV.tup [.sl [],.int .i64 n])else qDm 0) λsz rs off len=>bif n != 0 then some (AV.tup [.sl [],.int .i64 n])else qiv sz off len 0 rs) P):Gets (EVf (EV cfg) 17 [.agg [.int .i64 kt,.int .i64 nt,.str st,.sl lt]]) P:=
  gE (λ_=>funF rfl rfl Tryz.func17 rfl) (by kernel_rfl) h
theorem qgL(sz off len:Nat)(v18:Int)(h0:Rz){P:AV->Prop}(h:Gets (bif decide (v18<(↑ len:Int))then bif qFY sz 6&&qj 0 v18&&qA v18 (↑ len:Int)then kOpt (qFG h0 (off+v18.toNat)) λrow=>bif qFR 6 (qFI row)then ql (qFN 6 row) λc cs=>kInt .i64 c λn=>ql cs λc cs=>kInt .i64 c λn_1=>ql cs λc cs=>kStr c λs=>ql cs λc cs=>kSl c λrows=>ql cs λc cs=>kSl c λrows_1=>ql cs λc cs=>kSl c λrows_2=>kNil cs (kOpt (EVf (EV cfg) 51 [.agg [.int .i64 n,.int .i64 n_1,.str s,.sl rows]]) λv=>kTmV v λn n_2 s rows=>(kOpt (EVf (EV cfg) 52 [.sl rows_1]) λv=>kSl v λrows_3=>kOpt (EVf (EV cfg) 52 [.sl rows_2]) λv=>kSl v λrows_4=>bif qFY sz 6&&qj 0 v18&&qA v18 (↑ len:Int)then kOpt (qFG h0 (off+v18.toNat)) λrow=>bif qFR 6 (qFI row)then qiv sz off len (qFD .i64 (v18+1)) (List.set h0 (off+v18.toNat) (.int .i64 n:: .int .i64 n_2:: .str s:: .sl rows:: .sl rows_3:: .sl rows_4::qGb 6 row))else none else none))else none else none else bif qFR (off+len) (qFI h0)&&true then some (AV.tup [.sl (qFN len (qGb off h0)),.int .i64 0])else none) P):Gets (qiv sz off len v18 h0) P:=
  gE (λ_=>qg (cfg:=cfg) (f:=17) (rd:=none) (bs:=0)) (by kernel_rfl) h
end Go.Proofs.YtgleolmhpmljhaaGreat
end
noncomputable section
namespace Go.Av
def clR(o:Option Cl):AV:=match o with
 |some c=>.tup [c.av,.bool true]
 |none=>.tup [qfb.av,.bool false]
def clsQ(r:List Cl×Int):OV×AV:=(.own 6 (qP r.1) 0 r.1.length,.int .i64 r.2)
def clsA(acc:List Cl)(t:Tm):List Cl×Int:=match seqC (qG t).1 with
 |some l=>if(qG t).2&& !(acc++l).isEmpty then(acc++l,0)else([],10)
 |none=>([],10)
def okV(V:List Int)(l:List Tm):Bool:=l.all λe=>decide (zs V e=0)
theorem qky(V:List Int)(x:Tm)(l:List Tm):okV V (x::l)=(decide (zs V x=0)&&okV V l):=rfl
theorem qg9(p:Tm):(yJ p).length<=100:=by
 unfold yJ
 by_cases h:p.chk=0
 ·rw[qGq h,List.length_map];have:=List.length_filter_le (λn:Nat=>vU (n:Nat) p) (qGn 100);rw[List.length_range]at this;exact this
 ·rw[qGr h];exact Nat.zero_le _
theorem qnt{n:Nat}(h:n<=1099511627776):qI n 104=true:=by
 unfold qI;rw[qFJ,qGj,qGj];omega
def ClOk(c:Cl):Prop:=c.head.chk=0∧(∀x∈c.gs,x.chk=0)∧(∀x∈c.bs,x.chk=0)∧c.gs.length<=8388608∧c.bs.length<=8388608
theorem qvi{t:Tm}(h:t.chk=0){c:Cl}(hc:xu t=some c):ClOk c:=by
 unfold xu at hc
 by_cases h7:t.kind=7
 ·rw[qGq h7]at hc;have hw:=xX h;have hwe:=t.w_eq;cases hs:t.subs with
  |nil=>rw[hs]at hc;cases hc
  |cons a l=>cases l with
   |nil=>rw[hs]at hc;cases hc
   |cons b l=>cases l with
    |nil=>rw[hs]at hc;cases hc
    |cons d l=>cases l with
     |nil=>
      rw[hs]at hc hwe;simp only[vC,xO]at hwe;simp only[]at hc;split at hc
      ·cases hc;have ha:a.chk=0:=xi h (by rw[hs];simp);have hb:b.chk=0:=xi h (by rw[hs];simp);have hd:d.chk=0:=xi h (by rw[hs];simp);have lb:=zF hb;have ld:=zF hd;exact⟨ha,qcO hb,qcO hd,by show(qG b).1.length<=_;omega,by show(qG d).1.length<=_;omega⟩
      ·cases hc
     |cons e l=>rw[hs]at hc;cases hc
 ·rw[qGr h7]at hc;cases hc
theorem qsT:∀{l:List Tm} {cs:List Cl},(∀x∈l,x.chk=0)->seqC l=some cs->∀c∈cs,ClOk c
 |[],cs,_,h=>by cases h;intro c hc;cases hc
 |t::l,cs,ho,h=>by
  rw[seqC]at h;obtain⟨c,hc,h⟩:=qFL.1 h;obtain⟨r,hr,rfl⟩:=qFM.1 h;intro d hd;rcases qF6.1 hd with rfl|hd
  ·exact qvi (ho t List.mem_cons_self) hc
  ·exact qsT (λx hx=>ho x (List.mem_cons_of_mem _ hx)) hr d hd
theorem qbV(t:Tm):(∀c∈(clsG t).1,ClOk c)∧(clsG t).1.length<=8388608:=by
 unfold clsG
 by_cases hc:t.chk=0
 ·rw[qGq hc];have hw:=xX hc;have hl:=zF hc;cases hs:seqC (qG t).1 with
  |none=>exact⟨λc hc=>(by cases hc),Nat.zero_le _⟩
  |some l=>
   simp only[];have hn:=qkp hs;split
   ·exact⟨qsT (qcO hc) hs,by show l.length<=_;omega⟩
   ·exact⟨λc hc=>(by cases hc),Nat.zero_le _⟩
 ·rw[qGr hc];exact⟨λc hc=>(by cases hc),Nat.zero_le _⟩
end Go.Av
namespace Go.Proofs.YtgleolmhpmljhaaGreat
open Go.Av
theorem qqZ{V:List Int}{h:Tm}{G B:List Tm}(hV:V.length<1099511627776)(hB:B.length<1099511627776)(wB:∀x∈B,x.w<1099511627776):∀d i:Nat,i+d=B.length ->
  Gets (qiw (qC V) (qa G) (qa B) i 0 0 [] [] [] [] h.kind h.num h.str (qa h.subs) (qa G) (qa B)) (·=clR (if okV V (B.drop i)then some ⟨h,G,B⟩else none)):=by
 intro d
 induction d with
 |zero=>
  intro i hi;obtain rfl:i=B.length:=by omega
  refine qgM _ _ _ _ _ _ _ _ _ _ _ _ _ _ _ _ ?_;unfold rs4;rw[qb,qGp (by omega),cond_false,qFV (qFH _)];refine qpf _ _ _ _ _ _ _ _ _ _ _ _ _ _ _ ?_;exact⟨_,rfl,rfl⟩
 |succ d ih=>
  intro i hi;have hil:i<B.length:=by omega
  have hx:B[i]? =some B[i]:=qFE hil;have hg:=qgk hV (wB _ (qFK hx));have h1:=ih (i+1) (by omega);rw[qFS hil,qky];refine qgM _ _ _ _ _ _ _ _ _ _ _ _ _ _ _ _ ?_;unfold rs4;have gx:qFG (qa B) (qFQ (i:Int))=some B[i].cells:=xz hx;rw[qb,qGo (show(i:Int)<(B.length:Int) by omega),qv,qD,qGo hil,gx,qN hil hB]
  simp only[cond_true,qF7,qd,qf,qF3,qi,qh,xE,qB,hg,qe,bneD]
  by_cases h0:zs V B[i]=0
  ·rw[qGo h0,qGm];exact h1
  ·rw[qGp h0];exact⟨_,rfl,rfl⟩
theorem qq0{V:List Int}{h:Tm}{G B:List Tm}(hV:V.length<1099511627776)(hG:G.length<1099511627776)(wG:∀x∈G,x.w<1099511627776)(hB:B.length<1099511627776)(wB:∀x∈B,x.w<1099511627776):∀d i:Nat,i+d=G.length ->
  Gets (qld (qC V) (qa G) (qa B) i 0 0 [] [] [] [] h.kind h.num h.str (qa h.subs) (qa G) (qa B)) (·=clR (if okV V (G.drop i)&&okV V B then some ⟨h,G,B⟩else none)):=by
 intro d
 induction d with
 |zero=>
  intro i hi;obtain rfl:i=G.length:=by omega
  refine qjH _ _ _ _ _ _ _ _ _ _ _ _ _ _ _ _ ?_;unfold rs4;rw[qb,qGp (by omega),cond_false,qFV (qFH _)];refine qpg _ _ _ _ _ _ _ _ _ _ _ _ _ _ _ ?_;exact qqZ (h:=h) (G:=G) hV hB wB B.length 0 (by omega)
 |succ d ih=>
  intro i hi;have hil:i<G.length:=by omega
  have hx:G[i]? =some G[i]:=qFE hil;have hg:=qgk hV (wG _ (qFK hx));have h1:=ih (i+1) (by omega);rw[qFS hil,qky];refine qjH _ _ _ _ _ _ _ _ _ _ _ _ _ _ _ _ ?_;unfold rs4;have gx:qFG (qa G) (qFQ (i:Int))=some G[i].cells:=xz hx;rw[qb,qGo (show(i:Int)<(G.length:Int) by omega),qv,qD,qGo hil,gx,qN hil hG]
  simp only[cond_true,qF7,qd,qf,qF3,qi,qh,xE,qB,hg,qe,bneD]
  by_cases h0:zs V G[i]=0
  ·rw[qGo h0,qGm];exact h1
  ·rw[qGp h0];exact⟨_,rfl,rfl⟩
theorem qok{t:Tm}(hc:t.chk=0):EVf (EV cfg) 83 [t.av]=some (clR (xu t)):=by
 have hw:=xX hc;have hwe:=t.w_eq;have hz:AV.tup [.agg [AV.int .i64 (0:Int),.int .i64 (0:Int),.str [],.sl [],.sl [],.sl []],.bool false]=clR none:=rfl;apply Gets.get;rw[Tm.av,Tm.cells_eq];refine qpy _ _ _ _ ?_;unfold zq1 zq0;rw[bneD,bneD,hz,qb]
 by_cases h7:t.kind=7
 ·rw[qGo h7]
  by_cases h3:t.subs.length=3
  ·obtain⟨h,g,b,hs⟩:∃h g b,t.subs=[h,g,b]:=by
    cases hs:t.subs with
    |nil=>rw[hs]at h3;simp at h3
    |cons a l=>cases l with
     |nil=>rw[hs]at h3;simp at h3
     |cons b l=>cases l with
      |nil=>rw[hs]at h3;simp at h3
      |cons d l=>cases l with
       |nil=>exact⟨a,b,d,rfl⟩
       |cons e l=>rw[hs]at h3;simp at h3
   have ch:h.chk=0:=xi hc (by rw[hs];simp);have cg:g.chk=0:=xi hc (by rw[hs];simp);have cb:b.chk=0:=xi hc (by rw[hs];simp);rw[hs]at hwe;simp only[vC,xO]at hwe;have lg:=zF cg;have lb:=zF cb;have hh:=qvM (t:=h) (by omega);have hv:=qt9 (t:=h) (by omega);have e1:=qnM cg;have e2:=qnM cb;have hl:=qq0 (V:=yJ h) (h:=h) (G:=(qG g).1) (B:=(qG b).1) (by have:=qg9 h;omega) (by omega) (λx hx=>by have:=xF hx;omega) (by omega) (λx hx=>by have:=xF hx;omega) (qG g).1.length 0 (by omega)
   have gh:xu t=if qb4 h&&((qG g).2&&((qG b).2&& !(qG b).1.isEmpty))&&(okV (yJ h) (qG g).1&&okV (yJ h) (qG b).1)then some ⟨h,(qG g).1,(qG b).1⟩else none:=by
    unfold xu;rw[qGq h7,hs];rfl
   rw[qGo (show(t.subs.length:Int)=3 by omega),hs,qF,qF,qF,qO,gh];have g0:qFG [h.cells,g.cells,b.cells] 0=some h.cells:=rfl;have g1:qFG [h.cells,g.cells,b.cells] 1=some g.cells:=rfl;have g2:qFG [h.cells,g.cells,b.cells] 2=some b.cells:=rfl;have l0:qA 0 (([h,g,b].length:Nat):Int)=true:=rfl;have l1:qA 1 (([h,g,b].length:Nat):Int)=true:=rfl
   have l2:qA 2 (([h,g,b].length:Nat):Int)=true:=rfl;rw[g0,g1,g2];simp only[l0,l1,l2,qFW,cond_false,cond_true,qF7,qd,qf,qF3,qi,qh,xE,qB,hh,qp];cases qb4 h with
   |false=>exact⟨_,rfl,rfl⟩
   |true=>
    simp only[qFW,cond_false,qGm,hv,e1,e2,lsR,qd,kTup,ql,q5,qp,kNil,qb,beqI];cases(qG g).2 with
    |false=>exact⟨_,rfl,rfl⟩
    |true=>
     cases(qG b).2 with
     |false=>exact⟨_,rfl,rfl⟩
     |true=>
      simp only[qFW,cond_false,qGm];cases hb:(qG b).1 with
      |nil=>exact⟨_,rfl,rfl⟩
      |cons x l=>
       rw[hb]at hl;rw[qGp (show ¬(((x::l).length:Nat):Int)=0 by simp;omega)];refine qrq _ _ _ _ _ _ _ ?_;exact hl
  ·have:xu t=none:=by
    unfold xu;rw[qGq h7];cases hs:t.subs with
    |nil=>rfl
    |cons a l=>cases l with
     |nil=>rfl
     |cons b l=>cases l with
      |nil=>rfl
      |cons d l=>cases l with
       |nil=>rw[hs]at h3;simp at h3
       |cons e l=>rfl
   rw[qGp (show ¬(t.subs.length:Int)=3 by omega),this];exact⟨_,rfl,rfl⟩
 ·have:xu t=none:=by unfold xu;rw[qGr h7]
  rw[qGp h7,this];exact⟨_,rfl,rfl⟩
theorem qoL{c:Tm}:∀(n:Nat) (t:Tm) (acc:List Cl),t.w<=n->t.chk=0->acc.length+n<1099511627776 ->
  Gets (qmW c.kind c.num c.str (qa c.subs) 0 0 acc.length false t.kind t.num t.str (qa t.subs) [] (qP acc)) (·=clsQ (clsA acc t)):=by
 intro n
 induction n with
 |zero=>intro t acc h;have:=xW t;omega
 |succ n ih=>
  intro t acc hw hc hn;refine qph _ _ _ _ _ _ _ _ _ _ _ _ _ _ ?_;unfold zq2 zq3 zq4 zq5 zq6 zq7 zq8 zq9;rw[beqI,beqI,beqI]
  by_cases h9:t.kind=9
  ·obtain⟨x,y,hs⟩:=qbU hc h9;have hwe:=t.w_eq;rw[hs]at hwe;simp only[vC,xO]at hwe;have hxc:x.chk=0:=xi hc (by rw[hs];simp);have hyc:y.chk=0:=xi hc (by rw[hs];simp);have hce:=qok hxc;have e1:qFR (0+acc.length) (qP acc).length=true:=by rw[qGj,xH];omega
   have e2:qFN acc.length (qP acc)=qP acc:=qFP (by rw[xH];exact qFH _);rw[qGo h9,cond_true,hs,lt0T,qmc,lt1T,qmb,e1,e2,qnt (by omega)];simp only[cond_true,qF7,qd,qf,qF3,qi,qh,xE,qB,hce];cases hcl:xu x with
   |none=>
    have:clsA acc t=([],10):=by unfold clsA;rw[yo h9 hs,seqC,hcl];rfl
    rw[this];exact⟨_,rfl,rfl⟩
   |some d=>
    have:clsA acc t=clsA (acc++[d]) y:=by
     unfold clsA;rw[yo h9 hs,seqC,hcl];cases seqC (qG y).1 with
     |none=>rfl
     |some l=>simp
    rw[this];have h:=ih y (acc++[d]) (by omega) hyc (by rw[qFU,List.length_singleton];omega);rw[qFU,List.length_singleton]at h;have e3:qF2 (qP acc) [[AV.int .i64 d.head.kind,.int .i64 d.head.num,.str d.head.str,.sl (qa d.head.subs),.sl (qa d.gs),.sl (qa d.bs)]]=qP (acc++[d]):=(qdd acc [d]).symm;simp only[clR,Cl.av,Cl.cells,kTup,ql,kAgg,qe,qaY,q5,kNil,qp,qFW,cond_false,e3]
    exact h
  ·rw[qGp h9,cond_false];have hi:clsA acc t=if t.kind=8∧acc≠[]then(acc,0)else([],10):=by
    unfold clsA;rw[zG h9,seqC]
    by_cases h8:t.kind=8
    ·cases acc<;>simp[h8]
    ·simp[h8]
   rw[hi]
   by_cases h8:t.kind=8
   ·rw[qGo h8];cases acc with
    |nil=>rw[qGr (λh=>h.2 rfl)];exact⟨_,rfl,rfl⟩
    |cons a l=>
     rw[qGp (show ¬(((a::l).length:Nat):Int)=0 by simp;omega),qGq ⟨h8,by simp⟩];exact⟨_,rfl,rfl⟩
   ·rw[qGp h8,qGr (λh=>h8 h.1)];exact⟨_,rfl,rfl⟩
theorem qqY{c:Tm}:∀(n:Nat) (t:Tm) (acc:List Cl),t.w<=n->t.chk=0->acc.length+n<1099511627776 ->
  Gets (qpi c.kind c.num c.str (qa c.subs) 0 0 acc.length false t.kind t.num t.str (qa t.subs) [] (qP acc)) (·=clsQ (clsA acc t)):=by
 intro n
 induction n with
 |zero=>intro t acc h;have:=xW t;omega
 |succ n ih=>
  intro t acc hw hc hn;refine qrr _ _ _ _ _ _ _ _ _ _ _ _ _ _ ?_;unfold zq2 zq3 zq4 zq5 zq6 zq7 zq8 zq9;rw[beqI,beqI,beqI]
  by_cases h9:t.kind=9
  ·obtain⟨x,y,hs⟩:=qbU hc h9;have hwe:=t.w_eq;rw[hs]at hwe;simp only[vC,xO]at hwe;have hxc:x.chk=0:=xi hc (by rw[hs];simp);have hyc:y.chk=0:=xi hc (by rw[hs];simp);have hce:=qok hxc;have e1:qFR (0+acc.length) (qP acc).length=true:=by rw[qGj,xH];omega
   have e2:qFN acc.length (qP acc)=qP acc:=qFP (by rw[xH];exact qFH _);rw[qGo h9,cond_true,hs,lt0T,qmc,lt1T,qmb,e1,e2,qnt (by omega)];simp only[cond_true,qF7,qd,qf,qF3,qi,qh,xE,qB,hce];cases hcl:xu x with
   |none=>
    have:clsA acc t=([],10):=by unfold clsA;rw[yo h9 hs,seqC,hcl];rfl
    rw[this];exact⟨_,rfl,rfl⟩
   |some d=>
    have:clsA acc t=clsA (acc++[d]) y:=by
     unfold clsA;rw[yo h9 hs,seqC,hcl];cases seqC (qG y).1 with
     |none=>rfl
     |some l=>simp
    rw[this];have h:=qoL (c:=c) n y (acc++[d]) (by omega) hyc (by rw[qFU,List.length_singleton];omega);rw[qFU,List.length_singleton]at h;have e3:qF2 (qP acc) [[AV.int .i64 d.head.kind,.int .i64 d.head.num,.str d.head.str,.sl (qa d.head.subs),.sl (qa d.gs),.sl (qa d.bs)]]=qP (acc++[d]):=(qdd acc [d]).symm;simp only[clR,Cl.av,Cl.cells,kTup,ql,kAgg,qe,qaY,q5,kNil,qp,qFW,cond_false,e3]
    exact h
  ·rw[qGp h9,cond_false];have hi:clsA acc t=if t.kind=8∧acc≠[]then(acc,0)else([],10):=by
    unfold clsA;rw[zG h9,seqC]
    by_cases h8:t.kind=8
    ·cases acc<;>simp[h8]
    ·simp[h8]
   rw[hi]
   by_cases h8:t.kind=8
   ·rw[qGo h8];cases acc with
    |nil=>rw[qGr (λh=>h.2 rfl)];exact⟨_,rfl,rfl⟩
    |cons a l=>
     rw[qGp (show ¬(((a::l).length:Nat):Int)=0 by simp;omega),qGq ⟨h8,by simp⟩];exact⟨_,rfl,rfl⟩
   ·rw[qGp h8,qGr (λh=>h8 h.1)];exact⟨_,rfl,rfl⟩
theorem qmB{t:Tm}(hw:t.w<1099511627776):EVq (EV cfg) 50 [t.av]=some (clsQ (clsG t)):=by
 have hk:=qfU hw;apply Gets.get;rw[Tm.av,Tm.cells_eq]at hk⊢;refine qm7 _ _ _ _ ?_;rw[hk];simp only[qd,qe,bneD];unfold clsG
 by_cases hc:t.chk=0
 ·rw[qGo hc,qGq hc];exact qqY (c:=t) t.w t [] (qFH _) hc (by have:=xX hc;simp;omega)
 ·rw[qGp hc,qGr hc];exact⟨_,rfl,rfl⟩
theorem qpx{t:Tm}(hw:t.w<1099511627776):EVf (EV cfg) 17 [t.av]=some (.tup [.sl (qP (clsG t).1),.int .i64 (clsG t).2]):=by
 have hk:=qmB hw;obtain⟨ho,hn⟩:=qbV t;apply Gets.get;rw[Tm.av,Tm.cells_eq]at hk⊢;refine qow _ _ _ _ ?_;rw[hk];simp only[clsQ,qd,qe,qkE,bneD];have hz:(clsG t).2≠0->(clsG t).1=[]:=by
  unfold clsG
  by_cases hc:t.chk=0
  ·rw[qGq hc];cases seqC (qG t).1 with
   |none=>intro _;rfl
   |some l=>
    simp only[];split
    ·intro h;exact absurd rfl h
    ·intro _;rfl
  ·rw[qGr hc];intro _;rfl
 generalize hl:(clsG t).1=l at *;generalize he:(clsG t).2=e at *
 by_cases h0:e=0
 ·subst h0;rw[qGo rfl];simp only[qFW,cond_false];have loop:∀d i:Nat,i+d=l.length->Gets (qiv 6 0 l.length i (qP l)) (·= .tup [.sl (qP l),.int .i64 0]):=by
   intro d
   induction d with
   |zero=>
    intro i hi;obtain rfl:i=l.length:=by omega
    refine qgL _ _ _ _ _ ?_;have hb:qFR (0+l.length) (qP l).length=true:=by rw[qGj,xH];omega
    have ht:qFN l.length (qGb 0 (qP l))=qP l:=qFP (by rw[List.drop_zero,xH];exact qFH _);rw[qGp (by omega),hb,ht];exact⟨_,rfl,rfl⟩
   |succ d ih=>
    intro i hi;have hil:i<l.length:=by omega
    have hx:l[i]? =some l[i]:=qFE hil;obtain⟨c1,c2,c3,c4,c5⟩:=ho _ (qFK hx);have k1:=qnw (qeV c1);have k2:=qjM (l:=l[i].gs) (by omega) (λx hx=>qeV (c2 x hx));have k3:=qjM (l:=l[i].bs) (by omega) (λx hx=>qeV (c3 x hx));have gx:qFG (qP l) (0+qFQ (i:Int))=some l[i].cells:=by
     rw[qGi,qu,qFT,qdM,hx];rfl
    have gs:List.set (qP l) (0+qFQ (i:Int)) l[i].cells=qP l:=by
     rw[qGi,qFT,qnY,List.set_getElem_self]
    have h1:=ih (i+1) (by omega);refine qgL _ _ _ _ _ ?_;rw[qGo (show(i:Int)<(l.length:Int) by omega),qv,qD,qGo hil,gx,qN hil (show l.length<1099511627776 by omega)];have b6:qFR 6 l[i].cells.length=true:=rfl;have t6:qFN 6 l[i].cells=l[i].cells:=rfl;have d6:qGb 6 l[i].cells=[]:=rfl;simp only[show qFY 6 6=true from rfl,cond_true,qF7,qd,b6,t6,d6]
    unfold Cl.cells at gs⊢;simp only[ql,qe,qaY,q5,kNil,qB,k1,k2,k3,qd,yj,gs];exact h1
  exact loop l.length 0 (by omega)
 ·rw[qGp h0,hz h0];exact⟨_,rfl,rfl⟩
end Go.Proofs.YtgleolmhpmljhaaGreat
end
noncomputable section
namespace Go.Av
def Tm.cellsN(t:Tm):List AV:=[.int .i64 t.kind,.int .i64 t.num,.str t.str,.lsl (qa t.subs)]
def yG(l:List Tm):List (List AV):=l.map Tm.cellsN
theorem qfs(l:List Tm):(yG l).length=l.length:=by simp[yG]
theorem qtN(a b:List Tm):yG (a++b)=yG a++yG b:=by simp[yG]
theorem qvD:∀l:List Tm,unlR (yG l)=some (qa l)
 |[]=>by rw[qa];rfl
 |t::l=>by
  have h:=qvD l;obtain⟨k,n,s,r⟩:=t;rw[qF,Tm.cells_mk];show unlR (Tm.cellsN (.mk k n s r)::yG l)=_;rw[unlR,h];rfl
def Cl.cellsN(c:Cl):List AV:=[.int .i64 c.head.kind,.int .i64 c.head.num,.str c.head.str,.lsl (qa c.head.subs),.lsl (qa c.gs),.lsl (qa c.bs)]
def yq(l:List Cl):List (List AV):=l.map Cl.cellsN
theorem qft(l:List Cl):(yq l).length=l.length:=by simp[yq]
theorem qtO(a b:List Cl):yq (a++b)=yq a++yq b:=by simp[yq]
theorem qvE:∀l:List Cl,unlR (yq l)=some (qP l)
 |[]=>rfl
 |c::l=>by
  have h:=qvE l;show unlR (Cl.cellsN c::yq l)=some (Cl.cells c::qP l);rw[unlR,h];rfl
end Go.Av
namespace Go.Proofs.YtgleolmhpmljhaaGreat.N
open Go.Av
theorem qhd{l:List Tm}(hlen:l.length<1099511627776)(hc:∀x∈l,x.Ok):EVn (EV cfg) 52 [.sl (qa l)]=some (.sl (qa l)):=by
 have loop:∀d i:Nat,i+d=l.length->Gets (qiy (qa l) i i (yG (l.take i))) (·= .sl (qa l)):=by
  intro d
  induction d with
  |zero=>
   intro i hi;refine qgO _ _ _ _ ?_;unfold rs4;obtain rfl:i=l.length:=by omega
   have hb:qFR (0+l.length) (yG l).length=true:=by rw[qGj,qfs];omega
   have ht:qFN l.length (yG l)=yG l:=qFP (by rw[qfs];exact qFH _);rw[List.take_length,hb,ht,qvD,qb,qGp (by omega)];exact⟨_,rfl,rfl⟩
  |succ d ihd=>
   intro i hi;have hil:i<l.length:=by omega
   refine qgO _ _ _ _ ?_;unfold rs4;have hx:l[i]? =some l[i]:=qFE hil;have h1:=qqR (hc l[i] (qFK hx));have h2:=ihd (i+1) (by omega);have e1:l.take (i+1)=l.take i++[l[i]]:=by rw[qGk,hx];rfl
   have ht:(yG (l.take i)).length=i:=by rw[qfs,qF9];omega
   have e2:qF2 (qFN i (yG (l.take i))) [l[i].cellsN]=yG (l.take (i+1)):=by
    rw[qFP (by omega),e1,qtN];rfl
   have e3:qFR (0+i) (yG (l.take i)).length=true:=by rw[ht,qGj];omega
   rw[qb,qGo (show(i:Int)<(l.length:Int) by omega),qv,qD,qGo hil,qY hx,qN hil hlen,e3,xg (by omega)];simp only[cond_true,qF7,qf,qF3,qi,qh,xE,qB,h1,qd,yj];unfold Tm.cellsN at e2;rw[e2];exact h2
 apply Gets.get;refine qov _ ?_;exact loop l.length 0 (by omega)
theorem qox{t:Tm}(hw:t.w<1099511627776):EVn (EV cfg) 17 [t.av]=some (.tup [.sl (qP (clsG t).1),.int .i64 (clsG t).2]):=by
 have hk:=qmB hw;rw[←qFy _ rfl rfl]at hk;obtain⟨ho,hn⟩:=qbV t;apply Gets.get;rw[Tm.av,Tm.cells_eq]at hk⊢;refine qm6 _ _ _ _ ?_;rw[hk];simp only[clsQ,qd,qe,qkE,bneD];have hz:(clsG t).2≠0->(clsG t).1=[]:=by
  unfold clsG
  by_cases hc:t.chk=0
  ·rw[qGq hc];cases seqC (qG t).1 with
   |none=>intro _;rfl
   |some l=>
    simp only[];split
    ·intro h;exact absurd rfl h
    ·intro _;rfl
  ·rw[qGr hc];intro _;rfl
 generalize hl:(clsG t).1=l at *;generalize he:(clsG t).2=e at *
 by_cases h0:e=0
 ·subst h0;rw[qGo rfl];simp only[qFW,cond_false];have loop:∀d i:Nat,i+d=l.length->Gets (qfk 6 0 l.length i (yq (l.take i)++qP (l.drop i))) (·= .tup [.sl (qP l),.int .i64 0]):=by
   intro d
   induction d with
   |zero=>
    intro i hi;obtain rfl:i=l.length:=by omega
    refine qf9 _ _ _ _ _ ?_;rw[List.take_length,List.drop_length,show qP []=[]from rfl,qGh];have hb:qFR (0+l.length) (yq l).length=true:=by rw[qGj,qft];omega
    have ht:qFN l.length (qGb 0 (yq l))=yq l:=qFP (by rw[List.drop_zero,qft];exact qFH _);rw[qGp (by omega),hb,ht,qvE];exact⟨_,rfl,rfl⟩
   |succ d ih=>
    intro i hi;have hil:i<l.length:=by omega
    have hx:l[i]? =some l[i]:=qFE hil;obtain⟨c1,c2,c3,c4,c5⟩:=ho _ (qFK hx);have k1:=qqR (qeV c1);have k2:=qhd (l:=l[i].gs) (by omega) (λx hx=>qeV (c2 x hx));have k3:=qhd (l:=l[i].bs) (by omega) (λx hx=>qeV (c3 x hx));have hlen:(yq (l.take i)).length=i:=by rw[qft,qF9];omega
    have hd:l.drop i=l[i]::l.drop (i+1):=qFS hil;have gx:qFG (yq (l.take i)++qP (l.drop i)) (0+qFQ (i:Int))=some l[i].cells:=by
     rw[qGi,qu,qFT,qF0 (by omega),hlen,Nat.sub_self,hd];rfl
    have gs:List.set (yq (l.take i)++qP (l.drop i)) (0+qFQ (i:Int)) l[i].cellsN=yq (l.take (i+1))++qP (l.drop (i+1)):=by
     rw[qGi,qFT,List.set_append_right _ _ (by omega),hlen,Nat.sub_self,hd];show yq (l.take i)++(l[i].cellsN::qP (l.drop (i+1)))=_;rw[qGk,hx,qtO,qGl];rfl
    have h1:=ih (i+1) (by omega);refine qf9 _ _ _ _ _ ?_;rw[qGo (show(i:Int)<(l.length:Int) by omega),qv,qD,qGo hil,gx,qN hil (show l.length<1099511627776 by omega)];have b6:qFR 6 l[i].cells.length=true:=rfl;have t6:qFN 6 l[i].cells=l[i].cells:=rfl;have d6:qGb 6 l[i].cells=[]:=rfl;simp only[show qFY 6 6=true from rfl,cond_true,qF7,qd,b6,t6,d6]
    unfold Cl.cellsN at gs;unfold Cl.cells;simp only[ql,qe,qaY,q5,kNil,qB,k1,k2,k3,qd,yj,gs];exact h1
  exact loop l.length 0 (by omega)
 ·rw[qGp h0,hz h0];exact⟨_,rfl,rfl⟩
end Go.Proofs.YtgleolmhpmljhaaGreat.N
end
noncomputable section
namespace Go.Av
noncomputable section
variable {L : Lent} {C3 C' : qk} {μ μ' : MMap} {w0 : World}
theorem qAb(hD:∀b o v,@LC (vQ w0) C3 b o=some v->C' b o=some v){x:AV}{v:Value}(hn:x.neT0=true)(h: @Rep (vQ w0) C3 μ x.lend v): @Rep L C' μ' x v:=by
 cases x<;>simp[AV.neT0]at hn
 ·cases h;exact @Rep.int L _ _ _ _
 ·cases h;exact @Rep.bool L _ _ _
 ·cases h;exact @Rep.str L _ _ _
 ·rename_i rows;have h: @Rep (vQ w0) C3 μ (.lsl rows) v:=h;cases h with
  |lsl _ _ h0=>exact @Rep0.rep C' μ' L _ _ _ hD h0
theorem qAa(hD:∀b o v,@LC (vQ w0) C3 b o=some v->C' b o=some v){x:AV}{v:Value}(hn:x.neT1=true)(h: @Rep (vQ w0) C3 μ x.lend1 v): @Rep L C' μ' x v:=by
 by_cases hx:∃cs,x= .agg cs
 ·obtain⟨cs,rfl⟩:=hx;have hn:cs.all AV.neT0=true:=hn;have h: @Rep (vQ w0) C3 μ (.agg (cs.map AV.lend)) v:=h;cases h with
  |agg _ us hl hh=>
   refine @Rep.agg L _ _ _ us (by simpa using hl) (λi a v h1 h2=>?_);exact qAb hD (List.all_eq_true.1 hn a (qFK h1)) (hh i _ v (by rw[List.getElem?_map,h1];rfl) h2)
 ·have hn0:x.neT0=true:=by cases x<;>first|exact absurd ⟨_,rfl⟩ hx|exact hn
  rw[qwu hn0]at h;exact qAb hD hn0 h
theorem qFi(hD:∀b o v,@LC (vQ w0) C3 b o=some v->C' b o=some v){x:AV}{v:Value}(hn:x.neT=true)(h: @Rep (vQ w0) C3 μ x.lendT v): @Rep L C' μ' x v:=by
 by_cases hx:∃cs,x= .tup cs
 ·obtain⟨cs,rfl⟩:=hx;have hn:cs.all AV.neT1=true:=hn;have h: @Rep (vQ w0) C3 μ (.tup (cs.map AV.lend1)) v:=h;cases h with
  |tup _ us hl hh=>
   refine @Rep.tup L _ _ _ us (by simpa using hl) (λi a v h1 h2=>?_);exact qAa hD (List.all_eq_true.1 hn a (qFK h1)) (hh i _ v (by rw[List.getElem?_map,h1];rfl) h2)
 ·have hn1:x.neT1=true:=by cases x<;>first|exact absurd ⟨_,rfl⟩ hx|exact hn
  rw[quj hn1]at h;exact qAa hD hn1 h
end
theorem qAM{L:Lent}{P:Program}{s:Sem Next}{C C4:qk}{w:World}{r V:AV}{G:AH}(hw: @Wld L C (λ_=>none) [] w)(hcall:vB P s w (@vY (vQ w) C4 (λ_=>none) [] w r G))(hV:qfw G r=some V)(hne:V.neT=true):
  vB P s w (@vY L C (λ_=>none) [] w V []):=by
 refine hcall.mono λv w1 ⟨C2,μ2,e1,e2,e3⟩=>?_
 obtain⟨C3,a1,a2,a3,a4⟩:= @qlI _ _ (vQ w) _ _ e2;have x:=e3.trans (a3 0 (Nat.zero_le _)) (qFH _);have hv:=(@qj2 _ _ (vQ w) G (λ_=>none) r V v a4 (@Rep.mono (vQ w) _ _ _ _ a1 (λ_ _ h=>h) _ _ e1) hV).1;have old:∀b,b<w.heap.size->w1.heap[b]? =w.heap[b]? :=λb hb=>(x.fr b hb vE).1
 have hw1: @Wld L C (λ_=>none) [] w1:=hw.world x.size old;have hD:∀b o u,@LC (vQ w) C3 b o=some u->w.heap.size<=b∧C3 b o=some u:=λb o u h=>by
  unfold LC at h;split at h
  ·rename_i hn;exact⟨hn,h⟩
  ·cases h
 have cell:∀b o u,@LC (vQ w) C3 b o=some u->w1.cell? ⟨b,o,none⟩=some u∧w1.frozen? ⟨b,o,none⟩=false:=λb o u h=>by
  obtain⟨h1,h2⟩:=hD b o u h;exact⟨@Wld.cl (vQ w) _ _ _ _ a2 b o u h2,(@Wld.lnt (vQ w) _ _ _ _ a2).2.1 trivial b o u h1 h2⟩
 have hC:∀b o v,C b o=some v->b<w.heap.size:=λb o v h=>hw.block_lt h
 let D:qk:= @LC (vQ w) C3
 let C':qk:=λb o=>match C b o with|some v=>some v|none=>D b o
 have cC:∀b o v,C b o=some v->C' b o=some v:=λb o v h=>by show(match C b o with|some v=>some v|none=>D b o)=some v;rw[h]
 have cD:∀b o v,D b o=some v->C' b o=some v:=λb o v h=>by
  show(match C b o with|some v=>some v|none=>D b o)=some v;cases hc:C b o with
  |none=>exact h
  |some u=>have:=hC _ _ _ hc;have:=(hD b o v h).1;omega
 have split:∀b o v,C' b o=some v->C b o=some v∨D b o=some v:=λb o v h=>by
  have h:(match C b o with|some v=>some v|none=>D b o)=some v:=h;cases hc:C b o with
  |none=>rw[hc]at h;exact .inr h
  |some u=>rw[hc]at h;exact .inl h
 refine⟨C',λ_=>none,qFi cD hne hv,⟨λb o v h=>?_,λid m hm=>(nomatch hm),λid hi=>rfl,λid blk h1=>(by simp at h1),λid d sz rs h1=>(by simp at h1),λi i' b b' m m' h1=>(by simp at h1),yL.nil,hw1.lnt.1,λhu b o v hn h=>?_,hw1.lnt.2.2⟩,⟨x.os,x.tape,x.output,x.size,cC,λid m _ hm=>(nomatch hm),λb hb hnl=>⟨old b hb,vE,?_⟩,qFH _⟩⟩
 ·rcases split b o v h with h|h
  ·exact hw1.cl _ _ _ h
  ·exact(cell b o v h).1
 ·rcases split b o v h with h|h
  ·exact hw1.lnt.2.1 hu b o v hn h
  ·exact(cell b o v h).2
 ·funext o
  show(match C b o with|some v=>some v|none=>D b o)=C b o;cases hc:C b o with
  |some u=>rfl
  |none=>
   cases hd:D b o with
   |none=>rfl
   |some u=>have:=(hD b o u hd).1;omega
theorem qDC{L:Lent}{C:qk}{w:World}(hw: @Wld L C (λ_=>none) [] w): @Wld L (@LC L C) (λ_=>none) [] w:=by
 refine @Wld.mk L _ _ _ _ (λb o v h=>?_) (λid m hm=>(nomatch hm)) (λid hi=>rfl) (λid blk h1=>(by simp at h1)) (λid d sz rs h1=>(by simp at h1)) (λi i' b b' m m' h1=>(by simp at h1)) yL.nil ⟨hw.lnt.1,λhu b o v hn h=>?_,hw.lnt.2.2⟩
 ·unfold LC at h;split at h
  ·exact hw.cl _ _ _ h
  ·exact(hw.lnt.1 _ _ _ h).1
 ·unfold LC at h;rw[qGq hn]at h;exact hw.lnt.2.1 hu b o v hn h
end Go.Av
namespace Go.Proofs.YtgleolmhpmljhaaGreat.L
open Go.Av Go.ChangeShapes Go.WideShapes Go.ChangeAt Go.RowKit
def OkX[Lent](f:Nat)(s:List AV->AH->Option (AV×AH)):Prop:=∀args H r H',s args H=some (r,H')->∀C μ w vs,qy C μ args vs->Wld C μ H w->vB Tryz.prog (callFunc f vs) w (vY C μ H w r H')
theorem qqT[Lent]{f:Nat}{s:List AV->AH->Option (AV×AH)}{l:List (Nat×(List AV->AH->Option (AV×AH)))}(h:OkX f s)(hl:∀q∈l,OkX q.1 q.2):∀q∈(f,s)::l,OkX q.1 q.2:=λq hq=>by
 rcases qF6.1 hq with rfl|hq
 ·exact h
 ·exact hl q hq
theorem qui[Lent]:∀q∈([]:List (Nat×(List AV->AH->Option (AV×AH)))),OkX q.1 q.2:=λq hq=>by cases hq
theorem qFq[L:Lent](f:Nat):OkX f (extL f):=λargs H r H' hr C μ w vs ha hw=>by
 unfold extL at hr;split at hr
 case h_2=>exact(yE Go.Proofs.YtgleolmhpmljhaaGreat.cfg_ok).calls _ _ _ _ _ hr C μ w vs _ ha hw rfl
 rename_i a b c rows;split at hr
 case isFalse=>cases hr
 rename_i hx;obtain⟨V,hV,hr⟩:=qFL.1 hr;split at hr
 case isFalse=>cases hr
 rename_i hne;cases hr;have hμ:μ=λ_=>none:=by
  funext id
  cases hm:μ id with
  |none=>rfl
  |some m=>have:=hw.dom id m hm;simp at this
 subst hμ;unfold EVn at hV;obtain⟨q,hq,hnv⟩:=qFL.1 hV;obtain⟨⟨k,n,s,l⟩,ht⟩:=hx;rw[Tm.av_mk]at ht;simp only[AV.agg.injEq,List.cons.injEq,AV.sl.injEq,and_true]at ht;obtain⟨rfl,rfl,rfl,rfl⟩:=ht;have ha': @qy (vQ w) (@LC L C) (λ_=>none) [.agg [.int .i64 k,.int .i64 n,.str s,.sl (qa l)]] vs:=by
  obtain⟨h1,h2⟩:=ha;refine⟨by simpa using h1,λi x v hi hv=>?_⟩
  match i,hi with
  |0,hi=>
   cases hi;have h3:=h2 0 _ v rfl hv;cases h3 with
   |agg _ us hl hh=>
    refine @Rep.agg (vQ w) _ _ _ us hl (λi a v h1 h2=>?_)
    match i,h1 with
    |0,h1=>cases h1;have h4:=hh 0 _ v rfl h2;cases h4;exact @Rep.int (vQ w) _ _ _ _
    |1,h1=>cases h1;have h4:=hh 1 _ v rfl h2;cases h4;exact @Rep.int (vQ w) _ _ _ _
    |2,h1=>cases h1;have h4:=hh 2 _ v rfl h2;cases h4;exact @Rep.str (vQ w) _ _ _
    |3,h1=>
     cases h1;have h4:=hh 3 _ v rfl h2;cases h4 with
     |lsl _ _ h0=>exact @Rep0.rep (@LC L C) (λ_=>none) (vQ w) _ _ _ (λ_ _ _ h=>h) h0
    |i+4,h1=>simp at h1
  |i+1,hi=>simp at hi
 exact qAM hw (@OracOk2.calls (vQ w) _ _ (@yE (vQ w) _ (@N.cfg_ok (vQ w))) _ _ _ _ _ hq _ _ w vs _ ha' (qDy (qDC hw)) rfl) hnv hne
theorem qts[Lent]:∀q∈xL,OkX q.1 q.2:=by
 unfold xL
 repeat' first|exact qui|exact qFq _|refine qqT ?_ ?_
theorem cfg_ok[Lent]:CfgOk cfg where
 ty:=⟨λt ti h=>BT.all_look qha h⟩
 mixed:=qdo
 named:=λf fn _ h=>qdn f fn h
 ext:=λf s h args H r H' hr C μ w vs ha hw=>by
  have h:ext f=some s:=h;unfold ext at h;split at h
  ·rename_i s' hs;cases h;exact qci (p:=OkX) qts hs args H r H' hr C μ w vs ha hw
  ·split at h
   ·cases h;exact(yE Go.Proofs.YtgleolmhpmljhaaGreat.cfg_ok).calls _ _ _ _ _ hr C μ w vs _ ha hw rfl
   ·exact Go.Proofs.YtgleolmhpmljhaaGreat.cfg_ok.ext f s h args H r H' hr C μ w vs ha hw
end Go.Proofs.YtgleolmhpmljhaaGreat.L
end
noncomputable section
namespace Go.Av
def DatA(x:AV):Prop:=∀(L:Lent) (C:qk) (μ:MMap) (v:Value),@Rep L C μ x v->Rep0 C x v
def Dat0:AV->Prop
 | .sl rows=>DatA (.sl rows)
 |_=>True
def Dat1:AV->Prop
 | .agg cs=>∀a∈cs,Dat0 a
 |a=>Dat0 a
def DatT:AV->Prop
 | .tup cs=>∀a∈cs,Dat1 a
 |a=>Dat1 a
end Go.Av
end
noncomputable section
namespace Go.Proofs.YtgleolmhpmljhaaGreat.M
open Go.Av
def vn{α:Type}(f:Nat):List (Nat×α)->Option α
 |[]=>none
 |p::l=>if qFY p.1 f then some p.2 else vn f l
theorem qci{α:Type}{p:Nat->α->Prop}{f:Nat}{x:α}:∀{l:List (Nat×α)},(∀q∈l,p q.1 q.2)->vn f l=some x->p f x
 |[],_,h=>by cases h
 |q::l,ha,h=>by
  rw[vn]at h;split at h
  ·rename_i e;cases h;rw[←qFO e];exact ha q (by simp)
  ·exact qci (λq hq=>ha q (by simp[hq])) h
theorem yO{f:Nat}{fn:Func}:∀{l:List (Nat×Func)},yw f l=some fn->∃p∈l,p.1=f
 |[],h=>by cases h
 |q::l,h=>by
  rw[yw]at h;split at h
  ·rename_i e;exact⟨q,by simp,qFO e⟩
  ·obtain⟨p,h1,h2⟩:=yO h;exact⟨p,by simp[h1],h2⟩
def qlK:List (Nat×CMode):=[(10,.over),(7,.rgn),(8,.pfrz)]
def kL:List (Nat×Unit):=[(6,()),(11,()),(15,()),(16,()),(36,()),(37,()),(39,()),(43,()),(77,()),(5,()),(9,()),(8,())]
open Classical in
def extM (f:Nat) (args:List AV) (H:AH):Option (AV×AH):=
 match args,H with
 |[.agg [a,b,c,.sl rows],.int .i64 p],[]=>if ∃t:Tm,t.av= .agg [a,b,c,.sl rows]then(EVf (EV L.cfg) f [.agg [a,b,c,.lsl rows],.int .i64 p]).bind λV=>if V.neT=true∧DatT V then some (rgIn 0 V,[.reg])else none else none
 |_,_=>none
def xL:List (Nat×(List AV->AH->Option (AV×AH))):=[(7,extM 7),(12,EV L.cfg (.f 12))]
def frzL:List (Nat×Nat×Nat):=[]
def qd3(f r k:Nat):List (Nat×Nat×Nat)->Bool
 |[]=>false
 |p::l=>(qFY p.1 f&&(qFY p.2.1 r&&qFY p.2.2 k))||qd3 f r k l
def ext(f:Nat):Option (List AV->AH->Option (AV×AH)):=
 match vn f xL with
 |some s=>some s
 |none=>match vn f kL with
  |some _=>some (EV Go.Proofs.YtgleolmhpmljhaaGreat.cfg (.f f))
  |none=>Go.Proofs.YtgleolmhpmljhaaGreat.cfg.ext f
def cfg:Cfg:={ Go.Proofs.YtgleolmhpmljhaaGreat.cfg with mode:=λf=>match vn f qlK with|some m=>m|none=>Go.Proofs.YtgleolmhpmljhaaGreat.cfg.mode f,frz:=λf r k=>qd3 f r k frzL||Go.Proofs.YtgleolmhpmljhaaGreat.cfg.frz f r k,ext:=ext }
theorem qdr:qad.all (λp=>(vn p.1 xL).isNone&&(vn p.1 kL).isNone)=true:=rfl
instance inl_ok:InlOk cfg where
 ok f fn h:=by
  have h:yw f qad=some fn:=h
  obtain⟨h1,h2,h3,h4⟩:=Go.Proofs.YtgleolmhpmljhaaGreat.inl_ok.ok f fn h
  refine⟨?_,h2,h3,h4⟩
  obtain⟨p,hp,rfl⟩:=yO h
  have:=List.all_eq_true.1 qdr p hp
  rw[qFJ,Option.isNone_iff_eq_none,Option.isNone_iff_eq_none]at this
  show ext p.1=none
  unfold ext
  rw[this.1,this.2]
  exact h1
theorem ev_k{f:Nat}(hx:(vn f xL).isNone=true)(hk:(vn f kL).isSome=true)(args:List AV)(H:AH):EV cfg (.f f) args H=EV Go.Proofs.YtgleolmhpmljhaaGreat.cfg (.f f) args H:=by
 have he:cfg.ext f=some (EV Go.Proofs.YtgleolmhpmljhaaGreat.cfg (.f f)):=by
  show ext f=_;unfold ext;rw[Option.isNone_iff_eq_none]at hx;obtain⟨u,hu⟩:=Option.isSome_iff_exists.1 hk;rw[hx,hu]
 have h1:∀n,evF cfg (n+1) (.f f) args H=EV Go.Proofs.YtgleolmhpmljhaaGreat.cfg (.f f) args H:=λn=>by
  show vR cfg (evF cfg n) (.f f) args H=_;unfold vR;simp only[he]
 have h0:evF cfg 0 (.f f) args H=none:=rfl;cases h:EV Go.Proofs.YtgleolmhpmljhaaGreat.cfg (.f f) args H with
 |some r=>exact qhB (g:=λn=>evF cfg n (.f f) args H) (λn r h=>qbR cfg n (.f f) args H r h) (n:=1) ((h1 0).trans h)
 |none=>
  have:¬∃(n:Nat) (r:AV×AH),evF cfg n (.f f) args H=some r:=by
   rintro⟨n,r,hr⟩;cases n with
   |zero=>rw[h0]at hr;cases hr
   |succ n=>rw[h1,h]at hr;cases hr
  exact dif_neg this
theorem qb6{f:Nat}(args:List AV)(hx:(vn f xL).isNone=true)(hk:(vn f kL).isSome=true):EVs (EV cfg) f args=EVs (EV Go.Proofs.YtgleolmhpmljhaaGreat.cfg) f args:=by unfold EVs;rw[ev_k hx hk]
theorem qi3{f:Nat}(args:List AV)(hx:(vn f xL).isNone=true)(hk:(vn f kL).isSome=true):EVf (EV cfg) f args=EVf (EV Go.Proofs.YtgleolmhpmljhaaGreat.cfg) f args:=by unfold EVf;rw[ev_k hx hk]
end Go.Proofs.YtgleolmhpmljhaaGreat.M
end
noncomputable section
namespace Go.Av
noncomputable section
variable {L L' : Lent} {C D : qk} {μ μ' : MMap}
theorem qz9(hm:(∃b o,D b o≠none)->∃m,μ' 0=some m∧m.D=D){x:AV}{v:Value}(hn:x.neT0=true)(hd:Dat0 x)(h: @Rep L' D μ x v): @Rep L C μ' (x.regn 0) v:=by
 cases x<;>simp[AV.neT0]at hn
 ·cases h;exact @Rep.int L _ _ _ _
 ·cases h;exact @Rep.bool L _ _ _
 ·cases h;exact @Rep.str L _ _ _
 ·rename_i rows;have h0:Rep0 D (.sl rows) v:=hd L' D μ v h;exact @Rep.rsl L _ _ 0 rows v D (λhne=>hm (qy6 h0 hn hne)) h0
theorem qz8(hm:(∃b o,D b o≠none)->∃m,μ' 0=some m∧m.D=D){x:AV}{v:Value}(hn:x.neT1=true)(hd:Dat1 x)(h: @Rep L' D μ x v): @Rep L C μ' (x.rgA 0) v:=by
 by_cases hx:∃cs,x= .agg cs
 ·obtain⟨cs,rfl⟩:=hx;have hn:cs.all AV.neT0=true:=hn;cases h with
  |agg _ us hl hh=>
   refine @Rep.agg L _ _ _ us (by simpa using hl) (λi a v h1 h2=>?_);obtain⟨y,hy,rfl⟩:=qw h1;exact qz9 hm (List.all_eq_true.1 hn y (qFK hy)) (hd y (qFK hy)) (hh i _ v hy h2)
 ·have hn0:x.neT0=true:=by cases x<;>first|exact absurd ⟨_,rfl⟩ hx|exact hn
  have hd0:Dat0 x:=by cases x<;>first|exact absurd ⟨_,rfl⟩ hx|exact hd
  rw[qyx hn0];exact qz9 hm hn0 hd0 h
theorem qz7(hm:(∃b o,D b o≠none)->∃m,μ' 0=some m∧m.D=D){x:AV}{v:Value}(hn:x.neT=true)(hd:DatT x)(h: @Rep L' D μ x v): @Rep L C μ' (rgIn 0 x) v:=by
 by_cases hx:∃cs,x= .tup cs
 ·obtain⟨cs,rfl⟩:=hx;have hn:cs.all AV.neT1=true:=hn;cases h with
  |tup _ us hl hh=>
   refine @Rep.tup L _ _ _ us (by simpa using hl) (λi a v h1 h2=>?_);obtain⟨y,hy,rfl⟩:=qw h1;exact qz8 hm (List.all_eq_true.1 hn y (qFK hy)) (hd y (qFK hy)) (hh i _ v hy h2)
 ·have hn1:x.neT1=true:=by cases x<;>first|exact absurd ⟨_,rfl⟩ hx|exact hn
  have hd1:Dat1 x:=by cases x<;>first|exact absurd ⟨_,rfl⟩ hx|exact hd
  rw[qwt hn1];exact qz8 hm hn1 hd1 h
end
end Go.Av
namespace Go.Proofs.YtgleolmhpmljhaaGreat.M
open Go.Av Go.ChangeShapes Go.WideShapes Go.ChangeAt Go.RowKit
theorem qur[Lent](hu:Lent.u){f:FuncId}{al:List AV}{V:AV}(he:EVf (EV Go.Proofs.YtgleolmhpmljhaaGreat.L.cfg) f al=some V){w:World}{vs:Array Value}(hw:Wld (λ_=>λ_=>none) (λ_=>none) [] w)(ha:qy (λ_=>λ_=>none) (λ_=>none) al vs):
  vB Tryz.prog (callFunc f vs) w (λv w1=>∃(D:qk) (μ2:MMap),Rep D μ2 V v∧(∀b o u,D b o=some u->w1.cell? ⟨b,o,none⟩=some u∧w1.frozen? ⟨b,o,none⟩=false∧w.heap.size<=b) ∧
   (∀b,b<w.heap.size->w1.heap[b]? =w.heap[b]?)∧w.heap.size<=w1.heap.size∧w1.os=w.os∧w1.tape=w.tape∧w1.output=w.output):=by
 have he2:=qtm he;clear he;obtain⟨qr,qH,hq,hqe⟩:=he2;have hO:=yE Go.Proofs.YtgleolmhpmljhaaGreat.L.cfg_ok;have hcall:=hO.calls _ _ _ _ _ hq (λ_=>λ_=>none) (λ_=>none) w vs _ ha hw rfl;refine hcall.mono λv w1 ⟨C2,μ2,e1,e2,e3⟩=>?_
 obtain⟨C3,a1,a2,a3⟩:=xb qr.msIds e2;have x:=e3.trans (a3 0 (Nat.zero_le _)) (qFH _);have r1:Rep C3 μ2 V v:=by
  rw[←hqe];exact((e1.mono a1 (λ_ _ h=>h)).frzA (xU.of a2)).fgA
 have hge:∀b o u,C3 b o=some u->w.heap.size<=b:=λb o u h=>by
  rcases Nat.lt_or_ge b w.heap.size with hb|hb
  ·have h5:=(x.fr b hb vE).2.2;rw[h5]at h;cases h
  ·exact hb
 exact⟨C3,μ2,r1,λb o u h=>⟨a2.cl b o u h,a2.lnt.2.1 hu b o u (hw.lnt.2.2 b (hge b o u h)) h,hge b o u h⟩,λb hb=>(x.fr b hb vE).1,x.size,x.os,x.tape,x.output⟩
theorem qyG[L:Lent]{f:FuncId}{al:List AV}{V:AV}(he:EVf (EV Go.Proofs.YtgleolmhpmljhaaGreat.L.cfg) f al=some V)(hne:V.neT=true)(hdt:DatT V){C:qk}{w:World}{vs:Array Value}(hw:Wld C (λ_=>none) [] w)(ha': @qy (vK L C w) (λ_=>λ_=>none) (λ_=>none) al vs):
  vB Tryz.prog (callFunc f vs) w (vY C (λ_=>none) [] w (rgIn 0 V) [.reg]):=by
 have hlent:∀b o v,(vK L C w).l b o=some v->w.cell? ⟨b,o,none⟩=some v∧∀ob,(vK L C w).k b=some ob->w.heap[b]? =some ob:=λb o v h=>by
  have h:(match C b o with|some v=>some v|none=>L.l b o)=some v:=h;split at h
  ·rename_i u hu;cases h;exact⟨hw.cl _ _ _ hu,λ_ h=>(nomatch h)⟩
  ·exact⟨(hw.lnt.1 _ _ _ h).1,λ_ h=>(nomatch h)⟩
 have hw': @Wld (vK L C w) (λ_=>λ_=>none) (λ_=>none) [] w:=
  @Wld.mk (vK L C w) _ _ _ _ (λb o v h=>(nomatch h)) (λid m hm=>(nomatch hm)) (λid hi=>rfl) (λid blk h1=>(by simp at h1)) (λid d sz rs h1=>(by simp at h1)) (λi i' b b' m m' h1=>(by simp at h1)) yL.nil ⟨hlent,λ_ b o v _ h=>(nomatch h),λb hb=>hb⟩
 refine(@qur (vK L C w) trivial _ _ _ he _ _ hw' ha').mono λv w1 ⟨C3,μ2,r1,hD,old,hsz,hos,htp,hou⟩=>?_
 have hw1:Wld C (λ_=>none) [] w1:=hw.world hsz old
 by_cases hex:∃b o,C3 b o≠none
 ·obtain⟨b0,o0,hb0⟩:=hex;have hhas:∀b,(MI.mk b0 0 0 0 C3).has b->∃o u,C3 b o=some u:=by
   rintro b (h|⟨o,h⟩)
   ·have:b0=b:=h;subst this;cases hc:C3 b0 o0 with
    |none=>exact absurd hc hb0
    |some u=>exact⟨o0,u,hc⟩
   ·cases hc:C3 b o with
    |none=>exact absurd hc h
    |some u=>exact⟨o,u,hc⟩
  have hge:∀b,(MI.mk b0 0 0 0 C3).has b->w.heap.size<=b:=λb hb=>by
   obtain⟨o,u,hc⟩:=hhas b hb;exact(hD b o u hc).2.2
  have hlt:∀b,(MI.mk b0 0 0 0 C3).has b->b<w1.heap.size:=λb hb=>by
   obtain⟨o,u,hc⟩:=hhas b hb;exact World.block_lt_of_cell? w1 ⟨b,o,none⟩ ((hD b o u hc).1)
  obtain⟨n1,n2,n3,n4,n5⟩:=hw1.new (nid:=none) (k:=0) (H':=[.reg]) (blk:=.reg) (m:=MI.mk b0 0 0 0 C3) rfl (λb hb=>vE) hlt
   (λb hb o=>by
    cases hc:C b o with
    |none=>rfl
    |some u=>have h5:=hw.block_lt hc;have h6:=hge b hb;omega)
   (λb hb=>hw.lent_none (hge b hb)) rfl (λb o u hd=>⟨(hD b o u hd).1,(hD b o u hd).2.1⟩)
  refine⟨C,_,qz7 (λ_=>⟨_,by unfold upd;rw[qGq rfl],rfl⟩) hne hdt r1,n1,⟨hos,htp,hou,hsz,λ_ _ _ h=>h,λid m _ hm=>(nomatch hm),λb hb hnl=>⟨old b hb,λhl=>?_,rfl⟩,Nat.zero_le _⟩⟩;rcases n4 b hl with h|h
  ·exact vE h
  ·have:=hge b h;omega
 ·obtain⟨n1,n2⟩:=hw1.newV (nid:=none) (k:=0) (H':=[.reg]) (blk:=.reg) rfl rfl rfl trivial;refine⟨C,_,qz7 (μ':=λ_=>none) (λh=>absurd h hex) hne hdt r1,n1,⟨hos,htp,hou,hsz,λ_ _ _ h=>h,λid m _ hm=>(nomatch hm),λb hb hnl=>⟨old b hb,λhl=>?_,rfl⟩,Nat.zero_le _⟩⟩;obtain⟨i,bi,mi,h1,h2,h3,h4⟩:=hl;cases h3
theorem qxQ[L:Lent]{k n p:Int}{s:List UInt8}{l:List Tm}{C:qk}{w:World}{vs:Array Value}(hw:Wld C (λ_=>none) [] w)(ha:qy C (λ_=>none) [.agg [.int .i64 k,.int .i64 n,.str s,.sl (qa l)],.int .i64 p] vs):
  @qy (vK L C w) (λ_=>λ_=>none) (λ_=>none) [.agg [.int .i64 k,.int .i64 n,.str s,.lsl (qa l)],.int .i64 p] vs:=by
 obtain⟨h1,h2⟩:=ha;refine⟨by simpa using h1,λi a v hi hv=>?_⟩
 match i,hi with
 |0,hi=>
  cases hi;have h3:=h2 0 _ v rfl hv;cases h3 with
  |agg _ us hl hh=>
   refine @Rep.agg (vK L C w) _ _ _ us hl (λi a v h1 h2=>?_)
   match i,h1 with
   |0,h1=>cases h1;have h4:=hh 0 _ v rfl h2;cases h4;exact @Rep.int (vK L C w) _ _ _ _
   |1,h1=>cases h1;have h4:=hh 1 _ v rfl h2;cases h4;exact @Rep.int (vK L C w) _ _ _ _
   |2,h1=>cases h1;have h4:=hh 2 _ v rfl h2;cases h4;exact @Rep.str (vK L C w) _ _ _
   |3,h1=>
    cases h1;have h4:=hh 3 _ v rfl h2;exact @Rep.lsl (vK L C w) _ _ _ _ (Rep0.claims (λb o v h=>qwA h (hw.block_lt h)) (qeQ (.mk k n s l) v h4))
   |i+4,h1=>simp at h1
 |1,hi=>
  cases hi;have h3:=h2 1 _ v rfl hv;cases h3;exact @Rep.int (vK L C w) _ _ _ _
 |i+2,hi=>simp at hi
def OkX[Lent](f:Nat)(s:List AV->AH->Option (AV×AH)):Prop:=∀args H r H',s args H=some (r,H')->∀C μ w vs,qy C μ args vs->Wld C μ H w->vB Tryz.prog (callFunc f vs) w (vY C μ H w r H')
theorem qqT[Lent]{f:Nat}{s:List AV->AH->Option (AV×AH)}{l:List (Nat×(List AV->AH->Option (AV×AH)))}(h:OkX f s)(hl:∀q∈l,OkX q.1 q.2):∀q∈(f,s)::l,OkX q.1 q.2:=λq hq=>by
 rcases qF6.1 hq with rfl|hq
 ·exact h
 ·exact hl q hq
theorem qui[Lent]:∀q∈([]:List (Nat×(List AV->AH->Option (AV×AH)))),OkX q.1 q.2:=λq hq=>by cases hq
theorem regX[L:Lent](f:Nat):OkX f (extM f):=λargs H r H' hr C μ w vs ha hw=>by
 unfold extM at hr;split at hr
 case h_2=>cases hr
 rename_i a b c rows p;split at hr
 case isFalse=>cases hr
 rename_i hx;obtain⟨V,hV,hr⟩:=qFL.1 hr;split at hr
 case isFalse=>cases hr
 rename_i hc;cases hr;have hμ:μ=λ_=>none:=by
  funext id
  cases hm:μ id with
  |none=>rfl
  |some m=>have:=hw.dom id m hm;simp at this
 subst hμ;obtain⟨⟨k,n,s,l⟩,ht⟩:=hx;rw[Tm.av_mk]at ht;simp only[AV.agg.injEq,List.cons.injEq,AV.sl.injEq,and_true]at ht;obtain⟨rfl,rfl,rfl,rfl⟩:=ht;exact qyG hV hc.1 hc.2 hw (qxQ hw ha)
theorem lX[Lent](f:Nat):OkX f (EV L.cfg (.f f)):=λargs H r H' hr C μ w vs ha hw=>(yE L.cfg_ok).calls _ _ _ _ _ hr C μ w vs _ ha hw rfl
theorem qts[Lent]:∀q∈xL,OkX q.1 q.2:=by
 unfold xL
 repeat' first|exact qui|exact regX _|exact lX _|refine qqT ?_ ?_
theorem cfg_ok[Lent]:CfgOk cfg where
 ty:=⟨λt ti h=>BT.all_look qha h⟩
 mixed:=qdo
 named:=λf fn _ h=>qdn f fn h
 ext:=λf s h args H r H' hr C μ w vs ha hw=>by
  have h:ext f=some s:=h;unfold ext at h;split at h
  ·rename_i s' hs;cases h;exact qci (p:=OkX) qts hs args H r H' hr C μ w vs ha hw
  ·split at h
   ·cases h;exact(yE Go.Proofs.YtgleolmhpmljhaaGreat.cfg_ok).calls _ _ _ _ _ hr C μ w vs _ ha hw rfl
   ·exact Go.Proofs.YtgleolmhpmljhaaGreat.cfg_ok.ext f s h args H r H' hr C μ w vs ha hw
theorem qFz{f:Nat}{t:Tm}{p:Int}{V:AV}(hx:vn f xL=some (extM f))(he:EVf (EV L.cfg) f [avL t,.int .i64 p]=some V)(hne:V.neT=true)(hdt:DatT V)(hd:qhm [.reg] (rgIn 0 V)=some V):EVg (EV cfg) f [t.av,.int .i64 p]=some V:=by
 obtain⟨k,n,s,l⟩:=t;have e:EV cfg (.f f) [(Tm.mk k n s l).av,.int .i64 p] []=some (rgIn 0 V,[.reg]):=by
  refine qcS ?_;unfold vR;have hx:cfg.ext f=some (extM f):=by show ext f=_;unfold ext;rw[hx]
  simp only[hx];rw[Tm.av_mk];rw[qe4]at he;show extM f [.agg [.int .i64 k,.int .i64 n,.str s,.sl (qa l)],.int .i64 p] []=_;refine(qGq ⟨_,Tm.av_mk k n s l⟩).trans ?_;rw[he];exact qGq ⟨hne,hdt⟩
 unfold EVg;rw[e];exact hd
theorem qFx{f:Nat}{args:List AV}{v:AV}(hx:vn f xL=some (EV L.cfg (.f f)))(he:EVs (EV L.cfg) f args=some v):EVs (EV cfg) f args=some v:=by
 unfold EVs at he;obtain⟨q,h1,h2⟩:=qFM.1 he;have e:EV cfg (.f f) args []=some q:=by
  refine qcS ?_;unfold vR;have hx:cfg.ext f=some (EV L.cfg (.f f)):=by show ext f=_;unfold ext;rw[hx]
  simp only[hx];exact h1
 unfold EVs;rw[e];exact congrArg some h2
theorem row_calls{f:FuncId}{args:List AV}{vs:Array Value}{W:World}(hx:cfg.ext f=none)(he:EVs (EV cfg) f args=some (.bool true))(ha:qy (C0 W) M0 args vs):
  Calls Tryz.prog f vs W λe W'=>e= .returned (.bool true)∧(∀b,b<W.heap.size->W'.heap[b]? =W.heap[b]?)∧W.heap.size<=W'.heap.size∧W'.os=W.os∧W'.output=W.output:=by
 unfold EVs at he;obtain⟨q,h1,h2⟩:=qFM.1 he;have:=qzQ cfg_ok hx (r:=q.1) (H':=q.2) h1 ha (wld0 W);refine this.mono λe W' ⟨v,hv,C',μ',p1,p2,p3⟩=>?_
 rw[h2]at p1;cases p1;refine⟨hv,λb hb=>(p3.fr b hb vE).1,p3.size,p3.os,p3.output⟩
end Go.Proofs.YtgleolmhpmljhaaGreat.M
end
noncomputable section
namespace Go.Av
mutual
def AV.wt:AV->Nat
 | .str s=>s.length+1
 | .sl rows=>wtR rows+1
 |_=>1
def wtL:List AV->Nat
 |[]=>0
 |a::l=>a.wt+wtL l
def wtR:List (List AV)->Nat
 |[]=>0
 |a::l=>wtL a+wtR l
end
@[simp] theorem wtL_nil:wtL []=0:=by rw[wtL]
@[simp] theorem wtL_cons(a:AV)(l:List AV):wtL (a::l)=a.wt+wtL l:=by rw[wtL]
@[simp] theorem wtR_nil:wtR []=0:=by rw[wtR]
@[simp] theorem wtR_cons(a:List AV)(l:List (List AV)):wtR (a::l)=wtL a+wtR l:=by rw[wtR]
@[simp] theorem wt_int(k:IntKind)(n:Int):(AV.int k n).wt=1:=by rw[AV.wt]<;>simp
@[simp] theorem wt_bool(b:Bool):(AV.bool b).wt=1:=by rw[AV.wt]<;>simp
@[simp] theorem wt_str(s:List UInt8):(AV.str s).wt=s.length+1:=by rw[AV.wt]
@[simp] theorem wt_sl(r:List (List AV)):(AV.sl r).wt=wtR r+1:=by rw[AV.wt]
end Go.Av
namespace Go.Proofs.YtgleolmhpmljhaaGreat
open Go.Av Go.WideShapes
noncomputable section
variable {H : Type} {enc : TypeId × Value → H} {P : Program} {W : World}
end
theorem qA5{H:Type}{l:List (DataW H)}(hk:Rows.uptoSmall H l=true){d:DataW H}(hd:d∈l):Rows.uptoBulk d<=1048576:=by
 have h:Rows.uptoBulkAll l<=1048576:=of_decide_eq_true hk;have:=qxd hd;omega
end Go.Proofs.YtgleolmhpmljhaaGreat
end
noncomputable section
namespace Go.Proofs.YtgleolmhpmljhaaGreat.M
open Go.Av
def qEt:Den:=evC cfg (EV cfg) 3 none 0 (sub (qc Tryz.f3) [1,1,1,1,1,1,0,1,0,0])
def qE2:Ex×List AV×AH->Option AV:=kAft (Cfg.keepOut cfg 3 9) (kRun cfg (EV cfg) (kfN cfg 6) 3 none 0 (vM cfg (Cfg.lift cfg 3 0) Tryz.f3.results.toList) ([.block 0,.seq (sub (qc Tryz.f3) [1,1,1,1,1,1,1])]))
def qxv:List AV×AH->Option AV:=λp=>kOpt (LOOP 0 (some [2,5,6,10]) ([]) qEt p) qE2
def qxE:Den:=evC cfg (EV cfg) 3 none 0 (sub (qc Tryz.f3) [1,1,1,1,1,1,1,0,1,0,0])
def qxM:Ex×List AV×AH->Option AV:=kAft (Cfg.keepOut cfg 3 13) (kRun cfg (EV cfg) (kfN cfg 6) 3 none 0 (vM cfg (Cfg.lift cfg 3 0) Tryz.f3.results.toList) ([.block 2,.seq (sub (qc Tryz.f3) [1,1,1,1,1,1,1,1])]))
def qxu:List AV×AH->Option AV:=λp=>kOpt (LOOP 0 (some [2,5,6,11]) ([]) qxE p) qxM
def qEs:Den:=evC cfg (EV cfg) 3 none 0 (sub (qc Tryz.f3) [1,1,1,1,1,1,1,0,1,0,0,1,0,0,1,0,0])
def qE1:Ex×List AV×AH->Option AV:=kAft (Cfg.keepOut cfg 3 16) (kRun cfg (EV cfg) (kfN cfg 6) 3 none 0 (kLp 0 (some [2,5,6,11]) ([]) qxE qxM) ([.block 4,.block 3,.seq (sub (qc Tryz.f3) [1,1,1,1,1,1,1,0,1,0,0,1,1])]))
def qxt:List AV×AH->Option AV:=λp=>kOpt (LOOP 0 (some [2,5,6,11,12]) ([]) qEs p) qE1
abbrev qo8(rows rows':Rz)(v10 c0_0 c0_1:Int)(c0_2:Bz)(c0_3:Rz)(c1_0 c1_1:Int)(c1_2:Bz)(c1_3:Rz)(c2_0:Bool):Option (AV):=qxv (((fx 86 [(2,.ptr 0 0 0),(5,.ptr 1 0 0),(6,.ptr 2 0 0),(10,.int .i64 v10)]):List AV),([.rows false 4 [[.int .i64 c0_0,.int .i64 c0_1,.str c0_2,.sl c0_3]],.rows false 4 [[.int .i64 c1_0,.int .i64 c1_1,.str c1_2,.sl c1_3]],.rows false 3 [[.bool c2_0,.rsl 3 rows,.rsl 3 rows']],.reg]:AH))
abbrev qin(rows rows':Rz)(v10 c0_0 c0_1:Int)(c0_2:Bz)(c0_3:Rz)(c1_0 c1_1:Int)(c1_2:Bz)(c1_3:Rz)(c2_0:Bool):Option (AV):=qxv (((fx 86 [(2,.ptr 0 0 0),(5,.ptr 1 0 0),(6,.ptr 2 0 0),(10,.int .i64 v10)]):List AV),([.rows false 4 [[.int .i64 c0_0,.int .i64 c0_1,.str c0_2,.sl c0_3]],.rows false 4 [[.int .i64 c1_0,.int .i64 c1_1,.str c1_2,.sl c1_3]],.rows false 3 [[.bool c2_0,.rsl 3 rows,.rsl 3 rows']],.spl]:AH))
abbrev qk5(rows rows':Rz)(v11 c0_0 c0_1:Int)(c0_2:Bz)(c0_3:Rz)(c1_0 c1_1:Int)(c1_2:Bz)(c1_3:Rz)(c2_0:Bool):Option (AV):=qxu (((fx 86 [(2,.ptr 0 0 0),(5,.ptr 1 0 0),(6,.ptr 2 0 0),(11,.int .i64 v11)]):List AV),([.rows false 4 [[.int .i64 c0_0,.int .i64 c0_1,.str c0_2,.sl c0_3]],.rows false 4 [[.int .i64 c1_0,.int .i64 c1_1,.str c1_2,.sl c1_3]],.rows false 3 [[.bool c2_0,.rsl 3 rows,.rsl 3 rows']],.reg]:AH))
abbrev qeB(rows rows':Rz)(v11 c0_0 c0_1:Int)(c0_2:Bz)(c0_3:Rz)(c1_0 c1_1:Int)(c1_2:Bz)(c1_3:Rz)(c2_0:Bool):Option (AV):=qxu (((fx 86 [(2,.ptr 0 0 0),(5,.ptr 1 0 0),(6,.ptr 2 0 0),(11,.int .i64 v11)]):List AV),([.rows false 4 [[.int .i64 c0_0,.int .i64 c0_1,.str c0_2,.sl c0_3]],.rows false 4 [[.int .i64 c1_0,.int .i64 c1_1,.str c1_2,.sl c1_3]],.rows false 3 [[.bool c2_0,.rsl 3 rows,.rsl 3 rows']],.spl]:AH))
abbrev qvy(rows rows':Rz)(v11 v12 c0_0 c0_1:Int)(c0_2:Bz)(c0_3:Rz)(c1_0 c1_1:Int)(c1_2:Bz)(c1_3:Rz)(c2_0:Bool):Option (AV):=qxt (((fx 86 [(2,.ptr 0 0 0),(5,.ptr 1 0 0),(6,.ptr 2 0 0),(11,.int .i64 v11),(12,.int .i64 v12)]):List AV),([.rows false 4 [[.int .i64 c0_0,.int .i64 c0_1,.str c0_2,.sl c0_3]],.rows false 4 [[.int .i64 c1_0,.int .i64 c1_1,.str c1_2,.sl c1_3]],.rows false 3 [[.bool c2_0,.rsl 3 rows,.rsl 3 rows']],.reg]:AH))
abbrev qeA(rows rows':Rz)(v11 v12 c0_0 c0_1:Int)(c0_2:Bz)(c0_3:Rz)(c1_0 c1_1:Int)(c1_2:Bz)(c1_3:Rz)(c2_0:Bool):Option (AV):=qxt (((fx 86 [(2,.ptr 0 0 0),(5,.ptr 1 0 0),(6,.ptr 2 0 0),(11,.int .i64 v11),(12,.int .i64 v12)]):List AV),([.rows false 4 [[.int .i64 c0_0,.int .i64 c0_1,.str c0_2,.sl c0_3]],.rows false 4 [[.int .i64 c1_0,.int .i64 c1_1,.str c1_2,.sl c1_3]],.rows false 3 [[.bool c2_0,.rsl 3 rows,.rsl 3 rows']],.spl]:AH))
theorem qnz(kt nt:Int)(st:Bz)(lt:Rz)(pos:Int){P:AV->Prop}(h:Gets (kOpt (EVs (EV cfg) 5 [.sl [[AV.int .i64 kt,.int .i64 nt,.str st,.sl lt]]]) λv=>qt v λb=>bif b then some (.bool true)else kOpt (EVf (EV cfg) 6 [.agg [.int .i64 kt,.int .i64 nt,.str st,.sl lt]]) λv=>kTmV v λn n_1 s rows=>(kOpt (EVg (EV cfg) 7 [.agg [.int .i64 n,.int .i64 n_1,.str s,.sl rows],.int .i64 pos]) λV=>kTup V λcs=>ql cs λc cs=>kAgg c λcs_1=>ql cs_1 λc cs_2=>qt c λb=>ql cs_2 λc cs_3=>kSl c λrows_1=>ql cs_3 λc cs_4=>kSl c λrows_2=>kNil cs_4 (ql cs λc cs=>kInt .i64 c λn_2=>kNil cs (kOpt (EVf (EV cfg) 8 [.agg [.int .i64 kt,.int .i64 nt,.str st,.sl lt],.int .i64 pos]) λv=>kTup v λcs=>ql cs λc cs=>kAgg c λcs_5=>ql cs_5 λc cs_6=>qt c λb_1=>ql cs_6 λc cs_7=>kSl c λrows_3=>ql cs_7 λc cs_8=>kSl c λrows_4=>kNil cs_8 (ql cs λc cs=>kInt .i64 c λn_3=>kNil cs (bif n_2 != n_3 then some (.bool false)else kOpt (EVs (EV cfg) 9 [.agg [.bool b,.sl rows_1,.sl rows_2],.agg [.bool b_1,.sl rows_3,.sl rows_4]]) λv=>qt v λb_2=>bif ! b_2 then some (.bool false)else qo8 rows_1 rows_2 0 kt nt st lt n n_1 s rows b)))))) P):Gets (EVs (EV cfg) 3 [.agg [.int .i64 kt,.int .i64 nt,.str st,.sl lt],.int .i64 pos]) P:=
  gE (λ_=>funS rfl rfl Tryz.func3 rfl) (by kernel_rfl) h
theorem qrm(rows rows':Rz)(v10 c0_0 c0_1:Int)(c0_2:Bz)(c0_3:Rz)(c1_0 c1_1:Int)(c1_2:Bz)(c1_3:Rz)(c2_0:Bool){P:AV->Prop}(h:Gets (bif decide (v10<(rows.length:Int))then rs4 rows v10 λn n_1 s rows_1=>(kOpt (EVz (EV cfg) 10 (.agg [.int .i64 n,.int .i64 n_1,.str s,AV.rsl 0 rows_1])) λx=>qin rows rows' (qFD .i64 (v10+1)) c0_0 c0_1 c0_2 c0_3 c1_0 c1_1 c1_2 c1_3 c2_0)else qk5 rows rows' 0 c0_0 c0_1 c0_2 c0_3 c1_0 c1_1 c1_2 c1_3 c2_0) P):Gets (qo8 rows rows' v10 c0_0 c0_1 c0_2 c0_3 c1_0 c1_1 c1_2 c1_3 c2_0) P:=
  gE (λ_=>qg (cfg:=cfg) (f:=3) (rd:=none) (bs:=0)) (by kernel_rfl) h
theorem qgy(rows rows':Rz)(v10 c0_0 c0_1:Int)(c0_2:Bz)(c0_3:Rz)(c1_0 c1_1:Int)(c1_2:Bz)(c1_3:Rz)(c2_0:Bool){P:AV->Prop}(h:Gets (bif decide (v10<(rows.length:Int))then bif qj 0 v10&&qA v10 (rows.length:Int)then kOpt (qFG rows (v10.toNat)) λrow=>bif qFY (qFI row) 4 then kTmC (qFN 4 row) λn n_1 s rows_1=>(kOpt (EVz (EV cfg) 10 (.agg [.int .i64 n,.int .i64 n_1,.str s,AV.rsl 0 rows_1])) λx=>kOpt (EVz (EV cfg) 10 (.agg [.int .i64 77,.int .i64 0,.str [],.sl []])) λx=>kOpt (EVz (EV cfg) 10 (.agg [.int .i64 0,.int .i64 0,.str [],.sl []])) λx=>qin rows rows' (qFD .i64 (v10+1)) c0_0 c0_1 c0_2 c0_3 c1_0 c1_1 c1_2 c1_3 c2_0)else none else none else qeB rows rows' 0 c0_0 c0_1 c0_2 c0_3 c1_0 c1_1 c1_2 c1_3 c2_0) P):Gets (qin rows rows' v10 c0_0 c0_1 c0_2 c0_3 c1_0 c1_1 c1_2 c1_3 c2_0) P:=
  gE (λ_=>qg (cfg:=cfg) (f:=3) (rd:=none) (bs:=0)) (by kernel_rfl) h
abbrev zs1(b:Bool):Option (AV):=bif b then kOpt (EVs (EV cfg) 12 []) λv=>qt v λb=>some (.bool b)else some (.bool false)
abbrev zs0(v:AV):Option (AV):=qt v λb=>zs1 b
theorem qjx(rows rows':Rz)(v11 c0_0 c0_1:Int)(c0_2:Bz)(c0_3:Rz)(c1_0 c1_1:Int)(c1_2:Bz)(c1_3:Rz)(c2_0:Bool){P:AV->Prop}(h:Gets (bif decide (v11<(rows'.length:Int))then qvy rows rows' v11 0 c0_0 c0_1 c0_2 c0_3 c1_0 c1_1 c1_2 c1_3 c2_0 else kOpt (EVs (EV cfg) 11 [.agg [.int .i64 c1_0,.int .i64 c1_1,.str c1_2,.sl c1_3],.agg [.int .i64 c0_0,.int .i64 c0_1,.str c0_2,.sl c0_3]]) λv=>zs0 v) P):Gets (qk5 rows rows' v11 c0_0 c0_1 c0_2 c0_3 c1_0 c1_1 c1_2 c1_3 c2_0) P:=
  gE (λ_=>qg (cfg:=cfg) (f:=3) (rd:=none) (bs:=0)) (by kernel_rfl) h
theorem qgx(rows rows':Rz)(v11 c0_0 c0_1:Int)(c0_2:Bz)(c0_3:Rz)(c1_0 c1_1:Int)(c1_2:Bz)(c1_3:Rz)(c2_0:Bool){P:AV->Prop}(h:Gets (bif decide (v11<(rows'.length:Int))then qeA rows rows' v11 0 c0_0 c0_1 c0_2 c0_3 c1_0 c1_1 c1_2 c1_3 c2_0 else kOpt (EVs (EV cfg) 11 [.agg [.int .i64 c1_0,.int .i64 c1_1,.str c1_2,.sl c1_3],.agg [.int .i64 c0_0,.int .i64 c0_1,.str c0_2,.sl c0_3]]) λv=>zs0 v) P):Gets (qeB rows rows' v11 c0_0 c0_1 c0_2 c0_3 c1_0 c1_1 c1_2 c1_3 c2_0) P:=
  gE (λ_=>qg (cfg:=cfg) (f:=3) (rd:=none) (bs:=0)) (by kernel_rfl) h
theorem qrl(rows rows':Rz)(v11 v12 c0_0 c0_1:Int)(c0_2:Bz)(c0_3:Rz)(c1_0 c1_1:Int)(c1_2:Bz)(c1_3:Rz)(c2_0:Bool){P:AV->Prop}(h:Gets (bif qj 0 v11&&qA v11 (rows'.length:Int)then kOpt (qFG rows' (v11.toNat)) λrow=>bif qFY (qFI row) 2 then kOpt (qFG row 1) λv=>kSl v λrows_1=>bif decide (v12<(rows_1.length:Int))then bif qj 0 v11&&qA v11 (rows'.length:Int)then kOpt (qFG rows' (v11.toNat)) λrow=>bif qFY (qFI row) 2 then kOpt (qFG row 1) λv=>kSl v λrows_2=>rs4 rows_2 v12 λn n_1 s rows_3=>(kOpt (EVz (EV cfg) 10 (.agg [.int .i64 n,.int .i64 n_1,.str s,AV.rsl 0 rows_3])) λx=>qeA rows rows' v11 (qFD .i64 (v12+1)) c0_0 c0_1 c0_2 c0_3 c1_0 c1_1 c1_2 c1_3 c2_0)else none else none else qk5 rows rows' (qFD .i64 (v11+1)) c0_0 c0_1 c0_2 c0_3 c1_0 c1_1 c1_2 c1_3 c2_0 else none else none) P):Gets (qvy rows rows' v11 v12 c0_0 c0_1 c0_2 c0_3 c1_0 c1_1 c1_2 c1_3 c2_0) P:=
  gE (λ_=>qg (cfg:=cfg) (f:=3) (rd:=none) (bs:=0)) (by kernel_rfl) h
theorem qgw(rows rows':Rz)(v11 v12 c0_0 c0_1:Int)(c0_2:Bz)(c0_3:Rz)(c1_0 c1_1:Int)(c1_2:Bz)(c1_3:Rz)(c2_0:Bool){P:AV->Prop}(h:Gets (bif qj 0 v11&&qA v11 (rows'.length:Int)then kOpt (qFG rows' (v11.toNat)) λrow=>bif qFY (qFI row) 2 then kOpt (qcW row 1) λrows_1=>bif decide (v12<(rows_1.length:Int))then bif qj 0 v11&&qA v11 (rows'.length:Int)then kOpt (qFG rows' (v11.toNat)) λrow=>bif qFY (qFI row) 2 then kOpt (qcW row 1) λrows_2=>bif qj 0 v12&&qA v12 (rows_2.length:Int)then kOpt (qFG rows_2 (v12.toNat)) λrow=>bif qFY (qFI row) 4 then kTmC (qFN 4 row) λn n_1 s rows_3=>(kOpt (EVz (EV cfg) 10 (.agg [.int .i64 n,.int .i64 n_1,.str s,AV.rsl 0 rows_3])) λx=>kOpt (EVz (EV cfg) 10 (.agg [.int .i64 77,.int .i64 0,.str [],.sl []])) λx=>kOpt (EVz (EV cfg) 10 (.agg [.int .i64 0,.int .i64 0,.str [],.sl []])) λx=>qeA rows rows' v11 (qFD .i64 (v12+1)) c0_0 c0_1 c0_2 c0_3 c1_0 c1_1 c1_2 c1_3 c2_0)else none else none else none else none else qeB rows rows' (qFD .i64 (v11+1)) c0_0 c0_1 c0_2 c0_3 c1_0 c1_1 c1_2 c1_3 c2_0 else none else none) P):Gets (qeA rows rows' v11 v12 c0_0 c0_1 c0_2 c0_3 c1_0 c1_1 c1_2 c1_3 c2_0) P:=
  gE (λ_=>qg (cfg:=cfg) (f:=3) (rd:=none) (bs:=0)) (by kernel_rfl) h
end Go.Proofs.YtgleolmhpmljhaaGreat.M
end
noncomputable section
namespace Go.Proofs.YtgleolmhpmljhaaGreat.L
open Go.Av
def qEw:Den:=evC cfg (EV cfg) 7 none 0 (sub (qc Tryz.f7) [1,1,1,1,1,0,1,0,0])
def qE5:Ex×List AV×AH->Option AV:=kAft (Cfg.keepOut cfg 7 9) (kRun cfg (EV cfg) (kfN cfg 6) 7 none 0 (vX cfg (Cfg.lift cfg 7 0) Tryz.f7.results.toList) ([.block 1,.seq (sub (qc Tryz.f7) [1,1,1,1,1,1])]))
def qD5:List AV×AH->Option AV:=λp=>kOpt (LOOP 0 (some [1,4,8,9,32,33,34]) ([(8,4),(9,2)]) qEw p) qE5
def qh9:Den:=evC cfg (EV cfg) 22 none 4 (sub (qc Tryz.f22) [1,0,1,1,1,0,1,0,0])
def qid(nv8:Nat)(nc2_0:Nat):Ex×List AV×AH→Option AV:=kAft (Cfg.keepOut cfg 22 (qm (sub (qc Tryz.f22) [1,0,1,1,1,0,1,0,0]))) (vm 0 (kSeq (fun(fr:List AV) (H:AH)=>ve (Cfg.cut cfg 22 (qm (sub (qc Tryz.f22) [1,0,1,1,1,1]))) fr H fun(fr:List AV) (H:AH)=>qR cfg (EV cfg) (kfN cfg (5)) 22 none 4 (sub (qc Tryz.f22) [1,0,1,1,1,1]) fr H (qdq (xI cfg (Cfg.lift cfg 22 0) (fun(v:AV) (H:AH)=>(fun(r:AV×AH)=>qiZ (Prod.snd r) (Prod.fst r) fun(x:AV)=>kOpt (yY none 4 x (qV (AV.msIds (Prod.fst r)) (Prod.snd r))) fun(r:AV×AH)=>kTy noTy cfg (Oper.type { dst:=some 85,op:=Op.call { callee:=Callee.value (Operand.func 22),args:= #[Operand.tmp 84],argTypes:= #[27] },type:=27,pos:= "bound.go:78",after:= #[{ on:=0,ground:=Ground.data }],guard:=none }) (Prod.fst r) fun(v:AV)=>(fun(v:AV) (H':AH)=>kOps cfg (EV cfg) (kfN cfg 6) 7 22 (qdR (sub (qc Tryz.f7) [1,1,1,1,1,1,0])) (0+1+1) (qGb 2 (qGg (qdR (sub (qc Tryz.f7) [1,1,1,1,1,1,0])))) (put (fx 95 [(4,AV.ptr 0 0 0),(8,AV.ms 1 0 nv8),(9,AV.ptr 2 0 0),(84,AV.ms 3 0 nc2_0)]) (some 85) v) H' fun(fr':List AV) (H':AH)=>kSeq (fun(fr:List AV) (H:AH)=>ve (Cfg.cut cfg 7 (qm (sub (qc Tryz.f7) [1,1,1,1,1,1,1]))) fr H fun(fr:List AV) (H:AH)=>qR cfg (EV cfg) (kfN cfg 6) 7 none 0 (sub (qc Tryz.f7) [1,1,1,1,1,1,1]) fr H (kRun cfg (EV cfg) (kfN cfg 6) 7 none 0 (vX cfg (Cfg.lift cfg 7 0) (qGg (Func.results Tryz.f7))) [])) (kRun cfg (EV cfg) (kfN cfg 6) 7 none 0 (vX cfg (Cfg.lift cfg 7 0) (qGg (Func.results Tryz.f7))) []) Ex.normal fr' H') v (Prod.snd r)) (v,H)) (qGg (Func.results (Prod.snd (22,Tryz.f22))))))) (qdq (xI cfg (Cfg.lift cfg 22 0) (fun(v:AV) (H:AH)=>(fun(r:AV×AH)=>qiZ (Prod.snd r) (Prod.fst r) fun(x:AV)=>kOpt (yY none 4 x (qV (AV.msIds (Prod.fst r)) (Prod.snd r))) fun(r:AV×AH)=>kTy noTy cfg (Oper.type { dst:=some 85,op:=Op.call { callee:=Callee.value (Operand.func 22),args:= #[Operand.tmp 84],argTypes:= #[27] },type:=27,pos:= "bound.go:78",after:= #[{ on:=0,ground:=Ground.data }],guard:=none }) (Prod.fst r) fun(v:AV)=>(fun(v:AV) (H':AH)=>kOps cfg (EV cfg) (kfN cfg 6) 7 22 (qdR (sub (qc Tryz.f7) [1,1,1,1,1,1,0])) (0+1+1) (qGb 2 (qGg (qdR (sub (qc Tryz.f7) [1,1,1,1,1,1,0])))) (put (fx 95 [(4,AV.ptr 0 0 0),(8,AV.ms 1 0 nv8),(9,AV.ptr 2 0 0),(84,AV.ms 3 0 nc2_0)]) (some 85) v) H' fun(fr':List AV) (H':AH)=>kSeq (fun(fr:List AV) (H:AH)=>ve (Cfg.cut cfg 7 (qm (sub (qc Tryz.f7) [1,1,1,1,1,1,1]))) fr H fun(fr:List AV) (H:AH)=>qR cfg (EV cfg) (kfN cfg 6) 7 none 0 (sub (qc Tryz.f7) [1,1,1,1,1,1,1]) fr H (kRun cfg (EV cfg) (kfN cfg 6) 7 none 0 (vX cfg (Cfg.lift cfg 7 0) (qGg (Func.results Tryz.f7))) [])) (kRun cfg (EV cfg) (kfN cfg 6) 7 none 0 (vX cfg (Cfg.lift cfg 7 0) (qGg (Func.results Tryz.f7))) []) Ex.normal fr' H') v (Prod.snd r)) (v,H)) (qGg (Func.results (Prod.snd (22,Tryz.f22))))))))
def qD4(nv8:Nat)(nc2_0:Nat):List AV×AH->Option AV:=fun(p:List AV×AH)=>kOpt (LOOP 4 (some [3,10,11,12]) [(3,2)] qh9 p) (qid nv8 nc2_0)
def qEv:Den:=evC cfg (EV cfg) 22 none 4 (sub (qc Tryz.f22) [1,0,1,1,1,0,1,0,0,1,1,0,0,1,0,1,0,0])
def qE4(nv8:Nat)(nc2_0:Nat):Ex×List AV×AH->Option AV:=kAft (Cfg.keepOut cfg 22 (qm (sub (qc Tryz.f22) [1,0,1,1,1,0,1,0,0,1,1,0,0,1,0,1,0,0]))) (vm 2 (kSeq (fun(fr:List AV) (H:AH)=>ve (Cfg.cut cfg 22 (qm (sub (qc Tryz.f22) [1,0,1,1,1,0,1,0,0,1,1,0,0,1,1]))) fr H fun(fr:List AV) (H:AH)=>qR cfg (EV cfg) (kfN cfg 6) 22 none 4 (sub (qc Tryz.f22) [1,0,1,1,1,0,1,0,0,1,1,0,0,1,1]) fr H (vm 1 (kSeq (fun(fr:List AV) (H:AH)=>ve (Cfg.cut cfg 22 (qm (sub (qc Tryz.f22) [1,0,1,1,1,0,1,0,0,1,1,1]))) fr H fun(fr:List AV) (H:AH)=>qR cfg (EV cfg) (kfN cfg 6) 22 none 4 (sub (qc Tryz.f22) [1,0,1,1,1,0,1,0,0,1,1,1]) fr H (kLp 4 (some [3,10,11,12]) [(3,2)] qh9 (qid nv8 nc2_0))) (kLp 4 (some [3,10,11,12]) [(3,2)] qh9 (qid nv8 nc2_0))))) (vm 1 (kSeq (fun(fr:List AV) (H:AH)=>ve (Cfg.cut cfg 22 (qm (sub (qc Tryz.f22) [1,0,1,1,1,0,1,0,0,1,1,1]))) fr H fun(fr:List AV) (H:AH)=>qR cfg (EV cfg) (kfN cfg 6) 22 none 4 (sub (qc Tryz.f22) [1,0,1,1,1,0,1,0,0,1,1,1]) fr H (kLp 4 (some [3,10,11,12]) [(3,2)] qh9 (qid nv8 nc2_0))) (kLp 4 (some [3,10,11,12]) [(3,2)] qh9 (qid nv8 nc2_0))))))
def qD3(nv8:Nat)(nc2_0:Nat):List AV×AH->Option AV:=fun(p:List AV×AH)=>kOpt (LOOP 4 (some [3,5,10,11,12,16,17,18]) [(3,2),(16,2)] qEv p) (qE4 nv8 nc2_0)
def qEu:Den:=evC cfg (EV cfg) 23 none 4 (sub (qc Tryz.f23) [1,1,1,0,1,0,0])
def qE3(nv8:Nat)(nc2_0:Nat)(nv3:Nat)(h4:Rz):Ex×List AV×AH→Option AV:=kAft (Cfg.keepOut cfg 23 (qm (sub (qc Tryz.f23) [1,1,1,0,1,0,0]))) (vm 0 (kSeq (fun(fr:List AV) (H:AH)=>ve (Cfg.cut cfg 23 (qm (sub (qc Tryz.f23) [1,1,1,1]))) fr H fun(fr:List AV) (H:AH)=>qR cfg (EV cfg) (kfN cfg (5)) 23 none 4 (sub (qc Tryz.f23) [1,1,1,1]) fr H (xI cfg (Cfg.lift cfg 23 0) (fun(v:AV) (H:AH)=>(fun(r:AV×AH)=>kOpt (yY none 4 (Prod.fst r) (Prod.snd r)) fun(r:AV×AH)=>kTy noTy cfg (Oper.type { dst:=some 88,op:=Op.call { callee:=Callee.value (Operand.func 23),args:= #[Operand.tmp 86,Operand.tmp 87],argTypes:= #[22,50] },type:=22,pos:= "bound.go:79",after:= #[{ on:=0,ground:=Ground.data },{ on:=1,ground:=Ground.data }],guard:=none }) (Prod.fst r) fun(v:AV)=>(fun(v:AV) (H':AH)=>kOps cfg (EV cfg) (kfN cfg 6) 7 23 (qdR (sub (qc Tryz.f7) [1,1,1,1,1,1,1,0])) (0+1+1+1) (qGb 3 (qGg (qdR (sub (qc Tryz.f7) [1,1,1,1,1,1,1,0])))) (put (fx 95 [(4,AV.ptr 0 0 0),(8,AV.ms 1 0 nv8),(9,AV.ptr 2 0 0),(84,AV.ms 3 0 nc2_0),(85,AV.sl (qFN nv3 h4)),(86,AV.ms 1 0 nv8),(87,AV.fn (Fn.func 24) [] [AV.ptr 2 0 0])]) (some 88) v) H' fun(fr':List AV) (H':AH)=>kSeq (fun(fr:List AV) (H:AH)=>ve (Cfg.cut cfg 7 (qm (sub (qc Tryz.f7) [1,1,1,1,1,1,1,1]))) fr H fun(fr:List AV) (H:AH)=>qR cfg (EV cfg) (kfN cfg 6) 7 none 0 (sub (qc Tryz.f7) [1,1,1,1,1,1,1,1]) fr H (kRun cfg (EV cfg) (kfN cfg 6) 7 none 0 (vX cfg (Cfg.lift cfg 7 0) (qGg (Func.results Tryz.f7))) [])) (kRun cfg (EV cfg) (kfN cfg 6) 7 none 0 (vX cfg (Cfg.lift cfg 7 0) (qGg (Func.results Tryz.f7))) []) Ex.normal fr' H') v (Prod.snd r)) (v,H)) (qGg (Func.results (Prod.snd (23,Tryz.f23)))))) (xI cfg (Cfg.lift cfg 23 0) (fun(v:AV) (H:AH)=>(fun(r:AV×AH)=>kOpt (yY none 4 (Prod.fst r) (Prod.snd r)) fun(r:AV×AH)=>kTy noTy cfg (Oper.type { dst:=some 88,op:=Op.call { callee:=Callee.value (Operand.func 23),args:= #[Operand.tmp 86,Operand.tmp 87],argTypes:= #[22,50] },type:=22,pos:= "bound.go:79",after:= #[{ on:=0,ground:=Ground.data },{ on:=1,ground:=Ground.data }],guard:=none }) (Prod.fst r) fun(v:AV)=>(fun(v:AV) (H':AH)=>kOps cfg (EV cfg) (kfN cfg 6) 7 23 (qdR (sub (qc Tryz.f7) [1,1,1,1,1,1,1,0])) (0+1+1+1) (qGb 3 (qGg (qdR (sub (qc Tryz.f7) [1,1,1,1,1,1,1,0])))) (put (fx 95 [(4,AV.ptr 0 0 0),(8,AV.ms 1 0 nv8),(9,AV.ptr 2 0 0),(84,AV.ms 3 0 nc2_0),(85,AV.sl (qFN nv3 h4)),(86,AV.ms 1 0 nv8),(87,AV.fn (Fn.func 24) [] [AV.ptr 2 0 0])]) (some 88) v) H' fun(fr':List AV) (H':AH)=>kSeq (fun(fr:List AV) (H:AH)=>ve (Cfg.cut cfg 7 (qm (sub (qc Tryz.f7) [1,1,1,1,1,1,1,1]))) fr H fun(fr:List AV) (H:AH)=>qR cfg (EV cfg) (kfN cfg 6) 7 none 0 (sub (qc Tryz.f7) [1,1,1,1,1,1,1,1]) fr H (kRun cfg (EV cfg) (kfN cfg 6) 7 none 0 (vX cfg (Cfg.lift cfg 7 0) (qGg (Func.results Tryz.f7))) [])) (kRun cfg (EV cfg) (kfN cfg 6) 7 none 0 (vX cfg (Cfg.lift cfg 7 0) (qGg (Func.results Tryz.f7))) []) Ex.normal fr' H') v (Prod.snd r)) (v,H)) (qGg (Func.results (Prod.snd (23,Tryz.f23)))))))
def qD2(nv8:Nat)(nc2_0:Nat)(nv3:Nat)(h4:Rz):List AV×AH->Option AV:=fun(p:List AV×AH)=>kOpt (LOOP 4 (some [0,1,5,6]) [] qEu p) (qE3 nv8 nc2_0 nv3 h4)
abbrev qeD(pos:Int)(rows:Rz)(nv8:Nat)(v34:Int)(c0_0:Bool)(c0_1 c0_2 h1:Rz)(nc2_0:Nat)(h3:Rz):Option (AV):=qD5 (((fx 95 [(1,.int .i64 pos),(4,.ptr 0 0 0),(8,.ms 1 0 nv8),(9,.ptr 2 0 0),(32,.sl rows),(33,.int .i64 (rows.length:Int)),(34,.int .i64 v34)]):List AV),([.rows false 3 [[.bool c0_0,.sl c0_1,.sl c0_2]],.rows true 4 h1,.rows false 1 [[.ms 3 0 nc2_0]],.rows true 2 h3]:AH))
abbrev qcd(nv8 nc2_0 nv3:Nat)(v12:Int)(c0_0:Bool)(c0_1 c0_2 h1:Rz)(nc2_0':Nat)(h3 h4:Rz):Option (AV):=qD4 (nv8) (nc2_0) (((fx 32 [(3,.ms 4 0 nv3),(10,.ms 3 0 nc2_0),(11,.int .i64 (↑nc2_0:Int)),(12,.int .i64 v12)]):List AV),([.rows false 3 [[.bool c0_0,.sl c0_1,.sl c0_2]],.rows true 4 h1,.rows false 1 [[.ms 3 0 nc2_0']],.rows true 2 h3,.rows true 2 h4]:AH))
abbrev qk6(nv8 nc2_0 nv3:Nat)(v12 v18:Int)(c0_0:Bool)(c0_1 c0_2 h1:Rz)(nc2_0':Nat)(h3 h4:Rz)(c5_0:Int)(c5_1:Rz):Option (AV):=qD3 (nv8) (nc2_0) (((fx 32 [(3,.ms 4 0 nv3),(5,.ptr 5 0 0),(10,.ms 3 0 nc2_0),(11,.int .i64 (↑nc2_0:Int)),(12,.int .i64 v12),(16,.ms 4 0 nv3),(17,.int .i64 (↑nv3:Int)),(18,.int .i64 v18)]):List AV),([.rows false 3 [[.bool c0_0,.sl c0_1,.sl c0_2]],.rows true 4 h1,.rows false 1 [[.ms 3 0 nc2_0']],.rows true 2 h3,.rows true 2 h4,.rows false 2 [[.int .i64 c5_0,.sl c5_1]]]:AH))
abbrev qeC(nv8 nc2_0 nv3:Nat)(h4:Rz)(v5 v6:Int)(c0_0:Bool)(c0_1 c0_2 h1 c2_0 h3:Rz):Option (AV):=qD2 (nv8) (nc2_0) (nv3) (h4) (((fx 42 [(0,.ms 1 0 nv8),(1,.fn (Fn.func 24) [] [.ptr 2 0 0]),(5,.int .i64 v5),(6,.int .i64 v6)]):List AV),([.rows false 3 [[.bool c0_0,.sl c0_1,.sl c0_2]],.rows true 4 h1,.rows false 1 [[.sl c2_0]],.rows true 2 h3]:AH))
abbrev zt8:Option (AV):=some (AV.tup [.agg [.bool false,.sl [],.sl []],.int .i64 2])
abbrev zt7(pos:Int)(rows:Rz):Option (AV):=bif decide (pos<1)then zt8 else bif decide (pos>64)then zt8 else qeD pos rows 0 0 false [] [] [] 0 []
abbrev zt6(n pos:Int)(rows:Rz):Option (AV):=bif n != 0 then some (AV.tup [.agg [.bool false,.sl [],.sl []],.int .i64 n])else zt7 pos rows
abbrev zt5(cs:List AV)(n pos:Int)(rows:Rz):Option (AV):=kNil cs (zt6 n pos rows)
abbrev zt4(c:AV)(cs:List AV)(pos:Int)(rows:Rz):Option (AV):=kInt .i64 c λn=>zt5 cs n pos rows
abbrev zt3(cs:List AV)(pos:Int)(rows:Rz):Option (AV):=ql cs λc cs=>zt4 c cs pos rows
abbrev zt2(c:AV)(cs:List AV)(pos:Int):Option (AV):=kSl c λrows=>zt3 cs pos rows
abbrev zt1(cs:List AV)(pos:Int):Option (AV):=ql cs λc cs=>zt2 c cs pos
abbrev zt0(v:AV)(pos:Int):Option (AV):=kTup v λcs=>zt1 cs pos
theorem qze(k n:Int)(s:Bz)(l:Rz)(pos:Int){P:AV->Prop}(h:Gets (kOpt (EVf (EV cfg) 17 [.agg [.int .i64 k,.int .i64 n,.str s,AV.lsl l]]) λv=>zt0 v pos) P):Gets (EVf (EV cfg) 7 [.agg [.int .i64 k,.int .i64 n,.str s,.lsl l],.int .i64 pos]) P:=
  gE (λ_=>funF rfl rfl Tryz.func7 rfl) (by kernel_rfl) h
theorem qzd(kt nt:Int)(st:Bz)(lt:Rz)(pos:Int){P:AV->Prop}(h:Gets (kOpt (EVf (EV cfg) 17 [.agg [.int .i64 kt,.int .i64 nt,.str st,.sl lt]]) λv=>zt0 v pos) P):Gets (EVf (EV cfg) 7 [.agg [.int .i64 kt,.int .i64 nt,.str st,.sl lt],.int .i64 pos]) P:=
  gE (λ_=>funF rfl rfl Tryz.func7 rfl) (by kernel_rfl) h
theorem qp8{P:AV->Prop}(h:Gets (kOpt (EVf (EV cfg) 37 [.str [(97:UInt8)]]) λv=>kTmV v λn n_1 s rows=>(kOpt (EVf (EV cfg) 37 [.str [(116:UInt8)]]) λv=>kTmV v λn_2 n_3 s_1 rows_1=>(kOpt (EVf (EV cfg) 37 [.str [(95:UInt8)]]) λv=>kTmV v λn_4 n_5 s_2 rows_2=>(kOpt (EVf (EV cfg) 39 [AV.sl [[AV.int .i64 n,.int .i64 n_1,.str s,.sl rows],[AV.int .i64 n_4,.int .i64 n_5,.str s_2,.sl rows_2]]]) λv=>kTmV v λn_6 n_7 s_3 rows_3=>(kOpt (EVf (EV cfg) 38 [.sl [[AV.int .i64 n_6,.int .i64 n_7,.str s_3,.sl rows_3]]]) λv=>kTmV v λn_8 n_9 s_4 rows_4=>(kOpt (EVf (EV cfg) 7 [.agg [.int .i64 n_8,.int .i64 n_9,.str s_4,.sl rows_4],.int .i64 1]) λv=>kTup v λcs=>ql cs λc cs=>kAgg c λcs_1=>ql cs_1 λc cs_2=>qt c λb=>ql cs_2 λc cs_3=>kSl c λrows_5=>ql cs_3 λc cs_4=>kSl c λrows_6=>kNil cs_4 (ql cs λc cs=>kInt .i64 c λn_10=>kNil cs (kOpt (EVf (EV cfg) 40 [.agg [.bool b,.sl rows_5,.sl rows_6]]) λv=>kTup v λcs=>ql cs λc cs=>kAgg c λcs_5=>ql cs_5 λc cs_6=>kInt .i64 c λn_11=>ql cs_6 λc cs_7=>kInt .i64 c λn_12=>ql cs_7 λc cs_8=>kStr c λs_5=>ql cs_8 λc cs_9=>kSl c λrows_7=>kNil cs_9 (ql cs λc cs=>qt c λb=>kNil cs (kOpt (EVf (EV cfg) 41 [AV.int .i64 1]) λv=>kTmV v λn_13 n_14 s_6 rows_8=>(kOpt (EVf (EV cfg) 39 [AV.sl [[AV.int .i64 n_2,AV.int .i64 n_3,AV.str s_1,AV.sl rows_1],[AV.int .i64 n_13,AV.int .i64 n_14,AV.str s_6,AV.sl rows_8]]]) λv=>kTmV v λn_15 n_16 s_7 rows_9=>(kOpt (EVf (EV cfg) 37 [AV.str [(95:UInt8)]]) λv=>kTmV v λn_17 n_18 s_8 rows_10=>(kOpt (EVf (EV cfg) 39 [AV.sl [[AV.int .i64 n_15,AV.int .i64 n_16,AV.str s_7,AV.sl rows_9],[AV.int .i64 n_17,AV.int .i64 n_18,AV.str s_8,AV.sl rows_10]]]) λv=>kTmV v λn_19 n_20 s_9 rows_11=>(kOpt (EVf (EV cfg) 38 [AV.sl [[AV.int .i64 n_19,AV.int .i64 n_20,AV.str s_9,AV.sl rows_11]]]) λv=>kTmV v λn_21 n_22 s_10 rows_12=>(kOpt (EVf (EV cfg) 7 [AV.agg [.int .i64 n_21,AV.int .i64 n_22,AV.str s_10,AV.sl rows_12],AV.int .i64 1]) λv=>kTup v λcs=>ql cs λc cs=>kAgg c λcs_10=>ql cs_10 λc cs_11=>qt c λb_1=>ql cs_11 λc cs_12=>kSl c λrows_13=>ql cs_12 λc cs_13=>kSl c λrows_14=>kNil cs_13 (ql cs λc cs=>kInt .i64 c λn_23=>kNil cs (bif n_10==0 then bif n_23==0 then bif b then kOpt (EVs (EV cfg) 11 [AV.agg [.int .i64 n_11,AV.int .i64 n_12,AV.str s_5,AV.sl rows_7],AV.agg [.int .i64 n,AV.int .i64 n_1,AV.str s,AV.sl rows]]) λv=>qt v λb=>bif b then bif(rows_14.length:Int)==1 then bif qA 0 (rows_14.length:Int)then kOpt (qFG rows_14 (0:Nat)) λrow=>bif qFY (qFI row) (2:Nat)then kOpt (qFG row (0:Nat)) λv=>kInt .i64 v λn_24=>bif n_24==2 then bif qA 0 (rows_14.length:Int)then kOpt (qFG rows_14 (0:Nat)) λrow=>bif qFY (qFI row) (2:Nat)then kOpt (qFG row (1:Nat)) λv=>kSl v λrows_15=>kOpt (EVs (EV cfg) 36 [AV.sl rows_15,AV.sl [[AV.int .i64 n_2,AV.int .i64 n_3,AV.str s_1,AV.sl rows_1]]]) λv=>qt v λb=>bif b then bif qA 0 (rows_14.length:Int)then kOpt (qFG rows_14 (0:Nat)) λrow=>bif qFY (qFI row) (2:Nat)then bif qFR (2:Nat) (qFI row)then ql (qFN (2:Nat) row) λc cs=>kInt .i64 c λn_25=>ql cs λc cs=>kSl c λrows_16=>kNil cs (kOpt (EVf (EV cfg) 43 [AV.int .i64 9]) λv=>kTmV v λn_26 n_27 s_11 rows_17=>(kOpt (EVf (EV cfg) 39 [AV.sl [[AV.int .i64 n_2,AV.int .i64 n_3,AV.str s_1,AV.sl rows_1],[AV.int .i64 n_26,AV.int .i64 n_27,AV.str s_11,AV.sl rows_17]]]) λv=>kTmV v λn_28 n_29 s_12 rows_18=>(kOpt (EVs (EV cfg) 42 [AV.agg [.int .i64 n_25,AV.sl rows_16],AV.agg [.int .i64 n_28,AV.int .i64 n_29,AV.str s_12,AV.sl rows_18]]) λv=>kInt .i64 v λn_30=>bif n_30==0 then bif qA 0 (rows_14.length:Int)then kOpt (qFG rows_14 (0:Nat)) λrow=>bif qFY (qFI row) (2:Nat)then bif qFR (2:Nat) (qFI row)then ql (qFN (2:Nat) row) λc cs=>kInt .i64 c λn_31=>ql cs λc cs=>kSl c λrows_19=>kNil cs (kOpt (EVs (EV cfg) 42 [AV.agg [.int .i64 n_31,AV.sl rows_19],AV.agg [.int .i64 n,AV.int .i64 n_1,AV.str s,AV.sl rows]]) λv=>kInt .i64 v λn=>some (AV.bool (n==(- 1))))else none else none else none else some (AV.bool false))))else none else none else none else some (AV.bool false)else none else none else some (AV.bool false)else none else none else some (AV.bool false)else some (AV.bool false)else some (AV.bool false)else some (AV.bool false)else some (AV.bool false)))))))))))))))))) P):Gets (EVs (EV cfg) 12 []) P:=
  gE (λ_=>funS rfl rfl Tryz.func12 rfl) (by kernel_rfl) h
theorem qjB(pos:Int)(rows:Rz)(nv8:Nat)(v34:Int)(c0_0:Bool)(c0_1 c0_2 h1:Rz)(nc2_0:Nat)(h3:Rz){P:AV->Prop}(h:Gets (bif decide (v34<(rows.length:Int))then bif qj 0 v34&&qA v34 (rows.length:Int)then kOpt (qFG rows (v34.toNat)) λrow=>bif qFY (qFI row) 6 then bif qFR 6 (qFI row)then ql (qFN 6 row) λc cs=>kInt .i64 c λn=>ql cs λc cs=>kInt .i64 c λn_1=>ql cs λc cs=>kStr c λs=>ql cs λc cs=>kSl c λrows_1=>ql cs λc cs=>kSl c λrows_2=>ql cs λc cs=>kSl c λrows_3=>kNil cs (bif n != 7 then some (AV.tup [.agg [.bool true,.sl [],.sl []],.int .i64 0])else bif decide ((rows_1.length:Int)<pos)then qeD pos rows nv8 (qFD .i64 (v34+1)) c0_0 c0_1 c0_2 h1 nc2_0 h3 else rs4 rows_1 (qFD .i64 (pos - 1)) λn n_2 s rows_4=>(kOpt (EVs (EV cfg) 18 [.agg [.int .i64 n,.int .i64 n_2,.str s,.sl rows_4]]) λv=>qt v λb=>bif b then bif qFR (0+nv8) (qFI h1)&&qI (nv8+1) 56 then qeD pos rows (nv8+1) (qFD .i64 (v34+1)) c0_0 c0_1 c0_2 (qF2 (qFN nv8 h1) [[AV.int .i64 n,.int .i64 n_2,.str s,.sl rows_4]]) nc2_0 h3 else none else bif n==7 then kOpt (EVs (EV cfg) 19 [.sl rows_4,AV.fn (Fn.func 20) [] []]) λv=>kInt .i64 v λn=>bif qj 0 n&&qj n (rows_4.length:Int)then bif vP 4 rows_4 then kOpt (EVf (EV cfg) 21 [.sl (qFN (qFQ n - 0) rows_4)]) λv=>kSl v λrows_5=>bif qFR (0+nc2_0) (qFI h3)&&qI (nc2_0+1) 32 then qeD pos rows nv8 (qFD .i64 (v34+1)) c0_0 c0_1 c0_2 h1 (nc2_0+1) (qF2 (qFN nc2_0 h3) [[AV.int .i64 (rows_4.length:Int),.sl rows_5]])else none else none else none else some (AV.tup [.agg [.bool true,.sl [],.sl []],.int .i64 0])))else none else none else none else kOpt (EVm (EV cfg) 56 [.ms 0 0 nc2_0,AV.fn (Fn.func 57) [] []] 2 h3) λq=>q6 q.1 (qcd nv8 nc2_0 0 0 c0_0 c0_1 c0_2 h1 nc2_0 q.2 [])) P):Gets (qeD pos rows nv8 v34 c0_0 c0_1 c0_2 h1 nc2_0 h3) P:=
  gE (λ_=>qg (cfg:=cfg) (f:=7) (rd:=none) (bs:=0)) (by kernel_rfl) h
theorem qjA(nv8 nc2_0 nv3:Nat)(v12:Int)(c0_0:Bool)(c0_1 c0_2 h1:Rz)(nc2_0':Nat)(h3 h4:Rz){P:AV->Prop}(h:Gets (bif decide (v12<(↑ nc2_0:Int))then rd2 nc2_0 h3 v12 λn rows=>qk6 nv8 nc2_0 nv3 v12 0 c0_0 c0_1 c0_2 h1 nc2_0' h3 h4 n rows else bif qFR (0+nv3) (qFI h4)&&true then bif qFR (0+nv8) (qFI h1)&&true then kOpt (EVs (EV cfg) 19 [.sl (qFN nv8 h1),AV.fn (Fn.func 24) [] [AV.cptr [.sl (qFN nv3 h4)] 0]]) λv=>kInt .i64 v λn=>bif n==(- 1)then kOpt (EVm (EV cfg) 28 [.ms 0 0 nv8,AV.fn (Fn.func 29) [] []] 4 h1) λq=>q6 q.1 (kOpt (EVm (EV cfg) 30 [.ms 0 0 nv8,AV.fn (Fn.func 31) [] []] 4 q.2) λq=>kMSl q.1 (some (AV.tup [.agg [.bool false,.sl [],.sl (qFN nv3 h4)],.int .i64 0])) λoff len=>bif qFR (off+len) (qFI q.2)&&true then some (AV.tup [.agg [.bool false,.sl (qFN len (qGb off q.2)),.sl (qFN nv3 h4)],.int .i64 0])else none)else qeC nv8 nc2_0 nv3 h4 n (qFD .i64 (n+1)) c0_0 c0_1 c0_2 h1 (qFN nv3 h4) h3 else none else none) P):Gets (qcd nv8 nc2_0 nv3 v12 c0_0 c0_1 c0_2 h1 nc2_0' h3 h4) P:=
  gE (λ_=>qg (cfg:=cfg) (f:=22) (rd:=none) (bs:=4)) (by kernel_rfl) h
theorem qjz(nv8 nc2_0 nv3:Nat)(v12 v18:Int)(c0_0:Bool)(c0_1 c0_2 h1:Rz)(nc2_0':Nat)(h3 h4:Rz)(c5_0:Int)(c5_1:Rz){P:AV->Prop}(h:Gets (bif decide (v18<(↑ nv3:Int))then rd2 nv3 h4 v18 λn rows=>kOpt (EVs (EV cfg) 58 [.agg [.int .i64 c5_0,.sl c5_1],.agg [.int .i64 n,.sl rows]]) λv=>qt v λb=>bif b then qcd nv8 nc2_0 nv3 (qFD .i64 (v12+1)) c0_0 c0_1 c0_2 h1 nc2_0' h3 h4 else qk6 nv8 nc2_0 nv3 v12 (qFD .i64 (v18+1)) c0_0 c0_1 c0_2 h1 nc2_0' h3 h4 c5_0 c5_1 else bif qFR (0+nv3) (qFI h4)&&qI (nv3+1) 32 then qcd nv8 nc2_0 (nv3+1) (qFD .i64 (v12+1)) c0_0 c0_1 c0_2 h1 nc2_0' h3 (qF2 (qFN nv3 h4) [[AV.int .i64 c5_0,.sl c5_1]])else none) P):Gets (qk6 nv8 nc2_0 nv3 v12 v18 c0_0 c0_1 c0_2 h1 nc2_0' h3 h4 c5_0 c5_1) P:=
  gE (λ_=>qg (cfg:=cfg) (f:=22) (rd:=none) (bs:=4)) (by kernel_rfl) h
theorem qjy(nv8 nc2_0 nv3:Nat)(h4:Rz)(v5 v6:Int)(c0_0:Bool)(c0_1 c0_2 h1 c2_0 h3:Rz){P:AV->Prop}(h:Gets (bif decide (v6<(↑ nv8:Int))then rd4 nv8 h1 v6 λn n_1 s rows=>(kOpt (EVs (EV cfg) 24 [.agg [.int .i64 n,.int .i64 n_1,.str s,.sl rows],AV.cptr [.sl c2_0] 0]) λv=>qt v λb=>bif ! b then ck4 4 nv8 h1 v5 λrow=>qeC nv8 nc2_0 nv3 h4 (qFD .i64 (v5+1)) (qFD .i64 (v6+1)) c0_0 c0_1 c0_2 (st4 h1 v5 n n_1 s rows row) c2_0 h3 else qeC nv8 nc2_0 nv3 h4 v5 (qFD .i64 (v6+1)) c0_0 c0_1 c0_2 h1 c2_0 h3)else bif qj 0 v5&&qj v5 (↑ nv8:Int)then bif qFR (0+qFQ v5+(nv8 - v5.toNat)) (qFI h1)then bif qj 0 v5&&qj v5 (↑ nv8:Int)then kOpt (EVm (EV cfg) 28 [.ms 0 0 (qFQ v5 - 0),AV.fn (Fn.func 29) [] []] 4 (qF2 (qF2 (qFN (0+v5.toNat) h1) (qGd (nv8 - v5.toNat) [AV.int .i64 0,.int .i64 0,.str [],.nilS])) (qGb (0+qFQ v5+(nv8 - v5.toNat)) h1))) λq=>q6 q.1 (kOpt (EVm (EV cfg) 30 [.ms 0 0 (qFQ v5 - 0),AV.fn (Fn.func 31) [] []] 4 q.2) λq=>kMSl q.1 (some (AV.tup [.agg [.bool false,.sl [],.sl c2_0],.int .i64 0])) λoff len=>bif qFR (off+len) (qFI q.2)&&true then some (AV.tup [.agg [.bool false,.sl (qFN len (qGb off q.2)),.sl c2_0],.int .i64 0])else none)else none else none else none) P):Gets (qeC nv8 nc2_0 nv3 h4 v5 v6 c0_0 c0_1 c0_2 h1 c2_0 h3) P:=
  gE (λ_=>qg (cfg:=cfg) (f:=23) (rd:=none) (bs:=4)) (by kernel_rfl) h
end Go.Proofs.YtgleolmhpmljhaaGreat.L
end
noncomputable section
namespace Go.Av
structure Rg where
 ar:Int
 fst:List Tm
 deriving Inhabited
structure Bnd where
 all:Bool
 keys:List Tm
 rgs:List Rg
 deriving Inhabited
def allK(l:List Tm):Bool:=l.all λt=>decide (t.chk=0)
theorem qkO{l:List Tm}:allK l=true↔∀x∈l,x.chk=0:=by simp[allK]
def qAe(r:Rg)(k:Tm):Int:=lexI (numC k.kind 7) (lexI (numC k.subs.length r.ar) (cmpE (k.subs.take r.fst.length) r.fst))
def qoS(r:Rg)(k:Tm):Int:=if r.ar<r.fst.length∨k.chk≠0∨allK r.fst=false then 0 else qAe r k
def vJ(r:Rg)(k:Tm):Bool:=decide (k.kind=7)&&(decide ((k.subs.length:Int)=r.ar)&&(decide (r.fst.length<=k.subs.length)&&decide (k.subs.take r.fst.length=r.fst)))
theorem qy4(l m:List Tm):cmpE m l= - cmpE l m:=qes l (λa _ b=>qdy a b) m
theorem qA1(l m n:List Tm):C3 (cmpE l m) (cmpE m n) (cmpE l n):=qfT l (λa _ b c=>qny a b c) m n
end Go.Av
end
noncomputable section
namespace Go.Proofs.YtgleolmhpmljhaaGreat
open Go.Av
def qEj:Den:=evC cfg (EV cfg) 5 none 0 (sub (qc Tryz.f5) [1,0,1,0,0])
def qES:Ex×List AV×AH->Option AV:=kAft (Cfg.keepOut cfg 5 2) (kRun cfg (EV cfg) (kfN cfg 6) 5 none 0 (vM cfg (Cfg.lift cfg 5 0) Tryz.f5.results.toList) ([.block 0,.seq (sub (qc Tryz.f5) [1,1])]))
def qDT:List AV×AH->Option AV:=λp=>kOpt (LOOP 0 (some [0,3]) ([]) qEj p) qES
def qBZ:Den:=evC cfg (EV cfg) 19 none 0 (sub (qc Tryz.f19) [1,0,1,0,0])
def qCI:Ex×List AV×AH->Option AV:=kAft (Cfg.keepOut cfg 19 2) (kRun cfg (EV cfg) (kfN cfg 6) 19 none 0 (vM cfg (Cfg.lift cfg 19 0) Tryz.f19.results.toList) ([.block 0,.seq (sub (qc Tryz.f19) [1,1])]))
def qBe:List AV×AH->Option AV:=λp=>kOpt (LOOP 0 (some [0,1,7,8]) ([]) qBZ p) qCI
def qzz:Den:=evC cfg (EV cfg) 87 none 0 (sub (qc Tryz.f87) [1,1,0,1,0,0])
def qzR:Ex×List AV×AH->Option AV:=kAft (Cfg.keepOut cfg 87 4) (kRun cfg (EV cfg) (kfN cfg 6) 87 none 0 (vM cfg (Cfg.lift cfg 87 0) Tryz.f87.results.toList) ([.block 0,.seq (sub (qc Tryz.f87) [1,1,1])]))
def qzk:List AV×AH->Option AV:=λp=>kOpt (LOOP 0 (some [1,2,15,16,17]) ([]) qzz p) qzR
def qBY:Den:=evC cfg (EV cfg) 78 none 0 (sub (qc Tryz.f78) [1,0,1,0,0])
def qCH:Ex×List AV×AH->Option AV:=kAft (Cfg.keepOut cfg 78 2) (kRun cfg (EV cfg) (kfN cfg 6) 78 none 0 (vM cfg (Cfg.lift cfg 78 0) Tryz.f78.results.toList) ([.block 0,.seq (sub (qc Tryz.f78) [1,1])]))
def qBd:List AV×AH->Option AV:=λp=>kOpt (LOOP 0 (some [0,1,2,11,12,13]) ([]) qBY p) qCH
abbrev qkZ(L:Rz)(v3:Int):Option (AV):=qDT (((fx 15 [(0,.sl L),(3,.int .i64 v3)]):List AV),([]:AH))
abbrev qih(L:Rz)(v8:Int):Option (AV):=qBe (((fx 19 [(0,.sl L),(1,.fn (Fn.func 81) [] []),(7,.int .i64 (L.length:Int)),(8,.int .i64 v8)]):List AV),([]:AH))
abbrev qfc(L M:Rz)(v17:Int):Option (AV):=qzk (((fx 32 [(1,.sl M),(2,.fn (Fn.func 31) [] []),(15,.sl L),(16,.int .i64 (L.length:Int)),(17,.int .i64 v17)]):List AV),([]:AH))
abbrev qig(L M:Rz)(v13:Int):Option (AV):=qBd (((fx 39 [(0,.sl L),(1,.sl M),(2,.fn (Fn.func 29) [] []),(11,.sl L),(12,.int .i64 (L.length:Int)),(13,.int .i64 v13)]):List AV),([]:AH))
theorem qzf(L:Rz){P:AV->Prop}(h:Gets (kOpt (EVs (EV cfg) 46 [.sl L,AV.fn (Fn.func 81) [] []]) λv=>qt v λb=>some (.bool ! b)) P):Gets (EVs (EV cfg) 45 [.sl L]) P:=
  gE (λ_=>funS rfl rfl Tryz.func45 rfl) (by kernel_rfl) h
theorem qvn(kt nt:Int)(st:Bz)(lt:Rz){P:AV->Prop}(h:Gets (kOpt (EVs (EV cfg) 79 [.agg [.int .i64 kt,.int .i64 nt,.str st,.sl lt]]) λv=>kInt .i64 v λn=>some (.bool (n != 0))) P):Gets (EVs (EV cfg) 81 [.agg [.int .i64 kt,.int .i64 nt,.str st,.sl lt]]) P:=
  gE (λ_=>funS rfl rfl Tryz.func81 rfl) (by kernel_rfl) h
theorem qsG(L M:Rz){P:AV->Prop}(h:Gets (bif decide ((L.length:Int)≥(M.length:Int))then bif qj 0 (M.length:Int)&&qj (M.length:Int) (L.length:Int)then bif vP 4 L then kOpt (EVs (EV cfg) 87 [.sl (qFN (qFQ (M.length:Int) - 0) L),.sl M,AV.fn (Fn.func 31) [] []]) λv=>qt v λb=>some (.bool b)else none else none else some (.bool false)) P):Gets (EVs (EV cfg) 60 [.sl L,.sl M]) P:=
  gE (λ_=>funS rfl rfl Tryz.func60 rfl) (by kernel_rfl) h
theorem qsF(ar:Int)(fs:Rz)(kt nt:Int)(st:Bz)(lt:Rz){P:AV->Prop}(h:Gets (bif kt==7 then bif(lt.length:Int)==ar then kOpt (EVs (EV cfg) 60 [.sl lt,.sl fs]) λv=>qt v λb=>some (.bool b)else some (.bool false)else some (.bool false)) P):Gets (EVs (EV cfg) 27 [.agg [.int .i64 ar,.sl fs],.agg [.int .i64 kt,.int .i64 nt,.str st,.sl lt]]) P:=
  gE (λ_=>funS rfl rfl Tryz.func27 rfl) (by kernel_rfl) h
theorem qxh(ar:Int)(fs:Rz)(kt nt:Int)(st:Bz)(lt:Rz){P:AV->Prop}(h:Gets (bif decide (ar<(fs.length:Int))then some (.int .i64 0)else kOpt (EVs (EV cfg) 45 [.sl [[AV.int .i64 kt,.int .i64 nt,.str st,.sl lt]]]) λv=>qt v λb=>bif ! b then some (.int .i64 0)else kOpt (EVs (EV cfg) 45 [.sl fs]) λv=>qt v λb=>bif ! b then some (.int .i64 0)else kOpt (EVs (EV cfg) 63 [AV.int .i64 kt,.int .i64 7]) λv=>kInt .i64 v λn=>bif n != 0 then some (.int .i64 n)else kOpt (EVs (EV cfg) 63 [AV.int .i64 (lt.length:Int),.int .i64 ar]) λv=>kInt .i64 v λn=>bif n != 0 then some (.int .i64 n)else bif qj 0 (fs.length:Int)&&qj (fs.length:Int) (lt.length:Int)then bif vP 4 lt then kOpt (EVs (EV cfg) 78 [.sl (qFN (qFQ (fs.length:Int) - 0) lt),.sl fs,AV.fn (Fn.func 29) [] []]) λv=>kInt .i64 v λn=>some (.int .i64 n)else none else none) P):Gets (EVs (EV cfg) 42 [.agg [.int .i64 ar,.sl fs],.agg [.int .i64 kt,.int .i64 nt,.str st,.sl lt]]) P:=
  gE (λ_=>funS rfl rfl Tryz.func42 rfl) (by kernel_rfl) h
abbrev zu0:Option (AV):=some (AV.tup [.agg [.int .i64 0,.int .i64 0,.str [],.sl []],.bool false])
theorem qzc(al:Bool)(ks rs:Rz){P:AV->Prop}(h:Gets (bif al then zu0 else bif decide ((rs.length:Int)>0)then zu0 else bif(ks.length:Int) != 1 then zu0 else bif qA 0 (ks.length:Int)then kOpt (qFG ks 0) λrow=>bif qFY (qFI row) 4 then bif qFR 4 (qFI row)then kTmC (qFN 4 row) λn n_1 s rows=>(kOpt (EVf (EV cfg) 51 [.agg [.int .i64 n,.int .i64 n_1,.str s,.sl rows]]) λv=>kTmV v λn n_2 s rows=>(some (AV.tup [.agg [.int .i64 n,.int .i64 n_2,.str s,.sl rows],.bool true])))else none else none else none) P):Gets (EVf (EV cfg) 40 [.agg [.bool al,.sl ks,.sl rs]]) P:=
  gE (λ_=>funF rfl rfl Tryz.func40 rfl) (by kernel_rfl) h
theorem qsb(L:Rz){P:AV->Prop}(h:Gets (qkZ L 0) P):Gets (EVs (EV cfg) 5 [.sl L]) P:=
  gE (λ_=>funS rfl rfl Tryz.func5 rfl) (by kernel_rfl) h
theorem qsz(L:Rz){P:AV->Prop}(h:Gets (kOpt (EVs (EV cfg) 19 [.sl L,AV.fn (Fn.func 81) [] []]) λv=>kInt .i64 v λn=>some (.bool (decide (n≥0)))) P):Gets (EVs (EV cfg) 46 [.sl L,.fn (Fn.func 81) [] []]) P:=
  gE (λ_=>funS rfl rfl Tryz.func46 rfl) (by kernel_rfl) h
theorem quV(L:Rz){P:AV->Prop}(h:Gets (qih L 0) P):Gets (EVs (EV cfg) 19 [.sl L,.fn (Fn.func 81) [] []]) P:=
  gE (λ_=>funS rfl rfl Tryz.func19 rfl) (by kernel_rfl) h
theorem qu3(L M:Rz){P:AV->Prop}(h:Gets (bif(L.length:Int) != (M.length:Int)then some (.bool false)else qfc L M 0) P):Gets (EVs (EV cfg) 87 [.sl L,.sl M,.fn (Fn.func 31) [] []]) P:=
  gE (λ_=>funS rfl rfl Tryz.func87 rfl) (by kernel_rfl) h
theorem qw4(L M:Rz){P:AV->Prop}(h:Gets (qig L M 0) P):Gets (EVs (EV cfg) 78 [.sl L,.sl M,.fn (Fn.func 29) [] []]) P:=
  gE (λ_=>funS rfl rfl Tryz.func78 rfl) (by kernel_rfl) h
theorem qjr(L:Rz)(v3:Int){P:AV->Prop}(h:Gets (bif decide (v3<(L.length:Int))then rs4 L v3 λn n_1 s rows=>(kOpt (EVs (EV cfg) 15 [.agg [.int .i64 n,.int .i64 n_1,.str s,.sl rows],.int .i64 400]) λv=>qt v λb=>bif b then some (.bool true)else qkZ L (qFD .i64 (v3+1)))else some (.bool false)) P):Gets (qkZ L v3) P:=
  gE (λ_=>qg (cfg:=cfg) (f:=5) (rd:=none) (bs:=0)) (by kernel_rfl) h
theorem qgq(L:Rz)(v8:Int){P:AV->Prop}(h:Gets (bif decide (v8<(L.length:Int))then rs4 L v8 λn n_1 s rows=>(kOpt (EVs (EV cfg) 81 [.agg [.int .i64 n,.int .i64 n_1,.str s,.sl rows]]) λv=>qt v λb=>bif b then some (.int .i64 v8)else qih L (qFD .i64 (v8+1)))else some (.int .i64 (- 1))) P):Gets (qih L v8) P:=
  gE (λ_=>qg (cfg:=cfg) (f:=19) (rd:=none) (bs:=0)) (by kernel_rfl) h
theorem qfX(L M:Rz)(v17:Int){P:AV->Prop}(h:Gets (bif decide (v17<(L.length:Int))then rs4 L v17 λn n_1 s rows=>(rs4 M v17 λn_2 n_3 s_1 rows_1=>(kOpt (EVs (EV cfg) 31 [.agg [.int .i64 n,.int .i64 n_1,.str s,.sl rows],.agg [.int .i64 n_2,.int .i64 n_3,.str s_1,.sl rows_1]]) λv=>qt v λb=>bif ! b then some (.bool false)else qfc L M (qFD .i64 (v17+1))))else some (.bool true)) P):Gets (qfc L M v17) P:=
  gE (λ_=>qg (cfg:=cfg) (f:=87) (rd:=none) (bs:=0)) (by kernel_rfl) h
theorem qgp(L M:Rz)(v13:Int){P:AV->Prop}(h:Gets (bif decide (v13<(L.length:Int))then rs4 L v13 λn n_1 s rows=>(bif decide (v13≥(M.length:Int))then some (.int .i64 1)else rs4 M v13 λn_2 n_3 s_1 rows_1=>(kOpt (EVs (EV cfg) 29 [.agg [.int .i64 n,.int .i64 n_1,.str s,.sl rows],.agg [.int .i64 n_2,.int .i64 n_3,.str s_1,.sl rows_1]]) λv=>kInt .i64 v λn=>bif n != 0 then some (.int .i64 n)else qig L M (qFD .i64 (v13+1))))else bif decide ((L.length:Int)<(M.length:Int))then some (.int .i64 (- 1))else some (.int .i64 0)) P):Gets (qig L M v13) P:=
  gE (λ_=>qg (cfg:=cfg) (f:=78) (rd:=none) (bs:=0)) (by kernel_rfl) h
end Go.Proofs.YtgleolmhpmljhaaGreat
end
noncomputable section
namespace Go.Av
structure EnvW (e:Env):Prop where
 obj:e.obj.w<1099511627776
 len:e.binds.length<1099511627776
 binds:∀p∈e.binds,p.2.w<1099511627776
end Go.Av
namespace Go.Proofs.YtgleolmhpmljhaaGreat
open Go.Av
end Go.Proofs.YtgleolmhpmljhaaGreat
end
noncomputable section
namespace Go.Av
end Go.Av
namespace Go.Proofs.YtgleolmhpmljhaaGreat
open Go.Av
theorem qxo(t:Tm):t.av= .agg [.int .i64 t.kind,.int .i64 t.num,.str t.str,.sl (qa t.subs)]:=by rw[Tm.av,Tm.cells_eq]
end Go.Proofs.YtgleolmhpmljhaaGreat
end
noncomputable section
namespace Go.Av
def Rg.cells(r:Rg):List AV:=[.int .i64 r.ar,.sl (qa r.fst)]
def Rg.av(r:Rg):AV:=.agg r.cells
def qn(l:List Rg):List (List AV):=l.map Rg.cells
def Bnd.av(b:Bnd):AV:=.agg [.bool b.all,.sl (qa b.keys),.sl (qn b.rgs)]
theorem qU(l:List Rg):(qn l).length=l.length:=by simp[qn]
theorem qdL(l:List Rg)(i:Nat):(qn l)[i]? =(l[i]?).map Rg.cells:=by simp[qn]
structure RgW (r:Rg):Prop where
 len:r.fst.length<1099511627776
 ws:∀x∈r.fst,x.w<1099511627776
def AtP(i:Nat)(p:Bool)(v:AV):Prop:=∃j:Int,v= .int .i64 j∧(0<=j↔p=true)
end Go.Av
namespace Go.Proofs.YtgleolmhpmljhaaGreat
open Go.Av
theorem qxi{t:Tm}(h:t.w<1099511627776):EVs (EV cfg) 81 [t.av]=some (.bool (!decide (t.chk=0))):=by
 have hc:=qfU h;apply Gets.get;rw[Tm.av,Tm.cells_eq]at hc⊢;refine qvn _ _ _ _ ?_;rw[hc];simp only[qd,qe,bneD];exact⟨_,rfl,rfl⟩
theorem qta{l:List Tm}(hlen:l.length<1099511627776)(hw:∀x∈l,x.w<1099511627776):EVs (EV cfg) 45 [.sl (qa l)]=some (.bool (allK l)):=by
 have loop:∀d i:Nat,i+d=l.length->Gets (qih (qa l) i) (AtP i (!allK (l.drop i))):=by
  intro d
  induction d with
  |zero=>
   intro i hi;refine qgq _ _ ?_;unfold rs4;rw[qb,qGp (by omega)];refine⟨_,rfl,-1,rfl,?_⟩;rw[qFV (by omega)];simp[allK]
  |succ d ihd=>
   intro i hi;have hil:i<l.length:=by omega
   refine qgq _ _ ?_;unfold rs4;have hx:l[i]? =some l[i]:=qFE hil;have hd:l.drop i=l[i]::l.drop (i+1):=qFS hil;have h1:=qxi (hw _ (qFK hx));have h2:=ihd (i+1) (by omega);rw[qb,qGo (show(i:Int)<(l.length:Int) by omega),qv,qD,qGo hil,qY hx,qN hil hlen];simp only[cond_true,qF7,qf,qF3,qi,qh,show qFR 4 4=true from rfl,qB,h1,qd,qp]
   by_cases hg:l[i].chk=0
   ·rw[qGo hg];refine h2.mono ?_;rintro _ ⟨j,rfl,hj⟩;refine⟨j,rfl,?_⟩;rw[hd,allK,List.all_cons,qGo hg,qGm];exact hj
   ·rw[qGp hg];refine⟨_,rfl,i,rfl,?_⟩;rw[hd,allK,List.all_cons,qGp hg];exact⟨λ_=>rfl,λ_=>by omega⟩
 obtain⟨_,h1,j,rfl,hj⟩:=loop l.length 0 (by omega);rw[List.drop_zero]at hj;have h2:EVs (EV cfg) 19 [.sl (qa l),.fn (.func 81) [] []]=some (.int .i64 j):=Gets.get (quV _ ⟨_,h1,rfl⟩);have h3:EVs (EV cfg) 46 [.sl (qa l),.fn (.func 81) [] []]=some (.bool (decide (j≥0))):=by
  apply Gets.get;refine qsz _ ?_;rw[h2];exact⟨_,rfl,rfl⟩
 apply Gets.get;refine qzf _ ?_;rw[h3];refine⟨_,rfl,?_⟩;show AV.bool (!decide (j≥0))=_
 congr 1
 cases ha:allK l with
 |false=>rw[ha]at hj;rw[qGo (hj.2 rfl)];rfl
 |true=>
  rw[ha]at hj;have:¬j≥0:=λh=>by have:=hj.1 h;cases this
  rw[qGp this];rfl
theorem qxk{l m:List Tm}(hl:l.length<1099511627776)(hw:∀x∈l,x.w<1099511627776):EVs (EV cfg) 87 [.sl (qa l),.sl (qa m),.fn (.func 31) [] []]=some (.bool (decide (l=m))):=by
 apply Gets.get;refine qu3 _ _ ?_;rw[qb,qb,bneD]
 by_cases hlm:l.length=m.length
 ·have loop:∀d i:Nat,i+d=l.length->Gets (qfc (qa l) (qa m) i) (·= .bool (decide (l.drop i=m.drop i))):=by
   intro d
   induction d with
   |zero=>
    intro i hi;refine qfX _ _ _ ?_;unfold rs4;rw[qb,qGp (by omega),qFV (by omega),qFV (by omega)];exact⟨_,rfl,rfl⟩
   |succ d ihd=>
    intro i hi;have hil:i<l.length:=by omega
    have him:i<m.length:=by omega
    refine qfX _ _ _ ?_;unfold rs4;have hx:l[i]? =some l[i]:=qFE hil;have hy:m[i]? =some m[i]:=qFE him;have hd:l.drop i=l[i]::l.drop (i+1):=qFS hil;have hd':m.drop i=m[i]::m.drop (i+1):=qFS him;have h1:=qkq (b:=m[i]) (hw _ (qFK hx));have h2:=ihd (i+1) (by omega);rw[qb,qb,qGo (show(i:Int)<(l.length:Int) by omega),qv,qD,qD,qGo hil,qGo him,qY hx,qN hil hl]
    simp only[cond_true,qF7,qf,qF3,qi,qh,show qFR 4 4=true from rfl];rw[qY hy];simp only[cond_true,qf,qF3,qi,qh,show qFR 4 4=true from rfl,qB,h1,qd,qp];rw[hd,hd']
    by_cases he:l[i]=m[i]
    ·rw[qGo he];refine h2.mono ?_;rintro _ rfl;rw[he]
     congr 1
     exact decide_eq_decide.2 ⟨λh=>by rw[h],λh=>(List.cons.inj h).2⟩
    ·rw[qGp he];refine⟨_,rfl,?_⟩;rw[qGp (λh=>he (List.cons.inj h).1)]
  rw[qGo (show(l.length:Int)=m.length by omega)];have:=loop l.length 0 (by omega)
  simpa using this
 ·rw[qGp (show ¬(l.length:Int)=m.length by omega)];refine⟨_,rfl,?_⟩;rw[qGp (λh=>hlm (by rw[h]))]
theorem qmG{l m:List Tm}(hl:l.length<1099511627776)(hw:∀x∈l,x.w<1099511627776):EVs (EV cfg) 60 [.sl (qa l),.sl (qa m)]=some (.bool (decide (m.length<=l.length)&&decide (l.take m.length=m))):=by
 have he:=qxk (l:=l.take m.length) (m:=m) (by rw[qF9];omega) (λx hx=>hw x (List.mem_of_mem_take hx));apply Gets.get;refine qsG _ _ ?_;rw[qb,qb]
 by_cases h:m.length<=l.length
 ·have hle:qj (m.length:Int) (l.length:Int)=true:=by simp only[qj];exact qGo (by omega)
  have r4:vP 4 (qa l)=true:=yV _;rw[qGo (show(l.length:Int)≥m.length by omega),qGo h,qv,hle,r4,qFT,Nat.sub_zero,zC,he];simp only[qF7,cond_true,qd,qp,qGm];exact⟨_,rfl,rfl⟩
 ·rw[qGp (show ¬(l.length:Int)≥m.length by omega),qGp h];exact⟨_,rfl,rfl⟩
theorem qvm(r:Rg){k:Tm}(hk:k.w<1099511627776):EVs (EV cfg) 27 [r.av,k.av]=some (.bool (vJ r k)):=by
 have hwe:=k.w_eq;have hb:=qmG (l:=k.subs) (m:=r.fst) (by have:=xK k.subs;omega) (λx hx=>by have:=xF hx;omega);apply Gets.get;rw[qxo k];refine qsF _ _ _ _ _ _ ?_;rw[hb,beqI,qb,beqI];unfold vJ;cases decide (k.kind=7)<;>cases decide ((k.subs.length:Int)=r.ar)<;>exact⟨_,rfl,rfl⟩
theorem qzh{l m:List Tm}(hl:l.length<1099511627776)(hlm:l.length=m.length)(hw:∀x∈l,x.w<1099511627776)(hm:∀x∈m,x.w<1099511627776):EVs (EV cfg) 78 [.sl (qa l),.sl (qa m),.fn (.func 29) [] []]=some (.int .i64 (cmpE l m)):=by
 have loop:∀d i:Nat,i+d=l.length->Gets (qig (qa l) (qa m) i) (·= .int .i64 (cmpE (l.drop i) (m.drop i))):=by
  intro d
  induction d with
  |zero=>
   intro i hi;refine qgp _ _ _ ?_;unfold rs4;rw[qb,qb,qGp (show ¬((i:Int)<(l.length:Int)) by omega),qGp (show ¬((l.length:Int)<(m.length:Int)) by omega),qFV (by omega),qFV (by omega),zk];exact⟨_,rfl,rfl⟩
  |succ d ihd=>
   intro i hi;have hil:i<l.length:=by omega
   have him:i<m.length:=by omega
   refine qgp _ _ _ ?_;unfold rs4;have hx:l[i]? =some l[i]:=qFE hil;have hy:m[i]? =some m[i]:=qFE him;have hd:l.drop i=l[i]::l.drop (i+1):=qFS hil;have hd':m.drop i=m[i]::m.drop (i+1):=qFS him;have h1:=vS (x8 _ (hw _ (qFK hx))) (x8 _ (hm _ (qFK hy)));have h2:=ihd (i+1) (by omega)
   rw[qb,qb,qGo (show(i:Int)<(l.length:Int) by omega),qv,qD,qD,qGo hil,qGo him,qGp (show ¬(i:Int)≥(m.length:Int) by omega),qY hx,qN hil hl];simp only[cond_true,cond_false,qF7,qf,qF3,qi,qh,show qFR 4 4=true from rfl];rw[qY hy];simp only[cond_true,qf,qF3,qi,qh,show qFR 4 4=true from rfl,qB,h1,qd,qe,bneD]
   rw[hd,hd',zw]
   by_cases he:cmpT l[i] m[i]=0
   ·rw[qGo he,qGr (by omega)];exact h2
   ·rw[qGp he,qGq he];exact⟨_,rfl,rfl⟩
 apply Gets.get;refine qw4 _ _ ?_
 simpa using loop l.length 0 (by omega)
theorem qq3{r:Rg}(hr:RgW r){k:Tm}(hk:k.w<1099511627776):EVs (EV cfg) 42 [r.av,k.av]=some (.int .i64 (qoS r k)):=by
 have hwe:=k.w_eq;have hlk:=xK k.subs;have m1:=qta (l:=[k]) (by simp) (by simpa using hk);have m2:=qta hr.len hr.ws;have er:[[AV.int .i64 k.kind,.int .i64 k.num,.str k.str,.sl (qa k.subs)]]=qa [k]:=by rw[qF,qO,Tm.cells_eq]
 have k1:allK [k]=decide (k.chk=0):=by simp[allK]
 apply Gets.get;rw[qxo k];refine qxh _ _ _ _ _ _ ?_;rw[qb,er,m1,m2,k1,qh0,qb,qh0];unfold qoS
 by_cases h1:r.ar<(r.fst.length:Int)
 ·rw[qGo h1,qGq (.inl h1)];exact⟨_,rfl,rfl⟩
 ·rw[qGp h1]
  by_cases h2:k.chk=0
  ·rw[qGo h2];cases h3:allK r.fst with
   |false=>
    rw[qGq (.inr (.inr rfl))];exact⟨_,rfl,rfl⟩
   |true=>
    rw[qGr (λh=>h.elim h1 λh=>h.elim (λh=>h h2) λh=>by cases h)];simp only[cond_false,qd,qp,qFW,qe,bneD];unfold qAe
    by_cases h4:numC k.kind 7=0
    ·rw[qGo h4,h4,zv]
     by_cases h5:numC (k.subs.length:Int) r.ar=0
     ·have h6:=xB.1 h5;have hle:qj (r.fst.length:Int) (k.subs.length:Int)=true:=by simp only[qj];exact qGo (by omega)
      have r4:vP 4 (qa k.subs)=true:=yV _;have hc:=qzh (l:=k.subs.take r.fst.length) (m:=r.fst) (by rw[qF9];omega) (by rw[qF9];omega) (λx hx=>by have:=xF (List.mem_of_mem_take hx);omega) hr.ws;rw[qGo h5,h5,zv,qv,hle,r4,qFT,Nat.sub_zero,zC,hc];exact⟨_,rfl,rfl⟩
     ·rw[qGp h5,x9 h5];exact⟨_,rfl,rfl⟩
    ·rw[qGp h4,x9 h4];exact⟨_,rfl,rfl⟩
  ·rw[qGp h2,qGq (.inr (.inl h2))];exact⟨_,rfl,rfl⟩
end Go.Proofs.YtgleolmhpmljhaaGreat
end
noncomputable section
namespace Go.Av
def okC(c:Cl):Bool:=qb4 c.head&& !c.bs.isEmpty&&(c.gs.all (λe=>decide (zs (yJ c.head) e=0))&&c.bs.all (λe=>decide (zs (yJ c.head) e=0)))
structure SelOk (cs:List Cl):Prop where
 chk:(selT cs).chk=0
 ok:∀c∈cs,okC c=true
 ne:cs≠[]
mutual
/-- does neither a variable nor what matches all stand in a pattern? -/
def gndT:Tm->Bool
 | .mk k _ s l=>if k=7∨k=9 then gndL l else !(decide (k=2)&&((varG s).isSome||decide (s=[95])))
def gndL:List Tm->Bool
 |[]=>true
 |t::l=>gndT t&&gndL l
end
theorem qaZ:∀l:List Tm,gndL l=l.all gndT
 |[]=>rfl
 |t::l=>by rw[gndL,qaZ l];rfl
theorem qi1(t:Tm):gndT t=if t.kind=7∨t.kind=9 then t.subs.all gndT else !(decide (t.kind=2)&&((varG t.str).isSome||decide (t.str=[95]))):=by
 obtain⟨k,m,s,l⟩:=t;rw[gndT,qaZ];rfl
def bndG(p:Tm):Bool:=decide (p.chk=0)&&gndT p
inductive Meet
 |all
 |none
 |key (k:Tm)
 |rng (r:Rg)
def vV(h:Tm)(pos:Nat):Meet:=
 if h.kind≠7 then .all
 else match h.subs[pos - 1]? with
  |Option.none=>.none
  |some p=>if bndG p then .key p else if p.kind=7 then .rng ⟨p.subs.length,p.subs.takeWhile bndG⟩else .all
def vD(r s:Rg):Bool:=decide (r.ar=s.ar)&&(decide (s.fst.length<=r.fst.length)&&decide (r.fst.take s.fst.length=s.fst))
def xc:List Rg->List Rg->List Rg
 |out,[]=>out
 |out,r::l=>if out.any (vD r)then xc out l else xc (out++[r]) l
theorem qcF(r:Rg):vD r r=true:=by
 unfold vD;simp
theorem qbY{r:Rg}:∀{l out:List Rg},r∈out->r∈xc out l
 |[],out,h=>h
 |s::l,out,h=>by
  rw[xc];split
  ·exact qbY h
  ·exact qbY (by simp[h])
theorem qcE{r:Rg}:∀{l out:List Rg},r∈l->∃s∈xc out l,vD r s=true
 |[],out,h=>by cases h
 |s::l,out,h=>by
  rw[xc];rcases qF6.1 h with rfl|h
  ·split
   ·rename_i ha;obtain⟨x,hx,hw⟩:=List.any_eq_true.1 ha;exact⟨x,qbY hx,hw⟩
   ·exact⟨r,qbY (by simp),qcF r⟩
  ·split
   ·exact qcE h
   ·exact qcE h
theorem qcD{r:Rg}:∀{l out:List Rg},r∈xc out l->r∈out∨r∈l
 |[],out,h=>.inl h
 |s::l,out,h=>by
  rw[xc]at h;split at h
  ·exact(qcD h).imp id (by simp +contextual)
  ·rcases qcD h with h|h
   ·rcases qF8.1 h with h|h
    ·exact .inl h
    ·rw[List.mem_singleton]at h;subst h;exact .inr (by simp)
   ·exact .inr (by simp[h])
structure BndFor (cs:List Cl) (pos:Nat) (b:Bnd):Prop where
 all:(∃c∈cs,∃x,vV c.head pos=x∧x= .all)->b.all=true
 rng:b.all=false->∀c∈cs,∀r,vV c.head pos= .rng r->∃s∈b.rgs,vD r s=true
 key:b.all=false->∀c∈cs,∀k,vV c.head pos= .key k->(∃s∈b.rgs,vJ s k=true)∨k∈b.keys
end Go.Av
end
noncomputable section
namespace Go.Proofs.YtgleolmhpmljhaaGreat
open Go.Av
def qCh:Den:=evC cfg (EV cfg) 19 none 0 (sub (qc Tryz.f19) [1,0,1,0,0])
def qC0:Ex×List AV×AH->Option AV:=kAft (Cfg.keepOut cfg 19 2) (kRun cfg (EV cfg) (kfN cfg 6) 19 none 0 (vM cfg (Cfg.lift cfg 19 0) Tryz.f19.results.toList) ([.block 0,.seq (sub (qc Tryz.f19) [1,1])]))
def qtf:List AV×AH->Option AV:=λp=>kOpt (LOOP 0 (some [0,1,7,8]) ([]) qCh p) qC0
def qCg:Den:=evC cfg (EV cfg) 59 none 0 (sub (qc Tryz.f59) [1,0,1,0,0])
def qCZ:Ex×List AV×AH->Option AV:=kAft (Cfg.keepOut cfg 59 2) (kRun cfg (EV cfg) (kfN cfg 6) 59 none 0 (vM cfg (Cfg.lift cfg 59 0) Tryz.f59.results.toList) ([.block 0,.seq (sub (qc Tryz.f59) [1,1])]))
def qBw:List AV×AH->Option AV:=λp=>kOpt (LOOP 0 (some [0,1,7,8]) ([]) qCg p) qCZ
def qCi:Den:=evC cfg (EV cfg) 85 none 4 (sub (qc Tryz.f85) [0,1,1,0,0])
def qC1:Ex×List AV×AH->Option AV:=kAft (Cfg.keepOut cfg 85 (qm (sub (qc Tryz.f85) [0,1,1,0,0]))) (vm 0 (qdq (xI cfg (Cfg.lift cfg 85 0) (fun(v:AV) (H:AH)=>(fun(r:AV×AH)=>yN 0 3 (fx 29 [(2,AV.ptr 1 0 0)]) (vm 0 (kSeq (fun(fr:List AV) (H:AH)=>ve (Cfg.cut cfg 18 (qm (sub (qc Tryz.f18) [1,1,1]))) fr H fun(fr:List AV) (H:AH)=>qR cfg (EV cfg) (kfN cfg 6) 18 none 0 (sub (qc Tryz.f18) [1,1,1]) fr H (vM cfg (Cfg.lift cfg 18 0) (qGg (Func.results Tryz.f18)))) (vM cfg (Cfg.lift cfg 18 0) (qGg (Func.results Tryz.f18))))) (Prod.snd r)) (v,H)) (qGg (Func.results (Prod.snd (85,Tryz.f85)))))))
def qBx:List AV×AH->Option AV:=fun(p:List AV×AH)=>kOpt (LOOP 4 (some [0,3]) [(3,4)] qCi p) qC1
abbrev qit(L:Rz)(v8:Int):Option (AV):=qtf (((fx 19 [(0,.sl L),(1,.fn (Fn.func 20) [] []),(7,.int .i64 (L.length:Int)),(8,.int .i64 v8)]):List AV),([]:AH))
abbrev qfi(L rs:Rz)(v8:Int):Option (AV):=qtf (((fx 19 [(0,.sl L),(1,.fn (Fn.func 24) [] [.cptr [.sl rs] 0]),(7,.int .i64 (L.length:Int)),(8,.int .i64 v8)]):List AV),([]:AH))
abbrev qis(L:Rz)(kt nt:Int)(st:Bz)(lt:Rz)(v8:Int):Option (AV):=qBw (((fx 19 [(0,.sl L),(1,.fn (Fn.func 26) [] [.cptr [.int .i64 kt,.int .i64 nt,.str st,.sl lt] 0]),(7,.int .i64 (L.length:Int)),(8,.int .i64 v8)]):List AV),([]:AH))
abbrev qal(nv3:Nat)(c0_0 c0_1:Int)(c0_2:Bz)(c0_3:Rz)(c1_0:Bool)(c2_0 c2_1:Int)(c2_2:Bz)(c2_3 h4:Rz):Option (AV):=qBx (((fx 37 [(0,.yld 3),(3,.ms 4 0 nv3)]):List AV),([.rows false 4 [[.int .i64 c0_0,.int .i64 c0_1,.str c0_2,.sl c0_3]],.rows false 1 [[.bool c1_0]],.rows false 4 [[.int .i64 c2_0,.int .i64 c2_1,.str c2_2,.sl c2_3]],rngB Tryz.f18 18 [1,1,0,1,0] (fx 29 [(2,.ptr 1 0 0)]) none LoopState.ready,.rows true 4 h4]:AH))
theorem qxg(ar:Int)(fs:Rz)(br:Int)(gs:Rz){P:AV->Prop}(h:Gets (bif ar==br then kOpt (EVs (EV cfg) 60 [.sl fs,.sl gs]) λv=>qt v λb=>some (.bool b)else some (.bool false)) P):Gets (EVs (EV cfg) 58 [.agg [.int .i64 ar,.sl fs],.agg [.int .i64 br,.sl gs]]) P:=
  gE (λ_=>funS rfl rfl Tryz.func58 rfl) (by kernel_rfl) h
theorem qwp(kt nt:Int)(st:Bz)(lt:Rz){P:AV->Prop}(h:Gets (kOpt (EVs (EV cfg) 18 [.agg [.int .i64 kt,.int .i64 nt,.str st,.sl lt]]) λv=>qt v λb=>some (.bool ! b)) P):Gets (EVs (EV cfg) 20 [.agg [.int .i64 kt,.int .i64 nt,.str st,.sl lt]]) P:=
  gE (λ_=>funS rfl rfl Tryz.func20 rfl) (by kernel_rfl) h
theorem qyt(kt nt:Int)(st:Bz)(lt rs:Rz){P:AV->Prop}(h:Gets (kOpt (EVs (EV cfg) 25 [.sl rs,AV.fn (Fn.func 26) [] [AV.cptr [AV.int .i64 kt,.int .i64 nt,.str st,.sl lt] 0]]) λv=>qt v λb=>some (.bool b)) P):Gets (EVs (EV cfg) 24 [.agg [.int .i64 kt,.int .i64 nt,.str st,.sl lt],.cptr [.sl rs] 0]) P:=
  gE (λ_=>funS rfl rfl Tryz.func24 rfl) (by kernel_rfl) h
theorem qwq(ar:Int)(fs:Rz)(kt nt:Int)(st:Bz)(lt:Rz){P:AV->Prop}(h:Gets (kOpt (EVs (EV cfg) 27 [.agg [.int .i64 ar,.sl fs],.agg [.int .i64 kt,.int .i64 nt,.str st,.sl lt]]) λv=>qt v λb=>some (.bool b)) P):Gets (EVs (EV cfg) 26 [.agg [.int .i64 ar,.sl fs],.cptr [.int .i64 kt,.int .i64 nt,.str st,.sl lt] 0]) P:=
  gE (λ_=>funS rfl rfl Tryz.func26 rfl) (by kernel_rfl) h
theorem quU(L:Rz){P:AV->Prop}(h:Gets (qit L 0) P):Gets (EVs (EV cfg) 19 [.sl L,.fn (Fn.func 20) [] []]) P:=
  gE (λ_=>funS rfl rfl Tryz.func19 rfl) (by kernel_rfl) h
theorem qwR(L rs:Rz){P:AV->Prop}(h:Gets (qfi L rs 0) P):Gets (EVs (EV cfg) 19 [.sl L,.fn (Fn.func 24) [] [.cptr [.sl rs] 0]]) P:=
  gE (λ_=>funS rfl rfl Tryz.func19 rfl) (by kernel_rfl) h
theorem qu9(L:Rz)(kt nt:Int)(st:Bz)(lt:Rz){P:AV->Prop}(h:Gets (kOpt (EVs (EV cfg) 59 [.sl L,AV.fn (Fn.func 26) [] [AV.cptr [AV.int .i64 kt,.int .i64 nt,.str st,.sl lt] 0]]) λv=>kInt .i64 v λn=>some (.bool (decide (n≥0)))) P):Gets (EVs (EV cfg) 25 [.sl L,.fn (Fn.func 26) [] [.cptr [.int .i64 kt,.int .i64 nt,.str st,.sl lt] 0]]) P:=
  gE (λ_=>funS rfl rfl Tryz.func25 rfl) (by kernel_rfl) h
theorem quW(L:Rz)(kt nt:Int)(st:Bz)(lt:Rz){P:AV->Prop}(h:Gets (qis L kt nt st lt 0) P):Gets (EVs (EV cfg) 59 [.sl L,.fn (Fn.func 26) [] [.cptr [.int .i64 kt,.int .i64 nt,.str st,.sl lt] 0]]) P:=
  gE (λ_=>funS rfl rfl Tryz.func59 rfl) (by kernel_rfl) h
theorem quf(kt nt:Int)(st:Bz)(lt:Rz){P:AV->Prop}(h:Gets (kOpt (EVs (EV cfg) 53 [.agg [.int .i64 kt,.int .i64 nt,.str st,.sl lt]]) λv=>qt v λb=>bif ! b then some (.bool false)else qal 1 kt nt st lt false kt nt st lt [[AV.int .i64 kt,.int .i64 nt,.str st,.sl lt]]) P):Gets (EVs (EV cfg) 18 [.agg [.int .i64 kt,.int .i64 nt,.str st,.sl lt]]) P:=
  gE (λ_=>funS rfl rfl Tryz.func18 rfl) (by kernel_rfl) h
theorem qpd(L:Rz)(v8:Int){P:AV->Prop}(h:Gets (bif decide (v8<(L.length:Int))then rs4 L v8 λn n_1 s rows=>(kOpt (EVs (EV cfg) 20 [.agg [.int .i64 n,.int .i64 n_1,.str s,.sl rows]]) λv=>qt v λb=>bif b then some (.int .i64 v8)else qit L (qFD .i64 (v8+1)))else some (.int .i64 (- 1))) P):Gets (qit L v8) P:=
  gE (λ_=>qg (cfg:=cfg) (f:=19) (rd:=none) (bs:=0)) (by kernel_rfl) h
theorem qf8(L rs:Rz)(v8:Int){P:AV->Prop}(h:Gets (bif decide (v8<(L.length:Int))then rs4 L v8 λn n_1 s rows=>(kOpt (EVs (EV cfg) 24 [.agg [.int .i64 n,.int .i64 n_1,.str s,.sl rows],AV.cptr [.sl rs] 0]) λv=>qt v λb=>bif b then some (.int .i64 v8)else qfi L rs (qFD .i64 (v8+1)))else some (.int .i64 (- 1))) P):Gets (qfi L rs v8) P:=
  gE (λ_=>qg (cfg:=cfg) (f:=19) (rd:=none) (bs:=0)) (by kernel_rfl) h
theorem qgI(L:Rz)(kt nt:Int)(st:Bz)(lt:Rz)(v8:Int){P:AV->Prop}(h:Gets (bif decide (v8<(L.length:Int))then rs2 L v8 λn rows=>kOpt (EVs (EV cfg) 26 [.agg [.int .i64 n,.sl rows],AV.cptr [AV.int .i64 kt,.int .i64 nt,.str st,.sl lt] 0]) λv=>qt v λb=>bif b then some (.int .i64 v8)else qis L kt nt st lt (qFD .i64 (v8+1))else some (.int .i64 (- 1))) P):Gets (qis L kt nt st lt v8) P:=
  gE (λ_=>qg (cfg:=cfg) (f:=59) (rd:=none) (bs:=0)) (by kernel_rfl) h
theorem qc8(nv3:Nat)(c0_0 c0_1:Int)(c0_2:Bz)(c0_3:Rz)(c1_0:Bool)(c2_0 c2_1:Int)(c2_2:Bz)(c2_3 h4:Rz){P:AV->Prop}(h:Gets (bif decide ((↑ nv3:Int)>0)then rd4 nv3 h4 (qFD .i64 ((↑ nv3:Int) - 1)) λn n_1 s rows=>(bif qj 0 (qFD .i64 ((↑ nv3:Int) - 1))&&qj (qFD .i64 ((↑ nv3:Int) - 1)) (↑ nv3:Int)then bif n==7 then bif vP 4 rows then bif qFR (0+(qFQ (qFD .i64 ((↑ nv3:Int) - 1)) - 0)) (qFI h4)&&qI (qFQ (qFD .i64 ((↑ nv3:Int) - 1)) - 0+qFI rows) 56 then qal (qFQ (qFD .i64 ((↑ nv3:Int) - 1)) - 0+qFI rows) c0_0 c0_1 c0_2 c0_3 c1_0 c2_0 c2_1 c2_2 c2_3 (qF2 (qFN (qFQ (qFD .i64 ((↑ nv3:Int) - 1)) - 0) h4) rows)else none else none else bif n==9 then bif vP 4 rows then bif qFR (0+(qFQ (qFD .i64 ((↑ nv3:Int) - 1)) - 0)) (qFI h4)&&qI (qFQ (qFD .i64 ((↑ nv3:Int) - 1)) - 0+qFI rows) 56 then qal (qFQ (qFD .i64 ((↑ nv3:Int) - 1)) - 0+qFI rows) c0_0 c0_1 c0_2 c0_3 c1_0 c2_0 c2_1 c2_2 c2_3 (qF2 (qFN (qFQ (qFD .i64 ((↑ nv3:Int) - 1)) - 0) h4) rows)else none else none else kOpt (EVs (EV cfg) 55 [.str s]) λv=>kTup v λcs=>ql cs λc cs=>kInt .i64 c λn_2=>ql cs λc cs=>qt c λb=>kNil cs (bif n==2 then bif b then some (.bool false)else bif s==[(95:UInt8)]then some (.bool false)else qal (qFQ (qFD .i64 ((↑ nv3:Int) - 1)) - 0) c0_0 c0_1 c0_2 c0_3 c1_0 c2_0 c2_1 c2_2 c2_3 h4 else qal (qFQ (qFD .i64 ((↑ nv3:Int) - 1)) - 0) c0_0 c0_1 c0_2 c0_3 c1_0 c2_0 c2_1 c2_2 c2_3 h4)else none)else some (.bool true)) P):Gets (qal nv3 c0_0 c0_1 c0_2 c0_3 c1_0 c2_0 c2_1 c2_2 c2_3 h4) P:=
  gE (λ_=>qg (cfg:=cfg) (f:=85) (rd:=none) (bs:=4)) (by kernel_rfl) h
end Go.Proofs.YtgleolmhpmljhaaGreat
end
noncomputable section
namespace Go.Proofs.YtgleolmhpmljhaaGreat.K
open Go.Av
theorem qvh(r:List AV)(L:Rz){P:AV->Prop}(h:Gets (bif vP 4 (r::L)then bif qI (0+qFI (r::L)) 56 then bif qFR (0+(0+qFI (r::L))) (qFI (r::L))&&true then some (.sl (r::qFN (Nat.add 0 (qFI L)) L))else none else none else none) P):Gets (EVf (EV cfg) 21 [.sl (r::L)]) P:=
  gE (λ_=>funF rfl rfl Tryz.func21 rfl) (by kernel_rfl) h
theorem qvf{P:AV×AH->Prop}(h:Gets (some (.ms 0 0 0,[.rows true 4 []])) P):Gets (EV cfg (.f 21) [.nilS] ([]:AH)) P:=
  gE (λ_=>funA rfl rfl Tryz.func21 rfl) (by kernel_rfl) h
theorem qvg{P:AV×AH->Prop}(h:Gets (some (.ms 1 0 0,[.dead,.rows true 4 []])) P):Gets (EV cfg (.f 21) [.em] ([]:AH)) P:=
  gE (λ_=>funA rfl rfl Tryz.func21 rfl) (by kernel_rfl) h
end Go.Proofs.YtgleolmhpmljhaaGreat.K
end
noncomputable section
namespace Go.Proofs.YtgleolmhpmljhaaGreat
open Go.Av
def qrf:Den:=evC cfg (EV cfg) 120 none 1 (sub (qc Tryz.f120) [1,0,0])
def qrg:Ex×List AV×AH->Option (MV×List (List AV)):=kAft (Cfg.keepOut cfg 120 1) (kRun cfg (EV cfg) (kfN cfg 6) 120 none 1 (xp cfg 2 (Cfg.lift cfg 120 0) Tryz.f120.results.toList) ([.block 0]))
def qzx:List AV×AH->Option (MV×List (List AV)):=λp=>kOpt (LOOP 1 (some [0,1,2,3,8]) ([]) qrf p) qrg
def qCe:Den:=evC cfg (EV cfg) 86 none 1 (sub (qc Tryz.f86) [1,1,0,0,0])
def qCX:Ex×List AV×AH->Option (MV×List (List AV)):=kAft (Cfg.keepOut cfg 86 (qm (sub (qc Tryz.f86) [1,1,0,0,0]))) (vm 0 (kSeq (fun(fr:List AV) (H:AH)=>ve (Cfg.cut cfg 86 (qm (sub (qc Tryz.f86) [1,1,1]))) fr H fun(fr:List AV) (H:AH)=>qR cfg (EV cfg) (kfN cfg 6) 86 none 1 (sub (qc Tryz.f86) [1,1,1]) fr H (xp cfg 2 (Cfg.lift cfg 86 0) (qGg (Func.results Tryz.f86)))) (xp cfg 2 (Cfg.lift cfg 86 0) (qGg (Func.results Tryz.f86)))))
def qBu:List AV×AH->Option (MV×List (List AV)):=fun(p:List AV×AH)=>kOpt (LOOP 1 (some [0,1,2,6,7,8]) [] qCe p) qCX
def qzK:Den:=evC cfg (EV cfg) 121 none 1 (sub (qc Tryz.f121) [0,1,0,1,1,0,0,0])
def qz2:Ex×List AV×AH->Option (MV×List (List AV)):=kAft (Cfg.keepOut cfg 121 (qm (sub (qc Tryz.f121) [0,1,0,1,1,0,0,0]))) (vm 0 (kSeq (fun(fr:List AV) (H:AH)=>ve (Cfg.cut cfg 121 (qm (sub (qc Tryz.f121) [0,1,0,1,1,1]))) fr H fun(fr:List AV) (H:AH)=>qR cfg (EV cfg) (kfN cfg 6) 121 none 1 (sub (qc Tryz.f121) [0,1,0,1,1,1]) fr H (kSeq (fun(fr:List AV) (H:AH)=>ve (Cfg.cut cfg 121 (qm (sub (qc Tryz.f121) [1]))) fr H fun(fr:List AV) (H:AH)=>qR cfg (EV cfg) (kfN cfg 6) 121 none 1 (sub (qc Tryz.f121) [1]) fr H (xp cfg 2 (Cfg.lift cfg 121 0) (qGg (Func.results Tryz.f121)))) (xp cfg 2 (Cfg.lift cfg 121 0) (qGg (Func.results Tryz.f121))))) (kSeq (fun(fr:List AV) (H:AH)=>ve (Cfg.cut cfg 121 (qm (sub (qc Tryz.f121) [1]))) fr H fun(fr:List AV) (H:AH)=>qR cfg (EV cfg) (kfN cfg 6) 121 none 1 (sub (qc Tryz.f121) [1]) fr H (xp cfg 2 (Cfg.lift cfg 121 0) (qGg (Func.results Tryz.f121)))) (xp cfg 2 (Cfg.lift cfg 121 0) (qGg (Func.results Tryz.f121))))))
def qzv:List AV×AH->Option (MV×List (List AV)):=fun(p:List AV×AH)=>kOpt (LOOP 1 (some [0,1,4,10,11]) [] qzK p) qz2
def qzJ:Den:=evC cfg (EV cfg) 121 none 1 (sub (qc Tryz.f121) [1,0,1,0,1,1,0,0,0])
def qz1:Ex×List AV×AH->Option (MV×List (List AV)):=kAft (Cfg.keepOut cfg 121 (qm (sub (qc Tryz.f121) [1,0,1,0,1,1,0,0,0]))) (vm 4 (kSeq (fun(fr:List AV) (H:AH)=>ve (Cfg.cut cfg 121 (qm (sub (qc Tryz.f121) [1,0,1,0,1,1,1]))) fr H fun(fr:List AV) (H:AH)=>qR cfg (EV cfg) (kfN cfg 6) 121 none 1 (sub (qc Tryz.f121) [1,0,1,0,1,1,1]) fr H (kSeq (fun(fr:List AV) (H:AH)=>ve (Cfg.cut cfg 121 (qm (sub (qc Tryz.f121) [1,1]))) fr H fun(fr:List AV) (H:AH)=>qR cfg (EV cfg) (kfN cfg 6) 121 none 1 (sub (qc Tryz.f121) [1,1]) fr H (xp cfg 2 (Cfg.lift cfg 121 0) (qGg (Func.results Tryz.f121)))) (xp cfg 2 (Cfg.lift cfg 121 0) (qGg (Func.results Tryz.f121))))) (kSeq (fun(fr:List AV) (H:AH)=>ve (Cfg.cut cfg 121 (qm (sub (qc Tryz.f121) [1,1]))) fr H fun(fr:List AV) (H:AH)=>qR cfg (EV cfg) (kfN cfg 6) 121 none 1 (sub (qc Tryz.f121) [1,1]) fr H (xp cfg 2 (Cfg.lift cfg 121 0) (qGg (Func.results Tryz.f121)))) (xp cfg 2 (Cfg.lift cfg 121 0) (qGg (Func.results Tryz.f121))))))
def qzu:List AV×AH->Option (MV×List (List AV)):=fun(p:List AV×AH)=>kOpt (LOOP 1 (some [0,2,4,14,15]) [] qzJ p) qz1
def qzI:Den:=evC cfg (EV cfg) 121 none 1 (sub (qc Tryz.f121) [1,1,1,1,1,1,1,0,0,0])
def qz0:Ex×List AV×AH->Option (MV×List (List AV)):=kAft (Cfg.keepOut cfg 121 (qm (sub (qc Tryz.f121) [1,1,1,1,1,1,1,0,0,0]))) (vm 8 (kSeq (fun(fr:List AV) (H:AH)=>ve (Cfg.cut cfg 121 (qm (sub (qc Tryz.f121) [1,1,1,1,1,1,1,1]))) fr H fun(fr:List AV) (H:AH)=>qR cfg (EV cfg) (kfN cfg 6) 121 none 1 (sub (qc Tryz.f121) [1,1,1,1,1,1,1,1]) fr H (xp cfg 2 (Cfg.lift cfg 121 0) (qGg (Func.results Tryz.f121)))) (xp cfg 2 (Cfg.lift cfg 121 0) (qGg (Func.results Tryz.f121)))))
def qzt:List AV×AH->Option (MV×List (List AV)):=fun(p:List AV×AH)=>kOpt (LOOP 1 (some [0,1,2,3,4,18,19,20,21,22]) [] qzI p) qz0
def qzF:Den:=evC cfg (EV cfg) 146 none 1 (sub (qc Tryz.f146) [1,1,0,0,0])
def qzX:Ex×List AV×AH->Option (MV×List (List AV)):=kAft (Cfg.keepOut cfg 146 (qm (sub (qc Tryz.f146) [1,1,0,0,0]))) (vm 0 (kSeq (fun(fr:List AV) (H:AH)=>ve (Cfg.cut cfg 146 (qm (sub (qc Tryz.f146) [1,1,1]))) fr H fun(fr:List AV) (H:AH)=>qR cfg (EV cfg) (kfN cfg 6) 146 none 1 (sub (qc Tryz.f146) [1,1,1]) fr H (xp cfg 2 (Cfg.lift cfg 146 0) (qGg (Func.results Tryz.f146)))) (xp cfg 2 (Cfg.lift cfg 146 0) (qGg (Func.results Tryz.f146)))))
def qzq:List AV×AH->Option (MV×List (List AV)):=fun(p:List AV×AH)=>kOpt (LOOP 1 (some [0,2,4,10,11]) [] qzF p) qzX
def qzE:Den:=evC cfg (EV cfg) 165 none 1 (sub (qc Tryz.f165) [1,0,0])
def qzW:Ex×List AV×AH->Option (MV×List (List AV)):=kAft (Cfg.keepOut cfg 165 1) (kRun cfg (EV cfg) (kfN cfg 6) 165 none 1 (xp cfg 2 (Cfg.lift cfg 165 0) Tryz.f165.results.toList) ([.block 0]))
def qzp:List AV×AH->Option (MV×List (List AV)):=λp=>kOpt (LOOP 1 (some [0,1,2,3,10]) ([]) qzE p) qzW
def qCf:Den:=evC cfg (EV cfg) 78 none 0 (sub (qc Tryz.f78) [1,0,1,0,0])
def qCY:Ex×List AV×AH->Option AV:=kAft (Cfg.keepOut cfg 78 2) (kRun cfg (EV cfg) (kfN cfg 6) 78 none 0 (vM cfg (Cfg.lift cfg 78 0) Tryz.f78.results.toList) ([.block 0,.seq (sub (qc Tryz.f78) [1,1])]))
def qBv:List AV×AH->Option AV:=λp=>kOpt (LOOP 0 (some [0,1,2,11,12,13]) ([]) qCf p) qCY
def qzL:Den:=evC cfg (EV cfg) 120 none 1 (sub (qc Tryz.f120) [1,0,0,1,0,0,1,0,0])
def qz3:Ex×List AV×AH->Option (MV×List (List AV)):=kAft (Cfg.keepOut cfg 120 4) (kRun cfg (EV cfg) (kfN cfg 6) 120 none 1 (kLp 1 (some [0,1,2,3,8]) ([]) qrf qrg) ([.block 2,.block 1,.seq (sub (qc Tryz.f120) [1,0,0,1,1])]))
def qzw:List AV×AH->Option (MV×List (List AV)):=λp=>kOpt (LOOP 1 (some [0,1,2,3,8,9]) ([]) qzL p) qz3
def qtj:Den:=evC cfg (EV cfg) 86 none 1 (sub (qc Tryz.f86) [1,1,1,1,0,0])
def qtn:Ex×List AV×AH->Option (MV×List (List AV)):=kAft (Cfg.keepOut cfg 86 7) (kRun cfg (EV cfg) (kfN cfg 6) 86 none 1 (xp cfg 2 (Cfg.lift cfg 86 0) Tryz.f86.results.toList) ([.block 2]))
def qBt:List AV×AH->Option (MV×List (List AV)):=λp=>kOpt (LOOP 1 (some [0,1,2,6]) ([]) qtj p) qtn
def qzH:Den:=evC cfg (EV cfg) 121 none 1 (sub (qc Tryz.f121) [0,1,0,1,1,1,0,1,0,0])
def qzZ:Ex×List AV×AH->Option (MV×List (List AV)):=kAft (Cfg.keepOut cfg 121 9) (kRun cfg (EV cfg) (kfN cfg 6) 121 none 1 (xp cfg 2 (Cfg.lift cfg 121 0) Tryz.f121.results.toList) ([.block 2,.seq (sub (qc Tryz.f121) [0,1,0,1,1,1,1]),.seq (sub (qc Tryz.f121) [1])]))
def qzs:List AV×AH->Option (MV×List (List AV)):=λp=>kOpt (LOOP 1 (some [0,10,13]) ([]) qzH p) qzZ
def qzG:Den:=evC cfg (EV cfg) 121 none 1 (sub (qc Tryz.f121) [1,0,1,0,1,1,1,0,1,0,0])
def qzY:Ex×List AV×AH->Option (MV×List (List AV)):=kAft (Cfg.keepOut cfg 121 21) (kRun cfg (EV cfg) (kfN cfg 6) 121 none 1 (xp cfg 2 (Cfg.lift cfg 121 0) Tryz.f121.results.toList) ([.block 6,.seq (sub (qc Tryz.f121) [0,1,0,1,1,1,1]),.seq (sub (qc Tryz.f121) [1,1])]))
def qzr:List AV×AH->Option (MV×List (List AV)):=λp=>kOpt (LOOP 1 (some [0,14,17]) ([]) qzG p) qzY
def qCd:Den:=evC cfg (EV cfg) 86 none 1 (sub (qc Tryz.f86) [1,1,1,1,0,0,1,0,1,0,0,0])
def qCW:Ex×List AV×AH->Option (MV×List (List AV)):=kAft (Cfg.keepOut cfg 86 9) (kRun cfg (EV cfg) (kfN cfg 6) 86 none 1 (kLp 1 (some [0,1,2,6]) ([]) qtj qtn) ([.block 4,.seq (sub (qc Tryz.f86) [1,1,1,1,0,0,1,0,1,1]),.block 3]))
def qBs:List AV×AH->Option (MV×List (List AV)):=λp=>kOpt (LOOP 1 (some [0,1,2,6,7,8]) ([]) qCd p) qCW
abbrev qaU(nn:Nat)(a b v8:Int)(h0:Rz):Option (MV×List (List AV)):=qzx (((fx 53 [(0,.ms 0 0 nn),(1,.int .i64 a),(2,.int .i64 b),(3,.fn (Fn.func 57) [] []),(8,.int .i64 v8)]):List AV),([.rows true 2 h0]:AH))
abbrev qiq(nn:Nat)(n v7 v8:Int)(h0:Rz):Option (MV×List (List AV)):=qBu (((fx 63 [(0,.ms 0 0 nn),(1,.int .i64 n),(2,.fn (Fn.func 57) [] []),(6,.int .i64 (20:Int)),(7,.int .i64 v7),(8,.int .i64 v8)]):List AV),([.rows true 2 h0]:AH))
abbrev qbC(nn:Nat)(a v10 v11:Int)(h0:Rz):Option (MV×List (List AV)):=qzv (((fx 220 [(0,.ms 0 0 nn),(1,.int .i64 a),(4,.fn (Fn.func 57) [] []),(10,.int .i64 v10),(11,.int .i64 v11)]):List AV),([.rows true 2 h0]:AH))
abbrev qbB(nn:Nat)(m v14 v15:Int)(h0:Rz):Option (MV×List (List AV)):=qzu (((fx 220 [(0,.ms 0 0 nn),(2,.int .i64 m),(4,.fn (Fn.func 57) [] []),(14,.int .i64 v14),(15,.int .i64 v15)]):List AV),([.rows true 2 h0]:AH))
abbrev zx(nn:Nat)(a m b n v20 v21:Int)(h0:Rz):Option (MV×List (List AV)):=qzt (((fx 220 [(0,.ms 0 0 nn),(1,.int .i64 a),(2,.int .i64 m),(3,.int .i64 b),(4,.fn (Fn.func 57) [] []),(18,.int .i64 (qFD .i64 n)),(19,.int .i64 (qFD .i64 (qFD .i64 n+m))),(20,.int .i64 v20),(21,.int .i64 v21),(22,.int .i64 (qFD .i64 (qFD .i64 (qFD .i64 n+m) - (1:Int))))]):List AV),([.rows true 2 h0]:AH))
abbrev qc7(nn:Nat)(m v10 v11:Int)(h0:Rz):Option (MV×List (List AV)):=qzq (((fx 58 [(0,.ms 0 0 nn),(2,.int .i64 m),(4,.fn (Fn.func 57) [] []),(10,.int .i64 v10),(11,.int .i64 v11)]):List AV),([.rows true 2 h0]:AH))
abbrev qbA(nn:Nat)(a b n v10:Int)(h0:Rz):Option (MV×List (List AV)):=qzp (((fx 38 [(0,.ms 0 0 nn),(1,.int .i64 a),(2,.int .i64 b),(3,.int .i64 n),(10,.int .i64 v10)]):List AV),([.rows true 2 h0]:AH))
abbrev qir(L M:Rz)(v13:Int):Option (AV):=qBv (((fx 39 [(0,.sl L),(1,.sl M),(2,.fn (Fn.func 29) [] []),(11,.sl L),(12,.int .i64 (L.length:Int)),(13,.int .i64 v13)]):List AV),([]:AH))
abbrev qaT(nn:Nat)(a b v8 v9:Int)(h0:Rz):Option (MV×List (List AV)):=qzw (((fx 53 [(0,.ms 0 0 nn),(1,.int .i64 a),(2,.int .i64 b),(3,.fn (Fn.func 57) [] []),(8,.int .i64 v8),(9,.int .i64 v9)]):List AV),([.rows true 2 h0]:AH))
abbrev qbz(nn:Nat)(n v6:Int)(h0:Rz):Option (MV×List (List AV)):=qBt (((fx 63 [(0,.ms 0 0 nn),(1,.int .i64 n),(2,.fn (Fn.func 57) [] []),(6,.int .i64 v6)]):List AV),([.rows true 2 h0]:AH))
abbrev qaS(nn:Nat)(v10 v13:Int)(h0:Rz):Option (MV×List (List AV)):=qzs (((fx 220 [(0,.ms 0 0 nn),(10,.int .i64 v10),(13,.int .i64 v13)]):List AV),([.rows true 2 h0]:AH))
abbrev qaR(nn:Nat)(v14 v17:Int)(h0:Rz):Option (MV×List (List AV)):=qzr (((fx 220 [(0,.ms 0 0 nn),(14,.int .i64 v14),(17,.int .i64 v17)]):List AV),([.rows true 2 h0]:AH))
abbrev qip(nn:Nat)(n v6 v7 v8:Int)(h0:Rz):Option (MV×List (List AV)):=qBs (((fx 63 [(0,.ms 0 0 nn),(1,.int .i64 n),(2,.fn (Fn.func 57) [] []),(6,.int .i64 v6),(7,.int .i64 v7),(8,.int .i64 v8)]):List AV),([.rows true 2 h0]:AH))
theorem qyL(rows:Rz)(nn:Nat)(a b:Int){P:MV×List (List AV)->Prop}(h:Gets (qaU nn a b (qFD .i64 (a+1)) rows) P):Gets (EVm (EV cfg) 120 [.ms 0 0 nn,.int .i64 a,.int .i64 b,.fn (Fn.func 57) [] []] 2 rows) P:=
  gE (λ_=>funM rfl rfl Tryz.func120 rfl) (by kernel_rfl) h
theorem qvL(rows:Rz)(nn:Nat)(n:Int){P:MV×List (List AV)->Prop}(h:Gets (qiq nn n 0 20 rows) P):Gets (EVm (EV cfg) 86 [.ms 0 0 nn,.int .i64 n,.fn (Fn.func 57) [] []] 2 rows) P:=
  gE (λ_=>funM rfl rfl Tryz.func86 rfl) (by kernel_rfl) h
theorem qxU(rows:Rz)(nn:Nat)(a m b:Int){P:MV×List (List AV)->Prop}(h:Gets (bif qFD .i64 (m - a)==1 then qbC nn a m b rows else bif qFD .i64 (b - m)==1 then qbB nn m a m rows else kOpt (qJ (Op.shift BinOp.shr .u64 (qFD .u64 (qFD .i64 (a+b))) .u64 1)) λv=>kInt .u64 v λn=>bif decide (m>qFD .i64 n)then zx nn a m b n (qFD .i64 (qFD .i64 (qFD .i64 n+m) - b)) (qFD .i64 n) rows else zx nn a m b n a m rows) P):Gets (EVm (EV cfg) 121 [.ms 0 0 nn,.int .i64 a,.int .i64 m,.int .i64 b,.fn (Fn.func 57) [] []] 2 rows) P:=
  gE (λ_=>funM rfl rfl Tryz.func121 rfl) (by kernel_rfl) h
theorem qx7(rows:Rz)(nn:Nat)(a m b:Int){P:MV×List (List AV)->Prop}(h:Gets (qc7 nn m (qFD .i64 (m - a)) (qFD .i64 (b - m)) rows) P):Gets (EVm (EV cfg) 146 [.ms 0 0 nn,.int .i64 a,.int .i64 m,.int .i64 b,.fn (Fn.func 57) [] []] 2 rows) P:=
  gE (λ_=>funM rfl rfl Tryz.func146 rfl) (by kernel_rfl) h
theorem qxV(rows:Rz)(nn:Nat)(a b n:Int){P:MV×List (List AV)->Prop}(h:Gets (qbA nn a b n 0 rows) P):Gets (EVm (EV cfg) 165 [.ms 0 0 nn,.int .i64 a,.int .i64 b,.int .i64 n,.fn (Fn.func 57) [] []] 2 rows) P:=
  gE (λ_=>funM rfl rfl Tryz.func165 rfl) (by kernel_rfl) h
theorem qvO(rows:Rz)(nn:Nat){P:MV×List (List AV)->Prop}(h:Gets (kOpt (EVm (EV cfg) 86 [.ms 0 0 nn,.int .i64 (↑ nn:Int),AV.fn (Fn.func 57) [] []] 2 rows) λq=>q6 q.1 (some (MV.unit,q.2))) P):Gets (EVm (EV cfg) 56 [.ms 0 0 nn,.fn (Fn.func 57) [] []] 2 rows) P:=
  gE (λ_=>funM rfl rfl Tryz.func56 rfl) (by kernel_rfl) h
theorem qvp(ar:Int)(fs:Rz)(br:Int)(gs:Rz){P:AV->Prop}(h:Gets (kOpt (EVs (EV cfg) 63 [AV.int .i64 ar,.int .i64 br]) λv=>kInt .i64 v λn=>kOpt (EVs (EV cfg) 63 [AV.int .i64 (fs.length:Int),.int .i64 (gs.length:Int)]) λv=>kInt .i64 v λn_1=>kOpt (EVs (EV cfg) 78 [.sl fs,.sl gs,AV.fn (Fn.func 29) [] []]) λv=>kInt .i64 v λn_2=>kOpt (EVs (EV cfg) 65 [.sl [[AV.int .i64 n],[AV.int .i64 n_1],[AV.int .i64 n_2]]]) λv=>kInt .i64 v λn=>some (.int .i64 n)) P):Gets (EVs (EV cfg) 57 [.agg [.int .i64 ar,.sl fs],.agg [.int .i64 br,.sl gs]]) P:=
  gE (λ_=>funS rfl rfl Tryz.func57 rfl) (by kernel_rfl) h
theorem qw5(L M:Rz){P:AV->Prop}(h:Gets (qir L M 0) P):Gets (EVs (EV cfg) 78 [.sl L,.sl M,.fn (Fn.func 29) [] []]) P:=
  gE (λ_=>funS rfl rfl Tryz.func78 rfl) (by kernel_rfl) h
theorem qcv(nn:Nat)(a b v8:Int)(h0:Rz){P:MV×List (List AV)->Prop}(h:Gets (bif decide (v8<b)then qaT nn a b v8 v8 h0 else some (MV.unit,h0)) P):Gets (qaU nn a b v8 h0) P:=
  gE (λ_=>qg (cfg:=cfg) (f:=120) (rd:=none) (bs:=1)) (by kernel_rfl) h
theorem qpc(nn:Nat)(n v7 v8:Int)(h0:Rz){P:MV×List (List AV)->Prop}(h:Gets (bif decide (v8<=n)then kOpt (EVm (EV cfg) 120 [.ms 0 0 nn,.int .i64 v7,.int .i64 v8,AV.fn (Fn.func 57) [] []] 2 h0) λq=>q6 q.1 (qiq nn n v8 (qFD .i64 (v8+20)) q.2)else kOpt (EVm (EV cfg) 120 [.ms 0 0 nn,.int .i64 v7,.int .i64 n,AV.fn (Fn.func 57) [] []] 2 h0) λq=>q6 q.1 (qbz nn n 20 q.2)) P):Gets (qiq nn n v7 v8 h0) P:=
  gE (λ_=>qg (cfg:=cfg) (f:=86) (rd:=none) (bs:=1)) (by kernel_rfl) h
theorem qoq(nn:Nat)(a v10 v11:Int)(h0:Rz){P:MV×List (List AV)->Prop}(h:Gets (bif decide (v10<v11)then kOpt (qJ (Op.shift BinOp.shr .u64 (qFD .u64 (qFD .i64 (v10+v11))) .u64 1)) λv=>kInt .u64 v λn=>rd2 nn h0 (qFD .i64 n) λn_1 rows=>rd2 nn h0 a λn_2 rows_1=>kOpt (EVs (EV cfg) 57 [.agg [.int .i64 n_1,.sl rows],.agg [.int .i64 n_2,.sl rows_1]]) λv=>kInt .i64 v λn_3=>bif decide (n_3<0)then qbC nn a (qFD .i64 (qFD .i64 n+1)) v11 h0 else qbC nn a v10 (qFD .i64 n) h0 else qaS nn v10 a h0) P):Gets (qbC nn a v10 v11 h0) P:=
  gE (λ_=>qg (cfg:=cfg) (f:=121) (rd:=none) (bs:=1)) (by kernel_rfl) h
theorem qop(nn:Nat)(m v14 v15:Int)(h0:Rz){P:MV×List (List AV)->Prop}(h:Gets (bif decide (v14<v15)then kOpt (qJ (Op.shift BinOp.shr .u64 (qFD .u64 (qFD .i64 (v14+v15))) .u64 1)) λv=>kInt .u64 v λn=>rd2 nn h0 m λn_1 rows=>rd2 nn h0 (qFD .i64 n) λn_2 rows_1=>kOpt (EVs (EV cfg) 57 [.agg [.int .i64 n_1,.sl rows],.agg [.int .i64 n_2,.sl rows_1]]) λv=>kInt .i64 v λn_3=>bif ! decide (n_3<0)then qbB nn m (qFD .i64 (qFD .i64 n+1)) v15 h0 else qbB nn m v14 (qFD .i64 n) h0 else qaR nn v14 m h0) P):Gets (qbB nn m v14 v15 h0) P:=
  gE (λ_=>qg (cfg:=cfg) (f:=121) (rd:=none) (bs:=1)) (by kernel_rfl) h
abbrev zy3(q:MV×List (List AV))(n m v20 b:Int)(nn:Nat):Option (MV×List (List AV)):=q6 q.1 (bif decide (qFD .i64 n<qFD .i64 (qFD .i64 (qFD .i64 n+m) - v20))then bif decide (qFD .i64 (qFD .i64 (qFD .i64 n+m) - v20)<b)then kOpt (EVm (EV cfg) 121 [.ms 0 0 nn,.int .i64 (qFD .i64 n),.int .i64 (qFD .i64 (qFD .i64 (qFD .i64 n+m) - v20)),.int .i64 b,AV.fn (Fn.func 57) [] []] 2 q.2) λq=>q6 q.1 (some (MV.unit,q.2))else some (MV.unit,q.2)else some (MV.unit,q.2))
abbrev zy2(nn:Nat)(a v20 n:Int)(h0:Rz)(m b:Int):Option (MV×List (List AV)):=kOpt (EVm (EV cfg) 121 [.ms 0 0 nn,.int .i64 a,.int .i64 v20,.int .i64 (qFD .i64 n),AV.fn (Fn.func 57) [] []] 2 h0) λq=>zy3 q n m v20 b nn
abbrev zy6(nn:Nat)(n m v20 b:Int)(h0:Rz):Option (MV×List (List AV)):=kOpt (EVm (EV cfg) 121 [.ms 0 0 nn,.int .i64 (qFD .i64 n),.int .i64 (qFD .i64 (qFD .i64 (qFD .i64 n+m) - v20)),.int .i64 b,AV.fn (Fn.func 57) [] []] 2 h0) λq=>q6 q.1 (some (MV.unit,q.2))
abbrev zy5(n m v20 b:Int)(nn:Nat)(h0:Rz):Option (MV×List (List AV)):=bif decide (qFD .i64 (qFD .i64 (qFD .i64 n+m) - v20)<b)then zy6 nn n m v20 b h0 else some (MV.unit,h0)
abbrev zy4(n m v20 b:Int)(nn:Nat)(h0:Rz):Option (MV×List (List AV)):=bif decide (qFD .i64 n<qFD .i64 (qFD .i64 (qFD .i64 n+m) - v20))then zy5 n m v20 b nn h0 else some (MV.unit,h0)
abbrev zy1(v20 n:Int)(nn:Nat)(a:Int)(h0:Rz)(m b:Int):Option (MV×List (List AV)):=bif decide (v20<qFD .i64 n)then zy2 nn a v20 n h0 m b else zy4 n m v20 b nn h0
abbrev zy0(a v20 n:Int)(nn:Nat)(h0:Rz)(m b:Int):Option (MV×List (List AV)):=bif decide (a<v20)then zy1 v20 n nn a h0 m b else zy4 n m v20 b nn h0
theorem qf7(nn:Nat)(a m b n v20 v21:Int)(h0:Rz){P:MV×List (List AV)->Prop}(h:Gets (bif decide (v20<v21)then kOpt (qJ (Op.shift BinOp.shr .u64 (qFD .u64 (qFD .i64 (v20+v21))) .u64 1)) λv=>kInt .u64 v λn_1=>rd2 nn h0 (qFD .i64 (qFD .i64 (qFD .i64 (qFD .i64 n+m) - 1) - qFD .i64 n_1)) λn_2 rows=>rd2 nn h0 (qFD .i64 n_1) λn_3 rows_1=>kOpt (EVs (EV cfg) 57 [.agg [.int .i64 n_2,.sl rows],.agg [.int .i64 n_3,.sl rows_1]]) λv=>kInt .i64 v λn_4=>bif ! decide (n_4<0)then zx nn a m b n (qFD .i64 (qFD .i64 n_1+1)) v21 h0 else zx nn a m b n v20 (qFD .i64 n_1) h0 else bif decide (v20<m)then bif decide (m<qFD .i64 (qFD .i64 (qFD .i64 n+m) - v20))then kOpt (EVm (EV cfg) 146 [.ms 0 0 nn,.int .i64 v20,.int .i64 m,.int .i64 (qFD .i64 (qFD .i64 (qFD .i64 n+m) - v20)),AV.fn (Fn.func 57) [] []] 2 h0) λq=>q6 q.1 (bif decide (a<v20)then bif decide (v20<qFD .i64 n)then kOpt (EVm (EV cfg) 121 [.ms 0 0 nn,.int .i64 a,.int .i64 v20,.int .i64 (qFD .i64 n),AV.fn (Fn.func 57) [] []] 2 q.2) λq=>q6 q.1 (bif decide (qFD .i64 n<qFD .i64 (qFD .i64 (qFD .i64 n+m) - v20))then bif decide (qFD .i64 (qFD .i64 (qFD .i64 n+m) - v20)<b)then kOpt (EVm (EV cfg) 121 [.ms 0 0 nn,.int .i64 (qFD .i64 n),.int .i64 (qFD .i64 (qFD .i64 (qFD .i64 n+m) - v20)),.int .i64 b,AV.fn (Fn.func 57) [] []] 2 q.2) λq=>q6 q.1 (some (MV.unit,q.2))else some (MV.unit,q.2)else some (MV.unit,q.2))else bif decide (qFD .i64 n<qFD .i64 (qFD .i64 (qFD .i64 n+m) - v20))then bif decide (qFD .i64 (qFD .i64 (qFD .i64 n+m) - v20)<b)then kOpt (EVm (EV cfg) 121 [.ms 0 0 nn,.int .i64 (qFD .i64 n),.int .i64 (qFD .i64 (qFD .i64 (qFD .i64 n+m) - v20)),.int .i64 b,AV.fn (Fn.func 57) [] []] 2 q.2) λq=>q6 q.1 (some (MV.unit,q.2))else some (MV.unit,q.2)else some (MV.unit,q.2)else bif decide (qFD .i64 n<qFD .i64 (qFD .i64 (qFD .i64 n+m) - v20))then bif decide (qFD .i64 (qFD .i64 (qFD .i64 n+m) - v20)<b)then kOpt (EVm (EV cfg) 121 [.ms 0 0 nn,.int .i64 (qFD .i64 n),.int .i64 (qFD .i64 (qFD .i64 (qFD .i64 n+m) - v20)),.int .i64 b,AV.fn (Fn.func 57) [] []] 2 q.2) λq=>q6 q.1 (some (MV.unit,q.2))else some (MV.unit,q.2)else some (MV.unit,q.2))else zy0 a v20 n nn h0 m b else zy0 a v20 n nn h0 m b) P):Gets (zx nn a m b n v20 v21 h0) P:=
  gE (λ_=>qg (cfg:=cfg) (f:=121) (rd:=none) (bs:=1)) (by kernel_rfl) h
theorem qoo(nn:Nat)(m v10 v11:Int)(h0:Rz){P:MV×List (List AV)->Prop}(h:Gets (bif v10 != v11 then bif decide (v10>v11)then kOpt (EVm (EV cfg) 165 [.ms 0 0 nn,.int .i64 (qFD .i64 (m - v10)),.int .i64 m,.int .i64 v11,AV.fn (Fn.func 57) [] []] 2 h0) λq=>q6 q.1 (qc7 nn m (qFD .i64 (v10 - v11)) v11 q.2)else kOpt (EVm (EV cfg) 165 [.ms 0 0 nn,.int .i64 (qFD .i64 (m - v10)),.int .i64 (qFD .i64 (qFD .i64 (m+v11) - v10)),.int .i64 v10,AV.fn (Fn.func 57) [] []] 2 h0) λq=>q6 q.1 (qc7 nn m v10 (qFD .i64 (v11 - v10)) q.2)else kOpt (EVm (EV cfg) 165 [.ms 0 0 nn,.int .i64 (qFD .i64 (m - v10)),.int .i64 m,.int .i64 v10,AV.fn (Fn.func 57) [] []] 2 h0) λq=>q6 q.1 (some (MV.unit,q.2))) P):Gets (qc7 nn m v10 v11 h0) P:=
  gE (λ_=>qg (cfg:=cfg) (f:=146) (rd:=none) (bs:=1)) (by kernel_rfl) h
theorem qf4(nn:Nat)(a b n v10:Int)(h0:Rz){P:MV×List (List AV)->Prop}(h:Gets (bif decide (v10<n)then rd2 nn h0 (qFD .i64 (b+v10)) λn_1 rows=>rd2 nn h0 (qFD .i64 (a+v10)) λn_2 rows_1=>ck4 2 nn h0 (qFD .i64 (a+v10)) λrow=>ck4 2 nn (List.set h0 (0+qFQ (qFD .i64 (a+v10))) (.int .i64 n_1:: .sl rows::qGb 2 row)) (qFD .i64 (b+v10)) λrow_1=>qbA nn a b n (qFD .i64 (v10+1)) (List.set (List.set h0 (0+qFQ (qFD .i64 (a+v10))) (.int .i64 n_1:: .sl rows::qGb 2 row)) (0+qFQ (qFD .i64 (b+v10))) (.int .i64 n_2:: .sl rows_1::qGb 2 row_1))else some (MV.unit,h0)) P):Gets (qbA nn a b n v10 h0) P:=
  gE (λ_=>qg (cfg:=cfg) (f:=165) (rd:=none) (bs:=1)) (by kernel_rfl) h
theorem qgH(L M:Rz)(v13:Int){P:AV->Prop}(h:Gets (bif decide (v13<(L.length:Int))then rs4 L v13 λn n_1 s rows=>(bif decide (v13≥(M.length:Int))then some (.int .i64 1)else rs4 M v13 λn_2 n_3 s_1 rows_1=>(kOpt (EVs (EV cfg) 29 [.agg [.int .i64 n,.int .i64 n_1,.str s,.sl rows],.agg [.int .i64 n_2,.int .i64 n_3,.str s_1,.sl rows_1]]) λv=>kInt .i64 v λn=>bif n != 0 then some (.int .i64 n)else qir L M (qFD .i64 (v13+1))))else bif decide ((L.length:Int)<(M.length:Int))then some (.int .i64 (- 1))else some (.int .i64 0)) P):Gets (qir L M v13) P:=
  gE (λ_=>qg (cfg:=cfg) (f:=78) (rd:=none) (bs:=0)) (by kernel_rfl) h
theorem qcu(nn:Nat)(a b v8 v9:Int)(h0:Rz){P:MV×List (List AV)->Prop}(h:Gets (bif decide (v9>a)then rd2 nn h0 v9 λn rows=>rd2 nn h0 (qFD .i64 (v9 - 1)) λn_1 rows_1=>kOpt (EVs (EV cfg) 57 [.agg [.int .i64 n,.sl rows],.agg [.int .i64 n_1,.sl rows_1]]) λv=>kInt .i64 v λn=>bif decide (n<0)then rd2 nn h0 (qFD .i64 (v9 - 1)) λn rows=>rd2 nn h0 v9 λn_2 rows_2=>ck4 2 nn h0 v9 λrow=>ck4 2 nn (List.set h0 (0+v9.toNat) (.int .i64 n:: .sl rows::qGb 2 row)) (qFD .i64 (v9 - 1)) λrow_1=>qaT nn a b v8 (qFD .i64 (v9 - 1)) (List.set (List.set h0 (0+v9.toNat) (.int .i64 n:: .sl rows::qGb 2 row)) (0+qFQ (qFD .i64 (v9 - 1))) (.int .i64 n_2:: .sl rows_2::qGb 2 row_1))else qaU nn a b (qFD .i64 (v8+1)) h0 else qaU nn a b (qFD .i64 (v8+1)) h0) P):Gets (qaT nn a b v8 v9 h0) P:=
  gE (λ_=>qg (cfg:=cfg) (f:=120) (rd:=none) (bs:=1)) (by kernel_rfl) h
theorem qpb(nn:Nat)(n v6:Int)(h0:Rz){P:MV×List (List AV)->Prop}(h:Gets (bif decide (v6<n)then qip nn n v6 0 (qFD .i64 (2*v6)) h0 else some (MV.unit,h0)) P):Gets (qbz nn n v6 h0) P:=
  gE (λ_=>qg (cfg:=cfg) (f:=86) (rd:=none) (bs:=1)) (by kernel_rfl) h
theorem qf6(nn:Nat)(v10 v13:Int)(h0:Rz){P:MV×List (List AV)->Prop}(h:Gets (bif decide (v13<qFD .i64 (v10 - 1))then rd2 nn h0 (qFD .i64 (v13+1)) λn rows=>rd2 nn h0 v13 λn_1 rows_1=>ck4 2 nn h0 v13 λrow=>ck4 2 nn (List.set h0 (0+v13.toNat) (.int .i64 n:: .sl rows::qGb 2 row)) (qFD .i64 (v13+1)) λrow_1=>qaS nn v10 (qFD .i64 (v13+1)) (List.set (List.set h0 (0+v13.toNat) (.int .i64 n:: .sl rows::qGb 2 row)) (0+qFQ (qFD .i64 (v13+1))) (.int .i64 n_1:: .sl rows_1::qGb 2 row_1))else some (MV.unit,h0)) P):Gets (qaS nn v10 v13 h0) P:=
  gE (λ_=>qg (cfg:=cfg) (f:=121) (rd:=none) (bs:=1)) (by kernel_rfl) h
theorem qf5(nn:Nat)(v14 v17:Int)(h0:Rz){P:MV×List (List AV)->Prop}(h:Gets (bif decide (v17>v14)then rd2 nn h0 (qFD .i64 (v17 - 1)) λn rows=>rd2 nn h0 v17 λn_1 rows_1=>ck4 2 nn h0 v17 λrow=>ck4 2 nn (List.set h0 (0+v17.toNat) (.int .i64 n:: .sl rows::qGb 2 row)) (qFD .i64 (v17 - 1)) λrow_1=>qaR nn v14 (qFD .i64 (v17 - 1)) (List.set (List.set h0 (0+v17.toNat) (.int .i64 n:: .sl rows::qGb 2 row)) (0+qFQ (qFD .i64 (v17 - 1))) (.int .i64 n_1:: .sl rows_1::qGb 2 row_1))else some (MV.unit,h0)) P):Gets (qaR nn v14 v17 h0) P:=
  gE (λ_=>qg (cfg:=cfg) (f:=121) (rd:=none) (bs:=1)) (by kernel_rfl) h
theorem qpa(nn:Nat)(n v6 v7 v8:Int)(h0:Rz){P:MV×List (List AV)->Prop}(h:Gets (bif decide (v8<=n)then kOpt (EVm (EV cfg) 121 [.ms 0 0 nn,.int .i64 v7,.int .i64 (qFD .i64 (v7+v6)),.int .i64 v8,AV.fn (Fn.func 57) [] []] 2 h0) λq=>q6 q.1 (qip nn n v6 v8 (qFD .i64 (v8+qFD .i64 (2*v6))) q.2)else bif decide (qFD .i64 (v7+v6)<n)then kOpt (EVm (EV cfg) 121 [.ms 0 0 nn,.int .i64 v7,.int .i64 (qFD .i64 (v7+v6)),.int .i64 n,AV.fn (Fn.func 57) [] []] 2 h0) λq=>q6 q.1 (qbz nn n (qFD .i64 (v6*2)) q.2)else qbz nn n (qFD .i64 (v6*2)) h0) P):Gets (qip nn n v6 v7 v8 h0) P:=
  gE (λ_=>qg (cfg:=cfg) (f:=86) (rd:=none) (bs:=1)) (by kernel_rfl) h
end Go.Proofs.YtgleolmhpmljhaaGreat
end
noncomputable section
namespace Go.Av
def vI{α:Type}(l:List α)(i j:Nat):List α:=
 match l[i]?,l[j]? with
 |some x,some y=>(l.set i y).set j x
 |_,_=>l
theorem qpr{α:Type}{l:List α}{i j:Nat}{x y:α}(hi:l[i]? =some x)(hj:l[j]? =some y):vI l i j=(l.set i y).set j x:=by
 unfold vI;rw[hi,hj]
theorem vO{α:Type}(l:List α)(i j:Nat):(vI l i j).Perm l:=by
 unfold vI;split
 ·rename_i x y hi hj;obtain⟨h1,rfl⟩:=qFF.1 hi;obtain⟨h2,rfl⟩:=qFF.1 hj;exact List.set_set_perm h1 h2
 ·exact List.Perm.refl _
theorem xG{α:Type}(l:List α)(i j:Nat):(vI l i j).length=l.length:=(vO l i j).length_eq
end Go.Av
end
noncomputable section
namespace Go.Proofs.YtgleolmhpmljhaaGreat
open Go.Av
def qtl:Den:=evC cfg (EV cfg) 88 none 1 (sub (qc Tryz.f88) [1,0,0])
def qtp:Ex×List AV×AH->Option (MV×List (List AV)):=kAft (Cfg.keepOut cfg 88 1) (kRun cfg (EV cfg) (kfN cfg 6) 88 none 1 (xp cfg 4 (Cfg.lift cfg 88 0) Tryz.f88.results.toList) ([.block 0]))
def qBT:List AV×AH->Option (MV×List (List AV)):=λp=>kOpt (LOOP 1 (some [0,1,2,3,8]) ([]) qtl p) qtp
def qzM:Den:=evC cfg (EV cfg) 122 none 1 (sub (qc Tryz.f122) [1,0,0])
def qz4:Ex×List AV×AH->Option (MV×List (List AV)):=kAft (Cfg.keepOut cfg 122 1) (kRun cfg (EV cfg) (kfN cfg 6) 122 none 1 (xp cfg 4 (Cfg.lift cfg 122 0) Tryz.f122.results.toList) ([.block 0]))
def qzy:List AV×AH->Option (MV×List (List AV)):=λp=>kOpt (LOOP 1 (some [0,2,3,4,10]) ([]) qzM p) qz4
def qCB:Den:=evC cfg (EV cfg) 89 none 1 (sub (qc Tryz.f89) [1,1,1,0,1,0,0])
def qDk:Ex×List AV×AH->Option (MV×List (List AV)):=kAft (Cfg.keepOut cfg 89 (qm (sub (qc Tryz.f89) [1,1,1,0,1,0,0]))) (vm 0 (kSeq (fun(fr:List AV) (H:AH)=>ve (Cfg.cut cfg 89 (qm (sub (qc Tryz.f89) [1,1,1,1]))) fr H fun(fr:List AV) (H:AH)=>qR cfg (EV cfg) (kfN cfg 6) 89 none 1 (sub (qc Tryz.f89) [1,1,1,1]) fr H (xp cfg 4 (Cfg.lift cfg 89 0) (qGg (Func.results Tryz.f89)))) (xp cfg 4 (Cfg.lift cfg 89 0) (qGg (Func.results Tryz.f89)))))
def qBR:List AV×AH->Option (MV×List (List AV)):=fun(p:List AV×AH)=>kOpt (LOOP 1 (some [0,3,8,9,10,11]) [] qCB p) qDk
def qCz:Den:=evC cfg (EV cfg) 92 none 1 (sub (qc Tryz.f92) [1,1,0,0])
def qDi:Ex×List AV×AH->Option (MV×List (List AV)):=kAft (Cfg.keepOut cfg 92 2) (kRun cfg (EV cfg) (kfN cfg 6) 92 none 1 (xp cfg 4 (Cfg.lift cfg 92 0) Tryz.f92.results.toList) ([.block 0]))
def qBP:List AV×AH->Option (MV×List (List AV)):=λp=>kOpt (LOOP 1 (some [0,8,9]) ([]) qCz p) qDi
def qCt:Den:=evC cfg (EV cfg) 95 none 1 (sub (qc Tryz.f95) [1,1,1,0,0,0])
def qDc:Ex×List AV×AH->Option (AV×List (List AV)):=kAft (Cfg.keepOut cfg 95 (qm (sub (qc Tryz.f95) [1,1,1,0,0,0]))) (vm 0 (kSeq (fun(fr:List AV) (H:AH)=>ve (Cfg.cut cfg 95 (qm (sub (qc Tryz.f95) [1,1,1,1]))) fr H fun(fr:List AV) (H:AH)=>qR cfg (EV cfg) (kfN cfg 6) 95 none 1 (sub (qc Tryz.f95) [1,1,1,1]) fr H (qcL cfg 4 (Cfg.lift cfg 95 0) (qGg (Func.results Tryz.f95)))) (qcL cfg 4 (Cfg.lift cfg 95 0) (qGg (Func.results Tryz.f95)))))
def qBH:List AV×AH->Option (AV×List (List AV)):=fun(p:List AV×AH)=>kOpt (LOOP 1 (some [0,1,4,12,13]) [] qCt p) qDc
def qjc:Den:=evC cfg (EV cfg) 94 none 1 (sub (qc Tryz.f94) [1,1,1,0,0,0])
def qji:Ex×List AV×AH->Option (AV×List (List AV)):=kAft (Cfg.keepOut cfg 94 (qm (sub (qc Tryz.f94) [1,1,1,0,0,0]))) (vm 0 (kSeq (fun(fr:List AV) (H:AH)=>ve (Cfg.cut cfg 94 (qm (sub (qc Tryz.f94) [1,1,1,1]))) fr H fun(fr:List AV) (H:AH)=>qR cfg (EV cfg) (kfN cfg 6) 94 none 1 (sub (qc Tryz.f94) [1,1,1,1]) fr H (qcL cfg 4 (Cfg.lift cfg 94 0) (qGg (Func.results Tryz.f94)))) (qcL cfg 4 (Cfg.lift cfg 94 0) (qGg (Func.results Tryz.f94)))))
def qBK:List AV×AH->Option (AV×List (List AV)):=fun(p:List AV×AH)=>kOpt (LOOP 1 (some [0,1,4,11,12]) [] qjc p) qji
def qe8:Den:=evC cfg (EV cfg) 93 none 1 (sub (qc Tryz.f93) [1,1,0,1,0,0])
def qe9:Ex×List AV×AH->Option (AV×List (List AV)):=kAft (Cfg.keepOut cfg 93 (qm (sub (qc Tryz.f93) [1,1,0,1,0,0]))) (vm 0 (kSeq (fun(fr:List AV) (H:AH)=>ve (Cfg.cut cfg 93 (qm (sub (qc Tryz.f93) [1,1,1]))) fr H fun(fr:List AV) (H:AH)=>qR cfg (EV cfg) (kfN cfg 6) 93 none 1 (sub (qc Tryz.f93) [1,1,1]) fr H (qcL cfg 4 (Cfg.lift cfg 93 0) (qGg (Func.results Tryz.f93)))) (qcL cfg 4 (Cfg.lift cfg 93 0) (qGg (Func.results Tryz.f93)))))
def qBO:List AV×AH->Option (AV×List (List AV)):=fun(p:List AV×AH)=>kOpt (LOOP 1 (some [0,1,2,3,9,10]) [] qe8 p) qe9
def qCC:Den:=evC cfg (EV cfg) 88 none 1 (sub (qc Tryz.f88) [1,0,0,1,0,0,1,0,0])
def qDl:Ex×List AV×AH->Option (MV×List (List AV)):=kAft (Cfg.keepOut cfg 88 4) (kRun cfg (EV cfg) (kfN cfg 6) 88 none 1 (kLp 1 (some [0,1,2,3,8]) ([]) qtl qtp) ([.block 2,.block 1,.seq (sub (qc Tryz.f88) [1,0,0,1,1])]))
def qBS:List AV×AH->Option (MV×List (List AV)):=λp=>kOpt (LOOP 1 (some [0,1,2,3,8,9]) ([]) qCC p) qDl
def qCA:Den:=evC cfg (EV cfg) 89 none 1 (sub (qc Tryz.f89) [1,1,1,1,1,0,0])
def qDj:Ex×List AV×AH->Option (MV×List (List AV)):=kAft (Cfg.keepOut cfg 89 8) (kRun cfg (EV cfg) (kfN cfg 6) 89 none 1 (xp cfg 4 (Cfg.lift cfg 89 0) Tryz.f89.results.toList) ([.block 2]))
def qBQ:List AV×AH->Option (MV×List (List AV)):=λp=>kOpt (LOOP 1 (some [0,3,8,9,12]) ([]) qCA p) qDj
def qCs:Den:=evC cfg (EV cfg) 95 none 1 (sub (qc Tryz.f95) [1,1,1,1,0,0,0])
def qDb:Ex×List AV×AH->Option (AV×List (List AV)):=kAft (Cfg.keepOut cfg 95 5) (kRun cfg (EV cfg) (kfN cfg 6) 95 none 1 (qcL cfg 4 (Cfg.lift cfg 95 0) Tryz.f95.results.toList) ([.block 2,.seq (sub (qc Tryz.f95) [1,1,1,1,1])]))
def qBG:List AV×AH->Option (AV×List (List AV)):=λp=>kOpt (LOOP 1 (some [0,1,4,12,13]) ([]) qCs p) qDb
def qCv:Den:=evC cfg (EV cfg) 94 none 1 (sub (qc Tryz.f94) [1,1,1,0,0,0,0,0,0,0])
def qDe:Ex×List AV×AH->Option (AV×List (List AV)):=kAft (Cfg.keepOut cfg 94 3) (kRun cfg (EV cfg) (kfN cfg 6) 94 none 1 (kLp 1 (some [0,1,4,11,12]) ([]) qjc qji) ([.block 2,.seq (sub (qc Tryz.f94) [1,1,1,0,0,0,0,1]),.block 1]))
def qBJ:List AV×AH->Option (AV×List (List AV)):=λp=>kOpt (LOOP 1 (some [0,1,4,11,12]) ([]) qCv p) qDe
def qCy:Den:=evC cfg (EV cfg) 93 none 1 (sub (qc Tryz.f93) [1,1,0,1,0,0,1,0,0,0,0,0])
def qDh:Ex×List AV×AH->Option (AV×List (List AV)):=kAft (Cfg.keepOut cfg 93 5) (kRun cfg (EV cfg) (kfN cfg 6) 93 none 1 (kLp 1 (some [0,1,2,3,9,10]) ([]) qe8 qe9) ([.block 2,.seq (sub (qc Tryz.f93) [1,1,0,1,0,0,1,0,0,1]),.block 1,.seq (sub (qc Tryz.f93) [1,1,0,1,0,0,1,1])]))
def qBN:List AV×AH->Option (AV×List (List AV)):=λp=>kOpt (LOOP 1 (some [0,1,2,3,9,10]) ([]) qCy p) qDh
def qjb:Den:=evC cfg (EV cfg) 95 none 1 (sub (qc Tryz.f95) [1,1,1,1,1,1,1,1,1,0,0,0])
def qjh:Ex×List AV×AH->Option (AV×List (List AV)):=kAft (Cfg.keepOut cfg 95 13) (kRun cfg (EV cfg) (kfN cfg 6) 95 none 1 (qcL cfg 4 (Cfg.lift cfg 95 0) Tryz.f95.results.toList) ([.block 4,.seq (sub (qc Tryz.f95) [1,1,1,1,1,1,1,1,1,1])]))
def qBF:List AV×AH->Option (AV×List (List AV)):=λp=>kOpt (LOOP 1 (some [0,1,4,12,13]) ([]) qjb p) qjh
def qCu:Den:=evC cfg (EV cfg) 94 none 1 (sub (qc Tryz.f94) [1,1,1,0,0,0,0,1,0,0,0])
def qDd:Ex×List AV×AH->Option (AV×List (List AV)):=kAft (Cfg.keepOut cfg 94 (qm (sub (qc Tryz.f94) [1,1,1,0,0,0,0,1,0,0,0]))) (vm 4 (kSeq (fun(fr:List AV) (H:AH)=>ve (Cfg.cut cfg 94 (qm (sub (qc Tryz.f94) [1,1,1,0,0,0,0,1,1]))) fr H fun(fr:List AV) (H:AH)=>qR cfg (EV cfg) (kfN cfg 6) 94 none 1 (sub (qc Tryz.f94) [1,1,1,0,0,0,0,1,1]) fr H (kRun cfg (EV cfg) (kfN cfg 6) 94 none 1 (kLp 1 (some [0,1,4,11,12]) [] qjc qji) [Ko.block 1])) (kRun cfg (EV cfg) (kfN cfg 6) 94 none 1 (kLp 1 (some [0,1,4,11,12]) [] qjc qji) [Ko.block 1])))
def qBI:List AV×AH->Option (AV×List (List AV)):=fun(p:List AV×AH)=>kOpt (LOOP 1 (some [0,1,4,11,12]) [] qCu p) qDd
def qCx:Den:=evC cfg (EV cfg) 93 none 1 (sub (qc Tryz.f93) [1,1,0,1,0,0,1,0,0,1,1,1,1,0,1,0,1,0,0])
def qDg:Ex×List AV×AH->Option (AV×List (List AV)):=kAft (Cfg.keepOut cfg 93 (qm (sub (qc Tryz.f93) [1,1,0,1,0,0,1,0,0,1,1,1,1,0,1,0,1,0,0]))) (vm 4 (kSeq (fun(fr:List AV) (H:AH)=>ve (Cfg.cut cfg 93 (qm (sub (qc Tryz.f93) [1,1,0,1,0,0,1,0,0,1,1,1,1,1]))) fr H fun(fr:List AV) (H:AH)=>qR cfg (EV cfg) (kfN cfg 6) 93 none 1 (sub (qc Tryz.f93) [1,1,0,1,0,0,1,0,0,1,1,1,1,1]) fr H (kRun cfg (EV cfg) (kfN cfg 6) 93 none 1 (kLp 1 (some [0,1,2,3,9,10]) [] qe8 qe9) [Ko.block 1,Ko.seq (sub (qc Tryz.f93) [1,1,0,1,0,0,1,1])])) (kRun cfg (EV cfg) (kfN cfg 6) 93 none 1 (kLp 1 (some [0,1,2,3,9,10]) [] qe8 qe9) [Ko.block 1,Ko.seq (sub (qc Tryz.f93) [1,1,0,1,0,0,1,1])])))
def qBM:List AV×AH->Option (AV×List (List AV)):=fun(p:List AV×AH)=>kOpt (LOOP 1 (some [0,1,2,3,9,10,11]) [] qCx p) qDg
def qCw:Den:=evC cfg (EV cfg) 93 none 1 (sub (qc Tryz.f93) [1,1,0,1,0,0,1,0,0,1,1,1,1,1,1,0,1,0,0])
def qDf:Ex×List AV×AH->Option (AV×List (List AV)):=kAft (Cfg.keepOut cfg 93 (qm (sub (qc Tryz.f93) [1,1,0,1,0,0,1,0,0,1,1,1,1,1,1,0,1,0,0]))) (vm 6 (kRun cfg (EV cfg) (kfN cfg 6) 93 none 1 (kLp 1 (some [0,1,2,3,9,10]) [] qe8 qe9) [Ko.block 1,Ko.seq (sub (qc Tryz.f93) [1,1,0,1,0,0,1,1])]))
def qBL:List AV×AH->Option (AV×List (List AV)):=fun(p:List AV×AH)=>kOpt (LOOP 1 (some [0,1,2,3,9,10,12]) [] qCw p) qDf
def qCr:Den:=evC cfg (EV cfg) 95 none 1 (sub (qc Tryz.f95) [1,1,1,1,1,1,1,1,1,0,0,0,0,0,0,0])
def qDa:Ex×List AV×AH->Option (AV×List (List AV)):=kAft (Cfg.keepOut cfg 95 13) (kRun cfg (EV cfg) (kfN cfg 6) 95 none 1 (kLp 1 (some [0,1,4,12,13]) ([]) qjb qjh) ([.block 6,.seq (sub (qc Tryz.f95) [1,1,1,1,1,1,1,1,1,0,0,0,0,1]),.block 5]))
def qBE:List AV×AH->Option (AV×List (List AV)):=λp=>kOpt (LOOP 1 (some [0,1,4,12,13]) ([]) qCr p) qDa
def qCq:Den:=evC cfg (EV cfg) 95 none 1 (sub (qc Tryz.f95) [1,1,1,1,1,1,1,1,1,0,0,0,0,1,0,0,0])
def qC9:Ex×List AV×AH->Option (AV×List (List AV)):=kAft (Cfg.keepOut cfg 95 (qm (sub (qc Tryz.f95) [1,1,1,1,1,1,1,1,1,0,0,0,0,1,0,0,0]))) (vm 8 (kSeq (fun(fr:List AV) (H:AH)=>ve (Cfg.cut cfg 95 (qm (sub (qc Tryz.f95) [1,1,1,1,1,1,1,1,1,0,0,0,0,1,1]))) fr H fun(fr:List AV) (H:AH)=>qR cfg (EV cfg) (kfN cfg 6) 95 none 1 (sub (qc Tryz.f95) [1,1,1,1,1,1,1,1,1,0,0,0,0,1,1]) fr H (kRun cfg (EV cfg) (kfN cfg 6) 95 none 1 (kLp 1 (some [0,1,4,12,13]) [] qjb qjh) [Ko.block 5])) (kRun cfg (EV cfg) (kfN cfg 6) 95 none 1 (kLp 1 (some [0,1,4,12,13]) [] qjb qjh) [Ko.block 5])))
def qBD:List AV×AH->Option (AV×List (List AV)):=fun(p:List AV×AH)=>kOpt (LOOP 1 (some [0,1,4,12,13]) [] qCq p) qC9
abbrev qcV(nn:Nat)(a b v8:Int)(h0:Rz):Option (MV×List (List AV)):=qBT (((fx 53 [(0,.ms 0 0 nn),(1,.int .i64 a),(2,.int .i64 b),(3,.fn (Fn.func 29) [] []),(8,.int .i64 v8)]):List AV),([.rows true 4 h0]:AH))
abbrev qaV(nn:Nat)(hi fst v10:Int)(h0:Rz):Option (MV×List (List AV)):=qzy (((fx 82 [(0,.ms 0 0 nn),(2,.int .i64 hi),(3,.int .i64 fst),(4,.fn (Fn.func 29) [] []),(10,.int .i64 v10)]):List AV),([.rows true 4 h0]:AH))
abbrev qiH(nn:Nat)(a b v11:Int)(h0:Rz):Option (MV×List (List AV)):=qBR (((fx 60 [(0,.ms 0 0 nn),(3,.fn (Fn.func 29) [] []),(8,.int .i64 a),(9,.int .i64 (0:Int)),(10,.int .i64 (qFD .i64 (b - a))),(11,.int .i64 v11)]):List AV),([.rows true 4 h0]:AH))
abbrev qiF(nn:Nat)(v8 v9:Int)(h0:Rz):Option (MV×List (List AV)):=qBP (((fx 34 [(0,.ms 0 0 nn),(8,.int .i64 v8),(9,.int .i64 v9)]):List AV),([.rows true 4 h0]:AH))
abbrev qiB(nn:Nat)(a b v12:Int)(h0:Rz):Option (AV×List (List AV)):=qBH (((fx 178 [(0,.ms 0 0 nn),(1,.int .i64 a),(4,.fn (Fn.func 29) [] []),(12,.int .i64 v12),(13,.int .i64 (qFD .i64 (b - (1:Int))))]):List AV),([.rows true 4 h0]:AH))
abbrev qiD(nn:Nat)(a v11 v12:Int)(h0:Rz):Option (AV×List (List AV)):=qBK (((fx 90 [(0,.ms 0 0 nn),(1,.int .i64 a),(4,.fn (Fn.func 29) [] []),(11,.int .i64 v11),(12,.int .i64 v12)]):List AV),([.rows true 4 h0]:AH))
abbrev yQ(nn:Nat)(a b v9 v10:Int)(h0:Rz):Option (AV×List (List AV)):=qBO (((fx 141 [(0,.ms 0 0 nn),(1,.int .i64 a),(2,.int .i64 b),(3,.fn (Fn.func 29) [] []),(9,.int .i64 v9),(10,.int .i64 v10)]):List AV),([.rows true 4 h0]:AH))
abbrev qiI(nn:Nat)(a b v8 v9:Int)(h0:Rz):Option (MV×List (List AV)):=qBS (((fx 53 [(0,.ms 0 0 nn),(1,.int .i64 a),(2,.int .i64 b),(3,.fn (Fn.func 29) [] []),(8,.int .i64 v8),(9,.int .i64 v9)]):List AV),([.rows true 4 h0]:AH))
abbrev qiG(nn:Nat)(a v12:Int)(h0:Rz):Option (MV×List (List AV)):=qBQ (((fx 60 [(0,.ms 0 0 nn),(3,.fn (Fn.func 29) [] []),(8,.int .i64 a),(9,.int .i64 (0:Int)),(12,.int .i64 v12)]):List AV),([.rows true 4 h0]:AH))
abbrev qeJ(nn:Nat)(a v12 v13:Int)(h0:Rz):Option (AV×List (List AV)):=qBG (((fx 178 [(0,.ms 0 0 nn),(1,.int .i64 a),(4,.fn (Fn.func 29) [] []),(12,.int .i64 v12),(13,.int .i64 v13)]):List AV),([.rows true 4 h0]:AH))
abbrev qiC(nn:Nat)(a v12 v11:Int)(h0:Rz):Option (AV×List (List AV)):=qBJ (((fx 90 [(0,.ms 0 0 nn),(1,.int .i64 a),(4,.fn (Fn.func 29) [] []),(11,.int .i64 v11),(12,.int .i64 v12)]):List AV),([.rows true 4 h0]:AH))
abbrev qiE(nn:Nat)(a b v10 v9:Int)(h0:Rz):Option (AV×List (List AV)):=qBN (((fx 141 [(0,.ms 0 0 nn),(1,.int .i64 a),(2,.int .i64 b),(3,.fn (Fn.func 29) [] []),(9,.int .i64 v9),(10,.int .i64 v10)]):List AV),([.rows true 4 h0]:AH))
abbrev qiA(nn:Nat)(a v12 v13:Int)(h0:Rz):Option (AV×List (List AV)):=qBF (((fx 178 [(0,.ms 0 0 nn),(1,.int .i64 a),(4,.fn (Fn.func 29) [] []),(12,.int .i64 v12),(13,.int .i64 v13)]):List AV),([.rows true 4 h0]:AH))
abbrev qbF(nn:Nat)(a v11 v12:Int)(h0:Rz):Option (AV×List (List AV)):=qBI (((fx 90 [(0,.ms 0 0 nn),(1,.int .i64 a),(4,.fn (Fn.func 29) [] []),(11,.int .i64 v11),(12,.int .i64 v12)]):List AV),([.rows true 4 h0]:AH))
abbrev qeK(nn:Nat)(a b v10 v9 v11:Int)(h0:Rz):Option (AV×List (List AV)):=qBM (((fx 141 [(0,.ms 0 0 nn),(1,.int .i64 a),(2,.int .i64 b),(3,.fn (Fn.func 29) [] []),(9,.int .i64 v9),(10,.int .i64 v10),(11,.int .i64 v11)]):List AV),([.rows true 4 h0]:AH))
abbrev qa4(nn:Nat)(a b v10 v9 v12:Int)(h0:Rz):Option (AV×List (List AV)):=qBL (((fx 141 [(0,.ms 0 0 nn),(1,.int .i64 a),(2,.int .i64 b),(3,.fn (Fn.func 29) [] []),(9,.int .i64 v9),(10,.int .i64 v10),(12,.int .i64 v12)]):List AV),([.rows true 4 h0]:AH))
abbrev qiz(nn:Nat)(a v13 v12:Int)(h0:Rz):Option (AV×List (List AV)):=qBE (((fx 178 [(0,.ms 0 0 nn),(1,.int .i64 a),(4,.fn (Fn.func 29) [] []),(12,.int .i64 v12),(13,.int .i64 v13)]):List AV),([.rows true 4 h0]:AH))
abbrev qbE(nn:Nat)(a v12 v13:Int)(h0:Rz):Option (AV×List (List AV)):=qBD (((fx 178 [(0,.ms 0 0 nn),(1,.int .i64 a),(4,.fn (Fn.func 29) [] []),(12,.int .i64 v12),(13,.int .i64 v13)]):List AV),([.rows true 4 h0]:AH))
theorem qyK(rows:Rz)(nn:Nat)(a b:Int){P:MV×List (List AV)->Prop}(h:Gets (qcV nn a b (qFD .i64 (a+1)) rows) P):Gets (EVm (EV cfg) 88 [.ms 0 0 nn,.int .i64 a,.int .i64 b,.fn (Fn.func 29) [] []] 4 rows) P:=
  gE (λ_=>funM rfl rfl Tryz.func88 rfl) (by kernel_rfl) h
theorem qvR(rows:Rz)(nn:Nat)(lo hi fst:Int){P:MV×List (List AV)->Prop}(h:Gets (qaV nn hi fst lo rows) P):Gets (EVm (EV cfg) 122 [.ms 0 0 nn,.int .i64 lo,.int .i64 hi,.int .i64 fst,.fn (Fn.func 29) [] []] 4 rows) P:=
  gE (λ_=>funM rfl rfl Tryz.func122 rfl) (by kernel_rfl) h
theorem qwS(rows:Rz)(nn:Nat)(a b:Int){P:MV×List (List AV)->Prop}(h:Gets (kOpt (qJ (Op.intDiv BinOp.quo .i64 (qFD .i64 (qFD .i64 (b - a) - 1)) 2)) λv=>kInt .i64 v λn=>qiH nn a b n rows) P):Gets (EVm (EV cfg) 89 [.ms 0 0 nn,.int .i64 a,.int .i64 b,.fn (Fn.func 29) [] []] 4 rows) P:=
  gE (λ_=>funM rfl rfl Tryz.func89 rfl) (by kernel_rfl) h
theorem qx8(rows:Rz)(nn:Nat)(a b:Int){P:MV×List (List AV)->Prop}(h:Gets (qiF nn a (qFD .i64 (b - 1)) rows) P):Gets (EVm (EV cfg) 92 [.ms 0 0 nn,.int .i64 a,.int .i64 b,.fn (Fn.func 29) [] []] 4 rows) P:=
  gE (λ_=>funM rfl rfl Tryz.func92 rfl) (by kernel_rfl) h
theorem qwg(rows:Rz)(nn:Nat)(a b p:Int){P:AV×List (List AV)->Prop}(h:Gets (rd4 nn rows p λn n_1 s rows_1=>(rd4 nn rows a λn_2 n_3 s_1 rows_2=>(ck4 4 nn rows a λrow=>ck4 4 nn (st4 rows a n n_1 s rows_1 row) p λrow_1=>qiB nn a b (qFD .i64 (a+1)) (st4 (st4 rows a n n_1 s rows_1 row) p n_2 n_3 s_1 rows_2 row_1)))) P):Gets (EVd (EV cfg) 95 [.ms 0 0 nn,.int .i64 a,.int .i64 b,.int .i64 p,.fn (Fn.func 29) [] []] 4 rows) P:=
  gE (λ_=>funD rfl rfl Tryz.func95 rfl) (by kernel_rfl) h
theorem qwh(rows:Rz)(nn:Nat)(a b p:Int){P:AV×List (List AV)->Prop}(h:Gets (rd4 nn rows p λn n_1 s rows_1=>(rd4 nn rows a λn_2 n_3 s_1 rows_2=>(ck4 4 nn rows a λrow=>ck4 4 nn (st4 rows a n n_1 s rows_1 row) p λrow_1=>qiD nn a (qFD .i64 (a+1)) (qFD .i64 (b - 1)) (st4 (st4 rows a n n_1 s rows_1 row) p n_2 n_3 s_1 rows_2 row_1)))) P):Gets (EVd (EV cfg) 94 [.ms 0 0 nn,.int .i64 a,.int .i64 b,.int .i64 p,.fn (Fn.func 29) [] []] 4 rows) P:=
  gE (λ_=>funD rfl rfl Tryz.func94 rfl) (by kernel_rfl) h
theorem qwe(rows:Rz)(nn:Nat)(a b:Int){P:AV×List (List AV)->Prop}(h:Gets (yQ nn a b (qFD .i64 (a+1)) 0 rows) P):Gets (EVd (EV cfg) 93 [.ms 0 0 nn,.int .i64 a,.int .i64 b,.fn (Fn.func 29) [] []] 4 rows) P:=
  gE (λ_=>funD rfl rfl Tryz.func93 rfl) (by kernel_rfl) h
theorem qg8(nn:Nat)(a b v8:Int)(h0:Rz){P:MV×List (List AV)->Prop}(h:Gets (bif decide (v8<b)then qiI nn a b v8 v8 h0 else some (MV.unit,h0)) P):Gets (qcV nn a b v8 h0) P:=
  gE (λ_=>qg (cfg:=cfg) (f:=88) (rd:=none) (bs:=1)) (by kernel_rfl) h
theorem qgb(nn:Nat)(hi fst v10:Int)(h0:Rz){P:MV×List (List AV)->Prop}(h:Gets (bif decide (qFD .i64 (qFD .i64 (2*v10)+1)≥hi)then some (MV.unit,h0)else bif decide (qFD .i64 (qFD .i64 (qFD .i64 (2*v10)+1)+1)<hi)then rd4 nn h0 (qFD .i64 (fst+qFD .i64 (qFD .i64 (2*v10)+1))) λn n_1 s rows=>(rd4 nn h0 (qFD .i64 (qFD .i64 (fst+qFD .i64 (qFD .i64 (2*v10)+1))+1)) λn_2 n_3 s_1 rows_1=>(kOpt (EVs (EV cfg) 29 [.agg [.int .i64 n,.int .i64 n_1,.str s,.sl rows],.agg [.int .i64 n_2,.int .i64 n_3,.str s_1,.sl rows_1]]) λv=>kInt .i64 v λn=>bif decide (n<0)then rd4 nn h0 (qFD .i64 (fst+v10)) λn n_4 s rows=>(rd4 nn h0 (qFD .i64 (fst+qFD .i64 (qFD .i64 (qFD .i64 (2*v10)+1)+1))) λn_5 n_6 s_2 rows_2=>(kOpt (EVs (EV cfg) 29 [.agg [.int .i64 n,.int .i64 n_4,.str s,.sl rows],.agg [.int .i64 n_5,.int .i64 n_6,.str s_2,.sl rows_2]]) λv=>kInt .i64 v λn=>bif ! decide (n<0)then some (MV.unit,h0)else rd4 nn h0 (qFD .i64 (fst+qFD .i64 (qFD .i64 (qFD .i64 (2*v10)+1)+1))) λn n_7 s rows=>(rd4 nn h0 (qFD .i64 (fst+v10)) λn_8 n_9 s_3 rows_3=>(ck4 4 nn h0 (qFD .i64 (fst+v10)) λrow=>ck4 4 nn (st4 h0 (qFD .i64 (fst+v10)) n n_7 s rows row) (qFD .i64 (fst+qFD .i64 (qFD .i64 (qFD .i64 (2*v10)+1)+1))) λrow_1=>qaV nn hi fst (qFD .i64 (qFD .i64 (qFD .i64 (2*v10)+1)+1)) (st4 (st4 h0 (qFD .i64 (fst+v10)) n n_7 s rows row) (qFD .i64 (fst+qFD .i64 (qFD .i64 (qFD .i64 (2*v10)+1)+1))) n_8 n_9 s_3 rows_3 row_1)))))else rd4 nn h0 (qFD .i64 (fst+v10)) λn n_4 s rows=>(rd4 nn h0 (qFD .i64 (fst+qFD .i64 (qFD .i64 (2*v10)+1))) λn_5 n_6 s_2 rows_2=>(kOpt (EVs (EV cfg) 29 [.agg [.int .i64 n,.int .i64 n_4,.str s,.sl rows],.agg [.int .i64 n_5,.int .i64 n_6,.str s_2,.sl rows_2]]) λv=>kInt .i64 v λn=>bif ! decide (n<0)then some (MV.unit,h0)else rd4 nn h0 (qFD .i64 (fst+qFD .i64 (qFD .i64 (2*v10)+1))) λn n_7 s rows=>(rd4 nn h0 (qFD .i64 (fst+v10)) λn_8 n_9 s_3 rows_3=>(ck4 4 nn h0 (qFD .i64 (fst+v10)) λrow=>ck4 4 nn (st4 h0 (qFD .i64 (fst+v10)) n n_7 s rows row) (qFD .i64 (fst+qFD .i64 (qFD .i64 (2*v10)+1))) λrow_1=>qaV nn hi fst (qFD .i64 (qFD .i64 (2*v10)+1)) (st4 (st4 h0 (qFD .i64 (fst+v10)) n n_7 s rows row) (qFD .i64 (fst+qFD .i64 (qFD .i64 (2*v10)+1))) n_8 n_9 s_3 rows_3 row_1)))))))else rd4 nn h0 (qFD .i64 (fst+v10)) λn n_1 s rows=>(rd4 nn h0 (qFD .i64 (fst+qFD .i64 (qFD .i64 (2*v10)+1))) λn_2 n_3 s_1 rows_1=>(kOpt (EVs (EV cfg) 29 [.agg [.int .i64 n,.int .i64 n_1,.str s,.sl rows],.agg [.int .i64 n_2,.int .i64 n_3,.str s_1,.sl rows_1]]) λv=>kInt .i64 v λn=>bif ! decide (n<0)then some (MV.unit,h0)else rd4 nn h0 (qFD .i64 (fst+qFD .i64 (qFD .i64 (2*v10)+1))) λn n_4 s rows=>(rd4 nn h0 (qFD .i64 (fst+v10)) λn_5 n_6 s_2 rows_2=>(ck4 4 nn h0 (qFD .i64 (fst+v10)) λrow=>ck4 4 nn (st4 h0 (qFD .i64 (fst+v10)) n n_4 s rows row) (qFD .i64 (fst+qFD .i64 (qFD .i64 (2*v10)+1))) λrow_1=>qaV nn hi fst (qFD .i64 (qFD .i64 (2*v10)+1)) (st4 (st4 h0 (qFD .i64 (fst+v10)) n n_4 s rows row) (qFD .i64 (fst+qFD .i64 (qFD .i64 (2*v10)+1))) n_5 n_6 s_2 rows_2 row_1)))))) P):Gets (qaV nn hi fst v10 h0) P:=
  gE (λ_=>qg (cfg:=cfg) (f:=122) (rd:=none) (bs:=1)) (by kernel_rfl) h
theorem qg6(nn:Nat)(a b v11:Int)(h0:Rz){P:MV×List (List AV)->Prop}(h:Gets (bif decide (v11≥0)then kOpt (EVm (EV cfg) 122 [.ms 0 0 nn,.int .i64 v11,.int .i64 (qFD .i64 (b - a)),.int .i64 a,AV.fn (Fn.func 29) [] []] 4 h0) λq=>q6 q.1 (qiH nn a b (qFD .i64 (v11 - 1)) q.2)else qiG nn a (qFD .i64 (qFD .i64 (b - a) - 1)) h0) P):Gets (qiH nn a b v11 h0) P:=
  gE (λ_=>qg (cfg:=cfg) (f:=89) (rd:=none) (bs:=1)) (by kernel_rfl) h
theorem qg4(nn:Nat)(v8 v9:Int)(h0:Rz){P:MV×List (List AV)->Prop}(h:Gets (bif decide (v8<v9)then rd4 nn h0 v9 λn n_1 s rows=>(rd4 nn h0 v8 λn_2 n_3 s_1 rows_1=>(ck4 4 nn h0 v8 λrow=>ck4 4 nn (st4 h0 v8 n n_1 s rows row) v9 λrow_1=>qiF nn (qFD .i64 (v8+1)) (qFD .i64 (v9 - 1)) (st4 (st4 h0 v8 n n_1 s rows row) v9 n_2 n_3 s_1 rows_1 row_1)))else some (MV.unit,h0)) P):Gets (qiF nn v8 v9 h0) P:=
  gE (λ_=>qg (cfg:=cfg) (f:=92) (rd:=none) (bs:=1)) (by kernel_rfl) h
theorem qgW(nn:Nat)(a b v12:Int)(h0:Rz){P:AV×List (List AV)->Prop}(h:Gets (bif decide (v12<=qFD .i64 (b - 1))then rd4 nn h0 v12 λn n_1 s rows=>(rd4 nn h0 a λn_2 n_3 s_1 rows_1=>(kOpt (EVs (EV cfg) 29 [.agg [.int .i64 n,.int .i64 n_1,.str s,.sl rows],.agg [.int .i64 n_2,.int .i64 n_3,.str s_1,.sl rows_1]]) λv=>kInt .i64 v λn=>bif decide (n<0)then qiB nn a b (qFD .i64 (v12+1)) h0 else qeJ nn a v12 (qFD .i64 (b - 1)) h0))else qeJ nn a v12 (qFD .i64 (b - 1)) h0) P):Gets (qiB nn a b v12 h0) P:=
  gE (λ_=>qg (cfg:=cfg) (f:=95) (rd:=none) (bs:=1)) (by kernel_rfl) h
theorem qgZ(nn:Nat)(a v11 v12:Int)(h0:Rz){P:AV×List (List AV)->Prop}(h:Gets (qiC nn a v12 v11 h0) P):Gets (qiD nn a v11 v12 h0) P:=
  gE (λ_=>qg (cfg:=cfg) (f:=94) (rd:=none) (bs:=1)) (by kernel_rfl) h
theorem qg3(nn:Nat)(a b v9 v10:Int)(h0:Rz){P:AV×List (List AV)->Prop}(h:Gets (bif decide (v10<5)then qiE nn a b v10 v9 h0 else some (.bool false,h0)) P):Gets (yQ nn a b v9 v10 h0) P:=
  gE (λ_=>qg (cfg:=cfg) (f:=93) (rd:=none) (bs:=1)) (by kernel_rfl) h
theorem qg7(nn:Nat)(a b v8 v9:Int)(h0:Rz){P:MV×List (List AV)->Prop}(h:Gets (bif decide (v9>a)then rd4 nn h0 v9 λn n_1 s rows=>(rd4 nn h0 (qFD .i64 (v9 - 1)) λn_2 n_3 s_1 rows_1=>(kOpt (EVs (EV cfg) 29 [.agg [.int .i64 n,.int .i64 n_1,.str s,.sl rows],.agg [.int .i64 n_2,.int .i64 n_3,.str s_1,.sl rows_1]]) λv=>kInt .i64 v λn=>bif decide (n<0)then rd4 nn h0 (qFD .i64 (v9 - 1)) λn n_4 s rows=>(rd4 nn h0 v9 λn_5 n_6 s_2 rows_2=>(ck4 4 nn h0 v9 λrow=>ck4 4 nn (st4 h0 v9 n n_4 s rows row) (qFD .i64 (v9 - 1)) λrow_1=>qiI nn a b v8 (qFD .i64 (v9 - 1)) (st4 (st4 h0 v9 n n_4 s rows row) (qFD .i64 (v9 - 1)) n_5 n_6 s_2 rows_2 row_1)))else qcV nn a b (qFD .i64 (v8+1)) h0))else qcV nn a b (qFD .i64 (v8+1)) h0) P):Gets (qiI nn a b v8 v9 h0) P:=
  gE (λ_=>qg (cfg:=cfg) (f:=88) (rd:=none) (bs:=1)) (by kernel_rfl) h
theorem qg5(nn:Nat)(a v12:Int)(h0:Rz){P:MV×List (List AV)->Prop}(h:Gets (bif decide (v12≥0)then rd4 nn h0 (qFD .i64 (a+v12)) λn n_1 s rows=>(rd4 nn h0 a λn_2 n_3 s_1 rows_1=>(ck4 4 nn h0 a λrow=>ck4 4 nn (st4 h0 a n n_1 s rows row) (qFD .i64 (a+v12)) λrow_1=>kOpt (EVm (EV cfg) 122 [.ms 0 0 nn,.int .i64 0,.int .i64 v12,.int .i64 a,AV.fn (Fn.func 29) [] []] 4 (st4 (st4 h0 a n n_1 s rows row) (qFD .i64 (a+v12)) n_2 n_3 s_1 rows_1 row_1)) λq=>q6 q.1 (qiG nn a (qFD .i64 (v12 - 1)) q.2)))else some (MV.unit,h0)) P):Gets (qiG nn a v12 h0) P:=
  gE (λ_=>qg (cfg:=cfg) (f:=89) (rd:=none) (bs:=1)) (by kernel_rfl) h
abbrev zz0(nn:Nat)(h0:Rz)(v13 v12 a:Int):Option (AV×List (List AV)):=rd4 nn h0 v13 λn n_1 s rows=>(rd4 nn h0 v12 λn_2 n_3 s_1 rows_1=>(ck4 4 nn h0 v12 λrow=>ck4 4 nn (st4 h0 v12 n n_1 s rows row) v13 λrow_1=>qiA nn a (qFD .i64 (v12+1)) (qFD .i64 (v13 - 1)) (st4 (st4 h0 v12 n n_1 s rows row) v13 n_2 n_3 s_1 rows_1 row_1)))
theorem qgV(nn:Nat)(a v12 v13:Int)(h0:Rz){P:AV×List (List AV)->Prop}(h:Gets (bif decide (v12<=v13)then rd4 nn h0 v13 λn n_1 s rows=>(rd4 nn h0 a λn_2 n_3 s_1 rows_1=>(kOpt (EVs (EV cfg) 29 [.agg [.int .i64 n,.int .i64 n_1,.str s,.sl rows],.agg [.int .i64 n_2,.int .i64 n_3,.str s_1,.sl rows_1]]) λv=>kInt .i64 v λn=>bif ! decide (n<0)then qeJ nn a v12 (qFD .i64 (v13 - 1)) h0 else bif decide (v12>v13)then rd4 nn h0 a λn n_4 s rows=>(rd4 nn h0 v13 λn_5 n_6 s_2 rows_2=>(ck4 4 nn h0 v13 λrow=>ck4 4 nn (st4 h0 v13 n n_4 s rows row) a λrow_1=>some (AV.tup [AV.int .i64 v13,.bool true],List.set (st4 h0 v13 n n_4 s rows row) (0+a.toNat) (.int .i64 n_5:: .int .i64 n_6:: .str s_2:: .sl rows_2::qGb 4 row_1))))else rd4 nn h0 v13 λn n_4 s rows=>(rd4 nn h0 v12 λn_5 n_6 s_2 rows_2=>(ck4 4 nn h0 v12 λrow=>ck4 4 nn (st4 h0 v12 n n_4 s rows row) v13 λrow_1=>qiA nn a (qFD .i64 (v12+1)) (qFD .i64 (v13 - 1)) (st4 (st4 h0 v12 n n_4 s rows row) v13 n_5 n_6 s_2 rows_2 row_1)))))else bif decide (v12>v13)then rd4 nn h0 a λn n_1 s rows=>(rd4 nn h0 v13 λn_2 n_3 s_1 rows_1=>(ck4 4 nn h0 v13 λrow=>ck4 4 nn (st4 h0 v13 n n_1 s rows row) a λrow_1=>some (AV.tup [AV.int .i64 v13,.bool true],List.set (st4 h0 v13 n n_1 s rows row) (0+a.toNat) (.int .i64 n_2:: .int .i64 n_3:: .str s_1:: .sl rows_1::qGb 4 row_1))))else zz0 nn h0 v13 v12 a) P):Gets (qeJ nn a v12 v13 h0) P:=
  gE (λ_=>qg (cfg:=cfg) (f:=95) (rd:=none) (bs:=1)) (by kernel_rfl) h
theorem qgY(nn:Nat)(a v12 v11:Int)(h0:Rz){P:AV×List (List AV)->Prop}(h:Gets (bif decide (v11<=v12)then rd4 nn h0 a λn n_1 s rows=>(rd4 nn h0 v11 λn_2 n_3 s_1 rows_1=>(kOpt (EVs (EV cfg) 29 [.agg [.int .i64 n,.int .i64 n_1,.str s,.sl rows],.agg [.int .i64 n_2,.int .i64 n_3,.str s_1,.sl rows_1]]) λv=>kInt .i64 v λn=>bif ! decide (n<0)then qiC nn a v12 (qFD .i64 (v11+1)) h0 else qbF nn a v11 v12 h0))else qbF nn a v11 v12 h0) P):Gets (qiC nn a v12 v11 h0) P:=
  gE (λ_=>qg (cfg:=cfg) (f:=94) (rd:=none) (bs:=1)) (by kernel_rfl) h
theorem qg2(nn:Nat)(a b v10 v9:Int)(h0:Rz){P:AV×List (List AV)->Prop}(h:Gets (bif decide (v9<b)then rd4 nn h0 v9 λn n_1 s rows=>(rd4 nn h0 (qFD .i64 (v9 - 1)) λn_2 n_3 s_1 rows_1=>(kOpt (EVs (EV cfg) 29 [.agg [.int .i64 n,.int .i64 n_1,.str s,.sl rows],.agg [.int .i64 n_2,.int .i64 n_3,.str s_1,.sl rows_1]]) λv=>kInt .i64 v λn=>bif ! decide (n<0)then qiE nn a b v10 (qFD .i64 (v9+1)) h0 else bif v9==b then some (.bool true,h0)else bif decide (qFD .i64 (b - a)<50)then some (.bool false,h0)else rd4 nn h0 (qFD .i64 (v9 - 1)) λn n_4 s rows=>(rd4 nn h0 v9 λn_5 n_6 s_2 rows_2=>(ck4 4 nn h0 v9 λrow=>ck4 4 nn (st4 h0 v9 n n_4 s rows row) (qFD .i64 (v9 - 1)) λrow_1=>bif decide (qFD .i64 (v9 - a)≥2)then qeK nn a b v10 v9 (qFD .i64 (v9 - 1)) (st4 (st4 h0 v9 n n_4 s rows row) (qFD .i64 (v9 - 1)) n_5 n_6 s_2 rows_2 row_1)else bif decide (qFD .i64 (b - v9)≥2)then qa4 nn a b v10 v9 (qFD .i64 (v9+1)) (st4 (st4 h0 v9 n n_4 s rows row) (qFD .i64 (v9 - 1)) n_5 n_6 s_2 rows_2 row_1)else yQ nn a b v9 (qFD .i64 (v10+1)) (st4 (st4 h0 v9 n n_4 s rows row) (qFD .i64 (v9 - 1)) n_5 n_6 s_2 rows_2 row_1)))))else bif v9==b then some (.bool true,h0)else bif decide (qFD .i64 (b - a)<50)then some (.bool false,h0)else rd4 nn h0 (qFD .i64 (v9 - 1)) λn n_1 s rows=>(rd4 nn h0 v9 λn_2 n_3 s_1 rows_1=>(ck4 4 nn h0 v9 λrow=>ck4 4 nn (st4 h0 v9 n n_1 s rows row) (qFD .i64 (v9 - 1)) λrow_1=>bif decide (qFD .i64 (v9 - a)≥2)then qeK nn a b v10 v9 (qFD .i64 (v9 - 1)) (st4 (st4 h0 v9 n n_1 s rows row) (qFD .i64 (v9 - 1)) n_2 n_3 s_1 rows_1 row_1)else bif decide (qFD .i64 (b - v9)≥2)then qa4 nn a b v10 v9 (qFD .i64 (v9+1)) (st4 (st4 h0 v9 n n_1 s rows row) (qFD .i64 (v9 - 1)) n_2 n_3 s_1 rows_1 row_1)else yQ nn a b v9 (qFD .i64 (v10+1)) (st4 (st4 h0 v9 n n_1 s rows row) (qFD .i64 (v9 - 1)) n_2 n_3 s_1 rows_1 row_1)))) P):Gets (qiE nn a b v10 v9 h0) P:=
  gE (λ_=>qg (cfg:=cfg) (f:=93) (rd:=none) (bs:=1)) (by kernel_rfl) h
theorem qgU(nn:Nat)(a v12 v13:Int)(h0:Rz){P:AV×List (List AV)->Prop}(h:Gets (qiz nn a v13 v12 h0) P):Gets (qiA nn a v12 v13 h0) P:=
  gE (λ_=>qg (cfg:=cfg) (f:=95) (rd:=none) (bs:=1)) (by kernel_rfl) h
theorem qgX(nn:Nat)(a v11 v12:Int)(h0:Rz){P:AV×List (List AV)->Prop}(h:Gets (bif decide (v11<=v12)then rd4 nn h0 a λn n_1 s rows=>(rd4 nn h0 v12 λn_2 n_3 s_1 rows_1=>(kOpt (EVs (EV cfg) 29 [.agg [.int .i64 n,.int .i64 n_1,.str s,.sl rows],.agg [.int .i64 n_2,.int .i64 n_3,.str s_1,.sl rows_1]]) λv=>kInt .i64 v λn=>bif decide (n<0)then qbF nn a v11 (qFD .i64 (v12 - 1)) h0 else bif decide (v11>v12)then some (.int .i64 v11,h0)else rd4 nn h0 v12 λn n_4 s rows=>(rd4 nn h0 v11 λn_5 n_6 s_2 rows_2=>(ck4 4 nn h0 v11 λrow=>ck4 4 nn (st4 h0 v11 n n_4 s rows row) v12 λrow_1=>qiD nn a (qFD .i64 (v11+1)) (qFD .i64 (v12 - 1)) (st4 (st4 h0 v11 n n_4 s rows row) v12 n_5 n_6 s_2 rows_2 row_1)))))else bif decide (v11>v12)then some (.int .i64 v11,h0)else rd4 nn h0 v12 λn n_1 s rows=>(rd4 nn h0 v11 λn_2 n_3 s_1 rows_1=>(ck4 4 nn h0 v11 λrow=>ck4 4 nn (st4 h0 v11 n n_1 s rows row) v12 λrow_1=>qiD nn a (qFD .i64 (v11+1)) (qFD .i64 (v12 - 1)) (st4 (st4 h0 v11 n n_1 s rows row) v12 n_2 n_3 s_1 rows_1 row_1)))) P):Gets (qbF nn a v11 v12 h0) P:=
  gE (λ_=>qg (cfg:=cfg) (f:=94) (rd:=none) (bs:=1)) (by kernel_rfl) h
theorem qg1(nn:Nat)(a b v10 v9 v11:Int)(h0:Rz){P:AV×List (List AV)->Prop}(h:Gets (bif decide (v11≥1)then rd4 nn h0 v11 λn n_1 s rows=>(rd4 nn h0 (qFD .i64 (v11 - 1)) λn_2 n_3 s_1 rows_1=>(kOpt (EVs (EV cfg) 29 [.agg [.int .i64 n,.int .i64 n_1,.str s,.sl rows],.agg [.int .i64 n_2,.int .i64 n_3,.str s_1,.sl rows_1]]) λv=>kInt .i64 v λn=>bif ! decide (n<0)then bif decide (qFD .i64 (b - v9)≥2)then qa4 nn a b v10 v9 (qFD .i64 (v9+1)) h0 else yQ nn a b v9 (qFD .i64 (v10+1)) h0 else rd4 nn h0 (qFD .i64 (v11 - 1)) λn n_4 s rows=>(rd4 nn h0 v11 λn_5 n_6 s_2 rows_2=>(ck4 4 nn h0 v11 λrow=>ck4 4 nn (st4 h0 v11 n n_4 s rows row) (qFD .i64 (v11 - 1)) λrow_1=>qeK nn a b v10 v9 (qFD .i64 (v11 - 1)) (st4 (st4 h0 v11 n n_4 s rows row) (qFD .i64 (v11 - 1)) n_5 n_6 s_2 rows_2 row_1)))))else bif decide (qFD .i64 (b - v9)≥2)then qa4 nn a b v10 v9 (qFD .i64 (v9+1)) h0 else yQ nn a b v9 (qFD .i64 (v10+1)) h0) P):Gets (qeK nn a b v10 v9 v11 h0) P:=
  gE (λ_=>qg (cfg:=cfg) (f:=93) (rd:=none) (bs:=1)) (by kernel_rfl) h
theorem qg0(nn:Nat)(a b v10 v9 v12:Int)(h0:Rz){P:AV×List (List AV)->Prop}(h:Gets (bif decide (v12<b)then rd4 nn h0 v12 λn n_1 s rows=>(rd4 nn h0 (qFD .i64 (v12 - 1)) λn_2 n_3 s_1 rows_1=>(kOpt (EVs (EV cfg) 29 [.agg [.int .i64 n,.int .i64 n_1,.str s,.sl rows],.agg [.int .i64 n_2,.int .i64 n_3,.str s_1,.sl rows_1]]) λv=>kInt .i64 v λn=>bif ! decide (n<0)then yQ nn a b v9 (qFD .i64 (v10+1)) h0 else rd4 nn h0 (qFD .i64 (v12 - 1)) λn n_4 s rows=>(rd4 nn h0 v12 λn_5 n_6 s_2 rows_2=>(ck4 4 nn h0 v12 λrow=>ck4 4 nn (st4 h0 v12 n n_4 s rows row) (qFD .i64 (v12 - 1)) λrow_1=>qa4 nn a b v10 v9 (qFD .i64 (v12+1)) (st4 (st4 h0 v12 n n_4 s rows row) (qFD .i64 (v12 - 1)) n_5 n_6 s_2 rows_2 row_1)))))else yQ nn a b v9 (qFD .i64 (v10+1)) h0) P):Gets (qa4 nn a b v10 v9 v12 h0) P:=
  gE (λ_=>qg (cfg:=cfg) (f:=93) (rd:=none) (bs:=1)) (by kernel_rfl) h
theorem qgT(nn:Nat)(a v13 v12:Int)(h0:Rz){P:AV×List (List AV)->Prop}(h:Gets (bif decide (v12<=v13)then rd4 nn h0 v12 λn n_1 s rows=>(rd4 nn h0 a λn_2 n_3 s_1 rows_1=>(kOpt (EVs (EV cfg) 29 [.agg [.int .i64 n,.int .i64 n_1,.str s,.sl rows],.agg [.int .i64 n_2,.int .i64 n_3,.str s_1,.sl rows_1]]) λv=>kInt .i64 v λn=>bif decide (n<0)then qiz nn a v13 (qFD .i64 (v12+1)) h0 else qbE nn a v12 v13 h0))else qbE nn a v12 v13 h0) P):Gets (qiz nn a v13 v12 h0) P:=
  gE (λ_=>qg (cfg:=cfg) (f:=95) (rd:=none) (bs:=1)) (by kernel_rfl) h
theorem qgS(nn:Nat)(a v12 v13:Int)(h0:Rz){P:AV×List (List AV)->Prop}(h:Gets (bif decide (v12<=v13)then rd4 nn h0 v13 λn n_1 s rows=>(rd4 nn h0 a λn_2 n_3 s_1 rows_1=>(kOpt (EVs (EV cfg) 29 [.agg [.int .i64 n,.int .i64 n_1,.str s,.sl rows],.agg [.int .i64 n_2,.int .i64 n_3,.str s_1,.sl rows_1]]) λv=>kInt .i64 v λn=>bif ! decide (n<0)then qbE nn a v12 (qFD .i64 (v13 - 1)) h0 else bif decide (v12>v13)then rd4 nn h0 a λn n_4 s rows=>(rd4 nn h0 v13 λn_5 n_6 s_2 rows_2=>(ck4 4 nn h0 v13 λrow=>ck4 4 nn (st4 h0 v13 n n_4 s rows row) a λrow_1=>some (AV.tup [AV.int .i64 v13,.bool false],List.set (st4 h0 v13 n n_4 s rows row) (0+a.toNat) (.int .i64 n_5:: .int .i64 n_6:: .str s_2:: .sl rows_2::qGb 4 row_1))))else rd4 nn h0 v13 λn n_4 s rows=>(rd4 nn h0 v12 λn_5 n_6 s_2 rows_2=>(ck4 4 nn h0 v12 λrow=>ck4 4 nn (st4 h0 v12 n n_4 s rows row) v13 λrow_1=>qiA nn a (qFD .i64 (v12+1)) (qFD .i64 (v13 - 1)) (st4 (st4 h0 v12 n n_4 s rows row) v13 n_5 n_6 s_2 rows_2 row_1)))))else bif decide (v12>v13)then rd4 nn h0 a λn n_1 s rows=>(rd4 nn h0 v13 λn_2 n_3 s_1 rows_1=>(ck4 4 nn h0 v13 λrow=>ck4 4 nn (st4 h0 v13 n n_1 s rows row) a λrow_1=>some (AV.tup [AV.int .i64 v13,.bool false],List.set (st4 h0 v13 n n_1 s rows row) (0+a.toNat) (.int .i64 n_2:: .int .i64 n_3:: .str s_1:: .sl rows_1::qGb 4 row_1))))else zz0 nn h0 v13 v12 a) P):Gets (qbE nn a v12 v13 h0) P:=
  gE (λ_=>qg (cfg:=cfg) (f:=95) (rd:=none) (bs:=1)) (by kernel_rfl) h
def qCo:Den:=evC cfg (EV cfg) 90 none 1 (sub (qc Tryz.f90) [1,1,0,1,1,1,0,0])
def qC7:Ex×List AV×AH->Option (MV×List (List AV)):=kAft (Cfg.keepOut cfg 90 5) (kRun cfg (EV cfg) (kfN cfg 6) 90 none 1 (xp cfg 4 (Cfg.lift cfg 90 0) Tryz.f90.results.toList) ([.block 0]))
def qti:List AV×AH->Option (MV×List (List AV)):=λp=>kOpt (LOOP 1 (some [0,1,8,9,10,11]) ([]) qCo p) qC7
def qCp:Den:=evC cfg (EV cfg) 61 none 1 (sub (qc Tryz.f61) [1,1,0,0])
def qC8:Ex×List AV×AH->Option (MV×List (List AV)):=kAft (Cfg.keepOut cfg 61 2) (kRun cfg (EV cfg) (kfN cfg 6) 61 none 1 (xp cfg 4 (Cfg.lift cfg 61 0) Tryz.f61.results.toList) ([.block 0]))
def qBC:List AV×AH->Option (MV×List (List AV)):=λp=>kOpt (LOOP 1 (some [0,1,2,3,4,10,11]) ([]) qCp p) qC8
abbrev qmY(nn:Nat)(a b n v11:Int)(h0:Rz)(c1_0:Int):Option (MV×List (List AV)):=qti (((fx 67 [(0,.ms 0 0 nn),(1,.int .i64 a),(8,.int .i64 (qFD .i64 (b - a))),(9,.ptr 1 0 0),(10,.int .u64 n),(11,.int .i64 v11)]):List AV),([.rows true 4 h0,.rows false 1 [[.int .u64 c1_0]]]:AH))
abbrev qa3(nn:Nat)(v1 v2 v3:Int)(v10 v11:Bool)(h0:Rz):Option (MV×List (List AV)):=qBC (((fx 148 [(0,.ms 0 0 nn),(1,.int .i64 v1),(2,.int .i64 v2),(3,.int .i64 v3),(4,.fn (Fn.func 29) [] []),(10,.bool v10),(11,.bool v11)]):List AV),([.rows true 4 h0]:AH))
abbrev qbD(nn:Nat)(a b n v11:Int)(h0 h1:Rz):Option (MV×List (List AV)):=qti (((fx 67 [(0,.ms 0 0 nn),(1,.int .i64 a),(8,.int .i64 (qFD .i64 (b - a))),(9,.ptr 1 0 0),(10,.int .u64 n),(11,.int .i64 v11)]):List AV),([.rows true 4 h0,.rows true 1 h1]:AH))
theorem qy9(rows:Rz)(nn:Nat)(a b:Int){P:MV×List (List AV)->Prop}(h:Gets (bif decide (qFD .i64 (b - a)≥8)then kOpt (EVs (EV cfg) 123 [AV.int .i64 (qFD .i64 (b - a))]) λv=>kInt .u64 v λn=>kOpt (qJ (Op.intDiv BinOp.quo .i64 (qFD .i64 (b - a)) 4)) λv=>kInt .i64 v λn_1=>qmY nn a b n (qFD .i64 (qFD .i64 (a+qFD .i64 (n_1*2)) - 1)) rows (qFD .u64 (qFD .i64 (b - a)))else some (MV.unit,rows)) P):Gets (EVm (EV cfg) 90 [.ms 0 0 nn,.int .i64 a,.int .i64 b,.fn (Fn.func 29) [] []] 4 rows) P:=
  gE (λ_=>funM rfl rfl Tryz.func90 rfl) (by kernel_rfl) h
abbrev zA4(n_5 n:Int):Option (AV):=bif n_5==0 then some (AV.tup [AV.int .i64 n,.int .i64 1])else bif n_5==12 then some (AV.tup [AV.int .i64 n,.int .i64 2])else some (AV.tup [AV.int .i64 n,.int .i64 0])
abbrev zA3(v:AV)(n:Int):Option (AV):=kInt .i64 v λn_5=>zA4 n_5 n
abbrev zA2(row:List AV)(n:Int):Option (AV):=kOpt (qFG row 0) λv=>zA3 v n
abbrev zA1(q:AV×List (List AV))(n:Int):Option (AV):=kOpt (qFG q.2 0) λrow=>zA2 row n
abbrev zA0(q:AV×List (List AV)):Option (AV):=kInt .i64 q.1 λn=>zA1 q n
theorem qyg(rows:Rz)(a b:Int){P:AV->Prop}(h:Gets (kOpt (qJ (Op.intDiv BinOp.quo .i64 (qFD .i64 (b - a)) 4)) λv=>kInt .i64 v λn=>kOpt (qJ (Op.intDiv BinOp.quo .i64 (qFD .i64 (b - a)) 4)) λv=>kInt .i64 v λn_1=>kOpt (qJ (Op.intDiv BinOp.quo .i64 (qFD .i64 (b - a)) 4)) λv=>kInt .i64 v λn_2=>bif decide (qFD .i64 (b - a)≥8)then bif decide (qFD .i64 (b - a)≥50)then kOpt (EVd (EV cfg) 125 [.sl rows,.int .i64 (qFD .i64 (a+qFD .i64 (n*1))),.ptr 0 0 0,AV.fn (Fn.func 29) [] []] 1 [[AV.int .i64 0]]) λq=>kInt .i64 q.1 λn=>kOpt (EVd (EV cfg) 125 [.sl rows,.int .i64 (qFD .i64 (a+qFD .i64 (n_1*2))),.ptr 0 0 0,AV.fn (Fn.func 29) [] []] 1 q.2) λq=>kInt .i64 q.1 λn_3=>kOpt (EVd (EV cfg) 125 [.sl rows,.int .i64 (qFD .i64 (a+qFD .i64 (n_2*3))),.ptr 0 0 0,AV.fn (Fn.func 29) [] []] 1 q.2) λq=>kInt .i64 q.1 λn_4=>kOpt (EVd (EV cfg) 126 [.sl rows,.int .i64 n,.int .i64 n_3,.int .i64 n_4,.ptr 0 0 0,AV.fn (Fn.func 29) [] []] 1 q.2) λq=>zA0 q else kOpt (EVd (EV cfg) 126 [.sl rows,.int .i64 (qFD .i64 (a+qFD .i64 (n*1))),.int .i64 (qFD .i64 (a+qFD .i64 (n_1*2))),.int .i64 (qFD .i64 (a+qFD .i64 (n_2*3))),.ptr 0 0 0,AV.fn (Fn.func 29) [] []] 1 [[AV.int .i64 0]]) λq=>zA0 q else some (AV.tup [AV.int .i64 (qFD .i64 (a+qFD .i64 (n_1*2))),.int .i64 1])) P):Gets (EVs (EV cfg) 91 [.sl rows,.int .i64 a,.int .i64 b,.fn (Fn.func 29) [] []]) P:=
  gE (λ_=>funS rfl rfl Tryz.func91 rfl) (by kernel_rfl) h
theorem qp0(rows:Rz)(nn:Nat)(a b lim:Int){P:MV×List (List AV)->Prop}(h:Gets (qa3 nn a b lim true true rows) P):Gets (EVm (EV cfg) 61 [.ms 0 0 nn,.int .i64 a,.int .i64 b,.int .i64 lim,.fn (Fn.func 29) [] []] 4 rows) P:=
  gE (λ_=>funM rfl rfl Tryz.func61 rfl) (by kernel_rfl) h
theorem qwk(rows:Rz)(a b s:Int){P:AV×List (List AV)->Prop}(h:Gets (rs4 rows b λn n_1 s_1 rows_1=>(rs4 rows a λn_2 n_3 s_2 rows=>(kOpt (EVs (EV cfg) 29 [.agg [.int .i64 n,.int .i64 n_1,.str s_1,.sl rows_1],.agg [.int .i64 n_2,.int .i64 n_3,.str s_2,.sl rows]]) λv=>kInt .i64 v λn=>bif decide (n<0)then some (AV.tup [AV.int .i64 b,.int .i64 a],[[AV.int .i64 (qFD .i64 (s+1))]])else some (AV.tup [AV.int .i64 a,.int .i64 b],[[AV.int .i64 s]])))) P):Gets (EVd (EV cfg) 147 [.sl rows,.int .i64 a,.int .i64 b,.ptr 0 0 0,.fn (Fn.func 29) [] []] 1 [[AV.int .i64 s]]) P:=
  gE (λ_=>funD rfl rfl Tryz.func147 rfl) (by kernel_rfl) h
theorem qyD(rows:Rz)(a b c s:Int){P:AV×List (List AV)->Prop}(h:Gets (kOpt (EVd (EV cfg) 147 [.sl rows,.int .i64 a,.int .i64 b,.ptr 0 0 0,AV.fn (Fn.func 29) [] []] 1 [[AV.int .i64 s]]) λq=>kTup q.1 λcs=>ql cs λc_1 cs=>kInt .i64 c_1 λn=>ql cs λc_2 cs=>kInt .i64 c_2 λn_1=>kNil cs (kOpt (EVd (EV cfg) 147 [.sl rows,.int .i64 n_1,.int .i64 c,.ptr 0 0 0,AV.fn (Fn.func 29) [] []] 1 q.2) λq=>kTup q.1 λcs=>ql cs λc cs=>kInt .i64 c λn_2=>ql cs λc cs=>kInt .i64 c λn_3=>kNil cs (kOpt (EVd (EV cfg) 147 [.sl rows,.int .i64 n,.int .i64 n_2,.ptr 0 0 0,AV.fn (Fn.func 29) [] []] 1 q.2) λq=>kTup q.1 λcs=>ql cs λc cs=>kInt .i64 c λn=>ql cs λc cs=>kInt .i64 c λn=>kNil cs (some (.int .i64 n,q.2))))) P):Gets (EVd (EV cfg) 126 [.sl rows,.int .i64 a,.int .i64 b,.int .i64 c,.ptr 0 0 0,.fn (Fn.func 29) [] []] 1 [[AV.int .i64 s]]) P:=
  gE (λ_=>funD rfl rfl Tryz.func126 rfl) (by kernel_rfl) h
theorem qww(rows:Rz)(a s:Int){P:AV×List (List AV)->Prop}(h:Gets (kOpt (EVd (EV cfg) 126 [.sl rows,.int .i64 (qFD .i64 (a - 1)),.int .i64 a,.int .i64 (qFD .i64 (a+1)),.ptr 0 0 0,AV.fn (Fn.func 29) [] []] 1 [[AV.int .i64 s]]) λq=>kInt .i64 q.1 λn=>some (.int .i64 n,q.2)) P):Gets (EVd (EV cfg) 125 [.sl rows,.int .i64 a,.ptr 0 0 0,.fn (Fn.func 29) [] []] 1 [[AV.int .i64 s]]) P:=
  gE (λ_=>funD rfl rfl Tryz.func125 rfl) (by kernel_rfl) h
theorem qws(n:Int){P:AV->Prop}(h:Gets (kOpt (EVs (EV cfg) 62 [AV.int .u64 (qFD .u64 n)]) λv=>kInt .i64 v λn=>kOpt (qJ (Op.shift BinOp.shl .u64 1 .i64 n)) λv=>kInt .u64 v λn=>some (.int .u64 n)) P):Gets (EVs (EV cfg) 123 [.int .i64 n]) P:=
  gE (λ_=>funS rfl rfl Tryz.func123 rfl) (by kernel_rfl) h
abbrev zA10(nn:Nat)(h0:Rz)(v11 n_4 n_5:Int)(s:Bz)(rows:Rz)(a n_3 b n:Int)(q:AV×List (List AV)):Option (MV×List (List AV)):=(rd4 nn h0 v11 λn_6 n_7 s_1 rows_1=>(ck4 4 nn h0 v11 λrow=>ck4 4 nn (st4 h0 v11 n_4 n_5 s rows row) (qFD .i64 (a+qFD .i64 (qFD .i64 n_3 - qFD .i64 (b - a)))) λrow_1=>qbD nn a b n (qFD .i64 (v11+1)) (st4 (st4 h0 v11 n_4 n_5 s rows row) (qFD .i64 (a+qFD .i64 (qFD .i64 n_3 - qFD .i64 (b - a)))) n_6 n_7 s_1 rows_1 row_1) q.2))
abbrev zA9(nn:Nat)(h0:Rz)(a n_3 b v11 n:Int)(q:AV×List (List AV)):Option (MV×List (List AV)):=rd4 nn h0 (qFD .i64 (a+qFD .i64 (qFD .i64 n_3 - qFD .i64 (b - a)))) λn_4 n_5 s rows=>zA10 nn h0 v11 n_4 n_5 s rows a n_3 b n q
abbrev zA11(nn:Nat)(h0:Rz)(a n_3 v11 b n:Int)(q:AV×List (List AV)):Option (MV×List (List AV)):=rd4 nn h0 (qFD .i64 (a+qFD .i64 n_3)) λn_4 n_5 s rows=>(rd4 nn h0 v11 λn_6 n_7 s_1 rows_1=>(ck4 4 nn h0 v11 λrow=>ck4 4 nn (st4 h0 v11 n_4 n_5 s rows row) (qFD .i64 (a+qFD .i64 n_3)) λrow_1=>qbD nn a b n (qFD .i64 (v11+1)) (st4 (st4 h0 v11 n_4 n_5 s rows row) (qFD .i64 (a+qFD .i64 n_3)) n_6 n_7 s_1 rows_1 row_1) q.2))
abbrev zA8(n_3 b a:Int)(nn:Nat)(h0:Rz)(v11 n:Int)(q:AV×List (List AV)):Option (MV×List (List AV)):=bif decide (qFD .i64 n_3≥qFD .i64 (b - a))then zA9 nn h0 a n_3 b v11 n q else zA11 nn h0 a n_3 v11 b n q
abbrev zA7(v:AV)(b a:Int)(nn:Nat)(h0:Rz)(v11 n:Int)(q:AV×List (List AV)):Option (MV×List (List AV)):=kInt .u64 v λn_3=>zA8 n_3 b a nn h0 v11 n q
abbrev zA6(n_2 n b a:Int)(nn:Nat)(h0:Rz)(v11:Int)(q:AV×List (List AV)):Option (MV×List (List AV)):=kOpt (qJ (Op.intBits BinOp.and .u64 n_2 (qFD .u64 (n - 1)))) λv=>zA7 v b a nn h0 v11 n q
abbrev zA5(q:AV×List (List AV))(n b a:Int)(nn:Nat)(h0:Rz)(v11:Int):Option (MV×List (List AV)):=kInt .u64 q.1 λn_2=>zA6 n_2 n b a nn h0 v11 q
theorem qpm(nn:Nat)(a b n v11:Int)(h0:Rz)(c1_0:Int){P:MV×List (List AV)->Prop}(h:Gets (kOpt (qJ (Op.intDiv BinOp.quo .i64 (qFD .i64 (b - a)) 4)) λv=>kInt .i64 v λn_1=>bif decide (v11<=qFD .i64 (qFD .i64 (a+qFD .i64 (n_1*2))+1))then kOpt (EVd (EV cfg) 124 [.ptr 0 0 0] 1 [[AV.int .u64 c1_0]]) λq=>zA5 q n b a nn h0 v11 else some (MV.unit,h0)) P):Gets (qmY nn a b n v11 h0 c1_0) P:=
  gE (λ_=>qg (cfg:=cfg) (f:=90) (rd:=none) (bs:=1)) (by kernel_rfl) h
theorem qga(nn:Nat)(a b n v11:Int)(h0 h1:Rz){P:MV×List (List AV)->Prop}(h:Gets (kOpt (qJ (Op.intDiv BinOp.quo .i64 (qFD .i64 (b - a)) 4)) λv=>kInt .i64 v λn_1=>bif decide (v11<=qFD .i64 (qFD .i64 (a+qFD .i64 (n_1*2))+1))then kOpt (EVd (EV cfg) 124 [.ptr 0 0 0] 1 h1) λq=>zA5 q n b a nn h0 v11 else some (MV.unit,h0)) P):Gets (qbD nn a b n v11 h0 h1) P:=
  gE (λ_=>qg (cfg:=cfg) (f:=90) (rd:=none) (bs:=1)) (by kernel_rfl) h
end Go.Proofs.YtgleolmhpmljhaaGreat
end
noncomputable section
namespace Go.Av
theorem rdB{n i:Nat}(h:i<n):(qj 0 (i:Int)&&qA (i:Int) (n:Int))=true:=by rw[qv,qD,qGo h];rfl
def qE(X:List (List AV))(l:List Tm):List (List AV):=qa l++X
theorem qnX{X:List (List AV)}{l:List Tm}{i:Nat}{x:Tm}(hx:l[i]? =some x):(qE X l)[i]? =some x.cells:=by
 have hi:=(qFF.1 hx).1;unfold qE;rw[qFX (by rw[qb];exact hi),xy,hx];rfl
theorem qhj{X:List (List AV)}{l:List Tm}{i:Nat}(hi:i<l.length)(y:Tm):(qE X l).set i y.cells=qE X (l.set i y):=by
 unfold qE;rw[List.set_append_left _ _ (by rw[qb];exact hi),qhk]
theorem rdG{X:List (List AV)}{l:List Tm}{i:Nat}{x:Tm}(hx:l[i]? =some x):qFG (qE X l) (0+qFQ (i:Int))=some x.cells:=by
 rw[qGi,qu,qFT,qnX hx]
theorem sw4{X:List (List AV)}{l:List Tm}{i j:Nat}{x y:Tm}(hx:l[i]? =some x)(_hy:l[j]? =some y):List.set (qE X l) (0+qFQ (i:Int)) [.int .i64 y.kind,.int .i64 y.num,.str y.str,.sl (qa y.subs)]=qE X (l.set i y):=by
 rw[qGi,qFT,←Tm.cells_eq,qhj (qFF.1 hx).1]
theorem sw5{X:List (List AV)}{l:List Tm}{i j:Nat}{x y:Tm}(_hx:l[i]? =some x)(hy:l[j]? =some y):List.set (qE X (l.set i y)) (0+qFQ (j:Int)) [.int .i64 x.kind,.int .i64 x.num,.str x.str,.sl (qa x.subs)]=qE X ((l.set i y).set j x):=by
 rw[qGi,qFT,←Tm.cells_eq,qhj (by rw[List.length_set];exact(qFF.1 hy).1)]
theorem sw2{X:List (List AV)}{l:List Tm}{i j:Nat}{x y:Tm}(hx:l[i]? =some x)(hy:l[j]? =some y):qFG (qE X (l.set i y)) (0+qFQ (j:Int))=some y.cells:=by
 refine rdG ?_;have hi:=(qFF.1 hx).1
 by_cases h:i=j
 ·subst h;rw[List.getElem?_set_self hi]
 ·rw[List.getElem?_set_ne h,hy]
theorem sw3{l:List Tm}{i j:Nat}{x y:Tm}(hx:l[i]? =some x)(hy:l[j]? =some y):(l.set i y).set j x=vI l i j:=(qpr hx hy).symm
theorem qM{l:List Tm}{i:Nat}(h:i<l.length):∃x,l[i]? =some x:=⟨l[i],qFE h⟩
def q8(l:List Tm):Prop:=∀x∈l,x.Ok
theorem q8.perm{l l':List Tm}(h:q8 l)(p:l'.Perm l):q8 l':=λx hx=>h x (p.mem_iff.1 hx)
theorem q8.at{l:List Tm}(h:q8 l){i:Nat}{x:Tm}(hx:l[i]? =some x):x.Ok:=h x (qFK hx)
theorem wr1{n:Nat}(h:n<4398046511104):qFD .i64 ((n:Int)+1)=((n+1:Nat):Int):=by rw[qo (by omega) (by omega)];omega
theorem wr0{n:Nat}(h:n<4398046511104):qFD .i64 (((n+1:Nat):Int) - 1)=(n:Int):=by rw[qo (by omega) (by omega)];omega
end Go.Av
namespace Go.Proofs.YtgleolmhpmljhaaGreat
open Go.Av
variable {X : List (List AV)}
abbrev cmpF:AV:=.fn (Fn.func 29) [] []
end Go.Proofs.YtgleolmhpmljhaaGreat
end
noncomputable section
namespace Go.Av
theorem qma(m k:Nat):((m:Int)).tdiv (k:Int)=((m / k:Nat):Int):=rfl
end Go.Av
namespace Go.Proofs.YtgleolmhpmljhaaGreat
open Go.Av
variable {X : List (List AV)}
theorem qzg(n:Int){P:AV->Prop}(h:Gets (kOpt (EVs (EV cfg) 97 [AV.int .u64 n]) λv=>kInt .i64 v λn=>some (.int .i64 n)) P):Gets (EVs (EV cfg) 62 [.int .u64 n]) P:=
  gE (λ_=>funS rfl rfl Tryz.func62 rfl) (by kernel_rfl) h
theorem qvo(n:Int){P:AV->Prop}(h:Gets (bif decide (n≥4294967296)then kOpt (qJ (Op.shift BinOp.shr .u64 n .u64 32)) λv=>kInt .u64 v λn=>bif decide (n≥65536)then kOpt (qJ (Op.shift BinOp.shr .u64 n .u64 16)) λv=>kInt .u64 v λn=>bif decide (n≥256)then kOpt (qJ (Op.shift BinOp.shr .u64 n .u64 8)) λv=>kInt .u64 v λn=>bif qj 0 (qFD .u8 n)then kOpt (qFG [(0:UInt8),1,2,2,3,3,3,3,4,4,4,4,4,4,4,4,5,5,5,5,5,5,5,5,5,5,5,5,5,5,5,5,6,6,6,6,6,6,6,6,6,6,6,6,6,6,6,6,6,6,6,6,6,6,6,6,6,6,6,6,6,6,6,6,7,7,7,7,7,7,7,7,7,7,7,7,7,7,7,7,7,7,7,7,7,7,7,7,7,7,7,7,7,7,7,7,7,7,7,7,7,7,7,7,7,7,7,7,7,7,7,7,7,7,7,7,7,7,7,7,7,7,7,7,7,7,7,7,8,8,8,8,8,8,8,8,8,8,8,8,8,8,8,8,8,8,8,8,8,8,8,8,8,8,8,8,8,8,8,8,8,8,8,8,8,8,8,8,8,8,8,8,8,8,8,8,8,8,8,8,8,8,8,8,8,8,8,8,8,8,8,8,8,8,8,8,8,8,8,8,8,8,8,8,8,8,8,8,8,8,8,8,8,8,8,8,8,8,8,8,8,8,8,8,8,8,8,8,8,8,8,8,8,8,8,8,8,8,8,8,8,8,8,8,8,8,8,8,8,8,8,8,8,8,8,8] (qFQ (qFD .u8 n))) λb=>some (.int .i64 (qFD .i64 (56+qFD .i64 (↑ (UInt8.toNat b):Int))))else none else bif qj 0 (qFD .u8 n)then kOpt (qFG [(0:UInt8),1,2,2,3,3,3,3,4,4,4,4,4,4,4,4,5,5,5,5,5,5,5,5,5,5,5,5,5,5,5,5,6,6,6,6,6,6,6,6,6,6,6,6,6,6,6,6,6,6,6,6,6,6,6,6,6,6,6,6,6,6,6,6,7,7,7,7,7,7,7,7,7,7,7,7,7,7,7,7,7,7,7,7,7,7,7,7,7,7,7,7,7,7,7,7,7,7,7,7,7,7,7,7,7,7,7,7,7,7,7,7,7,7,7,7,7,7,7,7,7,7,7,7,7,7,7,7,8,8,8,8,8,8,8,8,8,8,8,8,8,8,8,8,8,8,8,8,8,8,8,8,8,8,8,8,8,8,8,8,8,8,8,8,8,8,8,8,8,8,8,8,8,8,8,8,8,8,8,8,8,8,8,8,8,8,8,8,8,8,8,8,8,8,8,8,8,8,8,8,8,8,8,8,8,8,8,8,8,8,8,8,8,8,8,8,8,8,8,8,8,8,8,8,8,8,8,8,8,8,8,8,8,8,8,8,8,8,8,8,8,8,8,8,8,8,8,8,8,8,8,8,8,8,8,8] (qFQ (qFD .u8 n))) λb=>some (.int .i64 (qFD .i64 (48+qFD .i64 (↑ (UInt8.toNat b):Int))))else none else bif decide (n≥256)then kOpt (qJ (Op.shift BinOp.shr .u64 n .u64 8)) λv=>kInt .u64 v λn=>bif qj 0 (qFD .u8 n)then kOpt (qFG [(0:UInt8),1,2,2,3,3,3,3,4,4,4,4,4,4,4,4,5,5,5,5,5,5,5,5,5,5,5,5,5,5,5,5,6,6,6,6,6,6,6,6,6,6,6,6,6,6,6,6,6,6,6,6,6,6,6,6,6,6,6,6,6,6,6,6,7,7,7,7,7,7,7,7,7,7,7,7,7,7,7,7,7,7,7,7,7,7,7,7,7,7,7,7,7,7,7,7,7,7,7,7,7,7,7,7,7,7,7,7,7,7,7,7,7,7,7,7,7,7,7,7,7,7,7,7,7,7,7,7,8,8,8,8,8,8,8,8,8,8,8,8,8,8,8,8,8,8,8,8,8,8,8,8,8,8,8,8,8,8,8,8,8,8,8,8,8,8,8,8,8,8,8,8,8,8,8,8,8,8,8,8,8,8,8,8,8,8,8,8,8,8,8,8,8,8,8,8,8,8,8,8,8,8,8,8,8,8,8,8,8,8,8,8,8,8,8,8,8,8,8,8,8,8,8,8,8,8,8,8,8,8,8,8,8,8,8,8,8,8,8,8,8,8,8,8,8,8,8,8,8,8,8,8,8,8,8,8] (qFQ (qFD .u8 n))) λb=>some (.int .i64 (qFD .i64 (40+qFD .i64 (↑ (UInt8.toNat b):Int))))else none else bif qj 0 (qFD .u8 n)then kOpt (qFG [(0:UInt8),1,2,2,3,3,3,3,4,4,4,4,4,4,4,4,5,5,5,5,5,5,5,5,5,5,5,5,5,5,5,5,6,6,6,6,6,6,6,6,6,6,6,6,6,6,6,6,6,6,6,6,6,6,6,6,6,6,6,6,6,6,6,6,7,7,7,7,7,7,7,7,7,7,7,7,7,7,7,7,7,7,7,7,7,7,7,7,7,7,7,7,7,7,7,7,7,7,7,7,7,7,7,7,7,7,7,7,7,7,7,7,7,7,7,7,7,7,7,7,7,7,7,7,7,7,7,7,8,8,8,8,8,8,8,8,8,8,8,8,8,8,8,8,8,8,8,8,8,8,8,8,8,8,8,8,8,8,8,8,8,8,8,8,8,8,8,8,8,8,8,8,8,8,8,8,8,8,8,8,8,8,8,8,8,8,8,8,8,8,8,8,8,8,8,8,8,8,8,8,8,8,8,8,8,8,8,8,8,8,8,8,8,8,8,8,8,8,8,8,8,8,8,8,8,8,8,8,8,8,8,8,8,8,8,8,8,8,8,8,8,8,8,8,8,8,8,8,8,8,8,8,8,8,8,8] (qFQ (qFD .u8 n))) λb=>some (.int .i64 (qFD .i64 (32+qFD .i64 (↑ (UInt8.toNat b):Int))))else none else bif decide (n≥65536)then kOpt (qJ (Op.shift BinOp.shr .u64 n .u64 16)) λv=>kInt .u64 v λn=>bif decide (n≥256)then kOpt (qJ (Op.shift BinOp.shr .u64 n .u64 8)) λv=>kInt .u64 v λn=>bif qj 0 (qFD .u8 n)then kOpt (qFG [(0:UInt8),1,2,2,3,3,3,3,4,4,4,4,4,4,4,4,5,5,5,5,5,5,5,5,5,5,5,5,5,5,5,5,6,6,6,6,6,6,6,6,6,6,6,6,6,6,6,6,6,6,6,6,6,6,6,6,6,6,6,6,6,6,6,6,7,7,7,7,7,7,7,7,7,7,7,7,7,7,7,7,7,7,7,7,7,7,7,7,7,7,7,7,7,7,7,7,7,7,7,7,7,7,7,7,7,7,7,7,7,7,7,7,7,7,7,7,7,7,7,7,7,7,7,7,7,7,7,7,8,8,8,8,8,8,8,8,8,8,8,8,8,8,8,8,8,8,8,8,8,8,8,8,8,8,8,8,8,8,8,8,8,8,8,8,8,8,8,8,8,8,8,8,8,8,8,8,8,8,8,8,8,8,8,8,8,8,8,8,8,8,8,8,8,8,8,8,8,8,8,8,8,8,8,8,8,8,8,8,8,8,8,8,8,8,8,8,8,8,8,8,8,8,8,8,8,8,8,8,8,8,8,8,8,8,8,8,8,8,8,8,8,8,8,8,8,8,8,8,8,8,8,8,8,8,8,8] (qFQ (qFD .u8 n))) λb=>some (.int .i64 (qFD .i64 (24+qFD .i64 (↑ (UInt8.toNat b):Int))))else none else bif qj 0 (qFD .u8 n)then kOpt (qFG [(0:UInt8),1,2,2,3,3,3,3,4,4,4,4,4,4,4,4,5,5,5,5,5,5,5,5,5,5,5,5,5,5,5,5,6,6,6,6,6,6,6,6,6,6,6,6,6,6,6,6,6,6,6,6,6,6,6,6,6,6,6,6,6,6,6,6,7,7,7,7,7,7,7,7,7,7,7,7,7,7,7,7,7,7,7,7,7,7,7,7,7,7,7,7,7,7,7,7,7,7,7,7,7,7,7,7,7,7,7,7,7,7,7,7,7,7,7,7,7,7,7,7,7,7,7,7,7,7,7,7,8,8,8,8,8,8,8,8,8,8,8,8,8,8,8,8,8,8,8,8,8,8,8,8,8,8,8,8,8,8,8,8,8,8,8,8,8,8,8,8,8,8,8,8,8,8,8,8,8,8,8,8,8,8,8,8,8,8,8,8,8,8,8,8,8,8,8,8,8,8,8,8,8,8,8,8,8,8,8,8,8,8,8,8,8,8,8,8,8,8,8,8,8,8,8,8,8,8,8,8,8,8,8,8,8,8,8,8,8,8,8,8,8,8,8,8,8,8,8,8,8,8,8,8,8,8,8,8] (qFQ (qFD .u8 n))) λb=>some (.int .i64 (qFD .i64 (16+qFD .i64 (↑ (UInt8.toNat b):Int))))else none else bif decide (n≥256)then kOpt (qJ (Op.shift BinOp.shr .u64 n .u64 8)) λv=>kInt .u64 v λn=>bif qj 0 (qFD .u8 n)then kOpt (qFG [(0:UInt8),1,2,2,3,3,3,3,4,4,4,4,4,4,4,4,5,5,5,5,5,5,5,5,5,5,5,5,5,5,5,5,6,6,6,6,6,6,6,6,6,6,6,6,6,6,6,6,6,6,6,6,6,6,6,6,6,6,6,6,6,6,6,6,7,7,7,7,7,7,7,7,7,7,7,7,7,7,7,7,7,7,7,7,7,7,7,7,7,7,7,7,7,7,7,7,7,7,7,7,7,7,7,7,7,7,7,7,7,7,7,7,7,7,7,7,7,7,7,7,7,7,7,7,7,7,7,7,8,8,8,8,8,8,8,8,8,8,8,8,8,8,8,8,8,8,8,8,8,8,8,8,8,8,8,8,8,8,8,8,8,8,8,8,8,8,8,8,8,8,8,8,8,8,8,8,8,8,8,8,8,8,8,8,8,8,8,8,8,8,8,8,8,8,8,8,8,8,8,8,8,8,8,8,8,8,8,8,8,8,8,8,8,8,8,8,8,8,8,8,8,8,8,8,8,8,8,8,8,8,8,8,8,8,8,8,8,8,8,8,8,8,8,8,8,8,8,8,8,8,8,8,8,8,8,8] (qFQ (qFD .u8 n))) λb=>some (.int .i64 (qFD .i64 (8+qFD .i64 (↑ (UInt8.toNat b):Int))))else none else bif qj 0 (qFD .u8 n)then kOpt (qFG [(0:UInt8),1,2,2,3,3,3,3,4,4,4,4,4,4,4,4,5,5,5,5,5,5,5,5,5,5,5,5,5,5,5,5,6,6,6,6,6,6,6,6,6,6,6,6,6,6,6,6,6,6,6,6,6,6,6,6,6,6,6,6,6,6,6,6,7,7,7,7,7,7,7,7,7,7,7,7,7,7,7,7,7,7,7,7,7,7,7,7,7,7,7,7,7,7,7,7,7,7,7,7,7,7,7,7,7,7,7,7,7,7,7,7,7,7,7,7,7,7,7,7,7,7,7,7,7,7,7,7,8,8,8,8,8,8,8,8,8,8,8,8,8,8,8,8,8,8,8,8,8,8,8,8,8,8,8,8,8,8,8,8,8,8,8,8,8,8,8,8,8,8,8,8,8,8,8,8,8,8,8,8,8,8,8,8,8,8,8,8,8,8,8,8,8,8,8,8,8,8,8,8,8,8,8,8,8,8,8,8,8,8,8,8,8,8,8,8,8,8,8,8,8,8,8,8,8,8,8,8,8,8,8,8,8,8,8,8,8,8,8,8,8,8,8,8,8,8,8,8,8,8,8,8,8,8,8,8] (qFQ (qFD .u8 n))) λb=>some (.int .i64 (qFD .i64 (0+qFD .i64 (↑ (UInt8.toNat b):Int))))else none) P):Gets (EVs (EV cfg) 97 [.int .u64 n]) P:=
  gE (λ_=>funS rfl rfl Tryz.func97 rfl) (by kernel_rfl) h
theorem qtq(s:Int){P:AV×List (List AV)->Prop}(h:Gets (kOpt (qJ (Op.shift BinOp.shl .u64 s .u64 13)) λv=>kInt .u64 v λn=>kOpt (qJ (Op.intBits BinOp.xor .u64 s n)) λv=>kInt .u64 v λn=>kOpt (qJ (Op.shift BinOp.shr .u64 n .u64 7)) λv=>kInt .u64 v λn_1=>kOpt (qJ (Op.intBits BinOp.xor .u64 n n_1)) λv=>kInt .u64 v λn=>kOpt (qJ (Op.shift BinOp.shl .u64 n .u64 17)) λv=>kInt .u64 v λn_2=>kOpt (qJ (Op.intBits BinOp.xor .u64 n n_2)) λv=>kInt .u64 v λn=>some (.int .u64 n,[[AV.int .u64 n]])) P):Gets (EVd (EV cfg) 124 [.ptr 0 0 0] 1 [[AV.int .u64 s]]) P:=
  gE (λ_=>funD rfl rfl Tryz.func124 rfl) (by kernel_rfl) h
end Go.Proofs.YtgleolmhpmljhaaGreat
end
