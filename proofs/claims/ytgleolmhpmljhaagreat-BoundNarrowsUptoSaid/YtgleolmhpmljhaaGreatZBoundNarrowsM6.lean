/-
  Parts of the proof of BoundNarrowsUptoSaid, put together: the abstract evaluation and its contracts. Own work.
  What is proved: each lemma as it stands; no condition.
-/
import Derived.Test.YtgleolmhpmljhaaGreatZBoundNarrowsM5
open Go.IntKind renaming wrap → qBZ
open List renaming get?Internal → qB0, length → qB1, getElem?_eq_getElem → qB3, getElem?_eq_some_iff → qB5, take → qB8, mem_of_getElem? → qCc, take_of_length_le → qCd, getElem?_append_left → qCf, drop → qCk, getElem?_set → qCn, getElem?_append_right → qCo, drop_eq_getElem_cons → qCp, length_append → qCq, replicate → qCr, drop_eq_nil_of_le → qCs, append → qCu, mem_append → qCy, set → qCA, mem_cons → qCB, getElem?_cons_zero → qCC, length_take → qCD, length_cons → qCE, length_map → qCH, range → qCJ
open Bool renaming and_eq_true → qB2, false_eq_true → qCg, not_true → qCj, not_false → qCm, and_self → qCx, true_and → qCF, or_eq_true → qCI
open Nat renaming ble → qB4, eq_of_beq_eq_true → qB9, le_refl → qCa, beq → qCh, mul_le_mul_right → qCv, beq_refl → qCw, ble_eq → qCz, zero_add → qCG
open Option renaming bind_eq_some_iff → qB6, map_eq_some_iff → qCb, bind_some → qCe, map_some → qCt
open Int renaming toNat → qB7, toNat_natCast → qCi
open Array renaming toList → qCl
set_option maxRecDepth 1000000
set_option maxHeartbeats 0
noncomputable section
namespace Go.Proofs.YtgleolmhpmljhaaGreat
open Go.Av
variable {X : List (List AV)}
theorem qrm{n:Nat}(hn:n<16777216):Gets (EVs (EV cfg) 62 [.int .u64 (n:Int)]) (LenP n):=by
 refine qwW _ ?_;refine Gets.bind (qvg hn) ?_;rintro _ ⟨L,h1,h2,rfl⟩;simp only[qi];exact⟨_,rfl,L,h1,h2,rfl⟩
theorem qwk{n:Nat}(hn:n<16777216)(h1:1<=n):Gets (EVs (EV cfg) 123 [.int .i64 (n:Int)]) λv=>∃M:Nat,1<=M∧M<=2*n∧v= .int .u64 (M:Int):=by
 refine qui _ ?_;rw[qas (show n<18446744073709551616 by omega)];refine Gets.bind (qrm hn) ?_;rintro _ ⟨L,h2,h3,rfl⟩;obtain⟨h4,h5⟩:=h3 h1;simp only[qi];rw[qd4 (by omega)];refine⟨_,rfl,2 ^ L,Nat.pow_pos (by decide),?_,rfl⟩;have:2 ^ L=2*2 ^ (L - 1):=by rw[←Nat.pow_succ'];congr 1;omega
 omega
theorem qz7{n a b M:Nat}(hn:n<16777216)(hb:b<=n)(hab:a+8<=b)(hM:1<=M)(hM2:M<=2*(b - a)):∀(d v:Nat) (l:List Tm) (c:Nat),a+(b - a) / 4*2+2<=v+d->a<=v->c<18446744073709551616->l.length=n->qX l ->
  Gets (qaB n a b (M:Int) (v:Int) (qB X l) [[.int .u64 (c:Int)]]) (xf X l):=by
 have w1:qBZ .i64 ((b:Int) - (a:Int))=((b - a:Nat):Int):=by rw[qt (by omega) (by omega)];omega
 have w2:qBZ .i64 ((((b - a:Nat):Int)).tdiv 4)=(((b - a) / 4:Nat):Int):=by
  rw[show((4:Int))=((4:Nat):Int)from rfl,qkx,qt (by omega) (by omega)]
 have w3:qBZ .i64 (qBZ .i64 ((a:Int)+qBZ .i64 ((((b - a) / 4:Nat):Int)*2))+1)=((a+(b - a) / 4*2+1:Nat):Int):=by
  rw[qt (x:=_*2) (by omega) (by omega),qt (x:=_+_*2) (by omega) (by omega),qt (by omega) (by omega)];omega
 have w4:qBZ .u64 ((M:Int) - 1)=((M - 1:Nat):Int):=by
  rw[show((M:Int) - 1)=((M - 1:Nat):Int) by omega,qas (by omega)]
 intro d
 induction d with
 |zero=>
  intro v l c hd hv hc hl hok;refine qfo _ _ _ _ _ _ _ ?_;unfold zw5 zw6 zw7 zw8 zw9;rw[w1,yN (by decide),w2];simp only[qb,qi,w3];rw[qCL (by omega)];exact⟨_,rfl,l,List.Perm.refl _,rfl⟩
 |succ d ih=>
  intro v l c hd hv hc hl hok;refine qfo _ _ _ _ _ _ _ ?_;unfold zw5 zw6 zw7 zw8 zw9;rw[w1,yN (by decide),w2];simp only[qb,qi,w3]
  by_cases hvb:v<=a+(b - a) / 4*2+1
  case neg=>
   rw[qCL (by omega)];exact⟨_,rfl,l,List.Perm.refl _,rfl⟩
  rw[qCK (show(v:Int)<=((a+(b - a) / 4*2+1:Nat):Int) by omega),cond_true];refine Gets.bind (qmi hc) ?_;rintro _ ⟨r,hr,rfl⟩;simp only[qi,w4];rw[qxM hr (show M - 1<18446744073709551616 by omega)];have ho:r &&& (M - 1)<=M - 1:=Nat.and_le_right;generalize r &&& (M - 1)=o at *;have w5:qBZ .i64 (o:Int)=(o:Int):=by rw[qt (by omega) (by omega)]
  have w6:qBZ .i64 ((o:Int) - ((b - a:Nat):Int))=(o:Int) - ((b - a:Nat):Int):=by rw[qt (by omega) (by omega)]
  have w7:qBZ .i64 ((a:Int)+(o:Int))=((a+o:Nat):Int):=by rw[qt (by omega) (by omega)];omega
  simp only[qb,qi,w5,w6,w7,wr1 (show v<4398046511104 by omega)];obtain⟨x,hx⟩:=qK (l:=l) (i:=v) (by omega);have go:∀q:Nat,q<n->Gets (qaB n a b (M:Int) ((v+1:Nat):Int) (qB X (yX l v q)) [[.int .u64 (r:Int)]]) (xf X l):=λq hq=>
   (ih (v+1) _ r (by omega) (by omega) hr (by rw[vF];exact hl) (hok.perm (qH _ _ _))).mono λr hr=>hr.trans (qH _ _ _)
  by_cases hob:b - a<=o
  ·have w8:qBZ .i64 ((a:Int)+((o:Int) - ((b - a:Nat):Int)))=((a+(o - (b - a)):Nat):Int):=by rw[qt (by omega) (by omega)];omega
   obtain⟨y,hy⟩:=qK (l:=l) (i:=a+(o - (b - a))) (by omega);rw[qCK (show(o:Int)≥((b - a:Nat):Int) by omega),w8];simp -implicitDefEqProofs only[cond_true,cond_false,qCj,qCm,qb,qj,show qB4 4 4=true from rfl,show qCh 4 4=true from rfl,qm,qk,qF,qq,qi,rdB (show v<n by omega),rdB (show a+(o - (b - a))<n by omega),rdG hx,rdG hy,sw2 hx hy,sw4 hx hy,sw5 hx hy,sw3 hx hy]
   exact go _ (by omega)
  ·obtain⟨y,hy⟩:=qK (l:=l) (i:=a+o) (by omega);rw[qCL (show ¬(o:Int)≥((b - a:Nat):Int) by omega)];simp -implicitDefEqProofs only[cond_true,cond_false,qCj,qCm,qb,qj,show qB4 4 4=true from rfl,show qCh 4 4=true from rfl,qm,qk,qF,qq,qi,rdB (show v<n by omega),rdB (show a+o<n by omega),rdG hx,rdG hy,sw2 hx hy,sw4 hx hy,sw5 hx hy,sw3 hx hy]
   exact go _ (by omega)
theorem qz8{n a b M:Nat}(hn:n<16777216)(hb:b<=n)(hab:a+8<=b)(hM:1<=M)(hM2:M<=2*(b - a))(v:Nat)(l:List Tm)(c:Nat)(hv:a<=v)(hc:c<18446744073709551616)(hl:l.length=n)(hok:qX l):
  Gets (qli n a b (M:Int) (v:Int) (qB X l) (c:Int)) (xf X l):=by
 have w1:qBZ .i64 ((b:Int) - (a:Int))=((b - a:Nat):Int):=by rw[qt (by omega) (by omega)];omega
 have w2:qBZ .i64 ((((b - a:Nat):Int)).tdiv 4)=(((b - a) / 4:Nat):Int):=by
  rw[show((4:Int))=((4:Nat):Int)from rfl,qkx,qt (by omega) (by omega)]
 have w3:qBZ .i64 (qBZ .i64 ((a:Int)+qBZ .i64 ((((b - a) / 4:Nat):Int)*2))+1)=((a+(b - a) / 4*2+1:Nat):Int):=by
  rw[qt (x:=_*2) (by omega) (by omega),qt (x:=_+_*2) (by omega) (by omega),qt (by omega) (by omega)];omega
 have w4:qBZ .u64 ((M:Int) - 1)=((M - 1:Nat):Int):=by
  rw[show((M:Int) - 1)=((M - 1:Nat):Int) by omega,qas (by omega)]
 refine qnS _ _ _ _ _ _ _ ?_;unfold zw5 zw6 zw7 zw8 zw9;rw[w1,yN (by decide),w2];simp only[qb,qi,w3]
 by_cases hvb:v<=a+(b - a) / 4*2+1
 case neg=>
  rw[qCL (by omega)];exact⟨_,rfl,l,List.Perm.refl _,rfl⟩
 rw[qCK (show(v:Int)<=((a+(b - a) / 4*2+1:Nat):Int) by omega),cond_true];refine Gets.bind (qmi hc) ?_;rintro _ ⟨r,hr,rfl⟩;simp only[qi,w4];rw[qxM hr (show M - 1<18446744073709551616 by omega)];have ho:r &&& (M - 1)<=M - 1:=Nat.and_le_right;generalize r &&& (M - 1)=o at *;have w5:qBZ .i64 (o:Int)=(o:Int):=by rw[qt (by omega) (by omega)]
 have w6:qBZ .i64 ((o:Int) - ((b - a:Nat):Int))=(o:Int) - ((b - a:Nat):Int):=by rw[qt (by omega) (by omega)]
 have w7:qBZ .i64 ((a:Int)+(o:Int))=((a+o:Nat):Int):=by rw[qt (by omega) (by omega)];omega
 simp only[qb,qi,w5,w6,w7,wr1 (show v<4398046511104 by omega)];obtain⟨x,hx⟩:=qK (l:=l) (i:=v) (by omega);have go:∀q:Nat,q<n->Gets (qaB n a b (M:Int) ((v+1:Nat):Int) (qB X (yX l v q)) [[.int .u64 (r:Int)]]) (xf X l):=λq hq=>
  (qz7 hn hb hab hM hM2 (a+(b - a) / 4*2+2) (v+1) _ r (by omega) (by omega) hr (by rw[vF];exact hl) (hok.perm (qH _ _ _))).mono λr hr=>hr.trans (qH _ _ _)
 by_cases hob:b - a<=o
 ·have w8:qBZ .i64 ((a:Int)+((o:Int) - ((b - a:Nat):Int)))=((a+(o - (b - a)):Nat):Int):=by rw[qt (by omega) (by omega)];omega
  obtain⟨y,hy⟩:=qK (l:=l) (i:=a+(o - (b - a))) (by omega);rw[qCK (show(o:Int)≥((b - a:Nat):Int) by omega),w8];simp -implicitDefEqProofs only[cond_true,cond_false,qCj,qCm,qb,qj,show qB4 4 4=true from rfl,show qCh 4 4=true from rfl,qm,qk,qF,qq,qi,rdB (show v<n by omega),rdB (show a+(o - (b - a))<n by omega),rdG hx,rdG hy,sw2 hx hy,sw4 hx hy,sw5 hx hy,sw3 hx hy]
  exact go _ (by omega)
 ·obtain⟨y,hy⟩:=qK (l:=l) (i:=a+o) (by omega);rw[qCL (show ¬(o:Int)≥((b - a:Nat):Int) by omega)];simp -implicitDefEqProofs only[cond_true,cond_false,qCj,qCm,qb,qj,show qB4 4 4=true from rfl,show qCh 4 4=true from rfl,qm,qk,qF,qq,qi,rdB (show v<n by omega),rdB (show a+o<n by omega),rdG hx,rdG hy,sw2 hx hy,sw4 hx hy,sw5 hx hy,sw3 hx hy]
  exact go _ (by omega)
theorem qyo{n a b:Nat}(hn:n<16777216)(hb:b<=n)(hab:a+8<=b){l:List Tm}(hl:l.length=n)(hok:qX l):
  Gets (EVm (EV cfg) 90 [.ms 0 0 n,.int .i64 (a:Int),.int .i64 (b:Int),cmpF] 4 (qB X l)) (xf X l):=by
 refine qwT _ _ _ _ ?_;have w1:qBZ .i64 ((b:Int) - (a:Int))=((b - a:Nat):Int):=by rw[qt (by omega) (by omega)];omega
 have w2:qBZ .i64 ((((b - a:Nat):Int)).tdiv 4)=(((b - a) / 4:Nat):Int):=by
  rw[show((4:Int))=((4:Nat):Int)from rfl,qkx,qt (by omega) (by omega)]
 have w3:qBZ .i64 (qBZ .i64 ((a:Int)+qBZ .i64 ((((b - a) / 4:Nat):Int)*2)) - 1)=((a+(b - a) / 4*2 - 1:Nat):Int):=by
  rw[qt (x:=_*2) (by omega) (by omega),qt (x:=_+_*2) (by omega) (by omega),qt (by omega) (by omega)];omega
 rw[w1,qCK (show((b - a:Nat):Int)≥8 by omega),cond_true];refine Gets.bind (qwk (n:=b - a) (by omega) (by omega)) ?_;rintro _ ⟨M,hM,hM2,rfl⟩;rw[yN (by decide),w2,qas (show b - a<18446744073709551616 by omega)];simp only[qb,qi,w3];exact qz8 hn hb hab hM hM2 _ l (b - a) (by omega) (by omega) hl hok
def qjY(nn:Nat)(v1 v2 v3:Int)(v10 v11:Bool)(h0:List (List AV))(n:Int):Option (MV×List (List AV)):=
 bif decide (v1>(0:Int))then bif qd (0:Int) (qBZ .i64 (v1 - (1:Int)))&&qe (qBZ .i64 (v1 - (1:Int))) (↑nn:Int)then kOpt (qB0 h0 
 (0+qB7 (qBZ .i64 (v1 - (1:Int))))) fun(row:List AV)=>bif qB4 4 (qB1 row)then kTmC (qB8 4 row) fun(n_2 n_3:Int) (s:List UInt8) (rows 
 :List (List AV))=>(bif qd (0:Int) n&&qe n (↑nn:Int)then kOpt (qB0 h0 (0+qB7 n)) fun(row:List AV)=>bif qB4 4 (qB1 row)then 
 kTmC (qB8 4 row) fun(n_4 n_5:Int) (s_1:List UInt8) (rows_1:List (List AV))=>(kOpt (EVs (EV cfg) 29 [.agg [AV.int .i64 n_2,.int .i64 n_3,.str 
 s,.sl rows],.agg [AV.int .i64 n_4,.int .i64 n_5,.str s_1,.sl rows_1]]) fun(v:AV)=>kInt .i64 v fun(n_6:Int)=>bif !decide (n_6<(0:Int))then kOpt (EVd (EV cfg) 
 94 [.ms 0 0 nn,.int .i64 v1,.int .i64 v2,.int .i64 n,AV.fn (Fn.func 29) [] []] 4 h0) fun(q:AV×List 
 (List AV))=>kInt .i64 q.1 fun(n:Int)=>qC nn n v2 v3 v10 v11 q.2 else kOpt (EVd (EV cfg) 95 [.ms 0 0 nn,.int .i64 v1,.int 
 .i64 v2,.int .i64 n,AV.fn (Fn.func 29) [] []] 4 h0) fun(q:AV×List (List AV))=>kTup q.1 fun(cs:List AV)=>qf cs fun(c:AV) (cs:List AV)=> 
 kInt .i64 c fun(n:Int)=>qf cs fun(c:AV) (cs:List AV)=>qr c fun(b:Bool)=>kNil cs (kOpt (qn (Op.intDiv BinOp.quo .i64 (qBZ .i64 (v2 - v1)) (8: 
 Int))) fun(v:AV)=>kInt .i64 v fun(n_7:Int)=>bif decide (qBZ .i64 (n - v1)<qBZ .i64 (v2 - n))then kOpt (EVm (EV cfg) 
 61 [.ms 0 0 nn,.int .i64 v1,.int .i64 n,.int .i64 v3,AV.fn (Fn.func 29) [] []] 4 q.2) fun(q:MV×List (List 
 AV))=>qx q.1 (qC nn (qBZ .i64 (n+(1:Int))) v2 v3 (decide (qBZ .i64 (n - v1)≥n_7)) b q.2)else kOpt (EVm (EV cfg) 
 61 [.ms 0 0 nn,.int .i64 (qBZ .i64 (n+(1:Int))),.int .i64 v2,.int .i64 v3,AV.fn (Fn.func 29) [] []] 
 4 q.2) fun(q:MV×List (List AV))=>qx q.1 (qC nn v1 n v3 (decide (qBZ .i64 (v2 - n)≥n_7)) b q.2)))else none else none)else none else none else kOpt (EVd 
 (EV cfg) 95 [.ms 0 0 nn,.int .i64 v1,.int .i64 v2,.int .i64 n,AV.fn (Fn.func 29) [] []] 4 h0) fun(q:AV× 
 List (List AV))=>kTup q.1 fun(cs:List AV)=>qf cs fun(c:AV) (cs:List AV)=>kInt .i64 c fun(n:Int)=>qf cs fun(c:AV) (cs:List AV)=>qr c fun(b: 
 Bool)=>kNil cs (kOpt (qn (Op.intDiv BinOp.quo .i64 (qBZ .i64 (v2 - v1)) (8:Int))) fun(v:AV)=>kInt .i64 v fun(n_2:Int)=>bif decide (qBZ .i64 (n 
 - v1)<qBZ .i64 (v2 - n))then kOpt (EVm (EV cfg) 61 [.ms 0 0 nn,.int .i64 v1,.int .i64 n,.int .i64 v3,AV.fn (Fn.func 
 29) [] []] 4 q.2) fun(q:MV×List (List AV))=>qx q.1 (qC nn (qBZ .i64 (n+(1:Int))) v2 v3 (decide (qBZ .i64 (n - v1)≥ 
 n_2)) b q.2)else kOpt (EVm (EV cfg) 61 [.ms 0 0 nn,.int .i64 (qBZ .i64 (n+(1:Int))),.int .i64 v2,.int .i64 v3,AV.fn 
 (Fn.func 29) [] []] 4 q.2) fun(q:MV×List (List AV))=>qx q.1 (qC nn v1 n v3 (decide (qBZ .i64 (v2 - n)≥n_2)) b q.2))
def qq4(nn:Nat)(v1 v2 v3:Int)(v10 v11:Bool)(h0:List (List AV)):Option (MV×List (List AV)):=
 bif qB4 (0+nn) (qB1 h0)&&true then kOpt (EVs (EV cfg) 91 [.sl (qB8 nn h0),.int .i64 v1,.int .i64 v2,AV.fn 
 (Fn.func 29) [] []]) fun(v:AV)=>kTup v fun(cs:List AV)=>qf cs fun(c:AV) (cs:List AV)=>kInt .i64 c fun(n:Int)=>qf cs fun(c:AV) 
 (cs:List AV)=>kInt .i64 c fun(n_1:Int)=>kNil cs (bif n_1==(2:Int)then kOpt (EVm (EV cfg) 92 [.ms 0 0 nn,.int .i64 v1, 
 .int .i64 v2,AV.fn (Fn.func 29) [] []] 4 h0) fun(q:MV×List (List AV))=>qx q.1 (bif v10 then bif v11 then kOpt (EVd (EV cfg) 
 93 [.ms 0 0 nn,.int .i64 v1,.int .i64 v2,AV.fn (Fn.func 29) [] []] 4 q.2) fun(q:AV×List (List 
 AV))=>qr q.1 fun(b:Bool)=>bif b then some (MV.unit,q.2)else bif decide (v1>(0:Int))then bif qd (0:Int) (qBZ .i64 (v1 - (1:Int)))&&qe 
 (qBZ .i64 (v1 - (1:Int))) (↑nn:Int)then kOpt (qB0 q.2 (0+qB7 (qBZ .i64 (v1 - (1:Int))))) fun(row:List AV)=>bif qB4 4 
 (qB1 row)then kTmC (qB8 4 row) fun(n_2 n_3:Int) (s:List UInt8) (rows:List (List AV))=>(bif qd (0:Int) (qBZ .i64 (qBZ .i64 (v2 - (1: 
 Int)) - qBZ .i64 (n - v1)))&&qe (qBZ .i64 (qBZ .i64 (v2 - (1:Int)) - qBZ .i64 (n - v1))) (↑nn:Int)then kOpt (qB0 q.2 (0 
 + qB7 (qBZ .i64 (qBZ .i64 (v2 - (1:Int)) - qBZ .i64 (n - v1))))) fun(row:List AV)=>bif qB4 4 (qB1 row)then kTmC (qB8 4 
 row) fun(n_4 n_5:Int) (s_1:List UInt8) (rows_1:List (List AV))=>(kOpt (EVs (EV cfg) 29 [.agg [AV.int .i64 n_2,.int .i64 n_3,.str s,.sl rows], 
 .agg [AV.int .i64 n_4,.int .i64 n_5,.str s_1,.sl rows_1]]) fun(v:AV)=>kInt .i64 v fun(n_6:Int)=>bif !decide (n_6<(0:Int))then kOpt (EVd (EV cfg) 
 94 [.ms 0 0 nn,.int .i64 v1,.int .i64 v2,.int .i64 (qBZ .i64 (qBZ .i64 (v2 - (1:Int)) - qBZ .i64 (n 
 - v1))),AV.fn (Fn.func 29) [] []] 4 q.2) fun(q:AV×List (List AV))=>kInt .i64 q.1 fun(n:Int)=>qC nn n v2 v3 v10 v11 q.2 else kOpt (EVd (EV 
 cfg) 95 [.ms 0 0 nn,.int .i64 v1,.int .i64 v2,.int .i64 (qBZ .i64 (qBZ .i64 (v2 - (1:Int)) - qBZ .i64 (n 
 - v1))),AV.fn (Fn.func 29) [] []] 4 q.2) fun(q:AV×List (List AV))=>kTup q.1 fun(cs:List AV)=>qf cs fun(c:AV) (cs:List AV)=>kInt .i64 c 
 fun(n:Int)=>qf cs fun(c:AV) (cs:List AV)=>qr c fun(b:Bool)=>kNil cs (kOpt (qn (Op.intDiv BinOp.quo .i64 (qBZ .i64 (v2 - v1)) (8:Int))) fun(v 
 :AV)=>kInt .i64 v fun(n_7:Int)=>bif decide (qBZ .i64 (n - v1)<qBZ .i64 (v2 - n))then kOpt (EVm (EV cfg) 61 
 [.ms 0 0 nn,.int .i64 v1,.int .i64 n,.int .i64 v3,AV.fn (Fn.func 29) [] []] 4 q.2) fun(q:MV×List (List AV))=>qx q.1 (qC nn (qBZ 
 .i64 (n+(1:Int))) v2 v3 (decide (qBZ .i64 (n - v1)≥n_7)) b q.2)else kOpt (EVm (EV cfg) 61 [.ms 0 0 nn,.int .i64 
 (qBZ .i64 (n+(1:Int))),.int .i64 v2,.int .i64 v3,AV.fn (Fn.func 29) [] []] 4 q.2) fun(q:MV×List (List AV))=>qx q.1 (qC nn v1 
 n v3 (decide (qBZ .i64 (v2 - n)≥n_7)) b q.2)))else none else none)else none else none else kOpt (EVd (EV cfg) 95 [.ms 0 0 
 nn,.int .i64 v1,.int .i64 v2,.int .i64 (qBZ .i64 (qBZ .i64 (v2 - (1:Int)) - qBZ .i64 (n - v1))),AV.fn (Fn.func 29) [] []] 4 
 q.2) fun(q:AV×List (List AV))=>kTup q.1 fun(cs:List AV)=>qf cs fun(c:AV) (cs:List AV)=>kInt .i64 c fun(n:Int)=>qf cs fun(c:AV) (cs:List AV)=> 
 qr c fun(b:Bool)=>kNil cs (kOpt (qn (Op.intDiv BinOp.quo .i64 (qBZ .i64 (v2 - v1)) (8:Int))) fun(v:AV)=>kInt .i64 v fun(n_2:Int)=>bif decide 
 (qBZ .i64 (n - v1)<qBZ .i64 (v2 - n))then kOpt (EVm (EV cfg) 61 [.ms 0 0 nn,.int .i64 v1,.int .i64 n,.int .i64 v3, 
 AV.fn (Fn.func 29) [] []] 4 q.2) fun(q:MV×List (List AV))=>qx q.1 (qC nn (qBZ .i64 (n+(1:Int))) v2 v3 (decide (qBZ .i64 
 (n - v1)≥n_2)) b q.2)else kOpt (EVm (EV cfg) 61 [.ms 0 0 nn,.int .i64 (qBZ .i64 (n+(1:Int))),.int .i64 v2,.int .i64 v3, 
 AV.fn (Fn.func 29) [] []] 4 q.2) fun(q:MV×List (List AV))=>qx q.1 (qC nn v1 n v3 (decide (qBZ .i64 (v2 - n)≥n_2)) b q.2))else bif 
 decide (v1>(0:Int))then bif qd (0:Int) (qBZ .i64 (v1 - (1:Int)))&&qe (qBZ .i64 (v1 - (1:Int))) (↑nn:Int)then kOpt (qB0 q.2 (0 
 + qB7 (qBZ .i64 (v1 - (1:Int))))) fun(row:List AV)=>bif qB4 4 (qB1 row)then kTmC (qB8 4 row) fun(n_2 n_3:Int) (s:List UInt8) (rows: 
 List (List AV))=>(bif qd (0:Int) (qBZ .i64 (qBZ .i64 (v2 - (1:Int)) - qBZ .i64 (n - v1)))&&qe (qBZ .i64 (qBZ .i64 (v2 - 
 (1:Int)) - qBZ .i64 (n - v1))) (↑nn:Int)then kOpt (qB0 q.2 (0+qB7 (qBZ .i64 (qBZ .i64 (v2 - (1:Int)) - qBZ .i64 (n 
 - v1))))) fun(row:List AV)=>bif qB4 4 (qB1 row)then kTmC (qB8 4 row) fun(n_4 n_5:Int) (s_1:List UInt8) (rows_1:List (List AV))=>(kOpt (EVs (EV cfg) 
 29 [.agg [AV.int .i64 n_2,.int .i64 n_3,.str s,.sl rows],.agg [AV.int .i64 n_4,.int .i64 n_5,.str s_1,.sl rows_1]]) fun(v:AV)=>kInt .i64 v fun 
 (n_6:Int)=>bif !decide (n_6<(0:Int))then kOpt (EVd (EV cfg) 94 [.ms 0 0 nn,.int .i64 v1,.int .i64 v2,.int .i64 
 (qBZ .i64 (qBZ .i64 (v2 - (1:Int)) - qBZ .i64 (n - v1))),AV.fn (Fn.func 29) [] []] 4 q.2) fun(q:AV×List (List AV))=>kInt 
 .i64 q.1 fun(n:Int)=>qC nn n v2 v3 v10 v11 q.2 else kOpt (EVd (EV cfg) 95 [.ms 0 0 nn,.int .i64 v1,.int .i64 v2,.int .i64 
 (qBZ .i64 (qBZ .i64 (v2 - (1:Int)) - qBZ .i64 (n - v1))),AV.fn (Fn.func 29) [] []] 4 q.2) fun(q:AV×List (List AV))=>kTup 
 q.1 fun(cs:List AV)=>qf cs fun(c:AV) (cs:List AV)=>kInt .i64 c fun(n:Int)=>qf cs fun(c:AV) (cs:List AV)=>qr c fun(b:Bool)=>kNil cs (kOpt 
 (qn (Op.intDiv BinOp.quo .i64 (qBZ .i64 (v2 - v1)) (8:Int))) fun(v:AV)=>kInt .i64 v fun(n_7:Int)=>bif decide (qBZ .i64 (n - v1)<qBZ 
 .i64 (v2 - n))then kOpt (EVm (EV cfg) 61 [.ms 0 0 nn,.int .i64 v1,.int .i64 n,.int .i64 v3,AV.fn (Fn.func 29) 
 [] []] 4 q.2) fun(q:MV×List (List AV))=>qx q.1 (qC nn (qBZ .i64 (n+(1:Int))) v2 v3 (decide (qBZ .i64 (n - v1)≥n_7)) b q.2)else kOpt (EVm 
 (EV cfg) 61 [.ms 0 0 nn,.int .i64 (qBZ .i64 (n+(1:Int))),.int .i64 v2,.int .i64 v3,AV.fn (Fn.func 
 29) [] []] 4 q.2) fun(q:MV×List (List AV))=>qx q.1 (qC nn v1 n v3 (decide (qBZ .i64 (v2 - n)≥n_7)) b q.2)))else none else none) 
 else none else none else kOpt (EVd (EV cfg) 95 [.ms 0 0 nn,.int .i64 v1,.int .i64 v2,.int .i64 (qBZ .i64 (qBZ .i64 
 (v2 - (1:Int)) - qBZ .i64 (n - v1))),AV.fn (Fn.func 29) [] []] 4 q.2) fun(q:AV×List (List AV))=>kTup q.1 fun(cs:List AV)=>qf cs 
 fun(c:AV) (cs:List AV)=>kInt .i64 c fun(n:Int)=>qf cs fun(c:AV) (cs:List AV)=>qr c fun(b:Bool)=>kNil cs (kOpt (qn (Op.intDiv BinOp.quo .i64 
 (qBZ .i64 (v2 - v1)) (8:Int))) fun(v:AV)=>kInt .i64 v fun(n_2:Int)=>bif decide (qBZ .i64 (n - v1)<qBZ .i64 (v2 - n))then kOpt (EVm (EV 
 cfg) 61 [.ms 0 0 nn,.int .i64 v1,.int .i64 n,.int .i64 v3,AV.fn (Fn.func 29) [] []] 4 q.2) fun(q:MV×List 
 (List AV))=>qx q.1 (qC nn (qBZ .i64 (n+(1:Int))) v2 v3 (decide (qBZ .i64 (n - v1)≥n_2)) b q.2)else kOpt (EVm (EV cfg) 
 61 [.ms 0 0 nn,.int .i64 (qBZ .i64 (n+(1:Int))),.int .i64 v2,.int .i64 v3,AV.fn (Fn.func 29) [] []] 
 4 q.2) fun(q:MV×List (List AV))=>qx q.1 (qC nn v1 n v3 (decide (qBZ .i64 (v2 - n)≥n_2)) b q.2))else bif decide (v1>(0:Int))then bif qd (0:Int) 
 (qBZ .i64 (v1 - (1:Int)))&&qe (qBZ .i64 (v1 - (1:Int))) (↑nn:Int)then kOpt (qB0 q.2 (0+qB7 (qBZ .i64 (v1 - (1: 
 Int))))) fun(row:List AV)=>bif qB4 4 (qB1 row)then kTmC (qB8 4 row) fun(n_2 n_3:Int) (s:List UInt8) (rows:List (List AV))=>(bif qd (0:Int) 
 (qBZ .i64 (qBZ .i64 (v2 - (1:Int)) - qBZ .i64 (n - v1)))&&qe (qBZ .i64 (qBZ .i64 (v2 - (1:Int)) - qBZ .i64 (n - v1))) 
 (↑nn:Int)then kOpt (qB0 q.2 (0+qB7 (qBZ .i64 (qBZ .i64 (v2 - (1:Int)) - qBZ .i64 (n - v1))))) fun(row:List AV)=>bif 
 qB4 4 (qB1 row)then kTmC (qB8 4 row) fun(n_4 n_5:Int) (s_1:List UInt8) (rows_1:List (List AV))=>(kOpt (EVs (EV cfg) 29 [.agg 
 [AV.int .i64 n_2,.int .i64 n_3,.str s,.sl rows],.agg [AV.int .i64 n_4,.int .i64 n_5,.str s_1,.sl rows_1]]) fun(v:AV)=>kInt .i64 v fun(n_6:Int)=>bif !decide (n_6< 
 (0:Int))then kOpt (EVd (EV cfg) 94 [.ms 0 0 nn,.int .i64 v1,.int .i64 v2,.int .i64 (qBZ .i64 (qBZ .i64 (v2 - 
 (1:Int)) - qBZ .i64 (n - v1))),AV.fn (Fn.func 29) [] []] 4 q.2) fun(q:AV×List (List AV))=>kInt .i64 q.1 fun(n:Int)=>qC nn n v2 
 v3 v10 v11 q.2 else kOpt (EVd (EV cfg) 95 [.ms 0 0 nn,.int .i64 v1,.int .i64 v2,.int .i64 (qBZ .i64 (qBZ .i64 (v2 - 
 (1:Int)) - qBZ .i64 (n - v1))),AV.fn (Fn.func 29) [] []] 4 q.2) fun(q:AV×List (List AV))=>kTup q.1 fun(cs:List AV)=>qf cs fun(c: 
 AV) (cs:List AV)=>kInt .i64 c fun(n:Int)=>qf cs fun(c:AV) (cs:List AV)=>qr c fun(b:Bool)=>kNil cs (kOpt (qn (Op.intDiv BinOp.quo .i64 (qBZ 
 .i64 (v2 - v1)) (8:Int))) fun(v:AV)=>kInt .i64 v fun(n_7:Int)=>bif decide (qBZ .i64 (n - v1)<qBZ .i64 (v2 - n))then kOpt (EVm (EV cfg) 
 61 [.ms 0 0 nn,.int .i64 v1,.int .i64 n,.int .i64 v3,AV.fn (Fn.func 29) [] []] 4 q.2) fun(q:MV×List (List 
 AV))=>qx q.1 (qC nn (qBZ .i64 (n+(1:Int))) v2 v3 (decide (qBZ .i64 (n - v1)≥n_7)) b q.2)else kOpt (EVm (EV cfg) 
 61 [.ms 0 0 nn,.int .i64 (qBZ .i64 (n+(1:Int))),.int .i64 v2,.int .i64 v3,AV.fn (Fn.func 29) [] []] 
 4 q.2) fun(q:MV×List (List AV))=>qx q.1 (qC nn v1 n v3 (decide (qBZ .i64 (v2 - n)≥n_7)) b q.2)))else none else none)else none else none else kOpt (EVd 
 (EV cfg) 95 [.ms 0 0 nn,.int .i64 v1,.int .i64 v2,.int .i64 (qBZ .i64 (qBZ .i64 (v2 - (1:Int)) - qBZ .i64 
 (n - v1))),AV.fn (Fn.func 29) [] []] 4 q.2) fun(q:AV×List (List AV))=>kTup q.1 fun(cs:List AV)=>qf cs fun(c:AV) (cs:List AV)=>kInt 
 .i64 c fun(n:Int)=>qf cs fun(c:AV) (cs:List AV)=>qr c fun(b:Bool)=>kNil cs (kOpt (qn (Op.intDiv BinOp.quo .i64 (qBZ .i64 (v2 - v1)) (8:Int))) 
 fun(v:AV)=>kInt .i64 v fun(n_2:Int)=>bif decide (qBZ .i64 (n - v1)<qBZ .i64 (v2 - n))then kOpt (EVm (EV cfg) 
 61 [.ms 0 0 nn,.int .i64 v1,.int .i64 n,.int .i64 v3,AV.fn (Fn.func 29) [] []] 4 q.2) fun(q:MV×List (List 
 AV))=>qx q.1 (qC nn (qBZ .i64 (n+(1:Int))) v2 v3 (decide (qBZ .i64 (n - v1)≥n_2)) b q.2)else kOpt (EVm (EV cfg) 
 61 [.ms 0 0 nn,.int .i64 (qBZ .i64 (n+(1:Int))),.int .i64 v2,.int .i64 v3,AV.fn (Fn.func 29) [] []] 
 4 q.2) fun(q:MV×List (List AV))=>qx q.1 (qC nn v1 n v3 (decide (qBZ .i64 (v2 - n)≥n_2)) b q.2)))else bif v10 then bif v11 then bif n_1==(1:Int)then 
 kOpt (EVd (EV cfg) 93 [.ms 0 0 nn,.int .i64 v1,.int .i64 v2,AV.fn (Fn.func 29) [] []] 4 h0) fun(q: 
 AV×List (List AV))=>qr q.1 fun(b:Bool)=>bif b then some (MV.unit,q.2)else bif decide (v1>(0:Int))then bif qd (0:Int) (qBZ .i64 (v1 - (1:Int)))&& 
 qe (qBZ .i64 (v1 - (1:Int))) (↑nn:Int)then kOpt (qB0 q.2 (0+qB7 (qBZ .i64 (v1 - (1:Int))))) fun(row:List AV)=>bif qB4 4 
 (qB1 row)then kTmC (qB8 4 row) fun(n_2 n_3:Int) (s:List UInt8) (rows:List (List AV))=>(bif qd (0:Int) n&&qe n (↑nn:Int)then kOpt 
 (qB0 q.2 (0+qB7 n)) fun(row:List AV)=>bif qB4 4 (qB1 row)then kTmC (qB8 4 row) fun(n_4 n_5:Int) (s_1:List UInt8) (rows_1:List 
 (List AV))=>(kOpt (EVs (EV cfg) 29 [.agg [AV.int .i64 n_2,.int .i64 n_3,.str s,.sl rows],.agg [AV.int .i64 n_4,.int .i64 n_5,.str s_1,.sl rows_1]]) 
 fun(v:AV)=>kInt .i64 v fun(n_6:Int)=>bif !decide (n_6<(0:Int))then kOpt (EVd (EV cfg) 94 [.ms 0 0 nn,.int .i64 v1, 
 .int .i64 v2,.int .i64 n,AV.fn (Fn.func 29) [] []] 4 q.2) fun(q:AV×List (List AV))=>kInt .i64 q.1 fun(n:Int)=>qC nn n v2 v3 v10 v11 q.2 
 else kOpt (EVd (EV cfg) 95 [.ms 0 0 nn,.int .i64 v1,.int .i64 v2,.int .i64 n,AV.fn (Fn.func 29) [] []] 4 q.2) 
 fun(q:AV×List (List AV))=>kTup q.1 fun(cs:List AV)=>qf cs fun(c:AV) (cs:List AV)=>kInt .i64 c fun(n:Int)=>qf cs fun(c:AV) (cs:List AV)=>qr c 
 fun(b:Bool)=>kNil cs (kOpt (qn (Op.intDiv BinOp.quo .i64 (qBZ .i64 (v2 - v1)) (8:Int))) fun(v:AV)=>kInt .i64 v fun(n_7:Int)=>bif decide (qBZ 
 .i64 (n - v1)<qBZ .i64 (v2 - n))then kOpt (EVm (EV cfg) 61 [.ms 0 0 nn,.int .i64 v1,.int .i64 n,.int .i64 v3,AV.fn (Fn.func 
 29) [] []] 4 q.2) fun(q:MV×List (List AV))=>qx q.1 (qC nn (qBZ .i64 (n+(1:Int))) v2 v3 (decide (qBZ .i64 (n - v1)≥ 
 n_7)) b q.2)else kOpt (EVm (EV cfg) 61 [.ms 0 0 nn,.int .i64 (qBZ .i64 (n+(1:Int))),.int .i64 v2,.int .i64 v3,AV.fn 
 (Fn.func 29) [] []] 4 q.2) fun(q:MV×List (List AV))=>qx q.1 (qC nn v1 n v3 (decide (qBZ .i64 (v2 - n)≥n_7)) b q.2)))else none 
 else none)else none else none else kOpt (EVd (EV cfg) 95 [.ms 0 0 nn,.int .i64 v1,.int .i64 v2,.int .i64 n,AV.fn (Fn.func 
 29) [] []] 4 q.2) fun(q:AV×List (List AV))=>kTup q.1 fun(cs:List AV)=>qf cs fun(c:AV) (cs:List AV)=>kInt .i64 c fun(n:Int)=>qf 
 cs fun(c:AV) (cs:List AV)=>qr c fun(b:Bool)=>kNil cs (kOpt (qn (Op.intDiv BinOp.quo .i64 (qBZ .i64 (v2 - v1)) (8:Int))) fun(v:AV)=>kInt .i64 v 
 fun(n_2:Int)=>bif decide (qBZ .i64 (n - v1)<qBZ .i64 (v2 - n))then kOpt (EVm (EV cfg) 61 [.ms 0 0 nn,.int .i64 
 v1,.int .i64 n,.int .i64 v3,AV.fn (Fn.func 29) [] []] 4 q.2) fun(q:MV×List (List AV))=>qx q.1 (qC nn (qBZ .i64 (n+(1:Int))) 
 v2 v3 (decide (qBZ .i64 (n - v1)≥n_2)) b q.2)else kOpt (EVm (EV cfg) 61 [.ms 0 0 nn,.int .i64 (qBZ .i64 (n+(1: 
 Int))),.int .i64 v2,.int .i64 v3,AV.fn (Fn.func 29) [] []] 4 q.2) fun(q:MV×List (List AV))=>qx q.1 (qC nn v1 n v3 (decide (qBZ 
 .i64 (v2 - n)≥n_2)) b q.2))else bif decide (v1>(0:Int))then bif qd (0:Int) (qBZ .i64 (v1 - (1:Int)))&&qe (qBZ .i64 (v1 - (1:Int))) (↑nn: 
 Int)then kOpt (qB0 h0 (0+qB7 (qBZ .i64 (v1 - (1:Int))))) fun(row:List AV)=>bif qB4 4 (qB1 row)then kTmC (qB8 4 row) fun 
 (n_2 n_3:Int) (s:List UInt8) (rows:List (List AV))=>(bif qd (0:Int) n&&qe n (↑nn:Int)then kOpt (qB0 h0 (0+qB7 n)) fun(row:List AV)=> 
 bif qB4 4 (qB1 row)then kTmC (qB8 4 row) fun(n_4 n_5:Int) (s_1:List UInt8) (rows_1:List (List AV))=>(kOpt (EVs (EV cfg) 29 [.agg 
 [AV.int .i64 n_2,.int .i64 n_3,.str s,.sl rows],.agg [AV.int .i64 n_4,.int .i64 n_5,.str s_1,.sl rows_1]]) fun(v:AV)=>kInt .i64 v fun(n_6:Int)=>bif !decide (n_6< 
 (0:Int))then kOpt (EVd (EV cfg) 94 [.ms 0 0 nn,.int .i64 v1,.int .i64 v2,.int .i64 n,AV.fn (Fn.func 
 29) [] []] 4 h0) fun(q:AV×List (List AV))=>kInt .i64 q.1 fun(n:Int)=>qC nn n v2 v3 v10 v11 q.2 else kOpt (EVd (EV cfg) 
 95 [.ms 0 0 nn,.int .i64 v1,.int .i64 v2,.int .i64 n,AV.fn (Fn.func 29) [] []] 4 h0) fun(q:AV×List (List 
 AV))=>kTup q.1 fun(cs:List AV)=>qf cs fun(c:AV) (cs:List AV)=>kInt .i64 c fun(n:Int)=>qf cs fun(c:AV) (cs:List AV)=>qr c fun(b:Bool)=>kNil 
 cs (kOpt (qn (Op.intDiv BinOp.quo .i64 (qBZ .i64 (v2 - v1)) (8:Int))) fun(v:AV)=>kInt .i64 v fun(n_7:Int)=>bif decide (qBZ .i64 (n - v1)< 
 qBZ .i64 (v2 - n))then kOpt (EVm (EV cfg) 61 [.ms 0 0 nn,.int .i64 v1,.int .i64 n,.int .i64 v3,AV.fn (Fn.func 
 29) [] []] 4 q.2) fun(q:MV×List (List AV))=>qx q.1 (qC nn (qBZ .i64 (n+(1:Int))) v2 v3 (decide (qBZ .i64 (n - v1)≥ 
 n_7)) b q.2)else kOpt (EVm (EV cfg) 61 [.ms 0 0 nn,.int .i64 (qBZ .i64 (n+(1:Int))),.int .i64 v2,.int .i64 v3,AV.fn 
 (Fn.func 29) [] []] 4 q.2) fun(q:MV×List (List AV))=>qx q.1 (qC nn v1 n v3 (decide (qBZ .i64 (v2 - n)≥n_7)) b q.2)))else none 
 else none)else none else none else kOpt (EVd (EV cfg) 95 [.ms 0 0 nn,.int .i64 v1,.int .i64 v2,.int .i64 n,AV.fn (Fn.func 
 29) [] []] 4 h0) fun(q:AV×List (List AV))=>kTup q.1 fun(cs:List AV)=>qf cs fun(c:AV) (cs:List AV)=>kInt .i64 c fun(n:Int)=>qf 
 cs fun(c:AV) (cs:List AV)=>qr c fun(b:Bool)=>kNil cs (kOpt (qn (Op.intDiv BinOp.quo .i64 (qBZ .i64 (v2 - v1)) (8:Int))) fun(v:AV)=>kInt .i64 v 
 fun(n_2:Int)=>bif decide (qBZ .i64 (n - v1)<qBZ .i64 (v2 - n))then kOpt (EVm (EV cfg) 61 [.ms 0 0 nn,.int .i64 
 v1,.int .i64 n,.int .i64 v3,AV.fn (Fn.func 29) [] []] 4 q.2) fun(q:MV×List (List AV))=>qx q.1 (qC nn (qBZ .i64 (n+(1:Int))) 
 v2 v3 (decide (qBZ .i64 (n - v1)≥n_2)) b q.2)else kOpt (EVm (EV cfg) 61 [.ms 0 0 nn,.int .i64 (qBZ .i64 (n+(1: 
 Int))),.int .i64 v2,.int .i64 v3,AV.fn (Fn.func 29) [] []] 4 q.2) fun(q:MV×List (List AV))=>qx q.1 (qC nn v1 n v3 (decide (qBZ 
 .i64 (v2 - n)≥n_2)) b q.2))else bif decide (v1>(0:Int))then bif qd (0:Int) (qBZ .i64 (v1 - (1:Int)))&&qe (qBZ .i64 (v1 - (1:Int))) (↑nn: 
 Int)then kOpt (qB0 h0 (0+qB7 (qBZ .i64 (v1 - (1:Int))))) fun(row:List AV)=>bif qB4 4 (qB1 row)then kTmC (qB8 4 row) fun 
 (n_2 n_3:Int) (s:List UInt8) (rows:List (List AV))=>(bif qd (0:Int) n&&qe n (↑nn:Int)then kOpt (qB0 h0 (0+qB7 n)) fun(row:List AV)=> 
 bif qB4 4 (qB1 row)then kTmC (qB8 4 row) fun(n_4 n_5:Int) (s_1:List UInt8) (rows_1:List (List AV))=>(kOpt (EVs (EV cfg) 29 [.agg 
 [AV.int .i64 n_2,.int .i64 n_3,.str s,.sl rows],.agg [AV.int .i64 n_4,.int .i64 n_5,.str s_1,.sl rows_1]]) fun(v:AV)=>kInt .i64 v fun(n_6:Int)=>bif !decide (n_6< 
 (0:Int))then kOpt (EVd (EV cfg) 94 [.ms 0 0 nn,.int .i64 v1,.int .i64 v2,.int .i64 n,AV.fn (Fn.func 
 29) [] []] 4 h0) fun(q:AV×List (List AV))=>kInt .i64 q.1 fun(n:Int)=>qC nn n v2 v3 v10 v11 q.2 else kOpt (EVd (EV cfg) 
 95 [.ms 0 0 nn,.int .i64 v1,.int .i64 v2,.int .i64 n,AV.fn (Fn.func 29) [] []] 4 h0) fun(q:AV×List (List 
 AV))=>kTup q.1 fun(cs:List AV)=>qf cs fun(c:AV) (cs:List AV)=>kInt .i64 c fun(n:Int)=>qf cs fun(c:AV) (cs:List AV)=>qr c fun(b:Bool)=>kNil 
 cs (kOpt (qn (Op.intDiv BinOp.quo .i64 (qBZ .i64 (v2 - v1)) (8:Int))) fun(v:AV)=>kInt .i64 v fun(n_7:Int)=>bif decide (qBZ .i64 (n - v1)< 
 qBZ .i64 (v2 - n))then kOpt (EVm (EV cfg) 61 [.ms 0 0 nn,.int .i64 v1,.int .i64 n,.int .i64 v3,AV.fn (Fn.func 
 29) [] []] 4 q.2) fun(q:MV×List (List AV))=>qx q.1 (qC nn (qBZ .i64 (n+(1:Int))) v2 v3 (decide (qBZ .i64 (n - v1)≥ 
 n_7)) b q.2)else kOpt (EVm (EV cfg) 61 [.ms 0 0 nn,.int .i64 (qBZ .i64 (n+(1:Int))),.int .i64 v2,.int .i64 v3,AV.fn 
 (Fn.func 29) [] []] 4 q.2) fun(q:MV×List (List AV))=>qx q.1 (qC nn v1 n v3 (decide (qBZ .i64 (v2 - n)≥n_7)) b q.2)))else none 
 else none)else none else none else kOpt (EVd (EV cfg) 95 [.ms 0 0 nn,.int .i64 v1,.int .i64 v2,.int .i64 n,AV.fn (Fn.func 
 29) [] []] 4 h0) fun(q:AV×List (List AV))=>kTup q.1 fun(cs:List AV)=>qf cs fun(c:AV) (cs:List AV)=>kInt .i64 c fun(n:Int)=>qf 
 cs fun(c:AV) (cs:List AV)=>qr c fun(b:Bool)=>kNil cs (kOpt (qn (Op.intDiv BinOp.quo .i64 (qBZ .i64 (v2 - v1)) (8:Int))) fun(v:AV)=>kInt .i64 v 
 fun(n_2:Int)=>bif decide (qBZ .i64 (n - v1)<qBZ .i64 (v2 - n))then kOpt (EVm (EV cfg) 61 [.ms 0 0 nn,.int .i64 
 v1,.int .i64 n,.int .i64 v3,AV.fn (Fn.func 29) [] []] 4 q.2) fun(q:MV×List (List AV))=>qx q.1 (qC nn (qBZ .i64 (n+(1:Int))) 
 v2 v3 (decide (qBZ .i64 (n - v1)≥n_2)) b q.2)else kOpt (EVm (EV cfg) 61 [.ms 0 0 nn,.int .i64 (qBZ .i64 (n+(1: 
 Int))),.int .i64 v2,.int .i64 v3,AV.fn (Fn.func 29) [] []] 4 q.2) fun(q:MV×List (List AV))=>qx q.1 (qC nn v1 n v3 (decide (qBZ 
 .i64 (v2 - n)≥n_2)) b q.2))else bif decide (v1>(0:Int))then bif qd (0:Int) (qBZ .i64 (v1 - (1:Int)))&&qe (qBZ .i64 (v1 - (1:Int))) (↑nn: 
 Int)then kOpt (qB0 h0 (0+qB7 (qBZ .i64 (v1 - (1:Int))))) fun(row:List AV)=>bif qB4 4 (qB1 row)then kTmC (qB8 4 row) fun 
 (n_2 n_3:Int) (s:List UInt8) (rows:List (List AV))=>(bif qd (0:Int) n&&qe n (↑nn:Int)then kOpt (qB0 h0 (0+qB7 n)) fun(row:List AV)=> 
 bif qB4 4 (qB1 row)then kTmC (qB8 4 row) fun(n_4 n_5:Int) (s_1:List UInt8) (rows_1:List (List AV))=>(kOpt (EVs (EV cfg) 29 [.agg 
 [AV.int .i64 n_2,.int .i64 n_3,.str s,.sl rows],.agg [AV.int .i64 n_4,.int .i64 n_5,.str s_1,.sl rows_1]]) fun(v:AV)=>kInt .i64 v fun(n_6:Int)=>bif !decide (n_6< 
 (0:Int))then kOpt (EVd (EV cfg) 94 [.ms 0 0 nn,.int .i64 v1,.int .i64 v2,.int .i64 n,AV.fn (Fn.func 
 29) [] []] 4 h0) fun(q:AV×List (List AV))=>kInt .i64 q.1 fun(n:Int)=>qC nn n v2 v3 v10 v11 q.2 else kOpt (EVd (EV cfg) 
 95 [.ms 0 0 nn,.int .i64 v1,.int .i64 v2,.int .i64 n,AV.fn (Fn.func 29) [] []] 4 h0) fun(q:AV×List (List 
 AV))=>kTup q.1 fun(cs:List AV)=>qf cs fun(c:AV) (cs:List AV)=>kInt .i64 c fun(n:Int)=>qf cs fun(c:AV) (cs:List AV)=>qr c fun(b:Bool)=>kNil 
 cs (kOpt (qn (Op.intDiv BinOp.quo .i64 (qBZ .i64 (v2 - v1)) (8:Int))) fun(v:AV)=>kInt .i64 v fun(n_7:Int)=>bif decide (qBZ .i64 (n - v1)< 
 qBZ .i64 (v2 - n))then kOpt (EVm (EV cfg) 61 [.ms 0 0 nn,.int .i64 v1,.int .i64 n,.int .i64 v3,AV.fn (Fn.func 
 29) [] []] 4 q.2) fun(q:MV×List (List AV))=>qx q.1 (qC nn (qBZ .i64 (n+(1:Int))) v2 v3 (decide (qBZ .i64 (n - v1)≥ 
 n_7)) b q.2)else kOpt (EVm (EV cfg) 61 [.ms 0 0 nn,.int .i64 (qBZ .i64 (n+(1:Int))),.int .i64 v2,.int .i64 v3,AV.fn 
 (Fn.func 29) [] []] 4 q.2) fun(q:MV×List (List AV))=>qx q.1 (qC nn v1 n v3 (decide (qBZ .i64 (v2 - n)≥n_7)) b q.2)))else none 
 else none)else none else none else kOpt (EVd (EV cfg) 95 [.ms 0 0 nn,.int .i64 v1,.int .i64 v2,.int .i64 n,AV.fn (Fn.func 
 29) [] []] 4 h0) fun(q:AV×List (List AV))=>kTup q.1 fun(cs:List AV)=>qf cs fun(c:AV) (cs:List AV)=>kInt .i64 c fun(n:Int)=>qf 
 cs fun(c:AV) (cs:List AV)=>qr c fun(b:Bool)=>kNil cs (kOpt (qn (Op.intDiv BinOp.quo .i64 (qBZ .i64 (v2 - v1)) (8:Int))) fun(v:AV)=>kInt .i64 v 
 fun(n_2:Int)=>bif decide (qBZ .i64 (n - v1)<qBZ .i64 (v2 - n))then kOpt (EVm (EV cfg) 61 [.ms 0 0 nn,.int .i64 
 v1,.int .i64 n,.int .i64 v3,AV.fn (Fn.func 29) [] []] 4 q.2) fun(q:MV×List (List AV))=>qx q.1 (qC nn (qBZ .i64 (n+(1:Int))) 
 v2 v3 (decide (qBZ .i64 (n - v1)≥n_2)) b q.2)else kOpt (EVm (EV cfg) 61 [.ms 0 0 nn,.int .i64 (qBZ .i64 (n+(1: 
 Int))),.int .i64 v2,.int .i64 v3,AV.fn (Fn.func 29) [] []] 4 q.2) fun(q:MV×List (List AV))=>qx q.1 (qC nn v1 n v3 (decide (qBZ 
 .i64 (v2 - n)≥n_2)) b q.2)))else none
def PdOk(X:List (List AV))(n m:Nat):Prop:=∀(a b:Nat) (lim:Int) (wb wp:Bool) (l:List Tm),b - a<=m->a<=b->b<=n->l.length=n->qX l->Gets (qC n a b lim wb wp (qB X l)) (xf X l)
theorem qt5{n m:Nat}(hn:n<16777216)(ih:PdOk X n m){a b p:Nat}(hm:b - a<=m+1)(hab:a+8<=b)(hb:b<=n)(hpa:a<=p)(hpb:p<b)(lim:Int)(wb wp:Bool){l:List Tm}(hl:l.length=n)(hok:qX l):
  Gets (qjY n a b lim wb wp (qB X l) p) (xf X l):=by
 have pd:∀(a b:Nat) (lim:Int) (l:List Tm),b - a<=m->a<=b->b<=n->l.length=n->qX l->Gets (EVm (EV cfg) 61 [.ms 0 0 n,.int .i64 (a:Int),.int .i64 (b:Int),.int .i64 lim,cmpF] 4 (qB X l)) (xf X l):=λa b lim l h1 h2 h3 h4 h5=>qom _ _ _ _ _ (ih a b lim true true l h1 h2 h3 h4 h5)
 have w8:qBZ .i64 ((b:Int) - (a:Int))=((b - a:Nat):Int):=by rw[qt (by omega) (by omega)];omega
 have fin:∀(mid:Nat) (c:Bool) (l2:List Tm),a<=mid->mid<b->l2.Perm l->Gets (kOpt (qn (Op.intDiv BinOp.quo .i64 (qBZ .i64 ((b:Int) - (a:Int))) (8:Int))) fun(v:AV)=>kInt .i64 v fun(n_7:Int)=>bif decide (qBZ .i64 ((mid:Int) - (a:Int))<qBZ .i64 ((b:Int) - (mid:Int)))then kOpt (EVm (EV cfg) 61 [.ms 0 0 n,.int .i64 (a:Int),.int .i64 (mid:Int),.int .i64 lim,cmpF] 4 (qB X l2)) fun(q:MV×List (List AV))=>qx q.1 (qC n (qBZ .i64 ((mid:Int)+(1:Int))) b lim (decide (qBZ .i64 ((mid:Int) - (a:Int))≥n_7)) c q.2)else kOpt (EVm (EV cfg) 61 [.ms 0 0 n,.int .i64 (qBZ .i64 ((mid:Int)+(1:Int))),.int .i64 (b:Int),.int .i64 lim,cmpF] 4 (qB X l2)) fun(q:MV×List (List AV))=>qx q.1 (qC n a mid lim (decide (qBZ .i64 ((b:Int) - (mid:Int))≥n_7)) c q.2)) (xf X l):=by
  intro mid c l2 h1 h2 hp;have hl2:l2.length=n:=by rw[hp.length_eq];exact hl
  have hok2:=hok.perm hp;rw[yN (by decide)];simp only[qb,qi,wr1 (show mid<4398046511104 by omega)];cases decide (qBZ .i64 ((mid:Int) - (a:Int))<qBZ .i64 ((b:Int) - (mid:Int)))with
  |true=>
   refine Gets.bind (pd a mid lim l2 (by omega) (by omega) (by omega) hl2 hok2) ?_;rintro _ ⟨l3,h3,rfl⟩;simp only[qU];exact(ih (mid+1) b lim _ c l3 (by omega) (by omega) (by omega) (by rw[h3.length_eq];exact hl2) (hok2.perm h3)).mono λr hr=>hr.trans (h3.trans hp)
  |false=>
   refine Gets.bind (pd (mid+1) b lim l2 (by omega) (by omega) (by omega) hl2 hok2) ?_;rintro _ ⟨l3,h3,rfl⟩;simp only[qU];exact(ih a mid lim _ c l3 (by omega) (by omega) (by omega) (by rw[h3.length_eq];exact hl2) (hok2.perm h3)).mono λr hr=>hr.trans (h3.trans hp)
 have hpart:=qv8 (X:=X) (by omega) hb (by omega) (show p<n by omega) hl hok (a:=a);unfold qjY;cases a with
 |zero=>
  rw[qCL (by omega),cond_false];refine Gets.bind hpart ?_;rintro _ ⟨l2,_,h2,⟨mid,c,h3,h4,rfl⟩,rfl⟩;simp only[zS,vq,qi,qp,vR];exact fin mid c l2 h3 h4 h2
 |succ a=>
  obtain⟨x,hx⟩:=qK (l:=l) (i:=a) (by omega);obtain⟨y,hy⟩:=qK (l:=l) (i:=p) (by omega);have hc:=vG (hok.at hx) (hok.at hy);rw[qCK (show((a+1:Nat):Int)>0 by omega),wr0 (by omega)];simp -implicitDefEqProofs only[cond_true,cond_false,qCj,qCm,qb,qj,show qB4 4 4=true from rfl,show qCh 4 4=true from rfl,qm,qk,qF,qq,qi,rdB (show a<n by omega),rdB (show p<n by omega),rdG hx,rdG hy,hc]
  cases decide (cmpT x y<0)with
  |true=>
   simp only[qCj,cond_false];refine Gets.bind hpart ?_;rintro _ ⟨l2,_,h2,⟨mid,c,h3,h4,rfl⟩,rfl⟩;simp only[zS,vq,qi,qp,vR];exact fin mid c l2 h3 h4 h2
  |false=>
   simp only[qCm,cond_true];refine Gets.bind (qwa (by omega) hb (by omega) (show p<n by omega) hl hok) ?_;rintro _ ⟨l2,_,h2,⟨i,h3,h4,rfl⟩,rfl⟩;simp only[qi];exact(ih i b lim wb wp l2 (by omega) (by omega) hb (by rw[h2.length_eq];exact hl) (hok.perm h2)).mono λr hr=>hr.trans h2
theorem qjZ{n m:Nat}(hn:n<16777216)(ih:PdOk X n m){a b:Nat}(hm:b - a<=m+1)(hab:a+8<=b)(hb:b<=n)(lim:Int)(wb wp:Bool){l:List Tm}(hl:l.length=n)(hok:qX l):
  Gets (qq4 n a b lim wb wp (qB X l)) (xf X l):=by
 unfold qq4;have hrl:(qB X l).length=n+X.length:=by unfold qB;rw[qCq,qg,hl]
 have ht:qB8 n (qB X l)=qa l:=by unfold qB;exact List.take_left' (by rw[qg];exact hl)
 rw[hrl,nble,qCK (show 0+n<=n+X.length by omega),ht];simp only[qCx,cond_true];refine Gets.bind (qx0 (by omega) (by omega) hab hok) ?_;rintro _ ⟨p,h,h1,h2,rfl⟩;simp only[zS,vq,qi,vR];have w9:qBZ .i64 (qBZ .i64 ((b:Int) - 1) - qBZ .i64 ((p:Int) - (a:Int)))=((b - 1 - (p - a):Nat):Int):=by
  rw[qt (x:=(b:Int) - 1) (by omega) (by omega),qt (x:=(p:Int) - (a:Int)) (by omega) (by omega),qt (by omega) (by omega)];omega
 have tl:∀(p:Nat) (l2:List Tm),a<=p->p<b->l2.Perm l->Gets (qjY n a b lim wb wp (qB X l2) p) (xf X l):=λp l2 h1 h2 h3=>
  (qt5 hn ih hm hab hb h1 h2 lim wb wp (by rw[h3.length_eq];exact hl) (hok.perm h3)).mono λr hr=>hr.trans h3
 have tr:∀(p:Nat) (l2:List Tm),a<=p->p<b->l2.Perm l->Gets (kOpt (EVd (EV cfg) 93 [.ms 0 0 n,.int .i64 (a:Int),.int .i64 (b:Int),cmpF] 4 (qB X l2)) fun(q:AV×List (List AV))=>qr q.1 fun(c:Bool)=>bif c then some (MV.unit,q.2)else qjY n a b lim wb wp q.2 p) (xf X l):=by
  intro p l2 h1 h2 h3;refine Gets.bind (qv6 (by omega) hb (by omega) (by rw[h3.length_eq];exact hl) (hok.perm h3)) ?_;rintro _ ⟨l3,_,h4,⟨c,rfl⟩,rfl⟩;simp only[qp];cases c with
  |true=>exact⟨_,rfl,l3,h4.trans h3,rfl⟩
  |false=>exact tl p l3 h1 h2 (h4.trans h3)
 cases hh:(h==(2:Int))with
 |true=>
  simp only[cond_true];refine Gets.bind (qxZ (by omega) hb (by omega) hl hok) ?_;rintro _ ⟨l2,h3,rfl⟩;simp only[qU,w9];have q1:a<=b - 1 - (p - a):=by omega
  have q2:b - 1 - (p - a)<b:=by omega
  cases wb with
  |false=>exact tl _ l2 q1 q2 h3
  |true=>
   cases wp with
   |false=>exact tl _ l2 q1 q2 h3
   |true=>exact tr _ l2 q1 q2 h3
 |false=>
  simp only[cond_false];cases wb with
  |false=>exact tl p l h1 h2 (List.Perm.refl _)
  |true=>
   cases wp with
   |false=>exact tl p l h1 h2 (List.Perm.refl _)
   |true=>
    simp only[cond_true];cases(h==(1:Int))with
    |false=>exact tl p l h1 h2 (List.Perm.refl _)
    |true=>exact tr p l h1 h2 (List.Perm.refl _)
theorem qx2{n:Nat}(hn:n<16777216):∀m:Nat,PdOk X n m:=by
 intro m
 induction m with
 |zero=>
  intro a b lim wb wp l hm hab hb hl hok;have w1:qBZ .i64 ((b:Int) - (a:Int))=((b - a:Nat):Int):=by rw[qt (by omega) (by omega)];omega
  refine qfR _ _ _ _ _ _ _ ?_;unfold zw48 zw54 zw49 zw50 zw51 zw52 zw53 zw42 zw43 zw44 zw45 zw46 zw47 zw35 zw36 zw37 zw40 zw41 zw38 zw39 zw28 zw34 zw29 zw30 zw31 zw32 zw33 zw17 zw18 zw19 zw20 zw21 zw22 zw23 zw24 zw25 zw26 zw27 zw10 zw11 zw12 zw15 zw16 zw13 zw14;rw[w1,qCK (show((b - a:Nat):Int)<=12 by omega),cond_true];refine Gets.bind (qrb (by omega) hb (by omega) hl hok) ?_
  rintro _ ⟨l2,h2,rfl⟩;simp only[qU];exact⟨_,rfl,l2,h2,rfl⟩
 |succ m ih=>
  intro a b lim wb wp l hm hab hb hl hok;have w1:qBZ .i64 ((b:Int) - (a:Int))=((b - a:Nat):Int):=by rw[qt (by omega) (by omega)];omega
  refine qfR _ _ _ _ _ _ _ ?_;unfold zw48 zw54 zw49 zw50 zw51 zw52 zw53 zw42 zw43 zw44 zw45 zw46 zw47 zw35 zw36 zw37 zw40 zw41 zw38 zw39 zw28 zw34 zw29 zw30 zw31 zw32 zw33 zw17 zw18 zw19 zw20 zw21 zw22 zw23 zw24 zw25 zw26 zw27 zw10 zw11 zw12 zw15 zw16 zw13 zw14
  by_cases h12:b - a<=12
  ·rw[w1,qCK (show((b - a:Nat):Int)<=12 by omega),cond_true];refine Gets.bind (qrb (by omega) hb (by omega) hl hok) ?_;rintro _ ⟨l2,h2,rfl⟩;simp only[qU];exact⟨_,rfl,l2,h2,rfl⟩
  have e12:decide (qBZ .i64 ((b:Int) - (a:Int))<=12)=false:=by rw[w1];exact qCL (by omega)
  rw[e12,cond_false];cases hlim:(lim==(0:Int))with
  |true=>
   rw[cond_true];refine Gets.bind (qwG (by omega) hb (by omega) hl hok) ?_;rintro _ ⟨l2,h2,rfl⟩;simp only[qU];exact⟨_,rfl,l2,h2,rfl⟩
  |false=>
   rw[cond_false];cases wb with
   |false=>
    simp only[qCm,cond_true];refine Gets.bind (qyo hn hb (by omega) hl hok) ?_;rintro _ ⟨l2,h2,rfl⟩;simp only[qU];exact(qjZ hn ih hm (by omega) hb (qBZ .i64 (lim - 1)) false wp (by rw[h2.length_eq];exact hl) (hok.perm h2)).mono λr hr=>hr.trans h2
   |true=>
    simp only[qCj,cond_false];exact qjZ hn ih hm (by omega) hb lim true wp hl hok
theorem qvV{n:Nat}(hn:n<16777216){l:List Tm}(hl:l.length=n)(hok:qX l):
  Gets (EVm (EV cfg) 28 [.ms 0 0 n,cmpF] 4 (qB X l)) (xf X l):=by
 refine qtO _ _ ?_;rw[qas (show n<18446744073709551616 by omega)];refine Gets.bind (qrm hn) ?_;rintro _ ⟨L,h1,h2,rfl⟩;simp only[qi];have h:=qom (qB X l) n 0 n L (qx2 hn n 0 n L true true l (by omega) (by omega) (qCa _) hl hok);refine Gets.bind h ?_;rintro _ ⟨l2,h2,rfl⟩;simp only[qU];exact⟨_,rfl,l2,h2,rfl⟩
end Go.Proofs.YtgleolmhpmljhaaGreat
end
noncomputable section
namespace Go.Av
def ddT:Tm->List Tm->List Tm
 |_,[]=>[]
 |p,x::l=>if x=p then ddT x l else x::ddT x l
def vD:List Tm->List Tm
 |[]=>[]
 |x::l=>x::ddT x l
theorem qrj{x:Tm}:∀{l:List Tm} {p:Tm},x∈l->x=p∨x∈ddT p l
 |[],_,h=>by cases h
 |y::l,p,h=>by
  rw[ddT];rcases qCB.1 h with rfl|h
  ·by_cases e:x=p
   ·exact .inl e
   ·rw[qCN e];exact .inr (by simp)
  ·rcases qrj (p:=y) h with rfl|h
   ·by_cases e:x=p
    ·exact .inl e
    ·rw[qCN e];exact .inr (by simp)
   ·split
    ·exact .inr h
    ·exact .inr (by simp[h])
theorem qlT{x:Tm}:∀{l:List Tm} {p:Tm},x∈ddT p l->x∈l
 |[],_,h=>by simp[ddT]at h
 |y::l,p,h=>by
  rw[ddT]at h;split at h
  ·exact List.mem_cons_of_mem _ (qlT h)
  ·rcases qCB.1 h with rfl|h
   ·simp
   ·exact List.mem_cons_of_mem _ (qlT h)
theorem qgV{x:Tm}{l:List Tm}:x∈vD l↔x∈l:=by
 cases l with
 |nil=>exact Iff.rfl
 |cons y l=>
  rw[vD,qCB,qCB];constructor
  ·exact λh=>h.imp id qlT
  ·rintro(h|h)
   ·exact .inl h
   ·exact qrj h
theorem rd1{n j:Nat}(h:j<=n):(qd 0 (j:Int)&&qd (j:Int) (n:Int))=true:=by
 simp only[qd,qB2,decide_eq_true_eq];omega
def qlc(l:List Tm)(r:MV×List (List AV)):Prop:=∃X,r=(.sl 0 (vD l).length,qB X (vD l))
theorem sw6{X:List (List AV)}{l:List Tm}{i:Nat}(hi:i<l.length)(y:Tm):qCA (qB X l) (0+qB7 (i:Int)) [.int .i64 y.kind,.int .i64 y.num,.str y.str,.sl (qa y.subs)]=qB X (l.set i y):=by
 rw[qCG,qCi,←Tm.cells_eq,qge hi]
theorem rdG2{X:List (List AV)}{l:List Tm}{k i:Nat}{x:Tm}(hx:l[k+i]? =some x):qB0 (qB X l) (0+qB7 (k:Int)+qB7 (i:Int))=some x.cells:=by
 rw[qCG,qv,qCi,qCi,qmC hx]
theorem qri{l:List Tm}{i:Nat}{x:Tm}(hx:l[i]? =some x):l.drop i=x::l.drop (i+1):=by
 obtain⟨h,rfl⟩:=qB5.1 hx;exact qCp h
theorem qln{l:List Tm}{i:Nat}{x:Tm}(hx:l[i]? =some x):l.take (i+1)=l.take i++[x]:=by
 rw[List.take_add_one,hx];rfl
theorem qmp{l:List Tm}{i:Nat}(hi:i<l.length)(x:Tm):(l.set i x).take (i+1)=l.take i++[x]:=by
 rw[qln (x:=x) (by rw[List.getElem?_set_self hi]),List.take_set_of_le (qCa _)]
end Go.Av
namespace Go.Proofs.YtgleolmhpmljhaaGreat
open Go.Av
variable {X : List (List AV)}
theorem qyj{n k:Nat}(hn:n<1099511627776){l:List Tm}(hl:l.length=n)(hw:∀x∈l,x.w<1099511627776)(hkn:k<=n):
  ∀(d i j:Nat) (m:List Tm) (p:Tm),m.length=n->1<=i->j<=k+i - 1->l[k+i - 1]? =some p->(∀q,k+i - 1<=q->m[q]? =l[q]?)->vD l=m.take j++ddT p (l.drop (k+i))->n<=k+i+d ->
  Gets (qcs n (k:Int) (j:Int) (i:Int) (qB X m)) (qlc l):=by
 have fin:∀(i j:Nat) (m:List Tm) (p:Tm),m.length=n->1<=i->j<=k+i - 1->l[k+i - 1]? =some p->vD l=m.take j++ddT p (l.drop (k+i))->n<=k+i->Gets (qcs n (k:Int) (j:Int) (i:Int) (qB X m)) (qlc l):=by
  intro i j m p hm hi hj hp hc hd;have hlt:=(qB5.1 hp).1;refine qfP _ _ _ _ _ ?_;have hxl:(qB X m).length=n+X.length:=by unfold qB;rw[qCq,qg,hm]
  rw[qCs (by omega),ddT,List.append_nil]at hc;have hcl:(vD l).length=j:=by rw[hc,qCD];omega
  rw[qCi,qCL (show ¬(i:Int)<((n - k:Nat):Int) by omega),cond_false,rd1 (show j<=n by omega),qCi,hxl,nble,qCK (show 0+j+(n - j)<=n+X.length by omega)];refine⟨_,rfl,qCr (n - j) [AV.int .i64 (0:Int),.int .i64 (0:Int),.str [],.nilS]++qCk (0+j+(n - j)) (qB X m),?_⟩;have ht:qB8 (0+j) (qB X m)=qa (vD l):=by
   unfold qB;rw[qCG,List.take_append_of_le_length (by rw[qg];omega),qaV,hc]
  rw[hcl];show(MV.sl 0 (j - 0),(qB8 (0+j) (qB X m)++qCr (n - j) [AV.int .i64 (0:Int),.int .i64 (0:Int),.str [],.nilS])++qCk (0+j+(n - j)) (qB X m))=_;rw[ht,List.append_assoc,Nat.sub_zero];rfl
 intro d
 induction d with
 |zero=>intro i j m p hm hi hj hp hq hc hd;exact fin i j m p hm hi hj hp hc (by omega)
 |succ d ih=>
  intro i j m p hm hi hj hp hq hc hd
  by_cases hlt:k+i<n
  case neg=>exact fin i j m p hm hi hj hp hc (by omega)
  obtain⟨x,hx⟩:=qK (l:=l) (i:=k+i) (by omega);obtain⟨i,rfl⟩:∃q,i=q+1:=⟨i - 1,by omega⟩;have hmx:m[k+(i+1)]? =some x:=by rw[hq _ (by omega),hx]
  have hmp:m[k+i]? =some p:=by rw[hq _ (by omega),←hp];congr 1
  have hs:=qbo (b:=p) (hw x (qCc hx));refine qfP _ _ _ _ _ ?_;rw[show((n - qB7 (k:Int):Nat))=n - k from by rw[qCi],qCK (show((i+1:Nat):Int)<((n - k:Nat):Int) by omega),wr0 (by omega),wr1 (show i+1<4398046511104 by omega),wr1 (show j<4398046511104 by omega)];simp -implicitDefEqProofs only[cond_true,cond_false,qCj,qCm,qb,qj,show qB4 4 4=true from rfl,qm,qk,qF,qq,qp,rdB (show i+1<n - k by omega),rdB (show i<n - k by omega),rdG2 hmx,rdG2 hmp,hs]
  rw[qri hx,ddT]at hc;have hp':l[k+(i+1+1) - 1]? =some x:=hx;have hq':∀q,k+(i+1+1) - 1<=q->m[q]? =l[q]? :=λq h=>hq q (by omega)
  by_cases he:x=p
  ·rw[qCK he];rw[qCM he]at hc;simp only[qCj,cond_false];exact ih (i+1+1) j m x hm (by omega) (by omega) hp' hq' hc (by omega)
  ·rw[qCL he];rw[qCN he]at hc;obtain⟨y,hy⟩:=qK (l:=m) (i:=j) (by omega);simp -implicitDefEqProofs only[cond_true,cond_false,qCj,qCm,qb,qj,show qB4 4 4=true from rfl,qm,qk,qF,qq,qp,rdB (show i+1<n - k by omega),rdG2 hmx,rdB (show j<n by omega),rdG hy,sw6 (show j<m.length by omega)];refine ih (i+1+1) (j+1) _ x (by rw[List.length_set];exact hm) (by omega) (by omega) hp' (λq h=>?_) ?_ (by omega)
   ·rw[List.getElem?_set_ne (by omega)];exact hq' q h
   ·rw[qmp (by omega),List.append_assoc];exact hc
theorem qwP{n:Nat}(hn:n<1099511627776){l:List Tm}(hl:l.length=n)(hw:∀x∈l,x.w<1099511627776):
  ∀(d k:Nat) (p:Tm),1<=k->k<=n->l[k - 1]? =some p->vD l=l.take k++ddT p (l.drop k)->n<=k+d->Gets (qdX n (k:Int) (qB X l)) (qlc l):=by
 have fin:∀(k:Nat) (p:Tm),k<=n->vD l=l.take k++ddT p (l.drop k)->n<=k->Gets (qdX n (k:Int) (qB X l)) (qlc l):=by
  intro k p hk hc hd;refine qfQ _ _ _ ?_;rw[qCs (by omega),ddT,List.append_nil,qCd (by omega)]at hc;rw[qCL (by omega)];exact⟨_,rfl,X,by rw[hc,hl]⟩
 intro d
 induction d with
 |zero=>intro k p h1 hk hp hc hd;exact fin k p hk hc (by omega)
 |succ d ih=>
  intro k p h1 hk hp hc hd
  by_cases hlt:k<n
  case neg=>exact fin k p hk hc (by omega)
  obtain⟨x,hx⟩:=qK (l:=l) (i:=k) (by omega);obtain⟨k,rfl⟩:∃q,k=q+1:=⟨k - 1,by omega⟩;have hp0:l[k]? =some p:=hp;have hs:=qbo (b:=p) (hw x (qCc hx));refine qfQ _ _ _ ?_;rw[qCK (show((k+1:Nat):Int)<(n:Int) by omega),wr0 (by omega),wr1 (show k+1<4398046511104 by omega)];simp -implicitDefEqProofs only[cond_true,cond_false,qCj,qCm,qb,qj,show qB4 4 4=true from rfl,qm,qk,qF,qq,qp,rdB (show k+1<n by omega),rdB (show k<n by omega),rdG hx,rdG hp0,hs,rd1 (show k+1<=n by omega)]
  have hc0:=hc;rw[qri hx,ddT]at hc
  by_cases he:x=p
  ·rw[qCK he];rw[qCM he]at hc;simp only[cond_true];exact qyj hn hl hw hk (n - (k+1)) 1 (k+1) l x hl (qCa _) (by omega) hx (λq _=>rfl) hc (by omega)
  ·rw[qCL he];rw[qCN he]at hc;simp only[cond_false];exact ih (k+1+1) x (by omega) (by omega) hx (by rw[qln hx,List.append_assoc];exact hc) (by omega)
theorem qwQ{n:Nat}(hn:n<1099511627776){l:List Tm}(hl:l.length=n)(hw:∀x∈l,x.w<1099511627776):
  Gets (EVm (EV cfg) 30 [.ms 0 0 n,.fn (Fn.func 31) [] []] 4 (qB X l)) (qlc l):=by
 refine qpe _ _ ?_
 by_cases h2:n<2
 ·rw[qCK (show(n:Int)<2 by omega)];have hc:vD l=l:=by
   cases l with
   |nil=>rfl
   |cons x l=>
    cases l with
    |nil=>rfl
    |cons y l=>simp at hl;omega
  exact⟨_,rfl,X,by rw[hc,hl]⟩
 ·rw[qCL (show ¬(n:Int)<2 by omega)];cases l with
  |nil=>simp at hl;omega
  |cons x l=>exact qwP hn hl hw n 1 x (qCa _) (by omega) rfl rfl (by omega)
end Go.Proofs.YtgleolmhpmljhaaGreat
end
noncomputable section
namespace Go.Av
theorem qjl{x:Nat}(h:1<=x)(hx:x<4398046511104):qBZ .i64 ((x:Int) - 1)=((x - 1:Nat):Int):=by rw[qt (by omega) (by omega)];omega
theorem shrK{x y:Nat}{α:Type}(h:x+y<4398046511104)(K:Int->Option α):(kOpt (qn (Op.shift BinOp.shr .u64 (qBZ .u64 (qBZ .i64 ((x:Int)+(y:Int)))) .u64 (1:Int))) fun(v:AV)=>kInt .u64 v λn=>K n)=K (((x+y) / 2:Nat):Int):=by
 rw[shr1 h];rfl
end Go.Av
namespace Go.Proofs.YtgleolmhpmljhaaGreat
open Go.Av
theorem qmr{n i:Nat}(hn:n<1099511627776)(hi:1<=i)(hin:i<=n):∀(d k:Nat) (l:List Rg),l.length=n->i<=k+1+d->Gets (qew n (i:Int) (k:Int) (qD l)) (xi l):=by
 intro d
 induction d with
 |zero=>
  intro k l hl hd;refine qfh _ _ _ _ ?_;rw[qjl hi (by omega),qCL (by omega)];exact⟨_,rfl,l,List.Perm.refl _,rfl⟩
 |succ d ih=>
  intro k l hl hd;refine qfh _ _ _ _ ?_;rw[qjl hi (by omega)]
  by_cases h:k<i - 1
  case neg=>
   rw[qCL (by omega)];exact⟨_,rfl,l,List.Perm.refl _,rfl⟩
  obtain⟨x,hx⟩:=yZ (l:=l) (i:=k) (by omega);obtain⟨y,hy⟩:=yZ (l:=l) (i:=k+1) (by omega);rw[qCK (show(k:Int)<((i - 1:Nat):Int) by omega),wr1 (show k<4398046511104 by omega)];simp -implicitDefEqProofs only[cond_true,cond_false,qCj,qCm,qb,rgB2,rgT2,rgD2,vq,vt,vR,qi,rdB (show k<n by omega),rdB (show k+1<n by omega),rgG hx,rgG hy,rg2 hx hy,rg4,rg3 hx hy]
  exact(ih (k+1) _ (by rw[vF];exact hl) (by omega)).mono λr hr=>hr.trans (qH _ _ _)
theorem qmq{n i:Nat}(hn:n<1099511627776):∀(k:Nat) (l:List Rg),l.length=n->k<n->Gets (qev n (i:Int) (k:Int) (qD l)) (xi l):=by
 intro k
 induction k with
 |zero=>
  intro l hl hk;refine qfg _ _ _ _ ?_;rw[qCL (by omega)];exact⟨_,rfl,l,List.Perm.refl _,rfl⟩
 |succ k ih=>
  intro l hl hk;refine qfg _ _ _ _ ?_
  by_cases h:i<k+1
  case neg=>
   rw[qCL (by omega)];exact⟨_,rfl,l,List.Perm.refl _,rfl⟩
  obtain⟨x,hx⟩:=yZ (l:=l) (i:=k+1) (by omega);obtain⟨y,hy⟩:=yZ (l:=l) (i:=k) (by omega);rw[qCK (show((k+1:Nat):Int)>(i:Int) by omega),wr0 (by omega)];simp -implicitDefEqProofs only[cond_true,cond_false,qCj,qCm,qb,rgB2,rgT2,rgD2,vq,vt,vR,qi,rdB (show k+1<n by omega),rdB (show k<n by omega),rgG hx,rgG hy,rg2 hx hy,rg4,rg3 hx hy];exact(ih _ (by rw[vF];exact hl) (by omega)).mono λr hr=>hr.trans (qH _ _ _)
theorem qrL{n a:Nat}(hn:n<1099511627776)(ha:a<n){l:List Rg}(hl:l.length=n)(hok:AllW l):∀(d i j:Nat),1<=i->i<=j->j<=n->j<=i+d->Gets (qcH n a (i:Int) (j:Int) (qD l)) (xi l):=by
 intro d
 induction d with
 |zero=>
  intro i j hi hij hj hd;refine qfk _ _ _ _ _ ?_;rw[qCL (by omega)];exact qmr hn hi (by omega) i a l hl (by omega)
 |succ d ih=>
  intro i j hi hij hj hd;refine qfk _ _ _ _ _ ?_
  by_cases h:i<j
  case neg=>
   rw[qCL (by omega)];exact qmr hn hi (by omega) i a l hl (by omega)
  rw[qCK (show(i:Int)<(j:Int) by omega),cond_true,shrK (by omega)];have hc1:i<=(i+j) / 2:=by omega
  have hc2:(i+j) / 2<j:=by omega
  generalize (i+j) / 2=c at *;obtain⟨x,hx⟩:=yZ (l:=l) (i:=c) (by omega);obtain⟨y,hy⟩:=yZ (l:=l) (i:=a) (by omega);have hc:=qdt (hok.at hx) (hok.at hy);rw[wid (by omega),wr1 (by omega)];simp -implicitDefEqProofs only[cond_true,cond_false,qCj,qCm,qb,rgB2,rgT2,rgD2,vq,vt,vR,qi,rdB (show c<n by omega),rdB (show a<n by omega),rgG hx,rgG hy,hc]
  cases decide (qg0 x y<0)with
  |true=>exact ih (c+1) j (by omega) (by omega) hj (by omega)
  |false=>exact ih i c hi hc1 (by omega) (by omega)
theorem qrK{n m:Nat}(hn:n<1099511627776)(hm:m<n){l:List Rg}(hl:l.length=n)(hok:AllW l):∀(d i j:Nat),i<=j->j<=n->j<=i+d->Gets (qcG n m (i:Int) (j:Int) (qD l)) (xi l):=by
 intro d
 induction d with
 |zero=>
  intro i j hij hj hd;refine qfj _ _ _ _ _ ?_;rw[qCL (by omega)];exact qmq hn m l hl hm
 |succ d ih=>
  intro i j hij hj hd;refine qfj _ _ _ _ _ ?_
  by_cases h:i<j
  case neg=>
   rw[qCL (by omega)];exact qmq hn m l hl hm
  rw[qCK (show(i:Int)<(j:Int) by omega),cond_true,shrK (by omega)];have hc1:i<=(i+j) / 2:=by omega
  have hc2:(i+j) / 2<j:=by omega
  generalize (i+j) / 2=c at *;obtain⟨x,hx⟩:=yZ (l:=l) (i:=m) (by omega);obtain⟨y,hy⟩:=yZ (l:=l) (i:=c) (by omega);have hc:=qdt (hok.at hx) (hok.at hy);rw[wid (by omega),wr1 (by omega)];simp -implicitDefEqProofs only[cond_true,cond_false,qCj,qCm,qb,rgB2,rgT2,rgD2,vq,vt,vR,qi,rdB (show m<n by omega),rdB (show c<n by omega),rgG hx,rgG hy,hc]
  cases decide (qg0 x y<0)with
  |true=>
   simp only[qCj,cond_false];exact ih i c hc1 (by omega) (by omega)
  |false=>
   simp only[qCm,cond_true];exact ih (c+1) j (by omega) hj (by omega)
theorem qtF{n a m b mid st:Nat}(hn:n<1099511627776)(hb:b<=n)(hmb:m<b)(has:a<=st)(hmid:mid<b)(ham:a<mid)(hst:mid+m<=st+b)(hsm:st<=mid+m)(ih:∀(a' m' b':Nat) (l:List Rg),b' - a'<b - a->a'<m'->m'<b'->b'<=n->l.length=n->AllW l->Gets (EVm (EV cfg) 121 [.ms 0 0 n,.int .i64 (a':Int),.int .i64 (m':Int),.int .i64 (b':Int),ahF] 2 (qD l)) (xi l)){l:List Rg}(hl:l.length=n)(hok:AllW l):
  (∀(l2:List Rg),l2.Perm l->Gets (bif decide ((mid:Int)<((mid+m - st:Nat):Int))then bif decide (((mid+m - st:Nat):Int)<(b:Int))then kOpt (EVm (EV cfg) 121 [.ms 0 0 n,.int .i64 (mid:Int),.int .i64 ((mid+m - st:Nat):Int),.int .i64 (b:Int),ahF] 2 (qD l2)) fun(q:MV×List (List AV))=>qx q.1 (some (MV.unit,q.2))else some (MV.unit,qD l2)else some (MV.unit,qD l2)) (xi l))∧(∀(l2:List Rg),l2.Perm l->Gets (bif decide ((a:Int)<(st:Int))then bif decide ((st:Int)<(mid:Int))then kOpt (EVm (EV cfg) 121 [.ms 0 0 n,.int .i64 (a:Int),.int .i64 (st:Int),.int .i64 (mid:Int),ahF] 2 (qD l2)) fun(q:MV×List (List AV))=>qx q.1 (bif decide ((mid:Int)<((mid+m - st:Nat):Int))then bif decide (((mid+m - st:Nat):Int)<(b:Int))then kOpt (EVm (EV cfg) 121 [.ms 0 0 n,.int .i64 (mid:Int),.int .i64 ((mid+m - st:Nat):Int),.int .i64 (b:Int),ahF] 2 q.2) fun(q:MV×List (List AV))=>qx q.1 (some (MV.unit,q.2))else some (MV.unit,q.2)else some (MV.unit,q.2))else bif decide ((mid:Int)<((mid+m - st:Nat):Int))then bif decide (((mid+m - st:Nat):Int)<(b:Int))then kOpt (EVm (EV cfg) 121 [.ms 0 0 n,.int .i64 (mid:Int),.int .i64 ((mid+m - st:Nat):Int),.int .i64 (b:Int),ahF] 2 (qD l2)) fun(q:MV×List (List AV))=>qx q.1 (some (MV.unit,q.2))else some (MV.unit,qD l2)else some (MV.unit,qD l2)else bif decide ((mid:Int)<((mid+m - st:Nat):Int))then bif decide (((mid+m - st:Nat):Int)<(b:Int))then kOpt (EVm (EV cfg) 121 [.ms 0 0 n,.int .i64 (mid:Int),.int .i64 ((mid+m - st:Nat):Int),.int .i64 (b:Int),ahF] 2 (qD l2)) fun(q:MV×List (List AV))=>qx q.1 (some (MV.unit,q.2))else some (MV.unit,qD l2)else some (MV.unit,qD l2)) (xi l)):=by
 have r2:∀(l2:List Rg),l2.Perm l->Gets (bif decide ((mid:Int)<((mid+m - st:Nat):Int))then bif decide (((mid+m - st:Nat):Int)<(b:Int))then kOpt (EVm (EV cfg) 121 [.ms 0 0 n,.int .i64 (mid:Int),.int .i64 ((mid+m - st:Nat):Int),.int .i64 (b:Int),ahF] 2 (qD l2)) fun(q:MV×List (List AV))=>qx q.1 (some (MV.unit,q.2))else some (MV.unit,qD l2)else some (MV.unit,qD l2)) (xi l):=by
  intro l2 hp
  by_cases h1:mid<mid+m - st
  case neg=>
   rw[qCL (show ¬(mid:Int)<((mid+m - st:Nat):Int) by omega)];exact⟨_,rfl,l2,hp,rfl⟩
  by_cases h2:mid+m - st<b
  case neg=>
   rw[qCL (show ¬((mid+m - st:Nat):Int)<(b:Int) by omega)];cases decide ((mid:Int)<((mid+m - st:Nat):Int))<;>exact⟨_,rfl,l2,hp,rfl⟩
  rw[qCK (show(mid:Int)<((mid+m - st:Nat):Int) by omega),qCK (show((mid+m - st:Nat):Int)<(b:Int) by omega),cond_true,cond_true];refine Gets.bind (ih mid (mid+m - st) b l2 (by omega) h1 h2 hb (by rw[hp.length_eq];exact hl) (hok.perm hp)) ?_;rintro _ ⟨l3,h3,rfl⟩;exact⟨_,rfl,l3,h3.trans hp,rfl⟩
 refine⟨r2,?_⟩;intro l2 hp
 by_cases h1:a<st
 case neg=>
  rw[qCL (show ¬(a:Int)<(st:Int) by omega)];exact r2 l2 hp
 by_cases h2:st<mid
 case neg=>
  rw[qCL (show ¬(st:Int)<(mid:Int) by omega)];cases decide ((a:Int)<(st:Int))<;>exact r2 l2 hp
 rw[qCK (show(a:Int)<(st:Int) by omega),qCK (show(st:Int)<(mid:Int) by omega),cond_true,cond_true];refine Gets.bind (ih a st mid l2 (by omega) h1 h2 (by omega) (by rw[hp.length_eq];exact hl) (hok.perm hp)) ?_;rintro _ ⟨l3,h3,rfl⟩;rw[qU];exact r2 l3 (h3.trans hp)
theorem qtG{n a m b mid:Nat}(hn:n<1099511627776)(hb:b<=n)(ham:a<m)(hmb:m<b)(hmid:mid<b)(ha:a<mid)(ih:∀(a' m' b':Nat) (l:List Rg),b' - a'<b - a->a'<m'->m'<b'->b'<=n->l.length=n->AllW l->Gets (EVm (EV cfg) 121 [.ms 0 0 n,.int .i64 (a':Int),.int .i64 (m':Int),.int .i64 (b':Int),ahF] 2 (qD l)) (xi l)){l:List Rg}(hl:l.length=n)(hok:AllW l):∀(d st r:Nat),a<=st->mid+m<=st+b->st<=r->r<=m->r<=mid->r<=st+d->Gets (qaA n a m b mid (st:Int) (r:Int) (qD l)) (xi l):=by
 have fin:∀st r:Nat,a<=st->mid+m<=st+b->st=r->r<=m->r<=mid->Gets (qaA n a m b mid (st:Int) (r:Int) (qD l)) (xi l):=by
  intro st r h1 h2 h3 h4 h5;obtain⟨r2,r1⟩:=qtF hn hb hmb h1 hmid ha h2 (by omega) ih hl hok;refine qfi _ _ _ _ _ _ _ _ ?_;unfold zu0 zu1 zu4 zu5 zu6 zu2 zu3;rw[qCL (show ¬(st:Int)<(r:Int) by omega),cond_false,wid (show mid<4398046511104 by omega),wadd (show mid+m<4398046511104 by omega),wsub (x:=mid+m) (y:=st) (by omega) (by omega)]
  by_cases g1:st<m
  case neg=>
   rw[qCL (show ¬(st:Int)<(m:Int) by omega),cond_false];exact r1 l (List.Perm.refl _)
  by_cases g2:m<mid+m - st
  case neg=>
   rw[qCK (show(st:Int)<(m:Int) by omega),qCL (show ¬(m:Int)<((mid+m - st:Nat):Int) by omega),cond_true,cond_false];exact r1 l (List.Perm.refl _)
  rw[qCK (show(st:Int)<(m:Int) by omega),qCK (show(m:Int)<((mid+m - st:Nat):Int) by omega),cond_true,cond_true];refine Gets.bind (qxY hn g1 g2 (by omega) hl) ?_;rintro _ ⟨l2,hp,rfl⟩;rw[qU];exact r1 l2 hp
 intro d
 induction d with
 |zero=>intro st r h1 h2 h3 h4 h5 h6;exact fin st r h1 h2 (by omega) h4 h5
 |succ d ihd=>
  intro st r h1 h2 h3 h4 h5 h6
  by_cases h:st<r
  case neg=>exact fin st r h1 h2 (by omega) h4 h5
  refine qfi _ _ _ _ _ _ _ _ ?_;unfold zu0 zu1 zu4 zu5 zu6 zu2 zu3;rw[qCK (show(st:Int)<(r:Int) by omega),cond_true,shrK (by omega)];have hc1:st<=(st+r) / 2:=by omega
  have hc2:(st+r) / 2<r:=by omega
  generalize (st+r) / 2=c at *;rw[wid (show mid<4398046511104 by omega),wadd (show mid+m<4398046511104 by omega),qjl (show 1<=mid+m by omega) (by omega),wid (show c<4398046511104 by omega),wsub (x:=mid+m - 1) (y:=c) (by omega) (by omega),wr1 (show c<4398046511104 by omega)];obtain⟨x,hx⟩:=yZ (l:=l) (i:=mid+m - 1 - c) (by omega);obtain⟨y,hy⟩:=yZ (l:=l) (i:=c) (by omega);have hc:=qdt (hok.at hx) (hok.at hy)
  simp -implicitDefEqProofs only[cond_true,cond_false,qCj,qCm,qb,rgB2,rgT2,rgD2,vq,vt,vR,qi,rdB (show mid+m - 1 - c<n by omega),rdB (show c<n by omega),rgG hx,rgG hy,hc];cases decide (qg0 x y<0)with
  |true=>
   simp only[qCj,cond_false];exact ihd st c h1 h2 hc1 (by omega) (by omega) (by omega)
  |false=>
   simp only[qCm,cond_true];exact ihd (c+1) r (by omega) (by omega) (by omega) h4 h5 (by omega)
theorem qn2{n:Nat}(hn:n<1099511627776):∀(s a m b:Nat) (l:List Rg),b - a<=s->a<m->m<b->b<=n->l.length=n->AllW l->Gets (EVm (EV cfg) 121 [.ms 0 0 n,.int .i64 (a:Int),.int .i64 (m:Int),.int .i64 (b:Int),ahF] 2 (qD l)) (xi l):=by
 intro s
 induction s with
 |zero=>intro a m b l hs ham hmb;omega
 |succ s ih=>
  intro a m b l hs ham hmb hb hl hok;refine qvR _ _ _ _ _ ?_;rw[wsub (show a<=m by omega) (by omega),wsub (show m<=b by omega) (by omega)]
  by_cases h1:m - a=1
  ·rw[h1];exact qrL hn (by omega) hl hok (b - m) m b (by omega) (by omega) hb (by omega)
  rw[show(((m - a:Nat):Int)==1)=false from beq_false_of_ne (by omega),cond_false]
  by_cases h2:b - m=1
  ·rw[h2];exact qrK hn (by omega) hl hok (m - a) a m (by omega) (by omega) (by omega)
  rw[show(((b - m:Nat):Int)==1)=false from beq_false_of_ne (by omega),cond_false,shrK (by omega)];have hc1:2*((a+b) / 2)<=a+b:=by omega
  have hc2:a+b<=2*((a+b) / 2)+1:=by omega
  generalize (a+b) / 2=mid at *;have ih':∀(a' m' b':Nat) (l:List Rg),b' - a'<b - a->a'<m'->m'<b'->b'<=n->l.length=n->AllW l->Gets (EVm (EV cfg) 121 [.ms 0 0 n,.int .i64 (a':Int),.int .i64 (m':Int),.int .i64 (b':Int),ahF] 2 (qD l)) (xi l):=λa' m' b' l h1 h2 h3 h4 h5 h6=>ih a' m' b' l (by omega) h2 h3 h4 h5 h6
  have hmain:=qtG (mid:=mid) hn hb ham hmb (by omega) (by omega) ih' hl hok;rw[wid (show mid<4398046511104 by omega),wadd (show mid+m<4398046511104 by omega)]
  by_cases h3:mid<m
  ·rw[qCK (show(m:Int)>(mid:Int) by omega),cond_true,wsub (x:=mid+m) (y:=b) (by omega) (by omega)];exact hmain mid (mid+m - b) mid (by omega) (by omega) (by omega) (by omega) (by omega) (by omega)
  ·rw[qCL (show ¬(m:Int)>(mid:Int) by omega),cond_false];exact hmain m a m (by omega) (by omega) (by omega) (by omega) (by omega) (by omega)
theorem qpS{n:Nat}(hn:n<137438953472){v:Nat}(hv:1<=v)(hvn:v<n){Q:MV×List (List AV)->Prop}{l0:List Rg}(next:∀l:List Rg,l.Perm l0->Gets (qcq n n ((2*v:Nat):Int) (qD l)) Q):∀(d a:Nat) (l:List Rg),l.Perm l0->l.length=n->AllW l->a<=n->n<=a+d->Gets (qha n n v (a:Int) ((a+2*v:Nat):Int) (qD l)) Q:=by
 have w2:qBZ .i64 ((2:Int)*(v:Int))=((2*v:Nat):Int):=by rw[qt (by omega) (by omega)];omega
 have w3:qBZ .i64 ((v:Int)*(2:Int))=((2*v:Nat):Int):=by rw[qt (by omega) (by omega)];omega
 intro d
 induction d with
 |zero=>
  intro a l hp hl hok ha hd;refine qfD _ _ _ _ _ _ ?_;rw[w2,w3,qCL (show ¬((a+2*v:Nat):Int)<=(n:Int) by omega),cond_false,wadd (x:=a) (y:=v) (by omega),qCL (show ¬((a+v:Nat):Int)<(n:Int) by omega),cond_false];exact next l hp
 |succ d ih=>
  intro a l hp hl hok ha hd;refine qfD _ _ _ _ _ _ ?_;rw[w2,w3,wadd (x:=a) (y:=v) (by omega),wadd (x:=a+2*v) (y:=2*v) (by omega)]
  by_cases h:a+2*v<=n
  ·rw[qCK (show((a+2*v:Nat):Int)<=(n:Int) by omega),cond_true];refine Gets.bind (qn2 (by omega) (2*v) a (a+v) (a+2*v) l (by omega) (by omega) (by omega) h hl hok) ?_;rintro _ ⟨l2,h2,rfl⟩;rw[qU];exact ih (a+2*v) l2 (h2.trans hp) (by rw[h2.length_eq];exact hl) (hok.perm h2) h (by omega)
  ·rw[qCL (show ¬((a+2*v:Nat):Int)<=(n:Int) by omega),cond_false]
   by_cases h2:a+v<n
   ·rw[qCK (show((a+v:Nat):Int)<(n:Int) by omega),cond_true];refine Gets.bind (qn2 (by omega) (n - a) a (a+v) n l (by omega) (by omega) (by omega) (by omega) hl hok) ?_;rintro _ ⟨l2,h2,rfl⟩;rw[qU];exact next l2 (h2.trans hp)
   ·rw[qCL (show ¬((a+v:Nat):Int)<(n:Int) by omega),cond_false];exact next l hp
theorem qtL{n:Nat}(hn:n<137438953472):∀(d v:Nat) (l:List Rg),1<=v->n<=v+d->l.length=n->AllW l->Gets (qcq n n (v:Int) (qD l)) (xi l):=by
 intro d
 induction d with
 |zero=>
  intro v l hv hd hl hok;refine qfE _ _ _ _ ?_;rw[qCL (by omega)];exact⟨_,rfl,l,List.Perm.refl _,rfl⟩
 |succ d ih=>
  intro v l hv hd hl hok;refine qfE _ _ _ _ ?_
  by_cases h:v<n
  case neg=>
   rw[qCL (by omega)];exact⟨_,rfl,l,List.Perm.refl _,rfl⟩
  have w2:qBZ .i64 ((2:Int)*(v:Int))=((0+2*v:Nat):Int):=by rw[qt (by omega) (by omega)];omega
  rw[qCK (show(v:Int)<(n:Int) by omega),cond_true,w2];exact qpS hn hv h (l0:=l) (λl2 h2=>(ih (2*v) l2 (by omega) (by omega) (by rw[h2.length_eq];exact hl) (hok.perm h2)).mono λr hr=>hr.trans h2) n 0 l (List.Perm.refl _) hl hok (by omega) (by omega)
theorem qpT{n:Nat}(hn:n<137438953472){l0:List Rg}:∀(d a:Nat) (l:List Rg),l.Perm l0->l.length=n->AllW l->a<=n->n<=a+d->Gets (qdU n n (a:Int) ((a+20:Nat):Int) (qD l)) (xi l0):=by
 have fin:∀(a:Nat) (l:List Rg),l.Perm l0->l.length=n->AllW l->a<=n->n<a+20->Gets (qdU n n (a:Int) ((a+20:Nat):Int) (qD l)) (xi l0):=by
  intro a l hp hl hok ha hd;refine qfF _ _ _ _ _ ?_;rw[qCL (show ¬((a+20:Nat):Int)<=(n:Int) by omega),cond_false];refine Gets.bind (qrc (by omega) (qCa _) ha hl hok) ?_;rintro _ ⟨l2,h2,rfl⟩;rw[qU];exact(qtL hn n 20 l2 (by omega) (by omega) (by rw[h2.length_eq];exact hl) (hok.perm h2)).mono λr hr=>hr.trans (h2.trans hp)
 intro d
 induction d with
 |zero=>intro a l hp hl hok ha hd;exact fin a l hp hl hok ha (by omega)
 |succ d ih=>
  intro a l hp hl hok ha hd
  by_cases h:a+20<=n
  case neg=>exact fin a l hp hl hok ha (by omega)
  refine qfF _ _ _ _ _ ?_;have w:qBZ .i64 (((a+20:Nat):Int)+20)=((a+20+20:Nat):Int):=by rw[qt (by omega) (by omega)];omega
  rw[qCK (show((a+20:Nat):Int)<=(n:Int) by omega),cond_true,w];refine Gets.bind (qrc (by omega) h ha hl hok) ?_;rintro _ ⟨l2,h2,rfl⟩;rw[qU];exact ih (a+20) l2 (h2.trans hp) (by rw[h2.length_eq];exact hl) (hok.perm h2) h (by omega)
theorem qvW{n:Nat}(hn:n<137438953472){l:List Rg}(hl:l.length=n)(hok:AllW l):
  Gets (EVm (EV cfg) 56 [.ms 0 0 n,ahF] 2 (qD l)) (xi l):=by
 refine qtP _ _ ?_;refine Gets.bind (qtK _ _ _ (qpT hn n 0 l (List.Perm.refl _) hl hok (by omega) (by omega))) ?_;rintro _ ⟨l2,h2,rfl⟩;exact⟨_,rfl,l2,h2,rfl⟩
def qAR:Den:=evC cfg (EV cfg) 7 none 0 (sub (qc Tryz.f7) [1,1,1,1,1,0,1,0,0])
def qBq:Ex×List AV×AH->Option AV:=kAft (Cfg.keepOut cfg 7 9) (kRun cfg (EV cfg) (kfN cfg 6) 7 none 0 (vL cfg (Cfg.lift cfg 7 0) Tryz.f7.results.toList) ([.block 1,.seq (sub (qc Tryz.f7) [1,1,1,1,1,1])]))
def qAt:List AV×AH->Option AV:=λp=>kOpt (LOOP 0 (some [1,4,8,9,32,33,34]) ([(8,4),(9,2)]) qAR p) qBq
def qg4:Den:=evC cfg (EV cfg) 22 none 4 (sub (qc Tryz.f22) [1,0,1,1,1,0,1,0,0])
def qg7(nv8:Nat)(nc2_0:Nat):Ex×List AV×AH→Option AV:=kAft (Cfg.keepOut cfg 22 (qh (sub (qc Tryz.f22) [1,0,1,1,1,0,1,0,0]))) (qO 0 (kSeq (fun(fr:List AV) (H:AH)=>qL (Cfg.cut cfg 22 (qh (sub (qc Tryz.f22) [1,0,1,1,1,1]))) fr H fun(fr:List AV) (H:AH)=>qG cfg (EV cfg) (kfN cfg (5)) 22 none 4 (sub (qc Tryz.f22) [1,0,1,1,1,1]) fr H (qa0 (vT cfg (Cfg.lift cfg 22 0) (fun(v:AV) (H:AH)=>(fun(r:AV×AH)=>qhD (Prod.snd r) (Prod.fst r) fun(x:AV)=>kOpt (xB none 4 x (qQ (AV.msIds (Prod.fst r)) (Prod.snd r))) fun(r:AV×AH)=>kTy noTy cfg (Oper.type { dst:=some 85,op:=Op.call { callee:=Callee.value (Operand.func 22),args:= #[Operand.tmp 84],argTypes:= #[27] },type:=27,pos:= "bound.go:78",after:= #[{ on:=0,ground:=Ground.data }],guard:=none }) (Prod.fst r) fun(v:AV)=>(fun(v:AV) (H':AH)=>kOps cfg (EV cfg) (kfN cfg 6) 7 22 (y3 (sub (qc Tryz.f7) [1,1,1,1,1,1,0])) (0+1+1) (qCk 2 (qCl (y3 (sub (qc Tryz.f7) [1,1,1,1,1,1,0])))) (put (fx 95 [(4,AV.ptr 0 0 0),(8,AV.ms 1 0 nv8),(9,AV.ptr 2 0 0),(84,AV.ms 3 0 nc2_0)]) (some 85) v) H' fun(fr':List AV) (H':AH)=>kSeq (fun(fr:List AV) (H:AH)=>qL (Cfg.cut cfg 7 (qh (sub (qc Tryz.f7) [1,1,1,1,1,1,1]))) fr H fun(fr:List AV) (H:AH)=>qG cfg (EV cfg) (kfN cfg 6) 7 none 0 (sub (qc Tryz.f7) [1,1,1,1,1,1,1]) fr H (kRun cfg (EV cfg) (kfN cfg 6) 7 none 0 (vL cfg (Cfg.lift cfg 7 0) (qCl (Func.results Tryz.f7))) [])) (kRun cfg (EV cfg) (kfN cfg 6) 7 none 0 (vL cfg (Cfg.lift cfg 7 0) (qCl (Func.results Tryz.f7))) []) Ex.normal fr' H') v (Prod.snd r)) (v,H)) (qCl (Func.results (Prod.snd (22,Tryz.f22))))))) (qa0 (vT cfg (Cfg.lift cfg 22 0) (fun(v:AV) (H:AH)=>(fun(r:AV×AH)=>qhD (Prod.snd r) (Prod.fst r) fun(x:AV)=>kOpt (xB none 4 x (qQ (AV.msIds (Prod.fst r)) (Prod.snd r))) fun(r:AV×AH)=>kTy noTy cfg (Oper.type { dst:=some 85,op:=Op.call { callee:=Callee.value (Operand.func 22),args:= #[Operand.tmp 84],argTypes:= #[27] },type:=27,pos:= "bound.go:78",after:= #[{ on:=0,ground:=Ground.data }],guard:=none }) (Prod.fst r) fun(v:AV)=>(fun(v:AV) (H':AH)=>kOps cfg (EV cfg) (kfN cfg 6) 7 22 (y3 (sub (qc Tryz.f7) [1,1,1,1,1,1,0])) (0+1+1) (qCk 2 (qCl (y3 (sub (qc Tryz.f7) [1,1,1,1,1,1,0])))) (put (fx 95 [(4,AV.ptr 0 0 0),(8,AV.ms 1 0 nv8),(9,AV.ptr 2 0 0),(84,AV.ms 3 0 nc2_0)]) (some 85) v) H' fun(fr':List AV) (H':AH)=>kSeq (fun(fr:List AV) (H:AH)=>qL (Cfg.cut cfg 7 (qh (sub (qc Tryz.f7) [1,1,1,1,1,1,1]))) fr H fun(fr:List AV) (H:AH)=>qG cfg (EV cfg) (kfN cfg 6) 7 none 0 (sub (qc Tryz.f7) [1,1,1,1,1,1,1]) fr H (kRun cfg (EV cfg) (kfN cfg 6) 7 none 0 (vL cfg (Cfg.lift cfg 7 0) (qCl (Func.results Tryz.f7))) [])) (kRun cfg (EV cfg) (kfN cfg 6) 7 none 0 (vL cfg (Cfg.lift cfg 7 0) (qCl (Func.results Tryz.f7))) []) Ex.normal fr' H') v (Prod.snd r)) (v,H)) (qCl (Func.results (Prod.snd (22,Tryz.f22))))))))
def qAs(nv8:Nat)(nc2_0:Nat):List AV×AH->Option AV:=fun(p:List AV×AH)=>kOpt (LOOP 4 (some [3,10,11,12]) [(3,2)] qg4 p) (qg7 nv8 nc2_0)
def qAQ:Den:=evC cfg (EV cfg) 22 none 4 (sub (qc Tryz.f22) [1,0,1,1,1,0,1,0,0,1,1,0,0,1,0,1,0,0])
def qBp(nv8:Nat)(nc2_0:Nat):Ex×List AV×AH->Option AV:=kAft (Cfg.keepOut cfg 22 (qh (sub (qc Tryz.f22) [1,0,1,1,1,0,1,0,0,1,1,0,0,1,0,1,0,0]))) (qO 2 (kSeq (fun(fr:List AV) (H:AH)=>qL (Cfg.cut cfg 22 (qh (sub (qc Tryz.f22) [1,0,1,1,1,0,1,0,0,1,1,0,0,1,1]))) fr H fun(fr:List AV) (H:AH)=>qG cfg (EV cfg) (kfN cfg 6) 22 none 4 (sub (qc Tryz.f22) [1,0,1,1,1,0,1,0,0,1,1,0,0,1,1]) fr H (qO 1 (kSeq (fun(fr:List AV) (H:AH)=>qL (Cfg.cut cfg 22 (qh (sub (qc Tryz.f22) [1,0,1,1,1,0,1,0,0,1,1,1]))) fr H fun(fr:List AV) (H:AH)=>qG cfg (EV cfg) (kfN cfg 6) 22 none 4 (sub (qc Tryz.f22) [1,0,1,1,1,0,1,0,0,1,1,1]) fr H (kLp 4 (some [3,10,11,12]) [(3,2)] qg4 (qg7 nv8 nc2_0))) (kLp 4 (some [3,10,11,12]) [(3,2)] qg4 (qg7 nv8 nc2_0))))) (qO 1 (kSeq (fun(fr:List AV) (H:AH)=>qL (Cfg.cut cfg 22 (qh (sub (qc Tryz.f22) [1,0,1,1,1,0,1,0,0,1,1,1]))) fr H fun(fr:List AV) (H:AH)=>qG cfg (EV cfg) (kfN cfg 6) 22 none 4 (sub (qc Tryz.f22) [1,0,1,1,1,0,1,0,0,1,1,1]) fr H (kLp 4 (some [3,10,11,12]) [(3,2)] qg4 (qg7 nv8 nc2_0))) (kLp 4 (some [3,10,11,12]) [(3,2)] qg4 (qg7 nv8 nc2_0))))))
def qAr(nv8:Nat)(nc2_0:Nat):List AV×AH->Option AV:=fun(p:List AV×AH)=>kOpt (LOOP 4 (some [3,5,10,11,12,16,17,18]) [(3,2),(16,2)] qAQ p) (qBp nv8 nc2_0)
def qAP:Den:=evC cfg (EV cfg) 23 none 4 (sub (qc Tryz.f23) [1,1,1,0,1,0,0])
def qBo(nv8:Nat)(nc2_0:Nat)(nv3:Nat)(h4:Rz):Ex×List AV×AH→Option AV:=kAft (Cfg.keepOut cfg 23 (qh (sub (qc Tryz.f23) [1,1,1,0,1,0,0]))) (qO 0 (kSeq (fun(fr:List AV) (H:AH)=>qL (Cfg.cut cfg 23 (qh (sub (qc Tryz.f23) [1,1,1,1]))) fr H fun(fr:List AV) (H:AH)=>qG cfg (EV cfg) (kfN cfg (5)) 23 none 4 (sub (qc Tryz.f23) [1,1,1,1]) fr H (vT cfg (Cfg.lift cfg 23 0) (fun(v:AV) (H:AH)=>(fun(r:AV×AH)=>kOpt (xB none 4 (Prod.fst r) (Prod.snd r)) fun(r:AV×AH)=>kTy noTy cfg (Oper.type { dst:=some 88,op:=Op.call { callee:=Callee.value (Operand.func 23),args:= #[Operand.tmp 86,Operand.tmp 87],argTypes:= #[22,50] },type:=22,pos:= "bound.go:79",after:= #[{ on:=0,ground:=Ground.data },{ on:=1,ground:=Ground.data }],guard:=none }) (Prod.fst r) fun(v:AV)=>(fun(v:AV) (H':AH)=>kOps cfg (EV cfg) (kfN cfg 6) 7 23 (y3 (sub (qc Tryz.f7) [1,1,1,1,1,1,1,0])) (0+1+1+1) (qCk 3 (qCl (y3 (sub (qc Tryz.f7) [1,1,1,1,1,1,1,0])))) (put (fx 95 [(4,AV.ptr 0 0 0),(8,AV.ms 1 0 nv8),(9,AV.ptr 2 0 0),(84,AV.ms 3 0 nc2_0),(85,AV.sl (qB8 nv3 h4)),(86,AV.ms 1 0 nv8),(87,AV.fn (Fn.func 24) [] [AV.ptr 2 0 0])]) (some 88) v) H' fun(fr':List AV) (H':AH)=>kSeq (fun(fr:List AV) (H:AH)=>qL (Cfg.cut cfg 7 (qh (sub (qc Tryz.f7) [1,1,1,1,1,1,1,1]))) fr H fun(fr:List AV) (H:AH)=>qG cfg (EV cfg) (kfN cfg 6) 7 none 0 (sub (qc Tryz.f7) [1,1,1,1,1,1,1,1]) fr H (kRun cfg (EV cfg) (kfN cfg 6) 7 none 0 (vL cfg (Cfg.lift cfg 7 0) (qCl (Func.results Tryz.f7))) [])) (kRun cfg (EV cfg) (kfN cfg 6) 7 none 0 (vL cfg (Cfg.lift cfg 7 0) (qCl (Func.results Tryz.f7))) []) Ex.normal fr' H') v (Prod.snd r)) (v,H)) (qCl (Func.results (Prod.snd (23,Tryz.f23)))))) (vT cfg (Cfg.lift cfg 23 0) (fun(v:AV) (H:AH)=>(fun(r:AV×AH)=>kOpt (xB none 4 (Prod.fst r) (Prod.snd r)) fun(r:AV×AH)=>kTy noTy cfg (Oper.type { dst:=some 88,op:=Op.call { callee:=Callee.value (Operand.func 23),args:= #[Operand.tmp 86,Operand.tmp 87],argTypes:= #[22,50] },type:=22,pos:= "bound.go:79",after:= #[{ on:=0,ground:=Ground.data },{ on:=1,ground:=Ground.data }],guard:=none }) (Prod.fst r) fun(v:AV)=>(fun(v:AV) (H':AH)=>kOps cfg (EV cfg) (kfN cfg 6) 7 23 (y3 (sub (qc Tryz.f7) [1,1,1,1,1,1,1,0])) (0+1+1+1) (qCk 3 (qCl (y3 (sub (qc Tryz.f7) [1,1,1,1,1,1,1,0])))) (put (fx 95 [(4,AV.ptr 0 0 0),(8,AV.ms 1 0 nv8),(9,AV.ptr 2 0 0),(84,AV.ms 3 0 nc2_0),(85,AV.sl (qB8 nv3 h4)),(86,AV.ms 1 0 nv8),(87,AV.fn (Fn.func 24) [] [AV.ptr 2 0 0])]) (some 88) v) H' fun(fr':List AV) (H':AH)=>kSeq (fun(fr:List AV) (H:AH)=>qL (Cfg.cut cfg 7 (qh (sub (qc Tryz.f7) [1,1,1,1,1,1,1,1]))) fr H fun(fr:List AV) (H:AH)=>qG cfg (EV cfg) (kfN cfg 6) 7 none 0 (sub (qc Tryz.f7) [1,1,1,1,1,1,1,1]) fr H (kRun cfg (EV cfg) (kfN cfg 6) 7 none 0 (vL cfg (Cfg.lift cfg 7 0) (qCl (Func.results Tryz.f7))) [])) (kRun cfg (EV cfg) (kfN cfg 6) 7 none 0 (vL cfg (Cfg.lift cfg 7 0) (qCl (Func.results Tryz.f7))) []) Ex.normal fr' H') v (Prod.snd r)) (v,H)) (qCl (Func.results (Prod.snd (23,Tryz.f23)))))))
def qAq(nv8:Nat)(nc2_0:Nat)(nv3:Nat)(h4:Rz):List AV×AH->Option AV:=fun(p:List AV×AH)=>kOpt (LOOP 4 (some [0,1,5,6]) [] qAP p) (qBo nv8 nc2_0 nv3 h4)
abbrev qcJ(pos:Int)(rows:Rz)(nv8:Nat)(v34:Int)(c0_0:Bool)(c0_1 c0_2 h1:Rz)(nc2_0:Nat)(h3:Rz):Option (AV):=qAt (((fx 95 [(1,.int .i64 pos),(4,.ptr 0 0 0),(8,.ms 1 0 nv8),(9,.ptr 2 0 0),(32,.sl rows),(33,.int .i64 (rows.length:Int)),(34,.int .i64 v34)]):List AV),([.rows false 3 [[.bool c0_0,.sl c0_1,.sl c0_2]],.rows true 4 h1,.rows false 1 [[.ms 3 0 nc2_0]],.rows true 2 h3]:AH))
abbrev qbQ(nv8 nc2_0 nv3:Nat)(v12:Int)(c0_0:Bool)(c0_1 c0_2 h1:Rz)(nc2_0':Nat)(h3 h4:Rz):Option (AV):=qAs (nv8) (nc2_0) (((fx 32 [(3,.ms 4 0 nv3),(10,.ms 3 0 nc2_0),(11,.int .i64 (↑nc2_0:Int)),(12,.int .i64 v12)]):List AV),([.rows false 3 [[.bool c0_0,.sl c0_1,.sl c0_2]],.rows true 4 h1,.rows false 1 [[.ms 3 0 nc2_0']],.rows true 2 h3,.rows true 2 h4]:AH))
abbrev qjw(nv8 nc2_0 nv3:Nat)(v12 v18:Int)(c0_0:Bool)(c0_1 c0_2 h1:Rz)(nc2_0':Nat)(h3 h4:Rz)(c5_0:Int)(c5_1:Rz):Option (AV):=qAr (nv8) (nc2_0) (((fx 32 [(3,.ms 4 0 nv3),(5,.ptr 5 0 0),(10,.ms 3 0 nc2_0),(11,.int .i64 (↑nc2_0:Int)),(12,.int .i64 v12),(16,.ms 4 0 nv3),(17,.int .i64 (↑nv3:Int)),(18,.int .i64 v18)]):List AV),([.rows false 3 [[.bool c0_0,.sl c0_1,.sl c0_2]],.rows true 4 h1,.rows false 1 [[.ms 3 0 nc2_0']],.rows true 2 h3,.rows true 2 h4,.rows false 2 [[.int .i64 c5_0,.sl c5_1]]]:AH))
abbrev qdV(nv8 nc2_0 nv3:Nat)(h4:Rz)(v5 v6:Int)(c0_0:Bool)(c0_1 c0_2 h1 c2_0 h3:Rz):Option (AV):=qAq (nv8) (nc2_0) (nv3) (h4) (((fx 42 [(0,.ms 1 0 nv8),(1,.fn (Fn.func 24) [] [.ptr 2 0 0]),(5,.int .i64 v5),(6,.int .i64 v6)]):List AV),([.rows false 3 [[.bool c0_0,.sl c0_1,.sl c0_2]],.rows true 4 h1,.rows false 1 [[.sl c2_0]],.rows true 2 h3]:AH))
theorem qyq(kt nt:Int)(st:Bz)(lt:Rz)(pos:Int){P:AV->Prop}(h:Gets (kOpt (EVf (EV cfg) 17 [.agg [.int .i64 kt,.int .i64 nt,.str st,.sl lt]]) λv=>kTup v λcs=>qf cs λc cs=>kSl c λrows=>qf cs λc cs=>kInt .i64 c λn=>kNil cs (bif n != 0 then some (AV.tup [.agg [.bool false,.sl [],.sl []],.int .i64 n])else bif decide (pos<1)then some (AV.tup [.agg [.bool false,.sl [],.sl []],.int .i64 2])else bif decide (pos>64)then some (AV.tup [.agg [.bool false,.sl [],.sl []],.int .i64 2])else qcJ pos rows 0 0 false [] [] [] 0 [])) P):Gets (EVf (EV cfg) 7 [.agg [.int .i64 kt,.int .i64 nt,.str st,.sl lt],.int .i64 pos]) P:=
  gE (λ_=>funF rfl rfl Tryz.func7 rfl) (by kernel_rfl) h
theorem qh5(pos:Int)(rows:Rz)(nv8:Nat)(v34:Int)(c0_0:Bool)(c0_1 c0_2 h1:Rz)(nc2_0:Nat)(h3:Rz){P:AV->Prop}(h:Gets (bif decide (v34<(rows.length:Int))then bif qd 0 v34&&qe v34 (rows.length:Int)then kOpt (qB0 rows (v34.toNat)) λrow=>bif qCh (qB1 row) 6 then bif qB4 6 (qB1 row)then qf (qB8 6 row) λc cs=>kInt .i64 c λn=>qf cs λc cs=>kInt .i64 c λn_1=>qf cs λc cs=>kStr c λs=>qf cs λc cs=>kSl c λrows_1=>qf cs λc cs=>kSl c λrows_2=>qf cs λc cs=>kSl c λrows_3=>kNil cs (bif n != 7 then some (AV.tup [.agg [.bool true,.sl [],.sl []],.int .i64 0])else bif decide ((rows_1.length:Int)<pos)then qcJ pos rows nv8 (qBZ .i64 (v34+1)) c0_0 c0_1 c0_2 h1 nc2_0 h3 else bif qd 0 (qBZ .i64 (pos - 1))&&qe (qBZ .i64 (pos - 1)) (↑ (qB1 rows_1):Int)then kOpt (qB0 rows_1 (qB7 (qBZ .i64 (pos - 1)))) λrow=>bif qCh (qB1 row) 4 then bif qB4 4 (qB1 row)then kTmC (qB8 4 row) λn n_2 s rows_4=>(kOpt (EVs (EV cfg) 18 [.agg [.int .i64 n,.int .i64 n_2,.str s,.sl rows_4]]) λv=>qr v λb=>bif b then bif qB4 (0+nv8) (qB1 h1)&&qW (nv8+1) 56 then qcJ pos rows (nv8+1) (qBZ .i64 (v34+1)) c0_0 c0_1 c0_2 (qCu (qB8 nv8 h1) [[AV.int .i64 n,.int .i64 n_2,.str s,.sl rows_4]]) nc2_0 h3 else none else bif n==7 then kOpt (EVs (EV cfg) 19 [.sl rows_4,AV.fn (Fn.func 20) [] []]) λv=>kInt .i64 v λn=>bif qd 0 n&&qd n (rows_4.length:Int)then bif xl 4 rows_4 then kOpt (EVf (EV cfg) 21 [.sl (qB8 (qB7 n - 0) rows_4)]) λv=>kSl v λrows_5=>bif qB4 (0+nc2_0) (qB1 h3)&&qW (nc2_0+1) 32 then qcJ pos rows nv8 (qBZ .i64 (v34+1)) c0_0 c0_1 c0_2 h1 (nc2_0+1) (qCu (qB8 nc2_0 h3) [[AV.int .i64 (rows_4.length:Int),.sl rows_5]])else none else none else none else some (AV.tup [.agg [.bool true,.sl [],.sl []],.int .i64 0]))else none else none else none)else none else none else none else kOpt (EVm (EV cfg) 56 [.ms 0 0 nc2_0,AV.fn (Fn.func 57) [] []] 2 h3) λq=>qx q.1 (qbQ nv8 nc2_0 0 0 c0_0 c0_1 c0_2 h1 nc2_0 q.2 [])) P):Gets (qcJ pos rows nv8 v34 c0_0 c0_1 c0_2 h1 nc2_0 h3) P:=
  gE (λ_=>ql (cfg:=cfg) (f:=7) (rd:=none) (bs:=0)) (by kernel_rfl) h
theorem qh4(nv8 nc2_0 nv3:Nat)(v12:Int)(c0_0:Bool)(c0_1 c0_2 h1:Rz)(nc2_0':Nat)(h3 h4:Rz){P:AV->Prop}(h:Gets (bif decide (v12<(↑ nc2_0:Int))then bif qd 0 v12&&qe v12 (↑ nc2_0:Int)then kOpt (qB0 h3 (0+v12.toNat)) λrow=>bif qB4 2 (qB1 row)then qf (qB8 2 row) λc cs=>kInt .i64 c λn=>qf cs λc cs=>kSl c λrows=>kNil cs (qjw nv8 nc2_0 nv3 v12 0 c0_0 c0_1 c0_2 h1 nc2_0' h3 h4 n rows)else none else none else bif qB4 (0+nv3) (qB1 h4)&&true then bif qB4 (0+nv8) (qB1 h1)&&true then kOpt (EVs (EV cfg) 19 [.sl (qB8 nv8 h1),AV.fn (Fn.func 24) [] [AV.cptr [.sl (qB8 nv3 h4)] 0]]) λv=>kInt .i64 v λn=>bif n==(- 1)then kOpt (EVm (EV cfg) 28 [.ms 0 0 nv8,AV.fn (Fn.func 29) [] []] 4 h1) λq=>qx q.1 (kOpt (EVm (EV cfg) 30 [.ms 0 0 nv8,AV.fn (Fn.func 31) [] []] 4 q.2) λq=>kMSl q.1 (some (AV.tup [.agg [.bool false,.sl [],.sl (qB8 nv3 h4)],.int .i64 0])) λoff len=>bif qB4 (off+len) (qB1 q.2)&&true then some (AV.tup [.agg [.bool false,.sl (qB8 len (qCk off q.2)),.sl (qB8 nv3 h4)],.int .i64 0])else none)else qdV nv8 nc2_0 nv3 h4 n (qBZ .i64 (n+1)) c0_0 c0_1 c0_2 h1 (qB8 nv3 h4) h3 else none else none) P):Gets (qbQ nv8 nc2_0 nv3 v12 c0_0 c0_1 c0_2 h1 nc2_0' h3 h4) P:=
  gE (λ_=>ql (cfg:=cfg) (f:=22) (rd:=none) (bs:=4)) (by kernel_rfl) h
theorem qh3(nv8 nc2_0 nv3:Nat)(v12 v18:Int)(c0_0:Bool)(c0_1 c0_2 h1:Rz)(nc2_0':Nat)(h3 h4:Rz)(c5_0:Int)(c5_1:Rz){P:AV->Prop}(h:Gets (bif decide (v18<(↑ nv3:Int))then bif qd 0 v18&&qe v18 (↑ nv3:Int)then kOpt (qB0 h4 (0+v18.toNat)) λrow=>bif qB4 2 (qB1 row)then qf (qB8 2 row) λc cs=>kInt .i64 c λn=>qf cs λc cs=>kSl c λrows=>kNil cs (kOpt (EVs (EV cfg) 58 [.agg [.int .i64 c5_0,.sl c5_1],.agg [.int .i64 n,.sl rows]]) λv=>qr v λb=>bif b then qbQ nv8 nc2_0 nv3 (qBZ .i64 (v12+1)) c0_0 c0_1 c0_2 h1 nc2_0' h3 h4 else qjw nv8 nc2_0 nv3 v12 (qBZ .i64 (v18+1)) c0_0 c0_1 c0_2 h1 nc2_0' h3 h4 c5_0 c5_1)else none else none else bif qB4 (0+nv3) (qB1 h4)&&qW (nv3+1) 32 then qbQ nv8 nc2_0 (nv3+1) (qBZ .i64 (v12+1)) c0_0 c0_1 c0_2 h1 nc2_0' h3 (qCu (qB8 nv3 h4) [[AV.int .i64 c5_0,.sl c5_1]])else none) P):Gets (qjw nv8 nc2_0 nv3 v12 v18 c0_0 c0_1 c0_2 h1 nc2_0' h3 h4 c5_0 c5_1) P:=
  gE (λ_=>ql (cfg:=cfg) (f:=22) (rd:=none) (bs:=4)) (by kernel_rfl) h
theorem qh2(nv8 nc2_0 nv3:Nat)(h4:Rz)(v5 v6:Int)(c0_0:Bool)(c0_1 c0_2 h1 c2_0 h3:Rz){P:AV->Prop}(h:Gets (bif decide (v6<(↑ nv8:Int))then bif qd 0 v6&&qe v6 (↑ nv8:Int)then kOpt (qB0 h1 (0+v6.toNat)) λrow=>bif qB4 4 (qB1 row)then kTmC (qB8 4 row) λn n_1 s rows=>(kOpt (EVs (EV cfg) 24 [.agg [.int .i64 n,.int .i64 n_1,.str s,.sl rows],AV.cptr [.sl c2_0] 0]) λv=>qr v λb=>bif ! b then bif qd 0 v5&&qe v5 (↑ nv8:Int)then kOpt (qB0 h1 (0+v5.toNat)) λrow=>bif qB4 4 (qB1 row)then qdV nv8 nc2_0 nv3 h4 (qBZ .i64 (v5+1)) (qBZ .i64 (v6+1)) c0_0 c0_1 c0_2 (qCA h1 (0+qB7 v5) (.int .i64 n:: .int .i64 n_1:: .str s:: .sl rows::qCk 4 row)) c2_0 h3 else none else none else qdV nv8 nc2_0 nv3 h4 v5 (qBZ .i64 (v6+1)) c0_0 c0_1 c0_2 h1 c2_0 h3)else none else none else bif qd 0 v5&&qd v5 (↑ nv8:Int)then bif qB4 (0+qB7 v5+(nv8 - v5.toNat)) (qB1 h1)then bif qd 0 v5&&qd v5 (↑ nv8:Int)then kOpt (EVm (EV cfg) 28 [.ms 0 0 (qB7 v5 - 0),AV.fn (Fn.func 29) [] []] 4 (qCu (qCu (qB8 (0+v5.toNat) h1) (qCr (nv8 - v5.toNat) [AV.int .i64 0,.int .i64 0,.str [],.nilS])) (qCk (0+qB7 v5+(nv8 - v5.toNat)) h1))) λq=>qx q.1 (kOpt (EVm (EV cfg) 30 [.ms 0 0 (qB7 v5 - 0),AV.fn (Fn.func 31) [] []] 4 q.2) λq=>kMSl q.1 (some (AV.tup [.agg [.bool false,.sl [],.sl c2_0],.int .i64 0])) λoff len=>bif qB4 (off+len) (qB1 q.2)&&true then some (AV.tup [.agg [.bool false,.sl (qB8 len (qCk off q.2)),.sl c2_0],.int .i64 0])else none)else none else none else none) P):Gets (qdV nv8 nc2_0 nv3 h4 v5 v6 c0_0 c0_1 c0_2 h1 c2_0 h3) P:=
  gE (λ_=>ql (cfg:=cfg) (f:=23) (rd:=none) (bs:=4)) (by kernel_rfl) h
end Go.Proofs.YtgleolmhpmljhaaGreat
end
noncomputable section
namespace Go.Av
def zG(l:List Rg)(k:Tm):Bool:= !(l.any λr=>q8 r k)
structure InvO (cs:List Cl) (p:Nat) (ks:List Tm) (rs:List Rg):Prop where
 nall:∀c∈cs,vV c.head p≠.all
 key:∀c∈cs,∀k,vV c.head p= .key k->k∈ks
 rng:∀c∈cs,∀r,vV c.head p= .rng r->r∈rs
 kw:∀k∈ks,k.chk=0
 rw:AllW rs
 ra:∀s∈rs,allK s.fst=true
 kl:ks.length<=cs.length
 rl:rs.length<=cs.length
structure BndW (b:Bnd):Prop where
 kl:b.keys.length<1099511627776
 kw:∀x∈b.keys,x.w<1099511627776
 rl:b.rgs.length<1099511627776
 rw:∀r∈b.rgs,RgW r
def OfR(cs:List Cl)(p:Nat)(v:AV):Prop:=
 ∃b:Bnd,v= .tup [b.av,.int .i64 0]∧BndW b∧BndFor cs p b∧∀s∈b.rgs,allK s.fst=true
theorem qBP(cs:List Cl)(p:Nat):OfR cs p (.tup [.agg [.bool true,.sl [],.sl []],.int .i64 0]):=
 ⟨⟨true,[],[]⟩,rfl,⟨by decide,(λx h=>by cases h),by decide,(λx h=>by cases h)⟩,⟨(λ_=>rfl),(λh=>by cases h),(λh=>by cases h)⟩,(λs h=>by cases h)⟩
theorem quU{n:Nat}(h:n<=1099511627776):qW n 32=true:=by
 unfold qW;rw[qB2,qCz,qCz];omega
theorem qpf(l:List Tm):(vD l).length<=l.length:=by
 have h:∀(l:List Tm) (p:Tm),(ddT p l).length<=l.length:=by
  intro l
  induction l with
  |nil=>intro p;exact qCa _
  |cons x l ih=>
   intro p;rw[ddT];have:=ih x;split<;>simp only[qCE]<;>omega
 cases l with
 |nil=>exact qCa _
 |cons x l=>
  have:=h l x;simp only[vD,qCE];omega
theorem qeA:∀(l out:List Rg),(xO out l).length<=out.length+l.length
 |[],out=>qCa _
 |r::l,out=>by
  rw[xO];split
  ·have:=qeA l out;simp only[qCE];omega
  ·have:=qeA l (out++[r]);simp only[qCq,qCE,List.length_nil]at this⊢;omega
theorem qix{f:Tm->Bool}{l:List Tm}{i:Nat}{x:Tm}(hx:l[i]? =some x):(l.take (i+1)).filter f=(l.take i).filter f++(if f x then[x]else[]):=by
 rw[qln hx,List.filter_append]
 congr 1
 cases h:f x<;>simp[h]
theorem qwn{h p:Tm}{pos:Nat}(h7:h.kind=7)(hp:h.subs[pos - 1]? =some p):vV h pos=if bndG p then .key p else if p.kind=7 then .rng ⟨p.subs.length,p.subs.takeWhile bndG⟩else .all:=by
 unfold vV;rw[qCN (by simp[h7]),hp]
theorem qul{h:Tm}{pos:Nat}(h7:h.kind=7)(hp:h.subs[pos - 1]? =none):vV h pos= .none:=by
 unfold vV;rw[qCN (by simp[h7]),hp]
theorem qyr{p:Tm}(hc:p.chk=0)(h7:p.kind=7)(hb:bndG p=false):p.subs.all bndG=false:=by
 cases ha:p.subs.all bndG with
 |false=>rfl
 |true=>
  have:gndT p=true:=by
   rw[qhE,qCM (.inl h7)];refine List.all_eq_true.2 λx hx=>?_
   have:=List.all_eq_true.1 ha x hx;unfold bndG at this;rw[qB2]at this;exact this.2
  unfold bndG at hb;rw[this,hc]at hb;cases hb
theorem Cl.kc{α:Type}(c:Cl)(K:Int->Int->List UInt8->List (List AV)->List (List AV)->List (List AV)->Option α):
  (qf (qB8 6 c.cells) fun(x:AV) (cs:List AV)=>kInt .i64 x λn=>qf cs fun(x:AV) (cs:List AV)=>kInt .i64 x λn_1=>qf cs fun(x:AV) (cs:List AV)=>kStr x λs=>qf cs fun(x:AV) (cs:List AV)=>kSl x λr1=>qf cs fun(x:AV) (cs:List AV)=>kSl x λr2=>qf cs fun(x:AV) (cs:List AV)=>kSl x λr3=>kNil cs (K n n_1 s r1 r2 r3))=K c.head.kind c.head.num c.head.str (qa c.head.subs) (qa c.gs) (qa c.bs):=rfl
end Go.Av
namespace Go.Proofs.YtgleolmhpmljhaaGreat
open Go.Av
theorem qxC{n:Nat}(hn:n<16777216){X:List (List AV)}{fs:List Tm}(hl:fs.length=n)(hk:∀k∈fs,k.chk=0){rs:List Rg}{cs:List Cl}{p:Nat}(hrl:rs.length<1099511627776)(hrw:AllW rs)(hall:∀c∈cs,vV c.head p≠.all)(hrng:∀c∈cs,∀r,vV c.head p= .rng r->∃s∈rs,yD r s=true)(hkey:∀c∈cs,∀k,vV c.head p= .key k->(∃s∈rs,q8 s k=true)∨k∈fs)(hra:∀s∈rs,allK s.fst=true):
  Gets (kOpt (EVm (EV cfg) 28 [.ms 0 0 n,.fn (Fn.func 29) [] []] 4 (qB X fs)) fun(q:MV×List (List AV))=>qx q.1 (kOpt (EVm (EV cfg) 30 [.ms 0 0 n,.fn (Fn.func 31) [] []] 4 q.2) fun(q:MV×List (List AV))=>kMSl q.1 (some (AV.tup [.agg [.bool false,.sl [],.sl (qD rs)],.int .i64 (0:Int)])) fun(off len:Nat)=>bif qB4 (off+len) (qB1 q.2)&&true then some (AV.tup [.agg [.bool false,.sl (qB8 len (qCk off q.2)),.sl (qD rs)],.int .i64 (0:Int)])else none)) (OfR cs p):=by
 have hw:∀k∈fs,k.w<1099511627776:=λk h=>by have:=xo (hk k h);omega
 refine Gets.bind (qvV hn hl (λk h=>qcw _ (hw k h))) ?_;rintro _ ⟨l2,h2,rfl⟩;rw[qU];refine Gets.bind (qwQ (by omega) (by rw[h2.length_eq];exact hl) (λk h=>hw k (h2.mem_iff.1 h))) ?_;rintro _ ⟨X',rfl⟩;have hlen:(qB X' (vD l2)).length=(vD l2).length+X'.length:=by unfold qB;rw[qCq,qg]
 have ht:qB8 (vD l2).length (qB X' (vD l2))=qa (vD l2):=by unfold qB;exact List.take_left' (qg _)
 rw[qyf,hlen,nble,qCK (show 0+(vD l2).length<=(vD l2).length+X'.length by omega),List.drop_zero,ht];have hcl:=qpf l2;have h2l:=h2.length_eq;refine⟨_,rfl,⟨false,vD l2,rs⟩,rfl,⟨?_,?_,hrl,hrw⟩,⟨?_,?_,?_⟩,hra⟩
 ·show(vD l2).length<_;omega
 ·exact λx hx=>hw x (h2.mem_iff.1 (qgV.1 hx))
 ·rintro⟨c,hc,x,hx,rfl⟩;exact absurd hx (hall c hc)
 ·exact λ_ c hc r hr=>hrng c hc r hr
 ·intro _ c hc k hm;exact(hkey c hc k hm).imp id λh=>qgV.2 (h2.mem_iff.2 h)
theorem qBO{n:Nat}(hn:n<16777216){ks:List Tm}(hl:ks.length=n)(hk:∀k∈ks,k.chk=0){rs:List Rg}{cs:List Cl}{p:Nat}(hrl:rs.length<1099511627776)(hrw:AllW rs)(hall:∀c∈cs,vV c.head p≠.all)(hrng:∀c∈cs,∀r,vV c.head p= .rng r->∃s∈rs,yD r s=true)(hkey:∀c∈cs,∀k,vV c.head p= .key k->k∈ks)(hra:∀s∈rs,allK s.fst=true)(q1 q2:Nat)(h3 h4:List (List AV))(c0:Bool)(a1 a2:List (List AV)):
  ∀(d j w:Nat) (m:List Tm),m.length=n->w<j->j<=n->m.take w=(ks.take j).filter (zG rs)->(∀q,j<=q->m[q]? =ks[q]?)->n<=j+d ->
  Gets (qdV n q1 q2 h4 (w:Int) (j:Int) c0 a1 a2 (qa m) (qD rs) h3) (OfR cs p):=by
 have fin:∀(w:Nat) (m:List Tm) (j:Nat),m.length=n->w<=n->m.take w=(ks.take j).filter (zG rs)->n<=j->Gets (qdV n q1 q2 h4 (w:Int) (j:Int) c0 a1 a2 (qa m) (qD rs) h3) (OfR cs p):=by
  intro w m j hm hw ht hj;refine qh2 _ _ _ _ _ _ _ _ _ _ _ _ ?_;rw[qCd (show ks.length<=j by omega)]at ht;have hlw:(ks.filter (zG rs)).length=w:=by rw[←ht,qCD];omega
  have e:qCu (qCu (qB8 (0+qB7 (w:Int)) (qa m)) (qCr (n - qB7 (w:Int)) [AV.int .i64 (0:Int),.int .i64 (0:Int),.str [],.nilS])) (qCk (0+qB7 (w:Int)+(n - qB7 (w:Int))) (qa m))=qB (qCr (n - w) [AV.int .i64 (0:Int),.int .i64 (0:Int),.str [],.nilS]++qCk (0+w+(n - w)) (qa m)) (ks.filter (zG rs)):=by
   rw[qCi,qCG,qaV,ht];unfold qB;exact List.append_assoc _ _ _
  rw[qCL (show ¬(j:Int)<(n:Int) by omega),cond_false,rd1 hw,e,qCi,Nat.sub_zero,qg,hm,nble,qCK (show 0+w+(n - w)<=n by omega)];simp only[cond_true];refine qxC (show w<16777216 by omega) hlw (λk h=>hk k (List.mem_filter.1 h).1) hrl hrw hall hrng (λc hc k hm=>?_) hra;have hkm:=hkey c hc k hm;cases hf:zG rs k with
  |true=>exact .inr (List.mem_filter.2 ⟨hkm,hf⟩)
  |false=>
   unfold zG at hf;obtain⟨s,hs,hw⟩:=List.any_eq_true.1 (by simpa using hf:(rs.any λr=>q8 r k)=true);exact .inl ⟨s,hs,hw⟩
 intro d
 induction d with
 |zero=>intro j w m hm hw hj ht hq hd;exact fin w m j hm (by omega) ht (by omega)
 |succ d ih=>
  intro j w m hm hw hj ht hq hd
  by_cases hlt:j<n
  case neg=>exact fin w m j hm (by omega) ht (by omega)
  obtain⟨x,hx⟩:=qK (l:=ks) (i:=j) (by omega);have hmx:m[j]? =some x:=by rw[hq j (qCa _),hx]
  obtain⟨y,hy⟩:=qK (l:=m) (i:=w) (by omega);have hc:=qq6 (k:=x) hrl (by have:=xo (hk x (qCc hx));omega);have hft:=qix (f:=zG rs) hx;refine qh2 _ _ _ _ _ _ _ _ _ _ _ _ ?_;have r1:qB0 (qa m) (0+qB7 (j:Int))=some x.cells:=by rw[qCG,qv,qCi,xu,hmx];rfl
  have r2:qB0 (qa m) (0+qB7 (w:Int))=some y.cells:=by rw[qCG,qv,qCi,xu,hy];rfl
  have r3:qCA (qa m) (0+qB7 (w:Int)) [.int .i64 x.kind,.int .i64 x.num,.str x.str,.sl (qa x.subs)]=qa (m.set w x):=by
   rw[qCG,qCi,←Tm.cells_eq,qgf]
  rw[qCK (show(j:Int)<(n:Int) by omega),wr1 (show j<4398046511104 by omega),wr1 (show w<4398046511104 by omega)];simp -implicitDefEqProofs only[cond_true,qb,qj,show qB4 4 4=true from rfl,qm,qk,qF,qq,qp,rdB (show j<n by omega),rdB (show w<n by omega),r1,r2,r3,hc];cases hf:rs.any λr=>q8 r x with
  |true=>
   simp only[qCj,cond_false];have hkf:zG rs x=false:=by unfold zG;rw[hf];rfl
   rw[hkf,qCN (by decide),List.append_nil]at hft;exact ih (j+1) w m hm (by omega) (by omega) (by rw[hft];exact ht) (λq h=>hq q (by omega)) (by omega)
  |false=>
   simp only[qCm,cond_true];have hkf:zG rs x=true:=by unfold zG;rw[hf];rfl
   rw[hkf,qCM rfl]at hft;refine ih (j+1) (w+1) (m.set w x) (by rw[List.length_set];exact hm) (by omega) (by omega) ?_ (λq h=>?_) (by omega)
   ·rw[qmp (by omega),hft,ht]
   ·rw[List.getElem?_set_ne (by omega)];exact hq q (by omega)
theorem qBN{n:Nat}(hn:n<16777216){ks:List Tm}(hl:ks.length=n)(hk:∀k∈ks,k.chk=0){rs:List Rg}{cs:List Cl}{p:Nat}(hrl:rs.length<1099511627776)(hrw:AllW rs)(hall:∀c∈cs,vV c.head p≠.all)(hrng:∀c∈cs,∀r,vV c.head p= .rng r->∃s∈rs,yD r s=true)(hkey:∀c∈cs,∀k,vV c.head p= .key k->k∈ks)(hra:∀s∈rs,allK s.fst=true)(q1 q2 i:Nat)(hi:q1<=i)(h3:List (List AV))(c0:Bool)(a1 a2:List (List AV)):
  Gets (qbQ n q1 rs.length (i:Int) c0 a1 a2 (qa ks) q2 h3 (qD rs)) (OfR cs p):=by
 refine qh4 _ _ _ _ _ _ _ _ _ _ _ ?_;have hw:∀k∈ks,k.w<1099511627776:=λk h=>by have:=xo (hk k h);omega
 obtain⟨j,hj,hcase⟩:=qwD (l:=rs) hrl (ks:=ks) (by omega) hw;have t1:qB8 n (qa ks)=qa ks:=qCd (by rw[qg];omega);have t2:qB8 rs.length (qD rs)=qD rs:=qCd (by rw[yk];omega);rw[qCL (show ¬(i:Int)<(q1:Int) by omega),cond_false,yk,qg,hl,nble,nble,qCK (show 0+rs.length<=rs.length by omega),qCK (show 0+n<=n by omega),t1,t2,hj]
 simp only[qCx,cond_true,qb,qi];rcases hcase with⟨rfl,hno⟩|⟨a,k,rfl,hka,_,hno⟩
 ·have hx:qa ks=qB [] ks:=by unfold qB;rw[List.append_nil]
  rw[show((-1:Int)== -1)=true from rfl,cond_true,hx];exact qxC hn hl hk hrl hrw hall hrng (λc hc k hm=>.inr (hkey c hc k hm)) hra
 ·have han:a<n:=by rw[←hl];exact(qB5.1 hka).1
  rw[show((a:Int)== -1)=false from beq_false_of_ne (by omega),cond_false,wr1 (by omega)];refine qBO hn hl hk hrl hrw hall hrng hkey hra _ _ _ _ _ _ _ (n - (a+1)) (a+1) a ks hl (by omega) (by omega) ?_ (λq _=>rfl) (by omega);rename_i hin;have hkf:zG rs k=false:=by unfold zG;rw[hin];rfl
  rw[qix hka,hkf,qCN (by decide),List.append_nil,List.filter_eq_self.2 (λx hx=>by unfold zG;rw[hno x hx];rfl)]
theorem qBM{r:Rg}(hr:RgW r){out:List Rg}(hol:out.length<1099511627775){Q:AV->Prop}{n q1 q2 i:Nat}(hi:i<1099511627776){c0:Bool}{a1 a2:List (List AV)}{h1 h3:List (List AV)}(hyes:out.any (yD r)=true->Gets (qbQ n q1 out.length ((i+1:Nat):Int) c0 a1 a2 h1 q2 h3 (qD out)) Q)(hno:out.any (yD r)=false->Gets (qbQ n q1 (out++[r]).length ((i+1:Nat):Int) c0 a1 a2 h1 q2 h3 (qD (out++[r]))) Q):
  ∀d j:Nat,j+d=out.length->(∀x∈out.take j,yD r x=false)->Gets (qjw n q1 out.length (i:Int) (j:Int) c0 a1 a2 h1 q2 h3 (qD out) r.ar (qa r.fst)) Q:=by
 intro d
 induction d with
 |zero=>
  intro j hj hx;refine qh3 _ _ _ _ _ _ _ _ _ _ _ _ _ _ ?_;rw[qCd (by omega)]at hx;have t2:qB8 out.length (qD out)=qD out:=qCd (by rw[yk];omega);rw[qCL (show ¬(j:Int)<(out.length:Int) by omega),cond_false,yk,nble,qCK (show 0+out.length<=out.length by omega),quU (by omega),t2,wr1 (by omega)];have h:=hno (by
   cases ha:out.any (yD r)with
   |false=>rfl
   |true=>
    obtain⟨x,h1,h2⟩:=List.any_eq_true.1 ha;rw[hx x h1]at h2;cases h2)
  rw[qCq]at h;have e:qCu (qD out) [[AV.int .i64 r.ar,.sl (qa r.fst)]]=qD (out++[r]):=by unfold qD;rw[List.map_append];rfl
  rw[e];exact h
 |succ d ih=>
  intro j hj hx;refine qh3 _ _ _ _ _ _ _ _ _ _ _ _ _ _ ?_;obtain⟨s,hs⟩:=yZ (l:=out) (i:=j) (by omega);have hc:=qwU (s:=s) hr;rw[qCK (show(j:Int)<(out.length:Int) by omega),wr1 (show i<4398046511104 by omega),wr1 (show j<4398046511104 by omega)];simp -implicitDefEqProofs only[cond_true,qb,rgB2,rgT2,vq,vt,vR,qi,qp,rdB (show j<out.length by omega),rgG hs,hc]
  cases hw:yD r s with
  |true=>exact hyes (List.any_eq_true.2 ⟨s,qCc hs,hw⟩)
  |false=>
   refine ih (j+1) (by omega) λx hxm=>?_
   rw[List.take_add_one,hs]at hxm;rcases qCy.1 hxm with h|h
   ·exact hx x h
   ·simp at h;subst h;exact hw
theorem qzW{n:Nat}(hn:n<16777216){ks:List Tm}(hl:ks.length=n)(hk:∀k∈ks,k.chk=0){ls:List Rg}{cs:List Cl}{p:Nat}(hrl:ls.length<16777216)(hrw:AllW ls)(hall:∀c∈cs,vV c.head p≠.all)(hrng:∀c∈cs,∀r,vV c.head p= .rng r->r∈ls)(hkey:∀c∈cs,∀k,vV c.head p= .key k->k∈ks)(hra:∀s∈ls,allK s.fst=true)(q2:Nat)(c0:Bool)(a1 a2:List (List AV)):
  ∀(d i:Nat) (out:List Rg),i+d=ls.length->out.length<=i->xO out (ls.drop i)=xO [] ls->Gets (qbQ n ls.length out.length (i:Int) c0 a1 a2 (qa ks) q2 (qD ls) (qD out)) (OfR cs p):=by
 intro d
 induction d with
 |zero=>
  intro i out hi ho hw;rw[qCs (by omega),xO]at hw;subst hw;have hsub:∀s∈xO [] ls,s∈ls:=λs hs=>(qez hs).elim (λh=>by cases h) id
  exact qBN hn hl hk (by have:=qeA ls [];simp only[List.length_nil]at this;omega) (λs hs=>hrw s (hsub s hs)) hall (λc hc r hr=>qeB (hrng c hc r hr)) hkey (λs hs=>hra s (hsub s hs)) _ _ _ (by omega) _ _ _ _
 |succ d ih=>
  intro i out hi ho hw;obtain⟨r,hr⟩:=yZ (l:=ls) (i:=i) (by omega);have hd:ls.drop i=r::ls.drop (i+1):=by
   obtain⟨h,rfl⟩:=qB5.1 hr;exact qCp h
  rw[hd,xO]at hw;refine qh4 _ _ _ _ _ _ _ _ _ _ _ ?_;rw[qCK (show(i:Int)<(ls.length:Int) by omega)];simp -implicitDefEqProofs only[cond_true,qb,rgB2,rgT2,vq,vt,vR,qi,rdB (show i<ls.length by omega),rgG hr];refine qBM (hrw r (qCc hr)) (by omega) (by omega) (λhy=>?_) (λhno=>?_) out.length 0 (by omega) (λx hx=>by simp at hx)
  ·rw[qCM hy]at hw;exact ih (i+1) out (by omega) (by omega) hw
  ·rw[hno,qCN (by decide)]at hw;exact ih (i+1) (out++[r]) (by omega) (by rw[qCq];simp;omega) hw
theorem qzX{cs:List Cl}(hcs:∀c∈cs,ClOk c)(hlen:cs.length<=8388608){p:Nat}(hp1:1<=p)(hp:p<=64):∀(d i:Nat) (ks:List Tm) (rs:List Rg),i+d=cs.length->InvO (cs.take i) p ks rs ->
  Gets (qcJ (p:Int) (vw cs) ks.length (i:Int) false [] [] (qa ks) rs.length (qD rs)) (OfR cs p):=by
 intro d
 induction d with
 |zero=>
  intro i ks rs hi hv;have htk:cs.take i=cs:=qCd (by omega);rw[htk]at hv;have hkl:=hv.kl;have hrl:=hv.rl;refine qh5 _ _ _ _ _ _ _ _ _ _ ?_;rw[zh,qCL (show ¬(i:Int)<(cs.length:Int) by omega),cond_false];refine Gets.bind (qvW (by omega) rfl hv.rw) ?_;rintro _ ⟨l2,h2,rfl⟩;rw[qU,←h2.length_eq];have hl2:=h2.length_eq;exact qzW (by omega) rfl hv.kw (ls:=l2) (by omega) (hv.rw.perm h2) hv.nall (λc hc r hr=>h2.mem_iff.2 (hv.rng c hc r hr)) hv.key (λs hs=>hv.ra s (h2.mem_iff.1 hs)) _ _ _ _ l2.length 0 [] (by omega) (Nat.zero_le _) (by rw[List.drop_zero])
 |succ d ih=>
  intro i ks rs hi hv;have hil:i<cs.length:=by omega
  have hx:cs[i]? =some cs[i]:=qB3 hil;have hok:=hcs _ (qCc hx);have htk:cs.take (i+1)=cs.take i++[cs[i]]:=by rw[List.take_add_one,hx];rfl
  have hkl:=hv.kl;have hrl:=hv.rl;have htl:(cs.take i).length=i:=by rw[qCD];omega
  have htl1:(cs.take (i+1)).length=i+1:=by rw[qCD];omega
  have gx:qB0 (vw cs) (qB7 (i:Int))=some cs[i].cells:=by
   rw[qv,qCi,qgh,hx];rfl
  refine qh5 _ _ _ _ _ _ _ _ _ _ ?_;rw[zh,qCK (show(i:Int)<(cs.length:Int) by omega),qE,qP,qCK hil,gx,wr1 (show i<4398046511104 by omega)];generalize cs[i]=c at *;have hhc:=hok.1;have hhw:=xo hhc;have hsl:=xL c.head.subs;have hhe:=c.head.w_eq
  -- how it goes on
  have go:∀(ks':List Tm) (rs':List Rg),(vV c.head p≠.all)->(∀k∈ks,k∈ks')->(∀r∈rs,r∈rs')->(∀k,vV c.head p= .key k->k∈ks')->(∀r,vV c.head p= .rng r->r∈rs')->(∀k∈ks',k.chk=0)->AllW rs'->(∀s∈rs',allK s.fst=true)->ks'.length<=i+1->rs'.length<=i+1->Gets (qcJ (p:Int) (vw cs) ks'.length ((i+1:Nat):Int) false [] [] (qa ks') rs'.length (qD rs')) (OfR cs p):=by
   intro ks' rs' g1 g2 g3 g4 g5 g6 g7 g8 g9 g10;refine ih (i+1) ks' rs' (by omega) ⟨?_,?_,?_,g6,g7,g8,by omega,by omega⟩
   ·intro c' hc';rw[htk]at hc';rcases qCy.1 hc' with h|h
    ·exact hv.nall c' h
    ·rw[List.mem_singleton]at h;subst h;exact g1
   ·intro c' hc' k hm;rw[htk]at hc';rcases qCy.1 hc' with h|h
    ·exact g2 _ (hv.key c' h k hm)
    ·rw[List.mem_singleton]at h;subst h;exact g4 k hm
   ·intro c' hc' r hm;rw[htk]at hc';rcases qCy.1 hc' with h|h
    ·exact g3 _ (hv.rng c' h r hm)
    ·rw[List.mem_singleton]at h;subst h;exact g5 r hm
  have fin:Gets (some (AV.tup [.agg [.bool true,.sl [],.sl []],.int .i64 (0:Int)])) (OfR cs p):=⟨_,rfl,qBP cs p⟩;simp only[cond_true,qCx,show qCh (qB1 c.cells) 6=true from rfl,show qB4 6 (qB1 c.cells)=true from rfl,qb];rw[Cl.kc,qg,bneD]
  by_cases h7:c.head.kind=7
  case neg=>
   rw[qCL h7];exact fin
  rw[qCK h7];simp only[qCj,cond_false]
  by_cases hlt:c.head.subs.length<p
  ·rw[qCK (show(c.head.subs.length:Int)<(p:Int) by omega),cond_true];have hm:=qul h7 (pos:=p) (List.getElem?_eq_none (show c.head.subs.length<=p - 1 by omega));exact go ks rs (by rw[hm];exact λh=>by cases h) (λ_ h=>h) (λ_ h=>h) (λk h=>by rw[hm]at h;cases h) (λk h=>by rw[hm]at h;cases h) hv.kw hv.rw hv.ra (by omega) (by omega)
  rw[qCL (show ¬(c.head.subs.length:Int)<(p:Int) by omega),cond_false,qjl hp1 (by omega)];obtain⟨q,hq⟩:=qK (l:=c.head.subs) (i:=p - 1) (by omega);have hqm:=qCc hq;have hqc:=vh hhc hqm;have hqw:=xo hqc;have hqe:=q.w_eq;have hqs:=xL q.subs;have hb:=qmE (t:=q) (by omega);have hm:=qwn h7 hq;rw[rdB (show p - 1<c.head.subs.length by omega),vW hq]
  simp only[cond_true,qj,qCw,qm,qk,xe,qq,hb,qb,qp];cases hbq:bndG q with
  |true=>
   rw[hbq,qCM rfl]at hm;rw[cond_true,qg,nble,qCK (show 0+ks.length<=ks.length by omega),yv (by omega),qCd (by rw[qg];omega)];have e:qCu (qa ks) [[AV.int .i64 q.kind,.int .i64 q.num,.str q.str,.sl (qa q.subs)]]=qa (ks++[q]):=by rw[vn,qN,q4,Tm.cells_eq];rfl
   have h:=go (ks++[q]) rs (by rw[hm];exact λh=>by cases h) (λ_ h=>by simp[h]) (λ_ h=>h) (λk h=>by rw[hm]at h;cases h;simp) (λk h=>by rw[hm]at h;cases h) (λk h=>by
    rcases qCy.1 h with h|h
    ·exact hv.kw k h
    ·rw[List.mem_singleton]at h;subst h;exact hqc) hv.rw hv.ra (by rw[qCq];simp;omega) (by omega)
   rw[qCq]at h;rw[e];exact h
  |false=>
   rw[hbq,qCN (by decide)]at hm;rw[cond_false,beqI]
   by_cases hq7:q.kind=7
   case neg=>
    rw[qCL hq7];exact fin
   rw[qCM hq7]at hm;have hin:=quK (l:=q.subs) (by omega) (λx hx=>by have:=y5 hx;omega) (qyr hqc hq7 hbq);have hpre:q.subs.takeWhile bndG=q.subs.take (q.subs.takeWhile bndG).length:=List.prefix_iff_eq_take.1 (List.takeWhile_prefix _);have htwl:(q.subs.takeWhile bndG).length<=q.subs.length:=(List.takeWhile_sublist _).length_le;have hcl:=qva (l:=q.subs.takeWhile bndG) (by omega)
   rw[qCK hq7,cond_true,hin];simp only[qb,qi];rw[qg,rd1 htwl,y9,qCi,Nat.sub_zero,qaV,←hpre,hcl];simp only[cond_true,qb,vt];rw[yk,nble,qCK (show 0+rs.length<=rs.length by omega),quU (by omega),qCd (show(qD rs).length<=rs.length by rw[yk];omega)];have e:qCu (qD rs) [[AV.int .i64 (q.subs.length:Int),.sl (qa (q.subs.takeWhile bndG))]]=qD (rs++[⟨q.subs.length,q.subs.takeWhile bndG⟩]):=by unfold qD;rw[List.map_append];rfl
   have hsubs:∀x∈q.subs.takeWhile bndG,x∈q.subs∧bndG x=true:=λx hx=>⟨(List.takeWhile_sublist _).subset hx,List.all_eq_true.1 (List.all_takeWhile (p:=bndG) (l:=q.subs)) x hx⟩
   have h:=go ks (rs++[⟨q.subs.length,q.subs.takeWhile bndG⟩]) (by rw[hm];exact λh=>by cases h) (λ_ h=>h) (λ_ h=>by simp[h]) (λk h=>by rw[hm]at h;cases h) (λk h=>by rw[hm]at h;cases h;simp) hv.kw (λs h=>by
    rcases qCy.1 h with h|h
    ·exact hv.rw s h
    ·rw[List.mem_singleton]at h;subst h;exact⟨by show(q.subs.takeWhile bndG).length<_;omega,λx hx=>by have:=y5 (hsubs x hx).1;omega⟩) (λs h=>by
    rcases qCy.1 h with h|h
    ·exact hv.ra s h
    ·rw[List.mem_singleton]at h;subst h;show allK (q.subs.takeWhile bndG)=true;unfold allK;refine List.all_eq_true.2 λx hx=>?_
     rw[qCK (vh hqc (hsubs x hx).1)]) (by omega) (by rw[qCq];simp;omega)
   rw[qCq]at h;rw[e];exact h
theorem qAa{t:Tm}(hw:t.w<1099511627776)(pos:Int):
  Gets (EVf (EV cfg) 7 [t.av,.int .i64 pos]) (λv=>((clsG t).2≠0∧v= .tup [.agg [.bool false,.sl [],.sl []],.int .i64 (clsG t).2])∨((clsG t).2=0∧(pos<1∨pos>64)∧v= .tup [.agg [.bool false,.sl [],.sl []],.int .i64 2])∨((clsG t).2=0∧∃p:Nat,pos=p∧1<=p∧OfR (clsG t).1 p v)):=by
 have hc:=qn8 hw;obtain⟨h1,h2⟩:=qlV t;rw[Tm.av,Tm.cells_eq]at hc⊢;refine qyq _ _ _ _ _ ?_;rw[hc];simp only[qb,zS,vq,vt,qi,vR];rw[bneD]
 by_cases h0:(clsG t).2=0
 ·rw[qCK h0]
  by_cases hp:pos<1
  ·rw[qCK hp];exact⟨_,rfl,.inr (.inl ⟨h0,.inl hp,rfl⟩)⟩
  by_cases hp2:pos>64
  ·rw[qCL hp,qCK hp2];exact⟨_,rfl,.inr (.inl ⟨h0,.inr hp2,rfl⟩)⟩
  rw[qCL hp,qCL hp2];obtain⟨p,rfl⟩:∃p:Nat,pos=p:=⟨pos.toNat,by omega⟩;simp only[qCj,cond_false];have hlo:=qzX h1 h2 (p:=p) (by omega) (by omega) (clsG t).1.length 0 [] [] (by omega) ⟨by simp,by simp,by simp,by simp,λr h=>by simp at h,by simp,by simp,by simp⟩;refine Gets.mono hlo λv hv=>.inr (.inr ⟨h0,p,rfl,by omega,hv⟩)
 ·rw[qCL h0];exact⟨_,rfl,.inl ⟨h0,rfl⟩⟩
theorem qqb(kt nt:Int)(st:Bz)(lt:Rz)(ko no:Int)(so:Bz)(lo:Rz)(pos:Int){P:AV->Prop}(h:Gets (kOpt (EVs (EV cfg) 12 []) λv=>qr v λb=>kOpt (EVs (EV cfg) 5 [.sl [[AV.int .i64 kt,.int .i64 nt,.str st,.sl lt],[AV.int .i64 ko,.int .i64 no,.str so,.sl lo]]]) λv=>qr v λb_1=>bif b_1 then some (.bool b)else kOpt (EVf (EV cfg) 7 [.agg [.int .i64 kt,.int .i64 nt,.str st,.sl lt],.int .i64 pos]) λv=>kTup v λcs=>qf cs λc cs=>kAgg c λcs_1=>qf cs_1 λc cs_2=>qr c λb_2=>qf cs_2 λc cs_3=>kSl c λrows=>qf cs_3 λc cs_4=>kSl c λrows_1=>kNil cs_4 (qf cs λc cs=>kInt .i64 c λn=>kNil cs (kOpt (EVf (EV cfg) 13 [.agg [.int .i64 kt,.int .i64 nt,.str st,.sl lt],.agg [.int .i64 ko,.int .i64 no,.str so,.sl lo],.int .i64 1]) λv=>kTup v λcs=>qf cs λc cs=>kAgg c λcs_5=>qf cs_5 λc cs_6=>kInt .i64 c λn_1=>qf cs_6 λc cs_7=>kInt .i64 c λn_2=>qf cs_7 λc cs_8=>kStr c λs=>qf cs_8 λc cs_9=>kSl c λrows_2=>kNil cs_9 (qf cs λc cs=>qr c λb_3=>qf cs λc cs=>kInt .i64 c λn_3=>kNil cs (bif n != 0 then some (.bool b)else bif n_3 != 0 then some (.bool b)else bif ! b_3 then some (.bool b)else bif decide (pos>(lo.length:Int))then some (.bool b)else bif b then bif qd 0 (qBZ .i64 (pos - 1))&&qe (qBZ .i64 (pos - 1)) (lo.length:Int)then kOpt (qB0 lo (qB7 (qBZ .i64 (pos - 1)))) λrow=>bif qCh (qB1 row) 4 then bif qB4 4 (qB1 row)then kTmC (qB8 4 row) λn n_4 s rows_3=>(kOpt (EVs (EV cfg) 14 [.agg [.bool b_2,.sl rows,.sl rows_1],.agg [.int .i64 n,.int .i64 n_4,.str s,.sl rows_3]]) λv=>qr v λb=>some (.bool b))else none else none else none else some (.bool false)))))) P):Gets (EVs (EV cfg) 4 [.agg [.int .i64 kt,.int .i64 nt,.str st,.sl lt],.agg [.int .i64 ko,.int .i64 no,.str so,.sl lo],.int .i64 pos]) P:=
  gE (λ_=>funS rfl rfl Tryz.func4 rfl) (by kernel_rfl) h
def qxN(t:Tm)(most:Int)(v:AV):Prop:=∃n:Int,v= .int .i64 n∧1<=n∧n<=most∧(n<most->t.w<=101*n∧t.words<=2*n)
theorem qvY(t:Tm):t.Ok->∀most:Int,1<=most->most<=1073741824->Gets (EVs (EV cfg) 49 [t.av,.int .i64 most]) (qxN t most):=by
 induction t using Tm.ind with
 |_ k n s l ih=>
  intro hok most h1 hmx
  by_cases hs:s.length<=100
  ·have loop:∀(d i:Nat) (m:Int),i+d=l.length->1<=m->m<=most->(m<most->(1+s.length:Nat)+wL (l.take i)<=101*m∧2+q9 (l.take i)<=2*m)->Gets (qjA most m i k n s (qa l)) (qxN (.mk k n s l) most):=by
    intro d
    induction d with
    |zero=>
     intro i m hi hm1 hm2 hmw;refine qia _ _ _ _ _ _ _ ?_;rw[qg,qCL (by omega)];refine⟨_,rfl,m,rfl,hm1,hm2,λhlt=>?_⟩;have hmw:=hmw hlt;rw[qCd (by omega)]at hmw;have:=(Tm.mk k n s l).own_le;rw[Tm.w_mk,Tm.words];omega
    |succ d ihd=>
     intro i m hi hm1 hm2 hmw;refine qia _ _ _ _ _ _ _ ?_;have hil:i<l.length:=by omega
     have hx:l[i]? =some l[i]:=qB3 hil;have hxl:=qCc hx;have hix:=ih l[i] hxl (hok.sub hxl)
     by_cases hm:m<most
     ·have hmw:=hmw hm;rw[qZ hil hok.len,qt (x:=most - m) (by omega) (by omega)];simp[hil,hx,hm];refine Gets.bind (hix (most - m) (by omega) (by omega)) ?_;rintro _ ⟨n'',rfl,q1,q2,q3⟩;have hg:=ihd (i+1) (m+n'') (by omega) (by omega) (by omega) (λhlt=>by
       have:=q3 (by omega);rw[List.take_add_one,hx,Option.toList_some,xF,qb4,qY,xg,q9,q9];omega)
      simp only[qi];rw[qt (x:=m+n'') (by omega) (by omega)]
      simpa using hg
     ·simp[hil,hm];exact⟨m,rfl,hm1,hm2,λh=>absurd h hm⟩
   rw[Tm.av_mk];refine qir _ _ _ _ _ ?_;rw[qCL (by omega)]
   by_cases h2:(l.length:Int)>most
   ·rw[qg,qCK h2];exact⟨_,rfl,most,rfl,h1,Int.le_refl _,λh=>absurd h (by omega)⟩
   ·rw[qg,qCL h2];exact loop l.length 0 1 (by omega) (by omega) (by omega) (λ_=>by simp[q9];omega)
  ·rw[Tm.av_mk];refine qir _ _ _ _ _ ?_;rw[qCK (by omega)];exact⟨_,rfl,most,rfl,h1,Int.le_refl _,λh=>absurd h (by omega)⟩
def BigP(t:Tm)(most:Int)(v:AV):Prop:=∃b:Bool,v= .bool b∧(b=false->t.w<=101*most∧t.words<=2*most)
theorem qyp{t:Tm}(h:t.Ok){most:Int}(h1:1<=most)(h2:most<=1000000000):Gets (EVs (EV cfg) 15 [t.av,.int .i64 most]) (BigP t most):=by
 have h1:=qvY t h (most+1) (by omega) (by omega);rw[Tm.av,Tm.cells_eq]at h1⊢;refine qso _ _ _ _ _ ?_;rw[qt (by omega) (by omega)];refine Gets.bind h1 ?_;rintro _ ⟨n,rfl,q1,q2,q3⟩;simp only[qi];refine⟨_,rfl,_,rfl,λhb=>?_⟩;have hb:¬n>most:=of_decide_eq_false hb;have:=q3 (by omega);omega
end Go.Proofs.YtgleolmhpmljhaaGreat
end
noncomputable section
namespace Go.Av
theorem qi7{a:Nat}(ha:a<18446744073709551616):qn (Op.intBits .and .u64 (a:Int) 4294967295)=some (.int .u64 ((a % 4294967296:Nat):Int)):=by
 have:qn (Op.intBits .and .u64 (a:Int) 4294967295)=some (.int .u64 (qBZ .u64 (BitVec.ofInt 64 (a:Int) &&& BitVec.ofInt 64 4294967295).toNat)):=rfl;rw[this];have ea:(BitVec.ofInt 64 (a:Int)).toNat=a:=by simp[BitVec.toNat_ofInt];omega
 have eb:(BitVec.ofInt 64 (4294967295:Int)).toNat=2 ^ 32 - 1:=by decide
 rw[BitVec.toNat_and,ea,eb,Nat.and_two_pow_sub_one_eq_mod,qas (by omega)]
theorem qga{a:Nat}(_ha:a<18446744073709551616):qn (Op.shift .shr .u64 (a:Int) .u64 32)=some (.int .u64 ((a / 4294967296:Nat):Int)):=by
 have:qn (Op.shift .shr .u64 (a:Int) .u64 32)=some (.int .u64 (Int.fdiv a (2 ^ (min (32:Int).toNat 64)))):=by
  unfold Op.shift;rw[qCN (by omega)];rfl
 rw[this];have e:((2:Int) ^ (min (32:Int).toNat 64))=((4294967296:Nat):Int):=by decide
 rw[e,Int.fdiv_eq_ediv_of_nonneg _ (Int.natCast_nonneg _)];rfl
theorem qak{n:Int}{m:Nat}(h:n=(m:Int))(hm:m<18446744073709551616):qBZ .u64 n=(m:Int):=by rw[h,qas hm]
theorem qtw(n:Nat):qBZ .u64 (n:Int)=((n % 18446744073709551616:Nat):Int):=by
 simp[qBZ,IntKind.bits,IntKind.signed]
theorem qwF{a b:Nat}(ha:a<18446744073709551616)(hb:b<18446744073709551616):
  let p:=a / 4294967296*(b % 4294967296);let q:=a % 4294967296*(b / 4294967296);let r:=a % 4294967296*(b % 4294967296);let s:=a / 4294967296*(b / 4294967296)
  r<18446744073709551616∧p<18446744073709551616∧q<18446744073709551616∧s<18446744073709551616∧p+r / 4294967296<18446744073709551616∧(p+r / 4294967296) % 4294967296+q<18446744073709551616∧s+(p+r / 4294967296) / 4294967296<18446744073709551616 ∧
  s+(p+r / 4294967296) / 4294967296+((p+r / 4294967296) % 4294967296+q) / 4294967296=a*b / 18446744073709551616∧a*b / 18446744073709551616<18446744073709551616:=by
 intro p q r s;have ea:a=a / 4294967296*4294967296+a % 4294967296:=by omega
 have eb:b=b / 4294967296*4294967296+b % 4294967296:=by omega
 have e:a*b=s*18446744073709551616+(p+q)*4294967296+r:=by
  show a*b=(a / 4294967296*(b / 4294967296))*18446744073709551616+(a / 4294967296*(b % 4294967296)+a % 4294967296*(b / 4294967296))*4294967296+a % 4294967296*(b % 4294967296);generalize a / 4294967296=x1 at *;generalize a % 4294967296=x0 at *;generalize b / 4294967296=y1 at *;generalize b % 4294967296=y0 at *;rw[ea,eb];have h1:x1*4294967296*(y1*4294967296)=x1*y1*18446744073709551616:=by
   rw[Nat.mul_mul_mul_comm]
  have h2:x1*4294967296*y0=x1*y0*4294967296:=by rw[Nat.mul_right_comm]
  have h3:x0*(y1*4294967296)=x0*y1*4294967296:=by rw[Nat.mul_assoc]
  rw[Nat.add_mul,Nat.mul_add,Nat.mul_add,h1,h2,h3];omega
 have bp:p<=4294967295*4294967295:=Nat.mul_le_mul (by omega) (by omega);have bq:q<=4294967295*4294967295:=Nat.mul_le_mul (by omega) (by omega);have br:r<=4294967295*4294967295:=Nat.mul_le_mul (by omega) (by omega);have bs:s<=4294967295*4294967295:=Nat.mul_le_mul (by omega) (by omega);have hab:a*b<18446744073709551616*18446744073709551616:=Nat.mul_lt_mul'' ha hb
 clear_value p q r s
 rw[e]at hab⊢;clear e ea eb;refine⟨by omega,by omega,by omega,by omega,by omega,by omega,by omega,by omega,by omega⟩
end Go.Av
namespace Go.Proofs.YtgleolmhpmljhaaGreat
open Go.Av
theorem qwm{a b:Nat}(ha:a<18446744073709551616)(hb:b<18446744073709551616):
  EVs (EV cfg) 187 [.int .u64 (a:Int),.int .u64 (b:Int)]=some (.tup [.int .u64 ((a*b / 18446744073709551616:Nat):Int),.int .u64 ((a*b % 18446744073709551616:Nat):Int)]):=by
 obtain⟨h1,h2,h3,h4,h5,h6,h7,h8,h9⟩:=qwF ha hb;have w0:qBZ .u64 (((a % 4294967296:Nat):Int)*((b % 4294967296:Nat):Int))=((a % 4294967296*(b % 4294967296):Nat):Int):=qak (Int.natCast_mul _ _).symm h1;have w1:qBZ .u64 (((a / 4294967296:Nat):Int)*((b % 4294967296:Nat):Int))=((a / 4294967296*(b % 4294967296):Nat):Int):=qak (Int.natCast_mul _ _).symm h2;have w2:qBZ .u64 (((a % 4294967296:Nat):Int)*((b / 4294967296:Nat):Int))=((a % 4294967296*(b / 4294967296):Nat):Int):=qak (Int.natCast_mul _ _).symm h3
 have w3:qBZ .u64 (((a / 4294967296:Nat):Int)*((b / 4294967296:Nat):Int))=((a / 4294967296*(b / 4294967296):Nat):Int):=qak (Int.natCast_mul _ _).symm h4;have w4:qBZ .u64 ((a:Int)*(b:Int))=((a*b % 18446744073709551616:Nat):Int):=by rw[←Int.natCast_mul,qtw]
 apply Gets.get;refine quk _ _ ?_;rw[qi7 ha,qga ha,qi7 hb,qga hb];simp only[qb,qi,w0,w1,w2,w3,w4];rw[qga h1];simp only[qb,qi];rw[qak (Int.natCast_add _ _).symm h5,qi7 h5,qga h5];simp only[qb,qi];rw[qak (Int.natCast_add _ _).symm h6,qga h6];simp only[qb,qi];rw[qak (Int.natCast_add _ _).symm h7,qak (Int.natCast_add _ _).symm (by rw[h8];exact h9),h8]
 exact⟨_,rfl,rfl⟩
theorem qr1:xH:=by
 intro e a b ha hb;obtain⟨a1,a2⟩:=ha;obtain⟨b1,b2⟩:=hb
 -- what follows the two signs
 have fin:∀(x y:Nat) (sg:Int),x<=576460752303423488->y<=576460752303423488->(sg=1∨sg= -1)->a*b=sg*(x*y:Nat) ->
   Gets (kOpt (EVs (EV cfg) 187 [.int .u64 (x:Int),.int .u64 (y:Int)]) fun(v:AV)=>kTup v fun(cs:List AV)=>qf cs fun(c:AV) (cs:List AV)=>kInt .u64 c fun(n:Int)=>qf cs fun(c:AV) (cs:List AV)=>kInt .u64 c fun(n_1:Int)=>kNil cs (bif decide (n>(0:Int))then kOpt (EVd (EV cfg) 168 [.ptr 0 0 0] 7 (mR e false)) fun(q:AV×List (List AV))=>kTmV q.1 fun(n n_2:Int) (s:List UInt8) (rows:List (List AV))=>(some (.agg [.int .i64 n,.int .i64 n_2,.str s,.sl rows],q.2))else bif decide (n_1>(576460752303423488:Int))then kOpt (EVd (EV cfg) 168 [.ptr 0 0 0] 7 (mR e false)) fun(q:AV×List (List AV))=>kTmV q.1 fun(n n_2:Int) (s:List UInt8) (rows:List (List AV))=>(some (.agg [.int .i64 n,.int .i64 n_2,.str s,.sl rows],q.2))else kOpt (EVd (EV cfg) 178 [.ptr 0 0 0,.int .i64 (qBZ .i64 (sg*qBZ .i64 n_1))] 7 (mR e false)) fun(q:AV×List (List AV))=>kTmV q.1 fun(n n_2:Int) (s:List UInt8) (rows:List (List AV))=>(some (.agg [.int .i64 n,.int .i64 n_2,.str s,.sl rows],q.2)))) (Res e (qS (a*b))):=by
  intro x y sg hx hy hsg hab;rw[qwm (by omega) (by omega)];simp only[qb,kTup,qf,qi,kNil,xW,qV,qq];have hbad:(x*y:Nat)>576460752303423488->qS (a*b)=none:=by
   intro h;unfold qS;rw[qCN];rintro⟨h1,h2⟩;rw[hab]at h1 h2;rcases hsg with rfl|rfl<;>omega
  rw[hab]at hbad⊢;generalize x*y=p at *
  by_cases c1:p / 18446744073709551616>0
  ·rw[qCK (by omega),cond_true,hbad (by omega)];exact vm
  ·rw[qCL (by omega),cond_false];have ep:p % 18446744073709551616=p:=by omega
   rw[ep]
   by_cases c2:p>576460752303423488
   ·rw[qCK (by omega),cond_true,hbad c2];exact vm
   ·rw[qCL (by omega),cond_false,qt (x:=(p:Int)) (by omega) (by omega)];have:qBZ .i64 (sg*(p:Int))=sg*p:=by rcases hsg with rfl|rfl<;>exact qt (by omega) (by omega)
    rw[this];exact Gets.bind (zd e _ λr h1 h2=>h1) λr h=>zb h (z3 h)
 have wneg:∀z:Int,-576460752303423488<=z->z<0->qBZ .u64 (qBZ .i64 (0 - z))=((-z).toNat:Int):=by
  intro z h1 h2;rw[qt (by omega) (by omega)];exact qak (by omega) (by omega)
 have wpos:∀z:Int,0<=z->z<=576460752303423488->qBZ .u64 z=(z.toNat:Int):=λz h1 h2=>qak (by omega) (by omega)
 refine qow _ _ _ _ _ _ _ _ _ ?_;unfold ze13 ze14 ze15 ze16 ze17 ze18 ze19 ze20 ze21 ze4 ze5 ze6 ze7 ze8 ze9 ze10 ze11 ze12 ze1 ze2 ze3
 by_cases ca:a<0
 ·rw[qCK ca,cond_true]
  by_cases cb:b<0
  ·rw[qCK cb,cond_true,wneg a a1 ca,wneg b b1 cb];refine fin (-a).toNat (-b).toNat 1 (by omega) (by omega) (Or.inl rfl) ?_;rw[Int.natCast_mul,Int.toNat_of_nonneg (by omega),Int.toNat_of_nonneg (by omega),Int.neg_mul_neg,Int.one_mul]
  ·rw[qCL cb,cond_false,wneg a a1 ca,wpos b (by omega) (by omega)];refine fin (-a).toNat b.toNat (-1) (by omega) (by omega) (Or.inr rfl) ?_;rw[Int.natCast_mul,Int.toNat_of_nonneg (by omega),Int.toNat_of_nonneg (by omega),Int.neg_mul,Int.one_mul,Int.neg_mul,Int.neg_neg]
 ·rw[qCL ca,cond_false]
  by_cases cb:b<0
  ·rw[qCK cb,cond_true,wpos a (by omega) (by omega),wneg b b1 cb];refine fin a.toNat (-b).toNat (-1) (by omega) (by omega) (Or.inr rfl) ?_;rw[Int.natCast_mul,Int.toNat_of_nonneg (by omega),Int.toNat_of_nonneg (by omega),Int.neg_mul,Int.one_mul,Int.mul_neg,Int.neg_neg]
  ·rw[qCL cb,cond_false,wpos a (by omega) (by omega),wpos b (by omega) (by omega)];refine fin a.toNat b.toNat 1 (by omega) (by omega) (Or.inl rfl) ?_;rw[Int.natCast_mul,Int.toNat_of_nonneg (by omega),Int.toNat_of_nonneg (by omega),Int.one_mul]
end Go.Proofs.YtgleolmhpmljhaaGreat
end
noncomputable section
namespace Go.Av
theorem qxB{t:Tm}(h:t.w<=1048576):t.Ok:=qcw t (by omega)
end Go.Av
end
noncomputable section
namespace Go.Proofs.YtgleolmhpmljhaaGreat.K
open Go.Av
theorem qfw:EVs (EV cfg) 141 [.agg [.int .i64 2,.int .i64 0,.str [36,95],.sl []]]=some (.tup [.int .i64 0,.bool false]):=qay (.nil) 1000 1000 (by kernel_rfl)
theorem qnd:EVs (EV cfg) 18 [.agg [.int .i64 2,.int .i64 0,.str [36,49],.sl []]]=some (.bool false):=qay (.nil) 1000 1000 (by kernel_rfl)
theorem qmb:EVs (EV cfg) 79 [.agg [.int .i64 7,.int .i64 0,.str [],.sl [[.int .i64 2,.int .i64 0,.str [116],.sl []],[.int .i64 2,.int .i64 0,.str [36,49],.sl []]]]]=some (.int .i64 0):=qay (.nil) 1000 1000 (by kernel_rfl)
theorem qma:EVs (EV cfg) 79 [.agg [.int .i64 7,.int .i64 0,.str [],.sl [[.int .i64 2,.int .i64 0,.str [116],.sl []],[.int .i64 1,.int .i64 9,.str [],.sl []]]]]=some (.int .i64 0):=qay (.nil) 1000 1000 (by kernel_rfl)
theorem qeh:EVs (EV cfg) 45 [.sl [[.int .i64 2,.int .i64 0,.str [116],.sl []]]]=some (.bool true):=qay (.nil) 1000 1000 (by kernel_rfl)
theorem ql9:EVs (EV cfg) 79 [.agg [.int .i64 9,.int .i64 0,.str [],.sl [[.int .i64 7,.int .i64 0,.str [],.sl [[.int .i64 7,.int .i64 0,.str [],.sl [[.int .i64 2,.int .i64 0,.str [97],.sl []],[.int .i64 2,.int .i64 0,.str [95],.sl []]]],[.int .i64 8,.int .i64 0,.str [],.sl []],[.int .i64 9,.int .i64 0,.str [],.sl [[.int .i64 2,.int .i64 0,.str [36,95],.sl []],[.int .i64 8,.int .i64 0,.str [],.sl []]]]]],[.int .i64 8,.int .i64 0,.str [],.sl []]]]]=some (.int .i64 0):=qay (.nil) 1000 1000 (by kernel_rfl)
theorem ql8:EVs (EV cfg) 79 [.agg [.int .i64 7,.int .i64 0,.str [],.sl [[.int .i64 2,.int .i64 0,.str [97],.sl []],[.int .i64 2,.int .i64 0,.str [95],.sl []]]]]=some (.int .i64 0):=qay (.nil) 1000 1000 (by kernel_rfl)
theorem ql7:EVf (EV cfg) 117 [.agg [.int .i64 7,.int .i64 0,.str [],.sl [[.int .i64 2,.int .i64 0,.str [97],.sl []],[.int .i64 2,.int .i64 0,.str [95],.sl []]]]]=some (.sl []):=qco (.consS ql8 (.nil)) 1000 1000 (by kernel_rfl)
theorem ql6:EVf (EV cfg) 83 [.agg [.int .i64 7,.int .i64 0,.str [],.sl [[.int .i64 7,.int .i64 0,.str [],.sl [[.int .i64 2,.int .i64 0,.str [97],.sl []],[.int .i64 2,.int .i64 0,.str [95],.sl []]]],[.int .i64 8,.int .i64 0,.str [],.sl []],[.int .i64 9,.int .i64 0,.str [],.sl [[.int .i64 2,.int .i64 0,.str [36,95],.sl []],[.int .i64 8,.int .i64 0,.str [],.sl []]]]]]]=some (.tup [.agg [.int .i64 7,.int .i64 0,.str [],.sl [[.int .i64 2,.int .i64 0,.str [97],.sl []],[.int .i64 2,.int .i64 0,.str [95],.sl []]],.sl [],.sl [[.int .i64 2,.int .i64 0,.str [36,95],.sl []]]],.bool true]):=qco (.consF ql7 (.consS qfw (.nil))) 1000 1000 (by kernel_rfl)
theorem ql5:EVf (EV cfg) 17 [.agg [.int .i64 9,.int .i64 0,.str [],.sl [[.int .i64 7,.int .i64 0,.str [],.sl [[.int .i64 7,.int .i64 0,.str [],.sl [[.int .i64 2,.int .i64 0,.str [97],.sl []],[.int .i64 2,.int .i64 0,.str [95],.sl []]]],[.int .i64 8,.int .i64 0,.str [],.sl []],[.int .i64 9,.int .i64 0,.str [],.sl [[.int .i64 2,.int .i64 0,.str [36,95],.sl []],[.int .i64 8,.int .i64 0,.str [],.sl []]]]]],[.int .i64 8,.int .i64 0,.str [],.sl []]]]]=some (.tup [.sl [[.int .i64 7,.int .i64 0,.str [],.sl [[.int .i64 2,.int .i64 0,.str [97],.sl []],[.int .i64 2,.int .i64 0,.str [95],.sl []]],.sl [],.sl [[.int .i64 2,.int .i64 0,.str [36,95],.sl []]]]],.int .i64 0]):=qco (.consS ql9 (.consF ql6 (.nil))) 1000 1000 (by kernel_rfl)
theorem ql4:EVf (EV cfg) 7 [.agg [.int .i64 9,.int .i64 0,.str [],.sl [[.int .i64 7,.int .i64 0,.str [],.sl [[.int .i64 7,.int .i64 0,.str [],.sl [[.int .i64 2,.int .i64 0,.str [97],.sl []],[.int .i64 2,.int .i64 0,.str [95],.sl []]]],[.int .i64 8,.int .i64 0,.str [],.sl []],[.int .i64 9,.int .i64 0,.str [],.sl [[.int .i64 2,.int .i64 0,.str [36,95],.sl []],[.int .i64 8,.int .i64 0,.str [],.sl []]]]]],[.int .i64 8,.int .i64 0,.str [],.sl []]]],.int .i64 1]=some (.tup [.agg [.bool false,.sl [[.int .i64 2,.int .i64 0,.str [97],.sl []]],.sl []],.int .i64 0]):=qco (.consF ql5 (.nil)) 1000 1000 (by kernel_rfl)
theorem ql3:EVs (EV cfg) 79 [.agg [.int .i64 9,.int .i64 0,.str [],.sl [[.int .i64 7,.int .i64 0,.str [],.sl [[.int .i64 7,.int .i64 0,.str [],.sl [[.int .i64 7,.int .i64 0,.str [],.sl [[.int .i64 2,.int .i64 0,.str [116],.sl []],[.int .i64 2,.int .i64 0,.str [36,49],.sl []]]],[.int .i64 2,.int .i64 0,.str [95],.sl []]]],[.int .i64 8,.int .i64 0,.str [],.sl []],[.int .i64 9,.int .i64 0,.str [],.sl [[.int .i64 2,.int .i64 0,.str [36,95],.sl []],[.int .i64 8,.int .i64 0,.str [],.sl []]]]]],[.int .i64 8,.int .i64 0,.str [],.sl []]]]]=some (.int .i64 0):=qay (.nil) 1000 1000 (by kernel_rfl)
theorem ql2:EVs (EV cfg) 79 [.agg [.int .i64 7,.int .i64 0,.str [],.sl [[.int .i64 7,.int .i64 0,.str [],.sl [[.int .i64 2,.int .i64 0,.str [116],.sl []],[.int .i64 2,.int .i64 0,.str [36,49],.sl []]]],[.int .i64 2,.int .i64 0,.str [95],.sl []]]]]=some (.int .i64 0):=qay (.nil) 1000 1000 (by kernel_rfl)
theorem ql1:EVf (EV cfg) 117 [.agg [.int .i64 7,.int .i64 0,.str [],.sl [[.int .i64 7,.int .i64 0,.str [],.sl [[.int .i64 2,.int .i64 0,.str [116],.sl []],[.int .i64 2,.int .i64 0,.str [36,49],.sl []]]],[.int .i64 2,.int .i64 0,.str [95],.sl []]]]]=some (.sl [[.int .i64 1]]):=qco (.consS ql2 (.nil)) 1000 1000 (by kernel_rfl)
theorem ql0:EVf (EV cfg) 83 [.agg [.int .i64 7,.int .i64 0,.str [],.sl [[.int .i64 7,.int .i64 0,.str [],.sl [[.int .i64 7,.int .i64 0,.str [],.sl [[.int .i64 2,.int .i64 0,.str [116],.sl []],[.int .i64 2,.int .i64 0,.str [36,49],.sl []]]],[.int .i64 2,.int .i64 0,.str [95],.sl []]]],[.int .i64 8,.int .i64 0,.str [],.sl []],[.int .i64 9,.int .i64 0,.str [],.sl [[.int .i64 2,.int .i64 0,.str [36,95],.sl []],[.int .i64 8,.int .i64 0,.str [],.sl []]]]]]]=some (.tup [.agg [.int .i64 7,.int .i64 0,.str [],.sl [[.int .i64 7,.int .i64 0,.str [],.sl [[.int .i64 2,.int .i64 0,.str [116],.sl []],[.int .i64 2,.int .i64 0,.str [36,49],.sl []]]],[.int .i64 2,.int .i64 0,.str [95],.sl []]],.sl [],.sl [[.int .i64 2,.int .i64 0,.str [36,95],.sl []]]],.bool true]):=qco (.consF ql1 (.consS qfw (.nil))) 1000 1000 (by kernel_rfl)
theorem qlZ:EVf (EV cfg) 17 [.agg [.int .i64 9,.int .i64 0,.str [],.sl [[.int .i64 7,.int .i64 0,.str [],.sl [[.int .i64 7,.int .i64 0,.str [],.sl [[.int .i64 7,.int .i64 0,.str [],.sl [[.int .i64 2,.int .i64 0,.str [116],.sl []],[.int .i64 2,.int .i64 0,.str [36,49],.sl []]]],[.int .i64 2,.int .i64 0,.str [95],.sl []]]],[.int .i64 8,.int .i64 0,.str [],.sl []],[.int .i64 9,.int .i64 0,.str [],.sl [[.int .i64 2,.int .i64 0,.str [36,95],.sl []],[.int .i64 8,.int .i64 0,.str [],.sl []]]]]],[.int .i64 8,.int .i64 0,.str [],.sl []]]]]=some (.tup [.sl [[.int .i64 7,.int .i64 0,.str [],.sl [[.int .i64 7,.int .i64 0,.str [],.sl [[.int .i64 2,.int .i64 0,.str [116],.sl []],[.int .i64 2,.int .i64 0,.str [36,49],.sl []]]],[.int .i64 2,.int .i64 0,.str [95],.sl []]],.sl [],.sl [[.int .i64 2,.int .i64 0,.str [36,95],.sl []]]]],.int .i64 0]):=qco (.consS ql3 (.consF ql0 (.nil))) 1000 1000 (by kernel_rfl)
theorem qlY:EVf (EV cfg) 7 [.agg [.int .i64 9,.int .i64 0,.str [],.sl [[.int .i64 7,.int .i64 0,.str [],.sl [[.int .i64 7,.int .i64 0,.str [],.sl [[.int .i64 7,.int .i64 0,.str [],.sl [[.int .i64 2,.int .i64 0,.str [116],.sl []],[.int .i64 2,.int .i64 0,.str [36,49],.sl []]]],[.int .i64 2,.int .i64 0,.str [95],.sl []]]],[.int .i64 8,.int .i64 0,.str [],.sl []],[.int .i64 9,.int .i64 0,.str [],.sl [[.int .i64 2,.int .i64 0,.str [36,95],.sl []],[.int .i64 8,.int .i64 0,.str [],.sl []]]]]],[.int .i64 8,.int .i64 0,.str [],.sl []]]],.int .i64 1]=some (.tup [.agg [.bool false,.sl [],.sl [[.int .i64 2,.sl [[.int .i64 2,.int .i64 0,.str [116],.sl []]]]]],.int .i64 0]):=qco (.consF qlZ (.consS qmb (.consS qnd (.nil)))) 1000 1000 (by kernel_rfl)
theorem qlX:EVs (EV cfg) 42 [.agg [.int .i64 2,.sl [[.int .i64 2,.int .i64 0,.str [116],.sl []]]],.agg [.int .i64 7,.int .i64 0,.str [],.sl [[.int .i64 2,.int .i64 0,.str [116],.sl []],[.int .i64 1,.int .i64 9,.str [],.sl []]]]]=some (.int .i64 0):=qay (.consS qma (.consS qeh (.nil))) 1000 1000 (by kernel_rfl)
theorem qlW:EVs (EV cfg) 12 []=some (.bool true):=qay (.consF ql4 (.consF qlY (.consS qlX (.consS qeh (.nil))))) 1000 1000 (by kernel_rfl)
end Go.Proofs.YtgleolmhpmljhaaGreat.K
end
noncomputable section
namespace Go.Av
theorem qmM{o:Tm}{self:Int}:∀(l:List Cl) (i:Int),(qba o self l i).1>0->∃c∈l,∃b,yJ c.head o=some b
 |[],_,h=>by simp[qba]at h
 |c::l,i,h=>by
  rw[qba]at h;cases ht:qhr c o self with
  |none=>
   rw[ht]at h;obtain⟨c',h1,h2⟩:=qmM l (i+1) h;exact⟨c',List.mem_cons_of_mem _ h1,h2⟩
  |some x=>
   unfold qhr at ht;cases hm:yJ c.head o with
   |none=>rw[hm]at ht;cases ht
   |some b=>exact⟨c,by simp,b,hm⟩
end Go.Av
namespace Go.Proofs.YtgleolmhpmljhaaGreat
open Go.Av
theorem qz4{f:Nat}{s:List AV->AH->Option (AV×AH)}(hx:cfg.ext f=some s){args:List AV}{v:AV}(h:(match s args []with|some r=>some r.1|none=>none)=some v):EVs (EV cfg) f args=some v:=by
 cases hs:s args []with
 |none=>rw[hs]at h;cases h
 |some r=>
  rw[hs]at h;cases h;have:EV cfg (.f f) args []=some r:=qhN (by unfold xn;simp only[hx];exact hs);unfold EVs;rw[this];rfl
theorem qne:EVs (EV cfg) 12 []=some (.bool true):=by
 have h:=K.qlW;refine qz4 (s:=EV K.cfg (.f 12)) rfl ?_;unfold EVs at h;obtain⟨q,h1,h2⟩:=qCb.1 h;rw[h1];exact congrArg some h2
theorem qsn{l:List Tm}(hl:OkL l)(hlen:l.length<1099511627776):Gets (EVs (EV cfg) 5 [.sl (qa l)]) AV.IsBool:=by
 have loop:∀(d i:Nat),i+d=l.length->Gets (qjq (qa l) i) AV.IsBool:=by
  intro d
  induction d with
  |zero=>
   intro i hi;refine qhX _ _ ?_;rw[qg,qCL (by omega)];exact⟨_,rfl,_,rfl⟩
  |succ d ihd=>
   intro i hi;refine qhX _ _ ?_;have hil:i<l.length:=by omega
   have hxi:l[i]? =some l[i]:=qB3 hil;have hb:=qyp (hl.get (qCc hxi)) (most:=400) (by omega) (by omega);rw[qZ hil hlen];simp[hil,hxi];refine Gets.bind hb ?_;rintro _ ⟨b,rfl,_⟩;cases b with
   |true=>exact⟨_,rfl,_,rfl⟩
   |false=>simpa using ihd (i+1) (by omega)
 exact qql _ (loop l.length 0 (by omega))
theorem qkZ{t o:Tm}(wt:t.w<=1048576)(wo:o.w<=1048576)(pos:Int):EVs (EV cfg) 4 [t.av,o.av,.int .i64 pos]=some (.bool true):=by
 have hl:=qsn (l:=[t,o]) ⟨qxB wt,qxB wo,trivial⟩ (by simp);have hof:=qAa (t:=t) (by omega) pos;have hrun:=qvT qr1 (t:=t) (o:=o) (by omega) (by omega) 1;have er:([[AV.int .i64 t.kind,.int .i64 t.num,.str t.str,.sl (qa t.subs)],[AV.int .i64 o.kind,.int .i64 o.num,.str o.str,.sl (qa o.subs)]]:List (List AV))=qa [t,o]:=by
  rw[qN,qN,q4,Tm.cells_eq,Tm.cells_eq]
 have hoe:=o.w_eq;have hos:=xL o.subs;apply Gets.get;rw[Tm.av,Tm.cells_eq,Tm.av,Tm.cells_eq];refine qqb _ _ _ _ _ _ _ _ _ ?_;rw[qne,er,qq,qq,hrun];simp -implicitDefEqProofs only[qb,qp];refine Gets.bind hl ?_;rintro _ ⟨big,rfl⟩;simp -implicitDefEqProofs only[qp];cases big with
 |true=>exact⟨_,rfl,rfl⟩
 |false=>
  simp -implicitDefEqProofs only[cond_false];have hof2:Gets (EVf (EV cfg) 7 [t.av,.int .i64 pos]) (λv=>∃(b:Bnd) (e:Int),v= .tup [b.av,.int .i64 e]∧(e=0->(clsG t).2=0∧BndW b∧∃p:Nat,pos=p∧1<=p∧BndFor (clsG t).1 p b∧∀s∈b.rgs,allK s.fst=true)):=by
   refine hof.mono ?_;rintro v (⟨h1,rfl⟩|⟨h1,h2,rfl⟩|⟨h1,p,rfl,hp,b,rfl,h3,h4,h5⟩)
   ·exact⟨⟨false,[],[]⟩,(clsG t).2,rfl,λh=>absurd h h1⟩
   ·exact⟨⟨false,[],[]⟩,2,rfl,λh=>absurd h (by decide)⟩
   ·exact⟨b,0,rfl,λ_=>⟨h1,h3,p,rfl,hp,h4,h5⟩⟩
  refine Gets.bind hof2 ?_;have fin:Gets (some (AV.bool true)) (·=AV.bool true):=⟨_,rfl,rfl⟩;rintro _ ⟨b,e,rfl,hb⟩;simp -implicitDefEqProofs only[zS,vq,qi,vR,qp];have ka:∀{α:Type} (x:Tm) (K:List AV->Option α),kAgg x.av K=K x.cells:=λx K=>by rw[Tm.av];rfl
  have kb:∀{α:Type} (K:List AV->Option α),kAgg b.av K=K [.bool b.all,.sl (qa b.keys),.sl (qD b.rgs)]:=λK=>rfl
  simp -implicitDefEqProofs only[kb,ka,Tm.cells_eq,vq,qi,vR,qp,vt,zm];rw[bneD]
  by_cases he:e=0
  case neg=>
   rw[qCL he,qCm,cond_true];exact fin
  obtain⟨h0,hbw,p,rfl,hp1,hbf,hba⟩:=hb he;rw[qCK he,qCj,cond_false,bneD]
  by_cases hf:(qa9 t o 1).2.2=0
  case neg=>
   rw[qCL hf,qCm,cond_true];exact fin
  rw[qCK hf,qCj,cond_false]
  by_cases hi:(qa9 t o 1).1>0
  case neg=>
   rw[qCL hi,qCm,cond_true];exact fin
  rw[qCK hi,qCj,cond_false,qg]
  by_cases hpl:(p:Int)>(o.subs.length:Int)
  ·rw[qCK hpl,cond_true];exact fin
  obtain⟨c,hc,bs,hm⟩:∃c∈(clsG t).1,∃bs,yJ c.head o=some bs:=by
   unfold qa9 at hi;rw[qCN (by omega)]at hi;split at hi
   ·exact absurd hi (by decide)
   ·exact qmM _ _ hi
  obtain⟨k,hk⟩:=qK (l:=o.subs) (i:=p - 1) (by omega);have hnar:=qyb hbf hba hp1 hc hm hk;have hkw:=y5 (qCc hk);have hmt:=qve (b:=b) hbw.kl hbw.kw hbw.rl hbw.rw (k:=k) (by omega);rw[show qot b k=qou b k from rfl,hnar]at hmt;rw[qCL hpl,cond_false,qjl hp1 (by omega),rdB (show p - 1<o.subs.length by omega),vW hk];have eb:(AV.agg [.bool b.all,.sl (qa b.keys),.sl (qD b.rgs)])=b.av:=rfl
  simp -implicitDefEqProofs only[qCj,cond_false,cond_true,qj,qCw,qm,qk,xe,qq,eb,hmt,qb,qp];exact fin
end Go.Proofs.YtgleolmhpmljhaaGreat
end
