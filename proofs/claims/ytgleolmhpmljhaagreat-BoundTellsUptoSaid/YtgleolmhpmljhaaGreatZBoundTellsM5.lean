/-
  Parts of the proof of BoundTellsUptoSaid, put together: the abstract evaluation and its contracts. Own work.
  What is proved: each lemma as it stands; no condition.
-/
import Derived.Test.YtgleolmhpmljhaaGreatZBoundTellsM4
open Go.IntKind renaming wrap → qFD
open List renaming getElem?_eq_getElem → qFE, getElem?_eq_some_iff → qFF, get?Internal → qFG, length → qFI, mem_of_getElem? → qFK, take → qFN, take_of_length_le → qFP, drop_eq_getElem_cons → qFS, length_append → qFU, drop_eq_nil_of_le → qFV, getElem?_append_left → qFX, eq_nil_of_length_eq_zero → qFZ, getElem?_append_right → qF0, getElem?_set → qF1, append → qF2, mem_cons → qF6, mem_append → qF8, length_take → qF9, drop → qGb, replicate → qGd, length_cons → qGf, append_nil → qGh, take_add_one → qGk, append_assoc → qGl, range → qGn
open Nat renaming le_refl → qFH, eq_of_beq_eq_true → qFO, ble → qFR, beq → qFY, beq_refl → qF3, mul_le_mul_right → qGe, zero_add → qGi, ble_eq → qGj
open Bool renaming and_eq_true → qFJ, not_true → qFW, not_false → qF4, false_eq_true → qF5, and_self → qF7, true_and → qGm
open Option renaming bind_eq_some_iff → qFL, map_eq_some_iff → qFM, bind_some → qGa, map_some → qGc
open Int renaming toNat → qFQ, toNat_natCast → qFT
open Array renaming toList → qGg
set_option maxRecDepth 1000000
set_option maxHeartbeats 0
noncomputable section
namespace Go.Av
theorem qoT{a n:Nat}(hn:n<64):qJ (Op.shift .shr .u64 (a:Int) .u64 (n:Int))=some (.int .u64 ((a / 2 ^ n:Nat):Int)):=by
 have:qJ (Op.shift .shr .u64 (a:Int) .u64 (n:Int))=some (.int .u64 (Int.fdiv a (2 ^ (min (n:Int).toNat 64)))):=by
  unfold Op.shift;rw[qGr (by omega)];rfl
 rw[this,qFT,Nat.min_eq_left (by omega)];have e:((2:Int) ^ n)=((2 ^ n:Nat):Int):=by simp
 rw[e,Int.fdiv_eq_ediv_of_nonneg _ (Int.natCast_nonneg _)];rfl
theorem qnG(n:Nat):qFD .u64 (n:Int)=((n % 18446744073709551616:Nat):Int):=by
 simp[qFD,IntKind.bits,IntKind.signed]
theorem qAf{a n:Nat}(hn:n<64):qJ (Op.shift .shl .u64 (a:Int) .u64 (n:Int))=some (.int .u64 ((a*2 ^ n % 18446744073709551616:Nat):Int)):=by
 have:qJ (Op.shift .shl .u64 (a:Int) .u64 (n:Int))=some (.int .u64 (qFD .u64 (a*2 ^ (min (n:Int).toNat 64)))):=by
  unfold Op.shift;rw[qGr (by omega)];rfl
 rw[this,qFT,Nat.min_eq_left (by omega)];have e:((a:Int)*(2:Int) ^ n)=((a*2 ^ n:Nat):Int):=by simp
 rw[e,qnG]
theorem qtr{a b:Nat}(ha:a<18446744073709551616)(hb:b<18446744073709551616):qJ (Op.intBits .xor .u64 (a:Int) (b:Int))=some (.int .u64 ((a ^^^ b:Nat):Int))∧a ^^^ b<18446744073709551616:=by
 have:qJ (Op.intBits .xor .u64 (a:Int) (b:Int))=some (.int .u64 (qFD .u64 (BitVec.ofInt 64 (a:Int) ^^^ BitVec.ofInt 64 (b:Int)).toNat)):=rfl;have ea:(BitVec.ofInt 64 (a:Int)).toNat=a:=by simp[BitVec.toNat_ofInt];omega
 have eb:(BitVec.ofInt 64 (b:Int)).toNat=b:=by simp[BitVec.toNat_ofInt];omega
 have hlt:=(BitVec.ofInt 64 (a:Int) ^^^ BitVec.ofInt 64 (b:Int)).isLt;rw[BitVec.toNat_xor,ea,eb]at hlt;rw[this,BitVec.toNat_xor,ea,eb];have hlt:a ^^^ b<18446744073709551616:=by simpa using hlt
 exact⟨by rw[qbW hlt],hlt⟩
theorem qAo{a b:Nat}(ha:a<18446744073709551616)(hb:b<18446744073709551616):qJ (Op.intBits .and .u64 (a:Int) (b:Int))=some (.int .u64 ((a &&& b:Nat):Int)):=by
 have:qJ (Op.intBits .and .u64 (a:Int) (b:Int))=some (.int .u64 (qFD .u64 (BitVec.ofInt 64 (a:Int) &&& BitVec.ofInt 64 (b:Int)).toNat)):=rfl;have ea:(BitVec.ofInt 64 (a:Int)).toNat=a:=by simp[BitVec.toNat_ofInt];omega
 have eb:(BitVec.ofInt 64 (b:Int)).toNat=b:=by simp[BitVec.toNat_ofInt];omega
 have hle:a &&& b<=b:=Nat.and_le_right;rw[this,BitVec.toNat_and,ea,eb,qbW (by omega)]
def tabL:List UInt8:=[(0:UInt8),1,2,2,3,3,3,3,4,4,4,4,4,4,4,4,5,5,5,5,5,5,5,5,5,5,5,5,5,5,5,5,6,6,6,6,6,6,6,6,6,6,6,6,6,6,6,6,6,6,6,6,6,6,6,6,6,6,6,6,6,6,6,6,7,7,7,7,7,7,7,7,7,7,7,7,7,7,7,7,7,7,7,7,7,7,7,7,7,7,7,7,7,7,7,7,7,7,7,7,7,7,7,7,7,7,7,7,7,7,7,7,7,7,7,7,7,7,7,7,7,7,7,7,7,7,7,7,8,8,8,8,8,8,8,8,8,8,8,8,8,8,8,8,8,8,8,8,8,8,8,8,8,8,8,8,8,8,8,8,8,8,8,8,8,8,8,8,8,8,8,8,8,8,8,8,8,8,8,8,8,8,8,8,8,8,8,8,8,8,8,8,8,8,8,8,8,8,8,8,8,8,8,8,8,8,8,8,8,8,8,8,8,8,8,8,8,8,8,8,8,8,8,8,8,8,8,8,8,8,8,8,8,8,8,8,8,8,8,8,8,8,8,8,8,8,8,8,8,8,8,8,8,8,8,8]
theorem qAv:∀m:Nat,m<256->∃b:UInt8,qFG tabL m=some b∧b.toNat<=8∧(m≠0->1<=b.toNat∧2 ^ (b.toNat - 1)<=m):=by
 have h:(qGn 256).all (λm=>match qFG tabL m with|some b=>decide (b.toNat<=8)&&(decide (m=0)||(decide (1<=b.toNat)&&decide (2 ^ (b.toNat - 1)<=m)))|none=>false)=true:=by decide +kernel
 intro m hm;have h1:=List.all_eq_true.1 h m (List.mem_range.2 hm);cases hb:qFG tabL m with
 |none=>rw[hb]at h1;cases h1
 |some b=>
  rw[hb]at h1;simp only[qFJ,Bool.or_eq_true,decide_eq_true_eq]at h1;exact⟨b,rfl,h1.1,λh0=>h1.2.resolve_left h0⟩
def Two(a b:Nat)(r:AV×List (List AV)):Prop:=∃(x y:Nat) (s:Int),((x=a∧y=b)∨(x=b∧y=a))∧r=(.tup [.int .i64 (x:Int),.int .i64 (y:Int)],[[.int .i64 s]])
def One3(a b c:Nat)(r:AV×List (List AV)):Prop:=∃(x:Nat) (s:Int),(x=a∨x=b∨x=c)∧r=(.int .i64 (x:Int),[[.int .i64 s]])
def PivP(a b:Nat)(v:AV):Prop:=∃(j:Nat) (h:Int),a<=j∧j<b∧v= .tup [.int .i64 (j:Int),.int .i64 h]
def LenP(n:Nat)(v:AV):Prop:=∃L:Nat,L<=24∧(1<=n->1<=L∧2 ^ (L - 1)<=n)∧v= .int .i64 (L:Int)
def NxtP(r:AV×List (List AV)):Prop:=∃b:Nat,b<18446744073709551616∧r=(.int .u64 (b:Int),[[.int .u64 (b:Int)]])
end Go.Av
namespace Go.Proofs.YtgleolmhpmljhaaGreat
open Go.Av
theorem qkv{l:List Tm}{a b:Nat}(ha:a<l.length)(hb:b<l.length)(hok:q8 l)(s:Int):
  Gets (EVd (EV cfg) 147 [.sl (qa l),.int .i64 (a:Int),.int .i64 (b:Int),.ptr 0 0 0,cmpF] 1 [[.int .i64 s]]) (Two a b):=by
 refine qwk _ _ _ _ ?_;unfold rs4;obtain⟨x,hx⟩:=qM ha;obtain⟨y,hy⟩:=qM hb;have hc:=vS (hok.at hy) (hok.at hx);rw[qb,rdB ha,rdB hb];simp -implicitDefEqProofs only[cond_true,qd,qf,show qFR 4 4=true from rfl,show qFY 4 4=true from rfl,qi,qh,qB,qe,xz hx,xz hy,hc]
 cases decide (cmpT y x<0)with
 |true=>exact⟨_,rfl,b,a,_,.inr ⟨rfl,rfl⟩,rfl⟩
 |false=>exact⟨_,rfl,a,b,_,.inl ⟨rfl,rfl⟩,rfl⟩
theorem qnf{l:List Tm}{a b c:Nat}(ha:a<l.length)(hb:b<l.length)(hc:c<l.length)(hok:q8 l)(s:Int):
  Gets (EVd (EV cfg) 126 [.sl (qa l),.int .i64 (a:Int),.int .i64 (b:Int),.int .i64 (c:Int),.ptr 0 0 0,cmpF] 1 [[.int .i64 s]]) (One3 a b c):=by
 refine qyD _ _ _ _ _ ?_;refine Gets.bind (qkv ha hb hok s) ?_;rintro _ ⟨x,y,s1,h1,rfl⟩;simp only[yX,qT,qe,q9];have hx:x<l.length:=by omega
 have hy:y<l.length:=by omega
 refine Gets.bind (qkv hy hc hok s1) ?_;rintro _ ⟨z,w,s2,h2,rfl⟩;simp only[yX,qT,qe,q9];have hz:z<l.length:=by omega
 refine Gets.bind (qkv hx hz hok s2) ?_;rintro _ ⟨u,v,s3,h3,rfl⟩;simp only[yX,qT,qe,q9];exact⟨_,rfl,v,s3,by omega,rfl⟩
theorem qkz{l:List Tm}{a:Nat}(h1:1<=a)(ha:a+1<l.length)(hl:l.length<1099511627776)(hok:q8 l)(s:Int):
  Gets (EVd (EV cfg) 125 [.sl (qa l),.int .i64 (a:Int),.ptr 0 0 0,cmpF] 1 [[.int .i64 s]]) (One3 (a - 1) a (a+1)):=by
 refine qww _ _ _ ?_;have w0:qFD .i64 ((a:Int) - 1)=((a - 1:Nat):Int):=by rw[qo (by omega) (by omega)];omega
 rw[w0,wr1 (by omega)];refine Gets.bind (qnf (by omega) (by omega) (by omega) hok s) ?_;rintro _ ⟨x,s1,hx,rfl⟩;simp only[qe];exact⟨_,rfl,x,s1,hx,rfl⟩
theorem qAD{l:List Tm}{a b:Nat}(hl:l.length<1099511627776)(hb:b<=l.length)(hab:a+8<=b)(hok:q8 l):
  Gets (EVs (EV cfg) 91 [.sl (qa l),.int .i64 (a:Int),.int .i64 (b:Int),cmpF]) (PivP a b):=by
 refine qyg _ _ _ ?_;unfold zA0 zA1 zA2 zA3 zA4;have w1:qFD .i64 ((b:Int) - (a:Int))=((b - a:Nat):Int):=by rw[qo (by omega) (by omega)];omega
 have w2:qFD .i64 ((((b - a:Nat):Int)).tdiv 4)=(((b - a) / 4:Nat):Int):=by
  rw[show((4:Int))=((4:Nat):Int)from rfl,qma,qo (by omega) (by omega)]
 have w3:qFD .i64 ((a:Int)+qFD .i64 ((((b - a) / 4:Nat):Int)*1))=((a+(b - a) / 4:Nat):Int):=by
  rw[qo (x:=_*1) (by omega) (by omega),qo (by omega) (by omega)];omega
 have w4:qFD .i64 ((a:Int)+qFD .i64 ((((b - a) / 4:Nat):Int)*2))=((a+(b - a) / 4*2:Nat):Int):=by
  rw[qo (x:=_*2) (by omega) (by omega),qo (by omega) (by omega)];omega
 have w5:qFD .i64 ((a:Int)+qFD .i64 ((((b - a) / 4:Nat):Int)*3))=((a+(b - a) / 4*3:Nat):Int):=by
  rw[qo (x:=_*3) (by omega) (by omega),qo (by omega) (by omega)];omega
 rw[w1,zH (by decide),w2];simp only[qd,qe,w3,w4,w5];rw[qGo (show((b - a:Nat):Int)≥8 by omega),cond_true];have fin:∀(j:Nat) (s:Int),a<=j->j<b->Gets (kInt .i64 (.int .i64 s) fun(n_5:Int)=>bif n_5==(0:Int)then some (AV.tup [AV.int .i64 (j:Int),.int .i64 (1:Int)])else bif n_5==(12:Int)then some (AV.tup [AV.int .i64 (j:Int),.int .i64 (2:Int)])else some (AV.tup [AV.int .i64 (j:Int),.int .i64 (0:Int)])) (PivP a b):=by
  intro j s h1 h2;simp only[qe];cases s==(0:Int)with
  |true=>exact⟨_,rfl,j,_,h1,h2,rfl⟩
  |false=>
   cases s==(12:Int)with
   |true=>exact⟨_,rfl,j,_,h1,h2,rfl⟩
   |false=>exact⟨_,rfl,j,_,h1,h2,rfl⟩
 by_cases h50:50<=b - a
 ·rw[qGo (show((b - a:Nat):Int)≥50 by omega),cond_true];refine Gets.bind (qkz (a:=a+(b - a) / 4) (by omega) (by omega) hl hok 0) ?_;rintro _ ⟨x,s1,hx,rfl⟩;have hx1:a<=x:=by omega
  have hx2:x<b:=by omega
  clear hx;simp only[qe];refine Gets.bind (qkz (a:=a+(b - a) / 4*2) (by omega) (by omega) hl hok s1) ?_;rintro _ ⟨y,s2,hy,rfl⟩;have hy1:a<=y:=by omega
  have hy2:y<b:=by omega
  clear hy;simp only[qe];refine Gets.bind (qkz (a:=a+(b - a) / 4*3) (by omega) (by omega) hl hok s2) ?_;rintro _ ⟨z,s3,hz,rfl⟩;have hz1:a<=z:=by omega
  have hz2:z<b:=by omega
  clear hz;simp only[qe];refine Gets.bind (qnf (a:=x) (b:=y) (c:=z) (by omega) (by omega) (by omega) hok s3) ?_;rintro _ ⟨j,s4,hj,rfl⟩;have ha1:a<=j:=by omega
  have ha2:j<b:=by omega
  exact fin j s4 ha1 ha2
 ·rw[qGp (show ¬((b - a:Nat):Int)≥50 by omega),cond_false];refine Gets.bind (qnf (a:=a+(b - a) / 4) (b:=a+(b - a) / 4*2) (c:=a+(b - a) / 4*3) (by omega) (by omega) (by omega) hok 0) ?_;rintro _ ⟨j,s4,hj,rfl⟩;have ha1:a<=j:=by omega
  have ha2:j<b:=by omega
  exact fin j s4 ha1 ha2
theorem qnF{a:Nat}(ha:a<18446744073709551616):Gets (EVd (EV cfg) 124 [.ptr 0 0 0] 1 [[.int .u64 (a:Int)]]) NxtP:=by
 refine qtq _ ?_;have e13:((13:Int))=((13:Nat):Int):=rfl;have e7:((7:Int))=((7:Nat):Int):=rfl;have e17:((17:Int))=((17:Nat):Int):=rfl;have m:∀x:Nat,x % 18446744073709551616<18446744073709551616:=λx=>Nat.mod_lt _ (by decide)
 rw[e13,e7,e17,qAf (by decide)];simp only[qd,qe];obtain⟨h1,l1⟩:=qtr ha (m (a*2 ^ 13));rw[h1];generalize a ^^^ (a*2 ^ 13 % 18446744073709551616)=c at *;simp only[qd,qe];rw[qoT (by decide)];simp only[qd,qe];obtain⟨h2,l2⟩:=qtr l1 (show c / 2 ^ 7<18446744073709551616 by omega);rw[h2];generalize c ^^^ (c / 2 ^ 7)=d at *;simp only[qd,qe];rw[qAf (by decide)]
 simp only[qd,qe];obtain⟨h3,l3⟩:=qtr l2 (m (d*2 ^ 17));rw[h3];simp only[qd,qe];exact⟨_,rfl,_,l3,rfl⟩
theorem qxj{n:Nat}(hn:n<16777216):Gets (EVs (EV cfg) 97 [.int .u64 (n:Int)]) (LenP n):=by
 refine qvo _ ?_;have w8:∀m:Nat,m<256->qFD .u8 (m:Int)=(m:Int):=λm h=>by
  simp[qFD,IntKind.bits,IntKind.signed];omega
 have e16:((16:Int))=((16:Nat):Int):=rfl;have e8:((8:Int))=((8:Nat):Int):=rfl;have fin:∀(m c:Nat),m<256->(1<=n->m≠0)->c+8<=24->2 ^ c*m<=n->Gets (bif qj (0:Int) (qFD .u8 (m:Int))then kOpt (qFG tabL (qFQ (qFD .u8 (m:Int)))) fun(b:UInt8)=>some (AV.int .i64 (qFD .i64 ((c:Int)+qFD .i64 ((UInt8.toNat b:Nat):Int))))else none) (LenP n):=by
  intro m c hm h0 hc hle;obtain⟨b,hb,hb8,hbm⟩:=qAv m hm;rw[w8 m hm,qv,qFT,hb];simp only[cond_true,qd];rw[qo (x:=((UInt8.toNat b:Nat):Int)) (by omega) (by omega),qo (by omega) (by omega)];refine⟨_,rfl,c+b.toNat,by omega,λh1=>?_,by simp⟩;obtain⟨hb1,hbp⟩:=hbm (h0 h1);refine⟨by omega,?_⟩;have:2 ^ (c+b.toNat - 1)=2 ^ c*2 ^ (b.toNat - 1):=by rw[←Nat.pow_add];congr 1;omega
  rw[this];exact Nat.le_trans (Nat.mul_le_mul_left _ hbp) hle
 rw[qGp (show ¬(n:Int)≥4294967296 by omega),cond_false]
 by_cases h16:65536<=n
 ·rw[qGo (show(n:Int)≥65536 by omega),cond_true,e16,qoT (by decide)];simp only[qd,qe];have h2:n / 2 ^ 16<256:=by omega
  rw[qGp (show ¬((n / 2 ^ 16:Nat):Int)≥256 by omega),cond_false];exact fin (n / 2 ^ 16) 16 h2 (λ_=>by omega) (by omega) (by omega)
 ·rw[qGp (show ¬(n:Int)≥65536 by omega),cond_false]
  by_cases h8:256<=n
  ·rw[qGo (show(n:Int)≥256 by omega),cond_true,e8,qoT (by decide)];simp only[qd,qe];exact fin (n / 2 ^ 8) 8 (by omega) (λ_=>by omega) (by omega) (by omega)
  ·rw[qGp (show ¬(n:Int)≥256 by omega),cond_false];exact fin n 0 (by omega) (λ_=>by omega) (by omega) (by omega)
end Go.Proofs.YtgleolmhpmljhaaGreat
end
noncomputable section
namespace Go.Av
def AllW(l:List Rg):Prop:=∀r∈l,RgW r
theorem AllW.at{l:List Rg}(h:AllW l){i:Nat}{x:Rg}(hx:l[i]? =some x):RgW x:=h x (qFK hx)
theorem rgB2(a b:AV):qFR 2 (qFI [a,b])=true:=rfl
theorem rgT2(a b:AV):qFN 2 [a,b]=[a,b]:=rfl
theorem rgD2(a b:AV):qGb 2 [a,b]=[]:=rfl
theorem rgG{l:List Rg}{i:Nat}{x:Rg}(hx:l[i]? =some x):qFG (qn l) (0+qFQ (i:Int))=some [.int .i64 x.ar,.sl (qa x.fst)]:=by
 rw[qGi,qu,qFT,qdL,hx];rfl
theorem rg4{l:List Rg}{i:Nat}{y:Rg}:List.set (qn l) (0+qFQ (i:Int)) [.int .i64 y.ar,.sl (qa y.fst)]=qn (l.set i y):=by
 rw[qGi,qFT];unfold qn;rw[List.map_set];rfl
theorem rg2{l:List Rg}{i j:Nat}{x y:Rg}(hx:l[i]? =some x)(hy:l[j]? =some y):qFG (qn (l.set i y)) (0+qFQ (j:Int))=some [.int .i64 y.ar,.sl (qa y.fst)]:=by
 refine rgG ?_;have hi:=(qFF.1 hx).1
 by_cases h:i=j
 ·subst h;rw[List.getElem?_set_self hi]
 ·rw[List.getElem?_set_ne h,hy]
theorem qaL{l:List Rg}{i:Nat}(h:i<l.length):∃x,l[i]? =some x:=⟨l[i],qFE h⟩
def qaP:List Tm->List Tm->Int
 |[],[]=>0
 |[],_::_=> -1
 |_::_,[]=>1
 |x::l,y::m=>if cmpT x y≠0 then cmpT x y else qaP l m
def qx(r s:Rg):Int:=lexI (numC r.ar s.ar) (lexI (numC r.fst.length s.fst.length) (qaP r.fst s.fst))
theorem wadd{x y:Nat}(h:x+y<4398046511104):qFD .i64 ((x:Int)+(y:Int))=((x+y:Nat):Int):=by rw[qo (by omega) (by omega)];omega
theorem wsub{x y:Nat}(h:y<=x)(hx:x<4398046511104):qFD .i64 ((x:Int) - (y:Int))=((x - y:Nat):Int):=by rw[qo (by omega) (by omega)];omega
theorem wid{x:Nat}(hx:x<4398046511104):qFD .i64 (x:Int)=(x:Int):=qo (by omega) (by omega)
theorem shr1{x y:Nat}(h:x+y<4398046511104):qJ (Op.shift BinOp.shr .u64 (qFD .u64 (qFD .i64 ((x:Int)+(y:Int)))) .u64 (1:Int))=some (.int .u64 (((x+y) / 2:Nat):Int)):=by
 rw[wadd h,qnG,Nat.mod_eq_of_lt (by omega)];exact qoT (n:=1) (by omega)
end Go.Av
namespace Go.Proofs.YtgleolmhpmljhaaGreat
open Go.Av
abbrev ahF:AV:=.fn (Fn.func 57) [] []
theorem qw6{l m:List Tm}(hl:l.length<1099511627776)(hw:∀x∈l,x.w<1099511627776)(hm:∀x∈m,x.w<1099511627776):EVs (EV cfg) 78 [.sl (qa l),.sl (qa m),.fn (.func 29) [] []]=some (.int .i64 (qaP l m)):=by
 have loop:∀d i:Nat,i+d=l.length->i<=m.length->Gets (qir (qa l) (qa m) i) (·= .int .i64 (qaP (l.drop i) (m.drop i))):=by
  intro d
  induction d with
  |zero=>
   intro i hi hm;refine qgH _ _ _ ?_;unfold rs4;rw[qb,qb,qGp (show ¬((i:Int)<(l.length:Int)) by omega),qFV (show l.length<=i by omega)]
   by_cases h:l.length<m.length
   ·rw[qGo (show(l.length:Int)<(m.length:Int) by omega),qFS (show i<m.length by omega)];exact⟨_,rfl,rfl⟩
   ·rw[qGp (show ¬(l.length:Int)<(m.length:Int) by omega),qFV (show m.length<=i by omega)];exact⟨_,rfl,rfl⟩
  |succ d ihd=>
   intro i hi hmi;have hil:i<l.length:=by omega
   refine qgH _ _ _ ?_;unfold rs4;have hx:l[i]? =some l[i]:=qFE hil;have hd:l.drop i=l[i]::l.drop (i+1):=qFS hil;rw[qb,qb,qGo (show(i:Int)<(l.length:Int) by omega),qv,qD,qD,qGo hil,qY hx,wr1 (by omega)];simp only[cond_true,qF7,qf,qF3,qi,qh,show qFR 4 4=true from rfl]
   by_cases him:i<m.length
   ·have hy:m[i]? =some m[i]:=qFE him;have hd':m.drop i=m[i]::m.drop (i+1):=qFS him;have h1:=vS (x8 _ (hw _ (qFK hx))) (x8 _ (hm _ (qFK hy)));have h2:=ihd (i+1) (by omega) (by omega);rw[qGo him,qGp (show ¬(i:Int)≥(m.length:Int) by omega),qY hy];simp only[cond_true,cond_false,qF7,qf,qF3,qi,qh,show qFR 4 4=true from rfl,qB,h1,qd,qe,bneD]
    rw[hd,hd',qaP]
    by_cases he:cmpT l[i] m[i]=0
    ·rw[qGo he,qGr (by omega)];exact h2
    ·rw[qGp he,qGq he];exact⟨_,rfl,rfl⟩
   ·rw[qGo (show(i:Int)≥(m.length:Int) by omega),hd,qFV (show m.length<=i by omega)];exact⟨_,rfl,rfl⟩
 apply Gets.get;refine qw5 _ _ ?_
 simpa using loop l.length 0 (by omega) (by omega)
theorem qcp{r s:Rg}(hr:RgW r)(hs:RgW s):EVs (EV cfg) 57 [.agg [.int .i64 r.ar,.sl (qa r.fst)],.agg [.int .i64 s.ar,.sl (qa s.fst)]]=some (.int .i64 (qx r s)):=by
 apply Gets.get;refine qvp _ _ _ _ ?_;rw[qh0,qb,qb,qh0,qw6 hr.len hr.ws hs.ws];simp only[qd,qe,qwl];exact⟨_,rfl,rfl⟩
theorem qr1{p q:Tm}{f:Bool}:∀(n:Nat) (R:List Tm) (h4:List (List AV)),wL R<=n->n<1099511627776->R.length<=h4.length->h4.take R.length=qa R ->
  Gets (qal R.length p.kind p.num p.str (qa p.subs) f q.kind q.num q.str (qa q.subs) h4) (·= .bool (gndL R)):=by
 intro n
 induction n with
 |zero=>
  intro R h4 hw hn hl ht;have hR:R=[]:=by
   cases R with
   |nil=>rfl
   |cons x l=>rw[vC]at hw;have:=xW x;omega
  subst hR;refine qc8 _ _ _ _ _ _ _ _ _ _ _ ?_;unfold rd4;have:decide (((([]:List Tm).length:Nat):Int)>0)=false:=rfl;rw[this,cond_false];exact⟨_,rfl,rfl⟩
 |succ n ih=>
  intro R h4 hw hn hl ht;rcases List.eq_nil_or_concat R with rfl|⟨R',x,hR⟩
  ·refine qc8 _ _ _ _ _ _ _ _ _ _ _ ?_;unfold rd4;have:decide (((([]:List Tm).length:Nat):Int)>0)=false:=rfl;rw[this,cond_false];exact⟨_,rfl,rfl⟩
  ·obtain rfl:R=R'++[x]:=by rw[hR];simp
   clear hR;rw[ya,vC,xO]at hw;have hx:=xW x;have hwe:=x.w_eq;have hRl:=xK R';rw[qFU,List.length_singleton]at hl ht⊢;refine qc8 _ _ _ _ _ _ _ _ _ _ _ ?_;unfold rd4;have g0:decide (((R'.length+1:Nat):Int)>0)=true:=qGo (by omega);have g1:qFD .i64 (((R'.length+1:Nat):Int) - 1)=(R'.length:Int):=by rw[qo (by omega) (by omega)];omega
   have g2:qA (R'.length:Int) ((R'.length+1:Nat):Int)=true:=qGo (by omega);have g3:qj (R'.length:Int) ((R'.length+1:Nat):Int)=true:=qGo (by omega);have g4:h4[R'.length]? =some x.cells:=by
    have:(h4.take (R'.length+1))[R'.length]? =some x.cells:=by
     rw[ht,xy];simp
    rwa [List.getElem?_take,qGq (by omega)]at this
   have g5:h4.take R'.length=qa R':=by
    have:(h4.take (R'.length+1)).take R'.length=qa R':=by
     rw[ht,qW];exact List.take_left' (qb R')
    rwa [List.take_take,Nat.min_eq_left (by omega)]at this
   have g6:qFR (0+R'.length) h4.length=true:=by rw[qGj];omega
   have ga:gndL (R'++[x])=(gndL R'&&gndT x):=by rw[qaZ,qaZ,List.all_append,List.all_cons,List.all_nil,Bool.and_true]
   rw[ga,g0,g1,qv,g2,g3,qu,qFT,qGi,g4,Nat.sub_zero];simp only[cond_true,qF7,qd,qf,qi,qh,xE,qb,g5,qbf];have push:(x.kind=7∨x.kind=9)->Gets (qal (R'.length+x.subs.length) p.kind p.num p.str (qa p.subs) f q.kind q.num q.str (qa q.subs) (qF2 (qa R') (qa x.subs))) (·= .bool (gndL R'&&gndT x)):=by
    intro hk;have hl:=xK x.subs;have h:=ih (R'++x.subs) (qa (R'++x.subs)) (by rw[ya];omega) (by omega) (by rw[qb];exact qFH _) (qFP (by simp));rw[qFU]at h;rw[show qF2 (qa R') (qa x.subs)=qa (R'++x.subs)from(qW _ _).symm];refine Gets.mono h ?_;rintro _ rfl;rw[qi1 x,qGq hk,qaZ,qaZ,List.all_append]
   have drop:gndT x=true->Gets (qal R'.length p.kind p.num p.str (qa p.subs) f q.kind q.num q.str (qa q.subs) h4) (·= .bool (gndL R'&&gndT x)):=by
    intro hk;refine Gets.mono (ih R' h4 (by omega) (by omega) (by omega) g5) ?_;rintro _ rfl;rw[hk,Bool.and_true]
   rw[beqI,beqI,beqI,qbi,g6]
   by_cases h7:x.kind=7
   ·rw[qGo h7];simp only[cond_true,qGm,xg (show R'.length+x.subs.length<=1099511627776 by have:=xK x.subs;omega)];exact push (.inl h7)
   rw[qGp h7,cond_false]
   by_cases h9:x.kind=9
   ·rw[qGo h9];simp only[cond_true,qGm,xg (show R'.length+x.subs.length<=1099511627776 by have:=xK x.subs;omega)];exact push (.inr h9)
   rw[qGp h9,cond_false];have hk:¬(x.kind=7∨x.kind=9):=by omega
   have gx:=qi1 x;rw[qGr hk]at gx;unfold varR;simp only[qd,kTup,ql,qe,qp,kNil]
   by_cases h2:x.kind=2
   ·rw[qGo h2]at gx⊢;rw[cond_true];cases hv:(varG x.str).isSome with
    |true=>
     rw[hv]at gx;simp only[Bool.true_or,Bool.and_true,qFW]at gx;rw[gx,cond_true,Bool.and_false];exact⟨_,rfl,rfl⟩
    |false=>
     rw[hv]at gx;simp only[Bool.false_or,qGm]at gx;rw[cond_false]
     by_cases hs:x.str=[95]
     ·rw[qGo hs]at gx;rw[gx,hs,qFW,Bool.and_false];exact⟨_,rfl,rfl⟩
     ·rw[qGp hs]at gx;rw[show(x.str==[(95:UInt8)])=false from beq_false_of_ne hs,cond_false];exact drop gx
   ·rw[qGp h2]at gx⊢;rw[cond_false];exact drop gx
theorem qn4{t:Tm}(h:t.w<1099511627776):EVs (EV cfg) 18 [t.av]=some (.bool (bndG t)):=by
 have hm:=qdP h;apply Gets.get;rw[Tm.av,Tm.cells_eq]at hm⊢;refine quf _ _ _ _ ?_;rw[hm];simp only[qd,qp];unfold bndG
 by_cases hc:t.chk=0
 ·rw[qGo hc];have hl:=qr1 (p:=t) (q:=t) (f:=false) t.w [t] [t.cells] (by rw[vC,xO];exact qFH _) h (qFH _) rfl;rw[Tm.cells_eq,qaZ,List.all_cons,List.all_nil,Bool.and_true]at hl;rw[qGm];exact hl
 ·rw[qGp hc];exact⟨_,rfl,rfl⟩
theorem qys{t:Tm}(h:t.w<1099511627776):EVs (EV cfg) 20 [t.av]=some (.bool (!bndG t)):=by
 have hm:=qn4 h;apply Gets.get;rw[Tm.av,Tm.cells_eq]at hm⊢;refine qwp _ _ _ _ ?_;rw[hm];exact⟨_,rfl,rfl⟩
theorem qwQ{l:List Tm}(hl:l.length<1099511627776)(hw:∀x∈l,x.w<1099511627776)(hx:l.all bndG=false):
  EVs (EV cfg) 19 [.sl (qa l),.fn (.func 20) [] []]=some (.int .i64 ((l.takeWhile bndG).length:Int)):=by
 have loop:∀d i:Nat,i+d=l.length->(l.takeWhile bndG).length=i+((l.drop i).takeWhile bndG).length->(l.drop i).all bndG=false->Gets (qit (qa l) i) (·= .int .i64 ((l.takeWhile bndG).length:Int)):=by
  intro d
  induction d with
  |zero=>
   intro i hi _ ha;rw[qFV (by omega)]at ha;cases ha
  |succ d ihd=>
   intro i hi ht ha;have hil:i<l.length:=by omega
   have hx:l[i]? =some l[i]:=qFE hil;have hd:l.drop i=l[i]::l.drop (i+1):=qFS hil;have h1:=qys (hw _ (qFK hx));rw[hd,List.takeWhile_cons]at ht;rw[hd,List.all_cons]at ha;refine qpd _ _ ?_;unfold rs4;rw[qb,qGo (show(i:Int)<(l.length:Int) by omega),qv,qD,qGo hil,qY hx,qN hil hl]
   simp only[cond_true,qF7,qf,qF3,qi,qh,xE,qB,h1,qd,qp];cases hb:bndG l[i]with
   |false=>
    rw[hb]at ht;simp only[qF5,if_false,List.length_nil,Nat.add_zero]at ht;rw[ht];exact⟨_,rfl,rfl⟩
   |true=>
    rw[hb]at ht ha;simp only[if_true,qGf]at ht;exact ihd (i+1) (by omega) (by omega) (by simpa using ha)
 apply Gets.get;refine quU _ ?_;exact loop l.length 0 (by omega) (by simp) (by simpa using hx)
theorem qyu(r:Rg){k:Tm}(hk:k.w<1099511627776):EVs (EV cfg) 26 [r.av,.cptr [.int .i64 k.kind,.int .i64 k.num,.str k.str,.sl (qa k.subs)] 0]=some (.bool (vJ r k)):=by
 have h:=qvm r hk;rw[Tm.av,Tm.cells_eq]at h;apply Gets.get;refine qwq _ _ _ _ _ _ ?_;rw[show(AV.agg [.int .i64 r.ar,.sl (qa r.fst)])=r.av from rfl,h];exact⟨_,rfl,rfl⟩
theorem qsY{l:List Rg}(hl:l.length<1099511627776){k:Tm}(hk:k.w<1099511627776):
  EVs (EV cfg) 24 [k.av,.cptr [.sl (qn l)] 0]=some (.bool (l.any λr=>vJ r k)):=by
 have loop:∀d i:Nat,i+d=l.length->Gets (qis (qn l) k.kind k.num k.str (qa k.subs) i) (AtP i ((l.drop i).any λr=>vJ r k)):=by
  intro d
  induction d with
  |zero=>
   intro i hi;refine qgI _ _ _ _ _ _ ?_;unfold rs2;rw[qU,qGp (by omega)];refine⟨_,rfl,-1,rfl,?_⟩;rw[qFV (by omega)];simp
  |succ d ihd=>
   intro i hi;have hil:i<l.length:=by omega
   refine qgI _ _ _ _ _ _ ?_;unfold rs2;have hx:l[i]? =some l[i]:=qFE hil;have hd:l.drop i=l[i]::l.drop (i+1):=qFS hil;have h1:=qyu l[i] hk;have h2:=ihd (i+1) (by omega);have gx:qFG (qn l) (qFQ (i:Int))=some l[i].cells:=by
    rw[qu,qFT,qdL,hx];rfl
   rw[qU,qGo (show(i:Int)<(l.length:Int) by omega),qv,qD,qGo hil,gx,qN hil hl];generalize l[i]=r at *;have e:(AV.agg [.int .i64 r.ar,.sl (qa r.fst)])=r.av:=rfl;have c2:r.cells.length=2:=rfl;have t2:qFN 2 r.cells=r.cells:=rfl;have kc:∀{α:Type} (K:Int->List (List AV)->Option α),(ql r.cells λc cs=>kInt .i64 c λn=>ql cs λc cs=>kSl c λrows=>kNil cs (K n rows))=K r.ar (qa r.fst):=λK=>rfl
   simp only[cond_true,qF7,c2,t2,qF3,show qFR 2 2=true from rfl,qd];rw[kc,e,h1];simp only[qd,qp];rw[hd,List.any_cons];cases hb:vJ r k with
   |true=>exact⟨_,rfl,(i:Int),rfl,by simp⟩
   |false=>
    refine h2.mono ?_;rintro _ ⟨j,rfl,hj⟩;exact⟨j,rfl,by simpa using hj⟩
 obtain⟨_,b1,j',rfl,hj⟩:=loop l.length 0 (by omega);have b2:EVs (EV cfg) 59 [.sl (qn l),.fn (.func 26) [] [.cptr [.int .i64 k.kind,.int .i64 k.num,.str k.str,.sl (qa k.subs)] 0]]=some (.int .i64 j'):=Gets.get (quW _ _ _ _ _ ⟨_,b1,rfl⟩);have b3:EVs (EV cfg) 25 [.sl (qn l),.fn (.func 26) [] [.cptr [.int .i64 k.kind,.int .i64 k.num,.str k.str,.sl (qa k.subs)] 0]]=some (.bool (decide (j'≥0))):=by
  apply Gets.get;refine qu9 _ _ _ _ _ ?_;rw[b2];exact⟨_,rfl,rfl⟩
 apply Gets.get;rw[Tm.av,Tm.cells_eq];refine qyt _ _ _ _ _ ?_;rw[b3];refine⟨_,rfl,?_⟩;rw[List.drop_zero]at hj;cases ha:l.any λr=>vJ r k with
 |true=>rw[ha]at hj;rw[qGo (show j'≥0 from hj.2 rfl)]
 |false=>rw[ha]at hj;rw[qGp (λh=>by have:=hj.1 h;cases this)]
theorem qyQ{l:List Rg}(hl:l.length<1099511627776){ks:List Tm}(hk:ks.length<1099511627776)(hw:∀x∈ks,x.w<1099511627776):
  ∃j:Int,EVs (EV cfg) 19 [.sl (qa ks),.fn (.func 24) [] [.cptr [.sl (qn l)] 0]]=some (.int .i64 j) ∧
   ((j= -1∧∀k∈ks,(l.any λr=>vJ r k)=false)∨∃(i:Nat) (k:Tm),j=i∧ks[i]? =some k∧(l.any λr=>vJ r k)=true∧∀x∈ks.take i,(l.any λr=>vJ r x)=false):=by
 have loop:∀d i:Nat,i+d=ks.length->(∀x∈ks.take i,(l.any λr=>vJ r x)=false)->Gets (qfi (qa ks) (qn l) i) (λv=>∃j:Int,v= .int .i64 j ∧
   ((j= -1∧∀k∈ks,(l.any λr=>vJ r k)=false)∨∃(i:Nat) (k:Tm),j=i∧ks[i]? =some k∧(l.any λr=>vJ r k)=true∧∀x∈ks.take i,(l.any λr=>vJ r x)=false)):=by
  intro d
  induction d with
  |zero=>
   intro i hi ha;refine qf8 _ _ _ ?_;unfold rs4;rw[qb,qGp (by omega)];rw[qFP (by omega)]at ha;exact⟨_,rfl,-1,rfl,.inl ⟨rfl,ha⟩⟩
  |succ d ihd=>
   intro i hi ha;have hil:i<ks.length:=by omega
   have hx:ks[i]? =some ks[i]:=qFE hil;have h1:=qsY hl (hw _ (qFK hx));refine qf8 _ _ _ ?_;unfold rs4;rw[qb,qGo (show(i:Int)<(ks.length:Int) by omega),qv,qD,qGo hil,qY hx,qN hil hk];simp only[cond_true,qF7,qf,qF3,qi,qh,xE,qB,h1,qd,qp]
   cases hb:l.any λr=>vJ r ks[i]with
   |true=>exact⟨_,rfl,_,rfl,.inr ⟨i,_,rfl,hx,hb,ha⟩⟩
   |false=>
    refine ihd (i+1) (by omega) (λx hxm=>?_);rw[qGk,hx]at hxm;rcases qF8.1 hxm with h|h
    ·exact ha x h
    ·simp at h;subst h;exact hb
 obtain⟨v,h1,j,rfl,h2⟩:=loop ks.length 0 (by omega) (by simp);exact⟨j,Gets.get (qwR _ _ ⟨_,h1,rfl⟩),h2⟩
theorem qzb{r s:Rg}(hr:RgW r):EVs (EV cfg) 58 [.agg [.int .i64 r.ar,.sl (qa r.fst)],.agg [.int .i64 s.ar,.sl (qa s.fst)]]=some (.bool (vD r s)):=by
 have h:=qmG (m:=s.fst) hr.len hr.ws;apply Gets.get;refine qxg _ _ _ _ ?_;rw[h,beqI];unfold vD;cases decide (r.ar=s.ar)<;>exact⟨_,rfl,rfl⟩
theorem qxc{l:List Tm}(hl:l.length<1099511627775):EVf (EV cfg) 21 [.sl (qa l)]=some (.sl (qa l)):=by
 have hx:cfg.ext 21=some (qbs (EV K.cfg (.f 21))):=by rfl
 have he:∀args H r,qbs (EV K.cfg (.f 21)) args H=some r->EV cfg (.f 21) args H=some r:=λargs H r h=>qcS (by unfold vR;simp only[hx];exact h)
 cases l with
 |nil=>
  obtain⟨a,h1,ha⟩:=K.qvf (P:=(·=(.ms 0 0 0,[.rows true 4 []]))) ⟨_,rfl,rfl⟩;obtain⟨b,h2,hb⟩:=K.qvg (P:=(·=(.ms 1 0 0,[.dead,.rows true 4 []]))) ⟨_,rfl,rfl⟩;subst ha hb;have h3:qbs (EV K.cfg (.f 21)) [.sl []] []=some (.sl [],[]):=by
   unfold qbs;rw[h1,h2];rfl
  unfold EVf;show Option.map _ (EV cfg (.f 21) [.sl []] [])=_;rw[he _ _ _ h3];rfl
 |cons x l=>
  have hr:qa (x::l)=x.cells::qa l:=qF x l;have hl':l.length+1<1099511627775:=by simpa using hl
  have h:=K.qvh x.cells (qa l) (P:=(·= .sl (x.cells::qa l))) (by
   rw[←hr,yV,qb,qGf,qGi,xg (by omega),qGi,nble,qGo (qFH _),qFP (by rw[qb,Nat.add_eq,qGi];exact qFH _)];exact⟨_,rfl,by rw[hr]⟩)
  obtain⟨_,h,rfl⟩:=h;unfold EVf at h⊢;obtain⟨q,h1,h2⟩:=qFM.1 h;rw[hr,he [.sl (x.cells::qa l)] [] q (by unfold qbs;exact h1)];exact congrArg some h2
def qtk:Den:=evC cfg (EV cfg) 30 none 1 (sub (qc Tryz.f30) [1,1,0,1,0,0])
def qto:Ex×List AV×AH->Option (MV×List (List AV)):=kAft (Cfg.keepOut cfg 30 (qm (sub (qc Tryz.f30) [1,1,0,1,0,0]))) (vm 0 (kSeq (fun(fr:List AV) (H:AH)=>ve (Cfg.cut cfg 30 (qm (sub (qc Tryz.f30) [1,1,1]))) fr H fun(fr:List AV) (H:AH)=>qR cfg (EV cfg) (kfN cfg 6) 30 none 1 (sub (qc Tryz.f30) [1,1,1]) fr H (xp cfg 4 (Cfg.lift cfg 30 0) (qGg (Func.results Tryz.f30)))) (xp cfg 4 (Cfg.lift cfg 30 0) (qGg (Func.results Tryz.f30)))))
def qBB:List AV×AH->Option (MV×List (List AV)):=fun(p:List AV×AH)=>kOpt (LOOP 1 (some [0,1,5]) [] qtk p) qto
def qCn:Den:=evC cfg (EV cfg) 30 none 1 (sub (qc Tryz.f30) [1,1,0,1,0,0,1,0,0,1,0,1,0,1,0,0])
def qC6:Ex×List AV×AH->Option (MV×List (List AV)):=kAft (Cfg.keepOut cfg 30 9) (kRun cfg (EV cfg) (kfN cfg 6) 30 none 1 (kLp 1 (some [0,1,5]) ([]) qtk qto) ([.block 2,.seq (sub (qc Tryz.f30) [1,1,0,1,0,0,1,0,0,1,0,1,1]),.block 1,.seq (sub (qc Tryz.f30) [1,1,0,1,0,0,1,1])]))
def qBA:List AV×AH->Option (MV×List (List AV)):=λp=>kOpt (LOOP 1 (some [0,1,5,6,7]) ([]) qCn p) qC6
abbrev qeI(nn:Nat)(v5:Int)(h0:Rz):Option (MV×List (List AV)):=qBB (((fx 66 [(0,.ms 0 0 nn),(1,.fn (Fn.func 31) [] []),(5,.int .i64 v5)]):List AV),([.rows true 4 h0]:AH))
abbrev qcU(nn:Nat)(v5 v5' v7:Int)(h0:Rz):Option (MV×List (List AV)):=qBA (((fx 66 [(0,.ms 0 0 nn),(1,.fn (Fn.func 31) [] []),(5,.int .i64 v5'),(6,.ms 0 (0+qFQ v5) (nn - qFQ v5)),(7,.int .i64 v7)]):List AV),([.rows true 4 h0]:AH))
theorem qvN(rows:Rz)(nn:Nat){P:MV×List (List AV)->Prop}(h:Gets (kOpt (EVs (EV cfg) 62 [AV.int .u64 (qFD .u64 (↑ nn:Int))]) λv=>kInt .i64 v λn=>kOpt (EVm (EV cfg) 61 [.ms 0 0 nn,.int .i64 0,.int .i64 (↑ nn:Int),.int .i64 n,AV.fn (Fn.func 29) [] []] 4 rows) λq=>q6 q.1 (some (MV.unit,q.2))) P):Gets (EVm (EV cfg) 28 [.ms 0 0 nn,.fn (Fn.func 29) [] []] 4 rows) P:=
  gE (λ_=>funM rfl rfl Tryz.func28 rfl) (by kernel_rfl) h
theorem qqV(rows:Rz)(nn:Nat){P:MV×List (List AV)->Prop}(h:Gets (bif decide ((↑ nn:Int)<2)then some (MV.sl 0 nn,rows)else qeI nn 1 rows) P):Gets (EVm (EV cfg) 30 [.ms 0 0 nn,.fn (Fn.func 31) [] []] 4 rows) P:=
  gE (λ_=>funM rfl rfl Tryz.func30 rfl) (by kernel_rfl) h
theorem qgQ(nn:Nat)(v5:Int)(h0:Rz){P:MV×List (List AV)->Prop}(h:Gets (bif decide (v5<(↑ nn:Int))then rd4 nn h0 v5 λn n_1 s rows=>(rd4 nn h0 (qFD .i64 (v5 - 1)) λn_2 n_3 s_1 rows_1=>(kOpt (EVs (EV cfg) 31 [.agg [.int .i64 n,.int .i64 n_1,.str s,.sl rows],.agg [.int .i64 n_2,.int .i64 n_3,.str s_1,.sl rows_1]]) λv=>qt v λb=>bif b then bif qj 0 v5&&qj v5 (↑ nn:Int)then qcU nn v5 v5 1 h0 else none else qeI nn (qFD .i64 (v5+1)) h0))else some (MV.sl 0 nn,h0)) P):Gets (qeI nn v5 h0) P:=
  gE (λ_=>qg (cfg:=cfg) (f:=30) (rd:=none) (bs:=1)) (by kernel_rfl) h
theorem qgP(nn:Nat)(v5 v5' v7:Int)(h0:Rz){P:MV×List (List AV)->Prop}(h:Gets (bif decide (v7<(↑ (nn - v5.toNat):Int))then bif qj 0 v7&&qA v7 (↑ (nn - v5.toNat):Int)then kOpt (qFG h0 (0+qFQ v5+v7.toNat)) λrow=>bif qFR 4 (qFI row)then kTmC (qFN 4 row) λn n_1 s rows=>(bif qj 0 (qFD .i64 (v7 - 1))&&qA (qFD .i64 (v7 - 1)) (↑ (nn - v5.toNat):Int)then kOpt (qFG h0 (0+qFQ v5+qFQ (qFD .i64 (v7 - 1)))) λrow=>bif qFR 4 (qFI row)then kTmC (qFN 4 row) λn_2 n_3 s_1 rows_1=>(kOpt (EVs (EV cfg) 31 [.agg [.int .i64 n,.int .i64 n_1,.str s,.sl rows],.agg [.int .i64 n_2,.int .i64 n_3,.str s_1,.sl rows_1]]) λv=>qt v λb=>bif ! b then bif qj 0 v7&&qA v7 (↑ (nn - v5.toNat):Int)then kOpt (qFG h0 (0+qFQ v5+v7.toNat)) λrow=>bif qFR 4 (qFI row)then kTmC (qFN 4 row) λn n_4 s rows=>(ck4 4 nn h0 v5' λrow=>qcU nn v5 (qFD .i64 (v5'+1)) (qFD .i64 (v7+1)) (st4 h0 v5' n n_4 s rows row))else none else none else qcU nn v5 v5' (qFD .i64 (v7+1)) h0)else none else none)else none else none else bif qj 0 v5'&&qj v5' (↑ nn:Int)then bif qFR (0+qFQ v5'+(nn - v5'.toNat)) (qFI h0)then bif qj 0 v5'&&qj v5' (↑ nn:Int)then some (MV.sl 0 (qFQ v5' - 0),qF2 (qF2 (qFN (0+v5'.toNat) h0) (qGd (nn - v5'.toNat) [AV.int .i64 0,.int .i64 0,.str [],.nilS])) (qGb (0+qFQ v5'+(nn - v5'.toNat)) h0))else none else none else none) P):Gets (qcU nn v5 v5' v7 h0) P:=
  gE (λ_=>qg (cfg:=cfg) (f:=30) (rd:=none) (bs:=1)) (by kernel_rfl) h
def qp1(nn:Nat)(v1 v2 v3:Int)(h0:List (List AV))(n:Int):Option (MV×List (List AV)):=
 kOpt (EVd (EV cfg) 95 [.ms 0 0 nn,.int .i64 v1,.int .i64 v2,.int .i64 n,AV.fn (Fn.func 29) [] []] 4 h0) fun(q:AV×List (List AV))=>kTup q.1 fun(cs:List AV)=>ql cs fun(c:AV) (cs:List AV)=>kInt .i64 c fun(n:Int)=>ql cs fun(c:AV) (cs:List AV)=>qt c fun(b:Bool)=>kNil cs (kOpt (qJ (Op.intDiv BinOp.quo .i64 (qFD .i64 (v2 - v1)) (8:Int))) fun(v:AV)=>kInt .i64 v fun(n_2:Int)=>bif decide (qFD .i64 (n - v1)<qFD .i64 (v2 - n))then kOpt (EVm (EV cfg) 61 [.ms 0 0 nn,.int .i64 v1,.int .i64 n,.int .i64 v3,AV.fn (Fn.func 29) [] []] 4 q.2) fun(q:MV×List (List AV))=>q6 q.1 (qa3 nn (qFD .i64 (n+(1:Int))) v2 v3 (decide (qFD .i64 (n - v1)≥n_2)) b q.2)else kOpt (EVm (EV cfg) 61 [.ms 0 0 nn,.int .i64 (qFD .i64 (n+(1:Int))),.int .i64 v2,.int .i64 v3,AV.fn (Fn.func 29) [] []] 4 q.2) fun(q:MV×List (List AV))=>q6 q.1 (qa3 nn v1 n v3 (decide (qFD .i64 (v2 - n)≥n_2)) b q.2))
def qaD(nn:Nat)(v1 v2 v3:Int)(v10 v11:Bool)(h0:List (List AV))(n:Int):Option (MV×List (List AV)):=bif decide (v1>(0:Int))then bif qj (0:Int) (qFD .i64 (v1 - (1:Int)))&&qA (qFD .i64 (v1 - (1:Int))) (↑nn:Int)then kOpt (qFG h0 (0+qFQ (qFD .i64 (v1 - (1:Int))))) fun(row:List AV)=>bif qFR 4 (qFI row)then kTmC (qFN 4 row) fun(n_2 n_3:Int) (s:List UInt8) (rows:List (List AV))=>(bif qj (0:Int) n&&qA n (↑nn:Int)then kOpt (qFG h0 (0+qFQ n)) fun(row:List AV)=>bif qFR 4 (qFI row)then kTmC (qFN 4 row) fun(n_4 n_5:Int) (s_1:List UInt8) (rows_1:List (List AV))=>(kOpt (EVs (EV cfg) 29 [.agg [AV.int .i64 n_2,.int .i64 n_3,.str s,.sl rows],.agg [AV.int .i64 n_4,.int .i64 n_5,.str s_1,.sl rows_1]]) fun(v:AV)=>kInt .i64 v fun(n_6:Int)=>bif !decide (n_6<(0:Int))then kOpt (EVd (EV cfg) 94 [.ms 0 0 nn,.int .i64 v1,.int .i64 v2,.int .i64 n,AV.fn (Fn.func 29) [] []] 4 h0) fun(q:AV×List (List AV))=>kInt .i64 q.1 fun(n:Int)=>qa3 nn n v2 v3 v10 v11 q.2 else qp1 nn v1 v2 v3 h0 n)else none else none)else none else none else qp1 nn v1 v2 v3 h0 n
def qt7(nn:Nat)(v1 v2 v3:Int)(v10 v11:Bool)(h0:List (List AV))(n:Int):Option (MV×List (List AV)):=
 kOpt (EVd (EV cfg) 93 [.ms 0 0 nn,.int .i64 v1,.int .i64 v2,AV.fn (Fn.func 29) [] []] 4 h0) fun(q:AV×List (List AV))=>qt q.1 fun(c:Bool)=>bif c then some (MV.unit,q.2)else qaD nn v1 v2 v3 v10 v11 q.2 n
def qiS(nn:Nat)(v1 v2 v3:Int)(v10 v11:Bool)(h0:List (List AV)):Option (MV×List (List AV)):=
 bif qFR (0+nn) (qFI h0)&&true then kOpt (EVs (EV cfg) 91 [.sl (qFN nn h0),.int .i64 v1,.int .i64 v2,AV.fn (Fn.func 29) [] []]) fun(v:AV)=>kTup v fun(cs:List AV)=>ql cs fun(c:AV) (cs:List AV)=>kInt .i64 c fun(n:Int)=>ql cs fun(c:AV) (cs:List AV)=>kInt .i64 c fun(n_1:Int)=>kNil cs (bif n_1==(2:Int)then kOpt (EVm (EV cfg) 92 [.ms 0 0 nn,.int .i64 v1,.int .i64 v2,AV.fn (Fn.func 29) [] []] 4 h0) fun(q:MV×List (List AV))=>q6 q.1 (bif v10 then bif v11 then qt7 nn v1 v2 v3 v10 v11 q.2 (qFD .i64 (qFD .i64 (v2 - (1:Int)) - qFD .i64 (n - v1)))else qaD nn v1 v2 v3 v10 v11 q.2 (qFD .i64 (qFD .i64 (v2 - (1:Int)) - qFD .i64 (n - v1)))else qaD nn v1 v2 v3 v10 v11 q.2 (qFD .i64 (qFD .i64 (v2 - (1:Int)) - qFD .i64 (n - v1))))else bif v10 then bif v11 then bif n_1==(1:Int)then qt7 nn v1 v2 v3 v10 v11 h0 n else qaD nn v1 v2 v3 v10 v11 h0 n else qaD nn v1 v2 v3 v10 v11 h0 n else qaD nn v1 v2 v3 v10 v11 h0 n)else none
theorem qgR(nn:Nat)(v1:Int)(v2:Int)(v3:Int)(v10:Bool)(v11:Bool)(h0:List (List AV)){P:MV×List (List AV)->Prop}(h:Gets (bif decide (qFD .i64 (v2 - v1)<=(12:Int))then kOpt (EVm (EV cfg) 88 [.ms 0 0 nn,.int .i64 v1,.int .i64 v2,AV.fn (Fn.func 29) [] []] 4 h0) fun(q:MV×List (List AV))=>q6 q.1 (some (MV.unit,q.2))else bif v3==(0:Int)then kOpt (EVm (EV cfg) 89 [.ms 0 0 nn,.int .i64 v1,.int .i64 v2,AV.fn (Fn.func 29) [] []] 4 h0) fun(q:MV×List (List AV))=>q6 q.1 (some (MV.unit,q.2))else bif !v10 then kOpt (EVm (EV cfg) 90 [.ms 0 0 nn,.int .i64 v1,.int .i64 v2,AV.fn (Fn.func 29) [] []] 4 h0) fun(q:MV×List (List AV))=>q6 q.1 (qiS nn v1 v2 (qFD .i64 (v3 - (1:Int))) v10 v11 q.2)else qiS nn v1 v2 v3 v10 v11 h0) P):Gets (qa3 nn v1 v2 v3 v10 v11 h0) P:=
 Gets.ev (λ_ h=>qg (cfg:=cfg) (f:=61) (rd:=none) (bs:=1) h) (Gets.eq (by kernel_rfl) h)
variable {X : List (List AV)}
theorem qtb{n:Nat}(hn:n<16777216):Gets (EVs (EV cfg) 62 [.int .u64 (n:Int)]) (LenP n):=by
 refine qzg _ ?_;refine Gets.bind (qxj hn) ?_;rintro _ ⟨L,h1,h2,rfl⟩;simp only[qe];exact⟨_,rfl,L,h1,h2,rfl⟩
theorem qyv{n:Nat}(hn:n<16777216)(h1:1<=n):Gets (EVs (EV cfg) 123 [.int .i64 (n:Int)]) λv=>∃M:Nat,1<=M∧M<=2*n∧v= .int .u64 (M:Int):=by
 refine qws _ ?_;rw[qbW (show n<18446744073709551616 by omega)];refine Gets.bind (qtb hn) ?_;rintro _ ⟨L,h2,h3,rfl⟩;obtain⟨h4,h5⟩:=h3 h1;simp only[qe];rw[qm8 (by omega)];refine⟨_,rfl,2 ^ L,Nat.pow_pos (by decide),?_,rfl⟩;have:2 ^ L=2*2 ^ (L - 1):=by rw[←Nat.pow_succ'];congr 1;omega
 omega
end Go.Proofs.YtgleolmhpmljhaaGreat
end
noncomputable section
namespace Go.Av
def ddT:Tm->List Tm->List Tm
 |_,[]=>[]
 |p,x::l=>if x=p then ddT x l else x::ddT x l
def xh:List Tm->List Tm
 |[]=>[]
 |x::l=>x::ddT x l
theorem qs7{x:Tm}:∀{l:List Tm} {p:Tm},x∈l->x=p∨x∈ddT p l
 |[],_,h=>by cases h
 |y::l,p,h=>by
  rw[ddT];rcases qF6.1 h with rfl|h
  ·by_cases e:x=p
   ·exact .inl e
   ·rw[qGr e];exact .inr (by simp)
  ·rcases qs7 (p:=y) h with rfl|h
   ·by_cases e:x=p
    ·exact .inl e
    ·rw[qGr e];exact .inr (by simp)
   ·split
    ·exact .inr h
    ·exact .inr (by simp[h])
theorem qi5{x:Tm}:∀{l:List Tm} {p:Tm},x∈ddT p l->x∈l
 |[],_,h=>by simp[ddT]at h
 |y::l,p,h=>by
  rw[ddT]at h;split at h
  ·exact List.mem_cons_of_mem _ (qi5 h)
  ·rcases qF6.1 h with rfl|h
   ·simp
   ·exact List.mem_cons_of_mem _ (qi5 h)
theorem qqW{x:Tm}{l:List Tm}:x∈xh l↔x∈l:=by
 cases l with
 |nil=>exact Iff.rfl
 |cons y l=>
  rw[xh,qF6,qF6];constructor
  ·exact λh=>h.imp id qi5
  ·rintro(h|h)
   ·exact .inl h
   ·exact qs7 h
theorem rd1{n j:Nat}(h:j<=n):(qj 0 (j:Int)&&qj (j:Int) (n:Int))=true:=by
 simp only[qj,qFJ,decide_eq_true_eq];omega
def qmS(l:List Tm)(r:MV×List (List AV)):Prop:=∃X,r=(.sl 0 (xh l).length,qE X (xh l))
theorem sw6{X:List (List AV)}{l:List Tm}{i:Nat}(hi:i<l.length)(y:Tm):List.set (qE X l) (0+qFQ (i:Int)) [.int .i64 y.kind,.int .i64 y.num,.str y.str,.sl (qa y.subs)]=qE X (l.set i y):=by
 rw[qGi,qFT,←Tm.cells_eq,qhj hi]
theorem rdG2{X:List (List AV)}{l:List Tm}{k i:Nat}{x:Tm}(hx:l[k+i]? =some x):qFG (qE X l) (0+qFQ (k:Int)+qFQ (i:Int))=some x.cells:=by
 rw[qGi,qu,qFT,qFT,qnX hx]
theorem qs6{l:List Tm}{i:Nat}{x:Tm}(hx:l[i]? =some x):l.drop i=x::l.drop (i+1):=by
 obtain⟨h,rfl⟩:=qFF.1 hx;exact qFS h
theorem qm3{l:List Tm}{i:Nat}{x:Tm}(hx:l[i]? =some x):l.take (i+1)=l.take i++[x]:=by
 rw[qGk,hx];rfl
theorem qnJ{l:List Tm}{i:Nat}(hi:i<l.length)(x:Tm):(l.set i x).take (i+1)=l.take i++[x]:=by
 rw[qm3 (x:=x) (by rw[List.getElem?_set_self hi]),List.take_set_of_le (qFH _)]
end Go.Av
namespace Go.Proofs.YtgleolmhpmljhaaGreat
open Go.Av
variable {X : List (List AV)}
theorem qA0{n k:Nat}(hn:n<1099511627776){l:List Tm}(hl:l.length=n)(hw:∀x∈l,x.w<1099511627776)(hkn:k<=n):
  ∀(d i j:Nat) (m:List Tm) (p:Tm),m.length=n->1<=i->j<=k+i - 1->l[k+i - 1]? =some p->(∀q,k+i - 1<=q->m[q]? =l[q]?)->xh l=m.take j++ddT p (l.drop (k+i))->n<=k+i+d ->
  Gets (qcU n (k:Int) (j:Int) (i:Int) (qE X m)) (qmS l):=by
 have fin:∀(i j:Nat) (m:List Tm) (p:Tm),m.length=n->1<=i->j<=k+i - 1->l[k+i - 1]? =some p->xh l=m.take j++ddT p (l.drop (k+i))->n<=k+i->Gets (qcU n (k:Int) (j:Int) (i:Int) (qE X m)) (qmS l):=by
  intro i j m p hm hi hj hp hc hd;have hlt:=(qFF.1 hp).1;refine qgP _ _ _ _ _ ?_;unfold ck4 st4;have hxl:(qE X m).length=n+X.length:=by unfold qE;rw[qFU,qb,hm]
  rw[qFV (by omega),ddT,qGh]at hc;have hcl:(xh l).length=j:=by rw[hc,qF9];omega
  rw[qFT,qGp (show ¬(i:Int)<((n - k:Nat):Int) by omega),cond_false,rd1 (show j<=n by omega),qFT,hxl,nble,qGo (show 0+j+(n - j)<=n+X.length by omega)];refine⟨_,rfl,qGd (n - j) [AV.int .i64 (0:Int),.int .i64 (0:Int),.str [],.nilS]++qGb (0+j+(n - j)) (qE X m),?_⟩;have ht:qFN (0+j) (qE X m)=qa (xh l):=by
   unfold qE;rw[qGi,List.take_append_of_le_length (by rw[qb];omega),zC,hc]
  rw[hcl];show(MV.sl 0 (j - 0),(qFN (0+j) (qE X m)++qGd (n - j) [AV.int .i64 (0:Int),.int .i64 (0:Int),.str [],.nilS])++qGb (0+j+(n - j)) (qE X m))=_;rw[ht,qGl,Nat.sub_zero];rfl
 intro d
 induction d with
 |zero=>intro i j m p hm hi hj hp hq hc hd;exact fin i j m p hm hi hj hp hc (by omega)
 |succ d ih=>
  intro i j m p hm hi hj hp hq hc hd
  by_cases hlt:k+i<n
  case neg=>exact fin i j m p hm hi hj hp hc (by omega)
  obtain⟨x,hx⟩:=qM (l:=l) (i:=k+i) (by omega);obtain⟨i,rfl⟩:∃q,i=q+1:=⟨i - 1,by omega⟩;have hmx:m[k+(i+1)]? =some x:=by rw[hq _ (by omega),hx]
  have hmp:m[k+i]? =some p:=by rw[hq _ (by omega),←hp];congr 1
  have hs:=qkq (b:=p) (hw x (qFK hx));refine qgP _ _ _ _ _ ?_;unfold ck4 st4;rw[show((n - qFQ (k:Int):Nat))=n - k from by rw[qFT],qGo (show((i+1:Nat):Int)<((n - k:Nat):Int) by omega),wr0 (by omega),wr1 (show i+1<4398046511104 by omega),wr1 (show j<4398046511104 by omega)];simp -implicitDefEqProofs only[cond_true,qd,qf,show qFR 4 4=true from rfl,qi,qh,qB,qp,rdB (show i+1<n - k by omega),rdB (show i<n - k by omega),rdG2 hmx,rdG2 hmp,hs]
  rw[qs6 hx,ddT]at hc;have hp':l[k+(i+1+1) - 1]? =some x:=hx;have hq':∀q,k+(i+1+1) - 1<=q->m[q]? =l[q]? :=λq h=>hq q (by omega)
  by_cases he:x=p
  ·rw[qGo he];rw[qGq he]at hc;simp only[qFW,cond_false];exact ih (i+1+1) j m x hm (by omega) (by omega) hp' hq' hc (by omega)
  ·rw[qGp he];rw[qGr he]at hc;obtain⟨y,hy⟩:=qM (l:=m) (i:=j) (by omega);simp -implicitDefEqProofs only[cond_true,qF4,qd,qf,show qFR 4 4=true from rfl,qL,rdB (show i+1<n - k by omega),rdG2 hmx,rdB (show j<n by omega),rdG hy,sw6 (show j<m.length by omega)];refine ih (i+1+1) (j+1) _ x (by rw[List.length_set];exact hm) (by omega) (by omega) hp' (λq h=>?_) ?_ (by omega)
   ·rw[List.getElem?_set_ne (by omega)];exact hq' q h
   ·rw[qnJ (by omega),qGl];exact hc
theorem qy1{n:Nat}(hn:n<1099511627776){l:List Tm}(hl:l.length=n)(hw:∀x∈l,x.w<1099511627776):
  ∀(d k:Nat) (p:Tm),1<=k->k<=n->l[k - 1]? =some p->xh l=l.take k++ddT p (l.drop k)->n<=k+d->Gets (qeI n (k:Int) (qE X l)) (qmS l):=by
 have fin:∀(k:Nat) (p:Tm),k<=n->xh l=l.take k++ddT p (l.drop k)->n<=k->Gets (qeI n (k:Int) (qE X l)) (qmS l):=by
  intro k p hk hc hd;refine qgQ _ _ _ ?_;unfold rd4;rw[qFV (by omega),ddT,qGh,qFP (by omega)]at hc;rw[qGp (by omega)];exact⟨_,rfl,X,by rw[hc,hl]⟩
 intro d
 induction d with
 |zero=>intro k p h1 hk hp hc hd;exact fin k p hk hc (by omega)
 |succ d ih=>
  intro k p h1 hk hp hc hd
  by_cases hlt:k<n
  case neg=>exact fin k p hk hc (by omega)
  obtain⟨x,hx⟩:=qM (l:=l) (i:=k) (by omega);obtain⟨k,rfl⟩:∃q,k=q+1:=⟨k - 1,by omega⟩;have hp0:l[k]? =some p:=hp;have hs:=qkq (b:=p) (hw x (qFK hx));refine qgQ _ _ _ ?_;unfold rd4;rw[qGo (show((k+1:Nat):Int)<(n:Int) by omega),wr0 (by omega),wr1 (show k+1<4398046511104 by omega)];simp -implicitDefEqProofs only[cond_true,qd,qf,show qFR 4 4=true from rfl,qi,qh,qB,qp,rdB (show k+1<n by omega),rdB (show k<n by omega),rdG hx,rdG hp0,hs,rd1 (show k+1<=n by omega)]
  have hc0:=hc;rw[qs6 hx,ddT]at hc
  by_cases he:x=p
  ·rw[qGo he];rw[qGq he]at hc;simp only[cond_true];exact qA0 hn hl hw hk (n - (k+1)) 1 (k+1) l x hl (qFH _) (by omega) hx (λq _=>rfl) hc (by omega)
  ·rw[qGp he];rw[qGr he]at hc;simp only[cond_false];exact ih (k+1+1) x (by omega) (by omega) hx (by rw[qm3 hx,qGl];exact hc) (by omega)
theorem qy2{n:Nat}(hn:n<1099511627776){l:List Tm}(hl:l.length=n)(hw:∀x∈l,x.w<1099511627776):
  Gets (EVm (EV cfg) 30 [.ms 0 0 n,.fn (Fn.func 31) [] []] 4 (qE X l)) (qmS l):=by
 refine qqV _ _ ?_
 by_cases h2:n<2
 ·rw[qGo (show(n:Int)<2 by omega)];have hc:xh l=l:=by
   cases l with
   |nil=>rfl
   |cons x l=>
    cases l with
    |nil=>rfl
    |cons y l=>simp at hl;omega
  exact⟨_,rfl,X,by rw[hc,hl]⟩
 ·rw[qGp (show ¬(n:Int)<2 by omega)];cases l with
  |nil=>simp at hl;omega
  |cons x l=>exact qy1 hn hl hw n 1 x (qFH _) (by omega) rfl rfl (by omega)
end Go.Proofs.YtgleolmhpmljhaaGreat
end
noncomputable section
namespace Go.Av
theorem qkY{x:Nat}(h:1<=x)(hx:x<4398046511104):qFD .i64 ((x:Int) - 1)=((x - 1:Nat):Int):=by rw[qo (by omega) (by omega)];omega
end Go.Av
namespace Go.Proofs.YtgleolmhpmljhaaGreat
open Go.Av
end Go.Proofs.YtgleolmhpmljhaaGreat
end
noncomputable section
namespace Go.Av
def vW(l:List Rg)(k:Tm):Bool:= !(l.any λr=>vJ r k)
structure InvO (cs:List Cl) (p:Nat) (ks:List Tm) (rs:List Rg):Prop where
 nall:∀c∈cs,vV c.head p≠.all
 key:∀c∈cs,∀k,vV c.head p= .key k->k∈ks
 rng:∀c∈cs,∀r,vV c.head p= .rng r->r∈rs
 kw:∀k∈ks,k.chk=0
 rw:AllW rs
 ra:∀s∈rs,allK s.fst=true
 kl:ks.length<=cs.length
 rl:rs.length<=cs.length
structure BndW (b:Bnd):Prop where
 kl:b.keys.length<1099511627776
 kw:∀x∈b.keys,x.w<1099511627776
 rl:b.rgs.length<1099511627776
 rw:∀r∈b.rgs,RgW r
theorem qaG{n:Nat}(h:n<=1099511627776):qI n 32=true:=by
 unfold qI;rw[qFJ,qGj,qGj];omega
theorem qfj:∀(l out:List Rg),(xc out l).length<=out.length+l.length
 |[],out=>qFH _
 |r::l,out=>by
  rw[xc];split
  ·have:=qfj l out;simp only[qGf];omega
  ·have:=qfj l (out++[r]);simp only[qFU,qGf,List.length_nil]at this⊢;omega
theorem qkc{f:Tm->Bool}{l:List Tm}{i:Nat}{x:Tm}(hx:l[i]? =some x):(l.take (i+1)).filter f=(l.take i).filter f++(if f x then[x]else[]):=by
 rw[qm3 hx,List.filter_append]
 congr 1
 cases h:f x<;>simp[h]
theorem qp6{h p:Tm}{pos:Nat}(h7:h.kind=7)(hp:h.subs[pos - 1]? =some p):vV h pos=if bndG p then .key p else if p.kind=7 then .rng ⟨p.subs.length,p.subs.takeWhile bndG⟩else .all:=by
 unfold vV;rw[qGr (by simp[h7]),hp]
theorem qn5{h:Tm}{pos:Nat}(h7:h.kind=7)(hp:h.subs[pos - 1]? =none):vV h pos= .none:=by
 unfold vV;rw[qGr (by simp[h7]),hp]
theorem qA9{p:Tm}(hc:p.chk=0)(h7:p.kind=7)(hb:bndG p=false):p.subs.all bndG=false:=by
 cases ha:p.subs.all bndG with
 |false=>rfl
 |true=>
  have:gndT p=true:=by
   rw[qi1,qGq (.inl h7)];refine List.all_eq_true.2 λx hx=>?_
   have:=List.all_eq_true.1 ha x hx;unfold bndG at this;rw[qFJ]at this;exact this.2
  unfold bndG at hb;rw[this,hc]at hb;cases hb
theorem Cl.kc{α:Type}(c:Cl)(K:Int->Int->List UInt8->List (List AV)->List (List AV)->List (List AV)->Option α):
  (ql (qFN 6 c.cells) fun(x:AV) (cs:List AV)=>kInt .i64 x λn=>ql cs fun(x:AV) (cs:List AV)=>kInt .i64 x λn_1=>ql cs fun(x:AV) (cs:List AV)=>kStr x λs=>ql cs fun(x:AV) (cs:List AV)=>kSl x λr1=>ql cs fun(x:AV) (cs:List AV)=>kSl x λr2=>ql cs fun(x:AV) (cs:List AV)=>kSl x λr3=>kNil cs (K n n_1 s r1 r2 r3))=K c.head.kind c.head.num c.head.str (qa c.head.subs) (qa c.gs) (qa c.bs):=rfl
end Go.Av
namespace Go.Proofs.YtgleolmhpmljhaaGreat
open Go.Av
end Go.Proofs.YtgleolmhpmljhaaGreat
end
noncomputable section
namespace Go.Av
theorem qa1:∀l m:List Tm,qaP l m=cmpE l m
 |[],[]=>by rw[qaP,zk]
 |[],_::_=>by rw[qaP,xC]
 |_::_,[]=>by rw[qaP,xD]
 |x::l,y::m=>by rw[qaP,zw,qa1 l m]
theorem xq(a b:Rg):qx b a= - qx a b:=by
 unfold qx;rw[qa1,qa1,qbJ a.ar b.ar,qbJ (a.fst.length:Int),qy4 a.fst b.fst,qbO,qbO]
theorem qh4(a b c:Rg):C3 (qx a b) (qx b c) (qx a c):=by
 unfold qx;rw[qa1,qa1,qa1];exact(qbK _ _ _).lex λ_ _=>(qbK _ _ _).lex λ_ _=>qA1 _ _ _
theorem qkh(a:Rg):qx a a=0:=by have:=xq a a;omega
theorem zt{a b c:Rg}(h1:qx a b<=0)(h2:qx b c<=0):qx a c<=0:=(qh4 a b c).1 h1 h2
theorem qbv{a b c:Rg}(h1:qx a b<0)(h2:qx b c<=0):qx a c<0:=(qh4 a b c).2.1 h1 h2
theorem qbw{a b c:Rg}(h1:qx a b<=0)(h2:qx b c<0):qx a c<0:=(qh4 a b c).2.2.1 h1 h2
def mrgG:List Rg->List Rg->List Rg
 |[],b=>b
 |x::a,[]=>x::a
 |x::a,y::b=>if qx x y<=0 then x::mrgG a (y::b)else y::mrgG (x::a) b
termination_by a b=>a.length+b.length
@[simp] theorem qfx(b:List Rg):mrgG [] b=b:=by rw[mrgG]
@[simp] theorem qdU(a:List Rg):mrgG a []=a:=by cases a<;>rw[mrgG]
theorem yi{x y:Rg}(h:qx x y<=0)(a b:List Rg):mrgG (x::a) (y::b)=x::mrgG a (y::b):=by rw[mrgG,qGq h]
theorem xR{x y:Rg}(h:¬qx x y<=0)(a b:List Rg):mrgG (x::a) (y::b)=y::mrgG (x::a) b:=by rw[mrgG,qGr h]
theorem qyz{t:Rg}:∀(n:Nat) (a b:List Rg),a.length+b.length=n->(t∈mrgG a b↔t∈a∨t∈b):=by
 intro n
 induction n with
 |zero=>
  intro a b h;have ha:a=[]:=qFZ (by omega);have hb:b=[]:=qFZ (by omega);subst ha hb;simp
 |succ n ih=>
  intro a b h
  match a,b with
  |[],b=>simp
  |x::a,[]=>simp
  |x::a,y::b=>
   simp only[qGf]at h
   by_cases hc:qx x y<=0
   ·rw[yi hc,qF6,ih a (y::b) (by simp;omega)];simp only[qF6];exact or_assoc.symm
   ·rw[xR hc,qF6,ih (x::a) b (by simp;omega)];simp only[qF6];exact or_left_comm
theorem qfy{t:Rg}{a b:List Rg}:t∈mrgG a b↔t∈a∨t∈b:=qyz _ a b rfl
theorem qj3:∀(n:Nat) (a b:List Rg),a.length+b.length=n->(mrgG a b).length=n:=by
 intro n
 induction n with
 |zero=>
  intro a b h;have ha:a=[]:=qFZ (by omega);have hb:b=[]:=qFZ (by omega);subst ha hb;simp
 |succ n ih=>
  intro a b h
  match a,b with
  |[],b=>simpa using h
  |x::a,[]=>simpa using h
  |x::a,y::b=>
   simp only[qGf]at h
   by_cases hc:qx x y<=0
   ·rw[yi hc,qGf,ih a (y::b) (by simp;omega)]
   ·rw[xR hc,qGf,ih (x::a) b (by simp;omega)]
theorem qar:∀(n:Nat) (X U V Y:List Rg),X.length+V.length=n->(∀u∈U,∀v∈V,0<qx u v)->(∀x∈X,∀y∈Y,qx x y<=0)->mrgG (X++U) (V++Y)=mrgG X V++mrgG U Y:=by
 intro n
 induction n with
 |zero=>
  intro X U V Y h _ _;have ha:X=[]:=qFZ (by omega);have hb:V=[]:=qFZ (by omega);subst ha hb;simp
 |succ n ih=>
  intro X U V Y h hU hX
  match X,V with
  |[],[]=>simp
  |[],v::V=>
   simp only[qGf,List.length_nil]at h;have:=ih [] U V Y (by simp;omega) (λu hu w hw=>hU u hu w (by simp[hw])) hX;simp only[List.nil_append,qfx]at this⊢;cases U with
   |nil=>simp
   |cons u U=>
    rw[List.cons_append,xR (by have:=hU u (by simp) v (by simp);omega),this];rfl
  |x::X,[]=>
   simp only[qGf,List.length_nil]at h;have:=ih X U [] Y (by simp;omega) hU (λz hz y hy=>hX z (by simp[hz]) y hy);simp only[List.nil_append,qdU]at this⊢;cases Y with
   |nil=>simp
   |cons y Y=>
    rw[List.cons_append,yi (hX x (by simp) y (by simp)),this];rfl
  |x::X,v::V=>
   simp only[qGf]at h
   by_cases hc:qx x v<=0
   ·have:=ih X U (v::V) Y (by simp;omega) hU (λz hz y hy=>hX z (by simp[hz]) y hy);rw[List.cons_append,List.cons_append,yi hc,yi hc,List.cons_append,←this];rfl
   ·have:=ih (x::X) U V Y (by simp;omega) (λu hu w hw=>hU u hu w (by simp[hw])) hX;rw[List.cons_append,List.cons_append,xR hc,xR hc,List.cons_append,←this];rfl
theorem quk:∀(n:Nat) (a b c:List Rg),a.length+b.length+c.length=n->mrgG (mrgG a b) c=mrgG a (mrgG b c):=by
 intro n
 induction n with
 |zero=>
  intro a b c h;have ha:a=[]:=qFZ (by omega);have hb:b=[]:=qFZ (by omega);subst ha hb;simp
 |succ n ih=>
  intro a b c h
  match a,b,c with
  |[],b,c=>simp
  |x::a,[],c=>simp
  |x::a,y::b,[]=>simp
  |x::a,y::b,z::c=>
   simp only[qGf]at h;have ngx:=xq x z;have ngy:=xq y z;have ngxy:=xq x y
   by_cases h1:qx x y<=0
   ·rw[yi h1]
    by_cases h2:qx x z<=0
    ·rw[yi h2]
     by_cases h3:qx y z<=0
     ·rw[yi h3,yi h1,ih a (y::b) (z::c) (by simp;omega),yi h3]
     ·rw[xR h3,yi h2,ih a (y::b) (z::c) (by simp;omega),xR h3]
    ·have h3:¬qx y z<=0:=by
      intro h3;exact h2 (zt h1 h3)
     rw[xR h2,xR h3,xR h2,←ih (x::a) (y::b) c (by simp;omega),yi h1]
   ·rw[xR h1]
    by_cases h3:qx y z<=0
    ·rw[yi h3,yi h3,xR h1,ih (x::a) b (z::c) (by simp;omega)]
    ·have h2:¬qx x z<=0:=by
      intro h2;have hzx:qx z y<=0:=by omega
      have hyx:qx y x<0:=by omega
      have:=qbw (a:=x) (b:=z) (c:=y) h2 (by omega);omega
     rw[xR h3,xR h3,xR h2,←ih (x::a) (y::b) c (by simp;omega),xR h1]
theorem qyA(a b c:List Rg):mrgG (mrgG a b) c=mrgG a (mrgG b c):=quk _ a b c rfl
def xj(l:List Rg):Prop:=l.Pairwise λa b=>qx a b<=0
theorem qr4:∀(n:Nat) (a b:List Rg),a.length+b.length=n->xj a->xj b->xj (mrgG a b):=by
 intro n
 induction n with
 |zero=>
  intro a b h _ _;have ha:a=[]:=qFZ (by omega);have hb:b=[]:=qFZ (by omega);subst ha hb;simp[xj]
 |succ n ih=>
  intro a b h ha hb
  match a,b with
  |[],b=>simpa using hb
  |x::a,[]=>simpa using ha
  |x::a,y::b=>
   simp only[qGf]at h;have ha':=List.pairwise_cons.1 ha;have hb':=List.pairwise_cons.1 hb;have ng:=xq x y
   by_cases hc:qx x y<=0
   ·rw[yi hc];refine List.pairwise_cons.2 ⟨λt ht=>?_,ih a (y::b) (by simp;omega) ha'.2 hb⟩;rcases qfy.1 ht with ht|ht
    ·exact ha'.1 t ht
    ·rcases qF6.1 ht with rfl|ht
     ·exact hc
     ·exact zt hc (hb'.1 t ht)
   ·rw[xR hc];have hyx:qx y x<=0:=by omega
    refine List.pairwise_cons.2 ⟨λt ht=>?_,ih (x::a) b (by simp;omega) ha hb'.2⟩;rcases qfy.1 ht with ht|ht
    ·rcases qF6.1 ht with rfl|ht
     ·exact hyx
     ·exact zt hyx (ha'.1 t ht)
    ·exact hb'.1 t ht
def qZ(l:List Rg):List Rg:=l.foldl (λacc x=>mrgG acc [x]) []
theorem qan(l:List Rg)(x:Rg):qZ (l++[x])=mrgG (qZ l) [x]:=by simp[qZ,List.foldl_append]
theorem qcg:qZ []=[]:=rfl
theorem qvP(x:Rg):qZ [x]=[x]:=by simp[qZ]
theorem yS{P:List Rg->Prop}(h0:P [])(h1:∀l x,P l->P (l++[x])):∀l,P l:=by
 intro l;have:∀r:List Rg,P r.reverse:=by
  intro r
  induction r with
  |nil=>exact h0
  |cons x r ih=>rw[List.reverse_cons];exact h1 _ _ ih
 have h:=this l.reverse
 rwa [List.reverse_reverse]at h
theorem qhe(a b:List Rg):qZ (a++b)=mrgG (qZ a) (qZ b):=by
 induction b using yS with
 |h0=>simp[qcg]
 |h1 b x ih=>rw[←qGl,qan,ih,qan,qyA]
theorem yU(l:List Rg):xj (qZ l):=by
 induction l using yS with
 |h0=>simp[qcg,xj]
 |h1 l x ih=>rw[qan];exact qr4 _ _ _ rfl ih (by simp[xj])
theorem vt(l:List Rg):(qZ l).length=l.length:=by
 induction l using yS with
 |h0=>rfl
 |h1 l x ih=>rw[qan,qj3 _ _ _ rfl,ih];simp
theorem yb{t:Rg}{l:List Rg}:t∈qZ l↔t∈l:=by
 induction l using yS with
 |h0=>simp[qcg]
 |h1 l x ih=>rw[qan,qfy,ih];simp
theorem qp5{X U:List Rg}{y:Rg}(hX:∀x∈X,qx x y<=0)(hU:∀u∈U,0<qx u y):mrgG (X++U) [y]=X++y::U:=by
 have h:=qar _ X U [y] [] rfl (λu hu v hv=>by simp at hv;subst hv;exact hU u hu) (λx _ y hy=>by cases hy);rw[qGh]at h;rw[h,qdU];have h2:=qar _ X [] [] [y] rfl (λu hu=>by cases hu) (λx hx z hz=>by simp at hz;subst hz;exact hX x hx);simp only[qGh,List.nil_append,qfx,qdU]at h2;rw[h2];simp
theorem qyr{V Y:List Rg}{x:Rg}(hV:∀v∈V,0<qx x v)(hY:∀y∈Y,qx x y<=0):mrgG [x] (V++Y)=V++x::Y:=by
 have h:=qar _ [] [x] V Y rfl (λu hu v hv=>by simp at hu;subst hu;exact hV v hv) (λx hx=>by cases hx);simp only[List.nil_append,qfx]at h;rw[h];have h2:=qar _ [x] [] [] Y rfl (λu hu=>by cases hu) (λz hz y hy=>by simp at hz;subst hz;exact hY y hy);simp only[qGh,List.nil_append,qfx,qdU]at h2;rw[h2];rfl
end Go.Av
end
noncomputable section
namespace Go.Proofs.YtgleolmhpmljhaaGreat
open Go.Av
theorem zj{β:Type}{A B:List β}{x:β}{i:Nat}(h:i=A.length):(A++x::B)[i]? =some x:=by subst h;simp
theorem z5{β:Type}{A B:List β}{x y:β}{i:Nat}(h:i=A.length):(A++x::B).set i y=A++y::B:=by subst h;simp
theorem qtA{l:List Rg}{x y:Rg}{p q a b m i:Nat}(hlen:l.length<1099511627776)(hx:l[p]? =some x)(hy:l[q]? =some y)(hp:a+i=p)(hq:b+i=q)(_hne:p≠q)(hi:i<m){P:MV×List (List AV)->Prop}(h:Gets (qbA l.length a b m ((i+1:Nat):Int) (qn ((l.set p y).set q x))) P):Gets (qbA l.length a b m i (qn l)) P:=by
 have hpl:p<l.length:=(qFF.1 hx).1;have hql:q<l.length:=(qFF.1 hy).1;subst hp hq;refine qf4 _ _ _ _ _ _ ?_;unfold rd2 ck4;rw[qGo (show(i:Int)<(m:Int) by omega),wadd (x:=b) (y:=i) (by omega),wadd (x:=a) (y:=i) (by omega),wr1 (show i<4398046511104 by omega)];simp -implicitDefEqProofs only[cond_true,qd,rgB2,rgT2,rgD2,qT,q5,q9,qe,rdB hpl,rdB hql,rgG hx,rgG hy,rg2 hx hy,rg4]
 exact h
theorem qcw{P X Y Z S:List Rg}(hxz:X.length=Z.length){n a b m:Nat}(hn:n=(P++(X++(Y++(Z++S)))).length)(hlen:n<1099511627776)(ha:a=P.length)(hb:b=P.length+X.length+Y.length)(hm:m=X.length):
  EVm (EV cfg) 165 [.ms 0 0 n,.int .i64 a,.int .i64 b,.int .i64 m,ahF] 2 (qn (P++(X++(Y++(Z++S)))))=some (.unit,qn (P++(Z++(Y++(X++S))))):=by
 have loop:∀(X2 Z2 X1 Z1:List Rg),X2.length=Z2.length->X1.length=Z1.length->X=X1++X2->Z=Z1++Z2 ->
   Gets (qbA n a b m X1.length (qn (P++(Z1++(X2++(Y++(X1++(Z2++S)))))))) (·=(.unit,qn (P++(Z++(Y++(X++S)))))):=by
  intro X2
  induction X2 with
  |nil=>
   intro Z2 X1 Z1 h2 h1 eX eZ;obtain rfl:Z2=[]:=qFZ (by simpa using h2.symm);refine qf4 _ _ _ _ _ _ ?_;unfold rd2 ck4;have:¬((X1.length:Int)<(m:Int)):=by rw[hm,eX];simp
   simp only[qGh]at eX eZ;subst eX eZ;simp[this]
  |cons x X2 ih=>
   intro Z2 X1 Z1 h2 h1 eX eZ
   match Z2,h2 with
   |z::Z2,h2=>
    have hlenX:X.length=X1.length+(X2.length+1):=by rw[eX];simp
    have e0:P++(Z1++(x::X2++(Y++(X1++(z::Z2++S)))))=(P++Z1)++x::(X2++(Y++(X1++(z::Z2++S)))):=by simp
    have e1:(P++Z1)++z::(X2++(Y++(X1++(z::Z2++S))))=(P++Z1++z::(X2++(Y++X1)))++z::(Z2++S):=by simp
    have e2:(P++Z1++z::(X2++(Y++X1)))++x::(Z2++S)=P++((Z1++[z])++(X2++(Y++((X1++[x])++(Z2++S))))):=by simp
    have e3:P++(Z1++(x::X2++(Y++(X1++(z::Z2++S)))))=(P++Z1++x::(X2++(Y++X1)))++z::(Z2++S):=by simp
    have hln:(P++(Z1++(x::X2++(Y++(X1++(z::Z2++S)))))).length=n:=by
     rw[hn,eX,eZ];simp at h2⊢;omega
    have:=ih Z2 (X1++[x]) (Z1++[z]) (by simpa using h2) (by simp[h1]) (by simp[eX]) (by simp[eZ]);have hp:a+X1.length=(P++Z1).length:=by rw[ha];simp;omega
    have hq:b+X1.length=(P++Z1++x::(X2++(Y++X1))).length:=by rw[hb,hlenX];simp;omega
    have hq':(P++Z1++x::(X2++(Y++X1))).length=(P++Z1++z::(X2++(Y++X1))).length:=by simp
    have st:=qtA (l:=P++(Z1++(x::X2++(Y++(X1++(z::Z2++S)))))) (x:=x) (y:=z) (p:=(P++Z1).length) (q:=(P++Z1++x::(X2++(Y++X1))).length) (a:=a) (b:=b) (m:=m) (i:=X1.length)
     (by rw[hln];exact hlen) (by rw[e0];exact zj rfl) (by rw[e3];exact zj rfl) hp hq (by simp) (by rw[hm,hlenX];omega) (P:=(·=(.unit,qn (P++(Z++(Y++(X++S)))))))
    rw[hln]at st;refine st ?_;rw[e0,z5 rfl,e1,z5 hq',e2]
    simpa using this
 apply Gets.get;refine qxV _ _ _ _ _ ?_;exact loop X Z [] [] hxz rfl rfl rfl
theorem qvY:∀(k:Nat) (P X Y S:List Rg) (n m:Nat),X.length+Y.length=k->0<X.length->0<Y.length->n=(P++(X++(Y++S))).length->n<1099511627776->m=P.length+X.length ->
  Gets (qc7 n m X.length Y.length (qn (P++(X++(Y++S))))) (·=(.unit,qn (P++(Y++(X++S))))):=by
 intro k
 induction k using Nat.strongRecOn with
 |ind k ih=>
  intro P X Y S n m hk hX hY hn hlen hm;have hnl:n=P.length+(X.length+(Y.length+S.length)):=by rw[hn];simp
  refine qoo _ _ _ _ _ ?_;have em:qFD .i64 ((m:Int) - (X.length:Int))=(P.length:Int):=by rw[qo (by omega) (by omega)];omega
  rw[em];rcases Nat.lt_trichotomy X.length Y.length with h|h|h
  ·-- the left part is the shorter one
   have hY2:(Y.drop (Y.length - X.length)).length=X.length:=by simp;omega
   have hY1:(Y.take (Y.length - X.length)).length=Y.length - X.length:=by simp
   have hYY:Y.take (Y.length - X.length)++Y.drop (Y.length - X.length)=Y:=List.take_append_drop _ _;have sw:=qcw (P:=P) (X:=X) (Y:=Y.take (Y.length - X.length)) (Z:=Y.drop (Y.length - X.length)) (S:=S) hY2.symm (n:=n) (a:=P.length) (b:=P.length+X.length+(Y.length - X.length)) (m:=X.length)
    (by rw[hnl];simp[hY2];omega) hlen rfl (by rw[hY1]) rfl
   have e1:P++(X++(Y.take (Y.length - X.length)++(Y.drop (Y.length - X.length)++S)))=P++(X++(Y++S)):=by rw[←qGl (Y.take _),hYY]
   rw[e1]at sw;have eb:qFD .i64 (qFD .i64 ((m:Int)+(Y.length:Int)) - (X.length:Int))=((P.length+X.length+(Y.length - X.length):Nat):Int):=by
    rw[qo (x:=(m:Int)+(Y.length:Int)) (by omega) (by omega),qo (by omega) (by omega)];omega
   have ej:qFD .i64 ((Y.length:Int) - (X.length:Int))=((Y.length - X.length:Nat):Int):=by rw[qo (by omega) (by omega)];omega
   have hne:¬((X.length:Int)=(Y.length:Int)):=by omega
   have hgt:¬((X.length:Int)>(Y.length:Int)):=by omega
   have hrec:=ih (Y.length) (by omega) P (Y.drop (Y.length - X.length)) (Y.take (Y.length - X.length)) (X++S) n m (by rw[hY2,hY1];omega) (by omega) (by omega) (by rw[hnl];simp[hY2];omega) hlen (by rw[hY2];exact hm);have e5:Y.take (Y.length - X.length)++(Y.drop (Y.length - X.length)++(X++S))=Y++(X++S):=by rw[←qGl,hYY]
   rw[hY1,hY2,e5]at hrec;rw[eb,ej];simp only[bneD,hne,decide_false,qF4,cond_true,hgt,cond_false,sw,qd,vq];exact hrec
  ·-- as long
   have sw:=qcw (P:=P) (X:=X) (Y:=[]) (Z:=Y) (S:=S) h (n:=n) (a:=P.length) (b:=m) (m:=X.length) (by rw[hn];simp) hlen rfl (by simp[hm]) rfl;simp only[List.nil_append]at sw;have he:((X.length:Int)=(Y.length:Int)):=by omega
   simp only[bneD,he,decide_true,qFW,cond_false];rw[←he];simp[sw]
  ·-- the left part is the longer one
   have hX1:(X.take Y.length).length=Y.length:=by simp;omega
   have hX2:(X.drop Y.length).length=X.length - Y.length:=by simp
   have hXX:X.take Y.length++X.drop Y.length=X:=List.take_append_drop _ _;have sw:=qcw (P:=P) (X:=X.take Y.length) (Y:=X.drop Y.length) (Z:=Y) (S:=S) hX1 (n:=n) (a:=P.length) (b:=m) (m:=Y.length)
    (by rw[hnl];simp[hX1,hX2];omega) hlen rfl (by rw[hX1,hX2];omega) hX1.symm
   have e1:P++(X.take Y.length++(X.drop Y.length++(Y++S)))=P++(X++(Y++S)):=by rw[←qGl (X.take _),hXX]
   rw[e1]at sw;have ei:qFD .i64 ((X.length:Int) - (Y.length:Int))=((X.length - Y.length:Nat):Int):=by rw[qo (by omega) (by omega)];omega
   have hne:¬((X.length:Int)=(Y.length:Int)):=by omega
   have hgt:((X.length:Int)>(Y.length:Int)):=by omega
   have hrec:=ih (X.length) (by omega) (P++Y) (X.drop Y.length) (X.take Y.length) S n m (by rw[hX1,hX2];omega) (by omega) (by omega) (by rw[hnl];simp[hX1];omega) hlen (by rw[hX2];simp;omega);have e5:X.take Y.length++(X.drop Y.length++S)=X++S:=by rw[←qGl,hXX]
   have e6:P++Y++(X.drop Y.length++(X.take Y.length++S))=P++(Y++(X.drop Y.length++(X.take Y.length++S))):=qGl _ _ _;have e7:P++Y++(X++S)=P++(Y++(X++S)):=qGl _ _ _;rw[hX1,hX2,e5,e6,e7]at hrec;rw[ei];simp only[bneD,hne,decide_false,qF4,cond_true,hgt,decide_true,sw,qd,vq];exact hrec
theorem qAy{P X Y S:List Rg}(hX:0<X.length)(hY:0<Y.length){n a m b:Nat}(hn:n=(P++(X++(Y++S))).length)(hlen:n<1099511627776)(ha:a=P.length)(hm:m=P.length+X.length)(hb:b=P.length+X.length+Y.length):
  EVm (EV cfg) 146 [.ms 0 0 n,.int .i64 a,.int .i64 m,.int .i64 b,ahF] 2 (qn (P++(X++(Y++S))))=some (.unit,qn (P++(Y++(X++S)))):=by
 have hnl:n=P.length+(X.length+(Y.length+S.length)):=by rw[hn];simp
 apply Gets.get;refine qx7 _ _ _ _ _ ?_;have e1:qFD .i64 ((m:Int) - (a:Int))=(X.length:Int):=by rw[qo (by omega) (by omega)];omega
 have e2:qFD .i64 ((b:Int) - (m:Int))=(Y.length:Int):=by rw[qo (by omega) (by omega)];omega
 rw[e1,e2];exact qvY _ P X Y S n m rfl hX hY hn hlen hm
theorem qwO{l:List Rg}{y z:Rg}{j q n a:Nat}(hlen:l.length<1099511627776)(hn:n=l.length)(hok:AllW l)(hy:l[q+1]? =some y)(hz:l[q]? =some z)(hj:j=q+1)(ha:a<=q)(hlt:qx y z<0){b v8:Int}{P:MV×List (List AV)->Prop}(h:Gets (qaT n a b v8 q (qn ((l.set (q+1) z).set q y))) P):Gets (qaT n a b v8 j (qn l)) P:=by
 subst hn hj;refine qcu _ _ _ _ _ _ ?_;unfold rd2 ck4;have hql:q+1<l.length:=(qFF.1 hy).1;have hc:=qcp (hok.at hy) (hok.at hz);rw[qGo (show((q+1:Nat):Int)>(a:Int) by omega),wr0 (by omega)];simp -implicitDefEqProofs only[cond_true,qd,rgB2,rgT2,rgD2,qT,q5,q9,qe,rdB hql,rdB (show q<l.length by omega),rgG hy,rgG hz,hc]
 rw[qGo hlt];simp -implicitDefEqProofs only[cond_true,qd,rgB2,rgD2,rdB hql,rdB (show q<l.length by omega),rgG hy,rgG hz,rg2 hy hz,rg4];exact h
theorem qwP{l:List Rg}{y z:Rg}{j q n a:Nat}(hlen:l.length<1099511627776)(hn:n=l.length)(hok:AllW l)(hy:l[q+1]? =some y)(hz:l[q]? =some z)(hj:j=q+1)(ha:a<=q)(hlt:¬qx y z<0){b v8:Int}{P:MV×List (List AV)->Prop}(h:Gets (qaU n a b (qFD .i64 (v8+1)) (qn l)) P):Gets (qaT n a b v8 j (qn l)) P:=by
 subst hn hj;refine qcu _ _ _ _ _ _ ?_;unfold rd2 ck4;have hql:q+1<l.length:=(qFF.1 hy).1;have hc:=qcp (hok.at hy) (hok.at hz);rw[qGo (show((q+1:Nat):Int)>(a:Int) by omega),wr0 (by omega)];simp -implicitDefEqProofs only[cond_true,qd,rgB2,rgT2,rgD2,qT,q5,q9,qe,rdB hql,rdB (show q<l.length by omega),rgG hy,rgG hz,hc]
 rw[qGp hlt];exact h
theorem quS{P0 S:List Rg}{y:Rg}{n a:Nat}{b v8:Int}{P:MV×List (List AV)->Prop}(hlen:n<1099511627776)(ha:a=P0.length):
  ∀(A B:List Rg),xj A->n=(P0++(A++(y::(B++S)))).length->AllW (P0++(A++(y::(B++S)))) ->
   Gets (qaU n a b (qFD .i64 (v8+1)) (qn (P0++(mrgG A [y]++(B++S))))) P->Gets (qaT n a b v8 ((P0.length+A.length:Nat):Int) (qn (P0++(A++(y::(B++S)))))) P:=by
 intro A
 induction A using yS with
 |h0=>
  intro B _ hn hok h;refine qcu _ _ _ _ _ _ ?_;unfold rd2 ck4;have d0:decide ((((P0.length+([]:List Rg).length:Nat):Int))>(a:Int))=false:=qGp (by simp[ha]);rw[d0,cond_false]
  simpa using h
 |h1 A z ih=>
  intro B hs hn hok h;have hs':=List.pairwise_append.1 hs;have e0:P0++(A++[z]++(y::(B++S)))=(P0++A)++z::(y::(B++S)):=by simp
  have e1:P0++(A++[z]++(y::(B++S)))=(P0++(A++[z]))++y::(B++S):=by simp
  have hz:(P0++(A++[z]++(y::(B++S))))[P0.length+A.length]? =some z:=by rw[e0];exact zj (by simp)
  have hy:(P0++(A++[z]++(y::(B++S))))[P0.length+A.length+1]? =some y:=by rw[e1];exact zj (by simp;omega)
  have hln:(P0++(A++[z]++(y::(B++S)))).length<1099511627776:=by rw[←hn];exact hlen
  have ng:=xq y z
  by_cases hc:qx y z<0
  ·refine qwO hln hn hok hy hz (j:=P0.length+(A++[z]).length) (by simp;omega) (by omega) hc ?_;have e2:((P0++(A++[z]++(y::(B++S)))).set (P0.length+A.length+1) z).set (P0.length+A.length) y=P0++(A++(y::((z::B)++S))):=by
    rw[e1,z5 (by simp;omega)];have:P0++(A++[z])++z::(B++S)=(P0++A)++z::(z::(B++S)):=by simp
    rw[this,z5 (by simp)];simp
   rw[e2];have hm:mrgG (A++[z]) [y]=mrgG A [y]++[z]:=by
    have:=qar _ A [z] [y] [] rfl (λu hu v hv=>by simp at hu hv;subst hu hv;omega) (λx _ w hw=>by cases hw)
    simpa using this
   have hmem:∀t,t∈P0++(A++(y::((z::B)++S)))->t∈P0++(A++[z]++(y::(B++S))):=by
    intro t ht;simp at ht⊢;rcases ht with h|h|h|h|h|h<;>simp[h]
   refine ih (z::B) hs'.1 (by rw[hn];simp) (id λt ht=>hok _ (hmem t ht)) ?_;rw[hm]at h;have e3:P0++(mrgG A [y]++[z]++(B++S))=P0++(mrgG A [y]++(z::B++S)):=by simp
   rw[e3]at h;exact h
  ·refine qwP hln hn hok hy hz (j:=P0.length+(A++[z]).length) (by simp;omega) (by omega) hc ?_;have hle:∀x∈A++[z],qx x y<=0:=by
    intro x hx;have hzy:qx z y<=0:=by omega
    rcases qF8.1 hx with hx|hx
    ·exact zt (hs'.2.2 x hx z (by simp)) hzy
    ·simp at hx;subst hx;exact hzy
   have hm:=qp5 (U:=[]) hle (λu hu=>by cases hu);rw[qGh]at hm;rw[hm]at h;have e3:P0++(A++[z]++[y]++(B++S))=P0++(A++[z]++(y::(B++S))):=by simp
   rw[e3]at h;exact h
theorem qs4{P0 X S:List Rg}{n a b:Nat}(hn:n=(P0++(X++S)).length)(hlen:n<1099511627776)(hok:AllW (P0++(X++S)))(ha:a=P0.length)(hb:b=P0.length+X.length):
  EVm (EV cfg) 120 [.ms 0 0 n,.int .i64 a,.int .i64 b,ahF] 2 (qn (P0++(X++S)))=some (.unit,qn (P0++(qZ X++S))):=by
 have hnl:n=P0.length+(X.length+S.length):=by rw[hn];simp
 have outer:∀(X2 X1:List Rg),X=X1++X2->Gets (qaU n a b ((P0.length+X1.length:Nat):Int) (qn (P0++(qZ X1++(X2++S))))) (·=(.unit,qn (P0++(qZ X++S)))):=by
  intro X2
  induction X2 with
  |nil=>
   intro X1 e;rw[qGh]at e;subst e;refine qcv _ _ _ _ _ ?_;have d:decide (((P0.length+X.length:Nat):Int)<(b:Int))=false:=qGp (by omega);rw[d,cond_false];simp
  |cons y X2 ih=>
   intro X1 e;have hx:X.length=X1.length+(X2.length+1):=by rw[e];simp
   refine qcv _ _ _ _ _ ?_;have d:decide (((P0.length+X1.length:Nat):Int)<(b:Int))=true:=qGo (by omega);rw[d,cond_true];have hmem:∀t,t∈P0++(qZ X1++(y::([]++(X2++S))))->t∈P0++(X++S):=by
    intro t ht;rw[e];simp[yb]at ht⊢;rcases ht with h|h|h|h|h<;>simp[h]
   have:=quS (P0:=P0) (S:=X2++S) (y:=y) (n:=n) (a:=a) (b:=b) (v8:=((P0.length+X1.length:Nat):Int)) (P:=(·=(.unit,qn (P0++(qZ X++S))))) hlen ha (qZ X1) [] (yU X1)
    (by rw[hnl,hx];simp[vt];omega) (id λt ht=>hok _ (hmem t ht)) (by
     have h2:=ih (X1++[y]) (by rw[e];simp);rw[qan]at h2;have e1:qFD .i64 (((P0.length+X1.length:Nat):Int)+1)=((P0.length+(X1++[y]).length:Nat):Int):=by
      rw[qo (by omega) (by omega)];simp;omega
     rw[e1]
     simpa using h2)
   rw[vt]at this
   simpa using this
 apply Gets.get;refine qyL _ _ _ _ ?_;have e1:qFD .i64 ((a:Int)+1)=((a+1:Nat):Int):=by rw[qo (by omega) (by omega)];rfl
 rw[e1];cases X with
 |nil=>
  refine qcv _ _ _ _ _ ?_;have d:decide (((a+1:Nat):Int)<(b:Int))=false:=qGp (by simp at hb;omega);rw[d,cond_false];simp[qcg]
 |cons x X=>
  have:=outer X [x] rfl;rw[qvP]at this;rw[ha];subst ha
  simpa using this
theorem qkY{x:Nat}(h:1<=x)(hx:x<4398046511104):qFD .i64 ((x:Int) - 1)=((x - 1:Nat):Int):=by rw[qo (by omega) (by omega)];omega
theorem shrK{x y:Nat}{α:Type}(h:x+y<4398046511104)(K:Int->Option α):(kOpt (qJ (Op.shift BinOp.shr .u64 (qFD .u64 (qFD .i64 ((x:Int)+(y:Int)))) .u64 (1:Int))) fun(v:AV)=>kInt .u64 v λn=>K n)=K (((x+y) / 2:Nat):Int):=by
 rw[shr1 h];rfl
theorem qoy{l:List Rg}{x:Rg}{n a pos lo hi:Nat}(hn:n=l.length)(hlen:n<1099511627776)(hok:AllW l)(hx:l[a]? =some x){P:MV×List (List AV)->Prop}(hlo:∀h y,h<pos->l[h]? =some y->lo<=h->qx y x<0)(hhi:∀h y,pos<=h->l[h]? =some y->h<hi->¬qx y x<0)(hhl:hi<=n)(h:Gets (qaS n pos a (qn l)) P):
  ∀(d i j:Nat),j - i=d->lo<=i->i<=pos->pos<=j->j<=hi->Gets (qbC n a i j (qn l)) P:=by
 intro d
 induction d using Nat.strongRecOn with
 |ind d ih=>
  intro i j hd hli hip hpj hjh;refine qoq _ _ _ _ _ ?_;unfold rd2
  by_cases hij:i<j
  ·rw[qGo (show(i:Int)<(j:Int) by omega),cond_true,shrK (by omega)];have hic:i<=(i+j) / 2:=by omega
   have hcj:(i+j) / 2<j:=by omega
   generalize (i+j) / 2=c at *;have hal:a<n:=by rw[hn];exact(qFF.1 hx).1
   obtain⟨y,hy⟩:=qaL (l:=l) (i:=c) (by omega);have hc:=qcp (hok.at hy) (hok.at hx);have hlo':=λh1=>hlo c y h1 hy (by omega)
   have hhi':=λh1=>hhi c y h1 hy (by omega)
   have ih1:=ih (j - (c+1)) (by omega) (c+1) j rfl (by omega);have ih2:=ih (c - i) (by omega) i c rfl (by omega);rw[wid (by omega),wr1 (by omega)];simp -implicitDefEqProofs only[cond_true,qd,rgB2,rgT2,qT,q5,q9,qe,rdB (show c<n by omega),rdB hal,rgG hx,rgG hy,hc]
   by_cases hcp:c<pos
   ·rw[qGo (hlo' hcp),cond_true];exact ih1 (by omega) hpj hjh
   ·rw[qGp (hhi' (by omega)),cond_false];exact ih2 hip (by omega) (by omega)
  ·rw[qGp (show ¬(i:Int)<(j:Int) by omega),cond_false];obtain rfl:i=pos:=by omega
   exact h
theorem qpC{l:List Rg}{x:Rg}{n m pos lo hi:Nat}(hn:n=l.length)(hlen:n<1099511627776)(hok:AllW l)(hx:l[m]? =some x){P:MV×List (List AV)->Prop}(hlo:∀h y,h<pos->l[h]? =some y->lo<=h->¬qx x y<0)(hhi:∀h y,pos<=h->l[h]? =some y->h<hi->qx x y<0)(hhl:hi<=n)(h:Gets (qaR n pos m (qn l)) P):
  ∀(d i j:Nat),j - i=d->lo<=i->i<=pos->pos<=j->j<=hi->Gets (qbB n m i j (qn l)) P:=by
 intro d
 induction d using Nat.strongRecOn with
 |ind d ih=>
  intro i j hd hli hip hpj hjh;refine qop _ _ _ _ _ ?_;unfold rd2
  by_cases hij:i<j
  ·rw[qGo (show(i:Int)<(j:Int) by omega),cond_true,shrK (by omega)];have hic:i<=(i+j) / 2:=by omega
   have hcj:(i+j) / 2<j:=by omega
   generalize (i+j) / 2=c at *;have hal:m<n:=by rw[hn];exact(qFF.1 hx).1
   obtain⟨y,hy⟩:=qaL (l:=l) (i:=c) (by omega);have hc:=qcp (hok.at hx) (hok.at hy);have hlo':=λh1=>hlo c y h1 hy (by omega)
   have hhi':=λh1=>hhi c y h1 hy (by omega)
   have ih1:=ih (j - (c+1)) (by omega) (c+1) j rfl (by omega);have ih2:=ih (c - i) (by omega) i c rfl (by omega);rw[wid (by omega),wr1 (by omega)];simp -implicitDefEqProofs only[cond_true,qd,rgB2,rgT2,qT,q5,q9,qe,rdB (show c<n by omega),rdB hal,rgG hx,rgG hy,hc]
   by_cases hcp:c<pos
   ·rw[qGp (hlo' hcp),qF4,cond_true];exact ih1 (by omega) hpj hjh
   ·rw[qGo (hhi' (by omega)),qFW,cond_false];exact ih2 hip (by omega) (by omega)
  ·rw[qGp (show ¬(i:Int)<(j:Int) by omega),cond_false];obtain rfl:i=pos:=by omega
   exact h
theorem qr5{l:List Rg}{x y:Rg}{n k i:Nat}(hn:n=l.length)(hlen:n<1099511627776)(hx:l[k]? =some x)(hy:l[k+1]? =some y)(hi:k+1<i)(hil:i<=n){P:MV×List (List AV)->Prop}(h:Gets (qaS n i ((k+1:Nat):Int) (qn ((l.set k y).set (k+1) x))) P):Gets (qaS n i k (qn l)) P:=by
 subst hn;refine qf6 _ _ _ _ ?_;unfold rd2 ck4;have hql:k+1<l.length:=(qFF.1 hy).1;rw[qkY (show 1<=i by omega) (by omega),qGo (show(k:Int)<((i - 1:Nat):Int) by omega),wr1 (show k<4398046511104 by omega)];simp -implicitDefEqProofs only[cond_true,qd,rgB2,rgT2,rgD2,qT,q5,q9,qe,rdB hql,rdB (show k<l.length by omega),rgG hx,rgG hy,rg2 hx hy,rg4]
 exact h
theorem qDz{x:Rg}{S:List Rg}{n i:Nat}(hlen:n<1099511627776):∀(V Q:List Rg),n=(Q++(x::(V++S))).length->i=Q.length+V.length+1 ->
  Gets (qaS n i Q.length (qn (Q++(x::(V++S))))) (·=(.unit,qn (Q++(V++(x::S))))):=by
 intro V
 induction V with
 |nil=>
  intro Q hn hi;have hnl:n=Q.length+(S.length+1):=by rw[hn];simp
  refine qf6 _ _ _ _ ?_;unfold rd2 ck4;have e2:qFD .i64 ((i:Int) - 1)=(i:Int) - 1:=qo (by omega) (by simp at hi;omega);have d0:decide ((Q.length:Int)<(i:Int) - 1)=false:=qGp (by simp at hi;omega);rw[e2,d0,cond_false];simp
 |cons v V ih=>
  intro Q hn hi;have hnl:n=Q.length+(V.length+S.length+2):=by rw[hn];simp
  have e0:Q++(x::(v::V++S))=(Q++[x])++v::(V++S):=by simp
  refine qr5 (l:=Q++(x::(v::V++S))) (x:=x) (y:=v) hn hlen (zj rfl) (by rw[e0];exact zj (by simp)) (by simp at hi;omega) (by simp at hi;omega) ?_;rw[z5 rfl];have e1:Q++v::(v::V++S)=(Q++[v])++v::(V++S):=by simp
  rw[e1,z5 (by simp)];have:=ih (Q++[v]) (by rw[hnl];simp) (by simp at hi⊢;omega)
  simpa using this
theorem qr6{l:List Rg}{x y:Rg}{n k i:Nat}(hn:n=l.length)(hlen:n<1099511627776)(hx:l[k]? =some x)(hy:l[k+1]? =some y)(hi:i<=k){P:MV×List (List AV)->Prop}(h:Gets (qaR n i (k:Int) (qn ((l.set (k+1) x).set k y))) P):Gets (qaR n i ((k+1:Nat):Int) (qn l)) P:=by
 subst hn;refine qf5 _ _ _ _ ?_;unfold rd2 ck4;have hql:k+1<l.length:=(qFF.1 hy).1;rw[qGo (show((k+1:Nat):Int)>(i:Int) by omega),wr0 (by omega)];simp -implicitDefEqProofs only[cond_true,qd,rgB2,rgT2,rgD2,qT,q5,q9,qe,rdB hql,rdB (show k<l.length by omega),rgG hx,rgG hy,rg2 hy hx,rg4];exact h
theorem qDA{x:Rg}{Q:List Rg}{n i:Nat}(hlen:n<1099511627776)(hi:i=Q.length):∀(U S:List Rg),n=(Q++(U++(x::S))).length ->
  Gets (qaR n i ((Q.length+U.length:Nat):Int) (qn (Q++(U++(x::S))))) (·=(.unit,qn (Q++(x::(U++S))))):=by
 intro U
 induction U using yS with
 |h0=>
  intro S hn;refine qf5 _ _ _ _ ?_;unfold rd2 ck4;have d0:decide (((Q.length+([]:List Rg).length:Nat):Int)>(i:Int))=false:=qGp (by simp[hi]);rw[d0,cond_false];simp
 |h1 U u ih=>
  intro S hn;have e0:Q++(U++[u]++(x::S))=(Q++U)++u::(x::S):=by simp
  have e1:Q++(U++[u]++(x::S))=(Q++(U++[u]))++x::S:=by simp
  have:=qr6 (l:=Q++(U++[u]++(x::S))) (x:=u) (y:=x) (k:=Q.length+U.length) (i:=i) hn hlen (by rw[e0];exact zj (by simp)) (by rw[e1];exact zj (by simp;omega)) (by omega) (P:=(·=(.unit,qn (Q++(x::(U++[u]++S)))))) (by
   rw[e1,z5 (by simp;omega)];have e2:Q++(U++[u])++u::S=(Q++U)++u::(u::S):=by simp
   rw[e2,z5 (by simp)];have:=ih (u::S) (by rw[hn];simp)
   simpa using this)
  have e3:((Q.length+(U++[u]).length:Nat):Int)=((Q.length+U.length+1:Nat):Int):=by simp;omega
  rw[e3];exact this
theorem qnK{x:Rg}:∀{Y:List Rg},xj Y->∃Y1 Y2,Y=Y1++Y2∧(∀v∈Y1,qx v x<0)∧(∀y∈Y2,¬qx y x<0)
 |[],_=>⟨[],[],rfl,by simp,by simp⟩
 |y::Y,h=>by
  have h':=List.pairwise_cons.1 h
  by_cases hc:qx y x<0
  ·obtain⟨Y1,Y2,e,h1,h2⟩:=qnK (x:=x) h'.2;refine⟨y::Y1,Y2,by rw[e];rfl,λv hv=>?_,h2⟩;rcases qF6.1 hv with rfl|hv
   ·exact hc
   ·exact h1 v hv
  ·refine⟨[],y::Y,rfl,by simp,λz hz hzx=>?_⟩;rcases qF6.1 hz with rfl|hz
   ·exact hc hzx
   ·exact hc (qbw (h'.1 z hz) hzx)
theorem qnL{y:Rg}:∀{X:List Rg},xj X->∃X1 U,X=X1++U∧(∀x∈X1,¬qx y x<0)∧(∀u∈U,qx y u<0)
 |[],_=>⟨[],[],rfl,by simp,by simp⟩
 |x::X,h=>by
  have h':=List.pairwise_cons.1 h
  by_cases hc:qx y x<0
  ·refine⟨[],x::X,rfl,by simp,λz hz=>?_⟩;rcases qF6.1 hz with rfl|hz
   ·exact hc
   ·exact qbv hc (h'.1 z hz)
  ·obtain⟨X1,U,e,h1,h2⟩:=qnL (y:=y) h'.2;refine⟨x::X1,U,by rw[e];rfl,λv hv=>?_,h2⟩;rcases qF6.1 hv with rfl|hv
   ·exact hc
   ·exact h1 v hv
theorem qd2{A B C:List Rg}{h:Nat}{y:Rg}(hy:(A++(B++C))[h]? =some y)(h1:A.length<=h)(h2:h<A.length+B.length):y∈B:=by
 rw[qF0 h1,qFX (by omega)]at hy;exact qFK hy
theorem qvI{Q:List Rg}{x:Rg}{Y S:List Rg}{n a m b:Nat}(hY:xj Y)(hn:n=(Q++([x]++(Y++S))).length)(hlen:n<1099511627776)(hok:AllW (Q++([x]++(Y++S))))(ha:a=Q.length)(hm:m=Q.length+1)(hb:b=Q.length+1+Y.length):
  Gets (qbC n a m b (qn (Q++([x]++(Y++S))))) (·=(.unit,qn (Q++(mrgG [x] Y++S)))):=by
 obtain⟨Y1,Y2,rfl,h1,h2⟩:=qnK (x:=x) hY;have hnl:n=Q.length+1+Y1.length+Y2.length+S.length:=by rw[hn];simp;omega
 have hmr:mrgG [x] (Y1++Y2)=Y1++x::Y2:=qyr (λv hv=>by have:=h1 v hv;have:=xq x v;omega) (λy hy=>by have:=h2 y hy;have:=xq x y;omega);have mv:=qDz (x:=x) (S:=Y2++S) (n:=n) (i:=Q.length+Y1.length+1) hlen Y1 Q (by rw[hnl];simp;omega) rfl;have e1:Q++([x]++(Y1++Y2++S))=Q++(x::(Y1++(Y2++S))):=by simp
 rw[hmr];have e2:Q++(Y1++x::Y2++S)=Q++(Y1++(x::(Y2++S))):=by simp
 rw[e2];rw[e1]at hok⊢;subst ha;refine qoy (lo:=m) (hi:=b) (pos:=Q.length+Y1.length+1) (x:=x) (by rw[hnl];simp;omega) hlen hok (zj rfl) (λh y hh hy hl=>?_) (λh y hh hy hl=>?_) (by rw[hb,hnl];simp;omega) mv _ m b rfl (qFH _) (by omega) (by rw[hb];simp;omega) (qFH _)
 ·have e3:Q++(x::(Y1++(Y2++S)))=(Q++[x])++(Y1++(Y2++S)):=by simp
  rw[e3]at hy;exact h1 y (qd2 hy (by simp;omega) (by simp;omega))
 ·have e3:Q++(x::(Y1++(Y2++S)))=(Q++[x]++Y1)++(Y2++S):=by simp
  rw[e3]at hy;refine h2 y (qd2 hy (by simp;omega) (by rw[hb]at hl;simp at hl⊢;omega))
theorem qtz{Q:List Rg}{y:Rg}{X S:List Rg}{n a m:Nat}(hX:xj X)(hn:n=(Q++(X++([y]++S))).length)(hlen:n<1099511627776)(hok:AllW (Q++(X++([y]++S))))(ha:a=Q.length)(hm:m=Q.length+X.length):
  Gets (qbB n m a m (qn (Q++(X++([y]++S))))) (·=(.unit,qn (Q++(mrgG X [y]++S)))):=by
 obtain⟨X1,U,rfl,h1,h2⟩:=qnL (y:=y) hX;have hnl:n=Q.length+X1.length+U.length+1+S.length:=by rw[hn];simp;omega
 have hml:m=Q.length+X1.length+U.length:=by rw[hm,qFU];omega
 have hmr:mrgG (X1++U) [y]=X1++y::U:=qp5 (λx hx=>by have:=h1 x hx;have:=xq x y;omega) (λu hu=>by have:=h2 u hu;have:=xq u y;omega);have mv:=qDA (x:=y) (Q:=Q++X1) (n:=n) (i:=Q.length+X1.length) hlen (by simp) U S (by rw[hnl];simp;omega);have e1:Q++(X1++U++([y]++S))=Q++X1++(U++(y::S)):=by simp
 rw[hmr];have e2:Q++(X1++y::U++S)=Q++X1++(y::(U++S)):=by simp
 rw[e2];rw[e1]at hok⊢;have em:((Q++X1).length+U.length)=m:=by rw[qFU];omega
 rw[em]at mv;refine qpC (lo:=a) (hi:=m) (pos:=Q.length+X1.length) (x:=y) (by rw[hnl];simp;omega) hlen hok ?_ (λh z hh hz hl=>?_) (λh z hh hz hl=>?_) (by omega) mv _ a m rfl (qFH _) (by omega) (by omega) (qFH _)
 ·have e3:Q++X1++(U++(y::S))=(Q++X1++U)++y::S:=by simp
  rw[e3];exact zj (by rw[qFU,qFU];omega)
 ·have e3:Q++X1++(U++(y::S))=Q++(X1++(U++(y::S))):=by simp
  rw[e3]at hz;exact h1 z (qd2 hz (by omega) (by omega))
 ·exact h2 z (qd2 hz (by rw[qFU];omega) (by rw[qFU];omega))
theorem qrz{l:List Rg}{n a m b pos start r mid:Nat}(hn:n=l.length)(hlen:n<1099511627776)(hok:AllW l)(hrn:r<=n)(hrp:r<=mid+m)(hpn:mid+m<=n+start)(hmn:m<=n)(hmid:mid<=n)(h1:1<=mid+m)(hT:∀c y z,start<=c->c<pos->l[mid+m - 1 - c]? =some y->l[c]? =some z->¬qx y z<0)(hF:∀c y z,pos<=c->c<r->l[mid+m - 1 - c]? =some y->l[c]? =some z->qx y z<0){P:MV×List (List AV)->Prop}(h:Gets (zx n a m b mid pos pos (qn l)) P):
  ∀(d i j:Nat),j - i=d->start<=i->i<=pos->pos<=j->j<=r->Gets (zx n a m b mid i j (qn l)) P:=by
 intro d
 induction d using Nat.strongRecOn with
 |ind d ih=>
  intro i j hd hli hip hpj hjh
  by_cases hij:i<j
  ·refine qf7 _ _ _ _ _ _ _ _ ?_;unfold zy0 zy1 zy4 zy5 zy6 zy2 zy3 rd2;rw[qGo (show(i:Int)<(j:Int) by omega),cond_true,shrK (by omega)];have hic:i<=(i+j) / 2:=by omega
   have hcj:(i+j) / 2<j:=by omega
   generalize (i+j) / 2=c at *;obtain⟨z,hz⟩:=qaL (l:=l) (i:=c) (by omega);obtain⟨y,hy⟩:=qaL (l:=l) (i:=mid+m - 1 - c) (by omega);have hc:=qcp (hok.at hy) (hok.at hz);have hT':=λh1=>hT c y z (by omega) h1 hy hz
   have hF':=λh1=>hF c y z h1 (by omega) hy hz
   have ih1:=ih (j - (c+1)) (by omega) (c+1) j rfl (by omega);have ih2:=ih (c - i) (by omega) i c rfl (by omega);rw[wid (show mid<4398046511104 by omega),wadd (show mid+m<4398046511104 by omega),qkY h1 (by omega),wid (show c<4398046511104 by omega),wsub (x:=mid+m - 1) (y:=c) (by omega) (by omega),wr1 (show c<4398046511104 by omega)];simp -implicitDefEqProofs only[cond_true,qd,rgB2,rgT2,qT,q5,q9,qe,rdB (show mid+m - 1 - c<n by omega),rdB (show c<n by omega),rgG hy,rgG hz,hc]
   by_cases hcp:c<pos
   ·rw[qGp (hT' hcp),qF4,cond_true];exact ih1 (by omega) hpj hjh
   ·rw[qGo (hF' (by omega)),qFW,cond_false];exact ih2 hip (by omega) (by omega)
  ·obtain rfl:i=pos:=by omega
   obtain rfl:j=i:=by omega
   exact h
theorem qvH{n a m b pos e mid:Nat}(hn:n<1099511627776)(he:e+pos=mid+m)(hnn:mid+m<4398046511104){L0 L1 L2 L3:List (List AV)}(rot:pos<m->m<e->EVm (EV cfg) 146 [.ms 0 0 n,.int .i64 pos,.int .i64 m,.int .i64 e,ahF] 2 L0=some (.unit,L1))(rot':¬(pos<m∧m<e)->L0=L1)(rec1:a<pos->pos<mid->EVm (EV cfg) 121 [.ms 0 0 n,.int .i64 a,.int .i64 pos,.int .i64 mid,ahF] 2 L1=some (.unit,L2))(rec1':¬(a<pos∧pos<mid)->L1=L2)(rec2:mid<e->e<b->EVm (EV cfg) 121 [.ms 0 0 n,.int .i64 mid,.int .i64 e,.int .i64 b,ahF] 2 L2=some (.unit,L3))(rec2':¬(mid<e∧e<b)->L2=L3):
  Gets (zx n a m b mid pos pos L0) (·=(.unit,L3)):=by
 refine qf7 _ _ _ _ _ _ _ _ ?_;unfold zy0 zy1 zy4 zy5 zy6 zy2 zy3 rd2;have ee:qFD .i64 (((mid+m:Nat):Int) - (pos:Int))=(e:Int):=by rw[qo (by omega) (by omega)];omega
 have dz:decide ((pos:Int)<(pos:Int))=false:=qGp (by omega);have c1:decide ((pos:Int)<(m:Int))=decide (pos<m):=by simp
 have c2:decide ((m:Int)<(e:Int))=decide (m<e):=by simp
 have c3:decide ((a:Int)<(pos:Int))=decide (a<pos):=by simp
 have c4:decide ((pos:Int)<(mid:Int))=decide (pos<mid):=by simp
 have c5:decide ((mid:Int)<(e:Int))=decide (mid<e):=by simp
 have c6:decide ((e:Int)<(b:Int))=decide (e<b):=by simp
 rw[dz,cond_false,wid (show mid<4398046511104 by omega),wadd (show mid+m<4398046511104 by omega),ee];simp only[c1,c2,c3,c4,c5,c6];have t3:∀L,L=L2->Gets (bif decide (mid<e)then bif decide (e<b)then kOpt (EVm (EV cfg) 121 [.ms 0 0 n,.int .i64 mid,.int .i64 e,.int .i64 b,ahF] 2 L) λq=>q6 q.1 (some (MV.unit,q.2))else some (MV.unit,L)else some (MV.unit,L)) (·=(.unit,L3)):=by
  intro L hL;subst hL
  by_cases h5:mid<e
  ·by_cases h6:e<b
   ·simp[h5,h6,rec2 h5 h6]
   ·simp[h5,h6,rec2' (λh=>h6 h.2)]
  ·simp[h5,rec2' (λh=>h5 h.1)]
 have t2:∀L,L=L1->Gets (bif decide (a<pos)then bif decide (pos<mid)then kOpt (EVm (EV cfg) 121 [.ms 0 0 n,.int .i64 a,.int .i64 pos,.int .i64 mid,ahF] 2 L) λq=>q6 q.1
    (bif decide (mid<e)then bif decide (e<b)then kOpt (EVm (EV cfg) 121 [.ms 0 0 n,.int .i64 mid,.int .i64 e,.int .i64 b,ahF] 2 q.2) λq=>q6 q.1 (some (MV.unit,q.2))else some (MV.unit,q.2)else some (MV.unit,q.2))
    else bif decide (mid<e)then bif decide (e<b)then kOpt (EVm (EV cfg) 121 [.ms 0 0 n,.int .i64 mid,.int .i64 e,.int .i64 b,ahF] 2 L) λq=>q6 q.1 (some (MV.unit,q.2))else some (MV.unit,L)else some (MV.unit,L)
    else bif decide (mid<e)then bif decide (e<b)then kOpt (EVm (EV cfg) 121 [.ms 0 0 n,.int .i64 mid,.int .i64 e,.int .i64 b,ahF] 2 L) λq=>q6 q.1 (some (MV.unit,q.2))else some (MV.unit,L)else some (MV.unit,L)) (·=(.unit,L3)):=by
  intro L hL;subst hL
  by_cases h3:a<pos
  ·by_cases h4:pos<mid
   ·rw[qGo h3,qGo h4,cond_true,cond_true,rec1 h3 h4,qd,vq];exact t3 L2 rfl
   ·rw[qGo h3,qGp h4,cond_true,cond_false];exact t3 _ (rec1' (λh=>h4 h.2))
  ·rw[qGp h3,cond_false];exact t3 _ (rec1' (λh=>h3 h.1))
 by_cases h1:pos<m
 ·by_cases h2:m<e
  ·rw[qGo h1,qGo h2,cond_true,cond_true,rot h1 h2,qd,vq];exact t2 L1 rfl
  ·rw[qGo h1,qGp h2,cond_true,cond_false];exact t2 _ (rot' (λh=>h2 h.2))
 ·rw[qGp h1,cond_false];exact t2 _ (rot' (λh=>h1 h.1))
theorem qr7(p:Nat->Prop):∀(d lo hi:Nat),hi=lo+d->(∀c c',lo<=c->c<c'->c'<hi->p c'->p c)->∃pos,lo<=pos∧pos<=hi∧(∀c,lo<=c->c<pos->p c)∧(∀c,pos<=c->c<hi->¬p c):=by
 intro d
 induction d with
 |zero=>intro lo hi h _;exact⟨lo,qFH _,by omega,λc h1 h2=>by omega,λc h1 h2=>by omega⟩
 |succ d ih=>
  intro lo hi h mono
  by_cases hp:p (hi - 1)
  ·refine⟨hi,by omega,qFH _,λc h1 h2=>?_,λc h1 h2=>by omega⟩
   by_cases hc:c=hi - 1
   ·rw[hc];exact hp
   ·exact mono c (hi - 1) h1 (by omega) (by omega) hp
  ·obtain⟨pos,h1,h2,h3,h4⟩:=ih lo (hi - 1) (by omega) (λc c' h1 h2 h3=>mono c c' h1 h2 (by omega));refine⟨pos,h1,by omega,h3,λc h5 h6=>?_⟩
   by_cases hc:c=hi - 1
   ·rw[hc];exact hp
   ·exact h4 c h5 (by omega)
theorem zT{l:List Rg}(h:xj l){i j:Nat}{x y:Rg}(hx:l[i]? =some x)(hy:l[j]? =some y)(hij:i<=j):qx x y<=0:=by
 rcases Nat.lt_or_eq_of_le hij with hlt|rfl
 ·obtain⟨h1,e1⟩:=qFF.1 hx;obtain⟨h2,e2⟩:=qFF.1 hy;have:=List.pairwise_iff_getElem.1 h i j h1 h2 hlt;rw[e1,e2]at this;exact this
 ·rw[hx]at hy;cases hy;rw[qkh];exact Int.le_refl _
theorem qbZ{l l':List Rg}(h:xj l)(hs:l'.Sublist l):xj l':=List.Pairwise.sublist hs h
set_option maxHeartbeats 4000000 in
theorem qsP:∀(k:Nat) (P X Y S:List Rg) (n a m b:Nat),X.length+Y.length=k->0<X.length->0<Y.length->xj X->xj Y->n=(P++(X++(Y++S))).length->n<1099511627776->AllW (P++(X++(Y++S))) ->
  a=P.length->m=P.length+X.length->b=P.length+X.length+Y.length ->
  EVm (EV cfg) 121 [.ms 0 0 n,.int .i64 a,.int .i64 m,.int .i64 b,ahF] 2 (qn (P++(X++(Y++S))))=some (.unit,qn (P++(mrgG X Y++S))):=by
 intro k
 induction k using Nat.strongRecOn with
 |ind k ih=>
  intro P X Y S n a m b hk hX0 hY0 hX hY hn hlen hok ha hm hb;have hnl:n=P.length+X.length+Y.length+S.length:=by rw[hn];simp;omega
  apply Gets.get;refine qxU _ _ _ _ _ ?_;have e1:qFD .i64 ((m:Int) - (a:Int))=(X.length:Int):=by rw[qo (by omega) (by omega)];omega
  have e2:qFD .i64 ((b:Int) - (m:Int))=(Y.length:Int):=by rw[qo (by omega) (by omega)];omega
  rw[e1,e2]
  by_cases hX1:X.length=1
  ·obtain⟨x,rfl⟩:∃x,X=[x]:=by
    match X,hX1 with
    |[x],_=>exact⟨x,rfl⟩
   have:=qvI (Q:=P) (x:=x) (n:=n) (a:=a) (m:=m) (b:=b) hY hn hlen hok ha (by simpa using hm) (by simpa using hb)
   simpa [beqD]using this
  by_cases hY1:Y.length=1
  ·obtain⟨y,rfl⟩:∃y,Y=[y]:=by
    match Y,hY1 with
    |[y],_=>exact⟨y,rfl⟩
   have:=qtz (Q:=P) (y:=y) (n:=n) (a:=a) (m:=m) hX hn hlen hok ha hm;have c1:¬((X.length:Int)=1):=by omega
   rw[beqD,qGp c1,cond_false]
   simpa [beqD]using this
  have c1:¬((X.length:Int)=1):=by omega
  have c2:¬((Y.length:Int)=1):=by omega
  rw[beqD,qGp c1,cond_false,beqD,qGp c2,cond_false];rw[shrK (by omega)];obtain⟨mid,hmid⟩:∃mid,mid=(a+b) / 2:=⟨_,rfl⟩;rw[←hmid,wid (show mid<4398046511104 by omega),wadd (show mid+m<4398046511104 by omega)];have main:∀start r:Nat,(mid<m∧start=mid+m - b∧r=mid)∨(m<=mid∧start=a∧r=m) ->
    Gets (zx n a m b mid start r (qn (P++(X++(Y++S))))) (·=(.unit,qn (P++(mrgG X Y++S)))):=by
   intro start r hsr;have hsr':a<=start∧start<=r∧r<=m∧r<=mid∧mid+m<=start+b:=by omega
   have gX:∀c,a<=c->c<m->∃z,X[c - a]? =some z∧(P++(X++(Y++S)))[c]? =some z:=λc h1 h2=>by
    obtain⟨z,hz⟩:∃z,X[c - a]? =some z:=⟨_,qFE (by omega)⟩;refine⟨z,hz,?_⟩;rw[qF0 (by omega),qFX (by omega),←ha];exact hz
   have gY:∀c,m<=c->c<b->∃z,Y[c - m]? =some z∧(P++(X++(Y++S)))[c]? =some z:=λc h1 h2=>by
    obtain⟨z,hz⟩:∃z,Y[c - m]? =some z:=⟨_,qFE (by omega)⟩;refine⟨z,hz,?_⟩;rw[qF0 (by omega),qF0 (by omega),qFX (by omega)];rw[show c - P.length - X.length=c - m by omega];exact hz
   obtain⟨pos,hp1,hp2,hp3,hp4⟩:=qr7 (λc=>∀y z,Y[mid+m - 1 - c - m]? =some y->X[c - a]? =some z->¬qx y z<0) (r - start) start r (by omega) (λc c' h1 h2 h3 hp y z hy hz hlt=>by
    obtain⟨z',hz',_⟩:=gX c' (by omega) (by omega);obtain⟨y',hy',_⟩:=gY (mid+m - 1 - c') (by omega) (by omega);refine hp y' z' hy' hz' ?_;exact qbv (qbw (zT hY hy' hy (by omega)) hlt) (zT hX hz hz' (by omega)))
   obtain⟨e,he⟩:∃e,e=mid+m - pos:=⟨_,rfl⟩;have hX1l:(X.take (pos - a)).length=pos - a:=by simp;omega
   have hUl:(X.drop (pos - a)).length=m - pos:=by simp;omega
   have hVl:(Y.take (e - m)).length=e - m:=by simp;omega
   have hY2l:(Y.drop (e - m)).length=b - e:=by simp;omega
   have hXX:X.take (pos - a)++X.drop (pos - a)=X:=List.take_append_drop _ _;have hYY:Y.take (e - m)++Y.drop (e - m)=Y:=List.take_append_drop _ _;have hUV:∀u∈X.drop (pos - a),∀v∈Y.take (e - m),0<qx u v:=by
    intro u hu v hv;obtain⟨i,hi⟩:=List.mem_iff_getElem?.1 hu;obtain⟨j,hj⟩:=List.mem_iff_getElem?.1 hv;have hil:i<m - pos:=by rw[←hUl];exact(qFF.1 hi).1
    have hjl:j<e - m:=by rw[←hVl];exact(qFF.1 hj).1
    rw[List.getElem?_drop]at hi;rw[List.getElem?_take,qGq hjl]at hj;have hn4:=hp4 pos (qFH _) (by omega);have hc:∃y z,Y[mid+m - 1 - pos - m]? =some y∧X[pos - a]? =some z∧qx y z<0:=by
     obtain⟨z,hz,_⟩:=gX pos (by omega) (by omega);obtain⟨y,hy,_⟩:=gY (mid+m - 1 - pos) (by omega) (by omega);refine⟨y,z,hy,hz,?_⟩
     by_cases hlt:qx y z<0
     ·exact hlt
     ·exfalso;refine hn4 (λy' z' hy' hz'=>?_);rw[hy]at hy';rw[hz]at hz';cases hy';cases hz';exact hlt
    obtain⟨y,z,hy,hz,hlt⟩:=hc;have h1:=zT hY hj hy (by omega);have h2:=zT hX hz hi (by omega);have h3:=qbv (qbw h1 hlt) h2;have:=xq u v;omega
   have hXY:∀x∈X.take (pos - a),∀y∈Y.drop (e - m),qx x y<=0:=by
    intro x hx y hy;obtain⟨i,hi⟩:=List.mem_iff_getElem?.1 hx;obtain⟨j,hj⟩:=List.mem_iff_getElem?.1 hy;have hil:i<pos - a:=by rw[←hX1l];exact(qFF.1 hi).1
    have hjl:j<b - e:=by rw[←hY2l];exact(qFF.1 hj).1
    rw[List.getElem?_take,qGq hil]at hi;rw[List.getElem?_drop]at hj;obtain⟨z,hz,_⟩:=gX (pos - 1) (by omega) (by omega);obtain⟨w,hw,_⟩:=gY (mid+m - 1 - (pos - 1)) (by omega) (by omega);have hnl:=hp3 (pos - 1) (by omega) (by omega) w z hw hz;have h1:=zT hX hi hz (by omega);have h2:=zT hY hw hj (by omega);have:=xq z w;exact zt (zt h1 (by omega)) h2
   have hmrg:mrgG X Y=mrgG (X.take (pos - a)) (Y.take (e - m))++mrgG (X.drop (pos - a)) (Y.drop (e - m)):=by
    have:=qar _ _ _ _ _ rfl hUV hXY;rw[hXX,hYY]at this;exact this
   have hokU:∀t,(t∈P∨t∈X∨t∈Y∨t∈S)->RgW t:=λt ht=>hok _ (by simpa using ht)
   have eL0:P++(X++(Y++S))=(P++X.take (pos - a))++(X.drop (pos - a)++(Y.take (e - m)++(Y.drop (e - m)++S))):=by
    rw[qGl,←qGl (X.take _),hXX,←qGl (Y.take _),hYY]
   refine qrz (start:=start) (r:=r) (pos:=pos) (by rw[hn]) hlen hok (by omega) (by omega) (by omega) (by omega) (by omega) (by omega) (λc y z h1 h2 hy hz=>?_) (λc y z h1 h2 hy hz=>?_) ?_ _ start r rfl (qFH _) hp1 hp2 (qFH _)
   ·obtain⟨z',hz',hz2⟩:=gX c (by omega) (by omega);obtain⟨y',hy',hy2⟩:=gY (mid+m - 1 - c) (by omega) (by omega);rw[hz]at hz2;rw[hy]at hy2;cases hz2;cases hy2;exact hp3 c h1 h2 _ _ hy' hz'
   ·obtain⟨z',hz',hz2⟩:=gX c (by omega) (by omega);obtain⟨y',hy',hy2⟩:=gY (mid+m - 1 - c) (by omega) (by omega);rw[hz]at hz2;rw[hy]at hy2;cases hz2;cases hy2
    by_cases hlt:qx y z<0
    ·exact hlt
    ·exfalso;refine hp4 c h1 h2 (λy2 z2 h3 h4=>?_);rw[hy']at h3;rw[hz']at h4;cases h3;cases h4;exact hlt
   ·rw[hmrg];generalize hX1e:X.take (pos - a)=X1 at *;generalize hUe:X.drop (pos - a)=U at *;generalize hVe:Y.take (e - m)=V at *;generalize hY2e:Y.drop (e - m)=Y2 at *;have sX1:xj X1:=hX1e▸qbZ hX (List.take_sublist _ _);have sU:xj U:=hUe▸qbZ hX (List.drop_sublist _ _);have sV:xj V:=hVe▸qbZ hY (List.take_sublist _ _);have sY2:xj Y2:=hY2e▸qbZ hY (List.drop_sublist _ _)
    have memX:∀t,t∈X1∨t∈U->t∈X:=λt ht=>by rw[←hXX];exact qF8.2 ht
    have memY:∀t,t∈V∨t∈Y2->t∈Y:=λt ht=>by rw[←hYY];exact qF8.2 ht
    rw[eL0];have ml1:(mrgG X1 V).length=X1.length+V.length:=qj3 _ _ _ rfl;refine qvH (e:=e) (L1:=qn (P++(X1++(V++(U++(Y2++S)))))) (L2:=qn (P++(mrgG X1 V++(U++(Y2++S))))) hlen (by omega) (by omega) (λh1 h2=>?_) (λh=>?_) (λh1 h2=>?_) (λh=>?_) (λh1 h2=>?_) (λh=>?_)
    ·have:=qAy (P:=P++X1) (X:=U) (Y:=V) (S:=Y2++S) (by omega) (by omega) (n:=n) (a:=pos) (m:=m) (b:=e) (by rw[hnl];simp;omega) hlen (by simp;omega) (by simp;omega) (by simp;omega);rw[this];simp
    ·have:U=[]∨V=[]:=by
      by_cases h1:pos<m
      ·right;exact qFZ (by omega)
      ·left;exact qFZ (by omega)
     rcases this with e0|e0<;>subst e0<;>simp
    ·exact ih (X1.length+V.length) (by omega) P X1 V (U++(Y2++S)) n a pos mid rfl (by omega) (by omega) sX1 sV (by rw[hnl];simp;omega) hlen
      (id λt ht=>hokU t (by
       simp only[qF8]at ht;rcases ht with h|h|h|h|h|h
       ·exact .inl h
       ·exact .inr (.inl (memX t (.inl h)))
       ·exact .inr (.inr (.inl (memY t (.inl h))))
       ·exact .inr (.inl (memX t (.inr h)))
       ·exact .inr (.inr (.inl (memY t (.inr h))))
       ·exact .inr (.inr (.inr h)))) ha (by omega) (by omega)
    ·have:X1=[]∨V=[]:=by
      by_cases h1:a<pos
      ·right;exact qFZ (by omega)
      ·left;exact qFZ (by omega)
     rcases this with e0|e0<;>subst e0<;>simp
    ·have:=ih (U.length+Y2.length) (by omega) (P++mrgG X1 V) U Y2 S n mid e b rfl (by omega) (by omega) sU sY2 (by rw[hnl];simp[ml1];omega) hlen
      (id λt ht=>hokU t (by
       simp only[qF8,qfy]at ht;rcases ht with(h|h|h)|h|h|h
       ·exact .inl h
       ·exact .inr (.inl (memX t (.inl h)))
       ·exact .inr (.inr (.inl (memY t (.inl h))))
       ·exact .inr (.inl (memX t (.inr h)))
       ·exact .inr (.inr (.inl (memY t (.inr h))))
       ·exact .inr (.inr (.inr h)))) (by simp[ml1];omega) (by simp[ml1];omega) (by simp[ml1];omega)
     simpa using this
    ·have:U=[]∨Y2=[]:=by
      by_cases h1:mid<e
      ·right;exact qFZ (by omega)
      ·left;exact qFZ (by omega)
     rcases this with e0|e0<;>subst e0<;>simp
  by_cases hmm:mid<m
  ·have d:decide ((m:Int)>(mid:Int))=true:=qGo (by omega);have e5:qFD .i64 (((mid+m:Nat):Int) - (b:Int))=((mid+m - b:Nat):Int):=by rw[qo (by omega) (by omega)];omega
   rw[d,cond_true,e5];exact main (mid+m - b) mid (.inl ⟨hmm,rfl,rfl⟩)
  ·have d:decide ((m:Int)>(mid:Int))=false:=qGp (by omega);rw[d,cond_false];exact main a m (.inr ⟨by omega,rfl,rfl⟩)
def xw(k:Nat):Nat->List Rg->List Rg
 |0,l=>l
 |f+1,l=>if l=[]then[]else qZ (l.take k)++xw k f (l.drop k)
theorem zl(k f:Nat):xw k f []=[]:=by cases f<;>simp[xw]
theorem xM{k f:Nat}{l:List Rg}(h:l≠[]):xw k (f+1) l=qZ (l.take k)++xw k f (l.drop k):=by rw[xw,qGr h]
theorem zP{k f:Nat}{l:List Rg}(h:l.length<=k):xw k (f+1) l=qZ l:=by
 by_cases hl:l=[]
 ·subst hl;simp[xw,qcg]
 ·rw[xM hl,qFP h,qFV h,zl,qGh]
theorem qke(k:Nat):∀(f:Nat) (l:List Rg),(xw k f l).length=l.length
 |0,l=>rfl
 |f+1,l=>by
  by_cases hl:l=[]
  ·subst hl;rw[zl]
  ·rw[xM hl,qFU,vt,qke k f];simp;omega
theorem qj4{k:Nat}{t:Rg}:∀{f:Nat} {l:List Rg},t∈xw k f l->t∈l
 |0,l,h=>h
 |f+1,l,h=>by
  by_cases hl:l=[]
  ·subst hl;rw[zl]at h;exact h
  ·rw[xM hl]at h;rcases qF8.1 h with h|h
   ·exact List.mem_of_mem_take (yb.1 h)
   ·exact List.mem_of_mem_drop (qj4 h)
theorem qaf{k:Nat}(hk:0<k):∀(f g:Nat) (l:List Rg),l.length<=f->l.length<=g->xw k f l=xw k g l:=by
 intro f
 induction f with
 |zero=>
  intro g l h1 h2;obtain rfl:l=[]:=qFZ (by omega);rw[zl,zl]
 |succ f ih=>
  intro g l h1 h2
  by_cases hl:l=[]
  ·subst hl;rw[zl,zl]
  ·have:0<l.length:=List.length_pos_iff.2 hl;obtain⟨g,rfl⟩:∃g',g=g'+1:=⟨g - 1,by omega⟩;rw[xM hl,xM hl,ih g (l.drop k) (by simp;omega) (by simp;omega)]
theorem qpu{n:Nat}(hlen:n<1099511627776){P:MV×List (List AV)->Prop}:∀(d:Nat) (D R:List Rg),R.length=d->n=(D++R).length->AllW (D++R) ->
  Gets (qbz n n 20 (qn (D++xw 20 (R.length+1) R))) P->Gets (qiq n n D.length ((D.length+20:Nat):Int) (qn (D++R))) P:=by
 intro d
 induction d using Nat.strongRecOn with
 |ind d ih=>
  intro D R hd hn hok h;have hnl:n=D.length+R.length:=by rw[hn];simp
  refine qpc _ _ _ _ _ ?_
  by_cases h20:20<=R.length
  ·have d0:decide (((D.length+20:Nat):Int)<=(n:Int))=true:=qGo (by omega);have ht:(R.take 20).length=20:=by simp;omega
   have hRR:R.take 20++R.drop 20=R:=List.take_append_drop _ _;have ins:=qs4 (P0:=D) (X:=R.take 20) (S:=R.drop 20) (n:=n) (a:=D.length) (b:=D.length+20) (by rw[hRR,hn]) hlen (by rw[hRR];exact hok) rfl (by omega);rw[hRR]at ins;have e1:qFD .i64 (((D.length+20:Nat):Int)+20)=((D.length+20+20:Nat):Int):=by rw[qo (by omega) (by omega)];omega
   rw[d0,cond_true,ins,qd,vq,e1];have hl2:(D++qZ (R.take 20)).length=D.length+20:=by rw[qFU,vt,ht]
   have:=ih (R.drop 20).length (by simp;omega) (D++qZ (R.take 20)) (R.drop 20) rfl (by rw[qFU,hl2];simp;omega) (id λt ht=>by
     simp only[qF8,yb]at ht;refine hok _ (qF8.2 ?_);rcases ht with(h|h)|h
     ·exact .inl h
     ·exact .inr (List.mem_of_mem_take h)
     ·exact .inr (List.mem_of_mem_drop h)) (by
     have hne:R≠[]:=by intro e;rw[e]at h20;simp at h20
     rw[xM hne,←qGl,qaf (by omega) R.length ((R.drop 20).length+1) (R.drop 20) (by simp) (by omega)]at h;exact h)
   rw[hl2,qGl]at this;exact this
  ·have d0:decide (((D.length+20:Nat):Int)<=(n:Int))=false:=qGp (by omega);have ins:=qs4 (P0:=D) (X:=R) (S:=[]) (n:=n) (a:=D.length) (b:=n) (by rw[hn];simp) hlen (by simpa using hok) rfl hnl;simp only[qGh]at ins;rw[d0,cond_false,ins,qd,vq];rw[zP (by omega)]at h;exact h
theorem qrv{n bs:Nat}(hlen:n<1099511627776)(hbs:0<bs)(hbn:bs<n){P:MV×List (List AV)->Prop}:∀(d:Nat) (D R:List Rg),R.length=d->n=(D++R).length->AllW (D++R) ->
  Gets (qbz n n ((2*bs:Nat):Int) (qn (D++xw (2*bs) (R.length+1) R))) P->Gets (qip n n bs D.length ((D.length+2*bs:Nat):Int) (qn (D++xw bs (R.length+1) R))) P:=by
 intro d
 induction d using Nat.strongRecOn with
 |ind d ih=>
  intro D R hd hn hok h;have hnl:n=D.length+R.length:=by rw[hn];simp
  refine qpa _ _ _ _ _ _ ?_;have e1:qFD .i64 ((D.length:Int)+(bs:Int))=((D.length+bs:Nat):Int):=by rw[qo (by omega) (by omega)];omega
  have e2:qFD .i64 (2*(bs:Int))=((2*bs:Nat):Int):=by rw[qo (by omega) (by omega)];omega
  have e3:qFD .i64 (((D.length+2*bs:Nat):Int)+((2*bs:Nat):Int))=((D.length+2*bs+2*bs:Nat):Int):=by rw[qo (by omega) (by omega)];omega
  have e4:qFD .i64 ((bs:Int)*2)=((2*bs:Nat):Int):=by rw[qo (by omega) (by omega)];omega
  rw[e1,e2,e3,e4];have okR:∀t,t∈D∨t∈R->RgW t:=λt ht=>hok _ (qF8.2 ht)
  by_cases h2:2*bs<=R.length
  ·have d0:decide (((D.length+2*bs:Nat):Int)<=(n:Int))=true:=qGo (by omega);have hne:R≠[]:=by intro e;rw[e]at h2;simp at h2;omega
   have hne2:R.drop bs≠[]:=by intro e;have:=congrArg qFI e;simp at this;omega
   have ec:xw bs (R.length+1) R=qZ (R.take bs)++(qZ ((R.drop bs).take bs)++xw bs ((R.drop (2*bs)).length+1) (R.drop (2*bs))):=by
    rw[xM hne,qaf hbs R.length (R.length+1) (R.drop bs) (by simp) (by simp;omega),xM hne2,List.drop_drop,
     qaf hbs R.length ((R.drop (2*bs)).length+1) (R.drop (bs+bs)) (by simp) (by simp;omega),show bs+bs=2*bs by omega]
   have l1:(R.take bs).length=bs:=by simp;omega
   have l2:((R.drop bs).take bs).length=bs:=by simp;omega
   have sm:=qsP _ D (qZ (R.take bs)) (qZ ((R.drop bs).take bs)) (xw bs ((R.drop (2*bs)).length+1) (R.drop (2*bs))) n D.length (D.length+bs) (D.length+2*bs) rfl (by rw[vt];omega) (by rw[vt];omega)
    (yU _) (yU _) (by rw[hnl];simp only[qFU,vt,qke,l1,l2];simp;omega) hlen (id λt ht=>okR t (by
     simp only[qF8,yb]at ht;rcases ht with h|h|h|h
     ·exact .inl h
     ·exact .inr (List.mem_of_mem_take h)
     ·exact .inr (List.mem_of_mem_drop (List.mem_of_mem_take h))
     ·exact .inr (List.mem_of_mem_drop (qj4 h)))) rfl (by rw[vt,l1]) (by rw[vt,vt,l1,l2];omega)
   have em:mrgG (qZ (R.take bs)) (qZ ((R.drop bs).take bs))=qZ (R.take (2*bs)):=by
    rw[←qhe,show 2*bs=bs+bs by omega,List.take_add]
   rw[em,←ec]at sm;rw[d0,cond_true,sm,qd,vq];have ht:(R.take (2*bs)).length=2*bs:=by simp;omega
   have hl2:(D++qZ (R.take (2*bs))).length=D.length+2*bs:=by rw[qFU,vt,ht]
   have:=ih (R.drop (2*bs)).length (by simp;omega) (D++qZ (R.take (2*bs))) (R.drop (2*bs)) rfl (by rw[qFU,hl2];simp;omega) (id λt ht=>okR t (by
     simp only[qF8,yb]at ht;rcases ht with(h|h)|h
     ·exact .inl h
     ·exact .inr (List.mem_of_mem_take h)
     ·exact .inr (List.mem_of_mem_drop h))) (by
     rw[xM hne,←qGl,qaf (by omega) R.length ((R.drop (2*bs)).length+1) (R.drop (2*bs)) (by simp) (by omega)]at h;exact h)
   rw[hl2,qGl]at this;exact this
  ·have d0:decide (((D.length+2*bs:Nat):Int)<=(n:Int))=false:=qGp (by omega);rw[d0,cond_false];rw[zP (by omega)]at h
   by_cases h1:bs<R.length
   ·have d1:decide (((D.length+bs:Nat):Int)<(n:Int))=true:=qGo (by omega);have hne:R≠[]:=by intro e;rw[e]at h1;simp at h1
    have l1:(R.take bs).length=bs:=by simp;omega
    have ec:xw bs (R.length+1) R=qZ (R.take bs)++(qZ (R.drop bs)++[]):=by
     rw[xM hne,qaf hbs R.length (R.length+1) (R.drop bs) (by simp) (by simp;omega),zP (by simp;omega),qGh]
    have sm:=qsP _ D (qZ (R.take bs)) (qZ (R.drop bs)) [] n D.length (D.length+bs) n rfl (by rw[vt];omega) (by rw[vt];simp;omega)
     (yU _) (yU _) (by rw[hnl];simp only[qFU,vt,l1];simp;omega) hlen (id λt ht=>okR t (by
      simp only[qF8,yb]at ht;rcases ht with h|h|h|h
      ·exact .inl h
      ·exact .inr (List.mem_of_mem_take h)
      ·exact .inr (List.mem_of_mem_drop h)
      ·cases h)) rfl (by rw[vt,l1]) (by rw[vt,vt,l1];simp;omega)
    have em:mrgG (qZ (R.take bs)) (qZ (R.drop bs))=qZ R:=by rw[←qhe,List.take_append_drop]
    rw[em,←ec,qGh]at sm;rw[d1,cond_true,sm,qd,vq];exact h
   ·have d1:decide (((D.length+bs:Nat):Int)<(n:Int))=false:=qGp (by omega);rw[d1,cond_false];rw[zP (by omega)];exact h
theorem qpt{l:List Rg}{n:Nat}(hn:n=l.length)(hlen:n<1099511627776)(hok:AllW l):∀(d bs:Nat),n - bs=d->0<bs->Gets (qbz n n bs (qn (xw bs (l.length+1) l))) (·=(.unit,qn (qZ l))):=by
 intro d
 induction d using Nat.strongRecOn with
 |ind d ih=>
  intro bs hd hbs;refine qpb _ _ _ _ ?_
  by_cases hb:bs<n
  ·have d0:decide ((bs:Int)<(n:Int))=true:=qGo (by omega);have e2:qFD .i64 (2*(bs:Int))=((2*bs:Nat):Int):=by rw[qo (by omega) (by omega)];omega
   rw[d0,cond_true,e2];have:=qrv (n:=n) (bs:=bs) hlen hbs hb (P:=(·=(.unit,qn (qZ l)))) _ [] l rfl (by simpa using hn) (by simpa using hok) (by simpa using ih (n - 2*bs) (by omega) (2*bs) rfl (by omega))
   simpa using this
  ·have d0:decide ((bs:Int)<(n:Int))=false:=qGp (by omega);rw[d0,cond_false,zP (by omega)];simp
theorem qxX{l:List Rg}{n:Nat}(hn:n=l.length)(hlen:n<1099511627776)(hok:AllW l):EVm (EV cfg) 56 [.ms 0 0 n,ahF] 2 (qn l)=some (.unit,qn (qZ l)):=by
 have h98:EVm (EV cfg) 86 [.ms 0 0 n,.int .i64 n,ahF] 2 (qn l)=some (.unit,qn (qZ l)):=by
  apply Gets.get;refine qvL _ _ _ ?_;have:=qpu (n:=n) hlen (P:=(·=(.unit,qn (qZ l)))) _ [] l rfl (by simpa using hn) (by simpa using hok) (by simpa using qpt hn hlen hok _ 20 rfl (by omega))
  simpa using this
 apply Gets.get;refine qvO _ _ ?_;rw[h98];simp
end Go.Proofs.YtgleolmhpmljhaaGreat
end
noncomputable section
namespace Go.Av
def tg(l:List Tm)(i:Nat):Tm:=l.getD i (.mk 0 0 [] [])
theorem vj{l:List Tm}{i:Nat}{x:Tm}(h:l[i]? =some x):tg l i=x:=by simp[tg,List.getD,h]
theorem y8{l:List Tm}{i j:Nat}(hi:i<l.length)(hj:j<l.length)(k:Nat):tg (vI l i j) k=if k=j then tg l i else if k=i then tg l j else tg l k:=by
 have e:=qpr (qFE hi) (qFE hj);have hx:tg l i=l[i]:=vj (qFE hi);have hy:tg l j=l[j]:=vj (qFE hj);rw[e]
 by_cases h1:k=j
 ·subst h1;rw[qGq rfl,hx];exact vj (List.getElem?_set_self (by simpa using hj))
 rw[qGr h1]
 by_cases h2:k=i
 ·subst h2;rw[qGq rfl,hy];refine vj ?_;rw[List.getElem?_set_ne (λh=>h1 h.symm),List.getElem?_set_self hi]
 rw[qGr h2];unfold tg;rw[List.getD_eq_getElem?_getD,List.getD_eq_getElem?_getD,List.getElem?_set_ne (λh=>h1 h.symm),List.getElem?_set_ne (λh=>h2 h.symm)]
inductive Sw (a b:Nat):List Tm->List Tm->Prop
 |refl (l:List Tm):Sw a b l l
 |step {l m:List Tm} (i j:Nat):Sw a b l m->a<=i->i<b->a<=j->j<b->Sw a b l (vI m i j)
theorem Sw.one{a b:Nat}{l:List Tm}(i j:Nat)(h1:a<=i)(h2:i<b)(h3:a<=j)(h4:j<b):Sw a b l (vI l i j):=.step i j (.refl l) h1 h2 h3 h4
theorem Sw.trans{a b:Nat}{l m n:List Tm}(h:Sw a b l m)(g:Sw a b m n):Sw a b l n:=by
 induction g with
 |refl=>exact h
 |step i j _ h1 h2 h3 h4 ih=>exact .step i j ih h1 h2 h3 h4
theorem Sw.mono{a b c d:Nat}{l m:List Tm}(h:Sw a b l m)(hc:c<=a)(hd:b<=d):Sw c d l m:=by
 induction h with
 |refl=>exact .refl _
 |step i j _ h1 h2 h3 h4 ih=>exact .step i j ih (by omega) (by omega) (by omega) (by omega)
theorem Sw.perm{a b:Nat}{l m:List Tm}(h:Sw a b l m):m.Perm l:=by
 induction h with
 |refl=>exact List.Perm.refl _
 |step i j _ _ _ _ _ ih=>exact(vO _ _ _).trans ih
theorem Sw.len{a b:Nat}{l m:List Tm}(h:Sw a b l m):m.length=l.length:=h.perm.length_eq
theorem Sw.out{a b:Nat}{l m:List Tm}(h:Sw a b l m)(hb:b<=l.length){k:Nat}(hk:k<a∨b<=k):tg m k=tg l k:=by
 induction h with
 |refl=>rfl
 |step i j hs h1 h2 h3 h4 ih=>
  have:=hs.len;rw[y8 (by omega) (by omega),qGr (by omega),qGr (by omega),ih]
theorem Sw.all{a b c d:Nat}{l m:List Tm}(h:Sw a b l m)(hb:b<=l.length)(hc:c<=a)(hd:b<=d){Q:Tm->Prop}(hq:∀k,c<=k->k<d->Q (tg l k)):∀k,c<=k->k<d->Q (tg m k):=by
 induction h with
 |refl=>exact hq
 |step i j hs h1 h2 h3 h4 ih=>
  intro k hk1 hk2;have:=hs.len;rw[y8 (by omega) (by omega)]
  by_cases e1:k=j
  ·rw[qGq e1];exact ih i (by omega) (by omega)
  rw[qGr e1]
  by_cases e2:k=i
  ·rw[qGq e2];exact ih j (by omega) (by omega)
  rw[qGr e2];exact ih k hk1 hk2
def Srt(a b:Nat)(l:List Tm):Prop:=∀i j,a<=i->i<=j->j<b->cmpT (tg l i) (tg l j)<=0
def Lb(a b:Nat)(l:List Tm):Prop:=0<a->∀k,a<=k->k<b->cmpT (tg l (a - 1)) (tg l k)<=0
theorem Sw.lb{a b:Nat}{l m:List Tm}(h:Sw a b l m)(hb:b<=l.length)(hl:Lb a b l):Lb a b m:=by
 intro h0;rw[h.out hb (k:=a - 1) (by omega)];exact h.all hb (qFH _) (qFH _) (Q:=λx=>cmpT (tg l (a - 1)) x<=0) (hl h0)
theorem yT{x y:Tm}(h:¬cmpT y x<0):cmpT x y<=0:=by have:=qdy x y;omega
theorem qw9{x y:Tm}(h:cmpT y x<0):cmpT y x<=0:=by omega
def Ins(a j i:Nat)(l:List Tm):Prop:=∀p q,a<=p->p<=q->q<=i->q≠j->cmpT (tg l p) (tg l q)<=0
theorem Ins.start{a i:Nat}{l:List Tm}(h:Srt a i l):Ins a i i l:=λp q h1 h2 h3 h4=>h p q h1 h2 (by omega)
theorem Ins.step{a j i:Nat}{l:List Tm}(h:Ins a (j+1) i l)(ha:a<j+1)(hji:j+1<=i)(hi:i<l.length)(hc:cmpT (tg l (j+1)) (tg l j)<0):Ins a j i (vI l (j+1) j):=by
 intro p q h1 h2 h3 h4;rw[y8 (by omega) (by omega),y8 (by omega) (by omega),qGr h4]
 by_cases e1:q=j+1
 ·subst e1;rw[qGq rfl]
  by_cases e2:p=j
  ·subst e2;rw[qGq rfl];omega
  rw[qGr e2]
  by_cases e3:p=j+1
  ·subst e3;rw[qGq rfl,xS];omega
  rw[qGr e3];exact h p j h1 (by omega) (by omega) (by omega)
 rw[qGr e1]
 by_cases e2:p=j
 ·subst e2;rw[qGq rfl];exact h _ q (by omega) (by omega) h3 e1
 rw[qGr e2]
 by_cases e3:p=j+1
 ·subst e3;rw[qGq rfl];exact h _ q (by omega) (by omega) h3 e1
 rw[qGr e3];exact h p q h1 h2 h3 e1
theorem Ins.done{a j i:Nat}{l:List Tm}(h:Ins a j i l)(hc:j<=a∨∃k,j=k+1∧a<=k∧¬cmpT (tg l j) (tg l k)<0):Srt a (i+1) l:=by
 intro p q h1 h2 h3
 by_cases e:q=j
 ·subst e
  by_cases e2:p=q
  ·subst e2;rw[xS];omega
  rcases hc with hc|⟨k,rfl,hk,hc⟩
  ·omega
  exact yp (h p k h1 (by omega) (by omega) (by omega)) (yT hc)
 exact h p q h1 h2 (by omega) e
theorem Srt.empty{a b:Nat}{l:List Tm}(h:b<=a+1):Srt a b l:=λp q h1 h2 h3=>by
 have:p=q:=by omega
 subst this;rw[xS];omega
theorem Srt.snoc{a i:Nat}{l:List Tm}(h:Srt a (i+1) l)(hc:¬cmpT (tg l (i+1)) (tg l i)<0)(ha:a<=i):Srt a (i+1+1) l:=by
 intro p q h1 h2 h3
 by_cases e:q=i+1
 ·subst e
  by_cases e2:p=i+1
  ·subst e2;rw[xS];omega
  exact yp (h p i h1 (by omega) (by omega)) (yT hc)
 exact h p q h1 h2 (by omega)
theorem Srt.congr{a b:Nat}{l m:List Tm}(h:Srt a b l)(e:∀k,a<=k->k<b->tg m k=tg l k):Srt a b m:=λp q h1 h2 h3=>by
 rw[e p h1 (by omega),e q (by omega) h3];exact h p q h1 h2 h3
theorem Srt.join{a c b:Nat}{l:List Tm}(h1:Srt a c l)(h2:Srt c b l)(h:∀i j,a<=i->i<c->c<=j->j<b->cmpT (tg l i) (tg l j)<=0):Srt a b l:=by
 intro p q hp hpq hq
 by_cases e:q<c
 ·exact h1 p q hp hpq e
 by_cases e2:p<c
 ·exact h p q hp e2 (by omega) hq
 exact h2 p q (by omega) hpq hq
def Hp(f lo hi r:Nat)(l:List Tm):Prop:=
 (∀k c,lo<=k->k≠r->(c=2*k+1∨c=2*k+2)->c<hi->cmpT (tg l (f+c)) (tg l (f+k))<=0) ∧
 (∀k c,lo<=k->(r=2*k+1∨r=2*k+2)->(c=2*r+1∨c=2*r+2)->c<hi->cmpT (tg l (f+c)) (tg l (f+k))<=0)
def Heap(f lo hi:Nat)(l:List Tm):Prop:=∀k c,lo<=k->(c=2*k+1∨c=2*k+2)->c<hi->cmpT (tg l (f+c)) (tg l (f+k))<=0
theorem Hp.step{f lo hi r c:Nat}{l:List Tm}(h:Hp f lo hi r l)(hc:c=2*r+1∨c=2*r+2)(hch:c<hi)(hf:f+hi<=l.length)(hlt:cmpT (tg l (f+r)) (tg l (f+c))<0)(hlo:lo<=r)(hmax:∀d,(d=2*r+1∨d=2*r+2)->d<hi->cmpT (tg l (f+d)) (tg l (f+c))<=0):Hp f lo hi c (vI l (f+r) (f+c)):=by
 have sw:∀k,tg (vI l (f+r) (f+c)) (f+k)=if k=c then tg l (f+r)else if k=r then tg l (f+c)else tg l (f+k):=λk=>by
  rw[y8 (by omega) (by omega)]
  by_cases h1:k=c
  ·rw[qGq h1,qGq (by omega)]
  rw[qGr h1,qGr (by omega)]
  by_cases h2:k=r
  ·rw[qGq h2,qGq (by omega)]
  rw[qGr h2,qGr (by omega)]
 obtain⟨h1,h2⟩:=h;refine⟨λk d hk hkc hd hdh=>?_,λk d hk hkc hd hdh=>?_⟩
 ·rw[sw,sw,qGr hkc]
  by_cases e1:k=r
  ·subst e1;rw[qGq rfl]
   by_cases e2:d=c
   ·rw[qGq e2];omega
   rw[qGr e2,qGr (by omega)];exact hmax d hd hdh
  rw[qGr e1,qGr (by omega)]
  by_cases e2:d=r
  ·subst e2;rw[qGq rfl];exact h2 k c hk hd hc hch
  rw[qGr e2];exact h1 k d hk e1 hd hdh
 ·have:k=r:=by omega
  subst this;rw[sw,sw,qGr (by omega),qGr (by omega),qGr (by omega),qGq rfl];exact h1 c d (by omega) (by omega) hd hdh
theorem Hp.done{f lo hi r:Nat}{l:List Tm}(h:Hp f lo hi r l)(hr:∀c,(c=2*r+1∨c=2*r+2)->c<hi->cmpT (tg l (f+c)) (tg l (f+r))<=0):Heap f lo hi l:=by
 intro k c hk hc hch
 by_cases e:k=r
 ·subst e;exact hr c hc hch
 exact h.1 k c hk e hc hch
theorem Heap.hp{f lo hi:Nat}{l:List Tm}(h:Heap f (lo+1) hi l):Hp f lo hi lo l:=
 ⟨λk c hk hne hc hch=>h k c (by omega) hc hch,λk c hk hr hc hch=>by omega⟩
theorem Heap.top {f hi : Nat} {l : List Tm} (h : Heap f 0 hi l) : ∀ (n k : Nat), k ≤ n → k < hi → cmpT (tg l (f + k)) (tg l (f + 0)) ≤ 0 := by
  intro n
  induction n with
  | zero => intro k hk _; obtain rfl : k = 0 := by omega
            rw [xS]; omega
  | succ n ih =>
    intro k hk hh
    by_cases e : k = 0
    · subst e; rw [xS]; omega
    exact yp (h ((k - 1) / 2) k (Nat.zero_le _) (by omega) hh) (ih _ (by omega) (by omega))
theorem Srt.mono{a b c:Nat}{l:List Tm}(h:Srt a c l)(hb:b<=c):Srt a b l:=λp q h1 h2 h3=>h p q h1 h2 (by omega)
def SwM(X:List (List AV))(a b:Nat)(Q:List Tm->Prop)(l:List Tm)(r:MV×List (List AV)):Prop:=∃l':List Tm,Sw a b l l'∧Q l'∧r=(.unit,qE X l')
theorem SwM.trans{X:List (List AV)}{a b:Nat}{Q:List Tm->Prop}{l l':List Tm}{r:MV×List (List AV)}(h:SwM X a b Q l' r)(p:Sw a b l l'):SwM X a b Q l r:=by
 obtain⟨l2,h2,hq,rfl⟩:=h;exact⟨l2,p.trans h2,hq,rfl⟩
def SwD(X:List (List AV))(a b:Nat)(Q:List Tm->AV->Prop)(l:List Tm)(r:AV×List (List AV)):Prop:=∃(l':List Tm) (v:AV),Sw a b l l'∧Q l' v∧r=(v,qE X l')
theorem SwD.trans{X:List (List AV)}{a b:Nat}{Q:List Tm->AV->Prop}{l l':List Tm}{r:AV×List (List AV)}(h:SwD X a b Q l' r)(p:Sw a b l l'):SwD X a b Q l r:=by
 obtain⟨l2,v,h2,hq,rfl⟩:=h;exact⟨l2,v,p.trans h2,hq,rfl⟩
end Go.Av
namespace Go.Proofs.YtgleolmhpmljhaaGreat
open Go.Av
variable {X : List (List AV)}
theorem quR{n a b i:Nat}(hn:n<1099511627776){P:MV×List (List AV)->Prop}:∀(j:Nat) (l:List Tm),l.length=n->q8 l->a<=j->j<=i->i<b->b<=n->Ins a j i l ->
  (∀l':List Tm,Sw a b l l'->Srt a (i+1) l'->Gets (qcV n a b ((i+1:Nat):Int) (qE X l')) P)->Gets (qiI n a b (i:Int) (j:Int) (qE X l)) P:=by
 intro j
 induction j with
 |zero=>
  intro l hl hok hj hji hi hbn hI h;refine qg7 _ _ _ _ _ _ ?_;unfold rd4 ck4 st4;rw[qGp (by omega),wr1 (by omega)];exact h l (.refl _) (hI.done (.inl (by omega)))
 |succ j ih=>
  intro l hl hok hj hji hi hbn hI h;refine qg7 _ _ _ _ _ _ ?_;unfold rd4 ck4 st4
  by_cases ha:a<j+1
  case neg=>
   rw[qGp (by omega),wr1 (by omega)];exact h l (.refl _) (hI.done (.inl (by omega)))
  obtain⟨y,hy⟩:=qM (l:=l) (i:=j+1) (by omega);obtain⟨x,hx⟩:=qM (l:=l) (i:=j) (by omega);have hc:=vS (hok.at hy) (hok.at hx);rw[qGo (show((j+1:Nat):Int)>(a:Int) by omega),wr0 (by omega),wr1 (show i<4398046511104 by omega)];simp -implicitDefEqProofs only[cond_true,qd,qf,show qFR 4 4=true from rfl,qi,qh,qL,qB,qe,rdB (show j+1<n by omega),rdB (show j<n by omega),rdG hy,rdG hx,hc]
  by_cases hlt:cmpT y x<0
  ·rw[qGo hlt];simp -implicitDefEqProofs only[cond_true,qd,qf,show qFR 4 4=true from rfl,qL,rdB (show j+1<n by omega),rdB (show j<n by omega),rdG hy,rdG hx,sw2 hy hx,sw4 hy hx,sw5 hy hx,sw3 hy hx];refine ih _ (by rw[xG];exact hl) (hok.perm (vO _ _ _)) (by omega) (by omega) hi hbn (hI.step ha hji (by omega) (by rw[vj hy,vj hx];exact hlt)) ?_
   intro l' hp;exact h l' (.trans (.one _ _ (by omega) (by omega) (by omega) (by omega)) hp)
  ·rw[qGp hlt];exact h l (.refl _) (hI.done (.inr ⟨j,rfl,by omega,by rw[vj hy,vj hx];exact hlt⟩))
theorem quQ{n a b:Nat}(hn:n<1099511627776)(hb:b<=n):∀(d i:Nat) (l:List Tm),l.length=n->q8 l->b<=i+d->a<i->Srt a i l->Gets (qcV n a b (i:Int) (qE X l)) (SwM X a b (Srt a b) l):=by
 intro d
 induction d with
 |zero=>
  intro i l hl hok hd hai hs;refine qg8 _ _ _ _ _ ?_;rw[qGp (by omega)];exact⟨_,rfl,l,.refl _,hs.mono (by omega),rfl⟩
 |succ d ih=>
  intro i l hl hok hd hai hs;refine qg8 _ _ _ _ _ ?_
  by_cases hib:i<b
  case neg=>
   rw[qGp (by omega)];exact⟨_,rfl,l,.refl _,hs.mono (by omega),rfl⟩
  rw[qGo (show(i:Int)<(b:Int) by omega)];refine quR hn i l hl hok (by omega) (qFH _) hib hb (.start hs) ?_;intro l' hp hs';exact(ih (i+1) l' (by rw[hp.len];exact hl) (hok.perm hp.perm) (by omega) (by omega) hs').mono λr hr=>hr.trans hp
theorem qs3{n a b:Nat}(hn:n<1099511627776)(hb:b<=n)(ha:a<=n){l:List Tm}(hl:l.length=n)(hok:q8 l):
  Gets (EVm (EV cfg) 88 [.ms 0 0 n,.int .i64 (a:Int),.int .i64 (b:Int),cmpF] 4 (qE X l)) (SwM X a b (Srt a b) l):=by
 refine qyK _ _ _ _ ?_;rw[wr1 (by omega)];exact quQ hn hb b (a+1) l hl hok (by omega) (by omega) (.empty (qFH _))
theorem qvZ{n a b:Nat}(hn:n<1099511627776)(hb:b<=n):∀(d i j:Nat) (l:List Tm),l.length=n->q8 l->j<=i+d->j<b->a<=i->Gets (qiF n (i:Int) (j:Int) (qE X l)) (SwM X a b (λ_=>True) l):=by
 intro d
 induction d with
 |zero=>
  intro i j l hl hok hd hj hai;refine qg4 _ _ _ _ ?_;unfold rd4 ck4 st4;rw[qGp (by omega)];exact⟨_,rfl,l,.refl _,trivial,rfl⟩
 |succ d ih=>
  intro i j l hl hok hd hj hai;refine qg4 _ _ _ _ ?_;unfold rd4 ck4 st4
  by_cases hij:i<j
  case neg=>
   rw[qGp (by omega)];exact⟨_,rfl,l,.refl _,trivial,rfl⟩
  obtain⟨j,rfl⟩:∃k,j=k+1:=⟨j - 1,by omega⟩;obtain⟨x,hx⟩:=qM (l:=l) (i:=i) (by omega);obtain⟨y,hy⟩:=qM (l:=l) (i:=j+1) (by omega);rw[qGo (show(i:Int)<((j+1:Nat):Int) by omega),wr0 (by omega),wr1 (by omega)];simp -implicitDefEqProofs only[cond_true,qd,qf,show qFR 4 4=true from rfl,qi,qh,qL,rdB (show i<n by omega),rdB (show j+1<n by omega),rdG hx,rdG hy,sw2 hx hy,sw4 hx hy,sw5 hx hy,sw3 hx hy]
  exact(ih (i+1) j _ (by rw[xG];exact hl) (hok.perm (vO _ _ _)) (by omega) (by omega) (by omega)).mono λr hr=>hr.trans (.one _ _ (by omega) (by omega) (by omega) (by omega))
theorem qAz{n a b:Nat}(hn:n<1099511627776)(hb:b<=n)(hab:a<b){l:List Tm}(hl:l.length=n)(hok:q8 l):
  Gets (EVm (EV cfg) 92 [.ms 0 0 n,.int .i64 (a:Int),.int .i64 (b:Int),cmpF] 4 (qE X l)) (SwM X a b (λ_=>True) l):=by
 refine qx8 _ _ _ _ ?_;obtain⟨b,rfl⟩:∃k,b=k+1:=⟨b - 1,by omega⟩;rw[wr0 (by omega)];exact qvZ hn hb b a b l hl hok (by omega) (by omega) (qFH _)
variable {X : List (List AV)}
theorem qtF{n f hi lo:Nat}(hn:n<1099511627776)(hf:f+hi<=n):∀(d r:Nat) (l:List Tm),l.length=n->q8 l->hi<=r+d->r<=n->lo<=r->Hp f lo hi r l->Gets (qaV n hi f (r:Int) (qE X l)) (SwM X f (f+hi) (Heap f lo hi) l):=by
 intro d
 induction d with
 |zero=>
  intro r l hl hok hd hr hlo hp;refine qgb _ _ _ _ _ ?_;unfold rd4 ck4 st4;have w1:qFD .i64 ((2:Int)*(r:Int))=((2*r:Nat):Int):=by rw[qo (by omega) (by omega)];omega
  have w2:qFD .i64 (((2*r:Nat):Int)+1)=((2*r+1:Nat):Int):=by rw[qo (by omega) (by omega)];omega
  rw[w1,w2,qGo (show((2*r+1:Nat):Int)≥(hi:Int) by omega)];exact⟨_,rfl,l,.refl _,hp.done λc hc hch=>by omega,rfl⟩
 |succ d ih=>
  intro r l hl hok hd hr hlo hp;refine qgb _ _ _ _ _ ?_;unfold rd4 ck4 st4;have w1:qFD .i64 ((2:Int)*(r:Int))=((2*r:Nat):Int):=by rw[qo (by omega) (by omega)];omega
  have w2:qFD .i64 (((2*r:Nat):Int)+1)=((2*r+1:Nat):Int):=by rw[qo (by omega) (by omega)];omega
  by_cases h1:hi<=2*r+1
  ·rw[w1,w2,qGo (show((2*r+1:Nat):Int)≥(hi:Int) by omega)];exact⟨_,rfl,l,.refl _,hp.done λc hc hch=>by omega,rfl⟩
  have w3:qFD .i64 (((2*r+1:Nat):Int)+1)=((2*r+2:Nat):Int):=by rw[qo (by omega) (by omega)];omega
  have w4:qFD .i64 ((f:Int)+((2*r+1:Nat):Int))=((f+(2*r+1):Nat):Int):=by rw[qo (by omega) (by omega)];omega
  have w5:qFD .i64 (((f+(2*r+1):Nat):Int)+1)=((f+(2*r+2):Nat):Int):=by rw[qo (by omega) (by omega)];omega
  have w6:qFD .i64 ((f:Int)+((2*r+2:Nat):Int))=((f+(2*r+2):Nat):Int):=by rw[qo (by omega) (by omega)];omega
  have w7:qFD .i64 ((f:Int)+(r:Int))=((f+r:Nat):Int):=by rw[qo (by omega) (by omega)];omega
  simp only[w1,w2,w3,w4,w5,w6,w7];rw[qGp (show ¬((2*r+1:Nat):Int)≥(hi:Int) by omega)];obtain⟨z,hz⟩:=qM (l:=l) (i:=f+r) (by omega);obtain⟨x,hx⟩:=qM (l:=l) (i:=f+(2*r+1)) (by omega);have zz:=vj hz;have xx:=vj hx;have go:∀c:Nat,(c=2*r+1∨c=2*r+2)->c<hi->cmpT z (tg l (f+c))<0->(∀d,(d=2*r+1∨d=2*r+2)->d<hi->cmpT (tg l (f+d)) (tg l (f+c))<=0) ->
    Gets (qaV n hi f (c:Int) (qE X (vI l (f+r) (f+c)))) (SwM X f (f+hi) (Heap f lo hi) l):=λc h1 h2 h3 h4=>
   (ih c _ (by rw[xG];exact hl) (hok.perm (vO _ _ _)) (by omega) (by omega) (by omega) (hp.step h1 h2 (by omega) (by rw[zz];exact h3) hlo h4)).mono λr hr=>hr.trans (.one _ _ (by omega) (by omega) (by omega) (by omega))
  have done:(∀c,(c=2*r+1∨c=2*r+2)->c<hi->cmpT (tg l (f+c)) z<=0)->SwM X f (f+hi) (Heap f lo hi) l (MV.unit,qE X l):=λh=>⟨l,.refl _,hp.done λc hc hch=>by rw[zz];exact h c hc hch,rfl⟩
  have hcx:=vS (hok.at hz) (hok.at hx)
  by_cases h2:2*r+2<hi
  ·obtain⟨y,hy⟩:=qM (l:=l) (i:=f+(2*r+2)) (by omega);have yy:=vj hy;have hcy:=vS (hok.at hz) (hok.at hy);have hxy:=vS (hok.at hx) (hok.at hy);rw[qGo (show((2*r+2:Nat):Int)<(hi:Int) by omega)];simp -implicitDefEqProofs only[cond_true,cond_false,qd,qf,show qFR 4 4=true from rfl,qi,qh,qB,qe,rdB (show f+(2*r+1)<n by omega),rdB (show f+(2*r+2)<n by omega),rdG hx,rdG hy,hxy]
   by_cases hlt:cmpT x y<0
   ·rw[qGo hlt];simp -implicitDefEqProofs only[cond_true,qd,qf,show qFR 4 4=true from rfl,qi,qh,qL,qB,qe,rdB (show f+r<n by omega),rdB (show f+(2*r+2)<n by omega),rdG hz,rdG hy,hcy]
    by_cases hlt2:cmpT z y<0
    ·rw[qGo hlt2];simp -implicitDefEqProofs only[cond_true,cond_false,qFW,qd,qf,show qFR 4 4=true from rfl,qL,rdB (show f+r<n by omega),rdB (show f+(2*r+2)<n by omega),rdG hz,rdG hy,sw2 hz hy,sw4 hz hy,sw5 hz hy,sw3 hz hy];exact go (2*r+2) (.inr rfl) (by omega) (by rw[yy];exact hlt2) λd hd _=>by
      rcases hd with rfl|rfl
      ·rw[xx,yy];exact qw9 hlt
      ·rw[xS];omega
    ·rw[qGp hlt2];refine⟨_,rfl,done λd hd _=>?_⟩;rcases hd with rfl|rfl
     ·rw[xx];exact yp (qw9 hlt) (yT hlt2)
     ·rw[yy];exact yT hlt2
   ·rw[qGp hlt];simp -implicitDefEqProofs only[cond_true,cond_false,qd,qf,show qFR 4 4=true from rfl,qi,qh,qL,qB,qe,rdB (show f+r<n by omega),rdB (show f+(2*r+1)<n by omega),rdG hz,rdG hx,hcx]
    by_cases hlt2:cmpT z x<0
    ·rw[qGo hlt2];simp -implicitDefEqProofs only[cond_true,cond_false,qFW,qd,qf,show qFR 4 4=true from rfl,qL,rdB (show f+r<n by omega),rdB (show f+(2*r+1)<n by omega),rdG hz,rdG hx,sw2 hz hx,sw4 hz hx,sw5 hz hx,sw3 hz hx];exact go (2*r+1) (.inl rfl) (by omega) (by rw[xx];exact hlt2) λd hd _=>by
      rcases hd with rfl|rfl
      ·rw[xS];omega
      ·rw[xx,yy];exact yT hlt
    ·rw[qGp hlt2];refine⟨_,rfl,done λd hd _=>?_⟩;rcases hd with rfl|rfl
     ·rw[xx];exact yT hlt2
     ·rw[yy];exact yp (yT hlt) (yT hlt2)
  ·rw[qGp (show ¬((2*r+2:Nat):Int)<(hi:Int) by omega)];simp -implicitDefEqProofs only[cond_true,cond_false,qd,qf,show qFR 4 4=true from rfl,qi,qh,qL,qB,qe,rdB (show f+r<n by omega),rdB (show f+(2*r+1)<n by omega),rdG hz,rdG hx,hcx]
   by_cases hlt2:cmpT z x<0
   ·rw[qGo hlt2];simp -implicitDefEqProofs only[cond_true,cond_false,qFW,qd,qf,show qFR 4 4=true from rfl,qL,rdB (show f+r<n by omega),rdB (show f+(2*r+1)<n by omega),rdG hz,rdG hx,sw2 hz hx,sw4 hz hx,sw5 hz hx,sw3 hz hx];exact go (2*r+1) (.inl rfl) (by omega) (by rw[xx];exact hlt2) λd hd hdh=>by
     have:d=2*r+1:=by omega
     subst this;rw[xS];omega
   ·rw[qGp hlt2];refine⟨_,rfl,done λd hd hdh=>?_⟩;have:d=2*r+1:=by omega
    subst this;rw[xx];exact yT hlt2
theorem qpz{n f hi r:Nat}(hn:n<1099511627776)(hf:f+hi<=n)(hr:r<=n){l:List Tm}(hl:l.length=n)(hok:q8 l)(hp:Hp f r hi r l):
  Gets (EVm (EV cfg) 122 [.ms 0 0 n,.int .i64 (r:Int),.int .i64 (hi:Int),.int .i64 (f:Int),cmpF] 4 (qE X l)) (SwM X f (f+hi) (Heap f r hi) l):=by
 refine qvR _ _ _ _ _ ?_;exact qtF hn hf hi r l hl hok (by omega) hr (qFH _) hp
theorem qwT{n a b:Nat}(hn:n<1099511627776)(hb:b<=n):∀(j:Nat) (l:List Tm),a+j<=b->l.length=n->q8 l->Heap a 0 j l->Srt (a+j) b l->(∀p q,a<=p->p<a+j->a+j<=q->q<b->cmpT (tg l p) (tg l q)<=0)->Gets (qiG n a ((j:Int) - 1) (qE X l)) (SwM X a b (Srt a b) l):=by
 intro j
 induction j with
 |zero=>
  intro l hj hl hok hh hs ha;refine qg5 _ _ _ _ ?_;unfold rd4 ck4 st4;rw[qGp (by omega)];exact⟨_,rfl,l,.refl _,hs,rfl⟩
 |succ j ih=>
  intro l hj hl hok hh hs ha;refine qg5 _ _ _ _ ?_;unfold rd4 ck4 st4;have e0:(((j+1:Nat):Int) - 1)=(j:Int):=by omega
  have w1:qFD .i64 ((a:Int)+(j:Int))=((a+j:Nat):Int):=by rw[qo (by omega) (by omega)];omega
  have w2:qFD .i64 ((j:Int) - 1)=(j:Int) - 1:=by rw[qo (by omega) (by omega)]
  obtain⟨x,hx⟩:=qM (l:=l) (i:=a) (by omega);obtain⟨y,hy⟩:=qM (l:=l) (i:=a+j) (by omega);have la:(vI l a (a+j)).length=n:=by rw[xG];exact hl
  have sw:∀k,tg (vI l a (a+j)) k=if k=a+j then tg l a else if k=a then tg l (a+j)else tg l k:=y8 (by omega) (by omega)
  have hp:Hp a 0 j 0 (vI l a (a+j)):=by
   refine⟨λk c _ hk hc hcj=>?_,λk c _ hk _ _=>by omega⟩;rw[sw,sw,qGr (by omega),qGr (by omega),qGr (by omega),qGr (by omega)];exact hh k c (Nat.zero_le _) hc (by omega)
  have top:∀p,a<=p->p<a+(j+1)->cmpT (tg l p) (tg l a)<=0:=λp h1 h2=>by
   have:=hh.top (p - a) (p - a) (qFH _) (by omega)
   rwa [show a+(p - a)=p by omega]at this
  have hs1:Srt (a+j) b (vI l a (a+j)):=by
   intro p q h1 h2 h3;rw[sw,sw]
   by_cases e1:p=a+j
   ·rw[qGq e1]
    by_cases e2:q=a+j
    ·rw[qGq e2,xS];omega
    rw[qGr e2,qGr (by omega)];exact ha a q (qFH _) (by omega) (by omega) h3
   rw[qGr e1,qGr (by omega),qGr (by omega),qGr (by omega)];exact hs p q (by omega) h2 h3
  have ha1:∀p q,a<=p->p<a+j->a+j<=q->q<b->cmpT (tg (vI l a (a+j)) p) (tg (vI l a (a+j)) q)<=0:=by
   intro p q h1 h2 h3 h4;rw[sw p,qGr (by omega),sw q]
   by_cases e1:q=a+j
   ·rw[qGq e1]
    by_cases e2:p=a
    ·rw[qGq e2];exact top _ (by omega) (by omega)
    rw[qGr e2];exact top p h1 (by omega)
   rw[qGr e1,qGr (show ¬q=a by omega)]
   by_cases e2:p=a
   ·rw[qGq e2];exact ha _ q (by omega) (by omega) (by omega) h4
   rw[qGr e2];exact ha p q h1 (by omega) (by omega) h4
  have hsf:=qpz (X:=X) (f:=a) (hi:=j) (r:=0) hn (by omega) (by omega) la (hok.perm (vO _ _ _)) hp;simp only[e0,w1,w2];rw[qGo (show(j:Int)≥0 by omega)];simp -implicitDefEqProofs only[cond_true,qd,qf,show qFR 4 4=true from rfl,qi,qh,qL,rdB (show a<n by omega),rdB (show a+j<n by omega),rdG hx,rdG hy,sw2 hx hy,sw4 hx hy,sw5 hx hy,sw3 hx hy]
  refine Gets.bind hsf ?_;rintro r ⟨l2,h2,hq,rfl⟩;simp only[vq];have out:∀k,a+j<=k->tg l2 k=tg (vI l a (a+j)) k:=λk hk=>h2.out (by omega) (.inr hk)
  refine(ih l2 (by omega) (by rw[h2.len];exact la) ((hok.perm (vO _ _ _)).perm h2.perm) hq (hs1.congr λk hk _=>out k hk) ?_).mono λr hr=>hr.trans (.trans (.one _ _ (qFH _) (by omega) (by omega) (by omega)) (h2.mono (qFH _) (by omega)))
  intro p q h3 h4 h5 h6;rw[out q h5];exact h2.all (by omega) (qFH _) (qFH _) (Q:=λx=>cmpT x (tg (vI l a (a+j)) q)<=0) (λk hk1 hk2=>ha1 k q hk1 hk2 h5 h6) p h3 h4
theorem qwU{n a b:Nat}(hn:n<1099511627776)(hb:b<=n)(hab:a<b):∀(j:Nat) (l:List Tm),a+j<=b->l.length=n->q8 l->Heap a j (b - a) l->Gets (qiH n a b ((j:Int) - 1) (qE X l)) (SwM X a b (Srt a b) l):=by
 have w1:qFD .i64 ((b:Int) - (a:Int))=((b - a:Nat):Int):=by rw[qo (by omega) (by omega)];omega
 have w3:qFD .i64 (((b - a:Nat):Int) - 1)=((b - a:Nat):Int) - 1:=by rw[qo (by omega) (by omega)]
 intro j
 induction j with
 |zero=>
  intro l hj hl hok hh;refine qg6 _ _ _ _ _ ?_;rw[qGp (by omega),w1,w3];exact qwT hn hb (b - a) l (by omega) hl hok hh (.empty (by omega)) λp q h1 h2 h3 h4=>by omega
 |succ j ih=>
  intro l hj hl hok hh;refine qg6 _ _ _ _ _ ?_;have e0:(((j+1:Nat):Int) - 1)=(j:Int):=by omega
  have w2:qFD .i64 ((j:Int) - 1)=(j:Int) - 1:=by rw[qo (by omega) (by omega)]
  have hs:=qpz (X:=X) (f:=a) (hi:=b - a) (r:=j) hn (by omega) (by omega) hl hok hh.hp;simp only[e0,w1,w2];rw[qGo (show(j:Int)≥0 by omega)];refine Gets.bind hs ?_;rintro r ⟨l2,h2,hq,rfl⟩;simp only[vq];exact(ih l2 (by omega) (by rw[h2.len];exact hl) (hok.perm h2.perm) hq).mono λr hr=>hr.trans (h2.mono (qFH _) (by omega))
theorem qyR{n a b:Nat}(hn:n<1099511627776)(hb:b<=n)(hab:a<b){l:List Tm}(hl:l.length=n)(hok:q8 l):
  Gets (EVm (EV cfg) 89 [.ms 0 0 n,.int .i64 (a:Int),.int .i64 (b:Int),cmpF] 4 (qE X l)) (SwM X a b (Srt a b) l):=by
 refine qwS _ _ _ _ ?_;have w1:qFD .i64 ((b:Int) - (a:Int))=((b - a:Nat):Int):=by rw[qo (by omega) (by omega)];omega
 have w3:qFD .i64 (((b - a:Nat):Int) - 1)=((b - a - 1:Nat):Int):=by rw[qo (by omega) (by omega)];omega
 have w4:qFD .i64 ((((b - a - 1:Nat):Int)).tdiv 2)=(((b - a - 1) / 2+1:Nat):Int) - 1:=by
  rw[show((2:Int))=((2:Nat):Int)from rfl,qma,qo (by omega) (by omega)];omega
 rw[w1,w3,zH (by decide),w4];simp only[qd,qe];exact qwU hn hb hab ((b - a - 1) / 2+1) l (by omega) hl hok λk c hk hc hch=>by omega
end Go.Proofs.YtgleolmhpmljhaaGreat
end
noncomputable section
namespace Go.Av
def PI(a i j b:Nat)(l:List Tm):Prop:=(∀k,a<k->k<i->cmpT (tg l k) (tg l a)<0)∧(∀k,j<k->k<b->¬cmpT (tg l k) (tg l a)<0)
def Part(a j b:Nat)(l:List Tm):Prop:=(∀k,a<=k->k<j->cmpT (tg l k) (tg l j)<=0)∧(∀k,j<k->k<b->cmpT (tg l j) (tg l k)<=0)
def MidS(a b:Nat)(l:List Tm)(v:AV):Prop:=∃(j:Nat) (c:Bool),a<=j∧j<b∧v= .tup [.int .i64 (j:Int),.bool c]∧Part a j b l
theorem PI.up{a i j b:Nat}{l:List Tm}(h:PI a i j b l)(hc:cmpT (tg l i) (tg l a)<0):PI a (i+1) j b l:=
 ⟨λk h1 h2=>if e:k=i then by subst e;exact hc else h.1 k h1 (by omega),h.2⟩
theorem PI.down{a i j b:Nat}{l:List Tm}(h:PI a i (j+1) b l)(hc:¬cmpT (tg l (j+1)) (tg l a)<0):PI a i j b l:=
 ⟨h.1,λk h1 h2=>if e:k=j+1 then by subst e;exact hc else h.2 k (by omega) h2⟩
theorem PI.swap{a i j b:Nat}{l:List Tm}(h:PI a i (j+1) b l)(hi:¬cmpT (tg l i) (tg l a)<0)(hai:a<i)(hij:i<=j+1)(hl:j+1<l.length)(hj:cmpT (tg l (j+1)) (tg l a)<0):PI a (i+1) j b (vI l i (j+1)):=by
 have sw:=y8 (l:=l) (i:=i) (j:=j+1) (by omega) hl;have ea:tg (vI l i (j+1)) a=tg l a:=by rw[sw,qGr (by omega),qGr (by omega)]
 have hne:i≠j+1:=λe=>hi (by rw[e];exact hj)
 refine⟨λk h1 h2=>?_,λk h1 h2=>?_⟩
 ·rw[ea,sw,qGr (by omega)]
  by_cases e:k=i
  ·rw[qGq e];exact hj
  rw[qGr e];exact h.1 k h1 (by omega)
 ·rw[ea,sw]
  by_cases e:k=j+1
  ·rw[qGq e];exact hi
  rw[qGr e,qGr (by omega)];exact h.2 k (by omega) h2
theorem PI.done{a i j b:Nat}{l:List Tm}(h:PI a i j b l)(hij:j<i)(hl:b<=l.length)(hj:j<b)(ha:a<=j):Part a j b (vI l j a):=by
 have sw:=y8 (l:=l) (i:=j) (j:=a) (by omega) (by omega);have ej:tg (vI l j a) j=tg l a:=by
  rw[sw]
  by_cases e:j=a
  ·subst e;rw[qGq rfl]
  rw[qGr e,qGq rfl]
 refine⟨λk h1 h2=>?_,λk h1 h2=>?_⟩
 ·rw[ej,sw]
  by_cases e:k=a
  ·rw[qGq e];have:=h.1 j (by omega) hij;omega
  rw[qGr e,qGr (by omega)];have:=h.1 k (by omega) (by omega);omega
 ·rw[ej,sw,qGr (by omega),qGr (by omega)];exact yT (h.2 k h1 h2)
def PQ(a i j b:Nat)(y0:Tm)(l:List Tm):Prop:=tg l a=y0∧(∀k,a<k->k<i->¬cmpT (tg l a) (tg l k)<0)∧(∀k,j<k->k<b->cmpT (tg l a) (tg l k)<0)
def EqS(a b:Nat)(y0:Tm)(l:List Tm)(v:AV):Prop:=∃i:Nat,a<i∧i<=b∧v= .int .i64 (i:Int)∧(∀k,a<=k->k<i->cmpT (tg l k) y0<=0)∧(∀k,i<=k->k<b->cmpT y0 (tg l k)<0)
theorem PQ.up{a i j b:Nat}{y0:Tm}{l:List Tm}(h:PQ a i j b y0 l)(hc:¬cmpT (tg l a) (tg l i)<0):PQ a (i+1) j b y0 l:=
 ⟨h.1,λk h1 h2=>if e:k=i then by subst e;exact hc else h.2.1 k h1 (by omega),h.2.2⟩
theorem PQ.down{a i j b:Nat}{y0:Tm}{l:List Tm}(h:PQ a i (j+1) b y0 l)(hc:cmpT (tg l a) (tg l (j+1))<0):PQ a i j b y0 l:=
 ⟨h.1,h.2.1,λk h1 h2=>if e:k=j+1 then by subst e;exact hc else h.2.2 k (by omega) h2⟩
theorem PQ.swap{a i j b:Nat}{y0:Tm}{l:List Tm}(h:PQ a i (j+1) b y0 l)(hi:cmpT (tg l a) (tg l i)<0)(hai:a<i)(hij:i<=j+1)(hl:j+1<l.length)(hj:¬cmpT (tg l a) (tg l (j+1))<0):PQ a (i+1) j b y0 (vI l i (j+1)):=by
 have sw:=y8 (l:=l) (i:=i) (j:=j+1) (by omega) hl;have ea:tg (vI l i (j+1)) a=tg l a:=by rw[sw,qGr (by omega),qGr (by omega)]
 have hne:i≠j+1:=λe=>hj (by rw[←e];exact hi)
 refine⟨ea.trans h.1,λk h1 h2=>?_,λk h1 h2=>?_⟩
 ·rw[ea,sw,qGr (by omega)]
  by_cases e:k=i
  ·rw[qGq e];exact hj
  rw[qGr e];exact h.2.1 k h1 (by omega)
 ·rw[ea,sw]
  by_cases e:k=j+1
  ·rw[qGq e];exact hi
  rw[qGr e,qGr (by omega)];exact h.2.2 k (by omega) h2
theorem PQ.done{a i j b:Nat}{y0:Tm}{l:List Tm}(h:PQ a i j b y0 l)(hij:j<i):(∀k,a<=k->k<i->cmpT (tg l k) y0<=0)∧(∀k,i<=k->k<b->cmpT y0 (tg l k)<0):=by
 obtain⟨h0,h1,h2⟩:=h;rw[←h0];refine⟨λk hk hki=>?_,λk hk hkb=>h2 k (by omega) hkb⟩
 by_cases e:k=a
 ·rw[e,xS];omega
 exact yT (h1 k (by omega) hki)
def TryS(a b:Nat)(l:List Tm)(v:AV):Prop:=∃c:Bool,v= .bool c∧(c=true->Srt a b l)
end Go.Av
namespace Go.Proofs.YtgleolmhpmljhaaGreat
open Go.Av
variable {X : List (List AV)}
theorem qyl{n a b:Nat}(hn:n<1099511627776)(hb:b<=n):∀(m:Nat),
  (∀(i j:Nat) (l:List Tm),j+1 - i<=m->a<i->i<=b->a<=j->j<b->l.length=n->q8 l->PI a i j b l->(i<=j->¬cmpT (tg l i) (tg l a)<0)->Gets (qbE n a (i:Int) (j:Int) (qE X l)) (SwD X a b (MidS a b) l)) ∧
  (∀(i j:Nat) (l:List Tm),j+1 - i<=m->a<i->i<=b->a<=j->j<b->l.length=n->q8 l->PI a i j b l->Gets (qiz n a (j:Int) (i:Int) (qE X l)) (SwD X a b (MidS a b) l)):=by
 intro m
 induction m with
 |zero=>
  have h4:∀(i j:Nat) (l:List Tm),j+1 - i<=0->a<i->i<=b->a<=j->j<b->l.length=n->q8 l->PI a i j b l->(i<=j->¬cmpT (tg l i) (tg l a)<0)->Gets (qbE n a (i:Int) (j:Int) (qE X l)) (SwD X a b (MidS a b) l):=by
   intro i j l hm hai hib haj hjb hl hok hp hq;refine qgS _ _ _ _ _ ?_;unfold zz0 rd4 ck4 st4;obtain⟨x,hx⟩:=qM (l:=l) (i:=j) (by omega);obtain⟨y,hy⟩:=qM (l:=l) (i:=a) (by omega);rw[qGp (show ¬(i:Int)<=(j:Int) by omega),qGo (show(i:Int)>(j:Int) by omega)];simp -implicitDefEqProofs only[cond_true,cond_false,qd,qf,show qFR 4 4=true from rfl,qi,qh,qL,qB,rdB (show j<n by omega),rdB (show a<n by omega),rdG hx,rdG hy,sw2 hx hy,sw4 hx hy,sw5 hx hy,sw3 hx hy]
   exact⟨_,rfl,vI l j a,_,(.one _ _ (by omega) (by omega) (by omega) (by omega)),⟨j,false,haj,hjb,rfl,hp.done (by omega) (by omega) (by omega) haj⟩,rfl⟩
  refine⟨h4,λi j l hm hai hib haj hjb hl hok hp=>?_⟩;refine qgT _ _ _ _ _ ?_;unfold rd4;rw[qGp (show ¬(i:Int)<=(j:Int) by omega)];exact h4 i j l hm hai hib haj hjb hl hok hp λh=>by omega
 |succ m ih=>
  obtain⟨ih4,ih3⟩:=ih;have h4:∀(i j:Nat) (l:List Tm),j+1 - i<=m+1->a<i->i<=b->a<=j->j<b->l.length=n->q8 l->PI a i j b l->(i<=j->¬cmpT (tg l i) (tg l a)<0)->Gets (qbE n a (i:Int) (j:Int) (qE X l)) (SwD X a b (MidS a b) l):=by
   intro i j l hm hai hib haj hjb hl hok hp hq
   by_cases hij:i<=j
   case neg=>exact ih4 i j l (by omega) hai hib haj hjb hl hok hp hq
   obtain⟨j,rfl⟩:∃k,j=k+1:=⟨j - 1,by omega⟩;refine qgS _ _ _ _ _ ?_;unfold zz0 rd4 ck4 st4;obtain⟨x,hx⟩:=qM (l:=l) (i:=j+1) (by omega);obtain⟨y,hy⟩:=qM (l:=l) (i:=a) (by omega);obtain⟨z,hz⟩:=qM (l:=l) (i:=i) (by omega);have hc:=vS (hok.at hx) (hok.at hy);rw[qGo (show(i:Int)<=((j+1:Nat):Int) by omega),qGp (show ¬(i:Int)>((j+1:Nat):Int) by omega),wr0 (by omega),wr1 (by omega)]
   simp -implicitDefEqProofs only[cond_true,cond_false,qd,qf,show qFR 4 4=true from rfl,qi,qh,qL,qB,qe,rdB (show j+1<n by omega),rdB (show a<n by omega),rdG hx,rdG hy,hc]
   by_cases hlt:cmpT x y<0
   ·rw[qGo hlt];simp -implicitDefEqProofs only[cond_true,cond_false,qFW,qd,qf,show qFR 4 4=true from rfl,qi,qh,qL,rdB (show i<n by omega),rdB (show j+1<n by omega),rdG hz,rdG hx,sw2 hz hx,sw4 hz hx,sw5 hz hx,sw3 hz hx];refine qgU _ _ _ _ _ ?_;refine(ih3 (i+1) j _ (by omega) (by omega) (by omega) (by omega) (by omega) (by rw[xG];exact hl) (hok.perm (vO _ _ _)) (hp.swap (hq hij) hai hij (by omega) (by rw[vj hx,vj hy];exact hlt))).mono ?_
    exact λr hr=>hr.trans (.one _ _ (by omega) (by omega) (by omega) (by omega))
   ·rw[qGp hlt];exact ih4 i j l (by omega) hai hib (by omega) (by omega) hl hok (hp.down (by rw[vj hx,vj hy];exact hlt)) λh=>hq (by omega)
  refine⟨h4,λi j l hm hai hib haj hjb hl hok hp=>?_⟩;refine qgT _ _ _ _ _ ?_;unfold rd4
  by_cases hij:i<=j
  case neg=>
   rw[qGp (show ¬(i:Int)<=(j:Int) by omega)];exact h4 i j l hm hai hib haj hjb hl hok hp λh=>by omega
  obtain⟨x,hx⟩:=qM (l:=l) (i:=i) (by omega);obtain⟨y,hy⟩:=qM (l:=l) (i:=a) (by omega);have hc:=vS (hok.at hx) (hok.at hy);rw[qGo (show(i:Int)<=(j:Int) by omega),wr1 (by omega)];simp -implicitDefEqProofs only[cond_true,qd,qf,show qFR 4 4=true from rfl,qi,qh,qB,qe,rdB (show i<n by omega),rdB (show a<n by omega),rdG hx,rdG hy,hc]
  by_cases hlt:cmpT x y<0
  ·rw[qGo hlt];exact ih3 (i+1) j l (by omega) (by omega) (by omega) haj hjb hl hok (hp.up (by rw[vj hx,vj hy];exact hlt))
  ·rw[qGp hlt];exact h4 i j l hm hai hib haj hjb hl hok hp λ_=>by rw[vj hx,vj hy];exact hlt
theorem qnc{n a b:Nat}(hn:n<1099511627776)(hb:b<=n):∀(m i j:Nat) (l:List Tm),j+1 - i<=m->a<i->i<=b->a<=j->j<b->l.length=n->q8 l->PI a i j b l->(i<=j->¬cmpT (tg l i) (tg l a)<0)->Gets (qeJ n a (i:Int) (j:Int) (qE X l)) (SwD X a b (MidS a b) l):=by
 intro m
 induction m with
 |zero=>
  intro i j l hm hai hib haj hjb hl hok hp hq;refine qgV _ _ _ _ _ ?_;unfold zz0 rd4 ck4 st4;obtain⟨x,hx⟩:=qM (l:=l) (i:=j) (by omega);obtain⟨y,hy⟩:=qM (l:=l) (i:=a) (by omega);rw[qGp (show ¬(i:Int)<=(j:Int) by omega),qGo (show(i:Int)>(j:Int) by omega)];simp -implicitDefEqProofs only[cond_true,cond_false,qd,qf,show qFR 4 4=true from rfl,qi,qh,qL,qB,rdB (show j<n by omega),rdB (show a<n by omega),rdG hx,rdG hy,sw2 hx hy,sw4 hx hy,sw5 hx hy,sw3 hx hy]
  exact⟨_,rfl,vI l j a,_,(.one _ _ (by omega) (by omega) (by omega) (by omega)),⟨j,true,haj,hjb,rfl,hp.done (by omega) (by omega) (by omega) haj⟩,rfl⟩
 |succ m ih=>
  intro i j l hm hai hib haj hjb hl hok hp hq
  by_cases hij:i<=j
  case neg=>exact ih i j l (by omega) hai hib haj hjb hl hok hp hq
  obtain⟨j,rfl⟩:∃k,j=k+1:=⟨j - 1,by omega⟩;refine qgV _ _ _ _ _ ?_;unfold zz0 rd4 ck4 st4;obtain⟨x,hx⟩:=qM (l:=l) (i:=j+1) (by omega);obtain⟨y,hy⟩:=qM (l:=l) (i:=a) (by omega);obtain⟨z,hz⟩:=qM (l:=l) (i:=i) (by omega);have hc:=vS (hok.at hx) (hok.at hy);rw[qGo (show(i:Int)<=((j+1:Nat):Int) by omega),qGp (show ¬(i:Int)>((j+1:Nat):Int) by omega),wr0 (by omega),wr1 (by omega)]
  simp -implicitDefEqProofs only[cond_true,cond_false,qd,qf,show qFR 4 4=true from rfl,qi,qh,qL,qB,qe,rdB (show j+1<n by omega),rdB (show a<n by omega),rdG hx,rdG hy,hc]
  by_cases hlt:cmpT x y<0
  ·rw[qGo hlt];simp -implicitDefEqProofs only[cond_true,cond_false,qFW,qd,qf,show qFR 4 4=true from rfl,qi,qh,qL,rdB (show i<n by omega),rdB (show j+1<n by omega),rdG hz,rdG hx,sw2 hz hx,sw4 hz hx,sw5 hz hx,sw3 hz hx];refine qgU _ _ _ _ _ ?_;refine((qyl hn hb (j+1 - (i+1))).2 (i+1) j _ (qFH _) (by omega) (by omega) (by omega) (by omega) (by rw[xG];exact hl) (hok.perm (vO _ _ _)) (hp.swap (hq hij) hai hij (by omega) (by rw[vj hx,vj hy];exact hlt))).mono ?_
   exact λr hr=>hr.trans (.one _ _ (by omega) (by omega) (by omega) (by omega))
  ·rw[qGp hlt];exact ih i j l (by omega) hai hib (by omega) (by omega) hl hok (hp.down (by rw[vj hx,vj hy];exact hlt)) λh=>hq (by omega)
theorem qAF{n a b:Nat}(hn:n<1099511627776)(hb:b+1<=n):∀(m i:Nat) (l:List Tm),b+1 - i<=m->a<i->i<=b+1->a<=b->l.length=n->q8 l->PI a i b (b+1) l->Gets (qiB n a ((b+1:Nat):Int) (i:Int) (qE X l)) (SwD X a (b+1) (MidS a (b+1)) l):=by
 intro m
 induction m with
 |zero=>
  intro i l hm hai hib hab hl hok hp;refine qgW _ _ _ _ _ ?_;unfold rd4;rw[wr0 (by omega),qGp (show ¬(i:Int)<=(b:Int) by omega)];exact qnc hn hb (b+1 - i) i b l (qFH _) hai hib hab (by omega) hl hok hp λh=>by omega
 |succ m ih=>
  intro i l hm hai hib hab hl hok hp;refine qgW _ _ _ _ _ ?_;unfold rd4
  by_cases hij:i<=b
  case neg=>
   rw[wr0 (by omega),qGp (show ¬(i:Int)<=(b:Int) by omega)];exact qnc hn hb (b+1 - i) i b l (qFH _) hai hib hab (by omega) hl hok hp λh=>by omega
  obtain⟨x,hx⟩:=qM (l:=l) (i:=i) (by omega);obtain⟨y,hy⟩:=qM (l:=l) (i:=a) (by omega);have hc:=vS (hok.at hx) (hok.at hy);rw[wr0 (by omega),qGo (show(i:Int)<=(b:Int) by omega),wr1 (by omega)];simp -implicitDefEqProofs only[cond_true,qd,qf,show qFR 4 4=true from rfl,qi,qh,qB,qe,rdB (show i<n by omega),rdB (show a<n by omega),rdG hx,rdG hy,hc]
  by_cases hlt:cmpT x y<0
  ·rw[qGo hlt];exact ih (i+1) l (by omega) (by omega) (by omega) hab hl hok (hp.up (by rw[vj hx,vj hy];exact hlt))
  ·rw[qGp hlt];exact qnc hn hb (b+1 - i) i b l (qFH _) hai hib hab (by omega) hl hok hp λ_=>by rw[vj hx,vj hy];exact hlt
theorem qyk{n a b p:Nat}(hn:n<1099511627776)(hb:b<=n)(hab:a<b)(hpa:a<=p)(hpb:p<b){l:List Tm}(hl:l.length=n)(hok:q8 l):
  Gets (EVd (EV cfg) 95 [.ms 0 0 n,.int .i64 (a:Int),.int .i64 (b:Int),.int .i64 (p:Int),cmpF] 4 (qE X l)) (SwD X a b (MidS a b) l):=by
 refine qwg _ _ _ _ _ ?_;unfold rd4 ck4 st4;obtain⟨b,rfl⟩:∃k,b=k+1:=⟨b - 1,by omega⟩;obtain⟨x,hx⟩:=qM (l:=l) (i:=a) (by omega);obtain⟨y,hy⟩:=qM (l:=l) (i:=p) (by omega);rw[wr1 (by omega)];simp -implicitDefEqProofs only[cond_true,qd,qf,show qFR 4 4=true from rfl,qi,qh,qL,rdB (show a<n by omega),rdB (show p<n by omega),rdG hx,rdG hy,sw2 hx hy,sw4 hx hy,sw5 hx hy,sw3 hx hy]
 refine(qAF hn hb (b+1) (a+1) _ (by omega) (by omega) (by omega) (by omega) (by rw[xG];exact hl) (hok.perm (vO _ _ _)) ⟨λk _ _=>by omega,λk _ _=>by omega⟩).mono ?_;exact λr hr=>hr.trans (.one _ _ (by omega) (by omega) (by omega) (by omega))
theorem qyn{n a b:Nat}{y0:Tm}(hn:n<1099511627776)(hb:b<=n):∀(m:Nat),
  (∀(i j:Nat) (l:List Tm),j+1 - i<=m->a<i->i<=b->a<=j->j<b->l.length=n->q8 l->PQ a i j b y0 l->(i<=j->cmpT (tg l a) (tg l i)<0)->Gets (qbF n a (i:Int) (j:Int) (qE X l)) (SwD X a b (EqS a b y0) l)) ∧
  (∀(i j:Nat) (l:List Tm),j+1 - i<=m->a<i->i<=b->a<=j->j<b->l.length=n->q8 l->PQ a i j b y0 l->Gets (qiC n a (j:Int) (i:Int) (qE X l)) (SwD X a b (EqS a b y0) l)):=by
 intro m
 induction m with
 |zero=>
  have h4:∀(i j:Nat) (l:List Tm),j+1 - i<=0->a<i->i<=b->a<=j->j<b->l.length=n->q8 l->PQ a i j b y0 l->(i<=j->cmpT (tg l a) (tg l i)<0)->Gets (qbF n a (i:Int) (j:Int) (qE X l)) (SwD X a b (EqS a b y0) l):=by
   intro i j l hm hai hib haj hjb hl hok hp hq;refine qgX _ _ _ _ _ ?_;unfold rd4 ck4 st4;rw[qGp (show ¬(i:Int)<=(j:Int) by omega),qGo (show(i:Int)>(j:Int) by omega)];exact⟨_,rfl,l,_,.refl _,⟨i,hai,hib,rfl,hp.done (by omega)⟩,rfl⟩
  refine⟨h4,λi j l hm hai hib haj hjb hl hok hp=>?_⟩;refine qgY _ _ _ _ _ ?_;unfold rd4;rw[qGp (show ¬(i:Int)<=(j:Int) by omega)];exact h4 i j l hm hai hib haj hjb hl hok hp λh=>by omega
 |succ m ih=>
  obtain⟨ih4,ih3⟩:=ih;have h4:∀(i j:Nat) (l:List Tm),j+1 - i<=m+1->a<i->i<=b->a<=j->j<b->l.length=n->q8 l->PQ a i j b y0 l->(i<=j->cmpT (tg l a) (tg l i)<0)->Gets (qbF n a (i:Int) (j:Int) (qE X l)) (SwD X a b (EqS a b y0) l):=by
   intro i j l hm hai hib haj hjb hl hok hp hq
   by_cases hij:i<=j
   case neg=>exact ih4 i j l (by omega) hai hib haj hjb hl hok hp hq
   obtain⟨j,rfl⟩:∃k,j=k+1:=⟨j - 1,by omega⟩;refine qgX _ _ _ _ _ ?_;unfold rd4 ck4 st4;obtain⟨x,hx⟩:=qM (l:=l) (i:=j+1) (by omega);obtain⟨y,hy⟩:=qM (l:=l) (i:=a) (by omega);obtain⟨z,hz⟩:=qM (l:=l) (i:=i) (by omega);have hc:=vS (hok.at hy) (hok.at hx);rw[qGo (show(i:Int)<=((j+1:Nat):Int) by omega),qGp (show ¬(i:Int)>((j+1:Nat):Int) by omega),wr0 (by omega),wr1 (by omega)]
   simp -implicitDefEqProofs only[cond_true,cond_false,qd,qf,show qFR 4 4=true from rfl,qi,qh,qB,qe,rdB (show j+1<n by omega),rdB (show a<n by omega),rdG hx,rdG hy,hc]
   by_cases hlt:cmpT y x<0
   ·rw[qGo hlt];exact ih4 i j l (by omega) hai hib (by omega) (by omega) hl hok (hp.down (by rw[vj hx,vj hy];exact hlt)) λh=>hq (by omega)
   ·rw[qGp hlt];simp -implicitDefEqProofs only[cond_true,cond_false,qd,qf,show qFR 4 4=true from rfl,qi,qh,qL,rdB (show i<n by omega),rdB (show j+1<n by omega),rdG hz,rdG hx,sw2 hz hx,sw4 hz hx,sw5 hz hx,sw3 hz hx];refine qgZ _ _ _ _ _ ?_;refine(ih3 (i+1) j _ (by omega) (by omega) (by omega) (by omega) (by omega) (by rw[xG];exact hl) (hok.perm (vO _ _ _)) (hp.swap (hq hij) hai hij (by omega) (by rw[vj hx,vj hy];exact hlt))).mono ?_
    exact λr hr=>hr.trans (.one _ _ (by omega) (by omega) (by omega) (by omega))
  refine⟨h4,λi j l hm hai hib haj hjb hl hok hp=>?_⟩;refine qgY _ _ _ _ _ ?_;unfold rd4
  by_cases hij:i<=j
  case neg=>
   rw[qGp (show ¬(i:Int)<=(j:Int) by omega)];exact h4 i j l hm hai hib haj hjb hl hok hp λh=>by omega
  obtain⟨x,hx⟩:=qM (l:=l) (i:=i) (by omega);obtain⟨y,hy⟩:=qM (l:=l) (i:=a) (by omega);have hc:=vS (hok.at hy) (hok.at hx);rw[qGo (show(i:Int)<=(j:Int) by omega),wr1 (by omega)];simp -implicitDefEqProofs only[cond_true,qd,qf,show qFR 4 4=true from rfl,qi,qh,qB,qe,rdB (show i<n by omega),rdB (show a<n by omega),rdG hx,rdG hy,hc]
  by_cases hlt:cmpT y x<0
  ·rw[qGo hlt];exact h4 i j l hm hai hib haj hjb hl hok hp λ_=>by rw[vj hx,vj hy];exact hlt
  ·rw[qGp hlt];exact ih3 (i+1) j l (by omega) (by omega) (by omega) haj hjb hl hok (hp.up (by rw[vj hx,vj hy];exact hlt))
theorem qym{n a b p:Nat}(hn:n<1099511627776)(hb:b<=n)(hab:a<b)(hpa:a<=p)(hpb:p<b){l:List Tm}(hl:l.length=n)(hok:q8 l):
  Gets (EVd (EV cfg) 94 [.ms 0 0 n,.int .i64 (a:Int),.int .i64 (b:Int),.int .i64 (p:Int),cmpF] 4 (qE X l)) (SwD X a b (EqS a b (tg l p)) l):=by
 refine qwh _ _ _ _ _ ?_;unfold rd4 ck4 st4;obtain⟨b,rfl⟩:∃k,b=k+1:=⟨b - 1,by omega⟩;obtain⟨x,hx⟩:=qM (l:=l) (i:=a) (by omega);obtain⟨y,hy⟩:=qM (l:=l) (i:=p) (by omega);rw[wr1 (by omega),wr0 (by omega)];simp -implicitDefEqProofs only[cond_true,qd,qf,show qFR 4 4=true from rfl,qi,qh,qL,rdB (show a<n by omega),rdB (show p<n by omega),rdG hx,rdG hy,sw2 hx hy,sw4 hx hy,sw5 hx hy,sw3 hx hy]
 refine qgZ _ _ _ _ _ ?_;refine((qyn (y0:=tg l p) hn hb (b+1 - (a+1))).2 (a+1) b _ (qFH _) (by omega) (by omega) (by omega) (by omega) (by rw[xG];exact hl) (hok.perm (vO _ _ _)) ⟨?_,λk _ _=>by omega,λk _ _=>by omega⟩).mono ?_
 ·rw[y8 (by omega) (by omega)]
  by_cases e:a=p
  ·subst e;rw[qGq rfl]
  ·rw[qGr e,qGq rfl]
 exact λr hr=>hr.trans (.one _ _ (by omega) (by omega) (by omega) (by omega))
theorem qsU{n a b i k:Nat}(hn:n<1099511627776)(hb:b<=n)(hk:k<100)(hai:a<i)(hcont:∀l:List Tm,l.length=n->q8 l->Srt a i l->Lb a b l->Gets (yQ n a b (i:Int) ((k+1:Nat):Int) (qE X l)) (SwD X a b (TryS a b) l)):∀(m j:Nat) (l:List Tm),b - j<=m->i+1<=j->l.length=n->q8 l->Srt a i l->Lb a b l->Gets (qa4 n a b (k:Int) (i:Int) (j:Int) (qE X l)) (SwD X a b (TryS a b) l):=by
 intro m
 induction m with
 |zero=>
  intro j l hm hj hl hok hs hlb;refine qg0 _ _ _ _ _ _ _ ?_;unfold rd4 ck4 st4;rw[qGp (by omega),wr1 (by omega)];exact hcont l hl hok hs hlb
 |succ m ih=>
  intro j l hm hj hl hok hs hlb;refine qg0 _ _ _ _ _ _ _ ?_;unfold rd4 ck4 st4
  by_cases hjb:j<b
  case neg=>
   rw[qGp (by omega),wr1 (by omega)];exact hcont l hl hok hs hlb
  obtain⟨j,rfl⟩:∃q,j=q+1:=⟨j - 1,by omega⟩;obtain⟨y,hy⟩:=qM (l:=l) (i:=j+1) (by omega);obtain⟨x,hx⟩:=qM (l:=l) (i:=j) (by omega);have hc:=vS (hok.at hy) (hok.at hx);rw[qGo (show((j+1:Nat):Int)<(b:Int) by omega),wr0 (by omega),wr1 (show j+1<4398046511104 by omega),wr1 (show k<4398046511104 by omega)];simp -implicitDefEqProofs only[cond_true,qd,qf,show qFR 4 4=true from rfl,qi,qh,qL,qB,qe,rdB (show j+1<n by omega),rdB (show j<n by omega),rdG hy,rdG hx,hc]
  by_cases hlt:cmpT y x<0
  ·rw[qGo hlt];simp -implicitDefEqProofs only[cond_true,cond_false,qFW,qd,qf,show qFR 4 4=true from rfl,qL,rdB (show j+1<n by omega),rdB (show j<n by omega),rdG hy,rdG hx,sw2 hy hx,sw4 hy hx,sw5 hy hx,sw3 hy hx];exact(ih (j+1+1) _ (by omega) (by omega) (by rw[xG];exact hl) (hok.perm (vO _ _ _)) (hs.congr λk _ _=>by rw[y8 (by omega) (by omega),qGr (by omega),qGr (by omega)]) (Sw.lb (.one _ _ (by omega) (by omega) (by omega) (by omega)) (by omega) hlb)).mono λr hr=>hr.trans (.one _ _ (by omega) (by omega) (by omega) (by omega))
  ·rw[qGp hlt];exact hcont l hl hok hs hlb
theorem qAE{n a b i k:Nat}(hn:n<1099511627776)(hb:b<=n)(hk:k<100)(hib:i<b)(hai:a<i)(hcont:∀l:List Tm,l.length=n->q8 l->Srt a i l->Lb a b l->Gets (yQ n a b (i:Int) ((k+1:Nat):Int) (qE X l)) (SwD X a b (TryS a b) l)):∀(j:Nat) (l:List Tm),j<n->l.length=n->q8 l->a<=j->j+1<=i->Ins a j (i - 1) l->Lb a b l->Gets (qeK n a b (k:Int) (i:Int) (j:Int) (qE X l)) (SwD X a b (TryS a b) l):=by
 have rest:∀l:List Tm,l.length=n->q8 l->Srt a (i - 1+1) l->Lb a b l->Gets (bif decide (((b - i:Nat):Int)≥2)then qa4 n a b (k:Int) (i:Int) ((i+1:Nat):Int) (qE X l)else yQ n a b (i:Int) ((k+1:Nat):Int) (qE X l)) (SwD X a b (TryS a b) l):=by
  intro l hl hok hs hlb;rw[show i - 1+1=i by omega]at hs;cases decide (((b - i:Nat):Int)≥2)with
  |true=>exact qsU hn hb hk hai hcont b (i+1) l (by omega) (by omega) hl hok hs hlb
  |false=>exact hcont l hl hok hs hlb
 have wb:qFD .i64 ((b:Int) - (i:Int))=((b - i:Nat):Int):=by rw[qo (by omega) (by omega)];omega
 intro j
 induction j with
 |zero=>
  intro l hj hl hok haj hji hI hlb;refine qg1 _ _ _ _ _ _ _ ?_;unfold rd4 ck4 st4;rw[qGp (by omega),wb,wr1 (show i<4398046511104 by omega),wr1 (show k<4398046511104 by omega)];exact rest l hl hok (hI.done (.inl (by omega))) hlb
 |succ j ih=>
  intro l hj hl hok haj hji hI hlb;refine qg1 _ _ _ _ _ _ _ ?_;unfold rd4 ck4 st4;obtain⟨y,hy⟩:=qM (l:=l) (i:=j+1) (by omega);obtain⟨x,hx⟩:=qM (l:=l) (i:=j) (by omega);have hc:=vS (hok.at hy) (hok.at hx);rw[qGo (show((j+1:Nat):Int)≥1 by omega),wr0 (by omega),wb,wr1 (show i<4398046511104 by omega),wr1 (show k<4398046511104 by omega)];simp -implicitDefEqProofs only[cond_true,qd,qf,show qFR 4 4=true from rfl,qi,qh,qL,qB,qe,rdB (show j+1<n by omega),rdB (show j<n by omega),rdG hy,rdG hx,hc]
  by_cases hlt:cmpT y x<0
  ·rw[qGo hlt];simp -implicitDefEqProofs only[cond_true,cond_false,qFW,qd,qf,show qFR 4 4=true from rfl,qL,rdB (show j+1<n by omega),rdB (show j<n by omega),rdG hy,rdG hx,sw2 hy hx,sw4 hy hx,sw5 hy hx,sw3 hy hx];have hne:a<j+1:=by
    by_cases e:a=j+1
    ·have:=hlb (by omega) (j+1) (by omega) (by omega);rw[vj hy,show a - 1=j by omega,vj hx]at this;have:=qdy x y;omega
    omega
   exact(ih _ (by omega) (by rw[xG];exact hl) (hok.perm (vO _ _ _)) (by omega) (by omega) (hI.step hne (by omega) (by omega) (by rw[vj hy,vj hx];exact hlt)) (Sw.lb (.one _ _ (by omega) (by omega) (by omega) (by omega)) (by omega) hlb)).mono λr hr=>hr.trans (.one _ _ (by omega) (by omega) (by omega) (by omega))
  ·rw[qGp hlt];refine rest l hl hok (hI.done ?_) hlb
   by_cases e:j+1<=a
   ·exact .inl e
   ·exact .inr ⟨j,rfl,by omega,by rw[vj hy,vj hx];exact hlt⟩
theorem qyi{n a b:Nat}(hn:n<1099511627776)(hb:b<=n)(hab:a<b):∀(q k:Nat),5<=k+q->k<=5->∀(i:Nat) (l:List Tm),a<i->i<=b->l.length=n->q8 l->Srt a i l->Lb a b l->Gets (yQ n a b (i:Int) (k:Int) (qE X l)) (SwD X a b (TryS a b) l):=by
 intro q
 induction q with
 |zero=>
  intro k hq hk i l hai hib hl hok hs hlb;refine qg3 _ _ _ _ _ _ ?_;rw[qGp (by omega)];exact⟨_,rfl,l,_,.refl _,⟨false,rfl,λh=>by cases h⟩,rfl⟩
 |succ q ihq=>
  intro k hq hk i l hai hib hl hok hs hlb;refine qg3 _ _ _ _ _ _ ?_
  by_cases hk5:k<5
  case neg=>
   rw[qGp (by omega)];exact⟨_,rfl,l,_,.refl _,⟨false,rfl,λh=>by cases h⟩,rfl⟩
  rw[qGo (show(k:Int)<5 by omega),cond_true];have loop:∀(m i:Nat) (l:List Tm),b - i<=m->a<i->i<=b->l.length=n->q8 l->Srt a i l->Lb a b l->Gets (qiE n a b (k:Int) (i:Int) (qE X l)) (SwD X a b (TryS a b) l):=by
   intro m
   induction m with
   |zero=>
    intro i l hm hai hib hl hok hs hlb;refine qg2 _ _ _ _ _ _ ?_;unfold rd4 ck4 st4;have hi:i=b:=by omega
    rw[qGp (show ¬(i:Int)<(b:Int) by omega),beqI,qGo (show(i:Int)=(b:Int) by omega)];exact⟨_,rfl,l,_,.refl _,⟨true,rfl,λ_=>hi▸hs⟩,rfl⟩
   |succ m ihm=>
    intro i l hm hai hib hl hok hs hlb
    by_cases hlt:i<b
    case neg=>exact ihm i l (by omega) hai hib hl hok hs hlb
    refine qg2 _ _ _ _ _ _ ?_;unfold rd4 ck4 st4;obtain⟨i,rfl⟩:∃q,i=q+1:=⟨i - 1,by omega⟩;obtain⟨y,hy⟩:=qM (l:=l) (i:=i+1) (by omega);obtain⟨x,hx⟩:=qM (l:=l) (i:=i) (by omega);have hc:=vS (hok.at hy) (hok.at hx);have wa:qFD .i64 ((b:Int) - (a:Int))=((b - a:Nat):Int):=by rw[qo (by omega) (by omega)];omega
    have wb:qFD .i64 ((b:Int) - ((i+1:Nat):Int))=((b - (i+1):Nat):Int):=by rw[qo (by omega) (by omega)];omega
    have wc:qFD .i64 (((i+1:Nat):Int) - (a:Int))=((i+1 - a:Nat):Int):=by rw[qo (by omega) (by omega)];omega
    rw[qGo (show((i+1:Nat):Int)<(b:Int) by omega),beqI,qGp (show ¬((i+1:Nat):Int)=(b:Int) by omega),wr0 (by omega),wa,wb,wc,wr1 (show i+1<4398046511104 by omega),wr1 (show k<4398046511104 by omega)];simp -implicitDefEqProofs only[cond_true,cond_false,qd,qf,show qFR 4 4=true from rfl,qi,qh,qL,qB,qe,rdB (show i+1<n by omega),rdB (show i<n by omega),rdG hy,rdG hx,hc]
    by_cases hlt2:cmpT y x<0
    case neg=>
     rw[qGp hlt2];exact ihm (i+1+1) l (by omega) (by omega) (by omega) hl hok (hs.snoc (by rw[vj hy,vj hx];exact hlt2) (by omega)) hlb
    rw[qGo hlt2];cases decide (((b - a:Nat):Int)<50)with
    |true=>exact⟨_,rfl,l,_,.refl _,⟨false,rfl,λh=>by cases h⟩,rfl⟩
    |false=>
     simp -implicitDefEqProofs only[cond_true,cond_false,qFW,qd,qf,show qFR 4 4=true from rfl,qL,rdB (show i+1<n by omega),rdB (show i<n by omega),rdG hy,rdG hx,sw2 hy hx,sw4 hy hx,sw5 hy hx,sw3 hy hx];have hcont:∀l:List Tm,l.length=n->q8 l->Srt a (i+1) l->Lb a b l->Gets (yQ n a b ((i+1:Nat):Int) ((k+1:Nat):Int) (qE X l)) (SwD X a b (TryS a b) l):=λl hl hok hs hlb=>ihq (k+1) (by omega) (by omega) (i+1) l hai hib hl hok hs hlb
     have hl2:(vI l (i+1) i).length=n:=by rw[xG];exact hl
     have hok2:q8 (vI l (i+1) i):=hok.perm (vO _ _ _);have fin:∀r,SwD X a b (TryS a b) (vI l (i+1) i) r->SwD X a b (TryS a b) l r:=λr hr=>hr.trans (.one _ _ (by omega) (by omega) (by omega) (by omega))
     have hlb2:Lb a b (vI l (i+1) i):=Sw.lb (.one _ _ (by omega) (by omega) (by omega) (by omega)) (by omega) hlb;have hs2:Srt a i (vI l (i+1) i):=(hs.mono (Nat.le_succ i)).congr λk _ _=>by rw[y8 (by omega) (by omega),qGr (by omega),qGr (by omega)]
     by_cases h2:((i+1 - a:Nat):Int)≥2
     ·rw[qGo h2];exact(qAE hn hb (by omega) hlt hai hcont i _ (by omega) hl2 hok2 (by omega) (qFH _) (.start hs2) hlb2).mono fin
     ·rw[qGp h2];have hs3:Srt a (i+1) (vI l (i+1) i):=.empty (by omega);cases decide (((b - (i+1):Nat):Int)≥2)with
      |true=>exact(qsU hn hb (by omega) hai hcont b (i+1+1) _ (by omega) (by omega) hl2 hok2 hs3 hlb2).mono fin
      |false=>exact(hcont _ hl2 hok2 hs3 hlb2).mono fin
  exact loop (b - i) i l (qFH _) hai hib hl hok hs hlb
theorem qyh{n a b:Nat}(hn:n<1099511627776)(hb:b<=n)(hab:a<b){l:List Tm}(hl:l.length=n)(hok:q8 l)(hlb:Lb a b l):
  Gets (EVd (EV cfg) 93 [.ms 0 0 n,.int .i64 (a:Int),.int .i64 (b:Int),cmpF] 4 (qE X l)) (SwD X a b (TryS a b) l):=by
 refine qwe _ _ _ _ ?_;rw[wr1 (by omega)];exact qyi hn hb hab 5 0 (by omega) (by omega) (a+1) l (by omega) (by omega) hl hok (.empty (qFH _)) hlb
end Go.Proofs.YtgleolmhpmljhaaGreat
end
noncomputable section
namespace Go.Av
theorem Lb.sub{a b c:Nat}{l:List Tm}(h:Lb a b l)(hc:c<=b):Lb a c l:=λh0 k h1 h2=>h h0 k h1 (by omega)
theorem Srt.out{a b c d:Nat}{l m:List Tm}(h:Srt a b l)(s:Sw c d l m)(hl:d<=l.length)(hs:b<=c∨d<=a):Srt a b m:=
 h.congr λk h1 h2=>s.out hl (by omega)
theorem Part.left{a m b:Nat}{l l':List Tm}(h:Part a m b l)(s:Sw a m l l')(hl:m<=l.length)(_hm:m<b):Part a m b l':=by
 have e:=s.out hl (k:=m) (.inr (qFH _));refine⟨λk h1 h2=>?_,λk h1 h2=>?_⟩
 ·rw[e];exact s.all hl (qFH _) (qFH _) (Q:=λx=>cmpT x (tg l m)<=0) h.1 k h1 h2
 ·rw[e,s.out hl (.inr (by omega))];exact h.2 k h1 h2
theorem Part.right{a m b:Nat}{l l':List Tm}(h:Part a m b l)(s:Sw (m+1) b l l')(hl:b<=l.length):Part a m b l':=by
 have e:=s.out hl (k:=m) (.inl (by omega));refine⟨λk h1 h2=>?_,λk h1 h2=>?_⟩
 ·rw[e,s.out hl (.inl (by omega))];exact h.1 k h1 h2
 ·rw[e];exact s.all hl (qFH _) (qFH _) (Q:=λx=>cmpT (tg l m) x<=0) (λk hk1 hk2=>h.2 k (by omega) hk2) k (by omega) h2
theorem Part.lb{a m b:Nat}{l:List Tm}(h:Part a m b l):Lb (m+1) b l:=λ_ k h1 h2=>h.2 k (by omega) h2
theorem Part.srt{a m b:Nat}{l:List Tm}(h:Part a m b l)(_ha:a<=m)(h1:Srt a m l)(h2:Srt (m+1) b l):Srt a b l:=by
 intro p q hp hpq hq
 by_cases e1:q<m
 ·exact h1 p q hp hpq e1
 by_cases e2:p<m
 ·by_cases e3:q=m
  ·rw[e3];exact h.1 p hp e2
  ·exact yp (h.1 p hp e2) (h.2 q (by omega) hq)
 by_cases e3:p=m
 ·by_cases e4:q=m
  ·rw[e3,e4,xS];omega
  ·rw[e3];exact h.2 q (by omega) hq
 exact h2 p q (by omega) hpq hq
end Go.Av
namespace Go.Proofs.YtgleolmhpmljhaaGreat
open Go.Av
variable {X : List (List AV)}
theorem qDI{n a b M:Nat}(hn:n<16777216)(hb:b<=n)(hab:a+8<=b)(hM:1<=M)(hM2:M<=2*(b - a)):∀(d v:Nat) (l:List Tm) (c:Nat),a+(b - a) / 4*2+2<=v+d->a<=v->c<18446744073709551616->l.length=n->q8 l ->
  Gets (qbD n a b (M:Int) (v:Int) (qE X l) [[.int .u64 (c:Int)]]) (SwM X a b (λ_=>True) l):=by
 have w1:qFD .i64 ((b:Int) - (a:Int))=((b - a:Nat):Int):=by rw[qo (by omega) (by omega)];omega
 have w2:qFD .i64 ((((b - a:Nat):Int)).tdiv 4)=(((b - a) / 4:Nat):Int):=by
  rw[show((4:Int))=((4:Nat):Int)from rfl,qma,qo (by omega) (by omega)]
 have w3:qFD .i64 (qFD .i64 ((a:Int)+qFD .i64 ((((b - a) / 4:Nat):Int)*2))+1)=((a+(b - a) / 4*2+1:Nat):Int):=by
  rw[qo (x:=_*2) (by omega) (by omega),qo (x:=_+_*2) (by omega) (by omega),qo (by omega) (by omega)];omega
 have w4:qFD .u64 ((M:Int) - 1)=((M - 1:Nat):Int):=by
  rw[show((M:Int) - 1)=((M - 1:Nat):Int) by omega,qbW (by omega)]
 intro d
 induction d with
 |zero=>
  intro v l c hd hv hc hl hok;refine qga _ _ _ _ _ _ _ ?_;unfold zA5 zA6 zA7 zA8 zA11 zA9 zA10 rd4 ck4 st4;rw[w1,zH (by decide),w2];simp only[qd,qe,w3];rw[qGp (by omega)];exact⟨_,rfl,l,.refl _,trivial,rfl⟩
 |succ d ih=>
  intro v l c hd hv hc hl hok;refine qga _ _ _ _ _ _ _ ?_;unfold zA5 zA6 zA7 zA8 zA11 zA9 zA10 rd4 ck4 st4;rw[w1,zH (by decide),w2];simp only[qd,qe,w3]
  by_cases hvb:v<=a+(b - a) / 4*2+1
  case neg=>
   rw[qGp (by omega)];exact⟨_,rfl,l,.refl _,trivial,rfl⟩
  rw[qGo (show(v:Int)<=((a+(b - a) / 4*2+1:Nat):Int) by omega),cond_true];refine Gets.bind (qnF hc) ?_;rintro _ ⟨r,hr,rfl⟩;simp only[qe,w4];rw[qAo hr (show M - 1<18446744073709551616 by omega)];have ho:r &&& (M - 1)<=M - 1:=Nat.and_le_right;generalize r &&& (M - 1)=o at *;have w5:qFD .i64 (o:Int)=(o:Int):=by rw[qo (by omega) (by omega)]
  have w6:qFD .i64 ((o:Int) - ((b - a:Nat):Int))=(o:Int) - ((b - a:Nat):Int):=by rw[qo (by omega) (by omega)]
  have w7:qFD .i64 ((a:Int)+(o:Int))=((a+o:Nat):Int):=by rw[qo (by omega) (by omega)];omega
  simp only[qd,qe,w5,w6,w7,wr1 (show v<4398046511104 by omega)];obtain⟨x,hx⟩:=qM (l:=l) (i:=v) (by omega);have go:∀q:Nat,a<=q->q<b->Gets (qbD n a b (M:Int) ((v+1:Nat):Int) (qE X (vI l v q)) [[.int .u64 (r:Int)]]) (SwM X a b (λ_=>True) l):=λq hq hqb=>
   (ih (v+1) _ r (by omega) (by omega) hr (by rw[xG];exact hl) (hok.perm (vO _ _ _))).mono λr hr=>hr.trans (.one _ _ (by omega) (by omega) (by omega) (by omega))
  by_cases hob:b - a<=o
  ·have w8:qFD .i64 ((a:Int)+((o:Int) - ((b - a:Nat):Int)))=((a+(o - (b - a)):Nat):Int):=by rw[qo (by omega) (by omega)];omega
   obtain⟨y,hy⟩:=qM (l:=l) (i:=a+(o - (b - a))) (by omega);rw[qGo (show(o:Int)≥((b - a:Nat):Int) by omega),w8];simp -implicitDefEqProofs only[cond_true,qd,qf,show qFR 4 4=true from rfl,show qFY 4 4=true from rfl,qi,qh,qL,rdB (show v<n by omega),rdB (show a+(o - (b - a))<n by omega),rdG hx,rdG hy,sw2 hx hy,sw4 hx hy,sw5 hx hy,sw3 hx hy]
   exact go _ (by omega) (by omega)
  ·obtain⟨y,hy⟩:=qM (l:=l) (i:=a+o) (by omega);rw[qGp (show ¬(o:Int)≥((b - a:Nat):Int) by omega)];simp -implicitDefEqProofs only[cond_true,cond_false,qd,qf,show qFR 4 4=true from rfl,show qFY 4 4=true from rfl,qi,qh,qL,rdB (show v<n by omega),rdB (show a+o<n by omega),rdG hx,rdG hy,sw2 hx hy,sw4 hx hy,sw5 hx hy,sw3 hx hy]
   exact go _ (by omega) (by omega)
theorem qDJ{n a b M:Nat}(hn:n<16777216)(hb:b<=n)(hab:a+8<=b)(hM:1<=M)(hM2:M<=2*(b - a))(v:Nat)(l:List Tm)(c:Nat)(hv:a<=v)(hc:c<18446744073709551616)(hl:l.length=n)(hok:q8 l):
  Gets (qmY n a b (M:Int) (v:Int) (qE X l) (c:Int)) (SwM X a b (λ_=>True) l):=by
 have w1:qFD .i64 ((b:Int) - (a:Int))=((b - a:Nat):Int):=by rw[qo (by omega) (by omega)];omega
 have w2:qFD .i64 ((((b - a:Nat):Int)).tdiv 4)=(((b - a) / 4:Nat):Int):=by
  rw[show((4:Int))=((4:Nat):Int)from rfl,qma,qo (by omega) (by omega)]
 have w3:qFD .i64 (qFD .i64 ((a:Int)+qFD .i64 ((((b - a) / 4:Nat):Int)*2))+1)=((a+(b - a) / 4*2+1:Nat):Int):=by
  rw[qo (x:=_*2) (by omega) (by omega),qo (x:=_+_*2) (by omega) (by omega),qo (by omega) (by omega)];omega
 have w4:qFD .u64 ((M:Int) - 1)=((M - 1:Nat):Int):=by
  rw[show((M:Int) - 1)=((M - 1:Nat):Int) by omega,qbW (by omega)]
 refine qpm _ _ _ _ _ _ _ ?_;unfold zA5 zA6 zA7 zA8 zA11 zA9 zA10 rd4 ck4 st4;rw[w1,zH (by decide),w2];simp only[qd,qe,w3]
 by_cases hvb:v<=a+(b - a) / 4*2+1
 case neg=>
  rw[qGp (by omega)];exact⟨_,rfl,l,.refl _,trivial,rfl⟩
 rw[qGo (show(v:Int)<=((a+(b - a) / 4*2+1:Nat):Int) by omega),cond_true];refine Gets.bind (qnF hc) ?_;rintro _ ⟨r,hr,rfl⟩;simp only[qe,w4];rw[qAo hr (show M - 1<18446744073709551616 by omega)];have ho:r &&& (M - 1)<=M - 1:=Nat.and_le_right;generalize r &&& (M - 1)=o at *;have w5:qFD .i64 (o:Int)=(o:Int):=by rw[qo (by omega) (by omega)]
 have w6:qFD .i64 ((o:Int) - ((b - a:Nat):Int))=(o:Int) - ((b - a:Nat):Int):=by rw[qo (by omega) (by omega)]
 have w7:qFD .i64 ((a:Int)+(o:Int))=((a+o:Nat):Int):=by rw[qo (by omega) (by omega)];omega
 simp only[qd,qe,w5,w6,w7,wr1 (show v<4398046511104 by omega)];obtain⟨x,hx⟩:=qM (l:=l) (i:=v) (by omega);have go:∀q:Nat,a<=q->q<b->Gets (qbD n a b (M:Int) ((v+1:Nat):Int) (qE X (vI l v q)) [[.int .u64 (r:Int)]]) (SwM X a b (λ_=>True) l):=λq hq hqb=>
  (qDI hn hb hab hM hM2 (a+(b - a) / 4*2+2) (v+1) _ r (by omega) (by omega) hr (by rw[xG];exact hl) (hok.perm (vO _ _ _))).mono λr hr=>hr.trans (.one _ _ (by omega) (by omega) (by omega) (by omega))
 by_cases hob:b - a<=o
 ·have w8:qFD .i64 ((a:Int)+((o:Int) - ((b - a:Nat):Int)))=((a+(o - (b - a)):Nat):Int):=by rw[qo (by omega) (by omega)];omega
  obtain⟨y,hy⟩:=qM (l:=l) (i:=a+(o - (b - a))) (by omega);rw[qGo (show(o:Int)≥((b - a:Nat):Int) by omega),w8];simp -implicitDefEqProofs only[cond_true,qd,qf,show qFR 4 4=true from rfl,show qFY 4 4=true from rfl,qi,qh,qL,rdB (show v<n by omega),rdB (show a+(o - (b - a))<n by omega),rdG hx,rdG hy,sw2 hx hy,sw4 hx hy,sw5 hx hy,sw3 hx hy]
  exact go _ (by omega) (by omega)
 ·obtain⟨y,hy⟩:=qM (l:=l) (i:=a+o) (by omega);rw[qGp (show ¬(o:Int)≥((b - a:Nat):Int) by omega)];simp -implicitDefEqProofs only[cond_true,cond_false,qd,qf,show qFR 4 4=true from rfl,show qFY 4 4=true from rfl,qi,qh,qL,rdB (show v<n by omega),rdB (show a+o<n by omega),rdG hx,rdG hy,sw2 hx hy,sw4 hx hy,sw5 hx hy,sw3 hx hy]
  exact go _ (by omega) (by omega)
theorem qA6{n a b:Nat}(hn:n<16777216)(hb:b<=n)(hab:a+8<=b){l:List Tm}(hl:l.length=n)(hok:q8 l):
  Gets (EVm (EV cfg) 90 [.ms 0 0 n,.int .i64 (a:Int),.int .i64 (b:Int),cmpF] 4 (qE X l)) (SwM X a b (λ_=>True) l):=by
 refine qy9 _ _ _ _ ?_;have w1:qFD .i64 ((b:Int) - (a:Int))=((b - a:Nat):Int):=by rw[qo (by omega) (by omega)];omega
 have w2:qFD .i64 ((((b - a:Nat):Int)).tdiv 4)=(((b - a) / 4:Nat):Int):=by
  rw[show((4:Int))=((4:Nat):Int)from rfl,qma,qo (by omega) (by omega)]
 have w3:qFD .i64 (qFD .i64 ((a:Int)+qFD .i64 ((((b - a) / 4:Nat):Int)*2)) - 1)=((a+(b - a) / 4*2 - 1:Nat):Int):=by
  rw[qo (x:=_*2) (by omega) (by omega),qo (x:=_+_*2) (by omega) (by omega),qo (by omega) (by omega)];omega
 rw[w1,qGo (show((b - a:Nat):Int)≥8 by omega),cond_true];refine Gets.bind (qyv (n:=b - a) (by omega) (by omega)) ?_;rintro _ ⟨M,hM,hM2,rfl⟩;rw[zH (by decide),w2,qbW (show b - a<18446744073709551616 by omega)];simp only[qd,qe,w3];exact qDJ hn hb hab hM hM2 _ l (b - a) (by omega) (by omega) hl hok
def PdS(X:List (List AV))(n m:Nat):Prop:=∀(a b:Nat) (lim:Int) (wb wp:Bool) (l:List Tm),b - a<=m->a<=b->b<=n->l.length=n->q8 l->Lb a b l->Gets (qa3 n a b lim wb wp (qE X l)) (SwM X a b (Srt a b) l)
theorem qt8{n m:Nat}(hn:n<16777216)(ih:PdS X n m){a b p:Nat}(hm:b - a<=m+1)(hab:a+8<=b)(hb:b<=n)(hpa:a<=p)(hpb:p<b)(lim:Int)(wb wp:Bool){l:List Tm}(hl:l.length=n)(hok:q8 l)(hlb:Lb a b l):
  Gets (qaD n a b lim wb wp (qE X l) p) (SwM X a b (Srt a b) l):=by
 have pd:∀(a b:Nat) (lim:Int) (l:List Tm),b - a<=m->a<=b->b<=n->l.length=n->q8 l->Lb a b l->Gets (EVm (EV cfg) 61 [.ms 0 0 n,.int .i64 (a:Int),.int .i64 (b:Int),.int .i64 lim,cmpF] 4 (qE X l)) (SwM X a b (Srt a b) l):=λa b lim l h1 h2 h3 h4 h5 h6=>qp0 _ _ _ _ _ (ih a b lim true true l h1 h2 h3 h4 h5 h6)
 have w8:qFD .i64 ((b:Int) - (a:Int))=((b - a:Nat):Int):=by rw[qo (by omega) (by omega)];omega
 have fin:∀(mid:Nat) (c:Bool) (l2:List Tm),a<=mid->mid<b->Sw a b l l2->Part a mid b l2->Gets (kOpt (qJ (Op.intDiv BinOp.quo .i64 (qFD .i64 ((b:Int) - (a:Int))) (8:Int))) fun(v:AV)=>kInt .i64 v fun(n_7:Int)=>bif decide (qFD .i64 ((mid:Int) - (a:Int))<qFD .i64 ((b:Int) - (mid:Int)))then kOpt (EVm (EV cfg) 61 [.ms 0 0 n,.int .i64 (a:Int),.int .i64 (mid:Int),.int .i64 lim,cmpF] 4 (qE X l2)) fun(q:MV×List (List AV))=>q6 q.1 (qa3 n (qFD .i64 ((mid:Int)+(1:Int))) b lim (decide (qFD .i64 ((mid:Int) - (a:Int))≥n_7)) c q.2)else kOpt (EVm (EV cfg) 61 [.ms 0 0 n,.int .i64 (qFD .i64 ((mid:Int)+(1:Int))),.int .i64 (b:Int),.int .i64 lim,cmpF] 4 (qE X l2)) fun(q:MV×List (List AV))=>q6 q.1 (qa3 n a mid lim (decide (qFD .i64 ((b:Int) - (mid:Int))≥n_7)) c q.2)) (SwM X a b (Srt a b) l):=by
  intro mid c l2 h1 h2 hp hq;have hl2:l2.length=n:=by rw[hp.len];exact hl
  have hok2:=hok.perm hp.perm;have hlb2:Lb a b l2:=hp.lb (by omega) hlb;rw[zH (by decide)];simp only[qd,qe,wr1 (show mid<4398046511104 by omega)];cases decide (qFD .i64 ((mid:Int) - (a:Int))<qFD .i64 ((b:Int) - (mid:Int)))with
  |true=>
   refine Gets.bind (pd a mid lim l2 (by omega) (by omega) (by omega) hl2 hok2 (hlb2.sub (by omega))) ?_;rintro _ ⟨l3,h3,q3,rfl⟩;simp only[vq];have hq3:=hq.left h3 (by omega) h2;have hl3:l3.length=n:=by rw[h3.len];exact hl2
   refine(ih (mid+1) b lim _ c l3 (by omega) (by omega) (by omega) hl3 (hok2.perm h3.perm) hq3.lb).mono ?_;rintro r ⟨l4,h4,q4,rfl⟩;exact⟨l4,hp.trans ((h3.mono (qFH _) (by omega)).trans (h4.mono (by omega) (qFH _))),(hq3.right h4 (by omega)).srt h1 (q3.out h4 (by omega) (.inl (by omega))) q4,rfl⟩
  |false=>
   refine Gets.bind (pd (mid+1) b lim l2 (by omega) (by omega) (by omega) hl2 hok2 hq.lb) ?_;rintro _ ⟨l3,h3,q3,rfl⟩;simp only[vq];have hq3:=hq.right h3 (by omega);have hl3:l3.length=n:=by rw[h3.len];exact hl2
   refine(ih a mid lim _ c l3 (by omega) (by omega) (by omega) hl3 (hok2.perm h3.perm) (Lb.sub ((h3.mono (by omega) (qFH _)).lb (by omega) hlb2) (by omega))).mono ?_;rintro r ⟨l4,h4,q4,rfl⟩;exact⟨l4,hp.trans ((h3.mono (by omega) (qFH _)).trans (h4.mono (qFH _) (by omega))),(hq3.left h4 (by omega) h2).srt h1 q4 (q3.out h4 (by omega) (.inr (by omega))),rfl⟩
 have hpart:=qyk (X:=X) (by omega) hb (by omega) hpa hpb hl hok (a:=a);unfold qaD qp1;cases a with
 |zero=>
  rw[qGp (by omega),cond_false];refine Gets.bind hpart ?_;rintro _ ⟨l2,_,h2,⟨mid,c,h3,h4,rfl,h5⟩,rfl⟩;simp only[yX,qT,qe,qp,q9];exact fin mid c l2 h3 h4 h2 h5
 |succ a=>
  obtain⟨x,hx⟩:=qM (l:=l) (i:=a) (by omega);obtain⟨y,hy⟩:=qM (l:=l) (i:=p) (by omega);have hc:=vS (hok.at hx) (hok.at hy);rw[qGo (show((a+1:Nat):Int)>0 by omega),wr0 (by omega)];simp -implicitDefEqProofs only[cond_true,qd,qf,show qFR 4 4=true from rfl,show qFY 4 4=true from rfl,qi,qh,qB,qe,rdB (show a<n by omega),rdB (show p<n by omega),rdG hx,rdG hy,hc]
  by_cases hxy:cmpT x y<0
  ·rw[qGo hxy];simp only[qFW,cond_false];refine Gets.bind hpart ?_;rintro _ ⟨l2,_,h2,⟨mid,c,h3,h4,rfl,h5⟩,rfl⟩;simp only[yX,qT,qe,qp,q9];exact fin mid c l2 h3 h4 h2 h5
  ·rw[qGp hxy];simp only[qF4,cond_true];refine Gets.bind (qym (by omega) hb (by omega) hpa hpb hl hok) ?_;rintro _ ⟨l2,_,h2,⟨i,h3,h4,rfl,h5,h6⟩,rfl⟩;simp only[qe];have hlb2:Lb (a+1) b l2:=h2.lb (by omega) hlb;have e0:tg l2 a=x:=by rw[h2.out (by omega) (.inl (by omega)),vj hx]
   rw[vj hy]at h5 h6;have low:∀k,a+1<=k->k<b->cmpT y (tg l2 k)<=0:=λk hk1 hk2=>by
    have:=hlb2 (by omega) k hk1 hk2;rw[show a+1 - 1=a by omega,e0]at this;exact yp (yT hxy) this
   refine(ih i b lim wb wp l2 (by omega) (by omega) hb (by rw[h2.len];exact hl) (hok.perm h2.perm) (λ_ k hk1 hk2=>yp (h5 (i - 1) (by omega) (by omega)) (by have:=h6 k hk1 hk2;omega))).mono ?_;rintro r ⟨l3,s3,q3,rfl⟩;have hl2:l2.length=n:=by rw[h2.len];exact hl
   refine⟨l3,h2.trans (s3.mono (by omega) (qFH _)),Srt.join (c:=i) ?_ q3 ?_,rfl⟩
   ·refine Srt.out (l:=l2) (λu v hu huv hv=>?_) s3 (by omega) (.inl (qFH _));exact yp (h5 u hu (by omega)) (low v (by omega) (by omega))
   ·intro u v hu hui hv hvb;rw[s3.out (by omega) (.inl hui)];refine yp (h5 u hu hui) ?_;exact s3.all (by omega) (qFH _) (qFH _) (Q:=λz=>cmpT y z<=0) (λk hk1 hk2=>low k (by omega) hk2) v hv hvb
theorem qjZ{n m:Nat}(hn:n<16777216)(ih:PdS X n m){a b:Nat}(hm:b - a<=m+1)(hab:a+8<=b)(hb:b<=n)(lim:Int)(wb wp:Bool){l:List Tm}(hl:l.length=n)(hok:q8 l)(hlb:Lb a b l):
  Gets (qiS n a b lim wb wp (qE X l)) (SwM X a b (Srt a b) l):=by
 unfold qiS qt7;have hrl:(qE X l).length=n+X.length:=by unfold qE;rw[qFU,qb,hl]
 have ht:qFN n (qE X l)=qa l:=by unfold qE;exact List.take_left' (by rw[qb];exact hl)
 rw[hrl,nble,qGo (show 0+n<=n+X.length by omega),ht];simp only[qF7,cond_true];refine Gets.bind (qAD (by omega) (by omega) hab hok) ?_;rintro _ ⟨p,h,h1,h2,rfl⟩;simp only[yX,qT,qe,q9];have w9:qFD .i64 (qFD .i64 ((b:Int) - 1) - qFD .i64 ((p:Int) - (a:Int)))=((b - 1 - (p - a):Nat):Int):=by
  rw[qo (x:=(b:Int) - 1) (by omega) (by omega),qo (x:=(p:Int) - (a:Int)) (by omega) (by omega),qo (by omega) (by omega)];omega
 have tl:∀(p:Nat) (l2:List Tm),a<=p->p<b->Sw a b l l2->Gets (qaD n a b lim wb wp (qE X l2) p) (SwM X a b (Srt a b) l):=λp l2 h1 h2 h3=>
  (qt8 hn ih hm hab hb h1 h2 lim wb wp (by rw[h3.len];exact hl) (hok.perm h3.perm) (h3.lb (by omega) hlb)).mono λr hr=>hr.trans h3
 have tr:∀(p:Nat) (l2:List Tm),a<=p->p<b->Sw a b l l2->Gets (kOpt (EVd (EV cfg) 93 [.ms 0 0 n,.int .i64 (a:Int),.int .i64 (b:Int),cmpF] 4 (qE X l2)) fun(q:AV×List (List AV))=>qt q.1 fun(c:Bool)=>bif c then some (MV.unit,q.2)else qaD n a b lim wb wp q.2 p) (SwM X a b (Srt a b) l):=by
  intro p l2 h1 h2 h3;refine Gets.bind (qyh (by omega) hb (by omega) (by rw[h3.len];exact hl) (hok.perm h3.perm) (h3.lb (by omega) hlb)) ?_;rintro _ ⟨l3,_,h4,⟨c,rfl,h5⟩,rfl⟩;simp only[qp];cases c with
  |true=>exact⟨_,rfl,l3,h3.trans h4,h5 rfl,rfl⟩
  |false=>exact tl p l3 h1 h2 (h3.trans h4)
 cases hh:(h==(2:Int))with
 |true=>
  simp only[cond_true];refine Gets.bind (qAz (by omega) hb (by omega) hl hok) ?_;rintro _ ⟨l2,h3,_,rfl⟩;simp only[vq,w9];have q1:a<=b - 1 - (p - a):=by omega
  have q2:b - 1 - (p - a)<b:=by omega
  cases wb with
  |false=>exact tl _ l2 q1 q2 h3
  |true=>
   cases wp with
   |false=>exact tl _ l2 q1 q2 h3
   |true=>exact tr _ l2 q1 q2 h3
 |false=>
  simp only[cond_false];cases wb with
  |false=>exact tl p l h1 h2 (.refl _)
  |true=>
   cases wp with
   |false=>exact tl p l h1 h2 (.refl _)
   |true=>
    simp only[cond_true];cases(h==(1:Int))with
    |false=>exact tl p l h1 h2 (.refl _)
    |true=>exact tr p l h1 h2 (.refl _)
theorem qyj{n:Nat}(hn:n<16777216):∀m:Nat,PdS X n m:=by
 intro m
 induction m with
 |zero=>
  intro a b lim wb wp l hm hab hb hl hok hlb;have w1:qFD .i64 ((b:Int) - (a:Int))=((b - a:Nat):Int):=by rw[qo (by omega) (by omega)];omega
  refine qgR _ _ _ _ _ _ _ ?_;rw[w1,qGo (show((b - a:Nat):Int)<=12 by omega),cond_true];refine Gets.bind (qs3 (by omega) hb (by omega) hl hok) ?_;rintro _ ⟨l2,h2,q2,rfl⟩;simp only[vq];exact⟨_,rfl,l2,h2,q2,rfl⟩
 |succ m ih=>
  intro a b lim wb wp l hm hab hb hl hok hlb;have w1:qFD .i64 ((b:Int) - (a:Int))=((b - a:Nat):Int):=by rw[qo (by omega) (by omega)];omega
  refine qgR _ _ _ _ _ _ _ ?_
  by_cases h12:b - a<=12
  ·rw[w1,qGo (show((b - a:Nat):Int)<=12 by omega),cond_true];refine Gets.bind (qs3 (by omega) hb (by omega) hl hok) ?_;rintro _ ⟨l2,h2,q2,rfl⟩;simp only[vq];exact⟨_,rfl,l2,h2,q2,rfl⟩
  have e12:decide (qFD .i64 ((b:Int) - (a:Int))<=12)=false:=by rw[w1];exact qGp (by omega)
  rw[e12,cond_false];cases hlim:(lim==(0:Int))with
  |true=>
   rw[cond_true];refine Gets.bind (qyR (by omega) hb (by omega) hl hok) ?_;rintro _ ⟨l2,h2,q2,rfl⟩;simp only[vq];exact⟨_,rfl,l2,h2,q2,rfl⟩
  |false=>
   rw[cond_false];cases wb with
   |false=>
    simp only[qF4,cond_true];refine Gets.bind (qA6 hn hb (by omega) hl hok) ?_;rintro _ ⟨l2,h2,_,rfl⟩;simp only[vq];exact(qjZ hn ih hm (by omega) hb (qFD .i64 (lim - 1)) false wp (by rw[h2.len];exact hl) (hok.perm h2.perm) (h2.lb (by omega) hlb)).mono λr hr=>hr.trans h2
   |true=>
    simp only[qFW,cond_false];exact qjZ hn ih hm (by omega) hb lim true wp hl hok hlb
theorem qx0{n:Nat}(hn:n<16777216){l:List Tm}(hl:l.length=n)(hok:q8 l):
  Gets (EVm (EV cfg) 28 [.ms 0 0 n,cmpF] 4 (qE X l)) (SwM X 0 n (Srt 0 n) l):=by
 refine qvN _ _ ?_;rw[qbW (show n<18446744073709551616 by omega)];refine Gets.bind (qtb hn) ?_;rintro _ ⟨L,h1,h2,rfl⟩;simp only[qe];have h:=qp0 (qE X l) n 0 n L (qyj hn n 0 n L true true l (by omega) (by omega) (qFH _) hl hok λh=>by omega);refine Gets.bind h ?_;rintro _ ⟨l2,h2,q2,rfl⟩;simp only[vq];exact⟨_,rfl,l2,h2,q2,rfl⟩
def qEx:Den:=evC cfg (EV cfg) 8 none 0 (sub (qc Tryz.f8) [1,1,1,1,1,1,0,1,0,0])
def qE6:Ex×List AV×AH->Option AV:=kAft (Cfg.keepOut cfg 8 9) (kRun cfg (EV cfg) (kfN cfg 6) 8 none 0 (vX cfg (Cfg.lift cfg 8 0) Tryz.f8.results.toList) ([.block 0,.seq (sub (qc Tryz.f8) [1,1,1,1,1,1,1])]))
def qD6:List AV×AH->Option AV:=λp=>kOpt (LOOP 0 (some [1,4,6,8,9,10]) ([(8,4),(9,2)]) qEx p) qE6
def qCc:Den:=evC cfg (EV cfg) 33 none 0 (sub (qc Tryz.f33) [1,1,1,1,1,1,1,0,1,0,0])
def qCV:Ex×List AV×AH->Option AV:=kAft (Cfg.keepOut cfg 33 12) (kRun cfg (EV cfg) (kfN cfg 6) 33 none 0 (vX cfg (Cfg.lift cfg 33 0) Tryz.f33.results.toList) ([.block 0,.seq (sub (qc Tryz.f33) [1,1,1,1,1,1,1,1])]))
def qte:List AV×AH->Option AV:=λp=>kOpt (LOOP 0 (some [4,5,6,7]) ([]) qCc p) qCV
def qzD:Den:=evC cfg (EV cfg) 105 none 0 (sub (qc Tryz.f105) [1,1,0,1,0,0])
def qzV:Ex×List AV×AH->Option AV:=kAft (Cfg.keepOut cfg 105 4) (kRun cfg (EV cfg) (kfN cfg 6) 105 none 0 (vM cfg (Cfg.lift cfg 105 0) Tryz.f105.results.toList) ([.block 0,.seq (sub (qc Tryz.f105) [1,1,1])]))
def qzo:List AV×AH->Option AV:=λp=>kOpt (LOOP 0 (some [0,1,5]) ([]) qzD p) qzV
def qB7:Den:=evC cfg (EV cfg) 73 none 0 (sub (qc Tryz.f73) [1,1,1,0,1,0,0])
def qCQ:Ex×List AV×AH->Option AV:=kAft (Cfg.keepOut cfg 73 6) (kRun cfg (EV cfg) (kfN cfg 6) 73 none 0 (vM cfg (Cfg.lift cfg 73 0) Tryz.f73.results.toList) ([.block 0,.seq (sub (qc Tryz.f73) [1,1,1,1])]))
def qBl:List AV×AH->Option AV:=λp=>kOpt (LOOP 0 (some [2,3,5]) ([]) qB7 p) qCQ
def qja:Den:=evC cfg (EV cfg) 34 none 0 (sub (qc Tryz.f34) [1,1,0,1,0,0])
def qjg:Ex×List AV×AH->Option AV:=kAft (Cfg.keepOut cfg 34 3) (kRun cfg (EV cfg) (kfN cfg 6) 34 none 0 (vX cfg (Cfg.lift cfg 34 0) Tryz.f34.results.toList) ([.block 0,.seq (sub (qc Tryz.f34) [1,1,1])]))
def qBr:List AV×AH->Option AV:=λp=>kOpt (LOOP 0 (some [0,3,4]) ([(3,2)]) qja p) qjg
def qi9:Den:=evC cfg (EV cfg) 35 none 0 (sub (qc Tryz.f35) [1,1,0,1,0,0])
def qjf:Ex×List AV×AH->Option AV:=kAft (Cfg.keepOut cfg 35 3) (kRun cfg (EV cfg) (kfN cfg 6) 35 none 0 (vX cfg (Cfg.lift cfg 35 0) Tryz.f35.results.toList) ([.block 0,.seq (sub (qc Tryz.f35) [1,1,1])]))
def qBo:List AV×AH->Option AV:=λp=>kOpt (LOOP 0 (some [0,1,5,6]) ([(5,4)]) qi9 p) qjf
def qCb:Den:=evC cfg (EV cfg) 34 none 0 (sub (qc Tryz.f34) [1,1,0,1,0,0,1,0,0,1,0,1,0,0])
def qCU:Ex×List AV×AH->Option AV:=kAft (Cfg.keepOut cfg 34 7) (kRun cfg (EV cfg) (kfN cfg 6) 34 none 0 (kLp 0 (some [0,3,4]) ([(3,2)]) qja qjg) ([.block 2,.seq (sub (qc Tryz.f34) [1,1,0,1,0,0,1,0,0,1,1]),.block 1,.seq (sub (qc Tryz.f34) [1,1,0,1,0,0,1,1])]))
def qBq:List AV×AH->Option AV:=λp=>kOpt (LOOP 0 (some [0,3,4,5,6]) ([(3,2)]) qCb p) qCU
def qB9:Den:=evC cfg (EV cfg) 35 none 0 (sub (qc Tryz.f35) [1,1,0,1,0,0,1,0,0,1,0,1,0,0])
def qCS:Ex×List AV×AH->Option AV:=kAft (Cfg.keepOut cfg 35 7) (kRun cfg (EV cfg) (kfN cfg 6) 35 none 0 (kLp 0 (some [0,1,5,6]) ([(5,4)]) qi9 qjf) ([.block 2,.seq (sub (qc Tryz.f35) [1,1,0,1,0,0,1,0,0,1,1]),.block 1,.seq (sub (qc Tryz.f35) [1,1,0,1,0,0,1,1])]))
def qBn:List AV×AH->Option AV:=λp=>kOpt (LOOP 0 (some [0,1,5,6,7,8]) ([(5,4)]) qB9 p) qCS
def qCa:Den:=evC cfg (EV cfg) 34 none 0 (sub (qc Tryz.f34) [1,1,0,1,0,0,1,0,0,1,1,1,1,0,0,0])
def qCT:Ex×List AV×AH->Option AV:=kAft (Cfg.keepOut cfg 34 (qm (sub (qc Tryz.f34) [1,1,0,1,0,0,1,0,0,1,1,1,1,0,0,0]))) (vm 4 (kSeq (fun(fr:List AV) (H:AH)=>ve (Cfg.cut cfg 34 (qm (sub (qc Tryz.f34) [1,1,0,1,0,0,1,0,0,1,1,1,1,1]))) fr H fun(fr:List AV) (H:AH)=>qR cfg (EV cfg) (kfN cfg 6) 34 none 0 (sub (qc Tryz.f34) [1,1,0,1,0,0,1,0,0,1,1,1,1,1]) fr H (kRun cfg (EV cfg) (kfN cfg 6) 34 none 0 (kLp 0 (some [0,3,4]) [(3,2)] qja qjg) [Ko.block 1,Ko.seq (sub (qc Tryz.f34) [1,1,0,1,0,0,1,1])])) (kRun cfg (EV cfg) (kfN cfg 6) 34 none 0 (kLp 0 (some [0,3,4]) [(3,2)] qja qjg) [Ko.block 1,Ko.seq (sub (qc Tryz.f34) [1,1,0,1,0,0,1,1])])))
def qBp:List AV×AH->Option AV:=fun(p:List AV×AH)=>kOpt (LOOP 0 (some [0,3,4,8]) [(3,2)] qCa p) qCT
def qB8:Den:=evC cfg (EV cfg) 35 none 0 (sub (qc Tryz.f35) [1,1,0,1,0,0,1,0,0,1,1,1,0,0,0])
def qCR:Ex×List AV×AH->Option AV:=kAft (Cfg.keepOut cfg 35 (qm (sub (qc Tryz.f35) [1,1,0,1,0,0,1,0,0,1,1,1,0,0,0]))) (vm 4 (kSeq (fun(fr:List AV) (H:AH)=>ve (Cfg.cut cfg 35 (qm (sub (qc Tryz.f35) [1,1,0,1,0,0,1,0,0,1,1,1,1]))) fr H fun(fr:List AV) (H:AH)=>qR cfg (EV cfg) (kfN cfg 6) 35 none 0 (sub (qc Tryz.f35) [1,1,0,1,0,0,1,0,0,1,1,1,1]) fr H (kRun cfg (EV cfg) (kfN cfg 6) 35 none 0 (kLp 0 (some [0,1,5,6]) [(5,4)] qi9 qjf) [Ko.block 1,Ko.seq (sub (qc Tryz.f35) [1,1,0,1,0,0,1,1])])) (kRun cfg (EV cfg) (kfN cfg 6) 35 none 0 (kLp 0 (some [0,1,5,6]) [(5,4)] qi9 qjf) [Ko.block 1,Ko.seq (sub (qc Tryz.f35) [1,1,0,1,0,0,1,1])])))
def qBm:List AV×AH->Option AV:=fun(p:List AV×AH)=>kOpt (LOOP 0 (some [0,1,5,6,7,9]) [(5,4)] qB8 p) qCR
abbrev qc6(pos:Int)(rows:Rz)(nv8 nv9:Nat)(v10:Int)(c0_0:Bool)(c0_1 c0_2 h1 h2:Rz):Option (AV):=qD6 (((fx 65 [(1,.int .i64 pos),(4,.ptr 0 0 0),(6,.sl rows),(8,.ms 1 0 nv8),(9,.ms 2 0 nv9),(10,.int .i64 v10)]):List AV),([.rows false 3 [[.bool c0_0,.sl c0_1,.sl c0_2]],.rows true 4 h1,.rows true 2 h2]:AH))
abbrev qsL(v7:Int)(c0_0 c0_1 c0_2:Bool)(c0_3 c0_4:Int)(c0_5:Bz)(c0_7 c1_0 c1_1:Int)(c1_2:Bz)(c1_3:Rz)(c2_0:Int):Option (AV):=qte (((fx 63 [(4,.ptr 0 0 0),(5,.ptr 1 0 0),(6,.ptr 2 0 0),(7,.int .i64 v7)]):List AV),([.rows false 9 [[.bool c0_0,.bool c0_1,.bool c0_2,.int .i64 c0_3,.int .i64 c0_4,.str c0_5,.nilS,.int .i64 c0_7,.nilS]],.rows false 4 [[.int .i64 c1_0,.int .i64 c1_1,.str c1_2,.sl c1_3]],.rows false 2 [[.int .i64 c2_0,.nilS]]]:AH))
abbrev qfh(L M:Rz)(v5:Int):Option (AV):=qzo (((fx 27 [(0,.sl L),(1,.sl M),(5,.int .i64 v5)]):List AV),([]:AH))
abbrev qio(v5 c0_0:Int)(c0_1:Rz)(c1_0:Int)(c1_1:Rz):Option (AV):=qBl (((fx 53 [(2,.ptr 0 0 0),(3,.ptr 1 0 0),(5,.int .i64 v5)]):List AV),([.rows false 2 [[.int .i64 c0_0,.sl c0_1]],.rows false 2 [[.int .i64 c1_0,.sl c1_1]]]:AH))
abbrev qa2(R:Rz)(nv3:Nat)(v4:Int)(h0:Rz):Option (AV):=qBr (((fx 102 [(0,.sl R),(3,.ms 0 0 nv3),(4,.int .i64 v4)]):List AV),([.rows true 2 h0]:AH))
abbrev yu(L R:Rz)(nv5:Nat)(v6:Int)(h0:Rz):Option (AV):=qBo (((fx 89 [(0,.sl L),(1,.sl R),(5,.ms 0 0 nv5),(6,.int .i64 v6)]):List AV),([.rows true 4 h0]:AH))
abbrev qfg(v7:Int)(c0_0 c0_1 c0_2:Bool)(c0_3 c0_4:Int)(c0_5:Bz)(c0_7 c1_0 c1_1:Int)(c1_2:Bz)(c1_3:Rz)(c2_0:Int)(nc2_1:Nat)(h3:Rz):Option (AV):=qte (((fx 63 [(4,.ptr 0 0 0),(5,.ptr 1 0 0),(6,.ptr 2 0 0),(7,.int .i64 v7)]):List AV),([.rows false 9 [[.bool c0_0,.bool c0_1,.bool c0_2,.int .i64 c0_3,.int .i64 c0_4,.str c0_5,.nilS,.int .i64 c0_7,.nilS]],.rows false 4 [[.int .i64 c1_0,.int .i64 c1_1,.str c1_2,.sl c1_3]],.rows false 2 [[.int .i64 c2_0,.ms 3 0 nc2_1]],.rows true 4 h3]:AH))
abbrev zp(R:Rz)(nv3:Nat)(v4:Int)(v5:Bool)(v6:Int)(h0:Rz):Option (AV):=qBq (((fx 102 [(0,.sl R),(3,.ms 0 0 nv3),(4,.int .i64 v4),(5,.bool v5),(6,.int .i64 v6)]):List AV),([.rows true 2 h0]:AH))
abbrev qeF(L R:Rz)(nv5:Nat)(v6:Int)(v7:Bool)(v8:Int)(h0:Rz):Option (AV):=qBn (((fx 89 [(0,.sl L),(1,.sl R),(5,.ms 0 0 nv5),(6,.int .i64 v6),(7,.bool v7),(8,.int .i64 v8)]):List AV),([.rows true 4 h0]:AH))
abbrev qeG(R:Rz)(nv3:Nat)(v4 v8:Int)(h0:Rz):Option (AV):=qBp (((fx 102 [(0,.sl R),(3,.ms 0 0 nv3),(4,.int .i64 v4),(8,.int .i64 v8)]):List AV),([.rows true 2 h0]:AH))
abbrev qeE(L R:Rz)(nv5:Nat)(v6:Int)(v7:Bool)(v9:Int)(h0:Rz):Option (AV):=qBm (((fx 89 [(0,.sl L),(1,.sl R),(5,.ms 0 0 nv5),(6,.int .i64 v6),(7,.bool v7),(9,.int .i64 v9)]):List AV),([.rows true 4 h0]:AH))
theorem qAC(kt nt:Int)(st:Bz)(lt:Rz)(pos:Int){P:AV->Prop}(h:Gets (kOpt (EVf (EV cfg) 32 [.agg [.int .i64 kt,.int .i64 nt,.str st,.sl lt]]) λv=>kTup v λcs=>ql cs λc cs=>kSl c λrows=>ql cs λc cs=>kInt .i64 c λn=>kNil cs (bif n != 0 then some (AV.tup [.agg [.bool false,.sl [],.sl []],.int .i64 n])else bif decide (pos<1)then some (AV.tup [.agg [.bool false,.sl [],.sl []],.int .i64 2])else bif decide (pos>64)then some (AV.tup [.agg [.bool false,.sl [],.sl []],.int .i64 2])else qc6 pos rows 0 0 0 false [] [] [] [])) P):Gets (EVf (EV cfg) 8 [.agg [.int .i64 kt,.int .i64 nt,.str st,.sl lt],.int .i64 pos]) P:=
  gE (λ_=>funF rfl rfl Tryz.func8 rfl) (by kernel_rfl) h
theorem qyb(kt nt:Int)(st:Bz)(lt:Rz)(pos:Int){P:AV->Prop}(h:Gets (bif kt != 7 then some (.agg [.bool true,.bool false,.bool false,.int .i64 0,.int .i64 0,.str [],.sl [],.int .i64 0,.sl []])else bif decide ((lt.length:Int)<pos)then some (.agg [.bool false,.bool false,.bool false,.int .i64 0,.int .i64 0,.str [],.sl [],.int .i64 0,.sl []])else rs4 lt (qFD .i64 (pos - 1)) λn n_1 s rows=>(kOpt (EVs (EV cfg) 71 [.agg [.int .i64 n,.int .i64 n_1,.str s,.sl rows]]) λv=>qt v λb=>bif b then some (.agg [.bool false,.bool true,.bool false,.int .i64 n,.int .i64 n_1,.str s,.sl rows,.int .i64 0,.sl []])else bif n != 7 then some (AV.agg [.bool true,.bool false,.bool false,.int .i64 0,.int .i64 0,.str [],.sl [],.int .i64 0,.sl []])else qsL 0 false false false 0 0 [] 0 n n_1 s rows (rows.length:Int))) P):Gets (EVf (EV cfg) 33 [.agg [.int .i64 kt,.int .i64 nt,.str st,.sl lt],.int .i64 pos]) P:=
  gE (λ_=>funF rfl rfl Tryz.func33 rfl) (by kernel_rfl) h
theorem qrN(L M:Rz){P:AV->Prop}(h:Gets (bif decide ((L.length:Int)<(M.length:Int))then some (.bool false)else qfh L M 0) P):Gets (EVs (EV cfg) 105 [.sl L,.sl M]) P:=
  gE (λ_=>funS rfl rfl Tryz.func105 rfl) (by kernel_rfl) h
theorem qrL(ar:Int)(fs:Rz)(kt nt:Int)(st:Bz)(lt:Rz){P:AV->Prop}(h:Gets (bif kt==7 then bif(lt.length:Int)==ar then kOpt (EVs (EV cfg) 105 [.sl lt,.sl fs]) λv=>qt v λb=>some (.bool b)else some (.bool false)else some (.bool false)) P):Gets (EVs (EV cfg) 74 [.agg [.int .i64 ar,.sl fs],.agg [.int .i64 kt,.int .i64 nt,.str st,.sl lt]]) P:=
  gE (λ_=>funS rfl rfl Tryz.func74 rfl) (by kernel_rfl) h
theorem qv2(ar:Int)(fs:Rz)(br:Int)(gs:Rz){P:AV->Prop}(h:Gets (bif ar==br then kOpt (EVs (EV cfg) 105 [.sl fs,.sl gs]) λv=>qt v λb=>some (.bool b)else some (.bool false)) P):Gets (EVs (EV cfg) 72 [.agg [.int .i64 ar,.sl fs],.agg [.int .i64 br,.sl gs]]) P:=
  gE (λ_=>funS rfl rfl Tryz.func72 rfl) (by kernel_rfl) h
theorem qtW(ar:Int)(fs:Rz)(br:Int)(gs:Rz){P:AV->Prop}(h:Gets (bif ar != br then some (.bool (decide (ar<br)))else bif(fs.length:Int) != (gs.length:Int)then some (.bool (decide ((fs.length:Int)<(gs.length:Int))))else qio 0 ar fs br gs) P):Gets (EVs (EV cfg) 73 [.agg [.int .i64 ar,.sl fs],.agg [.int .i64 br,.sl gs]]) P:=
  gE (λ_=>funS rfl rfl Tryz.func73 rfl) (by kernel_rfl) h
theorem qrM(R:Rz){P:AV->Prop}(h:Gets (qa2 R 0 0 []) P):Gets (EVf (EV cfg) 34 [.sl R]) P:=
  gE (λ_=>funF rfl rfl Tryz.func34 rfl) (by kernel_rfl) h
theorem qv3(L R:Rz){P:AV->Prop}(h:Gets (yu L R 0 0 []) P):Gets (EVf (EV cfg) 35 [.sl L,.sl R]) P:=
  gE (λ_=>funF rfl rfl Tryz.func35 rfl) (by kernel_rfl) h
theorem qjC(pos:Int)(rows:Rz)(nv8 nv9:Nat)(v10:Int)(c0_0:Bool)(c0_1 c0_2 h1 h2:Rz){P:AV->Prop}(h:Gets (bif decide (v10<(rows.length:Int))then bif qj 0 v10&&qA v10 (rows.length:Int)then kOpt (qFG rows (v10.toNat)) λrow=>bif qFY (qFI row) 6 then bif qFR 4 (qFI row)then kTmC (qFN 4 row) λn n_1 s rows_1=>(kOpt (EVf (EV cfg) 33 [.agg [.int .i64 n,.int .i64 n_1,.str s,.sl rows_1],.int .i64 pos]) λv=>kAgg v λcs=>ql cs λc cs=>qt c λb=>ql cs λc cs=>qt c λb_1=>ql cs λc cs=>qt c λb_2=>ql cs λc cs=>kInt .i64 c λn=>ql cs λc cs=>kInt .i64 c λn_2=>ql cs λc cs=>kStr c λs=>ql cs λc cs=>kSl c λrows_2=>ql cs λc cs=>kInt .i64 c λn_3=>ql cs λc cs=>kSl c λrows_3=>kNil cs (bif b then some (AV.tup [.agg [.bool true,.sl [],.sl []],.int .i64 0])else bif b_1 then bif qFR (0+nv8) (qFI h1)&&qI (nv8+1) 56 then bif b_2 then bif qFR (0+nv9) (qFI h2)&&qI (nv9+1) 32 then qc6 pos rows (nv8+1) (nv9+1) (qFD .i64 (v10+1)) c0_0 c0_1 c0_2 (qF2 (qFN nv8 h1) [[AV.int .i64 n,.int .i64 n_2,.str s,.sl rows_2]]) (qF2 (qFN nv9 h2) [[AV.int .i64 n_3,.sl rows_3]])else none else qc6 pos rows (nv8+1) nv9 (qFD .i64 (v10+1)) c0_0 c0_1 c0_2 (qF2 (qFN nv8 h1) [[AV.int .i64 n,.int .i64 n_2,.str s,.sl rows_2]]) h2 else none else bif b_2 then bif qFR (0+nv9) (qFI h2)&&qI (nv9+1) 32 then qc6 pos rows nv8 (nv9+1) (qFD .i64 (v10+1)) c0_0 c0_1 c0_2 h1 (qF2 (qFN nv9 h2) [[AV.int .i64 n_3,.sl rows_3]])else none else qc6 pos rows nv8 nv9 (qFD .i64 (v10+1)) c0_0 c0_1 c0_2 h1 h2))else none else none else none else bif qFR (0+nv9) (qFI h2)&&true then kOpt (EVf (EV cfg) 34 [.sl (qFN nv9 h2)]) λv=>kSl v λrows=>bif qFR (0+nv8) (qFI h1)&&true then kOpt (EVf (EV cfg) 35 [.sl (qFN nv8 h1),.sl rows]) λv=>kSl v λrows_1=>some (AV.tup [.agg [.bool false,.sl rows_1,.sl rows],.int .i64 0])else none else none) P):Gets (qc6 pos rows nv8 nv9 v10 c0_0 c0_1 c0_2 h1 h2) P:=
  gE (λ_=>qg (cfg:=cfg) (f:=8) (rd:=none) (bs:=0)) (by kernel_rfl) h
theorem qo9(v7:Int)(c0_0 c0_1 c0_2:Bool)(c0_3 c0_4:Int)(c0_5:Bz)(c0_7 c1_0 c1_1:Int)(c1_2:Bz)(c1_3:Rz)(c2_0:Int){P:AV->Prop}(h:Gets (bif decide (v7<(c1_3.length:Int))then rs4 c1_3 v7 λn n_1 s rows=>(kOpt (EVs (EV cfg) 71 [.agg [.int .i64 n,.int .i64 n_1,.str s,.sl rows]]) λv=>qt v λb=>bif b then rs4 c1_3 v7 λn n_2 s rows=>(bif qI 1 56 then qfg (qFD .i64 (v7+1)) c0_0 c0_1 c0_2 c0_3 c0_4 c0_5 c0_7 c1_0 c1_1 c1_2 c1_3 c2_0 1 [[AV.int .i64 n,.int .i64 n_2,.str s,.sl rows]]else none)else some (AV.agg [.bool false,.bool false,.bool true,.int .i64 0,.int .i64 0,.str [],.sl [],.int .i64 c2_0,.sl []]))else some (.agg [.bool false,.bool false,.bool true,.int .i64 0,.int .i64 0,.str [],.sl [],.int .i64 c2_0,.sl []])) P):Gets (qsL v7 c0_0 c0_1 c0_2 c0_3 c0_4 c0_5 c0_7 c1_0 c1_1 c1_2 c1_3 c2_0) P:=
  gE (λ_=>qg (cfg:=cfg) (f:=33) (rd:=none) (bs:=0)) (by kernel_rfl) h
theorem qf3(L M:Rz)(v5:Int){P:AV->Prop}(h:Gets (bif decide (v5<(M.length:Int))then rs4 L v5 λn n_1 s rows=>(rs4 M v5 λn_2 n_3 s_1 rows_1=>(kOpt (EVs (EV cfg) 76 [.agg [.int .i64 n,.int .i64 n_1,.str s,.sl rows],.agg [.int .i64 n_2,.int .i64 n_3,.str s_1,.sl rows_1]]) λv=>qt v λb=>bif ! b then some (.bool false)else qfh L M (qFD .i64 (v5+1))))else some (.bool true)) P):Gets (qfh L M v5) P:=
  gE (λ_=>qg (cfg:=cfg) (f:=105) (rd:=none) (bs:=0)) (by kernel_rfl) h
theorem qgA(v5 c0_0:Int)(c0_1:Rz)(c1_0:Int)(c1_1:Rz){P:AV->Prop}(h:Gets (bif decide (v5<(c0_1.length:Int))then rs4 c0_1 v5 λn n_1 s rows=>(rs4 c1_1 v5 λn_2 n_3 s_1 rows_1=>(kOpt (EVs (EV cfg) 75 [.agg [.int .i64 n,.int .i64 n_1,.str s,.sl rows],.agg [.int .i64 n_2,.int .i64 n_3,.str s_1,.sl rows_1]]) λv=>kInt .i64 v λn=>bif n != 0 then some (.bool (decide (n<0)))else qio (qFD .i64 (v5+1)) c0_0 c0_1 c1_0 c1_1))else some (.bool false)) P):Gets (qio v5 c0_0 c0_1 c1_0 c1_1) P:=
  gE (λ_=>qg (cfg:=cfg) (f:=73) (rd:=none) (bs:=0)) (by kernel_rfl) h
theorem qgG(R:Rz)(nv3:Nat)(v4:Int)(h0:Rz){P:AV->Prop}(h:Gets (bif decide (v4<(R.length:Int))then zp R nv3 v4 true 0 h0 else bif qFR (0+nv3) (qFI h0)&&true then some (.sl (qFN nv3 h0))else none) P):Gets (qa2 R nv3 v4 h0) P:=
  gE (λ_=>qg (cfg:=cfg) (f:=34) (rd:=none) (bs:=0)) (by kernel_rfl) h
theorem qgD(L R:Rz)(nv5:Nat)(v6:Int)(h0:Rz){P:AV->Prop}(h:Gets (bif decide (v6<(L.length:Int))then qeF L R nv5 v6 false 0 h0 else bif qFR (0+nv5) (qFI h0)&&true then some (.sl (qFN nv5 h0))else none) P):Gets (yu L R nv5 v6 h0) P:=
  gE (λ_=>qg (cfg:=cfg) (f:=35) (rd:=none) (bs:=0)) (by kernel_rfl) h
theorem qf2(v7:Int)(c0_0 c0_1 c0_2:Bool)(c0_3 c0_4:Int)(c0_5:Bz)(c0_7 c1_0 c1_1:Int)(c1_2:Bz)(c1_3:Rz)(c2_0:Int)(nc2_1:Nat)(h3:Rz){P:AV->Prop}(h:Gets (bif decide (v7<(c1_3.length:Int))then rs4 c1_3 v7 λn n_1 s rows=>(kOpt (EVs (EV cfg) 71 [.agg [.int .i64 n,.int .i64 n_1,.str s,.sl rows]]) λv=>qt v λb=>bif b then rs4 c1_3 v7 λn n_2 s rows=>(bif qFR (0+nc2_1) (qFI h3)&&qI (nc2_1+1) 56 then qfg (qFD .i64 (v7+1)) c0_0 c0_1 c0_2 c0_3 c0_4 c0_5 c0_7 c1_0 c1_1 c1_2 c1_3 c2_0 (nc2_1+1) (qF2 (qFN nc2_1 h3) [[AV.int .i64 n,.int .i64 n_2,.str s,.sl rows]])else none)else bif qFR (0+nc2_1) (qFI h3)&&true then some (AV.agg [.bool false,.bool false,.bool true,.int .i64 0,.int .i64 0,.str [],.sl [],.int .i64 c2_0,.sl (qFN nc2_1 h3)])else none)else bif qFR (0+nc2_1) (qFI h3)&&true then some (.agg [.bool false,.bool false,.bool true,.int .i64 0,.int .i64 0,.str [],.sl [],.int .i64 c2_0,.sl (qFN nc2_1 h3)])else none) P):Gets (qfg v7 c0_0 c0_1 c0_2 c0_3 c0_4 c0_5 c0_7 c1_0 c1_1 c1_2 c1_3 c2_0 nc2_1 h3) P:=
  gE (λ_=>qg (cfg:=cfg) (f:=33) (rd:=none) (bs:=0)) (by kernel_rfl) h
theorem qgF(R:Rz)(nv3:Nat)(v4:Int)(v5:Bool)(v6:Int)(h0:Rz){P:AV->Prop}(h:Gets (bif decide (v6<(R.length:Int))then rs2 R v4 λn rows=>rs2 R v6 λn_1 rows_1=>kOpt (EVs (EV cfg) 72 [.agg [.int .i64 n,.sl rows],.agg [.int .i64 n_1,.sl rows_1]]) λv=>qt v λb=>bif b then rs2 R v6 λn rows=>rs2 R v4 λn_2 rows_2=>kOpt (EVs (EV cfg) 72 [.agg [.int .i64 n,.sl rows],.agg [.int .i64 n_2,.sl rows_2]]) λv=>qt v λb=>bif v6 != v4 then rs2 R v4 λn rows=>rs2 R v6 λn_3 rows_3=>kOpt (EVs (EV cfg) 72 [.agg [.int .i64 n,.sl rows],.agg [.int .i64 n_3,.sl rows_3]]) λv=>qt v λb_1=>bif b_1 then bif ! b then zp R nv3 v4 false (qFD .i64 (v6+1)) h0 else bif decide (v6<v4)then zp R nv3 v4 false (qFD .i64 (v6+1)) h0 else zp R nv3 v4 v5 (qFD .i64 (v6+1)) h0 else zp R nv3 v4 v5 (qFD .i64 (v6+1)) h0 else zp R nv3 v4 v5 (qFD .i64 (v6+1)) h0 else bif v6 != v4 then rs2 R v4 λn rows=>rs2 R v6 λn_2 rows_2=>kOpt (EVs (EV cfg) 72 [.agg [.int .i64 n,.sl rows],.agg [.int .i64 n_2,.sl rows_2]]) λv=>qt v λb=>bif b then zp R nv3 v4 false (qFD .i64 (v6+1)) h0 else zp R nv3 v4 v5 (qFD .i64 (v6+1)) h0 else zp R nv3 v4 v5 (qFD .i64 (v6+1)) h0 else bif ! v5 then qa2 R nv3 (qFD .i64 (v4+1)) h0 else qeG R nv3 v4 0 h0) P):Gets (zp R nv3 v4 v5 v6 h0) P:=
  gE (λ_=>qg (cfg:=cfg) (f:=34) (rd:=none) (bs:=0)) (by kernel_rfl) h
theorem qgC(L R:Rz)(nv5:Nat)(v6:Int)(v7:Bool)(v8:Int)(h0:Rz){P:AV->Prop}(h:Gets (bif decide (v8<(R.length:Int))then bif v7 then qeF L R nv5 v6 true (qFD .i64 (v8+1)) h0 else rs2 R v8 λn rows=>rs4 L v6 λn_1 n_2 s rows_1=>(kOpt (EVs (EV cfg) 74 [.agg [.int .i64 n,.sl rows],.agg [.int .i64 n_1,.int .i64 n_2,.str s,.sl rows_1]]) λv=>qt v λb=>qeF L R nv5 v6 b (qFD .i64 (v8+1)) h0)else qeE L R nv5 v6 v7 0 h0) P):Gets (qeF L R nv5 v6 v7 v8 h0) P:=
  gE (λ_=>qg (cfg:=cfg) (f:=35) (rd:=none) (bs:=0)) (by kernel_rfl) h
abbrev zE9(R:Rz)(v8:Int)(nv3:Nat)(h0:Rz)(v4 n:Int)(rows:Rz):Option (AV):=qa2 R (qFQ v8 - 0+1+qFI (qFN (0+qFI (qFN (nv3 - v8.toNat) (qGb (0+v8.toNat) h0))) (qFN (nv3 - v8.toNat) (qGb (0+v8.toNat) h0)))) (qFD .i64 (v4+1)) (qF2 (qFN (qFQ v8 - 0+1) (qF2 (qFN (qFQ v8 - 0) h0) [[AV.int .i64 n,.sl rows]])) (qFN (0+qFI (qFN (nv3 - v8.toNat) (qGb (0+v8.toNat) h0))) (qFN (nv3 - v8.toNat) (qGb (0+v8.toNat) h0))))
abbrev zE8(v8:Int)(h0:Rz)(n:Int)(rows:Rz)(nv3:Nat)(R:Rz)(v4:Int):Option (AV):=bif qFR (0+(qFQ v8 - 0+1)) (qFI (qF2 (qFN (qFQ v8 - 0) h0) [[AV.int .i64 n,.sl rows]]))&&qI (qFQ v8 - 0+1+qFI (qFN (0+qFI (qFN (nv3 - v8.toNat) (qGb (0+v8.toNat) h0))) (qFN (nv3 - v8.toNat) (qGb (0+v8.toNat) h0)))) 32 then zE9 R v8 nv3 h0 v4 n rows else none
abbrev zE7(nv3:Nat)(v8:Int)(h0:Rz)(n:Int)(rows R:Rz)(v4:Int):Option (AV):=bif qFR (0+(0+qFI (qFN (nv3 - v8.toNat) (qGb (0+v8.toNat) h0)))) (qFI (qFN (nv3 - v8.toNat) (qGb (0+v8.toNat) h0)))then zE8 v8 h0 n rows nv3 R v4 else none
abbrev zE6(v8:Int)(h0:Rz)(nv3:Nat)(n:Int)(rows R:Rz)(v4:Int):Option (AV):=bif qFR (0+(qFQ v8 - 0)) (qFI h0)&&qI (qFQ v8 - 0+1) 32 then zE7 nv3 v8 h0 n rows R v4 else none
abbrev zE5(R:Rz)(v4 v8:Int)(h0:Rz)(nv3:Nat):Option (AV):=rs2 R v4 λn rows=>zE6 v8 h0 nv3 n rows R v4
abbrev zE4(v8:Int)(nv3:Nat)(R:Rz)(v4:Int)(h0:Rz):Option (AV):=bif qj (↑ (v8.toNat):Int) v8&&qj v8 (↑ nv3:Int)then zE5 R v4 v8 h0 nv3 else none
abbrev zE3(v8:Int)(nv3:Nat)(R:Rz)(v4:Int)(h0:Rz):Option (AV):=bif qj 0 v8&&qj v8 (↑ nv3:Int)then zE4 v8 nv3 R v4 h0 else none
abbrev zE2(nv3:Nat)(v8:Int)(h0 R:Rz)(v4:Int):Option (AV):=bif qI (0+qFI (qFN (nv3 - v8.toNat) (qGb (0+v8.toNat) h0))) 32 then zE3 v8 nv3 R v4 h0 else none
abbrev zE1(v8:Int)(nv3:Nat)(h0 R:Rz)(v4:Int):Option (AV):=bif qFR (0+qFQ v8+(nv3 - v8.toNat)) (qFI h0)then zE2 nv3 v8 h0 R v4 else none
abbrev zE0(v8:Int)(nv3:Nat)(h0 R:Rz)(v4:Int):Option (AV):=bif qj 0 v8&&qj v8 (↑ nv3:Int)then zE1 v8 nv3 h0 R v4 else none
theorem qgE(R:Rz)(nv3:Nat)(v4 v8:Int)(h0:Rz){P:AV->Prop}(h:Gets (bif decide (v8<(↑ nv3:Int))then rd2 nv3 h0 v8 λn rows=>rs2 R v4 λn_1 rows_1=>kOpt (EVs (EV cfg) 73 [.agg [.int .i64 n,.sl rows],.agg [.int .i64 n_1,.sl rows_1]]) λv=>qt v λb=>bif b then qeG R nv3 v4 (qFD .i64 (v8+1)) h0 else zE0 v8 nv3 h0 R v4 else zE0 v8 nv3 h0 R v4) P):Gets (qeG R nv3 v4 v8 h0) P:=
  gE (λ_=>qg (cfg:=cfg) (f:=34) (rd:=none) (bs:=0)) (by kernel_rfl) h
theorem qgB(L R:Rz)(nv5:Nat)(v6:Int)(v7:Bool)(v9:Int)(h0:Rz){P:AV->Prop}(h:Gets (bif decide (v9<(↑ nv5:Int))then rd4 nv5 h0 v9 λn n_1 s rows=>(rs4 L v6 λn_2 n_3 s_1 rows_1=>(kOpt (EVs (EV cfg) 75 [.agg [.int .i64 n,.int .i64 n_1,.str s,.sl rows],.agg [.int .i64 n_2,.int .i64 n_3,.str s_1,.sl rows_1]]) λv=>kInt .i64 v λn=>bif decide (n<0)then qeE L R nv5 v6 v7 (qFD .i64 (v9+1)) h0 else bif v7 then yu L R nv5 (qFD .i64 (v6+1)) h0 else bif decide (v9<(↑ nv5:Int))then rd4 nv5 h0 v9 λn n_4 s rows=>(rs4 L v6 λn_5 n_6 s_2 rows_2=>(kOpt (EVs (EV cfg) 76 [.agg [.int .i64 n,.int .i64 n_4,.str s,.sl rows],AV.agg [.int .i64 n_5,.int .i64 n_6,.str s_2,.sl rows_2]]) λv=>qt v λb=>bif b then yu L R nv5 (qFD .i64 (v6+1)) h0 else bif qj 0 v9&&qj v9 (↑ nv5:Int)then bif qFR (0+qFQ v9+(nv5 - v9.toNat)) (qFI h0)then bif qI (0+qFI (qFN (nv5 - v9.toNat) (qGb (0+v9.toNat) h0))) 56 then bif qj 0 v9&&qj v9 (↑ nv5:Int)then bif qj (↑ (v9.toNat):Int) v9&&qj v9 (↑ nv5:Int)then rs4 L v6 λn n_7 s rows=>(bif qFR (0+(qFQ v9 - 0)) (qFI h0)&&qI (qFQ v9 - 0+1) 56 then bif qFR (0+(0+qFI (qFN (nv5 - v9.toNat) (qGb (0+v9.toNat) h0)))) (qFI (qFN (nv5 - v9.toNat) (qGb (0+v9.toNat) h0)))then bif qFR (0+(qFQ v9 - 0+1)) (qFI (qF2 (qFN (qFQ v9 - 0) h0) [[AV.int .i64 n,.int .i64 n_7,.str s,.sl rows]]))&&qI (qFQ v9 - 0+1+qFI (qFN (0+qFI (qFN (nv5 - v9.toNat) (qGb (0+v9.toNat) h0))) (qFN (nv5 - v9.toNat) (qGb (0+v9.toNat) h0)))) 56 then yu L R (qFQ v9 - 0+1+qFI (qFN (0+qFI (qFN (nv5 - v9.toNat) (qGb (0+v9.toNat) h0))) (qFN (nv5 - v9.toNat) (qGb (0+v9.toNat) h0)))) (qFD .i64 (v6+1)) (qF2 (qFN (qFQ v9 - 0+1) (qF2 (qFN (qFQ v9 - 0) h0) [[AV.int .i64 n,.int .i64 n_7,.str s,.sl rows]])) (qFN (0+qFI (qFN (nv5 - v9.toNat) (qGb (0+v9.toNat) h0))) (qFN (nv5 - v9.toNat) (qGb (0+v9.toNat) h0))))else none else none else none)else none else none else none else none else none))else bif qj 0 v9&&qj v9 (↑ nv5:Int)then bif qFR (0+qFQ v9+(nv5 - v9.toNat)) (qFI h0)then bif qI (0+qFI (qFN (nv5 - v9.toNat) (qGb (0+v9.toNat) h0))) 56 then bif qj 0 v9&&qj v9 (↑ nv5:Int)then bif qj (↑ (v9.toNat):Int) v9&&qj v9 (↑ nv5:Int)then rs4 L v6 λn n_4 s rows=>(bif qFR (0+(qFQ v9 - 0)) (qFI h0)&&qI (qFQ v9 - 0+1) 56 then bif qFR (0+(0+qFI (qFN (nv5 - v9.toNat) (qGb (0+v9.toNat) h0)))) (qFI (qFN (nv5 - v9.toNat) (qGb (0+v9.toNat) h0)))then bif qFR (0+(qFQ v9 - 0+1)) (qFI (qF2 (qFN (qFQ v9 - 0) h0) [[AV.int .i64 n,.int .i64 n_4,.str s,.sl rows]]))&&qI (qFQ v9 - 0+1+qFI (qFN (0+qFI (qFN (nv5 - v9.toNat) (qGb (0+v9.toNat) h0))) (qFN (nv5 - v9.toNat) (qGb (0+v9.toNat) h0)))) 56 then yu L R (qFQ v9 - 0+1+qFI (qFN (0+qFI (qFN (nv5 - v9.toNat) (qGb (0+v9.toNat) h0))) (qFN (nv5 - v9.toNat) (qGb (0+v9.toNat) h0)))) (qFD .i64 (v6+1)) (qF2 (qFN (qFQ v9 - 0+1) (qF2 (qFN (qFQ v9 - 0) h0) [[AV.int .i64 n,.int .i64 n_4,.str s,.sl rows]])) (qFN (0+qFI (qFN (nv5 - v9.toNat) (qGb (0+v9.toNat) h0))) (qFN (nv5 - v9.toNat) (qGb (0+v9.toNat) h0))))else none else none else none)else none else none else none else none else none))else bif v7 then yu L R nv5 (qFD .i64 (v6+1)) h0 else bif decide (v9<(↑ nv5:Int))then rd4 nv5 h0 v9 λn n_1 s rows=>(rs4 L v6 λn_2 n_3 s_1 rows_1=>(kOpt (EVs (EV cfg) 76 [.agg [.int .i64 n,.int .i64 n_1,.str s,.sl rows],.agg [.int .i64 n_2,.int .i64 n_3,.str s_1,.sl rows_1]]) λv=>qt v λb=>bif b then yu L R nv5 (qFD .i64 (v6+1)) h0 else bif qj 0 v9&&qj v9 (↑ nv5:Int)then bif qFR (0+qFQ v9+(nv5 - v9.toNat)) (qFI h0)then bif qI (0+qFI (qFN (nv5 - v9.toNat) (qGb (0+v9.toNat) h0))) 56 then bif qj 0 v9&&qj v9 (↑ nv5:Int)then bif qj (↑ (v9.toNat):Int) v9&&qj v9 (↑ nv5:Int)then rs4 L v6 λn n_4 s rows=>(bif qFR (0+(qFQ v9 - 0)) (qFI h0)&&qI (qFQ v9 - 0+1) 56 then bif qFR (0+(0+qFI (qFN (nv5 - v9.toNat) (qGb (0+v9.toNat) h0)))) (qFI (qFN (nv5 - v9.toNat) (qGb (0+v9.toNat) h0)))then bif qFR (0+(qFQ v9 - 0+1)) (qFI (qF2 (qFN (qFQ v9 - 0) h0) [[AV.int .i64 n,.int .i64 n_4,.str s,.sl rows]]))&&qI (qFQ v9 - 0+1+qFI (qFN (0+qFI (qFN (nv5 - v9.toNat) (qGb (0+v9.toNat) h0))) (qFN (nv5 - v9.toNat) (qGb (0+v9.toNat) h0)))) 56 then yu L R (qFQ v9 - 0+1+qFI (qFN (0+qFI (qFN (nv5 - v9.toNat) (qGb (0+v9.toNat) h0))) (qFN (nv5 - v9.toNat) (qGb (0+v9.toNat) h0)))) (qFD .i64 (v6+1)) (qF2 (qFN (qFQ v9 - 0+1) (qF2 (qFN (qFQ v9 - 0) h0) [[AV.int .i64 n,.int .i64 n_4,.str s,.sl rows]])) (qFN (0+qFI (qFN (nv5 - v9.toNat) (qGb (0+v9.toNat) h0))) (qFN (nv5 - v9.toNat) (qGb (0+v9.toNat) h0))))else none else none else none)else none else none else none else none else none))else bif qj 0 v9&&qj v9 (↑ nv5:Int)then bif qFR (0+qFQ v9+(nv5 - v9.toNat)) (qFI h0)then bif qI (0+qFI (qFN (nv5 - v9.toNat) (qGb (0+v9.toNat) h0))) 56 then bif qj 0 v9&&qj v9 (↑ nv5:Int)then bif qj (↑ (v9.toNat):Int) v9&&qj v9 (↑ nv5:Int)then rs4 L v6 λn n_1 s rows=>(bif qFR (0+(qFQ v9 - 0)) (qFI h0)&&qI (qFQ v9 - 0+1) 56 then bif qFR (0+(0+qFI (qFN (nv5 - v9.toNat) (qGb (0+v9.toNat) h0)))) (qFI (qFN (nv5 - v9.toNat) (qGb (0+v9.toNat) h0)))then bif qFR (0+(qFQ v9 - 0+1)) (qFI (qF2 (qFN (qFQ v9 - 0) h0) [[AV.int .i64 n,.int .i64 n_1,.str s,.sl rows]]))&&qI (qFQ v9 - 0+1+qFI (qFN (0+qFI (qFN (nv5 - v9.toNat) (qGb (0+v9.toNat) h0))) (qFN (nv5 - v9.toNat) (qGb (0+v9.toNat) h0)))) 56 then yu L R (qFQ v9 - 0+1+qFI (qFN (0+qFI (qFN (nv5 - v9.toNat) (qGb (0+v9.toNat) h0))) (qFN (nv5 - v9.toNat) (qGb (0+v9.toNat) h0)))) (qFD .i64 (v6+1)) (qF2 (qFN (qFQ v9 - 0+1) (qF2 (qFN (qFQ v9 - 0) h0) [[AV.int .i64 n,.int .i64 n_1,.str s,.sl rows]])) (qFN (0+qFI (qFN (nv5 - v9.toNat) (qGb (0+v9.toNat) h0))) (qFN (nv5 - v9.toNat) (qGb (0+v9.toNat) h0))))else none else none else none)else none else none else none else none else none) P):Gets (qeE L R nv5 v6 v7 v9 h0) P:=
  gE (λ_=>qg (cfg:=cfg) (f:=35) (rd:=none) (bs:=0)) (by kernel_rfl) h
def qzC:Den:=evC cfg (EV cfg) 104 none 0 (sub (qc Tryz.f104) [1,1,1,0,1,0,0])
def qzU:Ex×List AV×AH->Option AV:=kAft (Cfg.keepOut cfg 104 5) (kRun cfg (EV cfg) (kfN cfg 6) 104 none 0 (vM cfg (Cfg.lift cfg 104 0) Tryz.f104.results.toList) ([.block 0,.seq (sub (qc Tryz.f104) [1,1,1,1])]))
def qzn:List AV×AH->Option AV:=λp=>kOpt (LOOP 0 (some [3,4]) ([]) qzC p) qzU
abbrev qby(rows:Rz)(v4:Int):Option (AV):=qzn (((fx 26 [(3,.sl rows),(4,.int .i64 v4)]):List AV),([]:AH))
theorem qtV(kt nt:Int)(st:Bz)(lt:Rz){P:AV->Prop}(h:Gets (bif kt==2 then bif st==[(95:UInt8)]then some (.bool true)else kOpt (EVf (EV cfg) 135 [.agg [.int .i64 kt,.int .i64 nt,.str st,.sl lt]]) λv=>kSl v λrows=>qby rows 0 else kOpt (EVf (EV cfg) 135 [.agg [.int .i64 kt,.int .i64 nt,.str st,.sl lt]]) λv=>kSl v λrows=>qby rows 0) P):Gets (EVs (EV cfg) 104 [.agg [.int .i64 kt,.int .i64 nt,.str st,.sl lt]]) P:=
  gE (λ_=>funS rfl rfl Tryz.func104 rfl) (by kernel_rfl) h
theorem qlv(kt nt:Int)(st:Bz)(lt:Rz){P:AV->Prop}(h:Gets (kOpt (EVs (EV cfg) 100 [.agg [.int .i64 kt,.int .i64 nt,.str st,.sl lt]]) λv=>kInt .i64 v λn=>bif n==0 then kOpt (EVf (EV cfg) 103 [.agg [.int .i64 kt,.int .i64 nt,.str st,.sl lt],.sl []]) λv=>kSl v λrows=>bif(rows.length:Int)==0 then kOpt (EVs (EV cfg) 104 [.agg [.int .i64 kt,.int .i64 nt,.str st,.sl lt]]) λv=>qt v λb=>some (.bool ! b)else some (.bool false)else some (.bool false)) P):Gets (EVs (EV cfg) 71 [.agg [.int .i64 kt,.int .i64 nt,.str st,.sl lt]]) P:=
  gE (λ_=>funS rfl rfl Tryz.func71 rfl) (by kernel_rfl) h
theorem qf1(rows:Rz)(v4:Int){P:AV->Prop}(h:Gets (bif decide (v4<(rows.length:Int))then rs4 rows v4 λn n_1 s rows_1=>(kOpt (EVs (EV cfg) 104 [.agg [.int .i64 n,.int .i64 n_1,.str s,.sl rows_1]]) λv=>qt v λb=>bif b then some (.bool true)else qby rows (qFD .i64 (v4+1)))else some (.bool false)) P):Gets (qby rows v4) P:=
  gE (λ_=>qg (cfg:=cfg) (f:=104) (rd:=none) (bs:=0)) (by kernel_rfl) h
def qB2:Den:=evC cfg (EV cfg) 101 none 0 (sub (qc Tryz.f101) [1,1,0,0,0])
def qCL:Ex×List AV×AH->Option AV:=kAft (Cfg.keepOut cfg 101 2) (kRun cfg (EV cfg) (kfN cfg 6) 101 none 0 (vX cfg (Cfg.lift cfg 101 0) Tryz.f101.results.toList) ([.block 0,.seq (sub (qc Tryz.f101) [1,1,1])]))
def qBh:List AV×AH->Option AV:=λp=>kOpt (LOOP 0 (some [1,4]) ([(4,4)]) qB2 p) qCL
def qB1:Den:=evC cfg (EV cfg) 132 none 0 (sub (qc Tryz.f132) [1,0,1,0,0])
def qCK:Ex×List AV×AH->Option AV:=kAft (Cfg.keepOut cfg 132 2) (kRun cfg (EV cfg) (kfN cfg 6) 132 none 0 (vM cfg (Cfg.lift cfg 132 0) Tryz.f132.results.toList) ([.block 0,.seq (sub (qc Tryz.f132) [1,1])]))
def qBg:List AV×AH->Option AV:=λp=>kOpt (LOOP 0 (some [0,1,5]) ([]) qB1 p) qCK
def qB4:Den:=evC cfg (EV cfg) 68 none 0 (sub (qc Tryz.f68) [1,1,1,1,0,1,0,0])
def qCN:Ex×List AV×AH->Option (OV×AV):=kAft (Cfg.keepOut cfg 68 6) (kRun cfg (EV cfg) (kfN cfg 6) 68 none 0 (qi0 cfg (Cfg.lift cfg 68 0) Tryz.f68.results.toList) ([.block 0,.seq (sub (qc Tryz.f68) [1,1,1,1,1])]))
def qBj:List AV×AH->Option (OV×AV):=λp=>kOpt (LOOP 0 (some [4,6,7]) ([(6,6)]) qB4 p) qCN
def qB3:Den:=evC cfg (EV cfg) 70 none 0 (sub (qc Tryz.f70) [1,1,0,1,0,0])
def qCM:Ex×List AV×AH->Option AV:=kAft (Cfg.keepOut cfg 70 3) (kRun cfg (EV cfg) (kfN cfg 6) 70 none 0 (vX cfg (Cfg.lift cfg 70 0) Tryz.f70.results.toList) ([.block 0,.seq (sub (qc Tryz.f70) [1,1,1])]))
def qBi:List AV×AH->Option AV:=λp=>kOpt (LOOP 0 (some [0,3,4]) ([(3,4)]) qB3 p) qCM
def qB5:Den:=evC cfg (EV cfg) 32 none 0 (sub (qc Tryz.f32) [1,1,1,1,0,1,0,0])
def qCO:Ex×List AV×AH->Option AV:=kAft (Cfg.keepOut cfg 32 6) (kRun cfg (EV cfg) (kfN cfg 6) 32 none 0 (vX cfg (Cfg.lift cfg 32 0) Tryz.f32.results.toList) ([.block 0,.seq (sub (qc Tryz.f32) [1,1,1,1,1])]))
def qtd:List AV×AH->Option AV:=λp=>kOpt (LOOP 0 (some [5,7]) ([]) qB5 p) qCO
def qB0:Den:=evC cfg (EV cfg) 103 none 0 (sub (qc Tryz.f103) [1,1,1,1,0,1,0,0])
def qCJ:Ex×List AV×AH->Option AV:=kAft (Cfg.keepOut cfg 103 6) (kRun cfg (EV cfg) (kfN cfg 6) 103 none 0 (vX cfg (Cfg.lift cfg 103 0) Tryz.f103.results.toList) ([.block 0,.seq (sub (qc Tryz.f103) [1,1,1,1,1])]))
def qBf:List AV×AH->Option AV:=λp=>kOpt (LOOP 0 (some [1,7,8]) ([]) qB0 p) qCJ
def qzB:Den:=evC cfg (EV cfg) 134 none 0 (sub (qc Tryz.f134) [1,1,0,0,0])
def qzT:Ex×List AV×AH->Option AV:=kAft (Cfg.keepOut cfg 134 2) (kRun cfg (EV cfg) (kfN cfg 6) 134 none 0 (vX cfg (Cfg.lift cfg 134 0) Tryz.f134.results.toList) ([.block 0,.seq (sub (qc Tryz.f134) [1,1,1])]))
def qzm:List AV×AH->Option AV:=λp=>kOpt (LOOP 0 (some [0,1,5]) ([]) qzB p) qzT
def qzA:Den:=evC cfg (EV cfg) 76 none 0 (sub (qc Tryz.f76) [1,1,0,1,0,0])
def qzS:Ex×List AV×AH->Option AV:=kAft (Cfg.keepOut cfg 76 4) (kRun cfg (EV cfg) (kfN cfg 6) 76 none 0 (vM cfg (Cfg.lift cfg 76 0) Tryz.f76.results.toList) ([.block 0,.seq (sub (qc Tryz.f76) [1,1,1])]))
def qzl:List AV×AH->Option AV:=λp=>kOpt (LOOP 0 (some [2,3,5]) ([]) qzA p) qzS
def qzO:List AV×AH->Option AV:=λp=>kOpt (CUT p) λp=>qR cfg (EV cfg) (kfN cfg 6) 134 none 0 (sub (qc Tryz.f134) [1,1,1]) p.1 p.2 (kRun cfg (EV cfg) (kfN cfg 6) 134 none 0 (vX cfg (Cfg.lift cfg 134 0) Tryz.f134.results.toList) ([]))
def qzN:List AV×AH->Option AV:=λp=>kOpt (CUT p) λp=>qR cfg (EV cfg) (kfN cfg 6) 134 none 0 (sub (qc Tryz.f134) [1,1,1,1]) p.1 p.2 (kRun cfg (EV cfg) (kfN cfg 6) 134 none 0 (vX cfg (Cfg.lift cfg 134 0) Tryz.f134.results.toList) ([]))
abbrev qik(nv4:Nat)(c0_0 c0_1:Int)(c0_2:Bz)(c0_3 h1:Rz):Option (AV):=qBh (((fx 23 [(1,.ptr 0 0 0),(4,.ms 1 0 nv4)]):List AV),([.rows false 4 [[.int .i64 c0_0,.int .i64 c0_1,.str c0_2,.sl c0_3]],.rows true 4 h1]:AH))
abbrev qij(L V:Rz)(v5:Int):Option (AV):=qBg (((fx 19 [(0,.sl L),(1,.sl V),(5,.int .i64 v5)]):List AV),([]:AH))
abbrev qim(rows:Rz)(nv6:Nat)(v7:Int)(h0:Rz):Option (OV×AV):=qBj (((fx 43 [(4,.sl rows),(6,.ms 0 0 nv6),(7,.int .i64 v7)]):List AV),([.rows true 6 h0]:AH))
abbrev qil(L:Rz)(nv3:Nat)(v4:Int)(h0:Rz):Option (AV):=qBi (((fx 20 [(0,.sl L),(3,.ms 0 0 nv3),(4,.int .i64 v4)]):List AV),([.rows true 4 h0]:AH))
abbrev qAq(v7:Int):Option (AV):=qtd (((fx 47 [(5,.nilS),(7,.int .i64 v7)]):List AV),([]:AH))
abbrev qfd(sz off len:Nat)(v7:Int)(h0:Rz):Option (AV):=qtd (((fx 47 [(5,.ms 0 off len),(7,.int .i64 v7)]):List AV),([.rows true sz h0]:AH))
abbrev qii(rows v1:Rz)(v8:Int):Option (AV):=qBf (((fx 33 [(1,.sl v1),(7,.sl rows),(8,.int .i64 v8)]):List AV),([]:AH))
abbrev qff(L:Rz)(n v5:Int):Option (AV):=qzm (((fx 48 [(0,.sl L),(1,.int .i64 n),(5,.int .i64 v5)]):List AV),([]:AH))
abbrev qfe(v5 c0_0 c0_1:Int)(c0_2:Bz)(c0_3:Rz)(c1_0 c1_1:Int)(c1_2:Bz)(c1_3:Rz):Option (AV):=qzl (((fx 53 [(2,.ptr 0 0 0),(3,.ptr 1 0 0),(5,.int .i64 v5)]):List AV),([.rows false 4 [[.int .i64 c0_0,.int .i64 c0_1,.str c0_2,.sl c0_3]],.rows false 4 [[.int .i64 c1_0,.int .i64 c1_1,.str c1_2,.sl c1_3]]]:AH))
abbrev qfN(v0:Rz)(v1:Int)(v5:Int):Option (AV):=qzO (((fx 48 [(0,AV.sl v0),(1,AV.int IntKind.i64 v1),(5,AV.int IntKind.i64 v5)]):List AV),([]:AH))
abbrev qfM(v0:Rz)(v1:Int)(v5:Int):Option (AV):=qzN (((fx 48 [(0,AV.sl v0),(1,AV.int IntKind.i64 v1),(5,AV.int IntKind.i64 v5)]):List AV),([]:AH))
theorem qpR(kt nt:Int)(st:Bz)(lt:Rz){P:AV->Prop}(h:Gets (qik 0 kt nt st lt []) P):Gets (EVf (EV cfg) 101 [.agg [.int .i64 kt,.int .i64 nt,.str st,.sl lt]]) P:=
  gE (λ_=>funF rfl rfl Tryz.func101 rfl) (by kernel_rfl) h
theorem qrO(kt nt:Int)(st:Bz)(lt:Rz){P:AV->Prop}(h:Gets (kOpt (EVs (EV cfg) 133 [.agg [.int .i64 kt,.int .i64 nt,.str st,.sl lt]]) λv=>kTup v λcs=>ql cs λc cs=>kInt .i64 c λn=>ql cs λc cs=>qt c λb=>kNil cs (bif b then some (.bool true)else kOpt (EVs (EV cfg) 149 [.agg [.int .i64 kt,.int .i64 nt,.str st,.sl lt]]) λv=>qt v λb=>bif b then some (.bool true)else some (.bool (kt==7)))) P):Gets (EVs (EV cfg) 130 [.agg [.int .i64 kt,.int .i64 nt,.str st,.sl lt]]) P:=
  gE (λ_=>funS rfl rfl Tryz.func130 rfl) (by kernel_rfl) h
theorem qpS(L V:Rz){P:AV->Prop}(h:Gets (qij L V 0) P):Gets (EVs (EV cfg) 132 [.sl L,.sl V]) P:=
  gE (λ_=>funS rfl rfl Tryz.func132 rfl) (by kernel_rfl) h
abbrev zG0:Option (AV):=some (AV.tup [.agg [.int .i64 0,.int .i64 0,.str [],.sl [],.sl [],.sl []],.bool false])
theorem qoC(kt nt:Int)(st:Bz)(lt:Rz){P:AV->Prop}(h:Gets (bif kt != 7 then zG0 else bif(lt.length:Int) != 3 then zG0 else bif qA 0 (lt.length:Int)then kOpt (qFG lt 0) λrow=>bif qFY (qFI row) 4 then bif qFR 4 (qFI row)then kTmC (qFN 4 row) λn n_1 s rows=>(kOpt (EVs (EV cfg) 130 [.agg [.int .i64 n,.int .i64 n_1,.str s,.sl rows]]) λv=>qt v λb=>bif ! b then some (AV.tup [.agg [.int .i64 0,.int .i64 0,.str [],.sl [],.sl [],.sl []],.bool false])else bif qA 1 (lt.length:Int)then kOpt (qFG lt 1) λrow=>bif qFY (qFI row) 4 then bif qFR 4 (qFI row)then kTmC (qFN 4 row) λn n_2 s rows=>(kOpt (EVf (EV cfg) 101 [.agg [.int .i64 n,.int .i64 n_2,.str s,.sl rows]]) λv=>kTup v λcs=>ql cs λc cs=>kSl c λrows=>ql cs λc cs=>qt c λb=>kNil cs (bif qA 2 (lt.length:Int)then kOpt (qFG lt 2) λrow=>bif qFY (qFI row) 4 then bif qFR 4 (qFI row)then kTmC (qFN 4 row) λn n_3 s rows_1=>(kOpt (EVf (EV cfg) 101 [.agg [.int .i64 n,.int .i64 n_3,.str s,.sl rows_1]]) λv=>kTup v λcs=>ql cs λc cs=>kSl c λrows_2=>ql cs λc cs=>qt c λb_1=>kNil cs (bif qA 0 (lt.length:Int)then kOpt (qFG lt 0) λrow=>bif qFY (qFI row) 4 then bif qFR 4 (qFI row)then kTmC (qFN 4 row) λn n_4 s rows_3=>(kOpt (EVf (EV cfg) 131 [AV.agg [.int .i64 n,.int .i64 n_4,.str s,.sl rows_3]]) λv=>kSl v λrows_4=>bif ! b then some (AV.tup [AV.agg [.int .i64 0,.int .i64 0,.str [],.sl [],.sl [],.sl []],.bool false])else bif ! b_1 then some (AV.tup [AV.agg [.int .i64 0,.int .i64 0,.str [],.sl [],.sl [],.sl []],.bool false])else bif(rows_2.length:Int)==0 then some (AV.tup [AV.agg [.int .i64 0,.int .i64 0,.str [],.sl [],.sl [],.sl []],.bool false])else kOpt (EVs (EV cfg) 132 [.sl rows,.sl rows_4]) λv=>qt v λb=>bif ! b then some (AV.tup [AV.agg [.int .i64 0,.int .i64 0,.str [],.sl [],.sl [],.sl []],.bool false])else kOpt (EVs (EV cfg) 132 [.sl rows_2,.sl rows_4]) λv=>qt v λb=>bif ! b then some (AV.tup [AV.agg [.int .i64 0,.int .i64 0,.str [],.sl [],.sl [],.sl []],.bool false])else bif qA 0 (lt.length:Int)then kOpt (qFG lt 0) λrow=>bif qFY (qFI row) 4 then bif qFR 4 (qFI row)then kTmC (qFN 4 row) λn n_5 s rows_5=>(some (AV.tup [AV.agg [.int .i64 n,AV.int .i64 n_5,AV.str s,AV.sl rows_5,AV.sl rows,AV.sl rows_2],AV.bool true]))else none else none else none)else none else none else none))else none else none else none))else none else none else none)else none else none else none) P):Gets (EVf (EV cfg) 102 [.agg [.int .i64 kt,.int .i64 nt,.str st,.sl lt]]) P:=
  gE (λ_=>funF rfl rfl Tryz.func102 rfl) (by kernel_rfl) h
theorem qlw(kt nt:Int)(st:Bz)(lt:Rz){P:OV×AV->Prop}(h:Gets (kOpt (EVf (EV cfg) 101 [.agg [.int .i64 kt,.int .i64 nt,.str st,.sl lt]]) λv=>kTup v λcs=>ql cs λc cs=>kSl c λrows=>ql cs λc cs=>qt c λb=>kNil cs (bif ! b then some (OV.own 6 [] 0 0,.bool false)else bif(rows.length:Int)==0 then some (OV.own 6 [] 0 0,.bool false)else qim rows 0 0 [])) P):Gets (EVq (EV cfg) 68 [.agg [.int .i64 kt,.int .i64 nt,.str st,.sl lt]]) P:=
  gE (λ_=>funQ rfl rfl Tryz.func68 rfl) (by kernel_rfl) h
theorem qhp(kt nt:Int)(st:Bz)(lt:Rz){P:AV->Prop}(h:Gets (kOpt (EVs (EV cfg) 100 [.agg [.int .i64 kt,.int .i64 nt,.str st,.sl lt]]) λv=>kInt .i64 v λn=>bif n != 0 then some (.int .i64 2)else kOpt (EVq (EV cfg) 68 [.agg [.int .i64 kt,.int .i64 nt,.str st,.sl lt]]) λq=>qt q.2 λb=>kOwn q.1 (bif ! b then some (.int .i64 10)else some (.int .i64 0)) λsz rs off len=>bif ! b then some (.int .i64 10)else some (.int .i64 0)) P):Gets (EVs (EV cfg) 67 [.agg [.int .i64 kt,.int .i64 nt,.str st,.sl lt]]) P:=
  gE (λ_=>funS rfl rfl Tryz.func67 rfl) (by kernel_rfl) h
theorem qoA(L:Rz){P:AV->Prop}(h:Gets (qil L 0 0 []) P):Gets (EVf (EV cfg) 70 [.sl L]) P:=
  gE (λ_=>funF rfl rfl Tryz.func70 rfl) (by kernel_rfl) h
theorem qeS(kt nt:Int)(st:Bz)(lt:Rz){P:AV->Prop}(h:Gets (kOpt (EVs (EV cfg) 67 [.agg [.int .i64 kt,.int .i64 nt,.str st,.sl lt]]) λv=>kInt .i64 v λn=>bif n != 0 then some (AV.tup [.sl [],.int .i64 n])else kOpt (EVq (EV cfg) 68 [.agg [.int .i64 kt,.int .i64 nt,.str st,.sl lt]]) λq=>qt q.2 λb=>kOwn q.1 (qAq 0) λsz rs off len=>qfd sz off len 0 rs) P):Gets (EVf (EV cfg) 32 [.agg [.int .i64 kt,.int .i64 nt,.str st,.sl lt]]) P:=
  gE (λ_=>funF rfl rfl Tryz.func32 rfl) (by kernel_rfl) h
theorem qt4(kt nt:Int)(st:Bz)(lt:Rz){P:AV->Prop}(h:Gets (kOpt (EVs (EV cfg) 100 [.agg [.int .i64 kt,.int .i64 nt,.str st,.sl lt]]) λv=>kInt .i64 v λn=>bif n==0 then bif kt==2 then some (.bool (st==[(95:UInt8)]))else some (.bool false)else some (.bool false)) P):Gets (EVs (EV cfg) 149 [.agg [.int .i64 kt,.int .i64 nt,.str st,.sl lt]]) P:=
  gE (λ_=>funS rfl rfl Tryz.func149 rfl) (by kernel_rfl) h
theorem qhr(kt nt:Int)(st:Bz)(lt:Rz){P:AV->Prop}(h:Gets (bif kt==7 then some (.sl lt)else bif kt==9 then some (.sl lt)else some (.sl [])) P):Gets (EVf (EV cfg) 135 [.agg [.int .i64 kt,.int .i64 nt,.str st,.sl lt]]) P:=
  gE (λ_=>funF rfl rfl Tryz.func135 rfl) (by kernel_rfl) h
theorem qjW(kp np:Int)(sp:Bz)(lp L:Rz){P:AV->Prop}(h:Gets (kOpt (EVs (EV cfg) 133 [.agg [.int .i64 kp,.int .i64 np,.str sp,.sl lp]]) λv=>kTup v λcs=>ql cs λc cs=>kInt .i64 c λn=>ql cs λc cs=>qt c λb=>kNil cs (bif b then kOpt (EVf (EV cfg) 134 [.sl L,.int .i64 n]) λv=>kSl v λrows=>some (.sl rows)else kOpt (EVf (EV cfg) 135 [.agg [.int .i64 kp,.int .i64 np,.str sp,.sl lp]]) λv=>kSl v λrows=>qii rows L 0)) P):Gets (EVf (EV cfg) 103 [.agg [.int .i64 kp,.int .i64 np,.str sp,.sl lp],.sl L]) P:=
  gE (λ_=>funF rfl rfl Tryz.func103 rfl) (by kernel_rfl) h
theorem qrR(L:Rz)(n:Int){P:AV->Prop}(h:Gets (qff L n 0) P):Gets (EVf (EV cfg) 134 [.sl L,.int .i64 n]) P:=
  gE (λ_=>funF rfl rfl Tryz.func134 rfl) (by kernel_rfl) h
theorem qjX(kt nt:Int)(st:Bz)(lt:Rz){P:AV->Prop}(h:Gets (kOpt (EVs (EV cfg) 100 [.agg [.int .i64 kt,.int .i64 nt,.str st,.sl lt]]) λv=>kInt .i64 v λn=>bif n != 0 then some (.sl [])else kOpt (EVf (EV cfg) 103 [.agg [.int .i64 kt,.int .i64 nt,.str st,.sl lt],.sl []]) λv=>kSl v λrows=>some (.sl rows)) P):Gets (EVf (EV cfg) 131 [.agg [.int .i64 kt,.int .i64 nt,.str st,.sl lt]]) P:=
  gE (λ_=>funF rfl rfl Tryz.func131 rfl) (by kernel_rfl) h
theorem qrX(kp np:Int)(sp:Bz)(lp:Rz)(kt nt:Int)(st:Bz)(lt:Rz){P:AV->Prop}(h:Gets (bif kp != kt then some (.bool false)else bif np != nt then some (.bool false)else bif ! sp==st then some (.bool false)else bif(lp.length:Int) != (lt.length:Int)then some (.bool false)else qfe 0 kp np sp lp kt nt st lt) P):Gets (EVs (EV cfg) 76 [.agg [.int .i64 kp,.int .i64 np,.str sp,.sl lp],.agg [.int .i64 kt,.int .i64 nt,.str st,.sl lt]]) P:=
  gE (λ_=>funS rfl rfl Tryz.func76 rfl) (by kernel_rfl) h
theorem qo6(nv4:Nat)(c0_0 c0_1:Int)(c0_2:Bz)(c0_3 h1:Rz){P:AV->Prop}(h:Gets (bif c0_0==9 then bif qA 0 (c0_3.length:Int)then kOpt (qFG c0_3 0) λrow=>bif qFY (qFI row) 4 then bif qFR 4 (qFI row)then kTmC (qFN 4 row) λn n_1 s rows=>(bif qFR (0+nv4) (qFI h1)&&qI (nv4+1) 56 then bif qA 1 (c0_3.length:Int)then kOpt (qFG c0_3 1) λrow=>bif qFY (qFI row) 4 then bif qFR 4 (qFI row)then kTmC (qFN 4 row) λn_2 n_3 s_1 rows_1=>(qik (nv4+1) n_2 n_3 s_1 rows_1 (qF2 (qFN nv4 h1) [[AV.int .i64 n,.int .i64 n_1,.str s,.sl rows]]))else none else none else none else none)else none else none else none else bif qFR (0+nv4) (qFI h1)&&true then some (AV.tup [.sl (qFN nv4 h1),.bool (c0_0==8)])else none) P):Gets (qik nv4 c0_0 c0_1 c0_2 c0_3 h1) P:=
  gE (λ_=>qg (cfg:=cfg) (f:=101) (rd:=none) (bs:=0)) (by kernel_rfl) h
theorem qgs(L V:Rz)(v5:Int){P:AV->Prop}(h:Gets (bif decide (v5<(L.length:Int))then rs4 L v5 λn n_1 s rows=>(kOpt (EVs (EV cfg) 150 [.agg [.int .i64 n,.int .i64 n_1,.str s,.sl rows],.sl V]) λv=>kInt .i64 v λn=>bif n != 0 then some (.bool false)else qij L V (qFD .i64 (v5+1)))else some (.bool true)) P):Gets (qij L V v5) P:=
  gE (λ_=>qg (cfg:=cfg) (f:=132) (rd:=none) (bs:=0)) (by kernel_rfl) h
theorem qgu(rows:Rz)(nv6:Nat)(v7:Int)(h0:Rz){P:OV×AV->Prop}(h:Gets (bif decide (v7<(rows.length:Int))then rs4 rows v7 λn n_1 s rows_1=>(kOpt (EVf (EV cfg) 102 [.agg [.int .i64 n,.int .i64 n_1,.str s,.sl rows_1]]) λv=>kTup v λcs=>ql cs λc cs=>kAgg c λcs_1=>ql cs_1 λc cs_2=>kInt .i64 c λn=>ql cs_2 λc cs_3=>kInt .i64 c λn_2=>ql cs_3 λc cs_4=>kStr c λs=>ql cs_4 λc cs_5=>kSl c λrows_2=>ql cs_5 λc cs_6=>kSl c λrows_3=>ql cs_6 λc cs_7=>kSl c λrows_4=>kNil cs_7 (ql cs λc cs=>qt c λb=>kNil cs (bif ! b then some (OV.own 6 [] 0 0,.bool false)else bif qFR (0+nv6) (qFI h0)&&qI (nv6+1) 104 then qim rows (nv6+1) (qFD .i64 (v7+1)) (qF2 (qFN nv6 h0) [[AV.int .i64 n,.int .i64 n_2,.str s,.sl rows_2,.sl rows_3,.sl rows_4]])else none)))else some (OV.own 6 h0 0 nv6,.bool true)) P):Gets (qim rows nv6 v7 h0) P:=
  gE (λ_=>qg (cfg:=cfg) (f:=68) (rd:=none) (bs:=0)) (by kernel_rfl) h
theorem qgt(L:Rz)(nv3:Nat)(v4:Int)(h0:Rz){P:AV->Prop}(h:Gets (bif decide (v4<(L.length:Int))then rs4 L v4 λn n_1 s rows=>(kOpt (EVf (EV cfg) 69 [.agg [.int .i64 n,.int .i64 n_1,.str s,.sl rows]]) λv=>kTmV v λn n_2 s rows=>(bif qFR (0+nv3) (qFI h0)&&qI (nv3+1) 56 then qil L (nv3+1) (qFD .i64 (v4+1)) (qF2 (qFN nv3 h0) [[AV.int .i64 n,.int .i64 n_2,.str s,.sl rows]])else none))else bif qFR (0+nv3) (qFI h0)&&true then some (.sl (qFN nv3 h0))else none) P):Gets (qil L nv3 v4 h0) P:=
  gE (λ_=>qg (cfg:=cfg) (f:=70) (rd:=none) (bs:=0)) (by kernel_rfl) h
theorem qfY(sz off len:Nat)(v7:Int)(h0:Rz){P:AV->Prop}(h:Gets (bif decide (v7<(↑ len:Int))then bif qFY sz 6&&qj 0 v7&&qA v7 (↑ len:Int)then kOpt (qFG h0 (off+v7.toNat)) λrow=>bif qFR 4 (qFI row)then kTmC (qFN 4 row) λn n_1 s rows=>(kOpt (EVf (EV cfg) 69 [.agg [.int .i64 n,.int .i64 n_1,.str s,.sl rows]]) λv=>kTmV v λn n_2 s rows=>(bif qFY sz 6&&qj 0 v7&&qA v7 (↑ len:Int)then kOpt (qFG h0 (off+v7.toNat)) λrow=>kOpt (qFG row 4) λv=>kSl v λrows_1=>kOpt (EVf (EV cfg) 70 [.sl rows_1]) λv=>kSl v λrows_2=>bif qFY sz 6&&qj 0 v7&&qA v7 (↑ len:Int)then kOpt (qFG h0 (off+v7.toNat)) λrow=>kOpt (qFG row 5) λv=>kSl v λrows_3=>kOpt (EVf (EV cfg) 70 [.sl rows_3]) λv=>kSl v λrows_4=>bif qFY sz 6&&qj 0 v7&&qA v7 (↑ len:Int)then kOpt (qFG h0 (off+v7.toNat)) λrow=>bif qFR 6 (qFI row)then qfd sz off len (qFD .i64 (v7+1)) (List.set h0 (off+v7.toNat) (.int .i64 n:: .int .i64 n_2:: .str s:: .sl rows:: .sl rows_2:: .sl rows_4::qGb 6 row))else none else none else none else none))else none else none else bif qFR (off+len) (qFI h0)&&true then some (AV.tup [.sl (qFN len (qGb off h0)),.int .i64 0])else none) P):Gets (qfd sz off len v7 h0) P:=
  gE (λ_=>qg (cfg:=cfg) (f:=32) (rd:=none) (bs:=0)) (by kernel_rfl) h
theorem qgr(rows v1:Rz)(v8:Int){P:AV->Prop}(h:Gets (bif decide (v8<(rows.length:Int))then rs4 rows v8 λn n_1 s rows_1=>(kOpt (EVf (EV cfg) 103 [.agg [.int .i64 n,.int .i64 n_1,.str s,.sl rows_1],.sl v1]) λv=>kSl v λrows_2=>qii rows rows_2 (qFD .i64 (v8+1)))else some (.sl v1)) P):Gets (qii rows v1 v8) P:=
  gE (λ_=>qg (cfg:=cfg) (f:=103) (rd:=none) (bs:=0)) (by kernel_rfl) h
theorem qf0(L:Rz)(n v5:Int){P:AV->Prop}(h:Gets (bif decide (v5<(L.length:Int))then bif qj 0 v5&&qA v5 (L.length:Int)then kOpt (qFG L (v5.toNat)) λrow=>bif qFY (qFI row) 1 then kOpt (qFG row 0) λv=>kInt .i64 v λn_1=>bif decide (n_1<n)then qff L n (qFD .i64 (v5+1))else qfN L n v5 else none else none else qfN L n v5) P):Gets (qff L n v5) P:=
  gE (λ_=>qg (cfg:=cfg) (f:=134) (rd:=none) (bs:=0)) (by kernel_rfl) h
theorem qfZ(v5 c0_0 c0_1:Int)(c0_2:Bz)(c0_3:Rz)(c1_0 c1_1:Int)(c1_2:Bz)(c1_3:Rz){P:AV->Prop}(h:Gets (bif decide (v5<(c0_3.length:Int))then rs4 c0_3 v5 λn n_1 s rows=>(rs4 c1_3 v5 λn_2 n_3 s_1 rows_1=>(kOpt (EVs (EV cfg) 76 [.agg [.int .i64 n,.int .i64 n_1,.str s,.sl rows],.agg [.int .i64 n_2,.int .i64 n_3,.str s_1,.sl rows_1]]) λv=>qt v λb=>bif ! b then some (.bool false)else qfe (qFD .i64 (v5+1)) c0_0 c0_1 c0_2 c0_3 c1_0 c1_1 c1_2 c1_3))else some (.bool true)) P):Gets (qfe v5 c0_0 c0_1 c0_2 c0_3 c1_0 c1_1 c1_2 c1_3) P:=
  gE (λ_=>qg (cfg:=cfg) (f:=76) (rd:=none) (bs:=0)) (by kernel_rfl) h
theorem qoH(v0:Rz)(v1 v5:Int){P:AV->Prop}(h:Gets (bif decide (v5<(v0.length:Int))then bif qj 0 v5&&qA v5 (v0.length:Int)then kOpt (qFG v0 (v5.toNat)) λrow=>bif qFY (qFI row) 1 then kOpt (qFG row 0) λv=>kInt .i64 v λn=>bif n==v1 then some (.sl v0)else qfM v0 v1 v5 else none else none else qfM v0 v1 v5) P):Gets (qfN v0 v1 v5) P:=
  gE (λ_=>qqO) (by kernel_rfl) h
theorem qoG(v0:Rz)(v1 v5:Int){P:AV->Prop}(h:Gets (bif qj 0 v5&&qj v5 (v0.length:Int)then bif vP 1 v0 then bif vP 1 (qFN (qFQ v5 - 0) v0)then bif qI (0+qFI (qFN (qFQ v5 - 0) v0)) 8 then bif qFR (0+(0+qFI (qFN (qFQ v5 - 0) v0))) (qFI (qFN (qFQ v5 - 0) v0))&&qI (0+qFI (qFN (qFQ v5 - 0) v0)+1) 8 then bif qj 0 v5&&qj v5 (v0.length:Int)then bif vP 1 v0 then bif vP 1 (qFN (qFI v0 - v5.toNat) (qGb (v5.toNat) v0))then bif qFR (0+(0+qFI (qFN (qFQ v5 - 0) v0)+1)) (qFI (qF2 (qFN (0+qFI (qFN (qFQ v5 - 0) v0)) (qFN (qFQ v5 - 0) v0)) [[AV.int .i64 v1]]))&&qI (0+qFI (qFN (qFQ v5 - 0) v0)+1+qFI (qFN (qFI v0 - v5.toNat) (qGb (v5.toNat) v0))) 8 then bif qFR (0+(0+qFI (qFN (qFQ v5 - 0) v0)+1+qFI (qFN (qFI v0 - v5.toNat) (qGb (v5.toNat) v0)))) (qFI (qF2 (qFN (0+qFI (qFN (qFQ v5 - 0) v0)+1) (qF2 (qFN (0+qFI (qFN (qFQ v5 - 0) v0)) (qFN (qFQ v5 - 0) v0)) [[AV.int .i64 v1]])) (qFN (qFI v0 - v5.toNat) (qGb (v5.toNat) v0))))&&true then some (AV.sl (qFN (0+qFI (qFN (qFQ v5 - 0) v0)+1+qFI (qFN (qFI v0 - v5.toNat) (qGb (v5.toNat) v0))) (qF2 (qFN (0+qFI (qFN (qFQ v5 - 0) v0)+1) (qF2 (qFN (0+qFI (qFN (qFQ v5 - 0) v0)) (qFN (qFQ v5 - 0) v0)) [[AV.int .i64 v1]])) (qFN (qFI v0 - v5.toNat) (qGb (v5.toNat) v0)))))else none else none else none else none else none else none else none else none else none else none) P):Gets (qfM v0 v1 v5) P:=
  gE (λ_=>qqO) (by kernel_rfl) h
def qEd:Den:=evC cfg (EV cfg) 175 none 0 (sub (qc Tryz.f175) [1,0,1,0,0])
def qEM:Ex×List AV×AH->Option AV:=kAft (Cfg.keepOut cfg 175 2) (kRun cfg (EV cfg) (kfN cfg 6) 175 none 0 (vM cfg (Cfg.lift cfg 175 0) Tryz.f175.results.toList) ([.block 0,.seq (sub (qc Tryz.f175) [1,1])]))
def qDN:List AV×AH->Option AV:=λp=>kOpt (LOOP 0 (some [0,1,5]) ([]) qEd p) qEM
def qEc:Den:=evC cfg (EV cfg) 176 none 0 (sub (qc Tryz.f176) [1,1,0,1,0,0])
def qEL:Ex×List AV×AH->Option AV:=kAft (Cfg.keepOut cfg 176 3) (kRun cfg (EV cfg) (kfN cfg 6) 176 none 0 (vM cfg (Cfg.lift cfg 176 0) Tryz.f176.results.toList) ([.block 0,.seq (sub (qc Tryz.f176) [1,1,1])]))
def qDM:List AV×AH->Option AV:=λp=>kOpt (LOOP 0 (some [1,5,6]) ([]) qEc p) qEL
def qEe:Den:=evC cfg (EV cfg) 174 none 0 (sub (qc Tryz.f174) [1,0,1,0,0])
def qEN:Ex×List AV×AH->Option AV:=kAft (Cfg.keepOut cfg 174 2) (kRun cfg (EV cfg) (kfN cfg 6) 174 none 0 (vM cfg (Cfg.lift cfg 174 0) Tryz.f174.results.toList) ([.block 0,.seq (sub (qc Tryz.f174) [1,1])]))
def qDO:List AV×AH->Option AV:=λp=>kOpt (LOOP 0 (some [0,1,5]) ([]) qEe p) qEN
def qEf:Den:=evC cfg (EV cfg) 133 none 0 (sub (qc Tryz.f133) [1,1,1,0,1,0,0])
def qEO:Ex×List AV×AH->Option AV:=kAft (Cfg.keepOut cfg 133 5) (kRun cfg (EV cfg) (kfN cfg 6) 133 none 0 (vM cfg (Cfg.lift cfg 133 0) Tryz.f133.results.toList) ([.block 0,.seq (sub (qc Tryz.f133) [1,1,1,1])]))
def qDP:List AV×AH->Option AV:=λp=>kOpt (LOOP 0 (some [1,4,5]) ([]) qEf p) qEO
def qEh:Den:=evC cfg (EV cfg) 128 none 0 (sub (qc Tryz.f128) [1,1,0,1,0,0])
def qEQ:Ex×List AV×AH->Option AV:=kAft (Cfg.keepOut cfg 128 4) (kRun cfg (EV cfg) (kfN cfg 6) 128 none 0 (vM cfg (Cfg.lift cfg 128 0) Tryz.f128.results.toList) ([.block 0,.seq (sub (qc Tryz.f128) [1,1,1])]))
def qDR:List AV×AH->Option AV:=λp=>kOpt (LOOP 0 (some [1,3]) ([]) qEh p) qEQ
def qEg:Den:=evC cfg (EV cfg) 129 none 0 (sub (qc Tryz.f129) [1,1,1,0,1,0,1,0,0])
def qEP:Ex×List AV×AH->Option AV:=kAft (Cfg.keepOut cfg 129 6) (kRun cfg (EV cfg) (kfN cfg 6) 129 none 0 (vM cfg (Cfg.lift cfg 129 0) Tryz.f129.results.toList) ([.block 0,.seq (sub (qc Tryz.f129) [1,1,1,1])]))
def qDQ:List AV×AH->Option AV:=λp=>kOpt (LOOP 0 (some [1,3,4]) ([]) qEg p) qEP
abbrev qkU(L V:Rz)(v5:Int):Option (AV):=qDN (((fx 19 [(0,.sl L),(1,.sl V),(5,.int .i64 v5)]):List AV),([]:AH))
abbrev qkT(n:Int)(rows:Rz)(v6:Int):Option (AV):=qDM (((fx 21 [(1,.int .i64 n),(5,.sl rows),(6,.int .i64 v6)]):List AV),([]:AH))
abbrev qkV(L:Rz)(n v5:Int):Option (AV):=qDO (((fx 18 [(0,.sl L),(1,.int .i64 n),(5,.int .i64 v5)]):List AV),([]:AH))
abbrev qcc(v4 v5 c0_0 c0_1:Int)(c0_2:Bz)(c0_3:Rz):Option (AV):=qDP (((fx 73 [(1,.ptr 0 0 0),(4,.int .i64 v4),(5,.int .i64 v5)]):List AV),([.rows false 4 [[.int .i64 c0_0,.int .i64 c0_1,.str c0_2,.sl c0_3]]]:AH))
abbrev qkW(v3 c0_0 c0_1:Int)(c0_2:Bz)(c0_3:Rz):Option (AV):=qDR (((fx 21 [(1,.ptr 0 0 0),(3,.int .i64 v3)]):List AV),([.rows false 4 [[.int .i64 c0_0,.int .i64 c0_1,.str c0_2,.sl c0_3]]]:AH))
abbrev zK(v3 v4 c0_0 c0_1:Int)(c0_2:Bz)(c0_3:Rz):Option (AV):=qDQ (((fx 42 [(1,.ptr 0 0 0),(3,.int .i64 v3),(4,.int .i64 v4)]):List AV),([.rows false 4 [[.int .i64 c0_0,.int .i64 c0_1,.str c0_2,.sl c0_3]]]:AH))
theorem qpU(kt nt:Int)(st:Bz)(lt V:Rz){P:AV->Prop}(h:Gets (kOpt (EVs (EV cfg) 100 [.agg [.int .i64 kt,.int .i64 nt,.str st,.sl lt]]) λv=>kInt .i64 v λn=>bif n != 0 then some (.int .i64 2)else kOpt (EVs (EV cfg) 167 [.agg [.int .i64 kt,.int .i64 nt,.str st,.sl lt],.sl V]) λv=>qt v λb=>bif ! b then some (.int .i64 10)else some (.int .i64 0)) P):Gets (EVs (EV cfg) 150 [.agg [.int .i64 kt,.int .i64 nt,.str st,.sl lt],.sl V]) P:=
  gE (λ_=>funS rfl rfl Tryz.func150 rfl) (by kernel_rfl) h
theorem qv6(kt nt:Int)(st:Bz)(lt V:Rz){P:AV->Prop}(h:Gets (kOpt (EVs (EV cfg) 133 [.agg [.int .i64 kt,.int .i64 nt,.str st,.sl lt]]) λv=>kTup v λcs=>ql cs λc cs=>kInt .i64 c λn=>ql cs λc cs=>qt c λb=>kNil cs (bif b then kOpt (EVs (EV cfg) 174 [.sl V,.int .i64 n]) λv=>qt v λb=>some (.bool b)else bif kt==9 then kOpt (EVs (EV cfg) 175 [.sl lt,.sl V]) λv=>qt v λb=>some (.bool b)else bif kt != 7 then some (.bool true)else bif(lt.length:Int)==0 then some (.bool false)else bif qA 0 (lt.length:Int)then kOpt (qFG lt 0) λrow=>bif qFY (qFI row) 4 then bif qFR 4 (qFI row)then kTmC (qFN 4 row) λn n_1 s rows=>(bif(lt.length:Int)==1 then bif n==7 then kOpt (EVs (EV cfg) 175 [.sl rows,.sl V]) λv=>qt v λb=>some (.bool b)else bif n != 2 then some (.bool false)else bif s==[(99:UInt8),111,110,115,116]then some (.bool ((lt.length:Int)==2))else kOpt (EVs (EV cfg) 176 [.str s,.int .i64 (qFD .i64 ((lt.length:Int) - 1))]) λv=>qt v λb=>bif b then bif qj 1 (lt.length:Int)then bif vP 4 lt then kOpt (EVs (EV cfg) 175 [.sl (qFN (qFI lt - 1) (qGb 1 lt)),.sl V]) λv=>qt v λb=>some (.bool b)else none else none else some (.bool false)else bif n != 2 then some (.bool false)else bif s==[(99:UInt8),111,110,115,116]then some (.bool ((lt.length:Int)==2))else kOpt (EVs (EV cfg) 176 [.str s,.int .i64 (qFD .i64 ((lt.length:Int) - 1))]) λv=>qt v λb=>bif b then bif qj 1 (lt.length:Int)then bif vP 4 lt then kOpt (EVs (EV cfg) 175 [.sl (qFN (qFI lt - 1) (qGb 1 lt)),.sl V]) λv=>qt v λb=>some (.bool b)else none else none else some (.bool false))else none else none else none)) P):Gets (EVs (EV cfg) 167 [.agg [.int .i64 kt,.int .i64 nt,.str st,.sl lt],.sl V]) P:=
  gE (λ_=>funS rfl rfl Tryz.func167 rfl) (by kernel_rfl) h
theorem qt0(L V:Rz){P:AV->Prop}(h:Gets (qkU L V 0) P):Gets (EVs (EV cfg) 175 [.sl L,.sl V]) P:=
  gE (λ_=>funS rfl rfl Tryz.func175 rfl) (by kernel_rfl) h
theorem qtZ(op:Bz)(n:Int){P:AV->Prop}(h:Gets (kOpt (EVf (EV cfg) 182 [.str op]) λv=>kSl v λrows=>qkT n rows 0) P):Gets (EVs (EV cfg) 176 [.str op,.int .i64 n]) P:=
  gE (λ_=>funS rfl rfl Tryz.func176 rfl) (by kernel_rfl) h
theorem qv7(L:Rz)(n:Int){P:AV->Prop}(h:Gets (qkV L n 0) P):Gets (EVs (EV cfg) 174 [.sl L,.int .i64 n]) P:=
  gE (λ_=>funS rfl rfl Tryz.func174 rfl) (by kernel_rfl) h
theorem qtY(op:Bz){P:AV->Prop}(h:Gets (bif op==[(115:UInt8),101,108,102]then some (.sl [[.int .i64 0]])else bif op==[(105:UInt8),115,95,97,116,111,109]then some (.sl [[.int .i64 1]])else bif op==[(105:UInt8),115,95,105,110,116,101,103,101,114]then some (.sl [[.int .i64 1]])else bif op==[(105:UInt8),115,95,108,105,115,116]then some (.sl [[.int .i64 1]])else bif op==[(105:UInt8),115,95,116,117,112,108,101]then some (.sl [[.int .i64 1]])else bif op==[(105:UInt8),115,95,112,105,100]then some (.sl [[.int .i64 1]])else bif op==[(105:UInt8),115,95,102,117,110,99,116,105,111,110]then some (.sl [[.int .i64 1]])else bif op==[(105:UInt8),115,95,114,101,102,101,114,101,110,99,101]then some (.sl [[.int .i64 1]])else bif op==[(110:UInt8),111,116]then some (.sl [[.int .i64 1]])else bif op==[(98:UInt8),110,111,116]then some (.sl [[.int .i64 1]])else bif op==[(97:UInt8),98,115]then some (.sl [[.int .i64 1]])else bif op==[(116:UInt8),117,112,108,101,95,115,105,122,101]then some (.sl [[.int .i64 1]])else bif op==[(115:UInt8),105,122,101]then some (.sl [[.int .i64 1]])else bif op==[(104:UInt8),100]then some (.sl [[.int .i64 1]])else bif op==[(116:UInt8),108]then some (.sl [[.int .i64 1]])else bif op==[(108:UInt8),101,110,103,116,104]then some (.sl [[.int .i64 1]])else bif op==[(43:UInt8)]then some (.sl [[.int .i64 1],[.int .i64 2]])else bif op==[(45:UInt8)]then some (.sl [[.int .i64 1],[.int .i64 2]])else bif op==[(61:UInt8),61]then some (.sl [[.int .i64 2]])else bif op==[(61:UInt8),58,61]then some (.sl [[.int .i64 2]])else bif op==[(47:UInt8),61]then some (.sl [[.int .i64 2]])else bif op==[(61:UInt8),47,61]then some (.sl [[.int .i64 2]])else bif op==[(60:UInt8)]then some (.sl [[.int .i64 2]])else bif op==[(61:UInt8),60]then some (.sl [[.int .i64 2]])else bif op==[(62:UInt8)]then some (.sl [[.int .i64 2]])else bif op==[(62:UInt8),61]then some (.sl [[.int .i64 2]])else bif op==[(97:UInt8),110,100]then some (.sl [[.int .i64 2]])else bif op==[(111:UInt8),114]then some (.sl [[.int .i64 2]])else bif op==[(120:UInt8),111,114]then some (.sl [[.int .i64 2]])else bif op==[(97:UInt8),110,100,97,108,115,111]then some (.sl [[.int .i64 2]])else bif op==[(111:UInt8),114,101,108,115,101]then some (.sl [[.int .i64 2]])else bif op==[(42:UInt8)]then some (.sl [[.int .i64 2]])else bif op==[(100:UInt8),105,118]then some (.sl [[.int .i64 2]])else bif op==[(114:UInt8),101,109]then some (.sl [[.int .i64 2]])else bif op==[(98:UInt8),97,110,100]then some (.sl [[.int .i64 2]])else bif op==[(98:UInt8),111,114]then some (.sl [[.int .i64 2]])else bif op==[(98:UInt8),120,111,114]then some (.sl [[.int .i64 2]])else bif op==[(101:UInt8),108,101,109,101,110,116]then some (.sl [[.int .i64 2]])else some (.sl [])) P):Gets (EVf (EV cfg) 182 [.str op]) P:=
  gE (λ_=>funF rfl rfl Tryz.func182 rfl) (by kernel_rfl) h
theorem qt3(kt nt:Int)(st:Bz)(lt:Rz){P:AV->Prop}(h:Gets (kOpt (EVs (EV cfg) 100 [.agg [.int .i64 kt,.int .i64 nt,.str st,.sl lt]]) λv=>kInt .i64 v λn=>bif n != 0 then some (AV.tup [.int .i64 0,.bool false])else bif kt != 2 then some (AV.tup [.int .i64 0,.bool false])else bif decide ((st.length:Int)<2)then some (AV.tup [.int .i64 0,.bool false])else bif decide ((st.length:Int)>3)then some (AV.tup [.int .i64 0,.bool false])else kOpt (qFG st 0) λb=>bif(↑ (UInt8.toNat b):Int) != 36 then some (AV.tup [.int .i64 0,.bool false])else bif(st.length:Int)==3 then kOpt (qFG st 1) λb=>bif(↑ (UInt8.toNat b):Int)==48 then some (AV.tup [.int .i64 0,.bool false])else qcc 0 1 kt nt st lt else qcc 0 1 kt nt st lt) P):Gets (EVs (EV cfg) 133 [.agg [.int .i64 kt,.int .i64 nt,.str st,.sl lt]]) P:=
  gE (λ_=>funS rfl rfl Tryz.func133 rfl) (by kernel_rfl) h
theorem qpZ(kt nt:Int)(st:Bz)(lt:Rz){P:AV->Prop}(h:Gets (kOpt (EVs (EV cfg) 128 [.agg [.int .i64 kt,.int .i64 nt,.str st,.sl lt]]) λv=>qt v λb=>bif ! b then some (.int .i64 2)else kOpt (EVs (EV cfg) 129 [.agg [.int .i64 kt,.int .i64 nt,.str st,.sl lt]]) λv=>kInt .i64 v λn=>bif decide (n>65536)then some (.int .i64 3)else some (.int .i64 0)) P):Gets (EVs (EV cfg) 100 [.agg [.int .i64 kt,.int .i64 nt,.str st,.sl lt]]) P:=
  gE (λ_=>funS rfl rfl Tryz.func100 rfl) (by kernel_rfl) h
abbrev zH0(st:Bz)(lt:Rz):Option (AV):=bif st==[]then some (.bool ((lt.length:Int)==0))else some (.bool false)
abbrev zH3(b:Bool)(st:Bz)(lt:Rz):Option (AV):=bif b then zH0 st lt else some (.bool false)
abbrev zH2(v:AV)(st:Bz)(lt:Rz):Option (AV):=qt v λb=>zH3 b st lt
abbrev zH1(nt:Int)(st:Bz)(lt:Rz):Option (AV):=kOpt (EVs (EV cfg) 166 [.int .i64 nt]) λv=>zH2 v st lt
theorem qt5(kt nt:Int)(st:Bz)(lt:Rz){P:AV->Prop}(h:Gets (bif kt==1 then bif decide (nt≥(- 576460752303423488))then bif decide (nt<=576460752303423487)then zH0 st lt else some (.bool false)else some (.bool false)else bif kt==2 then bif nt==0 then bif decide ((st.length:Int)<=64)then some (.bool ((lt.length:Int)==0))else some (.bool false)else some (.bool false)else bif kt==3 then zH1 nt st lt else bif kt==4 then zH1 nt st lt else bif kt==6 then zH1 nt st lt else bif kt==5 then kOpt (EVs (EV cfg) 166 [.int .i64 nt]) λv=>qt v λb=>bif b then bif st==[]then some (.bool (decide ((lt.length:Int)<=64)))else some (.bool false)else some (.bool false)else bif kt==7 then bif nt==0 then bif st==[]then some (.bool (decide ((lt.length:Int)<=64)))else some (.bool false)else some (.bool false)else bif kt==8 then bif nt==0 then zH0 st lt else some (.bool false)else bif kt==9 then bif nt==0 then bif st==[]then some (.bool ((lt.length:Int)==2))else some (.bool false)else some (.bool false)else some (.bool false)) P):Gets (EVs (EV cfg) 148 [.agg [.int .i64 kt,.int .i64 nt,.str st,.sl lt]]) P:=
  gE (λ_=>funS rfl rfl Tryz.func148 rfl) (by kernel_rfl) h
theorem qpY(kt nt:Int)(st:Bz)(lt:Rz){P:AV->Prop}(h:Gets (kOpt (EVs (EV cfg) 148 [.agg [.int .i64 kt,.int .i64 nt,.str st,.sl lt]]) λv=>qt v λb=>bif ! b then some (.bool false)else qkW 0 kt nt st lt) P):Gets (EVs (EV cfg) 128 [.agg [.int .i64 kt,.int .i64 nt,.str st,.sl lt]]) P:=
  gE (λ_=>funS rfl rfl Tryz.func128 rfl) (by kernel_rfl) h
theorem qpX(kt nt:Int)(st:Bz)(lt:Rz){P:AV->Prop}(h:Gets (bif kt==5 then bif kt==5 then zK 2 0 kt nt st lt else bif kt==7 then zK 2 0 kt nt st lt else bif kt==9 then zK 2 0 kt nt st lt else some (.int .i64 2)else bif kt==7 then bif kt==5 then zK 2 0 kt nt st lt else bif kt==7 then zK 2 0 kt nt st lt else bif kt==9 then zK 2 0 kt nt st lt else some (.int .i64 2)else bif kt==5 then zK 1 0 kt nt st lt else bif kt==7 then zK 1 0 kt nt st lt else bif kt==9 then zK 1 0 kt nt st lt else some (.int .i64 1)) P):Gets (EVs (EV cfg) 129 [.agg [.int .i64 kt,.int .i64 nt,.str st,.sl lt]]) P:=
  gE (λ_=>funS rfl rfl Tryz.func129 rfl) (by kernel_rfl) h
theorem qjl(L V:Rz)(v5:Int){P:AV->Prop}(h:Gets (bif decide (v5<(L.length:Int))then rs4 L v5 λn n_1 s rows=>(kOpt (EVs (EV cfg) 167 [.agg [.int .i64 n,.int .i64 n_1,.str s,.sl rows],.sl V]) λv=>qt v λb=>bif ! b then some (.bool false)else qkU L V (qFD .i64 (v5+1)))else some (.bool true)) P):Gets (qkU L V v5) P:=
  gE (λ_=>qg (cfg:=cfg) (f:=175) (rd:=none) (bs:=0)) (by kernel_rfl) h
theorem qjk(n:Int)(rows:Rz)(v6:Int){P:AV->Prop}(h:Gets (bif decide (v6<(rows.length:Int))then bif qj 0 v6&&qA v6 (rows.length:Int)then kOpt (qFG rows (v6.toNat)) λrow=>bif qFY (qFI row) 1 then kOpt (qFG row 0) λv=>kInt .i64 v λn_1=>bif n_1==n then some (.bool true)else qkT n rows (qFD .i64 (v6+1))else none else none else some (.bool false)) P):Gets (qkT n rows v6) P:=
  gE (λ_=>qg (cfg:=cfg) (f:=176) (rd:=none) (bs:=0)) (by kernel_rfl) h
theorem qjm(L:Rz)(n v5:Int){P:AV->Prop}(h:Gets (bif decide (v5<(L.length:Int))then bif qj 0 v5&&qA v5 (L.length:Int)then kOpt (qFG L (v5.toNat)) λrow=>bif qFY (qFI row) 1 then kOpt (qFG row 0) λv=>kInt .i64 v λn_1=>bif n_1==n then some (.bool true)else qkV L n (qFD .i64 (v5+1))else none else none else some (.bool false)) P):Gets (qkV L n v5) P:=
  gE (λ_=>qg (cfg:=cfg) (f:=174) (rd:=none) (bs:=0)) (by kernel_rfl) h
theorem qjn(v4 v5 c0_0 c0_1:Int)(c0_2:Bz)(c0_3:Rz){P:AV->Prop}(h:Gets (bif decide (v5<(c0_2.length:Int))then bif qj 0 v5 then kOpt (qFG c0_2 (v5.toNat)) λb=>bif decide ((↑ (UInt8.toNat b):Int)<48)then some (AV.tup [.int .i64 0,.bool false])else bif qj 0 v5 then kOpt (qFG c0_2 (v5.toNat)) λb=>bif decide ((↑ (UInt8.toNat b):Int)>57)then some (AV.tup [.int .i64 0,.bool false])else bif qj 0 v5 then kOpt (qFG c0_2 (v5.toNat)) λb=>qcc (qFD .i64 (qFD .i64 (10*v4)+qFD .i64 (qFD .u8 ((↑ (UInt8.toNat b):Int) - 48)))) (qFD .i64 (v5+1)) c0_0 c0_1 c0_2 c0_3 else none else none else none else some (AV.tup [.int .i64 v4,.bool true])) P):Gets (qcc v4 v5 c0_0 c0_1 c0_2 c0_3) P:=
  gE (λ_=>qg (cfg:=cfg) (f:=133) (rd:=none) (bs:=0)) (by kernel_rfl) h
theorem qjp(v3 c0_0 c0_1:Int)(c0_2:Bz)(c0_3:Rz){P:AV->Prop}(h:Gets (bif decide (v3<(c0_3.length:Int))then rs4 c0_3 v3 λn n_1 s rows=>(kOpt (EVs (EV cfg) 128 [.agg [.int .i64 n,.int .i64 n_1,.str s,.sl rows]]) λv=>qt v λb=>bif ! b then some (.bool false)else qkW (qFD .i64 (v3+1)) c0_0 c0_1 c0_2 c0_3)else some (.bool true)) P):Gets (qkW v3 c0_0 c0_1 c0_2 c0_3) P:=
  gE (λ_=>qg (cfg:=cfg) (f:=128) (rd:=none) (bs:=0)) (by kernel_rfl) h
theorem qjo(v3 v4 c0_0 c0_1:Int)(c0_2:Bz)(c0_3:Rz){P:AV->Prop}(h:Gets (bif decide (v4<(c0_3.length:Int))then rs4 c0_3 v4 λn n_1 s rows=>(kOpt (EVs (EV cfg) 129 [.agg [.int .i64 n,.int .i64 n_1,.str s,.sl rows]]) λv=>kInt .i64 v λn=>zK (qFD .i64 (v3+n)) (qFD .i64 (v4+1)) c0_0 c0_1 c0_2 c0_3)else some (.int .i64 v3)) P):Gets (zK v3 v4 c0_0 c0_1 c0_2 c0_3) P:=
  gE (λ_=>qg (cfg:=cfg) (f:=129) (rd:=none) (bs:=0)) (by kernel_rfl) h
theorem qlz(n:Int){P:AV->Prop}(h:Gets (bif decide (n≥0)then some (.bool (decide (n<=1073741824)))else some (.bool false)) P):Gets (EVs (EV cfg) 166 [.int .i64 n]) P:=
  gE (λ_=>funS rfl rfl Tryz.func166 rfl) (by kernel_rfl) h
theorem qnb(n:Int):EVs (EV cfg) 166 [.int .i64 n]=some (.bool (decide (0<=n)&&decide (n<=1073741824))):=by
 apply Gets.get;refine qlz _ ?_
 by_cases h:0<=n<;>simp[h]
theorem qwa(t:Tm):EVs (EV cfg) 148 [t.av]=some (.bool t.sound):=by
 obtain⟨k,n,s,l⟩:=t;apply Gets.get;rw[Tm.av_mk];refine qt5 _ _ _ _ ?_;unfold zH1 zH2 zH3 zH0;simp only[Tm.sound,Tm.kind_mk,Tm.num_mk,Tm.str_mk,Tm.subs_mk,qb,beqI,qxf,xP,qnb,qd,qp]
 by_cases h1:k=1
 ·subst h1;simp[vT]<;>(try rw[Bool.eq_iff_iff])<;>(try simp)<;>first|omega|grind
 by_cases h2:k=2
 ·subst h2;simp[vT]<;>(try rw[Bool.eq_iff_iff])<;>(try simp)<;>first|omega|grind
 by_cases h3:k=3
 ·subst h3;simp[vT]<;>(try rw[Bool.eq_iff_iff])<;>(try simp)<;>first|omega|grind
 by_cases h4:k=4
 ·subst h4;simp[vT]<;>(try rw[Bool.eq_iff_iff])<;>(try simp)<;>first|omega|grind
 by_cases h6:k=6
 ·subst h6;simp[vT]<;>(try rw[Bool.eq_iff_iff])<;>(try simp)<;>first|omega|grind
 by_cases h5:k=5
 ·subst h5;simp[vT]<;>(try rw[Bool.eq_iff_iff])<;>(try simp)<;>first|omega|grind
 by_cases h7:k=7
 ·subst h7;simp[vT]<;>(try rw[Bool.eq_iff_iff])<;>(try simp)<;>first|omega|grind
 by_cases h8:k=8
 ·subst h8;simp[vT]<;>(try rw[Bool.eq_iff_iff])<;>(try simp)<;>first|omega|grind
 by_cases h9:k=9
 ·subst h9;simp[vT]<;>(try rw[Bool.eq_iff_iff])<;>(try simp)<;>first|omega|grind
 simp[h1,h2,h3,h4,h5,h6,h7,h8,h9]
theorem qrY(t:Tm):t.w<1099511627776->EVs (EV cfg) 128 [t.av]=some (.bool t.parts):=by
 induction t using Tm.ind with
 |_ k n s l ih=>
  intro hw;rw[Tm.w_mk]at hw;have hlen:=yf l;have loop:∀d i:Nat,i+d=l.length->Gets (qkW i k n s (qa l)) (·= .bool (vw (l.drop i))):=by
   intro d
   induction d with
   |zero=>
    intro i hi;refine qjp _ _ _ _ _ ?_;unfold rs4;rw[qb,qGp (by omega),qFV (by omega)];exact⟨_,rfl,rfl⟩
   |succ d ihd=>
    intro i hi;have hil:i<l.length:=by omega
    refine qjp _ _ _ _ _ ?_;unfold rs4;have hx:l[i]? =some l[i]:=qFE hil;have hm:=qFK hx;have hd:l.drop i=l[i]::l.drop (i+1):=qFS hil;have h1:=ih l[i] hm (by have:=xF hm;omega);have h2:=ihd (i+1) (by omega);rw[qb,qGo (show(i:Int)<(l.length:Int) by omega),qv,qD,qGo hil,qY hx,qN hil (by omega),hd,vw]
    simp only[cond_true,qF7,qf,qF3,qi,qh,show qFR 4 4=true from rfl,qB,h1,qd,qp];cases hg:l[i].parts with
    |false=>exact⟨_,rfl,rfl⟩
    |true=>rw[qGm];exact h2
  have ho:=qwa (.mk k n s l);have h0:=loop l.length 0 (by omega);apply Gets.get;rw[Tm.parts_eq];rw[Tm.av_mk]at ho⊢;refine qpY _ _ _ _ ?_;rw[ho];simp only[qd,qp,Tm.subs_mk];cases(Tm.mk k n s l).sound with
  |false=>exact⟨_,rfl,rfl⟩
  |true=>rw[qGm];exact h0
theorem qfu{l:List Tm}(h:vw l=true):∀x∈l,x.parts=true:=by
 induction l with
 |nil=>intro x hx;cases hx
 |cons y l ih=>
  rw[vw,qFJ]at h;intro x hx;cases hx with
  |head=>exact h.1
  |tail _ hx=>exact ih h.2 x hx
theorem qrW(t:Tm):t.w<1099511627776->t.parts=true->EVs (EV cfg) 129 [t.av]=some (.int .i64 (t.words:Int)):=by
 induction t using Tm.ind with
 |_ k n s l ih=>
  intro hw hp;have hww:=qxO (.mk k n s l);rw[Tm.w_mk]at hw hww;have hlen:=yf l;rw[Tm.parts,qFJ]at hp;obtain⟨hp,hpl⟩:=hp;have loop:∀d i acc:Nat,i+d=l.length->acc+vh (l.drop i)<9007199254740992->Gets (zK acc i k n s (qa l)) (·= .int .i64 ((acc+vh (l.drop i):Nat):Int)):=by
   intro d
   induction d with
   |zero=>
    intro i acc hi _;refine qjo _ _ _ _ _ _ ?_;unfold rs4;rw[qb,qGp (by omega),qFV (by omega)];exact⟨_,rfl,rfl⟩
   |succ d ihd=>
    intro i acc hi hacc;have hil:i<l.length:=by omega
    refine qjo _ _ _ _ _ _ ?_;unfold rs4;have hx:l[i]? =some l[i]:=qFE hil;have hm:=qFK hx;have hd:l.drop i=l[i]::l.drop (i+1):=qFS hil;have h1:=ih l[i] hm (by have:=xF hm;omega) (qfu hpl _ hm);rw[hd,vh]at hacc;have h2:=ihd (i+1) (acc+(l[i]).words) (by omega) (by omega);have w1:qFD .i64 ((acc:Int)+((l[i]).words:Int))=((acc+(l[i]).words:Nat):Int):=by rw[qo (by omega) (by omega)];omega
    rw[qb,qGo (show(i:Int)<(l.length:Int) by omega),qv,qD,qGo hil,qY hx,qN hil (by omega),hd,vh];simp only[cond_true,qF7,qf,qF3,qi,qh,show qFR 4 4=true from rfl,qB,h1,qd,qe,w1];rw[←Nat.add_assoc];exact h2
  have hwo:(Tm.mk k n s l).words=(Tm.mk k n s l).own+vh l:=by rw[Tm.words]
  rw[hwo]at hww⊢;have ho:=(Tm.mk k n s l).own_le;have h0:=loop l.length 0 (Tm.mk k n s l).own (by omega) (by rw[List.drop_zero];omega);rw[List.drop_zero]at h0;apply Gets.get;rw[Tm.av_mk];refine qpX _ _ _ _ ?_
  by_cases h5:k=5
  ·subst h5;have o2:(Tm.mk 5 n s l).own=2:=by simp[Tm.own]
   rw[o2]at h0⊢;exact h0
  by_cases h7:k=7
  ·subst h7;have o2:(Tm.mk 7 n s l).own=2:=by simp[Tm.own]
   rw[o2]at h0⊢;exact h0
  have o1:(Tm.mk k n s l).own=1:=by simp[Tm.own,h5,h7]
  rw[o1]at h0⊢
  by_cases h9:k=9
  ·subst h9;exact h0
  have e5:(k==5)=false:=by simpa using h5
  have e7:(k==7)=false:=by simpa using h7
  have e9:(k==9)=false:=by simpa using h9
  have hl:l=[]:=by
   have:xP k n s l.length=true->l.length=0:=by
    unfold xP;rw[qGr h5,qGr h7,qGr h9];intro h
    repeat' split at h
    all_goals simp at h
    all_goals simp[h]
   exact List.length_eq_zero_iff.1 (this hp)
  subst hl;rw[e5,e7,e9];exact⟨_,rfl,rfl⟩
theorem zX{t:Tm}(h:t.w<1099511627776):EVs (EV cfg) 100 [t.av]=some (.int .i64 t.chk):=by
 have hp:=qrY t h;have hw:=qrW t h;apply Gets.get;rw[Tm.av,Tm.cells_eq]at hp hw⊢;refine qpZ _ _ _ _ ?_;rw[hp];have hc:t.chk=if t.parts then(if 65536<t.words then 3 else 0)else 2:=by
  unfold Tm.chk chkS;simp[vw,vh]
 rw[hc];simp only[qd,qp];cases ht:t.parts with
 |false=>exact⟨_,rfl,rfl⟩
 |true=>
  rw[hw ht];simp only[qd,qe,qFW,cond_false,if_true]
  by_cases hg:65536<t.words
  ·rw[qGo (show((t.words:Int)>65536) by omega),qGq hg];exact⟨_,rfl,rfl⟩
  ·rw[qGp (show ¬((t.words:Int)>65536) by omega),qGr hg];exact⟨_,rfl,rfl⟩
theorem qyf(l:List Int)(hl:l.length<1099511627776)(n:Int):EVs (EV cfg) 174 [.sl (qC l),.int .i64 n]=some (.bool (decide (n∈l))):=by
 have loop:∀d i:Nat,i+d=l.length->Gets (qkV (qC l) n i) (·= .bool (decide (n∈l.drop i))):=by
  intro d
  induction d with
  |zero=>
   intro i hi;refine qjm _ _ _ ?_;rw[vH,qGp (by omega),qFV (by omega)];exact⟨_,rfl,by simp⟩
  |succ d ih=>
   intro i hi;have hil:i<l.length:=by omega
   refine qjm _ _ _ ?_;have hx:l[i]? =some l[i]:=qFE hil;have hd:l.drop i=l[i]::l.drop (i+1):=qFS hil;have h:=ih (i+1) (by omega);rw[vH,qGo (show(i:Int)<(l.length:Int) by omega),qv,qD,qGo hil,qu,qFT,qcm,hx,qN hil hl,hd]
   by_cases he:l[i]=n
   ·refine⟨.bool true,?_,?_⟩
    ·simp[he]
    ·rw[he];simp
   ·have hne:(l[i]==n)=false:=by rw[beqI];exact qGp he
    have hm:decide (n∈l[i]::l.drop (i+1))=decide (n∈l.drop (i+1)):=decide_eq_decide.2 (by rw[qF6];exact⟨λh=>h.resolve_left (λe=>he e.symm),Or.inr⟩);rw[hm]
    simpa [hne]using h
 apply Gets.get;exact qv7 _ _ (by simpa using loop l.length 0 (by omega))
theorem qv4(op:List UInt8):EVf (EV cfg) 182 [.str op]=some (.sl (qC (opsG op))):=by
 apply Gets.get;refine qtY _ ?_;have h:=qhA (λl=>some (AV.sl (qC l))) op [] qeU;have:Gets (qbk op (some (AV.sl (qC []))) (qeU.map λp=>(p.1,some (AV.sl (qC p.2))))) (·= .sl (qC (opsG op))):=by
  rw[h];exact⟨_,rfl,rfl⟩
 exact this
theorem qv5(op:List UInt8)(n:Int):EVs (EV cfg) 176 [.str op,.int .i64 n]=some (.bool (decide (n∈opsG op))):=by
 have hl:=qp2 op;have loop:∀d i:Nat,i+d=(opsG op).length->Gets (qkT n (qC (opsG op)) i) (·= .bool (decide (n∈(opsG op).drop i))):=by
  generalize opsG op=l at hl;intro d
  induction d with
  |zero=>
   intro i hi;refine qjk _ _ _ ?_;rw[vH,qGp (by omega),qFV (by omega)];exact⟨_,rfl,by simp⟩
  |succ d ih=>
   intro i hi;have hil:i<l.length:=by omega
   refine qjk _ _ _ ?_;have hx:l[i]? =some l[i]:=qFE hil;have hd:l.drop i=l[i]::l.drop (i+1):=qFS hil;have h:=ih (i+1) (by omega);rw[vH,qGo (show(i:Int)<(l.length:Int) by omega),qv,qD,qGo hil,qu,qFT,qcm,hx,qN hil hl,hd]
   by_cases he:l[i]=n
   ·refine⟨.bool true,?_,?_⟩
    ·simp[he]
    ·rw[he];simp
   ·have hne:(l[i]==n)=false:=by rw[beqI];exact qGp he
    have hm:decide (n∈l[i]::l.drop (i+1))=decide (n∈l.drop (i+1)):=decide_eq_decide.2 (by rw[qF6];exact⟨λh=>h.resolve_left (λe=>he e.symm),Or.inr⟩);rw[hm]
    simpa [hne]using h
 apply Gets.get;refine qtZ _ _ ?_;rw[qv4];exact(by simpa using loop (opsG op).length 0 (by omega))
theorem qkm{k n:Int}{s:List UInt8}{l:List (List AV)}{b:UInt8}{v:Int}{i:Nat}{P:AV->Prop}(hv:0<=v∧v<=9)(hl:s.length<=3)(hb:s[i]? =some b)(h:Gets (match yg b with|none=>some (AV.tup [.int .i64 0,.bool false])|some x=>qcc (v*10+x) ((i+1:Nat):Int) k n s l) P):Gets (qcc v i k n s l) P:=by
 have hi:i<s.length:=(qFF.1 hb).1;refine qjn _ _ _ _ _ _ ?_;have hbl:=b.toNat_lt;rw[qGo (show(i:Int)<(s.length:Int) by omega),qv];simp only[cond_true,qu,qFT,hb,qd];unfold yg at h
 by_cases h1:b.toNat<48
 ·rw[qGq h1]at h;rw[qGo (show(b.toNat:Int)<48 by omega)];exact h
 ·rw[qGr h1]at h;rw[qGp (show ¬(b.toNat:Int)<48 by omega),cond_false]
  by_cases h2:b.toNat>57
  ·rw[qGq h2]at h;rw[qGo (show(b.toNat:Int)>57 by omega)];exact h
  ·rw[qGr h2]at h;rw[qGp (show ¬(b.toNat:Int)>57 by omega),cond_false];have w1:qFD .i64 (10*v)=v*10:=by rw[qo (by omega) (by omega)];omega
   have w2:qFD .u8 ((b.toNat:Int) - 48)=(b.toNat:Int) - 48:=by
    simp[qFD,IntKind.bits,IntKind.signed];omega
   have w3:qFD .i64 ((b.toNat:Int) - 48)=(b.toNat:Int) - 48:=qo (by omega) (by omega);have w4:qFD .i64 (v*10+((b.toNat:Int) - 48))=v*10+((b.toNat:Int) - 48):=qo (by omega) (by omega);have w5:qFD .i64 ((i:Int)+1)=((i+1:Nat):Int):=qN (n:=3) (by omega) (by omega);rw[w1,w2,w3,w4,w5];exact h
theorem qsO{k n:Int}{s:List UInt8}{l:List (List AV)}{v:Int}{i:Nat}(hi:i=s.length):Gets (qcc v i k n s l) (·= .tup [.int .i64 v,.bool true]):=by
 refine qjn _ _ _ _ _ _ ?_;rw[qGp (by omega)];exact⟨_,rfl,rfl⟩
theorem qhq{t:Tm}(h:t.w<1099511627776):EVs (EV cfg) 133 [t.av]=some (varR (varT t)):=by
 have hc:=zX h;apply Gets.get;rw[Tm.av,Tm.cells_eq]at hc⊢;refine qt3 _ _ _ _ ?_;rw[hc];unfold varT;simp only[qd,qe]
 by_cases h2:t.chk=0
 ·have e0:(t.chk != 0)=false:=by rw[h2];rfl
  rw[e0,cond_false]
  by_cases h1:t.kind=2
  ·have e1:(t.kind != 2)=false:=by rw[h1];rfl
   rw[e1,cond_false,qGq ⟨h1,h2⟩];generalize t.str=s;generalize t.kind=k;generalize t.num=n;generalize qa t.subs=l
   match s with
   |[]=>exact⟨_,rfl,rfl⟩
   |[a]=>exact⟨_,rfl,rfl⟩
   |a::b::c::d::l=>
    have h1:¬((a::b::c::d::l).length:Int)<2:=by simp;omega
    have h2:((a::b::c::d::l).length:Int)>3:=by simp;omega
    rw[qGp h1,qGo h2];exact⟨_,rfl,rfl⟩
   |[a,b]=>
    by_cases h:a.toNat=36
    ·have e:(((a.toNat:Int)) != 36)=false:=by rw[h];rfl
     have hs:=qkm (k:=k) (n:=n) (l:=l) (s:=[a,b]) (b:=b) (v:=0) (i:=1) (P:=(·=varR (varG [a,b]))) (by omega) (by simp) rfl (by
      rw[qoR,qGq h];cases hd:yg b with
      |none=>exact⟨_,rfl,rfl⟩
      |some x=>
       refine(qsO (s:=[a,b]) rfl).mono ?_;rintro _ rfl;show _=varR (some x);simp[varR])
     show Gets (bif(((a.toNat:Int)) != 36)then _ else _) _;rw[e];exact hs
    ·have e:(((a.toNat:Int)) != 36)=true:=by simpa using λh'=>h (by omega)
     show Gets (bif(((a.toNat:Int)) != 36)then _ else _) _;rw[e];refine⟨_,rfl,?_⟩;rw[qoR,qGr h];rfl
   |[a,b,c]=>
    by_cases h:a.toNat=36
    ·have e:(((a.toNat:Int)) != 36)=false:=by rw[h];rfl
     show Gets (bif(((a.toNat:Int)) != 36)then _ else bif(((b.toNat:Int))==48)then _ else _) _;rw[e]
     by_cases hb:b.toNat=48
     ·have e2:(((b.toNat:Int))==48)=true:=by rw[hb];rfl
      rw[e2];refine⟨_,rfl,?_⟩;rw[qiK,qGr (λh=>h.2 hb)];rfl
     ·have e2:(((b.toNat:Int))==48)=false:=by simpa using λh'=>hb (by omega)
      rw[e2];show Gets (qcc 0 1 k n [a,b,c] l) _;refine qkm (s:=[a,b,c]) (b:=b) (v:=0) (i:=1) (by omega) (by simp) rfl ?_;rw[qiK,qGq ⟨h,hb⟩];cases hd:yg b with
      |none=>exact⟨_,rfl,rfl⟩
      |some x=>
       have hx:=qco hd;refine qkm (s:=[a,b,c]) (b:=c) (i:=2) (by omega) (by simp) rfl ?_;cases hd2:yg c with
       |none=>exact⟨_,rfl,by simp[varR]⟩
       |some y=>
        refine(qsO (s:=[a,b,c]) rfl).mono ?_;rintro _ rfl;simp[varR]
    ·have e:(((a.toNat:Int)) != 36)=true:=by simpa using λh'=>h (by omega)
     show Gets (bif(((a.toNat:Int)) != 36)then _ else _) _;rw[e];refine⟨_,rfl,?_⟩;rw[qiK,qGr (λh'=>h h'.1)];rfl
  ·have e1:(t.kind != 2)=true:=by simpa using h1
   rw[e1,qGr (λh=>h1 h.1)];exact⟨_,rfl,rfl⟩
 ·have e0:(t.chk != 0)=true:=by simpa using h2
  rw[e0,qGr (λh=>h2 h.2)];exact⟨_,rfl,rfl⟩
theorem qv8{V:List Int}{l:List Tm}(hlen:l.length<1099511627776)(ih:∀x∈l,EVs (EV cfg) 167 [x.av,.sl (qC V)]=some (.bool (isG V x))):
  EVs (EV cfg) 175 [.sl (qa l),.sl (qC V)]=some (.bool (allG V l)):=by
 have loop:∀d i:Nat,i+d=l.length->Gets (qkU (qa l) (qC V) i) (·= .bool (allG V (l.drop i))):=by
  intro d
  induction d with
  |zero=>
   intro i hi;refine qjl _ _ _ ?_;unfold rs4;rw[qb,qGp (by omega),qFV (by omega)];exact⟨_,rfl,by rw[allG]⟩
  |succ d ihd=>
   intro i hi;have hil:i<l.length:=by omega
   refine qjl _ _ _ ?_;unfold rs4;have hx:l[i]? =some l[i]:=qFE hil;have hd:l.drop i=l[i]::l.drop (i+1):=qFS hil;have h1:=ih l[i] (qFK hx);have h2:=ihd (i+1) (by omega);rw[qb,qGo (show(i:Int)<(l.length:Int) by omega),qv,qD,qGo hil,qY hx,qN hil hlen,hd,allG];simp only[cond_true,qF7,qf,qF3,qi,qh,show qFR 4 4=true from rfl,qB,h1,qd,qp]
   cases hg:isG V l[i]with
   |false=>exact⟨_,rfl,rfl⟩
   |true=>rw[qGm];exact h2
 apply Gets.get;exact qt0 _ _ (by simpa using loop l.length 0 (by omega))
theorem qye{V:List Int}(hV:V.length<1099511627776):∀(n:Nat) (t:Tm),t.w<=n->n<1099511627776->EVs (EV cfg) 167 [t.av,.sl (qC V)]=some (.bool (isG V t)):=by
 intro n
 induction n with
 |zero=>intro t h;have:=xW t;omega
 |succ n ih=>
  intro t hw hn;have hwe:=t.w_eq;have hwl:=yf t.subs;have allOf:∀l:List Tm,wL l<=n->EVs (EV cfg) 175 [.sl (qa l),.sl (qC V)]=some (.bool (allG V l)):=λl hl=>
   qv8 (by have:=yf l;omega) λx hx=>ih x (by have:=xF hx;omega) (by omega)
  have hvar:=qhq (t:=t) (by omega);have hsub:=allOf t.subs (by omega);apply Gets.get;rw[Tm.av,Tm.cells_eq]at hvar⊢;refine qv6 _ _ _ _ _ ?_;rw[hvar,hsub];simp only[beqI,qd,qp];simp only[varR,kTup,ql,qe,qp,kNil];cases hv:varT t with
  |some x=>
   have h2:t.kind=2:=by
    unfold varT at hv;split at hv
    ·rename_i h;exact h.1
    ·cases hv
   have hc:=qyf V hV x;simp only[Option.getD_some,Option.isSome_some,cond_true];rw[hc,qkG h2,hv];exact⟨_,rfl,rfl⟩
  |none=>
   simp only[Option.isSome_none,cond_false]
   by_cases h9:t.kind=9
   ·rw[qGo h9,cond_true,qqs h9];exact⟨_,rfl,rfl⟩
   ·rw[qGp h9,cond_false]
    by_cases h7:t.kind=7
    ·have e7:(t.kind != 7)=false:=by rw[h7];rfl
     rw[e7,cond_false];cases hl:t.subs with
     |nil=>rw[qs1 h7 hl];exact⟨_,rfl,rfl⟩
     |cons f r=>
      rw[qs0 h7 hl];rw[hl]at hwl hwe;rw[vC]at hwe;have hfw:=f.w_eq;have hfs:=allOf f.subs (by omega);have hr:=allOf r (by omega);have hrl:=yf r;have c0:(decide (((qa (f::r)).length:Int)=0))=false:=by rw[qb];exact qGp (by simp;omega)
      have c1:qA 0 ((qa (f::r)).length:Int)=true:=by rw[qb];exact qGo (by simp)
      have c2:qj 1 ((qa (f::r)).length:Int)=true:=by rw[qb];exact qGo (by simp;omega)
      have c3:qFD .i64 (((qa (f::r)).length:Int) - 1)=(r.length:Int):=by
       rw[qb,qGf,qo (by omega) (by omega)];omega
      have c4:(decide (((qa (f::r)).length:Int)=1))=decide (r.length=0):=by rw[qb,qGf];exact decide_eq_decide.2 (by omega)
      have c5:(decide (((qa (f::r)).length:Int)=2))=decide (r.length=1):=by rw[qb,qGf];exact decide_eq_decide.2 (by omega)
      have g0:(qa (f::r))[(0:Int).toNat]? =some f.cells:=by rw[qF];rfl
      have g0':(qa (f::r))[0]? =some f.cells:=g0;have tk:qFN ((qa (f::r)).length - 1) (qGb 1 (qa (f::r)))=qa r:=by
       rw[qF,List.drop_succ_cons,List.drop_zero,qGf,Nat.add_sub_cancel,List.take_length]
      have hm:=qv5 f.str (r.length:Int);rw[c0,c1,c2,c3,c4,c5,tk];simp only[cond_false,cond_true,qu,g0',qd,qf,qF3,show qFR 4 4=true from rfl,qi,qh,yV,beqS,hm,hfs,hr,qp]
      by_cases f7:f.kind=7
      ·have f2:(f.kind != 2)=true:=by rw[f7];rfl
       rw[qGq f7,qGo f7,f2];cases decide (r.length=0)<;>exact⟨_,rfl,rfl⟩
      ·rw[qGr f7,qGp f7,cond_false]
       by_cases f2:f.kind=2
       ·have e2:(f.kind != 2)=false:=by rw[f2];rfl
        rw[qGq f2,e2,cond_false]
        by_cases hc:f.str=[99,111,110,115,116]
        ·rw[qGq hc,qGo hc];cases decide (r.length=0)<;>exact⟨_,rfl,rfl⟩
        ·rw[qGr hc,qGp hc,cond_false];cases decide (r.length=0)<;>cases decide ((r.length:Int)∈opsG f.str)<;>exact⟨_,rfl,rfl⟩
       ·have e2:(f.kind != 2)=true:=by simpa using f2
        rw[qGr f2,e2];cases decide (r.length=0)<;>exact⟨_,rfl,rfl⟩
    ·have e7:(t.kind != 7)=true:=by simpa using h7
     rw[e7]
     by_cases h2:t.kind=2
     ·rw[qkG h2,hv];exact⟨_,rfl,rfl⟩
     ·rw[qob h2 h9 h7];exact⟨_,rfl,rfl⟩
theorem qrQ{V:List Int}(hV:V.length<1099511627776){t:Tm}(h:t.w<1099511627776):EVs (EV cfg) 150 [t.av,.sl (qC V)]=some (.int .i64 (zs V t)):=by
 have hc:=zX h;have hi:=qye hV t.w t (qFH _) h;apply Gets.get;rw[Tm.av,Tm.cells_eq]at hc hi⊢;refine qpU _ _ _ _ _ ?_;rw[hc,hi];unfold zs;simp only[qd,qe,qp]
 by_cases h0:t.chk=0
 ·have:(t.chk != 0)=false:=by rw[h0];rfl
  rw[this,qGq h0];cases isG V t<;>exact⟨_,rfl,rfl⟩
 ·have:(t.chk != 0)=true:=by simpa using h0
  rw[this,qGr h0];exact⟨_,rfl,rfl⟩
end Go.Proofs.YtgleolmhpmljhaaGreat
end
noncomputable section
namespace Go.Av
def setL(q:Nat->Bool):List Int:=((qGn 100).filter q).map Int.ofNat
theorem qlj(q:Nat->Bool):setL q=((List.range' 0 100).filter q).map Int.ofNat:=by unfold setL;rw[List.range_eq_range']
theorem qx3(q:Nat->Bool):(setL q).length<=100:=by
 unfold setL;rw[List.length_map];exact Nat.le_trans (List.length_filter_le _ _) (by simp)
theorem qvC(p:Tm):yJ p=if p.chk=0 then setL (λn=>vU (n:Nat) p)else[]:=rfl
def insL:List Int->Int->List Int
 |[],n=>[n]
 |x::l,n=>if x<n then x::insL l n else if x=n then x::l else n::x::l
theorem qyN(A:List Int)(B:List Int)(n:Int)(h:∀a∈A,a<n):insL (A++B) n=A++insL B n:=by
 induction A with
 |nil=>rfl
 |cons a A ih=>
  rw[List.cons_append,insL,qGq (h a (by simp)),ih (λx hx=>h x (by simp[hx]))];rfl
theorem qAT(B:List Int)(n:Int)(h:∀b∈B,n<b):insL B n=n::B:=by
 cases B with
 |nil=>rfl
 |cons b B=>
  have:=h b (by simp);rw[insL,qGr (by omega),qGr (by omega)]
theorem qsm(q:Nat->Bool)(n:Nat):∀d a:Nat,a<=n->n<a+d->insL (((List.range' a d).filter q).map Int.ofNat) (n:Int)=((List.range' a d).filter λm=>q m||decide (m=n)).map Int.ofNat:=by
 intro d
 induction d with
 |zero=>intro a h1 h2;omega
 |succ d ih=>
  intro a h1 h2;rw[List.range'_succ]
  by_cases ha:a=n
  ·subst ha;have hgt:∀b∈((List.range' (a+1) d).filter q).map Int.ofNat,(a:Int)<b:=by
    intro b hb;obtain⟨m,hm,rfl⟩:=List.mem_map.1 hb;have:=(List.mem_range'_1.1 (List.mem_filter.1 hm).1).1;show(a:Int)<(m:Int);omega
   have hc:(List.range' (a+1) d).filter (λm=>q m||decide (m=a))=(List.range' (a+1) d).filter q:=by
    refine List.filter_congr λm hm=>?_
    have:=(List.mem_range'_1.1 hm).1;rw[qGp (by omega),Bool.or_false]
   rw[List.filter_cons_of_pos (p:=λm=>q m||decide (m=a)) (by simp),hc];cases hq:q a with
   |true=>
    rw[List.filter_cons_of_pos hq,List.map_cons,insL,qGr (by simp),qGq (show Int.ofNat a=(a:Int)from rfl)]
   |false=>
    rw[List.filter_cons_of_neg (by simp[hq]),qAT _ _ hgt];rfl
  ·have h:=ih (a+1) (by omega) (by omega);cases hq:q a with
   |true=>
    rw[List.filter_cons_of_pos hq,List.filter_cons_of_pos (p:=λm=>q m||decide (m=n)) (by simp[hq]),List.map_cons,List.map_cons,insL,qGq (by show(a:Int)<(n:Int);omega),h]
   |false=>
    rw[List.filter_cons_of_neg (by simp[hq]),List.filter_cons_of_neg (p:=λm=>q m||decide (m=n)) (by simp[hq,ha]),h]
theorem qyM(q:Nat->Bool){n:Nat}(h:n<100):insL (setL q) (n:Int)=setL λm=>q m||decide (m=n):=by
 rw[qlj,qlj];exact qsm q n 100 0 (by omega) (by omega)
theorem qrC(l:List Int):vP 1 (qC l)=true:=by cases l<;>rfl
theorem ql7(l:List Int)(n:Nat):(qC l).take n=qC (l.take n):=by simp[qC,List.map_take]
theorem quP(l:List Int)(n:Nat):(qC l).drop n=qC (l.drop n):=by simp[qC,List.map_drop]
theorem qoc(a b:List Int):qC a++qC b=qC (a++b):=by simp[qC]
theorem qmk{n:Nat}(h:n<=1099511627776):qI n 8=true:=by
 unfold qI;rw[qFJ,qGj,qGj];omega
end Go.Av
namespace Go.Proofs.YtgleolmhpmljhaaGreat
open Go.Av
theorem qt1{l:List Int}(hl:l.length<1000000)(n:Int):EVf (EV cfg) 134 [.sl (qC l),.int .i64 n]=some (.sl (qC (insL l n))):=by
 -- put in at a place
 have put:∀i:Nat,i<=l.length->Gets (qfM (qC l) n i) (·= .sl (qC (l.take i++n::l.drop i))):=by
  intro i hi;refine qoG _ _ _ ?_;have e1:(i:Int).toNat=i:=qFT i;have hli:qj (i:Int) (((qC l).length:Nat):Int)=true:=by rw[vH];simp only[qj];exact qGo (by omega)
  have e2:(qC l).take (i - 0)=qC (l.take i):=by rw[Nat.sub_zero,ql7]
  have e3:qFN ((qC l).length - i) (qGb i (qC l))=qC (l.drop i):=by
   rw[vH,quP,ql7,qFP (by rw[List.length_drop];exact qFH _)]
  have e4:(qC (l.take i)).length=i:=by rw[vH,qF9];omega
  have e5:(qC (l.drop i)).length=l.length - i:=by rw[vH,List.length_drop]
  have e6:qF2 (qFN (0+i) (qC (l.take i))) [[AV.int .i64 n]]=qC (l.take i++[n]):=by
   rw[qFP (by omega),←qoc];rfl
  have e7:(qC (l.take i++[n])).length=i+1:=by rw[vH,qFU,qF9,List.length_singleton];omega
  have e8:qF2 (qFN (0+i+1) (qC (l.take i++[n]))) (qC (l.drop i))=qC (l.take i++n::l.drop i):=by
   rw[qFP (by omega)];show qC _++qC _=_;rw[qoc,qGl];rfl
  have e9:(qC (l.take i++n::l.drop i)).length=i+1+(l.length - i):=by rw[vH,qFU,qF9,qGf,List.length_drop];omega
  have e10:qFN (0+i+1+(l.length - i)) (qC (l.take i++n::l.drop i))=qC (l.take i++n::l.drop i):=qFP (by omega);have b1:qFR (0+(0+i)) i=true:=by rw[qGj];omega
  have b2:qFR (0+(0+i+1)) (i+1)=true:=by rw[qGj];omega
  have b3:qFR (0+(0+i+1+(l.length - i))) (i+1+(l.length - i))=true:=by rw[qGj];omega
  have f1:qI (0+i) 8=true:=qmk (by omega);have f2:qI (0+i+1) 8=true:=qmk (by omega);have f3:qI (0+i+1+(l.length - i)) 8=true:=qmk (by omega);simp only[e1,qv,hli,qrC,e2,e3,e4,e5,e6,e7,e8,e9,e10,b1,b2,b3,f1,f2,f3,qF7,cond_true];exact⟨_,rfl,rfl⟩
 -- where the numbers begin that are not below
 have here:∀i:Nat,i<=l.length->(∀a∈l.take i,a<n)->(∀x r,l.drop i=x::r->¬x<n)->Gets (qfN (qC l) n i) (·= .sl (qC (insL l n))):=by
  intro i hi hlt hge;have hsplit:insL l n=l.take i++insL (l.drop i) n:=by
   have:=qyN (l.take i) (l.drop i) n hlt
   rwa [List.take_append_drop]at this
  refine qoH _ _ _ ?_
  by_cases hil:i<l.length
  ·have hx:l[i]? =some l[i]:=qFE hil;have hd:l.drop i=l[i]::l.drop (i+1):=qFS hil;have hnl:=hge _ _ hd;rw[vH,qGo (show(i:Int)<(l.length:Int) by omega),qv,qD,qGo hil,qu,qFT,qcm,hx];simp only[qF7,cond_true,qGc,qd,List.length_singleton,qF3,qu,List.getElem?_cons_zero,qe,beqI]
   by_cases he:l[i]=n
   ·rw[qGo he];refine⟨_,rfl,?_⟩;rw[hsplit,hd,insL,qGr hnl,qGq he,←hd,List.take_append_drop]
   ·rw[qGp he];have h:=put i hi;have e:insL (l.drop i) n=n::l.drop i:=by rw[hd,insL,qGr hnl,qGr he]
    rw[hsplit,e];exact h
  ·rw[vH,qGp (by omega)];have h:=put i hi;have e0:l.drop i=[]:=qFV (by omega);have e:insL (l.drop i) n=n::l.drop i:=by rw[e0];rfl
   rw[hsplit,e];exact h
 have loop:∀d i:Nat,i+d=l.length->(∀a∈l.take i,a<n)->Gets (qff (qC l) n i) (·= .sl (qC (insL l n))):=by
  intro d
  induction d with
  |zero=>
   intro i hi hlt;refine qf0 _ _ _ ?_;rw[vH,qGp (by omega)];exact here i (by omega) hlt (λx r h=>by rw[qFV (by omega)]at h;cases h)
  |succ d ih=>
   intro i hi hlt;have hil:i<l.length:=by omega
   refine qf0 _ _ _ ?_;have hx:l[i]? =some l[i]:=qFE hil;have hd:l.drop i=l[i]::l.drop (i+1):=qFS hil;rw[vH,qGo (show(i:Int)<(l.length:Int) by omega),qv,qD,qGo hil,qu,qFT,qcm,hx,qN hil (by omega)];simp only[qF7,cond_true,qGc,qd,List.length_singleton,qF3,qu,List.getElem?_cons_zero,qe]
   by_cases hlx:l[i]<n
   ·rw[qGo hlx];refine ih (i+1) (by omega) (λa ha=>?_);rw[qGk,hx,Option.toList_some,qF8]at ha;rcases ha with h|h
    ·exact hlt a h
    ·simp at h;subst h;exact hlx
   ·rw[qGp hlx];refine here i (by omega) hlt (λx r h=>?_);rw[hd]at h;cases h;exact hlx
 apply Gets.get;exact qrR _ _ (loop l.length 0 (by omega) (by simp))
theorem qv9{t:Tm}(h:t.w<1099511627776):EVs (EV cfg) 149 [t.av]=some (.bool (anyT t)):=by
 have hm:=zX h;apply Gets.get;rw[Tm.av,Tm.cells_eq]at hm⊢;refine qt4 _ _ _ _ ?_;rw[hm];simp only[beqI,beqS,qd,qe];unfold anyT;cases decide (t.kind=2)<;>cases decide (t.str=[95])<;>cases decide (t.chk=0)<;>exact⟨_,rfl,rfl⟩
theorem qAt{t:Tm}{n:Int}(h:varT t=some n):0<=n∧n<100:=by
 unfold varT at h;split at h
 ·have:=qiJ h;omega
 ·cases h
theorem qlx:∀(n:Nat) (p:Tm),p.w<=n->p.chk=0->∀q:Nat->Bool,EVf (EV cfg) 103 [p.av,.sl (qC (setL q))]=some (.sl (qC (setL λm=>q m||vU (m:Nat) p))):=by
 intro n
 induction n with
 |zero=>intro p h;have:=xW p;omega
 |succ n ih=>
  intro p hw hc q;have hwe:=p.w_eq;have hwc:=xX hc;have hv:=qhq (t:=p) (by omega);have loop:∀(l:List Tm),wL l<=n->(∀x∈l,x.chk=0)->l.length<1000000->∀(d i:Nat) (q:Nat->Bool),i+d=l.length->Gets (qii (qa l) (qC (setL q)) i) (·= .sl (qC (setL λm=>q m||(l.drop i).any (vU (m:Nat))))):=by
   intro l hwl hcl hlen d
   induction d with
   |zero=>
    intro i q hi;refine qgr _ _ _ ?_;unfold rs4;rw[qb,qGp (by omega),qFV (by omega)];simp only[List.any_nil,Bool.or_false];exact⟨_,rfl,rfl⟩
   |succ d ihd=>
    intro i q hi;have hil:i<l.length:=by omega
    have hx:l[i]? =some l[i]:=qFE hil;have hd:l.drop i=l[i]::l.drop (i+1):=qFS hil;have hm:=qFK hx;refine qgr _ _ _ ?_;unfold rs4;have hi2:=ih l[i] (by have:=xF hm;omega) (hcl _ hm) q;have h2:=ihd (i+1) (λm=>q m||vU (m:Nat) l[i]) (by omega);rw[qb,qGo (show(i:Int)<(l.length:Int) by omega),qv,qD,qGo hil,qY hx,qN hil (by omega)]
    simp only[cond_true,qF7,qf,qF3,qi,qh,show qFR 4 4=true from rfl,qB,hi2,qd,q5];rw[hd];simp only[List.any_cons,←Bool.or_assoc];exact h2
  have hp:∀l:List Tm,EVf (EV cfg) 135 [p.av]=some (.sl (qa l))->wL l<=n->(∀x∈l,x.chk=0)->l.length<1000000->(∀m:Nat,vU (m:Nat) p=l.any (vU (m:Nat)))->varT p=none ->
    EVf (EV cfg) 103 [p.av,.sl (qC (setL q))]=some (.sl (qC (setL λm=>q m||vU (m:Nat) p))):=by
   intro l hpl hwl hcl hlen heq hnone;have h:=loop l hwl hcl hlen l.length 0 q (by omega);apply Gets.get;rw[Tm.av,Tm.cells_eq]at hpl hv⊢;refine qjW _ _ _ _ _ ?_;rw[hv,hpl,hnone];simp only[varR,qd,kTup,ql,qe,kNil,Option.isSome_none,qp,cond_false,q5];rw[List.drop_zero]at h;simp only[heq];exact h
  have parts:EVf (EV cfg) 135 [p.av]=some (.sl (qa (if p.kind=7∨p.kind=9 then p.subs else[]))):=by
   apply Gets.get;rw[Tm.av,Tm.cells_eq];refine qhr _ _ _ _ ?_;rw[beqI,beqI]
   by_cases h7:p.kind=7
   ·rw[qGo h7,qGq (.inl h7)];exact⟨_,rfl,rfl⟩
   ·by_cases h9:p.kind=9
    ·rw[qGp h7,qGo h9,qGq (.inr h9)];exact⟨_,rfl,rfl⟩
    ·rw[qGp h7,qGp h9,qGr (λh=>h.elim h7 h9),qO];exact⟨_,rfl,rfl⟩
  cases hvt:varT p with
  |some x=>
   obtain⟨h0,h1⟩:=qAt hvt;have hk:p.kind=2:=by
    unfold varT at hvt;split at hvt
    ·rename_i h;exact h.1
    ·cases hvt
   have hvg:varG p.str=some x:=by
    unfold varT at hvt;rw[qGq ⟨hk,hc⟩]at hvt;exact hvt
   obtain⟨k,rfl⟩:∃k:Nat,x=k:=⟨x.toNat,by omega⟩;have hw1:=qt1 (l:=setL q) (by have:=qx3 q;omega) (k:Int);rw[qyM q (by omega)]at hw1;apply Gets.get;rw[Tm.av,Tm.cells_eq]at hv⊢;refine qjW _ _ _ _ _ ?_;rw[hv,hvt];simp only[varR,qd,kTup,ql,qe,kNil,Option.isSome_some,Option.getD_some,qp,cond_true,hw1,q5];refine⟨_,rfl,?_⟩
   congr 3
   funext m
   congr 1
   rw[zh,qGr (by omega),qGo hk,hvg,qGm];exact decide_eq_decide.2 ⟨λh=>by rw[h],λh=>by cases h;rfl⟩
  |none=>
   rw[hvt]at hv
   by_cases h79:p.kind=7∨p.kind=9
   ·rw[qGq h79]at parts;exact hp p.subs parts (by omega) (λx hx=>xi hc hx) (by have:=qxW hc;omega) (λm=>by rw[zh,qGq h79]) hvt
   ·rw[qGr h79]at parts;refine hp [] parts (by simp) (by simp) (by simp) (λm=>?_) hvt;rw[zh,qGr h79,List.any_nil]
    by_cases hk:p.kind=2
    ·unfold varT at hvt;rw[qGq ⟨hk,hc⟩]at hvt;rw[hvt];simp
    ·rw[qGp hk];rfl
theorem qt2{t:Tm}(h:t.w<1099511627776):EVf (EV cfg) 131 [t.av]=some (.sl (qC (yJ t))):=by
 have hc:=zX h;rw[qvC];apply Gets.get
 by_cases h0:t.chk=0
 ·have hv:=qlx t.w t (qFH _) h0 (λ_=>false);have e0:qC (setL λ_=>false)=[]:=rfl;rw[e0]at hv;rw[Tm.av,Tm.cells_eq]at hv hc⊢;refine qjX _ _ _ _ ?_;rw[hc,h0,qGq rfl,hv];simp only[qd,qe,q5,Bool.false_or];exact⟨_,rfl,rfl⟩
 ·rw[Tm.av,Tm.cells_eq]at hc⊢;refine qjX _ _ _ _ ?_;rw[hc,qGr h0];simp only[qd,qe,bneD,qGp h0];exact⟨_,rfl,rfl⟩
def qEb:Den:=evC cfg (EV cfg) 69 none 0 (sub (qc Tryz.f69) [1,1,0,1,0,0])
def qEK:Ex×List AV×AH->Option AV:=kAft (Cfg.keepOut cfg 69 3) (kRun cfg (EV cfg) (kfN cfg 6) 69 none 0 (vX cfg (Cfg.lift cfg 69 0) Tryz.f69.results.toList) ([.block 0,.seq (sub (qc Tryz.f69) [1,1,1])]))
def qDL:List AV×AH->Option AV:=λp=>kOpt (LOOP 0 (some [1,2,3,4]) ([(3,4)]) qEb p) qEK
def qBV:Den:=evC cfg (EV cfg) 108 none 0 (sub (qc Tryz.f108) [1,1,0,1,0,0])
def qCE:Ex×List AV×AH->Option AV:=kAft (Cfg.keepOut cfg 108 3) (kRun cfg (EV cfg) (kfN cfg 6) 108 none 0 (vM cfg (Cfg.lift cfg 108 0) Tryz.f108.results.toList) ([.block 0,.seq (sub (qc Tryz.f108) [1,1,1])]))
def qBa:List AV×AH->Option AV:=λp=>kOpt (LOOP 0 (some [0,1,5,6]) ([]) qBV p) qCE
abbrev qkS(nv3:Nat)(v4 c0_0 c0_1:Int)(c0_2:Bz)(c0_3:Rz)(c1_0 c1_1:Int)(c1_2:Bz)(c1_3 h2:Rz):Option (AV):=qDL (((fx 24 [(1,.ptr 0 0 0),(2,.ptr 1 0 0),(3,.ms 2 0 nv3),(4,.int .i64 v4)]):List AV),([.rows false 4 [[.int .i64 c0_0,.int .i64 c0_1,.str c0_2,.sl c0_3]],.rows false 4 [[.int .i64 c1_0,.int .i64 c1_1,.str c1_2,.sl c1_3]],.rows true 4 h2]:AH))
abbrev qew(A B:Rz)(v5 v6:Int):Option (AV):=qBa (((fx 32 [(0,.sl A),(1,.sl B),(5,.int .i64 v5),(6,.int .i64 v6)]):List AV),([]:AH))
theorem qrZ(kt nt:Int)(st:Bz)(lt:Rz){P:AV->Prop}(h:Gets (qkS 0 0 kt nt st lt 0 0 [] [] []) P):Gets (EVf (EV cfg) 69 [.agg [.int .i64 kt,.int .i64 nt,.str st,.sl lt]]) P:=
  gE (λ_=>funF rfl rfl Tryz.func69 rfl) (by kernel_rfl) h
theorem qm9(a b:Int){P:AV->Prop}(h:Gets (bif decide (a<b)then some (.int .i64 (- 1))else bif decide (a>b)then some (.int .i64 1)else some (.int .i64 0)) P):Gets (EVs (EV cfg) 106 [.int .i64 a,.int .i64 b]) P:=
  gE (λ_=>funS rfl rfl Tryz.func106 rfl) (by kernel_rfl) h
theorem qpV(a b:Bz){P:AV->Prop}(h:Gets (bif Op.bytesLess a b then some (.int .i64 (- 1))else bif ! (Op.bytesLess a b||a==b)then some (.int .i64 1)else some (.int .i64 0)) P):Gets (EVs (EV cfg) 107 [.str a,.str b]) P:=
  gE (λ_=>funS rfl rfl Tryz.func107 rfl) (by kernel_rfl) h
theorem qpW(A B:Rz){P:AV->Prop}(h:Gets (kOpt (EVs (EV cfg) 106 [AV.int .i64 (A.length:Int),.int .i64 (B.length:Int)]) λv=>kInt .i64 v λn=>qew A B n 0) P):Gets (EVs (EV cfg) 108 [.sl A,.sl B]) P:=
  gE (λ_=>funS rfl rfl Tryz.func108 rfl) (by kernel_rfl) h
abbrev zJ0(na nb:Int):Option (AV):=kOpt (EVs (EV cfg) 106 [AV.int .i64 na,.int .i64 nb]) λv=>kInt .i64 v λn=>some (.int .i64 n)
abbrev zJ1(la lb:Rz):Option (AV):=kOpt (EVs (EV cfg) 108 [.sl la,.sl lb]) λv=>kInt .i64 v λn=>some (.int .i64 n)
theorem qna(ka na:Int)(sa:Bz)(la:Rz)(kb nb:Int)(sb:Bz)(lb:Rz){P:AV->Prop}(h:Gets (kOpt (EVs (EV cfg) 106 [AV.int .i64 ka,.int .i64 kb]) λv=>kInt .i64 v λn=>bif n != 0 then some (.int .i64 n)else bif ka==1 then zJ0 na nb else bif ka==3 then zJ0 na nb else bif ka==4 then zJ0 na nb else bif ka==6 then zJ0 na nb else bif ka==2 then kOpt (EVs (EV cfg) 107 [.str sa,.str sb]) λv=>kInt .i64 v λn=>some (.int .i64 n)else bif ka==5 then kOpt (EVs (EV cfg) 106 [AV.int .i64 na,.int .i64 nb]) λv=>kInt .i64 v λn=>bif n != 0 then some (.int .i64 n)else zJ1 la lb else bif ka==7 then zJ1 la lb else bif ka==9 then zJ1 la lb else some (.int .i64 0)) P):Gets (EVs (EV cfg) 75 [.agg [.int .i64 ka,.int .i64 na,.str sa,.sl la],.agg [.int .i64 kb,.int .i64 nb,.str sb,.sl lb]]) P:=
  gE (λ_=>funS rfl rfl Tryz.func75 rfl) (by kernel_rfl) h
theorem qjj(nv3:Nat)(v4 c0_0 c0_1:Int)(c0_2:Bz)(c0_3:Rz)(c1_0 c1_1:Int)(c1_2:Bz)(c1_3 h2:Rz){P:AV->Prop}(h:Gets (bif decide (v4<(c0_3.length:Int))then rs4 c0_3 v4 λn n_1 s rows=>(kOpt (EVf (EV cfg) 69 [.agg [.int .i64 n,.int .i64 n_1,.str s,.sl rows]]) λv=>kTmV v λn n_2 s rows=>(bif qFR (0+nv3) (qFI h2)&&qI (nv3+1) 56 then qkS (nv3+1) (qFD .i64 (v4+1)) c0_0 c0_1 c0_2 c0_3 c1_0 c1_1 c1_2 c1_3 (qF2 (qFN nv3 h2) [[AV.int .i64 n,.int .i64 n_2,.str s,.sl rows]])else none))else bif qFR (0+nv3) (qFI h2)&&true then some (.agg [.int .i64 c0_0,.int .i64 c0_1,.str c0_2,.sl (qFN nv3 h2)])else none) P):Gets (qkS nv3 v4 c0_0 c0_1 c0_2 c0_3 c1_0 c1_1 c1_2 c1_3 h2) P:=
  gE (λ_=>qg (cfg:=cfg) (f:=69) (rd:=none) (bs:=0)) (by kernel_rfl) h
theorem qc2(A B:Rz)(v5 v6:Int){P:AV->Prop}(h:Gets (bif decide (v6<(A.length:Int))then bif v5==0 then rs4 A v6 λn n_1 s rows=>(rs4 B v6 λn_2 n_3 s_1 rows_1=>(kOpt (EVs (EV cfg) 75 [.agg [.int .i64 n,.int .i64 n_1,.str s,.sl rows],.agg [.int .i64 n_2,.int .i64 n_3,.str s_1,.sl rows_1]]) λv=>kInt .i64 v λn=>qew A B n (qFD .i64 (v6+1))))else some (.int .i64 v5)else some (.int .i64 v5)) P):Gets (qew A B v5 v6) P:=
  gE (λ_=>qg (cfg:=cfg) (f:=108) (rd:=none) (bs:=0)) (by kernel_rfl) h
end Go.Proofs.YtgleolmhpmljhaaGreat
end
noncomputable section
namespace Go.Av
end Go.Av
namespace Go.Proofs.YtgleolmhpmljhaaGreat
open Go.Av
theorem qlA(t:Tm):t.w<1099511627776->EVf (EV cfg) 69 [t.av]=some t.av:=by
 induction t using Tm.ind with
 |_ k n s l ih=>
  intro hw;rw[Tm.w_mk]at hw;have hlen:=yf l;have ih':∀x∈l,EVf (EV cfg) 69 [x.av]=some x.av:=λx hx=>ih x hx (by have:=xF hx;omega)
  have loop:∀d i:Nat,i+d=l.length->Gets (qkS i i k n s (qa l) 0 0 [] [] (qa (l.take i))) (·=(Tm.mk k n s l).av):=by
   intro d
   induction d with
   |zero=>
    intro i hi;refine qjj _ _ _ _ _ _ _ _ _ _ _ ?_;unfold rs4;obtain rfl:i=l.length:=by omega
    have hb:qFR (0+l.length) (qa l).length=true:=by rw[qGj,qb];omega
    have ht:qFN l.length (qa l)=qa l:=qFP (by rw[qb];omega);rw[qb,qGp (by omega),List.take_length,hb,ht,Tm.av_mk];exact⟨_,rfl,rfl⟩
   |succ d ihd=>
    intro i hi;have hil:i<l.length:=by omega
    refine qjj _ _ _ _ _ _ _ _ _ _ _ ?_;unfold rs4;have hx:l[i]? =some l[i]:=qFE hil;have h1:=ih' l[i] (qFK hx);have h2:=ihd (i+1) (by omega);have e1:l.take (i+1)=l.take i++[l[i]]:=by rw[qGk,hx];rfl
    have ht:(qa (l.take i)).length=i:=by rw[qb,qF9];omega
    have e2:qF2 (qFN i (qa (l.take i))) [l[i].cells]=qa (l.take (i+1)):=by
     rw[qFP (by omega),e1,qW,qF,qO];rfl
    have e3:qFR (0+i) (qa (l.take i)).length=true:=by rw[ht,qGj];omega
    rw[qb,qGo (show(i:Int)<(l.length:Int) by omega),qv,qD,qGo hil,qY hx,qN (n:=l.length) hil (by omega),e3,xg (by omega)];simp only[cond_true,qF7,qf,qF3,qi,qh,show qFR 4 4=true from rfl,qB,h1,qd,yj];rw[←Tm.cells_eq,e2];exact h2
  apply Gets.get;rw[Tm.av_mk];refine qrZ _ _ _ _ ?_;rw[←Tm.av_mk];exact(by simpa [qO]using loop l.length 0 (by omega))
theorem qly(a:Tm):a.w<1099511627776->∀b:Tm,EVs (EV cfg) 76 [a.av,b.av]=some (.bool (decide (a=b))):=by
 induction a using Tm.ind with
 |_ k n s l ih=>
  intro hw b;obtain⟨k',n',s',l'⟩:=b;rw[Tm.w_mk]at hw;have hlen:=yf l;have loop:l.length=l'.length->∀d i:Nat,i+d=l.length->Gets (qfe i k n s (qa l) k' n' s' (qa l')) (·= .bool (decide (l.drop i=l'.drop i))):=by
   intro hll d
   induction d with
   |zero=>
    intro i hi;refine qfZ _ _ _ _ _ _ _ _ _ ?_;unfold rs4;rw[qb,qGp (show ¬((i:Int)<(l.length:Int)) by omega),qFV (by omega),qFV (by omega)];exact⟨_,rfl,rfl⟩
   |succ d ihd=>
    intro i hi;have hil:i<l.length:=by omega
    have him:i<l'.length:=by omega
    refine qfZ _ _ _ _ _ _ _ _ _ ?_;unfold rs4;have hx:l[i]? =some l[i]:=qFE hil;have hy:l'[i]? =some l'[i]:=qFE him;have hd:l.drop i=l[i]::l.drop (i+1):=qFS hil;have hd':l'.drop i=l'[i]::l'.drop (i+1):=qFS him;have hm:=qFK hx;have h1:=ih l[i] hm (by have:=xF hm;omega) l'[i];have h2:=ihd (i+1) (by omega)
    rw[qb,qb,qGo (show(i:Int)<(l.length:Int) by omega),qv,qD,qD,qGo hil,qGo him,qY hx,qN hil (by omega)];simp only[cond_true,qF7,qf,qF3,qi,qh,show qFR 4 4=true from rfl];rw[qY hy];simp only[cond_true,qf,qF3,qi,qh,show qFR 4 4=true from rfl,qB,h1,qd,qp]
    rw[hd,hd']
    by_cases he:l[i]=l'[i]
    ·rw[qGo he];refine h2.mono ?_;rintro _ rfl;rw[he]
     congr 1
     exact decide_eq_decide.2 ⟨λh=>by rw[h],λh=>(List.cons.inj h).2⟩
    ·rw[qGp he];refine⟨_,rfl,?_⟩;rw[qGp (λh=>he (List.cons.inj h).1)]
  apply Gets.get;rw[Tm.av_mk,Tm.av_mk];refine qrX _ _ _ _ _ _ _ _ ?_;rw[bneD,bneD,beqS,bneD,qb,qb]
  by_cases h1:k=k'
  ·by_cases h2:n=n'
   ·by_cases h3:s=s'
    ·by_cases h4:l.length=l'.length
     ·subst h1 h2 h3;rw[qGo rfl,qGo rfl,qGo rfl,qGo (show(l.length:Int)=l'.length by omega)];have h:=loop h4 l.length 0 (by omega);rw[List.drop_zero,List.drop_zero]at h;refine h.mono ?_;rintro _ rfl
      congr 1
      exact decide_eq_decide.2 ⟨λh=>by rw[h],λh=>by cases h;rfl⟩
     ·rw[qGo h1,qGo h2,qGo h3,qGp (show ¬(l.length:Int)=l'.length by omega)];exact⟨_,rfl,by rw[qGp (λh=>by cases h;exact h4 rfl)]⟩
    ·rw[qGo h1,qGo h2,qGp h3];exact⟨_,rfl,by rw[qGp (λh=>by cases h;exact h3 rfl)]⟩
   ·rw[qGo h1,qGp h2];exact⟨_,rfl,by rw[qGp (λh=>by cases h;exact h2 rfl)]⟩
  ·rw[qGp h1];exact⟨_,rfl,by rw[qGp (λh=>by cases h;exact h1 rfl)]⟩
theorem qcy(a b:Int):EVs (EV cfg) 106 [.int .i64 a,.int .i64 b]=some (.int .i64 (numC a b)):=by
 apply Gets.get;refine qm9 _ _ ?_;unfold numC
 by_cases h:a<b
 ·rw[qGo h,qGq h];exact⟨_,rfl,rfl⟩
 ·rw[qGp h,qGr h,cond_false]
  by_cases h:b<a
  ·rw[qGo (show a>b from h),qGq h];exact⟨_,rfl,rfl⟩
  ·rw[qGp (show ¬a>b from h),qGr h];exact⟨_,rfl,rfl⟩
theorem qrU(a b:List UInt8):EVs (EV cfg) 107 [.str a,.str b]=some (.int .i64 (strC a b)):=by
 apply Gets.get;refine qpV _ _ ?_;unfold strC;rw[beqS]
 by_cases h:a=b
 ·subst h;rw[qdC,qGq rfl,qGo rfl];exact⟨_,rfl,rfl⟩
 ·rw[qGr h,qGp h];cases Op.bytesLess a b<;>exact⟨_,rfl,rfl⟩
theorem qrV(la lb:List Tm)(hlen:la.length<1099511627776)(ih:∀a∈la,∀b∈lb,EVs (EV cfg) 75 [a.av,b.av]=some (.int .i64 (cmpT a b))):
  EVs (EV cfg) 108 [.sl (qa la),.sl (qa lb)]=some (.int .i64 (cmpL la lb)):=by
 have stop:∀(c:Int) (i:Nat),c≠0->Gets (qew (qa la) (qa lb) c i) (·= .int .i64 c):=by
  intro c i hc;refine qc2 _ _ _ _ ?_;unfold rs4;rw[beqI,qGp hc];cases decide ((i:Int)<((qa la).length:Int))<;>exact⟨_,rfl,rfl⟩
 have loop:la.length=lb.length->∀(d i:Nat),i+d=la.length->Gets (qew (qa la) (qa lb) 0 i) (·= .int .i64 (cmpE (la.drop i) (lb.drop i))):=by
  intro hl d
  induction d with
  |zero=>
   intro i hi;refine qc2 _ _ _ _ ?_;unfold rs4;rw[qb,qGp (by omega),qFV (by omega),qFV (by omega),zk];exact⟨_,rfl,rfl⟩
  |succ d ihd=>
   intro i hi;have hil:i<la.length:=by omega
   have hil':i<lb.length:=by omega
   have hx:la[i]? =some la[i]:=qFE hil;have hy:lb[i]? =some lb[i]:=qFE hil';have h1:=ih _ (qFK hx) _ (qFK hy);refine qc2 _ _ _ _ ?_;unfold rs4;rw[qb,qb,qGo (show(i:Int)<(la.length:Int) by omega),qv,qD,qD,qGo hil,qGo hil',qY hx,qFS hil,qFS hil',zw,qN hil hlen]
   simp only[cond_true,qF7,qf,qF3,qi,qh,xE,beqI,decide_true,qY hy,qB,h1,qd,qe]
   by_cases h0:cmpT la[i] lb[i]=0
   ·rw[h0,qGr (by omega)];exact ihd (i+1) (by omega)
   ·rw[qGq h0];exact stop _ _ h0
 apply Gets.get;refine qpW _ _ ?_;rw[qcy];simp only[qd,qe,qb];unfold cmpL
 by_cases h:numC la.length lb.length=0
 ·have hl:=xB.1 h;rw[h,qGr (by omega)]
  simpa using loop (by omega) la.length 0 (by omega)
 ·rw[qGq h];exact stop _ 0 h
theorem qgh:∀(n:Nat) (a b:Tm),a.w<=n->n<1099511627776->EVs (EV cfg) 75 [a.av,b.av]=some (.int .i64 (cmpT a b)):=by
 intro n
 induction n with
 |zero=>intro a b h;have:=xW a;omega
 |succ n ih=>
  intro a b hw hn;obtain⟨k,m,s,l⟩:=a;obtain⟨k',m',s',l'⟩:=b;rw[Tm.w_mk]at hw;have hlen:=yf l;have hl:=qrV l l' (by omega) (λx hx y _=>ih x y (by have:=xF hx;omega) (by omega));apply Gets.get;rw[Tm.av_mk,Tm.av_mk];refine qna _ _ _ _ _ _ _ _ ?_;unfold zJ1 zJ0;rw[qi6,qcy,qcy,qrU,hl];simp only[qd,qe,beqI];have bne0:∀z:Int,(z != 0)= !decide (z=0):=λz=>by rw[bne,beqI]
  simp only[bne0]
  by_cases h:numC k k'=0
  ·rw[qGr (by omega),qGo h];simp only[qFW,cond_false]
   by_cases h1:k=1
   ·rw[qGq (Or.inl h1),qGo h1];exact⟨_,rfl,rfl⟩
   rw[qGp h1,cond_false]
   by_cases h3:k=3
   ·rw[qGq (Or.inr (Or.inl h3)),qGo h3];exact⟨_,rfl,rfl⟩
   rw[qGp h3,cond_false]
   by_cases h4:k=4
   ·rw[qGq (Or.inr (Or.inr (Or.inl h4))),qGo h4];exact⟨_,rfl,rfl⟩
   rw[qGp h4,cond_false]
   by_cases h6:k=6
   ·rw[qGq (Or.inr (Or.inr (Or.inr h6))),qGo h6];exact⟨_,rfl,rfl⟩
   rw[qGp h6,cond_false,qGr (by omega)]
   by_cases h2:k=2
   ·rw[qGq h2,qGo h2];exact⟨_,rfl,rfl⟩
   rw[qGp h2,cond_false,qGr h2]
   by_cases h5:k=5
   ·rw[qGq h5,qGo h5,cond_true]
    by_cases hm:numC m m'=0
    ·rw[qGr (by omega),qGo hm];exact⟨_,rfl,rfl⟩
    ·rw[qGq hm,qGp hm];exact⟨_,rfl,rfl⟩
   rw[qGp h5,cond_false,qGr h5]
   by_cases h7:k=7
   ·rw[qGq (Or.inl h7),qGo h7];exact⟨_,rfl,rfl⟩
   rw[qGp h7,cond_false]
   by_cases h9:k=9
   ·rw[qGq (Or.inr h9),qGo h9];exact⟨_,rfl,rfl⟩
   rw[qGp h9,qGr (by omega)];exact⟨_,rfl,rfl⟩
  ·rw[qGq h,qGp h];exact⟨_,rfl,rfl⟩
end Go.Proofs.YtgleolmhpmljhaaGreat
end
