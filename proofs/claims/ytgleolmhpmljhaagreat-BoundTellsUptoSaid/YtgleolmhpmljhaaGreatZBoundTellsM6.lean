/-
  Parts of the proof of BoundTellsUptoSaid, put together: the abstract evaluation and its contracts. Own work.
  What is proved: each lemma as it stands; no condition.
-/
import Derived.Test.YtgleolmhpmljhaaGreatZBoundTellsM5
open Go.IntKind renaming wrap → qFD
open List renaming getElem?_eq_getElem → qFE, getElem?_eq_some_iff → qFF, get?Internal → qFG, length → qFI, mem_of_getElem? → qFK, take → qFN, take_of_length_le → qFP, drop_eq_getElem_cons → qFS, length_append → qFU, drop_eq_nil_of_le → qFV, getElem?_append_left → qFX, eq_nil_of_length_eq_zero → qFZ, getElem?_append_right → qF0, getElem?_set → qF1, append → qF2, mem_cons → qF6, mem_append → qF8, length_take → qF9, drop → qGb, replicate → qGd, length_cons → qGf, append_nil → qGh, take_add_one → qGk, append_assoc → qGl, range → qGn
open Nat renaming le_refl → qFH, eq_of_beq_eq_true → qFO, ble → qFR, beq → qFY, beq_refl → qF3, mul_le_mul_right → qGe, zero_add → qGi, ble_eq → qGj
open Bool renaming and_eq_true → qFJ, not_true → qFW, not_false → qF4, false_eq_true → qF5, and_self → qF7, true_and → qGm
open Option renaming bind_eq_some_iff → qFL, map_eq_some_iff → qFM, bind_some → qGa, map_some → qGc
open Int renaming toNat → qFQ, toNat_natCast → qFT
open Array renaming toList → qGg
set_option maxRecDepth 1000000
set_option maxHeartbeats 0
noncomputable section
namespace Go.Av
theorem qel{α:Type}{R:α->α->Prop}(hi:∀a,¬R a a)(ha:∀a b,R a b->¬R b a):∀l m:List α,l.Pairwise R->m.Pairwise R->(∀x,x∈l↔x∈m)->l=m
 |[],[],_,_,_=>rfl
 |[],y::m,_,_,h=>by have:=(h y).2 (by simp);cases this
 |x::l,[],_,_,h=>by have:=(h x).1 (by simp);cases this
 |x::l,y::m,hl,hm,h=>by
  rw[List.pairwise_cons]at hl hm;have e:x=y:=by
   have h1:=(h x).1 (by simp);have h2:=(h y).2 (by simp);rcases qF6.1 h1 with e|h1
   ·exact e
   rcases qF6.1 h2 with e|h2
   ·exact e.symm
   exact absurd (hl.1 y h2) (ha _ _ (hm.1 x h1))
  subst e;rw[qel hi ha l m hl.2 hm.2 λz=>?_];constructor
  ·intro hz;rcases qF6.1 ((h z).1 (by simp[hz]))with rfl|h1
   ·exact absurd (hl.1 z hz) (hi z)
   ·exact h1
  ·intro hz;rcases qF6.1 ((h z).2 (by simp[hz]))with rfl|h1
   ·exact absurd (hm.1 z hz) (hi z)
   ·exact h1
def LtK(l:List Tm):Prop:=l.Pairwise λa b=>cmpT a b<0
theorem qoi{a b:Tm}(ha:a.chk=0)(hb:b.chk=0)(h:cmpT a b=0):a=b:=qmz a (qag.1 ha).1 b (qag.1 hb).1 h
theorem qht:∀{l:List Tm},(∀x∈l,x.chk=0)->vw l=true
 |[],_=>by rw[vw]
 |x::l,h=>by rw[vw,(qag.1 (h x (by simp))).1,qht λy hy=>h y (by simp[hy])];rfl
theorem qul{l m:List Tm}(hl:LtK l)(hm:LtK m)(h:∀x,x∈l↔x∈m):l=m:=
 qel (λa h=>by rw[xS]at h;omega) (λa b h g=>by have:=qdy a b;omega) l m hl hm h
theorem qxY{l:List Tm}(h:Srt 0 l.length l):l.Pairwise λa b=>cmpT a b<=0:=by
 rw[List.pairwise_iff_getElem];intro i j hi hj hij;have:=h i j (Nat.zero_le _) (by omega) hj
 rwa [vj (qFE hi),vj (qFE hj)]at this
theorem qw0:∀{l:List Tm} {p:Tm},p.chk=0->(∀x∈l,x.chk=0)->(p::l).Pairwise (λa b=>cmpT a b<=0)->LtK (p::ddT p l)
 |[],p,_,_,_=>by rw[ddT];exact List.pairwise_singleton _ _
 |y::l,p,hp,hc,h=>by
  rw[List.pairwise_cons]at h;obtain⟨h1,h2⟩:=h;have hy:=hc y (by simp);have hl:∀x∈l,x.chk=0:=λx hx=>hc x (by simp[hx])
  have ih:=qw0 (p:=y) hy hl h2;rw[ddT];split
  ·rename_i e;subst e;exact ih
  ·rename_i e;have hlt:cmpT p y<0:=by
    have h3:=h1 y (by simp);rcases Int.lt_or_eq_of_le h3 with h|h
    ·exact h
    ·exact absurd (qoi hp hy h).symm e
   refine List.pairwise_cons.2 ⟨λz hz=>?_,ih⟩;rcases qF6.1 hz with rfl|hz
   ·exact hlt
   ·exact qmy hlt (List.rel_of_pairwise_cons h2 (qi5 hz))
theorem qvb{l:List Tm}(hc:∀x∈l,x.chk=0)(h:Srt 0 l.length l):LtK (xh l):=by
 have hp:=qxY h;cases l with
 |nil=>exact List.Pairwise.nil
 |cons x l=>exact qw0 (hc x (by simp)) (λy hy=>hc y (by simp[hy])) hp
def insK(out:List Tm)(x:Tm):List Tm:=
 if out[(out.takeWhile λy=>decide (cmpT y x<0)).length]? =some x then out else out.take (out.takeWhile λy=>decide (cmpT y x<0)).length++x::out.drop (out.takeWhile λy=>decide (cmpT y x<0)).length
theorem qfm{α:Type}(f:α->Bool)(l:List α):l.take (l.takeWhile f).length=l.takeWhile f∧l.drop (l.takeWhile f).length=l.dropWhile f:=by
 have h:=List.takeWhile_append_dropWhile (p:=f) (l:=l);constructor
 ·have:=List.take_left (l₁:=l.takeWhile f) (l₂:=l.dropWhile f);rwa [h]at this
 ·have:=List.drop_left (l₁:=l.takeWhile f) (l₂:=l.dropWhile f);rwa [h]at this
theorem qnu{α:Type}(f:α->Bool):∀l:List α,∀y m,l.dropWhile f=y::m->f y=false
 |[],y,m,h=>by cases h
 |x::l,y,m,h=>by
  rw[List.dropWhile_cons]at h;split at h
  ·exact qnu f l y m h
  ·rename_i e;cases h;simpa using e
theorem qkH{out:List Tm}{x z:Tm}:z∈insK out x↔z=x∨z∈out:=by
 unfold insK;split
 ·rename_i h;have:=qFK h;constructor
  ·exact .inr
  ·rintro(rfl|h)
   ·exact this
   ·exact h
 ·obtain⟨h1,h2⟩:=qfm (λy=>decide (cmpT y x<0)) out;rw[h1,h2];have h:=List.takeWhile_append_dropWhile (p:=λy=>decide (cmpT y x<0)) (l:=out);have e:z∈out↔z∈out.takeWhile (λy=>decide (cmpT y x<0))∨z∈out.dropWhile (λy=>decide (cmpT y x<0)):=by rw[←qF8,h]
  rw[qF8,qF6,e];constructor
  ·rintro(h|h|h)
   ·exact .inr (.inl h)
   ·exact .inl h
   ·exact .inr (.inr h)
  ·rintro(h|h|h)
   ·exact .inr (.inl h)
   ·exact .inl h
   ·exact .inr (.inr h)
theorem qAU{out:List Tm}{x:Tm}(ho:LtK out)(hc:∀y∈out,y.chk=0)(hx:x.chk=0):LtK (insK out x):=by
 unfold insK;split
 ·exact ho
 ·rename_i hne;obtain⟨h1,h2⟩:=qfm (λy=>decide (cmpT y x<0)) out;have hs:=List.takeWhile_append_dropWhile (p:=λy=>decide (cmpT y x<0)) (l:=out);have hg:out[(out.takeWhile λy=>decide (cmpT y x<0)).length]? =(out.dropWhile λy=>decide (cmpT y x<0))[0]? :=by
   rw[←h2,List.getElem?_drop,Nat.add_zero]
  rw[hg]at hne;rw[h1,h2];have ho2:=ho;rw[LtK,←hs,List.pairwise_append]at ho2;obtain⟨p1,p2,p3⟩:=ho2;have lo:∀y∈out.takeWhile (λy=>decide (cmpT y x<0)),cmpT y x<0:=λy hy=>by simpa using List.all_eq_true.1 (List.all_takeWhile (p:=λy=>decide (cmpT y x<0)) (l:=out)) y hy
  have hi:∀y∈out.dropWhile (λy=>decide (cmpT y x<0)),cmpT x y<0:=by
   cases hd:out.dropWhile (λy=>decide (cmpT y x<0))with
   |nil=>intro y hy;cases hy
   |cons z m=>
    rw[hd]at hne p2;have hz:z∈out:=by rw[←hs,hd];simp
    have hzx:¬cmpT z x<0:=by simpa using qnu _ _ _ _ hd
    have h0:cmpT x z<0:=by
     rcases Int.lt_or_eq_of_le (yT hzx)with h|h
     ·exact h
     ·exact absurd (congrArg some (qoi hx (hc z hz) h).symm) hne
    intro y hy;rcases qF6.1 hy with rfl|hy
    ·exact h0
    ·exact qmy h0 (by have:=List.rel_of_pairwise_cons p2 hy;omega)
  refine List.pairwise_append.2 ⟨p1,List.pairwise_cons.2 ⟨hi,p2⟩,λa ha b hb=>?_⟩;rcases qF6.1 hb with rfl|hb
  ·exact lo a ha
  ·exact p3 a ha b hb
def xN(f:Tm->Bool)(l:List Tm):List Tm:=l.foldl (λout x=>if f x then insK out x else out) []
theorem qfD(f:Tm->Bool):∀(l out:List Tm),LtK out->(∀y∈out,y.chk=0)->(∀y∈l,y.chk=0) ->
  LtK (l.foldl (λout x=>if f x then insK out x else out) out)∧∀z,z∈l.foldl (λout x=>if f x then insK out x else out) out↔z∈out∨(z∈l∧f z=true)
 |[],out,h,_,_=>⟨h,λz=>by simp⟩
 |x::l,out,h,hc,hl=>by
  have hx:=hl x (by simp);rw[List.foldl_cons]
  by_cases hf:f x=true
  ·rw[qGq hf];obtain⟨i1,i2⟩:=qfD f l (insK out x) (qAU h hc hx) (λy hy=>by
    rcases qkH.1 hy with rfl|hy
    ·exact hx
    ·exact hc y hy) (λy hy=>hl y (by simp[hy]))
   refine⟨i1,λz=>?_⟩;rw[i2,qkH,qF6];constructor
   ·rintro((rfl|h)|⟨h,g⟩)
    ·exact .inr ⟨.inl rfl,hf⟩
    ·exact .inl h
    ·exact .inr ⟨.inr h,g⟩
   ·rintro(h|⟨rfl|h,g⟩)
    ·exact .inl (.inr h)
    ·exact .inl (.inl rfl)
    ·exact .inr ⟨h,g⟩
  ·rw[qGr hf];obtain⟨i1,i2⟩:=qfD f l out h hc (λy hy=>hl y (by simp[hy]));refine⟨i1,λz=>?_⟩;rw[i2,qF6];constructor
   ·rintro(h|⟨h,g⟩)
    ·exact .inl h
    ·exact .inr ⟨.inr h,g⟩
   ·rintro(h|⟨rfl|h,g⟩)
    ·exact .inl h
    ·exact absurd g hf
    ·exact .inr ⟨h,g⟩
theorem qwG{f:Tm->Bool}{l K:List Tm}(hl:∀y∈l,y.chk=0)(hK:LtK K)(hm:∀z,z∈K↔z∈l∧f z=true):K=xN f l:=by
 obtain⟨h1,h2⟩:=qfD f l [] List.Pairwise.nil (λy hy=>by cases hy) hl;refine qul hK h1 λz=>?_
 rw[hm];show _↔z∈l.foldl _ _;rw[h2];simp
def LtG(l:List Rg):Prop:=l.Pairwise λa b=>qx a b<0
theorem qum{l m:List Rg}(hl:LtG l)(hm:LtG m)(h:∀x,x∈l↔x∈m):l=m:=
 qel (λa h=>by rw[qkh]at h;omega) (λa b h g=>by have:=xq a b;omega) l m hl hm h
theorem qn6{p q:Int}(h:lexI p q=0):p=0∧q=0:=by
 by_cases e:p=0
 ·subst e;rw[zv]at h;exact⟨rfl,h⟩
 ·unfold lexI at h;rw[qGq e]at h;exact absurd h e
theorem qh3{a b:Rg}(ha:allK a.fst=true)(hb:allK b.fst=true)(h:qx a b=0):a=b:=by
 unfold qx at h;obtain⟨h1,h2⟩:=qn6 h;obtain⟨h2,h3⟩:=qn6 h2;have e1:=xB.1 h1;rw[qa1]at h3;have e2:a.fst=b.fst:=qmA a.fst (λx _ hx y hy hxy=>qmz x hx y hy hxy) b.fst (qht (qkO.1 ha)) (qht (qkO.1 hb)) h3;obtain⟨x,l⟩:=a;obtain⟨y,m⟩:=b;exact(Rg.mk.injEq _ _ _ _).symm▸⟨e1,e2⟩
theorem qdH{r s:Rg}:vD r s=true↔r.ar=s.ar∧s.fst.length<=r.fst.length∧r.fst.take s.fst.length=s.fst:=by
 unfold vD;simp only[qFJ,decide_eq_true_eq]
theorem qrp{r s t:Rg}(h:vD r s=true)(g:vD s t=true):vD r t=true:=by
 rw[qdH]at *;obtain⟨h1,h2,h3⟩:=h;obtain⟨g1,g2,g3⟩:=g;refine⟨by omega,by omega,?_⟩;rw[←h3,List.take_take,Nat.min_eq_left g2]at g3;exact g3
theorem qFk{r s:Rg}(h1:r.ar=s.ar)(h2:r.fst=s.fst):r=s:=by
 obtain⟨x,l⟩:=r;obtain⟨y,m⟩:=s;exact(Rg.mk.injEq _ _ _ _).symm▸⟨h1,h2⟩
theorem qk9{r s:Rg}(h:vD r s=true)(hl:r.fst.length<=s.fst.length):r=s:=by
 rw[qdH]at h;obtain⟨h1,h2,h3⟩:=h;refine qFk h1 ?_;rw[←h3,qFP hl]
theorem qk8{r s:Rg}(h:vD r s=true)(g:vD s r=true):r=s:=qk9 h (qdH.1 g).2.1
theorem qxn{r s:Rg}(h:qx r s<=0)(e:r.ar=s.ar):r.fst.length<=s.fst.length:=by
 unfold qx at h;rw[e]at h;unfold lexI numC at h
 repeat' split at h
 all_goals omega
theorem qdG:∀(l out:List Rg),(∀r∈out,allK r.fst=true)->(∀r∈l,allK r.fst=true)->LtG out->out.Pairwise (λa b=>vD b a=false)->xj (out++l)->LtG (xc out l)∧(xc out l).Pairwise (λa b=>vD b a=false)
 |[],out,_,_,h,h2,_=>by rw[xc];exact⟨h,h2⟩
 |r::l,out,ho,hl,h,h2,hs=>by
  rw[xc];have hs2:xj (out++l):=hs.sublist (List.Sublist.append_left (List.sublist_cons_self r l) out);split
  ·exact qdG l out ho (λs hs=>hl s (by simp[hs])) h h2 hs2
  ·rename_i hn;have hn:∀o∈out,vD r o=false:=λo ho=>by
    cases e:vD r o with
    |false=>rfl
    |true=>exact absurd (List.any_eq_true.2 ⟨o,ho,e⟩) hn
   have hr:∀o∈out,qx o r<0:=λo hoo=>by
    have:=(List.pairwise_append.1 hs).2.2 o hoo r (by simp);rcases Int.lt_or_eq_of_le this with h|h
    ·exact h
    ·have e:=qh3 (ho o hoo) (hl r (by simp)) h;have:=hn o hoo;rw[e,qcF]at this;cases this
   refine qdG l (out++[r]) (λs hs=>?_) (λs hs=>hl s (by simp[hs])) ?_ ?_ (by rw[qGl];exact hs)
   ·rcases qF8.1 hs with h|h
    ·exact ho s h
    ·rw[List.mem_singleton]at h;subst h;exact hl s (by simp)
   ·exact List.pairwise_append.2 ⟨h,List.pairwise_singleton _ _,λa ha b hb=>by rw[List.mem_singleton]at hb;subst hb;exact hr a ha⟩
   ·exact List.pairwise_append.2 ⟨h2,List.pairwise_singleton _ _,λa ha b hb=>by rw[List.mem_singleton]at hb;subst hb;exact hn a ha⟩
theorem qAG{α:Type}{R:α->α->Prop}{l:List α}(h:l.Pairwise R):∀x y:α,x∈l->y∈l->x=y∨R x y∨R y x:=by
 induction h with
 |nil=>intro x y hx;cases hx
 |cons h1 h2 ih=>
  intro x y hx hy;clear h2;rcases qF6.1 hx with e|hx'
  ·rcases qF6.1 hy with e2|hy'
   ·exact .inl (e.trans e2.symm)
   ·exact .inr (.inl (e▸h1 y hy'))
  ·rcases qF6.1 hy with e2|hy'
   ·exact .inr (.inr (e2▸h1 x hx'))
   ·exact ih x y hx' hy'
theorem qtw{l:List Rg}(hl:∀r∈l,allK r.fst=true){r:Rg}:r∈xc [] (qZ l)↔r∈l∧∀s∈l,vD r s=true->s=r:=by
 have hl':∀r∈qZ l,allK r.fst=true:=λr hr=>hl r (yb.1 hr)
 obtain⟨w1,w2⟩:=qdG (qZ l) [] (λr hr=>by cases hr) hl' List.Pairwise.nil List.Pairwise.nil (by rw[List.nil_append];exact yU l);have sub:∀s,s∈xc [] (qZ l)->s∈l:=λs hs=>yb.1 ((qcD hs).elim (λh=>by cases h) id)
 constructor
 ·intro hr;refine⟨sub r hr,λs hs hw=>?_⟩;obtain⟨t,ht,hst⟩:=qcE (out:=[]) (yb.2 hs);have hrt:=qrp hw hst;have e:r=t:=by
   rcases qAG (w1.and w2) r t hr ht with e|⟨h1,_⟩|⟨_,h2⟩
   ·exact e
   ·exact qk9 hrt (qxn (by omega) (qdH.1 hrt).1)
   ·rw[hrt]at h2;cases h2
  subst e;exact qk8 hst hw
 ·rintro⟨hr,h⟩;obtain⟨t,ht,hrt⟩:=qcE (out:=[]) (yb.2 hr);have:=h t (sub t ht) hrt;subst this;exact ht
def insG(out:List Rg)(x:Rg):List Rg:=out.take (out.takeWhile λy=>decide (qx y x<0)).length++x::out.drop (out.takeWhile λy=>decide (qx y x<0)).length
theorem qqu{out:List Rg}{x z:Rg}:z∈insG out x↔z=x∨z∈out:=by
 unfold insG;obtain⟨h1,h2⟩:=qfm (λy=>decide (qx y x<0)) out;rw[h1,h2];have h:=List.takeWhile_append_dropWhile (p:=λy=>decide (qx y x<0)) (l:=out);have e:z∈out↔z∈out.takeWhile (λy=>decide (qx y x<0))∨z∈out.dropWhile (λy=>decide (qx y x<0)):=by rw[←qF8,h]
 rw[qF8,qF6,e];constructor
 ·rintro(h|h|h)
  ·exact .inr (.inl h)
  ·exact .inl h
  ·exact .inr (.inr h)
 ·rintro(h|h|h)
  ·exact .inr (.inl h)
  ·exact .inl h
  ·exact .inr (.inr h)
theorem qAV{out:List Rg}{x:Rg}(ho:LtG out)(hc:∀y∈out,allK y.fst=true)(hx:allK x.fst=true)(hn:x ∉ out):LtG (insG out x):=by
 unfold insG;obtain⟨h1,h2⟩:=qfm (λy=>decide (qx y x<0)) out;have hs:=List.takeWhile_append_dropWhile (p:=λy=>decide (qx y x<0)) (l:=out);rw[h1,h2];have ho2:=ho;rw[LtG,←hs,List.pairwise_append]at ho2;obtain⟨p1,p2,p3⟩:=ho2;have lo:∀y∈out.takeWhile (λy=>decide (qx y x<0)),qx y x<0:=λy hy=>by simpa using List.all_eq_true.1 (List.all_takeWhile (p:=λy=>decide (qx y x<0)) (l:=out)) y hy
 have hi:∀y∈out.dropWhile (λy=>decide (qx y x<0)),qx x y<0:=by
  cases hd:out.dropWhile (λy=>decide (qx y x<0))with
  |nil=>intro y hy;cases hy
  |cons z m=>
   rw[hd]at p2;have hz:z∈out:=by rw[←hs,hd];simp
   have hzx:¬qx z x<0:=by simpa using qnu _ _ _ _ hd
   have h0:qx x z<0:=by
    have hng:=xq x z;rcases Int.lt_or_eq_of_le (show qx x z<=0 by omega)with h|h
    ·exact h
    ·exact absurd (qh3 hx (hc z hz) h▸hz) hn
   intro y hy;rcases qF6.1 hy with rfl|hy
   ·exact h0
   ·exact qbv h0 (by have:=List.rel_of_pairwise_cons p2 hy;omega)
 refine List.pairwise_append.2 ⟨p1,List.pairwise_cons.2 ⟨hi,p2⟩,λa ha b hb=>?_⟩;rcases qF6.1 hb with rfl|hb
 ·exact lo a ha
 ·exact p3 a ha b hb
def zo(l:List Rg)(r:Rg)(i k:Nat):Bool:=(qGn k).all λj=>match l[j]? with
 |some s=> !(decide (j≠i)&&(vD r s&&(!(vD r s&&vD s r)||decide (j<i))))
 |none=>true
def q7(l:List Rg):Nat->List Rg
 |0=>[]
 |i+1=>match l[i]? with
  |some r=>if zo l r i l.length then insG (q7 l i) r else q7 l i
  |none=>q7 l i
theorem qdX{l:List Rg}{r:Rg}{i:Nat}:zo l r i l.length=true↔∀j s,l[j]? =some s->j≠i->vD r s=true->s=r∧i<j:=by
 unfold zo;rw[List.all_eq_true];constructor
 ·intro h j s hs hj hw;have:=h j (List.mem_range.2 (qFF.1 hs).1);rw[hs]at this;simp only[hw,qGo hj,qGm,Bool.not_or,Bool.not_not,qFJ,Bool.not_eq_true',decide_eq_false_iff_not]at this;exact⟨(qk8 hw this.1).symm,by omega⟩
 ·intro h j hj;cases hs:l[j]? with
  |none=>rfl
  |some s=>
   show(!(decide (j≠i)&&(vD r s&&(!(vD r s&&vD s r)||decide (j<i)))))=true
   by_cases hji:j=i
   ·rw[qGp (by simpa using hji)];rfl
   cases hw:vD r s with
   |false=>simp
   |true=>
    obtain⟨e,hlt⟩:=h j s hs hji hw;subst e;rw[qcF,qGp (show ¬j<i by omega)];simp
theorem qlt{l:List Rg}(hl:∀r∈l,allK r.fst=true):∀i,i<=l.length->LtG (q7 l i)∧∀z,z∈q7 l i↔∃j,j<i∧l[j]? =some z∧zo l z j l.length=true
 |0,_=>⟨List.Pairwise.nil,λz=>by rw[q7];exact⟨λh=>(by cases h),fun⟨j,h,_⟩=>by omega⟩⟩
 |i+1,hi=>by
  obtain⟨i1,i2⟩:=qlt hl i (by omega);have hg:l[i]? =some l[i]:=qFE (by omega);have hm:=qFK hg;rw[q7,hg];generalize l[i]=r at *;have mem:∀z,z∈q7 l i->z∈l:=λz hz=>by obtain⟨j,_,h,_⟩:=(i2 z).1 hz;exact qFK h
  show LtG (if zo l r i l.length=true then _ else _)∧_
  by_cases hk:zo l r i l.length=true
  ·have hn:r ∉ q7 l i:=λh=>by
    obtain⟨j,hj,h1,h2⟩:=(i2 r).1 h;have:=(qdX.1 hk j r h1 (by omega) (qcF r)).2;omega
   simp only[qGq hk];refine⟨qAV i1 (λy hy=>hl y (mem y hy)) (hl r hm) hn,λz=>?_⟩;rw[qqu,i2];constructor
   ·rintro(rfl|⟨j,h1,h2⟩)
    ·exact⟨i,by omega,hg,hk⟩
    ·exact⟨j,by omega,h2⟩
   ·rintro⟨j,h1,h2,h3⟩
    by_cases e:j=i
    ·subst e;rw[hg]at h2;cases h2;exact .inl rfl
    ·exact .inr ⟨j,by omega,h2,h3⟩
  ·simp only[qGr hk];refine⟨i1,λz=>?_⟩;rw[i2];constructor
   ·rintro⟨j,h1,h2⟩;exact⟨j,by omega,h2⟩
   ·rintro⟨j,h1,h2,h3⟩
    by_cases e:j=i
    ·subst e;rw[hg]at h2;cases h2;exact absurd h3 hk
    ·exact⟨j,by omega,h2,h3⟩
open Classical in
theorem qyU {α:Type} {l:List α} {x:α} (h:x∈l):∃i:Nat,l[i]? =some x∧∀j:Nat,l[j]? =some x->i<=j:=by
 induction l with
 |nil=>cases h
 |cons y l ih=>
  by_cases e:y=x
  ·subst e;exact⟨0,rfl,λj _=>Nat.zero_le _⟩
  ·rcases qF6.1 h with rfl|h
   ·exact absurd rfl e
   ·obtain⟨i,h1,h2⟩:=ih h
    refine⟨i+1,h1,λj hj=>?_⟩
    cases j with
    |zero=>cases hj;exact absurd rfl e
    |succ j=>have:=h2 j hj;omega
open Classical in
theorem qrJ {l:List Rg} (hl:∀r∈l,allK r.fst=true):xc [] (qZ l)=q7 l l.length:=by
 obtain⟨d1,d2⟩:=qlt hl l.length (qFH _)
 have hl':∀r∈qZ l,allK r.fst=true:=λr hr=>hl r (yb.1 hr)
 obtain⟨w1,_⟩:=qdG (qZ l) [] (λr hr=>by cases hr) hl' List.Pairwise.nil List.Pairwise.nil (by rw[List.nil_append];exact yU l)
 refine qum w1 d1 λz=>?_
 rw[qtw hl,d2]
 constructor
 ·rintro⟨hz,h⟩
  obtain⟨i,h1,h2⟩:=qyU hz
  refine⟨i,(qFF.1 h1).1,h1,qdX.2 λj s hs hj hw=>?_⟩
  have e:=h s (qFK hs) hw
  subst e
  exact⟨rfl,by have:=h2 j hs;omega⟩
 ·rintro⟨j,h1,h2,h3⟩
  refine⟨qFK h2,λs hs hw=>?_⟩
  obtain⟨k,hk⟩:=List.getElem?_of_mem hs
  by_cases e:k=j
  ·subst e;rw[hk]at h2;cases h2;rfl
  ·exact(qdX.1 h3 k s hk e hw).1
mutual
/-- does what matches all stand in a pattern? -/
def zQ:Tm->Bool
 | .mk k _ s l=>(decide (k=2)&&decide (s=[95]))||(if k=7∨k=9 then qmJ l else false)
def qmJ:List Tm->Bool
 |[]=>false
 |t::l=>zQ t||qmJ l
end
theorem qmI:∀l:List Tm,qmJ l=l.any zQ
 |[]=>rfl
 |t::l=>by rw[qmJ,qmI l];rfl
theorem qon(t:Tm):zQ t=((decide (t.kind=2)&&decide (t.str=[95]))||(if t.kind=7∨t.kind=9 then t.subs.any zQ else false)):=by
 obtain⟨k,m,s,l⟩:=t;rw[zQ,qmI];rfl
theorem qAW(t:Tm):gndT t=true↔(∀m:Nat,m<100->vU (m:Nat) t=false)∧zQ t=false:=by
 induction t using Tm.ind with
 |_ k n s l ih=>
  rw[qi1,qon];simp only[zh];show(if k=7∨k=9 then l.all gndT else !(decide (k=2)&&((varG s).isSome||decide (s=[95]))))=true↔(∀m:Nat,m<100->(if k=7∨k=9 then l.any (vU (m:Nat))else decide (k=2)&&decide (varG s=some (m:Int)))=false)∧((decide (k=2)&&decide (s=[95]))||(if k=7∨k=9 then l.any zQ else false))=false
  by_cases h:k=7∨k=9
  ·simp only[qGq h];rw[qGp (show ¬k=2 by omega),Bool.false_and,Bool.false_or,List.all_eq_true];constructor
   ·intro ha;refine⟨λm hm=>?_,?_⟩
    ·rw[List.any_eq_false];intro x hx;rw[((ih x hx).1 (ha x hx)).1 m hm];decide
    ·rw[List.any_eq_false];intro x hx;rw[((ih x hx).1 (ha x hx)).2];decide
   ·rintro⟨h1,h2⟩ x hx;rw[List.any_eq_false]at h2;refine(ih x hx).2 ⟨λm hm=>?_,?_⟩
    ·have:=List.any_eq_false.1 (h1 m hm) x hx
     simpa using this
    ·simpa using h2 x hx
  ·simp only[qGr h];rw[Bool.or_false]
   by_cases h2:k=2
   ·rw[qGo h2];simp only[qGm,Bool.not_eq_true',Bool.or_eq_false_iff,decide_eq_false_iff_not];constructor
    ·rintro⟨h3,h4⟩;refine⟨λm _ e=>?_,h4⟩;rw[e]at h3;cases h3
    ·rintro⟨h3,h4⟩;refine⟨?_,h4⟩;cases hv:varG s with
     |none=>rfl
     |some x=>
      have:=qiJ hv;exact absurd (show varG s=some ((x.toNat:Nat):Int) by rw[hv];congr 1;omega) (h3 x.toNat (by omega))
   ·rw[qGp h2];simp
theorem qpB{q:Nat->Bool}:setL q=[]↔∀m:Nat,m<100->q m=false:=by
 unfold setL;rw[List.map_eq_nil_iff,List.filter_eq_nil_iff];constructor
 ·intro h m hm
  simpa using h m (List.mem_range.2 hm)
 ·intro h m hm;rw[h m (List.mem_range.1 hm)];decide
end Go.Av
namespace Go.Proofs.YtgleolmhpmljhaaGreat
open Go.Av
theorem qrS(p:Tm):EVf (EV cfg) 135 [p.av]=some (.sl (qa (if p.kind=7∨p.kind=9 then p.subs else[]))):=by
 apply Gets.get;rw[Tm.av,Tm.cells_eq];refine qhr _ _ _ _ ?_;rw[beqI,beqI]
 by_cases h7:p.kind=7
 ·rw[qGo h7,qGq (.inl h7)];exact⟨_,rfl,rfl⟩
 ·by_cases h9:p.kind=9
  ·rw[qGp h7,qGo h9,qGq (.inr h9)];exact⟨_,rfl,rfl⟩
  ·rw[qGp h7,qGp h9,qGr (λh=>h.elim h7 h9),qO];exact⟨_,rfl,rfl⟩
theorem qrT:∀(n:Nat) (p:Tm),p.w<=n->n<1099511627776->EVs (EV cfg) 104 [p.av]=some (.bool (zQ p)):=by
 intro n
 induction n with
 |zero=>intro p h;have:=xW p;omega
 |succ n ih=>
  intro p hw hn;have hwe:=p.w_eq;have loop:∀(l:List Tm),wL l<=n->∀(d i:Nat),i+d=l.length->Gets (qby (qa l) i) (·= .bool ((l.drop i).any zQ)):=by
   intro l hwl d;have hll:=xK l
   induction d with
   |zero=>
    intro i hi;refine qf1 _ _ ?_;unfold rs4;rw[qb,qGp (by omega),qFV (by omega)];exact⟨_,rfl,rfl⟩
   |succ d ihd=>
    intro i hi;have hil:i<l.length:=by omega
    have hx:l[i]? =some l[i]:=qFE hil;have hd:l.drop i=l[i]::l.drop (i+1):=qFS hil;have hm:=qFK hx;refine qf1 _ _ ?_;unfold rs4;have hi2:=ih l[i] (by have:=xF hm;omega) (by omega);have h2:=ihd (i+1) (by omega);rw[qb,qGo (show(i:Int)<(l.length:Int) by omega),qv,qD,qGo hil,qY hx,qN hil (by omega)]
    simp only[cond_true,qF7,qf,qF3,qi,qh,show qFR 4 4=true from rfl,qB,hi2,qd,qp];rw[hd,List.any_cons];cases zQ l[i]with
    |true=>exact⟨_,rfl,rfl⟩
    |false=>exact h2
  have hp:=qrS p;have heq:=qon p;apply Gets.get;rw[Tm.av,Tm.cells_eq]at hp⊢;refine qtV _ _ _ _ ?_;rw[beqI,beqS,hp];simp only[qd,q5];have go:Gets (qby (qa (if p.kind=7∨p.kind=9 then p.subs else[])) (0:Int)) (·= .bool (if p.kind=7∨p.kind=9 then p.subs.any zQ else false)):=by
   by_cases h:p.kind=7∨p.kind=9
   ·rw[qGq h,qGq h];have:=loop p.subs (by omega) p.subs.length 0 (by omega)
    simpa using this
   ·rw[qGr h,qGr h];have:=loop [] (by simp) 0 0 rfl
    simpa using this
  rw[heq]
  by_cases h2:p.kind=2
  ·rw[qGo h2]
   by_cases hs:p.str=[95]
   ·rw[qGo hs];exact⟨_,rfl,rfl⟩
   ·rw[qGp hs];exact go
  ·rw[qGp h2];exact go
theorem qek{t:Tm}(h:t.w<1099511627776):EVs (EV cfg) 71 [t.av]=some (.bool (bndG t)):=by
 have hc:=zX h;have ha:=qrT t.w t (qFH _) h;have hg:=qAW t;apply Gets.get;unfold bndG
 by_cases h0:t.chk=0
 ·have hv:=qlx t.w t (qFH _) h0 (λ_=>false);have e0:qC (setL λ_=>false)=[]:=rfl;rw[e0]at hv;rw[qGo h0,qGm];rw[Tm.av,Tm.cells_eq]at hv hc ha⊢;refine qlv _ _ _ _ ?_;rw[hc,h0,hv,ha];simp only[qd,qe,q5,qp,Bool.false_or];rw[vH,show((0:Int)==0)=true from rfl,cond_true,beqI]
  by_cases hs:setL (λm=>vU (m:Nat) t)=[]
  ·rw[hs,qGo (show(([]:List Int).length:Int)=0 from rfl)];refine⟨_,rfl,?_⟩;have h1:=qpB.1 hs;cases hany:zQ t with
   |false=>rw[hg.2 ⟨h1,hany⟩];rfl
   |true=>
    cases hgt:gndT t with
    |false=>rfl
    |true=>have:=(hg.1 hgt).2;rw[hany]at this;cases this
  ·have hl:¬(((setL (λm=>vU (m:Nat) t)).length:Int)=0):=λe=>hs (qFZ (by omega))
   rw[qGp hl];refine⟨_,rfl,?_⟩;cases hgt:gndT t with
   |false=>rfl
   |true=>exact absurd (qpB.2 (hg.1 hgt).1) hs
 ·rw[Tm.av,Tm.cells_eq]at hc⊢;refine qlv _ _ _ _ ?_;rw[hc];simp only[qd,qe,beqI,qGp h0];exact⟨_,rfl,rfl⟩
theorem qjR{l m:List Tm}(hm:m.length<1099511627776)(hw:∀x∈l,x.w<1099511627776):EVs (EV cfg) 105 [.sl (qa l),.sl (qa m)]=some (.bool (decide (m.length<=l.length)&&decide (l.take m.length=m))):=by
 apply Gets.get;refine qrN _ _ ?_;rw[qb,qb]
 by_cases h:m.length<=l.length
 ·rw[qGp (show ¬(l.length:Int)<m.length by omega),qGo h,qGm];have loop:∀d i:Nat,i+d=m.length->Gets (qfh (qa l) (qa m) i) (·= .bool (decide ((l.take m.length).drop i=m.drop i))):=by
   intro d
   induction d with
   |zero=>
    intro i hi;refine qf3 _ _ _ ?_;unfold rs4;rw[qb,qGp (by omega),qFV (by rw[qF9];omega),qFV (by omega)];exact⟨_,rfl,rfl⟩
   |succ d ihd=>
    intro i hi;have him:i<m.length:=by omega
    have hil:i<l.length:=by omega
    refine qf3 _ _ _ ?_;unfold rs4;have hx:l[i]? =some l[i]:=qFE hil;have hy:m[i]? =some m[i]:=qFE him;have hit:i<(l.take m.length).length:=by rw[qF9];omega
    have hd:(l.take m.length).drop i=l[i]::(l.take m.length).drop (i+1):=by rw[qFS hit,List.getElem_take]
    have hd':m.drop i=m[i]::m.drop (i+1):=qFS him;have h1:=qly l[i] (hw _ (qFK hx)) m[i];have h2:=ihd (i+1) (by omega);rw[qb,qb,qGo (show(i:Int)<(m.length:Int) by omega),qv,qD,qD,qGo hil,qGo him,qY hx,qN him hm];simp only[cond_true,qF7,qf,qF3,qi,qh,show qFR 4 4=true from rfl]
    rw[qY hy];simp only[cond_true,qf,qF3,qi,qh,show qFR 4 4=true from rfl,qB,h1,qd,qp];rw[hd,hd']
    by_cases he:l[i]=m[i]
    ·rw[qGo he];refine h2.mono ?_;rintro _ rfl;rw[he]
     congr 1
     exact decide_eq_decide.2 ⟨λh=>by rw[h],λh=>(List.cons.inj h).2⟩
    ·rw[qGp he];refine⟨_,rfl,?_⟩;rw[qGp (λh=>he (List.cons.inj h).1)]
  have:=loop m.length 0 (by omega)
  simpa using this
 ·rw[qGo (show(l.length:Int)<m.length by omega),qGp h];exact⟨_,rfl,rfl⟩
theorem qrE{r:Rg}(hr:RgW r){k:Tm}(hk:k.w<1099511627776):EVs (EV cfg) 74 [r.av,k.av]=some (.bool (vJ r k)):=by
 have hwe:=k.w_eq;have hb:=qjR (l:=k.subs) (m:=r.fst) hr.len (λx hx=>by have:=xF hx;omega);apply Gets.get;rw[Tm.av,Tm.cells_eq];refine qrL _ _ _ _ _ _ ?_;rw[hb,beqI,qb,beqI];unfold vJ;cases decide (k.kind=7)<;>cases decide ((k.subs.length:Int)=r.ar)<;>exact⟨_,rfl,rfl⟩
theorem qnZ{r s:Rg}(hr:RgW r)(hs:RgW s):EVs (EV cfg) 72 [r.av,s.av]=some (.bool (vD r s)):=by
 have hb:=qjR (l:=r.fst) (m:=s.fst) hs.len hr.ws;apply Gets.get;refine qv2 _ _ _ _ ?_;rw[hb,beqI];unfold vD;cases decide (r.ar=s.ar)<;>exact⟨_,rfl,rfl⟩
theorem qiV{a b:Int}:numC a b<0↔a<b:=by
 unfold numC;split
 ·omega
 ·split<;>omega
theorem qtS{r s:Rg}(hr:RgW r)(hs:RgW s):EVs (EV cfg) 73 [r.av,s.av]=some (.bool (decide (qx r s<0))):=by
 apply Gets.get;refine qtW _ _ _ _ ?_;have hl1:=hr.len;have hl2:=hs.len;rw[qb,qb];unfold qx;rw[bneD,bneD]
 by_cases h1:r.ar=s.ar
 case neg=>
  rw[qGp h1];refine⟨_,rfl,?_⟩
  congr 1
  refine decide_eq_decide.2 ?_;unfold lexI;rw[qGq (λe=>h1 (xB.1 e))];exact qiV.symm
 rw[qGo h1,h1,qdS,zv]
 by_cases h2:(r.fst.length:Int)=(s.fst.length:Int)
 case neg=>
  rw[qGp h2];refine⟨_,rfl,?_⟩
  congr 1
  refine decide_eq_decide.2 ?_;unfold lexI;rw[qGq (λe=>h2 (xB.1 e))];exact qiV.symm
 rw[qGo h2,h2,qdS,zv];simp only[qFW,cond_false];have loop:∀d i:Nat,i+d=r.fst.length->Gets (qio (i:Int) s.ar (qa r.fst) s.ar (qa s.fst)) (·= .bool (decide (qaP (r.fst.drop i) (s.fst.drop i)<0))):=by
  intro d
  induction d with
  |zero=>
   intro i hi;refine qgA _ _ _ _ _ ?_;unfold rs4;rw[qb,qGp (by omega),qFV (by omega),qFV (by omega)];exact⟨_,rfl,rfl⟩
  |succ d ihd=>
   intro i hi;have hil:i<r.fst.length:=by omega
   have him:i<s.fst.length:=by omega
   refine qgA _ _ _ _ _ ?_;unfold rs4;have hx:r.fst[i]? =some r.fst[i]:=qFE hil;have hy:s.fst[i]? =some s.fst[i]:=qFE him;have hd:r.fst.drop i=r.fst[i]::r.fst.drop (i+1):=qFS hil;have hd':s.fst.drop i=s.fst[i]::s.fst.drop (i+1):=qFS him;have h1:=qgh _ r.fst[i] s.fst[i] (qFH _) (hr.ws _ (qFK hx))
   have h2:=ihd (i+1) (by omega);rw[qb,qb,qGo (show(i:Int)<(r.fst.length:Int) by omega),qv,qD,qD,qGo hil,qGo him,qY hx,qN hil hl1];simp only[cond_true,qF7,qf,qF3,qi,qh,show qFR 4 4=true from rfl];rw[qY hy];simp only[cond_true,qf,qF3,qi,qh,show qFR 4 4=true from rfl,qB,h1,qd,qe,bneD]
   rw[hd,hd',qaP]
   by_cases he:cmpT r.fst[i] s.fst[i]=0
   ·rw[qGo he,qGr (λh=>h he)];exact h2
   ·rw[qGp he,qGq he];exact⟨_,rfl,rfl⟩
 have:=loop r.fst.length 0 (by omega)
 simpa using this
end Go.Proofs.YtgleolmhpmljhaaGreat
end
noncomputable section
namespace Go.Av
def qlM:Meet->AV
 | .all=>.agg [.bool true,.bool false,.bool false,.int .i64 0,.int .i64 0,.str [],.sl [],.int .i64 0,.sl []]
 | .none=>.agg [.bool false,.bool false,.bool false,.int .i64 0,.int .i64 0,.str [],.sl [],.int .i64 0,.sl []]
 | .key k=>.agg [.bool false,.bool true,.bool false,.int .i64 k.kind,.int .i64 k.num,.str k.str,.sl (qa k.subs),.int .i64 0,.sl []]
 | .rng r=>.agg [.bool false,.bool false,.bool true,.int .i64 0,.int .i64 0,.str [],.sl [],.int .i64 r.ar,.sl (qa r.fst)]
theorem qAd(l:List Rg)(n:Nat):qFN n (qn l)=qn (l.take n):=by unfold qn;exact List.map_take.symm
theorem qAn(l:List Rg)(n:Nat):qGb n (qn l)=qn (l.drop n):=by unfold qn;exact List.map_drop.symm
theorem appG(l m:List Rg):qn l++qn m=qn (l++m):=by unfold qn;exact List.map_append.symm
theorem z7{l:List Rg}{i:Nat}{x:Rg}(hx:l[i]? =some x):qFG (qn l) (qFQ (i:Int))=some [.int .i64 x.ar,.sl (qa x.fst)]:=by
 have:=rgG hx
 rwa [qGi]at this
end Go.Av
namespace Go.Proofs.YtgleolmhpmljhaaGreat
open Go.Av
theorem qtU{l:List Tm}(hl:l.length<4294967296)(hw:∀x∈l,x.w<1099511627776)(c3 c4 c7 k n:Int)(c5 s:List UInt8)(ar:Int):∀(d i:Nat),i+d=l.length->1<=i->(∀x∈l.take i,bndG x=true) ->
  Gets (qfg (i:Int) false false false c3 c4 c5 c7 k n s (qa l) ar i (qa (l.take i))) (·=qlM (.rng ⟨ar,l.takeWhile bndG⟩)):=by
 have tw:∀i,i<=l.length->(∀x∈l.take i,bndG x=true)->(i=l.length∨∃x,l[i]? =some x∧bndG x=false)->l.takeWhile bndG=l.take i:=by
  intro i hi h1 h2;have e:l=l.take i++l.drop i:=(List.take_append_drop i l).symm;have:(l.take i++l.drop i).takeWhile bndG=l.take i:=by
   rw[List.takeWhile_append_of_pos h1];rcases h2 with h2|⟨x,hx,hb⟩
   ·rw[qFV (by omega),List.takeWhile_nil,qGh]
   ·obtain⟨hlt,rfl⟩:=qFF.1 hx;rw[qFS hlt,List.takeWhile_cons,qGr (by rw[hb];decide),qGh]
  rwa [←e]at this
 have fin:∀i,i<=l.length->(∀x∈l.take i,bndG x=true)->(i=l.length∨∃x,l[i]? =some x∧bndG x=false)->Gets (bif qFR (0+i) (qFI (qa (l.take i)))&&true then some (AV.agg [.bool false,.bool false,.bool true,.int .i64 (0:Int),.int .i64 (0:Int),.str [],.sl [],.int .i64 ar,.sl (qFN i (qa (l.take i)))])else none) (·=qlM (.rng ⟨ar,l.takeWhile bndG⟩)):=by
  intro i hi h1 h2;rw[qb,qF9,nble,qGo (show 0+i<=min i l.length by omega),qFP (show(qa (l.take i)).length<=i by rw[qb,qF9];omega),tw i hi h1 h2];exact⟨_,rfl,rfl⟩
 intro d
 induction d with
 |zero=>
  intro i hi h1 ha;refine qf2 _ _ _ _ _ _ _ _ _ _ _ _ _ _ _ ?_;unfold rs4;rw[qb l,qGp (by omega)];exact fin i (by omega) ha (.inl (by omega))
 |succ d ih=>
  intro i hi h1 ha;have hil:i<l.length:=by omega
  have hx:l[i]? =some l[i]:=qFE hil;have hb:=qek (hw _ (qFK hx));refine qf2 _ _ _ _ _ _ _ _ _ _ _ _ _ _ _ ?_;unfold rs4;rw[qb l,qGo (show(i:Int)<(l.length:Int) by omega),qv,qD,qGo hil];rw[xz hx];simp -implicitDefEqProofs only[cond_true,qF7,qf,qF3,qi,qh,xE,qB,hb,qd,qp]
  cases hbx:bndG l[i]with
  |false=>exact fin i (by omega) ha (.inr ⟨_,hx,hbx⟩)
  |true=>
   have hlt:(qa (l.take i)).length=i:=by rw[qb,qF9];omega
   have e:qF2 (qFN i (qa (l.take i))) [[AV.int .i64 l[i].kind,.int .i64 l[i].num,.str l[i].str,.sl (qa l[i].subs)]]=qa (l.take (i+1)):=by
    rw[qFP (by omega),qGk,hx,qW];show _++_=_++qa [l[i]];rw[qF,qO,Tm.cells_eq]
   rw[cond_true,hlt,nble,qGo (show 0+i<=i by omega),xg (by omega),e,wr1 (by omega)];refine ih (i+1) (by omega) (by omega) λx hxm=>?_
   rw[qGk,hx]at hxm;rcases qF8.1 hxm with h|h
   ·exact ha x h
   ·simp at h;subst h;exact hbx
theorem qyc{h:Tm}(hw:h.w<4294967296){p:Nat}(hp1:1<=p)(hp:p<=64):EVf (EV cfg) 33 [h.av,.int .i64 (p:Int)]=some (qlM (vV h p)):=by
 apply Gets.get;rw[Tm.av,Tm.cells_eq];refine qyb _ _ _ _ _ ?_;unfold rs4;have hhe:=h.w_eq;have hsl:=xK h.subs;rw[bneD,qb]
 by_cases h7:h.kind=7
 case neg=>
  rw[qGp h7];refine⟨_,rfl,?_⟩;unfold vV;rw[qGq h7];rfl
 rw[qGo h7];simp only[qFW,cond_false]
 by_cases hlt:h.subs.length<p
 ·rw[qGo (show(h.subs.length:Int)<(p:Int) by omega),cond_true,qn5 h7 (pos:=p) (List.getElem?_eq_none (show h.subs.length<=p - 1 by omega))];exact⟨_,rfl,rfl⟩
 rw[qGp (show ¬(h.subs.length:Int)<(p:Int) by omega),cond_false,qkY hp1 (by omega)];obtain⟨q,hq⟩:=qM (l:=h.subs) (i:=p - 1) (by omega);have hqm:=qFK hq;have hqw:=xF hqm;have hqe:=q.w_eq;have hqs:=xK q.subs;have hb:=qek (t:=q) (by omega);rw[rdB (show p - 1<h.subs.length by omega),xz hq,qp6 h7 hq];simp -implicitDefEqProofs only[cond_true,qf,qF3,qi,qh,xE,qB,hb,qd,qp]
 cases hbq:bndG q with
 |true=>exact⟨_,rfl,rfl⟩
 |false=>
  rw[cond_false,bneD,qGr (by decide)]
  by_cases hq7:q.kind=7
  case neg=>
   rw[qGp hq7,qGr hq7];exact⟨_,rfl,rfl⟩
  rw[qGo hq7,qGq hq7];simp only[qFW,cond_false];refine qo9 _ _ _ _ _ _ _ _ _ _ _ _ _ ?_;unfold rs4;have hsw:∀x∈q.subs,x.w<1099511627776:=λx hx=>by have:=xF hx;omega
  cases hs:q.subs with
  |nil=>exact⟨_,rfl,rfl⟩
  |cons x l=>
   rw[hs]at hsw hqs hqe;have hx0:(x::l)[0]? =some x:=rfl;have hbx:=qek (hsw x (by simp));have hr:=xz hx0;rw[show((0:Nat):Int)=0 from rfl]at hr;rw[qb,qGo (show(0:Int)<((x::l).length:Int) by rw[qGf];omega),show(qj 0 (0:Int)&&qA (0:Int) ((x::l).length:Int))=true from rdB (i:=0) (by simp),hr];simp -implicitDefEqProofs only[cond_true,qf,qF3,qi,qh,xE,qB,hbx,qd,qp]
   cases hb0:bndG x with
   |false=>
    refine⟨_,rfl,?_⟩;rw[List.takeWhile_cons,hb0];rfl
   |true=>
    have e:[[AV.int .i64 x.kind,.int .i64 x.num,.str x.str,.sl (qa x.subs)]]=qa ((x::l).take 1):=by
     rw[List.take_succ_cons,List.take_zero,qF,qO,Tm.cells_eq]
    rw[cond_true,xg (by omega),cond_true,e,show qFD .i64 ((0:Int)+1)=((1:Nat):Int)from rfl];have:=qtU (l:=x::l) (by omega) hsw 0 0 0 q.kind q.num [] q.str ((x::l).length:Int) l.length 1 (by simp;omega) (qFH _) (λy hy=>by simp at hy;subst hy;exact hb0);exact this
end Go.Proofs.YtgleolmhpmljhaaGreat
end
noncomputable section
namespace Go.Av
theorem quz{l:List Rg}{r s:Rg}{i k:Nat}(hk:l[k]? =some s):zo l r i (k+1)=(zo l r i k&& !(decide (k≠i)&&(vD r s&&(!(vD r s&&vD s r)||decide (k<i))))):=by
 unfold zo;rw[List.range_succ,List.all_append,List.all_cons,List.all_nil,Bool.and_true,hk]
end Go.Av
namespace Go.Proofs.YtgleolmhpmljhaaGreat
open Go.Av
theorem qrH{l:List Rg}(hl:l.length<1073741824)(hw:AllW l){i:Nat}{r:Rg}(hr:l[i]? =some r){n:Nat}{h0:List (List AV)}{P:AV->Prop}(hno:zo l r i l.length=false->Gets (qa2 (qn l) n ((i+1:Nat):Int) h0) P)(hyes:zo l r i l.length=true->Gets (qeG (qn l) n (i:Int) (0:Int) h0) P):
  ∀(d k:Nat),k+d=l.length->Gets (zp (qn l) n (i:Int) (zo l r i k) (k:Int) h0) P:=by
 have hil:=(qFF.1 hr).1;intro d
 induction d with
 |zero=>
  intro k hk;obtain rfl:k=l.length:=by omega
  refine qgF _ _ _ _ _ _ ?_;unfold rs2;rw[qU,qGp (show ¬(l.length:Int)<(l.length:Int) by omega),cond_false,wr1 (show i<4398046511104 by omega)];cases hkp:zo l r i l.length with
  |false=>exact hno hkp
  |true=>exact hyes hkp
 |succ d ih=>
  intro k hk;obtain⟨s,hs⟩:=qaL (l:=l) (i:=k) (by omega);have ih:=ih (k+1) (by omega);rw[quz hs]at ih;have w1:EVs (EV cfg) 72 [.agg [.int .i64 r.ar,.sl (qa r.fst)],.agg [.int .i64 s.ar,.sl (qa s.fst)]]=_:=qnZ (hw.at hr) (hw.at hs);have w2:EVs (EV cfg) 72 [.agg [.int .i64 s.ar,.sl (qa s.fst)],.agg [.int .i64 r.ar,.sl (qa r.fst)]]=_:=qnZ (hw.at hs) (hw.at hr);refine qgF _ _ _ _ _ _ ?_
  unfold rs2;rw[qU,qGo (show(k:Int)<(l.length:Int) by omega),wr1 (show k<4398046511104 by omega)];simp -implicitDefEqProofs only[cond_true,qd,rgB2,rgT2,qT,q5,q9,qe,qp,rdB (show i<l.length by omega),rdB (show k<l.length by omega),z7 hr,z7 hs,w1,w2,show ∀a b:AV,qFY (qFI [a,b]) 2=true from λ_ _=>rfl];have en:((k:Int) != (i:Int))=decide (k≠i):=by
   rw[bneD,←decide_not];exact decide_eq_decide.2 (by omega)
  have el:decide ((k:Int)<(i:Int))=decide (k<i):=decide_eq_decide.2 (by omega);rw[en,el]
  revert ih
  generalize zo l r i k=c;cases decide (k≠i)<;>cases vD r s<;>cases vD s r<;>cases decide (k<i)<;>cases c<;>exact id
theorem qhc{α:Type}{f:α->Bool}{l:List α}{j:Nat}{x:α}(hx:l[j]? =some x)(h:∀y∈l.take j,f y=true)(hf:f x=false):(l.takeWhile f).length=j:=by
 obtain⟨hlt,rfl⟩:=qFF.1 hx;have e:l=l.take j++l.drop j:=(List.take_append_drop j l).symm;have:((l.take j++l.drop j).takeWhile f).length=j:=by
  rw[List.takeWhile_append_of_pos h,qFS hlt,List.takeWhile_cons,qGr (by rw[hf];decide),qGh,qF9];omega
 rwa [←e]at this
theorem qgd{α:Type}{f:α->Bool}{l:List α}(h:∀y∈l,f y=true):(l.takeWhile f).length=l.length:=by
 have:=List.takeWhile_append_of_pos (l₂:=[]) h;rw[qGh,List.takeWhile_nil,qGh]at this;rw[this]
theorem qiW{a b:Nat}(h:a<=b):qj (a:Int) (b:Int)=true:=by simp[qj];omega
theorem bleT{a b:Nat}(h:a<=b):qFR a b=true:=by rw[qGj];exact h
theorem qtR{l out:List Rg}(hl:l.length<1073741824)(ho:out.length<1073741824)(hw:AllW l)(hwo:AllW out){i:Nat}{r:Rg}(hr:l[i]? =some r){P:AV->Prop}(hgo:Gets (qa2 (qn l) (insG out r).length ((i+1:Nat):Int) (qn (insG out r))) P):
  ∀(d j:Nat),j+d=out.length->(∀y∈out.take j,qx y r<0)->Gets (qeG (qn l) out.length (i:Int) (j:Int) (qn out)) P:=by
 have hil:=(qFF.1 hr).1;have g0:qFG (qn l) i=some [.int .i64 r.ar,.sl (qa r.fst)]:=by have:=z7 hr;rwa [qFT]at this
 have fin:∀j,j<=out.length->(out.takeWhile λy=>decide (qx y r<0)).length=j->Gets (qa2 (qn l) (j+1+(out.length - j)) ((i+1:Nat):Int) (qn ((out.take j++[r])++out.drop j))) P:=by
  intro j hj e;have e1:insG out r=(out.take j++[r])++out.drop j:=by unfold insG;rw[e];simp
  have e2:(insG out r).length=j+1+(out.length - j):=by
   rw[e1];simp only[qFU,qF9,List.length_drop,qGf,List.length_nil];omega
  rw[←e2,←e1];exact hgo
 have t1:∀j,j<=out.length->qFN (out.length - j) (out.drop j)=out.drop j:=λj hj=>qFP (by rw[List.length_drop];omega)
 have l1:∀j,j<=out.length->(out.take j++[r]).length=j+1:=λj hj=>by simp only[qFU,qF9,qGf,List.length_nil];omega
 have t2:∀j,j<=out.length->qFN (j+1) (out.take j++[r])=out.take j++[r]:=λj hj=>qFP (by rw[l1 j hj];omega)
 have a1:∀j,qF2 (qn (out.take j)) [[AV.int .i64 r.ar,.sl (qa r.fst)]]=qn (out.take j++[r]):=λj=>by unfold qn;rw[List.map_append];rfl
 have a2:∀a b:List Rg,qF2 (qn a) (qn b)=qn (a++b):=λa b=>appG a b
 have b2:∀a b:AV,qFY (qFI [a,b]) 2=true:=λ_ _=>rfl
 intro d
 induction d with
 |zero=>
  intro j hj ha;obtain rfl:j=out.length:=by omega
  rw[List.take_length]at ha;refine qgE _ _ _ _ _ ?_;unfold zE0 zE1 zE2 zE3 zE4 zE5 zE6 zE7 zE8 zE9 rd2 rs2;have f:=fin out.length (qFH _) (qgd λy hy=>qGo (ha y hy));rw[qGp (show ¬(out.length:Int)<(out.length:Int) by omega),wr1 (show i<4398046511104 by omega)];simp -implicitDefEqProofs only[cond_true,cond_false,qd,rgB2,rgT2,b2,qT,q5,q9,qe,qU,qv,qiW (qFH out.length),qF7,qD,qGo hil,g0,
   qFT,qGi,Nat.sub_zero,qAd,qAn,t1 out.length (qFH _),bleT (show out.length+(out.length - out.length)<=out.length by omega),List.length_drop,qaG (show out.length - out.length+1<=1099511627776 by omega),
   qaG (show out.length - out.length<=1099511627776 by omega),qaG (show out.length+1<=1099511627776 by omega),bleT (qFH out.length),bleT (qFH (out.length - out.length)),a1,l1 out.length (qFH _),bleT (qFH (out.length+1)),qaG (show out.length+1+(out.length - out.length)<=1099511627776 by omega),t2 out.length (qFH _),a2]
  exact f
 |succ d ih=>
  intro j hj ha;obtain⟨y,hy⟩:=qaL (l:=out) (i:=j) (by omega);have hc:EVs (EV cfg) 73 [.agg [.int .i64 y.ar,.sl (qa y.fst)],.agg [.int .i64 r.ar,.sl (qa r.fst)]]=_:=qtS (hwo.at hy) (hw.at hr);refine qgE _ _ _ _ _ ?_;unfold zE0 zE1 zE2 zE3 zE4 zE5 zE6 zE7 zE8 zE9 rd2 rs2;rw[qGo (show(j:Int)<(out.length:Int) by omega),wr1 (show i<4398046511104 by omega),wr1 (show j<4398046511104 by omega)]
  have hjl:j<out.length:=by omega
  have hjl':=Nat.le_of_lt hjl;simp -implicitDefEqProofs only[cond_true,qd,rgB2,rgT2,b2,qT,q5,q9,qe,qp,rdB hil,rdB hjl,qU,z7 hr,rgG hy,hc]
  by_cases hlt:qx y r<0
  ·rw[qGo hlt];refine ih (j+1) (by omega) λz hz=>?_
   rw[qGk,hy]at hz;rcases qF8.1 hz with h|h
   ·exact ha z h
   ·simp at h;subst h;exact hlt
  ·have f:=fin j hjl' (qhc hy (λz hz=>qGo (ha z hz)) (qGp hlt));rw[qGp hlt];simp -implicitDefEqProofs only[cond_true,cond_false,qd,rgB2,rgT2,b2,qT,q5,q9,qe,qU,qv,qiW hjl',qiW (qFH j),qF7,qD,qGo hil,g0,
    qFT,qGi,Nat.sub_zero,qAd,qAn,t1 j hjl',bleT (show j+(out.length - j)<=out.length by omega),List.length_drop,
    qaG (show out.length - j<=1099511627776 by omega),qaG (show j+1<=1099511627776 by omega),bleT hjl',bleT (qFH (out.length - j)),a1,l1 j hjl',bleT (qFH (j+1)),qaG (show j+1+(out.length - j)<=1099511627776 by omega),t2 j hjl',a2]
   exact f
theorem qb0(l:List Rg):∀i,(q7 l i).length<=i
 |0=>by rw[q7];exact qFH _
 |i+1=>by
  have ih:=qb0 l i;rw[q7];split
  ·split
   ·unfold insG;simp only[qFU,qF9,qGf,List.length_drop];omega
   ·omega
  ·omega
theorem zW(l:List Rg):∀i,∀r∈q7 l i,r∈l
 |0,r,h=>by rw[q7]at h;cases h
 |i+1,r,h=>by
  rw[q7]at h;split at h
  ·rename_i s hs;split at h
   ·rcases qqu.1 h with rfl|h
    ·exact qFK hs
    ·exact zW l i r h
   ·exact zW l i r h
  ·exact zW l i r h
theorem qtT{l:List Rg}(hl:l.length<1073741824)(hw:AllW l):EVf (EV cfg) 34 [.sl (qn l)]=some (.sl (qn (q7 l l.length))):=by
 have loop:∀d i:Nat,i+d=l.length->Gets (qa2 (qn l) (q7 l i).length (i:Int) (qn (q7 l i))) (·= .sl (qn (q7 l l.length))):=by
  intro d
  induction d with
  |zero=>
   intro i hi;obtain rfl:i=l.length:=by omega
   refine qgG _ _ _ _ ?_;rw[qU l,qGp (by omega),cond_false,qU,nble,qGo (show 0+(q7 l l.length).length<=(q7 l l.length).length by omega),qFP (by rw[qU];exact qFH _)];exact⟨_,rfl,rfl⟩
  |succ d ih=>
   intro i hi;obtain⟨r,hr⟩:=qaL (l:=l) (i:=i) (by omega);have h1:=ih (i+1) (by omega);rw[q7,hr]at h1;have hlen:=qb0 l i;refine qgG _ _ _ _ ?_;rw[qU l,qGo (show(i:Int)<(l.length:Int) by omega),cond_true];refine qrH hl hw hr (λhno=>?_) (λhyes=>?_) l.length 0 (by omega)
   ·simp only[hno,qGr (show ¬(false=true) by decide)]at h1;exact h1
   ·simp only[hyes,qGq]at h1;exact qtR hl (by omega) hw (λs hs=>hw s (zW l i s hs)) hr h1 (q7 l i).length 0 (by omega) (λy hy=>by simp at hy)
 apply Gets.get;refine qrM _ ?_;exact loop l.length 0 (by omega)
end Go.Proofs.YtgleolmhpmljhaaGreat
end
noncomputable section
namespace Go.Av
theorem qAc(l:List Tm)(n:Nat):qFN n (qa l)=qa (l.take n):=zC n l
theorem qfC(f:Tm->Bool)(l:List Tm)(x:Tm):xN f (l++[x])=if f x then insK (xN f l) x else xN f l:=by
 unfold xN;rw[List.foldl_append];rfl
theorem qyO(out:List Tm)(x:Tm):(insK out x).length<=out.length+1:=by
 unfold insK;split
 ·omega
 ·simp only[qFU,qF9,qGf,List.length_drop];omega
theorem qhE(f:Tm->Bool)(l:List Tm):∀i,i<=l.length->(xN f (l.take i)).length<=i
 |0,_=>qFH _
 |i+1,hi=>by
  have ih:=qhE f l i (by omega);rw[qGk,qFE (by omega)];show(xN f (l.take i++[l[i]])).length<=_;rw[qfC];split
  ·have:=qyO (xN f (l.take i)) l[i];omega
  ·omega
theorem qdW(f:Tm->Bool)(l:List Tm):∀i,i<=l.length->∀x∈xN f (l.take i),x∈l
 |0,_,x,h=>by cases h
 |i+1,hi,x,h=>by
  have hg:l[i]? =some l[i]:=qFE (by omega);rw[qGk,hg]at h;have h:x∈xN f (l.take i++[l[i]]):=h;rw[qfC]at h;split at h
  ·rcases qkH.1 h with rfl|h
   ·exact qFK hg
   ·exact qdW f l i (by omega) x h
  ·exact qdW f l i (by omega) x h
end Go.Av
namespace Go.Proofs.YtgleolmhpmljhaaGreat
open Go.Av
theorem quu{l:List Tm}(hlw:∀x∈l,x.w<1099511627776){rs:List Rg}(hrl:rs.length<1073741824)(hw:AllW rs){i:Nat}{x:Tm}(hx:l[i]? =some x){n:Nat}{h0:List (List AV)}{P:AV->Prop}(hgo:Gets (qeE (qa l) (qn rs) n (i:Int) (rs.any λr=>vJ r x) (0:Int) h0) P):
  ∀(d k:Nat),k+d=rs.length->Gets (qeF (qa l) (qn rs) n (i:Int) ((rs.take k).any λr=>vJ r x) (k:Int) h0) P:=by
 have hil:=(qFF.1 hx).1;intro d
 induction d with
 |zero=>
  intro k hk;obtain rfl:k=rs.length:=by omega
  refine qgC _ _ _ _ _ _ _ ?_;unfold rs4 rs2;rw[qU,qGp (show ¬(rs.length:Int)<(rs.length:Int) by omega),cond_false,List.take_length];exact hgo
 |succ d ih=>
  intro k hk;obtain⟨r,hr⟩:=qaL (l:=rs) (i:=k) (by omega);have ih:=ih (k+1) (by omega);have e:(rs.take (k+1)).any (λr=>vJ r x)=((rs.take k).any (λr=>vJ r x)||vJ r x):=by
   rw[qGk,hr,List.any_append];show(_||[r].any _)=_;rw[List.any_cons,List.any_nil,Bool.or_false]
  rw[e]at ih;have w1:EVs (EV cfg) 74 [.agg [.int .i64 r.ar,.sl (qa r.fst)],x.av]=_:=qrE (hw.at hr) (hlw x (qFK hx));refine qgC _ _ _ _ _ _ _ ?_;unfold rs4 rs2;rw[qU,qb,qGo (show(k:Int)<(rs.length:Int) by omega),wr1 (show k<4398046511104 by omega)]
  revert ih
  generalize (rs.take k).any (λr=>vJ r x)=c;intro ih;cases c with
  |true=>exact ih
  |false=>
   have g:=xz hx;simp -implicitDefEqProofs only[cond_true,cond_false,qd,rgB2,rgT2,qT,q5,q9,qe,qp,rdB hil,rdB (show k<rs.length by omega),z7 hr,g,w1,show ∀a b:AV,qFY (qFI [a,b]) 2=true from λ_ _=>rfl,qf,qF3,qi,qh,xE,qB];exact ih
theorem quv{l out:List Tm}(hl:l.length<1073741824)(ho:out.length<1073741824)(hw:∀x∈l,x.w<1099511627776)(hwo:∀x∈out,x.w<1099511627776){R:List (List AV)}{i:Nat}{x:Tm}(hx:l[i]? =some x)(met:Bool){P:AV->Prop}(hskip:met=true->Gets (yu (qa l) R out.length ((i+1:Nat):Int) (qa out)) P)(hgo:met=false->Gets (yu (qa l) R (insK out x).length ((i+1:Nat):Int) (qa (insK out x))) P):
  ∀(d j:Nat),j+d=out.length->(∀y∈out.take j,cmpT y x<0)->Gets (qeE (qa l) R out.length (i:Int) met (j:Int) (qa out)) P:=by
 have hil:=(qFF.1 hx).1;have gx:=xz hx;have g0:qFG (qa l) i=some x.cells:=by rwa [qFT]at gx
 have fin:met=false->∀j,j<=out.length->(out.takeWhile λy=>decide (cmpT y x<0)).length=j->out[j]? ≠some x->Gets (yu (qa l) R (j+1+(out.length - j)) ((i+1:Nat):Int) (qa ((out.take j++[x])++out.drop j))) P:=by
  intro hm j hj e hne;have e1:insK out x=(out.take j++[x])++out.drop j:=by unfold insK;rw[e,qGr hne];simp
  have e2:(insK out x).length=j+1+(out.length - j):=by
   rw[e1];simp only[qFU,qF9,List.length_drop,qGf,List.length_nil];omega
  rw[←e2,←e1];exact hgo hm
 have t1:∀j,j<=out.length->qFN (out.length - j) (out.drop j)=out.drop j:=λj hj=>qFP (by rw[List.length_drop];omega)
 have l1:∀j,j<=out.length->(out.take j++[x]).length=j+1:=λj hj=>by simp only[qFU,qF9,qGf,List.length_nil];omega
 have t2:∀j,j<=out.length->qFN (j+1) (out.take j++[x])=out.take j++[x]:=λj hj=>qFP (by rw[l1 j hj];omega)
 have a1:∀j,qF2 (qa (out.take j)) [[AV.int .i64 x.kind,.int .i64 x.num,.str x.str,.sl (qa x.subs)]]=qa (out.take j++[x]):=λj=>by rw[qW,qF,qO,Tm.cells_eq];rfl
 have a2:∀a b:List Tm,qF2 (qa a) (qa b)=qa (a++b):=λa b=>(qW a b).symm
 have dT:∀n,qGb n (qa out)=qa (out.drop n):=λn=>qln n out
 intro d
 induction d with
 |zero=>
  intro j hj ha;obtain rfl:j=out.length:=by omega
  rw[List.take_length]at ha;refine qgB _ _ _ _ _ _ _ ?_;unfold rd4 rs4;rw[qGp (show ¬(out.length:Int)<(out.length:Int) by omega),wr1 (show i<4398046511104 by omega)];cases met with
  |true=>exact hskip rfl
  |false=>
  have f:=fin rfl out.length (qFH _) (qgd λy hy=>qGo (ha y hy)) (by rw[List.getElem?_eq_none (qFH _)];exact λh=>by cases h);simp -implicitDefEqProofs only[cond_true,cond_false,qd,qf,qF3,qi,qh,xE,qb,qv,qiW (qFH out.length),qF7,qD,qGo hil,g0,
   qFT,qGi,Nat.sub_zero,qAc,dT,t1 out.length (qFH _),bleT (show out.length+(out.length - out.length)<=out.length by omega),List.length_drop,
   xg (show out.length - out.length<=1099511627776 by omega),xg (show out.length+1<=1099511627776 by omega),bleT (qFH out.length),bleT (qFH (out.length - out.length)),a1,l1 out.length (qFH _),bleT (qFH (out.length+1)),xg (show out.length+1+(out.length - out.length)<=1099511627776 by omega),t2 out.length (qFH _),a2]
  exact f
 |succ d ih=>
  intro j hj ha;have hjl:j<out.length:=by omega
  have hjl':=Nat.le_of_lt hjl;obtain⟨y,hy⟩:=qM (l:=out) (i:=j) hjl;have hc:=qgh _ y x (qFH _) (hwo y (qFK hy));have hs:=qly y (hwo y (qFK hy)) x;have gy:qFG (qa out) (0+qFQ (j:Int))=some y.cells:=by rw[qGi,qu,qFT,xy,hy];rfl
  refine qgB _ _ _ _ _ _ _ ?_;unfold rd4 rs4;rw[qGo (show(j:Int)<(out.length:Int) by omega),wr1 (show i<4398046511104 by omega),wr1 (show j<4398046511104 by omega)];simp -implicitDefEqProofs only[cond_true,qd,qf,qF3,qi,qh,xE,qB,qe,qp,rdB hil,rdB hjl,qb,gx,gy,hc,hs]
  by_cases hlt:cmpT y x<0
  ·rw[qGo hlt];refine ih (j+1) (by omega) λz hz=>?_
   rw[qGk,hy]at hz;rcases qF8.1 hz with h|h
   ·exact ha z h
   ·simp at h;subst h;exact hlt
  ·rw[qGp hlt];have htw:=qhc (f:=λy=>decide (cmpT y x<0)) hy (λz hz=>qGo (ha z hz)) (qGp hlt);cases met with
   |true=>exact hskip rfl
   |false=>
   by_cases hyx:y=x
   ·rw[qGo hyx];have:=hgo rfl;have e:insK out x=out:=by unfold insK;rw[htw,qGq (by rw[hy,hyx])]
    rw[e]at this;exact this
   ·have f:=fin rfl j hjl' htw (by rw[hy];exact λh=>hyx (Option.some.inj h));rw[qGp hyx];simp -implicitDefEqProofs only[cond_true,cond_false,qd,qf,qF3,qi,qh,xE,qb,qv,qiW hjl',qiW (qFH j),qF7,qD,qGo hil,g0,
     qFT,qGi,Nat.sub_zero,qAc,dT,t1 j hjl',bleT (show j+(out.length - j)<=out.length by omega),List.length_drop,
     xg (show out.length - j<=1099511627776 by omega),xg (show j+1<=1099511627776 by omega),bleT hjl',bleT (qFH (out.length - j)),a1,l1 j hjl',bleT (qFH (j+1)),xg (show j+1+(out.length - j)<=1099511627776 by omega),t2 j hjl',a2]
    exact f
theorem qyd{l:List Tm}(hl:l.length<1073741824)(hlw:∀x∈l,x.w<1099511627776){rs:List Rg}(hrl:rs.length<1073741824)(hw:AllW rs):EVf (EV cfg) 35 [.sl (qa l),.sl (qn rs)]=some (.sl (qa (xN (vW rs) l))):=by
 have loop:∀d i:Nat,i+d=l.length->Gets (yu (qa l) (qn rs) (xN (vW rs) (l.take i)).length (i:Int) (qa (xN (vW rs) (l.take i)))) (·= .sl (qa (xN (vW rs) l))):=by
  intro d
  induction d with
  |zero=>
   intro i hi;obtain rfl:i=l.length:=by omega
   refine qgD _ _ _ _ _ ?_;rw[qb l,qGp (by omega),cond_false,qb,nble,List.take_length,qGo (show 0+(xN (vW rs) l).length<=(xN (vW rs) l).length by omega),qFP (by rw[qb];exact qFH _)];exact⟨_,rfl,rfl⟩
  |succ d ih=>
   intro i hi;obtain⟨x,hx⟩:=qM (l:=l) (i:=i) (by omega);have h1:=ih (i+1) (by omega);have e:l.take (i+1)=l.take i++[x]:=by rw[qGk,hx];rfl
   rw[e,qfC]at h1;have hlen:=qhE (vW rs) l i (by omega);refine qgD _ _ _ _ _ ?_;rw[qb l,qGo (show(i:Int)<(l.length:Int) by omega),cond_true];refine quu hlw hrl hw hx ?_ rs.length 0 (by omega);refine quv hl (by omega) hlw (λy hy=>hlw y (qdW _ l i (by omega) y hy)) hx _ (λhm=>?_) (λhm=>?_) (xN (vW rs) (l.take i)).length 0 (by omega) (λy hy=>by simp at hy)
   ·have hk:vW rs x=false:=by unfold vW;rw[hm];rfl
    simp only[hk,qGr (show ¬(false=true) by decide)]at h1;exact h1
   ·have hk:vW rs x=true:=by unfold vW;rw[hm];rfl
    simp only[hk,qGq]at h1;exact h1
 apply Gets.get;refine qv3 _ _ ?_;exact loop l.length 0 (by omega)
def qAp(t:Tm)(most:Int)(v:AV):Prop:=∃n:Int,v= .int .i64 n∧1<=n∧n<=most∧(n<most->t.w<=101*n∧t.words<=2*n)
theorem qx2(t:Tm):t.Ok->∀most:Int,1<=most->most<=1073741824->Gets (EVs (EV cfg) 49 [t.av,.int .i64 most]) (qAp t most):=by
 induction t using Tm.ind with
 |_ k n s l ih=>
  intro hok most h1 hmx
  by_cases hs:s.length<=100
  ·have loop:∀(d i:Nat) (m:Int),i+d=l.length->1<=m->m<=most->(m<most->(1+s.length:Nat)+wL (l.take i)<=101*m∧2+vh (l.take i)<=2*m)->Gets (qlb most m i k n s (qa l)) (qAp (.mk k n s l) most):=by
    intro d
    induction d with
    |zero=>
     intro i m hi hm1 hm2 hmw;refine qjF _ _ _ _ _ _ _ ?_;unfold rs4;rw[qb,qGp (by omega)];refine⟨_,rfl,m,rfl,hm1,hm2,λhlt=>?_⟩;have hmw:=hmw hlt;rw[qFP (by omega)]at hmw;have:=(Tm.mk k n s l).own_le;rw[Tm.w_mk,Tm.words];omega
    |succ d ihd=>
     intro i m hi hm1 hm2 hmw;refine qjF _ _ _ _ _ _ _ ?_;unfold rs4;have hil:i<l.length:=by omega
     have hx:l[i]? =some l[i]:=qFE hil;have hxl:=qFK hx;have hix:=ih l[i] hxl (hok.sub hxl)
     by_cases hm:m<most
     ·have hmw:=hmw hm;rw[qN hil hok.len,qo (x:=most - m) (by omega) (by omega)];simp[hil,hx,hm];refine Gets.bind (hix (most - m) (by omega) (by omega)) ?_;rintro _ ⟨n'',rfl,q1,q2,q3⟩;have hg:=ihd (i+1) (m+n'') (by omega) (by omega) (by omega) (λhlt=>by
       have:=q3 (by omega);rw[qGk,hx,Option.toList_some,ya,qct,vC,xO,vh,vh];omega)
      simp only[qe];rw[qo (x:=m+n'') (by omega) (by omega)]
      simpa using hg
     ·simp[hil,hm];exact⟨m,rfl,hm1,hm2,λh=>absurd h hm⟩
   rw[Tm.av_mk];refine qj6 _ _ _ _ _ ?_;rw[qGp (by omega)]
   by_cases h2:(l.length:Int)>most
   ·rw[qb,qGo h2];exact⟨_,rfl,most,rfl,h1,Int.le_refl _,λh=>absurd h (by omega)⟩
   ·rw[qb,qGp h2];exact loop l.length 0 1 (by omega) (by omega) (by omega) (λ_=>by simp[vh];omega)
  ·rw[Tm.av_mk];refine qj6 _ _ _ _ _ ?_;rw[qGo (by omega)];exact⟨_,rfl,most,rfl,h1,Int.le_refl _,λh=>absurd h (by omega)⟩
def BigP(t:Tm)(most:Int)(v:AV):Prop:=∃b:Bool,v= .bool b∧(b=false->t.w<=101*most∧t.words<=2*most)
theorem qA7{t:Tm}(h:t.Ok){most:Int}(h1:1<=most)(h2:most<=1000000000):Gets (EVs (EV cfg) 15 [t.av,.int .i64 most]) (BigP t most):=by
 have h1:=qx2 t h (most+1) (by omega) (by omega);rw[Tm.av,Tm.cells_eq]at h1⊢;refine quw _ _ _ _ _ ?_;rw[qo (by omega) (by omega)];refine Gets.bind h1 ?_;rintro _ ⟨n,rfl,q1,q2,q3⟩;simp only[qe];refine⟨_,rfl,_,rfl,λhb=>?_⟩;have hb:¬n>most:=of_decide_eq_false hb;have:=q3 (by omega);omega
def qEl:Den:=evC cfg (EV cfg) 36 none 0 (sub (qc Tryz.f36) [1,1,0,1,0,0])
def qEU:Ex×List AV×AH->Option AV:=kAft (Cfg.keepOut cfg 36 4) (kRun cfg (EV cfg) (kfN cfg 6) 36 none 0 (vM cfg (Cfg.lift cfg 36 0) Tryz.f36.results.toList) ([.block 0,.seq (sub (qc Tryz.f36) [1,1,1])]))
def qDV:List AV×AH->Option AV:=λp=>kOpt (LOOP 0 (some [0,1,5]) ([]) qEl p) qEU
def qEn:Den:=evC cfg (EV cfg) 16 none 0 (sub (qc Tryz.f16) [1,1,0,1,0,0])
def qEW:Ex×List AV×AH->Option OV:=kAft (Cfg.keepOut cfg 16 3) (kRun cfg (EV cfg) (kfN cfg 6) 16 none 0 (qAk cfg (Cfg.lift cfg 16 0) Tryz.f16.results.toList) ([.block 0,.seq (sub (qc Tryz.f16) [1,1,1])]))
def qDW:List AV×AH->Option OV:=λp=>kOpt (LOOP 0 (some [0,3,4]) ([(3,4)]) qEn p) qEW
abbrev qk1(A B:Rz)(v5:Int):Option (AV):=qDV (((fx 27 [(0,.sl A),(1,.sl B),(5,.int .i64 v5)]):List AV),([]:AH))
abbrev qk2(A:Rz)(nv3:Nat)(v4:Int)(h0:Rz):Option (OV):=qDW (((fx 20 [(0,.sl A),(3,.ms 0 0 nv3),(4,.int .i64 v4)]):List AV),([.rows true 4 h0]:AH))
theorem qed(ka na:Int)(sa:Bz)(la:Rz)(kb nb:Int)(sb:Bz)(lb:Rz){P:AV->Prop}(h:Gets (bif ka==kb then bif na==nb then bif sa==sb then kOpt (EVs (EV cfg) 36 [.sl la,.sl lb]) λv=>qt v λb=>some (.bool b)else some (.bool false)else some (.bool false)else some (.bool false)) P):Gets (EVs (EV cfg) 11 [.agg [.int .i64 ka,.int .i64 na,.str sa,.sl la],.agg [.int .i64 kb,.int .i64 nb,.str sb,.sl lb]]) P:=
  gE (λ_=>funS rfl rfl Tryz.func11 rfl) (by kernel_rfl) h
theorem qdE(A B:Rz){P:AV->Prop}(h:Gets (bif(A.length:Int) != (B.length:Int)then some (.bool false)else qk1 A B 0) P):Gets (EVs (EV cfg) 36 [.sl A,.sl B]) P:=
  gE (λ_=>funS rfl rfl Tryz.func36 rfl) (by kernel_rfl) h
theorem qee(kt nt:Int)(st:Bz)(lt:Rz){P:AV->Prop}(h:Gets (kOpt (EVo (EV cfg) 16 [.sl lt]) λo=>kOwn o (some (.agg [.int .i64 kt,.int .i64 nt,.str st,.sl []])) λsz rs off len=>bif qFR (off+len) (qFI rs)&&true then some (.agg [.int .i64 kt,.int .i64 nt,.str st,.sl (qFN len (qGb off rs))])else none) P):Gets (EVf (EV cfg) 6 [.agg [.int .i64 kt,.int .i64 nt,.str st,.sl lt]]) P:=
  gE (λ_=>funF rfl rfl Tryz.func6 rfl) (by kernel_rfl) h
theorem qdF(A:Rz){P:OV->Prop}(h:Gets (qk2 A 0 0 []) P):Gets (EVo (EV cfg) 16 [.sl A]) P:=
  gE (λ_=>funO rfl rfl Tryz.func16 rfl) (by kernel_rfl) h
theorem qjt(A B:Rz)(v5:Int){P:AV->Prop}(h:Gets (bif decide (v5<(A.length:Int))then rs4 A v5 λn n_1 s rows=>(rs4 B v5 λn_2 n_3 s_1 rows_1=>(kOpt (EVs (EV cfg) 11 [.agg [.int .i64 n,.int .i64 n_1,.str s,.sl rows],.agg [.int .i64 n_2,.int .i64 n_3,.str s_1,.sl rows_1]]) λv=>qt v λb=>bif ! b then some (.bool false)else qk1 A B (qFD .i64 (v5+1))))else some (.bool true)) P):Gets (qk1 A B v5) P:=
  gE (λ_=>qg (cfg:=cfg) (f:=36) (rd:=none) (bs:=0)) (by kernel_rfl) h
theorem qju(A:Rz)(nv3:Nat)(v4:Int)(h0:Rz){P:OV->Prop}(h:Gets (bif decide (v4<(A.length:Int))then rs4 A v4 λn n_1 s rows=>(kOpt (EVf (EV cfg) 6 [.agg [.int .i64 n,.int .i64 n_1,.str s,.sl rows]]) λv=>kTmV v λn n_2 s rows=>(bif qFR (0+nv3) (qFI h0)&&qI (nv3+1) 56 then qk2 A (nv3+1) (qFD .i64 (v4+1)) (qF2 (qFN nv3 h0) [[.int .i64 n,.int .i64 n_2,.str s,.sl rows]])else none))else some (OV.own 4 h0 0 nv3)) P):Gets (qk2 A nv3 v4 h0) P:=
  gE (λ_=>qg (cfg:=cfg) (f:=16) (rd:=none) (bs:=0)) (by kernel_rfl) h
theorem qpG(la lb:List Tm)(hlen:la.length<1099511627776)(ih:∀a∈la,∀b,Gets (EVs (EV cfg) 11 [a.av,b.av]) (qcQ (a=b))):Gets (EVs (EV cfg) 36 [.sl (qa la),.sl (qa lb)]) (qcQ (la=lb)):=by
 have loop:la.length=lb.length->∀(d i:Nat),i+d=la.length->la.take i=lb.take i->Gets (qk1 (qa la) (qa lb) i) (qcQ (la=lb)):=by
  intro hl d
  induction d with
  |zero=>
   intro i hi ht;refine qjt _ _ _ ?_;unfold rs4;rw[qFP (by omega),qFP (by omega)]at ht;have h1:¬i<la.length:=by omega
   simp[h1,ym];exact ht
  |succ d ihd=>
   intro i hi ht;refine qjt _ _ _ ?_;unfold rs4;have hlt1:i<la.length:=by omega
   have hlt2:i<lb.length:=by omega
   have hx:la[i]? =some la[i]:=qFE hlt1;have hy:lb[i]? =some lb[i]:=qFE hlt2;have hix:=ih la[i] (qFK hx) lb[i];have hta:la.take (i+1)=la.take i++[la[i]]:=by rw[qGk,hx];rfl
   have htb:lb.take (i+1)=lb.take i++[lb[i]]:=by rw[qGk,hy];rfl
   have hih:=ihd (i+1) (by omega);have hne:la[i]≠lb[i]->la≠lb:=by intro h e;subst e;exact h rfl
   rw[hta,htb,ht]at hih;rw[qN (n:=la.length) (by omega) hlen];simp[hlt1,hlt2,hx,hy];refine Gets.bind hix ?_;rintro _ ⟨b,rfl,hb⟩;cases b with
   |true=>simp;exact hih (by rw[hb.1 rfl])
   |false=>
    have:la≠lb:=hne (λe=>by cases hb.2 e);simp[ym,this]
 refine qdE _ _ ?_
 by_cases hl:la.length=lb.length
 ·simp[hl];exact loop hl la.length 0 (by omega) (by simp)
 ·have:la≠lb:=λe=>hl (by rw[e])
  have hl':¬((la.length:Int)=lb.length):=by omega
  simp[bneD,hl',ym,this]
theorem qpE(a:Tm):a.Ok->∀b:Tm,Gets (EVs (EV cfg) 11 [a.av,b.av]) (qcQ (a=b)):=by
 induction a using Tm.ind with
 |_ k n s l ih=>
  intro hok b;obtain⟨k',n',s',l'⟩:=b;have hl:=qpG l l' hok.len (λa ha b=>ih a ha (hok.sub ha) b);rw[Tm.av_mk,Tm.av_mk];refine qed _ _ _ _ _ _ _ _ ?_
  by_cases h1:k=k'
  ·by_cases h2:n=n'
   ·by_cases h3:s=s'
    ·subst h1 h2 h3;simp;refine Gets.bind hl ?_;rintro _ ⟨b,rfl,hb⟩;simp[ym,hb]
    ·simp[h1,h2,beqD,h3,ym]
   ·simp[h1,beqD,h2,ym]
  ·simp[beqD,h1,ym]
theorem qpH{la:List Tm}(h:OkL la)(hlen:la.length<1099511627776)(lb:List Tm):Gets (EVs (EV cfg) 36 [.sl (qa la),.sl (qa lb)]) (qcQ (la=lb)):=qpG la lb hlen (λa ha b=>qpE a (h.get ha) b)
theorem qnR{a b:Tm}(h:a.Ok){c:Bool}(hc:c=true↔a=b):EVs (EV cfg) 11 [a.av,b.av]=some (.bool c):=by
 obtain⟨_,h1,b',rfl,h2⟩:=qpE a h b;rw[h1];have:b'=c:=by rw[Bool.eq_iff_iff];exact h2.trans hc.symm
 rw[this]
end Go.Proofs.YtgleolmhpmljhaaGreat
end
noncomputable section
namespace Go.Av
theorem qFm{t:Tm}(h:t.w<=1048576):t.Ok:=x8 t (by omega)
end Go.Av
end
noncomputable section
namespace Go.Proofs.YtgleolmhpmljhaaGreat
open Go.Av
theorem qyI{α:Type}(r:List (List AV))(x:Bool)(K:List (List AV)->Bool->Option α):(kTup (.tup [.sl r,.bool x]) λcs=>ql cs λc cs=>kSl c λrows=>ql cs λc cs=>qt c λn=>kNil cs (K rows n))=K r x:=rfl
theorem qej{t:Tm}(hc:t.chk=0):EVf (EV cfg) 101 [t.av]=some (lsR (qG t)):=by
 have loop:∀(n:Nat) (t:Tm) (acc:List Tm),t.w<=n->t.chk=0->acc.length+n<1099511627776->Gets (qik acc.length t.kind t.num t.str (qa t.subs) (qa acc)) (·=lsR (acc++(qG t).1,(qG t).2)):=by
  intro n
  induction n with
  |zero=>intro t acc h;have:=xW t;omega
  |succ n ih=>
   intro t acc hw hc hn;refine qo6 _ _ _ _ _ _ ?_;rw[beqI,beqI];have e1:qFR (0+acc.length) (qa acc).length=true:=by rw[qGj,qb];omega
   have e2:qFN acc.length (qa acc)=qa acc:=qFP (by simp)
   by_cases h9:t.kind=9
   ·obtain⟨x,y,hs⟩:=qbU hc h9;have hwe:=t.w_eq;rw[hs]at hwe;simp only[vC,xO]at hwe;have h:=ih y (acc++[x]) (by omega) (xi hc (by rw[hs];simp)) (by simp;omega);rw[qGo h9,cond_true,hs,lt0T,qmc,lt1T,qmb,e1,e2,xg (by omega)];simp only[cond_true,qF7,qd,qf,qF3,qi,qh,xE];have e5:qF2 (qa acc) [[AV.int .i64 x.kind,.int .i64 x.num,.str x.str,.sl (qa x.subs)]]=qa (acc++[x]):=by
     rw[qW,qF,qO,Tm.cells_eq];rfl
    rw[e5,yo h9 hs];rw[qFU]at h;refine Gets.mono h ?_;rintro _ rfl;simp[lsR]
   ·rw[qGp h9,cond_false,e1,e2,zG h9];exact⟨_,rfl,by simp[lsR]⟩
 have hw:=xX hc;have h:=loop t.w t [] (qFH _) hc (by simp;omega);apply Gets.get;rw[Tm.av,Tm.cells_eq];refine qpR _ _ _ _ ?_;rw[qO]at h
 simpa using h
theorem qtX{t:Tm}(h:t.w<1099511627776):EVs (EV cfg) 130 [t.av]=some (.bool (qb4 t)):=by
 have hv:=qhq h;have ha:=qv9 h;apply Gets.get;rw[Tm.av,Tm.cells_eq]at hv ha⊢;refine qrO _ _ _ _ ?_;rw[hv,ha];unfold qb4 varR;simp only[beqI,qd,qp,kTup,ql,qe,kNil];cases(varT t).isSome<;>cases decide (t.kind=7)<;>cases anyT t<;>exact⟨_,rfl,rfl⟩
theorem qjV{V:List Int}(hV:V.length<1099511627776){l:List Tm}(hlen:l.length<1099511627776)(hw:∀x∈l,x.w<1099511627776):EVs (EV cfg) 132 [.sl (qa l),.sl (qC V)]=some (.bool (okV V l)):=by
 have loop:∀d i:Nat,i+d=l.length->Gets (qij (qa l) (qC V) i) (·= .bool (okV V (l.drop i))):=by
  intro d
  induction d with
  |zero=>
   intro i hi;refine qgs _ _ _ ?_;unfold rs4;rw[qb,qGp (by omega),qFV (by omega)];exact⟨_,rfl,rfl⟩
  |succ d ih=>
   intro i hi;have hil:i<l.length:=by omega
   have hx:l[i]? =some l[i]:=qFE hil;have hd:l.drop i=l[i]::l.drop (i+1):=qFS hil;have hc:=qrQ hV (hw _ (qFK hx));have h1:=ih (i+1) (by omega);refine qgs _ _ _ ?_;unfold rs4;rw[qb,qGo (show(i:Int)<(l.length:Int) by omega),qv,qD,qGo hil,qY hx,qN hil hlen,hd,qky]
   simp only[cond_true,qF7,qf,qF3,qi,qh,show qFR 4 4=true from rfl,qB,hc,qd,qe,bneD]
   by_cases h0:zs V l[i]=0
   ·rw[qGo h0];exact h1
   ·rw[qGp h0];exact⟨_,rfl,rfl⟩
 apply Gets.get;exact qpS _ _ (by simpa using loop l.length 0 (by omega))
theorem qpT{t:Tm}(hc:t.chk=0):EVf (EV cfg) 102 [t.av]=some (clR (xu t)):=by
 have hw:=xX hc;have hwe:=t.w_eq;have hz:AV.tup [.agg [AV.int .i64 (0:Int),.int .i64 (0:Int),.str [],.sl [],.sl [],.sl []],.bool false]=clR none:=rfl;apply Gets.get;rw[Tm.av,Tm.cells_eq];refine qoC _ _ _ _ ?_;unfold zG0;rw[bneD,bneD,hz,qb]
 by_cases h7:t.kind=7
 ·rw[qGo h7]
  by_cases h3:t.subs.length=3
  ·obtain⟨h,g,b,hs⟩:∃h g b,t.subs=[h,g,b]:=by
    cases hs:t.subs with
    |nil=>rw[hs]at h3;simp at h3
    |cons a l=>cases l with
     |nil=>rw[hs]at h3;simp at h3
     |cons b l=>cases l with
      |nil=>rw[hs]at h3;simp at h3
      |cons d l=>cases l with
       |nil=>exact⟨a,b,d,rfl⟩
       |cons e l=>rw[hs]at h3;simp at h3
   have ch:h.chk=0:=xi hc (by rw[hs];simp);have cg:g.chk=0:=xi hc (by rw[hs];simp);have cb:b.chk=0:=xi hc (by rw[hs];simp);rw[hs]at hwe;simp only[vC,xO]at hwe;have lg:=zF cg;have lb:=zF cb;have hh:=qtX (t:=h) (by omega);have hv:=qt2 (t:=h) (by omega);have e1:=qej cg;have e2:=qej cb;have x1:=qjV (V:=yJ h) (l:=(qG g).1) (by have:=qg9 h;omega) (by omega) (λx hx=>by have:=xF hx;omega)
   have x2:=qjV (V:=yJ h) (l:=(qG b).1) (by have:=qg9 h;omega) (by omega) (λx hx=>by have:=xF hx;omega);have gh:xu t=if qb4 h&&((qG g).2&&((qG b).2&& !(qG b).1.isEmpty))&&(okV (yJ h) (qG g).1&&okV (yJ h) (qG b).1)then some ⟨h,(qG g).1,(qG b).1⟩else none:=by
    unfold xu;rw[qGq h7,hs];rfl
   rw[qGo (show(t.subs.length:Int)=3 by omega),hs,qF,qF,qF,qO,gh];have g0:qFG [h.cells,g.cells,b.cells] 0=some h.cells:=rfl;have g1:qFG [h.cells,g.cells,b.cells] 1=some g.cells:=rfl;have g2:qFG [h.cells,g.cells,b.cells] 2=some b.cells:=rfl;have l0:qA 0 (([h,g,b].length:Nat):Int)=true:=rfl;have l1:qA 1 (([h,g,b].length:Nat):Int)=true:=rfl
   have l2:qA 2 (([h,g,b].length:Nat):Int)=true:=rfl;rw[g0,g1,g2];simp only[l0,l1,l2,qFW,cond_false,cond_true,qF7,qd,qf,qF3,qi,qh,xE,qB,hh,qp];cases qb4 h with
   |false=>exact⟨_,rfl,rfl⟩
   |true=>
    simp only[qFW,cond_false,qGm,hv,e1,e2,lsR,qd,kTup,ql,q5,qp,kNil,qb,beqI];cases(qG g).2 with
    |false=>exact⟨_,rfl,rfl⟩
    |true=>
     cases(qG b).2 with
     |false=>exact⟨_,rfl,rfl⟩
     |true=>
      simp only[qFW,cond_false,qGm];cases hb:(qG b).1 with
      |nil=>exact⟨_,rfl,rfl⟩
      |cons x l=>
       rw[hb]at x2;rw[qGp (show ¬(((x::l).length:Nat):Int)=0 by simp;omega)];simp only[cond_false,x1,x2,qd,qp];cases okV (yJ h) (qG g).1 with
       |false=>exact⟨_,rfl,rfl⟩
       |true=>
        cases okV (yJ h) (x::l)with
        |false=>exact⟨_,rfl,rfl⟩
        |true=>exact⟨_,rfl,rfl⟩
  ·have:xu t=none:=by
    unfold xu;rw[qGq h7];cases hs:t.subs with
    |nil=>rfl
    |cons a l=>cases l with
     |nil=>rfl
     |cons b l=>cases l with
      |nil=>rfl
      |cons d l=>cases l with
       |nil=>rw[hs]at h3;simp at h3
       |cons e l=>rfl
   rw[qGp (show ¬(t.subs.length:Int)=3 by omega),this];exact⟨_,rfl,rfl⟩
 ·have:xu t=none:=by unfold xu;rw[qGr h7]
  rw[qGp h7,this];exact⟨_,rfl,rfl⟩
end Go.Proofs.YtgleolmhpmljhaaGreat
end
noncomputable section
namespace Go.Av
theorem qoj(t:Tm)(hc:t.chk=0):clsG t=match seqC (qG t).1 with
  |some l=>if(qG t).2&& !l.isEmpty then(l,0)else([],10)
  |none=>([],10):=by
 unfold clsG;rw[qGq hc];try rfl
theorem quL{t:Tm}(hc:t.chk=0):(qG t).1.length<=4259840:=by
 have:=zF hc;have:=xX hc;omega
theorem kClR{α:Type}(o:Option Cl)(K:Int->Int->List UInt8->List (List AV)->List (List AV)->List (List AV)->Bool->Option α):(kTup (clR o) λcs=>ql cs λc cs=>kAgg c λcs_1=>ql cs_1 λc cs_2=>kInt .i64 c λn=>ql cs_2 λc cs_3=>kInt .i64 c λn_2=>ql cs_3 λc cs_4=>kStr c λs=>ql cs_4 λc cs_5=>kSl c λrows_2=>ql cs_5 λc cs_6=>kSl c λrows_3=>ql cs_6 λc cs_7=>kSl c λrows_4=>kNil cs_7 (ql cs λc cs=>qt c λb=>kNil cs (K n n_2 s rows_2 rows_3 rows_4 b))) =
  K (o.getD qfb).head.kind (o.getD qfb).head.num (o.getD qfb).head.str (qa (o.getD qfb).head.subs) (qa (o.getD qfb).gs) (qa (o.getD qfb).bs) o.isSome:=by
 cases o<;>rfl
end Go.Av
namespace Go.Proofs.YtgleolmhpmljhaaGreat
open Go.Av
def clsB(r:List Cl×Int):OV×AV:=(.own 6 (qP r.1) 0 r.1.length,.bool (decide (r.2=0)))
theorem qeT{t:Tm}(hc:t.chk=0):EVq (EV cfg) 68 [t.av]=some (clsB (clsG t)):=by
 have hi:=qej hc;have hw:=xX hc;have hlen:=quL hc;have hic:=qcO hc;have hlw:=zF hc;rw[qoj t hc];have loop:∀(l:List Tm),(∀x∈l,x.chk=0)->l.length<=4259840->∀(d i:Nat) (acc:List Cl),i+d=l.length->acc.length=i->Gets (qim (qa l) i i (qP acc)) (·=match seqC (l.drop i)with|some cs=>(OV.own 6 (qP (acc++cs)) 0 (acc++cs).length,AV.bool true)|none=>(OV.own 6 [] 0 0,AV.bool false)):=by
  intro l hl hln d
  induction d with
  |zero=>
   intro i acc hd ha;refine qgu _ _ _ _ ?_;unfold rs4;rw[qb,qGp (by omega),qFV (by omega)];refine⟨_,rfl,?_⟩;show _=(OV.own 6 (qP (acc++[])) 0 (acc++[]).length,AV.bool true);rw[qGh,ha]
  |succ d ih=>
   intro i acc hd ha;have hil:i<l.length:=by omega
   have hx:l[i]? =some l[i]:=qFE hil;have hdr:l.drop i=l[i]::l.drop (i+1):=qFS hil;have hcl:=qpT (hl _ (qFK hx));refine qgu _ _ _ _ ?_;unfold rs4;rw[qb,qGo (show(i:Int)<(l.length:Int) by omega),qv,qD,qGo hil,qY hx,qN hil (by omega),hdr,seqC];simp only[cond_true,qF7,qf,qF3,qi,qh,show qFR 4 4=true from rfl,qB,hcl,qd]
   rw[kClR];cases hg:xu l[i]with
   |none=>exact⟨_,rfl,rfl⟩
   |some c=>
    have e1:qFR (0+i) (qP acc).length=true:=by rw[qGj,xH];omega
    have e2:qF2 (qFN i (qP acc)) [c.cells]=qP (acc++[c]):=by
     rw[qFP (by rw[xH];omega),qdd,qvX];rfl
    have h2:=ih (i+1) (acc++[c]) (by omega) (by rw[qFU,ha];rfl);simp only[Option.isSome_some,qFW,cond_false,e1,qnt (show i+1<=1099511627776 by omega),qF7,cond_true,Option.getD_some];have e3:[AV.int .i64 c.head.kind,.int .i64 c.head.num,.str c.head.str,.sl (qa c.head.subs),.sl (qa c.gs),.sl (qa c.bs)]=c.cells:=rfl;rw[e3,e2];refine Gets.mono h2 ?_;rintro _ rfl
    cases seqC (l.drop (i+1))with
    |none=>rfl
    |some cs=>
     simp only[qGa,qGc,qGl,List.singleton_append]
 apply Gets.get;rw[Tm.av,Tm.cells_eq]at hi⊢;refine qlw _ _ _ _ ?_;rw[hi];simp only[lsR,qd];rw[qyI];cases(qG t).2 with
 |false=>
  refine⟨_,rfl,?_⟩;cases seqC (qG t).1<;>rfl
 |true=>
  rw[qFW,cond_false,qb,beqI];cases hl:(qG t).1 with
  |nil=>exact⟨_,rfl,rfl⟩
  |cons x l=>
   rw[qGp (show ¬(((x::l).length:Nat):Int)=0 by simp;omega),cond_false];have h:=loop (x::l) (by rw[←hl];exact hic) (by rw[←hl];exact hlen) (x::l).length 0 [] (by omega) rfl;refine Gets.mono h ?_;rintro _ rfl;rw[List.drop_zero];cases hs:seqC (x::l)with
   |none=>rfl
   |some cs=>
    have:cs.isEmpty=false:=by
     have:=qkp hs;cases cs with
     |nil=>simp at this
     |cons=>rfl
    simp only[this,List.nil_append,qGm,qF4,if_true];rfl
theorem qqX{t:Tm}(hc:t.chk≠0):clsG t=([],2):=by unfold clsG;rw[qGr hc]
theorem qy5(t:Tm)(hc:t.chk=0):(clsG t).2=if(clsG t).2=0 then 0 else 10:=by
 rw[qoj t hc];cases seqC (qG t).1 with
 |none=>rfl
 |some l=>simp only[];split<;>rfl
theorem qrP{t:Tm}(h:t.w<1099511627776):EVs (EV cfg) 67 [t.av]=some (.int .i64 (clsG t).2):=by
 have hm:=zX h
 by_cases hc:t.chk=0
 ·have hk:=qeT hc;have he:=qy5 t hc;apply Gets.get;rw[Tm.av,Tm.cells_eq]at hm hk⊢;refine qhp _ _ _ _ ?_;rw[hm,hk,hc];simp only[qd,qe,bneD,decide_true,qFW,cond_false,clsB,qp]
  by_cases h0:(clsG t).2=0
  ·rw[h0];exact⟨_,rfl,rfl⟩
  ·rw[qGr h0]at he;rw[qGp h0,he];exact⟨_,rfl,rfl⟩
 ·apply Gets.get;rw[Tm.av,Tm.cells_eq]at hm⊢;refine qhp _ _ _ _ ?_;rw[hm,qqX hc];simp only[qd,qe,bneD,qGp hc];exact⟨_,rfl,rfl⟩
theorem qho{l:List Tm}(hlen:l.length<1099511627775)(hw:∀x∈l,x.w<1099511627776):EVf (EV cfg) 70 [.sl (qa l)]=some (.sl (qa l)):=by
 have loop:∀d i:Nat,i+d=l.length->Gets (qil (qa l) i i (qa (l.take i))) (·= .sl (qa l)):=by
  intro d
  induction d with
  |zero=>
   intro i hi;obtain rfl:i=l.length:=by omega
   refine qgt _ _ _ _ ?_;unfold rs4;have hb:qFR (0+l.length) (qa l).length=true:=by rw[qGj,qb];omega
   have ht:qFN l.length (qa l)=qa l:=qFP (by rw[qb];exact qFH _);rw[List.take_length,hb,ht,qb,qGp (by omega)];exact⟨_,rfl,rfl⟩
  |succ d ih=>
   intro i hi;have hil:i<l.length:=by omega
   have hx:l[i]? =some l[i]:=qFE hil;have hcp:=qlA l[i] (hw _ (qFK hx));have h1:=ih (i+1) (by omega);have e1:l.take (i+1)=l.take i++[l[i]]:=by rw[qGk,hx];rfl
   rw[e1,qW,qF,qO]at h1;have hl:(qa (l.take i)).length=i:=by rw[qb,qF9];omega
   have hb:qFR (0+i) (qa (l.take i)).length=true:=by rw[qGj,hl];omega
   have ht:qFN i (qa (l.take i))=qa (l.take i):=qFP (by omega);refine qgt _ _ _ _ ?_;unfold rs4;rw[qb,qGo (show(i:Int)<(l.length:Int) by omega),qv,qD,qGo hil,qY hx,qN hil (by omega),hb,ht,xg (by omega)];simp only[cond_true,qF7,qf,qF3,qi,qh,show qFR 4 4=true from rfl,qB,hcp,qd,yj]
   rw[←Tm.cells_eq];exact h1
 apply Gets.get;refine qoA _ ?_;have:=loop l.length 0 (by omega);rw[List.take_zero,qO]at this;exact this
theorem qxb{t:Tm}(h:(clsG t).2≠0):(clsG t).1=[]:=by
 revert h
 unfold clsG
 by_cases hc:t.chk=0
 ·rw[qGq hc];cases seqC (qG t).1 with
  |none=>intro _;rfl
  |some l=>
   simp only[];split
   ·intro h;exact absurd rfl h
   ·intro _;rfl
 ·rw[qGr hc];intro _;rfl
theorem qoB{t:Tm}(h:t.w<1099511627776):EVf (EV cfg) 32 [t.av]=some (.tup [.sl (qP (clsG t).1),.int .i64 (clsG t).2]):=by
 have hm:=qrP h;obtain⟨ho,hn⟩:=qbV t
 by_cases h0:(clsG t).2=0
 ·have hc:t.chk=0:=by
   apply Classical.byContradiction;intro hc;rw[qqX hc]at h0;simp at h0
  have hk:=qeT hc;apply Gets.get;rw[Tm.av,Tm.cells_eq]at hm hk⊢;refine qeS _ _ _ _ ?_;rw[hm,hk];simp only[qd,qe,bneD,clsB,qp];rw[h0];simp only[decide_true,qFW,cond_false,qkE];generalize (clsG t).1=l at *;have loop:∀d i:Nat,i+d=l.length->Gets (qfd 6 0 l.length i (qP l)) (·= .tup [.sl (qP l),.int .i64 0]):=by
   intro d
   induction d with
   |zero=>
    intro i hi;obtain rfl:i=l.length:=by omega
    refine qfY _ _ _ _ _ ?_;have hb:qFR (0+l.length) (qP l).length=true:=by rw[qGj,xH];omega
    have ht:qFN l.length (qGb 0 (qP l))=qP l:=qFP (by rw[List.drop_zero,xH];exact qFH _);rw[qGp (by omega),hb,ht];exact⟨_,rfl,rfl⟩
   |succ d ih=>
    intro i hi;have hil:i<l.length:=by omega
    have hx:l[i]? =some l[i]:=qFE hil;obtain⟨c1,c2,c3,c4,c5⟩:=ho _ (qFK hx);have k1:=qlA l[i].head (by have:=xX c1;omega);have k2:=qho (l:=l[i].gs) (by omega) (λx hx=>by have:=xX (c2 x hx);omega);have k3:=qho (l:=l[i].bs) (by omega) (λx hx=>by have:=xX (c3 x hx);omega);have gx:qFG (qP l) (0+qFQ (i:Int))=some l[i].cells:=by
     rw[qGi,qu,qFT,qdM,hx];rfl
    have gs:List.set (qP l) (0+qFQ (i:Int)) l[i].cells=qP l:=by
     rw[qGi,qFT,qnY,List.set_getElem_self]
    have h1:=ih (i+1) (by omega);refine qfY _ _ _ _ _ ?_;rw[qGo (show(i:Int)<(l.length:Int) by omega),qv,qD,qGo hil,gx,qN hil (show l.length<1099511627776 by omega)];have b6:qFR 6 l[i].cells.length=true:=rfl;have b4:qFR 4 l[i].cells.length=true:=rfl;have l6:qFY l[i].cells.length 6=true:=rfl;have t6:qFN 6 l[i].cells=l[i].cells:=rfl
    have t4:qFN 4 l[i].cells=l[i].head.cells:=by rw[Tm.cells_eq];rfl
    have d6:qGb 6 l[i].cells=[]:=rfl;have g4:qFG l[i].cells 4=some (.sl (qa l[i].gs)):=rfl;have g5:qFG l[i].cells 5=some (.sl (qa l[i].bs)):=rfl;simp only[show qFY 6 6=true from rfl,cond_true,qF7,qd,b6,b4,l6,t6,t4,d6,g4,g5,qh,qB,k1,k2,k3,yj,q5,gx];unfold Cl.cells at gs;simp only[gs];exact h1
  exact loop l.length 0 (by omega)
 ·apply Gets.get;rw[Tm.av,Tm.cells_eq]at hm⊢;refine qeS _ _ _ _ ?_;rw[hm,qxb h0];simp only[qd,qe,bneD];rw[qGp h0];exact⟨_,rfl,rfl⟩
end Go.Proofs.YtgleolmhpmljhaaGreat
end
noncomputable section
namespace Go.Av
def Meet.keyO:Meet->Option Tm
 | .key k=>some k
 |_=>Option.none
def Meet.rngO:Meet->Option Rg
 | .rng r=>some r
 |_=>Option.none
def Meet.isAll:Meet->Bool
 | .all=>true
 |_=>false
def xn(p:Nat)(cs:List Cl):List Tm:=cs.filterMap λc=>(vV c.head p).keyO
def qX(p:Nat)(cs:List Cl):List Rg:=cs.filterMap λc=>(vV c.head p).rngO
def yr(p:Nat)(cs:List Cl):Bnd:=
 if cs.any λc=>(vV c.head p).isAll then⟨true,[],[]⟩else⟨false,xN (vW (q7 (qX p cs) (qX p cs).length)) (xn p cs),q7 (qX p cs) (qX p cs).length⟩
def xo(t:Tm)(pos:Int):Bnd×Int:=
 if(clsG t).2≠0 then(⟨false,[],[]⟩,(clsG t).2)else if pos<1∨pos>64 then(⟨false,[],[]⟩,2)else(yr pos.toNat (clsG t).1,0)
theorem qyC{h:Tm}{p:Nat}(hc:h.chk=0){k:Tm}(e:(vV h p).keyO=some k):k.chk=0:=by
 unfold vV at e;split at e
 ·cases e
 ·split at e
  ·cases e
  ·rename_i q hq;split at e
   ·cases e;exact xi hc (qFK hq)
   ·split at e<;>cases e
theorem qyB{h:Tm}{p:Nat}(hc:h.chk=0){r:Rg}(e:(vV h p).rngO=some r):RgW r∧allK r.fst=true:=by
 unfold vV at e;split at e
 ·cases e
 ·split at e
  ·cases e
  ·rename_i q hq;split at e
   ·cases e
   ·split at e
    ·cases e;have hqc:=xi hc (qFK hq);have hqw:=xX hqc;have hqe:=q.w_eq;have hql:=xK q.subs;have hsub:∀x∈q.subs.takeWhile bndG,x∈q.subs:=λx hx=>(List.takeWhile_sublist _).subset hx
     have hlen:(q.subs.takeWhile bndG).length<=q.subs.length:=(List.takeWhile_sublist _).length_le;exact⟨⟨by show(q.subs.takeWhile bndG).length<_;omega,λx hx=>by have:=xF (hsub x hx);omega⟩,qkO.2 λx hx=>xi hqc (hsub x hx)⟩
    ·cases e
theorem qfB{p:Nat}{cs:List Cl}(h:∀c∈cs,ClOk c):∀k∈xn p cs,k.chk=0:=λk hk=>by
 obtain⟨c,hc,e⟩:=List.mem_filterMap.1 hk;exact qyC (h c hc).1 e
theorem qhl{p:Nat}{cs:List Cl}(h:∀c∈cs,ClOk c):∀r∈qX p cs,RgW r∧allK r.fst=true:=λk hk=>by
 obtain⟨c,hc,e⟩:=List.mem_filterMap.1 hk;exact qyB (h c hc).1 e
theorem qj7(p:Nat)(cs:List Cl)(c:Cl):xn p (cs++[c])=xn p cs++(vV c.head p).keyO.toList:=by
 unfold xn;rw[List.filterMap_append];cases h:(vV c.head p).keyO<;>simp[h]
theorem qjQ(p:Nat)(cs:List Cl)(c:Cl):qX p (cs++[c])=qX p cs++(vV c.head p).rngO.toList:=by
 unfold qX;rw[List.filterMap_append];cases h:(vV c.head p).rngO<;>simp[h]
theorem qbl(p:Nat)(cs:List Cl):(xn p cs).length<=cs.length:=List.length_filterMap_le _ _
theorem qbg(p:Nat)(cs:List Cl):(qX p cs).length<=cs.length:=List.length_filterMap_le _ _
end Go.Av
namespace Go.Proofs.YtgleolmhpmljhaaGreat
open Go.Av
theorem qya{cs:List Cl}(hcs:∀c∈cs,ClOk c)(hlen:cs.length<=8388608){p:Nat}(hp1:1<=p)(hp:p<=64):∀(d i:Nat),i+d=cs.length->(∀c∈cs.take i,(vV c.head p).isAll=false) ->
  Gets (qc6 (p:Int) (qP cs) (xn p (cs.take i)).length (qX p (cs.take i)).length (i:Int) false [] [] (qa (xn p (cs.take i))) (qn (qX p (cs.take i)))) (·= .tup [(yr p cs).av,.int .i64 0]):=by
 intro d
 induction d with
 |zero=>
  intro i hi hna;obtain rfl:i=cs.length:=by omega
  rw[List.take_length]at hna⊢;have hkl:=qbl p cs;have hrl:=qbg p cs;have hrg:=qhl (p:=p) hcs;have hks:=qfB (p:=p) hcs;have hD:=qb0 (qX p cs) (qX p cs).length;have hw:AllW (qX p cs):=λr hr=>(hrg r hr).1
  have h1:=qtT (l:=qX p cs) (by omega) hw;have h2:=qyd (l:=xn p cs) (by omega) (λx hx=>by have:=xX (hks x hx);omega) (rs:=q7 (qX p cs) (qX p cs).length) (by omega) (λr hr=>hw r (zW _ _ r hr));refine qjC _ _ _ _ _ _ _ _ _ _ ?_;rw[xH,qGp (by omega),cond_false,qU,nble,qGo (show 0+(qX p cs).length<=(qX p cs).length by omega),qFP (show(qn (qX p cs)).length<=(qX p cs).length by rw[qU];exact qFH _)]
  simp -implicitDefEqProofs only[qF7,cond_true,h1,qd,q5];rw[qb,nble,qGo (show 0+(xn p cs).length<=(xn p cs).length by omega),qFP (show(qa (xn p cs)).length<=(xn p cs).length by rw[qb];exact qFH _)];simp -implicitDefEqProofs only[qF7,cond_true,h2,qd,q5];refine⟨_,rfl,?_⟩;unfold yr;rw[qGr (by rw[Bool.not_eq_true,List.any_eq_false];intro c hc;rw[hna c hc];decide)]
  rfl
 |succ d ih=>
  intro i hi hna;have hil:i<cs.length:=by omega
  have hx:cs[i]? =some cs[i]:=qFE hil;have hm:=qFK hx;have hok:=hcs _ hm;have htk:cs.take (i+1)=cs.take i++[cs[i]]:=by rw[qGk,hx];rfl
  have hkl:=qbl p (cs.take i);have hrl:=qbg p (cs.take i);have htl:(cs.take i).length=i:=by rw[qF9];omega
  have gx:qFG (qP cs) (qFQ (i:Int))=some cs[i].cells:=by
   rw[qu,qFT,qdM,hx];rfl
  have ih:=ih (i+1) (by omega);rw[htk,qj7,qjQ]at ih;have hall:(vV cs[i].head p).isAll=true->(yr p cs)=⟨true,[],[]⟩:=λh=>by
   unfold yr;rw[qGq (List.any_eq_true.2 ⟨_,hm,h⟩)]
  have hmt:=qyc (h:=cs[i].head) (by have:=xX hok.1;omega) hp1 hp;refine qjC _ _ _ _ _ _ _ _ _ _ ?_;rw[xH,qGo (show(i:Int)<(cs.length:Int) by omega),qv,qD,qGo hil,gx,wr1 (show i<4398046511104 by omega)];have c4:qFN 4 cs[i].cells=cs[i].head.cells:=by rw[Tm.cells_eq];rfl
  simp -implicitDefEqProofs only[cond_true,qF7,qd,show qFY (qFI cs[i].cells) 6=true from rfl,show qFR 4 (qFI cs[i].cells)=true from rfl,c4,qh,qB,hmt];have ih:(vV cs[i].head p).isAll=false->_:=λh=>ih λc hc=>by
   rcases qF8.1 hc with h1|h1
   ·exact hna c h1
   ·rw[List.mem_singleton]at h1;subst h1;exact h
  revert ih hall
  generalize vV cs[i].head p=m;intro hall ih;generalize xn p (cs.take i)=ks at *;generalize qX p (cs.take i)=rs at *;cases m with
  |all=>
   refine⟨_,rfl,?_⟩;rw[hall rfl];rfl
  |none=>
   have ih:=ih rfl;simp only[Meet.keyO,Meet.rngO,Option.toList_none,qGh]at ih;exact ih
  |key k=>
   have ih:=ih rfl;have e:qF2 (qFN ks.length (qa ks)) [[AV.int .i64 k.kind,.int .i64 k.num,.str k.str,.sl (qa k.subs)]]=qa (ks++[k]):=by
    rw[qFP (by rw[qb];exact qFH _),qW,qF,qO,Tm.cells_eq];rfl
   simp only[Meet.keyO,Meet.rngO,Option.toList_none,Option.toList_some,qGh]at ih;rw[qFU]at ih;unfold qlM;simp -implicitDefEqProofs only[qqq,qT,qp,qe,qaY,q5,q9,cond_true,cond_false];rw[qb,nble,qGo (show 0+ks.length<=ks.length by omega),xg (by omega),e];exact ih
  |rng r=>
   have ih:=ih rfl;have e:qF2 (qFN rs.length (qn rs)) [[AV.int .i64 r.ar,.sl (qa r.fst)]]=qn (rs++[r]):=by
    rw[qFP (by rw[qU];exact qFH _)];unfold qn;rw[List.map_append];rfl
   simp only[Meet.keyO,Meet.rngO,Option.toList_none,Option.toList_some,qGh]at ih;rw[qFU]at ih;unfold qlM;simp -implicitDefEqProofs only[qqq,qT,qp,qe,qaY,q5,q9,cond_true,cond_false];rw[qU,nble,qGo (show 0+rs.length<=rs.length by omega),qaG (by omega),e];exact ih
theorem qDp{t:Tm}(hw:t.w<1099511627776)(pos:Int):EVf (EV cfg) 8 [t.av,.int .i64 pos]=some (.tup [(xo t pos).1.av,.int .i64 (xo t pos).2]):=by
 have hc:=qoB hw;obtain⟨h1,h2⟩:=qbV t;apply Gets.get;rw[Tm.av,Tm.cells_eq]at hc⊢;refine qAC _ _ _ _ _ ?_;rw[hc];simp only[qd,yX,qT,q5,qe,q9];unfold xo;rw[bneD]
 by_cases h0:(clsG t).2=0
 ·rw[qGo h0,qGr (λh=>h h0)]
  by_cases hp:pos<1
  ·rw[qGo hp,qGq (.inl hp)];exact⟨_,rfl,rfl⟩
  by_cases hp2:pos>64
  ·rw[qGp hp,qGo hp2,qGq (.inr hp2)];exact⟨_,rfl,rfl⟩
  rw[qGp hp,qGp hp2,qGr (λh=>h.elim hp hp2)];obtain⟨p,rfl⟩:∃p:Nat,pos=p:=⟨pos.toNat,by omega⟩;have:=qya h1 h2 (p:=p) (by omega) (by omega) (clsG t).1.length 0 (by omega) (λc hc=>by simp at hc);rw[List.take_zero]at this;rw[qFT];exact this
 ·rw[qGp h0,qGq h0];exact⟨_,rfl,rfl⟩
end Go.Proofs.YtgleolmhpmljhaaGreat
end
noncomputable section
namespace Go.Av
theorem qFp(l:List Cl):neR (qP l)=true:=by cases l<;>rfl
theorem qAQ(l:List Cl)(e:Int):(AV.tup [.sl (qP l),.int .i64 e]).neT=true:=by
 show([AV.sl (qP l),.int .i64 e]).all AV.neT1=true;simp[AV.neT1,AV.neT0,qFp]
end Go.Av
namespace Go.Proofs.YtgleolmhpmljhaaGreat.L
open Go.Av
theorem qA3{t:Tm}(hw:t.w<1099511627776):EVf (EV cfg) 17 [avL t]=some (.tup [.sl (qP (clsG t).1),.int .i64 (clsG t).2]):=by
 have hn:=N.qox hw;obtain⟨k,n,s,l⟩:=t;have e:EV cfg (.f 17) [avL (.mk k n s l)] []=some (.tup [.sl (qP (clsG (.mk k n s l)).1),.int .i64 (clsG (.mk k n s l)).2],[]):=by
  refine qcS ?_;unfold vR;have hx:cfg.ext 17=some (extL 17):=rfl;simp only[hx];rw[qe4];rw[Tm.av_mk]at hn;show extL _ [.agg [.int .i64 k,.int .i64 n,.str s,.lsl (qa l)]] []=_;refine(qGq ⟨_,Tm.av_mk k n s l⟩).trans ?_;rw[hn];exact qGq (qAQ _ _)
 unfold EVf;rw[e];rfl
def ofV(ks:List Tm)(rs:List Rg):AV:=.tup [.agg [.bool false,.sl (qa (xN (vW rs) ks)),.sl (qn rs)],.int .i64 0]
theorem qwr{n:Nat}(hn:n<16777216){X:List (List AV)}{fs:List Tm}(hl:fs.length=n)(hk:∀k∈fs,k.chk=0){ks:List Tm}(hks:∀k∈ks,k.chk=0){rs:List Rg}(hf:∀k,k∈fs↔k∈ks∧vW rs k=true):
  Gets (kOpt (EVm (EV cfg) 28 [.ms 0 0 n,.fn (Fn.func 29) [] []] 4 (qE X fs)) fun(q:MV×List (List AV))=>q6 q.1 (kOpt (EVm (EV cfg) 30 [.ms 0 0 n,.fn (Fn.func 31) [] []] 4 q.2) fun(q:MV×List (List AV))=>kMSl q.1 (some (AV.tup [.agg [.bool false,.sl [],.sl (qn rs)],.int .i64 (0:Int)])) fun(off len:Nat)=>bif qFR (off+len) (qFI q.2)&&true then some (AV.tup [.agg [.bool false,.sl (qFN len (qGb off q.2)),.sl (qn rs)],.int .i64 (0:Int)])else none)) (·=ofV ks rs):=by
 have hw:∀k∈fs,k.w<1099511627776:=λk h=>by have:=xX (hk k h);omega
 have hsort:=qx0 (X:=X) hn hl (λk h=>x8 _ (hw k h));rw[←qu0 _ _ _ rfl rfl]at hsort;refine Gets.bind hsort ?_;rintro _ ⟨l2,h2,hs,rfl⟩;rw[vq];have h2p:=h2.perm;have h2l:=h2.len;have hcomp:=qy2 (X:=X) (l:=l2) (n:=n) (by omega) (by rw[h2l];exact hl) (λk h=>hw k (h2p.mem_iff.1 h));rw[←qu0 _ _ _ rfl rfl]at hcomp;refine Gets.bind hcomp ?_;rintro _ ⟨X',rfl⟩;have hlen:(qE X' (xh l2)).length=(xh l2).length+X'.length:=by unfold qE;rw[qFU,qb]
 have ht:qFN (xh l2).length (qE X' (xh l2))=qa (xh l2):=by unfold qE;exact List.take_left' (qb _)
 rw[qAS,hlen,nble,qGo (show 0+(xh l2).length<=(xh l2).length+X'.length by omega),List.drop_zero,ht];refine⟨_,rfl,?_⟩;have hs:Srt 0 l2.length l2:=by rw[h2l,hl];exact hs
 have e:xh l2=xN (vW rs) ks:=qwG hks (qvb (λx hx=>hk x (h2p.mem_iff.1 hx)) hs) λz=>by
  rw[qqW,h2p.mem_iff];exact hf z
 rw[e];rfl
theorem qDx{n:Nat}(hn:n<16777216){ks:List Tm}(hl:ks.length=n)(hk:∀k∈ks,k.chk=0){rs:List Rg}(hrl:rs.length<1099511627776)(hrw:AllW rs)(q1 q2:Nat)(h3 h4:List (List AV))(c0:Bool)(a1 a2:List (List AV)):
  ∀(d j w:Nat) (m:List Tm),m.length=n->w<j->j<=n->m.take w=(ks.take j).filter (vW rs)->(∀q,j<=q->m[q]? =ks[q]?)->n<=j+d ->
  Gets (qeC n q1 q2 h4 (w:Int) (j:Int) c0 a1 a2 (qa m) (qn rs) h3) (·=ofV ks rs):=by
 have fin:∀(w:Nat) (m:List Tm) (j:Nat),m.length=n->w<=n->m.take w=(ks.take j).filter (vW rs)->n<=j->Gets (qeC n q1 q2 h4 (w:Int) (j:Int) c0 a1 a2 (qa m) (qn rs) h3) (·=ofV ks rs):=by
  intro w m j hm hw ht hj;refine qjy _ _ _ _ _ _ _ _ _ _ _ _ ?_;unfold rd4 ck4 st4;rw[qFP (show ks.length<=j by omega)]at ht;have hlw:(ks.filter (vW rs)).length=w:=by rw[←ht,qF9];omega
  have e:qF2 (qF2 (qFN (0+qFQ (w:Int)) (qa m)) (qGd (n - qFQ (w:Int)) [AV.int .i64 (0:Int),.int .i64 (0:Int),.str [],.nilS])) (qGb (0+qFQ (w:Int)+(n - qFQ (w:Int))) (qa m))=qE (qGd (n - w) [AV.int .i64 (0:Int),.int .i64 (0:Int),.str [],.nilS]++qGb (0+w+(n - w)) (qa m)) (ks.filter (vW rs)):=by
   rw[qFT,qGi,zC,ht];unfold qE;exact qGl _ _ _
  rw[qGp (show ¬(j:Int)<(n:Int) by omega),cond_false,rd1 hw,e,qFT,Nat.sub_zero,qb,hm,nble,qGo (show 0+w+(n - w)<=n by omega)];simp only[cond_true];exact qwr (show w<16777216 by omega) hlw (λk h=>hk k (List.mem_filter.1 h).1) hk λk=>List.mem_filter
 intro d
 induction d with
 |zero=>intro j w m hm hw hj ht hq hd;exact fin w m j hm (by omega) ht (by omega)
 |succ d ih=>
  intro j w m hm hw hj ht hq hd
  by_cases hlt:j<n
  case neg=>exact fin w m j hm (by omega) ht (by omega)
  obtain⟨x,hx⟩:=qM (l:=ks) (i:=j) (by omega);have hmx:m[j]? =some x:=by rw[hq j (qFH _),hx]
  obtain⟨y,hy⟩:=qM (l:=m) (i:=w) (by omega);have hc:=qsY (k:=x) hrl (by have:=xX (hk x (qFK hx));omega);rw[←qb6 _ rfl rfl]at hc;have hft:=qkc (f:=vW rs) hx;refine qjy _ _ _ _ _ _ _ _ _ _ _ _ ?_;unfold rd4 ck4 st4;have r1:qFG (qa m) (0+qFQ (j:Int))=some x.cells:=by rw[qGi,qu,qFT,xy,hmx];rfl
  have r2:qFG (qa m) (0+qFQ (w:Int))=some y.cells:=by rw[qGi,qu,qFT,xy,hy];rfl
  have r3:List.set (qa m) (0+qFQ (w:Int)) [.int .i64 x.kind,.int .i64 x.num,.str x.str,.sl (qa x.subs)]=qa (m.set w x):=by
   rw[qGi,qFT,←Tm.cells_eq,qhk]
  rw[qGo (show(j:Int)<(n:Int) by omega),wr1 (show j<4398046511104 by omega),wr1 (show w<4398046511104 by omega)];simp -implicitDefEqProofs only[cond_true,qd,qf,show qFR 4 4=true from rfl,qi,qh,qL,qB,qp,rdB (show j<n by omega),rdB (show w<n by omega),r1,r2,r3,hc];cases hf:rs.any λr=>vJ r x with
  |true=>
   simp only[qFW,cond_false];have hkf:vW rs x=false:=by unfold vW;rw[hf];rfl
   rw[hkf,qGr (by decide),qGh]at hft;exact ih (j+1) w m hm (by omega) (by omega) (by rw[hft];exact ht) (λq h=>hq q (by omega)) (by omega)
  |false=>
   simp only[qF4,cond_true];have hkf:vW rs x=true:=by unfold vW;rw[hf];rfl
   rw[hkf,qGq rfl]at hft;refine ih (j+1) (w+1) (m.set w x) (by rw[List.length_set];exact hm) (by omega) (by omega) ?_ (λq h=>?_) (by omega)
   ·rw[qnJ (by omega),hft,ht]
   ·rw[List.getElem?_set_ne (by omega)];exact hq q (by omega)
theorem qDw{n:Nat}(hn:n<16777216){ks:List Tm}(hl:ks.length=n)(hk:∀k∈ks,k.chk=0){rs:List Rg}(hrl:rs.length<1099511627776)(hrw:AllW rs)(q1 q2 i:Nat)(hi:q1<=i)(h3:List (List AV))(c0:Bool)(a1 a2:List (List AV)):
  Gets (qcd n q1 rs.length (i:Int) c0 a1 a2 (qa ks) q2 h3 (qn rs)) (·=ofV ks rs):=by
 refine qjA _ _ _ _ _ _ _ _ _ _ _ ?_;unfold rd2;have hw:∀k∈ks,k.w<1099511627776:=λk h=>by have:=xX (hk k h);omega
 obtain⟨j,hj,hcase⟩:=qyQ (l:=rs) hrl (ks:=ks) (by omega) hw;rw[←qb6 _ rfl rfl]at hj;have t1:qFN n (qa ks)=qa ks:=qFP (by rw[qb];omega);have t2:qFN rs.length (qn rs)=qn rs:=qFP (by rw[qU];omega);rw[qGp (show ¬(i:Int)<(q1:Int) by omega),cond_false,qU,qb,hl,nble,nble,qGo (show 0+rs.length<=rs.length by omega),qGo (show 0+n<=n by omega),t1,t2,hj]
 simp only[qF7,cond_true,qd,qe];rcases hcase with⟨rfl,hno⟩|⟨a,k,rfl,hka,_,hno⟩
 ·have hx:qa ks=qE [] ks:=by unfold qE;rw[qGh]
  rw[show((-1:Int)== -1)=true from rfl,cond_true,hx];exact qwr hn hl hk hk λz=>⟨λh=>⟨h,by unfold vW;rw[hno z h];rfl⟩,λh=>h.1⟩
 ·have han:a<n:=by rw[←hl];exact(qFF.1 hka).1
  rw[show((a:Int)== -1)=false from beq_false_of_ne (by omega),cond_false,wr1 (by omega)];refine qDx hn hl hk hrl hrw _ _ _ _ _ _ _ (n - (a+1)) (a+1) a ks hl (by omega) (by omega) ?_ (λq _=>rfl) (by omega);rename_i hin;have hkf:vW rs k=false:=by unfold vW;rw[hin];rfl
  rw[qkc hka,hkf,qGr (by decide),qGh,List.filter_eq_self.2 (λx hx=>by unfold vW;rw[hno x hx];rfl)]
theorem qDv{r:Rg}(hr:RgW r){out:List Rg}(hol:out.length<1099511627775){Q:AV->Prop}{n q1 q2 i:Nat}(hi:i<1099511627776){c0:Bool}{a1 a2:List (List AV)}{h1 h3:List (List AV)}(hyes:out.any (vD r)=true->Gets (qcd n q1 out.length ((i+1:Nat):Int) c0 a1 a2 h1 q2 h3 (qn out)) Q)(hno:out.any (vD r)=false->Gets (qcd n q1 (out++[r]).length ((i+1:Nat):Int) c0 a1 a2 h1 q2 h3 (qn (out++[r]))) Q):
  ∀d j:Nat,j+d=out.length->(∀x∈out.take j,vD r x=false)->Gets (qk6 n q1 out.length (i:Int) (j:Int) c0 a1 a2 h1 q2 h3 (qn out) r.ar (qa r.fst)) Q:=by
 intro d
 induction d with
 |zero=>
  intro j hj hx;refine qjz _ _ _ _ _ _ _ _ _ _ _ _ _ _ ?_;unfold rd2;rw[qFP (by omega)]at hx;have t2:qFN out.length (qn out)=qn out:=qFP (by rw[qU];omega);rw[qGp (show ¬(j:Int)<(out.length:Int) by omega),cond_false,qU,nble,qGo (show 0+out.length<=out.length by omega),qaG (by omega),t2,wr1 (by omega)];have h:=hno (by
   cases ha:out.any (vD r)with
   |false=>rfl
   |true=>
    obtain⟨x,h1,h2⟩:=List.any_eq_true.1 ha;rw[hx x h1]at h2;cases h2)
  rw[qFU]at h;have e:qF2 (qn out) [[AV.int .i64 r.ar,.sl (qa r.fst)]]=qn (out++[r]):=by unfold qn;rw[List.map_append];rfl
  rw[e];exact h
 |succ d ih=>
  intro j hj hx;refine qjz _ _ _ _ _ _ _ _ _ _ _ _ _ _ ?_;unfold rd2;obtain⟨s,hs⟩:=qaL (l:=out) (i:=j) (by omega);have hc:=qzb (s:=s) hr;rw[←qb6 _ rfl rfl]at hc;rw[qGo (show(j:Int)<(out.length:Int) by omega),wr1 (show i<4398046511104 by omega),wr1 (show j<4398046511104 by omega)];simp -implicitDefEqProofs only[cond_true,qd,rgB2,rgT2,qT,q5,q9,qe,qp,rdB (show j<out.length by omega),rgG hs,hc]
  cases hw:vD r s with
  |true=>exact hyes (List.any_eq_true.2 ⟨s,qFK hs,hw⟩)
  |false=>
   refine ih (j+1) (by omega) λx hxm=>?_
   rw[qGk,hs]at hxm;rcases qF8.1 hxm with h|h
   ·exact hx x h
   ·simp at h;subst h;exact hw
theorem qAL{n:Nat}(hn:n<16777216){ks:List Tm}(hl:ks.length=n)(hk:∀k∈ks,k.chk=0){ls:List Rg}(hrl:ls.length<16777216)(hrw:AllW ls)(q2:Nat)(c0:Bool)(a1 a2:List (List AV)):
  ∀(d i:Nat) (out:List Rg),i+d=ls.length->out.length<=i->xc out (ls.drop i)=xc [] ls->Gets (qcd n ls.length out.length (i:Int) c0 a1 a2 (qa ks) q2 (qn ls) (qn out)) (·=ofV ks (xc [] ls)):=by
 intro d
 induction d with
 |zero=>
  intro i out hi ho hw;rw[qFV (by omega),xc]at hw;subst hw;have hsub:∀s∈xc [] ls,s∈ls:=λs hs=>(qcD hs).elim (λh=>by cases h) id
  exact qDw hn hl hk (by have:=qfj ls [];simp only[List.length_nil]at this;omega) (λs hs=>hrw s (hsub s hs)) _ _ _ (by omega) _ _ _ _
 |succ d ih=>
  intro i out hi ho hw;obtain⟨r,hr⟩:=qaL (l:=ls) (i:=i) (by omega);have hd:ls.drop i=r::ls.drop (i+1):=by
   obtain⟨h,rfl⟩:=qFF.1 hr;exact qFS h
  rw[hd,xc]at hw;refine qjA _ _ _ _ _ _ _ _ _ _ _ ?_;unfold rd2;rw[qGo (show(i:Int)<(ls.length:Int) by omega)];simp -implicitDefEqProofs only[cond_true,qd,rgB2,rgT2,qT,q5,q9,qe,rdB (show i<ls.length by omega),rgG hr];refine qDv (hrw r (qFK hr)) (by omega) (by omega) (λhy=>?_) (λhno=>?_) out.length 0 (by omega) (λx hx=>by simp at hx)
  ·rw[qGq hy]at hw;exact ih (i+1) out (by omega) (by omega) hw
  ·rw[hno,qGr (by decide)]at hw;exact ih (i+1) (out++[r]) (by omega) (by rw[qFU];simp;omega) hw
theorem qsX{cs:List Cl}(hcs:∀c∈cs,ClOk c)(hlen:cs.length<=8388608){p:Nat}(hp1:1<=p)(hp:p<=64):∀(d i:Nat),i+d=cs.length->(∀c∈cs.take i,(vV c.head p).isAll=false) ->
  Gets (qeD (p:Int) (qP cs) (xn p (cs.take i)).length (i:Int) false [] [] (qa (xn p (cs.take i))) (qX p (cs.take i)).length (qn (qX p (cs.take i)))) (·= .tup [(yr p cs).av,.int .i64 0]):=by
 intro d
 induction d with
 |zero=>
  intro i hi hna;obtain rfl:i=cs.length:=by omega
  rw[List.take_length]at hna⊢;have hkl:=qbl p cs;have hrl:=qbg p cs;have hrg:=qhl (p:=p) hcs;have hks:=qfB (p:=p) hcs;have hw:AllW (qX p cs):=λr hr=>(hrg r hr).1
  have hst:=qxX (l:=qX p cs) rfl (by omega) hw;have hst:EVm (EV Go.Proofs.YtgleolmhpmljhaaGreat.cfg) 56 [.ms 0 0 (qX p cs).length,ahF] 2 (qn (qX p cs))=_:=hst;rw[←qu0 _ _ _ rfl rfl]at hst;refine qjB _ _ _ _ _ _ _ _ _ _ ?_;unfold rs4;rw[xH,qGp (show ¬(cs.length:Int)<(cs.length:Int) by omega),cond_false];refine Gets.bind ⟨_,hst,rfl⟩ ?_;rintro _ rfl;rw[vq]
  have hsl:=vt (qX p cs);have h:=qAL (n:=(xn p cs).length) (by omega) rfl hks (ls:=qZ (qX p cs)) (by omega) (λr hr=>hw r (yb.1 hr)) (qX p cs).length false [] [] (qZ (qX p cs)).length 0 [] (by omega) (Nat.zero_le _) (by rw[List.drop_zero]);rw[qrJ (λr hr=>(hrg r hr).2),hsl]at h;have e:yr p cs=⟨false,xN (vW (q7 (qX p cs) (qX p cs).length)) (xn p cs),q7 (qX p cs) (qX p cs).length⟩:=by
   unfold yr;rw[qGr (by rw[Bool.not_eq_true,List.any_eq_false];intro c hc;rw[hna c hc];decide)]
  rw[e];exact h
 |succ d ih=>
  intro i hi hna;have hil:i<cs.length:=by omega
  have hx:cs[i]? =some cs[i]:=qFE hil;have hmm:=qFK hx;have hok:=hcs _ hmm;have htk:cs.take (i+1)=cs.take i++[cs[i]]:=by rw[qGk,hx];rfl
  have hkl:=qbl p (cs.take i);have hrl:=qbg p (cs.take i);have htl:(cs.take i).length=i:=by rw[qF9];omega
  have gx:qFG (qP cs) (qFQ (i:Int))=some cs[i].cells:=by
   rw[qu,qFT,qdM,hx];rfl
  have ih:=ih (i+1) (by omega);rw[htk,qj7,qjQ]at ih;have hall:(vV cs[i].head p).isAll=true->(yr p cs)=⟨true,[],[]⟩:=λh=>by
   unfold yr;rw[qGq (List.any_eq_true.2 ⟨_,hmm,h⟩)]
  have ih:(vV cs[i].head p).isAll=false->_:=λh=>ih λc hc=>by
   rcases qF8.1 hc with h1|h1
   ·exact hna c h1
   ·rw[List.mem_singleton]at h1;subst h1;exact h
  refine qjB _ _ _ _ _ _ _ _ _ _ ?_;unfold rs4;rw[xH,qGo (show(i:Int)<(cs.length:Int) by omega),qv,qD,qGo hil,gx,wr1 (show i<4398046511104 by omega)]
  revert ih hall hok
  generalize cs[i]=c;intro hok hall ih;generalize xn p (cs.take i)=ks at *;generalize qX p (cs.take i)=rs at *;have hhc:=hok.1;have hhw:=xX hhc;have hsl:=xK c.head.subs;have hhe:=c.head.w_eq;have fin:(vV c.head p).isAll=true->Gets (some (AV.tup [.agg [.bool true,.sl [],.sl []],.int .i64 (0:Int)])) (·= .tup [(yr p cs).av,.int .i64 0]):=λh=>⟨_,rfl,by rw[hall h];rfl⟩
  simp only[cond_true,qF7,show qFY (qFI c.cells) 6=true from rfl,show qFR 6 (qFI c.cells)=true from rfl,qd];rw[Cl.kc,qb,bneD]
  by_cases h7:c.head.kind=7
  case neg=>
   rw[qGp h7];exact fin (by unfold vV;rw[qGq h7];rfl)
  rw[qGo h7];simp only[qFW,cond_false]
  by_cases hlt:c.head.subs.length<p
  ·rw[qGo (show(c.head.subs.length:Int)<(p:Int) by omega),cond_true];have hm:=qn5 h7 (pos:=p) (List.getElem?_eq_none (show c.head.subs.length<=p - 1 by omega));rw[hm]at ih;have ih:=ih rfl;simp only[Meet.keyO,Meet.rngO,Option.toList_none,qGh]at ih;exact ih
  rw[qGp (show ¬(c.head.subs.length:Int)<(p:Int) by omega),cond_false,qkY hp1 (by omega)];obtain⟨q,hq⟩:=qM (l:=c.head.subs) (i:=p - 1) (by omega);have hqm:=qFK hq;have hqc:=xi hhc hqm;have hqw:=xX hqc;have hqe:=q.w_eq;have hqs:=xK q.subs;have hb:=qn4 (t:=q) (by omega);rw[←qb6 _ rfl rfl]at hb;have hm:=qp6 h7 hq;rw[rdB (show p - 1<c.head.subs.length by omega),qY hq]
  simp only[cond_true,qf,qF3,qi,qh,xE,qB,hb,qd,qp];cases hbq:bndG q with
  |true=>
   rw[hbq,qGq rfl]at hm;rw[cond_true,qb,nble,qGo (show 0+ks.length<=ks.length by omega),xg (by omega),qFP (by rw[qb];omega)];have e:qF2 (qa ks) [[AV.int .i64 q.kind,.int .i64 q.num,.str q.str,.sl (qa q.subs)]]=qa (ks++[q]):=by rw[qW,qF,qO,Tm.cells_eq];rfl
   rw[hm]at ih;have ih:=ih rfl;simp only[Meet.keyO,Meet.rngO,Option.toList_none,Option.toList_some,qGh]at ih;rw[qFU]at ih;rw[e];exact ih
  |false=>
   rw[hbq,qGr (by decide)]at hm;rw[cond_false,beqI]
   by_cases hq7:q.kind=7
   case neg=>
    rw[qGp hq7];rw[qGr hq7]at hm;exact fin (by rw[hm];rfl)
   rw[qGq hq7]at hm;have hin:=qwQ (l:=q.subs) (by omega) (λx hx=>by have:=xF hx;omega) (qA9 hqc hq7 hbq);rw[←qb6 _ rfl rfl]at hin;have hpre:q.subs.takeWhile bndG=q.subs.take (q.subs.takeWhile bndG).length:=List.prefix_iff_eq_take.1 (List.takeWhile_prefix _);have htwl:(q.subs.takeWhile bndG).length<=q.subs.length:=(List.takeWhile_sublist _).length_le;have hcl:=qxc (l:=q.subs.takeWhile bndG) (by omega)
   rw[←qi3 _ rfl rfl]at hcl;rw[qGo hq7,cond_true,hin];simp only[qd,qe];rw[qb,rd1 htwl,yV,qFT,Nat.sub_zero,zC,←hpre,hcl];simp only[cond_true,qd,q5];rw[qU,nble,qGo (show 0+rs.length<=rs.length by omega),qaG (by omega),qFP (show(qn rs).length<=rs.length by rw[qU];omega)];have e:qF2 (qn rs) [[AV.int .i64 (q.subs.length:Int),.sl (qa (q.subs.takeWhile bndG))]]=qn (rs++[⟨q.subs.length,q.subs.takeWhile bndG⟩]):=by unfold qn;rw[List.map_append];rfl
   rw[hm]at ih;have ih:=ih rfl;simp only[Meet.keyO,Meet.rngO,Option.toList_none,Option.toList_some,qGh]at ih;rw[qFU]at ih;rw[e];exact ih
theorem bOfL_ev{t:Tm}(hw:t.w<1099511627776)(pos:Int):EVf (EV cfg) 7 [avL t,.int .i64 pos]=some (.tup [(xo t pos).1.av,.int .i64 (xo t pos).2]):=by
 have hc:EVf (EV cfg) 17 [avL t]=some (.tup [.sl (qP (clsG t).1),.int .i64 (clsG t).2]):=qA3 hw;obtain⟨h1,h2⟩:=qbV t;apply Gets.get;unfold avL at hc⊢;refine qze _ _ _ _ _ ?_;unfold zt0 zt1 zt2 zt3 zt4 zt5 zt6 zt7 zt8;rw[hc];simp only[qd,yX,qT,q5,qe,q9];unfold xo;rw[bneD]
 by_cases h0:(clsG t).2=0
 ·rw[qGo h0,qGr (λh=>h h0)]
  by_cases hp:pos<1
  ·rw[qGo hp,qGq (.inl hp)];exact⟨_,rfl,rfl⟩
  by_cases hp2:pos>64
  ·rw[qGp hp,qGo hp2,qGq (.inr hp2)];exact⟨_,rfl,rfl⟩
  rw[qGp hp,qGp hp2,qGr (λh=>h.elim hp hp2)];obtain⟨p,rfl⟩:∃p:Nat,pos=p:=⟨pos.toNat,by omega⟩;have:=qsX h1 h2 (p:=p) (by omega) (by omega) (clsG t).1.length 0 (by omega) (λc hc=>by simp at hc);rw[List.take_zero]at this;rw[qFT];exact this
 ·rw[qGp h0,qGq h0];exact⟨_,rfl,rfl⟩
end Go.Proofs.YtgleolmhpmljhaaGreat.L
end
noncomputable section
namespace Go.Proofs.YtgleolmhpmljhaaGreat
open Go.Av
theorem qut{l:List Tm}(hl:OkL l)(hlen:l.length<1099511627776):Gets (EVs (EV cfg) 5 [.sl (qa l)]) AV.IsBool:=by
 have loop:∀(d i:Nat),i+d=l.length->Gets (qkZ (qa l) i) AV.IsBool:=by
  intro d
  induction d with
  |zero=>
   intro i hi;refine qjr _ _ ?_;unfold rs4;rw[qb,qGp (by omega)];exact⟨_,rfl,_,rfl⟩
  |succ d ihd=>
   intro i hi;refine qjr _ _ ?_;unfold rs4;have hil:i<l.length:=by omega
   have hxi:l[i]? =some l[i]:=qFE hil;have hb:=qA7 (hl.get (qFK hxi)) (most:=400) (by omega) (by omega);rw[qN hil hlen];simp[hil,hxi];refine Gets.bind hb ?_;rintro _ ⟨b,rfl,_⟩;cases b with
   |true=>exact⟨_,rfl,_,rfl⟩
   |false=>simpa using ihd (i+1) (by omega)
 exact qsb _ (loop l.length 0 (by omega))
def qB6:Den:=evC cfg (EV cfg) 38 none 0 (sub (qc Tryz.f38) [1,1,0,1,0,0])
def qCP:Ex×List AV×AH->Option AV:=kAft (Cfg.keepOut cfg 38 3) (kRun cfg (EV cfg) (kfN cfg 6) 38 none 0 (vX cfg (Cfg.lift cfg 38 0) Tryz.f38.results.toList) ([.block 0,.seq (sub (qc Tryz.f38) [1,1,1])]))
def qBk:List AV×AH->Option AV:=λp=>kOpt (LOOP 0 (some [0,2,3,4]) ([(3,4)]) qB6 p) qCP
abbrev qmV(L:Rz)(nv3:Nat)(v4 c0_0 c0_1:Int)(c0_2:Bz)(c0_3 h1:Rz):Option (AV):=qBk (((fx 26 [(0,.sl L),(2,.ptr 0 0 0),(3,.ms 1 0 nv3),(4,.int .i64 v4)]):List AV),([.rows false 4 [[.int .i64 c0_0,.int .i64 c0_1,.str c0_2,.sl c0_3]],.rows true 4 h1]:AH))
abbrev zN0(v:AV):Option (AV):=kTmV v λn n_1 s rows=>(some (.agg [.int .i64 n,.int .i64 n_1,.str s,.sl rows]))
theorem qus{P:AV->Prop}(h:Gets (kOpt (xV [[AV.int .u8 49]]) λbs=>kOpt (bif qFR (1+qFI bs) 9223372036854775807 then some (.str ((36:UInt8)::bs))else none) λv=>kStr v λs=>kOpt (EVf (EV cfg) 37 [.str s]) λv=>zN0 v) P):Gets (EVf (EV cfg) 41 [.int .i64 (1:Int)]) P:=
  gE (λ_=>funF rfl rfl Tryz.func41 rfl) (by kernel_rfl) h
theorem qnj(L:Rz){P:AV->Prop}(h:Gets (qmV L 0 0 0 0 [] [] []) P):Gets (EVf (EV cfg) 38 [.sl L]) P:=
  gE (λ_=>funF rfl rfl Tryz.func38 rfl) (by kernel_rfl) h
theorem qgz(L:Rz)(nv3:Nat)(v4 c0_0 c0_1:Int)(c0_2:Bz)(c0_3 h1:Rz){P:AV->Prop}(h:Gets (bif decide (v4<(L.length:Int))then rs4 L v4 λn n_1 s rows=>(kOpt (EVf (EV cfg) 77 [.sl []]) λv=>kTmV v λn_2 n_3 s_1 rows_1=>(kOpt (EVf (EV cfg) 37 [.str [(36:UInt8),95]]) λv=>kTmV v λn_4 n_5 s_2 rows_2=>(kOpt (EVf (EV cfg) 77 [.sl [[AV.int .i64 n_4,.int .i64 n_5,.str s_2,.sl rows_2]]]) λv=>kTmV v λn_6 n_7 s_3 rows_3=>(kOpt (EVf (EV cfg) 39 [AV.sl [[AV.int .i64 n,.int .i64 n_1,.str s,.sl rows],[AV.int .i64 n_2,.int .i64 n_3,.str s_1,.sl rows_1],[AV.int .i64 n_6,.int .i64 n_7,.str s_3,.sl rows_3]]]) λv=>kTmV v λn n_8 s rows=>(bif qFR (0+nv3) (qFI h1)&&qI (nv3+1) 56 then qmV L (nv3+1) (qFD .i64 (v4+1)) c0_0 c0_1 c0_2 c0_3 (qF2 (qFN nv3 h1) [[AV.int .i64 n,.int .i64 n_8,.str s,.sl rows]])else none)))))else bif qFR (0+nv3) (qFI h1)&&true then kOpt (EVf (EV cfg) 77 [.sl (qFN nv3 h1)]) λv=>zN0 v else none) P):Gets (qmV L nv3 v4 c0_0 c0_1 c0_2 c0_3 h1) P:=
  gE (λ_=>qg (cfg:=cfg) (f:=38) (rd:=none) (bs:=0)) (by kernel_rfl) h
def qBW:Den:=evC cfg (EV cfg) 77 none 0 (sub (qc Tryz.f77) [1,1,0,1,0,0])
def qCF:Ex×List AV×AH->Option AV:=kAft (Cfg.keepOut cfg 77 3) (kRun cfg (EV cfg) (kfN cfg 6) 77 none 0 (vX cfg (Cfg.lift cfg 77 0) Tryz.f77.results.toList) ([.block 0,.seq (sub (qc Tryz.f77) [1,1,1])]))
def qBb:List AV×AH->Option AV:=λp=>kOpt (LOOP 0 (some [0,2,3,4]) ([]) qBW p) qCF
abbrev qie(L:Rz)(v4 c0_0 c0_1:Int)(c0_2:Bz)(c0_3:Rz)(c1_0 c1_1:Int)(c1_2:Bz)(c1_3:Rz):Option (AV):=qBb (((fx 21 [(0,.sl L),(2,.ptr 0 0 0),(3,.ptr 1 0 0),(4,.int .i64 v4)]):List AV),([.rows false 4 [[.int .i64 c0_0,.int .i64 c0_1,.str c0_2,.sl c0_3]],.rows false 4 [[.int .i64 c1_0,.int .i64 c1_1,.str c1_2,.sl c1_3]]]:AH))
theorem qwC(L:Rz){P:AV->Prop}(h:Gets (some (.agg [.int .i64 7,.int .i64 0,.str [],.sl L])) P):Gets (EVf (EV cfg) 39 [.sl L]) P:=
  gE (λ_=>funF rfl rfl Tryz.func39 rfl) (by kernel_rfl) h
theorem qwD(L:Rz){P:AV->Prop}(h:Gets (qie L (qFD .i64 ((L.length:Int) - 1)) 0 0 [] [] 8 0 [] []) P):Gets (EVf (EV cfg) 77 [.sl L]) P:=
  gE (λ_=>funF rfl rfl Tryz.func77 rfl) (by kernel_rfl) h
theorem qwE(n:Int){P:AV->Prop}(h:Gets (some (.agg [.int .i64 1,.int .i64 n,.str [],.sl []])) P):Gets (EVf (EV cfg) 43 [.int .i64 n]) P:=
  gE (λ_=>funF rfl rfl Tryz.func43 rfl) (by kernel_rfl) h
theorem qwF(s:Bz){P:AV->Prop}(h:Gets (some (.agg [.int .i64 2,.int .i64 0,.str s,.sl []])) P):Gets (EVf (EV cfg) 37 [.str s]) P:=
  gE (λ_=>funF rfl rfl Tryz.func37 rfl) (by kernel_rfl) h
theorem qgn(L:Rz)(v4 c0_0 c0_1:Int)(c0_2:Bz)(c0_3:Rz)(c1_0 c1_1:Int)(c1_2:Bz)(c1_3:Rz){P:AV->Prop}(h:Gets (bif decide (v4≥0)then rs4 L v4 λn n_1 s rows=>(qie L (qFD .i64 (v4 - 1)) c0_0 c0_1 c0_2 c0_3 9 0 [] [[AV.int .i64 n,.int .i64 n_1,.str s,.sl rows],[AV.int .i64 c1_0,.int .i64 c1_1,.str c1_2,.sl c1_3]])else some (.agg [.int .i64 c1_0,.int .i64 c1_1,.str c1_2,.sl c1_3])) P):Gets (qie L v4 c0_0 c0_1 c0_2 c0_3 c1_0 c1_1 c1_2 c1_3) P:=
  gE (λ_=>qg (cfg:=cfg) (f:=77) (rd:=none) (bs:=0)) (by kernel_rfl) h
end Go.Proofs.YtgleolmhpmljhaaGreat
end
noncomputable section
namespace Go.Av
def exA(s:List UInt8):Tm:=.mk 2 0 s []
def exI(n:Int):Tm:=.mk 1 n [] []
end Go.Av
namespace Go.Proofs.YtgleolmhpmljhaaGreat
open Go.Av
theorem qqH(s:List UInt8):EVf (EV cfg) 37 [.str s]=some (exA s).av:=by
 apply Gets.get;refine qwF _ ?_;rw[exA,Tm.av_mk,qO];exact⟨_,rfl,rfl⟩
theorem qDH(n:Int):EVf (EV cfg) 43 [.int .i64 n]=some (exI n).av:=by
 apply Gets.get;refine qwE _ ?_;rw[exI,Tm.av_mk,qO];exact⟨_,rfl,rfl⟩
theorem qwW(l:List Tm):EVf (EV cfg) 39 [.sl (qa l)]=some (tupT l).av:=by
 apply Gets.get;refine qwC _ ?_;rw[tupT,Tm.av_mk];exact⟨_,rfl,rfl⟩
theorem qqG{l:List Tm}(hl:l.length<1000):EVf (EV cfg) 77 [.sl (qa l)]=some (xm l).av:=by
 have loop:∀(n:Nat),n<=l.length->Gets (qie (qa l) ((n:Int) - 1) 0 0 [] [] (xm (l.drop n)).kind (xm (l.drop n)).num (xm (l.drop n)).str (qa (xm (l.drop n)).subs)) (·=(xm l).av):=by
  intro n
  induction n with
  |zero=>
   intro _;refine qgn _ _ _ _ _ _ _ _ _ _ ?_;unfold rs4;rw[List.drop_zero,show decide ((((0:Nat):Int) - 1)≥0)=false from rfl];simp only[cond_false,qB];exact⟨_,rfl,rfl⟩
  |succ n ih=>
   intro hn;have h:=ih (by omega);have hx:l[n]? =some l[n]:=qFE (by omega);refine qgn _ _ _ _ _ _ _ _ _ _ ?_;unfold rs4;have e:(((n+1:Nat):Int) - 1)=(n:Int):=by omega
   have hd:xm (l.drop n)= .mk 9 0 [] [l[n],xm (l.drop (n+1))]:=by rw[qFS (by omega)];rfl
   have hw:qFD .i64 ((n:Int) - 1)=(n:Int) - 1:=qo (by omega) (by omega);rw[e,qGo (show(n:Int)≥0 by omega),qb,qv,qD,qGo (show n<l.length by omega),qY hx,hw];simp only[cond_true,qF7,qf,qF3,qi,qh,show qFR 4 4=true from rfl];rw[hd]at h;have er:[[AV.int .i64 l[n].kind,.int .i64 l[n].num,.str l[n].str,.sl (qa l[n].subs)],[AV.int .i64 (xm (l.drop (n+1))).kind,.int .i64 (xm (l.drop (n+1))).num,.str (xm (l.drop (n+1))).str,.sl (qa (xm (l.drop (n+1))).subs)]]=qa [l[n],xm (l.drop (n+1))]:=by
    rw[qF,qF,qO,Tm.cells_eq,Tm.cells_eq]
   rw[er];exact h
 apply Gets.get;refine qwD _ ?_;have hw:qFD .i64 ((l.length:Int) - 1)=(l.length:Int) - 1:=qo (by omega) (by omega);have h:=loop l.length (qFH _);rw[List.drop_length]at h;rw[qb,hw];exact h
end Go.Proofs.YtgleolmhpmljhaaGreat
end
noncomputable section
namespace Go.Av
def quY(x:Tm):Tm:=xm [tupT [x,xm [],xm [exA [36,95]]]]
theorem qwH{f:Tm->Bool}{x:Tm}(h:f x=true):xN f [x]=[x]:=by
 show(if f x then insK [] x else[])=[x];rw[qGq h];unfold insK;rw[qGr (by rw[List.takeWhile_nil];exact λh=>by cases h)];rfl
theorem qrK(r:Rg):q7 [r] 1=[r]:=by
 show(if zo [r] r 0 1 then insG [] r else[])=[r];have:zo [r] r 0 1=true:=by rw[show(1:Nat)=[r].length from rfl,qdX];intro j s hj h0;cases j with
  |zero=>exact absurd rfl h0
  |succ j=>cases hj
 rw[qGq this];rfl
theorem qvl{t:Tm}{c:Cl}{k:Tm}(h1:(clsG t).2=0)(h2:(clsG t).1=[c])(h3:vV c.head 1= .key k):xo t 1=(⟨false,[k],[]⟩,0):=by
 unfold xo;rw[qGr (λh=>h h1),qGr (by omega),h2];have hk:xn 1 [c]=[k]:=by simp[xn,h3,Meet.keyO]
 have hr:qX 1 [c]=[]:=by simp[qX,h3,Meet.rngO]
 show(yr 1 [c],(0:Int))=_;unfold yr;rw[qGr (by simp[h3,Meet.isAll]),hk,hr];show((⟨false,xN (vW []) [k],[]⟩:Bnd),(0:Int))=_;rw[qwH rfl]
theorem qvk{t:Tm}{c:Cl}{r:Rg}(h1:(clsG t).2=0)(h2:(clsG t).1=[c])(h3:vV c.head 1= .rng r):xo t 1=(⟨false,[],[r]⟩,0):=by
 unfold xo;rw[qGr (λh=>h h1),qGr (by omega),h2];have hk:xn 1 [c]=[]:=by simp[xn,h3,Meet.keyO]
 have hr:qX 1 [c]=[r]:=by simp[qX,h3,Meet.rngO]
 show(yr 1 [c],(0:Int))=_;unfold yr;rw[qGr (by simp[h3,Meet.isAll]),hk,hr];show((⟨false,xN (vW (q7 [r] 1)) [],q7 [r] 1⟩:Bnd),(0:Int))=_;rw[qrK];rfl
theorem r1T(t:Tm):[[AV.int .i64 t.kind,.int .i64 t.num,.str t.str,.sl (qa t.subs)]]=qa [t]:=by rw[qF,qO,Tm.cells_eq]
theorem r2T(t u:Tm):[[AV.int .i64 t.kind,.int .i64 t.num,.str t.str,.sl (qa t.subs)],[AV.int .i64 u.kind,.int .i64 u.num,.str u.str,.sl (qa u.subs)]]=qa [t,u]:=by rw[qF,qF,qO,Tm.cells_eq,Tm.cells_eq]
theorem r3T(t u x:Tm):[[AV.int .i64 t.kind,.int .i64 t.num,.str t.str,.sl (qa t.subs)],[AV.int .i64 u.kind,.int .i64 u.num,.str u.str,.sl (qa u.subs)],[AV.int .i64 x.kind,.int .i64 x.num,.str x.str,.sl (qa x.subs)]]=qa [t,u,x]:=by rw[qF,qF,qF,qO,Tm.cells_eq,Tm.cells_eq,Tm.cells_eq]
end Go.Av
namespace Go.Proofs.YtgleolmhpmljhaaGreat
open Go.Av
theorem qwB:EVf (EV cfg) 41 [.int .i64 1]=some (exA [36,49]).av:=by
 apply Gets.get;refine qus ?_;unfold zN0;refine Gets.eq (o:=kOpt (EVf (EV cfg) 37 [.str [36,49]]) λv=>kTmV v λn m s rows=>some (.agg [.int .i64 n,.int .i64 m,.str s,.sl rows])) (by kernel_rfl) ?_;rw[qqH];simp only[qd,yj,qB];exact⟨_,rfl,rfl⟩
theorem qgj(x:Tm):EVf (EV cfg) 38 [.sl (qa [x])]=some (quY x).av:=by
 have h1:=qqG (l:=[]) (by simp);have h2:=qqG (l:=[exA [36,95]]) (by simp);have h3:=qwW [x,xm [],xm [exA [36,95]]];have h4:=qqG (l:=[tupT [x,xm [],xm [exA [36,95]]]]) (by simp);have hr:=xz (l:=[x]) (i:=0) (t:=x) rfl;apply Gets.get;refine qnj _ ?_;refine qgz _ _ _ _ _ _ _ _ ?_;unfold zN0 rs4;rw[qb,show decide ((0:Int)<(([x]:List Tm).length:Int))=true from rfl,show(qj 0 (0:Int)&&qA (0:Int) (([x]:List Tm).length:Int))=true from rfl]
 rw[show qFQ (0:Int)=qFQ ((0:Nat):Int)from rfl,hr];rw[qO]at h1;simp only[cond_true,qd,qf,qF3,qi,qh,show qFR 4 4=true from rfl,h1,yj,qqH,r1T (exA [36,95]),h2,r3T,h3];rw[show(qFR (0+0) (qFI ([]:List (List AV)))&&qI (0+1) 56)=true from rfl,cond_true];refine qgz _ _ _ _ _ _ _ _ ?_;unfold zN0 rs4;rw[qb,show decide (qFD .i64 ((0:Int)+1)<(([x]:List Tm).length:Int))=false from rfl,cond_false]
 have e:qF2 (qFN 0 ([]:List (List AV))) (qa [tupT [x,xm [],xm [exA [36,95]]]])=qa [tupT [x,xm [],xm [exA [36,95]]]]:=rfl;rw[r1T (tupT [x,xm [],xm [exA [36,95]]]),e,qb,show(qFR (0+(0+1)) ([tupT [x,xm [],xm [exA [36,95]]]]:List Tm).length&&true)=true from rfl,cond_true,qFP (by rw[qb];exact qFH _),h4];simp only[qd,yj,qB]
 exact⟨_,rfl,rfl⟩
theorem qA8{x:Tm}(hx:x.Ok):EVf (EV cfg) 40 [.agg [.bool false,.sl (qa [x]),.sl []]]=some (.tup [x.av,.bool true]):=by
 have hc:=qnw hx;have hr:=xz (l:=[x]) (i:=0) (t:=x) rfl;have hr:qFG (qa [x]) 0=some x.cells:=hr;apply Gets.get;refine qzc _ _ _ ?_;unfold zu0;rw[qb,hr];simp only[cond_false,List.length_nil,qGf,show decide (((0:Nat):Int)>0)=false from rfl,show(((0+1:Nat):Int) != 1)=false from rfl,show qA (0:Int) ((0+1:Nat):Int)=true from rfl,cond_true,qd,qf,qF3,qi,qh,show qFR 4 4=true from rfl,qB,hc,yj]
 exact⟨_,rfl,rfl⟩
end Go.Proofs.YtgleolmhpmljhaaGreat
namespace Go.Proofs.YtgleolmhpmljhaaGreat.L
open Go.Av
theorem qA2{t:Tm}(hw:t.w<1099511627776):EVf (EV cfg) 17 [t.av]=some (.tup [.sl (qP (clsG t).1),.int .i64 (clsG t).2]):=by
 have h:=qpx hw;obtain⟨k,n,s,l⟩:=t;rw[Tm.av_mk]at h⊢;unfold EVf at h;obtain⟨q,h1,h2⟩:=qFM.1 h;have e:EV cfg (.f 17) [.agg [.int .i64 k,.int .i64 n,.str s,.sl (qa l)]] []=some q:=by
  refine qcS ?_;unfold vR;have hx:cfg.ext 17=some (extL 17):=rfl;simp only[hx];exact h1
 unfold EVf;rw[e];exact congrArg some h2
theorem qwo{t:Tm}(hw:t.w<1099511627776)(pos:Int):EVf (EV cfg) 7 [t.av,.int .i64 pos]=some (.tup [(xo t pos).1.av,.int .i64 (xo t pos).2]):=by
 have hc:=qA2 hw;obtain⟨h1,h2⟩:=qbV t;apply Gets.get;rw[Tm.av,Tm.cells_eq]at hc⊢;refine qzd _ _ _ _ _ ?_;unfold zt0 zt1 zt2 zt3 zt4 zt5 zt6 zt7 zt8;rw[hc];simp only[qd,yX,qT,q5,qe,q9];unfold xo;rw[bneD]
 by_cases h0:(clsG t).2=0
 ·rw[qGo h0,qGr (λh=>h h0)]
  by_cases hp:pos<1
  ·rw[qGo hp,qGq (.inl hp)];exact⟨_,rfl,rfl⟩
  by_cases hp2:pos>64
  ·rw[qGp hp,qGo hp2,qGq (.inr hp2)];exact⟨_,rfl,rfl⟩
  rw[qGp hp,qGp hp2,qGr (λh=>h.elim hp hp2)];obtain⟨p,rfl⟩:∃p:Nat,pos=p:=⟨pos.toNat,by omega⟩;have:=qsX h1 h2 (p:=p) (by omega) (by omega) (clsG t).1.length 0 (by omega) (λc hc=>by simp at hc);rw[List.take_zero]at this;rw[qFT];exact this
 ·rw[qGp h0,qGq h0];exact⟨_,rfl,rfl⟩
def bwA:Tm:=exA [97]
def bwT:Tm:=exA [116]
def bw1:Tm:=quY (tupT [bwA,exA [95]])
def bw2:Tm:=quY (tupT [tupT [bwT,exA [36,49]],exA [95]])
theorem qFB:xo bw1 1=(⟨false,[bwA],[]⟩,0):=qvl (c:=⟨tupT [bwA,exA [95]],[],[exA [36,95]]⟩) (by kernel_rfl) (by kernel_rfl) (by kernel_rfl)
theorem qFA:xo bw2 1=(⟨false,[],[⟨2,[bwT]⟩]⟩,0):=qvk (c:=⟨tupT [tupT [bwT,exA [36,49]],exA [95]],[],[exA [36,95]]⟩) (by kernel_rfl) (by kernel_rfl) (by kernel_rfl)
theorem law21awake_ev : EVs (EV cfg) 12 [] = some (.bool true) := by
  have w1 : bw1.w < 1099511627776 := by have : bw1.w < 1000 := by decide +kernel
                                        omega
  have w2 : bw2.w < 1099511627776 := by have : bw2.w < 1000 := by decide +kernel
                                        omega
  have wT : bwT.w < 1099511627776 := by have : bwT.w < 1000 := by decide +kernel
                                        omega
  have wA : bwA.w < 1099511627776 := by have : bwA.w < 1000 := by decide +kernel
                                        omega
  have wK : (tupT [bwT, exI 9]).w < 1099511627776 := by have : (tupT [bwT, exI 9]).w < 1000 := by decide +kernel
                                                        omega
  have hA := qqH
  have hT := qwW
  have hI := qDH 9
  have hh1 := qgj (tupT [bwA, exA [95]])
  have hh2 := qgj (tupT [tupT [bwT, exA [36, 49]], exA [95]])
  have hv := qwB
  have ho1 := qwo w1 1
  have ho2 := qwo w2 1
  have hone := qA8 (x8 _ wA)
  have hs : EVs (EV Go.Proofs.YtgleolmhpmljhaaGreat.cfg) 11 [bwA.av, bwA.av] = some (.bool true) := qnR (x8 _ wA) (by simp)
  have hss : EVs (EV Go.Proofs.YtgleolmhpmljhaaGreat.cfg) 36 [.sl (qa [bwT]), .sl (qa [bwT])] = some (.bool true) := by
    obtain ⟨_, h1, b, rfl, h2⟩ := qpH (la := [bwT]) (qe7.2 fun x hx => x8 x (by simp at hx; subst hx; exact wT)) (by simp) [bwT]
    rw [h1, h2.2 rfl]
  have hrw : RgW ⟨2, [bwT]⟩ := ⟨by show ([bwT] : List Tm).length < _; simp, fun x hx => by
    have hx : x ∈ [bwT] := hx
    simp at hx; subst hx; exact wT⟩
  have hd1 := qq3 hrw wK
  have hd2 := qq3 hrw wA
  rw [show qoS ⟨2, [bwT]⟩ (tupT [bwT, exI 9]) = 0 from by kernel_rfl] at hd1
  rw [show qoS ⟨2, [bwT]⟩ bwA = -1 from by kernel_rfl] at hd2
  have hd1 : EVs (EV Go.Proofs.YtgleolmhpmljhaaGreat.cfg) 42 [.agg [.int .i64 2, .sl (qa [bwT])], (tupT [bwT, exI 9]).av] = _ := hd1
  have hd2 : EVs (EV Go.Proofs.YtgleolmhpmljhaaGreat.cfg) 42 [.agg [.int .i64 2, .sl (qa [bwT])], bwA.av] = _ := hd2
  rw [← qi3 _ rfl rfl] at hh1 hh2 hv hone hI
  rw [← qb6 _ rfl rfl] at hs hss hd1 hd2
  have hA : ∀ s, EVf (EV cfg) 37 [.str s] = some (exA s).av := fun s => (qi3 _ rfl rfl).trans (hA s)
  have hT : ∀ l, EVf (EV cfg) 39 [.sl (qa l)] = some (tupT l).av := fun l => (qi3 _ rfl rfl).trans (hT l)
  rw [qFB] at ho1
  rw [qFA] at ho2
  have kb : ∀ {α : Type} (b : Bnd) (K : List AV → Option α), kAgg b.av K = K [.bool b.all, .sl (qa b.keys), .sl (qn b.rgs)] := fun b K => rfl
  have ka : ∀ {α : Type} (x : Tm) (K : List AV → Option α), kAgg x.av K = K x.cells := fun x K => by rw [Tm.av]; rfl
  have hh1 : EVf (EV cfg) 38 [.sl (qa [tupT [exA [97], exA [95]]])] = some bw1.av := hh1
  have hh2 : EVf (EV cfg) 38 [.sl (qa [tupT [tupT [exA [116], exA [36, 49]], exA [95]]])] = some bw2.av := hh2
  apply Gets.get
  refine qp8 ?_
  simp only [hA, qd, yj, r2T, hT, r1T (tupT [exA [97], exA [95]]), hh1, qB, ho1, yX, qT, kb, qp, q5, qe, q9, show qn [] = [] from rfl, hone, ka, qe, qaY, Tm.cells_eq, hv, r1T (tupT [tupT [exA [116], exA [36, 49]], exA [95]]), hh2, ho2, show qa [] = [] from qO, show ((0 : Int) == 0) = true from rfl, cond_true, hs, qU]
  have hs : EVs (EV cfg) 11 [bwA.av, (exA [97]).av] = some (.bool true) := hs
  have hss : EVs (EV cfg) 36 [.sl (qa [bwT]), .sl (qa [exA [116]])] = some (.bool true) := hss
  have hd1 : EVs (EV cfg) 42 [.agg [.int .i64 2, .sl (qa [bwT])], (tupT [exA [116], exI 9]).av] = some (.int .i64 0) := hd1
  have hd2 : EVs (EV cfg) 42 [.agg [.int .i64 2, .sl (qa [bwT])], (exA [97]).av] = some (.int .i64 (-1)) := hd2
  have e1 : ((([⟨2, [bwT]⟩] : List Rg).length : Int) == 1) = true := rfl
  have e2 : qA 0 (([⟨2, [bwT]⟩] : List Rg).length : Int) = true := rfl
  have e3 : qFG (qn [⟨2, [bwT]⟩]) 0 = some [.int .i64 2, .sl (qa [bwT])] := rfl
  have e4 : qFY (qFI [AV.int .i64 2, .sl (qa [bwT])]) 2 = true := rfl
  have e5 : qFG [AV.int .i64 2, .sl (qa [bwT])] 0 = some (.int .i64 2) := rfl
  have e6 : qFG [AV.int .i64 2, .sl (qa [bwT])] 1 = some (.sl (qa [bwT])) := rfl
  simp only [hs, qd, qp, cond_true, e1, e2, e3, e4, e5, e6, qe, show ((2 : Int) == 2) = true from rfl, q5, r1T (exA [116]), hss, rgB2, rgT2, qT, q9, hI, yj, r2T, hT, qB, hd1, show ((0 : Int) == 0) = true from rfl, hd2]
  exact ⟨_, rfl, rfl⟩
end Go.Proofs.YtgleolmhpmljhaaGreat.L
end
noncomputable section
namespace Go.Proofs.YtgleolmhpmljhaaGreat.M
open Go.Av
def qCk:Den:=evC cfg (EV cfg) 10 none 1 (sub (qc Tryz.f10) [1,1,0,0])
def qC3:Ex×List AV×AH->Option Unit:=kAft (Cfg.keepOut cfg 10 2) (kRun cfg (EV cfg) (kfN cfg 6) 10 none 1 (qAj cfg (Cfg.lift cfg 10 0) Tryz.f10.results.toList) ([.block 0]))
def qtg:List AV×AH->Option Unit:=λp=>kOpt (LOOP 1 (some [1,2]) ([]) qCk p) qC3
abbrev qix(l:Rz)(v2 c1_0 c1_1:Int)(c1_2:Bz):Option (Unit):=qtg (((fx 21 [(1,.ptr 1 0 0),(2,.int .i64 v2)]):List AV),([.spl,.rows false 4 [[.int .i64 c1_0,.int .i64 c1_1,.str c1_2,.rsl 0 l]]]:AH))
abbrev qpl(v2 c1_0 c1_1:Int)(c1_2:Bz)(c1_3:Rz):Option (Unit):=qtg (((fx 21 [(1,.ptr 1 0 0),(2,.int .i64 v2)]):List AV),([.spl,.rows false 4 [[.int .i64 c1_0,.int .i64 c1_1,.str c1_2,.sl c1_3]]]:AH))
theorem qwi(k n:Int)(s:Bz)(l:Rz){P:Unit->Prop}(h:Gets (qix l 0 k n s) P):Gets (EVz (EV cfg) 10 (AV.agg [AV.int IntKind.i64 k,AV.int IntKind.i64 n,AV.str s,AV.rsl (0:Nat) l])) P:=
  gE (λ_=>funZ rfl rfl Tryz.func10 rfl) (by kernel_rfl) h
theorem qwj(k n:Int)(s:Bz){P:Unit->Prop}(h:Gets (qpl 0 k n s []) P):Gets (EVz (EV cfg) 10 (AV.agg [AV.int IntKind.i64 k,AV.int IntKind.i64 n,AV.str s,AV.sl []])) P:=
  gE (λ_=>funZ rfl rfl Tryz.func10 rfl) (by kernel_rfl) h
theorem qgN(l:Rz)(v2 c1_0 c1_1:Int)(c1_2:Bz){P:Unit->Prop}(h:Gets (bif decide (v2<(l.length:Int))then bif qj 0 v2&&qA v2 (l.length:Int)then kOpt (qFG l (v2.toNat)) λrow=>bif qFY (qFI row) 4 then kTmC (qFN 4 row) λn n_1 s rows=>(kOpt (EVz (EV cfg) 10 (.agg [.int .i64 n,.int .i64 n_1,.str s,AV.rsl 0 rows])) λx=>kOpt (EVz (EV cfg) 10 (.agg [.int .i64 77,.int .i64 0,.str [],.sl []])) λx=>kOpt (EVz (EV cfg) 10 (.agg [.int .i64 0,.int .i64 0,.str [],.sl []])) λx=>bif qj 0 v2&&qA v2 (l.length:Int)then kOpt (qFG l (v2.toNat)) λrow=>bif qFY (qFI row) 4 then bif qam (qFN 4 row)&&true then qix l (qFD .i64 (v2+1)) c1_0 c1_1 c1_2 else none else none else none)else none else none else some PUnit.unit) P):Gets (qix l v2 c1_0 c1_1 c1_2) P:=
  gE (λ_=>qg (cfg:=cfg) (f:=10) (rd:=none) (bs:=1)) (by kernel_rfl) h
theorem qor(v2 c1_0 c1_1:Int)(c1_2:Bz)(c1_3:Rz){P:Unit->Prop}(h:Gets (bif decide (v2<(c1_3.length:Int))then rs4 c1_3 v2 λn n s rows=>none else some PUnit.unit) P):Gets (qpl v2 c1_0 c1_1 c1_2 c1_3) P:=
  gE (λ_=>qg (cfg:=cfg) (f:=10) (rd:=none) (bs:=1)) (by kernel_rfl) h
end Go.Proofs.YtgleolmhpmljhaaGreat.M
end
noncomputable section
namespace Go.Av
theorem qou(t:Tm):qam t.cells=true:=by obtain⟨k,n,s,l⟩:=t;rw[Tm.cells_mk];rfl
end Go.Av
namespace Go.Proofs.YtgleolmhpmljhaaGreat.M
open Go.Av
theorem qku(k n:Int)(s:List UInt8):EVz (EV cfg) 10 (.agg [.int .i64 k,.int .i64 n,.str s,.sl []])=some ():=by
 apply Gets.get;refine qwj k n s ?_;refine qor _ _ _ _ _ ?_;unfold rs4;exact⟨_,rfl,rfl⟩
theorem qyp(t:Tm):t.Ok->EVz (EV cfg) 10 (avR 0 t)=some ():=by
 induction t using Tm.ind with
 |_ k n s l ih=>
  intro hok;have hlen:=hok.len;have loop:∀(d i:Nat),i+d=l.length->Gets (qix (qa l) i k n s) (·=()):=by
   intro d
   induction d with
   |zero=>
    intro i hi;refine qgN _ _ _ _ _ ?_;rw[qb,qGp (by omega)];exact⟨_,rfl,rfl⟩
   |succ d ihd=>
    intro i hi;refine qgN _ _ _ _ _ ?_;have hil:i<l.length:=by omega
    have hx:l[i]? =some l[i]:=qFE hil;have h1:=ih l[i] (qFK hx) (hok.sub (qFK hx));unfold avR at h1;have h:=ihd (i+1) (by omega);rw[qb,qGo (show(i:Int)<(l.length:Int) by omega),qv,qD,qGo hil,qY hx,qN hil hlen];simp only[cond_true,qF7,qf,qF3,qi,qh,h1,qku,qd,qY hx,qou,Bool.and_true]
    exact h.mono λ_ _=>trivial
  apply Gets.get;unfold avR;exact qwi k n s (qa l) (loop l.length 0 (by omega))
theorem qdQ{t:Tm}(h:t.Ok):EVz (EV cfg) 10 (.agg [.int .i64 t.kind,.int .i64 t.num,.str t.str,.rsl 0 (qa t.subs)])=some ():=qyp t h
end Go.Proofs.YtgleolmhpmljhaaGreat.M
end
noncomputable section
namespace Go.Proofs.YtgleolmhpmljhaaGreat
open Go.Av
def qBX:Den:=evC cfg (EV cfg) 9 none 0 (sub (qc Tryz.f9) [1,1,0,1,0,0])
def qCG:Ex×List AV×AH->Option AV:=kAft (Cfg.keepOut cfg 9 4) (kRun cfg (EV cfg) (kfN cfg 6) 9 none 0 (vM cfg (Cfg.lift cfg 9 0) Tryz.f9.results.toList) ([.block 0,.seq (sub (qc Tryz.f9) [1,1,1])]))
def qBc:List AV×AH->Option AV:=λp=>kOpt (LOOP 0 (some [2,3,5]) ([]) qBX p) qCG
abbrev qif(v5:Int)(c0_0:Bool)(c0_1 c0_2:Rz)(c1_0:Bool)(c1_1 c1_2:Rz):Option (AV):=qBc (((fx 64 [(2,.ptr 0 0 0),(3,.ptr 1 0 0),(5,.int .i64 v5)]):List AV),([.rows false 3 [[.bool c0_0,.sl c0_1,.sl c0_2]],.rows false 3 [[.bool c1_0,.sl c1_1,.sl c1_2]]]:AH))
theorem qtK(al:Bool)(ks rs:Rz)(al2:Bool)(ks2 rs2:Rz){P:AV->Prop}(h:Gets (bif ! al==al2 then some (.bool false)else kOpt (EVs (EV cfg) 36 [.sl ks,.sl ks2]) λv=>qt v λb=>bif ! b then some (.bool false)else bif(rs.length:Int) != (rs2.length:Int)then some (.bool false)else qif 0 al ks rs al2 ks2 rs2) P):Gets (EVs (EV cfg) 9 [.agg [.bool al,.sl ks,.sl rs],.agg [.bool al2,.sl ks2,.sl rs2]]) P:=
  gE (λ_=>funS rfl rfl Tryz.func9 rfl) (by kernel_rfl) h
theorem qgo(v5:Int)(c0_0:Bool)(c0_1 c0_2:Rz)(c1_0:Bool)(c1_1 c1_2:Rz){P:AV->Prop}(h:Gets (bif decide (v5<(c0_2.length:Int))then bif qj 0 v5&&qA v5 (c0_2.length:Int)then kOpt (qFG c0_2 (v5.toNat)) λrow=>bif qFY (qFI row) 2 then kOpt (qFG row 0) λv=>kInt .i64 v λn=>bif qj 0 v5&&qA v5 (c1_2.length:Int)then kOpt (qFG c1_2 (v5.toNat)) λrow=>bif qFY (qFI row) 2 then kOpt (qFG row 0) λv=>kInt .i64 v λn_1=>bif n != n_1 then some (.bool false)else bif qj 0 v5&&qA v5 (c0_2.length:Int)then kOpt (qFG c0_2 (v5.toNat)) λrow=>bif qFY (qFI row) 2 then kOpt (qFG row 1) λv=>kSl v λrows=>bif qj 0 v5&&qA v5 (c1_2.length:Int)then kOpt (qFG c1_2 (v5.toNat)) λrow=>bif qFY (qFI row) 2 then kOpt (qFG row 1) λv=>kSl v λrows_1=>kOpt (EVs (EV cfg) 36 [.sl rows,.sl rows_1]) λv=>qt v λb=>bif ! b then some (.bool false)else qif (qFD .i64 (v5+1)) c0_0 c0_1 c0_2 c1_0 c1_1 c1_2 else none else none else none else none else none else none else none else none else some (.bool true)) P):Gets (qif v5 c0_0 c0_1 c0_2 c1_0 c1_1 c1_2) P:=
  gE (λ_=>qg (cfg:=cfg) (f:=9) (rd:=none) (bs:=0)) (by kernel_rfl) h
theorem qqQ{l:List Tm}(hlen:l.length<1099511627776)(ih:∀x∈l,EVf (EV cfg) 6 [x.av]=some x.av):
  EVo (EV cfg) 16 [.sl (qa l)]=some (OV.own 4 (qa l) 0 l.length):=by
 have loop:∀d i:Nat,i+d=l.length->Gets (qk2 (qa l) i i (qa (l.take i))) (·=OV.own 4 (qa l) 0 l.length):=by
  intro d
  induction d with
  |zero=>
   intro i hi;refine qju _ _ _ _ ?_;unfold rs4;obtain rfl:i=l.length:=by omega
   rw[qb,qGp (by omega),List.take_length];exact⟨_,rfl,rfl⟩
  |succ d ihd=>
   intro i hi;have hil:i<l.length:=by omega
   refine qju _ _ _ _ ?_;unfold rs4;have hx:l[i]? =some l[i]:=qFE hil;have h1:=ih l[i] (qFK hx);have h2:=ihd (i+1) (by omega);have e1:l.take (i+1)=l.take i++[l[i]]:=by rw[qGk,hx];rfl
   have ht:(qa (l.take i)).length=i:=by rw[qb,qF9];omega
   have e2:qF2 (qFN i (qa (l.take i))) [l[i].cells]=qa (l.take (i+1)):=by
    rw[qFP (by omega),e1,qW,qF,qO];rfl
   have e3:qFR (0+i) (qa (l.take i)).length=true:=by rw[ht,qGj];omega
   rw[qb,qGo (show(i:Int)<(l.length:Int) by omega),qv,qD,qGo hil,qY hx,qN hil hlen,e3,xg (by omega)];simp only[cond_true,qF7,qf,qF3,qi,qh,show qFR 4 4=true from rfl,qB,h1,qd,yj];rw[←Tm.cells_eq,e2];exact h2
 apply Gets.get;exact qdF _ (by simpa [qO]using loop l.length 0 (by omega))
theorem qsx(t:Tm):t.w<1099511627776->EVf (EV cfg) 6 [t.av]=some t.av:=by
 induction t using Tm.ind with
 |_ k n s l ih=>
  intro hw;rw[Tm.w_mk]at hw;have hlen:=yf l;have h:=qqQ (l:=l) (by omega) λx hx=>ih x hx (by have:=xF hx;omega)
  apply Gets.get;rw[Tm.av_mk];refine qee _ _ _ _ ?_;rw[h];have e:(qFR (0+l.length) (qa l).length&&true)=true:=by rw[Bool.and_true,qGj,qb];omega
  have e2:qFN l.length (qGb 0 (qa l))=qa l:=qFP (by simp);show Gets (bif(qFR (0+l.length) (qa l).length&&true)then some (AV.agg [.int .i64 k,.int .i64 n,.str s,.sl (qFN l.length (qGb 0 (qa l)))])else none) _;rw[e,e2];exact⟨_,rfl,rfl⟩
end Go.Proofs.YtgleolmhpmljhaaGreat
end
noncomputable section
namespace Go.Av
theorem qFn(l:List Tm):neR (qa l)=true:=by
 cases l with
 |nil=>rfl
 |cons x l=>rw[qF,Tm.cells_eq];rfl
theorem qFo(l:List Rg):neR (qn l)=true:=by cases l<;>rfl
theorem qAR(b:Bnd)(e:Int):(AV.tup [b.av,.int .i64 e]).neT=true:=by
 show([b.av,.int .i64 e]).all AV.neT1=true;simp[AV.neT1,AV.neT0,Bnd.av,qFn,qFo]
theorem qx9{L:Lent}{C:qk}{μ:MMap}(l:List Rg)(v:Value)(h: @Rep L C μ (.sl (qn l)) v):Rep0 C (.sl (qn l)) v:=by
 generalize hR:qn l=R at h;cases h with
 |slNil=>exact .slNil
 |sl _ a cap sz vals hs hsz hc hr hcell hcap hfree=>
  refine .sl R a cap sz vals hs hsz hc (λi j row x h1 h2=>?_) hcell hcap hfree;have hrep:=hr i j row x h1 h2;rw[←hR,qdL]at h1;cases hl:l[i]? with
  |none=>rw[hl]at h1;cases h1
  |some t=>
   rw[hl]at h1;cases h1
   match j,h2 with
   |0,h2=>cases h2;generalize vals i 0=u at hrep⊢;cases hrep;exact .int _ _
   |1,h2=>cases h2;exact Go.Proofs.YtgleolmhpmljhaaGreat.qeQ (.mk 0 0 [] t.fst) _ hrep
   |j+2,h2=>simp[Rg.cells]at h2
theorem qAY(b:Bnd)(e:Int):DatT (.tup [b.av,.int .i64 e]):=by
 intro a ha;simp only[qF6,List.not_mem_nil,or_false]at ha;rcases ha with rfl|rfl
 ·intro x hx;simp only[qF6,List.not_mem_nil,or_false]at hx;rcases hx with rfl|rfl|rfl
  ·trivial
  ·exact λL C μ v h=>Go.Proofs.YtgleolmhpmljhaaGreat.qeQ (.mk 0 0 [] b.keys) v h
  ·exact λL C μ v h=>qx9 b.rgs v h
 ·trivial
end Go.Av
namespace Go.Proofs.YtgleolmhpmljhaaGreat
open Go.Av
theorem qza(t:Tm)(pos:Int):BndW (xo t pos).1:=by
 have h0:∀a:Bool,BndW ⟨a,[],[]⟩:=λa=>⟨(by show(0:Nat)<_;decide),(λx h=>by cases h),(by show(0:Nat)<_;decide),(λx h=>by cases h)⟩
 obtain⟨h1,h2⟩:=qbV t;unfold xo;split
 ·exact h0 _
 split
 ·exact h0 _
 show BndW (yr _ _);unfold yr;split
 ·exact h0 _
 have hkl:=qbl pos.toNat (clsG t).1;have hrl:=qbg pos.toNat (clsG t).1;have hks:=qfB (p:=pos.toNat) h1;have hrs:=qhl (p:=pos.toNat) h1;have hD:=qb0 (qX pos.toNat (clsG t).1) (qX pos.toNat (clsG t).1).length;have hK:=qhE (vW (q7 (qX pos.toNat (clsG t).1) (qX pos.toNat (clsG t).1).length)) (xn pos.toNat (clsG t).1) _ (qFH _)
 have hKs:=qdW (vW (q7 (qX pos.toNat (clsG t).1) (qX pos.toNat (clsG t).1).length)) (xn pos.toNat (clsG t).1) _ (qFH _);rw[List.take_length]at hK hKs;refine⟨?_,λx hx=>?_,?_,λr hr=>?_⟩
 ·show(xN _ _).length<_;omega
 ·have:=xX (hks x (hKs x hx));omega
 ·show(q7 _ _).length<_;omega
 ·exact(hrs r (zW _ _ r hr)).1
theorem qpD{l:List Tm}(hlen:l.length<1099511627776)(hw:∀x∈l,x.w<1099511627776):EVs (EV cfg) 36 [.sl (qa l),.sl (qa l)]=some (.bool true):=by
 obtain⟨_,h1,b,rfl,h2⟩:=qpH (qe7.2 λx hx=>x8 x (hw x hx)) (by omega) l;rw[h1,h2.2 rfl]
theorem qvT{b:Bnd}(hb:BndW b):EVs (EV cfg) 9 [b.av,b.av]=some (.bool true):=by
 have hrl:=hb.rl;have row:∀(i:Nat) (h:i<b.rgs.length) (k:List AV->Option AV),kOpt (qFG (qn b.rgs) (qFQ (i:Int))) k=k [.int .i64 b.rgs[i].ar,.sl (qa b.rgs[i].fst)]:=λi h k=>by
  rw[qu,qFT,qdL,qFE h];rfl
 have loop:∀(d i:Nat),i+d=b.rgs.length->Gets (qif i b.all (qa b.keys) (qn b.rgs) b.all (qa b.keys) (qn b.rgs)) (·= .bool true):=by
  intro d
  induction d with
  |zero=>
   intro i hi;refine qgo _ _ _ _ _ _ _ ?_;rw[qU,qGp (by omega)];exact⟨_,rfl,rfl⟩
  |succ d ih=>
   intro i hi;have hil:i<b.rgs.length:=by omega
   have h:=ih (i+1) (by omega);have hr:=hb.rw _ (List.getElem_mem hil);have hs:=qpD hr.len hr.ws;refine qgo _ _ _ _ _ _ _ ?_;rw[qU,qGo (show(i:Int)<(b.rgs.length:Int) by omega),qv,qD,qGo hil,qN hil (by omega)];simp only[row i hil];simp only[cond_true,qF7,qGf,List.length_nil,show qFY (0+1+1) 2=true from rfl,qu,List.getElem?_cons_zero,List.getElem?_cons_succ,qd,qe,q5,bneD,decide_true,qFW,cond_false,hs,qp]
   exact h
 apply Gets.get;refine qtK _ _ _ _ _ _ ?_;rw[qpD hb.kl hb.kw];simp only[qd,qp,bneD,decide_true,qFW,cond_false,beq_self_eq_true];exact loop b.rgs.length 0 (by omega)
end Go.Proofs.YtgleolmhpmljhaaGreat
namespace Go.Proofs.YtgleolmhpmljhaaGreat.M
open Go.Av
theorem qDu{t:Tm}(hw:t.w<1099511627776)(pos:Int):EVg (EV cfg) 7 [t.av,.int .i64 pos]=some (.tup [(xo t pos).1.av,.int .i64 (xo t pos).2]):=
 qFz rfl (L.bOfL_ev hw pos) (qAR _ _) (qAY _ _) rfl
theorem rgC2(r:Rg):qFY (qFI [AV.int .i64 r.ar,.sl (qa r.fst)]) 2=true:=rfl
theorem qvF{t:Tm}(hw:t.w<1099511627776){b:Bnd}(hb:BndW b):Gets (qo8 (qa b.keys) (qn b.rgs) (0:Int) t.kind t.num t.str (qa t.subs) t.kind t.num t.str (qa t.subs) b.all) (·= .bool true):=by
 have hkl:=hb.kl;have hrl:=hb.rl;have h13:EVs (EV Go.Proofs.YtgleolmhpmljhaaGreat.cfg) 11 [t.av,t.av]=some (.bool true):=qnR (x8 _ hw) (by simp);have h16:EVs (EV cfg) 12 []=some (.bool true):=qFx rfl L.law21awake_ev;rw[←qb6 _ rfl rfl]at h13;rw[Tm.av,Tm.cells_eq]at h13;have hE1:=qku 77 0 [];have hE2:=qku 0 0 [];have fin:Gets (kOpt (EVs (EV cfg) 11 [.agg [AV.int .i64 t.kind,.int .i64 t.num,.str t.str,.sl (qa t.subs)],.agg [AV.int .i64 t.kind,.int .i64 t.num,.str t.str,.sl (qa t.subs)]]) fun(v:AV)=>qt v fun(b:Bool)=>bif b then kOpt (EVs (EV cfg) 12 []) fun(v:AV)=>qt v fun(b:Bool)=>some (AV.bool b)else some (AV.bool false)) (·=AV.bool true):=by
  rw[h13];simp only[qd,qp,cond_true];rw[h16];exact⟨_,rfl,rfl⟩
 -- ranges, written over
 have r2a:∀(i:Nat) (r:Rg),b.rgs[i]? =some r->Gets (qeB (qa b.keys) (qn b.rgs) ((i+1:Nat):Int) t.kind t.num t.str (qa t.subs) t.kind t.num t.str (qa t.subs) b.all) (·= .bool true) ->
   ∀d j:Nat,j+d=r.fst.length->Gets (qeA (qa b.keys) (qn b.rgs) (i:Int) (j:Int) t.kind t.num t.str (qa t.subs) t.kind t.num t.str (qa t.subs) b.all) (·= .bool true):=by
  intro i r hr hgo d;have hil:=(qFF.1 hr).1;have hrw:=hb.rw r (qFK hr);have hfl:=hrw.len;have hsp:qcW [AV.int .i64 r.ar,.sl (qa r.fst)] 1=some (qa r.fst):=rfl
  induction d with
  |zero=>
   intro j hj;refine qgw _ _ _ _ _ _ _ _ _ _ _ _ _ ?_;rw[qU,rdB hil,z7 hr,wr1 (show i<4398046511104 by omega)];simp -implicitDefEqProofs only[cond_true,qd,rgC2,hsp];rw[qb,qGp (by omega)];exact hgo
  |succ d ih=>
   intro j hj;have hjl:j<r.fst.length:=by omega
   obtain⟨x,hx⟩:=qM (l:=r.fst) (i:=j) hjl;have ho:=qdQ (x8 x (hrw.ws x (qFK hx)));have h1:=ih (j+1) (by omega);refine qgw _ _ _ _ _ _ _ _ _ _ _ _ _ ?_;rw[qU,rdB hil,z7 hr,wr1 (show j<4398046511104 by omega)];simp -implicitDefEqProofs only[cond_true,qd,rgC2,hsp];rw[qb,qGo (show(j:Int)<(r.fst.length:Int) by omega),rdB hjl,xz hx]
   simp -implicitDefEqProofs only[cond_true,qd,qf,qF3,qi,qh,ho,hE1,hE2];exact h1
 have r1a:∀d i:Nat,i+d=b.rgs.length->Gets (qeB (qa b.keys) (qn b.rgs) (i:Int) t.kind t.num t.str (qa t.subs) t.kind t.num t.str (qa t.subs) b.all) (·= .bool true):=by
  intro d
  induction d with
  |zero=>
   intro i hi;refine qgx _ _ _ _ _ _ _ _ _ _ _ _ ?_;unfold zs0 zs1;rw[qU,qGp (by omega),cond_false];exact fin
  |succ d ih=>
   intro i hi;obtain⟨r,hr⟩:=qaL (l:=b.rgs) (i:=i) (by omega);refine qgx _ _ _ _ _ _ _ _ _ _ _ _ ?_;unfold zs0 zs1;rw[qU,qGo (show(i:Int)<(b.rgs.length:Int) by omega),cond_true];exact r2a i r hr (ih (i+1) (by omega)) r.fst.length 0 (by omega)
 have r1:∀d i:Nat,i+d=b.rgs.length->Gets (qk5 (qa b.keys) (qn b.rgs) (i:Int) t.kind t.num t.str (qa t.subs) t.kind t.num t.str (qa t.subs) b.all) (·= .bool true):=by
  intro d
  induction d with
  |zero=>
   intro i hi;refine qjx _ _ _ _ _ _ _ _ _ _ _ _ ?_;unfold zs0 zs1;rw[qU,qGp (by omega),cond_false];exact fin
  |succ d ih=>
   intro i hi;obtain⟨r,hr⟩:=qaL (l:=b.rgs) (i:=i) (by omega);have hil:=(qFF.1 hr).1;have hrw:=hb.rw r (qFK hr);have hfl:=hrw.len;have hg1:qFG [AV.int .i64 r.ar,.sl (qa r.fst)] 1=some (.sl (qa r.fst)):=rfl;refine qjx _ _ _ _ _ _ _ _ _ _ _ _ ?_;unfold zs0 zs1;rw[qU,qGo (show(i:Int)<(b.rgs.length:Int) by omega),cond_true]
   refine qrl _ _ _ _ _ _ _ _ _ _ _ _ _ ?_;unfold rs4;rw[qU,rdB hil,z7 hr,wr1 (show i<4398046511104 by omega)];simp -implicitDefEqProofs only[cond_true,qd,rgC2,hg1,q5];rw[qb]
   by_cases h0:r.fst.length=0
   ·rw[qGp (show ¬(0:Int)<(r.fst.length:Int) by omega)];exact ih (i+1) (by omega)
   ·obtain⟨x,hx⟩:=qM (l:=r.fst) (i:=0) (by omega);have ho:=qdQ (x8 x (hrw.ws x (qFK hx)));have hl0:(qj 0 (0:Int)&&qA (0:Int) (r.fst.length:Int))=true:=rdB (i:=0) (by omega);have hr0:qFG (qa r.fst) (qFQ (0:Int))=some x.cells:=xz (i:=0) hx;rw[qGo (show(0:Int)<(r.fst.length:Int) by omega),hl0,hr0];simp -implicitDefEqProofs only[cond_true,qd,qf,qF3,qi,qh,xE,ho]
    exact r2a i r hr (r1a d (i+1) (by omega)) (r.fst.length - 1) 1 (by omega)
 have k0a:∀d i:Nat,i+d=b.keys.length->Gets (qin (qa b.keys) (qn b.rgs) (i:Int) t.kind t.num t.str (qa t.subs) t.kind t.num t.str (qa t.subs) b.all) (·= .bool true):=by
  intro d
  induction d with
  |zero=>
   intro i hi;refine qgy _ _ _ _ _ _ _ _ _ _ _ _ ?_;rw[qb,qGp (by omega),cond_false];exact r1a b.rgs.length 0 (by omega)
  |succ d ih=>
   intro i hi;have hil:i<b.keys.length:=by omega
   obtain⟨x,hx⟩:=qM (l:=b.keys) (i:=i) hil;have ho:=qdQ (x8 x (hb.kw x (qFK hx)));refine qgy _ _ _ _ _ _ _ _ _ _ _ _ ?_;rw[qb,qGo (show(i:Int)<(b.keys.length:Int) by omega),rdB hil,xz hx,wr1 (show i<4398046511104 by omega)];simp -implicitDefEqProofs only[cond_true,qd,qf,qF3,qi,qh,ho,hE1,hE2]
   exact ih (i+1) (by omega)
 refine qrm _ _ _ _ _ _ _ _ _ _ _ _ ?_;unfold rs4;rw[qb]
 by_cases h0:b.keys.length=0
 ·rw[qGp (show ¬(0:Int)<(b.keys.length:Int) by omega)];exact r1 b.rgs.length 0 (by omega)
 ·obtain⟨x,hx⟩:=qM (l:=b.keys) (i:=0) (by omega);have ho:=qdQ (x8 x (hb.kw x (qFK hx)));have hl0:(qj 0 (0:Int)&&qA (0:Int) (b.keys.length:Int))=true:=rdB (i:=0) (by omega);have hr0:qFG (qa b.keys) (qFQ (0:Int))=some x.cells:=xz (i:=0) hx;rw[qGo (show(0:Int)<(b.keys.length:Int) by omega),hl0,hr0];simp -implicitDefEqProofs only[cond_true,qd,qf,qF3,qi,qh,xE,ho]
  exact k0a (b.keys.length - 1) 1 (by omega)
theorem boundTells_ev{t:Tm}(ht:t.w<=1048576)(pos:Int):EVs (EV cfg) 3 [t.av,.int .i64 pos]=some (.bool true):=by
 have wt:t.w<1099511627776:=by omega
 have hA:∀x:Tm,x.av= .agg [.int .i64 x.kind,.int .i64 x.num,.str x.str,.sl (qa x.subs)]:=λx=>by rw[Tm.av,Tm.cells_eq]
 have hl:=qut (l:=[t]) ⟨qFm ht,trivial⟩ (by simp);have er:qa [t]=[[AV.int .i64 t.kind,.int .i64 t.num,.str t.str,.sl (qa t.subs)]]:=by rw[qF,qO,Tm.cells_eq]
 rw[←qb6 _ rfl rfl,er]at hl;have h2:=qsx t wt;have h5:=qDu wt pos;have h6:=qDp wt pos;have hb:=qza t pos;have h9:=qvT hb;rw[←qb6 _ rfl rfl]at h9;rw[←qi3 _ rfl rfl]at h2 h6;have ho:=qvF wt hb;apply Gets.get;rw[hA t];refine qnz _ _ _ _ _ ?_;refine Gets.bind hl ?_;rintro _ ⟨big,rfl⟩;cases big with
 |true=>exact⟨_,rfl,rfl⟩
 |false=>
  have kb:∀{α:Type} (b:Bnd) (K:List AV->Option α),kAgg b.av K=K [.bool b.all,.sl (qa b.keys),.sl (qn b.rgs)]:=λb K=>rfl
  have h9':EVs (EV cfg) 9 [.agg [.bool (xo t pos).1.all,.sl (qa (xo t pos).1.keys),.sl (qn (xo t pos).1.rgs)],.agg [.bool (xo t pos).1.all,.sl (qa (xo t pos).1.keys),.sl (qn (xo t pos).1.rgs)]]=some (.bool true):=h9;simp -implicitDefEqProofs only[qp,cond_false,qB,h2,qd,yj,h5,h6,yX,qT,kb,q5,qe,q9,bne_self_eq_false,h9',qFW]
  exact ho
end Go.Proofs.YtgleolmhpmljhaaGreat.M
end
