/-
  Parts of the proof of CodeMakesUptoSaid, put together: the abstract evaluation and its contracts. Own work.
  What is proved: each lemma as it stands; no condition.
-/
import Derived.Test.YtafdkafbgohigaaGreatZCodeMakesM3
open List renaming length → qAt, get?Internal → qAu, getElem?_eq_getElem → qAv, getElem?_eq_some_iff → qAy, take → qAB, take_of_length_le → qAE, append → qAG, length_append → qAI, mem_of_getElem? → qAJ, getElem?_append_left → qAN, drop → qAO, getElem?_append_right → qAP, getElem?_set → qAQ, drop_eq_getElem_cons → qAT, replicate → qAU, drop_eq_nil_of_le → qAV, mem_append → qAY, mem_cons → qAZ, length_cons → qA0, getElem?_cons_succ → qA3, drop_zero → qA4, length_take → qA6, range → qA7, append_assoc → qA8, all_eq_true → qBd, length_map → qBe, map_cons → qBf
open Bool renaming and_eq_true → qAw, false_eq_true → qAK, and_self → qAM, true_and → qA9
open Option renaming bind_eq_some_iff → qAx, map_eq_some_iff → qAD, bind_some → qAL, map_some → qAW
open Nat renaming beq → qAz, le_refl → qAA, eq_of_beq_eq_true → qAC, ble → qAF, mul_le_mul_right → qAX, beq_refl → qA1, ble_eq → qA2, zero_add → qA5, add_assoc → qBa, blt_eq → qBc, add_mul → qBg
open Go.IntKind renaming wrap → qAH
open Int renaming toNat → qAR, toNat_natCast → qAS
open Array renaming getElem?_toList → qBb
set_option maxRecDepth 1000000
set_option maxHeartbeats 0
noncomputable section
namespace Go.Av
mutual
def AV.wt:AV->Nat
 | .str s=>s.length+1
 | .sl rows=>wtR rows+1
 |_=>1
def wtL:List AV->Nat
 |[]=>0
 |a::l=>a.wt+wtL l
def wtR:List (List AV)->Nat
 |[]=>0
 |a::l=>wtL a+wtR l
end
@[simp] theorem qxa:wtL []=0:=by rw[wtL]
@[simp] theorem qvs(a:AV)(l:List AV):wtL (a::l)=a.wt+wtL l:=by rw[wtL]
@[simp] theorem wtR_nil:wtR []=0:=by rw[wtR]
@[simp] theorem qvr(a:List AV)(l:List (List AV)):wtR (a::l)=wtL a+wtR l:=by rw[wtR]
@[simp] theorem wt_int(k:IntKind)(n:Int):(AV.int k n).wt=1:=by rw[AV.wt]<;>simp
@[simp] theorem wt_bool(b:Bool):(AV.bool b).wt=1:=by rw[AV.wt]<;>simp
@[simp] theorem wt_str(s:List UInt8):(AV.str s).wt=s.length+1:=by rw[AV.wt]
@[simp] theorem qAe(r:List (List AV)):(AV.sl r).wt=wtR r+1:=by rw[AV.wt]
theorem qrD(a b:List AV):wtL (a++b)=wtL a+wtL b:=by
 induction a with
 |nil=>simp
 |cons x l ih=>simp[ih];omega
end Go.Av
namespace Go.Proofs.YtafdkafbgohigaaGreat
open Go.Av Go.WideShapes
def qjL(P:Program):Nat->List Field->Option Nat
 |off,[]=>some off
 |off,f::fs=>if f.offset=off then qjL P (off+P.cellsOf f.type) fs else none
def qgR(P:Program)(ts:List TypeId)(t:TypeId):Bool:=
 match P.underlying t with
 |some (.int _)|some .bool|some .string=>decide (P.cellsOf t=1)
 |some (.struct fs)=>decide (qjL P 0 fs.toList=some (P.cellsOf t))&&fs.toList.all (λf=>decide (f.type∈ts))
 |some (.slice e)=>decide (P.cellsOf t=1)&&(decide (e∈ts)&&decide (0<P.cellsOf e))
 |_=>false
def Lay(P:Program):Nat->TypeId->List AV->Prop
 |0,_,_=>False
 |n+1,t,cz=>
  match P.underlying t with
  |some (.int k)=>∃m,cz=[.int k m]∧(Lit.int k m).wf=true
  |some .bool=>∃b,cz=[.bool b]
  |some .string=>∃s,cz=[.str s]
  |some (.struct fs)=>cz.length=P.cellsOf t∧∀(i:Nat) f,fs[i]? =some f->Lay P n f.type ((cz.drop f.offset).take (P.cellsOf f.type))
  |some (.slice e)=>∃rows,cz=[.sl rows]∧∀row∈rows,row.length=P.cellsOf e∧Lay P n e row
  |_=>False
def yc(W:World)(cs:List Value)(cz:List AV):Prop:=cz.length=cs.length∧∀(j:Nat) a v,cz[j]? =some a->cs[j]? =some v->a.isCell=true∧Rep (C0 W) M0 a v
theorem yc.nil{W:World}:yc W [] []:=⟨rfl,λj a v h=>by simp at h⟩
theorem yc.one{W:World}{a:AV}{v:Value}(h1:a.isCell=true)(h2:Rep (C0 W) M0 a v):yc W [v] [a]:=⟨rfl,λj a' v' ha hv=>by
 match j,ha,hv with
 |0,ha,hv=>simp at ha hv;subst ha hv;exact⟨h1,h2⟩
 |j+1,ha,hv=>simp at ha⟩
theorem yc.append{W:World}{cs cs':List Value}{cz cz':List AV}(h:yc W cs cz)(h':yc W cs' cz'):yc W (cs++cs') (cz++cz'):=by
 refine⟨by simp[h.1,h'.1],λj a v ha hv=>?_⟩
 by_cases hj:j<cz.length
 ·rw[qAN hj]at ha;rw[qAN (by rw[←h.1];exact hj)]at hv;exact h.2 j a v ha hv
 ·rw[qAP (by omega)]at ha;rw[qAP (by rw[←h.1];omega),←h.1]at hv;exact h'.2 _ a v ha hv
noncomputable section
variable {H : Type} {enc : TypeId × Value → H} {P : Program} {W : World}
def qw7(enc:TypeId×Value->H)(P:Program)(W:World)(n:Nat)(t:TypeId):Prop:=
 ∀cs x,DataW.trod enc P W 0 (λ_=>true) true n t cs=some x->∃cz,yc W cs cz∧cs.length=P.cellsOf t∧Lay P n t cz∧wtL cz<=Rows.uptoBulk x.1∧qz 0 cz=true ∧
  ∀(W':World) (sp:Nat->Bool),(∀p∈x.2,W.sameAt W' p)->(∀p∈x.2,sp p.block=true)->DataW.trod enc P W' 0 sp true n t cs=some x
theorem qqf{n:Nat}{ts:List TypeId}(ih:∀t∈ts,qw7 enc P W n t){cs:List Value}:∀(fs:List Field) (off:Nat),qjL P off fs=some cs.length->(∀f∈fs,f.type∈ts) ->
  ∀xs,(fs.mapM λf=>DataW.trod enc P W 0 (λ_=>true) true n f.type ((cs.drop f.offset).take (P.cellsOf f.type)))=some xs ->
  ∃cz,yc W (cs.drop off) cz∧(∀f∈fs,off<=f.offset∧Lay P n f.type ((cz.drop (f.offset - off)).take (P.cellsOf f.type)))∧wtL cz<=Rows.uptoBulkAll (xs.map (·.1))∧qz 0 cz=true ∧
   ∀(W':World) (sp:Nat->Bool),(∀p∈xs.flatMap (·.2),W.sameAt W' p)->(∀p∈xs.flatMap (·.2),sp p.block=true) ->
    (fs.mapM λf=>DataW.trod enc P W' 0 sp true n f.type ((cs.drop f.offset).take (P.cellsOf f.type)))=some xs:=by
 intro fs
 induction fs with
 |nil=>
  intro off ht _ xs hx;rw[qjL]at ht;cases ht;simp at hx;subst hx;refine⟨[],?_,λf hf=>by simp at hf,by simp,rfl,λW' sp _ _=>by simp⟩;rw[List.drop_length];exact yc.nil
 |cons f fs ihf=>
  intro off ht hin xs hx;rw[qjL]at ht;split at ht
  ·rename_i ho;rw[List.mapM_cons]at hx;obtain⟨x,h1,hx⟩:=qAx.1 hx;obtain⟨ys,h2,hx⟩:=qAx.1 hx;cases hx;obtain⟨a1,c1,l1,y1,w1,r1,b1⟩:=ih f.type (hin f (by simp)) _ _ h1;obtain⟨a2,c2,y2,w2,r2,b2⟩:=ihf (off+P.cellsOf f.type) ht (λg hg=>hin g (by simp[hg])) ys h2;have hlen:a1.length=P.cellsOf f.type:=by rw[c1.1,l1]
   refine⟨a1++a2,?_,λg hg=>?_,?_,qaR r1 r2,λW' sp hs hp=>?_⟩
   ·have:=c1.append c2;rw[ho,←List.drop_drop,List.take_append_drop]at this;exact this
   ·rcases qAZ.1 hg with rfl|hg
    ·refine⟨by omega,?_⟩;rw[ho,Nat.sub_self,qA4,←hlen,List.take_append_of_le_length (qAA _),List.take_length];exact y1
    ·obtain⟨g1,g2⟩:=y2 g hg;refine⟨by omega,?_⟩;have:qAO (g.offset - off) (a1++a2)=qAO (g.offset - (off+P.cellsOf f.type)) a2:=by
      have e:g.offset - off=a1.length+(g.offset - (off+P.cellsOf f.type)):=by omega
      rw[e,←List.drop_drop,List.drop_left]
     rw[this];exact g2
   ·rw[qrD];simp only[qBf,Rows.uptoBulkAll];omega
   ·rw[List.mapM_cons,b1 W' sp (λp hpp=>hs p (by simp[hpp])) (λp hpp=>hp p (by simp[hpp]))];have b3:=b2 W' sp (λp hpp=>hs p (by rw[List.flatMap_cons];exact List.mem_append_right _ hpp)) (λp hpp=>hp p (by rw[List.flatMap_cons];exact List.mem_append_right _ hpp));show Option.bind _ _=_;rw[qAL];show Option.bind _ _=_;rw[b3];rfl
  ·cases ht
theorem qmL{e:Nat}:∀(rows:List (List AV)) (ds:List (DataW H)),rows.length=ds.length->(∀(i:Nat) row d,rows[i]? =some row->ds[i]? =some d->wtL row<=Rows.uptoBulk d)->wtR rows<=Rows.uptoBulkAll ds
 |[],[],_,_=>by simp[Rows.uptoBulkAll]
 |t::l,d::ds,hl,h=>by
  have h0:=h 0 t d rfl rfl;have:=qmL (e:=e) l ds (by simpa using hl) (λi t d ht hd=>h (i+1) t d (by simpa using ht) (by simpa using hd));simp only[qvr,Rows.uptoBulkAll];omega
theorem qvQ{ts:List TypeId}(hts:∀t∈ts,qgR P ts t=true):∀(n:Nat),∀t∈ts,qw7 enc P W n t:=by
 intro n
 induction n with
 |zero=>intro t _ cs x h;simp[DataW.trod]at h
 |succ n ih=>
  intro t ht cs x h;have hg:=hts t ht;unfold qgR at hg;split at hg
  ·rename_i k hu;obtain⟨m,rfl,rfl,hw⟩:=DataW.trod_int hu h;refine⟨[.int k m],yc.one rfl (.int _ _),(of_decide_eq_true hg).symm,by unfold Lay;rw[hu];exact⟨m,rfl,hw⟩,by simp[Rows.uptoBulk],rfl,λW' sp _ _=>?_⟩;simp[DataW.trod,hu,hw]
  ·rename_i hu;obtain⟨b,rfl,rfl⟩:=DataW.trod_bool hu h;refine⟨[.bool b],yc.one rfl (.bool _),(of_decide_eq_true hg).symm,by unfold Lay;rw[hu];exact⟨b,rfl⟩,by simp[Rows.uptoBulk],rfl,λW' sp _ _=>?_⟩;simp[DataW.trod,hu]
  ·rename_i hu;obtain⟨s,rfl,rfl,hw⟩:=DataW.trod_string hu h;refine⟨[.str s.data.toList],yc.one rfl ?_,(of_decide_eq_true hg).symm,by unfold Lay;rw[hu];exact⟨_,rfl⟩,by simp[Rows.uptoBulk],rfl,λW' sp _ _=>?_⟩
   ·have:=Rep.str (C:=C0 W) (μ:=M0) s.data.toList
    simpa using this
   ·simp[DataW.trod,hu,hw]
  ·rename_i fs hu;rw[qAw,decide_eq_true_eq,qBd]at hg;have h':=h;unfold DataW.trod at h';rw[hu]at h';simp only[]at h';split at h'
   ·rename_i hl;obtain⟨xs,hx,rfl⟩:=qAD.1 h';rw[←hl]at hg;obtain⟨cz,c,y,w,r,b⟩:=qqf ih fs.toList 0 hg.1 (λf hf=>of_decide_eq_true (hg.2 f hf)) xs hx;rw[qA4]at c;refine⟨cz,c,hl,?_,?_,r,λW' sp hs hp=>?_⟩
    ·unfold Lay;rw[hu];refine⟨by rw[c.1,hl],λi f hf=>?_⟩;have:=y f (by rw[←qBb]at hf;exact qAJ hf);rw[Nat.sub_zero]at this;exact this.2
    ·simp only[Rows.uptoBulk];omega
    ·unfold DataW.trod;rw[hu];simp only[];rw[qBj hl,b W' sp hs hp];rfl
   ·cases h'
  ·rename_i e hu;rw[qAw,qAw,decide_eq_true_eq,decide_eq_true_eq,decide_eq_true_eq]at hg;obtain⟨hc1,he,hpos⟩:=hg;rcases DataW.trod_slice hu h with⟨rfl,rfl⟩|⟨a,len,cap,elems,rest,n',e',rfl,rfl,hb,hlc,hmx,hel,hg,hsp,_⟩
   ·refine⟨[.sl []],yc.one rfl .slNil,hc1.symm,by unfold Lay;rw[hu];exact⟨[],rfl,λr hr=>by simp at hr⟩,by simp[Rows.uptoBulk],rfl,λW' sp _ _=>?_⟩;simp[DataW.trod,hu]
   ·obtain rfl:n'=n:=by omega
    obtain⟨hrl,hrg⟩:=hsp rfl;have ihe:=ih e he;have tms:∃f:Nat->List AV,∀(i:Nat) y,elems[i]? =some y->∃cs',W.cells? 0 (a.add (i*P.cellsOf e)) (P.cellsOf e)=some cs'∧yc W cs' (f i)∧cs'.length=P.cellsOf e∧Lay P n' e (f i)∧wtL (f i)<=Rows.uptoBulk y.1∧qz 0 (f i)=true:=by
     have:∀i:Nat,∃t:List AV,∀y,elems[i]? =some y->∃cs',W.cells? 0 (a.add (i*P.cellsOf e)) (P.cellsOf e)=some cs'∧yc W cs' t∧cs'.length=P.cellsOf e∧Lay P n' e t∧wtL t<=Rows.uptoBulk y.1∧qz 0 t=true:=by
      intro i;cases hy:elems[i]? with
      |none=>exact⟨default,λy h=>by cases h⟩
      |some y=>
       have hi:i<len:=by rw[←hel];exact(qAy.1 hy).1
       obtain⟨cs',h1,h2⟩:=qAx.1 ((hg i hi).trans hy);obtain⟨t,h3,h4,h5,h6,h7,_⟩:=ihe _ _ h2;exact⟨t,λy' hy'=>by cases hy';exact⟨cs',h1,h3,h4,h5,h6,h7⟩⟩
     exact⟨λi=>Classical.choose (this i),λi=>Classical.choose_spec (this i)⟩
    obtain⟨f,hf⟩:=tms;have hget:∀(i:Nat) (row:List AV),((qA7 len).map f)[i]? =some row->i<len∧row=f i:=by
     intro i row hi;have hil:i<len:=by have:=(qAy.1 hi).1;simpa using this
     refine⟨hil,?_⟩;rw[List.getElem?_map,List.getElem?_range hil]at hi
     simpa using hi.symm
    have hrow:∀(i:Nat) (row:List AV),((qA7 len).map f)[i]? =some row->row.length=P.cellsOf e∧Lay P n' e row∧qz 0 row=true:=by
     intro i row hi;obtain⟨hil,rfl⟩:=hget i row hi;obtain⟨cs',h1,h2,h3,h4,h5,h6⟩:=hf i _ (qAv (by omega));exact⟨by rw[h2.1,h3],h4,h6⟩
    have hspot:((qA7 len).map f)≠[]->a.spot=none:=by
     intro hne;have hl0:0<len:=by
      rcases Nat.eq_zero_or_pos len with h0|h0
      ·subst h0;exact absurd (by simp) hne
      ·exact h0
     obtain⟨cs0,q1,_⟩:=hf 0 _ (qAv (by omega));have:=(qaY q1 (by omega)).1
     simpa [Addr.add]using this
    have hcell:∀(i j:Nat) (row:List AV) x,((qA7 len).map f)[i]? =some row->row[j]? =some x->x.isCell=true∧∃v,W.cell? ⟨a.block,a.off+i*P.cellsOf e+j,none⟩=some v∧Rep (C0 W) M0 x v:=by
     intro i j row x hi hj;have hs:=hspot (by intro h0;rw[h0]at hi;simp at hi);obtain⟨hil,rfl⟩:=hget i row hi;obtain⟨cs',h1,h2,h3,_⟩:=hf i _ (qAv (by omega));obtain⟨s1,s2,s3⟩:=qaY h1 (by omega);have hjl:j<cs'.length:=by
      rw[←h2.1];exact(qAy.1 hj).1
     have h4:=h2.2 j x _ hj (qAv hjl);refine⟨h4.1,_,?_,h4.2⟩;have:=s3 j _ (qAv hjl);rw[yU _ _ hs]at this;exact this
    have hfree:qQ 0 ((qA7 len).map f)=true:=by
     have:∀l:List (List AV),(∀r∈l,qz 0 r=true)->qQ 0 l=true:=by
      intro l
      induction l with
      |nil=>intro _;rfl
      |cons r l ih=>intro h;rw[qQ,h r (by simp),ih λq hq=>h q (by simp[hq])];rfl
     refine this _ λr hr=>?_
     obtain⟨i,hi⟩:=List.getElem?_of_mem hr;exact(hrow i r hi).2.2
    refine⟨[.sl ((qA7 len).map f)],yc.one rfl ?_,hc1.symm,?_,?_,rfl,λW' sp hs hp=>?_⟩
    ·have:=Rep.sl (C:=C0 W) (μ:=M0) ((qA7 len).map f) a cap (P.cellsOf e) (λi j=>(W.cell? ⟨a.block,a.off+i*P.cellsOf e+j,none⟩).getD undef) hspot (λi row hi=>(hrow i row hi).1) (λi j row x hi hj=>?_) (λi j row x hi hj=>?_) (λi j row x hi hj=>?_) (by simpa using hlc) hfree
     ·simpa using this
     ·obtain⟨_,v,h1,_⟩:=hcell i j row x hi hj;show W.cell? _=_;rw[h1];rfl
     ·obtain⟨_,v,h1,h2⟩:=hcell i j row x hi hj;rw[h1];exact h2
     ·exact(hcell i j row x hi hj).1
    ·unfold Lay;rw[hu];refine⟨_,rfl,λrow hr=>?_⟩;obtain⟨i,hi⟩:=List.getElem?_of_mem hr;exact⟨(hrow i row hi).1,(hrow i row hi).2.1⟩
    ·simp only[Rows.uptoBulk,qvs,qxa,qAe];have:=qmL (e:=0) ((qA7 len).map f) (elems.map (·.1)) (by simp[hel]) (λi t d ht hd=>by
      rw[List.getElem?_map]at ht hd;obtain⟨j,hj,rfl⟩:=qAD.1 ht;obtain⟨y,hy,rfl⟩:=qAD.1 hd;have hil:i<len:=by have:=(qAy.1 hj).1;simpa using this
      rw[List.getElem?_range hil]at hj;cases hj;obtain⟨_,_,_,_,_,h5,_⟩:=hf i y hy;exact h5)
     omega
    ·have hrow':0<(elems.length+rest.length)->sp a.block=true:=λhps=>hp (.cell a.block (a.off+0)) (by
      rw[qAY];exact .inl (MemPlace.mem_row.2 ⟨0,Nat.mul_pos hps hpos,rfl⟩))
     unfold DataW.trod at h⊢;rw[hu]at h⊢;simp only[if_true]at h⊢;rw[qBj ⟨hb,hlc,hmx⟩]at h⊢;simp only[qAD,qAx]at h⊢;obtain⟨elems',he,rest',hr,hx⟩:=h;have hlen:elems'.length=len:=by simpa using mapM_some_length he
     have hrl':rest'.length=cap - len:=by simpa using mapM_some_length hr
     simp only[Prod.mk.injEq,DataW.slice.injEq]at hx;have one':∀(i:Nat) (y:DataW H×List MemPlace),i<elems'.length+rest'.length->y∈elems'++rest' ->
       (W.cells? 0 (a.add (i*P.cellsOf e)) (P.cellsOf e)).bind (DataW.trod enc P W 0 (λ_=>true) true n' e)=some y->(W'.cells? 0 (a.add (i*P.cellsOf e)) (P.cellsOf e)).bind (DataW.trod enc P W' 0 sp true n' e)=some y:=by
      intro i y hi hy hv;simp only[qAx]at hv⊢;obtain⟨cs',hc',hy'⟩:=hv;obtain⟨_,_,_,_,_,_,hbk⟩:=ihe _ _ hy';refine⟨cs',World.cells?_carry hc' (λp hpp=>hs p ?_),hbk W' sp (λp hpp=>hs p ?_) (λp hpp=>hp p ?_)⟩
      ·rw[←hx.2];obtain⟨j,hj,rfl⟩:=MemPlace.mem_row.1 hpp;simp only[qAY]
       left
       refine MemPlace.mem_row.2 ⟨i*P.cellsOf e+j,?_,?_⟩
       ·calc i*P.cellsOf e+j<i*P.cellsOf e+P.cellsOf e:=by omega
         _=(i+1)*P.cellsOf e:=by rw[qBg,Nat.one_mul]
         _<=(elems'.length+rest'.length)*P.cellsOf e:=qAX _ hi
       ·unfold Addr.add;split
        ·rename_i h0;simp[h0]
        ·simp[qBa]
      ·rw[←hx.2];simp only[qAY,List.mem_flatMap]
       right
       exact⟨y,by simpa using hy,hpp⟩
      ·rw[←hx.2];simp only[qAY,List.mem_flatMap]
       right
       exact⟨y,by simpa using hy,hpp⟩
     refine⟨elems',mapM_carry he (λi y hi hy=>one' i y (by have:i<len:=(by simpa using hi);omega) (by simp[hy])),rest',?_,by simp only[Prod.mk.injEq,DataW.slice.injEq];exact hx⟩
     by_cases h0:0<elems.length+rest.length
     ·rw[qBj (hrow' h0)];exact mapM_carry hr (λj y hj hy=>one' (len+j) y (by have:j<cap - len:=(by simpa using hj);omega) (by simp[hy]))
     ·have hc0:cap - len=0:=by omega
      rw[hc0]at hr⊢;simp at hr;subst hr;split<;>rfl
  ·cases hg
theorem qsj{ts:List TypeId}(hts:∀t∈ts,qgR P ts t=true){t e:TypeId}(ht:t∈ts)(hu:P.underlying t=some (.slice e)){r:Reach}{b0:Nat}{v:Value}{d:DataW H}{ps:List MemPlace}(hval:Value.okWide P W r b0 t v)(hd:DataW.Trod enc P W 0 (λ_=>true) true t v d ps):
  ∃(rows:List (List AV)) (n:Nat),Opened enc P W t v d ps (.sl rows)∧(∀row∈rows,row.length=P.cellsOf e∧Lay P n e row)∧wtR rows<Rows.uptoBulk d:=by
 obtain⟨a,len,cap,rfl⟩:=okWide_slice hu hval;obtain⟨n,hn⟩:=hd;obtain⟨cz,h1,h2,h3,h4,h5,h6⟩:=qvQ hts n t ht _ _ hn;cases n with
 |zero=>exact absurd h3 (by unfold Lay;exact id)
 |succ n=>
  unfold Lay at h3;rw[hu]at h3;obtain⟨rows,rfl,h3⟩:=h3;refine⟨rows,n,⟨?_,λW' sp hs hp=>⟨n+1,h6 W' sp hs hp⟩⟩,h3,?_⟩
  ·exact(h1.2 0 _ _ rfl (by simp[Value.cells])).2
  ·simp at h4;exact h4
end
theorem qv0{α:Type}{P:Program}{n:Nat}{e:TypeId}{f:α->List AV}{w:α->Nat}(h:∀cz,Lay P n e cz->∃x:α,cz=f x∧w x<wtL cz):∀rows:List (List AV),(∀row∈rows,row.length=P.cellsOf e∧Lay P n e row) ->
  ∃l:List α,rows=l.map f∧(∀x∈l,w x<wtR rows)∧l.length<=wtR rows:=by
 intro rows
 induction rows with
 |nil=>intro _;exact⟨[],rfl,λx hx=>by simp at hx,by simp⟩
 |cons r rows ih=>
  intro hr;obtain⟨x,e1,w1⟩:=h r (hr r (by simp)).2;obtain⟨l,e2,w2,w3⟩:=ih λq hq=>hr q (by simp[hq])
  refine⟨x::l,by rw[qBf,←e1,←e2],λy hy=>?_,by simp;omega⟩;rcases qAZ.1 hy with rfl|hy
  ·simp;omega
  ·have:=w2 y hy;simp;omega
theorem qlY{H:Type}{l:List (DataW H)}(hk:Rows.uptoSmall H l=true){d:DataW H}(hd:d∈l):Rows.uptoBulk d<=1048576:=by
 have h:Rows.uptoBulkAll l<=1048576:=of_decide_eq_true hk;have:=qu1 hd;omega
structure InsA where
 o:Int
 a:Int
 b:Int
 t:Tm
def InsA.av(x:InsA):AV:=.agg (.int .i64 x.o:: .int .i64 x.a:: .int .i64 x.b::x.t.cells)
structure InsA.Ok (x:InsA):Prop where
 o1: -9223372036854775808<=x.o
 o2:x.o<=9223372036854775807
 a1: -9223372036854775808<=x.a
 a2:x.a<=9223372036854775807
 b1: -9223372036854775808<=x.b
 b2:x.b<=9223372036854775807
 w:x.t.w<1099511627776
end Go.Proofs.YtafdkafbgohigaaGreat
end
noncomputable section
namespace Go.Av
@[simp] theorem Tm.kind_mk(k n:Int)(s:List UInt8)(l:List Tm):(Tm.mk k n s l).kind=k:=rfl
@[simp] theorem Tm.num_mk(k n:Int)(s:List UInt8)(l:List Tm):(Tm.mk k n s l).num=n:=rfl
@[simp] theorem Tm.str_mk(k n:Int)(s:List UInt8)(l:List Tm):(Tm.mk k n s l).str=s:=rfl
@[simp] theorem Tm.subs_mk(k n:Int)(s:List UInt8)(l:List Tm):(Tm.mk k n s l).subs=l:=rfl
@[simp] theorem Tm.eta(t:Tm):Tm.mk t.kind t.num t.str t.subs=t:=by cases t;rfl
theorem Tm.cells_eq(t:Tm):t.cells=[.int .i64 t.kind,.int .i64 t.num,.str t.str,.sl (qa t.subs)]:=by cases t;rw[Tm.cells_mk];rfl
@[simp] theorem cells_fold(k n:Int)(s:List UInt8)(l:List Tm):[AV.int .i64 k,AV.int .i64 n,AV.str s,AV.sl (qa l)]=(Tm.mk k n s l).cells:=(Tm.cells_mk k n s l).symm
@[simp] theorem cells_fold0(k n:Int)(s:List UInt8):[AV.int .i64 k,AV.int .i64 n,AV.str s,AV.sl []]=(Tm.mk k n s []).cells:=by rw[Tm.cells_mk,vj]
@[simp] theorem agg_cells(t:Tm):AV.agg t.cells=t.av:=rfl
@[simp] theorem qtU(t:Tm):[t.cells]=qa [t]:=by rw[qK,vj]
@[simp] theorem rowsT_cons'(t:Tm)(l:List Tm):t.cells::qa l=qa (t::l):=(qK t l).symm
@[simp] theorem rowsT_append'(a b:List Tm):qa a++qa b=qa (a++b):=(vH a b).symm
@[simp] theorem rowsT_app(a b:List Tm):qAG (qa a) (qa b)=qa (a++b):=(vH a b).symm
@[simp] theorem rowsT_take'(n:Nat)(a:List Tm):(qa a).take n=qa (a.take n):=qrW n a
@[simp] theorem rowsT_drop'(n:Nat)(a:List Tm):(qa a).drop n=qa (a.drop n):=qrX n a
@[simp] theorem rowsT_set'(l:List Tm)(i:Nat)(t:Tm):(qa l).set i t.cells=qa (l.set i t):=qtT l i t
@[simp] theorem rowsT_get'(l:List Tm)(i:Nat):(qa l)[i]? =(l[i]?).map Tm.cells:=yQ l i
@[simp] theorem rowsT_getElem(l:List Tm)(i:Nat)(h:i<(qa l).length):(qa l)[i]=(l[i]'(by simpa using h)).cells:=by
 have h1:=yQ l i
 rw[qAv h,qAv (by simpa using h)]at h1
 exact Option.some.inj h1
@[simp] theorem kOpt_map{α β γ:Type}(o:Option β)(g:β->γ)(k:γ->Option α):kOpt (o.map g) k=kOpt o λx=>k (g x):=by cases o<;>rfl
@[simp] theorem qv(t:Tm):t.cells.length=4:=by rw[Tm.cells_eq];rfl
@[simp] theorem qG(t:Tm):t.cells.take 4=t.cells:=by rw[Tm.cells_eq];rfl
@[simp] theorem drop_cells(t:Tm):t.cells.drop 4=[]:=by rw[Tm.cells_eq];rfl
@[simp] theorem cells_0(t:Tm):t.cells[0]? =some (.int .i64 t.kind):=by rw[Tm.cells_eq];rfl
@[simp] theorem cells_1(t:Tm):t.cells[1]? =some (.int .i64 t.num):=by rw[Tm.cells_eq];rfl
@[simp] theorem cells_2(t:Tm):t.cells[2]? =some (.str t.str):=by rw[Tm.cells_eq];rfl
@[simp] theorem cells_3(t:Tm):t.cells[3]? =some (.sl (qa t.subs)):=by rw[Tm.cells_eq];rfl
@[simp] theorem refs_cells(n:Nat)(t:Tm):qz n t.cells=true:=by rw[Tm.cells_eq];rfl
@[simp] theorem allCells_cells(t:Tm):xp t.cells=true:=by rw[Tm.cells_eq];rfl
@[simp] theorem rowsT_free'(l:List Tm):qQ 0 (qa l)=true:=qjS l
@[simp] theorem qan(l:List Tm):vq 4 (qa l)=true:=by
 cases l with
 |nil=>rw[vj];rfl
 |cons t l=>rw[qK,vq,qv];rfl
@[simp] theorem qF{α:Type}(t:Tm)(k:Int->Int->List UInt8->List (List AV)->Option α):kTmC t.cells k=k t.kind t.num t.str (qa t.subs):=by rw[Tm.cells_eq];rfl
@[simp] theorem qaG{α:Type}(t:Tm)(k:Int->Int->List UInt8->List (List AV)->Option α):kTmV t.av k=k t.kind t.num t.str (qa t.subs):=by rw[Tm.av,Tm.cells_eq];rfl
theorem qtC{i n:Nat}(h:i<n)(hn:n<1099511627776):qAH .i64 ((i:Int)+1)=(i:Int)+1:=vE (by omega) (by omega)
@[simp] theorem cast_nn(q:Nat):(0<=(q:Int)+1)=True:=eq_true (by omega)
@[simp] theorem cast_le1(q n:Nat):((q:Int)+1<=(n:Int))=(q+1<=n):=propext (by omega)
@[simp] theorem cast_lt1(q n:Nat):((q:Int)+1<(n:Int))=(q+1<n):=propext (by omega)
@[simp] theorem cast_nn'(q:Nat):(0<(q:Int)+1)=True:=eq_true (by omega)
@[simp] theorem cast_ne0(q:Nat):((q:Int)+1==0)=false:=by rw[beqD];exact qBi (by omega)
@[simp] theorem cast_lt_s(q:Nat):((q:Int)<(q:Int)+1)=True:=eq_true (by omega)
@[simp] theorem cast_le_s(q:Nat):((q:Int)<=(q:Int)+1)=True:=eq_true (by omega)
theorem qAf{n:Nat}(hn:n<4398046511104):qAH .i64 (n:Int)=n:=vE (by omega) (by omega)
def C3(p q r:Int):Prop:=(p<=0->q<=0->r<=0)∧(p<0->q<=0->r<0)∧(p<=0->q<0->r<0)∧(0<=p->0<=q->0<=r)∧(0<p->0<=q->0<r)∧(0<=p->0<q->0<r)
def yq(k n:Int)(s:List UInt8)(m:Nat):Bool:=
 if k=1 then decide (-576460752303423488<=n)&&(decide (n<=576460752303423487)&&(decide (s=[])&&decide (m=0)))
 else if k=2 then decide (n=0)&&(decide (s.length<=64)&&decide (m=0))
 else if k=3 then decide (0<=n)&&(decide (n<=1073741824)&&(decide (s=[])&&decide (m=0)))
 else if k=4 then decide (0<=n)&&(decide (n<=1073741824)&&(decide (s=[])&&decide (m=0)))
 else if k=6 then decide (0<=n)&&(decide (n<=1073741824)&&(decide (s=[])&&decide (m=0)))
 else if k=5 then decide (0<=n)&&(decide (n<=1073741824)&&(decide (s=[])&&decide (m<=64)))
 else if k=7 then decide (n=0)&&(decide (s=[])&&decide (m<=64))
 else if k=8 then decide (n=0)&&(decide (s=[])&&decide (m=0))
 else if k=9 then decide (n=0)&&(decide (s=[])&&decide (m=2))
 else false
def Tm.sound(t:Tm):Bool:=yq t.kind t.num t.str t.subs.length
def Tm.own(t:Tm):Nat:=if t.kind=7∨t.kind=5 then 2 else 1
theorem vX(a b:Bool):(bif a then some (AV.bool b)else some (AV.bool false))=some (.bool (a&&b)):=by cases a<;>rfl
theorem qu5(s:List UInt8):(s==[])=decide (s=[]):=by cases s<;>simp
theorem beqI(a b:Int):(a==b)=decide (a=b):=by simp[beqD]
mutual
/-- may all parts of a term be? -/
def Tm.parts:Tm->Bool
 | .mk k n s l=>yq k n s l.length&&vN l
def vN:List Tm->Bool
 |[]=>true
 |t::l=>t.parts&&vN l
end
mutual
/-- how many words all parts have -/
def Tm.words:Tm->Nat
 | .mk k n s l=>(Tm.mk k n s l).own+vh l
def vh:List Tm->Nat
 |[]=>0
 |t::l=>t.words+vh l
end
theorem Tm.parts_eq(t:Tm):t.parts=(t.sound&&vN t.subs):=by cases t;rw[Tm.parts];rfl
theorem Tm.words_eq(t:Tm):t.words=t.own+vh t.subs:=by cases t;rw[Tm.words];rfl
theorem qcC(a b:List Tm):vN (a++b)=(vN a&&vN b):=by
 induction a with
 |nil=>simp[vN]
 |cons x l ih=>simp[vN,ih,Bool.and_assoc]
theorem qcA(a b:List Tm):vh (a++b)=vh a+vh b:=by
 induction a with
 |nil=>simp[vh]
 |cons x l ih=>simp[vh,ih];omega
theorem qsg(a:List Tm):vN a.reverse=vN a:=by
 induction a with
 |nil=>rfl
 |cons x l ih=>simp[qcC,vN,ih,Bool.and_comm]
theorem qrG(a:List Tm):vh a.reverse=vh a:=by
 induction a with
 |nil=>rfl
 |cons x l ih=>simp[qcA,vh,ih];omega
theorem Tm.own_le(t:Tm):t.own<=2∧1<=t.own:=by unfold Tm.own;split<;>omega
theorem qvt(t:Tm):t.words<=2*t.w:=by
 induction t using Tm.ind with
 |_ k n s l ih=>
  have h1:vh l<=2*wL l:=by
   clear n s
   induction l with
   |nil=>simp[vh]
   |cons x l ih2=>
    have:=ih x (by simp);have:=ih2 (λt ht=>ih t (by simp[ht]));simp[vh];omega
  have:=(Tm.mk k n s l).own_le;rw[Tm.words,Tm.w_mk];omega
def chkS(R:List Tm)(wd:Nat):Int:=if vN R then(if 65536<wd+vh R then 3 else 0)else 2
def Tm.chk(t:Tm):Int:=chkS [t] 0
theorem qwq{R:List Tm}{x:Tm}{wd:Nat}(h:x.sound=false):chkS (R++[x]) wd=2:=by
 unfold chkS;rw[qcC];simp[vN,Tm.parts_eq,h]
theorem qmJ{R:List Tm}{x:Tm}{wd:Nat}(h:x.sound=true):chkS (R++x.subs.reverse) (wd+x.own)=chkS (R++[x]) wd:=by
 unfold chkS;simp only[qcC,qsg,qcA,qrG,vN,vh,Tm.parts_eq,Tm.words_eq,h,qA9,Bool.and_true];have:wd+x.own+(vh R+vh x.subs)=wd+(vh R+(x.own+vh x.subs+0)):=by omega
 rw[this]
def tupT(l:List Tm):Tm:=.mk 7 0 [] l
def qwS:Tm:=.mk 0 0 [] []
def InB(a:Int):Prop:= -576460752303423488<=a∧a<=576460752303423487
instance (a:Int):Decidable (InB a):=inferInstanceAs (Decidable (_∧_))
theorem beqS(a b:List UInt8):(a==b)=decide (a=b):=by by_cases h:a=b<;>simp[h]
structure Env where
 obj:Tm
 binds:List (Int×Tm)
 self:Int
def qbu:List (List UInt8×List Int):=[
 ([115,101,108,102],[0]),
 ([105,115,95,97,116,111,109],[1]),
 ([105,115,95,105,110,116,101,103,101,114],[1]),
 ([105,115,95,108,105,115,116],[1]),
 ([105,115,95,116,117,112,108,101],[1]),
 ([105,115,95,112,105,100],[1]),
 ([105,115,95,102,117,110,99,116,105,111,110],[1]),
 ([105,115,95,114,101,102,101,114,101,110,99,101],[1]),
 ([110,111,116],[1]),
 ([98,110,111,116],[1]),
 ([97,98,115],[1]),
 ([116,117,112,108,101,95,115,105,122,101],[1]),
 ([115,105,122,101],[1]),
 ([104,100],[1]),
 ([116,108],[1]),
 ([108,101,110,103,116,104],[1]),
 ([43],[1,2]),
 ([45],[1,2]),
 ([61,61],[2]),
 ([61,58,61],[2]),
 ([47,61],[2]),
 ([61,47,61],[2]),
 ([60],[2]),
 ([61,60],[2]),
 ([62],[2]),
 ([62,61],[2]),
 ([97,110,100],[2]),
 ([111,114],[2]),
 ([120,111,114],[2]),
 ([97,110,100,97,108,115,111],[2]),
 ([111,114,101,108,115,101],[2]),
 ([42],[2]),
 ([100,105,118],[2]),
 ([114,101,109],[2]),
 ([98,97,110,100],[2]),
 ([98,111,114],[2]),
 ([98,120,111,114],[2]),
 ([101,108,101,109,101,110,116],[2])]
def qag{β:Type}(op:List UInt8)(d:β):List (List UInt8×β)->β
 |[]=>d
 |p::l=>bif op==p.1 then p.2 else qag op d l
theorem qgz{β γ:Type}(g:β->γ)(op:List UInt8)(d:β):∀l:List (List UInt8×β),qag op (g d) (l.map λp=>(p.1,g p.2))=g (qag op d l)
 |[]=>rfl
 |p::l=>by
  rw[qBf,qag,qag,qgz g op d l];cases op==p.1<;>rfl
def opsG(op:List UInt8):List Int:=qag op [] qbu
def ql(l:List Int):List (List AV):=l.map λn=>[.int .i64 n]
theorem qP(l:List Int):(ql l).length=l.length:=by simp[ql]
theorem zc(l:List Int)(i:Nat):(ql l)[i]? =(l[i]?).map λn=>[AV.int .i64 n]:=by simp[ql]
def qAh(n:Int):Bool:=decide (1<=n)&&decide (n<=1073741824)
theorem Tm.Ok.subs{t:Tm}(h:t.Ok){x:Tm}(hx:x∈t.subs):x.Ok:=by
 obtain⟨k,n,s,l⟩:=t;exact h.sub hx
def yb(b:UInt8):Option Int:=if b.toNat<48 then none else if b.toNat>57 then none else some ((b.toNat:Int) - 48)
def varG:List UInt8->Option Int
 |[a,b]=>if a.toNat=36 then yb b else none
 |[a,b,c]=>if a.toNat=36∧b.toNat≠48 then(yb b).bind λx=>(yb c).map λy=>x*10+y else none
 |_=>none
theorem qcv{b:UInt8}{x:Int}(h:yb b=some x):0<=x∧x<=9:=by
 unfold yb at h;split at h
 ·cases h
 ·split at h
  ·cases h
  ·cases h;omega
theorem qnm(a b:UInt8):varG [a,b]=if a.toNat=36 then yb b else none:=rfl
theorem qhq(a b c:UInt8):varG [a,b,c]=if a.toNat=36∧b.toNat≠48 then(yb b).bind λx=>(yb c).map λy=>x*10+y else none:=rfl
theorem qlw{s:List UInt8}{x:Int}(h:varG s=some x):0<=x∧x<=99:=by
 unfold varG at h;split at h
 ·split at h
  ·have:=qcv h;omega
  ·cases h
 ·split at h
  ·obtain⟨a,h1,h2⟩:=qAx.1 h;obtain⟨b,h3,rfl⟩:=qAD.1 h2;have:=qcv h1;have:=qcv h3;omega
  ·cases h
 ·cases h
def varT(t:Tm):Option Int:=if t.kind=2∧t.chk=0 then varG t.str else none
theorem qrF{n:Nat}(h:n<18446744073709551616):qAH .u64 (n:Int)=n:=by
 simp[qAH,IntKind.bits,IntKind.signed];omega
theorem qrb{n:Nat}(h:n<64):xn (Op.shift .shl .u64 1 .i64 (n:Int))=some (.int .u64 ((2 ^ n:Nat):Int)):=by
 have hp:2 ^ n<18446744073709551616:=by
  have:2 ^ n<2 ^ 64:=Nat.pow_lt_pow_right (by omega) h
  simpa using this
 have:xn (Op.shift .shl .u64 1 .i64 (n:Int))=some (.int .u64 (qAH .u64 (1*2 ^ (min (n:Int).toNat 64)))):=by
  unfold Op.shift;rw[qBk (by omega)];rfl
 rw[this,qAS,Nat.min_eq_left (by omega),Int.one_mul];have e:((2:Int) ^ n)=((2 ^ n:Nat):Int):=by simp
 rw[e,qrF hp]
theorem qrg{a b:Nat}(ha:a<18446744073709551616)(hb:b<18446744073709551616):xn (Op.intBits .or .u64 (a:Int) (b:Int))=some (.int .u64 ((a ||| b:Nat):Int)):=by
 have:xn (Op.intBits .or .u64 (a:Int) (b:Int))=some (.int .u64 (qAH .u64 (BitVec.ofInt 64 (a:Int) ||| BitVec.ofInt 64 (b:Int)).toNat)):=rfl;rw[this];have ea:(BitVec.ofInt 64 (a:Int)).toNat=a:=by simp[BitVec.toNat_ofInt];omega
 have eb:(BitVec.ofInt 64 (b:Int)).toNat=b:=by simp[BitVec.toNat_ofInt];omega
 have hlt:=(BitVec.ofInt 64 (a:Int) ||| BitVec.ofInt 64 (b:Int)).isLt;rw[qrF (by simpa using hlt),BitVec.toNat_or,ea,eb]
theorem qra{a n:Nat}(ha:a<18446744073709551616)(hn:n<64):xn (Op.shift .shr .u64 (a:Int) .i64 (n:Int))=some (.int .u64 ((a / 2 ^ n:Nat):Int)):=by
 have:xn (Op.shift .shr .u64 (a:Int) .i64 (n:Int))=some (.int .u64 (Int.fdiv a (2 ^ (min (n:Int).toNat 64)))):=by
  unfold Op.shift;rw[qBk (by omega)];rfl
 rw[this,qAS,Nat.min_eq_left (by omega)];have e:((2:Int) ^ n)=((2 ^ n:Nat):Int):=by simp
 rw[e,Int.fdiv_eq_ediv_of_nonneg _ (Int.natCast_nonneg _)];rfl
theorem qrv{a:Nat}(ha:a<18446744073709551616):xn (Op.intBits .and .u64 (a:Int) 1)=some (.int .u64 ((a % 2:Nat):Int)):=by
 have:xn (Op.intBits .and .u64 (a:Int) 1)=some (.int .u64 (qAH .u64 (BitVec.ofInt 64 (a:Int) &&& BitVec.ofInt 64 1).toNat)):=rfl;rw[this];have ea:(BitVec.ofInt 64 (a:Int)).toNat=a:=by simp[BitVec.toNat_ofInt];omega
 have eb:(BitVec.ofInt 64 (1:Int)).toNat=1:=by decide
 rw[BitVec.toNat_and,ea,eb,Nat.and_one_is_mod,qrF (by omega)]
def qcy(p:Nat->Bool)(r:List AV):Prop:=∃(lo hi:Nat) (l:List AV),r= .int .u64 lo:: .int .u64 hi::l∧lo<18446744073709551616∧hi<18446744073709551616∧(∀n,n<64->lo.testBit n=p n)∧∀n,n<64->hi.testBit n=p (n+64)
theorem qtM{r cs:List AV}{o k:Nat}(hc:cs.length=4)(h:o+4<=r.length)(hk:k<o∨o+4<=k):(qAG (qAG (r.take o) cs) (r.drop (o+4)))[k]? =r[k]? :=by
 show((r.take o++cs)++r.drop (o+4))[k]? =r[k]?;have hl:(r.take o).length=o:=by simp;omega
 rcases hk with hk|hk
 ·rw[qAN (by simp;omega),qAN (by omega),List.getElem?_take,qBj hk]
 ·rw[qAP (by simp;omega),List.getElem?_drop]
  congr 1
  simp[hc];omega
theorem qtL{r cs:List AV}{o:Nat}(hc:cs.length=4)(h:o+4<=r.length):(qAG (qAG (r.take o) cs) (r.drop (o+4))).length=r.length:=by
 show((r.take o++cs)++r.drop (o+4)).length=r.length;simp[hc];omega
theorem qrK{r cs:List AV}{o:Nat}(hc:cs.length=4)(h:o+4<=r.length):((qAG (qAG (r.take o) cs) (r.drop (o+4))).drop o).take 4=cs:=by
 show(((r.take o++cs)++r.drop (o+4)).drop o).take 4=cs;have hl:(r.take o).length=o:=by simp;omega
 rw[qA8,List.drop_append_of_le_length (by omega),List.drop_of_length_le (by omega),List.nil_append,List.take_append_of_le_length (by omega),qAE (by omega)]
theorem qpW{r cs:List AV}{o o':Nat}(hc:cs.length=4)(h:o+4<=r.length)(hd:o'+4<=o∨o+4<=o'):((qAG (qAG (r.take o) cs) (r.drop (o+4))).drop o').take 4=(r.drop o').take 4:=by
 apply List.ext_getElem?;intro j
 by_cases hj:j<4
 ·rw[List.getElem?_take,List.getElem?_take,qBj hj,qBj hj,List.getElem?_drop,List.getElem?_drop,qtM hc h (by omega)]
 ·rw[List.getElem?_take,List.getElem?_take,qBk hj,qBk hj]
def mayB:Int->List (Int×Tm)->Bool
 |_,[]=>true
 |last,p::l=>decide (last<p.1)&&(decide (p.1<=99)&&(decide (p.2.chk=0)&&mayB p.1 l))
def qah(n:Int):List (Int×Tm)->Option Tm
 |[]=>none
 |p::l=>if p.1=n then some p.2 else qah n l
structure BRow (m:List (Int×Tm)) (r:List AV):Prop where
 len:r.length=402
 set:qcy (λi=>(qah i m).isSome) r
 cells:∀i:Nat,i<100->∀t,qah i m=some t->(r.drop (2+i*4)).take 4=t.cells
 free:qz 0 r=true
theorem qe8(n:Int)(p:Int×Tm):∀m:List (Int×Tm),qah n (m++[p])=match qah n m with|some t=>some t|none=>if p.1=n then some p.2 else none
 |[]=>by simp[qah]
 |q::m=>by
  rw[List.cons_append,qah,qah]
  by_cases h:q.1=n
  ·rw[qBj h,qBj h]
  ·rw[qBk h,qBk h];exact qe8 n p m
theorem BRow.add{m:List (Int×Tm)}{r r':List AV}{n:Nat}{t:Tm}(h:BRow m r)(hn:n<100)(hnew:qah n m=none)(h1:qcy (λi=>(λi:Nat=>(qah i m).isSome) i||decide (i=n)) r')(h2:r'.drop 2=r.drop 2)(h3:r'.length=r.length)(h4:qz 0 r=true->qz 0 r'=true):
  BRow (m++[((n:Int),t)]) (qAG (qAG (r'.take (2+n*4)) t.cells) (r'.drop (2+n*4+4))):=by
 have hl:r'.length=402:=by rw[h3,h.len]
 have hc:t.cells.length=4:=qv t;have ho:2+n*4+4<=r'.length:=by omega
 have hd:∀j,(r'.drop (2+j))=r.drop (2+j):=by
  intro j;rw[←List.drop_drop,←List.drop_drop,h2]
 refine⟨by rw[qtL hc ho,hl],?_,λi hi t' ht'=>?_,?_⟩
 ·obtain⟨lo,hi,l,rfl,a1,a2,a3,a4⟩:=h1;obtain⟨o,ho'⟩:∃o,2+n*4=o+2:=⟨n*4,by omega⟩;have lk:∀i:Nat,(qah i (m++[((n:Int),t)])).isSome=((qah i m).isSome||decide (i=n)):=by
   intro i;rw[qe8];cases hx:qah (i:Int) m with
   |some x=>rfl
   |none=>
    by_cases hi:i=n
    ·subst hi;simp
    ·have:¬((n:Int)=(i:Int)):=by omega
     simp[this,hi]
  refine⟨lo,hi,(l.take o++t.cells)++l.drop (o+4),?_,a1,a2,λi hi=>?_,λi hi=>?_⟩
  ·rw[ho'];rfl
  ·exact(a3 i hi).trans (lk i).symm
  ·exact(a4 i hi).trans (lk (i+64)).symm
 ·rw[qe8]at ht'
  by_cases hin:i=n
  ·subst hin;rw[hnew]at ht';simp at ht';subst ht';exact qrK hc ho
  ·cases hx:qah (i:Int) m with
   |none=>
    rw[hx]at ht';have:¬((n:Int)=(i:Int)):=by omega
    simp[this]at ht'
   |some x=>
    rw[hx]at ht';cases ht';rw[qpW hc ho (by omega),hd];exact h.cells i hi _ hx
 ·show qz 0 ((r'.take (2+n*4)++t.cells)++r'.drop (2+n*4+4))=true;have hf:=h4 h.free;exact qaR (qaR (qgl hf) (qlb t)) (qgm hf)
mutual
/-- is a term an expression over some variables? -/
def isG (V : List Int) : Tm → Bool
  | .mk k n s l =>
    if k = 2 then (match varT (.mk k n s l) with | none => true | some x => decide (x ∈ V))
    else if k = 9 then allG V l
    else if k = 7 then
      (match l with
       | [] => false
       | (.mk k1 _ s1 l1) :: rest =>
         if k1 = 7 then decide (rest.length = 0) && allG V l1
         else if k1 = 2 then (if s1 = [99, 111, 110, 115, 116] then decide (rest.length = 1) else decide ((rest.length : Int) ∈ opsG s1) && allG V rest)
         else false)
    else true
def allG (V : List Int) : List Tm → Bool
  | [] => true
  | t :: l => isG V t && allG V l
end
theorem qi5{V:List Int}{t:Tm}(h:t.kind=2):isG V t=(match varT t with|none=>true|some x=>decide (x∈V)):=by
 obtain⟨k,n,s,l⟩:=t;simp only[Tm.kind_mk]at h;rw[isG.eq_def];simp only[];rw[qBj h]
theorem qfn{V:List Int}{t:Tm}(h:t.kind=9):isG V t=allG V t.subs:=by
 obtain⟨k,n,s,l⟩:=t;simp only[Tm.kind_mk]at h;subst h;rw[isG.eq_def];simp only[];rw[qBk (by omega),qBj trivial];rfl
theorem qeB{V:List Int}{t:Tm}(h:t.kind=7)(hl:t.subs=[]):isG V t=false:=by
 obtain⟨k,n,s,l⟩:=t;simp only[Tm.kind_mk,Tm.subs_mk]at h hl;subst h hl;rw[isG.eq_def];simp only[];rw[qBk (by omega),qBk (by omega),qBj trivial]
theorem qeA{V:List Int}{t f:Tm}{r:List Tm}(h:t.kind=7)(hl:t.subs=f::r):isG V t =
  if f.kind=7 then decide (r.length=0)&&allG V f.subs
  else if f.kind=2 then(if f.str=[99,111,110,115,116]then decide (r.length=1)else decide ((r.length:Int)∈opsG f.str)&&allG V r)else false:=by
 obtain⟨k,n,s,l⟩:=t;obtain⟨k1,n1,s1,l1⟩:=f;simp only[Tm.kind_mk,Tm.subs_mk]at h hl;subst h hl;rw[isG.eq_def];simp only[];rw[qBk (by omega),qBk (by omega),qBj trivial];rfl
theorem qmv{V:List Int}{t:Tm}(h2:t.kind≠2)(h9:t.kind≠9)(h7:t.kind≠7):isG V t=true:=by
 obtain⟨k,n,s,l⟩:=t;simp only[Tm.kind_mk]at h2 h9 h7;rw[isG.eq_def];simp only[];rw[qBk h2,qBk h9,qBk h7]
theorem qfx{V:List Int}:∀{l:List Tm},allG V l=false↔∃x∈l,isG V x=false
 |[]=>by simp[allG]
 |t::l=>by
  rw[allG,Bool.and_eq_false_iff,qfx (l:=l)];simp
def vP(V:List Int)(t:Tm):Int:=if t.chk=0 then(if isG V t then 0 else 10)else 2
end Go.Av
end
noncomputable section
namespace Go.Proofs.YtafdkafbgohigaaGreat
open Go.Av
abbrev zT:Tm:=.mk 0 0 [] []
def InsA.row(x:InsA):List AV:=.int .i64 x.o:: .int .i64 x.a:: .int .i64 x.b::x.t.cells
def qd(l:List InsA):List (List AV):=l.map InsA.row
@[simp] theorem qtV:qd []=[]:=rfl
@[simp] theorem qu(l:List InsA):(qd l).length=l.length:=by simp[qd]
theorem yR(a b:List InsA):qd (a++b)=qd a++qd b:=by simp[qd]
theorem InsA.row_len(x:InsA):x.row.length=7:=by rw[InsA.row,Tm.cells_eq];rfl
theorem qvI(l:List InsA):vq 7 (qd l)=true:=by
 induction l with
 |nil=>rfl
 |cons x l ih=>show vq 7 (x.row::qd l)=true;rw[vq,x.row_len];rfl
theorem qe0{l:List InsA}{i:Nat}{x:InsA}(h:l[i]? =some x):qAu (qd l) i=some x.row:=by
 rw[qB,qd,List.getElem?_map,h];rfl
def andS:List UInt8:=[97,110,100,97,108,115,111]
def orS:List UInt8:=[111,114,101,108,115,101]
def qcw:List UInt8:=[99,111,110,115,116]
def qcM(o:Int)(at_:Nat)(x:List InsA)(y:List InsA):List InsA:=
 x++⟨o,0,((at_+x.length+1+y.length+1:Nat):Int),zT⟩::(y++[⟨17,0,0,zT⟩])
mutual
/-- the code of an expression, from a place on -/
def qp : Tm → Nat → List InsA
  | .mk k n s l, at_ =>
    if k = 2 then (match varT (.mk k n s l) with
      | some x => [⟨8, x, 0, zT⟩]
      | none => if s = [36, 95] then [⟨9, 0, 0, zT⟩] else if s = [36, 36] then [⟨10, 0, 0, zT⟩] else [⟨7, 0, 0, .mk k n s l⟩])
    else if k = 9 then xQ l at_ ++ [⟨12, 0, 0, zT⟩]
    else if k = 7 then
      (match l with
       | [] => []
       | (.mk k1 n1 s1 l1) :: rest =>
         if k1 = 7 then xQ l1 at_ ++ [⟨11, (l1.length : Int), 0, zT⟩]
         else if s1 = qcw then qbL rest
         else if s1 = andS then yZ 15 rest at_
         else if s1 = orS then yZ 16 rest at_
         else xQ rest at_ ++ [⟨13, (rest.length : Int), 0, .mk k1 n1 s1 l1⟩])
    else [⟨7, 0, 0, .mk k n s l⟩]
def xQ : List Tm → Nat → List InsA
  | [], _ => []
  | t :: l, at_ => qp t at_ ++ xQ l (at_ + (qp t at_).length)
def yZ : Int → List Tm → Nat → List InsA
  | _, [], _ => []
  | o, a :: l, at_ => qno o l at_ (qp a at_)
def qno : Int → List Tm → Nat → List InsA → List InsA
  | _, [], _, _ => []
  | o, b :: _, at_, x => qcM o at_ x (qp b (at_ + x.length + 1))
def qbL : List Tm → List InsA
  | [] => []
  | c :: _ => [⟨7, 0, 0, c⟩]
end
theorem qbJ{t:Tm}(h:t.kind=2)(at_:Nat):qp t at_=(match varT t with
   |some x=>[⟨8,x,0,zT⟩]
   |none=>if t.str=[36,95]then[⟨9,0,0,zT⟩]else if t.str=[36,36]then[⟨10,0,0,zT⟩]else[⟨7,0,0,t⟩]):=by
 obtain⟨k,n,s,l⟩:=t;simp only[Tm.kind_mk]at h;subst h;rw[qp.eq_def];simp only[];rw[qBj trivial];rfl
theorem qbI{t:Tm}(h:t.kind=9)(at_:Nat):qp t at_=xQ t.subs at_++[⟨12,0,0,zT⟩]:=by
 obtain⟨k,n,s,l⟩:=t;simp only[Tm.kind_mk]at h;subst h;rw[qp.eq_def];simp only[];rw[qBk (by omega),qBj trivial];rfl
theorem qct{t f:Tm}{r:List Tm}(h:t.kind=7)(hl:t.subs=f::r)(at_:Nat):qp t at_ =
  if f.kind=7 then xQ f.subs at_++[⟨11,(f.subs.length:Int),0,zT⟩]
  else if f.str=qcw then qbL r
  else if f.str=andS then yZ 15 r at_
  else if f.str=orS then yZ 16 r at_
  else xQ r at_++[⟨13,(r.length:Int),0,f⟩]:=by
 obtain⟨k,n,s,l⟩:=t;obtain⟨k1,n1,s1,l1⟩:=f;simp only[Tm.kind_mk,Tm.subs_mk]at h hl;subst h hl;rw[qp.eq_def];simp only[];rw[qBk (by omega),qBk (by omega),qBj trivial];rfl
theorem qaW{t:Tm}(h2:t.kind≠2)(h9:t.kind≠9)(h7:t.kind≠7)(at_:Nat):qp t at_=[⟨7,0,0,t⟩]:=by
 obtain⟨k,n,s,l⟩:=t;simp only[Tm.kind_mk]at h2 h9 h7;rw[qp.eq_def];simp only[];rw[qBk h2,qBk h9,qBk h7]
theorem qck(at_:Nat):xQ [] at_=[]:=by rw[xQ]
theorem qbw(t:Tm)(l:List Tm)(at_:Nat):xQ (t::l) at_=qp t at_++xQ l (at_+(qp t at_).length):=by rw[xQ]
theorem qcm(o:Int)(a b:Tm)(l:List Tm)(at_:Nat):yZ o (a::b::l) at_=qcM o at_ (qp a at_) (qp b (at_+(qp a at_).length+1)):=by rw[yZ,qno]
theorem qmo{l:List Tm}(h:∀t∈l,∀i,(qp t i).length<=t.w):∀at_,(xQ l at_).length<=wL l:=by
 induction l with
 |nil=>intro i;rw[qck];simp
 |cons t l ih=>
  intro i;rw[qbw,qAI,qA];have h1:=h t (by simp) i;have h2:=ih (λx hx=>h x (by simp[hx])) (i+(qp t i).length);omega
theorem quG:∀(n:Nat) (t:Tm),t.w<=n->∀at_,(qp t at_).length<=t.w:=by
 intro n
 induction n with
 |zero=>intro t h;have:=t.w_eq;omega
 |succ n ih=>
  intro t h i;have hw:=t.w_eq;have hm:∀l:List Tm,wL l<=n->∀j,(xQ l j).length<=wL l:=λl hl j=>qmo (λx hx j=>ih x (by have:=vV hx;omega) j) j
  by_cases h2:t.kind=2
  ·rw[qbJ h2];split
   ·simp;omega
   ·split
    ·simp;omega
    ·split<;>· simp;omega
  by_cases h9:t.kind=9
  ·rw[qbI h9,qAI];have:=hm t.subs (by omega) i;simp;omega
  by_cases h7:t.kind=7
  ·cases hl:t.subs with
   |nil=>
    obtain⟨k,n',s,l⟩:=t;simp only[Tm.kind_mk,Tm.subs_mk]at h7 hl;subst h7 hl;rw[qp.eq_def];simp
   |cons f r=>
    rw[hl,qA]at hw;have hf:=f.w_eq;rw[qct h7 hl];split
    ·rw[qAI];have:=hm f.subs (by omega) i;simp;omega
    ·split
     ·cases r with
      |nil=>rw[qbL];simp
      |cons c r=>rw[qbL];simp;omega
     ·have hz:∀o,(yZ o r i).length<=t.w:=by
       intro o
       match r with
       |[]=>rw[yZ];simp
       |[a]=>rw[yZ,qno];simp
       |a::b::r=>
        rw[qcm,qcM];rw[qA,qA]at hw;have ha:=ih a (by omega) i;have hb:=ih b (by omega) (i+(qp a i).length+1);simp;omega
      split
      ·exact hz _
      ·split
       ·exact hz _
       ·rw[qAI];have:=hm r (by omega) i;simp;omega
  rw[qaW h2 h9 h7];simp;omega
theorem xi(t:Tm)(at_:Nat):(qp t at_).length<=t.w:=quG t.w t (qAA _) at_
theorem qbR(l:List Tm)(at_:Nat):(xQ l at_).length<=wL l:=qmo (λt _=>xi t) at_
def qwG:Den:=evC cfg (EV cfg) 114 none 2 (sub (qg Tryz.f114) [1,0,0])
def qwR:Ex×List AV×AH->Option (AV×AH):=kAft (Cfg.keepOut cfg 114 1) (kRun cfg (EV cfg) (kfN cfg 6) 114 none 2 (qhH cfg 1 (Cfg.lift cfg 114 0) Tryz.f114.results.toList) ([.block 0]))
def qpH:List AV×AH->Option (AV×AH):=λp=>kOpt (LOOP 2 (some [0,6,7,8]) ([]) qwG p) qwR
abbrev qnZ(l:Rz)(v8:Int)(nc0_0:Nat)(h1:Rz):Option (AV×AH):=qpH (((fx 16 [(0,.ptr 0 0 0),(6,.sl l),(7,.int .i64 (l.length:Int)),(8,.int .i64 v8)]):List AV),([.rows false 1 [[.ms 1 0 nc0_0]],.rows true 7 h1]:AH))
abbrev qf8(l:Rz)(v8:Int)(nc0_0:Nat)(h2:Rz):Option (AV×AH):=qpH (((fx 16 [(0,.ptr 0 0 0),(6,.sl l),(7,.int .i64 (l.length:Int)),(8,.int .i64 v8)]):List AV),([.rows false 1 [[.ms 2 0 nc0_0]],.dead,.rows true 7 h2]:AH))
theorem quZ(ins:Rz)(o a b k n:Int)(w:Bz)(l:Rz){P:AV×AH->Prop}(h:Gets (bif qAF (0+qAt ins) (qAt ins)&&qo (qAt ins+1) 80 then some (.int .i64 (qAH .i64 ((↑ (qAt ins+1):Int) - 1)),[.rows false 1 [[.ms 1 0 (qAt ins+1)]],.rows true 7 (qAG (qAB (qAt ins) ins) [[AV.int .i64 o,.int .i64 a,.int .i64 b,.int .i64 k,.int .i64 n,.str w,.sl l]])])else none) P):Gets (EVj (EV cfg) 105 1 [.ptr 0 0 0,.agg [.int .i64 o,.int .i64 a,.int .i64 b,.int .i64 k,.int .i64 n,.str w,.sl l]] ([ABlk.rows false (1:Nat) [[AV.ms (1:Nat) (0:Nat) (qAt ins)]],ABlk.rows true (7:Nat) ins]:AH)) P:=
  gE (λ_=>funJ rfl rfl Tryz.func105 rfl) (by kernel_rfl) h
theorem qtc(ins l:Rz){P:AV×AH->Prop}(h:Gets (qnZ l 0 (qAt ins) ins) P):Gets (EVj (EV cfg) 114 1 [.ptr 0 0 0,.sl l] ([ABlk.rows false (1:Nat) [[AV.ms (1:Nat) (0:Nat) (qAt ins)]],ABlk.rows true (7:Nat) ins]:AH)) P:=
  gE (λ_=>funJ rfl rfl Tryz.func114 rfl) (by kernel_rfl) h
theorem qtd(ins:Rz)(o:Int)(l:Rz){P:AV×AH->Prop}(h:Gets (bif qi 0 (l.length:Int)then kOpt (qAu l 0) λrow=>bif qAz (qAt row) 4 then bif qAF 4 (qAt row)then kTmC (qAB 4 row) λn n_1 s rows=>(kOpt (EVj (EV cfg) 63 1 [.ptr 0 0 0,.agg [.int .i64 n,.int .i64 n_1,.str s,.sl rows]] [.rows false 1 [[.ms 1 0 (qAt ins)]],.rows true 7 ins]) λq=>qC q.2 λb bs=>qE b λd' n rs=>bif beqB false d'&&qAz n 1 then q7 rs λrow rest=>vw rest (qC bs λb bs=>qE b λd' n rs=>bif beqB true d'&&qAz n 7 then vL bs (qf row λc cs=>kMsE c λid off len=>bif qAz id 1&&(qAz off 0&&qAz len (qAt rs))then kNil cs (kOpt (EVj (EV cfg) 105 1 [.ptr 0 0 0,AV.agg [.int .i64 o,.int .i64 0,.int .i64 0,.int .i64 0,.int .i64 0,.str [],.sl []]] [.rows false 1 [[.ms 1 0 (qAt rs)]],.rows true 7 rs]) λq=>qC q.2 λb bs=>qE b λd' n rs=>bif beqB false d'&&qAz n 1 then q7 rs λrow rest=>vw rest (qC bs λb bs=>qE b λd' n rs=>bif beqB true d'&&qAz n 7 then vL bs (qf row λc cs=>kMsE c λid off len=>bif qAz id 1&&(qAz off 0&&qAz len (qAt rs))then kNil cs (kInt .i64 q.1 λn=>bif qi 1 (l.length:Int)then kOpt (qAu l 1) λrow=>bif qAz (qAt row) 4 then bif qAF 4 (qAt row)then kTmC (qAB 4 row) λn_2 n_3 s rows=>(kOpt (EVj (EV cfg) 63 1 [.ptr 0 0 0,.agg [.int .i64 n_2,.int .i64 n_3,.str s,.sl rows]] [.rows false 1 [[.ms 1 0 (qAt rs)]],.rows true 7 rs]) λq=>qC q.2 λb bs=>qE b λd' n_4 rs=>bif beqB false d'&&qAz n_4 1 then q7 rs λrow rest=>vw rest (qC bs λb bs=>qE b λd' n_5 rs=>bif beqB true d'&&qAz n_5 7 then vL bs (qf row λc cs=>kMsE c λid off len=>bif qAz id 1&&(qAz off 0&&qAz len (qAt rs))then kNil cs (kOpt (EVj (EV cfg) 105 1 [.ptr 0 0 0,AV.agg [.int .i64 (17:Int),.int .i64 0,.int .i64 0,.int .i64 0,.int .i64 0,.str [],.sl []]] [.rows false 1 [[.ms 1 0 (qAt rs)]],.rows true 7 rs]) λq=>qC q.2 λb bs=>qE b λd' n_6 rs=>bif beqB false d'&&qAz n_6 1 then q7 rs λrow rest=>vw rest (qC bs λb bs=>qE b λd' n_7 rs=>bif beqB true d'&&qAz n_7 7 then vL bs (qf row λc cs=>kMsE c λid off len=>bif qAz id 1&&(qAz off 0&&qAz len (qAt rs))then kNil cs (kInt .i64 q.1 λn_8=>bif qe 0 n&&qi n (rs.length:Int)then kOpt (qAu rs (0+n.toNat)) λrow=>bif qAF 3 (qAt row)then some (AV.tup [],[.rows false 1 [[.ms 1 0 (qAt rs)]],.rows true 7 (List.set rs (0+n.toNat) (qAG (qAG (qAB 2 row) [AV.int .i64 (rs.length:Int)]) (qAO 3 row)))])else none else none)else none)else none)else none)else none)else none)else none)else none else none else none)else none)else none)else none)else none)else none)else none)else none else none else none) P):Gets (EVj (EV cfg) 115 1 [.ptr 0 0 0,.int .i64 o,.sl l] ([ABlk.rows false (1:Nat) [[AV.ms (1:Nat) (0:Nat) (qAt ins)]],ABlk.rows true (7:Nat) ins]:AH)) P:=
  gE (λ_=>funJ rfl rfl Tryz.func115 rfl) (by kernel_rfl) h
abbrev za6(n n_1:Int)(s:Bz)(rows:Rz)(nc0_0:Nat)(h1 l:Rz)(v8:Int):Option (AV×AH):=(kOpt (EVj (EV cfg) 63 1 [.ptr 0 0 0,.agg [.int .i64 n,.int .i64 n_1,.str s,.sl rows]] [.rows false 1 [[.ms 1 0 nc0_0]],.rows true 7 h1]) λq=>qC q.2 λb bs=>qE b λd' n rs=>bif beqB false d'&&qAz n 1 then q7 rs λrow rest=>vw rest (qC bs λb bs=>qE b λd' n rs=>bif beqB true d'&&qAz n 7 then vL bs (qf row λc cs=>kMsE c λid off len=>bif qAz id 1&&(qAz off 0&&qAz len (qAt rs))then kNil cs (qf8 l (qAH .i64 (v8+1)) (qAt rs) rs)else none)else none)else none)
abbrev za5(row:List AV)(nc0_0:Nat)(h1 l:Rz)(v8:Int):Option (AV×AH):=kTmC (qAB 4 row) λn n_1 s rows=>za6 n n_1 s rows nc0_0 h1 l v8
abbrev za4(row:List AV)(nc0_0:Nat)(h1 l:Rz)(v8:Int):Option (AV×AH):=bif qAF 4 (qAt row)then za5 row nc0_0 h1 l v8 else none
abbrev za3(row:List AV)(nc0_0:Nat)(h1 l:Rz)(v8:Int):Option (AV×AH):=bif qAz (qAt row) 4 then za4 row nc0_0 h1 l v8 else none
abbrev za2(l:Rz)(v8:Int)(nc0_0:Nat)(h1:Rz):Option (AV×AH):=kOpt (qAu l (v8.toNat)) λrow=>za3 row nc0_0 h1 l v8
abbrev za1(v8:Int)(l:Rz)(nc0_0:Nat)(h1:Rz):Option (AV×AH):=bif qe 0 v8&&qi v8 (l.length:Int)then za2 l v8 nc0_0 h1 else none
abbrev za0(v8:Int)(l:Rz)(nc0_0:Nat)(h1:Rz):Option (AV×AH):=bif decide (v8<(l.length:Int))then za1 v8 l nc0_0 h1 else some (AV.tup [],[.rows false 1 [[.ms 1 0 nc0_0]],.rows true 7 h1])
theorem qmP(l:Rz)(v8:Int)(nc0_0:Nat)(h1:Rz){P:AV×AH->Prop}(h:Gets (za0 v8 l nc0_0 h1) P):Gets (qnZ l v8 nc0_0 h1) P:=
  gE (λ_=>qt (cfg:=cfg) (f:=114) (rd:=none) (bs:=2)) (by kernel_rfl) h
theorem qep(l:Rz)(v8:Int)(nc0_0:Nat)(h2:Rz){P:AV×AH->Prop}(h:Gets (za0 v8 l nc0_0 h2) P):Gets (qf8 l v8 nc0_0 h2) P:=
  gE (λ_=>qt (cfg:=cfg) (f:=114) (rd:=none) (bs:=2)) (by kernel_rfl) h
abbrev zb6(rs:Rz):Option (AV×AH):=some (AV.tup [],[.rows false 1 [[.ms 1 0 (qAt rs)]],.rows true 7 rs])
abbrev zb5(q:AV×AH)(rs:Rz):Option (AV×AH):=kInt .i64 q.1 λn=>zb6 rs
abbrev zb4(rest:Rz)(bs:AH)(row:List AV)(q:AV×AH):Option (AV×AH):=vw rest (qC bs λb bs=>qE b λd' n rs=>bif beqB true d'&&qAz n 7 then vL bs (qf row λc cs=>kMsE c λid off len=>bif qAz id 1&&(qAz off 0&&qAz len (qAt rs))then kNil cs (zb5 q rs)else none)else none)
abbrev zb3(rs:Rz)(bs:AH)(q:AV×AH):Option (AV×AH):=q7 rs λrow rest=>zb4 rest bs row q
abbrev zb2(d':Bool)(n:Nat)(rs:Rz)(bs:AH)(q:AV×AH):Option (AV×AH):=bif beqB false d'&&qAz n 1 then zb3 rs bs q else none
abbrev zb1(b:ABlk)(bs:AH)(q:AV×AH):Option (AV×AH):=qE b λd' n rs=>zb2 d' n rs bs q
abbrev zb0(q:AV×AH):Option (AV×AH):=qC q.2 λb bs=>zb1 b bs q
abbrev zb7(k n:Int)(s:Bz)(l ins:Rz):Option (AV×AH):=kOpt (EVj (EV cfg) 105 1 [.ptr 0 0 0,.agg [.int .i64 7,.int .i64 0,.int .i64 0,.int .i64 k,.int .i64 n,.str s,.sl l]] [.rows false 1 [[.ms 1 0 (qAt ins)]],.rows true 7 ins]) λq=>zb0 q
theorem qtg(ins:Rz)(k n:Int)(s:Bz)(l:Rz){P:AV×AH->Prop}(h:Gets (bif k==2 then kOpt (EVs (EV cfg) 113 [.agg [.int .i64 k,.int .i64 n,.str s,.sl l]]) λv=>kTup v λcs=>qf cs λc cs=>kInt .i64 c λn_1=>qf cs λc cs=>qJ c λb=>kNil cs (bif b then kOpt (EVj (EV cfg) 105 1 [.ptr 0 0 0,.agg [.int .i64 8,.int .i64 n_1,.int .i64 0,.int .i64 0,.int .i64 0,.str [],.sl []]] [.rows false 1 [[.ms 1 0 (qAt ins)]],.rows true 7 ins]) λq=>zb0 q else bif s==[(36:UInt8),(95:UInt8)]then kOpt (EVj (EV cfg) 105 1 [.ptr 0 0 0,AV.agg [.int .i64 9,.int .i64 0,.int .i64 0,.int .i64 0,.int .i64 0,.str [],.sl []]] [.rows false 1 [[.ms 1 0 (qAt ins)]],.rows true 7 ins]) λq=>zb0 q else bif s==[(36:UInt8),(36:UInt8)]then kOpt (EVj (EV cfg) 105 1 [.ptr 0 0 0,AV.agg [.int .i64 10,.int .i64 0,.int .i64 0,.int .i64 0,.int .i64 0,.str [],.sl []]] [.rows false 1 [[.ms 1 0 (qAt ins)]],.rows true 7 ins]) λq=>zb0 q else zb7 k n s l ins)else bif k==9 then kOpt (EVj (EV cfg) 114 1 [.ptr 0 0 0,.sl l] [.rows false 1 [[.ms 1 0 (qAt ins)]],.rows true 7 ins]) λq=>qC q.2 λb bs=>qE b λd' n rs=>bif beqB false d'&&qAz n 1 then q7 rs λrow rest=>vw rest (qC bs λb bs=>qE b λd' n rs=>bif beqB true d'&&qAz n 7 then vL bs (qf row λc cs=>kMsE c λid off len=>bif qAz id 1&&(qAz off 0&&qAz len (qAt rs))then kNil cs (kOpt (EVj (EV cfg) 105 1 [.ptr 0 0 0,AV.agg [.int .i64 12,.int .i64 0,.int .i64 0,.int .i64 0,.int .i64 0,.str [],.sl []]] [.rows false 1 [[.ms 1 0 (qAt rs)]],.rows true 7 rs]) λq=>zb0 q)else none)else none)else none else bif k==7 then bif qi 0 (l.length:Int)then kOpt (qAu l 0) λrow=>bif qAz (qAt row) 4 then bif qAF 4 (qAt row)then kTmC (qAB 4 row) λn n_1 s rows=>(bif qe 1 (l.length:Int)then bif vq 4 l then bif n==7 then kOpt (EVj (EV cfg) 114 1 [.ptr 0 0 0,.sl rows] [.rows false 1 [[.ms 1 0 (qAt ins)]],.rows true 7 ins]) λq=>qC q.2 λb bs=>qE b λd' n rs=>bif beqB false d'&&qAz n 1 then q7 rs λrow rest=>vw rest (qC bs λb bs=>qE b λd' n rs=>bif beqB true d'&&qAz n 7 then vL bs (qf row λc cs=>kMsE c λid off len=>bif qAz id 1&&(qAz off 0&&qAz len (qAt rs))then kNil cs (kOpt (EVj (EV cfg) 105 1 [.ptr 0 0 0,AV.agg [.int .i64 11,.int .i64 (rows.length:Int),.int .i64 0,.int .i64 0,.int .i64 0,.str [],.sl []]] [.rows false 1 [[.ms 1 0 (qAt rs)]],.rows true 7 rs]) λq=>zb0 q)else none)else none)else none else bif s==[(99:UInt8),(111:UInt8),(110:UInt8),(115:UInt8),(116:UInt8)]then bif qi 0 (↑ (qAt (qAB (qAt l - 1) (qAO 1 l))):Int)then kOpt (qAu (qAB (qAt l - 1) (qAO 1 l)) 0) λrow=>bif qAz (qAt row) 4 then bif qAF 4 (qAt row)then kTmC (qAB 4 row) λn n_2 s rows=>(kOpt (EVj (EV cfg) 105 1 [.ptr 0 0 0,AV.agg [.int .i64 7,.int .i64 0,.int .i64 0,.int .i64 n,.int .i64 n_2,.str s,.sl rows]] [.rows false 1 [[.ms 1 0 (qAt ins)]],.rows true 7 ins]) λq=>qC q.2 λb bs=>qE b λd' n rs=>bif beqB false d'&&qAz n 1 then q7 rs λrow rest=>vw rest (qC bs λb bs=>qE b λd' n rs=>bif beqB true d'&&qAz n 7 then vL bs (qf row λc cs=>kMsE c λid off len=>bif qAz id 1&&(qAz off 0&&qAz len (qAt rs))then kNil cs (zb5 q rs)else none)else none)else none)else none else none else none else bif s==[(97:UInt8),(110:UInt8),(100:UInt8),(97:UInt8),(108:UInt8),(115:UInt8),(111:UInt8)]then kOpt (EVj (EV cfg) 115 1 [.ptr 0 0 0,.int .i64 15,.sl (qAB (qAt l - 1) (qAO 1 l))] [.rows false 1 [[.ms 1 0 (qAt ins)]],.rows true 7 ins]) λq=>qC q.2 λb bs=>qE b λd' n rs=>bif beqB false d'&&qAz n 1 then q7 rs λrow rest=>vw rest (qC bs λb bs=>qE b λd' n rs=>bif beqB true d'&&qAz n 7 then vL bs (qf row λc cs=>kMsE c λid off len=>bif qAz id 1&&(qAz off 0&&qAz len (qAt rs))then kNil cs (zb6 rs)else none)else none)else none else bif s==[(111:UInt8),(114:UInt8),(101:UInt8),(108:UInt8),(115:UInt8),(101:UInt8)]then kOpt (EVj (EV cfg) 115 1 [.ptr 0 0 0,.int .i64 16,.sl (qAB (qAt l - 1) (qAO 1 l))] [.rows false 1 [[.ms 1 0 (qAt ins)]],.rows true 7 ins]) λq=>qC q.2 λb bs=>qE b λd' n rs=>bif beqB false d'&&qAz n 1 then q7 rs λrow rest=>vw rest (qC bs λb bs=>qE b λd' n rs=>bif beqB true d'&&qAz n 7 then vL bs (qf row λc cs=>kMsE c λid off len=>bif qAz id 1&&(qAz off 0&&qAz len (qAt rs))then kNil cs (zb6 rs)else none)else none)else none else kOpt (EVj (EV cfg) 114 1 [.ptr 0 0 0,.sl (qAB (qAt l - 1) (qAO 1 l))] [.rows false 1 [[.ms 1 0 (qAt ins)]],.rows true 7 ins]) λq=>qC q.2 λb bs=>qE b λd' n_2 rs=>bif beqB false d'&&qAz n_2 1 then q7 rs λrow rest=>vw rest (qC bs λb bs=>qE b λd' n_3 rs=>bif beqB true d'&&qAz n_3 7 then vL bs (qf row λc cs=>kMsE c λid off len=>bif qAz id 1&&(qAz off 0&&qAz len (qAt rs))then kNil cs (kOpt (EVj (EV cfg) 105 1 [.ptr 0 0 0,AV.agg [.int .i64 13,.int .i64 (↑ (qAt (qAB (qAt l - 1) (qAO 1 l))):Int),.int .i64 0,.int .i64 n,.int .i64 n_1,.str s,.sl rows]] [.rows false 1 [[.ms 1 0 (qAt rs)]],.rows true 7 rs]) λq=>zb0 q)else none)else none)else none else none else none)else none else none else none else zb7 k n s l ins) P):Gets (EVj (EV cfg) 63 1 [.ptr 0 0 0,.agg [.int .i64 k,.int .i64 n,.str s,.sl l]] ([ABlk.rows false (1:Nat) [[AV.ms (1:Nat) (0:Nat) (qAt ins)]],ABlk.rows true (7:Nat) ins]:AH)) P:=
  gE (λ_=>funJ rfl rfl Tryz.func63 rfl) (by kernel_rfl) h
def qzu:Den:=evC cfg (EV cfg) 176 none 0 (sub (qg Tryz.f176) [1,1,1,0,1,0,0])
def qzW:Ex×List AV×AH->Option AV:=kAft (Cfg.keepOut cfg 176 5) (kRun cfg (EV cfg) (kfN cfg 6) 176 none 0 (yK cfg (Cfg.lift cfg 176 0) Tryz.f176.results.toList) ([.block 0,.seq (sub (qg Tryz.f176) [1,1,1,1])]))
def qzb:List AV×AH->Option AV:=λp=>kOpt (LOOP 0 (some [4,32,33,34]) ([]) qzu p) qzW
abbrev qc6(s:Bz)(v4 v34:Int)(h0:Rz):Option (AV):=qzb (((fx 52 [(4,.int .i64 v4),(32,.ms 0 0 (qAt (qAB (qAt s - 1) (qAO 1 s)))),(33,.int .i64 (↑(qAt (qAB (qAt s - 1) (qAO 1 s))):Int)),(34,.int .i64 v34)]):List AV),([.rows true 1 h0]:AH))
abbrev zc1(s:Bz):Option (AV):=qc6 s 0 0 (List.map (λb=>[.int .u8 (↑ (UInt8.toNat b):Int)]) (qAB (qAt s - 1) (qAO 1 s)))
abbrev zc0(s:Bz):Option (AV):=bif qe 1 (s.length:Int)then zc1 s else none
theorem qmZ(s:Bz){P:AV->Prop}(h:Gets (bif decide ((s.length:Int)<2)then some (AV.tup [.int .i64 0,.bool false])else bif decide ((s.length:Int)>3)then some (AV.tup [.int .i64 0,.bool false])else kOpt (qAu s 0) λb=>bif(↑ (UInt8.toNat b):Int) != 36 then some (AV.tup [.int .i64 0,.bool false])else bif(s.length:Int)==3 then kOpt (qAu s 1) λb=>bif(↑ (UInt8.toNat b):Int)==48 then some (AV.tup [.int .i64 0,.bool false])else zc0 s else zc0 s) P):Gets (EVs (EV cfg) 176 [.str s]) P:=
  gE (λ_=>funS rfl rfl Tryz.func176 rfl) (by kernel_rfl) h
theorem qse(kt nt:Int)(st:Bz)(lt:Rz){P:AV->Prop}(h:Gets (kOpt (EVs (EV cfg) 83 [.agg [.int .i64 kt,.int .i64 nt,.str st,.sl lt]]) λv=>kInt .i64 v λn=>some (.bool (n==0))) P):Gets (EVs (EV cfg) 175 [.agg [.int .i64 kt,.int .i64 nt,.str st,.sl lt]]) P:=
  gE (λ_=>funS rfl rfl Tryz.func175 rfl) (by kernel_rfl) h
theorem qsd(kt nt:Int)(st:Bz)(lt:Rz){P:AV->Prop}(h:Gets (bif kt != 2 then some (AV.tup [.int .i64 0,.bool false])else kOpt (EVs (EV cfg) 175 [.agg [.int .i64 kt,.int .i64 nt,.str st,.sl lt]]) λv=>qJ v λb=>bif ! b then some (AV.tup [.int .i64 0,.bool false])else kOpt (EVs (EV cfg) 176 [.str st]) λv=>kTup v λcs=>qf cs λc cs=>kInt .i64 c λn=>qf cs λc cs=>qJ c λb=>kNil cs (some (AV.tup [.int .i64 n,.bool b]))) P):Gets (EVs (EV cfg) 113 [.agg [.int .i64 kt,.int .i64 nt,.str st,.sl lt]]) P:=
  gE (λ_=>funS rfl rfl Tryz.func113 rfl) (by kernel_rfl) h
abbrev zc2(v:AV):Option (AV):=kInt .u64 v λn=>kOpt (xn (Op.intBits BinOp.and .u64 n 1)) λv=>kInt .u64 v λn=>some (.bool (n==1))
theorem qrP(n:Int)(r:List AV){P:AV->Prop}(h:Gets (bif decide (n<64)then kOpt (qAu r 0) λv=>kInt .u64 v λn_1=>kOpt (xn (Op.shift BinOp.shr .u64 n_1 .i64 n)) λv=>zc2 v else kOpt (qAu r 1) λv=>kInt .u64 v λn_1=>kOpt (xn (Op.shift BinOp.shr .u64 n_1 .i64 (qAH .i64 (n - 64)))) λv=>zc2 v) P):Gets (EVs (EV cfg) 227 [.cptr r 0,.int .i64 n]) P:=
  gE (λ_=>funS rfl rfl Tryz.func227 rfl) (by kernel_rfl) h
theorem qh3(s:Bz)(v4 v34:Int)(h0:Rz){P:AV->Prop}(h:Gets (bif decide (v34<(↑ (qAt (qAB (qAt s - 1) (qAO 1 s))):Int))then bif qe 0 v34&&qi v34 (↑ (qAt (qAB (qAt s - 1) (qAO 1 s))):Int)then kOpt (qAu h0 (0+v34.toNat)) λrow=>kOpt (qAu row 0) λv=>kInt .u8 v λn=>bif decide (n<48)then some (AV.tup [.int .i64 0,.bool false])else bif decide (n>57)then some (AV.tup [.int .i64 0,.bool false])else qc6 s (qAH .i64 (qAH .i64 (v4*10)+qAH .i64 (qAH .u8 (n - 48)))) (qAH .i64 (v34+1)) h0 else none else some (AV.tup [.int .i64 v4,.bool true])) P):Gets (qc6 s v4 v34 h0) P:=
  gE (λ_=>qt (cfg:=cfg) (f:=176) (rd:=none) (bs:=0)) (by kernel_rfl) h
def qvh:Den:=evC cfg (EV cfg) 192 none 5 (sub (qg Tryz.f192) [1,0,0])
def qvm:Ex×List AV×AH->Option AV:=kAft (Cfg.keepOut cfg 192 (qn (sub (qg Tryz.f192) [1,0,0]))) (x9 0 (ym cfg (Cfg.lift cfg 192 0) (fun(v:AV) (H:AH)=>(fun(r:AV×AH)=>y9 0 4 (fx 17 [(2,AV.ptr 1 0 0),(3,AV.ptr 2 0 0)]) (x9 0 (kSeq (fun(fr:List AV) (H:AH)=>zu (Cfg.cut cfg 83 (qn (sub (qg Tryz.f83) [1,1,1]))) fr H fun(fr:List AV) (H:AH)=>vM cfg (EV cfg) (kfN cfg 6) 83 none 0 (sub (qg Tryz.f83) [1,1,1]) fr H (yK cfg (Cfg.lift cfg 83 0) (Array.toList (Func.results Tryz.f83)))) (yK cfg (Cfg.lift cfg 83 0) (Array.toList (Func.results Tryz.f83))))) (Prod.snd r)) (v,H)) (Array.toList (Func.results (Prod.snd (192,Tryz.f192))))))
def qza:List AV×AH->Option AV:=fun(p:List AV×AH)=>kOpt (LOOP 5 (some [0,3]) [(3,4)] qvh p) qvm
def qzt:Den:=evC cfg (EV cfg) 203 none 10 (sub (qg Tryz.f203) [1,0,0])
def qzV:Ex×List AV×AH->Option AV:=kAft (Cfg.keepOut cfg 203 (qn (sub (qg Tryz.f203) [1,0,0]))) (x9 0 (ym cfg (Cfg.lift cfg 203 0) (fun(v:AV) (H:AH)=>(fun(r:AV×AH)=>y9 5 9 (fx 38 [(0,AV.yld 4),(3,AV.ptr 5 0 0)]) (x9 2 (x9 1 (kLp 5 (some [0,3]) [(3,4)] qvh qvm))) (Prod.snd r)) (v,H)) (Array.toList (Func.results (Prod.snd (203,Tryz.f203))))))
def qva:List AV×AH->Option AV:=fun(p:List AV×AH)=>kOpt (LOOP 10 (some [0,1,3]) [] qzt p) qzV
abbrev qc5(c0_0 c0_1:Int)(c0_2:Bz)(c0_3:Rz)(c1_0 c2_0 c3_0 c3_1:Int)(c3_2:Bz)(c3_3:Rz)(nc5_0:Nat)(h6:Rz):Option (AV):=qza (((fx 38 [(0,.yld 4),(3,.ptr 5 0 0)]):List AV),([.rows false 4 [[.int .i64 c0_0,.int .i64 c0_1,.str c0_2,.sl c0_3]],.rows false 1 [[.int .i64 c1_0]],.rows false 1 [[.int .i64 c2_0]],.rows false 4 [[.int .i64 c3_0,.int .i64 c3_1,.str c3_2,.sl c3_3]],rngB Tryz.f83 83 [1,1,0,1,0] (fx 17 [(2,.ptr 1 0 0),(3,.ptr 2 0 0)]) none LoopState.ready,.rows false 1 [[.ms 6 0 nc5_0]],.rows true 4 h6]:AH))
abbrev qnP(v3 c0_0 c0_1:Int)(c0_2:Bz)(c0_3:Rz)(c1_0 c2_0 c3_0 c3_1:Int)(c3_2:Bz)(c3_3:Rz)(nc5_0:Nat)(h6:Rz)(c7_0 c7_1:Int)(c7_2:Bz)(c7_3 c8_0:Rz):Option (AV):=qva (((fx 19 [(0,.yld 9),(1,.ptr 8 0 0),(3,.int .i64 v3)]):List AV),([.rows false 4 [[.int .i64 c0_0,.int .i64 c0_1,.str c0_2,.sl c0_3]],.rows false 1 [[.int .i64 c1_0]],.rows false 1 [[.int .i64 c2_0]],.rows false 4 [[.int .i64 c3_0,.int .i64 c3_1,.str c3_2,.sl c3_3]],rngB Tryz.f83 83 [1,1,0,1,0] (fx 17 [(2,.ptr 1 0 0),(3,.ptr 2 0 0)]) none LoopState.ready,.rows false 1 [[.ms 6 0 nc5_0]],.rows true 4 h6,.rows false 4 [[.int .i64 c7_0,.int .i64 c7_1,.str c7_2,.sl c7_3]],.rows false 1 [[.sl c8_0]],rngB Tryz.f192 192 [1,0,0,1,0,1,1,1,1,0] (fx 38 [(3,.ptr 5 0 0)]) none LoopState.ready]:AH))
abbrev qls(v3 c0_0 c0_1:Int)(c0_2:Bz)(c0_3:Rz)(c1_0 c2_0 c3_0 c3_1:Int)(c3_2:Bz)(c3_3:Rz)(nc5_0:Nat)(c7_0 c7_1:Int)(c7_2:Bz)(c7_3 c8_0 h10:Rz):Option (AV):=qva (((fx 19 [(0,.yld 9),(1,.ptr 8 0 0),(3,.int .i64 v3)]):List AV),([.rows false 4 [[.int .i64 c0_0,.int .i64 c0_1,.str c0_2,.sl c0_3]],.rows false 1 [[.int .i64 c1_0]],.rows false 1 [[.int .i64 c2_0]],.rows false 4 [[.int .i64 c3_0,.int .i64 c3_1,.str c3_2,.sl c3_3]],rngB Tryz.f83 83 [1,1,0,1,0] (fx 17 [(2,.ptr 1 0 0),(3,.ptr 2 0 0)]) none LoopState.ready,.rows false 1 [[.ms 10 0 nc5_0]],.dead,.rows false 4 [[.int .i64 c7_0,.int .i64 c7_1,.str c7_2,.sl c7_3]],.rows false 1 [[.sl c8_0]],rngB Tryz.f192 192 [1,0,0,1,0,1,1,1,1,0] (fx 38 [(3,.ptr 5 0 0)]) none LoopState.ready,.rows true 4 h10]:AH))
abbrev zd4(kt:Int)(lt:Rz):Option (AV):=bif kt==5 then some (.bool (decide ((lt.length:Int)<=64)))else some (.bool false)
abbrev zd3(lt:Rz)(kt:Int):Option (AV):=bif(lt.length:Int)==0 then some (.bool true)else zd4 kt lt
abbrev zd2(st:Bz)(lt:Rz)(kt:Int):Option (AV):=bif st==[]then zd3 lt kt else some (.bool false)
abbrev zd1(nt:Int)(st:Bz)(lt:Rz)(kt:Int):Option (AV):=bif decide (nt<=1073741824)then zd2 st lt kt else some (.bool false)
abbrev zd0(nt:Int)(st:Bz)(lt:Rz)(kt:Int):Option (AV):=bif decide (nt≥0)then zd1 nt st lt kt else some (.bool false)
theorem qlx(kt nt:Int)(st:Bz)(lt:Rz){P:AV->Prop}(h:Gets (bif kt==1 then bif decide (nt≥(- 576460752303423488))then bif decide (nt<=576460752303423487)then bif st==[]then some (.bool ((lt.length:Int)==0))else some (.bool false)else some (.bool false)else some (.bool false)else bif kt==2 then bif nt==0 then bif decide ((st.length:Int)<=64)then some (.bool ((lt.length:Int)==0))else some (.bool false)else some (.bool false)else bif kt==3 then bif decide (nt≥0)then bif decide (nt<=1073741824)then bif st==[]then bif(lt.length:Int)==0 then some (.bool true)else bif kt==5 then some (.bool (decide ((↑ (qAt lt):Int)<=64)))else some (.bool false)else some (.bool false)else some (.bool false)else some (.bool false)else bif kt==4 then zd0 nt st lt kt else bif kt==6 then zd0 nt st lt kt else bif kt==5 then zd0 nt st lt kt else bif kt==7 then bif nt==0 then bif st==[]then some (.bool (decide ((lt.length:Int)<=64)))else some (.bool false)else some (.bool false)else bif kt==8 then bif nt==0 then bif st==[]then some (.bool ((lt.length:Int)==0))else some (.bool false)else some (.bool false)else bif kt==9 then bif nt==0 then bif st==[]then some (.bool ((lt.length:Int)==2))else some (.bool false)else some (.bool false)else some (.bool false)) P):Gets (EVs (EV cfg) 133 [.agg [.int .i64 kt,.int .i64 nt,.str st,.sl lt]]) P:=
  gE (λ_=>funS rfl rfl Tryz.func133 rfl) (by kernel_rfl) h
theorem qn3(kt nt:Int)(st:Bz)(lt:Rz){P:AV->Prop}(h:Gets (bif kt==7 then some (.int .i64 2)else bif kt==5 then some (.int .i64 2)else some (.int .i64 1)) P):Gets (EVs (EV cfg) 134 [.agg [.int .i64 kt,.int .i64 nt,.str st,.sl lt]]) P:=
  gE (λ_=>funS rfl rfl Tryz.func134 rfl) (by kernel_rfl) h
theorem qlz(kt nt:Int)(st:Bz)(lt:Rz){P:AV->Prop}(h:Gets (qc5 kt nt st lt 0 0 kt nt st lt 1 [[.int .i64 kt,.int .i64 nt,.str st,.sl lt]]) P):Gets (EVs (EV cfg) 83 [.agg [.int .i64 kt,.int .i64 nt,.str st,.sl lt]]) P:=
  gE (λ_=>funS rfl rfl Tryz.func83 rfl) (by kernel_rfl) h
theorem qdX(c0_0 c0_1:Int)(c0_2:Bz)(c0_3:Rz)(c1_0 c2_0 c3_0 c3_1:Int)(c3_2:Bz)(c3_3:Rz)(nc5_0:Nat)(h6:Rz){P:AV->Prop}(h:Gets (bif decide ((↑ nc5_0:Int)>0)then bif qe 0 (qAH .i64 ((↑ nc5_0:Int) - 1))&&qi (qAH .i64 ((↑ nc5_0:Int) - 1)) (↑ nc5_0:Int)then kOpt (qAu h6 (0+qAR (qAH .i64 ((↑ nc5_0:Int) - 1)))) λrow=>bif qAF 4 (qAt row)then kTmC (qAB 4 row) λn n_1 s rows=>(bif qe 0 (qAH .i64 ((↑ nc5_0:Int) - 1))&&qe (qAH .i64 ((↑ nc5_0:Int) - 1)) (↑ nc5_0:Int)then kOpt (EVs (EV cfg) 133 [.agg [.int .i64 n,.int .i64 n_1,.str s,.sl rows]]) λv=>qJ v λb=>bif ! b then some (.int .i64 2)else kOpt (EVs (EV cfg) 134 [.agg [.int .i64 n,.int .i64 n_1,.str s,.sl rows]]) λv=>kInt .i64 v λn_2=>qnP (qAH .i64 ((↑ (qAt rows):Int) - 1)) c0_0 c0_1 c0_2 c0_3 c1_0 (qAH .i64 (c2_0+n_2)) c3_0 c3_1 c3_2 c3_3 (qAR (qAH .i64 ((↑ nc5_0:Int) - 1)) - 0) h6 n n_1 s rows rows else none)else none else none else bif decide (c2_0>65536)then some (.int .i64 3)else some (.int .i64 0)) P):Gets (qc5 c0_0 c0_1 c0_2 c0_3 c1_0 c2_0 c3_0 c3_1 c3_2 c3_3 nc5_0 h6) P:=
  gE (λ_=>qt (cfg:=cfg) (f:=192) (rd:=none) (bs:=5)) (by kernel_rfl) h
abbrev zd10(row:List AV)(nc5_0:Nat)(h6:Rz)(v3 c0_0 c0_1:Int)(c0_2:Bz)(c0_3:Rz)(c1_0 c2_0 c3_0 c3_1:Int)(c3_2:Bz)(c3_3:Rz)(c7_0 c7_1:Int)(c7_2:Bz)(c7_3 c8_0:Rz):Option (AV):=kTmC (qAB 4 row) λn n_1 s rows=>(bif qAF (0+nc5_0) (qAt h6)&&qo (nc5_0+1) 56 then bif qe 0 (↑ nc5_0:Int)&&qi (↑ nc5_0:Int) (↑ (nc5_0+1):Int)then kOpt (qAu (qAG (qAB nc5_0 h6) [[.int .i64 0,.int .i64 0,.str [],.nilS]]) (0+qAR (↑ nc5_0:Int))) λrow=>bif qAF 4 (qAt row)then qls (qAH .i64 (v3 - (1:Int))) c0_0 c0_1 c0_2 c0_3 c1_0 c2_0 c3_0 c3_1 c3_2 c3_3 (nc5_0+1) c7_0 c7_1 c7_2 c7_3 c8_0 (List.set (qAG (qAB nc5_0 h6) [[.int .i64 0,.int .i64 0,.str [],.nilS]]) (0+qAR (↑ nc5_0:Int)) (.int .i64 n:: .int .i64 n_1:: .str s:: .sl rows::qAO 4 row))else none else none else none)
abbrev zd9(row:List AV)(nc5_0:Nat)(h6:Rz)(v3 c0_0 c0_1:Int)(c0_2:Bz)(c0_3:Rz)(c1_0 c2_0 c3_0 c3_1:Int)(c3_2:Bz)(c3_3:Rz)(c7_0 c7_1:Int)(c7_2:Bz)(c7_3 c8_0:Rz):Option (AV):=bif qAF 4 (qAt row)then zd10 row nc5_0 h6 v3 c0_0 c0_1 c0_2 c0_3 c1_0 c2_0 c3_0 c3_1 c3_2 c3_3 c7_0 c7_1 c7_2 c7_3 c8_0 else none
abbrev zd8(row:List AV)(nc5_0:Nat)(h6:Rz)(v3 c0_0 c0_1:Int)(c0_2:Bz)(c0_3:Rz)(c1_0 c2_0 c3_0 c3_1:Int)(c3_2:Bz)(c3_3:Rz)(c7_0 c7_1:Int)(c7_2:Bz)(c7_3 c8_0:Rz):Option (AV):=bif qAz (qAt row) 4 then zd9 row nc5_0 h6 v3 c0_0 c0_1 c0_2 c0_3 c1_0 c2_0 c3_0 c3_1 c3_2 c3_3 c7_0 c7_1 c7_2 c7_3 c8_0 else none
abbrev zd7(c8_0:Rz)(v3:Int)(nc5_0:Nat)(h6:Rz)(c0_0 c0_1:Int)(c0_2:Bz)(c0_3:Rz)(c1_0 c2_0 c3_0 c3_1:Int)(c3_2:Bz)(c3_3:Rz)(c7_0 c7_1:Int)(c7_2:Bz)(c7_3:Rz):Option (AV):=kOpt (qAu c8_0 (v3.toNat)) λrow=>zd8 row nc5_0 h6 v3 c0_0 c0_1 c0_2 c0_3 c1_0 c2_0 c3_0 c3_1 c3_2 c3_3 c7_0 c7_1 c7_2 c7_3 c8_0
abbrev zd6(v3:Int)(c8_0:Rz)(nc5_0:Nat)(h6:Rz)(c0_0 c0_1:Int)(c0_2:Bz)(c0_3:Rz)(c1_0 c2_0 c3_0 c3_1:Int)(c3_2:Bz)(c3_3:Rz)(c7_0 c7_1:Int)(c7_2:Bz)(c7_3:Rz):Option (AV):=bif qe 0 v3&&qi v3 (c8_0.length:Int)then zd7 c8_0 v3 nc5_0 h6 c0_0 c0_1 c0_2 c0_3 c1_0 c2_0 c3_0 c3_1 c3_2 c3_3 c7_0 c7_1 c7_2 c7_3 else none
abbrev zd5(v3:Int)(c8_0:Rz)(nc5_0:Nat)(h6:Rz)(c0_0 c0_1:Int)(c0_2:Bz)(c0_3:Rz)(c1_0 c2_0 c3_0 c3_1:Int)(c3_2:Bz)(c3_3:Rz)(c7_0 c7_1:Int)(c7_2:Bz)(c7_3:Rz):Option (AV):=bif decide (v3≥0)then zd6 v3 c8_0 nc5_0 h6 c0_0 c0_1 c0_2 c0_3 c1_0 c2_0 c3_0 c3_1 c3_2 c3_3 c7_0 c7_1 c7_2 c7_3 else qc5 c0_0 c0_1 c0_2 c0_3 c1_0 c2_0 c3_0 c3_1 c3_2 c3_3 nc5_0 h6
theorem qpN(v3 c0_0 c0_1:Int)(c0_2:Bz)(c0_3:Rz)(c1_0 c2_0 c3_0 c3_1:Int)(c3_2:Bz)(c3_3:Rz)(nc5_0:Nat)(h6:Rz)(c7_0 c7_1:Int)(c7_2:Bz)(c7_3 c8_0:Rz){P:AV->Prop}(h:Gets (zd5 v3 c8_0 nc5_0 h6 c0_0 c0_1 c0_2 c0_3 c1_0 c2_0 c3_0 c3_1 c3_2 c3_3 c7_0 c7_1 c7_2 c7_3) P):Gets (qnP v3 c0_0 c0_1 c0_2 c0_3 c1_0 c2_0 c3_0 c3_1 c3_2 c3_3 nc5_0 h6 c7_0 c7_1 c7_2 c7_3 c8_0) P:=
  gE (λ_=>qt (cfg:=cfg) (f:=203) (rd:=none) (bs:=10)) (by kernel_rfl) h
theorem qfX(v3 c0_0 c0_1:Int)(c0_2:Bz)(c0_3:Rz)(c1_0 c2_0 c3_0 c3_1:Int)(c3_2:Bz)(c3_3:Rz)(nc5_0:Nat)(c7_0 c7_1:Int)(c7_2:Bz)(c7_3 c8_0 h10:Rz){P:AV->Prop}(h:Gets (zd5 v3 c8_0 nc5_0 h10 c0_0 c0_1 c0_2 c0_3 c1_0 c2_0 c3_0 c3_1 c3_2 c3_3 c7_0 c7_1 c7_2 c7_3) P):Gets (qls v3 c0_0 c0_1 c0_2 c0_3 c1_0 c2_0 c3_0 c3_1 c3_2 c3_3 nc5_0 c7_0 c7_1 c7_2 c7_3 c8_0 h10) P:=
  gE (λ_=>qt (cfg:=cfg) (f:=203) (rd:=none) (bs:=10)) (by kernel_rfl) h
end Go.Proofs.YtafdkafbgohigaaGreat
end
noncomputable section
namespace Go.Av
def qlm(p:Prop)(v:AV):Prop:=∃b:Bool,v= .bool b∧(b=true↔p)
theorem zF{p:Prop}{b:Bool}:qlm p (.bool b)↔(b=true↔p):=⟨fun⟨_,h1,h2⟩=>by cases h1;exact h2,λh=>⟨b,rfl,h⟩⟩
end Go.Av
namespace Go.Proofs.YtafdkafbgohigaaGreat
open Go.Av
theorem zw{n:Nat}(h:n<=1099511627776):qo n 56=true:=by
 unfold qo;rw[qAw,qA2,qA2];omega
theorem q9(t:Tm):(AV.agg [.int .i64 t.kind,.int .i64 t.num,.str t.str,.sl (qa t.subs)])=t.av:=by rw[Tm.av,Tm.cells_eq]
theorem qvz(t:Tm):EVs (EV cfg) 133 [t.av]=some (.bool t.sound):=by
 obtain⟨k,n,s,l⟩:=t;apply Gets.get;rw[Tm.av_mk];refine qlx _ _ _ _ ?_;unfold zd0 zd1 zd2 zd3 zd4;simp only[Tm.sound,Tm.kind_mk,Tm.num_mk,Tm.str_mk,Tm.subs_mk,qc,beqI,qu5,yq]
 by_cases h1:k=1
 ·subst h1;simp[vX]<;>(try rw[Bool.eq_iff_iff])<;>(try simp)<;>first|omega|grind
 by_cases h2:k=2
 ·subst h2;simp[vX]<;>(try rw[Bool.eq_iff_iff])<;>(try simp)<;>first|omega|grind
 by_cases h3:k=3
 ·subst h3;simp[vX]<;>(try rw[Bool.eq_iff_iff])<;>(try simp)<;>first|omega|grind
 by_cases h4:k=4
 ·subst h4;simp[vX]<;>(try rw[Bool.eq_iff_iff])<;>(try simp)<;>first|omega|grind
 by_cases h6:k=6
 ·subst h6;simp[vX]<;>(try rw[Bool.eq_iff_iff])<;>(try simp)<;>first|omega|grind
 by_cases h5:k=5
 ·subst h5;cases l with
  |nil=>simp[vX]<;>(try rw[Bool.eq_iff_iff])<;>(try simp)<;>first|omega|grind
  |cons x l=>
   have hx:¬((l.length:Int)+1=0):=by omega
   simp[hx,vX]<;>(try rw[Bool.eq_iff_iff])<;>(try simp)<;>first|omega|grind
 by_cases h7:k=7
 ·subst h7;simp[vX]<;>(try rw[Bool.eq_iff_iff])<;>(try simp)<;>first|omega|grind
 by_cases h8:k=8
 ·subst h8;simp[vX]<;>(try rw[Bool.eq_iff_iff])<;>(try simp)<;>first|omega|grind
 by_cases h9:k=9
 ·subst h9;simp[vX]<;>(try rw[Bool.eq_iff_iff])<;>(try simp)<;>first|omega|grind
 simp[h1,h2,h3,h4,h5,h6,h7,h8,h9]
theorem qyC(t:Tm):EVs (EV cfg) 134 [t.av]=some (.int .i64 t.own):=by
 obtain⟨k,n,s,l⟩:=t;apply Gets.get;rw[Tm.av_mk];refine qn3 _ _ _ _ ?_;simp only[Tm.own,Tm.kind_mk,beqI]
 by_cases h7:k=7
 ·simp[h7]
 ·by_cases h5:k=5
  ·simp[h5]
  ·simp[h7,h5]
theorem qje(l:List (List AV))(z:List AV):(l++[z])[l.length]? =some z:=by simp
theorem qjd(l:List (List AV))(z c:List AV):(l++[z]).set l.length c=l++[c]:=by simp
theorem qt8{t x:Tm}(hx:x.subs.length<1099511627776){wd:Int}{P:AV->Prop}:∀(j:Nat) (R:List Tm),j<=x.subs.length->R.length+j<1099511627776 ->
  Gets (qc5 t.kind t.num t.str (qa t.subs) 0 wd t.kind t.num t.str (qa t.subs) (R.length+j) (qa (R++(x.subs.take j).reverse))) P ->
  Gets (qls ((j:Int) - 1) t.kind t.num t.str (qa t.subs) 0 wd t.kind t.num t.str (qa t.subs) R.length x.kind x.num x.str (qa x.subs) (qa x.subs) (qa R)) P
 |0,R,_,_,h=>by
  refine qfX _ _ _ _ _ _ _ _ _ _ _ _ _ _ _ _ _ _ ?_;unfold zd5 zd6 zd7 zd8 zd9 zd10
  simpa using h
 |j+1,R,hj,hR,h=>by
  have ih:=qt8 (t:=t) hx (wd:=wd) (P:=P) j (R++[x.subs[j]]) (by omega) (by simp;omega);have e1:x.subs.take (j+1)=x.subs.take j++[x.subs[j]]:=by rw[List.take_add_one,qAv (by omega)];rfl
  have e4:R++(x.subs.take j++[x.subs[j]]).reverse=R++x.subs[j]::(x.subs.take j).reverse:=by rw[List.reverse_append];rfl
  rw[e1,e4,show R.length+(j+1)=R.length+1+j by omega]at h;refine qfX _ _ _ _ _ _ _ _ _ _ _ _ _ _ _ _ _ _ ?_;unfold zd5 zd6 zd7 zd8 zd9 zd10;have hw:qAH .i64 ((j:Int) - 1)=(j:Int) - 1:=vE (by omega) (by omega);have hjl:j<x.subs.length:=by omega
  have e2:((j+1:Nat):Int) - 1=j:=by omega
  rw[e2];have ht:qAB R.length (qa R)=qa R:=qAE (by simp);have g0:=qje (qa R) [.int .i64 0,.int .i64 0,.str [],.nilS];have s0:=qjd (qa R) [.int .i64 0,.int .i64 0,.str [],.nilS] x.subs[j].cells;rw[qc]at g0 s0;simp[hjl,hw,zw (show R.length+1<=1099511627776 by omega),ht]at ih⊢;exact ih h
theorem qyB{t x:Tm}(hx:x.subs.length<1099511627776){wd:Int}{P:AV->Prop}{R:List Tm}{Z:List (List AV)}(hR:R.length+x.subs.length<1099511627776)(h0:x.subs=[]->Gets (qc5 t.kind t.num t.str (qa t.subs) 0 wd t.kind t.num t.str (qa t.subs) R.length (qa R++Z)) P)(h:x.subs≠[]->Gets (qc5 t.kind t.num t.str (qa t.subs) 0 wd t.kind t.num t.str (qa t.subs) (R++x.subs.reverse).length (qa (R++x.subs.reverse))) P):
  Gets (qnP ((x.subs.length:Int) - 1) t.kind t.num t.str (qa t.subs) 0 wd t.kind t.num t.str (qa t.subs) R.length (qa R++Z) x.kind x.num x.str (qa x.subs) (qa x.subs)) P:=by
 refine qpN _ _ _ _ _ _ _ _ _ _ _ _ _ _ _ _ _ _ ?_;unfold zd5 zd6 zd7 zd8 zd9 zd10;rcases Nat.eq_zero_or_pos x.subs.length with hz|hp
 ·have hz':x.subs=[]:=List.length_eq_zero_iff.1 hz;have:=h0 hz'
  simpa [hz']using this
 ·obtain⟨j,hj⟩:∃j,x.subs.length=j+1:=⟨x.subs.length - 1,by omega⟩;have hne:x.subs≠[]:=by intro e;rw[e]at hp;simp at hp
  have hjl:j<x.subs.length:=by omega
  have e2:(x.subs.length:Int) - 1=j:=by omega
  have hw:qAH .i64 ((j:Int) - 1)=(j:Int) - 1:=vE (by omega) (by omega);have ht:qAB R.length (qa R++Z)=qa R:=by rw[List.take_append_of_le_length (by simp),qAE (by simp)]
  have e5:x.subs=x.subs.take j++[x.subs[j]]:=by
   have:x.subs.take (j+1)=x.subs:=qAE (by omega);rw[List.take_add_one,qAv hjl]at this;exact this.symm
  have e6:R++x.subs.reverse=R++[x.subs[j]]++(x.subs.take j).reverse:=by
   conv=>lhs;rw[e5]
   rw[List.reverse_append,qA8];rfl
  have:=qt8 (t:=t) hx (wd:=wd) (P:=P) j (R++[x.subs[j]]) (by omega) (by simp;omega) (by
   have h:=h hne;rw[e6]at h;have e7:(R++[x.subs[j]]++(x.subs.take j).reverse).length=(R++[x.subs[j]]).length+j:=by
    rw[qAI,List.length_reverse,qA6];omega
   rw[e7]at h;exact h)
  rw[e2];simp at this;simp[hjl,hw,zw (show R.length+1<=1099511627776 by omega),ht];exact this
theorem qxy{t:Tm}:∀(n:Nat) (R:List Tm) (Z:List (List AV)) (wd:Nat),wL R<=n->n<1099511627776->wd+2*wL R<9007199254740992 ->
  Gets (qc5 t.kind t.num t.str (qa t.subs) 0 (wd:Int) t.kind t.num t.str (qa t.subs) R.length (qa R++Z)) (·= .int .i64 (chkS R wd)):=by
 intro n
 induction n with
 |zero=>
  intro R Z wd hn _ _;have:R=[]:=by
   have:=xw R;exact List.length_eq_zero_iff.1 (by omega)
  subst this;refine qdX _ _ _ _ _ _ _ _ _ _ _ _ ?_
  by_cases h:65536<wd
  ·have h':(65536:Int)<wd:=by omega
   simp[h,h',chkS,vN,vh]
  ·have h':¬(65536:Int)<wd:=by omega
   simp[h,h',chkS,vN,vh]
 |succ n ih=>
  intro R Z wd hn hN hw;rcases List.eq_nil_or_concat R with rfl|⟨R0,x,rfl⟩
  ·refine qdX _ _ _ _ _ _ _ _ _ _ _ _ ?_
   by_cases h:65536<wd
   ·have h':(65536:Int)<wd:=by omega
    simp[h,h',chkS,vN,vh]
   ·have h':¬(65536:Int)<wd:=by omega
    simp[h,h',chkS,vN,vh]
  ·rw[List.concat_eq_append]at *;have hwx:=x.w_eq;have ho:=x.own_le;simp only[zB,qA,xu]at hn hw;have hl0:=xw R0;have hls:=xw x.subs;have hsd:=qvz x;have how:=qyC x;refine qdX _ _ _ _ _ _ _ _ _ _ _ _ ?_;have e1:(R0++[x]).length=R0.length+1:=by simp
   have hw1:qAH .i64 (R0.length:Int)=R0.length:=qAf (by omega);have hw2:qAH .i64 ((wd:Int)+x.own)=((wd+x.own:Nat):Int):=by rw[vE (by omega) (by omega)];omega
   have hw3:qAH .i64 ((x.subs.length:Int) - 1)=(x.subs.length:Int) - 1:=vE (by omega) (by omega);have g:(qa (R0++[x])++Z)[R0.length]? =some x.cells:=by
    rw[qAN (by simp),yQ];simp
   cases hs:x.sound with
   |false=>
    rw[hs]at hsd;simp[e1,hw1,g,hsd,qwq hs]
   |true=>
    rw[hs]at hsd;have e3:qa (R0++[x])++Z=qa R0++(x.cells::Z):=by rw[vH,qA8,qK,vj];rfl
    have:=qyB (t:=t) (x:=x) (R:=R0) (Z:=x.cells::Z) (wd:=((wd+x.own:Nat):Int)) (P:=(·= .int .i64 (chkS (R0++[x]) wd))) (by omega) (by omega)
     (λhz=>by
      have:=ih R0 (x.cells::Z) (wd+x.own) (by omega) (by omega) (by omega);rw[←qmJ hs,hz,List.reverse_nil,List.append_nil];exact this)
     (λhz=>by
      have:=ih (R0++x.subs.reverse) [] (wd+x.own) (by rw[zB,qtE];omega) (by omega) (by rw[zB,qtE];omega);rw[←qmJ hs];rw[List.append_nil]at this;exact this)
    simp only[e1,e3]at g⊢;simp only[Int.natCast_add]at hw2 this;simp[hw1,hsd,how,hw2,hw3];exact this
theorem qi9{t:Tm}(h:t.w<1099511627776):EVs (EV cfg) 83 [t.av]=some (.int .i64 t.chk):=by
 have:=qxy (t:=t) _ [t] [] 0 (qAA _) (by simpa using h) (by simp;omega);apply Gets.get;rw[Tm.av,Tm.cells_eq];refine qlz _ _ _ _ ?_;rw[←Tm.cells_eq,qtU,Tm.chk]
 simpa using this
theorem qd7{s h0:List UInt8}{b:UInt8}{v:Int}{i:Nat}{P:AV->Prop}(hv:0<=v∧v<=9)(hlen:(qAB (s.length - 1) (s.drop 1)).length=h0.length)(hl:h0.length<=2)(hb:h0[i]? =some b)(h:Gets (match yb b with|none=>some (AV.tup [.int .i64 0,.bool false])|some x=>qc6 s (v*10+x) ((i+1:Nat):Int) (h0.map λb=>[.int .u8 (b.toNat:Int)])) P):Gets (qc6 s v i (h0.map λb=>[.int .u8 (b.toNat:Int)])) P:=by
 have hi:i<h0.length:=(qAy.1 hb).1;refine qh3 _ _ _ _ ?_;have hbl:=b.toNat_lt;rw[hlen,qBh (show(i:Int)<(h0.length:Int) by omega),qI,q8,qBh hi];simp only[cond_true,qAM,qB,qA5,qAS,List.getElem?_map,hb,qAW,qb,List.getElem?_cons_zero,qm];unfold yb at h
 by_cases h1:b.toNat<48
 ·rw[qBj h1]at h;rw[qBh (show(b.toNat:Int)<48 by omega)];exact h
 ·rw[qBk h1]at h;rw[qBi (show ¬(b.toNat:Int)<48 by omega),cond_false]
  by_cases h2:b.toNat>57
  ·rw[qBj h2]at h;rw[qBh (show(b.toNat:Int)>57 by omega)];exact h
  ·rw[qBk h2]at h;rw[qBi (show ¬(b.toNat:Int)>57 by omega),cond_false];have w1:qAH .i64 (v*10)=v*10:=vE (by omega) (by omega);have w2:qAH .u8 ((b.toNat:Int) - 48)=(b.toNat:Int) - 48:=by
    simp[qAH,IntKind.bits,IntKind.signed];omega
   have w3:qAH .i64 ((b.toNat:Int) - 48)=(b.toNat:Int) - 48:=vE (by omega) (by omega);have w4:qAH .i64 (v*10+((b.toNat:Int) - 48))=v*10+((b.toNat:Int) - 48):=vE (by omega) (by omega);have w5:qAH .i64 ((i:Int)+1)=((i+1:Nat):Int):=qL (n:=2) (by omega) (by omega);rw[w1,w2,w3,w4,w5];exact h
theorem qj8{s h0:List UInt8}{v:Int}{i:Nat}(hlen:(qAB (s.length - 1) (s.drop 1)).length=h0.length)(hi:i=h0.length):Gets (qc6 s v i (h0.map λb=>[.int .u8 (b.toNat:Int)])) (·= .tup [.int .i64 v,.bool true]):=by
 refine qh3 _ _ _ _ ?_;rw[hlen,qBi (by omega)];exact⟨_,rfl,rfl⟩
def varR(o:Option Int):AV:=.tup [.int .i64 (o.getD 0),.bool o.isSome]
theorem qdh(s:List UInt8):EVs (EV cfg) 176 [.str s]=some (varR (varG s)):=by
 apply Gets.get;refine qmZ _ ?_;unfold zc0 zc1
 match s with
 |[]=>exact⟨_,rfl,rfl⟩
 |[a]=>exact⟨_,rfl,rfl⟩
 |a::b::c::d::l=>
  have h1:¬((a::b::c::d::l).length:Int)<2:=by simp;omega
  have h2:((a::b::c::d::l).length:Int)>3:=by simp;omega
  rw[qBi h1,qBh h2];exact⟨_,rfl,rfl⟩
 |[a,b]=>
  by_cases h:a.toNat=36
  ·have e:(((a.toNat:Int)) != 36)=false:=by rw[h];rfl
   have hs:=qd7 (s:=[a,b]) (h0:=[b]) (b:=b) (v:=0) (i:=0) (P:=(·=varR (varG [a,b]))) (by omega) rfl (by simp) rfl (by
    rw[qnm,qBj h];cases hd:yb b with
    |none=>exact⟨_,rfl,rfl⟩
    |some x=>
     refine(qj8 (s:=[a,b]) (h0:=[b]) rfl rfl).mono ?_;rintro _ rfl;show _=varR (some x);simp[varR])
   show Gets (bif(((a.toNat:Int)) != 36)then _ else _) _;rw[e];exact hs
  ·have e:(((a.toNat:Int)) != 36)=true:=by simpa using λh'=>h (by omega)
   show Gets (bif(((a.toNat:Int)) != 36)then _ else _) _;rw[e];refine⟨_,rfl,?_⟩;rw[qnm,qBk h];rfl
 |[a,b,c]=>
  by_cases h:a.toNat=36
  ·have e:(((a.toNat:Int)) != 36)=false:=by rw[h];rfl
   show Gets (bif(((a.toNat:Int)) != 36)then _ else bif(((b.toNat:Int))==48)then _ else _) _;rw[e]
   by_cases hb:b.toNat=48
   ·have e2:(((b.toNat:Int))==48)=true:=by rw[hb];rfl
    rw[e2];refine⟨_,rfl,?_⟩;rw[qhq,qBk (λh=>h.2 hb)];rfl
   ·have e2:(((b.toNat:Int))==48)=false:=by simpa using λh'=>hb (by omega)
    rw[e2];show Gets (qc6 [a,b,c] 0 0 ([b,c].map λb=>[.int .u8 (b.toNat:Int)])) _;refine qd7 (s:=[a,b,c]) (h0:=[b,c]) (b:=b) (v:=0) (i:=0) (by omega) rfl (by simp) rfl ?_;rw[qhq,qBj ⟨h,hb⟩];cases hd:yb b with
    |none=>exact⟨_,rfl,rfl⟩
    |some x=>
     have hx:=qcv hd;refine qd7 (s:=[a,b,c]) (h0:=[b,c]) (b:=c) (i:=1) (by omega) rfl (by simp) rfl ?_;cases hd2:yb c with
     |none=>exact⟨_,rfl,by simp[varR]⟩
     |some y=>
      refine(qj8 (s:=[a,b,c]) (h0:=[b,c]) rfl rfl).mono ?_;rintro _ rfl;simp[varR]
  ·have e:(((a.toNat:Int)) != 36)=true:=by simpa using λh'=>h (by omega)
   show Gets (bif(((a.toNat:Int)) != 36)then _ else _) _;rw[e];refine⟨_,rfl,?_⟩;rw[qhq,qBk (λh'=>h h'.1)];rfl
theorem qgr{t:Tm}(h:t.w<1099511627776):EVs (EV cfg) 175 [t.av]=some (.bool (decide (t.chk=0))):=by
 have hc:=qi9 h;apply Gets.get;rw[Tm.av,Tm.cells_eq]at hc⊢;refine qse _ _ _ _ ?_;rw[hc];simp[beqI]
theorem qdJ{t:Tm}(h:t.w<1099511627776):EVs (EV cfg) 113 [t.av]=some (varR (varT t)):=by
 have hc:=qgr h;apply Gets.get;rw[Tm.av,Tm.cells_eq]at hc⊢;refine qsd _ _ _ _ ?_;rw[hc,qdh];unfold varT
 by_cases h1:t.kind=2
 ·by_cases h2:t.chk=0
  ·simp[h1,h2,varR,kTup,qf,kNil]
  ·simp[h1,h2,varR]
 ·have h1':(t.kind != 2)=true:=by simpa using h1
  rw[h1'];simp[h1,varR]
end Go.Proofs.YtafdkafbgohigaaGreat
end
noncomputable section
namespace Go.Av
theorem zi{t:Tm}:t.chk=0↔t.parts=true∧t.words<=65536:=by
 unfold Tm.chk chkS;simp only[vN,vh,Bool.and_true,qA5,Nat.add_zero];cases h:t.parts with
 |false=>simp
 |true=>
  simp
theorem qvu(l:List Tm)(h:∀x∈l,x.parts=true->x.w<=65*x.words):vN l=true->wL l<=65*vh l:=by
 induction l with
 |nil=>intro _;simp
 |cons x l ih=>
  intro hp;rw[vN,qAw]at hp;have h1:=h x (by simp) hp.1;have h2:=ih (λy hy=>h y (by simp[hy])) hp.2;rw[qA,vh];omega
theorem ql7{k n:Int}{s:List UInt8}{m:Nat}(h:yq k n s m=true):s.length<=64∧m<=64:=by
 unfold yq at h
 repeat' split at h
 all_goals simp at h
 all_goals first|(obtain⟨_,_,h3,h4⟩:=h;subst h3;simp;omega)|(obtain⟨_,h3,h4⟩:=h;subst h3;simp;omega)|omega
theorem qxe(t:Tm):t.parts=true->t.w<=65*t.words:=by
 induction t using Tm.ind with
 |_ k n s l ih=>
  intro hp;rw[Tm.parts,qAw]at hp;have h1:=ql7 hp.1;have h2:=qvu l ih hp.2;have h3:=(Tm.mk k n s l).own_le;rw[Tm.w_mk,Tm.words];omega
theorem zD{t:Tm}(h:t.chk=0):t.w<=4259840:=by
 obtain⟨h1,h2⟩:=zi.1 h;have:=qxe t h1;omega
theorem qvy{t:Tm}(h:t.chk=0):t.subs.length<=64:=by
 obtain⟨h1,_⟩:=zi.1 h;rw[Tm.parts_eq,qAw]at h1;exact(ql7 h1.1).2
theorem qjz{x:Tm}{l:List Tm}(h:x∈l):x.words<=vh l:=by
 induction l with
 |nil=>cases h
 |cons y l ih=>
  rw[vh];rcases qAZ.1 h with rfl|h
  ·omega
  ·have:=ih h;omega
theorem qcK{l:List Tm}(h:vN l=true):∀x∈l,x.parts=true:=by
 induction l with
 |nil=>intro x hx;cases hx
 |cons y l ih=>
  intro x hx;rw[vN,qAw]at h;rcases qAZ.1 hx with rfl|hx
  ·exact h.1
  ·exact ih h.2 x hx
theorem vU{t x:Tm}(h:t.chk=0)(hx:x∈t.subs):x.chk=0:=by
 obtain⟨h1,h2⟩:=zi.1 h;rw[Tm.parts_eq,qAw]at h1;have:=qjz hx;rw[Tm.words_eq]at h2;exact zi.2 ⟨qcK h1.2 x hx,by omega⟩
theorem qbZ{t:Tm}(h:t.chk=0)(hk:t.kind=9):∃a b,t.subs=[a,b]:=by
 obtain⟨h1,_⟩:=zi.1 h;rw[Tm.parts_eq,qAw]at h1;have h2:yq t.kind t.num t.str t.subs.length=true:=h1.1;rw[hk]at h2;simp[yq]at h2
 match hl:t.subs,h2.2.2 with
 |[a,b],_=>exact⟨a,b,rfl⟩
def vG(l:List Tm):Tm:=l.foldr (λx e=>.mk 9 0 [] [x,e]) (.mk 8 0 [] [])
structure EnvOk (e:Env):Prop where
 obj:e.obj.chk=0
 may:mayB (-1) e.binds=true
 self:qAh e.self=true
theorem qoy:∀{l:List (Int×Tm)} {last:Int},mayB last l=true->(l.length:Int)<=max 0 (99 - last)
 |[],_,_=>by simp;omega
 |p::l,last,h=>by
  simp only[mayB,qAw,decide_eq_true_eq]at h;have:=qoy h.2.2.2;simp only[qA0];omega
theorem EnvOk.len{e:Env}(h:EnvOk e):e.binds.length<=100:=by have:=qoy h.may;omega
theorem qbf{V:List Int}{l:List Tm}(h:allG V l=true):∀x∈l,isG V x=true:=by
 intro x hx;cases hg:isG V x with
 |true=>rfl
 |false=>rw[qfx.2 ⟨x,hx,hg⟩]at h;cases h
def qbE:Nat->Tm->List Tm×Bool
 |0,_=>([],false)
 |n+1,t=>if t.kind=9 then(match t.subs with|[a,b]=>(a::(qbE n b).1,(qbE n b).2)|_=>([],false))else([],decide (t.kind=8))
def qy(t:Tm):List Tm×Bool:=qbE t.w t
theorem qqz:∀(n m:Nat) (t:Tm),t.w<=n->t.w<=m->qbE n t=qbE m t:=by
 intro n
 induction n with
 |zero=>intro m t h;have:=yJ t;omega
 |succ n ih=>
  intro m t hn hm;obtain⟨m,rfl⟩:∃k,m=k+1:=⟨m - 1,by have:=yJ t;omega⟩;rw[qbE,qbE]
  by_cases h9:t.kind=9
  ·rw[qBj h9,qBj h9];have hw:=t.w_eq;cases hs:t.subs with
   |nil=>rfl
   |cons a l=>
    cases l with
    |nil=>rfl
    |cons b l=>
     cases l with
     |nil=>
      rw[hs]at hw;simp only[qA,xu]at hw;simp only[];rw[ih m b (by omega) (by omega)]
     |cons c l=>rfl
  ·rw[qBk h9,qBk h9]
theorem xH{t a b:Tm}(hk:t.kind=9)(hs:t.subs=[a,b]):qy t=(a::(qy b).1,(qy b).2):=by
 have hw:=t.w_eq;rw[hs]at hw;simp only[qA,xu]at hw;unfold qy;obtain⟨n,hn⟩:∃n,t.w=n+1:=⟨t.w - 1,by have:=yJ t;omega⟩;rw[hn,qbE,qBj hk,hs];simp only[];rw[qqz n b.w b (by omega) (qAA _)]
theorem yL{t:Tm}(hk:t.kind≠9):qy t=([],decide (t.kind=8)):=by
 unfold qy;obtain⟨n,hn⟩:∃n,t.w=n+1:=⟨t.w - 1,by have:=yJ t;omega⟩;rw[hn,qbE,qBk hk]
theorem qb5:∀l:List Tm,qy (vG l)=(l,true)
 |[]=>yL (by decide)
 |x::l=>by
  rw[xH (a:=x) (b:=vG l) rfl rfl,qb5 l]
theorem qwl{P:Tm->Prop}(h9:∀t a b,t.kind=9->t.subs=[a,b]->t.chk=0->P b->P t)(h0:∀t,t.kind≠9->t.chk=0->P t):∀(n:Nat) (t:Tm),t.w<=n->t.chk=0->P t:=by
 intro n
 induction n with
 |zero=>intro t h;have:=yJ t;omega
 |succ n ih=>
  intro t hw hc
  by_cases hk:t.kind=9
  ·obtain⟨a,b,hs⟩:=qbZ hc hk;have hwe:=t.w_eq;rw[hs]at hwe;simp only[qA,xu]at hwe;exact h9 t a b hk hs hc (ih b (by omega) (vU hc (by rw[hs];simp)))
  ·exact h0 t hk hc
theorem qlW{P:Tm->Prop}(t:Tm)(hc:t.chk=0)(h9:∀t a b,t.kind=9->t.subs=[a,b]->t.chk=0->P b->P t)(h0:∀t,t.kind≠9->t.chk=0->P t):P t:=qwl h9 h0 t.w t (qAA _) hc
theorem qbD{t:Tm}(hc:t.chk=0):∀x∈(qy t).1,x.chk=0:=by
 refine qlW (P:=λt=>∀x∈(qy t).1,x.chk=0) t hc (λt a b hk hs hc ih=>?_) (λt hk hc=>?_)
 ·rw[xH hk hs];intro x hx;rcases qAZ.1 hx with rfl|hx
  ·exact vU hc (by rw[hs];simp)
  ·exact ih x hx
 ·rw[yL hk];intro x hx;cases hx
theorem zJ{t:Tm}(hc:t.chk=0):wL (qy t).1+(qy t).1.length<=t.w:=by
 refine qlW (P:=λt=>wL (qy t).1+(qy t).1.length<=t.w) t hc (λt a b hk hs hc ih=>?_) (λt hk hc=>?_)
 ·rw[xH hk hs,t.w_eq,hs];simp only[qA,xu,qA0];omega
 ·rw[yL hk];simp
def anyT(p:Tm):Bool:=decide (p.kind=2)&&(decide (p.str=[95])&&decide (p.chk=0))
def qbF(p:Tm):Bool:=(varT p).isSome||(decide (p.kind=7)||anyT p)
mutual
/-- does a variable stand in a pattern? -/
def xk (n:Int):Tm->Bool
 | .mk k _ s l=>if k=7∨k=9 then qjJ n l else decide (k=2)&&decide (varG s=some n)
def qjJ (n:Int):List Tm->Bool
 |[]=>false
 |t::l=>xk n t||qjJ n l
end
theorem qjI(n:Int):∀l:List Tm,qjJ n l=l.any (xk n)
 |[]=>rfl
 |t::l=>by rw[qjJ,qjI n l];rfl
theorem zE(n:Int)(t:Tm):xk n t=if t.kind=7∨t.kind=9 then t.subs.any (xk n)else decide (t.kind=2)&&decide (varG t.str=some n):=by
 obtain⟨k,m,s,l⟩:=t;rw[xk,qjI];rfl
def yj(p:Tm):List Int:=if p.chk=0 then((qA7 100).filter λn=>xk (n:Nat) p).map Int.ofNat else[]
structure Cl where
 head:Tm
 gs:List Tm
 bs:List Tm
 deriving Inhabited
def Cl.cells(c:Cl):List AV:=[.int .i64 c.head.kind,.int .i64 c.head.num,.str c.head.str,.sl (qa c.head.subs),.sl (qa c.gs),.sl (qa c.bs)]
def Cl.av(c:Cl):AV:=.agg c.cells
def qY(l:List Cl):List (List AV):=l.map Cl.cells
def qeO:Cl:=⟨qwS,[],[]⟩
theorem vZ(l:List Cl):(qY l).length=l.length:=by simp[qY]
theorem qgi(l:List Cl)(i:Nat):(qY l)[i]? =(l[i]?).map Cl.cells:=by simp[qY]
theorem qde(a b:List Cl):qY (a++b)=qY a++qY b:=by simp[qY]
theorem qtW(c:Cl):qY [c]=[c.cells]:=rfl
theorem qmg(l:List Cl)(i:Nat)(c:Cl):(qY l).set i c.cells=qY (l.set i c):=by simp[qY,List.map_set]
def vY(t:Tm):Option Cl:=
 if t.kind=7 then(match t.subs with
  |[h,g,b]=>if qbF h&&((qy g).2&&((qy b).2&& !(qy b).1.isEmpty))&&((qy g).1.all (λe=>decide (vP (yj h) e=0))&&(qy b).1.all (λe=>decide (vP (yj h) e=0)))then some ⟨h,(qy g).1,(qy b).1⟩else none
  |_=>none)
 else none
def seqC:List Tm->Option (List Cl)
 |[]=>some []
 |t::l=>(vY t).bind λc=>(seqC l).map (c::·)
def clsG(t:Tm):List Cl×Int:=
 if t.chk=0 then(match seqC (qy t).1 with
  |some l=>if(qy t).2&& !l.isEmpty then(l,0)else([],10)
  |none=>([],10))
 else([],2)
theorem qiV:∀{l:List Tm} {cs:List Cl},seqC l=some cs->cs.length=l.length
 |[],cs,h=>by cases h;rfl
 |t::l,cs,h=>by
  rw[seqC]at h;obtain⟨c,_,h⟩:=qAx.1 h;obtain⟨r,hr,rfl⟩:=qAD.1 h;simp[qiV hr]
instance tmEq:DecidableEq Tm:=λ_ _=>Classical.propDecidable _
def clT(c:Cl):Tm:=tupT [c.head,vG c.gs,vG c.bs]
def selT(l:List Cl):Tm:=vG (l.map clT)
def ofG(l:List Cl):Tm×Int:=if(clsG (selT l)).2=0 then(selT l,0)else(qwS,(clsG (selT l)).2)
end Go.Av
end
noncomputable section
namespace Go.Proofs.YtafdkafbgohigaaGreat
open Go.Av
theorem qqD(kt nt:Int)(st:Bz)(lt V:Rz){P:AV->Prop}(h:Gets (bif kt==2 then kOpt (EVs (EV cfg) 113 [.agg [.int .i64 kt,.int .i64 nt,.str st,.sl lt]]) λv=>kTup v λcs=>qf cs λc cs=>kInt .i64 c λn=>qf cs λc cs=>qJ c λb=>kNil cs (bif ! b then some (.bool true)else kOpt (EVs (EV cfg) 172 [.sl V,.int .i64 n]) λv=>qJ v λb=>some (.bool b))else bif kt==9 then kOpt (EVs (EV cfg) 173 [.sl lt,.sl V]) λv=>qJ v λb=>some (.bool b)else bif kt==7 then bif(lt.length:Int)==0 then some (.bool false)else bif qi 0 (lt.length:Int)then kOpt (qAu lt 0) λrow=>bif qAz (qAt row) 4 then bif qAF 4 (qAt row)then kTmC (qAB 4 row) λn n_1 s rows=>(bif qe 1 (lt.length:Int)then bif vq 4 lt then bif n==7 then bif(↑ (qAt (qAB (qAt lt - 1) (qAO 1 lt))):Int)==(0:Int)then kOpt (EVs (EV cfg) 173 [.sl rows,.sl V]) λv=>qJ v λb=>some (.bool b)else some (.bool false)else bif n != 2 then some (.bool false)else bif s==[(99:UInt8),(111:UInt8),(110:UInt8),(115:UInt8),(116:UInt8)]then some (.bool ((↑ (qAt (qAB (qAt lt - 1) (qAO 1 lt))):Int)==1))else kOpt (EVf (EV cfg) 174 [.str s]) λv=>kSl v λrows=>kOpt (EVs (EV cfg) 172 [.sl rows,.int .i64 (↑ (qAt (qAB (qAt lt - 1) (qAO 1 lt))):Int)]) λv=>qJ v λb=>bif b then kOpt (EVs (EV cfg) 173 [.sl (qAB (qAt lt - 1) (qAO 1 lt)),.sl V]) λv=>qJ v λb=>some (.bool b)else some (.bool false)else none else none)else none else none else none else some (.bool true)) P):Gets (EVs (EV cfg) 112 [.agg [.int .i64 kt,.int .i64 nt,.str st,.sl lt],.sl V]) P:=
  gE (λ_=>funS rfl rfl Tryz.func112 rfl) (by kernel_rfl) h
theorem qoZ(L V:Rz){P:AV->Prop}(h:Gets (kOpt (EVs (EV cfg) 212 [.sl L,AV.fn (Fn.func 213) [] [AV.cptr [.sl V] 0]]) λv=>qJ v λb=>some (.bool ! b)) P):Gets (EVs (EV cfg) 173 [.sl L,.sl V]) P:=
  gE (λ_=>funS rfl rfl Tryz.func173 rfl) (by kernel_rfl) h
theorem qlQ(kt nt:Int)(st:Bz)(lt V:Rz){P:AV->Prop}(h:Gets (kOpt (EVs (EV cfg) 83 [.agg [.int .i64 kt,.int .i64 nt,.str st,.sl lt]]) λv=>kInt .i64 v λn=>bif n != 0 then some (.int .i64 2)else kOpt (EVs (EV cfg) 112 [.agg [.int .i64 kt,.int .i64 nt,.str st,.sl lt],.sl V]) λv=>qJ v λb=>bif ! b then some (.int .i64 10)else some (.int .i64 0)) P):Gets (EVs (EV cfg) 62 [.agg [.int .i64 kt,.int .i64 nt,.str st,.sl lt],.sl V]) P:=
  gE (λ_=>funS rfl rfl Tryz.func62 rfl) (by kernel_rfl) h
def qzq:Den:=evC cfg (EV cfg) 236 none 0 (sub (qg Tryz.f236) [1,0,1,0,0])
def qzS:Ex×List AV×AH->Option AV:=kAft (Cfg.keepOut cfg 236 2) (kRun cfg (EV cfg) (kfN cfg 6) 236 none 0 (yK cfg (Cfg.lift cfg 236 0) Tryz.f236.results.toList) ([.block 0,.seq (sub (qg Tryz.f236) [1,1])]))
def qy7:List AV×AH->Option AV:=λp=>kOpt (LOOP 0 (some [0,1,7,8]) ([]) qzq p) qzS
abbrev qjv(L V:Rz)(v8:Int):Option (AV):=qy7 (((fx 19 [(0,.sl L),(1,.fn (Fn.func 213) [] [.cptr [.sl V] 0]),(7,.int .i64 (L.length:Int)),(8,.int .i64 v8)]):List AV),([]:AH))
theorem qpj(L V:Rz){P:AV->Prop}(h:Gets (kOpt (EVs (EV cfg) 236 [.sl L,AV.fn (Fn.func 213) [] [AV.cptr [.sl V] 0]]) λv=>kInt .i64 v λn=>some (.bool (decide (n≥0)))) P):Gets (EVs (EV cfg) 212 [.sl L,.fn (Fn.func 213) [] [.cptr [.sl V] 0]]) P:=
  gE (λ_=>funS rfl rfl Tryz.func212 rfl) (by kernel_rfl) h
theorem qqB(L V:Rz){P:AV->Prop}(h:Gets (qjv L V 0) P):Gets (EVs (EV cfg) 236 [.sl L,.fn (Fn.func 213) [] [.cptr [.sl V] 0]]) P:=
  gE (λ_=>funS rfl rfl Tryz.func236 rfl) (by kernel_rfl) h
theorem qu7(ke ne:Int)(se:Bz)(le V:Rz){P:AV->Prop}(h:Gets (kOpt (EVs (EV cfg) 112 [.agg [.int .i64 ke,.int .i64 ne,.str se,.sl le],.sl V]) λv=>qJ v λb=>some (.bool ! b)) P):Gets (EVs (EV cfg) 213 [.agg [.int .i64 ke,.int .i64 ne,.str se,.sl le],.cptr [.sl V] 0]) P:=
  gE (λ_=>funS rfl rfl Tryz.func213 rfl) (by kernel_rfl) h
theorem qh0(L V:Rz)(v8:Int){P:AV->Prop}(h:Gets (bif decide (v8<(L.length:Int))then bif qe 0 v8&&qi v8 (L.length:Int)then kOpt (qAu L (v8.toNat)) λrow=>bif qAz (qAt row) 4 then bif qAF 4 (qAt row)then kTmC (qAB 4 row) λn n_1 s rows=>(kOpt (EVs (EV cfg) 213 [.agg [.int .i64 n,.int .i64 n_1,.str s,.sl rows],AV.cptr [.sl V] 0]) λv=>qJ v λb=>bif b then some (.int .i64 v8)else qjv L V (qAH .i64 (v8+1)))else none else none else none else some (.int .i64 (- 1))) P):Gets (qjv L V v8) P:=
  gE (λ_=>qt (cfg:=cfg) (f:=236) (rd:=none) (bs:=0)) (by kernel_rfl) h
def qzz:Den:=evC cfg (EV cfg) 211 none 0 (sub (qg Tryz.f211) [1,0,1,0,0])
def qz1:Ex×List AV×AH->Option AV:=kAft (Cfg.keepOut cfg 211 2) (kRun cfg (EV cfg) (kfN cfg 6) 211 none 0 (yK cfg (Cfg.lift cfg 211 0) Tryz.f211.results.toList) ([.block 0,.seq (sub (qg Tryz.f211) [1,1])]))
def qze:List AV×AH->Option AV:=λp=>kOpt (LOOP 0 (some [0,1,7,8]) ([]) qzz p) qz1
abbrev qjD(A:Rz)(n v8:Int):Option (AV):=qze (((fx 19 [(0,.sl A),(1,.int .i64 n),(7,.int .i64 (A.length:Int)),(8,.int .i64 v8)]):List AV),([]:AH))
theorem qm6(op:Bz){P:AV->Prop}(h:Gets (bif op==[(115:UInt8),(101:UInt8),(108:UInt8),(102:UInt8)]then some (.sl [[.int .i64 0]])else bif op==[(105:UInt8),(115:UInt8),(95:UInt8),(97:UInt8),(116:UInt8),(111:UInt8),(109:UInt8)]then some (.sl [[.int .i64 1]])else bif op==[(105:UInt8),(115:UInt8),(95:UInt8),(105:UInt8),(110:UInt8),(116:UInt8),(101:UInt8),(103:UInt8),(101:UInt8),(114:UInt8)]then some (.sl [[.int .i64 1]])else bif op==[(105:UInt8),(115:UInt8),(95:UInt8),(108:UInt8),(105:UInt8),(115:UInt8),(116:UInt8)]then some (.sl [[.int .i64 1]])else bif op==[(105:UInt8),(115:UInt8),(95:UInt8),(116:UInt8),(117:UInt8),(112:UInt8),(108:UInt8),(101:UInt8)]then some (.sl [[.int .i64 1]])else bif op==[(105:UInt8),(115:UInt8),(95:UInt8),(112:UInt8),(105:UInt8),(100:UInt8)]then some (.sl [[.int .i64 1]])else bif op==[(105:UInt8),(115:UInt8),(95:UInt8),(102:UInt8),(117:UInt8),(110:UInt8),(99:UInt8),(116:UInt8),(105:UInt8),(111:UInt8),(110:UInt8)]then some (.sl [[.int .i64 1]])else bif op==[(105:UInt8),(115:UInt8),(95:UInt8),(114:UInt8),(101:UInt8),(102:UInt8),(101:UInt8),(114:UInt8),(101:UInt8),(110:UInt8),(99:UInt8),(101:UInt8)]then some (.sl [[.int .i64 1]])else bif op==[(110:UInt8),(111:UInt8),(116:UInt8)]then some (.sl [[.int .i64 1]])else bif op==[(98:UInt8),(110:UInt8),(111:UInt8),(116:UInt8)]then some (.sl [[.int .i64 1]])else bif op==[(97:UInt8),(98:UInt8),(115:UInt8)]then some (.sl [[.int .i64 1]])else bif op==[(116:UInt8),(117:UInt8),(112:UInt8),(108:UInt8),(101:UInt8),(95:UInt8),(115:UInt8),(105:UInt8),(122:UInt8),(101:UInt8)]then some (.sl [[.int .i64 1]])else bif op==[(115:UInt8),(105:UInt8),(122:UInt8),(101:UInt8)]then some (.sl [[.int .i64 1]])else bif op==[(104:UInt8),(100:UInt8)]then some (.sl [[.int .i64 1]])else bif op==[(116:UInt8),(108:UInt8)]then some (.sl [[.int .i64 1]])else bif op==[(108:UInt8),(101:UInt8),(110:UInt8),(103:UInt8),(116:UInt8),(104:UInt8)]then some (.sl [[.int .i64 1]])else bif op==[(43:UInt8)]then some (.sl [[.int .i64 1],[.int .i64 2]])else bif op==[(45:UInt8)]then some (.sl [[.int .i64 1],[.int .i64 2]])else bif op==[(61:UInt8),(61:UInt8)]then some (.sl [[.int .i64 2]])else bif op==[(61:UInt8),(58:UInt8),(61:UInt8)]then some (.sl [[.int .i64 2]])else bif op==[(47:UInt8),(61:UInt8)]then some (.sl [[.int .i64 2]])else bif op==[(61:UInt8),(47:UInt8),(61:UInt8)]then some (.sl [[.int .i64 2]])else bif op==[(60:UInt8)]then some (.sl [[.int .i64 2]])else bif op==[(61:UInt8),(60:UInt8)]then some (.sl [[.int .i64 2]])else bif op==[(62:UInt8)]then some (.sl [[.int .i64 2]])else bif op==[(62:UInt8),(61:UInt8)]then some (.sl [[.int .i64 2]])else bif op==[(97:UInt8),(110:UInt8),(100:UInt8)]then some (.sl [[.int .i64 2]])else bif op==[(111:UInt8),(114:UInt8)]then some (.sl [[.int .i64 2]])else bif op==[(120:UInt8),(111:UInt8),(114:UInt8)]then some (.sl [[.int .i64 2]])else bif op==[(97:UInt8),(110:UInt8),(100:UInt8),(97:UInt8),(108:UInt8),(115:UInt8),(111:UInt8)]then some (.sl [[.int .i64 2]])else bif op==[(111:UInt8),(114:UInt8),(101:UInt8),(108:UInt8),(115:UInt8),(101:UInt8)]then some (.sl [[.int .i64 2]])else bif op==[(42:UInt8)]then some (.sl [[.int .i64 2]])else bif op==[(100:UInt8),(105:UInt8),(118:UInt8)]then some (.sl [[.int .i64 2]])else bif op==[(114:UInt8),(101:UInt8),(109:UInt8)]then some (.sl [[.int .i64 2]])else bif op==[(98:UInt8),(97:UInt8),(110:UInt8),(100:UInt8)]then some (.sl [[.int .i64 2]])else bif op==[(98:UInt8),(111:UInt8),(114:UInt8)]then some (.sl [[.int .i64 2]])else bif op==[(98:UInt8),(120:UInt8),(111:UInt8),(114:UInt8)]then some (.sl [[.int .i64 2]])else bif op==[(101:UInt8),(108:UInt8),(101:UInt8),(109:UInt8),(101:UInt8),(110:UInt8),(116:UInt8)]then some (.sl [[.int .i64 2]])else some (.sl [])) P):Gets (EVf (EV cfg) 174 [.str op]) P:=
  gE (λ_=>funF rfl rfl Tryz.func174 rfl) (by kernel_rfl) h
theorem qm9(A:Rz)(n:Int){P:AV->Prop}(h:Gets (kOpt (EVs (EV cfg) 211 [.sl A,.int .i64 n]) λv=>kInt .i64 v λn=>some (.bool (decide (n≥0)))) P):Gets (EVs (EV cfg) 172 [.sl A,.int .i64 n]) P:=
  gE (λ_=>funS rfl rfl Tryz.func172 rfl) (by kernel_rfl) h
theorem qsK(A:Rz)(n:Int){P:AV->Prop}(h:Gets (qjD A n 0) P):Gets (EVs (EV cfg) 211 [.sl A,.int .i64 n]) P:=
  gE (λ_=>funS rfl rfl Tryz.func211 rfl) (by kernel_rfl) h
theorem qh7(A:Rz)(n v8:Int){P:AV->Prop}(h:Gets (bif decide (v8<(A.length:Int))then bif qe 0 v8&&qi v8 (A.length:Int)then kOpt (qAu A (v8.toNat)) λrow=>bif qAz (qAt row) 1 then kOpt (qAu row 0) λv=>kInt .i64 v λn_1=>bif n==n_1 then some (.int .i64 v8)else qjD A n (qAH .i64 (v8+1))else none else none else some (.int .i64 (- 1))) P):Gets (qjD A n v8) P:=
  gE (λ_=>qt (cfg:=cfg) (f:=211) (rd:=none) (bs:=0)) (by kernel_rfl) h
def qzx:Den:=evC cfg (EV cfg) 94 none 1 (sub (qg Tryz.f94) [1,1,1,0,1,0,0])
def qzZ:Ex×List AV×AH->Option (AV×List (List AV)):=kAft (Cfg.keepOut cfg 94 6) (kRun cfg (EV cfg) (kfN cfg 6) 94 none 1 (qsy cfg 1 (Cfg.lift cfg 94 0) Tryz.f94.results.toList) ([.block 0,.seq (sub (qg Tryz.f94) [1,1,1,1])]))
def qzc:List AV×AH->Option (AV×List (List AV)):=λp=>kOpt (LOOP 1 (some [1,2,3,4,18,19,20]) ([]) qzx p) qzZ
def qzy:Den:=evC cfg (EV cfg) 40 none 0 (sub (qg Tryz.f40) [1,1,1,0,1,0,0])
def qz0:Ex×List AV×AH->Option AV:=kAft (Cfg.keepOut cfg 40 5) (kRun cfg (EV cfg) (kfN cfg 6) 40 none 0 (yK cfg (Cfg.lift cfg 40 0) Tryz.f40.results.toList) ([.block 0,.seq (sub (qg Tryz.f40) [1,1,1,1])]))
def qzd:List AV×AH->Option AV:=λp=>kOpt (LOOP 0 (some [1,2,5,6]) ([]) qzy p) qz0
abbrev qjB(lt:Rz)(v20 c1_0 c1_1:Int)(c1_2:Bz)(c1_3:Rz)(c2_0 c2_1:Int)(c2_2:Bz)(c2_3 h3:Rz):Option (AV×List (List AV)):=qzc (((fx 35 [(1,.ptr 0 0 0),(2,.ptr 1 0 0),(3,.ptr 2 0 0),(4,.ms 3 0 (qAR (lt.length:Int))),(18,.sl lt),(19,.int .i64 (lt.length:Int)),(20,.int .i64 v20)]):List AV),([.rows false 1 [[.fn (Fn.func 94) [] [.ptr 0 0 0]]],.rows false 4 [[.int .i64 c1_0,.int .i64 c1_1,.str c1_2,.sl c1_3]],.rows false 4 [[.int .i64 c2_0,.int .i64 c2_1,.str c2_2,.sl c2_3]],.rows true 4 h3]:AH))
abbrev qjC(most v5 v6 c0_0 c0_1:Int)(c0_2:Bz)(c0_3:Rz):Option (AV):=qzd (((fx 43 [(1,.int .i64 most),(2,.ptr 0 0 0),(5,.int .i64 v5),(6,.int .i64 v6)]):List AV),([.rows false 4 [[.int .i64 c0_0,.int .i64 c0_1,.str c0_2,.sl c0_3]]]:AH))
theorem qmQ(kt nt:Int)(st:Bz)(lt:Rz){P:AV->Prop}(h:Gets (kOpt (EVk (EV cfg) 94 [.agg [.int .i64 kt,.int .i64 nt,.str st,.sl lt],.ptr 0 0 0] 1 [[AV.fn (Fn.func 94) [] [.ptr 0 0 0]]]) λq=>kTmV q λn n_1 s rows=>(some (.agg [.int .i64 n,.int .i64 n_1,.str s,.sl rows]))) P):Gets (EVf (EV cfg) 45 [.agg [.int .i64 kt,.int .i64 nt,.str st,.sl lt]]) P:=
  gE (λ_=>funF rfl rfl Tryz.func45 rfl) (by kernel_rfl) h
theorem qs7(kt nt:Int)(st:Bz)(lt:Rz){P:AV×List (List AV)->Prop}(h:Gets (bif(lt.length:Int)==0 then bif AV.refsLt 0 (.agg [.int .i64 kt,.int .i64 nt,.str st,.sl []])then some (.agg [.int .i64 kt,.int .i64 nt,.str st,.sl []],[[AV.fn (Fn.func 94) [] [.ptr 0 0 0]]])else none else bif qe 0 (lt.length:Int)&&qe (lt.length:Int) (lt.length:Int)&&qe ((↑ (qAt lt):Int)*56) 140737488355328&&qe (lt.length:Int) 9223372036854775807 then qjB lt 0 kt nt st lt 0 0 [] [] (qAU (qAR (lt.length:Int)) [.int .i64 0,.int .i64 0,.str [],.nilS])else none) P):Gets (EVx (EV cfg) 94 [.agg [.int .i64 kt,.int .i64 nt,.str st,.sl lt],.ptr 0 0 0] 1 [[(AV.fn (Fn.func 94) [] [AV.ptr 0 0 0])]]) P:=
  gE (λ_=>funX rfl rfl Tryz.func94 rfl) (by kernel_rfl) h
theorem qsq(kt nt:Int)(st:Bz)(lt:Rz)(most:Int){P:AV->Prop}(h:Gets (kOpt (EVs (EV cfg) 40 [.agg [.int .i64 kt,.int .i64 nt,.str st,.sl lt],.int .i64 (qAH .i64 (most+1))]) λv=>kInt .i64 v λn=>some (.bool (decide (n>most)))) P):Gets (EVs (EV cfg) 9 [.agg [.int .i64 kt,.int .i64 nt,.str st,.sl lt],.int .i64 most]) P:=
  gE (λ_=>funS rfl rfl Tryz.func9 rfl) (by kernel_rfl) h
theorem qix(kt nt:Int)(st:Bz)(lt:Rz)(most:Int){P:AV->Prop}(h:Gets (bif decide ((st.length:Int)>100)then some (.int .i64 most)else bif decide ((lt.length:Int)>most)then some (.int .i64 most)else qjC most 1 0 kt nt st lt) P):Gets (EVs (EV cfg) 40 [.agg [.int .i64 kt,.int .i64 nt,.str st,.sl lt],.int .i64 most]) P:=
  gE (λ_=>funS rfl rfl Tryz.func40 rfl) (by kernel_rfl) h
theorem qh5(lt:Rz)(v20 c1_0 c1_1:Int)(c1_2:Bz)(c1_3:Rz)(c2_0 c2_1:Int)(c2_2:Bz)(c2_3 h3:Rz){P:AV×List (List AV)->Prop}(h:Gets (bif decide (v20<(lt.length:Int))then bif qe 0 v20&&qi v20 (lt.length:Int)then kOpt (qAu lt (v20.toNat)) λrow=>bif qAz (qAt row) 4 then bif qAF 4 (qAt row)then kTmC (qAB 4 row) λn n_1 s rows=>(kOpt (EVk (EV cfg) 94 [.agg [.int .i64 n,.int .i64 n_1,.str s,.sl rows],.ptr 0 0 0] 1 [[AV.fn (Fn.func 94) [] [.ptr 0 0 0]]]) λq=>kTmV q λn n_2 s rows=>(bif qe 0 v20&&qi v20 (↑ (qAR (lt.length:Int)):Int)then kOpt (qAu h3 (0+v20.toNat)) λrow=>bif qAF 4 (qAt row)then qjB lt (qAH .i64 (v20+1)) c1_0 c1_1 c1_2 c1_3 c2_0 c2_1 c2_2 c2_3 (List.set h3 (0+v20.toNat) (.int .i64 n:: .int .i64 n_2:: .str s:: .sl rows::qAO 4 row))else none else none))else none else none else none else bif qAF (0+qAR (lt.length:Int)) (qAt h3)&&true then some (.agg [.int .i64 c1_0,.int .i64 c1_1,.str c1_2,.sl (qAB (qAR (lt.length:Int)) h3)],[[AV.fn (Fn.func 94) [] [.ptr 0 0 0]]])else none) P):Gets (qjB lt v20 c1_0 c1_1 c1_2 c1_3 c2_0 c2_1 c2_2 c2_3 h3) P:=
  gE (λ_=>qt (cfg:=cfg) (f:=94) (rd:=none) (bs:=1)) (by kernel_rfl) h
theorem qh6(most v5 v6 c0_0 c0_1:Int)(c0_2:Bz)(c0_3:Rz){P:AV->Prop}(h:Gets (bif decide (v6<(c0_3.length:Int))then bif decide (v5<most)then bif qe 0 v6&&qi v6 (c0_3.length:Int)then kOpt (qAu c0_3 (qAR v6)) λrow=>bif qAz (qAt row) 4 then bif qAF 4 (qAt row)then kTmC (qAB 4 row) λn n_1 s rows=>(kOpt (EVs (EV cfg) 40 [.agg [.int .i64 n,.int .i64 n_1,.str s,.sl rows],.int .i64 (qAH .i64 (most - v5))]) λv=>kInt .i64 v λn=>qjC most (qAH .i64 (v5+n)) (qAH .i64 (v6+1)) c0_0 c0_1 c0_2 c0_3)else none else none else none else some (.int .i64 v5)else some (.int .i64 v5)) P):Gets (qjC most v5 v6 c0_0 c0_1 c0_2 c0_3) P:=
  gE (λ_=>qt (cfg:=cfg) (f:=40) (rd:=none) (bs:=0)) (by kernel_rfl) h
def yD:List (List AV):=[[AV.fn (Fn.func 94) [] [AV.ptr 0 0 0]]]
theorem quQ(t:Tm):t.Ok->EVx (EV cfg) 94 [t.av,.ptr 0 0 0] 1 yD=some (t.av,yD):=by
 induction t using Tm.ind with
 |_ k n s l ih=>
  intro hok;have hlen:=hok.len;have loop:∀(d i:Nat),i+d=l.length->Gets (qjB (qa l) i k n s (qa l) 0 0 [] [] (qa (l.take i)++qAU d [.int .i64 0,.int .i64 0,.str [],.nilS])) (·=((Tm.mk k n s l).av,yD)):=by
   intro d
   induction d with
   |zero=>
    intro i hi;refine qh5 _ _ _ _ _ _ _ _ _ _ _ ?_;obtain rfl:i=l.length:=by omega
    have e:l.take l.length=l:=qAE (qAA _);rw[e];simp;rfl
   |succ d ihd=>
    intro i hi;refine qh5 _ _ _ _ _ _ _ _ _ _ _ ?_;have hil:i<l.length:=by omega
    have hx:l[i]? =some l[i]:=qAv hil;have hxl:=qAJ hx;have hix:=qlo (ih l[i] hxl (hok.sub hxl));have hih:=ihd (i+1) (by omega);have hw:=qtC hil hlen;have e1:l.take (i+1)=l.take i++[l[i]]:=by rw[List.take_add_one,hx];rfl
    have ht:(qa (l.take i)).length=i:=by rw[qc,qA6];omega
    have g:(qa (l.take i)++qAU (d+1) [AV.int .i64 0,.int .i64 0,.str [],.nilS])[i]? =some [AV.int .i64 0,.int .i64 0,.str [],.nilS]:=by
     rw[qAP (by omega),ht,Nat.sub_self];rfl
    have g2:(qa (l.take i)++qAU (d+1) [AV.int .i64 0,.int .i64 0,.str [],.nilS]).set i l[i].cells=qa (l.take (i+1))++qAU d [AV.int .i64 0,.int .i64 0,.str [],.nilS]:=by
     rw[List.set_append_right _ _ (by omega),e1,vH,qK,vj];have e3:i - (qa (l.take i)).length=0:=by omega
     rw[e3,List.replicate_succ,List.set_cons_zero,qA8];rfl
    simp only[yD]at hix;simp[hil,hix,g,hw];rw[g2]
    simpa using hih
  apply Gets.get;rw[Tm.av_mk];refine qs7 _ _ _ _ ?_;rw[qc]
  by_cases hl:l.length=0
  ·have:l=[]:=List.length_eq_zero_iff.1 hl;subst this;simp[yD,AV.refsLt,qz]
  ·have hl':((l.length:Int)==0)=false:=by rw[beqD];exact qBi (by omega)
   have h56:qe ((l.length:Int)*56) 140737488355328=true:=by simp[qe];omega
   have hm:qe (l.length:Int) 9223372036854775807=true:=by simp[qe];omega
   have hz:qe 0 (l.length:Int)=true:=qI _;have hs:qe (l.length:Int) (l.length:Int)=true:=by simp[qe]
   rw[hl',h56,hm,hz,hs];have:=loop l.length 0 (by omega);rw[Tm.av_mk]at this
   simpa using this
theorem qru{t:Tm}(h:t.Ok):EVf (EV cfg) 45 [t.av]=some t.av:=by
 have h1:=qlo (quQ t h);obtain⟨k,n,s,l⟩:=t;rw[Tm.av_mk]at h1⊢;apply Gets.get;refine qmQ _ _ _ _ ?_;simp only[yD]at h1;rw[h1];simp[←Tm.av_mk]
theorem qyD(op:List UInt8):EVf (EV cfg) 174 [.str op]=some (.sl (ql (opsG op))):=by
 apply Gets.get;refine qm6 _ ?_;have h:=qgz (λl=>some (AV.sl (ql l))) op [] qbu;have:Gets (qag op (some (AV.sl (ql []))) (qbu.map λp=>(p.1,some (AV.sl (ql p.2))))) (·= .sl (ql (opsG op))):=by
  rw[h];exact⟨_,rfl,rfl⟩
 exact this
theorem qv8(l:List Int)(hl:l.length<1099511627776)(n:Int):∀d i:Nat,i+d=l.length->Gets (qjD (ql l) n i) (λv=>∃j:Int,v= .int .i64 j∧(0<=j↔n∈l.drop i)):=by
 intro d
 induction d with
 |zero=>
  intro i hi;refine qh7 _ _ _ ?_;rw[qP,qBi (by omega)];refine⟨_,rfl,-1,rfl,?_⟩;rw[qAV (by omega)];simp
 |succ d ih=>
  intro i hi;have hil:i<l.length:=by omega
  refine qh7 _ _ _ ?_;have hx:l[i]? =some l[i]:=qAv hil;have hd:l.drop i=l[i]::l.drop (i+1):=qAT hil;have h:=ih (i+1) (by omega);rw[qP,qBh (show(i:Int)<(l.length:Int) by omega),qI,q8,qBh hil,qB,qAS,zc,hx,qL hil hl]
  by_cases he:n=l[i]
  ·refine⟨.int .i64 i,?_,i,rfl,?_⟩
   ·simp[he]
   ·rw[hd,he];exact⟨λ_=>List.mem_cons_self,λ_=>by omega⟩
  ·have hne:(n==l[i])=false:=by rw[beqI];exact qBi he
   simp[hne];refine Gets.mono (by simpa using h) ?_;rintro _ ⟨j,rfl,hj⟩;exact⟨j,rfl,by rw[hj,hd,qAZ];exact⟨Or.inr,λh=>h.resolve_left he⟩⟩
theorem qiF(l:List Int)(hl:l.length<1099511627776)(n:Int):EVs (EV cfg) 172 [.sl (ql l),.int .i64 n]=some (.bool (decide (n∈l))):=by
 obtain⟨_,h1,j,rfl,hj⟩:=qv8 l hl n l.length 0 (by omega);have h2:EVs (EV cfg) 211 [.sl (ql l),.int .i64 n]=some (.int .i64 j):=by
  apply Gets.get;exact qsK _ _ ⟨_,h1,rfl⟩
 apply Gets.get;refine qm9 _ _ ?_;rw[h2];rw[qA4]at hj;refine⟨_,rfl,?_⟩;show AV.bool (decide (j≥0))=_
 congr 1
 exact decide_eq_decide.2 hj
theorem qou(op:List UInt8):(opsG op).length<1099511627776:=by
 have:∀(l:List (List UInt8×List Int)),(∀p∈l,p.2.length<=2)->(qag op [] l).length<=2:=by
  intro l
  induction l with
  |nil=>intro _;simp[qag]
  |cons p l ih=>
   intro h;rw[qag];cases op==p.1
   ·exact ih λq hq=>h q (by simp[hq])
   ·exact h p (by simp)
 have:=this qbu (by decide);unfold opsG;omega
theorem qyX{V:List Int}{l:List Tm}(hlen:l.length<1099511627776)(ih:∀x∈l,EVs (EV cfg) 112 [x.av,.sl (ql V)]=some (.bool (isG V x))):
  EVs (EV cfg) 173 [.sl (qa l),.sl (ql V)]=some (.bool (allG V l)):=by
 have hin:∀x∈l,EVs (EV cfg) 213 [x.av,.cptr [.sl (ql V)] 0]=some (.bool (!isG V x)):=by
  intro x hx;have h:=ih x hx;apply Gets.get;rw[Tm.av,Tm.cells_eq]at h⊢;refine qu7 _ _ _ _ _ ?_;rw[h];exact⟨_,rfl,rfl⟩
 have loop:∀d i:Nat,i+d=l.length->Gets (qjv (qa l) (ql V) i) (λv=>∃j:Int,v= .int .i64 j∧(0<=j↔allG V (l.drop i)=false)):=by
  intro d
  induction d with
  |zero=>
   intro i hi;refine qh0 _ _ _ ?_;rw[qc,qBi (by omega)];refine⟨_,rfl,-1,rfl,?_⟩;rw[qAV (by omega)];simp[allG]
  |succ d ihd=>
   intro i hi;have hil:i<l.length:=by omega
   refine qh0 _ _ _ ?_;have hx:l[i]? =some l[i]:=qAv hil;have hd:l.drop i=l[i]::l.drop (i+1):=qAT hil;have h1:=hin l[i] (qAJ hx);have h2:=ihd (i+1) (by omega);rw[qc,qBh (show(i:Int)<(l.length:Int) by omega),qI,q8,qBh hil,ye hx,qL hil hlen];simp only[cond_true,qAM,qv,qA1,qG,qF,show qAF 4 4=true from rfl,q9,h1,qb,qk]
   cases hg:isG V l[i]with
   |false=>
    refine⟨_,rfl,i,rfl,?_⟩;rw[hd,allG,hg];exact⟨λ_=>rfl,λ_=>by omega⟩
   |true=>
    refine h2.mono ?_;rintro _ ⟨j,rfl,hj⟩;refine⟨j,rfl,?_⟩;rw[hd,allG,hg,qA9];exact hj
 obtain⟨_,h1,j,rfl,hj⟩:=loop l.length 0 (by omega);rw[qA4]at hj;have h2:EVs (EV cfg) 236 [.sl (qa l),.fn (.func 213) [] [.cptr [.sl (ql V)] 0]]=some (.int .i64 j):=by
  apply Gets.get;exact qqB _ _ ⟨_,h1,rfl⟩
 have h3:EVs (EV cfg) 212 [.sl (qa l),.fn (.func 213) [] [.cptr [.sl (ql V)] 0]]=some (.bool (decide (j≥0))):=by
  apply Gets.get;refine qpj _ _ ?_;rw[h2];exact⟨_,rfl,rfl⟩
 apply Gets.get;refine qoZ _ _ ?_;rw[h3];refine⟨_,rfl,?_⟩;show AV.bool (!decide (j≥0))=_
 congr 1
 cases ha:allG V l with
 |false=>rw[qBh (hj.2 ha)];rfl
 |true=>
  have:¬j≥0:=λh=>by have:=hj.1 h;rw[ha]at this;cases this
  rw[qBi this];rfl
theorem qAm{V:List Int}(hV:V.length<1099511627776):∀(n:Nat) (t:Tm),t.w<=n->n<1099511627776->EVs (EV cfg) 112 [t.av,.sl (ql V)]=some (.bool (isG V t)):=by
 intro n
 induction n with
 |zero=>intro t h;have:=yJ t;omega
 |succ n ih=>
  intro t hw hn;have hwe:=t.w_eq;have hwl:=xw t.subs;have allOf:∀l:List Tm,wL l<=n->EVs (EV cfg) 173 [.sl (qa l),.sl (ql V)]=some (.bool (allG V l)):=λl hl=>
   qyX (by have:=xw l;omega) λx hx=>ih x (by have:=vV hx;omega) (by omega)
  have hvar:=qdJ (t:=t) (by omega);have hsub:=allOf t.subs (by omega);apply Gets.get;rw[Tm.av,Tm.cells_eq]at hvar⊢;refine qqD _ _ _ _ _ ?_;rw[hvar,hsub];simp only[beqI,qb,qk]
  by_cases h2:t.kind=2
  ·rw[qBh h2,cond_true,qi5 h2];simp only[varR,kTup,qf,qm,qk,kNil];cases hv:varT t with
   |none=>exact⟨_,rfl,rfl⟩
   |some x=>
    have hc:=qiF V hV x;simp only[Option.getD_some,Option.isSome_some,Bool.not_true,cond_false];rw[hc];exact⟨_,rfl,rfl⟩
  ·rw[qBi h2,cond_false]
   by_cases h9:t.kind=9
   ·rw[qBh h9,cond_true,qfn h9];exact⟨_,rfl,rfl⟩
   ·rw[qBi h9,cond_false]
    by_cases h7:t.kind=7
    ·rw[qBh h7,cond_true];cases hl:t.subs with
     |nil=>rw[qeB h7 hl];exact⟨_,rfl,rfl⟩
     |cons f r=>
      rw[qeA h7 hl];rw[hl]at hwl hwe;rw[qA]at hwe;have hfw:=f.w_eq;have hfs:=allOf f.subs (by omega);have hr:=allOf r (by omega);have c0:(decide (((qa (f::r)).length:Int)=0))=false:=by rw[qc];exact qBi (by simp;omega)
      have c1:qi 0 ((qa (f::r)).length:Int)=true:=by rw[qc];exact qBh (by simp)
      have c2:qe 1 ((qa (f::r)).length:Int)=true:=by rw[qc];exact qBh (by simp;omega)
      have g0:(qa (f::r))[(0:Int).toNat]? =some f.cells:=by rw[qK];rfl
      have tk:qAB ((qa (f::r)).length - 1) (qAO 1 (qa (f::r)))=qa r:=by
       rw[qK,List.drop_succ_cons,qA4,qA0,Nat.add_sub_cancel,List.take_length]
      have g0':(qa (f::r))[0]? =some f.cells:=g0;rw[c0,c1,c2,tk];simp only[cond_false,cond_true,qB,g0',qb,qv,qA1,show qAF 4 4=true from rfl,qG,qF,qan,qc,beqS]
      by_cases f7:f.kind=7
      ·rw[qBj f7,qBh f7,cond_true,hfs]
       by_cases hrl:r.length=0
       ·have:decide ((r.length:Int)=0)=true:=qBh (by omega);rw[this,qBh hrl];exact⟨_,rfl,rfl⟩
       ·have:decide ((r.length:Int)=0)=false:=qBi (by omega);rw[this,qBi hrl];exact⟨_,rfl,rfl⟩
      ·rw[qBk f7,qBi f7,cond_false]
       by_cases f2:f.kind=2
       ·have:(f.kind != 2)=false:=by rw[f2];rfl
        rw[qBj f2,this,cond_false]
        by_cases hc:f.str=[99,111,110,115,116]
        ·rw[qBj hc,qBh hc];refine⟨_,rfl,?_⟩;show AV.bool (decide ((r.length:Int)=1))=_
         congr 1
         exact decide_eq_decide.2 (by omega)
        ·rw[qBk hc,qBi hc,cond_false,qyD];have hcn:=qiF (opsG f.str) (qou f.str) (r.length:Int);simp only[qb,xG,hcn,qk,hr];cases decide ((r.length:Int)∈opsG f.str)<;>exact⟨_,rfl,rfl⟩
       ·have:(f.kind != 2)=true:=by simpa using f2
        rw[qBk f2,this];exact⟨_,rfl,rfl⟩
    ·rw[qBi h7,qmv h2 h9 h7];exact⟨_,rfl,rfl⟩
theorem qcD{V:List Int}(hV:V.length<1099511627776){t:Tm}(h:t.w<1099511627776):EVs (EV cfg) 62 [t.av,.sl (ql V)]=some (.int .i64 (vP V t)):=by
 have hc:=qi9 h;have hi:=qAm hV t.w t (qAA _) h;apply Gets.get;rw[Tm.av,Tm.cells_eq]at hc hi⊢;refine qlQ _ _ _ _ _ ?_;rw[hc,hi];unfold vP;simp only[qb,qm,qk]
 by_cases h0:t.chk=0
 ·have:(t.chk != 0)=false:=by rw[h0];rfl
  rw[this,qBj h0];cases isG V t<;>exact⟨_,rfl,rfl⟩
 ·have:(t.chk != 0)=true:=by simpa using h0
  rw[this,qBk h0];exact⟨_,rfl,rfl⟩
end Go.Proofs.YtafdkafbgohigaaGreat
end
noncomputable section
namespace Go.Av
theorem qkK(x:Tm)(l:List Tm):qAu (qa (x::l)) 0=some x.cells:=by rw[qB,qK];rfl
theorem qkJ(x y:Tm)(l:List Tm):qAu (qa (x::y::l)) 1=some y.cells:=by rw[qB,qK,qK];rfl
theorem lt0T(x:Tm)(l:List Tm):qi 0 ((qa (x::l)).length:Int)=true:=by rw[qc];exact qBh (by simp)
theorem lt1T(x y:Tm)(l:List Tm):qi 1 ((qa (x::y::l)).length:Int)=true:=by rw[qc];exact qBh (by simp;omega)
theorem qa7:qAF 4 4=true:=rfl
theorem qov{t:Tm}(h:t.chk=0):t.Ok:=qbk t (by have:=zD h;omega)
end Go.Av
namespace Go.Proofs.YtafdkafbgohigaaGreat
open Go.Av
theorem ql8{p:Nat->Bool}{r:List AV}(h:qcy p r){n:Nat}(hn:n<100):EVs (EV cfg) 227 [.cptr r 0,.int .i64 n]=some (.bool (p n)):=by
 obtain⟨lo,hi,l,rfl,h1,h2,h3,h4⟩:=h;have key:∀{a k:Nat},a<18446744073709551616->k<64->((((a / 2 ^ k % 2:Nat):Int))==1)=a.testBit k:=by
  intro a k _ _;rw[Nat.testBit_eq_decide_div_mod_eq];rw[beqI];exact decide_eq_decide.2 (by omega)
 apply Gets.get;refine qrP _ _ ?_;unfold zc2
 by_cases hs:n<64
 ·have e:p n=lo.testBit n:=(h3 n hs).symm;have hd:=Nat.div_le_self lo (2 ^ n);rw[qBh (show(n:Int)<64 by omega),e];simp only[cond_true,qB,List.getElem?_cons_zero,qb,qm,qra h1 hs,qrv (show lo / 2 ^ n<18446744073709551616 by omega),key h1 hs];exact⟨_,rfl,rfl⟩
 ·obtain⟨k,rfl⟩:∃k,n=k+64:=⟨n - 64,by omega⟩;have hk:k<64:=by omega
  have e:p (k+64)=hi.testBit k:=(h4 k hk).symm;have hd:=Nat.div_le_self hi (2 ^ k);have w:qAH .i64 (((k+64:Nat):Int) - 64)=(k:Int):=by rw[vE (by omega) (by omega)];omega
  rw[qBi (show ¬((k+64:Nat):Int)<64 by omega),w,e];simp only[cond_false,qB,qA3,List.getElem?_cons_zero,qb,qm,qra h2 hk,qrv (show hi / 2 ^ k<18446744073709551616 by omega),key h2 hk];exact⟨_,rfl,rfl⟩
theorem qfs{n:Nat}(h:n<=1099511627776):qo n 8=true:=by
 unfold qo;rw[qAw,qA2,qA2];omega
def qzD:Den:=evC cfg (EV cfg) 188 none 7 (sub (qg Tryz.f188) [0,0,0])
def qz5:Ex×List AV×AH->Option AV:=kAft (Cfg.keepOut cfg 188 (qn (sub (qg Tryz.f188) [0,0,0]))) (x9 0 (kSeq (fun(fr:List AV) (H:AH)=>zu (Cfg.cut cfg 188 (qn (sub (qg Tryz.f188) [1]))) fr H fun(fr:List AV) (H:AH)=>vM cfg (EV cfg) (kfN cfg (5)) 188 none 7 (sub (qg Tryz.f188) [1]) fr H (ym cfg (Cfg.lift cfg 188 0) (fun(v:AV) (H:AH)=>(fun(r:AV×AH)=>y9 0 6 (fx 18 [(4,AV.ptr 1 0 0),(5,AV.ptr 2 0 0)]) (x9 0 (kSeq (fun(fr:List AV) (H:AH)=>zu (Cfg.cut cfg 191 (qn (sub (qg Tryz.f191) [1,1,1,1]))) fr H fun(fr:List AV) (H:AH)=>vM cfg (EV cfg) (kfN cfg 6) 191 none 0 (sub (qg Tryz.f191) [1,1,1,1]) fr H (yn cfg (Cfg.lift cfg 191 0) (Array.toList (Func.results Tryz.f191)))) (yn cfg (Cfg.lift cfg 191 0) (Array.toList (Func.results Tryz.f191))))) (Prod.snd r)) (v,H)) (Array.toList (Func.results (Prod.snd (188,Tryz.f188)))))) (ym cfg (Cfg.lift cfg 188 0) (fun(v:AV) (H:AH)=>(fun(r:AV×AH)=>y9 0 6 (fx 18 [(4,AV.ptr 1 0 0),(5,AV.ptr 2 0 0)]) (x9 0 (kSeq (fun(fr:List AV) (H:AH)=>zu (Cfg.cut cfg 191 (qn (sub (qg Tryz.f191) [1,1,1,1]))) fr H fun(fr:List AV) (H:AH)=>vM cfg (EV cfg) (kfN cfg 6) 191 none 0 (sub (qg Tryz.f191) [1,1,1,1]) fr H (yn cfg (Cfg.lift cfg 191 0) (Array.toList (Func.results Tryz.f191)))) (yn cfg (Cfg.lift cfg 191 0) (Array.toList (Func.results Tryz.f191))))) (Prod.snd r)) (v,H)) (Array.toList (Func.results (Prod.snd (188,Tryz.f188)))))))
def qvg:List AV×AH->Option AV:=fun(p:List AV×AH)=>kOpt (LOOP 7 (some [0,1,2]) [] qzD p) qz5
def qzE:Den:=evC cfg (EV cfg) 103 none 0 (sub (qg Tryz.f103) [1,1,0,1,0,0])
def qz6:Ex×List AV×AH->Option AV:=kAft (Cfg.keepOut cfg 103 3) (kRun cfg (EV cfg) (kfN cfg 6) 103 none 0 (yn cfg (Cfg.lift cfg 103 0) Tryz.f103.results.toList) ([.block 0,.seq (sub (qg Tryz.f103) [1,1,1])]))
def qzf:List AV×AH->Option AV:=λp=>kOpt (LOOP 0 (some [3,6,7,8]) ([(3,4)]) qzE p) qz6
abbrev qnW(c0_0 c0_1:Int)(c0_2:Bz)(c0_3:Rz)(nc1_0:Nat)(c2_0:Bool)(c3_0 c3_1:Int)(c3_2:Bz)(c3_3 h5:Rz):Option (AV):=qvg (((fx 23 [(0,.yld 6),(1,.ptr 3 0 0),(2,.ptr 4 0 0)]):List AV),([.rows false 4 [[.int .i64 c0_0,.int .i64 c0_1,.str c0_2,.sl c0_3]],.rows false 1 [[.ms 5 0 nc1_0]],.rows false 1 [[.bool c2_0]],.rows false 4 [[.int .i64 c3_0,.int .i64 c3_1,.str c3_2,.sl c3_3]],.rows false 1 [[.ptr 2 0 0]],.rows true 4 h5,rngB Tryz.f191 191 [1,1,1,0,1,0] (fx 18 [(4,.ptr 1 0 0)]) none LoopState.ready]:AH))
abbrev qjF(L:Rz)(nv3:Nat)(v8:Int)(h0:Rz):Option (AV):=qzf (((fx 19 [(3,.ms 0 0 nv3),(6,.sl L),(7,.int .i64 (L.length:Int)),(8,.int .i64 v8)]):List AV),([.rows true 4 h0]:AH))
abbrev qlu(c0_0 c0_1:Int)(c0_2:Bz)(c0_3:Rz)(nc1_0:Nat)(c2_0:Bool)(c3_0 c3_1:Int)(c3_2:Bz)(c3_3 h7:Rz):Option (AV):=qvg (((fx 23 [(0,.yld 6),(1,.ptr 3 0 0),(2,.ptr 4 0 0)]):List AV),([.rows false 4 [[.int .i64 c0_0,.int .i64 c0_1,.str c0_2,.sl c0_3]],.rows false 1 [[.ms 7 0 nc1_0]],.rows false 1 [[.bool c2_0]],.rows false 4 [[.int .i64 c3_0,.int .i64 c3_1,.str c3_2,.sl c3_3]],.rows false 1 [[.ptr 2 0 0]],.dead,rngB Tryz.f191 191 [1,1,1,0,1,0] (fx 18 [(4,.ptr 1 0 0)]) none LoopState.ready,.rows true 4 h7]:AH))
theorem qsf(kt nt:Int)(st:Bz)(lt:Rz){P:AV->Prop}(h:Gets (bif kt==2 then bif st==[(95:UInt8)]then kOpt (EVs (EV cfg) 175 [.agg [.int .i64 kt,.int .i64 nt,.str st,.sl lt]]) λv=>qJ v λb=>some (.bool b)else some (.bool false)else some (.bool false)) P):Gets (EVs (EV cfg) 168 [.agg [.int .i64 kt,.int .i64 nt,.str st,.sl lt]]) P:=
  gE (λ_=>funS rfl rfl Tryz.func168 rfl) (by kernel_rfl) h
theorem qrO(kt nt:Int)(st:Bz)(lt:Rz){P:AV->Prop}(h:Gets (kOpt (EVs (EV cfg) 113 [.agg [.int .i64 kt,.int .i64 nt,.str st,.sl lt]]) λv=>kTup v λcs=>qf cs λc cs=>kInt .i64 c λn=>qf cs λc cs=>qJ c λb=>kNil cs (bif b then some (.bool true)else bif kt==7 then some (.bool true)else kOpt (EVs (EV cfg) 168 [.agg [.int .i64 kt,.int .i64 nt,.str st,.sl lt]]) λv=>qJ v λb=>some (.bool b))) P):Gets (EVs (EV cfg) 189 [.agg [.int .i64 kt,.int .i64 nt,.str st,.sl lt]]) P:=
  gE (λ_=>funS rfl rfl Tryz.func189 rfl) (by kernel_rfl) h
theorem qrN(kt nt:Int)(st:Bz)(lt:Rz){P:AV->Prop}(h:Gets (qnW kt nt st lt 0 false kt nt st lt []) P):Gets (EVf (EV cfg) 191 [.agg [.int .i64 kt,.int .i64 nt,.str st,.sl lt]]) P:=
  gE (λ_=>funF rfl rfl Tryz.func191 rfl) (by kernel_rfl) h
theorem qn6(L:Rz){P:AV->Prop}(h:Gets (qjF L 0 0 []) P):Gets (EVf (EV cfg) 103 [.sl L]) P:=
  gE (λ_=>funF rfl rfl Tryz.func103 rfl) (by kernel_rfl) h
abbrev zl6(nc1_0:Nat)(h5 c3_3:Rz)(c0_0 c0_1:Int)(c0_2:Bz)(c0_3:Rz)(c2_0:Bool)(n n_1:Int)(s:Bz)(rows:Rz):Option (AV):=(bif qAF (0+nc1_0) (qAt h5)&&qo (nc1_0+1) 56 then bif qe 0 (↑ nc1_0:Int)&&qi (↑ nc1_0:Int) (↑ (nc1_0+1):Int)then kOpt (qAu (qAG (qAB nc1_0 h5) [[AV.int .i64 0,.int .i64 (0:Int),.str [],.nilS]]) (0+qAR (↑ nc1_0:Int))) λrow=>bif qAF 4 (qAt row)then bif qi 1 (c3_3.length:Int)then kOpt (qAu c3_3 1) λrow_1=>bif qAz (qAt row_1) 4 then bif qAF 4 (qAt row_1)then kTmC (qAB 4 row_1) λn_2 n_3 s_1 rows_1=>(qlu c0_0 c0_1 c0_2 c0_3 (nc1_0+1) c2_0 n_2 n_3 s_1 rows_1 (List.set (qAG (qAB nc1_0 h5) [[AV.int .i64 0,.int .i64 0,.str [],.nilS]]) (0+qAR (↑ nc1_0:Int)) (.int .i64 n:: .int .i64 n_1:: .str s:: .sl rows::qAO 4 row)))else none else none else none else none else none else none)
abbrev zl5(row:List AV)(nc1_0:Nat)(h5 c3_3:Rz)(c0_0 c0_1:Int)(c0_2:Bz)(c0_3:Rz)(c2_0:Bool):Option (AV):=kTmC (qAB 4 row) λn n_1 s rows=>zl6 nc1_0 h5 c3_3 c0_0 c0_1 c0_2 c0_3 c2_0 n n_1 s rows
abbrev zl4(row:List AV)(nc1_0:Nat)(h5 c3_3:Rz)(c0_0 c0_1:Int)(c0_2:Bz)(c0_3:Rz)(c2_0:Bool):Option (AV):=bif qAF 4 (qAt row)then zl5 row nc1_0 h5 c3_3 c0_0 c0_1 c0_2 c0_3 c2_0 else none
abbrev zl3(row:List AV)(nc1_0:Nat)(h5 c3_3:Rz)(c0_0 c0_1:Int)(c0_2:Bz)(c0_3:Rz)(c2_0:Bool):Option (AV):=bif qAz (qAt row) 4 then zl4 row nc1_0 h5 c3_3 c0_0 c0_1 c0_2 c0_3 c2_0 else none
abbrev zl2(c3_3:Rz)(nc1_0:Nat)(h5:Rz)(c0_0 c0_1:Int)(c0_2:Bz)(c0_3:Rz)(c2_0:Bool):Option (AV):=kOpt (qAu c3_3 0) λrow=>zl3 row nc1_0 h5 c3_3 c0_0 c0_1 c0_2 c0_3 c2_0
abbrev zl1(c3_3:Rz)(nc1_0:Nat)(h5:Rz)(c0_0 c0_1:Int)(c0_2:Bz)(c0_3:Rz)(c2_0:Bool):Option (AV):=bif qi 0 (c3_3.length:Int)then zl2 c3_3 nc1_0 h5 c0_0 c0_1 c0_2 c0_3 c2_0 else none
abbrev zl0(c3_0:Int)(c3_3:Rz)(nc1_0:Nat)(h5:Rz)(c0_0 c0_1:Int)(c0_2:Bz)(c0_3:Rz)(c2_0:Bool):Option (AV):=bif c3_0==9 then zl1 c3_3 nc1_0 h5 c0_0 c0_1 c0_2 c0_3 c2_0 else bif qAF (0+nc1_0) (qAt h5)&&true then some (AV.tup [.sl (qAB nc1_0 h5),.bool (c3_0==8)])else none
theorem qpT(c0_0 c0_1:Int)(c0_2:Bz)(c0_3:Rz)(nc1_0:Nat)(c2_0:Bool)(c3_0 c3_1:Int)(c3_2:Bz)(c3_3 h5:Rz){P:AV->Prop}(h:Gets (zl0 c3_0 c3_3 nc1_0 h5 c0_0 c0_1 c0_2 c0_3 c2_0) P):Gets (qnW c0_0 c0_1 c0_2 c0_3 nc1_0 c2_0 c3_0 c3_1 c3_2 c3_3 h5) P:=
  gE (λ_=>qt (cfg:=cfg) (f:=188) (rd:=none) (bs:=7)) (by kernel_rfl) h
theorem qh9(L:Rz)(nv3:Nat)(v8:Int)(h0:Rz){P:AV->Prop}(h:Gets (bif decide (v8<(L.length:Int))then bif qe 0 v8&&qi v8 (L.length:Int)then kOpt (qAu L (v8.toNat)) λrow=>bif qAz (qAt row) 4 then bif qAF 4 (qAt row)then kTmC (qAB 4 row) λn n_1 s rows=>(kOpt (EVf (EV cfg) 45 [.agg [.int .i64 n,.int .i64 n_1,.str s,.sl rows]]) λv=>kTmV v λn n_2 s rows=>(bif qAF (0+nv3) (qAt h0)&&qo (nv3+1) 56 then qjF L (nv3+1) (qAH .i64 (v8+1)) (qAG (qAB nv3 h0) [[AV.int .i64 n,.int .i64 n_2,.str s,.sl rows]])else none))else none else none else none else bif qAF (0+nv3) (qAt h0)&&true then some (.sl (qAB nv3 h0))else none) P):Gets (qjF L nv3 v8 h0) P:=
  gE (λ_=>qt (cfg:=cfg) (f:=103) (rd:=none) (bs:=0)) (by kernel_rfl) h
theorem qnV(c0_0 c0_1:Int)(c0_2:Bz)(c0_3:Rz)(nc1_0:Nat)(c2_0:Bool)(c3_0 c3_1:Int)(c3_2:Bz)(c3_3 h7:Rz){P:AV->Prop}(h:Gets (zl0 c3_0 c3_3 nc1_0 h7 c0_0 c0_1 c0_2 c0_3 c2_0) P):Gets (qlu c0_0 c0_1 c0_2 c0_3 nc1_0 c2_0 c3_0 c3_1 c3_2 c3_3 h7) P:=
  gE (λ_=>qt (cfg:=cfg) (f:=188) (rd:=none) (bs:=7)) (by kernel_rfl) h
end Go.Proofs.YtafdkafbgohigaaGreat
end
noncomputable section
namespace Go.Av
def lsR(r:List Tm×Bool):AV:=.tup [.sl (qa r.1),.bool r.2]
end Go.Av
namespace Go.Proofs.YtafdkafbgohigaaGreat
open Go.Av
theorem qmk{t:Tm}(h:t.w<1099511627776):EVs (EV cfg) 168 [t.av]=some (.bool (anyT t)):=by
 have hm:=qgr h;apply Gets.get;rw[Tm.av,Tm.cells_eq]at hm⊢;refine qsf _ _ _ _ ?_;rw[hm];simp only[beqI,beqS,qb,qk];unfold anyT;cases decide (t.kind=2)<;>cases decide (t.str=[95])<;>exact⟨_,rfl,rfl⟩
theorem qtN{t:Tm}(h:t.w<1099511627776):EVs (EV cfg) 189 [t.av]=some (.bool (qbF t)):=by
 have hv:=qdJ h;have ha:=qmk h;apply Gets.get;rw[Tm.av,Tm.cells_eq]at hv ha⊢;refine qrO _ _ _ _ ?_;rw[hv,ha];unfold qbF varR;simp only[beqI,qb,qk,kTup,qf,qm,kNil];cases(varT t).isSome<;>cases decide (t.kind=7)<;>exact⟨_,rfl,rfl⟩
theorem qie{l:List Tm}(hlen:l.length<1099511627776)(hc:∀x∈l,x.Ok):EVf (EV cfg) 103 [.sl (qa l)]=some (.sl (qa l)):=by
 have loop:∀d i:Nat,i+d=l.length->Gets (qjF (qa l) i i (qa (l.take i))) (·= .sl (qa l)):=by
  intro d
  induction d with
  |zero=>
   intro i hi;refine qh9 _ _ _ _ ?_;obtain rfl:i=l.length:=by omega
   have hb:qAF (0+l.length) (qa l).length=true:=by rw[qA2,qc];omega
   have ht:qAB l.length (qa l)=qa l:=qAE (by simp);rw[List.take_length,hb,ht,qc,qBi (by omega)];exact⟨_,rfl,rfl⟩
  |succ d ihd=>
   intro i hi;have hil:i<l.length:=by omega
   refine qh9 _ _ _ _ ?_;have hx:l[i]? =some l[i]:=qAv hil;have h1:=qru (hc l[i] (qAJ hx));have h2:=ihd (i+1) (by omega);have e1:l.take (i+1)=l.take i++[l[i]]:=by rw[List.take_add_one,hx];rfl
   have ht:(qa (l.take i)).length=i:=by rw[qc,qA6];omega
   have e2:qAG (qAB i (qa (l.take i))) [l[i].cells]=qa (l.take (i+1)):=by
    rw[qAE (by omega),e1,vH,qK,vj];rfl
   have e3:qAF (0+i) (qa (l.take i)).length=true:=by rw[ht,qA2];omega
   rw[qc,qBh (show(i:Int)<(l.length:Int) by omega),qI,q8,qBh hil,ye hx,qL hil hlen,e3,zw (by omega)];simp only[cond_true,qAM,qv,qA1,qG,qF,qa7,q9,h1,qb,qaG];rw[←Tm.cells_eq,e2];exact h2
 apply Gets.get;refine qn6 _ ?_;exact(by simpa [vj]using loop l.length 0 (by omega))
theorem qn4{c:Tm}{b:Bool}:∀(n:Nat) (t:Tm) (acc:List Tm),t.w<=n->t.chk=0->acc.length+n<1099511627776->Gets (qlu c.kind c.num c.str (qa c.subs) acc.length b t.kind t.num t.str (qa t.subs) (qa acc)) (·=lsR (acc++(qy t).1,(qy t).2)):=by
 intro n
 induction n with
 |zero=>intro t acc h;have:=yJ t;omega
 |succ n ih=>
  intro t acc hw hc hn;refine qnV _ _ _ _ _ _ _ _ _ _ _ ?_;unfold zl0 zl1 zl2 zl3 zl4 zl5 zl6;rw[beqI,beqI]
  by_cases h9:t.kind=9
  ·obtain⟨x,y,hs⟩:=qbZ hc h9;have hwe:=t.w_eq;rw[hs]at hwe;simp only[qA,xu]at hwe;have h:=ih y (acc++[x]) (by omega) (vU hc (by rw[hs];simp)) (by simp;omega);have e1:qAF (0+acc.length) (qa acc).length=true:=by rw[qA2,qc];omega
   have e2:qAB acc.length (qa acc)=qa acc:=qAE (by simp);have e3:qi (acc.length:Int) ((acc.length+1:Nat):Int)=true:=qBh (by omega);have e4:(qAG (qa acc) [[AV.int .i64 0,.int .i64 0,.str [],.nilS]])[0+qAR (acc.length:Int)]? =some [AV.int .i64 0,.int .i64 0,.str [],.nilS]:=by
    rw[qAS,qA5];have:=qje (qa acc) [AV.int .i64 0,.int .i64 0,.str [],.nilS];rw[qc]at this;exact this
   have e5:List.set (qAG (qa acc) [[AV.int .i64 0,.int .i64 0,.str [],.nilS]]) (0+qAR (acc.length:Int)) x.cells=qa (acc++[x]):=by
    rw[qAS,qA5];have:=qjd (qa acc) [AV.int .i64 0,.int .i64 0,.str [],.nilS] x.cells;rw[qc]at this;rw[vH,qK,vj];exact this
   rw[qBh h9,cond_true,hs,lt0T,qkK,lt1T,qkJ,e1,e2,zw (by omega),qI,e3,qB,e4];simp only[cond_true,qAM,qb,qv,qA1,qG,qF,qA0,List.length_nil,show qAF 4 (0+1+1+1+1)=true from rfl,List.drop_succ_cons,qA4];rw[←Tm.cells_eq,e5,xH h9 hs];rw[qAI]at h;refine Gets.mono h ?_
   rintro _ rfl;simp[lsR]
  ·have e1:qAF (0+acc.length) (qa acc).length=true:=by rw[qA2,qc];omega
   have e2:qAB acc.length (qa acc)=qa acc:=qAE (by simp);rw[qBi h9,cond_false,e1,e2,yL h9];exact⟨_,rfl,by simp[lsR]⟩
theorem qpZ{c:Tm}{b:Bool}:∀(n:Nat) (t:Tm) (acc:List Tm),t.w<=n->t.chk=0->acc.length+n<1099511627776->Gets (qnW c.kind c.num c.str (qa c.subs) acc.length b t.kind t.num t.str (qa t.subs) (qa acc)) (·=lsR (acc++(qy t).1,(qy t).2)):=by
 intro n
 induction n with
 |zero=>intro t acc h;have:=yJ t;omega
 |succ n ih=>
  intro t acc hw hc hn;refine qpT _ _ _ _ _ _ _ _ _ _ _ ?_;unfold zl0 zl1 zl2 zl3 zl4 zl5 zl6;rw[beqI,beqI]
  by_cases h9:t.kind=9
  ·obtain⟨x,y,hs⟩:=qbZ hc h9;have hwe:=t.w_eq;rw[hs]at hwe;simp only[qA,xu]at hwe;have h:=qn4 (c:=c) (b:=b) n y (acc++[x]) (by omega) (vU hc (by rw[hs];simp)) (by simp;omega);have e1:qAF (0+acc.length) (qa acc).length=true:=by rw[qA2,qc];omega
   have e2:qAB acc.length (qa acc)=qa acc:=qAE (by simp);have e3:qi (acc.length:Int) ((acc.length+1:Nat):Int)=true:=qBh (by omega);have e4:(qAG (qa acc) [[AV.int .i64 0,.int .i64 0,.str [],.nilS]])[0+qAR (acc.length:Int)]? =some [AV.int .i64 0,.int .i64 0,.str [],.nilS]:=by
    rw[qAS,qA5];have:=qje (qa acc) [AV.int .i64 0,.int .i64 0,.str [],.nilS];rw[qc]at this;exact this
   have e5:List.set (qAG (qa acc) [[AV.int .i64 0,.int .i64 0,.str [],.nilS]]) (0+qAR (acc.length:Int)) x.cells=qa (acc++[x]):=by
    rw[qAS,qA5];have:=qjd (qa acc) [AV.int .i64 0,.int .i64 0,.str [],.nilS] x.cells;rw[qc]at this;rw[vH,qK,vj];exact this
   rw[qBh h9,cond_true,hs,lt0T,qkK,lt1T,qkJ,e1,e2,zw (by omega),qI,e3,qB,e4];simp only[cond_true,qAM,qb,qv,qA1,qG,qF,qA0,List.length_nil,show qAF 4 (0+1+1+1+1)=true from rfl,List.drop_succ_cons,qA4];rw[←Tm.cells_eq,e5,xH h9 hs];rw[qAI]at h;refine Gets.mono h ?_
   rintro _ rfl;simp[lsR]
  ·have e1:qAF (0+acc.length) (qa acc).length=true:=by rw[qA2,qc];omega
   have e2:qAB acc.length (qa acc)=qa acc:=qAE (by simp);rw[qBi h9,cond_false,e1,e2,yL h9];exact⟨_,rfl,by simp[lsR]⟩
theorem ql6{t:Tm}(hc:t.chk=0):EVf (EV cfg) 191 [t.av]=some (lsR (qy t)):=by
 apply Gets.get;rw[Tm.av,Tm.cells_eq];refine qrN _ _ _ _ ?_;have hw:=zD hc;have h:=qpZ (c:=t) (b:=false) t.w t [] (qAA _) hc (by simp;omega);rw[vj]at h;exact h
def qzw:Den:=evC cfg (EV cfg) 246 none 4 (sub (qg Tryz.f246) [0,1,1,0,0])
def qzY:Ex×List AV×AH->Option AV:=kAft (Cfg.keepOut cfg 246 (qn (sub (qg Tryz.f246) [0,1,1,0,0]))) (x9 0 (qkn (ym cfg (Cfg.lift cfg 246 0) (fun(v:AV) (H:AH)=>(fun(r:AV×AH)=>y9 0 3 (fx 40 [(3,AV.ptr 1 0 0)]) (x9 0 (kSeq (fun(fr:List AV) (H:AH)=>zu (Cfg.cut cfg 190 (qn (sub (qg Tryz.f190) [1,1,1,1]))) fr H fun(fr:List AV) (H:AH)=>vM cfg (EV cfg) (kfN cfg 6) 190 none 0 (sub (qg Tryz.f190) [1,1,1,1]) fr H (yn cfg (Cfg.lift cfg 190 0) (Array.toList (Func.results Tryz.f190)))) (yn cfg (Cfg.lift cfg 190 0) (Array.toList (Func.results Tryz.f190))))) (Prod.snd r)) (v,H)) (Array.toList (Func.results (Prod.snd (246,Tryz.f246)))))))
def qvc:List AV×AH->Option AV:=fun(p:List AV×AH)=>kOpt (LOOP 4 (some [0,3]) [(3,4)] qzw p) qzY
def qzv:Den:=evC cfg (EV cfg) 190 none 0 (sub (qg Tryz.f190) [1,1,1,1,1,0,1,0,0])
def qzX:Ex×List AV×AH->Option AV:=kAft (Cfg.keepOut cfg 190 11) (kRun cfg (EV cfg) (kfN cfg 6) 190 none 0 (yn cfg (Cfg.lift cfg 190 0) Tryz.f190.results.toList) ([.block 2,.seq (sub (qg Tryz.f190) [1,1,1,1,1,1])]))
def qvb:List AV×AH->Option AV:=λp=>kOpt (LOOP 0 (some [3,7,29]) ([(7,1)]) qzv p) qzX
abbrev qbo(nv3:Nat)(c0_0 c0_1:Int)(c0_2:Bz)(c0_3:Rz)(c1_0 c1_1 c2_0 c2_1:Int)(c2_2:Bz)(c2_3 h4:Rz):Option (AV):=qvc (((fx 37 [(0,.yld 3),(3,.ms 4 0 nv3)]):List AV),([.rows false 4 [[.int .i64 c0_0,.int .i64 c0_1,.str c0_2,.sl c0_3]],.rows false 2 [[.int .u64 c1_0,.int .u64 c1_1]],.rows false 4 [[.int .i64 c2_0,.int .i64 c2_1,.str c2_2,.sl c2_3]],rngB Tryz.f190 190 [1,1,1,0,1,0] (fx 40 [(3,.ptr 1 0 0)]) none LoopState.ready,.rows true 4 h4]:AH))
abbrev zX(nv3:Nat)(c0_0 c0_1:Int)(c0_2:Bz)(c0_3 h1:Rz)(c2_0 c2_1:Int)(c2_2:Bz)(c2_3 h4:Rz):Option (AV):=qvc (((fx 37 [(0,.yld 3),(3,.ms 4 0 nv3)]):List AV),([.rows false 4 [[.int .i64 c0_0,.int .i64 c0_1,.str c0_2,.sl c0_3]],.rows true 2 h1,.rows false 4 [[.int .i64 c2_0,.int .i64 c2_1,.str c2_2,.sl c2_3]],rngB Tryz.f190 190 [1,1,1,0,1,0] (fx 40 [(3,.ptr 1 0 0)]) none LoopState.ready,.rows true 4 h4]:AH))
abbrev qem(nv7:Nat)(v29 c0_0 c0_1:Int)(h1:Rz):Option (AV):=qvb (((fx 40 [(3,.ptr 0 0 0),(7,.ms 1 0 nv7),(29,.int .i64 v29)]):List AV),([.rows false 2 [[.int .u64 c0_0,.int .u64 c0_1]],.rows true 1 h1]:AH))
abbrev qcV(nv7:Nat)(v29:Int)(h0 h1:Rz):Option (AV):=qvb (((fx 40 [(3,.ptr 0 0 0),(7,.ms 1 0 nv7),(29,.int .i64 v29)]):List AV),([.rows true 2 h0,.rows true 1 h1]:AH))
theorem qif(n:Int)(r:List AV){P:MV×List (List AV)->Prop}(h:Gets (bif decide (n<64)then kOpt (qAu r 0) λv=>kInt .u64 v λn_1=>kOpt (xn (Op.shift BinOp.shl .u64 1 .i64 n)) λv=>kInt .u64 v λn=>kOpt (xn (Op.intBits BinOp.or .u64 n_1 n)) λv=>kInt .u64 v λn=>bif qAF 1 (qAt r)then some (MV.unit,[AV.int .u64 n::qAO 1 r])else none else kOpt (qAu r 1) λv=>kInt .u64 v λn_1=>kOpt (xn (Op.shift BinOp.shl .u64 1 .i64 (qAH .i64 (n - 64)))) λv=>kInt .u64 v λn=>kOpt (xn (Op.intBits BinOp.or .u64 n_1 n)) λv=>kInt .u64 v λn=>bif qAF 2 (qAt r)then some (MV.unit,[qAG (qAG (qAB 1 r) [AV.int .u64 n]) (qAO 2 r)])else none) P):Gets (EVm (EV cfg) 226 [.ptr 0 0 0,.int .i64 n] 2 [r]) P:=
  gE (λ_=>funM rfl rfl Tryz.func226 rfl) (by kernel_rfl) h
theorem qqe(kp np:Int)(sp:Bz)(lp:Rz){P:AV->Prop}(h:Gets (kOpt (EVs (EV cfg) 175 [.agg [.int .i64 kp,.int .i64 np,.str sp,.sl lp]]) λv=>qJ v λb=>bif ! b then some (.sl [])else qbo 1 kp np sp lp 0 (0:Int) kp np sp lp [[AV.int .i64 kp,.int .i64 np,.str sp,.sl lp]]) P):Gets (EVf (EV cfg) 190 [.agg [.int .i64 kp,.int .i64 np,.str sp,.sl lp]]) P:=
  gE (λ_=>funF rfl rfl Tryz.func190 rfl) (by kernel_rfl) h
theorem qdY(nv3:Nat)(c0_0 c0_1:Int)(c0_2:Bz)(c0_3:Rz)(c1_0 c1_1 c2_0 c2_1:Int)(c2_2:Bz)(c2_3 h4:Rz){P:AV->Prop}(h:Gets (bif decide ((↑ nv3:Int)>0)then bif qe 0 (qAH .i64 ((↑ nv3:Int) - 1))&&qi (qAH .i64 ((↑ nv3:Int) - 1)) (↑ nv3:Int)then kOpt (qAu h4 (0+qAR (qAH .i64 ((↑ nv3:Int) - 1)))) λrow=>bif qAF 4 (qAt row)then kTmC (qAB 4 row) λn n_1 s rows=>(bif qe 0 (qAH .i64 ((↑ nv3:Int) - 1))&&qe (qAH .i64 ((↑ nv3:Int) - 1)) (↑ nv3:Int)then bif n==7 then bif vq 4 rows then bif qAF (0+(qAR (qAH .i64 ((↑ nv3:Int) - 1)) - 0)) (qAt h4)&&qo (qAR (qAH .i64 ((↑ nv3:Int) - 1)) - 0+qAt rows) 56 then qbo (qAR (qAH .i64 ((↑ nv3:Int) - 1)) - 0+qAt rows) c0_0 c0_1 c0_2 c0_3 c1_0 c1_1 c2_0 c2_1 c2_2 c2_3 (qAG (qAB (qAR (qAH .i64 ((↑ nv3:Int) - 1)) - 0) h4) rows)else none else none else bif n==9 then bif vq 4 rows then bif qAF (0+(qAR (qAH .i64 ((↑ nv3:Int) - 1)) - 0)) (qAt h4)&&qo (qAR (qAH .i64 ((↑ nv3:Int) - 1)) - 0+qAt rows) 56 then qbo (qAR (qAH .i64 ((↑ nv3:Int) - 1)) - 0+qAt rows) c0_0 c0_1 c0_2 c0_3 c1_0 c1_1 c2_0 c2_1 c2_2 c2_3 (qAG (qAB (qAR (qAH .i64 ((↑ nv3:Int) - 1)) - 0) h4) rows)else none else none else kOpt (EVs (EV cfg) 176 [.str s]) λv=>kTup v λcs=>qf cs λc cs=>kInt .i64 c λn_2=>qf cs λc cs=>qJ c λb=>kNil cs (bif b then bif n==2 then kOpt (EVm (EV cfg) 226 [.ptr 0 0 0,.int .i64 n_2] 2 [[AV.int .u64 c1_0,.int .u64 c1_1]]) λq=>qcn q.1 (zX (qAR (qAH .i64 ((↑ nv3:Int) - 1)) - 0) c0_0 c0_1 c0_2 c0_3 q.2 c2_0 c2_1 c2_2 c2_3 h4)else qbo (qAR (qAH .i64 ((↑ nv3:Int) - 1)) - 0) c0_0 c0_1 c0_2 c0_3 c1_0 c1_1 c2_0 c2_1 c2_2 c2_3 h4 else qbo (qAR (qAH .i64 ((↑ nv3:Int) - 1)) - 0) c0_0 c0_1 c0_2 c0_3 c1_0 c1_1 c2_0 c2_1 c2_2 c2_3 h4)else none)else none else none else qem 0 0 c1_0 c1_1 []) P):Gets (qbo nv3 c0_0 c0_1 c0_2 c0_3 c1_0 c1_1 c2_0 c2_1 c2_2 c2_3 h4) P:=
  gE (λ_=>qt (cfg:=cfg) (f:=246) (rd:=none) (bs:=4)) (by kernel_rfl) h
theorem qc7(nv3:Nat)(c0_0 c0_1:Int)(c0_2:Bz)(c0_3 h1:Rz)(c2_0 c2_1:Int)(c2_2:Bz)(c2_3 h4:Rz){P:AV->Prop}(h:Gets (bif decide ((↑ nv3:Int)>0)then bif qe 0 (qAH .i64 ((↑ nv3:Int) - 1))&&qi (qAH .i64 ((↑ nv3:Int) - 1)) (↑ nv3:Int)then kOpt (qAu h4 (0+qAR (qAH .i64 ((↑ nv3:Int) - 1)))) λrow=>bif qAF 4 (qAt row)then kTmC (qAB 4 row) λn n_1 s rows=>(bif qe 0 (qAH .i64 ((↑ nv3:Int) - 1))&&qe (qAH .i64 ((↑ nv3:Int) - 1)) (↑ nv3:Int)then bif n==7 then bif vq 4 rows then bif qAF (0+(qAR (qAH .i64 ((↑ nv3:Int) - 1)) - 0)) (qAt h4)&&qo (qAR (qAH .i64 ((↑ nv3:Int) - 1)) - 0+qAt rows) 56 then zX (qAR (qAH .i64 ((↑ nv3:Int) - 1)) - 0+qAt rows) c0_0 c0_1 c0_2 c0_3 h1 c2_0 c2_1 c2_2 c2_3 (qAG (qAB (qAR (qAH .i64 ((↑ nv3:Int) - 1)) - 0) h4) rows)else none else none else bif n==9 then bif vq 4 rows then bif qAF (0+(qAR (qAH .i64 ((↑ nv3:Int) - 1)) - 0)) (qAt h4)&&qo (qAR (qAH .i64 ((↑ nv3:Int) - 1)) - 0+qAt rows) 56 then zX (qAR (qAH .i64 ((↑ nv3:Int) - 1)) - 0+qAt rows) c0_0 c0_1 c0_2 c0_3 h1 c2_0 c2_1 c2_2 c2_3 (qAG (qAB (qAR (qAH .i64 ((↑ nv3:Int) - 1)) - 0) h4) rows)else none else none else kOpt (EVs (EV cfg) 176 [.str s]) λv=>kTup v λcs=>qf cs λc cs=>kInt .i64 c λn_2=>qf cs λc cs=>qJ c λb=>kNil cs (bif b then bif n==2 then kOpt (EVm (EV cfg) 226 [.ptr 0 0 0,.int .i64 n_2] 2 h1) λq=>qcn q.1 (zX (qAR (qAH .i64 ((↑ nv3:Int) - 1)) - 0) c0_0 c0_1 c0_2 c0_3 q.2 c2_0 c2_1 c2_2 c2_3 h4)else zX (qAR (qAH .i64 ((↑ nv3:Int) - 1)) - 0) c0_0 c0_1 c0_2 c0_3 h1 c2_0 c2_1 c2_2 c2_3 h4 else zX (qAR (qAH .i64 ((↑ nv3:Int) - 1)) - 0) c0_0 c0_1 c0_2 c0_3 h1 c2_0 c2_1 c2_2 c2_3 h4)else none)else none else none else qcV 0 0 h1 []) P):Gets (zX nv3 c0_0 c0_1 c0_2 c0_3 h1 c2_0 c2_1 c2_2 c2_3 h4) P:=
  gE (λ_=>qt (cfg:=cfg) (f:=246) (rd:=none) (bs:=4)) (by kernel_rfl) h
theorem qh4(nv7:Nat)(v29 c0_0 c0_1:Int)(h1:Rz){P:AV->Prop}(h:Gets (bif decide (v29<100)then kOpt (EVs (EV cfg) 227 [AV.cptr [AV.int .u64 c0_0,.int .u64 c0_1] 0,.int .i64 v29]) λv=>qJ v λb=>bif b then bif qAF (0+nv7) (qAt h1)&&qo (nv7+1) 8 then qem (nv7+1) (qAH .i64 (v29+1)) c0_0 c0_1 (qAG (qAB nv7 h1) [[AV.int .i64 v29]])else none else qem nv7 (qAH .i64 (v29+1)) c0_0 c0_1 h1 else bif qAF (0+nv7) (qAt h1)&&true then some (.sl (qAB nv7 h1))else none) P):Gets (qem nv7 v29 c0_0 c0_1 h1) P:=
  gE (λ_=>qt (cfg:=cfg) (f:=190) (rd:=none) (bs:=0)) (by kernel_rfl) h
theorem qfY(nv7:Nat)(v29:Int)(h0 h1:Rz){P:AV->Prop}(h:Gets (bif decide (v29<100)then kOpt (qAu h0 0) λrow=>bif qz 0 row then bif qz 0 [AV.cptr row 0,.int .i64 v29]then kOpt (EVs (EV cfg) 227 [AV.cptr row 0,.int .i64 v29]) λv=>qJ v λb=>bif b then bif qAF (0+nv7) (qAt h1)&&qo (nv7+1) 8 then qcV (nv7+1) (qAH .i64 (v29+1)) h0 (qAG (qAB nv7 h1) [[AV.int .i64 v29]])else none else qcV nv7 (qAH .i64 (v29+1)) h0 h1 else none else none else bif qAF (0+nv7) (qAt h1)&&true then some (.sl (qAB nv7 h1))else none) P):Gets (qcV nv7 v29 h0 h1) P:=
  gE (λ_=>qt (cfg:=cfg) (f:=190) (rd:=none) (bs:=0)) (by kernel_rfl) h
end Go.Proofs.YtafdkafbgohigaaGreat
end
noncomputable section
namespace Go.Av
def y5(q:Nat->Bool):AV:=.sl (ql (((qA7 100).filter q).map Int.ofNat))
theorem qbx:∀l:List Tm,l.length<=wL l
 |[]=>qAA _
 |t::l=>by rw[qA,qA0];have:=yJ t;have:=qbx l;omega
theorem qrc:qcy (λ_=>false) [.int .u64 0,.int .u64 0]:=⟨0,0,[],rfl,by decide,by decide,λn _=>Nat.zero_testBit n,λn _=>Nat.zero_testBit n⟩
theorem qdG(x:Tm):vq 4 (qa x.subs)=true:=qan _
end Go.Av
namespace Go.Proofs.YtafdkafbgohigaaGreat
open Go.Av
theorem qjQ{p:Nat->Bool}{r:List AV}(h:qcy p r){n:Nat}(hn:n<100):∃r',EVm (EV cfg) 226 [.ptr 0 0 0,.int .i64 n] 2 [r]=some (.unit,[r']) ∧
  qcy (λi=>p i||decide (i=n)) r'∧r'.drop 2=r.drop 2∧r'.length=r.length∧(qz 0 r=true->qz 0 r'=true):=by
 obtain⟨lo,hi,l,rfl,h1,h2,h3,h4⟩:=h;have pw:∀{k:Nat},k<64->2 ^ k<18446744073709551616:=by
  intro k hk;have:2 ^ k<2 ^ 64:=Nat.pow_lt_pow_right (by omega) hk
  simpa using this
 have orlt:∀{a b:Nat},a<18446744073709551616->b<18446744073709551616->a ||| b<18446744073709551616:=by
  intro a b ha hb;have:=Nat.or_lt_two_pow (n:=64) (by simpa using ha) (by simpa using hb)
  simpa using this
 have bit:∀{a k i:Nat},(a ||| 2 ^ k).testBit i=(a.testBit i||decide (i=k)):=by
  intro a k i;rw[Nat.testBit_or,Nat.testBit_two_pow]
  congr 1
  exact decide_eq_decide.2 ⟨λh=>h.symm,λh=>h.symm⟩
 by_cases hs:n<64
 ·refine⟨.int .u64 ((lo ||| 2 ^ n:Nat):Int):: .int .u64 hi::l,?_,⟨_,hi,l,rfl,orlt h1 (pw hs),h2,λi hi=>?_,λi hi=>?_⟩,rfl,rfl,λh=>h⟩
  ·apply Gets.get;refine qif _ _ ?_;rw[qBh (show(n:Int)<64 by omega)];simp only[cond_true,qB,List.getElem?_cons_zero,qb,qm,qrb hs,qrg h1 (pw hs)];exact⟨_,rfl,rfl⟩
  ·rw[bit,h3 i hi]
  ·have:decide (i+64=n)=false:=qBi (by omega);rw[h4 i hi];show p (i+64)=(p (i+64)||decide (i+64=n));rw[this,Bool.or_false]
 ·obtain⟨k,rfl⟩:∃k,n=k+64:=⟨n - 64,by omega⟩;have hk:k<64:=by omega
  have w:qAH .i64 (((k+64:Nat):Int) - 64)=(k:Int):=by rw[vE (by omega) (by omega)];omega
  refine⟨.int .u64 lo:: .int .u64 ((hi ||| 2 ^ k:Nat):Int)::l,?_,⟨lo,_,l,rfl,h1,orlt h2 (pw hk),λi hi=>?_,λi hi=>?_⟩,rfl,rfl,λh=>h⟩
  ·apply Gets.get;refine qif _ _ ?_;rw[qBi (show ¬((k+64:Nat):Int)<64 by omega),w];simp only[cond_false,qB,qA3,List.getElem?_cons_zero,qb,qm,qrb hk,qrg h2 (pw hk)];exact⟨_,rfl,rfl⟩
  ·have:decide (i=k+64)=false:=qBi (by omega);rw[h3 i hi];show p i=(p i||decide (i=k+64));rw[this,Bool.or_false]
  ·rw[bit,h4 i hi]
   congr 1
   exact decide_eq_decide.2 (by omega)
theorem qn0{q:Nat->Bool}{s:List AV}(h:qcy q s)(h2:s.length=2):Gets (qcV 0 0 [s] []) (·=y5 q):=by
 have hf:qz 0 s=true:=by
  obtain⟨lo,hi,l,rfl,_⟩:=h;cases l with
  |nil=>rfl
  |cons a l=>simp at h2
 have hg:∀n:Int,qz 0 [AV.cptr s 0,.int .i64 n]=true:=by
  intro n;obtain⟨lo,hi,l,rfl,_⟩:=h;cases l with
  |nil=>rfl
  |cons a l=>simp at h2
 have loop:∀d i:Nat,i+d=100->Gets (qcV ((qA7 i).filter q).length i [s] (ql (((qA7 i).filter q).map Int.ofNat))) (·=y5 q):=by
  intro d
  induction d with
  |zero=>
   intro i hi;obtain rfl:i=100:=by omega
   refine qfY _ _ _ _ ?_;have e1:qAF (0+((qA7 100).filter q).length) (ql (((qA7 100).filter q).map Int.ofNat)).length=true:=by rw[qA2,qP,qBe];omega
   have e2:qAB ((qA7 100).filter q).length (ql (((qA7 100).filter q).map Int.ofNat))=ql (((qA7 100).filter q).map Int.ofNat):=qAE (by rw[qP,qBe];exact qAA _);rw[show decide (((100:Nat):Int)<100)=false from rfl,e1,e2];exact⟨_,rfl,rfl⟩
  |succ d ih=>
   intro i hi;have h1:=ih (i+1) (by omega);rw[List.range_succ,List.filter_append]at h1;refine qfY _ _ _ _ ?_;have hle:((qA7 i).filter q).length<=i:=by have:=List.length_filter_le q (qA7 i);rw[List.length_range]at this;exact this
   have e1:qAF (0+((qA7 i).filter q).length) (ql (((qA7 i).filter q).map Int.ofNat)).length=true:=by rw[qA2,qP,qBe];omega
   have e2:qAB ((qA7 i).filter q).length (ql (((qA7 i).filter q).map Int.ofNat))=ql (((qA7 i).filter q).map Int.ofNat):=qAE (by rw[qP,qBe];exact qAA _);have e3:qAH .i64 ((i:Int)+1)=((i+1:Nat):Int):=by rw[vE (by omega) (by omega)];omega
   rw[qBh (show(i:Int)<100 by omega),qB,List.getElem?_cons_zero,e1,e2,e3,qfs (by omega)];simp only[cond_true,qb,qk,hf,hg,qAM,ql8 h (show i<100 by omega)];cases hq:q i with
   |true=>
    rw[List.filter_cons_of_pos hq,List.filter_nil,List.map_append,qAI]at h1;rw[cond_true];have e4:ql (((qA7 i).filter q).map Int.ofNat++[i].map Int.ofNat)=qAG (ql (((qA7 i).filter q).map Int.ofNat)) [[AV.int .i64 i]]:=by
     unfold ql;rw[List.map_append];rfl
    rw[e4]at h1;exact h1
   |false=>
    rw[List.filter_cons_of_neg (by rw[hq];decide),List.filter_nil,List.append_nil]at h1;rw[cond_false];exact h1
 exact loop 100 0 rfl
theorem ql4:Gets (qem 0 0 0 0 []) (·=y5 λi=>([]:List Tm).any (xk (i:Nat))):=by
 have loop:∀d i:Nat,i+d=100->Gets (qem 0 i 0 0 []) (·=y5 λi=>([]:List Tm).any (xk (i:Nat))):=by
  intro d
  induction d with
  |zero=>
   intro i hi;obtain rfl:i=100:=by omega
   refine qh4 _ _ _ _ _ ?_;rw[show decide (((100:Nat):Int)<100)=false from rfl];exact⟨_,rfl,rfl⟩
  |succ d ih=>
   intro i hi;refine qh4 _ _ _ _ _ ?_;have e3:qAH .i64 ((i:Int)+1)=((i+1:Nat):Int):=by rw[vE (by omega) (by omega)];omega
   rw[qBh (show(i:Int)<100 by omega),ql8 qrc (show i<100 by omega),e3];simp only[cond_true,qb,qk,cond_false];exact ih (i+1) (by omega)
 exact loop 100 0 rfl
theorem qrH{p:Tm}:∀(n:Nat) (R:List Tm) (h4:List (List AV)) (s:List AV) (q:Nat->Bool),wL R<=n->n<1099511627776->R.length<=h4.length->h4.take R.length=qa R->qcy q s->s.length=2-> 
  Gets (zX R.length p.kind p.num p.str (qa p.subs) [s] p.kind p.num p.str (qa p.subs) h4) (·=y5 λi=>q i||R.any (xk (i:Nat))):=by
 intro n
 induction n with
 |zero=>
  intro R h4 s q hw hn hl ht hs hs2;have hR:R=[]:=by
   cases R with
   |nil=>rfl
   |cons x l=>rw[qA]at hw;have:=yJ x;omega
  subst hR;refine qc7 _ _ _ _ _ _ _ _ _ _ _ ?_;have:decide (((([]:List Tm).length:Nat):Int)>0)=false:=rfl;rw[this,cond_false];exact qn0 (by simpa using hs) hs2
 |succ n ih=>
  intro R h4 s q hw hn hl ht hs hs2;rcases List.eq_nil_or_concat R with rfl|⟨R',x,hR⟩
  ·refine qc7 _ _ _ _ _ _ _ _ _ _ _ ?_;have:decide (((([]:List Tm).length:Nat):Int)>0)=false:=rfl;rw[this,cond_false];exact qn0 (by simpa using hs) hs2
  ·obtain rfl:R=R'++[x]:=by rw[hR];simp
   clear hR;rw[zB,qA,xu]at hw;have hx:=yJ x;have hwe:=x.w_eq;have hRl:=qbx R';rw[qAI,List.length_singleton]at hl ht⊢;refine qc7 _ _ _ _ _ _ _ _ _ _ _ ?_;have g0:decide (((R'.length+1:Nat):Int)>0)=true:=qBh (by omega);have g1:qAH .i64 (((R'.length+1:Nat):Int) - 1)=(R'.length:Int):=by rw[vE (by omega) (by omega)];omega
   have g2:qi (R'.length:Int) ((R'.length+1:Nat):Int)=true:=qBh (by omega);have g3:qe (R'.length:Int) ((R'.length+1:Nat):Int)=true:=qBh (by omega);have g4:h4[R'.length]? =some x.cells:=by
    have:(h4.take (R'.length+1))[R'.length]? =some x.cells:=by
     rw[ht,yQ];simp
    rwa [List.getElem?_take,qBj (by omega)]at this
   have g5:h4.take R'.length=qa R':=by
    have:(h4.take (R'.length+1)).take R'.length=qa R':=by
     rw[ht,vH];exact List.take_left' (qc R')
    rwa [List.take_take,Nat.min_eq_left (by omega)]at this
   have g6:qAF (0+R'.length) h4.length=true:=by rw[qA2];omega
   rw[g0,g1,qI,g2,g3,qB,qAS,qA5,g4,Nat.sub_zero];simp only[cond_true,qAM,qb,qv,qG,qF,qa7,qc,g5,qdG];have push:(x.kind=7∨x.kind=9)->Gets (zX (R'.length+x.subs.length) p.kind p.num p.str (qa p.subs) [s] p.kind p.num p.str (qa p.subs) (qAG (qa R') (qa x.subs))) (·=y5 λi=>q i||(R'++[x]).any (xk (i:Nat))):=by
    intro hk;have hl:=qbx x.subs;have h:=ih (R'++x.subs) (qa (R'++x.subs)) s q (by rw[zB];omega) (by omega) (by rw[qc];exact qAA _) (qAE (by simp)) hs hs2;rw[qAI]at h;rw[show qAG (qa R') (qa x.subs)=qa (R'++x.subs)from(vH _ _).symm];refine Gets.mono h ?_;rintro _ rfl;apply congrArg y5
    funext i
    rw[List.any_append,List.any_append,List.any_cons,List.any_nil,Bool.or_false,zE _ x,qBj hk]
   have drop:(¬(x.kind=7∨x.kind=9))->¬(x.kind=2∧(varG x.str).isSome)->Gets (zX R'.length p.kind p.num p.str (qa p.subs) [s] p.kind p.num p.str (qa p.subs) h4) (·=y5 λi=>q i||(R'++[x]).any (xk (i:Nat))):=by
    intro hk hv;refine Gets.mono (ih R' h4 s q (by omega) (by omega) (by omega) g5 hs hs2) ?_;rintro _ rfl;apply congrArg y5
    funext i
    have:xk (i:Nat) x=false:=by
     rw[zE,qBk hk]
     by_cases h2:x.kind=2
     ·rw[qBh h2,qA9,qBi];intro h;exact hv ⟨h2,by rw[h];rfl⟩
     ·rw[qBi h2,Bool.false_and]
    rw[List.any_append,List.any_cons,List.any_nil,this,Bool.or_false,Bool.or_false]
   rw[beqI,beqI,beqI,qdh,g6]
   by_cases h7:x.kind=7
   ·rw[qBh h7];simp only[cond_true,qA9,zw (show R'.length+x.subs.length<=1099511627776 by have:=qbx x.subs;omega)];exact push (.inl h7)
   rw[qBi h7,cond_false]
   by_cases h9:x.kind=9
   ·rw[qBh h9];simp only[cond_true,qA9,zw (show R'.length+x.subs.length<=1099511627776 by have:=qbx x.subs;omega)];exact push (.inr h9)
   rw[qBi h9,cond_false];have hk:¬(x.kind=7∨x.kind=9):=by omega
   unfold varR;simp only[qb,kTup,qf,qm,qk,kNil];cases hv:varG x.str with
   |none=>
    rw[hv]at drop;exact drop hk (by simp)
   |some v=>
    by_cases h2:x.kind=2
    ·rw[qBh h2];obtain⟨hv0,hv9⟩:=qlw hv;obtain⟨m,rfl⟩:∃m:Nat,v=m:=⟨v.toNat,by omega⟩;obtain⟨r',hr1,hr2,hr3,hr4,hr5⟩:=qjQ hs (n:=m) (by omega);simp only[Option.getD_some,Option.isSome_some,cond_true,hr1,qb,qcn];refine Gets.mono (ih R' h4 r' _ (by omega) (by omega) (by omega) g5 hr2 (by rw[hr4];exact hs2)) ?_;rintro _ rfl;apply congrArg y5
     funext i
     have:xk (i:Nat) x=decide (i=m):=by
      rw[zE,qBk hk,qBh h2,qA9,hv];exact decide_eq_decide.2 ⟨λh=>by cases h;rfl,λh=>by rw[h]⟩
     rw[List.any_append,List.any_cons,List.any_nil,this,Bool.or_false];cases q i<;>cases decide (i=m)<;>cases R'.any (xk (i:Nat))<;>rfl
    ·rw[qBi h2];exact drop hk (λh=>h2 h.1)
theorem qtF{p:Tm}:∀(n:Nat) (R:List Tm) (h4:List (List AV)),wL R<=n->n<1099511627776->R.length<=h4.length->h4.take R.length=qa R-> 
  Gets (qbo R.length p.kind p.num p.str (qa p.subs) 0 0 p.kind p.num p.str (qa p.subs) h4) (·=y5 λi=>R.any (xk (i:Nat))):=by
 intro n
 induction n with
 |zero=>
  intro R h4 hw hn hl ht ;have hR:R=[]:=by
   cases R with
   |nil=>rfl
   |cons x l=>rw[qA]at hw;have:=yJ x;omega
  subst hR;refine qdY _ _ _ _ _ _ _ _ _ _ _ _ ?_;have:decide (((([]:List Tm).length:Nat):Int)>0)=false:=rfl;rw[this,cond_false];exact ql4
 |succ n ih=>
  intro R h4 hw hn hl ht ;rcases List.eq_nil_or_concat R with rfl|⟨R',x,hR⟩
  ·refine qdY _ _ _ _ _ _ _ _ _ _ _ _ ?_;have:decide (((([]:List Tm).length:Nat):Int)>0)=false:=rfl;rw[this,cond_false];exact ql4
  ·obtain rfl:R=R'++[x]:=by rw[hR];simp
   clear hR;rw[zB,qA,xu]at hw;have hx:=yJ x;have hwe:=x.w_eq;have hRl:=qbx R';rw[qAI,List.length_singleton]at hl ht⊢;refine qdY _ _ _ _ _ _ _ _ _ _ _ _ ?_;have g0:decide (((R'.length+1:Nat):Int)>0)=true:=qBh (by omega);have g1:qAH .i64 (((R'.length+1:Nat):Int) - 1)=(R'.length:Int):=by rw[vE (by omega) (by omega)];omega
   have g2:qi (R'.length:Int) ((R'.length+1:Nat):Int)=true:=qBh (by omega);have g3:qe (R'.length:Int) ((R'.length+1:Nat):Int)=true:=qBh (by omega);have g4:h4[R'.length]? =some x.cells:=by
    have:(h4.take (R'.length+1))[R'.length]? =some x.cells:=by
     rw[ht,yQ];simp
    rwa [List.getElem?_take,qBj (by omega)]at this
   have g5:h4.take R'.length=qa R':=by
    have:(h4.take (R'.length+1)).take R'.length=qa R':=by
     rw[ht,vH];exact List.take_left' (qc R')
    rwa [List.take_take,Nat.min_eq_left (by omega)]at this
   have g6:qAF (0+R'.length) h4.length=true:=by rw[qA2];omega
   rw[g0,g1,qI,g2,g3,qB,qAS,qA5,g4,Nat.sub_zero];simp only[cond_true,qAM,qb,qv,qG,qF,qa7,qc,g5,qdG];have push:(x.kind=7∨x.kind=9)->Gets (qbo (R'.length+x.subs.length) p.kind p.num p.str (qa p.subs) 0 0 p.kind p.num p.str (qa p.subs) (qAG (qa R') (qa x.subs))) (·=y5 λi=>(R'++[x]).any (xk (i:Nat))):=by
    intro hk;have hl:=qbx x.subs;have h:=ih (R'++x.subs) (qa (R'++x.subs)) (by rw[zB];omega) (by omega) (by rw[qc];exact qAA _) (qAE (by simp)) ;rw[qAI]at h;rw[show qAG (qa R') (qa x.subs)=qa (R'++x.subs)from(vH _ _).symm];refine Gets.mono h ?_;rintro _ rfl;apply congrArg y5
    funext i
    rw[List.any_append,List.any_append,List.any_cons,List.any_nil,Bool.or_false,zE _ x,qBj hk]
   have drop:(¬(x.kind=7∨x.kind=9))->¬(x.kind=2∧(varG x.str).isSome)->Gets (qbo R'.length p.kind p.num p.str (qa p.subs) 0 0 p.kind p.num p.str (qa p.subs) h4) (·=y5 λi=>(R'++[x]).any (xk (i:Nat))):=by
    intro hk hv;refine Gets.mono (ih R' h4 (by omega) (by omega) (by omega) g5 ) ?_;rintro _ rfl;apply congrArg y5
    funext i
    have:xk (i:Nat) x=false:=by
     rw[zE,qBk hk]
     by_cases h2:x.kind=2
     ·rw[qBh h2,qA9,qBi];intro h;exact hv ⟨h2,by rw[h];rfl⟩
     ·rw[qBi h2,Bool.false_and]
    rw[List.any_append,List.any_cons,List.any_nil,this,Bool.or_false,Bool.or_false]
   rw[beqI,beqI,beqI,qdh,g6]
   by_cases h7:x.kind=7
   ·rw[qBh h7];simp only[cond_true,qA9,zw (show R'.length+x.subs.length<=1099511627776 by have:=qbx x.subs;omega)];exact push (.inl h7)
   rw[qBi h7,cond_false]
   by_cases h9:x.kind=9
   ·rw[qBh h9];simp only[cond_true,qA9,zw (show R'.length+x.subs.length<=1099511627776 by have:=qbx x.subs;omega)];exact push (.inr h9)
   rw[qBi h9,cond_false];have hk:¬(x.kind=7∨x.kind=9):=by omega
   unfold varR;simp only[qb,kTup,qf,qm,qk,kNil];cases hv:varG x.str with
   |none=>
    rw[hv]at drop;exact drop hk (by simp)
   |some v=>
    by_cases h2:x.kind=2
    ·rw[qBh h2];obtain⟨hv0,hv9⟩:=qlw hv;obtain⟨m,rfl⟩:∃m:Nat,v=m:=⟨v.toNat,by omega⟩;obtain⟨r',hr1,hr2,hr3,hr4,hr5⟩:=qjQ qrc (n:=m) (by omega);simp only[Option.getD_some,Option.isSome_some,cond_true,hr1,qb,qcn];refine Gets.mono (qrH n R' h4 r' _ (by omega) (by omega) (by omega) g5 hr2 (by rw[hr4];rfl)) ?_;rintro _ rfl;apply congrArg y5
     funext i
     have:xk (i:Nat) x=decide (i=m):=by
      rw[zE,qBk hk,qBh h2,qA9,hv];exact decide_eq_decide.2 ⟨λh=>by cases h;rfl,λh=>by rw[h]⟩
     rw[List.any_append,List.any_cons,List.any_nil,this,Bool.or_false];cases decide (i=m)<;>cases R'.any (xk (i:Nat))<;>rfl
    ·rw[qBi h2];exact drop hk (λh=>h2 h.1)
theorem qsc{t:Tm}(h:t.w<1099511627776):EVf (EV cfg) 190 [t.av]=some (.sl (ql (yj t))):=by
 have hm:=qgr h;apply Gets.get;rw[Tm.av,Tm.cells_eq]at hm⊢;refine qqe _ _ _ _ ?_;rw[hm];simp only[qb,qk];unfold yj
 by_cases hc:t.chk=0
 ·rw[qBh hc,qBj hc];have hl:=qtF (p:=t) t.w [t] [t.cells] (by rw[qA,xu];exact qAA _) h (qAA _) rfl;rw[Tm.cells_eq]at hl;refine Gets.mono hl ?_;rintro _ rfl;unfold y5;have:(λi:Nat=>[t].any (xk (i:Nat)))=λi:Nat=>xk (i:Nat) t:=by funext i;simp
  rw[this]
 ·rw[qBi hc,qBk hc];exact⟨_,rfl,rfl⟩
end Go.Proofs.YtafdkafbgohigaaGreat
end
noncomputable section
namespace Go.Av
theorem xz{l:List Tm}{i:Nat}{t:Tm}(h:l[i]? =some t):qAu (qa l) (qAR (i:Int))=some t.cells:=by
 rw[qB,qAS,yQ,h];rfl
def MOut(o:Option (List (Int×Tm)))(b:Bool)(r:List AV):Prop:=match o with
 |some m=>b=true∧BRow m r∧∀q∈m,q.2.chk=0
 |none=>b=false
def QM(o:Option (List (Int×Tm)))(q:MV×List (List AV)):Prop:=∃b r,q=(MV.bool b,[r])∧MOut o b r
theorem QM.same{p t:Tm}{m:List (Int×Tm)}{r:List AV}(h:BRow m r)(hm:∀q∈m,q.2.chk=0):QM (if p=t then some m else none) (MV.bool (decide (p=t)),[r]):=by
 refine⟨_,r,rfl,?_⟩
 by_cases h1:p=t
 ·rw[qBj h1,qBh h1];exact⟨rfl,h,hm⟩
 ·rw[qBk h1,qBi h1];exact rfl
end Go.Av
namespace Go.Proofs.YtafdkafbgohigaaGreat
open Go.Av
abbrev mkH(r:List (List AV)):AH:=[.rows false 1 [[.ms 1 0 r.length]],.rows true 7 r]
theorem zv{n:Nat}(h:n<=1099511627776):qo n 80=true:=by unfold qo;simp only[nble,qAw,decide_eq_true_eq];omega
theorem qmE{ins:List InsA}(hi:ins.length<1099511627776)(o a b k n:Int)(s:List UInt8)(l:List Tm)(r:List (List AV))(hr:r=qa l):
  EVj (EV cfg) 105 1 [.ptr 0 0 0,.agg [.int .i64 o,.int .i64 a,.int .i64 b,.int .i64 k,.int .i64 n,.str s,.sl r]] (mkH (qd ins))=some (.int .i64 (ins.length:Int),mkH (qd (ins++[⟨o,a,b,.mk k n s l⟩]))):=by
 subst hr;apply Gets.get;refine quZ _ _ _ _ _ _ _ _ ?_;have e1:(qAF (0+(qd ins).length) (qd ins).length&&qo ((qd ins).length+1) 80)=true:=by
  rw[qu,zv (by omega),nble,qBh (by omega)];rfl
 have e2:qAG (qAB (qd ins).length (qd ins)) [[AV.int .i64 o,.int .i64 a,.int .i64 b,.int .i64 k,.int .i64 n,.str s,.sl (qa l)]]=qd (ins++[⟨o,a,b,.mk k n s l⟩]):=by
  rw[qAE (qAA _),yR];show qd ins++_=qd ins++[InsA.row _];rw[InsA.row,Tm.cells_mk]
 have e3:qAH .i64 ((((qd ins).length+1:Nat):Int) - 1)=(ins.length:Int):=by
  rw[qu,vE (by omega) (by omega)];omega
 rw[e1,cond_true,e2,e3];refine⟨_,rfl,?_⟩;show _=(_,mkH _);rw[mkH,show(qd ins).length+1=(qd (ins++[⟨o,a,b,.mk k n s l⟩])).length by simp]
theorem qeG{ins:List InsA}(hi:ins.length<1099511627776)(o a b:Int)(t:Tm):
  EVj (EV cfg) 105 1 [.ptr 0 0 0,.agg [.int .i64 o,.int .i64 a,.int .i64 b,.int .i64 t.kind,.int .i64 t.num,.str t.str,.sl (qa t.subs)]] (mkH (qd ins))=some (.int .i64 (ins.length:Int),mkH (qd (ins++[⟨o,a,b,t⟩]))):=by
 have:=qmE hi o a b t.kind t.num t.str t.subs _ rfl;rw[Tm.eta]at this;exact this
theorem xX{ins:List InsA}(hi:ins.length<1099511627776)(o a b:Int):
  EVj (EV cfg) 105 1 [.ptr 0 0 0,.agg [.int .i64 o,.int .i64 a,.int .i64 b,.int .i64 0,.int .i64 0,.str [],.sl []]] (mkH (qd ins))=some (.int .i64 (ins.length:Int),mkH (qd (ins++[⟨o,a,b,zT⟩]))):=
 qmE hi o a b 0 0 [] [] _ vj.symm
def zz(t:Tm):Prop:=∀ins:List InsA,ins.length+t.w<1099511627776->EVj (EV cfg) 63 1 [.ptr 0 0 0,t.av] (mkH (qd ins))=some (.tup [],mkH (qd (ins++qp t ins.length)))
theorem zz.c{t:Tm}(h:zz t){ins:List InsA}(hw:ins.length+t.w<1099511627776):EVj (EV cfg) 63 1 [.ptr 0 0 0,.agg [.int .i64 t.kind,.int .i64 t.num,.str t.str,.sl (qa t.subs)]] (mkH (qd ins))=some (.tup [],mkH (qd (ins++qp t ins.length))):=by
 rw[q9];exact h ins hw
theorem quV{l:List Tm}(hx:∀t∈l,zz t):∀(k i:Nat) (ins:List InsA),l.length - i=k->i<=l.length->ins.length+wL (l.drop i)<1099511627776->l.length<1099511627776 ->
  Gets (qf8 (qa l) (i:Int) (qd ins).length (qd ins)) (·=(.tup [],mkH (qd (ins++xQ (l.drop i) ins.length)))):=by
 intro k
 induction k with
 |zero=>
  intro i ins hk hi hw hlen;refine qep _ _ _ _ ?_;unfold za0 za1 za2 za3 za4 za5 za6;rw[qc,qBi (by omega),cond_false];refine⟨_,rfl,?_⟩;rw[qAV (by omega),qck,List.append_nil]
 |succ k ih=>
  intro i ins hk hi hw hlen;refine qep _ _ _ _ ?_;unfold za0 za1 za2 za3 za4 za5 za6;have hil:i<l.length:=by omega
  have g0:l[i]? =some l[i]:=qAv hil;have hd:l.drop i=l[i]::l.drop (i+1):=by rw[qAT hil]
  rw[hd,qA]at hw;have hc:=xi l[i] ins.length;have e1:(qe 0 (i:Int)&&qi (i:Int) ((qa l).length:Int))=true:=by simp;omega
  have hz:=(hx l[i] (List.getElem_mem hil)).c (ins:=ins) (by omega);rw[qBh (show(i:Int)<((qa l).length:Int) by simp;omega),e1];simp only[xz g0,qb,qO,qM,vp,vo,qU,qAM,cond_true,qN,qV,qW,qD,qR,vm,qv,qG,qF,show qAF 4 4=true from rfl,hz]
  rw[qL hil hlen];have:=ih (i+1) (ins++qp l[i] ins.length) (by omega) (by omega) (by simp;omega) hlen;rw[hd,qbw,←qA8];rw[qAI]at this;exact this
theorem qg3{l:List Tm}(hx:∀t∈l,zz t){ins:List InsA}(hw:ins.length+wL l<1099511627776):
  EVj (EV cfg) 114 1 [.ptr 0 0 0,.sl (qa l)] (mkH (qd ins))=some (.tup [],mkH (qd (ins++xQ l ins.length))):=by
 apply Gets.get;refine qtc _ _ ?_;refine qmP _ _ _ _ ?_;unfold za0 za1 za2 za3 za4 za5 za6;have hlen:l.length<1099511627776:=by have:=xw l;omega
 cases l with
 |nil=>
  simp only[vj,List.length_nil];refine⟨_,rfl,?_⟩;rw[qck,List.append_nil]
 |cons t l=>
  have g0:(t::l)[0]? =some t:=rfl;have e1:(qe 0 (0:Int)&&qi (0:Int) ((qa (t::l)).length:Int))=true:=by simp<;>omega
  have hz:=(hx t (by simp)).c (ins:=ins) (by rw[qA]at hw;omega);have g0':=xz g0;rw[qBh (show(0:Int)<((qa (t::l)).length:Int) by simp<;>omega),e1];rw[show((0:Nat):Int)=0 from rfl]at g0';simp only[g0',qb,qO,qM,vp,vo,qU,qAM,cond_true,qN,qV,qW,qD,qR,vm,qv,qG,qF,show qAF 4 4=true from rfl,hz]
  have hc:=xi t ins.length;have:=quV (l:=t::l) hx l.length 1 (ins++qp t ins.length) (by simp) (by simp) (by rw[qA]at hw;simp;omega) hlen;rw[qbw,←qA8];rw[qAI]at this;exact this
def qwC:Den:=evC cfg (EV cfg) 171 none 0 (sub (qg Tryz.f171) [1,0,1,0,0])
def qwN:Ex×List AV×AH->Option AV:=kAft (Cfg.keepOut cfg 171 2) (kRun cfg (EV cfg) (kfN cfg 6) 171 none 0 (yK cfg (Cfg.lift cfg 171 0) Tryz.f171.results.toList) ([.block 0,.seq (sub (qg Tryz.f171) [1,1])]))
def qwv:List AV×AH->Option AV:=λp=>kOpt (LOOP 0 (some [0,1,5]) ([]) qwC p) qwN
def qwD:Den:=evC cfg (EV cfg) 118 none 0 (sub (qg Tryz.f118) [1,1,0,1,0,0])
def qwO:Ex×List AV×AH->Option OV:=kAft (Cfg.keepOut cfg 118 3) (kRun cfg (EV cfg) (kfN cfg 6) 118 none 0 (qky cfg (Cfg.lift cfg 118 0) Tryz.f118.results.toList) ([.block 0,.seq (sub (qg Tryz.f118) [1,1,1])]))
def qww:List AV×AH->Option OV:=λp=>kOpt (LOOP 0 (some [0,1,5,6]) ([(5,7)]) qwD p) qwO
abbrev qeU(l:Rz)(n v5:Int):Option (AV):=qwv (((fx 18 [(0,.sl l),(1,.int .i64 n),(5,.int .i64 v5)]):List AV),([]:AH))
abbrev qc9(l:Rz)(p:Int)(nv5:Nat)(v6:Int)(h0:Rz):Option (OV):=qww (((fx 25 [(0,.sl l),(1,.int .i64 p),(5,.ms 0 0 nv5),(6,.int .i64 v6)]):List AV),([.rows true 7 h0]:AH))
theorem qwh(l:Rz)(n:Int){P:AV->Prop}(h:Gets (qeU l n 0) P):Gets (EVs (EV cfg) 171 [.sl l,.int .i64 n]) P:=
  gE (λ_=>funS rfl rfl Tryz.func171 rfl) (by kernel_rfl) h
theorem qs1(l:Rz)(p:Int){P:OV->Prop}(h:Gets (qc9 l p 0 0 []) P):Gets (EVo (EV cfg) 118 [.sl l,.int .i64 p]) P:=
  gE (λ_=>funO rfl rfl Tryz.func118 rfl) (by kernel_rfl) h
theorem qs2(o:Int)(l:Rz)(p:Int){P:OV->Prop}(h:Gets (bif qi 0 (l.length:Int)then kOpt (qAu l 0) λrow=>bif qAz (qAt row) 4 then bif qAF 4 (qAt row)then kTmC (qAB 4 row) λn n_1 s rows=>(kOpt (EVo (EV cfg) 65 [.agg [.int .i64 n,.int .i64 n_1,.str s,.sl rows],.int .i64 p]) λo_1=>kOwn o_1 (bif qo 1 80 then bif qi 1 (l.length:Int)then kOpt (qAu l 1) λrow=>bif qAz (qAt row) 4 then bif qAF 4 (qAt row)then kTmC (qAB 4 row) λn n_2 s rows=>(kOpt (EVo (EV cfg) 65 [.agg [.int .i64 n,.int .i64 n_2,.str s,.sl rows],.int .i64 (qAH .i64 (p+1))]) λo_2=>kOwn o_2 (bif true then bif true then some (OV.own 7 [[AV.int .i64 o,.int .i64 0,.int .i64 (qAH .i64 (p+2)),.int .i64 0,.int .i64 0,.str [],.sl []],[AV.int .i64 17,.int .i64 0,.int .i64 0,.int .i64 0,.int .i64 (0:Int),.str [],.sl []]] 0 2)else none else none) λsz rs off len=>bif qAz sz 7&&qAF (off+len) (qAt rs)then bif qo (1+qAt (qAB len (qAO off rs))) 80 then bif qAF (0+(1+qAt (qAB len (qAO off rs)))) (qAt ([AV.int .i64 o,.int .i64 0,.int .i64 0,.int .i64 0,.int .i64 0,.str [],.sl []]::qAB len (qAO off rs)))&&qo (1+qAt (qAB len (qAO off rs))+1) 80 then bif qi 0 (↑ (1+qAt (qAB len (qAO off rs))+1):Int)then kOpt (qAu (qAG (qAB (1+qAt (qAB len (qAO off rs))) ([AV.int .i64 o,.int .i64 0,.int .i64 0,.int .i64 0,.int .i64 0,.str [],.sl []]::qAB len (qAO off rs))) [[AV.int .i64 17,.int .i64 0,.int .i64 0,.int .i64 0,.int .i64 0,.str [],.sl []]]) 0) λrow=>bif qAF 3 (qAt row)then some (OV.own 7 (List.set (qAG (qAB (1+qAt (qAB len (qAO off rs))) ([AV.int .i64 o,.int .i64 0,.int .i64 0,.int .i64 0,.int .i64 0,.str [],.sl []]::qAB len (qAO off rs))) [[AV.int .i64 17,.int .i64 0,.int .i64 0,.int .i64 0,.int .i64 0,.str [],.sl []]]) 0 (qAG (qAG (qAB 2 row) [AV.int .i64 (qAH .i64 (p+(↑ (1+qAt (qAB len (qAO off rs))+1):Int)))]) (qAO 3 row))) 0 (1+qAt (qAB len (qAO off rs))+1))else none else none else none else none else none)else none else none else none else none) λsz rs off len=>bif qAz sz 7&&qAF (off+len) (qAt rs)&&qo (len+1) 80 then bif qi 1 (l.length:Int)then kOpt (qAu l 1) λrow=>bif qAz (qAt row) 4 then bif qAF 4 (qAt row)then kTmC (qAB 4 row) λn n_2 s rows=>(kOpt (EVo (EV cfg) 65 [.agg [.int .i64 n,.int .i64 n_2,.str s,.sl rows],.int .i64 (qAH .i64 (p+(↑ (len+1):Int)))]) λo_2=>kOwn o_2 (bif qAz sz 7&&qAF (0+(len+1)) (qAt (qAG (qAB len (qAO off rs)) [[AV.int .i64 o,.int .i64 0,.int .i64 0,.int .i64 0,.int .i64 (0:Int),.str [],.sl []]]))&&qo (len+1+0) 80 then bif qAz sz 7&&qAF (0+(len+1+0)) (qAt (qAG (qAB (len+1) (qAG (qAB len (qAO off rs)) [[AV.int .i64 o,.int .i64 0,.int .i64 0,.int .i64 0,.int .i64 0,.str [],.sl []]])) []))&&qo (len+1+0+1) 80 then bif qAz sz 7&&qe 0 (↑ len:Int)&&qi (↑ len:Int) (↑ (len+1+0+1):Int)then kOpt (qAu (qAG (qAB (len+1+0) (qAG (qAB (len+1) (qAG (qAB len (qAO off rs)) [[AV.int .i64 o,.int .i64 0,.int .i64 0,.int .i64 0,.int .i64 0,.str [],.sl []]])) [])) [[AV.int .i64 17,.int .i64 0,.int .i64 0,.int .i64 0,.int .i64 0,.str [],.sl []]]) (0+qAR (↑ len:Int))) λrow=>bif qAF 3 (qAt row)then some (OV.own sz (List.set (qAG (qAB (len+1+0) (qAG (qAB (len+1) (qAG (qAB len (qAO off rs)) [[AV.int .i64 o,.int .i64 0,.int .i64 0,.int .i64 0,.int .i64 0,.str [],.sl []]])) [])) [[AV.int .i64 17,.int .i64 0,.int .i64 0,.int .i64 0,.int .i64 0,.str [],.sl []]]) (0+qAR (↑ len:Int)) (qAG (qAG (qAB 2 row) [AV.int .i64 (qAH .i64 (p+(↑ (len+1+0+1):Int)))]) (qAO 3 row))) 0 (len+1+0+1))else none else none else none else none) λsz_1 rs_1 off_1 len_1=>bif qAz sz_1 7&&qAF (off_1+len_1) (qAt rs_1)then bif qAz sz 7&&qAF (0+(len+1)) (qAt (qAG (qAB len (qAO off rs)) [[AV.int .i64 o,.int .i64 0,.int .i64 0,.int .i64 0,.int .i64 0,.str [],.sl []]]))&&qo (len+1+qAt (qAB len_1 (qAO off_1 rs_1))) 80 then bif qAz sz 7&&qAF (0+(len+1+qAt (qAB len_1 (qAO off_1 rs_1)))) (qAt (qAG (qAB (len+1) (qAG (qAB len (qAO off rs)) [[AV.int .i64 o,.int .i64 0,.int .i64 0,.int .i64 0,.int .i64 0,.str [],.sl []]])) (qAB len_1 (qAO off_1 rs_1))))&&qo (len+1+qAt (qAB len_1 (qAO off_1 rs_1))+1) 80 then bif qAz sz 7&&qe 0 (↑ len:Int)&&qi (↑ len:Int) (↑ (len+1+qAt (qAB len_1 (qAO off_1 rs_1))+1):Int)then kOpt (qAu (qAG (qAB (len+1+qAt (qAB len_1 (qAO off_1 rs_1))) (qAG (qAB (len+1) (qAG (qAB len (qAO off rs)) [[AV.int .i64 o,.int .i64 0,.int .i64 0,.int .i64 0,.int .i64 0,.str [],.sl []]])) (qAB len_1 (qAO off_1 rs_1)))) [[AV.int .i64 17,.int .i64 0,.int .i64 0,.int .i64 0,.int .i64 0,.str [],.sl []]]) (0+qAR (↑ len:Int))) λrow=>bif qAF 3 (qAt row)then some (OV.own sz (List.set (qAG (qAB (len+1+qAt (qAB len_1 (qAO off_1 rs_1))) (qAG (qAB (len+1) (qAG (qAB len (qAO off rs)) [[AV.int .i64 o,.int .i64 0,.int .i64 0,.int .i64 0,.int .i64 0,.str [],.sl []]])) (qAB len_1 (qAO off_1 rs_1)))) [[AV.int .i64 17,.int .i64 0,.int .i64 0,.int .i64 0,.int .i64 0,.str [],.sl []]]) (0+qAR (↑ len:Int)) (qAG (qAG (qAB 2 row) [AV.int .i64 (qAH .i64 (p+(↑ (len+1+qAt (qAB len_1 (qAO off_1 rs_1))+1):Int)))]) (qAO 3 row))) 0 (len+1+qAt (qAB len_1 (qAO off_1 rs_1))+1))else none else none else none else none else none)else none else none else none else none)else none else none else none) P):Gets (EVo (EV cfg) 119 [.int .i64 o,.sl l,.int .i64 p]) P:=
  gE (λ_=>funO rfl rfl Tryz.func119 rfl) (by kernel_rfl) h
abbrev zr0:Option (OV):=some (OV.own 7 [[AV.int .i64 10,.int .i64 0,.int .i64 0,.int .i64 0,.int .i64 0,.str [],.sl []]] 0 1)
abbrev zr3:Option (OV):=some (OV.own 7 [[AV.int .i64 12,.int .i64 0,.int .i64 0,.int .i64 0,.int .i64 0,.str [],.sl []]] 0 1)
abbrev zr5(sz len off:Nat)(rs:Rz):Option (OV):=some (OV.own sz (qAG (qAB len (qAO off rs)) [[AV.int .i64 12,.int .i64 0,.int .i64 0,.int .i64 0,.int .i64 0,.str [],.sl []]]) 0 (len+1))
abbrev zr4(sz off len:Nat)(rs:Rz):Option (OV):=bif qAz sz 7&&qAF (off+len) (qAt rs)&&qo (len+1) 80 then zr5 sz len off rs else none
abbrev zr2(o:OV):Option (OV):=kOwn o (zr3) λsz rs off len=>zr4 sz off len rs
abbrev zr1(l:Rz)(p:Int):Option (OV):=kOpt (EVo (EV cfg) 118 [.sl l,.int .i64 p]) λo=>zr2 o
abbrev zr6(k n:Int)(s:Bz)(l:Rz):Option (OV):=some (OV.own 7 [[AV.int .i64 7,.int .i64 0,.int .i64 0,.int .i64 k,.int .i64 n,.str s,.sl l]] 0 1)
abbrev zr13(rows:Rz):Option (OV):=some (OV.own 7 [[AV.int .i64 11,.int .i64 (rows.length:Int),.int .i64 0,.int .i64 0,.int .i64 0,.str [],.sl []]] 0 1)
abbrev zr12(rows:Rz):Option (OV):=bif qo 1 80 then zr13 rows else none
abbrev zr15(l:Rz)(n n_2:Int)(s:Bz)(rows:Rz):Option (OV):=some (OV.own 7 [[AV.int .i64 13,.int .i64 (qAH .i64 ((l.length:Int) - 1)),.int .i64 0,.int .i64 n,.int .i64 n_2,.str s,.sl rows]] 0 1)
abbrev zr14(l:Rz)(n n_2:Int)(s:Bz)(rows:Rz):Option (OV):=bif qo 1 80 then zr15 l n n_2 s rows else none
abbrev zr11(n:Int)(rows:Rz)(p:Int)(s:Bz)(l:Rz)(n_2:Int):Option (OV):=(bif n==7 then kOpt (EVo (EV cfg) 118 [.sl rows,.int .i64 p]) λo=>kOwn o (zr12 rows) λsz rs off len=>bif qAz sz 7&&qAF (off+len) (qAt rs)&&qo (len+1) 80 then some (OV.own sz (qAG (qAB len (qAO off rs)) [[AV.int .i64 11,.int .i64 (rows.length:Int),.int .i64 0,.int .i64 0,.int .i64 0,.str [],.sl []]]) 0 (len+1))else none else bif s==[(99:UInt8),(111:UInt8),(110:UInt8),(115:UInt8),(116:UInt8)]then bif qi 1 (l.length:Int)then kOpt (qAu l 1) λrow=>bif qAz (qAt row) 4 then bif qAF 4 (qAt row)then kTmC (qAB 4 row) λn n_3 s rows=>(some (OV.own 7 [[AV.int .i64 7,.int .i64 0,.int .i64 0,.int .i64 n,.int .i64 n_3,.str s,.sl rows]] 0 1))else none else none else none else bif s==[(97:UInt8),(110:UInt8),(100:UInt8),(97:UInt8),(108:UInt8),(115:UInt8),(111:UInt8)]then bif qe 1 (l.length:Int)then bif vq 4 l then kOpt (EVo (EV cfg) 119 [AV.int .i64 15,.sl (qAB (qAt l - 1) (qAO 1 l)),.int .i64 p]) λo=>kOwn o (some (OV.own 7 [] 0 0)) λsz rs off len=>some (OV.own sz rs off len)else none else none else bif s==[(111:UInt8),(114:UInt8),(101:UInt8),(108:UInt8),(115:UInt8),(101:UInt8)]then bif qe 1 (l.length:Int)then bif vq 4 l then kOpt (EVo (EV cfg) 119 [AV.int .i64 16,.sl (qAB (qAt l - 1) (qAO 1 l)),.int .i64 p]) λo=>kOwn o (some (OV.own 7 [] 0 0)) λsz rs off len=>some (OV.own sz rs off len)else none else none else bif qe 1 (l.length:Int)then bif vq 4 l then kOpt (EVo (EV cfg) 118 [.sl (qAB (qAt l - 1) (qAO 1 l)),.int .i64 p]) λo=>kOwn o (zr14 l n n_2 s rows) λsz rs off len=>bif qAz sz 7&&qAF (off+len) (qAt rs)&&qo (len+1) 80 then some (OV.own sz (qAG (qAB len (qAO off rs)) [[AV.int .i64 13,.int .i64 (qAH .i64 ((l.length:Int) - 1)),.int .i64 0,.int .i64 n,.int .i64 n_2,.str s,.sl rows]]) 0 (len+1))else none else none else none)
abbrev zr10(row:List AV)(p:Int)(l:Rz):Option (OV):=kTmC (qAB 4 row) λn n_2 s rows=>zr11 n rows p s l n_2
abbrev zr9(row:List AV)(p:Int)(l:Rz):Option (OV):=bif qAF 4 (qAt row)then zr10 row p l else none
abbrev zr8(row:List AV)(p:Int)(l:Rz):Option (OV):=bif qAz (qAt row) 4 then zr9 row p l else none
abbrev zr7(l:Rz)(p:Int):Option (OV):=kOpt (qAu l 0) λrow=>zr8 row p l
theorem qs6(k n:Int)(s:Bz)(l:Rz)(p:Int){P:OV->Prop}(h:Gets (kOpt (EVs (EV cfg) 117 [.agg [.int .i64 k,.int .i64 n,.str s,.sl l]]) λv=>kTup v λcs=>qf cs λc cs=>kInt .i64 c λn_1=>qf cs λc cs=>qJ c λb=>kNil cs (bif b then some (OV.own 7 [[AV.int .i64 8,.int .i64 n_1,.int .i64 0,.int .i64 (0:Int),.int .i64 0,.str [],.sl []]] 0 1)else bif k==2 then bif s==[(36:UInt8),(95:UInt8)]then some (OV.own 7 [[AV.int .i64 9,.int .i64 0,.int .i64 0,.int .i64 0,.int .i64 0,.str [],.sl []]] 0 1)else bif k==2 then bif s==[(36:UInt8),(36:UInt8)]then zr0 else bif k==9 then zr1 l p else bif k != 7 then zr6 k n s l else bif qi 0 (↑ (qAt l):Int)then zr7 l p else none else bif k==9 then zr1 l p else bif k != 7 then zr6 k n s l else bif qi 0 (l.length:Int)then kOpt (qAu l 0) λrow=>bif qAz (qAt row) 4 then bif qAF 4 (qAt row)then kTmC (qAB 4 row) λn n_2 s rows=>(bif n==7 then kOpt (EVo (EV cfg) 118 [.sl rows,.int .i64 p]) λo=>kOwn o (zr12 rows) λsz rs off len=>bif qAz sz 7&&qAF (off+len) (qAt rs)&&qo (len+1) 80 then some (OV.own sz (qAG (qAB len (qAO off rs)) [[AV.int .i64 11,.int .i64 (rows.length:Int),.int .i64 0,.int .i64 0,.int .i64 0,.str [],.sl []]]) 0 (len+1))else none else bif s==[(99:UInt8),(111:UInt8),(110:UInt8),(115:UInt8),(116:UInt8)]then bif qi 1 (↑ (qAt l):Int)then kOpt (qAu l 1) λrow=>bif qAz (qAt row) 4 then bif qAF 4 (qAt row)then kTmC (qAB 4 row) λn n_3 s rows=>(some (OV.own 7 [[AV.int .i64 7,.int .i64 0,.int .i64 0,.int .i64 n,.int .i64 n_3,.str s,.sl rows]] 0 1))else none else none else none else bif s==[(97:UInt8),(110:UInt8),(100:UInt8),(97:UInt8),(108:UInt8),(115:UInt8),(111:UInt8)]then bif qe 1 (↑ (qAt l):Int)then bif vq 4 l then kOpt (EVo (EV cfg) 119 [AV.int .i64 15,.sl (qAB (qAt l - 1) (qAO 1 l)),.int .i64 p]) λo=>kOwn o (some (OV.own 7 [] 0 0)) λsz rs off len=>some (OV.own sz rs off len)else none else none else bif s==[(111:UInt8),(114:UInt8),(101:UInt8),(108:UInt8),(115:UInt8),(101:UInt8)]then bif qe 1 (l.length:Int)then bif vq 4 l then kOpt (EVo (EV cfg) 119 [AV.int .i64 16,.sl (qAB (qAt l - 1) (qAO 1 l)),.int .i64 p]) λo=>kOwn o (some (OV.own 7 [] 0 0)) λsz rs off len=>some (OV.own sz rs off len)else none else none else bif qe 1 (l.length:Int)then bif vq 4 l then kOpt (EVo (EV cfg) 118 [.sl (qAB (qAt l - 1) (qAO 1 l)),.int .i64 p]) λo=>kOwn o (zr14 l n n_2 s rows) λsz rs off len=>bif qAz sz 7&&qAF (off+len) (qAt rs)&&qo (len+1) 80 then some (OV.own sz (qAG (qAB len (qAO off rs)) [[AV.int .i64 13,.int .i64 (qAH .i64 ((l.length:Int) - 1)),.int .i64 (0:Int),.int .i64 n,.int .i64 n_2,.str s,.sl rows]]) 0 (len+1))else none else none else none)else none else none else none else bif k==2 then bif s==[(36:UInt8),(36:UInt8)]then zr0 else bif k==(9:Int)then zr1 l p else bif k != 7 then zr6 k n s l else bif qi 0 (l.length:Int)then zr7 l p else none else bif k==9 then zr1 l p else bif k != 7 then zr6 k n s l else bif qi 0 (l.length:Int)then kOpt (qAu l 0) λrow=>bif qAz (qAt row) 4 then bif qAF 4 (qAt row)then kTmC (qAB 4 row) λn n_2 s rows=>(bif n==7 then kOpt (EVo (EV cfg) 118 [.sl rows,.int .i64 p]) λo=>kOwn o (bif qo 1 80 then some (OV.own 7 [[AV.int .i64 11,.int .i64 (↑ (qAt rows):Int),.int .i64 0,.int .i64 0,.int .i64 0,.str [],.sl []]] 0 1)else none) λsz rs off len=>bif qAz sz 7&&qAF (off+len) (qAt rs)&&qo (len+1) 80 then some (OV.own sz (qAG (qAB len (qAO off rs)) [[AV.int .i64 11,.int .i64 (↑ (qAt rows):Int),.int .i64 0,.int .i64 0,.int .i64 0,.str [],.sl []]]) 0 (len+1))else none else bif s==[(99:UInt8),(111:UInt8),(110:UInt8),(115:UInt8),(116:UInt8)]then bif qi 1 (l.length:Int)then kOpt (qAu l 1) λrow=>bif qAz (qAt row) 4 then bif qAF 4 (qAt row)then kTmC (qAB 4 row) λn n_3 s rows=>(some (OV.own 7 [[AV.int .i64 7,.int .i64 0,.int .i64 (0:Int),.int .i64 n,.int .i64 n_3,.str s,.sl rows]] 0 1))else none else none else none else bif s==[(97:UInt8),(110:UInt8),(100:UInt8),(97:UInt8),(108:UInt8),(115:UInt8),(111:UInt8)]then bif qe 1 (l.length:Int)then bif vq 4 l then kOpt (EVo (EV cfg) 119 [AV.int .i64 15,.sl (qAB (qAt l - 1) (qAO 1 l)),.int .i64 p]) λo=>kOwn o (some (OV.own 7 [] 0 0)) λsz rs off len=>some (OV.own sz rs off len)else none else none else bif s==[(111:UInt8),(114:UInt8),(101:UInt8),(108:UInt8),(115:UInt8),(101:UInt8)]then bif qe 1 (l.length:Int)then bif vq 4 l then kOpt (EVo (EV cfg) 119 [AV.int .i64 16,.sl (qAB (qAt l - 1) (qAO 1 l)),.int .i64 p]) λo=>kOwn o (some (OV.own 7 [] 0 0)) λsz rs off len=>some (OV.own sz rs off len)else none else none else bif qe 1 (l.length:Int)then bif vq 4 l then kOpt (EVo (EV cfg) 118 [.sl (qAB (qAt l - 1) (qAO 1 l)),.int .i64 p]) λo=>kOwn o (bif qo 1 80 then some (OV.own 7 [[AV.int .i64 13,.int .i64 (qAH .i64 ((↑ (qAt l):Int) - 1)),.int .i64 0,.int .i64 n,.int .i64 n_2,.str s,.sl rows]] 0 1)else none) λsz rs off len=>bif qAz sz 7&&qAF (off+len) (qAt rs)&&qo (len+1) 80 then some (OV.own sz (qAG (qAB len (qAO off rs)) [[AV.int .i64 13,.int .i64 (qAH .i64 ((l.length:Int) - 1)),.int .i64 0,.int .i64 n,.int .i64 n_2,.str s,.sl rows]]) 0 (len+1))else none else none else none)else none else none else none)) P):Gets (EVo (EV cfg) 65 [.agg [.int .i64 k,.int .i64 n,.str s,.sl l],.int .i64 p]) P:=
  gE (λ_=>funO rfl rfl Tryz.func65 rfl) (by kernel_rfl) h
theorem qfG(l:Rz)(n v5:Int){P:AV->Prop}(h:Gets (bif decide (v5<(l.length:Int))then bif qe 0 v5&&qi v5 (l.length:Int)then kOpt (qAu l (v5.toNat)) λrow=>bif qAz (qAt row) 1 then kOpt (qAu row 0) λv=>kInt .i64 v λn_1=>bif n_1==n then some (.bool true)else qeU l n (qAH .i64 (v5+1))else none else none else some (.bool false)) P):Gets (qeU l n v5) P:=
  gE (λ_=>qt (cfg:=cfg) (f:=171) (rd:=none) (bs:=0)) (by kernel_rfl) h
theorem qfH(l:Rz)(p:Int)(nv5:Nat)(v6:Int)(h0:Rz){P:OV->Prop}(h:Gets (bif decide (v6<(l.length:Int))then bif qe 0 v6&&qi v6 (l.length:Int)then kOpt (qAu l (v6.toNat)) λrow=>bif qAz (qAt row) 4 then bif qAF 4 (qAt row)then kTmC (qAB 4 row) λn n_1 s rows=>(kOpt (EVo (EV cfg) 65 [.agg [.int .i64 n,.int .i64 n_1,.str s,.sl rows],.int .i64 (qAH .i64 (p+(↑ nv5:Int)))]) λo=>kOwn o (bif qAF (0+nv5) (qAt h0)&&qo (nv5+0) 80 then qc9 l p (nv5+0) (qAH .i64 (v6+1)) (qAG (qAB nv5 h0) [])else none) λsz rs off len=>bif qAz sz 7&&qAF (off+len) (qAt rs)then bif qAF (0+nv5) (qAt h0)&&qo (nv5+qAt (qAB len (qAO off rs))) 80 then qc9 l p (nv5+qAt (qAB len (qAO off rs))) (qAH .i64 (v6+1)) (qAG (qAB nv5 h0) (qAB len (qAO off rs)))else none else none)else none else none else none else some (OV.own 7 h0 0 nv5)) P):Gets (qc9 l p nv5 v6 h0) P:=
  gE (λ_=>qt (cfg:=cfg) (f:=118) (rd:=none) (bs:=0)) (by kernel_rfl) h
def qzk:Den:=evC cfg (EV cfg) 178 none 0 (sub (qg Tryz.f178) [1,0,1,0,0])
def qzM:Ex×List AV×AH->Option AV:=kAft (Cfg.keepOut cfg 178 2) (kRun cfg (EV cfg) (kfN cfg 6) 178 none 0 (yK cfg (Cfg.lift cfg 178 0) Tryz.f178.results.toList) ([.block 0,.seq (sub (qg Tryz.f178) [1,1])]))
def qy1:List AV×AH->Option AV:=λp=>kOpt (LOOP 0 (some [0,1,5]) ([]) qzk p) qzM
def qzj:Den:=evC cfg (EV cfg) 179 none 0 (sub (qg Tryz.f179) [1,1,0,1,0,0])
def qzL:Ex×List AV×AH->Option AV:=kAft (Cfg.keepOut cfg 179 3) (kRun cfg (EV cfg) (kfN cfg 6) 179 none 0 (yK cfg (Cfg.lift cfg 179 0) Tryz.f179.results.toList) ([.block 0,.seq (sub (qg Tryz.f179) [1,1,1])]))
def qy0:List AV×AH->Option AV:=λp=>kOpt (LOOP 0 (some [1,5,6]) ([]) qzj p) qzL
def qzl:Den:=evC cfg (EV cfg) 177 none 0 (sub (qg Tryz.f177) [1,0,1,0,0])
def qzN:Ex×List AV×AH->Option AV:=kAft (Cfg.keepOut cfg 177 2) (kRun cfg (EV cfg) (kfN cfg 6) 177 none 0 (yK cfg (Cfg.lift cfg 177 0) Tryz.f177.results.toList) ([.block 0,.seq (sub (qg Tryz.f177) [1,1])]))
def qy2:List AV×AH->Option AV:=λp=>kOpt (LOOP 0 (some [0,1,5]) ([]) qzl p) qzN
def qzm:Den:=evC cfg (EV cfg) 117 none 0 (sub (qg Tryz.f117) [1,1,1,0,1,0,0])
def qzO:Ex×List AV×AH->Option AV:=kAft (Cfg.keepOut cfg 117 5) (kRun cfg (EV cfg) (kfN cfg 6) 117 none 0 (yK cfg (Cfg.lift cfg 117 0) Tryz.f117.results.toList) ([.block 0,.seq (sub (qg Tryz.f117) [1,1,1,1])]))
def qy3:List AV×AH->Option AV:=λp=>kOpt (LOOP 0 (some [1,4,5]) ([]) qzm p) qzO
def qzo:Den:=evC cfg (EV cfg) 95 none 0 (sub (qg Tryz.f95) [1,1,0,1,0,0])
def qzQ:Ex×List AV×AH->Option AV:=kAft (Cfg.keepOut cfg 95 4) (kRun cfg (EV cfg) (kfN cfg 6) 95 none 0 (yK cfg (Cfg.lift cfg 95 0) Tryz.f95.results.toList) ([.block 0,.seq (sub (qg Tryz.f95) [1,1,1])]))
def qy5:List AV×AH->Option AV:=λp=>kOpt (LOOP 0 (some [1,3]) ([]) qzo p) qzQ
def qzn:Den:=evC cfg (EV cfg) 96 none 0 (sub (qg Tryz.f96) [1,1,1,0,1,0,1,0,0])
def qzP:Ex×List AV×AH->Option AV:=kAft (Cfg.keepOut cfg 96 6) (kRun cfg (EV cfg) (kfN cfg 6) 96 none 0 (yK cfg (Cfg.lift cfg 96 0) Tryz.f96.results.toList) ([.block 0,.seq (sub (qg Tryz.f96) [1,1,1,1])]))
def qy4:List AV×AH->Option AV:=λp=>kOpt (LOOP 0 (some [1,3,4]) ([]) qzn p) qzP
abbrev qjr(L V:Rz)(v5:Int):Option (AV):=qy1 (((fx 19 [(0,.sl L),(1,.sl V),(5,.int .i64 v5)]):List AV),([]:AH))
abbrev qjq(n:Int)(rows:Rz)(v6:Int):Option (AV):=qy0 (((fx 21 [(1,.int .i64 n),(5,.sl rows),(6,.int .i64 v6)]):List AV),([]:AH))
abbrev qjs(L:Rz)(n v5:Int):Option (AV):=qy2 (((fx 18 [(0,.sl L),(1,.int .i64 n),(5,.int .i64 v5)]):List AV),([]:AH))
abbrev qcg(v4 v5 c0_0 c0_1:Int)(c0_2:Bz)(c0_3:Rz):Option (AV):=qy3 (((fx 73 [(1,.ptr 0 0 0),(4,.int .i64 v4),(5,.int .i64 v5)]):List AV),([.rows false 4 [[.int .i64 c0_0,.int .i64 c0_1,.str c0_2,.sl c0_3]]]:AH))
abbrev qjt(v3 c0_0 c0_1:Int)(c0_2:Bz)(c0_3:Rz):Option (AV):=qy5 (((fx 21 [(1,.ptr 0 0 0),(3,.int .i64 v3)]):List AV),([.rows false 4 [[.int .i64 c0_0,.int .i64 c0_1,.str c0_2,.sl c0_3]]]:AH))
abbrev zQ(v3 v4 c0_0 c0_1:Int)(c0_2:Bz)(c0_3:Rz):Option (AV):=qy4 (((fx 42 [(1,.ptr 0 0 0),(3,.int .i64 v3),(4,.int .i64 v4)]):List AV),([.rows false 4 [[.int .i64 c0_0,.int .i64 c0_1,.str c0_2,.sl c0_3]]]:AH))
theorem qoo(kt nt:Int)(st:Bz)(lt V:Rz){P:AV->Prop}(h:Gets (kOpt (EVs (EV cfg) 47 [.agg [.int .i64 kt,.int .i64 nt,.str st,.sl lt]]) λv=>kInt .i64 v λn=>bif n != 0 then some (.int .i64 2)else kOpt (EVs (EV cfg) 116 [.agg [.int .i64 kt,.int .i64 nt,.str st,.sl lt],.sl V]) λv=>qJ v λb=>bif ! b then some (.int .i64 10)else some (.int .i64 0)) P):Gets (EVs (EV cfg) 64 [.agg [.int .i64 kt,.int .i64 nt,.str st,.sl lt],.sl V]) P:=
  gE (λ_=>funS rfl rfl Tryz.func64 rfl) (by kernel_rfl) h
theorem qt3(kt nt:Int)(st:Bz)(lt V:Rz){P:AV->Prop}(h:Gets (kOpt (EVs (EV cfg) 117 [.agg [.int .i64 kt,.int .i64 nt,.str st,.sl lt]]) λv=>kTup v λcs=>qf cs λc cs=>kInt .i64 c λn=>qf cs λc cs=>qJ c λb=>kNil cs (bif b then kOpt (EVs (EV cfg) 177 [.sl V,.int .i64 n]) λv=>qJ v λb=>some (.bool b)else bif kt==9 then kOpt (EVs (EV cfg) 178 [.sl lt,.sl V]) λv=>qJ v λb=>some (.bool b)else bif kt != 7 then some (.bool true)else bif(lt.length:Int)==0 then some (.bool false)else bif qi 0 (lt.length:Int)then kOpt (qAu lt 0) λrow=>bif qAz (qAt row) 4 then bif qAF 4 (qAt row)then kTmC (qAB 4 row) λn n_1 s rows=>(bif(↑ (qAt lt):Int)==1 then bif n==7 then kOpt (EVs (EV cfg) 178 [.sl rows,.sl V]) λv=>qJ v λb=>some (.bool b)else bif n != 2 then some (.bool false)else bif s==[(99:UInt8),(111:UInt8),(110:UInt8),(115:UInt8),(116:UInt8)]then some (.bool ((lt.length:Int)==2))else kOpt (EVs (EV cfg) 179 [.str s,.int .i64 (qAH .i64 ((lt.length:Int) - 1))]) λv=>qJ v λb=>bif b then bif qe 1 (↑ (qAt lt):Int)then bif vq 4 lt then kOpt (EVs (EV cfg) 178 [.sl (qAB (qAt lt - 1) (qAO 1 lt)),.sl V]) λv=>qJ v λb=>some (.bool b)else none else none else some (.bool false)else bif n != 2 then some (.bool false)else bif s==[(99:UInt8),(111:UInt8),(110:UInt8),(115:UInt8),(116:UInt8)]then some (.bool ((lt.length:Int)==2))else kOpt (EVs (EV cfg) 179 [.str s,.int .i64 (qAH .i64 ((lt.length:Int) - 1))]) λv=>qJ v λb=>bif b then bif qe 1 (lt.length:Int)then bif vq 4 lt then kOpt (EVs (EV cfg) 178 [.sl (qAB (qAt lt - 1) (qAO 1 lt)),.sl V]) λv=>qJ v λb=>some (.bool b)else none else none else some (.bool false))else none else none else none)) P):Gets (EVs (EV cfg) 116 [.agg [.int .i64 kt,.int .i64 nt,.str st,.sl lt],.sl V]) P:=
  gE (λ_=>funS rfl rfl Tryz.func116 rfl) (by kernel_rfl) h
theorem qr4(L V:Rz){P:AV->Prop}(h:Gets (qjr L V 0) P):Gets (EVs (EV cfg) 178 [.sl L,.sl V]) P:=
  gE (λ_=>funS rfl rfl Tryz.func178 rfl) (by kernel_rfl) h
theorem qr3(op:Bz)(n:Int){P:AV->Prop}(h:Gets (kOpt (EVf (EV cfg) 214 [.str op]) λv=>kSl v λrows=>qjq n rows 0) P):Gets (EVs (EV cfg) 179 [.str op,.int .i64 n]) P:=
  gE (λ_=>funS rfl rfl Tryz.func179 rfl) (by kernel_rfl) h
theorem qt4(L:Rz)(n:Int){P:AV->Prop}(h:Gets (qjs L n 0) P):Gets (EVs (EV cfg) 177 [.sl L,.int .i64 n]) P:=
  gE (λ_=>funS rfl rfl Tryz.func177 rfl) (by kernel_rfl) h
theorem qr2(op:Bz){P:AV->Prop}(h:Gets (bif op==[(115:UInt8),(101:UInt8),(108:UInt8),(102:UInt8)]then some (.sl [[.int .i64 0]])else bif op==[(105:UInt8),(115:UInt8),(95:UInt8),(97:UInt8),(116:UInt8),(111:UInt8),(109:UInt8)]then some (.sl [[.int .i64 1]])else bif op==[(105:UInt8),(115:UInt8),(95:UInt8),(105:UInt8),(110:UInt8),(116:UInt8),(101:UInt8),(103:UInt8),(101:UInt8),(114:UInt8)]then some (.sl [[.int .i64 1]])else bif op==[(105:UInt8),(115:UInt8),(95:UInt8),(108:UInt8),(105:UInt8),(115:UInt8),(116:UInt8)]then some (.sl [[.int .i64 1]])else bif op==[(105:UInt8),(115:UInt8),(95:UInt8),(116:UInt8),(117:UInt8),(112:UInt8),(108:UInt8),(101:UInt8)]then some (.sl [[.int .i64 1]])else bif op==[(105:UInt8),(115:UInt8),(95:UInt8),(112:UInt8),(105:UInt8),(100:UInt8)]then some (.sl [[.int .i64 1]])else bif op==[(105:UInt8),(115:UInt8),(95:UInt8),(102:UInt8),(117:UInt8),(110:UInt8),(99:UInt8),(116:UInt8),(105:UInt8),(111:UInt8),(110:UInt8)]then some (.sl [[.int .i64 1]])else bif op==[(105:UInt8),(115:UInt8),(95:UInt8),(114:UInt8),(101:UInt8),(102:UInt8),(101:UInt8),(114:UInt8),(101:UInt8),(110:UInt8),(99:UInt8),(101:UInt8)]then some (.sl [[.int .i64 1]])else bif op==[(110:UInt8),(111:UInt8),(116:UInt8)]then some (.sl [[.int .i64 1]])else bif op==[(98:UInt8),(110:UInt8),(111:UInt8),(116:UInt8)]then some (.sl [[.int .i64 1]])else bif op==[(97:UInt8),(98:UInt8),(115:UInt8)]then some (.sl [[.int .i64 1]])else bif op==[(116:UInt8),(117:UInt8),(112:UInt8),(108:UInt8),(101:UInt8),(95:UInt8),(115:UInt8),(105:UInt8),(122:UInt8),(101:UInt8)]then some (.sl [[.int .i64 1]])else bif op==[(115:UInt8),(105:UInt8),(122:UInt8),(101:UInt8)]then some (.sl [[.int .i64 1]])else bif op==[(104:UInt8),(100:UInt8)]then some (.sl [[.int .i64 1]])else bif op==[(116:UInt8),(108:UInt8)]then some (.sl [[.int .i64 1]])else bif op==[(108:UInt8),(101:UInt8),(110:UInt8),(103:UInt8),(116:UInt8),(104:UInt8)]then some (.sl [[.int .i64 1]])else bif op==[(43:UInt8)]then some (.sl [[.int .i64 1],[.int .i64 2]])else bif op==[(45:UInt8)]then some (.sl [[.int .i64 1],[.int .i64 2]])else bif op==[(61:UInt8),(61:UInt8)]then some (.sl [[.int .i64 2]])else bif op==[(61:UInt8),(58:UInt8),(61:UInt8)]then some (.sl [[.int .i64 2]])else bif op==[(47:UInt8),(61:UInt8)]then some (.sl [[.int .i64 2]])else bif op==[(61:UInt8),(47:UInt8),(61:UInt8)]then some (.sl [[.int .i64 2]])else bif op==[(60:UInt8)]then some (.sl [[.int .i64 2]])else bif op==[(61:UInt8),(60:UInt8)]then some (.sl [[.int .i64 2]])else bif op==[(62:UInt8)]then some (.sl [[.int .i64 2]])else bif op==[(62:UInt8),(61:UInt8)]then some (.sl [[.int .i64 2]])else bif op==[(97:UInt8),(110:UInt8),(100:UInt8)]then some (.sl [[.int .i64 2]])else bif op==[(111:UInt8),(114:UInt8)]then some (.sl [[.int .i64 2]])else bif op==[(120:UInt8),(111:UInt8),(114:UInt8)]then some (.sl [[.int .i64 2]])else bif op==[(97:UInt8),(110:UInt8),(100:UInt8),(97:UInt8),(108:UInt8),(115:UInt8),(111:UInt8)]then some (.sl [[.int .i64 2]])else bif op==[(111:UInt8),(114:UInt8),(101:UInt8),(108:UInt8),(115:UInt8),(101:UInt8)]then some (.sl [[.int .i64 2]])else bif op==[(42:UInt8)]then some (.sl [[.int .i64 2]])else bif op==[(100:UInt8),(105:UInt8),(118:UInt8)]then some (.sl [[.int .i64 2]])else bif op==[(114:UInt8),(101:UInt8),(109:UInt8)]then some (.sl [[.int .i64 2]])else bif op==[(98:UInt8),(97:UInt8),(110:UInt8),(100:UInt8)]then some (.sl [[.int .i64 2]])else bif op==[(98:UInt8),(111:UInt8),(114:UInt8)]then some (.sl [[.int .i64 2]])else bif op==[(98:UInt8),(120:UInt8),(111:UInt8),(114:UInt8)]then some (.sl [[.int .i64 2]])else bif op==[(101:UInt8),(108:UInt8),(101:UInt8),(109:UInt8),(101:UInt8),(110:UInt8),(116:UInt8)]then some (.sl [[.int .i64 2]])else some (.sl [])) P):Gets (EVf (EV cfg) 214 [.str op]) P:=
  gE (λ_=>funF rfl rfl Tryz.func214 rfl) (by kernel_rfl) h
theorem qr8(kt nt:Int)(st:Bz)(lt:Rz){P:AV->Prop}(h:Gets (kOpt (EVs (EV cfg) 47 [.agg [.int .i64 kt,.int .i64 nt,.str st,.sl lt]]) λv=>kInt .i64 v λn=>bif n != 0 then some (AV.tup [.int .i64 0,.bool false])else bif kt != 2 then some (AV.tup [.int .i64 0,.bool false])else bif decide ((st.length:Int)<2)then some (AV.tup [.int .i64 0,.bool false])else bif decide ((st.length:Int)>3)then some (AV.tup [.int .i64 0,.bool false])else kOpt (qAu st 0) λb=>bif(↑ (UInt8.toNat b):Int) != 36 then some (AV.tup [.int .i64 0,.bool false])else bif(st.length:Int)==3 then kOpt (qAu st 1) λb=>bif(↑ (UInt8.toNat b):Int)==48 then some (AV.tup [.int .i64 0,.bool false])else qcg 0 1 kt nt st lt else qcg 0 1 kt nt st lt) P):Gets (EVs (EV cfg) 117 [.agg [.int .i64 kt,.int .i64 nt,.str st,.sl lt]]) P:=
  gE (λ_=>funS rfl rfl Tryz.func117 rfl) (by kernel_rfl) h
theorem qos(kt nt:Int)(st:Bz)(lt:Rz){P:AV->Prop}(h:Gets (kOpt (EVs (EV cfg) 95 [.agg [.int .i64 kt,.int .i64 nt,.str st,.sl lt]]) λv=>qJ v λb=>bif ! b then some (.int .i64 2)else kOpt (EVs (EV cfg) 96 [.agg [.int .i64 kt,.int .i64 nt,.str st,.sl lt]]) λv=>kInt .i64 v λn=>bif decide (n>65536)then some (.int .i64 3)else some (.int .i64 0)) P):Gets (EVs (EV cfg) 47 [.agg [.int .i64 kt,.int .i64 nt,.str st,.sl lt]]) P:=
  gE (λ_=>funS rfl rfl Tryz.func47 rfl) (by kernel_rfl) h
abbrev zs0(st:Bz)(lt:Rz):Option (AV):=bif st==[]then some (.bool ((lt.length:Int)==0))else some (.bool false)
abbrev zs1(nt:Int)(st:Bz)(lt:Rz):Option (AV):=kOpt (EVs (EV cfg) 206 [.int .i64 nt]) λv=>qJ v λb=>bif b then zs0 st lt else some (.bool false)
theorem qsa(kt nt:Int)(st:Bz)(lt:Rz){P:AV->Prop}(h:Gets (bif kt==1 then bif decide (nt≥(- 576460752303423488))then bif decide (nt<=576460752303423487)then zs0 st lt else some (.bool false)else some (.bool false)else bif kt==2 then bif nt==0 then bif decide ((st.length:Int)<=64)then some (.bool ((lt.length:Int)==0))else some (.bool false)else some (.bool false)else bif kt==3 then zs1 nt st lt else bif kt==4 then kOpt (EVs (EV cfg) 206 [.int .i64 nt]) λv=>qJ v λb=>bif b then bif st==[]then some (.bool ((lt.length:Int)==(0:Int)))else some (.bool false)else some (.bool false)else bif kt==6 then zs1 nt st lt else bif kt==5 then kOpt (EVs (EV cfg) 206 [.int .i64 nt]) λv=>qJ v λb=>bif b then bif st==[]then some (.bool (decide ((lt.length:Int)<=64)))else some (.bool false)else some (.bool false)else bif kt==7 then bif nt==0 then bif st==[]then some (.bool (decide ((lt.length:Int)<=64)))else some (.bool false)else some (.bool false)else bif kt==8 then bif nt==0 then zs0 st lt else some (.bool false)else bif kt==9 then bif nt==0 then bif st==[]then some (.bool ((lt.length:Int)==2))else some (.bool false)else some (.bool false)else some (.bool false)) P):Gets (EVs (EV cfg) 156 [.agg [.int .i64 kt,.int .i64 nt,.str st,.sl lt]]) P:=
  gE (λ_=>funS rfl rfl Tryz.func156 rfl) (by kernel_rfl) h
theorem qor(kt nt:Int)(st:Bz)(lt:Rz){P:AV->Prop}(h:Gets (kOpt (EVs (EV cfg) 156 [.agg [.int .i64 kt,.int .i64 nt,.str st,.sl lt]]) λv=>qJ v λb=>bif ! b then some (.bool false)else qjt 0 kt nt st lt) P):Gets (EVs (EV cfg) 95 [.agg [.int .i64 kt,.int .i64 nt,.str st,.sl lt]]) P:=
  gE (λ_=>funS rfl rfl Tryz.func95 rfl) (by kernel_rfl) h
theorem qoq(kt nt:Int)(st:Bz)(lt:Rz){P:AV->Prop}(h:Gets (bif kt==5 then bif kt==5 then zQ 2 0 kt nt st lt else bif kt==7 then zQ 2 0 kt nt st lt else bif kt==9 then zQ 2 0 kt nt st lt else some (.int .i64 2)else bif kt==7 then bif kt==5 then zQ 2 0 kt nt st lt else bif kt==7 then zQ 2 0 kt nt st lt else bif kt==9 then zQ 2 0 kt nt st lt else some (.int .i64 2)else bif kt==5 then zQ 1 0 kt nt st lt else bif kt==7 then zQ 1 0 kt nt st lt else bif kt==9 then zQ 1 0 kt nt st lt else some (.int .i64 1)) P):Gets (EVs (EV cfg) 96 [.agg [.int .i64 kt,.int .i64 nt,.str st,.sl lt]]) P:=
  gE (λ_=>funS rfl rfl Tryz.func96 rfl) (by kernel_rfl) h
theorem qhU(L V:Rz)(v5:Int){P:AV->Prop}(h:Gets (bif decide (v5<(L.length:Int))then bif qe 0 v5&&qi v5 (L.length:Int)then kOpt (qAu L (v5.toNat)) λrow=>bif qAz (qAt row) 4 then bif qAF 4 (qAt row)then kTmC (qAB 4 row) λn n_1 s rows=>(kOpt (EVs (EV cfg) 116 [.agg [.int .i64 n,.int .i64 n_1,.str s,.sl rows],.sl V]) λv=>qJ v λb=>bif ! b then some (.bool false)else qjr L V (qAH .i64 (v5+1)))else none else none else none else some (.bool true)) P):Gets (qjr L V v5) P:=
  gE (λ_=>qt (cfg:=cfg) (f:=178) (rd:=none) (bs:=0)) (by kernel_rfl) h
theorem qhT(n:Int)(rows:Rz)(v6:Int){P:AV->Prop}(h:Gets (bif decide (v6<(rows.length:Int))then bif qe 0 v6&&qi v6 (rows.length:Int)then kOpt (qAu rows (v6.toNat)) λrow=>bif qAz (qAt row) 1 then kOpt (qAu row 0) λv=>kInt .i64 v λn_1=>bif n_1==n then some (.bool true)else qjq n rows (qAH .i64 (v6+1))else none else none else some (.bool false)) P):Gets (qjq n rows v6) P:=
  gE (λ_=>qt (cfg:=cfg) (f:=179) (rd:=none) (bs:=0)) (by kernel_rfl) h
theorem qhV(L:Rz)(n v5:Int){P:AV->Prop}(h:Gets (bif decide (v5<(L.length:Int))then bif qe 0 v5&&qi v5 (L.length:Int)then kOpt (qAu L (v5.toNat)) λrow=>bif qAz (qAt row) 1 then kOpt (qAu row 0) λv=>kInt .i64 v λn_1=>bif n_1==n then some (.bool true)else qjs L n (qAH .i64 (v5+1))else none else none else some (.bool false)) P):Gets (qjs L n v5) P:=
  gE (λ_=>qt (cfg:=cfg) (f:=177) (rd:=none) (bs:=0)) (by kernel_rfl) h
theorem qhW(v4 v5 c0_0 c0_1:Int)(c0_2:Bz)(c0_3:Rz){P:AV->Prop}(h:Gets (bif decide (v5<(c0_2.length:Int))then bif qe 0 v5 then kOpt (qAu c0_2 (v5.toNat)) λb=>bif decide ((↑ (UInt8.toNat b):Int)<48)then some (AV.tup [.int .i64 0,.bool false])else bif qe 0 v5 then kOpt (qAu c0_2 (v5.toNat)) λb=>bif decide ((↑ (UInt8.toNat b):Int)>57)then some (AV.tup [.int .i64 0,.bool false])else bif qe 0 v5 then kOpt (qAu c0_2 (v5.toNat)) λb=>qcg (qAH .i64 (qAH .i64 (10*v4)+qAH .i64 (qAH .u8 ((↑ (UInt8.toNat b):Int) - 48)))) (qAH .i64 (v5+1)) c0_0 c0_1 c0_2 c0_3 else none else none else none else some (AV.tup [.int .i64 v4,.bool true])) P):Gets (qcg v4 v5 c0_0 c0_1 c0_2 c0_3) P:=
  gE (λ_=>qt (cfg:=cfg) (f:=117) (rd:=none) (bs:=0)) (by kernel_rfl) h
theorem qhY(v3 c0_0 c0_1:Int)(c0_2:Bz)(c0_3:Rz){P:AV->Prop}(h:Gets (bif decide (v3<(c0_3.length:Int))then bif qe 0 v3&&qi v3 (c0_3.length:Int)then kOpt (qAu c0_3 (v3.toNat)) λrow=>bif qAz (qAt row) 4 then bif qAF 4 (qAt row)then kTmC (qAB 4 row) λn n_1 s rows=>(kOpt (EVs (EV cfg) 95 [.agg [.int .i64 n,.int .i64 n_1,.str s,.sl rows]]) λv=>qJ v λb=>bif ! b then some (.bool false)else qjt (qAH .i64 (v3+1)) c0_0 c0_1 c0_2 c0_3)else none else none else none else some (.bool true)) P):Gets (qjt v3 c0_0 c0_1 c0_2 c0_3) P:=
  gE (λ_=>qt (cfg:=cfg) (f:=95) (rd:=none) (bs:=0)) (by kernel_rfl) h
theorem qhX(v3 v4 c0_0 c0_1:Int)(c0_2:Bz)(c0_3:Rz){P:AV->Prop}(h:Gets (bif decide (v4<(c0_3.length:Int))then bif qe 0 v4&&qi v4 (c0_3.length:Int)then kOpt (qAu c0_3 (v4.toNat)) λrow=>bif qAz (qAt row) 4 then bif qAF 4 (qAt row)then kTmC (qAB 4 row) λn n_1 s rows=>(kOpt (EVs (EV cfg) 96 [.agg [.int .i64 n,.int .i64 n_1,.str s,.sl rows]]) λv=>kInt .i64 v λn=>zQ (qAH .i64 (v3+n)) (qAH .i64 (v4+1)) c0_0 c0_1 c0_2 c0_3)else none else none else none else some (.int .i64 v3)) P):Gets (zQ v3 v4 c0_0 c0_1 c0_2 c0_3) P:=
  gE (λ_=>qt (cfg:=cfg) (f:=96) (rd:=none) (bs:=0)) (by kernel_rfl) h
theorem qj1(n:Int){P:AV->Prop}(h:Gets (bif decide (n≥0)then some (.bool (decide (n<=1073741824)))else some (.bool false)) P):Gets (EVs (EV cfg) 206 [.int .i64 n]) P:=
  gE (λ_=>funS rfl rfl Tryz.func206 rfl) (by kernel_rfl) h
theorem qlI(n:Int):EVs (EV cfg) 206 [.int .i64 n]=some (.bool (decide (0<=n)&&decide (n<=1073741824))):=by
 apply Gets.get;refine qj1 _ ?_
 by_cases h:0<=n<;>simp[h]
theorem qt7(t:Tm):EVs (EV cfg) 156 [t.av]=some (.bool t.sound):=by
 obtain⟨k,n,s,l⟩:=t;apply Gets.get;rw[Tm.av_mk];refine qsa _ _ _ _ ?_;unfold zs1 zs0;simp only[Tm.sound,Tm.kind_mk,Tm.num_mk,Tm.str_mk,Tm.subs_mk,qc,beqI,qu5,yq,qlI,qb,qk]
 by_cases h1:k=1
 ·subst h1;simp[vX]<;>(try rw[Bool.eq_iff_iff])<;>(try simp)<;>first|omega|grind
 by_cases h2:k=2
 ·subst h2;simp[vX]<;>(try rw[Bool.eq_iff_iff])<;>(try simp)<;>first|omega|grind
 by_cases h3:k=3
 ·subst h3;simp[vX]<;>(try rw[Bool.eq_iff_iff])<;>(try simp)<;>first|omega|grind
 by_cases h4:k=4
 ·subst h4;simp[vX]<;>(try rw[Bool.eq_iff_iff])<;>(try simp)<;>first|omega|grind
 by_cases h6:k=6
 ·subst h6;simp[vX]<;>(try rw[Bool.eq_iff_iff])<;>(try simp)<;>first|omega|grind
 by_cases h5:k=5
 ·subst h5;simp[vX]<;>(try rw[Bool.eq_iff_iff])<;>(try simp)<;>first|omega|grind
 by_cases h7:k=7
 ·subst h7;simp[vX]<;>(try rw[Bool.eq_iff_iff])<;>(try simp)<;>first|omega|grind
 by_cases h8:k=8
 ·subst h8;simp[vX]<;>(try rw[Bool.eq_iff_iff])<;>(try simp)<;>first|omega|grind
 by_cases h9:k=9
 ·subst h9;simp[vX]<;>(try rw[Bool.eq_iff_iff])<;>(try simp)<;>first|omega|grind
 simp[h1,h2,h3,h4,h5,h6,h7,h8,h9]
theorem qqc(t:Tm):t.w<1099511627776->EVs (EV cfg) 95 [t.av]=some (.bool t.parts):=by
 induction t using Tm.ind with
 |_ k n s l ih=>
  intro hw;rw[Tm.w_mk]at hw;have hlen:=xw l;have loop:∀d i:Nat,i+d=l.length->Gets (qjt i k n s (qa l)) (·= .bool (vN (l.drop i))):=by
   intro d
   induction d with
   |zero=>
    intro i hi;refine qhY _ _ _ _ _ ?_;rw[qc,qBi (by omega),qAV (by omega)];exact⟨_,rfl,rfl⟩
   |succ d ihd=>
    intro i hi;have hil:i<l.length:=by omega
    refine qhY _ _ _ _ _ ?_;have hx:l[i]? =some l[i]:=qAv hil;have hm:=qAJ hx;have hd:l.drop i=l[i]::l.drop (i+1):=qAT hil;have h1:=ih l[i] hm (by have:=vV hm;omega);have h2:=ihd (i+1) (by omega);rw[qc,qBh (show(i:Int)<(l.length:Int) by omega),qI,q8,qBh hil,ye hx,qL hil (by omega),hd,vN]
    simp only[cond_true,qAM,qv,qA1,qG,qF,show qAF 4 4=true from rfl,q9,h1,qb,qk];cases hg:l[i].parts with
    |false=>exact⟨_,rfl,rfl⟩
    |true=>rw[qA9];exact h2
  have ho:=qt7 (.mk k n s l);have h0:=loop l.length 0 (by omega);apply Gets.get;rw[Tm.parts_eq];rw[Tm.av_mk]at ho⊢;refine qor _ _ _ _ ?_;rw[ho];simp only[qb,qk,Tm.subs_mk];cases(Tm.mk k n s l).sound with
  |false=>exact⟨_,rfl,rfl⟩
  |true=>rw[qA9];exact h0
theorem qcK{l:List Tm}(h:vN l=true):∀x∈l,x.parts=true:=by
 induction l with
 |nil=>intro x hx;cases hx
 |cons y l ih=>
  rw[vN,qAw]at h;intro x hx;cases hx with
  |head=>exact h.1
  |tail _ hx=>exact ih h.2 x hx
theorem qqb(t:Tm):t.w<1099511627776->t.parts=true->EVs (EV cfg) 96 [t.av]=some (.int .i64 (t.words:Int)):=by
 induction t using Tm.ind with
 |_ k n s l ih=>
  intro hw hp;have hww:=qvt (.mk k n s l);rw[Tm.w_mk]at hw hww;have hlen:=xw l;rw[Tm.parts,qAw]at hp;obtain⟨hp,hpl⟩:=hp;have loop:∀d i acc:Nat,i+d=l.length->acc+vh (l.drop i)<9007199254740992->Gets (zQ acc i k n s (qa l)) (·= .int .i64 ((acc+vh (l.drop i):Nat):Int)):=by
   intro d
   induction d with
   |zero=>
    intro i acc hi _;refine qhX _ _ _ _ _ _ ?_;rw[qc,qBi (by omega),qAV (by omega)];exact⟨_,rfl,rfl⟩
   |succ d ihd=>
    intro i acc hi hacc;have hil:i<l.length:=by omega
    refine qhX _ _ _ _ _ _ ?_;have hx:l[i]? =some l[i]:=qAv hil;have hm:=qAJ hx;have hd:l.drop i=l[i]::l.drop (i+1):=qAT hil;have h1:=ih l[i] hm (by have:=vV hm;omega) (qcK hpl _ hm);rw[hd,vh]at hacc;have h2:=ihd (i+1) (acc+(l[i]).words) (by omega) (by omega);have w1:qAH .i64 ((acc:Int)+((l[i]).words:Int))=((acc+(l[i]).words:Nat):Int):=by rw[vE (by omega) (by omega)];omega
    rw[qc,qBh (show(i:Int)<(l.length:Int) by omega),qI,q8,qBh hil,ye hx,qL hil (by omega),hd,vh];simp only[cond_true,qAM,qv,qA1,qG,qF,show qAF 4 4=true from rfl,q9,h1,qb,qm,w1];rw[←qBa];exact h2
  have hwo:(Tm.mk k n s l).words=(Tm.mk k n s l).own+vh l:=by rw[Tm.words]
  rw[hwo]at hww⊢;have ho:=(Tm.mk k n s l).own_le;have h0:=loop l.length 0 (Tm.mk k n s l).own (by omega) (by rw[qA4];omega);rw[qA4]at h0;apply Gets.get;rw[Tm.av_mk];refine qoq _ _ _ _ ?_
  by_cases h5:k=5
  ·subst h5;have o2:(Tm.mk 5 n s l).own=2:=by simp[Tm.own]
   rw[o2]at h0⊢;exact h0
  by_cases h7:k=7
  ·subst h7;have o2:(Tm.mk 7 n s l).own=2:=by simp[Tm.own]
   rw[o2]at h0⊢;exact h0
  have o1:(Tm.mk k n s l).own=1:=by simp[Tm.own,h5,h7]
  rw[o1]at h0⊢
  by_cases h9:k=9
  ·subst h9;exact h0
  have e5:(k==5)=false:=by simpa using h5
  have e7:(k==7)=false:=by simpa using h7
  have e9:(k==9)=false:=by simpa using h9
  have hl:l=[]:=by
   have:yq k n s l.length=true->l.length=0:=by
    unfold yq;rw[qBk h5,qBk h7,qBk h9];intro h
    repeat' split at h
    all_goals simp at h
    all_goals simp[h]
   exact List.length_eq_zero_iff.1 (this hp)
  subst hl;rw[e5,e7,e9];exact⟨_,rfl,rfl⟩
theorem qaS{t:Tm}(h:t.w<1099511627776):EVs (EV cfg) 47 [t.av]=some (.int .i64 t.chk):=by
 have hp:=qqc t h;have hw:=qqb t h;apply Gets.get;rw[Tm.av,Tm.cells_eq]at hp hw⊢;refine qos _ _ _ _ ?_;rw[hp];have hc:t.chk=if t.parts then(if 65536<t.words then 3 else 0)else 2:=by
  unfold Tm.chk chkS;simp[vN,vh]
 rw[hc];simp only[qb,qk];cases ht:t.parts with
 |false=>exact⟨_,rfl,rfl⟩
 |true=>
  rw[hw ht];simp only[qb,qm,Bool.not_true,cond_false,if_true]
  by_cases hg:65536<t.words
  ·rw[qBh (show((t.words:Int)>65536) by omega),qBj hg];exact⟨_,rfl,rfl⟩
  ·rw[qBi (show ¬((t.words:Int)>65536) by omega),qBk hg];exact⟨_,rfl,rfl⟩
theorem qvM(l:List Int)(hl:l.length<1099511627776)(n:Int):EVs (EV cfg) 177 [.sl (ql l),.int .i64 n]=some (.bool (decide (n∈l))):=by
 have loop:∀d i:Nat,i+d=l.length->Gets (qjs (ql l) n i) (·= .bool (decide (n∈l.drop i))):=by
  intro d
  induction d with
  |zero=>
   intro i hi;refine qhV _ _ _ ?_;rw[qP,qBi (by omega),qAV (by omega)];exact⟨_,rfl,by simp⟩
  |succ d ih=>
   intro i hi;have hil:i<l.length:=by omega
   refine qhV _ _ _ ?_;have hx:l[i]? =some l[i]:=qAv hil;have hd:l.drop i=l[i]::l.drop (i+1):=qAT hil;have h:=ih (i+1) (by omega);rw[qP,qBh (show(i:Int)<(l.length:Int) by omega),qI,q8,qBh hil,qB,qAS,zc,hx,qL hil hl,hd]
   by_cases he:l[i]=n
   ·refine⟨.bool true,?_,?_⟩
    ·simp[he]
    ·rw[he];simp
   ·have hne:(l[i]==n)=false:=by rw[beqI];exact qBi he
    have hm:decide (n∈l[i]::l.drop (i+1))=decide (n∈l.drop (i+1)):=decide_eq_decide.2 (by rw[qAZ];exact⟨λh=>h.resolve_left (λe=>he e.symm),Or.inr⟩);rw[hm]
    simpa [hne]using h
 apply Gets.get;exact qt4 _ _ (by simpa using loop l.length 0 (by omega))
theorem qt1(op:List UInt8):EVf (EV cfg) 214 [.str op]=some (.sl (ql (opsG op))):=by
 apply Gets.get;refine qr2 _ ?_;have h:=qgz (λl=>some (AV.sl (ql l))) op [] qbu;have:Gets (qag op (some (AV.sl (ql []))) (qbu.map λp=>(p.1,some (AV.sl (ql p.2))))) (·= .sl (ql (opsG op))):=by
  rw[h];exact⟨_,rfl,rfl⟩
 exact this
theorem qt2(op:List UInt8)(n:Int):EVs (EV cfg) 179 [.str op,.int .i64 n]=some (.bool (decide (n∈opsG op))):=by
 have hl:=qou op;have loop:∀d i:Nat,i+d=(opsG op).length->Gets (qjq n (ql (opsG op)) i) (·= .bool (decide (n∈(opsG op).drop i))):=by
  generalize opsG op=l at hl;intro d
  induction d with
  |zero=>
   intro i hi;refine qhT _ _ _ ?_;rw[qP,qBi (by omega),qAV (by omega)];exact⟨_,rfl,by simp⟩
  |succ d ih=>
   intro i hi;have hil:i<l.length:=by omega
   refine qhT _ _ _ ?_;have hx:l[i]? =some l[i]:=qAv hil;have hd:l.drop i=l[i]::l.drop (i+1):=qAT hil;have h:=ih (i+1) (by omega);rw[qP,qBh (show(i:Int)<(l.length:Int) by omega),qI,q8,qBh hil,qB,qAS,zc,hx,qL hil hl,hd]
   by_cases he:l[i]=n
   ·refine⟨.bool true,?_,?_⟩
    ·simp[he]
    ·rw[he];simp
   ·have hne:(l[i]==n)=false:=by rw[beqI];exact qBi he
    have hm:decide (n∈l[i]::l.drop (i+1))=decide (n∈l.drop (i+1)):=decide_eq_decide.2 (by rw[qAZ];exact⟨λh=>h.resolve_left (λe=>he e.symm),Or.inr⟩);rw[hm]
    simpa [hne]using h
 apply Gets.get;refine qr3 _ _ ?_;rw[qt1];exact(by simpa using loop (opsG op).length 0 (by omega))
theorem qiS{k n:Int}{s:List UInt8}{l:List (List AV)}{b:UInt8}{v:Int}{i:Nat}{P:AV->Prop}(hv:0<=v∧v<=9)(hl:s.length<=3)(hb:s[i]? =some b)(h:Gets (match yb b with|none=>some (AV.tup [.int .i64 0,.bool false])|some x=>qcg (v*10+x) ((i+1:Nat):Int) k n s l) P):Gets (qcg v i k n s l) P:=by
 have hi:i<s.length:=(qAy.1 hb).1;refine qhW _ _ _ _ _ _ ?_;have hbl:=b.toNat_lt;rw[qBh (show(i:Int)<(s.length:Int) by omega),qI];simp only[cond_true,qB,qAS,hb,qb];unfold yb at h
 by_cases h1:b.toNat<48
 ·rw[qBj h1]at h;rw[qBh (show(b.toNat:Int)<48 by omega)];exact h
 ·rw[qBk h1]at h;rw[qBi (show ¬(b.toNat:Int)<48 by omega),cond_false]
  by_cases h2:b.toNat>57
  ·rw[qBj h2]at h;rw[qBh (show(b.toNat:Int)>57 by omega)];exact h
  ·rw[qBk h2]at h;rw[qBi (show ¬(b.toNat:Int)>57 by omega),cond_false];have w1:qAH .i64 (10*v)=v*10:=by rw[vE (by omega) (by omega)];omega
   have w2:qAH .u8 ((b.toNat:Int) - 48)=(b.toNat:Int) - 48:=by
    simp[qAH,IntKind.bits,IntKind.signed];omega
   have w3:qAH .i64 ((b.toNat:Int) - 48)=(b.toNat:Int) - 48:=vE (by omega) (by omega);have w4:qAH .i64 (v*10+((b.toNat:Int) - 48))=v*10+((b.toNat:Int) - 48):=vE (by omega) (by omega);have w5:qAH .i64 ((i:Int)+1)=((i+1:Nat):Int):=qL (n:=3) (by omega) (by omega);rw[w1,w2,w3,w4,w5];exact h
theorem qq9{k n:Int}{s:List UInt8}{l:List (List AV)}{v:Int}{i:Nat}(hi:i=s.length):Gets (qcg v i k n s l) (·= .tup [.int .i64 v,.bool true]):=by
 refine qhW _ _ _ _ _ _ ?_;rw[qBi (by omega)];exact⟨_,rfl,rfl⟩
theorem qbj{t:Tm}(h:t.w<1099511627776):EVs (EV cfg) 117 [t.av]=some (varR (varT t)):=by
 have hc:=qaS h;apply Gets.get;rw[Tm.av,Tm.cells_eq]at hc⊢;refine qr8 _ _ _ _ ?_;rw[hc];unfold varT;simp only[qb,qm]
 by_cases h2:t.chk=0
 ·have e0:(t.chk != 0)=false:=by rw[h2];rfl
  rw[e0,cond_false]
  by_cases h1:t.kind=2
  ·have e1:(t.kind != 2)=false:=by rw[h1];rfl
   rw[e1,cond_false,qBj ⟨h1,h2⟩];generalize t.str=s;generalize t.kind=k;generalize t.num=n;generalize qa t.subs=l
   match s with
   |[]=>exact⟨_,rfl,rfl⟩
   |[a]=>exact⟨_,rfl,rfl⟩
   |a::b::c::d::l=>
    have h1:¬((a::b::c::d::l).length:Int)<2:=by simp;omega
    have h2:((a::b::c::d::l).length:Int)>3:=by simp;omega
    rw[qBi h1,qBh h2];exact⟨_,rfl,rfl⟩
   |[a,b]=>
    by_cases h:a.toNat=36
    ·have e:(((a.toNat:Int)) != 36)=false:=by rw[h];rfl
     have hs:=qiS (k:=k) (n:=n) (l:=l) (s:=[a,b]) (b:=b) (v:=0) (i:=1) (P:=(·=varR (varG [a,b]))) (by omega) (by simp) rfl (by
      rw[qnm,qBj h];cases hd:yb b with
      |none=>exact⟨_,rfl,rfl⟩
      |some x=>
       refine(qq9 (s:=[a,b]) rfl).mono ?_;rintro _ rfl;show _=varR (some x);simp[varR])
     show Gets (bif(((a.toNat:Int)) != 36)then _ else _) _;rw[e];exact hs
    ·have e:(((a.toNat:Int)) != 36)=true:=by simpa using λh'=>h (by omega)
     show Gets (bif(((a.toNat:Int)) != 36)then _ else _) _;rw[e];refine⟨_,rfl,?_⟩;rw[qnm,qBk h];rfl
   |[a,b,c]=>
    by_cases h:a.toNat=36
    ·have e:(((a.toNat:Int)) != 36)=false:=by rw[h];rfl
     show Gets (bif(((a.toNat:Int)) != 36)then _ else bif(((b.toNat:Int))==48)then _ else _) _;rw[e]
     by_cases hb:b.toNat=48
     ·have e2:(((b.toNat:Int))==48)=true:=by rw[hb];rfl
      rw[e2];refine⟨_,rfl,?_⟩;rw[qhq,qBk (λh=>h.2 hb)];rfl
     ·have e2:(((b.toNat:Int))==48)=false:=by simpa using λh'=>hb (by omega)
      rw[e2];show Gets (qcg 0 1 k n [a,b,c] l) _;refine qiS (s:=[a,b,c]) (b:=b) (v:=0) (i:=1) (by omega) (by simp) rfl ?_;rw[qhq,qBj ⟨h,hb⟩];cases hd:yb b with
      |none=>exact⟨_,rfl,rfl⟩
      |some x=>
       have hx:=qcv hd;refine qiS (s:=[a,b,c]) (b:=c) (i:=2) (by omega) (by simp) rfl ?_;cases hd2:yb c with
       |none=>exact⟨_,rfl,by simp[varR]⟩
       |some y=>
        refine(qq9 (s:=[a,b,c]) rfl).mono ?_;rintro _ rfl;simp[varR]
    ·have e:(((a.toNat:Int)) != 36)=true:=by simpa using λh'=>h (by omega)
     show Gets (bif(((a.toNat:Int)) != 36)then _ else _) _;rw[e];refine⟨_,rfl,?_⟩;rw[qhq,qBk (λh'=>h h'.1)];rfl
  ·have e1:(t.kind != 2)=true:=by simpa using h1
   rw[e1,qBk (λh=>h1 h.1)];exact⟨_,rfl,rfl⟩
 ·have e0:(t.chk != 0)=true:=by simpa using h2
  rw[e0,qBk (λh=>h2 h.2)];exact⟨_,rfl,rfl⟩
abbrev ownI(l:List InsA):OV:=.own 7 (qd l) 0 l.length
def qaQ(t:Tm):Prop:=∀p:Nat,p+t.w<1099511627776->EVo (EV cfg) 65 [t.av,.int .i64 (p:Int)]=some (ownI (qp t p))
theorem qqM{l:List Tm}(hx:∀t∈l,qaQ t)(p:Nat)(hlen:l.length<1099511627776):∀(k i:Nat) (out:List InsA),l.length - i=k->i<=l.length->p+out.length+wL (l.drop i)<1099511627776 ->
  Gets (qc9 (qa l) (p:Int) out.length (i:Int) (qd out)) (·=ownI (out++xQ (l.drop i) (p+out.length))):=by
 intro k
 induction k with
 |zero=>
  intro i out hk hi hw;refine qfH _ _ _ _ _ ?_;rw[qc,qBi (by omega),cond_false];refine⟨_,rfl,?_⟩;rw[qAV (by omega),qck,List.append_nil]
 |succ k ih=>
  intro i out hk hi hw;refine qfH _ _ _ _ _ ?_;have hil:i<l.length:=by omega
  have g0:l[i]? =some l[i]:=qAv hil;have hd:l.drop i=l[i]::l.drop (i+1):=by rw[qAT hil]
  rw[hd,qA]at hw;have hc:=xi l[i] (p+out.length);have e1:(qe 0 (i:Int)&&qi (i:Int) ((qa l).length:Int))=true:=by simp;omega
  have ew:qAH .i64 ((p:Int)+(out.length:Int))=((p+out.length:Nat):Int):=by rw[vE (by omega) (by omega)];omega
  have hz:=hx l[i] (List.getElem_mem hil) (p+out.length) (by omega);have et:qAB (qp l[i] (p+out.length)).length (qAO 0 (qd (qp l[i] (p+out.length))))=qd (qp l[i] (p+out.length)):=by
   rw[qA4,qAE (by rw[qu];exact qAA _)]
  have e2:(qAz 7 7&&qAF (0+(qp l[i] (p+out.length)).length) (qd (qp l[i] (p+out.length))).length)=true:=by
   rw[nble,qu,qBh (by omega)];rfl
  have e3:(qAF (0+out.length) (qd out).length&&qo (out.length+(qp l[i] (p+out.length)).length) 80)=true:=by
   have hf:qo (out.length+(qp l[i] (p+out.length)).length) 80=true:=by unfold qo;simp only[nble,qAw,decide_eq_true_eq];omega
   rw[nble,qu,qBh (by omega),hf];rfl
  have e4:qAG (qAB out.length (qd out)) (qd (qp l[i] (p+out.length)))=qd (out++qp l[i] (p+out.length)):=by
   rw[qAE (by rw[qu];exact qAA _),yR];rfl
  rw[qBh (show(i:Int)<((qa l).length:Int) by simp;omega),e1];simp only[xz g0,ew,qb,cond_true,qv,qA1,qG,qF,show qAF 4 4=true from rfl,q9,hz,xh,et,e4,qu];rw[qL hil hlen];have:=ih (i+1) (out++qp l[i] (p+out.length)) (by omega) (by omega) (by rw[qAI];omega);rw[qAI,←qBa]at this
  rw[hd,qbw,←qA8];have e5:(qAF (0+out.length) out.length&&qo (out.length+(qp l[i] (p+out.length)).length) 80)=true:=by rw[qu]at e3;exact e3
  have e6:(true&&qAF (0+(qp l[i] (p+out.length)).length) (qp l[i] (p+out.length)).length)=true:=by rw[qu]at e2;exact e2
  first
   |exact this
   |(simp only[e5,e6,cond_true];exact this)
theorem qg0{l:List Tm}(hx:∀t∈l,qaQ t)(p:Nat)(hw:p+wL l<1099511627776):EVo (EV cfg) 118 [.sl (qa l),.int .i64 (p:Int)]=some (ownI (xQ l p)):=by
 apply Gets.get;refine qs1 _ _ ?_;have:=qqM hx p (by have:=xw l;omega) l.length 0 [] (by omega) (by omega) (by simp;omega);rw[qA4]at this;exact this
abbrev iz(o a b:Int):InsA:=⟨o,a,b,zT⟩
mutual
/-- the code of a pattern, where some variables stand ahead; these with its own -/
def vg:Tm->List Int->List InsA×List Int
 | .mk k n s l,V=>
  match varT (.mk k n s l)with
  |some x=>if x∈V then([iz 4 x 0],V)else([iz 3 x 0],V++[x])
  |none=>
   if anyT (.mk k n s l)=true then([iz 5 0 0],V)
   else if k=7 then(iz 1 (l.length:Int) 0::(vW l V).1,(vW l V).2)
   else if k=9 then(iz 2 0 0::(vW l V).1,(vW l V).2)
   else([⟨6,0,0,.mk k n s l⟩],V)
def vW:List Tm->List Int->List InsA×List Int
 |[],V=>([],V)
 |t::l,V=>((vg t V).1++(vW l (vg t V).2).1,(vW l (vg t V).2).2)
end
theorem qbW(t:Tm)(V:List Int):vg t V=(match varT t with
  |some x=>if x∈V then([iz 4 x 0],V)else([iz 3 x 0],V++[x])
  |none=>
   if anyT t=true then([iz 5 0 0],V)
   else if t.kind=7 then(iz 1 (t.subs.length:Int) 0::(vW t.subs V).1,(vW t.subs V).2)
   else if t.kind=9 then(iz 2 0 0::(vW t.subs V).1,(vW t.subs V).2)
   else([⟨6,0,0,t⟩],V)):=by
 obtain⟨k,n,s,l⟩:=t;rw[vg.eq_def];rfl
theorem qaK(V:List Int):vW [] V=([],V):=by rw[vW]
theorem qaa(t:Tm)(l:List Tm)(V:List Int):vW (t::l) V=((vg t V).1++(vW l (vg t V).2).1,(vW l (vg t V).2).2):=by rw[vW]
theorem quB:∀(n:Nat) (t:Tm),t.w<=n->∀V,(vg t V).1.length<=t.w:=by
 intro n
 induction n with
 |zero=>intro t h;have:=t.w_eq;omega
 |succ n ih=>
  intro t h V;have hw:=t.w_eq;have hm:∀l:List Tm,wL l<=n->∀V,(vW l V).1.length<=wL l:=by
   intro l
   induction l with
   |nil=>intro _ V;rw[qaK];simp
   |cons t l ihl=>
    intro hl V;rw[qA]at hl;rw[qaa,qA];have h1:=ih t (by omega) V;have h2:=ihl (by omega) (vg t V).2;simp;omega
  have h1:=hm t.subs (by omega) V;rw[qbW];split
  ·split<;>· simp;omega
  ·split
   ·simp;omega
   ·split
    ·simp;omega
    ·split<;>· simp;omega
theorem qbV(t:Tm)(V:List Int):(vg t V).1.length<=t.w:=quB t.w t (qAA _) V
def mV(V:List Int):List (AV×AV):=V.map λx=>(.int .i64 x,.bool true)
theorem qyH(V:List Int)(x:Int):qAG (mV V) [(.int .i64 x,.bool true)]=mV (V++[x]):=by
 show mV V++_=_;unfold mV;simp
theorem qrk{x:Int}:∀{V:List Int},x ∉ V->∀j,xW (TD.int .i64) (.int .i64 x) (mV V) j=some none
 |[],_,_=>rfl
 |y::V,h,j=>by
  show xW _ _ ((.int .i64 y,.bool true)::mV V) j=_;rw[xW];have hn:x≠y:=λe=>h (by simp[e])
  have e:qcN (TD.int .i64) (.int .i64 x) (.int .i64 y)=some false:=by
   unfold qcN;simp[hn]
  rw[e];exact qrk (λhx=>h (by simp[hx])) (j+1)
theorem qrj{x:Int}:∀{V:List Int},x∈V->∀j,∃i,xW (TD.int .i64) (.int .i64 x) (mV V) j=some (some (i,.bool true))
 |[],h,_=>absurd h (by simp)
 |y::V,h,j=>by
  show ∃i,xW _ _ ((.int .i64 y,.bool true)::mV V) j=_;rw[xW]
  by_cases hn:x=y
  ·have e:qcN (TD.int .i64) (.int .i64 x) (.int .i64 y)=some true:=by
    unfold qcN;simp[hn]
   rw[e];exact⟨j,rfl⟩
  ·have e:qcN (TD.int .i64) (.int .i64 x) (.int .i64 y)=some false:=by
    unfold qcN;simp[hn]
   rw[e];exact qrj (by simpa [hn]using h) (j+1)
theorem qdH(P Q:List InsA)(h h':InsA):List.set (qd (P++h::Q)) P.length h'.row=qd (P++h'::Q):=by
 unfold qd;rw[List.map_append,List.map_append,show P.length=(P.map InsA.row).length by simp,List.set_append];simp
theorem qdI(P Q:List InsA)(h:InsA):qAu (qd (P++h::Q)) P.length=some h.row:=by
 apply qe0;simp
theorem quo(o:Int)(ins x y:List InsA):ins++qcM o ins.length x y=(ins++x)++(⟨o,0,((ins++x++[iz o 0 0]++y++[iz 17 0 0]).length:Int),zT⟩:InsA)::(y++[iz 17 0 0]):=by
 rw[qcM,←qA8];have:ins.length+x.length+1+y.length+1=(ins++x++[iz o 0 0]++y++[iz 17 0 0]).length:=by simp;omega
 rw[this]
theorem quW(o:Int){a b:Tm}{r:List Tm}(ha:zz a)(hb:zz b){ins:List InsA}(hw:ins.length+(wL (a::b::r)+2)<1099511627776):
  EVj (EV cfg) 115 1 [.ptr 0 0 0,.int .i64 o,.sl (qa (a::b::r))] (mkH (qd ins))=some (.tup [],mkH (qd (ins++yZ o (a::b::r) ins.length))):=by
 apply Gets.get;refine qtd _ _ _ ?_;rw[qA,qA]at hw;have la:=xi a ins.length;have z1:=ha.c (ins:=ins) (by omega);have z2:=xX (ins:=ins++qp a ins.length) (by simp;omega) o 0 0;have lb:=xi b (ins.length+(qp a ins.length).length+1);have hl2:(ins++qp a ins.length++[iz o 0 0]).length=ins.length+(qp a ins.length).length+1:=by simp;omega
 have z3:=hb.c (ins:=ins++qp a ins.length++[iz o 0 0]) (by rw[hl2];omega);rw[hl2]at z3;have z4:=xX (ins:=ins++qp a ins.length++[iz o 0 0]++qp b (ins.length+(qp a ins.length).length+1)) (by rw[qAI,hl2];omega) 17 0 0;have g0:qAu (qa (a::b::r)) 0=some a.cells:=by rw[qK];rfl
 have g1:qAu (qa (a::b::r)) 1=some b.cells:=by rw[qK,qK];rfl
 have e1:qi 0 ((qa (a::b::r)).length:Int)=true:=by simp<;>omega
 have e2:qi 1 ((qa (a::b::r)).length:Int)=true:=by simp<;>omega
 simp only[e1,e2,g0,g1,z1,z2,z3,z4,qb,qO,qM,vp,vo,qU,qAM,cond_true,qN,qV,qW,qD,qm,qR,vm,qv,qG,qF,show qAF 4 4=true from rfl];generalize hy:qp b (ins.length+(qp a ins.length).length+1)=y at *;have e3:(qe 0 ((ins++qp a ins.length).length:Int)&&qi ((ins++qp a ins.length).length:Int) ((qd (ins++qp a ins.length++[iz o 0 0]++y++[iz 17 0 0])).length:Int))=true:=by
  rw[qI,q8,qu];simp
 have e4:ins++qp a ins.length++[iz o 0 0]++y++[iz 17 0 0]=(ins++qp a ins.length)++iz o 0 0::(y++[iz 17 0 0]):=by simp
 rw[e3,cond_true,qAS,qA5];have e5:yZ o (a::b::r) ins.length=qcM o ins.length (qp a ins.length) y:=by rw[qcm,hy]
 rw[e5,quo,e4,qdI];simp only[qb,InsA.row_len,show qAF 3 7=true from rfl,cond_true];refine⟨_,rfl,?_⟩;have e6:∀n:Int,qAG (qAG (qAB 2 (iz o 0 0).row) [AV.int .i64 n]) (qAO 3 (iz o 0 0).row)=(iz o 0 n).row:=λn=>rfl
 rw[e6,qdH,qu];show _=(_,mkH _);rw[mkH,qu];simp
theorem qbf{V:List Int}{l:List Tm}(h:allG V l=true):∀x∈l,isG V x=true:=by
 intro x hx;cases hn:isG V x with
 |true=>rfl
 |false=>rw[qfx.2 ⟨x,hx,hn⟩]at h;exact h
theorem qmD{V:List Int}:∀(n:Nat) (t:Tm),t.w<=n->isG V t=true->zz t:=by
 intro n
 induction n with
 |zero=>intro t h;have:=t.w_eq;omega
 |succ n ih=>
  intro t h hg ins hw;have hwe:=t.w_eq;have hi:ins.length<1099511627776:=by omega
  apply Gets.get;rw[Tm.av,Tm.cells_eq];refine qtg _ _ _ _ _ ?_;unfold zb7 zb0 zb1 zb2 zb3 zb4 zb5 zb6
  by_cases h2:t.kind=2
  ·have hv:=qdJ (t:=t) (by omega);have b1:(t.kind==(2:Int))=true:=by simp[h2]
   have z:=qeG hi 7 0 0 t;rw[qbJ h2,b1,cond_true,q9,hv];cases hvt:varT t with
   |some x=>
    simp only[varR,qb,qO,qM,vp,vo,qU,qAM,cond_true,qN,qV,qW,qD,qm,qR,qS,qk,vm,xX hi];exact⟨_,rfl,rfl⟩
   |none=>
    simp only[varR,qb,qD,qm,qR,qS,qk]
    by_cases s1:t.str=[36,95]
    ·have b2:(t.str==[36,95])=true:=by simp[s1]
     rw[b2,qBj s1];simp only[qb,qO,qM,vp,vo,qU,qAM,cond_true,qN,qV,qW,qD,qm,qR,vm,xX hi];exact⟨_,rfl,rfl⟩
    have b2:(t.str==[36,95])=false:=by simp[s1]
    rw[b2,qBk s1]
    by_cases s2:t.str=[36,36]
    ·have b3:(t.str==[36,36])=true:=by simp[s2]
     rw[b3,qBj s2];simp only[qb,qO,qM,vp,vo,qU,qAM,cond_true,cond_false,qN,qV,qW,qD,qm,qR,vm,xX hi];exact⟨_,rfl,rfl⟩
    have b3:(t.str==[36,36])=false:=by simp[s2]
    rw[b3,qBk s2];simp only[qb,qO,qM,vp,vo,qU,qAM,cond_true,cond_false,qN,qV,qW,qD,qm,qR,vm,z];exact⟨_,rfl,rfl⟩
  have b1:(t.kind==(2:Int))=false:=by simp[h2]
  rw[b1,cond_false]
  by_cases h9:t.kind=9
  ·have b2:(t.kind==(9:Int))=true:=by simp[h9]
   rw[qfn h9]at hg;have hx:=λx hx=>ih x (by have:=vV (l:=t.subs) hx;omega) (qbf hg x hx)
   have lm:=qbR t.subs ins.length;have z1:=qg3 hx (ins:=ins) (by omega);have z2:=xX (ins:=ins++xQ t.subs ins.length) (by rw[qAI];omega) 12 0 0;rw[b2,qbI h9];simp only[qb,qO,qM,vp,vo,qU,qAM,cond_true,qN,qV,qW,qD,qm,qR,vm,z1,z2]
   refine⟨_,rfl,?_⟩;rw[qA8]
  have b2:(t.kind==(9:Int))=false:=by simp[h9]
  rw[b2,cond_false]
  by_cases h7:t.kind=7
  ·have b3:(t.kind==(7:Int))=true:=by simp[h7]
   rw[b3,cond_true];cases hl:t.subs with
   |nil=>rw[qeB h7 hl]at hg;exact absurd hg (by simp)
   |cons f r=>
    rw[qeA h7 hl]at hg;rw[hl,qA]at hwe;have hfe:=f.w_eq;have g0:qAu (qa (f::r)) 0=some f.cells:=by rw[qK];rfl
    have e1:qi 0 ((qa (f::r)).length:Int)=true:=by simp<;>omega
    have e2:qe 1 ((qa (f::r)).length:Int)=true:=by simp<;>omega
    have e3:qAB ((qa (f::r)).length - 1) (qAO 1 (qa (f::r)))=qa r:=by
     rw[qK];show qAB (qa r).length (qa r)=qa r;exact qAE (qAA _)
    simp only[e1,e2,e3,g0,qb,qU,cond_true,qv,qG,qF,show qAF 4 4=true from rfl,qan];rw[qct h7 hl]
    by_cases f7:f.kind=7
    ·have b4:(f.kind==(7:Int))=true:=by simp[f7]
     rw[qBj f7,qAw]at hg;have hx:=λx hx=>ih x (by have:=vV (l:=f.subs) hx;omega) (qbf hg.2 x hx)
     have lm:=qbR f.subs ins.length;have z1:=qg3 hx (ins:=ins) (by omega);have z2:=xX (ins:=ins++xQ f.subs ins.length) (by rw[qAI];omega) 11 f.subs.length 0;rw[b4,qBj f7];simp only[qb,qO,qM,vp,vo,qU,qAM,cond_true,qN,qV,qW,qD,qm,qR,vm,z1,z2,qc]
     refine⟨_,rfl,?_⟩;rw[qA8]
    have b4:(f.kind==(7:Int))=false:=by simp[f7]
    rw[b4,qBk f7,cond_false];rw[qBk f7]at hg;have f2:f.kind=2:=by
     by_cases f2:f.kind=2
     ·exact f2
     ·rw[qBk f2]at hg;exact absurd hg (by simp)
    rw[qBj f2]at hg
    by_cases s1:f.str=qcw
    ·have b5:(f.str==[99,111,110,115,116])=true:=by simp[s1,qcw]
     rw[qBj (show f.str=[99,111,110,115,116]from s1)]at hg;rw[b5,qBj s1,cond_true]
     match r,hg with
     |[c],_=>
      have g1:qAu (qa [c]) 0=some c.cells:=by rw[qK];rfl
      have e4:qi 0 ((qa [c]).length:Int)=true:=by simp<;>omega
      have z:=qeG hi 7 0 0 c;simp only[g1,e4,qb,qO,qM,vp,vo,qU,qAM,cond_true,qN,qV,qW,qD,qm,qR,vm,qv,qG,qF,show qAF 4 4=true from rfl,z];refine⟨_,rfl,?_⟩;rw[qbL]
    have b5:(f.str==[99,111,110,115,116])=false:=by simpa [qcw]using s1
    rw[qBk (show ¬f.str=[99,111,110,115,116]from s1),qAw]at hg;rw[b5,qBk s1,cond_false];have hx:=λx hx=>ih x (by have:=vV (l:=r) hx;omega) (qbf hg.2 x hx)
    have hz:(f.str=andS∨f.str=orS)->∀o:Int,EVj (EV cfg) 115 1 [.ptr 0 0 0,.int .i64 o,.sl (qa r)] (mkH (qd ins))=some (.tup [],mkH (qd (ins++yZ o r ins.length))):=by
     intro hs o;have h2r:r.length=2:=by
      have h0:=hg.1;rcases hs with hs|hs<;>· rw[hs]at h0;have h0:(r.length:Int)=2:=(by simpa [opsG,qbu,qag,andS,orS]using h0);omega
     match r,h2r with
     |[a,b],_=>
      have hfs:1<=f.str.length:=by rcases hs with hs|hs<;>· rw[hs];decide
      exact quW o (hx a (by simp)) (hx b (by simp)) (by simp only[qA,xu]at hwe⊢;omega)
    by_cases s2:f.str=andS
    ·have b6:(f.str==[97,110,100,97,108,115,111])=true:=by simp[s2,andS]
     rw[b6,qBj s2];simp only[qb,qO,qM,vp,vo,qU,qAM,cond_true,qN,qV,qW,qD,qR,vm,hz (Or.inl s2)];exact⟨_,rfl,rfl⟩
    have b6:(f.str==[97,110,100,97,108,115,111])=false:=by simpa [andS]using s2
    rw[b6,qBk s2,cond_false]
    by_cases s3:f.str=orS
    ·have b7:(f.str==[111,114,101,108,115,101])=true:=by simp[s3,orS]
     rw[b7,qBj s3];simp only[qb,qO,qM,vp,vo,qU,qAM,cond_true,qN,qV,qW,qD,qR,vm,hz (Or.inr s3)];exact⟨_,rfl,rfl⟩
    have b7:(f.str==[111,114,101,108,115,101])=false:=by simpa [orS]using s3
    rw[b7,qBk s3,cond_false];have lm:=qbR r ins.length;have z1:=qg3 hx (ins:=ins) (by omega);have z2:=qeG (ins:=ins++xQ r ins.length) (by rw[qAI];omega) 13 r.length 0 f;simp only[qb,qO,qM,vp,vo,qU,qAM,cond_true,qN,qV,qW,qD,qm,qR,vm,z1,z2,qc]
    refine⟨_,rfl,?_⟩;rw[qA8]
  have b3:(t.kind==(7:Int))=false:=by simp[h7]
  have z:=qeG hi 7 0 0 t;rw[b3,qaW h2 h9 h7];simp only[qb,qO,qM,vp,vo,qU,qAM,cond_true,cond_false,qN,qV,qW,qD,qm,qR,vm,z];exact⟨_,rfl,rfl⟩
theorem qwU(l:List InsA)(n:Nat)(hn:n=l.length)(o a b:Int):qAG (qAB n (qd l)) [[AV.int .i64 o,.int .i64 a,.int .i64 b,.int .i64 0,.int .i64 0,.str [],.sl []]]=qd (l++[iz o a b]):=by
 subst hn;rw[qAE (by rw[qu];exact qAA _),yR];show qd l++_=qd l++[InsA.row _];rw[InsA.row,Tm.cells_mk,vj]
theorem catN(l m:List InsA)(n:Nat)(hn:n=l.length):qAG (qAB n (qd l)) (qd m)=qd (l++m):=by
 subst hn;rw[qAE (by rw[qu];exact qAA _),yR];rfl
theorem qa2(l:List InsA):qAB l.length (qAO 0 (qd l))=qd l:=by
 rw[qA4,qAE (by rw[qu];exact qAA _)]
theorem qkS{n:Nat}(h:n<=1099511627776):qo n 80=true:=zv h
theorem quN(o:Int){a b:Tm}{r:List Tm}(ha:qaQ a)(hb:qaQ b)(p:Nat)(hw:p+(wL (a::b::r)+2)<1099511627776):
  EVo (EV cfg) 119 [.int .i64 o,.sl (qa (a::b::r)),.int .i64 (p:Int)]=some (ownI (yZ o (a::b::r) p)):=by
 apply Gets.get;refine qs2 _ _ _ ?_;rw[qA,qA]at hw;have la:=xi a p;have lb:=xi b (p+(qp a p).length+1);have g0:qAu (qa (a::b::r)) 0=some a.cells:=by rw[qK];rfl
 have g1:qAu (qa (a::b::r)) 1=some b.cells:=by rw[qK,qK];rfl
 have e1:qi 0 ((qa (a::b::r)).length:Int)=true:=by simp<;>omega
 have e2:qi 1 ((qa (a::b::r)).length:Int)=true:=by simp<;>omega
 have z1:=ha p (by omega);have z2:=hb (p+(qp a p).length+1) (by omega);have ew:qAH .i64 ((p:Int)+(((qp a p).length+1:Nat):Int))=((p+(qp a p).length+1:Nat):Int):=by rw[vE (by omega) (by omega)];omega
 rw[qcm];generalize hxx:qp a p=x at *;generalize hyy:qp b (p+x.length+1)=y at *;have ew2:qAH .i64 ((p:Int)+((x.length+1+y.length+1:Nat):Int))=((p+x.length+1+y.length+1:Nat):Int):=by rw[vE (by omega) (by omega)];omega
 have c1:(qAz 7 7&&qAF (0+x.length) (qd x).length&&qo (x.length+1) 80)=true:=by
  rw[nble,qu,qBh (by omega),qkS (by omega)];rfl
 have c2:(qAz 7 7&&qAF (0+y.length) (qd y).length)=true:=by
  rw[nble,qu,qBh (by omega)];rfl
 have c3:(qAz 7 7&&qAF (0+(x.length+1)) (qd (x++[iz o 0 0])).length&&qo (x.length+1+y.length) 80)=true:=by
  rw[nble,qu,qBh (by simp),qkS (by omega)];rfl
 have c4:(qAz 7 7&&qAF (0+(x.length+1+y.length)) (qd (x++[iz o 0 0]++y)).length&&qo (x.length+1+y.length+1) 80)=true:=by
  rw[nble,qu,qBh (by simp;omega),qkS (by omega)];rfl
 have c5:(qAz 7 7&&qe 0 (x.length:Int)&&qi (x.length:Int) ((x.length+1+y.length+1:Nat):Int))=true:=by
  rw[qI,q8,qBh (by omega)];rfl
 have s1:=qwU x x.length rfl o 0 0;rw[qAE (by rw[qu];exact qAA _)]at s1;have s2:=catN (x++[iz o 0 0]) y (x.length+1) (by simp);have s3:=qwU (x++[iz o 0 0]++y) (x.length+1+y.length) (by simp;omega) 17 0 0;have ly:(qd y).length=y.length:=qu y;rw[ly]at c2;rw[g0];simp only[e1,qb,cond_true,qv,show qAz 4 4=true from rfl,qG,qF,show qAF 4 4=true from rfl,q9,z1,xh]
 rw[c1];simp only[e2,g1,qb,cond_true,qv,show qAz 4 4=true from rfl,qG,qF,show qAF 4 4=true from rfl,q9,ew,z2,xh,qa2,s1,s2,s3,ly,c2,c3,c4,c5];have e6:x++[iz o 0 0]++y++[iz 17 0 0]=x++iz o 0 0::(y++[iz 17 0 0]):=by simp
 rw[e6,qAS,qA5,qdI];simp only[qb,InsA.row_len,show qAF 3 7=true from rfl,cond_true,ew2];have e7:∀n:Int,qAG (qAG (qAB 2 (iz o 0 0).row) [AV.int .i64 n]) (qAO 3 (iz o 0 0).row)=(iz o 0 n).row:=λn=>rfl
 rw[e7,qdH];refine⟨_,rfl,?_⟩;rw[qcM];show OV.own _ _ _ _=OV.own _ _ _ _
 congr 1
 simp;omega
theorem rowZ(o a b:Int):([AV.int .i64 o,.int .i64 a,.int .i64 b,.int .i64 0,.int .i64 0,.str [],.sl []]:List AV)=(iz o a b).row:=by rw[InsA.row,Tm.cells_mk,vj]
theorem rowT(o a b:Int)(t:Tm):([AV.int .i64 o,.int .i64 a,.int .i64 b,.int .i64 t.kind,.int .i64 t.num,.str t.str,.sl (qa t.subs)]:List AV)=(⟨o,a,b,t⟩:InsA).row:=by rw[InsA.row,Tm.cells_eq]
theorem own1(x:InsA):OV.own 7 [x.row] 0 1=ownI [x]:=rfl
theorem app1(l:List InsA)(x:InsA):qAG (qd l) [x.row]=qd (l++[x]):=by rw[yR];rfl
theorem qmA{V:List Int}:∀(n:Nat) (t:Tm),t.w<=n->isG V t=true->qaQ t:=by
 intro n
 induction n with
 |zero=>intro t h;have:=t.w_eq;omega
 |succ n ih=>
  intro t h hg p hw;have hwe:=t.w_eq;apply Gets.get;rw[Tm.av,Tm.cells_eq];refine qs6 _ _ _ _ _ ?_;unfold zr7 zr8 zr9 zr10 zr11 zr14 zr15 zr12 zr13 zr6 zr1 zr2 zr4 zr5 zr3 zr0;have hv:=qbj (t:=t) (by omega);have hcond:∀l:List InsA,l.length+1<1099511627776->(qAz 7 7&&qAF (0+l.length) (qd l).length&&qo (l.length+1) 80)=true:=by
   intro l hl;rw[nble,qu,qBh (by omega),qkS (by omega)];rfl
  simp only[rowZ,rowT,own1,q9,hv]
  by_cases h2:t.kind=2
  ·have b1:(t.kind==(2:Int))=true:=by simp[h2]
   have b9:(t.kind==(9:Int))=false:=by simp[h2]
   have b7:(t.kind != (7:Int))=true:=by simp[h2]
   rw[qbJ h2];cases hvt:varT t with
   |some x=>
    simp only[varR,Option.isSome_some,Option.getD_some,qb,qS,qD,qm,qk,qR,cond_true];exact⟨_,rfl,rfl⟩
   |none=>
    simp only[varR,Option.isSome_none,Option.getD_none,qb,qS,qD,qm,qk,qR,cond_true,cond_false,b1,b9,b7]
    by_cases s1:t.str=[36,95]
    ·have c2:(t.str==[36,95])=true:=by simp[s1]
     rw[c2,qBj s1];exact⟨_,rfl,rfl⟩
    have c2:(t.str==[36,95])=false:=by simp[s1]
    rw[c2,qBk s1,cond_false]
    by_cases s2:t.str=[36,36]
    ·have c3:(t.str==[36,36])=true:=by simp[s2]
     rw[c3,qBj s2];exact⟨_,rfl,rfl⟩
    have c3:(t.str==[36,36])=false:=by simp[s2]
    rw[c3,qBk s2];exact⟨_,rfl,rfl⟩
  have hvn:varT t=none:=by unfold varT;rw[qBk (λh=>h2 h.1)]
  have b1:(t.kind==(2:Int))=false:=by simp[h2]
  rw[hvn];simp only[varR,Option.isSome_none,Option.getD_none,qb,qS,qD,qm,qk,qR,cond_false,b1]
  by_cases h9:t.kind=9
  ·have b2:(t.kind==(9:Int))=true:=by simp[h9]
   rw[qfn h9]at hg;have hx:∀x∈t.subs,qaQ x:=λx hx=>ih x (by have:=vV hx;omega) (qbf hg x hx)
   have lm:=qbR t.subs p;have z1:=qg0 hx p (by omega);rw[b2,qbI h9];simp only[z1,qb,xh,cond_true,qa2];rw[hcond _ (by omega),cond_true,app1];exact⟨_,rfl,by simp⟩
  have b2:(t.kind==(9:Int))=false:=by simp[h9]
  rw[b2,cond_false]
  by_cases h7:t.kind=7
  ·have b3:(t.kind != (7:Int))=false:=by simp[h7]
   rw[b3,cond_false];cases hl:t.subs with
   |nil=>rw[qeB h7 hl]at hg;exact absurd hg (by simp)
   |cons f r=>
    rw[qeA h7 hl]at hg;rw[hl,qA]at hwe;have hfe:=f.w_eq;have g0:qAu (qa (f::r)) 0=some f.cells:=by rw[qK];rfl
    have e1:qi 0 ((qa (f::r)).length:Int)=true:=by simp<;>omega
    have e2:qe 1 ((qa (f::r)).length:Int)=true:=by simp<;>omega
    have e3:qAB ((qa (f::r)).length - 1) (qAO 1 (qa (f::r)))=qa r:=by
     rw[qK];show qAB (qa r).length (qa r)=qa r;exact qAE (qAA _)
    have hrl:r.length<1099511627776:=by have:=xw r;omega
    have e4:qAH .i64 (((qa (f::r)).length:Int) - 1)=(r.length:Int):=by rw[vE (by simp<;>omega) (by simp<;>omega)];simp
    simp only[e1,e2,e3,e4,g0,qb,cond_true,qv,show qAz 4 4=true from rfl,qG,qF,show qAF 4 4=true from rfl,qan,rowT,own1];rw[qct h7 hl]
    by_cases f7:f.kind=7
    ·have b4:(f.kind==(7:Int))=true:=by simp[f7]
     rw[qBj f7,qAw]at hg;have hx:∀x∈f.subs,qaQ x:=λx hx=>ih x (by have:=vV hx;omega) (qbf hg.2 x hx)
     have lm:=qbR f.subs p;have z1:=qg0 hx p (by omega);rw[b4,qBj f7];simp only[z1,qb,xh,cond_true,qa2,qc];rw[hcond _ (by omega),cond_true,app1];exact⟨_,rfl,by simp⟩
    have b4:(f.kind==(7:Int))=false:=by simp[f7]
    rw[b4,qBk f7,cond_false];rw[qBk f7]at hg;have f2:f.kind=2:=by
     by_cases f2:f.kind=2
     ·exact f2
     ·rw[qBk f2]at hg;exact absurd hg (by simp)
    rw[qBj f2]at hg
    by_cases s1:f.str=qcw
    ·have b5:(f.str==[99,111,110,115,116])=true:=by simp[s1,qcw]
     rw[qBj (show f.str=[99,111,110,115,116]from s1)]at hg;rw[b5,qBj s1,cond_true]
     match r,hg with
     |[c],_=>
      have g1:qAu (qa [f,c]) 1=some c.cells:=by rw[qK,qK];rfl
      have e5:qi 1 ((qa [f,c]).length:Int)=true:=by simp<;>omega
      simp only[g1,e5,qb,cond_true,qv,show qAz 4 4=true from rfl,qG,qF,show qAF 4 4=true from rfl,rowT,own1];exact⟨_,rfl,by rw[qbL]⟩
    have b5:(f.str==[99,111,110,115,116])=false:=by simpa [qcw]using s1
    rw[qBk (show ¬f.str=[99,111,110,115,116]from s1),qAw]at hg;rw[b5,qBk s1,cond_false];have hx:∀x∈r,qaQ x:=λx hx=>ih x (by have:=vV hx;omega) (qbf hg.2 x hx)
    have hz:(f.str=andS∨f.str=orS)->∀o:Int,EVo (EV cfg) 119 [.int .i64 o,.sl (qa r),.int .i64 (p:Int)]=some (ownI (yZ o r p)):=by
     intro hs o;have h2r:r.length=2:=by
      have h0:=hg.1;rcases hs with hs|hs<;>· rw[hs]at h0;have h0:(r.length:Int)=2:=(by simpa [opsG,qbu,qag,andS,orS]using h0);omega
     match r,h2r with
     |[a,b],_=>
      have hfs:1<=f.str.length:=by rcases hs with hs|hs<;>· rw[hs];decide
      exact quN o (hx a (by simp)) (hx b (by simp)) p (by simp only[qA,xu]at hwe⊢;omega)
    by_cases s2:f.str=andS
    ·have b6:(f.str==[97,110,100,97,108,115,111])=true:=by simp[s2,andS]
     rw[b6,qBj s2];simp only[qb,xh,cond_true,hz (Or.inl s2)];exact⟨_,rfl,rfl⟩
    have b6:(f.str==[97,110,100,97,108,115,111])=false:=by simpa [andS]using s2
    rw[b6,qBk s2,cond_false]
    by_cases s3:f.str=orS
    ·have b7:(f.str==[111,114,101,108,115,101])=true:=by simp[s3,orS]
     rw[b7,qBj s3];simp only[qb,xh,cond_true,hz (Or.inr s3)];exact⟨_,rfl,rfl⟩
    have b7:(f.str==[111,114,101,108,115,101])=false:=by simpa [orS]using s3
    rw[b7,qBk s3,cond_false];have lm:=qbR r p;have z1:=qg0 hx p (by omega);simp only[z1,qb,xh,qa2];rw[hcond _ (by omega),cond_true,app1];exact⟨_,rfl,by simp⟩
  have b3:(t.kind != (7:Int))=true:=by simp[h7]
  rw[b3,qaW h2 h9 h7];exact⟨_,rfl,rfl⟩
def qwB:Den:=evC cfg (EV cfg) 110 none 0 (sub (qg Tryz.f110) [1,1,1,1,1,1,1,1,0,1,0,0])
def qwM:Ex×List AV×AH->Option (OV×AV):=kAft (Cfg.keepOut cfg 110 14) (kRun cfg (EV cfg) (kfN cfg 6) 110 none 0 (qff cfg (Cfg.lift cfg 110 0) Tryz.f110.results.toList) ([.block 0,.seq (sub (qg Tryz.f110) [1,1,1,1,1,1,1,1,1])]))
def qpG:List AV×AH->Option (OV×AV):=λp=>kOpt (LOOP 0 (some [1,2,8,9]) ([(8,7)]) qwB p) qwM
def qwA:Den:=evC cfg (EV cfg) 111 none 1 (sub (qg Tryz.f111) [1,0,1,0,0])
def qwL:Ex×List AV×AH->Option (MV×List (List AV)):=kAft (Cfg.keepOut cfg 111 (qn (sub (qg Tryz.f111) [1,0,1,0,0]))) (x9 0 (kSeq (fun(fr:List AV) (H:AH)=>zu (Cfg.cut cfg 111 (qn (sub (qg Tryz.f111) [1,1]))) fr H fun(fr:List AV) (H:AH)=>vM cfg (EV cfg) (kfN cfg 6) 111 none 1 (sub (qg Tryz.f111) [1,1]) fr H (qnB cfg 7 (Cfg.lift cfg 111 0) (Array.toList (Func.results Tryz.f111)))) (qnB cfg 7 (Cfg.lift cfg 111 0) (Array.toList (Func.results Tryz.f111)))))
def qwu:List AV×AH->Option (MV×List (List AV)):=fun(p:List AV×AH)=>kOpt (LOOP 1 (some [0,1,5]) [] qwA p) qwL
def qx3:Den:=evC cfg (EV cfg) 60 none 0 (sub (qg Tryz.f60) [1,1,0,1,0,0])
def qyn:Ex×List AV×AH->Option OV:=kAft (Cfg.keepOut cfg 60 3) (kRun cfg (EV cfg) (kfN cfg 6) 60 none 0 (qky cfg (Cfg.lift cfg 60 0) Tryz.f60.results.toList) ([.block 0,.seq (sub (qg Tryz.f60) [1,1,1])]))
def qrA:List AV×AH->Option OV:=λp=>kOpt (LOOP 0 (some [1,2,5,7]) ([(5,7)]) qx3 p) qyn
def qx2:Den:=evC cfg (EV cfg) 60 none 0 (sub (qg Tryz.f60) [1,1,1,1,1,0,1,0,0])
def qym:Ex×List AV×AH->Option OV:=kAft (Cfg.keepOut cfg 60 10) (kRun cfg (EV cfg) (kfN cfg 6) 60 none 0 (qky cfg (Cfg.lift cfg 60 0) Tryz.f60.results.toList) ([.block 2,.seq (sub (qg Tryz.f60) [1,1,1,1,1,1])]))
def qxK:List AV×AH->Option OV:=λp=>kOpt (LOOP 0 (some [1,2,5,8,9]) ([(5,7)]) qx2 p) qym
abbrev xK(v1:Rz)(nv8:Nat)(v9 c0_0 c0_1:Int)(c0_2:Bz)(c0_3 h1:Rz):Option (OV×AV):=qpG (((fx 93 [(1,.sl v1),(2,.ptr 0 0 0),(8,.ms 1 0 nv8),(9,.int .i64 v9)]):List AV),([.rows false 4 [[.int .i64 c0_0,.int .i64 c0_1,.str c0_2,.sl c0_3]],.rows true 7 h1]:AH))
abbrev zA(nv8:Nat)(v9 c0_0 c0_1:Int)(c0_2:Bz)(c0_3 h1:Rz):Option (OV×AV):=qpG (((fx 93 [(1,.nilS),(2,.ptr 0 0 0),(8,.ms 1 0 nv8),(9,.int .i64 v9)]):List AV),([.rows false 4 [[.int .i64 c0_0,.int .i64 c0_1,.str c0_2,.sl c0_3]],.rows true 7 h1]:AH))
abbrev qa9(nn:Nat)(p v5:Int)(h0:Rz):Option (MV×List (List AV)):=qwu (((fx 42 [(0,.ms 0 0 nn),(1,.int .i64 p),(5,.int .i64 v5)]):List AV),([.rows true 7 h0]:AH))
abbrev qxd(p:Int)(nv5:Nat)(v7 c0_0 c0_1:Int)(c0_2:Bz)(c0_3 c0_4 c0_5 h1:Rz):Option (OV):=qrA (((fx 87 [(1,.int .i64 p),(2,.ptr 0 0 0),(5,.ms 1 0 nv5),(7,.int .i64 v7)]):List AV),([.rows false 6 [[.int .i64 c0_0,.int .i64 c0_1,.str c0_2,.sl c0_3,.sl c0_4,.sl c0_5]],.rows true 7 h1]:AH))
abbrev qc8(p:Int)(sz ov5 nv5:Nat)(v7 c0_0 c0_1:Int)(c0_2:Bz)(c0_3 c0_4 c0_5 h1:Rz):Option (OV):=qrA (((fx 87 [(1,.int .i64 p),(2,.ptr 0 0 0),(5,.ms 1 ov5 nv5),(7,.int .i64 v7)]):List AV),([.rows false 6 [[.int .i64 c0_0,.int .i64 c0_1,.str c0_2,.sl c0_3,.sl c0_4,.sl c0_5]],.rows true sz h1]:AH))
abbrev zC(p:Int)(sz nv5 nv5':Nat)(v9 c0_0 c0_1:Int)(c0_2:Bz)(c0_3 c0_4 c0_5 h1:Rz):Option (OV):=qxK (((fx 87 [(1,.int .i64 p),(2,.ptr 0 0 0),(5,.ms 1 0 nv5'),(8,.int .i64 (↑nv5:Int)),(9,.int .i64 v9)]):List AV),([.rows false 6 [[.int .i64 c0_0,.int .i64 c0_1,.str c0_2,.sl c0_3,.sl c0_4,.sl c0_5]],.rows true sz h1]:AH))
abbrev zu4(n_1:Int)(v:Rz):Option (OV×AV):=some (OV.own 7 [[AV.int .i64 3,.int .i64 n_1,.int .i64 0,.int .i64 0,.int .i64 0,.str [],.sl []]] 0 1,.sl (qAB (0+qAt v+1) (qAG (qAB (0+qAt v) v) [[AV.int .i64 n_1]])))
abbrev zu3(v:Rz)(n_1:Int):Option (OV×AV):=bif qAF (0+(0+qAt v+1)) (qAt (qAG (qAB (0+qAt v) v) [[AV.int .i64 n_1]]))&&true then zu4 n_1 v else none
abbrev zu2(v:Rz)(n_1:Int):Option (OV×AV):=bif qAF (0+(0+qAt v)) (qAt v)&&qo (0+qAt v+1) 8 then zu3 v n_1 else none
abbrev zu1(v:Rz)(n_1:Int):Option (OV×AV):=bif qo (0+qAt v) 8 then zu2 v n_1 else none
abbrev zu0(v:Rz)(n_1:Int):Option (OV×AV):=bif vq 1 v then zu1 v n_1 else none
abbrev zu7(k n:Int)(s:Bz)(l v:Rz):Option (OV×AV):=some (OV.own 7 [[AV.int .i64 6,.int .i64 0,.int .i64 0,.int .i64 k,.int .i64 n,.str s,.sl l]] 0 1,.sl v)
abbrev zu9(v:Rz)(k n:Int)(s:Bz)(l:Rz):Option (OV×AV):=xK v 1 0 k n s l [[AV.int .i64 1,.int .i64 (l.length:Int),.int .i64 (0:Int),.int .i64 0,.int .i64 0,.str [],.sl []]]
abbrev zu10(v:Rz)(k n:Int)(s:Bz)(l:Rz):Option (OV×AV):=xK v 1 0 k n s l [[AV.int .i64 2,.int .i64 0,.int .i64 0,.int .i64 (0:Int),.int .i64 0,.str [],.sl []]]
abbrev zu8(k:Int)(v:Rz)(n:Int)(s:Bz)(l:Rz):Option (OV×AV):=bif k==7 then zu9 v k n s l else zu10 v k n s l
abbrev zu6(k n:Int)(s:Bz)(l v:Rz):Option (OV×AV):=bif k != 9 then zu7 k n s l v else zu8 k v n s l
abbrev zu5(k n:Int)(s:Bz)(l v:Rz):Option (OV×AV):=bif k != 7 then zu6 k n s l v else zu8 k v n s l
abbrev zu11(k:Int)(v:Rz)(n:Int)(s:Bz)(l:Rz):Option (OV×AV):=bif k==7 then xK v 1 0 k n s l [[AV.int .i64 (1:Int),.int .i64 (l.length:Int),.int .i64 0,.int .i64 0,.int .i64 0,.str [],.sl []]]else xK v 1 0 k n s l [[AV.int .i64 2,.int .i64 0,.int .i64 0,.int .i64 0,.int .i64 0,.str [],.sl []]]
theorem qs3(k n:Int)(s:Bz)(l v:Rz){P:OV×AV->Prop}(h:Gets (kOpt (EVs (EV cfg) 117 [.agg [.int .i64 k,.int .i64 n,.str s,.sl l]]) λv_1=>kTup v_1 λcs=>qf cs λc cs=>kInt .i64 c λn_1=>qf cs λc cs=>qJ c λb=>kNil cs (bif b then kOpt (EVs (EV cfg) 171 [.sl v,.int .i64 n_1]) λv_2=>qJ v_2 λb_1=>bif b_1 then some (OV.own 7 [[AV.int .i64 4,.int .i64 n_1,.int .i64 0,.int .i64 0,.int .i64 0,.str [],.sl []]] 0 1,.sl v)else bif b then zu0 v n_1 else bif k==2 then bif s==[(95:UInt8)]then some (OV.own 7 [[AV.int .i64 5,.int .i64 0,.int .i64 0,.int .i64 0,.int .i64 0,.str [],.sl []]] 0 1,.sl v)else zu5 k n s l v else zu5 k n s l v else bif b then zu0 v n_1 else bif k==2 then bif s==[(95:UInt8)]then some (OV.own 7 [[AV.int .i64 5,.int .i64 0,.int .i64 0,.int .i64 0,.int .i64 0,.str [],.sl []]] 0 1,.sl v)else bif k != 7 then bif k != 9 then zu7 k n s l v else bif k==7 then xK v 1 0 k n s l [[AV.int .i64 1,.int .i64 (l.length:Int),.int .i64 0,.int .i64 0,.int .i64 0,.str [],.sl []]]else xK v 1 0 k n s l [[AV.int .i64 (2:Int),.int .i64 0,.int .i64 0,.int .i64 0,.int .i64 0,.str [],.sl []]]else zu11 k v n s l else bif k != 7 then bif k != 9 then zu7 k n s l v else zu11 k v n s l else bif k==7 then xK v 1 0 k n s l [[AV.int .i64 1,.int .i64 (l.length:Int),.int .i64 0,.int .i64 0,.int .i64 0,.str [],.sl []]]else xK v 1 0 k n s l [[AV.int .i64 2,.int .i64 0,.int .i64 0,.int .i64 0,.int .i64 0,.str [],.sl []]])) P):Gets (EVq (EV cfg) 110 [.agg [.int .i64 k,.int .i64 n,.str s,.sl l],.sl v]) P:=
  gE (λ_=>funQ rfl rfl Tryz.func110 rfl) (by kernel_rfl) h
abbrev zu13(n_1:Int):Option (OV×AV):=some (OV.own 7 [[AV.int .i64 3,.int .i64 n_1,.int .i64 0,.int .i64 0,.int .i64 0,.str [],.sl []]] 0 1,.sl [[AV.int .i64 n_1]])
abbrev zu12(n_1:Int):Option (OV×AV):=bif qo 1 8 then zu13 n_1 else none
abbrev zu14(k n:Int)(s:Bz)(l:Rz):Option (OV×AV):=some (OV.own 7 [[AV.int .i64 6,.int .i64 0,.int .i64 0,.int .i64 k,.int .i64 n,.str s,.sl l]] 0 1,.sl [])
abbrev zu15(k n:Int)(s:Bz)(l:Rz):Option (OV×AV):=zA 1 0 k n s l [[AV.int .i64 1,.int .i64 (↑ (qAt l):Int),.int .i64 0,.int .i64 0,.int .i64 0,.str [],.sl []]]
abbrev zu16(k n:Int)(s:Bz)(l:Rz):Option (OV×AV):=zA 1 0 k n s l [[AV.int .i64 2,.int .i64 0,.int .i64 0,.int .i64 0,.int .i64 0,.str [],.sl []]]
abbrev zu17(k n:Int)(s:Bz)(l:Rz):Option (OV×AV):=bif k==7 then zu15 k n s l else zA 1 0 k n s l [[AV.int .i64 2,.int .i64 0,.int .i64 (0:Int),.int .i64 0,.int .i64 0,.str [],.sl []]]
abbrev zu19(k n:Int)(s:Bz)(l:Rz):Option (OV×AV):=zA 1 0 k n s l [[AV.int .i64 1,.int .i64 (l.length:Int),.int .i64 0,.int .i64 0,.int .i64 0,.str [],.sl []]]
abbrev zu18(k n:Int)(s:Bz)(l:Rz):Option (OV×AV):=bif k==7 then zu19 k n s l else zu16 k n s l
abbrev zu20(k n:Int)(s:Bz)(l:Rz):Option (OV×AV):=bif k != 9 then zu14 k n s l else zu18 k n s l
theorem qqN(k n:Int)(s:Bz)(l:Rz){P:OV×AV->Prop}(h:Gets (kOpt (EVs (EV cfg) 117 [.agg [.int .i64 k,.int .i64 n,.str s,.sl l]]) λv=>kTup v λcs=>qf cs λc cs=>kInt .i64 c λn_1=>qf cs λc cs=>qJ c λb=>kNil cs (bif b then bif qz 0 [.sl [],.int .i64 n_1]then kOpt (EVs (EV cfg) 171 [.sl [],.int .i64 n_1]) λv=>qJ v λb_1=>bif b_1 then some (OV.own 7 [[AV.int .i64 4,.int .i64 n_1,.int .i64 0,.int .i64 0,.int .i64 0,.str [],.sl []]] 0 1,.sl [])else bif b then zu12 n_1 else bif k==2 then bif s==[(95:UInt8)]then some (OV.own 7 [[AV.int .i64 5,.int .i64 0,.int .i64 0,.int .i64 0,.int .i64 0,.str [],.sl []]] 0 1,.sl [])else bif k != 7 then bif k != 9 then zu14 k n s l else bif k==7 then zu15 k n s l else zu16 k n s l else zu17 k n s l else bif k != 7 then bif k != 9 then zu14 k n s l else zu17 k n s l else zu18 k n s l else none else bif b then zu12 n_1 else bif k==2 then bif s==[(95:UInt8)]then some (OV.own 7 [[AV.int .i64 (5:Int),.int .i64 0,.int .i64 0,.int .i64 0,.int .i64 0,.str [],.sl []]] 0 1,.sl [])else bif k != 7 then zu20 k n s l else zu18 k n s l else bif k != 7 then zu20 k n s l else bif k==7 then zu19 k n s l else zA 1 0 k n s l [[AV.int .i64 (2:Int),.int .i64 0,.int .i64 0,.int .i64 0,.int .i64 0,.str [],.sl []]])) P):Gets (EVq (EV cfg) 110 [.agg [.int .i64 k,.int .i64 n,.str s,.sl l],.nilS]) P:=
  gE (λ_=>funQ rfl rfl Tryz.func110 rfl) (by kernel_rfl) h
theorem qqO(rows:Rz)(nn:Nat)(p:Int){P:MV×List (List AV)->Prop}(h:Gets (qa9 nn p 0 rows) P):Gets (EVm (EV cfg) 111 [.ms 0 0 nn,.int .i64 p] 7 rows) P:=
  gE (λ_=>funM rfl rfl Tryz.func111 rfl) (by kernel_rfl) h
theorem qpg(hk hn:Int)(hw:Bz)(hl gs bs:Rz)(p:Int){P:OV->Prop}(h:Gets (kOpt (EVq (EV cfg) 110 [.agg [.int .i64 hk,.int .i64 hn,.str hw,.sl hl],.nilS]) λq=>kSl q.2 λrows=>kOwn q.1 (qxd p 0 0 hk hn hw hl gs bs []) λsz rs off len=>qc8 p sz off len 0 hk hn hw hl gs bs rs) P):Gets (EVo (EV cfg) 60 [.agg [.int .i64 hk,.int .i64 hn,.str hw,.sl hl,.sl gs,.sl bs],.int .i64 p]) P:=
  gE (λ_=>funO rfl rfl Tryz.func60 rfl) (by kernel_rfl) h
theorem qfF(v1:Rz)(nv8:Nat)(v9 c0_0 c0_1:Int)(c0_2:Bz)(c0_3 h1:Rz){P:OV×AV->Prop}(h:Gets (bif decide (v9<(c0_3.length:Int))then bif qe 0 v9&&qi v9 (c0_3.length:Int)then kOpt (qAu c0_3 (v9.toNat)) λrow=>bif qAz (qAt row) 4 then bif qAF 4 (qAt row)then kTmC (qAB 4 row) λn n_1 s rows=>(kOpt (EVq (EV cfg) 110 [.agg [.int .i64 n,.int .i64 n_1,.str s,.sl rows],.sl v1]) λq=>kSl q.2 λrows=>kOwn q.1 (bif qAF (0+nv8) (qAt h1)&&qo (nv8+0) 80 then xK rows (nv8+0) (qAH .i64 (v9+1)) c0_0 c0_1 c0_2 c0_3 (qAG (qAB nv8 h1) [])else none) λsz rs off len=>bif qAz sz 7&&qAF (off+len) (qAt rs)then bif qAF (0+nv8) (qAt h1)&&qo (nv8+qAt (qAB len (qAO off rs))) 80 then xK rows (nv8+qAt (qAB len (qAO off rs))) (qAH .i64 (v9+1)) c0_0 c0_1 c0_2 c0_3 (qAG (qAB nv8 h1) (qAB len (qAO off rs)))else none else none)else none else none else none else some (OV.own 7 h1 0 nv8,.sl v1)) P):Gets (xK v1 nv8 v9 c0_0 c0_1 c0_2 c0_3 h1) P:=
  gE (λ_=>qt (cfg:=cfg) (f:=110) (rd:=none) (bs:=0)) (by kernel_rfl) h
theorem qlv(nv8:Nat)(v9 c0_0 c0_1:Int)(c0_2:Bz)(c0_3 h1:Rz){P:OV×AV->Prop}(h:Gets (bif decide (v9<(c0_3.length:Int))then bif qe 0 v9&&qi v9 (c0_3.length:Int)then kOpt (qAu c0_3 (v9.toNat)) λrow=>bif qAz (qAt row) 4 then bif qAF 4 (qAt row)then kTmC (qAB 4 row) λn n_1 s rows=>(kOpt (EVq (EV cfg) 110 [.agg [.int .i64 n,.int .i64 n_1,.str s,.sl rows],.nilS]) λq=>kSl q.2 λrows=>kOwn q.1 (bif qAF (0+nv8) (qAt h1)&&qo (nv8+0) 80 then xK rows (nv8+0) (qAH .i64 (v9+1)) c0_0 c0_1 c0_2 c0_3 (qAG (qAB nv8 h1) [])else none) λsz rs off len=>bif qAz sz 7&&qAF (off+len) (qAt rs)then bif qAF (0+nv8) (qAt h1)&&qo (nv8+qAt (qAB len (qAO off rs))) 80 then xK rows (nv8+qAt (qAB len (qAO off rs))) (qAH .i64 (v9+1)) c0_0 c0_1 c0_2 c0_3 (qAG (qAB nv8 h1) (qAB len (qAO off rs)))else none else none)else none else none else none else some (OV.own 7 h1 0 nv8,.sl [])) P):Gets (zA nv8 v9 c0_0 c0_1 c0_2 c0_3 h1) P:=
  gE (λ_=>qt (cfg:=cfg) (f:=110) (rd:=none) (bs:=0)) (by kernel_rfl) h
abbrev zu24(nn:Nat)(p v5:Int)(h0:Rz)(row:List AV):Option (MV×List (List AV)):=qa9 nn p (qAH .i64 (v5+1)) (List.set h0 (0+v5.toNat) (qAG (qAG (qAB 2 row) [AV.int .i64 p]) (qAO 3 row)))
abbrev zu23(row:List AV)(nn:Nat)(p v5:Int)(h0:Rz):Option (MV×List (List AV)):=bif qAF 3 (qAt row)then zu24 nn p v5 h0 row else none
abbrev zu22(h0:Rz)(v5:Int)(nn:Nat)(p:Int):Option (MV×List (List AV)):=kOpt (qAu h0 (0+v5.toNat)) λrow=>zu23 row nn p v5 h0
abbrev zu21(v5:Int)(nn:Nat)(h0:Rz)(p:Int):Option (MV×List (List AV)):=bif qe 0 v5&&qi v5 (↑ nn:Int)then zu22 h0 v5 nn p else none
abbrev zu26(h0:Rz)(v5:Int)(nn:Nat)(p:Int):Option (MV×List (List AV)):=kOpt (qAu h0 (0+qAR v5)) λrow=>zu23 row nn p v5 h0
abbrev zu25(v5:Int)(nn:Nat)(h0:Rz)(p:Int):Option (MV×List (List AV)):=bif qe 0 v5&&qi v5 (↑ nn:Int)then zu26 h0 v5 nn p else none
abbrev zu28(h0:Rz)(v5:Int)(nn:Nat)(p:Int):Option (MV×List (List AV)):=kOpt (qAu h0 (0+qAR v5)) λrow=>bif qAF 2 (qAt row)then qa9 nn p (qAH .i64 (v5+1)) (List.set h0 (0+v5.toNat) (qAG (qAG (qAB 1 row) [AV.int .i64 p]) (qAO 2 row)))else none
abbrev zu27(v5:Int)(nn:Nat)(h0:Rz)(p:Int):Option (MV×List (List AV)):=bif qe 0 v5&&qi v5 (↑ nn:Int)then zu28 h0 v5 nn p else none
theorem qfE(nn:Nat)(p v5:Int)(h0:Rz){P:MV×List (List AV)->Prop}(h:Gets (bif decide (v5<(↑ nn:Int))then bif qe 0 v5&&qi v5 (↑ nn:Int)then kOpt (qAu h0 (0+v5.toNat)) λrow=>kOpt (qAu row 0) λv=>kInt .i64 v λn=>bif n==1 then zu21 v5 nn h0 p else bif n==2 then zu21 v5 nn h0 p else bif n==4 then zu21 v5 nn h0 p else bif n==6 then zu25 v5 nn h0 p else bif n==14 then zu25 v5 nn h0 p else bif n==11 then zu25 v5 nn h0 p else bif n==12 then zu25 v5 nn h0 p else bif n==10 then zu25 v5 nn h0 p else bif n==13 then zu25 v5 nn h0 p else bif n==17 then zu25 v5 nn h0 p else bif n==15 then zu27 v5 nn h0 p else bif n==16 then zu27 v5 nn h0 p else qa9 nn p (qAH .i64 (v5+1)) h0 else none else some (MV.sl 0 nn,h0)) P):Gets (qa9 nn p v5 h0) P:=
  gE (λ_=>qt (cfg:=cfg) (f:=111) (rd:=none) (bs:=1)) (by kernel_rfl) h
theorem qfD(p:Int)(sz ov5 nv5:Nat)(v7 c0_0 c0_1:Int)(c0_2:Bz)(c0_3 c0_4 c0_5 h1:Rz){P:OV->Prop}(h:Gets (bif decide (v7<(c0_4.length:Int))then bif qe 0 v7&&qi v7 (c0_4.length:Int)then kOpt (qAu c0_4 (v7.toNat)) λrow=>bif qAz (qAt row) 4 then bif qAF 4 (qAt row)then kTmC (qAB 4 row) λn n_1 s rows=>(kOpt (EVo (EV cfg) 65 [.agg [.int .i64 n,.int .i64 n_1,.str s,.sl rows],.int .i64 (qAH .i64 (p+(↑ nv5:Int)))]) λo=>kOwn o (bif qAz sz 7&&qAF (ov5+nv5) (qAt h1)&&qo (nv5+0) 80 then bif qAz sz 7&&qAF (0+(nv5+0)) (qAt (qAG (qAB nv5 (qAO ov5 h1)) []))&&qo (nv5+0+1) 80 then qc8 p sz 0 (nv5+0+1) (qAH .i64 (v7+1)) c0_0 c0_1 c0_2 c0_3 c0_4 c0_5 (qAG (qAB (nv5+0) (qAG (qAB nv5 (qAO ov5 h1)) [])) [[AV.int .i64 14,.int .i64 0,.int .i64 0,.int .i64 0,.int .i64 0,.str [],.sl []]])else none else none) λsz_1 rs off len=>bif qAz sz_1 7&&qAF (off+len) (qAt rs)then bif qAz sz 7&&qAF (ov5+nv5) (qAt h1)&&qo (nv5+qAt (qAB len (qAO off rs))) 80 then bif qAz sz 7&&qAF (0+(nv5+qAt (qAB len (qAO off rs)))) (qAt (qAG (qAB nv5 (qAO ov5 h1)) (qAB len (qAO off rs))))&&qo (nv5+qAt (qAB len (qAO off rs))+1) 80 then qc8 p sz 0 (nv5+qAt (qAB len (qAO off rs))+1) (qAH .i64 (v7+1)) c0_0 c0_1 c0_2 c0_3 c0_4 c0_5 (qAG (qAB (nv5+qAt (qAB len (qAO off rs))) (qAG (qAB nv5 (qAO ov5 h1)) (qAB len (qAO off rs)))) [[AV.int .i64 14,.int .i64 0,.int .i64 0,.int .i64 0,.int .i64 0,.str [],.sl []]])else none else none else none)else none else none else none else bif qAz sz 7&&qAF (ov5+nv5) (qAt h1)&&qo (nv5+1) 80 then zC p sz nv5 (nv5+1) 0 c0_0 c0_1 c0_2 c0_3 c0_4 c0_5 (qAG (qAB nv5 (qAO ov5 h1)) [[AV.int .i64 18,.int .i64 0,.int .i64 0,.int .i64 0,.int .i64 0,.str [],.sl []]])else none) P):Gets (qc8 p sz ov5 nv5 v7 c0_0 c0_1 c0_2 c0_3 c0_4 c0_5 h1) P:=
  gE (λ_=>qt (cfg:=cfg) (f:=60) (rd:=none) (bs:=0)) (by kernel_rfl) h
theorem qfC(p:Int)(sz nv5 nv5':Nat)(v9 c0_0 c0_1:Int)(c0_2:Bz)(c0_3 c0_4 c0_5 h1:Rz){P:OV->Prop}(h:Gets (bif decide (v9<(c0_5.length:Int))then bif qe 0 v9&&qi v9 (c0_5.length:Int)then kOpt (qAu c0_5 (v9.toNat)) λrow=>bif qAz (qAt row) 4 then bif qAF 4 (qAt row)then kTmC (qAB 4 row) λn n_1 s rows=>(kOpt (EVo (EV cfg) 65 [.agg [.int .i64 n,.int .i64 n_1,.str s,.sl rows],.int .i64 (qAH .i64 (p+(↑ nv5':Int)))]) λo=>kOwn o (bif qAz sz 7&&qAF (0+nv5') (qAt h1)&&qo (nv5'+0) 80 then bif decide (v9<qAH .i64 ((c0_5.length:Int) - 1))then bif qAz sz 7&&qAF (0+(nv5'+0)) (qAt (qAG (qAB nv5' h1) []))&&qo (nv5'+0+1) 80 then zC p sz nv5 (nv5'+0+1) (qAH .i64 (v9+1)) c0_0 c0_1 c0_2 c0_3 c0_4 c0_5 (qAG (qAB (nv5'+0) (qAG (qAB nv5' h1) [])) [[AV.int .i64 19,.int .i64 0,.int .i64 0,.int .i64 0,.int .i64 0,.str [],.sl []]])else none else zC p sz nv5 (nv5'+0) (qAH .i64 (v9+1)) c0_0 c0_1 c0_2 c0_3 c0_4 c0_5 (qAG (qAB nv5' h1) [])else none) λsz_1 rs off len=>bif qAz sz_1 7&&qAF (off+len) (qAt rs)then bif qAz sz 7&&qAF (0+nv5') (qAt h1)&&qo (nv5'+qAt (qAB len (qAO off rs))) 80 then bif decide (v9<qAH .i64 ((c0_5.length:Int) - 1))then bif qAz sz 7&&qAF (0+(nv5'+qAt (qAB len (qAO off rs)))) (qAt (qAG (qAB nv5' h1) (qAB len (qAO off rs))))&&qo (nv5'+qAt (qAB len (qAO off rs))+1) 80 then zC p sz nv5 (nv5'+qAt (qAB len (qAO off rs))+1) (qAH .i64 (v9+1)) c0_0 c0_1 c0_2 c0_3 c0_4 c0_5 (qAG (qAB (nv5'+qAt (qAB len (qAO off rs))) (qAG (qAB nv5' h1) (qAB len (qAO off rs)))) [[AV.int .i64 19,.int .i64 0,.int .i64 0,.int .i64 0,.int .i64 0,.str [],.sl []]])else none else zC p sz nv5 (nv5'+qAt (qAB len (qAO off rs))) (qAH .i64 (v9+1)) c0_0 c0_1 c0_2 c0_3 c0_4 c0_5 (qAG (qAB nv5' h1) (qAB len (qAO off rs)))else none else none)else none else none else none else bif qAz sz 7&&qAF (0+nv5') (qAt h1)&&qo (nv5'+1) 80 then bif qe 0 (↑ nv5:Int)&&qe (↑ nv5:Int) (↑ (nv5'+1):Int)then bif qAz sz 7 then kOpt (EVm (EV cfg) 111 [.ms 0 0 (qAR (↑ nv5:Int) - 0),.int .i64 (qAH .i64 (p+(↑ (nv5'+1):Int)))] sz (qAG (qAB nv5' h1) [[AV.int .i64 20,.int .i64 0,.int .i64 0,.int .i64 0,.int .i64 0,.str [],.sl []]])) λq=>kMSl q.1 (some (OV.own sz q.2 0 (nv5'+1))) λoff len=>some (OV.own sz q.2 0 (nv5'+1))else none else none else none) P):Gets (zC p sz nv5 nv5' v9 c0_0 c0_1 c0_2 c0_3 c0_4 c0_5 h1) P:=
  gE (λ_=>qt (cfg:=cfg) (f:=60) (rd:=none) (bs:=0)) (by kernel_rfl) h
def qwF:Den:=evC cfg (EV cfg) 167 none 6 (sub (qg Tryz.f167) [1,1,1,1,0,1,0,0])
def qwQ:Ex×List AV×AH->Option (AV×AH):=kAft (Cfg.keepOut cfg 167 16) (kRun cfg (EV cfg) (kfN cfg 6) 167 none 6 (qhH cfg 5 (Cfg.lift cfg 167 0) Tryz.f167.results.toList) ([.block 1]))
def qwy:List AV×AH->Option (AV×AH):=λp=>kOpt (LOOP 6 (some [3,69,70,71]) ([]) qwF p) qwQ
abbrev qaj(l:Rz)(v71:Int)(m3:List (AV×AV))(nc4_0:Nat)(h6:Rz):Option (AV×AH):=qwy (((fx 79 [(3,.ptr 2 0 0),(69,.sl l),(70,.int .i64 (l.length:Int)),(71,.int .i64 v71)]):List AV),([.rows false 1 [[.mp 3]],.rows false 1 [[.ptr 4 0 0]],.rows false 1 [[.fn (Fn.func 167) [] [.ptr 0 0 0,.ptr 1 0 0,.ptr 2 0 0]]],.mp true m3,.rows false 1 [[.ms 6 0 nc4_0]],.dead,.rows true 7 h6]:AH))
theorem qte(ins:Rz)(k n:Int)(s:Bz)(l:Rz){P:AV×AH->Prop}(h:Gets (kOpt (EVj (EV cfg) 167 5 [.agg [.int .i64 k,.int .i64 n,.str s,.sl l],.ptr 0 0 0,.ptr 1 0 0,.ptr 2 0 0] [.rows false 1 [[AV.mp 3]],.rows false 1 [[.ptr 4 0 0]],.rows false 1 [[AV.fn (Fn.func 167) [] [.ptr 0 0 0,.ptr 1 0 0,.ptr 2 0 0]]],ABlk.mp true [],.rows false 1 [[.ms 5 0 (qAt ins)]],.rows true 7 ins]) λq=>qC q.2 λb bs=>qE b λd' n rs=>bif beqB false d'&&qAz n 1 then q7 rs λrow rest=>vw rest (qC bs λb bs=>qE b λd' n rs=>bif beqB false d'&&qAz n 1 then q7 rs λrow_1 rest=>vw rest (qC bs λb bs=>qE b λd' n rs=>bif beqB false d'&&qAz n 1 then q7 rs λrow_2 rest=>vw rest (qC bs λb bs=>kMpB b λd' es=>bif beqB true d' then qC bs λb bs=>qE b λd' n rs=>bif beqB false d'&&qAz n 1 then q7 rs λrow_3 rest=>vw rest (qC bs λb bs=>qE b λd' n rs=>bif beqB true d'&&qAz n 7 then vL bs (qf row λc cs=>kMpE c λid=>bif qAz id 3 then kNil cs (qf row_1 λc cs=>qkq c λid r off=>bif qAz id 4&&(qAz r 0&&qAz off 0)then kNil cs (qf row_2 λc cs=>bif AV.same c (AV.fn (Fn.func 167) [] [.ptr 0 0 0,.ptr 1 0 0,.ptr 2 0 0])then kNil cs (qf row_3 λc cs=>kMsE c λid off len=>bif qAz id 5&&(qAz off 0&&qAz len (qAt rs))then kNil cs (some (AV.tup [],[.rows false 1 [[.ms 1 0 (qAt rs)]],.rows true 7 rs]))else none)else none)else none)else none)else none)else none else none)else none)else none)else none) P):Gets (EVj (EV cfg) 104 1 [.ptr 0 0 0,.agg [.int .i64 k,.int .i64 n,.str s,.sl l]] ([ABlk.rows false (1:Nat) [[AV.ms (1:Nat) (0:Nat) (qAt ins)]],ABlk.rows true (7:Nat) ins]:AH)) P:=
  gE (λ_=>funJ rfl rfl Tryz.func104 rfl) (by kernel_rfl) h
abbrev zv2(l:Rz)(es:List (AV×AV))(n_1:Int)(rs:Rz):Option (AV×AH):=qaj l 0 (qAG es [(.int .i64 n_1,.bool true)]) (qAt rs) rs
abbrev zv4(es:List (AV×AV))(n_1:Int)(rs:Rz):Option (AV×AH):=some (AV.tup [],[.rows false 1 [[AV.mp 3]],.rows false 1 [[.ptr 4 0 0]],.rows false 1 [[AV.fn (Fn.func 167) [] [.ptr 0 0 0,.ptr 1 0 0,.ptr 2 0 0]]],ABlk.mp true (qAG es [(.int .i64 n_1,.bool true)]),.rows false 1 [[.ms 5 0 (qAt rs)]],.rows true 7 rs])
abbrev zv3(k:Int)(l:Rz)(es:List (AV×AV))(n_1:Int)(rs:Rz):Option (AV×AH):=bif k==9 then zv2 l es n_1 rs else zv4 es n_1 rs
abbrev zv1(k:Int)(l:Rz)(es:List (AV×AV))(n_1:Int)(rs:Rz):Option (AV×AH):=bif k==7 then zv2 l es n_1 rs else zv3 k l es n_1 rs
abbrev zv0(q:AV×AH)(k:Int)(l:Rz)(es:List (AV×AV))(n_1:Int)(rs:Rz):Option (AV×AH):=kInt .i64 q.1 λn=>zv1 k l es n_1 rs
abbrev zv5(l:Rz)(es:List (AV×AV))(i:Nat)(n_1:Int)(rs:Rz):Option (AV×AH):=qaj l 0 (List.set es i (.int .i64 n_1,.bool true)) (qAt rs) rs
abbrev zv7(es:List (AV×AV))(i:Nat)(n_1:Int)(rs:Rz):Option (AV×AH):=some (AV.tup [],[.rows false 1 [[AV.mp 3]],.rows false 1 [[.ptr 4 0 0]],.rows false 1 [[AV.fn (Fn.func 167) [] [.ptr 0 0 0,.ptr 1 0 0,.ptr 2 0 0]]],ABlk.mp true (List.set es i (.int .i64 n_1,.bool true)),.rows false 1 [[.ms 5 0 (qAt rs)]],.rows true 7 rs])
abbrev zv6(k:Int)(l:Rz)(es:List (AV×AV))(i:Nat)(n_1:Int)(rs:Rz):Option (AV×AH):=bif k==9 then zv5 l es i n_1 rs else zv7 es i n_1 rs
abbrev zv11(es:List (AV×AV))(rs:Rz):Option (AV×AH):=some (AV.tup [],[.rows false 1 [[AV.mp 3]],.rows false 1 [[.ptr 4 0 0]],.rows false 1 [[AV.fn (Fn.func 167) [] [.ptr 0 0 0,.ptr 1 0 0,.ptr 2 0 0]]],ABlk.mp true es,.rows false 1 [[.ms 5 0 (qAt rs)]],.rows true 7 rs])
abbrev zv10(k:Int)(l:Rz)(es:List (AV×AV))(rs:Rz):Option (AV×AH):=bif k==9 then qaj l 0 es (qAt rs) rs else zv11 es rs
abbrev zv9(k:Int)(l:Rz)(es:List (AV×AV))(rs:Rz):Option (AV×AH):=bif k==7 then qaj l 0 es (qAt rs) rs else zv10 k l es rs
abbrev zv8(q:AV×AH)(k:Int)(l:Rz)(es:List (AV×AV))(rs:Rz):Option (AV×AH):=kInt .i64 q.1 λn=>zv9 k l es rs
abbrev zv18(k:Int)(l:Rz)(es:List (AV×AV))(rs:Rz):Option (AV×AH):=bif k==(7:Int)then qaj l 0 es (qAt rs) rs else zv10 k l es rs
abbrev zv17(q:AV×AH)(k:Int)(l:Rz)(es:List (AV×AV))(rs:Rz):Option (AV×AH):=kInt .i64 q.1 λn=>zv18 k l es rs
abbrev zv16(rest:Rz)(bs:AH)(row:List AV)(q:AV×AH)(k:Int)(l:Rz)(es:List (AV×AV)):Option (AV×AH):=vw rest (qC bs λb bs=>qE b λd' n rs=>bif beqB true d'&&qAz n 7 then vL bs (qf row λc cs=>kMsE c λid off len=>bif qAz id 1&&(qAz off 0&&qAz len (qAt rs))then kNil cs (zv17 q k l es rs)else none)else none)
abbrev zv15(rs:Rz)(bs:AH)(q:AV×AH)(k:Int)(l:Rz)(es:List (AV×AV)):Option (AV×AH):=q7 rs λrow rest=>zv16 rest bs row q k l es
abbrev zv14(d':Bool)(n:Nat)(rs:Rz)(bs:AH)(q:AV×AH)(k:Int)(l:Rz)(es:List (AV×AV)):Option (AV×AH):=bif beqB false d'&&qAz n 1 then zv15 rs bs q k l es else none
abbrev zv13(b:ABlk)(bs:AH)(q:AV×AH)(k:Int)(l:Rz)(es:List (AV×AV)):Option (AV×AH):=qE b λd' n rs=>zv14 d' n rs bs q k l es
abbrev zv12(q:AV×AH)(k:Int)(l:Rz)(es:List (AV×AV)):Option (AV×AH):=qC q.2 λb bs=>zv13 b bs q k l es
abbrev zv28(k:Int)(l:Rz)(es:List (AV×AV))(i:Nat)(n_1:Int)(rs:Rz):Option (AV×AH):=bif k==(7:Int)then zv5 l es i n_1 rs else zv6 k l es i n_1 rs
abbrev zv27(q:AV×AH)(k:Int)(l:Rz)(es:List (AV×AV))(i:Nat)(n_1:Int)(rs:Rz):Option (AV×AH):=kInt .i64 q.1 λn=>zv28 k l es i n_1 rs
abbrev zv26(rest:Rz)(bs:AH)(row:List AV)(q:AV×AH)(k:Int)(l:Rz)(es:List (AV×AV))(i:Nat)(n_1:Int):Option (AV×AH):=vw rest (qC bs λb bs=>qE b λd' n rs=>bif beqB true d'&&qAz n 7 then vL bs (qf row λc cs=>kMsE c λid off len=>bif qAz id 1&&(qAz off 0&&qAz len (qAt rs))then kNil cs (zv27 q k l es i n_1 rs)else none)else none)
abbrev zv25(rs:Rz)(bs:AH)(q:AV×AH)(k:Int)(l:Rz)(es:List (AV×AV))(i:Nat)(n_1:Int):Option (AV×AH):=q7 rs λrow rest=>zv26 rest bs row q k l es i n_1
abbrev zv24(d':Bool)(n:Nat)(rs:Rz)(bs:AH)(q:AV×AH)(k:Int)(l:Rz)(es:List (AV×AV))(i:Nat)(n_1:Int):Option (AV×AH):=bif beqB false d'&&qAz n 1 then zv25 rs bs q k l es i n_1 else none
abbrev zv23(b:ABlk)(bs:AH)(q:AV×AH)(k:Int)(l:Rz)(es:List (AV×AV))(i:Nat)(n_1:Int):Option (AV×AH):=qE b λd' n rs=>zv24 d' n rs bs q k l es i n_1
abbrev zv22(q:AV×AH)(k:Int)(l:Rz)(es:List (AV×AV))(i:Nat)(n_1:Int):Option (AV×AH):=qC q.2 λb bs=>zv23 b bs q k l es i n_1
abbrev zv21(n_1:Int)(ins:Rz)(k:Int)(l:Rz)(es:List (AV×AV))(i:Nat):Option (AV×AH):=kOpt (EVj (EV cfg) 105 1 [.ptr 0 0 0,AV.agg [.int .i64 3,.int .i64 n_1,.int .i64 0,.int .i64 0,.int .i64 0,.str [],.sl []]] [.rows false 1 [[.ms 1 0 (qAt ins)]],.rows true 7 ins]) λq=>zv22 q k l es i n_1
abbrev zv20(r:Option (Nat×AV))(n_1:Int)(ins:Rz)(k:Int)(l:Rz)(es:List (AV×AV)):Option (AV×AH):=qbz r (kOpt (EVj (EV cfg) 105 1 [.ptr 0 0 0,AV.agg [.int .i64 3,.int .i64 n_1,.int .i64 0,.int .i64 0,.int .i64 0,.str [],.sl []]] [.rows false 1 [[.ms 1 0 (qAt ins)]],.rows true 7 ins]) λq=>qC q.2 λb bs=>qE b λd' n rs=>bif beqB false d'&&qAz n 1 then q7 rs λrow rest=>vw rest (qC bs λb bs=>qE b λd' n rs=>bif beqB true d'&&qAz n 7 then vL bs (qf row λc cs=>kMsE c λid off len=>bif qAz id 1&&(qAz off 0&&qAz len (qAt rs))then kNil cs (zv0 q k l es n_1 rs)else none)else none)else none) λi x=>zv21 n_1 ins k l es i
abbrev zv19(n_1:Int)(es:List (AV×AV))(ins:Rz)(k:Int)(l:Rz):Option (AV×AH):=kOpt (xW (TD.int .i64) (.int .i64 n_1) es 0) λr=>zv20 r n_1 ins k l es
abbrev zv34(rest:Rz)(bs:AH)(row:List AV)(q:AV×AH)(k:Int)(l:Rz)(es:List (AV×AV)):Option (AV×AH):=vw rest (qC bs λb bs=>qE b λd' n rs=>bif beqB true d'&&qAz n 7 then vL bs (qf row λc cs=>kMsE c λid off len=>bif qAz id 1&&(qAz off 0&&qAz len (qAt rs))then kNil cs (zv8 q k l es rs)else none)else none)
abbrev zv33(rs:Rz)(bs:AH)(q:AV×AH)(k:Int)(l:Rz)(es:List (AV×AV)):Option (AV×AH):=q7 rs λrow rest=>zv34 rest bs row q k l es
abbrev zv32(d':Bool)(n:Nat)(rs:Rz)(bs:AH)(q:AV×AH)(k:Int)(l:Rz)(es:List (AV×AV)):Option (AV×AH):=bif beqB false d'&&qAz n 1 then zv33 rs bs q k l es else none
abbrev zv31(b:ABlk)(bs:AH)(q:AV×AH)(k:Int)(l:Rz)(es:List (AV×AV)):Option (AV×AH):=qE b λd' n rs=>zv32 d' n rs bs q k l es
abbrev zv30(q:AV×AH)(k:Int)(l:Rz)(es:List (AV×AV)):Option (AV×AH):=qC q.2 λb bs=>zv31 b bs q k l es
abbrev zv29(ins:Rz)(k:Int)(l:Rz)(es:List (AV×AV)):Option (AV×AH):=kOpt (EVj (EV cfg) 105 1 [.ptr 0 0 0,AV.agg [.int .i64 5,.int .i64 (0:Int),.int .i64 0,.int .i64 0,.int .i64 0,.str [],.sl []]] [.rows false 1 [[.ms 1 0 (qAt ins)]],.rows true 7 ins]) λq=>zv30 q k l es
abbrev zv35(l ins:Rz)(k:Int)(es:List (AV×AV)):Option (AV×AH):=kOpt (EVj (EV cfg) 105 1 [.ptr 0 0 0,AV.agg [.int .i64 1,.int .i64 (l.length:Int),.int .i64 0,.int .i64 0,.int .i64 0,.str [],.sl []]] [.rows false 1 [[.ms 1 0 (qAt ins)]],.rows true 7 ins]) λq=>zv30 q k l es
abbrev zv36(ins:Rz)(k:Int)(l:Rz)(es:List (AV×AV)):Option (AV×AH):=kOpt (EVj (EV cfg) 105 1 [.ptr 0 0 0,AV.agg [.int .i64 2,.int .i64 0,.int .i64 0,.int .i64 0,.int .i64 0,.str [],.sl []]] [.rows false 1 [[.ms 1 0 (qAt ins)]],.rows true 7 ins]) λq=>zv30 q k l es
theorem qth(es:List (AV×AV))(ins:Rz)(k n:Int)(s:Bz)(l:Rz){P:AV×AH->Prop}(h:Gets (kOpt (EVs (EV cfg) 113 [.agg [.int .i64 k,.int .i64 n,.str s,.sl l]]) λv=>kTup v λcs=>qf cs λc cs=>kInt .i64 c λn_1=>qf cs λc cs=>qJ c λb=>kNil cs (bif b then kOpt (xW (TD.int .i64) (.int .i64 n_1) es 0) λr=>qbz r (bif b then kOpt (xW (TD.int .i64) (.int .i64 n_1) es 0) λr=>qbz r (kOpt (EVj (EV cfg) 105 1 [.ptr 0 0 0,AV.agg [.int .i64 3,.int .i64 n_1,.int .i64 0,.int .i64 0,.int .i64 0,.str [],.sl []]] [.rows false 1 [[.ms 1 0 (qAt ins)]],.rows true 7 ins]) λq=>qC q.2 λb bs=>qE b λd' n rs=>bif beqB false d'&&qAz n 1 then q7 rs λrow rest=>vw rest (qC bs λb bs=>qE b λd' n rs=>bif beqB true d'&&qAz n 7 then vL bs (qf row λc cs=>kMsE c λid off len=>bif qAz id 1&&(qAz off 0&&qAz len (qAt rs))then kNil cs (zv0 q k l es n_1 rs)else none)else none)else none) λi x=>kOpt (EVj (EV cfg) 105 1 [.ptr 0 0 0,AV.agg [.int .i64 3,.int .i64 n_1,.int .i64 0,.int .i64 0,.int .i64 0,.str [],.sl []]] [.rows false 1 [[.ms 1 0 (qAt ins)]],.rows true 7 ins]) λq=>qC q.2 λb bs=>qE b λd' n rs=>bif beqB false d'&&qAz n 1 then q7 rs λrow rest=>vw rest (qC bs λb bs=>qE b λd' n rs=>bif beqB true d'&&qAz n 7 then vL bs (qf row λc cs=>kMsE c λid off len=>bif qAz id 1&&(qAz off 0&&qAz len (qAt rs))then kNil cs (kInt .i64 q.1 λn=>bif k==7 then zv5 l es i n_1 rs else zv6 k l es i n_1 rs)else none)else none)else none else kOpt (EVs (EV cfg) 168 [.agg [.int .i64 k,.int .i64 n,.str s,.sl l]]) λv=>qJ v λb=>bif b then kOpt (EVj (EV cfg) 105 1 [.ptr 0 0 0,AV.agg [.int .i64 5,.int .i64 0,.int .i64 0,.int .i64 0,.int .i64 0,.str [],.sl []]] [.rows false 1 [[.ms 1 0 (qAt ins)]],.rows true 7 ins]) λq=>qC q.2 λb bs=>qE b λd' n rs=>bif beqB false d'&&qAz n 1 then q7 rs λrow rest=>vw rest (qC bs λb bs=>qE b λd' n rs=>bif beqB true d'&&qAz n 7 then vL bs (qf row λc cs=>kMsE c λid off len=>bif qAz id 1&&(qAz off 0&&qAz len (qAt rs))then kNil cs (zv8 q k l es rs)else none)else none)else none else bif k==7 then kOpt (EVj (EV cfg) 105 1 [.ptr 0 0 0,AV.agg [.int .i64 1,.int .i64 (l.length:Int),.int .i64 0,.int .i64 0,.int .i64 0,.str [],.sl []]] [.rows false 1 [[.ms 1 0 (qAt ins)]],.rows true 7 ins]) λq=>qC q.2 λb bs=>qE b λd' n rs=>bif beqB false d'&&qAz n 1 then q7 rs λrow rest=>vw rest (qC bs λb bs=>qE b λd' n rs=>bif beqB true d'&&qAz n 7 then vL bs (qf row λc cs=>kMsE c λid off len=>bif qAz id 1&&(qAz off 0&&qAz len (qAt rs))then kNil cs (zv8 q k l es rs)else none)else none)else none else bif k==9 then kOpt (EVj (EV cfg) 105 1 [.ptr 0 0 0,AV.agg [.int .i64 2,.int .i64 0,.int .i64 0,.int .i64 0,.int .i64 0,.str [],.sl []]] [.rows false 1 [[.ms 1 0 (qAt ins)]],.rows true 7 ins]) λq=>qC q.2 λb bs=>qE b λd' n rs=>bif beqB false d'&&qAz n 1 then q7 rs λrow rest=>vw rest (qC bs λb bs=>qE b λd' n rs=>bif beqB true d'&&qAz n 7 then vL bs (qf row λc cs=>kMsE c λid off len=>bif qAz id 1&&(qAz off 0&&qAz len (qAt rs))then kNil cs (zv8 q k l es rs)else none)else none)else none else kOpt (EVj (EV cfg) 105 1 [.ptr 0 0 0,.agg [.int .i64 6,.int .i64 0,.int .i64 0,.int .i64 k,.int .i64 n,.str s,.sl l]] [.rows false 1 [[.ms 1 0 (qAt ins)]],.rows true 7 ins]) λq=>qC q.2 λb bs=>qE b λd' n rs=>bif beqB false d'&&qAz n 1 then q7 rs λrow rest=>vw rest (qC bs λb bs=>qE b λd' n rs=>bif beqB true d'&&qAz n 7 then vL bs (qf row λc cs=>kMsE c λid off len=>bif qAz id 1&&(qAz off 0&&qAz len (qAt rs))then kNil cs (zv8 q k l es rs)else none)else none)else none) λx v=>qJ v λb_1=>bif b_1 then kOpt (EVj (EV cfg) 105 1 [.ptr 0 0 0,AV.agg [.int .i64 4,.int .i64 n_1,.int .i64 0,.int .i64 0,.int .i64 0,.str [],.sl []]] [.rows false 1 [[.ms 1 0 (qAt ins)]],.rows true 7 ins]) λq=>zv12 q k l es else bif b then zv19 n_1 es ins k l else kOpt (EVs (EV cfg) 168 [.agg [.int .i64 k,.int .i64 n,.str s,.sl l]]) λv=>qJ v λb=>bif b then zv29 ins k l es else bif k==7 then zv35 l ins k es else bif k==9 then zv36 ins k l es else kOpt (EVj (EV cfg) 105 1 [.ptr 0 0 0,AV.agg [.int .i64 6,.int .i64 0,.int .i64 0,.int .i64 k,.int .i64 n,.str s,.sl l]] [.rows false 1 [[.ms 1 0 (qAt ins)]],.rows true 7 ins]) λq=>zv12 q k l es else bif b then zv19 n_1 es ins k l else kOpt (EVs (EV cfg) 168 [.agg [.int .i64 k,.int .i64 n,.str s,.sl l]]) λv=>qJ v λb=>bif b then zv29 ins k l es else bif k==7 then zv35 l ins k es else bif k==9 then zv36 ins k l es else kOpt (EVj (EV cfg) 105 1 [.ptr 0 0 0,.agg [.int .i64 6,.int .i64 0,.int .i64 0,.int .i64 k,.int .i64 n,.str s,.sl l]] [.rows false 1 [[.ms 1 0 (qAt ins)]],.rows true 7 ins]) λq=>zv12 q k l es)) P):Gets (EVj (EV cfg) 167 5 [.agg [.int .i64 k,.int .i64 n,.str s,.sl l],.ptr 0 0 0,.ptr 1 0 0,.ptr 2 0 0] ([ABlk.rows false (1:Nat) [[AV.mp (3:Nat)]],ABlk.rows false (1:Nat) [[AV.ptr (4:Nat) (0:Nat) (0:Nat)]],ABlk.rows false (1:Nat) [[AV.fn (Fn.func 167) [] [AV.ptr (0:Nat) (0:Nat) (0:Nat),AV.ptr (1:Nat) (0:Nat) (0:Nat),AV.ptr (2:Nat) (0:Nat) (0:Nat)]]],ABlk.mp true es,ABlk.rows false (1:Nat) [[AV.ms (5:Nat) (0:Nat) (qAt ins)]],ABlk.rows true (7:Nat) ins]:AH)) P:=
  gE (λ_=>funJ rfl rfl Tryz.func167 rfl) (by kernel_rfl) h
theorem qfJ(l:Rz)(v71:Int)(m3:List (AV×AV))(nc4_0:Nat)(h6:Rz){P:AV×AH->Prop}(h:Gets (bif decide (v71<(l.length:Int))then bif qe 0 v71&&qi v71 (l.length:Int)then kOpt (qAu l (v71.toNat)) λrow=>bif qAz (qAt row) 4 then bif qAF 4 (qAt row)then kTmC (qAB 4 row) λn n_1 s rows=>(kOpt (EVj (EV cfg) 167 5 [.agg [.int .i64 n,.int .i64 n_1,.str s,.sl rows],.ptr 0 0 0,.ptr 1 0 0,.ptr 2 0 0] [.rows false 1 [[AV.mp 3]],.rows false 1 [[.ptr 4 0 0]],.rows false 1 [[AV.fn (Fn.func 167) [] [.ptr 0 0 0,.ptr 1 0 0,.ptr 2 0 0]]],ABlk.mp true m3,.rows false 1 [[.ms 5 0 nc4_0]],.rows true 7 h6]) λq=>qC q.2 λb bs=>qE b λd' n rs=>bif beqB false d'&&qAz n 1 then q7 rs λrow rest=>vw rest (qC bs λb bs=>qE b λd' n rs=>bif beqB false d'&&qAz n 1 then q7 rs λrow_1 rest=>vw rest (qC bs λb bs=>qE b λd' n rs=>bif beqB false d'&&qAz n 1 then q7 rs λrow_2 rest=>vw rest (qC bs λb bs=>kMpB b λd' es=>bif beqB true d' then qC bs λb bs=>qE b λd' n rs=>bif beqB false d'&&qAz n 1 then q7 rs λrow_3 rest=>vw rest (qC bs λb bs=>qE b λd' n rs=>bif beqB true d'&&qAz n 7 then vL bs (qf row λc cs=>kMpE c λid=>bif qAz id 3 then kNil cs (qf row_1 λc cs=>qkq c λid r off=>bif qAz id 4&&(qAz r 0&&qAz off 0)then kNil cs (qf row_2 λc cs=>bif AV.same c (AV.fn (Fn.func 167) [] [.ptr 0 0 0,.ptr 1 0 0,.ptr 2 0 0])then kNil cs (qf row_3 λc cs=>kMsE c λid off len=>bif qAz id 5&&(qAz off 0&&qAz len (qAt rs))then kNil cs (qaj l (qAH .i64 (v71+1)) es (qAt rs) rs)else none)else none)else none)else none)else none)else none else none)else none)else none)else none)else none else none else none else some (AV.tup [],[.rows false 1 [[AV.mp 3]],.rows false 1 [[.ptr 4 0 0]],.rows false 1 [[AV.fn (Fn.func 167) [] [.ptr 0 0 0,.ptr 1 0 0,.ptr 2 0 0]]],ABlk.mp true m3,.rows false 1 [[.ms 5 0 nc4_0]],.rows true 7 h6])) P):Gets (qaj l v71 m3 nc4_0 h6) P:=
  gE (λ_=>qt (cfg:=cfg) (f:=167) (rd:=none) (bs:=6)) (by kernel_rfl) h
abbrev mkD(es:List (AV×AV))(r:List (List AV)):AH:=[.rows false 1 [[.mp 3]],.rows false 1 [[.ptr 4 0 0]],.rows false 1 [[.fn (.func 167) [] [.ptr 0 0 0,.ptr 1 0 0,.ptr 2 0 0]]],.mp true es,.rows false 1 [[.ms 5 0 r.length]],.rows true 7 r]
theorem quF:AV.same (AV.fn (Fn.func 167) [] [.ptr 0 0 0,.ptr 1 0 0,.ptr 2 0 0]) (AV.fn (Fn.func 167) [] [.ptr 0 0 0,.ptr 1 0 0,.ptr 2 0 0])=true:=by kernel_rfl
def qpJ(t:Tm):Prop:=∀(V:List Int) (ins:List InsA),ins.length+t.w<1099511627776->EVj (EV cfg) 167 5 [.agg [.int .i64 t.kind,.int .i64 t.num,.str t.str,.sl (qa t.subs)],.ptr 0 0 0,.ptr 1 0 0,.ptr 2 0 0] (mkD (mV V) (qd ins))=some (.tup [],mkD (mV (vg t V).2) (qd (ins++(vg t V).1)))
theorem qpp{l:List Tm}(hx:∀t∈l,qpJ t):∀(k i:Nat) (V:List Int) (ins:List InsA),l.length - i=k->i<=l.length->ins.length+wL (l.drop i)<1099511627776->l.length<1099511627776 ->
  Gets (qaj (qa l) (i:Int) (mV V) (qd ins).length (qd ins)) (·=(.tup [],mkD (mV (vW (l.drop i) V).2) (qd (ins++(vW (l.drop i) V).1)))):=by
 intro k
 induction k with
 |zero=>
  intro i V ins hk hi hw hlen;refine qfJ _ _ _ _ _ ?_;rw[qc,qBi (by omega),cond_false];refine⟨_,rfl,?_⟩;rw[qAV (by omega),qaK,List.append_nil]
 |succ k ih=>
  intro i V ins hk hi hw hlen;refine qfJ _ _ _ _ _ ?_;have hil:i<l.length:=by omega
  have g0:l[i]? =some l[i]:=qAv hil;have hd:l.drop i=l[i]::l.drop (i+1):=by rw[qAT hil]
  rw[hd,qA]at hw;have hc:=qbV l[i] V;have e1:(qe 0 (i:Int)&&qi (i:Int) ((qa l).length:Int))=true:=by simp;omega
  have hz:=hx l[i] (List.getElem_mem hil) V ins (by omega);rw[qBh (show(i:Int)<((qa l).length:Int) by simp;omega),e1];simp only[xz g0,qb,qO,qM,vp,vo,qU,qAM,cond_true,qN,qV,qW,qD,qR,vm,qrm,qrl,qmu,quF,qv,qG,qF,show qAF 4 4=true from rfl,hz]
  rw[qL hil hlen];have:=ih (i+1) (vg l[i] V).2 (ins++(vg l[i] V).1) (by omega) (by omega) (by simp;omega) hlen;rw[hd,qaa,←qA8];exact this
theorem quY:∀(n:Nat) (t:Tm),t.w<=n->qpJ t:=by
 intro n
 induction n with
 |zero=>intro t h;have:=t.w_eq;omega
 |succ n ih=>
  intro t h V ins hw;have hwe:=t.w_eq;have hi:ins.length<1099511627776:=by omega
  apply Gets.get;refine qth _ _ _ _ _ _ ?_;unfold zv36 zv35 zv29 zv30 zv31 zv32 zv33 zv34 zv19 zv20 zv21 zv22 zv23 zv24 zv25 zv26 zv27 zv28 zv12 zv13 zv14 zv15 zv16 zv17 zv18 zv8 zv9 zv10 zv11 zv6 zv7 zv5 zv0 zv1 zv3 zv4 zv2;have hv:=qdJ (t:=t) (by omega);have ha:=qmk (t:=t) (by omega);have z6:=qeG hi 6 0 0 t;have hx:∀x∈t.subs,qpJ x:=λx hx=>ih x (by have:=vV hx;omega)
  have hlen:t.subs.length<1099511627776:=by have:=xw t.subs;omega
  rw[qbW];simp only[q9,hv,ha];cases hvt:varT t with
  |some x=>
   have h2:t.kind=2:=by
    unfold varT at hvt;split at hvt
    ·rename_i h;exact h.1
    ·exact absurd hvt (by simp)
   have b7:(t.kind==(7:Int))=false:=by simp[h2]
   have b9:(t.kind==(9:Int))=false:=by simp[h2]
   by_cases hm:x∈V
   ·obtain⟨i,hf⟩:=qrj hm 0;simp only[varR,Option.isSome_some,Option.getD_some,qb,qO,qM,vp,vo,qU,qAM,cond_true,cond_false,qN,qV,qW,qD,qm,qR,qS,qk,vm,hf,qoQ,xX hi,b7,b9,qBj hm];exact⟨_,rfl,rfl⟩
   ·have hf:=qrk hm 0;simp only[varR,Option.isSome_some,Option.getD_some,qb,qO,qM,vp,vo,qU,qAM,cond_true,cond_false,qN,qV,qW,qD,qm,qR,qS,qk,vm,hf,qqv,xX hi,b7,b9,qBk hm,qyH];exact⟨_,rfl,rfl⟩
  |none=>
   simp only[varR,Option.isSome_none,Option.getD_none,qb,cond_false,qD,qm,qR,qS,qk];cases hat:anyT t with
   |true=>
    have h2:t.kind=2:=by
     unfold anyT at hat;simp only[qAw,decide_eq_true_eq]at hat;exact hat.1
    have b7:(t.kind==(7:Int))=false:=by simp[h2]
    have b9:(t.kind==(9:Int))=false:=by simp[h2]
    simp only[qb,qO,qM,vp,vo,qU,qAM,cond_true,cond_false,qN,qV,qW,qD,qm,qR,vm,xX hi,b7,b9,if_true];exact⟨_,rfl,rfl⟩
   |false=>
    by_cases h7:t.kind=7
    ·have b7:(t.kind==(7:Int))=true:=by simp[h7]
     simp only[qb,qO,qM,vp,vo,qU,qAM,cond_true,cond_false,qN,qV,qW,qD,qm,qR,vm,xX hi,b7,qc];have:=qpp hx t.subs.length 0 V (ins++[iz 1 t.subs.length 0]) (by omega) (by omega) (by simp;omega) hlen;rw[qBk (by simp),qBj h7];rw[qA4,qA8]at this
     exact this
    have b7:(t.kind==(7:Int))=false:=by simp[h7]
    by_cases h9:t.kind=9
    ·have b9:(t.kind==(9:Int))=true:=by simp[h9]
     simp only[qb,qO,qM,vp,vo,qU,qAM,cond_true,cond_false,qN,qV,qW,qD,qm,qR,vm,xX hi,b7,b9];have:=qpp hx t.subs.length 0 V (ins++[iz 2 0 0]) (by omega) (by omega) (by simp;omega) hlen;rw[qBk (by simp),qBk h7,qBj h9];rw[qA4,qA8]at this
     exact this
    have b9:(t.kind==(9:Int))=false:=by simp[h9]
    simp only[qb,qO,qM,vp,vo,qU,qAM,cond_true,cond_false,qN,qV,qW,qD,qm,qR,vm,z6,b7,b9];rw[qBk (by simp),qBk h7,qBk h9];exact⟨_,rfl,rfl⟩
theorem quX(t:Tm){ins:List InsA}(hw:ins.length+t.w<1099511627776):
  EVj (EV cfg) 104 1 [.ptr 0 0 0,t.av] (mkH (qd ins))=some (.tup [],mkH (qd (ins++(vg t []).1))):=by
 apply Gets.get;rw[Tm.av,Tm.cells_eq];refine qte _ _ _ _ _ ?_;have hz:=quY t.w t (qAA _) [] ins hw;rw[show mV []=[]from rfl]at hz;simp only[hz,qb,qO,qM,vp,vo,qU,qAM,cond_true,qN,qV,qW,qD,qR,vm,qrm,qrl,qmu,quF];exact⟨_,rfl,rfl⟩
end Go.Proofs.YtafdkafbgohigaaGreat
end
