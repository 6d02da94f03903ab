/-
  Parts of the proof of BoundNarrowsUptoSaid, put together: the abstract evaluation and its contracts. Own work.
  What is proved: each lemma as it stands; no condition.
-/
import Derived.KernelRfl
import Derived.Test.YtgleolmhpmljhaaGreatProg
import Derived.Lib.Bytealg
import Derived.Test.YtgleolmhpmljhaaGreatRows
import Derived.ProofKit
import Derived.OpenShut
import Derived.JoinedCond
import Derived.ChangeArms
import Derived.RowKit
import Derived.WalkKit
import Derived.Test.YtgleolmhpmljhaaGreatZBoundNarrowsM2
open Go.IntKind renaming wrap → qBZ
open List renaming get?Internal → qB0, length → qB1, getElem?_eq_getElem → qB3, getElem?_eq_some_iff → qB5, take → qB8, mem_of_getElem? → qCc, take_of_length_le → qCd, getElem?_append_left → qCf, drop → qCk, getElem?_set → qCn, getElem?_append_right → qCo, drop_eq_getElem_cons → qCp, length_append → qCq, replicate → qCr, drop_eq_nil_of_le → qCs, append → qCu, mem_append → qCy, set → qCA, mem_cons → qCB, getElem?_cons_zero → qCC, length_take → qCD, length_cons → qCE, length_map → qCH, range → qCJ
open Bool renaming and_eq_true → qB2, false_eq_true → qCg, not_true → qCj, not_false → qCm, and_self → qCx, true_and → qCF, or_eq_true → qCI
open Nat renaming ble → qB4, eq_of_beq_eq_true → qB9, le_refl → qCa, beq → qCh, mul_le_mul_right → qCv, beq_refl → qCw, ble_eq → qCz, zero_add → qCG
open Option renaming bind_eq_some_iff → qB6, map_eq_some_iff → qCb, bind_some → qCe, map_some → qCt
open Int renaming toNat → qB7, toNat_natCast → qCi
open Array renaming toList → qCl
set_option maxRecDepth 1000000
set_option maxHeartbeats 0
noncomputable section
namespace Go.Av
variable {α : Type} {r : α} {H : AH}
theorem qoD{n:Nat}{x:AV}{k:List (List AV)->Option α}(h:qlE H n x k=some r):∃rows,yd H n x=some rows∧k rows=some r:=by
 unfold qlE at h;unfold yd;split at h
 ·exact⟨_,rfl,h⟩
 ·exact⟨_,rfl,h⟩
 ·obtain⟨h1,hz⟩:=qo h;exact⟨_,by simp only[h1,if_true],hz⟩
 ·obtain⟨sz,rs,h1,h⟩:=qaN h;obtain⟨h2,hz⟩:=qo h;rw[qB2]at h2;refine⟨_,?_,hz⟩;simp only[h1];rw[qCM];rw[qB2,beq_iff_eq];exact⟨qB9 h2.1,h2.2⟩
 ·cases h
theorem qmI{b:Bool}{n:Nat}{x:AV}{k:List (List AV)->Option α}(h:kSrc b H n x k=some r):∃rows,x7 H n x=some rows∧k rows=some r:=by
 unfold kSrc at h;rcases xQ h with⟨_,h⟩|⟨_,h⟩
 ·obtain⟨s,rfl,h⟩:=zT h;obtain⟨h1,hz⟩:=qo h;exact⟨_,by simp only[x7,h1,if_true],hz⟩
 ·obtain⟨rows,h1,hz⟩:=qoD h;refine⟨rows,?_,hz⟩;unfold x7;split
  ·simp[yd]at h1
  ·exact h1
theorem qm4{cfg:Cfg}{nid:Option Nat}{s d:TypeId}{x:AV}{k:KH α}(h:qiW cfg nid s d x H k=some r):∃v H',yW cfg nid s d x H=some (v,H')∧k v H'=some r:=by
 unfold qiW at h;unfold yW;split at h
 ·rename_i hs hd;split at h
  ·exact⟨_,_,by simp only[hs,hd],h⟩
  ·cases h
 ·rename_i hs hd;obtain⟨b,rfl,hz⟩:=zT h;exact⟨_,_,by simp only[hs,hd],hz⟩
 ·rename_i e hs hd;split at h
  ·rename_i hte;obtain⟨b,rfl,h0⟩:=zT h;obtain⟨i,H',h1,hz⟩:=xX h0;exact⟨_,_,by simp only[hs,hd,hte,h1],hz⟩
  ·cases h
 ·rename_i e hs hd;split at h
  ·rename_i hte;obtain⟨rows,h1,h⟩:=qA h;obtain⟨bs,h2,hz⟩:=qA h;refine⟨.str bs,H,?_,hz⟩;simp only[hs,hd];cases x<;>first|(simp only[hte,h1,h2];done)|(simp[yd]at h1)
  ·cases h
 ·cases h
theorem qoO{cfg:Cfg}{nid:Option Nat}{t xt:TypeId}{s x:AV}{k:KH α}(h:qlI cfg nid t xt s x H k=some r):∃v H',qaQ cfg nid t xt s x H=some (v,H')∧k v H'=some r:=by
 unfold qlI at h;unfold qaQ;split at h
 case h_2=>cases h
 rename_i e xd ht hxt;split at h
 case h_2=>cases h
 rename_i ei hei;obtain⟨h1,h⟩:=qo h;obtain⟨news,h2,h⟩:=qmI h;simp only[ht,hxt,hei,h1,if_true,h2];split at h
 ·rcases xQ h with⟨h3,hz⟩|⟨h3,h⟩
  ·exact⟨_,_,by simp only[h3,if_true],hz⟩
  ·obtain⟨h4,h⟩:=qo h;obtain⟨i,H',h5,hz⟩:=xX h;exact⟨_,_,by simp only[h3,qCg,if_false,h4,if_true,h5],hz⟩
 ·obtain⟨d,sz,rs,h3,h⟩:=qad h;obtain⟨h4,h⟩:=qo h;obtain⟨i,H',h5,hz⟩:=xX h;exact⟨_,_,by simp only[h3,h4,if_true,h5],hz⟩
 ·cases h
theorem quE{cfg:Cfg}{t:TypeId}{x:AV}{k:KV α}(h:kLen cfg t x H k=some r):∃v,aLen cfg t x H=some v∧k v=some r:=by
 unfold kLen at h;unfold aLen;split at h
 ·rename_i ht;obtain⟨s,rfl,hz⟩:=zT h;exact⟨_,by simp only[ht],hz⟩
 ·rename_i e ht;split at h
  ·exact⟨_,by simp only[ht],h⟩
  ·exact⟨_,by simp only[ht],h⟩
  ·exact⟨_,by simp only[ht],h⟩
  ·exact⟨_,by simp only[ht],h⟩
  ·exact⟨_,by simp only[ht],h⟩
  ·exact⟨_,by simp only[ht],h⟩
  ·cases h
 ·rename_i n e ht;exact⟨_,by simp only[ht],h⟩
 ·rename_i a b ht;split at h
  ·exact⟨_,by simp only[ht],h⟩
  ·obtain⟨b,h1,h⟩:=qA h;split at h
   ·exact⟨_,by simp only[ht,h1],h⟩
   ·cases h
  ·cases h
 ·cases h
theorem qkj{cfg:Cfg}{nid:Option Nat}{t:TypeId}{l c:AV}{k:KH α}(h:qnu cfg nid t l c H k=some r):∃v H',qbO cfg nid t l c H=some (v,H')∧k v H'=some r:=by
 unfold qnu at h;unfold qbO;split at h
 case h_2=>cases h
 rename_i e ht;split at h
 case h_2=>cases h
 rename_i ei hei;obtain⟨h1,h⟩:=qo h;obtain⟨n,rfl,ha⟩:=qbX h;obtain⟨m,rfl,hb⟩:=qbX ha;obtain⟨h2,hd⟩:=qo hb;obtain⟨i,H',h3,hz⟩:=xX hd;rw[qB2,qB2,qB2,vK,vK,vK,vK]at h2;exact⟨_,_,by simp only[ht,hei,h1,if_true];rw[qCM ⟨h2.1.1.1,h2.1.1.2,h2.1.2,h2.2⟩];simp only[h3],hz⟩
theorem qqp{cfg:Cfg}{nid:Option Nat}{t:TypeId}{l c:AV}{k:KH α}(h:qoI cfg nid t l c H k=some r):∃v H',qao cfg nid t l c H=some (v,H')∧k v H'=some r:=by
 unfold qoI at h;unfold qao;split at h
 ·rename_i hw;rw[hw];exact qkj h
 ·rename_i hw;rw[hw];split at h
  ·obtain⟨h1,h⟩:=qo h;obtain⟨v,H',h2,h⟩:=qkj h;split at h
   ·refine⟨_,_,?_,h⟩;simp only;rw[qCM h1,h2];rfl
   ·cases h
  ·cases h
theorem quF{cfg:Cfg}{t:TypeId}{x:AV}{k:KV α}(h:kCap cfg t x k=some r):∃v,aCap cfg t x=some v∧k v=some r:=by
 unfold kCap at h;unfold aCap;split at h
 ·rename_i e ht;split at h
  ·split at h
   ·exact⟨_,by simp only[ht,AV.lenW,qCt],h⟩
   ·exact⟨_,by simp only[ht,AV.lenW,qCt],h⟩
   ·cases h
  ·cases h
 ·cases h
theorem qlF{v:AV}{k:KV α}{cfg:Cfg}{nid:Option Nat}{a:Operand}{ty:TypeId}{x:Operand->AV}(hx:x a=v)(h:qgG v k=some r):evOp cfg nid (.nilCheck a) ty x H=some (v,H)∧k v=some r:=by
 unfold qgG at h;simp only[evOp,hx];split at h<;>first|exact⟨rfl,h⟩|cases h
theorem qqt{cfg:Cfg}{t:TypeId}{x:AV}{k:AH->Option α}(h:qoN cfg t x H k=some r):∃H',qel cfg t x H=some H'∧k H'=some r:=by
 unfold qoN at h;unfold qel;split at h
 case h_2=>cases h
 rename_i e he;rw[he];split at h
 ·exact⟨H,rfl,h⟩
 ·rename_i id off len;split at h
  case h_2=>cases h
  rename_i ei hei;obtain⟨d,sz,rs,h1,h⟩:=qad h;obtain⟨h2,hz⟩:=qo h;exact⟨_,by simp only[hei,h1,h2,if_true],hz⟩
 ·cases h
theorem qsv{cfg:Cfg}{t xt:TypeId}{d s:AV}{k:KH α}(h:qsw cfg t xt d s H k=some r):∃v H',qhJ cfg t d s H=some (v,H')∧k v H'=some r:=by
 unfold qsw at h;unfold qhJ;split at h
 case h_2=>cases h
 rename_i e he;rw[he];split at h
 case h_2=>cases h
 rename_i id off len;split at h
 case h_2=>cases h
 rename_i n hn;obtain⟨db,sz,rs,h1,h⟩:=qad h;obtain⟨news,h2,h⟩:=qmI h;obtain⟨h3,hz⟩:=qo h;exact⟨_,_,by simp only[hn,h1,h2,h3,if_true],hz⟩
theorem qmJ{b:ABlk}{k:Bool->List (AV×AV)->Option α}(h:kMpB b k=some r):∃d es,b= .mp d es∧k d es=some r:=by
 unfold kMpB at h;split at h
 ·exact⟨_,_,rfl,h⟩
 ·cases h
theorem qqo{x:AV}{k:Bool->List (AV×AV)->Option α}(h:qoH H x k=some r):∃d es,qdj H x=some es∧k d es=some r:=by
 unfold qoH at h;split at h
 ·exact⟨_,_,rfl,h⟩
 ·obtain⟨b,h1,h⟩:=qA h;obtain⟨d,es,rfl,h⟩:=qmJ h;exact⟨d,es,by simp only[qdj,h1],h⟩
 ·cases h
theorem qit{q:Option (Nat×AV)}{x:Option α}{y:Nat->AV->Option α}(h:qeb q x y=some r):(q=none∧x=some r)∨∃p,q=some p∧y p.1 p.2=some r:=by
 unfold qeb at h;split at h
 ·exact .inl ⟨rfl,h⟩
 ·exact .inr ⟨_,rfl,h⟩
theorem qoK{cfg:Cfg}{t:TypeId}{x key:AV}{ok:Bool}{k:KV α}(h:qlH cfg t x key ok H k=some r):∃v,qah cfg t x key ok H=some v∧k v=some r:=by
 unfold qlH at h;split at h
 case h_2=>cases h
 rename_i kt et ht;split at h
 case h_2=>cases h
 rename_i d hd;obtain⟨df,es,h1,h⟩:=qqo h;obtain⟨h2,h⟩:=qo h;obtain⟨q,h3,h⟩:=qA h;rcases qit h with⟨rfl,h⟩|⟨p,rfl,h⟩
 ·obtain⟨z,hz,h⟩:=qA h;exact⟨_,by simp only[qah,ht,hd,h1,h2,if_true,h3,hz];cases ok<;>rfl,h⟩
 ·have h:=qdl (k:=λv=>k (cond ok (.tup [v,.bool true]) v)) h;exact⟨_,by simp only[qah,ht,hd,h1,h2,if_true,h3];cases ok<;>rfl,h⟩
theorem qgH{cfg:Cfg}{t:TypeId}{m key v:AV}{k:AH->Option α}(h:qlG cfg t m key v H k=some r):∃H',qaP cfg t m key v H=some H'∧k H'=some r:=by
 unfold qlG at h;split at h
 case h_2=>cases h
 rename_i kt et ht;split at h
 case h_2=>cases h
 rename_i id;split at h
 case h_2=>cases h
 rename_i d hd;obtain⟨b,h1,h⟩:=qA h;obtain⟨d0,es,rfl,h⟩:=qmJ h;obtain⟨h2,h⟩:=qo h;obtain⟨q,h3,h⟩:=qA h;rcases qit h with⟨rfl,h⟩|⟨p,rfl,h⟩
 ·exact⟨_,by simp only[qaP,ht,hd,h1,h2,if_true,h3],h⟩
 ·exact⟨_,by simp only[qaP,ht,hd,h1,h2,if_true,h3],h⟩
theorem qoG{cfg:Cfg}{nid:Option Nat}{o:Op}{ty:TypeId}{x:Operand->AV}{k:KH α}(h:kOp cfg nid o ty x H k=some r):∃v H',evOp cfg nid o ty x H=some (v,H')∧k v H'=some r:=by
 cases o with
 |move a=>exact⟨_,_,rfl,h⟩
 |assign a=>exact⟨_,_,rfl,h⟩
 |pick c a b=>
  simp only[kOp]at h;obtain⟨t,h1,h⟩:=qcl h;have:=qss (k:=λv=>k v H) h;exact⟨_,_,by simp only[evOp,h1],this⟩
 |alloc t=>
  simp only[kOp]at h;split at h
  ·rename_i ti hti;obtain⟨h1,h⟩:=qo h;obtain⟨i,H',h2,hz⟩:=xX h;exact⟨_,_,by simp only[evOp,hti,h1,if_true,h2],hz⟩
  ·cases h
 |box t a=>
  simp only[kOp]at h;obtain⟨cs,h1,h⟩:=qax h;obtain⟨i,H',h2,hz⟩:=xX h;exact⟨_,_,by simp only[evOp,h1,h2],hz⟩
 |build t parts=>
  simp only[kOp]at h;split at h
  case h_2=>cases h
  rename_i ti hti;obtain⟨h1,h⟩:=qo h;split at h
  ·rename_i fs hfs;split at h
   case h_2=>cases h
   rename_i ps hps;obtain⟨qs,h2,h3⟩:=qjX hps;obtain⟨cs,h4,hz⟩:=qeW (place':=λi=>qs[i]?) (λi off n g hi=>h3 i off n g hi) h;exact⟨_,_,by simp only[evOp,hti,h1,if_true,hfs,h2,h4,qCt],hz⟩
  ·rename_i m e hfs;split at h
   case h_2=>cases h
   rename_i n hn;obtain⟨cs,h4,hz⟩:=qeW (place':=λi=>some (i*n,n)) (λi off m g hi=>by cases hi;rfl) h;exact⟨_,_,by simp only[evOp,hti,h1,if_true,hfs,hn,h4,qCt],hz⟩
  ·cases h
 |buildSlice t len parts=>
  simp only[kOp]at h;split at h
  case h_2=>cases h
  rename_i e ht;split at h
  case h_2=>cases h
  rename_i ei hei;obtain⟨h1,h⟩:=qo h;obtain⟨rows,h2,h⟩:=qkh h;obtain⟨i,H',h3,hz⟩:=xX h;exact⟨_,_,by simp only[evOp,ht,hei,h1,if_true,h2,h3],hz⟩
 |load t a=>
  simp only[kOp]at h;split at h
  case h_2=>cases h
  rename_i ti hti;split at h
  ·rename_i cs off hx;obtain⟨v,h1,h⟩:=yK h;have h2:=vO (k:=λv=>cond ti.d.agg (k v.lendA H) (k v.lend H)) h;rcases xQ h2 with⟨ha,h2⟩|⟨ha,h2⟩
   ·rw[ha]at h1;simp only[if_true]at h1;split at h1
    ·rename_i hb;cases h1;refine⟨_,_,?_,h2⟩;simp only[evOp,hti,hx,zt,ha,if_true,hb,qCt,AV.lendA]
    ·cases h1
   ·rw[ha]at h1;simp only[qCg,if_false]at h1;refine⟨_,_,?_,h2⟩;simp only[evOp,hti,hx,zt,ha,qCg,if_false,h1,qCt]
  ·rename_i id cs off hx;obtain⟨b,hb0,h⟩:=qA h;split at h
   ·obtain⟨v,h1,h⟩:=yK h;have h2:=vO (k:=λv=>cond ti.d.agg (k (v.regA id) H) (k (v.regn id) H)) h;rcases xQ h2 with⟨ha,h2⟩|⟨ha,h2⟩
    ·rw[ha]at h1;simp only[if_true]at h1;split at h1
     ·rename_i hb;cases h1;refine⟨_,_,?_,h2⟩;simp only[evOp,hti,hx,zt,hb0,ha,if_true,hb,qCt,AV.regA]
     ·cases h1
    ·rw[ha]at h1;simp only[qCg,if_false]at h1;refine⟨_,_,?_,h2⟩;simp only[evOp,hti,hx,zt,hb0,ha,qCg,if_false,h1,qCt]
   ·obtain⟨v,h1,h⟩:=qeT h;exact⟨_,_,by simp only[evOp,hti,hx,h1,qCt],h⟩
  ·obtain⟨v,h1,h⟩:=qeT h;exact⟨_,_,by simp only[evOp,hti,h1,qCt],vO (k:=λv=>k v H) h⟩
 |store t a v=>
  simp only[kOp]at h;split at h
  case h_2=>cases h
  rename_i ti hti;obtain⟨H',h1,hz⟩:=qqm h;exact⟨_,_,by simp only[evOp,(qxz hti).1,h1,qCt],hz⟩
 |nilCheck a=>
  obtain⟨h1,h2⟩:=qlF (cfg:=cfg) (nid:=nid) (ty:=ty) (H:=H) (x:=x) (a:=a) (k:=λv=>k v H) rfl h;exact⟨_,_,h1,h2⟩
 |binOp op t a b yt=>
  simp only[kOp]at h;obtain⟨v,h1,h⟩:=qA h;exact⟨_,_,by simp only[evOp,h1,qCt],vO (k:=λv=>k v H) h⟩
 |unOp op t a=>
  simp only[kOp]at h;obtain⟨v,h1,h⟩:=qA h;exact⟨_,_,by simp only[evOp,h1,qCt],vO (k:=λv=>k v H) h⟩
 |convert s d a=>exact qm4 h
 |makeFunc f first caps=>exact⟨_,_,rfl,h⟩
 |makeSlice t l c=>exact qqp h
 |makeMap t r=>
  simp only[kOp]at h;unfold qoJ at h;split at h
  case h_2=>cases h
  rename_i kt et ht;cases r with
  |none=>
   simp only[Option.map_none]at h;obtain⟨i,H',h1,hz⟩:=xX h;exact⟨_,_,by simp only[evOp,ht,h1],hz⟩
  |some a=>
   simp only[qCt]at h;split at h
   ·rename_i hxa;obtain⟨i,H',h1,hz⟩:=xX h;exact⟨_,_,by simp only[evOp,ht,hxa,h1],hz⟩
   ·cases h
 |lookup t a key ok=>
  simp only[kOp]at h;obtain⟨v,h1,hz⟩:=qoK h;exact⟨_,_,by simp only[evOp,h1,qCt],hz⟩
 |mapUpdate t m key v=>
  simp only[kOp]at h;obtain⟨H',h1,hz⟩:=qgH h;exact⟨_,_,by simp only[evOp,h1,qCt],hz⟩
 |insert t m key v=>
  simp only[kOp]at h;obtain⟨H',h1,hz⟩:=qgH h;exact⟨_,_,by simp only[evOp,h1,qCt],hz⟩
 |slice t a lo hi mx=>
  simp only[kOp]at h;obtain⟨v,h1,hz⟩:=qqn h;exact⟨_,_,by simp only[evOp,h1,qCt],hz⟩
 |fieldAddr t a f=>
  simp only[kOp]at h;obtain⟨v,h1,hz⟩:=qkq h;exact⟨_,_,by simp only[evOp,h1,qCt],hz⟩
 |field t a f=>
  simp only[kOp]at h;obtain⟨v,h1,h⟩:=qqr h;exact⟨_,_,by simp only[evOp,h1,qCt],vO (k:=λv=>k v H) h⟩
 |indexAddr t a i=>
  simp only[kOp]at h;obtain⟨v,h1,hz⟩:=qkl h;exact⟨_,_,by simp only[evOp,h1,qCt],hz⟩
 |index t a i=>
  simp only[kOp]at h;obtain⟨v,h1,h⟩:=qqq h;exact⟨_,_,by simp only[evOp,h1,qCt],vO (k:=λv=>k v H) h⟩
 |extract t i=>
  simp only[kOp]at h;split at h
  ·rename_i vs hvs;obtain⟨v,h1,h⟩:=qA h;exact⟨_,_,by simp only[evOp,hvs,h1,qCt],vO (k:=λv=>k v H) h⟩
  ·cases h
 |call c=>
  simp only[kOp]at h;obtain⟨callee,args,argTypes⟩:=c;simp only at h;simp only[evOp];split at h
  case h_2=>cases h
  generalize args.toList=al at *;generalize argTypes.toList=tl at *;split at h
  ·obtain⟨v,h1,hz⟩:=quE h;exact⟨_,_,by simp only[h1,qCt],hz⟩
  ·obtain⟨v,h1,hz⟩:=quF h;exact⟨_,_,by simp only[h1,qCt],hz⟩
  ·exact qoO h
  ·rename_i d s t xt;obtain⟨v,H',h1,hz⟩:=qsv h;exact⟨_,_,h1,hz⟩
  ·obtain⟨v,h1,hz⟩:=qqt h;exact⟨_,_,by simp only[h1,qCt],hz⟩
  ·obtain⟨v,h1,h⟩:=qA h;exact⟨_,_,by simp only[h1,qCt],vO (k:=λv=>k v H) h⟩
  ·obtain⟨v,h1,h⟩:=qA h;exact⟨_,_,by simp only[h1,qCt],vO (k:=λv=>k v H) h⟩
  ·cases h
 |_=>simp only[kOp]at h;cases h
def KfOk(cf:Orac)(kf:KF α):Prop:=∀t a H k r,kf t a H k=some r->∃q,cf t a H=some q∧k q=some r
theorem qmK{ids:List Nat}{v:AV}{k:KV α}(hi:∀id∈v.msIds,id∈ids)(h:qhD H v k=some r):k (v.frz ids H)=some r:=by
 unfold qhD at h;split at h
 ·rename_i cs;have:=qbY (ids:=ids) (λv hv id off len e=>hi id (qdi hv e)) h
  simpa [AV.frz,Function.comp_def]using this
 ·rename_i cs;have:=qbY (k:=λcs=>k (.tup cs)) (ids:=ids) (λv hv id off len e=>hi id (qdi hv e)) h
  simpa [AV.frz,Function.comp_def]using this
 ·rename_i h1 h2;have h4:=(qa3 h).1 ids (λid off len e=>hi id (by subst e;simp[AV.msIds,AV.msId])) rfl;have e1:v.frz ids H=v.frz1 ids H:=by
   cases v<;>first|rfl|exact absurd rfl (h1 _)|exact absurd rfl (h2 _)
  rw[e1];exact h4
theorem qbG{cfg:Cfg}{cf:Orac}{kf:KF α}(hkf:KfOk cf kf){nid:Option Nat}{ty:TypeId}{t:Tgt}{args:List AV}{k:KH α}(h:qa6 cfg cf kf nid ty t args H k=some r):∃v H',vj cfg cf nid t args H=some (v,H')∧k v H'=some r:=by
 cases t with
 |y id=>
  simp only[qa6]at h;obtain⟨q,h1,h⟩:=hkf _ _ _ _ _ h;obtain⟨p,h2,h⟩:=qA h;exact⟨_,_,by simp only[vj,h1,qCe];exact h2,vO (k:=λv=>k v p.2) h⟩
 |f f=>
  simp only[qa6]at h;cases hm:cfg.mode f with
  |scal=>
   simp only[hm]at h;obtain⟨h1,h⟩:=qo (qkt h);split at h
   ·obtain⟨q,h5,h⟩:=hkf _ _ _ _ _ h;have h3:=vO (k:=λv=>cond v.scalar (k v H) none) h;obtain⟨h4,hz⟩:=qo h3;exact⟨q.1,H,by simp only[vj,hm,h1,if_true,h5,qCe,h4],hz⟩
   obtain⟨v,h2,h⟩:=qA h;have h3:=vO (k:=λv=>cond v.scalar (k v H) none) h;obtain⟨h4,hz⟩:=qo h3;unfold EVs at h2;obtain⟨q,h5,h6⟩:=qCb.1 h2;exact⟨v,H,by simp only[vj,hm,h1,if_true,h5,qCe,h6,h4],hz⟩
  |pfrz=>
   simp only[hm]at h;obtain⟨h1,h⟩:=qo h;split at h
   ·obtain⟨q,h5,h⟩:=hkf _ _ _ _ _ h;have h2:=qbZ (k:=λv=>kTy qhH cfg ty v λv=>cond (v.refsLt 0) (k v H) none) h;have h3:=vO (k:=λv=>cond (v.refsLt 0) (k v H) none) h2;obtain⟨h4,hz⟩:=qo h3;exact⟨_,H,by simp only[vj,hm,h1,if_true,h5,qCe,h4],hz⟩
   obtain⟨v,h2,h⟩:=qA h;have h3:=vO (k:=λv=>cond (v.refsLt 0) (k v H) none) h;obtain⟨h4,hz⟩:=qo h3;unfold EVf at h2;obtain⟨q,h5,h6⟩:=qCb.1 h2;exact⟨v,H,by simp only[vj,hm,h1,if_true,h5,qCe,h6,h4],hz⟩
  |pown=>
   simp only[hm]at h;split at h
   ·rename_i t1 t2 _;obtain⟨h1,h⟩:=qo h;obtain⟨q,h2,h⟩:=qA h;obtain⟨p,h5,h6⟩:=qB6.1 h2;unfold qno at h6;split at h6
    case h_2=>cases h6
    rename_i a sc hp;obtain⟨h7,h6⟩:=qo h6;split at h6
    case h_2=>cases h6
    rename_i o ho;cases h6;have h:=qdl (k:=λs=>kOwn o (k (.tup [.nilS,s]) H) λsz rs off len=>kNew nid H (.rows true sz rs) λi H'=>k (.tup [.ms i off len,s]) H') h;unfold ovOf at ho;split at ho
    ·rename_i hq;cases ho;refine⟨.tup [.nilS,(sc.frz sc.msIds p.2).fg],H,?_,h⟩;have hq:a= .nilS:=hq;simp only[vj,hm,h1,if_true,h5,qCe,qcU,hp,h7,hq,yB,AV.refsLt,qCt]
    ·rename_i id off len hq;split at ho
     case h_2=>cases ho
     rename_i sz rs hid;split at ho
     case isFalse=>cases ho
     rename_i hr;cases ho;simp only[kOwn]at h;obtain⟨i,H',h8,hz⟩:=xX h;have hq:a= .ms id off len:=hq;refine⟨_,_,?_,hz⟩;simp only[vj,hm,h1,if_true,h5,qCe,qcU,hp,h7,hq,yB,hid,hr,h8,qCt]
    ·cases ho
   ·obtain⟨h1,h⟩:=qo h;have key:∃q o,cf (.f f) args []=some q∧ovOf q=some o∧(kOwn o (k .nilS H) λsz rs off len=>kNew nid H (.rows true sz rs) λi H'=>k (.ms i off len) H')=some r:=by
     split at h
     ·obtain⟨q,h5,h⟩:=hkf _ _ _ _ _ h;obtain⟨o,h6,h⟩:=qA h;exact⟨q,o,h5,h6,h⟩
     ·obtain⟨o,h2,h⟩:=qA h;unfold EVo at h2;obtain⟨q,h5,h6⟩:=qB6.1 h2;exact⟨q,o,h5,h6,h⟩
    obtain⟨q,o,h5,h6,h⟩:=key;unfold ovOf at h6;split at h6
    ·rename_i hq;cases h6;exact⟨.nilS,H,by simp only[vj,hm,h1,if_true,h5,qCe,qcU,yB,hq,AV.refsLt],h⟩
    ·rename_i id off len hq;split at h6
     case h_2=>cases h6
     rename_i sz rs hid;split at h6
     case isFalse=>cases h6
     rename_i hr;cases h6;simp only[kOwn]at h;obtain⟨i,H',h7,hz⟩:=xX h;exact⟨_,_,by simp only[vj,hm,h1,if_true,h5,qCe,qcU,yB,hq,hid,hr,h7],hz⟩
    ·cases h6
  |inpl=>
   simp only[hm]at h;have res:∀(kd:Nat) (ik:IntKind) (id:Nat) (v:MV) (k:KV α),qnv kd ik id v k=some r->k (v.av id)=some r:=by
    intro kd ik id v k h;unfold qnv at h;split at h
    ·cases v<;>first|exact h|exact absurd h (by simp[qx])
    ·cases v<;>first|exact h|exact absurd h (by simp[kMSl])
    ·cases v with
     |int q n=>
      obtain⟨h1,h2⟩:=qo h;rw[←qgC h1]at h2;exact h2
     |_=>exact absurd h (by simp[qa1])
    ·cases v<;>first|exact h|exact absurd h (by simp[xA])
   split at h
   case h_2=>
    rename_i hids;obtain⟨h1,h⟩:=qo h;obtain⟨v1,h2,h⟩:=qA h;unfold EVu at h2;obtain⟨r1,h5,h6⟩:=qB6.1 h2;split at h6
    case isFalse=>cases h6
    rename_i hrf;have hav:r1.1=v1.av 0:=by
     unfold mvOf at h6;split at h6
     ·rename_i e;cases h6;rw[e];rfl
     ·rename_i e;cases h6;rw[e];rfl
     ·rename_i i off len e;rw[e]at hrf;simp[AV.refsLt,Nat.blt_eq]at hrf
     ·rename_i e;cases h6;rw[e];rfl
     ·rename_i e;cases h6;rw[e];rfl
     ·cases h6
    refine⟨v1.av 0,H,?_,res _ _ _ _ (λv=>k v H) h⟩;simp only[vj,hm,hids,h1,if_true,h5,qCe,hrf];rw[hav]
   rename_i id l hids;obtain⟨h1,h⟩:=qo h;obtain⟨b,h2,h⟩:=qA h;split at h
   case h_2=>cases h
   rename_i d sz rs;obtain⟨h3,h⟩:=qo h;obtain⟨q,h4,h⟩:=qA h;unfold EVm at h4;obtain⟨r1,h5,h6⟩:=qB6.1 h4;obtain⟨q1,h7,h8⟩:=qB6.1 h6;obtain⟨v1,h9,h10⟩:=qCb.1 h8;cases h10;have hav:q1.1.ren (λ_=>id)=v1.av id:=by
    unfold mvOf at h9;split at h9
    ·rename_i e;cases h9;rw[e];simp[AV.ren,renL,MV.av]
    ·rename_i e;cases h9;rw[e];simp[AV.ren,MV.av]
    ·rename_i i off len e;split at h9
     ·cases h9;rw[e];simp[AV.ren,MV.av]
     ·cases h9
    ·rename_i e;cases h9;rw[e];simp[AV.ren,MV.av]
    ·rename_i e;cases h9;rw[e];simp[AV.ren,MV.av]
    ·cases h9
   have hk:k (v1.av id) (H.set id (.rows true sz q1.2))=some r:=res _ _ _ _ (λv=>k v (H.set id (.rows true sz q1.2))) h;refine⟨v1.av id,_,?_,hk⟩;simp only[vj,hm,hids,h1,if_true,h2,h3,h5,qCe,h7,qCt,hav]
  |inpf=>
   simp only[hm]at h;split at h
   case h_2=>cases h
   rename_i id l hids;obtain⟨h1,h⟩:=qo h;obtain⟨b,h2,h⟩:=qA h;split at h
   case h_2=>cases h
   rename_i d sz rs;obtain⟨h3,h⟩:=qo h;obtain⟨q,h4,h⟩:=qA h;unfold EVd at h4;obtain⟨r1,h5,h6⟩:=qB6.1 h4;have hk:=vO (k:=λv=>k v (H.set id (.rows true sz q.2))) h;refine⟨q.1,_,?_,hk⟩;simp only[vj,hm,hids,h1,if_true,h2,h3,h5,qCe,h6,qCt]
  |slf=>
   simp only[hm]at h;split at h
   case h_2=>cases h
   rename_i id l hids;obtain⟨h1,h⟩:=qo h;obtain⟨b,h2,h⟩:=qA h;split at h
   case h_2=>cases h
   rename_i d sz rs;obtain⟨h3,h⟩:=qo h;obtain⟨q,h4,h⟩:=qA h;have h4:=qxl h4;unfold EVx at h4;obtain⟨r1,h5,h6⟩:=qB6.1 h4;have hk:=vO (k:=λv=>k v (H.set id (.rows false sz (renR (λ_=>id) (renR (λ_=>0) rs))))) h;refine⟨q,_,?_,hk⟩;simp only[vj,hm,hids,h1,if_true,h2,h3,h5,qCe,h6,qCt]
  |imp=>
   simp only[hm]at h;obtain⟨q,h1,h⟩:=hkf _ _ _ _ _ h;obtain⟨p,h2,h⟩:=qA h;exact⟨_,_,by simp only[vj,hm,h1,qCe];exact h2,vO (k:=λv=>k v p.2) h⟩
  |ifrz=>
   simp only[hm]at h;obtain⟨q,h1,h⟩:=hkf _ _ _ _ _ h;have h:=qmK (k:=λx=>kOpt (xB nid H.length x (qQ q.1.msIds q.2)) λr=>kTy noTy cfg ty r.1 λv=>k v r.2) (ids:=q.1.msIds) (λid hi=>hi) h;obtain⟨p,h2,h⟩:=qA h;exact⟨_,_,by simp only[vj,hm,h1,qCe];exact h2,vO (k:=λv=>k v p.2) h⟩
theorem qsz{cfg:Cfg}{cf:Orac}{kf:KF α}(hkf:KfOk cf kf){nid:Option Nat}{ty:TypeId}{t:Tgt}{args:List AV}{k:KH α}(h:qks cfg cf kf nid ty t args H k=some r):∃v H',xh cfg cf nid t args H=some (v,H')∧k v H'=some r:=by
 unfold qks at h;unfold xh;cases hn:zw cfg t args with
 |none=>rw[hn]at h;exact qbG hkf h
 |some n=>
  rw[hn]at h;simp only at h;cases n with
  |zero=>
   have h:(qa6 cfg cf kf nid ty t [.nilS] H λv H1=>qa6 cfg cf kf nid ty t [.em] H λv2 H2=>kEqR (v,H1) (v2,H2) (k v H1))=some r:=h;obtain⟨v,H1,h1,h⟩:=qbG hkf h;obtain⟨v2,H2,h2,h⟩:=qbG hkf h;unfold kEqR at h;split at h
   case isFalse=>cases h
   rename_i he;exact⟨v,H1,by simp only[h1,h2,he,qo8,if_true],h⟩
  |succ n=>exact qbG hkf h
theorem quB{f:AV}{args:List AV}{k:Tgt->List AV->Option α}(h:kTgt f args k=some r):∃t,yH f args=some t∧k t.1 t.2=some r:=by
 unfold kTgt at h;unfold yH;split at h
 ·exact⟨_,rfl,h⟩
 ·exact⟨_,rfl,h⟩
 ·cases h
theorem qeV{ids:List Nat}:∀{l:List AV} {k:List AV->Option α},(∀v∈l,∀id∈v.msIds,id∈ids)->qgJ H l k=some r->k (l.map λv=>v.frz ids H)=some r
 |[],k,_,h=>h
 |a::l,k,hi,h=>by
  rw[qgJ]at h;have h1:=qmK (ids:=ids) (hi a (by simp)) h;exact qeV (k:=λl=>k (a.frz ids H::l)) (λv hv=>hi v (by simp[hv])) h1
theorem qx7{a b:Operand}(h:opEq a b=true):a=b:=by
 cases a<;>cases b<;>simp_all [opEq]
theorem qre{y:Operand->AV}(a:Operand):∀l:List Operand,frzX l (l.map y) y a=y a
 |[]=>rfl
 |b::l=>by
  rw[List.map_cons,frzX];cases hb:opEq b a with
  |true=>rw[cond_true,qx7 hb]
  |false=>rw[cond_false];exact qre a l
theorem qkm{cfg:Cfg}{nid:Option Nat}{o:Oper}{x:Operand->AV}{k:KH α}(h:qnw cfg nid o x H k=some r):
  kOp cfg nid o.op o.type (λa=>(x a).frz (o.op.operands.toList.flatMap λa=>(x a).msIds) H) (qQ (o.op.operands.toList.flatMap λa=>(x a).msIds) H) k=some r:=by
 unfold qnw at h;have h1:=qeV (ids:=o.op.operands.toList.flatMap λa=>(x a).msIds) (λv hv id hid=>by
  obtain⟨a,ha,rfl⟩:=List.mem_map.1 hv;exact List.mem_flatMap.2 ⟨a,ha,hid⟩) h
 rw[List.map_map]at h1;have e:frzX o.op.operands.toList (o.op.operands.toList.map ((λv=>v.frz (o.op.operands.toList.flatMap λa=>(x a).msIds) H)∘x)) (λa=>(x a).frz (o.op.operands.toList.flatMap λa=>(x a).msIds) H)=λa=>(x a).frz (o.op.operands.toList.flatMap λa=>(x a).msIds) H:=funext λa=>qre a _
 rw[e]at h1;exact h1
theorem qeS{cfg:Cfg}{cf:Orac}{kf:KF α}(hkf:KfOk cf kf){frz:Bool}{nid:Option Nat}{o:Oper}{x:Operand->AV}{k:KH α}(h:qki cfg cf kf frz nid o x H k=some r):∃v H',ve cfg cf frz nid o x H=some (v,H')∧k v H'=some r:=by
 have core:∀{x:Operand->AV} {H:AH},(match o.op with
   | .call c=>
    match c.callee with
    | .value f=>kTgt (x f) (c.args.toList.map x) λt al=>qks cfg cf kf nid o.type t al H k
    |_=>kOp cfg nid o.op o.type x H k
   |_=>kOp cfg nid o.op o.type x H k)=some r->∃v H',(match o.op with
    | .call c=>
     match c.callee with
     | .value f=>(yH (x f) (c.args.toList.map x)).bind λt=>xh cfg cf nid t.1 t.2 H
     |_=>evOp cfg nid o.op o.type x H
    |_=>evOp cfg nid o.op o.type x H)=some (v,H')∧k v H'=some r:=by
  intro x H h;cases ho:o.op with
  |call c=>
   simp only[ho]at h⊢;cases hc:c.callee with
   |value f=>
    simp only[hc]at h⊢;obtain⟨t,h1,h⟩:=quB h;obtain⟨v,H',h2,hz⟩:=qsz hkf h;exact⟨v,H',by rw[h1];exact h2,hz⟩
   |_=>simp only[hc]at h⊢;exact qoG h
  |_=>simp only[ho]at h⊢;exact qoG h
 unfold qki at h;unfold ve;cases frz with
 |true=>
  simp only[cond_true]at h;simp only[if_true];refine core (x:=λa=>(x a).frz (o.op.operands.toList.flatMap λa=>(x a).msIds) H) (H:=qQ (o.op.operands.toList.flatMap λa=>(x a).msIds) H) ?_;cases ho:o.op with
  |call c=>
   simp only[ho]at h⊢;cases hc:c.callee with
   |value f=>
    simp only[hc]at h⊢;have h1:=qeV (ids:=(Op.call c).operands.toList.flatMap λa=>(x a).msIds) (λv hv id hid=>by
     obtain⟨a,ha,rfl⟩:=List.mem_map.1 hv;refine List.mem_flatMap.2 ⟨a,?_,hid⟩;simp[Op.operands,Call.operands,hc,Array.mem_toList_iff.1 ha]) h
    rw[List.map_map]at h1;exact h1
   |_=>simp only[hc]at h⊢;have h:=qkm h;rw[ho]at h;exact h
  |_=>simp only[ho]at h⊢;have h:=qkm h;rw[ho]at h;exact h
 |false=>simp only[cond_false]at h;simp only[qCg,if_false];exact core h
theorem qiI{fr:List AV}{d:Nat}{v:AV}(h:fr[d]? =some v):fr.set d v=fr:=by
 obtain⟨hl,e⟩:=qB5.1 h;rw[←e];exact List.set_getElem_self hl
theorem qcY{ops:Array Oper}{fr:List AV}{o:Oper}{k:Bool->List AV->Option α}(h:qea ops fr o k=some r):∃b,xk ops fr o=some b∧k b fr=some r:=by
 unfold qea at h;unfold xk;split at h
 ·rename_i hg;rw[hg];exact⟨true,rfl,h⟩
 ·rename_i j want hg;rw[hg];simp only;split at h
  ·rename_i d hd;rw[hd];simp only;obtain⟨v,h1,h⟩:=qA h;rw[h1];split at h
   ·split at h
    ·exact⟨false,rfl,h⟩
    ·cases h
   ·obtain⟨b,rfl,h⟩:=qcl h;simp only;refine⟨_,rfl,?_⟩;rcases xQ h with⟨rfl,h⟩|⟨rfl,h⟩
    ·rw[qiI h1]at h;cases want<;>exact h
    ·rw[qiI h1]at h;cases want<;>exact h
  ·cases h
theorem qgE{cfg:Cfg}{cf:Orac}{kf:KF α}(hkf:KfOk cf kf){f rid:Nat}{ops:Array Oper}:∀{l:List Oper} {n:Nat} {fr:List AV} {H:AH} {k:List AV->AH->Option α},kOps cfg cf kf f rid ops n l fr H k=some r->∃q,y4 cfg cf f rid ops n l fr H=some q∧k q.1 q.2=some r
 |[],n,fr,H,k,h=>⟨(fr,H),rfl,h⟩
 |o::l,n,fr,H,k,h=>by
  rw[kOps]at h;obtain⟨b,h1,h⟩:=qcY h;rw[y4,h1];simp only[qCe];rcases xQ h with⟨rfl,h⟩|⟨rfl,h⟩
  ·obtain⟨v,H',h2,h⟩:=qeS hkf h;simp only[if_true,h2,qCe];exact qgE hkf h
  ·simp only[qCg,if_false];exact qgE hkf h
theorem qeY{cfg:Cfg}{cf:Orac}{kf:KF α}(hkf:KfOk cf kf){f rid:Nat}{ops:Array Oper}:∀{l:List Oper} {n at_:Nat} {fr:List AV} {H:AH} {k:List DR->List AV->AH->Option α},qkr cfg cf kf f rid ops n at_ l fr H k=some r ->
  ∃q,xN cfg cf f rid ops n at_ l fr H=some q∧k q.1 q.2.1 q.2.2=some r
 |[],n,at_,fr,H,k,h=>⟨([],fr,H),rfl,h⟩
 |o::l,n,at_,fr,H,k,h=>by
  rw[qkr]at h;obtain⟨b,h1,h⟩:=qcY h;rw[xN,h1];simp only[qCe];rcases xQ h with⟨rfl,h9⟩|⟨rfl,h9⟩
  ·obtain⟨v,H',h2,h8⟩:=qeS hkf h9;simp only[if_true,h2,qCe];obtain⟨q,h3,hz⟩:=qeY hkf h8;exact⟨_,by rw[h3];rfl,hz⟩
  ·simp only[qCg,if_false];obtain⟨q,h3,hz⟩:=qeY hkf h9;exact⟨_,by rw[h3];rfl,hz⟩
theorem qke{fr:List AV}{c:Operand}{b:Bool}(h:opd fr c= .bool b):known fr c b=fr:=by
 cases c with
 |tmp d=>
  simp only[known];have hg:fr[d]? =some (.bool b):=by
   have h':fr.getD d .junk= .bool b:=h;rw[List.getD_eq_getElem?_getD]at h';cases hd:fr[d]? with
   |none=>rw[hd]at h';cases h'
   |some v=>rw[hd]at h';simp at h';rw[h']
  exact qiI hg
 |_=>rfl
theorem qgD{cfg:Cfg}{cf:Orac}{kf:KF α}(hkf:KfOk cf kf){f rid:Nat}{ops:Array Oper}:∀{l:List (Nat×Oper)} {fr:List AV} {H:AH} {k:List AV->AH->Option α},kOrd cfg cf kf f rid ops l fr H k=some r->∃q,qbM cfg cf f rid ops l fr H=some q∧k q.1 q.2=some r
 |[],fr,H,k,h=>⟨(fr,H),rfl,h⟩
 |p::l,fr,H,k,h=>by
  rw[kOrd]at h;obtain⟨b,h1,h⟩:=qcY h;rw[qbM,qb1,h1];simp only[qCe];rcases xQ h with⟨rfl,h⟩|⟨rfl,h⟩
  ·obtain⟨v,H',h2,h⟩:=qeS hkf h;simp only[if_true,h2,qCt,qCe];exact qgD hkf h
  ·simp only[qCg,if_false,qCe];exact qgD hkf h
theorem qkg{β:Type}{F:β->KE α->Option α}{E:β->Option (List AV×AH)}{G:List AV->AH->Option (Ex×List AV×AH)}(hF:∀o (k:KE α),F o k=some r->∃p q,E o=some p∧G p.1 p.2=some q∧k q.1 q.2.1 q.2.2=some r){g:Ex->List AV->AH->Ex×List AV×AH}{z:Ex×List AV×AH}{x:Option α}:∀{l:List β},qsr F g z l x=some r->∃L,l.map E=L.map some∧zf (λfr H=>(G fr H).map λq=>g q.1 q.2.1 q.2.2) z L=true∧x=some r
 |[],h=>⟨[],rfl,rfl,h⟩
 |o::l,h=>by
  obtain⟨p,q,h0,h1,h2⟩:=hF _ _ h;unfold kEqR at h2;split at h2
  case isFalse=>cases h2
  rename_i he;obtain⟨L,h3,h4,h5⟩:=qkg hF h2;refine⟨p::L,by rw[List.map_cons,List.map_cons,h0,h3],?_,h5⟩;simp only[zf,h1,qCt,←he,qo8,Bool.or_true,h4,qCx]
theorem qsx{β:Type}{F:β->KE α->Option α}{E:β->Option (List AV×AH)}{G:List AV->AH->Option (Ex×List AV×AH)}(hF:∀o (k:KE α),F o k=some r->∃p q,E o=some p∧G p.1 p.2=some q∧k q.1 q.2.1 q.2.2=some r){g:Ex->List AV->AH->Ex×List AV×AH}{k:KE α}{O:List β}(h:qxH F g k O=some r):
  ∃L q,O.map E=L.map some∧zC (λfr H=>(G fr H).map λq=>g q.1 q.2.1 q.2.2) L=some q∧k q.1 q.2.1 q.2.2=some r:=by
 cases O with
 |nil=>cases h
 |cons o l=>
  obtain⟨p,q,h0,h1,h2⟩:=hF _ _ h;obtain⟨L,h3,h4,h5⟩:=qkg hF h2;refine⟨p::L,g q.1 q.2.1 q.2.2,by rw[List.map_cons,List.map_cons,h0,h3],?_,h5⟩;simp only[zC,h1,qCt,qCe,h4,if_true]
theorem qmN{cfg:Cfg}{cf:Orac}{f rid:Nat}{ops:Array Oper}{fr:List AV}{H:AH}:∀{O:List (List (Nat×Oper))} {L:List (List AV×AH)},O.map (λo=>qbM cfg cf f rid ops o fr H)=L.map some->yw cfg cf f rid ops O fr H=some L
 |[],[],_=>rfl
 |[],_::_,h=>by cases h
 |_::_,[],h=>by cases h
 |o::O,q::L,h=>by
  rw[List.map_cons,List.map_cons,List.cons.injEq]at h;simp only[yw,h.1,qCe,qmN h.2,qCt]
theorem qck{cfg:Cfg}{cf:Orac}{kf:KF α}(hkf:KfOk cf kf){f:Nat}{rd:Option Nat}{bs:Nat}:∀(c:Code) {fr:List AV} {H:AH} {k:KE α},qG cfg cf kf f rd bs c fr H k=some r->∃q,evC cfg cf f rd bs c fr H=some q∧k q.1 q.2.1 q.2.2=some r:=by
 intro c
 induction c with
 |skip=>intro fr H k h;exact⟨(.normal,fr,H),by simp only[evC],by simpa only[qG]using h⟩
 |label l=>intro fr H k h;exact⟨(.normal,fr,H),by simp only[evC],by simpa only[qG]using h⟩
 |exit id=>intro fr H k h;exact⟨(.exit id,fr,H),by simp only[evC],by simpa only[qG]using h⟩
 |ret=>intro fr H k h;exact⟨(.ret,fr,H),by simp only[evC],by simpa only[qG]using h⟩
 |goto l=>intro fr H k h;simp only[qG]at h;cases h
 |refuse s=>intro fr H k h;simp only[qG]at h;cases h
 |region id ops draw=>
  intro fr H k h;simp only[qG]at h;simp only[evC];cases draw with
  |true=>
   simp only[cond_true]at h;simp only[if_true];obtain⟨h1,h⟩:=qo h;obtain⟨q,h2,h⟩:=qeY hkf h;obtain⟨h3,hz⟩:=qo h;exact⟨(.normal,q.2),by simp only[h1,if_true,h2,qCe,h3],hz⟩
  |false=>
   simp only[cond_false]at h;simp only[qCg,if_false];obtain⟨q,h2,hz⟩:=qgE hkf h;exact⟨(.normal,q),by simp only[h2,qCt],hz⟩
 |seq x y ihx ihy=>
  intro fr H k h;simp only[qG]at h;simp only[evC];cases hco:qb2 x with
  |some p=>
   rw[hco]at h;simp only at h⊢;split at h
   case h_2=>cases h
   rename_i O hO;obtain⟨L,q,h0,hq1,hq2⟩:=qsx (E:=λo=>qbM cfg cf f p.1 p.2 o fr H) (G:=λfr H=>evC cfg cf f rd bs y (vB (cfg.cut f (qh y)) fr) H) (λo k h=>by
    obtain⟨p',g1,g2⟩:=qgD hkf h;obtain⟨q',g3,g4⟩:=ihy g2;exact⟨p',q',g1,g3,g4⟩) h
   exact⟨q,by rw[qkM _ _ hO (qmN h0)];exact hq1,hq2⟩
  |none=>?_
  rw[hco]at h;simp only at h⊢;obtain⟨q,h1,h⟩:=ihx h;rw[h1];simp only[qCe];unfold kSeq at h;cases hq:q.1 with
  |normal=>simp only[hq]at h⊢;exact ihy (qqs h)
  |exit id=>simp only[hq]at h⊢;exact⟨_,rfl,h⟩
  |goto l=>simp only[hq]at h⊢;exact⟨_,rfl,h⟩
  |ret=>simp only[hq]at h⊢;exact⟨_,rfl,h⟩
 |cond cnd x y ihx ihy=>
  intro fr H k h;simp only[qG]at h;simp only[evC];obtain⟨b,h1,h⟩:=qcl h;rw[h1];simp only;rcases xQ h with⟨rfl,h⟩|⟨rfl,h⟩
  ·rw[qke h1]at h;simp only[if_true];exact ihx h
  ·rw[qke h1]at h;simp only[qCg,if_false];exact ihy h
 |block id x ih=>
  intro fr H k h;simp only[qG]at h;simp only[evC];obtain⟨q,h1,h⟩:=ih h;rw[h1];simp only[qCe];unfold qO at h;cases hq:q.1 with
  |normal=>simp only[hq]at h⊢;exact⟨_,rfl,by rw[hq];exact h⟩
  |exit id'=>
   simp only[hq]at h⊢;rcases xQ h with⟨h2,hz⟩|⟨h2,hz⟩
   ·exact⟨_,by simp only[h2,if_true];rfl,hz⟩
   ·exact⟨q,by simp only[h2,qCg,if_false],by rw[hq];exact hz⟩
  |goto l=>simp only[hq]at h⊢;exact⟨_,rfl,by rw[hq];exact h⟩
  |ret=>simp only[hq]at h⊢;exact⟨_,rfl,by rw[hq];exact h⟩
 |loop x ih=>
  intro fr H k h;simp only[qG]at h;simp only[evC];obtain⟨q,h1,hz⟩:=qA h;exact⟨(q.1,vB (cfg.keepOut f (qh x)) q.2.1,q.2.2),by rw[h1];rfl,hz⟩
 |scope x ih=>
  intro fr H k h;simp only[qG]at h;simp only[evC];obtain⟨q,h1,h⟩:=ih h;rw[h1];simp only[qCe];unfold qa0 at h;cases hq:q.1 with
  |goto l=>simp only[hq]at h;cases h
  |normal=>simp only[hq]at h⊢;exact⟨_,rfl,by rw[hq];exact h⟩
  |exit id=>simp only[hq]at h⊢;exact⟨_,rfl,by rw[hq];exact h⟩
  |ret=>simp only[hq]at h⊢;exact⟨_,rfl,by rw[hq];exact h⟩
 |rangeFunc g ps assign body=>
  intro fr H k h;simp only[qG]at h;simp only[evC];generalize (vr (cfg.lift f (qh body)) fr H).1=fr at h⊢;generalize (vr (cfg.lift f (qh body)) _ H).2=H at h⊢;unfold quC at h;obtain⟨h1,h⟩:=qo h;split at h
  case h_2=>cases h
  rename_i g' first caps hg;obtain⟨h2,h⟩:=qo h;obtain⟨q,h3,h⟩:=hkf _ _ _ _ _ h;unfold xG at h;obtain⟨b,h4,h⟩:=qA h;unfold qxF at h;split at h
  case h_2=>cases h
  rename_i pend st;have hx:¬(cfg.ext g').isSome=true:=by
   cases he:cfg.ext g' with
   |none=>simp
   |some s=>rw[he]at h2;cases h2
  have hst:st≠.busy:=by
   intro e;subst e;simp at h
  have hpk:qoE pend k (gc bs (vB (cfg.keepOut f (qh body)) fr) (q.2.set H.length .dead)).1 (gc bs (vB (cfg.keepOut f (qh body)) fr) (q.2.set H.length .dead)).2=some r:=by
   cases st with
   |busy=>exact absurd rfl hst
   |_=>exact h
  unfold zE;rw[qCM h1,hg];simp only[hx,h3,qCe,h4];unfold qoE at hpk;cases st with
  |busy=>exact absurd rfl hst
  |_=>
   cases pend with
   |none=>exact⟨_,rfl,hpk⟩
   |some c=>
    cases c<;>first|exact⟨_,rfl,hpk⟩|cases hpk
theorem qdm{cfg:Cfg}{fr:List AV}:∀{rs:List ResultVar} {k:List AV->Option α},kRes cfg fr H rs k=some r->∃vs,xE rs cfg.ty fr H=some vs∧k vs=some r
 |[],k,h=>⟨[],rfl,h⟩
 | .tmp t::l,k,h=>by
  rw[kRes]at h;obtain⟨vs,h1,hz⟩:=qdm h;exact⟨_,by simp only[xE,h1,qCt],hz⟩
 | .cell a t::l,k,h=>by
  rw[kRes]at h;split at h
  ·rename_i ti hti;obtain⟨v,h1,h⟩:=qeT h;have h2:=vO (k:=λv=>kRes cfg fr H l λvs=>k (v::vs)) h;obtain⟨vs,h3,hz⟩:=qdm h2;exact⟨_,by simp only[xE,hti,h1,qCe,h3,qCt],hz⟩
  ·cases h
variable {α : Type}
def fxGo(i:Nat)(l:List (Nat×AV)):Nat->List AV
 |0=>[]
 |n+1=>match l with
  |[]=>.junk::fxGo (i+1) [] n
  |p::l'=>if qCh p.1 i then p.2::fxGo (i+1) l' n else .junk::fxGo (i+1) (p::l') n
def fx(n:Nat)(l:List (Nat×AV)):List AV:=fxGo 0 l n
def qc(fn:Func):Code:=match fn.body with|some c=>c|none=>.skip
def sub:Code->List Nat->Code
 |c,[]=>c
 | .seq a b,i::l=>match i with|0=>sub a l|_=>sub b l
 | .cond _ a b,i::l=>match i with|0=>sub a l|_=>sub b l
 | .block _ a,_::l=>sub a l
 | .loop a,_::l=>sub a l
 | .scope a,_::l=>sub a l
 | .rangeFunc _ _ a b,i::l=>match i with|0=>sub a l|_=>sub b l
 |c,_=>c
def rngB(fn:Func)(f:Nat)(p:List Nat)(fr:List AV)(pend:Option Code)(st:LoopState):ABlk:=
 match sub (qc fn) p with
 | .rangeFunc _ ps a b=>.loop f fr ps.toList a b pend st
 |_=>.dead
def y3:Code->Array Oper
 | .region _ o _=>o
 |_=> #[]
def kLp(k:Nat)(ts:Option (List Tmp))(ls:List (Tmp×Nat))(L:Den)(A:Ex×List AV×AH->Option α):KE α:=λe fr H=>
 match e with
 | .normal=>kOpt (LOOP k ts ls L (yf k ts ls fr H)) A
 |e=>A (e,fr,H)
theorem qsl{cfg:Cfg}{kf:KF α}(hkf:KfOk (EV cfg) kf){f:Nat}{rd:Option Nat}{bs:Nat}{c:Code}{k:Nat}{ts:Option (List Tmp)}{ls:List (Tmp×Nat)}{A:Ex×List AV×AH->Option α}{fr:List AV}{H:AH}{r:α}(h:qG cfg (EV cfg) kf f rd bs c fr H (kLp k ts ls (evC cfg (EV cfg) f rd bs c) A)=some r):kOpt (LOOP k ts ls (evC cfg (EV cfg) f rd bs c) (fr,H)) A=some r:=by
 obtain⟨⟨e,fr1,H1⟩,h1,h2⟩:=qck hkf c h;cases e with
 |normal=>
  simp only[kLp]at h2;cases hl:LOOP k ts ls (evC cfg (EV cfg) f rd bs c) (yf k ts ls fr1 H1)with
  |none=>rw[hl]at h2;cases h2
  |some q=>
   rw[hl]at h2;rw[qvC (p:=(fr,H)) h1 hl];exact h2
 |exit id=>rw[qg5 (p:=(fr,H)) h1 (λx=>by intro h;cases h)];exact h2
 |goto l=>rw[qg5 (p:=(fr,H)) h1 (λx=>by intro h;cases h)];exact h2
 |ret=>rw[qg5 (p:=(fr,H)) h1 (λx=>by intro h;cases h)];exact h2
def vT(cfg:Cfg)(ls:List (Tmp×Nat))(g:AV->AH->Option α)(rs:List ResultVar):KE α:=λe fr H=>
 match e with
 | .normal=>kRes cfg (vr ls fr H).1 (vr ls fr H).2 rs λvs=>g (zc vs) (vr ls fr H).2
 | .ret=>kRes cfg (vr ls fr H).1 (vr ls fr H).2 rs λvs=>g (zc vs) (vr ls fr H).2
 |_=>none
def xS(cfg:Cfg)(ls:List (Tmp×Nat))(rs:List ResultVar):KE AV:=vT cfg ls (λv _=>some v) rs
def vL(cfg:Cfg)(ls:List (Tmp×Nat))(rs:List ResultVar):KE AV:=vT cfg ls (λv H=>qbF false H v some) rs
def kOv2(v:AV)(H:AH):Option (OV×AV):=
 match v with
 | .tup [a,s]=>qbF false H s λs'=>cond (s'.refsLt 0) (match ovOf (a,qQ s.msIds H)with|some o=>some (o,s')|none=>none) none
 |_=>none
theorem quD{v:AV}{H:AH}{r:OV×AV}(h:kOv2 v H=some r):qno (v,H)=some r:=by
 unfold kOv2 at h;unfold qno;split at h
 ·rename_i a s;exact qbZ (k:=λs'=>cond (s'.refsLt 0) (match ovOf (a,qQ s.msIds H)with|some o=>some (o,s')|none=>none) none) h
 ·cases h
def qko(cfg:Cfg)(ls:List (Tmp×Nat))(rs:List ResultVar):KE (OV×AV):=vT cfg ls kOv2 rs
def vI(cfg:Cfg)(sz:Nat)(ls:List (Tmp×Nat))(rs:List ResultVar):KE (MV×List (List AV)):=vT cfg ls (λv H=>(qj4 sz (v,H)).bind λq=>(mvOf q.1).map λv=>(v,q.2)) rs
def qBU(cfg:Cfg)(ls:List (Tmp×Nat))(rs:List ResultVar):KE (AV×AH):=vT cfg ls (λv H=>some (v,H)) rs
def qa2(cfg:Cfg)(cf:Orac)(kf:KF α)(f:Nat)(fn:Func)(c:Code)(args:List AV)(H:AH)(fin:KE α):Option α:=
 qG cfg cf kf f none H.length c (args++qCr (fn.ntmps - args.length) .junk) H fin
theorem qiv{cfg:Cfg}{kf:KF α}(hkf:KfOk (EV cfg) kf){g:AV->AH->Option α}{f:Nat}{fn:Func}{args:List AV}{H:AH}{r:α}(hx:cfg.ext f=none)(hk:cfg.known f=true)(hf:cfg.P.funcs[f]? =some fn)(hb:fn.body=some (qc fn))(h:qa2 cfg (EV cfg) kf f fn (qc fn) args H (vT cfg (cfg.lift f 0) g fn.results.toList)=some r):∃v H',EV cfg (.f f) args H=some (v,H')∧g v H'=some r:=by
 unfold qa2 at h;obtain⟨q,h1,h⟩:=qck hkf _ h;have key:∀(vs:List AV),xE fn.results.toList cfg.ty (vr (cfg.lift f 0) q.2.1 q.2.2).1 (vr (cfg.lift f 0) q.2.1 q.2.2).2=some vs->(q.1= .normal∨q.1= .ret)->EV cfg (.f f) args H=some (zc vs,(vr (cfg.lift f 0) q.2.1 q.2.2).2):=by
  intro vs h2 hq;refine qhN ?_;unfold xn;simp only[hx,hk,if_true,hf,hb,h1,qCe];unfold qb0;rcases hq with hq|hq<;>simp only[hq,h2,qCt]
 unfold vT at h;split at h
 ·rename_i hq;obtain⟨vs,h2,h⟩:=qdm h;exact⟨_,_,key vs h2 (.inl hq),h⟩
 ·rename_i hq;obtain⟨vs,h2,h⟩:=qdm h;exact⟨_,_,key vs h2 (.inr hq),h⟩
 ·cases h
def kY2(id:Nat)(K:AV×AH->Option α):KE α:=λe _ H=>
 kOpt H[id]? λb=>match b with
  | .loop f fr ps a b _ _=>(match e with
   | .normal=>K (.bool true,H.set id (.loop f fr ps a b none .ready))
   | .ret=>K (.bool false,H.set id (.loop f fr ps a b (some .ret) .done))
   | .exit x=>K (.bool false,H.set id (.loop f fr ps a b (some (.exit x)) .done))
   | .goto _=>none)
  |_=>none
def kY1(cfg:Cfg)(cf:Orac)(kf:KF α)(bs f id:Nat)(body:Code)(K:AV×AH->Option α):KE α:=λe fr H=>
 match e with
 | .normal=>kOpt H[id]? λb=>match b with
  | .loop f' fr' ps' a' b' p' st=>(match st with
   | .ready=>qG cfg cf kf f (some id) bs body fr (H.set id (.loop f' fr' ps' a' b' p' .busy)) (kY2 id K)
   |_=>none)
  |_=>none
 |_=>none
def kY(cfg:Cfg)(cf:Orac)(kf:KF α)(id:Nat)(args:List AV)(H:AH)(K:AV×AH->Option α):Option α:=
 kOpt H[id]? λb=>match b with
  | .loop f fr ps assign body _ st=>(match st with
   | .ready=>cond (qCh args.length ps.length) (qG cfg cf kf f (some id) H.length assign (yj fr ps args) H (kY1 cfg cf kf H.length f id body K)) none
   |_=>none)
  |_=>none
theorem qwy{cfg:Cfg}{kf:KF α}(hkf:KfOk (EV cfg) kf){id:Nat}{args:List AV}{H:AH}{K:AV×AH->Option α}{r:α}(h:kY cfg (EV cfg) kf id args H K=some r):∃q,EV cfg (.y id) args H=some q∧K q=some r:=by
 unfold kY at h;obtain⟨b,h1,h⟩:=qA h;cases b with
 |loop f fr ps assign body pend st=>
  simp only at h;cases st with
  |ready=>
   simp only at h;obtain⟨h2,h⟩:=qo h;obtain⟨q,h3,h⟩:=qck hkf _ h;unfold kY1 at h;cases hq:q.1 with
   |normal=>
    rw[hq]at h;simp only at h;obtain⟨b,h4,h⟩:=qA h;cases b with
    |loop f' fr' ps' a' b' p' st'=>
     simp only at h;cases st' with
     |ready=>
      simp only at h;obtain⟨q2,h5,h⟩:=qck hkf _ h;unfold kY2 at h;obtain⟨b,h6,h⟩:=qA h;cases b with
      |loop f2 fr2 ps2 a2 b2 p2 st2=>
       have key:∀q',xn cfg (EV cfg) (.y id) args H=some q'->K q'=some r->∃q,EV cfg (.y id) args H=some q∧K q=some r:=λq' h8 h9=>⟨q',qhN h8,h9⟩
       cases hq2:q2.1 with
       |normal=>
        rw[hq2]at h;refine key _ ?_ h;unfold xn;simp only[h1,qCM (qB9 h2),h3,qCe,hq,h4,h5,h6,hq2]
       |ret=>
        rw[hq2]at h;refine key _ ?_ h;unfold xn;simp only[h1,qCM (qB9 h2),h3,qCe,hq,h4,h5,h6,hq2]
       |exit x=>
        rw[hq2]at h;refine key _ ?_ h;unfold xn;simp only[h1,qCM (qB9 h2),h3,qCe,hq,h4,h5,h6,hq2]
       |goto x=>rw[hq2]at h;cases h
      |_=>cases h
     |_=>cases h
    |_=>cases h
   |_=>rw[hq]at h;cases h
  |_=>cases h
 |_=>cases h
class InlOk (cfg:Cfg):Prop where
 ok:∀f fn,cfg.inl f=some fn->cfg.ext f=none∧cfg.known f=true∧cfg.P.funcs[f]? =some fn∧fn.body=some (qc fn)
def qec(f:Nat):List (Nat×Func)->Option Func
 |[]=>none
 |p::l=>if qCh p.1 f then some p.2 else qec f l
def qvD(cfg:Cfg):List (Nat×Func)->Prop
 |[]=>True
 |p::l=>(cfg.ext p.1=none∧cfg.known p.1=true∧cfg.P.funcs[p.1]? =some p.2∧p.2.body=some (qc p.2))∧qvD cfg l
theorem InlOk.of{cfg:Cfg}(tab:List (Nat×Func))(h:∀f,cfg.inl f=qec f tab)(ha:qvD cfg tab):InlOk cfg where
 ok:=by
  intro f fn hf;rw[h]at hf;clear h
  induction tab with
  |nil=>cases hf
  |cons p l ih=>
   rw[qec]at hf;split at hf
   ·rename_i e;have e:=qB9 e;cases hf;rw[←e];exact ha.1
   ·exact ih ha.2 hf
def kfN(cfg:Cfg):Nat->KF α
 |0=>λt a H k=>kOpt (EV cfg t a H) k
 |n+1=>λt a H k=>match t with
  | .f f=>(match cfg.inl f with
   |some fn=>qa2 cfg (EV cfg) (kfN cfg n) f fn (qc fn) a H (vT cfg (cfg.lift f 0) (λv H=>k (v,H)) fn.results.toList)
   |none=>kOpt (EV cfg (.f f) a H) k)
  | .y id=>kY cfg (EV cfg) (kfN cfg n) id a H k
theorem qkf{cfg:Cfg}[InlOk cfg]:∀n,KfOk (α:=α) (EV cfg) (kfN cfg n)
 |0=>λt a H k r h=>qA h
 |n+1=>λt a H k r h=>by
  unfold kfN at h;cases t with
  |f f=>
   simp only at h;split at h
   ·rename_i fn hf;obtain⟨o1,o2,o3,o4⟩:=InlOk.ok f fn hf;obtain⟨v,H',h1,h2⟩:=qiv (qkf n) o1 o2 o3 o4 h;exact⟨_,h1,h2⟩
   ·exact qA h
  |y id=>exact qwy (qkf n) h
theorem ql{cfg:Cfg}[InlOk cfg]{f:Nat}{rd:Option Nat}{bs:Nat}{c:Code}{k:Nat}{ts:Option (List Tmp)}{ls:List (Tmp×Nat)}{A:Ex×List AV×AH->Option α}{fr:List AV}{H:AH}{r:α}(h:qG cfg (EV cfg) (kfN cfg 6) f rd bs c fr H (kLp k ts ls (evC cfg (EV cfg) f rd bs c) A)=some r):kOpt (LOOP k ts ls (evC cfg (EV cfg) f rd bs c) (fr,H)) A=some r:=qsl (qkf 6) h
theorem zn{cfg:Cfg}[InlOk cfg]{g:AV->AH->Option α}{f:Nat}{fn:Func}{args:List AV}{H:AH}{r:α}(hx:cfg.ext f=none)(hk:cfg.known f=true)(hf:cfg.P.funcs[f]? =some fn)(hb:fn.body=some (qc fn))(h:qa2 cfg (EV cfg) (kfN cfg 6) f fn (qc fn) args H (vT cfg (cfg.lift f 0) g fn.results.toList)=some r):∃v H',EV cfg (.f f) args H=some (v,H')∧g v H'=some r:=qiv (qkf 6) hx hk hf hb h
def Gets{β:Type}(o:Option β)(P:β->Prop):Prop:=∃r,o=some r∧P r
theorem Gets.ev{β:Type}{o o':Option β}{P:β->Prop}(h:∀r,o=some r->o'=some r)(hy:Gets o P):Gets o' P:=by
 obtain⟨r,h1,h2⟩:=hy;exact⟨r,h r h1,h2⟩
theorem Gets.eq{β:Type}{o o':Option β}{P:β->Prop}(h:o'=o)(hy:Gets o P):Gets o' P:=h▸hy
theorem gE{β:Type}{o o' x:Option β}{P:β->Prop}(f:∀r,o=some r->o'=some r)(e:o=x)(h:Gets x P):Gets o' P:=Gets.ev f (Gets.eq e h)
theorem Gets.mono{β:Type}{o:Option β}{P Q:β->Prop}(h:Gets o P)(hq:∀b,P b->Q b):Gets o Q:=by
 obtain⟨r,h1,h2⟩:=h;exact⟨r,h1,hq r h2⟩
theorem Gets.bind{β γ:Type}{o:Option β}{k:β->Option γ}{Q:β->Prop}{P:γ->Prop}(h:Gets o Q)(hk:∀b,Q b->Gets (k b) P):Gets (kOpt o k) P:=by
 obtain⟨r,h1,h2⟩:=h;subst h1;exact hk r h2
@[simp] theorem gets_some{β:Type}{a:β}{P:β->Prop}:Gets (some a) P↔P a:=⟨fun⟨r,h1,h2⟩=>by cases h1;exact h2,λh=>⟨a,rfl,h⟩⟩
theorem Gets.get{β:Type}{o:Option β}{a:β}(h:Gets o (·=a)):o=some a:=by
 obtain⟨r,h1,h2⟩:=h;rw[h1,h2]
theorem qvE{cfg:Cfg}{f:Nat}{args:List AV}{v:AV}{H:AH}(h:EV cfg (.f f) args []=some (v,H)):EVs (EV cfg) f args=some v:=by unfold EVs;rw[h];rfl
theorem qA7{cfg:Cfg}{f:Nat}{args:List AV}{v v':AV}{H:AH}(h:EV cfg (.f f) args []=some (v',H))(e:(v'.frz v'.msIds H).fg=v):EVf (EV cfg) f args=some v:=by unfold EVf;rw[h];exact congrArg some e
theorem funS{cfg:Cfg}[InlOk cfg]{f:Nat}{fn:Func}{args:List AV}{r:AV}(hx:cfg.ext f=none)(hk:cfg.known f=true)(hf:cfg.P.funcs[f]? =some fn)(hb:fn.body=some (qc fn))(h:qa2 cfg (EV cfg) (kfN cfg 6) f fn (qc fn) args [] (xS cfg (cfg.lift f 0) fn.results.toList)=some r):EVs (EV cfg) f args=some r:=by
 obtain⟨v,H',h1,h2⟩:=zn hx hk hf hb h;cases h2;exact qvE h1
theorem funF{cfg:Cfg}[InlOk cfg]{f:Nat}{fn:Func}{args:List AV}{r:AV}(hx:cfg.ext f=none)(hk:cfg.known f=true)(hf:cfg.P.funcs[f]? =some fn)(hb:fn.body=some (qc fn))(h:qa2 cfg (EV cfg) (kfN cfg 6) f fn (qc fn) args [] (vL cfg (cfg.lift f 0) fn.results.toList)=some r):EVf (EV cfg) f args=some r:=by
 obtain⟨v,H',h1,h2⟩:=zn hx hk hf hb h;exact qA7 h1 (Option.some.inj (qbZ h2))
theorem funQ{cfg:Cfg}[InlOk cfg]{f:Nat}{fn:Func}{args:List AV}{r:OV×AV}(hx:cfg.ext f=none)(hk:cfg.known f=true)(hf:cfg.P.funcs[f]? =some fn)(hb:fn.body=some (qc fn))(h:qa2 cfg (EV cfg) (kfN cfg 6) f fn (qc fn) args [] (qko cfg (cfg.lift f 0) fn.results.toList)=some r):EVq (EV cfg) f args=some r:=by
 obtain⟨v,H',h1,h2⟩:=zn hx hk hf hb h;unfold EVq;rw[h1];exact quD h2
theorem funM{cfg:Cfg}[InlOk cfg]{f sz:Nat}{fn:Func}{args:List AV}{rows:List (List AV)}{r:MV×List (List AV)}(hx:cfg.ext f=none)(hk:cfg.known f=true)(hf:cfg.P.funcs[f]? =some fn)(hb:fn.body=some (qc fn))(h:qa2 cfg (EV cfg) (kfN cfg 6) f fn (qc fn) args [.rows true sz rows] (vI cfg sz (cfg.lift f 0) fn.results.toList)=some r):EVm (EV cfg) f args sz rows=some r:=by
 obtain⟨v,H',h1,h2⟩:=zn hx hk hf hb h;unfold EVm;rw[h1];exact h2
def yh(cfg:Cfg)(sz:Nat)(ls:List (Tmp×Nat))(rs:List ResultVar):KE (AV×List (List AV)):=vT cfg ls (λv H=>qdn H 0 λd sz' rows=>
 cond (d&&qCh sz' sz&&qbs v.msIds) (qbF false H v λv'=>cond (v'.refsLt 0) (some (v',rows)) none) none) rs
theorem funD{cfg:Cfg}[InlOk cfg]{f sz:Nat}{fn:Func}{args:List AV}{rows:List (List AV)}{r:AV×List (List AV)}(hx:cfg.ext f=none)(hk:cfg.known f=true)(hf:cfg.P.funcs[f]? =some fn)(hb:fn.body=some (qc fn))(h:qa2 cfg (EV cfg) (kfN cfg 6) f fn (qc fn) args [.rows true sz rows] (yh cfg sz (cfg.lift f 0) fn.results.toList)=some r):EVd (EV cfg) f args sz rows=some r:=by
 obtain⟨v,H',h1,h2⟩:=zn hx hk hf hb h;unfold EVd;rw[h1];obtain⟨d,sz',rs',h3,h4⟩:=qad h2;obtain⟨h5,h6⟩:=qo h4;have h7:=qbZ (k:=λv'=>cond (v'.refsLt 0) (some (v',rs')) none) h6;obtain⟨h8,h9⟩:=qo h7;simp only[qB2]at h5;obtain⟨⟨hd,hs⟩,hn⟩:=h5;subst hd;cases H' with
 |nil=>simp at h3
 |cons b l=>
  simp only[qCC,Option.some.injEq]at h3;subst h3;simp only[qCe,qkz,hs,hn,h8,qCx,if_true];exact h9
def qxG(cfg:Cfg)(sz:Nat)(ls:List (Tmp×Nat))(rs:List ResultVar):KE (AV×List (List AV)):=vT cfg ls (λv H=>qdn H 0 λd sz' rows=>
 cond (!d&&qCh sz' sz&&qbs v.msIds&&yy [0] (yu 0 rows)) (qbF false H v λv'=>cond (v'.refsLt 0) (some (v',rows)) none) none) rs
theorem funX{cfg:Cfg}[InlOk cfg]{f sz:Nat}{fn:Func}{args:List AV}{rows:List (List AV)}{r:AV×List (List AV)}(hx:cfg.ext f=none)(hk:cfg.known f=true)(hf:cfg.P.funcs[f]? =some fn)(hb:fn.body=some (qc fn))(h:qa2 cfg (EV cfg) (kfN cfg 6) f fn (qc fn) args [.rows false sz rows] (qxG cfg sz (cfg.lift f 0) fn.results.toList)=some r):EVx (EV cfg) f args sz rows=some r:=by
 obtain⟨v,H',h1,h2⟩:=zn hx hk hf hb h;unfold EVx;rw[h1];obtain⟨d,sz',rs',h3,h4⟩:=qad h2;obtain⟨h5,h6⟩:=qo h4;have h7:=qbZ (k:=λv'=>cond (v'.refsLt 0) (some (v',rs')) none) h6;obtain⟨h8,h9⟩:=qo h7;simp only[qB2,Bool.not_eq_true']at h5;obtain⟨⟨⟨hd,hs⟩,hn⟩,ha⟩:=h5;subst hd;cases H' with
 |nil=>simp at h3
 |cons b l=>
  simp only[qCC,Option.some.injEq]at h3;subst h3;simp only[qCe,qjL,hs,hn,h8,ha,qCx,if_true];exact h9
theorem funA{cfg:Cfg}[InlOk cfg]{f:Nat}{fn:Func}{args:List AV}{H:AH}{r:AV×AH}(hx:cfg.ext f=none)(hk:cfg.known f=true)(hf:cfg.P.funcs[f]? =some fn)(hb:fn.body=some (qc fn))(h:qa2 cfg (EV cfg) (kfN cfg 6) f fn (qc fn) args H (qBU cfg (cfg.lift f 0) fn.results.toList)=some r):EV cfg (.f f) args H=some r:=by
 obtain⟨v,H',h1,h2⟩:=zn hx hk hf hb h;cases h2;exact h1
@[simp] theorem nble(a b:Nat):qB4 a b=decide (a<=b):=by
 rcases h:qB4 a b with _|_
 ·rw[eq_comm,decide_eq_false_iff_not];intro h';rw[Nat.ble_eq_true_of_le h']at h;cases h
 ·rw[eq_comm,decide_eq_true_eq];exact Nat.le_of_ble_eq_true h
@[simp] theorem nbeq(a b:Nat):qCh a b=decide (a=b):=by
 rcases h:qCh a b with _|_
 ·rw[eq_comm,decide_eq_false_iff_not];intro h';rw[h',qCw]at h;cases h
 ·rw[eq_comm,decide_eq_true_eq];exact qB9 h
@[simp] theorem leInt_eq(a b:Int):qd a b=decide (a<=b):=rfl
@[simp] theorem ltInt_eq(a b:Int):qe a b=decide (a<b):=rfl
theorem beqD{β:Type}[BEq β][LawfulBEq β][DecidableEq β](a b:β):(a==b)=decide (a=b):=by
 by_cases h:a=b
 ·subst h;simp
 ·simp[h]
theorem bneD{β:Type}[BEq β][LawfulBEq β][DecidableEq β](a b:β):(a != b)= !decide (a=b):=by rw[bne,beqD]
def AV.IsInt(v:AV):Prop:=∃n,v= .int .i64 n
def AV.IsBool(v:AV):Prop:=∃b,v= .bool b
@[simp] theorem isInt_int(n:Int):(AV.int .i64 n).IsInt:=⟨n,rfl⟩
@[simp] theorem isBool_bool(b:Bool):(AV.bool b).IsBool:=⟨b,rfl⟩
@[simp] theorem qb{β:Type}(b:β)(k:β->Option α):kOpt (some b) k=k b:=rfl
@[simp] theorem kOptNone{β:Type}(k:β->Option α):kOpt none k=none:=rfl
@[simp] theorem qgI(kd:IntKind)(n:Int)(k:Int->Option α):qa1 kd (.int kd n) k=k n:=by simp[qa1,zR]
@[simp] theorem qi(kd:IntKind)(n:Int)(k:Int->Option α):kInt kd (.int kd n) k=k n:=by simp[kInt,zR]
@[simp] theorem qp(b:Bool)(k:Bool->Option α):qr (.bool b) k=k b:=rfl
@[simp] theorem zm(s:List UInt8)(k:List UInt8->Option α):kStr (.str s) k=k s:=rfl
@[simp] theorem kAgg_agg(cs:List AV)(k:List AV->Option α):kAgg (.agg cs) k=k cs:=rfl
@[simp] theorem vq(c:AV)(cs:List AV)(k:AV->List AV->Option α):qf (c::cs) k=k c cs:=rfl
@[simp] theorem kConsH_cons(c:ABlk)(cs:AH)(k:ABlk->AH->Option α):qz2 (c::cs) k=k c cs:=rfl
@[simp] theorem kNilH_nil(x:Option α):qBS [] x=x:=rfl
@[simp] theorem kConsR_cons(c:List AV)(cs:List (List AV))(k:List AV->List (List AV)->Option α):qz1 (c::cs) k=k c cs:=rfl
@[simp] theorem kNilR_nil(x:Option α):qBR [] x=x:=rfl
@[simp] theorem kRowsB_rows(d:Bool)(n:Nat)(rs:List (List AV))(k:Bool->Nat->List (List AV)->Option α):qzZ (.rows d n rs) k=k d n rs:=rfl
@[simp] theorem kMpB_mp(d:Bool)(es:List (AV×AV))(k:Bool->List (AV×AV)->Option α):kMpB (.mp d es) k=k d es:=rfl
@[simp] theorem kMsE_ms(a b c:Nat)(k:Nat->Nat->Nat->Option α):kMsE (.ms a b c) k=k a b c:=rfl
@[simp] theorem kMpE_mp(a:Nat)(k:Nat->Option α):kMpE (.mp a) k=k a:=rfl
@[simp] theorem kPtrE_ptr(a b c:Nat)(k:Nat->Nat->Nat->Option α):qBQ (.ptr a b c) k=k a b c:=rfl
@[simp] theorem kFound_none(x:Option α)(y:Nat->AV->Option α):qeb none x y=x:=rfl
@[simp] theorem kFound_some'(p:Nat×AV)(x:Option α)(y:Nat->AV->Option α):qeb (some p) x y=y p.1 p.2:=rfl
@[simp] theorem zS(cs:List AV)(k:List AV->Option α):kTup (.tup cs) k=k cs:=rfl
@[simp] theorem beqB_ff:beqB false false=true:=rfl
@[simp] theorem beqB_tt:beqB true true=true:=rfl
@[simp] theorem nbeq_self(n:Nat):qCh n n=true:=qCw n
@[simp] theorem vR(x:Option α):kNil [] x=x:=rfl
@[simp] theorem kMSl_nil(x:Option α)(k:Nat->Nat->Option α):kMSl .nil x k=x:=rfl
@[simp] theorem qyf(off len:Nat)(x:Option α)(k:Nat->Nat->Option α):kMSl (.sl off len) x k=k off len:=rfl
@[simp] theorem qU(x:Option α):qx .unit x=x:=rfl
@[simp] theorem xa(b:Bool)(k:Bool->Option α):xA (.bool b) k=k b:=rfl
@[simp] theorem kOwn_nil(x:Option α)(k:Nat->List (List AV)->Nat->Nat->Option α):kOwn .nil x k=x:=rfl
@[simp] theorem qoF(sz:Nat)(rs:List (List AV))(off len:Nat)(x:Option α)(k:Nat->List (List AV)->Nat->Nat->Option α):kOwn (.own sz rs off len) x k=k sz rs off len:=rfl
@[simp] theorem vt(rs:List (List AV))(k:List (List AV)->Option α):kSl (.sl rs) k=k rs:=rfl
@[simp] theorem qv{β:Type}(l:List β)(i:Nat):qB0 l i=l[i]? :=rfl
noncomputable section
variable {α β : Type}
def qbL(b:Bool)(k:Bool->α):α:=match b with|true=>k true|false=>k false
def fNat(n:Nat)(k:Nat->α):α:=match n with|0=>k 0|m+1=>k (m+1)
def fInt(n:Int)(k:Int->α):α:=match n with| .ofNat m=>fNat m λm=>k (.ofNat m)| .negSucc m=>fNat m λm=>k (.negSucc m)
def fL(g:β->(β->α)->α):List β->(List β->α)->α
 |[],k=>k []
 |a::l,k=>g a λa'=>fL g l λl'=>k (a'::l')
def qsS(kd:IntKind)(k:IntKind->α):α:=match kd with
 | .i64=>k .i64
 | .u64=>k .u64
 | .u8=>k .u8
 | .i32=>k .i32
 | .u32=>k .u32
 |x=>k x
def qkI(b:UInt8)(k:UInt8->α):α:=fNat b.toNat λn=>k (UInt8.ofNat n)
def fAV:Nat->AV->(AV->α)->α
 |0,v,k=>k v
 |n+1,v,k=>match v with
  | .int kd m=>qsS kd λkd=>fInt m λm=>k (.int kd m)
  | .bool b=>qbL b λb=>k (.bool b)
  | .str s=>fL qkI s λs=>k (.str s)
  | .agg cs=>fL (fAV n) cs λcs=>k (.agg cs)
  | .tup cs=>fL (fAV n) cs λcs=>k (.tup cs)
  | .nilS=>k .nilS
  | .sl rows=>fL (fL (fAV n)) rows λrows=>k (.sl rows)
  | .em=>k .em
  | .ms a b c=>fNat a λa=>fNat b λb=>fNat c λc=>k (.ms a b c)
  | .nilP=>k .nilP
  | .ptr a b c=>fNat a λa=>fNat b λb=>fNat c λc=>k (.ptr a b c)
  | .cptr cs o=>fL (fAV n) cs λcs=>fNat o λo=>k (.cptr cs o)
  | .fn f a b=>fL (fAV n) a λa=>fL (fAV n) b λb=>k (.fn f a b)
  | .yld a=>fNat a λa=>k (.yld a)
  | .nilF=>k .nilF
  | .nilM=>k .nilM
  | .mp a=>fNat a λa=>k (.mp a)
  | .nilI=>k .nilI
  | .ifc t v=>fAV n v λv=>k (.ifc t v)
  | .junk=>k .junk
  | .lsl r=>k (.lsl r)
  | .lpt c o=>k (.lpt c o)
  | .rsl i r=>k (.rsl i r)
  | .rpt i c o=>k (.rpt i c o)
  | .alt l=>k (.alt l)
  | .wr a b=>k (.wr a b)
def fB(b:ABlk)(k:ABlk->α):α:=match b with
 | .rows d sz rs=>qbL d λd=>fNat sz λsz=>fL (fL (fAV 1)) rs λrs=>k (.rows d sz rs)
 | .froz d sz rs=>qbL d λd=>fNat sz λsz=>fL (fL (fAV 1)) rs λrs=>k (.froz d sz rs)
 | .mp d es=>qbL d λd=>fL (fun(e:AV×AV) k=>k e) es λes=>k (.mp d es)
 | .loop f fr ps a b p s=>fL (fAV 1) fr λfr=>k (.loop f fr ps a b p s)
 | .dead=>k .dead
 | .res=>k .res
 | .reg=>k .reg
 | .spl=>k .spl
 | .bld T e s=>k (.bld T e s)
def fH(H:AH)(k:AH->α):α:=fL fB H k
theorem qbb{g:β->(β->α)->α}(hg:∀b k,g b k=k b):∀(l:List β) (k:List β->α),fL g l k=k l
 |[],_=>rfl
 |a::l,k=>by rw[fL,hg,qbb hg l]
theorem qc4(b:Bool)(k:Bool->α):qbL b k=k b:=by cases b<;>rfl
theorem yp(b:Nat)(k:Nat->α):fNat b k=k b:=by cases b<;>rfl
theorem qrg(b:Int)(k:Int->α):fInt b k=k b:=by cases b<;>simp only[fInt,yp]
theorem qo4(b:IntKind)(k:IntKind->α):qsS b k=k b:=by cases b<;>rfl
theorem qiY(b:UInt8)(k:UInt8->α):qkI b k=k b:=by simp[qkI,yp]
theorem qkJ:∀(n:Nat) (v:AV) (k:AV->α),fAV n v k=k v
 |0,_,_=>rfl
 |n+1,v,k=>by
  have e1:∀(l:List AV) (k:List AV->α),fL (fAV n) l k=k l:=qbb (qkJ n);have e2:∀(l:List (List AV)) (k:List (List AV)->α),fL (fL (fAV n)) l k=k l:=qbb e1;cases v<;>simp only[fAV,qo4,qrg,qc4,yp,e1,e2,qbb qiY,qkJ n]
theorem qBW(b:ABlk)(k:ABlk->α):fB b k=k b:=by
 have e1:∀(l:List AV) (k:List AV->α),fL (fAV 1) l k=k l:=qbb (qkJ 1);have e2:∀(l:List (List AV)) (k:List (List AV)->α),fL (fL (fAV 1)) l k=k l:=qbb e1;cases b<;>simp only[fB,qc4,yp,e1,e2,qbb (g:=fun(e:AV×AV) (k:AV×AV->α)=>k e) (λ_ _=>rfl)]
theorem qny(H:AH)(k:AH->α):fH H k=k H:=qbb qBW H k
def fFr(fr:List AV)(k:List AV->α):α:=fL (λv k=>match v with| .junk=>k .junk|v=>k v) fr k
theorem qc3(fr:List AV)(k:List AV->α):fFr fr k=k fr:=qbb (λv k=>by cases v<;>rfl) fr k
def qBH(c a b:AV)(H:AH):Option (AV×AH):=
 match c with
 | .bool t=>some (if t then a else b,H)
 |_=>none
def qzL(cfg:Cfg)(nid:Option Nat)(t:TypeId)(H:AH):Option (AV×AH):=
 match cfg.ty t with
 |some ti=>
  if vY ti.zero then
   match aNew nid H (qaG cfg t ti.zero)with
   |some (k,H')=>some (.ptr k 0 0,H')
   |none=>none
  else none
 |none=>none
def xBox(cfg:Cfg)(t:TypeId)(nid:Option Nat)(a:AV)(H:AH):Option (AV×AH):=
 match a.cells with
 |some cs=>
  match aNew nid H (qda cfg t cs)with
  |some (k,H')=>some (.ptr k 0 0,H')
  |none=>none
 |none=>none
def qzK(cfg:Cfg)(t:TypeId)(parts:List (Nat×AV))(H:AH):Option (AV×AH):=
 match cfg.ty t with
 |some ti=>
  if vY ti.zero then
   match ti.d with
   | .struct fs=>
    match zL cfg fs with
    |some ps=>(qbP (λi=>ps[i]?) ti.zero parts).map λcs=>(.agg (cfg.fga t cs),H)
    |none=>none
   | .array _ e=>
    match cfg.sz e with
    |some n=>(qbP (λi=>some (i*n,n)) ti.zero parts).map λcs=>(.agg cs,H)
    |none=>none
   |_=>none
  else none
 |none=>none
def qhR(cfg:Cfg)(nid:Option Nat)(t:TypeId)(len:Nat)(parts:List (Nat×AV))(H:AH):Option (AV×AH):=
 match cfg.td t with
 |some (.slice e)=>
  match cfg.ty e with
  |some ei=>
   if za ei&&qB4 (len*ei.sz) 16777216 then
    match qbh ei.sz (qCr len ei.zero) parts with
    |some rows=>
     match aNew nid H (.rows (qI 0 rows) ei.sz rows)with
     |some (k,H')=>some (.ms k 0 len,H')
     |none=>none
    |none=>none
   else none
  |none=>none
 |_=>none
def qBI(cfg:Cfg)(t:TypeId)(a:AV)(H:AH):Option (AV×AH):=
 match cfg.ty t with
 |some ti=>(zt ti.d.agg ti.sz H a).map λv=>(v,H)
 |none=>none
def qzI(cfg:Cfg)(t:TypeId)(a v:AV)(H:AH):Option (AV×AH):=
 match cfg.sz t with
 |some n=>(zg n H a v).map λH'=>(.junk,H')
 |none=>none
def xNil(a:AV)(H:AH):Option (AV×AH):=
 match a with
 | .ptr id r off=>some (.ptr id r off,H)
 | .cptr cs off=>some (.cptr cs off,H)
 | .fn (.func f) a b=>some (.fn (.func f) a b,H)
 | .mp id=>some (.mp id,H)
 | .yld id=>some (.yld id,H)
 |_=>none
def qvK(t:AV)(i:Nat)(H:AH):Option (AV×AH):=
 match t with
 | .tup vs=>(vs[i]?).map λv=>(v,H)
 |_=>none
def xOp(cfg:Cfg)(nid:Option Nat)(o:Op)(ty:TypeId)(x:Operand->AV)(H:AH):Option (AV×AH):=
 match o with
 | .move a| .assign a=>some (x a,H)
 | .pick c a b=>qBH (x c) (x a) (x b) H
 | .alloc t=>qzL cfg nid t H
 | .box t a=>xBox cfg t nid (x a) H
 | .build t parts=>qzK cfg t (parts.toList.map λp=>(p.1,x p.2)) H
 | .buildSlice t len parts=>qhR cfg nid t len (parts.toList.map λp=>(p.1,x p.2)) H
 | .load t a=>qBI cfg t (x a) H
 | .store t a v=>qzI cfg t (x a) (x v) H
 | .nilCheck a=>xNil (x a) H
 | .binOp op t a b _=>(aBin cfg (litN a b) op t (x a) (x b)).map λv=>(v,H)
 | .unOp op _ a=>(aUn op (x a)).map λv=>(v,H)
 | .convert s d a=>yW cfg nid s d (x a) H
 | .makeFunc f first caps=>some (.fn f (first.toList.map x) (caps.toList.map x),H)
 | .makeSlice t l c=>qao cfg nid t (x l) (x c) H
 | .slice t a lo hi mx=>(qbg cfg t H (x a) (lo.map x) (hi.map x) (mx.map x)).map λv=>(v,H)
 | .fieldAddr t a f=>(qai cfg t (x a) f).map λv=>(v,H)
 | .field t a f=>(qek cfg t (x a) f).map λv=>(v,H)
 | .indexAddr t a i=>(yi cfg t H (x a).unwr (x i)).map λv=>(v,H)
 | .index t a i=>(qej cfg t (x a) (x i)).map λv=>(v,H)
 | .extract t i=>qvK (x t) i H
 |o=>evOp cfg nid o ty x H
theorem qtu(cfg:Cfg)(nid:Option Nat)(o:Op)(ty:TypeId)(x:Operand->AV)(H:AH):xOp cfg nid o ty x H=evOp cfg nid o ty x H:=by cases o<;>rfl
def qzJ(cfg:Cfg)(cf:Orac)(nid:Option Nat)(f:AV)(args:List AV)(H:AH):Option (AV×AH):=(yH f args).bind λt=>xh cfg cf nid t.1 t.2 H
def qBJ(cfg:Cfg)(cf:Orac)(nid:Option Nat)(o:Op)(c:Call)(ty:TypeId)(x:Operand->AV)(H:AH):Option (AV×AH):=
 match c.callee with
 | .value f=>qzJ cfg cf nid (x f) (c.args.toList.map x) H
 |_=>evOp cfg nid o ty x H
def qtt(cfg:Cfg)(cf:Orac)(nid:Option Nat)(o:Op)(ty:TypeId)(x:Operand->AV)(H:AH):Option (AV×AH):=
 match o with
 | .call c=>qBJ cfg cf nid (.call c) c ty x H
 |o=>xOp cfg nid o ty x H
def qnk(cfg:Cfg)(cf:Orac)(frz:Bool)(nid:Option Nat)(o:Oper)(x:Operand->AV)(H:AH):Option (AV×AH):=
 match frz with
 |false=>qtt cfg cf nid o.op o.type x H
 |true=>ve cfg cf true nid o x H
theorem qnF(cfg:Cfg)(cf:Orac)(frz:Bool)(nid:Option Nat)(o:Oper)(x:Operand->AV)(H:AH):qnk cfg cf frz nid o x H=ve cfg cf frz nid o x H:=by
 cases frz with
 |true=>rfl
 |false=>
  obtain⟨dst,op,ty,pos,after,guard⟩:=o;unfold qnk qtt ve;simp only[qCg,if_false,qtu];cases op with
  |call c=>
   obtain⟨callee,args,argTypes⟩:=c;cases callee<;>rfl
  |_=>rfl
def qq2(o:Op):Bool:=match o with
 | .alloc _| .box _ _| .buildSlice _ _ _| .store _ _ _| .convert _ _ _| .makeSlice _ _ _| .call _=>false
 |_=>true
def xRes(q:Bool)(o:Option (AV×AH))(k:AV->AH->Option β):Option β:=
 match o with
 |none=>none
 |some r=>fAV 12 r.1 λv=>cond q (k v r.2) (fH r.2 λH=>k v H)
theorem qqV(q:Bool)(o:Option (AV×AH))(k:AV->AH->Option β):xRes q o k=o.bind λr=>k r.1 r.2:=by
 cases o with
 |none=>rfl
 |some r=>cases q<;>simp[xRes,qkJ,qny]
def xOps(cfg:Cfg)(cf:Orac)(f rid:Nat)(ops:Array Oper):Nat->List Oper->List AV->AH->Option (List AV×AH)
 |_,[],fr,H=>some (fr,H)
 |k,o::rest,fr,H=>
  match xk ops fr o with
  |none=>none
  |some b=>
   cond b (xRes (qq2 o.op&& !cfg.frz f rid k) (qnk cfg cf (cfg.frz f rid k) none o (opd fr) H) λv H'=>fFr (put fr o.dst v) λfr'=>xOps cfg cf f rid ops (k+1) rest fr' H')
    (fFr (put fr o.dst (.tup [])) λfr'=>xOps cfg cf f rid ops (k+1) rest fr' H)
theorem qqW(cfg:Cfg)(cf:Orac)(f rid:Nat)(ops:Array Oper):∀(l:List Oper) (k:Nat) (fr:List AV) (H:AH),xOps cfg cf f rid ops k l fr H=y4 cfg cf f rid ops k l fr H
 |[],_,_,_=>rfl
 |o::l,k,fr,H=>by
  rw[xOps,y4];cases xk ops fr o with
  |none=>rfl
  |some b=>cases b<;>simp[qqV,qnF,qc3,qqW cfg cf f rid ops l]
def qji(cfg:Cfg)(cf:Orac)(f rid:Nat)(ops:Array Oper):Nat->Nat->List Oper->List AV->AH->Option (List DR×List AV×AH)
 |_,_,[],fr,H=>some ([],fr,H)
 |k,at_,o::rest,fr,H=>
  match xk ops fr o with
  |none=>none
  |some b=>
   fNat (at_+qbW cfg o) λat'=>
   cond b (xRes (qq2 o.op&& !cfg.frz f rid k) (qnk cfg cf (cfg.frz f rid k) (some at_) o (opd fr) H) λv H'=>fFr (put fr o.dst v) λfr'=>
     match qji cfg cf f rid ops (k+1) at' rest fr' H' with
     |none=>none
     |some q=>some (drOf cfg (cfg.frz f rid k) at_ o (opd fr) H v H'::q.1,q.2))
    (fFr (put fr o.dst (.tup [])) λfr'=>
     match qji cfg cf f rid ops (k+1) at' rest fr' H with
     |none=>none
     |some q=>some (drNo H::q.1,q.2))
theorem qnH(cfg:Cfg)(cf:Orac)(f rid:Nat)(ops:Array Oper):∀(l:List Oper) (k at_:Nat) (fr:List AV) (H:AH),qji cfg cf f rid ops k at_ l fr H=xN cfg cf f rid ops k at_ l fr H
 |[],_,_,_,_=>rfl
 |o::l,k,at_,fr,H=>by
  have em:∀(x:Option (List DR×List AV×AH)) (g:List DR×List AV×AH->List DR×List AV×AH),(match x with|none=>none|some q=>some (g q))=x.map g:=λx g=>by cases x<;>rfl
  rw[qji,xN];cases xk ops fr o with
  |none=>rfl
  |some b=>cases b<;>simp[qqV,qnF,qc3,yp,qnH cfg cf f rid ops l,em]
def qnl(k:Nat)(ts:Option (List Tmp))(ls:List (Tmp×Nat))(body:Den):Nat->List AV->AH->Option (Ex×List AV×AH)
 |0,_,_=>none
 |n+1,fr,H=>
  match body fr H with
  |none=>none
  |some r=>
   match r.1 with
   | .normal=>fFr (yf k ts ls r.2.1 r.2.2).1 λfr'=>fH (yf k ts ls r.2.1 r.2.2).2 λH'=>qnl k ts ls body n fr' H'
   |e=>some (e,r.2)
theorem qnG(k:Nat)(ts:Option (List Tmp))(ls:List (Tmp×Nat))(body:Den):∀(n:Nat) (fr:List AV) (H:AH),qnl k ts ls body n fr H=x8 k ts ls body n (fr,H)
 |0,_,_=>rfl
 |n+1,fr,H=>by
  rw[qnl,x8];show _=(body fr H).bind _;cases body fr H with
  |none=>rfl
  |some r=>
   simp only[qCe];cases hr:r.1<;>simp[qc3,qny,qnG k ts ls body n]
def xC(cfg:Cfg)(cf:Orac)(m:Nat)(f:Nat)(rd:Option Nat)(bs:Nat):Code->List AV->AH->Option (Ex×List AV×AH)
 | .skip,fr,H=>some (.normal,fr,H)
 | .label _,fr,H=>some (.normal,fr,H)
 | .region id ops draw,fr,H=>
  if draw then
   if zU ops then
    match qji cfg cf f id ops 0 H.length ops.toList fr (H++qCr (places cfg ops.toList) .res)with
    |none=>none
    |some q=>if qcz (ancs [] ops.toList) (H++qCr (places cfg ops.toList) .res) q.1 then some (.normal,q.2)else none
   else none
  else match xOps cfg cf f id ops 0 ops.toList fr H with
   |none=>none
   |some q=>some (.normal,q)
 | .seq a b,fr,H=>
  match xC cfg cf m f rd bs a fr H with
  |none=>none
  |some r=>
   match r.1 with
   | .normal=>fFr (vB (cfg.cut f (qh b)) r.2.1) λfr'=>xC cfg cf m f rd bs b fr' r.2.2
   |e=>some (e,r.2)
 | .cond c a b,fr,H=>
  match opd fr c with
  | .bool t=>if t then xC cfg cf m f rd bs a fr H else xC cfg cf m f rd bs b fr H
  |_=>none
 | .block id a,fr,H=>
  match xC cfg cf m f rd bs a fr H with
  |none=>none
  |some r=>
   match r.1 with
   | .exit id'=>some (if qCh id' id then(.normal,r.2)else r)
   |_=>some r
 | .loop a,fr,H=>
  match fFr (yf bs (cfg.keepIn f (qh a)) (cfg.lift f (qh a)) fr H).1 λfr'=>fH (yf bs (cfg.keepIn f (qh a)) (cfg.lift f (qh a)) fr H).2 λH'=>qnl bs (cfg.keepIn f (qh a)) (cfg.lift f (qh a)) (xC cfg cf m f rd bs a) m fr' H' with
  |none=>none
  |some r=>fFr (vB (cfg.keepOut f (qh a)) r.2.1) λfr'=>some (r.1,fr',r.2.2)
 | .scope a,fr,H=>
  match xC cfg cf m f rd bs a fr H with
  |none=>none
  |some r=>
   match r.1 with
   | .goto _=>none
   |_=>some r
 | .exit id,fr,H=>some (.exit id,fr,H)
 | .goto _,_,_=>none
 | .ret,fr,H=>some (.ret,fr,H)
 | .rangeFunc g ps assign body,fr,H=>fFr (vr (cfg.lift f (qh body)) fr H).1 λfr'=>fH (vr (cfg.lift f (qh body)) fr H).2 λH'=>zE cfg cf f rd bs g ps assign body fr' H'
 | .refuse _,_,_=>none
theorem qBK(cfg:Cfg){cf cf':Orac}(hcf:∀t a H r,cf t a H=some r->cf' t a H=some r)(m:Nat)(f:Nat)(rd:Option Nat)(bs:Nat):∀(cd:Code) (fr:List AV) (H:AH) (r),xC cfg cf m f rd bs cd fr H=some r->evC cfg cf' f rd bs cd fr H=some r:=by
 have hev:Ev (λ_=>cf') cf:=λt a H r h=>⟨0,λ_ _=>hcf t a H r h⟩
 have key:∀{γ:Type} {G:Orac->Option γ},EvG (λ_=>cf') cf G->∀r,G cf=some r->G cf'=some r:=λh r hr=>by
  obtain⟨n,hn⟩:=h r hr;exact hn n (qCa _)
 intro cd
 induction cd with
 |skip=>intro fr H r h;exact h
 |label l=>intro fr H r h;exact h
 |exit id=>intro fr H r h;exact h
 |ret=>intro fr H r h;exact h
 |goto l=>intro fr H r h;cases h
 |refuse s=>intro fr H r h;cases h
 |region id ops draw=>
  intro fr H r h;simp only[xC,evC]at h⊢;cases draw with
  |true=>
   simp only[if_true]at h⊢;split at h
   ·rename_i hd;rw[qCM hd];rw[qnH]at h;cases hq:xN cfg cf f id ops 0 H.length ops.toList fr (H++qCr (places cfg ops.toList) .res)with
    |none=>rw[hq]at h;cases h
    |some q=>
     rw[hq]at h;have h2:=key (G:=λo=>xN cfg o f id ops 0 H.length ops.toList fr (H++qCr (places cfg ops.toList) .res)) (qdq hev cfg f id ops _ _ _ _ _) q hq;rw[h2];exact h
   ·cases h
  |false=>
   simp only[qCg,if_false]at h⊢;rw[qqW]at h;refine key (G:=λq=>(y4 cfg q f id ops 0 ops.toList fr H).map λq=>(Ex.normal,q)) ((qe7 hev cfg f id ops _ _ _ _).map _) r ?_;rw[←h];cases y4 cfg cf f id ops 0 ops.toList fr H<;>rfl
 |seq x y ihx ihy=>
  intro fr H r h;simp only[xC,evC]at h⊢;cases hco:qb2 x with
  |some p=>
   obtain⟨rfl,hcc⟩:=qiz hco;have h1:zU p.2=false:=by unfold zU;rw[hcc];rfl
   simp only[xC,if_true,h1,qCg,if_false]at h;cases h
  |none=>?_
  simp only;split at h
  ·cases h
  ·rename_i q hq;rw[ihx _ _ _ hq];simp only[qCe];cases hq1:q.1 with
   |normal=>rw[hq1]at h;rw[qc3]at h;exact ihy _ _ _ h
   |exit id=>rw[hq1]at h;exact h
   |goto l=>rw[hq1]at h;exact h
   |ret=>rw[hq1]at h;exact h
 |cond cnd x y ihx ihy=>
  intro fr H r h;simp only[xC,evC]at h⊢;split at h
  ·rename_i t ht;rw[ht];cases t with
   |true=>exact ihx _ _ _ h
   |false=>exact ihy _ _ _ h
  ·cases h
 |block id x ih=>
  intro fr H r h;simp only[xC,evC]at h⊢;split at h
  ·cases h
  ·rename_i q hq;rw[ih _ _ _ hq];exact h
 |loop x ih=>
  intro fr H r h;simp only[xC,evC]at h⊢;split at h
  ·cases h
  ·rename_i q hq;rw[qc3,qny,qnG]at hq;rw[qc3]at h;have hl:LOOP bs (cfg.keepIn f (qh x)) (cfg.lift f (qh x)) (evC cfg cf' f rd bs x) (yf bs (cfg.keepIn f (qh x)) (cfg.lift f (qh x)) fr H)=some q:=by
    refine qen (n:=m) ?_;have up:∀(n:Nat) (p:List AV×AH) (r),x8 bs (cfg.keepIn f (qh x)) (cfg.lift f (qh x)) (xC cfg cf m f rd bs x) n p=some r->x8 bs (cfg.keepIn f (qh x)) (cfg.lift f (qh x)) (evC cfg cf' f rd bs x) n p=some r:=by
     intro n
     induction n with
     |zero=>intro p r h;cases h
     |succ n ihn=>
      intro p r h;rw[x8]at h⊢;obtain⟨q,h1,h2⟩:=qB6.1 h;rw[ih _ _ _ h1];simp only[qCe];cases hq:q.1 with
      |normal=>rw[hq]at h2;exact ihn _ _ h2
      |exit id=>rw[hq]at h2;exact h2
      |goto l=>rw[hq]at h2;exact h2
      |ret=>rw[hq]at h2;exact h2
    exact up _ _ _ hq
   rw[hl];exact h
 |scope x ih=>
  intro fr H r h;simp only[xC,evC]at h⊢;split at h
  ·cases h
  ·rename_i q hq;rw[ih _ _ _ hq];exact h
 |rangeFunc g ps assign body=>
  intro fr H r h;simp only[xC,evC,qc3,qny]at h⊢;unfold zE at h⊢;split at h
  ·rename_i hl;rw[qCM hl];split at h
   ·split at h
    ·cases h
    ·rename_i hx;rw[qCN hx];obtain⟨q,hq,h⟩:=qB6.1 h;rw[hcf _ _ _ _ hq];exact h
   ·cases h
  ·cases h
end
noncomputable section
variable {α β : Type}
def gL(g:β->(β->α)->α)(l:List β):(List β->α)->α:=
 List.rec (motive:=λ_=>(List β->α)->α) (λk=>k []) (λa _ ih k=>g a λa'=>ih λl'=>k (a'::l')) l
def gS(l:List β):(List β->α)->α:=
 List.rec (motive:=λ_=>(List β->α)->α) (λk=>k []) (λa _ ih k=>ih λl'=>k (a::l')) l
theorem zp{g:β->(β->α)->α}(hg:∀b k,g b k=k b):∀(l:List β) (k:List β->α),gL g l k=k l
 |[],_=>rfl
 |a::l,k=>by
  have:gL g (a::l) k=g a λa'=>gL g l λl'=>k (a'::l'):=rfl
  rw[this,hg,zp hg l]
theorem yP:∀(l:List β) (k:List β->α),gS l k=k l
 |[],_=>rfl
 |a::l,k=>by
  have:gS (a::l) k=gS l λl'=>k (a::l'):=rfl
  rw[this,yP l]
def gA1(v:AV)(k:AV->α):α:=match v with
 | .int kd m=>qsS kd λkd=>fInt m λm=>k (.int kd m)
 | .bool b=>qbL b λb=>k (.bool b)
 | .str s=>fL qkI s λs=>k (.str s)
 | .ms a b c=>fNat a λa=>fNat b λb=>fNat c λc=>k (.ms a b c)
 | .ptr a b c=>fNat a λa=>fNat b λb=>fNat c λc=>k (.ptr a b c)
 |v=>k v
theorem qoZ(v:AV)(k:AV->α):gA1 v k=k v:=by
 cases v<;>simp only[gA1,qo4,qrg,qc4,yp,qbb qiY]
def gA2(v:AV)(k:AV->α):α:=match v with
 | .agg cs=>gL gA1 cs λcs=>k (.agg cs)
 | .sl rows=>gL (gL gA1) rows λrows=>k (.sl rows)
 | .cptr cs o=>gL gA1 cs λcs=>fNat o λo=>k (.cptr cs o)
 | .fn f a b=>gL gA1 a λa=>gL gA1 b λb=>k (.fn f a b)
 |v=>gA1 v k
theorem quS(v:AV)(k:AV->α):gA2 v k=k v:=by
 have e1:∀(l:List AV) (k:List AV->α),gL gA1 l k=k l:=zp qoZ;cases v<;>simp only[gA2,qoZ,e1,yp,zp e1]
def gA(v:AV)(k:AV->α):α:=match v with
 | .tup cs=>gL gA2 cs λcs=>k (.tup cs)
 | .ifc t v=>gA2 v λv=>k (.ifc t v)
 |v=>gA2 v k
theorem qbJ(v:AV)(k:AV->α):gA v k=k v:=by
 cases v<;>simp only[gA,quS,zp quS]
def gW(v:AV)(k:AV->α):α:=match v with
 | .int a b=>k (.int a b)
 | .bool a=>k (.bool a)
 | .str a=>k (.str a)
 | .agg a=>k (.agg a)
 | .tup a=>k (.tup a)
 | .nilS=>k .nilS
 | .sl a=>k (.sl a)
 | .em=>k .em
 | .ms a b c=>k (.ms a b c)
 | .nilP=>k .nilP
 | .ptr a b c=>k (.ptr a b c)
 | .cptr a b=>k (.cptr a b)
 | .fn a b c=>k (.fn a b c)
 | .yld a=>k (.yld a)
 | .nilF=>k .nilF
 | .nilM=>k .nilM
 | .mp a=>k (.mp a)
 | .nilI=>k .nilI
 | .ifc a b=>k (.ifc a b)
 | .junk=>k .junk
 | .lsl r=>k (.lsl r)
 | .lpt c o=>k (.lpt c o)
 | .rsl i r=>k (.rsl i r)
 | .rpt i c o=>k (.rpt i c o)
 | .alt l=>k (.alt l)
 | .wr a b=>k (.wr a b)
theorem qhF(v:AV)(k:AV->α):gW v k=k v:=by cases v<;>rfl
def gB(b:ABlk)(k:ABlk->α):α:=match b with
 | .rows d sz rs=>qbL d λd=>fNat sz λsz=>gL (gL gA1) rs λrs=>k (.rows d sz rs)
 | .froz d sz rs=>qbL d λd=>fNat sz λsz=>gL (gL gA1) rs λrs=>k (.froz d sz rs)
 | .mp d es=>qbL d λd=>gS es λes=>k (.mp d es)
 | .loop f fr ps a b p s=>gL gA1 fr λfr=>k (.loop f fr ps a b p s)
 | .dead=>k .dead
 | .res=>k .res
 | .reg=>k .reg
 | .spl=>k .spl
 | .bld T e s=>fL qkI s λs=>k (.bld T e s)
theorem qsQ(b:ABlk)(k:ABlk->α):gB b k=k b:=by
 have e1:∀(l:List AV) (k:List AV->α),gL gA1 l k=k l:=zp qoZ;cases b<;>simp only[gB,qc4,yp,e1,zp e1,yP,qbb qiY]
def gP(p:Nat×AV)(k:Nat×AV->α):α:=gA p.2 λv=>k (p.1,v)
theorem qsO(p:Nat×AV)(k:Nat×AV->α):gP p k=k p:=by unfold gP;rw[qbJ]
def gH(H:AH)(k:AH->α):α:=gL gB H k
theorem qe3(H:AH)(k:AH->α):gH H k=k H:=zp qsQ H k
abbrev Ov:=List (Nat×AV)
def den(n:Nat)(ov:Ov):List AV:=ov.foldr (λp fr=>fr.set p.1 p.2) (qCr n .junk)
def xp(t:Nat)(ov:Ov):AV:=List.rec (motive:=λ_=>AV) .junk (λp _ ih=>cond (qCh p.1 t) p.2 ih) ov
theorem qgo(t:Nat):xp t []= .junk:=rfl
theorem qaY(t:Nat)(p:Nat×AV)(ov:Ov):xp t (p::ov)=cond (qCh p.1 t) p.2 (xp t ov):=rfl
def OvOk(n:Nat)(ov:Ov):Prop:=∀p∈ov,p.1<n
theorem qee(n:Nat)(ov:Ov):(den n ov).length=n:=by
 induction ov with
 |nil=>simp[den]
 |cons p l ih=>simp only[den,List.foldr_cons,List.length_set];exact ih
theorem qef{n:Nat}{ov:Ov}(h:OvOk n ov)(t:Nat):(den n ov)[t]? =if t<n then some (xp t ov)else none:=by
 induction ov with
 |nil=>
  simp only[den,List.foldr_nil,qgo,List.getElem?_replicate]
 |cons p l ih=>
  have hl:OvOk n l:=λq hq=>h q (List.mem_cons_of_mem _ hq)
  have hp:p.1<n:=h p (List.mem_cons_self ..);have:(den n (p::l))[t]? =((den n l).set p.1 p.2)[t]? :=rfl;rw[this,qCn,ih hl,qee,qaY]
  by_cases e:p.1=t
  ·subst e;simp[hp]
  ·have:qCh p.1 t=false:=by rw[←Bool.not_eq_true];intro h';exact e (qB9 h')
   rw[qCN e,this];rfl
theorem qgp{n:Nat}{ov:Ov}(h:OvOk n ov){t:Nat}(ht:¬t<n):xp t ov= .junk:=by
 induction ov with
 |nil=>rfl
 |cons p l ih=>
  have hp:p.1<n:=h p (List.mem_cons_self ..);have:qCh p.1 t=false:=by rw[←Bool.not_eq_true];intro h';have:=qB9 h';omega
  rw[qaY,this];exact ih λq hq=>h q (List.mem_cons_of_mem _ hq)
theorem qlS{n:Nat}{ov:Ov}(h:OvOk n ov){fr:List AV}(hl:fr.length=n)(hg:∀t,t<n->fr[t]? =some (xp t ov)):den n ov=fr:=by
 apply List.ext_getElem?;intro t;rw[qef h];split
 ·rename_i ht;exact(hg t ht).symm
 ·rename_i ht;exact(List.getElem?_eq_none (by omega)).symm
def opdO(ov:Ov):Operand->AV
 | .tmp t=>xp t ov
 | .const v=>ofValue v
 | .global _=>.junk
 | .func f=>.fn (.func f) [] []
theorem qd9{n:Nat}{ov:Ov}(h:OvOk n ov):opd (den n ov)=opdO ov:=by
 funext o
 cases o with
 |tmp t=>
  show(den n ov).getD t .junk=xp t ov;rw[List.getD_eq_getElem?_getD,qef h];split
  ·rfl
  ·rename_i ht;exact(qgp h ht).symm
 |_=>rfl
def putO(n:Nat)(ov:Ov)(dst:Option Tmp)(v:AV):Ov:=
 match dst with
 |some d=>cond (Nat.blt d n) ((d,v)::ov) ov
 |none=>ov
theorem qhy{n:Nat}{ov:Ov}(h:OvOk n ov)(dst:Option Tmp)(v:AV):OvOk n (putO n ov dst v):=by
 cases dst with
 |none=>exact h
 |some d=>
  simp only[putO];cases hd:Nat.blt d n with
  |false=>exact h
  |true=>
   intro p hp;rw[cond_true]at hp;rcases qCB.1 hp with rfl|hp
   ·simpa [Nat.blt_eq]using hd
   ·exact h p hp
theorem qeL{n:Nat}{ov:Ov}(dst:Option Tmp)(v:AV):den n (putO n ov dst v)=put (den n ov) dst v:=by
 cases dst with
 |none=>rfl
 |some d=>
  simp only[putO,put];cases hd:Nat.blt d n with
  |true=>rfl
  |false=>
   have hd:¬d<n:=by rw[←Bool.not_eq_true,Nat.blt_eq]at hd;exact hd
   show den n ov=_;rw[List.set_eq_of_length_le (by rw[qee];exact Nat.le_of_not_lt hd)]
def qcu(ops:Array Oper)(ov:Ov)(o:Oper):Option Bool:=
 match o.guard with
 |none=>some true
 |some (j,want)=>
  match(ops[j]?).bind (·.dst)with
  |some d=>
   match xp d ov with
   | .bool b=>some (b==want)
   | .tup []=>some false
   |_=>none
  |none=>none
theorem qjF{n:Nat}{ov:Ov}(h:OvOk n ov)(ops:Array Oper)(o:Oper):xk ops (den n ov) o=qcu ops ov o:=by
 unfold xk qcu;cases o.guard with
 |none=>rfl
 |some p=>
  obtain⟨j,want⟩:=p;simp only;cases(ops[j]?).bind (·.dst)with
  |none=>rfl
  |some d=>
   simp only;rw[qef h]
   by_cases hd:d<n
   ·rw[qCM hd];cases xp d ov<;>try rfl
    rename_i vs;cases vs<;>rfl
   ·rw[qCN hd,qgp h hd]
def qnD(n:Nat)(H:AH)(p v:AV)(k:AH->Option β):Option β:=
 match p with
 | .ptr id r off=>
  match v.cells with
  |some cs=>
   match H[id]? with
   |some (.rows d sz rs)=>
    match rs[r]? with
    |some row=>if cs.length==n&&qB4 (off+n) row.length then
      gS (row.take off++cs++row.drop (off+n)) λrow'=>gS (rs.set r row') λrs'=>qbL (d&&qw 0 cs) λd'=>gS (H.set id (.rows d' sz rs')) k
     else none
    |none=>none
   |_=>none
  |none=>none
 | .rpt id cs o=>(zg n H (.rpt id cs o) v).bind k
 |_=>none
theorem qtn(n:Nat)(H:AH)(p v:AV)(k:AH->Option β):qnD n H p v k=(zg n H p v).bind k:=by
 unfold qnD zg;cases p with
 |ptr id r off=>
  simp only;cases hv:v.cells with
  |none=>simp
  |some cs=>
   simp only;cases hH:H[id]? with
   |none=>simp
   |some b=>
    cases b<;>simp only[Option.bind_none]
    rename_i d sz rs;cases hr:rs[r]? with
    |none=>simp
    |some row=>
     simp only;split<;>simp[yP,qc4]
 |rpt id cs o=>rfl
 |_=>simp
def yNew(nid:Option Nat)(H:AH)(b:ABlk)(k:Nat->AH->Option β):Option β:=
 match nid with
 |none=>fNat H.length λi=>gS (H++[b]) λH'=>k i H'
 |some i=>
  match H[i]? with
  |some .res=>gS (H.set i b) λH'=>k i H'
  |_=>none
theorem qqU(nid:Option Nat)(H:AH)(b:ABlk)(k:Nat->AH->Option β):yNew nid H b k=(aNew nid H b).bind λr=>k r.1 r.2:=by
 cases nid with
 |none=>simp[yNew,aNew,yp,yP]
 |some i=>
  simp only[yNew,aNew];cases H[i]? with
  |none=>rfl
  |some b=>cases b<;>simp[yP]
def qts(cfg:Cfg)(nid:Option Nat)(t:TypeId)(H:AH)(k:AV->AH->Option β):Option β:=
 match cfg.ty t with
 |some ti=>if vY ti.zero then gB (qaG cfg t ti.zero) λb=>yNew nid H b λi H'=>k (.ptr i 0 0) H' else none
 |none=>none
def yBox(cfg:Cfg)(t:TypeId)(nid:Option Nat)(a:AV)(H:AH)(k:AV->AH->Option β):Option β:=
 match a.cells with
 |some cs=>gS cs λcs=>gB (qda cfg t cs) λb=>yNew nid H b λi H'=>k (.ptr i 0 0) H'
 |none=>none
def yOp(cfg:Cfg)(nid:Option Nat)(o:Op)(ty:TypeId)(x:Operand->AV)(H:AH)(k:AV->AH->Option β):Option β:=
 match o with
 | .move a| .assign a=>gW (x a) λv=>k v H
 | .alloc t=>qts cfg nid t H k
 | .box t a=>yBox cfg t nid (x a) H k
 | .store t a v=>
  match cfg.sz t with
  |some n=>qnD n H (x a) (x v) λH'=>k .junk H'
  |none=>none
 | .buildSlice t len parts=>(match qhR cfg nid t len (parts.toList.map λp=>(p.1,x p.2)) H with|some r=>gA r.1 λv=>gH r.2 λH'=>k v H'|none=>none)
 | .convert s d a=>(match yW cfg nid s d (x a) H with|some r=>gA r.1 λv=>gH r.2 λH'=>k v H'|none=>none)
 | .makeSlice t l c=>(match qao cfg nid t (x l) (x c) H with|some r=>gA r.1 λv=>gH r.2 λH'=>k v H'|none=>none)
 | .call c=>(match evOp cfg nid (.call c) ty x H with|some r=>gA r.1 λv=>gH r.2 λH'=>k v H'|none=>none)
 |o=>(match xOp cfg nid o ty x H with|some r=>gA r.1 λv=>k v r.2|none=>none)
theorem qzH(cfg:Cfg)(nid:Option Nat)(o:Op)(ty:TypeId)(x:Operand->AV)(H:AH)(k:AV->AH->Option β):yOp cfg nid o ty x H k=(evOp cfg nid o ty x H).bind λr=>k r.1 r.2:=by
 have em:∀(q:Option (AV×AH)),(match q with|some r=>gA r.1 λv=>gH r.2 λH'=>k v H'|none=>none)=q.bind λr=>k r.1 r.2:=λq=>by cases q<;>simp[qbJ,qe3]
 have em':∀(q:Option (AV×AH)),(match q with|some r=>gA r.1 λv=>k v r.2|none=>none)=q.bind λr=>k r.1 r.2:=λq=>by cases q<;>simp[qbJ]
 cases o with
 |move a=>simp[yOp,evOp,qhF]
 |assign a=>simp[yOp,evOp,qhF]
 |alloc t=>
  simp only[yOp,evOp,qts];cases cfg.ty t with
  |none=>rfl
  |some ti=>
   simp only;split
   ·simp only[qsQ,qqU];cases aNew nid H (qaG cfg t ti.zero)<;>rfl
   ·rfl
 |box t a=>
  simp only[yOp,evOp,yBox];cases(x a).cells with
  |none=>rfl
  |some cs=>
   simp only[yP,qsQ,qqU];cases aNew nid H (qda cfg t cs)<;>rfl
 |store t a v=>
  simp only[yOp,evOp];cases cfg.sz t with
  |none=>rfl
  |some n=>
   simp only[qtn];cases zg n H (x a) (x v)<;>rfl
 |buildSlice t len parts=>simp only[yOp];rw[em];rfl
 |convert s d a=>simp only[yOp];rw[em];rfl
 |makeSlice t l c=>simp only[yOp];rw[em];rfl
 |call c=>simp only[yOp];rw[em]
 |_=>simp only[yOp];rw[em',qtu]
structure Fact where
 frz:Bool
 f:Nat
 args:List AV
 v:AV
def Fact.Ok(cfg:Cfg)(e:Fact):Prop:=(if e.frz then EVf (EV cfg) e.f e.args else EVs (EV cfg) e.f e.args)=some e.v
def vP(cfg:Cfg):List Fact->Prop
 |[]=>True
 |e::l=>e.Ok cfg∧vP cfg l
theorem vP.nil{cfg:Cfg}:vP cfg []:=trivial
theorem vP.consS{cfg:Cfg}{f:Nat}{args:List AV}{v:AV}{l:List Fact}(h:EVs (EV cfg) f args=some v)(t:vP cfg l):vP cfg (⟨false,f,args,v⟩::l):=⟨h,t⟩
theorem vP.consF{cfg:Cfg}{f:Nat}{args:List AV}{v:AV}{l:List Fact}(h:EVf (EV cfg) f args=some v)(t:vP cfg l):vP cfg (⟨true,f,args,v⟩::l):=⟨h,t⟩
def qc2(frz:Bool)(f:Nat)(args:List AV)(fs:List Fact):Option AV:=
 List.rec (motive:=λ_=>Option AV) none (λe _ ih=>cond (qCh e.f f&&(e.frz==frz&&yY e.args args)) (some e.v) ih) fs
theorem qdM{cfg:Cfg}{frz:Bool}{f:Nat}{args:List AV}{v:AV}:∀{fs:List Fact},vP cfg fs->qc2 frz f args fs=some v->(if frz then EVf (EV cfg) f args else EVs (EV cfg) f args)=some v
 |[],_,h=>by cases h
 |e::l,hok,h=>by
  have hd:qc2 frz f args (e::l)=cond (qCh e.f f&&(e.frz==frz&&yY e.args args)) (some e.v) (qc2 frz f args l):=rfl;rw[hd]at h;cases hc:(qCh e.f f&&(e.frz==frz&&yY e.args args))with
  |true=>
   rw[hc]at h;simp only[qB2,beq_iff_eq]at hc;cases h;have:=hok.1;unfold Fact.Ok at this;rw[←qB9 hc.1,←hc.2.1,←yR hc.2.2];exact this
  |false=>
   rw[hc]at h;exact qdM hok.2 h
def qjh(cfg:Cfg)(cf:Orac)(nid:Option Nat)(t:Tgt)(args:List AV)(H:AH)(k:AV->AH->Option β):Option β:=
 match xh cfg cf nid t args H with
 |some r=>gA r.1 λv=>gH r.2 λH'=>k v H'
 |none=>none
def qtq(_cfg:Cfg)(cf:Orac)(fs:List Fact)(f:Nat)(al:List AV)(k:AV->Option β):Option β:=
 cond (qw 0 al)
  (match qc2 false f al fs with
  |some v=>cond v.scalar (k v) none
  |none=>(match cf (.f f) al []with|some r=>gA r.1 λv=>cond v.scalar (k v) none|none=>none)) none
def qtr(_cfg:Cfg)(cf:Orac)(fs:List Fact)(f:Nat)(al:List AV)(k:AV->Option β):Option β:=
 cond (qw 0 al)
  (match qc2 true f al fs with
  |some v=>cond (v.refsLt 0) (k v) none
  |none=>(match cf (.f f) al []with|some r=>gA (r.1.frz r.1.msIds r.2).fg λv=>cond (v.refsLt 0) (k v) none|none=>none)) none
def qnE(cfg:Cfg)(cf:Orac)(fs:List Fact)(nid:Option Nat)(t:Tgt)(args:List AV)(H:AH)(k:AV->AH->Option β):Option β:=
 match t with
 | .y id=>qjh cfg cf nid (.y id) args H k
 | .f f=>
  match cfg.mode f with
  | .scal=>gL gA (args.map λa=>(a.snap H).fg) λal=>qtq cfg cf fs f al λv=>k v H
  | .pfrz=>gL gA (args.map AV.fg) λal=>qtr cfg cf fs f al λv=>k v H
  |_=>qjh cfg cf nid (.f f) args H k
def qtp(cfg:Cfg)(cf:Orac)(fs:List Fact)(nid:Option Nat)(f:AV)(args:List AV)(H:AH)(k:AV->AH->Option β):Option β:=
 match yH f args with
 |some t=>qnE cfg cf fs nid t.1 t.2 H k
 |none=>none
def Le(cf cf':Orac):Prop:=∀t a H r,cf t a H=some r->cf' t a H=some r
theorem qpC{cfg:Cfg}{cf:Orac}(hcf:Le cf (EV cfg)){fs:List Fact}(hfs:vP cfg fs){nid:Option Nat}{t:Tgt}{args:List AV}{H:AH}{k:AV->AH->Option β}{r:β}(h:qnE cfg cf fs nid t args H k=some r):∃q,xh cfg (EV cfg) nid t args H=some q∧k q.1 q.2=some r:=by
 have hev:Ev (λ_=>EV cfg) cf:=λt a H r h=>⟨0,λ_ _=>hcf t a H r h⟩
 have gen:∀(t:Tgt),qjh cfg cf nid t args H k=some r->∃q,xh cfg (EV cfg) nid t args H=some q∧k q.1 q.2=some r:=by
  intro t h;unfold qjh at h;split at h
  ·rename_i q hq;rw[qbJ,qe3]at h;obtain⟨n,hn⟩:=qpl hev cfg nid t args H q hq;exact⟨q,hn n (qCa _),h⟩
  ·cases h
 cases t with
 |y id=>exact gen _ h
 |f f=>
  simp only[qnE]at h;cases hm:cfg.mode f with
  |scal=>
   simp only[hm,zp qbJ]at h;unfold qtq at h;obtain⟨h1,h⟩:=qo h;simp only[xh,zw,vj,hm,h1,if_true];split at h
   ·rename_i v hv;obtain⟨h2,h⟩:=qo h;have:=qdM hfs hv;simp only[qCg,if_false]at this;unfold EVs at this;obtain⟨q,hq,rfl⟩:=qCb.1 this;rw[hq];exact⟨(q.1,H),by simp only[qCe,h2,if_true],h⟩
   ·split at h
    ·rename_i q hq;rw[qbJ]at h;obtain⟨h2,h⟩:=qo h;rw[hcf _ _ _ _ hq];exact⟨(q.1,H),by simp only[qCe,h2,if_true],h⟩
    ·cases h
  |pfrz=>
   simp only[hm,zp qbJ]at h;unfold qtr at h;obtain⟨h1,h⟩:=qo h;simp only[xh,zw,vj,hm,h1,if_true];split at h
   ·rename_i v hv;obtain⟨h2,h⟩:=qo h;have:=qdM hfs hv;simp only[if_true]at this;unfold EVf at this;obtain⟨q,hq,rfl⟩:=qCb.1 this;rw[hq];exact⟨((q.1.frz q.1.msIds q.2).fg,H),by simp only[qCe,h2,if_true],h⟩
   ·split at h
    ·rename_i q hq;rw[qbJ]at h;obtain⟨h2,h⟩:=qo h;rw[hcf _ _ _ _ hq];exact⟨((q.1.frz q.1.msIds q.2).fg,H),by simp only[qCe,h2,if_true],h⟩
    ·cases h
  |_=>simp only[hm]at h;exact gen _ h
def qcB(cfg:Cfg)(cf:Orac)(fs:List Fact)(nid:Option Nat)(o:Op)(ty:TypeId)(x:Operand->AV)(H:AH)(k:AV->AH->Option β):Option β:=
 match o with
 | .call c=>
  (match c.callee with
  | .value f=>gL gW (c.args.toList.map x) λargs=>qtp cfg cf fs nid (x f) args H k
  |_=>yOp cfg nid (.call c) ty x H k)
 |o=>yOp cfg nid o ty x H k
def qni(cfg:Cfg)(cf:Orac)(fs:List Fact)(frz:Bool)(nid:Option Nat)(o:Oper)(x:Operand->AV)(H:AH)(k:AV->AH->Option β):Option β:=
 match frz with
 |false=>qcB cfg cf fs nid o.op o.type x H k
 |true=>gS (o.op.operands.toList.flatMap λa=>(x a).msIds) λids=>gH (qQ ids H) λH'=>qcB cfg cf fs nid o.op o.type (λa=>(x a).frz ids H) H' k
theorem qhQ{cfg:Cfg}{cf:Orac}(hcf:Le cf (EV cfg)){fs:List Fact}(hfs:vP cfg fs){nid:Option Nat}{o:Oper}{x:Operand->AV}{H:AH}{k:AV->AH->Option β}{r:β}(h:qcB cfg cf fs nid o.op o.type x H k=some r):∃q,ve cfg (EV cfg) false nid o x H=some q∧k q.1 q.2=some r:=by
 obtain⟨dst,op,ty,pos,after,guard⟩:=o;unfold ve;simp only[qCg,if_false]at h⊢;have plain:∀(op:Op),yOp cfg nid op ty x H k=some r->∃q,evOp cfg nid op ty x H=some q∧k q.1 q.2=some r:=by
  intro op h;rw[qzH]at h;exact qB6.1 h
 cases op with
 |call c=>
  obtain⟨callee,args,argTypes⟩:=c;cases callee with
  |value f=>
   simp only[qcB,zp qhF]at h⊢;unfold qtp at h;split at h
   ·rename_i t ht;rw[ht];exact qpC hcf hfs h
   ·cases h
  |builtin b=>simp only[qcB]at h⊢;exact plain _ h
  |invoke rv nm=>simp only[qcB]at h⊢;exact plain _ h
 |_=>simp only[qcB]at h⊢;exact plain _ h
theorem qjc{cfg:Cfg}{cf:Orac}(hcf:Le cf (EV cfg)){fs:List Fact}(hfs:vP cfg fs){frz:Bool}{nid:Option Nat}{o:Oper}{x:Operand->AV}{H:AH}{k:AV->AH->Option β}{r:β}(h:qni cfg cf fs frz nid o x H k=some r):∃q,ve cfg (EV cfg) frz nid o x H=some q∧k q.1 q.2=some r:=by
 cases frz with
 |false=>exact qhQ hcf hfs h
 |true=>
  simp only[qni,yP,qe3]at h;obtain⟨q,h1,h2⟩:=qhQ hcf hfs h;refine⟨q,?_,h2⟩;unfold ve at h1⊢
  simpa using h1
def yOps(cfg:Cfg)(cf:Orac)(fs:List Fact)(f rid:Nat)(ops:Array Oper)(n:Nat):Nat->List Oper->Ov->AH->(Ov->AH->Option β)->Option β
 |_,[],ov,H,K=>K ov H
 |i,o::rest,ov,H,K=>
  match qcu ops ov o with
  |none=>none
  |some b=>
   cond b (qni cfg cf fs (cfg.frz f rid i) none o (opdO ov) H λv H'=>yOps cfg cf fs f rid ops n (i+1) rest (putO n ov o.dst v) H' K)
    (yOps cfg cf fs f rid ops n (i+1) rest (putO n ov o.dst (.tup [])) H K)
theorem qfy{cfg:Cfg}{cf:Orac}(hcf:Le cf (EV cfg)){fs:List Fact}(hfs:vP cfg fs){f rid n:Nat}{ops:Array Oper}{r:β}:∀{l:List Oper} {i:Nat} {ov:Ov} {H:AH} {K:Ov->AH->Option β},OvOk n ov->yOps cfg cf fs f rid ops n i l ov H K=some r ->
  ∃ov' H',OvOk n ov'∧y4 cfg (EV cfg) f rid ops i l (den n ov) H=some (den n ov',H')∧K ov' H'=some r
 |[],i,ov,H,K,hok,h=>⟨ov,H,hok,rfl,h⟩
 |o::l,i,ov,H,K,hok,h=>by
  rw[yOps]at h;rw[y4,qjF hok];cases hw:qcu ops ov o with
  |none=>rw[hw]at h;cases h
  |some b=>
   rw[hw]at h;simp only[qCe];cases b with
   |true=>
    simp only[cond_true]at h;obtain⟨q,h1,h2⟩:=qjc hcf hfs h;simp only[if_true,qd9 hok,h1,qCe];obtain⟨ov',H',h3,h4,h5⟩:=qfy hcf hfs (qhy hok _ _) h2;rw[qeL]at h4;exact⟨ov',H',h3,h4,h5⟩
   |false=>
    simp only[cond_false]at h;simp only[qCg,if_false];obtain⟨ov',H',h3,h4,h5⟩:=qfy hcf hfs (qhy hok _ _) h;rw[qeL]at h4;exact⟨ov',H',h3,h4,h5⟩
def qjg(cfg:Cfg)(cf:Orac)(fs:List Fact)(f rid:Nat)(ops:Array Oper)(n:Nat):Nat->Nat->List Oper->Ov->AH->(List DR->Ov->AH->Option β)->Option β
 |_,_,[],ov,H,K=>K [] ov H
 |i,at_,o::rest,ov,H,K=>
  match qcu ops ov o with
  |none=>none
  |some b=>
   fNat (at_+qbW cfg o) λat'=>
   cond b (qni cfg cf fs (cfg.frz f rid i) (some at_) o (opdO ov) H λv H'=>qjg cfg cf fs f rid ops n (i+1) at' rest (putO n ov o.dst v) H' λfps ov' H''=>K (drOf cfg (cfg.frz f rid i) at_ o (opdO ov) H v H'::fps) ov' H'')
    (qjg cfg cf fs f rid ops n (i+1) at' rest (putO n ov o.dst (.tup [])) H λfps ov' H''=>K (drNo H::fps) ov' H'')
theorem qer{cfg:Cfg}{cf:Orac}(hcf:Le cf (EV cfg)){fs:List Fact}(hfs:vP cfg fs){f rid n:Nat}{ops:Array Oper}{r:β}:∀{l:List Oper} {i at_:Nat} {ov:Ov} {H:AH} {K:List DR->Ov->AH->Option β},OvOk n ov->qjg cfg cf fs f rid ops n i at_ l ov H K=some r ->
  ∃fps ov' H',OvOk n ov'∧xN cfg (EV cfg) f rid ops i at_ l (den n ov) H=some (fps,den n ov',H')∧K fps ov' H'=some r
 |[],i,at_,ov,H,K,hok,h=>⟨[],ov,H,hok,rfl,h⟩
 |o::l,i,at_,ov,H,K,hok,h=>by
  rw[qjg]at h;rw[xN,qjF hok];cases hw:qcu ops ov o with
  |none=>rw[hw]at h;cases h
  |some b=>
   rw[hw]at h;simp only[qCe];simp only[yp]at h;cases b with
   |true=>
    simp only[cond_true]at h;obtain⟨q,h1,h2⟩:=qjc hcf hfs h;simp only[if_true,qd9 hok,h1,qCe];obtain⟨fps,ov',H',h3,h4,h5⟩:=qer hcf hfs (qhy hok _ _) h2;rw[qeL]at h4;exact⟨_,ov',H',h3,by rw[h4];rfl,h5⟩
   |false=>
    simp only[cond_false]at h;simp only[qCg,if_false];obtain⟨fps,ov',H',h3,h4,h5⟩:=qer hcf hfs (qhy hok _ _) h;rw[qeL]at h4;exact⟨_,ov',H',h3,by rw[h4];rfl,h5⟩
def qbU:Nat->List Nat->Bool
 |_,[]=>true
 |i,k::ks=>qB4 i k&&qbU (k+1) ks
def qnq(ks:List Nat)(ov:Ov):(Ov->α)->α:=
 List.rec (motive:=λ_=>(Ov->α)->α) (λK=>K []) (λt _ ih K=>gW (xp t ov) λv=>ih λl=>K ((t,v)::l)) ks
theorem qwq(ks:List Nat)(ov:Ov):∀(K:Ov->α),qnq ks ov K=K (ks.map λt=>(t,xp t ov)):=by
 induction ks with
 |nil=>intro K;rfl
 |cons t l ih=>
  intro K;have:qnq (t::l) ov K=gW (xp t ov) λv=>qnq l ov λl=>K ((t,v)::l):=rfl
  rw[this,qhF,ih,List.map_cons]
theorem qci:∀(ks:List Nat) (fr:List AV) (i t:Nat),qbU i ks=true->(xM i ks fr)[t]? =if t<fr.length then some (if i+t∈ks then(fr[t]?).getD .junk else .junk)else none
 |ks,[],i,t,_=>by cases ks<;>simp[xM]
 |[],a::fr,i,t,h=>by
  rw[xM];cases t with
  |zero=>simp
  |succ t=>
   simp only[List.getElem?_cons_succ];rw[qci [] fr i t rfl];simp
 |k::ks,a::fr,i,t,h=>by
  rw[qbU,qB2,qCz]at h;rw[xM];have hge:∀(l:List Nat) (j:Nat),qbU j l=true->∀x∈l,j<=x:=by
   intro l
   induction l with
   |nil=>intro j _ x hx;cases hx
   |cons y l ih=>
    intro j hj x hx;rw[qbU,qB2,qCz]at hj;rcases qCB.1 hx with rfl|hx
    ·exact hj.1
    ·have:=ih _ hj.2 x hx;omega
  split
  ·rename_i e;have e:=qB9 e;subst e;cases t with
   |zero=>simp
   |succ t=>
    simp only[List.getElem?_cons_succ];rw[qci ks fr (i+1) t h.2];have e1:i+(t+1)=i+1+t:=by omega
    have e2:¬i+1+t=i:=by omega
    simp only[qCE,Nat.add_lt_add_iff_right,e1,qCB,e2,false_or]
  ·rename_i e;have hne:i≠k:=λh'=>e (by rw[h'];exact qCw _)
   cases t with
   |zero=>
    have:i ∉ k::ks:=by
     intro hm;rcases qCB.1 hm with rfl|hm
     ·exact hne rfl
     ·have:=hge _ _ h.2 i hm;omega
    simp[this]
   |succ t=>
    simp only[List.getElem?_cons_succ];rw[qci (k::ks) fr (i+1) t (by rw[qbU,qB2,qCz];exact⟨by omega,h.2⟩)];have e1:i+(t+1)=i+1+t:=by omega
    simp only[qCE,Nat.add_lt_add_iff_right,e1]
theorem qt9(ks:List Nat)(g:Nat->AV)(t:Nat):xp t (ks.map λt=>(t,g t))=if t∈ks then g t else .junk:=by
 induction ks with
 |nil=>rfl
 |cons k l ih=>
  rw[List.map_cons,qaY,ih]
  by_cases e:k=t
  ·subst e;simp
  ·have h1:qCh k t=false:=by rw[←Bool.not_eq_true];intro h';exact e (qB9 h')
   have h2:¬t=k:=λh=>e h.symm
   rw[h1,cond_false];simp only[qCB,h2,false_or]
def qjd(n:Nat)(ts:Option (List Nat))(ov:Ov)(K:Ov->Option β):Option β:=
 match ts with
 |none=>K ov
 |some ks=>cond (qbU 0 ks&&ks.all λt=>Nat.blt t n) (qnq ks ov K) none
theorem qeq{n:Nat}{ts:Option (List Nat)}{ov:Ov}{K:Ov->Option β}{r:β}(hok:OvOk n ov)(h:qjd n ts ov K=some r):∃ov',OvOk n ov'∧vB ts (den n ov)=den n ov'∧K ov'=some r:=by
 cases ts with
 |none=>exact⟨ov,hok,rfl,h⟩
 |some ks=>
  simp only[qjd,qwq]at h;cases hc:(qbU 0 ks&&ks.all λt=>Nat.blt t n)with
  |false=>rw[hc]at h;cases h
  |true=>
   rw[hc]at h;rw[qB2,List.all_eq_true]at hc;have hok':OvOk n (ks.map λt=>(t,xp t ov)):=by
    intro p hp;obtain⟨t,ht,rfl⟩:=List.mem_map.1 hp;have:=hc.2 t ht
    simpa [Nat.blt_eq]using this
   refine⟨_,hok',(qlS hok' ?_ λt ht=>?_).symm,h⟩
   ·show(xM 0 ks (den n ov)).length=n;rw[(qaZ (ts:=ks) (fr:=den n ov) (k:=0)).1,qee]
   ·show(xM 0 ks (den n ov))[t]? =_;rw[qci _ _ _ _ hc.1,qee,qCM ht,qCG,qt9,qef hok,qCM ht];rfl
def qcb(n:Nat):List (Tmp×Nat)->Ov->AH->(Ov->AH->Option β)->Option β
 |[],ov,H,K=>K ov H
 |p::l,ov,H,K=>
  match xp p.1 ov with
  | .nilS=>fNat H.length λi=>cond (Nat.blt p.1 n) (gS (H++[.rows true p.2 []]) λH'=>qcb n l ((p.1,.ms i 0 0)::ov) H' K) none
  | .ptr _ _ _=>(match zF p.1 p.2 (den n ov) H with|q=>gH q.2 λH'=>qcb n l ov H' K)
  |_=>qcb n l ov H K
theorem quw{t sz:Nat}{fr:List AV}{H:AH}{id r off:Nat}(h:fr[t]? =some (.ptr id r off)):(zF t sz fr H).1=fr:=by
 unfold zF;rw[h];simp only;split
 ·split
  ·split
   ·rfl
   ·split
    ·split<;>rfl
    ·rfl
   ·rfl
  ·rfl
 ·rfl
theorem z5{n:Nat}{r:β}:∀{ls:List (Tmp×Nat)} {ov:Ov} {H:AH} {K:Ov->AH->Option β},OvOk n ov->qcb n ls ov H K=some r->∃ov' H',OvOk n ov'∧vr ls (den n ov) H=(den n ov',H')∧K ov' H'=some r
 |[],ov,H,K,hok,h=>⟨ov,H,hok,rfl,h⟩
 |p::l,ov,H,K,hok,h=>by
  rw[qcb]at h;rw[vr];have hget:(den n ov)[p.1]? =if p.1<n then some (xp p.1 ov)else none:=qef hok p.1
  split at h
  ·rename_i hv;simp only[yp]at h;cases hb:Nat.blt p.1 n with
   |false=>rw[hb]at h;cases h
   |true=>
    rw[hb]at h;simp only[cond_true,yP]at h;have hlt:p.1<n:=by simpa [Nat.blt_eq]using hb
    have hl1:zF p.1 p.2 (den n ov) H=(den n ((p.1,.ms H.length 0 0)::ov),H++[.rows true p.2 []]):=by
     unfold zF;rw[hget,qCM hlt,hv];rfl
    rw[hl1];exact z5 (λq hq=>(qCB.1 hq).elim (λe=>by subst e;exact hlt) (hok q)) h
  ·rename_i id r' off hv;simp only[qe3]at h
   by_cases hlt:p.1<n
   ·rw[quw (by rw[hget,qCM hlt,hv])];exact z5 hok h
   ·rw[qgp hok hlt]at hv;cases hv
  ·rename_i h1 h2;have hl1:zF p.1 p.2 (den n ov) H=(den n ov,H):=by
    unfold zF;rw[hget]
    by_cases hlt:p.1<n
    ·rw[qCM hlt];split
     ·rename_i e;exact absurd (Option.some.inj e) h1
     ·rename_i a b c e;exact absurd (Option.some.inj e) (h2 a b c)
     ·rfl
    ·rw[qCN hlt]
   rw[hl1];exact z5 hok h
def spGo:Nat->List AV->Ov
 |_,[]=>[]
 |i,.junk::l=>spGo (i+1) l
 |i,v::l=>(i,v)::spGo (i+1) l
theorem qn5:∀(l:List AV) (i t:Nat),xp t (spGo i l)=if i<=t then(l[t - i]?).getD .junk else .junk
 |[],i,t=>by simp[spGo,qgo]
 |a::l,i,t=>by
  have ih:=qn5 l (i+1) t;have key:∀(ov:Ov),ov=(i,a)::spGo (i+1) l->xp t ov=if i<=t then((a::l)[t - i]?).getD .junk else .junk:=by
   intro ov e;rw[e,qaY,ih]
   by_cases e2:i=t
   ·subst e2;simp
   ·have h1:qCh i t=false:=by rw[←Bool.not_eq_true];intro h';exact e2 (qB9 h')
    simp only[h1,cond_false]
    by_cases h3:i+1<=t
    ·have h4:t - i=(t - (i+1))+1:=by omega
     rw[qCM h3,qCM (by omega),h4,List.getElem?_cons_succ]
    ·rw[qCN h3,qCN (by omega)]
  cases a with
  |junk=>
   show xp t (spGo (i+1) l)=_;rw[ih]
   by_cases h3:i+1<=t
   ·have h4:t - i=(t - (i+1))+1:=by omega
    rw[qCM h3,qCM (by omega),h4,List.getElem?_cons_succ]
   ·rw[qCN h3]
    by_cases e2:i=t
    ·subst e2;simp
    ·rw[qCN (by omega)]
  |_=>exact key _ rfl
theorem qcv:∀(l:List AV) (i n:Nat),i+l.length<=n->OvOk n (spGo i l)
 |[],i,n,_=>λp hp=>by cases hp
 |a::l,i,n,h=>by
  simp only[qCE]at h;have ih:=qcv l (i+1) n (by omega);have key:OvOk n ((i,a)::spGo (i+1) l):=λp hp=>by
   rcases qCB.1 hp with rfl|hp
   ·show i<n;omega
   ·exact ih p hp
  cases a<;>first|exact key|exact ih
theorem qkT(l:List AV):den l.length (spGo 0 l)=l:=by
 have hok:=qcv l 0 l.length (by omega);refine qlS hok rfl λt ht=>?_
 rw[qn5,qCM (Nat.zero_le _),Nat.sub_zero,qB3 ht];rfl
def yGc(n k:Nat)(ov:Ov)(H:AH)(K:Ov->AH->Option β):Option β:=
 cond (qB4 H.length k) (K ov H) (match qa8 k (den n ov) H with|q=>gS (spGo 0 q.1) λov'=>gL gP ov' λov'=>gH q.2 λH'=>K ov' H')
theorem qv4(ρ:Nat->Nat)(l:List AV):(renL ρ l).length=l.length:=by rw[zj];simp
theorem quQ(k:Nat)(fr:List AV)(H:AH):(qa8 k fr H).1.length=fr.length:=by
 unfold qa8;simp only;cases qdb H (qce k H (2*H.length+16) [] (vg k fr++zA k (H.take k)))with
 |none=>rfl
 |some bs=>
  simp only;split
  ·exact qv4 _ _
  ·rfl
theorem qvJ{n k:Nat}{ov:Ov}{H:AH}{K:Ov->AH->Option β}{r:β}(hok:OvOk n ov)(h:yGc n k ov H K=some r):∃ov' H',OvOk n ov'∧gc k (den n ov) H=(den n ov',H')∧K ov' H'=some r:=by
 unfold yGc at h;unfold gc;cases hb:qB4 H.length k with
 |true=>rw[hb]at h;exact⟨ov,H,hok,by simp,h⟩
 |false=>
  rw[hb]at h;simp only[cond_false]at h;rw[yP,zp qsO,qe3]at h;have hl:(qa8 k (den n ov) H).1.length=n:=by rw[quQ,qee]
  have:=qkT (qa8 k (den n ov) H).1;rw[hl]at this;refine⟨_,_,?_,?_,h⟩
  ·exact qcv _ _ _ (by omega)
  ·simp only[qCg,if_false,this]
def qrx(n k:Nat)(ts:Option (List Tmp))(ls:List (Tmp×Nat))(ov:Ov)(H:AH)(K:Ov->AH->Option β):Option β:=
 qjd n ts ov λov=>qcb n ls ov H λov H=>yGc n k ov H K
theorem qjf{n k:Nat}{ts:Option (List Tmp)}{ls:List (Tmp×Nat)}{ov:Ov}{H:AH}{K:Ov->AH->Option β}{r:β}(hok:OvOk n ov)(h:qrx n k ts ls ov H K=some r):
  ∃ov' H',OvOk n ov'∧yf k ts ls (den n ov) H=(den n ov',H')∧K ov' H'=some r:=by
 obtain⟨ov1,h1,h2,h⟩:=qeq hok h;obtain⟨ov2,H2,h3,h4,h⟩:=z5 h1 h;obtain⟨ov3,H3,h5,h6,h⟩:=qvJ h3 h;refine⟨ov3,H3,h5,?_,h⟩;unfold yf;rw[h2,h4];exact h6
abbrev YE(β:Type):=Ex->Ov->AH->Option β
def qnj(n k:Nat)(ts:Option (List Tmp))(ls:List (Tmp×Nat))(body:Ov->AH->YE β->Option β):Nat->Ov->AH->YE β->Option β
 |0,_,_,_=>none
 |m+1,ov,H,K=>body ov H λe ov' H'=>
  match e with
  | .normal=>qrx n k ts ls ov' H' λov2 H2=>qnj n k ts ls body m ov2 H2 K
  |e=>K e ov' H'
def qto(cfg:Cfg)(cf:Orac)(f:Nat)(rd:Option Nat)(n bs:Nat)(g:Operand)(ps:Array Tmp)(assign body:Code)(ov:Ov)(H:AH)(K:YE β):Option β:=
 gL gW (den n ov) λfr=>
 match zE cfg cf f rd bs g ps assign body fr H with
 |none=>none
 |some q=>gS (spGo 0 q.2.1) λov'=>gL gP ov' λov'=>gH q.2.2 λH'=>cond (qCh q.2.1.length n) (K q.1 ov' H') none
def yC(cfg:Cfg)(cf:Orac)(fs:List Fact)(m f:Nat)(rd:Option Nat)(n bs:Nat):Code->Ov->AH->YE β->Option β
 | .skip,ov,H,K=>K .normal ov H
 | .label _,ov,H,K=>K .normal ov H
 | .region id ops draw,ov,H,K=>
  match draw with
  |true=>cond (zU ops) (gS (H++qCr (places cfg ops.toList) .res) λH1=>qjg cfg cf fs f id ops n 0 H.length ops.toList ov H1 λfps ov' H'=>cond (qcz (ancs [] ops.toList) H1 fps) (K .normal ov' H') none) none
  |false=>yOps cfg cf fs f id ops n 0 ops.toList ov H λov' H'=>K .normal ov' H'
 | .seq a b,ov,H,K=>
  match qb2 a with
  |some p=>
   gL gW (den n ov) λfr=>
   match(zr cfg cf f p.1 p.2 p.2.size [] fr H).bind λL=>zC (λfr H=>(xC cfg cf m f rd bs b (vB (cfg.cut f (qh b)) fr) H).map (qhG bs (dsts a++dsts b))) L with
   |none=>none
   |some q=>gS (spGo 0 q.2.1) λov'=>gL gP ov' λov'=>gH q.2.2 λH'=>cond (qCh q.2.1.length n) (K q.1 ov' H') none
  |none=>yC cfg cf fs m f rd n bs a ov H λe ov' H'=>
   match e with
   | .normal=>qjd n (cfg.cut f (qh b)) ov' λov2=>yC cfg cf fs m f rd n bs b ov2 H' K
   |e=>K e ov' H'
 | .cond c a b,ov,H,K=>
  match opdO ov c with
  | .bool t=>(match t with|true=>yC cfg cf fs m f rd n bs a ov H K|false=>yC cfg cf fs m f rd n bs b ov H K)
  |_=>none
 | .block id a,ov,H,K=>yC cfg cf fs m f rd n bs a ov H λe ov' H'=>
  match e with
  | .exit id'=>cond (qCh id' id) (K .normal ov' H') (K (.exit id') ov' H')
  |e=>K e ov' H'
 | .loop a,ov,H,K=>qrx n bs (cfg.keepIn f (qh a)) (cfg.lift f (qh a)) ov H λov H=>
   qnj n bs (cfg.keepIn f (qh a)) (cfg.lift f (qh a)) (yC cfg cf fs m f rd n bs a) m ov H λe ov H=>qjd n (cfg.keepOut f (qh a)) ov λov=>K e ov H
 | .scope a,ov,H,K=>yC cfg cf fs m f rd n bs a ov H λe ov' H'=>
  match e with
  | .goto _=>none
  |e=>K e ov' H'
 | .exit id,ov,H,K=>K (.exit id) ov H
 | .goto _,_,_,_=>none
 | .ret,ov,H,K=>K .ret ov H
 | .rangeFunc g ps assign body,ov,H,K=>qcb n (cfg.lift f (qh body)) ov H λov H=>qto cfg cf f rd n bs g ps assign body ov H K
 | .refuse _,_,_,_=>none
theorem qje{n k:Nat}{ts:Option (List Tmp)}{ls:List (Tmp×Nat)}{body:Ov->AH->YE β->Option β}{den':Den}{r:β}(hb:∀{ov H K},OvOk n ov->body ov H K=some r->∃e ov' H',OvOk n ov'∧den' (den n ov) H=some (e,den n ov',H')∧K e ov' H'=some r):
  ∀(m:Nat) {ov:Ov} {H:AH} {K:YE β},OvOk n ov->qnj n k ts ls body m ov H K=some r->∃e ov' H',OvOk n ov'∧x8 k ts ls den' m (den n ov,H)=some (e,den n ov',H')∧K e ov' H'=some r
 |0,ov,H,K,_,h=>by cases h
 |m+1,ov,H,K,hok,h=>by
  rw[qnj]at h;obtain⟨e,ov1,H1,h1,h2,h3⟩:=hb hok h;rw[x8];simp only[h2,qCe];cases e with
  |normal=>
   simp only at h3⊢;obtain⟨ov2,H2,h4,h5,h6⟩:=qjf h1 h3;rw[h5];exact qje hb m h4 h6
  |exit id=>exact⟨_,ov1,H1,h1,rfl,h3⟩
  |goto l=>exact⟨_,ov1,H1,h1,rfl,h3⟩
  |ret=>exact⟨_,ov1,H1,h1,rfl,h3⟩
theorem qle{cfg:Cfg}{cf:Orac}(hcf:Le cf (EV cfg)){fs:List Fact}(hfs:vP cfg fs){m f:Nat}{rd:Option Nat}{n bs:Nat}{r:β}:∀(c:Code) {ov:Ov} {H:AH} {K:YE β},OvOk n ov->yC cfg cf fs m f rd n bs c ov H K=some r ->
  ∃e ov' H',OvOk n ov'∧evC cfg (EV cfg) f rd bs c (den n ov) H=some (e,den n ov',H')∧K e ov' H'=some r:=by
 intro c
 induction c with
 |skip=>intro ov H K hok h;exact⟨_,ov,H,hok,by simp only[evC],h⟩
 |label l=>intro ov H K hok h;exact⟨_,ov,H,hok,by simp only[evC],h⟩
 |exit id=>intro ov H K hok h;exact⟨_,ov,H,hok,by simp only[evC],h⟩
 |ret=>intro ov H K hok h;exact⟨_,ov,H,hok,by simp only[evC],h⟩
 |goto l=>intro ov H K hok h;cases h
 |refuse s=>intro ov H K hok h;cases h
 |region id ops draw=>
  intro ov H K hok h;simp only[yC]at h;simp only[evC];cases draw with
  |true=>
   simp only at h;obtain⟨h1,h⟩:=qo h;rw[yP]at h;obtain⟨fps,ov',H',h2,h3,h⟩:=qer hcf hfs hok h;obtain⟨h4,h⟩:=qo h;exact⟨_,ov',H',h2,by simp only[if_true,h1,h3,qCe,h4],h⟩
  |false=>
   simp only at h;obtain⟨ov',H',h2,h3,h⟩:=qfy hcf hfs hok h;exact⟨_,ov',H',h2,by simp only[qCg,if_false,h3,qCt],h⟩
 |seq x y ihx ihy=>
  intro ov H K hok h;simp only[yC]at h;simp only[evC];cases hco:qb2 x with
  |some p=>
   simp only[hco]at h⊢;rw[zp qhF]at h;split at h
   ·cases h
   ·rename_i q hq;obtain⟨L,hL,hq⟩:=qB6.1 hq;have hev:Ev (λ_=>EV cfg) cf:=λt a H r h=>⟨0,λ_ _=>hcf t a H r h⟩
    obtain⟨_,hL'⟩:=qi0 hev cfg f p.1 p.2 _ _ _ _ _ hL;have hL':zr cfg (EV cfg) f p.1 p.2 p.2.size [] (den n ov) H=some L:=hL' _ (qCa _);have hq':=qok (G:=λfr H=>(evC cfg (EV cfg) f rd bs y (vB (cfg.cut f (qh y)) fr) H).map (qhG bs (dsts x++dsts y))) (λfr H r hr=>by
     obtain⟨r',hr',e⟩:=qCb.1 hr;rw[qBK cfg hcf m f rd bs y _ _ _ hr',←e];rfl) hq
    rw[yP,zp qsO,qe3]at h;obtain⟨hl,h⟩:=qo h;have hl:=qB9 hl;have hd:=qkT q.2.1;rw[hl]at hd;refine⟨q.1,_,q.2.2,?_,?_,h⟩
    ·exact qcv _ _ _ (by omega)
    ·rw[hL',qCe,hq',hd]
  |none=>?_
  simp only[hco]at h⊢;obtain⟨e,ov1,H1,h1,h2,h⟩:=ihx hok h;rw[h2];simp only[qCe];cases e with
  |normal=>
   simp only at h⊢;obtain⟨ov2,h3,h4,h⟩:=qeq h1 h;rw[h4];exact ihy h3 h
  |exit id=>exact⟨_,ov1,H1,h1,rfl,h⟩
  |goto l=>exact⟨_,ov1,H1,h1,rfl,h⟩
  |ret=>exact⟨_,ov1,H1,h1,rfl,h⟩
 |cond c x y ihx ihy=>
  intro ov H K hok h;simp only[yC]at h;simp only[evC,qd9 hok];split at h
  ·rename_i t ht;rw[ht];cases t with
   |true=>exact ihx hok h
   |false=>exact ihy hok h
  ·cases h
 |block id x ih=>
  intro ov H K hok h;simp only[yC]at h;simp only[evC];obtain⟨e,ov1,H1,h1,h2,h⟩:=ih hok h;rw[h2];simp only[qCe];cases e with
  |normal=>exact⟨_,ov1,H1,h1,rfl,h⟩
  |exit id'=>
   simp only at h⊢;cases hb:qCh id' id with
   |true=>rw[hb]at h;exact⟨_,ov1,H1,h1,by simp,h⟩
   |false=>rw[hb]at h;exact⟨_,ov1,H1,h1,by simp,h⟩
  |goto l=>exact⟨_,ov1,H1,h1,rfl,h⟩
  |ret=>exact⟨_,ov1,H1,h1,rfl,h⟩
 |loop x ih=>
  intro ov H K hok h;simp only[yC]at h;simp only[evC];obtain⟨ov1,H1,h1,h2,h⟩:=qjf hok h;rw[h2];obtain⟨e,ov2,H2,h3,h4,h⟩:=qje (den':=evC cfg (EV cfg) f rd bs x) (λhok h=>ih hok h) m h1 h;obtain⟨ov3,h5,h6,h⟩:=qeq h3 h;rw[qen h4];exact⟨e,ov3,H2,h5,by simp only[qCt,h6],h⟩
 |scope x ih=>
  intro ov H K hok h;simp only[yC]at h;simp only[evC];obtain⟨e,ov1,H1,h1,h2,h⟩:=ih hok h;rw[h2];simp only[qCe];cases e with
  |goto l=>cases h
  |normal=>exact⟨_,ov1,H1,h1,rfl,h⟩
  |exit id=>exact⟨_,ov1,H1,h1,rfl,h⟩
  |ret=>exact⟨_,ov1,H1,h1,rfl,h⟩
 |rangeFunc g ps assign body=>
  intro ov H K hok h;simp only[yC]at h;simp only[evC];obtain⟨ov1,H1,h1,h2,h⟩:=z5 hok h;rw[h2];simp only;unfold qto at h;rw[zp qhF]at h;split at h
  ·cases h
  ·rename_i q hq;have hq:zE cfg (EV cfg) f rd bs g ps assign body (den n ov1) H1=some q:=by
    unfold zE at hq⊢;split at hq
    ·rename_i hl;rw[qCM hl];split at hq
     ·split at hq
      ·cases hq
      ·rename_i hx;rw[qCN hx];obtain⟨q2,hq2,hq⟩:=qB6.1 hq;rw[hcf _ _ _ _ hq2];exact hq
     ·cases hq
    ·cases hq
   rw[yP,zp qsO,qe3]at h;obtain⟨hl,h⟩:=qo h;have hl:=qB9 hl;have hd:=qkT q.2.1;rw[hl]at hd;refine⟨q.1,_,q.2.2,?_,?_,h⟩
   ·exact qcv _ _ _ (by omega)
   ·rw[hq,hd]
def resO(rs:List ResultVar)(ty:TypeId->Option TI)(ov:Ov)(H:AH):Option (List AV):=
 match rs with
 |[]=>some []
 | .tmp t::l=>(resO l ty ov H).map λvs=>xp t ov::vs
 | .cell a t::l=>
  match ty t with
  |some ti=>(zt ti.d.agg ti.sz H (xp a ov)).bind λv=>(resO l ty ov H).map λvs=>v::vs
  |none=>none
theorem qlt{n:Nat}{ov:Ov}(hok:OvOk n ov)(ty:TypeId->Option TI)(H:AH):∀rs:List ResultVar,xE rs ty (den n ov) H=resO rs ty ov H
 |[]=>rfl
 | .tmp t::l=>by
  have:(den n ov).getD t .junk=xp t ov:=congrFun (qd9 hok) (.tmp t);simp only[xE,resO,qlt hok ty H l,this]
 | .cell a t::l=>by
  have:(den n ov).getD a .junk=xp a ov:=congrFun (qd9 hok) (.tmp a);simp only[xE,resO,qlt hok ty H l,this];cases ty t<;>rfl
def yEnd(cfg:Cfg)(f n:Nat)(rs:List ResultVar):YE (AV×AH):=λe ov H=>
 match e with
 | .normal| .ret=>qcb n (cfg.lift f 0) ov H λov H=>(match resO rs cfg.ty ov H with|some vs=>gA (zc vs) λv=>some (v,H)|none=>none)
 |_=>none
def qfa:Nat->List AV->Ov
 |_,[]=>[]
 |i,a::l=>(i,a)::qfa (i+1) l
theorem qi4:∀(l:List AV) (i n:Nat),i+l.length<=n->OvOk n (qfa i l)
 |[],i,n,_=>λp hp=>by cases hp
 |a::l,i,n,h=>by
  simp only[qCE]at h;intro p hp;rcases qCB.1 hp with rfl|hp
  ·show i<n;omega
  ·exact qi4 l (i+1) n (by omega) p hp
theorem qmW:∀(l:List AV) (i t:Nat),xp t (qfa i l)=if i<=t then(l[t - i]?).getD .junk else .junk
 |[],i,t=>by simp[qfa,qgo]
 |a::l,i,t=>by
  rw[qfa,qaY,qmW l (i+1) t]
  by_cases e2:i=t
  ·subst e2;simp
  ·have h1:qCh i t=false:=by rw[←Bool.not_eq_true];intro h';exact e2 (qB9 h')
   simp only[h1,cond_false]
   by_cases h3:i+1<=t
   ·have h4:t - i=(t - (i+1))+1:=by omega
    rw[qCM h3,qCM (by omega),h4,List.getElem?_cons_succ]
   ·rw[qCN h3,qCN (by omega)]
theorem qwN{l:List AV}{n:Nat}(h:l.length<=n):den n (qfa 0 l)=l++qCr (n - l.length) .junk:=by
 refine qlS (qi4 l 0 n (by omega)) (by simp;omega) λt ht=>?_
 rw[qmW,qCM (Nat.zero_le _),Nat.sub_zero]
 by_cases hl:t<l.length
 ·rw[qCf hl,qB3 hl];rfl
 ·rw[qCo (by omega),List.getElem?_replicate,qCM (by omega),List.getElem?_eq_none (by omega)];rfl
def yY2(id:Nat):YE (AV×AH):=λe _ H=>
 match H[id]? with
 |some (.loop f' fr' ps' assign' body' _ _)=>
  match e with
  | .normal=>gS (H.set id (.loop f' fr' ps' assign' body' none .ready)) λH'=>some (.bool true,H')
  | .ret=>gS (H.set id (.loop f' fr' ps' assign' body' (some .ret) .done)) λH'=>some (.bool false,H')
  | .exit x=>gS (H.set id (.loop f' fr' ps' assign' body' (some (.exit x)) .done)) λH'=>some (.bool false,H')
  | .goto _=>none
 |_=>none
def yF(cfg:Cfg)(look:Nat->Option Func)(fs:List Fact)(m:Nat):Nat->Orac
 |0,_,_,_=>none
 |d+1,.f f,args,H=>
  match cfg.ext f with
  |some s=>s args H
  |none=>
   if cfg.known f then
    match look f with
    |some fn=>
     match fn.body with
     |some c=>cond (qB4 args.length fn.ntmps) (fNat H.length λbs=>fNat fn.ntmps λn=>gS (qfa 0 args) λov=>yC cfg (yF cfg look fs m d) fs m f none n bs c ov H (yEnd cfg f n fn.results.toList)) none
     |none=>none
    |none=>none
   else none
 |d+1,.y id,args,H=>
  match H[id]? with
  |some (.loop f fr ps assign body _ .ready)=>
   cond (qCh args.length ps.length)
    (fNat H.length λbs=>fNat (yj fr ps args).length λn=>gS (spGo 0 (yj fr ps args)) λov=>yC cfg (yF cfg look fs m d) fs m f (some id) n bs assign ov H λe ov H=>
     match e with
     | .normal=>
      (match H[id]? with
      |some (.loop f' fr' ps' assign' body' pend' .ready)=>gS (H.set id (.loop f' fr' ps' assign' body' pend' .busy)) λH'=>yC cfg (yF cfg look fs m d) fs m f (some id) n bs body ov H' (yY2 id)
      |_=>none)
     |_=>none) none
  |_=>none
theorem qry(cfg:Cfg){look:Nat->Option Func}(hl:∀f fn,look f=some fn->cfg.P.funcs[f]? =some fn){fs:List Fact}(hfs:vP cfg fs)(m:Nat):∀(d:Nat) (t:Tgt) (a:List AV) (H:AH) (r),yF cfg look fs m d t a H=some r->EV cfg t a H=some r
 |0,_,_,_,_,h=>by cases h
 |d+1,t,a,H,r,h=>by
  have ih:=qry cfg hl hfs m d;refine qhN ?_;cases t with
  |f f=>
   simp only[yF]at h;unfold xn;split at h
   ·rename_i s hs;simp only[hs];exact h
   ·rename_i hs;simp only[hs];split at h
    ·rename_i hk;rw[qCM hk];split at h
     ·rename_i fn hf;simp only[hl f fn hf];split at h
      ·rename_i c hb;simp only[hb];obtain⟨hle,h⟩:=qo h;rw[qCz]at hle;simp only[yp,yP]at h;obtain⟨e,ov',H',h1,h2,h3⟩:=qle ih hfs c (qi4 a 0 fn.ntmps (by omega)) h;rw[qwN hle]at h2;rw[h2];simp only[qCe];unfold yEnd at h3;have fin:∀(e:Ex),(e= .normal∨e= .ret)->(qcb fn.ntmps (cfg.lift f 0) ov' H' λov H=>(match resO fn.results.toList cfg.ty ov H with|some vs=>gA (zc vs) λv=>some (v,H)|none=>none))=some r ->
         qb0 cfg fn.results.toList (e,vr (cfg.lift f 0) (den fn.ntmps ov') H')=some r:=by
        intro e he h3;obtain⟨ov2,H2,h4,h5,h6⟩:=z5 h1 h3;rw[h5];unfold qb0;rcases he with rfl|rfl<;>
        ·simp only[qlt h4];split at h6
         ·rename_i vs hv;rw[qbJ]at h6;rw[hv];exact h6
         ·cases h6
       cases e with
       |normal=>exact fin _ (.inl rfl) h3
       |ret=>exact fin _ (.inr rfl) h3
       |exit x=>cases h3
       |goto l=>cases h3
      ·cases h
     ·cases h
    ·cases h
  |y id=>
   simp only[yF]at h;unfold xn;split at h
   ·rename_i f fr ps assign body p hlp;simp only[hlp];obtain⟨hlen,h⟩:=qo h;rw[qCM (qB9 hlen)];simp only[yp,yP]at h;obtain⟨e,ov1,H1,h1,h2,h3⟩:=qle ih hfs assign (qcv _ 0 _ (by omega)) h;rw[qkT]at h2;rw[h2];simp only[qCe];cases e with
    |normal=>
     simp only at h3⊢;split at h3
     ·rename_i f' fr' ps' assign' body' pend' hl1;simp only[hl1];obtain⟨e2,ov2,H2,h4,h5,h6⟩:=qle ih hfs body h1 h3;rw[h5];simp only[qCe];unfold yY2 at h6;split at h6
      ·rename_i hl2;simp only[hl2];cases e2 with
       |normal=>simp only[yP]at h6;exact h6
       |ret=>simp only[yP]at h6;exact h6
       |exit x=>simp only[yP]at h6;exact h6
       |goto l=>cases h6
      ·cases h6
     ·cases h3
    |exit x=>cases h3
    |goto l=>cases h3
    |ret=>cases h3
   ·cases h
theorem quW{cfg:Cfg}{look:Nat->Option Func}(hl:∀f fn,look f=some fn->cfg.P.funcs[f]? =some fn){fs:List Fact}(hfs:vP cfg fs){f:Nat}{args:List AV}{v:AV}(m d:Nat)(h:(match yF cfg look fs m d (.f f) args []with|some r=>some r.1|none=>none)=some v):EVs (EV cfg) f args=some v:=by
 unfold EVs;cases hx:yF cfg look fs m d (.f f) args []with
 |none=>rw[hx]at h;cases h
 |some r=>rw[hx]at h;rw[qry cfg hl hfs m d _ _ _ _ hx];exact h
theorem quX{cfg:Cfg}{look:Nat->Option Func}(hl:∀f fn,look f=some fn->cfg.P.funcs[f]? =some fn){fs:List Fact}(hfs:vP cfg fs){f:Nat}{args:List AV}{v:AV}(m d:Nat)(h:(match yF cfg look fs m d (.f f) args []with|some r=>gA (r.1.frz r.1.msIds r.2).fg some|none=>none)=some v):EVf (EV cfg) f args=some v:=by
 unfold EVf;cases hx:yF cfg look fs m d (.f f) args []with
 |none=>rw[hx]at h;cases h
 |some r=>rw[hx]at h;rw[qry cfg hl hfs m d _ _ _ _ hx];simp only[qbJ]at h;exact h
end
def qc6:List AV->AH->Option (AV×AH)
 |[.str a,.str b],H=>some (.int .i64 (if a==b then 0 else if Op.bytesLess a b then -1 else 1),H)
 |_,_=>none
def isEm(r:AV×AH):Bool:=
 match(r.1.frz r.1.msIds r.2).fg with
 | .sl []=>true
 |_=>false
def qbc(g:List AV->AH->Option (AV×AH))(args:List AV)(H:AH):Option (AV×AH):=
 match args with
 |[.sl []]=>(match g [.nilS] [],g [.em] []with
  |some a,some b=>bif isEm a&&isEm b then some (.sl [],H)else none
  |_,_=>none)
 |args=>g args H
end Go.Av
end
noncomputable section
namespace Go.Proofs.YtgleolmhpmljhaaGreat.K
open Go.Av
def qeD:BT TI:=.node 104 ({ d:=.func,sz:=1,bytes:=8,zero:=[.nilF],eq:=false }) (.node 53 ({ d:=.func,sz:=1,bytes:=8,zero:=[.nilF],eq:=false }) (.node 27 ({ d:=.slice 36,sz:=1,bytes:=24,zero:=[.nilS],eq:=false }) (.node 16 ({ d:=.ptr 194,sz:=1,bytes:=8,zero:=[.nilP],eq:=false }) (.node 6 ({ d:=.int .u8,sz:=1,bytes:=1,zero:=[.int .u8 0],eq:=false }) (.node 3 ({ d:=.int .i64,sz:=1,bytes:=8,zero:=[.int .i64 0],eq:=false }) (.node 2 ({ d:=.int .i64,sz:=1,bytes:=8,zero:=[.int .i64 0],eq:=false }) (.node 1 ({ d:=.func,sz:=1,bytes:=8,zero:=[.nilF],eq:=false }) .leaf .leaf) .leaf) (.node 5 ({ d:=.int .u8,sz:=1,bytes:=1,zero:=[.int .u8 0],eq:=false }) (.node 4 ({ d:=.bool,sz:=1,bytes:=1,zero:=[.bool false],eq:=false }) .leaf .leaf) .leaf)) (.node 12 ({ d:=.int .u64,sz:=1,bytes:=8,zero:=[.int .u64 0],eq:=false }) (.node 9 ({ d:=.str,sz:=1,bytes:=16,zero:=[.str []],eq:=false }) (.node 7 ({ d:=.struct [(0,2),(1,3),(2,4),(3,6)],sz:=4,bytes:=24,zero:=[.int .i64 0,.int .i64 0,.bool false,.int .u8 0],eq:=true }) .leaf .leaf) .leaf) (.node 15 ({ d:=.ptr 191,sz:=1,bytes:=8,zero:=[.nilP],eq:=false }) (.node 13 ({ d:=.struct [(0,9),(1,12)],sz:=2,bytes:=24,zero:=[.str [],.int .u64 0],eq:=false }) .leaf .leaf) .leaf))) (.node 22 ({ d:=.slice 24,sz:=1,bytes:=24,zero:=[.nilS],eq:=false }) (.node 19 ({ d:=.struct [(0,17)],sz:=1,bytes:=8,zero:=[.nilP],eq:=false }) (.node 18 ({ d:=.struct [(0,17)],sz:=1,bytes:=8,zero:=[.nilP],eq:=false }) (.node 17 ({ d:=.ptr 203,sz:=1,bytes:=8,zero:=[.nilP],eq:=false }) .leaf .leaf) .leaf) (.node 21 ({ d:=.int .i32,sz:=1,bytes:=4,zero:=[.int .i32 0],eq:=false }) (.node 20 ({ d:=.iface,sz:=1,bytes:=16,zero:=[.nilI],eq:=false }) .leaf .leaf) .leaf)) (.node 25 ({ d:=.func,sz:=1,bytes:=8,zero:=[.nilF],eq:=false }) (.node 24 ({ d:=.struct [(0,3),(1,3),(2,9),(3,22)],sz:=4,bytes:=56,zero:=[.int .i64 0,.int .i64 0,.str [],.nilS],eq:=false }) (.node 23 ({ d:=.struct [(0,3),(1,3),(2,9),(3,22)],sz:=4,bytes:=56,zero:=[.int .i64 0,.int .i64 0,.str [],.nilS],eq:=false }) .leaf .leaf) .leaf) (.node 26 ({ d:=.func,sz:=1,bytes:=8,zero:=[.nilF],eq:=false }) .leaf .leaf)))) (.node 41 ({ d:=.func,sz:=1,bytes:=8,zero:=[.nilF],eq:=false }) (.node 34 ({ d:=.func,sz:=1,bytes:=8,zero:=[.nilF],eq:=false }) (.node 30 ({ d:=.int .i64,sz:=1,bytes:=8,zero:=[.int .i64 0],eq:=false }) (.node 29 ({ d:=.struct [(0,4),(1,22),(2,27)],sz:=3,bytes:=56,zero:=[.bool false,.nilS,.nilS],eq:=false }) (.node 28 ({ d:=.struct [(0,4),(1,22),(2,27)],sz:=3,bytes:=56,zero:=[.bool false,.nilS,.nilS],eq:=false }) .leaf .leaf) .leaf) (.node 33 ({ d:=.func,sz:=1,bytes:=8,zero:=[.nilF],eq:=false }) (.node 32 ({ d:=.func,sz:=1,bytes:=8,zero:=[.nilF],eq:=false }) .leaf .leaf) .leaf)) (.node 37 ({ d:=.func,sz:=1,bytes:=8,zero:=[.nilF],eq:=false }) (.node 36 ({ d:=.struct [(0,3),(1,22)],sz:=2,bytes:=32,zero:=[.int .i64 0,.nilS],eq:=false }) (.node 35 ({ d:=.struct [(0,3),(1,22)],sz:=2,bytes:=32,zero:=[.int .i64 0,.nilS],eq:=false }) .leaf .leaf) .leaf) (.node 39 ({ d:=.func,sz:=1,bytes:=8,zero:=[.nilF],eq:=false }) (.node 38 ({ d:=.func,sz:=1,bytes:=8,zero:=[.nilF],eq:=false }) .leaf .leaf) .leaf))) (.node 48 ({ d:=.struct [(0,24),(4,22),(5,22)],sz:=6,bytes:=104,zero:=[.int .i64 0,.int .i64 0,.str [],.nilS,.nilS,.nilS],eq:=false }) (.node 44 ({ d:=.func,sz:=1,bytes:=8,zero:=[.nilF],eq:=false }) (.node 43 ({ d:=.func,sz:=1,bytes:=8,zero:=[.nilF],eq:=false }) (.node 42 ({ d:=.func,sz:=1,bytes:=8,zero:=[.nilF],eq:=false }) .leaf .leaf) .leaf) (.node 47 ({ d:=.func,sz:=1,bytes:=8,zero:=[.nilF],eq:=false }) (.node 45 ({ d:=.slice 49,sz:=1,bytes:=24,zero:=[.nilS],eq:=false }) .leaf .leaf) .leaf)) (.node 51 ({ d:=.func,sz:=1,bytes:=8,zero:=[.nilF],eq:=false }) (.node 50 ({ d:=.func,sz:=1,bytes:=8,zero:=[.nilF],eq:=false }) (.node 49 ({ d:=.struct [(0,24),(4,22),(5,22)],sz:=6,bytes:=104,zero:=[.int .i64 0,.int .i64 0,.str [],.nilS,.nilS,.nilS],eq:=false }) .leaf .leaf) .leaf) (.node 52 ({ d:=.func,sz:=1,bytes:=8,zero:=[.nilF],eq:=false }) .leaf .leaf))))) (.node 79 ({ d:=.func,sz:=1,bytes:=8,zero:=[.nilF],eq:=false }) (.node 65 ({ d:=.func,sz:=1,bytes:=8,zero:=[.nilF],eq:=false }) (.node 59 ({ d:=.func,sz:=1,bytes:=8,zero:=[.nilF],eq:=false }) (.node 56 ({ d:=.func,sz:=1,bytes:=8,zero:=[.nilF],eq:=false }) (.node 55 ({ d:=.func,sz:=1,bytes:=8,zero:=[.nilF],eq:=false }) (.node 54 ({ d:=.func,sz:=1,bytes:=8,zero:=[.nilF],eq:=false }) .leaf .leaf) .leaf) (.node 58 ({ d:=.func,sz:=1,bytes:=8,zero:=[.nilF],eq:=false }) (.node 57 ({ d:=.func,sz:=1,bytes:=8,zero:=[.nilF],eq:=false }) .leaf .leaf) .leaf)) (.node 62 ({ d:=.func,sz:=1,bytes:=8,zero:=[.nilF],eq:=false }) (.node 61 ({ d:=.struct [(0,4),(1,4),(2,4),(3,24),(7,36)],sz:=9,bytes:=96,zero:=[.bool false,.bool false,.bool false,.int .i64 0,.int .i64 0,.str [],.nilS,.int .i64 0,.nilS],eq:=false }) (.node 60 ({ d:=.struct [(0,4),(1,4),(2,4),(3,24),(7,36)],sz:=9,bytes:=96,zero:=[.bool false,.bool false,.bool false,.int .i64 0,.int .i64 0,.str [],.nilS,.int .i64 0,.nilS],eq:=false }) .leaf .leaf) .leaf) (.node 64 ({ d:=.func,sz:=1,bytes:=8,zero:=[.nilF],eq:=false }) (.node 63 ({ d:=.func,sz:=1,bytes:=8,zero:=[.nilF],eq:=false }) .leaf .leaf) .leaf))) (.node 73 ({ d:=.func,sz:=1,bytes:=8,zero:=[.nilF],eq:=false }) (.node 69 ({ d:=.func,sz:=1,bytes:=8,zero:=[.nilF],eq:=false }) (.node 68 ({ d:=.func,sz:=1,bytes:=8,zero:=[.nilF],eq:=false }) (.node 66 ({ d:=.func,sz:=1,bytes:=8,zero:=[.nilF],eq:=false }) .leaf .leaf) .leaf) (.node 72 ({ d:=.func,sz:=1,bytes:=8,zero:=[.nilF],eq:=false }) (.node 70 ({ d:=.func,sz:=1,bytes:=8,zero:=[.nilF],eq:=false }) .leaf .leaf) .leaf)) (.node 76 ({ d:=.func,sz:=1,bytes:=8,zero:=[.nilF],eq:=false }) (.node 75 ({ d:=.func,sz:=1,bytes:=8,zero:=[.nilF],eq:=false }) (.node 74 ({ d:=.func,sz:=1,bytes:=8,zero:=[.nilF],eq:=false }) .leaf .leaf) .leaf) (.node 77 ({ d:=.func,sz:=1,bytes:=8,zero:=[.nilF],eq:=false }) .leaf .leaf)))) (.node 91 ({ d:=.struct [(0,24),(4,24)],sz:=8,bytes:=112,zero:=[.int .i64 0,.int .i64 0,.str [],.nilS,.int .i64 0,.int .i64 0,.str [],.nilS],eq:=false }) (.node 85 ({ d:=.func,sz:=1,bytes:=8,zero:=[.nilF],eq:=false }) (.node 82 ({ d:=.func,sz:=1,bytes:=8,zero:=[.nilF],eq:=false }) (.node 81 ({ d:=.func,sz:=1,bytes:=8,zero:=[.nilF],eq:=false }) (.node 80 ({ d:=.func,sz:=1,bytes:=8,zero:=[.nilF],eq:=false }) .leaf .leaf) .leaf) (.node 84 ({ d:=.func,sz:=1,bytes:=8,zero:=[.nilF],eq:=false }) (.node 83 ({ d:=.func,sz:=1,bytes:=8,zero:=[.nilF],eq:=false }) .leaf .leaf) .leaf)) (.node 88 ({ d:=.func,sz:=1,bytes:=8,zero:=[.nilF],eq:=false }) (.node 87 ({ d:=.func,sz:=1,bytes:=8,zero:=[.nilF],eq:=false }) (.node 86 ({ d:=.int .u64,sz:=1,bytes:=8,zero:=[.int .u64 0],eq:=false }) .leaf .leaf) .leaf) (.node 90 ({ d:=.func,sz:=1,bytes:=8,zero:=[.nilF],eq:=false }) (.node 89 ({ d:=.func,sz:=1,bytes:=8,zero:=[.nilF],eq:=false }) .leaf .leaf) .leaf))) (.node 98 ({ d:=.func,sz:=1,bytes:=8,zero:=[.nilF],eq:=false }) (.node 94 ({ d:=.func,sz:=1,bytes:=8,zero:=[.nilF],eq:=false }) (.node 93 ({ d:=.slice 92,sz:=1,bytes:=24,zero:=[.nilS],eq:=false }) (.node 92 ({ d:=.struct [(0,24),(4,24)],sz:=8,bytes:=112,zero:=[.int .i64 0,.int .i64 0,.str [],.nilS,.int .i64 0,.int .i64 0,.str [],.nilS],eq:=false }) .leaf .leaf) .leaf) (.node 97 ({ d:=.slice 5,sz:=1,bytes:=24,zero:=[.nilS],eq:=false }) (.node 96 ({ d:=.func,sz:=1,bytes:=8,zero:=[.nilF],eq:=false }) .leaf .leaf) .leaf)) (.node 101 ({ d:=.ptr 4,sz:=1,bytes:=8,zero:=[.nilP],eq:=false }) (.node 100 ({ d:=.func,sz:=1,bytes:=8,zero:=[.nilF],eq:=false }) (.node 99 ({ d:=.func,sz:=1,bytes:=8,zero:=[.nilF],eq:=false }) .leaf .leaf) .leaf) (.node 103 ({ d:=.func,sz:=1,bytes:=8,zero:=[.nilF],eq:=false }) .leaf .leaf)))))) (.node 155 ({ d:=.struct [(0,116),(1,116)],sz:=2,bytes:=16,zero:=[.int .u64 0,.int .u64 0],eq:=true }) (.node 131 ({ d:=.func,sz:=1,bytes:=8,zero:=[.nilF],eq:=false }) (.node 117 ({ d:=.func,sz:=1,bytes:=8,zero:=[.nilF],eq:=false }) (.node 111 ({ d:=.func,sz:=1,bytes:=8,zero:=[.nilF],eq:=false }) (.node 107 ({ d:=.int .i64,sz:=1,bytes:=8,zero:=[.int .i64 0],eq:=false }) (.node 106 ({ d:=.func,sz:=1,bytes:=8,zero:=[.nilF],eq:=false }) (.node 105 ({ d:=.func,sz:=1,bytes:=8,zero:=[.nilF],eq:=false }) .leaf .leaf) .leaf) (.node 110 ({ d:=.func,sz:=1,bytes:=8,zero:=[.nilF],eq:=false }) (.node 109 ({ d:=.func,sz:=1,bytes:=8,zero:=[.nilF],eq:=false }) .leaf .leaf) .leaf)) (.node 114 ({ d:=.int .u32,sz:=1,bytes:=4,zero:=[.int .u32 0],eq:=false }) (.node 113 ({ d:=.func,sz:=1,bytes:=8,zero:=[.nilF],eq:=false }) (.node 112 ({ d:=.func,sz:=1,bytes:=8,zero:=[.nilF],eq:=false }) .leaf .leaf) .leaf) (.node 116 ({ d:=.int .u64,sz:=1,bytes:=8,zero:=[.int .u64 0],eq:=false }) (.node 115 ({ d:=.func,sz:=1,bytes:=8,zero:=[.nilF],eq:=false }) .leaf .leaf) .leaf))) (.node 125 ({ d:=.func,sz:=1,bytes:=8,zero:=[.nilF],eq:=false }) (.node 121 ({ d:=.func,sz:=1,bytes:=8,zero:=[.nilF],eq:=false }) (.node 120 ({ d:=.func,sz:=1,bytes:=8,zero:=[.nilF],eq:=false }) (.node 118 ({ d:=.slice 3,sz:=1,bytes:=24,zero:=[.nilS],eq:=false }) .leaf .leaf) .leaf) (.node 123 ({ d:=.slice 167,sz:=1,bytes:=24,zero:=[.nilS],eq:=false }) (.node 122 ({ d:=.func,sz:=1,bytes:=8,zero:=[.nilF],eq:=false }) .leaf .leaf) .leaf)) (.node 128 ({ d:=.func,sz:=1,bytes:=8,zero:=[.nilF],eq:=false }) (.node 127 ({ d:=.struct [(0,24),(4,123),(5,3)],sz:=6,bytes:=88,zero:=[.int .i64 0,.int .i64 0,.str [],.nilS,.nilS,.int .i64 0],eq:=false }) (.node 126 ({ d:=.struct [(0,24),(4,123),(5,3)],sz:=6,bytes:=88,zero:=[.int .i64 0,.int .i64 0,.str [],.nilS,.nilS,.int .i64 0],eq:=false }) .leaf .leaf) .leaf) (.node 130 ({ d:=.func,sz:=1,bytes:=8,zero:=[.nilF],eq:=false }) .leaf .leaf)))) (.node 143 ({ d:=.func,sz:=1,bytes:=8,zero:=[.nilF],eq:=false }) (.node 137 ({ d:=.func,sz:=1,bytes:=8,zero:=[.nilF],eq:=false }) (.node 134 ({ d:=.func,sz:=1,bytes:=8,zero:=[.nilF],eq:=false }) (.node 133 ({ d:=.func,sz:=1,bytes:=8,zero:=[.nilF],eq:=false }) (.node 132 ({ d:=.array 2 22,sz:=2,bytes:=48,zero:=[.nilS,.nilS],eq:=false }) .leaf .leaf) .leaf) (.node 136 ({ d:=.int .u64,sz:=1,bytes:=8,zero:=[.int .u64 0],eq:=false }) (.node 135 ({ d:=.func,sz:=1,bytes:=8,zero:=[.nilF],eq:=false }) .leaf .leaf) .leaf)) (.node 140 ({ d:=.ptr 3,sz:=1,bytes:=8,zero:=[.nilP],eq:=false }) (.node 139 ({ d:=.func,sz:=1,bytes:=8,zero:=[.nilF],eq:=false }) (.node 138 ({ d:=.func,sz:=1,bytes:=8,zero:=[.nilF],eq:=false }) .leaf .leaf) .leaf) (.node 142 ({ d:=.func,sz:=1,bytes:=8,zero:=[.nilF],eq:=false }) (.node 141 ({ d:=.func,sz:=1,bytes:=8,zero:=[.nilF],eq:=false }) .leaf .leaf) .leaf))) (.node 149 ({ d:=.func,sz:=1,bytes:=8,zero:=[.nilF],eq:=false }) (.node 146 ({ d:=.func,sz:=1,bytes:=8,zero:=[.nilF],eq:=false }) (.node 145 ({ d:=.func,sz:=1,bytes:=8,zero:=[.nilF],eq:=false }) (.node 144 ({ d:=.func,sz:=1,bytes:=8,zero:=[.nilF],eq:=false }) .leaf .leaf) .leaf) (.node 148 ({ d:=.func,sz:=1,bytes:=8,zero:=[.nilF],eq:=false }) (.node 147 ({ d:=.func,sz:=1,bytes:=8,zero:=[.nilF],eq:=false }) .leaf .leaf) .leaf)) (.node 153 ({ d:=.struct [(0,127),(6,4)],sz:=7,bytes:=96,zero:=[.int .i64 0,.int .i64 0,.str [],.nilS,.nilS,.int .i64 0,.bool false],eq:=false }) (.node 152 ({ d:=.ptr 154,sz:=1,bytes:=8,zero:=[.nilP],eq:=false }) (.node 151 ({ d:=.func,sz:=1,bytes:=8,zero:=[.nilF],eq:=false }) .leaf .leaf) .leaf) (.node 154 ({ d:=.struct [(0,127),(6,4)],sz:=7,bytes:=96,zero:=[.int .i64 0,.int .i64 0,.str [],.nilS,.nilS,.int .i64 0,.bool false],eq:=false }) .leaf .leaf))))) (.node 179 ({ d:=.func,sz:=1,bytes:=8,zero:=[.nilF],eq:=false }) (.node 168 ({ d:=.func,sz:=1,bytes:=8,zero:=[.nilF],eq:=false }) (.node 162 ({ d:=.func,sz:=1,bytes:=8,zero:=[.nilF],eq:=false }) (.node 158 ({ d:=.func,sz:=1,bytes:=8,zero:=[.nilF],eq:=false }) (.node 157 ({ d:=.func,sz:=1,bytes:=8,zero:=[.nilF],eq:=false }) (.node 156 ({ d:=.struct [(0,116),(1,116)],sz:=2,bytes:=16,zero:=[.int .u64 0,.int .u64 0],eq:=true }) .leaf .leaf) .leaf) (.node 161 ({ d:=.func,sz:=1,bytes:=8,zero:=[.nilF],eq:=false }) (.node 159 ({ d:=.ptr 136,sz:=1,bytes:=8,zero:=[.nilP],eq:=false }) .leaf .leaf) .leaf)) (.node 165 ({ d:=.func,sz:=1,bytes:=8,zero:=[.nilF],eq:=false }) (.node 164 ({ d:=.func,sz:=1,bytes:=8,zero:=[.nilF],eq:=false }) (.node 163 ({ d:=.ptr 176,sz:=1,bytes:=8,zero:=[.nilP],eq:=false }) .leaf .leaf) .leaf) (.node 167 ({ d:=.struct [(0,3),(1,24)],sz:=5,bytes:=64,zero:=[.int .i64 0,.int .i64 0,.int .i64 0,.str [],.nilS],eq:=false }) (.node 166 ({ d:=.struct [(0,3),(1,24)],sz:=5,bytes:=64,zero:=[.int .i64 0,.int .i64 0,.int .i64 0,.str [],.nilS],eq:=false }) .leaf .leaf) .leaf))) (.node 174 ({ d:=.array 100 24,sz:=400,bytes:=5600,zero:=[.int .i64 0,.int .i64 0,.str [],.nilS,.int .i64 0,.int .i64 0,.str [],.nilS,.int .i64 0,.int .i64 0,.str [],.nilS,.int .i64 0,.int .i64 0,.str [],.nilS,.int .i64 0,.int .i64 0,.str [],.nilS,.int .i64 0,.int .i64 0,.str [],.nilS,.int .i64 0,.int .i64 0,.str [],.nilS,.int .i64 0,.int .i64 0,.str [],.nilS,.int .i64 0,.int .i64 0,.str [],.nilS,.int .i64 0,.int .i64 0,.str [],.nilS,.int .i64 0,.int .i64 0,.str [],.nilS,.int .i64 0,.int .i64 0,.str [],.nilS,.int .i64 0,.int .i64 0,.str [],.nilS,.int .i64 0,.int .i64 0,.str [],.nilS,.int .i64 0,.int .i64 0,.str [],.nilS,.int .i64 0,.int .i64 0,.str [],.nilS,.int .i64 0,.int .i64 0,.str [],.nilS,.int .i64 0,.int .i64 0,.str [],.nilS,.int .i64 0,.int .i64 0,.str [],.nilS,.int .i64 0,.int .i64 0,.str [],.nilS,.int .i64 0,.int .i64 0,.str [],.nilS,.int .i64 0,.int .i64 0,.str [],.nilS,.int .i64 0,.int .i64 0,.str [],.nilS,.int .i64 0,.int .i64 0,.str [],.nilS,.int .i64 0,.int .i64 0,.str [],.nilS,.int .i64 0,.int .i64 0,.str [],.nilS,.int .i64 0,.int .i64 0,.str [],.nilS,.int .i64 0,.int .i64 0,.str [],.nilS,.int .i64 0,.int .i64 0,.str [],.nilS,.int .i64 0,.int .i64 0,.str [],.nilS,.int .i64 0,.int .i64 0,.str [],.nilS,.int .i64 0,.int .i64 0,.str [],.nilS,.int .i64 0,.int .i64 0,.str [],.nilS,.int .i64 0,.int .i64 0,.str [],.nilS,.int .i64 0,.int .i64 0,.str [],.nilS,.int .i64 0,.int .i64 0,.str [],.nilS,.int .i64 0,.int .i64 0,.str [],.nilS,.int .i64 0,.int .i64 0,.str [],.nilS,.int .i64 0,.int .i64 0,.str [],.nilS,.int .i64 0,.int .i64 0,.str [],.nilS,.int .i64 0,.int .i64 0,.str [],.nilS,.int .i64 0,.int .i64 0,.str [],.nilS,.int .i64 0,.int .i64 0,.str [],.nilS,.int .i64 0,.int .i64 0,.str [],.nilS,.int .i64 0,.int .i64 0,.str [],.nilS,.int .i64 0,.int .i64 0,.str [],.nilS,.int .i64 0,.int .i64 0,.str [],.nilS,.int .i64 0,.int .i64 0,.str [],.nilS,.int .i64 0,.int .i64 0,.str [],.nilS,.int .i64 0,.int .i64 0,.str [],.nilS,.int .i64 0,.int .i64 0,.str [],.nilS,.int .i64 0,.int .i64 0,.str [],.nilS,.int .i64 0,.int .i64 0,.str [],.nilS,.int .i64 0,.int .i64 0,.str [],.nilS,.int .i64 0,.int .i64 0,.str [],.nilS,.int .i64 0,.int .i64 0,.str [],.nilS,.int .i64 0,.int .i64 0,.str [],.nilS,.int .i64 0,.int .i64 0,.str [],.nilS,.int .i64 0,.int .i64 0,.str [],.nilS,.int .i64 0,.int .i64 0,.str [],.nilS,.int .i64 0,.int .i64 0,.str [],.nilS,.int .i64 0,.int .i64 0,.str [],.nilS,.int .i64 0,.int .i64 0,.str [],.nilS,.int .i64 0,.int .i64 0,.str [],.nilS,.int .i64 0,.int .i64 0,.str [],.nilS,.int .i64 0,.int .i64 0,.str [],.nilS,.int .i64 0,.int .i64 0,.str [],.nilS,.int .i64 0,.int .i64 0,.str [],.nilS,.int .i64 0,.int .i64 0,.str [],.nilS,.int .i64 0,.int .i64 0,.str [],.nilS,.int .i64 0,.int .i64 0,.str [],.nilS,.int .i64 0,.int .i64 0,.str [],.nilS,.int .i64 0,.int .i64 0,.str [],.nilS,.int .i64 0,.int .i64 0,.str [],.nilS,.int .i64 0,.int .i64 0,.str [],.nilS,.int .i64 0,.int .i64 0,.str [],.nilS,.int .i64 0,.int .i64 0,.str [],.nilS,.int .i64 0,.int .i64 0,.str [],.nilS,.int .i64 0,.int .i64 0,.str [],.nilS,.int .i64 0,.int .i64 0,.str [],.nilS,.int .i64 0,.int .i64 0,.str [],.nilS,.int .i64 0,.int .i64 0,.str [],.nilS,.int .i64 0,.int .i64 0,.str [],.nilS,.int .i64 0,.int .i64 0,.str [],.nilS,.int .i64 0,.int .i64 0,.str [],.nilS,.int .i64 0,.int .i64 0,.str [],.nilS,.int .i64 0,.int .i64 0,.str [],.nilS,.int .i64 0,.int .i64 0,.str [],.nilS,.int .i64 0,.int .i64 0,.str [],.nilS,.int .i64 0,.int .i64 0,.str [],.nilS,.int .i64 0,.int .i64 0,.str [],.nilS,.int .i64 0,.int .i64 0,.str [],.nilS,.int .i64 0,.int .i64 0,.str [],.nilS,.int .i64 0,.int .i64 0,.str [],.nilS,.int .i64 0,.int .i64 0,.str [],.nilS,.int .i64 0,.int .i64 0,.str [],.nilS,.int .i64 0,.int .i64 0,.str [],.nilS,.int .i64 0,.int .i64 0,.str [],.nilS,.int .i64 0,.int .i64 0,.str [],.nilS,.int .i64 0,.int .i64 0,.str [],.nilS],eq:=false }) (.node 171 ({ d:=.ptr 156,sz:=1,bytes:=8,zero:=[.nilP],eq:=false }) (.node 170 ({ d:=.func,sz:=1,bytes:=8,zero:=[.nilF],eq:=false }) (.node 169 ({ d:=.func,sz:=1,bytes:=8,zero:=[.nilF],eq:=false }) .leaf .leaf) .leaf) (.node 173 ({ d:=.func,sz:=1,bytes:=8,zero:=[.nilF],eq:=false }) (.node 172 ({ d:=.func,sz:=1,bytes:=8,zero:=[.nilF],eq:=false }) .leaf .leaf) .leaf)) (.node 177 ({ d:=.func,sz:=1,bytes:=8,zero:=[.nilF],eq:=false }) (.node 176 ({ d:=.struct [(0,156),(2,174)],sz:=402,bytes:=5616,zero:=[.int .u64 0,.int .u64 0,.int .i64 0,.int .i64 0,.str [],.nilS,.int .i64 0,.int .i64 0,.str [],.nilS,.int .i64 0,.int .i64 0,.str [],.nilS,.int .i64 0,.int .i64 0,.str [],.nilS,.int .i64 0,.int .i64 0,.str [],.nilS,.int .i64 0,.int .i64 0,.str [],.nilS,.int .i64 0,.int .i64 0,.str [],.nilS,.int .i64 0,.int .i64 0,.str [],.nilS,.int .i64 0,.int .i64 0,.str [],.nilS,.int .i64 0,.int .i64 0,.str [],.nilS,.int .i64 0,.int .i64 0,.str [],.nilS,.int .i64 0,.int .i64 0,.str [],.nilS,.int .i64 0,.int .i64 0,.str [],.nilS,.int .i64 0,.int .i64 0,.str [],.nilS,.int .i64 0,.int .i64 0,.str [],.nilS,.int .i64 0,.int .i64 0,.str [],.nilS,.int .i64 0,.int .i64 0,.str [],.nilS,.int .i64 0,.int .i64 0,.str [],.nilS,.int .i64 0,.int .i64 0,.str [],.nilS,.int .i64 0,.int .i64 0,.str [],.nilS,.int .i64 0,.int .i64 0,.str [],.nilS,.int .i64 0,.int .i64 0,.str [],.nilS,.int .i64 0,.int .i64 0,.str [],.nilS,.int .i64 0,.int .i64 0,.str [],.nilS,.int .i64 0,.int .i64 0,.str [],.nilS,.int .i64 0,.int .i64 0,.str [],.nilS,.int .i64 0,.int .i64 0,.str [],.nilS,.int .i64 0,.int .i64 0,.str [],.nilS,.int .i64 0,.int .i64 0,.str [],.nilS,.int .i64 0,.int .i64 0,.str [],.nilS,.int .i64 0,.int .i64 0,.str [],.nilS,.int .i64 0,.int .i64 0,.str [],.nilS,.int .i64 0,.int .i64 0,.str [],.nilS,.int .i64 0,.int .i64 0,.str [],.nilS,.int .i64 0,.int .i64 0,.str [],.nilS,.int .i64 0,.int .i64 0,.str [],.nilS,.int .i64 0,.int .i64 0,.str [],.nilS,.int .i64 0,.int .i64 0,.str [],.nilS,.int .i64 0,.int .i64 0,.str [],.nilS,.int .i64 0,.int .i64 0,.str [],.nilS,.int .i64 0,.int .i64 0,.str [],.nilS,.int .i64 0,.int .i64 0,.str [],.nilS,.int .i64 0,.int .i64 0,.str [],.nilS,.int .i64 0,.int .i64 0,.str [],.nilS,.int .i64 0,.int .i64 0,.str [],.nilS,.int .i64 0,.int .i64 0,.str [],.nilS,.int .i64 0,.int .i64 0,.str [],.nilS,.int .i64 0,.int .i64 0,.str [],.nilS,.int .i64 0,.int .i64 0,.str [],.nilS,.int .i64 0,.int .i64 0,.str [],.nilS,.int .i64 0,.int .i64 0,.str [],.nilS,.int .i64 0,.int .i64 0,.str [],.nilS,.int .i64 0,.int .i64 0,.str [],.nilS,.int .i64 0,.int .i64 0,.str [],.nilS,.int .i64 0,.int .i64 0,.str [],.nilS,.int .i64 0,.int .i64 0,.str [],.nilS,.int .i64 0,.int .i64 0,.str [],.nilS,.int .i64 0,.int .i64 0,.str [],.nilS,.int .i64 0,.int .i64 0,.str [],.nilS,.int .i64 0,.int .i64 0,.str [],.nilS,.int .i64 0,.int .i64 0,.str [],.nilS,.int .i64 0,.int .i64 0,.str [],.nilS,.int .i64 0,.int .i64 0,.str [],.nilS,.int .i64 0,.int .i64 0,.str [],.nilS,.int .i64 0,.int .i64 0,.str [],.nilS,.int .i64 0,.int .i64 0,.str [],.nilS,.int .i64 0,.int .i64 0,.str [],.nilS,.int .i64 0,.int .i64 0,.str [],.nilS,.int .i64 0,.int .i64 0,.str [],.nilS,.int .i64 0,.int .i64 0,.str [],.nilS,.int .i64 0,.int .i64 0,.str [],.nilS,.int .i64 0,.int .i64 0,.str [],.nilS,.int .i64 0,.int .i64 0,.str [],.nilS,.int .i64 0,.int .i64 0,.str [],.nilS,.int .i64 0,.int .i64 0,.str [],.nilS,.int .i64 0,.int .i64 0,.str [],.nilS,.int .i64 0,.int .i64 0,.str [],.nilS,.int .i64 0,.int .i64 0,.str [],.nilS,.int .i64 0,.int .i64 0,.str [],.nilS,.int .i64 0,.int .i64 0,.str [],.nilS,.int .i64 0,.int .i64 0,.str [],.nilS,.int .i64 0,.int .i64 0,.str [],.nilS,.int .i64 0,.int .i64 0,.str [],.nilS,.int .i64 0,.int .i64 0,.str [],.nilS,.int .i64 0,.int .i64 0,.str [],.nilS,.int .i64 0,.int .i64 0,.str [],.nilS,.int .i64 0,.int .i64 0,.str [],.nilS,.int .i64 0,.int .i64 0,.str [],.nilS,.int .i64 0,.int .i64 0,.str [],.nilS,.int .i64 0,.int .i64 0,.str [],.nilS,.int .i64 0,.int .i64 0,.str [],.nilS,.int .i64 0,.int .i64 0,.str [],.nilS,.int .i64 0,.int .i64 0,.str [],.nilS,.int .i64 0,.int .i64 0,.str [],.nilS,.int .i64 0,.int .i64 0,.str [],.nilS,.int .i64 0,.int .i64 0,.str [],.nilS,.int .i64 0,.int .i64 0,.str [],.nilS,.int .i64 0,.int .i64 0,.str [],.nilS,.int .i64 0,.int .i64 0,.str [],.nilS,.int .i64 0,.int .i64 0,.str [],.nilS],eq:=false }) (.node 175 ({ d:=.struct [(0,156),(2,174)],sz:=402,bytes:=5616,zero:=[.int .u64 0,.int .u64 0,.int .i64 0,.int .i64 0,.str [],.nilS,.int .i64 0,.int .i64 0,.str [],.nilS,.int .i64 0,.int .i64 0,.str [],.nilS,.int .i64 0,.int .i64 0,.str [],.nilS,.int .i64 0,.int .i64 0,.str [],.nilS,.int .i64 0,.int .i64 0,.str [],.nilS,.int .i64 0,.int .i64 0,.str [],.nilS,.int .i64 0,.int .i64 0,.str [],.nilS,.int .i64 0,.int .i64 0,.str [],.nilS,.int .i64 0,.int .i64 0,.str [],.nilS,.int .i64 0,.int .i64 0,.str [],.nilS,.int .i64 0,.int .i64 0,.str [],.nilS,.int .i64 0,.int .i64 0,.str [],.nilS,.int .i64 0,.int .i64 0,.str [],.nilS,.int .i64 0,.int .i64 0,.str [],.nilS,.int .i64 0,.int .i64 0,.str [],.nilS,.int .i64 0,.int .i64 0,.str [],.nilS,.int .i64 0,.int .i64 0,.str [],.nilS,.int .i64 0,.int .i64 0,.str [],.nilS,.int .i64 0,.int .i64 0,.str [],.nilS,.int .i64 0,.int .i64 0,.str [],.nilS,.int .i64 0,.int .i64 0,.str [],.nilS,.int .i64 0,.int .i64 0,.str [],.nilS,.int .i64 0,.int .i64 0,.str [],.nilS,.int .i64 0,.int .i64 0,.str [],.nilS,.int .i64 0,.int .i64 0,.str [],.nilS,.int .i64 0,.int .i64 0,.str [],.nilS,.int .i64 0,.int .i64 0,.str [],.nilS,.int .i64 0,.int .i64 0,.str [],.nilS,.int .i64 0,.int .i64 0,.str [],.nilS,.int .i64 0,.int .i64 0,.str [],.nilS,.int .i64 0,.int .i64 0,.str [],.nilS,.int .i64 0,.int .i64 0,.str [],.nilS,.int .i64 0,.int .i64 0,.str [],.nilS,.int .i64 0,.int .i64 0,.str [],.nilS,.int .i64 0,.int .i64 0,.str [],.nilS,.int .i64 0,.int .i64 0,.str [],.nilS,.int .i64 0,.int .i64 0,.str [],.nilS,.int .i64 0,.int .i64 0,.str [],.nilS,.int .i64 0,.int .i64 0,.str [],.nilS,.int .i64 0,.int .i64 0,.str [],.nilS,.int .i64 0,.int .i64 0,.str [],.nilS,.int .i64 0,.int .i64 0,.str [],.nilS,.int .i64 0,.int .i64 0,.str [],.nilS,.int .i64 0,.int .i64 0,.str [],.nilS,.int .i64 0,.int .i64 0,.str [],.nilS,.int .i64 0,.int .i64 0,.str [],.nilS,.int .i64 0,.int .i64 0,.str [],.nilS,.int .i64 0,.int .i64 0,.str [],.nilS,.int .i64 0,.int .i64 0,.str [],.nilS,.int .i64 0,.int .i64 0,.str [],.nilS,.int .i64 0,.int .i64 0,.str [],.nilS,.int .i64 0,.int .i64 0,.str [],.nilS,.int .i64 0,.int .i64 0,.str [],.nilS,.int .i64 0,.int .i64 0,.str [],.nilS,.int .i64 0,.int .i64 0,.str [],.nilS,.int .i64 0,.int .i64 0,.str [],.nilS,.int .i64 0,.int .i64 0,.str [],.nilS,.int .i64 0,.int .i64 0,.str [],.nilS,.int .i64 0,.int .i64 0,.str [],.nilS,.int .i64 0,.int .i64 0,.str [],.nilS,.int .i64 0,.int .i64 0,.str [],.nilS,.int .i64 0,.int .i64 0,.str [],.nilS,.int .i64 0,.int .i64 0,.str [],.nilS,.int .i64 0,.int .i64 0,.str [],.nilS,.int .i64 0,.int .i64 0,.str [],.nilS,.int .i64 0,.int .i64 0,.str [],.nilS,.int .i64 0,.int .i64 0,.str [],.nilS,.int .i64 0,.int .i64 0,.str [],.nilS,.int .i64 0,.int .i64 0,.str [],.nilS,.int .i64 0,.int .i64 0,.str [],.nilS,.int .i64 0,.int .i64 0,.str [],.nilS,.int .i64 0,.int .i64 0,.str [],.nilS,.int .i64 0,.int .i64 0,.str [],.nilS,.int .i64 0,.int .i64 0,.str [],.nilS,.int .i64 0,.int .i64 0,.str [],.nilS,.int .i64 0,.int .i64 0,.str [],.nilS,.int .i64 0,.int .i64 0,.str [],.nilS,.int .i64 0,.int .i64 0,.str [],.nilS,.int .i64 0,.int .i64 0,.str [],.nilS,.int .i64 0,.int .i64 0,.str [],.nilS,.int .i64 0,.int .i64 0,.str [],.nilS,.int .i64 0,.int .i64 0,.str [],.nilS,.int .i64 0,.int .i64 0,.str [],.nilS,.int .i64 0,.int .i64 0,.str [],.nilS,.int .i64 0,.int .i64 0,.str [],.nilS,.int .i64 0,.int .i64 0,.str [],.nilS,.int .i64 0,.int .i64 0,.str [],.nilS,.int .i64 0,.int .i64 0,.str [],.nilS,.int .i64 0,.int .i64 0,.str [],.nilS,.int .i64 0,.int .i64 0,.str [],.nilS,.int .i64 0,.int .i64 0,.str [],.nilS,.int .i64 0,.int .i64 0,.str [],.nilS,.int .i64 0,.int .i64 0,.str [],.nilS,.int .i64 0,.int .i64 0,.str [],.nilS,.int .i64 0,.int .i64 0,.str [],.nilS,.int .i64 0,.int .i64 0,.str [],.nilS,.int .i64 0,.int .i64 0,.str [],.nilS,.int .i64 0,.int .i64 0,.str [],.nilS,.int .i64 0,.int .i64 0,.str [],.nilS],eq:=false }) .leaf .leaf) .leaf) (.node 178 ({ d:=.func,sz:=1,bytes:=8,zero:=[.nilF],eq:=false }) .leaf .leaf)))) (.node 192 ({ d:=.array 0 16,sz:=0,bytes:=0,zero:=[],eq:=false }) (.node 185 ({ d:=.ptr 24,sz:=1,bytes:=8,zero:=[.nilP],eq:=false }) (.node 182 ({ d:=.func,sz:=1,bytes:=8,zero:=[.nilF],eq:=false }) (.node 181 ({ d:=.func,sz:=1,bytes:=8,zero:=[.nilF],eq:=false }) (.node 180 ({ d:=.func,sz:=1,bytes:=8,zero:=[.nilF],eq:=false }) .leaf .leaf) .leaf) (.node 184 ({ d:=.func,sz:=1,bytes:=8,zero:=[.nilF],eq:=false }) (.node 183 ({ d:=.func,sz:=1,bytes:=8,zero:=[.nilF],eq:=false }) .leaf .leaf) .leaf)) (.node 189 ({ d:=.func,sz:=1,bytes:=8,zero:=[.nilF],eq:=false }) (.node 188 ({ d:=.func,sz:=1,bytes:=8,zero:=[.nilF],eq:=false }) (.node 186 ({ d:=.func,sz:=1,bytes:=8,zero:=[.nilF],eq:=false }) .leaf .leaf) .leaf) (.node 190 ({ d:=.struct [(0,17),(1,17),(2,17),(3,9)],sz:=4,bytes:=40,zero:=[.nilP,.nilP,.nilP,.str []],eq:=false }) .leaf .leaf))) (.node 199 ({ d:=.ptr 5,sz:=1,bytes:=8,zero:=[.nilP],eq:=false }) (.node 196 ({ d:=.int .u8,sz:=1,bytes:=1,zero:=[.int .u8 0],eq:=false }) (.node 195 ({ d:=.func,sz:=1,bytes:=8,zero:=[.nilF],eq:=false }) (.node 193 ({ d:=.struct [(0,192)],sz:=0,bytes:=0,zero:=[],eq:=false }) .leaf .leaf) .leaf) (.node 198 ({ d:=.func,sz:=1,bytes:=8,zero:=[.nilF],eq:=false }) (.node 197 ({ d:=.int .u8,sz:=1,bytes:=1,zero:=[.int .u8 0],eq:=false }) .leaf .leaf) .leaf)) (.node 202 ({ d:=.struct [(0,12),(1,12),(2,114),(3,196),(4,5),(5,5),(6,197),(7,198),(8,199),(9,200),(10,201)],sz:=11,bytes:=48,zero:=[.int .u64 0,.int .u64 0,.int .u32 0,.int .u8 0,.int .u8 0,.int .u8 0,.int .u8 0,.nilF,.nilP,.int .i32 0,.int .i32 0],eq:=false }) (.node 201 ({ d:=.int .i32,sz:=1,bytes:=4,zero:=[.int .i32 0],eq:=false }) (.node 200 ({ d:=.int .i32,sz:=1,bytes:=4,zero:=[.int .i32 0],eq:=false }) .leaf .leaf) .leaf) (.node 203 ({ d:=.struct [(0,12),(1,12),(2,114),(3,196),(4,5),(5,5),(6,197),(7,198),(8,199),(9,200),(10,201)],sz:=11,bytes:=48,zero:=[.int .u64 0,.int .u64 0,.int .u32 0,.int .u8 0,.int .u8 0,.int .u8 0,.int .u8 0,.nilF,.nilP,.int .i32 0,.int .i32 0],eq:=false }) .leaf .leaf))))))
def qlw:BT CMode:=.node 65 (.scal) (.node 41 (.pfrz) (.node 27 (.scal) (.node 18 (.scal) (.node 12 (.scal) (.node 11 (.scal) (.node 7 (.pfrz) .leaf .leaf) .leaf) (.node 17 (.pfrz) .leaf .leaf)) (.node 23 (.imp) (.node 21 (.pown) (.node 19 (.imp) .leaf .leaf) .leaf) (.node 25 (.imp) .leaf .leaf))) (.node 37 (.pfrz) (.node 31 (.scal) (.node 30 (.inpl) (.node 29 (.scal) .leaf .leaf) .leaf) (.node 36 (.scal) .leaf .leaf)) (.node 39 (.pfrz) (.node 38 (.pfrz) .leaf .leaf) (.node 40 (.pfrz) .leaf .leaf)))) (.node 55 (.scal) (.node 50 (.pown) (.node 45 (.scal) (.node 43 (.pfrz) (.node 42 (.scal) .leaf .leaf) .leaf) (.node 46 (.imp) .leaf .leaf)) (.node 52 (.pfrz) (.node 51 (.pfrz) .leaf .leaf) (.node 53 (.scal) .leaf .leaf))) (.node 60 (.scal) (.node 58 (.scal) (.node 57 (.scal) (.node 56 (.inpl) .leaf .leaf) .leaf) (.node 59 (.imp) .leaf .leaf)) (.node 63 (.scal) (.node 62 (.scal) .leaf .leaf) (.node 64 (.scal) .leaf .leaf))))) (.node 117 (.pfrz) (.node 87 (.scal) (.node 81 (.scal) (.node 78 (.scal) (.node 77 (.pfrz) (.node 66 (.scal) .leaf .leaf) .leaf) (.node 79 (.scal) .leaf .leaf)) (.node 84 (.slf) (.node 83 (.pfrz) .leaf .leaf) (.node 86 (.inpl) .leaf .leaf))) (.node 99 (.scal) (.node 97 (.scal) (.node 96 (.scal) (.node 88 (.inpl) .leaf .leaf) .leaf) (.node 98 (.scal) .leaf .leaf)) (.node 111 (.scal) (.node 110 (.scal) .leaf .leaf) (.node 116 (.scal) .leaf .leaf)))) (.node 144 (.scal) (.node 127 (.scal) (.node 120 (.inpl) (.node 119 (.scal) (.node 118 (.pfrz) .leaf .leaf) .leaf) (.node 121 (.inpl) .leaf .leaf)) (.node 142 (.scal) (.node 141 (.scal) .leaf .leaf) (.node 143 (.inpl) .leaf .leaf))) (.node 164 (.pfrz) (.node 162 (.scal) (.node 146 (.inpl) (.node 145 (.scal) .leaf .leaf) .leaf) (.node 163 (.scal) .leaf .leaf)) (.node 172 (.scal) (.node 165 (.inpl) .leaf .leaf) (.node 173 (.scal) .leaf .leaf)))))
def qo0:BT (BT (List Nat)):=.node 38 (.node 6 ([1]) (.node 5 ([8,10]) .leaf .leaf) .leaf) (.node 12 (.node 4 ([3,6,8]) (.node 2 ([3,5]) .leaf .leaf) (.node 5 ([46]) .leaf .leaf)) (.node 7 (.node 25 ([3]) (.node 20 ([9]) .leaf .leaf) .leaf) .leaf .leaf) .leaf) (.node 77 (.node 5 ([6]) .leaf .leaf) .leaf .leaf)
def qcg{α:Type}(a b:Nat)(t:BT (BT α)):Option α:=match t.look a with|some u=>u.look b|none=>none
def qlP(f r k:Nat):Bool:=match qcg f r qo0 with|some l=>xI k l|none=>false
def qlz:BT (BT (List Tmp×List Tmp)):=.node 84 (.node 6 ([1,2,3,4,18,19,20],[2,3,4]) .leaf .leaf) (.node 38 (.node 3 ([0,2,3,4],[2,3]) .leaf .leaf) (.node 23 (.node 5 ([0,1,5,6],[0,5]) .leaf .leaf) (.node 18 (.node 5 ([2],[2]) .leaf .leaf) (.node 17 (.node 5 ([4,16,17,18],[4]) .leaf .leaf) (.node 7 (.node 9 ([1,4,8,9,32,33,34],[4,5,8,9]) .leaf .leaf) .leaf .leaf) .leaf) (.node 22 (.node 7 ([3,5,10,11,12,16,17,18],[3,5,10,11,12]) (.node 4 ([3,10,11,12],[3]) .leaf .leaf) .leaf) (.node 19 (.node 2 ([0,1,7,8],[4]) .leaf .leaf) .leaf .leaf) .leaf)) (.node 31 (.node 9 ([5,6,70,71],[5]) (.node 2 ([5],[4]) .leaf .leaf) .leaf) (.node 30 (.node 9 ([0,1,5,6,7],[0,5]) (.node 4 ([0,1,5],[0,4]) .leaf .leaf) .leaf) (.node 29 (.node 1 ([2,3],[4]) .leaf .leaf) .leaf .leaf) .leaf) (.node 36 (.node 4 ([0,1,5],[4]) .leaf .leaf) .leaf .leaf))) (.node 65 (.node 3 ([3,6,7,8],[2,3]) .leaf .leaf) (.node 55 (.node 5 ([4,32,33,34],[2,3,4]) .leaf .leaf) (.node 52 (.node 3 ([3,6,7,8],[3]) .leaf .leaf) (.node 50 (.node 7 ([2,3,4],[2,3,4,5]) .leaf .leaf) .leaf .leaf) .leaf) (.node 61 (.node 2 ([0,1,2,3,4,10,11],[]) .leaf .leaf) (.node 59 (.node 2 ([0,1,7,8],[4]) .leaf .leaf) .leaf .leaf) .leaf)) (.node 79 (.node 4 ([2,3],[2,3]) .leaf .leaf) (.node 78 (.node 2 ([0,1,2,11,12,13],[0,1,6]) .leaf .leaf) (.node 77 (.node 3 ([0,2,3,4],[2,3]) .leaf .leaf) .leaf .leaf) .leaf) (.node 83 (.node 14 ([2,4,5,73,74,77,78,79],[2,3,4,5,73,74]) (.node 11 ([2,4,5,73,74],[2,3,4]) .leaf .leaf) .leaf) .leaf .leaf)))) (.node 115 (.node 0 ([0,1,2],[1,2]) .leaf .leaf) (.node 90 (.node 5 ([0,1,8,9,10,11],[]) .leaf .leaf) (.node 87 (.node 4 ([1,2,15,16,17],[6]) .leaf .leaf) (.node 86 (.node 7 ([0,1,2,6],[]) (.node 2 ([0,1,2,6,7,8],[0,1,2,6,7]) .leaf .leaf) (.node 9 ([0,1,2,6,7,8],[0,1,2,6,7]) .leaf .leaf)) (.node 85 (.node 1 ([0,3],[]) .leaf .leaf) .leaf .leaf) .leaf) (.node 89 (.node 8 ([0,3,8,9,12],[]) (.node 4 ([0,3,8,9,10,11],[0,3,8,9,10]) .leaf .leaf) .leaf) (.node 88 (.node 4 ([0,1,2,3,8,9],[0,1,2,3,8]) (.node 1 ([0,1,2,3,8],[]) .leaf .leaf) .leaf) .leaf .leaf) .leaf)) (.node 94 (.node 5 ([0,1,4,11,12],[0,1,4,11,12]) (.node 3 ([0,1,4,11,12],[0,1,4,11,12]) .leaf .leaf) .leaf) (.node 93 (.node 14 ([0,1,2,3,9,10,11],[0,1,2,3,9,10]) (.node 5 ([0,1,2,3,9,10],[0,1,2,3,9,10]) (.node 3 ([0,1,2,3,9,10],[8]) .leaf .leaf) .leaf) (.node 20 ([0,1,2,3,9,10,12],[0,1,2,3,9,10]) .leaf .leaf)) (.node 92 (.node 2 ([0,8,9],[]) .leaf .leaf) .leaf .leaf) .leaf) (.node 95 (.node 13 ([0,1,4,12,13],[0,1,4,12,13]) (.node 5 ([0,1,4,12,13],[0,1,4,12,13]) (.node 3 ([0,1,4,12,13],[0,1,4,12,13]) .leaf .leaf) .leaf) (.node 15 ([0,1,4,12,13],[0,1,4,12,13]) .leaf .leaf)) .leaf .leaf))) (.node 136 (.node 7 ([3],[0,3]) (.node 1 ([0,3],[]) .leaf .leaf) .leaf) (.node 120 (.node 4 ([0,1,2,3,8,9],[0,1,2,3,8]) (.node 1 ([0,1,2,3,8],[]) .leaf .leaf) .leaf) (.node 118 (.node 5 ([4],[4,5]) .leaf .leaf) (.node 117 (.node 11 ([3,7,29],[7]) (.node 6 ([3],[3]) .leaf .leaf) .leaf) .leaf .leaf) .leaf) (.node 122 (.node 1 ([0,2,3,4,10],[]) .leaf .leaf) (.node 121 (.node 15 ([0,2,4,14,15],[0,2,14]) (.node 9 ([0,10,13],[]) (.node 3 ([0,1,4,10,11],[0,1,10]) .leaf .leaf) .leaf) (.node 33 ([0,1,2,3,4,18,19,20,21,22],[0,1,2,3,4,18,19,20]) (.node 21 ([0,14,17],[]) .leaf .leaf) .leaf)) .leaf .leaf) .leaf)) (.node 165 (.node 1 ([0,1,2,3,10],[]) .leaf .leaf) (.node 151 (.node 1 ([0,1,3],[]) .leaf .leaf) (.node 146 (.node 2 ([0,2,4,10,11],[0,2,4,10]) .leaf .leaf) .leaf .leaf) .leaf) (.node 172 (.node 2 ([0,1,7,8],[4]) .leaf .leaf) .leaf .leaf))))
def qpb:BT (BT (List Tmp)):=.leaf
def qlD:BT (BT (List (Tmp×Nat))):=.node 50 (.node 7 ([(2,6),(4,6)]) (.node 0 ([(2,6)]) .leaf .leaf) .leaf) (.node 22 (.node 7 ([(3,2),(16,2)]) (.node 4 ([(3,2)]) .leaf .leaf) .leaf) (.node 21 (.node 0 ([(2,4)]) .leaf .leaf) (.node 7 (.node 9 ([(8,4),(9,2)]) .leaf .leaf) .leaf .leaf) .leaf) (.node 38 (.node 3 ([(3,4)]) .leaf .leaf) (.node 31 (.node 9 ([(5,8)]) (.node 2 ([(5,8)]) .leaf .leaf) .leaf) .leaf .leaf) .leaf)) (.node 117 (.node 11 ([(7,1)]) .leaf .leaf) (.node 85 (.node 1 ([(3,4)]) .leaf .leaf) (.node 52 (.node 3 ([(3,4)]) .leaf .leaf) .leaf .leaf) .leaf) (.node 136 (.node 7 ([(3,4)]) (.node 1 ([(3,4)]) .leaf .leaf) .leaf) (.node 118 (.node 5 ([(4,4)]) .leaf .leaf) .leaf .leaf) .leaf))
def x9(f:Nat):List (Nat×(List AV->AH->Option (AV×AH)))->Option (List AV->AH->Option (AV×AH))
 |[]=>none
 |p::l=>if qCh p.1 f then some p.2 else x9 f l
def qpn:BT TypeId:=.leaf
def qiO:BT (List (Nat×Nat×Nat)):=.leaf
def qiP:BT Nat:=.leaf
def qob:BT (List BSh):=.leaf
def qop:BT Unit:=.leaf
def qed:List (Nat×(List AV->AH->Option (AV×AH))):=[]
def qc5:List (Nat×(List AV->AH->Option (AV×AH))):=(127,qc6)::qed
theorem qe6:qed=[]:=rfl
def qiV:BT Unit:=.node 82 (()) (.node 42 (()) (.node 26 (()) (.node 20 (()) (.node 17 (()) (.node 11 (()) (.node 7 (()) .leaf .leaf) (.node 12 (()) .leaf .leaf)) (.node 19 (()) (.node 18 (()) .leaf .leaf) .leaf)) (.node 23 (()) (.node 22 (()) (.node 21 (()) .leaf .leaf) .leaf) (.node 25 (()) (.node 24 (()) .leaf .leaf) .leaf))) (.node 36 (()) (.node 29 (()) (.node 28 (()) (.node 27 (()) .leaf .leaf) .leaf) (.node 31 (()) (.node 30 (()) .leaf .leaf) .leaf)) (.node 39 (()) (.node 38 (()) (.node 37 (()) .leaf .leaf) .leaf) (.node 41 (()) (.node 40 (()) .leaf .leaf) .leaf)))) (.node 59 (()) (.node 53 (()) (.node 50 (()) (.node 45 (()) (.node 43 (()) .leaf .leaf) (.node 46 (()) .leaf .leaf)) (.node 52 (()) (.node 51 (()) .leaf .leaf) .leaf)) (.node 56 (()) (.node 55 (()) (.node 54 (()) .leaf .leaf) .leaf) (.node 58 (()) (.node 57 (()) .leaf .leaf) .leaf))) (.node 65 (()) (.node 62 (()) (.node 61 (()) (.node 60 (()) .leaf .leaf) .leaf) (.node 64 (()) (.node 63 (()) .leaf .leaf) .leaf)) (.node 78 (()) (.node 77 (()) (.node 66 (()) .leaf .leaf) .leaf) (.node 81 (()) (.node 79 (()) .leaf .leaf) .leaf))))) (.node 119 (()) (.node 95 (()) (.node 89 (()) (.node 86 (()) (.node 84 (()) (.node 83 (()) .leaf .leaf) (.node 85 (()) .leaf .leaf)) (.node 88 (()) (.node 87 (()) .leaf .leaf) .leaf)) (.node 92 (()) (.node 91 (()) (.node 90 (()) .leaf .leaf) .leaf) (.node 94 (()) (.node 93 (()) .leaf .leaf) .leaf))) (.node 110 (()) (.node 98 (()) (.node 97 (()) (.node 96 (()) .leaf .leaf) .leaf) (.node 109 (()) (.node 99 (()) .leaf .leaf) .leaf)) (.node 116 (()) (.node 115 (()) (.node 111 (()) .leaf .leaf) .leaf) (.node 118 (()) (.node 117 (()) .leaf .leaf) .leaf)))) (.node 143 (()) (.node 125 (()) (.node 122 (()) (.node 121 (()) (.node 120 (()) .leaf .leaf) .leaf) (.node 124 (()) (.node 123 (()) .leaf .leaf) .leaf)) (.node 137 (()) (.node 136 (()) (.node 126 (()) .leaf .leaf) .leaf) (.node 142 (()) (.node 141 (()) .leaf .leaf) .leaf))) (.node 162 (()) (.node 146 (()) (.node 145 (()) (.node 144 (()) .leaf .leaf) .leaf) (.node 151 (()) (.node 147 (()) .leaf .leaf) .leaf)) (.node 165 (()) (.node 164 (()) (.node 163 (()) .leaf .leaf) .leaf) (.node 173 (()) (.node 172 (()) .leaf .leaf) .leaf)))))
def qpa:BT Unit:=.node 45 (()) (.node 27 (()) (.node 24 (()) (.node 22 (()) .leaf .leaf) .leaf) (.node 36 (()) (.node 29 (()) .leaf .leaf) .leaf)) (.node 127 (()) (.node 123 (()) (.node 49 (()) .leaf .leaf) .leaf) (.node 167 (()) (.node 154 (()) .leaf .leaf) .leaf))
def qpp:BT Unit:=.node 127 (()) (.node 29 (()) .leaf .leaf) .leaf
def qnI:BT Unit:=.node 118 (()) .leaf .leaf
def qo9:BT Unit:=.node 22 (()) .leaf .leaf
def qnY:BT (List Nat):=.node 102 ([49,4]) (.node 67 ([24,4]) (.node 40 ([24,4,30]) (.node 31 ([29,30]) .leaf .leaf) (.node 46 ([45,30]) .leaf .leaf)) (.node 78 ([3,4]) (.node 71 ([3,24,30]) .leaf .leaf) (.node 95 ([45,4]) .leaf .leaf))) (.node 129 ([24,30]) (.node 119 ([22,4]) (.node 108 ([3,107]) .leaf .leaf) (.node 124 ([123,4]) .leaf .leaf)) (.node 160 ([3,3]) (.node 150 ([118,4]) .leaf .leaf) (.node 187 ([116,116]) .leaf .leaf)))
def qgN:List (Nat×Func):=[(54,Tryz.f54),(82,Tryz.f82),(85,Tryz.f85),(109,Tryz.f109),(115,Tryz.f115),(136,Tryz.f136),(137,Tryz.f137),(151,Tryz.f151)]
def qe4:BT Func:=.node 82 (Tryz.f82) (.node 42 (Tryz.f42) (.node 26 (Tryz.f26) (.node 20 (Tryz.f20) (.node 17 (Tryz.f17) (.node 11 (Tryz.f11) (.node 7 (Tryz.f7) .leaf .leaf) (.node 12 (Tryz.f12) .leaf .leaf)) (.node 19 (Tryz.f19) (.node 18 (Tryz.f18) .leaf .leaf) .leaf)) (.node 23 (Tryz.f23) (.node 22 (Tryz.f22) (.node 21 (Tryz.f21) .leaf .leaf) .leaf) (.node 25 (Tryz.f25) (.node 24 (Tryz.f24) .leaf .leaf) .leaf))) (.node 36 (Tryz.f36) (.node 29 (Tryz.f29) (.node 28 (Tryz.f28) (.node 27 (Tryz.f27) .leaf .leaf) .leaf) (.node 31 (Tryz.f31) (.node 30 (Tryz.f30) .leaf .leaf) .leaf)) (.node 39 (Tryz.f39) (.node 38 (Tryz.f38) (.node 37 (Tryz.f37) .leaf .leaf) .leaf) (.node 41 (Tryz.f41) (.node 40 (Tryz.f40) .leaf .leaf) .leaf)))) (.node 59 (Tryz.f59) (.node 53 (Tryz.f53) (.node 50 (Tryz.f50) (.node 45 (Tryz.f45) (.node 43 (Tryz.f43) .leaf .leaf) (.node 46 (Tryz.f46) .leaf .leaf)) (.node 52 (Tryz.f52) (.node 51 (Tryz.f51) .leaf .leaf) .leaf)) (.node 56 (Tryz.f56) (.node 55 (Tryz.f55) (.node 54 (Tryz.f54) .leaf .leaf) .leaf) (.node 58 (Tryz.f58) (.node 57 (Tryz.f57) .leaf .leaf) .leaf))) (.node 65 (Tryz.f65) (.node 62 (Tryz.f62) (.node 61 (Tryz.f61) (.node 60 (Tryz.f60) .leaf .leaf) .leaf) (.node 64 (Tryz.f64) (.node 63 (Tryz.f63) .leaf .leaf) .leaf)) (.node 78 (Tryz.f78) (.node 77 (Tryz.f77) (.node 66 (Tryz.f66) .leaf .leaf) .leaf) (.node 81 (Tryz.f81) (.node 79 (Tryz.f79) .leaf .leaf) .leaf))))) (.node 119 (Tryz.f119) (.node 95 (Tryz.f95) (.node 89 (Tryz.f89) (.node 86 (Tryz.f86) (.node 84 (Tryz.f84) (.node 83 (Tryz.f83) .leaf .leaf) (.node 85 (Tryz.f85) .leaf .leaf)) (.node 88 (Tryz.f88) (.node 87 (Tryz.f87) .leaf .leaf) .leaf)) (.node 92 (Tryz.f92) (.node 91 (Tryz.f91) (.node 90 (Tryz.f90) .leaf .leaf) .leaf) (.node 94 (Tryz.f94) (.node 93 (Tryz.f93) .leaf .leaf) .leaf))) (.node 110 (Tryz.f110) (.node 98 (Tryz.f98) (.node 97 (Tryz.f97) (.node 96 (Tryz.f96) .leaf .leaf) .leaf) (.node 109 (Tryz.f109) (.node 99 (Tryz.f99) .leaf .leaf) .leaf)) (.node 116 (Tryz.f116) (.node 115 (Tryz.f115) (.node 111 (Tryz.f111) .leaf .leaf) .leaf) (.node 118 (Tryz.f118) (.node 117 (Tryz.f117) .leaf .leaf) .leaf)))) (.node 143 (Tryz.f143) (.node 125 (Tryz.f125) (.node 122 (Tryz.f122) (.node 121 (Tryz.f121) (.node 120 (Tryz.f120) .leaf .leaf) .leaf) (.node 124 (Tryz.f124) (.node 123 (Tryz.f123) .leaf .leaf) .leaf)) (.node 137 (Tryz.f137) (.node 136 (Tryz.f136) (.node 126 (Tryz.f126) .leaf .leaf) .leaf) (.node 142 (Tryz.f142) (.node 141 (Tryz.f141) .leaf .leaf) .leaf))) (.node 162 (Tryz.f162) (.node 146 (Tryz.f146) (.node 145 (Tryz.f145) (.node 144 (Tryz.f144) .leaf .leaf) .leaf) (.node 151 (Tryz.f151) (.node 147 (Tryz.f147) .leaf .leaf) .leaf)) (.node 165 (Tryz.f165) (.node 164 (Tryz.f164) (.node 163 (Tryz.f163) .leaf .leaf) .leaf) (.node 173 (Tryz.f173) (.node 172 (Tryz.f172) .leaf .leaf) .leaf)))))
theorem qkE:qe4.All λf fn=>Tryz.prog.funcs[f]? =some fn:=(BT.all_node Tryz.func82 (BT.all_node Tryz.func42 (BT.all_node Tryz.func26 (BT.all_node Tryz.func20 (BT.all_node Tryz.func17 (BT.all_node Tryz.func11 (BT.all_node Tryz.func7 trivial trivial) (BT.all_node Tryz.func12 trivial trivial)) (BT.all_node Tryz.func19 (BT.all_node Tryz.func18 trivial trivial) trivial)) (BT.all_node Tryz.func23 (BT.all_node Tryz.func22 (BT.all_node Tryz.func21 trivial trivial) trivial) (BT.all_node Tryz.func25 (BT.all_node Tryz.func24 trivial trivial) trivial))) (BT.all_node Tryz.func36 (BT.all_node Tryz.func29 (BT.all_node Tryz.func28 (BT.all_node Tryz.func27 trivial trivial) trivial) (BT.all_node Tryz.func31 (BT.all_node Tryz.func30 trivial trivial) trivial)) (BT.all_node Tryz.func39 (BT.all_node Tryz.func38 (BT.all_node Tryz.func37 trivial trivial) trivial) (BT.all_node Tryz.func41 (BT.all_node Tryz.func40 trivial trivial) trivial)))) (BT.all_node Tryz.func59 (BT.all_node Tryz.func53 (BT.all_node Tryz.func50 (BT.all_node Tryz.func45 (BT.all_node Tryz.func43 trivial trivial) (BT.all_node Tryz.func46 trivial trivial)) (BT.all_node Tryz.func52 (BT.all_node Tryz.func51 trivial trivial) trivial)) (BT.all_node Tryz.func56 (BT.all_node Tryz.func55 (BT.all_node Tryz.func54 trivial trivial) trivial) (BT.all_node Tryz.func58 (BT.all_node Tryz.func57 trivial trivial) trivial))) (BT.all_node Tryz.func65 (BT.all_node Tryz.func62 (BT.all_node Tryz.func61 (BT.all_node Tryz.func60 trivial trivial) trivial) (BT.all_node Tryz.func64 (BT.all_node Tryz.func63 trivial trivial) trivial)) (BT.all_node Tryz.func78 (BT.all_node Tryz.func77 (BT.all_node Tryz.func66 trivial trivial) trivial) (BT.all_node Tryz.func81 (BT.all_node Tryz.func79 trivial trivial) trivial))))) (BT.all_node Tryz.func119 (BT.all_node Tryz.func95 (BT.all_node Tryz.func89 (BT.all_node Tryz.func86 (BT.all_node Tryz.func84 (BT.all_node Tryz.func83 trivial trivial) (BT.all_node Tryz.func85 trivial trivial)) (BT.all_node Tryz.func88 (BT.all_node Tryz.func87 trivial trivial) trivial)) (BT.all_node Tryz.func92 (BT.all_node Tryz.func91 (BT.all_node Tryz.func90 trivial trivial) trivial) (BT.all_node Tryz.func94 (BT.all_node Tryz.func93 trivial trivial) trivial))) (BT.all_node Tryz.func110 (BT.all_node Tryz.func98 (BT.all_node Tryz.func97 (BT.all_node Tryz.func96 trivial trivial) trivial) (BT.all_node Tryz.func109 (BT.all_node Tryz.func99 trivial trivial) trivial)) (BT.all_node Tryz.func116 (BT.all_node Tryz.func115 (BT.all_node Tryz.func111 trivial trivial) trivial) (BT.all_node Tryz.func118 (BT.all_node Tryz.func117 trivial trivial) trivial)))) (BT.all_node Tryz.func143 (BT.all_node Tryz.func125 (BT.all_node Tryz.func122 (BT.all_node Tryz.func121 (BT.all_node Tryz.func120 trivial trivial) trivial) (BT.all_node Tryz.func124 (BT.all_node Tryz.func123 trivial trivial) trivial)) (BT.all_node Tryz.func137 (BT.all_node Tryz.func136 (BT.all_node Tryz.func126 trivial trivial) trivial) (BT.all_node Tryz.func142 (BT.all_node Tryz.func141 trivial trivial) trivial))) (BT.all_node Tryz.func162 (BT.all_node Tryz.func146 (BT.all_node Tryz.func145 (BT.all_node Tryz.func144 trivial trivial) trivial) (BT.all_node Tryz.func151 (BT.all_node Tryz.func147 trivial trivial) trivial)) (BT.all_node Tryz.func165 (BT.all_node Tryz.func164 (BT.all_node Tryz.func163 trivial trivial) trivial) (BT.all_node Tryz.func173 (BT.all_node Tryz.func172 trivial trivial) trivial))))))
def cfg:Cfg:={ P:=Tryz.prog,ty:=λt=>qeD.look t,mode:=λf=>match qlw.look f with|some m=>m|none=>.imp,frz:=λf r k=>qlP f r k,mask:=λf r=>qcg f r qlz,cut:=λf r=>qcg f r qpb,tup:=λt=>qnY.look t,ext:=λf=>x9 f qc5,known:=λf=>(qiV.look f).isSome,dat:=λt=>(qpa.look t).isSome,inl:=λf=>qec f qgN,lift:=λf r=>match qcg f r qlD with|some l=>l|none=>[],ems:=λt=>(qo9.look t).isSome,ali:=λt=>(qpp.look t).isSome,wrt:=λt=>(qnI.look t).isSome,bld:=λt=>qpn.look t,olift:=λf=>match qiO.look f with|some l=>l|none=>[],shp:=λf=>match qob.look f with|some l=>l|none=>[],okeep:=λf=>match qiP.look f with|some n=>n|none=>0,nsp:=λf=>(qop.look f).isSome }
theorem qay{fs:List Fact}(hfs:vP cfg fs){f:Nat}{args:List AV}{v:AV}(m d:Nat)(h:(match yF cfg (λf=>qe4.look f) fs m d (.f f) args []with|some r=>some r.1|none=>none)=some v):EVs (EV cfg) f args=some v:=quW (λ_ _ h=>BT.all_look qkE h) hfs m d h
theorem qco{fs:List Fact}(hfs:vP cfg fs){f:Nat}{args:List AV}{v:AV}(m d:Nat)(h:(match yF cfg (λf=>qe4.look f) fs m d (.f f) args []with|some r=>gA (r.1.frz r.1.msIds r.2).fg some|none=>none)=some v):EVf (EV cfg) f args=some v:=quX (λ_ _ h=>BT.all_look qkE h) hfs m d h
instance inl_ok:InlOk cfg:=InlOk.of qgN (λ_=>rfl) ⟨⟨rfl,rfl,Tryz.func54,rfl⟩,⟨⟨rfl,rfl,Tryz.func82,rfl⟩,⟨⟨rfl,rfl,Tryz.func85,rfl⟩,⟨⟨rfl,rfl,Tryz.func109,rfl⟩,⟨⟨rfl,rfl,Tryz.func115,rfl⟩,⟨⟨rfl,rfl,Tryz.func136,rfl⟩,⟨⟨rfl,rfl,Tryz.func137,rfl⟩,⟨⟨rfl,rfl,Tryz.func151,rfl⟩,trivial⟩⟩⟩⟩⟩⟩⟩⟩
end Go.Proofs.YtgleolmhpmljhaaGreat.K
end
noncomputable section
namespace Go.Proofs.YtgleolmhpmljhaaGreat
open Go.Av
def qeD:BT TI:=K.qeD
def qlw:BT CMode:=.node 90 (.inpl) (.node 45 (.scal) (.node 25 (.scal) (.node 15 (.scal) (.node 11 (.scal) (.node 5 (.scal) (.node 4 (.scal) .leaf .leaf) (.node 7 (.pfrz) .leaf .leaf)) (.node 13 (.pfrz) (.node 12 (.scal) .leaf .leaf) (.node 14 (.scal) .leaf .leaf))) (.node 20 (.scal) (.node 18 (.scal) (.node 17 (.pfrz) .leaf .leaf) (.node 19 (.scal) .leaf .leaf)) (.node 22 (.ifrz) (.node 21 (.pfrz) .leaf .leaf) (.node 24 (.scal) .leaf .leaf)))) (.node 37 (.pfrz) (.node 29 (.scal) (.node 27 (.scal) (.node 26 (.scal) .leaf .leaf) (.node 28 (.inpl) .leaf .leaf)) (.node 31 (.scal) (.node 30 (.inpl) .leaf .leaf) (.node 36 (.scal) .leaf .leaf))) (.node 41 (.pfrz) (.node 39 (.pfrz) (.node 38 (.pfrz) .leaf .leaf) (.node 40 (.pfrz) .leaf .leaf)) (.node 43 (.pfrz) (.node 42 (.scal) .leaf .leaf) (.node 44 (.pfrz) .leaf .leaf))))) (.node 62 (.scal) (.node 53 (.scal) (.node 49 (.scal) (.node 47 (.scal) (.node 46 (.scal) .leaf .leaf) (.node 48 (.scal) .leaf .leaf)) (.node 51 (.pfrz) (.node 50 (.pown) .leaf .leaf) (.node 52 (.pfrz) .leaf .leaf))) (.node 58 (.scal) (.node 56 (.inpl) (.node 55 (.scal) .leaf .leaf) (.node 57 (.scal) .leaf .leaf)) (.node 60 (.scal) (.node 59 (.scal) .leaf .leaf) (.node 61 (.inpl) .leaf .leaf)))) (.node 80 (.pfrz) (.node 66 (.scal) (.node 64 (.scal) (.node 63 (.scal) .leaf .leaf) (.node 65 (.scal) .leaf .leaf)) (.node 78 (.scal) (.node 77 (.pfrz) .leaf .leaf) (.node 79 (.scal) .leaf .leaf))) (.node 86 (.inpl) (.node 83 (.pfrz) (.node 81 (.scal) .leaf .leaf) (.node 84 (.slf) .leaf .leaf)) (.node 88 (.inpl) (.node 87 (.scal) .leaf .leaf) (.node 89 (.inpl) .leaf .leaf)))))) (.node 143 (.inpl) (.node 117 (.pfrz) (.node 98 (.scal) (.node 94 (.inpf) (.node 92 (.inpl) (.node 91 (.scal) .leaf .leaf) (.node 93 (.inpf) .leaf .leaf)) (.node 96 (.scal) (.node 95 (.inpf) .leaf .leaf) (.node 97 (.scal) .leaf .leaf))) (.node 112 (.pfrz) (.node 110 (.scal) (.node 99 (.scal) .leaf .leaf) (.node 111 (.scal) .leaf .leaf)) (.node 114 (.pfrz) (.node 113 (.scal) .leaf .leaf) (.node 116 (.scal) .leaf .leaf)))) (.node 125 (.inpf) (.node 121 (.inpl) (.node 119 (.scal) (.node 118 (.pfrz) .leaf .leaf) (.node 120 (.inpl) .leaf .leaf)) (.node 123 (.scal) (.node 122 (.inpl) .leaf .leaf) (.node 124 (.inpf) .leaf .leaf))) (.node 139 (.pfrz) (.node 127 (.scal) (.node 126 (.inpf) .leaf .leaf) (.node 138 (.pfrz) .leaf .leaf)) (.node 141 (.scal) (.node 140 (.inpf) .leaf .leaf) (.node 142 (.scal) .leaf .leaf))))) (.node 164 (.pfrz) (.node 156 (.pfrz) (.node 147 (.inpf) (.node 145 (.scal) (.node 144 (.scal) .leaf .leaf) (.node 146 (.inpl) .leaf .leaf)) (.node 154 (.inpf) (.node 153 (.inpl) .leaf .leaf) (.node 155 (.scal) .leaf .leaf))) (.node 160 (.inpl) (.node 158 (.inpf) (.node 157 (.inpf) .leaf .leaf) (.node 159 (.inpf) .leaf .leaf)) (.node 162 (.scal) (.node 161 (.inpf) .leaf .leaf) (.node 163 (.scal) .leaf .leaf)))) (.node 177 (.pfrz) (.node 170 (.inpf) (.node 168 (.inpf) (.node 165 (.inpl) .leaf .leaf) (.node 169 (.pfrz) .leaf .leaf)) (.node 172 (.scal) (.node 171 (.inpf) .leaf .leaf) (.node 173 (.scal) .leaf .leaf))) (.node 181 (.inpf) (.node 179 (.inpl) (.node 178 (.inpf) .leaf .leaf) (.node 180 (.inpf) .leaf .leaf)) (.node 185 (.inpf) (.node 183 (.pfrz) .leaf .leaf) (.node 187 (.scal) .leaf .leaf))))))
def qo0:BT (BT (List Nat)):=.node 77 (.node 5 ([6]) .leaf .leaf) (.node 12 (.node 4 ([3,6,8]) (.node 2 ([3,5]) .leaf .leaf) (.node 5 ([46]) .leaf .leaf)) (.node 7 (.node 25 ([3]) .leaf .leaf) .leaf .leaf) (.node 38 (.node 6 ([1]) (.node 5 ([8,10]) .leaf .leaf) .leaf) .leaf .leaf)) (.node 169 (.node 3 ([3]) .leaf .leaf) (.node 158 (.node 7 ([2]) .leaf .leaf) .leaf .leaf) .leaf)
def qcg{α:Type}(a b:Nat)(t:BT (BT α)):Option α:=match t.look a with|some u=>u.look b|none=>none
def qlP(f r k:Nat):Bool:=match qcg f r qo0 with|some l=>xI k l|none=>false
def qlz:BT (BT (List Tmp×List Tmp)):=.node 87 (.node 4 ([1,2,15,16,17],[6]) .leaf .leaf) (.node 50 (.node 7 ([2,3,4],[2,3,4,5]) .leaf .leaf) (.node 29 (.node 1 ([2,3],[4]) .leaf .leaf) (.node 18 (.node 5 ([2],[2]) .leaf .leaf) (.node 7 (.node 9 ([1,4,8,9,32,33,34],[4,5,8,9]) .leaf .leaf) (.node 5 (.node 2 ([0,3],[2]) .leaf .leaf) .leaf .leaf) (.node 17 (.node 5 ([4,16,17,18],[4]) .leaf .leaf) .leaf .leaf)) (.node 22 (.node 7 ([3,5,10,11,12,16,17,18],[3,5,10,11,12]) (.node 4 ([3,10,11,12],[3]) .leaf .leaf) .leaf) (.node 19 (.node 2 ([0,1,7,8],[4]) .leaf .leaf) .leaf .leaf) (.node 23 (.node 5 ([0,1,5,6],[0,5]) .leaf .leaf) .leaf .leaf))) (.node 38 (.node 3 ([0,2,3,4],[2,3]) .leaf .leaf) (.node 31 (.node 9 ([5,6,70,71],[5]) (.node 2 ([5],[4]) .leaf .leaf) .leaf) (.node 30 (.node 9 ([0,1,5,6,7],[0,5]) (.node 4 ([0,1,5],[0,4]) .leaf .leaf) .leaf) .leaf .leaf) (.node 36 (.node 4 ([0,1,5],[4]) .leaf .leaf) .leaf .leaf)) (.node 49 (.node 5 ([1,2,5,6],[5]) .leaf .leaf) (.node 44 (.node 7 ([2,4,7,43,44,45],[6,7,8]) .leaf .leaf) .leaf .leaf) .leaf))) (.node 78 (.node 2 ([0,1,2,11,12,13],[0,1,6]) .leaf .leaf) (.node 61 (.node 2 ([0,1,2,3,4,10,11],[]) .leaf .leaf) (.node 55 (.node 5 ([4,32,33,34],[2,3,4]) .leaf .leaf) (.node 52 (.node 3 ([3,6,7,8],[3]) .leaf .leaf) .leaf .leaf) (.node 59 (.node 2 ([0,1,7,8],[4]) .leaf .leaf) .leaf .leaf)) (.node 77 (.node 3 ([0,2,3,4],[2,3]) .leaf .leaf) (.node 65 (.node 3 ([3,6,7,8],[2,3]) .leaf .leaf) .leaf .leaf) .leaf)) (.node 84 (.node 6 ([1,2,3,4,18,19,20],[2,3,4]) .leaf .leaf) (.node 80 (.node 7 ([6,10,11,38,39,40],[6,7,11]) .leaf .leaf) (.node 79 (.node 4 ([2,3],[2,3]) .leaf .leaf) .leaf .leaf) (.node 83 (.node 14 ([2,4,5,73,74,77,78,79],[2,3,4,5,73,74]) (.node 11 ([2,4,5,73,74],[2,3,4]) .leaf .leaf) .leaf) .leaf .leaf)) (.node 86 (.node 7 ([0,1,2,6],[]) (.node 2 ([0,1,2,6,7,8],[0,1,2,6,7]) .leaf .leaf) (.node 9 ([0,1,2,6,7,8],[0,1,2,6,7]) .leaf .leaf)) (.node 85 (.node 1 ([0,3],[]) .leaf .leaf) .leaf .leaf) .leaf)))) (.node 136 (.node 7 ([3],[0,3]) (.node 1 ([0,3],[]) .leaf .leaf) .leaf) (.node 113 (.node 3 ([3,6,16,17,18],[4,6]) .leaf .leaf) (.node 92 (.node 2 ([0,8,9],[]) .leaf .leaf) (.node 89 (.node 8 ([0,3,8,9,12],[]) (.node 4 ([0,3,8,9,10,11],[0,3,8,9,10]) .leaf .leaf) .leaf) (.node 88 (.node 4 ([0,1,2,3,8,9],[0,1,2,3,8]) (.node 1 ([0,1,2,3,8],[]) .leaf .leaf) .leaf) .leaf .leaf) (.node 90 (.node 5 ([0,1,8,9,10,11],[]) .leaf .leaf) .leaf .leaf)) (.node 94 (.node 5 ([0,1,4,11,12],[0,1,4,11,12]) (.node 3 ([0,1,4,11,12],[0,1,4,11,12]) .leaf .leaf) .leaf) (.node 93 (.node 14 ([0,1,2,3,9,10,11],[0,1,2,3,9,10]) (.node 5 ([0,1,2,3,9,10],[0,1,2,3,9,10]) (.node 3 ([0,1,2,3,9,10],[8]) .leaf .leaf) .leaf) (.node 20 ([0,1,2,3,9,10,12],[0,1,2,3,9,10]) .leaf .leaf)) .leaf .leaf) (.node 95 (.node 13 ([0,1,4,12,13],[0,1,4,12,13]) (.node 5 ([0,1,4,12,13],[0,1,4,12,13]) (.node 3 ([0,1,4,12,13],[0,1,4,12,13]) .leaf .leaf) .leaf) (.node 15 ([0,1,4,12,13],[0,1,4,12,13]) .leaf .leaf)) .leaf .leaf))) (.node 120 (.node 4 ([0,1,2,3,8,9],[0,1,2,3,8]) (.node 1 ([0,1,2,3,8],[]) .leaf .leaf) .leaf) (.node 117 (.node 11 ([3,7,29],[7]) (.node 6 ([3],[3]) .leaf .leaf) .leaf) (.node 115 (.node 0 ([0,1,2],[1,2]) .leaf .leaf) .leaf .leaf) (.node 118 (.node 5 ([4],[4,5]) .leaf .leaf) .leaf .leaf)) (.node 122 (.node 1 ([0,2,3,4,10],[]) .leaf .leaf) (.node 121 (.node 15 ([0,2,4,14,15],[0,2,14]) (.node 9 ([0,10,13],[]) (.node 3 ([0,1,4,10,11],[0,1,10]) .leaf .leaf) .leaf) (.node 33 ([0,1,2,3,4,18,19,20,21,22],[0,1,2,3,4,18,19,20]) (.node 21 ([0,14,17],[]) .leaf .leaf) .leaf)) .leaf .leaf) .leaf))) (.node 158 (.node 3 ([2,3,10,11,12],[2,3]) .leaf .leaf) (.node 152 (.node 4 ([3,4,9,10,11],[2,3]) .leaf .leaf) (.node 146 (.node 2 ([0,2,4,10,11],[0,2,4,10]) .leaf .leaf) (.node 139 (.node 4 ([1,4,5,9,10,11],[1,2,3,4]) .leaf .leaf) .leaf .leaf) (.node 151 (.node 1 ([0,1,3],[]) .leaf .leaf) .leaf .leaf)) (.node 154 (.node 3 ([0,3,5],[3]) .leaf .leaf) (.node 153 (.node 17 ([0,4,5,70,71],[6]) .leaf .leaf) .leaf .leaf) .leaf)) (.node 172 (.node 2 ([0,1,7,8],[4]) .leaf .leaf) (.node 165 (.node 1 ([0,1,2,3,10],[]) .leaf .leaf) (.node 159 (.node 3 ([0,5,8,9,10],[4,5]) .leaf .leaf) .leaf .leaf) (.node 169 (.node 3 ([3],[3,4]) .leaf .leaf) .leaf .leaf)) (.node 186 (.node 0 ([0,1],[]) .leaf .leaf) (.node 180 (.node 4 ([7],[0,5,6,7]) .leaf .leaf) .leaf .leaf) .leaf))))
def qpb:BT (BT (List Tmp)):=.leaf
def qlD:BT (BT (List (Tmp×Nat))):=.node 117 (.node 11 ([(7,1)]) .leaf .leaf) (.node 38 (.node 3 ([(3,4)]) .leaf .leaf) (.node 22 (.node 7 ([(3,2),(16,2)]) (.node 4 ([(3,2)]) .leaf .leaf) .leaf) (.node 7 (.node 9 ([(8,4),(9,2)]) .leaf .leaf) .leaf .leaf) (.node 31 (.node 9 ([(5,8)]) (.node 2 ([(5,8)]) .leaf .leaf) .leaf) .leaf .leaf)) (.node 52 (.node 3 ([(3,4)]) .leaf .leaf) (.node 50 (.node 7 ([(2,6),(4,6)]) (.node 0 ([(2,6)]) .leaf .leaf) .leaf) .leaf .leaf) (.node 85 (.node 1 ([(3,4)]) .leaf .leaf) .leaf .leaf))) (.node 154 (.node 3 ([(3,5)]) .leaf .leaf) (.node 136 (.node 7 ([(3,4)]) (.node 1 ([(3,4)]) .leaf .leaf) .leaf) (.node 118 (.node 5 ([(4,4)]) .leaf .leaf) .leaf .leaf) (.node 139 (.node 4 ([(4,1)]) .leaf .leaf) .leaf .leaf)) (.node 159 (.node 3 ([(5,4)]) .leaf .leaf) (.node 158 (.node 3 ([(3,4)]) .leaf .leaf) .leaf .leaf) .leaf))
def x9(f:Nat):List (Nat×(List AV->AH->Option (AV×AH)))->Option (List AV->AH->Option (AV×AH))
 |[]=>none
 |p::l=>if qCh p.1 f then some p.2 else x9 f l
def qpn:BT TypeId:=.leaf
def qiO:BT (List (Nat×Nat×Nat)):=.leaf
def qiP:BT Nat:=.leaf
def qob:BT (List BSh):=.leaf
def qop:BT Unit:=.leaf
def qed:List (Nat×(List AV->AH->Option (AV×AH))):=[(12,EV K.cfg (.f 12)),(21,qbc (EV K.cfg (.f 21)))]
def qc5:List (Nat×(List AV->AH->Option (AV×AH))):=(127,qc6)::qed
theorem qe6:qed=[(12,EV K.cfg (.f 12)),(21,qbc (EV K.cfg (.f 21)))]:=rfl
def qiV:BT Unit:=.node 93 (()) (.node 49 (()) (.node 28 (()) (.node 18 (()) (.node 13 (()) (.node 7 (()) (.node 5 (()) (.node 4 (()) .leaf .leaf) .leaf) (.node 11 (()) .leaf .leaf)) (.node 15 (()) (.node 14 (()) .leaf .leaf) (.node 17 (()) .leaf .leaf))) (.node 24 (()) (.node 22 (()) (.node 20 (()) (.node 19 (()) .leaf .leaf) .leaf) (.node 23 (()) .leaf .leaf)) (.node 26 (()) (.node 25 (()) .leaf .leaf) (.node 27 (()) .leaf .leaf)))) (.node 41 (()) (.node 37 (()) (.node 31 (()) (.node 30 (()) (.node 29 (()) .leaf .leaf) .leaf) (.node 36 (()) .leaf .leaf)) (.node 39 (()) (.node 38 (()) .leaf .leaf) (.node 40 (()) .leaf .leaf))) (.node 45 (()) (.node 43 (()) (.node 42 (()) .leaf .leaf) (.node 44 (()) .leaf .leaf)) (.node 47 (()) (.node 46 (()) .leaf .leaf) (.node 48 (()) .leaf .leaf))))) (.node 66 (()) (.node 58 (()) (.node 54 (()) (.node 52 (()) (.node 51 (()) (.node 50 (()) .leaf .leaf) .leaf) (.node 53 (()) .leaf .leaf)) (.node 56 (()) (.node 55 (()) .leaf .leaf) (.node 57 (()) .leaf .leaf))) (.node 62 (()) (.node 60 (()) (.node 59 (()) .leaf .leaf) (.node 61 (()) .leaf .leaf)) (.node 64 (()) (.node 63 (()) .leaf .leaf) (.node 65 (()) .leaf .leaf)))) (.node 85 (()) (.node 81 (()) (.node 79 (()) (.node 78 (()) (.node 77 (()) .leaf .leaf) .leaf) (.node 80 (()) .leaf .leaf)) (.node 83 (()) (.node 82 (()) .leaf .leaf) (.node 84 (()) .leaf .leaf))) (.node 89 (()) (.node 87 (()) (.node 86 (()) .leaf .leaf) (.node 88 (()) .leaf .leaf)) (.node 91 (()) (.node 90 (()) .leaf .leaf) (.node 92 (()) .leaf .leaf)))))) (.node 145 (()) (.node 119 (()) (.node 111 (()) (.node 98 (()) (.node 96 (()) (.node 95 (()) (.node 94 (()) .leaf .leaf) .leaf) (.node 97 (()) .leaf .leaf)) (.node 109 (()) (.node 99 (()) .leaf .leaf) (.node 110 (()) .leaf .leaf))) (.node 115 (()) (.node 113 (()) (.node 112 (()) .leaf .leaf) (.node 114 (()) .leaf .leaf)) (.node 117 (()) (.node 116 (()) .leaf .leaf) (.node 118 (()) .leaf .leaf)))) (.node 137 (()) (.node 124 (()) (.node 122 (()) (.node 121 (()) (.node 120 (()) .leaf .leaf) .leaf) (.node 123 (()) .leaf .leaf)) (.node 126 (()) (.node 125 (()) .leaf .leaf) (.node 136 (()) .leaf .leaf))) (.node 141 (()) (.node 139 (()) (.node 138 (()) .leaf .leaf) (.node 140 (()) .leaf .leaf)) (.node 143 (()) (.node 142 (()) .leaf .leaf) (.node 144 (()) .leaf .leaf))))) (.node 165 (()) (.node 157 (()) (.node 153 (()) (.node 151 (()) (.node 147 (()) (.node 146 (()) .leaf .leaf) .leaf) (.node 152 (()) .leaf .leaf)) (.node 155 (()) (.node 154 (()) .leaf .leaf) (.node 156 (()) .leaf .leaf))) (.node 161 (()) (.node 159 (()) (.node 158 (()) .leaf .leaf) (.node 160 (()) .leaf .leaf)) (.node 163 (()) (.node 162 (()) .leaf .leaf) (.node 164 (()) .leaf .leaf)))) (.node 179 (()) (.node 172 (()) (.node 170 (()) (.node 169 (()) (.node 168 (()) .leaf .leaf) .leaf) (.node 171 (()) .leaf .leaf)) (.node 177 (()) (.node 173 (()) .leaf .leaf) (.node 178 (()) .leaf .leaf))) (.node 184 (()) (.node 181 (()) (.node 180 (()) .leaf .leaf) (.node 183 (()) .leaf .leaf)) (.node 186 (()) (.node 185 (()) .leaf .leaf) (.node 187 (()) .leaf .leaf))))))
def qpa:BT Unit:=.node 45 (()) (.node 27 (()) (.node 24 (()) (.node 22 (()) .leaf .leaf) .leaf) (.node 36 (()) (.node 29 (()) .leaf .leaf) .leaf)) (.node 127 (()) (.node 123 (()) (.node 49 (()) .leaf .leaf) .leaf) (.node 167 (()) (.node 154 (()) .leaf .leaf) .leaf))
def qpp:BT Unit:=.node 127 (()) .leaf .leaf
def qnI:BT Unit:=.node 118 (()) .leaf .leaf
def qo9:BT Unit:=.leaf
def qnY:BT (List Nat):=.node 102 ([49,4]) (.node 67 ([24,4]) (.node 40 ([24,4,30]) (.node 31 ([29,30]) .leaf .leaf) (.node 46 ([45,30]) .leaf .leaf)) (.node 78 ([3,4]) (.node 71 ([3,24,30]) .leaf .leaf) (.node 95 ([45,4]) .leaf .leaf))) (.node 129 ([24,30]) (.node 119 ([22,4]) (.node 108 ([3,107]) .leaf .leaf) (.node 124 ([123,4]) .leaf .leaf)) (.node 160 ([3,3]) (.node 150 ([118,4]) .leaf .leaf) (.node 187 ([116,116]) .leaf .leaf)))
def qgN:List (Nat×Func):=[(22,Tryz.f22),(23,Tryz.f23),(54,Tryz.f54),(82,Tryz.f82),(85,Tryz.f85),(109,Tryz.f109),(115,Tryz.f115),(136,Tryz.f136),(137,Tryz.f137),(151,Tryz.f151),(152,Tryz.f152),(184,Tryz.f184),(186,Tryz.f186)]
def qe4:BT Func:=.node 92 (Tryz.f92) (.node 47 (Tryz.f47) (.node 26 (Tryz.f26) (.node 17 (Tryz.f17) (.node 12 (Tryz.f12) (.node 7 (Tryz.f7) (.node 5 (Tryz.f5) (.node 4 (Tryz.f4) .leaf .leaf) .leaf) (.node 11 (Tryz.f11) .leaf .leaf)) (.node 14 (Tryz.f14) (.node 13 (Tryz.f13) .leaf .leaf) (.node 15 (Tryz.f15) .leaf .leaf))) (.node 22 (Tryz.f22) (.node 20 (Tryz.f20) (.node 19 (Tryz.f19) (.node 18 (Tryz.f18) .leaf .leaf) .leaf) (.node 21 (Tryz.f21) .leaf .leaf)) (.node 24 (Tryz.f24) (.node 23 (Tryz.f23) .leaf .leaf) (.node 25 (Tryz.f25) .leaf .leaf)))) (.node 39 (Tryz.f39) (.node 31 (Tryz.f31) (.node 29 (Tryz.f29) (.node 28 (Tryz.f28) (.node 27 (Tryz.f27) .leaf .leaf) .leaf) (.node 30 (Tryz.f30) .leaf .leaf)) (.node 37 (Tryz.f37) (.node 36 (Tryz.f36) .leaf .leaf) (.node 38 (Tryz.f38) .leaf .leaf))) (.node 43 (Tryz.f43) (.node 41 (Tryz.f41) (.node 40 (Tryz.f40) .leaf .leaf) (.node 42 (Tryz.f42) .leaf .leaf)) (.node 45 (Tryz.f45) (.node 44 (Tryz.f44) .leaf .leaf) (.node 46 (Tryz.f46) .leaf .leaf))))) (.node 65 (Tryz.f65) (.node 56 (Tryz.f56) (.node 52 (Tryz.f52) (.node 50 (Tryz.f50) (.node 49 (Tryz.f49) (.node 48 (Tryz.f48) .leaf .leaf) .leaf) (.node 51 (Tryz.f51) .leaf .leaf)) (.node 54 (Tryz.f54) (.node 53 (Tryz.f53) .leaf .leaf) (.node 55 (Tryz.f55) .leaf .leaf))) (.node 61 (Tryz.f61) (.node 59 (Tryz.f59) (.node 58 (Tryz.f58) (.node 57 (Tryz.f57) .leaf .leaf) .leaf) (.node 60 (Tryz.f60) .leaf .leaf)) (.node 63 (Tryz.f63) (.node 62 (Tryz.f62) .leaf .leaf) (.node 64 (Tryz.f64) .leaf .leaf)))) (.node 84 (Tryz.f84) (.node 80 (Tryz.f80) (.node 78 (Tryz.f78) (.node 77 (Tryz.f77) (.node 66 (Tryz.f66) .leaf .leaf) .leaf) (.node 79 (Tryz.f79) .leaf .leaf)) (.node 82 (Tryz.f82) (.node 81 (Tryz.f81) .leaf .leaf) (.node 83 (Tryz.f83) .leaf .leaf))) (.node 88 (Tryz.f88) (.node 86 (Tryz.f86) (.node 85 (Tryz.f85) .leaf .leaf) (.node 87 (Tryz.f87) .leaf .leaf)) (.node 90 (Tryz.f90) (.node 89 (Tryz.f89) .leaf .leaf) (.node 91 (Tryz.f91) .leaf .leaf)))))) (.node 145 (Tryz.f145) (.node 119 (Tryz.f119) (.node 110 (Tryz.f110) (.node 97 (Tryz.f97) (.node 95 (Tryz.f95) (.node 94 (Tryz.f94) (.node 93 (Tryz.f93) .leaf .leaf) .leaf) (.node 96 (Tryz.f96) .leaf .leaf)) (.node 99 (Tryz.f99) (.node 98 (Tryz.f98) .leaf .leaf) (.node 109 (Tryz.f109) .leaf .leaf))) (.node 115 (Tryz.f115) (.node 113 (Tryz.f113) (.node 112 (Tryz.f112) (.node 111 (Tryz.f111) .leaf .leaf) .leaf) (.node 114 (Tryz.f114) .leaf .leaf)) (.node 117 (Tryz.f117) (.node 116 (Tryz.f116) .leaf .leaf) (.node 118 (Tryz.f118) .leaf .leaf)))) (.node 137 (Tryz.f137) (.node 124 (Tryz.f124) (.node 122 (Tryz.f122) (.node 121 (Tryz.f121) (.node 120 (Tryz.f120) .leaf .leaf) .leaf) (.node 123 (Tryz.f123) .leaf .leaf)) (.node 126 (Tryz.f126) (.node 125 (Tryz.f125) .leaf .leaf) (.node 136 (Tryz.f136) .leaf .leaf))) (.node 141 (Tryz.f141) (.node 139 (Tryz.f139) (.node 138 (Tryz.f138) .leaf .leaf) (.node 140 (Tryz.f140) .leaf .leaf)) (.node 143 (Tryz.f143) (.node 142 (Tryz.f142) .leaf .leaf) (.node 144 (Tryz.f144) .leaf .leaf))))) (.node 165 (Tryz.f165) (.node 157 (Tryz.f157) (.node 153 (Tryz.f153) (.node 151 (Tryz.f151) (.node 147 (Tryz.f147) (.node 146 (Tryz.f146) .leaf .leaf) .leaf) (.node 152 (Tryz.f152) .leaf .leaf)) (.node 155 (Tryz.f155) (.node 154 (Tryz.f154) .leaf .leaf) (.node 156 (Tryz.f156) .leaf .leaf))) (.node 161 (Tryz.f161) (.node 159 (Tryz.f159) (.node 158 (Tryz.f158) .leaf .leaf) (.node 160 (Tryz.f160) .leaf .leaf)) (.node 163 (Tryz.f163) (.node 162 (Tryz.f162) .leaf .leaf) (.node 164 (Tryz.f164) .leaf .leaf)))) (.node 179 (Tryz.f179) (.node 172 (Tryz.f172) (.node 170 (Tryz.f170) (.node 169 (Tryz.f169) (.node 168 (Tryz.f168) .leaf .leaf) .leaf) (.node 171 (Tryz.f171) .leaf .leaf)) (.node 177 (Tryz.f177) (.node 173 (Tryz.f173) .leaf .leaf) (.node 178 (Tryz.f178) .leaf .leaf))) (.node 184 (Tryz.f184) (.node 181 (Tryz.f181) (.node 180 (Tryz.f180) .leaf .leaf) (.node 183 (Tryz.f183) .leaf .leaf)) (.node 186 (Tryz.f186) (.node 185 (Tryz.f185) .leaf .leaf) (.node 187 (Tryz.f187) .leaf .leaf))))))
theorem qkE:qe4.All λf fn=>Tryz.prog.funcs[f]? =some fn:=(BT.all_node Tryz.func92 (BT.all_node Tryz.func47 (BT.all_node Tryz.func26 (BT.all_node Tryz.func17 (BT.all_node Tryz.func12 (BT.all_node Tryz.func7 (BT.all_node Tryz.func5 (BT.all_node Tryz.func4 trivial trivial) trivial) (BT.all_node Tryz.func11 trivial trivial)) (BT.all_node Tryz.func14 (BT.all_node Tryz.func13 trivial trivial) (BT.all_node Tryz.func15 trivial trivial))) (BT.all_node Tryz.func22 (BT.all_node Tryz.func20 (BT.all_node Tryz.func19 (BT.all_node Tryz.func18 trivial trivial) trivial) (BT.all_node Tryz.func21 trivial trivial)) (BT.all_node Tryz.func24 (BT.all_node Tryz.func23 trivial trivial) (BT.all_node Tryz.func25 trivial trivial)))) (BT.all_node Tryz.func39 (BT.all_node Tryz.func31 (BT.all_node Tryz.func29 (BT.all_node Tryz.func28 (BT.all_node Tryz.func27 trivial trivial) trivial) (BT.all_node Tryz.func30 trivial trivial)) (BT.all_node Tryz.func37 (BT.all_node Tryz.func36 trivial trivial) (BT.all_node Tryz.func38 trivial trivial))) (BT.all_node Tryz.func43 (BT.all_node Tryz.func41 (BT.all_node Tryz.func40 trivial trivial) (BT.all_node Tryz.func42 trivial trivial)) (BT.all_node Tryz.func45 (BT.all_node Tryz.func44 trivial trivial) (BT.all_node Tryz.func46 trivial trivial))))) (BT.all_node Tryz.func65 (BT.all_node Tryz.func56 (BT.all_node Tryz.func52 (BT.all_node Tryz.func50 (BT.all_node Tryz.func49 (BT.all_node Tryz.func48 trivial trivial) trivial) (BT.all_node Tryz.func51 trivial trivial)) (BT.all_node Tryz.func54 (BT.all_node Tryz.func53 trivial trivial) (BT.all_node Tryz.func55 trivial trivial))) (BT.all_node Tryz.func61 (BT.all_node Tryz.func59 (BT.all_node Tryz.func58 (BT.all_node Tryz.func57 trivial trivial) trivial) (BT.all_node Tryz.func60 trivial trivial)) (BT.all_node Tryz.func63 (BT.all_node Tryz.func62 trivial trivial) (BT.all_node Tryz.func64 trivial trivial)))) (BT.all_node Tryz.func84 (BT.all_node Tryz.func80 (BT.all_node Tryz.func78 (BT.all_node Tryz.func77 (BT.all_node Tryz.func66 trivial trivial) trivial) (BT.all_node Tryz.func79 trivial trivial)) (BT.all_node Tryz.func82 (BT.all_node Tryz.func81 trivial trivial) (BT.all_node Tryz.func83 trivial trivial))) (BT.all_node Tryz.func88 (BT.all_node Tryz.func86 (BT.all_node Tryz.func85 trivial trivial) (BT.all_node Tryz.func87 trivial trivial)) (BT.all_node Tryz.func90 (BT.all_node Tryz.func89 trivial trivial) (BT.all_node Tryz.func91 trivial trivial)))))) (BT.all_node Tryz.func145 (BT.all_node Tryz.func119 (BT.all_node Tryz.func110 (BT.all_node Tryz.func97 (BT.all_node Tryz.func95 (BT.all_node Tryz.func94 (BT.all_node Tryz.func93 trivial trivial) trivial) (BT.all_node Tryz.func96 trivial trivial)) (BT.all_node Tryz.func99 (BT.all_node Tryz.func98 trivial trivial) (BT.all_node Tryz.func109 trivial trivial))) (BT.all_node Tryz.func115 (BT.all_node Tryz.func113 (BT.all_node Tryz.func112 (BT.all_node Tryz.func111 trivial trivial) trivial) (BT.all_node Tryz.func114 trivial trivial)) (BT.all_node Tryz.func117 (BT.all_node Tryz.func116 trivial trivial) (BT.all_node Tryz.func118 trivial trivial)))) (BT.all_node Tryz.func137 (BT.all_node Tryz.func124 (BT.all_node Tryz.func122 (BT.all_node Tryz.func121 (BT.all_node Tryz.func120 trivial trivial) trivial) (BT.all_node Tryz.func123 trivial trivial)) (BT.all_node Tryz.func126 (BT.all_node Tryz.func125 trivial trivial) (BT.all_node Tryz.func136 trivial trivial))) (BT.all_node Tryz.func141 (BT.all_node Tryz.func139 (BT.all_node Tryz.func138 trivial trivial) (BT.all_node Tryz.func140 trivial trivial)) (BT.all_node Tryz.func143 (BT.all_node Tryz.func142 trivial trivial) (BT.all_node Tryz.func144 trivial trivial))))) (BT.all_node Tryz.func165 (BT.all_node Tryz.func157 (BT.all_node Tryz.func153 (BT.all_node Tryz.func151 (BT.all_node Tryz.func147 (BT.all_node Tryz.func146 trivial trivial) trivial) (BT.all_node Tryz.func152 trivial trivial)) (BT.all_node Tryz.func155 (BT.all_node Tryz.func154 trivial trivial) (BT.all_node Tryz.func156 trivial trivial))) (BT.all_node Tryz.func161 (BT.all_node Tryz.func159 (BT.all_node Tryz.func158 trivial trivial) (BT.all_node Tryz.func160 trivial trivial)) (BT.all_node Tryz.func163 (BT.all_node Tryz.func162 trivial trivial) (BT.all_node Tryz.func164 trivial trivial)))) (BT.all_node Tryz.func179 (BT.all_node Tryz.func172 (BT.all_node Tryz.func170 (BT.all_node Tryz.func169 (BT.all_node Tryz.func168 trivial trivial) trivial) (BT.all_node Tryz.func171 trivial trivial)) (BT.all_node Tryz.func177 (BT.all_node Tryz.func173 trivial trivial) (BT.all_node Tryz.func178 trivial trivial))) (BT.all_node Tryz.func184 (BT.all_node Tryz.func181 (BT.all_node Tryz.func180 trivial trivial) (BT.all_node Tryz.func183 trivial trivial)) (BT.all_node Tryz.func186 (BT.all_node Tryz.func185 trivial trivial) (BT.all_node Tryz.func187 trivial trivial)))))))
def cfg:Cfg:={ P:=Tryz.prog,ty:=λt=>qeD.look t,mode:=λf=>match qlw.look f with|some m=>m|none=>.imp,frz:=λf r k=>qlP f r k,mask:=λf r=>qcg f r qlz,cut:=λf r=>qcg f r qpb,tup:=λt=>qnY.look t,ext:=λf=>x9 f qc5,known:=λf=>(qiV.look f).isSome,dat:=λt=>(qpa.look t).isSome,inl:=λf=>qec f qgN,lift:=λf r=>match qcg f r qlD with|some l=>l|none=>[],ems:=λt=>(qo9.look t).isSome,ali:=λt=>(qpp.look t).isSome,wrt:=λt=>(qnI.look t).isSome,bld:=λt=>qpn.look t,olift:=λf=>match qiO.look f with|some l=>l|none=>[],shp:=λf=>match qob.look f with|some l=>l|none=>[],okeep:=λf=>match qiP.look f with|some n=>n|none=>0,nsp:=λf=>(qop.look f).isSome }
theorem qay{fs:List Fact}(hfs:vP cfg fs){f:Nat}{args:List AV}{v:AV}(m d:Nat)(h:(match yF cfg (λf=>qe4.look f) fs m d (.f f) args []with|some r=>some r.1|none=>none)=some v):EVs (EV cfg) f args=some v:=quW (λ_ _ h=>BT.all_look qkE h) hfs m d h
theorem qco{fs:List Fact}(hfs:vP cfg fs){f:Nat}{args:List AV}{v:AV}(m d:Nat)(h:(match yF cfg (λf=>qe4.look f) fs m d (.f f) args []with|some r=>gA (r.1.frz r.1.msIds r.2).fg some|none=>none)=some v):EVf (EV cfg) f args=some v:=quX (λ_ _ h=>BT.all_look qkE h) hfs m d h
instance inl_ok:InlOk cfg:=InlOk.of qgN (λ_=>rfl) ⟨⟨rfl,rfl,Tryz.func22,rfl⟩,⟨⟨rfl,rfl,Tryz.func23,rfl⟩,⟨⟨rfl,rfl,Tryz.func54,rfl⟩,⟨⟨rfl,rfl,Tryz.func82,rfl⟩,⟨⟨rfl,rfl,Tryz.func85,rfl⟩,⟨⟨rfl,rfl,Tryz.func109,rfl⟩,⟨⟨rfl,rfl,Tryz.func115,rfl⟩,⟨⟨rfl,rfl,Tryz.func136,rfl⟩,⟨⟨rfl,rfl,Tryz.func137,rfl⟩,⟨⟨rfl,rfl,Tryz.func151,rfl⟩,⟨⟨rfl,rfl,Tryz.func152,rfl⟩,⟨⟨rfl,rfl,Tryz.func184,rfl⟩,⟨⟨rfl,rfl,Tryz.func186,rfl⟩,trivial⟩⟩⟩⟩⟩⟩⟩⟩⟩⟩⟩⟩⟩
end Go.Proofs.YtgleolmhpmljhaaGreat
end
noncomputable section
namespace Go.Av
def cmpS(a b:List UInt8):Int:=if a==b then 0 else if Op.bytesLess a b then -1 else 1
theorem qds:∀a b:List UInt8,Lib.compareBytes a b=cmpS a b
 |[],[]=>rfl
 |[],_::_=>by simp[Lib.compareBytes,cmpS,Op.bytesLess]
 |_::_,[]=>by simp[Lib.compareBytes,cmpS,Op.bytesLess]
 |a::l,b::m=>by
  rw[Lib.compareBytes,qds l m];unfold cmpS
  by_cases h:a=b
  ·subst h;have:¬a<a:=by simp
   by_cases h2:l=m
   ·subst h2;simp
   ·simp[Op.bytesLess,h2]
  ·have h':(a::l==b::m)=false:=by simp[h]
   rw[h'];simp only[qCg,if_false,Op.bytesLess]
   by_cases hlt:a<b
   ·simp[hlt]
   ·have:b<a:=by
     have h1:¬a.toNat<b.toNat:=hlt;have h2:a.toNat≠b.toNat:=λe=>h (UInt8.toNat.inj e)
     show b.toNat<a.toNat;omega
    simp[hlt,this,h]
theorem qo5 [Lent] {P:Program} {f:FuncId} {fn:Func} (hf:P.funcs[f]? =some fn) (hn:(fn.name== "runtime.NumGoroutine")=false) (hb:fn.body.isNone=true) (hx:Extern.findNext fn=none)
  (he:Extern.find fn=some Extern.BytealgCompare.compare) {args:List AV} {H H':AH} {r:AV} (hr:qc6 args H=some (r,H')) {C:qu} {μ:MMap} {w:World} {vs:Array Value} (ha:qy C μ args vs) (hw:Wld C μ H w):
  vM P (callFunc f vs) w (xJ C μ H w r H'):=by
 unfold qc6 at hr;split at hr
 ·rename_i H0 a b;cases hr;obtain⟨hl,hv⟩:=ha;obtain⟨x,y,rfl⟩:∃x y,vs= #[x,y]:=by
   obtain⟨l⟩:=vs
   match l,hl with
   |[x,y],_=>exact⟨x,y,rfl⟩
  have h0:=hv 0 _ _ rfl rfl;have h1:=hv 1 _ _ rfl rfl;cases h0;cases h1;have hrun:(callFunc f #[.string ⟨a.toArray⟩,.string ⟨b.toArray⟩]).run P w= .ok (.value (.int .i64 (cmpS a b))) w:=by
   unfold callFunc;simp only[Sem.run_bind,run_program,Result.andThen_ok,hf,hn,hb,qCg,if_false,if_true,run_mark,hx,he,Lib.run_compareString,Sem.run_pure];rw[qds]
  unfold vM;rw[hrun];exact⟨C,μ,.int _ _,hw,Ext.refl (qCa _)⟩
 ·cases hr
end Go.Av
namespace Go.Proofs.YtgleolmhpmljhaaGreat
open Go.Av
theorem qtC:qeD.All λt ti=>tiOf Tryz.prog t=some ti:=by
 unfold qeD
 repeat (first|exact trivial|refine BT.all_node (by show tiOf Tryz.prog _=_;kernel_rfl) ?_ ?_)
theorem qwl:Tryz.prog.funcs.toList.all (λfn=> !(fn.name== "runtime.NumGoroutine"))=true:=by kernel_rfl
theorem qor:Tryz.prog.follows .mixedOrders=true:=by kernel_rfl
end Go.Proofs.YtgleolmhpmljhaaGreat
end
noncomputable section
namespace Go.Av
abbrev Rz:=List (List AV)
abbrev Bz:=List UInt8
inductive Tm where
 |mk (k n:Int) (s:List UInt8) (l:List Tm)
 deriving Inhabited
namespace Tm
def kind:Tm->Int|mk k _ _ _=>k
def num:Tm->Int|mk _ n _ _=>n
def str:Tm->List UInt8|mk _ _ s _=>s
def subs:Tm->List Tm|mk _ _ _ l=>l
end Tm
mutual
def Tm.cells:Tm->List AV
 | .mk k n s l=>[.int .i64 k,.int .i64 n,.str s,.sl (qa l)]
def qa:List Tm->List (List AV)
 |[]=>[]
 |t::l=>t.cells::qa l
end
def Tm.av(t:Tm):AV:=.agg t.cells
theorem Tm.cells_mk(k n:Int)(s:List UInt8)(l:List Tm):(Tm.mk k n s l).cells=[.int .i64 k,.int .i64 n,.str s,.sl (qa l)]:=by rw[Tm.cells]
theorem Tm.av_mk(k n:Int)(s:List UInt8)(l:List Tm):(Tm.mk k n s l).av= .agg [.int .i64 k,.int .i64 n,.str s,.sl (qa l)]:=by rw[Tm.av,Tm.cells_mk]
theorem zJ:∀l:List Tm,qa l=l.map Tm.cells
 |[]=>by rw[qa];rfl
 |t::l=>by rw[qa,zJ l];rfl
@[simp] theorem qg(l:List Tm):(qa l).length=l.length:=by rw[zJ];simp
@[simp] theorem q4:qa []=[]:=by rw[qa]
theorem qN(t:Tm)(l:List Tm):qa (t::l)=t.cells::qa l:=by rw[qa]
theorem vn(a b:List Tm):qa (a++b)=qa a++qa b:=by simp[zJ]
theorem qaV(n:Nat)(a:List Tm):(qa a).take n=qa (a.take n):=by simp[zJ,List.map_take]
theorem qr0(n:Nat)(a:List Tm):(qa a).drop n=qa (a.drop n):=by simp[zJ,List.map_drop]
theorem xu(l:List Tm)(i:Nat):(qa l)[i]? =(l[i]?).map Tm.cells:=by rw[zJ];simp
theorem qeK{l:List Tm}{i:Nat}{k n:Int}{s:List UInt8}{l':List Tm}(h:l[i]? =some (.mk k n s l')):(qa l)[i]? =some [.int .i64 k,.int .i64 n,.str s,.sl (qa l')]:=by rw[xu,h,←Tm.cells_mk];rfl
theorem qgf(l:List Tm)(i:Nat)(t:Tm):(qa l).set i t.cells=qa (l.set i t):=by simp[zJ,List.map_set]
theorem qkX(t:Tm):qw 0 t.cells=true:=by
 obtain⟨k,n,s,l⟩:=t;rw[Tm.cells_mk];rfl
theorem qjQ(l:List Tm):qI 0 (qa l)=true:=by
 induction l with
 |nil=>rw[qa];rfl
 |cons t l ih=>rw[qa,qI,ih,qkX];rfl
mutual
/-- no list is longer than is counted here, no text -/
def Tm.Ok:Tm->Prop
 | .mk _ _ s l=>s.length<1099511627776∧l.length<1099511627776∧OkL l
def OkL:List Tm->Prop
 |[]=>True
 |t::l=>t.Ok∧OkL l
end
theorem qmg{l:List Tm}:OkL l↔∀t∈l,t.Ok:=by
 induction l with
 |nil=>simp[OkL]
 |cons t l ih=>simp[OkL,ih]
theorem Tm.Ok.str{k n:Int}{s:List UInt8}{l:List Tm}(h:(Tm.mk k n s l).Ok):s.length<1099511627776:=by rw[Tm.Ok]at h;exact h.1
theorem Tm.Ok.len{k n:Int}{s:List UInt8}{l:List Tm}(h:(Tm.mk k n s l).Ok):l.length<1099511627776:=by rw[Tm.Ok]at h;exact h.2.1
theorem Tm.Ok.sub{k n:Int}{s:List UInt8}{l:List Tm}(h:(Tm.mk k n s l).Ok){t:Tm}(ht:t∈l):t.Ok:=by rw[Tm.Ok]at h;exact qmg.1 h.2.2 t ht
theorem OkL.get{l:List Tm}(h:OkL l){t:Tm}(ht:t∈l):t.Ok:=qmg.1 h t ht
theorem Tm.ind{P:Tm->Prop}(h:∀k n s l,(∀t∈l,P t)->P (.mk k n s l)):∀t,P t
 | .mk k n s l=>h k n s l (λt _=>Tm.ind h t)
theorem qt{x:Int}(h1: -9223372036854775808<=x)(h2:x<9223372036854775808):qBZ .i64 x=x:=by
 simp[qBZ,IntKind.bits,IntKind.signed];omega
theorem qZ{i n:Nat}(h:i<n)(hn:n<1099511627776):qBZ .i64 ((i:Int)+1)=((i+1:Nat):Int):=by
 rw[qt (by omega) (by omega)];rfl
theorem qE(i:Nat):qd 0 (i:Int)=true:=by simp[qd]
theorem qP(i n:Nat):qe (i:Int) (n:Int)=decide (i<n):=by simp[qe]
def kTmC{α:Type}(l:List AV)(k:Int->Int->List UInt8->List (List AV)->Option α):Option α:=
 qf l λc cs=>kInt .i64 c λn=>qf cs λc cs=>kInt .i64 c λm=>qf cs λc cs=>kStr c λs=>qf cs λc cs=>kSl c λA=>kNil cs (k n m s A)
def kTmV{α:Type}(v:AV)(k:Int->Int->List UInt8->List (List AV)->Option α):Option α:=kAgg v λcs=>kTmC cs k
theorem vW{α:Type}{l:List Tm}{i:Nat}{t:Tm}(h:l[i]? =some t)(k:List AV->Option α):kOpt (qB0 (qa l) (qB7 (i:Int))) k=k t.cells:=by
 rw[qv,qCi,xu,h];rfl
mutual
def Tm.w:Tm->Nat
 | .mk _ _ s l=>1+s.length+wL l
def wL:List Tm->Nat
 |[]=>0
 |t::l=>t.w+wL l
end
theorem Tm.w_mk(k n:Int)(s:List UInt8)(l:List Tm):(Tm.mk k n s l).w=1+s.length+wL l:=by rw[Tm.w]
theorem Tm.w_eq(t:Tm):t.w=1+t.str.length+wL t.subs:=by cases t;rw[Tm.w_mk];rfl
@[simp] theorem xg:wL []=0:=by rw[wL]
@[simp] theorem qY(t:Tm)(l:List Tm):wL (t::l)=t.w+wL l:=by rw[wL]
@[simp] theorem xF(a b:List Tm):wL (a++b)=wL a+wL b:=by
 induction a with
 |nil=>simp
 |cons t l ih=>simp[ih];omega
theorem vU(t:Tm):1<=t.w:=by rw[Tm.w_eq];omega
theorem y5{t:Tm}{l:List Tm}(h:t∈l):t.w<=wL l:=by
 induction l with
 |nil=>cases h
 |cons x l ih=>
  rw[qY];rcases qCB.1 h with rfl|h
  ·omega
  ·have:=ih h;omega
theorem qaS(l:List Tm):l.length<=wL l:=by
 induction l with
 |nil=>simp
 |cons x l ih=>have:=vU x;simp;omega
theorem qcw(t:Tm):t.w<1099511627776->t.Ok:=by
 induction t using Tm.ind with
 |_ k n s l ih=>
  intro h;rw[Tm.w_mk]at h;rw[Tm.Ok];have:=qaS l;exact⟨by omega,by omega,qmg.2 λt ht=>ih t ht (by have:=y5 ht;omega)⟩
theorem qtz(l:List Tm):wL l.reverse=wL l:=by
 induction l with
 |nil=>rfl
 |cons x l ih=>simp[ih];omega
end Go.Av
end
noncomputable section
namespace Go.Proofs.YtgleolmhpmljhaaGreat
open Go.Av
def C0(W:World):qu:=λb o=>W.cell? ⟨b,o,none⟩
def M0:MMap:=λ_=>none
theorem wld0(W:World):Wld (C0 W) M0 [] W where
 cl:=λ_ _ _ h=>h
 dom:=λid m h=>by cases h
 res:=λid h=>by simp at h
 live:=λid b h=>by simp at h
 froz:=λid d sz rs h=>by simp at h
 inj:=λi i' b b' m m' h=>by simp at h
 free:=qaj.nil
 lnt:=⟨λ_ _ _ h=>(by cases h),λh=>h.elim,λ_ _=>trivial⟩
structure TermTys (P:Program) (tT tL tI tS:TypeId):Prop where
 uT:∃f0 f1 f2 f3:Field,P.underlying tT=some (.struct #[f0,f1,f2,f3])∧f0.type=tI∧f0.offset=0∧f1.type=tI∧f1.offset=1∧f2.type=tS∧f2.offset=2∧f3.type=tL∧f3.offset=3
 uL:P.underlying tL=some (.slice tT)
 uI:P.underlying tI=some (.int .i64)
 uS:P.underlying tS=some .string
 cT:P.cellsOf tT=4
 cL:P.cellsOf tL=1
 cI:P.cellsOf tI=1
 cS:P.cellsOf tS=1
noncomputable section
variable {H : Type} {enc : TypeId × Value → H} {P : Program} {W : World} {tT tL tI tS : TypeId}
def qjb(W:World)(cs:List Value)(t:Tm):Prop:=cs.length=4∧∀(j:Nat) a v,t.cells[j]? =some a->cs[j]? =some v->a.isCell=true∧Rep (C0 W) M0 a v
theorem qdO{base:Nat}{a:Addr}{n:Nat}{cs:List Value}(h:W.cells? base a n=some cs)(hn:0<n):a.spot=none∧cs.length=n∧∀(j:Nat) v,cs[j]? =some v->W.cell? ⟨a.block,a.off+j,none⟩=some v:=by
 unfold World.cells? at h;split at h
 ·have hl:cs.length=n:=by simpa using mapM_some_length h
  have hg:∀(j:Nat),j<n->W.cell? (a.add j)=cs[j]? :=λj hj=>mapM_some_get h j j (by simp[hj])
  have hsp:a.spot=none:=by
   have h0:=hg 0 hn;rw[qB3 (by omega)]at h0;cases hs:a.spot with
   |none=>rfl
   |some s=>
    simp only[World.cell?,Addr.add,qCM,hs]at h0;split at h0
    ·simp at h0
    ·cases h0
  refine⟨hsp,hl,λj v hv=>?_⟩;have hj:j<n:=by rw[←hl];exact(qB5.1 hv).1
  have:=hg j hj;rw[hv]at this;rw[yQ _ _ hsp]at this;exact this
 ·cases h
theorem qvb{H:Type}{d:DataW H}{l:List (DataW H)}(h:d∈l):Rows.uptoBulk d<=Rows.uptoBulkAll l:=by
 induction l with
 |nil=>cases h
 |cons x r ih=>
  simp only[Rows.uptoBulkAll];cases qCB.1 h with
  |inl e=>subst e;omega
  |inr e=>have:=ih e;omega
theorem qkY{H:Type}:∀(l:List Tm) (ds:List (DataW H)),l.length=ds.length->(∀(i:Nat) t d,l[i]? =some t->ds[i]? =some d->t.w<=Rows.uptoBulk d)->wL l<=Rows.uptoBulkAll ds
 |[],[],_,_=>by simp[Rows.uptoBulkAll]
 |t::l,d::ds,hl,h=>by
  have h0:=h 0 t d rfl rfl;have:=qkY l ds (by simpa using hl) (λi t d ht hd=>h (i+1) t d (by simpa using ht) (by simpa using hd));simp only[qY,Rows.uptoBulkAll];omega
theorem quc(T:TermTys P tT tL tI tS):∀(n:Nat),
  (∀cs x,DataW.trod enc P W 0 (λ_=>true) true n tT cs=some x->∃t:Tm,qjb W cs t∧t.w<=Rows.uptoBulk x.1 ∧
   ∀(W':World) (sp:Nat->Bool),(∀p∈x.2,W.sameAt W' p)->(∀p∈x.2,sp p.block=true)->DataW.trod enc P W' 0 sp true n tT cs=some x) ∧
  (∀cs x,DataW.trod enc P W 0 (λ_=>true) true n tL cs=some x->∃(l:List Tm) (v:Value),cs=[v]∧Rep (C0 W) M0 (.sl (qa l)) v∧wL l<=Rows.uptoBulk x.1 ∧
   ∀(W':World) (sp:Nat->Bool),(∀p∈x.2,W.sameAt W' p)->(∀p∈x.2,sp p.block=true)->DataW.trod enc P W' 0 sp true n tL cs=some x):=by
 intro n
 induction n with
 |zero=>exact⟨λcs x h=>by simp[DataW.trod]at h,λcs x h=>by simp[DataW.trod]at h⟩
 |succ n ih=>
  obtain⟨ihT,ihL⟩:=ih;refine⟨λcs x h=>?_,λcs x h=>?_⟩
  ·obtain⟨f0,f1,f2,f3,hu,t0,o0,t1,o1,t2,o2,t3,o3⟩:=T.uT;obtain⟨xs,n',e,rfl,hl,hxl,hx⟩:=DataW.trod_struct hu h;obtain rfl:n'=n:=by omega
   rw[T.cT]at hl;obtain⟨c0,c1,c2,c3,rfl⟩:∃c0 c1 c2 c3,cs=[c0,c1,c2,c3]:=by
    match cs,hl with
    |[a,b,c,d],_=>exact⟨a,b,c,d,rfl⟩
   obtain⟨x0,x1,x2,x3,rfl⟩:∃c0 c1 c2 c3,xs=[c0,c1,c2,c3]:=by
    match xs,hxl with
    |[a,b,c,d],_=>exact⟨a,b,c,d,rfl⟩
   have h0:=hx 0 f0 rfl;have h1:=hx 1 f1 rfl;have h2:=hx 2 f2 rfl;have h3:=hx 3 f3 rfl;rw[t0,o0,T.cI]at h0;rw[t1,o1,T.cI]at h1;rw[t2,o2,T.cS]at h2;rw[t3,o3,T.cL]at h3;simp at h0 h1 h2 h3;obtain⟨k,e0,rfl,w0⟩:=DataW.trod_int T.uI h0;obtain⟨m,e1,rfl,w1⟩:=DataW.trod_int T.uI h1;obtain⟨s,e2,rfl,w2⟩:=DataW.trod_string T.uS h2;obtain⟨l,v,e3,hr,hb,hback⟩:=ihL _ _ h3;simp at e0 e1 e2 e3;subst e0 e1 e2 e3;refine⟨.mk k m s.data.toList l,⟨rfl,λj a u ha hu=>?_⟩,?_,λW' sp hs hp=>?_⟩
   ·rw[Tm.cells_mk]at ha
    match j,ha,hu with
    |0,ha,hu=>simp at ha hu;subst ha hu;exact⟨rfl,.int _ _⟩
    |1,ha,hu=>simp at ha hu;subst ha hu;exact⟨rfl,.int _ _⟩
    |2,ha,hu=>
     simp at ha hu;subst ha hu;refine⟨rfl,?_⟩;have:=Rep.str (C:=C0 W) (μ:=M0) s.data.toList
     simpa using this
    |3,ha,hu=>simp at ha hu;subst ha hu;exact⟨rfl,hr⟩
    |(j+4),ha,hu=>simp at ha
   ·simp only[List.map_cons,List.map_nil,Rows.uptoBulk,Rows.uptoBulkAll];rw[Tm.w_mk];omega
   ·have hs3:∀p∈x3.2,W.sameAt W' p:=λp hp=>hs p (by simp[hp])
    have hp3:∀p∈x3.2,sp p.block=true:=λp hpp=>hp p (by simp[hpp])
    have b3:=hback W' sp hs3 hp3;have b0:DataW.trod enc P W' 0 sp true n' tI [Value.int .i64 k]=some (.lit (.int .i64 k),[]):=by
     cases n' with
     |zero=>simp[DataW.trod]at h0
     |succ q=>simp[DataW.trod,T.uI,w0]
    have b1:DataW.trod enc P W' 0 sp true n' tI [Value.int .i64 m]=some (.lit (.int .i64 m),[]):=by
     cases n' with
     |zero=>simp[DataW.trod]at h0
     |succ q=>simp[DataW.trod,T.uI,w1]
    have b2:DataW.trod enc P W' 0 sp true n' tS [Value.string s]=some (.lit (.string s.data.toList),[]):=by
     cases n' with
     |zero=>simp[DataW.trod]at h0
     |succ q=>simp[DataW.trod,T.uS,w2]
    unfold DataW.trod;rw[hu];simp[T.cT,t0,o0,t1,o1,t2,o2,t3,o3,T.cI,T.cS,T.cL,b0,b1,b2,b3]
  ·rcases DataW.trod_slice T.uL h with⟨rfl,rfl⟩|⟨a,len,cap,elems,rest,n',e,rfl,rfl,hb,hlc,hmx,hel,hg,hsp,_⟩
   ·refine⟨[],_,rfl,by rw[q4];exact .slNil,by simp,λW' sp _ _=>?_⟩;simp[DataW.trod,T.uL]
   ·obtain rfl:n'=n:=by omega
    obtain⟨hrl,hrg⟩:=hsp rfl;have one:∀(i:Nat) (y:DataW H×List MemPlace),(W.cells? 0 (a.add (i*P.cellsOf tT)) (P.cellsOf tT)).bind (DataW.trod enc P W 0 (λ_=>true) true n' tT)=some y ->
      ∃cs',W.cells? 0 (a.add (i*4)) 4=some cs'∧DataW.trod enc P W 0 (λ_=>true) true n' tT cs'=some y:=by
     intro i y hy;rw[T.cT]at hy;exact qB6.1 hy
    -- the terms
    have tms:∃f:Nat->Tm,∀(i:Nat) y,elems[i]? =some y->∃cs',W.cells? 0 (a.add (i*4)) 4=some cs'∧qjb W cs' (f i)∧(f i).w<=Rows.uptoBulk y.1:=by
     have:∀i:Nat,∃t:Tm,∀y,elems[i]? =some y->∃cs',W.cells? 0 (a.add (i*4)) 4=some cs'∧qjb W cs' t∧t.w<=Rows.uptoBulk y.1:=by
      intro i;cases hy:elems[i]? with
      |none=>exact⟨default,λy h=>by cases h⟩
      |some y=>
       have hi:i<len:=by rw[←hel];exact(qB5.1 hy).1
       obtain⟨cs',h1,h2⟩:=one i y ((hg i hi).trans hy);obtain⟨t,h3,h4,_⟩:=ihT _ _ h2;exact⟨t,λy' hy'=>by cases hy';exact⟨cs',h1,h3,h4⟩⟩
     exact⟨λi=>Classical.choose (this i),λi=>Classical.choose_spec (this i)⟩
    obtain⟨f,hf⟩:=tms;have hget:∀(i:Nat) (row:List AV),(qa ((qCJ len).map f))[i]? =some row->i<len∧row=(f i).cells:=by
     intro i row hi;have hil:i<len:=by have:=(qB5.1 hi).1;simpa using this
     refine⟨hil,?_⟩;rw[xu,List.getElem?_map,List.getElem?_range hil]at hi
     simpa using hi.symm
    have hcell:∀(i j:Nat) (row:List AV) x,(qa ((qCJ len).map f))[i]? =some row->row[j]? =some x->a.spot=none∧x.isCell=true∧∃v,W.cell? ⟨a.block,a.off+i*4+j,none⟩=some v∧Rep (C0 W) M0 x v:=by
     intro i j row x hi hj;obtain⟨hil,rfl⟩:=hget i row hi;obtain⟨cs',h1,h2,_⟩:=hf i _ (qB3 (by omega));obtain⟨s1,s2,s3⟩:=qdO h1 (by omega);have hspot:a.spot=none:=by
      obtain⟨cs0,q1,_⟩:=hf 0 _ (qB3 (by omega));have:=(qdO q1 (by omega)).1
      simpa [Addr.add]using this
     have hjl:j<cs'.length:=by
      rw[h2.1];have:=(qB5.1 hj).1;cases hfi:f i with
      |mk k n s l=>rw[hfi,Tm.cells_mk]at this;simpa using this
     have h4:=h2.2 j x _ hj (qB3 hjl);refine⟨hspot,h4.1,_,?_,h4.2⟩;have:=s3 j _ (qB3 hjl);rw[yQ _ _ hspot]at this;exact this
    refine⟨(qCJ len).map f,_,rfl,?_,?_,λW' sp hs hp=>?_⟩
    ·have:=Rep.sl (C:=C0 W) (μ:=M0) (qa ((qCJ len).map f)) a cap 4 (λi j=>(W.cell? ⟨a.block,a.off+i*4+j,none⟩).getD undef) (λhne=>?_) (λi row hi=>?_) (λi j row x hi hj=>?_) (λi j row x hi hj=>?_) (λi j row x hi hj=>?_) (by simpa using hlc) (qjQ _)
     ·simpa using this
     ·have hl0:0<len:=by
       rcases Nat.eq_zero_or_pos len with h0|h0
       ·subst h0;exact absurd (by simp) hne
       ·exact h0
      obtain⟨cs0,q1,_⟩:=hf 0 _ (qB3 (by omega));have:=(qdO q1 (by omega)).1
      simpa [Addr.add]using this
     ·obtain⟨_,rfl⟩:=hget i row hi;cases hfi:f i with
      |mk k n s l=>rw[Tm.cells_mk];rfl
     ·obtain⟨_,_,v,h1,_⟩:=hcell i j row x hi hj;show W.cell? _=_;rw[h1];rfl
     ·obtain⟨_,_,v,h1,h2⟩:=hcell i j row x hi hj;rw[h1];exact h2
     ·exact(hcell i j row x hi hj).2.1
    ·simp only[Rows.uptoBulk];have:=qkY ((qCJ len).map f) (elems.map (·.1)) (by simp[hel]) (λi t d ht hd=>by
      rw[List.getElem?_map]at ht hd;obtain⟨j,hj,rfl⟩:=qCb.1 ht;obtain⟨y,hy,rfl⟩:=qCb.1 hd;have hil:i<len:=by have:=(qB5.1 hj).1;simpa using this
      rw[List.getElem?_range hil]at hj;cases hj;obtain⟨_,_,_,h4⟩:=hf i y hy;exact h4)
     omega
    ·have hrow:0<(elems.length+rest.length)->sp a.block=true:=λhpos=>hp (.cell a.block (a.off+0)) (by
      rw[qCy];exact .inl (MemPlace.mem_row.2 ⟨0,Nat.mul_pos hpos (by rw[T.cT];omega),rfl⟩))
     unfold DataW.trod at h⊢;rw[T.uL]at h⊢;simp only[if_true]at h⊢;rw[qCM ⟨hb,hlc,hmx⟩]at h⊢;simp only[qCb,qB6]at h⊢;obtain⟨elems',he,rest',hr,hx⟩:=h;have hlen:elems'.length=len:=by simpa using mapM_some_length he
     have hrl':rest'.length=cap - len:=by simpa using mapM_some_length hr
     simp only[Prod.mk.injEq,DataW.slice.injEq]at hx;have one':∀(i:Nat) (y:DataW H×List MemPlace),i<elems'.length+rest'.length->y∈elems'++rest' ->
       (W.cells? 0 (a.add (i*P.cellsOf tT)) (P.cellsOf tT)).bind (DataW.trod enc P W 0 (λ_=>true) true n' tT)=some y->(W'.cells? 0 (a.add (i*P.cellsOf tT)) (P.cellsOf tT)).bind (DataW.trod enc P W' 0 sp true n' tT)=some y:=by
      intro i y hi hy hv;simp only[qB6]at hv⊢;obtain⟨cs',hc',hy'⟩:=hv;obtain⟨_,_,_,hbk⟩:=ihT _ _ hy';refine⟨cs',World.cells?_carry hc' (λp hpp=>hs p ?_),hbk W' sp (λp hpp=>hs p ?_) (λp hpp=>hp p ?_)⟩
      ·rw[←hx.2];obtain⟨j,hj,rfl⟩:=MemPlace.mem_row.1 hpp;simp only[qCy]
       left
       refine MemPlace.mem_row.2 ⟨i*P.cellsOf tT+j,?_,?_⟩
       ·calc i*P.cellsOf tT+j<i*P.cellsOf tT+P.cellsOf tT:=by omega
         _=(i+1)*P.cellsOf tT:=by rw[Nat.add_mul,Nat.one_mul]
         _<=(elems'.length+rest'.length)*P.cellsOf tT:=qCv _ hi
       ·unfold Addr.add;split
        ·rename_i h0;simp[h0]
        ·simp[Nat.add_assoc]
      ·rw[←hx.2];simp only[qCy,List.mem_flatMap]
       right
       exact⟨y,by simpa using hy,hpp⟩
      ·rw[←hx.2];simp only[qCy,List.mem_flatMap]
       right
       exact⟨y,by simpa using hy,hpp⟩
     refine⟨elems',mapM_carry he (λi y hi hy=>one' i y (by have:i<len:=(by simpa using hi);omega) (by simp[hy])),rest',?_,by simp only[Prod.mk.injEq,DataW.slice.injEq];exact hx⟩
     by_cases h0:0<elems.length+rest.length
     ·rw[qCM (hrow h0)];exact mapM_carry hr (λj y hj hy=>one' (len+j) y (by have:j<cap - len:=(by simpa using hj);omega) (by simp[hy]))
     ·have hc0:cap - len=0:=by omega
      rw[hc0]at hr⊢;simp at hr;subst hr;split<;>rfl
end
end Go.Proofs.YtgleolmhpmljhaaGreat
end
noncomputable section
namespace Go.Proofs.YtgleolmhpmljhaaGreat
open Go.Av Go.ChangeShapes Go.WideShapes Go.ChangeAt Go.RowKit
theorem qwc:ownKnob Tryz.prog.godebug=none:=by kernel_rfl
noncomputable section
variable {H : Type} {enc : TypeId × Value → H} {P : Program} {W W' : World}
theorem qt3{f:Func}{s:ChangeSpec}{apart fresh handsOn again:Bool}{args:Array Value}{v:Value}{ds gs:List (DataW H)}{before pa pv:List MemPlace}(hW:DataW.Whole enc P f.params.toList s.vars apart W args.toList ds gs before)(hres:∀(b:Nat) (sp:Nat->Bool) (hd:Bool),DataW.TrodAll enc P W' b sp hd f.resultTypes.toList (v.resultList f.resultTypes.size) (s.fn H (ds++gs)).results [])(hargs:∀sp:Nat->Bool,(∀p∈before,sp p.block=true)->DataW.TrodAll enc P W' 0 sp true f.params.toList args.toList (s.fn H (ds++gs)).args pa)(hvars:∀sp:Nat->Bool,(∀p∈before,sp p.block=true)->DataW.TrodVars enc P W' sp s.vars (s.fn H (ds++gs)).vars pv)(hps:before=pa++pv)(hk:W.keptBut W' (·∈before))(hfz:∀b o,b<W.heap.size->W'.frozen? ⟨b,o,none⟩=W.frozen? ⟨b,o,none⟩)(hok:∀(j:Nat) (t:TypeId) (r:Value),f.resultTypes[j]? =some t->(v.resultList f.resultTypes.size)[j]? =some r->Value.okWide P W' .any 0 t r):
  s.post enc P f apart fresh handsOn again W args v W':=by
 have hlt:=hW.lt;have hold:∀p∈before,(λb=>decide (b<W.heap.size)) p.block=true:=λp hp=>by simpa using hlt p hp
 refine⟨ds,gs,before,[],pa,pv,hW,hres _ _ _,hargs _ hold,hvars _ hold,World.keptBut_mono (λp hp=>⟨hp,?_⟩) hk,λ_=>?_⟩
 ·rw[hps,qCy]at hp;exact Or.inr hp
 ·obtain⟨_,_,_,_,_,hz,hn⟩:=hW;refine⟨hok,_,_,([]++pa)++pv,⟨[]++pa,pv,trodAll_append (hargs _ (λ_ _=>rfl)) (hres _ _ _),hvars _ (λ_ _=>rfl),rfl,?_,?_⟩,?_⟩
  ·intro b off hp;have hp':MemPlace.cell b off∈before:=by rw[hps];simpa using hp
   rw[hfz b off (hlt _ hp')];exact hz b off hp'
  ·intro ha;have:=hn ha;rw[hps]at this
   simpa using this
  ·intro p hp _;rw[hps]
   simpa using hp
theorem qoA(h:∀b,b<W.heap.size->W'.heap[b]? =W.heap[b]?)(ho:W'.os=W.os)(hu:W'.output=W.output)(may:MemPlace->Prop):W.keptBut W' may:=by
 refine⟨ho,hu,λi hi=>?_⟩;rw[h i hi];cases W.heap[i]? with
 |none=>rfl
 |some o=>cases o<;>simp
theorem qcP(h:∀b,b<W.heap.size->W'.heap[b]? =W.heap[b]?){p:MemPlace}(hp:p.block<W.heap.size):W.sameAt W' p:=by
 cases p with
 |cell b o=>simp only[World.sameAt,World.cell?];rw[h b hp]
 |map b=>exact h b hp
theorem qlQ(h:∀b,b<W.heap.size->W'.heap[b]? =W.heap[b]?)(b o:Nat)(hb:b<W.heap.size):W'.frozen? ⟨b,o,none⟩=W.frozen? ⟨b,o,none⟩:=by
 simp only[World.frozen?];rw[h b hb]
structure Opened (enc:TypeId×Value->H) (P:Program) (W:World) (t:TypeId) (v:Value) (d:DataW H) (ps:List MemPlace) (a:AV):Prop where
 rep:Rep (C0 W) M0 a v
 back:∀(W':World) (sp:Nat->Bool),(∀p∈ps,W.sameAt W' p)->(∀p∈ps,sp p.block=true)->DataW.Trod enc P W' 0 sp true t v d ps
theorem qmF{tT tL tI tS:TypeId}(T:TermTys P tT tL tI tS){r:Reach}{b0:Nat}{v:Value}{d:DataW H}{ps:List MemPlace}(hval:Value.okWide P W r b0 tT v)(hd:DataW.Trod enc P W 0 (λ_=>true) true tT v d ps):
  ∃t:Tm,Opened enc P W tT v d ps t.av∧t.w<=Rows.uptoBulk d:=by
 obtain⟨f0,f1,f2,f3,hu,_⟩:=T.uT;obtain⟨cs,rfl,hsz⟩:=okWide_struct hu hval;obtain⟨n,hn⟩:=hd;obtain⟨t,h1,h2,h3⟩:=(quc T n).1 _ _ hn;refine⟨t,⟨?_,λW' sp hs hp=>⟨n,h3 W' sp hs hp⟩⟩,h2⟩;have:=Rep.agg (C:=C0 W) (μ:=M0) t.cells cs.toList (by
  have:=h1.1;cases t with
  |mk k n s l=>rw[Tm.cells_mk];simpa [Value.cells]using this.symm) (λi a v ha hv=>(h1.2 i a v ha (by simpa [Value.cells]using hv)).2)
 simpa [Tm.av]using this
theorem qwf{tI:TypeId}(hu:P.underlying tI=some (.int .i64)){r:Reach}{b0:Nat}{v:Value}{d:DataW H}{ps:List MemPlace}(hval:Value.okWide P W r b0 tI v)(hd:DataW.Trod enc P W 0 (λ_=>true) true tI v d ps):
  ∃k:Int,Opened enc P W tI v d ps (.int .i64 k)∧(Lit.int .i64 k).wf=true:=by
 obtain⟨k,rfl⟩:=okWide_int hu hval;obtain⟨n,hn⟩:=hd;obtain⟨k',e0,ex,w0⟩:=DataW.trod_int hu hn;have e0:[Value.int .i64 k]=[Value.int .i64 k']:=by simpa [Value.cells]using e0
 cases e0;cases ex;refine⟨k,⟨.int _ _,λW' sp _ _=>⟨n,?_⟩⟩,w0⟩;cases n with
 |zero=>simp[DataW.trod]at hn
 |succ q=>simp[DataW.trod,hu,w0,Value.cells]
end
theorem qtZ{C:qu}{a b c:AV}{x y z:Value}(h1:Rep C M0 a x)(h2:Rep C M0 b y)(h3:Rep C M0 c z):qy C M0 [a,b,c] #[x,y,z]:=⟨rfl,λi c v hc hv=>by
 match i,hc,hv with
 |0,hc,hv=>simp at hc hv;subst hc hv;exact h1
 |1,hc,hv=>simp at hc hv;subst hc hv;exact h2
 |2,hc,hv=>simp at hc hv;subst hc hv;exact h3
 |(i+3),hc,hv=>simp at hc⟩
end Go.Proofs.YtgleolmhpmljhaaGreat
end
noncomputable section
namespace Go.Proofs.YtgleolmhpmljhaaGreat
open Go.Av Go.ChangeShapes Go.WideShapes Go.ChangeAt Go.RowKit
theorem qn0:TermTys Tryz.prog 24 22 3 9 where
 uT:=⟨_,_,_,_,Tryz.underlying24,rfl,rfl,rfl,rfl,rfl,rfl,rfl,rfl⟩
 uL:=Tryz.underlying22
 uI:=Tryz.underlying3
 uS:=Tryz.underlying9
 cT:=by kernel_rfl
 cL:=by kernel_rfl
 cI:=by kernel_rfl
 cS:=by kernel_rfl
end Go.Proofs.YtgleolmhpmljhaaGreat
end
noncomputable section
namespace Go.Proofs.YtgleolmhpmljhaaGreat
open Go.Av Go.ChangeShapes Go.WideShapes Go.ChangeAt Go.RowKit
theorem qoq(f:FuncId)(fn:Func)(h:Tryz.prog.funcs[f]? =some fn):(fn.name== "runtime.NumGoroutine")=false:=by
 have h1:=List.all_eq_true.1 qwl fn (by
  rw[←Array.getElem?_toList]at h;exact qCc h)
 simpa using h1
theorem qu6[Lent]{args:List AV}{H H':AH}{r:AV}{C:qu}{μ:MMap}{w:World}{vs:Array Value}(hr:qc6 args H=some (r,H'))(ha:qy C μ args vs)(hw:Wld C μ H w):
  vM Tryz.prog (callFunc 127 vs) w (xJ C μ H w r H'):=
 qo5 (P:=Tryz.prog) Tryz.func127 (by rfl) (by rfl) (by kernel_rfl) (by kernel_rfl) hr ha hw
theorem quY[Lent]{P:Program}{s:Array Value->Sem Next}{g:List AV->AH->Option (AV×AH)}(hg:∀args H r H',g args H=some (r,H')->∀C μ w vs,qy C μ args vs->Wld C μ H w->vM P (s vs) w (xJ C μ H w r H')){args:List AV}{H H':AH}{r:AV}{C:qu}{μ:MMap}{w:World}{vs:Array Value}(hr:qbc g args H=some (r,H'))(ha:qy C μ args vs)(hw:Wld C μ H w):vM P (s vs) w (xJ C μ H w r H'):=by
 unfold qbc at hr;split at hr
 case h_2=>exact hg _ _ _ _ hr _ _ _ _ ha hw
 split at hr
 case h_2=>cases hr
 rename_i a b h1 h2;cases he:isEm a&&isEm b with
 |false=>rw[he]at hr;cases hr
 |true=>
  rw[he]at hr;cases hr;rw[qB2]at he;have one:∀(y:AV) (v:Value),vs[0]? =some v->Rep C (λ_=>none) y v->qy C (λ_=>none) [y] vs:=λy v hv hy=>⟨ha.1,λi a u e1 e2=>by
   cases i with
   |zero=>cases e1;rw[hv]at e2;cases e2;exact hy
   |succ i=>simp at e1⟩
  have fin:∀(q:AV×AH) (y:AV),isEm q=true->g [y] []=some q->qy C (λ_=>none) [y] vs->vM P (s vs) w (xJ C μ H w (.sl []) H):=λq y hq hy hf=>
   (hg [y] [] q.1 q.2 hy C (λ_=>none) w vs hf hw.nil).mono λv w1 ⟨C2,μ2,e1,e2,e3⟩=>by
    obtain⟨C3,a1,a2,a3⟩:=xr q.1.msIds e2;obtain⟨b1,b2⟩:=hw.back (e3.trans (a3 0 (Nat.zero_le _)) (qCa _)) a2;have hr:=((e1.mono a1 (λ_ _ h=>h)).frzA (xZ.of a2)).fgA;have hs:(q.1.frz q.1.msIds q.2).fg= .sl []:=by
     unfold isEm at hq;split at hq
     ·assumption
     ·cases hq
    rw[hs]at hr;exact⟨C3,μ,hr.free μ rfl,b1,b2 _ (qCa _)⟩
  have hsz:vs.size=1:=by have:=ha.1;simpa using this.symm
  have hv:vs[0]? =some vs[0]:=Array.getElem?_eq_getElem (by omega);have h0:=ha.2 0 _ _ rfl hv;generalize vs[0]=v at *;have nl:v= .slice none 0 0∨∃a c,v= .slice (some a) 0 c:=by
   cases h0 with
   |sl rows a cap=>exact .inr ⟨_,_,rfl⟩
   |slNil=>exact .inl rfl
  rcases nl with rfl|⟨a',c',rfl⟩
  ·exact fin _ _ he.1 h1 (one _ _ hv .nilS)
  ·exact fin _ _ he.2 h2 (one _ _ hv (.em _ _))
theorem qz5 [Lent] : CfgOk cfg where
  ty := ⟨fun t ti h => BT.all_look qtC h⟩
  mixed := qor
  named := fun f fn _ h => qoq f fn h
  ext := fun f s h args H r H' hr C μ w vs ha hw => by
    have h : x9 f qc5 = some s := h
    unfold qc5 at h
    rw [x9] at h
    split at h
    · rename_i e
      have e := qB9 e
      subst e
      cases h
      exact qu6 hr ha hw
    · rw [qe6] at h
      first
        | (rw [x9] at h; cases h; done)
        | (have okK : CfgOk K.cfg := {
             ty := ⟨fun t ti h => BT.all_look (show K.qeD.All _ from qtC) h⟩
             mixed := qor
             named := fun f fn _ h => qoq f fn h
             ext := fun f s h args H r H' hr C μ w vs ha hw => by
               have h : K.x9 f K.qc5 = some s := h
               unfold K.qc5 at h
               rw [K.x9] at h
               split at h
               · rename_i e
                 have e := qB9 e
                 subst e
                 cases h
                 exact qu6 hr ha hw
               · rw [K.qe6, K.x9] at h
                 cases h }
           rw [x9] at h
           split at h
           · rename_i e
             have e := qB9 e
             subst e
             cases h
             exact (qja okK).calls _ _ _ _ _ hr C μ w vs _ ha hw rfl
           · rw [x9] at h
             first
               | (cases h; done)
               | (split at h
                  · rename_i e
                    have e := qB9 e
                    subst e
                    cases h
                    exact quY (s := callFunc _) (g := EV K.cfg (.f _)) (fun args H r H' hr C μ w vs ha hw => (qja okK).calls (.f _) args H r H' hr C μ w vs _ ha hw rfl) hr ha hw
                  · rw [x9] at h
                    cases h))
theorem qtX{f:FuncId}{args:List AV}{vs:Array Value}{W:World}(hx:cfg.ext f=none)(he:EVs (EV cfg) f args=some (.bool true))(ha:qy (C0 W) M0 args vs):
  Calls Tryz.prog f vs W λe W'=>e= .returned (.bool true)∧(∀b,b<W.heap.size->W'.heap[b]? =W.heap[b]?)∧W.heap.size<=W'.heap.size∧W'.os=W.os∧W'.output=W.output:=by
 unfold EVs at he;obtain⟨q,h1,h2⟩:=qCb.1 he;have:=qxm qz5 hx (r:=q.1) (H':=q.2) h1 ha (wld0 W);refine this.mono λe W' ⟨v,hv,C',μ',p1,p2,p3⟩=>?_
 rw[h2]at p1;cases p1;refine⟨hv,λb hb=>(p3.fr b hb zO).1,p3.size,p3.os,p3.output⟩
end Go.Proofs.YtgleolmhpmljhaaGreat
end
noncomputable section
namespace Go.Av
mutual
def AV.wt:AV->Nat
 | .str s=>s.length+1
 | .sl rows=>wtR rows+1
 |_=>1
def wtL:List AV->Nat
 |[]=>0
 |a::l=>a.wt+wtL l
def wtR:List (List AV)->Nat
 |[]=>0
 |a::l=>wtL a+wtR l
end
@[simp] theorem wtL_nil:wtL []=0:=by rw[wtL]
@[simp] theorem wtL_cons(a:AV)(l:List AV):wtL (a::l)=a.wt+wtL l:=by rw[wtL]
@[simp] theorem wtR_nil:wtR []=0:=by rw[wtR]
@[simp] theorem wtR_cons(a:List AV)(l:List (List AV)):wtR (a::l)=wtL a+wtR l:=by rw[wtR]
@[simp] theorem wt_int(k:IntKind)(n:Int):(AV.int k n).wt=1:=by rw[AV.wt]<;>simp
@[simp] theorem wt_bool(b:Bool):(AV.bool b).wt=1:=by rw[AV.wt]<;>simp
@[simp] theorem wt_str(s:List UInt8):(AV.str s).wt=s.length+1:=by rw[AV.wt]
@[simp] theorem wt_sl(r:List (List AV)):(AV.sl r).wt=wtR r+1:=by rw[AV.wt]
end Go.Av
namespace Go.Proofs.YtgleolmhpmljhaaGreat
open Go.Av Go.WideShapes
def qb3(W:World)(cs:List Value)(cz:List AV):Prop:=cz.length=cs.length∧∀(j:Nat) a v,cz[j]? =some a->cs[j]? =some v->a.isCell=true∧Rep (C0 W) M0 a v
theorem qb3.nil{W:World}:qb3 W [] []:=⟨rfl,λj a v h=>by simp at h⟩
theorem qb3.one{W:World}{a:AV}{v:Value}(h1:a.isCell=true)(h2:Rep (C0 W) M0 a v):qb3 W [v] [a]:=⟨rfl,λj a' v' ha hv=>by
 match j,ha,hv with
 |0,ha,hv=>simp at ha hv;subst ha hv;exact⟨h1,h2⟩
 |j+1,ha,hv=>simp at ha⟩
theorem qb3.append{W:World}{cs cs':List Value}{cz cz':List AV}(h:qb3 W cs cz)(h':qb3 W cs' cz'):qb3 W (cs++cs') (cz++cz'):=by
 refine⟨by simp[h.1,h'.1],λj a v ha hv=>?_⟩
 by_cases hj:j<cz.length
 ·rw[qCf hj]at ha;rw[qCf (by rw[←h.1];exact hj)]at hv;exact h.2 j a v ha hv
 ·rw[qCo (by omega)]at ha;rw[qCo (by rw[←h.1];omega),←h.1]at hv;exact h'.2 _ a v ha hv
noncomputable section
variable {H : Type} {enc : TypeId × Value → H} {P : Program} {W : World}
end
theorem qrl{H:Type}{l:List (DataW H)}(hk:Rows.uptoSmall H l=true){d:DataW H}(hd:d∈l):Rows.uptoBulk d<=1048576:=by
 have h:Rows.uptoBulkAll l<=1048576:=of_decide_eq_true hk;have:=qvb hd;omega
end Go.Proofs.YtgleolmhpmljhaaGreat
end
noncomputable section
namespace Go.Av
@[simp] theorem Tm.kind_mk(k n:Int)(s:List UInt8)(l:List Tm):(Tm.mk k n s l).kind=k:=rfl
@[simp] theorem Tm.num_mk(k n:Int)(s:List UInt8)(l:List Tm):(Tm.mk k n s l).num=n:=rfl
@[simp] theorem Tm.str_mk(k n:Int)(s:List UInt8)(l:List Tm):(Tm.mk k n s l).str=s:=rfl
@[simp] theorem Tm.subs_mk(k n:Int)(s:List UInt8)(l:List Tm):(Tm.mk k n s l).subs=l:=rfl
@[simp] theorem Tm.eta(t:Tm):Tm.mk t.kind t.num t.str t.subs=t:=by cases t;rfl
theorem Tm.cells_eq(t:Tm):t.cells=[.int .i64 t.kind,.int .i64 t.num,.str t.str,.sl (qa t.subs)]:=by cases t;rw[Tm.cells_mk];rfl
@[simp] theorem cells_fold(k n:Int)(s:List UInt8)(l:List Tm):[AV.int .i64 k,AV.int .i64 n,AV.str s,AV.sl (qa l)]=(Tm.mk k n s l).cells:=(Tm.cells_mk k n s l).symm
@[simp] theorem cells_fold0(k n:Int)(s:List UInt8):[AV.int .i64 k,AV.int .i64 n,AV.str s,AV.sl []]=(Tm.mk k n s []).cells:=by rw[Tm.cells_mk,q4]
@[simp] theorem agg_cells(t:Tm):AV.agg t.cells=t.av:=rfl
@[simp] theorem qtV(t:Tm):[t.cells]=qa [t]:=by rw[qN,q4]
@[simp] theorem rowsT_cons'(t:Tm)(l:List Tm):t.cells::qa l=qa (t::l):=(qN t l).symm
@[simp] theorem rowsT_append'(a b:List Tm):qa a++qa b=qa (a++b):=(vn a b).symm
@[simp] theorem rowsT_app(a b:List Tm):qCu (qa a) (qa b)=qa (a++b):=(vn a b).symm
@[simp] theorem rowsT_take'(n:Nat)(a:List Tm):(qa a).take n=qa (a.take n):=qaV n a
@[simp] theorem rowsT_drop'(n:Nat)(a:List Tm):(qa a).drop n=qa (a.drop n):=qr0 n a
@[simp] theorem rowsT_set'(l:List Tm)(i:Nat)(t:Tm):(qa l).set i t.cells=qa (l.set i t):=qgf l i t
@[simp] theorem rowsT_get'(l:List Tm)(i:Nat):(qa l)[i]? =(l[i]?).map Tm.cells:=xu l i
@[simp] theorem rowsT_getElem(l:List Tm)(i:Nat)(h:i<(qa l).length):(qa l)[i]=(l[i]'(by simpa using h)).cells:=by
 have h1:=xu l i
 rw[qB3 h,qB3 (by simpa using h)]at h1
 exact Option.some.inj h1
@[simp] theorem kOpt_map{α β γ:Type}(o:Option β)(g:β->γ)(k:γ->Option α):kOpt (o.map g) k=kOpt o λx=>k (g x):=by cases o<;>rfl
@[simp] theorem qj(t:Tm):t.cells.length=4:=by rw[Tm.cells_eq];rfl
@[simp] theorem qm(t:Tm):t.cells.take 4=t.cells:=by rw[Tm.cells_eq];rfl
@[simp] theorem qF(t:Tm):t.cells.drop 4=[]:=by rw[Tm.cells_eq];rfl
@[simp] theorem cells_0(t:Tm):t.cells[0]? =some (.int .i64 t.kind):=by rw[Tm.cells_eq];rfl
@[simp] theorem cells_1(t:Tm):t.cells[1]? =some (.int .i64 t.num):=by rw[Tm.cells_eq];rfl
@[simp] theorem cells_2(t:Tm):t.cells[2]? =some (.str t.str):=by rw[Tm.cells_eq];rfl
@[simp] theorem cells_3(t:Tm):t.cells[3]? =some (.sl (qa t.subs)):=by rw[Tm.cells_eq];rfl
@[simp] theorem refs_cells(n:Nat)(t:Tm):qw n t.cells=true:=by rw[Tm.cells_eq];rfl
@[simp] theorem allCells_cells(t:Tm):vY t.cells=true:=by rw[Tm.cells_eq];rfl
@[simp] theorem rowsT_free'(l:List Tm):qI 0 (qa l)=true:=qjQ l
@[simp] theorem y9(l:List Tm):xl 4 (qa l)=true:=by
 cases l with
 |nil=>rw[q4];rfl
 |cons t l=>rw[qN,xl,qj];rfl
@[simp] theorem qk{α:Type}(t:Tm)(k:Int->Int->List UInt8->List (List AV)->Option α):kTmC t.cells k=k t.kind t.num t.str (qa t.subs):=by rw[Tm.cells_eq];rfl
@[simp] theorem qV{α:Type}(t:Tm)(k:Int->Int->List UInt8->List (List AV)->Option α):kTmV t.av k=k t.kind t.num t.str (qa t.subs):=by rw[Tm.av,Tm.cells_eq];rfl
theorem qtv{i n:Nat}(h:i<n)(hn:n<1099511627776):qBZ .i64 ((i:Int)+1)=(i:Int)+1:=qt (by omega) (by omega)
@[simp] theorem cast_nn(q:Nat):(0<=(q:Int)+1)=True:=eq_true (by omega)
@[simp] theorem cast_le1(q n:Nat):((q:Int)+1<=(n:Int))=(q+1<=n):=propext (by omega)
@[simp] theorem cast_lt1(q n:Nat):((q:Int)+1<(n:Int))=(q+1<n):=propext (by omega)
@[simp] theorem cast_nn'(q:Nat):(0<(q:Int)+1)=True:=eq_true (by omega)
@[simp] theorem cast_ne0(q:Nat):((q:Int)+1==0)=false:=by rw[beqD];exact qCL (by omega)
@[simp] theorem cast_lt_s(q:Nat):((q:Int)<(q:Int)+1)=True:=eq_true (by omega)
@[simp] theorem cast_le_s(q:Nat):((q:Int)<=(q:Int)+1)=True:=eq_true (by omega)
theorem qxx{n:Nat}(hn:n<4398046511104):qBZ .i64 (n:Int)=n:=qt (by omega) (by omega)
def numC(a b:Int):Int:=if a<b then -1 else if b<a then 1 else 0
def strC(a b:List UInt8):Int:=if a=b then 0 else if Op.bytesLess a b then -1 else 1
mutual
def cmpT:Tm->Tm->Int
 | .mk k n s l,b=>
  if numC k b.kind≠0 then numC k b.kind
  else if k=1∨k=3∨k=4∨k=6 then numC n b.num
  else if k=2 then strC s b.str
  else if k=5 then(if numC n b.num≠0 then numC n b.num else if numC l.length b.subs.length≠0 then numC l.length b.subs.length else cmpE l b.subs)
  else if k=7∨k=9 then(if numC l.length b.subs.length≠0 then numC l.length b.subs.length else cmpE l b.subs)
  else 0
def cmpE:List Tm->List Tm->Int
 |[],[]=>0
 |[],_::_=> -1
 |_::_,[]=>1
 |a::l,b::l'=>if cmpT a b≠0 then cmpT a b else cmpE l l'
end
def cmpL(l l':List Tm):Int:=if numC l.length l'.length≠0 then numC l.length l'.length else cmpE l l'
theorem qug{a b:Int}:numC a b=0↔a=b:=by unfold numC;split<;>(try split)<;>omega
theorem quh(a:Int):numC a a=0:=qug.2 rfl
theorem qyk(k n:Int)(s:List UInt8)(l:List Tm)(k' n':Int)(s':List UInt8)(l':List Tm):cmpT (.mk k n s l) (.mk k' n' s' l') =
  if numC k k'≠0 then numC k k' else if k=1∨k=3∨k=4∨k=6 then numC n n' else if k=2 then strC s s'
  else if k=5 then(if numC n n'≠0 then numC n n' else cmpL l l')else if k=7∨k=9 then cmpL l l' else 0:=by
 rw[cmpT];rfl
theorem qgW(a b:Tm)(l l':List Tm):cmpE (a::l) (b::l')=if cmpT a b≠0 then cmpT a b else cmpE l l':=by rw[cmpE]
theorem qph:cmpE [] []=0:=by rw[cmpE]
theorem qm8(b:Tm)(l':List Tm):cmpE [] (b::l')= -1:=by rw[cmpE]
theorem qm9(a:Tm)(l:List Tm):cmpE (a::l) []=1:=by rw[cmpE]
def C3(p q r:Int):Prop:=(p<=0->q<=0->r<=0)∧(p<0->q<=0->r<0)∧(p<=0->q<0->r<0)∧(0<=p->0<=q->0<=r)∧(0<p->0<=q->0<r)∧(0<=p->0<q->0<r)
def lexI(a b:Int):Int:=if a≠0 then a else b
def yq(k n:Int)(s:List UInt8)(m:Nat):Bool:=
 if k=1 then decide (-576460752303423488<=n)&&(decide (n<=576460752303423487)&&(decide (s=[])&&decide (m=0)))
 else if k=2 then decide (n=0)&&(decide (s.length<=64)&&decide (m=0))
 else if k=3 then decide (0<=n)&&(decide (n<=1073741824)&&(decide (s=[])&&decide (m=0)))
 else if k=4 then decide (0<=n)&&(decide (n<=1073741824)&&(decide (s=[])&&decide (m=0)))
 else if k=6 then decide (0<=n)&&(decide (n<=1073741824)&&(decide (s=[])&&decide (m=0)))
 else if k=5 then decide (0<=n)&&(decide (n<=1073741824)&&(decide (s=[])&&decide (m<=64)))
 else if k=7 then decide (n=0)&&(decide (s=[])&&decide (m<=64))
 else if k=8 then decide (n=0)&&(decide (s=[])&&decide (m=0))
 else if k=9 then decide (n=0)&&(decide (s=[])&&decide (m=2))
 else false
def Tm.sound(t:Tm):Bool:=yq t.kind t.num t.str t.subs.length
def Tm.own(t:Tm):Nat:=if t.kind=7∨t.kind=5 then 2 else 1
theorem yn(a b:Bool):(bif a then some (AV.bool b)else some (AV.bool false))=some (.bool (a&&b)):=by cases a<;>rfl
theorem qz9(s:List UInt8):(s==[])=decide (s=[]):=by cases s<;>simp
theorem beqI(a b:Int):(a==b)=decide (a=b):=by simp[beqD]
mutual
/-- may all parts of a term be? -/
def Tm.parts:Tm->Bool
 | .mk k n s l=>yq k n s l.length&&vJ l
def vJ:List Tm->Bool
 |[]=>true
 |t::l=>t.parts&&vJ l
end
mutual
/-- how many words all parts have -/
def Tm.words:Tm->Nat
 | .mk k n s l=>(Tm.mk k n s l).own+q9 l
def q9:List Tm->Nat
 |[]=>0
 |t::l=>t.words+q9 l
end
theorem Tm.parts_eq(t:Tm):t.parts=(t.sound&&vJ t.subs):=by cases t;rw[Tm.parts];rfl
theorem Tm.words_eq(t:Tm):t.words=t.own+q9 t.subs:=by cases t;rw[Tm.words];rfl
theorem qb6(a b:List Tm):vJ (a++b)=(vJ a&&vJ b):=by
 induction a with
 |nil=>simp[vJ]
 |cons x l ih=>simp[vJ,ih,Bool.and_assoc]
theorem qb4(a b:List Tm):q9 (a++b)=q9 a+q9 b:=by
 induction a with
 |nil=>simp[q9]
 |cons x l ih=>simp[q9,ih];omega
theorem qr7(a:List Tm):vJ a.reverse=vJ a:=by
 induction a with
 |nil=>rfl
 |cons x l ih=>simp[qb6,vJ,ih,Bool.and_comm]
theorem qrC(a:List Tm):q9 a.reverse=q9 a:=by
 induction a with
 |nil=>rfl
 |cons x l ih=>simp[qb4,q9,ih];omega
theorem Tm.own_le(t:Tm):t.own<=2∧1<=t.own:=by unfold Tm.own;split<;>omega
def chkS(R:List Tm)(wd:Nat):Int:=if vJ R then(if 65536<wd+q9 R then 3 else 0)else 2
def Tm.chk(t:Tm):Int:=chkS [t] 0
theorem qwS{R:List Tm}{x:Tm}{wd:Nat}(h:x.sound=false):chkS (R++[x]) wd=2:=by
 unfold chkS;rw[qb6];simp[vJ,Tm.parts_eq,h]
theorem qmT{R:List Tm}{x:Tm}{wd:Nat}(h:x.sound=true):chkS (R++x.subs.reverse) (wd+x.own)=chkS (R++[x]) wd:=by
 unfold chkS;simp only[qb6,qr7,qb4,qrC,vJ,q9,Tm.parts_eq,Tm.words_eq,h,qCF,Bool.and_true];have:wd+x.own+(q9 R+q9 x.subs)=wd+(q9 R+(x.own+q9 x.subs+0)):=by omega
 rw[this]
def numT(i:Int):Tm:=.mk 1 i [] []
def symT(s:List UInt8):Tm:=.mk 2 0 s []
def tupT(l:List Tm):Tm:=.mk 7 0 [] l
def xb:Tm:=.mk 0 0 [] []
theorem qya(i:Int):(numT i).av= .agg [.int .i64 1,.int .i64 i,.str [],.sl []]:=by rw[numT,Tm.av_mk,q4]
theorem qxU(s:List UInt8):(symT s).av= .agg [.int .i64 2,.int .i64 0,.str s,.sl []]:=by rw[symT,Tm.av_mk,q4]
theorem qbi:xb.av= .agg [.int .i64 0,.int .i64 0,.str [],.sl []]:=by rw[xb,Tm.av_mk,q4]
def InB(a:Int):Prop:= -576460752303423488<=a∧a<=576460752303423487
instance (a:Int):Decidable (InB a):=inferInstanceAs (Decidable (_∧_))
theorem qwj{a:Int}(h:InB a):(numT a).chk=0:=by
 obtain⟨h1,h2⟩:=h;simp[numT,Tm.chk,chkS,vJ,Tm.parts,yq,q9,Tm.words,Tm.own,Tm.kind,h1,h2]
def qS(n:Int):Option Tm:=if InB n then some (numT n)else none
theorem qaL{a:Int}(h:InB a):BitVec.ofInt 64 a=(BitVec.ofInt 60 a).signExtend 64:=by
 obtain⟨h1,h2⟩:=h;apply BitVec.eq_of_toInt_eq;rw[BitVec.toInt_signExtend_of_le (by omega),BitVec.toInt_ofInt,BitVec.toInt_ofInt];rw[Int.bmod_eq_of_le (by omega) (by omega),Int.bmod_eq_of_le (by omega) (by omega)]
theorem qcc(r:BitVec 64):qBZ .i64 r.toNat=r.toInt:=by
 have h:=r.isLt;rw[BitVec.toInt_eq_toNat_cond];simp[qBZ,IntKind.bits,IntKind.signed];omega
def bvG(op:BinOp)(a b:Int):Int:=
 match op with
 | .and=>(BitVec.ofInt 60 a &&& BitVec.ofInt 60 b).toInt
 | .or=>(BitVec.ofInt 60 a ||| BitVec.ofInt 60 b).toInt
 |_=>(BitVec.ofInt 60 a ^^^ BitVec.ofInt 60 b).toInt
theorem qyn{a b:Int}(ha:InB a)(hb:InB b):qn (Op.intBits .and .i64 a b)=some (.int .i64 (bvG .and a b)):=by
 have:qn (Op.intBits .and .i64 a b)=some (.int .i64 (qBZ .i64 (BitVec.ofInt 64 a &&& BitVec.ofInt 64 b).toNat)):=rfl;rw[this,qcc,qaL ha,qaL hb,←BitVec.signExtend_and,BitVec.toInt_signExtend_of_le (by omega)];rfl
theorem qz6{a b:Int}(ha:InB a)(hb:InB b):qn (Op.intBits .or .i64 a b)=some (.int .i64 (bvG .or a b)):=by
 have:qn (Op.intBits .or .i64 a b)=some (.int .i64 (qBZ .i64 (BitVec.ofInt 64 a ||| BitVec.ofInt 64 b).toNat)):=rfl;rw[this,qcc,qaL ha,qaL hb,←BitVec.signExtend_or,BitVec.toInt_signExtend_of_le (by omega)];rfl
theorem qym{a b:Int}(ha:InB a)(hb:InB b):qn (Op.intBits .xor .i64 a b)=some (.int .i64 (bvG .xor a b)):=by
 have:qn (Op.intBits .xor .i64 a b)=some (.int .i64 (qBZ .i64 (BitVec.ofInt 64 a ^^^ BitVec.ofInt 64 b).toNat)):=rfl;rw[this,qcc,qaL ha,qaL hb,←BitVec.signExtend_xor,BitVec.toInt_signExtend_of_le (by omega)];rfl
def qaE(op:List UInt8)(a b:Int):Option Tm:=
 if op=[43]then qS (a+b)
 else if op=[45]then qS (a - b)
 else if op=[42]then qS (a*b)
 else if op=[98,97,110,100]then qS (bvG .and a b)
 else if op=[98,111,114]then qS (bvG .or a b)
 else if op=[98,120,111,114]then qS (bvG .xor a b)
 else if b=0 then none
 else if op=[100,105,118]then qS (a.tdiv b)
 else qS (a.tmod b)
theorem beqS(a b:List UInt8):(a==b)=decide (a=b):=by by_cases h:a=b<;>simp[h]
theorem yN{a b:Int}(h:b≠0):qn (Op.intDiv .quo .i64 a b)=some (.int .i64 (qBZ .i64 (a.tdiv b))):=by
 unfold Op.intDiv;rw[qCN h];rfl
theorem qsD{a b:Int}(h:b≠0):qn (Op.intDiv .rem .i64 a b)=some (.int .i64 (a.tmod b)):=by
 unfold Op.intDiv;rw[qCN h];rfl
theorem qvP{a b:Int}(_h:b≠0):(a.tdiv b).natAbs<=a.natAbs:=by
 rw[Int.natAbs_tdiv];exact Nat.div_le_self _ _
structure Env where
 obj:Tm
 binds:List (Int×Tm)
 self:Int
def vH(l:List (Int×Tm)):List (List AV):=l.map λp=>.int .i64 p.1::p.2.cells
theorem xV(l:List (Int×Tm)):(vH l).length=l.length:=by simp[vH]
theorem qe9(l:List (Int×Tm))(i:Nat):(vH l)[i]? =(l[i]?).map λp=>.int .i64 p.1::p.2.cells:=by simp[vH]
abbrev mR(e:Env)(b:Bool):List (List AV):=[[.int .i64 e.obj.kind,.int .i64 e.obj.num,.str e.obj.str,.sl (qa e.obj.subs),.sl (vH e.binds),.int .i64 e.self,.bool b]]
def Res(e:Env)(o:Option Tm)(r:AV×List (List AV)):Prop:=
 match o with
 |some t=>r=(t.av,mR e false)
 |none=>r.2=mR e true∧∃t:Tm,r.1=t.av
def tru:List UInt8:=[116,114,117,101]
def fal:List UInt8:=[102,97,108,115,101]
def vE(b:Bool):Tm:=symT (if b then tru else fal)
def xc(t:Tm):Option Bool:=if t.kind=2∧t.str=tru then some true else if t.kind=2∧t.str=fal then some false else none
def twoG(op:List UInt8)(a b:Tm):Option Tm:=
 if op=[61,61]then some (vE (decide (cmpT a b=0)))
 else if op=[61,58,61]then some (vE (decide (cmpT a b=0)))
 else if op=[47,61]then some (vE (!decide (cmpT a b=0)))
 else if op=[61,47,61]then some (vE (!decide (cmpT a b=0)))
 else if op=[60]then some (vE (decide (cmpT a b<0)))
 else if op=[61,60]then some (vE (decide (cmpT a b<=0)))
 else if op=[62]then some (vE (decide (cmpT a b>0)))
 else if op=[62,61]then some (vE (decide (cmpT a b≥0)))
 else if op=[97,110,100]∨op=[97,110,100,97,108,115,111]then(xc a).bind λx=>(xc b).map λy=>vE (x&&y)
 else if op=[111,114]∨op=[111,114,101,108,115,101]then(xc a).bind λx=>(xc b).map λy=>vE (x||y)
 else if op=[120,111,114]then(xc a).bind λx=>(xc b).map λy=>vE (x != y)
 else if op=[101,108,101,109,101,110,116]then(if a.kind=1∧1<=a.num∧b.kind=7∧a.num<=b.subs.length then b.subs[(a.num - 1).toNat]? else none)
 else if a.kind=1∧b.kind=1 then qaE op a.num b.num else none
def qgr:List (List UInt8×List Int):=[
 ([115,101,108,102],[0]),
 ([105,115,95,97,116,111,109],[1]),
 ([105,115,95,105,110,116,101,103,101,114],[1]),
 ([105,115,95,108,105,115,116],[1]),
 ([105,115,95,116,117,112,108,101],[1]),
 ([105,115,95,112,105,100],[1]),
 ([105,115,95,102,117,110,99,116,105,111,110],[1]),
 ([105,115,95,114,101,102,101,114,101,110,99,101],[1]),
 ([110,111,116],[1]),
 ([98,110,111,116],[1]),
 ([97,98,115],[1]),
 ([116,117,112,108,101,95,115,105,122,101],[1]),
 ([115,105,122,101],[1]),
 ([104,100],[1]),
 ([116,108],[1]),
 ([108,101,110,103,116,104],[1]),
 ([43],[1,2]),
 ([45],[1,2]),
 ([61,61],[2]),
 ([61,58,61],[2]),
 ([47,61],[2]),
 ([61,47,61],[2]),
 ([60],[2]),
 ([61,60],[2]),
 ([62],[2]),
 ([62,61],[2]),
 ([97,110,100],[2]),
 ([111,114],[2]),
 ([120,111,114],[2]),
 ([97,110,100,97,108,115,111],[2]),
 ([111,114,101,108,115,101],[2]),
 ([42],[2]),
 ([100,105,118],[2]),
 ([114,101,109],[2]),
 ([98,97,110,100],[2]),
 ([98,111,114],[2]),
 ([98,120,111,114],[2]),
 ([101,108,101,109,101,110,116],[2])]
def qab{β:Type}(op:List UInt8)(d:β):List (List UInt8×β)->β
 |[]=>d
 |p::l=>bif op==p.1 then p.2 else qab op d l
theorem qmG{β γ:Type}(g:β->γ)(op:List UInt8)(d:β):∀l:List (List UInt8×β),qab op (g d) (l.map λp=>(p.1,g p.2))=g (qab op d l)
 |[]=>rfl
 |p::l=>by
  rw[List.map_cons,qab,qab,qmG g op d l];cases op==p.1<;>rfl
def opsG(op:List UInt8):List Int:=qab op [] qgr
def q6(l:List Int):List (List AV):=l.map λn=>[.int .i64 n]
theorem yM(l:List Int):(q6 l).length=l.length:=by simp[q6]
theorem quH(l:List Int)(i:Nat):(q6 l)[i]? =(l[i]?).map λn=>[AV.int .i64 n]:=by simp[q6]
def qeH(n:Int):Bool:=decide (1<=n)&&decide (n<=1073741824)
theorem qx9(n:Int):(numT n).Ok:=by simp[numT,Tm.Ok,OkL]
theorem qmk{n:Int}{t:Tm}(h:qS n=some t):t.Ok∧t=numT n:=by
 unfold qS at h;split at h
 ·cases h;exact⟨qx9 n,rfl⟩
 ·cases h
theorem qqa{op:List UInt8}{a b:Int}{t:Tm}(h:qaE op a b=some t):t.Ok∧∃n,t=numT n:=by
 unfold qaE at h
 repeat' split at h
 all_goals first|(cases h;done)|exact⟨(qmk h).1,_,(qmk h).2⟩
theorem Tm.Ok.subs{t:Tm}(h:t.Ok){x:Tm}(hx:x∈t.subs):x.Ok:=by
 obtain⟨k,n,s,l⟩:=t;exact h.sub hx
def ze(b:UInt8):Option Int:=if b.toNat<48 then none else if b.toNat>57 then none else some ((b.toNat:Int) - 48)
def varG:List UInt8->Option Int
 |[a,b]=>if a.toNat=36 then ze b else none
 |[a,b,c]=>if a.toNat=36∧b.toNat≠48 then(ze b).bind λx=>(ze c).map λy=>x*10+y else none
 |_=>none
theorem qdr{b:UInt8}{x:Int}(h:ze b=some x):0<=x∧x<=9:=by
 unfold ze at h;split at h
 ·cases h
 ·split at h
  ·cases h
  ·cases h;omega
theorem qxy(a b:UInt8):varG [a,b]=if a.toNat=36 then ze b else none:=rfl
theorem qrF(a b c:UInt8):varG [a,b,c]=if a.toNat=36∧b.toNat≠48 then(ze b).bind λx=>(ze c).map λy=>x*10+y else none:=rfl
theorem qlj{s:List UInt8}{x:Int}(h:varG s=some x):0<=x∧x<=99:=by
 unfold varG at h;split at h
 ·split at h
  ·have:=qdr h;omega
  ·cases h
 ·split at h
  ·obtain⟨a,h1,h2⟩:=qB6.1 h;obtain⟨b,h3,rfl⟩:=qCb.1 h2;have:=qdr h1;have:=qdr h3;omega
  ·cases h
 ·cases h
def varT(t:Tm):Option Int:=if t.kind=2∧t.chk=0 then varG t.str else none
theorem qas{n:Nat}(h:n<18446744073709551616):qBZ .u64 (n:Int)=n:=by
 simp[qBZ,IntKind.bits,IntKind.signed];omega
theorem qd4{n:Nat}(h:n<64):qn (Op.shift .shl .u64 1 .i64 (n:Int))=some (.int .u64 ((2 ^ n:Nat):Int)):=by
 have hp:2 ^ n<18446744073709551616:=by
  have:2 ^ n<2 ^ 64:=Nat.pow_lt_pow_right (by omega) h
  simpa using this
 have:qn (Op.shift .shl .u64 1 .i64 (n:Int))=some (.int .u64 (qBZ .u64 (1*2 ^ (min (n:Int).toNat 64)))):=by
  unfold Op.shift;rw[qCN (by omega)];rfl
 rw[this,qCi,Nat.min_eq_left (by omega),Int.one_mul];have e:((2:Int) ^ n)=((2 ^ n:Nat):Int):=by simp
 rw[e,qas hp]
theorem qhB{a b:Nat}(ha:a<18446744073709551616)(hb:b<18446744073709551616):qn (Op.intBits .or .u64 (a:Int) (b:Int))=some (.int .u64 ((a ||| b:Nat):Int)):=by
 have:qn (Op.intBits .or .u64 (a:Int) (b:Int))=some (.int .u64 (qBZ .u64 (BitVec.ofInt 64 (a:Int) ||| BitVec.ofInt 64 (b:Int)).toNat)):=rfl;rw[this];have ea:(BitVec.ofInt 64 (a:Int)).toNat=a:=by simp[BitVec.toNat_ofInt];omega
 have eb:(BitVec.ofInt 64 (b:Int)).toNat=b:=by simp[BitVec.toNat_ofInt];omega
 have hlt:=(BitVec.ofInt 64 (a:Int) ||| BitVec.ofInt 64 (b:Int)).isLt;rw[qas (by simpa using hlt),BitVec.toNat_or,ea,eb]
theorem qqZ{a n:Nat}(ha:a<18446744073709551616)(hn:n<64):qn (Op.shift .shr .u64 (a:Int) .i64 (n:Int))=some (.int .u64 ((a / 2 ^ n:Nat):Int)):=by
 have:qn (Op.shift .shr .u64 (a:Int) .i64 (n:Int))=some (.int .u64 (Int.fdiv a (2 ^ (min (n:Int).toNat 64)))):=by
  unfold Op.shift;rw[qCN (by omega)];rfl
 rw[this,qCi,Nat.min_eq_left (by omega)];have e:((2:Int) ^ n)=((2 ^ n:Nat):Int):=by simp
 rw[e,Int.fdiv_eq_ediv_of_nonneg _ (Int.natCast_nonneg _)];rfl
theorem qrn{a:Nat}(ha:a<18446744073709551616):qn (Op.intBits .and .u64 (a:Int) 1)=some (.int .u64 ((a % 2:Nat):Int)):=by
 have:qn (Op.intBits .and .u64 (a:Int) 1)=some (.int .u64 (qBZ .u64 (BitVec.ofInt 64 (a:Int) &&& BitVec.ofInt 64 1).toNat)):=rfl;rw[this];have ea:(BitVec.ofInt 64 (a:Int)).toNat=a:=by simp[BitVec.toNat_ofInt];omega
 have eb:(BitVec.ofInt 64 (1:Int)).toNat=1:=by decide
 rw[BitVec.toNat_and,ea,eb,Nat.and_one_is_mod,qas (by omega)]
def qap(p:Nat->Bool)(r:List AV):Prop:=∃(lo hi:Nat) (l:List AV),r= .int .u64 lo:: .int .u64 hi::l∧lo<18446744073709551616∧hi<18446744073709551616∧(∀n,n<64->lo.testBit n=p n)∧∀n,n<64->hi.testBit n=p (n+64)
theorem qtJ{r cs:List AV}{o k:Nat}(hc:cs.length=4)(h:o+4<=r.length)(hk:k<o∨o+4<=k):(qCu (qCu (r.take o) cs) (r.drop (o+4)))[k]? =r[k]? :=by
 show((r.take o++cs)++r.drop (o+4))[k]? =r[k]?;have hl:(r.take o).length=o:=by simp;omega
 rcases hk with hk|hk
 ·rw[qCf (by simp;omega),qCf (by omega),List.getElem?_take,qCM hk]
 ·rw[qCo (by simp;omega),List.getElem?_drop]
  congr 1
  simp[hc];omega
theorem qtI{r cs:List AV}{o:Nat}(hc:cs.length=4)(h:o+4<=r.length):(qCu (qCu (r.take o) cs) (r.drop (o+4))).length=r.length:=by
 show((r.take o++cs)++r.drop (o+4)).length=r.length;simp[hc];omega
theorem qrM{r cs:List AV}{o:Nat}(hc:cs.length=4)(h:o+4<=r.length):((qCu (qCu (r.take o) cs) (r.drop (o+4))).drop o).take 4=cs:=by
 show(((r.take o++cs)++r.drop (o+4)).drop o).take 4=cs;have hl:(r.take o).length=o:=by simp;omega
 rw[List.append_assoc,List.drop_append_of_le_length (by omega),List.drop_of_length_le (by omega),List.nil_append,List.take_append_of_le_length (by omega),qCd (by omega)]
theorem qpR{r cs:List AV}{o o':Nat}(hc:cs.length=4)(h:o+4<=r.length)(hd:o'+4<=o∨o+4<=o'):((qCu (qCu (r.take o) cs) (r.drop (o+4))).drop o').take 4=(r.drop o').take 4:=by
 apply List.ext_getElem?;intro j
 by_cases hj:j<4
 ·rw[List.getElem?_take,List.getElem?_take,qCM hj,qCM hj,List.getElem?_drop,List.getElem?_drop,qtJ hc h (by omega)]
 ·rw[List.getElem?_take,List.getElem?_take,qCN hj,qCN hj]
def mayB:Int->List (Int×Tm)->Bool
 |_,[]=>true
 |last,p::l=>decide (last<p.1)&&(decide (p.1<=99)&&(decide (p.2.chk=0)&&mayB p.1 l))
def q7(n:Int):List (Int×Tm)->Option Tm
 |[]=>none
 |p::l=>if p.1=n then some p.2 else q7 n l
structure BRow (m:List (Int×Tm)) (r:List AV):Prop where
 len:r.length=402
 set:qap (λi=>(q7 i m).isSome) r
 cells:∀i:Nat,i<100->∀t,q7 i m=some t->(r.drop (2+i*4)).take 4=t.cells
 free:qw 0 r=true
theorem qeQ(n:Int)(p:Int×Tm):∀m:List (Int×Tm),q7 n (m++[p])=match q7 n m with|some t=>some t|none=>if p.1=n then some p.2 else none
 |[]=>by simp[q7]
 |q::m=>by
  rw[List.cons_append,q7,q7]
  by_cases h:q.1=n
  ·rw[qCM h,qCM h]
  ·rw[qCN h,qCN h];exact qeQ n p m
theorem yl{n:Int}{t:Tm}:∀{m:List (Int×Tm)},q7 n m=some t->(n,t)∈m
 |[],h=>by cases h
 |q::m,h=>by
  rw[q7]at h
  by_cases hq:q.1=n
  ·rw[qCM hq]at h;cases h;subst hq;exact List.mem_cons_self
  ·rw[qCN hq]at h;exact List.mem_cons_of_mem _ (yl h)
theorem qeM:∀{l:List (Int×Tm)} {last:Int},mayB last l=true->∀p∈l,last<p.1∧p.1<=99
 |[],_,_,p,hp=>by cases hp
 |q::l,last,h,p,hp=>by
  simp only[mayB,qB2,decide_eq_true_eq]at h;rcases qCB.1 hp with rfl|hp
  ·exact⟨h.1,h.2.1⟩
  ·have:=qeM h.2.2.2 p hp;omega
theorem BRow.add{m:List (Int×Tm)}{r r':List AV}{n:Nat}{t:Tm}(h:BRow m r)(hn:n<100)(hnew:q7 n m=none)(h1:qap (λi=>(λi:Nat=>(q7 i m).isSome) i||decide (i=n)) r')(h2:r'.drop 2=r.drop 2)(h3:r'.length=r.length)(h4:qw 0 r=true->qw 0 r'=true):
  BRow (m++[((n:Int),t)]) (qCu (qCu (r'.take (2+n*4)) t.cells) (r'.drop (2+n*4+4))):=by
 have hl:r'.length=402:=by rw[h3,h.len]
 have hc:t.cells.length=4:=qj t;have ho:2+n*4+4<=r'.length:=by omega
 have hd:∀j,(r'.drop (2+j))=r.drop (2+j):=by
  intro j;rw[←List.drop_drop,←List.drop_drop,h2]
 refine⟨by rw[qtI hc ho,hl],?_,λi hi t' ht'=>?_,?_⟩
 ·obtain⟨lo,hi,l,rfl,a1,a2,a3,a4⟩:=h1;obtain⟨o,ho'⟩:∃o,2+n*4=o+2:=⟨n*4,by omega⟩;have lk:∀i:Nat,(q7 i (m++[((n:Int),t)])).isSome=((q7 i m).isSome||decide (i=n)):=by
   intro i;rw[qeQ];cases hx:q7 (i:Int) m with
   |some x=>rfl
   |none=>
    by_cases hi:i=n
    ·subst hi;simp
    ·have:¬((n:Int)=(i:Int)):=by omega
     simp[this,hi]
  refine⟨lo,hi,(l.take o++t.cells)++l.drop (o+4),?_,a1,a2,λi hi=>?_,λi hi=>?_⟩
  ·rw[ho'];rfl
  ·exact(a3 i hi).trans (lk i).symm
  ·exact(a4 i hi).trans (lk (i+64)).symm
 ·rw[qeQ]at ht'
  by_cases hin:i=n
  ·subst hin;rw[hnew]at ht';simp at ht';subst ht';exact qrM hc ho
  ·cases hx:q7 (i:Int) m with
   |none=>
    rw[hx]at ht';have:¬((n:Int)=(i:Int)):=by omega
    simp[this]at ht'
   |some x=>
    rw[hx]at ht';cases ht';rw[qpR hc ho (by omega),hd];exact h.cells i hi _ hx
 ·show qw 0 ((r'.take (2+n*4)++t.cells)++r'.drop (2+n*4+4))=true;have hf:=h4 h.free;exact qbD (qbD (qgk hf) (qkX t)) (qgl hf)
def qdp(n:Int)(l:List (Int×Tm)):Option Tm:=if mayB (-1) l then q7 n l else none
mutual
/-- is a term an expression over some variables? -/
def isG (V : List Int) : Tm → Bool
  | .mk k n s l =>
    if k = 2 then (match varT (.mk k n s l) with | none => true | some x => decide (x ∈ V))
    else if k = 9 then allG V l
    else if k = 7 then
      (match l with
       | [] => false
       | (.mk k1 _ s1 l1) :: rest =>
         if k1 = 7 then decide (rest.length = 0) && allG V l1
         else if k1 = 2 then (if s1 = [99, 111, 110, 115, 116] then decide (rest.length = 1) else decide ((rest.length : Int) ∈ opsG s1) && allG V rest)
         else false)
    else true
def allG (V : List Int) : List Tm → Bool
  | [] => true
  | t :: l => isG V t && allG V l
end
theorem qiX{V:List Int}{t:Tm}(h:t.kind=2):isG V t=(match varT t with|none=>true|some x=>decide (x∈V)):=by
 obtain⟨k,n,s,l⟩:=t;simp only[Tm.kind_mk]at h;rw[isG.eq_def];simp only[];rw[qCM h]
theorem qoQ{V:List Int}{t:Tm}(h:t.kind=9):isG V t=allG V t.subs:=by
 obtain⟨k,n,s,l⟩:=t;simp only[Tm.kind_mk]at h;subst h;rw[isG.eq_def];simp only[];rw[qCN (by omega),qCM trivial];rfl
theorem qlK{V:List Int}{t:Tm}(h:t.kind=7)(hl:t.subs=[]):isG V t=false:=by
 obtain⟨k,n,s,l⟩:=t;simp only[Tm.kind_mk,Tm.subs_mk]at h hl;subst h hl;rw[isG.eq_def];simp only[];rw[qCN (by omega),qCN (by omega),qCM trivial]
theorem qlJ{V:List Int}{t f:Tm}{r:List Tm}(h:t.kind=7)(hl:t.subs=f::r):isG V t =
  if f.kind=7 then decide (r.length=0)&&allG V f.subs
  else if f.kind=2 then(if f.str=[99,111,110,115,116]then decide (r.length=1)else decide ((r.length:Int)∈opsG f.str)&&allG V r)else false:=by
 obtain⟨k,n,s,l⟩:=t;obtain⟨k1,n1,s1,l1⟩:=f;simp only[Tm.kind_mk,Tm.subs_mk]at h hl;subst h hl;rw[isG.eq_def];simp only[];rw[qCN (by omega),qCN (by omega),qCM trivial];rfl
theorem quG{V:List Int}{t:Tm}(h2:t.kind≠2)(h9:t.kind≠9)(h7:t.kind≠7):isG V t=true:=by
 obtain⟨k,n,s,l⟩:=t;simp only[Tm.kind_mk]at h2 h9 h7;rw[isG.eq_def];simp only[];rw[qCN h2,qCN h9,qCN h7]
theorem qk6{V:List Int}:∀{l:List Tm},allG V l=false↔∃x∈l,isG V x=false
 |[]=>by simp[allG]
 |t::l=>by
  rw[allG,Bool.and_eq_false_iff,qk6 (l:=l)];simp
def xY(V:List Int)(t:Tm):Int:=if t.chk=0 then(if isG V t then 0 else 10)else 2
theorem yT{t:Tm}:t.chk=0↔t.parts=true∧t.words<=65536:=by
 unfold Tm.chk chkS;simp only[vJ,q9,Bool.and_true,qCG,Nat.add_zero];cases h:t.parts with
 |false=>simp
 |true=>
  simp
theorem qvM(l:List Tm)(h:∀x∈l,x.parts=true->x.w<=65*x.words):vJ l=true->wL l<=65*q9 l:=by
 induction l with
 |nil=>intro _;simp
 |cons x l ih=>
  intro hp;rw[vJ,qB2]at hp;have h1:=h x (by simp) hp.1;have h2:=ih (λy hy=>h y (by simp[hy])) hp.2;rw[qY,q9];omega
theorem qmt{k n:Int}{s:List UInt8}{m:Nat}(h:yq k n s m=true):s.length<=64∧m<=64:=by
 unfold yq at h
 repeat' split at h
 all_goals simp at h
 all_goals first|(obtain⟨_,_,h3,h4⟩:=h;subst h3;simp;omega)|(obtain⟨_,h3,h4⟩:=h;subst h3;simp;omega)|omega
theorem qxR(t:Tm):t.parts=true->t.w<=65*t.words:=by
 induction t using Tm.ind with
 |_ k n s l ih=>
  intro hp;rw[Tm.parts,qB2]at hp;have h1:=qmt hp.1;have h2:=qvM l ih hp.2;have h3:=(Tm.mk k n s l).own_le;rw[Tm.w_mk,Tm.words];omega
theorem xo{t:Tm}(h:t.chk=0):t.w<=4259840:=by
 obtain⟨h1,h2⟩:=yT.1 h;have:=qxR t h1;omega
theorem qcO{t:Tm}(h:t.chk=0):t.subs.length<=64:=by
 obtain⟨h1,_⟩:=yT.1 h;rw[Tm.parts_eq,qB2]at h1;exact(qmt h1.1).2
theorem qjv{x:Tm}{l:List Tm}(h:x∈l):x.words<=q9 l:=by
 induction l with
 |nil=>cases h
 |cons y l ih=>
  rw[q9];rcases qCB.1 h with rfl|h
  ·omega
  ·have:=ih h;omega
theorem qj0{l:List Tm}(h:vJ l=true):∀x∈l,x.parts=true:=by
 induction l with
 |nil=>intro x hx;cases hx
 |cons y l ih=>
  intro x hx;rw[vJ,qB2]at h;rcases qCB.1 hx with rfl|hx
  ·exact h.1
  ·exact ih h.2 x hx
theorem vh{t x:Tm}(h:t.chk=0)(hx:x∈t.subs):x.chk=0:=by
 obtain⟨h1,h2⟩:=yT.1 h;rw[Tm.parts_eq,qB2]at h1;have:=qjv hx;rw[Tm.words_eq]at h2;exact yT.2 ⟨qj0 h1.2 x hx,by omega⟩
theorem zV{t:Tm}(h:t.chk=0)(hk:t.kind=9):∃a b,t.subs=[a,b]:=by
 obtain⟨h1,_⟩:=yT.1 h;rw[Tm.parts_eq,qB2]at h1;have h2:yq t.kind t.num t.str t.subs.length=true:=h1.1;rw[hk]at h2;simp[yq]at h2
 match hl:t.subs,h2.2.2 with
 |[a,b],_=>exact⟨a,b,rfl⟩
def yE(t:Tm):Option Tm:=if t.chk=0 then some t else none
theorem qcd{t v:Tm}(h:yE t=some v):v.chk=0∧v=t:=by
 unfold yE at h;split at h
 ·rename_i hc;cases h;exact⟨hc,rfl⟩
 ·cases h
def lenT:Nat->Tm->Option Nat
 |0,_=>none
 |n+1,t=>if t.kind=9 then(match t.subs with|[_,b]=>(lenT n b).map (·+1)|_=>none)else if t.kind=8 then some 0 else none
def lenG(t:Tm):Option Nat:=lenT t.w t
theorem qux:∀(n m:Nat) (t:Tm),t.w<=n->t.w<=m->lenT n t=lenT m t:=by
 intro n
 induction n with
 |zero=>intro m t h;have:=vU t;omega
 |succ n ih=>
  intro m t hn hm;obtain⟨m,rfl⟩:∃k,m=k+1:=⟨m - 1,by have:=vU t;omega⟩;rw[lenT,lenT]
  by_cases h9:t.kind=9
  ·rw[qCM h9,qCM h9];have hw:=t.w_eq;cases hs:t.subs with
   |nil=>rfl
   |cons a l=>
    cases l with
    |nil=>rfl
    |cons b l=>
     cases l with
     |nil=>
      rw[hs]at hw;simp only[qY,xg]at hw;simp only[];rw[ih m b (by omega) (by omega)]
     |cons c l=>rfl
  ·rw[qCN h9,qCN h9]
theorem quz{t a b:Tm}(hk:t.kind=9)(hs:t.subs=[a,b]):lenG t=(lenG b).map (·+1):=by
 have hw:=t.w_eq;rw[hs]at hw;simp only[qY,xg]at hw;unfold lenG;obtain⟨n,hn⟩:∃n,t.w=n+1:=⟨t.w - 1,by have:=vU t;omega⟩;rw[hn,lenT,qCM hk,hs];simp only[];rw[qux n b.w b (by omega) (qCa _)]
theorem qwx{t:Tm}(hk:t.kind=8):lenG t=some 0:=by
 unfold lenG;obtain⟨n,hn⟩:∃n,t.w=n+1:=⟨t.w - 1,by have:=vU t;omega⟩;rw[hn,lenT,qCN (by omega),qCM hk]
theorem quy{t:Tm}(h9:t.kind≠9)(h8:t.kind≠8):lenG t=none:=by
 unfold lenG;obtain⟨n,hn⟩:∃n,t.w=n+1:=⟨t.w - 1,by have:=vU t;omega⟩;rw[hn,lenT,qCN h9,qCN h8]
def oneG(op:List UInt8)(t:Tm):Option Tm:=
 if op=[105,115,95,97,116,111,109]then some (vE (decide (t.kind=2)))
 else if op=[105,115,95,105,110,116,101,103,101,114]then some (vE (decide (t.kind=1)))
 else if op=[105,115,95,108,105,115,116]then some (vE (decide (t.kind=9)||decide (t.kind=8)))
 else if op=[105,115,95,116,117,112,108,101]then some (vE (decide (t.kind=7)))
 else if op=[105,115,95,112,105,100]then some (vE (decide (t.kind=6)))
 else if op=[105,115,95,102,117,110,99,116,105,111,110]then some (vE (decide (t.kind=5)))
 else if op=[105,115,95,114,101,102,101,114,101,110,99,101]then some (vE (decide (t.kind=3)||decide (t.kind=4)))
 else if op=[110,111,116]then(xc t).map λb=>vE (!b)
 else if op=[98,110,111,116]then(if t.kind=1 then qS (-1 - t.num)else none)
 else if op=[43]then(if t.kind=1 then qS t.num else none)
 else if op=[45]then(if t.kind=1 then qS (-t.num)else none)
 else if op=[97,98,115]then(if t.kind=1 then qS (if t.num<0 then -t.num else t.num)else none)
 else if op=[116,117,112,108,101,95,115,105,122,101]then(if t.kind=7 then qS t.subs.length else none)
 else if op=[115,105,122,101]then(if t.kind=7 then qS t.subs.length else none)
 else if op=[108,101,110,103,116,104]then(lenG t).bind λn=>qS n
 else if t.kind=9 then(if op=[104,100]then t.subs[0]? else t.subs[1]?)
 else none
def qgY(op:List UInt8)(l:List Tm)(self:Int):Option Tm:=
 match l with
 |[a]=>oneG op a
 |[a,b]=>twoG op a b
 |_=>some (.mk 6 self [] [])
theorem qpI{n:Int}{v:Tm}(h:qS n=some v):v.chk=0:=by
 unfold qS at h;split at h
 ·rename_i hb;cases h;exact qwj hb
 ·cases h
theorem qrI(b:Bool):(vE b).chk=0:=by cases b<;>decide
def seqO:List (Option Tm)->Option (List Tm)
 |[]=>some []
 |o::l=>o.bind λx=>(seqO l).map (x::·)
def vS(l:List Tm):Tm:=l.foldr (λx e=>.mk 9 0 [] [x,e]) (.mk 8 0 [] [])
def qdk(an:Bool):List (Option Tm)->Option Tm
 |a::b::_=>a.bind λx=>(xc x).bind λv=>if v=an then(b.bind λy=>(xc y).map λ_=>y)else some x
 |_=>none
mutual
/-- an expression's value -/
def valG (e : Env) : Tm → Option Tm
  | .mk k n s l =>
    if k = 2 then
      (match varT (.mk k n s l) with
       | some x => some ((q7 x e.binds).getD xb)
       | none => if s = [36, 95] then some e.obj else if s = [36, 36] then yE (vS (e.binds.map (·.2))) else some (.mk k n s l))
    else if k = 9 then (seqO (xq e l)).bind fun ts => yE (.mk 9 0 [] ts)
    else if k = 7 then
      (match l with
       | [] => none
       | (.mk k1 _ s1 l1) :: rest =>
         if k1 = 7 then (seqO (xq e l1)).bind fun ts => yE (.mk 7 0 [] ts)
         else if s1 = [99, 111, 110, 115, 116] then rest[0]?
         else if s1 = [97, 110, 100, 97, 108, 115, 111] then qdk true (xq e rest)
         else if s1 = [111, 114, 101, 108, 115, 101] then qdk false (xq e rest)
         else (seqO (xq e rest)).bind fun ts => (qgY s1 ts e.self).bind yE)
    else some (.mk k n s l)
def xq (e : Env) : List Tm → List (Option Tm)
  | [] => []
  | t :: l => valG e t :: xq e l
end
theorem qdh(e:Env):∀l:List Tm,xq e l=l.map (valG e)
 |[]=>rfl
 |t::l=>by rw[xq,qdh e l];rfl
theorem qmo{e:Env}{t:Tm}(h:t.kind=2):valG e t=match varT t with
  |some x=>some ((q7 x e.binds).getD xb)
  |none=>if t.str=[36,95]then some e.obj else if t.str=[36,36]then yE (vS (e.binds.map (·.2)))else some t:=by
 obtain⟨k,n,s,l⟩:=t;simp only[Tm.kind_mk]at h;rw[valG.eq_def];simp only[];rw[qCM h];rfl
theorem qmn{e:Env}{t:Tm}(h:t.kind=9):valG e t=(seqO (xq e t.subs)).bind λts=>yE (.mk 9 0 [] ts):=by
 obtain⟨k,n,s,l⟩:=t;simp only[Tm.kind_mk]at h;subst h;rw[valG.eq_def];simp only[];rw[qCN (by omega),qCM trivial];rfl
theorem qnV{e:Env}{t f:Tm}{r:List Tm}(h:t.kind=7)(hl:t.subs=f::r):valG e t =
  if f.kind=7 then(seqO (xq e f.subs)).bind λts=>yE (.mk 7 0 [] ts)
  else if f.str=[99,111,110,115,116]then r[0]?
  else if f.str=[97,110,100,97,108,115,111]then qdk true (xq e r)
  else if f.str=[111,114,101,108,115,101]then qdk false (xq e r)
  else(seqO (xq e r)).bind λts=>(qgY f.str ts e.self).bind yE:=by
 obtain⟨k,n,s,l⟩:=t;obtain⟨k1,n1,s1,l1⟩:=f;simp only[Tm.kind_mk,Tm.subs_mk]at h hl;subst h hl;rw[valG.eq_def];simp only[];rw[qCN (by omega),qCN (by omega),qCM trivial];rfl
theorem qjJ{e:Env}{t:Tm}(h2:t.kind≠2)(h9:t.kind≠9)(h7:t.kind≠7):valG e t=some t:=by
 obtain⟨k,n,s,l⟩:=t;simp only[Tm.kind_mk]at h2 h9 h7;rw[valG.eq_def];simp only[];rw[qCN h2,qCN h9,qCN h7]
structure EnvOk (e:Env):Prop where
 obj:e.obj.chk=0
 may:mayB (-1) e.binds=true
 self:qeH e.self=true
theorem qiR:∀{l:List (Int×Tm)} {last:Int},mayB last l=true->(l.length:Int)<=max 0 (99 - last)
 |[],_,_=>by simp;omega
 |p::l,last,h=>by
  simp only[mayB,qB2,decide_eq_true_eq]at h;have:=qiR h.2.2.2;simp only[qCE];omega
theorem qeN:∀{l:List (Int×Tm)} {last:Int},mayB last l=true->∀p∈l,p.2.chk=0
 |[],_,_,p,hp=>by cases hp
 |q::l,last,h,p,hp=>by
  simp only[mayB,qB2,decide_eq_true_eq]at h;rcases qCB.1 hp with rfl|hp
  ·exact h.2.2.1
  ·exact qeN h.2.2.2 p hp
theorem EnvOk.len{e:Env}(h:EnvOk e):e.binds.length<=100:=by have:=qiR h.may;omega
def zP(e:Env):List Int:=e.binds.map (·.1)
theorem qeP{n:Int}:∀{m:List (Int×Tm)},n∈m.map (·.1)->∃t,q7 n m=some t
 |[],h=>by cases h
 |q::m,h=>by
  rw[q7]
  by_cases hq:q.1=n
  ·exact⟨q.2,by rw[qCM hq]⟩
  ·rw[qCN hq];rw[List.map_cons,qCB]at h;exact qeP (h.resolve_left λh=>hq h.symm)
theorem qfc{V:List Int}{l:List Tm}(h:allG V l=true):∀x∈l,isG V x=true:=by
 intro x hx;cases hg:isG V x with
 |true=>rfl
 |false=>rw[qk6.2 ⟨x,hx,hg⟩]at h;cases h
theorem qiJ:∀{l:List (Option Tm)} {ts:List Tm},seqO l=some ts->l=ts.map some
 |[],ts,h=>by cases h;rfl
 |o::l,ts,h=>by
  rw[seqO]at h;obtain⟨x,hx,h⟩:=qB6.1 h;obtain⟨r,hr,rfl⟩:=qCb.1 h;rw[hx,qiJ hr];rfl
theorem qnW{e:Env}(he:EnvOk e):∀(n:Nat) (t:Tm),t.w<=n->t.chk=0->isG (zP e) t=true->∀v,valG e t=some v->v.chk=0:=by
 intro n
 induction n with
 |zero=>intro t h;have:=vU t;omega
 |succ n ih=>
  intro t hw hc hg v hv;have hwe:=t.w_eq
  by_cases h2:t.kind=2
  ·rw[qmo h2]at hv;rw[qiX h2]at hg;cases hx:varT t with
   |some x=>
    rw[hx]at hv hg;obtain⟨y,hy⟩:=qeP (of_decide_eq_true hg);simp only[hy,Option.getD_some]at hv;cases hv;exact qeN he.may _ (yl hy)
   |none=>
    rw[hx]at hv;simp only[]at hv;split at hv
    ·cases hv;exact he.obj
    ·split at hv
     ·exact(qcd hv).1
     ·cases hv;exact hc
  by_cases h9:t.kind=9
  ·rw[qmn h9]at hv;obtain⟨ts,_,h⟩:=qB6.1 hv;exact(qcd h).1
  by_cases h7:t.kind=7
  ·cases hl:t.subs with
   |nil=>rw[qlK h7 hl]at hg;cases hg
   |cons f r=>
    have hr:∀x∈r,x.w<=n∧x.chk=0:=λx hx=>by
     have h1:x∈t.subs:=by rw[hl];simp[hx]
     have h2:=y5 h1;exact⟨by omega,vh hc h1⟩
    rw[qnV h7 hl]at hv;rw[qlJ h7 hl]at hg
    by_cases f7:f.kind=7
    ·rw[qCM f7]at hv;obtain⟨ts,_,h⟩:=qB6.1 hv;exact(qcd h).1
    rw[qCN f7]at hv hg
    by_cases f2:f.kind=2
    ·rw[qCM f2]at hg
     by_cases hk:f.str=[99,111,110,115,116]
     ·rw[qCM hk]at hv;exact(hr v (qCc hv)).2
     rw[qCN hk]at hv hg;rw[qB2]at hg;have hlz:∀an,qdk an (xq e r)=some v->v.chk=0:=by
      intro an h;rw[qdh]at h
      match r,hr,hg.2 with
      |[],_,_=>cases h
      |[a],_,_=>cases h
      |a::b::q,hr,hg2=>
       simp only[List.map_cons,qdk]at h;obtain⟨x,hx,h⟩:=qB6.1 h;obtain⟨bb,_,h⟩:=qB6.1 h;have hga:=qfc hg2;split at h
       ·obtain⟨y,hy,h⟩:=qB6.1 h;obtain⟨_,_,rfl⟩:=qCb.1 h;exact ih b (hr b (by simp)).1 (hr b (by simp)).2 (hga b (by simp)) _ hy
       ·cases h;exact ih a (hr a (by simp)).1 (hr a (by simp)).2 (hga a (by simp)) _ hx
     split at hv
     ·exact hlz _ hv
     split at hv
     ·exact hlz _ hv
     obtain⟨ts,_,h⟩:=qB6.1 hv;obtain⟨w,_,h⟩:=qB6.1 h;exact(qcd h).1
    ·rw[qCN f2]at hg;cases hg
  ·rw[qjJ h2 h9 h7]at hv;cases hv;exact hc
theorem qod{e:Env}(he:EnvOk e){l ts:List Tm}(hl:∀x∈l,x.chk=0∧isG (zP e) x=true)(h:seqO (xq e l)=some ts):∀x∈ts,x.chk=0:=by
 have:=qiJ h;rw[qdh]at this;intro x hx;have hm:some x∈l.map (valG e):=by rw[this];exact List.mem_map_of_mem hx
 obtain⟨y,hy,hv⟩:=List.mem_map.1 hm;exact qnW he _ y (qCa _) (hl y hy).1 (hl y hy).2 x hv
theorem qoc{e:Env}{l ts:List Tm}(h:seqO (xq e l)=some ts):ts.length=l.length:=by
 have:=congrArg qB1 (qiJ h);rw[qdh]at this
 simpa using this.symm
def envG(e:Env):Bool:=mayB (-1) e.binds&&(decide (e.obj.chk=0)&&qeH e.self)
theorem qyi{e:Env}:envG e=true↔EnvOk e:=by
 unfold envG;constructor
 ·intro h;rw[qB2,qB2,decide_eq_true_eq]at h;exact⟨h.2.1,h.1,h.2.2⟩
 ·rintro⟨h1,h2,h3⟩;rw[h2,h3,qCK h1];rfl
def zq(e:Env)(t:Tm):Tm×Int:=if envG e&&decide (xY (zP e) t=0)then(match valG e t with|some v=>(v,0)|none=>(xb,10))else(xb,2)
def qrJ(e:Env)(t:Tm):Bool:=decide ((zq e t).2=0)&&(decide ((zq e t).1.kind=2)&&decide ((zq e t).1.str=tru))
def qkw(e:Env)(l:List Tm):Bool:=l.all (qrJ e)&&envG e
theorem qqJ{V:List Int}{t:Tm}(h:xY V t=0):t.chk=0∧isG V t=true:=by
 unfold xY at h;split at h
 ·rename_i h0;split at h
  ·rename_i h1;exact⟨h0,h1⟩
  ·cases h
 ·cases h
def qa7:Nat->Tm->List Tm×Bool
 |0,_=>([],false)
 |n+1,t=>if t.kind=9 then(match t.subs with|[a,b]=>(a::(qa7 n b).1,(qa7 n b).2)|_=>([],false))else([],decide (t.kind=8))
def qJ(t:Tm):List Tm×Bool:=qa7 t.w t
theorem qqu:∀(n m:Nat) (t:Tm),t.w<=n->t.w<=m->qa7 n t=qa7 m t:=by
 intro n
 induction n with
 |zero=>intro m t h;have:=vU t;omega
 |succ n ih=>
  intro m t hn hm;obtain⟨m,rfl⟩:∃k,m=k+1:=⟨m - 1,by have:=vU t;omega⟩;rw[qa7,qa7]
  by_cases h9:t.kind=9
  ·rw[qCM h9,qCM h9];have hw:=t.w_eq;cases hs:t.subs with
   |nil=>rfl
   |cons a l=>
    cases l with
    |nil=>rfl
    |cons b l=>
     cases l with
     |nil=>
      rw[hs]at hw;simp only[qY,xg]at hw;simp only[];rw[ih m b (by omega) (by omega)]
     |cons c l=>rfl
  ·rw[qCN h9,qCN h9]
theorem xT{t a b:Tm}(hk:t.kind=9)(hs:t.subs=[a,b]):qJ t=(a::(qJ b).1,(qJ b).2):=by
 have hw:=t.w_eq;rw[hs]at hw;simp only[qY,xg]at hw;unfold qJ;obtain⟨n,hn⟩:∃n,t.w=n+1:=⟨t.w - 1,by have:=vU t;omega⟩;rw[hn,qa7,qCM hk,hs];simp only[];rw[qqu n b.w b (by omega) (qCa _)]
theorem zo{t:Tm}(hk:t.kind≠9):qJ t=([],decide (t.kind=8)):=by
 unfold qJ;obtain⟨n,hn⟩:∃n,t.w=n+1:=⟨t.w - 1,by have:=vU t;omega⟩;rw[hn,qa7,qCN hk]
theorem qbH:∀l:List Tm,qJ (vS l)=(l,true)
 |[]=>zo (by decide)
 |x::l=>by
  rw[xT (a:=x) (b:=vS l) rfl rfl,qbH l]
theorem qwO{P:Tm->Prop}(h9:∀t a b,t.kind=9->t.subs=[a,b]->t.chk=0->P b->P t)(h0:∀t,t.kind≠9->t.chk=0->P t):∀(n:Nat) (t:Tm),t.w<=n->t.chk=0->P t:=by
 intro n
 induction n with
 |zero=>intro t h;have:=vU t;omega
 |succ n ih=>
  intro t hw hc
  by_cases hk:t.kind=9
  ·obtain⟨a,b,hs⟩:=zV hc hk;have hwe:=t.w_eq;rw[hs]at hwe;simp only[qY,xg]at hwe;exact h9 t a b hk hs hc (ih b (by omega) (vh hc (by rw[hs];simp)))
  ·exact h0 t hk hc
theorem qrk{P:Tm->Prop}(t:Tm)(hc:t.chk=0)(h9:∀t a b,t.kind=9->t.subs=[a,b]->t.chk=0->P b->P t)(h0:∀t,t.kind≠9->t.chk=0->P t):P t:=qwO h9 h0 t.w t (qCa _) hc
theorem qeZ{t:Tm}(hc:t.chk=0):∀x∈(qJ t).1,x.chk=0:=by
 refine qrk (P:=λt=>∀x∈(qJ t).1,x.chk=0) t hc (λt a b hk hs hc ih=>?_) (λt hk hc=>?_)
 ·rw[xT hk hs];intro x hx;rcases qCB.1 hx with rfl|hx
  ·exact vh hc (by rw[hs];simp)
  ·exact ih x hx
 ·rw[zo hk];intro x hx;cases hx
theorem qcZ{t:Tm}(hc:t.chk=0):wL (qJ t).1+(qJ t).1.length<=t.w:=by
 refine qrk (P:=λt=>wL (qJ t).1+(qJ t).1.length<=t.w) t hc (λt a b hk hs hc ih=>?_) (λt hk hc=>?_)
 ·rw[xT hk hs,t.w_eq,hs];simp only[qY,xg,qCE];omega
 ·rw[zo hk];simp
def anyT(p:Tm):Bool:=decide (p.kind=2)&&(decide (p.str=[95])&&decide (p.chk=0))
def qe2(p:Tm):Bool:=(varT p).isSome||(decide (p.kind=7)||anyT p)
mutual
/-- does a variable stand in a pattern? -/
def xy (n:Int):Tm->Bool
 | .mk k _ s l=>if k=7∨k=9 then qjH n l else decide (k=2)&&decide (varG s=some n)
def qjH (n:Int):List Tm->Bool
 |[]=>false
 |t::l=>xy n t||qjH n l
end
theorem qjG(n:Int):∀l:List Tm,qjH n l=l.any (xy n)
 |[]=>rfl
 |t::l=>by rw[qjH,qjG n l];rfl
theorem qbm(n:Int)(t:Tm):xy n t=if t.kind=7∨t.kind=9 then t.subs.any (xy n)else decide (t.kind=2)&&decide (varG t.str=some n):=by
 obtain⟨k,m,s,l⟩:=t;rw[xy,qjG];rfl
def z7(p:Tm):List Int:=if p.chk=0 then((qCJ 100).filter λn=>xy (n:Nat) p).map Int.ofNat else[]
structure Cl where
 head:Tm
 gs:List Tm
 bs:List Tm
 deriving Inhabited
def Cl.cells(c:Cl):List AV:=[.int .i64 c.head.kind,.int .i64 c.head.num,.str c.head.str,.sl (qa c.head.subs),.sl (qa c.gs),.sl (qa c.bs)]
def Cl.av(c:Cl):AV:=.agg c.cells
def vw(l:List Cl):List (List AV):=l.map Cl.cells
def qBG:Cl:=⟨xb,[],[]⟩
theorem zh(l:List Cl):(vw l).length=l.length:=by simp[vw]
theorem qgh(l:List Cl)(i:Nat):(vw l)[i]? =(l[i]?).map Cl.cells:=by simp[vw]
theorem qgi(a b:List Cl):vw (a++b)=vw a++vw b:=by simp[vw]
theorem qtW(l:List Cl)(i:Nat)(c:Cl):(vw l).set i c.cells=vw (l.set i c):=by simp[vw,List.map_set]
def ya(t:Tm):Option Cl:=
 if t.kind=7 then(match t.subs with
  |[h,g,b]=>if qe2 h&&((qJ g).2&&((qJ b).2&& !(qJ b).1.isEmpty))&&((qJ g).1.all (λe=>decide (xY (z7 h) e=0))&&(qJ b).1.all (λe=>decide (xY (z7 h) e=0)))then some ⟨h,(qJ g).1,(qJ b).1⟩else none
  |_=>none)
 else none
def seqC:List Tm->Option (List Cl)
 |[]=>some []
 |t::l=>(ya t).bind λc=>(seqC l).map (c::·)
def clsG(t:Tm):List Cl×Int:=
 if t.chk=0 then(match seqC (qJ t).1 with
  |some l=>if(qJ t).2&& !l.isEmpty then(l,0)else([],10)
  |none=>([],10))
 else([],2)
theorem qoe:∀{l:List Tm} {cs:List Cl},seqC l=some cs->cs.length=l.length
 |[],cs,h=>by cases h;rfl
 |t::l,cs,h=>by
  rw[seqC]at h;obtain⟨c,_,h⟩:=qB6.1 h;obtain⟨r,hr,rfl⟩:=qCb.1 h;simp[qoe hr]
instance tmEq:DecidableEq Tm:=λ_ _=>Classical.propDecidable _
mutual
/-- bindings with which a pattern matches a term -/
def ye:Tm->Tm->List (Int×Tm)->Option (List (Int×Tm))
 | .mk k n s l,t,m=>
  if k=2 then
   (if s=[95]then some m else match varG s with
    |none=>if Tm.mk k n s l=t then some m else none
    |some v=>match q7 v m with
     |some x=>if x=t then some m else none
     |none=>some (m++[(v,t)]))
  else if k=7∨k=9 then(if t.kind≠k∨t.subs.length≠l.length then none else xK l t.subs m)
  else if Tm.mk k n s l=t then some m else none
def xK:List Tm->List Tm->List (Int×Tm)->Option (List (Int×Tm))
 |p::l,t::l',m=>(ye p t m).bind λm'=>xK l l' m'
 |_,_,m=>some m
end
def z8(m:List (Int×Tm)):List (Int×Tm):=(qCJ 100).filterMap λn=>(q7 (n:Nat) m).map λt=>((n:Int),t)
def yJ(p t:Tm):Option (List (Int×Tm)):=if p.chk=0∧t.chk=0 then(ye p t []).map z8 else none
def qBX:Tm:=symT [69,88,73,84]
def qnA(e:Env)(out:Tm):List Tm->Tm
 |[]=>out
 |x::l=>if(zq e x).2=0 then qnA e (zq e x).1 l else qBX
def qhr(c:Cl)(o:Tm)(self:Int):Option Tm:=
 match yJ c.head o with
 |none=>none
 |some b=>if qkw ⟨o,b,self⟩ c.gs then some (qnA ⟨o,b,self⟩ xb c.bs)else none
def qba(o:Tm)(self:Int):List Cl->Int->Int×Tm
 |[],_=>(0,xb)
 |c::l,i=>match qhr c o self with|some x=>(i+1,x)|none=>qba o self l (i+1)
def qa9(t o:Tm)(self:Int):Int×Tm×Int:=
 if(clsG t).2≠0 then(0,xb,(clsG t).2)
 else if o.kind≠7∨o.chk≠0∨self<1∨self>1073741824 then(0,xb,2)
 else((qba o self (clsG t).1 0).1,(qba o self (clsG t).1 0).2,0)
def clT(c:Cl):Tm:=tupT [c.head,vS c.gs,vS c.bs]
def selT(l:List Cl):Tm:=vS (l.map clT)
def ofG(l:List Cl):Tm×Int:=if(clsG (selT l)).2=0 then(selT l,0)else(xb,(clsG (selT l)).2)
end Go.Av
end
noncomputable section
namespace Go.Proofs.YtgleolmhpmljhaaGreat
open Go.Av
def qAF:Den:=evC cfg (EV cfg) 139 none 0 (sub (qc Tryz.f139) [1,1,1,0,1,0,0])
def qBe:Ex×List AV×AH->Option AV:=kAft (Cfg.keepOut cfg 139 4) (kRun cfg (EV cfg) (kfN cfg 6) 139 none 0 (vL cfg (Cfg.lift cfg 139 0) Tryz.f139.results.toList) ([.block 0,.seq (sub (qc Tryz.f139) [1,1,1,1])]))
def qAh:List AV×AH->Option AV:=λp=>kOpt (LOOP 0 (some [1,4,5,9,10,11]) ([(4,1)]) qAF p) qBe
def qAD:Den:=evC cfg (EV cfg) 159 none 1 (sub (qc Tryz.f159) [1,1,0,1,0,0])
def qBc:Ex×List AV×AH->Option (AV×List (List AV)):=kAft (Cfg.keepOut cfg 159 (qh (sub (qc Tryz.f159) [1,1,0,1,0,0]))) (qO 0 (kSeq (fun(fr:List AV) (H:AH)=>qL (Cfg.cut cfg 159 (qh (sub (qc Tryz.f159) [1,1,1]))) fr H fun(fr:List AV) (H:AH)=>qG cfg (EV cfg) (kfN cfg 6) 159 none 1 (sub (qc Tryz.f159) [1,1,1]) fr H (yh cfg 7 (Cfg.lift cfg 159 0) (qCl (Func.results Tryz.f159)))) (yh cfg 7 (Cfg.lift cfg 159 0) (qCl (Func.results Tryz.f159)))))
def qAf:List AV×AH->Option (AV×List (List AV)):=fun(p:List AV×AH)=>kOpt (LOOP 1 (some [0,5,8,9,10]) [(5,4)] qAD p) qBc
def qAE:Den:=evC cfg (EV cfg) 158 none 1 (sub (qc Tryz.f158) [1,1,0,1,0,0])
def qBd:Ex×List AV×AH->Option (AV×List (List AV)):=kAft (Cfg.keepOut cfg 158 (qh (sub (qc Tryz.f158) [1,1,0,1,0,0]))) (qO 0 (kSeq (fun(fr:List AV) (H:AH)=>qL (Cfg.cut cfg 158 (qh (sub (qc Tryz.f158) [1,1,1]))) fr H fun(fr:List AV) (H:AH)=>qG cfg (EV cfg) (kfN cfg 6) 158 none 1 (sub (qc Tryz.f158) [1,1,1]) fr H (yh cfg 7 (Cfg.lift cfg 158 0) (qCl (Func.results Tryz.f158)))) (yh cfg 7 (Cfg.lift cfg 158 0) (qCl (Func.results Tryz.f158)))))
def qAg:List AV×AH->Option (AV×List (List AV)):=fun(p:List AV×AH)=>kOpt (LOOP 1 (some [2,3,10,11,12]) [(3,4)] qAE p) qBd
def qAG:Den:=evC cfg (EV cfg) 113 none 0 (sub (qc Tryz.f113) [1,1,0,1,0,0])
def qBf:Ex×List AV×AH->Option AV:=kAft (Cfg.keepOut cfg 113 3) (kRun cfg (EV cfg) (kfN cfg 6) 113 none 0 (xS cfg (Cfg.lift cfg 113 0) Tryz.f113.results.toList) ([.block 0,.seq (sub (qc Tryz.f113) [1,1,1])]))
def qAi:List AV×AH->Option AV:=λp=>kOpt (LOOP 0 (some [3,6,16,17,18]) ([]) qAG p) qBf
def qAC:Den:=evC cfg (EV cfg) 151 none 4 (sub (qc Tryz.f151) [1,0,0])
def qBb:Ex×List AV×AH->Option AV:=kAft (Cfg.keepOut cfg 151 (qh (sub (qc Tryz.f151) [1,0,0]))) (qO 0 (vT cfg (Cfg.lift cfg 151 0) (fun(v:AV) (H:AH)=>(fun(r:AV×AH)=>xG 0 3 (fx 16 [(3,AV.ptr 0 0 0),(4,AV.ptr 1 0 0)]) (qO 0 (kSeq (fun(fr:List AV) (H:AH)=>qL (Cfg.cut cfg 169 (qh (sub (qc Tryz.f169) [1,1]))) fr H fun(fr:List AV) (H:AH)=>qG cfg (EV cfg) (kfN cfg 6) 169 none 0 (sub (qc Tryz.f169) [1,1]) fr H (vL cfg (Cfg.lift cfg 169 0) (qCl (Func.results Tryz.f169)))) (vL cfg (Cfg.lift cfg 169 0) (qCl (Func.results Tryz.f169))))) (Prod.snd r)) (v,H)) (qCl (Func.results (Prod.snd (151,Tryz.f151))))))
def qAe:List AV×AH->Option AV:=fun(p:List AV×AH)=>kOpt (LOOP 4 (some [0,1,3]) [] qAC p) qBb
abbrev qjo(bd:Rz)(nv4:Nat)(v5 v11 c0_0 c0_1:Int)(c0_2:Bz)(c0_3 c0_4:Rz)(c0_5:Int)(h1:Rz):Option (AV):=qAh (((fx 48 [(1,.ptr 0 0 0),(4,.ms 1 0 nv4),(5,.int .i64 v5),(9,.sl bd),(10,.int .i64 (bd.length:Int)),(11,.int .i64 v11)]):List AV),([.rows false 6 [[.int .i64 c0_0,.int .i64 c0_1,.str c0_2,.sl c0_3,.sl c0_4,.int .i64 c0_5]],.rows true 1 h1]:AH))
abbrev qfz(L:Rz)(nv5:Nat)(v10:Int)(h0 h1:Rz):Option (AV×List (List AV)):=qAf (((fx 26 [(0,.ptr 0 0 0),(5,.ms 1 0 nv5),(8,.sl L),(9,.int .i64 (L.length:Int)),(10,.int .i64 v10)]):List AV),([.rows true 7 h0,.rows true 4 h1]:AH))
abbrev qjn(bd:Rz)(nv3:Nat)(v12:Int)(h0:Rz)(c1_0 c1_1:Int)(c1_2:Bz)(c1_3 h2:Rz):Option (AV×List (List AV)):=qAg (((fx 25 [(2,.ptr 1 0 0),(3,.ms 2 0 nv3),(10,.sl bd),(11,.int .i64 (bd.length:Int)),(12,.int .i64 v12)]):List AV),([.rows true 7 h0,.rows false 4 [[.int .i64 c1_0,.int .i64 c1_1,.str c1_2,.sl c1_3]],.rows true 4 h2]:AH))
abbrev qjp(L:Rz)(b:Bool)(v18 c0_0 c0_1:Int)(c0_2:Bz)(c0_3 c0_4:Rz)(c0_5:Int):Option (AV):=qAi (((fx 42 [(3,.ptr 0 0 0),(6,.bool b),(16,.sl L),(17,.int .i64 (L.length:Int)),(18,.int .i64 v18)]):List AV),([.rows false 6 [[.int .i64 c0_0,.int .i64 c0_1,.str c0_2,.sl c0_3,.sl c0_4,.int .i64 c0_5]]]:AH))
abbrev qjm(v3 c0_0 c0_1:Int)(c0_2:Bz)(c0_3:Rz)(c1_0 c1_1:Int)(c1_2:Bz)(c1_3 c2_0:Rz):Option (AV):=qAe (((fx 19 [(0,.yld 3),(1,.ptr 2 0 0),(3,.int .i64 v3)]):List AV),([.rows false 4 [[.int .i64 c0_0,.int .i64 c0_1,.str c0_2,.sl c0_3]],.rows false 4 [[.int .i64 c1_0,.int .i64 c1_1,.str c1_2,.sl c1_3]],.rows false 1 [[.sl c2_0]],rngB Tryz.f169 169 [1,0,1,0] (fx 16 [(3,.ptr 0 0 0)]) none LoopState.ready]:AH))
theorem qoU(ke ne:Int)(se:Bz)(le bd:Rz)(self:Int){P:AV->Prop}(h:Gets (qjo bd 0 (- 1) 0 ke ne se le bd self []) P):Gets (EVf (EV cfg) 139 [.agg [.int .i64 ke,.int .i64 ne,.str se,.sl le,.sl bd,.int .i64 self]]) P:=
  gE (λ_=>funF rfl rfl Tryz.func139 rfl) (by kernel_rfl) h
theorem qqw(kt nt:Int)(st:Bz)(lt V:Rz){P:AV->Prop}(h:Gets (bif kt==2 then kOpt (EVs (EV cfg) 141 [.agg [.int .i64 kt,.int .i64 nt,.str st,.sl lt]]) λv=>kTup v λcs=>qf cs λc cs=>kInt .i64 c λn=>qf cs λc cs=>qr c λb=>kNil cs (bif ! b then some (.bool true)else kOpt (EVs (EV cfg) 162 [.sl V,.int .i64 n]) λv=>qr v λb=>some (.bool b))else bif kt==9 then kOpt (EVs (EV cfg) 163 [.sl lt,.sl V]) λv=>qr v λb=>some (.bool b)else bif kt==7 then bif(lt.length:Int)==0 then some (.bool false)else bif qe 0 (lt.length:Int)then kOpt (qB0 lt 0) λrow=>bif qCh (qB1 row) 4 then bif qB4 4 (qB1 row)then kTmC (qB8 4 row) λn n_1 s rows=>(bif qd 1 (lt.length:Int)then bif xl 4 lt then bif n==7 then bif(↑ (qB1 (qB8 (qB1 lt - 1) (qCk 1 lt))):Int)==(0:Int)then kOpt (EVs (EV cfg) 163 [.sl rows,.sl V]) λv=>qr v λb=>some (.bool b)else some (.bool false)else bif n != 2 then some (.bool false)else bif s==[(99:UInt8),111,110,115,116]then some (.bool ((↑ (qB1 (qB8 (qB1 lt - 1) (qCk 1 lt))):Int)==1))else kOpt (EVf (EV cfg) 164 [.str s]) λv=>kSl v λrows=>kOpt (EVs (EV cfg) 162 [.sl rows,.int .i64 (↑ (qB1 (qB8 (qB1 lt - 1) (qCk 1 lt))):Int)]) λv=>qr v λb=>bif b then kOpt (EVs (EV cfg) 163 [.sl (qB8 (qB1 lt - 1) (qCk 1 lt)),.sl V]) λv=>qr v λb=>some (.bool b)else some (.bool false)else none else none)else none else none else none else some (.bool true)) P):Gets (EVs (EV cfg) 145 [.agg [.int .i64 kt,.int .i64 nt,.str st,.sl lt],.sl V]) P:=
  gE (λ_=>funS rfl rfl Tryz.func145 rfl) (by kernel_rfl) h
theorem qoV(L V:Rz){P:AV->Prop}(h:Gets (kOpt (EVs (EV cfg) 46 [.sl L,AV.fn (Fn.func 173) [] [AV.cptr [.sl V] 0]]) λv=>qr v λb=>some (.bool ! b)) P):Gets (EVs (EV cfg) 163 [.sl L,.sl V]) P:=
  gE (λ_=>funS rfl rfl Tryz.func163 rfl) (by kernel_rfl) h
theorem qlN(kt nt:Int)(st:Bz)(lt V:Rz){P:AV->Prop}(h:Gets (kOpt (EVs (EV cfg) 79 [.agg [.int .i64 kt,.int .i64 nt,.str st,.sl lt]]) λv=>kInt .i64 v λn=>bif n != 0 then some (.int .i64 2)else kOpt (EVs (EV cfg) 145 [.agg [.int .i64 kt,.int .i64 nt,.str st,.sl lt],.sl V]) λv=>qr v λb=>bif ! b then some (.int .i64 10)else some (.int .i64 0)) P):Gets (EVs (EV cfg) 119 [.agg [.int .i64 kt,.int .i64 nt,.str st,.sl lt],.sl V]) P:=
  gE (λ_=>funS rfl rfl Tryz.func119 rfl) (by kernel_rfl) h
abbrev za0(q:AV×List (List AV)):Option (AV×List (List AV)):=kTmV q.1 λn n_1 s rows=>(some (.agg [.int .i64 n,.int .i64 n_1,.str s,.sl rows],q.2))
theorem qj8(ke ne:Int)(se:Bz)(le bd:Rz)(self:Int)(bad:Bool)(kt nt:Int)(st:Bz)(lt:Rz){P:AV×List (List AV)->Prop}(h:Gets (bif bad then kOpt (EVd (EV cfg) 168 [.ptr 0 0 0] 7 [[.int .i64 ke,.int .i64 ne,.str se,.sl le,.sl bd,.int .i64 self,.bool bad]]) λq=>za0 q else kOpt (EVs (EV cfg) 79 [.agg [.int .i64 kt,.int .i64 nt,.str st,.sl lt]]) λv=>kInt .i64 v λn=>bif n != 0 then kOpt (EVd (EV cfg) 168 [.ptr 0 0 0] 7 [[.int .i64 ke,.int .i64 ne,.str se,.sl le,.sl bd,.int .i64 self,.bool bad]]) λq=>za0 q else some (.agg [.int .i64 kt,.int .i64 nt,.str st,.sl lt],[[.int .i64 ke,.int .i64 ne,.str se,.sl le,.sl bd,.int .i64 self,.bool bad]])) P):Gets (EVd (EV cfg) 157 [.ptr 0 0 0,.agg [.int .i64 kt,.int .i64 nt,.str st,.sl lt]] 7 [[AV.int .i64 ke,AV.int .i64 ne,AV.str se,AV.sl le,AV.sl bd,AV.int .i64 self,AV.bool bad]]) P:=
  gE (λ_=>funD rfl rfl Tryz.func157 rfl) (by kernel_rfl) h
theorem qqf(ke ne:Int)(se:Bz)(le bd:Rz)(self:Int)(bad:Bool)(L:Rz){P:AV×List (List AV)->Prop}(h:Gets (qfz L 0 0 [[.int .i64 ke,.int .i64 ne,.str se,.sl le,.sl bd,.int .i64 self,.bool bad]] []) P):Gets (EVd (EV cfg) 159 [.ptr 0 0 0,.sl L] 7 [[AV.int .i64 ke,AV.int .i64 ne,AV.str se,AV.sl le,AV.sl bd,AV.int .i64 self,AV.bool bad]]) P:=
  gE (λ_=>funD rfl rfl Tryz.func159 rfl) (by kernel_rfl) h
theorem qsh(ke ne:Int)(se:Bz)(le bd:Rz)(self:Int)(bad:Bool)(kt nt:Int)(st:Bz)(lt:Rz){P:AV×List (List AV)->Prop}(h:Gets (bif kt==2 then kOpt (EVs (EV cfg) 141 [.agg [.int .i64 kt,.int .i64 nt,.str st,.sl lt]]) λv=>kTup v λcs=>qf cs λc cs=>kInt .i64 c λn=>qf cs λc cs=>qr c λb=>kNil cs (bif b then kOpt (EVf (EV cfg) 156 [.sl bd,.int .i64 n]) λv=>kTup v λcs=>qf cs λc cs=>kAgg c λcs_1=>qf cs_1 λc cs_2=>kInt .i64 c λn=>qf cs_2 λc cs_3=>kInt .i64 c λn_1=>qf cs_3 λc cs_4=>kStr c λs=>qf cs_4 λc cs_5=>kSl c λrows=>kNil cs_5 (qf cs λc cs=>qr c λb=>kNil cs (some (.agg [.int .i64 n,.int .i64 n_1,.str s,.sl rows],[[.int .i64 ke,.int .i64 ne,.str se,.sl le,.sl bd,.int .i64 self,.bool bad]])))else bif st==[(36:UInt8),95]then some (.agg [.int .i64 ke,.int .i64 ne,.str se,.sl le],[[.int .i64 ke,.int .i64 ne,.str se,.sl le,.sl bd,.int .i64 self,.bool bad]])else bif st==[(36:UInt8),36]then kOpt (EVd (EV cfg) 158 [.ptr 0 0 0] 7 [[.int .i64 ke,.int .i64 ne,.str se,.sl le,.sl bd,.int .i64 self,.bool bad]]) λq=>kTmV q.1 λn n_1 s rows=>(kOpt (EVd (EV cfg) 157 [.ptr 0 0 0,.agg [.int .i64 n,.int .i64 n_1,.str s,.sl rows]] 7 q.2) λq=>kTmV q.1 λn n_2 s rows=>(some (.agg [.int .i64 n,.int .i64 n_2,.str s,.sl rows],q.2)))else some (.agg [.int .i64 kt,.int .i64 nt,.str st,.sl lt],[[.int .i64 ke,.int .i64 ne,.str se,.sl le,.sl bd,.int .i64 self,.bool bad]]))else bif kt==9 then kOpt (EVd (EV cfg) 159 [.ptr 0 0 0,.sl lt] 7 [[.int .i64 ke,.int .i64 ne,.str se,.sl le,.sl bd,.int .i64 self,.bool bad]]) λq=>kSl q.1 λrows=>kOpt (EVd (EV cfg) 157 [.ptr 0 0 0,.agg [.int .i64 9,.int .i64 0,.str [],.sl rows]] 7 q.2) λq=>za0 q else bif kt==7 then bif qe 0 (lt.length:Int)then kOpt (qB0 lt 0) λrow=>bif qCh (qB1 row) 4 then bif qB4 4 (qB1 row)then kTmC (qB8 4 row) λn n_1 s rows=>(bif n==7 then kOpt (EVd (EV cfg) 159 [.ptr 0 0 0,.sl rows] 7 [[.int .i64 ke,.int .i64 ne,.str se,.sl le,.sl bd,.int .i64 self,.bool bad]]) λq=>kSl q.1 λrows=>kOpt (EVd (EV cfg) 157 [.ptr 0 0 0,.agg [.int .i64 7,.int .i64 0,.str [],.sl rows]] 7 q.2) λq=>kTmV q.1 λn n_2 s rows=>(some (.agg [.int .i64 n,.int .i64 n_2,.str s,.sl rows],q.2))else bif s==[(99:UInt8),111,110,115,116]then bif qe 1 (lt.length:Int)then kOpt (qB0 lt 1) λrow=>bif qCh (qB1 row) 4 then bif qB4 4 (qB1 row)then kTmC (qB8 4 row) λn n_2 s rows=>(some (.agg [.int .i64 n,.int .i64 n_2,.str s,.sl rows],[[.int .i64 ke,.int .i64 ne,.str se,.sl le,.sl bd,.int .i64 self,.bool bad]]))else none else none else none else bif s==[(97:UInt8),110,100,97,108,115,111]then bif qe 1 (lt.length:Int)then kOpt (qB0 lt 1) λrow=>bif qCh (qB1 row) 4 then bif qB4 4 (qB1 row)then kTmC (qB8 4 row) λn n_2 s_1 rows=>(kOpt (EVd (EV cfg) 140 [.ptr 0 0 0,.agg [.int .i64 n,.int .i64 n_2,.str s_1,.sl rows]] 7 [[.int .i64 ke,.int .i64 ne,.str se,.sl le,.sl bd,.int .i64 self,.bool bad]]) λq=>kTmV q.1 λn n_3 s_2 rows=>(kOpt (qB0 q.2 0) λrow=>kOpt (qB0 row 6) λv=>qr v λb=>bif b then some (.agg [.int .i64 n,.int .i64 n_3,.str s_2,.sl rows],q.2)else kOpt (EVm (EV cfg) 160 [.ptr 0 0 0,.agg [.int .i64 n,.int .i64 n_3,.str s_2,.sl rows]] 7 q.2) λq=>xA q.1 λb=>bif ! b==(s==[(97:UInt8),110,100,97,108,115,111])then some (.agg [.int .i64 n,.int .i64 n_3,.str s_2,.sl rows],q.2)else kOpt (qB0 q.2 0) λrow=>kOpt (qB0 row 6) λv=>qr v λb=>bif b then some (.agg [.int .i64 n,.int .i64 n_3,.str s_2,.sl rows],q.2)else bif qe 2 (lt.length:Int)then kOpt (qB0 lt 2) λrow=>bif qCh (qB1 row) 4 then bif qB4 4 (qB1 row)then kTmC (qB8 4 row) λn n_4 s rows=>(kOpt (EVd (EV cfg) 140 [.ptr 0 0 0,AV.agg [.int .i64 n,.int .i64 n_4,.str s,.sl rows]] 7 q.2) λq=>kTmV q.1 λn n_5 s rows=>(kOpt (qB0 q.2 0) λrow=>kOpt (qB0 row 6) λv=>qr v λb=>bif ! b then kOpt (EVm (EV cfg) 160 [.ptr 0 0 0,AV.agg [.int .i64 n,.int .i64 n_5,.str s,.sl rows]] 7 q.2) λq=>xA q.1 λb=>some (AV.agg [.int .i64 n,.int .i64 n_5,.str s,.sl rows],q.2)else some (AV.agg [.int .i64 n,.int .i64 n_5,.str s,.sl rows],q.2)))else none else none else none))else none else none else none else bif s==[(111:UInt8),114,101,108,115,101]then bif qe 1 (lt.length:Int)then kOpt (qB0 lt 1) λrow=>bif qCh (qB1 row) 4 then bif qB4 4 (qB1 row)then kTmC (qB8 4 row) λn n_2 s_1 rows=>(kOpt (EVd (EV cfg) 140 [.ptr 0 0 0,.agg [.int .i64 n,.int .i64 n_2,.str s_1,.sl rows]] 7 [[.int .i64 ke,.int .i64 ne,.str se,.sl le,.sl bd,.int .i64 self,.bool bad]]) λq=>kTmV q.1 λn n_3 s_2 rows=>(kOpt (qB0 q.2 0) λrow=>kOpt (qB0 row 6) λv=>qr v λb=>bif b then some (.agg [.int .i64 n,.int .i64 n_3,.str s_2,.sl rows],q.2)else kOpt (EVm (EV cfg) 160 [.ptr 0 0 0,.agg [.int .i64 n,.int .i64 n_3,.str s_2,.sl rows]] 7 q.2) λq=>xA q.1 λb=>bif ! b==(s==[(97:UInt8),110,100,97,108,115,111])then some (.agg [.int .i64 n,.int .i64 n_3,.str s_2,.sl rows],q.2)else kOpt (qB0 q.2 0) λrow=>kOpt (qB0 row 6) λv=>qr v λb=>bif b then some (.agg [.int .i64 n,.int .i64 n_3,.str s_2,.sl rows],q.2)else bif qe 2 (lt.length:Int)then kOpt (qB0 lt 2) λrow=>bif qCh (qB1 row) 4 then bif qB4 4 (qB1 row)then kTmC (qB8 4 row) λn n_4 s rows=>(kOpt (EVd (EV cfg) 140 [.ptr 0 0 0,AV.agg [.int .i64 n,.int .i64 n_4,.str s,.sl rows]] 7 q.2) λq=>kTmV q.1 λn n_5 s rows=>(kOpt (qB0 q.2 0) λrow=>kOpt (qB0 row 6) λv=>qr v λb=>bif ! b then kOpt (EVm (EV cfg) 160 [.ptr 0 0 0,AV.agg [.int .i64 n,.int .i64 n_5,.str s,.sl rows]] 7 q.2) λq=>xA q.1 λb=>some (AV.agg [.int .i64 n,.int .i64 n_5,.str s,.sl rows],q.2)else some (AV.agg [.int .i64 n,.int .i64 n_5,.str s,.sl rows],q.2)))else none else none else none))else none else none else none else bif qd 1 (lt.length:Int)then bif xl 4 lt then kOpt (EVd (EV cfg) 159 [.ptr 0 0 0,.sl (qB8 (qB1 lt - 1) (qCk 1 lt))] 7 [[.int .i64 ke,.int .i64 ne,.str se,.sl le,.sl bd,.int .i64 self,.bool bad]]) λq=>kSl q.1 λrows=>kOpt (qB0 q.2 0) λrow=>kOpt (qB0 row 6) λv=>qr v λb=>bif b then some (.agg [.int .i64 0,.int .i64 0,.str [],.sl []],q.2)else kOpt (EVd (EV cfg) 161 [.ptr 0 0 0,.str s,.sl rows] 7 q.2) λq=>kTmV q.1 λn n_2 s rows=>(kOpt (EVd (EV cfg) 157 [.ptr 0 0 0,.agg [.int .i64 n,.int .i64 n_2,.str s,.sl rows]] 7 q.2) λq=>kTmV q.1 λn n_3 s rows=>(some (.agg [.int .i64 n,.int .i64 n_3,.str s,.sl rows],q.2)))else none else none)else none else none else none else some (.agg [.int .i64 kt,.int .i64 nt,.str st,.sl lt],[[.int .i64 ke,.int .i64 ne,.str se,.sl le,.sl bd,.int .i64 self,.bool bad]])) P):Gets (EVd (EV cfg) 140 [.ptr 0 0 0,.agg [.int .i64 kt,.int .i64 nt,.str st,.sl lt]] 7 [[AV.int .i64 ke,AV.int .i64 ne,AV.str se,AV.sl le,AV.sl bd,AV.int .i64 self,AV.bool bad]]) P:=
  gE (λ_=>funD rfl rfl Tryz.func140 rfl) (by kernel_rfl) h
theorem qsj(ke ne:Int)(se:Bz)(le bd:Rz)(self:Int)(bad:Bool){P:AV×List (List AV)->Prop}(h:Gets (qjn bd 0 0 [[.int .i64 ke,.int .i64 ne,.str se,.sl le,.sl bd,.int .i64 self,.bool bad]] 0 0 [] [] []) P):Gets (EVd (EV cfg) 158 [.ptr 0 0 0] 7 [[AV.int .i64 ke,AV.int .i64 ne,AV.str se,AV.sl le,AV.sl bd,AV.int .i64 self,AV.bool bad]]) P:=
  gE (λ_=>funD rfl rfl Tryz.func158 rfl) (by kernel_rfl) h
theorem quR(kt nt:Int)(st:Bz)(lt:Rz)(ke ne:Int)(se:Bz)(le bd:Rz)(self:Int){P:AV->Prop}(h:Gets (kOpt (EVf (EV cfg) 139 [.agg [.int .i64 ke,.int .i64 ne,.str se,.sl le,.sl bd,.int .i64 self]]) λv=>kTup v λcs=>qf cs λc cs=>kSl c λrows=>qf cs λc cs=>qr c λb=>kNil cs (bif ! b then some (AV.tup [.agg [.int .i64 0,.int .i64 (0:Int),.str [],.sl []],.int .i64 2])else kOpt (EVs (EV cfg) 119 [.agg [.int .i64 kt,.int .i64 nt,.str st,.sl lt],.sl rows]) λv=>kInt .i64 v λn=>bif n != 0 then some (AV.tup [.agg [.int .i64 0,.int .i64 0,.str [],.sl []],.int .i64 2])else kOpt (EVd (EV cfg) 140 [.ptr 0 0 0,.agg [.int .i64 kt,.int .i64 nt,.str st,.sl lt]] 7 [[.int .i64 ke,.int .i64 ne,.str se,.sl le,.sl bd,.int .i64 self,.bool false]]) λq=>kTmV q.1 λn n_1 s rows=>(kOpt (qB0 q.2 0) λrow=>kOpt (qB0 row 6) λv=>qr v λb=>bif b then some (AV.tup [.agg [.int .i64 0,.int .i64 0,.str [],.sl []],.int .i64 10])else kOpt (EVf (EV cfg) 51 [.agg [.int .i64 n,.int .i64 n_1,.str s,.sl rows]]) λv=>kTmV v λn n_2 s rows=>(some (AV.tup [.agg [.int .i64 n,.int .i64 n_2,.str s,.sl rows],.int .i64 0]))))) P):Gets (EVf (EV cfg) 114 [.agg [.int .i64 kt,.int .i64 nt,.str st,.sl lt],.agg [.int .i64 ke,.int .i64 ne,.str se,.sl le,.sl bd,.int .i64 self]]) P:=
  gE (λ_=>funF rfl rfl Tryz.func114 rfl) (by kernel_rfl) h
theorem qsP(L:Rz)(ke ne:Int)(se:Bz)(le bd:Rz)(self:Int){P:AV->Prop}(h:Gets (kOpt (EVf (EV cfg) 139 [.agg [.int .i64 ke,.int .i64 ne,.str se,.sl le,.sl bd,.int .i64 self]]) λv=>kTup v λcs=>qf cs λc cs=>kSl c λrows=>qf cs λc cs=>qr c λb=>kNil cs (qjp L b 0 ke ne se le bd self)) P):Gets (EVs (EV cfg) 113 [.sl L,.agg [.int .i64 ke,.int .i64 ne,.str se,.sl le,.sl bd,.int .i64 self]]) P:=
  gE (λ_=>funS rfl rfl Tryz.func113 rfl) (by kernel_rfl) h
theorem qov(L:Rz)(kt nt:Int)(st:Bz)(lt:Rz){P:AV->Prop}(h:Gets (qjm (qBZ .i64 ((L.length:Int) - 1)) kt nt st lt 0 0 [] [] L) P):Gets (EVf (EV cfg) 169 [.sl L,.agg [.int .i64 kt,.int .i64 nt,.str st,.sl lt]]) P:=
  gE (λ_=>funF rfl rfl Tryz.func169 rfl) (by kernel_rfl) h
theorem qhV(bd:Rz)(nv4:Nat)(v5 v11 c0_0 c0_1:Int)(c0_2:Bz)(c0_3 c0_4:Rz)(c0_5:Int)(h1:Rz){P:AV->Prop}(h:Gets (bif decide (v11<(bd.length:Int))then bif qd 0 v11&&qe v11 (bd.length:Int)then kOpt (qB0 bd (v11.toNat)) λrow=>bif qCh (qB1 row) 5 then bif qB4 5 (qB1 row)then qf (qB8 5 row) λc cs=>kInt .i64 c λn=>kTmC cs λn_1 n_2 s rows=>(bif decide (n<=v5)then some (AV.tup [.sl [],.bool false])else bif decide (n>99)then some (AV.tup [.sl [],.bool false])else kOpt (EVs (EV cfg) 79 [.agg [.int .i64 n_1,.int .i64 n_2,.str s,.sl rows]]) λv=>kInt .i64 v λn_3=>bif n_3 != 0 then some (AV.tup [.sl [],.bool false])else bif qB4 (0+nv4) (qB1 h1)&&qW (nv4+1) 8 then qjo bd (nv4+1) n (qBZ .i64 (v11+1)) c0_0 c0_1 c0_2 c0_3 c0_4 c0_5 (qCu (qB8 nv4 h1) [[.int .i64 n]])else none)else none else none else none else kOpt (EVs (EV cfg) 79 [.agg [.int .i64 c0_0,.int .i64 c0_1,.str c0_2,.sl c0_3]]) λv=>kInt .i64 v λn=>bif n==0 then kOpt (EVs (EV cfg) 155 [.int .i64 c0_5]) λv=>qr v λb=>bif qB4 (0+nv4) (qB1 h1)&&true then some (AV.tup [.sl (qB8 nv4 h1),.bool b])else none else bif qB4 (0+nv4) (qB1 h1)&&true then some (AV.tup [.sl (qB8 nv4 h1),.bool false])else none) P):Gets (qjo bd nv4 v5 v11 c0_0 c0_1 c0_2 c0_3 c0_4 c0_5 h1) P:=
  gE (λ_=>ql (cfg:=cfg) (f:=139) (rd:=none) (bs:=0)) (by kernel_rfl) h
theorem qdx(L:Rz)(nv5:Nat)(v10:Int)(h0 h1:Rz){P:AV×List (List AV)->Prop}(h:Gets (bif decide (v10<(L.length:Int))then bif qd 0 v10&&qe v10 (L.length:Int)then kOpt (qB0 L (v10.toNat)) λrow=>bif qCh (qB1 row) 4 then bif qB4 4 (qB1 row)then kTmC (qB8 4 row) λn n_1 s rows=>(kOpt (qB0 h0 0) λrow=>kOpt (qB0 row 6) λv=>qr v λb=>bif b then some (.sl [],h0)else kOpt (EVd (EV cfg) 140 [.ptr 0 0 0,.agg [.int .i64 n,.int .i64 n_1,.str s,.sl rows]] 7 h0) λq=>kTmV q.1 λn n_2 s rows=>(bif qB4 (0+nv5) (qB1 h1)&&qW (nv5+1) 56 then qfz L (nv5+1) (qBZ .i64 (v10+1)) q.2 (qCu (qB8 nv5 h1) [[.int .i64 n,.int .i64 n_2,.str s,.sl rows]])else none))else none else none else none else bif qB4 (0+nv5) (qB1 h1)&&true then some (.sl (qB8 nv5 h1),h0)else none) P):Gets (qfz L nv5 v10 h0 h1) P:=
  gE (λ_=>ql (cfg:=cfg) (f:=159) (rd:=none) (bs:=1)) (by kernel_rfl) h
theorem qhU(bd:Rz)(nv3:Nat)(v12:Int)(h0:Rz)(c1_0 c1_1:Int)(c1_2:Bz)(c1_3 h2:Rz){P:AV×List (List AV)->Prop}(h:Gets (bif decide (v12<(bd.length:Int))then bif qd 0 v12&&qe v12 (bd.length:Int)then kOpt (qB0 bd (v12.toNat)) λrow=>bif qCh (qB1 row) 5 then bif qB4 5 (qB1 row)then qf (qB8 5 row) λc cs=>kInt .i64 c λn=>kTmC cs λn n_1 s rows=>(bif qB4 (0+nv3) (qB1 h2)&&qW (nv3+1) 56 then qjn bd (nv3+1) (qBZ .i64 (v12+1)) h0 c1_0 c1_1 c1_2 c1_3 (qCu (qB8 nv3 h2) [[.int .i64 n,.int .i64 n_1,.str s,.sl rows]])else none)else none else none else none else bif qB4 (0+nv3) (qB1 h2)&&true then kOpt (EVf (EV cfg) 169 [.sl (qB8 nv3 h2),.agg [.int .i64 8,.int .i64 0,.str [],.sl []]]) λv=>kTmV v λn n_1 s rows=>(some (.agg [.int .i64 n,.int .i64 n_1,.str s,.sl rows],h0))else none) P):Gets (qjn bd nv3 v12 h0 c1_0 c1_1 c1_2 c1_3 h2) P:=
  gE (λ_=>ql (cfg:=cfg) (f:=158) (rd:=none) (bs:=1)) (by kernel_rfl) h
theorem qhW(L:Rz)(b:Bool)(v18 c0_0 c0_1:Int)(c0_2:Bz)(c0_3 c0_4:Rz)(c0_5:Int){P:AV->Prop}(h:Gets (bif decide (v18<(L.length:Int))then bif qd 0 v18&&qe v18 (L.length:Int)then kOpt (qB0 L (v18.toNat)) λrow=>bif qCh (qB1 row) 4 then bif qB4 4 (qB1 row)then kTmC (qB8 4 row) λn n_1 s rows=>(kOpt (EVf (EV cfg) 114 [.agg [.int .i64 n,.int .i64 n_1,.str s,.sl rows],.agg [.int .i64 c0_0,.int .i64 c0_1,.str c0_2,.sl c0_3,.sl c0_4,.int .i64 c0_5]]) λv=>kTup v λcs=>qf cs λc cs=>kAgg c λcs_1=>qf cs_1 λc cs_2=>kInt .i64 c λn=>qf cs_2 λc cs_3=>kInt .i64 c λn_2=>qf cs_3 λc cs_4=>kStr c λs=>qf cs_4 λc cs_5=>kSl c λrows=>kNil cs_5 (qf cs λc cs=>kInt .i64 c λn_3=>kNil cs (bif n_3 != 0 then some (.bool false)else bif n != 2 then some (.bool false)else bif ! s==[(116:UInt8),114,117,101]then some (.bool false)else qjp L b (qBZ .i64 (v18+1)) c0_0 c0_1 c0_2 c0_3 c0_4 c0_5)))else none else none else none else some (.bool b)) P):Gets (qjp L b v18 c0_0 c0_1 c0_2 c0_3 c0_4 c0_5) P:=
  gE (λ_=>ql (cfg:=cfg) (f:=113) (rd:=none) (bs:=0)) (by kernel_rfl) h
theorem qhT(v3 c0_0 c0_1:Int)(c0_2:Bz)(c0_3:Rz)(c1_0 c1_1:Int)(c1_2:Bz)(c1_3 c2_0:Rz){P:AV->Prop}(h:Gets (bif decide (v3≥0)then bif qd 0 v3&&qe v3 (c2_0.length:Int)then kOpt (qB0 c2_0 (v3.toNat)) λrow=>bif qCh (qB1 row) 4 then bif qB4 4 (qB1 row)then kTmC (qB8 4 row) λn n_1 s rows=>(qjm (qBZ .i64 (v3 - (1:Int))) 9 0 [] [[.int .i64 n,.int .i64 n_1,.str s,.sl rows],[.int .i64 c0_0,.int .i64 c0_1,.str c0_2,.sl c0_3]] c1_0 c1_1 c1_2 c1_3 c2_0)else none else none else none else some (.agg [.int .i64 c0_0,.int .i64 c0_1,.str c0_2,.sl c0_3])) P):Gets (qjm v3 c0_0 c0_1 c0_2 c0_3 c1_0 c1_1 c1_2 c1_3 c2_0) P:=
  gE (λ_=>ql (cfg:=cfg) (f:=151) (rd:=none) (bs:=4)) (by kernel_rfl) h
end Go.Proofs.YtgleolmhpmljhaaGreat
end
