/-
  Parts of the proof of CodeRunsUptoSaid, put together: the abstract evaluation and its contracts. Own work.
  What is proved: each lemma as it stands; no condition.
-/
import Derived.Test.YtafdkafbgohigaaGreatZCodeRunsM4
open List renaming length → qzO, getElem?_eq_getElem → qzS, take → qzT, get?Internal → qzU, getElem?_eq_some_iff → qzW, getElem?_append_right → qz2, take_length → qz4, mem_of_getElem? → qz5, getElem?_append_left → qz6, getElem?_set → qz9, take_of_length_le → qAa, length_append → qAc, mem_cons → qAd, replicate → qAf, mem_append → qAh, append → qAi, range → qAs
open Nat renaming beq → qzP, eq_of_beq_eq_true → qzY, le_refl → qz0, ble → qz8, mul_le_mul_right → qAg, blt_eq → qAm, add_assoc → qAo, beq_refl → qAq, add_mul → qAr
open Go.IntKind renaming wrap → qzQ, i64 → qAn
open Bool renaming and_eq_true → qzR, false_eq_true → qz1, and_self → qz7, not_true → qAj, not_false → qAp
open Int renaming toNat → qzV, reduceEq → qAb, toNat_natCast → qAk
open Option renaming bind_eq_some_iff → qzX, map_eq_some_iff → qzZ, bind_some → qz3, map_some → qAe
open Array renaming getElem?_toList → qAl, toList → qAt
set_option maxRecDepth 1000000
set_option maxHeartbeats 0
noncomputable section
namespace Go.Proofs.YtafdkafbgohigaaGreat
open Go.Av
def qvC:Den:=evC cfg (EV cfg) 203 none 9 (sub (ql Tryz.f203) [1,0,0])
def qvL:Ex×List AV×AH->Option (AV×AH):=kAft (Cfg.keepOut cfg 203 (qm (sub (ql Tryz.f203) [1,0,0]))) (xa 0 (yO cfg (Cfg.lift cfg 203 0) (fun(v:AV) (H:AH)=>(fun(r:AV×AH)=>qak 4 8 (fx 169 [(41,AV.ptr 0 0 5)]) (xa 2 (xa 0 (kSeq (fun(fr:List AV) (H:AH)=>xR (Cfg.cut cfg 90 (qm (sub (ql Tryz.f90) [1,1,1,1,1]))) fr H fun(fr:List AV) (H:AH)=>vA cfg (EV cfg) (kfN cfg 6) 90 none 4 (sub (ql Tryz.f90) [1,1,1,1,1]) fr H (yY cfg 1 (Cfg.lift cfg 90 0) (qAt (Func.results Tryz.f90)))) (yY cfg 1 (Cfg.lift cfg 90 0) (qAt (Func.results Tryz.f90)))))) (Prod.snd r)) (v,H)) (qAt (Func.results (Prod.snd (203,Tryz.f203))))))
def qoC:List AV×AH->Option (AV×AH):=fun(p:List AV×AH)=>kOpt (LOOP 9 (some [0,1,3]) [] qvC p) qvL
abbrev v9(v3 c0_0 c0_1:Int)(c0_2:Bz)(c0_3:Rz)(c0_4:Int)(nc0_5 nc0_6:Nat)(c0_8:Bool)(h1 h2:Rz)(m3:List (AV×AV))(c5_0 c5_1 c5_2 c5_3 c5_4:Int)(c5_5:Bz)(c5_6:Rz)(c6_0 c6_1:Int)(c6_2:Bz)(c6_3 c7_0:Rz):Option (AV×AH):=qoC (((fx 19 [(0,.yld 8),(1,.ptr 7 0 0),(3,.int .i64 v3)]):List AV),([.rows false 9 [[.int .i64 c0_0,.int .i64 c0_1,.str c0_2,.sl c0_3,.int .i64 c0_4,.ms 1 0 nc0_5,.ms 2 0 nc0_6,.mp 3,.bool c0_8]],.rows true 4 h1,.rows true 4 h2,.mp true m3,.rows false 1 [[.ptr 0 0 0]],.rows false 7 [[.int .i64 c5_0,.int .i64 c5_1,.int .i64 c5_2,.int .i64 c5_3,.int .i64 c5_4,.str c5_5,.sl c5_6]],.rows false 4 [[.int .i64 c6_0,.int .i64 c6_1,.str c6_2,.sl c6_3]],.rows false 1 [[.sl c7_0]],rngB Tryz.f90 90 [1,1,1,1,0,1,0,1,0,1,1,0] (fx 169 [(2,.ptr 4 0 0)]) none LoopState.ready]:AH))
abbrev qds(v3 c0_0 c0_1:Int)(c0_2:Bz)(c0_3:Rz)(c0_4:Int)(nc0_5 nc0_6:Nat)(c0_8:Bool)(h2:Rz)(m3:List (AV×AV))(c5_0 c5_1 c5_2 c5_3 c5_4:Int)(c5_5:Bz)(c5_6:Rz)(c6_0 c6_1:Int)(c6_2:Bz)(c6_3 c7_0 h9:Rz):Option (AV×AH):=qoC (((fx 19 [(0,.yld 8),(1,.ptr 7 0 0),(3,.int .i64 v3)]):List AV),([.rows false 9 [[.int .i64 c0_0,.int .i64 c0_1,.str c0_2,.sl c0_3,.int .i64 c0_4,.ms 9 0 nc0_5,.ms 2 0 nc0_6,.mp 3,.bool c0_8]],.dead,.rows true 4 h2,.mp true m3,.rows false 1 [[.ptr 0 0 0]],.rows false 7 [[.int .i64 c5_0,.int .i64 c5_1,.int .i64 c5_2,.int .i64 c5_3,.int .i64 c5_4,.str c5_5,.sl c5_6]],.rows false 4 [[.int .i64 c6_0,.int .i64 c6_1,.str c6_2,.sl c6_3]],.rows false 1 [[.sl c7_0]],rngB Tryz.f90 90 [1,1,1,1,0,1,0,1,0,1,1,0] (fx 169 [(2,.ptr 4 0 0)]) none LoopState.ready,.rows true 4 h9]:AH))
theorem qo0(ko no self:Int)(so:Bz)(lo L V:Rz)(es:List (AV×AV))(bd:Bool)(o a b k n:Int)(w:Bz)(l:Rz){P:AV×AH->Prop}(h:Gets (bif(L.length:Int)==0 then some (.int .i64 5,[.rows false 9 [[AV.int .i64 ko,.int .i64 no,.str so,.sl lo,.int .i64 self,.ms 1 0 (qzO L),.ms 2 0 (qzO V),AV.mp 3,.bool bd]],.rows true 4 L,.rows true 4 V,ABlk.mp true es])else bif qe 0 (qzQ .i64 ((L.length:Int) - 1))&&qu (qzQ .i64 ((L.length:Int) - 1)) (L.length:Int)then kOpt (qzU L (0+qzV (qzQ .i64 ((L.length:Int) - (1:Int))))) λrow=>bif qz8 4 (qzO row)then kTmC (qzT 4 row) λn_1 n_2 s rows=>(bif qe 0 (qzQ .i64 ((L.length:Int) - 1))&&qe (qzQ .i64 ((L.length:Int) - 1)) (L.length:Int)then bif o==1 then bif o==(1:Int)then bif decide (a<0)then some (.int .i64 5,[.rows false 9 [[AV.int .i64 ko,.int .i64 no,.str so,.sl lo,.int .i64 self,.ms 1 0 (qzV (qzQ .i64 ((L.length:Int) - 1)) - 0),.ms 2 0 (qzO V),AV.mp 3,.bool bd]],.rows true 4 (qzT (qzV (qzQ .i64 ((L.length:Int) - 1)) - 0) L),.rows true 4 V,ABlk.mp true es])else bif o==1 then bif n_1 != 7 then some (.int .i64 1,[.rows false 9 [[AV.int .i64 ko,.int .i64 no,.str so,.sl lo,.int .i64 self,.ms 1 0 (qzV (qzQ .i64 ((L.length:Int) - 1)) - 0),.ms 2 0 (qzO V),AV.mp 3,.bool bd]],.rows true 4 (qzT (qzV (qzQ .i64 ((L.length:Int) - 1)) - 0) L),.rows true 4 V,ABlk.mp true es])else bif(rows.length:Int) != a then some (.int .i64 1,[.rows false 9 [[AV.int .i64 ko,.int .i64 no,.str so,.sl lo,.int .i64 self,.ms 1 0 (qzV (qzQ .i64 ((L.length:Int) - 1)) - 0),.ms 2 0 (qzO V),AV.mp 3,.bool bd]],.rows true 4 (qzT (qzV (qzQ .i64 ((L.length:Int) - 1)) - 0) L),.rows true 4 V,ABlk.mp true es])else bif o==2 then bif n_1 != 9 then some (.int .i64 1,[.rows false 9 [[AV.int .i64 ko,.int .i64 no,.str so,.sl lo,.int .i64 self,.ms 1 0 (qzV (qzQ .i64 ((↑ (qzO L):Int) - 1)) - 0),.ms 2 0 (qzO V),AV.mp 3,.bool bd]],.rows true 4 (qzT (qzV (qzQ .i64 ((L.length:Int) - 1)) - 0) L),.rows true 4 V,ABlk.mp true es])else v9 (qzQ .i64 ((rows.length:Int) - 1)) ko no so lo self (qzV (qzQ .i64 ((L.length:Int) - (1:Int))) - 0) (qzO V) bd L V es o a b k n w l n_1 n_2 s rows rows else v9 (qzQ .i64 ((rows.length:Int) - 1)) ko no so lo self (qzV (qzQ .i64 ((L.length:Int) - 1)) - 0) (qzO V) bd L V es o a b k n w l n_1 n_2 s rows rows else bif o==2 then bif n_1 != 9 then some (.int .i64 1,[.rows false 9 [[AV.int .i64 ko,.int .i64 no,.str so,.sl lo,.int .i64 self,.ms 1 0 (qzV (qzQ .i64 ((L.length:Int) - 1)) - 0),.ms 2 0 (qzO V),AV.mp 3,.bool bd]],.rows true 4 (qzT (qzV (qzQ .i64 ((L.length:Int) - 1)) - 0) L),.rows true 4 V,ABlk.mp true es])else v9 (qzQ .i64 ((rows.length:Int) - 1)) ko no so lo self (qzV (qzQ .i64 ((L.length:Int) - 1)) - 0) (qzO V) bd L V es o a b k n w l n_1 n_2 s rows rows else v9 (qzQ .i64 ((rows.length:Int) - 1)) ko no so lo self (qzV (qzQ .i64 ((L.length:Int) - 1)) - 0) (qzO V) bd L V es o a b k n w l n_1 n_2 s rows rows else bif o==1 then bif n_1 != 7 then some (.int .i64 1,[.rows false 9 [[AV.int .i64 ko,.int .i64 no,.str so,.sl lo,.int .i64 self,.ms 1 0 (qzV (qzQ .i64 ((L.length:Int) - 1)) - 0),.ms 2 0 (qzO V),AV.mp 3,.bool bd]],.rows true 4 (qzT (qzV (qzQ .i64 ((L.length:Int) - 1)) - 0) L),.rows true 4 V,ABlk.mp true es])else bif(rows.length:Int) != a then some (.int .i64 1,[.rows false 9 [[AV.int .i64 ko,.int .i64 no,.str so,.sl lo,.int .i64 self,.ms 1 0 (qzV (qzQ .i64 ((L.length:Int) - 1)) - 0),.ms 2 0 (qzO V),AV.mp 3,.bool bd]],.rows true 4 (qzT (qzV (qzQ .i64 ((L.length:Int) - 1)) - 0) L),.rows true 4 V,ABlk.mp true es])else bif o==2 then bif n_1 != 9 then some (.int .i64 1,[.rows false 9 [[AV.int .i64 ko,.int .i64 no,.str so,.sl lo,.int .i64 self,.ms 1 0 (qzV (qzQ .i64 ((L.length:Int) - 1)) - 0),.ms 2 0 (qzO V),AV.mp 3,.bool bd]],.rows true 4 (qzT (qzV (qzQ .i64 ((↑ (qzO L):Int) - 1)) - 0) L),.rows true 4 V,ABlk.mp true es])else v9 (qzQ .i64 ((rows.length:Int) - 1)) ko no so lo self (qzV (qzQ .i64 ((L.length:Int) - 1)) - 0) (qzO V) bd L V es o a b k n w l n_1 n_2 s rows rows else v9 (qzQ .i64 ((rows.length:Int) - 1)) ko no so lo self (qzV (qzQ .i64 ((L.length:Int) - 1)) - 0) (qzO V) bd L V es o a b k n w l n_1 n_2 s rows rows else bif o==2 then bif n_1 != 9 then some (.int .i64 1,[.rows false 9 [[AV.int .i64 ko,.int .i64 no,.str so,.sl lo,.int .i64 self,.ms 1 0 (qzV (qzQ .i64 ((↑ (qzO L):Int) - 1)) - 0),.ms 2 0 (qzO V),AV.mp 3,.bool bd]],.rows true 4 (qzT (qzV (qzQ .i64 ((L.length:Int) - 1)) - 0) L),.rows true 4 V,ABlk.mp true es])else v9 (qzQ .i64 ((rows.length:Int) - 1)) ko no so lo self (qzV (qzQ .i64 ((L.length:Int) - (1:Int))) - 0) (qzO V) bd L V es o a b k n w l n_1 n_2 s rows rows else v9 (qzQ .i64 ((rows.length:Int) - 1)) ko no so lo self (qzV (qzQ .i64 ((L.length:Int) - 1)) - 0) (qzO V) bd L V es o a b k n w l n_1 n_2 s rows rows else bif o==2 then bif o==1 then bif decide (a<(0:Int))then some (.int .i64 5,[.rows false 9 [[AV.int .i64 ko,.int .i64 no,.str so,.sl lo,.int .i64 self,.ms 1 0 (qzV (qzQ .i64 ((L.length:Int) - 1)) - 0),.ms 2 0 (qzO V),AV.mp 3,.bool bd]],.rows true 4 (qzT (qzV (qzQ .i64 ((L.length:Int) - 1)) - 0) L),.rows true 4 V,ABlk.mp true es])else bif o==1 then bif n_1 != 7 then some (.int .i64 1,[.rows false 9 [[AV.int .i64 ko,.int .i64 no,.str so,.sl lo,.int .i64 self,.ms 1 0 (qzV (qzQ .i64 ((L.length:Int) - 1)) - 0),.ms 2 0 (qzO V),AV.mp 3,.bool bd]],.rows true 4 (qzT (qzV (qzQ .i64 ((L.length:Int) - 1)) - 0) L),.rows true 4 V,ABlk.mp true es])else bif(rows.length:Int) != a then some (.int .i64 1,[.rows false 9 [[AV.int .i64 ko,.int .i64 no,.str so,.sl lo,.int .i64 self,.ms 1 0 (qzV (qzQ .i64 ((L.length:Int) - 1)) - 0),.ms 2 0 (qzO V),AV.mp 3,.bool bd]],.rows true 4 (qzT (qzV (qzQ .i64 ((L.length:Int) - 1)) - 0) L),.rows true 4 V,ABlk.mp true es])else bif o==2 then bif n_1 != (9:Int)then some (.int .i64 1,[.rows false 9 [[AV.int .i64 ko,.int .i64 no,.str so,.sl lo,.int .i64 self,.ms 1 0 (qzV (qzQ .i64 ((L.length:Int) - 1)) - 0),.ms 2 0 (qzO V),AV.mp 3,.bool bd]],.rows true 4 (qzT (qzV (qzQ .i64 ((L.length:Int) - 1)) - 0) L),.rows true 4 V,ABlk.mp true es])else v9 (qzQ .i64 ((rows.length:Int) - 1)) ko no so lo self (qzV (qzQ .i64 ((L.length:Int) - 1)) - 0) (qzO V) bd L V es o a b k n w l n_1 n_2 s rows rows else v9 (qzQ .i64 ((rows.length:Int) - 1)) ko no so lo self (qzV (qzQ .i64 ((L.length:Int) - 1)) - 0) (qzO V) bd L V es o a b k n w l n_1 n_2 s rows rows else bif o==2 then bif n_1 != 9 then some (.int .i64 1,[.rows false 9 [[AV.int .i64 ko,.int .i64 no,.str so,.sl lo,.int .i64 self,.ms 1 0 (qzV (qzQ .i64 ((L.length:Int) - 1)) - 0),.ms 2 0 (qzO V),AV.mp 3,.bool bd]],.rows true 4 (qzT (qzV (qzQ .i64 ((L.length:Int) - 1)) - 0) L),.rows true 4 V,ABlk.mp true es])else v9 (qzQ .i64 ((rows.length:Int) - 1)) ko no so lo self (qzV (qzQ .i64 ((L.length:Int) - 1)) - 0) (qzO V) bd L V es o a b k n w l n_1 n_2 s rows rows else v9 (qzQ .i64 ((rows.length:Int) - 1)) ko no so lo self (qzV (qzQ .i64 ((L.length:Int) - 1)) - 0) (qzO V) bd L V es o a b k n w l n_1 n_2 s rows rows else bif o==1 then bif n_1 != 7 then some (.int .i64 1,[.rows false 9 [[AV.int .i64 ko,.int .i64 no,.str so,.sl lo,.int .i64 self,.ms 1 0 (qzV (qzQ .i64 ((L.length:Int) - 1)) - 0),.ms 2 0 (qzO V),AV.mp 3,.bool bd]],.rows true 4 (qzT (qzV (qzQ .i64 ((L.length:Int) - 1)) - 0) L),.rows true 4 V,ABlk.mp true es])else bif(rows.length:Int) != a then some (.int .i64 1,[.rows false 9 [[AV.int .i64 ko,.int .i64 no,.str so,.sl lo,.int .i64 self,.ms 1 0 (qzV (qzQ .i64 ((L.length:Int) - 1)) - 0),.ms 2 0 (qzO V),AV.mp 3,.bool bd]],.rows true 4 (qzT (qzV (qzQ .i64 ((L.length:Int) - 1)) - 0) L),.rows true 4 V,ABlk.mp true es])else bif o==2 then bif n_1 != 9 then some (.int .i64 1,[.rows false 9 [[AV.int .i64 ko,.int .i64 no,.str so,.sl lo,.int .i64 self,.ms 1 0 (qzV (qzQ .i64 ((L.length:Int) - 1)) - 0),.ms 2 0 (qzO V),AV.mp 3,.bool bd]],.rows true 4 (qzT (qzV (qzQ .i64 ((↑ (qzO L):Int) - 1)) - 0) L),.rows true 4 V,ABlk.mp true es])else v9 (qzQ .i64 ((rows.length:Int) - 1)) ko no so lo self (qzV (qzQ .i64 ((L.length:Int) - 1)) - 0) (qzO V) bd L V es o a b k n w l n_1 n_2 s rows rows else v9 (qzQ .i64 ((rows.length:Int) - 1)) ko no so lo self (qzV (qzQ .i64 ((L.length:Int) - 1)) - 0) (qzO V) bd L V es o a b k n w l n_1 n_2 s rows rows else bif o==2 then bif n_1 != 9 then some (.int .i64 1,[.rows false 9 [[AV.int .i64 ko,.int .i64 no,.str so,.sl lo,.int .i64 self,.ms 1 0 (qzV (qzQ .i64 ((↑ (qzO L):Int) - 1)) - 0),.ms 2 0 (qzO V),AV.mp 3,.bool bd]],.rows true 4 (qzT (qzV (qzQ .i64 ((L.length:Int) - 1)) - 0) L),.rows true 4 V,ABlk.mp true es])else v9 (qzQ .i64 ((rows.length:Int) - 1)) ko no so lo self (qzV (qzQ .i64 ((L.length:Int) - (1:Int))) - 0) (qzO V) bd L V es o a b k n w l n_1 n_2 s rows rows else v9 (qzQ .i64 ((rows.length:Int) - 1)) ko no so lo self (qzV (qzQ .i64 ((L.length:Int) - 1)) - 0) (qzO V) bd L V es o a b k n w l n_1 n_2 s rows rows else bif o==6 then kOpt (EVs (EV cfg) 42 [.agg [.int .i64 k,.int .i64 n,.str w,.sl l]]) λv=>qq v λb=>bif ! b then some (.int .i64 5,[.rows false 9 [[AV.int .i64 ko,.int .i64 no,.str so,.sl lo,.int .i64 self,.ms 1 0 (qzV (qzQ .i64 ((L.length:Int) - 1)) - 0),.ms 2 0 (qzO V),AV.mp 3,.bool bd]],.rows true 4 (qzT (qzV (qzQ .i64 ((L.length:Int) - 1)) - 0) L),.rows true 4 V,ABlk.mp true es])else kOpt (EVs (EV cfg) 151 [.agg [.int .i64 n_1,.int .i64 n_2,.str s,.sl rows],.agg [.int .i64 k,.int .i64 n,.str w,.sl l]]) λv=>qq v λb=>bif ! b then some (.int .i64 1,[.rows false 9 [[AV.int .i64 ko,.int .i64 no,.str so,.sl lo,.int .i64 self,.ms 1 0 (qzV (qzQ .i64 ((L.length:Int) - 1)) - 0),.ms 2 0 (qzO V),AV.mp 3,.bool bd]],.rows true 4 (qzT (qzV (qzQ .i64 ((L.length:Int) - 1)) - 0) L),.rows true 4 V,ABlk.mp true es])else some (.int .i64 0,[.rows false 9 [[AV.int .i64 ko,.int .i64 no,.str so,.sl lo,.int .i64 self,.ms 1 0 (qzV (qzQ .i64 ((L.length:Int) - 1)) - 0),.ms 2 0 (qzO V),AV.mp 3,.bool bd]],.rows true 4 (qzT (qzV (qzQ .i64 ((L.length:Int) - 1)) - 0) L),.rows true 4 V,ABlk.mp true es])else bif o==3 then kOpt (vN (TD.int .i64) (.int .i64 a) es 0) λr=>yq r (bif decide (a<0)then some (.int .i64 5,[.rows false 9 [[AV.int .i64 ko,.int .i64 no,.str so,.sl lo,.int .i64 self,.ms 1 0 (qzV (qzQ .i64 ((L.length:Int) - 1)) - 0),.ms 2 0 (qzO V),AV.mp 3,.bool bd]],.rows true 4 (qzT (qzV (qzQ .i64 ((L.length:Int) - 1)) - 0) L),.rows true 4 V,ABlk.mp true es])else bif decide (a>99)then some (.int .i64 5,[.rows false 9 [[AV.int .i64 ko,.int .i64 no,.str so,.sl lo,.int .i64 self,.ms 1 0 (qzV (qzQ .i64 ((L.length:Int) - 1)) - 0),.ms 2 0 (qzO V),AV.mp 3,.bool bd]],.rows true 4 (qzT (qzV (qzQ .i64 ((L.length:Int) - 1)) - 0) L),.rows true 4 V,ABlk.mp true es])else bif o==4 then some (.int .i64 (5:Int),[.rows false 9 [[AV.int .i64 ko,.int .i64 no,.str so,.sl lo,.int .i64 self,.ms 1 0 (qzV (qzQ .i64 ((L.length:Int) - 1)) - 0),.ms 2 0 (qzO V),AV.mp 3,.bool bd]],.rows true 4 (qzT (qzV (qzQ .i64 ((L.length:Int) - 1)) - 0) L),.rows true 4 V,ABlk.mp true es])else bif o==(3:Int)then kOpt (vN (TD.int .i64) (.int .i64 a) es 0) λr=>yq r (some (.int .i64 0,[.rows false 9 [[AV.int .i64 ko,.int .i64 no,.str so,.sl lo,.int .i64 self,.ms 1 0 (qzV (qzQ .i64 ((L.length:Int) - 1)) - 0),.ms 2 0 (qzO V),AV.mp 3,.bool bd]],.rows true 4 (qzT (qzV (qzQ .i64 ((L.length:Int) - 1)) - 0) L),.rows true 4 V,ABlk.mp true (qAi es [(.int .i64 a,.agg [.int .i64 n_1,.int .i64 n_2,.str s,.sl rows])])])) λi x=>some (.int .i64 0,[.rows false 9 [[AV.int .i64 ko,.int .i64 no,.str so,.sl lo,.int .i64 self,.ms 1 0 (qzV (qzQ .i64 ((↑ (qzO L):Int) - 1)) - 0),.ms 2 0 (qzO V),AV.mp 3,.bool bd]],.rows true 4 (qzT (qzV (qzQ .i64 ((L.length:Int) - 1)) - 0) L),.rows true 4 V,ABlk.mp true (List.set es i (.int .i64 a,.agg [.int .i64 n_1,.int .i64 n_2,.str s,.sl rows]))])else bif qE 0 [.agg [.int .i64 0,.int .i64 0,.str [],.sl []],.agg [.int .i64 n_1,.int .i64 n_2,.str s,.sl rows]]then kOpt (EVs (EV cfg) 151 [.agg [.int .i64 0,.int .i64 0,.str [],.sl []],.agg [.int .i64 n_1,.int .i64 n_2,.str s,.sl rows]]) λv=>qq v λb=>bif ! b then some (.int .i64 1,[.rows false 9 [[AV.int .i64 ko,.int .i64 no,.str so,.sl lo,.int .i64 self,.ms 1 0 (qzV (qzQ .i64 ((L.length:Int) - 1)) - 0),.ms 2 0 (qzO V),AV.mp 3,.bool bd]],.rows true 4 (qzT (qzV (qzQ .i64 ((L.length:Int) - 1)) - 0) L),.rows true 4 V,ABlk.mp true es])else some (.int .i64 0,[.rows false 9 [[AV.int .i64 ko,.int .i64 no,.str so,.sl lo,.int .i64 self,.ms 1 0 (qzV (qzQ .i64 ((L.length:Int) - 1)) - 0),.ms 2 0 (qzO V),AV.mp 3,.bool bd]],.rows true 4 (qzT (qzV (qzQ .i64 ((L.length:Int) - 1)) - 0) L),.rows true 4 V,ABlk.mp true es])else none) λx v=>kTmV v λn n_3 s_1 rows_1=>(bif decide (a<0)then some (.int .i64 5,[.rows false 9 [[AV.int .i64 ko,.int .i64 no,.str so,.sl lo,.int .i64 self,.ms 1 0 (qzV (qzQ .i64 ((L.length:Int) - 1)) - 0),.ms 2 0 (qzO V),AV.mp 3,.bool bd]],.rows true 4 (qzT (qzV (qzQ .i64 ((↑ (qzO L):Int) - 1)) - 0) L),.rows true 4 V,ABlk.mp true es])else bif decide (a>99)then some (.int .i64 5,[.rows false 9 [[AV.int .i64 ko,.int .i64 no,.str so,.sl lo,.int .i64 self,.ms 1 0 (qzV (qzQ .i64 ((L.length:Int) - 1)) - 0),.ms 2 0 (qzO V),AV.mp 3,.bool bd]],.rows true 4 (qzT (qzV (qzQ .i64 ((L.length:Int) - 1)) - 0) L),.rows true 4 V,ABlk.mp true es])else bif o==4 then bif o==3 then kOpt (vN (TD.int .i64) (.int .i64 a) es 0) λr=>yq r (some (.int .i64 0,[.rows false 9 [[AV.int .i64 ko,.int .i64 no,.str so,.sl lo,.int .i64 self,.ms 1 0 (qzV (qzQ .i64 ((L.length:Int) - 1)) - 0),.ms 2 0 (qzO V),AV.mp 3,.bool bd]],.rows true 4 (qzT (qzV (qzQ .i64 ((↑ (qzO L):Int) - 1)) - 0) L),.rows true 4 V,ABlk.mp true (qAi es [(.int .i64 a,.agg [.int .i64 n_1,.int .i64 n_2,.str s,.sl rows])])])) λi x=>some (.int .i64 0,[.rows false 9 [[AV.int .i64 ko,.int .i64 no,.str so,.sl lo,.int .i64 self,.ms 1 0 (qzV (qzQ .i64 ((L.length:Int) - 1)) - 0),.ms 2 0 (qzO V),AV.mp 3,.bool bd]],.rows true 4 (qzT (qzV (qzQ .i64 ((L.length:Int) - 1)) - 0) L),.rows true 4 V,ABlk.mp true (List.set es i (.int .i64 a,.agg [.int .i64 n_1,.int .i64 n_2,.str s,.sl rows]))])else kOpt (EVs (EV cfg) 151 [.agg [.int .i64 n,.int .i64 n_3,.str s_1,.sl rows_1],.agg [.int .i64 n_1,.int .i64 n_2,.str s,.sl rows]]) λv=>qq v λb=>bif ! b then some (.int .i64 1,[.rows false 9 [[AV.int .i64 ko,.int .i64 no,.str so,.sl lo,.int .i64 self,.ms 1 0 (qzV (qzQ .i64 ((L.length:Int) - 1)) - 0),.ms 2 0 (qzO V),AV.mp 3,.bool bd]],.rows true 4 (qzT (qzV (qzQ .i64 ((L.length:Int) - 1)) - 0) L),.rows true 4 V,ABlk.mp true es])else some (.int .i64 0,[.rows false 9 [[AV.int .i64 ko,.int .i64 no,.str so,.sl lo,.int .i64 self,.ms 1 0 (qzV (qzQ .i64 ((L.length:Int) - 1)) - 0),.ms 2 0 (qzO V),AV.mp 3,.bool bd]],.rows true 4 (qzT (qzV (qzQ .i64 ((L.length:Int) - 1)) - 0) L),.rows true 4 V,ABlk.mp true es])else bif o==3 then kOpt (vN (TD.int .i64) (.int .i64 a) es 0) λr=>yq r (some (.int .i64 0,[.rows false 9 [[AV.int .i64 ko,.int .i64 no,.str so,.sl lo,.int .i64 self,.ms 1 0 (qzV (qzQ .i64 ((↑ (qzO L):Int) - 1)) - 0),.ms 2 0 (qzO V),AV.mp 3,.bool bd]],.rows true 4 (qzT (qzV (qzQ .i64 ((L.length:Int) - 1)) - 0) L),.rows true 4 V,ABlk.mp true (qAi es [(.int .i64 a,.agg [.int .i64 n_1,.int .i64 n_2,.str s,.sl rows])])])) λi x=>some (.int .i64 0,[.rows false 9 [[AV.int .i64 ko,.int .i64 no,.str so,.sl lo,.int .i64 self,.ms 1 0 (qzV (qzQ .i64 ((L.length:Int) - 1)) - 0),.ms 2 0 (qzO V),AV.mp 3,.bool bd]],.rows true 4 (qzT (qzV (qzQ .i64 ((L.length:Int) - 1)) - 0) L),.rows true 4 V,ABlk.mp true (List.set es i (.int .i64 a,.agg [.int .i64 n_1,.int .i64 n_2,.str s,.sl rows]))])else kOpt (EVs (EV cfg) 151 [.agg [.int .i64 n,.int .i64 n_3,.str s_1,.sl rows_1],.agg [.int .i64 n_1,.int .i64 n_2,.str s,.sl rows]]) λv=>qq v λb=>bif ! b then some (.int .i64 1,[.rows false 9 [[AV.int .i64 ko,.int .i64 no,.str so,.sl lo,.int .i64 self,.ms 1 0 (qzV (qzQ .i64 ((L.length:Int) - 1)) - 0),.ms 2 0 (qzO V),AV.mp 3,.bool bd]],.rows true 4 (qzT (qzV (qzQ .i64 ((L.length:Int) - (1:Int))) - 0) L),.rows true 4 V,ABlk.mp true es])else some (.int .i64 0,[.rows false 9 [[AV.int .i64 ko,.int .i64 no,.str so,.sl lo,.int .i64 self,.ms 1 0 (qzV (qzQ .i64 ((L.length:Int) - 1)) - 0),.ms 2 0 (qzO V),AV.mp 3,.bool bd]],.rows true 4 (qzT (qzV (qzQ .i64 ((↑ (qzO L):Int) - 1)) - 0) L),.rows true 4 V,ABlk.mp true es]))else bif o==4 then kOpt (vN (TD.int .i64) (.int .i64 a) es 0) λr=>yq r (bif decide (a<0)then some (.int .i64 5,[.rows false 9 [[AV.int .i64 ko,.int .i64 no,.str so,.sl lo,.int .i64 self,.ms 1 0 (qzV (qzQ .i64 ((↑ (qzO L):Int) - 1)) - 0),.ms 2 0 (qzO V),AV.mp 3,.bool bd]],.rows true 4 (qzT (qzV (qzQ .i64 ((L.length:Int) - 1)) - 0) L),.rows true 4 V,ABlk.mp true es])else bif decide (a>99)then some (.int .i64 5,[.rows false 9 [[AV.int .i64 ko,.int .i64 no,.str so,.sl lo,.int .i64 self,.ms 1 0 (qzV (qzQ .i64 ((L.length:Int) - 1)) - 0),.ms 2 0 (qzO V),AV.mp 3,.bool bd]],.rows true 4 (qzT (qzV (qzQ .i64 ((↑ (qzO L):Int) - 1)) - 0) L),.rows true 4 V,ABlk.mp true es])else bif o==4 then some (.int .i64 5,[.rows false 9 [[AV.int .i64 ko,.int .i64 no,.str so,.sl lo,.int .i64 self,.ms 1 0 (qzV (qzQ .i64 ((L.length:Int) - 1)) - 0),.ms 2 0 (qzO V),AV.mp 3,.bool bd]],.rows true 4 (qzT (qzV (qzQ .i64 ((L.length:Int) - 1)) - 0) L),.rows true 4 V,ABlk.mp true es])else bif o==3 then kOpt (vN (TD.int .i64) (.int .i64 a) es 0) λr=>yq r (some (.int .i64 0,[.rows false 9 [[AV.int .i64 ko,.int .i64 no,.str so,.sl lo,.int .i64 self,.ms 1 0 (qzV (qzQ .i64 ((↑ (qzO L):Int) - 1)) - 0),.ms 2 0 (qzO V),AV.mp 3,.bool bd]],.rows true 4 (qzT (qzV (qzQ .i64 ((L.length:Int) - 1)) - 0) L),.rows true 4 V,ABlk.mp true (qAi es [(.int .i64 a,.agg [.int .i64 n_1,.int .i64 n_2,.str s,.sl rows])])])) λi x=>some (.int .i64 0,[.rows false 9 [[AV.int .i64 ko,.int .i64 no,.str so,.sl lo,.int .i64 self,.ms 1 0 (qzV (qzQ .i64 ((L.length:Int) - 1)) - 0),.ms 2 0 (qzO V),AV.mp 3,.bool bd]],.rows true 4 (qzT (qzV (qzQ .i64 ((L.length:Int) - 1)) - 0) L),.rows true 4 V,ABlk.mp true (List.set es i (.int .i64 a,.agg [.int .i64 n_1,.int .i64 n_2,.str s,.sl rows]))])else bif qE 0 [.agg [.int .i64 0,.int .i64 0,.str [],.sl []],.agg [.int .i64 n_1,.int .i64 n_2,.str s,.sl rows]]then kOpt (EVs (EV cfg) 151 [.agg [.int .i64 0,.int .i64 0,.str [],.sl []],.agg [.int .i64 n_1,.int .i64 n_2,.str s,.sl rows]]) λv=>qq v λb=>bif ! b then some (.int .i64 1,[.rows false 9 [[AV.int .i64 ko,.int .i64 no,.str so,.sl lo,.int .i64 self,.ms 1 0 (qzV (qzQ .i64 ((↑ (qzO L):Int) - 1)) - 0),.ms 2 0 (qzO V),AV.mp 3,.bool bd]],.rows true 4 (qzT (qzV (qzQ .i64 ((L.length:Int) - 1)) - 0) L),.rows true 4 V,ABlk.mp true es])else some (.int .i64 0,[.rows false 9 [[AV.int .i64 ko,.int .i64 no,.str so,.sl lo,.int .i64 self,.ms 1 0 (qzV (qzQ .i64 ((↑ (qzO L):Int) - 1)) - 0),.ms 2 0 (qzO V),AV.mp 3,.bool bd]],.rows true 4 (qzT (qzV (qzQ .i64 ((L.length:Int) - 1)) - 0) L),.rows true 4 V,ABlk.mp true es])else none) λx v=>kTmV v λn n_3 s_1 rows_1=>(bif decide (a<0)then some (.int .i64 5,[.rows false 9 [[AV.int .i64 ko,.int .i64 no,.str so,.sl lo,.int .i64 self,.ms 1 0 (qzV (qzQ .i64 ((L.length:Int) - 1)) - 0),.ms 2 0 (qzO V),AV.mp 3,.bool bd]],.rows true 4 (qzT (qzV (qzQ .i64 ((L.length:Int) - 1)) - 0) L),.rows true 4 V,ABlk.mp true es])else bif decide (a>99)then some (.int .i64 5,[.rows false 9 [[AV.int .i64 ko,.int .i64 no,.str so,.sl lo,.int .i64 self,.ms 1 0 (qzV (qzQ .i64 ((↑ (qzO L):Int) - 1)) - 0),.ms 2 0 (qzO V),AV.mp 3,.bool bd]],.rows true 4 (qzT (qzV (qzQ .i64 ((L.length:Int) - 1)) - 0) L),.rows true 4 V,ABlk.mp true es])else bif o==4 then bif o==3 then kOpt (vN (TD.int .i64) (.int .i64 a) es 0) λr=>yq r (some (.int .i64 0,[.rows false 9 [[AV.int .i64 ko,.int .i64 no,.str so,.sl lo,.int .i64 self,.ms 1 0 (qzV (qzQ .i64 ((L.length:Int) - 1)) - 0),.ms 2 0 (qzO V),AV.mp 3,.bool bd]],.rows true 4 (qzT (qzV (qzQ .i64 ((L.length:Int) - 1)) - 0) L),.rows true 4 V,ABlk.mp true (qAi es [(.int .i64 a,.agg [.int .i64 n_1,.int .i64 n_2,.str s,.sl rows])])])) λi x=>some (.int .i64 0,[.rows false 9 [[AV.int .i64 ko,.int .i64 no,.str so,.sl lo,.int .i64 self,.ms 1 0 (qzV (qzQ .i64 ((L.length:Int) - 1)) - 0),.ms 2 0 (qzO V),AV.mp 3,.bool bd]],.rows true 4 (qzT (qzV (qzQ .i64 ((L.length:Int) - 1)) - 0) L),.rows true 4 V,ABlk.mp true (List.set es i (.int .i64 a,.agg [.int .i64 n_1,.int .i64 n_2,.str s,.sl rows]))])else kOpt (EVs (EV cfg) 151 [.agg [.int .i64 n,.int .i64 n_3,.str s_1,.sl rows_1],.agg [.int .i64 n_1,.int .i64 n_2,.str s,.sl rows]]) λv=>qq v λb=>bif ! b then some (.int .i64 1,[.rows false 9 [[AV.int .i64 ko,.int .i64 no,.str so,.sl lo,.int .i64 self,.ms 1 0 (qzV (qzQ .i64 ((↑ (qzO L):Int) - 1)) - 0),.ms 2 0 (qzO V),AV.mp 3,.bool bd]],.rows true 4 (qzT (qzV (qzQ .i64 ((L.length:Int) - 1)) - 0) L),.rows true 4 V,ABlk.mp true es])else some (.int .i64 0,[.rows false 9 [[AV.int .i64 ko,.int .i64 no,.str so,.sl lo,.int .i64 self,.ms 1 0 (qzV (qzQ .i64 ((↑ (qzO L):Int) - 1)) - 0),.ms 2 0 (qzO V),AV.mp 3,.bool bd]],.rows true 4 (qzT (qzV (qzQ .i64 ((L.length:Int) - 1)) - 0) L),.rows true 4 V,ABlk.mp true es])else bif o==3 then kOpt (vN (TD.int .i64) (.int .i64 a) es 0) λr=>yq r (some (.int .i64 0,[.rows false 9 [[AV.int .i64 ko,.int .i64 no,.str so,.sl lo,.int .i64 self,.ms 1 0 (qzV (qzQ .i64 ((L.length:Int) - 1)) - 0),.ms 2 0 (qzO V),AV.mp 3,.bool bd]],.rows true 4 (qzT (qzV (qzQ .i64 ((L.length:Int) - 1)) - 0) L),.rows true 4 V,ABlk.mp true (qAi es [(.int .i64 a,.agg [.int .i64 n_1,.int .i64 n_2,.str s,.sl rows])])])) λi x=>some (.int .i64 0,[.rows false 9 [[AV.int .i64 ko,.int .i64 no,.str so,.sl lo,.int .i64 self,.ms 1 0 (qzV (qzQ .i64 ((L.length:Int) - 1)) - 0),.ms 2 0 (qzO V),AV.mp 3,.bool bd]],.rows true 4 (qzT (qzV (qzQ .i64 ((↑ (qzO L):Int) - 1)) - 0) L),.rows true 4 V,ABlk.mp true (List.set es i (.int .i64 a,.agg [.int .i64 n_1,.int .i64 n_2,.str s,.sl rows]))])else kOpt (EVs (EV cfg) 151 [.agg [.int .i64 n,.int .i64 n_3,.str s_1,.sl rows_1],.agg [.int .i64 n_1,.int .i64 n_2,.str s,.sl rows]]) λv=>qq v λb=>bif ! b then some (.int .i64 (1:Int),[.rows false 9 [[AV.int .i64 ko,.int .i64 no,.str so,.sl lo,.int .i64 self,.ms 1 0 (qzV (qzQ .i64 ((L.length:Int) - 1)) - 0),.ms 2 0 (qzO V),AV.mp 3,.bool bd]],.rows true 4 (qzT (qzV (qzQ .i64 ((L.length:Int) - 1)) - 0) L),.rows true 4 V,ABlk.mp true es])else some (.int .i64 0,[.rows false 9 [[AV.int .i64 ko,.int .i64 no,.str so,.sl lo,.int .i64 self,.ms 1 0 (qzV (qzQ .i64 ((L.length:Int) - 1)) - 0),.ms 2 0 (qzO V),AV.mp 3,.bool bd]],.rows true 4 (qzT (qzV (qzQ .i64 ((L.length:Int) - 1)) - 0) L),.rows true 4 V,ABlk.mp true es]))else some (.int .i64 0,[.rows false 9 [[AV.int .i64 ko,.int .i64 no,.str so,.sl lo,.int .i64 self,.ms 1 0 (qzV (qzQ .i64 ((L.length:Int) - 1)) - 0),.ms 2 0 (qzO V),AV.mp 3,.bool bd]],.rows true 4 (qzT (qzV (qzQ .i64 ((L.length:Int) - 1)) - 0) L),.rows true 4 V,ABlk.mp true es])else none)else none else none) P):Gets (EVj (EV cfg) 90 1 [.ptr 0 0 0,.agg [.int .i64 o,.int .i64 a,.int .i64 b,.int .i64 k,.int .i64 n,.str w,.sl l]] ([ABlk.rows false (9:Nat) [[AV.int qAn ko,AV.int qAn no,AV.str so,AV.sl lo,AV.int qAn self,AV.ms (1:Nat) (0:Nat) (qzO L),AV.ms (2:Nat) (0:Nat) (qzO V),AV.mp (3:Nat),AV.bool bd]],ABlk.rows true (4:Nat) L,ABlk.rows true (4:Nat) V,ABlk.mp true es]:AH)) P:=
  gE (λ_=>funJ rfl rfl Tryz.func90 rfl) (by kernel_rfl) h
theorem qlW(v3 c0_0 c0_1:Int)(c0_2:Bz)(c0_3:Rz)(c0_4:Int)(nc0_5 nc0_6:Nat)(c0_8:Bool)(h1 h2:Rz)(m3:List (AV×AV))(c5_0 c5_1 c5_2 c5_3 c5_4:Int)(c5_5:Bz)(c5_6:Rz)(c6_0 c6_1:Int)(c6_2:Bz)(c6_3 c7_0:Rz){P:AV×AH->Prop}(h:Gets (bif decide (v3≥0)then bif qe 0 v3&&qu v3 (c7_0.length:Int)then kOpt (qzU c7_0 (v3.toNat)) λrow=>bif qzP (qzO row) 4 then bif qz8 4 (qzO row)then kTmC (qzT 4 row) λn n_1 s rows=>(bif qz8 (0+nc0_5) (qzO h1)&&qX (nc0_5+1) 56 then bif qz8 (0+nc0_5) (qzO h1)&&qX (nc0_5+1) 56 then bif qe 0 (↑ nc0_5:Int)&&qu (↑ nc0_5:Int) (↑ (nc0_5+1):Int)then kOpt (qzU (qAi (qzT nc0_5 h1) [[AV.int .i64 0,.int .i64 0,.str [],.nilS]]) (0+qzV (↑ nc0_5:Int))) λrow=>bif qz8 4 (qzO row)then kEqR (Ex.normal,(fx 169 [(2,.ptr 4 0 0),(7,.ptr 9 0 0),(84,.int .i64 v3),(85,.agg [.int .i64 n,.int .i64 n_1,.str s,.sl rows])]),[.rows false 9 [[AV.int .i64 c0_0,.int .i64 c0_1,.str c0_2,.sl c0_3,.int .i64 c0_4,.ms 10 0 (nc0_5+1),.ms 2 0 nc0_6,AV.mp 3,.bool c0_8]],.dead,.rows true 4 h2,ABlk.mp true m3,.rows false 1 [[.ptr 0 0 0]],.rows false 7 [[AV.int .i64 c5_0,.int .i64 c5_1,.int .i64 c5_2,.int .i64 c5_3,.int .i64 c5_4,.str c5_5,.sl c5_6]],.rows false 4 [[AV.int .i64 c6_0,.int .i64 c6_1,.str c6_2,.sl c6_3]],.rows false 1 [[.sl c7_0]],rngB Tryz.f90 90 [1,1,1,1,0,1,0,1,0,1,1,0] (fx 169 [(2,.ptr 4 0 0)]) none LoopState.busy,.rows false 4 [[AV.int .i64 n,.int .i64 n_1,.str s,.sl rows]],.rows true 4 (qAi (qzT nc0_5 h1) [[AV.int .i64 n,.int .i64 n_1,.str s,.sl rows]])]) (Ex.normal,(fx 169 [(2,.ptr 4 0 0),(7,.ptr 9 0 0),(84,.int .i64 v3),(85,.agg [.int .i64 n,.int .i64 n_1,.str s,.sl rows])]),[.rows false 9 [[AV.int .i64 c0_0,.int .i64 c0_1,.str c0_2,.sl c0_3,.int .i64 c0_4,.ms 10 0 (nc0_5+1),.ms 2 0 nc0_6,AV.mp 3,.bool c0_8]],.dead,.rows true 4 h2,ABlk.mp true m3,.rows false 1 [[.ptr 0 0 0]],.rows false 7 [[AV.int .i64 c5_0,.int .i64 c5_1,.int .i64 c5_2,.int .i64 c5_3,.int .i64 c5_4,.str c5_5,.sl c5_6]],.rows false 4 [[AV.int .i64 c6_0,.int .i64 c6_1,.str c6_2,.sl c6_3]],.rows false 1 [[.sl c7_0]],rngB Tryz.f90 90 [1,1,1,1,0,1,0,1,0,1,1,0] (fx 169 [(2,.ptr 4 0 0)]) none LoopState.busy,.rows false 4 [[AV.int .i64 n,.int .i64 n_1,.str s,.sl rows]],.rows true 4 (List.set (qAi (qzT nc0_5 h1) [[AV.int .i64 0,.int .i64 0,.str [],.nilS]]) (0+qzV (↑ nc0_5:Int)) (.int .i64 n:: .int .i64 n_1:: .str s:: .sl rows::List.drop 4 row))]) (qds (qzQ .i64 (v3 - 1)) c0_0 c0_1 c0_2 c0_3 c0_4 (nc0_5+1) nc0_6 c0_8 h2 m3 c5_0 c5_1 c5_2 c5_3 c5_4 c5_5 c5_6 c6_0 c6_1 c6_2 c6_3 c7_0 (qAi (qzT nc0_5 h1) [[AV.int .i64 n,.int .i64 n_1,.str s,.sl rows]]))else none else none else none else none)else none else none else none else some (.int .i64 0,[.rows false 9 [[AV.int .i64 c0_0,.int .i64 c0_1,.str c0_2,.sl c0_3,.int .i64 c0_4,.ms 1 0 nc0_5,.ms 2 0 nc0_6,AV.mp 3,.bool c0_8]],.rows true 4 (qzT nc0_5 h1),.rows true 4 h2,ABlk.mp true m3])) P):Gets (v9 v3 c0_0 c0_1 c0_2 c0_3 c0_4 nc0_5 nc0_6 c0_8 h1 h2 m3 c5_0 c5_1 c5_2 c5_3 c5_4 c5_5 c5_6 c6_0 c6_1 c6_2 c6_3 c7_0) P:=
  gE (λ_=>qM (cfg:=cfg) (f:=203) (rd:=none) (bs:=9)) (by kernel_rfl) h
theorem qeh(v3 c0_0 c0_1:Int)(c0_2:Bz)(c0_3:Rz)(c0_4:Int)(nc0_5 nc0_6:Nat)(c0_8:Bool)(h2:Rz)(m3:List (AV×AV))(c5_0 c5_1 c5_2 c5_3 c5_4:Int)(c5_5:Bz)(c5_6:Rz)(c6_0 c6_1:Int)(c6_2:Bz)(c6_3 c7_0 h9:Rz){P:AV×AH->Prop}(h:Gets (bif decide (v3≥0)then bif qe 0 v3&&qu v3 (c7_0.length:Int)then kOpt (qzU c7_0 (v3.toNat)) λrow=>bif qzP (qzO row) 4 then bif qz8 4 (qzO row)then kTmC (qzT 4 row) λn n_1 s rows=>(bif qz8 (0+nc0_5) (qzO h9)&&qX (nc0_5+1) 56 then bif qz8 (0+nc0_5) (qzO h9)&&qX (nc0_5+1) 56 then bif qe 0 (↑ nc0_5:Int)&&qu (↑ nc0_5:Int) (↑ (nc0_5+1):Int)then kOpt (qzU (qAi (qzT nc0_5 h9) [[AV.int .i64 0,.int .i64 0,.str [],.nilS]]) (0+qzV (↑ nc0_5:Int))) λrow=>bif qz8 4 (qzO row)then kEqR (Ex.normal,(fx 169 [(2,.ptr 4 0 0),(7,.ptr 10 0 0),(84,.int .i64 v3),(85,.agg [.int .i64 n,.int .i64 n_1,.str s,.sl rows])]),[.rows false 9 [[AV.int .i64 c0_0,.int .i64 c0_1,.str c0_2,.sl c0_3,.int .i64 c0_4,.ms 11 0 (nc0_5+1),.ms 2 0 nc0_6,AV.mp 3,.bool c0_8]],.dead,.rows true 4 h2,ABlk.mp true m3,.rows false 1 [[.ptr 0 0 0]],.rows false 7 [[AV.int .i64 c5_0,.int .i64 c5_1,.int .i64 c5_2,.int .i64 c5_3,.int .i64 c5_4,.str c5_5,.sl c5_6]],.rows false 4 [[AV.int .i64 c6_0,.int .i64 c6_1,.str c6_2,.sl c6_3]],.rows false 1 [[.sl c7_0]],rngB Tryz.f90 90 [1,1,1,1,0,1,0,1,0,1,1,0] (fx 169 [(2,.ptr 4 0 0)]) none LoopState.busy,.dead,.rows false 4 [[AV.int .i64 n,.int .i64 n_1,.str s,.sl rows]],.rows true 4 (qAi (qzT nc0_5 h9) [[AV.int .i64 n,.int .i64 n_1,.str s,.sl rows]])]) (Ex.normal,(fx 169 [(2,.ptr 4 0 0),(7,.ptr 10 0 0),(84,.int .i64 v3),(85,.agg [.int .i64 n,.int .i64 n_1,.str s,.sl rows])]),[.rows false 9 [[AV.int .i64 c0_0,.int .i64 c0_1,.str c0_2,.sl c0_3,.int .i64 c0_4,.ms 11 0 (nc0_5+1),.ms 2 0 nc0_6,AV.mp 3,.bool c0_8]],.dead,.rows true 4 h2,ABlk.mp true m3,.rows false 1 [[.ptr 0 0 0]],.rows false 7 [[AV.int .i64 c5_0,.int .i64 c5_1,.int .i64 c5_2,.int .i64 c5_3,.int .i64 c5_4,.str c5_5,.sl c5_6]],.rows false 4 [[AV.int .i64 c6_0,.int .i64 c6_1,.str c6_2,.sl c6_3]],.rows false 1 [[.sl c7_0]],rngB Tryz.f90 90 [1,1,1,1,0,1,0,1,0,1,1,0] (fx 169 [(2,.ptr 4 0 0)]) none LoopState.busy,.dead,.rows false 4 [[AV.int .i64 n,.int .i64 n_1,.str s,.sl rows]],.rows true 4 (List.set (qAi (qzT nc0_5 h9) [[AV.int .i64 0,.int .i64 0,.str [],.nilS]]) (0+qzV (↑ nc0_5:Int)) (.int .i64 n:: .int .i64 n_1:: .str s:: .sl rows::List.drop 4 row))]) (qds (qzQ .i64 (v3 - 1)) c0_0 c0_1 c0_2 c0_3 c0_4 (nc0_5+1) nc0_6 c0_8 h2 m3 c5_0 c5_1 c5_2 c5_3 c5_4 c5_5 c5_6 c6_0 c6_1 c6_2 c6_3 c7_0 (qAi (qzT nc0_5 h9) [[AV.int .i64 n,.int .i64 n_1,.str s,.sl rows]]))else none else none else none else none)else none else none else none else some (.int .i64 (0:Int),[.rows false 9 [[AV.int .i64 c0_0,.int .i64 c0_1,.str c0_2,.sl c0_3,.int .i64 c0_4,.ms 1 0 nc0_5,.ms 2 0 nc0_6,AV.mp 3,.bool c0_8]],.rows true 4 (qzT nc0_5 h9),.rows true 4 h2,ABlk.mp true m3])) P):Gets (qds v3 c0_0 c0_1 c0_2 c0_3 c0_4 nc0_5 nc0_6 c0_8 h2 m3 c5_0 c5_1 c5_2 c5_3 c5_4 c5_5 c5_6 c6_0 c6_1 c6_2 c6_3 c7_0 h9) P:=
  gE (λ_=>qM (cfg:=cfg) (f:=203) (rd:=none) (bs:=9)) (by kernel_rfl) h
theorem qh2(R:List (List AV))(z c:List AV):List.set (qAi R [z]) (0+qzV (R.length:Int)) c=qAi R [c]:=by
 rw[Nat.zero_add,qAk];show List.set (R++[z]) _ _=R++[c];rw[List.set_append_right _ _ (qz0 _),Nat.sub_self];rfl
theorem qlc(R:List (List AV))(z:List AV):qzU (qAi R [z]) (0+qzV (R.length:Int))=some z:=qa6 R z
theorem qlh{n:Nat}(h:n<1099511627776):qzQ .i64 ((((n+1:Nat):Int) - 1) - 1)=(n:Int) - 1:=by
 rw[qS (by omega) (by omega)];omega
theorem qqT{o:Tm}{self:Int}{V:List (List AV)}{es:List (AV×AV)}{b:Bool}{x:InsA}{t:Tm}{ts:List Tm}(hts:ts.length<1000000):∀(j:Nat),j<=ts.length->∀(R:List (List AV)),R.length+j<1099511627776 ->
  Gets (qds ((j:Int) - 1) o.kind o.num o.str (qb o.subs) self R.length V.length b V es x.o x.a x.b x.t.kind x.t.num x.t.str (qb x.t.subs) t.kind t.num t.str (qb t.subs) (qb ts) R)
   (·=(.int .i64 0,mkS o self (R++qb (ts.take j).reverse) V es b)):=by
 intro j
 induction j with
 |zero=>
  intro _ R _;refine qeh _ _ _ _ _ _ _ _ _ _ _ _ _ _ _ _ _ _ _ _ _ _ _ _ ?_;rw[qAv (by omega),cond_false];refine⟨_,rfl,?_⟩;simp
 |succ j ih=>
  intro hj R hR;have hjl:j<ts.length:=by omega
  have g0:ts[j]? =some ts[j]:=qzS hjl;have e0:(((j+1:Nat):Int) - 1)=(j:Int):=by omega
  have h1:=ih (by omega) (R++[ts[j].cells]) (by simp;omega);refine qeh _ _ _ _ _ _ _ _ _ _ _ _ _ _ _ _ _ _ _ _ _ _ _ _ ?_;rw[qlh (by omega),e0];have e1:(qe 0 (j:Int)&&qu (j:Int) ((qb ts).length:Int))=true:=by simp;omega
  have e2:(qz8 (0+R.length) R.length&&qX (R.length+1) 56)=true:=by
   rw[yv (by omega),nble,qAu (by omega)];rfl
  have e3:(qe (0:Int) (R.length:Int)&&qu (R.length:Int) ((R.length+1:Nat):Int))=true:=by simp
  rw[qAu (show(j:Int)≥0 by omega),e1,qdy g0,qz4,qlc,e2,e3];have ht4:qzT 4 ts[j].cells=ts[j].cells:=by rw[Tm.cells_eq];rfl
  have hl4:qz8 4 ts[j].cells.length=true:=by rw[Tm.cells_eq];rfl
  have hb4:qzP ts[j].cells.length 4=true:=by rw[Tm.cells_eq];rfl
  simp only[qc,cond_true,ht4,hl4,hb4,qv];have hz:(List.drop 4 [AV.int .i64 (0:Int),.int .i64 (0:Int),.str [],.nilS])=[]:=rfl;rw[hz,qh2];have hc:[AV.int .i64 ts[j].kind,.int .i64 ts[j].num,.str ts[j].str,.sl (qb ts[j].subs)]=ts[j].cells:=by rw[Tm.cells_eq]
  have hn:(qz8 4 [AV.int .i64 (0:Int),.int .i64 (0:Int),.str [],.nilS].length)=true:=rfl;rw[hn,cond_true,qdF,hc];have e4:(R++[ts[j].cells]).length=R.length+1:=by simp
  rw[e4]at h1;refine h1.mono λr hr=>?_
  rw[hr];have e5:(ts.take (j+1)).reverse=ts[j]::(ts.take j).reverse:=by rw[List.take_add_one,g0];simp
  rw[e5,q4,List.append_assoc];rfl
theorem qsM{o:Tm}{self:Int}{V:List (List AV)}{es:List (AV×AV)}{b:Bool}{x:InsA}{t:Tm}{ts:List Tm}(hts:ts.length<1000000)(R:List (List AV))(c:List AV)(hR:R.length+ts.length<1099511627776):
  Gets (v9 (qzQ .i64 ((ts.length:Int) - 1)) o.kind o.num o.str (qb o.subs) self R.length V.length b (R++[c]) V es x.o x.a x.b x.t.kind x.t.num x.t.str (qb x.t.subs) t.kind t.num t.str (qb t.subs) (qb ts))
   (·=(.int .i64 0,mkS o self (R++qb ts.reverse) V es b)):=by
 rw[qS (by omega) (by omega)];refine qlW _ _ _ _ _ _ _ _ _ _ _ _ _ _ _ _ _ _ _ _ _ _ _ _ ?_;rw[List.take_left];cases hj:ts.length with
 |zero=>
  obtain rfl:ts=[]:=List.length_eq_zero_iff.1 hj;rw[qAv (by omega),cond_false];refine⟨_,rfl,?_⟩;simp
 |succ j=>
  have hjl:j<ts.length:=by omega
  have g0:ts[j]? =some ts[j]:=qzS hjl;have e0:(((j+1:Nat):Int) - 1)=(j:Int):=by omega
  have h1:=qqT (o:=o) (self:=self) (V:=V) (es:=es) (b:=b) (x:=x) (t:=t) hts j (by omega) (R++[ts[j].cells]) (by simp;omega);rw[qlh (by omega),e0];have e1:(qe 0 (j:Int)&&qu (j:Int) ((qb ts).length:Int))=true:=by simp;omega
  have e2:(qz8 (0+R.length) (R++[c]).length&&qX (R.length+1) 56)=true:=by
   rw[yv (by omega),nble,qAu (by simp)];rfl
  have e3:(qe (0:Int) (R.length:Int)&&qu (R.length:Int) ((R.length+1:Nat):Int))=true:=by simp
  rw[qAu (show(j:Int)≥0 by omega),e1,qdy g0,qlc,e2,e3];have ht4:qzT 4 ts[j].cells=ts[j].cells:=by rw[Tm.cells_eq];rfl
  have hl4:qz8 4 ts[j].cells.length=true:=by rw[Tm.cells_eq];rfl
  have hb4:qzP ts[j].cells.length 4=true:=by rw[Tm.cells_eq];rfl
  simp only[qc,cond_true,ht4,hl4,hb4,qv];have hz:(List.drop 4 [AV.int .i64 (0:Int),.int .i64 (0:Int),.str [],.nilS])=[]:=rfl;rw[hz,qh2];have hc:[AV.int .i64 ts[j].kind,.int .i64 ts[j].num,.str ts[j].str,.sl (qb ts[j].subs)]=ts[j].cells:=by rw[Tm.cells_eq]
  have hn:(qz8 4 [AV.int .i64 (0:Int),.int .i64 (0:Int),.str [],.nilS].length)=true:=rfl;rw[hn,cond_true,qdF,hc];have e4:(R++[ts[j].cells]).length=R.length+1:=by simp
  rw[e4]at h1;refine h1.mono λr hr=>?_
  rw[hr];have e5:ts.reverse=ts[j]::(ts.take j).reverse:=by
   have:ts=ts.take (j+1):=(qAa (by omega)).symm;rw[show ts.reverse=(ts.take (j+1)).reverse by rw[←this],List.take_add_one,g0];simp
  rw[e5,q4,List.append_assoc];rfl
theorem qhv{a b:Tm}(h:a.w<1099511627776):EVs (EV cfg) 151 [a.av,b.av]=some (.bool (decide (a=b))):=by
 obtain⟨v,hv,c,rfl,hc⟩:=qw6 h b;rw[hv]
 congr 2
 cases c with
 |true=>rw[qAu (hc.1 rfl)]
 |false=>rw[qAv λe=>absurd (hc.2 e) (by decide)]
theorem qqS{o:Tm}{self:Int}{s:SK}{x:InsA}(hx:x.o=1∨x.o=2∨x.o=3∨x.o=4∨x.o=5∨x.o=6)(hxw:x.t.w<1099511627776)(hs:SOk s)(hl:s.left.length<1000000000):
  EVj (EV cfg) 90 1 [.ptr 0 0 0,x.av] (stS o self s)=some (.int .i64 (howI (zm opsK s x).1),stS o self (zm opsK s x).2):=by
 obtain⟨L,V,B,b⟩:=s;have hm:=qc1 hxw;apply Gets.get;rw[InsA.av,Tm.cells_eq];refine qo0 _ _ _ _ _ _ _ _ _ _ _ _ _ _ _ _ ?_;cases L with
 |nil=>exact⟨_,rfl,rfl⟩
 |cons t r=>
  have htc:t.chk=0:=hs.left t (by simp);have htw:=xO htc;have hsl:=qbD htc;rw[yw];generalize hR:qb r.reverse=R;generalize hVV:qb V.reverse=VV;have hlR:R.length=r.length:=by rw[←hR];simp
  have hr:r.length<1000000000:=by simp at hl;omega
  have e0:((((R++[t.cells]).length:Nat):Int)==(0:Int))=false:=by simp<;>omega
  have e1:qzQ .i64 ((((R++[t.cells]).length:Nat):Int) - 1)=(R.length:Int):=by
   rw[qAc];exact qa8 (by omega)
  have e2:(qe (0:Int) (R.length:Int)&&qu (R.length:Int) (((R++[t.cells]).length:Nat):Int))=true:=by simp
  have e3:(qe (0:Int) (R.length:Int)&&qe (R.length:Int) (((R++[t.cells]).length:Nat):Int))=true:=by simp
  have hloop:=qsM (o:=o) (self:=self) (V:=VV) (es:=mB B) (b:=b) (x:=x) (t:=t) (ts:=t.subs) (by omega) R t.cells (by omega);have et:(qzV (R.length:Int) - 0)=R.length:=by simp
  have ht4:qzT 4 t.cells=t.cells:=by rw[Tm.cells_eq];rfl
  have hl4:qz8 4 t.cells.length=true:=by rw[Tm.cells_eq];rfl
  have s2:∀(w:How),(AV.int .i64 (howI w),mkS o self R VV (mB B) b)=(AV.int .i64 (howI w),stS o self ⟨r,V,B,b⟩):=λw=>by
   rw[stS,hR,hVV]
  have s3:(AV.int .i64 0,mkS o self (R++qb t.subs.reverse) VV (mB B) b)=(AV.int .i64 (howI .next),stS o self ⟨t.subs++r,V,B,b⟩):=by
   rw[stS,List.reverse_append,vO,hR,hVV];rfl
  have s4:∀(es:List (AV×AV)) (B':List (Int×Tm)),es=mB B'->(AV.int .i64 0,mkS o self R VV es b)=(AV.int .i64 (howI .next),stS o self ⟨r,V,B',b⟩):=λes B' e=>by
   rw[stS,hR,hVV,e];rfl
  rw[e0,e1,e2,e3,qa6,qge,et];simp only[qc,cond_false,cond_true,hl4,ht4,qv,beqI,bneD,qj];unfold zm;simp only[];rcases hx with hx|hx|hx|hx|hx|hx
  ·simp only[hx,qAb,decide_true,cond_true,if_true]
   by_cases ha:x.a<0
   ·simp only[ha,decide_true,cond_true,if_true];exact⟨_,rfl,s2 .broken⟩
   simp only[ha,decide_false,cond_false,if_false]
   by_cases h7:t.kind=7
   ·by_cases hla:(t.subs.length:Int)=x.a
    ·simp only[h7,hla,decide_true,qAj,cond_false,and_self,if_true];rw[hx,h7,←hla]at hloop;simp only[←hla];exact hloop.mono λr hr=>hr.trans s3
    ·simp only[h7,hla,decide_true,decide_false,qAj,qAp,cond_true,cond_false,and_false,if_false];exact⟨_,rfl,s2 .fails⟩
   ·simp only[h7,decide_false,qAp,cond_true,false_and,if_false];exact⟨_,rfl,s2 .fails⟩
  ·simp only[hx,qAb,decide_true,decide_false,cond_true,cond_false,if_true,if_false]
   by_cases h9:t.kind=9
   ·simp only[h9,decide_true,qAj,cond_false,if_true];rw[hx,h9]at hloop;exact hloop.mono λr hr=>hr.trans s3
   ·simp only[h9,decide_false,qAp,cond_true,if_false];exact⟨_,rfl,s2 .fails⟩
  ·simp only[hx,qAb,decide_true,decide_false,cond_true,cond_false,if_true,if_false];cases hlk:qR x.a B with
   |none=>
    rw[qes 0 hlk]
    by_cases ha:x.a<0
    ·simp only[qc,zY,ha,decide_true,cond_true,true_or,if_true];exact⟨_,rfl,s2 .broken⟩
    by_cases hb:x.a>99
    ·simp only[qc,zY,ha,hb,decide_true,decide_false,cond_true,cond_false,or_true,if_true];exact⟨_,rfl,s2 .broken⟩
    simp only[qc,zY,ha,hb,decide_false,cond_false,or_self,if_false];exact⟨_,rfl,s4 _ (putB x.a t B) (by rw[qts hlk,Tm.av,Tm.cells_eq];rfl)⟩
   |some u=>
    obtain⟨j,hj,hset⟩:=qer (B:=B) 0 hlk;rw[hj]
    by_cases ha:x.a<0
    ·simp only[qc,yb,ve,ha,decide_true,cond_true,true_or,if_true];exact⟨_,rfl,s2 .broken⟩
    by_cases hb:x.a>99
    ·simp only[qc,yb,ve,ha,hb,decide_true,decide_false,cond_true,cond_false,or_true,if_true];exact⟨_,rfl,s2 .broken⟩
    simp only[qc,yb,ve,ha,hb,decide_false,cond_false,or_self,if_false];exact⟨_,rfl,s4 _ (putB x.a t B) (by rw[←hset t,Tm.av,Tm.cells_eq,Nat.zero_add])⟩
  ·simp only[hx,qAb,decide_true,decide_false,cond_true,cond_false,if_true,if_false];cases hlk:qR x.a B with
   |none=>
    rw[qes 0 hlk]
    by_cases ha:x.a<0
    ·simp only[qc,zY,ha,decide_true,cond_true,true_or,if_true];exact⟨_,rfl,s2 .broken⟩
    by_cases hb:x.a>99
    ·simp only[qc,zY,ha,hb,decide_true,decide_false,cond_true,cond_false,or_true,if_true];exact⟨_,rfl,s2 .broken⟩
    simp only[qc,zY,ha,hb,decide_false,cond_false,or_self,if_false];exact⟨_,rfl,s2 .broken⟩
   |some u=>
    obtain⟨j,hj,hset⟩:=qer (B:=B) 0 hlk;have huw:=xO (hs.binds _ (qbf hlk)).1;have hsame:=qhv (a:=u) (b:=t) (by simp only[]at huw;omega);rw[hj]
    by_cases ha:x.a<0
    ·simp only[qc,yb,ve,ha,decide_true,cond_true,true_or,if_true];exact⟨_,rfl,s2 .broken⟩
    by_cases hb:x.a>99
    ·simp only[qc,yb,ve,ha,hb,decide_true,decide_false,cond_true,cond_false,or_true,if_true];exact⟨_,rfl,s2 .broken⟩
    simp only[qc,yb,ve,ha,hb,decide_false,cond_false,or_self,if_false,qK,hsame,qg]
    by_cases he:u=t
    ·rw[qAu he,qAw he];exact⟨_,rfl,s2 .next⟩
    ·rw[qAv he,qAx he];exact⟨_,rfl,s2 .fails⟩
  ·simp only[hx,qAb,decide_false,cond_false,if_false];exact⟨_,rfl,s2 .next⟩
  ·have hsame:=qhv (a:=t) (b:=x.t) (by omega);simp only[hx,qAb,decide_true,decide_false,cond_true,cond_false,if_true,if_false,qK,hm,hsame,qc,qg]
   by_cases hc:x.t.chk=0
   ·by_cases he:t=x.t
    ·simp only[hc,decide_true,qAj,cond_false,if_true];rw[qAu he,qAw he];exact⟨_,rfl,s2 .next⟩
    ·simp only[hc,decide_true,qAj,cond_false,if_true];rw[qAv he,qAx he];exact⟨_,rfl,s2 .fails⟩
   ·simp only[hc,decide_false,qAp,cond_true,if_false];exact⟨_,rfl,s2 .broken⟩
def qvA:Den:=evC cfg (EV cfg) 160 none 4 (sub (ql Tryz.f160) [1,0,1,0,0])
def qvJ:Ex×List AV×AH->Option (AV×AH):=kAft (Cfg.keepOut cfg 160 (qm (sub (ql Tryz.f160) [1,0,1,0,0]))) (xa 0 (kSeq (fun(fr:List AV) (H:AH)=>xR (Cfg.cut cfg 160 (qm (sub (ql Tryz.f160) [1,1]))) fr H fun(fr:List AV) (H:AH)=>vA cfg (EV cfg) (kfN cfg 6) 160 none 4 (sub (ql Tryz.f160) [1,1]) fr H (yY cfg 1 (Cfg.lift cfg 160 0) (qAt (Func.results Tryz.f160)))) (yY cfg 1 (Cfg.lift cfg 160 0) (qAt (Func.results Tryz.f160)))))
def qvt:List AV×AH->Option (AV×AH):=fun(p:List AV×AH)=>kOpt (LOOP 4 (some [0,1,4,6]) [] qvA p) qvJ
def qvB:Den:=evC cfg (EV cfg) 159 none 4 (sub (ql Tryz.f159) [1,1,1,0,1,0,0])
def qvK:Ex×List AV×AH->Option (AV×AH):=kAft (Cfg.keepOut cfg 159 (qm (sub (ql Tryz.f159) [1,1,1,0,1,0,0]))) (xa 0 (kSeq (fun(fr:List AV) (H:AH)=>xR (Cfg.cut cfg 159 (qm (sub (ql Tryz.f159) [1,1,1,1]))) fr H fun(fr:List AV) (H:AH)=>vA cfg (EV cfg) (kfN cfg 6) 159 none 4 (sub (ql Tryz.f159) [1,1,1,1]) fr H (yY cfg 1 (Cfg.lift cfg 159 0) (qAt (Func.results Tryz.f159)))) (yY cfg 1 (Cfg.lift cfg 159 0) (qAt (Func.results Tryz.f159)))))
def qvu:List AV×AH->Option (AV×AH):=fun(p:List AV×AH)=>kOpt (LOOP 4 (some [0,1,5,6,7,8]) [(6,5)] qvB p) qvK
def qvz:Den:=evC cfg (EV cfg) 163 none 0 (sub (ql Tryz.f163) [1,1,0,1,0,0])
def qvI:Ex×List AV×AH->Option AV:=kAft (Cfg.keepOut cfg 163 3) (kRun cfg (EV cfg) (kfN cfg 6) 163 none 0 (qcF cfg (Cfg.lift cfg 163 0) Tryz.f163.results.toList) ([.block 0,.seq (sub (ql Tryz.f163) [1,1,1])]))
def qvs:List AV×AH->Option AV:=λp=>kOpt (LOOP 0 (some [0,2,3,4]) ([]) qvz p) qvI
abbrev qeP(nn v6 c0_0 c0_1:Int)(c0_2:Bz)(c0_3:Rz)(c0_4:Int)(nc0_5 nc0_6 nc0_7:Nat)(c0_8:Bool)(h1 h2 h3:Rz)(c4_0 c4_1:Int)(c4_2:Bz)(c4_3:Rz):Option (AV×AH):=qvt (((fx 35 [(0,.ptr 0 0 0),(1,.int .i64 nn),(4,.ptr 4 0 0),(6,.int .i64 v6)]):List AV),([.rows false 9 [[.int .i64 c0_0,.int .i64 c0_1,.str c0_2,.sl c0_3,.int .i64 c0_4,.ms 1 0 nc0_5,.ms 2 0 nc0_6,.ms 3 0 nc0_7,.bool c0_8]],.rows true 4 h1,.rows true 4 h2,.rows true 5 h3,.rows false 4 [[.int .i64 c4_0,.int .i64 c4_1,.str c4_2,.sl c4_3]]]:AH))
abbrev z6(nn:Int)(nv6:Nat)(v7:Bool)(v8 c0_0 c0_1:Int)(c0_2:Bz)(c0_3:Rz)(c0_4:Int)(nc0_5 nc0_6 nc0_7:Nat)(c0_8:Bool)(h1 h2 h3:Rz)(c4_0 c4_1:Int)(c4_2:Bz)(c4_3 h5:Rz):Option (AV×AH):=qvu (((fx 70 [(0,.ptr 0 0 0),(1,.int .i64 nn),(5,.ptr 4 0 0),(6,.ms 5 0 nv6),(7,.bool v7),(8,.int .i64 v8)]):List AV),([.rows false 9 [[.int .i64 c0_0,.int .i64 c0_1,.str c0_2,.sl c0_3,.int .i64 c0_4,.ms 1 0 nc0_5,.ms 2 0 nc0_6,.ms 3 0 nc0_7,.bool c0_8]],.rows true 4 h1,.rows true 4 h2,.rows true 5 h3,.rows false 4 [[.int .i64 c4_0,.int .i64 c4_1,.str c4_2,.sl c4_3]],.rows true 5 h5]:AH))
abbrev qeO(l:Rz)(v4 c0_0 c0_1:Int)(c0_2:Bz)(c0_3:Rz)(c1_0 c1_1:Int)(c1_2:Bz)(c1_3:Rz):Option (AV):=qvs (((fx 21 [(0,.sl l),(2,.ptr 0 0 0),(3,.ptr 1 0 0),(4,.int .i64 v4)]):List AV),([.rows false 4 [[.int .i64 c0_0,.int .i64 c0_1,.str c0_2,.sl c0_3]],.rows false 4 [[.int .i64 c1_0,.int .i64 c1_1,.str c1_2,.sl c1_3]]]:AH))
theorem qqN(ko no self:Int)(so:Bz)(lo L V B:Rz)(bd:Bool){P:AV×AH->Prop}(h:Gets (some (AV.tup [],[.rows false 9 [[AV.int .i64 ko,.int .i64 no,.str so,.sl lo,.int .i64 self,.ms 1 0 1,.ms 2 0 0,.ms 3 0 0,.bool false]],.rows true 4 [[AV.int .i64 ko,.int .i64 no,.str so,.sl lo]],.rows true 4 [],.rows true 5 []])) P):Gets (EVj (EV cfg) 49 1 [.ptr 0 0 0] ([ABlk.rows false (9:Nat) [[AV.int qAn ko,AV.int qAn no,AV.str so,AV.sl lo,AV.int qAn self,AV.ms (1:Nat) (0:Nat) (qzO L),AV.ms (2:Nat) (0:Nat) (qzO V),AV.ms (3:Nat) (0:Nat) (qzO B),AV.bool bd]],ABlk.rows true (4:Nat) L,ABlk.rows true (4:Nat) V,ABlk.rows true (5:Nat) B]:AH)) P:=
  gE (λ_=>funJ rfl rfl Tryz.func49 rfl) (by kernel_rfl) h
theorem qll(ko no self:Int)(so:Bz)(lo L V B:Rz)(bd:Bool){P:AV×AH->Prop}(h:Gets (bif(L.length:Int)==0 then some (AV.tup [.agg [.int .i64 0,.int .i64 0,.str [],.sl []],.bool false],[.rows false 9 [[AV.int .i64 ko,.int .i64 no,.str so,.sl lo,.int .i64 self,.ms 1 0 (qzO L),.ms 2 0 (qzO V),.ms 3 0 (qzO B),.bool bd]],.rows true 4 L,.rows true 4 V,.rows true 5 B])else bif qe 0 (qzQ .i64 ((L.length:Int) - 1))&&qu (qzQ .i64 ((L.length:Int) - 1)) (L.length:Int)then kOpt (qzU L (0+qzV (qzQ .i64 ((L.length:Int) - 1)))) λrow=>bif qz8 4 (qzO row)then kTmC (qzT 4 row) λn n_1 s rows=>(bif qe 0 (qzQ .i64 ((L.length:Int) - 1))&&qe (qzQ .i64 ((L.length:Int) - (1:Int))) (L.length:Int)then bif qz8 (0+(qzV (qzQ .i64 ((L.length:Int) - 1)) - 0)) (qzO L)then bif qX (0+qzO (qzT (qzV (qzQ .i64 ((L.length:Int) - 1)) - 0) L)) 56 then some (AV.tup [.agg [.int .i64 n,.int .i64 n_1,.str s,.sl rows],.bool true],[.rows false 9 [[AV.int .i64 ko,.int .i64 no,.str so,.sl lo,.int .i64 self,.ms 1 0 (0+qzO (qzT (qzV (qzQ .i64 ((L.length:Int) - 1)) - 0) L)),.ms 2 0 (qzO V),.ms 3 0 (qzO B),.bool bd]],.rows true 4 (qzT (0+qzO (qzT (qzV (qzQ .i64 ((L.length:Int) - 1)) - 0) L)) (qzT (qzV (qzQ .i64 ((L.length:Int) - 1)) - 0) L)),.rows true 4 V,.rows true 5 B])else none else none else none)else none else none) P):Gets (EVj (EV cfg) 157 1 [.ptr 0 0 0] ([ABlk.rows false (9:Nat) [[AV.int qAn ko,AV.int qAn no,AV.str so,AV.sl lo,AV.int qAn self,AV.ms (1:Nat) (0:Nat) (qzO L),AV.ms (2:Nat) (0:Nat) (qzO V),AV.ms (3:Nat) (0:Nat) (qzO B),AV.bool bd]],ABlk.rows true (4:Nat) L,ABlk.rows true (4:Nat) V,ABlk.rows true (5:Nat) B]:AH)) P:=
  gE (λ_=>funJ rfl rfl Tryz.func157 rfl) (by kernel_rfl) h
theorem qqH(ko no self:Int)(so:Bz)(lo L V B:Rz)(bd:Bool)(kt nt:Int)(st:Bz)(lt:Rz){P:AV×AH->Prop}(h:Gets (bif qz8 (0+qzO V) (qzO V)then bif qX (0+qzO (qzT (qzO V) V)) 56 then bif qz8 (0+(0+qzO (qzT (qzO V) V))) (qzO (qzT (qzO V) V))&&qX (0+qzO (qzT (qzO V) V)+1) 56 then some (.int .i64 0,[.rows false 9 [[AV.int .i64 ko,.int .i64 no,.str so,.sl lo,.int .i64 self,.ms 1 0 (qzO L),.ms 2 0 (0+qzO (qzT (qzO V) V)+1),.ms 3 0 (qzO B),.bool bd]],.rows true 4 L,.rows true 4 (qzT (0+qzO (qzT (qzO V) V)+1) (qAi (qzT (0+qzO (qzT (qzO V) V)) (qzT (qzO V) V)) [[AV.int .i64 kt,.int .i64 nt,.str st,.sl lt]])),.rows true 5 B])else none else none else none) P):Gets (EVj (EV cfg) 161 1 [.ptr 0 0 0,.agg [.int .i64 kt,.int .i64 nt,.str st,.sl lt]] ([ABlk.rows false (9:Nat) [[AV.int qAn ko,AV.int qAn no,AV.str so,AV.sl lo,AV.int qAn self,AV.ms (1:Nat) (0:Nat) (qzO L),AV.ms (2:Nat) (0:Nat) (qzO V),AV.ms (3:Nat) (0:Nat) (qzO B),AV.bool bd]],ABlk.rows true (4:Nat) L,ABlk.rows true (4:Nat) V,ABlk.rows true (5:Nat) B]:AH)) P:=
  gE (λ_=>funJ rfl rfl Tryz.func161 rfl) (by kernel_rfl) h
theorem qiV(ko no self:Int)(so:Bz)(lo L V B:Rz)(bd:Bool)(nn:Int){P:AV×AH->Prop}(h:Gets (bif decide (nn<0)then some (AV.tup [.sl [],.bool false],[.rows false 9 [[AV.int .i64 ko,.int .i64 no,.str so,.sl lo,.int .i64 self,.ms 1 0 (qzO L),.ms 2 0 (qzO V),.ms 3 0 (qzO B),.bool bd]],.rows true 4 L,.rows true 4 V,.rows true 5 B])else bif decide (nn>(V.length:Int))then some (AV.tup [.sl [],.bool false],[.rows false 9 [[AV.int .i64 ko,.int .i64 no,.str so,.sl lo,.int .i64 self,.ms 1 0 (qzO L),.ms 2 0 (qzO V),.ms 3 0 (qzO B),.bool bd]],.rows true 4 L,.rows true 4 V,.rows true 5 B])else bif qe 0 (qzQ .i64 ((V.length:Int) - nn))&&qe (qzQ .i64 ((V.length:Int) - nn)) (V.length:Int)then bif qz8 (0+qzV (qzQ .i64 ((V.length:Int) - nn))+(qzO V - qzV (qzQ .i64 ((V.length:Int) - nn)))) (qzO V)then bif qX (0+qzO (qzT (qzO V - qzV (qzQ .i64 ((V.length:Int) - nn))) (List.drop (0+qzV (qzQ .i64 ((↑ (qzO V):Int) - nn))) V))) 56 then bif qe 0 (qzQ .i64 ((V.length:Int) - nn))&&qe (qzQ .i64 ((V.length:Int) - nn)) (↑ (qzO V):Int)then bif qz8 (0+(qzV (qzQ .i64 ((V.length:Int) - nn)) - 0)) (qzO V)then bif qX (0+qzO (qzT (qzV (qzQ .i64 ((V.length:Int) - nn)) - 0) V)) 56 then bif qz8 (0+(0+qzO (qzT (qzO V - qzV (qzQ .i64 ((V.length:Int) - nn))) (List.drop (0+qzV (qzQ .i64 ((V.length:Int) - nn))) V)))) (qzO (qzT (qzO V - qzV (qzQ .i64 ((V.length:Int) - nn))) (List.drop (0+qzV (qzQ .i64 ((V.length:Int) - nn))) V)))&&true then some (AV.tup [AV.sl (qzT (0+qzO (qzT (qzO V - qzV (qzQ .i64 ((V.length:Int) - nn))) (List.drop (0+qzV (qzQ .i64 ((V.length:Int) - nn))) V))) (qzT (qzO V - qzV (qzQ .i64 ((↑ (qzO V):Int) - nn))) (List.drop (0+qzV (qzQ .i64 ((V.length:Int) - nn))) V))),.bool true],[.rows false 9 [[AV.int .i64 ko,.int .i64 no,.str so,.sl lo,.int .i64 self,.ms 1 0 (qzO L),.ms 2 0 (0+qzO (qzT (qzV (qzQ .i64 ((V.length:Int) - nn)) - 0) V)),.ms 3 0 (qzO B),.bool bd]],.rows true 4 L,.rows true 4 (qzT (0+qzO (qzT (qzV (qzQ .i64 ((V.length:Int) - nn)) - 0) V)) (qzT (qzV (qzQ .i64 ((V.length:Int) - nn)) - 0) V)),.rows true 5 B])else none else none else none else none else none else none else none) P):Gets (EVj (EV cfg) 164 1 [.ptr 0 0 0,.int .i64 nn] ([ABlk.rows false (9:Nat) [[AV.int qAn ko,AV.int qAn no,AV.str so,AV.sl lo,AV.int qAn self,AV.ms (1:Nat) (0:Nat) (qzO L),AV.ms (2:Nat) (0:Nat) (qzO V),AV.ms (3:Nat) (0:Nat) (qzO B),AV.bool bd]],ABlk.rows true (4:Nat) L,ABlk.rows true (4:Nat) V,ABlk.rows true (5:Nat) B]:AH)) P:=
  gE (λ_=>funJ rfl rfl Tryz.func164 rfl) (by kernel_rfl) h
theorem qoY(ko no self:Int)(so:Bz)(lo L V B:Rz)(bd:Bool)(nn:Int){P:AV×AH->Prop}(h:Gets (qeP nn 0 ko no so lo self (qzO L) (qzO V) (qzO B) bd L V B 0 0 [] []) P):Gets (EVj (EV cfg) 160 1 [.ptr 0 0 0,.int .i64 nn] ([ABlk.rows false (9:Nat) [[AV.int qAn ko,AV.int qAn no,AV.str so,AV.sl lo,AV.int qAn self,AV.ms (1:Nat) (0:Nat) (qzO L),AV.ms (2:Nat) (0:Nat) (qzO V),AV.ms (3:Nat) (0:Nat) (qzO B),AV.bool bd]],ABlk.rows true (4:Nat) L,ABlk.rows true (4:Nat) V,ABlk.rows true (5:Nat) B]:AH)) P:=
  gE (λ_=>funJ rfl rfl Tryz.func160 rfl) (by kernel_rfl) h
theorem qqM(ko no self:Int)(so:Bz)(lo L V B:Rz)(bd:Bool)(nn kt nt:Int)(st:Bz)(lt:Rz){P:AV×AH->Prop}(h:Gets (z6 nn 0 false 0 ko no so lo self (qzO L) (qzO V) (qzO B) bd L V B kt nt st lt []) P):Gets (EVj (EV cfg) 159 1 [.ptr 0 0 0,.int .i64 nn,.agg [.int .i64 kt,.int .i64 nt,.str st,.sl lt]] ([ABlk.rows false (9:Nat) [[AV.int qAn ko,AV.int qAn no,AV.str so,AV.sl lo,AV.int qAn self,AV.ms (1:Nat) (0:Nat) (qzO L),AV.ms (2:Nat) (0:Nat) (qzO V),AV.ms (3:Nat) (0:Nat) (qzO B),AV.bool bd]],ABlk.rows true (4:Nat) L,ABlk.rows true (4:Nat) V,ABlk.rows true (5:Nat) B]:AH)) P:=
  gE (λ_=>funJ rfl rfl Tryz.func159 rfl) (by kernel_rfl) h
theorem qoU(ko no self:Int)(so:Bz)(lo L V B:Rz)(bd:Bool)(kt nt:Int)(st:Bz)(lt:Rz){P:AV×AH->Prop}(h:Gets (kOpt (EVs (EV cfg) 47 [.agg [.int .i64 kt,.int .i64 nt,.str st,.sl lt]]) λv=>kInt .i64 v λn=>bif n != 0 then some (.int .i64 2,[.rows false 9 [[AV.int .i64 ko,.int .i64 no,.str so,.sl lo,.int .i64 self,.ms 1 0 (qzO L),.ms 2 0 (qzO V),.ms 3 0 (qzO B),.bool bd]],.rows true 4 L,.rows true 4 V,.rows true 5 B])else kOpt (EVj (EV cfg) 161 1 [.ptr 0 0 0,.agg [.int .i64 kt,.int .i64 nt,.str st,.sl lt]] [.rows false 9 [[AV.int .i64 ko,.int .i64 no,.str so,.sl lo,.int .i64 self,.ms 1 0 (qzO L),.ms 2 0 (qzO V),.ms 3 0 (qzO B),.bool bd]],.rows true 4 (qzT (qzO L) L),.rows true 4 (qzT (qzO V) V),.rows true 5 (qzT (qzO B) B)]) λq=>qd q.2 λb bs=>qf b λd' n rs=>bif beqB false d'&&qzP n 9 then qW rs λrow rest=>vg rest (qd bs λb bs=>qf b λd' n rs=>bif beqB true d'&&qzP n 4 then qd bs λb bs=>qf b λd' n rs_1=>bif beqB true d'&&qzP n 4 then qd bs λb bs=>qf b λd' n rs_2=>bif beqB true d'&&qzP n 5 then qU bs (qa row λc cs=>kInt .i64 c λn=>qa cs λc cs=>kInt .i64 c λn_1=>qa cs λc cs=>kStr c λs=>qa cs λc cs=>kSl c λrows=>qa cs λc cs=>kInt .i64 c λn_2=>qa cs λc cs=>kMsE c λid off len=>bif qzP id 1&&(qzP off 0&&qzP len (qzO rs))then qa cs λc cs=>kMsE c λid off len=>bif qzP id 2&&(qzP off 0&&qzP len (qzO rs_1))then qa cs λc cs=>kMsE c λid off len=>bif qzP id 3&&(qzP off 0&&qzP len (qzO rs_2))then qa cs λc cs=>qq c λb=>kNil cs (kInt .i64 q.1 λn_3=>some (.int .i64 n_3,[.rows false 9 [[AV.int .i64 n,.int .i64 n_1,.str s,.sl rows,.int .i64 n_2,.ms 1 0 (qzO rs),.ms 2 0 (qzO rs_1),.ms 3 0 (qzO rs_2),.bool b]],.rows true 4 rs,.rows true 4 rs_1,.rows true 5 rs_2]))else none else none else none)else none else none else none)else none) P):Gets (EVj (EV cfg) 162 1 [.ptr 0 0 0,.agg [.int .i64 kt,.int .i64 nt,.str st,.sl lt]] ([ABlk.rows false (9:Nat) [[AV.int qAn ko,AV.int qAn no,AV.str so,AV.sl lo,AV.int qAn self,AV.ms (1:Nat) (0:Nat) (qzO L),AV.ms (2:Nat) (0:Nat) (qzO V),AV.ms (3:Nat) (0:Nat) (qzO B),AV.bool bd]],ABlk.rows true (4:Nat) L,ABlk.rows true (4:Nat) V,ABlk.rows true (5:Nat) B]:AH)) P:=
  gE (λ_=>funJ rfl rfl Tryz.func162 rfl) (by kernel_rfl) h
theorem qr5(l:Rz){P:AV->Prop}(h:Gets (qeO l (qzQ .i64 ((l.length:Int) - 1)) 0 0 [] [] 8 0 [] []) P):Gets (EVf (EV cfg) 163 [.sl l]) P:=
  gE (λ_=>funF rfl rfl Tryz.func163 rfl) (by kernel_rfl) h
theorem qoi(k n:Int)(s:Bz)(l:Rz){P:AV->Prop}(h:Gets (bif k==2 then bif k==2 then bif s==[(116:UInt8),(114:UInt8),(117:UInt8),(101:UInt8)]then some (AV.tup [.bool (s==[(116:UInt8),(114:UInt8),(117:UInt8),(101:UInt8)]),.bool true])else some (AV.tup [.bool (s==[(116:UInt8),(114:UInt8),(117:UInt8),(101:UInt8)]),.bool (s==[(102:UInt8),(97:UInt8),(108:UInt8),(115:UInt8),(101:UInt8)])])else some (AV.tup [.bool (s==[(116:UInt8),(114:UInt8),(117:UInt8),(101:UInt8)]),.bool false])else bif k==2 then bif s==[(116:UInt8),(114:UInt8),(117:UInt8),(101:UInt8)]then some (AV.tup [.bool false,.bool true])else some (AV.tup [.bool false,.bool (s==[(102:UInt8),(97:UInt8),(108:UInt8),(115:UInt8),(101:UInt8)])])else some (AV.tup [.bool false,.bool false])) P):Gets (EVs (EV cfg) 166 [.agg [.int .i64 k,.int .i64 n,.str s,.sl l]]) P:=
  gE (λ_=>funS rfl rfl Tryz.func166 rfl) (by kernel_rfl) h
theorem qfu(nn v6 c0_0 c0_1:Int)(c0_2:Bz)(c0_3:Rz)(c0_4:Int)(nc0_5 nc0_6 nc0_7:Nat)(c0_8:Bool)(h1 h2 h3:Rz)(c4_0 c4_1:Int)(c4_2:Bz)(c4_3:Rz){P:AV×AH->Prop}(h:Gets (bif decide (v6<(↑ nc0_7:Int))then bif qe 0 v6&&qu v6 (↑ nc0_7:Int)then kOpt (qzU h3 (0+v6.toNat)) λrow=>kOpt (qzU row 0) λv=>kInt .i64 v λn=>bif n==nn then bif qe 0 v6&&qu v6 (↑ nc0_7:Int)then kOpt (qzU h3 (0+v6.toNat)) λrow=>bif qz8 5 (qzO row)then qa (qzT 4 (List.drop 1 row)) λc cs=>kInt .i64 c λn=>qa cs λc cs=>kInt .i64 c λn_1=>qa cs λc cs=>kStr c λs=>qa cs λc cs=>kSl c λrows=>kNil cs (some (AV.tup [.agg [.int .i64 n,.int .i64 n_1,.str s,.sl rows],.bool true],[.rows false 9 [[AV.int .i64 c0_0,.int .i64 c0_1,.str c0_2,.sl c0_3,.int .i64 c0_4,.ms 1 0 nc0_5,.ms 2 0 nc0_6,.ms 3 0 nc0_7,.bool c0_8]],.rows true 4 h1,.rows true 4 h2,.rows true 5 h3]))else none else none else qeP nn (qzQ .i64 (v6+1)) c0_0 c0_1 c0_2 c0_3 c0_4 nc0_5 nc0_6 nc0_7 c0_8 h1 h2 h3 c4_0 c4_1 c4_2 c4_3 else none else some (AV.tup [.agg [.int .i64 0,.int .i64 0,.str [],.sl []],.bool false],[.rows false 9 [[AV.int .i64 c0_0,.int .i64 c0_1,.str c0_2,.sl c0_3,.int .i64 c0_4,.ms 1 0 nc0_5,.ms 2 0 nc0_6,.ms 3 0 nc0_7,.bool c0_8]],.rows true 4 h1,.rows true 4 h2,.rows true 5 h3])) P):Gets (qeP nn v6 c0_0 c0_1 c0_2 c0_3 c0_4 nc0_5 nc0_6 nc0_7 c0_8 h1 h2 h3 c4_0 c4_1 c4_2 c4_3) P:=
  gE (λ_=>qM (cfg:=cfg) (f:=160) (rd:=none) (bs:=4)) (by kernel_rfl) h
abbrev zz4(n nn v8:Int)(nc0_7:Nat)(h3:Rz)(nv6:Nat)(h5:Rz)(v7:Bool)(c0_0 c0_1:Int)(c0_2:Bz)(c0_3:Rz)(c0_4:Int)(nc0_5 nc0_6:Nat)(c0_8:Bool)(h1 h2:Rz)(c4_0 c4_1:Int)(c4_2:Bz)(c4_3:Rz):Option (AV×AH):=bif n != nn then bif qe 0 v8&&qu v8 (↑ nc0_7:Int)then kOpt (qzU h3 (0+v8.toNat)) λrow=>bif qz8 5 (qzO row)then qa (qzT 5 row) λc cs=>kInt .i64 c λn=>kTmC cs λn_1 n_2 s rows=>(bif qz8 (0+nv6) (qzO h5)&&qX (nv6+1) 64 then z6 nn (nv6+1) v7 (qzQ .i64 (v8+1)) c0_0 c0_1 c0_2 c0_3 c0_4 nc0_5 nc0_6 nc0_7 c0_8 h1 h2 h3 c4_0 c4_1 c4_2 c4_3 (qAi (qzT nv6 h5) [[AV.int .i64 n,.int .i64 n_1,.int .i64 n_2,.str s,.sl rows]])else none)else none else none else z6 nn nv6 v7 (qzQ .i64 (v8+1)) c0_0 c0_1 c0_2 c0_3 c0_4 nc0_5 nc0_6 nc0_7 c0_8 h1 h2 h3 c4_0 c4_1 c4_2 c4_3 h5
abbrev zz3(v:AV)(nn v8:Int)(nc0_7:Nat)(h3:Rz)(nv6:Nat)(h5:Rz)(v7:Bool)(c0_0 c0_1:Int)(c0_2:Bz)(c0_3:Rz)(c0_4:Int)(nc0_5 nc0_6:Nat)(c0_8:Bool)(h1 h2:Rz)(c4_0 c4_1:Int)(c4_2:Bz)(c4_3:Rz):Option (AV×AH):=kInt .i64 v λn=>zz4 n nn v8 nc0_7 h3 nv6 h5 v7 c0_0 c0_1 c0_2 c0_3 c0_4 nc0_5 nc0_6 c0_8 h1 h2 c4_0 c4_1 c4_2 c4_3
abbrev zz2(row:List AV)(nn v8:Int)(nc0_7:Nat)(h3:Rz)(nv6:Nat)(h5:Rz)(v7:Bool)(c0_0 c0_1:Int)(c0_2:Bz)(c0_3:Rz)(c0_4:Int)(nc0_5 nc0_6:Nat)(c0_8:Bool)(h1 h2:Rz)(c4_0 c4_1:Int)(c4_2:Bz)(c4_3:Rz):Option (AV×AH):=kOpt (qzU row 0) λv=>zz3 v nn v8 nc0_7 h3 nv6 h5 v7 c0_0 c0_1 c0_2 c0_3 c0_4 nc0_5 nc0_6 c0_8 h1 h2 c4_0 c4_1 c4_2 c4_3
abbrev zz1(h3:Rz)(v8 nn:Int)(nc0_7 nv6:Nat)(h5:Rz)(v7:Bool)(c0_0 c0_1:Int)(c0_2:Bz)(c0_3:Rz)(c0_4:Int)(nc0_5 nc0_6:Nat)(c0_8:Bool)(h1 h2:Rz)(c4_0 c4_1:Int)(c4_2:Bz)(c4_3:Rz):Option (AV×AH):=kOpt (qzU h3 (0+v8.toNat)) λrow=>zz2 row nn v8 nc0_7 h3 nv6 h5 v7 c0_0 c0_1 c0_2 c0_3 c0_4 nc0_5 nc0_6 c0_8 h1 h2 c4_0 c4_1 c4_2 c4_3
abbrev zz0(v8:Int)(nc0_7:Nat)(h3:Rz)(nn:Int)(nv6:Nat)(h5:Rz)(v7:Bool)(c0_0 c0_1:Int)(c0_2:Bz)(c0_3:Rz)(c0_4:Int)(nc0_5 nc0_6:Nat)(c0_8:Bool)(h1 h2:Rz)(c4_0 c4_1:Int)(c4_2:Bz)(c4_3:Rz):Option (AV×AH):=bif qe 0 v8&&qu v8 (↑ nc0_7:Int)then zz1 h3 v8 nn nc0_7 nv6 h5 v7 c0_0 c0_1 c0_2 c0_3 c0_4 nc0_5 nc0_6 c0_8 h1 h2 c4_0 c4_1 c4_2 c4_3 else none
theorem qaV(nn:Int)(nv6:Nat)(v7:Bool)(v8 c0_0 c0_1:Int)(c0_2:Bz)(c0_3:Rz)(c0_4:Int)(nc0_5 nc0_6 nc0_7:Nat)(c0_8:Bool)(h1 h2 h3:Rz)(c4_0 c4_1:Int)(c4_2:Bz)(c4_3 h5:Rz){P:AV×AH->Prop}(h:Gets (bif decide (v8<(↑ nc0_7:Int))then bif ! v7 then bif qe 0 v8&&qu v8 (↑ nc0_7:Int)then kOpt (qzU h3 (0+v8.toNat)) λrow=>kOpt (qzU row 0) λv=>kInt .i64 v λn=>bif decide (n≥nn)then bif qz8 (0+nv6) (qzO h5)&&qX (nv6+1) 64 then bif qe 0 v8&&qu v8 (↑ nc0_7:Int)then kOpt (qzU h3 (0+v8.toNat)) λrow=>kOpt (qzU row 0) λv=>kInt .i64 v λn=>bif n != nn then bif qe 0 v8&&qu v8 (↑ nc0_7:Int)then kOpt (qzU h3 (0+v8.toNat)) λrow=>bif qz8 5 (qzO row)then qa (qzT 5 row) λc cs=>kInt .i64 c λn=>kTmC cs λn_1 n_2 s rows=>(bif qz8 (0+(nv6+1)) (qzO (qAi (qzT nv6 h5) [[AV.int .i64 nn,.int .i64 c4_0,.int .i64 c4_1,.str c4_2,.sl c4_3]]))&&qX (nv6+1+1) 64 then z6 nn (nv6+1+1) true (qzQ .i64 (v8+1)) c0_0 c0_1 c0_2 c0_3 c0_4 nc0_5 nc0_6 nc0_7 c0_8 h1 h2 h3 c4_0 c4_1 c4_2 c4_3 (qAi (qzT (nv6+1) (qAi (qzT nv6 h5) [[AV.int .i64 nn,.int .i64 c4_0,.int .i64 c4_1,.str c4_2,.sl c4_3]])) [[AV.int .i64 n,.int .i64 n_1,.int .i64 n_2,.str s,.sl rows]])else none)else none else none else z6 nn (nv6+1) true (qzQ .i64 (v8+1)) c0_0 c0_1 c0_2 c0_3 c0_4 nc0_5 nc0_6 nc0_7 c0_8 h1 h2 h3 c4_0 c4_1 c4_2 c4_3 (qAi (qzT nv6 h5) [[AV.int .i64 nn,.int .i64 c4_0,.int .i64 c4_1,.str c4_2,.sl c4_3]])else none else none else zz0 v8 nc0_7 h3 nn nv6 h5 v7 c0_0 c0_1 c0_2 c0_3 c0_4 nc0_5 nc0_6 c0_8 h1 h2 c4_0 c4_1 c4_2 c4_3 else none else zz0 v8 nc0_7 h3 nn nv6 h5 v7 c0_0 c0_1 c0_2 c0_3 c0_4 nc0_5 nc0_6 c0_8 h1 h2 c4_0 c4_1 c4_2 c4_3 else bif ! v7 then bif qz8 (0+nv6) (qzO h5)&&qX (nv6+1) 64 then some (AV.tup [],[.rows false 9 [[AV.int .i64 c0_0,.int .i64 c0_1,.str c0_2,.sl c0_3,.int .i64 c0_4,.ms 1 0 nc0_5,.ms 2 0 nc0_6,.ms 3 0 (nv6+1),.bool c0_8]],.rows true 4 h1,.rows true 4 h2,.rows true 5 (qzT (nv6+1) (qAi (qzT nv6 h5) [[AV.int .i64 nn,.int .i64 c4_0,.int .i64 c4_1,.str c4_2,.sl c4_3]]))])else none else some (AV.tup [],[.rows false 9 [[AV.int .i64 c0_0,.int .i64 c0_1,.str c0_2,.sl c0_3,.int .i64 c0_4,.ms 1 0 nc0_5,.ms 2 0 nc0_6,.ms 3 0 nv6,.bool c0_8]],.rows true 4 h1,.rows true 4 h2,.rows true 5 (qzT nv6 h5)])) P):Gets (z6 nn nv6 v7 v8 c0_0 c0_1 c0_2 c0_3 c0_4 nc0_5 nc0_6 nc0_7 c0_8 h1 h2 h3 c4_0 c4_1 c4_2 c4_3 h5) P:=
  gE (λ_=>qM (cfg:=cfg) (f:=159) (rd:=none) (bs:=4)) (by kernel_rfl) h
theorem qft(l:Rz)(v4 c0_0 c0_1:Int)(c0_2:Bz)(c0_3:Rz)(c1_0 c1_1:Int)(c1_2:Bz)(c1_3:Rz){P:AV->Prop}(h:Gets (bif decide (v4≥0)then bif qe 0 v4&&qu v4 (l.length:Int)then kOpt (qzU l (v4.toNat)) λrow=>bif qzP (qzO row) 4 then bif qz8 4 (qzO row)then kTmC (qzT 4 row) λn n_1 s rows=>(qeO l (qzQ .i64 (v4 - 1)) c0_0 c0_1 c0_2 c0_3 9 0 [] [[AV.int .i64 n,.int .i64 n_1,.str s,.sl rows],[AV.int .i64 c1_0,.int .i64 c1_1,.str c1_2,.sl c1_3]])else none else none else none else some (.agg [.int .i64 c1_0,.int .i64 c1_1,.str c1_2,.sl c1_3])) P):Gets (qeO l v4 c0_0 c0_1 c0_2 c0_3 c1_0 c1_1 c1_2 c1_3) P:=
  gE (λ_=>qM (cfg:=cfg) (f:=163) (rd:=none) (bs:=0)) (by kernel_rfl) h
def qyQ:Den:=evC cfg (EV cfg) 256 none 0 (sub (ql Tryz.f256) [1,1,0,0,0])
def qze:Ex×List AV×AH->Option AV:=kAft (Cfg.keepOut cfg 256 2) (kRun cfg (EV cfg) (kfN cfg 6) 256 none 0 (yx cfg (Cfg.lift cfg 256 0) Tryz.f256.results.toList) ([.block 0,.seq (sub (ql Tryz.f256) [1,1,1])]))
def qyv:List AV×AH->Option AV:=λp=>kOpt (LOOP 0 (some [1,4]) ([]) qyQ p) qze
def qyS:Den:=evC cfg (EV cfg) 165 none 0 (sub (ql Tryz.f165) [1,1,0,1,0,0])
def qzg:Ex×List AV×AH->Option AV:=kAft (Cfg.keepOut cfg 165 4) (kRun cfg (EV cfg) (kfN cfg 6) 165 none 0 (qcF cfg (Cfg.lift cfg 165 0) Tryz.f165.results.toList) ([.block 0,.seq (sub (ql Tryz.f165) [1,1,1])]))
def qyx:List AV×AH->Option AV:=λp=>kOpt (LOOP 0 (some [0,1,2,6,8]) ([]) qyS p) qzg
def qyR:Den:=evC cfg (EV cfg) 51 none 0 (sub (ql Tryz.f51) [1,1,0,1,0,0])
def qzf:Ex×List AV×AH->Option AV:=kAft (Cfg.keepOut cfg 51 3) (kRun cfg (EV cfg) (kfN cfg 6) 51 none 0 (qcF cfg (Cfg.lift cfg 51 0) Tryz.f51.results.toList) ([.block 0,.seq (sub (ql Tryz.f51) [1,1,1])]))
def qyw:List AV×AH->Option AV:=λp=>kOpt (LOOP 0 (some [1,2,3,4]) ([(3,4)]) qyR p) qzf
def qxC:Den:=evC cfg (EV cfg) 274 none 0 (sub (ql Tryz.f274) [1,1,0,1,0,0])
def qxL:Ex×List AV×AH->Option AV:=kAft (Cfg.keepOut cfg 274 3) (kRun cfg (EV cfg) (kfN cfg 6) 274 none 0 (yx cfg (Cfg.lift cfg 274 0) Tryz.f274.results.toList) ([.block 0,.seq (sub (ql Tryz.f274) [1,1,1])]))
def qxv:List AV×AH->Option AV:=λp=>kOpt (LOOP 0 (some [0,1,5,6]) ([]) qxC p) qxL
abbrev qix(v4 c0_0 c0_1:Int)(c0_2:Bz)(c0_3:Rz):Option (AV):=qyv (((fx 18 [(1,.ptr 0 0 0),(4,.int .i64 v4)]):List AV),([.rows false 4 [[.int .i64 c0_0,.int .i64 c0_1,.str c0_2,.sl c0_3]]]:AH))
abbrev qiz(op:Bz)(L:Rz)(self v8 c0_0 c0_1:Int)(c0_2:Bz)(c0_3:Rz):Option (AV):=qyx (((fx 47 [(0,.str op),(1,.sl L),(2,.int .i64 self),(6,.ptr 0 0 0),(8,.int .i64 v8)]):List AV),([.rows false 4 [[.int .i64 c0_0,.int .i64 c0_1,.str c0_2,.sl c0_3]]]:AH))
abbrev qiy(nv3:Nat)(v4 c0_0 c0_1:Int)(c0_2:Bz)(c0_3:Rz)(c1_0 c1_1:Int)(c1_2:Bz)(c1_3 h2:Rz):Option (AV):=qyw (((fx 24 [(1,.ptr 0 0 0),(2,.ptr 1 0 0),(3,.ms 2 0 nv3),(4,.int .i64 v4)]):List AV),([.rows false 4 [[.int .i64 c0_0,.int .i64 c0_1,.str c0_2,.sl c0_3]],.rows false 4 [[.int .i64 c1_0,.int .i64 c1_1,.str c1_2,.sl c1_3]],.rows true 4 h2]:AH))
abbrev qed(A B:Rz)(v5 v6:Int):Option (AV):=qxv (((fx 32 [(0,.sl A),(1,.sl B),(5,.int .i64 v5),(6,.int .i64 v6)]):List AV),([]:AH))
theorem qnk(b:Bool){P:AV->Prop}(h:Gets (bif b then some (.agg [.int .i64 2,.int .i64 0,.str [(116:UInt8),(114:UInt8),(117:UInt8),(101:UInt8)],.sl []])else some (.agg [.int .i64 2,.int .i64 0,.str [(102:UInt8),(97:UInt8),(108:UInt8),(115:UInt8),(101:UInt8)],.sl []])) P):Gets (EVf (EV cfg) 255 [.bool b]) P:=
  gE (λ_=>funF rfl rfl Tryz.func255 rfl) (by kernel_rfl) h
theorem ql6(kt nt:Int)(st:Bz)(lt:Rz){P:AV->Prop}(h:Gets (bif kt != 2 then some (AV.tup [.bool false,.bool false])else bif ! st==[(116:UInt8),(114:UInt8),(117:UInt8),(101:UInt8)]then bif ! st==[(102:UInt8),(97:UInt8),(108:UInt8),(115:UInt8),(101:UInt8)]then some (AV.tup [.bool false,.bool false])else some (AV.tup [.bool (st==[(116:UInt8),(114:UInt8),(117:UInt8),(101:UInt8)]),.bool true])else some (AV.tup [.bool (st==[(116:UInt8),(114:UInt8),(117:UInt8),(101:UInt8)]),.bool true])) P):Gets (EVs (EV cfg) 254 [.agg [.int .i64 kt,.int .i64 nt,.str st,.sl lt]]) P:=
  gE (λ_=>funS rfl rfl Tryz.func254 rfl) (by kernel_rfl) h
abbrev zA0:Option (AV):=some (AV.tup [.agg [.int .i64 0,.int .i64 0,.str [],.sl []],.bool false])
theorem ql5(n:Int){P:AV->Prop}(h:Gets (bif decide (n<(- 576460752303423488))then zA0 else bif decide (n>(576460752303423487:Int))then zA0 else some (AV.tup [.agg [.int .i64 1,.int .i64 n,.str [],.sl []],.bool true])) P):Gets (EVf (EV cfg) 257 [.int .i64 n]) P:=
  gE (λ_=>funF rfl rfl Tryz.func257 rfl) (by kernel_rfl) h
abbrev zA17(n n_1:Int)(s:Bz)(rows:Rz)(b:Bool):Option (AV):=some (AV.tup [.agg [.int .i64 n,.int .i64 n_1,.str s,.sl rows],.bool b])
abbrev zA16(cs:List AV)(n n_1:Int)(s:Bz)(rows:Rz)(b:Bool):Option (AV):=kNil cs (zA17 n n_1 s rows b)
abbrev zA15(c:AV)(cs:List AV)(n n_1:Int)(s:Bz)(rows:Rz):Option (AV):=qq c λb=>zA16 cs n n_1 s rows b
abbrev zA14(cs:List AV)(n n_1:Int)(s:Bz)(rows:Rz):Option (AV):=qa cs λc cs=>zA15 c cs n n_1 s rows
abbrev zA13(cs_5 cs:List AV)(n n_1:Int)(s:Bz)(rows:Rz):Option (AV):=kNil cs_5 (zA14 cs n n_1 s rows)
abbrev zA12(c:AV)(cs_5 cs:List AV)(n n_1:Int)(s:Bz):Option (AV):=kSl c λrows=>zA13 cs_5 cs n n_1 s rows
abbrev zA11(cs_4 cs:List AV)(n n_1:Int)(s:Bz):Option (AV):=qa cs_4 λc cs_5=>zA12 c cs_5 cs n n_1 s
abbrev zA10(c:AV)(cs_4 cs:List AV)(n n_1:Int):Option (AV):=kStr c λs=>zA11 cs_4 cs n n_1 s
abbrev zA9(cs_3 cs:List AV)(n n_1:Int):Option (AV):=qa cs_3 λc cs_4=>zA10 c cs_4 cs n n_1
abbrev zA8(c:AV)(cs_3 cs:List AV)(n:Int):Option (AV):=kInt .i64 c λn_1=>zA9 cs_3 cs n n_1
abbrev zA7(cs_2 cs:List AV)(n:Int):Option (AV):=qa cs_2 λc cs_3=>zA8 c cs_3 cs n
abbrev zA6(c:AV)(cs_2 cs:List AV):Option (AV):=kInt .i64 c λn=>zA7 cs_2 cs n
abbrev zA5(cs_1 cs:List AV):Option (AV):=qa cs_1 λc cs_2=>zA6 c cs_2 cs
abbrev zA4(c:AV)(cs:List AV):Option (AV):=kAgg c λcs_1=>zA5 cs_1 cs
abbrev zA3(cs:List AV):Option (AV):=qa cs λc cs=>zA4 c cs
abbrev zA2(v:AV):Option (AV):=kTup v λcs=>zA3 cs
abbrev zA1:Option (AV):=kOpt (EVf (EV cfg) 257 [AV.int .i64 0]) λv=>zA2 v
abbrev zA23(a b:Int):Option (AV):=kOpt (EVf (EV cfg) 257 [AV.int .i64 (qzQ .i64 (a*b))]) λv=>zA2 v
abbrev zA22(a n b:Int):Option (AV):=bif decide (a<n)then zA0 else zA23 a b
abbrev zA21(v:AV)(a b:Int):Option (AV):=kInt .i64 v λn=>zA22 a n b
abbrev zA20(b a:Int):Option (AV):=kOpt (qP (Op.intDiv BinOp.quo .i64 (- 576460752303423488) b)) λv=>zA21 v a b
abbrev zA19(b a:Int):Option (AV):=bif decide (b>0)then zA20 b a else zA23 a b
abbrev zA18(a b:Int):Option (AV):=bif decide (a<0)then zA19 b a else zA23 a b
abbrev zA29:Option (AV):=some (AV.tup [.agg [.int .i64 (0:Int),.int .i64 0,.str [],.sl []],.bool false])
abbrev zA28(a n b:Int):Option (AV):=bif decide (a<n)then zA29 else zA23 a b
abbrev zA27(v:AV)(a b:Int):Option (AV):=kInt .i64 v λn=>zA28 a n b
abbrev zA26(b a:Int):Option (AV):=kOpt (qP (Op.intDiv BinOp.quo .i64 (- 576460752303423488) b)) λv=>zA27 v a b
abbrev zA25(b a:Int):Option (AV):=bif decide (b>0)then zA26 b a else zA23 a b
abbrev zA24(a b:Int):Option (AV):=bif decide (a<0)then zA25 b a else zA23 a b
abbrev zA34(b n a:Int):Option (AV):=bif decide (b<n)then zA0 else zA18 a b
abbrev zA33(v:AV)(b a:Int):Option (AV):=kInt .i64 v λn=>zA34 b n a
abbrev zA32(a b:Int):Option (AV):=kOpt (qP (Op.intDiv BinOp.quo .i64 (- 576460752303423488) a)) λv=>zA33 v b a
abbrev zA31(b a:Int):Option (AV):=bif decide (b<0)then zA32 a b else zA18 a b
abbrev zA30(a b:Int):Option (AV):=bif decide (a>0)then zA31 b a else zA18 a b
abbrev zA37(b a:Int):Option (AV):=kOpt (qP (Op.intDiv BinOp.quo .i64 (- 576460752303423488:Int) b)) λv=>zA21 v a b
abbrev zA36(b a:Int):Option (AV):=bif decide (b>0)then zA37 b a else zA23 a b
abbrev zA35(a b:Int):Option (AV):=bif decide (a<0)then zA36 b a else zA23 a b
theorem qkL(a b:Int){P:AV->Prop}(h:Gets (bif a==0 then zA1 else bif b==0 then zA1 else bif decide (a>0)then bif decide (b>0)then kOpt (qP (Op.intDiv BinOp.quo .i64 576460752303423487 b)) λv=>kInt .i64 v λn=>bif decide (a>n)then zA0 else bif decide (a<0)then bif decide (b<0)then kOpt (qP (Op.intDiv BinOp.quo .i64 576460752303423487 b)) λv=>kInt .i64 v λn=>bif decide (a<n)then zA0 else bif decide (a>0)then bif decide (b<0)then kOpt (qP (Op.intDiv BinOp.quo .i64 (- 576460752303423488) a)) λv=>kInt .i64 v λn=>bif decide (b<n)then some (AV.tup [.agg [.int .i64 0,.int .i64 (0:Int),.str [],.sl []],.bool false])else zA18 a b else zA24 a b else zA18 a b else zA30 a b else bif decide (a>0)then bif decide (b<0)then kOpt (qP (Op.intDiv BinOp.quo .i64 (- 576460752303423488:Int) a)) λv=>zA33 v b a else zA18 a b else zA18 a b else bif decide (a<0)then bif decide (b<0)then kOpt (qP (Op.intDiv BinOp.quo .i64 576460752303423487 b)) λv=>kInt .i64 v λn=>bif decide (a<n)then zA0 else bif decide (a>0)then zA31 b a else zA35 a b else bif decide (a>0)then bif decide (b<0)then kOpt (qP (Op.intDiv BinOp.quo .i64 (- 576460752303423488) a)) λv=>kInt .i64 v λn=>bif decide (b<n)then zA0 else zA35 a b else zA18 a b else zA18 a b else bif decide (a>0)then bif decide (b<0)then zA32 a b else zA24 a b else zA18 a b else bif decide (a<0)then bif decide (b<0)then kOpt (qP (Op.intDiv BinOp.quo .i64 576460752303423487 b)) λv=>kInt .i64 v λn=>bif decide (a<n)then zA0 else zA30 a b else bif decide (a>0)then bif decide (b<0)then kOpt (qP (Op.intDiv BinOp.quo .i64 (- 576460752303423488) a)) λv=>kInt .i64 v λn=>bif decide (b<n)then zA0 else zA24 a b else zA18 a b else zA18 a b else bif decide (a>(0:Int))then zA31 b a else zA35 a b) P):Gets (EVf (EV cfg) 275 [.int .i64 a,.int .i64 b]) P:=
  gE (λ_=>funF rfl rfl Tryz.func275 rfl) (by kernel_rfl) h
theorem qnm(op:Bz)(kt nt:Int)(st:Bz)(lt:Rz){P:AV->Prop}(h:Gets (bif op==[(105:UInt8),(115:UInt8),(95:UInt8),(97:UInt8),(116:UInt8),(111:UInt8),(109:UInt8)]then some (.bool (kt==2))else bif op==[(105:UInt8),(115:UInt8),(95:UInt8),(105:UInt8),(110:UInt8),(116:UInt8),(101:UInt8),(103:UInt8),(101:UInt8),(114:UInt8)]then some (.bool (kt==1))else bif op==[(105:UInt8),(115:UInt8),(95:UInt8),(108:UInt8),(105:UInt8),(115:UInt8),(116:UInt8)]then bif kt==9 then some (.bool true)else some (.bool (kt==(8:Int)))else bif op==[(105:UInt8),(115:UInt8),(95:UInt8),(116:UInt8),(117:UInt8),(112:UInt8),(108:UInt8),(101:UInt8)]then some (.bool (kt==7))else bif op==[(105:UInt8),(115:UInt8),(95:UInt8),(112:UInt8),(105:UInt8),(100:UInt8)]then some (.bool (kt==6))else bif op==[(105:UInt8),(115:UInt8),(95:UInt8),(102:UInt8),(117:UInt8),(110:UInt8),(99:UInt8),(116:UInt8),(105:UInt8),(111:UInt8),(110:UInt8)]then some (.bool (kt==5))else bif kt==3 then some (.bool true)else some (.bool (kt==4))) P):Gets (EVs (EV cfg) 258 [.str op,.agg [.int .i64 kt,.int .i64 nt,.str st,.sl lt]]) P:=
  gE (λ_=>funS rfl rfl Tryz.func258 rfl) (by kernel_rfl) h
theorem ql9(kt nt:Int)(st:Bz)(lt:Rz){P:AV->Prop}(h:Gets (qix 0 kt nt st lt) P):Gets (EVs (EV cfg) 256 [.agg [.int .i64 kt,.int .i64 nt,.str st,.sl lt]]) P:=
  gE (λ_=>funS rfl rfl Tryz.func256 rfl) (by kernel_rfl) h
abbrev zA42(n n_1:Int)(s:Bz)(rows:Rz):Option (AV):=(some (AV.tup [.agg [.int .i64 n,.int .i64 n_1,.str s,.sl rows],.bool true]))
abbrev zA41(row:List AV):Option (AV):=kTmC (qzT 4 row) λn n_1 s rows=>zA42 n n_1 s rows
abbrev zA40(row:List AV):Option (AV):=bif qz8 4 (qzO row)then zA41 row else none
abbrev zA39(row:List AV):Option (AV):=bif qzP (qzO row) 4 then zA40 row else none
abbrev zA38(lt:Rz):Option (AV):=kOpt (qzU lt 0) λrow=>zA39 row
abbrev zA43(lt:Rz):Option (AV):=kOpt (qzU lt 1) λrow=>zA39 row
abbrev zA46(nt:Int):Option (AV):=kOpt (EVf (EV cfg) 257 [AV.int .i64 (qzQ .i64 ((- 1) - nt))]) λv=>zA2 v
abbrev zA48(nt:Int):Option (AV):=kOpt (EVf (EV cfg) 257 [AV.int .i64 (qzQ .i64 (0 - nt))]) λv=>zA2 v
abbrev zA51(kt nt:Int)(st:Bz)(lt:Rz):Option (AV):=some (AV.tup [.agg [.int .i64 kt,.int .i64 nt,.str st,.sl lt],.bool true])
abbrev zA50(nt kt:Int)(st:Bz)(lt:Rz):Option (AV):=bif decide (nt<0)then zA48 nt else zA51 kt nt st lt
abbrev zA49(op:Bz)(nt kt:Int)(st:Bz)(lt:Rz):Option (AV):=bif op==[(97:UInt8),(98:UInt8),(115:UInt8)]then zA50 nt kt st lt else zA51 kt nt st lt
abbrev zA47(op:Bz)(nt kt:Int)(st:Bz)(lt:Rz):Option (AV):=bif op==[(45:UInt8)]then zA48 nt else zA49 op nt kt st lt
abbrev zA45(op:Bz)(nt kt:Int)(st:Bz)(lt:Rz):Option (AV):=bif op==[(98:UInt8),(110:UInt8),(111:UInt8),(116:UInt8)]then zA46 nt else zA47 op nt kt st lt
abbrev zA44(kt:Int)(op:Bz)(nt:Int)(st:Bz)(lt:Rz):Option (AV):=bif kt != 1 then zA0 else zA45 op nt kt st lt
abbrev zA54(v:AV):Option (AV):=kTmV v λn n_1 s rows=>zA42 n n_1 s rows
abbrev zA53(b:Bool):Option (AV):=kOpt (EVf (EV cfg) 255 [.bool b]) λv=>zA54 v
abbrev zA52(v:AV):Option (AV):=qq v λb=>zA53 b
theorem qrd(op:Bz)(kt nt:Int)(st:Bz)(lt:Rz){P:AV->Prop}(h:Gets (bif op==[(110:UInt8),(111:UInt8),(116:UInt8)]then kOpt (EVs (EV cfg) 254 [.agg [.int .i64 kt,.int .i64 nt,.str st,.sl lt]]) λv=>kTup v λcs=>qa cs λc cs=>qq c λb=>qa cs λc cs=>qq c λb_1=>kNil cs (kOpt (EVf (EV cfg) 255 [.bool ! b]) λv=>kTmV v λn n_1 s rows=>(some (AV.tup [.agg [.int .i64 n,.int .i64 n_1,.str s,.sl rows],.bool b_1])))else bif op==[(116:UInt8),(117:UInt8),(112:UInt8),(108:UInt8),(101:UInt8),(95:UInt8),(115:UInt8),(105:UInt8),(122:UInt8),(101:UInt8)]then some (AV.tup [.agg [.int .i64 (1:Int),.int .i64 (lt.length:Int),.str [],.sl []],.bool (kt==7)])else bif op==[(115:UInt8),(105:UInt8),(122:UInt8),(101:UInt8)]then some (AV.tup [.agg [.int .i64 1,.int .i64 (lt.length:Int),.str [],.sl []],.bool (kt==7)])else bif op==[(104:UInt8),(100:UInt8)]then bif kt != 9 then zA0 else bif op==[(104:UInt8),(100:UInt8)]then bif qu 0 (↑ (qzO lt):Int)then zA38 lt else none else bif qu 1 (↑ (qzO lt):Int)then zA43 lt else none else bif op==[(116:UInt8),(108:UInt8)]then bif kt != 9 then zA0 else bif op==[(104:UInt8),(100:UInt8)]then bif qu 0 (lt.length:Int)then zA38 lt else none else bif qu 1 (lt.length:Int)then zA43 lt else none else bif op==[(108:UInt8),(101:UInt8),(110:UInt8),(103:UInt8),(116:UInt8),(104:UInt8)]then kOpt (EVs (EV cfg) 256 [.agg [.int .i64 kt,.int .i64 nt,.str st,.sl lt]]) λv=>kTup v λcs=>qa cs λc cs=>kInt .i64 c λn=>qa cs λc cs=>qq c λb=>kNil cs (some (AV.tup [.agg [.int .i64 1,.int .i64 n,.str [],.sl []],.bool b]))else bif op==[(98:UInt8),(110:UInt8),(111:UInt8),(116:UInt8)]then zA44 kt op nt st lt else bif op==[(97:UInt8),(98:UInt8),(115:UInt8)]then zA44 kt op nt st lt else bif op==[(43:UInt8)]then bif kt != 1 then zA0 else bif op==[(98:UInt8),(110:UInt8),(111:UInt8),(116:UInt8)]then zA46 nt else bif op==[(45:UInt8)]then zA48 nt else bif op==[(97:UInt8),(98:UInt8),(115:UInt8)]then bif decide (nt<0)then kOpt (EVf (EV cfg) 257 [AV.int .i64 (qzQ .i64 ((0:Int) - nt))]) λv=>zA2 v else zA51 kt nt st lt else zA51 kt nt st lt else bif op==[(45:UInt8)]then zA44 kt op nt st lt else kOpt (EVs (EV cfg) 258 [.str op,.agg [.int .i64 kt,.int .i64 nt,.str st,.sl lt]]) λv=>zA52 v) P):Gets (EVf (EV cfg) 232 [.str op,.agg [.int .i64 kt,.int .i64 nt,.str st,.sl lt]]) P:=
  gE (λ_=>funF rfl rfl Tryz.func232 rfl) (by kernel_rfl) h
theorem qi9(op:Bz)(c:Int){P:AV->Prop}(h:Gets (bif op==[(61:UInt8),(61:UInt8)]then some (.bool (c==0))else bif op==[(61:UInt8),(58:UInt8),(61:UInt8)]then some (.bool (c==0))else bif op==[(47:UInt8),(61:UInt8)]then some (.bool (c != 0))else bif op==[(61:UInt8),(47:UInt8),(61:UInt8)]then some (.bool (c != 0))else bif op==[(60:UInt8)]then some (.bool (decide (c<0)))else bif op==[(61:UInt8),(60:UInt8)]then some (.bool (decide (c<=0)))else bif op==[(62:UInt8)]then some (.bool (decide (c>0)))else some (.bool (decide (c≥0)))) P):Gets (EVs (EV cfg) 259 [.str op,.int .i64 c]) P:=
  gE (λ_=>funS rfl rfl Tryz.func259 rfl) (by kernel_rfl) h
theorem qnn(op:Bz)(a b:Bool){P:AV->Prop}(h:Gets (bif op==[(97:UInt8),(110:UInt8),(100:UInt8)]then bif a then some (.bool b)else some (.bool false)else bif op==[(97:UInt8),(110:UInt8),(100:UInt8),(97:UInt8),(108:UInt8),(115:UInt8),(111:UInt8)]then bif a then some (.bool b)else some (.bool false)else bif op==[(111:UInt8),(114:UInt8)]then bif a then some (.bool true)else some (.bool b)else bif op==[(111:UInt8),(114:UInt8),(101:UInt8),(108:UInt8),(115:UInt8),(101:UInt8)]then bif a then some (.bool true)else some (.bool b)else some (.bool ! a==b)) P):Gets (EVs (EV cfg) 261 [.str op,.bool a,.bool b]) P:=
  gE (λ_=>funS rfl rfl Tryz.func261 rfl) (by kernel_rfl) h
abbrev zA59(n:Int):Option (AV):=kOpt (EVf (EV cfg) 257 [AV.int .i64 n]) λv=>zA2 v
abbrev zA58(v:AV):Option (AV):=kInt .i64 v λn=>zA59 n
abbrev zA57(a b:Int):Option (AV):=kOpt (qP (Op.intDiv BinOp.quo .i64 a b)) λv=>zA58 v
abbrev zA60(a b:Int):Option (AV):=kOpt (qP (Op.intDiv BinOp.rem .i64 a b)) λv=>zA58 v
abbrev zA56(op:Bz)(a b:Int):Option (AV):=bif op==[(100:UInt8),(105:UInt8),(118:UInt8)]then zA57 a b else zA60 a b
abbrev zA55(b:Int)(op:Bz)(a:Int):Option (AV):=bif b==0 then zA0 else zA56 op a b
theorem qkM(op:Bz)(a b:Int){P:AV->Prop}(h:Gets (bif op==[(43:UInt8)]then kOpt (EVf (EV cfg) 257 [AV.int .i64 (qzQ .i64 (a+b))]) λv=>zA2 v else bif op==[(45:UInt8)]then kOpt (EVf (EV cfg) 257 [AV.int .i64 (qzQ .i64 (a - b))]) λv=>zA2 v else bif op==[(42:UInt8)]then kOpt (EVf (EV cfg) 275 [AV.int .i64 a,.int .i64 b]) λv=>zA2 v else bif op==[(100:UInt8),(105:UInt8),(118:UInt8)]then zA55 b op a else bif op==[(114:UInt8),(101:UInt8),(109:UInt8)]then zA55 b op a else bif op==[(98:UInt8),(97:UInt8),(110:UInt8),(100:UInt8)]then kOpt (qP (Op.intBits BinOp.and .i64 a b)) λv=>zA58 v else bif op==[(98:UInt8),(111:UInt8),(114:UInt8)]then kOpt (qP (Op.intBits BinOp.or .i64 a b)) λv=>zA58 v else kOpt (qP (Op.intBits BinOp.xor .i64 a b)) λv=>zA58 v) P):Gets (EVf (EV cfg) 262 [.str op,.int .i64 a,.int .i64 b]) P:=
  gE (λ_=>funF rfl rfl Tryz.func262 rfl) (by kernel_rfl) h
abbrev zA63(op:Bz)(n:Int):Option (AV):=kOpt (EVs (EV cfg) 259 [.str op,.int .i64 n]) λv=>zA52 v
abbrev zA62(v:AV)(op:Bz):Option (AV):=kInt .i64 v λn=>zA63 op n
abbrev zA61(ka na:Int)(sa:Bz)(la:Rz)(kb nb:Int)(sb:Bz)(lb:Rz)(op:Bz):Option (AV):=kOpt (EVs (EV cfg) 260 [.agg [.int .i64 ka,.int .i64 na,.str sa,.sl la],.agg [.int .i64 kb,.int .i64 nb,.str sb,.sl lb]]) λv=>zA62 v op
abbrev zA82(b_1:Bool)(n n_1:Int)(s:Bz)(rows:Rz)(b_3:Bool):Option (AV):=(bif b_1 then some (AV.tup [.agg [.int .i64 n,.int .i64 n_1,.str s,.sl rows],.bool b_3])else some (AV.tup [.agg [.int .i64 n,.int .i64 n_1,.str s,.sl rows],.bool false]))
abbrev zA81(v:AV)(b_1 b_3:Bool):Option (AV):=kTmV v λn n_1 s rows=>zA82 b_1 n n_1 s rows b_3
abbrev zA80(b b_1 b_3:Bool):Option (AV):=kOpt (EVf (EV cfg) 255 [.bool b]) λv=>zA81 v b_1 b_3
abbrev zA79(v:AV)(b_1 b_3:Bool):Option (AV):=qq v λb=>zA80 b b_1 b_3
abbrev zA78(op:Bz)(b b_2 b_1 b_3:Bool):Option (AV):=kOpt (EVs (EV cfg) 261 [.str op,.bool b,.bool b_2]) λv=>zA79 v b_1 b_3
abbrev zA77(cs:List AV)(op:Bz)(b b_2 b_1 b_3:Bool):Option (AV):=kNil cs (zA78 op b b_2 b_1 b_3)
abbrev zA76(c:AV)(cs:List AV)(op:Bz)(b b_2 b_1:Bool):Option (AV):=qq c λb_3=>zA77 cs op b b_2 b_1 b_3
abbrev zA75(cs:List AV)(op:Bz)(b b_2 b_1:Bool):Option (AV):=qa cs λc cs=>zA76 c cs op b b_2 b_1
abbrev zA74(c:AV)(cs:List AV)(op:Bz)(b b_1:Bool):Option (AV):=qq c λb_2=>zA75 cs op b b_2 b_1
abbrev zA73(cs:List AV)(op:Bz)(b b_1:Bool):Option (AV):=qa cs λc cs=>zA74 c cs op b b_1
abbrev zA72(v:AV)(op:Bz)(b b_1:Bool):Option (AV):=kTup v λcs=>zA73 cs op b b_1
abbrev zA71(kb nb:Int)(sb:Bz)(lb:Rz)(op:Bz)(b b_1:Bool):Option (AV):=kOpt (EVs (EV cfg) 254 [.agg [.int .i64 kb,.int .i64 nb,.str sb,.sl lb]]) λv=>zA72 v op b b_1
abbrev zA70(cs:List AV)(kb nb:Int)(sb:Bz)(lb:Rz)(op:Bz)(b b_1:Bool):Option (AV):=kNil cs (zA71 kb nb sb lb op b b_1)
abbrev zA69(c:AV)(cs:List AV)(kb nb:Int)(sb:Bz)(lb:Rz)(op:Bz)(b:Bool):Option (AV):=qq c λb_1=>zA70 cs kb nb sb lb op b b_1
abbrev zA68(cs:List AV)(kb nb:Int)(sb:Bz)(lb:Rz)(op:Bz)(b:Bool):Option (AV):=qa cs λc cs=>zA69 c cs kb nb sb lb op b
abbrev zA67(c:AV)(cs:List AV)(kb nb:Int)(sb:Bz)(lb:Rz)(op:Bz):Option (AV):=qq c λb=>zA68 cs kb nb sb lb op b
abbrev zA66(cs:List AV)(kb nb:Int)(sb:Bz)(lb:Rz)(op:Bz):Option (AV):=qa cs λc cs=>zA67 c cs kb nb sb lb op
abbrev zA65(v:AV)(kb nb:Int)(sb:Bz)(lb:Rz)(op:Bz):Option (AV):=kTup v λcs=>zA66 cs kb nb sb lb op
abbrev zA64(ka na:Int)(sa:Bz)(la:Rz)(kb nb:Int)(sb:Bz)(lb:Rz)(op:Bz):Option (AV):=kOpt (EVs (EV cfg) 254 [.agg [.int .i64 ka,.int .i64 na,.str sa,.sl la]]) λv=>zA65 v kb nb sb lb op
theorem qrb(op:Bz)(ka na:Int)(sa:Bz)(la:Rz)(kb nb:Int)(sb:Bz)(lb:Rz){P:AV->Prop}(h:Gets (bif op==[(61:UInt8),(61:UInt8)]then zA61 ka na sa la kb nb sb lb op else bif op==[(61:UInt8),(58:UInt8),(61:UInt8)]then zA61 ka na sa la kb nb sb lb op else bif op==[(47:UInt8),(61:UInt8)]then zA61 ka na sa la kb nb sb lb op else bif op==[(61:UInt8),(47:UInt8),(61:UInt8)]then zA61 ka na sa la kb nb sb lb op else bif op==[(60:UInt8)]then zA61 ka na sa la kb nb sb lb op else bif op==[(61:UInt8),(60:UInt8)]then zA61 ka na sa la kb nb sb lb op else bif op==[(62:UInt8)]then zA61 ka na sa la kb nb sb lb op else bif op==[(62:UInt8),(61:UInt8)]then zA61 ka na sa la kb nb sb lb op else bif op==[(97:UInt8),(110:UInt8),(100:UInt8)]then zA64 ka na sa la kb nb sb lb op else bif op==[(111:UInt8),(114:UInt8)]then zA64 ka na sa la kb nb sb lb op else bif op==[(120:UInt8),(111:UInt8),(114:UInt8)]then zA64 ka na sa la kb nb sb lb op else bif op==[(97:UInt8),(110:UInt8),(100:UInt8),(97:UInt8),(108:UInt8),(115:UInt8),(111:UInt8)]then zA64 ka na sa la kb nb sb lb op else bif op==[(111:UInt8),(114:UInt8),(101:UInt8),(108:UInt8),(115:UInt8),(101:UInt8)]then zA64 ka na sa la kb nb sb lb op else bif op==[(101:UInt8),(108:UInt8),(101:UInt8),(109:UInt8),(101:UInt8),(110:UInt8),(116:UInt8)]then bif ka != 1 then zA0 else bif kb != 7 then zA0 else bif decide (na<1)then zA0 else bif decide (na>(lb.length:Int))then zA0 else bif qe 0 (qzQ .i64 (na - 1))&&qu (qzQ .i64 (na - 1)) (lb.length:Int)then kOpt (qzU lb (qzV (qzQ .i64 (na - 1)))) λrow=>zA39 row else none else bif ka != 1 then zA0 else bif kb != 1 then zA0 else kOpt (EVf (EV cfg) 262 [.str op,.int .i64 na,.int .i64 nb]) λv=>zA2 v) P):Gets (EVf (EV cfg) 233 [.str op,.agg [.int .i64 ka,.int .i64 na,.str sa,.sl la],.agg [.int .i64 kb,.int .i64 nb,.str sb,.sl lb]]) P:=
  gE (λ_=>funF rfl rfl Tryz.func233 rfl) (by kernel_rfl) h
abbrev zA83(cs:List AV)(n n_2:Int)(s:Bz)(rows:Rz):Option (AV):=qa cs λc cs=>qq c λb=>kNil cs (bif ! b then zA0 else zA51 n n_2 s rows)
theorem qma(op:Bz)(L:Rz)(self:Int){P:AV->Prop}(h:Gets (bif(L.length:Int)==1 then bif qu 0 (L.length:Int)then kOpt (qzU L 0) λrow=>bif qzP (qzO row) 4 then bif qz8 4 (qzO row)then kTmC (qzT 4 row) λn n_1 s rows=>(kOpt (EVf (EV cfg) 232 [.str op,.agg [.int .i64 n,.int .i64 n_1,.str s,.sl rows]]) λv=>kTup v λcs=>qa cs λc cs=>kAgg c λcs_1=>qa cs_1 λc cs_2=>kInt .i64 c λn=>qa cs_2 λc cs_3=>kInt .i64 c λn_2=>qa cs_3 λc cs_4=>kStr c λs=>qa cs_4 λc cs_5=>kSl c λrows=>kNil cs_5 (zA83 cs n n_2 s rows))else none else none else none else bif(L.length:Int)==2 then bif qu 0 (L.length:Int)then kOpt (qzU L 0) λrow=>bif qzP (qzO row) 4 then bif qz8 4 (qzO row)then kTmC (qzT 4 row) λn n_1 s rows=>(bif qu 1 (L.length:Int)then kOpt (qzU L 1) λrow=>bif qzP (qzO row) 4 then bif qz8 4 (qzO row)then kTmC (qzT 4 row) λn_2 n_3 s_1 rows_1=>(kOpt (EVf (EV cfg) 233 [.str op,.agg [.int .i64 n,.int .i64 n_1,.str s,.sl rows],.agg [.int .i64 n_2,.int .i64 n_3,.str s_1,.sl rows_1]]) λv=>kTup v λcs=>qa cs λc cs=>kAgg c λcs_1=>qa cs_1 λc cs_2=>kInt .i64 c λn=>qa cs_2 λc cs_3=>kInt .i64 c λn_4=>qa cs_3 λc cs_4=>kStr c λs=>qa cs_4 λc cs_5=>kSl c λrows=>kNil cs_5 (zA83 cs n n_4 s rows))else none else none else none)else none else none else none else some (AV.tup [.agg [.int .i64 6,.int .i64 self,.str [],.sl []],.bool true])) P):Gets (EVf (EV cfg) 207 [.str op,.sl L,.int .i64 self]) P:=
  gE (λ_=>funF rfl rfl Tryz.func207 rfl) (by kernel_rfl) h
theorem qpa(n:Int){P:AV->Prop}(h:Gets (bif decide (n≥1)then some (.bool (decide (n<=1073741824)))else some (.bool false)) P):Gets (EVs (EV cfg) 48 [.int .i64 n]) P:=
  gE (λ_=>funS rfl rfl Tryz.func48 rfl) (by kernel_rfl) h
theorem qno(op:Bz)(L:Rz)(self:Int){P:AV->Prop}(h:Gets (kOpt (EVs (EV cfg) 179 [.str op,.int .i64 (L.length:Int)]) λv=>qq v λb=>bif ! b then some (AV.tup [.agg [.int .i64 0,.int .i64 0,.str [],.sl []],.int .i64 2])else kOpt (EVs (EV cfg) 48 [AV.int .i64 self]) λv=>qq v λb=>bif ! b then some (AV.tup [.agg [.int .i64 0,.int .i64 0,.str [],.sl []],.int .i64 2])else qiz op L self 0 0 0 [] []) P):Gets (EVf (EV cfg) 165 [.str op,.sl L,.int .i64 self]) P:=
  gE (λ_=>funF rfl rfl Tryz.func165 rfl) (by kernel_rfl) h
theorem qpi(kt nt:Int)(st:Bz)(lt:Rz){P:AV->Prop}(h:Gets (qiy 0 0 kt nt st lt 0 0 [] [] []) P):Gets (EVf (EV cfg) 51 [.agg [.int .i64 kt,.int .i64 nt,.str st,.sl lt]]) P:=
  gE (λ_=>funF rfl rfl Tryz.func51 rfl) (by kernel_rfl) h
theorem qkO(a b:Int){P:AV->Prop}(h:Gets (bif decide (a<b)then some (.int .i64 (- 1))else bif decide (a>b)then some (.int .i64 1)else some (.int .i64 0)) P):Gets (EVs (EV cfg) 272 [.int .i64 a,.int .i64 b]) P:=
  gE (λ_=>funS rfl rfl Tryz.func272 rfl) (by kernel_rfl) h
theorem qnq(a b:Bz){P:AV->Prop}(h:Gets (bif Op.bytesLess a b then some (.int .i64 (- 1))else bif ! (Op.bytesLess a b||a==b)then some (.int .i64 1)else some (.int .i64 0)) P):Gets (EVs (EV cfg) 273 [.str a,.str b]) P:=
  gE (λ_=>funS rfl rfl Tryz.func273 rfl) (by kernel_rfl) h
theorem qnr(A B:Rz){P:AV->Prop}(h:Gets (kOpt (EVs (EV cfg) 272 [AV.int .i64 (A.length:Int),.int .i64 (B.length:Int)]) λv=>kInt .i64 v λn=>qed A B n 0) P):Gets (EVs (EV cfg) 274 [.sl A,.sl B]) P:=
  gE (λ_=>funS rfl rfl Tryz.func274 rfl) (by kernel_rfl) h
abbrev zA84(na nb:Int):Option (AV):=kOpt (EVs (EV cfg) 272 [AV.int .i64 na,.int .i64 nb]) λv=>kInt .i64 v λn=>some (.int .i64 n)
abbrev zA85(la lb:Rz):Option (AV):=kOpt (EVs (EV cfg) 274 [.sl la,.sl lb]) λv=>kInt .i64 v λn=>some (.int .i64 n)
theorem qkP(ka na:Int)(sa:Bz)(la:Rz)(kb nb:Int)(sb:Bz)(lb:Rz){P:AV->Prop}(h:Gets (kOpt (EVs (EV cfg) 272 [AV.int .i64 ka,.int .i64 kb]) λv=>kInt .i64 v λn=>bif n != 0 then some (.int .i64 n)else bif ka==1 then zA84 na nb else bif ka==3 then zA84 na nb else bif ka==4 then zA84 na nb else bif ka==6 then zA84 na nb else bif ka==2 then kOpt (EVs (EV cfg) 273 [.str sa,.str sb]) λv=>kInt .i64 v λn=>some (.int .i64 n)else bif ka==5 then kOpt (EVs (EV cfg) 272 [AV.int .i64 na,.int .i64 nb]) λv=>kInt .i64 v λn=>bif n != 0 then some (.int .i64 n)else zA85 la lb else bif ka==7 then zA85 la lb else bif ka==9 then zA85 la lb else some (.int .i64 0)) P):Gets (EVs (EV cfg) 260 [.agg [.int .i64 ka,.int .i64 na,.str sa,.sl la],.agg [.int .i64 kb,.int .i64 nb,.str sb,.sl lb]]) P:=
  gE (λ_=>funS rfl rfl Tryz.func260 rfl) (by kernel_rfl) h
theorem qoI(v4 c0_0 c0_1:Int)(c0_2:Bz)(c0_3:Rz){P:AV->Prop}(h:Gets (bif c0_0==9 then bif qu 1 (c0_3.length:Int)then kOpt (qzU c0_3 1) λrow=>bif qzP (qzO row) 4 then bif qz8 4 (qzO row)then kTmC (qzT 4 row) λn n_1 s rows=>(qix (qzQ .i64 (v4+1)) n n_1 s rows)else none else none else none else some (AV.tup [AV.int .i64 v4,.bool (c0_0==8)])) P):Gets (qix v4 c0_0 c0_1 c0_2 c0_3) P:=
  gE (λ_=>qM (cfg:=cfg) (f:=256) (rd:=none) (bs:=0)) (by kernel_rfl) h
theorem qhg(op:Bz)(L:Rz)(self v8 c0_0 c0_1:Int)(c0_2:Bz)(c0_3:Rz){P:AV->Prop}(h:Gets (bif decide (v8<(L.length:Int))then bif qe 0 v8&&qu v8 (L.length:Int)then kOpt (qzU L (v8.toNat)) λrow=>bif qzP (qzO row) 4 then bif qz8 4 (qzO row)then kTmC (qzT 4 row) λn n_1 s rows=>(kOpt (EVs (EV cfg) 47 [.agg [.int .i64 n,.int .i64 n_1,.str s,.sl rows]]) λv=>kInt .i64 v λn=>bif n != 0 then some (AV.tup [.agg [.int .i64 0,.int .i64 0,.str [],.sl []],.int .i64 2])else qiz op L self (qzQ .i64 (v8+1)) c0_0 c0_1 c0_2 c0_3)else none else none else none else kOpt (EVf (EV cfg) 207 [.str op,.sl L,.int .i64 self]) λv=>kTup v λcs=>qa cs λc cs=>kAgg c λcs_1=>qa cs_1 λc cs_2=>kInt .i64 c λn=>qa cs_2 λc cs_3=>kInt .i64 c λn_1=>qa cs_3 λc cs_4=>kStr c λs=>qa cs_4 λc cs_5=>kSl c λrows=>kNil cs_5 (qa cs λc cs=>qq c λb=>kNil cs (bif ! b then some (AV.tup [.agg [.int .i64 0,.int .i64 0,.str [],.sl []],.int .i64 10])else kOpt (EVf (EV cfg) 51 [.agg [.int .i64 n,.int .i64 n_1,.str s,.sl rows]]) λv=>kTmV v λn n_2 s rows=>(some (AV.tup [.agg [.int .i64 n,.int .i64 n_2,.str s,.sl rows],.int .i64 0]))))) P):Gets (qiz op L self v8 c0_0 c0_1 c0_2 c0_3) P:=
  gE (λ_=>qM (cfg:=cfg) (f:=165) (rd:=none) (bs:=0)) (by kernel_rfl) h
theorem qhf(nv3:Nat)(v4 c0_0 c0_1:Int)(c0_2:Bz)(c0_3:Rz)(c1_0 c1_1:Int)(c1_2:Bz)(c1_3 h2:Rz){P:AV->Prop}(h:Gets (bif decide (v4<(c0_3.length:Int))then bif qe 0 v4&&qu v4 (c0_3.length:Int)then kOpt (qzU c0_3 (v4.toNat)) λrow=>bif qzP (qzO row) 4 then bif qz8 4 (qzO row)then kTmC (qzT 4 row) λn n_1 s rows=>(kOpt (EVf (EV cfg) 51 [.agg [.int .i64 n,.int .i64 n_1,.str s,.sl rows]]) λv=>kTmV v λn n_2 s rows=>(bif qz8 (0+nv3) (qzO h2)&&qX (nv3+1) 56 then qiy (nv3+1) (qzQ .i64 (v4+1)) c0_0 c0_1 c0_2 c0_3 c1_0 c1_1 c1_2 c1_3 (qAi (qzT nv3 h2) [[AV.int .i64 n,.int .i64 n_2,.str s,.sl rows]])else none))else none else none else none else bif qz8 (0+nv3) (qzO h2)&&true then some (.agg [.int .i64 c0_0,.int .i64 c0_1,.str c0_2,.sl (qzT nv3 h2)])else none) P):Gets (qiy nv3 v4 c0_0 c0_1 c0_2 c0_3 c1_0 c1_1 c1_2 c1_3 h2) P:=
  gE (λ_=>qM (cfg:=cfg) (f:=51) (rd:=none) (bs:=0)) (by kernel_rfl) h
theorem qcU(A B:Rz)(v5 v6:Int){P:AV->Prop}(h:Gets (bif decide (v6<(A.length:Int))then bif v5==0 then bif qe 0 v6&&qu v6 (A.length:Int)then kOpt (qzU A (v6.toNat)) λrow=>bif qzP (qzO row) 4 then bif qz8 4 (qzO row)then kTmC (qzT 4 row) λn n_1 s rows=>(bif qe 0 v6&&qu v6 (B.length:Int)then kOpt (qzU B (v6.toNat)) λrow=>bif qzP (qzO row) 4 then bif qz8 4 (qzO row)then kTmC (qzT 4 row) λn_2 n_3 s_1 rows_1=>(kOpt (EVs (EV cfg) 260 [.agg [.int .i64 n,.int .i64 n_1,.str s,.sl rows],.agg [.int .i64 n_2,.int .i64 n_3,.str s_1,.sl rows_1]]) λv=>kInt .i64 v λn=>qed A B n (qzQ .i64 (v6+1)))else none else none else none)else none else none else none else some (.int .i64 v5)else some (.int .i64 v5)) P):Gets (qed A B v5 v6) P:=
  gE (λ_=>qM (cfg:=cfg) (f:=274) (rd:=none) (bs:=0)) (by kernel_rfl) h
end Go.Proofs.YtafdkafbgohigaaGreat
end
noncomputable section
namespace Go.Av
end Go.Av
namespace Go.Proofs.YtafdkafbgohigaaGreat
open Go.Av
theorem qjc(t:Tm):t.w<1099511627776->EVf (EV cfg) 51 [t.av]=some t.av:=by
 induction t using Tm.ind with
 |_ k n s l ih=>
  intro hw;rw[Tm.w_mk]at hw;have hlen:=zg l;have ih':∀x∈l,EVf (EV cfg) 51 [x.av]=some x.av:=λx hx=>ih x hx (by have:=qb6 hx;omega)
  have loop:∀d i:Nat,i+d=l.length->Gets (qiy i i k n s (qb l) 0 0 [] [] (qb (l.take i))) (·=(Tm.mk k n s l).av):=by
   intro d
   induction d with
   |zero=>
    intro i hi;refine qhf _ _ _ _ _ _ _ _ _ _ _ ?_;obtain rfl:i=l.length:=by omega
    have hb:qz8 (0+l.length) (qb l).length=true:=by rw[Nat.ble_eq,qj];omega
    have ht:qzT l.length (qb l)=qb l:=qAa (by rw[qj];omega);rw[qj,qAv (by omega),qz4,hb,ht,Tm.av_mk];exact⟨_,rfl,rfl⟩
   |succ d ihd=>
    intro i hi;have hil:i<l.length:=by omega
    refine qhf _ _ _ _ _ _ _ _ _ _ _ ?_;have hx:l[i]? =some l[i]:=qzS hil;have h1:=ih' l[i] (qz5 hx);have h2:=ihd (i+1) (by omega);have e1:l.take (i+1)=l.take i++[l[i]]:=by rw[List.take_add_one,hx];rfl
    have ht:(qb (l.take i)).length=i:=by rw[qj,List.length_take];omega
    have e2:qAi (qzT i (qb (l.take i))) [l[i].cells]=qb (l.take (i+1)):=by
     rw[qAa (by omega),e1,vO,q4,q6];rfl
    have e3:qz8 (0+i) (qb (l.take i)).length=true:=by rw[ht,Nat.ble_eq];omega
    rw[qj,qAu (show(i:Int)<(l.length:Int) by omega),vX,xg,qAu hil,xG hx,vJ (n:=l.length) hil (by omega),e3,yv (by omega)];simp only[cond_true,qz7,qV,qAq,vn,qv,show qz8 4 4=true from rfl,qK,h1,qc,ve];rw[←Tm.cells_eq,e2];exact h2
  apply Gets.get;rw[Tm.av_mk];refine qpi _ _ _ _ ?_;rw[←Tm.av_mk];exact(by simpa [q6]using loop l.length 0 (by omega))
def qyT:Den:=evC cfg (EV cfg) 179 none 0 (sub (ql Tryz.f179) [1,1,0,1,0,0])
def qzh:Ex×List AV×AH->Option AV:=kAft (Cfg.keepOut cfg 179 3) (kRun cfg (EV cfg) (kfN cfg 6) 179 none 0 (yx cfg (Cfg.lift cfg 179 0) Tryz.f179.results.toList) ([.block 0,.seq (sub (ql Tryz.f179) [1,1,1])]))
def qyy:List AV×AH->Option AV:=λp=>kOpt (LOOP 0 (some [1,5,6]) ([]) qyT p) qzh
def qyV:Den:=evC cfg (EV cfg) 95 none 0 (sub (ql Tryz.f95) [1,1,0,1,0,0])
def qzj:Ex×List AV×AH->Option AV:=kAft (Cfg.keepOut cfg 95 4) (kRun cfg (EV cfg) (kfN cfg 6) 95 none 0 (yx cfg (Cfg.lift cfg 95 0) Tryz.f95.results.toList) ([.block 0,.seq (sub (ql Tryz.f95) [1,1,1])]))
def qyA:List AV×AH->Option AV:=λp=>kOpt (LOOP 0 (some [1,3]) ([]) qyV p) qzj
def qyU:Den:=evC cfg (EV cfg) 96 none 0 (sub (ql Tryz.f96) [1,1,1,0,1,0,1,0,0])
def qzi:Ex×List AV×AH->Option AV:=kAft (Cfg.keepOut cfg 96 6) (kRun cfg (EV cfg) (kfN cfg 6) 96 none 0 (yx cfg (Cfg.lift cfg 96 0) Tryz.f96.results.toList) ([.block 0,.seq (sub (ql Tryz.f96) [1,1,1,1])]))
def qyz:List AV×AH->Option AV:=λp=>kOpt (LOOP 0 (some [1,3,4]) ([]) qyU p) qzi
abbrev qiA(n:Int)(rows:Rz)(v6:Int):Option (AV):=qyy (((fx 21 [(1,.int .i64 n),(5,.sl rows),(6,.int .i64 v6)]):List AV),([]:AH))
abbrev qiB(v3 c0_0 c0_1:Int)(c0_2:Bz)(c0_3:Rz):Option (AV):=qyA (((fx 21 [(1,.ptr 0 0 0),(3,.int .i64 v3)]):List AV),([.rows false 4 [[.int .i64 c0_0,.int .i64 c0_1,.str c0_2,.sl c0_3]]]:AH))
abbrev zJ(v3 v4 c0_0 c0_1:Int)(c0_2:Bz)(c0_3:Rz):Option (AV):=qyz (((fx 42 [(1,.ptr 0 0 0),(3,.int .i64 v3),(4,.int .i64 v4)]):List AV),([.rows false 4 [[.int .i64 c0_0,.int .i64 c0_1,.str c0_2,.sl c0_3]]]:AH))
theorem qre(op:Bz)(n:Int){P:AV->Prop}(h:Gets (kOpt (EVf (EV cfg) 214 [.str op]) λv=>kSl v λrows=>qiA n rows 0) P):Gets (EVs (EV cfg) 179 [.str op,.int .i64 n]) P:=
  gE (λ_=>funS rfl rfl Tryz.func179 rfl) (by kernel_rfl) h
theorem qrc(op:Bz){P:AV->Prop}(h:Gets (bif op==[(115:UInt8),(101:UInt8),(108:UInt8),(102:UInt8)]then some (.sl [[.int .i64 0]])else bif op==[(105:UInt8),(115:UInt8),(95:UInt8),(97:UInt8),(116:UInt8),(111:UInt8),(109:UInt8)]then some (.sl [[.int .i64 1]])else bif op==[(105:UInt8),(115:UInt8),(95:UInt8),(105:UInt8),(110:UInt8),(116:UInt8),(101:UInt8),(103:UInt8),(101:UInt8),(114:UInt8)]then some (.sl [[.int .i64 1]])else bif op==[(105:UInt8),(115:UInt8),(95:UInt8),(108:UInt8),(105:UInt8),(115:UInt8),(116:UInt8)]then some (.sl [[.int .i64 1]])else bif op==[(105:UInt8),(115:UInt8),(95:UInt8),(116:UInt8),(117:UInt8),(112:UInt8),(108:UInt8),(101:UInt8)]then some (.sl [[.int .i64 1]])else bif op==[(105:UInt8),(115:UInt8),(95:UInt8),(112:UInt8),(105:UInt8),(100:UInt8)]then some (.sl [[.int .i64 1]])else bif op==[(105:UInt8),(115:UInt8),(95:UInt8),(102:UInt8),(117:UInt8),(110:UInt8),(99:UInt8),(116:UInt8),(105:UInt8),(111:UInt8),(110:UInt8)]then some (.sl [[.int .i64 1]])else bif op==[(105:UInt8),(115:UInt8),(95:UInt8),(114:UInt8),(101:UInt8),(102:UInt8),(101:UInt8),(114:UInt8),(101:UInt8),(110:UInt8),(99:UInt8),(101:UInt8)]then some (.sl [[.int .i64 1]])else bif op==[(110:UInt8),(111:UInt8),(116:UInt8)]then some (.sl [[.int .i64 1]])else bif op==[(98:UInt8),(110:UInt8),(111:UInt8),(116:UInt8)]then some (.sl [[.int .i64 1]])else bif op==[(97:UInt8),(98:UInt8),(115:UInt8)]then some (.sl [[.int .i64 1]])else bif op==[(116:UInt8),(117:UInt8),(112:UInt8),(108:UInt8),(101:UInt8),(95:UInt8),(115:UInt8),(105:UInt8),(122:UInt8),(101:UInt8)]then some (.sl [[.int .i64 1]])else bif op==[(115:UInt8),(105:UInt8),(122:UInt8),(101:UInt8)]then some (.sl [[.int .i64 1]])else bif op==[(104:UInt8),(100:UInt8)]then some (.sl [[.int .i64 1]])else bif op==[(116:UInt8),(108:UInt8)]then some (.sl [[.int .i64 1]])else bif op==[(108:UInt8),(101:UInt8),(110:UInt8),(103:UInt8),(116:UInt8),(104:UInt8)]then some (.sl [[.int .i64 1]])else bif op==[(43:UInt8)]then some (.sl [[.int .i64 1],[.int .i64 2]])else bif op==[(45:UInt8)]then some (.sl [[.int .i64 1],[.int .i64 2]])else bif op==[(61:UInt8),(61:UInt8)]then some (.sl [[.int .i64 2]])else bif op==[(61:UInt8),(58:UInt8),(61:UInt8)]then some (.sl [[.int .i64 2]])else bif op==[(47:UInt8),(61:UInt8)]then some (.sl [[.int .i64 2]])else bif op==[(61:UInt8),(47:UInt8),(61:UInt8)]then some (.sl [[.int .i64 2]])else bif op==[(60:UInt8)]then some (.sl [[.int .i64 2]])else bif op==[(61:UInt8),(60:UInt8)]then some (.sl [[.int .i64 2]])else bif op==[(62:UInt8)]then some (.sl [[.int .i64 2]])else bif op==[(62:UInt8),(61:UInt8)]then some (.sl [[.int .i64 2]])else bif op==[(97:UInt8),(110:UInt8),(100:UInt8)]then some (.sl [[.int .i64 2]])else bif op==[(111:UInt8),(114:UInt8)]then some (.sl [[.int .i64 2]])else bif op==[(120:UInt8),(111:UInt8),(114:UInt8)]then some (.sl [[.int .i64 2]])else bif op==[(97:UInt8),(110:UInt8),(100:UInt8),(97:UInt8),(108:UInt8),(115:UInt8),(111:UInt8)]then some (.sl [[.int .i64 2]])else bif op==[(111:UInt8),(114:UInt8),(101:UInt8),(108:UInt8),(115:UInt8),(101:UInt8)]then some (.sl [[.int .i64 2]])else bif op==[(42:UInt8)]then some (.sl [[.int .i64 2]])else bif op==[(100:UInt8),(105:UInt8),(118:UInt8)]then some (.sl [[.int .i64 2]])else bif op==[(114:UInt8),(101:UInt8),(109:UInt8)]then some (.sl [[.int .i64 2]])else bif op==[(98:UInt8),(97:UInt8),(110:UInt8),(100:UInt8)]then some (.sl [[.int .i64 2]])else bif op==[(98:UInt8),(111:UInt8),(114:UInt8)]then some (.sl [[.int .i64 2]])else bif op==[(98:UInt8),(120:UInt8),(111:UInt8),(114:UInt8)]then some (.sl [[.int .i64 2]])else bif op==[(101:UInt8),(108:UInt8),(101:UInt8),(109:UInt8),(101:UInt8),(110:UInt8),(116:UInt8)]then some (.sl [[.int .i64 2]])else some (.sl [])) P):Gets (EVf (EV cfg) 214 [.str op]) P:=
  gE (λ_=>funF rfl rfl Tryz.func214 rfl) (by kernel_rfl) h
theorem qnu(kt nt:Int)(st:Bz)(lt:Rz){P:AV->Prop}(h:Gets (kOpt (EVs (EV cfg) 95 [.agg [.int .i64 kt,.int .i64 nt,.str st,.sl lt]]) λv=>qq v λb=>bif ! b then some (.int .i64 2)else kOpt (EVs (EV cfg) 96 [.agg [.int .i64 kt,.int .i64 nt,.str st,.sl lt]]) λv=>kInt .i64 v λn=>bif decide (n>65536)then some (.int .i64 3)else some (.int .i64 0)) P):Gets (EVs (EV cfg) 47 [.agg [.int .i64 kt,.int .i64 nt,.str st,.sl lt]]) P:=
  gE (λ_=>funS rfl rfl Tryz.func47 rfl) (by kernel_rfl) h
abbrev zB0(st:Bz)(lt:Rz):Option (AV):=bif st==[]then some (.bool ((lt.length:Int)==0))else some (.bool false)
abbrev zB1(nt:Int)(st:Bz)(lt:Rz):Option (AV):=kOpt (EVs (EV cfg) 206 [.int .i64 nt]) λv=>qq v λb=>bif b then zB0 st lt else some (.bool false)
theorem qrf(kt nt:Int)(st:Bz)(lt:Rz){P:AV->Prop}(h:Gets (bif kt==1 then bif decide (nt≥(- 576460752303423488))then bif decide (nt<=576460752303423487)then zB0 st lt else some (.bool false)else some (.bool false)else bif kt==2 then bif nt==0 then bif decide ((st.length:Int)<=64)then some (.bool ((lt.length:Int)==0))else some (.bool false)else some (.bool false)else bif kt==3 then zB1 nt st lt else bif kt==4 then kOpt (EVs (EV cfg) 206 [.int .i64 nt]) λv=>qq v λb=>bif b then bif st==[]then some (.bool ((lt.length:Int)==(0:Int)))else some (.bool false)else some (.bool false)else bif kt==6 then zB1 nt st lt else bif kt==5 then kOpt (EVs (EV cfg) 206 [.int .i64 nt]) λv=>qq v λb=>bif b then bif st==[]then some (.bool (decide ((lt.length:Int)<=64)))else some (.bool false)else some (.bool false)else bif kt==7 then bif nt==0 then bif st==[]then some (.bool (decide ((lt.length:Int)<=64)))else some (.bool false)else some (.bool false)else bif kt==8 then bif nt==0 then zB0 st lt else some (.bool false)else bif kt==9 then bif nt==0 then bif st==[]then some (.bool ((lt.length:Int)==2))else some (.bool false)else some (.bool false)else some (.bool false)) P):Gets (EVs (EV cfg) 156 [.agg [.int .i64 kt,.int .i64 nt,.str st,.sl lt]]) P:=
  gE (λ_=>funS rfl rfl Tryz.func156 rfl) (by kernel_rfl) h
theorem qnt(kt nt:Int)(st:Bz)(lt:Rz){P:AV->Prop}(h:Gets (kOpt (EVs (EV cfg) 156 [.agg [.int .i64 kt,.int .i64 nt,.str st,.sl lt]]) λv=>qq v λb=>bif ! b then some (.bool false)else qiB 0 kt nt st lt) P):Gets (EVs (EV cfg) 95 [.agg [.int .i64 kt,.int .i64 nt,.str st,.sl lt]]) P:=
  gE (λ_=>funS rfl rfl Tryz.func95 rfl) (by kernel_rfl) h
theorem qns(kt nt:Int)(st:Bz)(lt:Rz){P:AV->Prop}(h:Gets (bif kt==5 then bif kt==5 then zJ 2 0 kt nt st lt else bif kt==7 then zJ 2 0 kt nt st lt else bif kt==9 then zJ 2 0 kt nt st lt else some (.int .i64 2)else bif kt==7 then bif kt==5 then zJ 2 0 kt nt st lt else bif kt==7 then zJ 2 0 kt nt st lt else bif kt==9 then zJ 2 0 kt nt st lt else some (.int .i64 2)else bif kt==5 then zJ 1 0 kt nt st lt else bif kt==7 then zJ 1 0 kt nt st lt else bif kt==9 then zJ 1 0 kt nt st lt else some (.int .i64 1)) P):Gets (EVs (EV cfg) 96 [.agg [.int .i64 kt,.int .i64 nt,.str st,.sl lt]]) P:=
  gE (λ_=>funS rfl rfl Tryz.func96 rfl) (by kernel_rfl) h
theorem qhh(n:Int)(rows:Rz)(v6:Int){P:AV->Prop}(h:Gets (bif decide (v6<(rows.length:Int))then bif qe 0 v6&&qu v6 (rows.length:Int)then kOpt (qzU rows (v6.toNat)) λrow=>bif qzP (qzO row) 1 then kOpt (qzU row 0) λv=>kInt .i64 v λn_1=>bif n_1==n then some (.bool true)else qiA n rows (qzQ .i64 (v6+1))else none else none else some (.bool false)) P):Gets (qiA n rows v6) P:=
  gE (λ_=>qM (cfg:=cfg) (f:=179) (rd:=none) (bs:=0)) (by kernel_rfl) h
theorem qhj(v3 c0_0 c0_1:Int)(c0_2:Bz)(c0_3:Rz){P:AV->Prop}(h:Gets (bif decide (v3<(c0_3.length:Int))then bif qe 0 v3&&qu v3 (c0_3.length:Int)then kOpt (qzU c0_3 (v3.toNat)) λrow=>bif qzP (qzO row) 4 then bif qz8 4 (qzO row)then kTmC (qzT 4 row) λn n_1 s rows=>(kOpt (EVs (EV cfg) 95 [.agg [.int .i64 n,.int .i64 n_1,.str s,.sl rows]]) λv=>qq v λb=>bif ! b then some (.bool false)else qiB (qzQ .i64 (v3+1)) c0_0 c0_1 c0_2 c0_3)else none else none else none else some (.bool true)) P):Gets (qiB v3 c0_0 c0_1 c0_2 c0_3) P:=
  gE (λ_=>qM (cfg:=cfg) (f:=95) (rd:=none) (bs:=0)) (by kernel_rfl) h
theorem qhi(v3 v4 c0_0 c0_1:Int)(c0_2:Bz)(c0_3:Rz){P:AV->Prop}(h:Gets (bif decide (v4<(c0_3.length:Int))then bif qe 0 v4&&qu v4 (c0_3.length:Int)then kOpt (qzU c0_3 (v4.toNat)) λrow=>bif qzP (qzO row) 4 then bif qz8 4 (qzO row)then kTmC (qzT 4 row) λn n_1 s rows=>(kOpt (EVs (EV cfg) 96 [.agg [.int .i64 n,.int .i64 n_1,.str s,.sl rows]]) λv=>kInt .i64 v λn=>zJ (qzQ .i64 (v3+n)) (qzQ .i64 (v4+1)) c0_0 c0_1 c0_2 c0_3)else none else none else none else some (.int .i64 v3)) P):Gets (zJ v3 v4 c0_0 c0_1 c0_2 c0_3) P:=
  gE (λ_=>qM (cfg:=cfg) (f:=96) (rd:=none) (bs:=0)) (by kernel_rfl) h
theorem qjb(n:Int){P:AV->Prop}(h:Gets (bif decide (n≥0)then some (.bool (decide (n<=1073741824)))else some (.bool false)) P):Gets (EVs (EV cfg) 206 [.int .i64 n]) P:=
  gE (λ_=>funS rfl rfl Tryz.func206 rfl) (by kernel_rfl) h
theorem qkQ(n:Int):EVs (EV cfg) 206 [.int .i64 n]=some (.bool (decide (0<=n)&&decide (n<=1073741824))):=by
 apply Gets.get;refine qjb _ ?_
 by_cases h:0<=n<;>simp[h]
theorem qs6(t:Tm):EVs (EV cfg) 156 [t.av]=some (.bool t.sound):=by
 obtain⟨k,n,s,l⟩:=t;apply Gets.get;rw[Tm.av_mk];refine qrf _ _ _ _ ?_;unfold zB1 zB0;simp only[Tm.sound,Tm.kind_mk,Tm.num_mk,Tm.str_mk,Tm.subs_mk,qj,beqI,qt4,yo,qkQ,qc,qg]
 by_cases h1:k=1
 ·subst h1;simp[vP]<;>(try rw[Bool.eq_iff_iff])<;>(try simp)<;>first|omega|grind
 by_cases h2:k=2
 ·subst h2;simp[vP]<;>(try rw[Bool.eq_iff_iff])<;>(try simp)<;>first|omega|grind
 by_cases h3:k=3
 ·subst h3;simp[vP]<;>(try rw[Bool.eq_iff_iff])<;>(try simp)<;>first|omega|grind
 by_cases h4:k=4
 ·subst h4;simp[vP]<;>(try rw[Bool.eq_iff_iff])<;>(try simp)<;>first|omega|grind
 by_cases h6:k=6
 ·subst h6;simp[vP]<;>(try rw[Bool.eq_iff_iff])<;>(try simp)<;>first|omega|grind
 by_cases h5:k=5
 ·subst h5;simp[vP]<;>(try rw[Bool.eq_iff_iff])<;>(try simp)<;>first|omega|grind
 by_cases h7:k=7
 ·subst h7;simp[vP]<;>(try rw[Bool.eq_iff_iff])<;>(try simp)<;>first|omega|grind
 by_cases h8:k=8
 ·subst h8;simp[vP]<;>(try rw[Bool.eq_iff_iff])<;>(try simp)<;>first|omega|grind
 by_cases h9:k=9
 ·subst h9;simp[vP]<;>(try rw[Bool.eq_iff_iff])<;>(try simp)<;>first|omega|grind
 simp[h1,h2,h3,h4,h5,h6,h7,h8,h9]
theorem qph(t:Tm):t.w<1099511627776->EVs (EV cfg) 95 [t.av]=some (.bool t.parts):=by
 induction t using Tm.ind with
 |_ k n s l ih=>
  intro hw;rw[Tm.w_mk]at hw;have hlen:=zg l;have loop:∀d i:Nat,i+d=l.length->Gets (qiB i k n s (qb l)) (·= .bool (vD (l.drop i))):=by
   intro d
   induction d with
   |zero=>
    intro i hi;refine qhj _ _ _ _ _ ?_;rw[qj,qAv (by omega),List.drop_eq_nil_of_le (by omega)];exact⟨_,rfl,rfl⟩
   |succ d ihd=>
    intro i hi;have hil:i<l.length:=by omega
    refine qhj _ _ _ _ _ ?_;have hx:l[i]? =some l[i]:=qzS hil;have hm:=qz5 hx;have hd:l.drop i=l[i]::l.drop (i+1):=List.drop_eq_getElem_cons hil;have h1:=ih l[i] hm (by have:=qb6 hm;omega);have h2:=ihd (i+1) (by omega);rw[qj,qAu (show(i:Int)<(l.length:Int) by omega),vX,xg,qAu hil,xG hx,vJ hil (by omega),hd,vD]
    simp only[cond_true,qz7,qV,qAq,vn,qv,show qz8 4 4=true from rfl,qK,h1,qc,qg];cases hg:l[i].parts with
    |false=>exact⟨_,rfl,rfl⟩
    |true=>rw[Bool.true_and];exact h2
  have ho:=qs6 (.mk k n s l);have h0:=loop l.length 0 (by omega);apply Gets.get;rw[Tm.parts_eq];rw[Tm.av_mk]at ho⊢;refine qnt _ _ _ _ ?_;rw[ho];simp only[qc,qg,Tm.subs_mk];cases(Tm.mk k n s l).sound with
  |false=>exact⟨_,rfl,rfl⟩
  |true=>rw[Bool.true_and];exact h0
theorem qcz{l:List Tm}(h:vD l=true):∀x∈l,x.parts=true:=by
 induction l with
 |nil=>intro x hx;cases hx
 |cons y l ih=>
  rw[vD,qzR]at h;intro x hx;cases hx with
  |head=>exact h.1
  |tail _ hx=>exact ih h.2 x hx
theorem qpf(t:Tm):t.w<1099511627776->t.parts=true->EVs (EV cfg) 96 [t.av]=some (.int .i64 (t.words:Int)):=by
 induction t using Tm.ind with
 |_ k n s l ih=>
  intro hw hp;have hww:=qun (.mk k n s l);rw[Tm.w_mk]at hw hww;have hlen:=zg l;rw[Tm.parts,qzR]at hp;obtain⟨hp,hpl⟩:=hp;have loop:∀d i acc:Nat,i+d=l.length->acc+qZ (l.drop i)<9007199254740992->Gets (zJ acc i k n s (qb l)) (·= .int .i64 ((acc+qZ (l.drop i):Nat):Int)):=by
   intro d
   induction d with
   |zero=>
    intro i acc hi _;refine qhi _ _ _ _ _ _ ?_;rw[qj,qAv (by omega),List.drop_eq_nil_of_le (by omega)];exact⟨_,rfl,rfl⟩
   |succ d ihd=>
    intro i acc hi hacc;have hil:i<l.length:=by omega
    refine qhi _ _ _ _ _ _ ?_;have hx:l[i]? =some l[i]:=qzS hil;have hm:=qz5 hx;have hd:l.drop i=l[i]::l.drop (i+1):=List.drop_eq_getElem_cons hil;have h1:=ih l[i] hm (by have:=qb6 hm;omega) (qcz hpl _ hm);rw[hd,qZ]at hacc;have h2:=ihd (i+1) (acc+(l[i]).words) (by omega) (by omega);have w1:qzQ .i64 ((acc:Int)+((l[i]).words:Int))=((acc+(l[i]).words:Nat):Int):=by rw[qS (by omega) (by omega)];omega
    rw[qj,qAu (show(i:Int)<(l.length:Int) by omega),vX,xg,qAu hil,xG hx,vJ hil (by omega),hd,qZ];simp only[cond_true,qz7,qV,qAq,vn,qv,show qz8 4 4=true from rfl,qK,h1,qc,qi,w1];rw[←qAo];exact h2
  have hwo:(Tm.mk k n s l).words=(Tm.mk k n s l).own+qZ l:=by rw[Tm.words]
  rw[hwo]at hww⊢;have ho:=(Tm.mk k n s l).own_le;have h0:=loop l.length 0 (Tm.mk k n s l).own (by omega) (by rw[List.drop_zero];omega);rw[List.drop_zero]at h0;apply Gets.get;rw[Tm.av_mk];refine qns _ _ _ _ ?_
  by_cases h5:k=5
  ·subst h5;have o2:(Tm.mk 5 n s l).own=2:=by simp[Tm.own]
   rw[o2]at h0⊢;exact h0
  by_cases h7:k=7
  ·subst h7;have o2:(Tm.mk 7 n s l).own=2:=by simp[Tm.own]
   rw[o2]at h0⊢;exact h0
  have o1:(Tm.mk k n s l).own=1:=by simp[Tm.own,h5,h7]
  rw[o1]at h0⊢
  by_cases h9:k=9
  ·subst h9;exact h0
  have e5:(k==5)=false:=by simpa using h5
  have e7:(k==7)=false:=by simpa using h7
  have e9:(k==9)=false:=by simpa using h9
  have hl:l=[]:=by
   have:yo k n s l.length=true->l.length=0:=by
    unfold yo;rw[qAx h5,qAx h7,qAx h9];intro h
    repeat' split at h
    all_goals simp at h
    all_goals simp[h]
   exact List.length_eq_zero_iff.1 (this hp)
  subst hl;rw[e5,e7,e9];exact⟨_,rfl,rfl⟩
theorem zS{t:Tm}(h:t.w<1099511627776):EVs (EV cfg) 47 [t.av]=some (.int .i64 t.chk):=by
 have hp:=qph t h;have hw:=qpf t h;apply Gets.get;rw[Tm.av,Tm.cells_eq]at hp hw⊢;refine qnu _ _ _ _ ?_;rw[hp];have hc:t.chk=if t.parts then(if 65536<t.words then 3 else 0)else 2:=by
  unfold Tm.chk chkS;simp[vD,qZ]
 rw[hc];simp only[qc,qg];cases ht:t.parts with
 |false=>exact⟨_,rfl,rfl⟩
 |true=>
  rw[hw ht];simp only[qc,qi,qAj,cond_false,if_true]
  by_cases hg:65536<t.words
  ·rw[qAu (show((t.words:Int)>65536) by omega),qAw hg];exact⟨_,rfl,rfl⟩
  ·rw[qAv (show ¬((t.words:Int)>65536) by omega),qAx hg];exact⟨_,rfl,rfl⟩
theorem qs3(op:List UInt8):EVf (EV cfg) 214 [.str op]=some (.sl (yP (opsG op))):=by
 apply Gets.get;refine qrc _ ?_;have h:=qgc (λl=>some (AV.sl (yP l))) op [] qc8;have:Gets (yi op (some (AV.sl (yP []))) (qc8.map λp=>(p.1,some (AV.sl (yP p.2))))) (·= .sl (yP (opsG op))):=by
  rw[h];exact⟨_,rfl,rfl⟩
 exact this
end Go.Proofs.YtafdkafbgohigaaGreat
end
noncomputable section
namespace Go.Av
def tbR(o:Option Tm):AV:=.tup [(o.getD vh).av,.bool o.isSome]
def RB(o:Option Tm)(v:AV):Prop:=∃t:Tm,v= .tup [t.av,.bool o.isSome]∧∀x,o=some x->t=x
theorem RB.of{o:Option Tm}:RB o (tbR o):=⟨_,rfl,λx h=>by rw[h];rfl⟩
theorem RB.some{t:Tm}{v:AV}(h:RB (some t) v):v= .tup [t.av,.bool true]:=by
 obtain⟨x,rfl,h⟩:=h;rw[h t rfl];rfl
theorem kTB{α:Type}(t:Tm)(b:Bool)(K:Int->Int->List UInt8->List (List AV)->Bool->Option α):(kTup (.tup [t.av,.bool b]) λcs=>qa cs λc cs=>kAgg c λcs_1=>qa cs_1 λc cs_2=>kInt .i64 c λn=>qa cs_2 λc cs_3=>kInt .i64 c λn_1=>qa cs_3 λc cs_4=>kStr c λs=>qa cs_4 λc cs_5=>kSl c λrows=>kNil cs_5 (qa cs λc cs=>qq c λb=>kNil cs (K n n_1 s rows b)))=K t.kind t.num t.str (qb t.subs) b:=by
 obtain⟨k,n,s,l⟩:=t;rw[Tm.av_mk];rfl
theorem qiT(o:Option Tm):tbR o= .tup [(o.getD vh).av,.bool o.isSome]:=rfl
theorem qgN:(some (AV.tup [vh.av,.bool false]))=some (tbR none):=rfl
theorem qxd{op:List UInt8}(h:(1:Int)∈opsG op):op∈([[105,115,95,97,116,111,109],[105,115,95,105,110,116,101,103,101,114],[105,115,95,108,105,115,116],[105,115,95,116,117,112,108,101],[105,115,95,112,105,100],[105,115,95,102,117,110,99,116,105,111,110],[105,115,95,114,101,102,101,114,101,110,99,101],[110,111,116],[98,110,111,116],[97,98,115],[116,117,112,108,101,95,115,105,122,101],[115,105,122,101],[104,100],[116,108],[108,101,110,103,116,104],[43],[45]]:List (List UInt8)):=by
 have:∀(l:List (List UInt8×List Int)),(1:Int)∈yi op [] l->∃p∈l,p.1=op∧(1:Int)∈p.2:=by
  intro l
  induction l with
  |nil=>intro h;simp[yi]at h
  |cons p l ih=>
   intro h;rw[yi]at h;cases hp:op==p.1
   ·rw[hp]at h;obtain⟨q,h1,h2⟩:=ih h;exact⟨q,List.mem_cons_of_mem _ h1,h2⟩
   ·rw[hp]at h;rw[beqS,decide_eq_true_eq]at hp;exact⟨p,List.mem_cons_self,hp.symm,h⟩
 obtain⟨p,h1,rfl,h2⟩:=this _ h;clear this h
 revert p
 decide
theorem qxc{op:List UInt8}(h:(2:Int)∈opsG op):op∈([[43],[45],[61,61],[61,58,61],[47,61],[61,47,61],[60],[61,60],[62],[62,61],[97,110,100],[111,114],[120,111,114],[97,110,100,97,108,115,111],[111,114,101,108,115,101],[42],[100,105,118],[114,101,109],[98,97,110,100],[98,111,114],[98,120,111,114],[101,108,101,109,101,110,116]]:List (List UInt8)):=by
 have:∀(l:List (List UInt8×List Int)),(2:Int)∈yi op [] l->∃p∈l,p.1=op∧(2:Int)∈p.2:=by
  intro l
  induction l with
  |nil=>intro h;simp[yi]at h
  |cons p l ih=>
   intro h;rw[yi]at h;cases hp:op==p.1
   ·rw[hp]at h;obtain⟨q,h1,h2⟩:=ih h;exact⟨q,List.mem_cons_of_mem _ h1,h2⟩
   ·rw[hp]at h;rw[beqS,decide_eq_true_eq]at hp;exact⟨p,List.mem_cons_self,hp.symm,h⟩
 obtain⟨p,h1,rfl,h2⟩:=this _ h;clear this h
 revert p
 decide
end Go.Av
namespace Go.Proofs.YtafdkafbgohigaaGreat
open Go.Av
theorem qbS(b:Bool):EVf (EV cfg) 255 [.bool b]=some (vt b).av:=by
 apply Gets.get;refine qnk _ ?_;rw[vt,qkG];cases b<;>exact⟨_,rfl,rfl⟩
theorem qc6(t:Tm):EVs (EV cfg) 254 [t.av]=some (.tup [.bool ((vC t).getD false),.bool (vC t).isSome]):=by
 apply Gets.get;rw[Tm.av,Tm.cells_eq];refine ql6 _ _ _ _ ?_;unfold vC;simp only[beqS,show([116,114,117,101]:List UInt8)=tru from rfl,show([102,97,108,115,101]:List UInt8)=fal from rfl]
 by_cases h:t.kind=2
 ·have e0:(t.kind != 2)=false:=by rw[h];rfl
  rw[e0,cond_false]
  by_cases h1:t.str=tru
  ·rw[qAw ⟨h,h1⟩,qAu h1];exact⟨_,rfl,rfl⟩
  ·rw[qAx (λe=>h1 e.2),qAv h1]
   by_cases h2:t.str=fal
   ·rw[qAw ⟨h,h2⟩,qAu h2];exact⟨_,rfl,rfl⟩
   ·rw[qAx (λe=>h2 e.2),qAv h2];exact⟨_,rfl,rfl⟩
 ·have e0:(t.kind != 2)=true:=by simpa using h
  rw[e0,qAx (λe=>h e.1),qAx (λe=>h e.1)];exact⟨_,rfl,rfl⟩
theorem qnj(n:Int):EVf (EV cfg) 257 [.int .i64 n]=some (tbR (qL n)):=by
 apply Gets.get;refine ql5 _ ?_;unfold zA0;unfold qL;rw[←vr,←qg2]
 by_cases h1:n< -576460752303423488
 ·rw[qAu h1,qAx (λh:InB n=>by obtain⟨a,b⟩:=h;omega)];exact⟨_,rfl,rfl⟩
 ·rw[qAv h1,cond_false]
  by_cases h2:n>576460752303423487
  ·rw[qAu h2,qAx (λh:InB n=>by obtain⟨a,b⟩:=h;omega)];exact⟨_,rfl,rfl⟩
  ·rw[qAv h2,cond_false,qAw (show InB n from⟨by omega,by omega⟩)];exact⟨_,rfl,rfl⟩
theorem xA(op:List UInt8)(c:Int):EVs (EV cfg) 259 [.str op,.int .i64 c]=some (.bool (
  if op=[61,61]then decide (c=0)else if op=[61,58,61]then decide (c=0)else if op=[47,61]then !decide (c=0)else if op=[61,47,61]then !decide (c=0)
  else if op=[60]then decide (c<0)else if op=[61,60]then decide (c<=0)else if op=[62]then decide (c>0)else decide (c≥0))):=by
 apply Gets.get;refine qi9 _ _ ?_;have hne:(c != 0)= !decide (c=0):=by rw[bne,beqI]
 simp only[beqS,hne,beqI]
 repeat' first
  |exact⟨_,rfl,rfl⟩
  |(split<;>rename_i h<;>simp only[h,decide_true,cond_true,decide_false,cond_false])
theorem xu(n:Int):Gets (kOpt (EVf (EV cfg) 257 [.int .i64 n]) fun(v:AV)=>kTup v fun(cs:List AV)=>qa cs fun(c:AV) (cs:List AV)=>kAgg c fun(cs_1:List AV)=>qa cs_1 fun(c:AV) (cs_2:List AV)=>kInt .i64 c fun(n:Int)=>qa cs_2 fun(c:AV) (cs_3:List AV)=>kInt .i64 c fun(n_1:Int)=>qa cs_3 fun(c:AV) (cs_4:List AV)=>kStr c fun(s:List UInt8)=>qa cs_4 fun(c:AV) (cs_5:List AV)=>kSl c fun(rows:List (List AV))=>kNil cs_5 (qa cs fun(c:AV) (cs:List AV)=>qq c fun(b:Bool)=>kNil cs (some (AV.tup [.agg [.int .i64 n,.int .i64 n_1,.str s,.sl rows],.bool b])))) (·=tbR (qL n)):=by
 rw[qnj];simp only[qc,qiT,kTB,qK];exact⟨_,rfl,rfl⟩
theorem ql7{a b:Int}(ha:InB a)(hb:InB b):EVf (EV cfg) 275 [.int .i64 a,.int .i64 b]=some (tbR (qL (a*b))):=by
 obtain⟨a1,a2⟩:=ha;obtain⟨b1,b2⟩:=hb;have no:∀{P:Prop},¬InB (a*b)->(·=tbR (qL (a*b))) (tbR none):=by
  intro P h;show _=_;unfold qL;rw[qAx h]
 have fin:InB (a*b)->Gets (kOpt (EVf (EV cfg) 257 [.int .i64 (qzQ .i64 (a*b))]) fun(v:AV)=>kTup v fun(cs:List AV)=>qa cs fun(c:AV) (cs:List AV)=>kAgg c fun(cs_1:List AV)=>qa cs_1 fun(c:AV) (cs_2:List AV)=>kInt .i64 c fun(n:Int)=>qa cs_2 fun(c:AV) (cs_3:List AV)=>kInt .i64 c fun(n_1:Int)=>qa cs_3 fun(c:AV) (cs_4:List AV)=>kStr c fun(s:List UInt8)=>qa cs_4 fun(c:AV) (cs_5:List AV)=>kSl c fun(rows:List (List AV))=>kNil cs_5 (qa cs fun(c:AV) (cs:List AV)=>qq c fun(b:Bool)=>kNil cs (some (AV.tup [.agg [.int .i64 n,.int .i64 n_1,.str s,.sl rows],.bool b])))) (·=tbR (qL (a*b))):=by
  rintro⟨h1,h2⟩;rw[qS (by omega) (by omega)];exact xu _
 apply Gets.get;refine qkL _ _ ?_;unfold zA35 zA36 zA37 zA30 zA31 zA32 zA33 zA34 zA24 zA25 zA26 zA27 zA28 zA29 zA18 zA19 zA20 zA21 zA22 zA23 zA1 zA2 zA3 zA4 zA5 zA6 zA7 zA8 zA9 zA10 zA11 zA12 zA13 zA14 zA15 zA16 zA17 zA0;rw[←vr,qgN];rw[beqI,beqI]
 by_cases z1:a=0
 ·rw[qAu z1,cond_true,z1,Int.zero_mul];exact xu _
 rw[qAv z1,cond_false]
 by_cases z2:b=0
 ·rw[qAu z2,cond_true,z2,Int.mul_zero];exact xu _
 rw[qAv z2,cond_false];have neg:∀{x:Int},¬InB (a*b)->Gets (some (tbR none)) (·=tbR (qL (a*b))):=fun{_} h=>⟨_,rfl,no (P:=True) h⟩
 have q0:∀M y:Int,0<=M->0<y->0<=M / y∧M / y<=M:=λM y hM hy=>⟨Int.ediv_nonneg hM (by omega),Int.ediv_le_self y hM⟩
 have q1:∀M x y:Int,0<y->(x>M / y↔x*y>M):=λM x y hy=>by
  have:=Int.le_ediv_iff_mul_le (a:=x) (b:=M) hy;omega
 rcases Int.lt_or_gt_of_ne z1 with sa|sa
 ·have d1:decide (a>0)=false:=qAv (by omega);have d2:decide (a<0)=true:=qAu sa;rcases Int.lt_or_gt_of_ne z2 with sb|sb
  ·have d3:decide (b>0)=false:=qAv (by omega);have d4:decide (b<0)=true:=qAu sb;have e1:(576460752303423487:Int).tdiv b= -(576460752303423487 / (-b)):=by
    rw[show b= -(-b) by omega,Int.tdiv_neg,Int.neg_neg,Int.tdiv_eq_ediv_of_nonneg (by omega)]
   obtain⟨h1,h2⟩:=q0 576460752303423487 (-b) (by omega) (by omega);have h3:=q1 576460752303423487 (-a) (-b) (by omega);have e2:(-a)*(-b)=a*b:=Int.neg_mul_neg a b;rw[e2]at h3;have hp:0<a*b:=by rw[←e2];exact Int.mul_pos (by omega) (by omega)
   rw[yz z2,e1,qS (by omega) (by omega)];simp only[d1,d2,d3,d4,cond_true,cond_false,qc,qi]
   by_cases h:a< -(576460752303423487 / (-b))
   ·rw[qAu h,cond_true];exact neg (x:=0) fun⟨_,g⟩=>by omega
   ·rw[qAv h,cond_false];exact fin ⟨by omega,by omega⟩
  ·have d3:decide (b>0)=true:=qAu sb;have d4:decide (b<0)=false:=qAv (by omega);have e1:(-576460752303423488:Int).tdiv b= -(576460752303423488 / b):=by
    rw[show(-576460752303423488:Int)= -(576460752303423488) by omega,Int.neg_tdiv,Int.tdiv_eq_ediv_of_nonneg (by omega)]
   obtain⟨h1,h2⟩:=q0 576460752303423488 b (by omega) (by omega);have h3:=q1 576460752303423488 (-a) b (by omega);have e2:(-a)*b= -(a*b):=Int.neg_mul a b;rw[e2]at h3;have hp:0< -(a*b):=by rw[←e2];exact Int.mul_pos (by omega) (by omega)
   rw[yz z2,yz z2,e1,qS (x:= -(576460752303423488 / b)) (by omega) (by omega)];simp only[d1,d2,d3,d4,cond_true,cond_false,qc,qi]
   by_cases h:a< -(576460752303423488 / b)
   ·rw[qAu h,cond_true];exact neg (x:=0) fun⟨g,_⟩=>by omega
   ·rw[qAv h,cond_false];exact fin ⟨by omega,by omega⟩
 ·have d1:decide (a>0)=true:=qAu sa;have d2:decide (a<0)=false:=qAv (by omega);rcases Int.lt_or_gt_of_ne z2 with sb|sb
  ·have d3:decide (b>0)=false:=qAv (by omega);have d4:decide (b<0)=true:=qAu sb;have e1:(-576460752303423488:Int).tdiv a= -(576460752303423488 / a):=by
    rw[show(-576460752303423488:Int)= -(576460752303423488) by omega,Int.neg_tdiv,Int.tdiv_eq_ediv_of_nonneg (by omega)]
   obtain⟨h1,h2⟩:=q0 576460752303423488 a (by omega) (by omega);have h3:=q1 576460752303423488 (-b) a (by omega);have e2:(-b)*a= -(a*b):=by rw[Int.neg_mul,Int.mul_comm]
   rw[e2]at h3;have hp:0< -(a*b):=by rw[←e2];exact Int.mul_pos (by omega) (by omega)
   rw[yz z2,yz z2,yz z1,e1,qS (x:= -(576460752303423488 / a)) (by omega) (by omega)];simp only[d1,d2,d3,d4,cond_true,cond_false,qc,qi]
   by_cases h:b< -(576460752303423488 / a)
   ·rw[qAu h,cond_true];exact neg (x:=0) fun⟨g,_⟩=>by omega
   ·rw[qAv h,cond_false];exact fin ⟨by omega,by omega⟩
  ·have d3:decide (b>0)=true:=qAu sb;have d4:decide (b<0)=false:=qAv (by omega);have e1:(576460752303423487:Int).tdiv b=576460752303423487 / b:=Int.tdiv_eq_ediv_of_nonneg (by omega);obtain⟨h1,h2⟩:=q0 576460752303423487 b (by omega) (by omega);have h3:=q1 576460752303423487 a b (by omega);have hp:0<a*b:=Int.mul_pos (by omega) (by omega);rw[yz z2,e1,qS (x:=576460752303423487 / b) (by omega) (by omega)]
   simp only[d1,d2,d3,d4,cond_true,cond_false,qc,qi]
   by_cases h:a>576460752303423487 / b
   ·rw[qAu h,cond_true];exact neg (x:=0) fun⟨_,g⟩=>by omega
   ·rw[qAv h,cond_false];exact fin ⟨by omega,by omega⟩
theorem qnx{a b:Int}(ha:InB a)(hb:InB b):Gets (kOpt (EVf (EV cfg) 275 [.int .i64 a,.int .i64 b]) fun(v:AV)=>kTup v fun(cs:List AV)=>qa cs fun(c:AV) (cs:List AV)=>kAgg c fun(cs_1:List AV)=>qa cs_1 fun(c:AV) (cs_2:List AV)=>kInt .i64 c fun(n:Int)=>qa cs_2 fun(c:AV) (cs_3:List AV)=>kInt .i64 c fun(n_1:Int)=>qa cs_3 fun(c:AV) (cs_4:List AV)=>kStr c fun(s:List UInt8)=>qa cs_4 fun(c:AV) (cs_5:List AV)=>kSl c fun(rows:List (List AV))=>kNil cs_5 (qa cs fun(c:AV) (cs:List AV)=>qq c fun(b:Bool)=>kNil cs (some (AV.tup [.agg [.int .i64 n,.int .i64 n_1,.str s,.sl rows],.bool b])))) (·=tbR (qL (a*b))):=by
 rw[ql7 ha hb];simp only[qc,qiT,kTB,qK];exact⟨_,rfl,rfl⟩
theorem ql8{op:List UInt8}(h:op∈([[43],[45],[42],[98,97,110,100],[98,111,114],[98,120,111,114],[100,105,118],[114,101,109]]:List (List UInt8))){a b:Int}(ha:InB a)(hb:InB b):
  EVf (EV cfg) 262 [.str op,.int .i64 a,.int .i64 b]=some (tbR (xW op a b)):=by
 obtain⟨a1,a2⟩:=ha;obtain⟨b1,b2⟩:=hb;have hp:=qnx ⟨a1,a2⟩ ⟨b1,b2⟩;have h1:=qqo (a:=a) (b:=b) ⟨a1,a2⟩ ⟨b1,b2⟩;have h2:=qt1 (a:=a) (b:=b) ⟨a1,a2⟩ ⟨b1,b2⟩;have h3:=qqn (a:=a) (b:=b) ⟨a1,a2⟩ ⟨b1,b2⟩;have w1:qzQ .i64 (a+b)=a+b:=qS (by omega) (by omega);have w2:qzQ .i64 (a - b)=a - b:=qS (by omega) (by omega);apply Gets.get;refine qkM _ _ _ ?_;unfold zA55 zA56 zA60 zA57 zA58 zA59 zA2 zA3 zA4 zA5 zA6 zA7 zA8 zA9 zA10 zA11 zA12 zA13 zA14 zA15 zA16 zA17 zA0
 rw[←vr,qgN,w1,w2];simp only[beqS,beqI];simp only[qAd,List.not_mem_nil,or_false]at h;rcases h with rfl|rfl|rfl|rfl|rfl|rfl|rfl|rfl
 ·exact xu _
 ·exact xu _
 ·exact hp
 ·simp only[h1,qc,qi];exact xu _
 ·simp only[h2,qc,qi];exact xu _
 ·simp only[h3,qc,qi];exact xu _
 ·by_cases z:b=0
  ·rw[qAu z];unfold xW;simp only[qAw z];exact⟨_,rfl,rfl⟩
  ·rw[qAv z];have:=qm1 (a:=a) z;rw[yz z,qS (by omega) (by omega)];unfold xW;simp only[qAx z];exact xu _
 ·by_cases z:b=0
  ·rw[qAu z];unfold xW;simp only[qAw z];exact⟨_,rfl,rfl⟩
  ·rw[qAv z];rw[qjP z];unfold xW;simp only[qAx z];exact xu _
def qvw:Den:=evC cfg (EV cfg) 158 none 0 (sub (ql Tryz.f158) [1,1,0,1,0,0])
def qvF:Ex×List AV×AH->Option AV:=kAft (Cfg.keepOut cfg 158 4) (kRun cfg (EV cfg) (kfN cfg 6) 158 none 0 (yx cfg (Cfg.lift cfg 158 0) Tryz.f158.results.toList) ([.block 0,.seq (sub (ql Tryz.f158) [1,1,1])]))
def qvp:List AV×AH->Option AV:=λp=>kOpt (LOOP 0 (some [2,3,5]) ([]) qvw p) qvF
abbrev qeM(v5 c0_0 c0_1:Int)(c0_2:Bz)(c0_3:Rz)(c1_0 c1_1:Int)(c1_2:Bz)(c1_3:Rz):Option (AV):=qvp (((fx 53 [(2,.ptr 0 0 0),(3,.ptr 1 0 0),(5,.int .i64 v5)]):List AV),([.rows false 4 [[.int .i64 c0_0,.int .i64 c0_1,.str c0_2,.sl c0_3]],.rows false 4 [[.int .i64 c1_0,.int .i64 c1_1,.str c1_2,.sl c1_3]]]:AH))
theorem qpg(kp np:Int)(sp:Bz)(lp:Rz)(kt nt:Int)(st:Bz)(lt:Rz){P:AV->Prop}(h:Gets (bif kp != kt then some (.bool false)else bif np != nt then some (.bool false)else bif ! sp==st then some (.bool false)else bif(lp.length:Int) != (↑ (qzO lt):Int)then some (.bool false)else qeM 0 kp np sp lp kt nt st lt) P):Gets (EVs (EV cfg) 158 [.agg [.int .i64 kp,.int .i64 np,.str sp,.sl lp],.agg [.int .i64 kt,.int .i64 nt,.str st,.sl lt]]) P:=
  gE (λ_=>funS rfl rfl Tryz.func158 rfl) (by kernel_rfl) h
theorem qfq(v5 c0_0 c0_1:Int)(c0_2:Bz)(c0_3:Rz)(c1_0 c1_1:Int)(c1_2:Bz)(c1_3:Rz){P:AV->Prop}(h:Gets (bif decide (v5<(c0_3.length:Int))then bif qe 0 v5&&qu v5 (c0_3.length:Int)then kOpt (qzU c0_3 (v5.toNat)) λrow=>bif qzP (qzO row) 4 then bif qz8 4 (qzO row)then kTmC (qzT 4 row) λn n_1 s rows=>(bif qe 0 v5&&qu v5 (c1_3.length:Int)then kOpt (qzU c1_3 (v5.toNat)) λrow=>bif qzP (qzO row) 4 then bif qz8 4 (qzO row)then kTmC (qzT 4 row) λn_2 n_3 s_1 rows_1=>(kOpt (EVs (EV cfg) 158 [.agg [.int .i64 n,.int .i64 n_1,.str s,.sl rows],.agg [.int .i64 n_2,.int .i64 n_3,.str s_1,.sl rows_1]]) λv=>qq v λb=>bif ! b then some (.bool false)else qeM (qzQ .i64 (v5+1)) c0_0 c0_1 c0_2 c0_3 c1_0 c1_1 c1_2 c1_3)else none else none else none)else none else none else none else some (.bool true)) P):Gets (qeM v5 c0_0 c0_1 c0_2 c0_3 c1_0 c1_1 c1_2 c1_3) P:=
  gE (λ_=>qM (cfg:=cfg) (f:=158) (rd:=none) (bs:=0)) (by kernel_rfl) h
theorem qja(a:Tm):a.w<1099511627776->∀b:Tm,EVs (EV cfg) 158 [a.av,b.av]=some (.bool (decide (a=b))):=by
 induction a using Tm.ind with
 |_ k n s l ih=>
  intro hw b;obtain⟨k',n',s',l'⟩:=b;rw[Tm.w_mk]at hw;have hlen:=zg l;have loop:l.length=l'.length->∀d i:Nat,i+d=l.length->Gets (qeM i k n s (qb l) k' n' s' (qb l')) (·= .bool (decide (l.drop i=l'.drop i))):=by
   intro hll d
   induction d with
   |zero=>
    intro i hi;refine qfq _ _ _ _ _ _ _ _ _ ?_;rw[qj,qAv (show ¬((i:Int)<(l.length:Int)) by omega),List.drop_eq_nil_of_le (by omega),List.drop_eq_nil_of_le (by omega)];exact⟨_,rfl,rfl⟩
   |succ d ihd=>
    intro i hi;have hil:i<l.length:=by omega
    have him:i<l'.length:=by omega
    refine qfq _ _ _ _ _ _ _ _ _ ?_;have hx:l[i]? =some l[i]:=qzS hil;have hy:l'[i]? =some l'[i]:=qzS him;have hd:l.drop i=l[i]::l.drop (i+1):=List.drop_eq_getElem_cons hil;have hd':l'.drop i=l'[i]::l'.drop (i+1):=List.drop_eq_getElem_cons him;have hm:=qz5 hx;have h1:=ih l[i] hm (by have:=qb6 hm;omega) l'[i];have h2:=ihd (i+1) (by omega)
    rw[qj,qj,qAu (show(i:Int)<(l.length:Int) by omega),vX,xg,xg,qAu hil,qAu him,xG hx,vJ hil (by omega)];simp only[cond_true,qz7,qV,qAq,vn,qv,show qz8 4 4=true from rfl];rw[xG hy];simp only[cond_true,qV,qAq,vn,qv,show qz8 4 4=true from rfl,qK,h1,qc,qg]
    rw[hd,hd']
    by_cases he:l[i]=l'[i]
    ·rw[qAu he];refine h2.mono ?_;rintro _ rfl;rw[he]
     congr 1
     exact decide_eq_decide.2 ⟨λh=>by rw[h],λh=>(List.cons.inj h).2⟩
    ·rw[qAv he];refine⟨_,rfl,?_⟩;rw[qAv (λh=>he (List.cons.inj h).1)]
  apply Gets.get;rw[Tm.av_mk,Tm.av_mk];refine qpg _ _ _ _ _ _ _ _ ?_;rw[bneD,bneD,beqS,bneD,qj,qj]
  by_cases h1:k=k'
  ·by_cases h2:n=n'
   ·by_cases h3:s=s'
    ·by_cases h4:l.length=l'.length
     ·subst h1 h2 h3;rw[qAu rfl,qAu rfl,qAu rfl,qAu (show(l.length:Int)=l'.length by omega)];have h:=loop h4 l.length 0 (by omega);rw[List.drop_zero,List.drop_zero]at h;refine h.mono ?_;rintro _ rfl
      congr 1
      exact decide_eq_decide.2 ⟨λh=>by rw[h],λh=>by cases h;rfl⟩
     ·rw[qAu h1,qAu h2,qAu h3,qAv (show ¬(l.length:Int)=l'.length by omega)];exact⟨_,rfl,by rw[qAv (λh=>by cases h;exact h4 rfl)]⟩
    ·rw[qAu h1,qAu h2,qAv h3];exact⟨_,rfl,by rw[qAv (λh=>by cases h;exact h3 rfl)]⟩
   ·rw[qAu h1,qAv h2];exact⟨_,rfl,by rw[qAv (λh=>by cases h;exact h2 rfl)]⟩
  ·rw[qAv h1];exact⟨_,rfl,by rw[qAv (λh=>by cases h;exact h1 rfl)]⟩
abbrev mkR(o:Tm)(self:Int)(L V B:List (List AV))(b:Bool):AH:=
 [.rows false 9 [[.int .i64 o.kind,.int .i64 o.num,.str o.str,.sl (qb o.subs),.int .i64 self,.ms 1 0 L.length,.ms 2 0 V.length,.ms 3 0 B.length,.bool b]],.rows true 4 L,.rows true 4 V,.rows true 5 B]
abbrev stR(o:Tm)(self:Int)(s:SK):AH:=mkR o self (qb s.left.reverse) (qb s.vals.reverse) (qO s.binds) s.body
def howR:How->Int
 | .next=>0
 | .fails=>1
 | .raises=>2
 | .broken=>3
 | .jumps=>4
 | .tells=>5
theorem qj2{n:Nat}(h:n<=1099511627776):qX n 64=true:=by
 unfold qX;rw[qzR,Nat.ble_eq,Nat.ble_eq];omega
theorem qlm(o:Tm)(self:Int)(L V B:List (List AV))(b:Bool):EVj (EV cfg) 49 1 [.ptr 0 0 0] (mkR o self L V B b)=some (.tup [],stR o self (newK o)):=by
 apply Gets.get;refine qqN _ _ _ _ _ _ _ _ _ ⟨_,rfl,?_⟩;rw[stR,newK,mkR];simp only[List.reverse_cons,List.reverse_nil,List.nil_append,q4,q6,qsc,List.length_cons,List.length_nil,Tm.cells_eq]
theorem qut{o t:Tm}{self:Int}{r:List Tm}{V:List Tm}{B:List (Int×Tm)}{b:Bool}(hr:r.length<1000000000):
  EVj (EV cfg) 157 1 [.ptr 0 0 0] (stR o self ⟨t::r,V,B,b⟩)=some (.tup [t.av,.bool true],stR o self ⟨r,V,B,b⟩):=by
 apply Gets.get;refine qll _ _ _ _ _ _ _ _ _ ?_;simp only[];rw[yw];generalize hR:qb r.reverse=R;have hl:R.length=r.length:=by rw[←hR];simp
 have e0:((((R++[t.cells]).length:Nat):Int)==(0:Int))=false:=by simp<;>omega
 have e1:qzQ .i64 ((((R++[t.cells]).length:Nat):Int) - 1)=(R.length:Int):=by
  rw[qAc];exact qa8 (by omega)
 have e2:(qe (0:Int) (R.length:Int)&&qu (R.length:Int) (((R++[t.cells]).length:Nat):Int))=true:=by simp
 have e3:(qe (0:Int) (R.length:Int)&&qe (R.length:Int) (((R++[t.cells]).length:Nat):Int))=true:=by simp
 have et:(qzV (R.length:Int) - 0)=R.length:=by simp
 have ht4:qzT 4 t.cells=t.cells:=by rw[Tm.cells_eq];rfl
 have hl4:qz8 4 t.cells.length=true:=by rw[Tm.cells_eq];rfl
 have e5:qz8 R.length (R++[t.cells]).length=true:=by rw[nble,qAu (by simp)]
 rw[e0,e1,e2,e3,qa6,qge,et];simp only[qc,cond_false,cond_true,hl4,ht4,qv,e5,Nat.zero_add,yv (show R.length<=1099511627776 by omega),qz4];refine⟨_,rfl,?_⟩;rw[stR,hR,Tm.av,Tm.cells_eq]
theorem qsF{o:Tm}{self:Int}{V:List Tm}{B:List (Int×Tm)}{b:Bool}:
  EVj (EV cfg) 157 1 [.ptr 0 0 0] (stR o self ⟨[],V,B,b⟩)=some (.tup [vh.av,.bool false],stR o self ⟨[],V,B,b⟩):=by
 apply Gets.get;refine qll _ _ _ _ _ _ _ _ _ ?_;exact⟨_,rfl,by rw[vr]⟩
theorem qdu{o:Tm}{self:Int}{s:SK}{t:Tm}(hv:s.vals.length<1000000000):
  EVj (EV cfg) 161 1 [.ptr 0 0 0,t.av] (stR o self s)=some (.int .i64 0,stR o self { s with vals:=t::s.vals }):=by
 apply Gets.get;rw[Tm.av,Tm.cells_eq];refine qqH _ _ _ _ _ _ _ _ _ _ _ _ _ ?_;generalize hV:qb s.vals.reverse=V;have hl:V.length=s.vals.length:=by rw[←hV];simp
 have e1:(qz8 (0+V.length) V.length)=true:=by rw[nble,qAu (by omega)]
 simp only[qz4,Nat.zero_add,yv (show V.length<=1099511627776 by omega),yv (show V.length+1<=1099511627776 by omega),qz7,cond_true,show qz8 V.length V.length=true from by rw[nble,qAu (qz0 _)]];refine⟨_,rfl,?_⟩;have e3:qb (t::s.vals).reverse=V++[t.cells]:=by rw[yw,hV]
 show _=(_,mkR o self _ (qb (t::s.vals).reverse) _ _);rw[e3,Tm.cells_eq,mkR,qAc];have e4:qzT (V.length+1) (qAi V [[AV.int .i64 t.kind,.int .i64 t.num,.str t.str,.sl (qb t.subs)]])=V++[[AV.int .i64 t.kind,.int .i64 t.num,.str t.str,.sl (qb t.subs)]]:=qAa (by simp);rw[e4];rfl
theorem qcy{o:Tm}{self:Int}{s:SK}{t:Tm}(ht:t.w<1099511627776)(hv:s.vals.length<1000000000):
  EVj (EV cfg) 162 1 [.ptr 0 0 0,t.av] (stR o self s)=some (.int .i64 (howR (vL t s).1),stR o self (vL t s).2):=by
 have hc:=zS ht;have hz:=qdu (o:=o) (self:=self) (s:=s) (t:=t) hv;apply Gets.get;rw[Tm.av,Tm.cells_eq]at hc hz⊢;refine qoU _ _ _ _ _ _ _ _ _ _ _ _ _ ?_;rw[hc];simp only[qc,qi,bneD];unfold vL
 by_cases h0:t.chk=0
 ·simp only[h0,decide_true,qAj,cond_false,if_true,qz4,hz,qc,qp,qo,qI,qF,qy,qz7,cond_true,qt,qz,qx,qn,qD,qi,qJ,qC,qg,qG];exact⟨_,rfl,rfl⟩
 ·simp only[h0,decide_false,qAp,cond_true,if_false];exact⟨_,rfl,rfl⟩
theorem qqF{o:Tm}{self:Int}{s:SK}{n:Int}(h:n<0∨(s.vals.length:Int)<n):
  EVj (EV cfg) 164 1 [.ptr 0 0 0,.int .i64 n] (stR o self s)=some (.tup [.sl [],.bool false],stR o self s):=by
 apply Gets.get;refine qiV _ _ _ _ _ _ _ _ _ _ ?_
 by_cases h1:n<0
 ·rw[qAu h1];exact⟨_,rfl,rfl⟩
 ·rw[qAv h1,qAu (show n>((qb s.vals.reverse).length:Int) by rw[qj,List.length_reverse];omega)];exact⟨_,rfl,rfl⟩
theorem qlk{o:Tm}{self:Int}{s:SK}{n:Nat}(hn:n<=s.vals.length)(hv:s.vals.length<1000000000):
  EVj (EV cfg) 164 1 [.ptr 0 0 0,.int .i64 (n:Int)] (stR o self s)=some (.tup [.sl (qb (s.vals.take n).reverse),.bool true],stR o self { s with vals:=s.vals.drop n }):=by
 apply Gets.get;refine qiV _ _ _ _ _ _ _ _ _ _ ?_;have hrev:s.vals.reverse=(s.vals.drop n).reverse++(s.vals.take n).reverse:=by
  rw[←List.reverse_append,List.take_append_drop]
 rw[hrev,vO];have hRl:(qb (s.vals.drop n).reverse).length=s.vals.length - n:=by simp
 have hTl:(qb (s.vals.take n).reverse).length=n:=by simp;omega
 show Gets _ (·=(_,mkR o self _ (qb (s.vals.drop n).reverse) _ _));generalize qb (s.vals.drop n).reverse=R at *;generalize qb (s.vals.take n).reverse=T at *;have hlen:((R++T).length:Int) - (n:Int)=(R.length:Int):=by rw[qAc,hTl];omega
 have e1:qzQ .i64 (((R++T).length:Int) - (n:Int))=(R.length:Int):=by rw[hlen,qS (by omega) (by omega)]
 have e2:(qe (0:Int) (R.length:Int)&&qe (R.length:Int) ((R++T).length:Int))=true:=by simp;omega
 have e3:(R++T).length - qzV (R.length:Int)=n:=by rw[qAc,hTl,qAk];omega
 have e6:(0+qzV (R.length:Int))=R.length:=by simp
 have e5:(qzV (R.length:Int) - 0)=R.length:=by simp
 rw[qAv (show ¬((n:Int)<0) by omega),qAv (show ¬((n:Int)>((R++T).length:Int)) by omega),e1,e2,e3,e6,e5];have e7:qzT R.length (R++T)=R:=List.take_left;have e8:qzT n (List.drop R.length (R++T))=T:=by rw[List.drop_left];exact qAa (by omega)
 rw[e7,e8];have b1:qz8 (R.length+n) (R++T).length=true:=by rw[nble,qAc,qAu (by omega)]
 have b2:qz8 (0+R.length) (R++T).length=true:=by rw[nble,qAc,qAu (by omega)]
 have b3:qz8 (0+(0+T.length)) T.length=true:=by rw[nble,qAu (by omega)]
 rw[b1,b2,b3,Nat.zero_add,Nat.zero_add,yv (by omega),yv (by omega),qz4,qz4];exact⟨_,rfl,rfl⟩
theorem qm4{o:Tm}{self:Int}{L V:List (List AV)}{b:Bool}{B:List (Int×Tm)}{n:Int}(hB:B.length<1000000000):∀(rest pre:List (Int×Tm)),B=pre++rest ->
  Gets (qeP n (pre.length:Int) o.kind o.num o.str (qb o.subs) self L.length V.length (qO B).length b L V (qO B) 0 0 [] []) (·=(.tup [((qR n rest).getD vh).av,.bool (qR n rest).isSome],mkR o self L V (qO B) b)):=by
 intro rest
 induction rest with
 |nil=>
  intro pre h;refine qfu _ _ _ _ _ _ _ _ _ _ _ _ _ _ _ _ _ _ ?_;rw[qAv (show ¬(pre.length:Int)<((qO B).length:Int) by rw[vp,h];simp)];exact⟨_,rfl,by rw[qR];simp only[Option.getD_none,Option.isSome_none];rw[vr]⟩
 |cons p rest ih=>
  intro pre h;refine qfu _ _ _ _ _ _ _ _ _ _ _ _ _ _ _ _ _ _ ?_;have hl:B.length=pre.length+(rest.length+1):=by rw[h];simp
  have g0:qzU (qO B) (0+qzV (pre.length:Int))=some (.int .i64 p.1::p.2.cells):=by
   rw[Nat.zero_add,qAk,q9,qcJ,h,qz2 (qz0 _),Nat.sub_self];rfl
  have g1:qzU (AV.int .i64 p.1::p.2.cells) 0=some (.int .i64 p.1):=rfl;have e1:(qe 0 (pre.length:Int)&&qu (pre.length:Int) ((qO B).length:Int))=true:=by rw[vp];simp;omega
  have h1:=ih (pre++[p]) (by rw[h];simp);have w1:qzQ .i64 ((pre.length:Int)+1)=(((pre++[p]).length:Nat):Int):=by rw[qS (by omega) (by omega)];simp
  rw[qAu (show(pre.length:Int)<((qO B).length:Int) by rw[vp];omega),e1,g0];simp only[cond_true,qc,g1,qi,beqI,w1];rw[qR]
  by_cases hp:p.1=n
  ·rw[qAu hp,qAw hp];have hl5:qz8 5 (qzO (AV.int qAn p.1::p.2.cells))=true:=by rw[Tm.cells_eq];rfl
   have hd:qzT 4 (List.drop 1 (AV.int qAn p.1::p.2.cells))=[.int .i64 p.2.kind,.int .i64 p.2.num,.str p.2.str,.sl (qb p.2.subs)]:=by rw[Tm.cells_eq];rfl
   simp only[cond_true,hl5,hd,qn,qi,qD,qJ,qC];refine⟨_,rfl,?_⟩;simp only[Option.getD_some,Option.isSome_some];rw[Tm.av,Tm.cells_eq]
  ·rw[qAv hp,qAx hp];exact h1
theorem qiW{o:Tm}{self:Int}{s:SK}{n:Int}(hB:s.binds.length<1000000000):
  EVj (EV cfg) 160 1 [.ptr 0 0 0,.int .i64 n] (stR o self s)=some (.tup [((qR n s.binds).getD vh).av,.bool (qR n s.binds).isSome],stR o self s):=by
 apply Gets.get;refine qoY _ _ _ _ _ _ _ _ _ _ ?_;exact qm4 hB s.binds [] rfl
theorem qdz{A:List (Int×Tm)}{n:Int}{t:Tm}:qAi (qzT A.length (qO A)) [[AV.int .i64 n,.int .i64 t.kind,.int .i64 t.num,.str t.str,.sl (qb t.subs)]]=qO (A++[(n,t)]):=by
 have e:qzT A.length (qO A)=qO A:=qAa (by rw[vp];exact qz0 _);rw[e];show qO A++_=_;unfold qO;rw[List.map_append];simp only[List.map_cons,List.map_nil,Tm.cells_eq]
theorem qm5{o t:Tm}{self:Int}{L V:List (List AV)}{b:Bool}{B:List (Int×Tm)}{n:Int}(hB:B.length<1000000000):∀(rest pre A:List (Int×Tm)),B=pre++rest->(∀p∈rest,p.1≠n)->A.length<=pre.length+1 ->
  Gets (z6 n A.length true (pre.length:Int) o.kind o.num o.str (qb o.subs) self L.length V.length (qO B).length b L V (qO B) t.kind t.num t.str (qb t.subs) (qO A)) (·=(.tup [],mkR o self L V (qO (A++rest)) b)):=by
 intro rest
 induction rest with
 |nil=>
  intro pre A h _ hA;refine qaV _ _ _ _ _ _ _ _ _ _ _ _ _ _ _ _ _ _ _ _ _ ?_;unfold zz0 zz1 zz2 zz3 zz4;rw[vp B,h,qAv (by simp)];refine⟨_,rfl,?_⟩;rw[List.append_nil,qAa (by rw[vp];exact qz0 _)];show _=(_,mkR _ _ _ _ _ _);rw[mkR,vp A]
 |cons p rest ih=>
  intro pre A h hn hA;refine qaV _ _ _ _ _ _ _ _ _ _ _ _ _ _ _ _ _ _ _ _ _ ?_;unfold zz0 zz1 zz2 zz3 zz4;have hl:B.length=pre.length+(rest.length+1):=by rw[h];simp
  have g0:qzU (qO B) (0+qzV (pre.length:Int))=some (.int .i64 p.1::p.2.cells):=by
   rw[Nat.zero_add,qAk,q9,qcJ,h,qz2 (qz0 _),Nat.sub_self];rfl
  have g1:qzU (AV.int .i64 p.1::p.2.cells) 0=some (.int .i64 p.1):=rfl;have e1:(qe 0 (pre.length:Int)&&qu (pre.length:Int) ((qO B).length:Int))=true:=by rw[vp];simp;omega
  have h1:=ih (pre++[p]) (A++[p]) (by rw[h];simp) (λq hq=>hn q (by simp[hq])) (by simp;omega);have w1:qzQ .i64 ((pre.length:Int)+1)=(((pre++[p]).length:Nat):Int):=by rw[qS (by omega) (by omega)];simp
  have hl5:qz8 5 (qzO (AV.int qAn p.1::p.2.cells))=true:=by rw[Tm.cells_eq];rfl
  have hd:qzT 5 (AV.int qAn p.1::p.2.cells)= .int .i64 p.1::p.2.cells:=by rw[Tm.cells_eq];rfl
  have e2:(qz8 (0+A.length) (qO A).length&&qX (A.length+1) 64)=true:=by rw[vp,qj2 (by omega),nble,qAu (by omega)];rfl
  rw[qAu (show(pre.length:Int)<((qO B).length:Int) by rw[vp];omega),e1,g0];simp only[cond_true,cond_false,qAj,qc,g1,qi,bneD,qAv (hn p (by simp)),qAp,w1,hl5,hd,qn,qv,e2,qdz];rw[qAc]at h1;have e3:A++[p]++rest=A++p::rest:=by simp
  rw[e3]at h1;exact h1
theorem quu{o t:Tm}{self:Int}{L V:List (List AV)}{b:Bool}{B:List (Int×Tm)}{n:Int}(hB:B.length<1000000000):∀(rest pre:List (Int×Tm)) (last:Int),B=pre++rest->mayB last rest=true ->
  Gets (z6 n pre.length false (pre.length:Int) o.kind o.num o.str (qb o.subs) self L.length V.length (qO B).length b L V (qO B) t.kind t.num t.str (qb t.subs) (qO pre)) (·=(.tup [],mkR o self L V (qO (pre++insR n t rest)) b)):=by
 intro rest
 induction rest with
 |nil=>
  intro pre last h _;refine qaV _ _ _ _ _ _ _ _ _ _ _ _ _ _ _ _ _ _ _ _ _ ?_;unfold zz0 zz1 zz2 zz3 zz4;have hl:B.length=pre.length:=by rw[h];simp
  have e2:(qz8 (0+pre.length) (qO pre).length&&qX (pre.length+1) 64)=true:=by rw[vp,qj2 (by omega),nble,qAu (by omega)];rfl
  rw[vp B,hl,qAv (by omega)];simp only[cond_false,qAp,cond_true,e2,qdz];refine⟨_,rfl,?_⟩;rw[insR,qAa (by rw[vp];simp),mkR,vp (pre++_),qAc];rfl
 |cons p rest ih=>
  intro pre last h hm;simp only[mayB,qzR,decide_eq_true_eq]at hm;refine qaV _ _ _ _ _ _ _ _ _ _ _ _ _ _ _ _ _ _ _ _ _ ?_;unfold zz0 zz1 zz2 zz3 zz4;have hl:B.length=pre.length+(rest.length+1):=by rw[h];simp
  have g0:qzU (qO B) (0+qzV (pre.length:Int))=some (.int .i64 p.1::p.2.cells):=by
   rw[Nat.zero_add,qAk,q9,qcJ,h,qz2 (qz0 _),Nat.sub_self];rfl
  have g1:qzU (AV.int .i64 p.1::p.2.cells) 0=some (.int .i64 p.1):=rfl;have e1:(qe 0 (pre.length:Int)&&qu (pre.length:Int) ((qO B).length:Int))=true:=by rw[vp];simp;omega
  have w1:qzQ .i64 ((pre.length:Int)+1)=(((pre++[p]).length:Nat):Int):=by rw[qS (by omega) (by omega)];simp
  have hl5:qz8 5 (qzO (AV.int qAn p.1::p.2.cells))=true:=by rw[Tm.cells_eq];rfl
  have hd:qzT 5 (AV.int qAn p.1::p.2.cells)= .int .i64 p.1::p.2.cells:=by rw[Tm.cells_eq];rfl
  have e2:(qz8 (0+pre.length) (qO pre).length&&qX (pre.length+1) 64)=true:=by rw[vp,qj2 (by omega),nble,qAu (by omega)];rfl
  have hgt:∀q∈rest,p.1<q.1:=λq hq=>(qjn hm.2.2.2 q hq).1
  rw[qAu (show(pre.length:Int)<((qO B).length:Int) by rw[vp];omega),e1,g0];simp only[cond_true,qAp,qc,g1,qi,bneD,w1,hl5,hd,qn,qv,e2,qdz];rw[insR]
  by_cases h1:p.1<n
  ·rw[qAv (show ¬p.1≥n by omega),qAv (show ¬p.1=n by omega),qAw h1];simp only[cond_false,qAp,cond_true];have:=ih (pre++[p]) p.1 (by rw[h];simp) hm.2.2.2;rw[qAc]at this;have e3:pre++[p]++insR n t rest=pre++p::insR n t rest:=by simp
   rw[e3]at this;rw[qAc];exact this
  ·rw[qAu (show p.1≥n by omega),qAx h1];simp only[cond_true]
   by_cases h2:p.1=n
   ·rw[qAu h2,qAw h2];simp only[cond_false,qAj];have:=qm5 (o:=o) (t:=t) (self:=self) (L:=L) (V:=V) (b:=b) (n:=n) hB rest (pre++[p]) (pre++[(n,t)]) (by rw[h];simp) (λq hq=>by have:=hgt q hq;omega) (by simp);rw[qAc]at this;have e3:pre++[(n,t)]++rest=pre++(n,t)::rest:=by simp
    rw[e3]at this;exact this
   ·rw[qAv h2,qAx h2];simp only[cond_true,qAp];have e4:(qz8 (0+(pre.length+1)) (qO (pre++[(n,t)])).length&&qX (pre.length+1+1) 64)=true:=by rw[vp,qj2 (by omega),nble,qAu (by simp)];rfl
    have r5:=qdz (A:=pre++[(n,t)]) (n:=p.1) (t:=p.2);rw[qAc]at r5;have:=qm5 (o:=o) (t:=t) (self:=self) (L:=L) (V:=V) (b:=b) (n:=n) hB rest (pre++[p]) (pre++[(n,t)]++[p]) (by rw[h];simp) (λq hq=>by have:=hgt q hq;omega) (by simp);rw[qAc,qAc]at this;have e3:pre++[(n,t)]++[p]++rest=pre++(n,t)::p::rest:=by simp
    rw[e3]at this;rw[e4];simp only[cond_true];have r6:qAi (qzT (pre.length+1) (qO (pre++[(n,t)]))) [[AV.int .i64 p.1,.int .i64 p.2.kind,.int .i64 p.2.num,.str p.2.str,.sl (qb p.2.subs)]]=qO (pre++[(n,t)]++[p]):=r5;rw[r6];exact this
theorem qsI{o t:Tm}{self:Int}{s:SK}{n:Int}(hB:s.binds.length<1000000000){last:Int}(hm:mayB last s.binds=true):
  EVj (EV cfg) 159 1 [.ptr 0 0 0,.int .i64 n,t.av] (stR o self s)=some (.tup [],stR o self { s with binds:=insR n t s.binds }):=by
 apply Gets.get;rw[Tm.av,Tm.cells_eq];refine qqM _ _ _ _ _ _ _ _ _ _ _ _ _ _ ?_;exact quu (t:=t) hB s.binds [] last rfl hm
theorem qrn(l:List Tm)(x e:Tm):yV (l++[x]) e=yV l (qaw x e):=by
 induction l with
 |nil=>rfl
 |cons y l ih=>show qaw y (yV (l++[x]) e)=qaw y (yV l (qaw x e));rw[ih]
theorem qpR{l:List Tm}(hl:l.length<1000000000):∀(j:Nat),j<=l.length->∀e:Tm,∀a0 a1 a2 a3,
  Gets (qeO (qb l) ((j:Int) - 1) a0 a1 a2 a3 e.kind e.num e.str (qb e.subs)) (·=(yV (l.take j) e).av):=by
 intro j
 induction j with
 |zero=>
  intro _ e a0 a1 a2 a3;refine qft _ _ _ _ _ _ _ _ _ _ ?_;rw[qAv (by omega)];exact⟨_,rfl,by show _=e.av;rw[Tm.av,Tm.cells_eq]⟩
 |succ j ih=>
  intro hj e a0 a1 a2 a3;have hjl:j<l.length:=by omega
  have g0:l[j]? =some l[j]:=qzS hjl;refine qft _ _ _ _ _ _ _ _ _ _ ?_;have e0:(((j+1:Nat):Int) - 1)=(j:Int):=by omega
  have e1:(qe 0 (j:Int)&&qu (j:Int) ((qb l).length:Int))=true:=by simp;omega
  have w1:qzQ .i64 ((j:Int) - 1)=(j:Int) - 1:=by rw[qS (by omega) (by omega)]
  rw[e0,qAu (show(j:Int)≥0 by omega),e1,qdy g0];have ht4:qzT 4 l[j].cells=l[j].cells:=by rw[Tm.cells_eq];rfl
  have hl4:qz8 4 l[j].cells.length=true:=by rw[Tm.cells_eq];rfl
  have hb4:qzP l[j].cells.length 4=true:=by rw[Tm.cells_eq];rfl
  simp only[qc,cond_true,ht4,hl4,hb4,qv,w1];have h1:=ih (by omega) (qaw l[j] e) a0 a1 a2 a3;have e5:l.take (j+1)=l.take j++[l[j]]:=by rw[List.take_add_one,g0];rfl
  rw[e5,qrn];have e6:qb (qaw l[j] e).subs=[[AV.int .i64 l[j].kind,.int .i64 l[j].num,.str l[j].str,.sl (qb l[j].subs)],[AV.int .i64 e.kind,.int .i64 e.num,.str e.str,.sl (qb e.subs)]]:=by
   unfold qaw;simp only[Tm.subs,q4,q6,Tm.cells_eq]
  rw[e6]at h1;exact h1
theorem qtT{l:List Tm}(hl:l.length<1000000000):EVf (EV cfg) 163 [.sl (qb l)]=some (yV l zy).av:=by
 apply Gets.get;refine qr5 _ ?_;have h:=qpR hl l.length (qz0 _) zy 0 0 [] [];rw[qj,qS (by omega) (by omega)];rw[qz4]at h;exact h
theorem qpQ(t:Tm):EVs (EV cfg) 166 [t.av]=some (.tup [.bool (decide (vC t=some true)),.bool (vC t).isSome]):=by
 apply Gets.get;rw[Tm.av,Tm.cells_eq];refine qoi _ _ _ _ ?_;unfold vC;have hft:fal≠tru:=by decide
 simp only[beqI,beqS,show([116,114,117,101]:List UInt8)=tru from rfl,show([102,97,108,115,101]:List UInt8)=fal from rfl]
 by_cases h2:t.kind=2
 ·by_cases h3:t.str=tru
  ·have h4:¬t.str=fal:=by rw[h3];decide
   simp only[h2,h3,decide_true,cond_true,true_and,and_self,if_true,Option.isSome_some];exact⟨_,rfl,rfl⟩
  ·by_cases h4:t.str=fal
   ·simp only[h2,h4,hft,decide_true,decide_false,cond_true,cond_false,and_self,and_false,if_true,if_false,Option.isSome_some];exact⟨_,rfl,rfl⟩
   ·simp only[h2,h3,h4,decide_true,decide_false,cond_true,cond_false,and_false,if_false,Option.isSome_none];exact⟨_,rfl,rfl⟩
 ·simp only[h2,decide_false,cond_false,false_and,if_false,Option.isSome_none];exact⟨_,rfl,rfl⟩
def qcl(op:List UInt8)(l:List Tm)(self:Int):Tm×Int:=
 if((l.length:Int)∈opsG op∧qau self=true)∧∀x∈l,x.chk=0 then(match zo op l self with|some t=>(t,0)|none=>(vh,10))else(vh,2)
theorem qt6(op:List UInt8)(l:List Tm)(self:Int):doO op l self=if(qcl op l self).2=0 then some (qcl op l self).1 else none:=by
 unfold doO qcl;split
 ·cases zo op l self<;>rfl
 ·rfl
theorem qrU(hp:yd){op:List UInt8}{l:List Tm}(hl:∀x∈l,x.w<1099511627776)(hlen:l.length<1099511627776)(self:Int):
  EVf (EV cfg) 155 [.str op,.sl (qb l),.int .i64 self]=some (.tup [(qcl op l self).1.av,.int .i64 (qcl op l self).2]):=by
 apply Gets.get;refine qrT _ _ _ ?_;rw[qj,qya,←vr];simp only[qc,qJ];rw[qpT _ (qnz op),qw4];simp only[qc,qg];unfold qcl
 by_cases hop:(l.length:Int)∈opsG op
 case neg=>
  rw[qAv hop,qAx (λh=>hop h.1.1)];exact⟨_,rfl,rfl⟩
 rw[qAu hop];cases hs:qau self with
 |false=>rw[qAx (by rintro⟨⟨_,h⟩,_⟩;cases h)];exact⟨_,rfl,rfl⟩
 |true=>
 have h2:=qeZ op hop;have loop:∀(d i:Nat),i+d=l.length->(∀(j:Nat) x,j<i->l[j]? =some x->x.chk=0)->Gets (qiN op (qb l) self i 0 0 [] []) (·= .tup [(if ∀x∈l,x.chk=0 then(match zo op l self with|some t=>(t,0)|none=>(vh,10))else(vh,2):Tm×Int).1.av,.int .i64 (if ∀x∈l,x.chk=0 then(match zo op l self with|some t=>(t,0)|none=>(vh,10))else(vh,2):Tm×Int).2]):=by
  intro d
  induction d with
  |zero=>
   intro i hi ha;refine qhs _ _ _ _ _ _ _ _ ?_;have hall:∀x∈l,x.chk=0:=λx hx=>by
    obtain⟨j,hj,rfl⟩:=List.mem_iff_getElem.1 hx;exact ha j _ (by omega) (qzS hj)
   have hm:=qtt ⟨vh,[],self⟩ op hall h2 (λ_=>hp);have e0:mR ⟨vh,[],self⟩ false=[[.int .i64 0,.int .i64 0,.str [],.sl [],.sl [],.int .i64 self,.bool false]]:=by simp[mR,vh,qO]
   rw[e0]at hm;rw[qj,qAv (by omega),qAw hall,←vr];refine Gets.bind hm ?_;intro r hr;unfold Res at hr;cases hap:zo op l self with
   |none=>
    rw[hap]at hr;obtain⟨g1,z,g2⟩:=hr;rw[g1,g2];simp only[ve,qto,qc];exact⟨_,rfl,rfl⟩
   |some z=>
    rw[hap]at hr;have hr:r=(z.av,mR ⟨vh,[],self⟩ false):=hr;subst hr;have hcp:=qxt (qax z (qfn hall h2 hap));simp only[ve,qto,qc,qK,hcp];exact⟨_,rfl,rfl⟩
  |succ d ih=>
   intro i hi ha;refine qhs _ _ _ _ _ _ _ _ ?_;have hil:i<l.length:=by omega
   have hx:l[i]? =some l[i]:=qzS hil;have hc:=qor (hl l[i] (qz5 hx));rw[qj,qAu (show(i:Int)<(l.length:Int) by omega),vX,xg,qAu hil,xG hx,vJ hil hlen,←vr];simp only[cond_true,qz7,qV,qAq,vn,qv,qaF,qK];rw[hc];simp only[qc,qi,bneD]
   by_cases h0:l[i].chk=0
   ·rw[qAu h0];refine ih (i+1) (by omega) (λj x hj hjx=>?_)
    by_cases e:j=i
    ·subst e;rw[hx]at hjx;cases hjx;exact h0
    ·exact ha j x (by omega) hjx
   ·rw[qAv h0,qAx (λh=>h0 (h _ (qz5 hx)))];exact⟨_,rfl,rfl⟩
 have h:=loop l.length 0 (by omega) (λj x hj=>by omega);refine h.mono λr hr=>?_
 rw[hr]
 by_cases hall:∀x∈l,x.chk=0
 ·rw[qAw hall,qAw ⟨⟨hop,rfl⟩,hall⟩]
 ·rw[qAx hall,qAx (λh=>hall h.2)]
theorem qux{V:List (List AV)}{off n:Nat}(h:off+(n+1)<=V.length)(hn:V.length<1099511627776):
  EVj (EV cfg) 154 1 [.ms 0 off (n+1)] [.rows true 4 V]=some (.sl ((V.drop off).take (n+1)),[.rows true 4 V]):=by
 apply Gets.get;refine qo2 _ _ _ ?_;have hl:(qzT (n+1) (List.drop off V)).length=n+1:=by rw[List.length_take,List.length_drop];omega
 rw[hl,nble,qAu h,yv (by omega),nble,qAu (by omega),Nat.zero_add,qAa (by rw[hl];exact qz0 _)];exact⟨_,rfl,rfl⟩
theorem qiY:EVj (EV cfg) 154 0 [.nilS] []=some (.sl [],[]):=by
 apply Gets.get;exact qm7 .junk ⟨_,rfl,rfl⟩
theorem qlo:EVj (EV cfg) 154 0 [.em] []=some (.sl [],[]):=by
 apply Gets.get;exact qm8 .junk ⟨_,rfl,rfl⟩
theorem qrs(R T:List (List AV)):qzT (qzV (R.length:Int) - 0) (R++T)=R:=by
 rw[qAk,Nat.sub_zero,List.take_left]
theorem qsx(ts:List Tm):(tupT ts).av= .agg [.int .i64 7,.int .i64 0,.str [],.sl (qb ts)]:=by rw[tupT,Tm.av_mk]
theorem qql(ts:List Tm):(Tm.mk 9 0 [] ts).av= .agg [.int .i64 9,.int .i64 0,.str [],.sl (qb ts)]:=by rw[Tm.av_mk]
theorem qrI{α:Type}(t:Tm)(e:Int)(K:Int->Int->List UInt8->List (List AV)->Int->Option α):
  (kTup (.tup [t.av,.int .i64 e]) fun(cs:List AV)=>qa cs fun(c:AV) (cs:List AV)=>kAgg c fun(cs_1:List AV)=>qa cs_1 fun(c:AV) (cs_2:List AV)=>kInt .i64 c fun(n:Int)=>qa cs_2 fun(c:AV) (cs_3:List AV)=>kInt .i64 c fun(n_1:Int)=>qa cs_3 fun(c:AV) (cs_4:List AV)=>kStr c fun(s:List UInt8)=>qa cs_4 fun(c:AV) (cs_5:List AV)=>kSl c fun(rows:List (List AV))=>kNil cs_5 (qa cs fun(c:AV) (cs:List AV)=>kInt .i64 c fun(n_2:Int)=>kNil cs (K n n_1 s rows n_2)))=K t.kind t.num t.str (qb t.subs) e:=by
 rw[Tm.av,Tm.cells_eq];rfl
theorem qsN(hp:yd){o:Tm}{self:Int}{s:SK}{x:InsA}(hx:x.o=11∨x.o=12∨x.o=13)(hxw:x.t.w<1099511627776)(hs:SOk s)(hv:s.vals.length<=200000):
  EVj (EV cfg) 92 1 [.ptr 0 0 0,x.av] (stS o self s)=some (.int .i64 (howI (qaX self s x).1),stS o self (qaX self s x).2):=by
 have hm:=qc1 hxw;apply Gets.get;rw[InsA.av,Tm.cells_eq];refine qqU _ _ _ _ _ _ _ _ _ _ _ _ _ _ _ _ ?_;unfold zu8 zu3 zu4 zu5 zu6 zu7 zu1 zu2 zu0;generalize hVV:qb s.vals.reverse=VV;have hVl:VV.length=s.vals.length:=by rw[←hVV];simp
 have sb:(AV.int .i64 5,mkS o self (qb s.left.reverse) VV (mB s.binds) s.body)=(AV.int .i64 (howI .broken),stS o self s):=by rw[stS,hVV];rfl
 unfold qaX
 by_cases hbad:xi x<0∨(s.vals.length:Int)<xi x∨(x.o=13∧(x.t.kind≠2∨x.t.chk≠0))
 ·rw[qAw hbad];unfold xi at hbad;rcases hx with hx|hx|hx
  ·rw[hx,qAx (by decide)]at hbad;simp only[hx,beqI,qAb,decide_true,decide_false,cond_true,cond_false]
   by_cases ha:x.a<0
   ·rw[qAu ha];exact⟨_,rfl,sb⟩
   ·rw[qAv ha,qAu (show x.a>(VV.length:Int) by omega)];exact⟨_,rfl,sb⟩
  ·rw[hx,qAw rfl]at hbad;simp only[hx,beqI,qAb,decide_true,decide_false,cond_true,cond_false];rw[qAu (show(2:Int)>(VV.length:Int) by omega)];exact⟨_,rfl,sb⟩
  ·rw[hx,qAx (by decide)]at hbad;simp only[hx,beqI,bneD,qAb,decide_true,decide_false,cond_true,cond_false]
   by_cases ha:x.a<0
   ·rw[qAu ha];exact⟨_,rfl,sb⟩
   ·rw[qAv ha]
    by_cases hb:x.a>(VV.length:Int)
    ·rw[qAu hb];exact⟨_,rfl,sb⟩
    ·rw[qAv hb]
     by_cases hk:x.t.kind=2
     ·rw[qAu hk];have hc:¬x.t.chk=0:=by omega
      simp only[cond_false,qAj,qK,hm,qc,qg,hc,decide_false,qAp,cond_true];exact⟨_,rfl,sb⟩
     ·rw[qAv hk];exact⟨_,rfl,sb⟩
 ·rw[qAx hbad];obtain⟨N,hN⟩:∃N:Nat,xi x=(N:Int):=⟨(xi x).toNat,by omega⟩;have hNl:N<=s.vals.length:=by omega
  have h13:x.o=13->x.t.kind=2∧x.t.chk=0:=λh=>by omega
  rw[hN,qAk];generalize hts:(s.vals.take N).reverse=ts;generalize hrest:s.vals.drop N=rest;have hrev:s.vals.reverse=rest.reverse++ts:=by
   rw[←hts,←hrest,←List.reverse_append,List.take_append_drop]
  have htl:ts.length=N:=by rw[←hts];simp;omega
  have hrl:rest.length=s.vals.length - N:=by rw[←hrest];simp
  have htc:∀y∈ts,y.chk=0:=λy hy=>hs.vals y (List.mem_of_mem_take (List.mem_reverse.1 (hts▸hy)))
  have htw:=qcv htc (by omega);have hV:VV=qb rest.reverse++qb ts:=by rw[←hVV,hrev,vO]
  have z7:=qac (o:=o) (self:=self) (s:={ s with vals:=rest }) (t:=tupT ts) (by rw[tupT,Tm.w_mk];simp;omega) (by simp only[];omega);have z9:=qac (o:=o) (self:=self) (s:={ s with vals:=rest }) (t:=.mk 9 0 [] ts) (by rw[Tm.w_mk];simp;omega) (by simp only[];omega);have za:=qrU hp (op:=x.t.str) (l:=ts) (λy hy=>by have:=xO (htc y hy);omega) (by omega) self;have hd:=qt6 x.t.str ts self
  have zaw:∀v,doO x.t.str ts self=some v->v.w<1099511627776:=λv hv=>by
   unfold doO at hv;split at hv
   ·rename_i hc;exact qfn htc (qeZ _ hc.1.1) hv
   ·cases hv
  rw[qsx]at z7;rw[qql]at z9;have hRl:(qb rest.reverse).length=rest.length:=by simp
  have hTl:(qb ts).length=N:=by rw[qj,htl]
  subst hV;have zp:∀t:Tm,t.w<1099511627776->EVj (EV cfg) 152 1 [.ptr 0 0 0,t.av] (mkS o self (qb s.left.reverse) (qb rest.reverse) (mB s.binds) s.body)=some (.int .i64 (howI (vL t { s with vals:=rest }).1),stS o self (vL t { s with vals:=rest }).2):=λt ht=>qac (o:=o) (self:=self) (s:={ s with vals:=rest }) (t:=t) ht (by simp only[];omega)
  have sr:(AV.int .i64 3,mkS o self (qb s.left.reverse) (qb rest.reverse) (mB s.binds) s.body)=(AV.int .i64 (howI .raises),stS o self { s with vals:=rest }):=rfl;simp only[stS]at z7 z9;generalize hR:qb rest.reverse=R at *;generalize hT:qb ts=T at *;have hlen:((R++T).length:Int) - (N:Int)=(R.length:Int):=by rw[qAc,hTl];omega
  have e1:qzQ .i64 (((R++T).length:Int) - (N:Int))=(R.length:Int):=by rw[hlen,qS (by omega) (by omega)]
  have e2:(qe (0:Int) (R.length:Int)&&qe (R.length:Int) ((R++T).length:Int))=true:=by simp;omega
  have e3:(R++T).length - qzV (R.length:Int)=N:=by rw[qAc,hTl,qAk];omega
  have e4:qzT (qzV (R.length:Int) - 0) (R++T)=R:=qrs R T;have e5:(qzV (R.length:Int) - 0)=R.length:=by simp
  have e6:(0+qzV (R.length:Int))=R.length:=by simp
  have e7:qzT R.length (R++T)=R:=List.take_left;have ec:∀k,N=k+1->EVj (EV cfg) 154 1 [.ms 0 R.length (k+1)] [.rows true 4 (R++T)]=some (.sl T,[.rows true 4 (R++T)]):=λk hk=>by
   have:=qux (V:=R++T) (off:=R.length) (n:=k) (by rw[qAc];omega) (by omega);rw[List.drop_left,qAa (by omega)]at this;exact this
  have e8:N=0->T=[]:=λh=>List.length_eq_zero_iff.1 (by omega)
  rcases hx with hx|hx|hx
  ·have hxa:x.a=(N:Int):=by
    have:=hN;unfold xi at this
    rwa [hx,qAx (by decide)]at this
   simp only[hx,hxa,beqI,qAb,decide_true,decide_false,cond_true,cond_false,if_true,e1,e2,e3];rw[qAv (show ¬((N:Int)<0) by omega),qAv (show ¬((N:Int)>((R++T).length:Int)) by omega)];cases N with
   |zero=>
    have:=e8 rfl;subst this;simp only[cond_false,cond_true,qbV,qiY,qlo,qc,qx,qJ,qdF,e5,e7,qz4,z7,qp,qo,qI,qF,qy,qz7,qt,qz,qn,qD,qi,qC,qg,qG,vS,vR];exact⟨_,rfl,rfl⟩
   |succ k=>
    simp only[cond_false,cond_true,qbV,ec k rfl,e6,qc,qx,qJ,e5,e7,qz4,z7,qp,qo,qI,qF,qy,qz7,qt,qz,qn,qD,qi,qC,qg,qG,vS,vR];exact⟨_,rfl,rfl⟩
  ·have hN2:N=1+1:=by
    have:=hN;unfold xi at this;rw[hx,qAw rfl]at this;omega
   have e1':qzQ .i64 (((R++T).length:Int) - 2)=(R.length:Int):=by
    have:(2:Int)=(N:Int):=by omega
    rw[this];exact e1
   rw[hN2]at e3;simp only[hx,beqI,qAb,decide_true,decide_false,cond_true,cond_false,if_true,if_false,e1',e2,e3];rw[qAv (show ¬((2:Int)>((R++T).length:Int)) by omega)];simp only[cond_false,cond_true,qbV,ec 1 hN2,e6,qc,qx,qJ,e5,e7,qz4,z9,qp,qo,qI,qF,qy,qz7,qt,qz,qn,qD,qi,qC,qg,qG,vS,vR]
   exact⟨_,rfl,rfl⟩
  ·have hxa:x.a=(N:Int):=by
    have:=hN;unfold xi at this
    rwa [hx,qAx (by decide)]at this
   obtain⟨hk2,hc0⟩:=h13 hx;simp only[hx,hxa,hk2,beqI,bneD,qAb,decide_true,decide_false,cond_true,cond_false,if_false,e1,e2,e3];rw[qAv (show ¬((N:Int)<0) by omega),qAv (show ¬((N:Int)>((R++T).length:Int)) by omega)];rw[←hk2];cases N with
   |zero=>
    have:=e8 rfl;subst this;simp only[cond_false,qK,hm,hc0,decide_true,qAj,qbV,qiY,qlo,qc,qx,qJ,qdF,e5,e7,qz4,za,qrI,qg];rw[hd]
    by_cases h0:(qcl x.t.str ts self).2=0
    ·rw[qAw h0,qAu h0];rw[qAw h0]at hd;have hz:=zp _ (zaw _ hd);simp only[qAj,cond_false,hz,qc,qx,qJ,qp,qo,qI,qF,qy,qz7,cond_true,qt,qz,qn,qD,qi,qC,qg,qG,vS,vR];exact⟨_,rfl,rfl⟩
    ·rw[qAx h0,qAv h0];exact⟨_,rfl,by rw[stS,hR];rfl⟩
   |succ k=>
    simp only[cond_false,cond_true,qK,hm,hc0,decide_true,qAj,qbV,ec k rfl,e6,qc,qx,qJ,e5,e7,qz4,za,qrI,qg,qp,qo,qF,qy,qz7];rw[hd]
    by_cases h0:(qcl x.t.str ts self).2=0
    ·rw[qAw h0,qAu h0];rw[qAw h0]at hd;have hz:=zp _ (zaw _ hd);simp only[qAj,cond_false,hz,qc,qx,qJ,qp,qo,qI,qF,qy,qz7,cond_true,qt,qz,qn,qD,qi,qC,qg,qG,vS,vR];exact⟨_,rfl,rfl⟩
    ·rw[qAx h0,qAv h0];exact⟨_,rfl,by rw[stS,hR];rfl⟩
theorem qsR(o:Tm)(self:Int)(L V:List (List AV))(es:List (AV×AV))(b:Bool):
  EVj (EV cfg) 43 1 [.ptr 0 0 0] (mkS o self L V es b)=some (.tup [],stS o self (newK o)):=by
 apply Gets.get;refine qqY _ _ _ _ _ _ _ _ _ ?_;unfold zt0;refine⟨_,rfl,?_⟩;show _=(_,mkS o self (qb [o].reverse) (qb [].reverse) (mB []) false);rw[List.reverse_singleton,q4,q6,Tm.cells_eq];rfl
theorem qqZ(o:Tm)(self:Int):
  EVj (EV cfg) 43 1 [.ptr 0 0 0] [.rows false 9 [[.int .i64 o.kind,.int .i64 o.num,.str o.str,.sl (qb o.subs),.int .i64 self,.ms 1 0 0,.ms 2 0 0,.nilM,.bool false]],.rows true 4 [],.rows true 4 []]=some (.tup [],stS o self (newK o)):=by
 apply Gets.get;refine qo3 _ _ _ _ _ ?_;unfold zt0;refine⟨_,rfl,?_⟩;show _=(_,mkS o self (qb [o].reverse) (qb [].reverse) (mB []) false);rw[List.reverse_singleton,q4,q6,Tm.cells_eq];rfl
theorem qsQ(hp:yd){o:Tm}{self:Int}{s:SK}{x:InsA}(hxw:x.t.w<1099511627776)(ho:o.chk=0)(hs:SOk s)(hv:s.vals.length<=200000)(hl:s.left.length<1000000000):
  EVj (EV cfg) 44 1 [.ptr 0 0 0,x.av] (stS o self s)=some (.int .i64 (howI (vZ opsK o self s x).1),stS o self (vZ opsK o self s x).2):=by
 have m1:∀h,_:=λh=>qqS (o:=o) (self:=self) (x:=x) (s:=s) h hxw hs hl
 have m2:∀h,_:=λh=>qsP (o:=o) (self:=self) (x:=x) (s:=s) h hxw ho hs hv
 have m3:∀h,_:=λh=>qsN hp (o:=o) (self:=self) (x:=x) (s:=s) h hxw hs hv
 have m4:∀h,_:=λh=>qsO (o:=o) (self:=self) (x:=x) (s:=s) h (by omega)
 apply Gets.get;rw[InsA.av,Tm.cells_eq]at m1 m2 m3 m4⊢;refine qqX _ _ _ _ _ _ _ _ _ _ _ _ _ _ _ _ ?_;unfold zt12 zt11 zt10 zt9 zt2 zt3 zt4 zt5 zt6 zt7 zt8 zt1;unfold vZ
 by_cases h1:x.o=1∨x.o=2∨x.o=3∨x.o=4∨x.o=5∨x.o=6
 ·have z:=m1 h1;rw[qAw (by simp only[qAd,List.not_mem_nil,or_false];exact h1)];rcases h1 with h|h|h|h|h|h
  all_goals
   simp only[h]at z;simp only[h,beqI,qAb,decide_true,decide_false,cond_true,cond_false,qz4,z,qc,qp,qo,qI,qF,qy,qz7,qt,qz,qx,qn,qD,qi,qJ,qC,qg,qG,vS,vR];exact⟨_,rfl,rfl⟩
 rw[qAx (by simp only[qAd,List.not_mem_nil,or_false];exact h1)]
 by_cases h2:x.o=7∨x.o=8∨x.o=9∨x.o=10
 ·have z:=m2 h2;rw[qAw (by simp only[qAd,List.not_mem_nil,or_false];exact h2)];rcases h2 with h|h|h|h
  all_goals
   simp only[h]at z;simp only[h,beqI,qAb,decide_true,decide_false,cond_true,cond_false,qz4,z,qc,qp,qo,qI,qF,qy,qz7,qt,qz,qx,qn,qD,qi,qJ,qC,qg,qG,vS,vR];exact⟨_,rfl,rfl⟩
 rw[qAx (by simp only[qAd,List.not_mem_nil,or_false];exact h2)]
 by_cases h3:x.o=11∨x.o=12∨x.o=13
 ·have z:=m3 h3;rw[qAw (by simp only[qAd,List.not_mem_nil,or_false];exact h3)];rcases h3 with h|h|h
  all_goals
   simp only[h]at z;simp only[h,beqI,qAb,decide_true,decide_false,cond_true,cond_false,qz4,z,qc,qp,qo,qI,qF,qy,qz7,qt,qz,qx,qn,qD,qi,qJ,qC,qg,qG,vS,vR];exact⟨_,rfl,rfl⟩
 rw[qAx (by simp only[qAd,List.not_mem_nil,or_false];exact h3)]
 by_cases h4:x.o=14∨x.o=15∨x.o=16∨x.o=17∨x.o=19∨x.o=20
 ·have z:=m4 h4;rw[qAw (by simp only[qAd,List.not_mem_nil,or_false];exact h4)];rcases h4 with h|h|h|h|h|h
  all_goals
   simp only[h]at z;simp only[h,beqI,qAb,decide_true,decide_false,cond_true,cond_false,qz4,z,qc,qp,qo,qI,qF,qy,qz7,qt,qz,qx,qn,qD,qi,qJ,qC,qg,qG,vS,vR];exact⟨_,rfl,rfl⟩
 rw[qAx (by simp only[qAd,List.not_mem_nil,or_false];exact h4)];have n1:∀k:Int,(k=1∨k=2∨k=3∨k=4∨k=5∨k=6∨k=7∨k=8∨k=9∨k=10∨k=11∨k=12∨k=13∨k=14∨k=15∨k=16∨k=17∨k=19∨k=20)->(x.o==k)=false:=by
  intro k hk;rw[beqI,qAv];omega
 simp only[n1 1 (by simp),n1 2 (by simp),n1 3 (by simp),n1 4 (by simp),n1 5 (by simp),n1 6 (by simp),n1 7 (by simp),n1 8 (by simp),n1 9 (by simp),n1 10 (by simp),n1 11 (by simp),n1 12 (by simp),n1 13 (by simp),n1 14 (by simp),n1 15 (by simp),n1 16 (by simp),n1 17 (by simp),n1 19 (by simp),n1 20 (by simp),cond_false]
 by_cases h5:x.o=18
 ·rw[qAw h5,beqI,qAu h5];exact⟨_,rfl,rfl⟩
 ·rw[qAx h5,beqI,qAv h5];exact⟨_,rfl,rfl⟩
theorem qly{t:Tm}{s s':SK}{h:How}(e:vL t s=(h,s')):s'.vals.length<=s.vals.length+1∧s'.left.length<=s.left.length+64:=by
 unfold vL at e;split at e
 ·cases e;simp
 ·cases e;simp
theorem qlQ{bo:BO}{o:Tm}{self:Int}{s s':SK}{x:InsA}{h:How}(hs:SOk s)(e:vZ bo o self s x=(h,s')):s'.vals.length<=s.vals.length+1∧s'.left.length<=s.left.length+64:=by
 unfold vZ at e;split at e
 ·unfold zm at e;split at e
  ·cases e;simp
  ·rename_i t r hl;have ht:=qbD (hs.left t (by rw[hl];simp));have h0:s.left.length=r.length+1:=by rw[hl];rfl
   repeat' split at e
   all_goals (cases e;constructor<;>(try simp)<;>(try omega))
 split at e
 ·unfold qaZ at e
  repeat' split at e
  all_goals first|exact qly e|(cases e;simp)
 split at e
 ·unfold qaX at e;have h1:∀{t:Tm},vL t { s with vals:=s.vals.drop (xi x).toNat }=(h,s')->s'.vals.length<=s.vals.length+1∧s'.left.length<=s.left.length+64:=λe=>by
   have:=qly e;simp at this;omega
  repeat' split at e
  all_goals first|exact h1 e|(cases e;constructor<;>(try simp)<;>(try omega))
 split at e
 ·unfold qaY at e;split at e
  ·cases e;simp
  ·rename_i t r hv;have h0:s.vals.length=r.length+1:=by rw[hv];rfl
   repeat' split at e
   all_goals (cases e;constructor<;>(try simp)<;>(try omega))
 split at e
 ·cases e;simp
 ·cases e;simp
theorem qd9{bo:BO}{o:Tm}{self:Int}{s s':SK}{x:InsA}(e:vZ bo o self s x=(.tells,s')):∃t r,s'.vals=t::r:=by
 have hpu:∀{t:Tm} {s:SK},vL t s≠(.tells,s'):=fun{t s} e=>by
  unfold vL at e;split at e<;>cases e
 unfold vZ at e;split at e
 ·unfold zm at e
  repeat' split at e
  all_goals cases e
 split at e
 ·unfold qaZ at e
  repeat' split at e
  all_goals first|exact absurd e hpu|cases e
 split at e
 ·unfold qaX at e
  repeat' split at e
  all_goals first|exact absurd e hpu|cases e
 split at e
 ·unfold qaY at e;split at e
  ·cases e
  ·rename_i t r hv
   repeat' split at e
   all_goals first|(cases e;exact⟨t,r,hv⟩)|cases e
 split at e<;>cases e
def vV(r:Tm×Bool×Int×Int):AV:=.tup [r.1.av,.bool r.2.1,.int .i64 r.2.2.1,.int .i64 r.2.2.2]
def qvy:Den:=evC cfg (EV cfg) 97 none 4 (sub (ql Tryz.f97) [1,1,1,0,1,0,1,0,1,0,1,0,0])
def qvH:Ex×List AV×AH->Option (AV×AH):=kAft (Cfg.keepOut cfg 97 (qm (sub (ql Tryz.f97) [1,1,1,0,1,0,1,0,1,0,1,0,0]))) (xa 1 (kSeq (fun(fr:List AV) (H:AH)=>xR (Cfg.cut cfg 97 (qm (sub (ql Tryz.f97) [1,1,1,0,1,0,1,0,1,1]))) fr H fun(fr:List AV) (H:AH)=>vA cfg (EV cfg) (kfN cfg 6) 97 none 4 (sub (ql Tryz.f97) [1,1,1,0,1,0,1,0,1,1]) fr H (xa 0 (kSeq (fun(fr:List AV) (H:AH)=>xR (Cfg.cut cfg 97 (qm (sub (ql Tryz.f97) [1,1,1,1]))) fr H fun(fr:List AV) (H:AH)=>vA cfg (EV cfg) (kfN cfg 6) 97 none 4 (sub (ql Tryz.f97) [1,1,1,1]) fr H (yY cfg 1 (Cfg.lift cfg 97 0) (qAt (Func.results Tryz.f97)))) (yY cfg 1 (Cfg.lift cfg 97 0) (qAt (Func.results Tryz.f97)))))) (xa 0 (kSeq (fun(fr:List AV) (H:AH)=>xR (Cfg.cut cfg 97 (qm (sub (ql Tryz.f97) [1,1,1,1]))) fr H fun(fr:List AV) (H:AH)=>vA cfg (EV cfg) (kfN cfg 6) 97 none 4 (sub (ql Tryz.f97) [1,1,1,1]) fr H (yY cfg 1 (Cfg.lift cfg 97 0) (qAt (Func.results Tryz.f97)))) (yY cfg 1 (Cfg.lift cfg 97 0) (qAt (Func.results Tryz.f97)))))))
def qvr:List AV×AH->Option (AV×AH):=fun(p:List AV×AH)=>kOpt (LOOP 4 (some [0,5,7]) [] qvy p) qvH
def qvx:Den:=evC cfg (EV cfg) 98 none 4 (sub (ql Tryz.f98) [1,0,1,0,1,1,1,1,1,0,1,0,1,0,0])
def qvG:Ex×List AV×AH->Option (AV×AH):=kAft (Cfg.keepOut cfg 98 (qm (sub (ql Tryz.f98) [1,0,1,0,1,1,1,1,1,0,1,0,1,0,0]))) (xa 1 (kSeq (fun(fr:List AV) (H:AH)=>xR (Cfg.cut cfg 98 (qm (sub (ql Tryz.f98) [1,0,1,0,1,1,1,1,1,0,1,1]))) fr H fun(fr:List AV) (H:AH)=>vA cfg (EV cfg) (kfN cfg 6) 98 none 4 (sub (ql Tryz.f98) [1,0,1,0,1,1,1,1,1,0,1,1]) fr H (xa 0 (kSeq (fun(fr:List AV) (H:AH)=>xR (Cfg.cut cfg 98 (qm (sub (ql Tryz.f98) [1,1]))) fr H fun(fr:List AV) (H:AH)=>vA cfg (EV cfg) (kfN cfg 6) 98 none 4 (sub (ql Tryz.f98) [1,1]) fr H (yY cfg 1 (Cfg.lift cfg 98 0) (qAt (Func.results Tryz.f98)))) (yY cfg 1 (Cfg.lift cfg 98 0) (qAt (Func.results Tryz.f98)))))) (xa 0 (kSeq (fun(fr:List AV) (H:AH)=>xR (Cfg.cut cfg 98 (qm (sub (ql Tryz.f98) [1,1]))) fr H fun(fr:List AV) (H:AH)=>vA cfg (EV cfg) (kfN cfg 6) 98 none 4 (sub (ql Tryz.f98) [1,1]) fr H (yY cfg 1 (Cfg.lift cfg 98 0) (qAt (Func.results Tryz.f98)))) (yY cfg 1 (Cfg.lift cfg 98 0) (qAt (Func.results Tryz.f98)))))))
def qvq:List AV×AH->Option (AV×AH):=fun(p:List AV×AH)=>kOpt (LOOP 4 (some [0,5,6]) [(5,4)] qvx p) qvG
abbrev qcX(v7 c0_0 c0_1:Int)(c0_2:Bz)(c0_3:Rz)(c0_4:Int)(nc0_5 nc0_6 nc0_7:Nat)(c0_8:Bool)(c4_0 c4_1:Int)(c4_2:Bz)(c4_3 h5 h6 h7:Rz):Option (AV×AH):=qvr (((fx 128 [(0,.ptr 0 0 0),(5,.ptr 4 0 0),(7,.int .i64 v7)]):List AV),([.rows false 9 [[.int .i64 c0_0,.int .i64 c0_1,.str c0_2,.sl c0_3,.int .i64 c0_4,.ms 5 0 nc0_5,.ms 6 0 nc0_6,.ms 7 0 nc0_7,.bool c0_8]],.dead,.dead,.dead,.rows false 4 [[.int .i64 c4_0,.int .i64 c4_1,.str c4_2,.sl c4_3]],.rows true 4 h5,.rows true 4 h6,.rows true 5 h7]:AH))
abbrev qeN(nv5:Nat)(v6 c0_0 c0_1:Int)(c0_2:Bz)(c0_3:Rz)(c0_4:Int)(nc0_5 nc0_6 nc0_7:Nat)(c0_8:Bool)(h1 h2 h3 h4:Rz):Option (AV×AH):=qvq (((fx 67 [(0,.ptr 0 0 0),(5,.ms 4 0 nv5),(6,.int .i64 v6)]):List AV),([.rows false 9 [[.int .i64 c0_0,.int .i64 c0_1,.str c0_2,.sl c0_3,.int .i64 c0_4,.ms 1 0 nc0_5,.ms 2 0 nc0_6,.ms 3 0 nc0_7,.bool c0_8]],.rows true 4 h1,.rows true 4 h2,.rows true 5 h3,.rows true 4 h4]:AH))
abbrev zF0(n_5 n_6:Int)(s:Bz)(rows:Rz)(n_7:Int)(rs rs_1 rs_2:Rz)(b:Bool):Option (AV×AH):=some (.int .i64 3,[.rows false 9 [[AV.int .i64 n_5,.int .i64 n_6,.str s,.sl rows,.int .i64 n_7,.ms 1 0 (qzO rs),.ms 2 0 (qzO rs_1),.ms 3 0 (qzO rs_2),.bool b]],.rows true 4 rs,.rows true 4 rs_1,.rows true 5 rs_2])
abbrev zF2(n_5 n_6:Int)(s:Bz)(rows:Rz)(n_7:Int)(rs rs_1 rs_2:Rz)(b:Bool):Option (AV×AH):=some (.int .i64 1,[.rows false 9 [[AV.int .i64 n_5,.int .i64 n_6,.str s,.sl rows,.int .i64 n_7,.ms 1 0 (qzO rs),.ms 2 0 (qzO rs_1),.ms 3 0 (qzO rs_2),.bool b]],.rows true 4 rs,.rows true 4 rs_1,.rows true 5 rs_2])
abbrev zF6(rows_1:Rz)(n_5 n_6:Int)(s:Bz)(rows:Rz)(n_7:Int)(rs rs_1 rs_2:Rz)(b:Bool)(n_8 n_9:Int)(s_1:Bz):Option (AV×AH):=qcX (qzQ .i64 ((↑ (qzO rows_1):Int) - 1)) n_5 n_6 s rows n_7 (qzO rs) (qzO rs_1) (qzO rs_2) b n_8 n_9 s_1 rows_1 rs rs_1 rs_2
abbrev zF5(n_8 n_5 n_6:Int)(s:Bz)(rows:Rz)(n_7:Int)(rs rs_1 rs_2:Rz)(b:Bool)(rows_1:Rz)(n_9:Int)(s_1:Bz):Option (AV×AH):=bif n_8 != 9 then zF2 n_5 n_6 s rows n_7 rs rs_1 rs_2 b else zF6 rows_1 n_5 n_6 s rows n_7 rs rs_1 rs_2 b n_8 n_9 s_1
abbrev zF4(o n_8 n_5 n_6:Int)(s:Bz)(rows:Rz)(n_7:Int)(rs rs_1 rs_2:Rz)(b:Bool)(rows_1:Rz)(n_9:Int)(s_1:Bz):Option (AV×AH):=bif o==2 then zF5 n_8 n_5 n_6 s rows n_7 rs rs_1 rs_2 b rows_1 n_9 s_1 else zF6 rows_1 n_5 n_6 s rows n_7 rs rs_1 rs_2 b n_8 n_9 s_1
abbrev zF3(rows_1:Rz)(a n_5 n_6:Int)(s:Bz)(rows:Rz)(n_7:Int)(rs rs_1 rs_2:Rz)(b:Bool)(o n_8 n_9:Int)(s_1:Bz):Option (AV×AH):=bif(rows_1.length:Int) != a then zF2 n_5 n_6 s rows n_7 rs rs_1 rs_2 b else zF4 o n_8 n_5 n_6 s rows n_7 rs rs_1 rs_2 b rows_1 n_9 s_1
abbrev zF1(n_8 n_5 n_6:Int)(s:Bz)(rows:Rz)(n_7:Int)(rs rs_1 rs_2:Rz)(b:Bool)(rows_1:Rz)(a o n_9:Int)(s_1:Bz):Option (AV×AH):=bif n_8 != 7 then zF2 n_5 n_6 s rows n_7 rs rs_1 rs_2 b else zF3 rows_1 a n_5 n_6 s rows n_7 rs rs_1 rs_2 b o n_8 n_9 s_1
abbrev zF9(rows_1:Rz)(n_5 n_6:Int)(s:Bz)(rows:Rz)(n_7:Int)(rs rs_1 rs_2:Rz)(b:Bool)(n_8 n_9:Int)(s_1:Bz):Option (AV×AH):=qcX (qzQ .i64 ((rows_1.length:Int) - 1)) n_5 n_6 s rows n_7 (qzO rs) (qzO rs_1) (qzO rs_2) b n_8 n_9 s_1 rows_1 rs rs_1 rs_2
abbrev zF8(n_8 n_5 n_6:Int)(s:Bz)(rows:Rz)(n_7:Int)(rs rs_1 rs_2:Rz)(b:Bool)(rows_1:Rz)(n_9:Int)(s_1:Bz):Option (AV×AH):=bif n_8 != 9 then zF2 n_5 n_6 s rows n_7 rs rs_1 rs_2 b else zF9 rows_1 n_5 n_6 s rows n_7 rs rs_1 rs_2 b n_8 n_9 s_1
abbrev zF7(o n_8 n_5 n_6:Int)(s:Bz)(rows:Rz)(n_7:Int)(rs rs_1 rs_2:Rz)(b:Bool)(rows_1:Rz)(n_9:Int)(s_1:Bz):Option (AV×AH):=bif o==2 then zF8 n_8 n_5 n_6 s rows n_7 rs rs_1 rs_2 b rows_1 n_9 s_1 else zF9 rows_1 n_5 n_6 s rows n_7 rs rs_1 rs_2 b n_8 n_9 s_1
abbrev zF14(o n_8 n_5 n_6:Int)(s:Bz)(rows:Rz)(n_7:Int)(rs rs_1 rs_2:Rz)(b:Bool)(rows_1:Rz)(n_9:Int)(s_1:Bz):Option (AV×AH):=bif o==(2:Int)then zF8 n_8 n_5 n_6 s rows n_7 rs rs_1 rs_2 b rows_1 n_9 s_1 else zF9 rows_1 n_5 n_6 s rows n_7 rs rs_1 rs_2 b n_8 n_9 s_1
abbrev zF13(rows_1:Rz)(a n_5 n_6:Int)(s:Bz)(rows:Rz)(n_7:Int)(rs rs_1 rs_2:Rz)(b:Bool)(o n_8 n_9:Int)(s_1:Bz):Option (AV×AH):=bif(rows_1.length:Int) != a then zF2 n_5 n_6 s rows n_7 rs rs_1 rs_2 b else zF14 o n_8 n_5 n_6 s rows n_7 rs rs_1 rs_2 b rows_1 n_9 s_1
abbrev zF12(n_8 n_5 n_6:Int)(s:Bz)(rows:Rz)(n_7:Int)(rs rs_1 rs_2:Rz)(b:Bool)(rows_1:Rz)(a o n_9:Int)(s_1:Bz):Option (AV×AH):=bif n_8 != 7 then zF2 n_5 n_6 s rows n_7 rs rs_1 rs_2 b else zF13 rows_1 a n_5 n_6 s rows n_7 rs rs_1 rs_2 b o n_8 n_9 s_1
abbrev zF15(o n_8 n_5 n_6:Int)(s:Bz)(rows:Rz)(n_7:Int)(rs rs_1 rs_2:Rz)(b:Bool)(rows_1:Rz)(n_9:Int)(s_1:Bz):Option (AV×AH):=bif o==2 then bif n_8 != 9 then some (.int .i64 (1:Int),[.rows false 9 [[AV.int .i64 n_5,.int .i64 n_6,.str s,.sl rows,.int .i64 n_7,.ms 1 0 (qzO rs),.ms 2 0 (qzO rs_1),.ms 3 0 (qzO rs_2),.bool b]],.rows true 4 rs,.rows true 4 rs_1,.rows true 5 rs_2])else zF9 rows_1 n_5 n_6 s rows n_7 rs rs_1 rs_2 b n_8 n_9 s_1 else zF9 rows_1 n_5 n_6 s rows n_7 rs rs_1 rs_2 b n_8 n_9 s_1
abbrev zF11(o n_8 n_5 n_6:Int)(s:Bz)(rows:Rz)(n_7:Int)(rs rs_1 rs_2:Rz)(b:Bool)(rows_1:Rz)(a n_9:Int)(s_1:Bz):Option (AV×AH):=bif o==1 then zF12 n_8 n_5 n_6 s rows n_7 rs rs_1 rs_2 b rows_1 a o n_9 s_1 else zF15 o n_8 n_5 n_6 s rows n_7 rs rs_1 rs_2 b rows_1 n_9 s_1
abbrev zF17(n_5 n_6:Int)(s:Bz)(rows:Rz)(n_7:Int)(rs rs_1 rs_2:Rz)(b:Bool):Option (AV×AH):=some (.int .i64 0,[.rows false 9 [[AV.int .i64 n_5,.int .i64 n_6,.str s,.sl rows,.int .i64 n_7,.ms 1 0 (qzO rs),.ms 2 0 (qzO rs_1),.ms 3 0 (qzO rs_2),.bool b]],.rows true 4 rs,.rows true 4 rs_1,.rows true 5 rs_2])
abbrev zF21(b_2:Bool)(n_5 n_6:Int)(s:Bz)(rows:Rz)(n_7:Int)(rs rs_1 rs_2:Rz)(b:Bool):Option (AV×AH):=bif b_2 then zF17 n_5 n_6 s rows n_7 rs rs_1 rs_2 b else zF2 n_5 n_6 s rows n_7 rs rs_1 rs_2 b
abbrev zF20(v:AV)(n_5 n_6:Int)(s:Bz)(rows:Rz)(n_7:Int)(rs rs_1 rs_2:Rz)(b:Bool):Option (AV×AH):=qq v λb_2=>zF21 b_2 n_5 n_6 s rows n_7 rs rs_1 rs_2 b
abbrev zF19(n_8 n_9:Int)(s_1:Bz)(rows_1:Rz)(k n:Int)(w:Bz)(l:Rz)(n_5 n_6:Int)(s:Bz)(rows:Rz)(n_7:Int)(rs rs_1 rs_2:Rz)(b:Bool):Option (AV×AH):=kOpt (EVs (EV cfg) 158 [AV.agg [.int .i64 n_8,.int .i64 n_9,.str s_1,.sl rows_1],AV.agg [.int .i64 k,.int .i64 n,.str w,.sl l]]) λv=>zF20 v n_5 n_6 s rows n_7 rs rs_1 rs_2 b
abbrev zF31(n n_11:Int)(s:Bz)(rows:Rz)(n_12:Int)(rs rs_3 rs_4:Rz)(b:Bool):Option (AV×AH):=some (AV.int .i64 0,[ABlk.rows false (9:Nat) [[AV.int .i64 n,AV.int .i64 n_11,AV.str s,AV.sl rows,AV.int .i64 n_12,AV.ms (1:Nat) (0:Nat) (qzO rs),AV.ms (2:Nat) (0:Nat) (qzO rs_3),AV.ms (3:Nat) (0:Nat) (qzO rs_4),AV.bool b]],ABlk.rows true (4:Nat) rs,ABlk.rows true (4:Nat) rs_3,ABlk.rows true (5:Nat) rs_4])
abbrev zF30(rest:Rz)(bs:AH)(row:List AV):Option (AV×AH):=vg rest (qd bs λb bs=>qf b λd' n rs=>bif beqB true d'&&qzP n 4 then qd bs λb bs=>qf b λd' n rs_3=>bif beqB true d'&&qzP n 4 then qd bs λb bs=>qf b λd' n rs_4=>bif beqB true d'&&qzP n 5 then qU bs (qa row λc cs=>kInt .i64 c λn=>qa cs λc cs=>kInt .i64 c λn_11=>qa cs λc cs=>kStr c λs=>qa cs λc cs=>kSl c λrows=>qa cs λc cs=>kInt .i64 c λn_12=>qa cs λc cs=>kMsE c λid off len=>bif qzP id (1:Nat)&&(qzP off (0:Nat)&&qzP len (qzO rs))then qa cs λc cs=>kMsE c λid off len=>bif qzP id (2:Nat)&&(qzP off (0:Nat)&&qzP len (qzO rs_3))then qa cs λc cs=>kMsE c λid off len=>bif qzP id (3:Nat)&&(qzP off (0:Nat)&&qzP len (qzO rs_4))then qa cs λc cs=>qq c λb=>kNil cs (zF31 n n_11 s rows n_12 rs rs_3 rs_4 b)else none else none else none)else none else none else none)
abbrev zF29(rs:Rz)(bs:AH):Option (AV×AH):=qW rs λrow rest=>zF30 rest bs row
abbrev zF28(d':Bool)(n:Nat)(rs:Rz)(bs:AH):Option (AV×AH):=bif beqB false d'&&qzP n 9 then zF29 rs bs else none
abbrev zF27(b:ABlk)(bs:AH):Option (AV×AH):=qf b λd' n rs=>zF28 d' n rs bs
abbrev zF26(q:AV×AH):Option (AV×AH):=qd q.2 λb bs=>zF27 b bs
abbrev zF25(a n_8 n_9:Int)(s_1:Bz)(rows_1:Rz)(n_5 n_6:Int)(s:Bz)(rows:Rz)(n_7:Int)(rs rs_1 rs_2:Rz)(b:Bool):Option (AV×AH):=kOpt (EVj (EV cfg) 159 1 [.ptr 0 0 0,.int .i64 a,AV.agg [.int .i64 n_8,.int .i64 n_9,.str s_1,.sl rows_1]] [.rows false 9 [[AV.int .i64 n_5,.int .i64 n_6,.str s,.sl rows,.int .i64 n_7,.ms 1 0 (qzO rs),.ms 2 0 (qzO rs_1),.ms 3 0 (qzO rs_2),.bool b]],.rows true 4 (qzT (qzO rs) rs),.rows true 4 (qzT (qzO rs_1) rs_1),.rows true 5 (qzT (qzO rs_2) rs_2)]) λq=>zF26 q
abbrev zF54(n n_11:Int)(s:Bz)(rows:Rz)(n_12:Int)(rs rs_3 rs_4:Rz)(b:Bool):Option (AV×AH):=some (AV.int .i64 3,[ABlk.rows false (9:Nat) [[AV.int .i64 n,AV.int .i64 n_11,AV.str s,AV.sl rows,AV.int .i64 n_12,AV.ms (1:Nat) (0:Nat) (qzO rs),AV.ms (2:Nat) (0:Nat) (qzO rs_3),AV.ms (3:Nat) (0:Nat) (qzO rs_4),AV.bool b]],ABlk.rows true (4:Nat) rs,ABlk.rows true (4:Nat) rs_3,ABlk.rows true (5:Nat) rs_4])
abbrev zF58(n n_11:Int)(s:Bz)(rows:Rz)(n_12:Int)(rs rs_3 rs_4:Rz)(b:Bool):Option (AV×AH):=some (AV.int .i64 1,[ABlk.rows false (9:Nat) [[AV.int .i64 n,AV.int .i64 n_11,AV.str s,AV.sl rows,AV.int .i64 n_12,AV.ms (1:Nat) (0:Nat) (qzO rs),AV.ms (2:Nat) (0:Nat) (qzO rs_3),AV.ms (3:Nat) (0:Nat) (qzO rs_4),AV.bool b]],ABlk.rows true (4:Nat) rs,ABlk.rows true (4:Nat) rs_3,ABlk.rows true (5:Nat) rs_4])
abbrev zF57(b_3:Bool)(n n_11:Int)(s:Bz)(rows:Rz)(n_12:Int)(rs rs_3 rs_4:Rz)(b:Bool):Option (AV×AH):=bif b_3 then zF31 n n_11 s rows n_12 rs rs_3 rs_4 b else zF58 n n_11 s rows n_12 rs rs_3 rs_4 b
abbrev zF56(v:AV)(n n_11:Int)(s:Bz)(rows:Rz)(n_12:Int)(rs rs_3 rs_4:Rz)(b:Bool):Option (AV×AH):=qq v λb_3=>zF57 b_3 n n_11 s rows n_12 rs rs_3 rs_4 b
abbrev zF55(n_13 n_14:Int)(s_2:Bz)(rows_2:Rz)(n_8 n_9:Int)(s_1:Bz)(rows_1:Rz)(n n_11:Int)(s:Bz)(rows:Rz)(n_12:Int)(rs rs_3 rs_4:Rz)(b:Bool):Option (AV×AH):=kOpt (EVs (EV cfg) 158 [AV.agg [.int .i64 n_13,AV.int .i64 n_14,AV.str s_2,AV.sl rows_2],AV.agg [.int .i64 n_8,AV.int .i64 n_9,AV.str s_1,AV.sl rows_1]]) λv=>zF56 v n n_11 s rows n_12 rs rs_3 rs_4 b
abbrev zF53(b_2:Bool)(n n_11:Int)(s:Bz)(rows:Rz)(n_12:Int)(rs rs_3 rs_4:Rz)(b:Bool)(n_13 n_14:Int)(s_2:Bz)(rows_2:Rz)(n_8 n_9:Int)(s_1:Bz)(rows_1:Rz):Option (AV×AH):=bif ! b_2 then zF54 n n_11 s rows n_12 rs rs_3 rs_4 b else zF55 n_13 n_14 s_2 rows_2 n_8 n_9 s_1 rows_1 n n_11 s rows n_12 rs rs_3 rs_4 b
abbrev zF52(cs:List AV)(b_2:Bool)(n n_11:Int)(s:Bz)(rows:Rz)(n_12:Int)(rs rs_3 rs_4:Rz)(b:Bool)(n_13 n_14:Int)(s_2:Bz)(rows_2:Rz)(n_8 n_9:Int)(s_1:Bz)(rows_1:Rz):Option (AV×AH):=kNil cs (zF53 b_2 n n_11 s rows n_12 rs rs_3 rs_4 b n_13 n_14 s_2 rows_2 n_8 n_9 s_1 rows_1)
abbrev zF51(c:AV)(cs:List AV)(n n_11:Int)(s:Bz)(rows:Rz)(n_12:Int)(rs rs_3 rs_4:Rz)(b:Bool)(n_13 n_14:Int)(s_2:Bz)(rows_2:Rz)(n_8 n_9:Int)(s_1:Bz)(rows_1:Rz):Option (AV×AH):=qq c λb_2=>zF52 cs b_2 n n_11 s rows n_12 rs rs_3 rs_4 b n_13 n_14 s_2 rows_2 n_8 n_9 s_1 rows_1
abbrev zF50(cs:List AV)(n n_11:Int)(s:Bz)(rows:Rz)(n_12:Int)(rs rs_3 rs_4:Rz)(b:Bool)(n_13 n_14:Int)(s_2:Bz)(rows_2:Rz)(n_8 n_9:Int)(s_1:Bz)(rows_1:Rz):Option (AV×AH):=qa cs λc cs=>zF51 c cs n n_11 s rows n_12 rs rs_3 rs_4 b n_13 n_14 s_2 rows_2 n_8 n_9 s_1 rows_1
abbrev zF49(cs_10 cs:List AV)(n n_11:Int)(s:Bz)(rows:Rz)(n_12:Int)(rs rs_3 rs_4:Rz)(b:Bool)(n_13 n_14:Int)(s_2:Bz)(rows_2:Rz)(n_8 n_9:Int)(s_1:Bz)(rows_1:Rz):Option (AV×AH):=kNil cs_10 (zF50 cs n n_11 s rows n_12 rs rs_3 rs_4 b n_13 n_14 s_2 rows_2 n_8 n_9 s_1 rows_1)
abbrev zF48(c:AV)(cs_10 cs:List AV)(n n_11:Int)(s:Bz)(rows:Rz)(n_12:Int)(rs rs_3 rs_4:Rz)(b:Bool)(n_13 n_14:Int)(s_2:Bz)(n_8 n_9:Int)(s_1:Bz)(rows_1:Rz):Option (AV×AH):=kSl c λrows_2=>zF49 cs_10 cs n n_11 s rows n_12 rs rs_3 rs_4 b n_13 n_14 s_2 rows_2 n_8 n_9 s_1 rows_1
abbrev zF47(cs_9 cs:List AV)(n n_11:Int)(s:Bz)(rows:Rz)(n_12:Int)(rs rs_3 rs_4:Rz)(b:Bool)(n_13 n_14:Int)(s_2:Bz)(n_8 n_9:Int)(s_1:Bz)(rows_1:Rz):Option (AV×AH):=qa cs_9 λc cs_10=>zF48 c cs_10 cs n n_11 s rows n_12 rs rs_3 rs_4 b n_13 n_14 s_2 n_8 n_9 s_1 rows_1
abbrev zF46(c:AV)(cs_9 cs:List AV)(n n_11:Int)(s:Bz)(rows:Rz)(n_12:Int)(rs rs_3 rs_4:Rz)(b:Bool)(n_13 n_14 n_8 n_9:Int)(s_1:Bz)(rows_1:Rz):Option (AV×AH):=kStr c λs_2=>zF47 cs_9 cs n n_11 s rows n_12 rs rs_3 rs_4 b n_13 n_14 s_2 n_8 n_9 s_1 rows_1
abbrev zF45(cs_8 cs:List AV)(n n_11:Int)(s:Bz)(rows:Rz)(n_12:Int)(rs rs_3 rs_4:Rz)(b:Bool)(n_13 n_14 n_8 n_9:Int)(s_1:Bz)(rows_1:Rz):Option (AV×AH):=qa cs_8 λc cs_9=>zF46 c cs_9 cs n n_11 s rows n_12 rs rs_3 rs_4 b n_13 n_14 n_8 n_9 s_1 rows_1
abbrev zF44(c:AV)(cs_8 cs:List AV)(n n_11:Int)(s:Bz)(rows:Rz)(n_12:Int)(rs rs_3 rs_4:Rz)(b:Bool)(n_13 n_8 n_9:Int)(s_1:Bz)(rows_1:Rz):Option (AV×AH):=kInt .i64 c λn_14=>zF45 cs_8 cs n n_11 s rows n_12 rs rs_3 rs_4 b n_13 n_14 n_8 n_9 s_1 rows_1
abbrev zF43(cs_7 cs:List AV)(n n_11:Int)(s:Bz)(rows:Rz)(n_12:Int)(rs rs_3 rs_4:Rz)(b:Bool)(n_13 n_8 n_9:Int)(s_1:Bz)(rows_1:Rz):Option (AV×AH):=qa cs_7 λc cs_8=>zF44 c cs_8 cs n n_11 s rows n_12 rs rs_3 rs_4 b n_13 n_8 n_9 s_1 rows_1
abbrev zF42(c:AV)(cs_7 cs:List AV)(n n_11:Int)(s:Bz)(rows:Rz)(n_12:Int)(rs rs_3 rs_4:Rz)(b:Bool)(n_8 n_9:Int)(s_1:Bz)(rows_1:Rz):Option (AV×AH):=kInt .i64 c λn_13=>zF43 cs_7 cs n n_11 s rows n_12 rs rs_3 rs_4 b n_13 n_8 n_9 s_1 rows_1
abbrev zF41(cs_6 cs:List AV)(n n_11:Int)(s:Bz)(rows:Rz)(n_12:Int)(rs rs_3 rs_4:Rz)(b:Bool)(n_8 n_9:Int)(s_1:Bz)(rows_1:Rz):Option (AV×AH):=qa cs_6 λc cs_7=>zF42 c cs_7 cs n n_11 s rows n_12 rs rs_3 rs_4 b n_8 n_9 s_1 rows_1
abbrev zF40(c:AV)(cs:List AV)(n n_11:Int)(s:Bz)(rows:Rz)(n_12:Int)(rs rs_3 rs_4:Rz)(b:Bool)(n_8 n_9:Int)(s_1:Bz)(rows_1:Rz):Option (AV×AH):=kAgg c λcs_6=>zF41 cs_6 cs n n_11 s rows n_12 rs rs_3 rs_4 b n_8 n_9 s_1 rows_1
abbrev zF39(cs:List AV)(n n_11:Int)(s:Bz)(rows:Rz)(n_12:Int)(rs rs_3 rs_4:Rz)(b:Bool)(n_8 n_9:Int)(s_1:Bz)(rows_1:Rz):Option (AV×AH):=qa cs λc cs=>zF40 c cs n n_11 s rows n_12 rs rs_3 rs_4 b n_8 n_9 s_1 rows_1
abbrev zF38(q:AV×AH)(n n_11:Int)(s:Bz)(rows:Rz)(n_12:Int)(rs rs_3 rs_4:Rz)(b:Bool)(n_8 n_9:Int)(s_1:Bz)(rows_1:Rz):Option (AV×AH):=kTup q.1 λcs=>zF39 cs n n_11 s rows n_12 rs rs_3 rs_4 b n_8 n_9 s_1 rows_1
abbrev zF37(rest:Rz)(bs:AH)(row:List AV)(q:AV×AH)(n_8 n_9:Int)(s_1:Bz)(rows_1:Rz):Option (AV×AH):=vg rest (qd bs λb bs=>qf b λd' n rs=>bif beqB true d'&&qzP n 4 then qd bs λb bs=>qf b λd' n rs_3=>bif beqB true d'&&qzP n 4 then qd bs λb bs=>qf b λd' n rs_4=>bif beqB true d'&&qzP n 5 then qU bs (qa row λc cs=>kInt .i64 c λn=>qa cs λc cs=>kInt .i64 c λn_11=>qa cs λc cs=>kStr c λs=>qa cs λc cs=>kSl c λrows=>qa cs λc cs=>kInt .i64 c λn_12=>qa cs λc cs=>kMsE c λid off len=>bif qzP id (1:Nat)&&(qzP off (0:Nat)&&qzP len (qzO rs))then qa cs λc cs=>kMsE c λid off len=>bif qzP id (2:Nat)&&(qzP off (0:Nat)&&qzP len (qzO rs_3))then qa cs λc cs=>kMsE c λid off len=>bif qzP id (3:Nat)&&(qzP off (0:Nat)&&qzP len (qzO rs_4))then qa cs λc cs=>qq c λb=>kNil cs (zF38 q n n_11 s rows n_12 rs rs_3 rs_4 b n_8 n_9 s_1 rows_1)else none else none else none)else none else none else none)
abbrev zF36(rs:Rz)(bs:AH)(q:AV×AH)(n_8 n_9:Int)(s_1:Bz)(rows_1:Rz):Option (AV×AH):=qW rs λrow rest=>zF37 rest bs row q n_8 n_9 s_1 rows_1
abbrev zF35(d':Bool)(n:Nat)(rs:Rz)(bs:AH)(q:AV×AH)(n_8 n_9:Int)(s_1:Bz)(rows_1:Rz):Option (AV×AH):=bif beqB false d'&&qzP n 9 then zF36 rs bs q n_8 n_9 s_1 rows_1 else none
abbrev zF34(b:ABlk)(bs:AH)(q:AV×AH)(n_8 n_9:Int)(s_1:Bz)(rows_1:Rz):Option (AV×AH):=qf b λd' n rs=>zF35 d' n rs bs q n_8 n_9 s_1 rows_1
abbrev zF33(q:AV×AH)(n_8 n_9:Int)(s_1:Bz)(rows_1:Rz):Option (AV×AH):=qd q.2 λb bs=>zF34 b bs q n_8 n_9 s_1 rows_1
abbrev zF32(a n_5 n_6:Int)(s:Bz)(rows:Rz)(n_7:Int)(rs rs_1 rs_2:Rz)(b:Bool)(n_8 n_9:Int)(s_1:Bz)(rows_1:Rz):Option (AV×AH):=kOpt (EVj (EV cfg) 160 1 [.ptr 0 0 0,.int .i64 a] [.rows false 9 [[AV.int .i64 n_5,.int .i64 n_6,.str s,.sl rows,.int .i64 n_7,.ms 1 0 (qzO rs),.ms 2 0 (qzO rs_1),.ms 3 0 (qzO rs_2),.bool b]],.rows true 4 (qzT (qzO rs) rs),.rows true 4 (qzT (qzO rs_1) rs_1),.rows true 5 (qzT (qzO rs_2) rs_2)]) λq=>zF33 q n_8 n_9 s_1 rows_1
abbrev zF24(o a n_8 n_9:Int)(s_1:Bz)(rows_1:Rz)(n_5 n_6:Int)(s:Bz)(rows:Rz)(n_7:Int)(rs rs_1 rs_2:Rz)(b:Bool):Option (AV×AH):=bif o==3 then zF25 a n_8 n_9 s_1 rows_1 n_5 n_6 s rows n_7 rs rs_1 rs_2 b else zF32 a n_5 n_6 s rows n_7 rs rs_1 rs_2 b n_8 n_9 s_1 rows_1
abbrev zF23(a n_5 n_6:Int)(s:Bz)(rows:Rz)(n_7:Int)(rs rs_1 rs_2:Rz)(b:Bool)(o n_8 n_9:Int)(s_1:Bz)(rows_1:Rz):Option (AV×AH):=bif decide (a>99)then zF0 n_5 n_6 s rows n_7 rs rs_1 rs_2 b else zF24 o a n_8 n_9 s_1 rows_1 n_5 n_6 s rows n_7 rs rs_1 rs_2 b
abbrev zF22(a n_5 n_6:Int)(s:Bz)(rows:Rz)(n_7:Int)(rs rs_1 rs_2:Rz)(b:Bool)(o n_8 n_9:Int)(s_1:Bz)(rows_1:Rz):Option (AV×AH):=bif decide (a<0)then zF0 n_5 n_6 s rows n_7 rs rs_1 rs_2 b else zF23 a n_5 n_6 s rows n_7 rs rs_1 rs_2 b o n_8 n_9 s_1 rows_1
abbrev zF18(o n_8 n_9:Int)(s_1:Bz)(rows_1:Rz)(k n:Int)(w:Bz)(l:Rz)(n_5 n_6:Int)(s:Bz)(rows:Rz)(n_7:Int)(rs rs_1 rs_2:Rz)(b:Bool)(a:Int):Option (AV×AH):=bif o==6 then zF19 n_8 n_9 s_1 rows_1 k n w l n_5 n_6 s rows n_7 rs rs_1 rs_2 b else zF22 a n_5 n_6 s rows n_7 rs rs_1 rs_2 b o n_8 n_9 s_1 rows_1
abbrev zF16(o n_5 n_6:Int)(s:Bz)(rows:Rz)(n_7:Int)(rs rs_1 rs_2:Rz)(b:Bool)(n_8 n_9:Int)(s_1:Bz)(rows_1:Rz)(k n:Int)(w:Bz)(l:Rz)(a:Int):Option (AV×AH):=bif o==5 then zF17 n_5 n_6 s rows n_7 rs rs_1 rs_2 b else zF18 o n_8 n_9 s_1 rows_1 k n w l n_5 n_6 s rows n_7 rs rs_1 rs_2 b a
abbrev zF10(o n_8 n_5 n_6:Int)(s:Bz)(rows:Rz)(n_7:Int)(rs rs_1 rs_2:Rz)(b:Bool)(rows_1:Rz)(a n_9:Int)(s_1:Bz)(k n:Int)(w:Bz)(l:Rz):Option (AV×AH):=bif o==2 then zF11 o n_8 n_5 n_6 s rows n_7 rs rs_1 rs_2 b rows_1 a n_9 s_1 else zF16 o n_5 n_6 s rows n_7 rs rs_1 rs_2 b n_8 n_9 s_1 rows_1 k n w l a
abbrev zF62(rows_1:Rz)(a n_5 n_6:Int)(s:Bz)(rows:Rz)(n_7:Int)(rs rs_1 rs_2:Rz)(b:Bool)(o n_8 n_9:Int)(s_1:Bz):Option (AV×AH):=bif(↑ (qzO rows_1):Int) != a then zF2 n_5 n_6 s rows n_7 rs rs_1 rs_2 b else zF7 o n_8 n_5 n_6 s rows n_7 rs rs_1 rs_2 b rows_1 n_9 s_1
abbrev zF61(n_8 n_5 n_6:Int)(s:Bz)(rows:Rz)(n_7:Int)(rs rs_1 rs_2:Rz)(b:Bool)(rows_1:Rz)(a o n_9:Int)(s_1:Bz):Option (AV×AH):=bif n_8 != 7 then zF2 n_5 n_6 s rows n_7 rs rs_1 rs_2 b else zF62 rows_1 a n_5 n_6 s rows n_7 rs rs_1 rs_2 b o n_8 n_9 s_1
abbrev zF60(o n_8 n_5 n_6:Int)(s:Bz)(rows:Rz)(n_7:Int)(rs rs_1 rs_2:Rz)(b:Bool)(rows_1:Rz)(a n_9:Int)(s_1:Bz):Option (AV×AH):=bif o==1 then zF61 n_8 n_5 n_6 s rows n_7 rs rs_1 rs_2 b rows_1 a o n_9 s_1 else zF7 o n_8 n_5 n_6 s rows n_7 rs rs_1 rs_2 b rows_1 n_9 s_1
abbrev zF66(rows_1:Rz)(a n_5 n_6:Int)(s:Bz)(rows:Rz)(n_7:Int)(rs rs_1 rs_2:Rz)(b:Bool)(o n_8 n_9:Int)(s_1:Bz):Option (AV×AH):=bif(rows_1.length:Int) != a then zF2 n_5 n_6 s rows n_7 rs rs_1 rs_2 b else zF7 o n_8 n_5 n_6 s rows n_7 rs rs_1 rs_2 b rows_1 n_9 s_1
abbrev zF65(n_8 n_5 n_6:Int)(s:Bz)(rows:Rz)(n_7:Int)(rs rs_1 rs_2:Rz)(b:Bool)(rows_1:Rz)(a o n_9:Int)(s_1:Bz):Option (AV×AH):=bif n_8 != 7 then zF2 n_5 n_6 s rows n_7 rs rs_1 rs_2 b else zF66 rows_1 a n_5 n_6 s rows n_7 rs rs_1 rs_2 b o n_8 n_9 s_1
abbrev zF64(o n_8 n_5 n_6:Int)(s:Bz)(rows:Rz)(n_7:Int)(rs rs_1 rs_2:Rz)(b:Bool)(rows_1:Rz)(a n_9:Int)(s_1:Bz):Option (AV×AH):=bif o==1 then zF65 n_8 n_5 n_6 s rows n_7 rs rs_1 rs_2 b rows_1 a o n_9 s_1 else zF4 o n_8 n_5 n_6 s rows n_7 rs rs_1 rs_2 b rows_1 n_9 s_1
abbrev zF69(n_8 n_9:Int)(s_1:Bz)(rows_1:Rz)(k n:Int)(w:Bz)(l:Rz)(n_5 n_6:Int)(s:Bz)(rows:Rz)(n_7:Int)(rs rs_1 rs_2:Rz)(b:Bool):Option (AV×AH):=kOpt (EVs (EV cfg) 158 [AV.agg [.int .i64 n_8,.int .i64 n_9,.str s_1,.sl rows_1],.agg [.int .i64 k,.int .i64 n,.str w,.sl l]]) λv=>zF20 v n_5 n_6 s rows n_7 rs rs_1 rs_2 b
abbrev zF68(o n_8 n_9:Int)(s_1:Bz)(rows_1:Rz)(k n:Int)(w:Bz)(l:Rz)(n_5 n_6:Int)(s:Bz)(rows:Rz)(n_7:Int)(rs rs_1 rs_2:Rz)(b:Bool)(a:Int):Option (AV×AH):=bif o==6 then zF69 n_8 n_9 s_1 rows_1 k n w l n_5 n_6 s rows n_7 rs rs_1 rs_2 b else zF22 a n_5 n_6 s rows n_7 rs rs_1 rs_2 b o n_8 n_9 s_1 rows_1
abbrev zF67(o n_5 n_6:Int)(s:Bz)(rows:Rz)(n_7:Int)(rs rs_1 rs_2:Rz)(b:Bool)(n_8 n_9:Int)(s_1:Bz)(rows_1:Rz)(k n:Int)(w:Bz)(l:Rz)(a:Int):Option (AV×AH):=bif o==5 then zF17 n_5 n_6 s rows n_7 rs rs_1 rs_2 b else zF68 o n_8 n_9 s_1 rows_1 k n w l n_5 n_6 s rows n_7 rs rs_1 rs_2 b a
abbrev zF63(o n_8 n_5 n_6:Int)(s:Bz)(rows:Rz)(n_7:Int)(rs rs_1 rs_2:Rz)(b:Bool)(rows_1:Rz)(a n_9:Int)(s_1:Bz)(k n:Int)(w:Bz)(l:Rz):Option (AV×AH):=bif o==2 then zF64 o n_8 n_5 n_6 s rows n_7 rs rs_1 rs_2 b rows_1 a n_9 s_1 else zF67 o n_5 n_6 s rows n_7 rs rs_1 rs_2 b n_8 n_9 s_1 rows_1 k n w l a
abbrev zF59(o n_8 n_5 n_6:Int)(s:Bz)(rows:Rz)(n_7:Int)(rs rs_1 rs_2:Rz)(b:Bool)(rows_1:Rz)(a n_9:Int)(s_1:Bz)(k n:Int)(w:Bz)(l:Rz):Option (AV×AH):=bif o==1 then zF60 o n_8 n_5 n_6 s rows n_7 rs rs_1 rs_2 b rows_1 a n_9 s_1 else zF63 o n_8 n_5 n_6 s rows n_7 rs rs_1 rs_2 b rows_1 a n_9 s_1 k n w l
theorem ql3(ko no self:Int)(so:Bz)(lo L V B:Rz)(bd:Bool)(o a b k n:Int)(w:Bz)(l:Rz){P:AV×AH->Prop}(h:Gets (kOpt (EVj (EV cfg) 157 1 [.ptr 0 0 0] [.rows false 9 [[AV.int .i64 ko,.int .i64 no,.str so,.sl lo,.int .i64 self,.ms 1 0 (qzO L),.ms 2 0 (qzO V),.ms 3 0 (qzO B),.bool bd]],.rows true 4 (qzT (qzO L) L),.rows true 4 (qzT (qzO V) V),.rows true 5 (qzT (qzO B) B)]) λq=>qd q.2 λb bs=>qf b λd' n_1 rs=>bif beqB false d'&&qzP n_1 9 then qW rs λrow rest=>vg rest (qd bs λb bs=>qf b λd' n_2 rs=>bif beqB true d'&&qzP n_2 4 then qd bs λb bs=>qf b λd' n_3 rs_1=>bif beqB true d'&&qzP n_3 4 then qd bs λb bs=>qf b λd' n_4 rs_2=>bif beqB true d'&&qzP n_4 5 then qU bs (qa row λc cs=>kInt .i64 c λn_5=>qa cs λc cs=>kInt .i64 c λn_6=>qa cs λc cs=>kStr c λs=>qa cs λc cs=>kSl c λrows=>qa cs λc cs=>kInt .i64 c λn_7=>qa cs λc cs=>kMsE c λid off len=>bif qzP id 1&&(qzP off 0&&qzP len (qzO rs))then qa cs λc cs=>kMsE c λid off len=>bif qzP id 2&&(qzP off 0&&qzP len (qzO rs_1))then qa cs λc cs=>kMsE c λid off len=>bif qzP id 3&&(qzP off 0&&qzP len (qzO rs_2))then qa cs λc cs=>qq c λb=>kNil cs (kTup q.1 λcs=>qa cs λc cs=>kAgg c λcs_1=>qa cs_1 λc cs_2=>kInt .i64 c λn_8=>qa cs_2 λc cs_3=>kInt .i64 c λn_9=>qa cs_3 λc cs_4=>kStr c λs_1=>qa cs_4 λc cs_5=>kSl c λrows_1=>kNil cs_5 (qa cs λc cs=>qq c λb_1=>kNil cs (bif ! b_1 then zF0 n_5 n_6 s rows n_7 rs rs_1 rs_2 b else bif o==1 then bif decide (a<0)then zF0 n_5 n_6 s rows n_7 rs rs_1 rs_2 b else bif o==6 then kOpt (EVs (EV cfg) 47 [.agg [.int .i64 k,.int .i64 n,.str w,.sl l]]) λv=>kInt .i64 v λn_10=>bif n_10 != 0 then zF0 n_5 n_6 s rows n_7 rs rs_1 rs_2 b else bif o==1 then bif o==1 then zF1 n_8 n_5 n_6 s rows n_7 rs rs_1 rs_2 b rows_1 a o n_9 s_1 else zF7 o n_8 n_5 n_6 s rows n_7 rs rs_1 rs_2 b rows_1 n_9 s_1 else zF10 o n_8 n_5 n_6 s rows n_7 rs rs_1 rs_2 b rows_1 a n_9 s_1 k n w l else zF59 o n_8 n_5 n_6 s rows n_7 rs rs_1 rs_2 b rows_1 a n_9 s_1 k n w l else bif o==6 then kOpt (EVs (EV cfg) 47 [.agg [.int .i64 k,.int .i64 n,.str w,.sl l]]) λv=>kInt .i64 v λn_10=>bif n_10 != 0 then zF0 n_5 n_6 s rows n_7 rs rs_1 rs_2 b else bif o==1 then bif o==1 then zF1 n_8 n_5 n_6 s rows n_7 rs rs_1 rs_2 b rows_1 a o n_9 s_1 else bif o==2 then bif n_8 != (9:Int)then zF2 n_5 n_6 s rows n_7 rs rs_1 rs_2 b else zF9 rows_1 n_5 n_6 s rows n_7 rs rs_1 rs_2 b n_8 n_9 s_1 else zF9 rows_1 n_5 n_6 s rows n_7 rs rs_1 rs_2 b n_8 n_9 s_1 else zF10 o n_8 n_5 n_6 s rows n_7 rs rs_1 rs_2 b rows_1 a n_9 s_1 k n w l else zF59 o n_8 n_5 n_6 s rows n_7 rs rs_1 rs_2 b rows_1 a n_9 s_1 k n w l)))else none else none else none)else none else none else none)else none) P):Gets (EVj (EV cfg) 97 1 [.ptr 0 0 0,.agg [.int .i64 o,.int .i64 a,.int .i64 b,.int .i64 k,.int .i64 n,.str w,.sl l]] ([ABlk.rows false (9:Nat) [[AV.int qAn ko,AV.int qAn no,AV.str so,AV.sl lo,AV.int qAn self,AV.ms (1:Nat) (0:Nat) (qzO L),AV.ms (2:Nat) (0:Nat) (qzO V),AV.ms (3:Nat) (0:Nat) (qzO B),AV.bool bd]],ABlk.rows true (4:Nat) L,ABlk.rows true (4:Nat) V,ABlk.rows true (5:Nat) B]:AH)) P:=
  gE (λ_=>funJ rfl rfl Tryz.func97 rfl) (by kernel_rfl) h
abbrev zF76(n_4 n n_2:Int)(s:Bz)(rows:Rz)(n_3:Int)(rs rs_1 rs_2:Rz)(b:Bool):Option (AV×AH):=some (.int .i64 n_4,[.rows false 9 [[AV.int .i64 n,.int .i64 n_2,.str s,.sl rows,.int .i64 n_3,.ms 1 0 (qzO rs),.ms 2 0 (qzO rs_1),.ms 3 0 (qzO rs_2),.bool b]],.rows true 4 rs,.rows true 4 rs_1,.rows true 5 rs_2])
abbrev zF75(q:AV×AH)(n n_2:Int)(s:Bz)(rows:Rz)(n_3:Int)(rs rs_1 rs_2:Rz)(b:Bool):Option (AV×AH):=kInt .i64 q.1 λn_4=>zF76 n_4 n n_2 s rows n_3 rs rs_1 rs_2 b
abbrev zF74(rest:Rz)(bs:AH)(row:List AV)(q:AV×AH):Option (AV×AH):=vg rest (qd bs λb bs=>qf b λd' n rs=>bif beqB true d'&&qzP n 4 then qd bs λb bs=>qf b λd' n rs_1=>bif beqB true d'&&qzP n 4 then qd bs λb bs=>qf b λd' n rs_2=>bif beqB true d'&&qzP n 5 then qU bs (qa row λc cs=>kInt .i64 c λn=>qa cs λc cs=>kInt .i64 c λn_2=>qa cs λc cs=>kStr c λs=>qa cs λc cs=>kSl c λrows=>qa cs λc cs=>kInt .i64 c λn_3=>qa cs λc cs=>kMsE c λid off len=>bif qzP id 1&&(qzP off 0&&qzP len (qzO rs))then qa cs λc cs=>kMsE c λid off len=>bif qzP id 2&&(qzP off 0&&qzP len (qzO rs_1))then qa cs λc cs=>kMsE c λid off len=>bif qzP id 3&&(qzP off 0&&qzP len (qzO rs_2))then qa cs λc cs=>qq c λb=>kNil cs (zF75 q n n_2 s rows n_3 rs rs_1 rs_2 b)else none else none else none)else none else none else none)
abbrev zF73(rs:Rz)(bs:AH)(q:AV×AH):Option (AV×AH):=qW rs λrow rest=>zF74 rest bs row q
abbrev zF72(d':Bool)(n:Nat)(rs:Rz)(bs:AH)(q:AV×AH):Option (AV×AH):=bif beqB false d'&&qzP n 9 then zF73 rs bs q else none
abbrev zF71(b:ABlk)(bs:AH)(q:AV×AH):Option (AV×AH):=qf b λd' n rs=>zF72 d' n rs bs q
abbrev zF70(q:AV×AH):Option (AV×AH):=qd q.2 λb bs=>zF71 b bs q
abbrev zF78(n_7 n n_5:Int)(s:Bz)(rows:Rz)(n_6:Int)(rs rs_3 rs_4:Rz)(b:Bool):Option (AV×AH):=some (AV.int .i64 n_7,[ABlk.rows false (9:Nat) [[AV.int .i64 n,AV.int .i64 n_5,AV.str s,AV.sl rows,AV.int .i64 n_6,AV.ms (1:Nat) (0:Nat) (qzO rs),AV.ms (2:Nat) (0:Nat) (qzO rs_3),AV.ms (3:Nat) (0:Nat) (qzO rs_4),AV.bool b]],ABlk.rows true (4:Nat) rs,ABlk.rows true (4:Nat) rs_3,ABlk.rows true (5:Nat) rs_4])
abbrev zF77(q:AV×AH)(n n_5:Int)(s:Bz)(rows:Rz)(n_6:Int)(rs rs_3 rs_4:Rz)(b:Bool):Option (AV×AH):=kInt .i64 q.1 λn_7=>zF78 n_7 n n_5 s rows n_6 rs rs_3 rs_4 b
theorem qoX(ko no self:Int)(so:Bz)(lo L V B:Rz)(bd:Bool)(o a b k n:Int)(w:Bz)(l:Rz){P:AV×AH->Prop}(h:Gets (bif o==7 then kOpt (EVs (EV cfg) 47 [.agg [.int .i64 k,.int .i64 n,.str w,.sl l]]) λv=>kInt .i64 v λn_1=>bif n_1 != 0 then zF0 ko no so lo self L V B bd else kOpt (EVj (EV cfg) 161 1 [.ptr 0 0 0,.agg [.int .i64 k,.int .i64 n,.str w,.sl l]] [.rows false 9 [[AV.int .i64 ko,.int .i64 no,.str so,.sl lo,.int .i64 self,.ms 1 0 (qzO L),.ms 2 0 (qzO V),.ms 3 0 (qzO B),.bool bd]],.rows true 4 (qzT (qzO L) L),.rows true 4 (qzT (qzO V) V),.rows true 5 (qzT (qzO B) B)]) λq=>zF70 q else bif o==9 then kOpt (EVj (EV cfg) 161 1 [.ptr 0 0 0,.agg [.int .i64 ko,.int .i64 no,.str so,.sl lo]] [.rows false 9 [[AV.int .i64 ko,.int .i64 no,.str so,.sl lo,.int .i64 self,.ms 1 0 (qzO L),.ms 2 0 (qzO V),.ms 3 0 (qzO B),.bool bd]],.rows true 4 (qzT (qzO L) L),.rows true 4 (qzT (qzO V) V),.rows true 5 (qzT (qzO B) B)]) λq=>zF70 q else bif o==10 then qeN 0 0 ko no so lo self (qzO L) (qzO V) (qzO B) bd L V B []else kOpt (EVj (EV cfg) 160 1 [.ptr 0 0 0,.int .i64 a] [.rows false 9 [[AV.int .i64 ko,.int .i64 no,.str so,.sl lo,.int .i64 self,.ms 1 0 (qzO L),.ms 2 0 (qzO V),.ms 3 0 (qzO B),.bool bd]],.rows true 4 (qzT (qzO L) L),.rows true 4 (qzT (qzO V) V),.rows true 5 (qzT (qzO B) B)]) λq=>qd q.2 λb bs=>qf b λd' n rs=>bif beqB false d'&&qzP n 9 then qW rs λrow rest=>vg rest (qd bs λb bs=>qf b λd' n rs=>bif beqB true d'&&qzP n 4 then qd bs λb bs=>qf b λd' n rs_1=>bif beqB true d'&&qzP n 4 then qd bs λb bs=>qf b λd' n rs_2=>bif beqB true d'&&qzP n 5 then qU bs (qa row λc cs=>kInt .i64 c λn=>qa cs λc cs=>kInt .i64 c λn_1=>qa cs λc cs=>kStr c λs=>qa cs λc cs=>kSl c λrows=>qa cs λc cs=>kInt .i64 c λn_2=>qa cs λc cs=>kMsE c λid off len=>bif qzP id 1&&(qzP off 0&&qzP len (qzO rs))then qa cs λc cs=>kMsE c λid off len=>bif qzP id 2&&(qzP off 0&&qzP len (qzO rs_1))then qa cs λc cs=>kMsE c λid off len=>bif qzP id 3&&(qzP off 0&&qzP len (qzO rs_2))then qa cs λc cs=>qq c λb=>kNil cs (kTup q.1 λcs=>qa cs λc cs=>kAgg c λcs_1=>qa cs_1 λc cs_2=>kInt .i64 c λn_3=>qa cs_2 λc cs_3=>kInt .i64 c λn_4=>qa cs_3 λc cs_4=>kStr c λs_1=>qa cs_4 λc cs_5=>kSl c λrows_1=>kNil cs_5 (qa cs λc cs=>qq c λb_1=>kNil cs (bif ! b_1 then zF0 n n_1 s rows n_2 rs rs_1 rs_2 b else kOpt (EVj (EV cfg) 161 1 [.ptr 0 0 0,AV.agg [.int .i64 n_3,.int .i64 n_4,.str s_1,.sl rows_1]] [.rows false 9 [[AV.int .i64 n,.int .i64 n_1,.str s,.sl rows,.int .i64 n_2,.ms 1 0 (qzO rs),.ms 2 0 (qzO rs_1),.ms 3 0 (qzO rs_2),.bool b]],.rows true 4 (qzT (qzO rs) rs),.rows true 4 (qzT (qzO rs_1) rs_1),.rows true 5 (qzT (qzO rs_2) rs_2)]) λq=>qd q.2 λb bs=>qf b λd' n rs=>bif beqB false d'&&qzP n 9 then qW rs λrow rest=>vg rest (qd bs λb bs=>qf b λd' n rs=>bif beqB true d'&&qzP n 4 then qd bs λb bs=>qf b λd' n rs_3=>bif beqB true d'&&qzP n 4 then qd bs λb bs=>qf b λd' n rs_4=>bif beqB true d'&&qzP n 5 then qU bs (qa row λc cs=>kInt .i64 c λn=>qa cs λc cs=>kInt .i64 c λn_5=>qa cs λc cs=>kStr c λs=>qa cs λc cs=>kSl c λrows=>qa cs λc cs=>kInt .i64 c λn_6=>qa cs λc cs=>kMsE c λid off len=>bif qzP id 1&&(qzP off 0&&qzP len (qzO rs))then qa cs λc cs=>kMsE c λid off len=>bif qzP id 2&&(qzP off 0&&qzP len (qzO rs_3))then qa cs λc cs=>kMsE c λid off len=>bif qzP id (3:Nat)&&(qzP off (0:Nat)&&qzP len (qzO rs_4))then qa cs λc cs=>qq c λb=>kNil cs (zF77 q n n_5 s rows n_6 rs rs_3 rs_4 b)else none else none else none)else none else none else none)else none)))else none else none else none)else none else none else none)else none) P):Gets (EVj (EV cfg) 98 1 [.ptr 0 0 0,.agg [.int .i64 o,.int .i64 a,.int .i64 b,.int .i64 k,.int .i64 n,.str w,.sl l]] ([ABlk.rows false (9:Nat) [[AV.int qAn ko,AV.int qAn no,AV.str so,AV.sl lo,AV.int qAn self,AV.ms (1:Nat) (0:Nat) (qzO L),AV.ms (2:Nat) (0:Nat) (qzO V),AV.ms (3:Nat) (0:Nat) (qzO B),AV.bool bd]],ABlk.rows true (4:Nat) L,ABlk.rows true (4:Nat) V,ABlk.rows true (5:Nat) B]:AH)) P:=
  gE (λ_=>funJ rfl rfl Tryz.func98 rfl) (by kernel_rfl) h
abbrev zF97(rest:Rz)(bs:AH)(row:List AV)(q:AV×AH):Option (AV×AH):=vg rest (qd bs λb bs=>qf b λd' n rs=>bif beqB true d'&&qzP n 4 then qd bs λb bs=>qf b λd' n rs_3=>bif beqB true d'&&qzP n 4 then qd bs λb bs=>qf b λd' n rs_4=>bif beqB true d'&&qzP n 5 then qU bs (qa row λc cs=>kInt .i64 c λn=>qa cs λc cs=>kInt .i64 c λn_3=>qa cs λc cs=>kStr c λs=>qa cs λc cs=>kSl c λrows=>qa cs λc cs=>kInt .i64 c λn_4=>qa cs λc cs=>kMsE c λid off len=>bif qzP id 1&&(qzP off 0&&qzP len (qzO rs))then qa cs λc cs=>kMsE c λid off len=>bif qzP id 2&&(qzP off 0&&qzP len (qzO rs_3))then qa cs λc cs=>kMsE c λid off len=>bif qzP id 3&&(qzP off 0&&qzP len (qzO rs_4))then qa cs λc cs=>qq c λb=>kNil cs (kInt .i64 q.1 λn_5=>some (AV.int .i64 n_5,[ABlk.rows false 9 [[AV.int .i64 n,AV.int .i64 n_3,AV.str s,AV.sl rows,AV.int .i64 n_4,AV.ms (1:Nat) (0:Nat) (qzO rs),AV.ms (2:Nat) (0:Nat) (qzO rs_3),AV.ms (3:Nat) (0:Nat) (qzO rs_4),AV.bool b]],ABlk.rows true 4 rs,ABlk.rows true 4 rs_3,ABlk.rows true 5 rs_4]))else none else none else none)else none else none else none)
abbrev zF96(rs:Rz)(bs:AH)(q:AV×AH):Option (AV×AH):=qW rs λrow rest=>zF97 rest bs row q
abbrev zF95(d':Bool)(n:Nat)(rs:Rz)(bs:AH)(q:AV×AH):Option (AV×AH):=bif beqB false d'&&qzP n 9 then zF96 rs bs q else none
abbrev zF94(b:ABlk)(bs:AH)(q:AV×AH):Option (AV×AH):=qf b λd' n rs=>zF95 d' n rs bs q
abbrev zF93(q:AV×AH):Option (AV×AH):=qd q.2 λb bs=>zF94 b bs q
abbrev zF92(rows_1:Rz)(n n_1:Int)(s:Bz)(rows:Rz)(n_2:Int)(rs rs_1 rs_2:Rz)(b:Bool):Option (AV×AH):=kOpt (EVj (EV cfg) 162 1 [.ptr 0 0 0,AV.agg [.int .i64 7,.int .i64 0,.str [],.sl rows_1]] [.rows false 9 [[AV.int .i64 n,.int .i64 n_1,.str s,.sl rows,.int .i64 n_2,.ms 1 0 (qzO rs),.ms 2 0 (qzO rs_1),.ms 3 0 (qzO rs_2),.bool b]],.rows true 4 (qzT (qzO rs) rs),.rows true 4 (qzT (qzO rs_1) rs_1),.rows true 5 (qzT (qzO rs_2) rs_2)]) λq=>zF93 q
abbrev qwA(rest:Rz)(bs:AH)(row:List AV)(q:AV×AH):Option (AV×AH):=vg rest (qd bs λb bs=>qf b λd' n rs=>bif beqB true d'&&qzP n 4 then qd bs λb bs=>qf b λd' n rs_3=>bif beqB true d'&&qzP n 4 then qd bs λb bs=>qf b λd' n rs_4=>bif beqB true d'&&qzP n 5 then qU bs (qa row λc cs=>kInt .i64 c λn=>qa cs λc cs=>kInt .i64 c λn_3=>qa cs λc cs=>kStr c λs=>qa cs λc cs=>kSl c λrows=>qa cs λc cs=>kInt .i64 c λn_4=>qa cs λc cs=>kMsE c λid off len=>bif qzP id 1&&(qzP off 0&&qzP len (qzO rs))then qa cs λc cs=>kMsE c λid off len=>bif qzP id 2&&(qzP off 0&&qzP len (qzO rs_3))then qa cs λc cs=>kMsE c λid off len=>bif qzP id 3&&(qzP off 0&&qzP len (qzO rs_4))then qa cs λc cs=>qq c λb=>kNil cs (zF77 q n n_3 s rows n_4 rs rs_3 rs_4 b)else none else none else none)else none else none else none)
abbrev qwB(rs:Rz)(bs:AH)(q:AV×AH):Option (AV×AH):=qW rs λrow rest=>qwA rest bs row q
abbrev qwC(d':Bool)(n:Nat)(rs:Rz)(bs:AH)(q:AV×AH):Option (AV×AH):=bif beqB false d'&&qzP n 9 then qwB rs bs q else none
abbrev qwD(b:ABlk)(bs:AH)(q:AV×AH):Option (AV×AH):=qf b λd' n rs=>qwC d' n rs bs q
abbrev qwE(q:AV×AH):Option (AV×AH):=qd q.2 λb bs=>qwD b bs q
abbrev zF99(rows_1:Rz)(n n_1:Int)(s:Bz)(rows:Rz)(n_2:Int)(rs rs_1 rs_2:Rz)(b:Bool):Option (AV×AH):=kOpt (EVj (EV cfg) 162 1 [.ptr 0 0 0,AV.agg [.int .i64 9,.int .i64 0,.str [],.sl rows_1]] [.rows false 9 [[AV.int .i64 n,.int .i64 n_1,.str s,.sl rows,.int .i64 n_2,.ms 1 0 (qzO rs),.ms 2 0 (qzO rs_1),.ms 3 0 (qzO rs_2),.bool b]],.rows true 4 (qzT (qzO rs) rs),.rows true 4 (qzT (qzO rs_1) rs_1),.rows true 5 (qzT (qzO rs_2) rs_2)]) λq=>qwE q
abbrev qmq(n n_1:Int)(s:Bz)(rows:Rz)(n_2:Int)(rs rs_1 rs_2:Rz)(b:Bool):Option (AV×AH):=some (.int .i64 2,[.rows false 9 [[AV.int .i64 n,.int .i64 n_1,.str s,.sl rows,.int .i64 n_2,.ms 1 0 (qzO rs),.ms 2 0 (qzO rs_1),.ms 3 0 (qzO rs_2),.bool b]],.rows true 4 rs,.rows true 4 rs_1,.rows true 5 rs_2])
abbrev qwe(rest:Rz)(bs:AH)(row:List AV)(q:AV×AH):Option (AV×AH):=vg rest (qd bs λb bs=>qf b λd' n rs=>bif beqB true d'&&qzP n 4 then qd bs λb bs=>qf b λd' n rs_3=>bif beqB true d'&&qzP n 4 then qd bs λb bs=>qf b λd' n rs_4=>bif beqB true d'&&qzP n 5 then qU bs (qa row λc cs=>kInt .i64 c λn=>qa cs λc cs=>kInt .i64 c λn_6=>qa cs λc cs=>kStr c λs=>qa cs λc cs=>kSl c λrows=>qa cs λc cs=>kInt .i64 c λn_7=>qa cs λc cs=>kMsE c λid off len=>bif qzP id (1:Nat)&&(qzP off (0:Nat)&&qzP len (qzO rs))then qa cs λc cs=>kMsE c λid off len=>bif qzP id (2:Nat)&&(qzP off (0:Nat)&&qzP len (qzO rs_3))then qa cs λc cs=>kMsE c λid off len=>bif qzP id (3:Nat)&&(qzP off (0:Nat)&&qzP len (qzO rs_4))then qa cs λc cs=>qq c λb=>kNil cs (zF77 q n n_6 s rows n_7 rs rs_3 rs_4 b)else none else none else none)else none else none else none)
abbrev qwf(rs:Rz)(bs:AH)(q:AV×AH):Option (AV×AH):=qW rs λrow rest=>qwe rest bs row q
abbrev qwg(d':Bool)(n:Nat)(rs:Rz)(bs:AH)(q:AV×AH):Option (AV×AH):=bif beqB false d'&&qzP n 9 then qwf rs bs q else none
abbrev qwh(b:ABlk)(bs:AH)(q:AV×AH):Option (AV×AH):=qf b λd' n rs=>qwg d' n rs bs q
abbrev qwi(q:AV×AH):Option (AV×AH):=qd q.2 λb bs=>qwh b bs q
abbrev qwj(n_3 n_4:Int)(s_1:Bz)(rows_2:Rz)(n n_1:Int)(s:Bz)(rows:Rz)(n_2:Int)(rs rs_1 rs_2:Rz)(b:Bool):Option (AV×AH):=kOpt (EVj (EV cfg) 162 1 [.ptr 0 0 0,AV.agg [.int .i64 n_3,.int .i64 n_4,.str s_1,.sl rows_2]] [.rows false 9 [[AV.int .i64 n,.int .i64 n_1,.str s,.sl rows,.int .i64 n_2,.ms 1 0 (qzO rs),.ms 2 0 (qzO rs_1),.ms 3 0 (qzO rs_2),.bool b]],.rows true 4 (qzT (qzO rs) rs),.rows true 4 (qzT (qzO rs_1) rs_1),.rows true 5 (qzT (qzO rs_2) rs_2)]) λq=>qwi q
abbrev qwk(n_5 n n_1:Int)(s:Bz)(rows:Rz)(n_2:Int)(rs rs_1 rs_2:Rz)(b:Bool)(n_3 n_4:Int)(s_1:Bz)(rows_2:Rz):Option (AV×AH):=bif n_5 != 0 then qmq n n_1 s rows n_2 rs rs_1 rs_2 b else qwj n_3 n_4 s_1 rows_2 n n_1 s rows n_2 rs rs_1 rs_2 b
abbrev qwl(cs:List AV)(n_5 n n_1:Int)(s:Bz)(rows:Rz)(n_2:Int)(rs rs_1 rs_2:Rz)(b:Bool)(n_3 n_4:Int)(s_1:Bz)(rows_2:Rz):Option (AV×AH):=kNil cs (qwk n_5 n n_1 s rows n_2 rs rs_1 rs_2 b n_3 n_4 s_1 rows_2)
abbrev qwm(c:AV)(cs:List AV)(n n_1:Int)(s:Bz)(rows:Rz)(n_2:Int)(rs rs_1 rs_2:Rz)(b:Bool)(n_3 n_4:Int)(s_1:Bz)(rows_2:Rz):Option (AV×AH):=kInt .i64 c λn_5=>qwl cs n_5 n n_1 s rows n_2 rs rs_1 rs_2 b n_3 n_4 s_1 rows_2
abbrev qwn(cs:List AV)(n n_1:Int)(s:Bz)(rows:Rz)(n_2:Int)(rs rs_1 rs_2:Rz)(b:Bool)(n_3 n_4:Int)(s_1:Bz)(rows_2:Rz):Option (AV×AH):=qa cs λc cs=>qwm c cs n n_1 s rows n_2 rs rs_1 rs_2 b n_3 n_4 s_1 rows_2
abbrev qwo(cs_5 cs:List AV)(n n_1:Int)(s:Bz)(rows:Rz)(n_2:Int)(rs rs_1 rs_2:Rz)(b:Bool)(n_3 n_4:Int)(s_1:Bz)(rows_2:Rz):Option (AV×AH):=kNil cs_5 (qwn cs n n_1 s rows n_2 rs rs_1 rs_2 b n_3 n_4 s_1 rows_2)
abbrev qwp(c:AV)(cs_5 cs:List AV)(n n_1:Int)(s:Bz)(rows:Rz)(n_2:Int)(rs rs_1 rs_2:Rz)(b:Bool)(n_3 n_4:Int)(s_1:Bz):Option (AV×AH):=kSl c λrows_2=>qwo cs_5 cs n n_1 s rows n_2 rs rs_1 rs_2 b n_3 n_4 s_1 rows_2
abbrev qwq(cs_4 cs:List AV)(n n_1:Int)(s:Bz)(rows:Rz)(n_2:Int)(rs rs_1 rs_2:Rz)(b:Bool)(n_3 n_4:Int)(s_1:Bz):Option (AV×AH):=qa cs_4 λc cs_5=>qwp c cs_5 cs n n_1 s rows n_2 rs rs_1 rs_2 b n_3 n_4 s_1
abbrev qwr(c:AV)(cs_4 cs:List AV)(n n_1:Int)(s:Bz)(rows:Rz)(n_2:Int)(rs rs_1 rs_2:Rz)(b:Bool)(n_3 n_4:Int):Option (AV×AH):=kStr c λs_1=>qwq cs_4 cs n n_1 s rows n_2 rs rs_1 rs_2 b n_3 n_4 s_1
abbrev qws(cs_3 cs:List AV)(n n_1:Int)(s:Bz)(rows:Rz)(n_2:Int)(rs rs_1 rs_2:Rz)(b:Bool)(n_3 n_4:Int):Option (AV×AH):=qa cs_3 λc cs_4=>qwr c cs_4 cs n n_1 s rows n_2 rs rs_1 rs_2 b n_3 n_4
abbrev qwt(c:AV)(cs_3 cs:List AV)(n n_1:Int)(s:Bz)(rows:Rz)(n_2:Int)(rs rs_1 rs_2:Rz)(b:Bool)(n_3:Int):Option (AV×AH):=kInt .i64 c λn_4=>qws cs_3 cs n n_1 s rows n_2 rs rs_1 rs_2 b n_3 n_4
abbrev qwu(cs_2 cs:List AV)(n n_1:Int)(s:Bz)(rows:Rz)(n_2:Int)(rs rs_1 rs_2:Rz)(b:Bool)(n_3:Int):Option (AV×AH):=qa cs_2 λc cs_3=>qwt c cs_3 cs n n_1 s rows n_2 rs rs_1 rs_2 b n_3
abbrev qwv(c:AV)(cs_2 cs:List AV)(n n_1:Int)(s:Bz)(rows:Rz)(n_2:Int)(rs rs_1 rs_2:Rz)(b:Bool):Option (AV×AH):=kInt .i64 c λn_3=>qwu cs_2 cs n n_1 s rows n_2 rs rs_1 rs_2 b n_3
abbrev qww(cs_1 cs:List AV)(n n_1:Int)(s:Bz)(rows:Rz)(n_2:Int)(rs rs_1 rs_2:Rz)(b:Bool):Option (AV×AH):=qa cs_1 λc cs_2=>qwv c cs_2 cs n n_1 s rows n_2 rs rs_1 rs_2 b
abbrev qwx(c:AV)(cs:List AV)(n n_1:Int)(s:Bz)(rows:Rz)(n_2:Int)(rs rs_1 rs_2:Rz)(b:Bool):Option (AV×AH):=kAgg c λcs_1=>qww cs_1 cs n n_1 s rows n_2 rs rs_1 rs_2 b
abbrev qwy(cs:List AV)(n n_1:Int)(s:Bz)(rows:Rz)(n_2:Int)(rs rs_1 rs_2:Rz)(b:Bool):Option (AV×AH):=qa cs λc cs=>qwx c cs n n_1 s rows n_2 rs rs_1 rs_2 b
abbrev qwz(v:AV)(n n_1:Int)(s:Bz)(rows:Rz)(n_2:Int)(rs rs_1 rs_2:Rz)(b:Bool):Option (AV×AH):=kTup v λcs=>qwy cs n n_1 s rows n_2 rs rs_1 rs_2 b
abbrev qqv(w:Bz)(rows_1:Rz)(n_2 n n_1:Int)(s:Bz)(rows rs rs_1 rs_2:Rz)(b:Bool):Option (AV×AH):=kOpt (EVf (EV cfg) 165 [.str w,.sl rows_1,.int .i64 n_2]) λv=>qwz v n n_1 s rows n_2 rs rs_1 rs_2 b
abbrev zF98(o:Int)(rows_1:Rz)(n n_1:Int)(s:Bz)(rows:Rz)(n_2:Int)(rs rs_1 rs_2:Rz)(b:Bool)(w:Bz):Option (AV×AH):=bif o==12 then zF99 rows_1 n n_1 s rows n_2 rs rs_1 rs_2 b else qqv w rows_1 n_2 n n_1 s rows rs rs_1 rs_2 b
abbrev zF91(o:Int)(rows_1:Rz)(n n_1:Int)(s:Bz)(rows:Rz)(n_2:Int)(rs rs_1 rs_2:Rz)(b:Bool)(w:Bz):Option (AV×AH):=bif o==11 then zF92 rows_1 n n_1 s rows n_2 rs rs_1 rs_2 b else zF98 o rows_1 n n_1 s rows n_2 rs rs_1 rs_2 b w
abbrev zF90(b_1:Bool)(n n_1:Int)(s:Bz)(rows:Rz)(n_2:Int)(rs rs_1 rs_2:Rz)(b:Bool)(o:Int)(rows_1:Rz)(w:Bz):Option (AV×AH):=bif ! b_1 then zF0 n n_1 s rows n_2 rs rs_1 rs_2 b else zF91 o rows_1 n n_1 s rows n_2 rs rs_1 rs_2 b w
abbrev zF89(cs:List AV)(b_1:Bool)(n n_1:Int)(s:Bz)(rows:Rz)(n_2:Int)(rs rs_1 rs_2:Rz)(b:Bool)(o:Int)(rows_1:Rz)(w:Bz):Option (AV×AH):=kNil cs (zF90 b_1 n n_1 s rows n_2 rs rs_1 rs_2 b o rows_1 w)
abbrev zF88(c:AV)(cs:List AV)(n n_1:Int)(s:Bz)(rows:Rz)(n_2:Int)(rs rs_1 rs_2:Rz)(b:Bool)(o:Int)(rows_1:Rz)(w:Bz):Option (AV×AH):=qq c λb_1=>zF89 cs b_1 n n_1 s rows n_2 rs rs_1 rs_2 b o rows_1 w
abbrev zF87(cs:List AV)(n n_1:Int)(s:Bz)(rows:Rz)(n_2:Int)(rs rs_1 rs_2:Rz)(b:Bool)(o:Int)(rows_1:Rz)(w:Bz):Option (AV×AH):=qa cs λc cs=>zF88 c cs n n_1 s rows n_2 rs rs_1 rs_2 b o rows_1 w
abbrev zF86(c:AV)(cs:List AV)(n n_1:Int)(s:Bz)(rows:Rz)(n_2:Int)(rs rs_1 rs_2:Rz)(b:Bool)(o:Int)(w:Bz):Option (AV×AH):=kSl c λrows_1=>zF87 cs n n_1 s rows n_2 rs rs_1 rs_2 b o rows_1 w
abbrev zF85(cs:List AV)(n n_1:Int)(s:Bz)(rows:Rz)(n_2:Int)(rs rs_1 rs_2:Rz)(b:Bool)(o:Int)(w:Bz):Option (AV×AH):=qa cs λc cs=>zF86 c cs n n_1 s rows n_2 rs rs_1 rs_2 b o w
abbrev zF84(q:AV×AH)(n n_1:Int)(s:Bz)(rows:Rz)(n_2:Int)(rs rs_1 rs_2:Rz)(b:Bool)(o:Int)(w:Bz):Option (AV×AH):=kTup q.1 λcs=>zF85 cs n n_1 s rows n_2 rs rs_1 rs_2 b o w
abbrev zF83(rest:Rz)(bs:AH)(row:List AV)(q:AV×AH)(o:Int)(w:Bz):Option (AV×AH):=vg rest (qd bs λb bs=>qf b λd' n rs=>bif beqB true d'&&qzP n 4 then qd bs λb bs=>qf b λd' n rs_1=>bif beqB true d'&&qzP n 4 then qd bs λb bs=>qf b λd' n rs_2=>bif beqB true d'&&qzP n 5 then qU bs (qa row λc cs=>kInt .i64 c λn=>qa cs λc cs=>kInt .i64 c λn_1=>qa cs λc cs=>kStr c λs=>qa cs λc cs=>kSl c λrows=>qa cs λc cs=>kInt .i64 c λn_2=>qa cs λc cs=>kMsE c λid off len=>bif qzP id 1&&(qzP off 0&&qzP len (qzO rs))then qa cs λc cs=>kMsE c λid off len=>bif qzP id 2&&(qzP off 0&&qzP len (qzO rs_1))then qa cs λc cs=>kMsE c λid off len=>bif qzP id 3&&(qzP off 0&&qzP len (qzO rs_2))then qa cs λc cs=>qq c λb=>kNil cs (zF84 q n n_1 s rows n_2 rs rs_1 rs_2 b o w)else none else none else none)else none else none else none)
abbrev zF82(rs:Rz)(bs:AH)(q:AV×AH)(o:Int)(w:Bz):Option (AV×AH):=qW rs λrow rest=>zF83 rest bs row q o w
abbrev zF81(d':Bool)(n:Nat)(rs:Rz)(bs:AH)(q:AV×AH)(o:Int)(w:Bz):Option (AV×AH):=bif beqB false d'&&qzP n 9 then zF82 rs bs q o w else none
abbrev zF80(b:ABlk)(bs:AH)(q:AV×AH)(o:Int)(w:Bz):Option (AV×AH):=qf b λd' n rs=>zF81 d' n rs bs q o w
abbrev zF79(q:AV×AH)(o:Int)(w:Bz):Option (AV×AH):=qd q.2 λb bs=>zF80 b bs q o w
abbrev qvV(n_5 n n_3:Int)(s:Bz)(rows:Rz)(n_4:Int)(rs rs_3 rs_4:Rz)(b:Bool):Option (AV×AH):=some (.int .i64 n_5,[.rows false 9 [[AV.int .i64 n,AV.int .i64 n_3,.str s,.sl rows,AV.int .i64 n_4,AV.ms 1 0 (qzO rs),AV.ms 2 0 (qzO rs_3),AV.ms 3 0 (qzO rs_4),.bool b]],.rows true 4 rs,.rows true 4 rs_3,.rows true 5 rs_4])
abbrev qvW(q:AV×AH)(n n_3:Int)(s:Bz)(rows:Rz)(n_4:Int)(rs rs_3 rs_4:Rz)(b:Bool):Option (AV×AH):=kInt .i64 q.1 λn_5=>qvV n_5 n n_3 s rows n_4 rs rs_3 rs_4 b
abbrev qvX(rest:Rz)(bs:AH)(row:List AV)(q:AV×AH):Option (AV×AH):=vg rest (qd bs λb bs=>qf b λd' n rs=>bif beqB true d'&&qzP n 4 then qd bs λb bs=>qf b λd' n rs_3=>bif beqB true d'&&qzP n 4 then qd bs λb bs=>qf b λd' n rs_4=>bif beqB true d'&&qzP n 5 then qU bs (qa row λc cs=>kInt .i64 c λn=>qa cs λc cs=>kInt .i64 c λn_3=>qa cs λc cs=>kStr c λs=>qa cs λc cs=>kSl c λrows=>qa cs λc cs=>kInt .i64 c λn_4=>qa cs λc cs=>kMsE c λid off len=>bif qzP id 1&&(qzP off 0&&qzP len (qzO rs))then qa cs λc cs=>kMsE c λid off len=>bif qzP id 2&&(qzP off 0&&qzP len (qzO rs_3))then qa cs λc cs=>kMsE c λid off len=>bif qzP id 3&&(qzP off 0&&qzP len (qzO rs_4))then qa cs λc cs=>qq c λb=>kNil cs (qvW q n n_3 s rows n_4 rs rs_3 rs_4 b)else none else none else none)else none else none else none)
abbrev qvY(rs:Rz)(bs:AH)(q:AV×AH):Option (AV×AH):=qW rs λrow rest=>qvX rest bs row q
abbrev qvZ(d':Bool)(n:Nat)(rs:Rz)(bs:AH)(q:AV×AH):Option (AV×AH):=bif beqB false d'&&qzP n 9 then qvY rs bs q else none
abbrev qv0(b:ABlk)(bs:AH)(q:AV×AH):Option (AV×AH):=qf b λd' n rs=>qvZ d' n rs bs q
abbrev qqt(q:AV×AH):Option (AV×AH):=qd q.2 λb bs=>qv0 b bs q
abbrev qv1(rows_1:Rz)(n n_1:Int)(s:Bz)(rows:Rz)(n_2:Int)(rs rs_1 rs_2:Rz)(b:Bool):Option (AV×AH):=kOpt (EVj (EV cfg) 162 1 [.ptr 0 0 0,.agg [.int .i64 7,.int .i64 0,.str [],.sl rows_1]] [.rows false 9 [[AV.int .i64 n,.int .i64 n_1,.str s,.sl rows,.int .i64 n_2,.ms 1 0 (qzO rs),.ms 2 0 (qzO rs_1),.ms 3 0 (qzO rs_2),.bool b]],.rows true 4 (qzT (qzO rs) rs),.rows true 4 (qzT (qzO rs_1) rs_1),.rows true 5 (qzT (qzO rs_2) rs_2)]) λq=>qqt q
abbrev qvT(rows_1:Rz)(n n_1:Int)(s:Bz)(rows:Rz)(n_2:Int)(rs rs_1 rs_2:Rz)(b:Bool):Option (AV×AH):=kOpt (EVj (EV cfg) 162 1 [.ptr 0 0 0,.agg [.int .i64 9,.int .i64 0,.str [],.sl rows_1]] [.rows false 9 [[AV.int .i64 n,.int .i64 n_1,.str s,.sl rows,.int .i64 n_2,.ms 1 0 (qzO rs),.ms 2 0 (qzO rs_1),.ms 3 0 (qzO rs_2),.bool b]],.rows true 4 (qzT (qzO rs) rs),.rows true 4 (qzT (qzO rs_1) rs_1),.rows true 5 (qzT (qzO rs_2) rs_2)]) λq=>qqt q
abbrev qvU(o:Int)(rows_1:Rz)(n n_1:Int)(s:Bz)(rows:Rz)(n_2:Int)(rs rs_1 rs_2:Rz)(b:Bool)(w:Bz):Option (AV×AH):=bif o==12 then qvT rows_1 n n_1 s rows n_2 rs rs_1 rs_2 b else qqv w rows_1 n_2 n n_1 s rows rs rs_1 rs_2 b
abbrev qv2(o:Int)(rows_1:Rz)(n n_1:Int)(s:Bz)(rows:Rz)(n_2:Int)(rs rs_1 rs_2:Rz)(b:Bool)(w:Bz):Option (AV×AH):=bif o==11 then qv1 rows_1 n n_1 s rows n_2 rs rs_1 rs_2 b else qvU o rows_1 n n_1 s rows n_2 rs rs_1 rs_2 b w
abbrev qv3(b_1:Bool)(n n_1:Int)(s:Bz)(rows:Rz)(n_2:Int)(rs rs_1 rs_2:Rz)(b:Bool)(o:Int)(rows_1:Rz)(w:Bz):Option (AV×AH):=bif ! b_1 then zF0 n n_1 s rows n_2 rs rs_1 rs_2 b else qv2 o rows_1 n n_1 s rows n_2 rs rs_1 rs_2 b w
abbrev qv4(cs:List AV)(b_1:Bool)(n n_1:Int)(s:Bz)(rows:Rz)(n_2:Int)(rs rs_1 rs_2:Rz)(b:Bool)(o:Int)(rows_1:Rz)(w:Bz):Option (AV×AH):=kNil cs (qv3 b_1 n n_1 s rows n_2 rs rs_1 rs_2 b o rows_1 w)
abbrev qv5(c:AV)(cs:List AV)(n n_1:Int)(s:Bz)(rows:Rz)(n_2:Int)(rs rs_1 rs_2:Rz)(b:Bool)(o:Int)(rows_1:Rz)(w:Bz):Option (AV×AH):=qq c λb_1=>qv4 cs b_1 n n_1 s rows n_2 rs rs_1 rs_2 b o rows_1 w
abbrev qv6(cs:List AV)(n n_1:Int)(s:Bz)(rows:Rz)(n_2:Int)(rs rs_1 rs_2:Rz)(b:Bool)(o:Int)(rows_1:Rz)(w:Bz):Option (AV×AH):=qa cs λc cs=>qv5 c cs n n_1 s rows n_2 rs rs_1 rs_2 b o rows_1 w
abbrev qv7(c:AV)(cs:List AV)(n n_1:Int)(s:Bz)(rows:Rz)(n_2:Int)(rs rs_1 rs_2:Rz)(b:Bool)(o:Int)(w:Bz):Option (AV×AH):=kSl c λrows_1=>qv6 cs n n_1 s rows n_2 rs rs_1 rs_2 b o rows_1 w
abbrev qv8(cs:List AV)(n n_1:Int)(s:Bz)(rows:Rz)(n_2:Int)(rs rs_1 rs_2:Rz)(b:Bool)(o:Int)(w:Bz):Option (AV×AH):=qa cs λc cs=>qv7 c cs n n_1 s rows n_2 rs rs_1 rs_2 b o w
abbrev qv9(q:AV×AH)(n n_1:Int)(s:Bz)(rows:Rz)(n_2:Int)(rs rs_1 rs_2:Rz)(b:Bool)(o:Int)(w:Bz):Option (AV×AH):=kTup q.1 λcs=>qv8 cs n n_1 s rows n_2 rs rs_1 rs_2 b o w
abbrev qwa(rest:Rz)(bs:AH)(row:List AV)(q:AV×AH)(o:Int)(w:Bz):Option (AV×AH):=vg rest (qd bs λb bs=>qf b λd' n rs=>bif beqB true d'&&qzP n 4 then qd bs λb bs=>qf b λd' n rs_1=>bif beqB true d'&&qzP n 4 then qd bs λb bs=>qf b λd' n rs_2=>bif beqB true d'&&qzP n 5 then qU bs (qa row λc cs=>kInt .i64 c λn=>qa cs λc cs=>kInt .i64 c λn_1=>qa cs λc cs=>kStr c λs=>qa cs λc cs=>kSl c λrows=>qa cs λc cs=>kInt .i64 c λn_2=>qa cs λc cs=>kMsE c λid off len=>bif qzP id 1&&(qzP off 0&&qzP len (qzO rs))then qa cs λc cs=>kMsE c λid off len=>bif qzP id 2&&(qzP off 0&&qzP len (qzO rs_1))then qa cs λc cs=>kMsE c λid off len=>bif qzP id 3&&(qzP off 0&&qzP len (qzO rs_2))then qa cs λc cs=>qq c λb=>kNil cs (qv9 q n n_1 s rows n_2 rs rs_1 rs_2 b o w)else none else none else none)else none else none else none)
abbrev qwb(rs:Rz)(bs:AH)(q:AV×AH)(o:Int)(w:Bz):Option (AV×AH):=qW rs λrow rest=>qwa rest bs row q o w
abbrev qwc(d':Bool)(n:Nat)(rs:Rz)(bs:AH)(q:AV×AH)(o:Int)(w:Bz):Option (AV×AH):=bif beqB false d'&&qzP n 9 then qwb rs bs q o w else none
abbrev qwd(b:ABlk)(bs:AH)(q:AV×AH)(o:Int)(w:Bz):Option (AV×AH):=qf b λd' n rs=>qwc d' n rs bs q o w
abbrev qqu(q:AV×AH)(o:Int)(w:Bz):Option (AV×AH):=qd q.2 λb bs=>qwd b bs q o w
theorem qoV(ko no self:Int)(so:Bz)(lo L V B:Rz)(bd:Bool)(o a b k n:Int)(w:Bz)(l:Rz){P:AV×AH->Prop}(h:Gets (bif o==12 then bif o==13 then kOpt (EVs (EV cfg) 47 [.agg [.int .i64 k,.int .i64 n,.str w,.sl l]]) λv=>kInt .i64 v λn=>bif n != (0:Int)then zF0 ko no so lo self L V B bd else bif k != 2 then zF0 ko no so lo self L V B bd else kOpt (EVj (EV cfg) 164 1 [.ptr 0 0 0,.int .i64 2] [.rows false 9 [[AV.int .i64 ko,.int .i64 no,.str so,.sl lo,.int .i64 self,.ms 1 0 (qzO L),.ms 2 0 (qzO V),.ms 3 0 (qzO B),.bool bd]],.rows true 4 (qzT (qzO L) L),.rows true 4 (qzT (qzO V) V),.rows true 5 (qzT (qzO B) B)]) λq=>zF79 q o w else kOpt (EVj (EV cfg) 164 1 [.ptr 0 0 0,.int .i64 (2:Int)] [.rows false 9 [[AV.int .i64 ko,.int .i64 no,.str so,.sl lo,.int .i64 self,.ms 1 0 (qzO L),.ms 2 0 (qzO V),.ms 3 0 (qzO B),.bool bd]],.rows true 4 (qzT (qzO L) L),.rows true 4 (qzT (qzO V) V),.rows true 5 (qzT (qzO B) B)]) λq=>qqu q o w else bif o==13 then kOpt (EVs (EV cfg) 47 [.agg [.int .i64 k,.int .i64 n,.str w,.sl l]]) λv=>kInt .i64 v λn=>bif n != 0 then zF0 ko no so lo self L V B bd else bif k != 2 then zF0 ko no so lo self L V B bd else kOpt (EVj (EV cfg) 164 1 [.ptr 0 0 0,.int .i64 a] [.rows false 9 [[AV.int .i64 ko,.int .i64 no,.str so,.sl lo,.int .i64 self,.ms 1 0 (qzO L),.ms 2 0 (qzO V),.ms 3 0 (qzO B),.bool bd]],.rows true 4 (qzT (qzO L) L),.rows true 4 (qzT (qzO V) V),.rows true 5 (qzT (qzO B) B)]) λq=>zF79 q o w else kOpt (EVj (EV cfg) 164 1 [.ptr 0 0 0,.int .i64 a] [.rows false 9 [[AV.int .i64 ko,.int .i64 no,.str so,.sl lo,.int .i64 self,.ms 1 0 (qzO L),.ms 2 0 (qzO V),.ms 3 0 (qzO B),.bool bd]],.rows true 4 (qzT (qzO L) L),.rows true 4 (qzT (qzO V) V),.rows true 5 (qzT (qzO B) B)]) λq=>qqu q o w) P):Gets (EVj (EV cfg) 99 1 [.ptr 0 0 0,.agg [.int .i64 o,.int .i64 a,.int .i64 b,.int .i64 k,.int .i64 n,.str w,.sl l]] ([ABlk.rows false (9:Nat) [[AV.int qAn ko,AV.int qAn no,AV.str so,AV.sl lo,AV.int qAn self,AV.ms (1:Nat) (0:Nat) (qzO L),AV.ms (2:Nat) (0:Nat) (qzO V),AV.ms (3:Nat) (0:Nat) (qzO B),AV.bool bd]],ABlk.rows true (4:Nat) L,ABlk.rows true (4:Nat) V,ABlk.rows true (5:Nat) B]:AH)) P:=
  gE (λ_=>funJ rfl rfl Tryz.func99 rfl) (by kernel_rfl) h
abbrev qvN(q:AV×AH)(n n_2:Int)(s:Bz)(rows:Rz)(n_3:Int)(rs rs_1 rs_2:Rz)(b:Bool):Option (AV×AH):=kTup q.1 λcs=>qa cs λc cs=>kSl c λrows_1=>qa cs λc cs=>qq c λb_2=>kNil cs (zF17 n n_2 s rows n_3 rs rs_1 rs_2 b)
abbrev qvO(rest:Rz)(bs:AH)(row:List AV)(q:AV×AH):Option (AV×AH):=vg rest (qd bs λb bs=>qf b λd' n rs=>bif beqB true d'&&qzP n 4 then qd bs λb bs=>qf b λd' n rs_1=>bif beqB true d'&&qzP n 4 then qd bs λb bs=>qf b λd' n rs_2=>bif beqB true d'&&qzP n 5 then qU bs (qa row λc cs=>kInt .i64 c λn=>qa cs λc cs=>kInt .i64 c λn_2=>qa cs λc cs=>kStr c λs=>qa cs λc cs=>kSl c λrows=>qa cs λc cs=>kInt .i64 c λn_3=>qa cs λc cs=>kMsE c λid off len=>bif qzP id 1&&(qzP off 0&&qzP len (qzO rs))then qa cs λc cs=>kMsE c λid off len=>bif qzP id 2&&(qzP off 0&&qzP len (qzO rs_1))then qa cs λc cs=>kMsE c λid off len=>bif qzP id 3&&(qzP off 0&&qzP len (qzO rs_2))then qa cs λc cs=>qq c λb=>kNil cs (qvN q n n_2 s rows n_3 rs rs_1 rs_2 b)else none else none else none)else none else none else none)
abbrev qvP(rs:Rz)(bs:AH)(q:AV×AH):Option (AV×AH):=qW rs λrow rest=>qvO rest bs row q
abbrev qvQ(d':Bool)(n:Nat)(rs:Rz)(bs:AH)(q:AV×AH):Option (AV×AH):=bif beqB false d'&&qzP n 9 then qvP rs bs q else none
abbrev qvR(b:ABlk)(bs:AH)(q:AV×AH):Option (AV×AH):=qf b λd' n rs=>qvQ d' n rs bs q
abbrev qvS(q:AV×AH):Option (AV×AH):=qd q.2 λb bs=>qvR b bs q
abbrev qqs(ko no:Int)(so:Bz)(lo:Rz)(self:Int)(L V B:Rz)(bd:Bool):Option (AV×AH):=kOpt (EVj (EV cfg) 164 1 [.ptr 0 0 0,.int .i64 1] [.rows false 9 [[AV.int .i64 ko,.int .i64 no,.str so,.sl lo,.int .i64 self,.ms 1 0 (qzO L),.ms 2 0 (qzO V),.ms 3 0 (qzO B),.bool bd]],.rows true 4 (qzT (qzO L) L),.rows true 4 (qzT (qzO V) V),.rows true 5 (qzT (qzO B) B)]) λq=>qvS q
theorem qoW(ko no self:Int)(so:Bz)(lo L V B:Rz)(bd:Bool)(o a b k n:Int)(w:Bz)(l:Rz){P:AV×AH->Prop}(h:Gets (bif(V.length:Int)==0 then zF0 ko no so lo self L V B bd else bif qe 0 (qzQ .i64 ((V.length:Int) - (1:Int)))&&qu (qzQ .i64 ((V.length:Int) - 1)) (V.length:Int)then kOpt (qzU V (0+qzV (qzQ .i64 ((↑ (qzO V):Int) - 1)))) λrow=>bif qz8 4 (qzO row)then kTmC (qzT 4 row) λn n_1 s rows=>(kOpt (EVs (EV cfg) 166 [.agg [.int .i64 n,.int .i64 n_1,.str s,.sl rows]]) λv=>kTup v λcs=>qa cs λc cs=>qq c λb=>qa cs λc cs=>qq c λb_1=>kNil cs (bif o==14 then kOpt (EVj (EV cfg) 164 1 [.ptr 0 0 0,.int .i64 1] [.rows false 9 [[AV.int .i64 ko,.int .i64 no,.str so,.sl lo,.int .i64 self,.ms 1 0 (qzO L),.ms 2 0 (qzO V),.ms 3 0 (qzO B),.bool bd]],.rows true 4 (qzT (qzO L) L),.rows true 4 (qzT (qzO V) V),.rows true 5 (qzT (qzO B) B)]) λq=>qd q.2 λb_2 bs=>qf b_2 λd' n rs=>bif beqB false d'&&qzP n 9 then qW rs λrow rest=>vg rest (qd bs λb_3 bs=>qf b_3 λd' n rs=>bif beqB true d'&&qzP n 4 then qd bs λb_4 bs=>qf b_4 λd' n rs_1=>bif beqB true d'&&qzP n 4 then qd bs λb_5 bs=>qf b_5 λd' n rs_2=>bif beqB true d'&&qzP n 5 then qU bs (qa row λc cs=>kInt .i64 c λn=>qa cs λc cs=>kInt .i64 c λn_2=>qa cs λc cs=>kStr c λs=>qa cs λc cs=>kSl c λrows=>qa cs λc cs=>kInt .i64 c λn_3=>qa cs λc cs=>kMsE c λid off len=>bif qzP id 1&&(qzP off 0&&qzP len (qzO rs))then qa cs λc cs=>kMsE c λid off len=>bif qzP id 2&&(qzP off 0&&qzP len (qzO rs_1))then qa cs λc cs=>kMsE c λid off len=>bif qzP id 3&&(qzP off 0&&qzP len (qzO rs_2))then qa cs λc cs=>qq c λb_6=>kNil cs (kTup q.1 λcs=>qa cs λc cs=>kSl c λrows_1=>qa cs λc cs=>qq c λb_7=>kNil cs (bif b_1 then zF21 b n n_2 s rows n_3 rs rs_1 rs_2 b_6 else zF2 n n_2 s rows n_3 rs rs_1 rs_2 b_6))else none else none else none)else none else none else none)else none else bif o==19 then qqs ko no so lo self L V B bd else bif o==20 then some (.int .i64 5,[.rows false 9 [[AV.int .i64 ko,.int .i64 no,.str so,.sl lo,.int .i64 self,.ms 1 0 (qzO L),.ms 2 0 (qzO V),.ms 3 0 (qzO B),.bool bd]],.rows true 4 L,.rows true 4 V,.rows true 5 B])else bif ! b_1 then qmq ko no so lo self L V B bd else bif o==17 then zF17 ko no so lo self L V B bd else bif ! b==(o==15)then some (.int .i64 4,[.rows false 9 [[AV.int .i64 ko,.int .i64 no,.str so,.sl lo,.int .i64 self,.ms 1 0 (qzO L),.ms 2 0 (qzO V),.ms 3 0 (qzO B),.bool bd]],.rows true 4 L,.rows true 4 V,.rows true 5 B])else qqs ko no so lo self L V B bd))else none else none) P):Gets (EVj (EV cfg) 100 1 [.ptr 0 0 0,.agg [.int .i64 o,.int .i64 a,.int .i64 b,.int .i64 k,.int .i64 n,.str w,.sl l]] ([ABlk.rows false (9:Nat) [[AV.int qAn ko,AV.int qAn no,AV.str so,AV.sl lo,AV.int qAn self,AV.ms (1:Nat) (0:Nat) (qzO L),AV.ms (2:Nat) (0:Nat) (qzO V),AV.ms (3:Nat) (0:Nat) (qzO B),AV.bool bd]],ABlk.rows true (4:Nat) L,ABlk.rows true (4:Nat) V,ABlk.rows true (5:Nat) B]:AH)) P:=
  gE (λ_=>funJ rfl rfl Tryz.func100 rfl) (by kernel_rfl) h
abbrev qeJ(o a b k n:Int)(w:Bz)(l:Rz)(ko no:Int)(so:Bz)(lo:Rz)(self:Int)(L V B:Rz)(bd:Bool):Option (AV×AH):=kOpt (EVj (EV cfg) 97 1 [.ptr 0 0 0,.agg [.int .i64 o,.int .i64 a,.int .i64 b,.int .i64 k,.int .i64 n,.str w,.sl l]] [.rows false 9 [[AV.int .i64 ko,.int .i64 no,.str so,.sl lo,.int .i64 self,.ms 1 0 (qzO L),.ms 2 0 (qzO V),.ms 3 0 (qzO B),.bool bd]],.rows true 4 (qzT (qzO L) L),.rows true 4 (qzT (qzO V) V),.rows true 5 (qzT (qzO B) B)]) λq=>zF70 q
abbrev qio(o a b k n:Int)(w:Bz)(l:Rz)(ko no:Int)(so:Bz)(lo:Rz)(self:Int)(L V B:Rz)(bd:Bool):Option (AV×AH):=kOpt (EVj (EV cfg) 98 1 [.ptr 0 0 0,.agg [.int .i64 o,.int .i64 a,.int .i64 b,.int .i64 k,.int .i64 n,.str w,.sl l]] [.rows false 9 [[AV.int .i64 ko,.int .i64 no,.str so,.sl lo,.int .i64 self,.ms 1 0 (qzO L),.ms 2 0 (qzO V),.ms 3 0 (qzO B),.bool bd]],.rows true 4 (qzT (qzO L) L),.rows true 4 (qzT (qzO V) V),.rows true 5 (qzT (qzO B) B)]) λq=>zF70 q
abbrev qmp(o a b k n:Int)(w:Bz)(l:Rz)(ko no:Int)(so:Bz)(lo:Rz)(self:Int)(L V B:Rz)(bd:Bool):Option (AV×AH):=kOpt (EVj (EV cfg) 99 1 [.ptr 0 0 0,.agg [.int .i64 o,.int .i64 a,.int .i64 b,.int .i64 k,.int .i64 n,.str w,.sl l]] [.rows false 9 [[AV.int .i64 ko,.int .i64 no,.str so,.sl lo,.int .i64 self,.ms 1 0 (qzO L),.ms 2 0 (qzO V),.ms 3 0 (qzO B),.bool bd]],.rows true 4 (qzT (qzO L) L),.rows true 4 (qzT (qzO V) V),.rows true 5 (qzT (qzO B) B)]) λq=>zF70 q
abbrev qeI(o a b k n:Int)(w:Bz)(l:Rz)(ko no:Int)(so:Bz)(lo:Rz)(self:Int)(L V B:Rz)(bd:Bool):Option (AV×AH):=kOpt (EVj (EV cfg) 100 1 [.ptr 0 0 0,.agg [.int .i64 o,.int .i64 a,.int .i64 b,.int .i64 k,.int .i64 n,.str w,.sl l]] [.rows false 9 [[AV.int .i64 ko,.int .i64 no,.str so,.sl lo,.int .i64 self,.ms 1 0 (qzO L),.ms 2 0 (qzO V),.ms 3 0 (qzO B),.bool bd]],.rows true 4 (qzT (qzO L) L),.rows true 4 (qzT (qzO V) V),.rows true 5 (qzT (qzO B) B)]) λq=>zF70 q
theorem qqL(ko no self:Int)(so:Bz)(lo L V B:Rz)(bd:Bool)(o a b k n:Int)(w:Bz)(l:Rz){P:AV×AH->Prop}(h:Gets (bif o==1 then qeJ o a b k n w l ko no so lo self L V B bd else bif o==2 then qeJ o a b k n w l ko no so lo self L V B bd else bif o==3 then qeJ o a b k n w l ko no so lo self L V B bd else bif o==4 then qeJ o a b k n w l ko no so lo self L V B bd else bif o==5 then qeJ o a b k n w l ko no so lo self L V B bd else bif o==6 then qeJ o a b k n w l ko no so lo self L V B bd else bif o==7 then qio o a b k n w l ko no so lo self L V B bd else bif o==8 then qio o a b k n w l ko no so lo self L V B bd else bif o==9 then qio o a b k n w l ko no so lo self L V B bd else bif o==10 then qio o a b k n w l ko no so lo self L V B bd else bif o==11 then qmp o a b k n w l ko no so lo self L V B bd else bif o==12 then qmp o a b k n w l ko no so lo self L V B bd else bif o==13 then qmp o a b k n w l ko no so lo self L V B bd else bif o==14 then qeI o a b k n w l ko no so lo self L V B bd else bif o==15 then qeI o a b k n w l ko no so lo self L V B bd else bif o==16 then qeI o a b k n w l ko no so lo self L V B bd else bif o==17 then qeI o a b k n w l ko no so lo self L V B bd else bif o==19 then qeI o a b k n w l ko no so lo self L V B bd else bif o==20 then qeI o a b k n w l ko no so lo self L V B bd else bif o==18 then some (.int .i64 0,[.rows false 9 [[AV.int .i64 ko,.int .i64 no,.str so,.sl lo,.int .i64 self,.ms 1 0 (qzO L),.ms 2 0 (qzO V),.ms 3 0 (qzO B),.bool true]],.rows true 4 L,.rows true 4 V,.rows true 5 B])else zF0 ko no so lo self L V B bd) P):Gets (EVj (EV cfg) 50 1 [.ptr 0 0 0,.agg [.int .i64 o,.int .i64 a,.int .i64 b,.int .i64 k,.int .i64 n,.str w,.sl l]] ([ABlk.rows false (9:Nat) [[AV.int qAn ko,AV.int qAn no,AV.str so,AV.sl lo,AV.int qAn self,AV.ms (1:Nat) (0:Nat) (qzO L),AV.ms (2:Nat) (0:Nat) (qzO V),AV.ms (3:Nat) (0:Nat) (qzO B),AV.bool bd]],ABlk.rows true (4:Nat) L,ABlk.rows true (4:Nat) V,ABlk.rows true (5:Nat) B]:AH)) P:=
  gE (λ_=>funJ rfl rfl Tryz.func50 rfl) (by kernel_rfl) h
theorem qfs(v7 c0_0 c0_1:Int)(c0_2:Bz)(c0_3:Rz)(c0_4:Int)(nc0_5 nc0_6 nc0_7:Nat)(c0_8:Bool)(c4_0 c4_1:Int)(c4_2:Bz)(c4_3 h5 h6 h7:Rz){P:AV×AH->Prop}(h:Gets (bif decide (v7≥0)then bif qe 0 v7&&qu v7 (c4_3.length:Int)then kOpt (qzU c4_3 (v7.toNat)) λrow=>bif qzP (qzO row) 4 then bif qz8 4 (qzO row)then kTmC (qzT 4 row) λn n_1 s rows=>(bif qz8 (0+nc0_5) (qzO h5)&&qX (nc0_5+1) 56 then bif qe 0 (↑ nc0_5:Int)&&qu (↑ nc0_5:Int) (↑ (nc0_5+1):Int)then kOpt (qzU (qAi (qzT nc0_5 h5) [[AV.int .i64 0,.int .i64 0,.str [],.nilS]]) (0+qzV (↑ nc0_5:Int))) λrow=>bif qz8 4 (qzO row)then qcX (qzQ .i64 (v7 - 1)) c0_0 c0_1 c0_2 c0_3 c0_4 (nc0_5+1) nc0_6 nc0_7 c0_8 c4_0 c4_1 c4_2 c4_3 (List.set (qAi (qzT nc0_5 h5) [[AV.int .i64 0,.int .i64 0,.str [],.nilS]]) (0+qzV (↑ nc0_5:Int)) (.int .i64 n:: .int .i64 n_1:: .str s:: .sl rows::List.drop 4 row)) h6 h7 else none else none else none)else none else none else none else some (.int .i64 0,[.rows false 9 [[AV.int .i64 c0_0,.int .i64 c0_1,.str c0_2,.sl c0_3,.int .i64 c0_4,.ms 1 0 nc0_5,.ms 2 0 nc0_6,.ms 3 0 nc0_7,.bool c0_8]],.rows true 4 h5,.rows true 4 h6,.rows true 5 h7])) P):Gets (qcX v7 c0_0 c0_1 c0_2 c0_3 c0_4 nc0_5 nc0_6 nc0_7 c0_8 c4_0 c4_1 c4_2 c4_3 h5 h6 h7) P:=
  gE (λ_=>qM (cfg:=cfg) (f:=97) (rd:=none) (bs:=4)) (by kernel_rfl) h
theorem qfr(nv5:Nat)(v6 c0_0 c0_1:Int)(c0_2:Bz)(c0_3:Rz)(c0_4:Int)(nc0_5 nc0_6 nc0_7:Nat)(c0_8:Bool)(h1 h2 h3 h4:Rz){P:AV×AH->Prop}(h:Gets (bif decide (v6<(↑ nc0_7:Int))then bif qe 0 v6&&qu v6 (↑ nc0_7:Int)then kOpt (qzU h3 (0+v6.toNat)) λrow=>bif qz8 5 (qzO row)then qa (qzT 4 (List.drop 1 row)) λc cs=>kInt .i64 c λn=>qa cs λc cs=>kInt .i64 c λn_1=>qa cs λc cs=>kStr c λs=>qa cs λc cs=>kSl c λrows=>kNil cs (bif qz8 (0+nv5) (qzO h4)&&qX (nv5+1) 56 then qeN (nv5+1) (qzQ .i64 (v6+1)) c0_0 c0_1 c0_2 c0_3 c0_4 nc0_5 nc0_6 nc0_7 c0_8 h1 h2 h3 (qAi (qzT nv5 h4) [[AV.int .i64 n,.int .i64 n_1,.str s,.sl rows]])else none)else none else none else bif qz8 (0+nv5) (qzO h4)&&true then kOpt (EVf (EV cfg) 163 [.sl (qzT nv5 h4)]) λv=>kTmV v λn n_1 s rows=>(kOpt (EVj (EV cfg) 162 1 [.ptr 0 0 0,.agg [.int .i64 n,.int .i64 n_1,.str s,.sl rows]] [.rows false 9 [[AV.int .i64 c0_0,.int .i64 c0_1,.str c0_2,.sl c0_3,.int .i64 c0_4,.ms 1 0 nc0_5,.ms 2 0 nc0_6,.ms 3 0 nc0_7,.bool c0_8]],.rows true 4 (qzT nc0_5 h1),.rows true 4 (qzT nc0_6 h2),.rows true 5 (qzT nc0_7 h3)]) λq=>qd q.2 λb bs=>qf b λd' n rs=>bif beqB false d'&&qzP n 9 then qW rs λrow rest=>vg rest (qd bs λb bs=>qf b λd' n rs=>bif beqB true d'&&qzP n 4 then qd bs λb bs=>qf b λd' n rs_1=>bif beqB true d'&&qzP n 4 then qd bs λb bs=>qf b λd' n rs_2=>bif beqB true d'&&qzP n 5 then qU bs (qa row λc cs=>kInt .i64 c λn=>qa cs λc cs=>kInt .i64 c λn_2=>qa cs λc cs=>kStr c λs=>qa cs λc cs=>kSl c λrows=>qa cs λc cs=>kInt .i64 c λn_3=>qa cs λc cs=>kMsE c λid off len=>bif qzP id 1&&(qzP off 0&&qzP len (qzO rs))then qa cs λc cs=>kMsE c λid off len=>bif qzP id 2&&(qzP off 0&&qzP len (qzO rs_1))then qa cs λc cs=>kMsE c λid off len=>bif qzP id 3&&(qzP off 0&&qzP len (qzO rs_2))then qa cs λc cs=>qq c λb=>kNil cs (zF75 q n n_2 s rows n_3 rs rs_1 rs_2 b)else none else none else none)else none else none else none)else none)else none) P):Gets (qeN nv5 v6 c0_0 c0_1 c0_2 c0_3 c0_4 nc0_5 nc0_6 nc0_7 c0_8 h1 h2 h3 h4) P:=
  gE (λ_=>qM (cfg:=cfg) (f:=98) (rd:=none) (bs:=4)) (by kernel_rfl) h
theorem qco(a b:Int):EVs (EV cfg) 272 [.int .i64 a,.int .i64 b]=some (.int .i64 (numC a b)):=by
 apply Gets.get;refine qkO _ _ ?_;unfold numC
 by_cases h:a<b
 ·rw[qAu h,qAw h];exact⟨_,rfl,rfl⟩
 ·rw[qAv h,qAx h,cond_false]
  by_cases h:b<a
  ·rw[qAu (show a>b from h),qAw h];exact⟨_,rfl,rfl⟩
  ·rw[qAv (show ¬a>b from h),qAx h];exact⟨_,rfl,rfl⟩
theorem qpd(a b:List UInt8):EVs (EV cfg) 273 [.str a,.str b]=some (.int .i64 (strC a b)):=by
 apply Gets.get;refine qnq _ _ ?_;unfold strC;rw[beqS]
 by_cases h:a=b
 ·subst h;rw[qdm,qAw rfl,qAu rfl];exact⟨_,rfl,rfl⟩
 ·rw[qAx h,qAv h];cases Op.bytesLess a b<;>exact⟨_,rfl,rfl⟩
theorem qpe(la lb:List Tm)(hlen:la.length<1099511627776)(ih:∀a∈la,∀b∈lb,EVs (EV cfg) 260 [a.av,b.av]=some (.int .i64 (cmpT a b))):
  EVs (EV cfg) 274 [.sl (qb la),.sl (qb lb)]=some (.int .i64 (cmpL la lb)):=by
 have stop:∀(c:Int) (i:Nat),c≠0->Gets (qed (qb la) (qb lb) c i) (·= .int .i64 c):=by
  intro c i hc;refine qcU _ _ _ _ ?_;rw[beqI,qAv hc];cases decide ((i:Int)<((qb la).length:Int))<;>exact⟨_,rfl,rfl⟩
 have loop:la.length=lb.length->∀(d i:Nat),i+d=la.length->Gets (qed (qb la) (qb lb) 0 i) (·= .int .i64 (cmpE (la.drop i) (lb.drop i))):=by
  intro hl d
  induction d with
  |zero=>
   intro i hi;refine qcU _ _ _ _ ?_;rw[qj,qAv (by omega),List.drop_eq_nil_of_le (by omega),List.drop_eq_nil_of_le (by omega),qig];exact⟨_,rfl,rfl⟩
  |succ d ihd=>
   intro i hi;have hil:i<la.length:=by omega
   have hil':i<lb.length:=by omega
   have hx:la[i]? =some la[i]:=qzS hil;have hy:lb[i]? =some lb[i]:=qzS hil';have h1:=ih _ (qz5 hx) _ (qz5 hy);refine qcU _ _ _ _ ?_;rw[qj,qj,qAu (show(i:Int)<(la.length:Int) by omega),vX,xg,xg,qAu hil,qAu hil',xG hx,List.drop_eq_getElem_cons hil,List.drop_eq_getElem_cons hil',qdL,vJ hil hlen]
   simp only[cond_true,qz7,qV,qAq,vn,qv,qaF,beqI,decide_true,xG hy,qK,h1,qc,qi]
   by_cases h0:cmpT la[i] lb[i]=0
   ·rw[h0,qAx (by omega)];exact ihd (i+1) (by omega)
   ·rw[qAw h0];exact stop _ _ h0
 apply Gets.get;refine qnr _ _ ?_;rw[qco];simp only[qc,qi,qj];unfold cmpL
 by_cases h:numC la.length lb.length=0
 ·have hl:=qlB.1 h;rw[h,qAx (by omega)]
  simpa using loop (by omega) la.length 0 (by omega)
 ·rw[qAw h];exact stop _ 0 h
theorem qmb:∀(n:Nat) (a b:Tm),a.w<=n->n<1099511627776->EVs (EV cfg) 260 [a.av,b.av]=some (.int .i64 (cmpT a b)):=by
 intro n
 induction n with
 |zero=>intro a b h;have:=qas a;omega
 |succ n ih=>
  intro a b hw hn;obtain⟨k,m,s,l⟩:=a;obtain⟨k',m',s',l'⟩:=b;rw[Tm.w_mk]at hw;have hlen:=zg l;have hl:=qpe l l' (by omega) (λx hx y _=>ih x y (by have:=qb6 hx;omega) (by omega));apply Gets.get;rw[Tm.av_mk,Tm.av_mk];refine qkP _ _ _ _ _ _ _ _ ?_;unfold zA85 zA84;rw[qqm,qco,qco,qpd,hl];simp only[qc,qi,beqI];have bne0:∀z:Int,(z != 0)= !decide (z=0):=λz=>by rw[bne,beqI]
  simp only[bne0]
  by_cases h:numC k k'=0
  ·rw[qAx (by omega),qAu h];simp only[qAj,cond_false]
   by_cases h1:k=1
   ·rw[qAw (Or.inl h1),qAu h1];exact⟨_,rfl,rfl⟩
   rw[qAv h1,cond_false]
   by_cases h3:k=3
   ·rw[qAw (Or.inr (Or.inl h3)),qAu h3];exact⟨_,rfl,rfl⟩
   rw[qAv h3,cond_false]
   by_cases h4:k=4
   ·rw[qAw (Or.inr (Or.inr (Or.inl h4))),qAu h4];exact⟨_,rfl,rfl⟩
   rw[qAv h4,cond_false]
   by_cases h6:k=6
   ·rw[qAw (Or.inr (Or.inr (Or.inr h6))),qAu h6];exact⟨_,rfl,rfl⟩
   rw[qAv h6,cond_false,qAx (by omega)]
   by_cases h2:k=2
   ·rw[qAw h2,qAu h2];exact⟨_,rfl,rfl⟩
   rw[qAv h2,cond_false,qAx h2]
   by_cases h5:k=5
   ·rw[qAw h5,qAu h5,cond_true]
    by_cases hm:numC m m'=0
    ·rw[qAx (by omega),qAu hm];exact⟨_,rfl,rfl⟩
    ·rw[qAw hm,qAv hm];exact⟨_,rfl,rfl⟩
   rw[qAv h5,cond_false,qAx h5]
   by_cases h7:k=7
   ·rw[qAw (Or.inl h7),qAu h7];exact⟨_,rfl,rfl⟩
   rw[qAv h7,cond_false]
   by_cases h9:k=9
   ·rw[qAw (Or.inr h9),qAu h9];exact⟨_,rfl,rfl⟩
   rw[qAv h9,qAx (by omega)];exact⟨_,rfl,rfl⟩
  ·rw[qAw h,qAv h];exact⟨_,rfl,rfl⟩
theorem qpb{op:List UInt8}{t:Tm}{b:Bool}(h:(op,b)∈([([105,115,95,97,116,111,109],decide (t.kind=2)),([105,115,95,105,110,116,101,103,101,114],decide (t.kind=1)),([105,115,95,108,105,115,116],decide (t.kind=9)||decide (t.kind=8)),([105,115,95,116,117,112,108,101],decide (t.kind=7)),([105,115,95,112,105,100],decide (t.kind=6)),([105,115,95,102,117,110,99,116,105,111,110],decide (t.kind=5)),([105,115,95,114,101,102,101,114,101,110,99,101],decide (t.kind=3)||decide (t.kind=4))]:List (List UInt8×Bool))):EVs (EV cfg) 258 [.str op,t.av]=some (.bool b):=by
 apply Gets.get;rw[Tm.av,Tm.cells_eq];refine qnm _ _ _ _ _ ?_;simp only[beqS,beqI];simp only[qAd,List.not_mem_nil,or_false,Prod.mk.injEq]at h;rcases h with⟨rfl,rfl⟩|⟨rfl,rfl⟩|⟨rfl,rfl⟩|⟨rfl,rfl⟩|⟨rfl,rfl⟩|⟨rfl,rfl⟩|⟨rfl,rfl⟩
 ·exact⟨_,rfl,rfl⟩
 ·exact⟨_,rfl,rfl⟩
 ·show Gets (bif decide (t.kind=9)then some (AV.bool true)else some (AV.bool (decide (t.kind=8)))) _;cases decide (t.kind=9)<;>exact⟨_,rfl,rfl⟩
 ·exact⟨_,rfl,rfl⟩
 ·exact⟨_,rfl,rfl⟩
 ·exact⟨_,rfl,rfl⟩
 ·show Gets (bif decide (t.kind=3)then some (AV.bool true)else some (AV.bool (decide (t.kind=4)))) _;cases decide (t.kind=3)<;>exact⟨_,rfl,rfl⟩
theorem qkN:∀(n:Nat) (t:Tm) (c:Nat),t.w<=n->t.chk=0->c+n<1099511627776->Gets (qix c t.kind t.num t.str (qb t.subs)) (λv=>∃m:Int,v= .tup [.int .i64 m,.bool (lenG t).isSome]∧∀x,lenG t=some x->m=(c+x:Nat)):=by
 intro n
 induction n with
 |zero=>intro t c h;have:=qas t;omega
 |succ n ih=>
  intro t c hw hc hn;refine qoI _ _ _ _ _ ?_;rw[beqI,beqI]
  by_cases h9:t.kind=9
  ·obtain⟨x,y,hs⟩:=qdk hc h9;have hwe:=t.w_eq;rw[hs]at hwe;simp only[xq,z8]at hwe;have hy:y.chk=0:=qey hc (by rw[hs];simp);have h:=ih y (c+1) (by omega) hy (by omega);rw[qAu h9,cond_true,hs,lt1T,qg5];simp only[cond_true,qc,qV,qAq,vn,qv,qaF];rw[vJ (n:=1099511627775) (by omega) (by omega),qlG h9 hs];refine Gets.mono h ?_
   rintro _ ⟨m,rfl,hm⟩;refine⟨m,by rw[Option.isSome_map],λz hz=>?_⟩;obtain⟨q,hq,rfl⟩:=qzZ.1 hz;rw[hm q hq];omega
  ·rw[qAv h9,cond_false]
   by_cases h8:t.kind=8
   ·rw[qAu h8,qnG h8];exact⟨_,rfl,c,rfl,λx hx=>by cases hx;rfl⟩
   ·rw[qAv h8,qlF h9 h8];exact⟨_,rfl,c,rfl,λx hx=>by cases hx⟩
theorem qnl{t:Tm}(hc:t.chk=0):Gets (EVs (EV cfg) 256 [t.av]) (λv=>∃m:Int,v= .tup [.int .i64 m,.bool (lenG t).isSome]∧∀x,lenG t=some x->m=x):=by
 have hw:=xO hc;rw[Tm.av,Tm.cells_eq];refine ql9 _ _ _ _ ?_;refine Gets.mono (qkN t.w t 0 (qz0 _) hc (by omega)) ?_;rintro _ ⟨m,rfl,hm⟩;exact⟨m,rfl,λx hx=>by rw[hm x hx];omega⟩
theorem zA{op:List UInt8}{t:Tm}{b:Bool}{o:Option Tm}(h:(op,b)∈([([105,115,95,97,116,111,109],decide (t.kind=2)),([105,115,95,105,110,116,101,103,101,114],decide (t.kind=1)),([105,115,95,108,105,115,116],decide (t.kind=9)||decide (t.kind=8)),([105,115,95,116,117,112,108,101],decide (t.kind=7)),([105,115,95,112,105,100],decide (t.kind=6)),([105,115,95,102,117,110,99,116,105,111,110],decide (t.kind=5)),([105,115,95,114,101,102,101,114,101,110,99,101],decide (t.kind=3)||decide (t.kind=4))]:List (List UInt8×Bool)))(ho:o=some (vt b)):
  Gets (kOpt (EVs (EV cfg) 258 [.str op,t.av]) fun(v:AV)=>qq v fun(b:Bool)=>kOpt (EVf (EV cfg) 255 [.bool b]) fun(v:AV)=>kTmV v fun(n n_1:Int) (s:List UInt8) (rows:List (List AV))=>(some (AV.tup [.agg [.int .i64 n,.int .i64 n_1,.str s,.sl rows],.bool true]))) (RB o):=by
 rw[qpb h,ho];simp only[qc,qg,qbS,ve,qK];exact⟨_,rfl,RB.of⟩
theorem qfG{n:Int}{o:Option Tm}(ho:o=qL n):Gets (kOpt (EVf (EV cfg) 257 [.int .i64 n]) fun(v:AV)=>kTup v fun(cs:List AV)=>qa cs fun(c:AV) (cs:List AV)=>kAgg c fun(cs_1:List AV)=>qa cs_1 fun(c:AV) (cs_2:List AV)=>kInt .i64 c fun(n:Int)=>qa cs_2 fun(c:AV) (cs_3:List AV)=>kInt .i64 c fun(n_1:Int)=>qa cs_3 fun(c:AV) (cs_4:List AV)=>kStr c fun(s:List UInt8)=>qa cs_4 fun(c:AV) (cs_5:List AV)=>kSl c fun(rows:List (List AV))=>kNil cs_5 (qa cs fun(c:AV) (cs:List AV)=>qq c fun(b:Bool)=>kNil cs (some (AV.tup [.agg [.int .i64 n,.int .i64 n_1,.str s,.sl rows],.bool b])))) (RB o):=by
 subst ho;refine Gets.mono (xu n) ?_;rintro _ rfl;exact RB.of
theorem qs4{op:List UInt8}(ho:(1:Int)∈opsG op){t:Tm}(hc:t.chk=0):Gets (EVf (EV cfg) 232 [.str op,t.av]) (RB (oneG op t)):=by
 have hl:=qnl hc;have hn:=qg1 hc;have hs:=qbD hc;have hwithin:∀n:Nat,n<=4259840->qL (n:Int)=some (numT n):=λn h=>by
  unfold qL;rw[qAw (show InB (n:Int)from⟨by omega,by omega⟩)]
 have w1:qzQ .i64 (0 - t.num)= -t.num:=by rw[qS (by omega) (by omega)];omega
 have w2:qzQ .i64 (-1 - t.num)= -1 - t.num:=qS (by omega) (by omega);have raise:Gets (some (tbR none)) (RB none):=⟨_,rfl,RB.of⟩;rw[Tm.av,Tm.cells_eq]at hl⊢;refine qrd _ _ _ _ _ ?_;unfold zA52 zA53 zA54 zA44 zA45 zA47 zA49 zA50 zA51 zA48 zA46 zA43 zA38 zA39 zA40 zA41 zA42 zA2 zA3 zA4 zA5 zA6 zA7 zA8 zA9 zA10 zA11 zA12 zA13 zA14 zA15 zA16 zA17 zA0;rw[←vr,qgN,w1,w2,qj]
 simp only[qK,beqS,beqI];rw[qK]at hl;have bnd:∀z:Int,(z != 0)= !decide (z=0):=λz=>by rw[bne,beqI]
 have b9:(t.kind != 9)= !decide (t.kind=9):=by rw[bne,beqI]
 have b1:(t.kind != 1)= !decide (t.kind=1):=by rw[bne,beqI]
 rw[b9,b1];have size:Gets (some (AV.tup [.agg [.int .i64 1,.int .i64 (t.subs.length:Int),.str [],.sl []],.bool (decide (t.kind=7))])) (RB (if t.kind=7 then qL t.subs.length else none)):=by
  rw[←qg2,hwithin _ (by omega)]
  by_cases h7:t.kind=7
  ·rw[qAw h7,qAu h7];exact⟨_,rfl,_,rfl,λx hx=>by cases hx;rfl⟩
  ·rw[qAx h7,qAv h7];exact⟨_,rfl,_,rfl,λx hx=>by cases hx⟩
 have hop:=qxd ho;simp only[qAd,List.not_mem_nil,or_false]at hop;rcases hop with rfl|rfl|rfl|rfl|rfl|rfl|rfl|rfl|rfl|rfl|rfl|rfl|rfl|rfl|rfl|rfl|rfl
 ·exact zA (b:=decide (t.kind=2)) (by simp) rfl
 ·exact zA (b:=decide (t.kind=1)) (by simp) rfl
 ·exact zA (b:=decide (t.kind=9)||decide (t.kind=8)) (by simp) rfl
 ·exact zA (b:=decide (t.kind=7)) (by simp) rfl
 ·exact zA (b:=decide (t.kind=6)) (by simp) rfl
 ·exact zA (b:=decide (t.kind=5)) (by simp) rfl
 ·exact zA (b:=decide (t.kind=3)||decide (t.kind=4)) (by simp) rfl
 ·show Gets (kOpt (EVs (EV cfg) 254 [t.av]) _) (RB ((vC t).map λb=>vt (!b)));rw[qc6];simp only[qc,kTup,qa,qg,kNil,qbS,ve,qK];refine⟨_,rfl,_,by rw[Option.isSome_map],λx hx=>?_⟩;obtain⟨b,hb,rfl⟩:=qzZ.1 hx;rw[hb];rfl
 ·show Gets (bif !decide (t.kind=1)then some (tbR none)else kOpt (EVf (EV cfg) 257 [.int .i64 (-1 - t.num)]) fun(v:AV)=>kTup v fun(cs:List AV)=>qa cs fun(c:AV) (cs:List AV)=>kAgg c fun(cs_1:List AV)=>qa cs_1 fun(c:AV) (cs_2:List AV)=>kInt .i64 c fun(n:Int)=>qa cs_2 fun(c:AV) (cs_3:List AV)=>kInt .i64 c fun(n_1:Int)=>qa cs_3 fun(c:AV) (cs_4:List AV)=>kStr c fun(s:List UInt8)=>qa cs_4 fun(c:AV) (cs_5:List AV)=>kSl c fun(rows:List (List AV))=>kNil cs_5 (qa cs fun(c:AV) (cs:List AV)=>qq c fun(b:Bool)=>kNil cs (some (AV.tup [.agg [.int .i64 n,.int .i64 n_1,.str s,.sl rows],.bool b])))) (RB (if t.kind=1 then qL (-1 - t.num)else none))
  by_cases h:t.kind=1
  ·rw[qAu h,qAw h];exact qfG rfl
  ·rw[qAv h,qAx h];exact raise
 ·show Gets (bif !decide (t.kind=1)then some (tbR none)else bif decide (t.num<0)then kOpt (EVf (EV cfg) 257 [.int .i64 (-t.num)]) fun(v:AV)=>kTup v fun(cs:List AV)=>qa cs fun(c:AV) (cs:List AV)=>kAgg c fun(cs_1:List AV)=>qa cs_1 fun(c:AV) (cs_2:List AV)=>kInt .i64 c fun(n:Int)=>qa cs_2 fun(c:AV) (cs_3:List AV)=>kInt .i64 c fun(n_1:Int)=>qa cs_3 fun(c:AV) (cs_4:List AV)=>kStr c fun(s:List UInt8)=>qa cs_4 fun(c:AV) (cs_5:List AV)=>kSl c fun(rows:List (List AV))=>kNil cs_5 (qa cs fun(c:AV) (cs:List AV)=>qq c fun(b:Bool)=>kNil cs (some (AV.tup [.agg [.int .i64 n,.int .i64 n_1,.str s,.sl rows],.bool b])))else some (AV.tup [t.av,.bool true])) (RB (if t.kind=1 then qL (if t.num<0 then -t.num else t.num)else none))
  by_cases h:t.kind=1
  ·obtain⟨hi,he⟩:=qqg hc h;rw[qAu h,qAw h]
   by_cases hz:t.num<0
   ·rw[qAu hz,qAw hz];exact qfG rfl
   ·rw[qAv hz,qAx hz];unfold qL;rw[qAw hi];exact⟨_,rfl,_,rfl,λx hx=>by cases hx;exact he⟩
  ·rw[qAv h,qAx h];exact raise
 ·exact size
 ·exact size
 ·show Gets (bif !decide (t.kind=9)then some (tbR none)else bif qu 0 (t.subs.length:Int)then kOpt (qzU (qb t.subs) 0) _ else none) (RB (if t.kind=9 then t.subs[0]? else none))
  by_cases h:t.kind=9
  ·obtain⟨x,y,hs⟩:=qdk hc h;rw[qAu h,qAw h,←qj t.subs,hs,lt0T,qfd];simp only[qAj,cond_true,cond_false,qc,qV,qAq,vn,qv,qaF,qK];exact⟨_,rfl,_,rfl,λx hx=>by cases hx;rfl⟩
  ·rw[qAv h,qAx h];exact raise
 ·show Gets (bif !decide (t.kind=9)then some (tbR none)else bif qu 1 (t.subs.length:Int)then kOpt (qzU (qb t.subs) 1) _ else none) (RB (if t.kind=9 then t.subs[1]? else none))
  by_cases h:t.kind=9
  ·obtain⟨x,y,hs⟩:=qdk hc h;rw[qAu h,qAw h,←qj t.subs,hs,lt1T,qg5];simp only[qAj,cond_true,cond_false,qc,qV,qAq,vn,qv,qaF,qK];exact⟨_,rfl,_,rfl,λx hx=>by cases hx;rfl⟩
  ·rw[qAv h,qAx h];exact raise
 ·show Gets (kOpt (EVs (EV cfg) 256 [t.av]) _) (RB ((lenG t).bind λn=>qL n));refine Gets.bind hl ?_;rintro _ ⟨m,rfl,hm⟩;simp only[kTup,qa,qi,qg,kNil];rw[←qg2];cases hg:lenG t with
  |none=>exact⟨_,rfl,_,rfl,λx hx=>by cases hx⟩
  |some x=>
   have hx:=qxn hg;have hw:=xO hc;rw[qz3,hwithin x (by omega),hm x hg];exact⟨_,rfl,_,rfl,λx hx=>by cases hx;rfl⟩
 ·show Gets (bif !decide (t.kind=1)then some (tbR none)else some (AV.tup [t.av,.bool true])) (RB (if t.kind=1 then qL t.num else none))
  by_cases h:t.kind=1
  ·obtain⟨hi,he⟩:=qqg hc h;unfold qL;rw[qAu h,qAw h,qAw hi];exact⟨_,rfl,_,rfl,λx hx=>by cases hx;exact he⟩
  ·rw[qAv h,qAx h];exact raise
 ·show Gets (bif !decide (t.kind=1)then some (tbR none)else kOpt (EVf (EV cfg) 257 [.int .i64 (-t.num)]) fun(v:AV)=>kTup v fun(cs:List AV)=>qa cs fun(c:AV) (cs:List AV)=>kAgg c fun(cs_1:List AV)=>qa cs_1 fun(c:AV) (cs_2:List AV)=>kInt .i64 c fun(n:Int)=>qa cs_2 fun(c:AV) (cs_3:List AV)=>kInt .i64 c fun(n_1:Int)=>qa cs_3 fun(c:AV) (cs_4:List AV)=>kStr c fun(s:List UInt8)=>qa cs_4 fun(c:AV) (cs_5:List AV)=>kSl c fun(rows:List (List AV))=>kNil cs_5 (qa cs fun(c:AV) (cs:List AV)=>qq c fun(b:Bool)=>kNil cs (some (AV.tup [.agg [.int .i64 n,.int .i64 n_1,.str s,.sl rows],.bool b])))) (RB (if t.kind=1 then qL (-t.num)else none))
  by_cases h:t.kind=1
  ·rw[qAu h,qAw h];exact qfG rfl
  ·rw[qAv h,qAx h];exact raise
theorem qaM(op:List UInt8)(a b:Bool):EVs (EV cfg) 261 [.str op,.bool a,.bool b]=some (.bool (
  if op=[97,110,100]then a&&b else if op=[97,110,100,97,108,115,111]then a&&b else if op=[111,114]then a||b else if op=[111,114,101,108,115,101]then a||b else a != b)):=by
 apply Gets.get;refine qnn _ _ _ ?_;simp only[beqS]
 repeat' first
  |exact⟨_,rfl,rfl⟩
  |(split<;>rename_i h<;>simp only[h,decide_true,cond_true,decide_false,cond_false])
 all_goals cases a<;>cases b<;>exact⟨_,rfl,rfl⟩
theorem zu{op:List UInt8}{a b:Tm}{c:Bool}{o:Option Tm}(wa:a.w<1099511627776)(hb:EVs (EV cfg) 259 [.str op,.int .i64 (cmpT a b)]=some (.bool c))(ho:o=some (vt c)):
  Gets (kOpt (EVs (EV cfg) 260 [a.av,b.av]) fun(v:AV)=>kInt .i64 v fun(n:Int)=>kOpt (EVs (EV cfg) 259 [.str op,.int .i64 n]) fun(v:AV)=>qq v fun(b:Bool)=>kOpt (EVf (EV cfg) 255 [.bool b]) fun(v:AV)=>kTmV v fun(n n_1:Int) (s:List UInt8) (rows:List (List AV))=>(some (AV.tup [.agg [.int .i64 n,.int .i64 n_1,.str s,.sl rows],.bool true]))) (RB o):=by
 rw[qmb a.w a b (qz0 _) wa,ho];simp only[qc,qi,hb,qg,qbS,ve,qK];exact⟨_,rfl,RB.of⟩
theorem qbA{op:List UInt8}{a b:Tm}{f:Bool->Bool->Bool}{o:Option Tm}(hf:∀x y,EVs (EV cfg) 261 [.str op,.bool x,.bool y]=some (.bool (f x y)))(ho:o=(vC a).bind λx=>(vC b).map λy=>vt (f x y)):
  Gets (kOpt (EVs (EV cfg) 254 [a.av]) fun(v:AV)=>kTup v fun(cs:List AV)=>qa cs fun(c:AV) (cs:List AV)=>qq c fun(b_0:Bool)=>qa cs fun(c:AV) (cs:List AV)=>qq c fun(b_1:Bool)=>kNil cs (kOpt (EVs (EV cfg) 254 [b.av]) fun(v:AV)=>kTup v fun(cs:List AV)=>qa cs fun(c:AV) (cs:List AV)=>qq c fun(b_2:Bool)=>qa cs fun(c:AV) (cs:List AV)=>qq c fun(b_3:Bool)=>kNil cs (kOpt (EVs (EV cfg) 261 [.str op,.bool b_0,.bool b_2]) fun(v:AV)=>qq v fun(b:Bool)=>kOpt (EVf (EV cfg) 255 [.bool b]) fun(v:AV)=>kTmV v fun(n n_1:Int) (s:List UInt8) (rows:List (List AV))=>(bif b_1 then some (AV.tup [.agg [.int .i64 n,.int .i64 n_1,.str s,.sl rows],.bool b_3])else some (AV.tup [.agg [.int .i64 n,.int .i64 n_1,.str s,.sl rows],.bool false]))))) (RB o):=by
 rw[qc6,qc6,ho];simp only[qc,kTup,qa,qg,kNil,hf,qbS,ve,qK];cases vC a with
 |none=>exact⟨_,rfl,_,rfl,λx hx=>by cases hx⟩
 |some x=>
  cases vC b with
  |none=>exact⟨_,rfl,_,rfl,λx hx=>by cases hx⟩
  |some y=>exact⟨_,rfl,_,rfl,λx hx=>by cases hx;rfl⟩
theorem zs{op:List UInt8}{a b:Tm}{o:Option Tm}(ha:a.chk=0)(hb:b.chk=0)(h:op∈([[43],[45],[42],[98,97,110,100],[98,111,114],[98,120,111,114],[100,105,118],[114,101,109]]:List (List UInt8)))(ho:o=if a.kind=1∧b.kind=1 then xW op a.num b.num else none):
  Gets (bif !decide (a.kind=1)then some (tbR none)else bif !decide (b.kind=1)then some (tbR none)else kOpt (EVf (EV cfg) 262 [.str op,.int .i64 a.num,.int .i64 b.num]) fun(v:AV)=>kTup v fun(cs:List AV)=>qa cs fun(c:AV) (cs:List AV)=>kAgg c fun(cs_1:List AV)=>qa cs_1 fun(c:AV) (cs_2:List AV)=>kInt .i64 c fun(n:Int)=>qa cs_2 fun(c:AV) (cs_3:List AV)=>kInt .i64 c fun(n_1:Int)=>qa cs_3 fun(c:AV) (cs_4:List AV)=>kStr c fun(s:List UInt8)=>qa cs_4 fun(c:AV) (cs_5:List AV)=>kSl c fun(rows:List (List AV))=>kNil cs_5 (qa cs fun(c:AV) (cs:List AV)=>qq c fun(b:Bool)=>kNil cs (some (AV.tup [.agg [.int .i64 n,.int .i64 n_1,.str s,.sl rows],.bool b])))) (RB o):=by
 subst ho
 by_cases ka:a.kind=1
 ·by_cases kb:b.kind=1
  ·rw[qAu ka,qAu kb,qAw ⟨ka,kb⟩,ql8 h (qg4 ha ka) (qg4 hb kb)];simp only[qAj,cond_false,qc,qiT,kTB,qK];exact⟨_,rfl,RB.of⟩
  ·rw[qAu ka,qAv kb,qAx (λe=>kb e.2)];exact⟨_,rfl,RB.of⟩
 ·rw[qAv ka,qAx (λe=>ka e.1)];exact⟨_,rfl,RB.of⟩
theorem qs2{op:List UInt8}(hop:(2:Int)∈opsG op){a b:Tm}(ha:a.chk=0)(hb:b.chk=0):Gets (EVf (EV cfg) 233 [.str op,a.av,b.av]) (RB (twoG op a b)):=by
 have wa:a.w<1099511627776:=by have:=xO ha;omega
 have na:=qg1 ha;have sb:=qbD hb;rw[Tm.av,Tm.av,Tm.cells_eq a,Tm.cells_eq b];refine qrb _ _ _ _ _ _ _ _ _ ?_;unfold zA64 zA65 zA66 zA67 zA68 zA69 zA70 zA71 zA72 zA73 zA74 zA75 zA76 zA77 zA78 zA79 zA80 zA81 zA82 zA61 zA62 zA63 zA52 zA53 zA54 zA39 zA40 zA41 zA42 zA2 zA3 zA4 zA5 zA6 zA7 zA8 zA9 zA10 zA11 zA12 zA13 zA14 zA15 zA16 zA17 zA0;have b1:(a.kind != 1)= !decide (a.kind=1):=by rw[bne,beqI]
 have b2:(b.kind != 1)= !decide (b.kind=1):=by rw[bne,beqI]
 have b7:(b.kind != 7)= !decide (b.kind=7):=by rw[bne,beqI]
 have w1:qzQ .i64 (a.num - 1)=a.num - 1:=qS (by omega) (by omega);rw[←vr,qgN,b1,b2,b7,w1,qj];simp only[qK,beqS];have h:=qxc hop;simp only[qAd,List.not_mem_nil,or_false]at h;rcases h with rfl|rfl|rfl|rfl|rfl|rfl|rfl|rfl|rfl|rfl|rfl|rfl|rfl|rfl|rfl|rfl|rfl|rfl|rfl|rfl|rfl|rfl
 ·exact zs ha hb (by simp) rfl
 ·exact zs ha hb (by simp) rfl
 ·exact zu (c:=decide (cmpT a b=0)) wa (xA _ _) rfl
 ·exact zu (c:=decide (cmpT a b=0)) wa (xA _ _) rfl
 ·exact zu (c:= !decide (cmpT a b=0)) wa (xA _ _) rfl
 ·exact zu (c:= !decide (cmpT a b=0)) wa (xA _ _) rfl
 ·exact zu (c:=decide (cmpT a b<0)) wa (xA _ _) rfl
 ·exact zu (c:=decide (cmpT a b<=0)) wa (xA _ _) rfl
 ·exact zu (c:=decide (cmpT a b>0)) wa (xA _ _) rfl
 ·exact zu (c:=decide (cmpT a b≥0)) wa (xA _ _) rfl
 ·exact qbA (f:=λx y=>x&&y) (λx y=>qaM _ _ _) rfl
 ·exact qbA (f:=λx y=>x||y) (λx y=>qaM _ _ _) rfl
 ·exact qbA (f:=λx y=>x != y) (λx y=>qaM _ _ _) rfl
 ·exact qbA (f:=λx y=>x&&y) (λx y=>qaM _ _ _) rfl
 ·exact qbA (f:=λx y=>x||y) (λx y=>qaM _ _ _) rfl
 ·exact zs ha hb (by simp) rfl
 ·exact zs ha hb (by simp) rfl
 ·exact zs ha hb (by simp) rfl
 ·exact zs ha hb (by simp) rfl
 ·exact zs ha hb (by simp) rfl
 ·exact zs ha hb (by simp) rfl
 ·show Gets (bif !decide (a.kind=1)then some (tbR none)else bif !decide (b.kind=7)then some (tbR none)else bif decide (a.num<1)then some (tbR none)else bif decide (a.num>(b.subs.length:Int))then some (tbR none)else bif qe 0 (a.num - 1)&&qu (a.num - 1) (b.subs.length:Int)then kOpt (qzU (qb b.subs) (qzV (a.num - 1))) _ else none) (RB (if a.kind=1∧1<=a.num∧b.kind=7∧a.num<=b.subs.length then b.subs[(a.num - 1).toNat]? else none))
  by_cases k1:a.kind=1
  ·by_cases k7:b.kind=7
   ·by_cases l1:a.num<1
    ·rw[qAu k1,qAu k7,qAu l1,qAx (λe=>by omega)];exact⟨_,rfl,RB.of⟩
    ·by_cases l2:a.num>(b.subs.length:Int)
     ·rw[qAu k1,qAu k7,qAv l1,qAu l2,qAx (λe=>by omega)];exact⟨_,rfl,RB.of⟩
     ·have hi:(a.num - 1).toNat<b.subs.length:=by omega
      have hx:b.subs[(a.num - 1).toNat]? =some b.subs[(a.num - 1).toNat]:=qzS hi;have e1:qe 0 (a.num - 1)=true:=qAu (by omega);have e2:qu (a.num - 1) (b.subs.length:Int)=true:=qAu (by omega);rw[qAu k1,qAu k7,qAv l1,qAv l2,qAw ⟨k1,by omega,k7,by omega⟩,e1,e2,hx,q9,yG,hx];simp only[qAj,cond_false,cond_true,qz7,qAe,qc,qV,qAq,vn,qv,qaF,qK]
      exact⟨_,rfl,RB.of⟩
   ·rw[qAu k1,qAv k7,qAx (λe=>k7 e.2.2.1)];exact⟨_,rfl,RB.of⟩
  ·rw[qAv k1,qAx (λe=>k1 e.1)];exact⟨_,rfl,RB.of⟩
theorem qqa{o:Option Tm}{v:AV}(h:RB o v):Gets (kTup v fun(cs:List AV)=>qa cs fun(c:AV) (cs:List AV)=>kAgg c fun(cs_1:List AV)=>qa cs_1 fun(c:AV) (cs_2:List AV)=>kInt .i64 c fun(n:Int)=>qa cs_2 fun(c:AV) (cs_3:List AV)=>kInt .i64 c fun(n_2:Int)=>qa cs_3 fun(c:AV) (cs_4:List AV)=>kStr c fun(s:List UInt8)=>qa cs_4 fun(c:AV) (cs_5:List AV)=>kSl c fun(rows:List (List AV))=>kNil cs_5 (qa cs fun(c:AV) (cs:List AV)=>qq c fun(b:Bool)=>kNil cs (bif !b then some (AV.tup [vh.av,.bool false])else some (AV.tup [.agg [.int .i64 n,.int .i64 n_2,.str s,.sl rows],.bool true])))) (·=tbR o):=by
 obtain⟨t,rfl,h⟩:=h;rw[kTB,qK];cases o with
 |none=>exact⟨_,rfl,rfl⟩
 |some x=>rw[h x rfl];exact⟨_,rfl,rfl⟩
theorem qpc{op:List UInt8}{l:List Tm}(hop:(l.length:Int)∈opsG op)(hl:∀x∈l,x.chk=0)(hlen:l.length<=2)(self:Int):
  EVf (EV cfg) 207 [.str op,.sl (qb l),.int .i64 self]=some (tbR (zo op l self)):=by
 apply Gets.get;refine qma _ _ _ ?_;unfold zA83 zA51 zA0;rw[←vr]
 match l,hop,hl,hlen with
 |[],_,_,_=>
  refine⟨_,rfl,?_⟩;show _=AV.tup [(Tm.mk 6 self [] []).av,.bool true];rw[Tm.av_mk,q6]
 |[a],hop,hl,_=>
  have h1:=qs4 hop (hl a (by simp));rw[lt0T,qfd,qj];simp only[List.length_cons,List.length_nil,beqI,show decide (((0+1:Nat):Int)=1)=true from rfl,cond_true,qc,qV,qAq,vn,qv,qaF,qK];exact Gets.bind h1 λv h=>qqa h
 |[a,b],hop,hl,_=>
  have h1:=qs2 hop (hl a (by simp)) (hl b (by simp));rw[lt0T,qfd,lt1T,qg5,qj];simp only[List.length_cons,List.length_nil,beqI,show decide (((0+1+1:Nat):Int)=1)=false from rfl,show decide (((0+1+1:Nat):Int)=2)=true from rfl,cond_true,cond_false,qc,qV,qAq,vn,qv,qaF,qK];exact Gets.bind h1 λv h=>qqa h
 |_::_::_::_,_,_,h=>simp at h
theorem qi8(n:Int):EVs (EV cfg) 48 [.int .i64 n]=some (.bool (qau n)):=by
 apply Gets.get;refine qpa _ ?_;unfold qau
 by_cases h:1<=n
 ·rw[qAu (show n≥1 from h)];exact⟨_,rfl,rfl⟩
 ·rw[qAv (show ¬n≥1 from h)];exact⟨_,rfl,rfl⟩
theorem qs5(op:List UInt8)(n:Int):EVs (EV cfg) 179 [.str op,.int .i64 n]=some (.bool (decide (n∈opsG op))):=by
 have hl:=qnz op;have loop:∀d i:Nat,i+d=(opsG op).length->Gets (qiA n (yP (opsG op)) i) (·= .bool (decide (n∈(opsG op).drop i))):=by
  generalize opsG op=l at hl;intro d
  induction d with
  |zero=>
   intro i hi;refine qhh _ _ _ ?_;rw[qdI,qAv (by omega),List.drop_eq_nil_of_le (by omega)];exact⟨_,rfl,by simp⟩
  |succ d ih=>
   intro i hi;have hil:i<l.length:=by omega
   refine qhh _ _ _ ?_;have hx:l[i]? =some l[i]:=qzS hil;have hd:l.drop i=l[i]::l.drop (i+1):=List.drop_eq_getElem_cons hil;have h:=ih (i+1) (by omega);rw[qdI,qAu (show(i:Int)<(l.length:Int) by omega),vX,xg,qAu hil,q9,qAk,qlM,hx,vJ hil hl,hd]
   by_cases he:l[i]=n
   ·refine⟨.bool true,?_,?_⟩
    ·simp[he]
    ·rw[he];simp
   ·have hne:(l[i]==n)=false:=by rw[beqI];exact qAv he
    have hm:decide (n∈l[i]::l.drop (i+1))=decide (n∈l.drop (i+1)):=decide_eq_decide.2 (by rw[qAd];exact⟨λh=>h.resolve_left (λe=>he e.symm),Or.inr⟩);rw[hm]
    simpa [hne]using h
 apply Gets.get;refine qre _ _ ?_;rw[qs3];exact(by simpa using loop (opsG op).length 0 (by omega))
end Go.Proofs.YtafdkafbgohigaaGreat
end
noncomputable section
namespace Go.Av
def qck(op:List UInt8)(l:List Tm)(self:Int):Tm×Int:=
 if((l.length:Int)∈opsG op∧qau self=true)∧∀x∈l,x.chk=0 then(match zo op l self with|some t=>(t,0)|none=>(vh,10))else(vh,2)
theorem bne0(z:Int):(z != 0)= !decide (z=0):=by rw[bne,beqI]
end Go.Av
namespace Go.Proofs.YtafdkafbgohigaaGreat
open Go.Av
theorem qnp{op:List UInt8}{l:List Tm}(hl:∀x∈l,x.w<1099511627776)(hlen:l.length<1099511627776)(self:Int):
  EVf (EV cfg) 165 [.str op,.sl (qb l),.int .i64 self]=some (qj7 (qck op l self)):=by
 apply Gets.get;refine qno _ _ _ ?_;rw[qj,qs5,qi8,←vr];simp only[qc,qg];unfold qck qj7
 by_cases hop:(l.length:Int)∈opsG op
 case neg=>
  rw[qAv hop,qAx (λh=>hop h.1.1)];exact⟨_,rfl,rfl⟩
 rw[qAu hop];cases hs:qau self with
 |false=>rw[qAx (by rintro⟨⟨_,h⟩,_⟩;cases h)];exact⟨_,rfl,rfl⟩
 |true=>
 have h2:=qeZ op hop;have loop:∀(d i:Nat),i+d=l.length->(∀(j:Nat) x,j<i->l[j]? =some x->x.chk=0)->Gets (qiz op (qb l) self i 0 0 [] []) (·=qj7 (if ∀x∈l,x.chk=0 then(match zo op l self with|some t=>(t,0)|none=>(vh,10))else(vh,2))):=by
  intro d
  induction d with
  |zero=>
   intro i hi ha;refine qhg _ _ _ _ _ _ _ _ ?_;have hall:∀x∈l,x.chk=0:=λx hx=>by
    obtain⟨j,hj,rfl⟩:=List.mem_iff_getElem.1 hx;exact ha j _ (by omega) (qzS hj)
   rw[qj,qAv (by omega),qpc hop hall h2,qAw hall,←vr];simp only[qc,cond_false,qiT,kTB,qK];cases hap:zo op l self with
   |none=>exact⟨_,rfl,rfl⟩
   |some z=>
    simp only[Option.isSome_some,qAj,cond_false,Option.getD_some,qjc z (qfn hall h2 hap),qc,ve,qK];exact⟨_,rfl,rfl⟩
  |succ d ih=>
   intro i hi ha;refine qhg _ _ _ _ _ _ _ _ ?_;have hil:i<l.length:=by omega
   have hx:l[i]? =some l[i]:=qzS hil;have hc:=zS (hl l[i] (qz5 hx));rw[qj,qAu (show(i:Int)<(l.length:Int) by omega),vX,xg,qAu hil,xG hx,vJ hil hlen,←vr];simp only[cond_true,qz7,qV,qAq,vn,qv,qaF,qK,hc,qc,qi,bne0]
   by_cases h0:l[i].chk=0
   ·rw[qAu h0];refine ih (i+1) (by omega) (λj x hj hjx=>?_)
    by_cases e:j=i
    ·subst e;rw[hx]at hjx;cases hjx;exact h0
    ·exact ha j x (by omega) hjx
   ·rw[qAv h0,qAx (λh=>h0 (h _ (qz5 hx)))];exact⟨_,rfl,rfl⟩
 have h:=loop l.length 0 (by omega) (λj x hj=>by omega);refine h.mono λr hr=>?_
 rw[hr];unfold qj7
 by_cases hall:∀x∈l,x.chk=0
 ·rw[qAw hall,qAw ⟨⟨hop,rfl⟩,hall⟩]
 ·rw[qAx hall,qAx (λh=>hall h.2)]
end Go.Proofs.YtafdkafbgohigaaGreat
end
