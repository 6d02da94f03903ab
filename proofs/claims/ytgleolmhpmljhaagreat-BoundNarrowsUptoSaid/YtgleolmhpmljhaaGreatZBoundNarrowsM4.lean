/-
  Parts of the proof of BoundNarrowsUptoSaid, put together: the abstract evaluation and its contracts. Own work.
  What is proved: each lemma as it stands; no condition.
-/
import Derived.Test.YtgleolmhpmljhaaGreatZBoundNarrowsM3
open Go.IntKind renaming wrap → qBZ
open List renaming get?Internal → qB0, length → qB1, getElem?_eq_getElem → qB3, getElem?_eq_some_iff → qB5, take → qB8, mem_of_getElem? → qCc, take_of_length_le → qCd, getElem?_append_left → qCf, drop → qCk, getElem?_set → qCn, getElem?_append_right → qCo, drop_eq_getElem_cons → qCp, length_append → qCq, replicate → qCr, drop_eq_nil_of_le → qCs, append → qCu, mem_append → qCy, set → qCA, mem_cons → qCB, getElem?_cons_zero → qCC, length_take → qCD, length_cons → qCE, length_map → qCH, range → qCJ
open Bool renaming and_eq_true → qB2, false_eq_true → qCg, not_true → qCj, not_false → qCm, and_self → qCx, true_and → qCF, or_eq_true → qCI
open Nat renaming ble → qB4, eq_of_beq_eq_true → qB9, le_refl → qCa, beq → qCh, mul_le_mul_right → qCv, beq_refl → qCw, ble_eq → qCz, zero_add → qCG
open Option renaming bind_eq_some_iff → qB6, map_eq_some_iff → qCb, bind_some → qCe, map_some → qCt
open Int renaming toNat → qB7, toNat_natCast → qCi
open Array renaming toList → qCl
set_option maxRecDepth 1000000
set_option maxHeartbeats 0
noncomputable section
namespace Go.Proofs.YtgleolmhpmljhaaGreat
open Go.Av
def qAB:Den:=evC cfg (EV cfg) 19 none 0 (sub (qc Tryz.f19) [1,0,1,0,0])
def qBa:Ex×List AV×AH->Option AV:=kAft (Cfg.keepOut cfg 19 2) (kRun cfg (EV cfg) (kfN cfg 6) 19 none 0 (xS cfg (Cfg.lift cfg 19 0) Tryz.f19.results.toList) ([.block 0,.seq (sub (qc Tryz.f19) [1,1])]))
def qAd:List AV×AH->Option AV:=λp=>kOpt (LOOP 0 (some [0,1,7,8]) ([]) qAB p) qBa
abbrev qjk(L V:Rz)(v8:Int):Option (AV):=qAd (((fx 19 [(0,.sl L),(1,.fn (Fn.func 173) [] [.cptr [.sl V] 0]),(7,.int .i64 (L.length:Int)),(8,.int .i64 v8)]):List AV),([]:AH))
theorem qpc(L V:Rz){P:AV->Prop}(h:Gets (kOpt (EVs (EV cfg) 19 [.sl L,AV.fn (Fn.func 173) [] [AV.cptr [.sl V] 0]]) λv=>kInt .i64 v λn=>some (.bool (decide (n≥0)))) P):Gets (EVs (EV cfg) 46 [.sl L,.fn (Fn.func 173) [] [.cptr [.sl V] 0]]) P:=
  gE (λ_=>funS rfl rfl Tryz.func46 rfl) (by kernel_rfl) h
theorem qqv(L V:Rz){P:AV->Prop}(h:Gets (qjk L V 0) P):Gets (EVs (EV cfg) 19 [.sl L,.fn (Fn.func 173) [] [.cptr [.sl V] 0]]) P:=
  gE (λ_=>funS rfl rfl Tryz.func19 rfl) (by kernel_rfl) h
theorem qvj(ke ne:Int)(se:Bz)(le V:Rz){P:AV->Prop}(h:Gets (kOpt (EVs (EV cfg) 145 [.agg [.int .i64 ke,.int .i64 ne,.str se,.sl le],.sl V]) λv=>qr v λb=>some (.bool ! b)) P):Gets (EVs (EV cfg) 173 [.agg [.int .i64 ke,.int .i64 ne,.str se,.sl le],.cptr [.sl V] 0]) P:=
  gE (λ_=>funS rfl rfl Tryz.func173 rfl) (by kernel_rfl) h
theorem qhS(L V:Rz)(v8:Int){P:AV->Prop}(h:Gets (bif decide (v8<(L.length:Int))then bif qd 0 v8&&qe v8 (L.length:Int)then kOpt (qB0 L (v8.toNat)) λrow=>bif qCh (qB1 row) 4 then bif qB4 4 (qB1 row)then kTmC (qB8 4 row) λn n_1 s rows=>(kOpt (EVs (EV cfg) 173 [.agg [.int .i64 n,.int .i64 n_1,.str s,.sl rows],AV.cptr [.sl V] 0]) λv=>qr v λb=>bif b then some (.int .i64 v8)else qjk L V (qBZ .i64 (v8+1)))else none else none else none else some (.int .i64 (- 1))) P):Gets (qjk L V v8) P:=
  gE (λ_=>ql (cfg:=cfg) (f:=19) (rd:=none) (bs:=0)) (by kernel_rfl) h
def qAO:Den:=evC cfg (EV cfg) 55 none 0 (sub (qc Tryz.f55) [1,1,1,0,1,0,0])
def qBn:Ex×List AV×AH->Option AV:=kAft (Cfg.keepOut cfg 55 5) (kRun cfg (EV cfg) (kfN cfg 6) 55 none 0 (xS cfg (Cfg.lift cfg 55 0) Tryz.f55.results.toList) ([.block 0,.seq (sub (qc Tryz.f55) [1,1,1,1])]))
def qAp:List AV×AH->Option AV:=λp=>kOpt (LOOP 0 (some [4,32,33,34]) ([]) qAO p) qBn
abbrev qcE(s:Bz)(v4 v34:Int)(h0:Rz):Option (AV):=qAp (((fx 52 [(4,.int .i64 v4),(32,.ms 0 0 (qB1 (qB8 (qB1 s - 1) (qCk 1 s)))),(33,.int .i64 (↑(qB1 (qB8 (qB1 s - 1) (qCk 1 s))):Int)),(34,.int .i64 v34)]):List AV),([.rows true 1 h0]:AH))
abbrev zc1(s:Bz):Option (AV):=qcE s 0 0 (List.map (λb=>[.int .u8 (↑ (UInt8.toNat b):Int)]) (qB8 (qB1 s - 1) (qCk 1 s)))
abbrev zc0(s:Bz):Option (AV):=bif qd 1 (s.length:Int)then zc1 s else none
theorem qm2(s:Bz){P:AV->Prop}(h:Gets (bif decide ((s.length:Int)<2)then some (AV.tup [.int .i64 0,.bool false])else bif decide ((s.length:Int)>3)then some (AV.tup [.int .i64 0,.bool false])else kOpt (qB0 s 0) λb=>bif(↑ (UInt8.toNat b):Int) != 36 then some (AV.tup [.int .i64 0,.bool false])else bif(s.length:Int)==3 then kOpt (qB0 s 1) λb=>bif(↑ (UInt8.toNat b):Int)==48 then some (AV.tup [.int .i64 0,.bool false])else zc0 s else zc0 s) P):Gets (EVs (EV cfg) 55 [.str s]) P:=
  gE (λ_=>funS rfl rfl Tryz.func55 rfl) (by kernel_rfl) h
theorem qr4(kt nt:Int)(st:Bz)(lt:Rz){P:AV->Prop}(h:Gets (kOpt (EVs (EV cfg) 79 [.agg [.int .i64 kt,.int .i64 nt,.str st,.sl lt]]) λv=>kInt .i64 v λn=>some (.bool (n==0))) P):Gets (EVs (EV cfg) 53 [.agg [.int .i64 kt,.int .i64 nt,.str st,.sl lt]]) P:=
  gE (λ_=>funS rfl rfl Tryz.func53 rfl) (by kernel_rfl) h
theorem qr3(kt nt:Int)(st:Bz)(lt:Rz){P:AV->Prop}(h:Gets (bif kt != 2 then some (AV.tup [.int .i64 0,.bool false])else kOpt (EVs (EV cfg) 53 [.agg [.int .i64 kt,.int .i64 nt,.str st,.sl lt]]) λv=>qr v λb=>bif ! b then some (AV.tup [.int .i64 0,.bool false])else kOpt (EVs (EV cfg) 55 [.str st]) λv=>kTup v λcs=>qf cs λc cs=>kInt .i64 c λn=>qf cs λc cs=>qr c λb=>kNil cs (some (AV.tup [.int .i64 n,.bool b]))) P):Gets (EVs (EV cfg) 141 [.agg [.int .i64 kt,.int .i64 nt,.str st,.sl lt]]) P:=
  gE (λ_=>funS rfl rfl Tryz.func141 rfl) (by kernel_rfl) h
theorem qjM(n:Int)(r:List AV){P:MV×List (List AV)->Prop}(h:Gets (bif decide (n<64)then kOpt (qB0 r 0) λv=>kInt .u64 v λn_1=>kOpt (qn (Op.shift BinOp.shl .u64 1 .i64 n)) λv=>kInt .u64 v λn=>kOpt (qn (Op.intBits BinOp.or .u64 n_1 n)) λv=>kInt .u64 v λn=>bif qB4 1 (qB1 r)then some (MV.unit,[.int .u64 n::qCk 1 r])else none else kOpt (qB0 r 1) λv=>kInt .u64 v λn_1=>kOpt (qn (Op.shift BinOp.shl .u64 1 .i64 (qBZ .i64 (n - 64)))) λv=>kInt .u64 v λn=>kOpt (qn (Op.intBits BinOp.or .u64 n_1 n)) λv=>kInt .u64 v λn=>bif qB4 2 (qB1 r)then some (MV.unit,[qCu (qCu (qB8 1 r) [.int .u64 n]) (qCk 2 r)])else none) P):Gets (EVm (EV cfg) 143 [.ptr 0 0 0,.int .i64 n] 402 [r]) P:=
  gE (λ_=>funM rfl rfl Tryz.func143 rfl) (by kernel_rfl) h
abbrev zc2(v:AV):Option (AV):=kInt .u64 v λn=>kOpt (qn (Op.intBits BinOp.and .u64 n 1)) λv=>kInt .u64 v λn=>some (.bool (n==1))
theorem qrU(n:Int)(r:List AV){P:AV->Prop}(h:Gets (bif decide (n<64)then kOpt (qB0 r 0) λv=>kInt .u64 v λn_1=>kOpt (qn (Op.shift BinOp.shr .u64 n_1 .i64 n)) λv=>zc2 v else kOpt (qB0 r 1) λv=>kInt .u64 v λn_1=>kOpt (qn (Op.shift BinOp.shr .u64 n_1 .i64 (qBZ .i64 (n - 64)))) λv=>zc2 v) P):Gets (EVs (EV cfg) 144 [.cptr r 0,.int .i64 n]) P:=
  gE (λ_=>funS rfl rfl Tryz.func144 rfl) (by kernel_rfl) h
theorem qh1(s:Bz)(v4 v34:Int)(h0:Rz){P:AV->Prop}(h:Gets (bif decide (v34<(↑ (qB1 (qB8 (qB1 s - 1) (qCk 1 s))):Int))then bif qd 0 v34&&qe v34 (↑ (qB1 (qB8 (qB1 s - 1) (qCk 1 s))):Int)then kOpt (qB0 h0 (0+v34.toNat)) λrow=>kOpt (qB0 row 0) λv=>kInt .u8 v λn=>bif decide (n<48)then some (AV.tup [.int .i64 0,.bool false])else bif decide (n>57)then some (AV.tup [.int .i64 0,.bool false])else qcE s (qBZ .i64 (qBZ .i64 (v4*10)+qBZ .i64 (qBZ .u8 (n - 48)))) (qBZ .i64 (v34+1)) h0 else none else some (AV.tup [.int .i64 v4,.bool true])) P):Gets (qcE s v4 v34 h0) P:=
  gE (λ_=>ql (cfg:=cfg) (f:=55) (rd:=none) (bs:=0)) (by kernel_rfl) h
def qvA:Den:=evC cfg (EV cfg) 136 none 5 (sub (qc Tryz.f136) [1,0,0])
def qvH:Ex×List AV×AH->Option AV:=kAft (Cfg.keepOut cfg 136 (qh (sub (qc Tryz.f136) [1,0,0]))) (qO 0 (vT cfg (Cfg.lift cfg 136 0) (fun(v:AV) (H:AH)=>(fun(r:AV×AH)=>xG 0 4 (fx 17 [(2,AV.ptr 1 0 0),(3,AV.ptr 2 0 0)]) (qO 0 (kSeq (fun(fr:List AV) (H:AH)=>qL (Cfg.cut cfg 79 (qh (sub (qc Tryz.f79) [1,1,1]))) fr H fun(fr:List AV) (H:AH)=>qG cfg (EV cfg) (kfN cfg 6) 79 none 0 (sub (qc Tryz.f79) [1,1,1]) fr H (xS cfg (Cfg.lift cfg 79 0) (qCl (Func.results Tryz.f79)))) (xS cfg (Cfg.lift cfg 79 0) (qCl (Func.results Tryz.f79))))) (Prod.snd r)) (v,H)) (qCl (Func.results (Prod.snd (136,Tryz.f136))))))
def qAn:List AV×AH->Option AV:=fun(p:List AV×AH)=>kOpt (LOOP 5 (some [0,3]) [(3,4)] qvA p) qvH
def qAM:Den:=evC cfg (EV cfg) 151 none 10 (sub (qc Tryz.f151) [1,0,0])
def qBl:Ex×List AV×AH->Option AV:=kAft (Cfg.keepOut cfg 151 (qh (sub (qc Tryz.f151) [1,0,0]))) (qO 0 (vT cfg (Cfg.lift cfg 151 0) (fun(v:AV) (H:AH)=>(fun(r:AV×AH)=>xG 5 9 (fx 38 [(0,AV.yld 4),(3,AV.ptr 5 0 0)]) (qO 2 (qO 1 (kLp 5 (some [0,3]) [(3,4)] qvA qvH))) (Prod.snd r)) (v,H)) (qCl (Func.results (Prod.snd (151,Tryz.f151))))))
def qvp:List AV×AH->Option AV:=fun(p:List AV×AH)=>kOpt (LOOP 10 (some [0,1,3]) [] qAM p) qBl
abbrev qcD(c0_0 c0_1:Int)(c0_2:Bz)(c0_3:Rz)(c1_0 c2_0 c3_0 c3_1:Int)(c3_2:Bz)(c3_3:Rz)(nc5_0:Nat)(h6:Rz):Option (AV):=qAn (((fx 38 [(0,.yld 4),(3,.ptr 5 0 0)]):List AV),([.rows false 4 [[.int .i64 c0_0,.int .i64 c0_1,.str c0_2,.sl c0_3]],.rows false 1 [[.int .i64 c1_0]],.rows false 1 [[.int .i64 c2_0]],.rows false 4 [[.int .i64 c3_0,.int .i64 c3_1,.str c3_2,.sl c3_3]],rngB Tryz.f79 79 [1,1,0,1,0] (fx 17 [(2,.ptr 1 0 0),(3,.ptr 2 0 0)]) none LoopState.ready,.rows false 1 [[.ms 6 0 nc5_0]],.rows true 4 h6]:AH))
abbrev qnJ(v3 c0_0 c0_1:Int)(c0_2:Bz)(c0_3:Rz)(c1_0 c2_0 c3_0 c3_1:Int)(c3_2:Bz)(c3_3:Rz)(nc5_0:Nat)(h6:Rz)(c7_0 c7_1:Int)(c7_2:Bz)(c7_3 c8_0:Rz):Option (AV):=qvp (((fx 19 [(0,.yld 9),(1,.ptr 8 0 0),(3,.int .i64 v3)]):List AV),([.rows false 4 [[.int .i64 c0_0,.int .i64 c0_1,.str c0_2,.sl c0_3]],.rows false 1 [[.int .i64 c1_0]],.rows false 1 [[.int .i64 c2_0]],.rows false 4 [[.int .i64 c3_0,.int .i64 c3_1,.str c3_2,.sl c3_3]],rngB Tryz.f79 79 [1,1,0,1,0] (fx 17 [(2,.ptr 1 0 0),(3,.ptr 2 0 0)]) none LoopState.ready,.rows false 1 [[.ms 6 0 nc5_0]],.rows true 4 h6,.rows false 4 [[.int .i64 c7_0,.int .i64 c7_1,.str c7_2,.sl c7_3]],.rows false 1 [[.sl c8_0]],rngB Tryz.f136 136 [1,0,0,1,0,1,1,1,1,0] (fx 38 [(3,.ptr 5 0 0)]) none LoopState.ready]:AH))
abbrev qlf(v3 c0_0 c0_1:Int)(c0_2:Bz)(c0_3:Rz)(c1_0 c2_0 c3_0 c3_1:Int)(c3_2:Bz)(c3_3:Rz)(nc5_0:Nat)(c7_0 c7_1:Int)(c7_2:Bz)(c7_3 c8_0 h10:Rz):Option (AV):=qvp (((fx 19 [(0,.yld 9),(1,.ptr 8 0 0),(3,.int .i64 v3)]):List AV),([.rows false 4 [[.int .i64 c0_0,.int .i64 c0_1,.str c0_2,.sl c0_3]],.rows false 1 [[.int .i64 c1_0]],.rows false 1 [[.int .i64 c2_0]],.rows false 4 [[.int .i64 c3_0,.int .i64 c3_1,.str c3_2,.sl c3_3]],rngB Tryz.f79 79 [1,1,0,1,0] (fx 17 [(2,.ptr 1 0 0),(3,.ptr 2 0 0)]) none LoopState.ready,.rows false 1 [[.ms 10 0 nc5_0]],.dead,.rows false 4 [[.int .i64 c7_0,.int .i64 c7_1,.str c7_2,.sl c7_3]],.rows false 1 [[.sl c8_0]],rngB Tryz.f136 136 [1,0,0,1,0,1,1,1,1,0] (fx 38 [(3,.ptr 5 0 0)]) none LoopState.ready,.rows true 4 h10]:AH))
abbrev zd4(kt:Int)(lt:Rz):Option (AV):=bif kt==5 then some (.bool (decide ((lt.length:Int)<=64)))else some (.bool false)
abbrev zd3(lt:Rz)(kt:Int):Option (AV):=bif(lt.length:Int)==0 then some (.bool true)else zd4 kt lt
abbrev zd2(st:Bz)(lt:Rz)(kt:Int):Option (AV):=bif st==[]then zd3 lt kt else some (.bool false)
abbrev zd1(nt:Int)(st:Bz)(lt:Rz)(kt:Int):Option (AV):=bif decide (nt<=1073741824)then zd2 st lt kt else some (.bool false)
abbrev zd0(nt:Int)(st:Bz)(lt:Rz)(kt:Int):Option (AV):=bif decide (nt≥0)then zd1 nt st lt kt else some (.bool false)
theorem qlk(kt nt:Int)(st:Bz)(lt:Rz){P:AV->Prop}(h:Gets (bif kt==1 then bif decide (nt≥(- 576460752303423488))then bif decide (nt<=576460752303423487)then bif st==[]then some (.bool ((lt.length:Int)==0))else some (.bool false)else some (.bool false)else some (.bool false)else bif kt==2 then bif nt==0 then bif decide ((st.length:Int)<=64)then some (.bool ((lt.length:Int)==0))else some (.bool false)else some (.bool false)else bif kt==3 then bif decide (nt≥0)then bif decide (nt<=1073741824)then bif st==[]then bif(lt.length:Int)==0 then some (.bool true)else bif kt==5 then some (.bool (decide ((↑ (qB1 lt):Int)<=64)))else some (.bool false)else some (.bool false)else some (.bool false)else some (.bool false)else bif kt==4 then zd0 nt st lt kt else bif kt==6 then zd0 nt st lt kt else bif kt==5 then zd0 nt st lt kt else bif kt==7 then bif nt==0 then bif st==[]then some (.bool (decide ((lt.length:Int)<=64)))else some (.bool false)else some (.bool false)else bif kt==8 then bif nt==0 then bif st==[]then some (.bool ((lt.length:Int)==0))else some (.bool false)else some (.bool false)else bif kt==9 then bif nt==0 then bif st==[]then some (.bool ((lt.length:Int)==2))else some (.bool false)else some (.bool false)else some (.bool false)) P):Gets (EVs (EV cfg) 110 [.agg [.int .i64 kt,.int .i64 nt,.str st,.sl lt]]) P:=
  gE (λ_=>funS rfl rfl Tryz.func110 rfl) (by kernel_rfl) h
theorem qn1(kt nt:Int)(st:Bz)(lt:Rz){P:AV->Prop}(h:Gets (bif kt==7 then some (.int .i64 2)else bif kt==5 then some (.int .i64 2)else some (.int .i64 1)) P):Gets (EVs (EV cfg) 111 [.agg [.int .i64 kt,.int .i64 nt,.str st,.sl lt]]) P:=
  gE (λ_=>funS rfl rfl Tryz.func111 rfl) (by kernel_rfl) h
theorem qll(kt nt:Int)(st:Bz)(lt:Rz){P:AV->Prop}(h:Gets (qcD kt nt st lt 0 0 kt nt st lt 1 [[.int .i64 kt,.int .i64 nt,.str st,.sl lt]]) P):Gets (EVs (EV cfg) 79 [.agg [.int .i64 kt,.int .i64 nt,.str st,.sl lt]]) P:=
  gE (λ_=>funS rfl rfl Tryz.func79 rfl) (by kernel_rfl) h
theorem qdz(c0_0 c0_1:Int)(c0_2:Bz)(c0_3:Rz)(c1_0 c2_0 c3_0 c3_1:Int)(c3_2:Bz)(c3_3:Rz)(nc5_0:Nat)(h6:Rz){P:AV->Prop}(h:Gets (bif decide ((↑ nc5_0:Int)>0)then bif qd 0 (qBZ .i64 ((↑ nc5_0:Int) - 1))&&qe (qBZ .i64 ((↑ nc5_0:Int) - 1)) (↑ nc5_0:Int)then kOpt (qB0 h6 (0+qB7 (qBZ .i64 ((↑ nc5_0:Int) - 1)))) λrow=>bif qB4 4 (qB1 row)then kTmC (qB8 4 row) λn n_1 s rows=>(bif qd 0 (qBZ .i64 ((↑ nc5_0:Int) - 1))&&qd (qBZ .i64 ((↑ nc5_0:Int) - 1)) (↑ nc5_0:Int)then kOpt (EVs (EV cfg) 110 [.agg [.int .i64 n,.int .i64 n_1,.str s,.sl rows]]) λv=>qr v λb=>bif ! b then some (.int .i64 2)else kOpt (EVs (EV cfg) 111 [.agg [.int .i64 n,.int .i64 n_1,.str s,.sl rows]]) λv=>kInt .i64 v λn_2=>qnJ (qBZ .i64 ((↑ (qB1 rows):Int) - 1)) c0_0 c0_1 c0_2 c0_3 c1_0 (qBZ .i64 (c2_0+n_2)) c3_0 c3_1 c3_2 c3_3 (qB7 (qBZ .i64 ((↑ nc5_0:Int) - 1)) - 0) h6 n n_1 s rows rows else none)else none else none else bif decide (c2_0>65536)then some (.int .i64 3)else some (.int .i64 0)) P):Gets (qcD c0_0 c0_1 c0_2 c0_3 c1_0 c2_0 c3_0 c3_1 c3_2 c3_3 nc5_0 h6) P:=
  gE (λ_=>ql (cfg:=cfg) (f:=136) (rd:=none) (bs:=5)) (by kernel_rfl) h
abbrev zd10(row:List AV)(nc5_0:Nat)(h6:Rz)(v3 c0_0 c0_1:Int)(c0_2:Bz)(c0_3:Rz)(c1_0 c2_0 c3_0 c3_1:Int)(c3_2:Bz)(c3_3:Rz)(c7_0 c7_1:Int)(c7_2:Bz)(c7_3 c8_0:Rz):Option (AV):=kTmC (qB8 4 row) λn n_1 s rows=>(bif qB4 (0+nc5_0) (qB1 h6)&&qW (nc5_0+1) 56 then bif qd 0 (↑ nc5_0:Int)&&qe (↑ nc5_0:Int) (↑ (nc5_0+1):Int)then kOpt (qB0 (qCu (qB8 nc5_0 h6) [[.int .i64 0,.int .i64 0,.str [],.nilS]]) (0+qB7 (↑ nc5_0:Int))) λrow=>bif qB4 4 (qB1 row)then qlf (qBZ .i64 (v3 - (1:Int))) c0_0 c0_1 c0_2 c0_3 c1_0 c2_0 c3_0 c3_1 c3_2 c3_3 (nc5_0+1) c7_0 c7_1 c7_2 c7_3 c8_0 (qCA (qCu (qB8 nc5_0 h6) [[.int .i64 0,.int .i64 0,.str [],.nilS]]) (0+qB7 (↑ nc5_0:Int)) (.int .i64 n:: .int .i64 n_1:: .str s:: .sl rows::qCk 4 row))else none else none else none)
abbrev zd9(row:List AV)(nc5_0:Nat)(h6:Rz)(v3 c0_0 c0_1:Int)(c0_2:Bz)(c0_3:Rz)(c1_0 c2_0 c3_0 c3_1:Int)(c3_2:Bz)(c3_3:Rz)(c7_0 c7_1:Int)(c7_2:Bz)(c7_3 c8_0:Rz):Option (AV):=bif qB4 4 (qB1 row)then zd10 row nc5_0 h6 v3 c0_0 c0_1 c0_2 c0_3 c1_0 c2_0 c3_0 c3_1 c3_2 c3_3 c7_0 c7_1 c7_2 c7_3 c8_0 else none
abbrev zd8(row:List AV)(nc5_0:Nat)(h6:Rz)(v3 c0_0 c0_1:Int)(c0_2:Bz)(c0_3:Rz)(c1_0 c2_0 c3_0 c3_1:Int)(c3_2:Bz)(c3_3:Rz)(c7_0 c7_1:Int)(c7_2:Bz)(c7_3 c8_0:Rz):Option (AV):=bif qCh (qB1 row) 4 then zd9 row nc5_0 h6 v3 c0_0 c0_1 c0_2 c0_3 c1_0 c2_0 c3_0 c3_1 c3_2 c3_3 c7_0 c7_1 c7_2 c7_3 c8_0 else none
abbrev zd7(c8_0:Rz)(v3:Int)(nc5_0:Nat)(h6:Rz)(c0_0 c0_1:Int)(c0_2:Bz)(c0_3:Rz)(c1_0 c2_0 c3_0 c3_1:Int)(c3_2:Bz)(c3_3:Rz)(c7_0 c7_1:Int)(c7_2:Bz)(c7_3:Rz):Option (AV):=kOpt (qB0 c8_0 (v3.toNat)) λrow=>zd8 row nc5_0 h6 v3 c0_0 c0_1 c0_2 c0_3 c1_0 c2_0 c3_0 c3_1 c3_2 c3_3 c7_0 c7_1 c7_2 c7_3 c8_0
abbrev zd6(v3:Int)(c8_0:Rz)(nc5_0:Nat)(h6:Rz)(c0_0 c0_1:Int)(c0_2:Bz)(c0_3:Rz)(c1_0 c2_0 c3_0 c3_1:Int)(c3_2:Bz)(c3_3:Rz)(c7_0 c7_1:Int)(c7_2:Bz)(c7_3:Rz):Option (AV):=bif qd 0 v3&&qe v3 (c8_0.length:Int)then zd7 c8_0 v3 nc5_0 h6 c0_0 c0_1 c0_2 c0_3 c1_0 c2_0 c3_0 c3_1 c3_2 c3_3 c7_0 c7_1 c7_2 c7_3 else none
abbrev zd5(v3:Int)(c8_0:Rz)(nc5_0:Nat)(h6:Rz)(c0_0 c0_1:Int)(c0_2:Bz)(c0_3:Rz)(c1_0 c2_0 c3_0 c3_1:Int)(c3_2:Bz)(c3_3:Rz)(c7_0 c7_1:Int)(c7_2:Bz)(c7_3:Rz):Option (AV):=bif decide (v3≥0)then zd6 v3 c8_0 nc5_0 h6 c0_0 c0_1 c0_2 c0_3 c1_0 c2_0 c3_0 c3_1 c3_2 c3_3 c7_0 c7_1 c7_2 c7_3 else qcD c0_0 c0_1 c0_2 c0_3 c1_0 c2_0 c3_0 c3_1 c3_2 c3_3 nc5_0 h6
theorem qpE(v3 c0_0 c0_1:Int)(c0_2:Bz)(c0_3:Rz)(c1_0 c2_0 c3_0 c3_1:Int)(c3_2:Bz)(c3_3:Rz)(nc5_0:Nat)(h6:Rz)(c7_0 c7_1:Int)(c7_2:Bz)(c7_3 c8_0:Rz){P:AV->Prop}(h:Gets (zd5 v3 c8_0 nc5_0 h6 c0_0 c0_1 c0_2 c0_3 c1_0 c2_0 c3_0 c3_1 c3_2 c3_3 c7_0 c7_1 c7_2 c7_3) P):Gets (qnJ v3 c0_0 c0_1 c0_2 c0_3 c1_0 c2_0 c3_0 c3_1 c3_2 c3_3 nc5_0 h6 c7_0 c7_1 c7_2 c7_3 c8_0) P:=
  gE (λ_=>ql (cfg:=cfg) (f:=151) (rd:=none) (bs:=10)) (by kernel_rfl) h
theorem qfC(v3 c0_0 c0_1:Int)(c0_2:Bz)(c0_3:Rz)(c1_0 c2_0 c3_0 c3_1:Int)(c3_2:Bz)(c3_3:Rz)(nc5_0:Nat)(c7_0 c7_1:Int)(c7_2:Bz)(c7_3 c8_0 h10:Rz){P:AV->Prop}(h:Gets (zd5 v3 c8_0 nc5_0 h10 c0_0 c0_1 c0_2 c0_3 c1_0 c2_0 c3_0 c3_1 c3_2 c3_3 c7_0 c7_1 c7_2 c7_3) P):Gets (qlf v3 c0_0 c0_1 c0_2 c0_3 c1_0 c2_0 c3_0 c3_1 c3_2 c3_3 nc5_0 c7_0 c7_1 c7_2 c7_3 c8_0 h10) P:=
  gE (λ_=>ql (cfg:=cfg) (f:=151) (rd:=none) (bs:=10)) (by kernel_rfl) h
end Go.Proofs.YtgleolmhpmljhaaGreat
end
noncomputable section
namespace Go.Av
def qnB(p:Prop)(v:AV):Prop:=∃b:Bool,v= .bool b∧(b=true↔p)
theorem qeF{p:Prop}{b:Bool}:qnB p (.bool b)↔(b=true↔p):=⟨fun⟨_,h1,h2⟩=>by cases h1;exact h2,λh=>⟨b,rfl,h⟩⟩
end Go.Av
namespace Go.Proofs.YtgleolmhpmljhaaGreat
open Go.Av
theorem yv{n:Nat}(h:n<=1099511627776):qW n 56=true:=by
 unfold qW;rw[qB2,qCz,qCz];omega
theorem qq(t:Tm):(AV.agg [.int .i64 t.kind,.int .i64 t.num,.str t.str,.sl (qa t.subs)])=t.av:=by rw[Tm.av,Tm.cells_eq]
theorem qvU(t:Tm):EVs (EV cfg) 110 [t.av]=some (.bool t.sound):=by
 obtain⟨k,n,s,l⟩:=t;apply Gets.get;rw[Tm.av_mk];refine qlk _ _ _ _ ?_;unfold zd0 zd1 zd2 zd3 zd4;simp only[Tm.sound,Tm.kind_mk,Tm.num_mk,Tm.str_mk,Tm.subs_mk,qg,beqI,qz9,yq]
 by_cases h1:k=1
 ·subst h1;simp[yn]<;>(try rw[Bool.eq_iff_iff])<;>(try simp)<;>first|omega|grind
 by_cases h2:k=2
 ·subst h2;simp[yn]<;>(try rw[Bool.eq_iff_iff])<;>(try simp)<;>first|omega|grind
 by_cases h3:k=3
 ·subst h3;simp[yn]<;>(try rw[Bool.eq_iff_iff])<;>(try simp)<;>first|omega|grind
 by_cases h4:k=4
 ·subst h4;simp[yn]<;>(try rw[Bool.eq_iff_iff])<;>(try simp)<;>first|omega|grind
 by_cases h6:k=6
 ·subst h6;simp[yn]<;>(try rw[Bool.eq_iff_iff])<;>(try simp)<;>first|omega|grind
 by_cases h5:k=5
 ·subst h5;cases l with
  |nil=>simp[yn]<;>(try rw[Bool.eq_iff_iff])<;>(try simp)<;>first|omega|grind
  |cons x l=>
   have hx:¬((l.length:Int)+1=0):=by omega
   simp[hx,yn]<;>(try rw[Bool.eq_iff_iff])<;>(try simp)<;>first|omega|grind
 by_cases h7:k=7
 ·subst h7;simp[yn]<;>(try rw[Bool.eq_iff_iff])<;>(try simp)<;>first|omega|grind
 by_cases h8:k=8
 ·subst h8;simp[yn]<;>(try rw[Bool.eq_iff_iff])<;>(try simp)<;>first|omega|grind
 by_cases h9:k=9
 ·subst h9;simp[yn]<;>(try rw[Bool.eq_iff_iff])<;>(try simp)<;>first|omega|grind
 simp[h1,h2,h3,h4,h5,h6,h7,h8,h9]
theorem qzS(t:Tm):EVs (EV cfg) 111 [t.av]=some (.int .i64 t.own):=by
 obtain⟨k,n,s,l⟩:=t;apply Gets.get;rw[Tm.av_mk];refine qn1 _ _ _ _ ?_;simp only[Tm.own,Tm.kind_mk,beqI]
 by_cases h7:k=7
 ·simp[h7]
 ·by_cases h5:k=5
  ·simp[h5]
  ·simp[h7,h5]
theorem qi6(l:List (List AV))(z:List AV):(l++[z])[l.length]? =some z:=by simp
theorem qi5(l:List (List AV))(z c:List AV):(l++[z]).set l.length c=l++[c]:=by simp
theorem qt1{t x:Tm}(hx:x.subs.length<1099511627776){wd:Int}{P:AV->Prop}:∀(j:Nat) (R:List Tm),j<=x.subs.length->R.length+j<1099511627776 ->
  Gets (qcD t.kind t.num t.str (qa t.subs) 0 wd t.kind t.num t.str (qa t.subs) (R.length+j) (qa (R++(x.subs.take j).reverse))) P ->
  Gets (qlf ((j:Int) - 1) t.kind t.num t.str (qa t.subs) 0 wd t.kind t.num t.str (qa t.subs) R.length x.kind x.num x.str (qa x.subs) (qa x.subs) (qa R)) P
 |0,R,_,_,h=>by
  refine qfC _ _ _ _ _ _ _ _ _ _ _ _ _ _ _ _ _ _ ?_;unfold zd5 zd6 zd7 zd8 zd9 zd10
  simpa using h
 |j+1,R,hj,hR,h=>by
  have ih:=qt1 (t:=t) hx (wd:=wd) (P:=P) j (R++[x.subs[j]]) (by omega) (by simp;omega);have e1:x.subs.take (j+1)=x.subs.take j++[x.subs[j]]:=by rw[List.take_add_one,qB3 (by omega)];rfl
  have e4:R++(x.subs.take j++[x.subs[j]]).reverse=R++x.subs[j]::(x.subs.take j).reverse:=by rw[List.reverse_append];rfl
  rw[e1,e4,show R.length+(j+1)=R.length+1+j by omega]at h;refine qfC _ _ _ _ _ _ _ _ _ _ _ _ _ _ _ _ _ _ ?_;unfold zd5 zd6 zd7 zd8 zd9 zd10;have hw:qBZ .i64 ((j:Int) - 1)=(j:Int) - 1:=qt (by omega) (by omega);have hjl:j<x.subs.length:=by omega
  have e2:((j+1:Nat):Int) - 1=j:=by omega
  rw[e2];have ht:qB8 R.length (qa R)=qa R:=qCd (by simp);have g0:=qi6 (qa R) [.int .i64 0,.int .i64 0,.str [],.nilS];have s0:=qi5 (qa R) [.int .i64 0,.int .i64 0,.str [],.nilS] x.subs[j].cells;rw[qg]at g0 s0;simp[hjl,hw,yv (show R.length+1<=1099511627776 by omega),ht]at ih⊢;exact ih h
theorem qzR{t x:Tm}(hx:x.subs.length<1099511627776){wd:Int}{P:AV->Prop}{R:List Tm}{Z:List (List AV)}(hR:R.length+x.subs.length<1099511627776)(h0:x.subs=[]->Gets (qcD t.kind t.num t.str (qa t.subs) 0 wd t.kind t.num t.str (qa t.subs) R.length (qa R++Z)) P)(h:x.subs≠[]->Gets (qcD t.kind t.num t.str (qa t.subs) 0 wd t.kind t.num t.str (qa t.subs) (R++x.subs.reverse).length (qa (R++x.subs.reverse))) P):
  Gets (qnJ ((x.subs.length:Int) - 1) t.kind t.num t.str (qa t.subs) 0 wd t.kind t.num t.str (qa t.subs) R.length (qa R++Z) x.kind x.num x.str (qa x.subs) (qa x.subs)) P:=by
 refine qpE _ _ _ _ _ _ _ _ _ _ _ _ _ _ _ _ _ _ ?_;unfold zd5 zd6 zd7 zd8 zd9 zd10;rcases Nat.eq_zero_or_pos x.subs.length with hz|hp
 ·have hz':x.subs=[]:=List.length_eq_zero_iff.1 hz;have:=h0 hz'
  simpa [hz']using this
 ·obtain⟨j,hj⟩:∃j,x.subs.length=j+1:=⟨x.subs.length - 1,by omega⟩;have hne:x.subs≠[]:=by intro e;rw[e]at hp;simp at hp
  have hjl:j<x.subs.length:=by omega
  have e2:(x.subs.length:Int) - 1=j:=by omega
  have hw:qBZ .i64 ((j:Int) - 1)=(j:Int) - 1:=qt (by omega) (by omega);have ht:qB8 R.length (qa R++Z)=qa R:=by rw[List.take_append_of_le_length (by simp),qCd (by simp)]
  have e5:x.subs=x.subs.take j++[x.subs[j]]:=by
   have:x.subs.take (j+1)=x.subs:=qCd (by omega);rw[List.take_add_one,qB3 hjl]at this;exact this.symm
  have e6:R++x.subs.reverse=R++[x.subs[j]]++(x.subs.take j).reverse:=by
   conv=>lhs;rw[e5]
   rw[List.reverse_append,List.append_assoc];rfl
  have:=qt1 (t:=t) hx (wd:=wd) (P:=P) j (R++[x.subs[j]]) (by omega) (by simp;omega) (by
   have h:=h hne;rw[e6]at h;have e7:(R++[x.subs[j]]++(x.subs.take j).reverse).length=(R++[x.subs[j]]).length+j:=by
    rw[qCq,List.length_reverse,qCD];omega
   rw[e7]at h;exact h)
  rw[e2];simp at this;simp[hjl,hw,yv (show R.length+1<=1099511627776 by omega),ht];exact this
theorem qyl{t:Tm}:∀(n:Nat) (R:List Tm) (Z:List (List AV)) (wd:Nat),wL R<=n->n<1099511627776->wd+2*wL R<9007199254740992 ->
  Gets (qcD t.kind t.num t.str (qa t.subs) 0 (wd:Int) t.kind t.num t.str (qa t.subs) R.length (qa R++Z)) (·= .int .i64 (chkS R wd)):=by
 intro n
 induction n with
 |zero=>
  intro R Z wd hn _ _;have:R=[]:=by
   have:=qaS R;exact List.length_eq_zero_iff.1 (by omega)
  subst this;refine qdz _ _ _ _ _ _ _ _ _ _ _ _ ?_
  by_cases h:65536<wd
  ·have h':(65536:Int)<wd:=by omega
   simp[h,h',chkS,vJ,q9]
  ·have h':¬(65536:Int)<wd:=by omega
   simp[h,h',chkS,vJ,q9]
 |succ n ih=>
  intro R Z wd hn hN hw;rcases List.eq_nil_or_concat R with rfl|⟨R0,x,rfl⟩
  ·refine qdz _ _ _ _ _ _ _ _ _ _ _ _ ?_
   by_cases h:65536<wd
   ·have h':(65536:Int)<wd:=by omega
    simp[h,h',chkS,vJ,q9]
   ·have h':¬(65536:Int)<wd:=by omega
    simp[h,h',chkS,vJ,q9]
  ·rw[List.concat_eq_append]at *;have hwx:=x.w_eq;have ho:=x.own_le;simp only[xF,qY,xg]at hn hw;have hl0:=qaS R0;have hls:=qaS x.subs;have hsd:=qvU x;have how:=qzS x;refine qdz _ _ _ _ _ _ _ _ _ _ _ _ ?_;have e1:(R0++[x]).length=R0.length+1:=by simp
   have hw1:qBZ .i64 (R0.length:Int)=R0.length:=qxx (by omega);have hw2:qBZ .i64 ((wd:Int)+x.own)=((wd+x.own:Nat):Int):=by rw[qt (by omega) (by omega)];omega
   have hw3:qBZ .i64 ((x.subs.length:Int) - 1)=(x.subs.length:Int) - 1:=qt (by omega) (by omega);have g:(qa (R0++[x])++Z)[R0.length]? =some x.cells:=by
    rw[qCf (by simp),xu];simp
   cases hs:x.sound with
   |false=>
    rw[hs]at hsd;simp[e1,hw1,g,hsd,qwS hs]
   |true=>
    rw[hs]at hsd;have e3:qa (R0++[x])++Z=qa R0++(x.cells::Z):=by rw[vn,List.append_assoc,qN,q4];rfl
    have:=qzR (t:=t) (x:=x) (R:=R0) (Z:=x.cells::Z) (wd:=((wd+x.own:Nat):Int)) (P:=(·= .int .i64 (chkS (R0++[x]) wd))) (by omega) (by omega)
     (λhz=>by
      have:=ih R0 (x.cells::Z) (wd+x.own) (by omega) (by omega) (by omega);rw[←qmT hs,hz,List.reverse_nil,List.append_nil];exact this)
     (λhz=>by
      have:=ih (R0++x.subs.reverse) [] (wd+x.own) (by rw[xF,qtz];omega) (by omega) (by rw[xF,qtz];omega);rw[←qmT hs];rw[List.append_nil]at this;exact this)
    simp only[e1,e3]at g⊢;simp only[Int.natCast_add]at hw2 this;simp[hw1,g,hsd,how,hw2,hw3];exact this
theorem zW{t:Tm}(h:t.w<1099511627776):EVs (EV cfg) 79 [t.av]=some (.int .i64 t.chk):=by
 have:=qyl (t:=t) _ [t] [] 0 (qCa _) (by simpa using h) (by simp;omega);apply Gets.get;rw[Tm.av,Tm.cells_eq];refine qll _ _ _ _ ?_;rw[←Tm.cells_eq,qtV,Tm.chk]
 simpa using this
theorem qdF{s h0:List UInt8}{b:UInt8}{v:Int}{i:Nat}{P:AV->Prop}(hv:0<=v∧v<=9)(hlen:(qB8 (s.length - 1) (s.drop 1)).length=h0.length)(hl:h0.length<=2)(hb:h0[i]? =some b)(h:Gets (match ze b with|none=>some (AV.tup [.int .i64 0,.bool false])|some x=>qcE s (v*10+x) ((i+1:Nat):Int) (h0.map λb=>[.int .u8 (b.toNat:Int)])) P):Gets (qcE s v i (h0.map λb=>[.int .u8 (b.toNat:Int)])) P:=by
 have hi:i<h0.length:=(qB5.1 hb).1;refine qh1 _ _ _ _ ?_;have hbl:=b.toNat_lt;rw[hlen,qCK (show(i:Int)<(h0.length:Int) by omega),qE,qP,qCK hi];simp only[cond_true,qCx,qv,qCG,qCi,List.getElem?_map,hb,qCt,qb,qCC,qi];unfold ze at h
 by_cases h1:b.toNat<48
 ·rw[qCM h1]at h;rw[qCK (show(b.toNat:Int)<48 by omega)];exact h
 ·rw[qCN h1]at h;rw[qCL (show ¬(b.toNat:Int)<48 by omega),cond_false]
  by_cases h2:b.toNat>57
  ·rw[qCM h2]at h;rw[qCK (show(b.toNat:Int)>57 by omega)];exact h
  ·rw[qCN h2]at h;rw[qCL (show ¬(b.toNat:Int)>57 by omega),cond_false];have w1:qBZ .i64 (v*10)=v*10:=qt (by omega) (by omega);have w2:qBZ .u8 ((b.toNat:Int) - 48)=(b.toNat:Int) - 48:=by
    simp[qBZ,IntKind.bits,IntKind.signed];omega
   have w3:qBZ .i64 ((b.toNat:Int) - 48)=(b.toNat:Int) - 48:=qt (by omega) (by omega);have w4:qBZ .i64 (v*10+((b.toNat:Int) - 48))=v*10+((b.toNat:Int) - 48):=qt (by omega) (by omega);have w5:qBZ .i64 ((i:Int)+1)=((i+1:Nat):Int):=qZ (n:=2) (by omega) (by omega);rw[w1,w2,w3,w4,w5];exact h
theorem qj3{s h0:List UInt8}{v:Int}{i:Nat}(hlen:(qB8 (s.length - 1) (s.drop 1)).length=h0.length)(hi:i=h0.length):Gets (qcE s v i (h0.map λb=>[.int .u8 (b.toNat:Int)])) (·= .tup [.int .i64 v,.bool true]):=by
 refine qh1 _ _ _ _ ?_;rw[hlen,qCL (by omega)];exact⟨_,rfl,rfl⟩
def varR(o:Option Int):AV:=.tup [.int .i64 (o.getD 0),.bool o.isSome]
theorem zM(s:List UInt8):EVs (EV cfg) 55 [.str s]=some (varR (varG s)):=by
 apply Gets.get;refine qm2 _ ?_;unfold zc0 zc1
 match s with
 |[]=>exact⟨_,rfl,rfl⟩
 |[a]=>exact⟨_,rfl,rfl⟩
 |a::b::c::d::l=>
  have h1:¬((a::b::c::d::l).length:Int)<2:=by simp;omega
  have h2:((a::b::c::d::l).length:Int)>3:=by simp;omega
  rw[qCL h1,qCK h2];exact⟨_,rfl,rfl⟩
 |[a,b]=>
  by_cases h:a.toNat=36
  ·have e:(((a.toNat:Int)) != 36)=false:=by rw[h];rfl
   have hs:=qdF (s:=[a,b]) (h0:=[b]) (b:=b) (v:=0) (i:=0) (P:=(·=varR (varG [a,b]))) (by omega) rfl (by simp) rfl (by
    rw[qxy,qCM h];cases hd:ze b with
    |none=>exact⟨_,rfl,rfl⟩
    |some x=>
     refine(qj3 (s:=[a,b]) (h0:=[b]) rfl rfl).mono ?_;rintro _ rfl;show _=varR (some x);simp[varR])
   show Gets (bif(((a.toNat:Int)) != 36)then _ else _) _;rw[e];exact hs
  ·have e:(((a.toNat:Int)) != 36)=true:=by simpa using λh'=>h (by omega)
   show Gets (bif(((a.toNat:Int)) != 36)then _ else _) _;rw[e];refine⟨_,rfl,?_⟩;rw[qxy,qCN h];rfl
 |[a,b,c]=>
  by_cases h:a.toNat=36
  ·have e:(((a.toNat:Int)) != 36)=false:=by rw[h];rfl
   show Gets (bif(((a.toNat:Int)) != 36)then _ else bif(((b.toNat:Int))==48)then _ else _) _;rw[e]
   by_cases hb:b.toNat=48
   ·have e2:(((b.toNat:Int))==48)=true:=by rw[hb];rfl
    rw[e2];refine⟨_,rfl,?_⟩;rw[qrF,qCN (λh=>h.2 hb)];rfl
   ·have e2:(((b.toNat:Int))==48)=false:=by simpa using λh'=>hb (by omega)
    rw[e2];show Gets (qcE [a,b,c] 0 0 ([b,c].map λb=>[.int .u8 (b.toNat:Int)])) _;refine qdF (s:=[a,b,c]) (h0:=[b,c]) (b:=b) (v:=0) (i:=0) (by omega) rfl (by simp) rfl ?_;rw[qrF,qCM ⟨h,hb⟩];cases hd:ze b with
    |none=>exact⟨_,rfl,rfl⟩
    |some x=>
     have hx:=qdr hd;refine qdF (s:=[a,b,c]) (h0:=[b,c]) (b:=c) (i:=1) (by omega) rfl (by simp) rfl ?_;cases hd2:ze c with
     |none=>exact⟨_,rfl,by simp[varR,hd2]⟩
     |some y=>
      refine(qj3 (s:=[a,b,c]) (h0:=[b,c]) rfl rfl).mono ?_;rintro _ rfl;simp[varR,hd2]
  ·have e:(((a.toNat:Int)) != 36)=true:=by simpa using λh'=>h (by omega)
   show Gets (bif(((a.toNat:Int)) != 36)then _ else _) _;rw[e];refine⟨_,rfl,?_⟩;rw[qrF,qCN (λh'=>h h'.1)];rfl
theorem zN{t:Tm}(h:t.w<1099511627776):EVs (EV cfg) 53 [t.av]=some (.bool (decide (t.chk=0))):=by
 have hc:=zW h;apply Gets.get;rw[Tm.av,Tm.cells_eq]at hc⊢;refine qr4 _ _ _ _ ?_;rw[hc];simp[beqI]
theorem qgn{t:Tm}(h:t.w<1099511627776):EVs (EV cfg) 141 [t.av]=some (varR (varT t)):=by
 have hc:=zN h;apply Gets.get;rw[Tm.av,Tm.cells_eq]at hc⊢;refine qr3 _ _ _ _ ?_;rw[hc,zM];unfold varT
 by_cases h1:t.kind=2
 ·by_cases h2:t.chk=0
  ·simp[h1,h2,varR,kTup,qf,kNil]
  ·simp[h1,h2,varR]
 ·have h1':(t.kind != 2)=true:=by simpa using h1
  rw[h1'];simp[h1,varR]
def qA1:Den:=evC cfg (EV cfg) 172 none 0 (sub (qc Tryz.f172) [1,0,1,0,0])
def qBA:Ex×List AV×AH->Option AV:=kAft (Cfg.keepOut cfg 172 2) (kRun cfg (EV cfg) (kfN cfg 6) 172 none 0 (xS cfg (Cfg.lift cfg 172 0) Tryz.f172.results.toList) ([.block 0,.seq (sub (qc Tryz.f172) [1,1])]))
def qAy:List AV×AH->Option AV:=λp=>kOpt (LOOP 0 (some [0,1,7,8]) ([]) qA1 p) qBA
abbrev qjC(A:Rz)(n v8:Int):Option (AV):=qAy (((fx 19 [(0,.sl A),(1,.int .i64 n),(7,.int .i64 (A.length:Int)),(8,.int .i64 v8)]):List AV),([]:AH))
theorem qm6(op:Bz){P:AV->Prop}(h:Gets (bif op==[(115:UInt8),101,108,102]then some (.sl [[.int .i64 0]])else bif op==[(105:UInt8),115,95,97,116,111,109]then some (.sl [[.int .i64 1]])else bif op==[(105:UInt8),115,95,105,110,116,101,103,101,114]then some (.sl [[.int .i64 1]])else bif op==[(105:UInt8),115,95,108,105,115,116]then some (.sl [[.int .i64 1]])else bif op==[(105:UInt8),115,95,116,117,112,108,101]then some (.sl [[.int .i64 1]])else bif op==[(105:UInt8),115,95,112,105,100]then some (.sl [[.int .i64 1]])else bif op==[(105:UInt8),115,95,102,117,110,99,116,105,111,110]then some (.sl [[.int .i64 1]])else bif op==[(105:UInt8),115,95,114,101,102,101,114,101,110,99,101]then some (.sl [[.int .i64 1]])else bif op==[(110:UInt8),111,116]then some (.sl [[.int .i64 1]])else bif op==[(98:UInt8),110,111,116]then some (.sl [[.int .i64 1]])else bif op==[(97:UInt8),98,115]then some (.sl [[.int .i64 1]])else bif op==[(116:UInt8),117,112,108,101,95,115,105,122,101]then some (.sl [[.int .i64 1]])else bif op==[(115:UInt8),105,122,101]then some (.sl [[.int .i64 1]])else bif op==[(104:UInt8),100]then some (.sl [[.int .i64 1]])else bif op==[(116:UInt8),108]then some (.sl [[.int .i64 1]])else bif op==[(108:UInt8),101,110,103,116,104]then some (.sl [[.int .i64 1]])else bif op==[(43:UInt8)]then some (.sl [[.int .i64 1],[.int .i64 2]])else bif op==[(45:UInt8)]then some (.sl [[.int .i64 1],[.int .i64 2]])else bif op==[(61:UInt8),61]then some (.sl [[.int .i64 2]])else bif op==[(61:UInt8),58,61]then some (.sl [[.int .i64 2]])else bif op==[(47:UInt8),61]then some (.sl [[.int .i64 2]])else bif op==[(61:UInt8),47,61]then some (.sl [[.int .i64 2]])else bif op==[(60:UInt8)]then some (.sl [[.int .i64 2]])else bif op==[(61:UInt8),60]then some (.sl [[.int .i64 2]])else bif op==[(62:UInt8)]then some (.sl [[.int .i64 2]])else bif op==[(62:UInt8),61]then some (.sl [[.int .i64 2]])else bif op==[(97:UInt8),110,100]then some (.sl [[.int .i64 2]])else bif op==[(111:UInt8),114]then some (.sl [[.int .i64 2]])else bif op==[(120:UInt8),111,114]then some (.sl [[.int .i64 2]])else bif op==[(97:UInt8),110,100,97,108,115,111]then some (.sl [[.int .i64 2]])else bif op==[(111:UInt8),114,101,108,115,101]then some (.sl [[.int .i64 2]])else bif op==[(42:UInt8)]then some (.sl [[.int .i64 2]])else bif op==[(100:UInt8),105,118]then some (.sl [[.int .i64 2]])else bif op==[(114:UInt8),101,109]then some (.sl [[.int .i64 2]])else bif op==[(98:UInt8),97,110,100]then some (.sl [[.int .i64 2]])else bif op==[(98:UInt8),111,114]then some (.sl [[.int .i64 2]])else bif op==[(98:UInt8),120,111,114]then some (.sl [[.int .i64 2]])else bif op==[(101:UInt8),108,101,109,101,110,116]then some (.sl [[.int .i64 2]])else some (.sl [])) P):Gets (EVf (EV cfg) 164 [.str op]) P:=
  gE (λ_=>funF rfl rfl Tryz.func164 rfl) (by kernel_rfl) h
theorem qlL(n:Int){P:AV->Prop}(h:Gets (bif decide (n≥1)then some (.bool (decide (n<=1073741824)))else some (.bool false)) P):Gets (EVs (EV cfg) 155 [.int .i64 n]) P:=
  gE (λ_=>funS rfl rfl Tryz.func155 rfl) (by kernel_rfl) h
abbrev ze0(v:AV):Option (AV):=kTmV v λn n_1 s rows=>(some (.agg [.int .i64 n,.int .i64 n_1,.str s,.sl rows]))
theorem qky(b:Bool){P:AV->Prop}(h:Gets (bif b then kOpt (EVf (EV cfg) 183 [.str [(116:UInt8),114,117,101]]) λv=>ze0 v else kOpt (EVf (EV cfg) 183 [.str [(102:UInt8),97,108,115,101]]) λv=>ze0 v) P):Gets (EVf (EV cfg) 177 [.bool b]) P:=
  gE (λ_=>funF rfl rfl Tryz.func177 rfl) (by kernel_rfl) h
theorem qlM(s:Bz){P:AV->Prop}(h:Gets (some (.agg [.int .i64 2,.int .i64 0,.str s,.sl []])) P):Gets (EVf (EV cfg) 183 [.str s]) P:=
  gE (λ_=>funF rfl rfl Tryz.func183 rfl) (by kernel_rfl) h
theorem qm7(A:Rz)(n:Int){P:AV->Prop}(h:Gets (kOpt (EVs (EV cfg) 172 [.sl A,.int .i64 n]) λv=>kInt .i64 v λn=>some (.bool (decide (n≥0)))) P):Gets (EVs (EV cfg) 162 [.sl A,.int .i64 n]) P:=
  gE (λ_=>funS rfl rfl Tryz.func162 rfl) (by kernel_rfl) h
theorem qsI(A:Rz)(n:Int){P:AV->Prop}(h:Gets (qjC A n 0) P):Gets (EVs (EV cfg) 172 [.sl A,.int .i64 n]) P:=
  gE (λ_=>funS rfl rfl Tryz.func172 rfl) (by kernel_rfl) h
theorem qsi(ke ne:Int)(se:Bz)(le bd:Rz)(self:Int)(bad:Bool){P:AV×List (List AV)->Prop}(h:Gets (some (.agg [.int .i64 0,.int .i64 0,.str [],.sl []],[[.int .i64 ke,.int .i64 ne,.str se,.sl le,.sl bd,.int .i64 self,.bool true]])) P):Gets (EVd (EV cfg) 168 [.ptr 0 0 0] 7 [[AV.int .i64 ke,AV.int .i64 ne,AV.str se,AV.sl le,AV.sl bd,AV.int .i64 self,AV.bool bad]]) P:=
  gE (λ_=>funD rfl rfl Tryz.func168 rfl) (by kernel_rfl) h
abbrev ze3(n n_1:Int)(s:Bz)(rows:Rz)(q:AV×List (List AV)):Option (AV×List (List AV)):=(some (.agg [.int .i64 n,.int .i64 n_1,.str s,.sl rows],q.2))
abbrev ze2(q:AV×List (List AV)):Option (AV×List (List AV)):=kTmV q.1 λn n_1 s rows=>ze3 n n_1 s rows q
abbrev ze1(ke ne:Int)(se:Bz)(le bd:Rz)(self:Int)(bad:Bool):Option (AV×List (List AV)):=kOpt (EVd (EV cfg) 168 [.ptr 0 0 0] 7 [[.int .i64 ke,.int .i64 ne,.str se,.sl le,.sl bd,.int .i64 self,.bool bad]]) λq=>ze2 q
theorem qqh(ke ne:Int)(se:Bz)(le bd:Rz)(self:Int)(bad:Bool)(n:Int){P:AV×List (List AV)->Prop}(h:Gets (bif decide (n<(- 576460752303423488))then ze1 ke ne se le bd self bad else bif decide (n>(576460752303423487:Int))then ze1 ke ne se le bd self bad else some (.agg [.int .i64 1,.int .i64 n,.str [],.sl []],[[.int .i64 ke,.int .i64 ne,.str se,.sl le,.sl bd,.int .i64 self,.bool bad]])) P):Gets (EVd (EV cfg) 178 [.ptr 0 0 0,.int .i64 n] 7 [[AV.int .i64 ke,AV.int .i64 ne,AV.str se,AV.sl le,AV.sl bd,AV.int .i64 self,AV.bool bad]]) P:=
  gE (λ_=>funD rfl rfl Tryz.func178 rfl) (by kernel_rfl) h
abbrev ze12(n_1 ke ne:Int)(se:Bz)(le bd:Rz)(self:Int)(bad:Bool):Option (AV×List (List AV)):=kOpt (EVd (EV cfg) 178 [.ptr 0 0 0,.int .i64 (qBZ .i64 (1*qBZ .i64 n_1))] 7 [[.int .i64 ke,.int .i64 ne,.str se,.sl le,.sl bd,.int .i64 self,.bool bad]]) λq=>ze2 q
abbrev ze11(n_1 ke ne:Int)(se:Bz)(le bd:Rz)(self:Int)(bad:Bool):Option (AV×List (List AV)):=bif decide (n_1>576460752303423488)then ze1 ke ne se le bd self bad else ze12 n_1 ke ne se le bd self bad
abbrev ze10(n ke ne:Int)(se:Bz)(le bd:Rz)(self:Int)(bad:Bool)(n_1:Int):Option (AV×List (List AV)):=bif decide (n>0)then ze1 ke ne se le bd self bad else ze11 n_1 ke ne se le bd self bad
abbrev ze9(cs:List AV)(n ke ne:Int)(se:Bz)(le bd:Rz)(self:Int)(bad:Bool)(n_1:Int):Option (AV×List (List AV)):=kNil cs (ze10 n ke ne se le bd self bad n_1)
abbrev ze8(c:AV)(cs:List AV)(n ke ne:Int)(se:Bz)(le bd:Rz)(self:Int)(bad:Bool):Option (AV×List (List AV)):=kInt .u64 c λn_1=>ze9 cs n ke ne se le bd self bad n_1
abbrev ze7(cs:List AV)(n ke ne:Int)(se:Bz)(le bd:Rz)(self:Int)(bad:Bool):Option (AV×List (List AV)):=qf cs λc cs=>ze8 c cs n ke ne se le bd self bad
abbrev ze6(c:AV)(cs:List AV)(ke ne:Int)(se:Bz)(le bd:Rz)(self:Int)(bad:Bool):Option (AV×List (List AV)):=kInt .u64 c λn=>ze7 cs n ke ne se le bd self bad
abbrev ze5(cs:List AV)(ke ne:Int)(se:Bz)(le bd:Rz)(self:Int)(bad:Bool):Option (AV×List (List AV)):=qf cs λc cs=>ze6 c cs ke ne se le bd self bad
abbrev ze4(v:AV)(ke ne:Int)(se:Bz)(le bd:Rz)(self:Int)(bad:Bool):Option (AV×List (List AV)):=kTup v λcs=>ze5 cs ke ne se le bd self bad
abbrev ze21(n_1 ke ne:Int)(se:Bz)(le bd:Rz)(self:Int)(bad:Bool):Option (AV×List (List AV)):=kOpt (EVd (EV cfg) 178 [.ptr 0 0 0,.int .i64 (qBZ .i64 ((- 1)*qBZ .i64 n_1))] 7 [[.int .i64 ke,.int .i64 ne,.str se,.sl le,.sl bd,.int .i64 self,.bool bad]]) λq=>ze2 q
abbrev ze20(n_1 ke ne:Int)(se:Bz)(le bd:Rz)(self:Int)(bad:Bool):Option (AV×List (List AV)):=bif decide (n_1>576460752303423488)then ze1 ke ne se le bd self bad else ze21 n_1 ke ne se le bd self bad
abbrev ze19(n ke ne:Int)(se:Bz)(le bd:Rz)(self:Int)(bad:Bool)(n_1:Int):Option (AV×List (List AV)):=bif decide (n>0)then ze1 ke ne se le bd self bad else ze20 n_1 ke ne se le bd self bad
abbrev ze18(cs:List AV)(n ke ne:Int)(se:Bz)(le bd:Rz)(self:Int)(bad:Bool)(n_1:Int):Option (AV×List (List AV)):=kNil cs (ze19 n ke ne se le bd self bad n_1)
abbrev ze17(c:AV)(cs:List AV)(n ke ne:Int)(se:Bz)(le bd:Rz)(self:Int)(bad:Bool):Option (AV×List (List AV)):=kInt .u64 c λn_1=>ze18 cs n ke ne se le bd self bad n_1
abbrev ze16(cs:List AV)(n ke ne:Int)(se:Bz)(le bd:Rz)(self:Int)(bad:Bool):Option (AV×List (List AV)):=qf cs λc cs=>ze17 c cs n ke ne se le bd self bad
abbrev ze15(c:AV)(cs:List AV)(ke ne:Int)(se:Bz)(le bd:Rz)(self:Int)(bad:Bool):Option (AV×List (List AV)):=kInt .u64 c λn=>ze16 cs n ke ne se le bd self bad
abbrev ze14(cs:List AV)(ke ne:Int)(se:Bz)(le bd:Rz)(self:Int)(bad:Bool):Option (AV×List (List AV)):=qf cs λc cs=>ze15 c cs ke ne se le bd self bad
abbrev ze13(v:AV)(ke ne:Int)(se:Bz)(le bd:Rz)(self:Int)(bad:Bool):Option (AV×List (List AV)):=kTup v λcs=>ze14 cs ke ne se le bd self bad
theorem qow(ke ne:Int)(se:Bz)(le bd:Rz)(self:Int)(bad:Bool)(a b:Int){P:AV×List (List AV)->Prop}(h:Gets (bif decide (a<0)then bif decide (b<0)then kOpt (EVs (EV cfg) 187 [.int .u64 (qBZ .u64 (qBZ .i64 (0 - a))),.int .u64 (qBZ .u64 (qBZ .i64 (0 - b)))]) λv=>ze4 v ke ne se le bd self bad else kOpt (EVs (EV cfg) 187 [.int .u64 (qBZ .u64 (qBZ .i64 (0 - a))),.int .u64 (qBZ .u64 b)]) λv=>ze13 v ke ne se le bd self bad else bif decide (b<0)then kOpt (EVs (EV cfg) 187 [.int .u64 (qBZ .u64 a),.int .u64 (qBZ .u64 (qBZ .i64 (0 - b)))]) λv=>ze13 v ke ne se le bd self bad else kOpt (EVs (EV cfg) 187 [.int .u64 (qBZ .u64 a),.int .u64 (qBZ .u64 b)]) λv=>ze4 v ke ne se le bd self bad) P):Gets (EVd (EV cfg) 185 [.ptr 0 0 0,.int .i64 a,.int .i64 b] 7 [[AV.int .i64 ke,AV.int .i64 ne,AV.str se,AV.sl le,AV.sl bd,AV.int .i64 self,AV.bool bad]]) P:=
  gE (λ_=>funD rfl rfl Tryz.func185 rfl) (by kernel_rfl) h
abbrev ze23(n ke ne:Int)(se:Bz)(le bd:Rz)(self:Int)(bad:Bool):Option (AV×List (List AV)):=kOpt (EVd (EV cfg) 178 [.ptr 0 0 0,.int .i64 n] 7 [[.int .i64 ke,.int .i64 ne,.str se,.sl le,.sl bd,.int .i64 self,.bool bad]]) λq=>ze2 q
abbrev ze22(v:AV)(ke ne:Int)(se:Bz)(le bd:Rz)(self:Int)(bad:Bool):Option (AV×List (List AV)):=kInt .i64 v λn=>ze23 n ke ne se le bd self bad
theorem qgz(ke ne:Int)(se:Bz)(le bd:Rz)(self:Int)(bad:Bool)(op:Bz)(a b:Int){P:AV×List (List AV)->Prop}(h:Gets (bif bad then some (.agg [.int .i64 0,.int .i64 0,.str [],.sl []],[[.int .i64 ke,.int .i64 ne,.str se,.sl le,.sl bd,.int .i64 self,.bool bad]])else bif op==[(43:UInt8)]then kOpt (EVd (EV cfg) 178 [.ptr 0 0 0,.int .i64 (qBZ .i64 (a+b))] 7 [[.int .i64 ke,.int .i64 ne,.str se,.sl le,.sl bd,.int .i64 self,.bool bad]]) λq=>ze2 q else bif op==[(45:UInt8)]then kOpt (EVd (EV cfg) 178 [.ptr 0 0 0,.int .i64 (qBZ .i64 (a - b))] 7 [[.int .i64 ke,.int .i64 ne,.str se,.sl le,.sl bd,.int .i64 self,.bool bad]]) λq=>ze2 q else bif op==[(42:UInt8)]then kOpt (EVd (EV cfg) 185 [.ptr 0 0 0,.int .i64 a,.int .i64 b] 7 [[.int .i64 ke,.int .i64 ne,.str se,.sl le,.sl bd,.int .i64 self,.bool bad]]) λq=>ze2 q else bif op==[(98:UInt8),97,110,100]then kOpt (qn (Op.intBits BinOp.and .i64 a b)) λv=>ze22 v ke ne se le bd self bad else bif op==[(98:UInt8),111,114]then kOpt (qn (Op.intBits BinOp.or .i64 a b)) λv=>ze22 v ke ne se le bd self bad else bif op==[(98:UInt8),120,111,114]then kOpt (qn (Op.intBits BinOp.xor .i64 a b)) λv=>ze22 v ke ne se le bd self bad else bif b==0 then ze1 ke ne se le bd self bad else bif op==[(100:UInt8),105,118]then kOpt (qn (Op.intDiv BinOp.quo .i64 a b)) λv=>ze22 v ke ne se le bd self bad else kOpt (qn (Op.intDiv BinOp.rem .i64 a b)) λv=>ze22 v ke ne se le bd self bad) P):Gets (EVd (EV cfg) 181 [.ptr 0 0 0,.str op,.int .i64 a,.int .i64 b] 7 [[AV.int .i64 ke,AV.int .i64 ne,AV.str se,AV.sl le,AV.sl bd,AV.int .i64 self,AV.bool bad]]) P:=
  gE (λ_=>funD rfl rfl Tryz.func181 rfl) (by kernel_rfl) h
theorem qwu(ke ne:Int)(se:Bz)(le bd:Rz)(self:Int)(bad:Bool)(kt nt:Int)(st:Bz)(lt:Rz){P:MV×List (List AV)->Prop}(h:Gets (bif kt != 1 then kOpt (EVd (EV cfg) 168 [.ptr 0 0 0] 7 [[.int .i64 ke,.int .i64 ne,.str se,.sl le,.sl bd,.int .i64 self,.bool bad]]) λq=>kTmV q.1 λn n s rows=>(some (MV.int .i64 nt,q.2))else some (MV.int .i64 nt,[[.int .i64 ke,.int .i64 ne,.str se,.sl le,.sl bd,.int .i64 self,.bool bad]])) P):Gets (EVm (EV cfg) 179 [.ptr 0 0 0,.agg [.int .i64 kt,.int .i64 nt,.str st,.sl lt]] 7 [[AV.int .i64 ke,AV.int .i64 ne,AV.str se,AV.sl le,AV.sl bd,AV.int .i64 self,AV.bool bad]]) P:=
  gE (λ_=>funM rfl rfl Tryz.func179 rfl) (by kernel_rfl) h
abbrev ze24(q:AV×List (List AV))(st:Bz):Option (MV×List (List AV)):=kTmV q.1 λn n s rows=>(some (MV.bool (st==[(116:UInt8),114,117,101]),q.2))
theorem qus(ke ne:Int)(se:Bz)(le bd:Rz)(self:Int)(bad:Bool)(kt nt:Int)(st:Bz)(lt:Rz){P:MV×List (List AV)->Prop}(h:Gets (bif kt != 2 then kOpt (EVd (EV cfg) 168 [.ptr 0 0 0] 7 [[.int .i64 ke,.int .i64 ne,.str se,.sl le,.sl bd,.int .i64 self,.bool bad]]) λq=>ze24 q st else bif ! st==[(116:UInt8),114,117,101]then bif ! st==[(102:UInt8),97,108,115,101]then kOpt (EVd (EV cfg) 168 [.ptr 0 0 0] 7 [[.int .i64 ke,.int .i64 ne,.str se,.sl le,.sl bd,.int .i64 self,.bool bad]]) λq=>ze24 q st else some (MV.bool (st==[(116:UInt8),114,117,101]),[[.int .i64 ke,.int .i64 ne,.str se,.sl le,.sl bd,.int .i64 self,.bool bad]])else some (MV.bool (st==[(116:UInt8),114,117,101]),[[.int .i64 ke,.int .i64 ne,.str se,.sl le,.sl bd,.int .i64 self,.bool bad]])) P):Gets (EVm (EV cfg) 160 [.ptr 0 0 0,.agg [.int .i64 kt,.int .i64 nt,.str st,.sl lt]] 7 [[AV.int .i64 ke,AV.int .i64 ne,AV.str se,AV.sl le,AV.sl bd,AV.int .i64 self,AV.bool bad]]) P:=
  gE (λ_=>funM rfl rfl Tryz.func160 rfl) (by kernel_rfl) h
abbrev ze26(n n_1:Int)(s:Bz)(rows:Rz)(ke ne:Int)(se:Bz)(le bd:Rz)(self:Int)(bad:Bool):Option (AV×List (List AV)):=(some (.agg [.int .i64 n,.int .i64 n_1,.str s,.sl rows],[[.int .i64 ke,.int .i64 ne,.str se,.sl le,.sl bd,.int .i64 self,.bool bad]]))
abbrev ze25(v:AV)(ke ne:Int)(se:Bz)(le bd:Rz)(self:Int)(bad:Bool):Option (AV×List (List AV)):=kTmV v λn n_1 s rows=>ze26 n n_1 s rows ke ne se le bd self bad
abbrev ze34(n n_1:Int)(s:Bz)(rows:Rz)(q:MV×List (List AV)):Option (AV×List (List AV)):=(some (.agg [.int .i64 n,.int .i64 n_1,.str s,.sl rows],q.2))
abbrev ze33(v:AV)(q:MV×List (List AV)):Option (AV×List (List AV)):=kTmV v λn n_1 s rows=>ze34 n n_1 s rows q
abbrev ze32(b_1:Bool)(q:MV×List (List AV)):Option (AV×List (List AV)):=kOpt (EVf (EV cfg) 177 [.bool b_1]) λv=>ze33 v q
abbrev ze35(q:MV×List (List AV)):Option (AV×List (List AV)):=kOpt (EVf (EV cfg) 177 [.bool false]) λv=>ze33 v q
abbrev ze31(b b_1:Bool)(q:MV×List (List AV)):Option (AV×List (List AV)):=bif b then ze32 b_1 q else ze35 q
abbrev ze30(q:MV×List (List AV))(b:Bool):Option (AV×List (List AV)):=xA q.1 λb_1=>ze31 b b_1 q
abbrev ze29(kb nb:Int)(sb:Bz)(lb:Rz)(q:MV×List (List AV))(b:Bool):Option (AV×List (List AV)):=kOpt (EVm (EV cfg) 160 [.ptr 0 0 0,.agg [.int .i64 kb,.int .i64 nb,.str sb,.sl lb]] 7 q.2) λq=>ze30 q b
abbrev ze28(q:MV×List (List AV))(kb nb:Int)(sb:Bz)(lb:Rz):Option (AV×List (List AV)):=xA q.1 λb=>ze29 kb nb sb lb q b
abbrev ze27(ka na:Int)(sa:Bz)(la:Rz)(ke ne:Int)(se:Bz)(le bd:Rz)(self:Int)(bad:Bool)(kb nb:Int)(sb:Bz)(lb:Rz):Option (AV×List (List AV)):=kOpt (EVm (EV cfg) 160 [.ptr 0 0 0,.agg [.int .i64 ka,.int .i64 na,.str sa,.sl la]] 7 [[.int .i64 ke,.int .i64 ne,.str se,.sl le,.sl bd,.int .i64 self,.bool bad]]) λq=>ze28 q kb nb sb lb
abbrev ze41(q:MV×List (List AV)):Option (AV×List (List AV)):=kOpt (EVf (EV cfg) 177 [.bool true]) λv=>ze33 v q
abbrev ze40(b:Bool)(q:MV×List (List AV))(b_1:Bool):Option (AV×List (List AV)):=bif b then ze41 q else ze32 b_1 q
abbrev ze39(q:MV×List (List AV))(b:Bool):Option (AV×List (List AV)):=xA q.1 λb_1=>ze40 b q b_1
abbrev ze38(kb nb:Int)(sb:Bz)(lb:Rz)(q:MV×List (List AV))(b:Bool):Option (AV×List (List AV)):=kOpt (EVm (EV cfg) 160 [.ptr 0 0 0,.agg [.int .i64 kb,.int .i64 nb,.str sb,.sl lb]] 7 q.2) λq=>ze39 q b
abbrev ze37(q:MV×List (List AV))(kb nb:Int)(sb:Bz)(lb:Rz):Option (AV×List (List AV)):=xA q.1 λb=>ze38 kb nb sb lb q b
abbrev ze36(ka na:Int)(sa:Bz)(la:Rz)(ke ne:Int)(se:Bz)(le bd:Rz)(self:Int)(bad:Bool)(kb nb:Int)(sb:Bz)(lb:Rz):Option (AV×List (List AV)):=kOpt (EVm (EV cfg) 160 [.ptr 0 0 0,.agg [.int .i64 ka,.int .i64 na,.str sa,.sl la]] 7 [[.int .i64 ke,.int .i64 ne,.str se,.sl le,.sl bd,.int .i64 self,.bool bad]]) λq=>ze37 q kb nb sb lb
abbrev ze42(q:MV×List (List AV)):Option (AV×List (List AV)):=kOpt (EVd (EV cfg) 168 [.ptr 0 0 0] 7 q.2) λq=>ze2 q
theorem qwr(ke ne:Int)(se:Bz)(le bd:Rz)(self:Int)(bad:Bool)(op:Bz)(ka na:Int)(sa:Bz)(la:Rz)(kb nb:Int)(sb:Bz)(lb:Rz){P:AV×List (List AV)->Prop}(h:Gets (bif op==[(61:UInt8),61]then kOpt (EVs (EV cfg) 29 [.agg [.int .i64 ka,.int .i64 na,.str sa,.sl la],.agg [.int .i64 kb,.int .i64 nb,.str sb,.sl lb]]) λv=>kInt .i64 v λn=>kOpt (EVf (EV cfg) 177 [.bool (n==0)]) λv=>ze25 v ke ne se le bd self bad else bif op==[(61:UInt8),58,61]then kOpt (EVs (EV cfg) 29 [.agg [.int .i64 ka,.int .i64 na,.str sa,.sl la],.agg [.int .i64 kb,.int .i64 nb,.str sb,.sl lb]]) λv=>kInt .i64 v λn=>kOpt (EVf (EV cfg) 177 [.bool (n==0)]) λv=>ze25 v ke ne se le bd self bad else bif op==[(47:UInt8),61]then kOpt (EVs (EV cfg) 29 [.agg [.int .i64 ka,.int .i64 na,.str sa,.sl la],.agg [.int .i64 kb,.int .i64 nb,.str sb,.sl lb]]) λv=>kInt .i64 v λn=>kOpt (EVf (EV cfg) 177 [.bool (n != 0)]) λv=>ze25 v ke ne se le bd self bad else bif op==[(61:UInt8),47,61]then kOpt (EVs (EV cfg) 29 [.agg [.int .i64 ka,.int .i64 na,.str sa,.sl la],.agg [.int .i64 kb,.int .i64 nb,.str sb,.sl lb]]) λv=>kInt .i64 v λn=>kOpt (EVf (EV cfg) 177 [.bool (n != 0)]) λv=>ze25 v ke ne se le bd self bad else bif op==[(60:UInt8)]then kOpt (EVs (EV cfg) 29 [.agg [.int .i64 ka,.int .i64 na,.str sa,.sl la],.agg [.int .i64 kb,.int .i64 nb,.str sb,.sl lb]]) λv=>kInt .i64 v λn=>kOpt (EVf (EV cfg) 177 [.bool (decide (n<0))]) λv=>ze25 v ke ne se le bd self bad else bif op==[(61:UInt8),60]then kOpt (EVs (EV cfg) 29 [.agg [.int .i64 ka,.int .i64 na,.str sa,.sl la],.agg [.int .i64 kb,.int .i64 nb,.str sb,.sl lb]]) λv=>kInt .i64 v λn=>kOpt (EVf (EV cfg) 177 [.bool (decide (n<=0))]) λv=>ze25 v ke ne se le bd self bad else bif op==[(62:UInt8)]then kOpt (EVs (EV cfg) 29 [.agg [.int .i64 ka,.int .i64 na,.str sa,.sl la],.agg [.int .i64 kb,.int .i64 nb,.str sb,.sl lb]]) λv=>kInt .i64 v λn=>kOpt (EVf (EV cfg) 177 [.bool (decide (n>0))]) λv=>ze25 v ke ne se le bd self bad else bif op==[(62:UInt8),61]then kOpt (EVs (EV cfg) 29 [.agg [.int .i64 ka,.int .i64 na,.str sa,.sl la],.agg [.int .i64 kb,.int .i64 nb,.str sb,.sl lb]]) λv=>kInt .i64 v λn=>kOpt (EVf (EV cfg) 177 [.bool (decide (n≥0))]) λv=>ze25 v ke ne se le bd self bad else bif op==[(97:UInt8),110,100]then ze27 ka na sa la ke ne se le bd self bad kb nb sb lb else bif op==[(97:UInt8),110,100,97,108,115,111]then ze27 ka na sa la ke ne se le bd self bad kb nb sb lb else bif op==[(111:UInt8),114]then ze36 ka na sa la ke ne se le bd self bad kb nb sb lb else bif op==[(111:UInt8),114,101,108,115,101]then ze36 ka na sa la ke ne se le bd self bad kb nb sb lb else bif op==[(120:UInt8),111,114]then kOpt (EVm (EV cfg) 160 [.ptr 0 0 0,.agg [.int .i64 ka,.int .i64 na,.str sa,.sl la]] 7 [[.int .i64 ke,.int .i64 ne,.str se,.sl le,.sl bd,.int .i64 self,.bool bad]]) λq=>xA q.1 λb=>kOpt (EVm (EV cfg) 160 [.ptr 0 0 0,.agg [.int .i64 kb,.int .i64 nb,.str sb,.sl lb]] 7 q.2) λq=>xA q.1 λb_1=>kOpt (EVf (EV cfg) 177 [.bool ! b==b_1]) λv=>ze33 v q else bif op==[(101:UInt8),108,101,109,101,110,116]then kOpt (EVm (EV cfg) 179 [.ptr 0 0 0,.agg [.int .i64 ka,.int .i64 na,.str sa,.sl la]] 7 [[.int .i64 ke,.int .i64 ne,.str se,.sl le,.sl bd,.int .i64 self,.bool bad]]) λq=>qa1 .i64 q.1 λn=>bif decide (n≥1)then bif kb==7 then bif decide (n<=(↑ (qB1 lb):Int))then bif qd 0 (qBZ .i64 (n - 1))&&qe (qBZ .i64 (n - 1)) (lb.length:Int)then kOpt (qB0 lb (qB7 (qBZ .i64 (n - 1)))) λrow=>bif qCh (qB1 row) 4 then bif qB4 4 (qB1 row)then kTmC (qB8 4 row) λn n_1 s rows=>ze34 n n_1 s rows q else none else none else none else ze42 q else ze42 q else ze42 q else kOpt (EVm (EV cfg) 179 [.ptr 0 0 0,.agg [.int .i64 ka,.int .i64 na,.str sa,.sl la]] 7 [[.int .i64 ke,.int .i64 ne,.str se,.sl le,.sl bd,.int .i64 self,.bool bad]]) λq=>qa1 .i64 q.1 λn=>kOpt (EVm (EV cfg) 179 [.ptr 0 0 0,.agg [.int .i64 kb,.int .i64 nb,.str sb,.sl lb]] 7 q.2) λq=>qa1 .i64 q.1 λn_1=>kOpt (EVd (EV cfg) 181 [.ptr 0 0 0,.str op,.int .i64 n,.int .i64 n_1] 7 q.2) λq=>ze2 q) P):Gets (EVd (EV cfg) 171 [.ptr 0 0 0,.str op,.agg [.int .i64 ka,.int .i64 na,.str sa,.sl la],.agg [.int .i64 kb,.int .i64 nb,.str sb,.sl lb]] 7 [[AV.int .i64 ke,AV.int .i64 ne,AV.str se,AV.sl le,AV.sl bd,AV.int .i64 self,AV.bool bad]]) P:=
  gE (λ_=>funD rfl rfl Tryz.func171 rfl) (by kernel_rfl) h
abbrev ze43(n:Int)(q:MV×List (List AV)):Option (AV×List (List AV)):=kOpt (EVd (EV cfg) 178 [.ptr 0 0 0,.int .i64 n] 7 q.2) λq=>ze2 q
abbrev ze45(lt:Rz)(ke ne:Int)(se:Bz)(le bd:Rz)(self:Int)(bad:Bool):Option (AV×List (List AV)):=kOpt (EVd (EV cfg) 178 [.ptr 0 0 0,.int .i64 (↑ (qB1 lt):Int)] 7 [[.int .i64 ke,.int .i64 ne,.str se,.sl le,.sl bd,.int .i64 self,.bool bad]]) λq=>ze2 q
abbrev ze44(kt ke ne:Int)(se:Bz)(le bd:Rz)(self:Int)(bad:Bool)(lt:Rz):Option (AV×List (List AV)):=bif kt != (7:Int)then ze1 ke ne se le bd self bad else ze45 lt ke ne se le bd self bad
theorem qws(ke ne:Int)(se:Bz)(le bd:Rz)(self:Int)(bad:Bool)(op:Bz)(kt nt:Int)(st:Bz)(lt:Rz){P:AV×List (List AV)->Prop}(h:Gets (bif op==[(105:UInt8),115,95,97,116,111,109]then kOpt (EVf (EV cfg) 177 [.bool (kt==2)]) λv=>ze25 v ke ne se le bd self bad else bif op==[(105:UInt8),115,95,105,110,116,101,103,101,114]then kOpt (EVf (EV cfg) 177 [.bool (kt==1)]) λv=>ze25 v ke ne se le bd self bad else bif op==[(105:UInt8),115,95,108,105,115,116]then bif kt==9 then kOpt (EVf (EV cfg) 177 [.bool true]) λv=>ze25 v ke ne se le bd self bad else kOpt (EVf (EV cfg) 177 [.bool (kt==8)]) λv=>ze25 v ke ne se le bd self bad else bif op==[(105:UInt8),115,95,116,117,112,108,101]then kOpt (EVf (EV cfg) 177 [.bool (kt==7)]) λv=>ze25 v ke ne se le bd self bad else bif op==[(105:UInt8),115,95,112,105,100]then kOpt (EVf (EV cfg) 177 [.bool (kt==6)]) λv=>ze25 v ke ne se le bd self bad else bif op==[(105:UInt8),115,95,102,117,110,99,116,105,111,110]then kOpt (EVf (EV cfg) 177 [.bool (kt==5)]) λv=>ze25 v ke ne se le bd self bad else bif op==[(105:UInt8),115,95,114,101,102,101,114,101,110,99,101]then bif kt==3 then kOpt (EVf (EV cfg) 177 [.bool true]) λv=>ze25 v ke ne se le bd self bad else kOpt (EVf (EV cfg) 177 [.bool (kt==4)]) λv=>ze25 v ke ne se le bd self bad else bif op==[(110:UInt8),111,116]then kOpt (EVm (EV cfg) 160 [.ptr 0 0 0,.agg [.int .i64 kt,.int .i64 nt,.str st,.sl lt]] 7 [[.int .i64 ke,.int .i64 ne,.str se,.sl le,.sl bd,.int .i64 self,.bool bad]]) λq=>xA q.1 λb=>kOpt (EVf (EV cfg) 177 [.bool ! b]) λv=>ze33 v q else bif op==[(98:UInt8),110,111,116]then kOpt (EVm (EV cfg) 179 [.ptr 0 0 0,.agg [.int .i64 kt,.int .i64 nt,.str st,.sl lt]] 7 [[.int .i64 ke,.int .i64 ne,.str se,.sl le,.sl bd,.int .i64 self,.bool bad]]) λq=>qa1 .i64 q.1 λn=>kOpt (qn (Op.intBits BinOp.xor .i64 (- 1) n)) λv=>kInt .i64 v λn=>ze43 n q else bif op==[(43:UInt8)]then kOpt (EVm (EV cfg) 179 [.ptr 0 0 0,.agg [.int .i64 kt,.int .i64 nt,.str st,.sl lt]] 7 [[.int .i64 ke,.int .i64 ne,.str se,.sl le,.sl bd,.int .i64 self,.bool bad]]) λq=>qa1 .i64 q.1 λn=>ze43 n q else bif op==[(45:UInt8)]then kOpt (EVm (EV cfg) 179 [.ptr 0 0 0,.agg [.int .i64 kt,.int .i64 nt,.str st,.sl lt]] 7 [[.int .i64 ke,.int .i64 ne,.str se,.sl le,.sl bd,.int .i64 self,.bool bad]]) λq=>qa1 .i64 q.1 λn=>kOpt (EVd (EV cfg) 178 [.ptr 0 0 0,.int .i64 (qBZ .i64 (0 - n))] 7 q.2) λq=>ze2 q else bif op==[(97:UInt8),98,115]then kOpt (EVm (EV cfg) 179 [.ptr 0 0 0,.agg [.int .i64 kt,.int .i64 nt,.str st,.sl lt]] 7 [[.int .i64 ke,.int .i64 ne,.str se,.sl le,.sl bd,.int .i64 self,.bool bad]]) λq=>qa1 .i64 q.1 λn=>kOpt (EVd (EV cfg) 178 [.ptr 0 0 0,.int .i64 (if(λb a=>decide (a<b)) (qBZ .i64 (0 - nt)) n=true then qBZ .i64 (0 - nt)else n)] 7 q.2) λq=>ze2 q else bif op==[(116:UInt8),117,112,108,101,95,115,105,122,101]then ze44 kt ke ne se le bd self bad lt else bif op==[(115:UInt8),105,122,101]then ze44 kt ke ne se le bd self bad lt else kOpt (EVd (EV cfg) 180 [.ptr 0 0 0,.str op,.agg [.int .i64 kt,.int .i64 nt,.str st,.sl lt]] 7 [[.int .i64 ke,.int .i64 ne,.str se,.sl le,.sl bd,.int .i64 self,.bool bad]]) λq=>ze2 q) P):Gets (EVd (EV cfg) 170 [.ptr 0 0 0,.str op,.agg [.int .i64 kt,.int .i64 nt,.str st,.sl lt]] 7 [[AV.int .i64 ke,AV.int .i64 ne,AV.str se,AV.sl le,AV.sl bd,AV.int .i64 self,AV.bool bad]]) P:=
  gE (λ_=>funD rfl rfl Tryz.func170 rfl) (by kernel_rfl) h
theorem qsk(ke ne:Int)(se:Bz)(le bd:Rz)(self:Int)(bad:Bool)(op:Bz)(L:Rz){P:AV×List (List AV)->Prop}(h:Gets (bif(L.length:Int)==1 then bif qe 0 (L.length:Int)then kOpt (qB0 L 0) λrow=>bif qCh (qB1 row) 4 then bif qB4 4 (qB1 row)then kTmC (qB8 4 row) λn n_1 s rows=>(kOpt (EVd (EV cfg) 170 [.ptr 0 0 0,.str op,.agg [.int .i64 n,.int .i64 n_1,.str s,.sl rows]] 7 [[.int .i64 ke,.int .i64 ne,.str se,.sl le,.sl bd,.int .i64 self,.bool bad]]) λq=>kTmV q.1 λn n_2 s rows=>(some (.agg [.int .i64 n,.int .i64 n_2,.str s,.sl rows],q.2)))else none else none else none else bif(L.length:Int)==2 then bif qe 0 (L.length:Int)then kOpt (qB0 L 0) λrow=>bif qCh (qB1 row) 4 then bif qB4 4 (qB1 row)then kTmC (qB8 4 row) λn n_1 s rows=>(bif qe 1 (L.length:Int)then kOpt (qB0 L 1) λrow=>bif qCh (qB1 row) 4 then bif qB4 4 (qB1 row)then kTmC (qB8 4 row) λn_2 n_3 s_1 rows_1=>(kOpt (EVd (EV cfg) 171 [.ptr 0 0 0,.str op,.agg [.int .i64 n,.int .i64 n_1,.str s,.sl rows],.agg [.int .i64 n_2,.int .i64 n_3,.str s_1,.sl rows_1]] 7 [[.int .i64 ke,.int .i64 ne,.str se,.sl le,.sl bd,.int .i64 self,.bool bad]]) λq=>kTmV q.1 λn n_4 s rows=>(some (.agg [.int .i64 n,.int .i64 n_4,.str s,.sl rows],q.2)))else none else none else none)else none else none else none else some (.agg [.int .i64 6,.int .i64 self,.str [],.sl []],[[.int .i64 ke,.int .i64 ne,.str se,.sl le,.sl bd,.int .i64 self,.bool bad]])) P):Gets (EVd (EV cfg) 161 [.ptr 0 0 0,.str op,.sl L] 7 [[AV.int .i64 ke,AV.int .i64 ne,AV.str se,AV.sl le,AV.sl bd,AV.int .i64 self,AV.bool bad]]) P:=
  gE (λ_=>funD rfl rfl Tryz.func161 rfl) (by kernel_rfl) h
theorem qic(A:Rz)(n v8:Int){P:AV->Prop}(h:Gets (bif decide (v8<(A.length:Int))then bif qd 0 v8&&qe v8 (A.length:Int)then kOpt (qB0 A (v8.toNat)) λrow=>bif qCh (qB1 row) 1 then kOpt (qB0 row 0) λv=>kInt .i64 v λn_1=>bif n==n_1 then some (.int .i64 v8)else qjC A n (qBZ .i64 (v8+1))else none else none else some (.int .i64 (- 1))) P):Gets (qjC A n v8) P:=
  gE (λ_=>ql (cfg:=cfg) (f:=172) (rd:=none) (bs:=0)) (by kernel_rfl) h
theorem xW(e:Env)(b:Bool):EVd (EV cfg) 168 [.ptr 0 0 0] 7 (mR e b)=some (xb.av,mR e true):=by
 apply Gets.get;refine qsi _ _ _ _ _ _ _ ?_;rw[qbi];simp
theorem qka(e:Env)(b:Bool)(n:Int):EVd (EV cfg) 178 [.ptr 0 0 0,.int .i64 n] 7 (mR e b)=some (if InB n then((numT n).av,mR e b)else(xb.av,mR e true)):=by
 have hr:=xW e b;apply Gets.get;refine qqh _ _ _ _ _ _ _ _ ?_;unfold ze1 ze2 ze3;simp only[hr];unfold InB;rw[qya]
 by_cases h1:n< -576460752303423488
 ·have:¬(-576460752303423488<=n∧n<=576460752303423487):=by omega
  simp[h1,this]
 ·by_cases h2:n>576460752303423487
  ·have:¬(-576460752303423488<=n∧n<=576460752303423487):=by omega
   simp[h1,h2,this]
  ·have:(-576460752303423488<=n∧n<=576460752303423487):=by omega
   simp[h1,h2,this]
theorem zd(e:Env)(n:Int){P:AV×List (List AV)->Prop}(h:∀r,Res e (qS n) r->(∃t:Tm,r.1=t.av)->P r):Gets (EVd (EV cfg) 178 [.ptr 0 0 0,.int .i64 n] 7 (mR e false)) P:=by
 rw[qka];refine⟨_,rfl,h _ ?_ ?_⟩
 ·unfold qS Res
  by_cases hb:InB n
  ·simp[hb]
  ·simp[hb];exact⟨_,rfl⟩
 ·by_cases hb:InB n
  ·exact⟨numT n,by simp[hb]⟩
  ·exact⟨xb,by simp[hb]⟩
theorem qgA(e:Env)(op:List UInt8)(a b:Int):EVd (EV cfg) 181 [.ptr 0 0 0,.str op,.int .i64 a,.int .i64 b] 7 (mR e true)=some (xb.av,mR e true):=by
 apply Gets.get;refine qgz _ _ _ _ _ _ _ _ _ _ ?_;unfold ze22 ze23 ze1 ze2 ze3;rw[qbi];simp
def xH:Prop:=∀(e:Env) (a b:Int),InB a->InB b->Gets (EVd (EV cfg) 185 [.ptr 0 0 0,.int .i64 a,.int .i64 b] 7 (mR e false)) (Res e (qS (a*b)))
theorem zb{e:Env}{o:Option Tm}{r:AV×List (List AV)}(h:Res e o r)(ht:∃t:Tm,r.1=t.av):Gets (kTmV r.1 fun(n n_1:Int) (s:List UInt8) (rows:List (List AV))=>some (AV.agg [.int .i64 n,.int .i64 n_1,.str s,.sl rows],r.2)) (Res e o):=by
 obtain⟨t,ht⟩:=ht;rw[ht,qV];refine⟨_,rfl,?_⟩;have:(AV.agg [.int .i64 t.kind,.int .i64 t.num,.str t.str,.sl (qa t.subs)],r.2)=r:=by
  rw[←Tm.cells_eq];exact Prod.ext ht.symm rfl
 rw[this];exact h
theorem z3{e:Env}{o:Option Tm}{r:AV×List (List AV)}(h:Res e o r):∃t:Tm,r.1=t.av:=by
 unfold Res at h;split at h
 ·exact⟨_,by rw[h]⟩
 ·exact h.2
theorem qqg(e:Env)(op:List UInt8){a b:Int}(ha:InB a)(hb:InB b)(hp:op=[42]->xH):Gets (EVd (EV cfg) 181 [.ptr 0 0 0,.str op,.int .i64 a,.int .i64 b] 7 (mR e false)) (Res e (qaE op a b)):=by
 have num:∀n,Gets (kOpt (EVd (EV cfg) 178 [.ptr 0 0 0,.int .i64 n] 7 (mR e false)) λq=>kTmV q.1 fun(n n_1:Int) (s:List UInt8) (rows:List (List AV))=>some (AV.agg [.int .i64 n,.int .i64 n_1,.str s,.sl rows],q.2)) (Res e (qS n)):=
  λn=>Gets.bind (zd e n λr h1 h2=>h1) λr h=>zb h (z3 h)
 refine qgz _ _ _ _ _ _ _ _ _ _ ?_;unfold ze22 ze23 ze1 ze2 ze3;have ha':=ha;have hb':=hb;obtain⟨a1,a2⟩:=ha;obtain⟨b1,b2⟩:=hb;simp only[beqS,beqD,cond_false];unfold qaE
 by_cases h1:op=[43]
 ·rw[qCM h1,qCK h1,cond_true,qt (by omega) (by omega)];exact num _
 rw[qCN h1,qCL h1,cond_false]
 by_cases h2:op=[45]
 ·rw[qCM h2,qCK h2,cond_true,qt (by omega) (by omega)];exact num _
 rw[qCN h2,qCL h2,cond_false]
 by_cases h3:op=[42]
 ·rw[qCM h3,qCK h3,cond_true];exact Gets.bind (hp h3 e a b ha' hb') λr h=>zb h (z3 h)
 rw[qCN h3,qCL h3,cond_false]
 by_cases h4:op=[98,97,110,100]
 ·rw[qCM h4,qCK h4,cond_true,qyn ha' hb'];simp only[qb,qi];exact num _
 rw[qCN h4,qCL h4,cond_false]
 by_cases h5:op=[98,111,114]
 ·rw[qCM h5,qCK h5,cond_true,qz6 ha' hb'];simp only[qb,qi];exact num _
 rw[qCN h5,qCL h5,cond_false]
 by_cases h6:op=[98,120,111,114]
 ·rw[qCM h6,qCK h6,cond_true,qym ha' hb'];simp only[qb,qi];exact num _
 rw[qCN h6,qCL h6,cond_false]
 by_cases h7:b=0
 ·rw[qCM h7,qCK h7,cond_true,xW];simp only[qb,qV];exact⟨_,rfl,rfl,xb,by rw[Tm.av,Tm.cells_eq]⟩
 rw[qCN h7,qCL h7,cond_false,yN h7,qsD h7]
 by_cases h8:op=[100,105,118]
 ·have:=qvP (a:=a) h7;rw[qCM h8,qCK h8,cond_true,qt (by omega) (by omega)];simp only[qb,qi];exact num _
 ·rw[qCN h8,qCL h8,cond_false];simp only[qb,qi];exact num _
def qAK:Den:=evC cfg (EV cfg) 65 none 0 (sub (qc Tryz.f65) [1,1,0,1,0,0])
def qBj:Ex×List AV×AH->Option AV:=kAft (Cfg.keepOut cfg 65 3) (kRun cfg (EV cfg) (kfN cfg 6) 65 none 0 (xS cfg (Cfg.lift cfg 65 0) Tryz.f65.results.toList) ([.block 0,.seq (sub (qc Tryz.f65) [1,1,1])]))
def qvo:List AV×AH->Option AV:=λp=>kOpt (LOOP 0 (some [3,6,7,8]) ([]) qAK p) qBj
def qAJ:Den:=evC cfg (EV cfg) 78 none 0 (sub (qc Tryz.f78) [1,0,1,0,0])
def qBi:Ex×List AV×AH->Option AV:=kAft (Cfg.keepOut cfg 78 2) (kRun cfg (EV cfg) (kfN cfg 6) 78 none 0 (xS cfg (Cfg.lift cfg 78 0) Tryz.f78.results.toList) ([.block 0,.seq (sub (qc Tryz.f78) [1,1])]))
def qAk:List AV×AH->Option AV:=λp=>kOpt (LOOP 0 (some [0,1,2,11,12,13]) ([]) qAJ p) qBi
def qAN:Den:=evC cfg (EV cfg) 29 none 0 (sub (qc Tryz.f29) [1,0,1,0,0])
def qBm:Ex×List AV×AH->Option AV:=kAft (Cfg.keepOut cfg 29 1) (kRun cfg (EV cfg) (kfN cfg 6) 29 none 0 (xS cfg (Cfg.lift cfg 29 0) Tryz.f29.results.toList) ([.block 0,.scope]))
def qAo:List AV×AH->Option AV:=λp=>kOpt (LOOP 0 (some [2,3]) ([]) qAN p) qBm
abbrev qdS(a b c v8:Int):Option (AV):=qvo (((fx 18 [(3,.int .i64 (0:Int)),(6,.sl [[.int .i64 a],[.int .i64 b],[.int .i64 c]]),(7,.int .i64 (3:Int)),(8,.int .i64 v8)]):List AV),([]:AH))
abbrev qdR(a b v8:Int):Option (AV):=qvo (((fx 18 [(3,.int .i64 (0:Int)),(6,.sl [[.int .i64 a],[.int .i64 b]]),(7,.int .i64 (2:Int)),(8,.int .i64 v8)]):List AV),([]:AH))
abbrev qjs(A B:Rz)(v13:Int):Option (AV):=qAk (((fx 39 [(0,.sl A),(1,.sl B),(2,.fn (Fn.func 29) [] []),(11,.sl A),(12,.int .i64 (A.length:Int)),(13,.int .i64 v13)]):List AV),([]:AH))
abbrev qju(c0_0 c0_1:Int)(c0_2:Bz)(c0_3:Rz)(c1_0 c1_1:Int)(c1_2:Bz)(c1_3:Rz):Option (AV):=qAo (((fx 117 [(2,.ptr 0 0 0),(3,.ptr 1 0 0)]):List AV),([.rows false 4 [[.int .i64 c0_0,.int .i64 c0_1,.str c0_2,.sl c0_3]],.rows false 4 [[.int .i64 c1_0,.int .i64 c1_1,.str c1_2,.sl c1_3]]]:AH))
theorem qwR(a b:Int){P:AV->Prop}(h:Gets (kOpt (EVs (EV cfg) 98 [.int .i64 a]) λv=>qr v λb_1=>kOpt (EVs (EV cfg) 98 [.int .i64 b]) λv=>qr v λb_2=>bif b_1 then bif b_2 then some (.int .i64 0)else some (.int .i64 (- 1))else bif b_2 then some (.int .i64 1)else bif decide (a<b)then some (.int .i64 (- 1))else bif decide (a>b)then some (.int .i64 1)else some (.int .i64 0)) P):Gets (EVs (EV cfg) 63 [.int .i64 a,.int .i64 b]) P:=
  gE (λ_=>funS rfl rfl Tryz.func63 rfl) (by kernel_rfl) h
theorem qu7(a b:Bz){P:AV->Prop}(h:Gets (kOpt (EVs (EV cfg) 99 [.str a,.str b]) λv=>kInt .i64 v λn=>some (.int .i64 n)) P):Gets (EVs (EV cfg) 64 [.str a,.str b]) P:=
  gE (λ_=>funS rfl rfl Tryz.func64 rfl) (by kernel_rfl) h
theorem qx5(a b c:Int){P:AV->Prop}(h:Gets (qdS a b c 0) P):Gets (EVs (EV cfg) 65 [.sl [[.int .i64 a],[.int .i64 b],[.int .i64 c]]]) P:=
  gE (λ_=>funS rfl rfl Tryz.func65 rfl) (by kernel_rfl) h
theorem qx6(a b:Int){P:AV->Prop}(h:Gets (qdR a b 0) P):Gets (EVs (EV cfg) 65 [.sl [[.int .i64 a],[.int .i64 b]]]) P:=
  gE (λ_=>funS rfl rfl Tryz.func65 rfl) (by kernel_rfl) h
theorem qqH(A B:Rz){P:AV->Prop}(h:Gets (qjs A B 0) P):Gets (EVs (EV cfg) 78 [.sl A,.sl B,.fn (Fn.func 29) [] []]) P:=
  gE (λ_=>funS rfl rfl Tryz.func78 rfl) (by kernel_rfl) h
theorem qsA(a:Int){P:AV->Prop}(h:Gets (some (.bool (a != a))) P):Gets (EVs (EV cfg) 98 [.int .i64 a]) P:=
  gE (λ_=>funS rfl rfl Tryz.func98 rfl) (by kernel_rfl) h
theorem qs4(a b:Bz){P:AV->Prop}(h:Gets (kOpt (EVs (EV cfg) 127 [.str a,.str b]) λv=>kInt .i64 v λn=>some (.int .i64 n)) P):Gets (EVs (EV cfg) 99 [.str a,.str b]) P:=
  gE (λ_=>funS rfl rfl Tryz.func99 rfl) (by kernel_rfl) h
theorem qj2(A B:Rz){P:AV->Prop}(h:Gets (kOpt (EVs (EV cfg) 78 [.sl A,.sl B,AV.fn (Fn.func 29) [] []]) λv=>kInt .i64 v λn=>some (.int .i64 n)) P):Gets (EVs (EV cfg) 66 [.sl A,.sl B]) P:=
  gE (λ_=>funS rfl rfl Tryz.func66 rfl) (by kernel_rfl) h
theorem qgt(ka na:Int)(sa:Bz)(la:Rz)(kb nb:Int)(sb:Bz)(lb:Rz){P:AV->Prop}(h:Gets (qju ka na sa la kb nb sb lb) P):Gets (EVs (EV cfg) 29 [.agg [.int .i64 ka,.int .i64 na,.str sa,.sl la],.agg [.int .i64 kb,.int .i64 nb,.str sb,.sl lb]]) P:=
  gE (λ_=>funS rfl rfl Tryz.func29 rfl) (by kernel_rfl) h
theorem qbA(a b c v8:Int){P:AV->Prop}(h:Gets (bif decide (v8<3)then bif qd 0 v8&&qe v8 (↑ 3:Int)then kOpt (qB0 [[.int .i64 a],[.int .i64 b],[.int .i64 c]] (v8.toNat)) λrow=>bif qCh (qB1 row) 1 then kOpt (qB0 row 0) λv=>kInt .i64 v λn=>bif n != 0 then some (.int .i64 n)else qdS a b c (qBZ .i64 (v8+1))else none else none else some (.int .i64 0)) P):Gets (qdS a b c v8) P:=
  gE (λ_=>ql (cfg:=cfg) (f:=65) (rd:=none) (bs:=0)) (by kernel_rfl) h
theorem qcC(a b v8:Int){P:AV->Prop}(h:Gets (bif decide (v8<2)then bif qd 0 v8&&qe v8 (↑ 2:Int)then kOpt (qB0 [[.int .i64 a],[.int .i64 b]] (v8.toNat)) λrow=>bif qCh (qB1 row) 1 then kOpt (qB0 row 0) λv=>kInt .i64 v λn=>bif n != 0 then some (.int .i64 n)else qdR a b (qBZ .i64 (v8+1))else none else none else some (.int .i64 0)) P):Gets (qdR a b v8) P:=
  gE (λ_=>ql (cfg:=cfg) (f:=65) (rd:=none) (bs:=0)) (by kernel_rfl) h
theorem qhZ(A B:Rz)(v13:Int){P:AV->Prop}(h:Gets (bif decide (v13<(A.length:Int))then bif qd 0 v13&&qe v13 (A.length:Int)then kOpt (qB0 A (v13.toNat)) λrow=>bif qCh (qB1 row) 4 then bif qB4 4 (qB1 row)then kTmC (qB8 4 row) λn n_1 s rows=>(bif decide (v13≥(↑ (qB1 B):Int))then some (.int .i64 1)else bif qd 0 v13&&qe v13 (B.length:Int)then kOpt (qB0 B (v13.toNat)) λrow=>bif qCh (qB1 row) 4 then bif qB4 4 (qB1 row)then kTmC (qB8 4 row) λn_2 n_3 s_1 rows_1=>(kOpt (EVs (EV cfg) 29 [.agg [.int .i64 n,.int .i64 n_1,.str s,.sl rows],.agg [.int .i64 n_2,.int .i64 n_3,.str s_1,.sl rows_1]]) λv=>kInt .i64 v λn=>bif n != 0 then some (.int .i64 n)else qjs A B (qBZ .i64 (v13+1)))else none else none else none)else none else none else none else bif decide ((A.length:Int)<(B.length:Int))then some (.int .i64 (- 1))else some (.int .i64 0)) P):Gets (qjs A B v13) P:=
  gE (λ_=>ql (cfg:=cfg) (f:=78) (rd:=none) (bs:=0)) (by kernel_rfl) h
abbrev zf0(c0_1 c1_1:Int):Option (AV):=kOpt (EVs (EV cfg) 63 [.int .i64 c0_1,.int .i64 c1_1]) λv=>kInt .i64 v λn=>some (.int .i64 n)
abbrev zf5(n n_1:Int):Option (AV):=kOpt (EVs (EV cfg) 65 [.sl [[.int .i64 n],[.int .i64 n_1]]]) λv=>kInt .i64 v λn=>some (.int .i64 n)
abbrev zf4(v:AV)(n:Int):Option (AV):=kInt .i64 v λn_1=>zf5 n n_1
abbrev zf3(c0_3 c1_3:Rz)(n:Int):Option (AV):=kOpt (EVs (EV cfg) 66 [.sl c0_3,.sl c1_3]) λv=>zf4 v n
abbrev zf2(v:AV)(c0_3 c1_3:Rz):Option (AV):=kInt .i64 v λn=>zf3 c0_3 c1_3 n
abbrev zf1(c0_3 c1_3:Rz):Option (AV):=kOpt (EVs (EV cfg) 63 [.int .i64 (c0_3.length:Int),.int .i64 (↑ (qB1 c1_3):Int)]) λv=>zf2 v c0_3 c1_3
theorem qpF(c0_0 c0_1:Int)(c0_2:Bz)(c0_3:Rz)(c1_0 c1_1:Int)(c1_2:Bz)(c1_3:Rz){P:AV->Prop}(h:Gets (kOpt (EVs (EV cfg) 63 [.int .i64 c0_0,.int .i64 c1_0]) λv=>kInt .i64 v λn=>bif n != 0 then some (.int .i64 n)else bif c0_0==1 then zf0 c0_1 c1_1 else bif c0_0==3 then zf0 c0_1 c1_1 else bif c0_0==4 then zf0 c0_1 c1_1 else bif c0_0==6 then zf0 c0_1 c1_1 else bif c0_0==2 then kOpt (EVs (EV cfg) 64 [.str c0_2,.str c1_2]) λv=>kInt .i64 v λn=>some (.int .i64 n)else bif c0_0==5 then kOpt (EVs (EV cfg) 63 [.int .i64 c0_1,.int .i64 c1_1]) λv=>kInt .i64 v λn=>kOpt (EVs (EV cfg) 63 [.int .i64 (c0_3.length:Int),.int .i64 (c1_3.length:Int)]) λv=>kInt .i64 v λn_1=>kOpt (EVs (EV cfg) 66 [.sl c0_3,.sl c1_3]) λv=>kInt .i64 v λn_2=>kOpt (EVs (EV cfg) 65 [.sl [[.int .i64 n],[.int .i64 n_1],[.int .i64 n_2]]]) λv=>kInt .i64 v λn=>some (.int .i64 n)else bif c0_0==9 then bif(↑ (qB1 c0_3):Int)==2 then bif(c1_3.length:Int)==2 then bif qe 0 (c0_3.length:Int)then kOpt (qB0 c0_3 0) λrow=>bif qCh (qB1 row) 4 then bif qB4 4 (qB1 row)then kTmC (qB8 4 row) λn n_1 s rows=>(bif qe (0:Int) (c1_3.length:Int)then kOpt (qB0 c1_3 0) λrow=>bif qCh (qB1 row) 4 then bif qB4 4 (qB1 row)then kTmC (qB8 4 row) λn_2 n_3 s_1 rows_1=>(kOpt (EVs (EV cfg) 29 [.agg [.int .i64 n,.int .i64 n_1,.str s,.sl rows],.agg [.int .i64 n_2,.int .i64 n_3,.str s_1,.sl rows_1]]) λv=>kInt .i64 v λn=>bif n != 0 then some (.int .i64 n)else bif qe 1 (c0_3.length:Int)then kOpt (qB0 c0_3 1) λrow=>bif qCh (qB1 row) 4 then bif qB4 4 (qB1 row)then kTmC (qB8 4 row) λn n_4 s rows=>(bif qe 1 (c1_3.length:Int)then kOpt (qB0 c1_3 1) λrow=>bif qCh (qB1 row) 4 then bif qB4 4 (qB1 row)then kTmC (qB8 4 row) λn_5 n_6 s_2 rows_2=>(qju n n_4 s rows n_5 n_6 s_2 rows_2)else none else none else none)else none else none else none)else none else none else none)else none else none else none else zf1 c0_3 c1_3 else zf1 c0_3 c1_3 else bif c0_0==7 then kOpt (EVs (EV cfg) 63 [.int .i64 (c0_3.length:Int),.int .i64 (c1_3.length:Int)]) λv=>zf2 v c0_3 c1_3 else some (.int .i64 0)) P):Gets (qju c0_0 c0_1 c0_2 c0_3 c1_0 c1_1 c1_2 c1_3) P:=
  gE (λ_=>ql (cfg:=cfg) (f:=29) (rd:=none) (bs:=0)) (by kernel_rfl) h
theorem qoP(a:Int):EVs (EV cfg) 98 [.int .i64 a]=some (.bool false):=by
 apply Gets.get;refine qsA _ ?_;simp
theorem qpg(a b:Int):EVs (EV cfg) 63 [.int .i64 a,.int .i64 b]=some (.int .i64 (numC a b)):=by
 apply Gets.get;refine qwR _ _ ?_;rw[qoP,qoP];unfold numC
 by_cases h1:a<b
 ·simp[h1]
 ·by_cases h2:b<a
  ·simp[h1,h2]
  ·simp[h1,h2]
theorem qu5(a b:List UInt8):EVs (EV cfg) 127 [.str a,.str b]=some (.int .i64 (strC a b)):=by
 refine qvE (H:=[]) (qhN ?_);have hx:cfg.ext 127=some qc6:=rfl;unfold xn;simp only[hx];unfold qc6 strC
 by_cases h:a=b
 ·simp[h]
 ·simp[h]
theorem qtH(a b:List UInt8):EVs (EV cfg) 64 [.str a,.str b]=some (.int .i64 (strC a b)):=by
 have h96:EVs (EV cfg) 99 [.str a,.str b]=some (.int .i64 (strC a b)):=by
  apply Gets.get;refine qs4 _ _ ?_;rw[qu5];simp
 apply Gets.get;refine qu7 _ _ ?_;rw[h96];simp
theorem qub(a b c:Int):EVs (EV cfg) 65 [.sl [[.int .i64 a],[.int .i64 b],[.int .i64 c]]]=some (.int .i64 (if a≠0 then a else if b≠0 then b else c)):=by
 apply Gets.get;refine qx5 _ _ _ ?_;have w1:qBZ .i64 (0+1)=1:=qt (by omega) (by omega);have w2:qBZ .i64 (1+1)=2:=qt (by omega) (by omega);have w3:qBZ .i64 (2+1)=3:=qt (by omega) (by omega);have s3:Gets (qdS a b c 3) (·= .int .i64 0):=by
  refine qbA _ _ _ _ ?_;simp
 have s2:Gets (qdS a b c 2) (·= .int .i64 c):=by
  refine qbA _ _ _ _ ?_;rw[w3]
  by_cases h:c=0
  ·subst h;simp;exact s3
  ·simp[bneD,h]
 have s1:Gets (qdS a b c 1) (·= .int .i64 (if b≠0 then b else c)):=by
  refine qbA _ _ _ _ ?_;rw[w2]
  by_cases h:b=0
  ·subst h;simp;exact s2
  ·simp[bneD,h]
 refine qbA _ _ _ _ ?_;rw[w1]
 by_cases h:a=0
 ·subst h;simp only[ne_eq,ite_not]at s1;simp;exact s1
 ·simp[bneD,h]
theorem qzT(a b:Int):EVs (EV cfg) 65 [.sl [[.int .i64 a],[.int .i64 b]]]=some (.int .i64 (if a≠0 then a else b)):=by
 apply Gets.get;refine qx6 _ _ ?_;have w1:qBZ .i64 (0+1)=1:=qt (by omega) (by omega);have w2:qBZ .i64 (1+1)=2:=qt (by omega) (by omega);have s2:Gets (qdR a b 2) (·= .int .i64 0):=by
  refine qcC _ _ _ ?_;simp
 have s1:Gets (qdR a b 1) (·= .int .i64 b):=by
  refine qcC _ _ _ ?_;rw[w2]
  by_cases h:b=0
  ·subst h;simp;exact s2
  ·simp[bneD,h]
 refine qcC _ _ _ ?_;rw[w1]
 by_cases h:a=0
 ·subst h;simp;exact s1
 ·simp[bneD,h]
theorem qi1{β:Type}{l:List β}{i:Nat}{x:β}(h:l[i]? =some x):l.drop i=x::l.drop (i+1):=by
 obtain⟨h1,h2⟩:=qB5.1 h;rw[←h2];exact qCp h1
theorem qlR{β:Type}{l:List β}{i:Nat}(h:l.length<=i):l.drop i=[]:=qCs h
theorem quu(la lb:List Tm)(hlen:la.length<1099511627776)(ih:∀a∈la,∀b∈lb,EVs (EV cfg) 29 [a.av,b.av]=some (.int .i64 (cmpT a b))):
  EVs (EV cfg) 78 [.sl (qa la),.sl (qa lb),.fn (.func 29) [] []]=some (.int .i64 (cmpE la lb)):=by
 have loop:∀(d i:Nat),i+d=la.length->Gets (qjs (qa la) (qa lb) i) (·= .int .i64 (cmpE (la.drop i) (lb.drop i))):=by
  intro d
  induction d with
  |zero=>
   intro i hi;refine qhZ _ _ _ ?_;rw[qlR (l:=la) (by omega)]
   by_cases h:i<lb.length
   ·obtain⟨y,hy⟩:∃y,lb[i]? =some y:=⟨_,qB3 h⟩;rw[qi1 hy,qm8];simp[show ¬i<la.length by omega,show la.length<lb.length by omega]
   ·rw[qlR (l:=lb) (by omega),qph];simp[show ¬i<la.length by omega,show ¬la.length<lb.length by omega]
  |succ d ihd=>
   intro i hi;refine qhZ _ _ _ ?_;obtain⟨x,hx⟩:∃x,la[i]? =some x:=⟨_,qB3 (by omega)⟩;rw[qi1 hx]
   by_cases h:i<lb.length
   ·obtain⟨y,hy⟩:∃y,lb[i]? =some y:=⟨_,qB3 h⟩;have hix:=ih x (qCc hx) y (qCc hy);have hih:=ihd (i+1) (by omega);rw[qi1 hy,qgW];obtain⟨k,n,s,l⟩:=x;obtain⟨k',n',s',l'⟩:=y;simp only[qv,qCi,qeK hx,qeK hy];simp[show i<la.length by omega,h,show ¬lb.length<=i by omega,hix,bneD]
    by_cases hc:cmpT (.mk k n s l) (.mk k' n' s' l')=0
    ·simp[hc];rw[qZ (n:=la.length) (by omega) hlen];exact hih
    ·simp[hc]
   ·rw[qlR (l:=lb) (by omega),qm9];obtain⟨k,n,s,l⟩:=x;simp only[qv,qCi,qeK hx];simp[show i<la.length by omega,show lb.length<=i by omega]
 apply Gets.get;refine qqH _ _ ?_;exact loop la.length 0 (by omega)
theorem qww(la lb:List Tm)(hlen:la.length<1099511627776)(ih:∀a∈la,∀b∈lb,EVs (EV cfg) 29 [a.av,b.av]=some (.int .i64 (cmpT a b))):
  EVs (EV cfg) 66 [.sl (qa la),.sl (qa lb)]=some (.int .i64 (cmpE la lb)):=by
 apply Gets.get;refine qj2 _ _ ?_;rw[quu la lb hlen ih];simp
theorem qpd(a:Tm):a.Ok->∀(kb nb:Int) (sb:List UInt8) (lb:List Tm),(Tm.mk kb nb sb lb).Ok->Gets (qju a.kind a.num a.str (qa a.subs) kb nb sb (qa lb)) (·= .int .i64 (cmpT a (.mk kb nb sb lb))):=by
 induction a using Tm.ind with
 |_ k n s l ih=>
  intro hok kb nb sb lb hokb;have ihe:∀a∈l,∀b∈lb,EVs (EV cfg) 29 [a.av,b.av]=some (.int .i64 (cmpT a b)):=by
   intro a ha b hb;have:=ih a ha (hok.sub ha);have hob:=hokb.sub hb;obtain⟨k1,n1,s1,l1⟩:=a;obtain⟨k2,n2,s2,l2⟩:=b;rw[Tm.av_mk,Tm.av_mk];apply Gets.get;exact qgt _ _ _ _ _ _ _ _ (this k2 n2 s2 l2 hob)
  have hlists:=qww l lb hok.len ihe;rw[qyk];refine qpF _ _ _ _ _ _ _ _ ?_;unfold zf1 zf2 zf3 zf4 zf5 zf0;simp only[Tm.kind,Tm.num,Tm.str,Tm.subs,qpg,qtH,hlists,qzT,qub,qg,qb,qi,bneD,beqD]
  by_cases h0:¬numC k kb=0
  ·simp[h0]
  have h0:numC k kb=0:=Classical.not_not.1 h0;simp[h0]
  by_cases h1:k=1
  ·simp[h1]
  by_cases h3:k=3
  ·simp[h3]
  by_cases h4:k=4
  ·simp[h4]
  by_cases h6:k=6
  ·simp[h6]
  by_cases h2:k=2
  ·simp[h2]
  by_cases h5:k=5
  ·simp[h5,cmpL]
  by_cases h9:k=9
  ·subst h9
   by_cases hl:l.length=2
   ·by_cases hl':lb.length=2
    ·obtain⟨x,y,rfl⟩:∃x y,l=[x,y]:=by
      match l,hl with
      |[x,y],_=>exact⟨x,y,rfl⟩
     obtain⟨x',y',rfl⟩:∃x y,lb=[x,y]:=by
      match lb,hl' with
      |[x,y],_=>exact⟨x,y,rfl⟩
     have hx:=ihe x (by simp) x' (by simp);have hy:=ih y (by simp) (hok.sub (by simp));have hoy:=hokb.sub (t:=y') (by simp);have hcl:cmpL [x,y] [x',y']=if cmpT x x'≠0 then cmpT x x' else cmpT y y':=by
      unfold cmpL;rw[qgW,qgW,qph]
      by_cases e1:cmpT x x'=0<;>by_cases e2:cmpT y y'=0<;>simp[quh,e1,e2]
     obtain⟨k1,n1,s1,l1⟩:=x;obtain⟨k2,n2,s2,l2⟩:=y;obtain⟨k1',n1',s1',l1'⟩:=x';obtain⟨k2',n2',s2',l2'⟩:=y';have hyy:=hy k2' n2' s2' l2' hoy;simp only[qN,q4,Tm.cells_mk];simp[hcl,hx]
     by_cases hc:cmpT (.mk k1 n1 s1 l1) (.mk k1' n1' s1' l1')=0
     ·simp[hc];exact hyy
     ·simp[hc]
    ·have:¬((lb.length:Int)=2):=by omega
     simp[hl,this,cmpL]
   ·have:¬((l.length:Int)=2):=by omega
    simp[this,cmpL]
  by_cases h7:k=7
  ·simp[h7,cmpL]
  simp[h1,h2,h3,h4,h5,h6,h7,h9]
theorem vG{a b:Tm}(ha:a.Ok)(hb:b.Ok):EVs (EV cfg) 29 [a.av,b.av]=some (.int .i64 (cmpT a b)):=by
 have:=qpd a ha;obtain⟨k1,n1,s1,l1⟩:=a;obtain⟨k2,n2,s2,l2⟩:=b;rw[Tm.av_mk,Tm.av_mk];apply Gets.get;exact qgt _ _ _ _ _ _ _ _ (this k2 n2 s2 l2 hb)
theorem qnZ(b:Bool):EVf (EV cfg) 177 [.bool b]=some (vE b).av:=by
 have ha:∀s,EVf (EV cfg) 183 [.str s]=some (symT s).av:=by
  intro s;apply Gets.get;refine qlM _ ?_;rw[qxU];simp
 apply Gets.get;refine qky _ ?_;unfold ze0;rw[ha,ha];cases b<;>simp[vE,tru,fal]
theorem qlB(e:Env)(b:Bool)(t:Tm):EVm (EV cfg) 179 [.ptr 0 0 0,t.av] 7 (mR e b)=some (.int .i64 t.num,mR e (b||decide (t.kind≠1))):=by
 have hr:=xW e b;apply Gets.get;rw[Tm.av,Tm.cells_eq];refine qwu _ _ _ _ _ _ _ _ _ _ _ ?_;rw[hr,bneD]
 by_cases h:t.kind=1
 ·simp[h]
 ·simp[h]
theorem zk(e:Env)(b:Bool)(t:Tm):EVm (EV cfg) 160 [.ptr 0 0 0,t.av] 7 (mR e b)=some (.bool (decide (t.str=tru)),mR e (b||(xc t).isNone)):=by
 have hr:=xW e b;apply Gets.get;rw[Tm.av,Tm.cells_eq];refine qus _ _ _ _ _ _ _ _ _ _ _ ?_;unfold ze24;rw[hr,bneD];unfold xc;simp only[beqS,show([116,114,117,101]:List UInt8)=tru from rfl,show([102,97,108,115,101]:List UInt8)=fal from rfl]
 by_cases h:t.kind=2
 ·by_cases h1:t.str=tru
  ·simp[h,h1]
  ·by_cases h2:t.str=fal
   ·simp[h,h1,h2];have:¬fal=tru:=by decide
    simp[this]
   ·simp[h,h1,h2]
 ·simp[h]
theorem qbf{t:Tm}{x:Bool}(h:xc t=some x):decide (t.str=tru)=x:=by
 unfold xc at h;split at h
 ·rename_i h1;cases h;exact qCK h1.2
 ·split at h
  ·rename_i h1;cases h;rw[h1.2];decide
  ·cases h
theorem vm{e:Env}{t:Tm}:Gets (some (t.av,mR e true)) (Res e none):=⟨_,rfl,rfl,t,rfl⟩
theorem qR{e:Env}{t:Tm}:Gets (some (t.av,mR e false)) (Res e (some t)):=⟨_,rfl,rfl⟩
theorem qd1{e:Env}{a b:Tm}(f:Bool->Bool->Bool){o:Option (AV×List (List AV))}(h:o=some ((vE (f (decide (a.str=tru)) (decide (b.str=tru)))).av,mR e (false||(xc a).isNone||(xc b).isNone))):
  Gets o (Res e ((xc a).bind λx=>(xc b).map λy=>vE (f x y))):=by
 subst h;cases ha:xc a with
 |none=>exact vm
 |some x=>
  cases hb:xc b with
  |none=>exact vm
  |some y=>
   rw[qbf ha,qbf hb];exact qR
theorem qyc(e:Env)(op:List UInt8){a b:Tm}(ha:a.Ok)(hb:b.Ok)(ia:a.kind=1->InB a.num)(ib:b.kind=1->InB b.num)(hp:op=[42]->xH):
  Gets (EVd (EV cfg) 171 [.ptr 0 0 0,.str op,a.av,b.av] 7 (mR e false)) (Res e (twoG op a b)):=by
 have hc:=vG ha hb;rw[Tm.av,Tm.av,Tm.cells_eq a,Tm.cells_eq b];refine qwr _ _ _ _ _ _ _ _ _ _ _ _ _ _ _ _ ?_;unfold ze42 ze36 ze37 ze38 ze39 ze40 ze41 ze27 ze28 ze29 ze30 ze31 ze35 ze32 ze33 ze34 ze25 ze26 ze2 ze3;simp only[qq,hc,qb,qi,qnZ,qV,beqS,beqD,bneD];unfold twoG
 by_cases h1:op=[61,61]
 ·rw[qCM h1,qCK h1,cond_true];exact qR
 rw[qCN h1,qCL h1,cond_false]
 by_cases h2:op=[61,58,61]
 ·rw[qCM h2,qCK h2,cond_true];exact qR
 rw[qCN h2,qCL h2,cond_false]
 by_cases h3:op=[47,61]
 ·rw[qCM h3,qCK h3,cond_true];exact qR
 rw[qCN h3,qCL h3,cond_false]
 by_cases h4:op=[61,47,61]
 ·rw[qCM h4,qCK h4,cond_true];exact qR
 rw[qCN h4,qCL h4,cond_false]
 by_cases h5:op=[60]
 ·rw[qCM h5,qCK h5,cond_true];exact qR
 rw[qCN h5,qCL h5,cond_false]
 by_cases h6:op=[61,60]
 ·rw[qCM h6,qCK h6,cond_true];exact qR
 rw[qCN h6,qCL h6,cond_false]
 by_cases h7:op=[62]
 ·rw[qCM h7,qCK h7,cond_true];exact qR
 rw[qCN h7,qCL h7,cond_false]
 by_cases h8:op=[62,61]
 ·rw[qCM h8,qCK h8,cond_true];exact qR
 rw[qCN h8,qCL h8,cond_false]
 by_cases h9:op=[97,110,100]
 ·rw[qCM (Or.inl h9),qCK h9,cond_true];refine qd1 (λx y=>x&&y) ?_;simp only[zk,qb,xa];cases decide (a.str=tru)<;>cases decide (b.str=tru)<;>rfl
 rw[qCL h9,cond_false]
 by_cases h10:op=[97,110,100,97,108,115,111]
 ·rw[qCM (Or.inr h10),qCK h10,cond_true];refine qd1 (λx y=>x&&y) ?_;simp only[zk,qb,xa];cases decide (a.str=tru)<;>cases decide (b.str=tru)<;>rfl
 rw[qCN (λh=>h.elim h9 h10),qCL h10,cond_false]
 by_cases h11:op=[111,114]
 ·rw[qCM (Or.inl h11),qCK h11,cond_true];refine qd1 (λx y=>x||y) ?_;simp only[zk,qb,xa];cases decide (a.str=tru)<;>cases decide (b.str=tru)<;>rfl
 rw[qCL h11,cond_false]
 by_cases h12:op=[111,114,101,108,115,101]
 ·rw[qCM (Or.inr h12),qCK h12,cond_true];refine qd1 (λx y=>x||y) ?_;simp only[zk,qb,xa];cases decide (a.str=tru)<;>cases decide (b.str=tru)<;>rfl
 rw[qCN (λh=>h.elim h11 h12),qCL h12,cond_false]
 by_cases h13:op=[120,111,114]
 ·rw[qCM h13,qCK h13,cond_true];refine qd1 (λx y=>x != y) ?_;simp only[zk,qb,xa];cases decide (a.str=tru)<;>cases decide (b.str=tru)<;>rfl
 rw[qCN h13,qCL h13,cond_false]
 by_cases h14:op=[101,108,101,109,101,110,116]
 ·rw[qCM h14,qCK h14,cond_true];simp only[qlB,qb,qgI,xW,qV,qq]
  by_cases g1:1<=a.num
  ·rw[qCK (show a.num≥1 from g1),cond_true]
   by_cases g2:b.kind=7
   ·rw[qCK g2,cond_true]
    by_cases g3:a.num<=b.subs.length
    ·have hl:(a.num - 1).toNat<b.subs.length:=by omega
     obtain⟨j,hj⟩:∃j:Nat,a.num=(j:Int)+1:=⟨(a.num - 1).toNat,by omega⟩;have hjl:j<b.subs.length:=by omega
     have hbl:=hb;have hw:qBZ .i64 (a.num - 1)=(j:Int):=by
      have:b.subs.length<1099511627776:=by
       obtain⟨kb,nb,sb,lb⟩:=b;exact hb.len
      rw[qt (by omega) (by omega)];omega
     have hx:b.subs[j]? =some b.subs[j]:=qB3 hjl;have e1:(a.num - 1).toNat=j:=by omega
     rw[qg,qCK g3,cond_true,hw,qE,qP,qCK hjl,vW hx,e1,hx];simp only[Bool.and_true,cond_true,qj,qCw,qCz,qm,qk,qq]
     by_cases g0:a.kind=1
     ·rw[qCM ⟨g0,g1,g2,g3⟩];simp only[g0];exact qR
     ·rw[qCN (λh=>g0 h.1),qCK g0];exact vm
    ·rw[qg,qCL g3,cond_false,qCN (λh=>g3 h.2.2.2)];exact vm
   ·rw[qCL g2,cond_false,qCN (λh=>g2 h.2.2.1)];exact vm
  ·rw[qCL g1,cond_false,qCN (λh=>g1 h.2.1)];exact vm
 rw[qCN h14,qCL h14,cond_false];simp only[qlB,qb,qgI]
 by_cases ga:a.kind=1
 ·by_cases gb:b.kind=1
  ·rw[qCM ⟨ga,gb⟩];simp only[ga,gb];exact Gets.bind (qqg e op (ia ga) (ib gb) hp) λr h=>zb h (z3 h)
  ·rw[qCN (λh=>gb h.2),qCK gb,Bool.or_true,qgA];simp only[qb,qV,qq];exact vm
 ·rw[qCN (λh=>ga h.1),qCK ga,Bool.or_true,Bool.true_or,qgA];simp only[qb,qV,qq];exact vm
def qAX:Den:=evC cfg (EV cfg) 84 none 1 (sub (qc Tryz.f84) [1,1,1,0,1,0,0])
def qBw:Ex×List AV×AH->Option (AV×List (List AV)):=kAft (Cfg.keepOut cfg 84 6) (kRun cfg (EV cfg) (kfN cfg 6) 84 none 1 (qxG cfg 1 (Cfg.lift cfg 84 0) Tryz.f84.results.toList) ([.block 0,.seq (sub (qc Tryz.f84) [1,1,1,1])]))
def qAv:List AV×AH->Option (AV×List (List AV)):=λp=>kOpt (LOOP 1 (some [1,2,3,4,18,19,20]) ([]) qAX p) qBw
def qAY:Den:=evC cfg (EV cfg) 49 none 0 (sub (qc Tryz.f49) [1,1,1,0,1,0,0])
def qBx:Ex×List AV×AH->Option AV:=kAft (Cfg.keepOut cfg 49 5) (kRun cfg (EV cfg) (kfN cfg 6) 49 none 0 (xS cfg (Cfg.lift cfg 49 0) Tryz.f49.results.toList) ([.block 0,.seq (sub (qc Tryz.f49) [1,1,1,1])]))
def qAw:List AV×AH->Option AV:=λp=>kOpt (LOOP 0 (some [1,2,5,6]) ([]) qAY p) qBx
abbrev qjz(lt:Rz)(v20 c1_0 c1_1:Int)(c1_2:Bz)(c1_3:Rz)(c2_0 c2_1:Int)(c2_2:Bz)(c2_3 h3:Rz):Option (AV×List (List AV)):=qAv (((fx 35 [(1,.ptr 0 0 0),(2,.ptr 1 0 0),(3,.ptr 2 0 0),(4,.ms 3 0 (qB7 (lt.length:Int))),(18,.sl lt),(19,.int .i64 (lt.length:Int)),(20,.int .i64 v20)]):List AV),([.rows false 1 [[.fn (Fn.func 84) [] [.ptr 0 0 0]]],.rows false 4 [[.int .i64 c1_0,.int .i64 c1_1,.str c1_2,.sl c1_3]],.rows false 4 [[.int .i64 c2_0,.int .i64 c2_1,.str c2_2,.sl c2_3]],.rows true 4 h3]:AH))
abbrev qjA(most v5 v6 c0_0 c0_1:Int)(c0_2:Bz)(c0_3:Rz):Option (AV):=qAw (((fx 43 [(1,.int .i64 most),(2,.ptr 0 0 0),(5,.int .i64 v5),(6,.int .i64 v6)]):List AV),([.rows false 4 [[.int .i64 c0_0,.int .i64 c0_1,.str c0_2,.sl c0_3]]]:AH))
theorem qmZ(kt nt:Int)(st:Bz)(lt:Rz){P:AV->Prop}(h:Gets (kOpt (EVk (EV cfg) 84 [.agg [.int .i64 kt,.int .i64 nt,.str st,.sl lt],.ptr 0 0 0] 1 [[AV.fn (Fn.func 84) [] [.ptr 0 0 0]]]) λq=>kTmV q λn n_1 s rows=>(some (.agg [.int .i64 n,.int .i64 n_1,.str s,.sl rows]))) P):Gets (EVf (EV cfg) 51 [.agg [.int .i64 kt,.int .i64 nt,.str st,.sl lt]]) P:=
  gE (λ_=>funF rfl rfl Tryz.func51 rfl) (by kernel_rfl) h
theorem qsZ(kt nt:Int)(st:Bz)(lt:Rz){P:AV×List (List AV)->Prop}(h:Gets (bif(lt.length:Int)==0 then bif AV.refsLt 0 (.agg [.int .i64 kt,.int .i64 nt,.str st,.sl []])then some (.agg [.int .i64 kt,.int .i64 nt,.str st,.sl []],[[AV.fn (Fn.func 84) [] [.ptr 0 0 0]]])else none else bif qd 0 (lt.length:Int)&&qd (lt.length:Int) (lt.length:Int)&&qd ((↑ (qB1 lt):Int)*56) 140737488355328&&qd (lt.length:Int) 9223372036854775807 then qjz lt 0 kt nt st lt 0 0 [] [] (qCr (qB7 (lt.length:Int)) [.int .i64 0,.int .i64 0,.str [],.nilS])else none) P):Gets (EVx (EV cfg) 84 [.agg [.int .i64 kt,.int .i64 nt,.str st,.sl lt],.ptr 0 0 0] 1 [[(AV.fn (Fn.func 84) [] [AV.ptr 0 0 0])]]) P:=
  gE (λ_=>funX rfl rfl Tryz.func84 rfl) (by kernel_rfl) h
theorem qso(kt nt:Int)(st:Bz)(lt:Rz)(most:Int){P:AV->Prop}(h:Gets (kOpt (EVs (EV cfg) 49 [.agg [.int .i64 kt,.int .i64 nt,.str st,.sl lt],.int .i64 (qBZ .i64 (most+1))]) λv=>kInt .i64 v λn=>some (.bool (decide (n>most)))) P):Gets (EVs (EV cfg) 15 [.agg [.int .i64 kt,.int .i64 nt,.str st,.sl lt],.int .i64 most]) P:=
  gE (λ_=>funS rfl rfl Tryz.func15 rfl) (by kernel_rfl) h
theorem qir(kt nt:Int)(st:Bz)(lt:Rz)(most:Int){P:AV->Prop}(h:Gets (bif decide ((st.length:Int)>100)then some (.int .i64 most)else bif decide ((lt.length:Int)>most)then some (.int .i64 most)else qjA most 1 0 kt nt st lt) P):Gets (EVs (EV cfg) 49 [.agg [.int .i64 kt,.int .i64 nt,.str st,.sl lt],.int .i64 most]) P:=
  gE (λ_=>funS rfl rfl Tryz.func49 rfl) (by kernel_rfl) h
theorem qh9(lt:Rz)(v20 c1_0 c1_1:Int)(c1_2:Bz)(c1_3:Rz)(c2_0 c2_1:Int)(c2_2:Bz)(c2_3 h3:Rz){P:AV×List (List AV)->Prop}(h:Gets (bif decide (v20<(lt.length:Int))then bif qd 0 v20&&qe v20 (lt.length:Int)then kOpt (qB0 lt (v20.toNat)) λrow=>bif qCh (qB1 row) 4 then bif qB4 4 (qB1 row)then kTmC (qB8 4 row) λn n_1 s rows=>(kOpt (EVk (EV cfg) 84 [.agg [.int .i64 n,.int .i64 n_1,.str s,.sl rows],.ptr 0 0 0] 1 [[AV.fn (Fn.func 84) [] [.ptr 0 0 0]]]) λq=>kTmV q λn n_2 s rows=>(bif qd 0 v20&&qe v20 (↑ (qB7 (lt.length:Int)):Int)then kOpt (qB0 h3 (0+v20.toNat)) λrow=>bif qB4 4 (qB1 row)then qjz lt (qBZ .i64 (v20+1)) c1_0 c1_1 c1_2 c1_3 c2_0 c2_1 c2_2 c2_3 (qCA h3 (0+v20.toNat) (.int .i64 n:: .int .i64 n_2:: .str s:: .sl rows::qCk 4 row))else none else none))else none else none else none else bif qB4 (0+qB7 (lt.length:Int)) (qB1 h3)&&true then some (.agg [.int .i64 c1_0,.int .i64 c1_1,.str c1_2,.sl (qB8 (qB7 (lt.length:Int)) h3)],[[AV.fn (Fn.func 84) [] [.ptr 0 0 0]]])else none) P):Gets (qjz lt v20 c1_0 c1_1 c1_2 c1_3 c2_0 c2_1 c2_2 c2_3 h3) P:=
  gE (λ_=>ql (cfg:=cfg) (f:=84) (rd:=none) (bs:=1)) (by kernel_rfl) h
theorem qia(most v5 v6 c0_0 c0_1:Int)(c0_2:Bz)(c0_3:Rz){P:AV->Prop}(h:Gets (bif decide (v6<(c0_3.length:Int))then bif decide (v5<most)then bif qd 0 v6&&qe v6 (c0_3.length:Int)then kOpt (qB0 c0_3 (qB7 v6)) λrow=>bif qCh (qB1 row) 4 then bif qB4 4 (qB1 row)then kTmC (qB8 4 row) λn n_1 s rows=>(kOpt (EVs (EV cfg) 49 [.agg [.int .i64 n,.int .i64 n_1,.str s,.sl rows],.int .i64 (qBZ .i64 (most - v5))]) λv=>kInt .i64 v λn=>qjA most (qBZ .i64 (v5+n)) (qBZ .i64 (v6+1)) c0_0 c0_1 c0_2 c0_3)else none else none else none else some (.int .i64 v5)else some (.int .i64 v5)) P):Gets (qjA most v5 v6 c0_0 c0_1 c0_2 c0_3) P:=
  gE (λ_=>ql (cfg:=cfg) (f:=49) (rd:=none) (bs:=0)) (by kernel_rfl) h
def qbz:List (List AV):=[[AV.fn (Fn.func 84) [] [AV.ptr 0 0 0]]]
theorem qu2(t:Tm):t.Ok->EVx (EV cfg) 84 [t.av,.ptr 0 0 0] 1 qbz=some (t.av,qbz):=by
 induction t using Tm.ind with
 |_ k n s l ih=>
  intro hok;have hlen:=hok.len;have loop:∀(d i:Nat),i+d=l.length->Gets (qjz (qa l) i k n s (qa l) 0 0 [] [] (qa (l.take i)++qCr d [.int .i64 0,.int .i64 0,.str [],.nilS])) (·=((Tm.mk k n s l).av,qbz)):=by
   intro d
   induction d with
   |zero=>
    intro i hi;refine qh9 _ _ _ _ _ _ _ _ _ _ _ ?_;obtain rfl:i=l.length:=by omega
    have e:l.take l.length=l:=qCd (qCa _);rw[e];simp;rfl
   |succ d ihd=>
    intro i hi;refine qh9 _ _ _ _ _ _ _ _ _ _ _ ?_;have hil:i<l.length:=by omega
    have hx:l[i]? =some l[i]:=qB3 hil;have hxl:=qCc hx;have hix:=qvF (ih l[i] hxl (hok.sub hxl));have hih:=ihd (i+1) (by omega);have hw:=qtv hil hlen;have e1:l.take (i+1)=l.take i++[l[i]]:=by rw[List.take_add_one,hx];rfl
    have ht:(qa (l.take i)).length=i:=by rw[qg,qCD];omega
    have g:(qa (l.take i)++qCr (d+1) [AV.int .i64 0,.int .i64 0,.str [],.nilS])[i]? =some [AV.int .i64 0,.int .i64 0,.str [],.nilS]:=by
     rw[qCo (by omega),ht,Nat.sub_self];rfl
    have g2:(qa (l.take i)++qCr (d+1) [AV.int .i64 0,.int .i64 0,.str [],.nilS]).set i l[i].cells=qa (l.take (i+1))++qCr d [AV.int .i64 0,.int .i64 0,.str [],.nilS]:=by
     rw[List.set_append_right _ _ (by omega),e1,vn,qN,q4];have e3:i - (qa (l.take i)).length=0:=by omega
     rw[e3,List.replicate_succ,List.set_cons_zero,List.append_assoc];rfl
    simp only[qbz]at hix;simp[hil,hx,hix,g,hw];rw[g2]
    simpa using hih
  apply Gets.get;rw[Tm.av_mk];refine qsZ _ _ _ _ ?_;rw[qg]
  by_cases hl:l.length=0
  ·have:l=[]:=List.length_eq_zero_iff.1 hl;subst this;simp[qbz,AV.refsLt,qw]
  ·have hl':((l.length:Int)==0)=false:=by rw[beqD];exact qCL (by omega)
   have h56:qd ((l.length:Int)*56) 140737488355328=true:=by simp[qd];omega
   have hm:qd (l.length:Int) 9223372036854775807=true:=by simp[qd];omega
   have hz:qd 0 (l.length:Int)=true:=qE _;have hs:qd (l.length:Int) (l.length:Int)=true:=by simp[qd]
   rw[hl',h56,hm,hz,hs];have:=loop l.length 0 (by omega);rw[Tm.av_mk]at this
   simpa using this
theorem qeg{t:Tm}(h:t.Ok):EVf (EV cfg) 51 [t.av]=some t.av:=by
 have h1:=qvF (qu2 t h);obtain⟨k,n,s,l⟩:=t;rw[Tm.av_mk]at h1⊢;apply Gets.get;refine qmZ _ _ _ _ ?_;simp only[qbz]at h1;rw[h1];simp[←Tm.av_mk]
theorem qzU(op:List UInt8):EVf (EV cfg) 164 [.str op]=some (.sl (q6 (opsG op))):=by
 apply Gets.get;refine qm6 _ ?_;have h:=qmG (λl=>some (AV.sl (q6 l))) op [] qgr;have:Gets (qab op (some (AV.sl (q6 []))) (qgr.map λp=>(p.1,some (AV.sl (q6 p.2))))) (·= .sl (q6 (opsG op))):=by
  rw[h];exact⟨_,rfl,rfl⟩
 exact this
theorem qwC(l:List Int)(hl:l.length<1099511627776)(n:Int):∀d i:Nat,i+d=l.length->Gets (qjC (q6 l) n i) (λv=>∃j:Int,v= .int .i64 j∧(0<=j↔n∈l.drop i)):=by
 intro d
 induction d with
 |zero=>
  intro i hi;refine qic _ _ _ ?_;rw[yM,qCL (by omega)];refine⟨_,rfl,-1,rfl,?_⟩;rw[qCs (by omega)];simp
 |succ d ih=>
  intro i hi;have hil:i<l.length:=by omega
  refine qic _ _ _ ?_;have hx:l[i]? =some l[i]:=qB3 hil;have hd:l.drop i=l[i]::l.drop (i+1):=qCp hil;have h:=ih (i+1) (by omega);rw[yM,qCK (show(i:Int)<(l.length:Int) by omega),qE,qP,qCK hil,qv,qCi,quH,hx,qZ hil hl]
  by_cases he:n=l[i]
  ·refine⟨.int .i64 i,?_,i,rfl,?_⟩
   ·simp[he]
   ·rw[hd,he];exact⟨λ_=>List.mem_cons_self,λ_=>by omega⟩
  ·have hne:(n==l[i])=false:=by rw[beqI];exact qCL he
   simp[hne];refine Gets.mono (by simpa using h) ?_;rintro _ ⟨j,rfl,hj⟩;exact⟨j,rfl,by rw[hj,hd,qCB];exact⟨Or.inr,λh=>h.resolve_left he⟩⟩
theorem qiy(l:List Int)(hl:l.length<1099511627776)(n:Int):EVs (EV cfg) 162 [.sl (q6 l),.int .i64 n]=some (.bool (decide (n∈l))):=by
 obtain⟨_,h1,j,rfl,hj⟩:=qwC l hl n l.length 0 (by omega);have h2:EVs (EV cfg) 172 [.sl (q6 l),.int .i64 n]=some (.int .i64 j):=by
  apply Gets.get;exact qsI _ _ ⟨_,h1,rfl⟩
 apply Gets.get;refine qm7 _ _ ?_;rw[h2];rw[List.drop_zero]at hj;refine⟨_,rfl,?_⟩;show AV.bool (decide (j≥0))=_
 congr 1
 exact decide_eq_decide.2 hj
theorem qxV(n:Int):EVs (EV cfg) 155 [.int .i64 n]=some (.bool (qeH n)):=by
 apply Gets.get;refine qlL _ ?_;unfold qeH
 by_cases h:1<=n
 ·simp[h]
 ·simp[h]
theorem qwe(op:List UInt8):(opsG op).length<1099511627776:=by
 have:∀(l:List (List UInt8×List Int)),(∀p∈l,p.2.length<=2)->(qab op [] l).length<=2:=by
  intro l
  induction l with
  |nil=>intro _;simp[qab]
  |cons p l ih=>
   intro h;rw[qab];cases op==p.1
   ·exact ih λq hq=>h q (by simp[hq])
   ·exact h p (by simp)
 have:=this qgr (by decide);unfold opsG;omega
theorem qAb{V:List Int}{l:List Tm}(hlen:l.length<1099511627776)(ih:∀x∈l,EVs (EV cfg) 145 [x.av,.sl (q6 V)]=some (.bool (isG V x))):
  EVs (EV cfg) 163 [.sl (qa l),.sl (q6 V)]=some (.bool (allG V l)):=by
 have hin:∀x∈l,EVs (EV cfg) 173 [x.av,.cptr [.sl (q6 V)] 0]=some (.bool (!isG V x)):=by
  intro x hx;have h:=ih x hx;apply Gets.get;rw[Tm.av,Tm.cells_eq]at h⊢;refine qvj _ _ _ _ _ ?_;rw[h];exact⟨_,rfl,rfl⟩
 have loop:∀d i:Nat,i+d=l.length->Gets (qjk (qa l) (q6 V) i) (λv=>∃j:Int,v= .int .i64 j∧(0<=j↔allG V (l.drop i)=false)):=by
  intro d
  induction d with
  |zero=>
   intro i hi;refine qhS _ _ _ ?_;rw[qg,qCL (by omega)];refine⟨_,rfl,-1,rfl,?_⟩;rw[qCs (by omega)];simp[allG]
  |succ d ihd=>
   intro i hi;have hil:i<l.length:=by omega
   refine qhS _ _ _ ?_;have hx:l[i]? =some l[i]:=qB3 hil;have hd:l.drop i=l[i]::l.drop (i+1):=qCp hil;have h1:=hin l[i] (qCc hx);have h2:=ihd (i+1) (by omega);rw[qg,qCK (show(i:Int)<(l.length:Int) by omega),qE,qP,qCK hil,vW hx,qZ hil hlen];simp only[cond_true,qCx,qj,qCw,qm,qk,show qB4 4 4=true from rfl,qq,h1,qb,qp]
   cases hg:isG V l[i]with
   |false=>
    refine⟨_,rfl,i,rfl,?_⟩;rw[hd,allG,hg];exact⟨λ_=>rfl,λ_=>by omega⟩
   |true=>
    refine h2.mono ?_;rintro _ ⟨j,rfl,hj⟩;refine⟨j,rfl,?_⟩;rw[hd,allG,hg,qCF];exact hj
 obtain⟨_,h1,j,rfl,hj⟩:=loop l.length 0 (by omega);rw[List.drop_zero]at hj;have h2:EVs (EV cfg) 19 [.sl (qa l),.fn (.func 173) [] [.cptr [.sl (q6 V)] 0]]=some (.int .i64 j):=by
  apply Gets.get;exact qqv _ _ ⟨_,h1,rfl⟩
 have h3:EVs (EV cfg) 46 [.sl (qa l),.fn (.func 173) [] [.cptr [.sl (q6 V)] 0]]=some (.bool (decide (j≥0))):=by
  apply Gets.get;refine qpc _ _ ?_;rw[h2];exact⟨_,rfl,rfl⟩
 apply Gets.get;refine qoV _ _ ?_;rw[h3];refine⟨_,rfl,?_⟩;show AV.bool (!decide (j≥0))=_
 congr 1
 cases ha:allG V l with
 |false=>rw[qCK (hj.2 ha)];rfl
 |true=>
  have:¬j≥0:=λh=>by have:=hj.1 h;rw[ha]at this;cases this
  rw[qCL this];rfl
theorem qBV{V:List Int}(hV:V.length<1099511627776):∀(n:Nat) (t:Tm),t.w<=n->n<1099511627776->EVs (EV cfg) 145 [t.av,.sl (q6 V)]=some (.bool (isG V t)):=by
 intro n
 induction n with
 |zero=>intro t h;have:=vU t;omega
 |succ n ih=>
  intro t hw hn;have hwe:=t.w_eq;have hwl:=qaS t.subs;have allOf:∀l:List Tm,wL l<=n->EVs (EV cfg) 163 [.sl (qa l),.sl (q6 V)]=some (.bool (allG V l)):=λl hl=>
   qAb (by have:=qaS l;omega) λx hx=>ih x (by have:=y5 hx;omega) (by omega)
  have hvar:=qgn (t:=t) (by omega);have hsub:=allOf t.subs (by omega);apply Gets.get;rw[Tm.av,Tm.cells_eq]at hvar⊢;refine qqw _ _ _ _ _ ?_;rw[hvar,hsub];simp only[beqI,qb,qp]
  by_cases h2:t.kind=2
  ·rw[qCK h2,cond_true,qiX h2];simp only[varR,kTup,qf,qi,qp,kNil];cases hv:varT t with
   |none=>exact⟨_,rfl,rfl⟩
   |some x=>
    have hc:=qiy V hV x;simp only[Option.getD_some,Option.isSome_some,qCj,cond_false];rw[hc];exact⟨_,rfl,rfl⟩
  ·rw[qCL h2,cond_false]
   by_cases h9:t.kind=9
   ·rw[qCK h9,cond_true,qoQ h9];exact⟨_,rfl,rfl⟩
   ·rw[qCL h9,cond_false]
    by_cases h7:t.kind=7
    ·rw[qCK h7,cond_true];cases hl:t.subs with
     |nil=>rw[qlK h7 hl];exact⟨_,rfl,rfl⟩
     |cons f r=>
      rw[qlJ h7 hl];rw[hl]at hwl hwe;rw[qY]at hwe;have hfw:=f.w_eq;have hfs:=allOf f.subs (by omega);have hr:=allOf r (by omega);have c0:(decide (((qa (f::r)).length:Int)=0))=false:=by rw[qg];exact qCL (by simp;omega)
      have c1:qe 0 ((qa (f::r)).length:Int)=true:=by rw[qg];exact qCK (by simp)
      have c2:qd 1 ((qa (f::r)).length:Int)=true:=by rw[qg];exact qCK (by simp;omega)
      have g0:(qa (f::r))[(0:Int).toNat]? =some f.cells:=by rw[qN];rfl
      have tk:qB8 ((qa (f::r)).length - 1) (qCk 1 (qa (f::r)))=qa r:=by
       rw[qN,List.drop_succ_cons,List.drop_zero,qCE,Nat.add_sub_cancel,List.take_length]
      have g0':(qa (f::r))[0]? =some f.cells:=g0;rw[c0,c1,c2,tk];simp only[cond_false,cond_true,qv,g0,g0',qb,qj,qCw,show qB4 4 4=true from rfl,qm,qk,y9,qg,beqS]
      by_cases f7:f.kind=7
      ·rw[qCM f7,qCK f7,cond_true,hfs]
       by_cases hrl:r.length=0
       ·have:decide ((r.length:Int)=0)=true:=qCK (by omega);rw[this,qCK hrl];exact⟨_,rfl,rfl⟩
       ·have:decide ((r.length:Int)=0)=false:=qCL (by omega);rw[this,qCL hrl];exact⟨_,rfl,rfl⟩
      ·rw[qCN f7,qCL f7,cond_false]
       by_cases f2:f.kind=2
       ·have:(f.kind != 2)=false:=by rw[f2];rfl
        rw[qCM f2,this,cond_false]
        by_cases hc:f.str=[99,111,110,115,116]
        ·rw[qCM hc,qCK hc];refine⟨_,rfl,?_⟩;show AV.bool (decide ((r.length:Int)=1))=_
         congr 1
         exact decide_eq_decide.2 (by omega)
        ·rw[qCN hc,qCL hc,cond_false,qzU];have hcn:=qiy (opsG f.str) (qwe f.str) (r.length:Int);simp only[qb,vt,hcn,qp,hr];cases decide ((r.length:Int)∈opsG f.str)<;>exact⟨_,rfl,rfl⟩
       ·have:(f.kind != 2)=true:=by simpa using f2
        rw[qCN f2,this];exact⟨_,rfl,rfl⟩
    ·rw[qCL h7,quG h2 h9 h7];exact⟨_,rfl,rfl⟩
theorem qb7{V:List Int}(hV:V.length<1099511627776){t:Tm}(h:t.w<1099511627776):EVs (EV cfg) 119 [t.av,.sl (q6 V)]=some (.int .i64 (xY V t)):=by
 have hc:=zW h;have hi:=qBV hV t.w t (qCa _) h;apply Gets.get;rw[Tm.av,Tm.cells_eq]at hc hi⊢;refine qlN _ _ _ _ _ ?_;rw[hc,hi];unfold xY;simp only[qb,qi,qp]
 by_cases h0:t.chk=0
 ·have:(t.chk != 0)=false:=by rw[h0];rfl
  rw[this,qCM h0];cases isG V t<;>exact⟨_,rfl,rfl⟩
 ·have:(t.chk != 0)=true:=by simpa using h0
  rw[this,qCN h0];exact⟨_,rfl,rfl⟩
def qAA:Den:=evC cfg (EV cfg) 186 none 6 (sub (qc Tryz.f186) [0,0])
def qA9:Ex×List AV×AH->Option (AV×List (List AV)):=kAft (Cfg.keepOut cfg 186 (qh (sub (qc Tryz.f186) [0,0]))) (qO 0 (vT cfg (Cfg.lift cfg 186 0) (fun(v:AV) (H:AH)=>(fun(r:AV×AH)=>xG 1 5 (fx 37 [(0,AV.ptr 0 0 0),(5,AV.ptr 1 0 0),(6,AV.ptr 2 0 0),(7,AV.ptr 3 0 0)]) (qO 0 (kSeq (fun(fr:List AV) (H:AH)=>qL (Cfg.cut cfg 180 (qh (sub (qc Tryz.f180) [1,0,1,0,0,1,1,1]))) fr H fun(fr:List AV) (H:AH)=>qG cfg (EV cfg) (kfN cfg 6) 180 none 1 (sub (qc Tryz.f180) [1,0,1,0,0,1,1,1]) fr H (qa0 (kSeq (fun(fr:List AV) (H:AH)=>qL (Cfg.cut cfg 180 (qh (sub (qc Tryz.f180) [1,1]))) fr H fun(fr:List AV) (H:AH)=>qG cfg (EV cfg) (kfN cfg 6) 180 none 1 (sub (qc Tryz.f180) [1,1]) fr H (yh cfg 7 (Cfg.lift cfg 180 0) (qCl (Func.results Tryz.f180)))) (yh cfg 7 (Cfg.lift cfg 180 0) (qCl (Func.results Tryz.f180)))))) (qa0 (kSeq (fun(fr:List AV) (H:AH)=>qL (Cfg.cut cfg 180 (qh (sub (qc Tryz.f180) [1,1]))) fr H fun(fr:List AV) (H:AH)=>qG cfg (EV cfg) (kfN cfg 6) 180 none 1 (sub (qc Tryz.f180) [1,1]) fr H (yh cfg 7 (Cfg.lift cfg 180 0) (qCl (Func.results Tryz.f180)))) (yh cfg 7 (Cfg.lift cfg 180 0) (qCl (Func.results Tryz.f180))))))) (Prod.snd r)) (v,H)) (qCl (Func.results (Prod.snd (186,Tryz.f186))))))
def qAc:List AV×AH->Option (AV×List (List AV)):=fun(p:List AV×AH)=>kOpt (LOOP 6 (some [0,1]) [] qAA p) qA9
abbrev qjj(h0:Rz)(c1_0 c1_1:Int)(c1_2:Bz)(c1_3:Rz)(c2_0 c2_1:Int)(c2_2:Bz)(c2_3:Rz)(c3_0:Int):Option (AV×List (List AV)):=qAc (((fx 25 [(0,.yld 5),(1,.ptr 4 0 0)]):List AV),([.rows true 7 h0,.rows false 4 [[.int .i64 c1_0,.int .i64 c1_1,.str c1_2,.sl c1_3]],.rows false 4 [[.int .i64 c2_0,.int .i64 c2_1,.str c2_2,.sl c2_3]],.rows false 1 [[.int .i64 c3_0]],.rows false 1 [[.ptr 1 0 0]],rngB Tryz.f180 180 [1,0,1,0,0,1,1,0,1,0] (fx 37 [(7,.ptr 3 0 0)]) none LoopState.ready]:AH))
abbrev zh0(q:AV×List (List AV)):Option (AV×List (List AV)):=kTmV q.1 λn n_1 s rows=>(some (.agg [.int .i64 n,.int .i64 n_1,.str s,.sl rows],q.2))
abbrev zh1(row:List AV)(ke ne:Int)(se:Bz)(le bd:Rz)(self:Int)(bad:Bool):Option (AV×List (List AV)):=bif qCh (qB1 row) 4 then bif qB4 4 (qB1 row)then kTmC (qB8 4 row) λn n_1 s rows=>(some (.agg [.int .i64 n,.int .i64 n_1,.str s,.sl rows],[[AV.int .i64 ke,.int .i64 ne,.str se,.sl le,.sl bd,.int .i64 self,.bool bad]]))else none else none
theorem quq(ke ne:Int)(se:Bz)(le bd:Rz)(self:Int)(bad:Bool)(op:Bz)(kt nt:Int)(st:Bz)(lt:Rz){P:AV×List (List AV)->Prop}(h:Gets (bif op==[(108:UInt8),101,110,103,116,104]then qjj [[AV.int .i64 ke,.int .i64 ne,.str se,.sl le,.sl bd,.int .i64 self,.bool bad]] kt nt st lt 0 0 [] [] 0 else bif kt != 9 then kOpt (EVd (EV cfg) 168 [.ptr 0 0 0] 7 [[AV.int .i64 ke,.int .i64 ne,.str se,.sl le,.sl bd,.int .i64 self,.bool bad]]) λq=>zh0 q else bif op==[(104:UInt8),100]then bif qe 0 (lt.length:Int)then kOpt (qB0 lt 0) λrow=>zh1 row ke ne se le bd self bad else none else bif qe 1 (↑ (qB1 lt):Int)then kOpt (qB0 lt 1) λrow=>zh1 row ke ne se le bd self bad else none) P):Gets (EVd (EV cfg) 180 [.ptr 0 0 0,.str op,.agg [.int .i64 kt,.int .i64 nt,.str st,.sl lt]] 7 [[AV.int .i64 ke,AV.int .i64 ne,AV.str se,AV.sl le,AV.sl bd,AV.int .i64 self,AV.bool bad]]) P:=
  gE (λ_=>funD rfl rfl Tryz.func180 rfl) (by kernel_rfl) h
theorem quk(a b:Int){P:AV->Prop}(h:Gets (kOpt (qn (Op.intBits BinOp.and .u64 a 4294967295)) λv=>kInt .u64 v λn=>kOpt (qn (Op.shift BinOp.shr .u64 a .u64 32)) λv=>kInt .u64 v λn_1=>kOpt (qn (Op.intBits BinOp.and .u64 b 4294967295)) λv=>kInt .u64 v λn_2=>kOpt (qn (Op.shift BinOp.shr .u64 b .u64 32)) λv=>kInt .u64 v λn_3=>kOpt (qn (Op.shift BinOp.shr .u64 (qBZ .u64 (n*n_2)) .u64 32)) λv=>kInt .u64 v λn_4=>kOpt (qn (Op.intBits BinOp.and .u64 (qBZ .u64 (qBZ .u64 (n_1*n_2)+n_4)) 4294967295)) λv=>kInt .u64 v λn_5=>kOpt (qn (Op.shift BinOp.shr .u64 (qBZ .u64 (qBZ .u64 (n_1*n_2)+n_4)) .u64 32)) λv=>kInt .u64 v λn_6=>kOpt (qn (Op.shift BinOp.shr .u64 (qBZ .u64 (n_5+qBZ .u64 (n*n_3))) .u64 32)) λv=>kInt .u64 v λn=>some (AV.tup [AV.int .u64 (qBZ .u64 (qBZ .u64 (qBZ .u64 (n_1*n_3)+n_6)+n)),.int .u64 (qBZ .u64 (a*b))])) P):Gets (EVs (EV cfg) 187 [.int .u64 a,.int .u64 b]) P:=
  gE (λ_=>funS rfl rfl Tryz.func187 rfl) (by kernel_rfl) h
theorem qpD(h0:Rz)(c1_0 c1_1:Int)(c1_2:Bz)(c1_3:Rz)(c2_0 c2_1:Int)(c2_2:Bz)(c2_3:Rz)(c3_0:Int){P:AV×List (List AV)->Prop}(h:Gets (bif c1_0==9 then bif qe 0 (c1_3.length:Int)then kOpt (qB0 c1_3 0) λrow=>bif qCh (qB1 row) 4 then bif qB4 4 (qB1 row)then kTmC (qB8 4 row) λn n s rows=>(bif qe 1 (c1_3.length:Int)then kOpt (qB0 c1_3 1) λrow=>bif qCh (qB1 row) 4 then bif qB4 4 (qB1 row)then kTmC (qB8 4 row) λn n_1 s rows=>(qjj h0 n n_1 s rows c2_0 c2_1 c2_2 c2_3 (qBZ .i64 (c3_0+1)))else none else none else none)else none else none else none else bif c1_0 != 8 then kOpt (EVd (EV cfg) 168 [.ptr 0 0 0] 7 h0) λq=>zh0 q else kOpt (EVd (EV cfg) 178 [.ptr 0 0 0,.int .i64 c3_0] 7 h0) λq=>zh0 q) P):Gets (qjj h0 c1_0 c1_1 c1_2 c1_3 c2_0 c2_1 c2_2 c2_3 c3_0) P:=
  gE (λ_=>ql (cfg:=cfg) (f:=186) (rd:=none) (bs:=6)) (by kernel_rfl) h
end Go.Proofs.YtgleolmhpmljhaaGreat
end
noncomputable section
namespace Go.Av
theorem qxO{n:Int}(h1: -9223372036854775808<=n)(h2:n<9223372036854775808):qn (Op.intBits .xor .i64 (-1) n)=some (.int .i64 (-1 - n)):=by
 have:qn (Op.intBits .xor .i64 (-1) n)=some (.int .i64 (qBZ .i64 (BitVec.ofInt 64 (-1) ^^^ BitVec.ofInt 64 n).toNat)):=rfl;rw[this,qcc];have e:BitVec.ofInt 64 (-1) ^^^ BitVec.ofInt 64 n= ~~~(BitVec.ofInt 64 n):=by
  rw[show BitVec.ofInt 64 (-1)=BitVec.allOnes 64 from by decide,BitVec.allOnes_xor]
 have en:n=(BitVec.ofInt 64 n).toInt:=by rw[BitVec.toInt_ofInt,Int.bmod_eq_of_le (by omega) (by omega)]
 have hn:=BitVec.toNat_not (x:=BitVec.ofInt 64 n);rw[e]
 congr 2
 rw[BitVec.toInt_eq_toNat_cond]at en⊢;have hl:=(BitVec.ofInt 64 n).isLt;rw[hn];generalize (BitVec.ofInt 64 n).toNat=U at *;split at en<;>split<;>omega
theorem qcn(x:Tm)(l:List Tm):qB0 (qa (x::l)) 0=some x.cells:=by rw[qv,qN];rfl
theorem qbI(x y:Tm)(l:List Tm):qB0 (qa (x::y::l)) 1=some y.cells:=by rw[qv,qN,qN];rfl
theorem qxK(x y z:Tm)(l:List Tm):qB0 (qa (x::y::z::l)) 2=some z.cells:=by rw[qv,qN,qN,qN];rfl
theorem lt0T(x:Tm)(l:List Tm):qe 0 ((qa (x::l)).length:Int)=true:=by rw[qg];exact qCK (by simp)
theorem lt1T(x y:Tm)(l:List Tm):qe 1 ((qa (x::y::l)).length:Int)=true:=by rw[qg];exact qCK (by simp;omega)
theorem lt2T(x y z:Tm)(l:List Tm):qe 2 ((qa (x::y::z::l)).length:Int)=true:=by rw[qg];exact qCK (by simp;omega)
theorem xe:qB4 4 4=true:=rfl
theorem qq7{t:Tm}(h:t.chk=0): -576460752303423488<=t.num∧t.num<=576460752303423487:=by
 obtain⟨h1,_⟩:=yT.1 h;rw[Tm.parts_eq,qB2]at h1;have h2:yq t.kind t.num t.str t.subs.length=true:=h1.1;generalize t.kind=k at h2;generalize t.num=n at *;unfold yq at h2
 repeat' split at h2
 all_goals simp at h2
 all_goals omega
theorem qcV{t:Tm}(h:t.chk=0):t.Ok:=qcw t (by have:=xo h;omega)
theorem qrd{t:Tm}(h:t.chk=0):t.kind=1->InB t.num:=λ_=>qq7 h
end Go.Av
namespace Go.Proofs.YtgleolmhpmljhaaGreat
open Go.Av
theorem qx8(e:Env)(n:Int):∃t:Tm,EVd (EV cfg) 178 [.ptr 0 0 0,.int .i64 n] 7 (mR e true)=some (t.av,mR e true):=by
 rw[qka]
 by_cases h:InB n
 ·exact⟨numT n,by rw[qCM h]⟩
 ·exact⟨xb,by rw[qCN h]⟩
theorem qhC{e:Env}{b:Bool}{n:Int}{k:Int}:Gets (kOpt (EVd (EV cfg) 178 [.ptr 0 0 0,.int .i64 n] 7 (mR e (false||decide (k≠1)))) λq=>kTmV q.1 fun(n n_1:Int) (s:List UInt8) (rows:List (List AV))=>some (AV.agg [.int .i64 n,.int .i64 n_1,.str s,.sl rows],q.2)) (Res e (if k=1 then qS n else none)):=by
 by_cases h:k=1
 ·rw[qCM h,qCL (by simpa using h)];exact Gets.bind (zd e n λr h1 h2=>h1) λr h=>zb h (z3 h)
 ·rw[qCN h,qCK (by simpa using h)];obtain⟨t,ht⟩:=qx8 e n;rw[Bool.or_true,ht];simp only[qb,qV,qq];exact vm
theorem qye(e:Env){a b:Int}{s:List UInt8}{r:List (List AV)}:∀(n:Nat) (t:Tm) (c:Nat),t.w<=n->t.chk=0->c+n<1099511627776 ->
  Gets (qjj (mR e false) t.kind t.num t.str (qa t.subs) a b s r c) (Res e ((lenG t).bind λm=>qS ((c+m:Nat):Int))):=by
 intro n
 induction n with
 |zero=>intro t _ h;have:=vU t;omega
 |succ n ih=>
  intro t c hw hc hn;refine qpD _ _ _ _ _ _ _ _ _ _ ?_;unfold zh0
  by_cases h9:t.kind=9
  ·obtain⟨x,y,hs⟩:=zV hc h9;have hwe:=t.w_eq;rw[hs]at hwe;simp only[qY,xg]at hwe;have h:=ih y (c+1) (by omega) (vh hc (by rw[hs];simp)) (by omega);rw[quz h9 hs,hs,beqI,qCK h9];simp only[cond_true,lt0T,lt1T,qcn,qbI,qb,qj,qCw,xe,qm,qk,qZ (show c<c+1 by omega) (by omega)];have e1:((lenG y).map (·+1)).bind (λm=>qS ((c+m:Nat):Int))=(lenG y).bind λm=>qS ((c+1+m:Nat):Int):=by
    cases lenG y with
    |none=>rw[Option.map_none,Option.bind_none,Option.bind_none]
    |some m=>rw[qCt,qCe,qCe,show c+(m+1)=c+1+m by omega]
   rw[e1];exact h
  ·rw[beqI,qCL h9,cond_false]
   by_cases h8:t.kind=8
   ·have:(t.kind != 8)=false:=by rw[h8];rfl
    have e0:((some 0).bind λm=>qS ((c+m:Nat):Int))=qS c:=by rw[qCe,Nat.add_zero]
    rw[this,qwx h8,e0];exact Gets.bind (zd e c λr h1 h2=>h1) λr h=>zb h (z3 h)
   ·have:(t.kind != 8)=true:=by simpa using h8
    rw[this,quy h9 h8,xW];simp only[cond_true,qb,qV,qq];exact vm
def qlC(op:List UInt8)(t:Tm):Option Tm:=
 if op=[108,101,110,103,116,104]then(lenG t).bind λn=>qS n
 else if t.kind=9 then(if op=[104,100]then t.subs[0]? else t.subs[1]?)
 else none
theorem qwt(e:Env)(op:List UInt8){t:Tm}(hc:t.chk=0):Gets (EVd (EV cfg) 180 [.ptr 0 0 0,.str op,t.av] 7 (mR e false)) (Res e (qlC op t)):=by
 rw[Tm.av,Tm.cells_eq];refine quq _ _ _ _ _ _ _ _ _ _ _ _ ?_;unfold zh1 zh0;have hw:=xo hc;unfold qlC;rw[beqS]
 by_cases h1:op=[108,101,110,103,116,104]
 ·rw[qCM h1,qCK h1,cond_true];have h:=qye e (a:=0) (b:=0) (s:=[]) (r:=[]) t.w t 0 (qCa _) hc (by omega)
  simpa using h
 ·rw[qCN h1,qCL h1,cond_false]
  by_cases h9:t.kind=9
  ·obtain⟨x,y,hs⟩:=zV hc h9;have:(t.kind != 9)=false:=by rw[h9];rfl
   rw[this,qCM h9,hs,beqS];simp only[cond_false,lt0T,lt1T,qcn,qbI,qb,qj,qCw,xe,qm,qk,cond_true,qq]
   by_cases h2:op=[104,100]
   ·rw[qCM h2,qCK h2];exact qR
   ·rw[qCN h2,qCL h2];exact qR
  ·have:(t.kind != 9)=true:=by simpa using h9
   rw[this,qCN h9,xW];simp only[cond_true,qb,qV,qq];exact vm
theorem qud{op:List UInt8}{t:Tm}:(if op=[108,101,110,103,116,104]then(lenG t).bind λn=>qS n else if t.kind=9 then(if op=[104,100]then t.subs[0]? else t.subs[1]?)else none)=qlC op t:=rfl
theorem qyd(e:Env)(op:List UInt8){t:Tm}(hc:t.chk=0):Gets (EVd (EV cfg) 170 [.ptr 0 0 0,.str op,t.av] 7 (mR e false)) (Res e (oneG op t)):=by
 have hl:=qwt e op hc;have hn:=qq7 hc;have hs:=qcO hc;have w1:qBZ .i64 (0 - t.num)= -t.num:=by rw[qt (by omega) (by omega)];omega
 rw[Tm.av,Tm.cells_eq]at hl⊢;refine qws _ _ _ _ _ _ _ _ _ _ _ _ ?_;unfold ze44 ze45 ze43 ze33 ze34 ze25 ze26 ze1 ze2 ze3;simp only[qq,qnZ,qb,qV,beqS,beqI,w1,xW,zk,qlB,xa,qgI,qxO (show -9223372036854775808<=t.num by omega) (by omega),qi];rw[qq]at hl;unfold oneG
 by_cases h1:op=[105,115,95,97,116,111,109]
 ·rw[qCM h1,qCK h1,cond_true];exact qR
 rw[qCN h1,qCL h1,cond_false]
 by_cases h2:op=[105,115,95,105,110,116,101,103,101,114]
 ·rw[qCM h2,qCK h2,cond_true];exact qR
 rw[qCN h2,qCL h2,cond_false]
 by_cases h3:op=[105,115,95,108,105,115,116]
 ·rw[qCM h3,qCK h3,cond_true];cases decide (t.kind=9)
  ·exact qR
  ·exact qR
 rw[qCN h3,qCL h3,cond_false]
 by_cases h4:op=[105,115,95,116,117,112,108,101]
 ·rw[qCM h4,qCK h4,cond_true];exact qR
 rw[qCN h4,qCL h4,cond_false]
 by_cases h5:op=[105,115,95,112,105,100]
 ·rw[qCM h5,qCK h5,cond_true];exact qR
 rw[qCN h5,qCL h5,cond_false]
 by_cases h6:op=[105,115,95,102,117,110,99,116,105,111,110]
 ·rw[qCM h6,qCK h6,cond_true];exact qR
 rw[qCN h6,qCL h6,cond_false]
 by_cases h7:op=[105,115,95,114,101,102,101,114,101,110,99,101]
 ·rw[qCM h7,qCK h7,cond_true];cases decide (t.kind=3)
  ·exact qR
  ·exact qR
 rw[qCN h7,qCL h7,cond_false]
 by_cases h8:op=[110,111,116]
 ·rw[qCM h8,qCK h8,cond_true];cases hb:xc t with
  |none=>exact vm
  |some x=>rw[qbf hb];exact qR
 rw[qCN h8,qCL h8,cond_false]
 by_cases h9:op=[98,110,111,116]
 ·rw[qCM h9,qCK h9,cond_true];exact qhC (b:=false)
 rw[qCN h9,qCL h9,cond_false]
 by_cases h10:op=[43]
 ·rw[qCM h10,qCK h10,cond_true];exact qhC (b:=false)
 rw[qCN h10,qCL h10,cond_false]
 by_cases h11:op=[45]
 ·rw[qCM h11,qCK h11,cond_true];exact qhC (b:=false)
 rw[qCN h11,qCL h11,cond_false]
 by_cases h12:op=[97,98,115]
 ·rw[qCM h12,qCK h12,cond_true];have e1:(if decide (t.num< -t.num)=true then -t.num else t.num)=if t.num<0 then -t.num else t.num:=by
   by_cases h:t.num<0
   ·rw[qCM h,qCM (qCK (by omega))]
   ·rw[qCN h,qCN (by rw[qCL (by omega)];simp)]
  rw[e1];exact qhC (b:=false)
 rw[qCN h12,qCL h12,cond_false];have tup:Gets (bif t.kind != 7 then some (xb.av,mR e true)else kOpt (EVd (EV cfg) 178 [.ptr 0 0 0,.int .i64 ((qa t.subs).length:Int)] 7 (mR e false)) λq=>kTmV q.1 fun(n n_1:Int) (s:List UInt8) (rows:List (List AV))=>some (AV.agg [.int .i64 n,.int .i64 n_1,.str s,.sl rows],q.2)) (Res e (if t.kind=7 then qS t.subs.length else none)):=by
  by_cases h:t.kind=7
  ·have:(t.kind != 7)=false:=by rw[h];rfl
   rw[this,qCM h,cond_false,qg];exact Gets.bind (zd e _ λr h1 h2=>h1) λr h=>zb h (z3 h)
  ·have:(t.kind != 7)=true:=by simpa using h
   rw[this,qCN h,cond_true];exact vm
 by_cases h13:op=[116,117,112,108,101,95,115,105,122,101]
 ·rw[qCM h13,qCK h13,cond_true];exact tup
 rw[qCN h13,qCL h13,cond_false]
 by_cases h14:op=[115,105,122,101]
 ·rw[qCM h14,qCK h14,cond_true];exact tup
 rw[qCN h14,qCL h14,cond_false,qud];exact Gets.bind hl λr h=>zb h (z3 h)
theorem qut(e:Env)(op:List UInt8){l:List Tm}(hl:∀x∈l,x.chk=0)(hlen:l.length<=2)(hp:op=[42]->xH):
  Gets (EVd (EV cfg) 161 [.ptr 0 0 0,.str op,.sl (qa l)] 7 (mR e false)) (Res e (qgY op l e.self)):=by
 refine qsk _ _ _ _ _ _ _ _ _ ?_
 match l,hl,hlen with
 |[],_,_=>
  simp only[qg,List.length_nil];refine⟨_,rfl,?_⟩;show _=(Tm.av _,mR e false);rw[Tm.av_mk,q4]
 |[a],hl,_=>
  have h1:=qyd e op (hl a (by simp));have c1:((((qa [a]).length:Nat):Int)==1)=true:=by rw[qg];rfl
  rw[c1];simp only[cond_true,lt0T,qcn,qb,qj,qCw,xe,qm,qk,qq];exact Gets.bind h1 λr h=>zb h (z3 h)
 |[a,b],hl,_=>
  have ha:=hl a (by simp);have hb:=hl b (by simp);have h1:=qyc e op (qcV ha) (qcV hb) (qrd ha) (qrd hb) hp;have c1:((((qa [a,b]).length:Nat):Int)==1)=false:=by rw[qg];rfl
  have c2:((((qa [a,b]).length:Nat):Int)==2)=true:=by rw[qg];rfl
  rw[c1,c2];simp only[cond_true,cond_false,lt0T,lt1T,qcn,qbI,qb,qj,qCw,xe,qm,qk,qq];exact Gets.bind h1 λr h=>zb h (z3 h)
 |_::_::_::_,_,h=>simp at h
end Go.Proofs.YtgleolmhpmljhaaGreat
end
noncomputable section
namespace Go.Av
def qnn(x e:Tm):Tm:=.mk 9 0 [] [x,e]
def qnr(l:List Tm)(e:Tm):Tm:=l.foldr qnn e
end Go.Av
namespace Go.Proofs.YtgleolmhpmljhaaGreat
open Go.Av
theorem qqe{l:List Tm}(hlen:l.length<1099511627776)(e:Tm):EVf (EV cfg) 169 [.sl (qa l),e.av]=some (qnr l e).av:=by
 have loop:∀(j:Nat) (a:Tm),j<=l.length->Gets (qjm ((j:Int) - 1) a.kind a.num a.str (qa a.subs) 0 0 [] [] (qa l)) (·=((l.take j).foldr qnn a).av):=by
  intro j
  induction j with
  |zero=>
   intro a _;refine qhT _ _ _ _ _ _ _ _ _ _ ?_;refine⟨_,rfl,?_⟩;rw[qq];rfl
  |succ j ih=>
   intro a hj;refine qhT _ _ _ _ _ _ _ _ _ _ ?_;have hil:j<l.length:=by omega
   have hx:l[j]? =some l[j]:=qB3 hil;have h:=ih (qnn l[j] a) (by omega);have e1:l.take (j+1)=l.take j++[l[j]]:=by rw[List.take_add_one,hx];rfl
   have e2:(((j+1:Nat):Int) - 1)=(j:Int):=by omega
   have w1:qBZ .i64 ((j:Int) - 1)=(j:Int) - 1:=qt (by omega) (by omega);rw[e2,w1,qCK (show(j:Int)≥0 by omega),qg,qE,qP,qCK hil,vW hx,e1,List.foldr_append];simp only[cond_true,qCx,qj,qCw,qm,qk,show qB4 4 4=true from rfl,qb];rw[←Tm.cells_eq,←Tm.cells_eq];have e3:qa (qnn l[j] a).subs=[l[j].cells,a.cells]:=by show qa [l[j],a]=_;rw[qN,qN,q4]
   rw[e3]at h;exact h
 apply Gets.get;rw[Tm.av,Tm.cells_eq];refine qov _ _ _ _ _ ?_;have h:=loop l.length e (qCa _);rw[List.take_length]at h;rw[qg,qt (by omega) (by omega)];exact h
theorem qbS{p:Nat->Bool}{r:List AV}(h:qap p r){n:Nat}(hn:n<100):EVs (EV cfg) 144 [.cptr r 0,.int .i64 n]=some (.bool (p n)):=by
 obtain⟨lo,hi,l,rfl,h1,h2,h3,h4⟩:=h;have key:∀{a k:Nat},a<18446744073709551616->k<64->((((a / 2 ^ k % 2:Nat):Int))==1)=a.testBit k:=by
  intro a k _ _;rw[Nat.testBit_eq_decide_div_mod_eq];rw[beqI];exact decide_eq_decide.2 (by omega)
 apply Gets.get;refine qrU _ _ ?_;unfold zc2
 by_cases hs:n<64
 ·have e:p n=lo.testBit n:=(h3 n hs).symm;have hd:=Nat.div_le_self lo (2 ^ n);rw[qCK (show(n:Int)<64 by omega),e];simp only[cond_true,qv,qCC,qb,qi,qqZ h1 hs,qrn (show lo / 2 ^ n<18446744073709551616 by omega),key h1 hs];exact⟨_,rfl,rfl⟩
 ·obtain⟨k,rfl⟩:∃k,n=k+64:=⟨n - 64,by omega⟩;have hk:k<64:=by omega
  have e:p (k+64)=hi.testBit k:=(h4 k hk).symm;have hd:=Nat.div_le_self hi (2 ^ k);have w:qBZ .i64 (((k+64:Nat):Int) - 64)=(k:Int):=by rw[qt (by omega) (by omega)];omega
  rw[qCL (show ¬((k+64:Nat):Int)<64 by omega),w,e];simp only[cond_false,qv,List.getElem?_cons_succ,qCC,qb,qi,qqZ h2 hk,qrn (show hi / 2 ^ k<18446744073709551616 by omega),key h2 hk];exact⟨_,rfl,rfl⟩
theorem qmu{p:Nat->Bool}{r:List AV}(h:qap p r){n:Nat}(hn:n<100):∃r',EVm (EV cfg) 143 [.ptr 0 0 0,.int .i64 n] 402 [r]=some (.unit,[r']) ∧
  qap (λi=>p i||decide (i=n)) r'∧r'.drop 2=r.drop 2∧r'.length=r.length∧(qw 0 r=true->qw 0 r'=true):=by
 obtain⟨lo,hi,l,rfl,h1,h2,h3,h4⟩:=h;have pw:∀{k:Nat},k<64->2 ^ k<18446744073709551616:=by
  intro k hk;have:2 ^ k<2 ^ 64:=Nat.pow_lt_pow_right (by omega) hk
  simpa using this
 have orlt:∀{a b:Nat},a<18446744073709551616->b<18446744073709551616->a ||| b<18446744073709551616:=by
  intro a b ha hb;have:=Nat.or_lt_two_pow (n:=64) (by simpa using ha) (by simpa using hb)
  simpa using this
 have bit:∀{a k i:Nat},(a ||| 2 ^ k).testBit i=(a.testBit i||decide (i=k)):=by
  intro a k i;rw[Nat.testBit_or,Nat.testBit_two_pow]
  congr 1
  exact decide_eq_decide.2 ⟨λh=>h.symm,λh=>h.symm⟩
 by_cases hs:n<64
 ·refine⟨.int .u64 ((lo ||| 2 ^ n:Nat):Int):: .int .u64 hi::l,?_,⟨_,hi,l,rfl,orlt h1 (pw hs),h2,λi hi=>?_,λi hi=>?_⟩,rfl,rfl,λh=>h⟩
  ·apply Gets.get;refine qjM _ _ ?_;rw[qCK (show(n:Int)<64 by omega)];simp only[cond_true,qv,qCC,qb,qi,qd4 hs,qhB h1 (pw hs)];exact⟨_,rfl,rfl⟩
  ·rw[bit,h3 i hi]
  ·have:decide (i+64=n)=false:=qCL (by omega);rw[h4 i hi];show p (i+64)=(p (i+64)||decide (i+64=n));rw[this,Bool.or_false]
 ·obtain⟨k,rfl⟩:∃k,n=k+64:=⟨n - 64,by omega⟩;have hk:k<64:=by omega
  have w:qBZ .i64 (((k+64:Nat):Int) - 64)=(k:Int):=by rw[qt (by omega) (by omega)];omega
  refine⟨.int .u64 lo:: .int .u64 ((hi ||| 2 ^ k:Nat):Int)::l,?_,⟨lo,_,l,rfl,h1,orlt h2 (pw hk),λi hi=>?_,λi hi=>?_⟩,rfl,rfl,λh=>h⟩
  ·apply Gets.get;refine qjM _ _ ?_;rw[qCL (show ¬((k+64:Nat):Int)<64 by omega),w];simp only[cond_false,qv,List.getElem?_cons_succ,qCC,qb,qi,qd4 hk,qhB h2 (pw hk)];exact⟨_,rfl,rfl⟩
  ·have:decide (i=k+64)=false:=qCL (by omega);rw[h3 i hi];show p i=(p i||decide (i=k+64));rw[this,Bool.or_false]
  ·rw[bit,h4 i hi]
   congr 1
   exact decide_eq_decide.2 (by omega)
def qAI:Den:=evC cfg (EV cfg) 152 none 1 (sub (qc Tryz.f152) [1,1,1,0,1,0,0])
def qBh(B:Rz)(n:Int):Ex×List AV×AH→Option AV:=kAft (Cfg.keepOut cfg 152 (qh (sub (qc Tryz.f152) [1,1,1,0,1,0,0]))) (qO 0 (kSeq (fun(fr:List AV) (H:AH)=>qL (Cfg.cut cfg 152 (qh (sub (qc Tryz.f152) [1,1,1,1]))) fr H fun(fr:List AV) (H:AH)=>qG cfg (EV cfg) (kfN cfg (5)) 152 none 1 (sub (qc Tryz.f152) [1,1,1,1]) fr H (vT cfg (Cfg.lift cfg 152 0) (fun(v:AV) (H:AH)=>(fun(r:AV×AH)=>kOpt (xB none 1 (Prod.fst r) (Prod.snd r)) fun(r:AV×AH)=>kTy noTy cfg (Oper.type { dst:=some 8,op:=Op.call { callee:=Callee.value (Operand.func 152),args:= #[Operand.tmp 7],argTypes:= #[123] },type:=163,pos:= "pattern.go:188",after:= #[{ on:=0,ground:=Ground.data }],guard:=none }) (Prod.fst r) fun(v:AV)=>(fun(v:AV) (H':AH)=>kOps cfg (EV cfg) (kfN cfg 6) 156 1 (y3 (sub (qc Tryz.f156) [1,0])) (0+1+1) (qCk 2 (qCl (y3 (sub (qc Tryz.f156) [1,0])))) (put (fx 35 [(0,AV.sl B),(1,AV.int IntKind.i64 n),(4,AV.ptr 0 0 0),(5,AV.bool false),(7,AV.sl B)]) (some 8) v) H' fun(fr':List AV) (H':AH)=>kSeq (fun(fr:List AV) (H:AH)=>qL (Cfg.cut cfg 156 (qh (sub (qc Tryz.f156) [1,1]))) fr H fun(fr:List AV) (H:AH)=>qG cfg (EV cfg) (kfN cfg 6) 156 none 0 (sub (qc Tryz.f156) [1,1]) fr H (vL cfg (Cfg.lift cfg 156 0) (qCl (Func.results Tryz.f156)))) (vL cfg (Cfg.lift cfg 156 0) (qCl (Func.results Tryz.f156))) Ex.normal fr' H') v (Prod.snd r)) (v,H)) (qCl (Func.results (Prod.snd (152,Tryz.f152)))))) (vT cfg (Cfg.lift cfg 152 0) (fun(v:AV) (H:AH)=>(fun(r:AV×AH)=>kOpt (xB none 1 (Prod.fst r) (Prod.snd r)) fun(r:AV×AH)=>kTy noTy cfg (Oper.type { dst:=some 8,op:=Op.call { callee:=Callee.value (Operand.func 152),args:= #[Operand.tmp 7],argTypes:= #[123] },type:=163,pos:= "pattern.go:188",after:= #[{ on:=0,ground:=Ground.data }],guard:=none }) (Prod.fst r) fun(v:AV)=>(fun(v:AV) (H':AH)=>kOps cfg (EV cfg) (kfN cfg 6) 156 1 (y3 (sub (qc Tryz.f156) [1,0])) (0+1+1) (qCk 2 (qCl (y3 (sub (qc Tryz.f156) [1,0])))) (put (fx 35 [(0,AV.sl B),(1,AV.int IntKind.i64 n),(4,AV.ptr 0 0 0),(5,AV.bool false),(7,AV.sl B)]) (some 8) v) H' fun(fr':List AV) (H':AH)=>kSeq (fun(fr:List AV) (H:AH)=>qL (Cfg.cut cfg 156 (qh (sub (qc Tryz.f156) [1,1]))) fr H fun(fr:List AV) (H:AH)=>qG cfg (EV cfg) (kfN cfg 6) 156 none 0 (sub (qc Tryz.f156) [1,1]) fr H (vL cfg (Cfg.lift cfg 156 0) (qCl (Func.results Tryz.f156)))) (vL cfg (Cfg.lift cfg 156 0) (qCl (Func.results Tryz.f156))) Ex.normal fr' H') v (Prod.snd r)) (v,H)) (qCl (Func.results (Prod.snd (152,Tryz.f152)))))))
def qvn(B:Rz)(n:Int):List AV×AH->Option AV:=fun(p:List AV×AH)=>kOpt (LOOP 1 (some [3,4,9,10,11]) [] qAI p) (qBh B n)
abbrev qjr(B:Rz)(n v4 v11 c0_0 c0_1:Int)(c0_2:Bz)(c0_3:Rz)(c1r0:List AV):Option (AV):=qvn (B) (n) (((fx 48 [(3,.ptr 1 0 0),(4,.int .i64 v4),(9,.sl B),(10,.int .i64 (B.length:Int)),(11,.int .i64 v11)]):List AV),([.rows false 4 [[.int .i64 c0_0,.int .i64 c0_1,.str c0_2,.sl c0_3]],.rows true 402 [c1r0]]:AH))
abbrev qxP(B:Rz)(n n' n'' n''':Int)(s:Bz)(rows:Rz)(q:MV×List (List AV))(row:List AV)(v4 v11 c0_0 c0_1:Int)(c0_2:Bz)(c0_3:Rz):Option (AV):=qvn (B) (n) (((fx 48 [(3,.ptr 1 0 0),(4,.int .i64 v4),(9,.sl B),(10,.int .i64 (B.length:Int)),(11,.int .i64 v11)]):List AV),([.rows false 4 [[.int .i64 c0_0,.int .i64 c0_1,.str c0_2,.sl c0_3]],.rows true 402 (qCA q.2 0 (qCu (qCu (qB8 (2+qB7 n'*4) row) [.int .i64 n'',.int .i64 n''',.str s,.sl rows]) (qCk (2+qB7 n'*4+4) row)))]:AH))
theorem qp8(B:Rz)(n:Int){P:AV->Prop}(h:Gets (qjr B n (- 1) 0 0 0 [] [] [AV.int .u64 0,.int .u64 0,.int .i64 0,.int .i64 0,.str [],.nilS,.int .i64 0,.int .i64 0,.str [],.nilS,.int .i64 0,.int .i64 0,.str [],.nilS,.int .i64 0,.int .i64 0,.str [],.nilS,.int .i64 0,.int .i64 (0:Int),.str [],.nilS,.int .i64 0,.int .i64 0,.str [],.nilS,.int .i64 0,.int .i64 0,.str [],.nilS,.int .i64 0,.int .i64 0,.str [],.nilS,.int .i64 0,.int .i64 0,.str [],.nilS,.int .i64 0,.int .i64 0,.str [],.nilS,.int .i64 0,.int .i64 0,.str [],.nilS,.int .i64 0,.int .i64 0,.str [],.nilS,.int .i64 0,.int .i64 0,.str [],.nilS,.int .i64 0,.int .i64 0,.str [],.nilS,.int .i64 0,.int .i64 0,.str [],.nilS,.int .i64 0,.int .i64 0,.str [],.nilS,.int .i64 0,.int .i64 0,.str [],.nilS,.int .i64 0,.int .i64 0,.str [],.nilS,.int .i64 0,.int .i64 0,.str [],.nilS,.int .i64 0,.int .i64 0,.str [],.nilS,.int .i64 0,.int .i64 0,.str [],.nilS,.int .i64 0,.int .i64 0,.str [],.nilS,.int .i64 0,.int .i64 0,.str [],.nilS,.int .i64 0,.int .i64 0,.str [],.nilS,.int .i64 0,.int .i64 0,.str [],.nilS,.int .i64 0,.int .i64 0,.str [],.nilS,.int .i64 0,.int .i64 0,.str [],.nilS,.int .i64 0,.int .i64 0,.str [],.nilS,.int .i64 0,.int .i64 0,.str [],.nilS,.int .i64 0,.int .i64 0,.str [],.nilS,.int .i64 0,.int .i64 0,.str [],.nilS,.int .i64 0,.int .i64 0,.str [],.nilS,.int .i64 0,.int .i64 0,.str [],.nilS,.int .i64 0,.int .i64 0,.str [],.nilS,.int .i64 0,.int .i64 0,.str [],.nilS,.int .i64 0,.int .i64 0,.str [],.nilS,.int .i64 0,.int .i64 0,.str [],.nilS,.int .i64 0,.int .i64 0,.str [],.nilS,.int .i64 0,.int .i64 0,.str [],.nilS,.int .i64 0,.int .i64 0,.str [],.nilS,.int .i64 0,.int .i64 0,.str [],.nilS,.int .i64 0,.int .i64 0,.str [],.nilS,.int .i64 0,.int .i64 0,.str [],.nilS,.int .i64 0,.int .i64 0,.str [],.nilS,.int .i64 0,.int .i64 0,.str [],.nilS,.int .i64 0,.int .i64 0,.str [],.nilS,.int .i64 0,.int .i64 0,.str [],.nilS,.int .i64 0,.int .i64 0,.str [],.nilS,.int .i64 0,.int .i64 0,.str [],.nilS,.int .i64 0,.int .i64 0,.str [],.nilS,.int .i64 0,.int .i64 0,.str [],.nilS,.int .i64 0,.int .i64 0,.str [],.nilS,.int .i64 0,.int .i64 0,.str [],.nilS,.int .i64 0,.int .i64 0,.str [],.nilS,.int .i64 0,.int .i64 0,.str [],.nilS,.int .i64 0,.int .i64 0,.str [],.nilS,.int .i64 0,.int .i64 0,.str [],.nilS,.int .i64 0,.int .i64 0,.str [],.nilS,.int .i64 0,.int .i64 0,.str [],.nilS,.int .i64 0,.int .i64 0,.str [],.nilS,.int .i64 0,.int .i64 0,.str [],.nilS,.int .i64 0,.int .i64 0,.str [],.nilS,.int .i64 0,.int .i64 0,.str [],.nilS,.int .i64 0,.int .i64 0,.str [],.nilS,.int .i64 0,.int .i64 0,.str [],.nilS,.int .i64 0,.int .i64 0,.str [],.nilS,.int .i64 0,.int .i64 0,.str [],.nilS,.int .i64 0,.int .i64 0,.str [],.nilS,.int .i64 0,.int .i64 0,.str [],.nilS,.int .i64 0,.int .i64 0,.str [],.nilS,.int .i64 0,.int .i64 0,.str [],.nilS,.int .i64 0,.int .i64 0,.str [],.nilS,.int .i64 0,.int .i64 0,.str [],.nilS,.int .i64 0,.int .i64 0,.str [],.nilS,.int .i64 0,.int .i64 0,.str [],.nilS,.int .i64 0,.int .i64 0,.str [],.nilS,.int .i64 0,.int .i64 0,.str [],.nilS,.int .i64 0,.int .i64 0,.str [],.nilS,.int .i64 0,.int .i64 0,.str [],.nilS,.int .i64 0,.int .i64 0,.str [],.nilS,.int .i64 0,.int .i64 0,.str [],.nilS,.int .i64 0,.int .i64 0,.str [],.nilS,.int .i64 0,.int .i64 0,.str [],.nilS,.int .i64 0,.int .i64 0,.str [],.nilS,.int .i64 0,.int .i64 0,.str [],.nilS,.int .i64 0,.int .i64 0,.str [],.nilS,.int .i64 0,.int .i64 0,.str [],.nilS,.int .i64 0,.int .i64 0,.str [],.nilS,.int .i64 0,.int .i64 0,.str [],.nilS,.int .i64 0,.int .i64 0,.str [],.nilS,.int .i64 0,.int .i64 0,.str [],.nilS,.int .i64 0,.int .i64 0,.str [],.nilS,.int .i64 0,.int .i64 0,.str [],.nilS,.int .i64 0,.int .i64 0,.str [],.nilS,.int .i64 0,.int .i64 0,.str [],.nilS,.int .i64 0,.int .i64 0,.str [],.nilS,.int .i64 0,.int .i64 0,.str [],.nilS,.int .i64 0,.int .i64 0,.str [],.nilS,.int .i64 0,.int .i64 0,.str [],.nilS,.int .i64 0,.int .i64 0,.str [],.nilS]) P):Gets (EVf (EV cfg) 156 [.sl B,.int .i64 n]) P:=
  gE (λ_=>funF rfl rfl Tryz.func156 rfl) (by kernel_rfl) h
abbrev zi0:Option (AV):=some (AV.tup [.agg [.int .i64 0,.int .i64 0,.str [],.sl []],.bool false])
theorem qhY(B:Rz)(n v4 v11 c0_0 c0_1:Int)(c0_2:Bz)(c0_3:Rz)(c1r0:List AV){P:AV->Prop}(h:Gets (bif decide (v11<(B.length:Int))then bif qd 0 v11&&qe v11 (B.length:Int)then kOpt (qB0 B (v11.toNat)) λrow=>bif qCh (qB1 row) 5 then bif qB4 5 (qB1 row)then qf (qB8 5 row) λc cs=>kInt .i64 c λn_1=>kTmC cs λn_2 n_3 s rows=>(bif decide (n_1<=v4)then some (AV.tup [.agg [.int .i64 0,.int .i64 0,.str [],.sl []],.bool false])else bif decide (n_1>99)then some (AV.tup [.agg [.int .i64 0,.int .i64 0,.str [],.sl []],.bool false])else kOpt (EVs (EV cfg) 53 [.agg [.int .i64 n_2,.int .i64 n_3,.str s,.sl rows]]) λv=>qr v λb=>bif ! b then some (AV.tup [.agg [.int .i64 0,.int .i64 0,.str [],.sl []],.bool false])else kOpt (EVm (EV cfg) 143 [.ptr 0 0 0,.int .i64 n_1] 402 [c1r0]) λq=>qx q.1 (bif qd 0 n_1&&qe n_1 100 then kOpt (qB0 q.2 0) λrow=>bif qB4 (2+qB7 n_1*4+4) (qB1 row)then qxP B n n_1 n_2 n_3 s rows q row n_1 (qBZ .i64 (v11+1)) c0_0 c0_1 c0_2 c0_3 else none else none))else none else none else none else bif decide (n<0)then zi0 else bif decide (n>99)then zi0 else bif qw 0 c1r0 then bif qw 0 [AV.cptr c1r0 0,.int .i64 n]then kOpt (EVs (EV cfg) 144 [AV.cptr c1r0 0,.int .i64 n]) λv=>qr v λb=>bif ! b then zi0 else bif qd 0 n&&qe n 100 then bif qB4 (2+qB7 n*4+4) (qB1 c1r0)then qf (qB8 4 (qCk (2+qB7 n*4) c1r0)) λc cs=>kInt .i64 c λn=>qf cs λc cs=>kInt .i64 c λn_1=>qf cs λc cs=>kStr c λs=>qf cs λc cs=>kSl c λrows=>kNil cs (kOpt (EVf (EV cfg) 51 [.agg [.int .i64 n,.int .i64 n_1,.str s,.sl rows]]) λv=>kTmV v λn n_2 s rows=>(some (AV.tup [.agg [.int .i64 n,.int .i64 n_2,.str s,.sl rows],.bool true])))else none else none else none else none) P):Gets (qjr B n v4 v11 c0_0 c0_1 c0_2 c0_3 c1r0) P:=
  gE (λ_=>ql (cfg:=cfg) (f:=152) (rd:=none) (bs:=1)) (by kernel_rfl) h
def qe5(o:Option Tm):AV:=match o with|some t=>.tup [t.av,.bool true]|none=>.tup [xb.av,.bool false]
theorem qwJ{L:List (Int×Tm)}{n last:Int}{r:List AV}(hm:mayB (-1) L=true)(hr:BRow L r)(hok:∀p∈L,p.2.Ok):Gets (qjr (vH L) n last L.length 0 0 [] [] r) (·=qe5 (qdp n L)):=by
 have hz:AV.agg [.int .i64 0,.int .i64 0,.str [],.sl []]=xb.av:=qbi.symm;unfold qdp;rw[qCM hm];refine qhY _ _ _ _ _ _ _ _ _ ?_;unfold zi0;rw[xV,qCL (show ¬(L.length:Int)<(L.length:Int) by omega),cond_false,hz]
 by_cases h1:n<0
 ·have:q7 n L=none:=by
   cases hx:q7 n L with
   |none=>rfl
   |some t=>have:=qeM hm _ (yl hx);simp at this;omega
  rw[qCK h1,this];exact⟨_,rfl,rfl⟩
 ·rw[qCL h1,cond_false]
  by_cases h2:n>99
  ·have:q7 n L=none:=by
    cases hx:q7 n L with
    |none=>rfl
    |some t=>have:=qeM hm _ (yl hx);simp at this;omega
   rw[qCK h2,this];exact⟨_,rfl,rfl⟩
  ·rw[qCL h2,cond_false];obtain⟨k,rfl⟩:∃k:Nat,n=k:=⟨n.toNat,by omega⟩;have hk:k<100:=by omega
   have hf2:qw 0 [AV.cptr r 0,.int .i64 (k:Int)]=true:=by simp[qw,AV.refsLt,hr.free]
   rw[hr.free,hf2,qbS hr.set hk];simp only[cond_true,qb,qp];cases hx:q7 (k:Int) L with
   |none=>exact⟨_,rfl,rfl⟩
   |some t=>
    have hc:=hr.cells k hk t hx;have hcopy:=qeg (hok _ (yl hx));have hb:qB4 (2+(k:Int).toNat*4+4) r.length=true:=by rw[qCz,hr.len];omega
    have hl2:qe (k:Int) 100=true:=by simp[qe];omega
    rw[qE,hl2,hb,qCi,hc,Tm.cells_eq];simp only[Option.isSome_some,qCj,cond_false,cond_true,qCx,qf,qi,zm,vt,kNil,qq];rw[hcopy];simp only[qb,qV,qq];exact⟨_,rfl,rfl⟩
theorem quV{L:List (Int×Tm)}{n:Int}(hlen:L.length<1099511627776)(hw:∀p∈L,p.2.w<1099511627776):∀(d i:Nat) (last:Int) (r:List AV),i+d=L.length->-1<=last ->
  (mayB (-1) L=mayB last (L.drop i))->(∀p∈L.take i,p.1<=last)->BRow (L.take i) r->Gets (qjr (vH L) n last i 0 0 [] [] r) (·=qe5 (qdp n L)):=by
 have hok:∀p∈L,p.2.Ok:=λp hp=>qcw _ (hw p hp)
 have hz:AV.agg [.int .i64 0,.int .i64 0,.str [],.sl []]=xb.av:=qbi.symm;intro d
 induction d with
 |zero=>
  intro i last r hi _ hm _ hr;obtain rfl:i=L.length:=by omega
  rw[qCd (qCa _)]at hr;have hm':mayB (-1) L=true:=by rw[hm,qCs (qCa _)];rfl
  exact qwJ hm' hr hok
 |succ d ih=>
  intro i last r hi hlast hm hkeys hr;have hil:i<L.length:=by omega
  have hx:L[i]? =some L[i]:=qB3 hil;have hd:L.drop i=L[i]::L.drop (i+1):=qCp hil;have ht:L.take (i+1)=L.take i++[L[i]]:=by rw[List.take_add_one,hx];rfl
  have hmem:=qCc hx;have hmay:=zN (hw _ hmem);rw[hd]at hm;generalize hp:L[i]=p at *;obtain⟨pn,pt⟩:=p;simp only at hmay;refine qhY _ _ _ _ _ _ _ _ _ ?_;unfold zi0;rw[xV,qCK (show(i:Int)<(L.length:Int) by omega),qE,qP,qCK hil,qv,qCi,qe9,hx,qZ hil hlen];simp only[cond_true,qCx,qCt,qb,qCE,qj,qCw,show qB4 (4+1) (4+1)=true from rfl,show qB4 5 (4+1)=true from rfl,show qCh (4+1) 5=true from rfl]
  have htk:qB8 5 (AV.int .i64 pn::pt.cells)=AV.int .i64 pn::pt.cells:=qCd (by simp);rw[htk];simp only[qf,qi,qk,qq];rw[hmay];have none_of:mayB (-1) L=false->qe5 (qdp n L)= .tup [xb.av,.bool false]:=λh=>by unfold qdp;rw[h];rfl
  rw[hz]
  by_cases h1:pn<=last
  ·rw[qCK h1];refine⟨_,rfl,(none_of ?_).symm⟩;rw[hm,mayB,qCL (by show ¬last<pn;omega),Bool.false_and]
  ·rw[qCL h1,cond_false]
   by_cases h2:pn>99
   ·rw[qCK h2];refine⟨_,rfl,(none_of ?_).symm⟩;rw[hm,mayB,qCL (show ¬(pn,pt).1<=99 by show ¬pn<=99;omega),Bool.false_and,Bool.and_false]
   ·rw[qCL h2,cond_false]
    by_cases h3:pt.chk=0
    ·obtain⟨k,rfl⟩:∃k:Nat,pn=k:=⟨pn.toNat,by omega⟩;have hk:k<100:=by omega
     obtain⟨r',e1,e2,e3,e4,e5⟩:=qmu hr.set hk;have hnew:q7 (k:Int) (L.take i)=none:=by
      cases hx:q7 (k:Int) (L.take i)with
      |none=>rfl
      |some t=>have:=hkeys _ (yl hx);simp at this;omega
     have hadd:=hr.add (t:=pt) hk hnew e2 e3 e4 e5;have hb:qB4 (2+(k:Int).toNat*4+4) r'.length=true:=by rw[qCz,e4,hr.len];omega
     have hl2:qe (k:Int) 100=true:=by simp[qe];omega
     have:=ih (i+1) k _ (by omega) (by omega) (by rw[hm,mayB,qCK (show last<(k:Int) by omega),qCK (show((k:Int))<=99 by omega),qCK h3];rfl)
      (λp hpm=>by
       rw[ht]at hpm;rcases qCy.1 hpm with h|h
       ·have:=hkeys p h;omega
       ·simp at h;subst h;exact Int.le_refl _) (by rw[ht];exact hadd)
     simp only[qb,qp,qCK h3,qCj,cond_false,e1,qU,qE,hl2,qCx,cond_true,qv,qCC,hb];rw[Tm.cells_eq]at this;exact this
    ·simp only[qb,qp,qCL h3,qCm,cond_true];refine⟨_,rfl,(none_of ?_).symm⟩;rw[hm,mayB,qCL (show ¬(((pn,pt):Int×Tm).2).chk=0 from h3),Bool.false_and,Bool.and_false,Bool.and_false]
theorem qqT:BRow [] ([AV.int .u64 0,.int .u64 0]++(qCr 100 [AV.int .i64 0,.int .i64 0,.str [],.nilS]).flatten) where
 len:=by decide +kernel
 set:=⟨0,0,_,rfl,by omega,by omega,λn _=>by simp[q7],λn _=>by simp[q7]⟩
 cells:=λi _ t h=>by simp[q7]at h
 free:=by decide +kernel
theorem qr5{L:List (Int×Tm)}(hlen:L.length<1099511627776)(hw:∀p∈L,p.2.w<1099511627776)(n:Int):EVf (EV cfg) 156 [.sl (vH L),.int .i64 n]=some (qe5 (qdp n L)):=by
 apply Gets.get;refine qp8 _ _ ?_;have h:=quV (n:=n) hlen hw L.length 0 (-1) _ (by omega) (by omega) rfl (λp hp=>by simp at hp) qqT;refine Gets.eq ?_ h
 kernel_rfl
def mayR(last:Int)(pre:List Int)(L:List (Int×Tm))(o:Tm)(self:Int):AV:=
 if mayB last L then .tup [.sl (q6 (pre++L.map (·.1))),.bool (decide (o.chk=0)&&qeH self)]else .tup [.sl [],.bool false]
def envR(o:Tm)(L:List (Int×Tm))(self:Int):AV:=.agg [.int .i64 o.kind,.int .i64 o.num,.str o.str,.sl (qa o.subs),.sl (vH L),.int .i64 self]
theorem qxL{n:Nat}(h:n<=1099511627776):qW n 8=true:=by
 unfold qW;rw[qB2,qCz,qCz];omega
theorem qiw{L:List (Int×Tm)}(hlen:L.length<1099511627776)(hw:∀p∈L,p.2.w<1099511627776){o:Tm}(ho:o.w<1099511627776)(self:Int):
  EVf (EV cfg) 139 [envR o L self]=some (mayR (-1) [] L o self):=by
 have hco:=zW ho;rw[Tm.av,Tm.cells_eq]at hco;have loop:∀(d i:Nat) (last:Int),i+d=L.length->Gets (qjo (vH L) i last i o.kind o.num o.str (qa o.subs) (vH L) self (q6 ((L.take i).map (·.1)))) (·=mayR last ((L.take i).map (·.1)) (L.drop i) o self):=by
  intro d
  induction d with
  |zero=>
   intro i last hi;refine qhV _ _ _ _ _ _ _ _ _ _ _ ?_;obtain rfl:i=L.length:=by omega
   have hb:qB4 (0+L.length) (q6 ((L.take L.length).map (·.1))).length=true:=by rw[qCz,yM,qCH,qCD];omega
   have ht:qB8 L.length (q6 ((L.take L.length).map (·.1)))=q6 ((L.take L.length).map (·.1)):=qCd (by rw[yM,qCH,qCD];omega);rw[xV,qCL (by omega),qCs (qCa _),hco,qxV];unfold mayR;simp only[cond_false,qb,qi,qp,beqI,cond_true,mayB,if_true,List.map_nil,List.append_nil,hb,ht,Bool.and_true]
   by_cases hc:o.chk=0
   ·rw[qCK hc];exact⟨_,rfl,rfl⟩
   ·rw[qCL hc];exact⟨_,rfl,rfl⟩
  |succ d ih=>
   intro i last hi;refine qhV _ _ _ _ _ _ _ _ _ _ _ ?_;have hil:i<L.length:=by omega
   have hx:L[i]? =some L[i]:=qB3 hil;have hd:L.drop i=L[i]::L.drop (i+1):=qCp hil;have hck:=zW (hw L[i] (qCc hx));have h:=ih (i+1) L[i].1 (by omega);have e1:(L.take (i+1)).map (·.1)=(L.take i).map (·.1)++[L[i].1]:=by
    have ht:L.take (i+1)=L.take i++[L[i]]:=by rw[List.take_add_one,hx];rfl
    rw[ht,List.map_append];rfl
   have hl0:(q6 ((L.take i).map (·.1))).length=i:=by rw[yM,qCH,qCD];omega
   have e2:qCu (qB8 i (q6 ((L.take i).map (·.1)))) [[AV.int .i64 L[i].1]]=q6 ((L.take (i+1)).map (·.1)):=by
    rw[qCd (by omega),e1];simp[q6]
   have e3:qB4 (0+i) (q6 ((L.take i).map (·.1))).length=true:=by rw[hl0,qCz];omega
   rw[xV,qCK (show(i:Int)<(L.length:Int) by omega),qE,qP,qCK hil,qv,qCi,qe9,hx,qZ hil hlen,hd];simp only[qCt,cond_true,qCx,qb,qCE,qj,show qCh (4+1) 5=true from rfl,show qB4 5 (4+1)=true from rfl,List.take_succ_cons,qm,qf,qi,qk,qq,hck,e2,e3,qxL (show i+1<=1099511627776 by omega)]
   unfold mayR at h⊢;rw[mayB]
   by_cases h1:last<L[i].1
   ·rw[qCL (show ¬L[i].1<=last by omega),qCK h1,cond_false,qCF]
    by_cases h2:L[i].1<=99
    ·rw[qCL (show ¬L[i].1>99 by omega),qCK h2,cond_false,qCF]
     by_cases h3:L[i].2.chk=0
     ·have e0:(L[i].2.chk != 0)=false:=by rw[h3];rfl
      rw[e0,qCK h3,cond_false,qCF];have e4:(L.take (i+1)).map (·.1)++(L.drop (i+1)).map (·.1)=(L.take i).map (·.1)++(L[i]::L.drop (i+1)).map (·.1):=by rw[e1,List.append_assoc];rfl
      rw[e4]at h;exact h
     ·have e0:(L[i].2.chk != 0)=true:=by simpa using h3
      rw[e0,qCL h3];exact⟨_,rfl,rfl⟩
    ·rw[qCK (show L[i].1>99 by omega),qCL h2];exact⟨_,rfl,rfl⟩
   ·rw[qCK (show L[i].1<=last by omega),qCL h1];exact⟨_,rfl,rfl⟩
 apply Gets.get;refine qoU _ _ _ _ _ _ ?_;have h:=loop L.length 0 (-1) (by omega);exact h
def qjy(b:Bool)(t:Tm):Option Tm:=if b then none else if t.chk=0 then some t else none
theorem qun(e:Env)(b:Bool){t:Tm}(h:t.w<1099511627776):Gets (EVd (EV cfg) 157 [.ptr 0 0 0,t.av] 7 (mR e b)) (Res e (qjy b t)):=by
 have hc:=zW h;have hr:=xW e b;unfold qjy;rw[Tm.av,Tm.cells_eq]at hc⊢;refine qj8 _ _ _ _ _ _ _ _ _ _ _ ?_;unfold za0;rw[hc];cases b with
 |true=>
  rw[qCM rfl,cond_true,hr];simp only[qb,qV];rw[qq];exact vm
 |false=>
  rw[qCN (by simp),cond_false];simp only[qb,qi]
  by_cases h0:t.chk=0
  ·have e0:(t.chk != 0)=false:=by rw[h0];rfl
   rw[e0,qCM h0,cond_false,qq];exact qR
  ·have e0:(t.chk != 0)=true:=by simpa using h0
   rw[e0,qCN h0,cond_true,hr];simp only[qb,qV];rw[qq];exact vm
theorem qur{e:Env}(hlen:e.binds.length<1099511627776)(b:Bool):EVd (EV cfg) 158 [.ptr 0 0 0] 7 (mR e b)=some ((qnr (e.binds.map (·.2)) (.mk 8 0 [] [])).av,mR e b):=by
 have loop:∀(d i:Nat),i+d=e.binds.length->Gets (qjn (vH e.binds) i i (mR e b) 0 0 [] [] (qa ((e.binds.take i).map (·.2)))) (·=((qnr (e.binds.map (·.2)) (.mk 8 0 [] [])).av,mR e b)):=by
  intro d
  induction d with
  |zero=>
   intro i hi;refine qhU _ _ _ _ _ _ _ _ _ ?_;obtain rfl:i=e.binds.length:=by omega
   have hb:qB4 (0+e.binds.length) (qa ((e.binds.take e.binds.length).map (·.2))).length=true:=by rw[qCz,qg,qCH,qCD];omega
   have ht:qB8 e.binds.length (qa ((e.binds.take e.binds.length).map (·.2)))=qa (e.binds.map (·.2)):=by
    rw[qCd (by rw[qg,qCH,qCD];omega),List.take_length]
   have hm:=qqe (l:=e.binds.map (·.2)) (by rw[qCH];exact hlen) (.mk 8 0 [] []);rw[Tm.av_mk,q4]at hm;rw[xV,qCL (by omega)];simp only[cond_false,hb,Bool.and_true,cond_true,ht,hm,qb,qV,qq];exact⟨_,rfl,rfl⟩
  |succ d ih=>
   intro i hi;refine qhU _ _ _ _ _ _ _ _ _ ?_;have hil:i<e.binds.length:=by omega
   have hx:e.binds[i]? =some e.binds[i]:=qB3 hil;have h:=ih (i+1) (by omega);have e1:(e.binds.take (i+1)).map (·.2)=(e.binds.take i).map (·.2)++[e.binds[i].2]:=by
    have ht:e.binds.take (i+1)=e.binds.take i++[e.binds[i]]:=by rw[List.take_add_one,hx];rfl
    rw[ht,List.map_append];rfl
   have hl0:(qa ((e.binds.take i).map (·.2))).length=i:=by rw[qg,qCH,qCD];omega
   have e2:qCu (qB8 i (qa ((e.binds.take i).map (·.2)))) [e.binds[i].2.cells]=qa ((e.binds.take (i+1)).map (·.2)):=by
    rw[qCd (by omega),e1,vn,qN,q4];rfl
   have e3:qB4 (0+i) (qa ((e.binds.take i).map (·.2))).length=true:=by rw[hl0,qCz];omega
   rw[xV,qCK (show(i:Int)<(e.binds.length:Int) by omega),qE,qP,qCK hil,qv,qCi,qe9,hx,qZ hil hlen];simp only[qCt,cond_true,qCx,qb,qCE,qj,show qCh (4+1) 5=true from rfl,show qB4 5 (4+1)=true from rfl,List.take_succ_cons,qm,qf,qi,qk,e3,yv (show i+1<=1099511627776 by omega)]
   rw[←Tm.cells_eq,e2];exact h
 apply Gets.get;refine qsj _ _ _ _ _ _ _ ?_;exact loop e.binds.length 0 (by omega)
end Go.Proofs.YtgleolmhpmljhaaGreat
end
noncomputable section
namespace Go.Av
def qat(f:Tm->Option Tm):List Tm->Option (List Tm)
 |[]=>some []
 |t::l=>(f t).bind λx=>(qat f l).map (x::·)
def ResL(e:Env)(o:Option (List Tm))(r:AV×List (List AV)):Prop:=
 match o with
 |some ts=>r=(.sl (qa ts),mR e false)
 |none=>r.2=mR e true∧∃ts:List Tm,r.1= .sl (qa ts)
end Go.Av
namespace Go.Proofs.YtgleolmhpmljhaaGreat
open Go.Av
theorem qrG{e:Env}{l acc:List Tm}{i:Nat}(hi:i<=l.length)(ha:acc.length=i):Gets (qfz (qa l) i i (mR e true) (qa acc)) (ResL e none):=by
 refine qdx _ _ _ _ _ ?_
 by_cases hil:i<l.length
 ·have hx:l[i]? =some l[i]:=qB3 hil;rw[qg,qCK (show(i:Int)<(l.length:Int) by omega),qE,qP,qCK hil,vW hx];simp only[cond_true,qCx,qj,qCw,qm,qk,show qB4 4 4=true from rfl,qb];exact⟨_,rfl,rfl,[],by rw[q4]⟩
 ·have e3:(qB4 (0+i) (qa acc).length&&true)=true:=by rw[Bool.and_true,qCz,qg];omega
  rw[qg,qCL (by omega),cond_false,e3,cond_true,qCd (by rw[qg];omega)];exact⟨_,rfl,rfl,acc,rfl⟩
theorem qsg{e:Env}{f:Tm->Option Tm}{l:List Tm}(hlen:l.length<1099511627776)(ih:∀x∈l,Gets (EVd (EV cfg) 140 [.ptr 0 0 0,x.av] 7 (mR e false)) (Res e (f x))):
  Gets (EVd (EV cfg) 159 [.ptr 0 0 0,.sl (qa l)] 7 (mR e false)) (ResL e (qat f l)):=by
 have loop:∀(d i:Nat) (acc:List Tm),i+d=l.length->acc.length=i->Gets (qfz (qa l) i i (mR e false) (qa acc)) (ResL e ((qat f (l.drop i)).map (acc++·))):=by
  intro d
  induction d with
  |zero=>
   intro i acc hi ha;refine qdx _ _ _ _ _ ?_;have e3:(qB4 (0+i) (qa acc).length&&true)=true:=by rw[Bool.and_true,qCz,qg];omega
   rw[qg,qCL (by omega),cond_false,e3,cond_true,qCd (by rw[qg];omega),qCs (by omega)];refine⟨_,rfl,?_⟩;show _=(AV.sl (qa (acc++[])),mR e false);rw[List.append_nil]
  |succ d ihd=>
   intro i acc hi ha;refine qdx _ _ _ _ _ ?_;have hil:i<l.length:=by omega
   have hx:l[i]? =some l[i]:=qB3 hil;have hd:l.drop i=l[i]::l.drop (i+1):=qCp hil;have h1:=ih l[i] (qCc hx);have e3:(qB4 (0+i) (qa acc).length&&qW (i+1) 56)=true:=by rw[yv (by omega),Bool.and_true,qCz,qg];omega
   have e4:∀t:Tm,qCu (qB8 i (qa acc)) [[.int .i64 t.kind,.int .i64 t.num,.str t.str,.sl (qa t.subs)]]=qa (acc++[t]):=by
    intro t;rw[qCd (by rw[qg];omega),vn,qN,q4,Tm.cells_eq];rfl
   rw[qg,qCK (show(i:Int)<(l.length:Int) by omega),qE,qP,qCK hil,vW hx,qZ hil hlen,hd,qat];simp only[cond_true,qCx,qj,qCw,qm,qk,show qB4 4 4=true from rfl,qb,qq];show Gets (kOpt (EVd (EV cfg) _ _ 7 (mR e false)) _) _;refine Gets.bind h1 ?_;intro r hr;cases hf:f l[i]with
   |none=>
    rw[hf]at hr;obtain⟨h2,t,h3⟩:=hr;rw[h2,h3,qV,e3,e4,cond_true];exact qrG (by omega) (by simp[ha])
   |some t=>
    rw[hf]at hr;obtain rfl:r=(t.av,mR e false):=hr;have h2:=ihd (i+1) (acc++[t]) (by omega) (by simp[ha]);rw[qV,e3,e4,cond_true];have e5:((some t).bind λx=>(qat f (l.drop (i+1))).map (x::·)).map (acc++·)=(qat f (l.drop (i+1))).map (acc++[t]++·):=by
     cases qat f (l.drop (i+1))<;>simp
    rw[e5];exact h2
 refine qqf _ _ _ _ _ _ _ _ ?_;have h:=loop l.length 0 [] (by omega) rfl;rw[List.drop_zero]at h;have e6:(qat f l).map ([]++·)=qat f l:=by cases qat f l<;>simp
 rw[e6]at h;exact h
end Go.Proofs.YtgleolmhpmljhaaGreat
end
noncomputable section
namespace Go.Av
theorem qjO(e:Env):∀l:List Tm,qat (valG e) l=seqO (xq e l)
 |[]=>rfl
 |t::l=>by rw[qat,xq,seqO,qjO e l]
theorem qqi(l:List Tm):qnr l (.mk 8 0 [] [])=vS l:=rfl
theorem zy(e:Env)(b:Bool):qB0 (mR e b) 0=some [.int .i64 e.obj.kind,.int .i64 e.obj.num,.str e.obj.str,.sl (qa e.obj.subs),.sl (vH e.binds),.int .i64 e.self,.bool b]:=rfl
theorem zz(e:Env)(b:Bool):qB0 [AV.int .i64 e.obj.kind,.int .i64 e.obj.num,.str e.obj.str,.sl (qa e.obj.subs),.sl (vH e.binds),.int .i64 e.self,.bool b] 6=some (.bool b):=rfl
theorem qnT{l:List Tm}(h:∀x∈l,x.chk=0):wL l<=l.length*4259840:=by
 induction l with
 |nil=>simp
 |cons x l ih=>
  have h1:=xo (h x (by simp));have h2:=ih λy hy=>h y (by simp[hy])
  rw[qY,qCE];omega
theorem qq8:∀l:List Tm,(vS l).w<=1+l.length+wL l
 |[]=>by simp[vS,Tm.w_mk]
 |x::l=>by
  have h:=qq8 l;have:vS (x::l)= .mk 9 0 [] [x,vS l]:=rfl;rw[this,Tm.w_mk,qY,qY,qY,xg,qCE];simp only[List.length_nil];omega
theorem qwd(op:List UInt8){n:Nat}(h:(n:Int)∈opsG op):n<=2:=by
 have:∀(l:List (List UInt8×List Int)),(∀p∈l,∀x∈p.2,x<=2)->∀x∈qab op [] l,x<=2:=by
  intro l
  induction l with
  |nil=>intro _ x hx;simp[qab]at hx
  |cons p l ih=>
   intro h x hx;rw[qab]at hx;cases hp:op==p.1
   ·rw[hp]at hx;exact ih (λq hq=>h q (by simp[hq])) x hx
   ·rw[hp]at hx;exact h p (by simp) x hx
 have:=this qgr (by decide) _ h;omega
theorem qmR{α:Type}(c:Bool)(x:α):(bif c then x else x)=x:=by cases c<;>rfl
theorem qxI{c:Prop}[Decidable c]{x y:Option Tm}{P:Tm->Prop}(h1:∀t,x=some t->P t)(h2:∀t,y=some t->P t):∀t,(if c then x else y)=some t->P t:=by
 intro t h
 by_cases hc:c
 ·rw[qCM hc]at h;exact h1 t h
 ·rw[qCN hc]at h;exact h2 t h
theorem qeC(b:Bool):(vE b).w<1099511627776:=by have:=xo (qrI b);omega
theorem qml{n:Int}{v:Tm}(h:qS n=some v):v.w<1099511627776:=by have:=xo (qpI h);omega
theorem qzV{op:List UInt8}{t:Tm}(hc:t.chk=0):∀v,oneG op t=some v->v.w<1099511627776:=by
 have tr:∀b:Bool,∀v,some (vE b)=some v->v.w<1099511627776:=λb v h=>by cases h;exact qeC _
 have sub:∀i:Nat,∀v,t.subs[i]? =some v->v.w<1099511627776:=λi v h=>by have:=xo (vh hc (qCc h));omega
 have wi:∀n:Int,∀v,qS n=some v->v.w<1099511627776:=λn v h=>qml h
 have no:∀v,(none:Option Tm)=some v->v.w<1099511627776:=λv h=>by cases h
 have bo:∀v,((xc t).map λb=>vE (!b))=some v->v.w<1099511627776:=λv h=>by obtain⟨_,_,rfl⟩:=qCb.1 h;exact qeC _
 have ln:∀v,((lenG t).bind λn=>qS n)=some v->v.w<1099511627776:=λv h=>by obtain⟨_,_,h⟩:=qB6.1 h;exact qml h
 unfold oneG
 repeat' first
  |exact tr _
  |exact wi _
  |exact no
  |exact sub _
  |exact bo
  |exact ln
  |refine qxI ?_ ?_
theorem qsb{op:List UInt8}{a b:Int}{v:Tm}(h:qaE op a b=some v):v.w<1099511627776:=by
 obtain⟨_,n,rfl⟩:=qqa h;rw[numT,Tm.w_mk];simp
theorem qzO{op:List UInt8}{a b:Tm}(hb:b.chk=0):∀v,twoG op a b=some v->v.w<1099511627776:=by
 have tr:∀c:Bool,∀v,some (vE c)=some v->v.w<1099511627776:=λb v h=>by cases h;exact qeC _
 have bo:∀f:Bool->Bool->Bool,∀v,((xc a).bind λx=>(xc b).map λy=>vE (f x y))=some v->v.w<1099511627776:=by
  intro f v h;obtain⟨_,_,h⟩:=qB6.1 h;obtain⟨_,_,rfl⟩:=qCb.1 h;exact qeC _
 have no:∀v,(none:Option Tm)=some v->v.w<1099511627776:=λv h=>by cases h
 have sub:∀i:Nat,∀v,b.subs[i]? =some v->v.w<1099511627776:=λi v h=>by have:=xo (vh hb (qCc h));omega
 have nu:∀v,qaE op a.num b.num=some v->v.w<1099511627776:=λv h=>qsb h
 unfold twoG
 repeat' first
  |exact tr _
  |exact bo (λx y=>x&&y)
  |exact bo (λx y=>x||y)
  |exact bo (λx y=>x != y)
  |exact no
  |exact sub _
  |exact nu
  |refine qxI ?_ ?_
theorem qwX{op:List UInt8}{l:List Tm}{self:Int}{v:Tm}(hl:∀x∈l,x.chk=0)(hlen:l.length<=2)(h:qgY op l self=some v):v.w<1099511627776:=by
 match l,hl,hlen with
 |[],_,_=>cases h;rw[Tm.w_mk];simp
 |[a],hl,_=>exact qzV (hl a (by simp)) _ h
 |[a,b],hl,_=>exact qzO (hl b (by simp)) _ h
 |_::_::_::_,_,h=>simp at h
end Go.Av
namespace Go.Proofs.YtgleolmhpmljhaaGreat
open Go.Av
theorem qvL(t:Tm):qjy false t=yE t:=by unfold qjy yE;rfl
theorem qgy{e:Env}{t:Tm}(h:t.w<1099511627776):Gets (kOpt (EVd (EV cfg) 157 [.ptr 0 0 0,t.av] 7 (mR e false)) λq=>kTmV q.1 fun(n n_1:Int) (s:List UInt8) (rows:List (List AV))=>some (AV.agg [.int .i64 n,.int .i64 n_1,.str s,.sl rows],q.2)) (Res e (yE t)):=by
 have:=qun e false h;rw[qvL]at this;exact Gets.bind this λr h=>zb h (z3 h)
theorem qj9{e:Env}(t:Tm):Gets (kOpt (EVd (EV cfg) 157 [.ptr 0 0 0,t.av] 7 (mR e true)) λq=>kTmV q.1 fun(n n_1:Int) (s:List UInt8) (rows:List (List AV))=>some (AV.agg [.int .i64 n,.int .i64 n_1,.str s,.sl rows],q.2)) (Res e none):=by
 have hr:=xW e true;have h1:EVd (EV cfg) 157 [.ptr 0 0 0,t.av] 7 (mR e true)=some (xb.av,mR e true):=by
  apply Gets.get;rw[Tm.av,Tm.cells_eq];refine qj8 _ _ _ _ _ _ _ _ _ _ _ ?_;unfold za0;rw[cond_true,hr];simp only[qb,qV];rw[qq];exact⟨_,rfl,rfl⟩
 rw[h1];simp only[qb,qV,qq];exact vm
theorem qvk(k:Int)(ts:List Tm):(AV.agg [.int .i64 k,.int .i64 0,.str [],.sl (qa ts)])=(Tm.mk k 0 [] ts).av:=by rw[Tm.av_mk]
theorem qjI{e:Env}(he:EnvOk e){l:List Tm}(k:Int)(hlen:l.length<=64)(hl:∀x∈l,x.chk=0∧isG (zP e) x=true)(hv:Gets (EVd (EV cfg) 159 [.ptr 0 0 0,.sl (qa l)] 7 (mR e false)) (ResL e (seqO (xq e l)))):
  Gets (kOpt (EVd (EV cfg) 159 [.ptr 0 0 0,.sl (qa l)] 7 (mR e false)) λq=>kSl q.1 fun(rows:List (List AV))=>kOpt (EVd (EV cfg) 157 [.ptr 0 0 0,.agg [.int .i64 k,.int .i64 0,.str [],.sl rows]] 7 q.2) λq=>kTmV q.1 fun(n n_1:Int) (s:List UInt8) (rows:List (List AV))=>some (AV.agg [.int .i64 n,.int .i64 n_1,.str s,.sl rows],q.2)) (Res e ((seqO (xq e l)).bind λts=>yE (.mk k 0 [] ts))):=by
 refine Gets.bind hv ?_;intro r hr;cases ho:seqO (xq e l)with
 |none=>
  rw[ho]at hr;obtain⟨h1,ts,h2⟩:=hr;rw[h1,h2,vt,qvk];exact qj9 _
 |some ts=>
  rw[ho]at hr;obtain rfl:r=(.sl (qa ts),mR e false):=hr;have h1:=qnT (qod he hl ho);have h2:=qoc ho;simp only[vt,qvk];rw[qCe];have h3:ts.length*4259840<=64*4259840:=qCv _ (by omega);exact qgy (by rw[Tm.w_mk];simp only[List.length_nil];omega)
theorem qoy{e:Env}{y:Tm}:Gets (kOpt (EVm (EV cfg) 160 [.ptr 0 0 0,y.av] 7 (mR e false)) fun(q:MV×List (List AV))=>xA q.1 fun(_:Bool)=>some (y.av,q.2)) (Res e ((xc y).map λ_=>y)):=by
 rw[zk];simp only[qb,xa];cases xc y with
 |none=>exact vm
 |some b=>exact qR
theorem qup{e:Env}(he:EnvOk e)(hp:xH):∀(n:Nat) (t:Tm),t.w<=n->t.chk=0->isG (zP e) t=true ->
  Gets (EVd (EV cfg) 140 [.ptr 0 0 0,t.av] 7 (mR e false)) (Res e (valG e t)):=by
 intro n
 induction n with
 |zero=>intro t h;have:=vU t;omega
 |succ n ih=>
  intro t hw hc hg;have hwe:=t.w_eq;have hwc:=xo hc;have hvar:=qgn (t:=t) (by omega);have hbl:=he.len;have hbw:∀p∈e.binds,p.2.w<1099511627776:=λp hp=>by have:=xo (qeN he.may p hp);omega
  have vals:∀l:List Tm,l.length<=64->(∀x∈l,x.w<=n∧x.chk=0∧isG (zP e) x=true)->Gets (EVd (EV cfg) 159 [.ptr 0 0 0,.sl (qa l)] 7 (mR e false)) (ResL e (seqO (xq e l))):=by
   intro l hlen hl;rw[←qjO];exact qsg (by omega) λx hx=>ih x (hl x hx).1 (hl x hx).2.1 (hl x hx).2.2
  rw[Tm.av,Tm.cells_eq]at hvar⊢;refine qsh _ _ _ _ _ _ _ _ _ _ _ ?_;unfold za0;rw[hvar];simp only[beqI,beqS,qb]
  by_cases h2:t.kind=2
  ·rw[qCK h2,cond_true,qmo h2];rw[qiX h2]at hg;simp only[varR,kTup,qf,qi,qp,kNil];cases hx:varT t with
   |some x=>
    rw[hx]at hg;obtain⟨y,hy⟩:=qeP (of_decide_eq_true hg);have hf:=qr5 (L:=e.binds) (by omega) hbw x;have hfr:qe5 (qdp x e.binds)= .tup [y.av,.bool true]:=by
     unfold qdp;rw[qCM he.may,hy];rfl
    rw[hfr]at hf;simp only[Option.isSome_some,Option.getD_some,cond_true,hf,qb,hy];obtain⟨ky,ny,sy,ly⟩:=y;rw[Tm.av_mk];refine⟨_,rfl,?_⟩;show _=((Tm.mk ky ny sy ly).av,mR e false);rw[Tm.av_mk]
   |none=>
    simp only[Option.isSome_none,cond_false]
    by_cases s1:t.str=[36,95]
    ·rw[qCM s1,qCK s1,cond_true,qq];exact qR
    rw[qCN s1,qCL s1,cond_false]
    by_cases s2:t.str=[36,36]
    ·rw[qCM s2,qCK s2,cond_true,qur (by omega)];simp only[qb,qV,qq];rw[qqi];refine qgy ?_;have h1:=qq8 (e.binds.map (·.2));have h3:=qnT (l:=e.binds.map (·.2)) (λx hx=>by
      obtain⟨p,hp,rfl⟩:=List.mem_map.1 hx;exact qeN he.may p hp)
     rw[qCH]at h1 h3;have h4:e.binds.length*4259840<=100*4259840:=qCv _ hbl;omega
    rw[qCN s2,qCL s2,cond_false,qq];exact qR
  rw[qCL h2,cond_false];have hsub:∀x∈t.subs,x.w<=n∧x.chk=0:=λx hx=>by
   have:=y5 hx;exact⟨by omega,vh hc hx⟩
  by_cases h9:t.kind=9
  ·rw[qCK h9,cond_true,qmn h9];rw[qoQ h9]at hg;have hall:=qfc hg;exact qjI he 9 (qcO hc) (λx hx=>⟨(hsub x hx).2,hall x hx⟩) (vals t.subs (qcO hc) λx hx=>⟨(hsub x hx).1,(hsub x hx).2,hall x hx⟩)
  rw[qCL h9,cond_false]
  by_cases h7:t.kind=7
  ·rw[qCK h7,cond_true];cases hl:t.subs with
   |nil=>rw[qlK h7 hl]at hg;cases hg
   |cons f r=>
    have hf:=hsub f (by rw[hl];simp);have hr:∀x∈r,x.w<=n∧x.chk=0:=λx hx=>hsub x (by rw[hl];simp[hx])
    have hlen:=qcO hc;rw[hl,qCE]at hlen;rw[qnV h7 hl];rw[qlJ h7 hl]at hg;have c2:qd 1 ((qa (f::r)).length:Int)=true:=by rw[qg];exact qCK (by simp;omega)
    have tk:qB8 ((qa (f::r)).length - 1) (qCk 1 (qa (f::r)))=qa r:=by
     rw[qN,List.drop_succ_cons,List.drop_zero,qCE,Nat.add_sub_cancel,List.take_length]
    rw[c2,tk];simp only[cond_true,lt0T,qcn,qb,qj,qCw,xe,qm,qk,y9,beqI,beqS]
    by_cases f7:f.kind=7
    ·rw[qCM f7]at hg⊢;rw[qCK f7,cond_true];rw[qB2]at hg;have hall:=qfc hg.2;have fs:=qcO hf.2;have hfs:∀x∈f.subs,x.w<=n∧x.chk=0:=λx hx=>by
      have h1:=y5 hx;have h2:=f.w_eq;exact⟨by have:=hf.1;omega,vh hf.2 hx⟩
     exact qjI he 7 fs (λx hx=>⟨(hfs x hx).2,hall x hx⟩) (vals f.subs fs λx hx=>⟨(hfs x hx).1,(hfs x hx).2,hall x hx⟩)
    rw[qCN f7]at hg⊢;rw[qCL f7,cond_false]
    by_cases f2:f.kind=2
    ·rw[qCM f2]at hg
     by_cases hk:f.str=[99,111,110,115,116]
     ·rw[qCM hk]at hg⊢;rw[qCK hk,cond_true]
      match r,of_decide_eq_true hg with
      |[a],_=>
       simp only[lt1T,qbI,cond_true,qb,qj,qCw,xe,qm,qk,qq];exact qR
     rw[qCN hk]at hg⊢;rw[qCL hk,cond_false];rw[qB2]at hg;have hrg:=qfc hg.2;have hop:=of_decide_eq_true hg.1
     by_cases ha:f.str=[97,110,100,97,108,115,111]
     ·rw[qCM ha,qCK ha];have hl2:r.length=2:=by
       rw[ha]at hop;have:opsG [97,110,100,97,108,115,111]=[2]:=by decide
       rw[this]at hop;simp at hop;omega
      match r,hr,hrg with
      |[],_,_=>simp at hl2
      |[a],_,_=>simp at hl2
      |a::b::q,hr,hrg=>
       have ra:=hr a (by simp);have rb:=hr b (by simp);have iha:=ih a ra.1 ra.2 (hrg a (by simp));have ihb:=ih b rb.1 rb.2 (hrg b (by simp));simp only[cond_true,cond_false,lt1T,lt2T,qbI,qxK,qb,qj,qCw,xe,qm,qk,qq,xq,qdk];refine Gets.bind iha ?_;intro x hx;cases hva:valG e a with
       |none=>
        rw[hva]at hx;obtain⟨h1,y,h2⟩:=hx;rw[h1,h2];simp only[qV,zy,zz,qb,qp,cond_true,qq];exact vm
       |some y=>
        rw[hva]at hx;obtain rfl:x=(y.av,mR e false):=hx;simp only[qV,zy,zz,qb,qp,cond_false,qq,zk,xa,qCe];cases hb:xc y with
        |none=>
         simp only[Option.isNone_none,Bool.or_true,cond_true,Option.bind_none];rw[qmR];exact vm
        |some v=>
         rw[qbf hb];simp only[Option.isNone_some,Bool.or_false,cond_false,qCe];cases v with
         |false=>
          rw[qCN (by simp)];exact qR
         |true=>
          rw[qCM rfl];change Gets (kOpt (EVd (EV cfg) _ _ 7 (mR e false)) _) _;refine Gets.bind ihb ?_;intro x hx;cases hvb:valG e b with
          |none=>
           rw[hvb]at hx;obtain⟨h1,z,h2⟩:=hx;rw[h1,h2];simp only[qV,zy,zz,qb,qp,qCj,cond_false,qq];exact vm
          |some z=>
           rw[hvb]at hx;obtain rfl:x=(z.av,mR e false):=hx;simp only[qV,zy,zz,qb,qp,qCm,cond_true,qq,qCe];exact qoy
     rw[qCN ha,qCL ha]
     by_cases hb:f.str=[111,114,101,108,115,101]
     ·rw[qCM hb,qCK hb];have hl2:r.length=2:=by
       rw[hb]at hop;have:opsG [111,114,101,108,115,101]=[2]:=by decide
       rw[this]at hop;simp at hop;omega
      simp only[cond_false]
      match r,hr,hrg with
      |[],_,_=>simp at hl2
      |[a],_,_=>simp at hl2
      |a::b::q,hr,hrg=>
       have ra:=hr a (by simp);have rb:=hr b (by simp);have iha:=ih a ra.1 ra.2 (hrg a (by simp));have ihb:=ih b rb.1 rb.2 (hrg b (by simp));simp only[cond_true,cond_false,lt1T,lt2T,qbI,qxK,qb,qj,qCw,xe,qm,qk,qq,xq,qdk];refine Gets.bind iha ?_;intro x hx;cases hva:valG e a with
       |none=>
        rw[hva]at hx;obtain⟨h1,y,h2⟩:=hx;rw[h1,h2];simp only[qV,zy,zz,qb,qp,cond_true,qq];exact vm
       |some y=>
        rw[hva]at hx;obtain rfl:x=(y.av,mR e false):=hx;simp only[qV,zy,zz,qb,qp,cond_false,qq,zk,xa,qCe];cases hb:xc y with
        |none=>
         simp only[Option.isNone_none,Bool.or_true,cond_true,Option.bind_none];rw[qmR];exact vm
        |some v=>
         rw[qbf hb];simp only[Option.isNone_some,Bool.or_false,cond_false,qCe];cases v with
         |true=>
          rw[qCN (by simp)];exact qR
         |false=>
          rw[qCM rfl];change Gets (kOpt (EVd (EV cfg) _ _ 7 (mR e false)) _) _;refine Gets.bind ihb ?_;intro x hx;cases hvb:valG e b with
          |none=>
           rw[hvb]at hx;obtain⟨h1,z,h2⟩:=hx;rw[h1,h2];simp only[qV,zy,zz,qb,qp,qCj,cond_false,qq];exact vm
          |some z=>
           rw[hvb]at hx;obtain rfl:x=(z.av,mR e false):=hx;simp only[qV,zy,zz,qb,qp,qCm,cond_true,qq,qCe];exact qoy
     rw[qCN hb,qCL hb];simp only[cond_false];have hv:=vals r (by omega) λx hx=>⟨(hr x hx).1,(hr x hx).2,hrg x hx⟩
     refine Gets.bind hv ?_;intro q hq;cases ho:seqO (xq e r)with
     |none=>
      rw[ho]at hq;obtain⟨h1,ts,h3⟩:=hq;rw[h1,h3];simp only[vt,zy,zz,qb,qp,cond_true];exact⟨_,rfl,rfl,xb,by rw[qbi]⟩
     |some ts=>
      rw[ho]at hq;obtain rfl:q=(.sl (qa ts),mR e false):=hq;have hts:=qod he (λx hx=>⟨(hr x hx).2,hrg x hx⟩) ho;have hlt:=qoc ho;have h2:=qwd _ hop;simp only[vt,zy,zz,qb,qp,cond_false,qCe];refine Gets.bind (qut e f.str hts (by omega) (λ_=>hp)) ?_;intro q hq;cases hap:qgY f.str ts e.self with
      |none=>
       rw[hap]at hq;obtain⟨h1,z,h3⟩:=hq;rw[h1,h3];simp only[qV,qq];exact qj9 z
      |some z=>
       rw[hap]at hq;obtain rfl:q=(z.av,mR e false):=hq;simp only[qV,qq,qCe];exact qgy (qwX hts (by omega) hap)
    ·rw[qCN f2]at hg;cases hg
  ·rw[qCL h7,qjJ h2 h9 h7,cond_false,qq];exact qR
def qA5:Den:=evC cfg (EV cfg) 115 none 7 (sub (qc Tryz.f115) [0,0,0])
def qBE:Ex×List AV×AH->Option AV:=kAft (Cfg.keepOut cfg 115 (qh (sub (qc Tryz.f115) [0,0,0]))) (qO 0 (kSeq (fun(fr:List AV) (H:AH)=>qL (Cfg.cut cfg 115 (qh (sub (qc Tryz.f115) [1]))) fr H fun(fr:List AV) (H:AH)=>qG cfg (EV cfg) (kfN cfg (5)) 115 none 7 (sub (qc Tryz.f115) [1]) fr H (vT cfg (Cfg.lift cfg 115 0) (fun(v:AV) (H:AH)=>(fun(r:AV×AH)=>xG 0 6 (fx 18 [(4,AV.ptr 1 0 0),(5,AV.ptr 2 0 0)]) (qO 0 (kSeq (fun(fr:List AV) (H:AH)=>qL (Cfg.cut cfg 118 (qh (sub (qc Tryz.f118) [1,1,1,1]))) fr H fun(fr:List AV) (H:AH)=>qG cfg (EV cfg) (kfN cfg 6) 118 none 0 (sub (qc Tryz.f118) [1,1,1,1]) fr H (vL cfg (Cfg.lift cfg 118 0) (qCl (Func.results Tryz.f118)))) (vL cfg (Cfg.lift cfg 118 0) (qCl (Func.results Tryz.f118))))) (Prod.snd r)) (v,H)) (qCl (Func.results (Prod.snd (115,Tryz.f115)))))) (vT cfg (Cfg.lift cfg 115 0) (fun(v:AV) (H:AH)=>(fun(r:AV×AH)=>xG 0 6 (fx 18 [(4,AV.ptr 1 0 0),(5,AV.ptr 2 0 0)]) (qO 0 (kSeq (fun(fr:List AV) (H:AH)=>qL (Cfg.cut cfg 118 (qh (sub (qc Tryz.f118) [1,1,1,1]))) fr H fun(fr:List AV) (H:AH)=>qG cfg (EV cfg) (kfN cfg 6) 118 none 0 (sub (qc Tryz.f118) [1,1,1,1]) fr H (vL cfg (Cfg.lift cfg 118 0) (qCl (Func.results Tryz.f118)))) (vL cfg (Cfg.lift cfg 118 0) (qCl (Func.results Tryz.f118))))) (Prod.snd r)) (v,H)) (qCl (Func.results (Prod.snd (115,Tryz.f115)))))))
def qvy:List AV×AH->Option AV:=fun(p:List AV×AH)=>kOpt (LOOP 7 (some [0,1,2]) [] qA5 p) qBE
def qA6:Den:=evC cfg (EV cfg) 52 none 0 (sub (qc Tryz.f52) [1,1,0,1,0,0])
def qBF:Ex×List AV×AH->Option AV:=kAft (Cfg.keepOut cfg 52 3) (kRun cfg (EV cfg) (kfN cfg 6) 52 none 0 (vL cfg (Cfg.lift cfg 52 0) Tryz.f52.results.toList) ([.block 0,.seq (sub (qc Tryz.f52) [1,1,1])]))
def qAz:List AV×AH->Option AV:=λp=>kOpt (LOOP 0 (some [3,6,7,8]) ([(3,4)]) qA6 p) qBF
abbrev qnR(c0_0 c0_1:Int)(c0_2:Bz)(c0_3:Rz)(nc1_0:Nat)(c2_0:Bool)(c3_0 c3_1:Int)(c3_2:Bz)(c3_3 h5:Rz):Option (AV):=qvy (((fx 23 [(0,.yld 6),(1,.ptr 3 0 0),(2,.ptr 4 0 0)]):List AV),([.rows false 4 [[.int .i64 c0_0,.int .i64 c0_1,.str c0_2,.sl c0_3]],.rows false 1 [[.ms 5 0 nc1_0]],.rows false 1 [[.bool c2_0]],.rows false 4 [[.int .i64 c3_0,.int .i64 c3_1,.str c3_2,.sl c3_3]],.rows false 1 [[.ptr 2 0 0]],.rows true 4 h5,rngB Tryz.f118 118 [1,1,1,0,1,0] (fx 18 [(4,.ptr 1 0 0)]) none LoopState.ready]:AH))
abbrev qjE(L:Rz)(nv3:Nat)(v8:Int)(h0:Rz):Option (AV):=qAz (((fx 19 [(3,.ms 0 0 nv3),(6,.sl L),(7,.int .i64 (L.length:Int)),(8,.int .i64 v8)]):List AV),([.rows true 4 h0]:AH))
abbrev qlh(c0_0 c0_1:Int)(c0_2:Bz)(c0_3:Rz)(nc1_0:Nat)(c2_0:Bool)(c3_0 c3_1:Int)(c3_2:Bz)(c3_3 h7:Rz):Option (AV):=qvy (((fx 23 [(0,.yld 6),(1,.ptr 3 0 0),(2,.ptr 4 0 0)]):List AV),([.rows false 4 [[.int .i64 c0_0,.int .i64 c0_1,.str c0_2,.sl c0_3]],.rows false 1 [[.ms 7 0 nc1_0]],.rows false 1 [[.bool c2_0]],.rows false 4 [[.int .i64 c3_0,.int .i64 c3_1,.str c3_2,.sl c3_3]],.rows false 1 [[.ptr 2 0 0]],.dead,rngB Tryz.f118 118 [1,1,1,0,1,0] (fx 18 [(4,.ptr 1 0 0)]) none LoopState.ready,.rows true 4 h7]:AH))
theorem qr6(kt nt:Int)(st:Bz)(lt:Rz){P:AV->Prop}(h:Gets (bif kt==2 then bif st==[(95:UInt8)]then kOpt (EVs (EV cfg) 53 [.agg [.int .i64 kt,.int .i64 nt,.str st,.sl lt]]) λv=>qr v λb=>some (.bool b)else some (.bool false)else some (.bool false)) P):Gets (EVs (EV cfg) 142 [.agg [.int .i64 kt,.int .i64 nt,.str st,.sl lt]]) P:=
  gE (λ_=>funS rfl rfl Tryz.func142 rfl) (by kernel_rfl) h
theorem qrR(kt nt:Int)(st:Bz)(lt:Rz){P:AV->Prop}(h:Gets (kOpt (EVs (EV cfg) 141 [.agg [.int .i64 kt,.int .i64 nt,.str st,.sl lt]]) λv=>kTup v λcs=>qf cs λc cs=>kInt .i64 c λn=>qf cs λc cs=>qr c λb=>kNil cs (bif b then some (.bool true)else bif kt==7 then some (.bool true)else kOpt (EVs (EV cfg) 142 [.agg [.int .i64 kt,.int .i64 nt,.str st,.sl lt]]) λv=>qr v λb=>some (.bool b))) P):Gets (EVs (EV cfg) 116 [.agg [.int .i64 kt,.int .i64 nt,.str st,.sl lt]]) P:=
  gE (λ_=>funS rfl rfl Tryz.func116 rfl) (by kernel_rfl) h
theorem qrQ(kt nt:Int)(st:Bz)(lt:Rz){P:AV->Prop}(h:Gets (qnR kt nt st lt 0 false kt nt st lt []) P):Gets (EVf (EV cfg) 118 [.agg [.int .i64 kt,.int .i64 nt,.str st,.sl lt]]) P:=
  gE (λ_=>funF rfl rfl Tryz.func118 rfl) (by kernel_rfl) h
theorem qn7(L:Rz){P:AV->Prop}(h:Gets (qjE L 0 0 []) P):Gets (EVf (EV cfg) 52 [.sl L]) P:=
  gE (λ_=>funF rfl rfl Tryz.func52 rfl) (by kernel_rfl) h
theorem qtM(kt nt:Int)(st:Bz)(lt:Rz)(ko no:Int)(so:Bz)(lo:Rz)(self:Int){P:AV->Prop}(h:Gets (kOpt (EVf (EV cfg) 44 [.agg [.int .i64 kt,.int .i64 nt,.str st,.sl lt],.agg [.int .i64 ko,.int .i64 no,.str so,.sl lo],.int .i64 self]) λv=>kTup v λcs=>qf cs λc cs=>kInt .i64 c λn=>qf cs λc cs=>kAgg c λcs_1=>qf cs_1 λc cs_2=>kInt .i64 c λn_1=>qf cs_2 λc cs_3=>kInt .i64 c λn_2=>qf cs_3 λc cs_4=>kStr c λs=>qf cs_4 λc cs_5=>kSl c λrows=>kNil cs_5 (qf cs λc cs=>kInt .i64 c λn_3=>kNil cs (some (AV.tup [.agg [.int .i64 n_1,.int .i64 n_2,.str s,.sl rows],.bool (decide (n>0)),.int .i64 n_3])))) P):Gets (EVf (EV cfg) 13 [.agg [.int .i64 kt,.int .i64 nt,.str st,.sl lt],.agg [.int .i64 ko,.int .i64 no,.str so,.sl lo],.int .i64 self]) P:=
  gE (λ_=>funF rfl rfl Tryz.func13 rfl) (by kernel_rfl) h
theorem qon(kt nt:Int)(st:Bz)(lt:Rz)(ko no:Int)(so:Bz)(lo:Rz){P:AV->Prop}(h:Gets (kOpt (EVf (EV cfg) 138 [.agg [.int .i64 kt,.int .i64 nt,.str st,.sl lt],.agg [.int .i64 ko,.int .i64 no,.str so,.sl lo],.sl []]) λv=>kTup v λcs=>qf cs λc cs=>kSl c λrows=>qf cs λc cs=>qr c λb=>kNil cs (some (AV.tup [.sl rows,.bool b]))) P):Gets (EVf (EV cfg) 112 [.agg [.int .i64 kt,.int .i64 nt,.str st,.sl lt],.agg [.int .i64 ko,.int .i64 no,.str so,.sl lo]]) P:=
  gE (λ_=>funF rfl rfl Tryz.func112 rfl) (by kernel_rfl) h
abbrev zj6(nc1_0:Nat)(h5 c3_3:Rz)(c0_0 c0_1:Int)(c0_2:Bz)(c0_3:Rz)(c2_0:Bool)(n n_1:Int)(s:Bz)(rows:Rz):Option (AV):=(bif qB4 (0+nc1_0) (qB1 h5)&&qW (nc1_0+1) 56 then bif qd 0 (↑ nc1_0:Int)&&qe (↑ nc1_0:Int) (↑ (nc1_0+1):Int)then kOpt (qB0 (qCu (qB8 nc1_0 h5) [[AV.int .i64 0,.int .i64 (0:Int),.str [],.nilS]]) (0+qB7 (↑ nc1_0:Int))) λrow=>bif qB4 4 (qB1 row)then bif qe 1 (c3_3.length:Int)then kOpt (qB0 c3_3 1) λrow_1=>bif qCh (qB1 row_1) 4 then bif qB4 4 (qB1 row_1)then kTmC (qB8 4 row_1) λn_2 n_3 s_1 rows_1=>(qlh c0_0 c0_1 c0_2 c0_3 (nc1_0+1) c2_0 n_2 n_3 s_1 rows_1 (qCA (qCu (qB8 nc1_0 h5) [[AV.int .i64 0,.int .i64 0,.str [],.nilS]]) (0+qB7 (↑ nc1_0:Int)) (.int .i64 n:: .int .i64 n_1:: .str s:: .sl rows::qCk 4 row)))else none else none else none else none else none else none)
abbrev zj5(row:List AV)(nc1_0:Nat)(h5 c3_3:Rz)(c0_0 c0_1:Int)(c0_2:Bz)(c0_3:Rz)(c2_0:Bool):Option (AV):=kTmC (qB8 4 row) λn n_1 s rows=>zj6 nc1_0 h5 c3_3 c0_0 c0_1 c0_2 c0_3 c2_0 n n_1 s rows
abbrev zj4(row:List AV)(nc1_0:Nat)(h5 c3_3:Rz)(c0_0 c0_1:Int)(c0_2:Bz)(c0_3:Rz)(c2_0:Bool):Option (AV):=bif qB4 4 (qB1 row)then zj5 row nc1_0 h5 c3_3 c0_0 c0_1 c0_2 c0_3 c2_0 else none
abbrev zj3(row:List AV)(nc1_0:Nat)(h5 c3_3:Rz)(c0_0 c0_1:Int)(c0_2:Bz)(c0_3:Rz)(c2_0:Bool):Option (AV):=bif qCh (qB1 row) 4 then zj4 row nc1_0 h5 c3_3 c0_0 c0_1 c0_2 c0_3 c2_0 else none
abbrev zj2(c3_3:Rz)(nc1_0:Nat)(h5:Rz)(c0_0 c0_1:Int)(c0_2:Bz)(c0_3:Rz)(c2_0:Bool):Option (AV):=kOpt (qB0 c3_3 0) λrow=>zj3 row nc1_0 h5 c3_3 c0_0 c0_1 c0_2 c0_3 c2_0
abbrev zj1(c3_3:Rz)(nc1_0:Nat)(h5:Rz)(c0_0 c0_1:Int)(c0_2:Bz)(c0_3:Rz)(c2_0:Bool):Option (AV):=bif qe 0 (c3_3.length:Int)then zj2 c3_3 nc1_0 h5 c0_0 c0_1 c0_2 c0_3 c2_0 else none
abbrev zj0(c3_0:Int)(c3_3:Rz)(nc1_0:Nat)(h5:Rz)(c0_0 c0_1:Int)(c0_2:Bz)(c0_3:Rz)(c2_0:Bool):Option (AV):=bif c3_0==9 then zj1 c3_3 nc1_0 h5 c0_0 c0_1 c0_2 c0_3 c2_0 else bif qB4 (0+nc1_0) (qB1 h5)&&true then some (AV.tup [.sl (qB8 nc1_0 h5),.bool (c3_0==8)])else none
theorem qpO(c0_0 c0_1:Int)(c0_2:Bz)(c0_3:Rz)(nc1_0:Nat)(c2_0:Bool)(c3_0 c3_1:Int)(c3_2:Bz)(c3_3 h5:Rz){P:AV->Prop}(h:Gets (zj0 c3_0 c3_3 nc1_0 h5 c0_0 c0_1 c0_2 c0_3 c2_0) P):Gets (qnR c0_0 c0_1 c0_2 c0_3 nc1_0 c2_0 c3_0 c3_1 c3_2 c3_3 h5) P:=
  gE (λ_=>ql (cfg:=cfg) (f:=115) (rd:=none) (bs:=7)) (by kernel_rfl) h
theorem qie(L:Rz)(nv3:Nat)(v8:Int)(h0:Rz){P:AV->Prop}(h:Gets (bif decide (v8<(L.length:Int))then bif qd 0 v8&&qe v8 (L.length:Int)then kOpt (qB0 L (v8.toNat)) λrow=>bif qCh (qB1 row) 4 then bif qB4 4 (qB1 row)then kTmC (qB8 4 row) λn n_1 s rows=>(kOpt (EVf (EV cfg) 51 [.agg [.int .i64 n,.int .i64 n_1,.str s,.sl rows]]) λv=>kTmV v λn n_2 s rows=>(bif qB4 (0+nv3) (qB1 h0)&&qW (nv3+1) 56 then qjE L (nv3+1) (qBZ .i64 (v8+1)) (qCu (qB8 nv3 h0) [[AV.int .i64 n,.int .i64 n_2,.str s,.sl rows]])else none))else none else none else none else bif qB4 (0+nv3) (qB1 h0)&&true then some (.sl (qB8 nv3 h0))else none) P):Gets (qjE L nv3 v8 h0) P:=
  gE (λ_=>ql (cfg:=cfg) (f:=52) (rd:=none) (bs:=0)) (by kernel_rfl) h
theorem qnQ(c0_0 c0_1:Int)(c0_2:Bz)(c0_3:Rz)(nc1_0:Nat)(c2_0:Bool)(c3_0 c3_1:Int)(c3_2:Bz)(c3_3 h7:Rz){P:AV->Prop}(h:Gets (zj0 c3_0 c3_3 nc1_0 h7 c0_0 c0_1 c0_2 c0_3 c2_0) P):Gets (qlh c0_0 c0_1 c0_2 c0_3 nc1_0 c2_0 c3_0 c3_1 c3_2 c3_3 h7) P:=
  gE (λ_=>ql (cfg:=cfg) (f:=115) (rd:=none) (bs:=7)) (by kernel_rfl) h
end Go.Proofs.YtgleolmhpmljhaaGreat
end
noncomputable section
namespace Go.Av
def lsR(r:List Tm×Bool):AV:=.tup [.sl (qa r.1),.bool r.2]
end Go.Av
namespace Go.Proofs.YtgleolmhpmljhaaGreat
open Go.Av
theorem qt6{t:Tm}(h:t.w<1099511627776):EVs (EV cfg) 142 [t.av]=some (.bool (anyT t)):=by
 have hm:=zN h;apply Gets.get;rw[Tm.av,Tm.cells_eq]at hm⊢;refine qr6 _ _ _ _ ?_;rw[hm];simp only[beqI,beqS,qb,qp];unfold anyT;cases decide (t.kind=2)<;>cases decide (t.str=[95])<;>exact⟨_,rfl,rfl⟩
theorem qtN{t:Tm}(h:t.w<1099511627776):EVs (EV cfg) 116 [t.av]=some (.bool (qe2 t)):=by
 have hv:=qgn h;have ha:=qt6 h;apply Gets.get;rw[Tm.av,Tm.cells_eq]at hv ha⊢;refine qrR _ _ _ _ ?_;rw[hv,ha];unfold qe2 varR;simp only[beqI,qb,qp,kTup,qf,qi,kNil];cases(varT t).isSome<;>cases decide (t.kind=7)<;>exact⟨_,rfl,rfl⟩
theorem qii{l:List Tm}(hlen:l.length<1099511627776)(hc:∀x∈l,x.Ok):EVf (EV cfg) 52 [.sl (qa l)]=some (.sl (qa l)):=by
 have loop:∀d i:Nat,i+d=l.length->Gets (qjE (qa l) i i (qa (l.take i))) (·= .sl (qa l)):=by
  intro d
  induction d with
  |zero=>
   intro i hi;refine qie _ _ _ _ ?_;obtain rfl:i=l.length:=by omega
   have hb:qB4 (0+l.length) (qa l).length=true:=by rw[qCz,qg];omega
   have ht:qB8 l.length (qa l)=qa l:=qCd (by simp);rw[List.take_length,hb,ht,qg,qCL (by omega)];exact⟨_,rfl,rfl⟩
  |succ d ihd=>
   intro i hi;have hil:i<l.length:=by omega
   refine qie _ _ _ _ ?_;have hx:l[i]? =some l[i]:=qB3 hil;have h1:=qeg (hc l[i] (qCc hx));have h2:=ihd (i+1) (by omega);have e1:l.take (i+1)=l.take i++[l[i]]:=by rw[List.take_add_one,hx];rfl
   have ht:(qa (l.take i)).length=i:=by rw[qg,qCD];omega
   have e2:qCu (qB8 i (qa (l.take i))) [l[i].cells]=qa (l.take (i+1)):=by
    rw[qCd (by omega),e1,vn,qN,q4];rfl
   have e3:qB4 (0+i) (qa (l.take i)).length=true:=by rw[ht,qCz];omega
   rw[qg,qCK (show(i:Int)<(l.length:Int) by omega),qE,qP,qCK hil,vW hx,qZ hil hlen,e3,yv (by omega)];simp only[cond_true,qCx,qj,qCw,qm,qk,xe,qq,h1,qb,qV];rw[←Tm.cells_eq,e2];exact h2
 apply Gets.get;refine qn7 _ ?_;exact(by simpa [q4]using loop l.length 0 (by omega))
theorem qn4{c:Tm}{b:Bool}:∀(n:Nat) (t:Tm) (acc:List Tm),t.w<=n->t.chk=0->acc.length+n<1099511627776->Gets (qlh c.kind c.num c.str (qa c.subs) acc.length b t.kind t.num t.str (qa t.subs) (qa acc)) (·=lsR (acc++(qJ t).1,(qJ t).2)):=by
 intro n
 induction n with
 |zero=>intro t acc h;have:=vU t;omega
 |succ n ih=>
  intro t acc hw hc hn;refine qnQ _ _ _ _ _ _ _ _ _ _ _ ?_;unfold zj0 zj1 zj2 zj3 zj4 zj5 zj6;rw[beqI,beqI]
  by_cases h9:t.kind=9
  ·obtain⟨x,y,hs⟩:=zV hc h9;have hwe:=t.w_eq;rw[hs]at hwe;simp only[qY,xg]at hwe;have h:=ih y (acc++[x]) (by omega) (vh hc (by rw[hs];simp)) (by simp;omega);have e1:qB4 (0+acc.length) (qa acc).length=true:=by rw[qCz,qg];omega
   have e2:qB8 acc.length (qa acc)=qa acc:=qCd (by simp);have e3:qe (acc.length:Int) ((acc.length+1:Nat):Int)=true:=qCK (by omega);have e4:(qCu (qa acc) [[AV.int .i64 0,.int .i64 0,.str [],.nilS]])[0+qB7 (acc.length:Int)]? =some [AV.int .i64 0,.int .i64 0,.str [],.nilS]:=by
    rw[qCi,qCG];have:=qi6 (qa acc) [AV.int .i64 0,.int .i64 0,.str [],.nilS];rw[qg]at this;exact this
   have e5:qCA (qCu (qa acc) [[AV.int .i64 0,.int .i64 0,.str [],.nilS]]) (0+qB7 (acc.length:Int)) x.cells=qa (acc++[x]):=by
    rw[qCi,qCG];have:=qi5 (qa acc) [AV.int .i64 0,.int .i64 0,.str [],.nilS] x.cells;rw[qg]at this;rw[vn,qN,q4];exact this
   rw[qCK h9,cond_true,hs,lt0T,qcn,lt1T,qbI,e1,e2,yv (by omega),qE,e3,qv,e4];simp only[cond_true,qCx,qb,qj,qCw,qm,qk,xe,qCE,List.length_nil,show qB4 4 (0+1+1+1+1)=true from rfl,List.drop_succ_cons,List.drop_zero];rw[←Tm.cells_eq,e5,xT h9 hs];rw[qCq]at h;refine Gets.mono h ?_
   rintro _ rfl;simp[lsR]
  ·have e1:qB4 (0+acc.length) (qa acc).length=true:=by rw[qCz,qg];omega
   have e2:qB8 acc.length (qa acc)=qa acc:=qCd (by simp);rw[qCL h9,cond_false,e1,e2,zo h9];exact⟨_,rfl,by simp[lsR]⟩
theorem qpX{c:Tm}{b:Bool}:∀(n:Nat) (t:Tm) (acc:List Tm),t.w<=n->t.chk=0->acc.length+n<1099511627776->Gets (qnR c.kind c.num c.str (qa c.subs) acc.length b t.kind t.num t.str (qa t.subs) (qa acc)) (·=lsR (acc++(qJ t).1,(qJ t).2)):=by
 intro n
 induction n with
 |zero=>intro t acc h;have:=vU t;omega
 |succ n ih=>
  intro t acc hw hc hn;refine qpO _ _ _ _ _ _ _ _ _ _ _ ?_;unfold zj0 zj1 zj2 zj3 zj4 zj5 zj6;rw[beqI,beqI]
  by_cases h9:t.kind=9
  ·obtain⟨x,y,hs⟩:=zV hc h9;have hwe:=t.w_eq;rw[hs]at hwe;simp only[qY,xg]at hwe;have h:=qn4 (c:=c) (b:=b) n y (acc++[x]) (by omega) (vh hc (by rw[hs];simp)) (by simp;omega);have e1:qB4 (0+acc.length) (qa acc).length=true:=by rw[qCz,qg];omega
   have e2:qB8 acc.length (qa acc)=qa acc:=qCd (by simp);have e3:qe (acc.length:Int) ((acc.length+1:Nat):Int)=true:=qCK (by omega);have e4:(qCu (qa acc) [[AV.int .i64 0,.int .i64 0,.str [],.nilS]])[0+qB7 (acc.length:Int)]? =some [AV.int .i64 0,.int .i64 0,.str [],.nilS]:=by
    rw[qCi,qCG];have:=qi6 (qa acc) [AV.int .i64 0,.int .i64 0,.str [],.nilS];rw[qg]at this;exact this
   have e5:qCA (qCu (qa acc) [[AV.int .i64 0,.int .i64 0,.str [],.nilS]]) (0+qB7 (acc.length:Int)) x.cells=qa (acc++[x]):=by
    rw[qCi,qCG];have:=qi5 (qa acc) [AV.int .i64 0,.int .i64 0,.str [],.nilS] x.cells;rw[qg]at this;rw[vn,qN,q4];exact this
   rw[qCK h9,cond_true,hs,lt0T,qcn,lt1T,qbI,e1,e2,yv (by omega),qE,e3,qv,e4];simp only[cond_true,qCx,qb,qj,qCw,qm,qk,xe,qCE,List.length_nil,show qB4 4 (0+1+1+1+1)=true from rfl,List.drop_succ_cons,List.drop_zero];rw[←Tm.cells_eq,e5,xT h9 hs];rw[qCq]at h;refine Gets.mono h ?_
   rintro _ rfl;simp[lsR]
  ·have e1:qB4 (0+acc.length) (qa acc).length=true:=by rw[qCz,qg];omega
   have e2:qB8 acc.length (qa acc)=qa acc:=qCd (by simp);rw[qCL h9,cond_false,e1,e2,zo h9];exact⟨_,rfl,by simp[lsR]⟩
theorem qms{t:Tm}(hc:t.chk=0):EVf (EV cfg) 118 [t.av]=some (lsR (qJ t)):=by
 apply Gets.get;rw[Tm.av,Tm.cells_eq];refine qrQ _ _ _ _ ?_;have hw:=xo hc;have h:=qpX (c:=t) (b:=false) t.w t [] (qCa _) hc (by simp;omega);rw[q4]at h;exact h
def qAT:Den:=evC cfg (EV cfg) 85 none 4 (sub (qc Tryz.f85) [0,1,1,0,0])
def qBs:Ex×List AV×AH->Option AV:=kAft (Cfg.keepOut cfg 85 (qh (sub (qc Tryz.f85) [0,1,1,0,0]))) (qO 0 (qa0 (vT cfg (Cfg.lift cfg 85 0) (fun(v:AV) (H:AH)=>(fun(r:AV×AH)=>xG 0 3 (fx 40 [(3,AV.ptr 1 0 0)]) (qO 0 (kSeq (fun(fr:List AV) (H:AH)=>qL (Cfg.cut cfg 117 (qh (sub (qc Tryz.f117) [1,1,1,1]))) fr H fun(fr:List AV) (H:AH)=>qG cfg (EV cfg) (kfN cfg 6) 117 none 0 (sub (qc Tryz.f117) [1,1,1,1]) fr H (vL cfg (Cfg.lift cfg 117 0) (qCl (Func.results Tryz.f117)))) (vL cfg (Cfg.lift cfg 117 0) (qCl (Func.results Tryz.f117))))) (Prod.snd r)) (v,H)) (qCl (Func.results (Prod.snd (85,Tryz.f85)))))))
def qvr:List AV×AH->Option AV:=fun(p:List AV×AH)=>kOpt (LOOP 4 (some [0,3]) [(3,4)] qAT p) qBs
def qAS:Den:=evC cfg (EV cfg) 117 none 0 (sub (qc Tryz.f117) [1,1,1,1,1,0,1,0,0])
def qBr:Ex×List AV×AH->Option AV:=kAft (Cfg.keepOut cfg 117 11) (kRun cfg (EV cfg) (kfN cfg 6) 117 none 0 (vL cfg (Cfg.lift cfg 117 0) Tryz.f117.results.toList) ([.block 2,.seq (sub (qc Tryz.f117) [1,1,1,1,1,1])]))
def qvq:List AV×AH->Option AV:=λp=>kOpt (LOOP 0 (some [3,7,29]) ([(7,1)]) qAS p) qBr
abbrev qaR(nv3:Nat)(c0_0 c0_1:Int)(c0_2:Bz)(c0_3:Rz)(c1_0 c1_1 c2_0 c2_1:Int)(c2_2:Bz)(c2_3 h4:Rz):Option (AV):=qvr (((fx 37 [(0,.yld 3),(3,.ms 4 0 nv3)]):List AV),([.rows false 4 [[.int .i64 c0_0,.int .i64 c0_1,.str c0_2,.sl c0_3]],.rows false 2 [[.int .u64 c1_0,.int .u64 c1_1]],.rows false 4 [[.int .i64 c2_0,.int .i64 c2_1,.str c2_2,.sl c2_3]],rngB Tryz.f117 117 [1,1,1,0,1,0] (fx 40 [(3,.ptr 1 0 0)]) none LoopState.ready,.rows true 4 h4]:AH))
abbrev zB(nv3:Nat)(c0_0 c0_1:Int)(c0_2:Bz)(c0_3 h1:Rz)(c2_0 c2_1:Int)(c2_2:Bz)(c2_3 h4:Rz):Option (AV):=qvr (((fx 37 [(0,.yld 3),(3,.ms 4 0 nv3)]):List AV),([.rows false 4 [[.int .i64 c0_0,.int .i64 c0_1,.str c0_2,.sl c0_3]],.rows true 2 h1,.rows false 4 [[.int .i64 c2_0,.int .i64 c2_1,.str c2_2,.sl c2_3]],rngB Tryz.f117 117 [1,1,1,0,1,0] (fx 40 [(3,.ptr 1 0 0)]) none LoopState.ready,.rows true 4 h4]:AH))
abbrev qdW(nv7:Nat)(v29 c0_0 c0_1:Int)(h1:Rz):Option (AV):=qvq (((fx 40 [(3,.ptr 0 0 0),(7,.ms 1 0 nv7),(29,.int .i64 v29)]):List AV),([.rows false 2 [[.int .u64 c0_0,.int .u64 c0_1]],.rows true 1 h1]:AH))
abbrev qcr(nv7:Nat)(v29:Int)(h0 h1:Rz):Option (AV):=qvq (((fx 40 [(3,.ptr 0 0 0),(7,.ms 1 0 nv7),(29,.int .i64 v29)]):List AV),([.rows true 2 h0,.rows true 1 h1]:AH))
theorem qij(n:Int)(r:List AV){P:MV×List (List AV)->Prop}(h:Gets (bif decide (n<64)then kOpt (qB0 r 0) λv=>kInt .u64 v λn_1=>kOpt (qn (Op.shift BinOp.shl .u64 1 .i64 n)) λv=>kInt .u64 v λn=>kOpt (qn (Op.intBits BinOp.or .u64 n_1 n)) λv=>kInt .u64 v λn=>bif qB4 1 (qB1 r)then some (MV.unit,[AV.int .u64 n::qCk 1 r])else none else kOpt (qB0 r 1) λv=>kInt .u64 v λn_1=>kOpt (qn (Op.shift BinOp.shl .u64 1 .i64 (qBZ .i64 (n - 64)))) λv=>kInt .u64 v λn=>kOpt (qn (Op.intBits BinOp.or .u64 n_1 n)) λv=>kInt .u64 v λn=>bif qB4 2 (qB1 r)then some (MV.unit,[qCu (qCu (qB8 1 r) [AV.int .u64 n]) (qCk 2 r)])else none) P):Gets (EVm (EV cfg) 143 [.ptr 0 0 0,.int .i64 n] 2 [r]) P:=
  gE (λ_=>funM rfl rfl Tryz.func143 rfl) (by kernel_rfl) h
theorem qp4(kp np:Int)(sp:Bz)(lp:Rz){P:AV->Prop}(h:Gets (kOpt (EVs (EV cfg) 53 [.agg [.int .i64 kp,.int .i64 np,.str sp,.sl lp]]) λv=>qr v λb=>bif ! b then some (.sl [])else qaR 1 kp np sp lp 0 (0:Int) kp np sp lp [[AV.int .i64 kp,.int .i64 np,.str sp,.sl lp]]) P):Gets (EVf (EV cfg) 117 [.agg [.int .i64 kp,.int .i64 np,.str sp,.sl lp]]) P:=
  gE (λ_=>funF rfl rfl Tryz.func117 rfl) (by kernel_rfl) h
theorem qdA(nv3:Nat)(c0_0 c0_1:Int)(c0_2:Bz)(c0_3:Rz)(c1_0 c1_1 c2_0 c2_1:Int)(c2_2:Bz)(c2_3 h4:Rz){P:AV->Prop}(h:Gets (bif decide ((↑ nv3:Int)>0)then bif qd 0 (qBZ .i64 ((↑ nv3:Int) - 1))&&qe (qBZ .i64 ((↑ nv3:Int) - 1)) (↑ nv3:Int)then kOpt (qB0 h4 (0+qB7 (qBZ .i64 ((↑ nv3:Int) - 1)))) λrow=>bif qB4 4 (qB1 row)then kTmC (qB8 4 row) λn n_1 s rows=>(bif qd 0 (qBZ .i64 ((↑ nv3:Int) - 1))&&qd (qBZ .i64 ((↑ nv3:Int) - 1)) (↑ nv3:Int)then bif n==7 then bif xl 4 rows then bif qB4 (0+(qB7 (qBZ .i64 ((↑ nv3:Int) - 1)) - 0)) (qB1 h4)&&qW (qB7 (qBZ .i64 ((↑ nv3:Int) - 1)) - 0+qB1 rows) 56 then qaR (qB7 (qBZ .i64 ((↑ nv3:Int) - 1)) - 0+qB1 rows) c0_0 c0_1 c0_2 c0_3 c1_0 c1_1 c2_0 c2_1 c2_2 c2_3 (qCu (qB8 (qB7 (qBZ .i64 ((↑ nv3:Int) - 1)) - 0) h4) rows)else none else none else bif n==9 then bif xl 4 rows then bif qB4 (0+(qB7 (qBZ .i64 ((↑ nv3:Int) - 1)) - 0)) (qB1 h4)&&qW (qB7 (qBZ .i64 ((↑ nv3:Int) - 1)) - 0+qB1 rows) 56 then qaR (qB7 (qBZ .i64 ((↑ nv3:Int) - 1)) - 0+qB1 rows) c0_0 c0_1 c0_2 c0_3 c1_0 c1_1 c2_0 c2_1 c2_2 c2_3 (qCu (qB8 (qB7 (qBZ .i64 ((↑ nv3:Int) - 1)) - 0) h4) rows)else none else none else kOpt (EVs (EV cfg) 55 [.str s]) λv=>kTup v λcs=>qf cs λc cs=>kInt .i64 c λn_2=>qf cs λc cs=>qr c λb=>kNil cs (bif b then bif n==2 then kOpt (EVm (EV cfg) 143 [.ptr 0 0 0,.int .i64 n_2] 2 [[AV.int .u64 c1_0,.int .u64 c1_1]]) λq=>qx q.1 (zB (qB7 (qBZ .i64 ((↑ nv3:Int) - 1)) - 0) c0_0 c0_1 c0_2 c0_3 q.2 c2_0 c2_1 c2_2 c2_3 h4)else qaR (qB7 (qBZ .i64 ((↑ nv3:Int) - 1)) - 0) c0_0 c0_1 c0_2 c0_3 c1_0 c1_1 c2_0 c2_1 c2_2 c2_3 h4 else qaR (qB7 (qBZ .i64 ((↑ nv3:Int) - 1)) - 0) c0_0 c0_1 c0_2 c0_3 c1_0 c1_1 c2_0 c2_1 c2_2 c2_3 h4)else none)else none else none else qdW 0 0 c1_0 c1_1 []) P):Gets (qaR nv3 c0_0 c0_1 c0_2 c0_3 c1_0 c1_1 c2_0 c2_1 c2_2 c2_3 h4) P:=
  gE (λ_=>ql (cfg:=cfg) (f:=85) (rd:=none) (bs:=4)) (by kernel_rfl) h
theorem qcK(nv3:Nat)(c0_0 c0_1:Int)(c0_2:Bz)(c0_3 h1:Rz)(c2_0 c2_1:Int)(c2_2:Bz)(c2_3 h4:Rz){P:AV->Prop}(h:Gets (bif decide ((↑ nv3:Int)>0)then bif qd 0 (qBZ .i64 ((↑ nv3:Int) - 1))&&qe (qBZ .i64 ((↑ nv3:Int) - 1)) (↑ nv3:Int)then kOpt (qB0 h4 (0+qB7 (qBZ .i64 ((↑ nv3:Int) - 1)))) λrow=>bif qB4 4 (qB1 row)then kTmC (qB8 4 row) λn n_1 s rows=>(bif qd 0 (qBZ .i64 ((↑ nv3:Int) - 1))&&qd (qBZ .i64 ((↑ nv3:Int) - 1)) (↑ nv3:Int)then bif n==7 then bif xl 4 rows then bif qB4 (0+(qB7 (qBZ .i64 ((↑ nv3:Int) - 1)) - 0)) (qB1 h4)&&qW (qB7 (qBZ .i64 ((↑ nv3:Int) - 1)) - 0+qB1 rows) 56 then zB (qB7 (qBZ .i64 ((↑ nv3:Int) - 1)) - 0+qB1 rows) c0_0 c0_1 c0_2 c0_3 h1 c2_0 c2_1 c2_2 c2_3 (qCu (qB8 (qB7 (qBZ .i64 ((↑ nv3:Int) - 1)) - 0) h4) rows)else none else none else bif n==9 then bif xl 4 rows then bif qB4 (0+(qB7 (qBZ .i64 ((↑ nv3:Int) - 1)) - 0)) (qB1 h4)&&qW (qB7 (qBZ .i64 ((↑ nv3:Int) - 1)) - 0+qB1 rows) 56 then zB (qB7 (qBZ .i64 ((↑ nv3:Int) - 1)) - 0+qB1 rows) c0_0 c0_1 c0_2 c0_3 h1 c2_0 c2_1 c2_2 c2_3 (qCu (qB8 (qB7 (qBZ .i64 ((↑ nv3:Int) - 1)) - 0) h4) rows)else none else none else kOpt (EVs (EV cfg) 55 [.str s]) λv=>kTup v λcs=>qf cs λc cs=>kInt .i64 c λn_2=>qf cs λc cs=>qr c λb=>kNil cs (bif b then bif n==2 then kOpt (EVm (EV cfg) 143 [.ptr 0 0 0,.int .i64 n_2] 2 h1) λq=>qx q.1 (zB (qB7 (qBZ .i64 ((↑ nv3:Int) - 1)) - 0) c0_0 c0_1 c0_2 c0_3 q.2 c2_0 c2_1 c2_2 c2_3 h4)else zB (qB7 (qBZ .i64 ((↑ nv3:Int) - 1)) - 0) c0_0 c0_1 c0_2 c0_3 h1 c2_0 c2_1 c2_2 c2_3 h4 else zB (qB7 (qBZ .i64 ((↑ nv3:Int) - 1)) - 0) c0_0 c0_1 c0_2 c0_3 h1 c2_0 c2_1 c2_2 c2_3 h4)else none)else none else none else qcr 0 0 h1 []) P):Gets (zB nv3 c0_0 c0_1 c0_2 c0_3 h1 c2_0 c2_1 c2_2 c2_3 h4) P:=
  gE (λ_=>ql (cfg:=cfg) (f:=85) (rd:=none) (bs:=4)) (by kernel_rfl) h
theorem qh6(nv7:Nat)(v29 c0_0 c0_1:Int)(h1:Rz){P:AV->Prop}(h:Gets (bif decide (v29<100)then kOpt (EVs (EV cfg) 144 [AV.cptr [AV.int .u64 c0_0,.int .u64 c0_1] 0,.int .i64 v29]) λv=>qr v λb=>bif b then bif qB4 (0+nv7) (qB1 h1)&&qW (nv7+1) 8 then qdW (nv7+1) (qBZ .i64 (v29+1)) c0_0 c0_1 (qCu (qB8 nv7 h1) [[AV.int .i64 v29]])else none else qdW nv7 (qBZ .i64 (v29+1)) c0_0 c0_1 h1 else bif qB4 (0+nv7) (qB1 h1)&&true then some (.sl (qB8 nv7 h1))else none) P):Gets (qdW nv7 v29 c0_0 c0_1 h1) P:=
  gE (λ_=>ql (cfg:=cfg) (f:=117) (rd:=none) (bs:=0)) (by kernel_rfl) h
theorem qfI(nv7:Nat)(v29:Int)(h0 h1:Rz){P:AV->Prop}(h:Gets (bif decide (v29<100)then kOpt (qB0 h0 0) λrow=>bif qw 0 row then bif qw 0 [AV.cptr row 0,.int .i64 v29]then kOpt (EVs (EV cfg) 144 [AV.cptr row 0,.int .i64 v29]) λv=>qr v λb=>bif b then bif qB4 (0+nv7) (qB1 h1)&&qW (nv7+1) 8 then qcr (nv7+1) (qBZ .i64 (v29+1)) h0 (qCu (qB8 nv7 h1) [[AV.int .i64 v29]])else none else qcr nv7 (qBZ .i64 (v29+1)) h0 h1 else none else none else bif qB4 (0+nv7) (qB1 h1)&&true then some (.sl (qB8 nv7 h1))else none) P):Gets (qcr nv7 v29 h0 h1) P:=
  gE (λ_=>ql (cfg:=cfg) (f:=117) (rd:=none) (bs:=0)) (by kernel_rfl) h
end Go.Proofs.YtgleolmhpmljhaaGreat
end
noncomputable section
namespace Go.Av
def yG(q:Nat->Bool):AV:=.sl (q6 (((qCJ 100).filter q).map Int.ofNat))
theorem xL:∀l:List Tm,l.length<=wL l
 |[]=>qCa _
 |t::l=>by rw[qY,qCE];have:=vU t;have:=xL l;omega
theorem qq0:qap (λ_=>false) [.int .u64 0,.int .u64 0]:=⟨0,0,[],rfl,by decide,by decide,λn _=>Nat.zero_testBit n,λn _=>Nat.zero_testBit n⟩
theorem qaW(x:Tm):xl 4 (qa x.subs)=true:=y9 _
end Go.Av
namespace Go.Proofs.YtgleolmhpmljhaaGreat
open Go.Av
theorem qjN{p:Nat->Bool}{r:List AV}(h:qap p r){n:Nat}(hn:n<100):∃r',EVm (EV cfg) 143 [.ptr 0 0 0,.int .i64 n] 2 [r]=some (.unit,[r']) ∧
  qap (λi=>p i||decide (i=n)) r'∧r'.drop 2=r.drop 2∧r'.length=r.length∧(qw 0 r=true->qw 0 r'=true):=by
 obtain⟨lo,hi,l,rfl,h1,h2,h3,h4⟩:=h;have pw:∀{k:Nat},k<64->2 ^ k<18446744073709551616:=by
  intro k hk;have:2 ^ k<2 ^ 64:=Nat.pow_lt_pow_right (by omega) hk
  simpa using this
 have orlt:∀{a b:Nat},a<18446744073709551616->b<18446744073709551616->a ||| b<18446744073709551616:=by
  intro a b ha hb;have:=Nat.or_lt_two_pow (n:=64) (by simpa using ha) (by simpa using hb)
  simpa using this
 have bit:∀{a k i:Nat},(a ||| 2 ^ k).testBit i=(a.testBit i||decide (i=k)):=by
  intro a k i;rw[Nat.testBit_or,Nat.testBit_two_pow]
  congr 1
  exact decide_eq_decide.2 ⟨λh=>h.symm,λh=>h.symm⟩
 by_cases hs:n<64
 ·refine⟨.int .u64 ((lo ||| 2 ^ n:Nat):Int):: .int .u64 hi::l,?_,⟨_,hi,l,rfl,orlt h1 (pw hs),h2,λi hi=>?_,λi hi=>?_⟩,rfl,rfl,λh=>h⟩
  ·apply Gets.get;refine qij _ _ ?_;rw[qCK (show(n:Int)<64 by omega)];simp only[cond_true,qv,qCC,qb,qi,qd4 hs,qhB h1 (pw hs)];exact⟨_,rfl,rfl⟩
  ·rw[bit,h3 i hi]
  ·have:decide (i+64=n)=false:=qCL (by omega);rw[h4 i hi];show p (i+64)=(p (i+64)||decide (i+64=n));rw[this,Bool.or_false]
 ·obtain⟨k,rfl⟩:∃k,n=k+64:=⟨n - 64,by omega⟩;have hk:k<64:=by omega
  have w:qBZ .i64 (((k+64:Nat):Int) - 64)=(k:Int):=by rw[qt (by omega) (by omega)];omega
  refine⟨.int .u64 lo:: .int .u64 ((hi ||| 2 ^ k:Nat):Int)::l,?_,⟨lo,_,l,rfl,h1,orlt h2 (pw hk),λi hi=>?_,λi hi=>?_⟩,rfl,rfl,λh=>h⟩
  ·apply Gets.get;refine qij _ _ ?_;rw[qCL (show ¬((k+64:Nat):Int)<64 by omega),w];simp only[cond_false,qv,List.getElem?_cons_succ,qCC,qb,qi,qd4 hk,qhB h2 (pw hk)];exact⟨_,rfl,rfl⟩
  ·have:decide (i=k+64)=false:=qCL (by omega);rw[h3 i hi];show p i=(p i||decide (i=k+64));rw[this,Bool.or_false]
  ·rw[bit,h4 i hi]
   congr 1
   exact decide_eq_decide.2 (by omega)
theorem qnU{q:Nat->Bool}{s:List AV}(h:qap q s)(h2:s.length=2):Gets (qcr 0 0 [s] []) (·=yG q):=by
 have hf:qw 0 s=true:=by
  obtain⟨lo,hi,l,rfl,_⟩:=h;cases l with
  |nil=>rfl
  |cons a l=>simp at h2
 have hg:∀n:Int,qw 0 [AV.cptr s 0,.int .i64 n]=true:=by
  intro n;obtain⟨lo,hi,l,rfl,_⟩:=h;cases l with
  |nil=>rfl
  |cons a l=>simp at h2
 have loop:∀d i:Nat,i+d=100->Gets (qcr ((qCJ i).filter q).length i [s] (q6 (((qCJ i).filter q).map Int.ofNat))) (·=yG q):=by
  intro d
  induction d with
  |zero=>
   intro i hi;obtain rfl:i=100:=by omega
   refine qfI _ _ _ _ ?_;have e1:qB4 (0+((qCJ 100).filter q).length) (q6 (((qCJ 100).filter q).map Int.ofNat)).length=true:=by rw[qCz,yM,qCH];omega
   have e2:qB8 ((qCJ 100).filter q).length (q6 (((qCJ 100).filter q).map Int.ofNat))=q6 (((qCJ 100).filter q).map Int.ofNat):=qCd (by rw[yM,qCH];exact qCa _);rw[show decide (((100:Nat):Int)<100)=false from rfl,e1,e2];exact⟨_,rfl,rfl⟩
  |succ d ih=>
   intro i hi;have h1:=ih (i+1) (by omega);rw[List.range_succ,List.filter_append]at h1;refine qfI _ _ _ _ ?_;have hle:((qCJ i).filter q).length<=i:=by have:=List.length_filter_le q (qCJ i);rw[List.length_range]at this;exact this
   have e1:qB4 (0+((qCJ i).filter q).length) (q6 (((qCJ i).filter q).map Int.ofNat)).length=true:=by rw[qCz,yM,qCH];omega
   have e2:qB8 ((qCJ i).filter q).length (q6 (((qCJ i).filter q).map Int.ofNat))=q6 (((qCJ i).filter q).map Int.ofNat):=qCd (by rw[yM,qCH];exact qCa _);have e3:qBZ .i64 ((i:Int)+1)=((i+1:Nat):Int):=by rw[qt (by omega) (by omega)];omega
   rw[qCK (show(i:Int)<100 by omega),qv,qCC,e1,e2,e3,qxL (by omega)];simp only[cond_true,qb,qp,hf,hg,qCx,qbS h (show i<100 by omega)];cases hq:q i with
   |true=>
    rw[List.filter_cons_of_pos hq,List.filter_nil,List.map_append,qCq]at h1;rw[cond_true];have e4:q6 (((qCJ i).filter q).map Int.ofNat++[i].map Int.ofNat)=qCu (q6 (((qCJ i).filter q).map Int.ofNat)) [[AV.int .i64 i]]:=by
     unfold q6;rw[List.map_append];rfl
    rw[e4]at h1;exact h1
   |false=>
    rw[List.filter_cons_of_neg (by rw[hq];decide),List.filter_nil,List.append_nil]at h1;rw[cond_false];exact h1
 exact loop 100 0 rfl
theorem qmm:Gets (qdW 0 0 0 0 []) (·=yG λi=>([]:List Tm).any (xy (i:Nat))):=by
 have loop:∀d i:Nat,i+d=100->Gets (qdW 0 i 0 0 []) (·=yG λi=>([]:List Tm).any (xy (i:Nat))):=by
  intro d
  induction d with
  |zero=>
   intro i hi;obtain rfl:i=100:=by omega
   refine qh6 _ _ _ _ _ ?_;rw[show decide (((100:Nat):Int)<100)=false from rfl];exact⟨_,rfl,rfl⟩
  |succ d ih=>
   intro i hi;refine qh6 _ _ _ _ _ ?_;have e3:qBZ .i64 ((i:Int)+1)=((i+1:Nat):Int):=by rw[qt (by omega) (by omega)];omega
   rw[qCK (show(i:Int)<100 by omega),qbS qq0 (show i<100 by omega),e3];simp only[cond_true,qb,qp,cond_false];exact ih (i+1) (by omega)
 exact loop 100 0 rfl
theorem qrE{p:Tm}:∀(n:Nat) (R:List Tm) (h4:List (List AV)) (s:List AV) (q:Nat->Bool),wL R<=n->n<1099511627776->R.length<=h4.length->h4.take R.length=qa R->qap q s->s.length=2-> 
  Gets (zB R.length p.kind p.num p.str (qa p.subs) [s] p.kind p.num p.str (qa p.subs) h4) (·=yG λi=>q i||R.any (xy (i:Nat))):=by
 intro n
 induction n with
 |zero=>
  intro R h4 s q hw hn hl ht hs hs2;have hR:R=[]:=by
   cases R with
   |nil=>rfl
   |cons x l=>rw[qY]at hw;have:=vU x;omega
  subst hR;refine qcK _ _ _ _ _ _ _ _ _ _ _ ?_;have:decide (((([]:List Tm).length:Nat):Int)>0)=false:=rfl;rw[this,cond_false];exact qnU (by simpa using hs) hs2
 |succ n ih=>
  intro R h4 s q hw hn hl ht hs hs2;rcases List.eq_nil_or_concat R with rfl|⟨R',x,hR⟩
  ·refine qcK _ _ _ _ _ _ _ _ _ _ _ ?_;have:decide (((([]:List Tm).length:Nat):Int)>0)=false:=rfl;rw[this,cond_false];exact qnU (by simpa using hs) hs2
  ·obtain rfl:R=R'++[x]:=by rw[hR];simp
   clear hR;rw[xF,qY,xg]at hw;have hx:=vU x;have hwe:=x.w_eq;have hRl:=xL R';rw[qCq,List.length_singleton]at hl ht⊢;refine qcK _ _ _ _ _ _ _ _ _ _ _ ?_;have g0:decide (((R'.length+1:Nat):Int)>0)=true:=qCK (by omega);have g1:qBZ .i64 (((R'.length+1:Nat):Int) - 1)=(R'.length:Int):=by rw[qt (by omega) (by omega)];omega
   have g2:qe (R'.length:Int) ((R'.length+1:Nat):Int)=true:=qCK (by omega);have g3:qd (R'.length:Int) ((R'.length+1:Nat):Int)=true:=qCK (by omega);have g4:h4[R'.length]? =some x.cells:=by
    have:(h4.take (R'.length+1))[R'.length]? =some x.cells:=by
     rw[ht,xu];simp
    rwa [List.getElem?_take,qCM (by omega)]at this
   have g5:h4.take R'.length=qa R':=by
    have:(h4.take (R'.length+1)).take R'.length=qa R':=by
     rw[ht,vn];exact List.take_left' (qg R')
    rwa [List.take_take,Nat.min_eq_left (by omega)]at this
   have g6:qB4 (0+R'.length) h4.length=true:=by rw[qCz];omega
   rw[g0,g1,qE,g2,g3,qv,qCi,qCG,g4,Nat.sub_zero];simp only[cond_true,qCx,qb,qj,qm,qk,xe,qg,g5,qaW];have push:(x.kind=7∨x.kind=9)->Gets (zB (R'.length+x.subs.length) p.kind p.num p.str (qa p.subs) [s] p.kind p.num p.str (qa p.subs) (qCu (qa R') (qa x.subs))) (·=yG λi=>q i||(R'++[x]).any (xy (i:Nat))):=by
    intro hk;have hl:=xL x.subs;have h:=ih (R'++x.subs) (qa (R'++x.subs)) s q (by rw[xF];omega) (by omega) (by rw[qg];exact qCa _) (qCd (by simp)) hs hs2;rw[qCq]at h;rw[show qCu (qa R') (qa x.subs)=qa (R'++x.subs)from(vn _ _).symm];refine Gets.mono h ?_;rintro _ rfl;apply congrArg yG
    funext i
    rw[List.any_append,List.any_append,List.any_cons,List.any_nil,Bool.or_false,qbm _ x,qCM hk]
   have drop:(¬(x.kind=7∨x.kind=9))->¬(x.kind=2∧(varG x.str).isSome)->Gets (zB R'.length p.kind p.num p.str (qa p.subs) [s] p.kind p.num p.str (qa p.subs) h4) (·=yG λi=>q i||(R'++[x]).any (xy (i:Nat))):=by
    intro hk hv;refine Gets.mono (ih R' h4 s q (by omega) (by omega) (by omega) g5 hs hs2) ?_;rintro _ rfl;apply congrArg yG
    funext i
    have:xy (i:Nat) x=false:=by
     rw[qbm,qCN hk]
     by_cases h2:x.kind=2
     ·rw[qCK h2,qCF,qCL];intro h;exact hv ⟨h2,by rw[h];rfl⟩
     ·rw[qCL h2,Bool.false_and]
    rw[List.any_append,List.any_cons,List.any_nil,this,Bool.or_false,Bool.or_false]
   rw[beqI,beqI,beqI,zM,g6]
   by_cases h7:x.kind=7
   ·rw[qCK h7];simp only[cond_true,qCF,yv (show R'.length+x.subs.length<=1099511627776 by have:=xL x.subs;omega)];exact push (.inl h7)
   rw[qCL h7,cond_false]
   by_cases h9:x.kind=9
   ·rw[qCK h9];simp only[cond_true,qCF,yv (show R'.length+x.subs.length<=1099511627776 by have:=xL x.subs;omega)];exact push (.inr h9)
   rw[qCL h9,cond_false];have hk:¬(x.kind=7∨x.kind=9):=by omega
   unfold varR;simp only[qb,kTup,qf,qi,qp,kNil];cases hv:varG x.str with
   |none=>
    rw[hv]at drop;exact drop hk (by simp)
   |some v=>
    by_cases h2:x.kind=2
    ·rw[qCK h2];obtain⟨hv0,hv9⟩:=qlj hv;obtain⟨m,rfl⟩:∃m:Nat,v=m:=⟨v.toNat,by omega⟩;obtain⟨r',hr1,hr2,hr3,hr4,hr5⟩:=qjN hs (n:=m) (by omega);simp only[Option.getD_some,Option.isSome_some,cond_true,hr1,qb,qx];refine Gets.mono (ih R' h4 r' _ (by omega) (by omega) (by omega) g5 hr2 (by rw[hr4];exact hs2)) ?_;rintro _ rfl;apply congrArg yG
     funext i
     have:xy (i:Nat) x=decide (i=m):=by
      rw[qbm,qCN hk,qCK h2,qCF,hv];exact decide_eq_decide.2 ⟨λh=>by cases h;rfl,λh=>by rw[h]⟩
     rw[List.any_append,List.any_cons,List.any_nil,this,Bool.or_false];cases q i<;>cases decide (i=m)<;>cases R'.any (xy (i:Nat))<;>rfl
    ·rw[qCL h2];exact drop hk (λh=>h2 h.1)
theorem qtA{p:Tm}:∀(n:Nat) (R:List Tm) (h4:List (List AV)),wL R<=n->n<1099511627776->R.length<=h4.length->h4.take R.length=qa R-> 
  Gets (qaR R.length p.kind p.num p.str (qa p.subs) 0 0 p.kind p.num p.str (qa p.subs) h4) (·=yG λi=>R.any (xy (i:Nat))):=by
 intro n
 induction n with
 |zero=>
  intro R h4 hw hn hl ht ;have hR:R=[]:=by
   cases R with
   |nil=>rfl
   |cons x l=>rw[qY]at hw;have:=vU x;omega
  subst hR;refine qdA _ _ _ _ _ _ _ _ _ _ _ _ ?_;have:decide (((([]:List Tm).length:Nat):Int)>0)=false:=rfl;rw[this,cond_false];exact qmm
 |succ n ih=>
  intro R h4 hw hn hl ht ;rcases List.eq_nil_or_concat R with rfl|⟨R',x,hR⟩
  ·refine qdA _ _ _ _ _ _ _ _ _ _ _ _ ?_;have:decide (((([]:List Tm).length:Nat):Int)>0)=false:=rfl;rw[this,cond_false];exact qmm
  ·obtain rfl:R=R'++[x]:=by rw[hR];simp
   clear hR;rw[xF,qY,xg]at hw;have hx:=vU x;have hwe:=x.w_eq;have hRl:=xL R';rw[qCq,List.length_singleton]at hl ht⊢;refine qdA _ _ _ _ _ _ _ _ _ _ _ _ ?_;have g0:decide (((R'.length+1:Nat):Int)>0)=true:=qCK (by omega);have g1:qBZ .i64 (((R'.length+1:Nat):Int) - 1)=(R'.length:Int):=by rw[qt (by omega) (by omega)];omega
   have g2:qe (R'.length:Int) ((R'.length+1:Nat):Int)=true:=qCK (by omega);have g3:qd (R'.length:Int) ((R'.length+1:Nat):Int)=true:=qCK (by omega);have g4:h4[R'.length]? =some x.cells:=by
    have:(h4.take (R'.length+1))[R'.length]? =some x.cells:=by
     rw[ht,xu];simp
    rwa [List.getElem?_take,qCM (by omega)]at this
   have g5:h4.take R'.length=qa R':=by
    have:(h4.take (R'.length+1)).take R'.length=qa R':=by
     rw[ht,vn];exact List.take_left' (qg R')
    rwa [List.take_take,Nat.min_eq_left (by omega)]at this
   have g6:qB4 (0+R'.length) h4.length=true:=by rw[qCz];omega
   rw[g0,g1,qE,g2,g3,qv,qCi,qCG,g4,Nat.sub_zero];simp only[cond_true,qCx,qb,qj,qm,qk,xe,qg,g5,qaW];have push:(x.kind=7∨x.kind=9)->Gets (qaR (R'.length+x.subs.length) p.kind p.num p.str (qa p.subs) 0 0 p.kind p.num p.str (qa p.subs) (qCu (qa R') (qa x.subs))) (·=yG λi=>(R'++[x]).any (xy (i:Nat))):=by
    intro hk;have hl:=xL x.subs;have h:=ih (R'++x.subs) (qa (R'++x.subs)) (by rw[xF];omega) (by omega) (by rw[qg];exact qCa _) (qCd (by simp)) ;rw[qCq]at h;rw[show qCu (qa R') (qa x.subs)=qa (R'++x.subs)from(vn _ _).symm];refine Gets.mono h ?_;rintro _ rfl;apply congrArg yG
    funext i
    rw[List.any_append,List.any_append,List.any_cons,List.any_nil,Bool.or_false,qbm _ x,qCM hk]
   have drop:(¬(x.kind=7∨x.kind=9))->¬(x.kind=2∧(varG x.str).isSome)->Gets (qaR R'.length p.kind p.num p.str (qa p.subs) 0 0 p.kind p.num p.str (qa p.subs) h4) (·=yG λi=>(R'++[x]).any (xy (i:Nat))):=by
    intro hk hv;refine Gets.mono (ih R' h4 (by omega) (by omega) (by omega) g5 ) ?_;rintro _ rfl;apply congrArg yG
    funext i
    have:xy (i:Nat) x=false:=by
     rw[qbm,qCN hk]
     by_cases h2:x.kind=2
     ·rw[qCK h2,qCF,qCL];intro h;exact hv ⟨h2,by rw[h];rfl⟩
     ·rw[qCL h2,Bool.false_and]
    rw[List.any_append,List.any_cons,List.any_nil,this,Bool.or_false,Bool.or_false]
   rw[beqI,beqI,beqI,zM,g6]
   by_cases h7:x.kind=7
   ·rw[qCK h7];simp only[cond_true,qCF,yv (show R'.length+x.subs.length<=1099511627776 by have:=xL x.subs;omega)];exact push (.inl h7)
   rw[qCL h7,cond_false]
   by_cases h9:x.kind=9
   ·rw[qCK h9];simp only[cond_true,qCF,yv (show R'.length+x.subs.length<=1099511627776 by have:=xL x.subs;omega)];exact push (.inr h9)
   rw[qCL h9,cond_false];have hk:¬(x.kind=7∨x.kind=9):=by omega
   unfold varR;simp only[qb,kTup,qf,qi,qp,kNil];cases hv:varG x.str with
   |none=>
    rw[hv]at drop;exact drop hk (by simp)
   |some v=>
    by_cases h2:x.kind=2
    ·rw[qCK h2];obtain⟨hv0,hv9⟩:=qlj hv;obtain⟨m,rfl⟩:∃m:Nat,v=m:=⟨v.toNat,by omega⟩;obtain⟨r',hr1,hr2,hr3,hr4,hr5⟩:=qjN qq0 (n:=m) (by omega);simp only[Option.getD_some,Option.isSome_some,cond_true,hr1,qb,qx];refine Gets.mono (qrE n R' h4 r' _ (by omega) (by omega) (by omega) g5 hr2 (by rw[hr4];rfl)) ?_;rintro _ rfl;apply congrArg yG
     funext i
     have:xy (i:Nat) x=decide (i=m):=by
      rw[qbm,qCN hk,qCK h2,qCF,hv];exact decide_eq_decide.2 ⟨λh=>by cases h;rfl,λh=>by rw[h]⟩
     rw[List.any_append,List.any_cons,List.any_nil,this,Bool.or_false];cases decide (i=m)<;>cases R'.any (xy (i:Nat))<;>rfl
    ·rw[qCL h2];exact drop hk (λh=>h2 h.1)
theorem qr2{t:Tm}(h:t.w<1099511627776):EVf (EV cfg) 117 [t.av]=some (.sl (q6 (z7 t))):=by
 have hm:=zN h;apply Gets.get;rw[Tm.av,Tm.cells_eq]at hm⊢;refine qp4 _ _ _ _ ?_;rw[hm];simp only[qb,qp];unfold z7
 by_cases hc:t.chk=0
 ·rw[qCK hc,qCM hc];have hl:=qtA (p:=t) t.w [t] [t.cells] (by rw[qY,xg];exact qCa _) h (qCa _) rfl;rw[Tm.cells_eq]at hl;refine Gets.mono hl ?_;rintro _ rfl;unfold yG;have:(λi:Nat=>[t].any (xy (i:Nat)))=λi:Nat=>xy (i:Nat) t:=by funext i;simp
  rw[this]
 ·rw[qCL hc,qCN hc];exact⟨_,rfl,rfl⟩
end Go.Proofs.YtgleolmhpmljhaaGreat
end
noncomputable section
namespace Go.Av
structure Rg where
 ar:Int
 fst:List Tm
 deriving Inhabited
structure Bnd where
 all:Bool
 keys:List Tm
 rgs:List Rg
 deriving Inhabited
def allK(l:List Tm):Bool:=l.all λt=>decide (t.chk=0)
def q8(r:Rg)(k:Tm):Bool:=decide (k.kind=7)&&(decide ((k.subs.length:Int)=r.ar)&&(decide (r.fst.length<=k.subs.length)&&decide (k.subs.take r.fst.length=r.fst)))
end Go.Av
end
noncomputable section
namespace Go.Proofs.YtgleolmhpmljhaaGreat
open Go.Av
def qAH:Den:=evC cfg (EV cfg) 5 none 0 (sub (qc Tryz.f5) [1,0,1,0,0])
def qBg:Ex×List AV×AH->Option AV:=kAft (Cfg.keepOut cfg 5 2) (kRun cfg (EV cfg) (kfN cfg 6) 5 none 0 (xS cfg (Cfg.lift cfg 5 0) Tryz.f5.results.toList) ([.block 0,.seq (sub (qc Tryz.f5) [1,1])]))
def qAj:List AV×AH->Option AV:=λp=>kOpt (LOOP 0 (some [0,3]) ([]) qAH p) qBg
def qyV:Den:=evC cfg (EV cfg) 19 none 0 (sub (qc Tryz.f19) [1,0,1,0,0])
def qzk:Ex×List AV×AH->Option AV:=kAft (Cfg.keepOut cfg 19 2) (kRun cfg (EV cfg) (kfN cfg 6) 19 none 0 (xS cfg (Cfg.lift cfg 19 0) Tryz.f19.results.toList) ([.block 0,.seq (sub (qc Tryz.f19) [1,1])]))
def qro:List AV×AH->Option AV:=λp=>kOpt (LOOP 0 (some [0,1,7,8]) ([]) qyV p) qzk
def qyU:Den:=evC cfg (EV cfg) 59 none 0 (sub (qc Tryz.f59) [1,0,1,0,0])
def qzj:Ex×List AV×AH->Option AV:=kAft (Cfg.keepOut cfg 59 2) (kRun cfg (EV cfg) (kfN cfg 6) 59 none 0 (xS cfg (Cfg.lift cfg 59 0) Tryz.f59.results.toList) ([.block 0,.seq (sub (qc Tryz.f59) [1,1])]))
def qys:List AV×AH->Option AV:=λp=>kOpt (LOOP 0 (some [0,1,7,8]) ([]) qyU p) qzj
def qxb:Den:=evC cfg (EV cfg) 87 none 0 (sub (qc Tryz.f87) [1,1,0,1,0,0])
def qxn:Ex×List AV×AH->Option AV:=kAft (Cfg.keepOut cfg 87 4) (kRun cfg (EV cfg) (kfN cfg 6) 87 none 0 (xS cfg (Cfg.lift cfg 87 0) Tryz.f87.results.toList) ([.block 0,.seq (sub (qc Tryz.f87) [1,1,1])]))
def qw0:List AV×AH->Option AV:=λp=>kOpt (LOOP 0 (some [1,2,15,16,17]) ([]) qxb p) qxn
abbrev qjq(L:Rz)(v3:Int):Option (AV):=qAj (((fx 15 [(0,.sl L),(3,.int .i64 v3)]):List AV),([]:AH))
abbrev qg9(L:Rz)(v8:Int):Option (AV):=qro (((fx 19 [(0,.sl L),(1,.fn (Fn.func 81) [] []),(7,.int .i64 (L.length:Int)),(8,.int .i64 v8)]):List AV),([]:AH))
abbrev qes(L:Rz)(kt nt:Int)(st:Bz)(lt:Rz)(v8:Int):Option (AV):=qro (((fx 19 [(0,.sl L),(1,.fn (Fn.func 47) [] [.cptr [.int .i64 kt,.int .i64 nt,.str st,.sl lt] 0]),(7,.int .i64 (L.length:Int)),(8,.int .i64 v8)]):List AV),([]:AH))
abbrev qg8(L:Rz)(kt nt:Int)(st:Bz)(lt:Rz)(v8:Int):Option (AV):=qys (((fx 19 [(0,.sl L),(1,.fn (Fn.func 48) [] [.cptr [.int .i64 kt,.int .i64 nt,.str st,.sl lt] 0]),(7,.int .i64 (L.length:Int)),(8,.int .i64 v8)]):List AV),([]:AH))
abbrev qet(L M:Rz)(v17:Int):Option (AV):=qw0 (((fx 32 [(1,.sl M),(2,.fn (Fn.func 31) [] []),(15,.sl L),(16,.int .i64 (L.length:Int)),(17,.int .i64 v17)]):List AV),([]:AH))
theorem qwV(L:Rz){P:AV->Prop}(h:Gets (kOpt (EVs (EV cfg) 46 [.sl L,AV.fn (Fn.func 81) [] []]) λv=>qr v λb=>some (.bool ! b)) P):Gets (EVs (EV cfg) 45 [.sl L]) P:=
  gE (λ_=>funS rfl rfl Tryz.func45 rfl) (by kernel_rfl) h
theorem qtb(kt nt:Int)(st:Bz)(lt:Rz){P:AV->Prop}(h:Gets (kOpt (EVs (EV cfg) 79 [.agg [.int .i64 kt,.int .i64 nt,.str st,.sl lt]]) λv=>kInt .i64 v λn=>some (.bool (n != 0))) P):Gets (EVs (EV cfg) 81 [.agg [.int .i64 kt,.int .i64 nt,.str st,.sl lt]]) P:=
  gE (λ_=>funS rfl rfl Tryz.func81 rfl) (by kernel_rfl) h
theorem qqO(L M:Rz){P:AV->Prop}(h:Gets (bif decide ((L.length:Int)≥(M.length:Int))then bif qd 0 (M.length:Int)&&qd (M.length:Int) (L.length:Int)then bif xl 4 L then kOpt (EVs (EV cfg) 87 [.sl (qB8 (qB7 (M.length:Int) - 0) L),.sl M,AV.fn (Fn.func 31) [] []]) λv=>qr v λb=>some (.bool b)else none else none else some (.bool false)) P):Gets (EVs (EV cfg) 60 [.sl L,.sl M]) P:=
  gE (λ_=>funS rfl rfl Tryz.func60 rfl) (by kernel_rfl) h
theorem qqN(ar:Int)(fs:Rz)(kt nt:Int)(st:Bz)(lt:Rz){P:AV->Prop}(h:Gets (bif kt==7 then bif(lt.length:Int)==ar then kOpt (EVs (EV cfg) 60 [.sl lt,.sl fs]) λv=>qr v λb=>some (.bool b)else some (.bool false)else some (.bool false)) P):Gets (EVs (EV cfg) 27 [.agg [.int .i64 ar,.sl fs],.agg [.int .i64 kt,.int .i64 nt,.str st,.sl lt]]) P:=
  gE (λ_=>funS rfl rfl Tryz.func27 rfl) (by kernel_rfl) h
theorem qta(al:Bool)(ks rs:Rz)(kt nt:Int)(st:Bz)(lt:Rz){P:AV->Prop}(h:Gets (kOpt (EVs (EV cfg) 45 [.sl [[AV.int .i64 kt,.int .i64 nt,.str st,.sl lt]]]) λv=>qr v λb=>bif ! b then some (.bool false)else bif al then some (.bool true)else kOpt (EVs (EV cfg) 46 [.sl ks,AV.fn (Fn.func 47) [] [AV.cptr [AV.int .i64 kt,.int .i64 nt,.str st,.sl lt] 0]]) λv=>qr v λb=>bif b then some (.bool true)else kOpt (EVs (EV cfg) 25 [.sl rs,AV.fn (Fn.func 48) [] [AV.cptr [AV.int .i64 kt,.int .i64 nt,.str st,.sl lt] 0]]) λv=>qr v λb=>some (.bool b)) P):Gets (EVs (EV cfg) 14 [.agg [.bool al,.sl ks,.sl rs],.agg [.int .i64 kt,.int .i64 nt,.str st,.sl lt]]) P:=
  gE (λ_=>funS rfl rfl Tryz.func14 rfl) (by kernel_rfl) h
theorem qql(L:Rz){P:AV->Prop}(h:Gets (qjq L 0) P):Gets (EVs (EV cfg) 5 [.sl L]) P:=
  gE (λ_=>funS rfl rfl Tryz.func5 rfl) (by kernel_rfl) h
theorem qqF(L:Rz){P:AV->Prop}(h:Gets (kOpt (EVs (EV cfg) 19 [.sl L,AV.fn (Fn.func 81) [] []]) λv=>kInt .i64 v λn=>some (.bool (decide (n≥0)))) P):Gets (EVs (EV cfg) 46 [.sl L,.fn (Fn.func 81) [] []]) P:=
  gE (λ_=>funS rfl rfl Tryz.func46 rfl) (by kernel_rfl) h
theorem qsK(L:Rz){P:AV->Prop}(h:Gets (qg9 L 0) P):Gets (EVs (EV cfg) 19 [.sl L,.fn (Fn.func 81) [] []]) P:=
  gE (λ_=>funS rfl rfl Tryz.func19 rfl) (by kernel_rfl) h
theorem qqG(L:Rz)(kt nt:Int)(st:Bz)(lt:Rz){P:AV->Prop}(h:Gets (kOpt (EVs (EV cfg) 19 [.sl L,AV.fn (Fn.func 47) [] [AV.cptr [AV.int .i64 kt,.int .i64 nt,.str st,.sl lt] 0]]) λv=>kInt .i64 v λn=>some (.bool (decide (n≥0)))) P):Gets (EVs (EV cfg) 46 [.sl L,.fn (Fn.func 47) [] [.cptr [.int .i64 kt,.int .i64 nt,.str st,.sl lt] 0]]) P:=
  gE (λ_=>funS rfl rfl Tryz.func46 rfl) (by kernel_rfl) h
theorem qsL(L:Rz)(kt nt:Int)(st:Bz)(lt:Rz){P:AV->Prop}(h:Gets (qes L kt nt st lt 0) P):Gets (EVs (EV cfg) 19 [.sl L,.fn (Fn.func 47) [] [.cptr [.int .i64 kt,.int .i64 nt,.str st,.sl lt] 0]]) P:=
  gE (λ_=>funS rfl rfl Tryz.func19 rfl) (by kernel_rfl) h
theorem qs0(L:Rz)(kt nt:Int)(st:Bz)(lt:Rz){P:AV->Prop}(h:Gets (kOpt (EVs (EV cfg) 59 [.sl L,AV.fn (Fn.func 48) [] [AV.cptr [AV.int .i64 kt,.int .i64 nt,.str st,.sl lt] 0]]) λv=>kInt .i64 v λn=>some (.bool (decide (n≥0)))) P):Gets (EVs (EV cfg) 25 [.sl L,.fn (Fn.func 48) [] [.cptr [.int .i64 kt,.int .i64 nt,.str st,.sl lt] 0]]) P:=
  gE (λ_=>funS rfl rfl Tryz.func25 rfl) (by kernel_rfl) h
theorem quJ(L:Rz)(kt nt:Int)(st:Bz)(lt:Rz){P:AV->Prop}(h:Gets (qg8 L kt nt st lt 0) P):Gets (EVs (EV cfg) 59 [.sl L,.fn (Fn.func 48) [] [.cptr [.int .i64 kt,.int .i64 nt,.str st,.sl lt] 0]]) P:=
  gE (λ_=>funS rfl rfl Tryz.func59 rfl) (by kernel_rfl) h
theorem qos(kk nk:Int)(sk:Bz)(lk:Rz)(kt nt:Int)(st:Bz)(lt:Rz){P:AV->Prop}(h:Gets (kOpt (EVs (EV cfg) 45 [.sl [[AV.int .i64 kk,.int .i64 nk,.str sk,.sl lk]]]) λv=>qr v λb=>bif b then kOpt (EVs (EV cfg) 31 [.agg [.int .i64 kk,.int .i64 nk,.str sk,.sl lk],.agg [.int .i64 kt,.int .i64 nt,.str st,.sl lt]]) λv=>qr v λb=>some (.bool b)else some (.bool false)) P):Gets (EVs (EV cfg) 47 [.agg [.int .i64 kk,.int .i64 nk,.str sk,.sl lk],.cptr [.int .i64 kt,.int .i64 nt,.str st,.sl lt] 0]) P:=
  gE (λ_=>funS rfl rfl Tryz.func47 rfl) (by kernel_rfl) h
theorem qqc(ar:Int)(fs:Rz)(kt nt:Int)(st:Bz)(lt:Rz){P:AV->Prop}(h:Gets (kOpt (EVs (EV cfg) 45 [.sl fs]) λv=>qr v λb=>bif b then kOpt (EVs (EV cfg) 27 [.agg [.int .i64 ar,.sl fs],.agg [.int .i64 kt,.int .i64 nt,.str st,.sl lt]]) λv=>qr v λb=>some (.bool b)else some (.bool false)) P):Gets (EVs (EV cfg) 48 [.agg [.int .i64 ar,.sl fs],.cptr [.int .i64 kt,.int .i64 nt,.str st,.sl lt] 0]) P:=
  gE (λ_=>funS rfl rfl Tryz.func48 rfl) (by kernel_rfl) h
theorem qsV(L M:Rz){P:AV->Prop}(h:Gets (bif(L.length:Int) != (M.length:Int)then some (.bool false)else qet L M 0) P):Gets (EVs (EV cfg) 87 [.sl L,.sl M,.fn (Fn.func 31) [] []]) P:=
  gE (λ_=>funS rfl rfl Tryz.func87 rfl) (by kernel_rfl) h
theorem qhX(L:Rz)(v3:Int){P:AV->Prop}(h:Gets (bif decide (v3<(L.length:Int))then bif qd 0 v3&&qe v3 (L.length:Int)then kOpt (qB0 L (v3.toNat)) λrow=>bif qCh (qB1 row) 4 then bif qB4 4 (qB1 row)then kTmC (qB8 4 row) λn n_1 s rows=>(kOpt (EVs (EV cfg) 15 [.agg [.int .i64 n,.int .i64 n_1,.str s,.sl rows],.int .i64 400]) λv=>qr v λb=>bif b then some (.bool true)else qjq L (qBZ .i64 (v3+1)))else none else none else none else some (.bool false)) P):Gets (qjq L v3) P:=
  gE (λ_=>ql (cfg:=cfg) (f:=5) (rd:=none) (bs:=0)) (by kernel_rfl) h
theorem qfB(L:Rz)(v8:Int){P:AV->Prop}(h:Gets (bif decide (v8<(L.length:Int))then bif qd 0 v8&&qe v8 (L.length:Int)then kOpt (qB0 L (v8.toNat)) λrow=>bif qCh (qB1 row) 4 then bif qB4 4 (qB1 row)then kTmC (qB8 4 row) λn n_1 s rows=>(kOpt (EVs (EV cfg) 81 [.agg [.int .i64 n,.int .i64 n_1,.str s,.sl rows]]) λv=>qr v λb=>bif b then some (.int .i64 v8)else qg9 L (qBZ .i64 (v8+1)))else none else none else none else some (.int .i64 (- 1))) P):Gets (qg9 L v8) P:=
  gE (λ_=>ql (cfg:=cfg) (f:=19) (rd:=none) (bs:=0)) (by kernel_rfl) h
theorem qfd(L:Rz)(kt nt:Int)(st:Bz)(lt:Rz)(v8:Int){P:AV->Prop}(h:Gets (bif decide (v8<(L.length:Int))then bif qd 0 v8&&qe v8 (L.length:Int)then kOpt (qB0 L (v8.toNat)) λrow=>bif qCh (qB1 row) 4 then bif qB4 4 (qB1 row)then kTmC (qB8 4 row) λn n_1 s rows=>(kOpt (EVs (EV cfg) 47 [.agg [.int .i64 n,.int .i64 n_1,.str s,.sl rows],AV.cptr [AV.int .i64 kt,.int .i64 nt,.str st,.sl lt] 0]) λv=>qr v λb=>bif b then some (.int .i64 v8)else qes L kt nt st lt (qBZ .i64 (v8+1)))else none else none else none else some (.int .i64 (- 1))) P):Gets (qes L kt nt st lt v8) P:=
  gE (λ_=>ql (cfg:=cfg) (f:=19) (rd:=none) (bs:=0)) (by kernel_rfl) h
theorem qfA(L:Rz)(kt nt:Int)(st:Bz)(lt:Rz)(v8:Int){P:AV->Prop}(h:Gets (bif decide (v8<(L.length:Int))then bif qd 0 v8&&qe v8 (L.length:Int)then kOpt (qB0 L (v8.toNat)) λrow=>bif qCh (qB1 row) 2 then bif qB4 2 (qB1 row)then qf (qB8 2 row) λc cs=>kInt .i64 c λn=>qf cs λc cs=>kSl c λrows=>kNil cs (kOpt (EVs (EV cfg) 48 [.agg [.int .i64 n,.sl rows],AV.cptr [AV.int .i64 kt,.int .i64 nt,.str st,.sl lt] 0]) λv=>qr v λb=>bif b then some (.int .i64 v8)else qg8 L kt nt st lt (qBZ .i64 (v8+1)))else none else none else none else some (.int .i64 (- 1:Int))) P):Gets (qg8 L kt nt st lt v8) P:=
  gE (λ_=>ql (cfg:=cfg) (f:=59) (rd:=none) (bs:=0)) (by kernel_rfl) h
theorem qfe(L M:Rz)(v17:Int){P:AV->Prop}(h:Gets (bif decide (v17<(L.length:Int))then bif qd 0 v17&&qe v17 (L.length:Int)then kOpt (qB0 L (v17.toNat)) λrow=>bif qCh (qB1 row) 4 then bif qB4 4 (qB1 row)then kTmC (qB8 4 row) λn n_1 s rows=>(bif qd 0 v17&&qe v17 (M.length:Int)then kOpt (qB0 M (v17.toNat)) λrow=>bif qCh (qB1 row) 4 then bif qB4 4 (qB1 row)then kTmC (qB8 4 row) λn_2 n_3 s_1 rows_1=>(kOpt (EVs (EV cfg) 31 [.agg [.int .i64 n,.int .i64 n_1,.str s,.sl rows],.agg [.int .i64 n_2,.int .i64 n_3,.str s_1,.sl rows_1]]) λv=>qr v λb=>bif ! b then some (.bool false)else qet L M (qBZ .i64 (v17+1)))else none else none else none)else none else none else none else some (.bool true)) P):Gets (qet L M v17) P:=
  gE (λ_=>ql (cfg:=cfg) (f:=87) (rd:=none) (bs:=0)) (by kernel_rfl) h
def qvz:Den:=evC cfg (EV cfg) 31 none 0 (sub (qc Tryz.f31) [1,0,1,1,0,0,0])
def qvG:Ex×List AV×AH->Option AV:=kAft (Cfg.keepOut cfg 31 2) (kRun cfg (EV cfg) (kfN cfg 6) 31 none 0 (xS cfg (Cfg.lift cfg 31 0) Tryz.f31.results.toList) ([.block 0,.seq (sub (qc Tryz.f31) [1,0,1,1,1]),.scope]))
def qAm:List AV×AH->Option AV:=λp=>kOpt (LOOP 0 (some [5]) ([(5,8)]) qvz p) qvG
def qAL:Den:=evC cfg (EV cfg) 31 none 0 (sub (qc Tryz.f31) [1,0,1,1,0,0,0,1,0,1,1,1,1,1,0,0])
def qBk:Ex×List AV×AH->Option AV:=kAft (Cfg.keepOut cfg 31 9) (kRun cfg (EV cfg) (kfN cfg 6) 31 none 0 (kLp 0 (some [5]) ([(5,8)]) qvz qvG) ([.block 2,.block 1]))
def qAl:List AV×AH->Option AV:=λp=>kOpt (LOOP 0 (some [5,6,70,71]) ([(5,8)]) qAL p) qBk
abbrev qdT(nv5:Nat)(h0:Rz):Option (AV):=qAm (((fx 91 [(5,.ms 0 0 nv5)]):List AV),([.rows true 8 h0]:AH))
abbrev qjt(rows:Rz)(nv5:Nat)(v71:Int)(h0:Rz)(c1_0 c1_1:Int)(c1_2:Bz)(c1_3:Rz)(c1_4 c1_5:Int)(c1_6:Bz)(c1_7:Rz):Option (AV):=qAl (((fx 91 [(5,.ms 0 0 nv5),(6,.ptr 1 0 0),(70,.int .i64 (rows.length:Int)),(71,.int .i64 v71)]):List AV),([.rows true 8 h0,.rows false 8 [[.int .i64 c1_0,.int .i64 c1_1,.str c1_2,.sl c1_3,.int .i64 c1_4,.int .i64 c1_5,.str c1_6,.sl c1_7]]]:AH))
theorem qmY(ka na:Int)(sa:Bz)(la:Rz)(kb nb:Int)(sb:Bz)(lb:Rz){P:AV->Prop}(h:Gets (qdT 1 [[.int .i64 ka,.int .i64 na,.str sa,.sl la,.int .i64 kb,.int .i64 nb,.str sb,.sl lb]]) P):Gets (EVs (EV cfg) 31 [.agg [.int .i64 ka,.int .i64 na,.str sa,.sl la],.agg [.int .i64 kb,.int .i64 nb,.str sb,.sl lb]]) P:=
  gE (λ_=>funS rfl rfl Tryz.func31 rfl) (by kernel_rfl) h
theorem qdy(nv5:Nat)(h0:Rz){P:AV->Prop}(h:Gets (bif decide ((↑ nv5:Int)>0)then bif qd 0 (qBZ .i64 ((↑ nv5:Int) - 1))&&qe (qBZ .i64 ((↑ nv5:Int) - 1)) (↑ nv5:Int)then kOpt (qB0 h0 (0+qB7 (qBZ .i64 ((↑ nv5:Int) - 1)))) λrow=>bif qB4 8 (qB1 row)then qf (qB8 8 row) λc cs=>kInt .i64 c λn=>qf cs λc cs=>kInt .i64 c λn_1=>qf cs λc cs=>kStr c λs=>qf cs λc cs=>kSl c λrows=>kTmC cs λn_2 n_3 s_1 rows_1=>(bif qd 0 (qBZ .i64 ((↑ nv5:Int) - 1))&&qd (qBZ .i64 ((↑ nv5:Int) - 1)) (↑ nv5:Int)then bif n != n_2 then some (.bool false)else bif n_1 != n_3 then some (.bool false)else bif ! s==s_1 then some (.bool false)else bif(rows.length:Int) != (rows_1.length:Int)then some (.bool false)else bif(↑ (qB1 rows):Int)==0 then qdT (qB7 (qBZ .i64 ((↑ nv5:Int) - 1)) - 0) h0 else qjt rows (qB7 (qBZ .i64 ((↑ nv5:Int) - 1)) - 0) (0:Int) h0 n n_1 s rows n_2 n_3 s_1 rows_1 else none)else none else none else some (.bool true)) P):Gets (qdT nv5 h0) P:=
  gE (λ_=>ql (cfg:=cfg) (f:=31) (rd:=none) (bs:=0)) (by kernel_rfl) h
theorem qh0(rows:Rz)(nv5:Nat)(v71:Int)(h0:Rz)(c1_0 c1_1:Int)(c1_2:Bz)(c1_3:Rz)(c1_4 c1_5:Int)(c1_6:Bz)(c1_7:Rz){P:AV->Prop}(h:Gets (bif decide (v71<(rows.length:Int))then bif qd 0 v71&&qe v71 (c1_3.length:Int)then kOpt (qB0 c1_3 (v71.toNat)) λrow=>bif qCh (qB1 row) 4 then bif qB4 4 (qB1 row)then kTmC (qB8 4 row) λn n_1 s rows_1=>(bif qd (0:Int) v71&&qe v71 (c1_7.length:Int)then kOpt (qB0 c1_7 (v71.toNat)) λrow=>bif qCh (qB1 row) 4 then bif qB4 4 (qB1 row)then kTmC (qB8 4 row) λn_2 n_3 s_1 rows_2=>(bif qB4 (0+nv5) (qB1 h0)&&qW (nv5+1) 112 then qjt rows (nv5+1) (qBZ .i64 (v71+1)) (qCu (qB8 nv5 h0) [[.int .i64 n,.int .i64 n_1,.str s,.sl rows_1,.int .i64 n_2,.int .i64 n_3,.str s_1,.sl rows_2]]) c1_0 c1_1 c1_2 c1_3 c1_4 c1_5 c1_6 c1_7 else none)else none else none else none)else none else none else none else qdT nv5 h0) P):Gets (qjt rows nv5 v71 h0 c1_0 c1_1 c1_2 c1_3 c1_4 c1_5 c1_6 c1_7) P:=
  gE (λ_=>ql (cfg:=cfg) (f:=31) (rd:=none) (bs:=0)) (by kernel_rfl) h
end Go.Proofs.YtgleolmhpmljhaaGreat
end
noncomputable section
namespace Go.Av
def xw(R:List (Tm×Tm)):List (List AV):=R.map λp=>p.1.cells++p.2.cells
theorem qcf(R:List (Tm×Tm)):(xw R).length=R.length:=by simp[xw]
theorem qfu(R S:List (Tm×Tm)):xw (R++S)=xw R++xw S:=by simp[xw]
theorem qr8(R:List (Tm×Tm))(i:Nat):(xw R)[i]? =(R[i]?).map λp=>p.1.cells++p.2.cells:=by simp[xw]
theorem qtm:∀(a b:List Tm),a.length=b.length->((∀p∈a.zip b,p.1=p.2)↔a=b)
 |[],[],_=>by simp
 |x::a,y::b,h=>by
  have:=qtm a b (by simpa using h);simp only[List.zip_cons_cons,qCB,forall_eq_or_imp,List.cons.injEq,this]
 |[],_::_,h=>by simp at h
 |_::_,[],h=>by simp at h
end Go.Av
namespace Go.Proofs.YtgleolmhpmljhaaGreat
open Go.Av
theorem qyh{n:Nat}(h:n<=1099511627776):qW n 112=true:=by
 unfold qW;rw[qB2,qCz,qCz];omega
theorem qmv{x y:Tm}(hxy:x.subs.length=y.subs.length)(hx:x.subs.length<1099511627776){P:AV->Prop}:∀(d i:Nat) (R:List (Tm×Tm)) (Z:List (List AV)),i+d=x.subs.length->R.length+d<1099511627776->(d=0->Z=[]) ->
  Gets (qdT (R++(x.subs.zip y.subs).drop i).length (xw (R++(x.subs.zip y.subs).drop i))) P ->
  Gets (qjt (qa x.subs) R.length i (xw R++Z) x.kind x.num x.str (qa x.subs) y.kind y.num y.str (qa y.subs)) P
 |0,i,R,Z,hi,_,hz,h=>by
  refine qh0 _ _ _ _ _ _ _ _ _ _ _ _ ?_;obtain rfl:=hz rfl;rw[qCs (by simp;omega)]at h;simp at h;have:¬i<x.subs.length:=by omega
  simpa [this]using h
 |d+1,i,R,Z,hi,hR,_,h=>by
  refine qh0 _ _ _ _ _ _ _ _ _ _ _ _ ?_;have h1:i<x.subs.length:=by omega
  have h2:i<y.subs.length:=by omega
  have hzl:i<(x.subs.zip y.subs).length:=by simp;omega
  have hd:(x.subs.zip y.subs).drop i=(x.subs[i],y.subs[i])::(x.subs.zip y.subs).drop (i+1):=by
   rw[qCp hzl,List.getElem_zip]
  have ih:=qmv hxy hx (P:=P) d (i+1) (R++[(x.subs[i],y.subs[i])]) [] (by omega) (by simp;omega) (λ_=>rfl) (by
   rw[hd]at h
   simpa using h)
  have ht:qB8 R.length (xw R++Z)=xw R:=by rw[List.take_append_of_le_length (by rw[qcf];exact qCa _),qCd (by rw[qcf];exact qCa _)]
  have hp:xw (R++[(x.subs[i],y.subs[i])])=xw R++[x.subs[i].cells++y.subs[i].cells]:=by rw[qfu];rfl
  have hw:=qtv h1 hx;rw[List.append_nil,hp]at ih;simp[h1,h2,hw,qyh (show R.length+1<=1099511627776 by omega),ht,qcf]at ih⊢;rw[Tm.cells_eq x.subs[i]]at ih;exact ih
theorem qzQ:∀(n:Nat) (R:List (Tm×Tm)) (Z:List (List AV)),wL (R.map Prod.fst)<=n->n<1099511627776 ->
  Gets (qdT R.length (xw R++Z)) (qnB (∀p∈R,p.1=p.2)):=by
 intro n
 induction n with
 |zero=>
  intro R Z hn _;have:R=[]:=by
   have:=qaS (R.map Prod.fst);exact List.length_eq_zero_iff.1 (by simp at this;omega)
  subst this;refine qdy _ _ ?_;simp[qeF]
 |succ n ih=>
  intro R Z hn hN;rcases List.eq_nil_or_concat R with rfl|⟨R0,p,rfl⟩
  ·refine qdy _ _ ?_;simp[qeF]
  ·rw[List.concat_eq_append]at *;obtain⟨x,y⟩:=p;have hwx:=x.w_eq;simp only[List.map_append,List.map_cons,List.map_nil,xF,qY,xg]at hn;have hl0:=qaS (R0.map Prod.fst);rw[qCH]at hl0;have hls:=qaS x.subs;refine qdy _ _ ?_;have e1:(R0++[(x,y)]).length=R0.length+1:=by simp
   have hw1:qBZ .i64 (R0.length:Int)=R0.length:=qxx (by omega);have g:(xw (R0++[(x,y)])++Z)[R0.length]? =some (.int .i64 x.kind:: .int .i64 x.num:: .str x.str:: .sl (qa x.subs)::y.cells):=by
    rw[qCf (by rw[qcf];simp),qr8];simp;rw[Tm.cells_eq x];rfl
   have e3:xw (R0++[(x,y)])++Z=xw R0++((x.cells++y.cells)::Z):=by rw[qfu,List.append_assoc];rfl
   have hq:(∀p∈R0++[(x,y)],p.1=p.2)↔((∀p∈R0,p.1=p.2)∧x=y):=by simp[or_imp,forall_and]
   have hxy:x=y↔(x.kind=y.kind∧x.num=y.num∧x.str=y.str∧x.subs=y.subs):=by
    constructor
    ·rintro rfl;exact⟨rfl,rfl,rfl,rfl⟩
    ·rintro⟨h1,h2,h3,h4⟩;rw[←Tm.eta x,←Tm.eta y,h1,h2,h3,h4]
   rw[propext hq];have hno:¬(x.kind=y.kind∧x.num=y.num∧x.str=y.str∧x.subs=y.subs)->qnB ((∀p∈R0,p.1=p.2)∧x=y) (.bool false):=λh=>qeF.2 ⟨λe=>(by cases e),λh'=>absurd (hxy.1 h'.2) h⟩
   simp only[e3]at g⊢;simp[e1,hw1,g]
   by_cases h1:x.kind=y.kind
   ·by_cases h2:x.num=y.num
    ·by_cases h3:x.str=y.str
     ·by_cases h4:x.subs.length=y.subs.length
      ·have hsub:(∀p∈x.subs.zip y.subs,p.1=p.2)↔x=y:=by
        rw[qtm _ _ h4,hxy];simp[h1,h2,h3]
       have c1:(x.kind != y.kind)=false:=by simp[h1]
       have c2:(x.num != y.num)=false:=by simp[h2]
       have c3:(x.str==y.str)=true:=by simp[h3]
       have c4:((x.subs.length:Int) != (y.subs.length:Int))=false:=by simp[h4]
       have eall:(∀(a b:Tm),(a,b)∈R0->a=b)↔(∀p∈R0,p.1=p.2):=⟨λh p hp=>h p.1 p.2 hp,λh a b hp=>h (a,b) hp⟩;rw[c1,c2,c3,c4];simp only[cond_false,cond_true];rcases Nat.eq_zero_or_pos x.subs.length with hz|hp
       ·have hr:=ih R0 ((x.cells++y.cells)::Z) (by omega) (by omega);have hx0:x.subs=[]:=List.length_eq_zero_iff.1 hz;have hxy':x=y:=hsub.1 (by rw[hx0];simp);have c5:((x.subs.length:Int)==0)=true:=by simp[hz]
        rw[c5,propext (show((∀(a b:Tm),(a,b)∈R0->a=b)∧x=y)↔(∀p∈R0,p.1=p.2)from⟨λh=>eall.1 h.1,λh=>⟨eall.2 h,hxy'⟩⟩)];exact hr
       ·have c5:((x.subs.length:Int)==0)=false:=by rw[beqD];exact qCL (by omega)
        rw[c5];simp only[cond_false];have hm:(R0++x.subs.zip y.subs).map Prod.fst=R0.map Prod.fst++x.subs:=by rw[List.map_append,List.map_fst_zip (by omega)]
        have hr:=ih (R0++x.subs.zip y.subs) [] (by rw[hm,xF];omega) (by omega);rw[List.append_nil]at hr;have hP:(∀p∈R0++x.subs.zip y.subs,p.1=p.2)↔((∀(a b:Tm),(a,b)∈R0->a=b)∧x=y):=by
         rw[←hsub,eall];simp only[qCy,or_imp,forall_and]
        rw[propext hP]at hr;exact qmv h4 (by omega) x.subs.length 0 R0 _ (by omega) (by omega) (λh=>by omega) (by rw[List.drop_zero];exact hr)
      ·have h4':¬((x.subs.length:Int)=(y.subs.length:Int)):=by omega
       simp[h1,h2,h3,h4',bneD]
       simpa using hno λh=>h4 (by rw[h.2.2.2])
     ·have h3':(x.str==y.str)=false:=by simpa using h3
      simp[h1,h2,h3',bneD]
      simpa using hno λh=>h3 h.2.2.1
    ·simp[h1,h2,bneD]
     simpa using hno λh=>h2 h.2.1
   ·simp[h1,bneD]
    simpa using hno λh=>h1 h.1
theorem qxX{a:Tm}(h:a.w<1099511627776)(b:Tm):Gets (EVs (EV cfg) 31 [a.av,b.av]) (qnB (a=b)):=by
 have:=qzQ _ [(a,b)] [] (qCa _) (by simpa using h);rw[List.append_nil]at this;rw[Tm.av,Tm.av,Tm.cells_eq a,Tm.cells_eq b];refine qmY _ _ _ _ _ _ _ _ ?_;have e:xw [(a,b)]=[[AV.int .i64 a.kind,.int .i64 a.num,.str a.str,.sl (qa a.subs),.int .i64 b.kind,.int .i64 b.num,.str b.str,.sl (qa b.subs)]]:=by
  simp only[xw,List.map_cons,List.map_nil,Tm.cells_eq];rfl
 have e2:(∀p∈[(a,b)],p.1=p.2)↔a=b:=by simp
 rw[e,propext e2]at this;exact this
def qAW:Den:=evC cfg (EV cfg) 153 none 1 (sub (qc Tryz.f153) [1,0,1,0,1,1,1,0,1,0,1,0,0])
def qBv:Ex×List AV×AH->Option (MV×List (List AV)):=kAft (Cfg.keepOut cfg 153 (qh (sub (qc Tryz.f153) [1,0,1,0,1,1,1,0,1,0,1,0,0]))) (qO 2 (kSeq (fun(fr:List AV) (H:AH)=>qL (Cfg.cut cfg 153 (qh (sub (qc Tryz.f153) [1,0,1,0,1,1,1,0,1,1]))) fr H fun(fr:List AV) (H:AH)=>qG cfg (EV cfg) (kfN cfg 6) 153 none 1 (sub (qc Tryz.f153) [1,0,1,0,1,1,1,0,1,1]) fr H (qO 0 (kSeq (fun(fr:List AV) (H:AH)=>qL (Cfg.cut cfg 153 (qh (sub (qc Tryz.f153) [1,1]))) fr H fun(fr:List AV) (H:AH)=>qG cfg (EV cfg) (kfN cfg 6) 153 none 1 (sub (qc Tryz.f153) [1,1]) fr H (vI cfg 402 (Cfg.lift cfg 153 0) (qCl (Func.results Tryz.f153)))) (vI cfg 402 (Cfg.lift cfg 153 0) (qCl (Func.results Tryz.f153)))))) (qO 0 (kSeq (fun(fr:List AV) (H:AH)=>qL (Cfg.cut cfg 153 (qh (sub (qc Tryz.f153) [1,1]))) fr H fun(fr:List AV) (H:AH)=>qG cfg (EV cfg) (kfN cfg 6) 153 none 1 (sub (qc Tryz.f153) [1,1]) fr H (vI cfg 402 (Cfg.lift cfg 153 0) (qCl (Func.results Tryz.f153)))) (vI cfg 402 (Cfg.lift cfg 153 0) (qCl (Func.results Tryz.f153)))))))
def qvt:List AV×AH->Option (MV×List (List AV)):=fun(p:List AV×AH)=>kOpt (LOOP 1 (some [0,4,5,70,71]) [] qAW p) qBv
def qAV:Den:=evC cfg (EV cfg) 154 none 1 (sub (qc Tryz.f154) [1,1,0,1,0,0])
def qBu:Ex×List AV×AH->Option (AV×List (List AV)):=kAft (Cfg.keepOut cfg 154 (qh (sub (qc Tryz.f154) [1,1,0,1,0,0]))) (qO 0 (kSeq (fun(fr:List AV) (H:AH)=>qL (Cfg.cut cfg 154 (qh (sub (qc Tryz.f154) [1,1,1]))) fr H fun(fr:List AV) (H:AH)=>qG cfg (EV cfg) (kfN cfg 6) 154 none 1 (sub (qc Tryz.f154) [1,1,1]) fr H (yh cfg 402 (Cfg.lift cfg 154 0) (qCl (Func.results Tryz.f154)))) (yh cfg 402 (Cfg.lift cfg 154 0) (qCl (Func.results Tryz.f154)))))
def qAu:List AV×AH->Option (AV×List (List AV)):=fun(p:List AV×AH)=>kOpt (LOOP 1 (some [0,3,5]) [(3,5)] qAV p) qBu
abbrev qfL(lp:Rz)(v71:Int)(c0r0:List AV)(c1_0 c1_1:Int)(c1_2:Bz)(c1_3:Rz)(c2_0 c2_1:Int)(c2_2:Bz)(c2_3:Rz):Option (MV×List (List AV)):=qvt (((fx 91 [(0,.ptr 0 0 0),(4,.ptr 1 0 0),(5,.ptr 2 0 0),(70,.int .i64 (lp.length:Int)),(71,.int .i64 v71)]):List AV),([.rows true 402 [c0r0],.rows false 4 [[.int .i64 c1_0,.int .i64 c1_1,.str c1_2,.sl c1_3]],.rows false 4 [[.int .i64 c2_0,.int .i64 c2_1,.str c2_2,.sl c2_3]]]:AH))
abbrev qfJ(nv3:Nat)(v5:Int)(c0r0:List AV)(h1:Rz):Option (AV×List (List AV)):=qAu (((fx 27 [(0,.ptr 0 0 0),(3,.ms 1 0 nv3),(5,.int .i64 v5)]):List AV),([.rows true 402 [c0r0],.rows true 5 h1]:AH))
abbrev qhe(lp:Rz)(q:MV×List (List AV))(v71 c1_0 c1_1:Int)(c1_2:Bz)(c1_3:Rz)(c2_0 c2_1:Int)(c2_2:Bz)(c2_3:Rz):Option (MV×List (List AV)):=qvt (((fx 91 [(0,.ptr 0 0 0),(4,.ptr 1 0 0),(5,.ptr 2 0 0),(70,.int .i64 (lp.length:Int)),(71,.int .i64 v71)]):List AV),([.rows true 402 q.2,.rows false 4 [[.int .i64 c1_0,.int .i64 c1_1,.str c1_2,.sl c1_3]],.rows false 4 [[.int .i64 c2_0,.int .i64 c2_1,.str c2_2,.sl c2_3]]]:AH))
theorem qtc(kp np:Int)(sp:Bz)(lp:Rz)(kt nt:Int)(st:Bz)(lt:Rz)(r:List AV){P:MV×List (List AV)->Prop}(h:Gets (bif kp==2 then bif sp==[(95:UInt8)]then some (MV.bool true,[r])else kOpt (EVs (EV cfg) 55 [.str sp]) λv=>kTup v λcs=>qf cs λc cs=>kInt .i64 c λn=>qf cs λc cs=>qr c λb=>kNil cs (bif ! b then kOpt (EVs (EV cfg) 31 [.agg [.int .i64 kp,.int .i64 np,.str sp,.sl lp],.agg [.int .i64 kt,.int .i64 nt,.str st,.sl lt]]) λv=>qr v λb=>some (MV.bool b,[r])else bif qw 0 r then bif qw 0 [AV.cptr r 0,.int .i64 n]then kOpt (EVs (EV cfg) 144 [AV.cptr r 0,.int .i64 n]) λv=>qr v λb=>bif b then bif qd 0 n&&qe n 100 then bif qB4 (2+qB7 n*4+4) (qB1 r)then qf (qB8 4 (qCk (2+qB7 n*4) r)) λc cs=>kInt .i64 c λn=>qf cs λc cs=>kInt .i64 c λn_1=>qf cs λc cs=>kStr c λs=>qf cs λc cs=>kSl c λrows=>kNil cs (kOpt (EVs (EV cfg) 31 [.agg [.int .i64 n,.int .i64 n_1,.str s,.sl rows],.agg [.int .i64 kt,.int .i64 nt,.str st,.sl lt]]) λv=>qr v λb=>some (MV.bool b,[r]))else none else none else kOpt (EVm (EV cfg) 143 [.ptr 0 0 0,.int .i64 n] 402 [r]) λq=>qx q.1 (bif qd 0 n&&qe n 100 then kOpt (qB0 q.2 0) λrow=>bif qB4 (2+qB7 n*4+4) (qB1 row)then some (MV.bool true,qCA q.2 0 (qCu (qCu (qB8 (2+qB7 n*4) row) [AV.int .i64 kt,.int .i64 nt,.str st,.sl lt]) (qCk (2+qB7 n*4+4) row)))else none else none)else none else none)else bif kp==7 then bif kt != kp then some (MV.bool false,[r])else bif(lt.length:Int) != (lp.length:Int)then some (MV.bool false,[r])else qfL lp 0 r kp np sp lp kt nt st lt else bif kp==9 then bif kt != kp then some (MV.bool false,[r])else bif(lt.length:Int) != (↑ (qB1 lp):Int)then some (MV.bool false,[r])else qfL lp 0 r kp np sp lp kt nt st lt else kOpt (EVs (EV cfg) 31 [.agg [.int .i64 kp,.int .i64 np,.str sp,.sl lp],.agg [.int .i64 kt,.int .i64 nt,.str st,.sl lt]]) λv=>qr v λb=>some (MV.bool b,[r])) P):Gets (EVm (EV cfg) 153 [.ptr 0 0 0,.agg [.int .i64 kp,.int .i64 np,.str sp,.sl lp],.agg [.int .i64 kt,.int .i64 nt,.str st,.sl lt]] 402 [r]) P:=
  gE (λ_=>funM rfl rfl Tryz.func153 rfl) (by kernel_rfl) h
theorem qs9(r:List AV){P:AV×List (List AV)->Prop}(h:Gets (qfJ 0 0 r []) P):Gets (EVd (EV cfg) 154 [.ptr 0 0 0] 402 [r]) P:=
  gE (λ_=>funD rfl rfl Tryz.func154 rfl) (by kernel_rfl) h
theorem qh8(lp:Rz)(v71:Int)(c0r0:List AV)(c1_0 c1_1:Int)(c1_2:Bz)(c1_3:Rz)(c2_0 c2_1:Int)(c2_2:Bz)(c2_3:Rz){P:MV×List (List AV)->Prop}(h:Gets (bif decide (v71<(lp.length:Int))then bif qd 0 v71&&qe v71 (c1_3.length:Int)then kOpt (qB0 c1_3 (v71.toNat)) λrow=>bif qCh (qB1 row) 4 then bif qB4 4 (qB1 row)then kTmC (qB8 4 row) λn n_1 s rows=>(bif qd (0:Int) v71&&qe v71 (c2_3.length:Int)then kOpt (qB0 c2_3 (v71.toNat)) λrow=>bif qCh (qB1 row) 4 then bif qB4 4 (qB1 row)then kTmC (qB8 4 row) λn_2 n_3 s_1 rows_1=>(kOpt (EVm (EV cfg) 153 [.ptr 0 0 0,.agg [.int .i64 n,.int .i64 n_1,.str s,.sl rows],.agg [.int .i64 n_2,.int .i64 n_3,.str s_1,.sl rows_1]] 402 [c0r0]) λq=>xA q.1 λb=>bif ! b then some (MV.bool false,q.2)else qhe lp q (qBZ .i64 (v71+1)) c1_0 c1_1 c1_2 c1_3 c2_0 c2_1 c2_2 c2_3)else none else none else none)else none else none else none else some (MV.bool true,[c0r0])) P):Gets (qfL lp v71 c0r0 c1_0 c1_1 c1_2 c1_3 c2_0 c2_1 c2_2 c2_3) P:=
  gE (λ_=>ql (cfg:=cfg) (f:=153) (rd:=none) (bs:=1)) (by kernel_rfl) h
theorem qh7(nv3:Nat)(v5:Int)(c0r0:List AV)(h1:Rz){P:AV×List (List AV)->Prop}(h:Gets (bif decide (v5<100)then bif qw 0 c0r0 then bif qw 0 [AV.cptr c0r0 0,.int .i64 v5]then kOpt (EVs (EV cfg) 144 [AV.cptr c0r0 0,.int .i64 v5]) λv=>qr v λb=>bif b then bif qd 0 v5&&qe v5 100 then bif qB4 (2+qB7 v5*4+4) (qB1 c0r0)then qf (qB8 4 (qCk (2+qB7 v5*4) c0r0)) λc cs=>kInt .i64 c λn=>qf cs λc cs=>kInt .i64 c λn_1=>qf cs λc cs=>kStr c λs=>qf cs λc cs=>kSl c λrows=>kNil cs (kOpt (EVf (EV cfg) 51 [.agg [.int .i64 n,.int .i64 n_1,.str s,.sl rows]]) λv=>kTmV v λn n_2 s rows=>(bif qB4 (0+nv3) (qB1 h1)&&qW (nv3+1) 64 then qfJ (nv3+1) (qBZ .i64 (v5+1)) c0r0 (qCu (qB8 nv3 h1) [[AV.int .i64 v5,.int .i64 n,.int .i64 n_2,.str s,.sl rows]])else none))else none else none else qfJ nv3 (qBZ .i64 (v5+1)) c0r0 h1 else none else none else bif qB4 (0+nv3) (qB1 h1)&&true then some (.sl (qB8 nv3 h1),[c0r0])else none) P):Gets (qfJ nv3 v5 c0r0 h1) P:=
  gE (λ_=>ql (cfg:=cfg) (f:=154) (rd:=none) (bs:=1)) (by kernel_rfl) h
theorem qfK(lp:Rz)(q:MV×List (List AV))(v71 c1_0 c1_1:Int)(c1_2:Bz)(c1_3:Rz)(c2_0 c2_1:Int)(c2_2:Bz)(c2_3:Rz){P:MV×List (List AV)->Prop}(h:Gets (bif decide (v71<(lp.length:Int))then bif qd 0 v71&&qe v71 (c1_3.length:Int)then kOpt (qB0 c1_3 (v71.toNat)) λrow=>bif qCh (qB1 row) 4 then bif qB4 4 (qB1 row)then kTmC (qB8 4 row) λn n_1 s rows=>(bif qd (0:Int) v71&&qe v71 (c2_3.length:Int)then kOpt (qB0 c2_3 (v71.toNat)) λrow=>bif qCh (qB1 row) 4 then bif qB4 4 (qB1 row)then kTmC (qB8 4 row) λn_2 n_3 s_1 rows_1=>(kOpt (EVm (EV cfg) 153 [.ptr 0 0 0,.agg [.int .i64 n,.int .i64 n_1,.str s,.sl rows],.agg [.int .i64 n_2,.int .i64 n_3,.str s_1,.sl rows_1]] 402 q.2) λq=>xA q.1 λb=>bif ! b then some (MV.bool false,q.2)else qhe lp q (qBZ .i64 (v71+1)) c1_0 c1_1 c1_2 c1_3 c2_0 c2_1 c2_2 c2_3)else none else none else none)else none else none else none else some (MV.bool true,q.2)) P):Gets (qhe lp q v71 c1_0 c1_1 c1_2 c1_3 c2_0 c2_1 c2_2 c2_3) P:=
  gE (λ_=>ql (cfg:=cfg) (f:=153) (rd:=none) (bs:=1)) (by kernel_rfl) h
def qAU:Den:=evC cfg (EV cfg) 152 none 2 (sub (qc Tryz.f152) [1,1,1,0,1,0,0])
def qBt(kp:Int)(np:Int)(sp:Bz)(lp:Rz)(kt:Int)(nt:Int)(st:Bz)(lt:Rz)(B:Rz):Ex×List AV×AH→Option AV:=kAft (Cfg.keepOut cfg 152 (qh (sub (qc Tryz.f152) [1,1,1,0,1,0,0]))) (qO 0 (kSeq (fun(fr:List AV) (H:AH)=>qL (Cfg.cut cfg 152 (qh (sub (qc Tryz.f152) [1,1,1,1]))) fr H fun(fr:List AV) (H:AH)=>qG cfg (EV cfg) (kfN cfg (5)) 152 none 2 (sub (qc Tryz.f152) [1,1,1,1]) fr H (vT cfg (Cfg.lift cfg 152 0) (fun(v:AV) (H:AH)=>(fun(r:AV×AH)=>kOpt (xB none 2 (Prod.fst r) (Prod.snd r)) fun(r:AV×AH)=>kTy noTy cfg (Oper.type { dst:=some 10,op:=Op.call { callee:=Callee.value (Operand.func 152),args:= #[Operand.tmp 9],argTypes:= #[123] },type:=163,pos:= "pattern.go:179",after:= #[{ on:=0,ground:=Ground.data }],guard:=none }) (Prod.fst r) fun(v:AV)=>(fun(v:AV) (H':AH)=>kOps cfg (EV cfg) (kfN cfg 6) 138 1 (y3 (sub (qc Tryz.f138) [1,0])) (0+1+1) (qCk 2 (qCl (y3 (sub (qc Tryz.f138) [1,0])))) (put (fx 32 [(0,AV.agg [AV.int IntKind.i64 kp,AV.int IntKind.i64 np,AV.str sp,AV.sl lp]),(1,AV.agg [AV.int IntKind.i64 kt,AV.int IntKind.i64 nt,AV.str st,AV.sl lt]),(2,AV.sl B),(3,AV.ptr 0 0 0),(4,AV.ptr 1 0 0),(6,AV.nilS),(7,AV.bool false),(9,AV.sl B)]) (some 10) v) H' fun(fr':List AV) (H':AH)=>kSeq (fun(fr:List AV) (H:AH)=>qL (Cfg.cut cfg 138 (qh (sub (qc Tryz.f138) [1,1]))) fr H fun(fr:List AV) (H:AH)=>qG cfg (EV cfg) (kfN cfg 6) 138 none 0 (sub (qc Tryz.f138) [1,1]) fr H (vL cfg (Cfg.lift cfg 138 0) (qCl (Func.results Tryz.f138)))) (vL cfg (Cfg.lift cfg 138 0) (qCl (Func.results Tryz.f138))) Ex.normal fr' H') v (Prod.snd r)) (v,H)) (qCl (Func.results (Prod.snd (152,Tryz.f152)))))) (vT cfg (Cfg.lift cfg 152 0) (fun(v:AV) (H:AH)=>(fun(r:AV×AH)=>kOpt (xB none 2 (Prod.fst r) (Prod.snd r)) fun(r:AV×AH)=>kTy noTy cfg (Oper.type { dst:=some 10,op:=Op.call { callee:=Callee.value (Operand.func 152),args:= #[Operand.tmp 9],argTypes:= #[123] },type:=163,pos:= "pattern.go:179",after:= #[{ on:=0,ground:=Ground.data }],guard:=none }) (Prod.fst r) fun(v:AV)=>(fun(v:AV) (H':AH)=>kOps cfg (EV cfg) (kfN cfg 6) 138 1 (y3 (sub (qc Tryz.f138) [1,0])) (0+1+1) (qCk 2 (qCl (y3 (sub (qc Tryz.f138) [1,0])))) (put (fx 32 [(0,AV.agg [AV.int IntKind.i64 kp,AV.int IntKind.i64 np,AV.str sp,AV.sl lp]),(1,AV.agg [AV.int IntKind.i64 kt,AV.int IntKind.i64 nt,AV.str st,AV.sl lt]),(2,AV.sl B),(3,AV.ptr 0 0 0),(4,AV.ptr 1 0 0),(6,AV.nilS),(7,AV.bool false),(9,AV.sl B)]) (some 10) v) H' fun(fr':List AV) (H':AH)=>kSeq (fun(fr:List AV) (H:AH)=>qL (Cfg.cut cfg 138 (qh (sub (qc Tryz.f138) [1,1]))) fr H fun(fr:List AV) (H:AH)=>qG cfg (EV cfg) (kfN cfg 6) 138 none 0 (sub (qc Tryz.f138) [1,1]) fr H (vL cfg (Cfg.lift cfg 138 0) (qCl (Func.results Tryz.f138)))) (vL cfg (Cfg.lift cfg 138 0) (qCl (Func.results Tryz.f138))) Ex.normal fr' H') v (Prod.snd r)) (v,H)) (qCl (Func.results (Prod.snd (152,Tryz.f152)))))))
def qvs(kp:Int)(np:Int)(sp:Bz)(lp:Rz)(kt:Int)(nt:Int)(st:Bz)(lt:Rz)(B:Rz):List AV×AH->Option AV:=fun(p:List AV×AH)=>kOpt (LOOP 2 (some [3,4,9,10,11]) [] qAU p) (qBt kp np sp lp kt nt st lt B)
abbrev qtx(kp np:Int)(sp:Bz)(lp:Rz)(kt nt:Int)(st:Bz)(lt B:Rz)(v4 v11 c0_0 c0_1:Int)(c0_2:Bz)(c0_3:Rz)(c1_0 c1_1:Int)(c1_2:Bz)(c1_3:Rz)(c2r0:List AV):Option (AV):=qvs (kp) (np) (sp) (lp) (kt) (nt) (st) (lt) (B) (((fx 48 [(3,.ptr 2 0 0),(4,.int .i64 v4),(9,.sl B),(10,.int .i64 (B.length:Int)),(11,.int .i64 v11)]):List AV),([.rows false 4 [[.int .i64 c0_0,.int .i64 c0_1,.str c0_2,.sl c0_3]],.rows false 4 [[.int .i64 c1_0,.int .i64 c1_1,.str c1_2,.sl c1_3]],.rows true 402 [c2r0]]:AH))
abbrev qxQ(kp np:Int)(sp:Bz)(lp:Rz)(kt nt:Int)(st:Bz)(lt B:Rz)(n n' n'':Int)(s:Bz)(rows:Rz)(q:MV×List (List AV))(row:List AV)(v4 v11 c0_0 c0_1:Int)(c0_2:Bz)(c0_3:Rz)(c1_0 c1_1:Int)(c1_2:Bz)(c1_3:Rz):Option (AV):=qvs (kp) (np) (sp) (lp) (kt) (nt) (st) (lt) (B) (((fx 48 [(3,.ptr 2 0 0),(4,.int .i64 v4),(9,.sl B),(10,.int .i64 (B.length:Int)),(11,.int .i64 v11)]):List AV),([.rows false 4 [[.int .i64 c0_0,.int .i64 c0_1,.str c0_2,.sl c0_3]],.rows false 4 [[.int .i64 c1_0,.int .i64 c1_1,.str c1_2,.sl c1_3]],.rows true 402 (qCA q.2 0 (qCu (qCu (qB8 (2+qB7 n*4) row) [.int .i64 n',.int .i64 n'',.str s,.sl rows]) (qCk (2+qB7 n*4+4) row)))]:AH))
theorem qp5(kp np:Int)(sp:Bz)(lp:Rz)(kt nt:Int)(st:Bz)(lt B:Rz){P:AV->Prop}(h:Gets (qtx kp np sp lp kt nt st lt B (- 1) 0 kp np sp lp kt nt st lt [AV.int .u64 0,.int .u64 0,.int .i64 0,.int .i64 0,.str [],.nilS,.int .i64 0,.int .i64 0,.str [],.nilS,.int .i64 0,.int .i64 0,.str [],.nilS,.int .i64 0,.int .i64 0,.str [],.nilS,.int .i64 (0:Int),.int .i64 0,.str [],.nilS,.int .i64 0,.int .i64 0,.str [],.nilS,.int .i64 0,.int .i64 0,.str [],.nilS,.int .i64 0,.int .i64 0,.str [],.nilS,.int .i64 0,.int .i64 0,.str [],.nilS,.int .i64 0,.int .i64 0,.str [],.nilS,.int .i64 0,.int .i64 0,.str [],.nilS,.int .i64 0,.int .i64 0,.str [],.nilS,.int .i64 0,.int .i64 0,.str [],.nilS,.int .i64 0,.int .i64 0,.str [],.nilS,.int .i64 0,.int .i64 0,.str [],.nilS,.int .i64 0,.int .i64 0,.str [],.nilS,.int .i64 0,.int .i64 0,.str [],.nilS,.int .i64 0,.int .i64 0,.str [],.nilS,.int .i64 0,.int .i64 0,.str [],.nilS,.int .i64 0,.int .i64 0,.str [],.nilS,.int .i64 0,.int .i64 0,.str [],.nilS,.int .i64 0,.int .i64 0,.str [],.nilS,.int .i64 0,.int .i64 0,.str [],.nilS,.int .i64 0,.int .i64 0,.str [],.nilS,.int .i64 0,.int .i64 0,.str [],.nilS,.int .i64 0,.int .i64 0,.str [],.nilS,.int .i64 0,.int .i64 0,.str [],.nilS,.int .i64 0,.int .i64 0,.str [],.nilS,.int .i64 0,.int .i64 0,.str [],.nilS,.int .i64 0,.int .i64 0,.str [],.nilS,.int .i64 0,.int .i64 0,.str [],.nilS,.int .i64 0,.int .i64 0,.str [],.nilS,.int .i64 0,.int .i64 0,.str [],.nilS,.int .i64 0,.int .i64 0,.str [],.nilS,.int .i64 0,.int .i64 0,.str [],.nilS,.int .i64 0,.int .i64 0,.str [],.nilS,.int .i64 0,.int .i64 0,.str [],.nilS,.int .i64 0,.int .i64 0,.str [],.nilS,.int .i64 0,.int .i64 0,.str [],.nilS,.int .i64 0,.int .i64 0,.str [],.nilS,.int .i64 0,.int .i64 0,.str [],.nilS,.int .i64 0,.int .i64 0,.str [],.nilS,.int .i64 0,.int .i64 0,.str [],.nilS,.int .i64 0,.int .i64 0,.str [],.nilS,.int .i64 0,.int .i64 0,.str [],.nilS,.int .i64 0,.int .i64 0,.str [],.nilS,.int .i64 0,.int .i64 0,.str [],.nilS,.int .i64 0,.int .i64 0,.str [],.nilS,.int .i64 0,.int .i64 0,.str [],.nilS,.int .i64 0,.int .i64 0,.str [],.nilS,.int .i64 0,.int .i64 0,.str [],.nilS,.int .i64 0,.int .i64 0,.str [],.nilS,.int .i64 0,.int .i64 0,.str [],.nilS,.int .i64 0,.int .i64 0,.str [],.nilS,.int .i64 0,.int .i64 0,.str [],.nilS,.int .i64 0,.int .i64 0,.str [],.nilS,.int .i64 0,.int .i64 0,.str [],.nilS,.int .i64 0,.int .i64 0,.str [],.nilS,.int .i64 0,.int .i64 0,.str [],.nilS,.int .i64 0,.int .i64 0,.str [],.nilS,.int .i64 0,.int .i64 0,.str [],.nilS,.int .i64 0,.int .i64 0,.str [],.nilS,.int .i64 0,.int .i64 0,.str [],.nilS,.int .i64 0,.int .i64 0,.str [],.nilS,.int .i64 0,.int .i64 0,.str [],.nilS,.int .i64 0,.int .i64 0,.str [],.nilS,.int .i64 0,.int .i64 0,.str [],.nilS,.int .i64 0,.int .i64 0,.str [],.nilS,.int .i64 0,.int .i64 0,.str [],.nilS,.int .i64 0,.int .i64 0,.str [],.nilS,.int .i64 0,.int .i64 0,.str [],.nilS,.int .i64 0,.int .i64 0,.str [],.nilS,.int .i64 0,.int .i64 0,.str [],.nilS,.int .i64 0,.int .i64 0,.str [],.nilS,.int .i64 0,.int .i64 0,.str [],.nilS,.int .i64 0,.int .i64 0,.str [],.nilS,.int .i64 0,.int .i64 0,.str [],.nilS,.int .i64 0,.int .i64 0,.str [],.nilS,.int .i64 0,.int .i64 0,.str [],.nilS,.int .i64 0,.int .i64 0,.str [],.nilS,.int .i64 0,.int .i64 0,.str [],.nilS,.int .i64 0,.int .i64 0,.str [],.nilS,.int .i64 0,.int .i64 0,.str [],.nilS,.int .i64 0,.int .i64 0,.str [],.nilS,.int .i64 0,.int .i64 0,.str [],.nilS,.int .i64 0,.int .i64 0,.str [],.nilS,.int .i64 0,.int .i64 0,.str [],.nilS,.int .i64 0,.int .i64 0,.str [],.nilS,.int .i64 0,.int .i64 0,.str [],.nilS,.int .i64 0,.int .i64 0,.str [],.nilS,.int .i64 0,.int .i64 0,.str [],.nilS,.int .i64 0,.int .i64 0,.str [],.nilS,.int .i64 0,.int .i64 0,.str [],.nilS,.int .i64 0,.int .i64 0,.str [],.nilS,.int .i64 0,.int .i64 0,.str [],.nilS,.int .i64 0,.int .i64 0,.str [],.nilS,.int .i64 0,.int .i64 0,.str [],.nilS,.int .i64 0,.int .i64 0,.str [],.nilS,.int .i64 0,.int .i64 0,.str [],.nilS,.int .i64 0,.int .i64 0,.str [],.nilS]) P):Gets (EVf (EV cfg) 138 [.agg [.int .i64 kp,.int .i64 np,.str sp,.sl lp],.agg [.int .i64 kt,.int .i64 nt,.str st,.sl lt],.sl B]) P:=
  gE (λ_=>funF rfl rfl Tryz.func138 rfl) (by kernel_rfl) h
theorem qpH(kp np:Int)(sp:Bz)(lp:Rz)(kt nt:Int)(st:Bz)(lt B:Rz)(v4 v11 c0_0 c0_1:Int)(c0_2:Bz)(c0_3:Rz)(c1_0 c1_1:Int)(c1_2:Bz)(c1_3:Rz)(c2r0:List AV){P:AV->Prop}(h:Gets (bif decide (v11<(B.length:Int))then bif qd 0 v11&&qe v11 (B.length:Int)then kOpt (qB0 B (v11.toNat)) λrow=>bif qCh (qB1 row) 5 then bif qB4 5 (qB1 row)then qf (qB8 5 row) λc cs=>kInt .i64 c λn=>kTmC cs λn_1 n_2 s rows=>(bif decide (n<=v4)then some (AV.tup [.sl [],.bool false])else bif decide (n>99)then some (AV.tup [.sl [],.bool false])else kOpt (EVs (EV cfg) 53 [.agg [.int .i64 n_1,.int .i64 n_2,.str s,.sl rows]]) λv=>qr v λb=>bif ! b then some (AV.tup [.sl [],.bool false])else kOpt (EVm (EV cfg) 143 [.ptr 0 0 0,.int .i64 n] 402 [c2r0]) λq=>qx q.1 (bif qd 0 n&&qe n 100 then kOpt (qB0 q.2 0) λrow=>bif qB4 (2+qB7 n*4+4) (qB1 row)then qxQ kp np sp lp kt nt st lt B n n_1 n_2 s rows q row n (qBZ .i64 (v11+1)) c0_0 c0_1 c0_2 c0_3 c1_0 c1_1 c1_2 c1_3 else none else none))else none else none else none else kOpt (EVs (EV cfg) 53 [.agg [.int .i64 c0_0,.int .i64 c0_1,.str c0_2,.sl c0_3]]) λv=>qr v λb=>bif ! b then some (AV.tup [.sl [],.bool false])else kOpt (EVs (EV cfg) 53 [.agg [.int .i64 c1_0,.int .i64 c1_1,.str c1_2,.sl c1_3]]) λv=>qr v λb=>bif ! b then some (AV.tup [.sl [],.bool false])else kOpt (EVm (EV cfg) 153 [.ptr 0 0 0,.agg [.int .i64 c0_0,.int .i64 c0_1,.str c0_2,.sl c0_3],.agg [.int .i64 c1_0,.int .i64 c1_1,.str c1_2,.sl c1_3]] 402 [c2r0]) λq=>xA q.1 λb=>bif ! b then some (AV.tup [.sl [],.bool false])else kOpt (EVd (EV cfg) 154 [.ptr 0 0 0] 402 q.2) λq=>kSl q.1 λrows=>some (AV.tup [.sl rows,.bool true])) P):Gets (qtx kp np sp lp kt nt st lt B v4 v11 c0_0 c0_1 c0_2 c0_3 c1_0 c1_1 c1_2 c1_3 c2r0) P:=
  gE (λ_=>ql (cfg:=cfg) (f:=152) (rd:=none) (bs:=2)) (by kernel_rfl) h
end Go.Proofs.YtgleolmhpmljhaaGreat
end
noncomputable section
namespace Go.Av
theorem qbV(p t:Tm)(m:List (Int×Tm)):ye p t m=if p.kind=2 then
   (if p.str=[95]then some m else match varG p.str with
    |none=>if p=t then some m else none
    |some v=>match q7 v m with
     |some x=>if x=t then some m else none
     |none=>some (m++[(v,t)]))
  else if p.kind=7∨p.kind=9 then(if t.kind≠p.kind∨t.subs.length≠p.subs.length then none else xK p.subs t.subs m)
  else if p=t then some m else none:=by
 obtain⟨k,n,s,l⟩:=p;rw[ye];rfl
theorem qal(p t:Tm)(l l':List Tm)(m:List (Int×Tm)):xK (p::l) (t::l') m=(ye p t m).bind λm'=>xK l l' m':=by rw[xK]
theorem qeO(l':List Tm)(m:List (Int×Tm)):xK [] l' m=some m:=by rw[xK];simp
theorem yI{l:List Tm}{i:Nat}{t:Tm}(h:l[i]? =some t):qB0 (qa l) (qB7 (i:Int))=some t.cells:=by
 rw[qv,qCi,xu,h];rfl
def MOut(o:Option (List (Int×Tm)))(b:Bool)(r:List AV):Prop:=match o with
 |some m=>b=true∧BRow m r∧∀q∈m,q.2.chk=0
 |none=>b=false
def QM(o:Option (List (Int×Tm)))(q:MV×List (List AV)):Prop:=∃b r,q=(MV.bool b,[r])∧MOut o b r
theorem QM.same{p t:Tm}{m:List (Int×Tm)}{r:List AV}(h:BRow m r)(hm:∀q∈m,q.2.chk=0):QM (if p=t then some m else none) (MV.bool (decide (p=t)),[r]):=by
 refine⟨_,r,rfl,?_⟩
 by_cases h1:p=t
 ·rw[qCM h1,qCK h1];exact⟨rfl,h,hm⟩
 ·rw[qCN h1,qCL h1];exact rfl
def qj6(o:Option (List (Int×Tm))):AV:=match o with
 |some b=>.tup [.sl (vH b),.bool true]
 |none=>.tup [.sl [],.bool false]
end Go.Av
namespace Go.Proofs.YtgleolmhpmljhaaGreat
open Go.Av
theorem qyg{n:Nat}(h:n<=1099511627776):qW n 64=true:=by
 unfold qW;rw[qB2,qCz,qCz];omega
theorem qbo{a b:Tm}(h:a.w<1099511627776):EVs (EV cfg) 31 [a.av,b.av]=some (.bool (decide (a=b))):=by
 obtain⟨v,h1,c,rfl,h2⟩:=qxX h b;rw[h1]
 congr 2
 by_cases hab:a=b
 ·rw[qCK hab,h2.2 hab]
 ·rw[qCL hab];cases c with
  |false=>rfl
  |true=>exact absurd (h2.1 rfl) hab
theorem qwp:∀(n:Nat) (p t:Tm) (m:List (Int×Tm)) (r:List AV),p.w<=n->p.chk=0->t.chk=0->(∀q∈m,q.2.chk=0)->BRow m r ->
  Gets (EVm (EV cfg) 153 [.ptr 0 0 0,p.av,t.av] 402 [r]) (QM (ye p t m)):=by
 intro n
 induction n with
 |zero=>intro p t m r h;have:=vU p;omega
 |succ n ih=>
  intro p t m r hw hp ht hm hr;have hwp:=xo hp;have hwe:=p.w_eq;have step:∀(i:Nat) (m:List (Int×Tm)) (r:List AV),i<p.subs.length->p.subs.length=t.subs.length->(∀q∈m,q.2.chk=0)->BRow m r ->
    ∃x y,p.subs[i]? =some x∧t.subs[i]? =some y∧p.subs.drop i=x::p.subs.drop (i+1)∧t.subs.drop i=y::t.subs.drop (i+1)∧Gets (EVm (EV cfg) 153 [.ptr 0 0 0,x.av,y.av] 402 [r]) (QM (ye x y m)):=by
   intro i m r hi hl hm hr;have hj:i<t.subs.length:=by omega
   have hx:p.subs[i]? =some p.subs[i]:=qB3 hi;have hy:t.subs[i]? =some t.subs[i]:=qB3 hj;have mx:=qCc hx;have my:=qCc hy;have:=y5 mx;exact⟨_,_,hx,hy,qCp hi,qCp hj,ih _ _ m r (by omega) (vh hp mx) (vh ht my) hm hr⟩
  have hlen:p.subs.length<1099511627776:=by have:=xL p.subs;omega
  have loopA:p.subs.length=t.subs.length->∀(d i:Nat) (m:List (Int×Tm)) (r:List AV) (v:MV),i+d=p.subs.length->(∀q∈m,q.2.chk=0)->BRow m r ->
    Gets (qhe (qa p.subs) (v,[r]) i p.kind p.num p.str (qa p.subs) t.kind t.num t.str (qa t.subs)) (QM (xK (p.subs.drop i) (t.subs.drop i) m)):=by
   intro hl d
   induction d with
   |zero=>
    intro i m r v hi hm hr;obtain rfl:i=p.subs.length:=by omega
    refine qfK _ _ _ _ _ _ _ _ _ _ _ ?_;rw[qg,qCL (by omega),qCs (qCa _),qeO];exact⟨_,rfl,_,_,rfl,rfl,hr,hm⟩
   |succ d ihd=>
    intro i m r v hi hm hr;have hil:i<p.subs.length:=by omega
    obtain⟨x,y,hx,hy,dx,dy,hc⟩:=step i m r hil hl hm hr;refine qfK _ _ _ _ _ _ _ _ _ _ _ ?_;obtain⟨q,hq,b,r',rfl,ho⟩:=hc;have gx:qB0 (qa p.subs) (qB7 (i:Int))=some x.cells:=yI hx;have gy:qB0 (qa t.subs) (qB7 (i:Int))=some y.cells:=yI hy;rw[qg,qg,qCK (show(i:Int)<(p.subs.length:Int) by omega),qE,qP,qP,←hl,qCK hil,gx,gy,qZ hil hlen,dx,dy,qal]
    simp only[cond_true,qCx,qj,qCw,qm,qk,xe,qq,qb];rw[hq];simp only[qb,xa];cases hmt:ye x y m with
    |none=>
     rw[hmt]at ho;obtain rfl:b=false:=ho;exact⟨_,rfl,_,_,rfl,rfl⟩
    |some m'=>
     rw[hmt]at ho;obtain⟨rfl,hb,hm'⟩:=ho;exact ihd (i+1) m' r' _ (by omega) hm' hb
  have loop:p.subs.length=t.subs.length->Gets (qfL (qa p.subs) 0 r p.kind p.num p.str (qa p.subs) t.kind t.num t.str (qa t.subs)) (QM (xK p.subs t.subs m)):=by
   intro hl
   by_cases h0:p.subs.length=0
   ·refine qh8 _ _ _ _ _ _ _ _ _ _ _ ?_;have hn:p.subs=[]:=List.length_eq_zero_iff.1 h0;rw[qg,h0,hn,qeO];exact⟨_,rfl,_,_,rfl,rfl,hr,hm⟩
   ·have hil:0<p.subs.length:=by omega
    obtain⟨x,y,hx,hy,dx,dy,hc⟩:=step 0 m r hil hl hm hr;rw[List.drop_zero]at dx dy;refine qh8 _ _ _ _ _ _ _ _ _ _ _ ?_;obtain⟨q,hq,b,r',rfl,ho⟩:=hc;have g1:qd 0 0=true:=rfl;have g2:qe 0 (p.subs.length:Int)=true:=qCK (by omega);have g3:qBZ .i64 (0+1)=((0+1:Nat):Int):=rfl;have gx:qB0 (qa p.subs) (qB7 0)=some x.cells:=yI (i:=0) hx;have gy:qB0 (qa t.subs) (qB7 0)=some y.cells:=yI (i:=0) hy
    rw[qg,qg,qCK (show(0:Int)<(p.subs.length:Int) by omega),g1,←hl,g2,gx,gy,g3];have e:xK p.subs t.subs m=(ye x y m).bind λm'=>xK (p.subs.drop (0+1)) (t.subs.drop (0+1)) m':=by
     rw[←qal,←dx,←dy]
    rw[e];simp only[cond_true,qCx,qj,qCw,qm,qk,xe,qq,qb];rw[hq];simp only[qb,xa];cases hmt:ye x y m with
    |none=>
     rw[hmt]at ho;obtain rfl:b=false:=ho;exact⟨_,rfl,_,_,rfl,rfl⟩
    |some m'=>
     rw[hmt]at ho;obtain⟨rfl,hb,hm'⟩:=ho;exact loopA hl (p.subs.length - 1) 1 m' r' _ (by omega) hm' hb
  have same:=qbo (a:=p) (b:=t) (by omega);have hf1:=hr.free;rw[Tm.av,Tm.av,Tm.cells_eq,Tm.cells_eq];refine qtc _ _ _ _ _ _ _ _ _ ?_;rw[beqI,beqI,beqI,beqS,zM,qq,qq,same,qbV,qg,qg]
  by_cases h2:p.kind=2
  ·rw[qCK h2,qCM h2,cond_true]
   by_cases h95:p.str=[95]
   ·rw[qCK h95,qCM h95];exact⟨_,rfl,_,_,rfl,rfl,hr,hm⟩
   ·rw[qCL h95,qCN h95,cond_false];unfold varR;simp only[qb,kTup,qf,qi,qp,kNil];cases hv:varG p.str with
    |none=>exact⟨_,rfl,QM.same hr hm⟩
    |some v=>
     obtain⟨hv0,hv9⟩:=qlj hv;obtain⟨k,rfl⟩:∃k:Nat,v=k:=⟨v.toNat,by omega⟩;have hk:k<100:=by omega
     have hf2:qw 0 [AV.cptr r 0,.int .i64 (k:Int)]=true:=by simp[qw,AV.refsLt,hr.free]
     have hl2:qe (k:Int) 100=true:=by simp[qe];omega
     simp only[Option.getD_some,Option.isSome_some,qCj,cond_false,hf1,hf2,cond_true,qbS hr.set hk,qb,qp,qE,hl2,qCx,qCi];cases hx:q7 (k:Int) m with
     |some x=>
      have hc:=hr.cells k hk x hx;have hb:qB4 (2+k*4+4) r.length=true:=by rw[qCz,hr.len];omega
      have hxc:x.chk=0:=hm _ (yl hx);have hxw:=xo hxc;have hs:=qbo (a:=x) (b:=t) (by omega);rw[hb,hc,Tm.cells_eq];simp only[Option.isSome_some,cond_true,qf,qi,zm,vt,kNil,qq,hs,qb,qp];exact⟨_,rfl,QM.same hr hm⟩
     |none=>
      obtain⟨r',e1,e2,e3,e4,e5⟩:=qmu hr.set hk;have hadd:=hr.add (t:=t) hk hx e2 e3 e4 e5;have hb:qB4 (2+k*4+4) r'.length=true:=by rw[qCz,e4,hr.len];omega
      rw[Tm.cells_eq]at hadd;simp only[Option.isSome_none,cond_false,e1,qb,qU,qv,qCC,hb,cond_true];refine⟨_,rfl,true,_,rfl,rfl,hadd,?_⟩;intro q hq;rcases qCy.1 hq with h|h
      ·exact hm q h
      ·simp at h;subst h;exact ht
  ·rw[qCL h2,qCN h2,cond_false,bneD,bneD];have hlb:(p.kind=7∨p.kind=9)->Gets (bif !decide (t.kind=p.kind)then some (MV.bool false,[r])else bif !decide ((t.subs.length:Int)=(p.subs.length:Int))then some (MV.bool false,[r])else qfL (qa p.subs) 0 r p.kind p.num p.str (qa p.subs) t.kind t.num t.str (qa t.subs)) (QM (if p.kind=7∨p.kind=9 then(if t.kind≠p.kind∨t.subs.length≠p.subs.length then none else xK p.subs t.subs m)else if p=t then some m else none)):=by
    intro h79;rw[qCM h79]
    by_cases hk:t.kind=p.kind
    ·rw[qCK hk]
     by_cases hl:t.subs.length=p.subs.length
     ·rw[qCK (show(t.subs.length:Int)=(p.subs.length:Int) by omega),qCN (by simp[hk,hl])];exact loop hl.symm
     ·rw[qCL (show ¬(t.subs.length:Int)=(p.subs.length:Int) by omega),qCM (.inr hl)];exact⟨_,rfl,_,_,rfl,rfl⟩
    ·rw[qCL hk,qCM (.inl hk)];exact⟨_,rfl,_,_,rfl,rfl⟩
   by_cases h7:p.kind=7
   ·rw[qCK h7,cond_true];exact hlb (.inl h7)
   ·rw[qCL h7,cond_false]
    by_cases h9:p.kind=9
    ·rw[qCK h9,cond_true];exact hlb (.inr h9)
    ·rw[qCL h9,cond_false,qCN (by omega)];exact⟨_,rfl,QM.same hr hm⟩
theorem qvO{m:List (Int×Tm)}{r:List AV}(hr:BRow m r)(hm:∀q∈m,q.2.chk=0):EVd (EV cfg) 154 [.ptr 0 0 0] 402 [r]=some (.sl (vH (z8 m)),[r]):=by
 have hf1:=hr.free;have loop:∀d i:Nat,i+d=100->Gets (qfJ ((qCJ i).filterMap λn=>(q7 (n:Nat) m).map λt=>((n:Int),t)).length i r (vH ((qCJ i).filterMap λn=>(q7 (n:Nat) m).map λt=>((n:Int),t)))) (·=(AV.sl (vH (z8 m)),[r])):=by
  intro d
  induction d with
  |zero=>
   intro i hi;obtain rfl:i=100:=by omega
   refine qh7 _ _ _ _ ?_;have e1:qB4 (0+(z8 m).length) (vH (z8 m)).length=true:=by rw[qCz,xV];omega
   have e2:qB8 (z8 m).length (vH (z8 m))=vH (z8 m):=qCd (by rw[xV];exact qCa _);unfold z8 at e1 e2;rw[show decide (((100:Nat):Int)<100)=false from rfl,e1,e2];exact⟨_,rfl,rfl⟩
  |succ d ih=>
   intro i hi;have hk:i<100:=by omega
   have h1:=ih (i+1) (by omega);rw[List.range_succ,List.filterMap_append]at h1;generalize hacc:(qCJ i).filterMap (λn=>(q7 (n:Nat) m).map λt=>((n:Int),t))=acc at h1⊢;have hle:acc.length<=i:=by
    rw[←hacc];have:=List.length_filterMap_le (λn=>(q7 (n:Nat) m).map λt=>((n:Int),t)) (qCJ i);rw[List.length_range]at this;exact this
   refine qh7 _ _ _ _ ?_;have e1:qB4 (0+acc.length) (vH acc).length=true:=by rw[qCz,xV];omega
   have e2:qB8 acc.length (vH acc)=vH acc:=qCd (by rw[xV];exact qCa _);have e3:qBZ .i64 ((i:Int)+1)=((i+1:Nat):Int):=by rw[qt (by omega) (by omega)];omega
   have hf2:qw 0 [AV.cptr r 0,.int .i64 (i:Int)]=true:=by simp[qw,AV.refsLt,hr.free]
   have hl2:qe (i:Int) 100=true:=by simp[qe];omega
   have hb:qB4 (2+i*4+4) r.length=true:=by rw[qCz,hr.len];omega
   rw[qCK (show(i:Int)<100 by omega),e1,e2,e3];simp only[cond_true,qb,qp,hf1,hf2,qCx,qbS hr.set hk,qE,hl2,qCi,hb];cases hx:q7 (i:Int) m with
   |none=>
    have:List.filterMap (λn=>(q7 (n:Nat) m).map λt=>((n:Int),t)) [i]=[]:=by simp[hx]
    rw[this,List.append_nil]at h1;rw[Option.isSome_none,cond_false];exact h1
   |some x=>
    have hc:=hr.cells i hk x hx;have hxc:x.chk=0:=hm _ (yl hx);have hcp:=qeg (qcV hxc);have:List.filterMap (λn=>(q7 (n:Nat) m).map λt=>((n:Int),t)) [i]=[((i:Int),x)]:=by simp[hx]
    rw[this,qCq,List.length_singleton]at h1;have e4:vH (acc++[((i:Int),x)])=qCu (vH acc) [.int .i64 i::x.cells]:=by unfold vH;rw[List.map_append];rfl
    rw[e4,Tm.cells_eq]at h1;rw[hc,Tm.cells_eq];simp only[Option.isSome_some,cond_true,qf,qi,zm,vt,kNil,qq,hcp,qb,qV,qyg (show acc.length+1<=1099511627776 by omega)];exact h1
 apply Gets.get;refine qs9 _ ?_;exact loop 100 0 rfl
theorem qp6{p t:Tm}(wp:p.w<1099511627776)(wt:t.w<1099511627776):EVf (EV cfg) 138 [p.av,t.av,.sl []]=some (qj6 (yJ p t)):=by
 have mp:=zN wp;have mt:=zN wt;have hm:=qwp p.w p t [] ([AV.int .u64 0,AV.int .u64 0]++(qCr 100 [AV.int .i64 0,AV.int .i64 0,.str [],.nilS]).flatten) (qCa _);apply Gets.get;rw[Tm.av,Tm.av,Tm.cells_eq,Tm.cells_eq]at hm⊢;rw[Tm.av,Tm.cells_eq]at mp mt;refine qp5 _ _ _ _ _ _ _ _ _ ?_;refine qpH _ _ _ _ _ _ _ _ _ _ _ _ _ _ _ _ _ _ _ _ ?_;rw[mp,mt];simp only[qb,qp,show decide ((0:Int)<(([]:List (List AV)).length:Int))=false from rfl,cond_false]
 unfold yJ
 by_cases hp:p.chk=0
 ·by_cases ht:t.chk=0
  ·rw[qCK hp,qCK ht,qCM ⟨hp,ht⟩];obtain⟨q,hq,b,r',rfl,ho⟩:=hm hp ht (by simp) qqT;have h:Gets (kOpt (EVm (EV cfg) 153 [.ptr 0 0 0,.agg [AV.int .i64 p.kind,.int .i64 p.num,.str p.str,.sl (qa p.subs)],.agg [AV.int .i64 t.kind,.int .i64 t.num,.str t.str,.sl (qa t.subs)]] 402 [[AV.int .u64 0,AV.int .u64 0]++(qCr 100 [AV.int .i64 0,AV.int .i64 0,.str [],.nilS]).flatten]) fun(q:MV×List (List AV))=>xA q.1 fun(b:Bool)=>bif !b then some (AV.tup [.sl [],.bool false])else kOpt (EVd (EV cfg) 154 [.ptr 0 0 0] 402 q.2) fun(q:AV×List (List AV))=>kSl q.1 fun(rows:List (List AV))=>some (AV.tup [.sl rows,.bool true])) (·=qj6 ((ye p t []).map z8)):=by
    rw[hq];simp only[qb,xa];cases hmt:ye p t []with
    |none=>
     rw[hmt]at ho;obtain rfl:b=false:=ho;exact⟨_,rfl,rfl⟩
    |some m'=>
     rw[hmt]at ho;obtain⟨rfl,hb,hm'⟩:=ho;rw[qvO hb hm'];exact⟨_,rfl,rfl⟩
   refine Gets.eq ?_ h
   kernel_rfl
  ·rw[qCK hp,qCL ht,qCN (λh=>ht h.2)];exact⟨_,rfl,rfl⟩
 ·rw[qCL hp,qCN (λh=>hp h.1)];exact⟨_,rfl,rfl⟩
theorem qp7{p t:Tm}(wp:p.w<1099511627776)(wt:t.w<1099511627776):EVf (EV cfg) 112 [p.av,t.av]=some (qj6 (yJ p t)):=by
 have hm:=qp6 wp wt;apply Gets.get;rw[Tm.av,Tm.av,Tm.cells_eq,Tm.cells_eq]at hm⊢;refine qon _ _ _ _ _ _ _ _ ?_;rw[hm];cases yJ p t<;>exact⟨_,rfl,rfl⟩
def qA4:Den:=evC cfg (EV cfg) 115 none 10 (sub (qc Tryz.f115) [0,0,0])
def qBD:Ex×List AV×AH->Option (OV×AV):=kAft (Cfg.keepOut cfg 115 (qh (sub (qc Tryz.f115) [0,0,0]))) (qO 0 (kSeq (fun(fr:List AV) (H:AH)=>qL (Cfg.cut cfg 115 (qh (sub (qc Tryz.f115) [1]))) fr H fun(fr:List AV) (H:AH)=>qG cfg (EV cfg) (kfN cfg (5)) 115 none 10 (sub (qc Tryz.f115) [1]) fr H (vT cfg (Cfg.lift cfg 115 0) (fun(v:AV) (H:AH)=>(fun(r:AV×AH)=>xG 0 9 (fx 34 [(2,AV.ptr 1 0 0),(3,AV.ptr 2 0 0),(4,AV.ptr 3 0 0),(5,AV.ptr 4 0 0)]) (qO 0 (kSeq (fun(fr:List AV) (H:AH)=>qL (Cfg.cut cfg 50 (qh (sub (qc Tryz.f50) [1,1,1,1,1]))) fr H fun(fr:List AV) (H:AH)=>qG cfg (EV cfg) (kfN cfg 6) 50 none 0 (sub (qc Tryz.f50) [1,1,1,1,1]) fr H (qko cfg (Cfg.lift cfg 50 0) (qCl (Func.results Tryz.f50)))) (qko cfg (Cfg.lift cfg 50 0) (qCl (Func.results Tryz.f50))))) (Prod.snd r)) (v,H)) (qCl (Func.results (Prod.snd (115,Tryz.f115)))))) (vT cfg (Cfg.lift cfg 115 0) (fun(v:AV) (H:AH)=>(fun(r:AV×AH)=>xG 0 9 (fx 34 [(2,AV.ptr 1 0 0),(3,AV.ptr 2 0 0),(4,AV.ptr 3 0 0),(5,AV.ptr 4 0 0)]) (qO 0 (kSeq (fun(fr:List AV) (H:AH)=>qL (Cfg.cut cfg 50 (qh (sub (qc Tryz.f50) [1,1,1,1,1]))) fr H fun(fr:List AV) (H:AH)=>qG cfg (EV cfg) (kfN cfg 6) 50 none 0 (sub (qc Tryz.f50) [1,1,1,1,1]) fr H (qko cfg (Cfg.lift cfg 50 0) (qCl (Func.results Tryz.f50)))) (qko cfg (Cfg.lift cfg 50 0) (qCl (Func.results Tryz.f50))))) (Prod.snd r)) (v,H)) (qCl (Func.results (Prod.snd (115,Tryz.f115)))))))
def qvx:List AV×AH->Option (OV×AV):=fun(p:List AV×AH)=>kOpt (LOOP 10 (some [0,1,2]) [] qA4 p) qBD
def qvB:Den:=evC cfg (EV cfg) 83 none 0 (sub (qc Tryz.f83) [1,1,1,1,1,1,1,1,0,1,0,0])
def qvI:Ex×List AV×AH->Option AV:=kAft (Cfg.keepOut cfg 83 11) (kRun cfg (EV cfg) (kfN cfg 6) 83 none 0 (vL cfg (Cfg.lift cfg 83 0) Tryz.f83.results.toList) ([.block 0,.seq (sub (qc Tryz.f83) [1,1,1,1,1,1,1,1,1])]))
def qpx:List AV×AH->Option AV:=λp=>kOpt (LOOP 0 (some [2,4,5,73,74]) ([]) qvB p) qvI
def qA3:Den:=evC cfg (EV cfg) 83 none 0 (sub (qc Tryz.f83) [1,1,1,1,1,1,1,1,0,1,0,0,1,1,0,0,1,1,0,0])
def qBC:Ex×List AV×AH->Option AV:=kAft (Cfg.keepOut cfg 83 14) (kRun cfg (EV cfg) (kfN cfg 6) 83 none 0 (kLp 0 (some [2,4,5,73,74]) ([]) qvB qvI) ([.block 2,.block 1,.seq (sub (qc Tryz.f83) [1,1,1,1,1,1,1,1,0,1,0,0,1,1,1])]))
def qvw:List AV×AH->Option AV:=λp=>kOpt (LOOP 0 (some [2,4,5,73,74,77,78,79]) ([]) qA3 p) qBC
abbrev qnP(c0_0 c0_1:Int)(c0_2:Bz)(c0_3:Rz)(nc1_0:Nat)(c2_0:Int)(nc3_0:Nat)(c4_0:Bool)(c5_0 c5_1:Int)(c5_2:Bz)(c5_3 h7 h8:Rz):Option (OV×AV):=qvx (((fx 23 [(0,.yld 9),(1,.ptr 5 0 0),(2,.ptr 6 0 0)]):List AV),([.rows false 4 [[.int .i64 c0_0,.int .i64 c0_1,.str c0_2,.sl c0_3]],.rows false 1 [[.ms 7 0 nc1_0]],.rows false 1 [[.int .i64 c2_0]],.rows false 1 [[.ms 8 0 nc3_0]],.rows false 1 [[.bool c4_0]],.rows false 4 [[.int .i64 c5_0,.int .i64 c5_1,.str c5_2,.sl c5_3]],.rows false 1 [[.ptr 4 0 0]],.rows true 6 h7,.rows true 6 h8,rngB Tryz.f50 50 [1,1,1,1,0,1,0] (fx 34 [(2,.ptr 1 0 0),(3,.ptr 2 0 0),(4,.ptr 3 0 0)]) none LoopState.ready]:AH))
abbrev qty(n n':Int)(s:Bz)(rows rows' rows'' rows''':Rz):Option (AV):=qpx (((fx 91 [(2,.ptr 0 0 0),(4,.ptr 1 0 0),(5,.sl rows'),(73,.agg [.sl rows'',.sl rows''']),(74,.int .i64 (0:Int))]):List AV),([.rows false 6 [[.int .i64 (0:Int),.int .i64 (0:Int),.str [],.sl [],.sl [],.sl []]],.rows false 6 [[.int .i64 n,.int .i64 n',.str s,.sl rows,.sl rows'',.sl rows''']]]:AH))
abbrev qlg(c0_0 c0_1:Int)(c0_2:Bz)(c0_3:Rz)(nc1_0:Nat)(c2_0:Int)(nc3_0:Nat)(c4_0:Bool)(c5_0 c5_1:Int)(c5_2:Bz)(c5_3 h7 h10:Rz):Option (OV×AV):=qvx (((fx 23 [(0,.yld 9),(1,.ptr 5 0 0),(2,.ptr 6 0 0)]):List AV),([.rows false 4 [[.int .i64 c0_0,.int .i64 c0_1,.str c0_2,.sl c0_3]],.rows false 1 [[.ms 7 0 nc1_0]],.rows false 1 [[.int .i64 c2_0]],.rows false 1 [[.ms 10 0 nc3_0]],.rows false 1 [[.bool c4_0]],.rows false 4 [[.int .i64 c5_0,.int .i64 c5_1,.str c5_2,.sl c5_3]],.rows false 1 [[.ptr 4 0 0]],.rows true 6 h7,.dead,rngB Tryz.f50 50 [1,1,1,1,0,1,0] (fx 34 [(2,.ptr 1 0 0),(3,.ptr 2 0 0),(4,.ptr 3 0 0)]) none LoopState.ready,.rows true 6 h10]:AH))
abbrev qjD(rows' rows'' rows''':Rz)(v79 c0_0 c0_1:Int)(c0_2:Bz)(c0_3 c0_4 c0_5:Rz)(c1_0 c1_1:Int)(c1_2:Bz)(c1_3 c1_4 c1_5:Rz):Option (AV):=qvw (((fx 91 [(2,.ptr 0 0 0),(4,.ptr 1 0 0),(5,.sl rows'),(73,.agg [.sl rows'',.sl rows''']),(74,.int .i64 (0:Int)),(77,.sl rows''),(78,.int .i64 (rows''.length:Int)),(79,.int .i64 v79)]):List AV),([.rows false 6 [[.int .i64 c0_0,.int .i64 c0_1,.str c0_2,.sl c0_3,.sl c0_4,.sl c0_5]],.rows false 6 [[.int .i64 c1_0,.int .i64 c1_1,.str c1_2,.sl c1_3,.sl c1_4,.sl c1_5]]]:AH))
abbrev qqY(rows' rows'' rows''':Rz)(c0_0 c0_1:Int)(c0_2:Bz)(c0_3 c0_4 c0_5:Rz)(c1_0 c1_1:Int)(c1_2:Bz)(c1_3 c1_4 c1_5:Rz):Option (AV):=qpx (((fx 91 [(2,.ptr 0 0 0),(4,.ptr 1 0 0),(5,.sl rows'),(73,.agg [.sl rows'',.sl rows''']),(74,.int .i64 (1:Int))]):List AV),([.rows false 6 [[.int .i64 c0_0,.int .i64 c0_1,.str c0_2,.sl c0_3,.sl c0_4,.sl c0_5]],.rows false 6 [[.int .i64 c1_0,.int .i64 c1_1,.str c1_2,.sl c1_3,.sl c1_4,.sl c1_5]]]:AH))
abbrev qhh(rows' rows'' rows''':Rz)(v79 c0_0 c0_1:Int)(c0_2:Bz)(c0_3 c0_4 c0_5:Rz)(c1_0 c1_1:Int)(c1_2:Bz)(c1_3 c1_4 c1_5:Rz):Option (AV):=qvw (((fx 91 [(2,.ptr 0 0 0),(4,.ptr 1 0 0),(5,.sl rows'),(73,.agg [.sl rows'',.sl rows''']),(74,.int .i64 (1:Int)),(77,.sl rows'''),(78,.int .i64 (rows'''.length:Int)),(79,.int .i64 v79)]):List AV),([.rows false 6 [[.int .i64 c0_0,.int .i64 c0_1,.str c0_2,.sl c0_3,.sl c0_4,.sl c0_5]],.rows false 6 [[.int .i64 c1_0,.int .i64 c1_1,.str c1_2,.sl c1_3,.sl c1_4,.sl c1_5]]]:AH))
abbrev qqX(rows' rows'' rows''':Rz)(c0_0 c0_1:Int)(c0_2:Bz)(c0_3 c0_4 c0_5:Rz)(c1_0 c1_1:Int)(c1_2:Bz)(c1_3 c1_4 c1_5:Rz):Option (AV):=qpx (((fx 91 [(2,.ptr 0 0 0),(4,.ptr 1 0 0),(5,.sl rows'),(73,.agg [.sl rows'',.sl rows''']),(74,.int .i64 (2:Int))]):List AV),([.rows false 6 [[.int .i64 c0_0,.int .i64 c0_1,.str c0_2,.sl c0_3,.sl c0_4,.sl c0_5]],.rows false 6 [[.int .i64 c1_0,.int .i64 c1_1,.str c1_2,.sl c1_3,.sl c1_4,.sl c1_5]]]:AH))
theorem qls(kt nt:Int)(st:Bz)(lt:Rz){P:OV×AV->Prop}(h:Gets (kOpt (EVs (EV cfg) 79 [.agg [.int .i64 kt,.int .i64 nt,.str st,.sl lt]]) λv=>kInt .i64 v λn=>bif n != 0 then some (OV.own 6 [] 0 0,.int .i64 (2:Int))else qnP kt nt st lt 0 0 0 false kt nt st lt [] []) P):Gets (EVq (EV cfg) 50 [.agg [.int .i64 kt,.int .i64 nt,.str st,.sl lt]]) P:=
  gE (λ_=>funQ rfl rfl Tryz.func50 rfl) (by kernel_rfl) h
abbrev zp0:Option (AV):=some (AV.tup [.agg [.int .i64 0,.int .i64 0,.str [],.sl [],.sl [],.sl []],.bool false])
abbrev zp1:Option (AV):=some (AV.tup [AV.agg [.int .i64 0,.int .i64 0,.str [],.sl [],.sl [],.sl []],.bool false])
theorem qn9(kt nt:Int)(st:Bz)(lt:Rz){P:AV->Prop}(h:Gets (bif kt != 7 then zp0 else bif(lt.length:Int) != 3 then zp0 else bif qe 0 (lt.length:Int)then kOpt (qB0 lt 0) λrow=>bif qCh (qB1 row) 4 then bif qB4 4 (qB1 row)then kTmC (qB8 4 row) λn n_1 s rows=>(kOpt (EVs (EV cfg) 116 [.agg [.int .i64 n,.int .i64 n_1,.str s,.sl rows]]) λv=>qr v λb=>bif ! b then some (AV.tup [.agg [.int .i64 0,.int .i64 0,.str [],.sl [],.sl [],.sl []],.bool false])else bif qe 0 (lt.length:Int)then kOpt (qB0 lt 0) λrow=>bif qCh (qB1 row) 4 then bif qB4 4 (qB1 row)then kTmC (qB8 4 row) λn n_2 s rows=>(kOpt (EVf (EV cfg) 117 [.agg [.int .i64 n,.int .i64 n_2,.str s,.sl rows]]) λv=>kSl v λrows_1=>bif qe 1 (lt.length:Int)then kOpt (qB0 lt 1) λrow=>bif qCh (qB1 row) 4 then bif qB4 4 (qB1 row)then kTmC (qB8 4 row) λn_3 n_4 s_1 rows_2=>(kOpt (EVf (EV cfg) 118 [.agg [.int .i64 n_3,.int .i64 n_4,.str s_1,.sl rows_2]]) λv=>kTup v λcs=>qf cs λc cs=>kSl c λrows_3=>qf cs λc cs=>qr c λb=>kNil cs (bif qe 2 (lt.length:Int)then kOpt (qB0 lt 2) λrow=>bif qCh (qB1 row) 4 then bif qB4 4 (qB1 row)then kTmC (qB8 4 row) λn_5 n_6 s_2 rows_4=>(kOpt (EVf (EV cfg) 118 [AV.agg [.int .i64 n_5,.int .i64 n_6,.str s_2,.sl rows_4]]) λv=>kTup v λcs=>qf cs λc cs=>kSl c λrows_5=>qf cs λc cs=>qr c λb_1=>kNil cs (bif ! b then some (AV.tup [AV.agg [.int .i64 0,.int .i64 (0:Int),.str [],.sl [],.sl [],.sl []],.bool false])else bif ! b_1 then zp1 else bif(rows_5.length:Int)==0 then zp1 else qty n n_2 s rows rows_1 rows_3 rows_5))else none else none else none))else none else none else none)else none else none else none)else none else none else none) P):Gets (EVf (EV cfg) 83 [.agg [.int .i64 kt,.int .i64 nt,.str st,.sl lt]]) P:=
  gE (λ_=>funF rfl rfl Tryz.func83 rfl) (by kernel_rfl) h
abbrev zp9(cs:List AV)(nc3_0:Nat)(h8 c5_3:Rz)(c0_0 c0_1:Int)(c0_2:Bz)(c0_3:Rz)(nc1_0:Nat)(c2_0:Int)(c4_0:Bool)(h7:Rz)(n n_2:Int)(s:Bz)(rows rows_1 rows_2:Rz):Option (OV×AV):=qf cs λc cs=>qr c λb=>kNil cs (bif ! b then some (OV.own 6 [] 0 0,.int .i64 10)else bif qB4 (0+nc3_0) (qB1 h8)&&qW (nc3_0+1) 104 then bif qe 1 (c5_3.length:Int)then kOpt (qB0 c5_3 1) λrow=>bif qCh (qB1 row) 4 then bif qB4 4 (qB1 row)then kTmC (qB8 4 row) λn_3 n_4 s_1 rows_3=>(qlg c0_0 c0_1 c0_2 c0_3 nc1_0 c2_0 (nc3_0+1) c4_0 n_3 n_4 s_1 rows_3 h7 (qCu (qB8 nc3_0 h8) [[AV.int .i64 n,.int .i64 n_2,.str s,.sl rows,.sl rows_1,.sl rows_2]]))else none else none else none else none)
abbrev zp8(n n_1:Int)(s:Bz)(rows:Rz)(nc3_0:Nat)(h8 c5_3:Rz)(c0_0 c0_1:Int)(c0_2:Bz)(c0_3:Rz)(nc1_0:Nat)(c2_0:Int)(c4_0:Bool)(h7:Rz):Option (OV×AV):=(kOpt (EVf (EV cfg) 83 [.agg [.int .i64 n,.int .i64 n_1,.str s,.sl rows]]) λv=>kTup v λcs=>qf cs λc cs=>kAgg c λcs_1=>qf cs_1 λc cs_2=>kInt .i64 c λn=>qf cs_2 λc cs_3=>kInt .i64 c λn_2=>qf cs_3 λc cs_4=>kStr c λs=>qf cs_4 λc cs_5=>kSl c λrows=>qf cs_5 λc cs_6=>kSl c λrows_1=>qf cs_6 λc cs_7=>kSl c λrows_2=>kNil cs_7 (zp9 cs nc3_0 h8 c5_3 c0_0 c0_1 c0_2 c0_3 nc1_0 c2_0 c4_0 h7 n n_2 s rows rows_1 rows_2))
abbrev zp7(row:List AV)(nc3_0:Nat)(h8 c5_3:Rz)(c0_0 c0_1:Int)(c0_2:Bz)(c0_3:Rz)(nc1_0:Nat)(c2_0:Int)(c4_0:Bool)(h7:Rz):Option (OV×AV):=kTmC (qB8 4 row) λn n_1 s rows=>zp8 n n_1 s rows nc3_0 h8 c5_3 c0_0 c0_1 c0_2 c0_3 nc1_0 c2_0 c4_0 h7
abbrev zp6(row:List AV)(nc3_0:Nat)(h8 c5_3:Rz)(c0_0 c0_1:Int)(c0_2:Bz)(c0_3:Rz)(nc1_0:Nat)(c2_0:Int)(c4_0:Bool)(h7:Rz):Option (OV×AV):=bif qB4 4 (qB1 row)then zp7 row nc3_0 h8 c5_3 c0_0 c0_1 c0_2 c0_3 nc1_0 c2_0 c4_0 h7 else none
abbrev zp5(row:List AV)(nc3_0:Nat)(h8 c5_3:Rz)(c0_0 c0_1:Int)(c0_2:Bz)(c0_3:Rz)(nc1_0:Nat)(c2_0:Int)(c4_0:Bool)(h7:Rz):Option (OV×AV):=bif qCh (qB1 row) 4 then zp6 row nc3_0 h8 c5_3 c0_0 c0_1 c0_2 c0_3 nc1_0 c2_0 c4_0 h7 else none
abbrev zp4(c5_3:Rz)(nc3_0:Nat)(h8:Rz)(c0_0 c0_1:Int)(c0_2:Bz)(c0_3:Rz)(nc1_0:Nat)(c2_0:Int)(c4_0:Bool)(h7:Rz):Option (OV×AV):=kOpt (qB0 c5_3 0) λrow=>zp5 row nc3_0 h8 c5_3 c0_0 c0_1 c0_2 c0_3 nc1_0 c2_0 c4_0 h7
abbrev zp3(c5_3:Rz)(nc3_0:Nat)(h8:Rz)(c0_0 c0_1:Int)(c0_2:Bz)(c0_3:Rz)(nc1_0:Nat)(c2_0:Int)(c4_0:Bool)(h7:Rz):Option (OV×AV):=bif qe 0 (c5_3.length:Int)then zp4 c5_3 nc3_0 h8 c0_0 c0_1 c0_2 c0_3 nc1_0 c2_0 c4_0 h7 else none
abbrev zp2(c5_0:Int)(c5_3:Rz)(nc3_0:Nat)(h8:Rz)(c0_0 c0_1:Int)(c0_2:Bz)(c0_3:Rz)(nc1_0:Nat)(c2_0:Int)(c4_0:Bool)(h7:Rz):Option (OV×AV):=bif c5_0==9 then zp3 c5_3 nc3_0 h8 c0_0 c0_1 c0_2 c0_3 nc1_0 c2_0 c4_0 h7 else bif ! c5_0==8 then some (OV.own 6 [] 0 0,.int .i64 10)else bif(↑ nc3_0:Int)==0 then some (OV.own 6 [] 0 0,.int .i64 10)else some (OV.own 6 h8 0 nc3_0,.int .i64 0)
theorem qpN(c0_0 c0_1:Int)(c0_2:Bz)(c0_3:Rz)(nc1_0:Nat)(c2_0:Int)(nc3_0:Nat)(c4_0:Bool)(c5_0 c5_1:Int)(c5_2:Bz)(c5_3 h7 h8:Rz){P:OV×AV->Prop}(h:Gets (zp2 c5_0 c5_3 nc3_0 h8 c0_0 c0_1 c0_2 c0_3 nc1_0 c2_0 c4_0 h7) P):Gets (qnP c0_0 c0_1 c0_2 c0_3 nc1_0 c2_0 nc3_0 c4_0 c5_0 c5_1 c5_2 c5_3 h7 h8) P:=
  gE (λ_=>ql (cfg:=cfg) (f:=115) (rd:=none) (bs:=10)) (by kernel_rfl) h
theorem qpM(n n':Int)(s:Bz)(rows rows' rows'' rows''':Rz){P:AV->Prop}(h:Gets (qjD rows' rows'' rows''' 0 0 0 [] [] [] [] n n' s rows rows'' rows''') P):Gets (qty n n' s rows rows' rows'' rows''') P:=
  gE (λ_=>ql (cfg:=cfg) (f:=83) (rd:=none) (bs:=0)) (by kernel_rfl) h
theorem qnO(c0_0 c0_1:Int)(c0_2:Bz)(c0_3:Rz)(nc1_0:Nat)(c2_0:Int)(nc3_0:Nat)(c4_0:Bool)(c5_0 c5_1:Int)(c5_2:Bz)(c5_3 h7 h10:Rz){P:OV×AV->Prop}(h:Gets (zp2 c5_0 c5_3 nc3_0 h10 c0_0 c0_1 c0_2 c0_3 nc1_0 c2_0 c4_0 h7) P):Gets (qlg c0_0 c0_1 c0_2 c0_3 nc1_0 c2_0 nc3_0 c4_0 c5_0 c5_1 c5_2 c5_3 h7 h10) P:=
  gE (λ_=>ql (cfg:=cfg) (f:=115) (rd:=none) (bs:=10)) (by kernel_rfl) h
theorem qid(rows' rows'' rows''':Rz)(v79 c0_0 c0_1:Int)(c0_2:Bz)(c0_3 c0_4 c0_5:Rz)(c1_0 c1_1:Int)(c1_2:Bz)(c1_3 c1_4 c1_5:Rz){P:AV->Prop}(h:Gets (bif decide (v79<(rows''.length:Int))then bif qd 0 v79&&qe v79 (rows''.length:Int)then kOpt (qB0 rows'' (v79.toNat)) λrow=>bif qCh (qB1 row) 4 then bif qB4 4 (qB1 row)then kTmC (qB8 4 row) λn n_1 s rows=>(kOpt (EVs (EV cfg) 119 [.agg [.int .i64 n,.int .i64 n_1,.str s,.sl rows],.sl rows']) λv=>kInt .i64 v λn=>bif n != 0 then some (AV.tup [.agg [.int .i64 (0:Int),.int .i64 0,.str [],.sl [],.sl [],.sl []],.bool false])else qjD rows' rows'' rows''' (qBZ .i64 (v79+1)) c0_0 c0_1 c0_2 c0_3 c0_4 c0_5 c1_0 c1_1 c1_2 c1_3 c1_4 c1_5)else none else none else none else qqY rows' rows'' rows''' c0_0 c0_1 c0_2 c0_3 c0_4 c0_5 c1_0 c1_1 c1_2 c1_3 c1_4 c1_5) P):Gets (qjD rows' rows'' rows''' v79 c0_0 c0_1 c0_2 c0_3 c0_4 c0_5 c1_0 c1_1 c1_2 c1_3 c1_4 c1_5) P:=
  gE (λ_=>ql (cfg:=cfg) (f:=83) (rd:=none) (bs:=0)) (by kernel_rfl) h
theorem qnN(rows' rows'' rows''':Rz)(c0_0 c0_1:Int)(c0_2:Bz)(c0_3 c0_4 c0_5:Rz)(c1_0 c1_1:Int)(c1_2:Bz)(c1_3 c1_4 c1_5:Rz){P:AV->Prop}(h:Gets (qhh rows' rows'' rows''' 0 c0_0 c0_1 c0_2 c0_3 c0_4 c0_5 c1_0 c1_1 c1_2 c1_3 c1_4 c1_5) P):Gets (qqY rows' rows'' rows''' c0_0 c0_1 c0_2 c0_3 c0_4 c0_5 c1_0 c1_1 c1_2 c1_3 c1_4 c1_5) P:=
  gE (λ_=>ql (cfg:=cfg) (f:=83) (rd:=none) (bs:=0)) (by kernel_rfl) h
theorem qfO(rows' rows'' rows''':Rz)(v79 c0_0 c0_1:Int)(c0_2:Bz)(c0_3 c0_4 c0_5:Rz)(c1_0 c1_1:Int)(c1_2:Bz)(c1_3 c1_4 c1_5:Rz){P:AV->Prop}(h:Gets (bif decide (v79<(rows'''.length:Int))then bif qd 0 v79&&qe v79 (rows'''.length:Int)then kOpt (qB0 rows''' (v79.toNat)) λrow=>bif qCh (qB1 row) 4 then bif qB4 4 (qB1 row)then kTmC (qB8 4 row) λn n_1 s rows=>(kOpt (EVs (EV cfg) 119 [.agg [.int .i64 n,.int .i64 n_1,.str s,.sl rows],.sl rows']) λv=>kInt .i64 v λn=>bif n != 0 then some (AV.tup [.agg [.int .i64 0,.int .i64 0,.str [],.sl [],.sl [],.sl []],.bool false])else qhh rows' rows'' rows''' (qBZ .i64 (v79+1)) c0_0 c0_1 c0_2 c0_3 c0_4 c0_5 c1_0 c1_1 c1_2 c1_3 c1_4 c1_5)else none else none else none else qqX rows' rows'' rows''' c0_0 c0_1 c0_2 c0_3 c0_4 c0_5 c1_0 c1_1 c1_2 c1_3 c1_4 c1_5) P):Gets (qhh rows' rows'' rows''' v79 c0_0 c0_1 c0_2 c0_3 c0_4 c0_5 c1_0 c1_1 c1_2 c1_3 c1_4 c1_5) P:=
  gE (λ_=>ql (cfg:=cfg) (f:=83) (rd:=none) (bs:=0)) (by kernel_rfl) h
theorem qnM(rows' rows'' rows''':Rz)(c0_0 c0_1:Int)(c0_2:Bz)(c0_3 c0_4 c0_5:Rz)(c1_0 c1_1:Int)(c1_2:Bz)(c1_3 c1_4 c1_5:Rz){P:AV->Prop}(h:Gets (some (AV.tup [.agg [.int .i64 c1_0,.int .i64 c1_1,.str c1_2,.sl c1_3,.sl c1_4,.sl c1_5],.bool true])) P):Gets (qqX rows' rows'' rows''' c0_0 c0_1 c0_2 c0_3 c0_4 c0_5 c1_0 c1_1 c1_2 c1_3 c1_4 c1_5) P:=
  gE (λ_=>ql (cfg:=cfg) (f:=83) (rd:=none) (bs:=0)) (by kernel_rfl) h
def qA2:Den:=evC cfg (EV cfg) 17 none 0 (sub (qc Tryz.f17) [1,1,1,0,1,0,0])
def qBB:Ex×List AV×AH->Option AV:=kAft (Cfg.keepOut cfg 17 5) (kRun cfg (EV cfg) (kfN cfg 6) 17 none 0 (vL cfg (Cfg.lift cfg 17 0) Tryz.f17.results.toList) ([.block 0,.seq (sub (qc Tryz.f17) [1,1,1,1])]))
def qvv:List AV×AH->Option AV:=λp=>kOpt (LOOP 0 (some [4,16,17,18]) ([]) qA2 p) qBB
abbrev qzN(v18:Int):Option (AV):=qvv (((fx 38 [(4,.nilS),(16,.nilS),(17,.int .i64 (0:Int)),(18,.int .i64 v18)]):List AV),([]:AH))
abbrev qhg(sz off len:Nat)(v18:Int)(h0:Rz):Option (AV):=qvv (((fx 38 [(4,.ms 0 off len),(16,.ms 0 off len),(17,.int .i64 (↑len:Int)),(18,.int .i64 v18)]):List AV),([.rows true sz h0]:AH))
theorem qm0(kt nt:Int)(st:Bz)(lt:Rz){P:AV->Prop}(h:Gets (kOpt (EVq (EV cfg) 50 [.agg [.int .i64 kt,.int .i64 nt,.str st,.sl lt]]) λq=>kInt .i64 q.2 λn=>kOwn q.1 (bif n != 0 then some (AV.tup [.sl [],.int .i64 n])else qzN 0) λsz rs off len=>bif n != 0 then some (AV.tup [.sl [],.int .i64 n])else qhg sz off len (0:Int) rs) P):Gets (EVf (EV cfg) 17 [.agg [.int .i64 kt,.int .i64 nt,.str st,.sl lt]]) P:=
  gE (λ_=>funF rfl rfl Tryz.func17 rfl) (by kernel_rfl) h
theorem qfN(sz off len:Nat)(v18:Int)(h0:Rz){P:AV->Prop}(h:Gets (bif decide (v18<(↑ len:Int))then bif qCh sz 6&&qd 0 v18&&qe v18 (↑ len:Int)then kOpt (qB0 h0 (off+v18.toNat)) λrow=>bif qB4 6 (qB1 row)then qf (qB8 6 row) λc cs=>kInt .i64 c λn=>qf cs λc cs=>kInt .i64 c λn_1=>qf cs λc cs=>kStr c λs=>qf cs λc cs=>kSl c λrows=>qf cs λc cs=>kSl c λrows_1=>qf cs λc cs=>kSl c λrows_2=>kNil cs (kOpt (EVf (EV cfg) 51 [.agg [.int .i64 n,.int .i64 n_1,.str s,.sl rows]]) λv=>kTmV v λn n_2 s rows=>(kOpt (EVf (EV cfg) 52 [.sl rows_1]) λv=>kSl v λrows_3=>kOpt (EVf (EV cfg) 52 [.sl rows_2]) λv=>kSl v λrows_4=>bif qCh sz 6&&qd 0 v18&&qe v18 (↑ len:Int)then kOpt (qB0 h0 (off+v18.toNat)) λrow=>bif qB4 6 (qB1 row)then qhg sz off len (qBZ .i64 (v18+1)) (qCA h0 (off+v18.toNat) (.int .i64 n:: .int .i64 n_2:: .str s:: .sl rows:: .sl rows_3:: .sl rows_4::qCk 6 row))else none else none))else none else none else bif qB4 (off+len) (qB1 h0)&&true then some (AV.tup [.sl (qB8 len (qCk off h0)),.int .i64 0])else none) P):Gets (qhg sz off len v18 h0) P:=
  gE (λ_=>ql (cfg:=cfg) (f:=17) (rd:=none) (bs:=0)) (by kernel_rfl) h
end Go.Proofs.YtgleolmhpmljhaaGreat
end
