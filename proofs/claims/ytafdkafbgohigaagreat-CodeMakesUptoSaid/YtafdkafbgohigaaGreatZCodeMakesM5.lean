/-
  Parts of the proof of CodeMakesUptoSaid, put together: the abstract evaluation and its contracts. Own work.
  What is proved: each lemma as it stands; no condition.
-/
import Derived.Test.YtafdkafbgohigaaGreatZCodeMakesM4
open List renaming length → qAt, get?Internal → qAu, getElem?_eq_getElem → qAv, getElem?_eq_some_iff → qAy, take → qAB, take_of_length_le → qAE, append → qAG, length_append → qAI, mem_of_getElem? → qAJ, getElem?_append_left → qAN, drop → qAO, getElem?_append_right → qAP, getElem?_set → qAQ, drop_eq_getElem_cons → qAT, replicate → qAU, drop_eq_nil_of_le → qAV, mem_append → qAY, mem_cons → qAZ, length_cons → qA0, getElem?_cons_succ → qA3, drop_zero → qA4, length_take → qA6, range → qA7, append_assoc → qA8, all_eq_true → qBd, length_map → qBe, map_cons → qBf
open Bool renaming and_eq_true → qAw, false_eq_true → qAK, and_self → qAM, true_and → qA9
open Option renaming bind_eq_some_iff → qAx, map_eq_some_iff → qAD, bind_some → qAL, map_some → qAW
open Nat renaming beq → qAz, le_refl → qAA, eq_of_beq_eq_true → qAC, ble → qAF, mul_le_mul_right → qAX, beq_refl → qA1, ble_eq → qA2, zero_add → qA5, add_assoc → qBa, blt_eq → qBc, add_mul → qBg
open Go.IntKind renaming wrap → qAH
open Int renaming toNat → qAR, toNat_natCast → qAS
open Array renaming getElem?_toList → qBb
set_option maxRecDepth 1000000
set_option maxHeartbeats 0
noncomputable section
namespace Go.Proofs.YtafdkafbgohigaaGreat
open Go.Av
def qzC:Den:=evC cfg (EV cfg) 188 none 10 (sub (qg Tryz.f188) [0,0,0])
def qz4:Ex×List AV×AH->Option (OV×AV):=kAft (Cfg.keepOut cfg 188 (qn (sub (qg Tryz.f188) [0,0,0]))) (x9 0 (kSeq (fun(fr:List AV) (H:AH)=>zu (Cfg.cut cfg 188 (qn (sub (qg Tryz.f188) [1]))) fr H fun(fr:List AV) (H:AH)=>vM cfg (EV cfg) (kfN cfg (5)) 188 none 10 (sub (qg Tryz.f188) [1]) fr H (ym cfg (Cfg.lift cfg 188 0) (fun(v:AV) (H:AH)=>(fun(r:AV×AH)=>y9 0 9 (fx 34 [(2,AV.ptr 1 0 0),(3,AV.ptr 2 0 0),(4,AV.ptr 3 0 0),(5,AV.ptr 4 0 0)]) (x9 0 (kSeq (fun(fr:List AV) (H:AH)=>zu (Cfg.cut cfg 81 (qn (sub (qg Tryz.f81) [1,1,1,1,1]))) fr H fun(fr:List AV) (H:AH)=>vM cfg (EV cfg) (kfN cfg 6) 81 none 0 (sub (qg Tryz.f81) [1,1,1,1,1]) fr H (qff cfg (Cfg.lift cfg 81 0) (Array.toList (Func.results Tryz.f81)))) (qff cfg (Cfg.lift cfg 81 0) (Array.toList (Func.results Tryz.f81))))) (Prod.snd r)) (v,H)) (Array.toList (Func.results (Prod.snd (188,Tryz.f188)))))) (ym cfg (Cfg.lift cfg 188 0) (fun(v:AV) (H:AH)=>(fun(r:AV×AH)=>y9 0 9 (fx 34 [(2,AV.ptr 1 0 0),(3,AV.ptr 2 0 0),(4,AV.ptr 3 0 0),(5,AV.ptr 4 0 0)]) (x9 0 (kSeq (fun(fr:List AV) (H:AH)=>zu (Cfg.cut cfg 81 (qn (sub (qg Tryz.f81) [1,1,1,1,1]))) fr H fun(fr:List AV) (H:AH)=>vM cfg (EV cfg) (kfN cfg 6) 81 none 0 (sub (qg Tryz.f81) [1,1,1,1,1]) fr H (qff cfg (Cfg.lift cfg 81 0) (Array.toList (Func.results Tryz.f81)))) (qff cfg (Cfg.lift cfg 81 0) (Array.toList (Func.results Tryz.f81))))) (Prod.snd r)) (v,H)) (Array.toList (Func.results (Prod.snd (188,Tryz.f188)))))))
def qvf:List AV×AH->Option (OV×AV):=fun(p:List AV×AH)=>kOpt (LOOP 10 (some [0,1,2]) [] qzC p) qz4
def qvi:Den:=evC cfg (EV cfg) 130 none 0 (sub (qg Tryz.f130) [1,1,1,1,1,1,1,1,0,1,0,0])
def qvn:Ex×List AV×AH->Option AV:=kAft (Cfg.keepOut cfg 130 11) (kRun cfg (EV cfg) (kfN cfg 6) 130 none 0 (yn cfg (Cfg.lift cfg 130 0) Tryz.f130.results.toList) ([.block 0,.seq (sub (qg Tryz.f130) [1,1,1,1,1,1,1,1,1])]))
def qpF:List AV×AH->Option AV:=λp=>kOpt (LOOP 0 (some [2,4,5,73,74]) ([]) qvi p) qvn
def qzB:Den:=evC cfg (EV cfg) 130 none 0 (sub (qg Tryz.f130) [1,1,1,1,1,1,1,1,0,1,0,0,1,1,0,0,1,1,0,0])
def qz3:Ex×List AV×AH->Option AV:=kAft (Cfg.keepOut cfg 130 14) (kRun cfg (EV cfg) (kfN cfg 6) 130 none 0 (kLp 0 (some [2,4,5,73,74]) ([]) qvi qvn) ([.block 2,.block 1,.seq (sub (qg Tryz.f130) [1,1,1,1,1,1,1,1,0,1,0,0,1,1,1])]))
def qve:List AV×AH->Option AV:=λp=>kOpt (LOOP 0 (some [2,4,5,73,74,77,78,79]) ([]) qzB p) qz3
abbrev qnU(c0_0 c0_1:Int)(c0_2:Bz)(c0_3:Rz)(nc1_0:Nat)(c2_0:Int)(nc3_0:Nat)(c4_0:Bool)(c5_0 c5_1:Int)(c5_2:Bz)(c5_3 h7 h8:Rz):Option (OV×AV):=qvf (((fx 23 [(0,.yld 9),(1,.ptr 5 0 0),(2,.ptr 6 0 0)]):List AV),([.rows false 4 [[.int .i64 c0_0,.int .i64 c0_1,.str c0_2,.sl c0_3]],.rows false 1 [[.ms 7 0 nc1_0]],.rows false 1 [[.int .i64 c2_0]],.rows false 1 [[.ms 8 0 nc3_0]],.rows false 1 [[.bool c4_0]],.rows false 4 [[.int .i64 c5_0,.int .i64 c5_1,.str c5_2,.sl c5_3]],.rows false 1 [[.ptr 4 0 0]],.rows true 6 h7,.rows true 6 h8,rngB Tryz.f81 81 [1,1,1,1,0,1,0] (fx 34 [(2,.ptr 1 0 0),(3,.ptr 2 0 0),(4,.ptr 3 0 0)]) none LoopState.ready]:AH))
abbrev qtD(n n':Int)(s:Bz)(rows rows' rows'' rows''':Rz):Option (AV):=qpF (((fx 91 [(2,.ptr 0 0 0),(4,.ptr 1 0 0),(5,.sl rows'),(73,.agg [.sl rows'',.sl rows''']),(74,.int .i64 (0:Int))]):List AV),([.rows false 6 [[.int .i64 (0:Int),.int .i64 (0:Int),.str [],.sl [],.sl [],.sl []]],.rows false 6 [[.int .i64 n,.int .i64 n',.str s,.sl rows,.sl rows'',.sl rows''']]]:AH))
abbrev qlt(c0_0 c0_1:Int)(c0_2:Bz)(c0_3:Rz)(nc1_0:Nat)(c2_0:Int)(nc3_0:Nat)(c4_0:Bool)(c5_0 c5_1:Int)(c5_2:Bz)(c5_3 h7 h10:Rz):Option (OV×AV):=qvf (((fx 23 [(0,.yld 9),(1,.ptr 5 0 0),(2,.ptr 6 0 0)]):List AV),([.rows false 4 [[.int .i64 c0_0,.int .i64 c0_1,.str c0_2,.sl c0_3]],.rows false 1 [[.ms 7 0 nc1_0]],.rows false 1 [[.int .i64 c2_0]],.rows false 1 [[.ms 10 0 nc3_0]],.rows false 1 [[.bool c4_0]],.rows false 4 [[.int .i64 c5_0,.int .i64 c5_1,.str c5_2,.sl c5_3]],.rows false 1 [[.ptr 4 0 0]],.rows true 6 h7,.dead,rngB Tryz.f81 81 [1,1,1,1,0,1,0] (fx 34 [(2,.ptr 1 0 0),(3,.ptr 2 0 0),(4,.ptr 3 0 0)]) none LoopState.ready,.rows true 6 h10]:AH))
abbrev qjE(rows' rows'' rows''':Rz)(v79 c0_0 c0_1:Int)(c0_2:Bz)(c0_3 c0_4 c0_5:Rz)(c1_0 c1_1:Int)(c1_2:Bz)(c1_3 c1_4 c1_5:Rz):Option (AV):=qve (((fx 91 [(2,.ptr 0 0 0),(4,.ptr 1 0 0),(5,.sl rows'),(73,.agg [.sl rows'',.sl rows''']),(74,.int .i64 (0:Int)),(77,.sl rows''),(78,.int .i64 (rows''.length:Int)),(79,.int .i64 v79)]):List AV),([.rows false 6 [[.int .i64 c0_0,.int .i64 c0_1,.str c0_2,.sl c0_3,.sl c0_4,.sl c0_5]],.rows false 6 [[.int .i64 c1_0,.int .i64 c1_1,.str c1_2,.sl c1_3,.sl c1_4,.sl c1_5]]]:AH))
abbrev qq7(rows' rows'' rows''':Rz)(c0_0 c0_1:Int)(c0_2:Bz)(c0_3 c0_4 c0_5:Rz)(c1_0 c1_1:Int)(c1_2:Bz)(c1_3 c1_4 c1_5:Rz):Option (AV):=qpF (((fx 91 [(2,.ptr 0 0 0),(4,.ptr 1 0 0),(5,.sl rows'),(73,.agg [.sl rows'',.sl rows''']),(74,.int .i64 (1:Int))]):List AV),([.rows false 6 [[.int .i64 c0_0,.int .i64 c0_1,.str c0_2,.sl c0_3,.sl c0_4,.sl c0_5]],.rows false 6 [[.int .i64 c1_0,.int .i64 c1_1,.str c1_2,.sl c1_3,.sl c1_4,.sl c1_5]]]:AH))
abbrev qhk(rows' rows'' rows''':Rz)(v79 c0_0 c0_1:Int)(c0_2:Bz)(c0_3 c0_4 c0_5:Rz)(c1_0 c1_1:Int)(c1_2:Bz)(c1_3 c1_4 c1_5:Rz):Option (AV):=qve (((fx 91 [(2,.ptr 0 0 0),(4,.ptr 1 0 0),(5,.sl rows'),(73,.agg [.sl rows'',.sl rows''']),(74,.int .i64 (1:Int)),(77,.sl rows'''),(78,.int .i64 (rows'''.length:Int)),(79,.int .i64 v79)]):List AV),([.rows false 6 [[.int .i64 c0_0,.int .i64 c0_1,.str c0_2,.sl c0_3,.sl c0_4,.sl c0_5]],.rows false 6 [[.int .i64 c1_0,.int .i64 c1_1,.str c1_2,.sl c1_3,.sl c1_4,.sl c1_5]]]:AH))
abbrev qq6(rows' rows'' rows''':Rz)(c0_0 c0_1:Int)(c0_2:Bz)(c0_3 c0_4 c0_5:Rz)(c1_0 c1_1:Int)(c1_2:Bz)(c1_3 c1_4 c1_5:Rz):Option (AV):=qpF (((fx 91 [(2,.ptr 0 0 0),(4,.ptr 1 0 0),(5,.sl rows'),(73,.agg [.sl rows'',.sl rows''']),(74,.int .i64 (2:Int))]):List AV),([.rows false 6 [[.int .i64 c0_0,.int .i64 c0_1,.str c0_2,.sl c0_3,.sl c0_4,.sl c0_5]],.rows false 6 [[.int .i64 c1_0,.int .i64 c1_1,.str c1_2,.sl c1_3,.sl c1_4,.sl c1_5]]]:AH))
theorem qlE(kt nt:Int)(st:Bz)(lt:Rz){P:OV×AV->Prop}(h:Gets (kOpt (EVs (EV cfg) 83 [.agg [.int .i64 kt,.int .i64 nt,.str st,.sl lt]]) λv=>kInt .i64 v λn=>bif n != 0 then some (OV.own 6 [] 0 0,.int .i64 (2:Int))else qnU kt nt st lt 0 0 0 false kt nt st lt [] []) P):Gets (EVq (EV cfg) 81 [.agg [.int .i64 kt,.int .i64 nt,.str st,.sl lt]]) P:=
  gE (λ_=>funQ rfl rfl Tryz.func81 rfl) (by kernel_rfl) h
abbrev zw0:Option (AV):=some (AV.tup [.agg [.int .i64 0,.int .i64 0,.str [],.sl [],.sl [],.sl []],.bool false])
abbrev zw1:Option (AV):=some (AV.tup [AV.agg [.int .i64 0,.int .i64 0,.str [],.sl [],.sl [],.sl []],.bool false])
theorem qn7(kt nt:Int)(st:Bz)(lt:Rz){P:AV->Prop}(h:Gets (bif kt != 7 then zw0 else bif(lt.length:Int) != 3 then zw0 else bif qi 0 (lt.length:Int)then kOpt (qAu lt 0) λrow=>bif qAz (qAt row) 4 then bif qAF 4 (qAt row)then kTmC (qAB 4 row) λn n_1 s rows=>(kOpt (EVs (EV cfg) 189 [.agg [.int .i64 n,.int .i64 n_1,.str s,.sl rows]]) λv=>qJ v λb=>bif ! b then some (AV.tup [.agg [.int .i64 0,.int .i64 0,.str [],.sl [],.sl [],.sl []],.bool false])else bif qi 0 (lt.length:Int)then kOpt (qAu lt 0) λrow=>bif qAz (qAt row) 4 then bif qAF 4 (qAt row)then kTmC (qAB 4 row) λn n_2 s rows=>(kOpt (EVf (EV cfg) 190 [.agg [.int .i64 n,.int .i64 n_2,.str s,.sl rows]]) λv=>kSl v λrows_1=>bif qi 1 (lt.length:Int)then kOpt (qAu lt 1) λrow=>bif qAz (qAt row) 4 then bif qAF 4 (qAt row)then kTmC (qAB 4 row) λn_3 n_4 s_1 rows_2=>(kOpt (EVf (EV cfg) 191 [.agg [.int .i64 n_3,.int .i64 n_4,.str s_1,.sl rows_2]]) λv=>kTup v λcs=>qf cs λc cs=>kSl c λrows_3=>qf cs λc cs=>qJ c λb=>kNil cs (bif qi 2 (lt.length:Int)then kOpt (qAu lt 2) λrow=>bif qAz (qAt row) 4 then bif qAF 4 (qAt row)then kTmC (qAB 4 row) λn_5 n_6 s_2 rows_4=>(kOpt (EVf (EV cfg) 191 [AV.agg [.int .i64 n_5,.int .i64 n_6,.str s_2,.sl rows_4]]) λv=>kTup v λcs=>qf cs λc cs=>kSl c λrows_5=>qf cs λc cs=>qJ c λb_1=>kNil cs (bif ! b then some (AV.tup [AV.agg [.int .i64 0,.int .i64 (0:Int),.str [],.sl [],.sl [],.sl []],.bool false])else bif ! b_1 then zw1 else bif(rows_5.length:Int)==0 then zw1 else qtD n n_2 s rows rows_1 rows_3 rows_5))else none else none else none))else none else none else none)else none else none else none)else none else none else none) P):Gets (EVf (EV cfg) 130 [.agg [.int .i64 kt,.int .i64 nt,.str st,.sl lt]]) P:=
  gE (λ_=>funF rfl rfl Tryz.func130 rfl) (by kernel_rfl) h
abbrev zw9(cs:List AV)(nc3_0:Nat)(h8 c5_3:Rz)(c0_0 c0_1:Int)(c0_2:Bz)(c0_3:Rz)(nc1_0:Nat)(c2_0:Int)(c4_0:Bool)(h7:Rz)(n n_2:Int)(s:Bz)(rows rows_1 rows_2:Rz):Option (OV×AV):=qf cs λc cs=>qJ c λb=>kNil cs (bif ! b then some (OV.own 6 [] 0 0,.int .i64 10)else bif qAF (0+nc3_0) (qAt h8)&&qo (nc3_0+1) 104 then bif qi 1 (c5_3.length:Int)then kOpt (qAu c5_3 1) λrow=>bif qAz (qAt row) 4 then bif qAF 4 (qAt row)then kTmC (qAB 4 row) λn_3 n_4 s_1 rows_3=>(qlt c0_0 c0_1 c0_2 c0_3 nc1_0 c2_0 (nc3_0+1) c4_0 n_3 n_4 s_1 rows_3 h7 (qAG (qAB nc3_0 h8) [[AV.int .i64 n,.int .i64 n_2,.str s,.sl rows,.sl rows_1,.sl rows_2]]))else none else none else none else none)
abbrev zw8(n n_1:Int)(s:Bz)(rows:Rz)(nc3_0:Nat)(h8 c5_3:Rz)(c0_0 c0_1:Int)(c0_2:Bz)(c0_3:Rz)(nc1_0:Nat)(c2_0:Int)(c4_0:Bool)(h7:Rz):Option (OV×AV):=(kOpt (EVf (EV cfg) 130 [.agg [.int .i64 n,.int .i64 n_1,.str s,.sl rows]]) λv=>kTup v λcs=>qf cs λc cs=>kAgg c λcs_1=>qf cs_1 λc cs_2=>kInt .i64 c λn=>qf cs_2 λc cs_3=>kInt .i64 c λn_2=>qf cs_3 λc cs_4=>kStr c λs=>qf cs_4 λc cs_5=>kSl c λrows=>qf cs_5 λc cs_6=>kSl c λrows_1=>qf cs_6 λc cs_7=>kSl c λrows_2=>kNil cs_7 (zw9 cs nc3_0 h8 c5_3 c0_0 c0_1 c0_2 c0_3 nc1_0 c2_0 c4_0 h7 n n_2 s rows rows_1 rows_2))
abbrev zw7(row:List AV)(nc3_0:Nat)(h8 c5_3:Rz)(c0_0 c0_1:Int)(c0_2:Bz)(c0_3:Rz)(nc1_0:Nat)(c2_0:Int)(c4_0:Bool)(h7:Rz):Option (OV×AV):=kTmC (qAB 4 row) λn n_1 s rows=>zw8 n n_1 s rows nc3_0 h8 c5_3 c0_0 c0_1 c0_2 c0_3 nc1_0 c2_0 c4_0 h7
abbrev zw6(row:List AV)(nc3_0:Nat)(h8 c5_3:Rz)(c0_0 c0_1:Int)(c0_2:Bz)(c0_3:Rz)(nc1_0:Nat)(c2_0:Int)(c4_0:Bool)(h7:Rz):Option (OV×AV):=bif qAF 4 (qAt row)then zw7 row nc3_0 h8 c5_3 c0_0 c0_1 c0_2 c0_3 nc1_0 c2_0 c4_0 h7 else none
abbrev zw5(row:List AV)(nc3_0:Nat)(h8 c5_3:Rz)(c0_0 c0_1:Int)(c0_2:Bz)(c0_3:Rz)(nc1_0:Nat)(c2_0:Int)(c4_0:Bool)(h7:Rz):Option (OV×AV):=bif qAz (qAt row) 4 then zw6 row nc3_0 h8 c5_3 c0_0 c0_1 c0_2 c0_3 nc1_0 c2_0 c4_0 h7 else none
abbrev zw4(c5_3:Rz)(nc3_0:Nat)(h8:Rz)(c0_0 c0_1:Int)(c0_2:Bz)(c0_3:Rz)(nc1_0:Nat)(c2_0:Int)(c4_0:Bool)(h7:Rz):Option (OV×AV):=kOpt (qAu c5_3 0) λrow=>zw5 row nc3_0 h8 c5_3 c0_0 c0_1 c0_2 c0_3 nc1_0 c2_0 c4_0 h7
abbrev zw3(c5_3:Rz)(nc3_0:Nat)(h8:Rz)(c0_0 c0_1:Int)(c0_2:Bz)(c0_3:Rz)(nc1_0:Nat)(c2_0:Int)(c4_0:Bool)(h7:Rz):Option (OV×AV):=bif qi 0 (c5_3.length:Int)then zw4 c5_3 nc3_0 h8 c0_0 c0_1 c0_2 c0_3 nc1_0 c2_0 c4_0 h7 else none
abbrev zw2(c5_0:Int)(c5_3:Rz)(nc3_0:Nat)(h8:Rz)(c0_0 c0_1:Int)(c0_2:Bz)(c0_3:Rz)(nc1_0:Nat)(c2_0:Int)(c4_0:Bool)(h7:Rz):Option (OV×AV):=bif c5_0==9 then zw3 c5_3 nc3_0 h8 c0_0 c0_1 c0_2 c0_3 nc1_0 c2_0 c4_0 h7 else bif ! c5_0==8 then some (OV.own 6 [] 0 0,.int .i64 10)else bif(↑ nc3_0:Int)==0 then some (OV.own 6 [] 0 0,.int .i64 10)else some (OV.own 6 h8 0 nc3_0,.int .i64 0)
theorem qpS(c0_0 c0_1:Int)(c0_2:Bz)(c0_3:Rz)(nc1_0:Nat)(c2_0:Int)(nc3_0:Nat)(c4_0:Bool)(c5_0 c5_1:Int)(c5_2:Bz)(c5_3 h7 h8:Rz){P:OV×AV->Prop}(h:Gets (zw2 c5_0 c5_3 nc3_0 h8 c0_0 c0_1 c0_2 c0_3 nc1_0 c2_0 c4_0 h7) P):Gets (qnU c0_0 c0_1 c0_2 c0_3 nc1_0 c2_0 nc3_0 c4_0 c5_0 c5_1 c5_2 c5_3 h7 h8) P:=
  gE (λ_=>qt (cfg:=cfg) (f:=188) (rd:=none) (bs:=10)) (by kernel_rfl) h
theorem qpR(n n':Int)(s:Bz)(rows rows' rows'' rows''':Rz){P:AV->Prop}(h:Gets (qjE rows' rows'' rows''' 0 0 0 [] [] [] [] n n' s rows rows'' rows''') P):Gets (qtD n n' s rows rows' rows'' rows''') P:=
  gE (λ_=>qt (cfg:=cfg) (f:=130) (rd:=none) (bs:=0)) (by kernel_rfl) h
theorem qnT(c0_0 c0_1:Int)(c0_2:Bz)(c0_3:Rz)(nc1_0:Nat)(c2_0:Int)(nc3_0:Nat)(c4_0:Bool)(c5_0 c5_1:Int)(c5_2:Bz)(c5_3 h7 h10:Rz){P:OV×AV->Prop}(h:Gets (zw2 c5_0 c5_3 nc3_0 h10 c0_0 c0_1 c0_2 c0_3 nc1_0 c2_0 c4_0 h7) P):Gets (qlt c0_0 c0_1 c0_2 c0_3 nc1_0 c2_0 nc3_0 c4_0 c5_0 c5_1 c5_2 c5_3 h7 h10) P:=
  gE (λ_=>qt (cfg:=cfg) (f:=188) (rd:=none) (bs:=10)) (by kernel_rfl) h
theorem qh8(rows' rows'' rows''':Rz)(v79 c0_0 c0_1:Int)(c0_2:Bz)(c0_3 c0_4 c0_5:Rz)(c1_0 c1_1:Int)(c1_2:Bz)(c1_3 c1_4 c1_5:Rz){P:AV->Prop}(h:Gets (bif decide (v79<(rows''.length:Int))then bif qe 0 v79&&qi v79 (rows''.length:Int)then kOpt (qAu rows'' (v79.toNat)) λrow=>bif qAz (qAt row) 4 then bif qAF 4 (qAt row)then kTmC (qAB 4 row) λn n_1 s rows=>(kOpt (EVs (EV cfg) 62 [.agg [.int .i64 n,.int .i64 n_1,.str s,.sl rows],.sl rows']) λv=>kInt .i64 v λn=>bif n != 0 then some (AV.tup [.agg [.int .i64 (0:Int),.int .i64 0,.str [],.sl [],.sl [],.sl []],.bool false])else qjE rows' rows'' rows''' (qAH .i64 (v79+1)) c0_0 c0_1 c0_2 c0_3 c0_4 c0_5 c1_0 c1_1 c1_2 c1_3 c1_4 c1_5)else none else none else none else qq7 rows' rows'' rows''' c0_0 c0_1 c0_2 c0_3 c0_4 c0_5 c1_0 c1_1 c1_2 c1_3 c1_4 c1_5) P):Gets (qjE rows' rows'' rows''' v79 c0_0 c0_1 c0_2 c0_3 c0_4 c0_5 c1_0 c1_1 c1_2 c1_3 c1_4 c1_5) P:=
  gE (λ_=>qt (cfg:=cfg) (f:=130) (rd:=none) (bs:=0)) (by kernel_rfl) h
theorem qnS(rows' rows'' rows''':Rz)(c0_0 c0_1:Int)(c0_2:Bz)(c0_3 c0_4 c0_5:Rz)(c1_0 c1_1:Int)(c1_2:Bz)(c1_3 c1_4 c1_5:Rz){P:AV->Prop}(h:Gets (qhk rows' rows'' rows''' 0 c0_0 c0_1 c0_2 c0_3 c0_4 c0_5 c1_0 c1_1 c1_2 c1_3 c1_4 c1_5) P):Gets (qq7 rows' rows'' rows''' c0_0 c0_1 c0_2 c0_3 c0_4 c0_5 c1_0 c1_1 c1_2 c1_3 c1_4 c1_5) P:=
  gE (λ_=>qt (cfg:=cfg) (f:=130) (rd:=none) (bs:=0)) (by kernel_rfl) h
theorem qf1(rows' rows'' rows''':Rz)(v79 c0_0 c0_1:Int)(c0_2:Bz)(c0_3 c0_4 c0_5:Rz)(c1_0 c1_1:Int)(c1_2:Bz)(c1_3 c1_4 c1_5:Rz){P:AV->Prop}(h:Gets (bif decide (v79<(rows'''.length:Int))then bif qe 0 v79&&qi v79 (rows'''.length:Int)then kOpt (qAu rows''' (v79.toNat)) λrow=>bif qAz (qAt row) 4 then bif qAF 4 (qAt row)then kTmC (qAB 4 row) λn n_1 s rows=>(kOpt (EVs (EV cfg) 62 [.agg [.int .i64 n,.int .i64 n_1,.str s,.sl rows],.sl rows']) λv=>kInt .i64 v λn=>bif n != 0 then some (AV.tup [.agg [.int .i64 0,.int .i64 0,.str [],.sl [],.sl [],.sl []],.bool false])else qhk rows' rows'' rows''' (qAH .i64 (v79+1)) c0_0 c0_1 c0_2 c0_3 c0_4 c0_5 c1_0 c1_1 c1_2 c1_3 c1_4 c1_5)else none else none else none else qq6 rows' rows'' rows''' c0_0 c0_1 c0_2 c0_3 c0_4 c0_5 c1_0 c1_1 c1_2 c1_3 c1_4 c1_5) P):Gets (qhk rows' rows'' rows''' v79 c0_0 c0_1 c0_2 c0_3 c0_4 c0_5 c1_0 c1_1 c1_2 c1_3 c1_4 c1_5) P:=
  gE (λ_=>qt (cfg:=cfg) (f:=130) (rd:=none) (bs:=0)) (by kernel_rfl) h
theorem qnR(rows' rows'' rows''':Rz)(c0_0 c0_1:Int)(c0_2:Bz)(c0_3 c0_4 c0_5:Rz)(c1_0 c1_1:Int)(c1_2:Bz)(c1_3 c1_4 c1_5:Rz){P:AV->Prop}(h:Gets (some (AV.tup [.agg [.int .i64 c1_0,.int .i64 c1_1,.str c1_2,.sl c1_3,.sl c1_4,.sl c1_5],.bool true])) P):Gets (qq6 rows' rows'' rows''' c0_0 c0_1 c0_2 c0_3 c0_4 c0_5 c1_0 c1_1 c1_2 c1_3 c1_4 c1_5) P:=
  gE (λ_=>qt (cfg:=cfg) (f:=130) (rd:=none) (bs:=0)) (by kernel_rfl) h
def qzA:Den:=evC cfg (EV cfg) 56 none 0 (sub (qg Tryz.f56) [1,1,1,0,1,0,0])
def qz2:Ex×List AV×AH->Option AV:=kAft (Cfg.keepOut cfg 56 5) (kRun cfg (EV cfg) (kfN cfg 6) 56 none 0 (yn cfg (Cfg.lift cfg 56 0) Tryz.f56.results.toList) ([.block 0,.seq (sub (qg Tryz.f56) [1,1,1,1])]))
def qvd:List AV×AH->Option AV:=λp=>kOpt (LOOP 0 (some [4,16,17,18]) ([]) qzA p) qz2
abbrev qyw(v18:Int):Option (AV):=qvd (((fx 38 [(4,.nilS),(16,.nilS),(17,.int .i64 (0:Int)),(18,.int .i64 v18)]):List AV),([]:AH))
abbrev qhj(sz off len:Nat)(v18:Int)(h0:Rz):Option (AV):=qvd (((fx 38 [(4,.ms 0 off len),(16,.ms 0 off len),(17,.int .i64 (↑len:Int)),(18,.int .i64 v18)]):List AV),([.rows true sz h0]:AH))
theorem qmU(kt nt:Int)(st:Bz)(lt:Rz){P:AV->Prop}(h:Gets (kOpt (EVq (EV cfg) 81 [.agg [.int .i64 kt,.int .i64 nt,.str st,.sl lt]]) λq=>kInt .i64 q.2 λn=>kOwn q.1 (bif n != 0 then some (AV.tup [.sl [],.int .i64 n])else qyw 0) λsz rs off len=>bif n != 0 then some (AV.tup [.sl [],.int .i64 n])else qhj sz off len (0:Int) rs) P):Gets (EVf (EV cfg) 56 [.agg [.int .i64 kt,.int .i64 nt,.str st,.sl lt]]) P:=
  gE (λ_=>funF rfl rfl Tryz.func56 rfl) (by kernel_rfl) h
theorem qf0(sz off len:Nat)(v18:Int)(h0:Rz){P:AV->Prop}(h:Gets (bif decide (v18<(↑ len:Int))then bif qAz sz 6&&qe 0 v18&&qi v18 (↑ len:Int)then kOpt (qAu h0 (off+v18.toNat)) λrow=>bif qAF 6 (qAt row)then qf (qAB 6 row) λc cs=>kInt .i64 c λn=>qf cs λc cs=>kInt .i64 c λn_1=>qf cs λc cs=>kStr c λs=>qf cs λc cs=>kSl c λrows=>qf cs λc cs=>kSl c λrows_1=>qf cs λc cs=>kSl c λrows_2=>kNil cs (kOpt (EVf (EV cfg) 45 [.agg [.int .i64 n,.int .i64 n_1,.str s,.sl rows]]) λv=>kTmV v λn n_2 s rows=>(kOpt (EVf (EV cfg) 103 [.sl rows_1]) λv=>kSl v λrows_3=>kOpt (EVf (EV cfg) 103 [.sl rows_2]) λv=>kSl v λrows_4=>bif qAz sz 6&&qe 0 v18&&qi v18 (↑ len:Int)then kOpt (qAu h0 (off+v18.toNat)) λrow=>bif qAF 6 (qAt row)then qhj sz off len (qAH .i64 (v18+1)) (List.set h0 (off+v18.toNat) (.int .i64 n:: .int .i64 n_2:: .str s:: .sl rows:: .sl rows_3:: .sl rows_4::qAO 6 row))else none else none))else none else none else bif qAF (off+len) (qAt h0)&&true then some (AV.tup [.sl (qAB len (qAO off h0)),.int .i64 0])else none) P):Gets (qhj sz off len v18 h0) P:=
  gE (λ_=>qt (cfg:=cfg) (f:=56) (rd:=none) (bs:=0)) (by kernel_rfl) h
end Go.Proofs.YtafdkafbgohigaaGreat
end
noncomputable section
namespace Go.Av
def clR(o:Option Cl):AV:=match o with
 |some c=>.tup [c.av,.bool true]
 |none=>.tup [qeO.av,.bool false]
def clsQ(r:List Cl×Int):OV×AV:=(.own 6 (qY r.1) 0 r.1.length,.int .i64 r.2)
def clsA(acc:List Cl)(t:Tm):List Cl×Int:=match seqC (qy t).1 with
 |some l=>if(qy t).2&& !(acc++l).isEmpty then(acc++l,0)else([],10)
 |none=>([],10)
def okV(V:List Int)(l:List Tm):Bool:=l.all λe=>decide (vP V e=0)
theorem qi1(V:List Int)(x:Tm)(l:List Tm):okV V (x::l)=(decide (vP V x=0)&&okV V l):=rfl
theorem qf9(p:Tm):(yj p).length<=100:=by
 unfold yj
 by_cases h:p.chk=0
 ·rw[qBj h,qBe];have:=List.length_filter_le (λn:Nat=>xk (n:Nat) p) (qA7 100);rw[List.length_range]at this;exact this
 ·rw[qBk h];exact Nat.zero_le _
theorem qlT{n:Nat}(h:n<=1099511627776):qo n 104=true:=by
 unfold qo;rw[qAw,qA2,qA2];omega
def ClOk(c:Cl):Prop:=c.head.chk=0∧(∀x∈c.gs,x.chk=0)∧(∀x∈c.bs,x.chk=0)∧c.gs.length<=8388608∧c.bs.length<=8388608
theorem qtk{t:Tm}(h:t.chk=0){c:Cl}(hc:vY t=some c):ClOk c:=by
 unfold vY at hc
 by_cases h7:t.kind=7
 ·rw[qBj h7]at hc;have hw:=zD h;have hwe:=t.w_eq;cases hs:t.subs with
  |nil=>rw[hs]at hc;cases hc
  |cons a l=>cases l with
   |nil=>rw[hs]at hc;cases hc
   |cons b l=>cases l with
    |nil=>rw[hs]at hc;cases hc
    |cons d l=>cases l with
     |nil=>
      rw[hs]at hc hwe;simp only[qA,xu]at hwe;simp only[]at hc;split at hc
      ·cases hc;have ha:a.chk=0:=vU h (by rw[hs];simp);have hb:b.chk=0:=vU h (by rw[hs];simp);have hd:d.chk=0:=vU h (by rw[hs];simp);have lb:=zJ hb;have ld:=zJ hd;exact⟨ha,qbD hb,qbD hd,by show(qy b).1.length<=_;omega,by show(qy d).1.length<=_;omega⟩
      ·cases hc
     |cons e l=>rw[hs]at hc;cases hc
 ·rw[qBk h7]at hc;cases hc
theorem qrd:∀{l:List Tm} {cs:List Cl},(∀x∈l,x.chk=0)->seqC l=some cs->∀c∈cs,ClOk c
 |[],cs,_,h=>by cases h;intro c hc;cases hc
 |t::l,cs,ho,h=>by
  rw[seqC]at h;obtain⟨c,hc,h⟩:=qAx.1 h;obtain⟨r,hr,rfl⟩:=qAD.1 h;intro d hd;rcases qAZ.1 hd with rfl|hd
  ·exact qtk (ho t List.mem_cons_self) hc
  ·exact qrd (λx hx=>ho x (List.mem_cons_of_mem _ hx)) hr d hd
theorem qhL(t:Tm):(∀c∈(clsG t).1,ClOk c)∧(clsG t).1.length<=8388608:=by
 unfold clsG
 by_cases hc:t.chk=0
 ·rw[qBj hc];have hw:=zD hc;have hl:=zJ hc;cases hs:seqC (qy t).1 with
  |none=>exact⟨λc hc=>(by cases hc),Nat.zero_le _⟩
  |some l=>
   simp only[];have hn:=qiV hs;split
   ·exact⟨qrd (qbD hc) hs,by show l.length<=_;omega⟩
   ·exact⟨λc hc=>(by cases hc),Nat.zero_le _⟩
 ·rw[qBk hc];exact⟨λc hc=>(by cases hc),Nat.zero_le _⟩
end Go.Av
namespace Go.Proofs.YtafdkafbgohigaaGreat
open Go.Av
theorem qpu{V:List Int}{h:Tm}{G B:List Tm}(hV:V.length<1099511627776)(hB:B.length<1099511627776)(wB:∀x∈B,x.w<1099511627776):∀d i:Nat,i+d=B.length ->
  Gets (qhk (ql V) (qa G) (qa B) i 0 0 [] [] [] [] h.kind h.num h.str (qa h.subs) (qa G) (qa B)) (·=clR (if okV V (B.drop i)then some ⟨h,G,B⟩else none)):=by
 intro d
 induction d with
 |zero=>
  intro i hi;obtain rfl:i=B.length:=by omega
  refine qf1 _ _ _ _ _ _ _ _ _ _ _ _ _ _ _ _ ?_;rw[qc,qBi (by omega),cond_false,qAV (qAA _)];refine qnR _ _ _ _ _ _ _ _ _ _ _ _ _ _ _ ?_;exact⟨_,rfl,rfl⟩
 |succ d ih=>
  intro i hi;have hil:i<B.length:=by omega
  have hx:B[i]? =some B[i]:=qAv hil;have hg:=qcD hV (wB _ (qAJ hx));have h1:=ih (i+1) (by omega);rw[qAT hil,qi1];refine qf1 _ _ _ _ _ _ _ _ _ _ _ _ _ _ _ _ ?_;have gx:qAu (qa B) (qAR (i:Int))=some B[i].cells:=xz hx;rw[qc,qBh (show(i:Int)<(B.length:Int) by omega),qI,q8,qBh hil,gx,qL hil hB]
  simp only[cond_true,qAM,qb,qv,qA1,qG,qF,qa7,q9,hg,qm,bneD]
  by_cases h0:vP V B[i]=0
  ·rw[qBh h0,qA9];exact h1
  ·rw[qBi h0];exact⟨_,rfl,rfl⟩
theorem qpv{V:List Int}{h:Tm}{G B:List Tm}(hV:V.length<1099511627776)(hG:G.length<1099511627776)(wG:∀x∈G,x.w<1099511627776)(hB:B.length<1099511627776)(wB:∀x∈B,x.w<1099511627776):∀d i:Nat,i+d=G.length ->
  Gets (qjE (ql V) (qa G) (qa B) i 0 0 [] [] [] [] h.kind h.num h.str (qa h.subs) (qa G) (qa B)) (·=clR (if okV V (G.drop i)&&okV V B then some ⟨h,G,B⟩else none)):=by
 intro d
 induction d with
 |zero=>
  intro i hi;obtain rfl:i=G.length:=by omega
  refine qh8 _ _ _ _ _ _ _ _ _ _ _ _ _ _ _ _ ?_;rw[qc,qBi (by omega),cond_false,qAV (qAA _)];refine qnS _ _ _ _ _ _ _ _ _ _ _ _ _ _ _ ?_;exact qpu (h:=h) (G:=G) hV hB wB B.length 0 (by omega)
 |succ d ih=>
  intro i hi;have hil:i<G.length:=by omega
  have hx:G[i]? =some G[i]:=qAv hil;have hg:=qcD hV (wG _ (qAJ hx));have h1:=ih (i+1) (by omega);rw[qAT hil,qi1];refine qh8 _ _ _ _ _ _ _ _ _ _ _ _ _ _ _ _ ?_;have gx:qAu (qa G) (qAR (i:Int))=some G[i].cells:=xz hx;rw[qc,qBh (show(i:Int)<(G.length:Int) by omega),qI,q8,qBh hil,gx,qL hil hG]
  simp only[cond_true,qAM,qb,qv,qA1,qG,qF,qa7,q9,hg,qm,bneD]
  by_cases h0:vP V G[i]=0
  ·rw[qBh h0,qA9];exact h1
  ·rw[qBi h0];exact⟨_,rfl,rfl⟩
theorem qmI{t:Tm}(hc:t.chk=0):EVf (EV cfg) 130 [t.av]=some (clR (vY t)):=by
 have hw:=zD hc;have hwe:=t.w_eq;have hz:AV.tup [.agg [AV.int .i64 (0:Int),.int .i64 (0:Int),.str [],.sl [],.sl [],.sl []],.bool false]=clR none:=rfl;apply Gets.get;rw[Tm.av,Tm.cells_eq];refine qn7 _ _ _ _ ?_;unfold zw1 zw0;rw[bneD,bneD,hz,qc]
 by_cases h7:t.kind=7
 ·rw[qBh h7]
  by_cases h3:t.subs.length=3
  ·obtain⟨h,g,b,hs⟩:∃h g b,t.subs=[h,g,b]:=by
    cases hs:t.subs with
    |nil=>rw[hs]at h3;simp at h3
    |cons a l=>cases l with
     |nil=>rw[hs]at h3;simp at h3
     |cons b l=>cases l with
      |nil=>rw[hs]at h3;simp at h3
      |cons d l=>cases l with
       |nil=>exact⟨a,b,d,rfl⟩
       |cons e l=>rw[hs]at h3;simp at h3
   have ch:h.chk=0:=vU hc (by rw[hs];simp);have cg:g.chk=0:=vU hc (by rw[hs];simp);have cb:b.chk=0:=vU hc (by rw[hs];simp);rw[hs]at hwe;simp only[qA,xu]at hwe;have lg:=zJ cg;have lb:=zJ cb;have hh:=qtN (t:=h) (by omega);have hv:=qsc (t:=h) (by omega);have e1:=ql6 cg;have e2:=ql6 cb;have hl:=qpv (V:=yj h) (h:=h) (G:=(qy g).1) (B:=(qy b).1) (by have:=qf9 h;omega) (by omega) (λx hx=>by have:=vV hx;omega) (by omega) (λx hx=>by have:=vV hx;omega) (qy g).1.length 0 (by omega)
   have gh:vY t=if qbF h&&((qy g).2&&((qy b).2&& !(qy b).1.isEmpty))&&(okV (yj h) (qy g).1&&okV (yj h) (qy b).1)then some ⟨h,(qy g).1,(qy b).1⟩else none:=by
    unfold vY;rw[qBj h7,hs];rfl
   rw[qBh (show(t.subs.length:Int)=3 by omega),hs,qK,qK,qK,vj,gh];have g0:qAu [h.cells,g.cells,b.cells] 0=some h.cells:=rfl;have g1:qAu [h.cells,g.cells,b.cells] 1=some g.cells:=rfl;have g2:qAu [h.cells,g.cells,b.cells] 2=some b.cells:=rfl;have l0:qi 0 (([h,g,b].length:Nat):Int)=true:=rfl;have l1:qi 1 (([h,g,b].length:Nat):Int)=true:=rfl
   have l2:qi 2 (([h,g,b].length:Nat):Int)=true:=rfl;rw[g0,g1,g2];simp only[l0,l1,l2,Bool.not_true,cond_false,cond_true,qb,qv,qA1,qG,qF,qa7,q9,hh,qk];cases qbF h with
   |false=>exact⟨_,rfl,rfl⟩
   |true=>
    simp only[Bool.not_true,cond_false,qA9,hv,e1,e2,lsR,qb,kTup,qf,xG,qk,kNil,qc,beqI];cases(qy g).2 with
    |false=>exact⟨_,rfl,rfl⟩
    |true=>
     cases(qy b).2 with
     |false=>exact⟨_,rfl,rfl⟩
     |true=>
      simp only[Bool.not_true,cond_false,qA9];cases hb:(qy b).1 with
      |nil=>exact⟨_,rfl,rfl⟩
      |cons x l=>
       rw[hb]at hl;rw[qBi (show ¬(((x::l).length:Nat):Int)=0 by simp;omega)];refine qpR _ _ _ _ _ _ _ ?_;exact hl
  ·have:vY t=none:=by
    unfold vY;rw[qBj h7];cases hs:t.subs with
    |nil=>rfl
    |cons a l=>cases l with
     |nil=>rfl
     |cons b l=>cases l with
      |nil=>rfl
      |cons d l=>cases l with
       |nil=>rw[hs]at h3;simp at h3
       |cons e l=>rfl
   rw[qBi (show ¬(t.subs.length:Int)=3 by omega),this];exact⟨_,rfl,rfl⟩
 ·have:vY t=none:=by unfold vY;rw[qBk h7]
  rw[qBi h7,this];exact⟨_,rfl,rfl⟩
theorem qnb{c:Tm}:∀(n:Nat) (t:Tm) (acc:List Cl),t.w<=n->t.chk=0->acc.length+n<1099511627776 ->
  Gets (qlt c.kind c.num c.str (qa c.subs) 0 0 acc.length false t.kind t.num t.str (qa t.subs) [] (qY acc)) (·=clsQ (clsA acc t)):=by
 intro n
 induction n with
 |zero=>intro t acc h;have:=yJ t;omega
 |succ n ih=>
  intro t acc hw hc hn;refine qnT _ _ _ _ _ _ _ _ _ _ _ _ _ _ ?_;unfold zw2 zw3 zw4 zw5 zw6 zw7 zw8 zw9;rw[beqI,beqI,beqI]
  by_cases h9:t.kind=9
  ·obtain⟨x,y,hs⟩:=qbZ hc h9;have hwe:=t.w_eq;rw[hs]at hwe;simp only[qA,xu]at hwe;have hxc:x.chk=0:=vU hc (by rw[hs];simp);have hyc:y.chk=0:=vU hc (by rw[hs];simp);have hce:=qmI hxc;have e1:qAF (0+acc.length) (qY acc).length=true:=by rw[qA2,vZ];omega
   have e2:qAB acc.length (qY acc)=qY acc:=qAE (by rw[vZ];exact qAA _);rw[qBh h9,cond_true,hs,lt0T,qkK,lt1T,qkJ,e1,e2,qlT (by omega)];simp only[cond_true,qAM,qb,qv,qA1,qG,qF,qa7,q9,hce];cases hcl:vY x with
   |none=>
    have:clsA acc t=([],10):=by unfold clsA;rw[xH h9 hs,seqC,hcl];rfl
    rw[this];exact⟨_,rfl,rfl⟩
   |some d=>
    have:clsA acc t=clsA (acc++[d]) y:=by
     unfold clsA;rw[xH h9 hs,seqC,hcl];cases seqC (qy y).1 with
     |none=>rfl
     |some l=>simp
    rw[this];have h:=ih y (acc++[d]) (by omega) hyc (by rw[qAI,List.length_singleton];omega);rw[qAI,List.length_singleton]at h;have e3:qAG (qY acc) [[AV.int .i64 d.head.kind,.int .i64 d.head.num,.str d.head.str,.sl (qa d.head.subs),.sl (qa d.gs),.sl (qa d.bs)]]=qY (acc++[d]):=(qde acc [d]).symm;simp only[clR,Cl.av,Cl.cells,kTup,qf,kAgg,qm,qT,xG,kNil,qk,Bool.not_true,cond_false,e3]
    exact h
  ·rw[qBi h9,cond_false];have hi:clsA acc t=if t.kind=8∧acc≠[]then(acc,0)else([],10):=by
    unfold clsA;rw[yL h9,seqC]
    by_cases h8:t.kind=8
    ·cases acc<;>simp[h8]
    ·simp[h8]
   rw[hi]
   by_cases h8:t.kind=8
   ·rw[qBh h8];cases acc with
    |nil=>rw[qBk (λh=>h.2 rfl)];exact⟨_,rfl,rfl⟩
    |cons a l=>
     rw[qBi (show ¬(((a::l).length:Nat):Int)=0 by simp;omega),qBj ⟨h8,by simp⟩];exact⟨_,rfl,rfl⟩
   ·rw[qBi h8,qBk (λh=>h8 h.1)];exact⟨_,rfl,rfl⟩
theorem qpt{c:Tm}:∀(n:Nat) (t:Tm) (acc:List Cl),t.w<=n->t.chk=0->acc.length+n<1099511627776 ->
  Gets (qnU c.kind c.num c.str (qa c.subs) 0 0 acc.length false t.kind t.num t.str (qa t.subs) [] (qY acc)) (·=clsQ (clsA acc t)):=by
 intro n
 induction n with
 |zero=>intro t acc h;have:=yJ t;omega
 |succ n ih=>
  intro t acc hw hc hn;refine qpS _ _ _ _ _ _ _ _ _ _ _ _ _ _ ?_;unfold zw2 zw3 zw4 zw5 zw6 zw7 zw8 zw9;rw[beqI,beqI,beqI]
  by_cases h9:t.kind=9
  ·obtain⟨x,y,hs⟩:=qbZ hc h9;have hwe:=t.w_eq;rw[hs]at hwe;simp only[qA,xu]at hwe;have hxc:x.chk=0:=vU hc (by rw[hs];simp);have hyc:y.chk=0:=vU hc (by rw[hs];simp);have hce:=qmI hxc;have e1:qAF (0+acc.length) (qY acc).length=true:=by rw[qA2,vZ];omega
   have e2:qAB acc.length (qY acc)=qY acc:=qAE (by rw[vZ];exact qAA _);rw[qBh h9,cond_true,hs,lt0T,qkK,lt1T,qkJ,e1,e2,qlT (by omega)];simp only[cond_true,qAM,qb,qv,qA1,qG,qF,qa7,q9,hce];cases hcl:vY x with
   |none=>
    have:clsA acc t=([],10):=by unfold clsA;rw[xH h9 hs,seqC,hcl];rfl
    rw[this];exact⟨_,rfl,rfl⟩
   |some d=>
    have:clsA acc t=clsA (acc++[d]) y:=by
     unfold clsA;rw[xH h9 hs,seqC,hcl];cases seqC (qy y).1 with
     |none=>rfl
     |some l=>simp
    rw[this];have h:=qnb (c:=c) n y (acc++[d]) (by omega) hyc (by rw[qAI,List.length_singleton];omega);rw[qAI,List.length_singleton]at h;have e3:qAG (qY acc) [[AV.int .i64 d.head.kind,.int .i64 d.head.num,.str d.head.str,.sl (qa d.head.subs),.sl (qa d.gs),.sl (qa d.bs)]]=qY (acc++[d]):=(qde acc [d]).symm;simp only[clR,Cl.av,Cl.cells,kTup,qf,kAgg,qm,qT,xG,kNil,qk,Bool.not_true,cond_false,e3]
    exact h
  ·rw[qBi h9,cond_false];have hi:clsA acc t=if t.kind=8∧acc≠[]then(acc,0)else([],10):=by
    unfold clsA;rw[yL h9,seqC]
    by_cases h8:t.kind=8
    ·cases acc<;>simp[h8]
    ·simp[h8]
   rw[hi]
   by_cases h8:t.kind=8
   ·rw[qBh h8];cases acc with
    |nil=>rw[qBk (λh=>h.2 rfl)];exact⟨_,rfl,rfl⟩
    |cons a l=>
     rw[qBi (show ¬(((a::l).length:Nat):Int)=0 by simp;omega),qBj ⟨h8,by simp⟩];exact⟨_,rfl,rfl⟩
   ·rw[qBi h8,qBk (λh=>h8 h.1)];exact⟨_,rfl,rfl⟩
theorem qtj{t:Tm}(hw:t.w<1099511627776):EVq (EV cfg) 81 [t.av]=some (clsQ (clsG t)):=by
 have hk:=qi9 hw;apply Gets.get;rw[Tm.av,Tm.cells_eq]at hk⊢;refine qlE _ _ _ _ ?_;rw[hk];simp only[qb,qm,bneD];unfold clsG
 by_cases hc:t.chk=0
 ·rw[qBh hc,qBj hc];exact qpt (c:=t) t.w t [] (qAA _) hc (by have:=zD hc;simp;omega)
 ·rw[qBi hc,qBk hc];exact⟨_,rfl,rfl⟩
theorem qgd{t:Tm}(hw:t.w<1099511627776):EVf (EV cfg) 56 [t.av]=some (.tup [.sl (qY (clsG t).1),.int .i64 (clsG t).2]):=by
 have hk:=qtj hw;obtain⟨ho,hn⟩:=qhL t;apply Gets.get;rw[Tm.av,Tm.cells_eq]at hk⊢;refine qmU _ _ _ _ ?_;rw[hk];simp only[clsQ,qb,qm,xh,bneD];have hz:(clsG t).2≠0->(clsG t).1=[]:=by
  unfold clsG
  by_cases hc:t.chk=0
  ·rw[qBj hc];cases seqC (qy t).1 with
   |none=>intro _;rfl
   |some l=>
    simp only[];split
    ·intro h;exact absurd rfl h
    ·intro _;rfl
  ·rw[qBk hc];intro _;rfl
 generalize hl:(clsG t).1=l at *;generalize he:(clsG t).2=e at *
 by_cases h0:e=0
 ·subst h0;rw[qBh rfl];simp only[Bool.not_true,cond_false];have loop:∀d i:Nat,i+d=l.length->Gets (qhj 6 0 l.length i (qY l)) (·= .tup [.sl (qY l),.int .i64 0]):=by
   intro d
   induction d with
   |zero=>
    intro i hi;obtain rfl:i=l.length:=by omega
    refine qf0 _ _ _ _ _ ?_;have hb:qAF (0+l.length) (qY l).length=true:=by rw[qA2,vZ];omega
    have ht:qAB l.length (qAO 0 (qY l))=qY l:=qAE (by rw[qA4,vZ];exact qAA _);rw[qBi (by omega),hb,ht];exact⟨_,rfl,rfl⟩
   |succ d ih=>
    intro i hi;have hil:i<l.length:=by omega
    have hx:l[i]? =some l[i]:=qAv hil;obtain⟨c1,c2,c3,c4,c5⟩:=ho _ (qAJ hx);have k1:=qru (qov c1);have k2:=qie (l:=l[i].gs) (by omega) (λx hx=>qov (c2 x hx));have k3:=qie (l:=l[i].bs) (by omega) (λx hx=>qov (c3 x hx));have gx:qAu (qY l) (0+qAR (i:Int))=some l[i].cells:=by
     rw[qA5,qB,qAS,qgi,hx];rfl
    have gs:List.set (qY l) (0+qAR (i:Int)) l[i].cells=qY l:=by
     rw[qA5,qAS,qmg,List.set_getElem_self]
    have h1:=ih (i+1) (by omega);refine qf0 _ _ _ _ _ ?_;rw[qBh (show(i:Int)<(l.length:Int) by omega),qI,q8,qBh hil,gx,qL hil (show l.length<1099511627776 by omega)];have b6:qAF 6 l[i].cells.length=true:=rfl;have t6:qAB 6 l[i].cells=l[i].cells:=rfl;have d6:qAO 6 l[i].cells=[]:=rfl;simp only[show qAz 6 6=true from rfl,cond_true,qAM,qb,b6,t6,d6]
    unfold Cl.cells at gs⊢;simp only[qf,qm,qT,xG,kNil,q9,k1,k2,k3,qb,qaG,gs];exact h1
  exact loop l.length 0 (by omega)
 ·rw[qBi h0,hz h0];exact⟨_,rfl,rfl⟩
end Go.Proofs.YtafdkafbgohigaaGreat
end
noncomputable section
namespace Go.Av
structure EnvW (e:Env):Prop where
 obj:e.obj.w<1099511627776
 len:e.binds.length<1099511627776
 binds:∀p∈e.binds,p.2.w<1099511627776
end Go.Av
namespace Go.Proofs.YtafdkafbgohigaaGreat
open Go.Av
end Go.Proofs.YtafdkafbgohigaaGreat
end
noncomputable section
namespace Go.Av
theorem qe9:∀l:List Tm,wL l+l.length<=(vG l).w
 |[]=>Nat.zero_le _
 |x::l=>by
  have h:=qe9 l;have:(vG (x::l)).w=1+0+(x.w+((vG l).w+0))∨wL (x::l)+(x::l).length<=(vG (x::l)).w:=by
   right
   have e:=(vG (x::l)).w_eq;have:(vG (x::l)).subs=[x,vG l]:=rfl;rw[this]at e;simp only[qA,xu,qA0]at e⊢;omega
  rcases this with h1|h1
  ·simp only[qA,qA0];omega
  ·exact h1
end Go.Av
namespace Go.Proofs.YtafdkafbgohigaaGreat
open Go.Av
end Go.Proofs.YtafdkafbgohigaaGreat
end
noncomputable section
namespace Go.Av
def okC(c:Cl):Bool:=qbF c.head&& !c.bs.isEmpty&&(c.gs.all (λe=>decide (vP (yj c.head) e=0))&&c.bs.all (λe=>decide (vP (yj c.head) e=0)))
theorem qqV(c:Cl):vY (clT c)=if okC c then some c else none:=by
 unfold vY clT;rw[qBj (show(tupT [c.head,vG c.gs,vG c.bs]).kind=7 from rfl)];show(if qbF c.head&&((qy (vG c.gs)).2&&((qy (vG c.bs)).2&& !(qy (vG c.bs)).1.isEmpty))&&((qy (vG c.gs)).1.all (λe=>decide (vP (yj c.head) e=0))&&(qy (vG c.bs)).1.all (λe=>decide (vP (yj c.head) e=0)))then some (Cl.mk c.head (qy (vG c.gs)).1 (qy (vG c.bs)).1)else none)=_
 rw[qb5,qb5];simp only[qA9];rfl
theorem qn8:∀cs:List Cl,seqC (cs.map clT)=if cs.all okC then some cs else none
 |[]=>rfl
 |c::cs=>by
  rw[qBf,seqC,qqV,qn8 cs,List.all_cons];cases okC c<;>cases cs.all okC<;>rfl
theorem qmG(cs:List Cl):clsG (selT cs)=if(selT cs).chk=0 then(if cs.all okC&& !cs.isEmpty then(cs,0)else([],10))else([],2):=by
 unfold clsG;have h:qy (selT cs)=(cs.map clT,true):=qb5 _;rw[h];simp only[qn8,qA9];cases h1:cs.all okC<;>cases cs<;>simp
structure SelOk (cs:List Cl):Prop where
 chk:(selT cs).chk=0
 ok:∀c∈cs,okC c=true
 ne:cs≠[]
theorem qmF{cs:List Cl}:(clsG (selT cs)).2=0↔SelOk cs:=by
 rw[qmG]
 by_cases h:(selT cs).chk=0
 ·rw[qBj h];cases h1:cs.all okC&& !cs.isEmpty with
  |true=>
   rw[qAw,qBd]at h1;exact⟨λ_=>⟨h,h1.1,by rintro rfl;exact absurd h1.2 (by simp)⟩,λ_=>rfl⟩
  |false=>
   refine⟨λh=>(by cases h),λg=>?_⟩;rw[qBd.2 g.ok,qA9]at h1;exact absurd (List.isEmpty_iff.1 (by simpa using h1)) g.ne
 ·rw[qBk h];exact⟨λh=>(by cases h),λg=>absurd g.chk h⟩
theorem SelOk.cls{cs:List Cl}(h:SelOk cs):clsG (selT cs)=(cs,0):=by
 rw[qmG,qBj h.chk,qBd.2 h.ok];cases cs with
 |nil=>exact absurd rfl h.ne
 |cons c cs=>rfl
theorem SelOk.of{cs:List Cl}(h:SelOk cs):ofG cs=(selT cs,0):=by
 unfold ofG;rw[qBj (qmF.2 h)]
theorem quR{t a b:Tm}(hc:t.chk=0)(hk:t.kind=9)(hs:t.subs=[a,b]):t= .mk 9 0 [] [a,b]:=by
 obtain⟨h1,_⟩:=zi.1 hc;obtain⟨k,n,s,l⟩:=t;simp only[Tm.kind_mk,Tm.subs_mk]at hk hs;subst hk hs;rw[Tm.parts_eq,qAw]at h1;have h2:yq 9 n s 2=true:=h1.1;simp[yq]at h2;rw[h2.1,h2.2]
theorem qvU{t:Tm}(hc:t.chk=0)(hk:t.kind=8):t= .mk 8 0 [] []:=by
 obtain⟨h1,_⟩:=zi.1 hc;obtain⟨k,n,s,l⟩:=t;simp only[Tm.kind_mk]at hk;subst hk;rw[Tm.parts_eq,qAw]at h1;have h2:yq 8 n s l.length=true:=h1.1;simp[yq]at h2;rw[h2.1,h2.2.1,h2.2.2]
theorem qvv{t:Tm}(hc:t.chk=0)(hk:t.kind=7):t=tupT t.subs:=by
 obtain⟨h1,_⟩:=zi.1 hc;obtain⟨k,n,s,l⟩:=t;simp only[Tm.kind_mk]at hk;subst hk;rw[Tm.parts_eq,qAw]at h1;have h2:yq 7 n s l.length=true:=h1.1;simp[yq]at h2;rw[h2.1,h2.2.1];rfl
theorem qea{t:Tm}(hc:t.chk=0)(h:(qy t).2=true):vG (qy t).1=t:=by
 refine qlW (P:=λt=>(qy t).2=true->t.chk=0->vG (qy t).1=t) t hc (λt a b hk hs hc ih h hc=>?_) (λt hk hc h hc=>?_) h hc
 ·rw[xH hk hs]at h⊢;have h2:=ih h (vU hc (by rw[hs];simp));show Tm.mk 9 0 [] [a,vG (qy b).1]=t;rw[h2,←quR hc hk hs]
 ·rw[yL hk]at h⊢;exact(qvU hc (of_decide_eq_true h)).symm
theorem qtl{t:Tm}(hc:t.chk=0){c:Cl}(h:vY t=some c):t=clT c:=by
 unfold vY at h;split at h
 ·rename_i hk;split at h
  ·rename_i a g b hs;split at h
   ·rename_i hcond;cases h;simp only[qAw]at hcond;have hg:=qea (vU hc (x:=g) (by rw[hs];simp)) hcond.1.2.1;have hb:=qea (vU hc (x:=b) (by rw[hs];simp)) hcond.1.2.2.1;show t=tupT [a,vG (qy g).1,vG (qy b).1];rw[hg,hb,←hs];exact qvv hc hk
   ·cases h
  ·cases h
 ·cases h
theorem ql9:∀{l:List Tm} {cs:List Cl},(∀x∈l,x.chk=0)->seqC l=some cs->l=cs.map clT
 |[],cs,_,h=>by cases h;rfl
 |t::l,cs,hc,h=>by
  rw[seqC]at h;obtain⟨c,h1,h⟩:=qAx.1 h;obtain⟨r,hr,rfl⟩:=qAD.1 h;rw[qBf,←qtl (hc t (by simp)) h1,ql9 (λx hx=>hc x (by simp[hx])) hr]
theorem qg4{t:Tm}(h:(clsG t).2=0):selT (clsG t).1=t∧SelOk (clsG t).1:=by
 have key:selT (clsG t).1=t:=by
  unfold clsG at h⊢
  by_cases hc:t.chk=0
  ·rw[qBj hc]at h⊢;cases hs:seqC (qy t).1 with
   |none=>rw[hs]at h;cases h
   |some l=>
    rw[hs]at h;simp only[]at h⊢;split at h
    ·rename_i h2;rw[qBj h2];rw[qAw]at h2;show vG (l.map clT)=t;rw[←ql9 (qbD hc) hs];exact qea hc h2.1
    ·cases h
  ·rw[qBk hc]at h;cases h
 refine⟨key,qmF.1 ?_⟩;rw[key];exact h
theorem qd8:∀l:List Tm,(vG l).words=1+l.length+vh l
 |[]=>by decide
 |x::l=>by
  have h:(vG (x::l)).words=1+(x.words+((vG l).words+0)):=by
   show(Tm.mk 9 0 [] [x,vG l]).words=_;rw[Tm.words];simp[vh,Tm.own]
  rw[h,qd8 l,vh,qA0];omega
theorem qd9:∀l:List Tm,(vG l).parts=vN l
 |[]=>by decide
 |x::l=>by
  have h:(vG (x::l)).parts=(x.parts&&((vG l).parts&&true)):=by
   show(Tm.mk 9 0 [] [x,vG l]).parts=_;rw[Tm.parts];simp[vN,yq]
  rw[h,qd9 l,vN,Bool.and_true]
theorem qxj{c:Cl}:(selT [c]).chk=0↔(clT c).parts=true∧2+(clT c).words<=65536:=by
 rw[zi,selT,qd8,qd9];simp[vN,vh]
theorem SelOk.one{cs:List Cl}(h:SelOk cs){c:Cl}(hc:c∈cs):SelOk [c]:=by
 obtain⟨h1,h2⟩:=zi.1 h.chk;rw[selT,qd9]at h1;rw[selT,qd8]at h2;have hm:=List.mem_map_of_mem (f:=clT) hc;have:=qjz hm;have hl:1<=cs.length:=List.length_pos_of_mem hc;rw[qBe]at h2;exact⟨qxj.2 ⟨qcK h1 _ hm,by omega⟩,by simpa using h.ok c hc,by simp⟩
end Go.Av
end
noncomputable section
namespace Go.Proofs.YtafdkafbgohigaaGreat
open Go.Av
def qw6(t:Tm)(most:Int)(v:AV):Prop:=∃n:Int,v= .int .i64 n∧1<=n∧n<=most∧(n<most->t.w<=101*n∧t.words<=2*n)
theorem qvB(t:Tm):t.Ok->∀most:Int,1<=most->most<=1073741824->Gets (EVs (EV cfg) 40 [t.av,.int .i64 most]) (qw6 t most):=by
 induction t using Tm.ind with
 |_ k n s l ih=>
  intro hok most h1 hmx
  by_cases hs:s.length<=100
  ·have loop:∀(d i:Nat) (m:Int),i+d=l.length->1<=m->m<=most->(m<most->(1+s.length:Nat)+wL (l.take i)<=101*m∧2+vh (l.take i)<=2*m)->Gets (qjC most m i k n s (qa l)) (qw6 (.mk k n s l) most):=by
    intro d
    induction d with
    |zero=>
     intro i m hi hm1 hm2 hmw;refine qh6 _ _ _ _ _ _ _ ?_;rw[qc,qBi (by omega)];refine⟨_,rfl,m,rfl,hm1,hm2,λhlt=>?_⟩;have hmw:=hmw hlt;rw[qAE (by omega)]at hmw;have:=(Tm.mk k n s l).own_le;rw[Tm.w_mk,Tm.words];omega
    |succ d ihd=>
     intro i m hi hm1 hm2 hmw;refine qh6 _ _ _ _ _ _ _ ?_;have hil:i<l.length:=by omega
     have hx:l[i]? =some l[i]:=qAv hil;have hxl:=qAJ hx;have hix:=ih l[i] hxl (hok.sub hxl)
     by_cases hm:m<most
     ·have hmw:=hmw hm;rw[qL hil hok.len,vE (x:=most - m) (by omega) (by omega)];simp[hil,hm];refine Gets.bind (hix (most - m) (by omega) (by omega)) ?_;rintro _ ⟨n'',rfl,q1,q2,q3⟩;have hg:=ihd (i+1) (m+n'') (by omega) (by omega) (by omega) (λhlt=>by
       have:=q3 (by omega);rw[List.take_add_one,hx,Option.toList_some,zB,qcA,qA,xu,vh,vh];omega)
      simp only[qm];rw[vE (x:=m+n'') (by omega) (by omega)]
      simpa using hg
     ·simp[hil,hm];exact⟨m,rfl,hm1,hm2,λh=>absurd h hm⟩
   rw[Tm.av_mk];refine qix _ _ _ _ _ ?_;rw[qBi (by omega)]
   by_cases h2:(l.length:Int)>most
   ·rw[qc,qBh h2];exact⟨_,rfl,most,rfl,h1,Int.le_refl _,λh=>absurd h (by omega)⟩
   ·rw[qc,qBi h2];exact loop l.length 0 1 (by omega) (by omega) (by omega) (λ_=>by simp[vh];omega)
  ·rw[Tm.av_mk];refine qix _ _ _ _ _ ?_;rw[qBh (by omega)];exact⟨_,rfl,most,rfl,h1,Int.le_refl _,λh=>absurd h (by omega)⟩
def BigP(t:Tm)(most:Int)(v:AV):Prop:=∃b:Bool,v= .bool b∧(b=false->t.w<=101*most∧t.words<=2*most)
theorem qxz{t:Tm}(h:t.Ok){most:Int}(h1:1<=most)(h2:most<=1000000000):Gets (EVs (EV cfg) 9 [t.av,.int .i64 most]) (BigP t most):=by
 have h1:=qvB t h (most+1) (by omega) (by omega);rw[Tm.av,Tm.cells_eq]at h1⊢;refine qsq _ _ _ _ _ ?_;rw[vE (by omega) (by omega)];refine Gets.bind h1 ?_;rintro _ ⟨n,rfl,q1,q2,q3⟩;simp only[qm];refine⟨_,rfl,_,rfl,λhb=>?_⟩;have hb:¬n>most:=of_decide_eq_false hb;have:=q3 (by omega);omega
def qzr:Den:=evC cfg (EV cfg) 52 none 0 (sub (qg Tryz.f52) [1,1,0,1,0,0])
def qzT:Ex×List AV×AH->Option AV:=kAft (Cfg.keepOut cfg 52 4) (kRun cfg (EV cfg) (kfN cfg 6) 52 none 0 (yK cfg (Cfg.lift cfg 52 0) Tryz.f52.results.toList) ([.block 0,.seq (sub (qg Tryz.f52) [1,1,1])]))
def qy8:List AV×AH->Option AV:=λp=>kOpt (LOOP 0 (some [0,1,5]) ([]) qzr p) qzT
def qzs:Den:=evC cfg (EV cfg) 41 none 0 (sub (qg Tryz.f41) [1,1,0,1,0,0])
def qzU:Ex×List AV×AH->Option OV:=kAft (Cfg.keepOut cfg 41 3) (kRun cfg (EV cfg) (kfN cfg 6) 41 none 0 (qky cfg (Cfg.lift cfg 41 0) Tryz.f41.results.toList) ([.block 0,.seq (sub (qg Tryz.f41) [1,1,1])]))
def qy9:List AV×AH->Option OV:=λp=>kOpt (LOOP 0 (some [0,3,4]) ([(3,4)]) qzs p) qzU
abbrev qjx(A B:Rz)(v5:Int):Option (AV):=qy8 (((fx 27 [(0,.sl A),(1,.sl B),(5,.int .i64 v5)]):List AV),([]:AH))
abbrev qjy(A:Rz)(nv3:Nat)(v4:Int)(h0:Rz):Option (OV):=qy9 (((fx 20 [(0,.sl A),(3,.ms 0 0 nv3),(4,.int .i64 v4)]):List AV),([.rows true 4 h0]:AH))
theorem qd0(ka na:Int)(sa:Bz)(la:Rz)(kb nb:Int)(sb:Bz)(lb:Rz){P:AV->Prop}(h:Gets (bif ka==kb then bif na==nb then bif sa==sb then kOpt (EVs (EV cfg) 52 [.sl la,.sl lb]) λv=>qJ v λb=>some (.bool b)else some (.bool false)else some (.bool false)else some (.bool false)) P):Gets (EVs (EV cfg) 14 [.agg [.int .i64 ka,.int .i64 na,.str sa,.sl la],.agg [.int .i64 kb,.int .i64 nb,.str sb,.sl lb]]) P:=
  gE (λ_=>funS rfl rfl Tryz.func14 rfl) (by kernel_rfl) h
theorem qdz(A B:Rz){P:AV->Prop}(h:Gets (bif(A.length:Int) != (B.length:Int)then some (.bool false)else qjx A B 0) P):Gets (EVs (EV cfg) 52 [.sl A,.sl B]) P:=
  gE (λ_=>funS rfl rfl Tryz.func52 rfl) (by kernel_rfl) h
theorem qd1(kt nt:Int)(st:Bz)(lt:Rz){P:AV->Prop}(h:Gets (kOpt (EVo (EV cfg) 41 [.sl lt]) λo=>kOwn o (some (.agg [.int .i64 kt,.int .i64 nt,.str st,.sl []])) λsz rs off len=>bif qAF (off+len) (qAt rs)&&true then some (.agg [.int .i64 kt,.int .i64 nt,.str st,.sl (qAB len (qAO off rs))])else none) P):Gets (EVf (EV cfg) 11 [.agg [.int .i64 kt,.int .i64 nt,.str st,.sl lt]]) P:=
  gE (λ_=>funF rfl rfl Tryz.func11 rfl) (by kernel_rfl) h
theorem qdA(A:Rz){P:OV->Prop}(h:Gets (qjy A 0 0 []) P):Gets (EVo (EV cfg) 41 [.sl A]) P:=
  gE (λ_=>funO rfl rfl Tryz.func41 rfl) (by kernel_rfl) h
theorem qh1(A B:Rz)(v5:Int){P:AV->Prop}(h:Gets (bif decide (v5<(A.length:Int))then bif qe 0 v5&&qi v5 (A.length:Int)then kOpt (qAu A (v5.toNat)) λrow=>bif qAz (qAt row) 4 then bif qAF 4 (qAt row)then kTmC (qAB 4 row) λn n_1 s rows=>(bif qe 0 v5&&qi v5 (B.length:Int)then kOpt (qAu B (v5.toNat)) λrow=>bif qAz (qAt row) 4 then bif qAF 4 (qAt row)then kTmC (qAB 4 row) λn_2 n_3 s_1 rows_1=>(kOpt (EVs (EV cfg) 14 [.agg [.int .i64 n,.int .i64 n_1,.str s,.sl rows],.agg [.int .i64 n_2,.int .i64 n_3,.str s_1,.sl rows_1]]) λv=>qJ v λb=>bif ! b then some (.bool false)else qjx A B (qAH .i64 (v5+1)))else none else none else none)else none else none else none else some (.bool true)) P):Gets (qjx A B v5) P:=
  gE (λ_=>qt (cfg:=cfg) (f:=52) (rd:=none) (bs:=0)) (by kernel_rfl) h
theorem qh2(A:Rz)(nv3:Nat)(v4:Int)(h0:Rz){P:OV->Prop}(h:Gets (bif decide (v4<(A.length:Int))then bif qe 0 v4&&qi v4 (A.length:Int)then kOpt (qAu A (v4.toNat)) λrow=>bif qAz (qAt row) 4 then bif qAF 4 (qAt row)then kTmC (qAB 4 row) λn n_1 s rows=>(kOpt (EVf (EV cfg) 11 [.agg [.int .i64 n,.int .i64 n_1,.str s,.sl rows]]) λv=>kTmV v λn n_2 s rows=>(bif qAF (0+nv3) (qAt h0)&&qo (nv3+1) 56 then qjy A (nv3+1) (qAH .i64 (v4+1)) (qAG (qAB nv3 h0) [[.int .i64 n,.int .i64 n_2,.str s,.sl rows]])else none))else none else none else none else some (OV.own 4 h0 0 nv3)) P):Gets (qjy A nv3 v4 h0) P:=
  gE (λ_=>qt (cfg:=cfg) (f:=41) (rd:=none) (bs:=0)) (by kernel_rfl) h
theorem qvG(la lb:List Tm)(hlen:la.length<1099511627776)(ih:∀a∈la,∀b,Gets (EVs (EV cfg) 14 [a.av,b.av]) (qlm (a=b))):Gets (EVs (EV cfg) 52 [.sl (qa la),.sl (qa lb)]) (qlm (la=lb)):=by
 have loop:la.length=lb.length->∀(d i:Nat),i+d=la.length->la.take i=lb.take i->Gets (qjx (qa la) (qa lb) i) (qlm (la=lb)):=by
  intro hl d
  induction d with
  |zero=>
   intro i hi ht;refine qh1 _ _ _ ?_;rw[qAE (by omega),qAE (by omega)]at ht;have h1:¬i<la.length:=by omega
   simp[h1,zF];exact ht
  |succ d ihd=>
   intro i hi ht;refine qh1 _ _ _ ?_;have hlt1:i<la.length:=by omega
   have hlt2:i<lb.length:=by omega
   have hx:la[i]? =some la[i]:=qAv hlt1;have hy:lb[i]? =some lb[i]:=qAv hlt2;have hix:=ih la[i] (qAJ hx) lb[i];have hta:la.take (i+1)=la.take i++[la[i]]:=by rw[List.take_add_one,hx];rfl
   have htb:lb.take (i+1)=lb.take i++[lb[i]]:=by rw[List.take_add_one,hy];rfl
   have hih:=ihd (i+1) (by omega);have hne:la[i]≠lb[i]->la≠lb:=by intro h e;subst e;exact h rfl
   rw[hta,htb,ht]at hih;rw[qL (n:=la.length) (by omega) hlen];simp[hlt1,hlt2];refine Gets.bind hix ?_;rintro _ ⟨b,rfl,hb⟩;cases b with
   |true=>simp;exact hih (by rw[hb.1 rfl])
   |false=>
    have:la≠lb:=hne (λe=>by cases hb.2 e);simp[zF,this]
 refine qdz _ _ ?_
 by_cases hl:la.length=lb.length
 ·simp[hl];exact loop hl la.length 0 (by omega) (by simp)
 ·have:la≠lb:=λe=>hl (by rw[e])
  have hl':¬((la.length:Int)=lb.length):=by omega
  simp[bneD,hl',zF,this]
theorem qvF(a:Tm):a.Ok->∀b:Tm,Gets (EVs (EV cfg) 14 [a.av,b.av]) (qlm (a=b)):=by
 induction a using Tm.ind with
 |_ k n s l ih=>
  intro hok b;obtain⟨k',n',s',l'⟩:=b;have hl:=qvG l l' hok.len (λa ha b=>ih a ha (hok.sub ha) b);rw[Tm.av_mk,Tm.av_mk];refine qd0 _ _ _ _ _ _ _ _ ?_
  by_cases h1:k=k'
  ·by_cases h2:n=n'
   ·by_cases h3:s=s'
    ·subst h1 h2 h3;simp;refine Gets.bind hl ?_;rintro _ ⟨b,rfl,hb⟩;simp[zF,hb]
    ·simp[h1,h2,beqD,h3,zF]
   ·simp[h1,beqD,h2,zF]
  ·simp[beqD,h1,zF]
theorem qge{a b:Tm}(h:a.Ok){c:Bool}(hc:c=true↔a=b):EVs (EV cfg) 14 [a.av,b.av]=some (.bool c):=by
 obtain⟨_,h1,b',rfl,h2⟩:=qvF a h b;rw[h1];have:b'=c:=by rw[Bool.eq_iff_iff];exact h2.trans hc.symm
 rw[this]
def xb(p:Int)(x:InsA):InsA:=
 if x.o∈([1,2,4,6,14,11,12,10,13,17]:List Int)then⟨x.o,x.a,p,x.t⟩else if x.o=15∨x.o=16 then⟨x.o,p,x.b,x.t⟩else x
theorem qxw(p:Int)(x:InsA):(xb p x).o=x.o:=by unfold xb;split;rfl;split<;>rfl
theorem qrq(p:Int)(x:InsA):(xb p x).t=x.t:=by unfold xb;split;rfl;split<;>rfl
def xM:List Tm->Nat->List InsA
 |[],_=>[]
 |e::l,at_=>qp e at_++iz 14 0 0::xM l (at_+(qp e at_).length+1)
def qaf:List Tm->Nat->List InsA
 |[],_=>[]
 |e::l,at_=>iz 19 0 0::(qp e (at_+1)++qaf l (at_+1+(qp e (at_+1)).length))
def xJ:List Tm->Nat->List InsA
 |[],_=>[]
 |e::l,at_=>qp e at_++qaf l (at_+(qp e at_).length)
def xf(c:Cl)(at_:Nat):List InsA:=(vg c.head []).1++xM c.gs (at_+(vg c.head []).1.length)
def qhr(c:Cl)(at_:Nat):List InsA:=iz 18 0 0::(xJ c.bs (at_+(xf c at_).length+1)++[iz 20 0 0])
def xY(c:Cl)(at_:Nat):List InsA:=(xf c at_).map (xb ((at_+(xf c at_).length+(qhr c at_).length:Nat):Int))++qhr c at_
def xA:List Cl->Nat->List InsA
 |[],_=>[]
 |c::l,at_=>xY c at_++xA l (at_+(xY c at_).length)
def wCl(c:Cl):Nat:=c.head.w+(wL c.gs+c.gs.length)+(wL c.bs+c.bs.length)
theorem qb7:∀(l:List Tm) (i:Nat),(xM l i).length<=wL l+l.length
 |[],i=>by simp[xM]
 |e::l,i=>by
  have h1:=xi e i;have h2:=qb7 l (i+(qp e i).length+1);rw[xM,qA];simp;omega
theorem qmi:∀(l:List Tm) (i:Nat),(qaf l i).length<=wL l+l.length
 |[],i=>by simp[qaf]
 |e::l,i=>by
  have h1:=xi e (i+1);have h2:=qmi l (i+1+(qp e (i+1)).length);rw[qaf,qA];simp;omega
theorem qmM(l:List Tm)(i:Nat):(xJ l i).length<=wL l+l.length:=by
 cases l with
 |nil=>simp[xJ]
 |cons e l=>
  have h1:=xi e i;have h2:=qmi l (i+(qp e i).length);rw[xJ,qA];simp;omega
theorem qcc(c:Cl)(i:Nat):(xY c i).length<=wCl c+2:=by
 have h1:=qbV c.head [];have h2:=qb7 c.gs (i+(vg c.head []).1.length);have h3:=qmM c.bs (i+(xf c i).length+1);unfold xY qhr wCl;rw[qAI,qBe];unfold xf at *;simp at h1 h2 h3⊢;omega
theorem qdw(c:Cl):wCl c+2<=2*(clT c).w:=by
 have h1:=qe9 c.gs;have h2:=qe9 c.bs;have:(clT c).w=1+(c.head.w+((vG c.gs).w+((vG c.bs).w+0))):=by
  rw[Tm.w_eq];show 1+0+wL [c.head,vG c.gs,vG c.bs]=_;simp only[qA,xu]
 unfold wCl;omega
theorem qdT:∀(l:List Cl) (i:Nat),(xA l i).length<=2*wL (l.map clT)
 |[],i=>by simp[xA]
 |c::l,i=>by
  have h1:=qcc c i;have h2:=qdw c;have h3:=qdT l (i+(xY c i).length);rw[xA,qBf,qA];simp;omega
def q5(B:Nat)(l:List InsA):Prop:=∀x∈l,x.o≠20∧x.t.w<=B
theorem q5.app{B:Nat}{a b:List InsA}(ha:q5 B a)(hb:q5 B b):q5 B (a++b):=λx hx=>(qAY.1 hx).elim (ha x) (hb x)
theorem q5.mono{B B':Nat}{a:List InsA}(ha:q5 B a)(h:B<=B'):q5 B' a:=λx hx=>⟨(ha x hx).1,Nat.le_trans (ha x hx).2 h⟩
theorem zT_w:zT.w=1:=by rw[Tm.w_mk];simp
theorem q5.z{B:Nat}(hB:1<=B){o a b:Int}(ho:o≠20):q5 B [iz o a b]:=λx hx=>by
 rw[List.mem_singleton]at hx;subst hx;exact⟨ho,by show zT.w<=B;rw[zT_w];exact hB⟩
theorem q5.t{B:Nat}{t:Tm}(hB:t.w<=B){o a b:Int}(ho:o≠20):q5 B [⟨o,a,b,t⟩]:=λx hx=>by
 rw[List.mem_singleton]at hx;subst hx;exact⟨ho,hB⟩
theorem q5.nil{B:Nat}:q5 B []:=λx hx=>absurd hx (by simp)
theorem qqk{l:List Tm}{B:Nat}(h:∀t∈l,∀i,q5 B (qp t i)):∀i,q5 B (xQ l i):=by
 induction l with
 |nil=>intro i;rw[qck];exact q5.nil
 |cons t l ih=>intro i;rw[qbw];exact(h t (by simp) i).app (ih (λx hx=>h x (by simp[hx])) _)
theorem qo9:∀(n:Nat) (t:Tm),t.w<=n->∀i,q5 t.w (qp t i):=by
 intro n
 induction n with
 |zero=>intro t h;have:=t.w_eq;omega
 |succ n ih=>
  intro t h i;have hw:=t.w_eq;have h1:1<=t.w:=by omega
  have hm:∀l:List Tm,wL l<=n->wL l<=t.w->∀j,q5 t.w (xQ l j):=λl hl hl' j=>qqk (λx hx j=>(ih x (by have:=vV hx;omega) j).mono (by have:=vV hx;omega)) j
  by_cases h2:t.kind=2
  ·rw[qbJ h2];split
   ·exact q5.z h1 (by decide)
   ·split
    ·exact q5.z h1 (by decide)
    ·split
     ·exact q5.z h1 (by decide)
     ·exact q5.t (qAA _) (by decide)
  by_cases h9:t.kind=9
  ·rw[qbI h9];exact(hm t.subs (by omega) (by omega) i).app (q5.z h1 (by decide))
  by_cases h7:t.kind=7
  ·cases hl:t.subs with
   |nil=>
    obtain⟨k,n',s,l⟩:=t;simp only[Tm.kind_mk,Tm.subs_mk]at h7 hl;subst h7 hl;rw[qp.eq_def];exact q5.nil
   |cons f r=>
    rw[hl,qA]at hw;have hf:=f.w_eq;rw[qct h7 hl];split
    ·exact(hm f.subs (by omega) (by omega) i).app (q5.z h1 (by decide))
    ·split
     ·cases r with
      |nil=>rw[qbL];exact q5.nil
      |cons c r=>rw[qbL];rw[qA]at hw;exact q5.t (by omega) (by decide)
     ·have hz:∀o:Int,o≠20->q5 t.w (yZ o r i):=by
       intro o ho
       match r with
       |[]=>rw[yZ];exact q5.nil
       |[a]=>rw[yZ,qno];exact q5.nil
       |a::b::r=>
        rw[qcm,qcM];rw[qA,qA]at hw;have ha:=(ih a (by omega) i).mono (show a.w<=t.w by omega);have hb:=(ih b (by omega) (i+(qp a i).length+1)).mono (show b.w<=t.w by omega);exact ha.app ((q5.z h1 ho).app (hb.app (q5.z h1 (by decide))))
      split
      ·exact hz _ (by decide)
      ·split
       ·exact hz _ (by decide)
       ·exact(hm r (by omega) (by omega) i).app (q5.t (by omega) (by decide))
  rw[qaW h2 h9 h7];exact q5.t (qAA _) (by decide)
theorem qad(t:Tm)(i:Nat):q5 t.w (qp t i):=qo9 t.w t (qAA _) i
theorem qoY:∀(n:Nat) (t:Tm),t.w<=n->∀V,q5 t.w (vg t V).1:=by
 intro n
 induction n with
 |zero=>intro t h;have:=t.w_eq;omega
 |succ n ih=>
  intro t h V;have hw:=t.w_eq;have h1:1<=t.w:=by omega
  have hm:∀l:List Tm,wL l<=n->wL l<=t.w->∀V,q5 t.w (vW l V).1:=by
   intro l
   induction l with
   |nil=>intro _ _ V;rw[qaK];exact q5.nil
   |cons x l ihl=>
    intro hl hl' V;rw[qA]at hl hl';rw[qaa];exact((ih x (by omega) V).mono (by omega)).app (ihl (by omega) (by omega) (vg x V).2)
  have h2:=hm t.subs (by omega) (by omega) V;rw[qbW];split
  ·split<;>exact q5.z h1 (by decide)
  ·split
   ·exact q5.z h1 (by decide)
   ·split
    ·exact(q5.z (o:=1) h1 (by decide)).app h2
    ·split
     ·exact(q5.z (o:=2) h1 (by decide)).app h2
     ·exact q5.t (qAA _) (by decide)
theorem qqC(t:Tm)(V:List Int):q5 t.w (vg t V).1:=qoY t.w t (qAA _) V
theorem qfP{B:Nat}(h1:1<=B):∀(l:List Tm) (i:Nat),wL l<=B->q5 B (xM l i)
 |[],i,_=>by rw[xM];exact q5.nil
 |e::l,i,h=>by
  rw[qA]at h;rw[xM];exact((qad e i).mono (by omega)).app ((q5.z h1 (by decide)).app (qfP h1 l _ (by omega)))
theorem qii{B:Nat}(h1:1<=B):∀(l:List Tm) (i:Nat),wL l<=B->q5 B (qaf l i)
 |[],i,_=>by rw[qaf];exact q5.nil
 |e::l,i,h=>by
  rw[qA]at h;rw[qaf];exact(q5.z (o:=19) h1 (by decide)).app (((qad e _).mono (by omega)).app (qii h1 l _ (by omega)))
theorem qiK{B:Nat}(h1:1<=B)(l:List Tm)(i:Nat)(h:wL l<=B):q5 B (xJ l i):=by
 cases l with
 |nil=>rw[xJ];exact q5.nil
 |cons e l=>
  rw[qA]at h;rw[xJ];exact((qad e i).mono (by omega)).app (qii h1 l _ (by omega))
theorem qg8(c:Cl)(i:Nat):q5 (wCl c) (xf c i):=by
 have h1:=c.head.w_eq;unfold xf wCl;exact((qqC c.head []).mono (by omega)).app (qfP (by omega) _ _ (by omega))
def qbp(l:List InsA):Nat:=(l.filter λx=>decide (x.o=20)).length
theorem qdB(a b:List InsA):qbp (a++b)=qbp a+qbp b:=by simp[qbp]
theorem qd2{B:Nat}{l:List InsA}(h:q5 B l):qbp l=0:=by
 unfold qbp;rw[List.length_eq_zero_iff,List.filter_eq_nil_iff];intro x hx;simp[(h x hx).1]
theorem qnc(c:Cl)(i:Nat):qbp (xY c i)=1:=by
 unfold xY qhr;have h1:1<=wCl c:=by have:=c.head.w_eq;unfold wCl;omega
 have e1:q5 (wCl c) ((xf c i).map (xb ((i+(xf c i).length+(iz 18 0 0::(xJ c.bs (i+(xf c i).length+1)++[iz 20 0 0])).length:Nat):Int))):=by
  intro x hx;obtain⟨y,hy,rfl⟩:=List.mem_map.1 hx;rw[qxw,qrq];exact qg8 c i y hy
 have e2:qbp (iz 18 0 0::(xJ c.bs (i+(xf c i).length+1)++[iz 20 0 0]))=1:=by
  rw[show iz 18 0 0::(xJ c.bs (i+(xf c i).length+1)++[iz 20 0 0])=[iz 18 0 0]++(xJ c.bs (i+(xf c i).length+1)++[iz 20 0 0])from rfl,qdB,qdB,qd2 (q5.z (B:=1) (by omega) (by decide)),qd2 (qiK h1 c.bs _ (by unfold wCl;omega))];rfl
 rw[qdB,e2];show qbp (List.map _ _)+1=1;unfold qhr at e1;rw[qd2 e1]
theorem qiG:∀(l:List Cl) (i:Nat),qbp (xA l i)=l.length
 |[],i=>rfl
 |c::l,i=>by rw[xA,qdB,qnc,qiG l];simp;omega
theorem qhJ:∀(l:List Cl) (i:Nat) (B:Nat),(∀c∈l,wCl c<=B)->∀x∈xA l i,x.t.w<=B
 |[],i,B,_,x,hx=>absurd hx (by simp[xA])
 |c::l,i,B,h,x,hx=>by
  have h0:=h c (by simp);have h1:1<=wCl c:=by have:=c.head.w_eq;unfold wCl;omega
  rw[xA]at hx;rcases qAY.1 hx with hx|hx
  ·unfold xY at hx;rcases qAY.1 hx with hx|hx
   ·obtain⟨y,hy,rfl⟩:=List.mem_map.1 hx;rw[qrq];have:=(qg8 c i y hy).2;omega
   ·unfold qhr at hx;rcases qAZ.1 hx with rfl|hx
    ·show zT.w<=B;rw[zT_w];omega
    ·rcases qAY.1 hx with hx|hx
     ·have:=(qiK h1 c.bs _ (by unfold wCl;omega) x hx).2;omega
     ·rw[List.mem_singleton]at hx;subst hx;show zT.w<=B;rw[zT_w];omega
  ·exact qhJ l _ B (λc hc=>h c (by simp[hc])) x hx
def qx5:Den:=evC cfg (EV cfg) 57 none 2 (sub (qg Tryz.f57) [1,1,1,0,1,0,0])
def qyp:Ex×List AV×AH->Option (AV×AH):=kAft (Cfg.keepOut cfg 57 (qn (sub (qg Tryz.f57) [1,1,1,0,1,0,0]))) (x9 0 (kSeq (fun(fr:List AV) (H:AH)=>zu (Cfg.cut cfg 57 (qn (sub (qg Tryz.f57) [1,1,1,1]))) fr H fun(fr:List AV) (H:AH)=>vM cfg (EV cfg) (kfN cfg 6) 57 none 2 (sub (qg Tryz.f57) [1,1,1,1]) fr H (qhH cfg 1 (Cfg.lift cfg 57 0) (Array.toList (Func.results Tryz.f57)))) (qhH cfg 1 (Cfg.lift cfg 57 0) (Array.toList (Func.results Tryz.f57)))))
def qxM:List AV×AH->Option (AV×AH):=fun(p:List AV×AH)=>kOpt (LOOP 2 (some [0,3,4,20,21,22]) [] qx5 p) qyp
def qx4:Den:=evC cfg (EV cfg) 57 none 2 (sub (qg Tryz.f57) [1,1,1,1,1,0,1,0,0])
def qyo:Ex×List AV×AH->Option (AV×AH):=kAft (Cfg.keepOut cfg 57 11) (kRun cfg (EV cfg) (kfN cfg 6) 57 none 2 (qhH cfg 1 (Cfg.lift cfg 57 0) Tryz.f57.results.toList) ([.block 2,.seq (sub (qg Tryz.f57) [1,1,1,1,1,1])]))
def qxL:List AV×AH->Option (AV×AH):=λp=>kOpt (LOOP 2 (some [0,4,7,37,38,39]) ([]) qx4 p) qyo
abbrev qhp(ins gs:Rz)(v22:Int)(nc0_0:Nat)(c2_0 c2_1:Int)(c2_2:Bz)(c2_3 c2_4 c2_5 h3:Rz):Option (AV×AH):=qxM (((fx 69 [(0,.ptr 0 0 0),(3,.ptr 2 0 0),(4,.int .i64 (ins.length:Int)),(20,.sl gs),(21,.int .i64 (gs.length:Int)),(22,.int .i64 v22)]):List AV),([.rows false 1 [[.ms 3 0 nc0_0]],.dead,.rows false 6 [[.int .i64 c2_0,.int .i64 c2_1,.str c2_2,.sl c2_3,.sl c2_4,.sl c2_5]],.rows true 7 h3]:AH))
abbrev zY(ins c2_5:Rz)(n v39:Int)(nc0_0:Nat)(h2:Rz):Option (AV×AH):=qxL (((fx 69 [(0,.ptr 0 0 0),(4,.int .i64 (ins.length:Int)),(7,.int .i64 n),(37,.sl c2_5),(38,.int .i64 (c2_5.length:Int)),(39,.int .i64 v39)]):List AV),([.rows false 1 [[.ms 2 0 nc0_0]],.dead,.rows true 7 h2]:AH))
theorem qpr(ins:Rz)(hk hn:Int)(hw:Bz)(hl gs bs:Rz){P:AV×AH->Prop}(h:Gets (kOpt (EVj (EV cfg) 104 1 [.ptr 0 0 0,.agg [.int .i64 hk,.int .i64 hn,.str hw,.sl hl]] [.rows false 1 [[.ms 1 0 (qAt ins)]],.rows true 7 ins]) λq=>qC q.2 λb bs_1=>qE b λd' n rs=>bif beqB false d'&&qAz n 1 then q7 rs λrow rest=>vw rest (qC bs_1 λb bs_2=>qE b λd' n rs=>bif beqB true d'&&qAz n 7 then vL bs_2 (qf row λc cs=>kMsE c λid off len=>bif qAz id 1&&(qAz off 0&&qAz len (qAt rs))then kNil cs (qhp ins gs 0 (qAt rs) hk hn hw hl gs bs rs)else none)else none)else none) P):Gets (EVj (EV cfg) 57 1 [.ptr 0 0 0,.agg [.int .i64 hk,.int .i64 hn,.str hw,.sl hl,.sl gs,.sl bs]] ([ABlk.rows false (1:Nat) [[AV.ms (1:Nat) (0:Nat) (qAt ins)]],ABlk.rows true (7:Nat) ins]:AH)) P:=
  gE (λ_=>funJ rfl rfl Tryz.func57 rfl) (by kernel_rfl) h
theorem qf7(ins gs:Rz)(v22:Int)(nc0_0:Nat)(c2_0 c2_1:Int)(c2_2:Bz)(c2_3 c2_4 c2_5 h3:Rz){P:AV×AH->Prop}(h:Gets (bif decide (v22<(gs.length:Int))then bif qe 0 v22&&qi v22 (gs.length:Int)then kOpt (qAu gs (v22.toNat)) λrow=>bif qAz (qAt row) 4 then bif qAF 4 (qAt row)then kTmC (qAB 4 row) λn n_1 s rows=>(kOpt (EVj (EV cfg) 63 1 [.ptr 0 0 0,.agg [.int .i64 n,.int .i64 n_1,.str s,.sl rows]] [.rows false 1 [[.ms 1 0 nc0_0]],.rows true 7 h3]) λq=>qC q.2 λb bs=>qE b λd' n rs=>bif beqB false d'&&qAz n 1 then q7 rs λrow rest=>vw rest (qC bs λb bs=>qE b λd' n rs=>bif beqB true d'&&qAz n 7 then vL bs (qf row λc cs=>kMsE c λid off len=>bif qAz id 1&&(qAz off 0&&qAz len (qAt rs))then kNil cs (kOpt (EVj (EV cfg) 105 1 [.ptr 0 0 0,AV.agg [.int .i64 14,.int .i64 0,.int .i64 0,.int .i64 0,.int .i64 0,.str [],.sl []]] [.rows false 1 [[.ms 1 0 (qAt rs)]],.rows true 7 rs]) λq=>qC q.2 λb bs=>qE b λd' n rs=>bif beqB false d'&&qAz n 1 then q7 rs λrow rest=>vw rest (qC bs λb bs=>qE b λd' n rs=>bif beqB true d'&&qAz n 7 then vL bs (qf row λc cs=>kMsE c λid off len=>bif qAz id 1&&(qAz off 0&&qAz len (qAt rs))then kNil cs (kInt .i64 q.1 λn=>qhp ins gs (qAH .i64 (v22+1)) (qAt rs) c2_0 c2_1 c2_2 c2_3 c2_4 c2_5 rs)else none)else none)else none)else none)else none)else none)else none else none else none else kOpt (EVj (EV cfg) 105 1 [.ptr 0 0 0,.agg [.int .i64 18,.int .i64 0,.int .i64 0,.int .i64 0,.int .i64 0,.str [],.sl []]] [.rows false 1 [[.ms 1 0 nc0_0]],.rows true 7 h3]) λq=>qC q.2 λb bs=>qE b λd' n rs=>bif beqB false d'&&qAz n 1 then q7 rs λrow rest=>vw rest (qC bs λb bs=>qE b λd' n rs=>bif beqB true d'&&qAz n 7 then vL bs (qf row λc cs=>kMsE c λid off len=>bif qAz id 1&&(qAz off 0&&qAz len (qAt rs))then kNil cs (kInt .i64 q.1 λn=>zY ins c2_5 n 0 (qAt rs) rs)else none)else none)else none) P):Gets (qhp ins gs v22 nc0_0 c2_0 c2_1 c2_2 c2_3 c2_4 c2_5 h3) P:=
  gE (λ_=>qt (cfg:=cfg) (f:=57) (rd:=none) (bs:=2)) (by kernel_rfl) h
theorem qda(ins c2_5:Rz)(n v39:Int)(nc0_0:Nat)(h2:Rz){P:AV×AH->Prop}(h:Gets (bif decide (v39<(c2_5.length:Int))then bif qe 0 v39&&qi v39 (c2_5.length:Int)then kOpt (qAu c2_5 (v39.toNat)) λrow=>bif qAz (qAt row) 4 then bif qAF 4 (qAt row)then kTmC (qAB 4 row) λn_1 n_2 s rows=>(bif decide (v39>0)then kOpt (EVj (EV cfg) 105 1 [.ptr 0 0 0,AV.agg [.int .i64 19,.int .i64 0,.int .i64 0,.int .i64 0,.int .i64 0,.str [],.sl []]] [.rows false 1 [[.ms 1 0 nc0_0]],.rows true 7 h2]) λq=>qC q.2 λb bs=>qE b λd' n_3 rs=>bif beqB false d'&&qAz n_3 1 then q7 rs λrow rest=>vw rest (qC bs λb bs=>qE b λd' n_4 rs=>bif beqB true d'&&qAz n_4 7 then vL bs (qf row λc cs=>kMsE c λid off len=>bif qAz id 1&&(qAz off 0&&qAz len (qAt rs))then kNil cs (kInt .i64 q.1 λn_5=>kOpt (EVj (EV cfg) 63 1 [.ptr 0 0 0,.agg [.int .i64 n_1,.int .i64 n_2,.str s,.sl rows]] [.rows false 1 [[.ms 1 0 (qAt rs)]],.rows true 7 rs]) λq=>qC q.2 λb bs=>qE b λd' n_6 rs=>bif beqB false d'&&qAz n_6 1 then q7 rs λrow rest=>vw rest (qC bs λb bs=>qE b λd' n_7 rs=>bif beqB true d'&&qAz n_7 7 then vL bs (qf row λc cs=>kMsE c λid off len=>bif qAz id 1&&(qAz off 0&&qAz len (qAt rs))then kNil cs (zY ins c2_5 n (qAH .i64 (v39+1)) (qAt rs) rs)else none)else none)else none)else none)else none)else none else kOpt (EVj (EV cfg) 63 1 [.ptr 0 0 0,.agg [.int .i64 n_1,.int .i64 n_2,.str s,.sl rows]] [.rows false 1 [[.ms 1 0 nc0_0]],.rows true 7 h2]) λq=>qC q.2 λb bs=>qE b λd' n_3 rs=>bif beqB false d'&&qAz n_3 1 then q7 rs λrow rest=>vw rest (qC bs λb bs=>qE b λd' n_4 rs=>bif beqB true d'&&qAz n_4 7 then vL bs (qf row λc cs=>kMsE c λid off len=>bif qAz id 1&&(qAz off 0&&qAz len (qAt rs))then kNil cs (zY ins c2_5 n (qAH .i64 (v39+1)) (qAt rs) rs)else none)else none)else none)else none else none else none else kOpt (EVj (EV cfg) 105 1 [.ptr 0 0 0,.agg [.int .i64 20,.int .i64 0,.int .i64 0,.int .i64 0,.int .i64 0,.str [],.sl []]] [.rows false 1 [[.ms 1 0 nc0_0]],.rows true 7 h2]) λq=>qC q.2 λb bs=>qE b λd' n_1 rs=>bif beqB false d'&&qAz n_1 1 then q7 rs λrow rest=>vw rest (qC bs λb bs=>qE b λd' n_2 rs=>bif beqB true d'&&qAz n_2 7 then vL bs (qf row λc cs=>kMsE c λid off len=>bif qAz id 1&&(qAz off 0&&qAz len (qAt rs))then kNil cs (kInt .i64 q.1 λn_3=>bif qe 0 n&&qe n (rs.length:Int)then bif qe 0 (ins.length:Int)&&qe (ins.length:Int) (↑ (n.toNat):Int)then kOpt (EVm (EV cfg) 106 [.ms 0 (0+qAR (ins.length:Int)) (qAR n - qAR (ins.length:Int)),.int .i64 (rs.length:Int)] 7 rs) λq=>qcn q.1 (some (AV.tup [],[.rows false 1 [[.ms 1 0 (qAt rs)]],.rows true 7 q.2]))else none else none)else none)else none)else none) P):Gets (zY ins c2_5 n v39 nc0_0 h2) P:=
  gE (λ_=>qt (cfg:=cfg) (f:=57) (rd:=none) (bs:=2)) (by kernel_rfl) h
def qwE:Den:=evC cfg (EV cfg) 106 none 1 (sub (qg Tryz.f106) [1,0,0])
def qwP:Ex×List AV×AH->Option (MV×List (List AV)):=kAft (Cfg.keepOut cfg 106 1) (kRun cfg (EV cfg) (kfN cfg 6) 106 none 1 (qnB cfg 7 (Cfg.lift cfg 106 0) Tryz.f106.results.toList) ([.block 0]))
def qwx:List AV×AH->Option (MV×List (List AV)):=λp=>kOpt (LOOP 1 (some [0,1,6,7]) ([]) qwE p) qwP
abbrev qba(off nn:Nat)(p v7:Int)(h0:Rz):Option (MV×List (List AV)):=qwx (((fx 40 [(0,.ms 0 off nn),(1,.int .i64 p),(6,.int .i64 (↑nn:Int)),(7,.int .i64 v7)]):List AV),([.rows true 7 h0]:AH))
theorem qqU(rows:Rz)(off nn:Nat)(p:Int){P:MV×List (List AV)->Prop}(h:Gets (qba off nn p 0 rows) P):Gets (EVm (EV cfg) 106 [.ms 0 off nn,.int .i64 p] 7 rows) P:=
  gE (λ_=>funM rfl rfl Tryz.func106 rfl) (by kernel_rfl) h
abbrev zB1(off nn:Nat)(p v7:Int)(h0:Rz)(row:List AV):Option (MV×List (List AV)):=qba off nn p (qAH .i64 (v7+1)) (List.set h0 (off+v7.toNat) (qAG (qAG (qAB 2 row) [AV.int .i64 p]) (qAO 3 row)))
abbrev zB0(row:List AV)(off nn:Nat)(p v7:Int)(h0:Rz):Option (MV×List (List AV)):=bif qAF 3 (qAt row)then zB1 off nn p v7 h0 row else none
abbrev zB3(h0:Rz)(off:Nat)(v7:Int)(nn:Nat)(p:Int):Option (MV×List (List AV)):=kOpt (qAu h0 (off+qAR v7)) λrow=>zB0 row off nn p v7 h0
abbrev zB2(v7:Int)(nn:Nat)(h0:Rz)(off:Nat)(p:Int):Option (MV×List (List AV)):=bif qe 0 v7&&qi v7 (↑ nn:Int)then zB3 h0 off v7 nn p else none
abbrev zB5(h0:Rz)(off:Nat)(v7:Int)(nn:Nat)(p:Int):Option (MV×List (List AV)):=kOpt (qAu h0 (off+qAR v7)) λrow=>bif qAF 2 (qAt row)then qba off nn p (qAH .i64 (v7+1)) (List.set h0 (off+v7.toNat) (qAG (qAG (qAB 1 row) [AV.int .i64 p]) (qAO 2 row)))else none
abbrev zB4(v7:Int)(nn:Nat)(h0:Rz)(off:Nat)(p:Int):Option (MV×List (List AV)):=bif qe 0 v7&&qi v7 (↑ nn:Int)then zB5 h0 off v7 nn p else none
theorem qfI(off nn:Nat)(p v7:Int)(h0:Rz){P:MV×List (List AV)->Prop}(h:Gets (bif decide (v7<(↑ nn:Int))then bif qe 0 v7&&qi v7 (↑ nn:Int)then kOpt (qAu h0 (off+v7.toNat)) λrow=>kOpt (qAu row 0) λv=>kInt .i64 v λn=>bif n==1 then bif qe 0 v7&&qi v7 (↑ nn:Int)then kOpt (qAu h0 (off+v7.toNat)) λrow=>zB0 row off nn p v7 h0 else none else bif n==2 then zB2 v7 nn h0 off p else bif n==4 then zB2 v7 nn h0 off p else bif n==6 then zB2 v7 nn h0 off p else bif n==14 then zB2 v7 nn h0 off p else bif n==11 then zB2 v7 nn h0 off p else bif n==12 then zB2 v7 nn h0 off p else bif n==10 then zB2 v7 nn h0 off p else bif n==13 then zB2 v7 nn h0 off p else bif n==17 then zB2 v7 nn h0 off p else bif n==15 then zB4 v7 nn h0 off p else bif n==16 then zB4 v7 nn h0 off p else qba off nn p (qAH .i64 (v7+1)) h0 else none else some (MV.unit,h0)) P):Gets (qba off nn p v7 h0) P:=
  gE (λ_=>qt (cfg:=cfg) (f:=106) (rd:=none) (bs:=1)) (by kernel_rfl) h
theorem qpq(p:Int)(A C:List InsA):∀(B D:List InsA) (nn:Nat),nn=D.length+B.length->nn<1099511627776 ->
  Gets (qba A.length nn p (D.length:Int) (qd ((A++D)++(B++C)))) (·=(MV.unit,qd ((A++D)++(B.map (xb p)++C)))):=by
 intro B
 induction B with
 |nil=>
  intro D nn hn hl;refine qfI _ _ _ _ _ ?_;unfold zB4 zB5 zB2 zB3 zB0 zB1;rw[qBi (show ¬((D.length:Int)<(nn:Int)) by rw[hn];simp),cond_false];exact⟨_,rfl,rfl⟩
 |cons x B ih=>
  intro D nn hn hl;rw[qA0]at hn;refine qfI _ _ _ _ _ ?_;unfold zB4 zB5 zB2 zB3 zB0 zB1;have e0:decide ((D.length:Int)<(nn:Int))=true:=qBh (by omega);have e1:(qe 0 (D.length:Int)&&qi (D.length:Int) (nn:Int))=true:=by
   rw[qI,q8,qBh (by omega)];rfl
  have e2:qAu (qd ((A++D)++(x::B++C))) (A.length+qAR (D.length:Int))=some x.row:=by
   rw[qAS,←qAI];exact qdI (A++D) (B++C) x
  have e3:qAu x.row 0=some (.int .i64 x.o):=rfl;have e4:∀y:InsA,List.set (qd ((A++D)++(x::B++C))) (A.length+qAR (D.length:Int)) y.row=qd ((A++(D++[y]))++(B++C)):=by
   intro y;rw[qAS,←qAI];rw[show(A++(D++[y]))++(B++C)=(A++D)++y::(B++C) by simp];exact qdH (A++D) (B++C) x y
  have e5:qAG (qAG (qAB 2 x.row) [AV.int .i64 p]) (qAO 3 x.row)=(⟨x.o,x.a,p,x.t⟩:InsA).row:=rfl;have e6:qAG (qAG (qAB 1 x.row) [AV.int .i64 p]) (qAO 2 x.row)=(⟨x.o,p,x.b,x.t⟩:InsA).row:=rfl;have ew:qAH .i64 ((D.length:Int)+1)=((D.length+1:Nat):Int):=qL (n:=nn) (by omega) hl;have hy:∀y:InsA,y=xb p x->Gets (qba A.length nn p ((D.length+1:Nat):Int) (qd ((A++(D++[y]))++(B++C)))) (·=(MV.unit,qd ((A++D)++((x::B).map (xb p)++C)))):=by
   rintro y rfl;have:=ih (D++[xb p x]) nn (by simp;omega) hl;rw[show(D++[xb p x]).length=D.length+1 by simp,show A++(D++[xb p x])++(List.map (xb p) B++C)=(A++D)++((x::B).map (xb p)++C) by simp]at this;exact this
  simp only[e0,e1,e2,e3,e5,e6,e4,ew,InsA.row_len,show qAF 3 7=true from rfl,show qAF 2 7=true from rfl,qb,cond_true,qm]
  by_cases h:x.o∈([1,2,4,6,14,11,12,10,13,17]:List Int)
  ·have hf:=hy ⟨x.o,x.a,p,x.t⟩ (by unfold xb;rw[qBj h]);simp only[qAZ,List.not_mem_nil,or_false]at h;rcases h with h|h|h|h|h|h|h|h|h|h<;>· rw[h]at hf⊢;exact hf
  ·by_cases h':x.o=15∨x.o=16
   ·have hf:=hy ⟨x.o,p,x.b,x.t⟩ (by unfold xb;rw[qBk h,qBj h']);rcases h' with h'|h'<;>· rw[h']at hf⊢;exact hf
   ·have hf:=hy x (by unfold xb;rw[qBk h,qBk h']);simp only[qAZ,List.not_mem_nil,or_false,not_or]at h h';obtain⟨h1,h2,h3,h4,h5,h6,h7,h8,h9,h10⟩:=h;obtain⟨h11,h12⟩:=h';simp only[beqI,h1,h2,h3,h4,h5,h6,h7,h8,h9,h10,h11,h12,decide_false,cond_false];rw[show qd ((A++(D++[x]))++(B++C))=qd ((A++D)++(x::B++C)) by simp]at hf;exact hf
theorem qtf(p:Int)(A B C:List InsA)(h:B.length<1099511627776):EVm (EV cfg) 106 [.ms 0 A.length B.length,.int .i64 p] 7 (qd (A++(B++C)))=some (.unit,qd (A++(B.map (xb p)++C))):=by
 apply Gets.get;refine qqU _ _ _ _ ?_;have:=qpq p A C B [] B.length (by simp) h;rw[List.append_nil]at this;exact this
theorem qwn{gs:List Tm}(hx:∀t∈gs,zz t)(hd:Tm)(bs:List Tm)(ins0:List (List AV)){P:AV×AH->Prop}:∀(k i:Nat) (ins:List InsA),gs.length - i=k->i<=gs.length->ins.length+(wL (gs.drop i)+(gs.drop i).length)+1<1099511627776->gs.length<1099511627776 ->
  (∀ins':List InsA,ins'=ins++xM (gs.drop i) ins.length->Gets (zY ins0 (qa bs) (ins'.length:Int) 0 (qd (ins'++[iz 18 0 0])).length (qd (ins'++[iz 18 0 0]))) P) ->
  Gets (qhp ins0 (qa gs) (i:Int) (qd ins).length hd.kind hd.num hd.str (qa hd.subs) (qa gs) (qa bs) (qd ins)) P:=by
 intro k
 induction k with
 |zero=>
  intro i ins hk hi hw hlen h;refine qf7 _ _ _ _ _ _ _ _ _ _ _ ?_;rw[qAV (by omega)]at hw h;have z:=xX (ins:=ins) (by simp at hw;omega) 18 0 0;rw[qc,qBi (by omega),cond_false];simp only[z,qb,qO,qM,vp,vo,qU,qAM,cond_true,qN,qV,qW,qD,qm,qR,vm]
  exact h ins (by rw[xM,List.append_nil])
 |succ k ih=>
  intro i ins hk hi hw hlen h;refine qf7 _ _ _ _ _ _ _ _ _ _ _ ?_;have hil:i<gs.length:=by omega
  have g0:gs[i]? =some gs[i]:=qAv hil;have hd:gs.drop i=gs[i]::gs.drop (i+1):=by rw[qAT hil]
  rw[hd,qA,qA0]at hw;have hc:=xi gs[i] ins.length;have e1:(qe 0 (i:Int)&&qi (i:Int) ((qa gs).length:Int))=true:=by simp;omega
  have z1:=(hx gs[i] (List.getElem_mem hil)).c (ins:=ins) (by omega);have z2:=xX (ins:=ins++qp gs[i] ins.length) (by simp;omega) 14 0 0;rw[qBh (show(i:Int)<((qa gs).length:Int) by simp;omega),e1];simp only[xz g0,qb,qO,qM,vp,vo,qU,qAM,cond_true,qN,qV,qW,qD,qm,qR,vm,qv,qG,qF,show qAF 4 4=true from rfl,z1,z2]
  rw[qL hil hlen];refine ih (i+1) (ins++qp gs[i] ins.length++[iz 14 0 0]) (by omega) (by omega) (by simp at hw⊢;omega) hlen ?_;rintro ins' rfl;refine h _ ?_;rw[hd,xM];simp[qBa]
def qx1:Den:=evC cfg (EV cfg) 16 none 0 (sub (qg Tryz.f16) [1,1,0,1,0,0])
def qyl:Ex×List AV×AH->Option AV:=kAft (Cfg.keepOut cfg 16 4) (kRun cfg (EV cfg) (kfN cfg 6) 16 none 0 (yK cfg (Cfg.lift cfg 16 0) Tryz.f16.results.toList) ([.block 0,.seq (sub (qg Tryz.f16) [1,1,1])]))
def qxJ:List AV×AH->Option AV:=λp=>kOpt (LOOP 0 (some [0,1,5]) ([]) qx1 p) qyl
def qzF:Den:=evC cfg (EV cfg) 8 none 0 (sub (qg Tryz.f8) [1,0,1,0,0])
def qz7:Ex×List AV×AH->Option AV:=kAft (Cfg.keepOut cfg 8 2) (kRun cfg (EV cfg) (kfN cfg 6) 8 none 0 (yK cfg (Cfg.lift cfg 8 0) Tryz.f8.results.toList) ([.block 0,.seq (sub (qg Tryz.f8) [1,1])]))
def qzg:List AV×AH->Option AV:=λp=>kOpt (LOOP 0 (some [0,3]) ([]) qzF p) qz7
abbrev qho(l m:Rz)(v5:Int):Option (AV):=qxJ (((fx 68 [(0,.sl l),(1,.sl m),(5,.int .i64 v5)]):List AV),([]:AH))
abbrev qjG(l:Rz)(v3:Int):Option (AV):=qzg (((fx 15 [(0,.sl l),(3,.int .i64 v3)]):List AV),([]:AH))
theorem qti(r:List AV)(L:Rz){P:OV->Prop}(h:Gets (bif vq 7 (r::L)then bif qo (0+qAt (r::L)) 80 then some (OV.own 7 (r::L) 0 (0+qAt (r::L)))else none else none) P):Gets (EVo (EV cfg) 78 [.sl (r::L)]) P:=
  gE (λ_=>funO rfl rfl Tryz.func78 rfl) (by kernel_rfl) h
theorem qtQ(l m:Rz){P:AV->Prop}(h:Gets (bif(l.length:Int) != (m.length:Int)then some (.bool false)else qho l m 0) P):Gets (EVs (EV cfg) 16 [.sl l,.sl m]) P:=
  gE (λ_=>funS rfl rfl Tryz.func16 rfl) (by kernel_rfl) h
theorem qqn(l:Rz){P:AV->Prop}(h:Gets (qjG l 0) P):Gets (EVs (EV cfg) 8 [.sl l]) P:=
  gE (λ_=>funS rfl rfl Tryz.func8 rfl) (by kernel_rfl) h
theorem qf6(l m:Rz)(v5:Int){P:AV->Prop}(h:Gets (bif decide (v5<(l.length:Int))then bif qe 0 v5&&qi v5 (l.length:Int)then kOpt (qAu l (v5.toNat)) λrow=>bif qAz (qAt row) 7 then kOpt (qAu row 0) λv=>kInt .i64 v λn=>bif qe 0 v5&&qi v5 (m.length:Int)then kOpt (qAu m (v5.toNat)) λrow=>bif qAz (qAt row) 7 then kOpt (qAu row 0) λv=>kInt .i64 v λn_1=>bif n != n_1 then some (.bool false)else bif qe 0 v5&&qi v5 (l.length:Int)then kOpt (qAu l (v5.toNat)) λrow=>bif qAz (qAt row) 7 then kOpt (qAu row 1) λv=>kInt .i64 v λn=>bif qe 0 v5&&qi v5 (m.length:Int)then kOpt (qAu m (v5.toNat)) λrow=>bif qAz (qAt row) 7 then kOpt (qAu row 1) λv=>kInt .i64 v λn_2=>bif n != n_2 then some (.bool false)else bif qe 0 v5&&qi v5 (l.length:Int)then kOpt (qAu l (v5.toNat)) λrow=>bif qAz (qAt row) 7 then kOpt (qAu row 2) λv=>kInt .i64 v λn=>bif qe 0 v5&&qi v5 (m.length:Int)then kOpt (qAu m (v5.toNat)) λrow=>bif qAz (qAt row) 7 then kOpt (qAu row 2) λv=>kInt .i64 v λn_3=>bif n != n_3 then some (.bool false)else bif qe 0 v5&&qi v5 (l.length:Int)then kOpt (qAu l (v5.toNat)) λrow=>bif qAz (qAt row) 7 then bif qAF 7 (qAt row)then qf (qAB 4 (qAO 3 row)) λc cs=>kInt .i64 c λn=>qf cs λc cs=>kInt .i64 c λn_4=>qf cs λc cs=>kStr c λs=>qf cs λc cs=>kSl c λrows=>kNil cs (bif qe 0 v5&&qi v5 (↑ (qAt m):Int)then kOpt (qAu m (v5.toNat)) λrow=>bif qAz (qAt row) 7 then bif qAF 7 (qAt row)then qf (qAB 4 (qAO 3 row)) λc cs=>kInt .i64 c λn_5=>qf cs λc cs=>kInt .i64 c λn_6=>qf cs λc cs=>kStr c λs_1=>qf cs λc cs=>kSl c λrows_1=>kNil cs (kOpt (EVs (EV cfg) 14 [AV.agg [.int .i64 n,.int .i64 n_4,.str s,.sl rows],AV.agg [.int .i64 n_5,.int .i64 n_6,.str s_1,.sl rows_1]]) λv=>qJ v λb=>bif ! b then some (.bool false)else qho l m (qAH .i64 (v5+1)))else none else none else none)else none else none else none else none else none else none else none else none else none else none else none else none else none else none else none else some (.bool true)) P):Gets (qho l m v5) P:=
  gE (λ_=>qt (cfg:=cfg) (f:=16) (rd:=none) (bs:=0)) (by kernel_rfl) h
theorem qia(l:Rz)(v3:Int){P:AV->Prop}(h:Gets (bif decide (v3<(l.length:Int))then bif qe 0 v3&&qi v3 (l.length:Int)then kOpt (qAu l (v3.toNat)) λrow=>bif qAz (qAt row) 4 then bif qAF 4 (qAt row)then kTmC (qAB 4 row) λn n_1 s rows=>(kOpt (EVs (EV cfg) 9 [.agg [.int .i64 n,.int .i64 n_1,.str s,.sl rows],.int .i64 400]) λv=>qJ v λb=>bif b then some (.bool true)else qjG l (qAH .i64 (v3+1)))else none else none else none else some (.bool false)) P):Gets (qjG l v3) P:=
  gE (λ_=>qt (cfg:=cfg) (f:=8) (rd:=none) (bs:=0)) (by kernel_rfl) h
theorem InsA.row_t(x:InsA):qAB 4 (qAO 3 x.row)=[.int .i64 x.t.kind,.int .i64 x.t.num,.str x.t.str,.sl (qa x.t.subs)]:=by
 rw[InsA.row,Tm.cells_eq];rfl
theorem qAr(bs:List Tm)(A B C:List InsA)(h:A.length+B.length+C.length+1<1099511627776):
  Gets (zY (qd A) (qa bs) ((A++B).length:Int) (bs.length:Int) (qd (A++(B++C))).length (qd (A++(B++C)))) (·=(.tup [],mkH (qd (A++(B.map (xb ((A.length+B.length+(C++[iz 20 0 0]).length:Nat):Int))++(C++[iz 20 0 0])))))):=by
 refine qda _ _ _ _ _ _ ?_;have z:=xX (ins:=A++(B++C)) (by simp;omega) 20 0 0;rw[qc,qBi (by omega),cond_false];have e0:(A++(B++C))++[iz 20 0 0]=A++(B++(C++[iz 20 0 0])):=by simp
 have e1:(qe 0 ((A++B).length:Int)&&qe ((A++B).length:Int) ((qd (A++(B++(C++[iz 20 0 0])))).length:Int))=true:=by
  rw[qI,qu];simp;omega
 have e2:(qe 0 ((qd A).length:Int)&&qe ((qd A).length:Int) ((qAR ((A++B).length:Int):Nat):Int))=true:=by
  rw[qI,qu,qAS];simp;omega
 have e3:((qd (A++(B++(C++[iz 20 0 0])))).length:Int)=((A.length+B.length+(C++[iz 20 0 0]).length:Nat):Int):=by
  rw[qu];simp;omega
 have zf:=qtf ((A.length+B.length+(C++[iz 20 0 0]).length:Nat):Int) A B (C++[iz 20 0 0]) (by omega);rw[e0]at z;simp only[z,qb,qO,qM,vp,vo,qU,qAM,cond_true,qN,qV,qW,qD,qm,qR,vm,e1,e2];rw[show 0+qAR ((qd A).length:Int)=A.length by simp,show qAR ((A++B).length:Int) - qAR ((qd A).length:Int)=B.length by rw[qAS,qAS,qu,qAI];omega,e3,zf]
 simp only[qb,qiz];refine⟨_,rfl,?_⟩;show _=(_,mkH _);rw[mkH,qu,qu];simp
theorem qyT{bs:List Tm}(hx:∀t∈bs,zz t)(A B:List InsA){P:AV×AH->Prop}:∀(k i:Nat) (C:List InsA),bs.length - i=k->1<=i->i<=bs.length->A.length+B.length+C.length+(wL (bs.drop i)+(bs.drop i).length)<1099511627776->bs.length<1099511627776 ->
  (∀C',C'=C++qaf (bs.drop i) (A.length+B.length+C.length)->Gets (zY (qd A) (qa bs) ((A++B).length:Int) (bs.length:Int) (qd (A++(B++C'))).length (qd (A++(B++C')))) P) ->
  Gets (zY (qd A) (qa bs) ((A++B).length:Int) (i:Int) (qd (A++(B++C))).length (qd (A++(B++C)))) P:=by
 intro k
 induction k with
 |zero=>
  intro i C hk h1 hi hw hlen h;have hi':i=bs.length:=by omega
  rw[qAV (by omega)]at h;rw[hi'];exact h C (by rw[qaf,List.append_nil])
 |succ k ih=>
  intro i C hk h1 hi hw hlen h;refine qda _ _ _ _ _ _ ?_;have hil:i<bs.length:=by omega
  have g0:bs[i]? =some bs[i]:=qAv hil;have hd:bs.drop i=bs[i]::bs.drop (i+1):=by rw[qAT hil]
  rw[hd,qA,qA0]at hw;have e1:(qe 0 (i:Int)&&qi (i:Int) ((qa bs).length:Int))=true:=by simp;omega
  have z1:=xX (ins:=A++(B++C)) (by simp;omega) 19 0 0;have hl1:(A++(B++C)++[iz 19 0 0]).length=A.length+B.length+C.length+1:=by simp;omega
  have z2:=(hx bs[i] (List.getElem_mem hil)).c (ins:=A++(B++C)++[iz 19 0 0]) (by rw[hl1];omega);rw[hl1]at z2;have hc:=xi bs[i] (A.length+B.length+C.length+1);have ep:decide ((i:Int)>0)=true:=qBh (by omega);rw[qBh (show(i:Int)<((qa bs).length:Int) by simp;omega),e1];simp only[xz g0,qb,qO,qM,vp,vo,qU,qAM,cond_true,qN,qV,qW,qD,qm,qR,vm,qv,qG,qF,show qAF 4 4=true from rfl,ep,z1,z2]
  rw[qL hil hlen];rw[show A++(B++C)++[iz 19 0 0]++qp bs[i] (A.length+B.length+C.length+1)=A++(B++(C++(iz 19 0 0::qp bs[i] (A.length+B.length+C.length+1)))) by simp];refine ih (i+1) (C++(iz 19 0 0::qp bs[i] (A.length+B.length+C.length+1))) (by omega) (by omega) (by omega) (by simp at hw⊢;omega) hlen ?_;rintro C' rfl;refine h _ ?_;rw[hd,qaf];have:A.length+B.length+(C++(iz 19 0 0::qp bs[i] (A.length+B.length+C.length+1))).length=A.length+B.length+C.length+1+(qp bs[i] (A.length+B.length+C.length+1)).length:=by simp;omega
  rw[this];simp
theorem qyU{bs:List Tm}(hx:∀t∈bs,zz t)(A B C:List InsA){P:AV×AH->Prop}(hw:A.length+B.length+C.length+(wL bs+bs.length)<1099511627776)(h:∀C',C'=C++xJ bs (A.length+B.length+C.length)->Gets (zY (qd A) (qa bs) ((A++B).length:Int) (bs.length:Int) (qd (A++(B++C'))).length (qd (A++(B++C')))) P):
  Gets (zY (qd A) (qa bs) ((A++B).length:Int) 0 (qd (A++(B++C))).length (qd (A++(B++C)))) P:=by
 cases bs with
 |nil=>exact h C (by rw[xJ,List.append_nil])
 |cons e bs=>
  have hlen:(e::bs).length<1099511627776:=by omega
  refine qda _ _ _ _ _ _ ?_;rw[qA,qA0]at hw;have g0:=xz (l:=e::bs) (i:=0) (t:=e) rfl;rw[show((0:Nat):Int)=0 from rfl]at g0;have e1:(qe 0 (0:Int)&&qi (0:Int) ((qa (e::bs)).length:Int))=true:=by simp<;>omega
  have hl1:(A++(B++C)).length=A.length+B.length+C.length:=by simp;omega
  have z2:=(hx e (by simp)).c (ins:=A++(B++C)) (by rw[hl1];omega);rw[hl1]at z2;have hc:=xi e (A.length+B.length+C.length);have ep:decide ((0:Int)>0)=false:=rfl;rw[qBh (show(0:Int)<((qa (e::bs)).length:Int) by simp<;>omega),e1];simp only[g0,qb,qO,qM,vp,vo,qU,qAM,cond_true,cond_false,qN,qV,qW,qD,qR,vm,qv,qG,qF,show qAF 4 4=true from rfl,ep,z2]
  rw[show A++(B++C)++qp e (A.length+B.length+C.length)=A++(B++(C++qp e (A.length+B.length+C.length))) by simp];refine qyT hx A B bs.length 1 (C++qp e (A.length+B.length+C.length)) (by simp) (by omega) (by simp) (by simp at hw⊢;omega) hlen ?_;rintro C' rfl;refine h _ ?_;rw[xJ];have:A.length+B.length+(C++qp e (A.length+B.length+C.length)).length=A.length+B.length+C.length+(qp e (A.length+B.length+C.length)).length:=by simp;omega
  rw[this];simp
structure ClX (c:Cl):Prop where
 gs:∀t∈c.gs,zz t
 bs:∀t∈c.bs,zz t
theorem qiI{c:Cl}(hx:ClX c){ins:List InsA}(hw:ins.length+wCl c+2<1099511627776):
  EVj (EV cfg) 57 1 [.ptr 0 0 0,.agg [.int .i64 c.head.kind,.int .i64 c.head.num,.str c.head.str,.sl (qa c.head.subs),.sl (qa c.gs),.sl (qa c.bs)]] (mkH (qd ins))=some (.tup [],mkH (qd (ins++xY c ins.length))):=by
 apply Gets.get;refine qpr _ _ _ _ _ _ _ ?_;unfold wCl at hw;have z:=quX c.head (ins:=ins) (by omega);have hl:=qbV c.head [];have hg:=qb7 c.gs (ins.length+(vg c.head []).1.length);rw[Tm.av,Tm.cells_eq]at z;simp only[z,qb,qO,qM,vp,vo,qU,qAM,cond_true,qN,qV,qW,qD,qR,vm]
 refine qwn hx.gs c.head c.bs (qd ins) c.gs.length 0 (ins++(vg c.head []).1) (by omega) (by omega) (by rw[qA4];simp;omega) (by omega) ?_;rintro ins' rfl;rw[qA4];have ea:ins++(vg c.head []).1++xM c.gs (ins++(vg c.head []).1).length=ins++xf c ins.length:=by
  unfold xf;simp
 have hal:(xf c ins.length).length=(vg c.head []).1.length+(xM c.gs (ins.length+(vg c.head []).1.length)).length:=by unfold xf;simp
 rw[ea,show ins++xf c ins.length++[iz 18 0 0]=ins++(xf c ins.length++[iz 18 0 0]) by simp];refine qyU hx.bs ins (xf c ins.length) [iz 18 0 0] (by simp;omega) ?_;rintro C' rfl;have hb:=qmM c.bs (ins.length+(xf c ins.length).length+[iz 18 0 0].length);obtain⟨r,h1,h2⟩:=qAr c.bs ins (xf c ins.length) ([iz 18 0 0]++xJ c.bs (ins.length+(xf c ins.length).length+[iz 18 0 0].length)) (by simp at hb⊢;omega)
 exact⟨r,h1,h2⟩
theorem qrt(l:List Int)(hl:l.length<1099511627776)(n:Int):EVs (EV cfg) 171 [.sl (ql l),.int .i64 n]=some (.bool (decide (n∈l))):=by
 have loop:∀d i:Nat,i+d=l.length->Gets (qeU (ql l) n i) (·= .bool (decide (n∈l.drop i))):=by
  intro d
  induction d with
  |zero=>
   intro i hi;refine qfG _ _ _ ?_;rw[qP,qBi (by omega),qAV (by omega)];exact⟨_,rfl,by simp⟩
  |succ d ih=>
   intro i hi;have hil:i<l.length:=by omega
   refine qfG _ _ _ ?_;have hx:l[i]? =some l[i]:=qAv hil;have hd:l.drop i=l[i]::l.drop (i+1):=qAT hil;have h:=ih (i+1) (by omega);rw[qP,qBh (show(i:Int)<(l.length:Int) by omega),qI,q8,qBh hil,qB,qAS,zc,hx,qL hil hl,hd]
   by_cases he:l[i]=n
   ·refine⟨.bool true,?_,?_⟩
    ·simp[he]
    ·rw[he];simp
   ·have hne:(l[i]==n)=false:=by rw[beqI];exact qBi he
    have hm:decide (n∈l[i]::l.drop (i+1))=decide (n∈l.drop (i+1)):=decide_eq_decide.2 (by rw[qAZ];exact⟨λh=>h.resolve_left (λe=>he e.symm),.inr⟩);rw[hm]
    simpa [hne]using h
 apply Gets.get;exact qwh _ _ (by simpa using loop l.length 0 (by omega))
abbrev qb6(r:List InsA×List Int):OV×AV:=(ownI r.1,.sl (ql r.2))
def qtt(t:Tm):Prop:=t.chk=0->∀V:List Int,V.length+t.w<1099511627776->EVq (EV cfg) 110 [t.av,.sl (ql V)]=some (qb6 (vg t V))
theorem qsO:∀(n:Nat) (t:Tm),t.w<=n->∀V,(vg t V).2.length<=V.length+t.w:=by
 intro n
 induction n with
 |zero=>intro t h;have:=t.w_eq;omega
 |succ n ih=>
  intro t h V;have hw:=t.w_eq;have hm:∀l:List Tm,wL l<=n->∀V,(vW l V).2.length<=V.length+wL l:=by
   intro l
   induction l with
   |nil=>intro _ V;rw[qaK];simp
   |cons t l ihl=>
    intro hl V;rw[qA]at hl;rw[qaa,qA];have h1:=ih t (by omega) V;have h2:=ihl (by omega) (vg t V).2;simp only[];omega
  have h1:=hm t.subs (by omega) V;rw[qbW];split
  ·split<;>(simp<;>omega)
  ·split
   ·simp only[];omega
   ·split
    ·simp only[];omega
    ·split<;>(simp only[];omega)
theorem qgQ(t:Tm)(V:List Int):(vg t V).2.length<=V.length+t.w:=qsO t.w t (qAA _) V
theorem qg1{l:List Tm}(hlen:l.length<1099511627776)(hx:∀t∈l,qtt t)(hc0:∀t∈l,t.chk=0)(k n:Int)(s:List UInt8):∀(d i:Nat) (V:List Int) (out:List InsA),i+d=l.length->V.length+wL (l.drop i)<1099511627776->out.length+wL (l.drop i)<1099511627776 ->
  Gets (xK (ql V) out.length (i:Int) k n s (qa l) (qd out)) (·=qb6 (out++(vW (l.drop i) V).1,(vW (l.drop i) V).2)):=by
 intro d
 induction d with
 |zero=>
  intro i V out hi hV ho;refine qfF _ _ _ _ _ _ _ _ ?_;rw[qc,qBi (by omega),qAV (by omega),qaK,List.append_nil];exact⟨_,rfl,rfl⟩
 |succ d ih=>
  intro i V out hi hV ho;have hil:i<l.length:=by omega
  have g0:l[i]? =some l[i]:=qAv hil;have hd:l.drop i=l[i]::l.drop (i+1):=qAT hil;rw[hd,qA]at hV ho;refine qfF _ _ _ _ _ _ _ _ ?_;have e1:(qe 0 (i:Int)&&qi (i:Int) ((qa l).length:Int))=true:=by simp;omega
  have z:=hx l[i] (List.getElem_mem hil) (hc0 l[i] (List.getElem_mem hil)) V (by omega);have hc:=qbV l[i] V;have hv:=qgQ l[i] V;have h1:=ih (i+1) (vg l[i] V).2 (out++(vg l[i] V).1) (by omega) (by omega) (by rw[qAI];omega);have b1:qAF (vg l[i] V).1.length (vg l[i] V).1.length=true:=by rw[nble,qBh (qAA _)]
  have b2:qAF out.length out.length=true:=by rw[nble,qBh (qAA _)]
  have f1:qo (out.length+(vg l[i] V).1.length) 80=true:=zv (by omega);have ea:qAG (qAB out.length (qd out)) (qd (vg l[i] V).1)=qd (out++(vg l[i] V).1):=by
   rw[qAE (by rw[qu];exact qAA _),yR];rfl
  rw[qBh (show(i:Int)<((qa l).length:Int) by simp;omega),e1,xz g0,qL hil hlen];simp -implicitDefEqProofs only[cond_true,qb,qv,qG,qF,show qAz 4 4=true from rfl,show qAF 4 4=true from rfl,q9,z,qb6,xG,xh,qa2,qu,qA5,show qAz 7 7=true from rfl,qAM,qA9,b1,b2,f1,ea];rw[hd,qaa]
  rw[qAI]at h1;rw[qA8]at h1;exact h1
theorem quO:∀(n:Nat) (t:Tm),t.w<=n->qtt t:=by
 intro n
 induction n with
 |zero=>intro t h;have:=t.w_eq;omega
 |succ n ih=>
  intro t h hck V hV;have hwe:=t.w_eq;apply Gets.get;rw[Tm.av,Tm.cells_eq];refine qs3 _ _ _ _ _ ?_;unfold zu11 zu5 zu6 zu8 zu10 zu9 zu7 zu0 zu1 zu2 zu3 zu4;have hv:=qbj (t:=t) (by omega);have hloop:∀x:InsA,Gets (xK (ql V) 1 0 t.kind t.num t.str (qa t.subs) [x.row]) (·=qb6 (x::(vW t.subs V).1,(vW t.subs V).2)):=λx=>by
   have:=qg1 (l:=t.subs) (by have:=xw t.subs;omega) (λx hx=>ih x (by have:=vV hx;omega)) (λx hx=>vU hck hx) t.kind t.num t.str t.subs.length 0 V [x] (by omega) (by rw[qA4];omega) (by rw[qA4];simp;omega);rw[qA4]at this;exact this
  simp -implicitDefEqProofs only[rowZ,rowT,own1,q9,hv,varR,qb,qS,qD,qm,qk,qR,qc];rw[qbW];cases hvt:varT t with
  |some x=>
   have hin:=qrt V (by omega) x;simp -implicitDefEqProofs only[Option.isSome_some,Option.getD_some,cond_true,hin,qb,qk]
   by_cases hm:x∈V
   ·rw[qBh hm,qBj hm];exact⟨_,rfl,rfl⟩
   ·have r1:vq 1 (ql V)=true:=by cases V<;>rfl
    have b2:qAF V.length V.length=true:=by rw[nble,qBh (qAA _)]
    have f0:qo V.length 8=true:=qfs (by omega);have f1:qo (V.length+1) 8=true:=qfs (by omega);have ea:qAG (qAB V.length (ql V)) [[AV.int .i64 x]]=ql (V++[x]):=by
     rw[qAE (by rw[qP];exact qAA _)];show ql V++_=_;simp[ql]
    have b3:qAF (V.length+1) (V++[x]).length=true:=by rw[nble,qBh (by simp)]
    have ta:qAB (V.length+1) (ql (V++[x]))=ql (V++[x]):=qAE (by rw[qP];simp);rw[qBi hm,qBk hm];simp -implicitDefEqProofs only[cond_false,r1,cond_true,qP,qA5,b2,f0,f1,qAM,ea,b3,ta];exact⟨_,rfl,rfl⟩
  |none=>
   simp -implicitDefEqProofs only[Option.isSome_none,cond_false];have ha:anyT t=true↔t.kind=2∧t.str=[95]:=by
    unfold anyT;simp[hck]
   by_cases h2:t.kind=2
   ·have k2:(t.kind==(2:Int))=true:=by simp[h2]
    have k7:(t.kind != (7:Int))=true:=by simp[h2]
    have k9:(t.kind != (9:Int))=true:=by simp[h2]
    by_cases hs:t.str=[95]
    ·have s1:(t.str==[95])=true:=by simp[hs]
     rw[qBj (ha.2 ⟨h2,hs⟩)];simp -implicitDefEqProofs only[k2,s1,cond_true];exact⟨_,rfl,rfl⟩
    ·have s1:(t.str==[95])=false:=by simp[hs]
     rw[qBk (λh=>hs (ha.1 h).2),qBk (by omega),qBk (by omega)];simp -implicitDefEqProofs only[k2,s1,k7,k9,cond_true,cond_false];exact⟨_,rfl,rfl⟩
   have k2:(t.kind==(2:Int))=false:=by simp[h2]
   rw[qBk (λh=>h2 (ha.1 h).1)]
   by_cases h7:t.kind=7
   ·have k7:(t.kind != (7:Int))=false:=by simp[h7]
    have k7':(t.kind==(7:Int))=true:=by simp[h7]
    rw[qBj h7];simp -implicitDefEqProofs only[k2,k7,k7',cond_true,cond_false];exact hloop _
   have k7:(t.kind != (7:Int))=true:=by simp[h7]
   have k7':(t.kind==(7:Int))=false:=by simp[h7]
   rw[qBk h7]
   by_cases h9:t.kind=9
   ·have k9:(t.kind != (9:Int))=false:=by simp[h9]
    rw[qBj h9];simp -implicitDefEqProofs only[k2,k7,k7',k9,cond_true,cond_false];exact hloop _
   ·have k9:(t.kind != (9:Int))=true:=by simp[h9]
    rw[qBk h9];simp -implicitDefEqProofs only[k2,k7,k9,cond_true,cond_false];exact⟨_,rfl,rfl⟩
theorem qm7{l:List Tm}(hlen:l.length<1099511627776)(hx:∀t∈l,qtt t)(hN:∀t,l[0]? =some t->EVq (EV cfg) 110 [t.av,.nilS]=some (qb6 (vg t [])))(hc0:∀t∈l,t.chk=0)(k n:Int)(s:List UInt8)(x:InsA)(hw:1+wL l<1099511627776):
  Gets (zA 1 0 k n s (qa l) [x.row]) (·=qb6 (x::(vW l []).1,(vW l []).2)):=by
 refine qlv _ _ _ _ _ _ _ ?_;cases l with
 |nil=>
  rw[qaK];exact⟨_,rfl,rfl⟩
 |cons t r=>
  rw[qA]at hw;have z:=hN t rfl;have hc:=qbV t [];have hv:=qgQ t [];simp only[List.length_nil,qA5]at hv;have g0:qAu (qa (t::r)) (qAR 0)=some t.cells:=xz (i:=0) rfl;have e1:(qe 0 (0:Int)&&qi (0:Int) ((qa (t::r)).length:Int))=true:=by simp<;>omega
  have w1:qAH .i64 ((0:Int)+1)=((1:Nat):Int):=vE (by omega) (by omega);have h1:=qg1 hlen hx hc0 k n s r.length 1 (vg t []).2 (x::(vg t []).1) (by simp;omega) (by simp;omega) (by simp;omega);have b1:qAF (vg t []).1.length (vg t []).1.length=true:=by rw[nble,qBh (qAA _)]
  have b2:qAF 1 ([x.row]:List (List AV)).length=true:=rfl;have f1:qo (1+(vg t []).1.length) 80=true:=zv (by omega);have ea:qAG (qAB 1 [x.row]) (qd (vg t []).1)=qd (x::(vg t []).1):=rfl;rw[qBh (show(0:Int)<((qa (t::r)).length:Int) by simp<;>omega),e1,g0,w1];simp -implicitDefEqProofs only[cond_true,qb,qv,qG,qF,show qAz 4 4=true from rfl,show qAF 4 4=true from rfl,q9,z,qb6,xG,xh,qa2,qu,qA5,show qAz 7 7=true from rfl,qAM,qA9,b1,b2,f1,ea]
  rw[qaa];rw[List.drop_succ_cons,qA4,qA0,Nat.add_comm _ 1]at h1;exact h1
theorem qs4:∀(n:Nat) (t:Tm),t.w<=n->t.chk=0->t.w<1099511627776->EVq (EV cfg) 110 [t.av,.nilS]=some (qb6 (vg t [])):=by
 intro n
 induction n with
 |zero=>intro t h;have:=t.w_eq;omega
 |succ n ih=>
  intro t h hck hV;have hwe:=t.w_eq;apply Gets.get;rw[Tm.av,Tm.cells_eq];refine qqN _ _ _ _ ?_;unfold zu20 zu18 zu19 zu17 zu16 zu15 zu14 zu12 zu13;have hv:=qbj (t:=t) (by omega);have hloop:∀x:InsA,Gets (zA 1 0 t.kind t.num t.str (qa t.subs) [x.row]) (·=qb6 (x::(vW t.subs []).1,(vW t.subs []).2)):=λx=>
   qm7 (l:=t.subs) (by have:=xw t.subs;omega) (λx hx=>quO x.w x (qAA _)) (λx hx=>ih x (by have:=vV (qAJ hx);omega) (vU hck (qAJ hx)) (by have:=vV (qAJ hx);omega)) (λx hx=>vU hck hx) t.kind t.num t.str x (by omega)
  simp -implicitDefEqProofs only[rowZ,rowT,own1,q9,hv,varR,qb,qS,qD,qm,qk,qR,qc];rw[qbW];cases hvt:varT t with
  |some x=>
   have hin:EVs (EV cfg) 171 [.sl [],.int .i64 x]=some (.bool (decide (x∈([]:List Int)))):=qrt [] (by simp) x;simp -implicitDefEqProofs only[Option.isSome_some,Option.getD_some,cond_true,hin,qb,qk];exact⟨_,rfl,rfl⟩
  |none=>
   simp -implicitDefEqProofs only[Option.isSome_none,cond_false];have ha:anyT t=true↔t.kind=2∧t.str=[95]:=by
    unfold anyT;simp[hck]
   by_cases h2:t.kind=2
   ·have k2:(t.kind==(2:Int))=true:=by simp[h2]
    have k7:(t.kind != (7:Int))=true:=by simp[h2]
    have k9:(t.kind != (9:Int))=true:=by simp[h2]
    by_cases hs:t.str=[95]
    ·have s1:(t.str==[95])=true:=by simp[hs]
     rw[qBj (ha.2 ⟨h2,hs⟩)];simp -implicitDefEqProofs only[k2,s1,cond_true];exact⟨_,rfl,rfl⟩
    ·have s1:(t.str==[95])=false:=by simp[hs]
     rw[qBk (λh=>hs (ha.1 h).2),qBk (by omega),qBk (by omega)];simp -implicitDefEqProofs only[k2,s1,k7,k9,cond_true,cond_false];exact⟨_,rfl,rfl⟩
   have k2:(t.kind==(2:Int))=false:=by simp[h2]
   rw[qBk (λh=>h2 (ha.1 h).1)]
   by_cases h7:t.kind=7
   ·have k7:(t.kind != (7:Int))=false:=by simp[h7]
    have k7':(t.kind==(7:Int))=true:=by simp[h7]
    rw[qBj h7];simp -implicitDefEqProofs only[k2,k7,k7',cond_true,cond_false];exact hloop _
   have k7:(t.kind != (7:Int))=true:=by simp[h7]
   have k7':(t.kind==(7:Int))=false:=by simp[h7]
   rw[qBk h7]
   by_cases h9:t.kind=9
   ·have k9:(t.kind != (9:Int))=false:=by simp[h9]
    rw[qBj h9];simp -implicitDefEqProofs only[k2,k7,k7',k9,cond_true,cond_false];exact hloop _
   ·have k9:(t.kind != (9:Int))=true:=by simp[h9]
    rw[qBk h9];simp -implicitDefEqProofs only[k2,k7,k9,cond_true,cond_false];exact⟨_,rfl,rfl⟩
theorem qpf(p:Int)(C:List InsA):∀(B D:List InsA) (nn:Nat),nn=D.length+B.length->nn<1099511627776 ->
  Gets (qa9 nn p (D.length:Int) (qd (D++(B++C)))) (·=(MV.sl 0 nn,qd (D++(B.map (xb p)++C)))):=by
 intro B
 induction B with
 |nil=>
  intro D nn hn hl;refine qfE _ _ _ _ ?_;unfold zu27 zu28 zu25 zu26 zu21 zu22 zu23 zu24;rw[qBi (show ¬((D.length:Int)<(nn:Int)) by rw[hn];simp),cond_false];exact⟨_,rfl,rfl⟩
 |cons x B ih=>
  intro D nn hn hl;rw[qA0]at hn;refine qfE _ _ _ _ ?_;unfold zu27 zu28 zu25 zu26 zu21 zu22 zu23 zu24;have e0:decide ((D.length:Int)<(nn:Int))=true:=qBh (by omega);have e1:(qe 0 (D.length:Int)&&qi (D.length:Int) (nn:Int))=true:=by
   rw[qI,q8,qBh (by omega)];rfl
  have e2:qAu (qd (D++(x::B++C))) (0+qAR (D.length:Int))=some x.row:=by
   rw[qAS,qA5];exact qdI D (B++C) x
  have e3:qAu x.row 0=some (.int .i64 x.o):=rfl;have e4:∀y:InsA,List.set (qd (D++(x::B++C))) (0+qAR (D.length:Int)) y.row=qd ((D++[y])++(B++C)):=by
   intro y;rw[qAS,qA5];rw[show(D++[y])++(B++C)=D++y::(B++C) by simp];exact qdH D (B++C) x y
  have e5:qAG (qAG (qAB 2 x.row) [AV.int .i64 p]) (qAO 3 x.row)=(⟨x.o,x.a,p,x.t⟩:InsA).row:=rfl;have e6:qAG (qAG (qAB 1 x.row) [AV.int .i64 p]) (qAO 2 x.row)=(⟨x.o,p,x.b,x.t⟩:InsA).row:=rfl;have ew:qAH .i64 ((D.length:Int)+1)=((D.length+1:Nat):Int):=qL (n:=nn) (by omega) hl;have hy:∀y:InsA,y=xb p x->Gets (qa9 nn p ((D.length+1:Nat):Int) (qd ((D++[y])++(B++C)))) (·=(MV.sl 0 nn,qd (D++((x::B).map (xb p)++C)))):=by
   rintro y rfl;have:=ih (D++[xb p x]) nn (by simp;omega) hl;rw[show(D++[xb p x]).length=D.length+1 by simp,show D++[xb p x]++(List.map (xb p) B++C)=D++((x::B).map (xb p)++C) by simp]at this;exact this
  simp -implicitDefEqProofs only[e0,e1,e2,e3,e5,e6,e4,ew,InsA.row_len,show qAF 3 7=true from rfl,show qAF 2 7=true from rfl,qb,cond_true,qm]
  by_cases h:x.o∈([1,2,4,6,14,11,12,10,13,17]:List Int)
  ·have hf:=hy ⟨x.o,x.a,p,x.t⟩ (by unfold xb;rw[qBj h]);simp only[qAZ,List.not_mem_nil,or_false]at h;rcases h with h|h|h|h|h|h|h|h|h|h<;>· rw[h]at hf⊢;exact hf
  ·by_cases h':x.o=15∨x.o=16
   ·have hf:=hy ⟨x.o,p,x.b,x.t⟩ (by unfold xb;rw[qBk h,qBj h']);rcases h' with h'|h'<;>· rw[h']at hf⊢;exact hf
   ·have hf:=hy x (by unfold xb;rw[qBk h,qBk h']);simp only[qAZ,List.not_mem_nil,or_false,not_or]at h h';obtain⟨h1,h2,h3,h4,h5,h6,h7,h8,h9,h10⟩:=h;obtain⟨h11,h12⟩:=h';simp only[beqI,h1,h2,h3,h4,h5,h6,h7,h8,h9,h10,h11,h12,decide_false,cond_false];rw[show qd ((D++[x])++(B++C))=qd (D++(x::B++C)) by simp]at hf;exact hf
theorem qs5(p:Int)(B C:List InsA)(h:B.length<1099511627776):EVm (EV cfg) 111 [.ms 0 0 B.length,.int .i64 p] 7 (qd (B++C))=some (.sl 0 B.length,qd (B.map (xb p)++C)):=by
 apply Gets.get;refine qqO _ _ _ ?_;have:=qpf p C B [] B.length (by simp) h;exact this
def qxZ:Den:=evC cfg (EV cfg) 61 none 0 (sub (qg Tryz.f61) [1,1,0,1,0,0])
def qyj:Ex×List AV×AH->Option AV:=kAft (Cfg.keepOut cfg 61 3) (kRun cfg (EV cfg) (kfN cfg 6) 61 none 0 (yn cfg (Cfg.lift cfg 61 0) Tryz.f61.results.toList) ([.block 0,.seq (sub (qg Tryz.f61) [1,1,1])]))
def qxH:List AV×AH->Option AV:=λp=>kOpt (LOOP 0 (some [0,3,4]) ([(3,7)]) qxZ p) qyj
def qx0:Den:=evC cfg (EV cfg) 20 none 0 (sub (qg Tryz.f20) [1,1,1,1,0,1,0,0])
def qyk:Ex×List AV×AH->Option AV:=kAft (Cfg.keepOut cfg 20 6) (kRun cfg (EV cfg) (kfN cfg 6) 20 none 0 (yn cfg (Cfg.lift cfg 20 0) Tryz.f20.results.toList) ([.block 0,.seq (sub (qg Tryz.f20) [1,1,1,1,1])]))
def qxI:List AV×AH->Option AV:=λp=>kOpt (LOOP 0 (some [4,6,7]) ([(6,7)]) qx0 p) qyk
abbrev qhn(l:Rz)(nv3:Nat)(v4:Int)(h0:Rz):Option (AV):=qxH (((fx 25 [(0,.sl l),(3,.ms 0 0 nv3),(4,.int .i64 v4)]):List AV),([.rows true 7 h0]:AH))
abbrev qen(rows:Rz)(nv6:Nat)(v7:Int)(h0:Rz):Option (AV):=qxI (((fx 33 [(4,.sl rows),(6,.ms 0 0 nv6),(7,.int .i64 v7)]):List AV),([.rows true 7 h0]:AH))
theorem quM(l:Rz){P:AV->Prop}(h:Gets (qhn l 0 0 []) P):Gets (EVf (EV cfg) 61 [.sl l]) P:=
  gE (λ_=>funF rfl rfl Tryz.func61 rfl) (by kernel_rfl) h
theorem qm8(k n:Int)(s:Bz)(l:Rz){P:AV->Prop}(h:Gets (kOpt (EVf (EV cfg) 59 [.agg [.int .i64 k,.int .i64 n,.str s,.sl l]]) λv=>kTup v λcs=>qf cs λc cs=>kSl c λrows=>qf cs λc cs=>kInt .i64 c λn=>kNil cs (bif n != 0 then some (AV.tup [.sl [],.int .i64 n])else qen rows 0 0 [])) P):Gets (EVf (EV cfg) 20 [.agg [.int .i64 k,.int .i64 n,.str s,.sl l]]) P:=
  gE (λ_=>funF rfl rfl Tryz.func20 rfl) (by kernel_rfl) h
abbrev zD0(v:AV):Option (AV):=kSl v λrows=>some (AV.tup [.sl rows,.int .i64 0])
theorem quL(k n:Int)(s:Bz)(l v:Rz){P:AV->Prop}(h:Gets (kOpt (EVs (EV cfg) 64 [.agg [.int .i64 k,.int .i64 n,.str s,.sl l],.sl v]) λv=>kInt .i64 v λn_1=>bif n_1 != 0 then some (AV.tup [.sl [],.int .i64 n_1])else kOpt (EVo (EV cfg) 65 [.agg [.int .i64 k,.int .i64 n,.str s,.sl l],.int .i64 0]) λo=>kOwn o (kOpt (EVf (EV cfg) 61 [.sl []]) λv=>zD0 v) λsz rs off len=>bif qAF (off+len) (qAt rs)&&true then kOpt (EVf (EV cfg) 61 [.sl (qAB len (qAO off rs))]) λv=>zD0 v else none) P):Gets (EVf (EV cfg) 22 [.agg [.int .i64 k,.int .i64 n,.str s,.sl l],.sl v]) P:=
  gE (λ_=>funF rfl rfl Tryz.func22 rfl) (by kernel_rfl) h
theorem qf4(l:Rz)(nv3:Nat)(v4:Int)(h0:Rz){P:AV->Prop}(h:Gets (bif decide (v4<(l.length:Int))then bif qe 0 v4&&qi v4 (l.length:Int)then kOpt (qAu l (v4.toNat)) λrow=>bif qAz (qAt row) 7 then bif qAF 7 (qAt row)then qf (qAB 7 row) λc cs=>kInt .i64 c λn=>qf cs λc cs=>kInt .i64 c λn_1=>qf cs λc cs=>kInt .i64 c λn_2=>kTmC cs λn_3 n_4 s rows=>(kOpt (EVf (EV cfg) 51 [.agg [.int .i64 n_3,.int .i64 n_4,.str s,.sl rows]]) λv=>kTmV v λn_5 n_6 s rows=>(bif qAF (0+nv3) (qAt h0)&&qo (nv3+1) 80 then qhn l (nv3+1) (qAH .i64 (v4+1)) (qAG (qAB nv3 h0) [[AV.int .i64 n,.int .i64 n_1,.int .i64 n_2,.int .i64 n_5,.int .i64 n_6,.str s,.sl rows]])else none))else none else none else none else bif qAF (0+nv3) (qAt h0)&&true then some (.sl (qAB nv3 h0))else none) P):Gets (qhn l nv3 v4 h0) P:=
  gE (λ_=>qt (cfg:=cfg) (f:=61) (rd:=none) (bs:=0)) (by kernel_rfl) h
theorem qf5(rows:Rz)(nv6:Nat)(v7:Int)(h0:Rz){P:AV->Prop}(h:Gets (bif decide (v7<(rows.length:Int))then bif qe 0 v7&&qi v7 (rows.length:Int)then kOpt (qAu rows (v7.toNat)) λrow=>bif qAz (qAt row) 6 then bif qAF 6 (qAt row)then qf (qAB 6 row) λc cs=>kInt .i64 c λn=>qf cs λc cs=>kInt .i64 c λn_1=>qf cs λc cs=>kStr c λs=>qf cs λc cs=>kSl c λrows_1=>qf cs λc cs=>kSl c λrows_2=>qf cs λc cs=>kSl c λrows_3=>kNil cs (kOpt (EVo (EV cfg) 60 [.agg [.int .i64 n,.int .i64 n_1,.str s,.sl rows_1,.sl rows_2,.sl rows_3],.int .i64 (↑ nv6:Int)]) λo=>kOwn o (bif qAF (0+nv6) (qAt h0)&&qo (nv6+0) 80 then qen rows (nv6+0) (qAH .i64 (v7+1)) (qAG (qAB nv6 h0) [])else none) λsz rs off len=>bif qAz sz 7&&qAF (off+len) (qAt rs)then bif qAF (0+nv6) (qAt h0)&&qo (nv6+qAt (qAB len (qAO off rs))) 80 then qen rows (nv6+qAt (qAB len (qAO off rs))) (qAH .i64 (v7+1)) (qAG (qAB nv6 h0) (qAB len (qAO off rs)))else none else none)else none else none else none else bif qAF (0+nv6) (qAt h0)&&true then kOpt (EVf (EV cfg) 61 [.sl (qAB nv6 h0)]) λv=>zD0 v else none) P):Gets (qen rows nv6 v7 h0) P:=
  gE (λ_=>qt (cfg:=cfg) (f:=20) (rd:=none) (bs:=0)) (by kernel_rfl) h
theorem qt5{V:List Int}{l:List Tm}(hlen:l.length<1099511627776)(ih:∀x∈l,EVs (EV cfg) 116 [x.av,.sl (ql V)]=some (.bool (isG V x))):
  EVs (EV cfg) 178 [.sl (qa l),.sl (ql V)]=some (.bool (allG V l)):=by
 have loop:∀d i:Nat,i+d=l.length->Gets (qjr (qa l) (ql V) i) (·= .bool (allG V (l.drop i))):=by
  intro d
  induction d with
  |zero=>
   intro i hi;refine qhU _ _ _ ?_;rw[qc,qBi (by omega),qAV (by omega)];exact⟨_,rfl,by rw[allG]⟩
  |succ d ihd=>
   intro i hi;have hil:i<l.length:=by omega
   refine qhU _ _ _ ?_;have hx:l[i]? =some l[i]:=qAv hil;have hd:l.drop i=l[i]::l.drop (i+1):=qAT hil;have h1:=ih l[i] (qAJ hx);have h2:=ihd (i+1) (by omega);rw[qc,qBh (show(i:Int)<(l.length:Int) by omega),qI,q8,qBh hil,ye hx,qL hil hlen,hd,allG];simp only[cond_true,qAM,qv,qA1,qG,qF,show qAF 4 4=true from rfl,q9,h1,qb,qk]
   cases hg:isG V l[i]with
   |false=>exact⟨_,rfl,rfl⟩
   |true=>rw[qA9];exact h2
 apply Gets.get;exact qr4 _ _ (by simpa using loop l.length 0 (by omega))
theorem qvL{V:List Int}(hV:V.length<1099511627776):∀(n:Nat) (t:Tm),t.w<=n->n<1099511627776->EVs (EV cfg) 116 [t.av,.sl (ql V)]=some (.bool (isG V t)):=by
 intro n
 induction n with
 |zero=>intro t h;have:=yJ t;omega
 |succ n ih=>
  intro t hw hn;have hwe:=t.w_eq;have hwl:=xw t.subs;have allOf:∀l:List Tm,wL l<=n->EVs (EV cfg) 178 [.sl (qa l),.sl (ql V)]=some (.bool (allG V l)):=λl hl=>
   qt5 (by have:=xw l;omega) λx hx=>ih x (by have:=vV hx;omega) (by omega)
  have hvar:=qbj (t:=t) (by omega);have hsub:=allOf t.subs (by omega);apply Gets.get;rw[Tm.av,Tm.cells_eq]at hvar⊢;refine qt3 _ _ _ _ _ ?_;rw[hvar,hsub];simp only[beqI,qb,qk];simp only[varR,kTup,qf,qm,qk,kNil];cases hv:varT t with
  |some x=>
   have h2:t.kind=2:=by
    unfold varT at hv;split at hv
    ·rename_i h;exact h.1
    ·cases hv
   have hc:=qvM V hV x;simp only[Option.getD_some,Option.isSome_some,cond_true];rw[hc,qi5 h2,hv];exact⟨_,rfl,rfl⟩
  |none=>
   simp only[Option.isSome_none,cond_false]
   by_cases h9:t.kind=9
   ·rw[qBh h9,cond_true,qfn h9];exact⟨_,rfl,rfl⟩
   ·rw[qBi h9,cond_false]
    by_cases h7:t.kind=7
    ·have e7:(t.kind != 7)=false:=by rw[h7];rfl
     rw[e7,cond_false];cases hl:t.subs with
     |nil=>rw[qeB h7 hl];exact⟨_,rfl,rfl⟩
     |cons f r=>
      rw[qeA h7 hl];rw[hl]at hwl hwe;rw[qA]at hwe;have hfw:=f.w_eq;have hfs:=allOf f.subs (by omega);have hr:=allOf r (by omega);have hrl:=xw r;have c0:(decide (((qa (f::r)).length:Int)=0))=false:=by rw[qc];exact qBi (by simp;omega)
      have c1:qi 0 ((qa (f::r)).length:Int)=true:=by rw[qc];exact qBh (by simp)
      have c2:qe 1 ((qa (f::r)).length:Int)=true:=by rw[qc];exact qBh (by simp;omega)
      have c3:qAH .i64 (((qa (f::r)).length:Int) - 1)=(r.length:Int):=by
       rw[qc,qA0,vE (by omega) (by omega)];omega
      have c4:(decide (((qa (f::r)).length:Int)=1))=decide (r.length=0):=by rw[qc,qA0];exact decide_eq_decide.2 (by omega)
      have c5:(decide (((qa (f::r)).length:Int)=2))=decide (r.length=1):=by rw[qc,qA0];exact decide_eq_decide.2 (by omega)
      have g0:(qa (f::r))[(0:Int).toNat]? =some f.cells:=by rw[qK];rfl
      have g0':(qa (f::r))[0]? =some f.cells:=g0;have tk:qAB ((qa (f::r)).length - 1) (qAO 1 (qa (f::r)))=qa r:=by
       rw[qK,List.drop_succ_cons,qA4,qA0,Nat.add_sub_cancel,List.take_length]
      have hm:=qt2 f.str (r.length:Int);rw[c0,c1,c2,c3,c4,c5,tk];simp only[cond_false,cond_true,qB,g0',qb,qv,qA1,show qAF 4 4=true from rfl,qG,qF,qan,beqS,hm,hfs,hr,qk]
      by_cases f7:f.kind=7
      ·have f2:(f.kind != 2)=true:=by rw[f7];rfl
       rw[qBj f7,qBh f7,f2];cases decide (r.length=0)<;>exact⟨_,rfl,rfl⟩
      ·rw[qBk f7,qBi f7,cond_false]
       by_cases f2:f.kind=2
       ·have e2:(f.kind != 2)=false:=by rw[f2];rfl
        rw[qBj f2,e2,cond_false]
        by_cases hc:f.str=[99,111,110,115,116]
        ·rw[qBj hc,qBh hc];cases decide (r.length=0)<;>exact⟨_,rfl,rfl⟩
        ·rw[qBk hc,qBi hc,cond_false];cases decide (r.length=0)<;>cases decide ((r.length:Int)∈opsG f.str)<;>exact⟨_,rfl,rfl⟩
       ·have e2:(f.kind != 2)=true:=by simpa using f2
        rw[qBk f2,e2];cases decide (r.length=0)<;>exact⟨_,rfl,rfl⟩
    ·have e7:(t.kind != 7)=true:=by simpa using h7
     rw[e7]
     by_cases h2:t.kind=2
     ·rw[qi5 h2,hv];exact⟨_,rfl,rfl⟩
     ·rw[qmv h2 h9 h7];exact⟨_,rfl,rfl⟩
theorem qim{V:List Int}(hV:V.length<1099511627776){t:Tm}(h:t.w<1099511627776):EVs (EV cfg) 64 [t.av,.sl (ql V)]=some (.int .i64 (vP V t)):=by
 have hc:=qaS h;have hi:=qvL hV t.w t (qAA _) h;apply Gets.get;rw[Tm.av,Tm.cells_eq]at hc hi⊢;refine qoo _ _ _ _ _ ?_;rw[hc,hi];unfold vP;simp only[qb,qm,qk]
 by_cases h0:t.chk=0
 ·have:(t.chk != 0)=false:=by rw[h0];rfl
  rw[this,qBj h0];cases isG V t<;>exact⟨_,rfl,rfl⟩
 ·have:(t.chk != 0)=true:=by simpa using h0
  rw[this,qBk h0];exact⟨_,rfl,rfl⟩
def qzi:Den:=evC cfg (EV cfg) 51 none 0 (sub (qg Tryz.f51) [1,1,0,1,0,0])
def qzK:Ex×List AV×AH->Option AV:=kAft (Cfg.keepOut cfg 51 3) (kRun cfg (EV cfg) (kfN cfg 6) 51 none 0 (yn cfg (Cfg.lift cfg 51 0) Tryz.f51.results.toList) ([.block 0,.seq (sub (qg Tryz.f51) [1,1,1])]))
def qyZ:List AV×AH->Option AV:=λp=>kOpt (LOOP 0 (some [1,2,3,4]) ([(3,4)]) qzi p) qzK
abbrev qjp(nv3:Nat)(v4 c0_0 c0_1:Int)(c0_2:Bz)(c0_3:Rz)(c1_0 c1_1:Int)(c1_2:Bz)(c1_3 h2:Rz):Option (AV):=qyZ (((fx 24 [(1,.ptr 0 0 0),(2,.ptr 1 0 0),(3,.ms 2 0 nv3),(4,.int .i64 v4)]):List AV),([.rows false 4 [[.int .i64 c0_0,.int .i64 c0_1,.str c0_2,.sl c0_3]],.rows false 4 [[.int .i64 c1_0,.int .i64 c1_1,.str c1_2,.sl c1_3]],.rows true 4 h2]:AH))
theorem qqd(kt nt:Int)(st:Bz)(lt:Rz){P:AV->Prop}(h:Gets (qjp 0 0 kt nt st lt 0 0 [] [] []) P):Gets (EVf (EV cfg) 51 [.agg [.int .i64 kt,.int .i64 nt,.str st,.sl lt]]) P:=
  gE (λ_=>funF rfl rfl Tryz.func51 rfl) (by kernel_rfl) h
theorem qhS(nv3:Nat)(v4 c0_0 c0_1:Int)(c0_2:Bz)(c0_3:Rz)(c1_0 c1_1:Int)(c1_2:Bz)(c1_3 h2:Rz){P:AV->Prop}(h:Gets (bif decide (v4<(c0_3.length:Int))then bif qe 0 v4&&qi v4 (c0_3.length:Int)then kOpt (qAu c0_3 (v4.toNat)) λrow=>bif qAz (qAt row) 4 then bif qAF 4 (qAt row)then kTmC (qAB 4 row) λn n_1 s rows=>(kOpt (EVf (EV cfg) 51 [.agg [.int .i64 n,.int .i64 n_1,.str s,.sl rows]]) λv=>kTmV v λn n_2 s rows=>(bif qAF (0+nv3) (qAt h2)&&qo (nv3+1) 56 then qjp (nv3+1) (qAH .i64 (v4+1)) c0_0 c0_1 c0_2 c0_3 c1_0 c1_1 c1_2 c1_3 (qAG (qAB nv3 h2) [[AV.int .i64 n,.int .i64 n_2,.str s,.sl rows]])else none))else none else none else none else bif qAF (0+nv3) (qAt h2)&&true then some (.agg [.int .i64 c0_0,.int .i64 c0_1,.str c0_2,.sl (qAB nv3 h2)])else none) P):Gets (qjp nv3 v4 c0_0 c0_1 c0_2 c0_3 c1_0 c1_1 c1_2 c1_3 h2) P:=
  gE (λ_=>qt (cfg:=cfg) (f:=51) (rd:=none) (bs:=0)) (by kernel_rfl) h
end Go.Proofs.YtafdkafbgohigaaGreat
end
noncomputable section
namespace Go.Av
end Go.Av
namespace Go.Proofs.YtafdkafbgohigaaGreat
open Go.Av
theorem qe2(t:Tm):t.w<1099511627776->EVf (EV cfg) 51 [t.av]=some t.av:=by
 induction t using Tm.ind with
 |_ k n s l ih=>
  intro hw;rw[Tm.w_mk]at hw;have hlen:=xw l;have ih':∀x∈l,EVf (EV cfg) 51 [x.av]=some x.av:=λx hx=>ih x hx (by have:=vV hx;omega)
  have loop:∀d i:Nat,i+d=l.length->Gets (qjp i i k n s (qa l) 0 0 [] [] (qa (l.take i))) (·=(Tm.mk k n s l).av):=by
   intro d
   induction d with
   |zero=>
    intro i hi;refine qhS _ _ _ _ _ _ _ _ _ _ _ ?_;obtain rfl:i=l.length:=by omega
    have hb:qAF (0+l.length) (qa l).length=true:=by rw[qA2,qc];omega
    have ht:qAB l.length (qa l)=qa l:=qAE (by rw[qc];omega);rw[qc,qBi (by omega),List.take_length,hb,ht,Tm.av_mk];exact⟨_,rfl,rfl⟩
   |succ d ihd=>
    intro i hi;have hil:i<l.length:=by omega
    refine qhS _ _ _ _ _ _ _ _ _ _ _ ?_;have hx:l[i]? =some l[i]:=qAv hil;have h1:=ih' l[i] (qAJ hx);have h2:=ihd (i+1) (by omega);have e1:l.take (i+1)=l.take i++[l[i]]:=by rw[List.take_add_one,hx];rfl
    have ht:(qa (l.take i)).length=i:=by rw[qc,qA6];omega
    have e2:qAG (qAB i (qa (l.take i))) [l[i].cells]=qa (l.take (i+1)):=by
     rw[qAE (by omega),e1,vH,qK,vj];rfl
    have e3:qAF (0+i) (qa (l.take i)).length=true:=by rw[ht,qA2];omega
    rw[qc,qBh (show(i:Int)<(l.length:Int) by omega),qI,q8,qBh hil,ye hx,qL (n:=l.length) hil (by omega),e3,zw (by omega)];simp only[cond_true,qAM,qv,qA1,qG,qF,show qAF 4 4=true from rfl,q9,h1,qb,qaG];rw[←Tm.cells_eq,e2];exact h2
  apply Gets.get;rw[Tm.av_mk];refine qqd _ _ _ _ ?_;rw[←Tm.av_mk];exact(by simpa [vj]using loop l.length 0 (by omega))
theorem qs0{l:List InsA}(hx:∀x∈l,x.t.w<1099511627776)(hl:l.length<1099511627776):∀(k i:Nat),l.length - i=k->i<=l.length->Gets (qhn (qd l) i (i:Int) (qd (l.take i))) (·= .sl (qd l)):=by
 intro k
 induction k with
 |zero=>
  intro i hk hi;refine qf4 _ _ _ _ ?_;have hi':i=l.length:=by omega
  subst hi';rw[qBi (show ¬((l.length:Int)<((qd l).length:Int)) by rw[qu];omega),cond_false,qAE (qAA _),nble,qBh (show 0+l.length<=(qd l).length by rw[qu];omega)];refine⟨_,rfl,?_⟩;rw[qAE (by rw[qu];exact qAA _)]
 |succ k ih=>
  intro i hk hi;have hil:i<l.length:=by omega
  have g0:l[i]? =some l[i]:=qAv hil;refine qf4 _ _ _ _ ?_;have e0:decide ((i:Int)<((qd l).length:Int))=true:=qBh (by rw[qu];omega);have e1:(qe 0 (i:Int)&&qi (i:Int) ((qd l).length:Int))=true:=by rw[qu];simp;omega
  have e2:qAu (qd l) (qAR (i:Int))=some (l[i]).row:=by rw[qAS];exact qe0 g0
  have hc:=qe2 (l[i]).t (hx l[i] (List.getElem_mem hil));have e3:qAB 7 (l[i]).row= .int .i64 (l[i]).o:: .int .i64 (l[i]).a:: .int .i64 (l[i]).b::(l[i]).t.cells:=by
   rw[InsA.row,Tm.cells_eq];rfl
  have hlt:(l.take i).length=i:=by rw[qA6];omega
  have e4:(qAF (0+i) (qd (l.take i)).length&&qo (i+1) 80)=true:=by
   rw[nble,qu,hlt,qBh (by omega),qkS (by omega)];rfl
  have e5:qAG (qAB i (qd (l.take i))) [(l[i]).row]=qd (l.take (i+1)):=by
   rw[qAE (by rw[qu,hlt];exact qAA _),app1,List.take_add_one,g0];rfl
  rw[e0,e1,e2];simp only[qb,cond_true,InsA.row_len,show qAz 7 7=true from rfl,show qAF 7 7=true from rfl,e3,qD,qm,qF,q9,hc,qaG,e4,rowT,e5];rw[qL hil hl];exact ih (i+1) (by omega) (by omega)
theorem qpe{l:List InsA}(hx:∀x∈l,x.t.w<1099511627776)(hl:l.length<1099511627776):EVf (EV cfg) 61 [.sl (qd l)]=some (.sl (qd l)):=by
 apply Gets.get;refine quM _ ?_;exact qs0 hx hl l.length 0 (by omega) (by omega)
theorem qwg{V:List Int}(hV:V.length<1099511627776){t:Tm}(ht:t.w<1099511627776):EVf (EV cfg) 22 [t.av,.sl (ql V)]=some (.tup [.sl (qd (if vP V t=0 then qp t 0 else[])),.int .i64 (vP V t)]):=by
 have hck:=qim hV ht;apply Gets.get;rw[Tm.av,Tm.cells_eq];refine quL _ _ _ _ _ ?_;unfold zD0
 by_cases h0:vP V t=0
 ·have hg:isG V t=true:=by
   unfold vP at h0;split at h0
   ·split at h0
    ·assumption
    ·exact absurd h0 (by decide)
   ·exact absurd h0 (by decide)
  have z:=qmA (V:=V) t.w t (qAA _) hg 0 (by omega);have ho:=qpe (l:=qp t 0) (λx hx=>by
   have hp:x.t.w<=t.w:=(qad t 0 x hx).2;omega) (by have:=xi t 0;omega)
  have e1:(qAF (0+(qp t 0).length) (qd (qp t 0)).length&&true)=true:=by
   rw[nble,qu,qBh (by omega)];rfl
  rw[show((0:Nat):Int)=0 from rfl]at z;simp only[q9,hck,h0,qb,qm,show((0:Int) != 0)=false from rfl,cond_false,z,xh,qa2];rw[e1,cond_true,ho];refine⟨_,rfl,?_⟩;simp
 ·have e:(vP V t != 0)=true:=by simpa using h0
  simp only[q9,hck,qb,qm,e,cond_true];refine⟨_,rfl,?_⟩;rw[qBk h0];rfl
theorem Cl.cells6(c:Cl):qAB 6 c.cells=c.cells:=rfl
theorem Cl.cells_len(c:Cl):c.cells.length=6:=rfl
theorem qiY{l:List Cl}{i:Nat}{c:Cl}(h:l[i]? =some c):qAu (qY l) (qAR (i:Int))=some c.cells:=by
 rw[qAS,qB,qgi,h];rfl
theorem kCl{α:Type}(c:Cl)(K:Int->Int->List UInt8->List (List AV)->List (List AV)->List (List AV)->Option α):
  (qf c.cells fun(c:AV) (cs:List AV)=>kInt .i64 c fun(n:Int)=>qf cs fun(c:AV) (cs:List AV)=>kInt .i64 c fun(n_1:Int)=>qf cs fun(c:AV) (cs:List AV)=>kStr c fun(s:List UInt8)=>qf cs fun(c:AV) (cs:List AV)=>kSl c fun(r1:List (List AV))=>qf cs fun(c:AV) (cs:List AV)=>kSl c fun(r2:List (List AV))=>qf cs fun(c:AV) (cs:List AV)=>kSl c fun(r3:List (List AV))=>kNil cs (K n n_1 s r1 r2 r3))=K c.head.kind c.head.num c.head.str (qa c.head.subs) (qa c.gs) (qa c.bs):=rfl
theorem qwm{l:List Cl}(h:l≠[])(i:Nat):xA l i≠[]:=by
 cases l with
 |nil=>exact absurd rfl h
 |cons c l=>
  intro e;have:=qiG (c::l) i;rw[e]at this;exact absurd this (by simp[qbp])
theorem qyV{c:Cl}(h:okC c=true):ClX c:=by
 unfold okC at h;simp only[qAw,qBd,decide_eq_true_eq]at h;have hg:∀{V:List Int} {t:Tm},vP V t=0->zz t:=by
  intro V t h;refine qmD (V:=V) t.w t (qAA _) ?_;unfold vP at h;split at h
  ·split at h
   ·assumption
   ·exact absurd h (by decide)
  ·exact absurd h (by decide)
 exact⟨λt ht=>hg (h.2.1 t ht),λt ht=>hg (h.2.2 t ht)⟩
theorem qlF(l:List Cl):wL (l.map clT)<=(selT l).w:=by
 have:=qe9 (l.map clT);show _<=(vG (l.map clT)).w;omega
def qxQ:Den:=evC cfg (EV cfg) 169 none 0 (sub (qg Tryz.f169) [1,1,0,0,0])
def qya:Ex×List AV×AH->Option AV:=kAft (Cfg.keepOut cfg 169 2) (kRun cfg (EV cfg) (kfN cfg 6) 169 none 0 (yn cfg (Cfg.lift cfg 169 0) Tryz.f169.results.toList) ([.block 0,.seq (sub (qg Tryz.f169) [1,1,1])]))
def qxC:List AV×AH->Option AV:=λp=>kOpt (LOOP 0 (some [1,4]) ([(4,4)]) qxQ p) qya
def qxP:Den:=evC cfg (EV cfg) 210 none 0 (sub (qg Tryz.f210) [1,0,1,0,0])
def qx9:Ex×List AV×AH->Option AV:=kAft (Cfg.keepOut cfg 210 2) (kRun cfg (EV cfg) (kfN cfg 6) 210 none 0 (yK cfg (Cfg.lift cfg 210 0) Tryz.f210.results.toList) ([.block 0,.seq (sub (qg Tryz.f210) [1,1])]))
def qxB:List AV×AH->Option AV:=λp=>kOpt (LOOP 0 (some [0,1,5]) ([]) qxP p) qx9
def qxS:Den:=evC cfg (EV cfg) 108 none 0 (sub (qg Tryz.f108) [1,1,1,1,0,1,0,0])
def qyc:Ex×List AV×AH->Option (OV×AV):=kAft (Cfg.keepOut cfg 108 6) (kRun cfg (EV cfg) (kfN cfg 6) 108 none 0 (qff cfg (Cfg.lift cfg 108 0) Tryz.f108.results.toList) ([.block 0,.seq (sub (qg Tryz.f108) [1,1,1,1,1])]))
def qxE:List AV×AH->Option (OV×AV):=λp=>kOpt (LOOP 0 (some [4,6,7]) ([(6,6)]) qxS p) qyc
def qxR:Den:=evC cfg (EV cfg) 109 none 0 (sub (qg Tryz.f109) [1,1,0,1,0,0])
def qyb:Ex×List AV×AH->Option AV:=kAft (Cfg.keepOut cfg 109 3) (kRun cfg (EV cfg) (kfN cfg 6) 109 none 0 (yn cfg (Cfg.lift cfg 109 0) Tryz.f109.results.toList) ([.block 0,.seq (sub (qg Tryz.f109) [1,1,1])]))
def qxD:List AV×AH->Option AV:=λp=>kOpt (LOOP 0 (some [0,3,4]) ([(3,4)]) qxR p) qyb
def qxT:Den:=evC cfg (EV cfg) 59 none 0 (sub (qg Tryz.f59) [1,1,1,1,0,1,0,0])
def qyd:Ex×List AV×AH->Option AV:=kAft (Cfg.keepOut cfg 59 6) (kRun cfg (EV cfg) (kfN cfg 6) 59 none 0 (yn cfg (Cfg.lift cfg 59 0) Tryz.f59.results.toList) ([.block 0,.seq (sub (qg Tryz.f59) [1,1,1,1,1])]))
def qrw:List AV×AH->Option AV:=λp=>kOpt (LOOP 0 (some [5,7]) ([]) qxT p) qyd
def qxO:Den:=evC cfg (EV cfg) 235 none 0 (sub (qg Tryz.f235) [1,1,1,1,0,1,0,0])
def qx8:Ex×List AV×AH->Option AV:=kAft (Cfg.keepOut cfg 235 6) (kRun cfg (EV cfg) (kfN cfg 6) 235 none 0 (yn cfg (Cfg.lift cfg 235 0) Tryz.f235.results.toList) ([.block 0,.seq (sub (qg Tryz.f235) [1,1,1,1,1])]))
def qxA:List AV×AH->Option AV:=λp=>kOpt (LOOP 0 (some [1,7,8]) ([]) qxO p) qx8
def qwz:Den:=evC cfg (EV cfg) 263 none 0 (sub (qg Tryz.f263) [1,1,0,0,0])
def qwK:Ex×List AV×AH->Option AV:=kAft (Cfg.keepOut cfg 263 2) (kRun cfg (EV cfg) (kfN cfg 6) 263 none 0 (yn cfg (Cfg.lift cfg 263 0) Tryz.f263.results.toList) ([.block 0,.seq (sub (qg Tryz.f263) [1,1,1])]))
def qwt:List AV×AH->Option AV:=λp=>kOpt (LOOP 0 (some [0,1,5]) ([]) qwz p) qwK
def qwI:List AV×AH->Option AV:=λp=>kOpt (CUT p) λp=>vM cfg (EV cfg) (kfN cfg 6) 263 none 0 (sub (qg Tryz.f263) [1,1,1]) p.1 p.2 (kRun cfg (EV cfg) (kfN cfg 6) 263 none 0 (yn cfg (Cfg.lift cfg 263 0) Tryz.f263.results.toList) ([]))
def qwH:List AV×AH->Option AV:=λp=>kOpt (CUT p) λp=>vM cfg (EV cfg) (kfN cfg 6) 263 none 0 (sub (qg Tryz.f263) [1,1,1,1]) p.1 p.2 (kRun cfg (EV cfg) (kfN cfg 6) 263 none 0 (yn cfg (Cfg.lift cfg 263 0) Tryz.f263.results.toList) ([]))
abbrev qhf(nv4:Nat)(c0_0 c0_1:Int)(c0_2:Bz)(c0_3 h1:Rz):Option (AV):=qxC (((fx 23 [(1,.ptr 0 0 0),(4,.ms 1 0 nv4)]):List AV),([.rows false 4 [[.int .i64 c0_0,.int .i64 c0_1,.str c0_2,.sl c0_3]],.rows true 4 h1]:AH))
abbrev qhe(L V:Rz)(v5:Int):Option (AV):=qxB (((fx 19 [(0,.sl L),(1,.sl V),(5,.int .i64 v5)]):List AV),([]:AH))
abbrev qhh(rows:Rz)(nv6:Nat)(v7:Int)(h0:Rz):Option (OV×AV):=qxE (((fx 43 [(4,.sl rows),(6,.ms 0 0 nv6),(7,.int .i64 v7)]):List AV),([.rows true 6 h0]:AH))
abbrev qhg(L:Rz)(nv3:Nat)(v4:Int)(h0:Rz):Option (AV):=qxD (((fx 20 [(0,.sl L),(3,.ms 0 0 nv3),(4,.int .i64 v4)]):List AV),([.rows true 4 h0]:AH))
abbrev qxb(v7:Int):Option (AV):=qrw (((fx 47 [(5,.nilS),(7,.int .i64 v7)]):List AV),([]:AH))
abbrev qeR(sz off len:Nat)(v7:Int)(h0:Rz):Option (AV):=qrw (((fx 47 [(5,.ms 0 off len),(7,.int .i64 v7)]):List AV),([.rows true sz h0]:AH))
abbrev qhd(rows v1:Rz)(v8:Int):Option (AV):=qxA (((fx 33 [(1,.sl v1),(7,.sl rows),(8,.int .i64 v8)]):List AV),([]:AH))
abbrev qeS(L:Rz)(n v5:Int):Option (AV):=qwt (((fx 48 [(0,.sl L),(1,.int .i64 n),(5,.int .i64 v5)]):List AV),([]:AH))
abbrev qfm(v0:Rz)(v1:Int)(v5:Int):Option (AV):=qwI (((fx 48 [(0,AV.sl v0),(1,AV.int IntKind.i64 v1),(5,AV.int IntKind.i64 v5)]):List AV),([]:AH))
abbrev qfl(v0:Rz)(v1:Int)(v5:Int):Option (AV):=qwH (((fx 48 [(0,AV.sl v0),(1,AV.int IntKind.i64 v1),(5,AV.int IntKind.i64 v5)]):List AV),([]:AH))
theorem qol(kt nt:Int)(st:Bz)(lt:Rz){P:AV->Prop}(h:Gets (qhf 0 kt nt st lt []) P):Gets (EVf (EV cfg) 169 [.agg [.int .i64 kt,.int .i64 nt,.str st,.sl lt]]) P:=
  gE (λ_=>funF rfl rfl Tryz.func169 rfl) (by kernel_rfl) h
theorem qp8(kt nt:Int)(st:Bz)(lt:Rz){P:AV->Prop}(h:Gets (kOpt (EVs (EV cfg) 117 [.agg [.int .i64 kt,.int .i64 nt,.str st,.sl lt]]) λv=>kTup v λcs=>qf cs λc cs=>kInt .i64 c λn=>qf cs λc cs=>qJ c λb=>kNil cs (bif b then some (.bool true)else kOpt (EVs (EV cfg) 234 [.agg [.int .i64 kt,.int .i64 nt,.str st,.sl lt]]) λv=>qJ v λb=>bif b then some (.bool true)else some (.bool (kt==7)))) P):Gets (EVs (EV cfg) 208 [.agg [.int .i64 kt,.int .i64 nt,.str st,.sl lt]]) P:=
  gE (λ_=>funS rfl rfl Tryz.func208 rfl) (by kernel_rfl) h
theorem qom(L V:Rz){P:AV->Prop}(h:Gets (qhe L V 0) P):Gets (EVs (EV cfg) 210 [.sl L,.sl V]) P:=
  gE (λ_=>funS rfl rfl Tryz.func210 rfl) (by kernel_rfl) h
abbrev zF0:Option (AV):=some (AV.tup [.agg [.int .i64 0,.int .i64 0,.str [],.sl [],.sl [],.sl []],.bool false])
theorem qmY(kt nt:Int)(st:Bz)(lt:Rz){P:AV->Prop}(h:Gets (bif kt != 7 then zF0 else bif(lt.length:Int) != 3 then zF0 else bif qi 0 (lt.length:Int)then kOpt (qAu lt 0) λrow=>bif qAz (qAt row) 4 then bif qAF 4 (qAt row)then kTmC (qAB 4 row) λn n_1 s rows=>(kOpt (EVs (EV cfg) 208 [.agg [.int .i64 n,.int .i64 n_1,.str s,.sl rows]]) λv=>qJ v λb=>bif ! b then some (AV.tup [.agg [.int .i64 0,.int .i64 0,.str [],.sl [],.sl [],.sl []],.bool false])else bif qi 1 (lt.length:Int)then kOpt (qAu lt 1) λrow=>bif qAz (qAt row) 4 then bif qAF 4 (qAt row)then kTmC (qAB 4 row) λn n_2 s rows=>(kOpt (EVf (EV cfg) 169 [.agg [.int .i64 n,.int .i64 n_2,.str s,.sl rows]]) λv=>kTup v λcs=>qf cs λc cs=>kSl c λrows=>qf cs λc cs=>qJ c λb=>kNil cs (bif qi 2 (lt.length:Int)then kOpt (qAu lt 2) λrow=>bif qAz (qAt row) 4 then bif qAF 4 (qAt row)then kTmC (qAB 4 row) λn n_3 s rows_1=>(kOpt (EVf (EV cfg) 169 [.agg [.int .i64 n,.int .i64 n_3,.str s,.sl rows_1]]) λv=>kTup v λcs=>qf cs λc cs=>kSl c λrows_2=>qf cs λc cs=>qJ c λb_1=>kNil cs (bif qi 0 (lt.length:Int)then kOpt (qAu lt 0) λrow=>bif qAz (qAt row) 4 then bif qAF 4 (qAt row)then kTmC (qAB 4 row) λn n_4 s rows_3=>(kOpt (EVf (EV cfg) 209 [AV.agg [.int .i64 n,.int .i64 n_4,.str s,.sl rows_3]]) λv=>kSl v λrows_4=>bif ! b then some (AV.tup [AV.agg [.int .i64 0,.int .i64 0,.str [],.sl [],.sl [],.sl []],.bool false])else bif ! b_1 then some (AV.tup [AV.agg [.int .i64 0,.int .i64 0,.str [],.sl [],.sl [],.sl []],.bool false])else bif(↑ (qAt rows_2):Int)==0 then some (AV.tup [AV.agg [.int .i64 0,.int .i64 0,.str [],.sl [],.sl [],.sl []],.bool false])else kOpt (EVs (EV cfg) 210 [.sl rows,.sl rows_4]) λv=>qJ v λb=>bif ! b then some (AV.tup [AV.agg [.int .i64 0,.int .i64 0,.str [],.sl [],.sl [],.sl []],.bool false])else kOpt (EVs (EV cfg) 210 [.sl rows_2,.sl rows_4]) λv=>qJ v λb=>bif ! b then some (AV.tup [AV.agg [.int .i64 0,.int .i64 0,.str [],.sl [],.sl [],.sl []],.bool false])else bif qi 0 (lt.length:Int)then kOpt (qAu lt 0) λrow=>bif qAz (qAt row) 4 then bif qAF 4 (qAt row)then kTmC (qAB 4 row) λn n_5 s rows_5=>(some (AV.tup [AV.agg [.int .i64 n,AV.int .i64 n_5,AV.str s,AV.sl rows_5,AV.sl rows,AV.sl rows_2],AV.bool true]))else none else none else none)else none else none else none))else none else none else none))else none else none else none)else none else none else none) P):Gets (EVf (EV cfg) 170 [.agg [.int .i64 kt,.int .i64 nt,.str st,.sl lt]]) P:=
  gE (λ_=>funF rfl rfl Tryz.func170 rfl) (by kernel_rfl) h
theorem qj0(kt nt:Int)(st:Bz)(lt:Rz){P:OV×AV->Prop}(h:Gets (kOpt (EVf (EV cfg) 169 [.agg [.int .i64 kt,.int .i64 nt,.str st,.sl lt]]) λv=>kTup v λcs=>qf cs λc cs=>kSl c λrows=>qf cs λc cs=>qJ c λb=>kNil cs (bif ! b then some (OV.own 6 [] 0 0,.bool false)else bif(rows.length:Int)==(0:Int)then some (OV.own 6 [] 0 0,.bool false)else qhh rows 0 0 [])) P):Gets (EVq (EV cfg) 108 [.agg [.int .i64 kt,.int .i64 nt,.str st,.sl lt]]) P:=
  gE (λ_=>funQ rfl rfl Tryz.func108 rfl) (by kernel_rfl) h
theorem qgq(kt nt:Int)(st:Bz)(lt:Rz){P:AV->Prop}(h:Gets (kOpt (EVs (EV cfg) 47 [.agg [.int .i64 kt,.int .i64 nt,.str st,.sl lt]]) λv=>kInt .i64 v λn=>bif n != 0 then some (.int .i64 2)else kOpt (EVq (EV cfg) 108 [.agg [.int .i64 kt,.int .i64 nt,.str st,.sl lt]]) λq=>qJ q.2 λb=>kOwn q.1 (bif ! b then some (.int .i64 10)else some (.int .i64 0)) λsz rs off len=>bif ! b then some (.int .i64 10)else some (.int .i64 0)) P):Gets (EVs (EV cfg) 107 [.agg [.int .i64 kt,.int .i64 nt,.str st,.sl lt]]) P:=
  gE (λ_=>funS rfl rfl Tryz.func107 rfl) (by kernel_rfl) h
theorem qmW(L:Rz){P:AV->Prop}(h:Gets (qhg L 0 0 []) P):Gets (EVf (EV cfg) 109 [.sl L]) P:=
  gE (λ_=>funF rfl rfl Tryz.func109 rfl) (by kernel_rfl) h
theorem qew(kt nt:Int)(st:Bz)(lt:Rz){P:AV->Prop}(h:Gets (kOpt (EVs (EV cfg) 107 [.agg [.int .i64 kt,.int .i64 nt,.str st,.sl lt]]) λv=>kInt .i64 v λn=>bif n != 0 then some (AV.tup [.sl [],.int .i64 n])else kOpt (EVq (EV cfg) 108 [.agg [.int .i64 kt,.int .i64 nt,.str st,.sl lt]]) λq=>qJ q.2 λb=>kOwn q.1 (qxb 0) λsz rs off len=>qeR sz off len 0 rs) P):Gets (EVf (EV cfg) 59 [.agg [.int .i64 kt,.int .i64 nt,.str st,.sl lt]]) P:=
  gE (λ_=>funF rfl rfl Tryz.func59 rfl) (by kernel_rfl) h
theorem qr9(kt nt:Int)(st:Bz)(lt:Rz){P:AV->Prop}(h:Gets (kOpt (EVs (EV cfg) 47 [.agg [.int .i64 kt,.int .i64 nt,.str st,.sl lt]]) λv=>kInt .i64 v λn=>bif n==0 then bif kt==2 then some (.bool (st==[(95:UInt8)]))else some (.bool false)else some (.bool false)) P):Gets (EVs (EV cfg) 234 [.agg [.int .i64 kt,.int .i64 nt,.str st,.sl lt]]) P:=
  gE (λ_=>funS rfl rfl Tryz.func234 rfl) (by kernel_rfl) h
theorem qop(kt nt:Int)(st:Bz)(lt:Rz){P:AV->Prop}(h:Gets (bif kt==7 then some (.sl lt)else bif kt==9 then some (.sl lt)else some (.sl [])) P):Gets (EVf (EV cfg) 264 [.agg [.int .i64 kt,.int .i64 nt,.str st,.sl lt]]) P:=
  gE (λ_=>funF rfl rfl Tryz.func264 rfl) (by kernel_rfl) h
theorem qin(kp np:Int)(sp:Bz)(lp L:Rz){P:AV->Prop}(h:Gets (kOpt (EVs (EV cfg) 117 [.agg [.int .i64 kp,.int .i64 np,.str sp,.sl lp]]) λv=>kTup v λcs=>qf cs λc cs=>kInt .i64 c λn=>qf cs λc cs=>qJ c λb=>kNil cs (bif b then kOpt (EVf (EV cfg) 263 [.sl L,.int .i64 n]) λv=>kSl v λrows=>some (.sl rows)else kOpt (EVf (EV cfg) 264 [.agg [.int .i64 kp,.int .i64 np,.str sp,.sl lp]]) λv=>kSl v λrows=>qhd rows L 0)) P):Gets (EVf (EV cfg) 235 [.agg [.int .i64 kp,.int .i64 np,.str sp,.sl lp],.sl L]) P:=
  gE (λ_=>funF rfl rfl Tryz.func235 rfl) (by kernel_rfl) h
theorem qqa(L:Rz)(n:Int){P:AV->Prop}(h:Gets (qeS L n 0) P):Gets (EVf (EV cfg) 263 [.sl L,.int .i64 n]) P:=
  gE (λ_=>funF rfl rfl Tryz.func263 rfl) (by kernel_rfl) h
theorem qio(kt nt:Int)(st:Bz)(lt:Rz){P:AV->Prop}(h:Gets (kOpt (EVs (EV cfg) 47 [.agg [.int .i64 kt,.int .i64 nt,.str st,.sl lt]]) λv=>kInt .i64 v λn=>bif n != 0 then some (.sl [])else kOpt (EVf (EV cfg) 235 [.agg [.int .i64 kt,.int .i64 nt,.str st,.sl lt],.sl []]) λv=>kSl v λrows=>some (.sl rows)) P):Gets (EVf (EV cfg) 209 [.agg [.int .i64 kt,.int .i64 nt,.str st,.sl lt]]) P:=
  gE (λ_=>funF rfl rfl Tryz.func209 rfl) (by kernel_rfl) h
theorem qnO(nv4:Nat)(c0_0 c0_1:Int)(c0_2:Bz)(c0_3 h1:Rz){P:AV->Prop}(h:Gets (bif c0_0==9 then bif qi 0 (c0_3.length:Int)then kOpt (qAu c0_3 0) λrow=>bif qAz (qAt row) 4 then bif qAF 4 (qAt row)then kTmC (qAB 4 row) λn n_1 s rows=>(bif qAF (0+nv4) (qAt h1)&&qo (nv4+1) 56 then bif qi 1 (c0_3.length:Int)then kOpt (qAu c0_3 1) λrow=>bif qAz (qAt row) 4 then bif qAF 4 (qAt row)then kTmC (qAB 4 row) λn_2 n_3 s_1 rows_1=>(qhf (nv4+1) n_2 n_3 s_1 rows_1 (qAG (qAB nv4 h1) [[AV.int .i64 n,.int .i64 n_1,.str s,.sl rows]]))else none else none else none else none)else none else none else none else bif qAF (0+nv4) (qAt h1)&&true then some (AV.tup [.sl (qAB nv4 h1),.bool (c0_0==8)])else none) P):Gets (qhf nv4 c0_0 c0_1 c0_2 c0_3 h1) P:=
  gE (λ_=>qt (cfg:=cfg) (f:=169) (rd:=none) (bs:=0)) (by kernel_rfl) h
theorem qfU(L V:Rz)(v5:Int){P:AV->Prop}(h:Gets (bif decide (v5<(L.length:Int))then bif qe 0 v5&&qi v5 (L.length:Int)then kOpt (qAu L (v5.toNat)) λrow=>bif qAz (qAt row) 4 then bif qAF 4 (qAt row)then kTmC (qAB 4 row) λn n_1 s rows=>(kOpt (EVs (EV cfg) 64 [.agg [.int .i64 n,.int .i64 n_1,.str s,.sl rows],.sl V]) λv=>kInt .i64 v λn=>bif n != 0 then some (.bool false)else qhe L V (qAH .i64 (v5+1)))else none else none else none else some (.bool true)) P):Gets (qhe L V v5) P:=
  gE (λ_=>qt (cfg:=cfg) (f:=210) (rd:=none) (bs:=0)) (by kernel_rfl) h
theorem qfW(rows:Rz)(nv6:Nat)(v7:Int)(h0:Rz){P:OV×AV->Prop}(h:Gets (bif decide (v7<(rows.length:Int))then bif qe 0 v7&&qi v7 (rows.length:Int)then kOpt (qAu rows (v7.toNat)) λrow=>bif qAz (qAt row) 4 then bif qAF 4 (qAt row)then kTmC (qAB 4 row) λn n_1 s rows_1=>(kOpt (EVf (EV cfg) 170 [.agg [.int .i64 n,.int .i64 n_1,.str s,.sl rows_1]]) λv=>kTup v λcs=>qf cs λc cs=>kAgg c λcs_1=>qf cs_1 λc cs_2=>kInt .i64 c λn=>qf cs_2 λc cs_3=>kInt .i64 c λn_2=>qf cs_3 λc cs_4=>kStr c λs=>qf cs_4 λc cs_5=>kSl c λrows_2=>qf cs_5 λc cs_6=>kSl c λrows_3=>qf cs_6 λc cs_7=>kSl c λrows_4=>kNil cs_7 (qf cs λc cs=>qJ c λb=>kNil cs (bif ! b then some (OV.own 6 [] 0 0,.bool false)else bif qAF (0+nv6) (qAt h0)&&qo (nv6+1) 104 then qhh rows (nv6+1) (qAH .i64 (v7+1)) (qAG (qAB nv6 h0) [[AV.int .i64 n,.int .i64 n_2,.str s,.sl rows_2,.sl rows_3,.sl rows_4]])else none)))else none else none else none else some (OV.own 6 h0 0 nv6,.bool true)) P):Gets (qhh rows nv6 v7 h0) P:=
  gE (λ_=>qt (cfg:=cfg) (f:=108) (rd:=none) (bs:=0)) (by kernel_rfl) h
theorem qfV(L:Rz)(nv3:Nat)(v4:Int)(h0:Rz){P:AV->Prop}(h:Gets (bif decide (v4<(L.length:Int))then bif qe 0 v4&&qi v4 (L.length:Int)then kOpt (qAu L (v4.toNat)) λrow=>bif qAz (qAt row) 4 then bif qAF 4 (qAt row)then kTmC (qAB 4 row) λn n_1 s rows=>(kOpt (EVf (EV cfg) 51 [.agg [.int .i64 n,.int .i64 n_1,.str s,.sl rows]]) λv=>kTmV v λn n_2 s rows=>(bif qAF (0+nv3) (qAt h0)&&qo (nv3+1) 56 then qhg L (nv3+1) (qAH .i64 (v4+1)) (qAG (qAB nv3 h0) [[AV.int .i64 n,.int .i64 n_2,.str s,.sl rows]])else none))else none else none else none else bif qAF (0+nv3) (qAt h0)&&true then some (.sl (qAB nv3 h0))else none) P):Gets (qhg L nv3 v4 h0) P:=
  gE (λ_=>qt (cfg:=cfg) (f:=109) (rd:=none) (bs:=0)) (by kernel_rfl) h
theorem qfy(sz off len:Nat)(v7:Int)(h0:Rz){P:AV->Prop}(h:Gets (bif decide (v7<(↑ len:Int))then bif qAz sz 6&&qe 0 v7&&qi v7 (↑ len:Int)then kOpt (qAu h0 (off+v7.toNat)) λrow=>bif qAF 4 (qAt row)then kTmC (qAB 4 row) λn n_1 s rows=>(kOpt (EVf (EV cfg) 51 [.agg [.int .i64 n,.int .i64 n_1,.str s,.sl rows]]) λv=>kTmV v λn n_2 s rows=>(bif qAz sz 6&&qe 0 v7&&qi v7 (↑ len:Int)then kOpt (qAu h0 (off+v7.toNat)) λrow=>kOpt (qAu row 4) λv=>kSl v λrows_1=>kOpt (EVf (EV cfg) 109 [.sl rows_1]) λv=>kSl v λrows_2=>bif qAz sz 6&&qe 0 v7&&qi v7 (↑ len:Int)then kOpt (qAu h0 (off+v7.toNat)) λrow=>kOpt (qAu row 5) λv=>kSl v λrows_3=>kOpt (EVf (EV cfg) 109 [.sl rows_3]) λv=>kSl v λrows_4=>bif qAz sz 6&&qe 0 v7&&qi v7 (↑ len:Int)then kOpt (qAu h0 (off+v7.toNat)) λrow=>bif qAF 6 (qAt row)then qeR sz off len (qAH .i64 (v7+1)) (List.set h0 (off+v7.toNat) (.int .i64 n:: .int .i64 n_2:: .str s:: .sl rows:: .sl rows_2:: .sl rows_4::qAO 6 row))else none else none else none else none))else none else none else bif qAF (off+len) (qAt h0)&&true then some (AV.tup [.sl (qAB len (qAO off h0)),.int .i64 0])else none) P):Gets (qeR sz off len v7 h0) P:=
  gE (λ_=>qt (cfg:=cfg) (f:=59) (rd:=none) (bs:=0)) (by kernel_rfl) h
theorem qfT(rows v1:Rz)(v8:Int){P:AV->Prop}(h:Gets (bif decide (v8<(rows.length:Int))then bif qe 0 v8&&qi v8 (rows.length:Int)then kOpt (qAu rows (v8.toNat)) λrow=>bif qAz (qAt row) 4 then bif qAF 4 (qAt row)then kTmC (qAB 4 row) λn n_1 s rows_1=>(kOpt (EVf (EV cfg) 235 [.agg [.int .i64 n,.int .i64 n_1,.str s,.sl rows_1],.sl v1]) λv=>kSl v λrows_2=>qhd rows rows_2 (qAH .i64 (v8+1)))else none else none else none else some (.sl v1)) P):Gets (qhd rows v1 v8) P:=
  gE (λ_=>qt (cfg:=cfg) (f:=235) (rd:=none) (bs:=0)) (by kernel_rfl) h
theorem qfz(L:Rz)(n v5:Int){P:AV->Prop}(h:Gets (bif decide (v5<(L.length:Int))then bif qe 0 v5&&qi v5 (L.length:Int)then kOpt (qAu L (v5.toNat)) λrow=>bif qAz (qAt row) 1 then kOpt (qAu row 0) λv=>kInt .i64 v λn_1=>bif decide (n_1<n)then qeS L n (qAH .i64 (v5+1))else qfm L n v5 else none else none else qfm L n v5) P):Gets (qeS L n v5) P:=
  gE (λ_=>qt (cfg:=cfg) (f:=263) (rd:=none) (bs:=0)) (by kernel_rfl) h
theorem qm4(v0:Rz)(v1 v5:Int){P:AV->Prop}(h:Gets (bif decide (v5<(v0.length:Int))then bif qe 0 v5&&qi v5 (v0.length:Int)then kOpt (qAu v0 (v5.toNat)) λrow=>bif qAz (qAt row) 1 then kOpt (qAu row 0) λv=>kInt .i64 v λn=>bif n==v1 then some (.sl v0)else qfl v0 v1 v5 else none else none else qfl v0 v1 v5) P):Gets (qfm v0 v1 v5) P:=
  gE (λ_=>qpd) (by kernel_rfl) h
theorem qm3(v0:Rz)(v1 v5:Int){P:AV->Prop}(h:Gets (bif qe 0 v5&&qe v5 (v0.length:Int)then bif vq 1 v0 then bif vq 1 (qAB (qAR v5 - 0) v0)then bif qo (0+qAt (qAB (qAR v5 - 0) v0)) 8 then bif qAF (0+(0+qAt (qAB (qAR v5 - 0) v0))) (qAt (qAB (qAR v5 - 0) v0))&&qo (0+qAt (qAB (qAR v5 - 0) v0)+1) 8 then bif qe 0 v5&&qe v5 (v0.length:Int)then bif vq 1 v0 then bif vq 1 (qAB (qAt v0 - v5.toNat) (qAO (qAR v5) v0))then bif qAF (0+(0+qAt (qAB (qAR v5 - 0) v0)+1)) (qAt (qAG (qAB (0+qAt (qAB (qAR v5 - 0) v0)) (qAB (qAR v5 - 0) v0)) [[AV.int .i64 v1]]))&&qo (0+qAt (qAB (qAR v5 - 0) v0)+1+qAt (qAB (qAt v0 - v5.toNat) (qAO (qAR v5) v0))) 8 then bif qAF (0+(0+qAt (qAB (qAR v5 - 0) v0)+1+qAt (qAB (qAt v0 - v5.toNat) (qAO (v5.toNat) v0)))) (qAt (qAG (qAB (0+qAt (qAB (qAR v5 - 0) v0)+1) (qAG (qAB (0+qAt (qAB (qAR v5 - 0) v0)) (qAB (qAR v5 - 0) v0)) [[AV.int .i64 v1]])) (qAB (qAt v0 - v5.toNat) (qAO (v5.toNat) v0))))&&true then some (AV.sl (qAB (0+qAt (qAB (qAR v5 - 0) v0)+1+qAt (qAB (qAt v0 - v5.toNat) (qAO (v5.toNat) v0))) (qAG (qAB (0+qAt (qAB (qAR v5 - 0) v0)+1) (qAG (qAB (0+qAt (qAB (qAR v5 - 0) v0)) (qAB (qAR v5 - 0) v0)) [[AV.int .i64 v1]])) (qAB (qAt v0 - v5.toNat) (qAO (v5.toNat) v0)))))else none else none else none else none else none else none else none else none else none else none) P):Gets (qfl v0 v1 v5) P:=
  gE (λ_=>qpd) (by kernel_rfl) h
end Go.Proofs.YtafdkafbgohigaaGreat
end
noncomputable section
namespace Go.Av
def setL(q:Nat->Bool):List Int:=((qA7 100).filter q).map Int.ofNat
theorem qjP(q:Nat->Bool):setL q=((List.range' 0 100).filter q).map Int.ofNat:=by unfold setL;rw[List.range_eq_range']
theorem qvC(q:Nat->Bool):(setL q).length<=100:=by
 unfold setL;rw[qBe];exact Nat.le_trans (List.length_filter_le _ _) (by simp)
theorem qtG(p:Tm):yj p=if p.chk=0 then setL (λn=>xk (n:Nat) p)else[]:=rfl
def insL:List Int->Int->List Int
 |[],n=>[n]
 |x::l,n=>if x<n then x::insL l n else if x=n then x::l else n::x::l
theorem qv7(A:List Int)(B:List Int)(n:Int)(h:∀a∈A,a<n):insL (A++B) n=A++insL B n:=by
 induction A with
 |nil=>rfl
 |cons a A ih=>
  rw[List.cons_append,insL,qBj (h a (by simp)),ih (λx hx=>h x (by simp[hx]))];rfl
theorem qxt(B:List Int)(n:Int)(h:∀b∈B,n<b):insL B n=n::B:=by
 cases B with
 |nil=>rfl
 |cons b B=>
  have:=h b (by simp);rw[insL,qBk (by omega),qBk (by omega)]
theorem qqA(q:Nat->Bool)(n:Nat):∀d a:Nat,a<=n->n<a+d->insL (((List.range' a d).filter q).map Int.ofNat) (n:Int)=((List.range' a d).filter λm=>q m||decide (m=n)).map Int.ofNat:=by
 intro d
 induction d with
 |zero=>intro a h1 h2;omega
 |succ d ih=>
  intro a h1 h2;rw[List.range'_succ]
  by_cases ha:a=n
  ·subst ha;have hgt:∀b∈((List.range' (a+1) d).filter q).map Int.ofNat,(a:Int)<b:=by
    intro b hb;obtain⟨m,hm,rfl⟩:=List.mem_map.1 hb;have:=(List.mem_range'_1.1 (List.mem_filter.1 hm).1).1;show(a:Int)<(m:Int);omega
   have hc:(List.range' (a+1) d).filter (λm=>q m||decide (m=a))=(List.range' (a+1) d).filter q:=by
    refine List.filter_congr λm hm=>?_
    have:=(List.mem_range'_1.1 hm).1;rw[qBi (by omega),Bool.or_false]
   rw[List.filter_cons_of_pos (p:=λm=>q m||decide (m=a)) (by simp),hc];cases hq:q a with
   |true=>
    rw[List.filter_cons_of_pos hq,qBf,insL,qBk (by simp),qBj (show Int.ofNat a=(a:Int)from rfl)]
   |false=>
    rw[List.filter_cons_of_neg (by simp[hq]),qxt _ _ hgt];rfl
  ·have h:=ih (a+1) (by omega) (by omega);cases hq:q a with
   |true=>
    rw[List.filter_cons_of_pos hq,List.filter_cons_of_pos (p:=λm=>q m||decide (m=n)) (by simp[hq]),qBf,qBf,insL,qBj (by show(a:Int)<(n:Int);omega),h]
   |false=>
    rw[List.filter_cons_of_neg (by simp[hq]),List.filter_cons_of_neg (p:=λm=>q m||decide (m=n)) (by simp[hq,ha]),h]
theorem qv6(q:Nat->Bool){n:Nat}(h:n<100):insL (setL q) (n:Int)=setL λm=>q m||decide (m=n):=by
 rw[qjP,qjP];exact qqA q n 100 0 (by omega) (by omega)
theorem qp3(l:List Int):vq 1 (ql l)=true:=by cases l<;>rfl
theorem qkF(l:List Int)(n:Nat):(ql l).take n=ql (l.take n):=by simp[ql,List.map_take]
theorem qsJ(l:List Int)(n:Nat):(ql l).drop n=ql (l.drop n):=by simp[ql,List.map_drop]
theorem qmw(a b:List Int):ql a++ql b=ql (a++b):=by simp[ql]
theorem qfs{n:Nat}(h:n<=1099511627776):qo n 8=true:=by
 unfold qo;rw[qAw,qA2,qA2];omega
end Go.Av
namespace Go.Proofs.YtafdkafbgohigaaGreat
open Go.Av
theorem qr6{l:List Int}(hl:l.length<1000000)(n:Int):EVf (EV cfg) 263 [.sl (ql l),.int .i64 n]=some (.sl (ql (insL l n))):=by
 -- put in at a place
 have put:∀i:Nat,i<=l.length->Gets (qfl (ql l) n i) (·= .sl (ql (l.take i++n::l.drop i))):=by
  intro i hi;refine qm3 _ _ _ ?_;have e1:(i:Int).toNat=i:=qAS i;have hli:qe (i:Int) (((ql l).length:Nat):Int)=true:=by rw[qP];simp only[qe];exact qBh (by omega)
  have e2:(ql l).take (i - 0)=ql (l.take i):=by rw[Nat.sub_zero,qkF]
  have e3:qAB ((ql l).length - i) (qAO i (ql l))=ql (l.drop i):=by
   rw[qP,qsJ,qkF,qAE (by rw[List.length_drop];exact qAA _)]
  have e4:(ql (l.take i)).length=i:=by rw[qP,qA6];omega
  have e5:(ql (l.drop i)).length=l.length - i:=by rw[qP,List.length_drop]
  have e6:qAG (qAB (0+i) (ql (l.take i))) [[AV.int .i64 n]]=ql (l.take i++[n]):=by
   rw[qAE (by omega),←qmw];rfl
  have e7:(ql (l.take i++[n])).length=i+1:=by rw[qP,qAI,qA6,List.length_singleton];omega
  have e8:qAG (qAB (0+i+1) (ql (l.take i++[n]))) (ql (l.drop i))=ql (l.take i++n::l.drop i):=by
   rw[qAE (by omega)];show ql _++ql _=_;rw[qmw,qA8];rfl
  have e9:(ql (l.take i++n::l.drop i)).length=i+1+(l.length - i):=by rw[qP,qAI,qA6,qA0,List.length_drop];omega
  have e10:qAB (0+i+1+(l.length - i)) (ql (l.take i++n::l.drop i))=ql (l.take i++n::l.drop i):=qAE (by omega);have b1:qAF (0+(0+i)) i=true:=by rw[qA2];omega
  have b2:qAF (0+(0+i+1)) (i+1)=true:=by rw[qA2];omega
  have b3:qAF (0+(0+i+1+(l.length - i))) (i+1+(l.length - i))=true:=by rw[qA2];omega
  have f1:qo (0+i) 8=true:=qfs (by omega);have f2:qo (0+i+1) 8=true:=qfs (by omega);have f3:qo (0+i+1+(l.length - i)) 8=true:=qfs (by omega);simp only[e1,qI,hli,qp3,e2,e3,e4,e5,e6,e7,e8,e9,e10,b1,b2,b3,f1,f2,f3,qAM,cond_true];exact⟨_,rfl,rfl⟩
 -- where the numbers begin that are not below
 have here:∀i:Nat,i<=l.length->(∀a∈l.take i,a<n)->(∀x r,l.drop i=x::r->¬x<n)->Gets (qfm (ql l) n i) (·= .sl (ql (insL l n))):=by
  intro i hi hlt hge;have hsplit:insL l n=l.take i++insL (l.drop i) n:=by
   have:=qv7 (l.take i) (l.drop i) n hlt
   rwa [List.take_append_drop]at this
  refine qm4 _ _ _ ?_
  by_cases hil:i<l.length
  ·have hx:l[i]? =some l[i]:=qAv hil;have hd:l.drop i=l[i]::l.drop (i+1):=qAT hil;have hnl:=hge _ _ hd;rw[qP,qBh (show(i:Int)<(l.length:Int) by omega),qI,q8,qBh hil,qB,qAS,zc,hx];simp only[qAM,cond_true,qAW,qb,List.length_singleton,qA1,qB,List.getElem?_cons_zero,qm,beqI]
   by_cases he:l[i]=n
   ·rw[qBh he];refine⟨_,rfl,?_⟩;rw[hsplit,hd,insL,qBk hnl,qBj he,←hd,List.take_append_drop]
   ·rw[qBi he];have h:=put i hi;have e:insL (l.drop i) n=n::l.drop i:=by rw[hd,insL,qBk hnl,qBk he]
    rw[hsplit,e];exact h
  ·rw[qP,qBi (by omega)];have h:=put i hi;have e0:l.drop i=[]:=qAV (by omega);have e:insL (l.drop i) n=n::l.drop i:=by rw[e0];rfl
   rw[hsplit,e];exact h
 have loop:∀d i:Nat,i+d=l.length->(∀a∈l.take i,a<n)->Gets (qeS (ql l) n i) (·= .sl (ql (insL l n))):=by
  intro d
  induction d with
  |zero=>
   intro i hi hlt;refine qfz _ _ _ ?_;rw[qP,qBi (by omega)];exact here i (by omega) hlt (λx r h=>by rw[qAV (by omega)]at h;cases h)
  |succ d ih=>
   intro i hi hlt;have hil:i<l.length:=by omega
   refine qfz _ _ _ ?_;have hx:l[i]? =some l[i]:=qAv hil;have hd:l.drop i=l[i]::l.drop (i+1):=qAT hil;rw[qP,qBh (show(i:Int)<(l.length:Int) by omega),qI,q8,qBh hil,qB,qAS,zc,hx,qL hil (by omega)];simp only[qAM,cond_true,qAW,qb,List.length_singleton,qA1,qB,List.getElem?_cons_zero,qm]
   by_cases hlx:l[i]<n
   ·rw[qBh hlx];refine ih (i+1) (by omega) (λa ha=>?_);rw[List.take_add_one,hx,Option.toList_some,qAY]at ha;rcases ha with h|h
    ·exact hlt a h
    ·simp at h;subst h;exact hlx
   ·rw[qBi hlx];refine here i (by omega) hlt (λx r h=>?_);rw[hd]at h;cases h;exact hlx
 apply Gets.get;exact qqa _ _ (loop l.length 0 (by omega) (by simp))
theorem qt6{t:Tm}(h:t.w<1099511627776):EVs (EV cfg) 234 [t.av]=some (.bool (anyT t)):=by
 have hm:=qaS h;apply Gets.get;rw[Tm.av,Tm.cells_eq]at hm⊢;refine qr9 _ _ _ _ ?_;rw[hm];simp only[beqI,beqS,qb,qm];unfold anyT;cases decide (t.kind=2)<;>cases decide (t.str=[95])<;>cases decide (t.chk=0)<;>exact⟨_,rfl,rfl⟩
theorem qxf{t:Tm}{n:Int}(h:varT t=some n):0<=n∧n<100:=by
 unfold varT at h;split at h
 ·have:=qlw h;omega
 ·cases h
theorem qr5:∀(n:Nat) (p:Tm),p.w<=n->p.chk=0->∀q:Nat->Bool,EVf (EV cfg) 235 [p.av,.sl (ql (setL q))]=some (.sl (ql (setL λm=>q m||xk (m:Nat) p))):=by
 intro n
 induction n with
 |zero=>intro p h;have:=yJ p;omega
 |succ n ih=>
  intro p hw hc q;have hwe:=p.w_eq;have hwc:=zD hc;have hv:=qbj (t:=p) (by omega);have loop:∀(l:List Tm),wL l<=n->(∀x∈l,x.chk=0)->l.length<1000000->∀(d i:Nat) (q:Nat->Bool),i+d=l.length->Gets (qhd (qa l) (ql (setL q)) i) (·= .sl (ql (setL λm=>q m||(l.drop i).any (xk (m:Nat))))):=by
   intro l hwl hcl hlen d
   induction d with
   |zero=>
    intro i q hi;refine qfT _ _ _ ?_;rw[qc,qBi (by omega),qAV (by omega)];simp only[List.any_nil,Bool.or_false];exact⟨_,rfl,rfl⟩
   |succ d ihd=>
    intro i q hi;have hil:i<l.length:=by omega
    have hx:l[i]? =some l[i]:=qAv hil;have hd:l.drop i=l[i]::l.drop (i+1):=qAT hil;have hm:=qAJ hx;refine qfT _ _ _ ?_;have hi2:=ih l[i] (by have:=vV hm;omega) (hcl _ hm) q;have h2:=ihd (i+1) (λm=>q m||xk (m:Nat) l[i]) (by omega);rw[qc,qBh (show(i:Int)<(l.length:Int) by omega),qI,q8,qBh hil,ye hx,qL hil (by omega)]
    simp only[cond_true,qAM,qv,qA1,qG,qF,show qAF 4 4=true from rfl,q9,hi2,qb,xG];rw[hd];simp only[List.any_cons,←Bool.or_assoc];exact h2
  have hp:∀l:List Tm,EVf (EV cfg) 264 [p.av]=some (.sl (qa l))->wL l<=n->(∀x∈l,x.chk=0)->l.length<1000000->(∀m:Nat,xk (m:Nat) p=l.any (xk (m:Nat)))->varT p=none ->
    EVf (EV cfg) 235 [p.av,.sl (ql (setL q))]=some (.sl (ql (setL λm=>q m||xk (m:Nat) p))):=by
   intro l hpl hwl hcl hlen heq hnone;have h:=loop l hwl hcl hlen l.length 0 q (by omega);apply Gets.get;rw[Tm.av,Tm.cells_eq]at hpl hv⊢;refine qin _ _ _ _ _ ?_;rw[hv,hpl,hnone];simp only[varR,qb,kTup,qf,qm,kNil,Option.isSome_none,qk,cond_false,xG];rw[qA4]at h;simp only[heq];exact h
  have parts:EVf (EV cfg) 264 [p.av]=some (.sl (qa (if p.kind=7∨p.kind=9 then p.subs else[]))):=by
   apply Gets.get;rw[Tm.av,Tm.cells_eq];refine qop _ _ _ _ ?_;rw[beqI,beqI]
   by_cases h7:p.kind=7
   ·rw[qBh h7,qBj (.inl h7)];exact⟨_,rfl,rfl⟩
   ·by_cases h9:p.kind=9
    ·rw[qBi h7,qBh h9,qBj (.inr h9)];exact⟨_,rfl,rfl⟩
    ·rw[qBi h7,qBi h9,qBk (λh=>h.elim h7 h9),vj];exact⟨_,rfl,rfl⟩
  cases hvt:varT p with
  |some x=>
   obtain⟨h0,h1⟩:=qxf hvt;have hk:p.kind=2:=by
    unfold varT at hvt;split at hvt
    ·rename_i h;exact h.1
    ·cases hvt
   have hvg:varG p.str=some x:=by
    unfold varT at hvt;rw[qBj ⟨hk,hc⟩]at hvt;exact hvt
   obtain⟨k,rfl⟩:∃k:Nat,x=k:=⟨x.toNat,by omega⟩;have hw1:=qr6 (l:=setL q) (by have:=qvC q;omega) (k:Int);rw[qv6 q (by omega)]at hw1;apply Gets.get;rw[Tm.av,Tm.cells_eq]at hv⊢;refine qin _ _ _ _ _ ?_;rw[hv,hvt];simp only[varR,qb,kTup,qf,qm,kNil,Option.isSome_some,Option.getD_some,qk,cond_true,hw1,xG];refine⟨_,rfl,?_⟩
   congr 3
   funext m
   congr 1
   rw[zE,qBk (by omega),qBh hk,hvg,qA9];exact decide_eq_decide.2 ⟨λh=>by rw[h],λh=>by cases h;rfl⟩
  |none=>
   rw[hvt]at hv
   by_cases h79:p.kind=7∨p.kind=9
   ·rw[qBj h79]at parts;exact hp p.subs parts (by omega) (λx hx=>vU hc hx) (by have:=qvy hc;omega) (λm=>by rw[zE,qBj h79]) hvt
   ·rw[qBk h79]at parts;refine hp [] parts (by simp) (by simp) (by simp) (λm=>?_) hvt;rw[zE,qBk h79,List.any_nil]
    by_cases hk:p.kind=2
    ·unfold varT at hvt;rw[qBj ⟨hk,hc⟩]at hvt;rw[hvt];simp
    ·rw[qBi hk];rfl
theorem qr7{t:Tm}(h:t.w<1099511627776):EVf (EV cfg) 209 [t.av]=some (.sl (ql (yj t))):=by
 have hc:=qaS h;rw[qtG];apply Gets.get
 by_cases h0:t.chk=0
 ·have hv:=qr5 t.w t (qAA _) h0 (λ_=>false);have e0:ql (setL λ_=>false)=[]:=rfl;rw[e0]at hv;rw[Tm.av,Tm.cells_eq]at hv hc⊢;refine qio _ _ _ _ ?_;rw[hc,h0,qBj rfl,hv];simp only[qb,qm,xG,Bool.false_or];exact⟨_,rfl,rfl⟩
 ·rw[Tm.av,Tm.cells_eq]at hc⊢;refine qio _ _ _ _ ?_;rw[hc,qBk h0];simp only[qb,qm,bneD,qBi h0];exact⟨_,rfl,rfl⟩
theorem qv4{α:Type}(r:List (List AV))(x:Bool)(K:List (List AV)->Bool->Option α):(kTup (.tup [.sl r,.bool x]) λcs=>qf cs λc cs=>kSl c λrows=>qf cs λc cs=>qJ c λn=>kNil cs (K rows n))=K r x:=rfl
theorem qd6{t:Tm}(hc:t.chk=0):EVf (EV cfg) 169 [t.av]=some (lsR (qy t)):=by
 have loop:∀(n:Nat) (t:Tm) (acc:List Tm),t.w<=n->t.chk=0->acc.length+n<1099511627776->Gets (qhf acc.length t.kind t.num t.str (qa t.subs) (qa acc)) (·=lsR (acc++(qy t).1,(qy t).2)):=by
  intro n
  induction n with
  |zero=>intro t acc h;have:=yJ t;omega
  |succ n ih=>
   intro t acc hw hc hn;refine qnO _ _ _ _ _ _ ?_;rw[beqI,beqI];have e1:qAF (0+acc.length) (qa acc).length=true:=by rw[qA2,qc];omega
   have e2:qAB acc.length (qa acc)=qa acc:=qAE (by simp)
   by_cases h9:t.kind=9
   ·obtain⟨x,y,hs⟩:=qbZ hc h9;have hwe:=t.w_eq;rw[hs]at hwe;simp only[qA,xu]at hwe;have h:=ih y (acc++[x]) (by omega) (vU hc (by rw[hs];simp)) (by simp;omega);rw[qBh h9,cond_true,hs,lt0T,qkK,lt1T,qkJ,e1,e2,zw (by omega)];simp only[cond_true,qAM,qb,qv,qA1,qG,qF,qa7];have e5:qAG (qa acc) [[AV.int .i64 x.kind,.int .i64 x.num,.str x.str,.sl (qa x.subs)]]=qa (acc++[x]):=by
     rw[vH,qK,vj,Tm.cells_eq];rfl
    rw[e5,xH h9 hs];rw[qAI]at h;refine Gets.mono h ?_;rintro _ rfl;simp[lsR]
   ·rw[qBi h9,cond_false,e1,e2,yL h9];exact⟨_,rfl,by simp[lsR]⟩
 have hw:=zD hc;have h:=loop t.w t [] (qAA _) hc (by simp;omega);apply Gets.get;rw[Tm.av,Tm.cells_eq];refine qol _ _ _ _ ?_;rw[vj]at h
 simpa using h
theorem qr1{t:Tm}(h:t.w<1099511627776):EVs (EV cfg) 208 [t.av]=some (.bool (qbF t)):=by
 have hv:=qbj h;have ha:=qt6 h;apply Gets.get;rw[Tm.av,Tm.cells_eq]at hv ha⊢;refine qp8 _ _ _ _ ?_;rw[hv,ha];unfold qbF varR;simp only[beqI,qb,qk,kTup,qf,qm,kNil];cases(varT t).isSome<;>cases decide (t.kind=7)<;>cases anyT t<;>exact⟨_,rfl,rfl⟩
theorem qil{V:List Int}(hV:V.length<1099511627776){l:List Tm}(hlen:l.length<1099511627776)(hw:∀x∈l,x.w<1099511627776):EVs (EV cfg) 210 [.sl (qa l),.sl (ql V)]=some (.bool (okV V l)):=by
 have loop:∀d i:Nat,i+d=l.length->Gets (qhe (qa l) (ql V) i) (·= .bool (okV V (l.drop i))):=by
  intro d
  induction d with
  |zero=>
   intro i hi;refine qfU _ _ _ ?_;rw[qc,qBi (by omega),qAV (by omega)];exact⟨_,rfl,rfl⟩
  |succ d ih=>
   intro i hi;have hil:i<l.length:=by omega
   have hx:l[i]? =some l[i]:=qAv hil;have hd:l.drop i=l[i]::l.drop (i+1):=qAT hil;have hc:=qim hV (hw _ (qAJ hx));have h1:=ih (i+1) (by omega);refine qfU _ _ _ ?_;rw[qc,qBh (show(i:Int)<(l.length:Int) by omega),qI,q8,qBh hil,ye hx,qL hil hlen,hd,qi1];simp only[cond_true,qAM,qv,qA1,qG,qF,show qAF 4 4=true from rfl,q9,hc,qb,qm,bneD]
   by_cases h0:vP V l[i]=0
   ·rw[qBh h0];exact h1
   ·rw[qBi h0];exact⟨_,rfl,rfl⟩
 apply Gets.get;exact qom _ _ (by simpa using loop l.length 0 (by omega))
theorem qon{t:Tm}(hc:t.chk=0):EVf (EV cfg) 170 [t.av]=some (clR (vY t)):=by
 have hw:=zD hc;have hwe:=t.w_eq;have hz:AV.tup [.agg [AV.int .i64 (0:Int),.int .i64 (0:Int),.str [],.sl [],.sl [],.sl []],.bool false]=clR none:=rfl;apply Gets.get;rw[Tm.av,Tm.cells_eq];refine qmY _ _ _ _ ?_;unfold zF0;rw[bneD,bneD,hz,qc]
 by_cases h7:t.kind=7
 ·rw[qBh h7]
  by_cases h3:t.subs.length=3
  ·obtain⟨h,g,b,hs⟩:∃h g b,t.subs=[h,g,b]:=by
    cases hs:t.subs with
    |nil=>rw[hs]at h3;simp at h3
    |cons a l=>cases l with
     |nil=>rw[hs]at h3;simp at h3
     |cons b l=>cases l with
      |nil=>rw[hs]at h3;simp at h3
      |cons d l=>cases l with
       |nil=>exact⟨a,b,d,rfl⟩
       |cons e l=>rw[hs]at h3;simp at h3
   have ch:h.chk=0:=vU hc (by rw[hs];simp);have cg:g.chk=0:=vU hc (by rw[hs];simp);have cb:b.chk=0:=vU hc (by rw[hs];simp);rw[hs]at hwe;simp only[qA,xu]at hwe;have lg:=zJ cg;have lb:=zJ cb;have hh:=qr1 (t:=h) (by omega);have hv:=qr7 (t:=h) (by omega);have e1:=qd6 cg;have e2:=qd6 cb;have x1:=qil (V:=yj h) (l:=(qy g).1) (by have:=qf9 h;omega) (by omega) (λx hx=>by have:=vV hx;omega)
   have x2:=qil (V:=yj h) (l:=(qy b).1) (by have:=qf9 h;omega) (by omega) (λx hx=>by have:=vV hx;omega);have gh:vY t=if qbF h&&((qy g).2&&((qy b).2&& !(qy b).1.isEmpty))&&(okV (yj h) (qy g).1&&okV (yj h) (qy b).1)then some ⟨h,(qy g).1,(qy b).1⟩else none:=by
    unfold vY;rw[qBj h7,hs];rfl
   rw[qBh (show(t.subs.length:Int)=3 by omega),hs,qK,qK,qK,vj,gh];have g0:qAu [h.cells,g.cells,b.cells] 0=some h.cells:=rfl;have g1:qAu [h.cells,g.cells,b.cells] 1=some g.cells:=rfl;have g2:qAu [h.cells,g.cells,b.cells] 2=some b.cells:=rfl;have l0:qi 0 (([h,g,b].length:Nat):Int)=true:=rfl;have l1:qi 1 (([h,g,b].length:Nat):Int)=true:=rfl
   have l2:qi 2 (([h,g,b].length:Nat):Int)=true:=rfl;rw[g0,g1,g2];simp only[l0,l1,l2,Bool.not_true,cond_false,cond_true,qb,qv,qA1,qG,qF,qa7,q9,hh,qk];cases qbF h with
   |false=>exact⟨_,rfl,rfl⟩
   |true=>
    simp only[Bool.not_true,cond_false,qA9,hv,e1,e2,lsR,qb,kTup,qf,xG,qk,kNil,qc,beqI];cases(qy g).2 with
    |false=>exact⟨_,rfl,rfl⟩
    |true=>
     cases(qy b).2 with
     |false=>exact⟨_,rfl,rfl⟩
     |true=>
      simp only[Bool.not_true,cond_false,qA9];cases hb:(qy b).1 with
      |nil=>exact⟨_,rfl,rfl⟩
      |cons x l=>
       rw[hb]at x2;rw[qBi (show ¬(((x::l).length:Nat):Int)=0 by simp;omega)];simp only[cond_false,x1,x2,qb,qk];cases okV (yj h) (qy g).1 with
       |false=>exact⟨_,rfl,rfl⟩
       |true=>
        cases okV (yj h) (x::l)with
        |false=>exact⟨_,rfl,rfl⟩
        |true=>exact⟨_,rfl,rfl⟩
  ·have:vY t=none:=by
    unfold vY;rw[qBj h7];cases hs:t.subs with
    |nil=>rfl
    |cons a l=>cases l with
     |nil=>rfl
     |cons b l=>cases l with
      |nil=>rfl
      |cons d l=>cases l with
       |nil=>rw[hs]at h3;simp at h3
       |cons e l=>rfl
   rw[qBi (show ¬(t.subs.length:Int)=3 by omega),this];exact⟨_,rfl,rfl⟩
 ·have:vY t=none:=by unfold vY;rw[qBk h7]
  rw[qBi h7,this];exact⟨_,rfl,rfl⟩
end Go.Proofs.YtafdkafbgohigaaGreat
end
noncomputable section
namespace Go.Av
theorem qmH(t:Tm)(hc:t.chk=0):clsG t=match seqC (qy t).1 with
  |some l=>if(qy t).2&& !l.isEmpty then(l,0)else([],10)
  |none=>([],10):=by
 unfold clsG;rw[qBj hc];try rfl
theorem qsF{t:Tm}(hc:t.chk=0):(qy t).1.length<=4259840:=by
 have:=zJ hc;have:=zD hc;omega
theorem kClR{α:Type}(o:Option Cl)(K:Int->Int->List UInt8->List (List AV)->List (List AV)->List (List AV)->Bool->Option α):(kTup (clR o) λcs=>qf cs λc cs=>kAgg c λcs_1=>qf cs_1 λc cs_2=>kInt .i64 c λn=>qf cs_2 λc cs_3=>kInt .i64 c λn_2=>qf cs_3 λc cs_4=>kStr c λs=>qf cs_4 λc cs_5=>kSl c λrows_2=>qf cs_5 λc cs_6=>kSl c λrows_3=>qf cs_6 λc cs_7=>kSl c λrows_4=>kNil cs_7 (qf cs λc cs=>qJ c λb=>kNil cs (K n n_2 s rows_2 rows_3 rows_4 b))) =
  K (o.getD qeO).head.kind (o.getD qeO).head.num (o.getD qeO).head.str (qa (o.getD qeO).head.subs) (qa (o.getD qeO).gs) (qa (o.getD qeO).bs) o.isSome:=by
 cases o<;>rfl
end Go.Av
namespace Go.Proofs.YtafdkafbgohigaaGreat
open Go.Av
def clsB(r:List Cl×Int):OV×AV:=(.own 6 (qY r.1) 0 r.1.length,.bool (decide (r.2=0)))
theorem qex{t:Tm}(hc:t.chk=0):EVq (EV cfg) 108 [t.av]=some (clsB (clsG t)):=by
 have hi:=qd6 hc;have hw:=zD hc;have hlen:=qsF hc;have hic:=qbD hc;have hlw:=zJ hc;rw[qmH t hc];have loop:∀(l:List Tm),(∀x∈l,x.chk=0)->l.length<=4259840->∀(d i:Nat) (acc:List Cl),i+d=l.length->acc.length=i->Gets (qhh (qa l) i i (qY acc)) (·=match seqC (l.drop i)with|some cs=>(OV.own 6 (qY (acc++cs)) 0 (acc++cs).length,AV.bool true)|none=>(OV.own 6 [] 0 0,AV.bool false)):=by
  intro l hl hln d
  induction d with
  |zero=>
   intro i acc hd ha;refine qfW _ _ _ _ ?_;rw[qc,qBi (by omega),qAV (by omega)];refine⟨_,rfl,?_⟩;show _=(OV.own 6 (qY (acc++[])) 0 (acc++[]).length,AV.bool true);rw[List.append_nil,ha]
  |succ d ih=>
   intro i acc hd ha;have hil:i<l.length:=by omega
   have hx:l[i]? =some l[i]:=qAv hil;have hdr:l.drop i=l[i]::l.drop (i+1):=qAT hil;have hcl:=qon (hl _ (qAJ hx));refine qfW _ _ _ _ ?_;rw[qc,qBh (show(i:Int)<(l.length:Int) by omega),qI,q8,qBh hil,ye hx,qL hil (by omega),hdr,seqC];simp only[cond_true,qAM,qv,qA1,qG,qF,show qAF 4 4=true from rfl,q9,hcl,qb]
   rw[kClR];cases hg:vY l[i]with
   |none=>exact⟨_,rfl,rfl⟩
   |some c=>
    have e1:qAF (0+i) (qY acc).length=true:=by rw[qA2,vZ];omega
    have e2:qAG (qAB i (qY acc)) [c.cells]=qY (acc++[c]):=by
     rw[qAE (by rw[vZ];omega),qde,qtW];rfl
    have h2:=ih (i+1) (acc++[c]) (by omega) (by rw[qAI,ha];rfl);simp only[Option.isSome_some,Bool.not_true,cond_false,e1,qlT (show i+1<=1099511627776 by omega),qAM,cond_true,Option.getD_some];have e3:[AV.int .i64 c.head.kind,.int .i64 c.head.num,.str c.head.str,.sl (qa c.head.subs),.sl (qa c.gs),.sl (qa c.bs)]=c.cells:=rfl;rw[e3,e2];refine Gets.mono h2 ?_;rintro _ rfl
    cases seqC (l.drop (i+1))with
    |none=>rfl
    |some cs=>
     simp only[qAL,qAW,qA8,List.singleton_append]
 apply Gets.get;rw[Tm.av,Tm.cells_eq]at hi⊢;refine qj0 _ _ _ _ ?_;rw[hi];simp only[lsR,qb];rw[qv4];cases(qy t).2 with
 |false=>
  refine⟨_,rfl,?_⟩;cases seqC (qy t).1<;>rfl
 |true=>
  rw[Bool.not_true,cond_false,qc,beqI];cases hl:(qy t).1 with
  |nil=>exact⟨_,rfl,rfl⟩
  |cons x l=>
   rw[qBi (show ¬(((x::l).length:Nat):Int)=0 by simp;omega),cond_false];have h:=loop (x::l) (by rw[←hl];exact hic) (by rw[←hl];exact hlen) (x::l).length 0 [] (by omega) rfl;refine Gets.mono h ?_;rintro _ rfl;rw[qA4];cases hs:seqC (x::l)with
   |none=>rfl
   |some cs=>
    have:cs.isEmpty=false:=by
     have:=qiV hs;cases cs with
     |nil=>simp at this
     |cons=>rfl
    simp only[this,List.nil_append,qA9,Bool.not_false,if_true];rfl
theorem qps{t:Tm}(hc:t.chk≠0):clsG t=([],2):=by unfold clsG;rw[qBk hc]
theorem qwo(t:Tm)(hc:t.chk=0):(clsG t).2=if(clsG t).2=0 then 0 else 10:=by
 rw[qmH t hc];cases seqC (qy t).1 with
 |none=>rfl
 |some l=>simp only[];split<;>rfl
theorem qp9{t:Tm}(h:t.w<1099511627776):EVs (EV cfg) 107 [t.av]=some (.int .i64 (clsG t).2):=by
 have hm:=qaS h
 by_cases hc:t.chk=0
 ·have hk:=qex hc;have he:=qwo t hc;apply Gets.get;rw[Tm.av,Tm.cells_eq]at hm hk⊢;refine qgq _ _ _ _ ?_;rw[hm,hk,hc];simp only[qb,qm,bneD,decide_true,Bool.not_true,cond_false,clsB,qk]
  by_cases h0:(clsG t).2=0
  ·rw[h0];exact⟨_,rfl,rfl⟩
  ·rw[qBk h0]at he;rw[qBi h0,he];exact⟨_,rfl,rfl⟩
 ·apply Gets.get;rw[Tm.av,Tm.cells_eq]at hm⊢;refine qgq _ _ _ _ ?_;rw[hm,qps hc];simp only[qb,qm,bneD,qBi hc];exact⟨_,rfl,rfl⟩
theorem qgp{l:List Tm}(hlen:l.length<1099511627775)(hw:∀x∈l,x.w<1099511627776):EVf (EV cfg) 109 [.sl (qa l)]=some (.sl (qa l)):=by
 have loop:∀d i:Nat,i+d=l.length->Gets (qhg (qa l) i i (qa (l.take i))) (·= .sl (qa l)):=by
  intro d
  induction d with
  |zero=>
   intro i hi;obtain rfl:i=l.length:=by omega
   refine qfV _ _ _ _ ?_;have hb:qAF (0+l.length) (qa l).length=true:=by rw[qA2,qc];omega
   have ht:qAB l.length (qa l)=qa l:=qAE (by rw[qc];exact qAA _);rw[List.take_length,hb,ht,qc,qBi (by omega)];exact⟨_,rfl,rfl⟩
  |succ d ih=>
   intro i hi;have hil:i<l.length:=by omega
   have hx:l[i]? =some l[i]:=qAv hil;have hcp:=qe2 l[i] (hw _ (qAJ hx));have h1:=ih (i+1) (by omega);have e1:l.take (i+1)=l.take i++[l[i]]:=by rw[List.take_add_one,hx];rfl
   rw[e1,vH,qK,vj]at h1;have hl:(qa (l.take i)).length=i:=by rw[qc,qA6];omega
   have hb:qAF (0+i) (qa (l.take i)).length=true:=by rw[qA2,hl];omega
   have ht:qAB i (qa (l.take i))=qa (l.take i):=qAE (by omega);refine qfV _ _ _ _ ?_;rw[qc,qBh (show(i:Int)<(l.length:Int) by omega),qI,q8,qBh hil,ye hx,qL hil (by omega),hb,ht,zw (by omega)];simp only[cond_true,qAM,qv,qA1,qG,qF,show qAF 4 4=true from rfl,q9,hcp,qb,qaG]
   rw[←Tm.cells_eq];exact h1
 apply Gets.get;refine qmW _ ?_;have:=loop l.length 0 (by omega);rw[List.take_zero,vj]at this;exact this
theorem qu0{t:Tm}(h:(clsG t).2≠0):(clsG t).1=[]:=by
 revert h
 unfold clsG
 by_cases hc:t.chk=0
 ·rw[qBj hc];cases seqC (qy t).1 with
  |none=>intro _;rfl
  |some l=>
   simp only[];split
   ·intro h;exact absurd rfl h
   ·intro _;rfl
 ·rw[qBk hc];intro _;rfl
theorem qmX{t:Tm}(h:t.w<1099511627776):EVf (EV cfg) 59 [t.av]=some (.tup [.sl (qY (clsG t).1),.int .i64 (clsG t).2]):=by
 have hm:=qp9 h;obtain⟨ho,hn⟩:=qhL t
 by_cases h0:(clsG t).2=0
 ·have hc:t.chk=0:=by
   apply Classical.byContradiction;intro hc;rw[qps hc]at h0;simp at h0
  have hk:=qex hc;apply Gets.get;rw[Tm.av,Tm.cells_eq]at hm hk⊢;refine qew _ _ _ _ ?_;rw[hm,hk];simp only[qb,qm,bneD,clsB,qk];rw[h0];simp only[decide_true,Bool.not_true,cond_false,xh];generalize (clsG t).1=l at *;have loop:∀d i:Nat,i+d=l.length->Gets (qeR 6 0 l.length i (qY l)) (·= .tup [.sl (qY l),.int .i64 0]):=by
   intro d
   induction d with
   |zero=>
    intro i hi;obtain rfl:i=l.length:=by omega
    refine qfy _ _ _ _ _ ?_;have hb:qAF (0+l.length) (qY l).length=true:=by rw[qA2,vZ];omega
    have ht:qAB l.length (qAO 0 (qY l))=qY l:=qAE (by rw[qA4,vZ];exact qAA _);rw[qBi (by omega),hb,ht];exact⟨_,rfl,rfl⟩
   |succ d ih=>
    intro i hi;have hil:i<l.length:=by omega
    have hx:l[i]? =some l[i]:=qAv hil;obtain⟨c1,c2,c3,c4,c5⟩:=ho _ (qAJ hx);have k1:=qe2 l[i].head (by have:=zD c1;omega);have k2:=qgp (l:=l[i].gs) (by omega) (λx hx=>by have:=zD (c2 x hx);omega);have k3:=qgp (l:=l[i].bs) (by omega) (λx hx=>by have:=zD (c3 x hx);omega);have gx:qAu (qY l) (0+qAR (i:Int))=some l[i].cells:=by
     rw[qA5,qB,qAS,qgi,hx];rfl
    have gs:List.set (qY l) (0+qAR (i:Int)) l[i].cells=qY l:=by
     rw[qA5,qAS,qmg,List.set_getElem_self]
    have h1:=ih (i+1) (by omega);refine qfy _ _ _ _ _ ?_;rw[qBh (show(i:Int)<(l.length:Int) by omega),qI,q8,qBh hil,gx,qL hil (show l.length<1099511627776 by omega)];have b6:qAF 6 l[i].cells.length=true:=rfl;have b4:qAF 4 l[i].cells.length=true:=rfl;have l6:qAz l[i].cells.length 6=true:=rfl;have t6:qAB 6 l[i].cells=l[i].cells:=rfl
    have t4:qAB 4 l[i].cells=l[i].head.cells:=by rw[Tm.cells_eq];rfl
    have d6:qAO 6 l[i].cells=[]:=rfl;have g4:qAu l[i].cells 4=some (.sl (qa l[i].gs)):=rfl;have g5:qAu l[i].cells 5=some (.sl (qa l[i].bs)):=rfl;simp only[show qAz 6 6=true from rfl,cond_true,qAM,qb,b6,b4,t4,d6,g4,g5,qF,q9,k1,k2,k3,qaG,xG];unfold Cl.cells at gs;simp only[gs];exact h1
  exact loop l.length 0 (by omega)
 ·apply Gets.get;rw[Tm.av,Tm.cells_eq]at hm⊢;refine qew _ _ _ _ ?_;rw[hm,qu0 h0];simp only[qb,qm,bneD];rw[qBi h0];exact⟨_,rfl,rfl⟩
theorem qu3(e e':Tm)(l:List Tm)(p:Nat):xJ (e::e'::l) p=qp e p++iz 19 0 0::xJ (e'::l) (p+(qp e p).length+1):=by
 show qp e p++(iz 19 0 0::(qp e' (p+(qp e p).length+1)++qaf l (p+(qp e p).length+1+(qp e' (p+(qp e p).length+1)).length)))=_;rfl
theorem qu4(e:Tm)(p:Nat):xJ [e] p=qp e p:=by
 show qp e p++qaf [] _=_;rw[qaf,List.append_nil]
theorem qwi{gs:List Tm}(hx:∀t∈gs,qaQ t)(hd:Tm)(bs:List Tm)(p:Nat)(hlen:gs.length<1099511627776){P:OV->Prop}:∀(k i:Nat) (out:List InsA),i+k=gs.length->p+out.length+(wL (gs.drop i)+(gs.drop i).length)+1<1099511627776 ->
  (∀out':List InsA,out'=out++xM (gs.drop i) (p+out.length)->Gets (zC (p:Int) 7 out'.length (out'.length+1) 0 hd.kind hd.num hd.str (qa hd.subs) (qa gs) (qa bs) (qd (out'++[iz 18 0 0]))) P) ->
  Gets (qc8 (p:Int) 7 0 out.length (i:Int) hd.kind hd.num hd.str (qa hd.subs) (qa gs) (qa bs) (qd out)) P:=by
 intro k
 induction k with
 |zero=>
  intro i out hi hw h;refine qfD _ _ _ _ _ _ _ _ _ _ _ _ ?_;have h:=h out (by rw[qAV (by omega),xM,List.append_nil]);have b2:qAF out.length out.length=true:=by rw[nble,qBh (qAA _)]
  have f1:qo (out.length+1) 80=true:=zv (by omega);rw[qc,qBi (by omega)];simp -implicitDefEqProofs only[cond_false,cond_true,qu,qA5,show qAz 7 7=true from rfl,qAM,qA9,b2,f1,qa2,rowZ,app1];exact h
 |succ k ih=>
  intro i out hi hw h;have hil:i<gs.length:=by omega
  have g0:gs[i]? =some gs[i]:=qAv hil;have hdr:gs.drop i=gs[i]::gs.drop (i+1):=qAT hil;rw[hdr,qA,qA0]at hw;refine qfD _ _ _ _ _ _ _ _ _ _ _ _ ?_;have e1:(qe 0 (i:Int)&&qi (i:Int) ((qa gs).length:Int))=true:=by simp;omega
  have z:=hx gs[i] (List.getElem_mem hil) (p+out.length) (by omega);have hc:=xi gs[i] (p+out.length);have ew:qAH .i64 ((p:Int)+(out.length:Int))=((p+out.length:Nat):Int):=by rw[vE (by omega) (by omega)];omega
  have h1:=ih (i+1) (out++qp gs[i] (p+out.length)++[iz 14 0 0]) (by omega) (by simp only[qAI,qA0,List.length_nil];omega) (by
   rintro out' rfl;refine h _ ?_;rw[hdr,xM];simp[qBa])
  generalize qp gs[i] (p+out.length)=E at *;have b1:qAF E.length E.length=true:=by rw[nble,qBh (qAA _)]
  have b2:qAF out.length out.length=true:=by rw[nble,qBh (qAA _)]
  have b3:qAF (out.length+E.length) (out++E).length=true:=by rw[nble,qBh (by simp)]
  have f1:qo (out.length+E.length) 80=true:=zv (by omega);have f2:qo (out.length+E.length+1) 80=true:=zv (by omega);have ea:qAG (qd out) (qd E)=qd (out++E):=by rw[yR];rfl
  have et:qAB (out.length+E.length) (qd (out++E))=qd (out++E):=qAE (by rw[qu];simp);rw[qBh (show(i:Int)<((qa gs).length:Int) by simp;omega),e1,xz g0,qL hil hlen];simp -implicitDefEqProofs only[cond_true,qb,qv,qG,qF,show qAz 4 4=true from rfl,show qAF 4 4=true from rfl,q9,ew,z,xh,qa2,qu,qA5,show qAz 7 7=true from rfl,qAM,qA9,b1,b2,b3,f1,f2,ea,et,rowZ,app1]
  rw[qAI,qAI]at h1;exact h1
theorem qAp{bs:List Tm}(hd:Tm)(gs:List Tm)(p:Nat)(B C:List InsA)(h:p+B.length+C.length+1<1099511627776):
  Gets (zC (p:Int) 7 B.length (B++C).length (bs.length:Int) hd.kind hd.num hd.str (qa hd.subs) (qa gs) (qa bs) (qd (B++C))) (·=ownI (B.map (xb ((p+B.length+(C++[iz 20 0 0]).length:Nat):Int))++(C++[iz 20 0 0]))):=by
 refine qfC _ _ _ _ _ _ _ _ _ _ _ _ ?_;have zf:=qs5 ((p+B.length+(C++[iz 20 0 0]).length:Nat):Int) B (C++[iz 20 0 0]) (by omega);have b2:qAF (B++C).length (B++C).length=true:=by rw[nble,qBh (qAA _)]
 have f1:qo ((B++C).length+1) 80=true:=zv (by simp;omega);have e1:(qe 0 (B.length:Int)&&qe (B.length:Int) (((B++C).length+1:Nat):Int))=true:=by simp;omega
 have ew:qAH .i64 ((p:Int)+(((B++C).length+1:Nat):Int))=((p+B.length+(C++[iz 20 0 0]).length:Nat):Int):=by
  rw[vE (by simp;omega) (by simp;omega)];simp;omega
 have et:qAB (B++C).length (qd (B++C))=qd (B++C):=qAE (by rw[qu];exact qAA _);have ea:(B++C)++[iz 20 0 0]=B++(C++[iz 20 0 0]):=by simp
 have eb:(qAR (B.length:Int) - 0)=B.length:=by simp
 rw[qc,qBi (by omega)];simp -implicitDefEqProofs only[cond_false,cond_true,qu,qA5,show qAz 7 7=true from rfl,qAM,qA9,b2,f1,e1,ew,et,rowZ,app1,ea,eb,zf,qb,qxs];refine⟨_,rfl,?_⟩;show _=OV.own 7 _ 0 (qAt (_++_))
 congr 1
 simp<;>omega
theorem qyR{bs:List Tm}(hx:∀t∈bs,qaQ t)(hd:Tm)(gs:List Tm)(p:Nat)(B:List InsA)(hlen:bs.length<1099511627776):∀(k i:Nat) (C:List InsA),i+k=bs.length->p+B.length+C.length+(wL (bs.drop i)+(bs.drop i).length)+1<1099511627776 ->
  Gets (zC (p:Int) 7 B.length (B++C).length (i:Int) hd.kind hd.num hd.str (qa hd.subs) (qa gs) (qa bs) (qd (B++C))) (·=ownI (B.map (xb ((p+B.length+(C++xJ (bs.drop i) (p+B.length+C.length)++[iz 20 0 0]).length:Nat):Int))++(C++xJ (bs.drop i) (p+B.length+C.length)++[iz 20 0 0]))):=by
 intro k
 induction k with
 |zero=>
  intro i C hi hw;have hi':i=bs.length:=by omega
  rw[qAV (by omega),xJ,List.append_nil];rw[hi'];exact qAp (bs:=bs) hd gs p B C (by omega)
 |succ k ih=>
  intro i C hi hw;have hil:i<bs.length:=by omega
  have g0:bs[i]? =some bs[i]:=qAv hil;have hdr:bs.drop i=bs[i]::bs.drop (i+1):=qAT hil;rw[hdr,qA,qA0]at hw;refine qfC _ _ _ _ _ _ _ _ _ _ _ _ ?_;have e1:(qe 0 (i:Int)&&qi (i:Int) ((qa bs).length:Int))=true:=by simp;omega
  have hBC:(B++C).length=B.length+C.length:=by simp
  have z:=hx bs[i] (List.getElem_mem hil) (p+(B++C).length) (by omega);have hc:=xi bs[i] (p+(B++C).length);have ew:qAH .i64 ((p:Int)+((B++C).length:Int))=((p+(B++C).length:Nat):Int):=by rw[vE (by omega) (by omega)];omega
  have wl:qAH .i64 ((bs.length:Int) - 1)=(bs.length:Int) - 1:=by rw[vE (by omega) (by omega)]
  have hE:p+(B++C).length=p+B.length+C.length:=by omega
  rw[hE]at z hc ew;have b2:qAF (B++C).length (B++C).length=true:=by rw[nble,qBh (qAA _)]
  by_cases hlast:i+1=bs.length
  ·have h1:=ih (i+1) (C++qp bs[i] (p+B.length+C.length)) (by omega) (by simp;rw[qAV (by omega)];simp;omega);rw[hdr,qAV (show bs.length<=i+1 by omega),qu4];rw[qAV (show bs.length<=i+1 by omega),xJ,List.append_nil]at h1;generalize qp bs[i] (p+B.length+C.length)=E at *;have b1:qAF E.length E.length=true:=by rw[nble,qBh (qAA _)]
   have f1:qo ((B++C).length+E.length) 80=true:=zv (by omega);have ea:qAG (qAB (B++C).length (qd (B++C))) (qd E)=qd (B++(C++E)):=by rw[qAE (by rw[qu];exact qAA _),←qA8,yR (B++C)];rfl
   rw[qBh (show(i:Int)<((qa bs).length:Int) by simp;omega),e1,xz g0,qL hil hlen];simp -implicitDefEqProofs only[cond_true,cond_false,qb,qv,qG,qF,show qAz 4 4=true from rfl,show qAF 4 4=true from rfl,q9,ew,z,xh,qa2,qu,qA5,show qAz 7 7=true from rfl,qAM,qA9,b1,b2,f1,ea,qc,wl,qBi (show ¬(i:Int)<(bs.length:Int) - 1 by omega)]
   have h2:(B++(C++E)).length=(B++C).length+E.length:=by simp;omega
   rw[h2]at h1;exact h1
  ·have hil2:i+1<bs.length:=by omega
   have hdr2:bs.drop (i+1)=bs[i+1]::bs.drop (i+1+1):=qAT hil2;have h1:=ih (i+1) (C++qp bs[i] (p+B.length+C.length)++[iz 19 0 0]) (by omega) (by simp only[qAI,qA0,List.length_nil];omega);have hgo:C++xJ (bs.drop i) (p+B.length+C.length)=C++qp bs[i] (p+B.length+C.length)++[iz 19 0 0]++xJ (bs.drop (i+1)) (p+B.length+(C++qp bs[i] (p+B.length+C.length)++[iz 19 0 0]).length):=by
    rw[hdr,hdr2,qu3];have:p+B.length+(C++qp bs[i] (p+B.length+C.length)++[iz 19 0 0]).length=p+B.length+C.length+(qp bs[i] (p+B.length+C.length)).length+1:=by simp;omega
    rw[this];simp
   rw[hgo];generalize xJ (bs.drop (i+1)) (p+B.length+(C++qp bs[i] (p+B.length+C.length)++[iz 19 0 0]).length)=Y at *;generalize qp bs[i] (p+B.length+C.length)=E at *;have b1:qAF E.length E.length=true:=by rw[nble,qBh (qAA _)]
   have b3:qAF ((B++C).length+E.length) (B++(C++E)).length=true:=by rw[nble,qBh (by simp;omega)]
   have f1:qo ((B++C).length+E.length) 80=true:=zv (by omega);have f2:qo ((B++C).length+E.length+1) 80=true:=zv (by omega);have ea:qAG (qAB (B++C).length (qd (B++C))) (qd E)=qd (B++(C++E)):=by rw[qAE (by rw[qu];exact qAA _),←qA8,yR (B++C)];rfl
   have et:qAB ((B++C).length+E.length) (qd (B++(C++E)))=qd (B++(C++E)):=qAE (by rw[qu];simp;omega);rw[qBh (show(i:Int)<((qa bs).length:Int) by simp;omega),e1,xz g0,qL hil hlen];simp -implicitDefEqProofs only[cond_true,qb,qv,qG,qF,show qAz 4 4=true from rfl,show qAF 4 4=true from rfl,q9,ew,z,xh,qa2,qu,qA5,show qAz 7 7=true from rfl,qAM,qA9,b1,b2,b3,f1,f2,ea,et,rowZ,app1,qc,wl,qBh (show(i:Int)<(bs.length:Int) - 1 by omega)]
   have h2:(B++(C++E++[iz 19 0 0])).length=(B++C).length+E.length+1:=by simp;omega
   rw[h2,show B++(C++E++[iz 19 0 0])=B++(C++E)++[iz 19 0 0] by simp]at h1;exact h1
structure RClX (c:Cl):Prop where
 hd:c.head.chk=0
 gs:∀t∈c.gs,qaQ t
 bs:∀t∈c.bs,qaQ t
theorem qqQ{c:Cl}(hx:RClX c){p:Nat}(hw:p+wCl c+2<1099511627776):
  EVo (EV cfg) 60 [.agg [.int .i64 c.head.kind,.int .i64 c.head.num,.str c.head.str,.sl (qa c.head.subs),.sl (qa c.gs),.sl (qa c.bs)],.int .i64 (p:Int)]=some (ownI (xY c p)):=by
 apply Gets.get;refine qpg _ _ _ _ _ _ _ ?_;unfold wCl at hw;have hh:=c.head.w_eq;have z:=qs4 c.head.w c.head (qAA _) hx.hd (by omega);have hl:=qbV c.head [];have hg:=qb7 c.gs (p+(vg c.head []).1.length);simp -implicitDefEqProofs only[q9,z,qb6,qb,xG,xh];refine qwi hx.gs c.head c.bs p (by have:=xw c.gs;omega) c.gs.length 0 (vg c.head []).1 (by omega) (by rw[qA4];omega) ?_
 rintro out' rfl;rw[qA4];have hal:(xf c p)=(vg c.head []).1++xM c.gs (p+(vg c.head []).1.length):=rfl;have h1:=qyR hx.bs c.head c.gs p (xf c p) (by have:=xw c.bs;omega) c.bs.length 0 [iz 18 0 0] (by omega) (by rw[qA4,hal];simp;omega);rw[qA4]at h1;rw[←hal];have h2:(xf c p++[iz 18 0 0]).length=(xf c p).length+1:=by simp
 rw[h2]at h1;exact h1
theorem qxl{c:Cl}(hc:c.head.chk=0)(h:okC c=true):RClX c:=by
 unfold okC at h;simp only[qAw,qBd,decide_eq_true_eq]at h;have hg:∀{V:List Int} {t:Tm},vP V t=0->qaQ t:=by
  intro V t h;refine qmA (V:=V) t.w t (qAA _) ?_;unfold vP at h;split at h
  ·split at h
   ·assumption
   ·exact absurd h (by decide)
  ·exact absurd h (by decide)
 exact⟨hc,λt ht=>hg (h.2.1 t ht),λt ht=>hg (h.2.2 t ht)⟩
def qaN(t:Tm):List InsA×Int:=(if(clsG t).2=0 then xA (clsG t).1 0 else[],(clsG t).2)
theorem qxx{t:Tm}(ht:t.w<549755813888):(∀x∈(qaN t).1,x.t.w<1099511627776)∧(qaN t).1.length<1099511627776:=by
 unfold qaN
 by_cases h0:(clsG t).2=0
 ·obtain⟨h1,hok⟩:=qg4 h0;have hwl:wL ((clsG t).1.map clT)<=t.w:=by
   have h2:=qlF (clsG t).1
   first|(rw[h1]at h2;exact h2)|(rw[←h1]at h2;exact h2)
  rw[qBj h0];generalize (clsG t).1=l at *;refine⟨λx hx=>?_,?_⟩
  case refine_2=>
   have:=qdT l 0;show(xA l 0).length<_;omega
  have:=qhJ l 0 (2*wL (l.map clT)) (λc hc=>by
   have h1:=qdw c;have h2:(clT c).w<=wL (l.map clT):=vV (List.mem_map_of_mem hc);omega) x hx
  omega
 ·rw[qBk h0];exact⟨λx hx=>(by cases hx),(by show([]:List InsA).length<_;simp)⟩
theorem qqP{l:List Cl}(hx:∀c∈l,RClX c)(hlen:l.length<1099511627776){P:AV->Prop}:∀(k i:Nat) (out:List InsA),i+k=l.length->out.length+2*wL ((l.drop i).map clT)<1099511627776 ->
  (∀out':List InsA,out'=out++xA (l.drop i) out.length->Gets (kOpt (EVf (EV cfg) 61 [.sl (qd out')]) fun(v:AV)=>kSl v fun(rows:List (List AV))=>some (AV.tup [.sl rows,.int .i64 (0:Int)])) P) ->
  Gets (qen (qY l) out.length (i:Int) (qd out)) P:=by
 intro k
 induction k with
 |zero=>
  intro i out hi hw h;refine qf5 _ _ _ _ ?_;unfold zD0;rw[vZ,qBi (by omega),cond_false,qu,nble,qBh (show 0+out.length<=out.length by omega)];rw[qAE (show(qd out).length<=out.length by rw[qu];exact qAA _)];exact h out (by rw[qAV (by omega),xA,List.append_nil])
 |succ k ih=>
  intro i out hi hw h;refine qf5 _ _ _ _ ?_;unfold zD0;have hil:i<l.length:=by omega
  have g0:l[i]? =some l[i]:=qAv hil;have hd:l.drop i=l[i]::l.drop (i+1):=by rw[qAT hil]
  rw[hd,qBf,qA]at hw;have hg:=qdw l[i];have hc:=qcc l[i] out.length;have e1:(qe 0 (i:Int)&&qi (i:Int) ((qY l).length:Int))=true:=by rw[vZ];simp;omega
  have z:=qqQ (hx l[i] (List.getElem_mem hil)) (p:=out.length) (by omega);have h1:=ih (i+1) (out++xY l[i] out.length) (by omega) (by rw[qAI];omega) (by
   rintro out' rfl;refine h _ ?_;rw[hd,xA];simp)
  generalize xY l[i] out.length=E at *;have b1:qAF E.length E.length=true:=by rw[nble,qBh (qAA _)]
  have b2:qAF out.length out.length=true:=by rw[nble,qBh (qAA _)]
  have f1:qo (out.length+E.length) 80=true:=zv (by omega);have ea:qAG (qAB out.length (qd out)) (qd E)=qd (out++E):=by rw[qAE (by rw[qu];exact qAA _),yR];rfl
  rw[qBh (show(i:Int)<((qY l).length:Int) by rw[vZ];omega),e1,qiY g0,qL hil hlen];simp -implicitDefEqProofs only[qb,cond_true,Cl.cells_len,Cl.cells6,show qAz 6 6=true from rfl,show qAF 6 6=true from rfl];rw[kCl];simp -implicitDefEqProofs only[z,qb,cond_true,xh,qa2,qu,qA5,show qAz 7 7=true from rfl,qAM,qA9,b1,b2,f1,ea]
  rw[qAI]at h1;exact h1
theorem quP{t:Tm}(ht:t.w<549755813888):EVf (EV cfg) 20 [t.av]=some (.tup [.sl (qd (qaN t).1),.int .i64 (qaN t).2]):=by
 have hcl:=qmX (t:=t) (by omega);apply Gets.get;rw[Tm.av,Tm.cells_eq]at hcl⊢;refine qm8 _ _ _ _ ?_;unfold qaN
 by_cases h0:(clsG t).2=0
 ·obtain⟨h1,hok⟩:=qg4 h0;have hco:=(qhL t).1;have hwl:wL ((clsG t).1.map clT)<=t.w:=by
   have h2:=qlF (clsG t).1
   first|(rw[h1]at h2;exact h2)|(rw[←h1]at h2;exact h2)
  have hlen:=(qhL t).2;rw[h0]at hcl;rw[qBj h0,h0];generalize (clsG t).1=l at *;simp -implicitDefEqProofs only[hcl,qb,qS,qD,xG,qm,qR,show((0:Int) != 0)=false from rfl,cond_false];have hx:∀c∈l,RClX c:=λc hc=>qxl (hco c hc).1 (hok.ok c hc)
  refine qqP hx (by omega) l.length 0 [] (by omega) (by rw[qA4];simp;omega) ?_;rintro out' rfl;have hcw:∀x∈xA l 0,x.t.w<1099511627776:=λx hx=>by
   have:=qhJ l 0 (2*wL (l.map clT)) (λc hc=>by
    have h1:=qdw c;have h2:(clT c).w<=wL (l.map clT):=vV (List.mem_map_of_mem hc);omega) x hx
   omega
  have ho:=qpe (l:=xA l 0) hcw (by have:=qdT l 0;omega);rw[qA4,List.nil_append,List.length_nil,ho];exact⟨_,rfl,rfl⟩
 ·have e:((clsG t).2 != 0)=true:=by simpa using h0
  rw[qBk h0];simp -implicitDefEqProofs only[hcl,qb,qS,qD,xG,qm,qR,e,cond_true];exact⟨_,rfl,rfl⟩
theorem qwa{V:List Int}{t:Tm}(h:isG V t=true)(i:Nat):qp t i≠[]:=by
 by_cases h2:t.kind=2
 ·rw[qbJ h2];split
  ·simp
  ·split
   ·simp
   ·split<;>simp
 by_cases h9:t.kind=9
 ·rw[qbI h9];simp
 by_cases h7:t.kind=7
 ·cases hl:t.subs with
  |nil=>rw[qeB h7 hl]at h;exact absurd h (by simp)
  |cons f r=>
   rw[qeA h7 hl]at h;rw[qct h7 hl];split
   ·simp
   ·rename_i f7;rw[qBk f7]at h
    by_cases f2:f.kind=2
    ·rw[qBj f2]at h;split
     ·rename_i s1;rw[qBj (show f.str=[99,111,110,115,116]from s1)]at h
      match r,h with
      |[c],_=>rw[qbL];simp
     ·rename_i s1;rw[qBk (show ¬f.str=[99,111,110,115,116]from s1),qAw]at h;have hz:(f.str=andS∨f.str=orS)->∀o:Int,yZ o r i≠[]:=by
       intro hs o;have h2r:r.length=2:=by
        have h0:=h.1;rcases hs with hs|hs<;>· rw[hs]at h0;have h0:(r.length:Int)=2:=(by simpa [opsG,qbu,qag,andS,orS]using h0);omega
       match r,h2r with
       |[a,b],_=>rw[qcm,qcM];simp
      split
      ·rename_i s2;exact hz (Or.inl s2) _
      ·split
       ·rename_i s3;exact hz (Or.inr s3) _
       ·simp
    ·rw[qBk f2]at h;exact absurd h (by simp)
 rw[qaW h2 h9 h7];simp
end Go.Proofs.YtafdkafbgohigaaGreat
end
noncomputable section
namespace Go.Proofs.YtafdkafbgohigaaGreat.N
open Go.Av
def vA{α:Type}(f:Nat):List (Nat×α)->Option α
 |[]=>none
 |p::l=>if qAz p.1 f then some p.2 else vA f l
theorem qdM{α:Type}{p:Nat->α->Prop}{f:Nat}{x:α}:∀{l:List (Nat×α)},(∀q∈l,p q.1 q.2)->vA f l=some x->p f x
 |[],_,h=>by cases h
 |q::l,ha,h=>by
  rw[vA]at h;split at h
  ·rename_i e;cases h;rw[←qAC e];exact ha q (by simp)
  ·exact qdM (λq hq=>ha q (by simp[hq])) h
theorem qaV{f:Nat}{fn:Func}:∀{l:List (Nat×Func)},z9 f l=some fn->∃p∈l,p.1=f
 |[],h=>by cases h
 |q::l,h=>by
  rw[z9]at h;split at h
  ·rename_i e;exact⟨q,by simp,qAC e⟩
  ·obtain⟨p,h1,h2⟩:=qaV h;exact⟨p,by simp[h1],h2⟩
def qsm:List (Nat×CMode):=[(45,.nfrz),(19,.nfrz),(21,.nfrz),(58,.nfrz)]
def kL:List (Nat×Unit):=[(56,()),(78,()),(154,()),(57,()),(63,()),(104,()),(105,()),(114,()),(115,()),(167,()),(62,())]
open Classical in
def qaM (args:List AV) (H:AH):Option (AV×AH):=
 match args,H with
 |[.agg [a,b,c,.sl rows]],[]=>if ∃t:Tm,t.Ok∧t.av= .agg [a,b,c,.sl rows]then some (.agg [a,b,c,.lsl rows],[])else none
 |_,_=>none
def xL:List (Nat×(List AV->AH->Option (AV×AH))):=[(45,qaM)]
def frzL:List (Nat×Nat×Nat):=[]
def qkL(f r k:Nat):List (Nat×Nat×Nat)->Bool
 |[]=>false
 |p::l=>(qAz p.1 f&&(qAz p.2.1 r&&qAz p.2.2 k))||qkL f r k l
def ext(f:Nat):Option (List AV->AH->Option (AV×AH)):=
 match vA f xL with
 |some s=>some s
 |none=>match vA f kL with
  |some _=>some (EV Go.Proofs.YtafdkafbgohigaaGreat.cfg (.f f))
  |none=>Go.Proofs.YtafdkafbgohigaaGreat.cfg.ext f
def cfg:Cfg:={ Go.Proofs.YtafdkafbgohigaaGreat.cfg with mode:=λf=>match vA f qsm with|some m=>m|none=>Go.Proofs.YtafdkafbgohigaaGreat.cfg.mode f,frz:=λf r k=>qkL f r k frzL||Go.Proofs.YtafdkafbgohigaaGreat.cfg.frz f r k,ext:=ext }
theorem qi6:qeD.all (λp=>(vA p.1 xL).isNone&&(vA p.1 kL).isNone)=true:=rfl
instance inl_ok:InlOk cfg where
 ok f fn h:=by
  have h:z9 f qeD=some fn:=h
  obtain⟨h1,h2,h3,h4⟩:=Go.Proofs.YtafdkafbgohigaaGreat.inl_ok.ok f fn h
  refine⟨?_,h2,h3,h4⟩
  obtain⟨p,hp,rfl⟩:=qaV h
  have:=qBd.1 qi6 p hp
  rw[qAw,Option.isNone_iff_eq_none,Option.isNone_iff_eq_none]at this
  show ext p.1=none
  unfold ext
  rw[this.1,this.2]
  exact h1
theorem ev_k{f:Nat}(hx:(vA f xL).isNone=true)(hk:(vA f kL).isSome=true)(args:List AV)(H:AH):EV cfg (.f f) args H=EV Go.Proofs.YtafdkafbgohigaaGreat.cfg (.f f) args H:=by
 have he:cfg.ext f=some (EV Go.Proofs.YtafdkafbgohigaaGreat.cfg (.f f)):=by
  show ext f=_;unfold ext;rw[Option.isNone_iff_eq_none]at hx;obtain⟨u,hu⟩:=Option.isSome_iff_exists.1 hk;rw[hx,hu]
 have h1:∀n,evF cfg (n+1) (.f f) args H=EV Go.Proofs.YtafdkafbgohigaaGreat.cfg (.f f) args H:=λn=>by
  show xl cfg (evF cfg n) (.f f) args H=_;unfold xl;simp only[he]
 have h0:evF cfg 0 (.f f) args H=none:=rfl;cases h:EV Go.Proofs.YtafdkafbgohigaaGreat.cfg (.f f) args H with
 |some r=>exact qkg (g:=λn=>evF cfg n (.f f) args H) (λn r h=>qdv cfg n (.f f) args H r h) (n:=1) ((h1 0).trans h)
 |none=>
  have:¬∃(n:Nat) (r:AV×AH),evF cfg n (.f f) args H=some r:=by
   rintro⟨n,r,hr⟩;cases n with
   |zero=>rw[h0]at hr;cases hr
   |succ n=>rw[h1,h]at hr;cases hr
  exact dif_neg this
theorem qnF{f:Nat}(args:List AV)(hx:(vA f xL).isNone=true)(hk:(vA f kL).isSome=true):EVs (EV cfg) f args=EVs (EV Go.Proofs.YtafdkafbgohigaaGreat.cfg) f args:=by unfold EVs;rw[ev_k hx hk]
theorem qnH{f:Nat}(args:List AV)(hx:(vA f xL).isNone=true)(hk:(vA f kL).isSome=true):EVf (EV cfg) f args=EVf (EV Go.Proofs.YtafdkafbgohigaaGreat.cfg) f args:=by unfold EVf;rw[ev_k hx hk]
theorem qw1{f:Nat}(args:List AV)(hx:(vA f xL).isNone=true)(hk:(vA f kL).isSome=true):EVo (EV cfg) f args=EVo (EV Go.Proofs.YtafdkafbgohigaaGreat.cfg) f args:=by unfold EVo;rw[ev_k hx hk]
theorem qsU{f:Nat}(args:List AV)(hx:(vA f xL).isNone=true)(hk:(vA f kL).isSome=true):EVw (EV cfg) f args=EVw (EV Go.Proofs.YtafdkafbgohigaaGreat.cfg) f args:=by unfold EVw;rw[ev_k hx hk]
theorem qnG{f:Nat}(k:Nat)(args:List AV)(G:AH)(hx:(vA f xL).isNone=true)(hk:(vA f kL).isSome=true):EVj (EV cfg) f k args G=EVj (EV Go.Proofs.YtafdkafbgohigaaGreat.cfg) f k args G:=by unfold EVj;rw[ev_k hx hk]
def qxX:Den:=evC cfg (EV cfg) 58 none 0 (sub (qg Tryz.f58) [1,1,0,1,0,0])
def qyh:Ex×List AV×AH->Option AV:=kAft (Cfg.keepOut cfg 58 3) (kRun cfg (EV cfg) (kfN cfg 6) 58 none 0 (qsz cfg (Cfg.lift cfg 58 0) Tryz.f58.results.toList) ([.block 0,.seq (sub (qg Tryz.f58) [1,1,1])]))
def qry:List AV×AH->Option AV:=λp=>kOpt (LOOP 0 (some [3,8,9]) ([]) qxX p) qyh
def qxY:Den:=evC cfg (EV cfg) 19 none 0 (sub (qg Tryz.f19) [1,1,1,1,0,1,0,0])
def qyi:Ex×List AV×AH->Option AV:=kAft (Cfg.keepOut cfg 19 6) (kRun cfg (EV cfg) (kfN cfg 6) 19 none 0 (qsz cfg (Cfg.lift cfg 19 0) Tryz.f19.results.toList) ([.block 0,.seq (sub (qg Tryz.f19) [1,1,1,1,1])]))
def qrz:List AV×AH->Option AV:=λp=>kOpt (LOOP 0 (some [6,19,20,21]) ([]) qxY p) qyi
abbrev qxc(v9:Int):Option (AV):=qry (((fx 24 [(3,.nilS),(8,.int .i64 (0:Int)),(9,.int .i64 v9)]):List AV),([]:AH))
abbrev qeT(sz off len:Nat)(v9:Int)(h0:Rz):Option (AV):=qry (((fx 24 [(3,.ms 0 off len),(8,.int .i64 (↑len:Int)),(9,.int .i64 v9)]):List AV),([.rows true sz h0]:AH))
abbrev qq8(rows:Rz)(v21:Int):Option (AV):=qrz (((fx 34 [(6,.ptr 0 0 0),(19,.sl rows),(20,.int .i64 (rows.length:Int)),(21,.int .i64 v21)]):List AV),([.rows false 1 [[.nilS]]]:AH))
abbrev qiR(rows:Rz)(v21:Int)(nc0_0:Nat)(h1:Rz):Option (AV):=qrz (((fx 34 [(6,.ptr 0 0 0),(19,.sl rows),(20,.int .i64 (rows.length:Int)),(21,.int .i64 v21)]):List AV),([.rows false 1 [[.ms 1 0 nc0_0]],.rows true 7 h1]:AH))
theorem qvO(L:Rz){P:AV->Prop}(h:Gets (kOpt (EVo (EV cfg) 78 [.sl L]) λo=>kOwn o (qxc 0) λsz rs off len=>qeT sz off len 0 rs) P):Gets (EVn (EV cfg) 58 [.sl L]) P:=
  gE (λ_=>funN rfl rfl Tryz.func58 rfl) (by kernel_rfl) h
theorem qg2(kt nt:Int)(st:Bz)(lt:Rz){P:AV->Prop}(h:Gets (kOpt (EVf (EV cfg) 56 [.agg [.int .i64 kt,.int .i64 nt,.str st,.sl lt]]) λv=>kTup v λcs=>qf cs λc cs=>kSl c λrows=>qf cs λc cs=>kInt .i64 c λn=>kNil cs (bif n != 0 then some (AV.tup [.sl [],.int .i64 n])else qq8 rows 0)) P):Gets (EVn (EV cfg) 19 [.agg [.int .i64 kt,.int .i64 nt,.str st,.sl lt]]) P:=
  gE (λ_=>funN rfl rfl Tryz.func19 rfl) (by kernel_rfl) h
abbrev zI0(V:AV):Option (AV):=kSl V λrows=>some (AV.tup [.sl rows,.int .i64 0])
theorem qvp(kt nt:Int)(st:Bz)(lt V:Rz){P:AV->Prop}(h:Gets (kOpt (EVs (EV cfg) 62 [.agg [.int .i64 kt,.int .i64 nt,.str st,.sl lt],.sl V]) λv=>kInt .i64 v λn=>bif n != 0 then some (AV.tup [.sl [],.int .i64 n])else kOpt (EVj (EV cfg) 63 1 [.ptr 0 0 0,.agg [.int .i64 kt,.int .i64 nt,.str st,.sl lt]] [.rows false 1 [[.ms 1 0 0]],.rows true 7 []]) λq=>qC q.2 λb bs=>qE b λd' n rs=>bif beqB false d'&&qAz n 1 then q7 rs λrow rest=>vw rest (qC bs λb bs=>qE b λd' n rs=>bif beqB true d'&&qAz n 7 then vL bs (qf row λc cs=>kMsE c λid off len=>bif qAz id 1&&(qAz off 0&&qAz len (qAt rs))then kNil cs (bif qAF (0+qAt rs) (qAt rs)&&true then kOpt (EVn (EV cfg) 58 [.sl (qAB (qAt rs) rs)]) λV=>zI0 V else none)else none)else none)else none) P):Gets (EVn (EV cfg) 21 [.agg [.int .i64 kt,.int .i64 nt,.str st,.sl lt],.sl V]) P:=
  gE (λ_=>funN rfl rfl Tryz.func21 rfl) (by kernel_rfl) h
theorem qfA(sz off len:Nat)(v9:Int)(h0:Rz){P:AV->Prop}(h:Gets (bif decide (v9<(↑ len:Int))then bif qAz sz 7&&qe 0 v9&&qi v9 (↑ len:Int)then kOpt (qAu h0 (off+v9.toNat)) λrow=>bif qAF 7 (qAt row)then qf (qAB 4 (qAO 3 row)) λc cs=>kInt .i64 c λn=>qf cs λc cs=>kInt .i64 c λn_1=>qf cs λc cs=>kStr c λs=>qf cs λc cs=>kSl c λrows=>kNil cs (kOpt (EVn (EV cfg) 45 [.agg [.int .i64 n,.int .i64 n_1,.str s,.sl rows]]) λV=>kTmV V λn n_2 s rows=>(bif qAz sz 7&&qe 0 v9&&qi v9 (↑ len:Int)then kOpt (qAu h0 (off+v9.toNat)) λrow=>bif qAF 7 (qAt row)then qeT sz off len (qAH .i64 (v9+1)) (List.set h0 (off+v9.toNat) (qAG (qAG (qAB 3 row) [AV.int .i64 n,.int .i64 n_2,.str s,AV.lsl rows]) (qAO 7 row)))else none else none))else none else none else bif qAF (off+len) (qAt h0)then kOpt (unlR (qAB len (qAO off h0))) λrows=>some (.sl rows)else none) P):Gets (qeT sz off len v9 h0) P:=
  gE (λ_=>qt (cfg:=cfg) (f:=58) (rd:=none) (bs:=0)) (by kernel_rfl) h
abbrev zI5(rest:Rz)(bs:AH)(row:List AV)(rows:Rz)(v21:Int):Option (AV):=vw rest (qC bs λb bs=>qE b λd' n rs=>bif beqB true d'&&qAz n 7 then vL bs (qf row λc cs=>kMsE c λid off len=>bif qAz id 1&&(qAz off 0&&qAz len (qAt rs))then kNil cs (qiR rows (qAH .i64 (v21+1)) (qAt rs) rs)else none)else none)
abbrev zI4(rs:Rz)(bs:AH)(rows:Rz)(v21:Int):Option (AV):=q7 rs λrow rest=>zI5 rest bs row rows v21
abbrev zI3(d':Bool)(n:Nat)(rs:Rz)(bs:AH)(rows:Rz)(v21:Int):Option (AV):=bif beqB false d'&&qAz n 1 then zI4 rs bs rows v21 else none
abbrev zI2(b:ABlk)(bs:AH)(rows:Rz)(v21:Int):Option (AV):=qE b λd' n rs=>zI3 d' n rs bs rows v21
abbrev zI1(q:AV×AH)(rows:Rz)(v21:Int):Option (AV):=qC q.2 λb bs=>zI2 b bs rows v21
theorem qnY(rows:Rz)(v21:Int){P:AV->Prop}(h:Gets (bif decide (v21<(rows.length:Int))then bif qe 0 v21&&qi v21 (rows.length:Int)then kOpt (qAu rows (v21.toNat)) λrow=>bif qAz (qAt row) 6 then bif qAF 6 (qAt row)then qf (qAB 6 row) λc cs=>kInt .i64 c λn=>qf cs λc cs=>kInt .i64 c λn_1=>qf cs λc cs=>kStr c λs=>qf cs λc cs=>kSl c λrows_1=>qf cs λc cs=>kSl c λrows_2=>qf cs λc cs=>kSl c λrows_3=>kNil cs (kOpt (EVj (EV cfg) 57 1 [.ptr 0 0 0,.agg [.int .i64 n,.int .i64 n_1,.str s,.sl rows_1,.sl rows_2,.sl rows_3]] [.rows false 1 [[.ms 1 0 0]],.rows true 7 []]) λq=>zI1 q rows v21)else none else none else none else kOpt (EVn (EV cfg) 58 [.sl []]) λV=>zI0 V) P):Gets (qq8 rows v21) P:=
  gE (λ_=>qt (cfg:=cfg) (f:=19) (rd:=none) (bs:=0)) (by kernel_rfl) h
theorem qfB(rows:Rz)(v21:Int)(nc0_0:Nat)(h1:Rz){P:AV->Prop}(h:Gets (bif decide (v21<(rows.length:Int))then bif qe 0 v21&&qi v21 (rows.length:Int)then kOpt (qAu rows (v21.toNat)) λrow=>bif qAz (qAt row) 6 then bif qAF 6 (qAt row)then qf (qAB 6 row) λc cs=>kInt .i64 c λn=>qf cs λc cs=>kInt .i64 c λn_1=>qf cs λc cs=>kStr c λs=>qf cs λc cs=>kSl c λrows_1=>qf cs λc cs=>kSl c λrows_2=>qf cs λc cs=>kSl c λrows_3=>kNil cs (kOpt (EVj (EV cfg) 57 1 [.ptr 0 0 0,.agg [.int .i64 n,.int .i64 n_1,.str s,.sl rows_1,.sl rows_2,.sl rows_3]] [.rows false 1 [[.ms 1 0 nc0_0]],.rows true 7 h1]) λq=>zI1 q rows v21)else none else none else none else bif qAF (0+nc0_0) (qAt h1)&&true then kOpt (EVn (EV cfg) 58 [.sl (qAB nc0_0 h1)]) λV=>zI0 V else none) P):Gets (qiR rows v21 nc0_0 h1) P:=
  gE (λ_=>qt (cfg:=cfg) (f:=19) (rd:=none) (bs:=0)) (by kernel_rfl) h
end Go.Proofs.YtafdkafbgohigaaGreat.N
end
noncomputable section
namespace Go.Proofs.YtafdkafbgohigaaGreat
open Go.Av
def qxU:Den:=evC cfg (EV cfg) 94 none 1 (sub (qg Tryz.f94) [1,1,1,0,1,0,0])
def qye:Ex×List AV×AH->Option (AV×List (List AV)):=kAft (Cfg.keepOut cfg 94 6) (kRun cfg (EV cfg) (kfN cfg 6) 94 none 1 (qsy cfg 1 (Cfg.lift cfg 94 0) Tryz.f94.results.toList) ([.block 0,.seq (sub (qg Tryz.f94) [1,1,1,1])]))
def qxF:List AV×AH->Option (AV×List (List AV)):=λp=>kOpt (LOOP 1 (some [1,2,3,4,18,19,20]) ([]) qxU p) qye
abbrev qhi(lt:Rz)(v20 c1_0 c1_1:Int)(c1_2:Bz)(c2_0 c2_1:Int)(c2_2:Bz)(c2_3 h3:Rz):Option (AV×List (List AV)):=qxF (((fx 35 [(1,.ptr 0 0 0),(2,.ptr 1 0 0),(3,.ptr 2 0 0),(4,.ms 3 0 (qAR (lt.length:Int))),(18,.lsl lt),(19,.int .i64 (lt.length:Int)),(20,.int .i64 v20)]):List AV),([.rows false 1 [[.fn (Fn.func 94) [] [.ptr 0 0 0]]],.rows false 4 [[.int .i64 c1_0,.int .i64 c1_1,.str c1_2,.lsl lt]],.rows false 4 [[.int .i64 c2_0,.int .i64 c2_1,.str c2_2,.sl c2_3]],.rows true 4 h3]:AH))
theorem qly(kt:Int)(nt:Int)(st:Bz)(lt:Rz){P:AV->Prop}(h:Gets (kOpt (EVk (EV cfg) 94 [.agg [AV.int .i64 kt,.int .i64 nt,.str st,AV.lsl lt],.ptr 0 0 0] 1 [[AV.fn (Fn.func 94) [] [.ptr 0 0 0]]]) fun(q:AV)=>kTmV q fun(n n_1:Int) (s:List 
  UInt8) (rows:Rz)=>(some (.agg [AV.int .i64 n,.int .i64 n_1,.str s,.sl rows]))) P):Gets (EVf (EV cfg) 45 ([AV.agg [AV.int IntKind.i64 kt,AV.int IntKind.i64 nt,AV.str st,AV.lsl lt]]:List AV)) P:=
  Gets.ev (λ_ h=>funF rfl rfl Tryz.func45 rfl h) (Gets.eq (by kernel_rfl) h)
theorem qqR(kt nt:Int)(st:Bz)(lt:Rz){P:AV×List (List AV)->Prop}(h:Gets (bif(lt.length:Int)==0 then bif AV.refsLt 0 (.agg [.int .i64 kt,.int .i64 nt,.str st,.sl []])then some (.agg [.int .i64 kt,.int .i64 nt,.str st,.sl []],[[AV.fn (Fn.func 94) [] [.ptr 0 0 0]]])else none else bif qe 0 (lt.length:Int)&&qe (lt.length:Int) (lt.length:Int)&&qe ((↑ (qAt lt):Int)*56) 140737488355328&&qe (lt.length:Int) 9223372036854775807 then qhi lt 0 kt nt st 0 0 [] [] (qAU (qAR (lt.length:Int)) [AV.int .i64 0,.int .i64 0,.str [],.nilS])else none) P):Gets (EVx (EV cfg) 94 [.agg [.int .i64 kt,.int .i64 nt,.str st,.lsl lt],.ptr 0 0 0] 1 [[(AV.fn (Fn.func 94) [] [AV.ptr 0 0 0])]]) P:=
  gE (λ_=>funX rfl rfl Tryz.func94 rfl) (by kernel_rfl) h
theorem qfZ(lt:Rz)(v20 c1_0 c1_1:Int)(c1_2:Bz)(c2_0 c2_1:Int)(c2_2:Bz)(c2_3 h3:Rz){P:AV×List (List AV)->Prop}(h:Gets (bif decide (v20<(lt.length:Int))then bif qe 0 v20&&qi v20 (lt.length:Int)then kOpt (qAu lt (v20.toNat)) λrow=>bif qAz (qAt row) 4 then bif qAF 4 (qAt row)then kTmC (qAB 4 row) λn n_1 s rows=>(kOpt (EVk (EV cfg) 94 [.agg [.int .i64 n,.int .i64 n_1,.str s,AV.lsl rows],.ptr 0 0 0] 1 [[AV.fn (Fn.func 94) [] [.ptr 0 0 0]]]) λq=>kTmV q λn n_2 s rows=>(bif qe 0 v20&&qi v20 (↑ (qAR (lt.length:Int)):Int)then kOpt (qAu h3 (0+v20.toNat)) λrow=>bif qAF 4 (qAt row)then qhi lt (qAH .i64 (v20+1)) c1_0 c1_1 c1_2 c2_0 c2_1 c2_2 c2_3 (List.set h3 (0+v20.toNat) (.int .i64 n:: .int .i64 n_2:: .str s:: .sl rows::qAO 4 row))else none else none))else none else none else none else bif qAF (0+qAR (lt.length:Int)) (qAt h3)&&true then some (.agg [.int .i64 c1_0,.int .i64 c1_1,.str c1_2,.sl (qAB (qAR (lt.length:Int)) h3)],[[AV.fn (Fn.func 94) [] [.ptr 0 0 0]]])else none) P):Gets (qhi lt v20 c1_0 c1_1 c1_2 c2_0 c2_1 c2_2 c2_3 h3) P:=
  gE (λ_=>qt (cfg:=cfg) (f:=94) (rd:=none) (bs:=1)) (by kernel_rfl) h
def avL(t:Tm):AV:=.agg [.int .i64 t.kind,.int .i64 t.num,.str t.str,.lsl (qa t.subs)]
theorem qle(k n:Int)(s:List UInt8)(l:List Tm):avL (Tm.mk k n s l)= .agg [.int .i64 k,.int .i64 n,.str s,.lsl (qa l)]:=rfl
theorem qs8(t:Tm):t.Ok->EVx (EV cfg) 94 [avL t,.ptr 0 0 0] 1 yD=some (t.av,yD):=by
 induction t using Tm.ind with
 |_ k n s l ih=>
  intro hok;have hlen:=hok.len;have loop:∀(d i:Nat),i+d=l.length->Gets (qhi (qa l) i k n s 0 0 [] [] (qa (l.take i)++qAU d [.int .i64 0,.int .i64 0,.str [],.nilS])) (·=((Tm.mk k n s l).av,yD)):=by
   intro d
   induction d with
   |zero=>
    intro i hi;refine qfZ _ _ _ _ _ _ _ _ _ _ ?_;obtain rfl:i=l.length:=by omega
    have e:l.take l.length=l:=qAE (qAA _);rw[e];simp;rfl
   |succ d ihd=>
    intro i hi;refine qfZ _ _ _ _ _ _ _ _ _ _ ?_;have hil:i<l.length:=by omega
    have hx:l[i]? =some l[i]:=qAv hil;have hxl:=qAJ hx;have hix:=qlo (ih l[i] hxl (hok.sub hxl));have hih:=ihd (i+1) (by omega);have hw:=qtC hil hlen;have e1:l.take (i+1)=l.take i++[l[i]]:=by rw[List.take_add_one,hx];rfl
    have ht:(qa (l.take i)).length=i:=by rw[qc,qA6];omega
    have g:(qa (l.take i)++qAU (d+1) [AV.int .i64 0,.int .i64 0,.str [],.nilS])[i]? =some [AV.int .i64 0,.int .i64 0,.str [],.nilS]:=by
     rw[qAP (by omega),ht,Nat.sub_self];rfl
    have g2:(qa (l.take i)++qAU (d+1) [AV.int .i64 0,.int .i64 0,.str [],.nilS]).set i l[i].cells=qa (l.take (i+1))++qAU d [AV.int .i64 0,.int .i64 0,.str [],.nilS]:=by
     rw[List.set_append_right _ _ (by omega),e1,vH,qK,vj];have e3:i - (qa (l.take i)).length=0:=by omega
     rw[e3,List.replicate_succ,List.set_cons_zero,qA8];rfl
    simp only[yD,avL]at hix;simp[hil,hix,g,hw];rw[g2]
    simpa using hih
  apply Gets.get;rw[Tm.av_mk,qle];refine qqR _ _ _ _ ?_;rw[qc]
  by_cases hl:l.length=0
  ·have:l=[]:=List.length_eq_zero_iff.1 hl;subst this;simp[yD,AV.refsLt,qz]
  ·have hl':((l.length:Int)==0)=false:=by rw[beqD];exact qBi (by omega)
   have h56:qe ((l.length:Int)*56) 140737488355328=true:=by simp[qe];omega
   have hm:qe (l.length:Int) 9223372036854775807=true:=by simp[qe];omega
   have hz:qe 0 (l.length:Int)=true:=qI _;have hs:qe (l.length:Int) (l.length:Int)=true:=by simp[qe]
   rw[hl',h56,hm,hz,hs];have:=loop l.length 0 (by omega);rw[Tm.av_mk]at this
   simpa using this
theorem qpi{t:Tm}(h:t.Ok):EVf (EV cfg) 45 [avL t]=some t.av:=by
 have h1:=qlo (qs8 t h);obtain⟨k,n,s,l⟩:=t;rw[Tm.av_mk,qle]at h1⊢;apply Gets.get;refine qly _ _ _ _ ?_;simp only[yD]at h1;rw[h1];simp[←Tm.av_mk]
def avR(id:Nat)(t:Tm):AV:=.agg [.int .i64 t.kind,.int .i64 t.num,.str t.str,.rsl id (qa t.subs)]
theorem qtY{L:Lent}{C:qh}{μ:MMap}(l:List Tm)(ih:∀t∈l,∀v,@Rep L C μ (.sl (qa t.subs)) v->Rep0 C (.sl (qa t.subs)) v){v:Value}(h: @Rep L C μ (.sl (qa l)) v):Rep0 C (.sl (qa l)) v:=by
 generalize hR:qa l=R at h;cases h with
 |slNil=>exact .slNil
 |sl _ a cap sz vals hs hsz hc hr hcell hcap hfree=>
  refine .sl R a cap sz vals hs hsz hc (λi j row x h1 h2=>?_) hcell hcap hfree;have hrep:=hr i j row x h1 h2;rw[←hR,yQ]at h1;cases hl:l[i]? with
  |none=>rw[hl]at h1;cases h1
  |some t=>
   rw[hl]at h1;cases h1;obtain⟨k,n,s,l'⟩:=t;rw[Tm.cells_mk]at h2
   match j,h2 with
   |0,h2=>cases h2;generalize vals i 0=u at hrep⊢;cases hrep;exact .int _ _
   |1,h2=>cases h2;generalize vals i 1=u at hrep⊢;cases hrep;exact .int _ _
   |2,h2=>cases h2;generalize vals i 2=u at hrep⊢;cases hrep;exact .str _
   |3,h2=>cases h2;exact ih _ (qAJ hl) _ hrep
   |j+4,h2=>simp at h2
theorem qlH{L:Lent}{C:qh}{μ:MMap}(t:Tm):∀v,@Rep L C μ (.sl (qa t.subs)) v->Rep0 C (.sl (qa t.subs)) v:=by
 induction t using Tm.ind with
 |_ k n s l ih=>exact λv h=>qtY l ih h
theorem Rep0.claims{D D':qh}{a:AV}{v:Value}(hD:∀b o v,D b o=some v->D' b o=some v)(h:Rep0 D a v):Rep0 D' a v:=by
 induction h with
 |int k n=>exact .int k n
 |bool b=>exact .bool b
 |str s=>exact .str s
 |nilS=>exact .nilS
 |slNil=>exact .slNil
 |em a cap=>exact .em a cap
 |sl rows a cap sz vals hs hsz hc _ hcell hcap hfree ih=>exact .sl rows a cap sz vals hs hsz (λi j row x h1 h2=>hD _ _ _ (hc i j row x h1 h2)) ih hcell hcap hfree
@[reducible] def xq(L:Lent)(C:qh)(w:World):Lent:=⟨λb o=>match C b o with|some v=>some v|none=>L.l b o,True,λb=>w.heap.size<=b,λ_=>none⟩
theorem qyI{L:Lent}{C:qh}{w:World}{b o:Nat}{v:Value}(h:C b o=some v)(hb:b<w.heap.size): @LC (xq L C w) (λ_ _=>none) b o=some v:=by
 unfold LC;refine(qBk (Nat.not_le.2 hb)).trans ?_;show(match C b o with|some v=>some v|none=>L.l b o)=some v;rw[h]
theorem qrV{D:qh}{l:List Tm}{v:Value}(h:Rep0 D (.sl (qa l)) v)(hl:qa l≠[]):∃b o,D b o≠none:=by
 generalize hR:qa l=R at h;cases h with
 |slNil=>exact absurd hR hl
 |sl _ a cap sz vals hs hsz hc hr hcell hcap hfree=>
  cases l with
  |nil=>exact absurd (by rw[qa]) hl
  |cons t l=>
   obtain⟨k,n,s,l'⟩:=t;have h1:R[0]? =some [.int .i64 k,.int .i64 n,.str s,.sl (qa l')]:=by rw[←hR,yQ];exact congrArg some (Tm.cells_mk k n s l')
   exact⟨_,_,by rw[hc 0 0 _ _ h1 rfl];simp⟩
theorem qx7{cf:Orac}{f:Nat}{al:List AV}{v:AV}(h:EVf cf f al=some v):∃r H,cf (.f f) al []=some (r,H)∧(r.frz r.msIds H).fg=v:=by
 unfold EVf at h;cases hc:cf (.f f) al []with
 |none=>rw[hc]at h;cases h
 |some q=>rw[hc]at h;exact⟨q.1,q.2,rfl,Option.some.inj h⟩
theorem qmp[Lent](hu:Lent.u){f:FuncId}{al:List AV}{k n:Int}{s:List UInt8}{l:List Tm}(he:EVf (EV cfg) f al=some (Tm.mk k n s l).av){w:World}{vs:Array Value}(hw:Wld (λ_=>λ_=>none) (λ_=>none) [] w)(ha:qw (λ_=>λ_=>none) (λ_=>none) al vs):
  vF Tryz.prog (callFunc f vs) w (λv w1=>∃(D:qh) (v3:Value),v= .agg [.int .i64 k,.int .i64 n,.string ⟨s.toArray⟩,v3].toArray∧Rep0 D (.sl (qa l)) v3∧(∀b o u,D b o=some u->w1.cell? ⟨b,o,none⟩=some u∧w1.frozen? ⟨b,o,none⟩=false∧w.heap.size<=b) ∧
   (∀b,b<w.heap.size->w1.heap[b]? =w.heap[b]?)∧w.heap.size<=w1.heap.size∧w1.os=w.os∧w1.tape=w.tape∧w1.output=w.output):=by
 have he2:=qx7 he;clear he;obtain⟨qr,qH,hq,hqe⟩:=he2;have hO:=qb0 qaX;have hcall:=hO.calls _ _ _ _ _ hq (λ_=>λ_=>none) (λ_=>none) w vs _ ha hw rfl;refine hcall.mono λv w1 ⟨C2,μ2,e1,e2,e3⟩=>?_
 obtain⟨C3,a1,a2,a3⟩:=xj qr.msIds e2;have x:=e3.trans (a3 0 (Nat.zero_le _)) (qAA _);have r1:Rep C3 μ2 (Tm.mk k n s l).av v:=by
  rw[←hqe];exact((e1.mono a1 (λ_ _ h=>h)).frzA (xP.of a2)).fgA
 rw[Tm.av_mk]at r1;cases r1 with
 |agg _ us hl hh=>
 match us,hl,hh with
 |[u0,u1,u2,u3],_,hh=>
 have h0:Rep0 C3 (.sl (qa l)) u3:=qlH (.mk k n s l) u3 (hh 3 _ _ rfl rfl);have q0:=hh 0 _ _ rfl rfl;have q1:=hh 1 _ _ rfl rfl;have q2:=hh 2 _ _ rfl rfl;cases q0;cases q1;cases q2;have hge:∀b o u,C3 b o=some u->w.heap.size<=b:=λb o u h=>by
  rcases Nat.lt_or_ge b w.heap.size with hb|hb
  ·have h5:=(x.fr b hb vI).2.2;rw[h5]at h;cases h
  ·exact hb
 exact⟨C3,u3,rfl,h0,λb o u h=>⟨a2.cl b o u h,a2.lnt.2.1 hu b o u (hw.lnt.2.2 b (hge b o u h)) h,hge b o u h⟩,λb hb=>(x.fr b hb vI).1,x.size,x.os,x.tape,x.output⟩
theorem qvK[L:Lent]{f:FuncId}{al:List AV}{t:Tm}(he:EVf (EV cfg) f al=some t.av){C:qh}{w:World}{vs:Array Value}(hw:Wld C (λ_=>none) [] w)(ha': @qw (xq L C w) (λ_=>λ_=>none) (λ_=>none) al vs):
  vF Tryz.prog (callFunc f vs) w (xc C (λ_=>none) [] w (avR 0 t) [.reg]):=by
 have hlent:∀b o v,(xq L C w).l b o=some v->w.cell? ⟨b,o,none⟩=some v∧∀ob,(xq L C w).k b=some ob->w.heap[b]? =some ob:=λb o v h=>by
  have h:(match C b o with|some v=>some v|none=>L.l b o)=some v:=h;split at h
  ·rename_i u hu;cases h;exact⟨hw.cl _ _ _ hu,λ_ h=>(nomatch h)⟩
  ·exact⟨(hw.lnt.1 _ _ _ h).1,λ_ h=>(nomatch h)⟩
 have hw': @Wld (xq L C w) (λ_=>λ_=>none) (λ_=>none) [] w:=
  @Wld.mk (xq L C w) _ _ _ _ (λb o v h=>(nomatch h)) (λid m hm=>(nomatch hm)) (λid hi=>rfl) (λid blk h1=>(by simp at h1)) (λid d sz rs h1=>(by simp at h1)) (λi i' b b' m m' h1=>(by simp at h1)) yA.nil ⟨hlent,λ_ b o v _ h=>(nomatch h),λb hb=>hb⟩
 obtain⟨k,n,s,l⟩:=t;refine(@qmp (xq L C w) trivial _ _ _ _ _ _ he _ _ hw' ha').mono λv w1 ⟨C3,u3,hv,h0,hD,old,hsz,hos,htp,hou⟩=>?_
 subst hv;have hw1:Wld C (λ_=>none) [] w1:=hw.world hsz old;have fin:∀μ':MMap,(qa l≠[]->∃m,μ' 0=some m∧m.D=C3)->Rep C μ' (avR 0 (.mk k n s l)) (.agg [.int .i64 k,.int .i64 n,.string ⟨s.toArray⟩,u3].toArray):=by
  intro μ' hm;refine Rep.agg _ [.int .i64 k,.int .i64 n,.string ⟨s.toArray⟩,u3] rfl (λi a v h1 h2=>?_)
  match i,h1,h2 with
  |0,h1,h2=>cases h1;cases h2;exact .int _ _
  |1,h1,h2=>cases h1;cases h2;exact .int _ _
  |2,h1,h2=>cases h1;cases h2;exact .str _
  |3,h1,h2=>cases h1;cases h2;exact .rsl 0 _ _ C3 hm h0
  |i+4,h1,h2=>simp at h1
 by_cases hex:∃b o,C3 b o≠none
 ·obtain⟨b0,o0,hb0⟩:=hex;have hhas:∀b,(MI.mk b0 0 0 0 C3).has b->∃o u,C3 b o=some u:=by
   rintro b (h|⟨o,h⟩)
   ·have:b0=b:=h;subst this;cases hc:C3 b0 o0 with
    |none=>exact absurd hc hb0
    |some u=>exact⟨o0,u,hc⟩
   ·cases hc:C3 b o with
    |none=>exact absurd hc h
    |some u=>exact⟨o,u,hc⟩
  have hge:∀b,(MI.mk b0 0 0 0 C3).has b->w.heap.size<=b:=λb hb=>by
   obtain⟨o,u,hc⟩:=hhas b hb;exact(hD b o u hc).2.2
  have hlt:∀b,(MI.mk b0 0 0 0 C3).has b->b<w1.heap.size:=λb hb=>by
   obtain⟨o,u,hc⟩:=hhas b hb;exact World.block_lt_of_cell? w1 ⟨b,o,none⟩ ((hD b o u hc).1)
  obtain⟨n1,n2,n3,n4,n5⟩:=hw1.new (nid:=none) (k:=0) (H':=[.reg]) (blk:=.reg) (m:=MI.mk b0 0 0 0 C3) rfl (λb hb=>vI) hlt
   (λb hb o=>by
    cases hc:C b o with
    |none=>rfl
    |some u=>have h5:=hw.block_lt hc;have h6:=hge b hb;omega)
   (λb hb=>hw.lent_none (hge b hb)) rfl (λb o u hd=>⟨(hD b o u hd).1,(hD b o u hd).2.1⟩)
  refine⟨C,_,fin _ (λ_=>⟨_,by unfold upd;rw[qBj rfl],rfl⟩),n1,⟨hos,htp,hou,hsz,λ_ _ _ h=>h,λid m _ hm=>(nomatch hm),λb hb hnl=>⟨old b hb,λhl=>?_,rfl⟩,Nat.zero_le _⟩⟩;rcases n4 b hl with h|h
  ·exact vI h
  ·have:=hge b h;omega
 ·obtain⟨n1,n2⟩:=hw1.newV (nid:=none) (k:=0) (H':=[.reg]) (blk:=.reg) rfl rfl rfl trivial;have n3:=n2 0 (Nat.zero_le _);refine⟨C,_,fin (λ_=>none) (λhne=>absurd (qrV h0 hne) hex),n1,⟨hos,htp,hou,hsz,λ_ _ _ h=>h,λid m _ hm=>(nomatch hm),λb hb hnl=>⟨old b hb,λhl=>?_,rfl⟩,Nat.zero_le _⟩⟩;obtain⟨i,bi,mi,h1,h2,h3,h4⟩:=hl;cases h3
theorem qmC[L:Lent]{t:Tm}{C:qh}{w:World}{vs:Array Value}(hw:Wld C (λ_=>none) [] w)(ha:qw C (λ_=>none) [t.av] vs): @qw (xq L C w) (λ_=>λ_=>none) (λ_=>none) [avL t] vs:=by
 obtain⟨h1,h2⟩:=ha;refine⟨by simpa using h1,λi a v hi hv=>?_⟩
 match i,hi with
 |0,hi=>
  cases hi;have h3:=h2 0 t.av v rfl hv;obtain⟨k,n,s,l⟩:=t;rw[Tm.av_mk]at h3;rw[qle];cases h3 with
  |agg _ us hl hh=>
   refine @Rep.agg (xq L C w) _ _ _ us hl (λi a v h1 h2=>?_)
   match i,h1 with
   |0,h1=>cases h1;have h4:=hh 0 _ v rfl h2;cases h4;exact @Rep.int (xq L C w) _ _ _ _
   |1,h1=>cases h1;have h4:=hh 1 _ v rfl h2;cases h4;exact @Rep.int (xq L C w) _ _ _ _
   |2,h1=>cases h1;have h4:=hh 2 _ v rfl h2;cases h4;exact @Rep.str (xq L C w) _ _ _
   |3,h1=>
    cases h1;have h4:=hh 3 _ v rfl h2;exact @Rep.lsl (xq L C w) _ _ _ _ (Rep0.claims (λb o v h=>qyI h (hw.block_lt h)) (qlH (.mk k n s l) v h4))
   |i+4,h1=>simp at h1
 |i+1,hi=>simp at hi
theorem qwj[L:Lent]{t:Tm}(hok:t.Ok){C:qh}{w:World}{vs:Array Value}(hw:Wld C (λ_=>none) [] w)(ha:qw C (λ_=>none) [t.av] vs):
  vF Tryz.prog (callFunc 45 vs) w (xc C (λ_=>none) [] w (avR 0 t) [.reg]):=by
 exact qvK (f:=45) (al:=[avL t]) (qpi hok) hw (qmC hw ha)
end Go.Proofs.YtafdkafbgohigaaGreat
end
noncomputable section
namespace Go.Av
def zo(a:AV):Prop:=∀(L L':Lent) (C:qh) (μ:MMap) (v:Value),@Rep L C μ a v->@Rep L' C μ a v
theorem zo.int(k:IntKind)(n:Int):zo (.int k n):=λL L' C μ v h=>by cases h;exact @Rep.int L' _ _ _ _
theorem zo.bool(b:Bool):zo (.bool b):=λL L' C μ v h=>by cases h;exact @Rep.bool L' _ _ _
theorem zo.str(s:List UInt8):zo (.str s):=λL L' C μ v h=>by cases h;exact @Rep.str L' _ _ _
theorem zo.sl{rows:List (List AV)}(h0:∀(L:Lent) (C:qh) (μ:MMap) (v:Value),@Rep L C μ (.sl rows) v->Rep0 C (.sl rows) v):zo (.sl rows):=λL L' C μ v h=> @Rep0.rep C μ L' C _ _ (λ_ _ _ h=>h) (h0 L C μ v h)
theorem zo.agg{cs:List AV}(h:∀a∈cs,zo a):zo (.agg cs):=λL L' C μ v hr=>by
 cases hr with
 |agg _ us hl hh=>exact @Rep.agg L' _ _ _ us hl λi a v h1 h2=>h a (qAJ h1) L L' C μ v (hh i a v h1 h2)
def neR:List (List AV)->Bool
 |r::_=> !r.isEmpty
 |[]=>true
def AV.neT0:AV->Bool
 | .sl rows=>neR rows
 | .int _ _| .bool _| .str _=>true
 |_=>false
def AV.neT1:AV->Bool
 | .agg cs=>cs.all AV.neT0
 |a=>a.neT0
def AV.neT:AV->Bool
 | .tup cs=>cs.all AV.neT1
 |a=>a.neT1
theorem qwp{D:qh}{rows:List (List AV)}{v:Value}(h:Rep0 D (.sl rows) v)(hn:neR rows=true)(hne:rows≠[]):∃b o,D b o≠none:=by
 generalize hR:rows=R at h;cases h with
 |slNil=>exact absurd hR hne
 |sl _ a cap sz vals hs hsz hc hr hcell hcap hfree=>
  subst hR
  match rows,hne,hn,hc with
  |[]::l,_,hn,_=>cases hn
  |(x::r)::l,_,_,hc=>exact⟨_,_,by rw[hc 0 0 _ _ rfl rfl];simp⟩
@[reducible] def vQ(w:World):Lent:=⟨λ_ _=>none,True,λb=>w.heap.size<=b,λ_=>none⟩
noncomputable section
variable {L : Lent} {C C3 : qh} {μ μ' : MMap} {w0 : World} {D : qh}
theorem qw5(hD:D= @LC (vQ w0) C3)(hm:(∃b o,D b o≠none)->∃m,μ' 0=some m∧m.D=D){x:AV}{v:Value}(hn:x.neT0=true)(h: @Rep (vQ w0) C3 μ x.lend v): @Rep L C μ' (x.regn 0) v:=by
 cases x<;>simp[AV.neT0]at hn
 ·cases h;exact @Rep.int L _ _ _ _
 ·cases h;exact @Rep.bool L _ _ _
 ·cases h;exact @Rep.str L _ _ _
 ·rename_i rows;have h: @Rep (vQ w0) C3 μ (.lsl rows) v:=h;cases h with
  |lsl _ _ h0=>
   rw[←hD]at h0;exact @Rep.rsl L _ _ 0 rows v D (λhne=>hm (qwp h0 hn hne)) h0
theorem qvW{x:AV}(hn:x.neT0=true):x.rgA 0=x.regn 0:=by cases x<;>simp[AV.neT0]at hn<;>rfl
theorem quk{x:AV}(hn:x.neT0=true):x.lend1=x.lend:=by cases x<;>simp[AV.neT0]at hn<;>rfl
theorem qw4(hD:D= @LC (vQ w0) C3)(hm:(∃b o,D b o≠none)->∃m,μ' 0=some m∧m.D=D){x:AV}{v:Value}(hn:x.neT1=true)(h: @Rep (vQ w0) C3 μ x.lend1 v): @Rep L C μ' (x.rgA 0) v:=by
 by_cases hx:∃cs,x= .agg cs
 ·obtain⟨cs,rfl⟩:=hx;have hn:cs.all AV.neT0=true:=hn;have h: @Rep (vQ w0) C3 μ (.agg (cs.map AV.lend)) v:=h;cases h with
  |agg _ us hl hh=>
   refine @Rep.agg L _ _ _ us (by simpa using hl) (λi a v h1 h2=>?_);obtain⟨y,hy,rfl⟩:=qq h1;exact qw5 hD hm (qBd.1 hn y (qAJ hy)) (hh i _ v (by rw[List.getElem?_map,hy];rfl) h2)
 ·have hn0:x.neT0=true:=by cases x<;>first|exact absurd ⟨_,rfl⟩ hx|exact hn
  rw[qvW hn0];rw[quk hn0]at h;exact qw5 hD hm hn0 h
theorem quj{x:AV}(hn:x.neT1=true):rgIn 0 x=x.rgA 0:=by cases x<;>first|rfl|(simp[AV.neT1,AV.neT0]at hn)
theorem qsl{x:AV}(hn:x.neT1=true):x.lendT=x.lend1:=by cases x<;>first|rfl|(simp[AV.neT1,AV.neT0]at hn)
theorem qw3(hD:D= @LC (vQ w0) C3)(hm:(∃b o,D b o≠none)->∃m,μ' 0=some m∧m.D=D){x:AV}{v:Value}(hn:x.neT=true)(h: @Rep (vQ w0) C3 μ x.lendT v): @Rep L C μ' (rgIn 0 x) v:=by
 by_cases hx:∃cs,x= .tup cs
 ·obtain⟨cs,rfl⟩:=hx;have hn:cs.all AV.neT1=true:=hn;have h: @Rep (vQ w0) C3 μ (.tup (cs.map AV.lend1)) v:=h;cases h with
  |tup _ us hl hh=>
   refine @Rep.tup L _ _ _ us (by simpa using hl) (λi a v h1 h2=>?_);obtain⟨y,hy,rfl⟩:=qq h1;exact qw4 hD hm (qBd.1 hn y (qAJ hy)) (hh i _ v (by rw[List.getElem?_map,hy];rfl) h2)
 ·have hn1:x.neT1=true:=by cases x<;>first|exact absurd ⟨_,rfl⟩ hx|exact hn
  rw[quj hn1];rw[qsl hn1]at h;exact qw4 hD hm hn1 h
end
theorem qyE{L:Lent}{C:qh}{w:World}(hw: @Wld L C (λ_=>none) [] w): @Wld (vQ w) C (λ_=>none) [] w:=
 @Wld.mk (vQ w) _ _ _ _ hw.cl (λid m hm=>(nomatch hm)) (λid hi=>rfl) (λid blk h1=>(by simp at h1)) (λid d sz rs h1=>(by simp at h1)) (λi i' b b' m m' h1=>(by simp at h1)) yA.nil
  ⟨λb o v h=>(by cases h),λ_ b o v hn h=>absurd (hw.block_lt h) (Nat.not_lt.2 hn),λb hb=>hb⟩
theorem qui{L:Lent}{P:Program}{s:Sem Next}{C:qh}{w:World}{r V:AV}{G:AH}(hw: @Wld L C (λ_=>none) [] w)(hcall:vF P s w (@xc (vQ w) C (λ_=>none) [] w r G))(hV:qe5 G r=some V)(hne:V.neT=true):
  vF P s w (@xc L C (λ_=>none) [] w (rgIn 0 V) [.reg]):=by
 refine hcall.mono λv w1 ⟨C2,μ2,e1,e2,e3⟩=>?_
 obtain⟨C3,a1,a2,a3,a4⟩:= @qj9 _ _ (vQ w) _ _ e2;have x:=e3.trans (a3 0 (Nat.zero_le _)) (qAA _);have hv:=(@qis _ _ (vQ w) G (λ_=>none) r V v a4 (@Rep.mono (vQ w) _ _ _ _ a1 (λ_ _ h=>h) _ _ e1) hV).1;have old:∀b,b<w.heap.size->w1.heap[b]? =w.heap[b]? :=λb hb=>(x.fr b hb vI).1
 have hw1: @Wld L C (λ_=>none) [] w1:=hw.world x.size old;have hD:∀b o u,@LC (vQ w) C3 b o=some u->w.heap.size<=b∧C3 b o=some u:=λb o u h=>by
  unfold LC at h;split at h
  ·rename_i hn;exact⟨hn,h⟩
  ·cases h
 have cell:∀b o u,@LC (vQ w) C3 b o=some u->w1.cell? ⟨b,o,none⟩=some u∧w1.frozen? ⟨b,o,none⟩=false:=λb o u h=>by
  obtain⟨h1,h2⟩:=hD b o u h;exact⟨@Wld.cl (vQ w) _ _ _ _ a2 b o u h2,(@Wld.lnt (vQ w) _ _ _ _ a2).2.1 trivial b o u h1 h2⟩
 by_cases hex:∃b o,@LC (vQ w) C3 b o≠none
 ·obtain⟨b0,o0,hb0⟩:=hex;have hhas:∀b,(MI.mk b0 0 0 0 (@LC (vQ w) C3)).has b->∃o u,@LC (vQ w) C3 b o=some u:=by
   rintro b (h|⟨o,h⟩)
   ·have:b0=b:=h;subst this;cases hc: @LC (vQ w) C3 b0 o0 with
    |none=>exact absurd hc hb0
    |some u=>exact⟨o0,u,hc⟩
   ·cases hc: @LC (vQ w) C3 b o with
    |none=>exact absurd hc h
    |some u=>exact⟨o,u,hc⟩
  have hge:∀b,(MI.mk b0 0 0 0 (@LC (vQ w) C3)).has b->w.heap.size<=b:=λb hb=>by
   obtain⟨o,u,hc⟩:=hhas b hb;exact(hD b o u hc).1
  have hlt:∀b,(MI.mk b0 0 0 0 (@LC (vQ w) C3)).has b->b<w1.heap.size:=λb hb=>by
   obtain⟨o,u,hc⟩:=hhas b hb;exact World.block_lt_of_cell? w1 ⟨b,o,none⟩ ((cell b o u hc).1)
  obtain⟨n1,n2,n3,n4,n5⟩:=hw1.new (nid:=none) (k:=0) (H':=[.reg]) (blk:=.reg) (m:=MI.mk b0 0 0 0 (@LC (vQ w) C3)) rfl (λb hb=>vI) hlt
   (λb hb o=>by
    cases hc:C b o with
    |none=>rfl
    |some u=>have h5:=hw.block_lt hc;have h6:=hge b hb;omega)
   (λb hb=>hw.lent_none (hge b hb)) rfl (λb o u hd=>cell b o u hd)
  refine⟨C,_,qw3 rfl (λ_=>⟨_,by unfold upd;rw[qBj rfl],rfl⟩) hne hv,n1,⟨x.os,x.tape,x.output,x.size,λ_ _ _ h=>h,λid m _ hm=>(nomatch hm),λb hb hnl=>⟨old b hb,λhl=>?_,rfl⟩,Nat.zero_le _⟩⟩;rcases n4 b hl with h|h
  ·exact vI h
  ·have:=hge b h;omega
 ·obtain⟨n1,n2⟩:=hw1.newV (nid:=none) (k:=0) (H':=[.reg]) (blk:=.reg) rfl rfl rfl trivial;refine⟨C,_,qw3 (μ':=λ_=>none) rfl (λh=>absurd h hex) hne hv,n1,⟨x.os,x.tape,x.output,x.size,λ_ _ _ h=>h,λid m _ hm=>(nomatch hm),λb hb hnl=>⟨old b hb,λhl=>?_,rfl⟩,Nat.zero_le _⟩⟩;obtain⟨i,bi,mi,h1,h2,h3,h4⟩:=hl;cases h3
end Go.Av
end
noncomputable section
namespace Go.Proofs.YtafdkafbgohigaaGreat.N
open Go.Av Go.ChangeShapes Go.WideShapes Go.ChangeAt Go.RowKit
theorem qvV[L:Lent]{f:FuncId}{al:List AV}{t:Tm}(he:EVf (EV Go.Proofs.YtafdkafbgohigaaGreat.cfg) f al=some t.av){C:qh}{w:World}{vs:Array Value}(hw:Wld C (λ_=>none) [] w)(ha': @qw (xq L C w) (λ_=>λ_=>none) (λ_=>none) al vs):
  vF Tryz.prog (callFunc f vs) w (xc C (λ_=>none) [] w (avL t) []):=by
 have hlent:∀b o v,(xq L C w).l b o=some v->w.cell? ⟨b,o,none⟩=some v∧∀ob,(xq L C w).k b=some ob->w.heap[b]? =some ob:=λb o v h=>by
  have h:(match C b o with|some v=>some v|none=>L.l b o)=some v:=h;split at h
  ·rename_i u hu;cases h;exact⟨hw.cl _ _ _ hu,λ_ h=>(nomatch h)⟩
  ·exact⟨(hw.lnt.1 _ _ _ h).1,λ_ h=>(nomatch h)⟩
 have hw': @Wld (xq L C w) (λ_=>λ_=>none) (λ_=>none) [] w:=
  @Wld.mk (xq L C w) _ _ _ _ (λb o v h=>(nomatch h)) (λid m hm=>(nomatch hm)) (λid hi=>rfl) (λid blk h1=>(by simp at h1)) (λid d sz rs h1=>(by simp at h1)) (λi i' b b' m m' h1=>(by simp at h1)) yA.nil ⟨hlent,λ_ b o v _ h=>(nomatch h),λb hb=>hb⟩
 obtain⟨k,n,s,l⟩:=t;refine(@qmp (xq L C w) trivial _ _ _ _ _ _ he _ _ hw' ha').mono λv w1 ⟨D,u3,hv,h0,hD,old,hsz,hos,htp,hou⟩=>?_
 subst hv;have hw1:Wld C (λ_=>none) [] w1:=hw.world hsz old;have hC:∀b o v,C b o=some v->b<w.heap.size:=λb o v h=>hw.block_lt h
 let C':qh:=λb o=>match C b o with|some v=>some v|none=>D b o
 have cC:∀b o v,C b o=some v->C' b o=some v:=λb o v h=>by show(match C b o with|some v=>some v|none=>D b o)=some v;rw[h]
 have cD:∀b o v,D b o=some v->C' b o=some v:=λb o v h=>by
  show(match C b o with|some v=>some v|none=>D b o)=some v;cases hc:C b o with
  |none=>exact h
  |some u=>have:=hC _ _ _ hc;have:=(hD b o v h).2.2;omega
 have split:∀b o v,C' b o=some v->C b o=some v∨D b o=some v:=λb o v h=>by
  have h:(match C b o with|some v=>some v|none=>D b o)=some v:=h;cases hc:C b o with
  |none=>rw[hc]at h;exact .inr h
  |some u=>rw[hc]at h;exact .inl h
 have hnw:∀b,w.heap.size<=b->Lent.nw b:=hw.lnt.2.2;refine⟨C',λ_=>none,?_,⟨λb o v h=>?_,λid m hm=>(nomatch hm),λid hi=>rfl,λid blk h1=>(by simp at h1),λid d sz rs h1=>(by simp at h1),λi i' b b' m m' h1=>(by simp at h1),yA.nil,hw1.lnt.1,λhu b o v hn h=>?_,hw1.lnt.2.2⟩,⟨hos,htp,hou,hsz,cC,λid m _ hm=>(nomatch hm),λb hb hnl=>⟨old b hb,vI,?_⟩,qAA _⟩⟩
 ·rw[qle];refine Rep.agg _ [.int .i64 k,.int .i64 n,.string ⟨s.toArray⟩,u3] rfl (λi a v h1 h2=>?_)
  match i,h1,h2 with
  |0,h1,h2=>cases h1;cases h2;exact .int _ _
  |1,h1,h2=>cases h1;cases h2;exact .int _ _
  |2,h1,h2=>cases h1;cases h2;exact .str _
  |3,h1,h2=>
   cases h1;cases h2;refine .lsl _ _ (h0.monoD λb o v h=>?_);unfold LC;rw[qBj (hnw b (hD b o v h).2.2)];exact cD b o v h
  |i+4,h1,h2=>simp at h1
 ·rcases split b o v h with h|h
  ·exact hw1.cl _ _ _ h
  ·exact(hD b o v h).1
 ·rcases split b o v h with h|h
  ·exact hw1.lnt.2.1 hu b o v hn h
  ·exact(hD b o v h).2.1
 ·funext o
  show(match C b o with|some v=>some v|none=>D b o)=C b o;cases hc:C b o with
  |some u=>rfl
  |none=>
   cases hd:D b o with
   |none=>rfl
   |some u=>have:=(hD b o u hd).2.2;omega
theorem qlV[L:Lent]{args:List AV}{H H':AH}{r:AV}{C:qh}{μ:MMap}{w:World}{vs:Array Value}(hr:qaM args H=some (r,H'))(ha:qw C μ args vs)(hw:Wld C μ H w):
  vF Tryz.prog (callFunc 45 vs) w (xc C μ H w r H'):=by
 unfold qaM at hr;split at hr
 case h_2=>cases hr
 rename_i a b c rows;split at hr
 case isFalse=>cases hr
 rename_i hx;obtain⟨t,hok,ht⟩:=hx;cases hr;have hμ:μ=λ_=>none:=by
  funext id
  cases hm:μ id with
  |none=>rfl
  |some m=>have:=hw.dom id m hm;simp at this
 subst hμ;have e2:avL t= .agg [a,b,c,.lsl rows]:=by
  obtain⟨k,n,s,l⟩:=t;rw[Tm.av_mk]at ht;simp only[AV.agg.injEq,List.cons.injEq,AV.sl.injEq,and_true]at ht;obtain⟨rfl,rfl,rfl,rfl⟩:=ht;rfl
 rw[←ht]at ha;have h:=qvV (f:=45) (al:=[avL t]) (qpi hok) hw (qmC hw ha);rw[e2]at h;exact h
theorem qaX[Lent]:CfgOk cfg where
 ty:=⟨λt ti h=>BT.all_look qjK h⟩
 mixed:=qe7
 named:=λf fn _ h=>qe6 f fn h
 ext:=λf s h args H r H' hr C μ w vs ha hw=>by
  have h:ext f=some s:=h;unfold ext at h;split at h
  ·rename_i s' hs;cases h;unfold xL at hs;rw[vA]at hs;split at hs
   ·rename_i e;have e:=qAC e;subst e;cases hs;exact qlV hr ha hw
   ·rw[vA]at hs;cases hs
  ·split at h
   ·cases h;exact(qb0 Go.Proofs.YtafdkafbgohigaaGreat.qaX).calls _ _ _ _ _ hr C μ w vs _ ha hw rfl
   ·exact Go.Proofs.YtafdkafbgohigaaGreat.qaX.ext f s h args H r H' hr C μ w vs ha hw
theorem qwk{t:Tm}(h:t.Ok):EVn (EV cfg) 45 [t.av]=some t.av:=by
 obtain⟨k,n,s,l⟩:=t;have e:EV cfg (.f 45) [(Tm.mk k n s l).av] []=some (avL (.mk k n s l),[]):=by
  refine qlp ?_;unfold xl;have hx:cfg.ext 45=some qaM:=rfl;simp only[hx];rw[Tm.av_mk];show qaM [.agg [.int .i64 k,.int .i64 n,.str s,.sl (qa l)]] []=_;exact qBj ⟨_,h,Tm.av_mk k n s l⟩
 unfold EVn;rw[e,Tm.av_mk];rfl
theorem qyA[L:Lent]{f:FuncId}{args:List AV}{V:AV}(he:EVn (EV cfg) f args=some V)(hi:∀a∈args,zo a)(hne:V.neT=true){C:qh}{w:World}{vs:Array Value}(hw:Wld C (λ_=>none) [] w)(ha:qw C (λ_=>none) args vs):
  vF Tryz.prog (callFunc f vs) w (xc C (λ_=>none) [] w (rgIn 0 V) [.reg]):=by
 unfold EVn at he;obtain⟨q,hq,hV⟩:=qAx.1 he;have ha': @qw (vQ w) C (λ_=>none) args vs:=⟨ha.1,λi a v h1 h2=>hi a (qAJ h1) L _ _ _ _ (ha.2 i a v h1 h2)⟩;exact qui hw (@OracOk2.calls (vQ w) _ _ (@qb0 (vQ w) _ (@qaX (vQ w))) _ _ _ _ _ hq C _ w vs _ ha' (qyE hw) rfl) hV hne
theorem qoV(t:Tm):zo t.av:=by
 obtain⟨k,n,s,l⟩:=t;rw[Tm.av_mk];refine .agg λa ha=>?_
 simp only[qAZ,List.not_mem_nil,or_false]at ha;rcases ha with rfl|rfl|rfl|rfl
 ·exact .int _ _
 ·exact .int _ _
 ·exact .str _
 ·exact .sl λL C μ v h=> @qlH L C μ (.mk 0 0 [] l) v h
end Go.Proofs.YtafdkafbgohigaaGreat.N
end
noncomputable section
namespace Go.Av
end Go.Av
namespace Go.Proofs.YtafdkafbgohigaaGreat.N
open Go.Av
def qjV(x:InsA):List AV:=[.int .i64 x.o,.int .i64 x.a,.int .i64 x.b,.int .i64 x.t.kind,.int .i64 x.t.num,.str x.t.str,.lsl (qa x.t.subs)]
def x7(l:List InsA):List (List AV):=l.map qjV
theorem qe1(l:List InsA):(x7 l).length=l.length:=by simp[x7]
theorem qrY(a b:List InsA):x7 (a++b)=x7 a++x7 b:=by simp[x7]
theorem qtH:∀l:List InsA,unlR (x7 l)=some (qd l)
 |[]=>rfl
 |x::l=>by
  have h:=qtH l;have e:x.row=[.int .i64 x.o,.int .i64 x.a,.int .i64 x.b,.int .i64 x.t.kind,.int .i64 x.t.num,.str x.t.str,.sl (qa x.t.subs)]:=by rw[InsA.row,Tm.cells_eq]
  show unlR (qjV x::x7 l)=some (x.row::qd l);rw[unlR,h,e];rfl
theorem qub{l:List InsA}(hx:∀x∈l,x.t.Ok)(hl:l.length<1099511627776):∀(d i:Nat),i+d=l.length->Gets (qeT 7 0 (0+(qd l).length) (i:Int) (x7 (l.take i)++qd (l.drop i))) (·= .sl (qd l)):=by
 intro d
 induction d with
 |zero=>
  intro i hi;refine qfA _ _ _ _ _ ?_;obtain rfl:i=l.length:=by omega
  rw[qA5,qu,qBi (by omega),List.take_length,List.drop_length,qtV,List.append_nil];have hb:qAF (0+l.length) (x7 l).length=true:=by rw[qA2,qe1];omega
  have ht:qAB l.length (qAO 0 (x7 l))=x7 l:=qAE (by rw[qA4,qe1];exact qAA _);rw[hb,ht,qtH];exact⟨_,rfl,rfl⟩
 |succ d ih=>
  intro i hi;have hil:i<l.length:=by omega
  have g0:l[i]? =some l[i]:=qAv hil;have hd:l.drop i=l[i]::l.drop (i+1):=qAT hil;refine qfA _ _ _ _ _ ?_;have hlen:(x7 (l.take i)).length=i:=by rw[qe1,qA6];omega
  have e0:decide ((i:Int)<((0+(qd l).length:Nat):Int))=true:=qBh (by rw[qu];omega);have e1:(qAz 7 7&&qe 0 (i:Int)&&qi (i:Int) ((0+(qd l).length:Nat):Int))=true:=by rw[qu];simp;omega
  have gx:qAu (x7 (l.take i)++qd (l.drop i)) (0+qAR (i:Int))=some l[i].row:=by
   rw[qA5,qB,qAS,qAP (by omega),hlen,Nat.sub_self,hd];rfl
  have gs:List.set (x7 (l.take i)++qd (l.drop i)) (0+qAR (i:Int)) (qjV l[i])=x7 (l.take (i+1))++qd (l.drop (i+1)):=by
   rw[qA5,qAS,List.set_append_right _ _ (by omega),hlen,Nat.sub_self,hd];show x7 (l.take i)++(qjV l[i]::qd (l.drop (i+1)))=_;rw[List.take_add_one,g0,qrY,qA8];rfl
  have hc:=qwk (hx l[i] (List.getElem_mem hil));have h1:=ih (i+1) (by omega);have ep:qAG (qAG (qAB 3 l[i].row) [AV.int .i64 l[i].t.kind,.int .i64 l[i].t.num,.str l[i].t.str,.lsl (qa l[i].t.subs)]) (qAO 7 l[i].row)=qjV l[i]:=by
   rw[InsA.row,Tm.cells_eq];rfl
  rw[e0,e1,gx];simp -implicitDefEqProofs only[qb,cond_true,InsA.row_len,show qAF 7 7=true from rfl,InsA.row_t,qD,qm,qT,xG,qR,q9,hc,qaG,ep,gs];rw[qL hil hl];exact h1
theorem qrf{l:List InsA}(hx:∀x∈l,x.t.Ok)(hl:l.length<1099511627776)(hn:l≠[]):EVn (EV cfg) 58 [.sl (qd l)]=some (.sl (qd l)):=by
 apply Gets.get;refine qvO _ ?_;have hc:EVo (EV Go.Proofs.YtafdkafbgohigaaGreat.cfg) 78 [.sl (qd l)]=some (.own 7 (qd l) 0 (0+(qd l).length)):=by
  cases l with
  |nil=>exact absurd rfl hn
  |cons x l=>
   apply Gets.get;show Gets (EVo (EV Go.Proofs.YtafdkafbgohigaaGreat.cfg) _ [.sl (x.row::qd l)]) _;refine qti _ _ ?_;have h1:vq 7 (x.row::qd l)=true:=qvI (x::l);rw[h1,zv (by simp at hl⊢;omega)];exact⟨_,rfl,rfl⟩
 rw[←qw1 _ rfl rfl]at hc;rw[hc];simp -implicitDefEqProofs only[qb,xh];have:=qub hx hl l.length 0 (by omega);rw[List.take_zero,qA4,show x7 []=[]from rfl,List.nil_append]at this;exact this
theorem qta{l:List Cl}(hx:∀c∈l,ClX c)(hlen:l.length<1099511627776){P:AV->Prop}:∀(k i:Nat) (ins:List InsA),l.length - i=k->i<=l.length->ins.length+2*wL ((l.drop i).map clT)<1099511627776 ->
  (∀ins':List InsA,ins'=ins++xA (l.drop i) ins.length->Gets (kOpt (EVn (EV cfg) 58 [.sl (qd ins')]) fun(v:AV)=>kSl v fun(rows:List (List AV))=>some (AV.tup [.sl rows,.int .i64 (0:Int)])) P) ->
  Gets (qiR (qY l) (i:Int) (qd ins).length (qd ins)) P:=by
 intro k
 induction k with
 |zero=>
  intro i ins hk hi hw h;refine qfB _ _ _ _ ?_;unfold zI1 zI2 zI3 zI4 zI5 zI0;rw[vZ,qBi (by omega),cond_false,nble,qBh (show 0+(qd ins).length<=(qd ins).length by omega)];rw[qAE (qAA _)];exact h ins (by rw[qAV (by omega),xA,List.append_nil])
 |succ k ih=>
  intro i ins hk hi hw h;refine qfB _ _ _ _ ?_;unfold zI1 zI2 zI3 zI4 zI5 zI0;have hil:i<l.length:=by omega
  have g0:l[i]? =some l[i]:=qAv hil;have hd:l.drop i=l[i]::l.drop (i+1):=by rw[qAT hil]
  rw[hd,qBf,qA]at hw;have hg:=qdw l[i];have hc:=qcc l[i] ins.length;have e1:(qe 0 (i:Int)&&qi (i:Int) ((qY l).length:Int))=true:=by rw[vZ];simp;omega
  have z:=qiI (hx l[i] (List.getElem_mem hil)) (ins:=ins) (by omega);rw[←qnG _ _ _ rfl rfl]at z;rw[qBh (show(i:Int)<((qY l).length:Int) by rw[vZ];omega),e1,qiY g0];simp -implicitDefEqProofs only[qb,cond_true,Cl.cells_len,Cl.cells6,show qAz 6 6=true from rfl,show qAF 6 6=true from rfl];rw[kCl];simp -implicitDefEqProofs only[z,qb,qO,qM,vp,vo,qU,qAM,cond_true,qN,qV,qW,qD,qR,vm]
  rw[qL hil hlen];refine ih (i+1) (ins++xY l[i] ins.length) (by omega) (by omega) (by rw[qAI];omega) ?_;rintro ins' rfl;refine h _ ?_;rw[hd,xA];simp
theorem quS{l:List Cl}(h:SelOk l):EVn (EV cfg) 19 [(selT l).av]=some (.tup [.sl (qd (xA l 0)),.int .i64 0]):=by
 have hw:=zD h.chk;have hwl:=qlF l;have hlen:l.length<1099511627776:=by have:=xw (l.map clT);rw[qBe]at this;omega
 have hcl:=qgd (t:=selT l) (by omega);rw[←qnH _ rfl rfl]at hcl;have hx:∀c∈l,ClX c:=λc hc=>qyV (h.ok c hc)
 rw[h.cls]at hcl;apply Gets.get;rw[Tm.av,Tm.cells_eq];refine qg2 _ _ _ _ ?_;simp -implicitDefEqProofs only[q9,hcl,qb,qS,qD,xG,qm,qR,show((0:Int) != 0)=false from rfl,cond_false];refine qnY _ _ ?_;unfold zI1 zI2 zI3 zI4 zI5 zI0;have ho:EVn (EV cfg) 58 [.sl (qd (xA l 0))]=some (.sl (qd (xA l 0))):=by
  refine qrf (λx hx=>qbk _ ?_) (by have:=qdT l 0;omega) (qwm h.ne 0);have:=qhJ l 0 (2*wL (l.map clT)) (λc hc=>by
   have h1:=qdw c;have h2:(clT c).w<=wL (l.map clT):=vV (List.mem_map_of_mem hc);omega) x hx
  omega
 cases l with
 |nil=>exact absurd rfl h.ne
 |cons c l=>
  have hg:=qdw c;rw[qBf,qA]at hwl;have hc:=qcc c 0;have e0:(0:Int)<((qY (c::l)).length:Int):=by rw[vZ];simp<;>omega
  have e1:(qe 0 (0:Int)&&qi (0:Int) ((qY (c::l)).length:Int))=true:=by rw[vZ];simp<;>omega
  have g0:=qiY (l:=c::l) (i:=0) (c:=c) rfl;rw[show((0:Nat):Int)=0 from rfl]at g0;have z:=qiI (hx c (by simp)) (ins:=[]) (by simp;omega);rw[←qnG _ _ _ rfl rfl]at z;rw[qBh e0,e1,g0];simp -implicitDefEqProofs only[qb,cond_true,Cl.cells_len,Cl.cells6,show qAz 6 6=true from rfl,show qAF 6 6=true from rfl];rw[kCl];rw[show(qd []:List (List AV))=[]from rfl]at z;simp -implicitDefEqProofs only[List.length_nil,List.nil_append]at z
  have z:EVj (EV cfg) _ 1 _ ([ABlk.rows false 1 [[AV.ms 1 0 0]],ABlk.rows true 7 []]:AH)=_:=z;simp -implicitDefEqProofs only[z,qb,qO,qM,vp,vo,qU,qAM,cond_true,qN,qV,qW,qD,qR,vm];refine qta hx hlen l.length 1 (xY c 0) (by simp) (by simp) (by rw[List.drop_succ_cons,qA4];omega) ?_
  rintro ins' rfl;have e:xY c 0++xA (qAO 1 (c::l)) (xY c 0).length=xA (c::l) 0:=by
   rw[xA];simp
  rw[e,ho];exact⟨_,rfl,rfl⟩
theorem quT{t:Tm}(ht:t.w<1099511627776)(h:(clsG t).2≠0):EVn (EV cfg) 19 [t.av]=some (.tup [.sl [],.int .i64 (clsG t).2]):=by
 have hcl:=qgd ht;rw[←qnH _ rfl rfl]at hcl;apply Gets.get;rw[Tm.av,Tm.cells_eq];refine qg2 _ _ _ _ ?_;have e:((clsG t).2 != 0)=true:=by simpa using h
 simp -implicitDefEqProofs only[q9,hcl,qb,qS,qD,xG,qm,qR,e,cond_true];exact⟨_,rfl,rfl⟩
theorem qw8{V:List Int}(hV:V.length<1099511627776){t:Tm}(ht:t.w<1099511627776):EVn (EV cfg) 21 [t.av,.sl (ql V)]=some (.tup [.sl (qd (if vP V t=0 then qp t 0 else[])),.int .i64 (vP V t)]):=by
 have hck:=qcD hV ht;rw[←qnF _ rfl rfl]at hck;apply Gets.get;rw[Tm.av,Tm.cells_eq];refine qvp _ _ _ _ _ ?_;unfold zI0
 by_cases h0:vP V t=0
 ·have hg:isG V t=true:=by
   unfold vP at h0;split at h0
   ·split at h0
    ·assumption
    ·exact absurd h0 (by decide)
   ·exact absurd h0 (by decide)
  have hx:=qmD (V:=V) t.w t (qAA _) hg;have z:EVj (EV cfg) 63 1 [.ptr 0 0 0,t.av] ([ABlk.rows false 1 [[AV.ms 1 0 0]],ABlk.rows true 7 []]:AH)=some (.tup [],mkH (qd (qp t 0))):=by
   rw[qnG _ _ _ rfl rfl];exact hx [] (by simp;omega)
  have ho:EVn (EV cfg) 58 [.sl (qd (qp t 0))]=some (.sl (qd (qp t 0))):=
   qrf (λx hx=>qbk _ (by have:=(qad t 0 x hx).2;omega)) (by have:=xi t 0;omega) (qwa hg 0)
  have e1:(qAF (0+(qd (qp t 0)).length) (qd (qp t 0)).length&&true)=true:=by
   rw[nble,qBh (show 0+(qd (qp t 0)).length<=(qd (qp t 0)).length by omega)];rfl
  simp -implicitDefEqProofs only[q9,hck,h0,qb,qm,show((0:Int) != 0)=false from rfl,cond_false,z,qb,qO,qM,vp,vo,qU,qAM,cond_true,cond_false,qN,qV,qW,qD,qm,qR,vm];rw[e1,cond_true,qAE (qAA _),ho];refine⟨_,rfl,?_⟩;simp
 ·have e:(vP V t != 0)=true:=by simpa using h0
  simp -implicitDefEqProofs only[q9,hck,qb,qm,e,cond_true];refine⟨_,rfl,?_⟩;rw[qBk h0];rfl
theorem qqS{t:Tm}(ht:t.w<549755813888):EVn (EV cfg) 19 [t.av]=some (.tup [.sl (qd (qaN t).1),.int .i64 (qaN t).2]):=by
 unfold qaN
 by_cases h0:(clsG t).2=0
 ·obtain⟨h1,hok⟩:=qg4 h0;rw[qBj h0,h0];generalize (clsG t).1=l at *;subst h1;exact quS hok
 ·rw[qBk h0];exact quT (by omega) h0
end Go.Proofs.YtafdkafbgohigaaGreat.N
end
noncomputable section
namespace Go.Proofs.YtafdkafbgohigaaGreat.M
open Go.Av
def vA{α:Type}(f:Nat):List (Nat×α)->Option α
 |[]=>none
 |p::l=>if qAz p.1 f then some p.2 else vA f l
theorem qdM{α:Type}{p:Nat->α->Prop}{f:Nat}{x:α}:∀{l:List (Nat×α)},(∀q∈l,p q.1 q.2)->vA f l=some x->p f x
 |[],_,h=>by cases h
 |q::l,ha,h=>by
  rw[vA]at h;split at h
  ·rename_i e;cases h;rw[←qAC e];exact ha q (by simp)
  ·exact qdM (λq hq=>ha q (by simp[hq])) h
theorem qaV{f:Nat}{fn:Func}:∀{l:List (Nat×Func)},z9 f l=some fn->∃p∈l,p.1=f
 |[],h=>by cases h
 |q::l,h=>by
  rw[z9]at h;split at h
  ·rename_i e;exact⟨q,by simp,qAC e⟩
  ·obtain⟨p,h1,h2⟩:=qaV h;exact⟨p,by simp[h1],h2⟩
def qsm:List (Nat×CMode):=[(15,.over),(23,.over),(19,.rgn),(21,.rgn)]
def kL:List (Nat×Unit):=[(9,()),(11,()),(14,()),(18,()),(24,()),(41,()),(52,()),(54,()),(55,()),(66,()),(101,()),(8,()),(16,()),(17,()),(20,()),(22,())]
open Classical in
def extN (f:Nat) (args:List AV) (H:AH):Option (AV×AH):=
 match H with
 |[]=>(EVn (EV N.cfg) f args).bind λV=>if(∀a∈args,zo a)∧V.neT=true then some (rgIn 0 V,[.reg])else none
 |_=>none
open Classical in
def qaM (args:List AV) (H:AH):Option (AV×AH):=
 match args,H with
 |[.agg [a,b,c,.sl rows]],[]=>if ∃t:Tm,t.Ok∧t.av= .agg [a,b,c,.sl rows]then some (.agg [a,b,c,.rsl 0 rows],[.reg])else none
 |_,_=>none
def xL:List (Nat×(List AV->AH->Option (AV×AH))):=[(19,extN 19),(21,extN 21)]
def frzL:List (Nat×Nat×Nat):=[]
def qkL(f r k:Nat):List (Nat×Nat×Nat)->Bool
 |[]=>false
 |p::l=>(qAz p.1 f&&(qAz p.2.1 r&&qAz p.2.2 k))||qkL f r k l
def ext(f:Nat):Option (List AV->AH->Option (AV×AH)):=
 match vA f xL with
 |some s=>some s
 |none=>match vA f kL with
  |some _=>some (EV Go.Proofs.YtafdkafbgohigaaGreat.cfg (.f f))
  |none=>Go.Proofs.YtafdkafbgohigaaGreat.cfg.ext f
def cfg:Cfg:={ Go.Proofs.YtafdkafbgohigaaGreat.cfg with mode:=λf=>match vA f qsm with|some m=>m|none=>Go.Proofs.YtafdkafbgohigaaGreat.cfg.mode f,frz:=λf r k=>qkL f r k frzL||Go.Proofs.YtafdkafbgohigaaGreat.cfg.frz f r k,ext:=ext }
theorem qi6:qeD.all (λp=>(vA p.1 xL).isNone&&(vA p.1 kL).isNone)=true:=rfl
instance inl_ok:InlOk cfg where
 ok f fn h:=by
  have h:z9 f qeD=some fn:=h
  obtain⟨h1,h2,h3,h4⟩:=Go.Proofs.YtafdkafbgohigaaGreat.inl_ok.ok f fn h
  refine⟨?_,h2,h3,h4⟩
  obtain⟨p,hp,rfl⟩:=qaV h
  have:=qBd.1 qi6 p hp
  rw[qAw,Option.isNone_iff_eq_none,Option.isNone_iff_eq_none]at this
  show ext p.1=none
  unfold ext
  rw[this.1,this.2]
  exact h1
theorem ev_k{f:Nat}(hx:(vA f xL).isNone=true)(hk:(vA f kL).isSome=true)(args:List AV)(H:AH):EV cfg (.f f) args H=EV Go.Proofs.YtafdkafbgohigaaGreat.cfg (.f f) args H:=by
 have he:cfg.ext f=some (EV Go.Proofs.YtafdkafbgohigaaGreat.cfg (.f f)):=by
  show ext f=_;unfold ext;rw[Option.isNone_iff_eq_none]at hx;obtain⟨u,hu⟩:=Option.isSome_iff_exists.1 hk;rw[hx,hu]
 have h1:∀n,evF cfg (n+1) (.f f) args H=EV Go.Proofs.YtafdkafbgohigaaGreat.cfg (.f f) args H:=λn=>by
  show xl cfg (evF cfg n) (.f f) args H=_;unfold xl;simp only[he]
 have h0:evF cfg 0 (.f f) args H=none:=rfl;cases h:EV Go.Proofs.YtafdkafbgohigaaGreat.cfg (.f f) args H with
 |some r=>exact qkg (g:=λn=>evF cfg n (.f f) args H) (λn r h=>qdv cfg n (.f f) args H r h) (n:=1) ((h1 0).trans h)
 |none=>
  have:¬∃(n:Nat) (r:AV×AH),evF cfg n (.f f) args H=some r:=by
   rintro⟨n,r,hr⟩;cases n with
   |zero=>rw[h0]at hr;cases hr
   |succ n=>rw[h1,h]at hr;cases hr
  exact dif_neg this
theorem qnF{f:Nat}(args:List AV)(hx:(vA f xL).isNone=true)(hk:(vA f kL).isSome=true):EVs (EV cfg) f args=EVs (EV Go.Proofs.YtafdkafbgohigaaGreat.cfg) f args:=by unfold EVs;rw[ev_k hx hk]
theorem qnH{f:Nat}(args:List AV)(hx:(vA f xL).isNone=true)(hk:(vA f kL).isSome=true):EVf (EV cfg) f args=EVf (EV Go.Proofs.YtafdkafbgohigaaGreat.cfg) f args:=by unfold EVf;rw[ev_k hx hk]
theorem qw1{f:Nat}(args:List AV)(hx:(vA f xL).isNone=true)(hk:(vA f kL).isSome=true):EVo (EV cfg) f args=EVo (EV Go.Proofs.YtafdkafbgohigaaGreat.cfg) f args:=by unfold EVo;rw[ev_k hx hk]
theorem qsU{f:Nat}(args:List AV)(hx:(vA f xL).isNone=true)(hk:(vA f kL).isSome=true):EVw (EV cfg) f args=EVw (EV Go.Proofs.YtafdkafbgohigaaGreat.cfg) f args:=by unfold EVw;rw[ev_k hx hk]
theorem qnG{f:Nat}(k:Nat)(args:List AV)(G:AH)(hx:(vA f xL).isNone=true)(hk:(vA f kL).isSome=true):EVj (EV cfg) f k args G=EVj (EV Go.Proofs.YtafdkafbgohigaaGreat.cfg) f k args G:=by unfold EVj;rw[ev_k hx hk]
end Go.Proofs.YtafdkafbgohigaaGreat.M
end
noncomputable section
namespace Go.Proofs.YtafdkafbgohigaaGreat.M
open Go.Av
def qxV:Den:=evC cfg (EV cfg) 15 none 1 (sub (qg Tryz.f15) [1,1,0,0])
def qyf:Ex×List AV×AH->Option Unit:=kAft (Cfg.keepOut cfg 15 2) (kRun cfg (EV cfg) (kfN cfg 6) 15 none 1 (qsx cfg (Cfg.lift cfg 15 0) Tryz.f15.results.toList) ([.block 0]))
def qrx:List AV×AH->Option Unit:=λp=>kOpt (LOOP 1 (some [1,2]) ([]) qxV p) qyf
abbrev qhl(l:Rz)(v2 c1_0 c1_1:Int)(c1_2:Bz):Option (Unit):=qrx (((fx 21 [(1,.ptr 1 0 0),(2,.int .i64 v2)]):List AV),([.spl,.rows false 4 [[.int .i64 c1_0,.int .i64 c1_1,.str c1_2,.rsl 0 l]]]:AH))
abbrev qnX(v2 c1_0 c1_1:Int)(c1_2:Bz)(c1_3:Rz):Option (Unit):=qrx (((fx 21 [(1,.ptr 1 0 0),(2,.int .i64 v2)]):List AV),([.spl,.rows false 4 [[.int .i64 c1_0,.int .i64 c1_1,.str c1_2,.sl c1_3]]]:AH))
theorem quc(k n:Int)(s:Bz)(l:Rz){P:Unit->Prop}(h:Gets (qhl l 0 k n s) P):Gets (EVz (EV cfg) 15 (AV.agg [AV.int IntKind.i64 k,AV.int IntKind.i64 n,AV.str s,AV.rsl (0:Nat) l])) P:=
  gE (λ_=>funZ rfl rfl Tryz.func15 rfl) (by kernel_rfl) h
theorem qud(k n:Int)(s:Bz){P:Unit->Prop}(h:Gets (qnX 0 k n s []) P):Gets (EVz (EV cfg) 15 (AV.agg [AV.int IntKind.i64 k,AV.int IntKind.i64 n,AV.str s,AV.sl []])) P:=
  gE (λ_=>funZ rfl rfl Tryz.func15 rfl) (by kernel_rfl) h
theorem qf2(l:Rz)(v2 c1_0 c1_1:Int)(c1_2:Bz){P:Unit->Prop}(h:Gets (bif decide (v2<(l.length:Int))then bif qe 0 v2&&qi v2 (l.length:Int)then kOpt (qAu l (v2.toNat)) λrow=>bif qAz (qAt row) 4 then kTmC (qAB 4 row) λn n_1 s rows=>(kOpt (EVz (EV cfg) 15 (.agg [.int .i64 n,.int .i64 n_1,.str s,AV.rsl 0 rows])) λx=>kOpt (EVz (EV cfg) 15 (.agg [.int .i64 77,.int .i64 0,.str [],.sl []])) λx=>kOpt (EVz (EV cfg) 15 (.agg [.int .i64 0,.int .i64 0,.str [],.sl []])) λx=>bif qe 0 v2&&qi v2 (l.length:Int)then kOpt (qAu l (v2.toNat)) λrow=>bif qAz (qAt row) 4 then bif qaB (qAB 4 row)&&true then qhl l (qAH .i64 (v2+1)) c1_0 c1_1 c1_2 else none else none else none)else none else none else some PUnit.unit) P):Gets (qhl l v2 c1_0 c1_1 c1_2) P:=
  gE (λ_=>qt (cfg:=cfg) (f:=15) (rd:=none) (bs:=1)) (by kernel_rfl) h
theorem qmO(v2 c1_0 c1_1:Int)(c1_2:Bz)(c1_3:Rz){P:Unit->Prop}(h:Gets (bif decide (v2<(c1_3.length:Int))then bif qe 0 v2&&qi v2 (c1_3.length:Int)then kOpt (qAu c1_3 (v2.toNat)) λrow=>bif qAz (qAt row) 4 then bif qAF 4 (qAt row)then kTmC (qAB 4 row) λn n s rows=>none else none else none else none else some PUnit.unit) P):Gets (qnX v2 c1_0 c1_1 c1_2 c1_3) P:=
  gE (λ_=>qt (cfg:=cfg) (f:=15) (rd:=none) (bs:=1)) (by kernel_rfl) h
end Go.Proofs.YtafdkafbgohigaaGreat.M
end
noncomputable section
namespace Go.Proofs.YtafdkafbgohigaaGreat.M
open Go.Av Go.ChangeShapes Go.WideShapes Go.ChangeAt Go.RowKit
theorem qlV[Lent]{args:List AV}{H H':AH}{r:AV}{C:qh}{μ:MMap}{w:World}{vs:Array Value}(hr:qaM args H=some (r,H'))(ha:qw C μ args vs)(hw:Wld C μ H w):
  vF Tryz.prog (callFunc 45 vs) w (xc C μ H w r H'):=by
 unfold qaM at hr;split at hr
 case h_2=>cases hr
 rename_i a b c rows;split at hr
 case isFalse=>cases hr
 rename_i hx;obtain⟨t,hok,ht⟩:=hx;cases hr;have hμ:μ=λ_=>none:=by
  funext id
  cases hm:μ id with
  |none=>rfl
  |some m=>have:=hw.dom id m hm;simp at this
 subst hμ;have e2:avR 0 t= .agg [a,b,c,.rsl 0 rows]:=by
  obtain⟨k,n,s,l⟩:=t;rw[Tm.av_mk]at ht;simp only[AV.agg.injEq,List.cons.injEq,AV.sl.injEq,and_true]at ht;obtain⟨rfl,rfl,rfl,rfl⟩:=ht;rfl
 have h:=qwj hok hw (by rw[ht];exact ha);rw[e2]at h;exact h
def OkX[Lent](f:Nat)(s:List AV->AH->Option (AV×AH)):Prop:=∀args H r H',s args H=some (r,H')->∀C μ w vs,qw C μ args vs->Wld C μ H w->vF Tryz.prog (callFunc f vs) w (xc C μ H w r H')
theorem qyS[Lent]{f:Nat}{s:List AV->AH->Option (AV×AH)}{l:List (Nat×(List AV->AH->Option (AV×AH)))}(h:OkX f s)(hl:∀q∈l,OkX q.1 q.2):∀q∈(f,s)::l,OkX q.1 q.2:=λq hq=>by
 rcases qAZ.1 hq with rfl|hq
 ·exact h
 ·exact hl q hq
theorem qAj[Lent]:∀q∈([]:List (Nat×(List AV->AH->Option (AV×AH)))),OkX q.1 q.2:=λq hq=>by cases hq
theorem qAq[Lent]:OkX 45 qaM:=λ_ _ _ _ hr _ _ _ _ ha hw=>qlV hr ha hw
theorem newX[L:Lent](f:Nat):OkX f (extN f):=λargs H r H' hr C μ w vs ha hw=>by
 unfold extN at hr;split at hr
 case h_2=>cases hr
 obtain⟨V,hV,hr⟩:=qAx.1 hr;split at hr
 case isFalse=>cases hr
 rename_i hc;cases hr;have hμ:μ=λ_=>none:=by
  funext id
  cases hm:μ id with
  |none=>rfl
  |some m=>have:=hw.dom id m hm;simp at this
 subst hμ;exact N.qyA hV hc.1 hc.2 hw ha
theorem qAb[Lent]:∀q∈xL,OkX q.1 q.2:=by
 unfold xL
 repeat' first|exact qAj|exact qAq|exact newX _|refine qyS ?_ ?_
theorem qaX[Lent]:CfgOk cfg where
 ty:=⟨λt ti h=>BT.all_look qjK h⟩
 mixed:=qe7
 named:=λf fn _ h=>qe6 f fn h
 ext:=λf s h args H r H' hr C μ w vs ha hw=>by
  have h:ext f=some s:=h;unfold ext at h;split at h
  ·rename_i s' hs;cases h;exact qdM (p:=OkX) qAb hs args H r H' hr C μ w vs ha hw
  ·split at h
   ·cases h;exact(qb0 Go.Proofs.YtafdkafbgohigaaGreat.qaX).calls _ _ _ _ _ hr C μ w vs _ ha hw rfl
   ·exact Go.Proofs.YtafdkafbgohigaaGreat.qaX.ext f s h args H r H' hr C μ w vs ha hw
theorem qw2{f:Nat}{args:List AV}{V:AV}(hx:vA f xL=some (extN f))(he:EVn (EV N.cfg) f args=some V)(hi:∀a∈args,zo a)(hne:V.neT=true)(hd:qgj [.reg] (rgIn 0 V)=some V):EVg (EV cfg) f args=some V:=by
 have e:EV cfg (.f f) args []=some (rgIn 0 V,[.reg]):=by
  refine qlp ?_;unfold xl;have hx:cfg.ext f=some (extN f):=by show ext f=_;unfold ext;rw[hx]
  simp only[hx];unfold extN;rw[he];exact qBj ⟨hi,hne⟩
 unfold EVg;rw[e];exact hd
theorem row_calls{f:FuncId}{args:List AV}{vs:Array Value}{W:World}(hx:cfg.ext f=none)(he:EVs (EV cfg) f args=some (.bool true))(ha:qw (C0 W) M0 args vs):
  Calls Tryz.prog f vs W λe W'=>e= .returned (.bool true)∧(∀b,b<W.heap.size->W'.heap[b]? =W.heap[b]?)∧W.heap.size<=W'.heap.size∧W'.os=W.os∧W'.output=W.output:=by
 unfold EVs at he;obtain⟨q,h1,h2⟩:=qAD.1 he;have:=qpK qaX hx (r:=q.1) (H':=q.2) h1 ha (wld0 W);refine this.mono λe W' ⟨v,hv,C',μ',p1,p2,p3⟩=>?_
 rw[h2]at p1;cases p1;refine⟨hv,λb hb=>(p3.fr b hb vI).1,p3.size,p3.os,p3.output⟩
end Go.Proofs.YtafdkafbgohigaaGreat.M
end
noncomputable section
namespace Go.Av
theorem qmR(t:Tm):qaB t.cells=true:=by obtain⟨k,n,s,l⟩:=t;rw[Tm.cells_mk];rfl
end Go.Av
namespace Go.Proofs.YtafdkafbgohigaaGreat.M
open Go.Av
theorem qi0(k n:Int)(s:List UInt8):EVz (EV cfg) 15 (.agg [.int .i64 k,.int .i64 n,.str s,.sl []])=some ():=by
 apply Gets.get;refine qud k n s ?_;refine qmO _ _ _ _ _ ?_;exact⟨_,rfl,rfl⟩
theorem qvP(t:Tm):t.Ok->EVz (EV cfg) 15 (avR 0 t)=some ():=by
 induction t using Tm.ind with
 |_ k n s l ih=>
  intro hok;have hlen:=hok.len;have loop:∀(d i:Nat),i+d=l.length->Gets (qhl (qa l) i k n s) (·=()):=by
   intro d
   induction d with
   |zero=>
    intro i hi;refine qf2 _ _ _ _ _ ?_;rw[qc,qBi (by omega)];exact⟨_,rfl,rfl⟩
   |succ d ihd=>
    intro i hi;refine qf2 _ _ _ _ _ ?_;have hil:i<l.length:=by omega
    have hx:l[i]? =some l[i]:=qAv hil;have h1:=ih l[i] (qAJ hx) (hok.sub (qAJ hx));unfold avR at h1;have h:=ihd (i+1) (by omega);rw[qc,qBh (show(i:Int)<(l.length:Int) by omega),qI,q8,qBh hil,ye hx,qL hil hlen];simp only[cond_true,qAM,qv,qA1,qG,qF,h1,qi0,qb,ye hx,qmR,Bool.and_true]
    exact h.mono λ_ _=>trivial
  apply Gets.get;unfold avR;exact quc k n s (qa l) (loop l.length 0 (by omega))
theorem que{t:Tm}(h:t.Ok):EVz (EV cfg) 15 (.agg [.int .i64 t.kind,.int .i64 t.num,.str t.str,.rsl 0 (qa t.subs)])=some ():=qvP t h
end Go.Proofs.YtafdkafbgohigaaGreat.M
end
noncomputable section
namespace Go.Proofs.YtafdkafbgohigaaGreat.M
open Go.Av
def qxW:Den:=evC cfg (EV cfg) 23 none 1 (sub (qg Tryz.f23) [1,0,0])
def qyg:Ex×List AV×AH->Option Unit:=kAft (Cfg.keepOut cfg 23 1) (kRun cfg (EV cfg) (kfN cfg 6) 23 none 1 (qsx cfg (Cfg.lift cfg 23 0) Tryz.f23.results.toList) ([.block 0]))
def qxG:List AV×AH->Option Unit:=λp=>kOpt (LOOP 1 (some [0,2]) ([]) qxW p) qyg
abbrev qhm(L:Rz)(v2:Int):Option (Unit):=qxG (((fx 19 [(0,.rsl 0 L),(2,.int .i64 v2)]):List AV),([.spl]:AH))
theorem qsi(L:Rz){P:Unit->Prop}(h:Gets (qhm L 0) P):Gets (EVz (EV cfg) 23 (AV.rsl (0:Nat) L)) P:=
  gE (λ_=>funZ rfl rfl Tryz.func23 rfl) (by kernel_rfl) h
theorem qna(kt nt:Int)(st:Bz)(lt:Rz)(ke ne:Int)(se:Bz)(le V:Rz){P:AV->Prop}(h:Gets (kOpt (EVs (EV cfg) 8 [.sl [[AV.int .i64 kt,.int .i64 nt,.str st,.sl lt],[AV.int .i64 ke,.int .i64 ne,.str se,.sl le]]]) λv=>qJ v λb=>bif b then some (.bool true)else bif decide ((V.length:Int)>200)then some (.bool true)else kOpt (EVf (EV cfg) 11 [.agg [.int .i64 kt,.int .i64 nt,.str st,.sl lt]]) λv=>kTmV v λn n_1 s rows=>(kOpt (EVf (EV cfg) 11 [.agg [.int .i64 ke,.int .i64 ne,.str se,.sl le]]) λv=>kTmV v λn_2 n_3 s_1 rows_1=>(kOpt (EVw (EV cfg) 18 [.sl V]) λv=>kWr v λn_4 rows_2=>kOpt (EVg (EV cfg) 19 [.agg [.int .i64 n,.int .i64 n_1,.str s,.sl rows]]) λV_1=>kTup V_1 λcs=>qf cs λc cs=>kSl c λrows_3=>qf cs λc cs=>kInt .i64 c λn_5=>kNil cs (kOpt (EVf (EV cfg) 20 [.agg [.int .i64 kt,.int .i64 nt,.str st,.sl lt]]) λv=>kTup v λcs=>qf cs λc cs=>kSl c λrows_4=>qf cs λc cs=>kInt .i64 c λn_6=>kNil cs (kOpt (EVg (EV cfg) 21 [.agg [.int .i64 n_2,.int .i64 n_3,.str s_1,.sl rows_1],.sl (qAB n_4 rows_2)]) λV_2=>kTup V_2 λcs=>qf cs λc cs=>kSl c λrows_5=>qf cs λc cs=>kInt .i64 c λn_7=>kNil cs (kOpt (EVf (EV cfg) 22 [.agg [.int .i64 ke,.int .i64 ne,.str se,.sl le],.sl V]) λv=>kTup v λcs=>qf cs λc cs=>kSl c λrows_6=>qf cs λc cs=>kInt .i64 c λn_8=>kNil cs (bif n_5 != n_6 then some (.bool false)else bif n_7 != n_8 then some (.bool false)else kOpt (EVs (EV cfg) 16 [.sl rows_3,.sl rows_4]) λv=>qJ v λb=>bif ! b then some (.bool false)else kOpt (EVs (EV cfg) 16 [.sl rows_5,.sl rows_6]) λv=>qJ v λb=>bif ! b then some (.bool false)else kOpt (EVz (EV cfg) 23 (AV.rsl 0 rows_3)) λx=>kOpt (EVz (EV cfg) 23 (AV.rsl 0 rows_5)) λx=>kOpt (EVs (EV cfg) 14 [AV.agg [.int .i64 n,.int .i64 n_1,.str s,.sl rows],AV.agg [.int .i64 kt,.int .i64 nt,.str st,.sl lt]]) λv=>qJ v λb=>bif b then kOpt (EVs (EV cfg) 14 [AV.agg [.int .i64 n_2,.int .i64 n_3,.str s_1,.sl rows_1],AV.agg [.int .i64 ke,.int .i64 ne,.str se,.sl le]]) λv=>qJ v λb=>bif b then kOpt (EVw (EV cfg) 24 [AV.wr n_4 (.sl rows_2),.sl V]) λv=>qJ v λb=>bif b then kOpt (EVs (EV cfg) 17 []) λv=>qJ v λb=>some (.bool b)else some (.bool false)else some (.bool false)else some (.bool false)))))))) P):Gets (EVs (EV cfg) 4 [.agg [.int .i64 kt,.int .i64 nt,.str st,.sl lt],.agg [.int .i64 ke,.int .i64 ne,.str se,.sl le],.sl V]) P:=
  gE (λ_=>funS rfl rfl Tryz.func4 rfl) (by kernel_rfl) h
theorem qf3(L:Rz)(v2:Int){P:Unit->Prop}(h:Gets (bif decide (v2<(L.length:Int))then bif qe 0 v2&&qi v2 (L.length:Int)then kOpt (qAu L (v2.toNat)) λrow=>bif qAz (qAt row) 7 then qf (qAB 4 (qAO 3 row)) λc cs=>kInt .i64 c λn=>qf cs λc cs=>kInt .i64 c λn_1=>qf cs λc cs=>kStr c λs=>qf cs λc cs=>kSl c λrows=>kNil cs (kOpt (EVz (EV cfg) 15 (.agg [.int .i64 n,.int .i64 n_1,.str s,AV.rsl 0 rows])) λx=>kOpt (EVz (EV cfg) 15 (.agg [.int .i64 77,.int .i64 0,.str [],.sl []])) λx=>kOpt (EVz (EV cfg) 15 (.agg [.int .i64 0,.int .i64 0,.str [],.sl []])) λx=>bif qe 0 v2&&qi v2 (↑ (qAt L):Int)then kOpt (qAu L (v2.toNat)) λrow=>bif qAz (qAt row) 7 then bif qeC row&&true then qhm L (qAH .i64 (v2+1))else none else none else none)else none else none else some PUnit.unit) P):Gets (qhm L v2) P:=
  gE (λ_=>qt (cfg:=cfg) (f:=23) (rd:=none) (bs:=1)) (by kernel_rfl) h
end Go.Proofs.YtafdkafbgohigaaGreat.M
end
noncomputable section
namespace Go.Proofs.YtafdkafbgohigaaGreat
open Go.Av
theorem qpn:EVf (EV cfg) 190 [.agg [.int .i64 7,.int .i64 0,.str [],.sl [[.int .i64 2,.int .i64 0,.str [36,49],.sl []],[.int .i64 2,.int .i64 0,.str [97],.sl []]]]]=some (.sl [[.int .i64 1]]):=qnD (.nil) 1000 1000 (by kernel_rfl)
theorem qpm:EVf (EV cfg) 56 [.agg [.int .i64 9,.int .i64 0,.str [],.sl [[.int .i64 7,.int .i64 0,.str [],.sl [[.int .i64 7,.int .i64 0,.str [],.sl [[.int .i64 2,.int .i64 0,.str [36,49],.sl []],[.int .i64 2,.int .i64 0,.str [97],.sl []]]],[.int .i64 8,.int .i64 0,.str [],.sl []],[.int .i64 9,.int .i64 0,.str [],.sl [[.int .i64 2,.int .i64 0,.str [36,49],.sl []],[.int .i64 8,.int .i64 0,.str [],.sl []]]]]],[.int .i64 8,.int .i64 0,.str [],.sl []]]]]=some (.tup [.sl [[.int .i64 7,.int .i64 0,.str [],.sl [[.int .i64 2,.int .i64 0,.str [36,49],.sl []],[.int .i64 2,.int .i64 0,.str [97],.sl []]],.sl [],.sl [[.int .i64 2,.int .i64 0,.str [36,49],.sl []]]]],.int .i64 0]):=qnD (.consF qpn (.nil)) 1000 1000 (by kernel_rfl)
theorem qpl:EVf (EV cfg) 19 [.agg [.int .i64 9,.int .i64 0,.str [],.sl [[.int .i64 7,.int .i64 0,.str [],.sl [[.int .i64 7,.int .i64 0,.str [],.sl [[.int .i64 2,.int .i64 0,.str [36,49],.sl []],[.int .i64 2,.int .i64 0,.str [97],.sl []]]],[.int .i64 8,.int .i64 0,.str [],.sl []],[.int .i64 9,.int .i64 0,.str [],.sl [[.int .i64 2,.int .i64 0,.str [36,49],.sl []],[.int .i64 8,.int .i64 0,.str [],.sl []]]]]],[.int .i64 8,.int .i64 0,.str [],.sl []]]]]=some (.tup [.sl [[.int .i64 1,.int .i64 2,.int .i64 6,.int .i64 0,.int .i64 0,.str [],.sl []],[.int .i64 3,.int .i64 1,.int .i64 0,.int .i64 0,.int .i64 0,.str [],.sl []],[.int .i64 6,.int .i64 0,.int .i64 6,.int .i64 2,.int .i64 0,.str [97],.sl []],[.int .i64 18,.int .i64 0,.int .i64 0,.int .i64 0,.int .i64 0,.str [],.sl []],[.int .i64 8,.int .i64 1,.int .i64 0,.int .i64 0,.int .i64 0,.str [],.sl []],[.int .i64 20,.int .i64 0,.int .i64 0,.int .i64 0,.int .i64 0,.str [],.sl []]],.int .i64 0]):=qnD (.consF qpm (.nil)) 1000 1000 (by kernel_rfl)
theorem qpk:EVf (EV cfg) 12 [.sl [[.int .i64 1,.int .i64 2,.int .i64 6,.int .i64 0,.int .i64 0,.str [],.sl []],[.int .i64 3,.int .i64 1,.int .i64 0,.int .i64 0,.int .i64 0,.str [],.sl []],[.int .i64 6,.int .i64 0,.int .i64 6,.int .i64 2,.int .i64 0,.str [97],.sl []],[.int .i64 18,.int .i64 0,.int .i64 0,.int .i64 0,.int .i64 0,.str [],.sl []],[.int .i64 8,.int .i64 1,.int .i64 0,.int .i64 0,.int .i64 0,.str [],.sl []],[.int .i64 20,.int .i64 0,.int .i64 0,.int .i64 0,.int .i64 0,.str [],.sl []]],.agg [.int .i64 7,.int .i64 0,.str [],.sl [[.int .i64 2,.int .i64 0,.str [107],.sl []],[.int .i64 2,.int .i64 0,.str [97],.sl []]]],.int .i64 1]=some (.tup [.agg [.int .i64 2,.int .i64 0,.str [107],.sl []],.bool true,.int .i64 6,.int .i64 0]):=qnD (.nil) 1000 1000 (by kernel_rfl)
theorem qpo:EVs (EV cfg) 17 []=some (.bool true):=qAn (.consF qpl (.consF qpk (.nil))) 1000 1000 (by kernel_rfl)
def JB(v:AV):Prop:=∃b:Bool,v= .bool b
theorem qsp{l:List Tm}(hl:OkL l)(hlen:l.length<1099511627776):Gets (EVs (EV cfg) 8 [.sl (qa l)]) JB:=by
 have loop:∀(d i:Nat),i+d=l.length->Gets (qjG (qa l) i) JB:=by
  intro d
  induction d with
  |zero=>
   intro i hi;refine qia _ _ ?_;rw[qc,qBi (by omega)];exact⟨_,rfl,_,rfl⟩
  |succ d ihd=>
   intro i hi;refine qia _ _ ?_;have hil:i<l.length:=by omega
   have hxi:l[i]? =some l[i]:=qAv hil;have hb:=qxz (hl.get (qAJ hxi)) (most:=400) (by omega) (by omega);rw[qL hil hlen];simp[hil];refine Gets.bind hb ?_;rintro _ ⟨b,rfl,hbw⟩;cases b with
   |true=>exact⟨_,rfl,_,rfl⟩
   |false=>
    have hg:=ihd (i+1) (by omega)
    simpa using hg
 exact qqn _ (loop l.length 0 (by omega))
theorem qob{l:List InsA}(hx:∀x∈l,x.t.Ok)(hl:l.length<1099511627776):EVs (EV cfg) 16 [.sl (qd l),.sl (qd l)]=some (.bool true):=by
 apply Gets.get;refine qtQ _ _ ?_;have loop:∀(k i:Nat),l.length - i=k->i<=l.length->Gets (qho (qd l) (qd l) (i:Int)) (·= .bool true):=by
  intro k
  induction k with
  |zero=>
   intro i hk hi;refine qf6 _ _ _ ?_;rw[qBi (show ¬((i:Int)<((qd l).length:Int)) by rw[qu];omega),cond_false];exact⟨_,rfl,rfl⟩
  |succ k ih=>
   intro i hk hi;have hil:i<l.length:=by omega
   have g0:l[i]? =some l[i]:=qAv hil;refine qf6 _ _ _ ?_;have e0:decide ((i:Int)<((qd l).length:Int))=true:=qBh (by rw[qu];omega);have e1:(qe 0 (i:Int)&&qi (i:Int) ((qd l).length:Int))=true:=by rw[qu];simp;omega
   have e2:qAu (qd l) (qAR (i:Int))=some (l[i]).row:=by rw[qAS];exact qe0 g0
   have r0:qAu (l[i]).row 0=some (.int .i64 (l[i]).o):=rfl;have r1:qAu (l[i]).row 1=some (.int .i64 (l[i]).a):=rfl;have r2:qAu (l[i]).row 2=some (.int .i64 (l[i]).b):=rfl;have hs:=qge (hx l[i] (List.getElem_mem hil)) (b:=(l[i]).t) (c:=true) (by simp);simp only[e0,e1,e2,r0,r1,r2,qb,cond_true,cond_false,InsA.row_len,show qAz 7 7=true from rfl,show qAF 7 7=true from rfl,InsA.row_t,qD,qm,qT,xG,qR,q9,hs,bne_self_eq_false,qk,Bool.not_true]
   rw[qL hil hl];exact ih (i+1) (by omega) (by omega)
 have hb:(((qd l).length:Int) != ((qd l).length:Int))=false:=by simp
 have h0:=loop l.length 0 (by omega) (by omega)
 simpa [hb]using h0
def qzp:Den:=evC cfg (EV cfg) 66 none 0 (sub (qg Tryz.f66) [1,1,0,1,0,0])
def qzR:Ex×List AV×AH->Option AV:=kAft (Cfg.keepOut cfg 66 4) (kRun cfg (EV cfg) (kfN cfg 6) 66 none 0 (yK cfg (Cfg.lift cfg 66 0) Tryz.f66.results.toList) ([.block 0,.seq (sub (qg Tryz.f66) [1,1,1])]))
def qy6:List AV×AH->Option AV:=λp=>kOpt (LOOP 0 (some [0,1,5]) ([]) qzp p) qzR
abbrev qju(L M:Rz)(v5:Int):Option (AV):=qy6 (((fx 26 [(0,.sl L),(1,.sl M),(5,.int .i64 v5)]):List AV),([]:AH))
theorem qoa(L M:Rz){P:AV->Prop}(h:Gets (bif(L.length:Int) != (M.length:Int)then some (.bool false)else qju L M 0) P):Gets (EVs (EV cfg) 66 [.sl L,.sl M]) P:=
  gE (λ_=>funS rfl rfl Tryz.func66 rfl) (by kernel_rfl) h
theorem qhZ(L M:Rz)(v5:Int){P:AV->Prop}(h:Gets (bif decide (v5<(L.length:Int))then bif qe 0 v5&&qi v5 (L.length:Int)then kOpt (qAu L (v5.toNat)) λrow=>bif qAz (qAt row) 1 then kOpt (qAu row 0) λv=>kInt .i64 v λn=>bif qe 0 v5&&qi v5 (M.length:Int)then kOpt (qAu M (v5.toNat)) λrow=>bif qAz (qAt row) 1 then kOpt (qAu row 0) λv=>kInt .i64 v λn_1=>bif n != n_1 then some (.bool false)else qju L M (qAH .i64 (v5+1))else none else none else none else none else some (.bool true)) P):Gets (qju L M v5) P:=
  gE (λ_=>qt (cfg:=cfg) (f:=66) (rd:=none) (bs:=0)) (by kernel_rfl) h
theorem qp1{l m:List Int}(hl:l.length<1099511627776):EVs (EV cfg) 66 [.sl (ql l),.sl (ql m)]=some (.bool (decide (l=m))):=by
 apply Gets.get;refine qoa _ _ ?_;rw[qP,qP]
 by_cases hlm:l.length=m.length
 ·have e:((l.length:Int) != (m.length:Int))=false:=by rw[hlm];simp
  rw[e,cond_false];have loop:∀d i:Nat,i+d=l.length->Gets (qju (ql l) (ql m) i) (·= .bool (decide (l.drop i=m.drop i))):=by
   intro d
   induction d with
   |zero=>
    intro i hi;refine qhZ _ _ _ ?_;rw[qP,qBi (by omega),qAV (by omega),qAV (by omega)];exact⟨_,rfl,by simp⟩
   |succ d ih=>
    intro i hi;have hil:i<l.length:=by omega
    have him:i<m.length:=by omega
    refine qhZ _ _ _ ?_;have hx:l[i]? =some l[i]:=qAv hil;have hy:m[i]? =some m[i]:=qAv him;have hd:l.drop i=l[i]::l.drop (i+1):=qAT hil;have hd2:m.drop i=m[i]::m.drop (i+1):=qAT him;have h:=ih (i+1) (by omega);rw[qP,qP,qBh (show(i:Int)<(l.length:Int) by omega),qI,q8,q8,qBh hil,qBh him,qB,qB,qAS,zc,zc,hx,hy,qL hil hl,hd,hd2]
    by_cases he:l[i]=m[i]
    ·have hm:decide (l[i]::l.drop (i+1)=m[i]::m.drop (i+1))=decide (l.drop (i+1)=m.drop (i+1)):=decide_eq_decide.2 (by rw[List.cons_eq_cons];exact⟨λh=>h.2,λh=>⟨he,h⟩⟩);rw[hm]
     simpa [he]using h
    ·have hm:decide (l[i]::l.drop (i+1)=m[i]::m.drop (i+1))=false:=qBi (by rw[List.cons_eq_cons];exact λh=>he h.1);rw[hm];have hne:(l[i] != m[i])=true:=by simpa using he
     simp[hne,Gets]
  simpa using loop l.length 0 (by omega)
 ·have e:((l.length:Int) != (m.length:Int))=true:=by simp;omega
  rw[e,qBi (λh=>hlm (by rw[h]))];exact⟨_,rfl,rfl⟩
def qzG:Den:=evC cfg (EV cfg) 18 none 0 (sub (qg Tryz.f18) [1,1,1,0,1,0,0])
def qz8:Ex×List AV×AH->Option AV:=kAft (Cfg.keepOut cfg 18 4) (kRun cfg (EV cfg) (kfN cfg 6) 18 none 0 (qwY cfg (Cfg.lift cfg 18 0) Tryz.f18.results.toList) ([.block 0,.seq (sub (qg Tryz.f18) [1,1,1,1])]))
def qzh:List AV×AH->Option AV:=λp=>kOpt (LOOP 0 (some [0,3,4]) ([]) qzG p) qz8
abbrev qeo(V:Rz)(v4:Int)(h0:Rz):Option (AV):=qzh (((fx 29 [(0,.sl V),(3,.wr (qAR (qAH .i64 ((V.length:Int)+(3:Int)))) (.ms 0 0 (qAR (qAH .i64 ((V.length:Int)+(3:Int)))))),(4,.int .i64 v4)]):List AV),([.rows true 1 h0]:AH))
theorem qoA(V:Rz){P:AV->Prop}(h:Gets (bif decide (qAH .i64 ((V.length:Int)+3)=qAH .i64 ((V.length:Int)+3))then bif qe 0 (qAH .i64 ((↑ (qAt V):Int)+3))&&qe (qAH .i64 ((V.length:Int)+3)) (qAH .i64 ((V.length:Int)+3))&&qe (qAH .i64 ((↑ (qAt V):Int)+3)*8) 140737488355328&&qe (qAH .i64 ((V.length:Int)+3)) 9223372036854775807 then bif vq 1 V then bif qAF (0+qAR (qAH .i64 ((V.length:Int)+3))) (qAt (qAU (qAR (qAH .i64 ((V.length:Int)+3))) [AV.int .i64 0]))&&true then qeo V (V.length:Int) (qAG (qAB (qAR (qAH .i64 ((V.length:Int)+3))) V) (qAO (0+qAt (qAB (qAR (qAH .i64 ((V.length:Int)+3))) V)) (qAU (qAR (qAH .i64 ((V.length:Int)+3))) [AV.int .i64 0])))else none else none else none else none) P):Gets (EVw (EV cfg) 18 [.sl V]) P:=
  gE (λ_=>funW rfl rfl Tryz.func18 rfl) (by kernel_rfl) h
theorem qoD(n:Nat)(A V:Rz){P:AV->Prop}(h:Gets (bif(↑ (qAt (qAB n A)):Int)==(V.length:Int)then bif qe 0 (A.length:Int)&&qe (A.length:Int) (A.length:Int)then kOpt (EVw (EV cfg) 18 [.sl V]) λv=>kWr v λn rows=>bif qe 0 (qAH .i64 ((V.length:Int)+3))&&qe (qAH .i64 ((V.length:Int)+3)) (rows.length:Int)then bif qz 0 [.sl (qAB (qAR (A.length:Int)) A),.sl (qAB (qAR (qAH .i64 ((V.length:Int)+3))) rows)]then kOpt (EVs (EV cfg) 66 [.sl (qAB (qAR (A.length:Int)) A),.sl (qAB (qAR (qAH .i64 ((V.length:Int)+3))) rows)]) λv=>qJ v λb=>some (.bool b)else none else none else none else some (.bool false)) P):Gets (EVw (EV cfg) 24 [.wr n (.sl A),.sl V]) P:=
  gE (λ_=>funW rfl rfl Tryz.func24 rfl) (by kernel_rfl) h
theorem qib(V:Rz)(v4:Int)(h0:Rz){P:AV->Prop}(h:Gets (bif decide (v4<(↑ (qAR (qAH .i64 ((V.length:Int)+3))):Int))then bif qe 0 v4&&qi v4 (↑ (qAR (qAH .i64 ((↑ (qAt V):Int)+3))):Int)then kOpt (qAu h0 (0+v4.toNat)) λrow=>bif qAF 1 (qAt row)then qeo V (qAH .i64 (v4+(1:Int))) (List.set h0 (0+v4.toNat) (.int .i64 (qAH .i64 ((- 77) - v4))::qAO 1 row))else none else none else bif qe 0 (V.length:Int)&&qe (V.length:Int) (↑ (qAR (qAH .i64 ((V.length:Int)+3))):Int)then bif qAF (0+qAR (qAH .i64 ((↑ (qAt V):Int)+3))) (qAt h0)&&true then some (AV.wr (qAR (V.length:Int)) (.sl (qAB (qAR (qAH .i64 ((V.length:Int)+(3:Int)))) h0)))else none else none) P):Gets (qeo V v4 h0) P:=
  gE (λ_=>qt (cfg:=cfg) (f:=18) (rd:=none) (bs:=0)) (by kernel_rfl) h
end Go.Proofs.YtafdkafbgohigaaGreat
end
noncomputable section
namespace Go.Av
def qaC(n:Nat):List Int:=[-77 - ((n:Int)+0),-77 - ((n:Int)+1),-77 - ((n:Int)+2)]
def qki(V:List Int):AV:=.wr V.length (.sl (ql (V++qaC V.length)))
theorem quz(a b:List Int):ql (a++b)=ql a++ql b:=by simp[ql]
theorem qxu{α:Type}(A B:List α)(x:α){k:Nat}(h:A.length=k):(A++x::B)[k]? =some x:=by rw[qAP (by omega),h,Nat.sub_self];rfl
theorem qxi{α:Type}(A B:List α)(x y:α){k:Nat}(h:A.length=k):(A++x::B).set k y=A++y::B:=by rw[List.set_append_right _ _ (by omega),h,Nat.sub_self];rfl
theorem qjw{x:Int}(h0: -9223372036854775808<=x)(h1:x<=9223372036854775807):qAH .i64 x=x:=by
 simp[qAH,IntKind.bits,IntKind.signed];omega
end Go.Av
namespace Go.Proofs.YtafdkafbgohigaaGreat
open Go.Av
theorem qgA{V T:List Int}{m:Nat}(hV:V.length<1099511627776)(hT:T.length+(m+1)=3){P:AV->Prop}(h:Gets (qeo (ql V) ((V.length+T.length+1:Nat):Int) (ql (V++(T++[-77 - ((V.length:Int)+T.length)]))++qAU m [AV.int .i64 0])) P):
  Gets (qeo (ql V) ((V.length+T.length:Nat):Int) (ql (V++T)++qAU (m+1) [AV.int .i64 0])) P:=by
 have w3:qAH .i64 ((V.length:Int)+3)=((V.length+3:Nat):Int):=by rw[qjw (by omega) (by omega)];omega
 have w1:qAH .i64 (((V.length+T.length:Nat):Int)+1)=((V.length+T.length+1:Nat):Int):=by rw[qjw (by omega) (by omega)];omega
 have w2:qAH .i64 (-77 - ((V.length+T.length:Nat):Int))= -77 - ((V.length:Int)+T.length):=by rw[qjw (by omega) (by omega)];omega
 have hl:(ql (V++T)).length=V.length+T.length:=by rw[qP,qAI]
 refine qib _ _ _ ?_;rw[qP,w3,qAS,qBh (show((V.length+T.length:Nat):Int)<((V.length+3:Nat):Int) by omega),qI,show qi ((V.length+T.length:Nat):Int) ((V.length+3:Nat):Int)=true from qBh (by omega),
  qB,qA5,qAS,List.replicate_succ,qxu _ _ _ hl,w1,w2]
 have e:ql (V++T)++[AV.int .i64 (-77 - ((V.length:Int)+T.length))]::qAU m [AV.int .i64 0]=ql (V++(T++[-77 - ((V.length:Int)+T.length)]))++qAU m [AV.int .i64 0]:=by
  rw[←qA8,quz (V++T),qA8];rfl
 simp only[cond_true,qAM,qb,show qAF 1 [AV.int .i64 0].length=true from rfl,show qAO 1 [AV.int .i64 0]=[]from rfl];rw[qxi _ _ _ _ hl,e];exact h
theorem qiw{V:List Int}(hV:V.length<1099511627776):EVw (EV cfg) 18 [.sl (ql V)]=some (qki V):=by
 have w3:qAH .i64 ((V.length:Int)+3)=((V.length+3:Nat):Int):=by rw[qjw (by omega) (by omega)];omega
 apply Gets.get;refine qoA _ ?_;have e0:qAG (qAB (V.length+3) (ql V)) (qAO (0+(qAB (V.length+3) (ql V)).length) (qAU (V.length+3) [AV.int .i64 0]))=ql (V++[])++qAU (2+1) [AV.int .i64 0]:=by
  rw[qAE (by rw[qP];omega),qP,qA5,List.drop_replicate,List.append_nil,show V.length+3 - V.length=2+1 by omega];rfl
 rw[qP,w3,qAS,qBh rfl,qI,show qe ((V.length+3:Nat):Int) ((V.length+3:Nat):Int)=true from qBh (Int.le_refl _),show qe (((V.length+3:Nat):Int)*8) 140737488355328=true from qBh (by omega),
  show qe ((V.length+3:Nat):Int) 9223372036854775807=true from qBh (by omega),show vq 1 (ql V)=true by cases V<;>rfl,show qAF (0+(V.length+3)) (qAU (V.length+3) [AV.int .i64 0]).length=true by rw[qA2,List.length_replicate];omega,e0]
 simp only[cond_true,qAM];have l0:=λP h=>qgA (V:=V) (T:=[]) (m:=2) (P:=P) hV rfl h
 have l1:=λP h=>qgA (V:=V) (T:=[-77 - ((V.length:Int)+0)]) (m:=1) (P:=P) hV rfl h
 have l2:=λP h=>qgA (V:=V) (T:=[-77 - ((V.length:Int)+0),-77 - ((V.length:Int)+1)]) (m:=0) (P:=P) hV rfl h
 have hl:(ql (V++qaC V.length)).length=V.length+3:=by rw[qP,qAI];rfl
 have fin:Gets (qeo (ql V) ((V.length+3:Nat):Int) (ql (V++qaC V.length)++qAU 0 [AV.int .i64 0])) (·=qki V):=by
  rw[List.replicate_zero,List.append_nil];refine qib _ _ _ ?_;rw[qP,w3,qAS,qBi (by omega),qI,show qe ((V.length:Nat):Int) ((V.length+3:Nat):Int)=true from qBh (by omega),hl,qAS,
   show qAF (0+(V.length+3)) (V.length+3)=true by rw[qA2];omega,qAE (by rw[hl];exact qAA _)]
  exact⟨_,rfl,rfl⟩
 exact l0 _ (l1 _ (l2 _ fin))
theorem qqo{V:List Int}(hV:V.length<1000000):EVw (EV cfg) 24 [qki V,.sl (ql V)]=some (.bool true):=by
 have w3:qAH .i64 ((V.length:Int)+3)=((V.length+3:Nat):Int):=by rw[qjw (by omega) (by omega)];omega
 have hl:(ql (V++qaC V.length)).length=V.length+3:=by rw[qP,qAI];rfl
 have hs:=qp1 (l:=V++qaC V.length) (m:=V++qaC V.length) (by rw[←qP,hl];omega);have hk:=qiw (V:=V) (by omega);apply Gets.get;unfold qki at hk⊢;refine qoD _ _ _ ?_;rw[hk];have ht:qAB (V.length+3) (ql (V++qaC V.length))=ql (V++qaC V.length):=qAE (by rw[hl];exact qAA _);have hn:(qAB V.length (ql (V++qaC V.length))).length=V.length:=by rw[qA6,hl];omega
 rw[hn,hl,qP,w3,qAS,beq_self_eq_true,qI,show qe ((V.length+3:Nat):Int) ((V.length+3:Nat):Int)=true from qBh (Int.le_refl _)];simp only[cond_true,qAM,qb,kWr,hl,show qe ((V.length+3:Nat):Int) ((V.length+3:Nat):Int)=true from qBh (Int.le_refl _),ht,hs,decide_true,qk];rw[show qz 0 [AV.sl (ql (V++qaC V.length)),.sl (ql (V++qaC V.length))]=true from rfl]
 exact⟨_,rfl,rfl⟩
theorem qph{l:List Tm}(hlen:l.length<1099511627776)(ih:∀x∈l,EVf (EV cfg) 11 [x.av]=some x.av):
  EVo (EV cfg) 41 [.sl (qa l)]=some (OV.own 4 (qa l) 0 l.length):=by
 have loop:∀d i:Nat,i+d=l.length->Gets (qjy (qa l) i i (qa (l.take i))) (·=OV.own 4 (qa l) 0 l.length):=by
  intro d
  induction d with
  |zero=>
   intro i hi;refine qh2 _ _ _ _ ?_;obtain rfl:i=l.length:=by omega
   rw[qc,qBi (by omega),List.take_length];exact⟨_,rfl,rfl⟩
  |succ d ihd=>
   intro i hi;have hil:i<l.length:=by omega
   refine qh2 _ _ _ _ ?_;have hx:l[i]? =some l[i]:=qAv hil;have h1:=ih l[i] (qAJ hx);have h2:=ihd (i+1) (by omega);have e1:l.take (i+1)=l.take i++[l[i]]:=by rw[List.take_add_one,hx];rfl
   have ht:(qa (l.take i)).length=i:=by rw[qc,qA6];omega
   have e2:qAG (qAB i (qa (l.take i))) [l[i].cells]=qa (l.take (i+1)):=by
    rw[qAE (by omega),e1,vH,qK,vj];rfl
   have e3:qAF (0+i) (qa (l.take i)).length=true:=by rw[ht,qA2];omega
   rw[qc,qBh (show(i:Int)<(l.length:Int) by omega),qI,q8,qBh hil,ye hx,qL hil hlen,e3,zw (by omega)];simp only[cond_true,qAM,qv,qA1,qG,qF,show qAF 4 4=true from rfl,q9,h1,qb,qaG];rw[←Tm.cells_eq,e2];exact h2
 apply Gets.get;exact qdA _ (by simpa [vj]using loop l.length 0 (by omega))
theorem qiE(t:Tm):t.w<1099511627776->EVf (EV cfg) 11 [t.av]=some t.av:=by
 induction t using Tm.ind with
 |_ k n s l ih=>
  intro hw;rw[Tm.w_mk]at hw;have hlen:=xw l;have h:=qph (l:=l) (by omega) λx hx=>ih x hx (by have:=vV hx;omega)
  apply Gets.get;rw[Tm.av_mk];refine qd1 _ _ _ _ ?_;rw[h];have e:(qAF (0+l.length) (qa l).length&&true)=true:=by rw[Bool.and_true,qA2,qc];omega
  have e2:qAB l.length (qAO 0 (qa l))=qa l:=qAE (by simp);show Gets (bif(qAF (0+l.length) (qa l).length&&true)then some (AV.agg [.int .i64 k,.int .i64 n,.str s,.sl (qAB l.length (qAO 0 (qa l)))])else none) _;rw[e,e2];exact⟨_,rfl,rfl⟩
end Go.Proofs.YtafdkafbgohigaaGreat
end
noncomputable section
namespace Go.Av
theorem qtZ{L:Lent}{C:qh}{μ:MMap}(l:List Int){v:Value}(h: @Rep L C μ (.sl (ql l)) v):Rep0 C (.sl (ql l)) v:=by
 generalize hR:ql l=R at h;cases h with
 |slNil=>exact .slNil
 |sl _ a cap sz vals hs hsz hc hr hcell hcap hfree=>
  refine .sl R a cap sz vals hs hsz hc (λi j row x h1 h2=>?_) hcell hcap hfree;have hrep:=hr i j row x h1 h2;rw[←hR,zc]at h1;cases hl:l[i]? with
  |none=>rw[hl]at h1;cases h1
  |some t=>
   rw[hl]at h1;cases h1
   match j,h2 with
   |0,h2=>cases h2;generalize vals i 0=u at hrep⊢;cases hrep;exact .int _ _
   |j+1,h2=>simp at h2
theorem qsL(l:List Int):zo (.sl (ql l)):=.sl λL C μ v h=> @qtZ L C μ l v h
theorem qAk(l:List Go.Proofs.YtafdkafbgohigaaGreat.InsA):neR (Go.Proofs.YtafdkafbgohigaaGreat.qd l)=true:=by cases l<;>rfl
theorem qyJ{α:Type}(n:Nat)(rs:List (List AV))(K:Nat->List (List AV)->Option α):kWr (.wr n (.sl rs)) K=K n rs:=rfl
theorem kMkT{α:Type}(rs:List (List AV))(e:Int)(K:List (List AV)->Int->Option α):(kTup (.tup [.sl rs,.int .i64 e]) λcs=>qf cs λc cs=>kSl c λrows=>qf cs λc cs=>kInt .i64 c λn=>kNil cs (K rows n))=K rs e:=rfl
end Go.Av
namespace Go.Proofs.YtafdkafbgohigaaGreat.M
open Go.Av
theorem qri(l:List InsA)(e:Int):(AV.tup [.sl (qd l),.int .i64 e]).neT=true:=by
 show([AV.sl (qd l),.int .i64 e]).all AV.neT1=true;simp[AV.neT1,AV.neT0,qAk]
theorem qqT{t:Tm}(hw:t.w<549755813888):EVg (EV cfg) 19 [t.av]=some (.tup [.sl (qd (qaN t).1),.int .i64 (qaN t).2]):=
 qw2 rfl (N.qqS hw) (λa ha=>by rw[List.mem_singleton]at ha;subst ha;exact N.qoV t) (qri _ _) rfl
abbrev xprT(V:List Int)(t:Tm):List InsA:=if vP V t=0 then qp t 0 else[]
theorem qw9{V:List Int}(hV:V.length<1099511627776){t:Tm}(ht:t.w<1099511627776):EVg (EV cfg) 21 [t.av,.sl (ql V)]=some (.tup [.sl (qd (xprT V t)),.int .i64 (vP V t)]):=
 qw2 rfl (N.qw8 hV ht) (λa ha=>by
  simp only[qAZ,List.not_mem_nil,or_false]at ha;rcases ha with rfl|rfl
  ·exact N.qoV t
  ·exact qsL V) (qri _ _) rfl
theorem qmm{l:List InsA}(hx:∀x∈l,x.t.Ok)(hl:l.length<1099511627776):EVz (EV cfg) 23 (.rsl 0 (qd l))=some ():=by
 have loop:∀(d i:Nat),i+d=l.length->Gets (qhm (qd l) i) (·=()):=by
  intro d
  induction d with
  |zero=>
   intro i hi;refine qf3 _ _ ?_;rw[qu,qBi (by omega)];exact⟨_,rfl,rfl⟩
  |succ d ih=>
   intro i hi;have hil:i<l.length:=by omega
   have g0:l[i]? =some l[i]:=qAv hil;refine qf3 _ _ ?_;have e1:(qe 0 (i:Int)&&qi (i:Int) ((qd l).length:Int))=true:=by rw[qu];simp;omega
   have e2:qAu (qd l) (qAR (i:Int))=some (l[i]).row:=by rw[qAS];exact qe0 g0
   have ho:=que (hx l[i] (List.getElem_mem hil));have h1:=ih (i+1) (by omega);have hr:qeC l[i].row=true:=by rw[InsA.row,Tm.cells_eq];rfl
   have hE1:=qi0 77 0 [];have hE2:=qi0 0 0 [];rw[qBh (show(i:Int)<((qd l).length:Int) by rw[qu];omega),e1,e2,qL hil hl];simp -implicitDefEqProofs only[cond_true,qb,InsA.row_len,show qAz 7 7=true from rfl,InsA.row_t,qD,qm,qT,xG,qR,ho,hE1,hE2,hr,qAM];exact h1.mono λ_ _=>trivial
 apply Gets.get;exact qsi _ (loop l.length 0 (by omega))
theorem codeMakes_ev{t e:Tm}(ht:t.w<=1048576)(he:e.w<=1048576){V:List Int}(hV:V.length<=1048576):EVs (EV cfg) 4 [t.av,e.av,.sl (ql V)]=some (.bool true):=by
 have wt:t.w<1099511627776:=by omega
 have we:e.w<1099511627776:=by omega
 have hA:∀x:Tm,x.av= .agg [.int .i64 x.kind,.int .i64 x.num,.str x.str,.sl (qa x.subs)]:=λx=>by rw[Tm.av,Tm.cells_eq]
 have h1:=qsp (l:=[t,e]) (qvT (by rw[qA,qA,xu];omega)) (by simp);have hr:qa [t,e]=[[AV.int .i64 t.kind,.int .i64 t.num,.str t.str,.sl (qa t.subs)],[AV.int .i64 e.kind,.int .i64 e.num,.str e.str,.sl (qa e.subs)]]:=by rw[qK,qK,vj,Tm.cells_eq,Tm.cells_eq]
 rw[←qnF _ rfl rfl,hr]at h1;have h2:=qiE t wt;have h3:=qiE e we;have h4:=qiw (V:=V) (by omega);have h5:=qqT (t:=t) (by omega);have h6:=quP (t:=t) (by omega);have h7:=qw9 (V:=V) (by omega) we;have h8:EVf (EV Go.Proofs.YtafdkafbgohigaaGreat.cfg) 22 [e.av,.sl (ql V)]=some (.tup [.sl (qd (xprT V e)),.int .i64 (vP V e)]):=qwg (V:=V) (by omega) we
 obtain⟨hcw,hcl⟩:=qxx (t:=t) (by omega);have hct:∀x∈(qaN t).1,x.t.Ok:=λx hx=>qbk _ (hcw x hx)
 have hxt:∀x∈xprT V e,x.t.Ok:=λx hx=>qbk _ (by
  unfold xprT at hx;split at hx
  ·have:=(qad e 0 x hx).2;omega
  ·cases hx)
 have hxl:(xprT V e).length<1099511627776:=by
  unfold xprT;split
  ·have:=xi e 0;omega
  ·simp
 have h9:=qob hct hcl;have h10:=qob hxt hxl;have h11:=qmm hct hcl;have h12:=qmm hxt hxl;have h13:EVs (EV Go.Proofs.YtafdkafbgohigaaGreat.cfg) 14 [t.av,t.av]=some (.bool true):=qge (qbk _ wt) (by simp);have h14:EVs (EV Go.Proofs.YtafdkafbgohigaaGreat.cfg) 14 [e.av,e.av]=some (.bool true):=qge (qbk _ we) (by simp);have h16:=qpo;rw[←qnF _ rfl rfl]at h9 h10 h13 h14 h16
 rw[←qnH _ rfl rfl]at h2 h3 h6 h8;rw[←qsU _ rfl rfl]at h4;apply Gets.get;rw[hA t,hA e];refine qna _ _ _ _ _ _ _ _ _ ?_;refine Gets.bind h1 ?_;rintro _ ⟨b,rfl⟩;cases b with
 |true=>exact⟨_,rfl,rfl⟩
 |false=>
  by_cases h200:V.length<=200
  case neg=>
   rw[qP];simp -implicitDefEqProofs only[qk,cond_false,qBh (show(V.length:Int)>200 by omega),cond_true];exact⟨_,rfl,rfl⟩
  have hk:qAB V.length (ql (V++qaC V.length))=ql V:=by
   rw[quz];have:=List.take_left (l₁:=ql V) (l₂:=ql (qaC V.length));rw[qP]at this;exact this
  have h15:=qqo (V:=V) (by omega);rw[←qsU _ rfl rfl]at h15;unfold qki at h4 h15;generalize qaN t=c at *;generalize xprT V e=x at *;rw[qP];simp -implicitDefEqProofs only[qk,cond_false,qBi (show ¬(V.length:Int)>200 by omega),q9,h2,h3,qb,qaG,h4,qyJ,h5,kMkT,h6,hk,h7,h8,bne_self_eq_false,h9,h10,Bool.not_true,h11,h12,h13,h14,h15,h16,cond_true];exact⟨_,rfl,rfl⟩
end Go.Proofs.YtafdkafbgohigaaGreat.M
end
noncomputable section
namespace Go.Proofs.YtafdkafbgohigaaGreat
open Go.Av
theorem qxr{n:Nat}{cz:List AV}(h:Lay Tryz.prog n 3 cz):∃k:Int,cz=[.int .i64 k]∧0<wtL cz:=by
 cases n with
 |zero=>exact absurd h (by unfold Lay;exact id)
 |succ n=>
  unfold Lay at h;rw[Tryz.underlying3]at h;obtain⟨k,rfl,_⟩:=h;exact⟨k,rfl,by simp⟩
def qkG:List TypeId:=[40,3]
theorem qsM:∀t∈qkG,qgR Tryz.prog qkG t=true:=by
 have:qkG.all (qgR Tryz.prog qkG)=true:=by kernel_rfl
 exact qBd.1 this
theorem qug{H:Type}{enc:TypeId×Value->H}{W:World}{r:Reach}{b0:Nat}{v:Value}{d:DataW H}{ps:List MemPlace}(hval:Value.okWide Tryz.prog W r b0 40 v)(hd:DataW.Trod enc Tryz.prog W 0 (λ_=>true) true 40 v d ps):
  ∃l:List Int,Opened enc Tryz.prog W 40 v d ps (.sl (ql l))∧l.length<=Rows.uptoBulk d:=by
 obtain⟨rows,n,h1,h2,h3⟩:=qsj qsM (by simp[qkG]) Tryz.underlying40 hval hd;obtain⟨l,rfl,w1,w2⟩:=qv0 (f:=λk:Int=>[AV.int .i64 k]) (w:=λ_=>0) (λcz h=>qxr h) rows h2;exact⟨l,h1,by omega⟩
end Go.Proofs.YtafdkafbgohigaaGreat
end
