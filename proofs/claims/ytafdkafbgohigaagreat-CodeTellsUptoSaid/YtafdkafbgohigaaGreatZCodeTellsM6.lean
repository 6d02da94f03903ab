/-
  Parts of the proof of CodeTellsUptoSaid, put together: the abstract evaluation and its contracts. Own work.
  What is proved: each lemma as it stands; no condition.
-/
import Derived.Test.YtafdkafbgohigaaGreatZCodeTellsM5
open List renaming length → qBe, get?Internal → qBg, getElem?_eq_getElem → qBk, take → qBm, getElem?_eq_some_iff → qBn, length_append → qBr, take_of_length_le → qBt, getElem?_append_left → qBx, mem_of_getElem? → qBy, getElem?_append_right → qBz, append → qBA, getElem?_set → qBC, length_map → qBE, mem_append → qBF, mem_cons → qBG, replicate → qBI, drop_eq_getElem_cons → qBJ, length_cons → qBK, getElem?_cons_zero → qBP, getElem?_cons_succ → qBQ, drop_eq_nil_of_le → qBR, take_length → qBS, range → qBT, drop → qBU, length_take → qBW, map_cons → qBZ
open Go.IntKind renaming wrap → qBf, i64 → qB2
open Nat renaming beq → qBh, eq_of_beq_eq_true → qBo, le_refl → qBp, ble → qBv, mul_le_mul_right → qBH, beq_refl → qBL, ble_eq → qBN, add_assoc → qBO, blt_eq → qBY, zero_add → qB0
open Bool renaming and_eq_true → qBi, false_eq_true → qBu, and_self → qBw, true_and → qBV, not_true → qB1
open Int renaming toNat → qBj, toNat_natCast → qBB, reduceEq → qBX
open Option renaming bind_eq_some_iff → qBl, map_eq_some_iff → qBq, bind_some → qBs, map_some → qBD
open Array renaming toList → qBM
set_option maxRecDepth 1000000
set_option maxHeartbeats 0
noncomputable section
namespace Go.Proofs.YtafdkafbgohigaaGreat
open Go.Av
def qyK:Den:=evC cfg (EV cfg) 12 none 0 (sub (qg Tryz.f12) [1,0,1,1,1,1,1,0,0,0])
def qyQ:Ex×List AV×AH->Option AV:=kAft (Cfg.keepOut cfg 12 6) (kRun cfg (EV cfg) (kfN cfg 6) 12 none 0 (xz cfg (Cfg.lift cfg 12 0) Tryz.f12.results.toList) ([.block 0,.seq (sub (qg Tryz.f12) [1,0,1,1,1,1,1,1]),.scope]))
def qyG:List AV×AH->Option AV:=λp=>kOpt (LOOP 0 (some [0,6,10,11,12]) ([]) qyK p) qyQ
abbrev qba(L:Rz)(v11 v12 c0_0 c0_1:Int)(c0_2:Bz)(c0_3:Rz)(c1_0 c1_1:Int)(c1_2:Bz)(c1_3:Rz)(c1_4:Int)(nc1_5 nc1_6:Nat)(c1_8:Bool)(h2 h3:Rz)(m4:List (AV×AV)):Option (AV):=qyG (((fx 120 [(0,.sl L),(6,.ptr 0 0 0),(10,.ptr 1 0 0),(11,.int .i64 v11),(12,.int .i64 v12)]):List AV),([.rows false 4 [[.int .i64 c0_0,.int .i64 c0_1,.str c0_2,.sl c0_3]],.rows false 9 [[.int .i64 c1_0,.int .i64 c1_1,.str c1_2,.sl c1_3,.int .i64 c1_4,.ms 2 0 nc1_5,.ms 3 0 nc1_6,.mp 4,.bool c1_8]],.rows true 4 h2,.rows true 4 h3,.mp true m4]:AH))
abbrev zz0:Option (AV):=some (AV.tup [.agg [.int .i64 0,.int .i64 0,.str [],.sl []],.bool false,.int .i64 0,.int .i64 2])
theorem quB(L:Rz)(k n:Int)(s:Bz)(l:Rz)(self:Int){P:AV->Prop}(h:Gets (bif k != 7 then zz0 else kOpt (EVs (EV cfg) 42 [.agg [.int .i64 k,.int .i64 n,.str s,.sl l]]) λv=>qu v λb=>bif ! b then zz0 else bif decide (self<1)then zz0 else bif decide (self>1073741824)then zz0 else kOpt (EVj (EV cfg) 43 1 [.ptr 0 0 0] [.rows false 9 [[AV.int .i64 k,.int .i64 n,.str s,.sl l,.int .i64 self,.ms 1 0 0,.ms 2 0 0,AV.nilM,.bool false]],.rows true 4 [],.rows true 4 []]) λq=>qf q.2 λb bs=>qj b λd' n rs=>bif beqB false d'&&qBh n 9 then qN rs λrow rest=>qX rest (qf bs λb bs=>qj b λd' n rs=>bif beqB true d'&&qBh n 4 then qf bs λb bs=>qj b λd' n rs_1=>bif beqB true d'&&qBh n 4 then qf bs λb bs=>kMpB b λd' es=>bif beqB true d' then qT bs (qa row λc cs=>kInt .i64 c λn=>qa cs λc cs=>kInt .i64 c λn_1=>qa cs λc cs=>kStr c λs=>qa cs λc cs=>kSl c λrows=>qa cs λc cs=>kInt .i64 c λn_2=>qa cs λc cs=>kMsE c λid off len=>bif qBh id 1&&(qBh off 0&&qBh len (qBe rs))then qa cs λc cs=>kMsE c λid off len=>bif qBh id 2&&(qBh off 0&&qBh len (qBe rs_1))then qa cs λc cs=>kMpE c λid=>bif qBh id 3 then qa cs λc cs=>qu c λb=>kNil cs (qba L 0 0 0 0 [] [] n n_1 s rows n_2 (qBe rs) (qBe rs_1) b rs rs_1 es)else none else none else none)else none else none else none)else none) P):Gets (EVf (EV cfg) 12 [.sl L,.agg [.int .i64 k,.int .i64 n,.str s,.sl l],.int .i64 self]) P:=
  gE (λ_=>funF rfl rfl Tryz.func12 rfl) (by kernel_rfl) h
abbrev zz1:Option (AV):=some (AV.tup [AV.agg [.int .i64 0,.int .i64 0,.str [],.sl []],.bool false,.int .i64 0,.int .i64 9])
abbrev zz10(rest:Rz)(bs:AH)(row:List AV)(L:Rz)(v11 n_1 c0_0 c0_1:Int)(c0_2:Bz)(c0_3:Rz):Option (AV):=qX rest (qf bs λb bs=>qj b λd' n rs=>bif beqB true d'&&qBh n 4 then qf bs λb bs=>qj b λd' n rs_2=>bif beqB true d'&&qBh n 4 then qf bs λb bs=>kMpB b λd' es=>bif beqB true d' then qT bs (qa row λc cs=>kInt .i64 c λn=>qa cs λc cs=>kInt .i64 c λn_12=>qa cs λc cs=>kStr c λs=>qa cs λc cs=>kSl c λrows=>qa cs λc cs=>kInt .i64 c λn_13=>qa cs λc cs=>kMsE c λid off len=>bif qBh id (1:Nat)&&(qBh off (0:Nat)&&qBh len (qBe rs))then qa cs λc cs=>kMsE c λid off len=>bif qBh id (2:Nat)&&(qBh off (0:Nat)&&qBh len (qBe rs_2))then qa cs λc cs=>kMpE c λid=>bif qBh id (3:Nat)then qa cs λc cs=>qu c λb=>kNil cs (qba L (qBf .i64 (v11+1)) n_1 c0_0 c0_1 c0_2 c0_3 n n_12 s rows n_13 (qBe rs) (qBe rs_2) b rs rs_2 es)else none else none else none)else none else none else none)
abbrev zz9(rs:Rz)(bs:AH)(L:Rz)(v11 n_1 c0_0 c0_1:Int)(c0_2:Bz)(c0_3:Rz):Option (AV):=qN rs λrow rest=>zz10 rest bs row L v11 n_1 c0_0 c0_1 c0_2 c0_3
abbrev zz8(d':Bool)(n:Nat)(rs:Rz)(bs:AH)(L:Rz)(v11 n_1 c0_0 c0_1:Int)(c0_2:Bz)(c0_3:Rz):Option (AV):=bif beqB false d'&&qBh n 9 then zz9 rs bs L v11 n_1 c0_0 c0_1 c0_2 c0_3 else none
abbrev zz7(b:ABlk)(bs:AH)(L:Rz)(v11 n_1 c0_0 c0_1:Int)(c0_2:Bz)(c0_3:Rz):Option (AV):=qj b λd' n rs=>zz8 d' n rs bs L v11 n_1 c0_0 c0_1 c0_2 c0_3
abbrev zz6(q:AV×AH)(L:Rz)(v11 n_1 c0_0 c0_1:Int)(c0_2:Bz)(c0_3:Rz):Option (AV):=qf q.2 λb bs=>zz7 b bs L v11 n_1 c0_0 c0_1 c0_2 c0_3
abbrev zz5(n_8 n_9:Int)(s:Bz)(rows:Rz)(n_10:Int)(rs rs_1:Rz)(b:Bool)(es:List (AV×AV))(L:Rz)(v11 n_1 c0_0 c0_1:Int)(c0_2:Bz)(c0_3:Rz):Option (AV):=kOpt (EVj (EV cfg) 43 1 [.ptr 0 0 0] [.rows false 9 [[AV.int .i64 n_8,.int .i64 n_9,.str s,.sl rows,.int .i64 n_10,.ms 1 0 (qBe rs),.ms 2 0 (qBe rs_1),AV.mp 3,.bool b]],.rows true 4 (qBm (qBe rs) rs),.rows true 4 (qBm (qBe rs_1) rs_1),ABlk.mp true es]) λq=>zz6 q L v11 n_1 c0_0 c0_1 c0_2 c0_3
abbrev zz11(n_11 n_8 n_9:Int)(s:Bz)(rows:Rz)(n_10:Int)(rs rs_1:Rz)(b:Bool)(es:List (AV×AV))(L:Rz)(v11 n_1 c0_0 c0_1:Int)(c0_2:Bz)(c0_3:Rz):Option (AV):=bif n_11==1 then zz5 n_8 n_9 s rows n_10 rs rs_1 b es L v11 n_1 c0_0 c0_1 c0_2 c0_3 else qba L (qBf .i64 (v11+1)) n_1 c0_0 c0_1 c0_2 c0_3 n_8 n_9 s rows n_10 (qBe rs) (qBe rs_1) b rs rs_1 es
abbrev zz4(n_11 n_8 n_9:Int)(s:Bz)(rows:Rz)(n_10:Int)(rs rs_1:Rz)(b:Bool)(es:List (AV×AV))(L:Rz)(v11 n_1 c0_0 c0_1:Int)(c0_2:Bz)(c0_3:Rz):Option (AV):=bif n_11==3 then zz5 n_8 n_9 s rows n_10 rs rs_1 b es L v11 n_1 c0_0 c0_1 c0_2 c0_3 else zz11 n_11 n_8 n_9 s rows n_10 rs rs_1 b es L v11 n_1 c0_0 c0_1 c0_2 c0_3
abbrev zz3(n_1:Int)(L:Rz)(n_11 n_8 n_9:Int)(s:Bz)(rows:Rz)(n_10:Int)(rs rs_1:Rz)(b:Bool)(es:List (AV×AV))(v11 c0_0 c0_1:Int)(c0_2:Bz)(c0_3:Rz):Option (AV):=bif decide (n_1>(L.length:Int))then zz1 else zz4 n_11 n_8 n_9 s rows n_10 rs rs_1 b es L v11 n_1 c0_0 c0_1 c0_2 c0_3
abbrev zz2(n_1 v12:Int)(L:Rz)(n_11 n_8 n_9:Int)(s:Bz)(rows:Rz)(n_10:Int)(rs rs_1:Rz)(b:Bool)(es:List (AV×AV))(v11 c0_0 c0_1:Int)(c0_2:Bz)(c0_3:Rz):Option (AV):=bif decide (n_1<=v12)then zz1 else zz3 n_1 L n_11 n_8 n_9 s rows n_10 rs rs_1 b es v11 c0_0 c0_1 c0_2 c0_3
abbrev zz13:Option (AV):=some (AV.tup [AV.agg [.int .i64 0,.int .i64 0,.str [],.sl []],.bool false,.int .i64 (0:Int),.int .i64 9])
abbrev zz12(n_2 v12:Int)(L:Rz)(n_11 n_8 n_9:Int)(s:Bz)(rows:Rz)(n_10:Int)(rs rs_1:Rz)(b:Bool)(es:List (AV×AV))(v11 c0_0 c0_1:Int)(c0_2:Bz)(c0_3:Rz):Option (AV):=bif decide (n_2<=v12)then zz13 else zz3 n_2 L n_11 n_8 n_9 s rows n_10 rs rs_1 b es v11 c0_0 c0_1 c0_2 c0_3
abbrev zz19(rest:Rz)(bs:AH)(row:List AV)(L:Rz)(v11 v12 c0_0 c0_1:Int)(c0_2:Bz)(c0_3:Rz):Option (AV):=qX rest (qf bs λb bs=>qj b λd' n rs=>bif beqB true d'&&qBh n 4 then qf bs λb bs=>qj b λd' n rs_2=>bif beqB true d'&&qBh n 4 then qf bs λb bs=>kMpB b λd' es=>bif beqB true d' then qT bs (qa row λc cs=>kInt .i64 c λn=>qa cs λc cs=>kInt .i64 c λn_12=>qa cs λc cs=>kStr c λs=>qa cs λc cs=>kSl c λrows=>qa cs λc cs=>kInt .i64 c λn_13=>qa cs λc cs=>kMsE c λid off len=>bif qBh id (1:Nat)&&(qBh off (0:Nat)&&qBh len (qBe rs))then qa cs λc cs=>kMsE c λid off len=>bif qBh id (2:Nat)&&(qBh off (0:Nat)&&qBh len (qBe rs_2))then qa cs λc cs=>kMpE c λid=>bif qBh id (3:Nat)then qa cs λc cs=>qu c λb=>kNil cs (qba L (qBf .i64 (v11+1)) (qBf .i64 (v12+1)) c0_0 c0_1 c0_2 c0_3 n n_12 s rows n_13 (qBe rs) (qBe rs_2) b rs rs_2 es)else none else none else none)else none else none else none)
abbrev zz18(rs:Rz)(bs:AH)(L:Rz)(v11 v12 c0_0 c0_1:Int)(c0_2:Bz)(c0_3:Rz):Option (AV):=qN rs λrow rest=>zz19 rest bs row L v11 v12 c0_0 c0_1 c0_2 c0_3
abbrev zz17(d':Bool)(n:Nat)(rs:Rz)(bs:AH)(L:Rz)(v11 v12 c0_0 c0_1:Int)(c0_2:Bz)(c0_3:Rz):Option (AV):=bif beqB false d'&&qBh n 9 then zz18 rs bs L v11 v12 c0_0 c0_1 c0_2 c0_3 else none
abbrev zz16(b:ABlk)(bs:AH)(L:Rz)(v11 v12 c0_0 c0_1:Int)(c0_2:Bz)(c0_3:Rz):Option (AV):=qj b λd' n rs=>zz17 d' n rs bs L v11 v12 c0_0 c0_1 c0_2 c0_3
abbrev zz15(q:AV×AH)(L:Rz)(v11 v12 c0_0 c0_1:Int)(c0_2:Bz)(c0_3:Rz):Option (AV):=qf q.2 λb bs=>zz16 b bs L v11 v12 c0_0 c0_1 c0_2 c0_3
abbrev zz14(n_8 n_9:Int)(s:Bz)(rows:Rz)(n_10:Int)(rs rs_1:Rz)(b:Bool)(es:List (AV×AV))(L:Rz)(v11 v12 c0_0 c0_1:Int)(c0_2:Bz)(c0_3:Rz):Option (AV):=kOpt (EVj (EV cfg) 43 1 [.ptr 0 0 0] [.rows false 9 [[AV.int .i64 n_8,.int .i64 n_9,.str s,.sl rows,.int .i64 n_10,.ms 1 0 (qBe rs),.ms 2 0 (qBe rs_1),AV.mp 3,.bool b]],.rows true 4 (qBm (qBe rs) rs),.rows true 4 (qBm (qBe rs_1) rs_1),ABlk.mp true es]) λq=>zz15 q L v11 v12 c0_0 c0_1 c0_2 c0_3
theorem qg5(L:Rz)(v11 v12 c0_0 c0_1:Int)(c0_2:Bz)(c0_3:Rz)(c1_0 c1_1:Int)(c1_2:Bz)(c1_3:Rz)(c1_4:Int)(nc1_5 nc1_6:Nat)(c1_8:Bool)(h2 h3:Rz)(m4:List (AV×AV)){P:AV->Prop}(h:Gets (bif decide (v12<(L.length:Int))then bif qh 0 v12&&qn v12 (L.length:Int)then kOpt (qBg L (v12.toNat)) λrow=>bif qBh (qBe row) 7 then bif qBv 7 (qBe row)then qa (qBm 7 row) λc cs=>kInt .i64 c λn=>qa cs λc cs=>kInt .i64 c λn_1=>qa cs λc cs=>kInt .i64 c λn_2=>kTmC cs λn_3 n_4 s rows=>(kOpt (EVj (EV cfg) 44 1 [.ptr 0 0 0,.agg [.int .i64 n,.int .i64 n_1,.int .i64 n_2,.int .i64 n_3,.int .i64 n_4,.str s,.sl rows]] [.rows false 9 [[AV.int .i64 c1_0,.int .i64 c1_1,.str c1_2,.sl c1_3,.int .i64 c1_4,.ms 1 0 nc1_5,.ms 2 0 nc1_6,AV.mp 3,.bool c1_8]],.rows true 4 (qBm nc1_5 h2),.rows true 4 (qBm nc1_6 h3),ABlk.mp true m4]) λq=>qf q.2 λb bs=>qj b λd' n_5 rs=>bif beqB false d'&&qBh n_5 9 then qN rs λrow rest=>qX rest (qf bs λb bs=>qj b λd' n_6 rs=>bif beqB true d'&&qBh n_6 4 then qf bs λb bs=>qj b λd' n_7 rs_1=>bif beqB true d'&&qBh n_7 4 then qf bs λb bs=>kMpB b λd' es=>bif beqB true d' then qT bs (qa row λc cs=>kInt .i64 c λn_8=>qa cs λc cs=>kInt .i64 c λn_9=>qa cs λc cs=>kStr c λs=>qa cs λc cs=>kSl c λrows=>qa cs λc cs=>kInt .i64 c λn_10=>qa cs λc cs=>kMsE c λid off len=>bif qBh id 1&&(qBh off 0&&qBh len (qBe rs))then qa cs λc cs=>kMsE c λid off len=>bif qBh id 2&&(qBh off 0&&qBh len (qBe rs_1))then qa cs λc cs=>kMpE c λid=>bif qBh id 3 then qa cs λc cs=>qu c λb=>kNil cs (kInt .i64 q.1 λn_11=>bif n_11==4 then bif qh 0 (qBf .i64 ((rs_1.length:Int) - 1))&&qn (qBf .i64 ((↑ (qBe rs_1):Int) - 1)) (rs_1.length:Int)then kOpt (qBg rs_1 (0+qBj (qBf .i64 ((rs_1.length:Int) - 1)))) λrow=>bif qBv 4 (qBe row)then kTmC (qBm 4 row) λn n_12 s rows=>(kOpt (EVf (EV cfg) 45 [AV.agg [.int .i64 n,.int .i64 n_12,.str s,.sl rows]]) λv=>kTmV v λn n_13 s rows=>(some (AV.tup [AV.agg [.int .i64 n,.int .i64 n_13,.str s,.sl rows],.bool true,.int .i64 (qBf .i64 (v11+1)),.int .i64 0])))else none else none else bif n_11==5 then zz1 else bif n_11==3 then bif b then kOpt (EVf (EV cfg) 46 [.str [(69:UInt8),(88:UInt8),(73:UInt8),(84:UInt8)]]) λv=>kTmV v λn n_12 s rows=>(some (AV.tup [AV.agg [.int .i64 n,.int .i64 n_12,.str s,.sl rows],.bool true,.int .i64 (qBf .i64 (v11+1)),.int .i64 0]))else bif n==15 then zz2 n_1 v12 L n_11 n_8 n_9 s rows n_10 rs rs_1 b es v11 c0_0 c0_1 c0_2 c0_3 else bif n==16 then zz2 n_1 v12 L n_11 n_8 n_9 s rows n_10 rs rs_1 b es v11 c0_0 c0_1 c0_2 c0_3 else zz2 n_2 v12 L n_11 n_8 n_9 s rows n_10 rs rs_1 b es v11 c0_0 c0_1 c0_2 c0_3 else bif n_11==1 then zz12 n_2 v12 L n_11 n_8 n_9 s rows n_10 rs rs_1 b es v11 c0_0 c0_1 c0_2 c0_3 else bif n_11==2 then zz12 n_2 v12 L n_11 n_8 n_9 s rows n_10 rs rs_1 b es v11 c0_0 c0_1 c0_2 c0_3 else bif decide (qBf .i64 (v12+1)<=v12)then zz1 else bif decide (qBf .i64 (v12+1)>(L.length:Int))then zz1 else bif n_11==3 then zz14 n_8 n_9 s rows n_10 rs rs_1 b es L v11 v12 c0_0 c0_1 c0_2 c0_3 else bif n_11==1 then zz14 n_8 n_9 s rows n_10 rs rs_1 b es L v11 v12 c0_0 c0_1 c0_2 c0_3 else qba L (qBf .i64 (v11+1)) (qBf .i64 (v12+1)) c0_0 c0_1 c0_2 c0_3 n_8 n_9 s rows n_10 (qBe rs) (qBe rs_1) b rs rs_1 es)else none else none else none)else none else none else none)else none)else none else none else none else some (AV.tup [.agg [.int .i64 0,.int .i64 0,.str [],.sl []],.bool false,.int .i64 v11,.int .i64 0])) P):Gets (qba L v11 v12 c0_0 c0_1 c0_2 c0_3 c1_0 c1_1 c1_2 c1_3 c1_4 nc1_5 nc1_6 c1_8 h2 h3 m4) P:=
  gE (λ_=>qB (cfg:=cfg) (f:=12) (rd:=none) (bs:=0)) (by kernel_rfl) h
theorem quI(o:Tm)(self:Int)(L V:List (List AV))(es:List (AV×AV))(b:Bool):
  EVj (EV cfg) 43 1 [.ptr 0 0 0] (mkS o self L V es b)=some (.tup [],stS o self (newK o)):=by
 apply Gets.get;refine qsz _ _ _ _ _ _ _ _ _ ?_;unfold zt0;refine⟨_,rfl,?_⟩;show _=(_,mkS o self (qb [o].reverse) (qb [].reverse) (mB []) false);rw[List.reverse_singleton,qR,vo,Tm.cells_eq];rfl
theorem qsA(o:Tm)(self:Int):
  EVj (EV cfg) 43 1 [.ptr 0 0 0] [.rows false 9 [[.int .i64 o.kind,.int .i64 o.num,.str o.str,.sl (qb o.subs),.int .i64 self,.ms 1 0 0,.ms 2 0 0,.nilM,.bool false]],.rows true 4 [],.rows true 4 []]=some (.tup [],stS o self (newK o)):=by
 apply Gets.get;refine qqE _ _ _ _ _ ?_;unfold zt0;refine⟨_,rfl,?_⟩;show _=(_,mkS o self (qb [o].reverse) (qb [].reverse) (mB []) false);rw[List.reverse_singleton,qR,vo,Tm.cells_eq];rfl
theorem quH(hp:xo){o:Tm}{self:Int}{s:SK}{x:InsA}(hxw:x.t.w<1099511627776)(ho:o.chk=0)(hs:SOk s)(hv:s.vals.length<=200000)(hl:s.left.length<1000000000):
  EVj (EV cfg) 44 1 [.ptr 0 0 0,x.av] (stS o self s)=some (.int .i64 (howI (vD opsK o self s x).1),stS o self (vD opsK o self s x).2):=by
 have m1:∀h,_:=λh=>qst (o:=o) (self:=self) (x:=x) (s:=s) h hxw hs hl
 have m2:∀h,_:=λh=>quG (o:=o) (self:=self) (x:=x) (s:=s) h hxw ho hs hv
 have m3:∀h,_:=λh=>quE hp (o:=o) (self:=self) (x:=x) (s:=s) h hxw hs hv
 have m4:∀h,_:=λh=>quF (o:=o) (self:=self) (x:=x) (s:=s) h (by omega)
 apply Gets.get;rw[InsA.av,Tm.cells_eq]at m1 m2 m3 m4⊢;refine qsy _ _ _ _ _ _ _ _ _ _ _ _ _ _ _ _ ?_;unfold zt12 zt11 zt10 zt9 zt2 zt3 zt4 zt5 zt6 zt7 zt8 zt1;unfold vD
 by_cases h1:x.o=1∨x.o=2∨x.o=3∨x.o=4∨x.o=5∨x.o=6
 ·have z:=m1 h1;rw[qB5 (by simp only[qBG,List.not_mem_nil,or_false];exact h1)];rcases h1 with h|h|h|h|h|h
  all_goals
   simp only[h]at z;simp only[h,beqI,qBX,decide_true,decide_false,cond_true,cond_false,qBS,z,qc,qq,qp,qP,qM,qz,qBw,qt,qC,qy,ql,qw,qi,q4,qx,qd,qO,vY,vX];exact⟨_,rfl,rfl⟩
 rw[qB6 (by simp only[qBG,List.not_mem_nil,or_false];exact h1)]
 by_cases h2:x.o=7∨x.o=8∨x.o=9∨x.o=10
 ·have z:=m2 h2;rw[qB5 (by simp only[qBG,List.not_mem_nil,or_false];exact h2)];rcases h2 with h|h|h|h
  all_goals
   simp only[h]at z;simp only[h,beqI,qBX,decide_true,decide_false,cond_true,cond_false,qBS,z,qc,qq,qp,qP,qM,qz,qBw,qt,qC,qy,ql,qw,qi,q4,qx,qd,qO,vY,vX];exact⟨_,rfl,rfl⟩
 rw[qB6 (by simp only[qBG,List.not_mem_nil,or_false];exact h2)]
 by_cases h3:x.o=11∨x.o=12∨x.o=13
 ·have z:=m3 h3;rw[qB5 (by simp only[qBG,List.not_mem_nil,or_false];exact h3)];rcases h3 with h|h|h
  all_goals
   simp only[h]at z;simp only[h,beqI,qBX,decide_true,decide_false,cond_true,cond_false,qBS,z,qc,qq,qp,qP,qM,qz,qBw,qt,qC,qy,ql,qw,qi,q4,qx,qd,qO,vY,vX];exact⟨_,rfl,rfl⟩
 rw[qB6 (by simp only[qBG,List.not_mem_nil,or_false];exact h3)]
 by_cases h4:x.o=14∨x.o=15∨x.o=16∨x.o=17∨x.o=19∨x.o=20
 ·have z:=m4 h4;rw[qB5 (by simp only[qBG,List.not_mem_nil,or_false];exact h4)];rcases h4 with h|h|h|h|h|h
  all_goals
   simp only[h]at z;simp only[h,beqI,qBX,decide_true,decide_false,cond_true,cond_false,qBS,z,qc,qq,qp,qP,qM,qz,qBw,qt,qC,qy,ql,qw,qi,q4,qx,qd,qO,vY,vX];exact⟨_,rfl,rfl⟩
 rw[qB6 (by simp only[qBG,List.not_mem_nil,or_false];exact h4)];have n1:∀k:Int,(k=1∨k=2∨k=3∨k=4∨k=5∨k=6∨k=7∨k=8∨k=9∨k=10∨k=11∨k=12∨k=13∨k=14∨k=15∨k=16∨k=17∨k=19∨k=20)->(x.o==k)=false:=by
  intro k hk;rw[beqI,qB4];omega
 simp only[n1 1 (by simp),n1 2 (by simp),n1 3 (by simp),n1 4 (by simp),n1 5 (by simp),n1 6 (by simp),n1 7 (by simp),n1 8 (by simp),n1 9 (by simp),n1 10 (by simp),n1 11 (by simp),n1 12 (by simp),n1 13 (by simp),n1 14 (by simp),n1 15 (by simp),n1 16 (by simp),n1 17 (by simp),n1 19 (by simp),n1 20 (by simp),cond_false]
 by_cases h5:x.o=18
 ·rw[qB5 h5,beqI,qB3 h5];exact⟨_,rfl,rfl⟩
 ·rw[qB6 h5,beqI,qB4 h5];exact⟨_,rfl,rfl⟩
theorem qm7{t:Tm}{s s':SK}{h:How}(e:xN t s=(h,s')):s'.vals.length<=s.vals.length+1∧s'.left.length<=s.left.length+64:=by
 unfold xN at e;split at e
 ·cases e;simp
 ·cases e;simp
theorem qvK{bo:BO}{o:Tm}{self:Int}{s s':SK}{x:InsA}{h:How}(hs:SOk s)(e:vD bo o self s x=(h,s')):s'.vals.length<=s.vals.length+1∧s'.left.length<=s.left.length+64:=by
 unfold vD at e;split at e
 ·unfold zi at e;split at e
  ·cases e;simp
  ·rename_i t r hl;have ht:=qbI (hs.left t (by rw[hl];simp));have h0:s.left.length=r.length+1:=by rw[hl];rfl
   repeat' split at e
   all_goals (cases e;constructor<;>(try simp)<;>(try omega))
 split at e
 ·unfold qaL at e
  repeat' split at e
  all_goals first|exact qm7 e|(cases e;simp)
 split at e
 ·unfold qca at e;have h1:∀{t:Tm},xN t { s with vals:=s.vals.drop (yo x).toNat }=(h,s')->s'.vals.length<=s.vals.length+1∧s'.left.length<=s.left.length+64:=λe=>by
   have:=qm7 e;simp at this;omega
  repeat' split at e
  all_goals first|exact h1 e|(cases e;constructor<;>(try simp)<;>(try omega))
 split at e
 ·unfold qbg at e;split at e
  ·cases e;simp
  ·rename_i t r hv;have h0:s.vals.length=r.length+1:=by rw[hv];rfl
   repeat' split at e
   all_goals (cases e;constructor<;>(try simp)<;>(try omega))
 split at e
 ·cases e;simp
 ·cases e;simp
theorem qrm{bo:BO}{o:Tm}{self:Int}{s s':SK}{x:InsA}(e:vD bo o self s x=(.tells,s')):∃t r,s'.vals=t::r:=by
 have hpu:∀{t:Tm} {s:SK},xN t s≠(.tells,s'):=fun{t s} e=>by
  unfold xN at e;split at e<;>cases e
 unfold vD at e;split at e
 ·unfold zi at e
  repeat' split at e
  all_goals cases e
 split at e
 ·unfold qaL at e
  repeat' split at e
  all_goals first|exact absurd e hpu|cases e
 split at e
 ·unfold qca at e
  repeat' split at e
  all_goals first|exact absurd e hpu|cases e
 split at e
 ·unfold qbg at e;split at e
  ·cases e
  ·rename_i t r hv
   repeat' split at e
   all_goals first|(cases e;exact⟨t,r,hv⟩)|cases e
 split at e<;>cases e
def zS(r:Tm×Bool×Int×Int):AV:=.tup [r.1.av,.bool r.2.1,.int .i64 r.2.2.1,.int .i64 r.2.2.2]
theorem qsr(hp:xo){l:List InsA}(hlx:∀x∈l,x.t.w<1099511627776)(hll:l.length<=200000){o:Tm}(ho:o.chk=0){self:Int}:∀(d at_ n:Nat) (s:SK),l.length - at_<=d->at_<=l.length->n<=at_->SOk s->s.vals.length<=n->s.left.length<=1+64*n ->
  Gets (qba (qo l) (n:Int) (at_:Int) 0 0 [] [] o.kind o.num o.str (qb o.subs) self (qb s.left.reverse).length (qb s.vals.reverse).length s.body (qb s.left.reverse) (qb s.vals.reverse) (mB s.binds)) (·=zS (runO opsK l o self at_ n s)):=by
 intro d
 induction d with
 |zero=>
  intro at_ n s hd ha hn hs hv hl;refine qg5 _ _ _ _ _ _ _ _ _ _ _ _ _ _ _ _ _ _ ?_;unfold zz14 zz15 zz16 zz17 zz18 zz19 zz12 zz13 zz2 zz3 zz4 zz11 zz5 zz6 zz7 zz8 zz9 zz10 zz1;rw[vN,qB4 (by omega),qd2 (List.getElem?_eq_none (by omega))];refine⟨_,rfl,?_⟩;rw[zS,x9]
 |succ d ih=>
  intro at_ n s hd ha hn hs hv hl;refine qg5 _ _ _ _ _ _ _ _ _ _ _ _ _ _ _ _ _ _ ?_;unfold zz14 zz15 zz16 zz17 zz18 zz19 zz12 zz13 zz2 zz3 zz4 zz11 zz5 zz6 zz7 zz8 zz9 zz10 zz1
  by_cases hlt:at_<l.length
  case neg=>
   rw[vN,qB4 (by omega),qd2 (List.getElem?_eq_none (by omega))];refine⟨_,rfl,?_⟩;rw[zS,x9]
  have g0:l[at_]? =some l[at_]:=qBk hlt;generalize hxe:l[at_]=x at *;have hxw:=hlx x (hxe▸List.getElem_mem hlt);have e1:(qh (0:Int) (at_:Int)&&qn (at_:Int) ((qo l).length:Int))=true:=by rw[vN];simp;omega
  have e2:qBg (qo l) (qBj (at_:Int))=some x.row:=by rw[qBB];exact qjH g0
  have hz:=quH hp (o:=o) (self:=self) (s:=s) (x:=x) hxw ho hs (by omega) (by omega);rw[InsA.av,Tm.cells_eq]at hz;have wn:qBf .i64 ((n:Int)+1)=((n+1:Nat):Int):=by rw[vq (by omega) (by omega)];omega
  have wa:qBf .i64 ((at_:Int)+1)=((at_+1:Nat):Int):=by rw[vq (by omega) (by omega)];omega
  have hnew:=ih;have r7:qBm 7 x.row=x.row:=qBt (by rw[InsA.row_len];exact qBp _);have hrow:x.row= .int .i64 x.o:: .int .i64 x.a:: .int .i64 x.b::x.t.cells:=rfl;rw[qB3 (show(at_:Int)<((qo l).length:Int) by rw[vN];omega),e1,e2];simp only[cond_true,qc,r7,InsA.row_len,show qBh 7 7=true from rfl,show qBv 7 7=true from rfl];rw[hrow];cases hdo:vD opsK o self s x with
  |mk w s'=>
   rw[hdo]at hz;obtain⟨hvl,hll'⟩:=qvK hs hdo;have hs':=qxu qyj hs hdo;have go:∀(p:Int) (s2:SK),¬p<=(at_:Int)->¬p>((qo l).length:Int)->SOk s2->s2.vals.length<=n+1->s2.left.length<=1+64*(n+1) ->
     Gets (qba (qo l) ((n+1:Nat):Int) p 0 0 [] [] o.kind o.num o.str (qb o.subs) self (qb s2.left.reverse).length (qb s2.vals.reverse).length s2.body (qb s2.left.reverse) (qb s2.vals.reverse) (mB s2.binds)) (·=zS (goO opsK l o self at_ p (n+1) s2)):=by
    intro p s2 h1 h2 h3 h4 h5;rw[vN]at h2;have h6:((p.toNat:Nat):Int)=p:=by omega
    have:=ih p.toNat (n+1) s2 (by omega) (by omega) (by omega) h3 h4 h5;rw[h6]at this;unfold goO;rw[qB6 (by omega)];exact this
   have bad:∀(p:Int) (s2:SK),p<=(at_:Int)∨p>((qo l).length:Int)->(AV.tup [AV.agg [AV.int .i64 (0:Int),.int .i64 (0:Int),.str [],.sl []],.bool false,.int .i64 (0:Int),.int .i64 (9:Int)])=zS (goO opsK l o self at_ p (n+1) s2):=by
    intro p s2 h;rw[vN]at h;unfold goO;rw[qB5 (by omega),zS,x9]
   have nk:=qrQ ho;have hA:=λL V es b=>quI o self L V es b
   cases w with
   |next=>
    have:=ih (at_+1) (n+1) s' (by omega) (by omega) (by omega) hs' (by omega) (by omega);rw[zc g0 hdo];simp only[ql,qi,qv,qBS,hz,qc,qq,qp,qP,qM,qz,qBw,cond_true,cond_false,qt,qC,qy,qw,q4,qx,qd,qO,vY,vX,howI,beqI,qBX,decide_false,wn,wa]
    rw[qB4 (by omega),qB4 (by rw[vN];omega)];exact this
   |fails=>
    rw[qga g0 hdo];have hg:=go x.b (newK o);have hb:=bad x.b (newK o);show Gets _ (·=zS (goO opsK l o self at_ x.b (n+1) (newK o)));simp only[ql,qi,qv,qBS,hz,qc,qq,qp,qP,qM,qz,qBw,cond_true,cond_false,qt,qC,qy,qw,q4,qx,qd,qO,vY,vX,howI,beqI,qBX,decide_true,decide_false,wn,wa]
    by_cases h1:x.b<=(at_:Int)
    ·rw[qB3 h1];exact⟨_,rfl,hb (.inl h1)⟩
    by_cases h2:x.b>((qo l).length:Int)
    ·rw[qB4 h1,qB3 h2];exact⟨_,rfl,hb (.inr h2)⟩
    rw[qB4 h1,qB4 h2];simp only[cond_false,hA,ql,qi,qc,qq,qp,qP,qM,qz,qBw,cond_true,qt,qC,qy,qw,q4,qx,qd,qO,vY,vX];exact hg h1 h2 nk (by simp) (by simp)
   |jumps=>
    rw[qf9 g0 hdo];have hg:=go x.b s';have hb:=bad x.b s';show Gets _ (·=zS (goO opsK l o self at_ x.b (n+1) s'));simp only[ql,qi,qv,qBS,hz,qc,qq,qp,qP,qM,qz,qBw,cond_true,cond_false,qt,qC,qy,qw,q4,qx,qd,qO,vY,vX,howI,beqI,qBX,decide_true,decide_false,wn,wa]
    by_cases h1:x.b<=(at_:Int)
    ·rw[qB3 h1];exact⟨_,rfl,hb (.inl h1)⟩
    by_cases h2:x.b>((qo l).length:Int)
    ·rw[qB4 h1,qB3 h2];exact⟨_,rfl,hb (.inr h2)⟩
    rw[qB4 h1,qB4 h2];exact hg h1 h2 hs' (by omega) (by omega)
   |raises=>
    rw[qcC g0 hdo];have hma:=qqU [69,88,73,84];simp only[ql,qi,qv,qBS,hz,qc,qq,qp,qP,qM,qz,qBw,cond_true,cond_false,qt,qC,qy,qw,q4,qx,qd,qO,vY,vX,howI,beqI,qBX,decide_true,decide_false,wn,wa];cases hbd:s'.body with
    |true=>
     simp only[cond_true,hma,qc,qW,if_true];refine⟨_,rfl,?_⟩;rw[zS,qgw,Tm.av,Tm.cells_eq];show _=AV.tup [_,_,.int .i64 ((n:Int)+1),_];rw[show((n+1:Nat):Int)=(n:Int)+1 by omega]
    |false=>
     simp only[cond_false,qBu,if_false];have key:∀p:Int,p=xX at_ x .raises->Gets (bif decide (p<=(at_:Int))then some (AV.tup [AV.agg [AV.int .i64 (0:Int),.int .i64 (0:Int),.str [],.sl []],.bool false,.int .i64 (0:Int),.int .i64 (9:Int)])else bif decide (p>((qo l).length:Int))then some (AV.tup [AV.agg [AV.int .i64 (0:Int),.int .i64 (0:Int),.str [],.sl []],.bool false,.int .i64 (0:Int),.int .i64 (9:Int)])else qba (qo l) ((n+1:Nat):Int) p 0 0 [] [] o.kind o.num o.str (qb o.subs) self (qb (newK o).left.reverse).length (qb (newK o).vals.reverse).length (newK o).body (qb (newK o).left.reverse) (qb (newK o).vals.reverse) (mB (newK o).binds)) (·=zS (goO opsK l o self at_ (xX at_ x .raises) (n+1) (newK o))):=by
      rintro p rfl
      by_cases h1:xX at_ x .raises<=(at_:Int)
      ·rw[qB3 h1];exact⟨_,rfl,bad _ _ (.inl h1)⟩
      by_cases h2:xX at_ x .raises>((qo l).length:Int)
      ·rw[qB4 h1,qB3 h2];exact⟨_,rfl,bad _ _ (.inr h2)⟩
      rw[qB4 h1,qB4 h2];exact go _ _ h1 h2 nk (by simp) (by simp)
     have pl:xX at_ x .raises=if x.o=15∨x.o=16 then x.a else x.b:=rfl
     by_cases h15:x.o=15
     ·have:=key x.a (by rw[pl,qB5 (.inl h15)]);simp only[h15,decide_true,cond_true,hA,ql,qi,qc,qq,qp,qP,qM,qz,qBw,qt,qC,qy,qw,q4,qx,qd,qO,vY,vX];exact this
     by_cases h16:x.o=16
     ·have:=key x.a (by rw[pl,qB5 (.inr h16)]);simp only[h16,qBX,decide_true,decide_false,cond_true,cond_false,hA,ql,qi,qc,qq,qp,qP,qM,qz,qBw,qt,qC,qy,qw,q4,qx,qd,qO,vY,vX];exact this
     have:=key x.b (by rw[pl,qB6 (by omega)]);simp only[h15,h16,decide_false,cond_false,hA,ql,qi,qc,qq,qp,qP,qM,qz,qBw,cond_true,qt,qC,qy,qw,q4,qx,qd,qO,vY,vX];exact this
   |tells=>
    rw[qf8 g0 hdo];obtain⟨t,r,hv'⟩:=qrm hdo;have htc:=hs'.vals t (by rw[hv'];simp);have hcp:=qbX (t:=t) (qbR _ (by have:=xx htc;omega));have hrs:qb s'.vals.reverse=qb r.reverse++[t.cells]:=by rw[hv',qb4]
    have hrl:(qb r.reverse).length+1<=200002:=by
     rw[hv']at hvl;simp at hvl⊢;omega
    simp only[ql,qi,qv,qBS,hz,qc,qq,qp,qP,qM,qz,qBw,cond_true,cond_false,qt,qC,qy,qw,q4,qx,qd,qO,vY,vX,howI,beqI,qBX,decide_true,decide_false,wn,wa];rw[hrs];generalize qb r.reverse=R at *;have e1:qBf .i64 ((((R++[t.cells]).length:Nat):Int) - 1)=(R.length:Int):=by
     rw[qBr];exact qgW (by omega)
    have e2:(qh (0:Int) (R.length:Int)&&qn (R.length:Int) (((R++[t.cells]).length:Nat):Int))=true:=by simp
    have ht4:qBm 4 t.cells=t.cells:=by rw[Tm.cells_eq];rfl
    have hl4:qBv 4 t.cells.length=true:=by rw[Tm.cells_eq];rfl
    rw[e1,e2,qgg];simp only[cond_true,qc,hl4,ht4,qv,qJ,hcp,qW];refine⟨_,rfl,?_⟩;rw[zS,hv'];show _=AV.tup [_,_,.int .i64 ((n:Int)+1),_];rw[show((n+1:Nat):Int)=(n:Int)+1 by omega];rfl
   |broken=>
    rw[qi4 g0 hdo];simp only[ql,qi,qv,qBS,hz,qc,qq,qp,qP,qM,qz,qBw,cond_true,cond_false,qt,qC,qy,qw,q4,qx,qd,qO,vY,vX,howI,beqI,qBX,decide_true,decide_false];exact⟨_,rfl,by rw[zS,x9]⟩
theorem qwI(hp:xo){l:List InsA}(hlx:∀x∈l,x.t.w<1099511627776)(hll:l.length<=200000){o:Tm}(how:o.w<1099511627776)(self:Int):
  EVf (EV cfg) 12 [.sl (qo l),o.av,.int .i64 self]=some (zS (runC opsK l o self)):=by
 have hm:=qdZ how;have hz:(AV.tup [AV.agg [AV.int .i64 (0:Int),.int .i64 (0:Int),.str [],.sl []],.bool false,.int .i64 (0:Int),.int .i64 (2:Int)])=zS (q9,false,0,2):=by rw[zS,x9]
 apply Gets.get;rw[Tm.av,Tm.cells_eq]at hm⊢;refine quB _ _ _ _ _ _ ?_;unfold zz0;unfold runC zw;rw[hm];simp only[qc,qd,bneD]
 by_cases h7:o.kind=7
 case neg=>
  rw[qB4 h7,qB6 (λh=>h7 h.1)];exact⟨_,rfl,hz⟩
 rw[qB3 h7]
 by_cases hc:o.chk=0
 case neg=>
  rw[qB4 hc,qB6 (λh=>hc h.2.1)];exact⟨_,rfl,hz⟩
 rw[qB3 hc]
 by_cases h1:self<1
 ·rw[qB3 h1,qB6 (by rintro⟨_,_,h⟩;simp at h;omega)];exact⟨_,rfl,hz⟩
 rw[qB4 h1]
 by_cases h2:self>1073741824
 ·rw[qB3 h2,qB6 (by rintro⟨_,_,h⟩;simp at h;omega)];exact⟨_,rfl,hz⟩
 rw[qB4 h2,qB5 ⟨h7,hc,by simp;omega⟩];have hl:=qsr hp hlx hll hc (self:=self) l.length 0 0 (newK o) (by omega) (by omega) (by omega) (qrQ hc) (by simp) (by simp);have hA:=qsA o self;simp only[qB1,cond_false,hA,ql,qi,qc,qq,qp,qP,qM,qz,qBw,cond_true,qt,qC,qy,qw,q4,qx,qd,qO,vY,vX]
 exact hl
def Has(L:List InsA)(q:Nat)(c:List InsA):Prop:=∀i x,c[i]? =some x->L[q+i]? =some x
theorem Has.app{L:List InsA}{q:Nat}{a b:List InsA}(h:Has L q (a++b)):Has L q a∧Has L (q+a.length) b:=by
 refine⟨λi x hi=>h i x ?_,λi x hi=>?_⟩
 ·rw[qBx (qBn.1 hi).1];exact hi
 ·rw[qBO];refine h _ x ?_;rw[qBz (by omega),Nat.add_sub_cancel_left];exact hi
theorem Has.cons{L:List InsA}{q:Nat}{x:InsA}{c:List InsA}(h:Has L q (x::c)):L[q]? =some x∧Has L (q+1) c:=by
 refine⟨h 0 x rfl,λi y hi=>?_⟩;have:=h (i+1) y (by simpa using hi);rw[show q+1+i=q+(i+1) by omega];exact this
theorem Has.le{L:List InsA}{q:Nat}{c:List InsA}(h:Has L q c)(hc:c≠[]):q+c.length<=L.length:=by
 have h0:0<c.length:=List.length_pos_iff.2 hc;have:=h (c.length - 1) c[c.length - 1] (qBk (by omega));have:=(qBn.1 this).1;omega
abbrev RT:=Tm×Bool×Int×Int
structure Md (L:List InsA) (o:Tm) (pid:Int) (φ:InsA->InsA) (body:Bool) (R:Nat->RT) (hi:Nat):Prop where
 ho:∀x,(φ x).o=x.o
 ht:∀x,(φ x).t=x.t
 ha:∀x,x.o≠15->x.o≠16->(φ x).a=x.a
 hb:∀x,x.o=15∨x.o=16->(φ x).b=x.b
 raise:∀(q:Nat) (x:InsA) (n:Nat) (s s':SK),q<hi->x.o∈([10,11,12,13,15,16,17]:List Int)->L[q]? =some (φ x)->s'.body=body->vD opsK o pid s (φ x)=(.raises,s')->runO opsK L o pid q n s=R (n+1)
def Out(L:List InsA)(o:Tm)(self:Int)(R:Nat->RT)(q len n:Nat)(s:SK)(v:Option (List Tm)):Prop:=
 ∃k,runO opsK L o self q n s=match v with
  |some ts=>runO opsK L o self (q+len) (n+k) { s with vals:=ts.reverse++s.vals }
  |none=>R (n+k)
structure EnvS (e:Env) (s:SK):Prop where
 look:∀n,qG n s.binds=qG n e.binds
 all:allB s.binds=e.binds.map (·.2)
theorem qbW{x:InsA}{o:Tm}{self:Int}{s:SK}(h:x.o=7∨x.o=8∨x.o=9∨x.o=10):vD opsK o self s x=qaL opsK o s x:=by
 unfold vD;rcases h with h|h|h|h<;>simp[h]
theorem qhV{x:InsA}{o:Tm}{self:Int}{s:SK}(h:x.o=11∨x.o=12∨x.o=13):vD opsK o self s x=qca self s x:=by
 unfold vD;rcases h with h|h|h<;>simp[h]
theorem qc9{x:InsA}{o:Tm}{self:Int}{s:SK}(h:x.o=14∨x.o=15∨x.o=16∨x.o=17∨x.o=19∨x.o=20):vD opsK o self s x=qbg s x:=by
 unfold vD;rcases h with h|h|h|h|h|h<;>simp[h]
theorem qbm{x:InsA}{o:Tm}{self:Int}{s:SK}(h:x.o=1∨x.o=2∨x.o=3∨x.o=4∨x.o=5∨x.o=6):vD opsK o self s x=zi opsK s x:=by
 unfold vD;rcases h with h|h|h|h|h|h<;>simp[h]
theorem qe6(l:List Tm):qbf l qbA=vr l:=by
 unfold qbf vr qbA;rfl
noncomputable section
variable {L : List InsA} {o : Tm} {self : Int} {φ : InsA → InsA} {body : Bool} {R : Nat → RT} {hi : Nat}
theorem qgd(hm:Md L o self φ body R hi){x:InsA}{q n:Nat}{s s1:SK}{t:Tm}(hq:q<hi)(hx:L[q]? =some (φ x))(hr:x.o∈([10,11,12,13,15,16,17]:List Int))(hs:s1.body=body)(hd:vD opsK o self s (φ x)=xN t s1):
  ∃k,runO opsK L o self q n s=match xV t with|some v=>runO opsK L o self (q+1) (n+k) { s1 with vals:=v::s1.vals }|none=>R (n+k):=by
 refine⟨1,?_⟩;unfold xV;unfold xN at hd
 by_cases hc:t.chk=0
 ·rw[qB5 hc]at hd⊢;rw[zc hx hd]
 ·rw[qB6 hc]at hd⊢;exact hm.raise q x n s s1 hq hr hx hs hd
theorem qea(hm:Md L o self φ body R hi){x:InsA}{q n:Nat}{s:SK}{t:Tm}(hx:L[q]? =some (φ x))(hc:t.chk=0)(hd:vD opsK o self s (φ x)=xN t s):Out L o self R q 1 n s (some [t]):=by
 refine⟨1,?_⟩;unfold xN at hd;rw[qB5 hc]at hd;rw[zc hx hd];rfl
theorem qw8{e:Env}:∀(l:List Tm),(∀t∈l,∀q n s,Has L q ((qL t q).map φ)->q+(qL t q).length<=hi->SOk s->s.body=body->EnvS e s->(∀v,valG e t=some v->v.chk=0)∧Out L o self R q (qL t q).length n s ((valG e t).map ([·]))) ->
  ∀q n s,Has L q ((xq l q).map φ)->q+(xq l q).length<=hi->SOk s->s.body=body->EnvS e s->Out L o self R q (xq l q).length n s (seqO (xf e l)):=by
 intro l
 induction l with
 |nil=>
  intro _ q n s _ _ _ _ _;rw[qc3];exact⟨0,rfl⟩
 |cons t l ih=>
  intro h q n s hh hl hs hb he;rw[qb9]at hh hl⊢;rw[List.map_append]at hh;rw[qBr]at hl;obtain⟨h1,h2⟩:=hh.app;rw[qBE]at h2;obtain⟨hc,k,hk⟩:=h t (by simp) q n s h1 (by omega) hs hb he;rw[xf,seqO,qBr];cases hv:valG e t with
  |none=>rw[hv]at hk;exact⟨k,hk⟩
  |some v=>
   rw[hv]at hk;obtain⟨k2,hk2⟩:=ih (λx hx=>h x (by simp[hx])) (q+(qL t q).length) (n+k) { s with vals:=[v].reverse++s.vals } h2 (by omega) ⟨hs.left,λx hx=>(qBG.1 hx).elim (λe=>e▸hc v hv) (hs.vals x),hs.binds⟩ hb ⟨he.look,he.all⟩;refine⟨k+k2,?_⟩;refine Eq.trans hk ?_;refine Eq.trans hk2 ?_;rw[qBs];cases seqO (xf e l)with
   |none=>simp only[Option.map_none,qBO]
   |some ts=>simp only[qBD,qBO,List.reverse_cons,List.append_assoc,List.reverse_nil,List.nil_append,List.singleton_append]
theorem qjA(ts V:List Tm):((ts.reverse++V).take ts.length).reverse=ts∧(ts.reverse++V).drop ts.length=V:=by
 have h:ts.length=ts.reverse.length:=by simp
 constructor
 ·rw[h,List.take_left,List.reverse_reverse]
 ·rw[h,List.drop_left]
theorem qwW:opsG andS=[2]:=by decide
theorem qyk:opsG orS=[2]:=by decide
theorem qjS(hm:Md L o self φ body R hi){e:Env}(he:EnvOk e)(hobj:e.obj=o)(hself:e.self=self):∀(w:Nat) (t:Tm),t.w<=w->t.chk=0->isG (ya e) t=true->∀q n s,Has L q ((qL t q).map φ)->q+(qL t q).length<=hi->SOk s->s.body=body->EnvS e s->Out L o self R q (qL t q).length n s ((valG e t).map ([·])):=by
 intro w
 induction w with
 |zero=>intro t h;have:=t.w_eq;omega
 |succ w ih=>
  intro t hw hc hg q n s hh hl hs hb hes;have hwe:=t.w_eq;have hsub:∀x∈t.subs,x.w<=w∧x.chk=0:=λx hx=>⟨by have:=xW hx;omega,vA hc hx⟩
  have hmany:∀(l:List Tm),(∀x∈l,x.w<=w∧x.chk=0)->allG (ya e) l=true->∀q n s,Has L q ((xq l q).map φ)->q+(xq l q).length<=hi->SOk s->s.body=body->EnvS e s->Out L o self R q (xq l q).length n s (seqO (xf e l)):=by
   intro l hx hg;refine qw8 l λt ht q n s h1 h2 h3 h4 h5=>?_
   exact⟨λv hv=>qdX he _ t (qBp _) (hx t ht).2 (yy hg t ht) v hv,ih t (hx t ht).1 (hx t ht).2 (yy hg t ht) q n s h1 h2 h3 h4 h5⟩
  by_cases h2:t.kind=2
  ·rw[qdC h2]at hh hl⊢;rw[qee h2]at hg;rw[qg9 h2];cases hv:varT t with
   |some x=>
    rw[hv]at hh hg;simp only[]at hh hg⊢;obtain⟨hx,_⟩:=hh.cons;obtain⟨y,hy⟩:=qdr (of_decide_eq_true hg);have ho:=hm.ho ⟨8,x,0,zT⟩;have hA:=hm.ha ⟨8,x,0,zT⟩ (by simp) (by simp);rw[hy];refine qea hm hx (qd9 he.may _ (xD hy)) ?_;rw[qbW (by rw[ho];simp)];unfold qaL;simp only[ho,hA,hes.look,hy];rfl
   |none=>
    rw[hv]at hh hl;simp only[]at hh hl⊢
    by_cases h3:t.str=[36,95]
    ·rw[qB5 h3]at hh⊢;obtain⟨hx,_⟩:=hh.cons;have ho:=hm.ho ⟨9,0,0,zT⟩;rw[qB5 h3,hobj];refine qea hm hx (by rw[←hobj];exact he.obj) ?_;rw[qbW (by rw[ho];simp)];unfold qaL;simp only[ho];rfl
    rw[qB6 h3]at hh hl⊢;rw[qB6 h3]
    by_cases h4:t.str=[36,36]
    ·rw[qB5 h4]at hh hl⊢;obtain⟨hx,_⟩:=hh.cons;have ho:=hm.ho ⟨10,0,0,zT⟩;rw[qB5 h4];obtain⟨k,hk⟩:=qgd hm (n:=n) (s:=s) (s1:=s) (t:=vr (e.binds.map (·.2))) (x:=⟨10,0,0,zT⟩) (q:=q) (by simp at hl;omega) hx (by simp) hb (by
      rw[qbW (by rw[ho];simp)];unfold qaL;simp only[ho,show opsK.all s.binds=allB s.binds from rfl,hes.all,qe6];rfl)
     refine⟨k,hk.trans ?_⟩;cases xV (vr (e.binds.map (·.2)))<;>rfl
    ·rw[qB6 h4]at hh⊢;obtain⟨hx,_⟩:=hh.cons;have ho:=hm.ho ⟨7,0,0,t⟩;have hT:=hm.ht ⟨7,0,0,t⟩;rw[qB6 h4];refine qea hm hx hc ?_;rw[qbW (by rw[ho];simp)];unfold qaL;simp only[ho,hT,hc,if_true]
  by_cases h9:t.kind=9
  ·obtain⟨a,b,hab⟩:=zM hc h9;rw[qdB h9]at hh hl⊢;rw[qed h9]at hg;rw[qg8 h9];rw[List.map_append]at hh;rw[qBr]at hl;obtain⟨hh1,hh2⟩:=hh.app;rw[qBE]at hh2;obtain⟨hx,_⟩:=hh2.cons;obtain⟨k,hk⟩:=hmany t.subs hsub hg q n s hh1 (by omega) hs hb hes;rw[qBr];cases hv:seqO (xf e t.subs)with
   |none=>rw[hv]at hk;exact⟨k,hk⟩
   |some ts=>
    rw[hv]at hk;have hlen:=qd0 hv;have ho:=hm.ho ⟨12,0,0,zT⟩;have ho:(φ ⟨12,0,0,zT⟩).o=12:=ho;obtain⟨e1,e2⟩:=qjA ts s.vals;have h2':ts.length=2:=by rw[hlen,hab];rfl
    obtain⟨k2,hk2⟩:=qgd hm (n:=n+k) (s:={ s with vals:=ts.reverse++s.vals }) (s1:={ s with vals:=s.vals }) (t:=.mk 9 0 [] ts) (x:=⟨12,0,0,zT⟩) (q:=q+(xq t.subs q).length) (by simp at hl;omega) hx (by simp) hb (by
     rw[qhV (by rw[ho];simp)];unfold qca yo;rw[h2']at e1 e2;simp only[ho,if_true,show qBj 2=2 from rfl,e1,e2];rw[qB6 (by simp;omega),qB6 (by decide)])
    refine⟨k+k2,hk.trans ?_⟩;refine hk2.trans ?_;rw[qBs];cases xV (.mk 9 0 [] ts)<;>simp[qBO]
  by_cases h7:t.kind=7
  ·cases hsb:t.subs with
   |nil=>rw[qdK h7 hsb]at hg;cases hg
   |cons f r=>
    rw[hsb]at hsub hwe;rw[qE]at hwe;have hf:=hsub f (by simp);have hr:∀x∈r,x.w<=w∧x.chk=0:=λx hx=>hsub x (by simp[hx])
    have hfw:=f.w_eq;rw[qeL h7 hsb]at hh hl⊢;rw[qdJ h7 hsb]at hg;rw[qjz h7 hsb]
    by_cases f7:f.kind=7
    ·rw[qB5 f7]at hh hl hg⊢;rw[qB5 f7];rw[qBi]at hg;rw[List.map_append]at hh;rw[qBr]at hl;obtain⟨hh1,hh2⟩:=hh.app;rw[qBE]at hh2;obtain⟨hx,_⟩:=hh2.cons;obtain⟨k,hk⟩:=hmany f.subs (λx hx=>⟨by have:=xW hx;omega,vA hf.2 hx⟩) hg.2 q n s hh1 (by omega) hs hb hes;rw[qBr];cases hv:seqO (xf e f.subs)with
     |none=>rw[hv]at hk;exact⟨k,hk⟩
     |some ts=>
      rw[hv]at hk;have hlen:=qd0 hv;have ho:(φ ⟨11,(f.subs.length:Int),0,zT⟩).o=11:=hm.ho _;have hA:(φ ⟨11,(f.subs.length:Int),0,zT⟩).a=(ts.length:Int):=by rw[hm.ha _ (by simp) (by simp),hlen]
      obtain⟨e1,e2⟩:=qjA ts s.vals;obtain⟨k2,hk2⟩:=qgd hm (n:=n+k) (s:={ s with vals:=ts.reverse++s.vals }) (s1:={ s with vals:=s.vals }) (t:=tupT ts) (x:=⟨11,(f.subs.length:Int),0,zT⟩) (q:=q+(xq f.subs q).length) (by simp at hl;omega) hx (by simp) hb (by
       rw[qhV (by rw[ho];simp)];unfold qca yo;simp only[ho,hA,if_true,show ¬((11:Int)=12) by decide,if_false,qBB,e1,e2];rw[qB6 (by simp;omega)])
      refine⟨k+k2,hk.trans ?_⟩;refine hk2.trans ?_;rw[qBs];unfold tupT;cases xV (.mk 7 0 [] ts)<;>simp[qBO]
    rw[qB6 f7]at hh hl hg⊢;rw[qB6 f7]
    by_cases f2:f.kind=2
    case neg=>rw[qB6 f2]at hg;cases hg
    rw[qB5 f2]at hg
    by_cases hk:f.str=qfP
    ·have hk':f.str=[99,111,110,115,116]:=hk;rw[qB5 hk]at hh hl⊢;rw[qB5 hk']at hg⊢
     match r,hr,hg with
     |[c],hr,_=>
      rw[qda]at hh⊢;obtain⟨hx,_⟩:=hh.cons;have ho:=hm.ho ⟨7,0,0,c⟩;have hT:=hm.ht ⟨7,0,0,c⟩;refine qea hm hx (hr c (by simp)).2 ?_;rw[qbW (by rw[ho];simp)];unfold qaL;simp only[ho,hT,(hr c (by simp)).2,if_true]
    have hk':¬f.str=[99,111,110,115,116]:=hk;rw[qB6 hk]at hh hl⊢;rw[qB6 hk']at hg⊢;rw[qBi,decide_eq_true_eq]at hg;have lazy:∀(op:Int) (an:Bool),(op=15∨op=16)->an=decide (op=15)->r.length=2->Has L q ((zo op r q).map φ)->q+(zo op r q).length<=hi->Out L o self R q (zo op r q).length n s ((qcG an (xf e r)).map ([·])):=by
     intro op an hop han h2 hh hl
     match r,hr,hg.2,h2 with
     |[a,b],hr,hg2,_=>
      have ga:=yy hg2 a (by simp);have gb:=yy hg2 b (by simp);rw[qeD,qeC]at hh hl⊢;rw[List.map_append,qBZ,List.map_append]at hh;obtain⟨hh1,hh2⟩:=hh.app;rw[qBE]at hh2;obtain⟨hx,hh3⟩:=hh2.cons;obtain⟨hh4,hh5⟩:=hh3.app;rw[qBE]at hh5;obtain⟨hx2,_⟩:=hh5.cons;have hend:=hh5.le (by simp);simp only[qBE,List.length_singleton]at hend;simp only[qBr,qBK,List.length_nil]at hl⊢
      obtain⟨k,hk⟩:=ih a (hr a (by simp)).1 (hr a (by simp)).2 ga q n s hh1 (by omega) hs hb hes;simp only[xf,qcG];cases hva:valG e a with
      |none=>rw[hva]at hk;exact⟨k,hk⟩
      |some va=>
       rw[hva]at hk;simp only[qBD,qBs,List.reverse_cons,List.reverse_nil,List.nil_append,List.singleton_append]at hk⊢;have hca:=qdX he _ a (qBp _) (hr a (by simp)).2 ga va hva;generalize hX:qL a q=X at *;generalize hY:qL b (q+X.length+1)=Y at *;generalize hI:(⟨op,0,((q+X.length+1+Y.length+1:Nat):Int),zT⟩:InsA)=I at *;have hIo:I.o=op:=by rw[←hI]
       have ho:(φ I).o=op:=by rw[hm.ho,hIo]
       have hB:(φ I).b=((q+X.length+1+Y.length+1:Nat):Int):=by rw[hm.hb I (by rw[hIo];exact hop),←hI]
       have hd:vD opsK o self { s with vals:=va::s.vals } (φ I)=match vL va with|none=>(.raises,{ s with vals:=va::s.vals })|some b=>if b=decide (op=15)then(.next,{ s with vals:=s.vals })else(.jumps,{ s with vals:=va::s.vals }):=by
        rw[qc9 (by rw[ho];rcases hop with h|h<;>simp[h])];unfold qbg;simp only[ho];rw[qB6 (by omega),qB6 (by omega),qB6 (by omega)];cases vL va with
        |none=>rfl
        |some b=>simp only[];rw[qB6 (by omega)]
       cases hbo:vL va with
       |none=>
        rw[hbo]at hd;refine⟨k+1,hk.trans ?_⟩;rw[Option.bind_none];exact hm.raise _ I _ _ { s with vals:=va::s.vals } (by omega) (by rw[hIo];rcases hop with h|h<;>simp[h]) hx hb hd
       |some bv=>
        rw[hbo]at hd;simp only[qBs]at hd⊢
        by_cases hbv:bv=an
        ·rw[qB5 (hbv.trans han)]at hd;rw[qB5 hbv];have hs2:runO opsK L o self (q+X.length) (n+k) { s with vals:=va::s.vals }=runO opsK L o self (q+X.length+1) (n+k+1) s:=by
          rw[zc hx hd]
         obtain⟨k2,hk2⟩:=ih b (hr b (by simp)).1 (hr b (by simp)).2 gb (q+X.length+1) (n+k+1) s (by rw[hY];exact hh4) (by rw[hY];omega) hs hb hes;rw[hY]at hk2;cases hvb:valG e b with
         |none=>
          rw[hvb]at hk2;refine⟨k+1+k2,hk.trans (hs2.trans (hk2.trans ?_))⟩;simp only[Option.map_none,Option.bind_none];rw[show n+k+1+k2=n+(k+1+k2) by omega]
         |some vb=>
          rw[hvb]at hk2;simp only[qBD,qBs,List.reverse_cons,List.reverse_nil,List.nil_append,List.singleton_append]at hk2⊢;have ho2:(φ ⟨17,0,0,zT⟩).o=17:=hm.ho _;have hd2:vD opsK o self { s with vals:=vb::s.vals } (φ ⟨17,0,0,zT⟩)=match vL vb with|none=>(.raises,{ s with vals:=vb::s.vals })|some _=>(.next,{ s with vals:=vb::s.vals }):=by
           rw[qc9 (by rw[ho2];simp)];unfold qbg;simp only[ho2];rw[qB6 (by decide),qB6 (by decide),qB6 (by decide)];cases vL vb with
           |none=>rfl
           |some b=>simp only[];rw[qB5 trivial]
          cases hbo2:vL vb with
          |none=>
           rw[hbo2]at hd2;refine⟨k+1+k2+1,hk.trans (hs2.trans (hk2.trans ?_))⟩;rw[Option.map_none];have:=hm.raise _ ⟨17,0,0,zT⟩ (n+k+1+k2) _ { s with vals:=vb::s.vals } (by omega) (by simp) hx2 hb hd2;rw[this,show n+k+1+k2+1=n+(k+1+k2+1) by omega];rfl
          |some b2=>
           rw[hbo2]at hd2;refine⟨k+1+k2+1,hk.trans (hs2.trans (hk2.trans ?_))⟩;rw[qBD];rw[zc hx2 hd2,show n+k+1+k2+1=n+(k+1+k2+1) by omega,show q+X.length+1+Y.length+1=q+(X.length+(Y.length+(0+1)+1)) by omega];rfl
        ·rw[qB6 (λh=>hbv (h.trans han.symm))]at hd;rw[qB6 hbv];refine⟨k+1,hk.trans ?_⟩;rw[qf9 hx hd];have hp:xX (q+X.length) (φ I) .jumps=((q+X.length+1+Y.length+1:Nat):Int):=hB;unfold goO;rw[hp,qB6 (by omega),qBB];simp only[qBD];rw[show n+k+1=n+(k+1) by omega,show q+X.length+1+Y.length+1=q+(X.length+(Y.length+(0+1)+1)) by omega];rfl
    by_cases hA:f.str=andS
    ·have hA':f.str=[97,110,100,97,108,115,111]:=hA;rw[qB5 hA]at hh hl⊢;rw[qB5 hA'];have hl2:r.length=2:=by
      have:=hg.1;rw[hA,qwW,List.mem_singleton]at this;omega
     exact lazy 15 true (.inl rfl) rfl hl2 hh hl
    have hA':¬f.str=[97,110,100,97,108,115,111]:=hA;rw[qB6 hA]at hh hl⊢;rw[qB6 hA']
    by_cases hO:f.str=orS
    ·have hO':f.str=[111,114,101,108,115,101]:=hO;rw[qB5 hO]at hh hl⊢;rw[qB5 hO'];have hl2:r.length=2:=by
      have:=hg.1;rw[hO,qyk,List.mem_singleton]at this;omega
     exact lazy 16 false (.inr rfl) rfl hl2 hh hl
    have hO':¬f.str=[111,114,101,108,115,101]:=hO;rw[qB6 hO]at hh hl⊢;rw[qB6 hO'];rw[List.map_append]at hh;rw[qBr]at hl;obtain⟨hh1,hh2⟩:=hh.app;rw[qBE]at hh2;obtain⟨hx,_⟩:=hh2.cons;obtain⟨k,hk⟩:=hmany r hr hg.2 q n s hh1 (by omega) hs hb hes;rw[qBr];cases hv:seqO (xf e r)with
    |none=>rw[hv]at hk;exact⟨k,hk⟩
    |some ts=>
     rw[hv]at hk;have hlen:=qd0 hv;have hts:=qjE he (λx hx=>⟨(hr x hx).2,yy hg.2 x hx⟩) hv;have ho:(φ ⟨13,(r.length:Int),0,f⟩).o=13:=hm.ho _;have hAr:(φ ⟨13,(r.length:Int),0,f⟩).a=(ts.length:Int):=by rw[hm.ha _ (by simp) (by simp),hlen]
     have hT:(φ ⟨13,(r.length:Int),0,f⟩).t=f:=hm.ht _;obtain⟨e1,e2⟩:=qjA ts s.vals;have hdo:doO f.str ts self=zm f.str ts e.self:=by
      unfold doO;rw[qB5 ⟨⟨by rw[hlen];exact hg.1,by rw[←hself];exact he.self⟩,hts⟩,hself]
     have hd:vD opsK o self { s with vals:=ts.reverse++s.vals } (φ ⟨13,(r.length:Int),0,f⟩)=match zm f.str ts e.self with|none=>(.raises,{ s with vals:=s.vals })|some t=>xN t { s with vals:=s.vals }:=by
      rw[qhV (by rw[ho];simp)];unfold qca yo;simp only[ho,hAr,hT,show ¬((13:Int)=12) by decide,show ¬((13:Int)=11) by decide,if_false,qBB,e1,e2,hdo];rw[qB6 (by simp[f2,hf.2];omega)];cases zm f.str ts e.self<;>rfl
     rw[qBs];cases hap:zm f.str ts e.self with
     |none=>
      rw[hap]at hd;refine⟨k+1,hk.trans ?_⟩;exact hm.raise _ ⟨13,(r.length:Int),0,f⟩ _ _ _ (by simp at hl;omega) (by simp) hx hb hd
     |some t=>
      rw[hap]at hd;obtain⟨k2,hk2⟩:=qgd hm (n:=n+k) (s:={ s with vals:=ts.reverse++s.vals }) (s1:={ s with vals:=s.vals }) (t:=t) (x:=⟨13,(r.length:Int),0,f⟩) (q:=q+(xq r q).length) (by simp at hl;omega) hx (by simp) hb hd;refine⟨k+k2,hk.trans ?_⟩;refine hk2.trans ?_;rw[qBs];cases xV t<;>simp[qBO]
  rw[qcS h2 h9 h7]at hh⊢;rw[qf2 h2 h9 h7];obtain⟨hx,_⟩:=hh.cons;have ho:=hm.ho ⟨7,0,0,t⟩;have hT:=hm.ht ⟨7,0,0,t⟩;refine qea hm hx hc ?_;rw[qbW (by rw[ho];simp)];unfold qaL;simp only[ho,hT,hc,if_true]
end
theorem qxi{V W:List Int}(h:∀x∈V,x∈W):∀(n:Nat) (t:Tm),t.w<=n->isG V t=true->isG W t=true:=by
 intro n
 induction n with
 |zero=>intro t h;have:=t.w_eq;omega
 |succ n ih=>
  intro t hw hg;have hwe:=t.w_eq;have hall:∀l:List Tm,wL l<=n->allG V l=true->allG W l=true:=by
   intro l
   induction l with
   |nil=>intro _ _;rfl
   |cons x l ihl=>
    intro hw h;rw[qE]at hw;rw[allG,qBi]at h⊢;exact⟨ih x (by omega) h.1,ihl (by omega) h.2⟩
  by_cases h2:t.kind=2
  ·rw[qee h2]at hg⊢;cases hv:varT t with
   |none=>rfl
   |some x=>
    rw[hv]at hg;exact qB3 (h x (of_decide_eq_true hg))
  by_cases h9:t.kind=9
  ·rw[qed h9]at hg⊢;exact hall _ (by omega) hg
  by_cases h7:t.kind=7
  ·cases hs:t.subs with
   |nil=>rw[qdK h7 hs]at hg;cases hg
   |cons f r=>
    rw[hs,qE]at hwe;have hf:=f.w_eq;rw[qdJ h7 hs]at hg⊢;split
    ·rename_i f7;rw[qB5 f7,qBi]at hg;rw[qBi];exact⟨hg.1,hall _ (by omega) hg.2⟩
    ·rename_i f7;rw[qB6 f7]at hg;split
     ·rename_i f2;rw[qB5 f2]at hg;split
      ·rename_i fk;rw[qB5 fk]at hg;exact hg
      ·rename_i fk;rw[qB6 fk,qBi]at hg;rw[qBi];exact⟨hg.1,hall _ (by omega) hg.2⟩
     ·rename_i f2;rw[qB6 f2]at hg;cases hg
  rw[qnk h2 h9 h7]
theorem qqQ:∀(w:Nat) (p:Tm),p.w<=w->∀(t:Tm) (m m':List (Int×Tm)),xT p t m=some m'->∀n,xL n p=true∨(qG n m).isSome=true->(qG n m').isSome=true:=by
 intro w
 induction w with
 |zero=>intro p h;have:=p.w_eq;omega
 |succ w ih=>
  intro p hw t m m' h n hn;have hwe:=p.w_eq;rw[qaX]at h;rw[qbH]at hn
  by_cases h2:p.kind=2
  ·rw[qB5 h2]at h;rw[qB6 (by omega),qB3 h2,qBV,decide_eq_true_eq]at hn;split at h
   ·rename_i h95;cases h;rcases hn with hn|hn
    ·rw[h95]at hn;cases hn
    ·exact hn
   ·cases hv:varG p.str with
    |none=>
     rw[hv]at h hn;simp only[]at h;rcases hn with hn|hn
     ·cases hn
     ·split at h
      ·cases h;exact hn
      ·cases h
    |some v=>
     rw[hv]at h hn;simp only[]at h;cases hx:qG v m with
     |some x=>
      rw[hx]at h;simp only[]at h;split at h
      ·cases h;rcases hn with hn|hn
       ·cases hn;rw[hx];rfl
       ·exact hn
      ·cases h
     |none=>
      rw[hx]at h;cases h;rw[qcb];rcases hn with hn|hn
      ·cases hn;rw[hx];simp
      ·obtain⟨y,hy⟩:=Option.isSome_iff_exists.1 hn;rw[hy];rfl
  ·rw[qB6 h2]at h
   by_cases h79:p.kind=7∨p.kind=9
   ·rw[qB5 h79]at h hn;split at h
    ·cases h
    ·rename_i hkl;have hlen:t.subs.length=p.subs.length:=by
      by_cases e:t.subs.length=p.subs.length
      ·exact e
      ·exact absurd (.inr e) hkl
     have main:∀(l l':List Tm) (m m':List (Int×Tm)),wL l<=w->l'.length=l.length->xk l l' m=some m'->(l.any (xL n)=true∨(qG n m).isSome=true)->(qG n m').isSome=true:=by
      intro l
      induction l with
      |nil=>
       intro l' m m' _ _ h hn;rw[qbd]at h;cases h;rcases hn with hn|hn
       ·cases hn
       ·exact hn
      |cons x l ihl=>
       intro l' m m' hw hl h hn;rw[qE]at hw;cases l' with
       |nil=>cases hl
       |cons y l'=>
        rw[qaE]at h;obtain⟨m1,h1,h3⟩:=qBl.1 h;refine ihl l' m1 m' (by omega) (by simpa using hl) h3 ?_;rw[List.any_cons,Bool.or_eq_true]at hn;rcases hn with(hn|hn)|hn
        ·exact .inr (ih x (by omega) y m m1 h1 n (.inl hn))
        ·exact .inl hn
        ·exact .inr (ih x (by omega) y m m1 h1 n (.inr hn))
     exact main p.subs t.subs m m' (by omega) hlen h hn
   ·rw[qB6 h79]at h hn;rw[qB4 h2,Bool.false_and]at hn;split at h
    ·cases h;rcases hn with hn|hn
     ·cases hn
     ·exact hn
    ·cases h
theorem qgP(m:List (Int×Tm))(k:Int):∀ns:List Nat,qG k (ns.filterMap λn:Nat=>(qG (n:Int) m).map λt=>((n:Int),t))=if ∃n∈ns,(n:Int)=k then qG k m else none
 |[]=>by simp[qG]
 |a::ns=>by
  have ih:=qgP m k ns
  by_cases ha:(a:Int)=k
  ·rw[qB5 ⟨a,by simp,ha⟩];cases hl:qG (a:Int) m with
   |none=>
    rw[List.filterMap_cons_none (by rw[hl];rfl),ih];rw[←ha,hl];split<;>rfl
   |some t=>
    rw[List.filterMap_cons_some (b:=((a:Int),t)) (by rw[hl];rfl),qG,qB5 ha,←ha,hl]
  ·have e:(∃n∈a::ns,(n:Int)=k)↔(∃n∈ns,(n:Int)=k):=by
    constructor
    ·rintro⟨n,hn,e⟩;rcases qBG.1 hn with rfl|hn
     ·exact absurd e ha
     ·exact⟨n,hn,e⟩
    ·rintro⟨n,hn,e⟩;exact⟨n,by simp[hn],e⟩
   cases hl:qG (a:Int) m with
   |none=>
    rw[List.filterMap_cons_none (by rw[hl];rfl),ih];simp only[e]
   |some t=>
    rw[List.filterMap_cons_some (b:=((a:Int),t)) (by rw[hl];rfl),qG,qB6 ha,ih];simp only[e]
theorem qqY{m:List (Int×Tm)}(hm:∀p∈m,0<=p.1∧p.1<=99)(k:Int):qG k (xM m)=qG k m:=by
 unfold xM;rw[qgP];split
 ·rfl
 ·rename_i h;cases hl:qG k m with
  |none=>rfl
  |some t=>
   have:=hm _ (xD hl);exact absurd ⟨k.toNat,by rw[List.mem_range];simp only[]at this;omega,by simp only[]at this;omega⟩ h
theorem qv3(m:List (Int×Tm)):allB m=(xM m).map (·.2):=by
 unfold allB xM;rw[List.map_filterMap];refine qbl λn _=>?_
 cases qG (n:Int) m<;>rfl
theorem qoX{x:Int}{t:Tm}:∀{m:List (Int×Tm)},qG x m=none->putB x t m=m++[(x,t)]
 |[],_=>rfl
 |p::m,h=>by
  rw[qG]at h;split at h
  ·cases h
  ·rename_i hp;rw[putB,qB6 hp,qoX h];rfl
noncomputable section
variable {L : List InsA} {o : Tm} {self : Int} {F : Nat}
theorem qfK(hF:F<=L.length){q n:Nat}{x:InsA}{s s':SK}(hq:q<F)(hx:L[q]? =some (q6 (F:Int) x))(ho:x.o=1∨x.o=2∨x.o=4∨x.o=6∨x.o=14)(hd:vD opsK o self s (q6 (F:Int) x)=(.fails,s')):runO opsK L o self q n s=runO opsK L o self F (n+1) (newK o):=by
 rw[qga hx hd];have hb:(q6 (F:Int) x).b=F:=by
  unfold q6;rw[qB5 (by rcases ho with h|h|h|h|h<;>simp[h])]
 unfold goO;have hp:xX q (q6 (F:Int) x) .fails=(F:Int):=hb;rw[hp,qB6 (by omega),qBB]
theorem qwz{t:Tm}{x:Int}(h:varT t=some x):t.kind=2∧varG t.str=some x:=by
 unfold varT at h;split at h
 ·rename_i hc;exact⟨hc.1,h⟩
 ·cases h
def qt7(L:List InsA)(o:Tm)(self:Int)(F q len n:Nat)(s:SK)(r:List Tm)(v:Option (List (Int×Tm))):Prop:=
 ∃k,runO opsK L o self q n s=match v with
  |some B=>runO opsK L o self (q+len) (n+k) ⟨r,s.vals,B,s.body⟩
  |none=>runO opsK L o self F (n+k) (newK o)
theorem qxn(hF:F<=L.length):∀(w:Nat) (p:Tm),p.w<=w->p.chk=0->∀(t:Tm),t.chk=0->∀(q n:Nat) (r vals:List Tm) (V:List Int) (B:List (Int×Tm)) (b:Bool),Has L q ((vS p V).1.map (q6 (F:Int)))->q+(vS p V).1.length<=F->(∀x,x∈V↔(qG x B).isSome=true) ->
  qt7 L o self F q (vS p V).1.length n ⟨t::r,vals,B,b⟩ r (xT p t B)∧∀B',xT p t B=some B'->∀x,x∈(vS p V).2↔(qG x B').isSome=true:=by
 intro w
 induction w with
 |zero=>intro p h;have:=p.w_eq;omega
 |succ w ih=>
  intro p hw hc t ht q n r vals V B b hh hl hV;have hwe:=p.w_eq;have one:∀(x:InsA) (s':SK),L[q]? =some (q6 (F:Int) x)->vD opsK o self ⟨t::r,vals,B,b⟩ (q6 (F:Int) x)=(.next,s')->runO opsK L o self q n ⟨t::r,vals,B,b⟩=runO opsK L o self (q+1) (n+1) s':=λx s' hx hd=>zc hx hd
  have fo:∀x:InsA,(q6 (F:Int) x).o=x.o:=qfJ _;have ft:∀x:InsA,(q6 (F:Int) x).t=x.t:=qiv _;have fa:∀x:InsA,x.o≠15->x.o≠16->(q6 (F:Int) x).a=x.a:=by
   intro x h1 h2;unfold q6;split
   ·rfl
   ·split
    ·rename_i h;omega
    ·rfl
  rw[qgs]at hh hl⊢;rw[qaX];cases hv:varT p with
  |some x=>
   obtain⟨h2,hg⟩:=qwz hv;have hx99:=qfu hg;have h95:¬p.str=[95]:=by intro e;rw[e]at hg;cases hg
   rw[hv]at hh hl;simp only[]at hh hl⊢;rw[qB5 h2,qB6 h95,hg];simp only[]
   by_cases hm:x∈V
   ·rw[qB5 hm]at hh hl⊢;obtain⟨hx,_⟩:=hh.cons;obtain⟨y,hy⟩:=Option.isSome_iff_exists.1 ((hV x).1 hm);rw[hy];simp only[];have o4:(q6 (F:Int) (iz 4 x 0)).o=4:=fo _;have a4:(q6 (F:Int) (iz 4 x 0)).a=x:=fa _ (by simp) (by simp);have hd:vD opsK o self ⟨t::r,vals,B,b⟩ (q6 (F:Int) (iz 4 x 0))=if y=t then(.next,⟨r,vals,B,b⟩)else(.fails,⟨r,vals,B,b⟩):=by
     rw[qbm (by rw[o4];simp)];unfold zi;simp only[o4,a4];rw[qB6 (by decide),qB6 (by decide),qB6 (by decide),qB6 (by decide),qB5 trivial,qB6 (by omega),hy]
    by_cases hyt:y=t
    ·rw[qB5 hyt]at hd⊢;exact⟨⟨1,one _ _ hx hd⟩,λB' e=>by cases e;exact hV⟩
    ·rw[qB6 hyt]at hd⊢;exact⟨⟨1,qfK hF (by simp at hl;omega) hx (by simp) hd⟩,λB' e=>by cases e⟩
   ·rw[qB6 hm]at hh hl⊢;obtain⟨hx,_⟩:=hh.cons;have hn:qG x B=none:=by
     cases e:qG x B with
     |none=>rfl
     |some y=>exact absurd ((hV x).2 (by rw[e];rfl)) hm
    rw[hn];simp only[];have o3:(q6 (F:Int) (iz 3 x 0)).o=3:=fo _;have a3:(q6 (F:Int) (iz 3 x 0)).a=x:=fa _ (by simp) (by simp);have hd:vD opsK o self ⟨t::r,vals,B,b⟩ (q6 (F:Int) (iz 3 x 0))=(.next,⟨r,vals,B++[(x,t)],b⟩):=by
     rw[qbm (by rw[o3];simp)];unfold zi;simp only[o3,a3];rw[qB6 (by decide),qB6 (by decide),qB6 (by decide),qB5 trivial,qB6 (by omega)];show(How.next,(⟨r,vals,putB x t B,b⟩:SK))=_;rw[qoX hn]
    refine⟨⟨1,one _ _ hx hd⟩,λB' e=>?_⟩;cases e;intro z;rw[qcb,qBF,List.mem_singleton,hV];cases qG z B with
    |some y=>simp
    |none=>
     simp only[Option.isSome_none,qBu,false_or]
     by_cases hz:x=z
     ·simp[hz]
     ·rw[qB6 hz];simp;exact λe=>hz e.symm
  |none=>
   have hvn:p.kind=2->varG p.str=none:=by
    intro h2;unfold varT at hv
    rwa [qB5 ⟨h2,hc⟩]at hv
   rw[hv]at hh hl;simp only[]at hh hl⊢;cases hat:anyT p with
   |true=>
    have h2:p.kind=2∧p.str=[95]:=by
     unfold anyT at hat;simp only[qBi,decide_eq_true_eq]at hat;exact⟨hat.1,hat.2.1⟩
    rw[hat]at hh hl;rw[qB5 rfl]at hh hl⊢;rw[qB5 h2.1,qB5 h2.2];obtain⟨hx,_⟩:=hh.cons;have o5:(q6 (F:Int) (iz 5 0 0)).o=5:=fo _;have hd:vD opsK o self ⟨t::r,vals,B,b⟩ (q6 (F:Int) (iz 5 0 0))=(.next,⟨r,vals,B,b⟩):=by
     rw[qbm (by rw[o5];simp)];unfold zi;simp only[o5];rw[qB6 (by decide),qB6 (by decide),qB6 (by decide),qB6 (by decide),qB6 (by decide)]
    exact⟨⟨1,one _ _ hx hd⟩,λB' e=>by cases e;exact hV⟩
   |false=>
    have hna:p.kind=2->¬p.str=[95]:=by
     intro h2 h5;unfold anyT at hat;rw[qB3 h2,qB3 h5,qB3 hc]at hat;cases hat
    rw[hat]at hh hl;rw[qB6 (by decide)]at hh hl⊢;have hsub:∀x∈p.subs,x.w<=w∧x.chk=0:=λx hx=>⟨by have:=xW hx;omega,vA hc hx⟩
    have many:∀(ps:List Tm),(∀x∈ps,x.w<=w∧x.chk=0)->∀(ts:List Tm),ts.length=ps.length->(∀x∈ts,x.chk=0)->∀(q n:Nat) (V:List Int) (B:List (Int×Tm)),Has L q ((vU ps V).1.map (q6 (F:Int)))->q+(vU ps V).1.length<=F->(∀x,x∈V↔(qG x B).isSome=true) ->
      qt7 L o self F q (vU ps V).1.length n ⟨ts++r,vals,B,b⟩ r (xk ps ts B)∧∀B',xk ps ts B=some B'->∀x,x∈(vU ps V).2↔(qG x B').isSome=true:=by
     intro ps;have gen:∀(ps:List Tm),(∀x∈ps,x.w<=w∧x.chk=0)->∀(ts:List Tm),ts.length=ps.length->(∀x∈ts,x.chk=0)->∀(q n:Nat) (V:List Int) (B:List (Int×Tm)),Has L q ((vU ps V).1.map (q6 (F:Int)))->q+(vU ps V).1.length<=F->(∀x,x∈V↔(qG x B).isSome=true) ->
      qt7 L o self F q (vU ps V).1.length n ⟨ts++r,vals,B,b⟩ r (xk ps ts B)∧∀B',xk ps ts B=some B'->∀x,x∈(vU ps V).2↔(qG x B').isSome=true:=by
      intro ps
      induction ps with
      |nil=>
       intro _ ts hlen _ q n V B _ _ hV;obtain rfl:ts=[]:=List.length_eq_zero_iff.1 hlen;rw[qdz,qbd];exact⟨⟨0,rfl⟩,λB' e=>by cases e;exact hV⟩
      |cons p ps ihp=>
       intro hps ts hlen hts q n V B hh hl hV;cases ts with
       |nil=>cases hlen
       |cons t ts=>
        rw[qcN]at hh hl⊢;simp only[]at hh hl⊢;rw[List.map_append]at hh;rw[qBr]at hl;obtain⟨h1,h2⟩:=hh.app;rw[qBE]at h2;rw[qaE,qBr];obtain⟨⟨k,hk⟩,hd⟩:=ih p (hps p (by simp)).1 (hps p (by simp)).2 t (hts t (by simp)) q n (ts++r) vals V B b h1 (by omega) hV;cases hm:xT p t B with
        |none=>
         rw[hm]at hk;exact⟨⟨k,hk⟩,λB' e=>by cases e⟩
        |some B1=>
         rw[hm]at hk;obtain⟨⟨k2,hk2⟩,hd2⟩:=ihp (λx hx=>hps x (by simp[hx])) ts (by simpa using hlen) (λx hx=>hts x (by simp[hx])) (q+(vS p V).1.length) (n+k) (vS p V).2 B1 h2 (by omega) (hd B1 hm);rw[qBs];refine⟨⟨k+k2,hk.trans (hk2.trans ?_)⟩,hd2⟩;cases xk ps ts B1<;>simp only[qBO]
     exact gen ps
    by_cases h7:p.kind=7
    ·rw[qB5 h7]at hh hl⊢;rw[qB6 (by omega),qB5 (.inl h7)];simp only[qBZ,qBK]at hh hl⊢;obtain⟨hx,hh2⟩:=hh.cons;have o1:(q6 (F:Int) (iz 1 (p.subs.length:Int) 0)).o=1:=fo _;have a1:(q6 (F:Int) (iz 1 (p.subs.length:Int) 0)).a=(p.subs.length:Int):=fa _ (by show(1:Int)≠15;decide) (by show(1:Int)≠16;decide);have hd:vD opsK o self ⟨t::r,vals,B,b⟩ (q6 (F:Int) (iz 1 (p.subs.length:Int) 0))=if t.kind=7∧(t.subs.length:Int)=(p.subs.length:Int)then(.next,⟨t.subs++r,vals,B,b⟩)else(.fails,⟨r,vals,B,b⟩):=by
      rw[qbm (by rw[o1];simp)];unfold zi;simp only[o1,a1];rw[qB5 trivial,qB6 (by omega)]
     by_cases hok:t.kind=7∧(t.subs.length:Int)=(p.subs.length:Int)
     ·rw[qB5 hok]at hd;rw[qB6 (by rw[h7];omega)];obtain⟨⟨k,hk⟩,hdm⟩:=many p.subs hsub t.subs (by omega) (λx hx=>vA ht hx) (q+1) (n+1) V B hh2 (by omega) hV;refine⟨⟨1+k,(one _ _ hx hd).trans (hk.trans ?_)⟩,hdm⟩;cases xk p.subs t.subs B<;>simp only[qBO]
      rw[show q+(1+(vU p.subs V).1.length)=q+((vU p.subs V).1.length+1) by omega]
     ·rw[qB6 hok]at hd;rw[qB5 (by rw[h7];omega)];exact⟨⟨1,qfK hF (by omega) hx (by simp) hd⟩,λB' e=>by cases e⟩
    by_cases h9:p.kind=9
    ·rw[qB6 h7,qB5 h9]at hh hl⊢;rw[qB6 (by omega),qB5 (.inr h9)];simp only[qBZ,qBK]at hh hl⊢;obtain⟨hx,hh2⟩:=hh.cons;have o1:(q6 (F:Int) (iz 2 0 0)).o=2:=fo _;have hd:vD opsK o self ⟨t::r,vals,B,b⟩ (q6 (F:Int) (iz 2 0 0))=if t.kind=9 then(.next,⟨t.subs++r,vals,B,b⟩)else(.fails,⟨r,vals,B,b⟩):=by
      rw[qbm (by rw[o1];simp)];unfold zi;simp only[o1];rw[qB6 (by decide),qB5 trivial]
     by_cases hok:t.kind=9
     ·obtain⟨a1,a2,ha⟩:=zM hc h9;obtain⟨b1,b2,hb⟩:=zM ht hok;rw[qB5 hok]at hd;have hlen:t.subs.length=p.subs.length:=by rw[ha,hb];rfl
      rw[qB6 (by rw[h9];omega)];obtain⟨⟨k,hk⟩,hdm⟩:=many p.subs hsub t.subs (by omega) (λx hx=>vA ht hx) (q+1) (n+1) V B hh2 (by omega) hV;refine⟨⟨1+k,(one _ _ hx hd).trans (hk.trans ?_)⟩,hdm⟩;cases xk p.subs t.subs B<;>simp only[qBO]
      rw[show q+(1+(vU p.subs V).1.length)=q+((vU p.subs V).1.length+1) by omega]
     ·rw[qB6 hok]at hd;rw[qB5 (by rw[h9];exact .inl hok)];exact⟨⟨1,qfK hF (by omega) hx (by simp) hd⟩,λB' e=>by cases e⟩
    rw[qB6 h7,qB6 h9]at hh hl⊢;obtain⟨hx,_⟩:=hh.cons;have o6:(q6 (F:Int) ⟨6,0,0,p⟩).o=6:=fo _;have t6:(q6 (F:Int) ⟨6,0,0,p⟩).t=p:=ft _;have hd:vD opsK o self ⟨t::r,vals,B,b⟩ (q6 (F:Int) ⟨6,0,0,p⟩)=if t=p then(.next,⟨r,vals,B,b⟩)else(.fails,⟨r,vals,B,b⟩):=by
     rw[qbm (by rw[o6];simp)];unfold zi;simp only[o6,t6];rw[qB6 (by decide),qB6 (by decide),qB5 trivial,qB5 hc]
    have hr:xT p t B=if t=p then some B else none:=by
     rw[qaX]
     by_cases h2:p.kind=2
     ·rw[qB5 h2,qB6 (hna h2),hvn h2]
      by_cases e:t=p
      ·rw[qB5 e];simp only[];rw[qB5 e.symm]
      ·rw[qB6 e];simp only[];rw[qB6 λh=>e h.symm]
     ·rw[qB6 h2,qB6 (by omega)]
      by_cases e:t=p
      ·rw[qB5 e,qB5 e.symm]
      ·rw[qB6 e,qB6 λh=>e h.symm]
    rw[←qaX p t B,hr]
    by_cases e:t=p
    ·rw[qB5 e]at hd⊢;exact⟨⟨1,one _ _ hx hd⟩,λB' e=>by cases e;exact hV⟩
    ·rw[qB6 e]at hd⊢;exact⟨⟨1,qfK hF (by simp at hl;omega) hx (by simp) hd⟩,λB' e=>by cases e⟩
theorem qw5(hF:F<=L.length):Md L o self (q6 (F:Int)) false (λm=>runO opsK L o self F m (newK o)) F where
 ho:=qfJ _
 ht:=qiv _
 ha:=by
  intro x h1 h2;unfold q6;split
  ·rfl
  ·split
   ·rename_i h;omega
   ·rfl
 hb:=by
  intro x h;unfold q6;rw[qB6 (by rcases h with h|h<;>simp[h]),qB5 h]
 raise:=by
  intro q x n s s' hq ho hx hb hd;rw[qcC hx hd,hb];have hp:xX q (q6 (F:Int) x) .raises=(F:Int):=by
   show(if(q6 (F:Int) x).o=15∨(q6 (F:Int) x).o=16 then(q6 (F:Int) x).a else(q6 (F:Int) x).b)=_;rw[qfJ];unfold q6
   by_cases h:x.o=15∨x.o=16
   ·rw[qB5 h,qB6 (by rcases h with h|h<;>simp[h]),qB5 h]
   ·rw[qB6 h,qB5 (by
     simp only[qBG,List.not_mem_nil,or_false]at ho⊢;omega)]
  unfold goO;rw[hp,qB6 (by decide),qB6 (by omega),qBB]
theorem qrR(hi:Nat):Md L o self id true (λm=>(qgw,true,(m:Int),0)) hi where
 ho:=λ_=>rfl
 ht:=λ_=>rfl
 ha:=λ_ _ _=>rfl
 hb:=λ_ _=>rfl
 raise:=by
  intro q x n s s' _ _ hx hb hd;rw[qcC hx hd,hb,qB5 rfl];simp
theorem quq{e:Env}(he:EnvOk e){t:Tm}(h:xm (ya e) t=0):qb1 e t=match valG e t with|some v=>decide (vL v=some true)|none=>false:=by
 unfold qb1 yT;rw[qfM.2 he,qB3 h];simp only[qBw,if_true];cases valG e t with
 |none=>rfl
 |some v=>
  simp only[decide_true,qBV];unfold vL
  by_cases h1:v.kind=2
  ·by_cases h2:v.str=tru
   ·simp[h1,h2]
   ·rw[qB3 h1,qB4 h2,qB6 (λh=>h2 h.2)];split<;>simp
  ·rw[qB4 h1,qB6 (λh=>h1 h.1),qB6 (λh=>h1 h.1)];simp
theorem qtq(hF:F<=L.length){e:Env}(he:EnvOk e)(hobj:e.obj=o)(hself:e.self=self){B:List (Int×Tm)}(hs:SOk ⟨[],[],B,false⟩)(hes:EnvS e ⟨[],[],B,false⟩):∀(gs:List Tm),(∀g∈gs,xm (ya e) g=0)->∀q n,Has L q ((xu gs q).map (q6 (F:Int)))->q+(xu gs q).length<=F ->
  ∃k,runO opsK L o self q n ⟨[],[],B,false⟩=if gs.all (qb1 e)then runO opsK L o self (q+(xu gs q).length) (n+k) ⟨[],[],B,false⟩else runO opsK L o self F (n+k) (newK o):=by
 intro gs
 induction gs with
 |nil=>intro _ q n _ _;exact⟨0,rfl⟩
 |cons g gs ih=>
  intro hg q n hh hl;rw[xu]at hh hl⊢;rw[List.map_append,qBZ]at hh;simp only[qBr,qBK]at hl⊢;obtain⟨h1,h2⟩:=hh.app;rw[qBE]at h2;obtain⟨hx,h3⟩:=h2.cons;have hc:=hg g (by simp);obtain⟨hgc,hgi⟩:=qaI hc;obtain⟨k,hk⟩:=qjS (qw5 (o:=o) (self:=self) hF) he hobj hself g.w g (qBp _) hgc hgi q n ⟨[],[],B,false⟩ h1 (by omega) hs rfl hes
  have hT:=quq he hc;cases hv:valG e g with
  |none=>
   rw[hv]at hk hT;have hall:(g::gs).all (qb1 e)=false:=by rw[List.all_cons,hT];rfl
   rw[hall];simp only[qBu,if_false];exact⟨k,hk⟩
  |some v=>
   rw[hv]at hk hT;simp only[qBD,List.reverse_cons,List.reverse_nil,List.nil_append,List.singleton_append]at hk;have hall:(g::gs).all (qb1 e)=(decide (vL v=some true)&&gs.all (qb1 e)):=by rw[List.all_cons,hT]
   rw[hall];have o14:(q6 (F:Int) (iz 14 0 0)).o=14:=qfJ _ _;have hd:vD opsK o self ⟨[],[v],B,false⟩ (q6 (F:Int) (iz 14 0 0))=if vL v=some true then(.next,⟨[],[],B,false⟩)else(.fails,⟨[],[],B,false⟩):=by
    rw[qc9 (by rw[o14];simp)];unfold qbg;simp only[o14];rw[qB6 (by decide),qB6 (by decide),qB5 trivial]
   by_cases hb:vL v=some true
   ·rw[qB5 hb]at hd;rw[qB3 hb,qBV];obtain⟨k2,hk2⟩:=ih (λx hx=>hg x (by simp[hx])) (q+(qL g q).length+1) (n+k+1) h3 (by omega);refine⟨k+1+k2,hk.trans ?_⟩;rw[zc hx hd,hk2];rw[show n+k+1+k2=n+(k+1+k2) by omega,show q+(qL g q).length+1+(xu gs (q+(qL g q).length+1)).length=q+((qL g q).length+((xu gs (q+(qL g q).length+1)).length+1)) by omega]
   ·rw[qB6 hb]at hd;rw[qB4 hb,Bool.false_and];simp only[qBu,if_false];refine⟨k+1,hk.trans ?_⟩;exact qfK hF (by omega) hx (by simp) hd
theorem qnm{e:Env}(he:EnvOk e){t:Tm}(h:xm (ya e) t=0):yT e t=match valG e t with|some v=>(v,0)|none=>(q9,10):=by
 unfold yT;rw[qfM.2 he,qB3 h];rfl
theorem qwS{e:Env}(he:EnvOk e)(hobj:e.obj=o)(hself:e.self=self){B:List (Int×Tm)}(hs:SOk ⟨[],[],B,true⟩)(hes:EnvS e ⟨[],[],B,true⟩):∀(bs:List Tm),(∀g∈bs,xm (ya e) g=0)->∀(q n:Nat) (v:Tm),Has L q (qaJ bs q++[iz 20 0 0]) ->
  ∃k:Nat,runO opsK L o self q n ⟨[],[v],B,true⟩=(qcV e v bs,true,((n+k:Nat):Int),0):=by
 intro bs
 induction bs with
 |nil=>
  intro _ q n v hh;obtain⟨hx,_⟩:=hh.cons;have hd:vD opsK o self ⟨[],[v],B,true⟩ (iz 20 0 0)=(.tells,⟨[],[v],B,true⟩):=by
   rw[qc9 (by simp)];unfold qbg;simp
  refine⟨1,?_⟩;rw[qf8 hx hd];rfl
 |cons g bs ih=>
  intro hg q n v hh;rw[qaJ]at hh;obtain⟨hx,h1⟩:=Has.cons hh;replace h1:Has L (q+1) ((qL g (q+1)++qaJ bs (q+1+(qL g (q+1)).length))++[iz 20 0 0]):=h1;rw[List.append_assoc]at h1;obtain⟨h2,h3⟩:=h1.app;have hc:=hg g (by simp);obtain⟨hgc,hgi⟩:=qaI hc;have hd:vD opsK o self ⟨[],[v],B,true⟩ (iz 19 0 0)=(.next,⟨[],[],B,true⟩):=by
   rw[qc9 (by simp)];unfold qbg;simp
  obtain⟨k,hk⟩:=qjS (qrR (L:=L) (o:=o) (self:=self) (q+1+(qL g (q+1)).length)) he hobj hself g.w g (qBp _) hgc hgi (q+1) (n+1) ⟨[],[],B,true⟩ (by rw[List.map_id];exact h2) (qBp _) hs rfl hes;rw[qcV,qnm he hc];rw[zc hx hd];cases hv:valG e g with
  |none=>
   rw[hv]at hk;simp only[]at hk⊢;rw[qB6 (by decide)];refine⟨1+k,hk.trans ?_⟩;rw[show n+(1+k)=n+1+k by omega];rfl
  |some w=>
   rw[hv]at hk;simp only[qBD,List.reverse_cons,List.reverse_nil,List.nil_append,List.singleton_append]at hk;simp only[if_true];obtain⟨k2,hk2⟩:=ih (λx hx=>hg x (by simp[hx])) (q+1+(qL g (q+1)).length) (n+1+k) w h3;refine⟨1+k+k2,hk.trans (hk2.trans ?_)⟩;rw[show n+1+k+k2=n+(1+k+k2) by omega]
theorem qxD{e:Env}(he:EnvOk e)(hobj:e.obj=o)(hself:e.self=self){B:List (Int×Tm)}(hs:SOk ⟨[],[],B,true⟩)(hes:EnvS e ⟨[],[],B,true⟩){bs:List Tm}(hne:bs≠[])(hg:∀g∈bs,xm (ya e) g=0){q n:Nat}(hh:Has L q (zH bs q++[iz 20 0 0]))(out:Tm):
  ∃k:Nat,runO opsK L o self q n ⟨[],[],B,true⟩=(qcV e out bs,true,((n+k:Nat):Int),0):=by
 cases bs with
 |nil=>exact absurd rfl hne
 |cons g bs=>
  rw[zH,List.append_assoc]at hh;obtain⟨h2,h3⟩:=hh.app;have hc:=hg g (by simp);obtain⟨hgc,hgi⟩:=qaI hc;obtain⟨k,hk⟩:=qjS (qrR (L:=L) (o:=o) (self:=self) (q+(qL g q).length)) he hobj hself g.w g (qBp _) hgc hgi q n ⟨[],[],B,true⟩ (by rw[List.map_id];exact h2) (qBp _) hs rfl hes;rw[qcV,qnm he hc];cases hv:valG e g with
  |none=>
   rw[hv]at hk;simp only[]at hk⊢;rw[qB6 (by decide)];exact⟨k,hk⟩
  |some w=>
   rw[hv]at hk;simp only[qBD,List.reverse_cons,List.reverse_nil,List.nil_append,List.singleton_append]at hk;simp only[if_true];obtain⟨k2,hk2⟩:=qwS he hobj hself hs hes bs (λx hx=>hg x (by simp[hx])) (q+(qL g q).length) (n+k) w h3;refine⟨k+k2,hk.trans (hk2.trans ?_)⟩;rw[qBO]
theorem qqR{p t:Tm}:∀(w:Nat) (p:Tm),p.w<=w->∀(t:Tm) (m m':List (Int×Tm)),(∀q∈m,0<=q.1∧q.1<=99)->xT p t m=some m'->∀q∈m',0<=q.1∧q.1<=99:=by
 intro w
 induction w with
 |zero=>intro p h;have:=p.w_eq;omega
 |succ w ih=>
  intro p hw t m m' hm h;have hwe:=p.w_eq;rw[qaX]at h;split at h
  ·split at h
   ·cases h;exact hm
   ·cases hv:varG p.str with
    |none=>
     rw[hv]at h;simp only[]at h;split at h
     ·cases h;exact hm
     ·cases h
    |some v=>
     rw[hv]at h;simp only[]at h;cases hx:qG v m with
     |some x=>
      rw[hx]at h;simp only[]at h;split at h
      ·cases h;exact hm
      ·cases h
     |none=>
      rw[hx]at h;cases h;intro q hq;rcases qBF.1 hq with hq|hq
      ·exact hm q hq
      ·rw[List.mem_singleton]at hq;subst hq;exact qfu hv
  ·split at h
   ·split at h
    ·cases h
    ·have main:∀(l l':List Tm) (m m':List (Int×Tm)),wL l<=w->(∀q∈m,0<=q.1∧q.1<=99)->xk l l' m=some m'->∀q∈m',0<=q.1∧q.1<=99:=by
      intro l
      induction l with
      |nil=>intro l' m m' _ hm h;rw[qbd]at h;cases h;exact hm
      |cons x l ihl=>
       intro l' m m' hw hm h;rw[qE]at hw;cases l' with
       |nil=>
        have:xk (x::l) [] m=some m:=by rw[xk];simp
        rw[this]at h;cases h;exact hm
       |cons y l'=>
        rw[qaE]at h;obtain⟨m1,h1,h3⟩:=qBl.1 h;exact ihl l' m1 m' (by omega) (ih x (by omega) y m m1 hm h1) h3
     exact main p.subs t.subs m m' (by omega) hm h
   ·split at h
    ·cases h;exact hm
    ·cases h
theorem qsV{p:Tm}{m:List (Int×Tm)}(hp:p.chk=0)(hm:∀q∈m,0<=q.1∧q.1<=99)(h:∀n,xL n p=true->(qG n m).isSome=true):∀x∈zQ p,x∈(xM m).map (·.1):=by
 intro x hx;unfold zQ at hx;rw[qB5 hp]at hx;obtain⟨n,hn,rfl⟩:=List.mem_map.1 hx;have hn2:=(List.mem_filter.1 hn).2;obtain⟨t,ht⟩:=Option.isSome_iff_exists.1 (h _ hn2);refine List.mem_map.2 ⟨((n:Int),t),?_,rfl⟩;unfold xM;exact List.mem_filterMap.2 ⟨n,(List.mem_filter.1 hn).1,by rw[ht];rfl⟩
theorem qjp{V W:List Int}(h:∀x∈V,x∈W){t:Tm}(hc:xm V t=0):xm W t=0:=by
 obtain⟨h1,h2⟩:=qaI hc;unfold xm;rw[qB5 h1,qB5 (qxi h t.w t (qBp _) h2)]
theorem qtU{c:Cl}(hc:okC c=true)(hh:c.head.chk=0)(ho:o.chk=0)(h1:1<=self)(h2:self<=1073741824){q:Nat}(hL:Has L q (xp c q))(n:Nat):
  ∃k:Nat,runO opsK L o self q n (newK o)=match qes c o self with
   |some x=>(x,true,((n+k:Nat):Int),0)
   |none=>runO opsK L o self (q+(xp c q).length) (n+k) (newK o):=by
 unfold okC at hc;simp only[qBi,List.all_eq_true,decide_eq_true_eq]at hc;obtain⟨⟨_,hne⟩,hgs,hbs⟩:=hc;have hne:c.bs≠[]:=by rintro e;rw[e]at hne;cases hne
 have hlen:(xp c q).length=(xe c q).length+(qbb c q).length:=by unfold xp;simp
 have hF0:=hL.le (by unfold xp qbb;simp);generalize hFe:q+(xe c q).length+(qbb c q).length=F;have hF:F<=L.length:=by omega
 have hFq:q+(xp c q).length=F:=by omega
 rw[hFq];unfold xp at hL;rw[hFe]at hL;obtain⟨ha,ht⟩:=hL.app;rw[qBE]at ht;unfold xe at ha;rw[List.map_append]at ha;obtain⟨hhd,hgd⟩:=ha.app;rw[qBE]at hgd;have hal:(xe c q).length=(vS c.head []).1.length+(xu c.gs (q+(vS c.head []).1.length)).length:=by unfold xe;simp
 have htl:0<(qbb c q).length:=by unfold qbb;simp
 obtain⟨⟨k,hk⟩,hdom⟩:=qxn (o:=o) (self:=self) hF c.head.w c.head (qBp _) hh o ho q n [] [] [] [] false hhd (by omega) (by simp[qG]);have hmg:qaY c.head o=(xT c.head o []).map xM:=by unfold qaY;rw[qB5 ⟨hh,ho⟩]
 unfold qes;rw[hmg];cases hm:xT c.head o []with
 |none=>rw[hm]at hk;exact⟨k,hk⟩
 |some B=>
  rw[hm]at hk hmg;simp only[qBD]at hk hmg⊢;have hkeys:=qqR (p:=c.head) (t:=o) c.head.w c.head (qBp _) o [] B (by simp) hm;have hchk:=qk4 c.head.w c.head o [] B (qBp _) ho (by simp) hm;have he:EnvOk ⟨o,xM B,self⟩:=qsW hmg h1 h2;have hnames:∀x∈zQ c.head,x∈ya ⟨o,xM B,self⟩:=qsV hh hkeys λn hn=>qqQ c.head.w c.head (qBp _) o [] B hm n (.inl hn)
  have hs:∀b,SOk ⟨[],[],B,b⟩:=λb=>⟨λx hx=>absurd hx (by simp),λx hx=>absurd hx (by simp),λp hp=>⟨hchk p hp,hkeys p hp⟩⟩
  have hes:∀b,EnvS ⟨o,xM B,self⟩ ⟨[],[],B,b⟩:=λb=>⟨λn=>(qqY hkeys n).symm,qv3 B⟩
  obtain⟨k2,hk2⟩:=qtq (o:=o) (self:=self) hF he rfl rfl (hs false) (hes false) c.gs (λg hg=>qjp hnames (hgs g hg)) (q+(vS c.head []).1.length) (n+k) hgd (by omega);have hhold:qfI ⟨o,xM B,self⟩ c.gs=c.gs.all (qb1 ⟨o,xM B,self⟩):=by
   unfold qfI;rw[qfM.2 he,Bool.and_true]
  rw[hhold];cases hall:c.gs.all (qb1 ⟨o,xM B,self⟩)with
  |false=>
   rw[hall,qB6 (by decide)]at hk2;refine⟨k+k2,hk.trans (hk2.trans ?_)⟩;rw[qB6 (by decide)];simp only[qBO]
  |true=>
   rw[hall,qB5 rfl]at hk2;rw[qB5 rfl];unfold qbb at ht;obtain⟨hx,hbody⟩:=ht.cons;have hd:vD opsK o self ⟨[],[],B,false⟩ (iz 18 0 0)=(.next,⟨[],[],B,true⟩):=by
    unfold vD;simp
   obtain⟨k3,hk3⟩:=qxD (L:=L) (o:=o) (self:=self) he rfl rfl (hs true) (hes true) hne (λg hg=>qjp hnames (hbs g hg)) (n:=n+k+k2+1) hbody q9;refine⟨k+k2+1+k3,hk.trans (hk2.trans ?_)⟩;have e:q+(vS c.head []).1.length+(xu c.gs (q+(vS c.head []).1.length)).length=q+(xe c q).length:=by omega
   rw[e,zc hx hd,hk3];simp only[];rw[show n+k+k2+1+k3=n+(k+k2+1+k3) by omega]
end
theorem qxx{o:Tm}{self:Int}{L:List InsA}(ho:o.chk=0)(h1:1<=self)(h2:self<=1073741824):∀(cs:List Cl),(∀c∈cs,okC c=true∧c.head.chk=0)->∀(q n:Nat) (i:Int),0<=i->Has L q (xg cs q)->q+(xg cs q).length=L.length ->
  ∃k:Nat,runO opsK L o self q n (newK o)=((qab o self cs i).2,decide ((qab o self cs i).1>0),((n+k:Nat):Int),0):=by
 intro cs
 induction cs with
 |nil=>
  intro _ q n i _ _ hq;rw[xg]at hq;refine⟨0,?_⟩;rw[qd2 (List.getElem?_eq_none (by simp at hq;omega))];rfl
 |cons c cs ih=>
  intro hcs q n i hi hh hq;rw[xg]at hh hq;rw[qBr]at hq;obtain⟨ha,hb⟩:=hh.app;obtain⟨k,hk⟩:=qtU (hcs c (by simp)).1 (hcs c (by simp)).2 ho h1 h2 ha n;rw[qab];cases ht:qes c o self with
  |some x=>
   rw[ht]at hk;refine⟨k,hk.trans ?_⟩;simp only[];rw[qB3 (by omega)]
  |none=>
   rw[ht]at hk;obtain⟨k2,hk2⟩:=ih (λx hx=>hcs x (by simp[hx])) (q+(xp c q).length) (n+k) (i+1) (by omega) hb (by omega);refine⟨k+k2,hk.trans (hk2.trans ?_)⟩;simp only[qBO]
theorem qsG{bo:BO}{l:List InsA}{o:Tm}{self:Int}:∀(d at_ n:Nat) (s:SK),l.length - at_<=d->(runO bo l o self at_ n s).2.2.1<=(n:Int)+(l.length - at_:Nat)∧((runO bo l o self at_ n s).2.2.2=0->(n:Int)<=(runO bo l o self at_ n s).2.2.1∧(at_<l.length->(n:Int)<(runO bo l o self at_ n s).2.2.1)):=by
 intro d
 induction d with
 |zero=>
  intro at_ n s hd;rw[qd2 (List.getElem?_eq_none (by omega))];refine⟨by simp only[];omega,λ_=>⟨Int.le_refl _,λh=>by omega⟩⟩
 |succ d ih=>
  intro at_ n s hd;cases hx:l[at_]? with
  |none=>
   have:=List.getElem?_eq_none_iff.1 hx;rw[qd2 hx];refine⟨by simp only[];omega,λ_=>⟨Int.le_refl _,λh=>by omega⟩⟩
  |some x=>
   have hlt:at_<l.length:=(qBn.1 hx).1;have go:∀(p:Int) (s:SK),(goO bo l o self at_ p (n+1) s).2.2.1<=(n:Int)+(l.length - at_:Nat)∧((goO bo l o self at_ p (n+1) s).2.2.2=0->(n:Int)<=(goO bo l o self at_ p (n+1) s).2.2.1∧(at_<l.length->(n:Int)<(goO bo l o self at_ p (n+1) s).2.2.1)):=by
    intro p s;unfold goO;split
    ·refine⟨by simp only[];omega,λh=>by cases h⟩
    ·obtain⟨h1,h2⟩:=ih p.toNat (n+1) s (by omega);refine⟨by omega,λh=>?_⟩;have:=(h2 h).1;exact⟨by omega,λ_=>by omega⟩
   cases hd':vD bo o self s x with
   |mk w s'=>
    cases w with
    |next=>
     rw[zc hx hd'];obtain⟨h1,h2⟩:=ih (at_+1) (n+1) s' (by omega);refine⟨by omega,λh=>?_⟩;have:=(h2 h).1;exact⟨by omega,λ_=>by omega⟩
    |fails=>rw[qga hx hd'];exact go _ _
    |jumps=>rw[qf9 hx hd'];exact go _ _
    |raises=>
     rw[qcC hx hd'];split
     ·exact⟨by simp only[];omega,λ_=>⟨by simp only[];omega,λ_=>by simp only[];omega⟩⟩
     ·exact go _ _
    |tells=>
     rw[qf8 hx hd'];exact⟨by simp only[];omega,λ_=>⟨by simp only[];omega,λ_=>by simp only[];omega⟩⟩
    |broken=>
     rw[qi4 hx hd'];exact⟨by simp only[];omega,λh=>by cases h⟩
theorem qwQ{cs:List Cl}(h:SelOk cs)(hcl:∀c∈cs,c.head.chk=0)(o:Tm)(self:Int):∃n:Int,runC opsK (xg cs 0) o self=((yM (selT cs) o self).2.1,decide ((yM (selT cs) o self).1>0),n,(yM (selT cs) o self).2.2)∧n<=((xg cs 0).length:Int)∧((yM (selT cs) o self).2.2=0->0<n):=by
 rw[qtx h];unfold runC
 by_cases hok:o.kind≠7∨o.chk≠0∨self<1∨self>1073741824
 ·rw[qB5 hok,qB6 (by
   rintro⟨h1,h2,h3⟩;simp[zw]at h3;omega)]
  exact⟨0,rfl,by omega,λh=>by cases h⟩
 ·have hs:zw self=true:=by simp[zw];omega
  have hk7:o.kind=7:=by omega
  have hc0:o.chk=0:=by omega
  rw[qB6 hok,qB5 ⟨hk7,hc0,hs⟩];obtain⟨k,hk⟩:=qxx (L:=xg cs 0) (o:=o) (self:=self) hc0 (by omega) (by omega) cs (λc hc=>⟨h.ok c hc,hcl c hc⟩) 0 0 0 (by omega) (λi x hi=>by rw[qB0];exact hi) (by omega);obtain⟨s1,s2⟩:=qsG (bo:=opsK) (l:=xg cs 0) (o:=o) (self:=self) (xg cs 0).length 0 0 (newK o) (by omega);refine⟨((0+k:Nat):Int),hk,?_,λ_=>?_⟩
  ·rw[hk]at s1;simpa using s1
  ·have hpos:0<(xg cs 0).length:=by
    cases cs with
    |nil=>exact absurd rfl h.ne
    |cons c cs=>rw[xg];unfold xp qbb;simp;omega
   rw[hk]at s2;exact(s2 rfl).2 hpos
theorem qnO(k n:Int)(s:Bz)(l:Rz)(ko no:Int)(so:Bz)(lo:Rz)(self:Int){P:AV->Prop}(h:Gets (kOpt (EVs (EV cfg) 17 []) λv=>qu v λb=>kOpt (EVs (EV cfg) 8 [.sl [[AV.int .i64 k,.int .i64 n,.str s,.sl l],[AV.int .i64 ko,.int .i64 no,.str so,.sl lo]]]) λv=>qu v λb_1=>bif b_1 then some (.bool b)else kOpt (EVf (EV cfg) 19 [.agg [.int .i64 k,.int .i64 n,.str s,.sl l]]) λv=>kTup v λcs=>qa cs λc cs=>kSl c λrows=>qa cs λc cs=>kInt .i64 c λn_1=>kNil cs (kOpt (EVf (EV cfg) 25 [.agg [.int .i64 k,.int .i64 n,.str s,.sl l],.agg [.int .i64 ko,.int .i64 no,.str so,.sl lo],.int .i64 self]) λv=>kTup v λcs=>qa cs λc cs=>kAgg c λcs_1=>qa cs_1 λc cs_2=>kInt .i64 c λn=>qa cs_2 λc cs_3=>kInt .i64 c λn_2=>qa cs_3 λc cs_4=>kStr c λs=>qa cs_4 λc cs_5=>kSl c λrows_1=>kNil cs_5 (qa cs λc cs=>qu c λb_2=>qa cs λc cs=>kInt .i64 c λn_3=>kNil cs (bif n_1 != (0:Int)then bif b then some (.bool (n_3==n_1))else some (.bool false)else kOpt (EVf (EV cfg) 12 [.sl rows,.agg [.int .i64 ko,.int .i64 no,.str so,.sl lo],.int .i64 self]) λv=>kTup v λcs=>qa cs λc cs=>kAgg c λcs_6=>qa cs_6 λc cs_7=>kInt .i64 c λn_4=>qa cs_7 λc cs_8=>kInt .i64 c λn_5=>qa cs_8 λc cs_9=>kStr c λs_1=>qa cs_9 λc cs_10=>kSl c λrows_2=>kNil cs_10 (qa cs λc cs=>qu c λb_3=>qa cs λc cs=>kInt .i64 c λn_6=>qa cs λc cs=>kInt .i64 c λn_7=>kNil cs (bif b then bif n_7==n_3 then bif b_3==b_2 then kOpt (EVs (EV cfg) 14 [.agg [.int .i64 n_4,.int .i64 n_5,.str s_1,.sl rows_2],.agg [.int .i64 n,.int .i64 n_2,.str s,.sl rows_1]]) λv=>qu v λb=>bif b then bif decide (n_6<=(↑ (qBe rows):Int))then bif n_3 != 0 then some (.bool true)else some (.bool (decide (n_6>0)))else some (.bool false)else some (.bool false)else some (.bool false)else some (.bool false)else some (.bool false))))))) P):Gets (EVs (EV cfg) 5 [.agg [.int .i64 k,.int .i64 n,.str s,.sl l],.agg [.int .i64 ko,.int .i64 no,.str so,.sl lo],.int .i64 self]) P:=
  gE (λ_=>funS rfl rfl Tryz.func5 rfl) (by kernel_rfl) h
def qyO:Den:=evC cfg (EV cfg) 57 none 2 (sub (qg Tryz.f57) [1,1,1,0,1,0,0])
def qyU:Ex×List AV×AH->Option (AV×AH):=kAft (Cfg.keepOut cfg 57 (qk (sub (qg Tryz.f57) [1,1,1,0,1,0,0]))) (vP 0 (kSeq (fun(fr:List AV) (H:AH)=>xa (Cfg.cut cfg 57 (qk (sub (qg Tryz.f57) [1,1,1,1]))) fr H fun(fr:List AV) (H:AH)=>vh cfg (EV cfg) (kfN cfg 6) 57 none 2 (sub (qg Tryz.f57) [1,1,1,1]) fr H (qcK cfg 1 (Cfg.lift cfg 57 0) (qBM (Func.results Tryz.f57)))) (qcK cfg 1 (Cfg.lift cfg 57 0) (qBM (Func.results Tryz.f57)))))
def qyI:List AV×AH->Option (AV×AH):=fun(p:List AV×AH)=>kOpt (LOOP 2 (some [0,3,4,20,21,22]) [] qyO p) qyU
def qyN:Den:=evC cfg (EV cfg) 57 none 2 (sub (qg Tryz.f57) [1,1,1,1,1,0,1,0,0])
def qyT:Ex×List AV×AH->Option (AV×AH):=kAft (Cfg.keepOut cfg 57 11) (kRun cfg (EV cfg) (kfN cfg 6) 57 none 2 (qcK cfg 1 (Cfg.lift cfg 57 0) Tryz.f57.results.toList) ([.block 2,.seq (sub (qg Tryz.f57) [1,1,1,1,1,1])]))
def qyH:List AV×AH->Option (AV×AH):=λp=>kOpt (LOOP 2 (some [0,4,7,37,38,39]) ([]) qyN p) qyT
abbrev qic(ins gs:Rz)(v22:Int)(nc0_0:Nat)(c2_0 c2_1:Int)(c2_2:Bz)(c2_3 c2_4 c2_5 h3:Rz):Option (AV×AH):=qyI (((fx 69 [(0,.ptr 0 0 0),(3,.ptr 2 0 0),(4,.int .i64 (ins.length:Int)),(20,.sl gs),(21,.int .i64 (gs.length:Int)),(22,.int .i64 v22)]):List AV),([.rows false 1 [[.ms 3 0 nc0_0]],.dead,.rows false 6 [[.int .i64 c2_0,.int .i64 c2_1,.str c2_2,.sl c2_3,.sl c2_4,.sl c2_5]],.rows true 7 h3]:AH))
abbrev qaA(ins c2_5:Rz)(n v39:Int)(nc0_0:Nat)(h2:Rz):Option (AV×AH):=qyH (((fx 69 [(0,.ptr 0 0 0),(4,.int .i64 (ins.length:Int)),(7,.int .i64 n),(37,.sl c2_5),(38,.int .i64 (c2_5.length:Int)),(39,.int .i64 v39)]):List AV),([.rows false 1 [[.ms 2 0 nc0_0]],.dead,.rows true 7 h2]:AH))
theorem qpW(ins:Rz)(hk hn:Int)(hw:Bz)(hl gs bs:Rz){P:AV×AH->Prop}(h:Gets (kOpt (EVj (EV cfg) 104 1 [.ptr 0 0 0,.agg [.int .i64 hk,.int .i64 hn,.str hw,.sl hl]] [.rows false 1 [[.ms 1 0 (qBe ins)]],.rows true 7 ins]) λq=>qf q.2 λb bs_1=>qj b λd' n rs=>bif beqB false d'&&qBh n 1 then qN rs λrow rest=>qX rest (qf bs_1 λb bs_2=>qj b λd' n rs=>bif beqB true d'&&qBh n 7 then qT bs_2 (qa row λc cs=>kMsE c λid off len=>bif qBh id 1&&(qBh off 0&&qBh len (qBe rs))then kNil cs (qic ins gs 0 (qBe rs) hk hn hw hl gs bs rs)else none)else none)else none) P):Gets (EVj (EV cfg) 57 1 [.ptr 0 0 0,.agg [.int .i64 hk,.int .i64 hn,.str hw,.sl hl,.sl gs,.sl bs]] ([ABlk.rows false (1:Nat) [[AV.ms (1:Nat) (0:Nat) (qBe ins)]],ABlk.rows true (7:Nat) ins]:AH)) P:=
  gE (λ_=>funJ rfl rfl Tryz.func57 rfl) (by kernel_rfl) h
theorem qg6(ins gs:Rz)(v22:Int)(nc0_0:Nat)(c2_0 c2_1:Int)(c2_2:Bz)(c2_3 c2_4 c2_5 h3:Rz){P:AV×AH->Prop}(h:Gets (bif decide (v22<(gs.length:Int))then bif qh 0 v22&&qn v22 (gs.length:Int)then kOpt (qBg gs (v22.toNat)) λrow=>bif qBh (qBe row) 4 then bif qBv 4 (qBe row)then kTmC (qBm 4 row) λn n_1 s rows=>(kOpt (EVj (EV cfg) 63 1 [.ptr 0 0 0,.agg [.int .i64 n,.int .i64 n_1,.str s,.sl rows]] [.rows false 1 [[.ms 1 0 nc0_0]],.rows true 7 h3]) λq=>qf q.2 λb bs=>qj b λd' n rs=>bif beqB false d'&&qBh n 1 then qN rs λrow rest=>qX rest (qf bs λb bs=>qj b λd' n rs=>bif beqB true d'&&qBh n 7 then qT bs (qa row λc cs=>kMsE c λid off len=>bif qBh id 1&&(qBh off 0&&qBh len (qBe rs))then kNil cs (kOpt (EVj (EV cfg) 105 1 [.ptr 0 0 0,AV.agg [.int .i64 14,.int .i64 0,.int .i64 0,.int .i64 0,.int .i64 0,.str [],.sl []]] [.rows false 1 [[.ms 1 0 (qBe rs)]],.rows true 7 rs]) λq=>qf q.2 λb bs=>qj b λd' n rs=>bif beqB false d'&&qBh n 1 then qN rs λrow rest=>qX rest (qf bs λb bs=>qj b λd' n rs=>bif beqB true d'&&qBh n 7 then qT bs (qa row λc cs=>kMsE c λid off len=>bif qBh id 1&&(qBh off 0&&qBh len (qBe rs))then kNil cs (kInt .i64 q.1 λn=>qic ins gs (qBf .i64 (v22+1)) (qBe rs) c2_0 c2_1 c2_2 c2_3 c2_4 c2_5 rs)else none)else none)else none)else none)else none)else none)else none else none else none else kOpt (EVj (EV cfg) 105 1 [.ptr 0 0 0,.agg [.int .i64 18,.int .i64 0,.int .i64 0,.int .i64 0,.int .i64 0,.str [],.sl []]] [.rows false 1 [[.ms 1 0 nc0_0]],.rows true 7 h3]) λq=>qf q.2 λb bs=>qj b λd' n rs=>bif beqB false d'&&qBh n 1 then qN rs λrow rest=>qX rest (qf bs λb bs=>qj b λd' n rs=>bif beqB true d'&&qBh n 7 then qT bs (qa row λc cs=>kMsE c λid off len=>bif qBh id 1&&(qBh off 0&&qBh len (qBe rs))then kNil cs (kInt .i64 q.1 λn=>qaA ins c2_5 n 0 (qBe rs) rs)else none)else none)else none) P):Gets (qic ins gs v22 nc0_0 c2_0 c2_1 c2_2 c2_3 c2_4 c2_5 h3) P:=
  gE (λ_=>qB (cfg:=cfg) (f:=57) (rd:=none) (bs:=2)) (by kernel_rfl) h
theorem qdU(ins c2_5:Rz)(n v39:Int)(nc0_0:Nat)(h2:Rz){P:AV×AH->Prop}(h:Gets (bif decide (v39<(c2_5.length:Int))then bif qh 0 v39&&qn v39 (c2_5.length:Int)then kOpt (qBg c2_5 (v39.toNat)) λrow=>bif qBh (qBe row) 4 then bif qBv 4 (qBe row)then kTmC (qBm 4 row) λn_1 n_2 s rows=>(bif decide (v39>0)then kOpt (EVj (EV cfg) 105 1 [.ptr 0 0 0,AV.agg [.int .i64 19,.int .i64 0,.int .i64 0,.int .i64 0,.int .i64 0,.str [],.sl []]] [.rows false 1 [[.ms 1 0 nc0_0]],.rows true 7 h2]) λq=>qf q.2 λb bs=>qj b λd' n_3 rs=>bif beqB false d'&&qBh n_3 1 then qN rs λrow rest=>qX rest (qf bs λb bs=>qj b λd' n_4 rs=>bif beqB true d'&&qBh n_4 7 then qT bs (qa row λc cs=>kMsE c λid off len=>bif qBh id 1&&(qBh off 0&&qBh len (qBe rs))then kNil cs (kInt .i64 q.1 λn_5=>kOpt (EVj (EV cfg) 63 1 [.ptr 0 0 0,.agg [.int .i64 n_1,.int .i64 n_2,.str s,.sl rows]] [.rows false 1 [[.ms 1 0 (qBe rs)]],.rows true 7 rs]) λq=>qf q.2 λb bs=>qj b λd' n_6 rs=>bif beqB false d'&&qBh n_6 1 then qN rs λrow rest=>qX rest (qf bs λb bs=>qj b λd' n_7 rs=>bif beqB true d'&&qBh n_7 7 then qT bs (qa row λc cs=>kMsE c λid off len=>bif qBh id 1&&(qBh off 0&&qBh len (qBe rs))then kNil cs (qaA ins c2_5 n (qBf .i64 (v39+1)) (qBe rs) rs)else none)else none)else none)else none)else none)else none else kOpt (EVj (EV cfg) 63 1 [.ptr 0 0 0,.agg [.int .i64 n_1,.int .i64 n_2,.str s,.sl rows]] [.rows false 1 [[.ms 1 0 nc0_0]],.rows true 7 h2]) λq=>qf q.2 λb bs=>qj b λd' n_3 rs=>bif beqB false d'&&qBh n_3 1 then qN rs λrow rest=>qX rest (qf bs λb bs=>qj b λd' n_4 rs=>bif beqB true d'&&qBh n_4 7 then qT bs (qa row λc cs=>kMsE c λid off len=>bif qBh id 1&&(qBh off 0&&qBh len (qBe rs))then kNil cs (qaA ins c2_5 n (qBf .i64 (v39+1)) (qBe rs) rs)else none)else none)else none)else none else none else none else kOpt (EVj (EV cfg) 105 1 [.ptr 0 0 0,.agg [.int .i64 20,.int .i64 0,.int .i64 0,.int .i64 0,.int .i64 0,.str [],.sl []]] [.rows false 1 [[.ms 1 0 nc0_0]],.rows true 7 h2]) λq=>qf q.2 λb bs=>qj b λd' n_1 rs=>bif beqB false d'&&qBh n_1 1 then qN rs λrow rest=>qX rest (qf bs λb bs=>qj b λd' n_2 rs=>bif beqB true d'&&qBh n_2 7 then qT bs (qa row λc cs=>kMsE c λid off len=>bif qBh id 1&&(qBh off 0&&qBh len (qBe rs))then kNil cs (kInt .i64 q.1 λn_3=>bif qh 0 n&&qh n (rs.length:Int)then bif qh 0 (ins.length:Int)&&qh (ins.length:Int) (↑ (n.toNat):Int)then kOpt (EVm (EV cfg) 106 [.ms 0 (0+qBj (ins.length:Int)) (qBj n - qBj (ins.length:Int)),.int .i64 (rs.length:Int)] 7 rs) λq=>qa2 q.1 (some (AV.tup [],[.rows false 1 [[.ms 1 0 (qBe rs)]],.rows true 7 q.2]))else none else none)else none)else none)else none) P):Gets (qaA ins c2_5 n v39 nc0_0 h2) P:=
  gE (λ_=>qB (cfg:=cfg) (f:=57) (rd:=none) (bs:=2)) (by kernel_rfl) h
def qyL:Den:=evC cfg (EV cfg) 58 none 0 (sub (qg Tryz.f58) [1,1,0,1,0,0])
def qyR:Ex×List AV×AH->Option AV:=kAft (Cfg.keepOut cfg 58 3) (kRun cfg (EV cfg) (kfN cfg 6) 58 none 0 (xz cfg (Cfg.lift cfg 58 0) Tryz.f58.results.toList) ([.block 0,.seq (sub (qg Tryz.f58) [1,1,1])]))
def qr8:List AV×AH->Option AV:=λp=>kOpt (LOOP 0 (some [3,8,9]) ([]) qyL p) qyR
def qyM:Den:=evC cfg (EV cfg) 19 none 0 (sub (qg Tryz.f19) [1,1,1,1,0,1,0,0])
def qyS:Ex×List AV×AH->Option AV:=kAft (Cfg.keepOut cfg 19 6) (kRun cfg (EV cfg) (kfN cfg 6) 19 none 0 (xz cfg (Cfg.lift cfg 19 0) Tryz.f19.results.toList) ([.block 0,.seq (sub (qg Tryz.f19) [1,1,1,1,1])]))
def qr9:List AV×AH->Option AV:=λp=>kOpt (LOOP 0 (some [6,19,20,21]) ([]) qyM p) qyS
def qxL:Den:=evC cfg (EV cfg) 106 none 1 (sub (qg Tryz.f106) [1,0,0])
def qxS:Ex×List AV×AH->Option (MV×List (List AV)):=kAft (Cfg.keepOut cfg 106 1) (kRun cfg (EV cfg) (kfN cfg 6) 106 none 1 (qis cfg 7 (Cfg.lift cfg 106 0) Tryz.f106.results.toList) ([.block 0]))
def qxH:List AV×AH->Option (MV×List (List AV)):=λp=>kOpt (LOOP 1 (some [0,1,6,7]) ([]) qxL p) qxS
abbrev qyc(v9:Int):Option (AV):=qr8 (((fx 24 [(3,.nilS),(8,.int .i64 (0:Int)),(9,.int .i64 v9)]):List AV),([]:AH))
abbrev qf0(sz off len:Nat)(v9:Int)(h0:Rz):Option (AV):=qr8 (((fx 24 [(3,.ms 0 off len),(8,.int .i64 (↑len:Int)),(9,.int .i64 v9)]):List AV),([.rows true sz h0]:AH))
abbrev qrF(rows:Rz)(v21:Int):Option (AV):=qr9 (((fx 34 [(6,.ptr 0 0 0),(19,.sl rows),(20,.int .i64 (rows.length:Int)),(21,.int .i64 v21)]):List AV),([.rows false 1 [[.nilS]]]:AH))
abbrev qbG(off nn:Nat)(p v7:Int)(h0:Rz):Option (MV×List (List AV)):=qxH (((fx 40 [(0,.ms 0 off nn),(1,.int .i64 p),(6,.int .i64 (↑nn:Int)),(7,.int .i64 v7)]):List AV),([.rows true 7 h0]:AH))
abbrev qjy(rows:Rz)(v21:Int)(nc0_0:Nat)(h1:Rz):Option (AV):=qr9 (((fx 34 [(6,.ptr 0 0 0),(19,.sl rows),(20,.int .i64 (rows.length:Int)),(21,.int .i64 v21)]):List AV),([.rows false 1 [[.ms 1 0 nc0_0]],.rows true 7 h1]:AH))
theorem qvQ(l:Rz){P:AV->Prop}(h:Gets (kOpt (EVo (EV cfg) 78 [.sl l]) λo=>kOwn o (qyc 0) λsz rs off len=>qf0 sz off len 0 rs) P):Gets (EVf (EV cfg) 58 [.sl l]) P:=
  gE (λ_=>funF rfl rfl Tryz.func58 rfl) (by kernel_rfl) h
theorem qgS(k n:Int)(s:Bz)(l:Rz){P:AV->Prop}(h:Gets (kOpt (EVf (EV cfg) 56 [.agg [.int .i64 k,.int .i64 n,.str s,.sl l]]) λv=>kTup v λcs=>qa cs λc cs=>kSl c λrows=>qa cs λc cs=>kInt .i64 c λn=>kNil cs (bif n != 0 then some (AV.tup [.sl [],.int .i64 n])else qrF rows 0)) P):Gets (EVf (EV cfg) 19 [.agg [.int .i64 k,.int .i64 n,.str s,.sl l]]) P:=
  gE (λ_=>funF rfl rfl Tryz.func19 rfl) (by kernel_rfl) h
theorem qro(rows:Rz)(off nn:Nat)(p:Int){P:MV×List (List AV)->Prop}(h:Gets (qbG off nn p 0 rows) P):Gets (EVm (EV cfg) 106 [.ms 0 off nn,.int .i64 p] 7 rows) P:=
  gE (λ_=>funM rfl rfl Tryz.func106 rfl) (by kernel_rfl) h
theorem qgF(sz off len:Nat)(v9:Int)(h0:Rz){P:AV->Prop}(h:Gets (bif decide (v9<(↑ len:Int))then bif qBh sz 7&&qh 0 v9&&qn v9 (↑ len:Int)then kOpt (qBg h0 (off+v9.toNat)) λrow=>bif qBv 7 (qBe row)then qa (qBm 4 (qBU 3 row)) λc cs=>kInt .i64 c λn=>qa cs λc cs=>kInt .i64 c λn_1=>qa cs λc cs=>kStr c λs=>qa cs λc cs=>kSl c λrows=>kNil cs (kOpt (EVf (EV cfg) 45 [.agg [.int .i64 n,.int .i64 n_1,.str s,.sl rows]]) λv=>kTmV v λn n_2 s rows=>(bif qBh sz 7&&qh 0 v9&&qn v9 (↑ len:Int)then kOpt (qBg h0 (off+v9.toNat)) λrow=>bif qBv 7 (qBe row)then qf0 sz off len (qBf .i64 (v9+1)) (List.set h0 (off+v9.toNat) (qBA (qBA (qBm 3 row) [AV.int .i64 n,.int .i64 n_2,.str s,.sl rows]) (qBU 7 row)))else none else none))else none else none else bif qBv (off+len) (qBe h0)&&true then some (.sl (qBm len (qBU off h0)))else none) P):Gets (qf0 sz off len v9 h0) P:=
  gE (λ_=>qB (cfg:=cfg) (f:=58) (rd:=none) (bs:=0)) (by kernel_rfl) h
abbrev zC4(rest:Rz)(bs:AH)(row:List AV)(rows:Rz)(v21:Int):Option (AV):=qX rest (qf bs λb bs=>qj b λd' n rs=>bif beqB true d'&&qBh n 7 then qT bs (qa row λc cs=>kMsE c λid off len=>bif qBh id 1&&(qBh off 0&&qBh len (qBe rs))then kNil cs (qjy rows (qBf .i64 (v21+1)) (qBe rs) rs)else none)else none)
abbrev zC3(rs:Rz)(bs:AH)(rows:Rz)(v21:Int):Option (AV):=qN rs λrow rest=>zC4 rest bs row rows v21
abbrev zC2(d':Bool)(n:Nat)(rs:Rz)(bs:AH)(rows:Rz)(v21:Int):Option (AV):=bif beqB false d'&&qBh n 1 then zC3 rs bs rows v21 else none
abbrev zC1(b:ABlk)(bs:AH)(rows:Rz)(v21:Int):Option (AV):=qj b λd' n rs=>zC2 d' n rs bs rows v21
abbrev zC0(q:AV×AH)(rows:Rz)(v21:Int):Option (AV):=qf q.2 λb bs=>zC1 b bs rows v21
theorem qoy(rows:Rz)(v21:Int){P:AV->Prop}(h:Gets (bif decide (v21<(rows.length:Int))then bif qh 0 v21&&qn v21 (rows.length:Int)then kOpt (qBg rows (v21.toNat)) λrow=>bif qBh (qBe row) 6 then bif qBv 6 (qBe row)then qa (qBm 6 row) λc cs=>kInt .i64 c λn=>qa cs λc cs=>kInt .i64 c λn_1=>qa cs λc cs=>kStr c λs=>qa cs λc cs=>kSl c λrows_1=>qa cs λc cs=>kSl c λrows_2=>qa cs λc cs=>kSl c λrows_3=>kNil cs (kOpt (EVj (EV cfg) 57 1 [.ptr 0 0 0,.agg [.int .i64 n,.int .i64 n_1,.str s,.sl rows_1,.sl rows_2,.sl rows_3]] [.rows false 1 [[.ms 1 0 0]],.rows true 7 []]) λq=>zC0 q rows v21)else none else none else none else kOpt (EVf (EV cfg) 58 [.sl []]) λv=>kSl v λrows=>some (AV.tup [.sl rows,.int .i64 0])) P):Gets (qrF rows v21) P:=
  gE (λ_=>qB (cfg:=cfg) (f:=19) (rd:=none) (bs:=0)) (by kernel_rfl) h
abbrev zC6(off nn:Nat)(p v7:Int)(h0:Rz)(row:List AV):Option (MV×List (List AV)):=qbG off nn p (qBf .i64 (v7+1)) (List.set h0 (off+v7.toNat) (qBA (qBA (qBm 2 row) [AV.int .i64 p]) (qBU 3 row)))
abbrev zC5(row:List AV)(off nn:Nat)(p v7:Int)(h0:Rz):Option (MV×List (List AV)):=bif qBv 3 (qBe row)then zC6 off nn p v7 h0 row else none
abbrev zC8(h0:Rz)(off:Nat)(v7:Int)(nn:Nat)(p:Int):Option (MV×List (List AV)):=kOpt (qBg h0 (off+qBj v7)) λrow=>zC5 row off nn p v7 h0
abbrev zC7(v7:Int)(nn:Nat)(h0:Rz)(off:Nat)(p:Int):Option (MV×List (List AV)):=bif qh 0 v7&&qn v7 (↑ nn:Int)then zC8 h0 off v7 nn p else none
abbrev zC10(h0:Rz)(off:Nat)(v7:Int)(nn:Nat)(p:Int):Option (MV×List (List AV)):=kOpt (qBg h0 (off+qBj v7)) λrow=>bif qBv 2 (qBe row)then qbG off nn p (qBf .i64 (v7+1)) (List.set h0 (off+v7.toNat) (qBA (qBA (qBm 1 row) [AV.int .i64 p]) (qBU 2 row)))else none
abbrev zC9(v7:Int)(nn:Nat)(h0:Rz)(off:Nat)(p:Int):Option (MV×List (List AV)):=bif qh 0 v7&&qn v7 (↑ nn:Int)then zC10 h0 off v7 nn p else none
theorem qgH(off nn:Nat)(p v7:Int)(h0:Rz){P:MV×List (List AV)->Prop}(h:Gets (bif decide (v7<(↑ nn:Int))then bif qh 0 v7&&qn v7 (↑ nn:Int)then kOpt (qBg h0 (off+v7.toNat)) λrow=>kOpt (qBg row 0) λv=>kInt .i64 v λn=>bif n==1 then bif qh 0 v7&&qn v7 (↑ nn:Int)then kOpt (qBg h0 (off+v7.toNat)) λrow=>zC5 row off nn p v7 h0 else none else bif n==2 then zC7 v7 nn h0 off p else bif n==4 then zC7 v7 nn h0 off p else bif n==6 then zC7 v7 nn h0 off p else bif n==14 then zC7 v7 nn h0 off p else bif n==11 then zC7 v7 nn h0 off p else bif n==12 then zC7 v7 nn h0 off p else bif n==10 then zC7 v7 nn h0 off p else bif n==13 then zC7 v7 nn h0 off p else bif n==17 then zC7 v7 nn h0 off p else bif n==15 then zC9 v7 nn h0 off p else bif n==16 then zC9 v7 nn h0 off p else qbG off nn p (qBf .i64 (v7+1)) h0 else none else some (MV.unit,h0)) P):Gets (qbG off nn p v7 h0) P:=
  gE (λ_=>qB (cfg:=cfg) (f:=106) (rd:=none) (bs:=1)) (by kernel_rfl) h
theorem qgG(rows:Rz)(v21:Int)(nc0_0:Nat)(h1:Rz){P:AV->Prop}(h:Gets (bif decide (v21<(rows.length:Int))then bif qh 0 v21&&qn v21 (rows.length:Int)then kOpt (qBg rows (v21.toNat)) λrow=>bif qBh (qBe row) 6 then bif qBv 6 (qBe row)then qa (qBm 6 row) λc cs=>kInt .i64 c λn=>qa cs λc cs=>kInt .i64 c λn_1=>qa cs λc cs=>kStr c λs=>qa cs λc cs=>kSl c λrows_1=>qa cs λc cs=>kSl c λrows_2=>qa cs λc cs=>kSl c λrows_3=>kNil cs (kOpt (EVj (EV cfg) 57 1 [.ptr 0 0 0,.agg [.int .i64 n,.int .i64 n_1,.str s,.sl rows_1,.sl rows_2,.sl rows_3]] [.rows false 1 [[.ms 1 0 nc0_0]],.rows true 7 h1]) λq=>zC0 q rows v21)else none else none else none else bif qBv (0+nc0_0) (qBe h1)&&true then kOpt (EVf (EV cfg) 58 [.sl (qBm nc0_0 h1)]) λv=>kSl v λrows=>some (AV.tup [.sl rows,.int .i64 0])else none) P):Gets (qjy rows v21 nc0_0 h1) P:=
  gE (λ_=>qB (cfg:=cfg) (f:=19) (rd:=none) (bs:=0)) (by kernel_rfl) h
theorem qpV(p:Int)(A C:List InsA):∀(B D:List InsA) (nn:Nat),nn=D.length+B.length->nn<1099511627776 ->
  Gets (qbG A.length nn p (D.length:Int) (qo ((A++D)++(B++C)))) (·=(MV.unit,qo ((A++D)++(B.map (q6 p)++C)))):=by
 intro B
 induction B with
 |nil=>
  intro D nn hn hl;refine qgH _ _ _ _ _ ?_;unfold zC9 zC10 zC7 zC8 zC5 zC6;rw[qB4 (show ¬((D.length:Int)<(nn:Int)) by rw[hn];simp),cond_false];exact⟨_,rfl,rfl⟩
 |cons x B ih=>
  intro D nn hn hl;rw[qBK]at hn;refine qgH _ _ _ _ _ ?_;unfold zC9 zC10 zC7 zC8 zC5 zC6;have e0:decide ((D.length:Int)<(nn:Int))=true:=qB3 (by omega);have e1:(qh 0 (D.length:Int)&&qn (D.length:Int) (nn:Int))=true:=by
   rw[qZ,vO,qB3 (by omega)];rfl
  have e2:qBg (qo ((A++D)++(x::B++C))) (A.length+qBj (D.length:Int))=some x.row:=by
   rw[qBB,←qBr];exact qm5 (A++D) (B++C) x
  have e3:qBg x.row 0=some (.int .i64 x.o):=rfl;have e4:∀y:InsA,List.set (qo ((A++D)++(x::B++C))) (A.length+qBj (D.length:Int)) y.row=qo ((A++(D++[y]))++(B++C)):=by
   intro y;rw[qBB,←qBr];rw[show(A++(D++[y]))++(B++C)=(A++D)++y::(B++C) by simp];exact qm4 (A++D) (B++C) x y
  have e5:qBA (qBA (qBm 2 x.row) [AV.int .i64 p]) (qBU 3 x.row)=(⟨x.o,x.a,p,x.t⟩:InsA).row:=rfl;have e6:qBA (qBA (qBm 1 x.row) [AV.int .i64 p]) (qBU 2 x.row)=(⟨x.o,p,x.b,x.t⟩:InsA).row:=rfl;have ew:qBf .i64 ((D.length:Int)+1)=((D.length+1:Nat):Int):=vn (n:=nn) (by omega) hl;have hy:∀y:InsA,y=q6 p x->Gets (qbG A.length nn p ((D.length+1:Nat):Int) (qo ((A++(D++[y]))++(B++C)))) (·=(MV.unit,qo ((A++D)++((x::B).map (q6 p)++C)))):=by
   rintro y rfl;have:=ih (D++[q6 p x]) nn (by simp;omega) hl;rw[show(D++[q6 p x]).length=D.length+1 by simp,show A++(D++[q6 p x])++(List.map (q6 p) B++C)=(A++D)++((x::B).map (q6 p)++C) by simp]at this;exact this
  simp only[e0,e1,e2,e3,e5,e6,e4,ew,InsA.row_len,show qBv 3 7=true from rfl,show qBv 2 7=true from rfl,qc,cond_true,qi]
  by_cases h:x.o∈([1,2,4,6,14,11,12,10,13,17]:List Int)
  ·have hf:=hy ⟨x.o,x.a,p,x.t⟩ (by unfold q6;rw[qB5 h]);simp only[qBG,List.not_mem_nil,or_false]at h;rcases h with h|h|h|h|h|h|h|h|h|h<;>· rw[h]at hf⊢;exact hf
  ·by_cases h':x.o=15∨x.o=16
   ·have hf:=hy ⟨x.o,p,x.b,x.t⟩ (by unfold q6;rw[qB6 h,qB5 h']);rcases h' with h'|h'<;>· rw[h']at hf⊢;exact hf
   ·have hf:=hy x (by unfold q6;rw[qB6 h,qB6 h']);simp only[qBG,List.not_mem_nil,or_false,not_or]at h h';obtain⟨h1,h2,h3,h4,h5,h6,h7,h8,h9,h10⟩:=h;obtain⟨h11,h12⟩:=h';simp only[beqI,h1,h2,h3,h4,h5,h6,h7,h8,h9,h10,h11,h12,decide_false,cond_false];rw[show qo ((A++(D++[x]))++(B++C))=qo ((A++D)++(x::B++C)) by simp]at hf;exact hf
theorem qtO(p:Int)(A B C:List InsA)(h:B.length<1099511627776):EVm (EV cfg) 106 [.ms 0 A.length B.length,.int .i64 p] 7 (qo (A++(B++C)))=some (.unit,qo (A++(B.map (q6 p)++C))):=by
 apply Gets.get;refine qro _ _ _ _ ?_;have:=qpV p A C B [] B.length (by simp) h;rw[List.append_nil]at this;exact this
theorem qxB{gs:List Tm}(hx:∀t∈gs,qaf t)(hd:Tm)(bs:List Tm)(ins0:List (List AV)){P:AV×AH->Prop}:∀(k i:Nat) (ins:List InsA),gs.length - i=k->i<=gs.length->ins.length+(wL (gs.drop i)+(gs.drop i).length)+1<1099511627776->gs.length<1099511627776 ->
  (∀ins':List InsA,ins'=ins++xu (gs.drop i) ins.length->Gets (qaA ins0 (qb bs) (ins'.length:Int) 0 (qo (ins'++[iz 18 0 0])).length (qo (ins'++[iz 18 0 0]))) P) ->
  Gets (qic ins0 (qb gs) (i:Int) (qo ins).length hd.kind hd.num hd.str (qb hd.subs) (qb gs) (qb bs) (qo ins)) P:=by
 intro k
 induction k with
 |zero=>
  intro i ins hk hi hw hlen h;refine qg6 _ _ _ _ _ _ _ _ _ _ _ ?_;rw[qBR (by omega)]at hw h;have z:=yk (ins:=ins) (by simp at hw;omega) 18 0 0;rw[qe,qB4 (by omega),cond_false];simp only[z,qc,qq,qp,qP,qM,qz,qBw,cond_true,qt,qC,qy,ql,qi,qx,qO]
  exact h ins (by rw[xu,List.append_nil])
 |succ k ih=>
  intro i ins hk hi hw hlen h;refine qg6 _ _ _ _ _ _ _ _ _ _ _ ?_;have hil:i<gs.length:=by omega
  have g0:gs[i]? =some gs[i]:=qBk hil;have hd:gs.drop i=gs[i]::gs.drop (i+1):=by rw[qBJ hil]
  rw[hd,qE,qBK]at hw;have hc:=zj gs[i] ins.length;have e1:(qh 0 (i:Int)&&qn (i:Int) ((qb gs).length:Int))=true:=by simp;omega
  have z1:=(hx gs[i] (List.getElem_mem hil)).c (ins:=ins) (by omega);have z2:=yk (ins:=ins++qL gs[i] ins.length) (by simp;omega) 14 0 0;rw[qB3 (show(i:Int)<((qb gs).length:Int) by simp;omega),e1];simp only[xA g0,qc,qq,qp,qP,qM,qz,qBw,cond_true,qt,qC,qy,ql,qi,qx,qO,qD,qQ,qv,show qBv 4 4=true from rfl,z1,z2]
  rw[vn hil hlen];refine ih (i+1) (ins++qL gs[i] ins.length++[iz 14 0 0]) (by omega) (by omega) (by simp at hw⊢;omega) hlen ?_;rintro ins' rfl;refine h _ ?_;rw[hd,xu];simp[qBO]
def qAq:Den:=evC cfg (EV cfg) 8 none 0 (sub (qg Tryz.f8) [1,0,1,0,0])
def qAZ:Ex×List AV×AH->Option AV:=kAft (Cfg.keepOut cfg 8 2) (kRun cfg (EV cfg) (kfN cfg 6) 8 none 0 (qaM cfg (Cfg.lift cfg 8 0) Tryz.f8.results.toList) ([.block 0,.seq (sub (qg Tryz.f8) [1,1])]))
def qzU:List AV×AH->Option AV:=λp=>kOpt (LOOP 0 (some [0,3]) ([]) qAq p) qAZ
abbrev qkz(l:Rz)(v3:Int):Option (AV):=qzU (((fx 15 [(0,.sl l),(3,.int .i64 v3)]):List AV),([]:AH))
theorem qtT(r:List AV)(L:Rz){P:OV->Prop}(h:Gets (bif xR 7 (r::L)then bif q8 (0+qBe (r::L)) 80 then some (OV.own 7 (r::L) 0 (0+qBe (r::L)))else none else none) P):Gets (EVo (EV cfg) 78 [.sl (r::L)]) P:=
  gE (λ_=>funO rfl rfl Tryz.func78 rfl) (by kernel_rfl) h
theorem qq1(l:Rz){P:AV->Prop}(h:Gets (qkz l 0) P):Gets (EVs (EV cfg) 8 [.sl l]) P:=
  gE (λ_=>funS rfl rfl Tryz.func8 rfl) (by kernel_rfl) h
theorem qiW(l:Rz)(v3:Int){P:AV->Prop}(h:Gets (bif decide (v3<(l.length:Int))then bif qh 0 v3&&qn v3 (l.length:Int)then kOpt (qBg l (v3.toNat)) λrow=>bif qBh (qBe row) 4 then bif qBv 4 (qBe row)then kTmC (qBm 4 row) λn n_1 s rows=>(kOpt (EVs (EV cfg) 9 [.agg [.int .i64 n,.int .i64 n_1,.str s,.sl rows],.int .i64 400]) λv=>qu v λb=>bif b then some (.bool true)else qkz l (qBf .i64 (v3+1)))else none else none else none else some (.bool false)) P):Gets (qkz l v3) P:=
  gE (λ_=>qB (cfg:=cfg) (f:=8) (rd:=none) (bs:=0)) (by kernel_rfl) h
theorem qBc(bs:List Tm)(A B C:List InsA)(h:A.length+B.length+C.length+1<1099511627776):
  Gets (qaA (qo A) (qb bs) ((A++B).length:Int) (bs.length:Int) (qo (A++(B++C))).length (qo (A++(B++C)))) (·=(.tup [],mkH (qo (A++(B.map (q6 ((A.length+B.length+(C++[iz 20 0 0]).length:Nat):Int))++(C++[iz 20 0 0])))))):=by
 refine qdU _ _ _ _ _ _ ?_;have z:=yk (ins:=A++(B++C)) (by simp;omega) 20 0 0;rw[qe,qB4 (by omega),cond_false];have e0:(A++(B++C))++[iz 20 0 0]=A++(B++(C++[iz 20 0 0])):=by simp
 have e1:(qh 0 ((A++B).length:Int)&&qh ((A++B).length:Int) ((qo (A++(B++(C++[iz 20 0 0])))).length:Int))=true:=by
  rw[qZ,vN];simp;omega
 have e2:(qh 0 ((qo A).length:Int)&&qh ((qo A).length:Int) ((qBj ((A++B).length:Int):Nat):Int))=true:=by
  rw[qZ,vN,qBB];simp;omega
 have e3:((qo (A++(B++(C++[iz 20 0 0])))).length:Int)=((A.length+B.length+(C++[iz 20 0 0]).length:Nat):Int):=by
  rw[vN];simp;omega
 have zf:=qtO ((A.length+B.length+(C++[iz 20 0 0]).length:Nat):Int) A B (C++[iz 20 0 0]) (by omega);rw[e0]at z;simp only[z,qc,qq,qp,qP,qM,qz,qBw,cond_true,qt,qC,qy,ql,qi,qx,qO,e1,e2];rw[show 0+qBj ((qo A).length:Int)=A.length by simp,show qBj ((A++B).length:Int) - qBj ((qo A).length:Int)=B.length by rw[qBB,qBB,vN,qBr];omega,e3,zf]
 simp only[qc,qcJ];refine⟨_,rfl,?_⟩;show _=(_,mkH _);rw[mkH,vN,vN];simp
theorem qzq{bs:List Tm}(hx:∀t∈bs,qaf t)(A B:List InsA){P:AV×AH->Prop}:∀(k i:Nat) (C:List InsA),bs.length - i=k->1<=i->i<=bs.length->A.length+B.length+C.length+(wL (bs.drop i)+(bs.drop i).length)<1099511627776->bs.length<1099511627776 ->
  (∀C',C'=C++qaJ (bs.drop i) (A.length+B.length+C.length)->Gets (qaA (qo A) (qb bs) ((A++B).length:Int) (bs.length:Int) (qo (A++(B++C'))).length (qo (A++(B++C')))) P) ->
  Gets (qaA (qo A) (qb bs) ((A++B).length:Int) (i:Int) (qo (A++(B++C))).length (qo (A++(B++C)))) P:=by
 intro k
 induction k with
 |zero=>
  intro i C hk h1 hi hw hlen h;have hi':i=bs.length:=by omega
  rw[qBR (by omega)]at h;rw[hi'];exact h C (by rw[qaJ,List.append_nil])
 |succ k ih=>
  intro i C hk h1 hi hw hlen h;refine qdU _ _ _ _ _ _ ?_;have hil:i<bs.length:=by omega
  have g0:bs[i]? =some bs[i]:=qBk hil;have hd:bs.drop i=bs[i]::bs.drop (i+1):=by rw[qBJ hil]
  rw[hd,qE,qBK]at hw;have e1:(qh 0 (i:Int)&&qn (i:Int) ((qb bs).length:Int))=true:=by simp;omega
  have z1:=yk (ins:=A++(B++C)) (by simp;omega) 19 0 0;have hl1:(A++(B++C)++[iz 19 0 0]).length=A.length+B.length+C.length+1:=by simp;omega
  have z2:=(hx bs[i] (List.getElem_mem hil)).c (ins:=A++(B++C)++[iz 19 0 0]) (by rw[hl1];omega);rw[hl1]at z2;have hc:=zj bs[i] (A.length+B.length+C.length+1);have ep:decide ((i:Int)>0)=true:=qB3 (by omega);rw[qB3 (show(i:Int)<((qb bs).length:Int) by simp;omega),e1];simp only[xA g0,qc,qq,qp,qP,qM,qz,qBw,cond_true,qt,qC,qy,ql,qi,qx,qO,qD,qQ,qv,show qBv 4 4=true from rfl,ep,z1,z2]
  rw[vn hil hlen];rw[show A++(B++C)++[iz 19 0 0]++qL bs[i] (A.length+B.length+C.length+1)=A++(B++(C++(iz 19 0 0::qL bs[i] (A.length+B.length+C.length+1)))) by simp];refine ih (i+1) (C++(iz 19 0 0::qL bs[i] (A.length+B.length+C.length+1))) (by omega) (by omega) (by omega) (by simp at hw⊢;omega) hlen ?_;rintro C' rfl;refine h _ ?_;rw[hd,qaJ];have:A.length+B.length+(C++(iz 19 0 0::qL bs[i] (A.length+B.length+C.length+1))).length=A.length+B.length+C.length+1+(qL bs[i] (A.length+B.length+C.length+1)).length:=by simp;omega
  rw[this];simp
theorem qzr{bs:List Tm}(hx:∀t∈bs,qaf t)(A B C:List InsA){P:AV×AH->Prop}(hw:A.length+B.length+C.length+(wL bs+bs.length)<1099511627776)(h:∀C',C'=C++zH bs (A.length+B.length+C.length)->Gets (qaA (qo A) (qb bs) ((A++B).length:Int) (bs.length:Int) (qo (A++(B++C'))).length (qo (A++(B++C')))) P):
  Gets (qaA (qo A) (qb bs) ((A++B).length:Int) 0 (qo (A++(B++C))).length (qo (A++(B++C)))) P:=by
 cases bs with
 |nil=>exact h C (by rw[zH,List.append_nil])
 |cons e bs=>
  have hlen:(e::bs).length<1099511627776:=by omega
  refine qdU _ _ _ _ _ _ ?_;rw[qE,qBK]at hw;have g0:=xA (l:=e::bs) (i:=0) (t:=e) rfl;rw[show((0:Nat):Int)=0 from rfl]at g0;have e1:(qh 0 (0:Int)&&qn (0:Int) ((qb (e::bs)).length:Int))=true:=by simp<;>omega
  have hl1:(A++(B++C)).length=A.length+B.length+C.length:=by simp;omega
  have z2:=(hx e (by simp)).c (ins:=A++(B++C)) (by rw[hl1];omega);rw[hl1]at z2;have hc:=zj e (A.length+B.length+C.length);have ep:decide ((0:Int)>0)=false:=rfl;rw[qB3 (show(0:Int)<((qb (e::bs)).length:Int) by simp<;>omega),e1];simp only[g0,qc,qq,qp,qP,qM,qz,qBw,cond_true,cond_false,qt,qC,qy,ql,qx,qO,qD,qQ,qv,show qBv 4 4=true from rfl,ep,z2]
  rw[show A++(B++C)++qL e (A.length+B.length+C.length)=A++(B++(C++qL e (A.length+B.length+C.length))) by simp];refine qzq hx A B bs.length 1 (C++qL e (A.length+B.length+C.length)) (by simp) (by omega) (by simp) (by simp at hw⊢;omega) hlen ?_;rintro C' rfl;refine h _ ?_;rw[zH];have:A.length+B.length+(C++qL e (A.length+B.length+C.length)).length=A.length+B.length+C.length+(qL e (A.length+B.length+C.length)).length:=by simp;omega
  rw[this];simp
structure ClX (c:Cl):Prop where
 gs:∀t∈c.gs,qaf t
 bs:∀t∈c.bs,qaf t
theorem qjo{c:Cl}(hx:ClX c){ins:List InsA}(hw:ins.length+wCl c+2<1099511627776):
  EVj (EV cfg) 57 1 [.ptr 0 0 0,.agg [.int .i64 c.head.kind,.int .i64 c.head.num,.str c.head.str,.sl (qb c.head.subs),.sl (qb c.gs),.sl (qb c.bs)]] (mkH (qo ins))=some (.tup [],mkH (qo (ins++xp c ins.length))):=by
 apply Gets.get;refine qpW _ _ _ _ _ _ _ ?_;unfold wCl at hw;have z:=qvT c.head (ins:=ins) (by omega);have hl:=qjQ c.head [];have hg:=qfc c.gs (ins.length+(vS c.head []).1.length);rw[Tm.av,Tm.cells_eq]at z;simp only[z,qc,qq,qp,qP,qM,qz,qBw,cond_true,qt,qC,qy,ql,qx,qO]
 refine qxB hx.gs c.head c.bs (qo ins) c.gs.length 0 (ins++(vS c.head []).1) (by omega) (by omega) (by rw[List.drop_zero];simp;omega) (by omega) ?_;rintro ins' rfl;rw[List.drop_zero];have ea:ins++(vS c.head []).1++xu c.gs (ins++(vS c.head []).1).length=ins++xe c ins.length:=by
  unfold xe;simp
 have hal:(xe c ins.length).length=(vS c.head []).1.length+(xu c.gs (ins.length+(vS c.head []).1.length)).length:=by unfold xe;simp
 rw[ea,show ins++xe c ins.length++[iz 18 0 0]=ins++(xe c ins.length++[iz 18 0 0]) by simp];refine qzr hx.bs ins (xe c ins.length) [iz 18 0 0] (by simp;omega) ?_;rintro C' rfl;have hb:=qnx c.bs (ins.length+(xe c ins.length).length+[iz 18 0 0].length);obtain⟨r,h1,h2⟩:=qBc c.bs ins (xe c ins.length) ([iz 18 0 0]++zH c.bs (ins.length+(xe c ins.length).length+[iz 18 0 0].length)) (by simp at hb⊢;omega)
 exact⟨r,h1,h2⟩
theorem InsA.row_t(x:InsA):qBm 4 (qBU 3 x.row)=[.int .i64 x.t.kind,.int .i64 x.t.num,.str x.t.str,.sl (qb x.t.subs)]:=by
 rw[InsA.row,Tm.cells_eq];rfl
theorem InsA.row_put(x:InsA):qBA (qBA (qBm 3 x.row) [.int .i64 x.t.kind,.int .i64 x.t.num,.str x.t.str,.sl (qb x.t.subs)]) (qBU 7 x.row)=x.row:=by
 rw[InsA.row,Tm.cells_eq];rfl
theorem qsK(l:List InsA)(i:Nat)(x:InsA)(h:l[i]? =some x):List.set (qo l) i x.row=qo l:=by
 have hi:=(qBn.1 h);obtain⟨hi,he⟩:=hi;unfold qo;rw[←he,←List.map_set,List.set_getElem_self]
theorem qtK{l:List InsA}(hx:∀x∈l,x.t.Ok)(hl:l.length<1099511627776):∀(k i:Nat),l.length - i=k->i<=l.length->Gets (qf0 7 0 (0+(qo l).length) (i:Int) (qo l)) (·= .sl (qo l)):=by
 intro k
 induction k with
 |zero=>
  intro i hk hi;refine qgF _ _ _ _ _ ?_;rw[qB0,qB4 (show ¬((i:Int)<((qo l).length:Int)) by rw[vN];omega),cond_false,nble,qB3 (show 0+(qo l).length<=(qo l).length by omega)];refine⟨_,rfl,?_⟩;rw[List.drop_zero,qBt (qBp _)]
 |succ k ih=>
  intro i hk hi;have hil:i<l.length:=by omega
  have g0:l[i]? =some l[i]:=qBk hil;refine qgF _ _ _ _ _ ?_;have e0:decide ((i:Int)<((0+(qo l).length:Nat):Int))=true:=qB3 (by rw[vN];omega);have e1:(qBh 7 7&&qh 0 (i:Int)&&qn (i:Int) ((0+(qo l).length:Nat):Int))=true:=by rw[vN];simp;omega
  have e2:qBg (qo l) (0+qBj (i:Int))=some (l[i]).row:=by rw[qB0,qBB];exact qjH g0
  have hc:=qbX (hx l[i] (List.getElem_mem hil));have e3:=qsK l i l[i] g0;have es:0+qBj (i:Int)=i:=by simp
  rw[e0,e1,e2];simp only[qc,cond_true,InsA.row_len,show qBv 7 7=true from rfl,InsA.row_t,ql,qi,qw,q4,qx,qJ,hc,qW,InsA.row_put,es,e3];rw[vn hil hl];exact ih (i+1) (by omega) (by omega)
theorem qxA{l:List InsA}(hx:∀x∈l,x.t.Ok)(hl:l.length<1099511627776)(hn:l≠[]):EVf (EV cfg) 58 [.sl (qo l)]=some (.sl (qo l)):=by
 apply Gets.get;refine qvQ _ ?_;have hc:EVo (EV cfg) 78 [.sl (qo l)]=some (.own 7 (qo l) 0 (0+(qo l).length)):=by
  cases l with
  |nil=>exact absurd rfl hn
  |cons x l=>
   apply Gets.get;show Gets (EVo (EV cfg) _ [.sl (x.row::qo l)]) _;refine qtT _ _ ?_;have h1:xR 7 (x.row::qo l)=true:=qwR (x::l);rw[h1,qvE (by simp at hl⊢;omega)];exact⟨_,rfl,rfl⟩
 rw[hc];simp only[qc,qjO];exact qtK hx hl l.length 0 (by omega) (by omega)
theorem Cl.cells6(c:Cl):qBm 6 c.cells=c.cells:=rfl
theorem Cl.cells_len(c:Cl):c.cells.length=6:=rfl
theorem qoU{l:List Cl}{i:Nat}{c:Cl}(h:l[i]? =some c):qBg (vK l) (qBj (i:Int))=some c.cells:=by
 rw[qBB,qI,qhi,h];rfl
theorem kCl{α:Type}(c:Cl)(K:Int->Int->List UInt8->List (List AV)->List (List AV)->List (List AV)->Option α):
  (qa c.cells fun(c:AV) (cs:List AV)=>kInt .i64 c fun(n:Int)=>qa cs fun(c:AV) (cs:List AV)=>kInt .i64 c fun(n_1:Int)=>qa cs fun(c:AV) (cs:List AV)=>kStr c fun(s:List UInt8)=>qa cs fun(c:AV) (cs:List AV)=>kSl c fun(r1:List (List AV))=>qa cs fun(c:AV) (cs:List AV)=>kSl c fun(r2:List (List AV))=>qa cs fun(c:AV) (cs:List AV)=>kSl c fun(r3:List (List AV))=>kNil cs (K n n_1 s r1 r2 r3))=K c.head.kind c.head.num c.head.str (qb c.head.subs) (qb c.gs) (qb c.bs):=rfl
theorem qrp{l:List Cl}(hx:∀c∈l,ClX c)(hlen:l.length<1099511627776){P:AV->Prop}:∀(k i:Nat) (ins:List InsA),l.length - i=k->i<=l.length->ins.length+2*wL ((l.drop i).map clT)<1099511627776 ->
  (∀ins':List InsA,ins'=ins++xg (l.drop i) ins.length->Gets (kOpt (EVf (EV cfg) 58 [.sl (qo ins')]) fun(v:AV)=>kSl v fun(rows:List (List AV))=>some (AV.tup [.sl rows,.int .i64 (0:Int)])) P) ->
  Gets (qjy (vK l) (i:Int) (qo ins).length (qo ins)) P:=by
 intro k
 induction k with
 |zero=>
  intro i ins hk hi hw h;refine qgG _ _ _ _ ?_;unfold zC0 zC1 zC2 zC3 zC4;rw[yI,qB4 (by omega),cond_false,nble,qB3 (show 0+(qo ins).length<=(qo ins).length by omega)];rw[qBt (qBp _)];exact h ins (by rw[qBR (by omega),xg,List.append_nil])
 |succ k ih=>
  intro i ins hk hi hw h;refine qgG _ _ _ _ ?_;unfold zC0 zC1 zC2 zC3 zC4;have hil:i<l.length:=by omega
  have g0:l[i]? =some l[i]:=qBk hil;have hd:l.drop i=l[i]::l.drop (i+1):=by rw[qBJ hil]
  rw[hd,qBZ,qE]at hw;have hg:=qhZ l[i];have hc:=qfj l[i] ins.length;have e1:(qh 0 (i:Int)&&qn (i:Int) ((vK l).length:Int))=true:=by rw[yI];simp;omega
  have z:=qjo (hx l[i] (List.getElem_mem hil)) (ins:=ins) (by omega);rw[qB3 (show(i:Int)<((vK l).length:Int) by rw[yI];omega),e1,qoU g0];simp only[qc,cond_true,Cl.cells_len,Cl.cells6,show qBh 6 6=true from rfl,show qBv 6 6=true from rfl];rw[kCl];simp only[z,qc,qq,qp,qP,qM,qz,qBw,cond_true,qt,qC,qy,ql,qx,qO]
  rw[vn hil hlen];refine ih (i+1) (ins++xp l[i] ins.length) (by omega) (by omega) (by rw[qBr];omega) ?_;rintro ins' rfl;refine h _ ?_;rw[hd,xg];simp
theorem qxy{l:List Cl}(h:l≠[])(i:Nat):xg l i≠[]:=by
 cases l with
 |nil=>exact absurd rfl h
 |cons c l=>
  intro e;have:=qjm (c::l) i;rw[e]at this;exact absurd this (by simp[tells])
theorem qzs{c:Cl}(h:okC c=true):ClX c:=by
 unfold okC at h;simp only[qBi,List.all_eq_true,decide_eq_true_eq]at h;have hg:∀{V:List Int} {t:Tm},xm V t=0->qaf t:=by
  intro V t h;refine qvU (V:=V) t.w t (qBp _) ?_;unfold xm at h;split at h
  ·split at h
   ·assumption
   ·exact absurd h (by decide)
  ·exact absurd h (by decide)
 exact⟨λt ht=>hg (h.2.1 t ht),λt ht=>hg (h.2.2 t ht)⟩
theorem qrL(l:List Cl):wL (l.map clT)<=(selT l).w:=by
 have:=qgf (l.map clT);show _<=(vr (l.map clT)).w;omega
theorem qtR{l:List Cl}(h:SelOk l):EVf (EV cfg) 19 [(selT l).av]=some (.tup [.sl (qo (xg l 0)),.int .i64 0]):=by
 have hw:=xx h.chk;have hwl:=qrL l;have hlen:l.length<1099511627776:=by have:=qat (l.map clT);rw[qBE]at this;omega
 have hcl:=qhd (t:=selT l) (by omega);have hx:∀c∈l,ClX c:=λc hc=>qzs (h.ok c hc)
 rw[h.cls]at hcl;apply Gets.get;rw[Tm.av,Tm.cells_eq];refine qgS _ _ _ _ ?_;simp only[qJ,hcl,qc,qY,ql,q4,qi,qx,show((0:Int) != 0)=false from rfl,cond_false];refine qoy _ _ ?_;unfold zC0 zC1 zC2 zC3 zC4;have ho:EVf (EV cfg) 58 [.sl (qo (xg l 0))]=some (.sl (qo (xg l 0))):=by
  refine qxA (λx hx=>qbR _ ?_) (by have:=qhW l 0;omega) (qxy h.ne 0);have:=qmF l 0 (2*wL (l.map clT)) (λc hc=>by
   have h1:=qhZ c;have h2:(clT c).w<=wL (l.map clT):=xW (List.mem_map_of_mem hc);omega) x hx
  omega
 cases l with
 |nil=>exact absurd rfl h.ne
 |cons c l=>
  have hg:=qhZ c;rw[qBZ,qE]at hwl;have hc:=qfj c 0;have e0:(0:Int)<((vK (c::l)).length:Int):=by rw[yI];simp<;>omega
  have e1:(qh 0 (0:Int)&&qn (0:Int) ((vK (c::l)).length:Int))=true:=by rw[yI];simp<;>omega
  have g0:=qoU (l:=c::l) (i:=0) (c:=c) rfl;rw[show((0:Nat):Int)=0 from rfl]at g0;have z:=qjo (hx c (by simp)) (ins:=[]) (by simp;omega);rw[qB3 e0,e1,g0];simp only[qc,cond_true,Cl.cells_len,Cl.cells6,show qBh 6 6=true from rfl,show qBv 6 6=true from rfl];rw[kCl];rw[show(qo []:List (List AV))=[]from rfl]at z;simp only[List.length_nil,List.nil_append]at z;have z:EVj (EV cfg) _ 1 _ ([ABlk.rows false 1 [[AV.ms 1 0 0]],ABlk.rows true 7 []]:AH)=_:=z
  simp only[z,qc,qq,qp,qP,qM,qz,qBw,cond_true,qt,qC,qy,ql,qx,qO];refine qrp hx hlen l.length 1 (xp c 0) (by simp) (by simp) (by rw[List.drop_succ_cons,List.drop_zero];omega) ?_;rintro ins' rfl;have e:xp c 0++xg (qBU 1 (c::l)) (xp c 0).length=xg (c::l) 0:=by
   rw[xg];simp
  rw[e,ho];exact⟨_,rfl,rfl⟩
theorem qtS{t:Tm}(ht:t.w<1099511627776)(h:(clsG t).2≠0):EVf (EV cfg) 19 [t.av]=some (.tup [.sl [],.int .i64 (clsG t).2]):=by
 have hcl:=qhd ht;apply Gets.get;rw[Tm.av,Tm.cells_eq];refine qgS _ _ _ _ ?_;have e:((clsG t).2 != 0)=true:=by simpa using h
 simp only[qJ,hcl,qc,qY,ql,q4,qi,qx,e,cond_true];exact⟨_,rfl,rfl⟩
theorem qpR:EVf (EV cfg) 190 [.agg [.int .i64 7,.int .i64 0,.str [],.sl [[.int .i64 2,.int .i64 0,.str [36,49],.sl []],[.int .i64 2,.int .i64 0,.str [97],.sl []]]]]=some (.sl [[.int .i64 1]]):=qog (.nil) 1000 1000 (by kernel_rfl)
theorem qpQ:EVf (EV cfg) 56 [.agg [.int .i64 9,.int .i64 0,.str [],.sl [[.int .i64 7,.int .i64 0,.str [],.sl [[.int .i64 7,.int .i64 0,.str [],.sl [[.int .i64 2,.int .i64 0,.str [36,49],.sl []],[.int .i64 2,.int .i64 0,.str [97],.sl []]]],[.int .i64 8,.int .i64 0,.str [],.sl []],[.int .i64 9,.int .i64 0,.str [],.sl [[.int .i64 2,.int .i64 0,.str [36,49],.sl []],[.int .i64 8,.int .i64 0,.str [],.sl []]]]]],[.int .i64 8,.int .i64 0,.str [],.sl []]]]]=some (.tup [.sl [[.int .i64 7,.int .i64 0,.str [],.sl [[.int .i64 2,.int .i64 0,.str [36,49],.sl []],[.int .i64 2,.int .i64 0,.str [97],.sl []]],.sl [],.sl [[.int .i64 2,.int .i64 0,.str [36,49],.sl []]]]],.int .i64 0]):=qog (.consF qpR (.nil)) 1000 1000 (by kernel_rfl)
theorem qpP:EVf (EV cfg) 19 [.agg [.int .i64 9,.int .i64 0,.str [],.sl [[.int .i64 7,.int .i64 0,.str [],.sl [[.int .i64 7,.int .i64 0,.str [],.sl [[.int .i64 2,.int .i64 0,.str [36,49],.sl []],[.int .i64 2,.int .i64 0,.str [97],.sl []]]],[.int .i64 8,.int .i64 0,.str [],.sl []],[.int .i64 9,.int .i64 0,.str [],.sl [[.int .i64 2,.int .i64 0,.str [36,49],.sl []],[.int .i64 8,.int .i64 0,.str [],.sl []]]]]],[.int .i64 8,.int .i64 0,.str [],.sl []]]]]=some (.tup [.sl [[.int .i64 1,.int .i64 2,.int .i64 6,.int .i64 0,.int .i64 0,.str [],.sl []],[.int .i64 3,.int .i64 1,.int .i64 0,.int .i64 0,.int .i64 0,.str [],.sl []],[.int .i64 6,.int .i64 0,.int .i64 6,.int .i64 2,.int .i64 0,.str [97],.sl []],[.int .i64 18,.int .i64 0,.int .i64 0,.int .i64 0,.int .i64 0,.str [],.sl []],[.int .i64 8,.int .i64 1,.int .i64 0,.int .i64 0,.int .i64 0,.str [],.sl []],[.int .i64 20,.int .i64 0,.int .i64 0,.int .i64 0,.int .i64 0,.str [],.sl []]],.int .i64 0]):=qog (.consF qpQ (.nil)) 1000 1000 (by kernel_rfl)
theorem qpO:EVf (EV cfg) 12 [.sl [[.int .i64 1,.int .i64 2,.int .i64 6,.int .i64 0,.int .i64 0,.str [],.sl []],[.int .i64 3,.int .i64 1,.int .i64 0,.int .i64 0,.int .i64 0,.str [],.sl []],[.int .i64 6,.int .i64 0,.int .i64 6,.int .i64 2,.int .i64 0,.str [97],.sl []],[.int .i64 18,.int .i64 0,.int .i64 0,.int .i64 0,.int .i64 0,.str [],.sl []],[.int .i64 8,.int .i64 1,.int .i64 0,.int .i64 0,.int .i64 0,.str [],.sl []],[.int .i64 20,.int .i64 0,.int .i64 0,.int .i64 0,.int .i64 0,.str [],.sl []]],.agg [.int .i64 7,.int .i64 0,.str [],.sl [[.int .i64 2,.int .i64 0,.str [107],.sl []],[.int .i64 2,.int .i64 0,.str [97],.sl []]]],.int .i64 1]=some (.tup [.agg [.int .i64 2,.int .i64 0,.str [107],.sl []],.bool true,.int .i64 6,.int .i64 0]):=qog (.nil) 1000 1000 (by kernel_rfl)
theorem qpS:EVs (EV cfg) 17 []=some (.bool true):=qBa (.consF qpP (.consF qpO (.nil))) 1000 1000 (by kernel_rfl)
end Go.Proofs.YtafdkafbgohigaaGreat
end
noncomputable section
namespace Go.Av
theorem qdE:q9.w<1099511627776:=by unfold q9;rw[Tm.w_mk];simp
theorem qyz{e:Env}{t:Tm}:(yT e t).1.w<1099511627776:=by
 unfold yT;split
 ·rename_i h;rw[qBi,decide_eq_true_eq]at h;obtain⟨h1,h2⟩:=qaI h.2;split
  ·rename_i v hv;have:=xx (qdX (qfM.1 h.1) _ t (qBp _) h1 h2 v hv);simp only;omega
  ·exact qdE
 ·exact qdE
theorem qyy:qgw.w<1099511627776:=by unfold qgw symT;rw[Tm.w_mk];simp
theorem qr5{e:Env}:∀(l:List Tm) {out:Tm},out.w<1099511627776->(qcV e out l).w<1099511627776
 |[],_,h=>h
 |x::l,out,h=>by
  rw[qcV];split
  ·exact qr5 l qyz
  ·exact qyy
theorem qpE{o:Tm}{self:Int}:∀(l:List Cl) (i:Int),(qab o self l i).2.w<1099511627776
 |[],_=>qdE
 |c::l,i=>by
  rw[qab];split
  ·rename_i x hx;unfold qes at hx;split at hx
   ·cases hx
   ·split at hx
    ·cases hx;exact qr5 _ qdE
    ·cases hx
  ·exact qpE l (i+1)
theorem qxp{t o:Tm}{self:Int}:(yM t o self).2.1.w<1099511627776:=by
 unfold yM;split
 ·exact qdE
 ·split
  ·exact qdE
  ·exact qpE _ _
end Go.Av
end
noncomputable section
namespace Go.Proofs.YtafdkafbgohigaaGreat
open Go.Av
def qwn(l:List Tm)(v:AV):Prop:=∃b:Bool,v= .bool b∧(b=false->∀x∈l,x.w<=40400∧x.words<=800)
theorem qs5{l:List Tm}(hl:OkL l)(hlen:l.length<1099511627776):Gets (EVs (EV cfg) 8 [.sl (qb l)]) (qwn l):=by
 have loop:∀(d i:Nat),i+d=l.length->(∀x∈l.take i,x.w<=40400∧x.words<=800)->Gets (qkz (qb l) i) (qwn l):=by
  intro d
  induction d with
  |zero=>
   intro i hi hx;refine qiW _ _ ?_;rw[qe,qB4 (by omega)];rw[qBt (by omega)]at hx;exact⟨_,rfl,_,rfl,λ_=>hx⟩
  |succ d ihd=>
   intro i hi hx;refine qiW _ _ ?_;have hil:i<l.length:=by omega
   have hxi:l[i]? =some l[i]:=qBk hil;have hb:=qyF (hl.get (qBy hxi)) (most:=400) (by omega) (by omega);rw[vn hil hlen];simp[hil];refine Gets.bind hb ?_;rintro _ ⟨b,rfl,hbw⟩;cases b with
   |true=>exact⟨_,rfl,_,rfl,λh=>by cases h⟩
   |false=>
    have:=hbw rfl;have hg:=ihd (i+1) (by omega) (λx hxx=>by
     rw[List.take_add_one,hxi,Option.toList_some,qBF]at hxx;rcases hxx with h|h
     ·exact hx x h
     ·simp at h;subst h;omega)
    simpa using hg
 exact qq1 _ (loop l.length 0 (by omega) (by simp))
theorem qA6(p o:Tm):([[AV.int .i64 p.kind,.int .i64 p.num,.str p.str,.sl (qb p.subs)],[AV.int .i64 o.kind,.int .i64 o.num,.str o.str,.sl (qb o.subs)]]:List (List AV))=qb [p,o]:=by
 rw[qR,qR,vo,Tm.cells_eq,Tm.cells_eq]
theorem qpN{t o:Tm}(self:Int)(wt:t.w<1099511627776)(wo:o.w<1099511627776):EVs (EV cfg) 5 [t.av,o.av,.int .i64 self]=some (.bool true):=by
 have hlg:=qs5 (l:=[t,o]) ⟨qbR t wt,qbR o wo,trivial⟩ (by simp);have hsp:=qwF qkT wt wo self;apply Gets.get;have hA:∀x:Tm,x.av= .agg [.int .i64 x.kind,.int .i64 x.num,.str x.str,.sl (qb x.subs)]:=λx=>by rw[Tm.av,Tm.cells_eq]
 have goal:Gets (EVs (EV cfg) 5 ([AV.agg [AV.int qB2 t.kind,AV.int qB2 t.num,AV.str t.str,AV.sl (qb t.subs)],AV.agg [AV.int qB2 o.kind,AV.int qB2 o.num,AV.str o.str,AV.sl (qb o.subs)],AV.int qB2 self]:List AV)) (·= .bool true):=by
  refine qnO _ _ _ _ _ _ _ _ _ ?_;rw[qpS,qA6];simp only[qc,qd];refine Gets.bind hlg ?_;rintro _ ⟨b,rfl,hb⟩;cases b with
  |true=>exact⟨_,rfl,rfl⟩
  |false=>
   have hbt:=(hb rfl t (by simp)).1;simp only[qd,cond_false];rw[←hA t,←hA o,hsp]
   by_cases h0:(clsG t).2=0
   ·have hco:=(qmH t).1;obtain⟨h1,hok⟩:=qvX h0;generalize (clsG t).1=l at h1 hok hco;subst h1;have hcm:=qtR hok;have hlc:=qhW l 0;have hwl:=qrL l;have hx:∀x∈xg l 0,x.t.w<1099511627776:=λx hx=>by
     have:=qmF l 0 (2*wL (l.map clT)) (λc' hc=>by
      have h1:=qhZ c';have h2:(clT c').w<=wL (l.map clT):=xW (List.mem_map_of_mem hc);omega) x hx
     omega
    have hrun:=qwI qkT hx (by omega) wo self;obtain⟨n,hr,hn1,hn2⟩:=qwQ hok (λc hc=>(hco c hc).1) o self;rw[hr]at hrun;have hlen:(qo (xg l 0)).length=(xg l 0).length:=vN _;have hw2:= @qxp (selT l) o self;generalize yM (selT l) o self=r at hrun hn2 hr hw2⊢;obtain⟨r1,r2,r3⟩:=r;have hs:=quJ (qbR r2 hw2) (b:=r2) (c:=true) (by simp);rw[zS]at hrun;rw[hcm]
    dsimp only at hrun hn2 hw2⊢;rw[hA r2]at hs hrun⊢;clear hr hlc hx hlg hsp hb hcm hbt;generalize xg l 0=L at *;generalize qo L=RL at *;generalize L.length=nL at *;generalize o.av=oA at *;generalize EVf (EV cfg) 12=RUN at hrun⊢;generalize EVs (EV cfg) 14=SAME at hs⊢;rw[qc,qY,ql,q4,ql,qi,qx,qc,qY,ql,q7,ql,qi,ql,qi,ql,qw,ql,q4,qx,ql,qd,ql,qi,qx,bne_self_eq_false,cond_false,hrun,qc,qY,ql,q7,ql,qi,ql,qi,ql,qw,ql,q4,qx,ql,qd,ql,qi,ql,qi,qx,cond_true,beq_self_eq_true,cond_true,beq_self_eq_true,cond_true,hs,qc,qd,cond_true]
    have e1:decide (n<=(RL.length:Int))=true:=qB3 (by rw[hlen];exact hn1);rw[e1,cond_true]
    by_cases h3:r3=0
    ·have e2:decide (n>0)=true:=qB3 (hn2 h3);have e3:(r3 != 0)=false:=by simp[h3]
     rw[e3,cond_false,e2];exact⟨_,rfl,rfl⟩
    ·have e3:(r3 != 0)=true:=by simpa using h3
     rw[e3,cond_true];exact⟨_,rfl,rfl⟩
   ·have hcm:=qtS (t:=t) (by omega) h0;have e:((clsG t).2 != 0)=true:=by simpa using h0
    have ef:yM t o self=(0,q9,(clsG t).2):=by unfold yM;rw[qB5 h0]
    rw[hcm,ef,hA q9];clear hcm ef hsp hlg hb h0;generalize (clsG t).2=q at *;generalize q9=z at *;generalize o.av=oA at *;generalize EVf (EV cfg) 12=RUN;generalize EVs (EV cfg) 14=SAME;rw[qc,qY,ql,q4,ql,qi,qx,qc,qY,ql,q7,ql,qi,ql,qi,ql,qw,ql,q4,qx,ql,qd,ql,qi,qx,e,cond_true]
    exact⟨_,rfl,by simp⟩
 rw[hA t,hA o];exact goal
end Go.Proofs.YtafdkafbgohigaaGreat
end
