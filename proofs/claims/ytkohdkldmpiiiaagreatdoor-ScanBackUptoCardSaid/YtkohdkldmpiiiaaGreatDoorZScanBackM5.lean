/-
  Parts of the proof of ScanBackUptoCardSaid, put together: the abstract evaluation and its contracts. Own work.
  What is proved: each lemma as it stands; no condition.
-/
import Derived.Test.YtkohdkldmpiiiaaGreatDoorZScanBackM4
open Bool renaming and_eq_true → qsz, false_eq_true → qsG, and_self → qsW, not_eq_true → qs2
open List renaming getElem?_eq_some_iff → qsA, getElem?_eq_getElem → qsD, get?Internal → qsH, getElem?_set → qsJ, getElem?_append_left → qsK, getElem?_append_right → qsM, mem_of_getElem? → qsN, length → qsO, length_cons → qsQ, length_append → qsR, mem_append → qsS, replicate → qsU, mem_cons → qsV, getElem?_cons_succ → qsX, getElem?_cons_zero → qsY, all_eq_true → qs3, length_map → qs5, take → qs6, range → qs7
open Option renaming bind_eq_some_iff → qsB, map_eq_some_iff → qsC, bind_some → qsI, map_some → qsP
open Nat renaming eq_of_beq_eq_true → qsE, le_refl → qsF, beq → qsL, mul_le_mul_right → qsT, ble → qs0, blt_eq → qs1
open Int renaming toNat_natCast → qsZ
open Array renaming getElem?_toList → qs4
set_option maxRecDepth 1000000
set_option maxHeartbeats 0
section
namespace Go.Proofs.YtkohdkldmpiiiaaGreatDoor
open Go.Av
noncomputable def qqy : Den := evC cfg (EV cfg) 53 none 0 (sub (qx Tryz.f53) [1, 1, 1, 0, 1, 0, 0])
noncomputable def qqK : Ex × List AV × AH → Option AV := kAft (Cfg.keepOut cfg 53 4) (kRun cfg (EV cfg) (kfN cfg 6) 53 none 0 (qbc cfg (Cfg.lift cfg 53 0) Tryz.f53.results.toList) ([.block 0, .seq (sub (qx Tryz.f53) [1, 1, 1, 1])]))
noncomputable def qqq : List AV × AH → Option AV := fun p => kOpt (LOOP 0 (some [3, 8, 9, 10]) ([]) qqy p) qqK
noncomputable def qqx : Den := evC cfg (EV cfg) 55 none 1 (sub (qx Tryz.f55) [1, 0, 0])
noncomputable def qqJ : Ex × List AV × AH → Option (AV × List UInt8) := kAft (Cfg.keepOut cfg 55 1) (kRun cfg (EV cfg) (kfN cfg 6) 55 none 1 (qe5 cfg 53 5 (Cfg.lift cfg 55 0) Tryz.f55.results.toList) ([.block 0]))
noncomputable def qqp : List AV × AH → Option (AV × List UInt8) := fun p => kOpt (LOOP 1 (some [0, 6, 7, 8]) ([]) qqx p) qqJ
noncomputable def qqw : Den := evC cfg (EV cfg) 56 none 1 (sub (qx Tryz.f56) [1, 0, 1, 1, 1, 0, 0, 0])
noncomputable def qqI : Ex × List AV × AH → Option (AV × List UInt8) := kAft (Cfg.keepOut cfg 56 (qd (sub (qx Tryz.f56) [1, 0, 1, 1, 1, 0, 0, 0]))) (xY 0 (kSeq (fun (fr : List AV) (H : AH) => qae (Cfg.cut cfg 56 (qd (sub (qx Tryz.f56) [1, 0, 1, 1, 1, 1]))) fr H fun (fr : List AV) (H : AH) => vh cfg (EV cfg) (kfN cfg 6) 56 none 1 (sub (qx Tryz.f56) [1, 0, 1, 1, 1, 1]) fr H (qer (qe5 cfg 53 5 (Cfg.lift cfg 56 0) (Array.toList (Func.results Tryz.f56))))) (qer (qe5 cfg 53 5 (Cfg.lift cfg 56 0) (Array.toList (Func.results Tryz.f56))))))
noncomputable def qqo : List AV × AH → Option (AV × List UInt8) := fun (p : List AV × AH) => kOpt (LOOP 1 (some [0, 3, 4]) [] qqw p) qqI
noncomputable def qry : Den := evC cfg (EV cfg) 22 none 1 (sub (qx Tryz.f22) [1, 1, 1, 0, 1, 1, 1, 1, 1, 1, 1, 1, 1, 1, 1, 0, 1, 0, 1, 0, 0])
noncomputable def qrD : Ex × List AV × AH → Option (AV × List UInt8) := kAft (Cfg.keepOut cfg 22 (qd (sub (qx Tryz.f22) [1, 1, 1, 0, 1, 1, 1, 1, 1, 1, 1, 1, 1, 1, 1, 0, 1, 0, 1, 0, 0]))) (xY 1 (kSeq (fun (fr : List AV) (H : AH) => qae (Cfg.cut cfg 22 (qd (sub (qx Tryz.f22) [1, 1, 1, 0, 1, 1, 1, 1, 1, 1, 1, 1, 1, 1, 1, 0, 1, 1]))) fr H fun (fr : List AV) (H : AH) => vh cfg (EV cfg) (kfN cfg 6) 22 none 1 (sub (qx Tryz.f22) [1, 1, 1, 0, 1, 1, 1, 1, 1, 1, 1, 1, 1, 1, 1, 0, 1, 1]) fr H (xY 0 (qe5 cfg 53 5 (Cfg.lift cfg 22 0) (Array.toList (Func.results Tryz.f22))))) (xY 0 (qe5 cfg 53 5 (Cfg.lift cfg 22 0) (Array.toList (Func.results Tryz.f22))))))
noncomputable def qrt : List AV × AH → Option (AV × List UInt8) := fun (p : List AV × AH) => kOpt (LOOP 1 (some [0, 76, 77, 78]) [] qry p) qrD
noncomputable abbrev qan (s : Bz) (q : AV × List UInt8) (v10 : Int) (h1 : Rz) : Option (AV) := qqq  (((fx 51 [(3, .ptr 0 0 0), (8, .ms 1 0 (qsO s)), (9, .int .i64 (s.length : Int)), (10, .int .i64 v10)]) : List AV), ([.bld 51 5 q.2, .rows true 1 h1] : AH))
noncomputable abbrev qcD (l : Rz) (b : Bz) (v8 : Int) : Option (AV × List UInt8) := qqp  (((fx 23 [(0, .ptr 0 0 0), (6, .sl l), (7, .int .i64 (l.length : Int)), (8, .int .i64 v8)]) : List AV), ([.bld 53 5 b] : AH))
noncomputable abbrev qcC (q : AV × List UInt8) (v4 : Bz) (c1_0 c1_1 : Int) (c1_2 : Bz) (c1_3 : Rz) : Option (AV × List UInt8) := qqo  (((fx 41 [(0, .ptr 0 0 0), (3, .ptr 1 0 0), (4, .str v4)]) : List AV), ([.bld 53 5 q.2, .rows false 4 [[.int .i64 c1_0, .int .i64 c1_1, .str c1_2, .sl c1_3]]] : AH))
noncomputable abbrev qeS (l : Rz) (q : AV × List UInt8) (v78 : Int) : Option (AV × List UInt8) := qrt  (((fx 108 [(0, .ptr 0 0 0), (76, .sl l), (77, .int .i64 (l.length : Int)), (78, .int .i64 v78)]) : List AV), ([.bld 53 5 q.2] : AH))
theorem qlo (c : Int) {P : AV → Prop} (h : Gets (bif decide (c ≥ 97) then some (.bool (decide (c ≤ 122))) else some (.bool false)) P) : Gets (EVs (EV cfg) 26 [.int .u8 c]) P :=
  gE (fun _ => funS rfl rfl Tryz.func26 rfl) (by kernel_rfl) h
noncomputable abbrev zf2 (c : Int) : Option (AV) := bif c == 95 then some (.bool true) else some (.bool (c == 64))
noncomputable abbrev zf1 (c : Int) : Option (AV) := bif decide (c ≤ 57) then some (.bool true) else zf2 c
noncomputable abbrev zf0 (c : Int) : Option (AV) := bif decide (c ≥ 48) then zf1 c else zf2 c
theorem qjI (c : Int) {P : AV → Prop} (h : Gets (kOpt (EVs (EV cfg) 26 [AV.int .u8 c]) fun v => qO v fun b => bif b then some (.bool true) else bif decide (c ≥ 65) then bif decide (c ≤ 90) then some (.bool true) else zf0 c else zf0 c) P) : Gets (EVs (EV cfg) 30 [.int .u8 c]) P :=
  gE (fun _ => funS rfl rfl Tryz.func30 rfl) (by kernel_rfl) h
theorem qhU (c : Int) {P : AV → Prop} (h : Gets (kOpt (EVs (EV cfg) 30 [AV.int .u8 c]) fun v => qO v fun b => some (.bool ! b)) P) : Gets (EVs (EV cfg) 29 [.int .u8 c]) P :=
  gE (fun _ => funS rfl rfl Tryz.func29 rfl) (by kernel_rfl) h
theorem qlp (s : Bz) {P : AV → Prop} (h : Gets (bif s == [] then some (.bool false) else bif decide ((s.length : Int) > 64) then some (.bool false) else kOpt (qsH s 0) fun b => kOpt (EVs (EV cfg) 26 [AV.int .u8 (↑ (UInt8.toNat b) : Int)]) fun v => qO v fun b => bif ! b then some (.bool false) else kOpt (bif qs0 (1 + qsO s) 9223372036854775807 then some (.str ((32 : UInt8) :: s)) else none) fun v => kStr v fun s_1 => kOpt (bif qs0 (qsO s_1 + 1) 9223372036854775807 then some (.str (List.append s_1 [(32 : UInt8)])) else none) fun v => kStr v fun s_2 => kOpt (EVs (EV cfg) 27 [AV.str [(32 : UInt8), (97 : UInt8), (102 : UInt8), (116 : UInt8), (101 : UInt8), (114 : UInt8), (32 : UInt8), (97 : UInt8), (110 : UInt8), (100 : UInt8), (32 : UInt8), (97 : UInt8), (110 : UInt8), (100 : UInt8), (97 : UInt8), (108 : UInt8), (115 : UInt8), (111 : UInt8), (32 : UInt8), (98 : UInt8), (101 : UInt8), (103 : UInt8), (105 : UInt8), (110 : UInt8), (32 : UInt8), (99 : UInt8), (97 : UInt8), (115 : UInt8), (101 : UInt8), (32 : UInt8), (99 : UInt8), (97 : UInt8), (116 : UInt8), (99 : UInt8), (104 : UInt8), (32 : UInt8), (100 : UInt8), (105 : UInt8), (118 : UInt8), (32 : UInt8), (101 : UInt8), (110 : UInt8), (100 : UInt8), (32 : UInt8), (102 : UInt8), (117 : UInt8), (110 : UInt8), (32 : UInt8), (110 : UInt8), (111 : UInt8), (116 : UInt8), (32 : UInt8), (111 : UInt8), (102 : UInt8), (32 : UInt8), (111 : UInt8), (114 : UInt8), (32 : UInt8), (111 : UInt8), (114 : UInt8), (101 : UInt8), (108 : UInt8), (115 : UInt8), (101 : UInt8), (32 : UInt8), (114 : UInt8), (101 : UInt8), (99 : UInt8), (101 : UInt8), (105 : UInt8), (118 : UInt8), (101 : UInt8), (32 : UInt8), (114 : UInt8), (101 : UInt8), (109 : UInt8), (32 : UInt8), (116 : UInt8), (114 : UInt8), (121 : UInt8), (32 : UInt8), (119 : UInt8), (104 : UInt8), (101 : UInt8), (110 : UInt8), (32 : UInt8)], .str s_2]) fun v => qO v fun b => bif b then some (.bool false) else bif qs0 (0 + qsO s) (qsO (List.map (fun b => [AV.int .u8 (↑ (UInt8.toNat b) : Int)]) s)) && true then kOpt (EVs (EV cfg) 28 [.sl (qs6 (qsO s) (List.map (fun b => [AV.int .u8 (↑ (UInt8.toNat b) : Int)]) s)), AV.fn (Fn.func 29) [] []]) fun v => qO v fun b => some (.bool ! b) else none) P) : Gets (EVs (EV cfg) 9 [.str s]) P :=
  gE (fun _ => funS rfl rfl Tryz.func9 rfl) (by kernel_rfl) h
theorem qjH (s : Bz) {P : AV → Prop} (h : Gets (kOpt (EVb (EV cfg) 54 [.ptr 0 0 0, .int .u8 39] 51 5 []) fun q => qan s q 0 (List.map (fun b => [AV.int .u8 (↑ (UInt8.toNat b) : Int)]) s)) P) : Gets (EVs (EV cfg) 53 [.str s]) P :=
  gE (fun _ => funS rfl rfl Tryz.func53 rfl) (by kernel_rfl) h
theorem qoj (l : Rz) (b : Bz) {P : AV × List UInt8 → Prop} (h : Gets (qcD l b 0) P) : Gets (EVb (EV cfg) 55 [.ptr 0 0 0, .sl l] 53 5 b) P :=
  gE (fun _ => funB rfl rfl Tryz.func55 rfl) (by kernel_rfl) h
theorem qmU (k n : Int) (s : Bz) (l : Rz) (b : Bz) {P : AV × List UInt8 → Prop} (h : Gets (kOpt (EVb (EV cfg) 54 [.ptr 0 0 0, .int .u8 91] 53 5 b) fun q => qcC q [] k n s l) P) : Gets (EVb (EV cfg) 56 [.ptr 0 0 0, .agg [.int .i64 k, .int .i64 n, .str s, .sl l]] 53 5 b) P :=
  gE (fun _ => funB rfl rfl Tryz.func56 rfl) (by kernel_rfl) h
noncomputable abbrev zf7 (cs : List AV) (q : AV × List UInt8) : Option (AV × List UInt8) := qf cs fun c cs => kNil cs (some (AV.tup [], q.2))
noncomputable abbrev zf6 (c : AV) (cs : List AV) (q : AV × List UInt8) : Option (AV × List UInt8) := kInt .i64 c fun n => zf7 cs q
noncomputable abbrev zf5 (cs : List AV) (q : AV × List UInt8) : Option (AV × List UInt8) := qf cs fun c cs => zf6 c cs q
noncomputable abbrev zf4 (q : AV × List UInt8) : Option (AV × List UInt8) := kTup q.1 fun cs => zf5 cs q
noncomputable abbrev zf3 (s_1 b : Bz) : Option (AV × List UInt8) := kOpt (EVb (EV cfg) 52 [.ptr 0 0 0, .str s_1] 53 5 b) fun q => zf4 q
noncomputable abbrev zf8 (v : AV) (b : Bz) : Option (AV × List UInt8) := kStr v fun s => zf3 s b
noncomputable abbrev zf10 (s b : Bz) : Option (AV × List UInt8) := kOpt (bif qs0 (qsO s + 1) 9223372036854775807 then some (.str (List.append s [(62 : UInt8)])) else none) fun v => zf8 v b
noncomputable abbrev zf9 (v : AV) (b : Bz) : Option (AV × List UInt8) := kStr v fun s => zf10 s b
theorem qmT (k n : Int) (s : Bz) (l : Rz) (b : Bz) {P : AV × List UInt8 → Prop} (h : Gets (kOpt (EVs (EV cfg) 44 [AV.int .i64 n]) fun v => kStr v fun s_1 => bif k == 1 then zf3 s_1 b else bif k == 2 then kOpt (EVs (EV cfg) 9 [.str s]) fun v => qO v fun b_1 => bif b_1 then zf3 s b else kOpt (EVs (EV cfg) 53 [.str s]) fun v => zf8 v b else bif k == (3 : Int) then kOpt (bif qs0 (5 + qsO s_1) 9223372036854775807 then some (.str ((35 : UInt8) :: (82 : UInt8) :: (101 : UInt8) :: (102 : UInt8) :: (60 : UInt8) :: s_1)) else none) fun v => zf9 v b else bif k == 4 then kOpt (bif qs0 (5 + qsO s_1) 9223372036854775807 then some (.str ((35 : UInt8) :: (84 : UInt8) :: (105 : UInt8) :: (100 : UInt8) :: (60 : UInt8) :: s_1)) else none) fun v => zf9 v b else bif k == 6 then kOpt (bif qs0 (3 + qsO s_1) 9223372036854775807 then some (.str ((60 : UInt8) :: (48 : UInt8) :: (46 : UInt8) :: s_1)) else none) fun v => kStr v fun s => kOpt (bif qs0 (qsO s + 3) 9223372036854775807 then some (.str (List.append s [(46 : UInt8), (48 : UInt8), (62 : UInt8)])) else none) fun v => zf8 v b else bif k == 5 then kOpt (bif qs0 (5 + qsO s_1) 9223372036854775807 then some (.str ((35 : UInt8) :: (70 : UInt8) :: (117 : UInt8) :: (110 : UInt8) :: (60 : UInt8) :: s_1)) else none) fun v => kStr v fun s => kOpt (EVb (EV cfg) 52 [.ptr 0 0 0, .str s] 53 5 b) fun q => kTup q.1 fun cs => qf cs fun c cs => kInt .i64 c fun n => qf cs fun c cs => kNil cs (qeS l q 0) else bif k == 7 then kOpt (EVb (EV cfg) 54 [.ptr 0 0 0, .int .u8 (123 : Int)] 53 5 b) fun q => kOpt (EVb (EV cfg) 55 [.ptr 0 0 0, .sl l] 53 5 q.2) fun q => kOpt (EVb (EV cfg) 54 [.ptr 0 0 0, .int .u8 125] 53 5 q.2) fun q => some (AV.tup [], q.2) else kOpt (EVb (EV cfg) 56 [.ptr 0 0 0, .agg [.int .i64 k, .int .i64 n, .str s, .sl l]] 53 5 b) fun q => some (AV.tup [], q.2)) P) : Gets (EVb (EV cfg) 22 [.ptr 0 0 0, .agg [.int .i64 k, .int .i64 n, .str s, .sl l]] 53 5 b) P :=
  gE (fun _ => funB rfl rfl Tryz.func22 rfl) (by kernel_rfl) h
theorem qln (k n : Int) (s : Bz) (l : Rz) {P : AV → Prop} (h : Gets (kOpt (EVs (EV cfg) 21 [.agg [.int .i64 k, .int .i64 n, .str s, .sl l]]) fun v => kInt .i64 v fun n_1 => bif n_1 != 0 then some (AV.tup [.str [], .int .i64 n_1]) else kOpt (EVb (EV cfg) 22 [.ptr 0 0 0, .agg [.int .i64 k, .int .i64 n, .str s, .sl l]] 53 5 []) fun q => kOpt (EVb (EV cfg) 23 [.ptr 0 0 0] 53 5 q.2) fun q => kStr q.1 fun s => some (AV.tup [.str s, .int .i64 0])) P) : Gets (EVf (EV cfg) 7 [.agg [.int .i64 k, .int .i64 n, .str s, .sl l]]) P :=
  gE (fun _ => funF rfl rfl Tryz.func7 rfl) (by kernel_rfl) h
noncomputable abbrev zf11 (n : Int) (q : AV × List UInt8) (s : Bz) (v10 : Int) (h1 : Rz) : Option (AV) := kOpt (EVb (EV cfg) 54 [.ptr 0 0 0, .int .u8 n] 51 5 q.2) fun q => qan s q (IntKind.wrap .i64 (v10 + 1)) h1
noncomputable abbrev zf13 (s_2 : Bz) (q : AV × List UInt8) (s : Bz) (v10 : Int) (h1 : Rz) : Option (AV) := kOpt (EVb (EV cfg) 52 [.ptr 0 0 0, .str s_2] 51 5 q.2) fun q => kTup q.1 fun cs => qf cs fun c cs => kInt .i64 c fun n => qf cs fun c cs => kNil cs (qan s q (IntKind.wrap .i64 (v10 + 1)) h1)
noncomputable abbrev zf12 (v : AV) (q : AV × List UInt8) (s : Bz) (v10 : Int) (h1 : Rz) : Option (AV) := kStr v fun s_2 => zf13 s_2 q s v10 h1
theorem qdY (s : Bz) (q : AV × List UInt8) (v10 : Int) (h1 : Rz) {P : AV → Prop} (h : Gets (bif decide (v10 < (s.length : Int)) then bif qe 0 v10 && qT v10 (s.length : Int) then kOpt (qsH h1 (0 + v10.toNat)) fun row => kOpt (qsH row 0) fun v => kInt .u8 v fun n => bif n == 39 then kOpt (EVb (EV cfg) 54 [.ptr 0 0 0, .int .u8 92] 51 5 q.2) fun q => zf11 n q s v10 h1 else bif n == 92 then kOpt (EVb (EV cfg) 54 [.ptr 0 0 0, .int .u8 92] 51 5 q.2) fun q => zf11 n q s v10 h1 else bif decide (n < 32) then kOpt (vn (Op.shift BinOp.shr .u8 n .u64 4)) fun v => kInt .u8 v fun n_1 => kOpt (vn (Op.shift BinOp.shr .u8 n .u64 4)) fun v => kInt .u8 v fun n_2 => bif qe 0 (IntKind.wrap .u8 (n_2 + 1)) && qe (IntKind.wrap .u8 (n_2 + 1)) 16 then bif qe 0 n_1 && qe n_1 (↑ (Int.toNat (IntKind.wrap .u8 (n_2 + 1))) : Int) then kOpt (bif qs0 (2 + qsO (qs6 (Int.toNat (IntKind.wrap .u8 (n_2 + 1)) - n_1.toNat) (List.drop (n_1.toNat) [(48 : UInt8), (49 : UInt8), (50 : UInt8), (51 : UInt8), (52 : UInt8), (53 : UInt8), (54 : UInt8), (55 : UInt8), (56 : UInt8), (57 : UInt8), (97 : UInt8), (98 : UInt8), (99 : UInt8), (100 : UInt8), (101 : UInt8), (102 : UInt8)]))) 9223372036854775807 then some (AV.str ((92 : UInt8) :: (120 : UInt8) :: qs6 (Int.toNat (IntKind.wrap .u8 (n_2 + 1)) - n_1.toNat) (List.drop (n_1.toNat) [(48 : UInt8), (49 : UInt8), (50 : UInt8), (51 : UInt8), (52 : UInt8), (53 : UInt8), (54 : UInt8), (55 : UInt8), (56 : UInt8), (57 : UInt8), (97 : UInt8), (98 : UInt8), (99 : UInt8), (100 : UInt8), (101 : UInt8), (102 : UInt8)]))) else none) fun v => kStr v fun s_1 => kOpt (vn (Op.intBits BinOp.and .u8 n 15)) fun v => kInt .u8 v fun n_3 => kOpt (vn (Op.intBits BinOp.and .u8 n 15)) fun v => kInt .u8 v fun n => bif qe 0 (IntKind.wrap .u8 (n + 1)) && qe (IntKind.wrap .u8 (n + 1)) 16 then bif qe 0 n_3 && qe n_3 (↑ (Int.toNat (IntKind.wrap .u8 (n + 1))) : Int) then kOpt (bif qs0 (qsO s_1 + qsO (qs6 (Int.toNat (IntKind.wrap .u8 (n + 1)) - n_3.toNat) (List.drop (n_3.toNat) [(48 : UInt8), (49 : UInt8), (50 : UInt8), (51 : UInt8), (52 : UInt8), (53 : UInt8), (54 : UInt8), (55 : UInt8), (56 : UInt8), (57 : UInt8), (97 : UInt8), (98 : UInt8), (99 : UInt8), (100 : UInt8), (101 : UInt8), (102 : UInt8)]))) 9223372036854775807 then some (AV.str (List.append s_1 (qs6 (Int.toNat (IntKind.wrap .u8 (n + 1)) - n_3.toNat) (List.drop (n_3.toNat) [(48 : UInt8), (49 : UInt8), (50 : UInt8), (51 : UInt8), (52 : UInt8), (53 : UInt8), (54 : UInt8), (55 : UInt8), (56 : UInt8), (57 : UInt8), (97 : UInt8), (98 : UInt8), (99 : UInt8), (100 : UInt8), (101 : UInt8), (102 : UInt8)])))) else none) fun v => zf12 v q s v10 h1 else none else none else none else none else bif decide (n > 126) then kOpt (vn (Op.shift BinOp.shr .u8 n .u64 4)) fun v => kInt .u8 v fun n_1 => kOpt (vn (Op.shift BinOp.shr .u8 n .u64 4)) fun v => kInt .u8 v fun n_2 => bif qe 0 (IntKind.wrap .u8 (n_2 + 1)) && qe (IntKind.wrap .u8 (n_2 + 1)) 16 then bif qe 0 n_1 && qe n_1 (↑ (Int.toNat (IntKind.wrap .u8 (n_2 + 1))) : Int) then kOpt (bif qs0 (2 + qsO (qs6 (Int.toNat (IntKind.wrap .u8 (n_2 + 1)) - n_1.toNat) (List.drop (n_1.toNat) [(48 : UInt8), (49 : UInt8), (50 : UInt8), (51 : UInt8), (52 : UInt8), (53 : UInt8), (54 : UInt8), (55 : UInt8), (56 : UInt8), (57 : UInt8), (97 : UInt8), (98 : UInt8), (99 : UInt8), (100 : UInt8), (101 : UInt8), (102 : UInt8)]))) 9223372036854775807 then some (AV.str ((92 : UInt8) :: (120 : UInt8) :: qs6 (Int.toNat (IntKind.wrap .u8 (n_2 + (1 : Int))) - n_1.toNat) (List.drop (n_1.toNat) [(48 : UInt8), (49 : UInt8), (50 : UInt8), (51 : UInt8), (52 : UInt8), (53 : UInt8), (54 : UInt8), (55 : UInt8), (56 : UInt8), (57 : UInt8), (97 : UInt8), (98 : UInt8), (99 : UInt8), (100 : UInt8), (101 : UInt8), (102 : UInt8)]))) else none) fun v => kStr v fun s_1 => kOpt (vn (Op.intBits BinOp.and .u8 n 15)) fun v => kInt .u8 v fun n_3 => kOpt (vn (Op.intBits BinOp.and .u8 n 15)) fun v => kInt .u8 v fun n => bif qe 0 (IntKind.wrap .u8 (n + 1)) && qe (IntKind.wrap .u8 (n + 1)) 16 then bif qe 0 n_3 && qe n_3 (↑ (Int.toNat (IntKind.wrap .u8 (n + (1 : Int)))) : Int) then kOpt (bif qs0 (qsO s_1 + qsO (qs6 (Int.toNat (IntKind.wrap .u8 (n + 1)) - n_3.toNat) (List.drop (n_3.toNat) [(48 : UInt8), (49 : UInt8), (50 : UInt8), (51 : UInt8), (52 : UInt8), (53 : UInt8), (54 : UInt8), (55 : UInt8), (56 : UInt8), (57 : UInt8), (97 : UInt8), (98 : UInt8), (99 : UInt8), (100 : UInt8), (101 : UInt8), (102 : UInt8)]))) 9223372036854775807 then some (AV.str (List.append s_1 (qs6 (Int.toNat (IntKind.wrap .u8 (n + 1)) - n_3.toNat) (List.drop (Int.toNat n_3) [(48 : UInt8), (49 : UInt8), (50 : UInt8), (51 : UInt8), (52 : UInt8), (53 : UInt8), (54 : UInt8), (55 : UInt8), (56 : UInt8), (57 : UInt8), (97 : UInt8), (98 : UInt8), (99 : UInt8), (100 : UInt8), (101 : UInt8), (102 : UInt8)])))) else none) fun v => zf12 v q s v10 h1 else none else none else none else none else zf11 n q s v10 h1 else none else kOpt (EVb (EV cfg) 54 [.ptr 0 0 0, .int .u8 39] 51 5 q.2) fun q => kOpt (EVb (EV cfg) 23 [.ptr 0 0 0] 51 5 q.2) fun q => kStr q.1 fun s => some (.str s)) P) : Gets (qan s q v10 h1) P :=
  gE (fun _ => q7 (cfg := cfg) (f := 53) (rd := none) (bs := 0)) (by kernel_rfl) h
theorem qdX (l : Rz) (b : Bz) (v8 : Int) {P : AV × List UInt8 → Prop} (h : Gets (bif decide (v8 < (l.length : Int)) then bif qe 0 v8 && qT v8 (l.length : Int) then kOpt (qsH l (v8.toNat)) fun row => bif qsL (qsO row) 4 then bif qs0 4 (qsO row) then kTmC (qs6 4 row) fun n n_1 s rows => (bif decide (v8 > 0) then kOpt (EVb (EV cfg) 54 [.ptr 0 0 0, .int .u8 44] 53 5 b) fun q => kOpt (EVb (EV cfg) 22 [.ptr 0 0 0, .agg [.int .i64 n, .int .i64 n_1, .str s, .sl rows]] 53 5 q.2) fun q => qcD l q.2 (IntKind.wrap .i64 (v8 + 1)) else kOpt (EVb (EV cfg) 22 [.ptr 0 0 0, .agg [.int .i64 n, .int .i64 n_1, .str s, .sl rows]] 53 5 b) fun q => qcD l q.2 (IntKind.wrap .i64 (v8 + 1))) else none else none else none else some (AV.tup [], b)) P) : Gets (qcD l b v8) P :=
  gE (fun _ => q7 (cfg := cfg) (f := 55) (rd := none) (bs := 1)) (by kernel_rfl) h
theorem qbt (q : AV × List UInt8) (v4 : Bz) (c1_0 c1_1 : Int) (c1_2 : Bz) (c1_3 : Rz) {P : AV × List UInt8 → Prop} (h : Gets (bif c1_0 == 9 then kOpt (EVb (EV cfg) 52 [.ptr 0 0 0, .str v4] 53 5 q.2) fun q => kTup q.1 fun cs => qf cs fun c cs => kInt .i64 c fun n => qf cs fun c cs => kNil cs (bif qT 0 (c1_3.length : Int) then kOpt (qsH c1_3 0) fun row => bif qsL (qsO row) 4 then bif qs0 4 (qsO row) then kTmC (qs6 4 row) fun n n_1 s rows => (kOpt (EVb (EV cfg) 22 [.ptr 0 0 0, .agg [.int .i64 n, .int .i64 n_1, .str s, .sl rows]] 53 5 q.2) fun q => bif qT 1 (c1_3.length : Int) then kOpt (qsH c1_3 1) fun row => bif qsL (qsO row) 4 then bif qs0 4 (qsO row) then kTmC (qs6 4 row) fun n n_2 s rows => (qcC q [(44 : UInt8)] n n_2 s rows) else none else none else none) else none else none else none) else bif c1_0 == 8 then kOpt (EVb (EV cfg) 54 [.ptr 0 0 0, .int .u8 93] 53 5 q.2) fun q => some (AV.tup [], q.2) else kOpt (EVb (EV cfg) 54 [.ptr 0 0 0, .int .u8 124] 53 5 q.2) fun q => kOpt (EVb (EV cfg) 22 [.ptr 0 0 0, .agg [.int .i64 c1_0, .int .i64 c1_1, .str c1_2, .sl c1_3]] 53 5 q.2) fun q => kOpt (EVb (EV cfg) 54 [.ptr 0 0 0, .int .u8 (93 : Int)] 53 5 q.2) fun q => some (AV.tup [], q.2)) P) : Gets (qcC q v4 c1_0 c1_1 c1_2 c1_3) P :=
  gE (fun _ => q7 (cfg := cfg) (f := 56) (rd := none) (bs := 1)) (by kernel_rfl) h
theorem qdZ (l : Rz) (q : AV × List UInt8) (v78 : Int) {P : AV × List UInt8 → Prop} (h : Gets (bif decide (v78 < (l.length : Int)) then bif qe 0 v78 && qT v78 (l.length : Int) then kOpt (qsH l (v78.toNat)) fun row => bif qsL (qsO row) 4 then bif qs0 4 (qsO row) then kTmC (qs6 4 row) fun n n_1 s rows => (kOpt (EVb (EV cfg) 54 [.ptr 0 0 0, .int .u8 44] 53 5 q.2) fun q => kOpt (EVb (EV cfg) 22 [.ptr 0 0 0, .agg [.int .i64 n, .int .i64 n_1, .str s, .sl rows]] 53 5 q.2) fun q => qeS l q (IntKind.wrap .i64 (v78 + 1))) else none else none else none else kOpt (EVb (EV cfg) 54 [.ptr 0 0 0, .int .u8 62] 53 5 q.2) fun q => some (AV.tup [], q.2)) P) : Gets (qeS l q v78) P :=
  gE (fun _ => q7 (cfg := cfg) (f := 22) (rd := none) (bs := 1)) (by kernel_rfl) h
theorem bldB : zi vR.look 51 5 = true := by kernel_rfl
theorem bldW : zi vR.look 53 5 = true := by kernel_rfl
theorem qgi {T : TypeId} (hT : zi vR.look T 5 = true) (b : UInt8) {s : List UInt8} (hl : s.length < 140737488355328) :
  EVb (EV cfg) 54 [.ptr 0 0 0, .int .u8 (b.toNat : Int)] T 5 s = some (.nilI, s ++ [b]) := by
 have hx : cfg.ext 54 = some (y7 vR.look) := rfl
 have h1 : EV cfg (.f 54) [.ptr 0 0 0, .int .u8 (b.toNat : Int)] [.bld T 5 s] = some (.nilI, [.bld T 5 (s ++ [b])]) := by
  refine zo ?_
  unfold q9
  simp only [hx]
  unfold y7
  have hb : (b.toNat : Int) ≤ 255 := by have := b.toNat_lt; omega
  simp only [if_pos (show zi vR.look T 5 = true ∧ 0 ≤ (b.toNat : Int) ∧ (b.toNat : Int) ≤ 255 ∧ s.length < 140737488355328 from ⟨hT, by omega, hb, hl⟩)]
  simp
 unfold EVb
 rw [h1]
 simp [qbS, AV.refsLt]
theorem qmN {T : TypeId} (hT : zi vR.look T 5 = true) {s t : List UInt8} (hl : s.length + t.length ≤ 140737488355328) :
  EVb (EV cfg) 52 [.ptr 0 0 0, .str t] T 5 s = some (.tup [.int .i64 t.length, .nilI], s ++ t) := by
 have hx : cfg.ext 52 = some (yx vR.look) := rfl
 have h1 : EV cfg (.f 52) [.ptr 0 0 0, .str t] [.bld T 5 s] = some (.tup [.int .i64 t.length, .nilI], [.bld T 5 (s ++ t)]) := by
  refine zo ?_
  unfold q9
  simp only [hx]
  unfold yx
  simp only [if_pos (show zi vR.look T 5 = true ∧ s.length + t.length ≤ 140737488355328 from ⟨hT, hl⟩)]
 unfold EVb
 rw [h1]
 simp [qbS, AV.refsLt, qp]
theorem qoq {T : TypeId} (hT : zi vR.look T 5 = true) {s : List UInt8} (hl : s.length < 140737488355328) :
  EVb (EV cfg) 23 [.ptr 0 0 0] T 5 s = some (.str s, s) := by
 have hx : cfg.ext 23 = some (qaV vR.look) := rfl
 have h1 : EV cfg (.f 23) [.ptr 0 0 0] [.bld T 5 s] = some (.str s, [.bld T 5 s]) := by
  refine zo ?_
  unfold q9
  simp only [hx]
  unfold qaV
  simp only [if_pos (show zi vR.look T 5 = true ∧ s.length < 140737488355328 from ⟨hT, hl⟩)]
 unfold EVb
 rw [h1]
 simp [qbS, AV.refsLt]
theorem qmA {n : Int} (h0 : -9223372036854775808 ≤ n) (h1 : n ≤ 9223372036854775807) : EVs (EV cfg) 44 [.int .i64 n] = some (.str (vW n)) := by
 refine qc5 (H := []) (zo ?_)
 have hx : cfg.ext 44 = some qcW := rfl
 unfold q9
 simp only [hx]
 unfold qcW
 simp only [if_pos (And.intro h0 h1)]
theorem qkS {s t : List UInt8} (h : s.length < 4294967281) : EVs (EV cfg) 27 [.str s, .str t] = some (.bool (Go.Lib.contains s t)) := by
 refine qc5 (H := []) (zo ?_)
 have hx : cfg.ext 27 = some yi := rfl
 unfold q9
 simp only [hx]
 unfold yi
 simp only [if_pos h]
theorem qgk (b : UInt8) : EVs (EV cfg) 26 [.int .u8 (b.toNat : Int)] = some (.bool (vI b)) := by
 apply Gets.get
 refine qlo _ ?_
 unfold vI
 by_cases h : 97 ≤ b.toNat
 ·rw [decide_eq_true (show (b.toNat : Int) ≥ 97 by omega), decide_eq_true h]
  simp only [cond_true, xf, Bool.true_and, AV.bool.injEq, decide_eq_decide]
  omega
 ·rw [decide_eq_false (show ¬ (b.toNat : Int) ≥ 97 by omega), decide_eq_false h]
  simp
theorem qcf (b c : UInt8) : ((b.toNat : Int) == (c.toNat : Int)) = (b == c) := by
 by_cases h : b = c
 ·subst h; simp
 ·have h1 : b.toNat ≠ c.toNat := fun e => h (UInt8.toNat_inj.1 e)
  have h2 : ((b.toNat : Int) == (c.toNat : Int)) = false := by rw [beq_eq_false_iff_ne]; omega
  rw [h2]; symm; simpa using h
theorem qlm (b : UInt8) : EVs (EV cfg) 30 [.int .u8 (b.toNat : Int)] = some (.bool (qo b)) := by
 apply Gets.get
 refine qjI _ ?_
 unfold zf0 zf1 zf2
 rw [qgk]
 have e1 : ((b.toNat : Int) == 95) = (b == 95) := qcf b 95
 have e2 : ((b.toNat : Int) == 64) = (b == 64) := qcf b 64
 have d1 : decide ((b.toNat : Int) ≥ 65) = decide (65 ≤ b.toNat) := by simp only [decide_eq_decide]; omega
 have d2 : decide ((b.toNat : Int) ≤ 90) = decide (b.toNat ≤ 90) := by simp only [decide_eq_decide]; omega
 have d3 : decide ((b.toNat : Int) ≥ 48) = decide (48 ≤ b.toNat) := by simp only [decide_eq_decide]; omega
 have d4 : decide ((b.toNat : Int) ≤ 57) = decide (b.toNat ≤ 57) := by simp only [decide_eq_decide]; omega
 rw [e1, e2, d1, d2, d3, d4]
 unfold qo
 simp only [qa, qi]
 cases vI b <;> cases decide (65 ≤ b.toNat) <;> cases decide (b.toNat ≤ 90) <;> cases decide (48 ≤ b.toNat) <;> cases decide (b.toNat ≤ 57) <;> cases b == 95 <;> cases b == 64 <;> simp
theorem qiW (b : UInt8) : EVs (EV cfg) 29 [.int .u8 (b.toNat : Int)] = some (.bool (!qo b)) := by
 apply Gets.get
 refine qhU _ ?_
 rw [qlm]
 simp
noncomputable def qqv : Den := evC cfg (EV cfg) 63 none 0 (sub (qx Tryz.f63) [1, 0, 1, 0, 0])
noncomputable def qqH : Ex × List AV × AH → Option AV := kAft (Cfg.keepOut cfg 63 2) (kRun cfg (EV cfg) (kfN cfg 6) 63 none 0 (qbc cfg (Cfg.lift cfg 63 0) Tryz.f63.results.toList) ([.block 0, .seq (sub (qx Tryz.f63) [1, 1])]))
noncomputable def qqn : List AV × AH → Option AV := fun p => kOpt (LOOP 0 (some [0, 1, 7, 8]) ([]) qqv p) qqH
noncomputable abbrev qeR (l : Rz) (v8 : Int) : Option (AV) := qqn  (((fx 19 [(0, .sl l), (1, .fn (Fn.func 29) [] []), (7, .int .i64 (l.length : Int)), (8, .int .i64 v8)]) : List AV), ([] : AH))
theorem qhT (l : Rz) {P : AV → Prop} (h : Gets (kOpt (EVs (EV cfg) 63 [.sl l, AV.fn (Fn.func 29) [] []]) fun v => kInt .i64 v fun n => some (.bool (decide (n ≥ 0)))) P) : Gets (EVs (EV cfg) 28 [.sl l, .fn (Fn.func 29) [] []]) P :=
  gE (fun _ => funS rfl rfl Tryz.func28 rfl) (by kernel_rfl) h
theorem qlk (l : Rz) {P : AV → Prop} (h : Gets (qeR l 0) P) : Gets (EVs (EV cfg) 63 [.sl l, .fn (Fn.func 29) [] []]) P :=
  gE (fun _ => funS rfl rfl Tryz.func63 rfl) (by kernel_rfl) h
theorem qdW (l : Rz) (v8 : Int) {P : AV → Prop} (h : Gets (bif decide (v8 < (l.length : Int)) then bif qe 0 v8 && qT v8 (l.length : Int) then kOpt (qsH l (v8.toNat)) fun row => bif qsL (qsO row) 1 then kOpt (qsH row 0) fun v => kInt .u8 v fun n => kOpt (EVs (EV cfg) 29 [AV.int .u8 n]) fun v => qO v fun b => bif b then some (.int .i64 v8) else qeR l (IntKind.wrap .i64 (v8 + 1)) else none else none else some (.int .i64 (- 1))) P) : Gets (qeR l v8) P :=
  gE (fun _ => q7 (cfg := cfg) (f := 63) (rd := none) (bs := 0)) (by kernel_rfl) h
abbrev bR (s : List UInt8) : List (List AV) := s.map fun b => [AV.int .u8 (b.toNat : Int)]
theorem qkV {s : List UInt8} {i : Nat} {b : UInt8} (h : s[i]? = some b) : (bR s)[i]? = some [AV.int .u8 (b.toNat : Int)] := by simp [bR, h]
theorem qmQ (s : List UInt8) (hl : s.length < 1099511627776) : Gets (EVs (EV cfg) 63 [.sl (bR s), .fn (.func 29) [] []]) (fun v => ∃ n : Int, v = .int .i64 n ∧ (decide (n ≥ 0) = !s.all qo)) := by
 refine qlk _ ?_
 have key : ∀ (k i : Nat), s.length - i = k → i ≤ s.length → (s.take i).all qo = true → Gets (qeR (bR s) (i : Int)) (fun v => ∃ n : Int, v = .int .i64 n ∧ (decide (n ≥ 0) = !s.all qo)) := by
  intro k
  induction k with
  | zero =>
   intro i hk hi ha
   refine qdW _ _ ?_
   have : i = s.length := by omega
   subst this
   simp only [qs5, decide_eq_false (show ¬ ((s.length : Int) < (s.length : Int)) by omega), cond_false, xf]
   rw [List.take_length] at ha
   exact ⟨-1, rfl, by rw [ha]; rfl⟩
  | succ k ih =>
   intro i hk hi ha
   refine qdW _ _ ?_
   have hlt : i < s.length := by omega
   obtain ⟨b, hb⟩ : ∃ b, s[i]? = some b := ⟨s[i], qsD hlt⟩
   rw [qs5, decide_eq_true (show (i : Int) < (s.length : Int) by omega), xL, yZ, decide_eq_true hlt]
   simp only [cond_true, Bool.and_true, qL, qsZ, qkV hb, qa, qsY, qm, qiW, qi]
   cases hL : qo b with
   | false =>
    simp only [Bool.not_false, cond_true]
    have : s.all qo = false := by
     rw [← qs2, qs3]
     intro h
     have := h b (qsN hb)
     rw [hL] at this; cases this
    exact ⟨_, rfl, by rw [this]; simp⟩
   | true =>
    simp only [Bool.not_true, cond_false]
    rw [yB hlt hl]
    refine ih (i + 1) (by omega) hlt ?_
    rw [List.take_add_one, List.all_append, ha, hb]
    simp [hL]
 exact key _ 0 rfl (by omega) rfl
theorem qj9 : ([32, 97, 102, 116, 101, 114, 32, 97, 110, 100, 32, 97, 110, 100, 97, 108, 115, 111, 32, 98, 101, 103, 105, 110, 32, 99, 97, 115, 101, 32, 99, 97, 116, 99, 104, 32, 100, 105, 118, 32, 101, 110, 100, 32, 102, 117, 110, 32, 110, 111, 116, 32, 111, 102, 32, 111, 114, 32, 111, 114, 101, 108, 115, 101, 32, 114, 101, 99, 101, 105, 118, 101, 32, 114, 101, 109, 32, 116, 114, 121, 32, 119, 104, 101, 110, 32] : List UInt8) = catW vX := by decide
theorem qmS (s : List UInt8) (hl : s.length < 4294967200) : EVs (EV cfg) 9 [.str s] = some (.bool (qaP s)) := by
 apply Gets.get
 refine qlp _ ?_
 unfold qaP
 cases s with
 | nil => simp
 | cons b s =>
  have e0 : (b :: s == []) = false := rfl
  simp only [e0, cond_false]
  by_cases h64 : (b :: s).length ≤ 64
  ·rw [decide_eq_false (show ¬ (((b :: s).length : Int) > 64) by omega)]
   simp only [cond_false, qL, qsY, qa, qgk, qi]
   cases hsm : vI b with
   | false => simp
   | true =>
    simp only [Bool.not_true, cond_false]
    rw [show qs0 (1 + (b :: s).length) 9223372036854775807 = true by simp only [nble, decide_eq_true_eq]; omega]
    simp only [cond_true, qa, qj]
    rw [show qs0 (((32 : UInt8) :: b :: s).length + 1) 9223372036854775807 = true by simp only [nble, decide_eq_true_eq, qsQ] at *; omega]
    simp only [cond_true, qa, qj, qj9]
    rw [qkS (by decide)]
    simp only [qa, qi, qs5, Nat.zero_add]
    rw [show qs0 (b :: s).length (b :: s).length = true by simp, show qs6 (b :: s).length ((b :: s).map fun b => [AV.int .u8 (b.toNat : Int)]) = bR (b :: s) from List.take_of_length_le (by simp)]
    simp only [qsW, cond_true]
    have hcf : EVs (EV cfg) 28 [.sl (bR (b :: s)), .fn (.func 29) [] []] = some (.bool (!(b :: s).all qo)) := by
     apply Gets.get
     refine qhT _ ?_
     refine (qmQ (b :: s) (by omega)).bind fun v ⟨n, hv, hn⟩ => ?_
     subst hv
     simp only [qm, xf, hn]
    rw [hcf]
    simp only [qa, qi, Bool.not_not, decide_eq_true h64, Bool.true_and, Bool.and_true]
    cases hL : (b :: s).all qo with
    | false => cases Go.Lib.contains (catW vX) (List.append (32 :: b :: s) [32]) <;> simp
    | true =>
     have := qa0 (b :: s) (qbI hL) vX (by decide)
     rw [show List.append ((32 : UInt8) :: b :: s) [32] = 32 :: ((b :: s) ++ [32]) from rfl, this]
     cases vX.contains (b :: s) <;> simp
  ·rw [decide_eq_true (show (((b :: s).length : Int) > 64) by omega)]
   have : decide ((b :: s).length ≤ 64) = false := decide_eq_false h64
   rw [this]
   simp
def qhg (o : Option AV) (x : Int) : Bool := match o with | some (.int .u8 y) => y == x | _ => false
theorem qiH {o : Option AV} {x : Int} (h : qhg o x = true) : o = some (.int .u8 x) := by
 unfold qhg at h
 split at h
 ·rw [beq_iff_eq] at h; subst h; rfl
 ·cases h
theorem shr4 (b : UInt8) : vn (Op.shift BinOp.shr .u8 (b.toNat : Int) .u64 4) = some (.int .u8 ((b.toNat / 16 : Nat) : Int)) := by
 have : ∀ n : Nat, n < 256 → qhg (vn (Op.shift BinOp.shr .u8 (n : Int) .u64 4)) ((n / 16 : Nat) : Int) = true := by decide +kernel
 exact qiH (this _ b.toNat_lt)
theorem qsx (b : UInt8) : vn (Op.intBits BinOp.and .u8 (b.toNat : Int) 15) = some (.int .u8 ((b.toNat % 16 : Nat) : Int)) := by
 have : ∀ n : Nat, n < 256 → qhg (vn (Op.intBits BinOp.and .u8 (n : Int) 15)) ((n % 16 : Nat) : Int) = true := by decide +kernel
 exact qiH (this _ b.toNat_lt)
theorem qqQ {k : Nat} (h : k < 16) : IntKind.wrap .u8 ((k : Int) + 1) = ((k + 1 : Nat) : Int) := by
 simp [IntKind.wrap, IntKind.bits, IntKind.signed]; omega
theorem qcL {k : Nat} (h : k < 16) : qs6 (k + 1 - k) (List.drop k ([48, 49, 50, 51, 52, 53, 54, 55, 56, 57, 97, 98, 99, 100, 101, 102] : List UInt8)) = [hexd k] := by
 have : ∀ k : Nat, k < 16 → qs6 (k + 1 - k) (List.drop k ([48, 49, 50, 51, 52, 53, 54, 55, 56, 57, 97, 98, 99, 100, 101, 102] : List UInt8)) = [hexd k] := by decide
 exact this k h
theorem le16 {k : Nat} (h : k < 16) : qe ((k + 1 : Nat) : Int) 16 = true := by simp [qe]; omega
theorem qoY (k : Nat) : qe (k : Int) ((k + 1 : Nat) : Int) = true := by simp [qe]; omega
theorem qlP {s acc : List UInt8} {v : AV} {i : Nat} {b : UInt8} (hb : s[i]? = some b) (hs : s.length < 1099511627776) (ha : acc.length < 100000000000000) {P : AV → Prop}
  (h : ∀ v', Gets (qan s (v', acc ++ escB b) ((i + 1 : Nat) : Int) (bR s)) P) : Gets (qan s (v, acc) (i : Int) (bR s)) P := by
 have hlt : i < s.length := (qsA.1 hb).1
 refine qdY _ _ _ _ ?_
 unfold zf12 zf13 zf11
 rw [decide_eq_true (show (i : Int) < (s.length : Int) by omega), xL, yZ, decide_eq_true hlt]
 simp only [cond_true, Bool.and_true, qL, Nat.zero_add, qsZ, qkV hb, qa, qsY, qm]
 rw [yB hlt hs]
 have e1 : ((b.toNat : Int) == 39) = (b == 39) := qcf b 39
 have e2 : ((b.toNat : Int) == 92) = (b == 92) := qcf b 92
 have w92 : EVb (EV cfg) 54 [.ptr 0 0 0, .int .u8 92] 51 5 acc = some (.nilI, acc ++ [92]) := qgi bldB 92 (by omega)
 have wb : ∀ a : List UInt8, a.length < 140737488355328 → EVb (EV cfg) 54 [.ptr 0 0 0, .int .u8 (b.toNat : Int)] 51 5 a = some (.nilI, a ++ [b]) := fun a h => qgi bldB b h
 rw [e1, e2]
 unfold escB at h
 cases h1 : b == 39 with
 | true =>
  have hb1 : b = 39 := by simpa using h1
  rw [if_pos (.inl hb1)] at h
  simp only [cond_true, w92, qa, wb (acc ++ [92]) (by simp; omega), List.append_assoc, List.cons_append, List.nil_append]
  exact h _
 | false =>
 cases h2 : b == 92 with
 | true =>
  have hb1 : b = 92 := by simpa using h2
  rw [if_pos (.inr hb1)] at h
  simp only [cond_true, cond_false, w92, qa, wb (acc ++ [92]) (by simp; omega), List.append_assoc, List.cons_append, List.nil_append]
  exact h _
 | false =>
  have hn : ¬ (b = 39 ∨ b = 92) := by simp at h1 h2; simp [h1, h2]
  rw [if_neg hn] at h
  have hq : b.toNat / 16 < 16 := by have := b.toNat_lt; omega
  have hr : b.toNat % 16 < 16 := by omega
  have hex : ∀ (t : List UInt8), qe 0 (((b.toNat / 16 + 1 : Nat) : Int)) = true := fun _ => xL _
  simp only [cond_false, shr4, qsx, qa, qm, qqQ hq, qqQ hr, xL, Bool.true_and, qcL hq, qcL hr, qsQ, List.length_nil, qsZ]
  by_cases h32 : b.toNat < 32
  ·rw [if_pos (.inl h32)] at h
   rw [decide_eq_true (show (b.toNat : Int) < 32 by omega)]
   simp only [cond_true, le16 hq, le16 hr, qoY, qcL hq, qcL hr, List.append_eq]
   rw [show qs0 (2 + (0 + 1)) 9223372036854775807 = true by decide]
   simp only [cond_true, qa, qj, qsQ, List.length_nil]
   rw [show qs0 (0 + 1 + 1 + 1 + (0 + 1)) 9223372036854775807 = true by decide]
   simp only [cond_true, qa, qj, List.cons_append, List.nil_append]
   rw [qmN bldB (by simp; omega)]
   simp only [qa, kTup, qk, qm, qq]
   exact h _
  ·by_cases h126 : 126 < b.toNat
   ·rw [if_pos (.inr h126)] at h
    rw [decide_eq_false (show ¬ (b.toNat : Int) < 32 by omega), decide_eq_true (show (b.toNat : Int) > 126 by omega)]
    simp only [cond_true, cond_false, le16 hq, le16 hr, qoY, qcL hq, qcL hr, List.append_eq]
    rw [show qs0 (2 + (0 + 1)) 9223372036854775807 = true by decide]
    simp only [cond_true, qa, qj, qsQ, List.length_nil]
    rw [show qs0 (0 + 1 + 1 + 1 + (0 + 1)) 9223372036854775807 = true by decide]
    simp only [cond_true, qa, qj, List.cons_append, List.nil_append]
    rw [qmN bldB (by simp; omega)]
    simp only [qa, kTup, qk, qm, qq]
    exact h _
   ·rw [if_neg (by omega)] at h
    rw [decide_eq_false (show ¬ (b.toNat : Int) < 32 by omega), decide_eq_false (show ¬ (b.toNat : Int) > 126 by omega)]
    simp only [cond_false, wb acc (by omega), qa]
    exact h _
theorem qll (s : List UInt8) (hs : s.length < 1099511627776) : EVs (EV cfg) 53 [.str s] = some (.str (zd s)) := by
 apply Gets.get
 refine qjH _ ?_
 have w0 : EVb (EV cfg) 54 [.ptr 0 0 0, .int .u8 39] 51 5 [] = some (.nilI, [] ++ [39]) := qgi bldB 39 (by simp)
 rw [w0]
 simp only [qa]
 have key : ∀ (k i : Nat) (v : AV) (acc : List UInt8), s.length - i = k → i ≤ s.length → acc = 39 :: (s.take i).flatMap escB → Gets (qan s (v, acc) (i : Int) (bR s)) (fun v => v = .str (zd s)) := by
  intro k
  induction k with
  | zero =>
   intro i v acc hk hi ha
   refine qdY _ _ _ _ ?_
   unfold zf12 zf13 zf11
   have : i = s.length := by omega
   subst this
   rw [List.take_length] at ha
   have hl := qbK s
   have hal : acc.length = (s.flatMap escB).length + 1 := by rw [ha]; simp
   have w39 : EVb (EV cfg) 54 [.ptr 0 0 0, .int .u8 39] 51 5 acc = some (.nilI, acc ++ [39]) := qgi bldB 39 (by omega)
   rw [decide_eq_false (show ¬ ((s.length : Int) < (s.length : Int)) by omega)]
   simp only [cond_false, w39, qa]
   rw [qoq bldB (by simp; omega)]
   simp only [qa, qj, xf, ha]
   rfl
  | succ k ih =>
   intro i v acc hk hi ha
   have hlt : i < s.length := by omega
   have hb : s[i]? = some s[i] := qsD hlt
   have hl := qbK (s.take i)
   have hal : acc.length = ((s.take i).flatMap escB).length + 1 := by rw [ha]; simp
   have htl : (s.take i).length ≤ s.length := by simp; omega
   refine qlP hb hs (by omega) fun v' => ih (i + 1) v' _ (by omega) hlt ?_
   rw [ha, List.take_add_one, hb]
   simp only [Option.toList, List.flatMap_append, List.flatMap_cons, List.flatMap_nil, List.append_nil, List.cons_append]
 exact key _ 0 _ _ rfl (by omega) rfl
end Go.Proofs.YtkohdkldmpiiiaaGreatDoor
end
section
namespace Go.Av
@[simp] theorem Tm.kind_mk (k n : Int) (s : List UInt8) (l : List Tm) : (Tm.mk k n s l).kind = k := rfl
@[simp] theorem Tm.num_mk (k n : Int) (s : List UInt8) (l : List Tm) : (Tm.mk k n s l).num = n := rfl
@[simp] theorem Tm.str_mk (k n : Int) (s : List UInt8) (l : List Tm) : (Tm.mk k n s l).str = s := rfl
@[simp] theorem Tm.subs_mk (k n : Int) (s : List UInt8) (l : List Tm) : (Tm.mk k n s l).subs = l := rfl
@[simp] theorem Tm.eta (t : Tm) : Tm.mk t.kind t.num t.str t.subs = t := by cases t; rfl
theorem Tm.cells_eq (t : Tm) : t.cells = [.int .i64 t.kind, .int .i64 t.num, .str t.str, .sl (qn t.subs)] := by cases t; rw [Tm.cells_mk]; rfl
@[simp] theorem cells_fold (k n : Int) (s : List UInt8) (l : List Tm) : [AV.int .i64 k, AV.int .i64 n, AV.str s, AV.sl (qn l)] = (Tm.mk k n s l).cells := (Tm.cells_mk k n s l).symm
@[simp] theorem cells_fold0 (k n : Int) (s : List UInt8) : [AV.int .i64 k, AV.int .i64 n, AV.str s, AV.sl []] = (Tm.mk k n s []).cells := by rw [Tm.cells_mk, qaL]
@[simp] theorem agg_cells (t : Tm) : AV.agg t.cells = t.av := rfl
@[simp] theorem qoH (t : Tm) : [t.cells] = qn [t] := by rw [zc, qaL]
@[simp] theorem rowsT_cons' (t : Tm) (l : List Tm) : t.cells :: qn l = qn (t :: l) := (zc t l).symm
@[simp] theorem rowsT_append' (a b : List Tm) : qn a ++ qn b = qn (a ++ b) := (qbz a b).symm
@[simp] theorem rowsT_app (a b : List Tm) : List.append (qn a) (qn b) = qn (a ++ b) := (qbz a b).symm
@[simp] theorem rowsT_take' (n : Nat) (a : List Tm) : (qn a).take n = qn (a.take n) := qnk n a
@[simp] theorem rowsT_drop' (n : Nat) (a : List Tm) : (qn a).drop n = qn (a.drop n) := qnm n a
@[simp] theorem rowsT_set' (l : List Tm) (i : Nat) (t : Tm) : (qn l).set i t.cells = qn (l.set i t) := qoG l i t
@[simp] theorem rowsT_get' (l : List Tm) (i : Nat) : (qn l)[i]? = (l[i]?).map Tm.cells := qb3 l i
@[simp] theorem rowsT_getElem (l : List Tm) (i : Nat) (h : i < (qn l).length) : (qn l)[i] = (l[i]'(by simpa using h)).cells := by
 have h1 := qb3 l i
 rw [qsD h, qsD (by simpa using h)] at h1
 exact Option.some.inj h1
@[simp] theorem kOpt_map {α β γ : Type} (o : Option β) (g : β → γ) (k : γ → Option α) : kOpt (o.map g) k = kOpt o fun x => k (g x) := by cases o <;> rfl
@[simp] theorem qkl (t : Tm) : t.cells.length = 4 := by rw [Tm.cells_eq]; rfl
@[simp] theorem take_cells (t : Tm) : t.cells.take 4 = t.cells := by rw [Tm.cells_eq]; rfl
@[simp] theorem drop_cells (t : Tm) : t.cells.drop 4 = [] := by rw [Tm.cells_eq]; rfl
@[simp] theorem cells_0 (t : Tm) : t.cells[0]? = some (.int .i64 t.kind) := by rw [Tm.cells_eq]; rfl
@[simp] theorem cells_1 (t : Tm) : t.cells[1]? = some (.int .i64 t.num) := by rw [Tm.cells_eq]; rfl
@[simp] theorem cells_2 (t : Tm) : t.cells[2]? = some (.str t.str) := by rw [Tm.cells_eq]; rfl
@[simp] theorem cells_3 (t : Tm) : t.cells[3]? = some (.sl (qn t.subs)) := by rw [Tm.cells_eq]; rfl
@[simp] theorem refs_cells (n : Nat) (t : Tm) : qp n t.cells = true := by rw [Tm.cells_eq]; rfl
@[simp] theorem allCells_cells (t : Tm) : vE t.cells = true := by rw [Tm.cells_eq]; rfl
@[simp] theorem rowsT_free' (l : List Tm) : qw 0 (qn l) = true := qnl l
@[simp] theorem rowsOk_rowsT (l : List Tm) : qaM 4 (qn l) = true := by
 cases l with
 | nil => rw [qaL]; rfl
 | cons t l => rw [zc, qaM, qkl]; rfl
@[simp] theorem kTmC_cells {α : Type} (t : Tm) (k : Int → Int → List UInt8 → List (List AV) → Option α) : kTmC t.cells k = k t.kind t.num t.str (qn t.subs) := by rw [Tm.cells_eq]; rfl
@[simp] theorem kTmV_av {α : Type} (t : Tm) (k : Int → Int → List UInt8 → List (List AV) → Option α) : kTmV t.av k = k t.kind t.num t.str (qn t.subs) := by rw [Tm.av, Tm.cells_eq]; rfl
@[simp] theorem cast_nn (q : Nat) : (0 ≤ (q : Int) + 1) = True := eq_true (by omega)
@[simp] theorem cast_le1 (q n : Nat) : ((q : Int) + 1 ≤ (n : Int)) = (q + 1 ≤ n) := propext (by omega)
@[simp] theorem cast_lt1 (q n : Nat) : ((q : Int) + 1 < (n : Int)) = (q + 1 < n) := propext (by omega)
@[simp] theorem cast_nn' (q : Nat) : (0 < (q : Int) + 1) = True := eq_true (by omega)
@[simp] theorem cast_ne0 (q : Nat) : ((q : Int) + 1 == 0) = false := by rw [beqD]; exact decide_eq_false (by omega)
@[simp] theorem cast_lt_s (q : Nat) : ((q : Int) < (q : Int) + 1) = True := eq_true (by omega)
@[simp] theorem cast_le_s (q : Nat) : ((q : Int) ≤ (q : Int) + 1) = True := eq_true (by omega)
theorem qsm {n : Nat} (hn : n < 4398046511104) : IntKind.wrap .i64 (n : Int) = n := qcH (by omega) (by omega)
def C3 (p q r : Int) : Prop := (p ≤ 0 → q ≤ 0 → r ≤ 0) ∧ (p < 0 → q ≤ 0 → r < 0) ∧ (p ≤ 0 → q < 0 → r < 0) ∧ (0 ≤ p → 0 ≤ q → 0 ≤ r) ∧ (0 < p → 0 ≤ q → 0 < r) ∧ (0 ≤ p → 0 < q → 0 < r)
def xH (k n : Int) (s : List UInt8) (m : Nat) : Bool :=
 if k = 1 then decide (-576460752303423488 ≤ n) && (decide (n ≤ 576460752303423487) && (decide (s = []) && decide (m = 0)))
 else if k = 2 then decide (n = 0) && (decide (s.length ≤ 64) && decide (m = 0))
 else if k = 3 then decide (0 ≤ n) && (decide (n ≤ 1073741824) && (decide (s = []) && decide (m = 0)))
 else if k = 4 then decide (0 ≤ n) && (decide (n ≤ 1073741824) && (decide (s = []) && decide (m = 0)))
 else if k = 6 then decide (0 ≤ n) && (decide (n ≤ 1073741824) && (decide (s = []) && decide (m = 0)))
 else if k = 5 then decide (0 ≤ n) && (decide (n ≤ 1073741824) && (decide (s = []) && decide (m ≤ 64)))
 else if k = 7 then decide (n = 0) && (decide (s = []) && decide (m ≤ 64))
 else if k = 8 then decide (n = 0) && (decide (s = []) && decide (m = 0))
 else if k = 9 then decide (n = 0) && (decide (s = []) && decide (m = 2))
 else false
def Tm.sound (t : Tm) : Bool := xH t.kind t.num t.str t.subs.length
def Tm.own (t : Tm) : Nat := if t.kind = 7 ∨ t.kind = 5 then 2 else 1
theorem xT (a b : Bool) : (bif a then some (AV.bool b) else some (AV.bool false)) = some (.bool (a && b)) := by cases a <;> rfl
theorem qr5 (s : List UInt8) : (s == []) = decide (s = []) := by cases s <;> simp
theorem beqI (a b : Int) : (a == b) = decide (a = b) := by simp [beqD]
mutual
/-- may all parts of a term be? -/
def Tm.parts : Tm → Bool
 | .mk k n s l => xH k n s l.length && vB l
def vB : List Tm → Bool
 | [] => true
 | t :: l => t.parts && vB l
end
mutual
/-- how many words all parts have -/
def Tm.words : Tm → Nat
 | .mk k n s l => (Tm.mk k n s l).own + qU l
def qU : List Tm → Nat
 | [] => 0
 | t :: l => t.words + qU l
end
theorem Tm.parts_eq (t : Tm) : t.parts = (t.sound && vB t.subs) := by cases t; rw [Tm.parts]; rfl
theorem Tm.words_eq (t : Tm) : t.words = t.own + qU t.subs := by cases t; rw [Tm.words]; rfl
theorem qaY (a b : List Tm) : vB (a ++ b) = (vB a && vB b) := by
 induction a with
 | nil => simp [vB]
 | cons x l ih => simp [vB, ih, Bool.and_assoc]
theorem qdJ (a b : List Tm) : qU (a ++ b) = qU a + qU b := by
 induction a with
 | nil => simp [qU]
 | cons x l ih => simp [qU, ih]; omega
theorem qnt (a : List Tm) : vB a.reverse = vB a := by
 induction a with
 | nil => rfl
 | cons x l ih => simp [qaY, vB, ih, Bool.and_comm]
theorem qmP (a : List Tm) : qU a.reverse = qU a := by
 induction a with
 | nil => rfl
 | cons x l ih => simp [qdJ, qU, ih]; omega
theorem Tm.own_le (t : Tm) : t.own ≤ 2 ∧ 1 ≤ t.own := by unfold Tm.own; split <;> omega
def chkS (R : List Tm) (wd : Nat) : Int := if vB R then (if 65536 < wd + qU R then 3 else 0) else 2
def Tm.chk (t : Tm) : Int := chkS [t] 0
theorem qqf {R : List Tm} {x : Tm} {wd : Nat} (h : x.sound = false) : chkS (R ++ [x]) wd = 2 := by
 unfold chkS
 rw [qaY]
 simp [vB, Tm.parts_eq, h]
theorem qiQ {R : List Tm} {x : Tm} {wd : Nat} (h : x.sound = true) : chkS (R ++ x.subs.reverse) (wd + x.own) = chkS (R ++ [x]) wd := by
 unfold chkS
 simp only [qaY, qnt, qdJ, qmP, vB, qU, Tm.parts_eq, Tm.words_eq, h, Bool.true_and, Bool.and_true]
 have : wd + x.own + (qU R + qU x.subs) = wd + (qU R + (x.own + qU x.subs + 0)) := by omega
 rw [this]
theorem qoA {k n : Int} {s : Bz} {m : Nat} (h : xH k n s m = true) : -576460752303423488 ≤ n ∧ n ≤ 576460752303423487 := by
 unfold xH at h
 split at h
 ·simp only [qsz, decide_eq_true_eq] at h; omega
 split at h
 ·simp only [qsz, decide_eq_true_eq] at h; omega
 split at h
 ·simp only [qsz, decide_eq_true_eq] at h; omega
 split at h
 ·simp only [qsz, decide_eq_true_eq] at h; omega
 split at h
 ·simp only [qsz, decide_eq_true_eq] at h; omega
 split at h
 ·simp only [qsz, decide_eq_true_eq] at h; omega
 split at h
 ·simp only [qsz, decide_eq_true_eq] at h; omega
 split at h
 ·simp only [qsz, decide_eq_true_eq] at h; omega
 split at h
 ·simp only [qsz, decide_eq_true_eq] at h; omega
 ·cases h
def comL : List Bz → Bz
 | [] => []
 | x :: l => 44 :: (x ++ comL l)
def sepL : List Bz → Bz
 | [] => []
 | x :: l => x ++ comL l
def mkP (k n : Int) (s : Bz) (ps : List (Bz × Bz)) : Bz × Bz :=
 let tx : Bz :=
  if k = 1 then vW n
  else if k = 2 then (if qaP s then s else zd s)
  else if k = 3 then [35, 82, 101, 102, 60] ++ vW n ++ [62]
  else if k = 4 then [35, 84, 105, 100, 60] ++ vW n ++ [62]
  else if k = 6 then [60, 48, 46] ++ vW n ++ [46, 48, 62]
  else if k = 5 then [35, 70, 117, 110, 60] ++ vW n ++ comL (ps.map (·.1)) ++ [62]
  else if k = 7 then [123] ++ sepL (ps.map (·.1)) ++ [125]
  else if k = 9 then 91 :: ((ps.getD 0 ([], [])).1 ++ (ps.getD 1 ([], [])).2)
  else [91, 93]
 (tx, if k = 9 then 44 :: ((ps.getD 0 ([], [])).1 ++ (ps.getD 1 ([], [])).2) else if k = 8 then [93] else 124 :: (tx ++ [93]))
mutual
def zS : Tm → Bz × Bz
 | .mk k n s l => mkP k n s (vM l)
def vM : List Tm → List (Bz × Bz)
 | [] => []
 | t :: l => zS t :: vM l
end
def xg (t : Tm) : Bz := (zS t).1
def qaz (t : Tm) : Bz := (zS t).2
theorem qf0 : ∀ (k u : Nat), (decF k u).length ≤ k
 | 0, _ => by simp [decF]
 | k + 1, u => by
  rw [decF]
  split
  ·simp
  ·have := qf0 k (u / 10); simp; omega
theorem qez (n : Int) : (vW n).length ≤ 21 := by
 unfold vW
 split
 ·have := qf0 20 n.natAbs; simp; omega
 ·have := qf0 20 n.toNat; omega
theorem qcq (s : Bz) : (zd s).length ≤ 4 * s.length + 2 := by
 have := qbK s
 simp [zd] at *
 omega
theorem qf1 : ∀ (l : List Tm), (∀ t ∈ l, (xg t).length ≤ 290 * t.words) → (comL ((vM l).map (·.1))).length ≤ 290 * qU l + l.length
 | [], _ => by simp [vM, comL]
 | t :: l, h => by
  have h1 := qf1 l fun x hx => h x (by simp [hx])
  have h2 := h t (by simp)
  unfold xg at h2
  simp only [vM, List.map_cons, comL, qsQ, qsR, qU]
  omega
theorem qjV (l : List Bz) : (sepL l).length ≤ (comL l).length := by
 cases l <;> simp [sepL, comL]
theorem qfK (t : Tm) : t.parts = true → (xg t).length ≤ 290 * t.words ∧ (qaz t).length ≤ 290 * t.words + 10 := by
 induction t using Tm.ind with
 | _ k n s l ih =>
  intro hp
  rw [Tm.parts, qsz] at hp
  obtain ⟨a1, a2⟩ := hp
  have a3 : ∀ t ∈ l, t.parts = true := by
   clear ih a1
   induction l with
   | nil => simp
   | cons x l ih => simp only [vB, qsz] at a2; intro t ht; rcases qsV.1 ht with rfl | ht; exact a2.1; exact ih a2.2 t ht
  have ih1 : ∀ t ∈ l, (xg t).length ≤ 290 * t.words := fun t ht => (ih t ht (a3 t ht)).1
  have hc := qf1 l ih1
  have hs := qjV ((vM l).map (·.1))
  have hi := qez n
  have hq := qcq s
  rw [Tm.words]
  unfold xg qaz Tm.own
  rw [zS]
  unfold mkP
  simp only [Tm.kind]
  by_cases k9 : k = 9
  ·subst k9
   simp [xH] at a1
   match l, a1.2.2, ih, a3 with
   | [a, d], _, ih, a3 =>
    have q1 := (ih a (by simp) (a3 a (by simp))).1
    have q2 := (ih d (by simp) (a3 d (by simp))).2
    unfold xg at q1
    unfold qaz at q2
    simp [vM, qU]
    omega
  by_cases k8 : k = 8
  ·subst k8; simp; omega
  by_cases k7 : k = 7
  ·subst k7
   simp [xH] at a1
   simp
   omega
  by_cases k5 : k = 5
  ·subst k5
   simp [xH] at a1
   simp
   omega
  by_cases k2 : k = 2
  ·subst k2
   simp [xH] at a1
   simp
   split <;> constructor <;> omega
  by_cases k1 : k = 1
  ·subst k1; simp; omega
  by_cases k3 : k = 3
  ·subst k3; simp; omega
  by_cases k4 : k = 4
  ·subst k4; simp; omega
  by_cases k6 : k = 6
  ·subst k6; simp; omega
  ·simp [xH, k1, k2, k3, k4, k5, k6, k7, k8, k9] at a1
end Go.Av
end
section
namespace Go.Proofs.YtkohdkldmpiiiaaGreatDoor
open Go.Av
noncomputable def qpt : Den := evC cfg (EV cfg) 88 none 5 (sub (qx Tryz.f88) [1, 0, 0])
noncomputable def qpw : Ex × List AV × AH → Option AV := kAft (Cfg.keepOut cfg 88 (qd (sub (qx Tryz.f88) [1, 0, 0]))) (xY 0 (qad cfg (Cfg.lift cfg 88 0) (fun (v : AV) (H : AH) => (fun (r : AV × AH) => qb9 0 4 (fx 17 [(2, AV.ptr 1 0 0), (3, AV.ptr 2 0 0)]) (xY 0 (kSeq (fun (fr : List AV) (H : AH) => qae (Cfg.cut cfg 21 (qd (sub (qx Tryz.f21) [1, 1, 1]))) fr H fun (fr : List AV) (H : AH) => vh cfg (EV cfg) (kfN cfg 6) 21 none 0 (sub (qx Tryz.f21) [1, 1, 1]) fr H (qbc cfg (Cfg.lift cfg 21 0) (Array.toList (Func.results Tryz.f21)))) (qbc cfg (Cfg.lift cfg 21 0) (Array.toList (Func.results Tryz.f21))))) (Prod.snd r)) (v, H)) (Array.toList (Func.results (Prod.snd (88, Tryz.f88))))))
noncomputable def qr9 : List AV × AH → Option AV := fun (p : List AV × AH) => kOpt (LOOP 5 (some [0, 3]) [(3, 4)] qpt p) qpw
noncomputable def qsc : Den := evC cfg (EV cfg) 101 none 10 (sub (qx Tryz.f101) [1, 0, 0])
noncomputable def qsg : Ex × List AV × AH → Option AV := kAft (Cfg.keepOut cfg 101 (qd (sub (qx Tryz.f101) [1, 0, 0]))) (xY 0 (qad cfg (Cfg.lift cfg 101 0) (fun (v : AV) (H : AH) => (fun (r : AV × AH) => qb9 5 9 (fx 38 [(0, AV.yld 4), (3, AV.ptr 5 0 0)]) (xY 2 (xY 1 (kLp 5 (some [0, 3]) [(3, 4)] qpt qpw))) (Prod.snd r)) (v, H)) (Array.toList (Func.results (Prod.snd (101, Tryz.f101))))))
noncomputable def qpr : List AV × AH → Option AV := fun (p : List AV × AH) => kOpt (LOOP 10 (some [0, 1, 3]) [] qsc p) qsg
noncomputable abbrev qbv (c0_0 c0_1 : Int) (c0_2 : Bz) (c0_3 : Rz) (c1_0 c2_0 c3_0 c3_1 : Int) (c3_2 : Bz) (c3_3 : Rz) (nc5_0 : Nat) (h6 : Rz) : Option (AV) := qr9  (((fx 38 [(0, .yld 4), (3, .ptr 5 0 0)]) : List AV), ([.rows false 4 [[.int .i64 c0_0, .int .i64 c0_1, .str c0_2, .sl c0_3]], .rows false 1 [[.int .i64 c1_0]], .rows false 1 [[.int .i64 c2_0]], .rows false 4 [[.int .i64 c3_0, .int .i64 c3_1, .str c3_2, .sl c3_3]], rngB Tryz.f21 21 [1, 1, 0, 1, 0] (fx 17 [(2, .ptr 1 0 0), (3, .ptr 2 0 0)]) none LoopState.ready, .rows false 1 [[.ms 6 0 nc5_0]], .rows true 4 h6] : AH))
noncomputable abbrev qjC (v3 c0_0 c0_1 : Int) (c0_2 : Bz) (c0_3 : Rz) (c1_0 c2_0 c3_0 c3_1 : Int) (c3_2 : Bz) (c3_3 : Rz) (nc5_0 : Nat) (h6 : Rz) (c7_0 c7_1 : Int) (c7_2 : Bz) (c7_3 c8_0 : Rz) : Option (AV) := qpr  (((fx 19 [(0, .yld 9), (1, .ptr 8 0 0), (3, .int .i64 v3)]) : List AV), ([.rows false 4 [[.int .i64 c0_0, .int .i64 c0_1, .str c0_2, .sl c0_3]], .rows false 1 [[.int .i64 c1_0]], .rows false 1 [[.int .i64 c2_0]], .rows false 4 [[.int .i64 c3_0, .int .i64 c3_1, .str c3_2, .sl c3_3]], rngB Tryz.f21 21 [1, 1, 0, 1, 0] (fx 17 [(2, .ptr 1 0 0), (3, .ptr 2 0 0)]) none LoopState.ready, .rows false 1 [[.ms 6 0 nc5_0]], .rows true 4 h6, .rows false 4 [[.int .i64 c7_0, .int .i64 c7_1, .str c7_2, .sl c7_3]], .rows false 1 [[.sl c8_0]], rngB Tryz.f88 88 [1, 0, 0, 1, 0, 1, 1, 1, 1, 0] (fx 38 [(3, .ptr 5 0 0)]) none LoopState.ready] : AH))
noncomputable abbrev qhR (v3 c0_0 c0_1 : Int) (c0_2 : Bz) (c0_3 : Rz) (c1_0 c2_0 c3_0 c3_1 : Int) (c3_2 : Bz) (c3_3 : Rz) (nc5_0 : Nat) (c7_0 c7_1 : Int) (c7_2 : Bz) (c7_3 c8_0 h10 : Rz) : Option (AV) := qpr  (((fx 19 [(0, .yld 9), (1, .ptr 8 0 0), (3, .int .i64 v3)]) : List AV), ([.rows false 4 [[.int .i64 c0_0, .int .i64 c0_1, .str c0_2, .sl c0_3]], .rows false 1 [[.int .i64 c1_0]], .rows false 1 [[.int .i64 c2_0]], .rows false 4 [[.int .i64 c3_0, .int .i64 c3_1, .str c3_2, .sl c3_3]], rngB Tryz.f21 21 [1, 1, 0, 1, 0] (fx 17 [(2, .ptr 1 0 0), (3, .ptr 2 0 0)]) none LoopState.ready, .rows false 1 [[.ms 10 0 nc5_0]], .dead, .rows false 4 [[.int .i64 c7_0, .int .i64 c7_1, .str c7_2, .sl c7_3]], .rows false 1 [[.sl c8_0]], rngB Tryz.f88 88 [1, 0, 0, 1, 0, 1, 1, 1, 1, 0] (fx 38 [(3, .ptr 5 0 0)]) none LoopState.ready, .rows true 4 h10] : AH))
noncomputable abbrev zh4 (kt : Int) (lt : Rz) : Option (AV) := bif kt == 5 then some (.bool (decide ((lt.length : Int) ≤ 64))) else some (.bool false)
noncomputable abbrev zh3 (lt : Rz) (kt : Int) : Option (AV) := bif (lt.length : Int) == 0 then some (.bool true) else zh4 kt lt
noncomputable abbrev zh2 (st : Bz) (lt : Rz) (kt : Int) : Option (AV) := bif st == [] then zh3 lt kt else some (.bool false)
noncomputable abbrev zh1 (nt : Int) (st : Bz) (lt : Rz) (kt : Int) : Option (AV) := bif decide (nt ≤ 1073741824) then zh2 st lt kt else some (.bool false)
noncomputable abbrev zh0 (nt : Int) (st : Bz) (lt : Rz) (kt : Int) : Option (AV) := bif decide (nt ≥ 0) then zh1 nt st lt kt else some (.bool false)
theorem qhX (kt nt : Int) (st : Bz) (lt : Rz) {P : AV → Prop} (h : Gets (bif kt == 1 then bif decide (nt ≥ (- 576460752303423488)) then bif decide (nt ≤ 576460752303423487) then bif st == [] then some (.bool ((lt.length : Int) == 0)) else some (.bool false) else some (.bool false) else some (.bool false) else bif kt == 2 then bif nt == 0 then bif decide ((st.length : Int) ≤ 64) then some (.bool ((lt.length : Int) == 0)) else some (.bool false) else some (.bool false) else bif kt == 3 then bif decide (nt ≥ 0) then bif decide (nt ≤ 1073741824) then bif st == [] then bif (lt.length : Int) == 0 then some (.bool true) else bif kt == 5 then some (.bool (decide ((↑ (qsO lt) : Int) ≤ 64))) else some (.bool false) else some (.bool false) else some (.bool false) else some (.bool false) else bif kt == 4 then zh0 nt st lt kt else bif kt == 6 then zh0 nt st lt kt else bif kt == 5 then zh0 nt st lt kt else bif kt == 7 then bif nt == 0 then bif st == [] then some (.bool (decide ((lt.length : Int) ≤ 64))) else some (.bool false) else some (.bool false) else bif kt == 8 then bif nt == 0 then bif st == [] then some (.bool ((lt.length : Int) == 0)) else some (.bool false) else some (.bool false) else bif kt == 9 then bif nt == 0 then bif st == [] then some (.bool ((lt.length : Int) == 2)) else some (.bool false) else some (.bool false) else some (.bool false)) P) : Gets (EVs (EV cfg) 50 [.agg [.int .i64 kt, .int .i64 nt, .str st, .sl lt]]) P :=
  gE (fun _ => funS rfl rfl Tryz.func50 rfl) (by kernel_rfl) h
theorem qjM (kt nt : Int) (st : Bz) (lt : Rz) {P : AV → Prop} (h : Gets (bif kt == 7 then some (.int .i64 2) else bif kt == 5 then some (.int .i64 2) else some (.int .i64 1)) P) : Gets (EVs (EV cfg) 51 [.agg [.int .i64 kt, .int .i64 nt, .str st, .sl lt]]) P :=
  gE (fun _ => funS rfl rfl Tryz.func51 rfl) (by kernel_rfl) h
theorem qhY (kt nt : Int) (st : Bz) (lt : Rz) {P : AV → Prop} (h : Gets (qbv kt nt st lt 0 0 kt nt st lt 1 [[.int .i64 kt, .int .i64 nt, .str st, .sl lt]]) P) : Gets (EVs (EV cfg) 21 [.agg [.int .i64 kt, .int .i64 nt, .str st, .sl lt]]) P :=
  gE (fun _ => funS rfl rfl Tryz.func21 rfl) (by kernel_rfl) h
theorem qck (c0_0 c0_1 : Int) (c0_2 : Bz) (c0_3 : Rz) (c1_0 c2_0 c3_0 c3_1 : Int) (c3_2 : Bz) (c3_3 : Rz) (nc5_0 : Nat) (h6 : Rz) {P : AV → Prop} (h : Gets (bif decide ((↑ nc5_0 : Int) > 0) then bif qe 0 (IntKind.wrap .i64 ((↑ nc5_0 : Int) - 1)) && qT (IntKind.wrap .i64 ((↑ nc5_0 : Int) - 1)) (↑ nc5_0 : Int) then kOpt (qsH h6 (0 + Int.toNat (IntKind.wrap .i64 ((↑ nc5_0 : Int) - 1)))) fun row => bif qs0 4 (qsO row) then kTmC (qs6 4 row) fun n n_1 s rows => (bif qe 0 (IntKind.wrap .i64 ((↑ nc5_0 : Int) - 1)) && qe (IntKind.wrap .i64 ((↑ nc5_0 : Int) - 1)) (↑ nc5_0 : Int) then kOpt (EVs (EV cfg) 50 [.agg [.int .i64 n, .int .i64 n_1, .str s, .sl rows]]) fun v => qO v fun b => bif ! b then some (.int .i64 2) else kOpt (EVs (EV cfg) 51 [.agg [.int .i64 n, .int .i64 n_1, .str s, .sl rows]]) fun v => kInt .i64 v fun n_2 => qjC (IntKind.wrap .i64 ((↑ (qsO rows) : Int) - 1)) c0_0 c0_1 c0_2 c0_3 c1_0 (IntKind.wrap .i64 (c2_0 + n_2)) c3_0 c3_1 c3_2 c3_3 (Int.toNat (IntKind.wrap .i64 ((↑ nc5_0 : Int) - 1)) - 0) h6 n n_1 s rows rows else none) else none else none else bif decide (c2_0 > 65536) then some (.int .i64 3) else some (.int .i64 0)) P) : Gets (qbv c0_0 c0_1 c0_2 c0_3 c1_0 c2_0 c3_0 c3_1 c3_2 c3_3 nc5_0 h6) P :=
  gE (fun _ => q7 (cfg := cfg) (f := 88) (rd := none) (bs := 5)) (by kernel_rfl) h
noncomputable abbrev zh10 (row : List AV) (nc5_0 : Nat) (h6 : Rz) (v3 c0_0 c0_1 : Int) (c0_2 : Bz) (c0_3 : Rz) (c1_0 c2_0 c3_0 c3_1 : Int) (c3_2 : Bz) (c3_3 : Rz) (c7_0 c7_1 : Int) (c7_2 : Bz) (c7_3 c8_0 : Rz) : Option (AV) := kTmC (qs6 4 row) fun n n_1 s rows => (bif qs0 (0 + nc5_0) (qsO h6) && vD (nc5_0 + 1) 56 then bif qe 0 (↑ nc5_0 : Int) && qT (↑ nc5_0 : Int) (↑ (nc5_0 + 1) : Int) then kOpt (qsH (List.append (qs6 nc5_0 h6) [[.int .i64 0, .int .i64 0, .str [], .nilS]]) (0 + Int.toNat (↑ nc5_0 : Int))) fun row => bif qs0 4 (qsO row) then qhR (IntKind.wrap .i64 (v3 - (1 : Int))) c0_0 c0_1 c0_2 c0_3 c1_0 c2_0 c3_0 c3_1 c3_2 c3_3 (nc5_0 + 1) c7_0 c7_1 c7_2 c7_3 c8_0 (List.set (List.append (qs6 nc5_0 h6) [[.int .i64 0, .int .i64 0, .str [], .nilS]]) (0 + Int.toNat (↑ nc5_0 : Int)) (.int .i64 n :: .int .i64 n_1 :: .str s :: .sl rows :: List.drop 4 row)) else none else none else none)
noncomputable abbrev zh9 (row : List AV) (nc5_0 : Nat) (h6 : Rz) (v3 c0_0 c0_1 : Int) (c0_2 : Bz) (c0_3 : Rz) (c1_0 c2_0 c3_0 c3_1 : Int) (c3_2 : Bz) (c3_3 : Rz) (c7_0 c7_1 : Int) (c7_2 : Bz) (c7_3 c8_0 : Rz) : Option (AV) := bif qs0 4 (qsO row) then zh10 row nc5_0 h6 v3 c0_0 c0_1 c0_2 c0_3 c1_0 c2_0 c3_0 c3_1 c3_2 c3_3 c7_0 c7_1 c7_2 c7_3 c8_0 else none
noncomputable abbrev zh8 (row : List AV) (nc5_0 : Nat) (h6 : Rz) (v3 c0_0 c0_1 : Int) (c0_2 : Bz) (c0_3 : Rz) (c1_0 c2_0 c3_0 c3_1 : Int) (c3_2 : Bz) (c3_3 : Rz) (c7_0 c7_1 : Int) (c7_2 : Bz) (c7_3 c8_0 : Rz) : Option (AV) := bif qsL (qsO row) 4 then zh9 row nc5_0 h6 v3 c0_0 c0_1 c0_2 c0_3 c1_0 c2_0 c3_0 c3_1 c3_2 c3_3 c7_0 c7_1 c7_2 c7_3 c8_0 else none
noncomputable abbrev zh7 (c8_0 : Rz) (v3 : Int) (nc5_0 : Nat) (h6 : Rz) (c0_0 c0_1 : Int) (c0_2 : Bz) (c0_3 : Rz) (c1_0 c2_0 c3_0 c3_1 : Int) (c3_2 : Bz) (c3_3 : Rz) (c7_0 c7_1 : Int) (c7_2 : Bz) (c7_3 : Rz) : Option (AV) := kOpt (qsH c8_0 (v3.toNat)) fun row => zh8 row nc5_0 h6 v3 c0_0 c0_1 c0_2 c0_3 c1_0 c2_0 c3_0 c3_1 c3_2 c3_3 c7_0 c7_1 c7_2 c7_3 c8_0
noncomputable abbrev zh6 (v3 : Int) (c8_0 : Rz) (nc5_0 : Nat) (h6 : Rz) (c0_0 c0_1 : Int) (c0_2 : Bz) (c0_3 : Rz) (c1_0 c2_0 c3_0 c3_1 : Int) (c3_2 : Bz) (c3_3 : Rz) (c7_0 c7_1 : Int) (c7_2 : Bz) (c7_3 : Rz) : Option (AV) := bif qe 0 v3 && qT v3 (c8_0.length : Int) then zh7 c8_0 v3 nc5_0 h6 c0_0 c0_1 c0_2 c0_3 c1_0 c2_0 c3_0 c3_1 c3_2 c3_3 c7_0 c7_1 c7_2 c7_3 else none
noncomputable abbrev zh5 (v3 : Int) (c8_0 : Rz) (nc5_0 : Nat) (h6 : Rz) (c0_0 c0_1 : Int) (c0_2 : Bz) (c0_3 : Rz) (c1_0 c2_0 c3_0 c3_1 : Int) (c3_2 : Bz) (c3_3 : Rz) (c7_0 c7_1 : Int) (c7_2 : Bz) (c7_3 : Rz) : Option (AV) := bif decide (v3 ≥ 0) then zh6 v3 c8_0 nc5_0 h6 c0_0 c0_1 c0_2 c0_3 c1_0 c2_0 c3_0 c3_1 c3_2 c3_3 c7_0 c7_1 c7_2 c7_3 else qbv c0_0 c0_1 c0_2 c0_3 c1_0 c2_0 c3_0 c3_1 c3_2 c3_3 nc5_0 h6
theorem qle (v3 c0_0 c0_1 : Int) (c0_2 : Bz) (c0_3 : Rz) (c1_0 c2_0 c3_0 c3_1 : Int) (c3_2 : Bz) (c3_3 : Rz) (nc5_0 : Nat) (h6 : Rz) (c7_0 c7_1 : Int) (c7_2 : Bz) (c7_3 c8_0 : Rz) {P : AV → Prop} (h : Gets (zh5 v3 c8_0 nc5_0 h6 c0_0 c0_1 c0_2 c0_3 c1_0 c2_0 c3_0 c3_1 c3_2 c3_3 c7_0 c7_1 c7_2 c7_3) P) : Gets (qjC v3 c0_0 c0_1 c0_2 c0_3 c1_0 c2_0 c3_0 c3_1 c3_2 c3_3 nc5_0 h6 c7_0 c7_1 c7_2 c7_3 c8_0) P :=
  gE (fun _ => q7 (cfg := cfg) (f := 101) (rd := none) (bs := 10)) (by kernel_rfl) h
theorem qd2 (v3 c0_0 c0_1 : Int) (c0_2 : Bz) (c0_3 : Rz) (c1_0 c2_0 c3_0 c3_1 : Int) (c3_2 : Bz) (c3_3 : Rz) (nc5_0 : Nat) (c7_0 c7_1 : Int) (c7_2 : Bz) (c7_3 c8_0 h10 : Rz) {P : AV → Prop} (h : Gets (zh5 v3 c8_0 nc5_0 h10 c0_0 c0_1 c0_2 c0_3 c1_0 c2_0 c3_0 c3_1 c3_2 c3_3 c7_0 c7_1 c7_2 c7_3) P) : Gets (qhR v3 c0_0 c0_1 c0_2 c0_3 c1_0 c2_0 c3_0 c3_1 c3_2 c3_3 nc5_0 c7_0 c7_1 c7_2 c7_3 c8_0 h10) P :=
  gE (fun _ => q7 (cfg := cfg) (f := 101) (rd := none) (bs := 10)) (by kernel_rfl) h
end Go.Proofs.YtkohdkldmpiiiaaGreatDoor
end
section
namespace Go.Av
end Go.Av
namespace Go.Proofs.YtkohdkldmpiiiaaGreatDoor
open Go.Av
theorem qpf {n : Nat} (h : n ≤ 1099511627776) : vD n 56 = true := by
 unfold vD
 rw [qsz, Nat.ble_eq, Nat.ble_eq]
 omega
theorem qpG (t : Tm) : EVs (EV cfg) 50 [t.av] = some (.bool t.sound) := by
 obtain ⟨k, n, s, l⟩ := t
 apply Gets.get
 rw [Tm.av_mk]
 refine qhX _ _ _ _ ?_
 unfold zh0 zh1 zh2 zh3 zh4
 simp only [Tm.sound, Tm.kind_mk, Tm.num_mk, Tm.str_mk, Tm.subs_mk, yq, beqI, qr5, xH]
 by_cases h1 : k = 1
 ·subst h1; simp [xT] <;> (try rw [Bool.eq_iff_iff]) <;> (try simp) <;> first | omega | grind
 by_cases h2 : k = 2
 ·subst h2; simp [xT] <;> (try rw [Bool.eq_iff_iff]) <;> (try simp) <;> first | omega | grind
 by_cases h3 : k = 3
 ·subst h3; simp [xT] <;> (try rw [Bool.eq_iff_iff]) <;> (try simp) <;> first | omega | grind
 by_cases h4 : k = 4
 ·subst h4; simp [xT] <;> (try rw [Bool.eq_iff_iff]) <;> (try simp) <;> first | omega | grind
 by_cases h6 : k = 6
 ·subst h6; simp [xT] <;> (try rw [Bool.eq_iff_iff]) <;> (try simp) <;> first | omega | grind
 by_cases h5 : k = 5
 ·subst h5
  cases l with
  | nil => simp [xT] <;> (try rw [Bool.eq_iff_iff]) <;> (try simp) <;> first | omega | grind
  | cons x l =>
   have hx : ¬ ((l.length : Int) + 1 = 0) := by omega
   simp [hx, xT] <;> (try rw [Bool.eq_iff_iff]) <;> (try simp) <;> first | omega | grind
 by_cases h7 : k = 7
 ·subst h7; simp [xT] <;> (try rw [Bool.eq_iff_iff]) <;> (try simp) <;> first | omega | grind
 by_cases h8 : k = 8
 ·subst h8; simp [xT] <;> (try rw [Bool.eq_iff_iff]) <;> (try simp) <;> first | omega | grind
 by_cases h9 : k = 9
 ·subst h9; simp [xT] <;> (try rw [Bool.eq_iff_iff]) <;> (try simp) <;> first | omega | grind
 simp [h1, h2, h3, h4, h5, h6, h7, h8, h9]
theorem qrU (t : Tm) : EVs (EV cfg) 51 [t.av] = some (.int .i64 t.own) := by
 obtain ⟨k, n, s, l⟩ := t
 apply Gets.get
 rw [Tm.av_mk]
 refine qjM _ _ _ _ ?_
 simp only [Tm.own, Tm.kind_mk, beqI]
 by_cases h7 : k = 7
 ·simp [h7]
 ·by_cases h5 : k = 5
  ·simp [h5]
  ·simp [h7, h5]
theorem qqj (l : List (List AV)) (z : List AV) : (l ++ [z])[l.length]? = some z := by simp
theorem qqi (l : List (List AV)) (z c : List AV) : (l ++ [z]).set l.length c = l ++ [c] := by simp
theorem qoM {t x : Tm} (hx : x.subs.length < 1099511627776) {wd : Int} {P : AV → Prop} : ∀ (j : Nat) (R : List Tm), j ≤ x.subs.length → R.length + j < 1099511627776 →
  Gets (qbv t.kind t.num t.str (qn t.subs) 0 wd t.kind t.num t.str (qn t.subs) (R.length + j) (qn (R ++ (x.subs.take j).reverse))) P →
  Gets (qhR ((j : Int) - 1) t.kind t.num t.str (qn t.subs) 0 wd t.kind t.num t.str (qn t.subs) R.length x.kind x.num x.str (qn x.subs) (qn x.subs) (qn R)) P
 | 0, R, _, _, h => by
  refine qd2 _ _ _ _ _ _ _ _ _ _ _ _ _ _ _ _ _ _ ?_
  unfold zh5 zh6 zh7 zh8 zh9 zh10
  simpa using h
 | j + 1, R, hj, hR, h => by
  have ih := qoM (t := t) hx (wd := wd) (P := P) j (R ++ [x.subs[j]]) (by omega) (by simp; omega)
  have e1 : x.subs.take (j + 1) = x.subs.take j ++ [x.subs[j]] := by rw [List.take_add_one, qsD (by omega)]; rfl
  have e4 : R ++ (x.subs.take j ++ [x.subs[j]]).reverse = R ++ x.subs[j] :: (x.subs.take j).reverse := by rw [List.reverse_append]; rfl
  rw [e1, e4, show R.length + (j + 1) = R.length + 1 + j by omega] at h
  refine qd2 _ _ _ _ _ _ _ _ _ _ _ _ _ _ _ _ _ _ ?_
  unfold zh5 zh6 zh7 zh8 zh9 zh10
  have hw : IntKind.wrap .i64 ((j : Int) - 1) = (j : Int) - 1 := qcH (by omega) (by omega)
  have hjl : j < x.subs.length := by omega
  have e2 : ((j + 1 : Nat) : Int) - 1 = j := by omega
  rw [e2]
  have ht : qs6 R.length (qn R) = qn R := List.take_of_length_le (by simp)
  have g0 := qqj (qn R) [.int .i64 0, .int .i64 0, .str [], .nilS]
  have s0 := qqi (qn R) [.int .i64 0, .int .i64 0, .str [], .nilS] x.subs[j].cells
  rw [yq] at g0 s0
  simp [hjl, hw, qpf (show R.length + 1 ≤ 1099511627776 by omega), ht] at ih ⊢
  exact ih h
theorem qrT {t x : Tm} (hx : x.subs.length < 1099511627776) {wd : Int} {P : AV → Prop} {R : List Tm} {Z : List (List AV)} (hR : R.length + x.subs.length < 1099511627776)
  (h0 : x.subs = [] → Gets (qbv t.kind t.num t.str (qn t.subs) 0 wd t.kind t.num t.str (qn t.subs) R.length (qn R ++ Z)) P)
  (h : x.subs ≠ [] → Gets (qbv t.kind t.num t.str (qn t.subs) 0 wd t.kind t.num t.str (qn t.subs) (R ++ x.subs.reverse).length (qn (R ++ x.subs.reverse))) P) :
  Gets (qjC ((x.subs.length : Int) - 1) t.kind t.num t.str (qn t.subs) 0 wd t.kind t.num t.str (qn t.subs) R.length (qn R ++ Z) x.kind x.num x.str (qn x.subs) (qn x.subs)) P := by
 refine qle _ _ _ _ _ _ _ _ _ _ _ _ _ _ _ _ _ _ ?_
 unfold zh5 zh6 zh7 zh8 zh9 zh10
 rcases Nat.eq_zero_or_pos x.subs.length with hz | hp
 ·have hz' : x.subs = [] := List.length_eq_zero_iff.1 hz
  have := h0 hz'
  simpa [hz'] using this
 ·obtain ⟨j, hj⟩ : ∃ j, x.subs.length = j + 1 := ⟨x.subs.length - 1, by omega⟩
  have hne : x.subs ≠ [] := by intro e; rw [e] at hp; simp at hp
  have hjl : j < x.subs.length := by omega
  have e2 : (x.subs.length : Int) - 1 = j := by omega
  have hw : IntKind.wrap .i64 ((j : Int) - 1) = (j : Int) - 1 := qcH (by omega) (by omega)
  have ht : qs6 R.length (qn R ++ Z) = qn R := by rw [List.take_append_of_le_length (by simp), List.take_of_length_le (by simp)]
  have e5 : x.subs = x.subs.take j ++ [x.subs[j]] := by
   have : x.subs.take (j + 1) = x.subs := List.take_of_length_le (by omega)
   rw [List.take_add_one, qsD hjl] at this
   exact this.symm
  have e6 : R ++ x.subs.reverse = R ++ [x.subs[j]] ++ (x.subs.take j).reverse := by
   conv => lhs; rw [e5]
   rw [List.reverse_append, List.append_assoc]; rfl
  have := qoM (t := t) hx (wd := wd) (P := P) j (R ++ [x.subs[j]]) (by omega) (by simp; omega) (by
   have h := h hne
   rw [e6] at h
   have e7 : (R ++ [x.subs[j]] ++ (x.subs.take j).reverse).length = (R ++ [x.subs[j]]).length + j := by
    rw [qsR, List.length_reverse, List.length_take]; omega
   rw [e7] at h
   exact h)
  rw [e2]
  simp at this
  simp [hjl, hw, qpf (show R.length + 1 ≤ 1099511627776 by omega), ht]
  exact this
theorem qrn {t : Tm} : ∀ (n : Nat) (R : List Tm) (Z : List (List AV)) (wd : Nat), wL R ≤ n → n < 1099511627776 → wd + 2 * wL R < 9007199254740992 →
  Gets (qbv t.kind t.num t.str (qn t.subs) 0 (wd : Int) t.kind t.num t.str (qn t.subs) R.length (qn R ++ Z)) (· = .int .i64 (chkS R wd)) := by
 intro n
 induction n with
 | zero =>
  intro R Z wd hn _ _
  have : R = [] := by
   have := qjF R
   exact List.length_eq_zero_iff.1 (by omega)
  subst this
  refine qck _ _ _ _ _ _ _ _ _ _ _ _ ?_
  by_cases h : 65536 < wd
  ·have h' : (65536 : Int) < wd := by omega
   simp [h, h', chkS, vB, qU]
  ·have h' : ¬ (65536 : Int) < wd := by omega
   simp [h, h', chkS, vB, qU]
 | succ n ih =>
  intro R Z wd hn hN hw
  rcases List.eq_nil_or_concat R with rfl | ⟨R0, x, rfl⟩
  ·refine qck _ _ _ _ _ _ _ _ _ _ _ _ ?_
   by_cases h : 65536 < wd
   ·have h' : (65536 : Int) < wd := by omega
    simp [h, h', chkS, vB, qU]
   ·have h' : ¬ (65536 : Int) < wd := by omega
    simp [h, h', chkS, vB, qU]
  ·rw [List.concat_eq_append] at *
   have hwx := x.w_eq
   have ho := x.own_le
   simp only [qd3, qq4, qrO] at hn hw
   have hl0 := qjF R0
   have hls := qjF x.subs
   have hsd := qpG x
   have how := qrU x
   refine qck _ _ _ _ _ _ _ _ _ _ _ _ ?_
   have e1 : (R0 ++ [x]).length = R0.length + 1 := by simp
   have hw1 : IntKind.wrap .i64 (R0.length : Int) = R0.length := qsm (by omega)
   have hw2 : IntKind.wrap .i64 ((wd : Int) + x.own) = ((wd + x.own : Nat) : Int) := by rw [qcH (by omega) (by omega)]; omega
   have hw3 : IntKind.wrap .i64 ((x.subs.length : Int) - 1) = (x.subs.length : Int) - 1 := qcH (by omega) (by omega)
   have g : (qn (R0 ++ [x]) ++ Z)[R0.length]? = some x.cells := by
    rw [qsK (by simp), qb3]; simp
   cases hs : x.sound with
   | false =>
    rw [hs] at hsd
    simp [e1, hw1, g, hsd, qqf hs]
   | true =>
    rw [hs] at hsd
    have e3 : qn (R0 ++ [x]) ++ Z = qn R0 ++ (x.cells :: Z) := by rw [qbz, List.append_assoc, zc, qaL]; rfl
    have := qrT (t := t) (x := x) (R := R0) (Z := x.cells :: Z) (wd := ((wd + x.own : Nat) : Int)) (P := (· = .int .i64 (chkS (R0 ++ [x]) wd))) (by omega) (by omega)
     (fun hz => by
      have := ih R0 (x.cells :: Z) (wd + x.own) (by omega) (by omega) (by omega)
      rw [← qiQ hs, hz, List.reverse_nil, List.append_nil]
      exact this)
     (fun hz => by
      have := ih (R0 ++ x.subs.reverse) [] (wd + x.own) (by rw [qd3, qoi]; omega) (by omega) (by rw [qd3, qoi]; omega)
      rw [← qiQ hs]
      rw [List.append_nil] at this
      exact this)
    simp only [e1, e3] at g ⊢
    simp only [Int.natCast_add] at hw2 this
    simp [hw1, hsd, how, hw2, hw3]
    exact this
theorem qqg {t : Tm} (h : t.w < 1099511627776) : EVs (EV cfg) 21 [t.av] = some (.int .i64 t.chk) := by
 have := qrn (t := t) _ [t] [] 0 (qsF _) (by simpa using h) (by simp; omega)
 apply Gets.get
 rw [Tm.av, Tm.cells_eq]
 refine qhY _ _ _ _ ?_
 rw [← Tm.cells_eq, qoH, Tm.chk]
 simpa using this
abbrev tW : TypeId := 53
abbrev tE : TypeId := 5
theorem wbK {b : UInt8} {s : List UInt8} {n : Int} {α : Type} (hn : n = (b.toNat : Int)) (hl : s.length < 140737488355328) (k : AV × List UInt8 → Option α) :
  kOpt (EVb (EV cfg) 54 [.ptr 0 0 0, .int .u8 n] tW tE s) k = k (.nilI, s ++ [b]) := by
 subst hn
 rw [qgi bldW b hl]; rfl
theorem wsK {t s : List UInt8} {α : Type} (hl : s.length + t.length ≤ 140737488355328) (k : AV × List UInt8 → Option α) :
  kOpt (EVb (EV cfg) 52 [.ptr 0 0 0, .str t] tW tE s) k = k (.tup [.int .i64 t.length, .nilI], s ++ t) := by
 rw [qmN bldW hl]; rfl
theorem zI {n : Nat} (h : n ≤ 9223372036854775807) : qs0 n 9223372036854775807 = true := by simp only [nble, decide_eq_true_eq]; exact h
def qeP (t : Tm) : Prop := ∀ b : List UInt8, b.length + 290 * t.words + 40 ≤ 10000000000000 → EVb (EV cfg) 22 [.ptr 0 0 0, t.av] tW tE b = some (.tup [], b ++ xg t)
def qeU (sep : List UInt8) (t : Tm) : List UInt8 := if t.kind = 9 then sep ++ (((vM t.subs).getD 0 ([], [])).1 ++ ((vM t.subs).getD 1 ([], [])).2) else qaz t
theorem qoo (t : Tm) : qeU [44] t = qaz t := by
 obtain ⟨k, n, s, l⟩ := t
 unfold qeU
 split
 ·rename_i h
  have h : k = 9 := h
  unfold qaz
  rw [zS]
  simp [mkP, h, Tm.subs]
 ·rfl
def qps (t : Tm) : Prop := ∀ (k n : Int) (s : List UInt8) (l : List Tm), t = .mk k n s l → ∀ (v : AV) (b sep : List UInt8), sep.length ≤ 1 → b.length + 290 * t.words + 60 ≤ 10000000000000 →
 Gets (qcC (v, b) sep k n s (qn l)) (fun r => r = (.tup [], b ++ qeU sep t))
theorem qns (l : List Tm) (hl : ∀ t ∈ l, qeP t) (hle : l.length < 1099511627776) (hp : ∀ t ∈ l, (xg t).length ≤ 290 * t.words) : ∀ (k i : Nat) (v : AV) (b : List UInt8), l.length - i = k → i ≤ l.length → b.length + 290 * qU (l.drop i) + (l.length - i) + 60 ≤ 10000000000000 →
  Gets (qeS (qn l) (v, b) (i : Int)) (fun r => r = (.tup [], b ++ comL ((vM (l.drop i)).map (·.1)) ++ [62])) := by
 intro k
 induction k with
 | zero =>
  intro i v b hk hi hb
  refine qdZ _ _ _ ?_
  have : i = l.length := by omega
  subst this
  rw [yq, decide_eq_false (show ¬ ((l.length : Int) < (l.length : Int)) by omega)]
  simp only [cond_false]
  rw [wbK (b := 62) (n := 62) rfl (by omega)]
  simp [vM, comL]
 | succ k ih =>
  intro i v b hk hi hb
  refine qdZ _ _ _ ?_
  have hlt : i < l.length := by omega
  obtain ⟨t, ht⟩ : ∃ t, l[i]? = some t := ⟨l[i], qsD hlt⟩
  have htm := qsN ht
  have hdrop : l.drop i = t :: l.drop (i + 1) := by
   rw [List.drop_eq_getElem_cons hlt]
   rw [qsD hlt] at ht
   cases ht; rfl
  rw [hdrop] at hb ⊢
  rw [qU] at hb
  rw [yq, decide_eq_true (show (i : Int) < (l.length : Int) by omega), xL, yZ, decide_eq_true hlt]
  simp only [cond_true, Bool.and_true]
  rw [qj5 ht]
  obtain ⟨kt, nt, st, lt⟩ := t
  rw [Tm.cells_mk]
  simp only [qsQ, List.length_nil, nbeq, nble, decide_true, cond_true, qs6, kTmC, qk, qm, qj, qaa, qq]
  rw [wbK (b := 44) (n := 44) rfl (by omega), ← Tm.av_mk]
  have h1 := hl _ htm (b ++ [44]) (by simp; omega)
  rw [h1]
  simp only [qa, yB hlt hle]
  have h2 := hp _ htm
  refine (ih (i + 1) _ _ (by omega) hlt (by simp only [qsR, qsQ, List.length_nil]; omega)).mono fun r hr => ?_
  rw [hr]
  simp [vM, comL, xg]
theorem qql (l : List Tm) (hl : ∀ t ∈ l, qeP t) (hle : l.length < 1099511627776) (hp : ∀ t ∈ l, (xg t).length ≤ 290 * t.words) : ∀ (k i : Nat) (b : List UInt8), l.length - i = k → i ≤ l.length → b.length + 290 * qU (l.drop i) + (l.length - i) + 60 ≤ 10000000000000 →
  Gets (qcD (qn l) b (i : Int)) (fun r => r = (.tup [], b ++ (if i = 0 then sepL else comL) ((vM (l.drop i)).map (·.1)))) := by
 intro k
 induction k with
 | zero =>
  intro i b hk hi hb
  refine qdX _ _ _ ?_
  have : i = l.length := by omega
  subst this
  rw [yq, decide_eq_false (show ¬ ((l.length : Int) < (l.length : Int)) by omega)]
  simp only [cond_false, xf, List.drop_length, vM, List.map_nil]
  split <;> simp [comL, sepL]
 | succ k ih =>
  intro i b hk hi hb
  refine qdX _ _ _ ?_
  have hlt : i < l.length := by omega
  obtain ⟨t, ht⟩ : ∃ t, l[i]? = some t := ⟨l[i], qsD hlt⟩
  have htm := qsN ht
  have hdrop : l.drop i = t :: l.drop (i + 1) := by
   rw [List.drop_eq_getElem_cons hlt]
   rw [qsD hlt] at ht
   cases ht; rfl
  rw [hdrop] at hb ⊢
  rw [qU] at hb
  rw [yq, decide_eq_true (show (i : Int) < (l.length : Int) by omega), xL, yZ, decide_eq_true hlt]
  simp only [cond_true, Bool.and_true]
  rw [qj5 ht]
  obtain ⟨kt, nt, st, lt⟩ := t
  rw [Tm.cells_mk]
  simp only [qsQ, List.length_nil, nbeq, nble, decide_true, cond_true, qs6, kTmC, qk, qm, qj, qaa, qq]
  have h2 := hp _ htm
  rw [← Tm.av_mk]
  by_cases h0 : i = 0
  ·subst h0
   rw [decide_eq_false (show ¬ (((0 : Nat) : Int) > 0) by omega)]
   simp only [cond_false]
   have h1 := hl _ htm b (by omega)
   rw [h1]
   simp only [qa, yB hlt hle]
   refine (ih (0 + 1) _ (by omega) hlt (by simp only [qsR]; omega)).mono fun r hr => ?_
   rw [hr]
   simp [vM, sepL, xg]
  ·rw [decide_eq_true (show ((i : Int) > 0) by omega)]
   simp only [cond_true]
   rw [wbK (b := 44) (n := 44) rfl (by omega)]
   have h1 := hl _ htm (b ++ [44]) (by simp; omega)
   rw [h1]
   simp only [qa, yB hlt hle]
   refine (ih (i + 1) _ (by omega) hlt (by simp only [qsR, qsQ, List.length_nil]; omega)).mono fun r hr => ?_
   rw [hr, if_neg h0, if_neg (by omega)]
   simp [vM, comL, xg]
theorem qom (t : Tm) : t.parts = true → qeP t ∧ qps t := by
 induction t using Tm.ind with
 | _ k n s l ih =>
  intro hp
  have hp0 := hp
  rw [Tm.parts, qsz] at hp
  obtain ⟨a1, a2⟩ := hp
  have a3 : ∀ t ∈ l, t.parts = true := by
   clear ih a1 hp0
   induction l with
   | nil => simp
   | cons x l ih => simp only [vB, qsz] at a2; intro t ht; rcases qsV.1 ht with rfl | ht; exact a2.1; exact ih a2.2 t ht
  have i1 : ∀ t ∈ l, qeP t := fun t ht => (ih t ht (a3 t ht)).1
  have i2 : ∀ t ∈ l, qps t := fun t ht => (ih t ht (a3 t ht)).2
  have i3 : ∀ t ∈ l, (xg t).length ≤ 290 * t.words := fun t ht => (qfK t (a3 t ht)).1
  have hw : (Tm.mk k n s l).words = (Tm.mk k n s l).own + qU l := by rw [Tm.words]
  have ho := (Tm.mk k n s l).own_le
  -- a pair's two parts
  have pair : k = 9 → ∀ (v : AV) (b sep : List UInt8), sep.length ≤ 1 → b.length + 290 * (Tm.mk k n s l).words + 20 ≤ 10000000000000 →
    Gets (qcC (v, b) sep k n s (qn l)) (fun r => r = (.tup [], b ++ (sep ++ (((vM l).getD 0 ([], [])).1 ++ ((vM l).getD 1 ([], [])).2)))) := by
   intro h9 v b sep hsep hb
   subst h9
   simp [xH] at a1
   match l, a1.2.2, i1, i2, i3, hw with
   | [a, d], _, i1, i2, i3, hw =>
    rw [hw] at hb
    simp only [qU] at hb
    obtain ⟨ka, na, sa, la⟩ := a
    obtain ⟨kd, nd, sd, ld⟩ := d
    refine qbt _ _ _ _ _ _ ?_
    simp only [beq_self_eq_true, cond_true]
    rw [wsK (by omega)]
    simp only [kTup, qk, qm, qq]
    have r0 : (qn [Tm.mk ka na sa la, Tm.mk kd nd sd ld]) = [(Tm.mk ka na sa la).cells, (Tm.mk kd nd sd ld).cells] := by rw [zc, zc, qaL]
    rw [r0, Tm.cells_mk, Tm.cells_mk]
    simp only [qsQ, List.length_nil, show qT 0 (((0 + 1 + 1 : Nat)) : Int) = true from rfl, show qT 1 (((0 + 1 + 1 : Nat)) : Int) = true from rfl, cond_true, qL, qsY, qsX, qa, nbeq, nble, decide_true, qs6, kTmC, qm, qj, qaa, qq, qk]
    have q1 := i3 _ (List.mem_cons_self ..)
    rw [← Tm.av_mk, i1 (.mk ka na sa la) (by simp) (b ++ sep) (by simp; omega)]
    simp only [qa]
    refine (i2 (.mk kd nd sd ld) (by simp) kd nd sd ld rfl _ _ [44] (by simp) (by simp; omega)).mono fun r hr => ?_
    rw [hr, qoo]
    simp [vM, xg, qaz]
  have P : qeP (.mk k n s l) := by
   intro b hb
   rw [hw] at hb
   apply Gets.get
   rw [Tm.av_mk]
   refine qmT _ _ _ _ _ ?_
   unfold zf9 zf10 zf8 zf3 zf4 zf5 zf6 zf7
   have hn := qoA a1
   rw [qmA (by omega) (by omega)]
   have hi := qez n
   unfold xg
   rw [zS]
   unfold mkP
   simp only [qa, qj]
   by_cases k1 : k = 1
   ·subst k1
    simp only [beq_self_eq_true, cond_true]
    rw [wsK (by omega)]
    simp only [kTup, qk, qm, qq]
    simp
   have b1 : (k == 1) = false := by simpa using k1
   by_cases k2 : k = 2
   ·subst k2
    simp [xH] at a1
    simp only [b1, cond_false, beq_self_eq_true, cond_true, qmS s (by omega), qa, qi, qll s (by omega), qj]
    have hq := qcq s
    cases qaP s with
    | true =>
     simp only [cond_true]
     rw [wsK (by omega)]
     simp only [kTup, qk, qm, qq]
     simp
    | false =>
     simp only [cond_false]
     rw [wsK (by omega)]
     simp only [kTup, qk, qm, qq]
     simp
   have b2 : (k == 2) = false := by simpa using k2
   by_cases k3 : k = 3
   ·subst k3
    simp only [b1, b2, cond_false, beq_self_eq_true, cond_true]
    rw [zI (show 5 + (vW n).length ≤ 9223372036854775807 by omega)]
    simp only [cond_true, qa, qj, qsQ]
    rw [zI (by omega)]
    simp only [cond_true, qa, qj, List.append_eq]
    rw [wsK (by simp; omega)]
    simp only [kTup, qk, qm, qq]
    simp
   have b3 : (k == 3) = false := by simpa using k3
   by_cases k4 : k = 4
   ·subst k4
    simp only [b1, b2, b3, cond_false, beq_self_eq_true, cond_true]
    rw [zI (show 5 + (vW n).length ≤ 9223372036854775807 by omega)]
    simp only [cond_true, qa, qj, qsQ]
    rw [zI (by omega)]
    simp only [cond_true, qa, qj, List.append_eq]
    rw [wsK (by simp; omega)]
    simp only [kTup, qk, qm, qq]
    simp
   have b4 : (k == 4) = false := by simpa using k4
   by_cases k6 : k = 6
   ·subst k6
    simp only [b1, b2, b3, b4, cond_false, beq_self_eq_true, cond_true]
    rw [zI (show 3 + (vW n).length ≤ 9223372036854775807 by omega)]
    simp only [cond_true, qa, qj, qsQ]
    rw [zI (by omega)]
    simp only [cond_true, qa, qj, List.append_eq]
    rw [wsK (by simp; omega)]
    simp only [kTup, qk, qm, qq]
    simp
   have b6 : (k == 6) = false := by simpa using k6
   by_cases k5 : k = 5
   ·subst k5
    have how : (Tm.mk 5 n s l).own = 2 := by simp [Tm.own, Tm.kind]
    simp [xH] at a1
    simp only [b1, b2, b3, b4, b6, cond_false, beq_self_eq_true, cond_true]
    rw [zI (show 5 + (vW n).length ≤ 9223372036854775807 by omega)]
    simp only [cond_true, qa, qj]
    rw [wsK (by simp; omega)]
    simp only [kTup, qk, qm, qq]
    refine (qns l i1 (by omega) i3 _ 0 _ _ rfl (by omega) (by simp; omega)).mono fun r hr => ?_
    rw [hr]
    simp
   have b5 : (k == 5) = false := by simpa using k5
   by_cases k7 : k = 7
   ·subst k7
    have how : (Tm.mk 7 n s l).own = 2 := by simp [Tm.own, Tm.kind]
    simp [xH] at a1
    have hcl := qf1 l i3
    have hsl := qjV ((vM l).map (·.1))
    simp only [b1, b2, b3, b4, b5, b6, cond_false, beq_self_eq_true, cond_true]
    rw [wbK (b := 123) (n := 123) rfl (by omega)]
    have hall : EVb (EV cfg) 55 [.ptr 0 0 0, .sl (qn l)] tW tE (b ++ [123]) = some (.tup [], b ++ [123] ++ sepL ((vM l).map (·.1))) := by
     apply Gets.get
     refine qoj _ _ ?_
     refine (qql l i1 (by omega) i3 _ 0 _ rfl (by omega) (by simp; omega)).mono fun r hr => ?_
     rw [hr]
     simp
    rw [hall]
    simp only [qa]
    rw [wbK (b := 125) (n := 125) rfl (by simp; omega)]
    simp
   have b7 : (k == 7) = false := by simpa using k7
   simp only [b1, b2, b3, b4, b5, b6, b7, cond_false]
   have hlist : EVb (EV cfg) 56 [.ptr 0 0 0, .agg [.int .i64 k, .int .i64 n, .str s, .sl (qn l)]] tW tE b = some (.tup [], b ++ xg (.mk k n s l)) := by
    apply Gets.get
    refine qmU _ _ _ _ _ ?_
    rw [wbK (b := 91) (n := 91) rfl (by omega)]
    unfold xg
    rw [zS]
    by_cases k9 : k = 9
    ·refine (pair k9 _ (b ++ [91]) [] (by simp) (by rw [hw]; simp; omega)).mono fun r hr => ?_
     rw [hr]
     subst k9
     simp [mkP]
    ·have k8 : k = 8 := by
      unfold xH at a1
      rw [if_neg k1, if_neg k2, if_neg k3, if_neg k4, if_neg k6, if_neg k5, if_neg k7] at a1
      by_cases k8 : k = 8
      ·exact k8
      ·rw [if_neg k8, if_neg k9] at a1; cases a1
     subst k8
     refine qbt _ _ _ _ _ _ ?_
     simp only [show ((8 : Int) == 9) = false from rfl, cond_false, beq_self_eq_true, cond_true]
     rw [wbK (b := 93) (n := 93) rfl (by simp; omega)]
     simp [mkP]
   rw [hlist]
   simp [xg, zS, mkP, k1, k2, k3, k4, k5, k6, k7]
  refine ⟨P, ?_⟩
  intro k' n' s' l' he v b sep hsep hb
  cases he
  by_cases k9 : k = 9
  ·refine (pair k9 v b sep hsep (by omega)).mono fun r hr => ?_
   rw [hr]
   simp [qeU, Tm.kind, Tm.subs, k9]
  ·have hs : qeU sep (.mk k n s l) = qaz (.mk k n s l) := by simp [qeU, Tm.kind, k9]
   rw [hs]
   have b9 : (k == 9) = false := by simpa using k9
   refine qbt _ _ _ _ _ _ ?_
   simp only [b9, cond_false]
   by_cases k8 : k = 8
   ·subst k8
    simp only [beq_self_eq_true, cond_true]
    rw [wbK (b := 93) (n := 93) rfl (by omega)]
    simp [qaz, zS, mkP]
   ·have b8 : (k == 8) = false := by simpa using k8
    simp only [b8, cond_false]
    rw [wbK (b := 124) (n := 124) rfl (by omega)]
    have hP := P (b ++ [124]) (by simp; omega)
    rw [Tm.av_mk] at hP
    rw [hP]
    simp only [qa]
    have htl := (qfK (.mk k n s l) hp0).1
    rw [wbK (b := 93) (n := 93) rfl (by simp; omega)]
    simp [qaz, xg, zS, mkP, k8, k9]
def qjA (t : Tm) : AV := if t.chk = 0 then .tup [.str (xg t), .int .i64 0] else .tup [.str [], .int .i64 t.chk]
theorem qqe {t : Tm} (h : t.chk = 0) : t.parts = true ∧ t.words ≤ 65536 := by
 have hp1 : vB [t] = t.parts := by simp [vB]
 have hw1 : qU [t] = t.words := by simp [qU]
 unfold Tm.chk chkS at h
 rw [hp1, hw1] at h
 by_cases hp : t.parts = true
 ·rw [if_pos hp] at h
  by_cases hw : 65536 < 0 + t.words
  ·rw [if_pos hw] at h; cases h
  ·exact ⟨hp, by omega⟩
 ·rw [if_neg hp] at h; cases h
theorem qjL (t : Tm) (hw : t.w < 1099511627776) : EVf (EV cfg) 7 [t.av] = some (qjA t) := by
 have hc := qqg hw
 obtain ⟨k, n, s, l⟩ := t
 rw [Tm.av_mk] at hc ⊢
 apply Gets.get
 refine qln _ _ _ _ ?_
 rw [hc]
 simp only [qa, qm]
 unfold qjA
 by_cases h0 : (Tm.mk k n s l).chk = 0
 ·obtain ⟨hp, hwd⟩ := qqe h0
  have hl := (qfK _ hp).1
  have ht := (qom _ hp).1 [] (by simp; omega)
  rw [Tm.av_mk] at ht
  rw [if_pos h0, h0]
  have e0 : ((0 : Int) != 0) = false := rfl
  rw [e0]
  simp only [cond_false]
  rw [ht]
  simp only [qa, List.nil_append]
  rw [qoq bldW (by omega)]
  simp
 ·rw [if_neg h0]
  have e0 : ((Tm.mk k n s l).chk != 0) = true := by simpa using h0
  rw [e0]
  simp
theorem qmW (s : Bz) {P : AV → Prop} (h : Gets (some (.agg [.int .i64 2, .int .i64 0, .str s, .sl []])) P) : Gets (EVf (EV cfg) 45 [.str s]) P :=
  gE (fun _ => funF rfl rfl Tryz.func45 rfl) (by kernel_rfl) h
noncomputable def qsa : Den := evC cfg (EV cfg) 15 none 0 (sub (qx Tryz.f15) [1, 1, 0, 1, 0, 0])
noncomputable def qse : Ex × List AV × AH → Option AV := kAft (Cfg.keepOut cfg 15 3) (kRun cfg (EV cfg) (kfN cfg 6) 15 none 0 (qqX cfg (Cfg.lift cfg 15 0) Tryz.f15.results.toList) ([.block 0, .seq (sub (qx Tryz.f15) [1, 1, 1])]))
noncomputable def qr7 : List AV × AH → Option AV := fun p => kOpt (LOOP 0 (some [4, 8, 9, 10]) ([(4, 1)]) qsa p) qse
noncomputable def qqA : Den := evC cfg (EV cfg) 63 none 0 (sub (qx Tryz.f63) [1, 0, 1, 0, 0])
noncomputable def qqM : Ex × List AV × AH → Option AV := kAft (Cfg.keepOut cfg 63 2) (kRun cfg (EV cfg) (kfN cfg 6) 63 none 0 (qbc cfg (Cfg.lift cfg 63 0) Tryz.f63.results.toList) ([.block 0, .seq (sub (qx Tryz.f63) [1, 1])]))
noncomputable def qqs : List AV × AH → Option AV := fun p => kOpt (LOOP 0 (some [0, 1, 7, 8]) ([]) qqA p) qqM
noncomputable def qqz : Den := evC cfg (EV cfg) 94 none 0 (sub (qx Tryz.f94) [1, 0, 1, 0, 0])
noncomputable def qqL : Ex × List AV × AH → Option AV := kAft (Cfg.keepOut cfg 94 2) (kRun cfg (EV cfg) (kfN cfg 6) 94 none 0 (qbc cfg (Cfg.lift cfg 94 0) Tryz.f94.results.toList) ([.block 0, .seq (sub (qx Tryz.f94) [1, 1])]))
noncomputable def qqr : List AV × AH → Option AV := fun p => kOpt (LOOP 0 (some [0, 1, 7, 8]) ([]) qqz p) qqL
noncomputable abbrev qcE (l : Rz) (nv4 : Nat) (v10 : Int) (h0 : Rz) : Option (AV) := qr7  (((fx 44 [(4, .ms 0 0 nv4), (8, .sl l), (9, .int .i64 (l.length : Int)), (10, .int .i64 v10)]) : List AV), ([.rows true 1 h0] : AH))
noncomputable abbrev qda (l : Rz) (v8 : Int) : Option (AV) := qqs  (((fx 19 [(0, .sl l), (1, .fn (Fn.func 70) [] []), (7, .int .i64 (l.length : Int)), (8, .int .i64 v8)]) : List AV), ([] : AH))
noncomputable abbrev qc9 (l : Rz) (s : Bz) (v8 : Int) : Option (AV) := qqr  (((fx 19 [(0, .sl l), (1, .str s), (7, .int .i64 (l.length : Int)), (8, .int .i64 v8)]) : List AV), ([] : AH))
theorem qok (k n a : Int) (s : Bz) {P : AV → Prop} (h : Gets (bif k == 1 then bif decide (n ≥ 0) then bif decide (n ≤ 576460752303423487) then some (.bool (s == [])) else some (.bool false) else some (.bool false) else bif k == 2 then bif n == 0 then some (.bool (decide ((s.length : Int) ≤ 64))) else some (.bool false) else bif k == 3 then bif n == 0 then bif ! s == [] then bif decide ((s.length : Int) ≤ 64) then kOpt (qsH s 0) fun b => kOpt (EVs (EV cfg) 69 [AV.int .u8 (↑ (UInt8.toNat b) : Int)]) fun v => qO v fun b => bif b then bif qs0 (0 + qsO s) (qsO (List.map (fun b => [AV.int .u8 (↑ (UInt8.toNat b) : Int)]) s)) && true then kOpt (EVs (EV cfg) 28 [.sl (qs6 (qsO s) (List.map (fun b => [AV.int .u8 (↑ (UInt8.toNat b) : Int)]) s)), AV.fn (Fn.func 70) [] []]) fun v => qO v fun b => some (.bool ! b) else none else some (.bool false) else some (.bool false) else some (.bool false) else some (.bool false) else bif k == 4 then bif n == 0 then kOpt (EVs (EV cfg) 27 [.str s, .str [(32 : UInt8)]]) fun v => qO v fun b => bif ! b then kOpt (EVs (EV cfg) 72 [.str s]) fun v => qO v fun b => some (.bool b) else some (.bool false) else some (.bool false) else bif k == 5 then bif n == 0 then kOpt (EVf (EV cfg) 74 []) fun v => kSl v fun rows => kOpt (EVs (EV cfg) 73 [.sl rows, .str s]) fun v => qO v fun b => some (.bool b) else some (.bool false) else bif k == 6 then bif n == 0 then some (.bool (s == [])) else some (.bool false) else some (.bool false)) P) : Gets (EVs (EV cfg) 43 [.agg [.int .i64 k, .int .i64 n, .int .i64 a, .str s]]) P :=
  gE (fun _ => funS rfl rfl Tryz.func43 rfl) (by kernel_rfl) h
theorem qlr (c : Int) {P : AV → Prop} (h : Gets (kOpt (EVs (EV cfg) 71 [AV.int .u8 c]) fun v => qO v fun b => some (.bool ! b)) P) : Gets (EVs (EV cfg) 70 [.int .u8 c]) P :=
  gE (fun _ => funS rfl rfl Tryz.func70 rfl) (by kernel_rfl) h
theorem qlq (l : Rz) {P : AV → Prop} (h : Gets (qcE l 0 0 []) P) : Gets (EVf (EV cfg) 15 [.sl l]) P :=
  gE (fun _ => funF rfl rfl Tryz.func15 rfl) (by kernel_rfl) h
theorem qhW (l : Rz) {P : AV → Prop} (h : Gets (kOpt (EVs (EV cfg) 63 [.sl l, AV.fn (Fn.func 70) [] []]) fun v => kInt .i64 v fun n => some (.bool (decide (n ≥ 0)))) P) : Gets (EVs (EV cfg) 28 [.sl l, .fn (Fn.func 70) [] []]) P :=
  gE (fun _ => funS rfl rfl Tryz.func28 rfl) (by kernel_rfl) h
theorem qls (l : Rz) {P : AV → Prop} (h : Gets (qda l 0) P) : Gets (EVs (EV cfg) 63 [.sl l, .fn (Fn.func 70) [] []]) P :=
  gE (fun _ => funS rfl rfl Tryz.func63 rfl) (by kernel_rfl) h
theorem qol (l : Rz) (s : Bz) {P : AV → Prop} (h : Gets (kOpt (EVs (EV cfg) 94 [.sl l, .str s]) fun v => kInt .i64 v fun n => some (.bool (decide (n ≥ 0)))) P) : Gets (EVs (EV cfg) 73 [.sl l, .str s]) P :=
  gE (fun _ => funS rfl rfl Tryz.func73 rfl) (by kernel_rfl) h
theorem qlt (l : Rz) (s : Bz) {P : AV → Prop} (h : Gets (qc9 l s 0) P) : Gets (EVs (EV cfg) 94 [.sl l, .str s]) P :=
  gE (fun _ => funS rfl rfl Tryz.func94 rfl) (by kernel_rfl) h
noncomputable abbrev zj0 (nv4 : Nat) (h0 l : Rz) (v10 : Int) (s : Bz) : Option (AV) := bif qs0 (0 + nv4) (qsO h0) && vD (nv4 + 1) 16 then qcE l (nv4 + 1) (IntKind.wrap .i64 (v10 + 1)) (List.append (qs6 nv4 h0) [[.str s]]) else none
theorem qfg (l : Rz) (nv4 : Nat) (v10 : Int) (h0 : Rz) {P : AV → Prop} (h : Gets (bif decide (v10 < (l.length : Int)) then bif qe 0 v10 && qT v10 (l.length : Int) then kOpt (qsH l (v10.toNat)) fun row => bif qsL (qsO row) 4 then bif qs0 4 (qsO row) then qf (qs6 4 row) fun c cs => kInt .i64 c fun n => qf cs fun c cs => kInt .i64 c fun n_1 => qf cs fun c cs => kInt .i64 c fun n_2 => qf cs fun c cs => kStr c fun s => kNil cs (kOpt (EVs (EV cfg) 43 [.agg [.int .i64 n, .int .i64 n_1, .int .i64 n_2, .str s]]) fun v => qO v fun b => bif ! b then some (AV.tup [.str [], .int .i64 2]) else bif n == 1 then kOpt (EVs (EV cfg) 44 [AV.int .i64 n_1]) fun v => kStr v fun s => zj0 nv4 h0 l v10 s else bif n == 2 then kOpt (EVf (EV cfg) 45 [.str s]) fun v => kTmV v fun n n_3 s rows => (kOpt (EVf (EV cfg) 7 [.agg [.int .i64 n, .int .i64 n_3, .str s, .sl rows]]) fun v => kTup v fun cs => qf cs fun c cs => kStr c fun s => qf cs fun c cs => kInt .i64 c fun n => kNil cs (zj0 nv4 h0 l v10 s)) else bif n == 6 then bif qs0 (0 + nv4) (qsO h0) && vD (nv4 + 1) 16 then qcE l (nv4 + 1) (IntKind.wrap .i64 (v10 + 1)) (List.append (qs6 nv4 h0) [[.str [(46 : UInt8)]]]) else none else zj0 nv4 h0 l v10 s) else none else none else none else bif qs0 (0 + nv4) (qsO h0) && true then kOpt (EVs (EV cfg) 46 [.sl (qs6 nv4 h0), .str [(32 : UInt8)]]) fun v => kStr v fun s => some (AV.tup [.str s, .int .i64 0]) else none) P) : Gets (qcE l nv4 v10 h0) P :=
  gE (fun _ => q7 (cfg := cfg) (f := 15) (rd := none) (bs := 0)) (by kernel_rfl) h
theorem qdF (l : Rz) (v8 : Int) {P : AV → Prop} (h : Gets (bif decide (v8 < (l.length : Int)) then bif qe 0 v8 && qT v8 (l.length : Int) then kOpt (qsH l (v8.toNat)) fun row => bif qsL (qsO row) 1 then kOpt (qsH row 0) fun v => kInt .u8 v fun n => kOpt (EVs (EV cfg) 70 [AV.int .u8 n]) fun v => qO v fun b => bif b then some (.int .i64 v8) else qda l (IntKind.wrap .i64 (v8 + 1)) else none else none else some (.int .i64 (- 1))) P) : Gets (qda l v8) P :=
  gE (fun _ => q7 (cfg := cfg) (f := 63) (rd := none) (bs := 0)) (by kernel_rfl) h
theorem qdE (l : Rz) (s : Bz) (v8 : Int) {P : AV → Prop} (h : Gets (bif decide (v8 < (l.length : Int)) then bif qe 0 v8 && qT v8 (l.length : Int) then kOpt (qsH l (v8.toNat)) fun row => bif qsL (qsO row) 1 then kOpt (qsH row 0) fun v => kStr v fun s_1 => bif s == s_1 then some (.int .i64 v8) else qc9 l s (IntKind.wrap .i64 (v8 + 1)) else none else none else some (.int .i64 (- 1))) P) : Gets (qc9 l s v8) P :=
  gE (fun _ => q7 (cfg := cfg) (f := 94) (rd := none) (bs := 0)) (by kernel_rfl) h
theorem qoU (b : UInt8) : EVs (EV cfg) 70 [.int .u8 (b.toNat : Int)] = some (.bool (!qo b)) := by
 apply Gets.get
 refine qlr _ ?_
 rw [qfk]
 simp
theorem qpF {l : List (List UInt8)} {i : Nat} {s : List UInt8} (h : l[i]? = some s) : (strR l)[i]? = some [AV.str s] := by simp [strR, h]
theorem qp5 (l : List (List UInt8)) (s : List UInt8) (hl : l.length < 1099511627776) : Gets (EVs (EV cfg) 94 [.sl (strR l), .str s]) (fun v => ∃ n : Int, v = .int .i64 n ∧ (decide (n ≥ 0) = l.contains s)) := by
 refine qlt _ _ ?_
 have key : ∀ (k i : Nat), l.length - i = k → i ≤ l.length → (l.take i).contains s = false → Gets (qc9 (strR l) s (i : Int)) (fun v => ∃ n : Int, v = .int .i64 n ∧ (decide (n ≥ 0) = l.contains s)) := by
  intro k
  induction k with
  | zero =>
   intro i hk hi ha
   refine qdE _ _ _ ?_
   have : i = l.length := by omega
   subst this
   simp only [qs5, decide_eq_false (show ¬ ((l.length : Int) < (l.length : Int)) by omega), cond_false, xf]
   rw [List.take_length] at ha
   exact ⟨-1, rfl, by rw [ha]; rfl⟩
  | succ k ih =>
   intro i hk hi ha
   refine qdE _ _ _ ?_
   have hlt : i < l.length := by omega
   obtain ⟨b, hb⟩ : ∃ b, l[i]? = some b := ⟨l[i], qsD hlt⟩
   rw [qs5, decide_eq_true (show (i : Int) < (l.length : Int) by omega), xL, yZ, decide_eq_true hlt]
   simp only [cond_true, Bool.and_true, qL, qsZ, qpF hb, qa, qsY, qj, qsQ, List.length_nil, nbeq, decide_true]
   cases hL : s == b with
   | true =>
    have hsb : s = b := by simpa using hL
    have : l.contains s = true := by
     simp only [List.contains_iff_mem]
     rw [hsb]
     exact qsN hb
    simp only [cond_true, xf]
    exact ⟨_, rfl, by rw [this]; simp⟩
   | false =>
    simp only [cond_false]
    rw [yB hlt hl]
    refine ih (i + 1) (by omega) hlt ?_
    rw [List.take_add_one, hb]
    simp only [Option.toList, List.contains_eq_mem, qsS, qsV, List.not_mem_nil, or_false, decide_eq_false_iff_not] at ha ⊢
    have hne : ¬ s = b := by simpa using hL
    exact fun h => h.elim ha hne
 exact key _ 0 rfl (by omega) (by simp)
theorem qrX (l : List (List UInt8)) (s : List UInt8) (hl : l.length < 1099511627776) : EVs (EV cfg) 73 [.sl (strR l), .str s] = some (.bool (l.contains s)) := by
 apply Gets.get
 refine qol _ _ ?_
 refine (qp5 l s hl).bind fun v ⟨n, hv, hn⟩ => ?_
 subst hv
 simp only [qm, xf, hn]
theorem qmX (s : List UInt8) (hl : s.length < 1099511627776) : Gets (EVs (EV cfg) 63 [.sl (bR s), .fn (.func 70) [] []]) (fun v => ∃ n : Int, v = .int .i64 n ∧ (decide (n ≥ 0) = !s.all qo)) := by
 refine qls _ ?_
 have key : ∀ (k i : Nat), s.length - i = k → i ≤ s.length → (s.take i).all qo = true → Gets (qda (bR s) (i : Int)) (fun v => ∃ n : Int, v = .int .i64 n ∧ (decide (n ≥ 0) = !s.all qo)) := by
  intro k
  induction k with
  | zero =>
   intro i hk hi ha
   refine qdF _ _ ?_
   have : i = s.length := by omega
   subst this
   simp only [qs5, decide_eq_false (show ¬ ((s.length : Int) < (s.length : Int)) by omega), cond_false, xf]
   rw [List.take_length] at ha
   exact ⟨-1, rfl, by rw [ha]; rfl⟩
  | succ k ih =>
   intro i hk hi ha
   refine qdF _ _ ?_
   have hlt : i < s.length := by omega
   obtain ⟨b, hb⟩ : ∃ b, s[i]? = some b := ⟨s[i], qsD hlt⟩
   rw [qs5, decide_eq_true (show (i : Int) < (s.length : Int) by omega), xL, yZ, decide_eq_true hlt]
   simp only [cond_true, Bool.and_true, qL, qsZ, qkV hb, qa, qsY, qm, qoU, qi, qsQ, List.length_nil, nbeq, decide_true]
   cases hL : qo b with
   | false =>
    simp only [Bool.not_false, cond_true, xf]
    have : s.all qo = false := by
     rw [← qs2, qs3]
     intro h
     have := h b (qsN hb)
     rw [hL] at this; cases this
    exact ⟨_, rfl, by rw [this]; simp⟩
   | true =>
    simp only [Bool.not_true, cond_false]
    rw [yB hlt hl]
    refine ih (i + 1) (by omega) hlt ?_
    rw [List.take_add_one, List.all_append, ha, hb]
    simp [hL]
 exact key _ 0 rfl (by omega) rfl
theorem qoR (s : List UInt8) (hl : s.length < 1099511627776) : EVs (EV cfg) 28 [.sl (bR s), .fn (.func 70) [] []] = some (.bool (!s.all qo)) := by
 apply Gets.get
 refine qhW _ ?_
 refine (qmX s hl).bind fun v ⟨n, hv, hn⟩ => ?_
 subst hv
 simp only [qm, xf, hn]
theorem qpK (k n a : Int) (s : List UInt8) (hl : s.length < 4294967200) : EVs (EV cfg) 43 [.agg [.int .i64 k, .int .i64 n, .int .i64 a, .str s]] = some (.bool (mayA k n s)) := by
 apply Gets.get
 refine qok _ _ _ _ ?_
 unfold mayA
 by_cases k1 : k = 1
 ·subst k1
  simp only [beq_self_eq_true, cond_true, if_true]
  have d1 : decide (n ≥ 0) = decide (0 ≤ n) := rfl
  rw [d1]
  cases decide (0 ≤ n) <;> cases decide (n ≤ 576460752303423487) <;> simp
 have b1 : (k == 1) = false := by simpa using k1
 rw [if_neg k1, b1]
 by_cases k2 : k = 2
 ·subst k2
  have : decide ((s.length : Int) ≤ 64) = decide (s.length ≤ 64) := by simp only [decide_eq_decide]; omega
  simp only [cond_false, beq_self_eq_true, cond_true, if_true, this]
  cases n == 0 <;> simp
 have b2 : (k == 2) = false := by simpa using k2
 rw [if_neg k2, b2]
 by_cases k3 : k = 3
 ·subst k3
  simp only [cond_false, beq_self_eq_true, cond_true, if_true]
  cases n == 0 with
  | false => simp
  | true =>
   simp only [cond_true, Bool.true_and]
   unfold varA
   cases s with
   | nil => simp
   | cons b s =>
    have e0 : (b :: s == []) = false := rfl
    have : decide (((b :: s).length : Int) ≤ 64) = decide ((b :: s).length ≤ 64) := by simp only [decide_eq_decide]; omega
    simp only [e0, Bool.not_false, cond_true, this]
    cases decide ((b :: s).length ≤ 64) with
    | false => simp
    | true =>
     simp only [cond_true, qL, qsY, qa, qfN, qi, Nat.zero_add, qs5]
     rw [show qs0 (b :: s).length (b :: s).length = true by simp, show qs6 (b :: s).length ((b :: s).map fun b => [AV.int .u8 (b.toNat : Int)]) = bR (b :: s) from List.take_of_length_le (by simp), qoR (b :: s) (by omega)]
     cases bigA b <;> simp
 have b3 : (k == 3) = false := by simpa using k3
 rw [if_neg k3, b3]
 by_cases k4 : k = 4
 ·subst k4
  simp only [cond_false, beq_self_eq_true, cond_true, if_true]
  cases n == 0 with
  | false => simp
  | true =>
   simp only [cond_true, Bool.true_and]
   rw [qkS (by omega), qig]
   simp only [qa, qi]
   cases hb : s.contains 32 with
   | true =>
    have : vX.contains s = false := by
     rw [← qs2]
     intro h
     rw [qhS h] at hb; cases hb
    rw [this]; simp
   | false =>
    simp only [Bool.not_false, cond_true]
    rw [qit (by simpa using hb) hl]
    simp
 have b4 : (k == 4) = false := by simpa using k4
 rw [if_neg k4, b4]
 by_cases k5 : k = 5
 ·subst k5
  simp only [cond_false, beq_self_eq_true, cond_true, if_true, qgt, qa, qaa, qrX xx s (by decide), qi]
  cases n == 0 <;> simp
 have b5 : (k == 5) = false := by simpa using k5
 rw [if_neg k5, b5]
 by_cases k6 : k = 6
 ·subst k6
  simp only [cond_false, beq_self_eq_true, cond_true, if_true]
  cases n == 0 <;> simp
 ·have b6 : (k == 6) = false := by simpa using k6
  rw [if_neg k6, b6]
  simp
theorem qd8 : ∀ l : List (List UInt8), qap (strR l) = some l
 | [] => rfl
 | s :: l => by rw [strR, List.map_cons, qap]; rw [show (l.map fun s => [AV.str s]) = strR l from rfl, qd8 l]
theorem qrk {l : List (List UInt8)} {sep : List UInt8} (h1 : l.length ≤ 140737488355328) (h2 : (Go.Lib.join l sep).length ≤ 140737488355328) : EVs (EV cfg) 46 [.sl (strR l), .str sep] = some (.str (Go.Lib.join l sep)) := by
 refine qc5 (H := []) (zo ?_)
 have hx : cfg.ext 46 = some qcV := rfl
 unfold q9
 simp only [hx]
 unfold qcV
 simp only [qd8, if_pos (And.intro h1 h2)]
theorem qrs (s : List UInt8) : EVf (EV cfg) 45 [.str s] = some (Tm.mk 2 0 s []).av := by
 apply Gets.get
 refine qmW _ ?_
 rw [Tm.av_mk]; simp
theorem qqh {s : List UInt8} (h : s.length ≤ 64) : (Tm.mk 2 0 s []).chk = 0 := by
 unfold Tm.chk chkS
 simp [vB, Tm.parts, xH, h, qU, Tm.words, Tm.own, Tm.kind]
theorem qpn (s : List UInt8) : xg (Tm.mk 2 0 s []) = if qaP s then s else zd s := by
 unfold xg
 rw [zS]
 simp [mkP]
theorem qq6 {t : TokA} (h : t.s.length ≤ 100) : t.text.length ≤ 402 := by
 unfold TokA.text tokA
 have h1 := qez t.n
 have h2 := qcq t.s
 split
 ·omega
 split
 ·split <;> omega
 split
 ·simp
 ·omega
theorem qkD : ∀ (l : List (List UInt8)), (∀ x ∈ l, x.length ≤ 402) → (Go.Lib.join l [32]).length ≤ 403 * l.length
 | [], _ => by simp [Go.Lib.join]
 | [x], h => by have := h x (by simp); simp [Go.Lib.join, List.intercalate, List.intersperse]; omega
 | x :: y :: l, h => by
  have h1 := h x (by simp)
  have ih := qkD (y :: l) (fun z hz => h z (by simp [qsV.1 hz]))
  simp only [Go.Lib.join, List.intercalate, List.intersperse_cons_cons, List.flatten_cons, qsR, qsQ, List.length_nil] at ih ⊢
  omega
theorem qgy (l : List TokA) (hn : l.length ≤ 2000) (hs : ∀ t ∈ l, t.s.length ≤ 100) : EVf (EV cfg) 15 [.sl (q4 l)] = some (qbu l) := by
 apply Gets.get
 refine qlq _ ?_
 have key : ∀ (k i : Nat), l.length - i = k → i ≤ l.length → (l.take i).all TokA.may = true → Gets (qcE (q4 l) i (i : Int) (strR ((l.take i).map TokA.text))) (fun v => v = qbu l) := by
  intro k
  induction k with
  | zero =>
   intro i hk hi ha
   refine qfg _ _ _ _ ?_
   unfold zj0
   have : i = l.length := by omega
   subst this
   rw [List.take_length] at ha ⊢
   rw [vm, decide_eq_false (show ¬ ((l.length : Int) < (l.length : Int)) by omega)]
   simp only [cond_false, Nat.zero_add, qs5, Bool.and_true]
   rw [show qs0 l.length l.length = true by simp, show qs6 l.length (strR (l.map TokA.text)) = strR (l.map TokA.text) from List.take_of_length_le (by simp)]
   simp only [cond_true]
   rw [qrk (by simp; omega) (Nat.le_trans (qkD _ (fun x hx => by
    obtain ⟨t, ht, rfl⟩ := List.mem_map.1 hx
    exact qq6 (hs t ht))) (by simp; omega))]
   simp [qbu, ha]
  | succ k ih =>
   intro i hk hi ha
   refine qfg _ _ _ _ ?_
   unfold zj0
   have hlt : i < l.length := by omega
   obtain ⟨t, ht⟩ : ∃ t, l[i]? = some t := ⟨l[i], qsD hlt⟩
   have htm := qsN ht
   have hlen := hs t htm
   rw [vm, decide_eq_true (show (i : Int) < (l.length : Int) by omega), xL, yZ, decide_eq_true hlt]
   simp only [cond_true, Bool.and_true, qL, qsZ, qaN ht, qa]
   unfold TokA.cells
   simp only [qsQ, List.length_nil, nbeq, nble, decide_true, cond_true, qs6, qk, qm, qj, qq]
   rw [qpK _ _ _ _ (by omega)]
   simp only [qa, qi]
   cases hm : mayA t.k t.n t.s with
   | false =>
    have : l.all TokA.may = false := by
     rw [← qs2, qs3]
     intro h
     have h := h t htm
     unfold TokA.may at h
     rw [hm] at h; cases h
    simp [qbu, this]
   | true =>
    simp only [Bool.not_true, cond_false]
    have hnum := qrg hm
    have htake : (l.take (i + 1)).map TokA.text = (l.take i).map TokA.text ++ [t.text] := by rw [List.take_add_one, ht]; simp
    have hmay : (l.take (i + 1)).all TokA.may = true := by
     rw [List.take_add_one, ht, List.all_append, ha]
     simp [TokA.may, hm]
    have hfit : vD (i + 1) 16 = true := by simp [vD]; omega
    have hll : (strR ((l.take i).map TokA.text)).length = i := by simp; omega
    have next : ∀ x : List UInt8, x = t.text → Gets (qcE (q4 l) (i + 1) (IntKind.wrap .i64 ((i : Int) + 1)) (List.append (qs6 i (strR ((l.take i).map TokA.text))) [[.str x]])) (fun v => v = qbu l) := by
     intro x hx
     subst hx
     rw [yB hlt (by omega), List.take_of_length_le (by omega)]
     have : List.append (strR ((l.take i).map TokA.text)) [[.str t.text]] = strR ((l.take (i + 1)).map TokA.text) := by rw [htake]; simp [strR]
     rw [this]
     exact ih (i + 1) (by omega) hlt hmay
    simp only [hll, Nat.zero_add, hfit, Bool.and_true]
    rw [show decide (i ≤ i) = true by simp]
    simp only [cond_true]
    by_cases k1 : t.k = 1
    ·rw [show (t.k == 1) = true by simpa using k1]
     simp only [cond_true]
     rw [qmA (by omega) (by omega)]
     simp only [qa, qj]
     exact next _ (by simp [TokA.text, tokA, k1])
    rw [show (t.k == 1) = false by simpa using k1]
    by_cases k2 : t.k = 2
    ·rw [show (t.k == 2) = true by simpa using k2]
     have h64 : t.s.length ≤ 64 := by
      unfold mayA at hm
      rw [if_neg k1, if_pos k2] at hm
      simp only [qsz, decide_eq_true_eq] at hm
      exact hm.2
     simp only [cond_false, cond_true]
     rw [qrs]
     simp only [qa]
     have hw := qjL (Tm.mk 2 0 t.s []) (by simp [Tm.w_mk]; omega)
     rw [Tm.av_mk] at hw ⊢
     simp only [kTmV, kTmC, qE, qk, qm, qj, qaa, qq]
     rw [hw]
     unfold qjA
     rw [if_pos (qqh h64)]
     simp only [qa, kTup, qk, qj, qm, qq]
     exact next _ (by rw [qpn]; simp [TokA.text, tokA, k2])
    rw [show (t.k == 2) = false by simpa using k2]
    by_cases k6 : t.k = 6
    ·rw [show (t.k == 6) = true by simpa using k6]
     simp only [cond_false, cond_true]
     exact next _ (by simp [TokA.text, tokA, k6])
    ·rw [show (t.k == 6) = false by simpa using k6]
     simp only [cond_false]
     exact next _ (by simp [TokA.text, tokA, k1, k2, k6])
 exact key _ 0 rfl (by omega) rfl
end Go.Proofs.YtkohdkldmpiiiaaGreatDoor
end
section
namespace Go.Av
def brk (r : List UInt8) : Prop := r = [] ∨ ∃ t, r = 32 :: t
theorem qhD {f : UInt8 → Bool} (hf : f 32 = false) : ∀ (w r : List UInt8), (∀ b ∈ w, f b = true) → brk r → (w ++ r).takeWhile f = w
 | [], r, _, hr => by
  rcases hr with rfl | ⟨t, rfl⟩
  ·rfl
  ·rw [List.nil_append, List.takeWhile_cons, if_neg (by simp [hf])]
 | b :: w, r, h, hr => by
  rw [List.cons_append, List.takeWhile_cons, if_pos (h b (by simp)), qhD hf w r (fun x hx => h x (by simp [hx])) hr]
theorem qoQ (w : List UInt8) (b : UInt8) : numA (w ++ [b]) = 10 * numA w + (b.toNat - 48) := by unfold numA; rw [List.foldl_append]; rfl
theorem zP {u : Nat} (h : u < 10) : (UInt8.ofNat (48 + u)).toNat = 48 + u := by rw [UInt8.toNat_ofNat']; omega
theorem qkR : ∀ (k u : Nat), u < 10 ^ (k + 1) → numA (decF (k + 1) u) = u ∧ (∀ b ∈ decF (k + 1) u, qB b = true) ∧ decF (k + 1) u ≠ []
 | 0, u, h => by
  have h : u < 10 := by simpa using h
  rw [decF, if_pos (by rw [qs1]; exact h)]
  refine ⟨?_, fun b hb => ?_, by simp⟩
  ·show 10 * 0 + ((UInt8.ofNat (48 + u)).toNat - 48) = u
   rw [zP h]; omega
  ·obtain rfl := List.mem_singleton.1 hb
   unfold qB; rw [zP h]; simp; omega
 | k + 1, u, h => by
  rw [decF]
  by_cases hu : u < 10
  ·rw [if_pos (by rw [qs1]; exact hu)]
   refine ⟨?_, fun b hb => ?_, by simp⟩
   ·show 10 * 0 + ((UInt8.ofNat (48 + u)).toNat - 48) = u
    rw [zP hu]; omega
   ·obtain rfl := List.mem_singleton.1 hb
    unfold qB; rw [zP hu]; simp; omega
  ·rw [if_neg (by rw [qs1]; exact hu)]
   obtain ⟨i1, i2, i3⟩ := qkR k (u / 10) (by rw [Nat.pow_succ] at h; omega)
   have hm : u % 10 < 10 := Nat.mod_lt _ (by decide)
   refine ⟨?_, fun b hb => ?_, by simp⟩
   ·rw [qoQ, i1, zP hm]; omega
   ·rcases qsS.1 hb with hb | hb
    ·exact i2 b hb
    ·obtain rfl := List.mem_singleton.1 hb
     unfold qB; rw [zP hm]; simp; omega
theorem qo9 {n : Int} (h0 : 0 ≤ n) (h1 : n ≤ 576460752303423487) : (numA (vW n) : Int) = n ∧ (∀ b ∈ vW n, qB b = true) ∧ vW n ≠ [] := by
 unfold vW
 rw [if_neg (by omega)]
 obtain ⟨i1, i2, i3⟩ := qkR 19 n.toNat (by omega)
 exact ⟨by rw [i1]; omega, i2, i3⟩
theorem clsA (c : UInt8) : (vI c = true → qB c = false ∧ (c == 36) = false ∧ (c == 39) = false ∧ bigA c = false ∧ qo c = true) ∧ (bigA c = true → qB c = false ∧ (c == 36) = false ∧ (c == 39) = false ∧ vI c = false ∧ qo c = true) := by
 have h : ∀ n : Fin 256, (vI (UInt8.ofNat n) = true → qB (UInt8.ofNat n) = false ∧ ((UInt8.ofNat n) == 36) = false ∧ ((UInt8.ofNat n) == 39) = false ∧ bigA (UInt8.ofNat n) = false ∧ qo (UInt8.ofNat n) = true) ∧ (bigA (UInt8.ofNat n) = true → qB (UInt8.ofNat n) = false ∧ ((UInt8.ofNat n) == 36) = false ∧ ((UInt8.ofNat n) == 39) = false ∧ vI (UInt8.ofNat n) = false ∧ qo (UInt8.ofNat n) = true) := by decide
 have := h ⟨c.toNat, c.toNat_lt⟩
 simpa using this
theorem qmD : ∀ k : Fin 16, hexA (hexd k) = some (k : Nat) := by decide
theorem qoL (s : List UInt8) : ∀ (acc r : List UInt8), q5 0 (s.flatMap escB ++ 39 :: r) acc = some (acc ++ s, (s.flatMap escB).length + 1) := by
 induction s with
 | nil => intro acc r; simp [q5]
 | cons b s ih =>
  intro acc r
  have nxt := ih (acc ++ [b]) r
  rw [List.flatMap_cons, List.append_assoc]
  by_cases h1 : b = 39 ∨ b = 92
  ·rw [show escB b = [92, b] by unfold escB; rw [if_pos h1]]
   have he : escA (b :: (s.flatMap escB ++ 39 :: r)) = some (b, 1) := by
    rcases h1 with rfl | rfl <;> rfl
   show q5 0 (92 :: b :: (s.flatMap escB ++ 39 :: r)) acc = _
   rw [q5, if_neg (by decide), if_pos (by decide), he]
   show (q5 1 (b :: (s.flatMap escB ++ 39 :: r)) (acc ++ [b])).map _ = _
   rw [q5, nxt]
   simp
  ·by_cases h2 : b.toNat < 32 ∨ 126 < b.toNat
   ·rw [show escB b = [92, 120, hexd (b.toNat / 16), hexd (b.toNat % 16)] by unfold escB; rw [if_neg h1, if_pos h2]]
    have hlt := b.toNat_lt
    have e1 := qmD ⟨b.toNat / 16, by omega⟩
    have e2 := qmD ⟨b.toNat % 16, Nat.mod_lt _ (by decide)⟩
    simp only at e1 e2
    have he : escA (120 :: hexd (b.toNat / 16) :: hexd (b.toNat % 16) :: (s.flatMap escB ++ 39 :: r)) = some (b, 3) := by
     rw [escA, if_neg (by decide), if_neg (by decide), if_neg (by decide), if_neg (by decide), if_neg (by decide), if_pos (by decide), qe9]
     simp only [e1, e2]
     rw [show 16 * (b.toNat / 16) + b.toNat % 16 = b.toNat by omega, UInt8.ofNat_toNat]
    show q5 0 (92 :: 120 :: hexd (b.toNat / 16) :: hexd (b.toNat % 16) :: (s.flatMap escB ++ 39 :: r)) acc = _
    rw [q5, if_neg (by decide), if_pos (by decide), he]
    show (q5 3 (120 :: hexd (b.toNat / 16) :: hexd (b.toNat % 16) :: (s.flatMap escB ++ 39 :: r)) (acc ++ [b])).map _ = _
    rw [q5, q5, q5, nxt]
    simp
   ·rw [show escB b = [b] by unfold escB; rw [if_neg h1, if_neg h2]]
    show q5 0 (b :: (s.flatMap escB ++ 39 :: r)) acc = _
    have n39 : (b == 39) = false := by simpa using fun h => h1 (.inl h)
    have n92 : (b == 92) = false := by simpa using fun h => h1 (.inr h)
    rw [q5, if_neg (by simp [n39]), if_neg (by simp [n92]), if_pos (by simp; omega), nxt]
    simp
theorem qix : ∀ g ∈ xx, (32 : UInt8) ∉ g := by decide
theorem qpI : ∀ g ∈ xx, xx.find? (fun h => h.isPrefixOf g) = some g := by decide
theorem qpJ : ∀ g ∈ xx, (match g with | c :: _ => !qB c && !(c == 36) && !(c == 39) && !bigA c && !vI c && !yz c && !(c == 37) | [] => false) = true := by decide
theorem qmv {g s r : List UInt8} (hg : (32 : UInt8) ∉ g) (hr : brk r) : g.isPrefixOf (s ++ r) = g.isPrefixOf s := by
 rcases hr with rfl | ⟨t, rfl⟩
 ·rw [List.append_nil]
 ·induction g generalizing s with
  | nil => simp [List.isPrefixOf]
  | cons a g ih =>
   have ha : a ≠ 32 := fun h => hg (by simp [h])
   have hg' : (32 : UInt8) ∉ g := fun h => hg (by simp [h])
   cases s with
   | nil => simp [List.isPrefixOf, ha]
   | cons b s => simp only [List.cons_append, List.isPrefixOf, ih hg']
theorem qoC {g r : List UInt8} (hg : g ∈ xx) (hr : brk r) : qb0 (g ++ r) = some g := by
 unfold qb0
 rw [show (fun h : List UInt8 => h.isPrefixOf (g ++ r)) = fun h => h.isPrefixOf (g ++ r) from rfl]
 have e : xx.find? (fun h => h.isPrefixOf (g ++ r)) = xx.find? (fun h => h.isPrefixOf g) := by
  have : ∀ l : List (List UInt8), (∀ h ∈ l, (32 : UInt8) ∉ h) → l.find? (fun h => h.isPrefixOf (g ++ r)) = l.find? (fun h => h.isPrefixOf g) := by
   intro l
   induction l with
   | nil => intro _; rfl
   | cons a l ih =>
    intro h
    rw [List.find?_cons, List.find?_cons, qmv (h a (by simp)) hr, ih fun x hx => h x (by simp [hx])]
  exact this xx qix
 rw [e, qpI g hg]
theorem qrN : ∀ g ∈ vX, g.all qo = true ∧ (match g with | c :: _ => vI c | [] => false) = true := by decide
theorem qiq {c : UInt8} {w r : List UInt8} (hs : vI c = true) (hl : (c :: w).all qo = true) (hr : brk r) : tokR (c :: w ++ r) = if vX.contains (c :: w) then .ok 4 0 (c :: w) (c :: w).length else vJ 2 (c :: w) (c :: w).length := by
 have htw := qhD (f := qo) (by decide) (c :: w) r (qs3.1 hl) hr
 obtain ⟨a1, a2, a3, a4, _⟩ := (clsA c).1 hs
 rw [List.cons_append] at htw ⊢
 unfold tokR
 simp only [a1, a2, a3, a4, hs, htw, qsG, if_false, if_true]
theorem qpB {k n : Int} {s r : List UInt8} (h : mayA k n s = true) (hr : brk r) : tokR (tokA k n s ++ r) = .ok k n s (tokA k n s).length ∧ ∃ c t, tokA k n s = c :: t ∧ yz c = false ∧ (c == 37) = false := by
 unfold mayA at h
 split at h
 ·rename_i hk
  subst hk
  simp only [qsz, decide_eq_true_eq, beq_iff_eq] at h
  obtain ⟨h0, h1, rfl⟩ := h
  obtain ⟨i1, i2, i3⟩ := qo9 h0 h1
  unfold tokA
  rw [if_pos rfl]
  have htw := qhD (f := qB) (by decide) (vW n) r i2 hr
  cases hd : vW n with
  | nil => exact absurd hd i3
  | cons c t =>
   have hc := i2 c (by rw [hd]; simp)
   rw [hd] at htw i1
   have hcd : 48 ≤ c.toNat ∧ c.toNat ≤ 57 := by simpa [qB] using hc
   refine ⟨?_, c, t, rfl, ?_, ?_⟩
   ·rw [List.cons_append] at htw ⊢
    unfold tokR
    simp only [hc, if_true, htw]
    rw [if_neg (by omega), i1]
   ·unfold yz
    have : ∀ x : UInt8, x.toNat < 48 → (c == x) = false := fun x hx => by rw [beq_eq_false_iff_ne]; rintro rfl; omega
    rw [this 9 (by decide), this 10 (by decide), this 13 (by decide), this 32 (by decide)]; rfl
   ·rw [beq_eq_false_iff_ne]; rintro rfl; revert hcd; decide
 split at h
 ·rename_i _ hk
  subst hk
  simp only [qsz, decide_eq_true_eq, beq_iff_eq] at h
  obtain ⟨rfl, hl⟩ := h
  unfold tokA
  rw [if_neg (by decide), if_pos rfl]
  by_cases hp : qaP s = true
  ·rw [if_pos hp]
   unfold qaP at hp
   simp only [qsz, decide_eq_true_eq, Bool.not_eq_true'] at hp
   obtain ⟨⟨⟨h1, h2⟩, h3⟩, h4⟩ := hp
   cases s with
   | nil => cases h1
   | cons c w =>
    simp only at h1
    refine ⟨?_, c, w, rfl, ?_, ?_⟩
    ·rw [qiq h1 h3 hr, h4]
     unfold vJ
     rw [if_neg (by decide), if_neg (by omega)]
    ·have : 97 ≤ c.toNat ∧ c.toNat ≤ 122 := by simpa [vI] using h1
     unfold yz
     have hx : ∀ x : UInt8, x.toNat < 97 → (c == x) = false := fun x hx => by rw [beq_eq_false_iff_ne]; rintro rfl; omega
     rw [hx 9 (by decide), hx 10 (by decide), hx 13 (by decide), hx 32 (by decide)]; rfl
    ·rw [beq_eq_false_iff_ne]; rintro rfl; revert h1; decide
  ·rw [if_neg hp]
   refine ⟨?_, 39, s.flatMap escB ++ [39], rfl, rfl, rfl⟩
   unfold zd
   rw [List.cons_append, List.append_assoc]
   show tokR (39 :: (s.flatMap escB ++ 39 :: r)) = _
   have hq := qoL s [] r
   unfold tokR
   simp only [show qB 39 = false from rfl, show ((39 : UInt8) == 36) = false from rfl, show ((39 : UInt8) == 39) = true from rfl, qsG, if_false, if_true, hq, List.nil_append]
   unfold vJ
   rw [if_neg (by omega)]
   simp
 split at h
 ·rename_i _ _ hk
  subst hk
  simp only [qsz, beq_iff_eq] at h
  obtain ⟨rfl, hv⟩ := h
  unfold varA at hv
  simp only [qsz, decide_eq_true_eq] at hv
  obtain ⟨⟨h1, h2⟩, h3⟩ := hv
  unfold tokA
  rw [if_neg (by decide), if_neg (by decide), if_neg (by decide)]
  cases s with
  | nil => cases h1
  | cons c w =>
   simp only at h1
   have htw := qhD (f := qo) (by decide) (c :: w) r (qs3.1 h3) hr
   obtain ⟨a1, a2, a3, a4, _⟩ := (clsA c).2 h1
   refine ⟨?_, c, w, rfl, ?_, ?_⟩
   ·rw [List.cons_append] at htw ⊢
    unfold tokR
    simp only [a1, a2, a3, h1, htw, qsG, if_false, if_true]
    unfold vJ
    rw [if_neg (by omega)]
   ·have hb : ∀ n : Fin 256, bigA (UInt8.ofNat n) = true → yz (UInt8.ofNat n) = false := by decide
    have := hb ⟨c.toNat, c.toNat_lt⟩
    simp only [UInt8.ofNat_toNat] at this
    exact this h1
   ·rw [beq_eq_false_iff_ne]; rintro rfl; revert h1; decide
 split at h
 ·rename_i _ _ _ hk
  subst hk
  simp only [qsz, beq_iff_eq] at h
  obtain ⟨rfl, hw⟩ := h
  obtain ⟨h1, h2⟩ := qrN s (by simpa using hw)
  unfold tokA
  rw [if_neg (by decide), if_neg (by decide), if_neg (by decide)]
  cases s with
  | nil => cases h2
  | cons c w =>
   simp only at h2
   refine ⟨?_, c, w, rfl, ?_, ?_⟩
   ·rw [qiq h2 h1 hr, hw]; rfl
   ·have : 97 ≤ c.toNat ∧ c.toNat ≤ 122 := by simpa [vI] using h2
    unfold yz
    have hx : ∀ x : UInt8, x.toNat < 97 → (c == x) = false := fun x hx => by rw [beq_eq_false_iff_ne]; rintro rfl; omega
    rw [hx 9 (by decide), hx 10 (by decide), hx 13 (by decide), hx 32 (by decide)]; rfl
   ·rw [beq_eq_false_iff_ne]; rintro rfl; revert h2; decide
 split at h
 ·rename_i _ _ _ _ hk
  subst hk
  simp only [qsz, beq_iff_eq] at h
  obtain ⟨rfl, hw⟩ := h
  have hm : s ∈ xx := by simpa using hw
  have hh := qpJ s hm
  have hsg := qoC hm hr
  unfold tokA
  rw [if_neg (by decide), if_neg (by decide), if_neg (by decide)]
  cases s with
  | nil => cases hh
  | cons c w =>
   simp only [qsz, Bool.not_eq_true'] at hh
   obtain ⟨⟨⟨⟨⟨⟨a1, a2⟩, a3⟩, a4⟩, a5⟩, a6⟩, a7⟩ := hh
   refine ⟨?_, c, w, rfl, a6, a7⟩
   rw [List.cons_append] at hsg ⊢
   unfold tokR
   simp only [a1, a2, a3, a4, a5, qsG, if_false, hsg]
 split at h
 ·rename_i _ _ _ _ _ hk
  subst hk
  simp only [qsz, beq_iff_eq] at h
  obtain ⟨rfl, rfl⟩ := h
  unfold tokA
  rw [if_neg (by decide), if_neg (by decide), if_pos rfl]
  refine ⟨?_, 46, [], rfl, rfl, rfl⟩
  have hsg : qb0 ([46] ++ r) = none := by
   unfold qb0
   rw [List.find?_eq_none]
   intro g hg
   rw [qmv (qix g hg) hr]
   have : ∀ g ∈ xx, ¬ (g.isPrefixOf [46] = true) := by decide
   exact this g hg
  have hst : qaA ([46] ++ r) = true := by
   rcases hr with rfl | ⟨t, rfl⟩
   ·rfl
   ·rfl
  show tokR (46 :: r) = _
  have hsg : qb0 (46 :: r) = none := hsg
  have hst : qaA (46 :: r) = true := hst
  unfold tokR
  simp only [show qB 46 = false from rfl, show ((46 : UInt8) == 36) = false from rfl, show ((46 : UInt8) == 39) = false from rfl, show bigA 46 = false from rfl, show vI 46 = false from rfl, qsG, if_false, if_true, hsg, hst]
  rfl
 ·cases h
def putA : List TokA → List UInt8
 | [] => []
 | [t] => t.text
 | t :: u :: l => t.text ++ 32 :: putA (u :: l)
theorem qeg : ∀ l : List TokA, putA l = Go.Lib.join (l.map TokA.text) [32]
 | [] => by simp [putA, Go.Lib.join, List.intercalate]
 | [t] => by simp [putA, Go.Lib.join, List.intercalate]
 | t :: u :: l => by
  rw [putA, qeg (u :: l)]
  simp [Go.Lib.join, List.intercalate]
inductive AtA : Nat → List TokA → List TokA → Prop where
 | nil (p : Nat) : AtA p [] []
 | cons (p a : Nat) (t : TokA) (l m : List TokA) (hp : p ≤ a) (h : AtA (a + 1) l m) : AtA p (t :: l) (⟨t.k, t.n, (a : Int), t.s⟩ :: m)
theorem AtA.mono {p q : Nat} {l m : List TokA} (h : AtA p l m) (hq : q ≤ p) : AtA q l m := by
 cases h with
 | nil => exact .nil q
 | cons _ a t l m hp h => exact .cons q a t l m (Nat.le_trans hq hp) h
theorem qiw {c : UInt8} {r : List UInt8} (h1 : yz c = false) (h2 : (c == 37) = false) : vo false (c :: r) = 0 := by
 rw [vo, if_neg (by simp [h1]), if_neg (by simp [h2])]
theorem qjW : ∀ (l : List TokA) (s : List UInt8) (f p : Nat) (acc : List TokA), (∀ t ∈ l, t.may = true) → s.drop p = putA l ∨ s.drop p = 32 :: putA l → s.length < p + f → p ≤ s.length → ∃ m, zV s f p acc = .ok (acc ++ m) ∧ AtA p l m
 | [], s, f, p, acc, _, hd, hf, hp => by
  refine ⟨[], ?_, .nil p⟩
  rw [List.append_nil]
  cases f with
  | zero => rfl
  | succ f =>
   have hl : (s.drop p).length = s.length - p := List.length_drop
   rw [zV]
   rcases hd with hd | hd
   ·rw [hd] at hl ⊢
    rw [if_pos (by simp [putA] at hl; omega)]
   ·rw [hd] at hl ⊢
    have : vo false (32 :: putA []) = 1 := by decide
    rw [this, if_pos (by simp [putA] at hl; omega)]
 | t :: l, s, 0, p, acc, _, hd, hf, hp => by omega
 | t :: l, s, f + 1, p, acc, hm, hd, hf, hp => by
  -- the rest behind this word
  obtain ⟨rest, hput, hrest⟩ : ∃ rest, putA (t :: l) = t.text ++ rest ∧ ((l = [] ∧ rest = []) ∨ rest = 32 :: putA l) := by
   cases l with
   | nil => exact ⟨[], by simp [putA], .inl ⟨rfl, rfl⟩⟩
   | cons u l => exact ⟨32 :: putA (u :: l), rfl, .inr rfl⟩
  have hbrk : brk rest := by
   rcases hrest with ⟨_, h⟩ | h
   ·exact .inl h
   ·exact .inr ⟨_, h⟩
  obtain ⟨htok, c, w, htx, hb1, hb2⟩ := qpB (hm t (by simp)) hbrk
  have htx : t.text = c :: w := htx
  have htok : tokR (t.text ++ rest) = .ok t.k t.n t.s t.text.length := htok
  -- how many are passed
  obtain ⟨sk, hsk, hd2⟩ : ∃ sk, vo false (s.drop p) = sk ∧ s.drop (p + sk) = t.text ++ rest := by
   rcases hd with hd | hd
   ·refine ⟨0, ?_, by rw [Nat.add_zero, hd, hput]⟩
    rw [hd, hput, htx, List.cons_append, qiw hb1 hb2]
   ·refine ⟨1, ?_, ?_⟩
    ·rw [hd, hput, htx, List.cons_append, vo, if_pos (by decide), qiw hb1 hb2]
    ·rw [← List.drop_drop, hd, List.drop_succ_cons, List.drop_zero, hput]
  have hlen : (s.drop (p + sk)).length = s.length - (p + sk) := List.length_drop
  rw [hd2, qsR] at hlen
  have hne : 1 ≤ t.text.length := by rw [htx]; simp
  rw [zV, hsk, if_neg (by omega), hd2, htok, qjc]
  have hd3 : s.drop (p + sk + t.text.length) = rest := by rw [← List.drop_drop, hd2, List.drop_left]
  have hd4 : s.drop (p + sk + t.text.length) = putA l ∨ s.drop (p + sk + t.text.length) = 32 :: putA l := by
   rcases hrest with ⟨e1, e2⟩ | h
   ·left; rw [hd3, e1, e2]; rfl
   ·right; rw [hd3, h]
  obtain ⟨m, hm1, hm2⟩ := qjW l s f (p + sk + t.text.length) (acc ++ [⟨t.k, t.n, ((p + sk : Nat) : Int), t.s⟩]) (fun x hx => hm x (by simp [hx])) hd4 (by omega) (by omega)
  refine ⟨⟨t.k, t.n, ((p + sk : Nat) : Int), t.s⟩ :: m, ?_, .cons p (p + sk) t l m (by omega) (hm2.mono (by omega))⟩
  rw [hm1]; simp
theorem qgz {l : List TokA} (hm : l.all TokA.may = true) (hl : (Go.Lib.join (l.map TokA.text) [32]).length ≤ 65536) : ∃ m, zy (Go.Lib.join (l.map TokA.text) [32]) = .ok m ∧ AtA 0 l m := by
 unfold zy
 rw [if_neg (by omega)]
 obtain ⟨m, h1, h2⟩ := qjW l (Go.Lib.join (l.map TokA.text) [32]) ((Go.Lib.join (l.map TokA.text) [32]).length + 1) 0 [] (qs3.1 hm) (.inl (by rw [List.drop_zero, qeg])) (by omega) (by omega)
 exact ⟨m, by rw [h1]; rfl, h2⟩
theorem qmt {f : UInt8 → Bool} : ∀ (r : List UInt8), ∀ b ∈ r.takeWhile f, f b = true
 | [], b, h => by simp at h
 | a :: r, b, h => by
  rw [List.takeWhile_cons] at h
  split at h
  ·rename_i ha
   rcases qsV.1 h with rfl | h
   ·exact ha
   ·exact qmt r b h
  ·simp at h
theorem qaB : ∀ (r : List UInt8) (k : Nat) (acc : List UInt8) {q : List UInt8 × Nat}, q5 k r acc = some q → q.1.length ≤ acc.length + q.2
 | [], k, acc, q, h => by cases k <;> cases h
 | c :: r, k + 1, acc, q, h => by
  rw [q5] at h
  obtain ⟨q', h1, rfl⟩ := qsC.1 h
  have := qaB r k acc h1
  simp; omega
 | c :: r, 0, acc, q, h => by
  rw [q5] at h
  split at h
  ·cases h; simp
  ·split at h
   ·split at h
    ·obtain ⟨q', h1, rfl⟩ := qsC.1 h
     have := qaB r _ _ h1
     simp at this ⊢; omega
    ·cases h
   ·split at h
    ·obtain ⟨q', h1, rfl⟩ := qsC.1 h
     have := qaB r _ _ h1
     simp at this ⊢; omega
    ·cases h
theorem qnq {r : List UInt8} {q : List UInt8 × Nat} (h : q5 0 r [] = some q) : q.1.length ≤ q.2 + 1 := by
 have := qaB r 0 [] h
 simp at this; omega
theorem qq5 {c : UInt8} {r : List UInt8} {k n : Int} {w : List UInt8} {len : Nat} (h : tokR (c :: r) = .ok k n w len) : mayA k n w = true ∧ w.length ≤ len := by
 have l2 := fun f : UInt8 → Bool => qd4 (f := f) (c :: r)
 unfold tokR at h
 simp only at h
 split at h
 ·split at h
  ·cases h
  ·cases h
   refine ⟨?_, by simp⟩
   unfold mayA
   rw [if_pos rfl]
   simp; omega
 split at h
 ·unfold qdB at h
  split at h
  ·cases h
  ·rename_i x r'
   split at h
   ·split at h
    ·rename_i e he
     cases h
     refine ⟨?_, by simp⟩
     unfold mayA
     rw [if_pos rfl]
     have := e.1.toNat_lt
     simp; omega
    ·cases h
   ·split at h
    ·cases h
     refine ⟨?_, by simp⟩
     unfold mayA
     rw [if_pos rfl]
     have := x.toNat_lt
     simp; omega
    ·cases h
 have atom : ∀ {k' : Int} {w' : List UInt8} {len' : Nat}, vJ k' w' len' = .ok k n w len → k = k' ∧ n = 0 ∧ w = w' ∧ len = len' ∧ w'.length ≤ 64 := by
  intro k' w' len' h
  unfold vJ at h
  split at h
  ·cases h
  ·cases h; exact ⟨rfl, rfl, rfl, rfl, by omega⟩
 split at h
 ·split at h
  ·rename_i q hq
   obtain ⟨rfl, rfl, rfl, rfl, h5⟩ := atom h
   refine ⟨?_, ?_⟩
   ·unfold mayA
    rw [if_neg (by decide), if_pos rfl]
    simp [h5]
   ·have := qnq hq
    simpa using this
  ·cases h
 split at h
 ·rename_i hb
  obtain ⟨rfl, rfl, rfl, rfl, h5⟩ := atom h
  refine ⟨?_, qsF _⟩
  unfold mayA
  rw [if_neg (by decide), if_neg (by decide), if_pos rfl]
  have hlc := ((clsA c).2 hb).2.2.2.2
  have hall : ((c :: r).takeWhile qo).all qo = true := qs3.2 (qmt _)
  unfold varA
  rw [hall, decide_eq_true h5, List.takeWhile_cons, if_pos hlc]
  simp [hb]
 split at h
 ·rename_i hs
  split at h
  ·rename_i hw
   cases h
   refine ⟨?_, qsF _⟩
   unfold mayA
   rw [if_neg (by decide), if_neg (by decide), if_neg (by decide), if_pos rfl, hw]
   rfl
  ·obtain ⟨rfl, rfl, rfl, rfl, h5⟩ := atom h
   refine ⟨?_, qsF _⟩
   unfold mayA
   rw [if_neg (by decide), if_pos rfl]
   simp [h5]
 split at h
 ·rename_i g hg
  have hm := List.mem_of_find?_eq_some hg
  cases h
  refine ⟨?_, qsF _⟩
  unfold mayA
  rw [if_neg (by decide), if_neg (by decide), if_neg (by decide), if_neg (by decide), if_pos rfl]
  simp [hm]
 ·split at h
  ·cases h; exact ⟨rfl, by simp⟩
  ·cases h
theorem qpC {k n : Int} {s : List UInt8} (h : mayA k n s = true) : (tokA k n s).length ≤ 4 * s.length + 22 := by
 unfold tokA
 split
 ·have : (vW n).length ≤ 21 := by
   unfold vW
   have h20 : ∀ (k u : Nat), (decF k u).length ≤ k := by
    intro k
    induction k with
    | zero => intro u; simp [decF]
    | succ k ih =>
     intro u
     rw [decF]
     split
     ·simp
     ·have := ih (u / 10); simp; omega
   have h1 := h20 20 n.natAbs
   have h2 := h20 20 n.toNat
   split
   ·simp; omega
   ·omega
  omega
 split
 ·split
  ·omega
  ·have := qbK s
   unfold zd
   rw [qsQ, qsR, List.length_singleton]
   omega
 split
 ·simp
 ·omega
theorem qjX {s : List UInt8} : ∀ (f p : Nat) (acc l : List TokA), zV s f p acc = .ok l → p ≤ s.length → ∃ m, l = acc ++ m ∧ (∀ t ∈ m, t.may = true) ∧ m.length ≤ s.length - p ∧ (m.map fun t => t.s.length).sum ≤ s.length - p
 | 0, p, acc, l, h, hp => by cases h; exact ⟨[], by simp, by simp, by simp, by simp⟩
 | f + 1, p, acc, l, h, hp => by
  rw [zV] at h
  have hsk := qaq false (s.drop p)
  rw [List.length_drop] at hsk
  generalize hp1 : p + vo false (s.drop p) = p1 at *
  by_cases hg : s.length ≤ p1
  ·rw [if_pos hg] at h; cases h; exact ⟨[], by simp, by simp, by simp, by simp⟩
  ·rw [if_neg hg] at h
   have hd : s.drop p1 = s[p1] :: s.drop (p1 + 1) := List.drop_eq_getElem_cons (by omega)
   cases ht : tokR (s.drop p1) with
   | err e => rw [ht] at h; cases h
   | ok k n w len =>
    rw [ht] at h
    rw [hd] at ht
    have hl := qjK ht
    obtain ⟨m1, m2⟩ := qq5 ht
    rw [← hd, List.length_drop] at hl
    obtain ⟨m, e1, e2, e3, e4⟩ := qjX f (p1 + len) _ l h (by omega)
    refine ⟨⟨k, n, (p1 : Nat), w⟩ :: m, by rw [e1]; simp, fun t ht => ?_, by simp; omega, by simp; omega⟩
    rcases qsV.1 ht with rfl | ht
    ·exact m1
    ·exact e2 t ht
theorem qiM : ∀ (l : List TokA), l.all TokA.may = true → (Go.Lib.join (l.map TokA.text) [32]).length ≤ 4 * (l.map fun t => t.s.length).sum + 23 * l.length := by
 intro l
 rw [← qeg]
 induction l with
 | nil => intro _; simp [putA]
 | cons t l ih =>
  intro h
  rw [List.all_cons, qsz] at h
  have h1 : t.text.length ≤ 4 * t.s.length + 22 := qpC h.1
  have h2 := ih h.2
  cases l with
  | nil => simp [putA]; omega
  | cons u l =>
   rw [putA, qsR, qsQ, List.map_cons, List.sum_cons, qsQ]
   omega
theorem qnd {s : List UInt8} (hs : s.length ≤ 2000) {l : List TokA} (h : zy s = .ok l) : l.all TokA.may = true ∧ l.length ≤ 2000 ∧ (Go.Lib.join (l.map TokA.text) [32]).length ≤ 65536 ∧ (l.map fun t => t.s.length).sum ≤ 2000 := by
 unfold zy at h
 rw [if_neg (by omega)] at h
 obtain ⟨m, e1, e2, e3, e4⟩ := qjX _ _ _ _ h (by omega)
 rw [List.nil_append] at e1
 subst e1
 have hm : l.all TokA.may = true := qs3.2 e2
 have := qiM l hm
 exact ⟨hm, by omega, by omega, by omega⟩
theorem AtA.len {p : Nat} {l m : List TokA} (h : AtA p l m) : m.length = l.length := by
 induction h with
 | nil => rfl
 | cons p a t l m hp h ih => simp [ih]
theorem AtA.low {p : Nat} {l m : List TokA} (h : AtA p l m) {u : TokA} (hu : m[0]? = some u) : (p : Int) ≤ u.a := by
 cases h with
 | nil => simp at hu
 | cons _ a t l m hp h => simp at hu; subst hu; simp; omega
theorem AtA.get {p : Nat} {l m : List TokA} (h : AtA p l m) : ∀ (i : Nat) {t u : TokA}, l[i]? = some t → m[i]? = some u → u.k = t.k ∧ u.n = t.n ∧ u.s = t.s ∧ ∀ v, m[i + 1]? = some v → u.a < v.a := by
 induction h with
 | nil => intro i t u h; simp at h
 | cons p a t' l m hp h ih =>
  intro i t u h1 h2
  cases i with
  | zero =>
   simp at h1 h2
   subst h1 h2
   refine ⟨rfl, rfl, rfl, fun v hv => ?_⟩
   have := h.low (by simpa using hv)
   simp; omega
  | succ i =>
   have := ih i (by simpa using h1) (by simpa using h2)
   simpa using this
theorem qmy {k n : Int} {s : List UInt8} (h : mayA k n s = true) : s.length ≤ 64 := by
 have hw : ∀ g ∈ vX, g.length ≤ 64 := by decide
 have hs : ∀ g ∈ xx, g.length ≤ 64 := by decide
 unfold mayA at h
 split at h
 ·simp only [qsz, beq_iff_eq] at h; rw [h.2.2]; simp
 split at h
 ·simp only [qsz, decide_eq_true_eq] at h; exact h.2
 split at h
 ·simp only [qsz, varA, decide_eq_true_eq] at h; exact h.2.1.2
 split at h
 ·simp only [qsz] at h; exact hw s (by simpa using h.2)
 split at h
 ·simp only [qsz] at h; exact hs s (by simpa using h.2)
 split at h
 ·simp only [qsz, beq_iff_eq] at h; rw [h.2]; simp
 ·cases h
end Go.Av
end
section
namespace Go.Proofs.YtkohdkldmpiiiaaGreatDoor
open Go.Av
noncomputable def qrB : Den := evC cfg (EV cfg) 14 none 0 (sub (qx Tryz.f14) [1, 0, 1, 0, 0])
noncomputable def qrG : Ex × List AV × AH → Option AV := kAft (Cfg.keepOut cfg 14 2) (kRun cfg (EV cfg) (kfN cfg 6) 14 none 0 (qbc cfg (Cfg.lift cfg 14 0) Tryz.f14.results.toList) ([.block 0, .seq (sub (qx Tryz.f14) [1, 1])]))
noncomputable def qrw : List AV × AH → Option AV := fun p => kOpt (LOOP 0 (some [0, 3]) ([]) qrB p) qrG
noncomputable def qrA : Den := evC cfg (EV cfg) 16 none 0 (sub (qx Tryz.f16) [1, 1, 1, 0, 1, 0, 0])
noncomputable def qrF : Ex × List AV × AH → Option AV := kAft (Cfg.keepOut cfg 16 5) (kRun cfg (EV cfg) (kfN cfg 6) 16 none 0 (qbc cfg (Cfg.lift cfg 16 0) Tryz.f16.results.toList) ([.block 0, .seq (sub (qx Tryz.f16) [1, 1, 1, 1])]))
noncomputable def qrv : List AV × AH → Option AV := fun p => kOpt (LOOP 0 (some [1, 5, 7]) ([]) qrA p) qrF
noncomputable abbrev qeT (l : Rz) (v3 : Int) : Option (AV) := qrw  (((fx 20 [(0, .sl l), (3, .int .i64 v3)]) : List AV), ([] : AH))
noncomputable abbrev qcG (l rows : Rz) (v7 : Int) : Option (AV) := qrv  (((fx 84 [(1, .sl l), (5, .sl rows), (7, .int .i64 v7)]) : List AV), ([] : AH))
theorem qlH (l : Rz) {P : AV → Prop} (h : Gets (qeT l 0) P) : Gets (EVs (EV cfg) 14 [.sl l]) P :=
  gE (fun _ => funS rfl rfl Tryz.func14 rfl) (by kernel_rfl) h
theorem qlI (w : Bz) (l : Rz) {P : AV → Prop} (h : Gets (kOpt (EVf (EV cfg) 17 [.str w]) fun v => kTup v fun cs => qf cs fun c cs => kSl c fun rows => qf cs fun c cs => kAgg c fun cs_1 => qf cs_1 fun c cs_2 => kInt .i64 c fun n => qf cs_2 fun c cs_3 => kInt .i64 c fun n_1 => kNil cs_3 (kNil cs (bif n != 0 then some (.bool false) else bif (rows.length : Int) != (l.length : Int) then some (.bool false) else qcG l rows 0))) P) : Gets (EVs (EV cfg) 16 [.str w, .sl l]) P :=
  gE (fun _ => funS rfl rfl Tryz.func16 rfl) (by kernel_rfl) h
noncomputable abbrev zk4 (cs : List AV) (b : Bool) (s : Bz) (rows : Rz) : Option (AV) := qf cs fun c cs => kInt .i64 c fun n => kNil cs (bif b then bif n == 0 then kOpt (EVs (EV cfg) 16 [.str s, .sl rows]) fun v => qO v fun b => some (.bool b) else some (.bool false) else some (.bool false))
noncomputable abbrev zk3 (c : AV) (cs : List AV) (b : Bool) (rows : Rz) : Option (AV) := kStr c fun s => zk4 cs b s rows
noncomputable abbrev zk2 (cs : List AV) (b : Bool) (rows : Rz) : Option (AV) := qf cs fun c cs => zk3 c cs b rows
noncomputable abbrev zk1 (v : AV) (b : Bool) (rows : Rz) : Option (AV) := kTup v fun cs => zk2 cs b rows
noncomputable abbrev zk0 (rows : Rz) (b : Bool) : Option (AV) := kOpt (EVf (EV cfg) 15 [.sl rows]) fun v => zk1 v b rows
theorem qnf (l : Rz) (w : Bz) {P : AV → Prop} (h : Gets (kOpt (EVs (EV cfg) 13 []) fun v => qO v fun b => kOpt (EVs (EV cfg) 14 [.sl l]) fun v => qO v fun b_1 => bif b_1 then some (.bool b) else bif decide ((w.length : Int) > 2000) then some (.bool b) else kOpt (EVf (EV cfg) 15 [.sl l]) fun v => kTup v fun cs => qf cs fun c cs => kStr c fun s => qf cs fun c cs => kInt .i64 c fun n => kNil cs (bif n == 0 then kOpt (EVs (EV cfg) 16 [.str s, .sl l]) fun v => qO v fun b_2 => bif ! b_2 then some (.bool false) else kOpt (EVf (EV cfg) 17 [.str w]) fun v => kTup v fun cs => qf cs fun c cs => kSl c fun rows => qf cs fun c cs => kAgg c fun cs_1 => qf cs_1 fun c cs_2 => kInt .i64 c fun n => qf cs_2 fun c cs_3 => kInt .i64 c fun n_1 => kNil cs_3 (kNil cs (bif n != 0 then bif b then some (.bool ((rows.length : Int) == (0 : Int))) else some (.bool false) else zk0 rows b)) else kOpt (EVf (EV cfg) 17 [.str w]) fun v => kTup v fun cs => qf cs fun c cs => kSl c fun rows => qf cs fun c cs => kAgg c fun cs_1 => qf cs_1 fun c cs_2 => kInt .i64 c fun n => qf cs_2 fun c cs_3 => kInt .i64 c fun n_1 => kNil cs_3 (kNil cs (bif n != 0 then bif b then some (.bool ((↑ (qsO rows) : Int) == 0)) else some (.bool false) else zk0 rows b)))) P) : Gets (EVs (EV cfg) 4 [.sl l, .str w]) P :=
  gE (fun _ => funS rfl rfl Tryz.func4 rfl) (by kernel_rfl) h
theorem qd1 (l : Rz) (v3 : Int) {P : AV → Prop} (h : Gets (bif decide (v3 < (l.length : Int)) then bif qe 0 v3 && qT v3 (l.length : Int) then kOpt (qsH l (v3.toNat)) fun row => bif qsL (qsO row) 4 then kOpt (qsH row 3) fun v => kStr v fun s => bif decide ((s.length : Int) > 100) then some (.bool true) else qeT l (IntKind.wrap .i64 (v3 + 1)) else none else none else some (.bool (decide ((l.length : Int) > 200)))) P) : Gets (qeT l v3) P :=
  gE (fun _ => q7 (cfg := cfg) (f := 14) (rd := none) (bs := 0)) (by kernel_rfl) h
theorem qd0 (l rows : Rz) (v7 : Int) {P : AV → Prop} (h : Gets (bif decide (v7 < (rows.length : Int)) then bif qe 0 v7 && qT v7 (rows.length : Int) then kOpt (qsH rows (v7.toNat)) fun row => bif qsL (qsO row) 4 then kOpt (qsH row 0) fun v => kInt .i64 v fun n => bif qe 0 v7 && qT v7 (l.length : Int) then kOpt (qsH l (v7.toNat)) fun row => bif qsL (qsO row) 4 then kOpt (qsH row 0) fun v => kInt .i64 v fun n_1 => bif n != n_1 then some (.bool false) else bif qe 0 v7 && qT v7 (rows.length : Int) then kOpt (qsH rows (v7.toNat)) fun row => bif qsL (qsO row) 4 then kOpt (qsH row 1) fun v => kInt .i64 v fun n => bif qe 0 v7 && qT v7 (l.length : Int) then kOpt (qsH l (v7.toNat)) fun row => bif qsL (qsO row) 4 then kOpt (qsH row 1) fun v => kInt .i64 v fun n_2 => bif n != n_2 then some (.bool false) else bif qe 0 v7 && qT v7 (rows.length : Int) then kOpt (qsH rows (v7.toNat)) fun row => bif qsL (qsO row) 4 then kOpt (qsH row 3) fun v => kStr v fun s => bif qe 0 v7 && qT v7 (l.length : Int) then kOpt (qsH l (v7.toNat)) fun row => bif qsL (qsO row) 4 then kOpt (qsH row 3) fun v => kStr v fun s_1 => bif ! s == s_1 then some (.bool false) else bif decide (v7 > 0) then bif qe 0 v7 && qT v7 (rows.length : Int) then kOpt (qsH rows (v7.toNat)) fun row => bif qsL (qsO row) 4 then kOpt (qsH row 2) fun v => kInt .i64 v fun n => bif qe 0 (IntKind.wrap .i64 (v7 - 1)) && qT (IntKind.wrap .i64 (v7 - 1)) (rows.length : Int) then kOpt (qsH rows (Int.toNat (IntKind.wrap .i64 (v7 - 1)))) fun row => bif qsL (qsO row) 4 then kOpt (qsH row 2) fun v => kInt .i64 v fun n_3 => bif decide (n ≤ n_3) then some (.bool false) else qcG l rows (IntKind.wrap .i64 (v7 + (1 : Int))) else none else none else none else none else qcG l rows (IntKind.wrap .i64 (v7 + 1)) else none else none else none else none else none else none else none else none else none else none else none else none else some (.bool true)) P) : Gets (qcG l rows v7) P :=
  gE (fun _ => q7 (cfg := cfg) (f := 16) (rd := none) (bs := 0)) (by kernel_rfl) h
theorem qjY : EVf (EV cfg) 17 [.str [102, 40, 88, 41, 32, 45, 62, 32, 36, 97, 46]] = some (.tup [.sl [[.int .i64 2, .int .i64 0, .int .i64 0, .str [102]], [.int .i64 5, .int .i64 0, .int .i64 1, .str [40]], [.int .i64 3, .int .i64 0, .int .i64 2, .str [88]], [.int .i64 5, .int .i64 0, .int .i64 3, .str [41]], [.int .i64 5, .int .i64 0, .int .i64 5, .str [45, 62]], [.int .i64 1, .int .i64 97, .int .i64 8, .str []], [.int .i64 6, .int .i64 0, .int .i64 10, .str []]], .agg [.int .i64 0, .int .i64 0]]) := qqZ (.nil) 1000 1000 (by kernel_rfl)
theorem qjZ : EVs (EV cfg) 13 [] = some (.bool true) := qsv (.consF qjY (.nil)) 1000 1000 (by kernel_rfl)
theorem qk9 {f : FuncId} {args : List AV} {sz off len : Nat} {rs : List (List AV)} {cs : List AV} (h : EVq (EV cfg) f args = some (.own sz rs off len, .agg cs)) (hl : off + len ≤ rs.length) :
  EVf (EV cfg) f args = some (.tup [.sl ((rs.drop off).take len), .agg cs]) := by
 unfold EVq at h
 obtain ⟨r, h1, h2⟩ := qsB.1 h
 unfold EVf
 rw [h1]
 obtain ⟨v, G⟩ := r
 unfold qjd at h2
 split at h2
 case h_2 => cases h2
 rename_i a s' hv
 simp only at hv
 subst hv
 cases hc : s'.scalar with
 | false => rw [hc] at h2; cases h2
 | true =>
  rw [hc] at h2
  simp only [cond_true] at h2
  cases ho : ovOf (a, G) with
  | none => rw [ho] at h2; cases h2
  | some o =>
   rw [ho] at h2
   simp only [Option.some.injEq, Prod.mk.injEq] at h2
   obtain ⟨rfl, rfl⟩ := h2
   unfold ovOf at ho
   split at ho
   ·cases ho
   ·rename_i id off' len' e
    simp only at e
    subst e
    split at ho
    case h_2 => cases ho
    rename_i d sz' rs' hid
    split at ho
    case isFalse => cases ho
    rename_i hd
    simp only [Option.some.injEq, OV.own.injEq] at ho
    obtain ⟨rfl, rfl, rfl, rfl⟩ := ho
    have hfree : (d || qw 0 ((rs'.drop off').take len')) = true := by
     rcases Bool.or_eq_true_iff.1 hd with h | h
     ·rw [h]; rfl
     ·rw [xy (yv h)]; simp
    have hid' : G[id]? = some (.rows d sz' rs') := hid
    have hb : qJ G id = some (sz', rs') := by unfold qJ; rw [hid']
    have hf : vH G id = d := by unfold vH; rw [hid']
    have hh : xh id [id] = true := qZ.2 (by simp)
    have hle : qs0 (off' + len') rs'.length = true := by simpa using hl
    have hm : (AV.tup [.ms id off' len', .agg cs]).msIds = [id] := rfl
    rw [qsP, hm]
    simp only [AV.frz, List.map_cons, List.map_nil, AV.frz1, hb, hf, hh, hle, hfree, qsW, if_true, AV.fg, AV.fg1]
   ·cases ho
def scV : ScA → AV
 | .ok l => .tup [.sl (q4 l), .agg [.int .i64 0, .int .i64 0]]
 | .bad e a => .tup [.sl [], .agg [.int .i64 e, .int .i64 (a : Int)]]
theorem qgu {s : List UInt8} (hs : s.length < 100000000000) : EVf (EV cfg) 17 [.str s] = some (scV (zy s)) := by
 have h := qov hs
 cases hk : zy s with
 | ok l =>
  rw [hk] at h
  have := qk9 h (by simp)
  rw [this, List.drop_zero, List.take_of_length_le (by simp)]
  rfl
 | bad e a =>
  rw [hk] at h
  have := qk9 h (by simp)
  rw [this]
  rfl
theorem qkZ {s : List UInt8} {l m : List TokA} (hs : s.length < 100000000000) (hl : l.length < 1099511627776) (hk : zy s = .ok m) (ha : AtA 0 l m) : EVs (EV cfg) 16 [.str s, .sl (q4 l)] = some (.bool true) := by
 apply Gets.get
 refine qlI _ _ ?_
 rw [qgu hs, hk]
 have hlen := ha.len
 simp only [scV, qa, cond_false, qk, qm, qq, qD, qE, qaa, show ((0 : Int) != 0) = false from rfl]
 rw [show (((q4 m).length : Int) != ((q4 l).length : Int)) = false by rw [vm, vm, hlen]; simp]
 simp only [cond_false]
 have go : ∀ k i : Nat, i + k = m.length → Gets (qcG (q4 l) (q4 m) (i : Int)) (· = .bool true) := by
  intro k
  induction k with
  | zero =>
   intro i hi
   refine qd0 _ _ _ ?_
   rw [decide_eq_false (show ¬ (i : Int) < ((q4 m).length : Int) by rw [vm]; omega)]
   exact ⟨_, rfl, rfl⟩
  | succ k ih =>
   intro i hi
   have him : i < m.length := by omega
   have hil : i < l.length := by omega
   obtain ⟨g1, g2, g3, _⟩ := ha.get i (qsD hil) (qsD him)
   refine qd0 _ _ _ ?_
   rw [decide_eq_true (show (i : Int) < ((q4 m).length : Int) by rw [vm]; omega)]
   have e1 : (qe 0 (i : Int) && qT (i : Int) ((q4 m).length : Int)) = true := by rw [vm]; simp; omega
   have e2 : (qe 0 (i : Int) && qT (i : Int) ((q4 l).length : Int)) = true := by rw [vm]; simp; omega
   have r1 : qsH (q4 m) (Int.toNat (i : Int)) = some (m[i]).cells := by rw [qsZ]; exact qaN (qsD him)
   have r2 : qsH (q4 l) (Int.toNat (i : Int)) = some (l[i]).cells := by rw [qsZ]; exact qaN (qsD hil)
   have c4 : ∀ t : TokA, qsL t.cells.length 4 = true := fun t => rfl
   have c0 : ∀ t : TokA, qsH t.cells 0 = some (.int .i64 t.k) := fun t => rfl
   have c1 : ∀ t : TokA, qsH t.cells 1 = some (.int .i64 t.n) := fun t => rfl
   have c2 : ∀ t : TokA, qsH t.cells 2 = some (.int .i64 t.a) := fun t => rfl
   have c3 : ∀ t : TokA, qsH t.cells 3 = some (.str t.s) := fun t => rfl
   simp only [e1, e2, r1, r2, c4, c0, c1, c3, qa, qm, qj, cond_true, g1, g2, g3, bne_self_eq_false, cond_false, beq_self_eq_true, Bool.not_true]
   rw [vN (by omega)]
   cases i with
   | zero =>
    rw [decide_eq_false (show ¬ (((0 : Nat) : Int) > 0) by omega)]
    exact ih 1 (by omega)
   | succ j =>
    rw [decide_eq_true (show (((j + 1 : Nat) : Int) > 0) by omega)]
    have hjm : j < m.length := by omega
    have hjl : j < l.length := by omega
    obtain ⟨_, _, _, g4⟩ := ha.get j (qsD hjl) (qsD hjm)
    have g5 := g4 _ (qsD him)
    have ej : IntKind.wrap .i64 (((j + 1 : Nat) : Int) - 1) = (j : Int) := by rw [zU (by omega) (by omega)]; omega
    have e3 : (qe 0 (j : Int) && qT (j : Int) ((q4 m).length : Int)) = true := by rw [vm]; simp; omega
    have r3 : qsH (q4 m) (Int.toNat (j : Int)) = some (m[j]).cells := by rw [qsZ]; exact qaN (qsD hjm)
    simp only [cond_true, c2, qa, qm, ej, e3, r3, c4]
    rw [decide_eq_false (show ¬ (m[j + 1]).a ≤ (m[j]).a by omega)]
    exact ih (j + 1 + 1) (by omega)
 exact go m.length 0 (by omega)
theorem qne (l : List TokA) (hl : l.length < 1099511627776) : Gets (EVs (EV cfg) 14 [.sl (q4 l)]) (fun v => ∃ b, v = .bool b ∧ (b = false → l.length ≤ 200 ∧ ∀ t ∈ l, t.s.length ≤ 100)) := by
 refine qlH _ ?_
 have go : ∀ k i : Nat, i + k = l.length → (∀ j t, j < i → l[j]? = some t → t.s.length ≤ 100) → Gets (qeT (q4 l) (i : Int)) (fun v => ∃ b, v = .bool b ∧ (b = false → l.length ≤ 200 ∧ ∀ t ∈ l, t.s.length ≤ 100)) := by
  intro k
  induction k with
  | zero =>
   intro i hi hj
   refine qd1 _ _ ?_
   rw [decide_eq_false (show ¬ (i : Int) < ((q4 l).length : Int) by rw [vm]; omega)]
   refine ⟨_, rfl, _, rfl, fun hb => ?_⟩
   have hb := of_decide_eq_false hb
   rw [vm] at hb
   refine ⟨by omega, fun t ht => ?_⟩
   obtain ⟨j, hjt⟩ := List.getElem?_of_mem ht
   exact hj j t (by have := (qsA.1 hjt).1; omega) hjt
  | succ k ih =>
   intro i hi hj
   have hil : i < l.length := by omega
   refine qd1 _ _ ?_
   rw [decide_eq_true (show (i : Int) < ((q4 l).length : Int) by rw [vm]; omega)]
   have e2 : (qe 0 (i : Int) && qT (i : Int) ((q4 l).length : Int)) = true := by rw [vm]; simp; omega
   have r2 : qsH (q4 l) (Int.toNat (i : Int)) = some (l[i]).cells := by rw [qsZ]; exact qaN (qsD hil)
   have c4 : qsL (l[i]).cells.length 4 = true := rfl
   have c3 : qsH (l[i]).cells 3 = some (.str (l[i]).s) := rfl
   simp only [e2, r2, c4, c3, qa, qj, cond_true]
   by_cases h : 100 < (l[i]).s.length
   ·rw [decide_eq_true (show ((l[i]).s.length : Int) > 100 by omega)]
    exact ⟨_, rfl, _, rfl, fun h => by cases h⟩
   ·rw [decide_eq_false (show ¬ ((l[i]).s.length : Int) > 100 by omega)]
    simp only [cond_false]
    rw [vN (by omega)]
    refine ih (i + 1) (by omega) fun j t hji ht => ?_
    by_cases he : j = i
    ·subst he
     rw [qsD hil] at ht
     cases ht; omega
    ·exact hj j t (by omega) ht
 exact go l.length 0 (by omega) (fun j t hj => by omega)
theorem qmz {l : List TokA} (h1 : l.length ≤ 200) (hm : l.all TokA.may = true) : (Go.Lib.join (l.map TokA.text) [32]).length ≤ 65536 := by
 have hj := qiM l hm
 have hsum : ∀ l : List TokA, l.all TokA.may = true → (l.map fun t => t.s.length).sum ≤ 64 * l.length := by
  intro l
  induction l with
  | nil => intro _; simp
  | cons t l ih =>
   intro h
   rw [List.all_cons, qsz] at h
   have a := qmy h.1
   have b := ih h.2
   rw [List.map_cons, List.sum_cons, qsQ]
   omega
 have := hsum l hm
 omega
theorem qmf {s : List UInt8} {e : Int} {a : Nat} (h : zy s = .bad e a) : e ≠ 0 := by
 have tok : ∀ (c : UInt8) (r : List UInt8), tokR (c :: r) ≠ .err 0 := by
  intro c r h
  unfold tokR at h
  simp only at h
  split at h
  ·split at h <;> cases h
  split at h
  ·unfold qdB at h
   split at h
   ·cases h
   ·split at h
    ·split at h <;> cases h
    ·split at h <;> cases h
  have nm : ∀ {k : Int} {w : List UInt8} {n : Nat}, vJ k w n ≠ .err 0 := by
   intro k w n h; unfold vJ at h; split at h <;> cases h
  split at h
  ·split at h
   ·exact nm h
   ·cases h
  split at h
  ·exact nm h
  split at h
  ·split at h
   ·cases h
   ·exact nm h
  split at h
  ·cases h
  ·split at h <;> cases h
 have go : ∀ (f p : Nat) (l : List TokA), zV s f p l ≠ .bad 0 a := by
  intro f
  induction f with
  | zero => intro p l h; cases h
  | succ f ih =>
   intro p l h
   rw [zV] at h
   split at h
   ·cases h
   ·rename_i hg
    cases ht : tokR (s.drop (p + vo false (s.drop p))) with
    | ok k n w len => rw [ht] at h; exact ih _ _ h
    | err e =>
     rw [ht, qjc] at h
     cases h
     rw [List.drop_eq_getElem_cons (by omega)] at ht
     exact tok _ _ ht
 rintro rfl
 unfold zy at h
 split at h
 ·cases h
 ·exact go _ _ _ h
theorem qlG (l : List TokA) (hl : l.length < 1099511627776) (s : List UInt8) : EVs (EV cfg) 4 [.sl (q4 l), .str s] = some (.bool true) := by
 apply Gets.get
 refine qnf _ _ ?_
 unfold zk0 zk1 zk2 zk3 zk4
 rw [qjZ]
 simp only [qa, qi]
 refine Gets.bind (qne l hl) fun v ⟨b, hv, hb⟩ => ?_
 subst hv
 simp only [qi]
 cases b with
 | true => exact ⟨_, rfl, rfl⟩
 | false =>
  obtain ⟨h200, h100⟩ := hb rfl
  simp only [cond_false]
  by_cases hs : 2000 < s.length
  ·rw [decide_eq_true (show (s.length : Int) > 2000 by omega)]; exact ⟨_, rfl, rfl⟩
  rw [decide_eq_false (show ¬ (s.length : Int) > 2000 by omega), qgy l (by omega) h100]
  -- the second half
  have half : Gets (kOpt (EVf (EV cfg) 17 [.str s]) fun v => kTup v fun (cs) => qf cs fun c (cs) => kSl c fun (rows) => qf cs fun c (cs) => kAgg c fun (cs_1) => qf cs_1 fun c (cs_2) => kInt .i64 c fun (n) => qf cs_2 fun c (cs_3) => kInt .i64 c fun (_) => kNil cs_3 (kNil cs (bif n != (0) then bif true then some (.bool ((rows.length : Int) == (0))) else some (.bool false) else kOpt (EVf (EV cfg) 15 [.sl rows]) fun v => kTup v fun (cs) => qf cs fun c (cs) => kStr c fun (s) => qf cs fun c (cs) => kInt .i64 c fun (n) => kNil cs (bif true then bif n == (0) then kOpt (EVs (EV cfg) 16 [.str s, .sl rows]) fun v => qO v fun (b : Bool) => some (.bool b) else some (.bool false) else some (.bool false))))) (· = AV.bool true) := by
   rw [qgu (by omega)]
   cases hk : zy s with
   | bad e a =>
    have hne : (e != 0) = true := by simpa using qmf hk
    simp only [scV, qa, cond_true, qk, qm, qq, qD, qE, qaa, hne]
    exact ⟨_, rfl, rfl⟩
   | ok m =>
    obtain ⟨m1, m2, m3, m4⟩ := qnd (by omega) hk
    have m5 : ∀ t ∈ m, t.s.length ≤ 100 := fun t ht => Nat.le_trans (qmy (qs3.1 m1 t ht)) (by omega)
    obtain ⟨m', k1, k2⟩ := qgz m1 m3
    simp only [scV, qa, cond_true, cond_false, qk, qm, qq, qD, qE, qaa, show ((0 : Int) != 0) = false from rfl]
    rw [qgy m m2 m5]
    unfold qbu
    rw [if_pos m1]
    simp only [qa, cond_true, qk, qj, qm, qq, qD, show ((0 : Int) == 0) = true from rfl]
    rw [qkZ (by omega) (by omega) k1 k2]
    simp only [qa, qi]
    exact ⟨_, rfl, rfl⟩
  unfold qbu
  by_cases hm : l.all TokA.may = true
  ·rw [if_pos hm]
   obtain ⟨m', k1, k2⟩ := qgz hm (qmz h200 hm)
   simp only [qa, cond_true, cond_false, qk, qj, qm, qq, qD, show ((0 : Int) == 0) = true from rfl]
   have hjl := qmz h200 hm
   rw [qkZ (by omega) (by omega) k1 k2]
   simp only [qa, cond_false, qi, Bool.not_true]
   exact half
  ·rw [if_neg hm]
   simp only [qa, cond_true, cond_false, qk, qj, qm, qq, qD, show ((2 : Int) == 0) = false from rfl]
   exact half
end Go.Proofs.YtkohdkldmpiiiaaGreatDoor
end
section
namespace Go.Av
mutual
def AV.wt : AV → Nat
 | .str s => s.length + 1
 | .sl rows => wtR rows + 1
 | _ => 1
def wtL : List AV → Nat
 | [] => 0
 | a :: l => a.wt + wtL l
def wtR : List (List AV) → Nat
 | [] => 0
 | a :: l => wtL a + wtR l
end
@[simp] theorem qq3 : wtL [] = 0 := by rw [wtL]
@[simp] theorem qpA (a : AV) (l : List AV) : wtL (a :: l) = a.wt + wtL l := by rw [wtL]
@[simp] theorem wtR_nil : wtR [] = 0 := by rw [wtR]
@[simp] theorem qpz (a : List AV) (l : List (List AV)) : wtR (a :: l) = wtL a + wtR l := by rw [wtR]
@[simp] theorem wt_int (k : IntKind) (n : Int) : (AV.int k n).wt = 1 := by rw [AV.wt] <;> simp
@[simp] theorem wt_bool (b : Bool) : (AV.bool b).wt = 1 := by rw [AV.wt] <;> simp
@[simp] theorem wt_str (s : List UInt8) : (AV.str s).wt = s.length + 1 := by rw [AV.wt]
@[simp] theorem qsl (r : List (List AV)) : (AV.sl r).wt = wtR r + 1 := by rw [AV.wt]
theorem qmM (a b : List AV) : wtL (a ++ b) = wtL a + wtL b := by
 induction a with
 | nil => simp
 | cons x l ih => simp [ih]; omega
end Go.Av
namespace Go.Proofs.YtkohdkldmpiiiaaGreatDoor
open Go.Av Go.WideShapes
def qgm (P : Program) : Nat → List Field → Option Nat
 | off, [] => some off
 | off, f :: fs => if f.offset = off then qgm P (off + P.cellsOf f.type) fs else none
def qeD (P : Program) (ts : List TypeId) (t : TypeId) : Bool :=
 match P.underlying t with
 | some (.int _) | some .bool | some .string => decide (P.cellsOf t = 1)
 | some (.struct fs) => decide (qgm P 0 fs.toList = some (P.cellsOf t)) && fs.toList.all (fun f => decide (f.type ∈ ts))
 | some (.slice e) => decide (P.cellsOf t = 1) && (decide (e ∈ ts) && decide (0 < P.cellsOf e))
 | _ => false
def Lay (P : Program) : Nat → TypeId → List AV → Prop
 | 0, _, _ => False
 | n + 1, t, cz =>
  match P.underlying t with
  | some (.int k) => ∃ m, cz = [.int k m] ∧ (Lit.int k m).wf = true
  | some .bool => ∃ b, cz = [.bool b]
  | some .string => ∃ s, cz = [.str s]
  | some (.struct fs) => cz.length = P.cellsOf t ∧ ∀ (i : Nat) f, fs[i]? = some f → Lay P n f.type ((cz.drop f.offset).take (P.cellsOf f.type))
  | some (.slice e) => ∃ rows, cz = [.sl rows] ∧ ∀ row ∈ rows, row.length = P.cellsOf e ∧ Lay P n e row
  | _ => False
def xl (W : World) (cs : List Value) (cz : List AV) : Prop := cz.length = cs.length ∧ ∀ (j : Nat) a v, cz[j]? = some a → cs[j]? = some v → a.isCell = true ∧ Rep (C0 W) M0 a v
theorem xl.nil {W : World} : xl W [] [] := ⟨rfl, fun j a v h => by simp at h⟩
theorem xl.one {W : World} {a : AV} {v : Value} (h1 : a.isCell = true) (h2 : Rep (C0 W) M0 a v) : xl W [v] [a] := ⟨rfl, fun j a' v' ha hv => by
 match j, ha, hv with
 | 0, ha, hv => simp at ha hv; subst ha hv; exact ⟨h1, h2⟩
 | j + 1, ha, hv => simp at ha⟩
theorem xl.append {W : World} {cs cs' : List Value} {cz cz' : List AV} (h : xl W cs cz) (h' : xl W cs' cz') : xl W (cs ++ cs') (cz ++ cz') := by
 refine ⟨by simp [h.1, h'.1], fun j a v ha hv => ?_⟩
 by_cases hj : j < cz.length
 ·rw [qsK hj] at ha
  rw [qsK (by rw [← h.1]; exact hj)] at hv
  exact h.2 j a v ha hv
 ·rw [qsM (by omega)] at ha
  rw [qsM (by rw [← h.1]; omega), ← h.1] at hv
  exact h'.2 _ a v ha hv
section
variable {H : Type} {enc : TypeId × Value → H} {P : Program} {W : World}
def qq2 (enc : TypeId × Value → H) (P : Program) (W : World) (n : Nat) (t : TypeId) : Prop :=
 ∀ cs x, DataW.trod enc P W 0 (fun _ => true) true n t cs = some x → ∃ cz, xl W cs cz ∧ cs.length = P.cellsOf t ∧ Lay P n t cz ∧ wtL cz ≤ Rows.uptoBulk x.1 ∧ qp 0 cz = true ∧
  ∀ (W' : World) (sp : Nat → Bool), (∀ p ∈ x.2, W.sameAt W' p) → (∀ p ∈ x.2, sp p.block = true) → DataW.trod enc P W' 0 sp true n t cs = some x
theorem qlR {n : Nat} {ts : List TypeId} (ih : ∀ t ∈ ts, qq2 enc P W n t) {cs : List Value} : ∀ (fs : List Field) (off : Nat), qgm P off fs = some cs.length → (∀ f ∈ fs, f.type ∈ ts) →
  ∀ xs, (fs.mapM fun f => DataW.trod enc P W 0 (fun _ => true) true n f.type ((cs.drop f.offset).take (P.cellsOf f.type))) = some xs →
  ∃ cz, xl W (cs.drop off) cz ∧ (∀ f ∈ fs, off ≤ f.offset ∧ Lay P n f.type ((cz.drop (f.offset - off)).take (P.cellsOf f.type))) ∧ wtL cz ≤ Rows.uptoBulkAll (xs.map (·.1)) ∧ qp 0 cz = true ∧
   ∀ (W' : World) (sp : Nat → Bool), (∀ p ∈ xs.flatMap (·.2), W.sameAt W' p) → (∀ p ∈ xs.flatMap (·.2), sp p.block = true) →
    (fs.mapM fun f => DataW.trod enc P W' 0 sp true n f.type ((cs.drop f.offset).take (P.cellsOf f.type))) = some xs := by
 intro fs
 induction fs with
 | nil =>
  intro off ht _ xs hx
  rw [qgm] at ht
  cases ht
  simp at hx
  subst hx
  refine ⟨[], ?_, fun f hf => by simp at hf, by simp, rfl, fun W' sp _ _ => by simp⟩
  rw [List.drop_length]; exact xl.nil
 | cons f fs ihf =>
  intro off ht hin xs hx
  rw [qgm] at ht
  split at ht
  ·rename_i ho
   rw [List.mapM_cons] at hx
   obtain ⟨x, h1, hx⟩ := qsB.1 hx
   obtain ⟨ys, h2, hx⟩ := qsB.1 hx
   cases hx
   obtain ⟨a1, c1, l1, y1, w1, r1, b1⟩ := ih f.type (hin f (by simp)) _ _ h1
   obtain ⟨a2, c2, y2, w2, r2, b2⟩ := ihf (off + P.cellsOf f.type) ht (fun g hg => hin g (by simp [hg])) ys h2
   have hlen : a1.length = P.cellsOf f.type := by rw [c1.1, l1]
   refine ⟨a1 ++ a2, ?_, fun g hg => ?_, ?_, qco r1 r2, fun W' sp hs hp => ?_⟩
   ·have := c1.append c2
    rw [ho, ← List.drop_drop, List.take_append_drop] at this
    exact this
   ·rcases qsV.1 hg with rfl | hg
    ·refine ⟨by omega, ?_⟩
     rw [ho, Nat.sub_self, List.drop_zero, ← hlen, List.take_append_of_le_length (qsF _), List.take_length]
     exact y1
    ·obtain ⟨g1, g2⟩ := y2 g hg
     refine ⟨by omega, ?_⟩
     have : List.drop (g.offset - off) (a1 ++ a2) = List.drop (g.offset - (off + P.cellsOf f.type)) a2 := by
      have e : g.offset - off = a1.length + (g.offset - (off + P.cellsOf f.type)) := by omega
      rw [e, ← List.drop_drop, List.drop_left]
     rw [this]
     exact g2
   ·rw [qmM]
    simp only [List.map_cons, Rows.uptoBulkAll]
    omega
   ·rw [List.mapM_cons, b1 W' sp (fun p hpp => hs p (by simp [hpp])) (fun p hpp => hp p (by simp [hpp]))]
    have b3 := b2 W' sp (fun p hpp => hs p (by rw [List.flatMap_cons]; exact List.mem_append_right _ hpp)) (fun p hpp => hp p (by rw [List.flatMap_cons]; exact List.mem_append_right _ hpp))
    show Option.bind _ _ = _
    rw [qsI]
    show Option.bind _ _ = _
    rw [b3]; rfl
  ·cases ht
theorem qiS {e : Nat} : ∀ (rows : List (List AV)) (ds : List (DataW H)), rows.length = ds.length → (∀ (i : Nat) row d, rows[i]? = some row → ds[i]? = some d → wtL row ≤ Rows.uptoBulk d) → wtR rows ≤ Rows.uptoBulkAll ds
 | [], [], _, _ => by simp [Rows.uptoBulkAll]
 | t :: l, d :: ds, hl, h => by
  have h0 := h 0 t d rfl rfl
  have := qiS (e := e) l ds (by simpa using hl) (fun i t d ht hd => h (i + 1) t d (by simpa using ht) (by simpa using hd))
  simp only [qpz, Rows.uptoBulkAll]
  omega
theorem qpS {ts : List TypeId} (hts : ∀ t ∈ ts, qeD P ts t = true) : ∀ (n : Nat), ∀ t ∈ ts, qq2 enc P W n t := by
 intro n
 induction n with
 | zero => intro t _ cs x h; simp [DataW.trod] at h
 | succ n ih =>
  intro t ht cs x h
  have hg := hts t ht
  unfold qeD at hg
  split at hg
  ·rename_i k hu
   obtain ⟨m, rfl, rfl, hw⟩ := DataW.trod_int hu h
   refine ⟨[.int k m], xl.one rfl (.int _ _), (of_decide_eq_true hg).symm, by unfold Lay; rw [hu]; exact ⟨m, rfl, hw⟩, by simp [Rows.uptoBulk], rfl, fun W' sp _ _ => ?_⟩
   simp [DataW.trod, hu, hw]
  ·rename_i hu
   obtain ⟨b, rfl, rfl⟩ := DataW.trod_bool hu h
   refine ⟨[.bool b], xl.one rfl (.bool _), (of_decide_eq_true hg).symm, by unfold Lay; rw [hu]; exact ⟨b, rfl⟩, by simp [Rows.uptoBulk], rfl, fun W' sp _ _ => ?_⟩
   simp [DataW.trod, hu]
  ·rename_i hu
   obtain ⟨s, rfl, rfl, hw⟩ := DataW.trod_string hu h
   refine ⟨[.str s.data.toList], xl.one rfl ?_, (of_decide_eq_true hg).symm, by unfold Lay; rw [hu]; exact ⟨_, rfl⟩, by simp [Rows.uptoBulk], rfl, fun W' sp _ _ => ?_⟩
   ·have := Rep.str (C := C0 W) (μ := M0) s.data.toList
    simpa using this
   ·simp [DataW.trod, hu, hw]
  ·rename_i fs hu
   rw [qsz, decide_eq_true_eq, qs3] at hg
   have h' := h
   unfold DataW.trod at h'
   rw [hu] at h'
   simp only [] at h'
   split at h'
   ·rename_i hl
    obtain ⟨xs, hx, rfl⟩ := qsC.1 h'
    rw [← hl] at hg
    obtain ⟨cz, c, y, w, r, b⟩ := qlR ih fs.toList 0 hg.1 (fun f hf => of_decide_eq_true (hg.2 f hf)) xs hx
    rw [List.drop_zero] at c
    refine ⟨cz, c, hl, ?_, ?_, r, fun W' sp hs hp => ?_⟩
    ·unfold Lay
     rw [hu]
     refine ⟨by rw [c.1, hl], fun i f hf => ?_⟩
     have := y f (by rw [← qs4] at hf; exact qsN hf)
     rw [Nat.sub_zero] at this
     exact this.2
    ·simp only [Rows.uptoBulk]; omega
    ·unfold DataW.trod
     rw [hu]
     simp only []
     rw [if_pos hl, b W' sp hs hp]; rfl
   ·cases h'
  ·rename_i e hu
   rw [qsz, qsz, decide_eq_true_eq, decide_eq_true_eq, decide_eq_true_eq] at hg
   obtain ⟨hc1, he, hpos⟩ := hg
   rcases DataW.trod_slice hu h with ⟨rfl, rfl⟩ | ⟨a, len, cap, elems, rest, n', e', rfl, rfl, hb, hlc, hmx, hel, hg, hsp, _⟩
   ·refine ⟨[.sl []], xl.one rfl .slNil, hc1.symm, by unfold Lay; rw [hu]; exact ⟨[], rfl, fun r hr => by simp at hr⟩, by simp [Rows.uptoBulk], rfl, fun W' sp _ _ => ?_⟩
    simp [DataW.trod, hu]
   ·obtain rfl : n' = n := by omega
    obtain ⟨hrl, hrg⟩ := hsp rfl
    have ihe := ih e he
    have tms : ∃ f : Nat → List AV, ∀ (i : Nat) y, elems[i]? = some y → ∃ cs', W.cells? 0 (a.add (i * P.cellsOf e)) (P.cellsOf e) = some cs' ∧ xl W cs' (f i) ∧ cs'.length = P.cellsOf e ∧ Lay P n' e (f i) ∧ wtL (f i) ≤ Rows.uptoBulk y.1 ∧ qp 0 (f i) = true := by
     have : ∀ i : Nat, ∃ t : List AV, ∀ y, elems[i]? = some y → ∃ cs', W.cells? 0 (a.add (i * P.cellsOf e)) (P.cellsOf e) = some cs' ∧ xl W cs' t ∧ cs'.length = P.cellsOf e ∧ Lay P n' e t ∧ wtL t ≤ Rows.uptoBulk y.1 ∧ qp 0 t = true := by
      intro i
      cases hy : elems[i]? with
      | none => exact ⟨default, fun y h => by cases h⟩
      | some y =>
       have hi : i < len := by rw [← hel]; exact (qsA.1 hy).1
       obtain ⟨cs', h1, h2⟩ := qsB.1 ((hg i hi).trans hy)
       obtain ⟨t, h3, h4, h5, h6, h7, _⟩ := ihe _ _ h2
       exact ⟨t, fun y' hy' => by cases hy'; exact ⟨cs', h1, h3, h4, h5, h6, h7⟩⟩
     exact ⟨fun i => Classical.choose (this i), fun i => Classical.choose_spec (this i)⟩
    obtain ⟨f, hf⟩ := tms
    have hget : ∀ (i : Nat) (row : List AV), ((qs7 len).map f)[i]? = some row → i < len ∧ row = f i := by
     intro i row hi
     have hil : i < len := by have := (qsA.1 hi).1; simpa using this
     refine ⟨hil, ?_⟩
     rw [List.getElem?_map, List.getElem?_range hil] at hi
     simpa using hi.symm
    have hrow : ∀ (i : Nat) (row : List AV), ((qs7 len).map f)[i]? = some row → row.length = P.cellsOf e ∧ Lay P n' e row ∧ qp 0 row = true := by
     intro i row hi
     obtain ⟨hil, rfl⟩ := hget i row hi
     obtain ⟨cs', h1, h2, h3, h4, h5, h6⟩ := hf i _ (qsD (by omega))
     exact ⟨by rw [h2.1, h3], h4, h6⟩
    have hspot : ((qs7 len).map f) ≠ [] → a.spot = none := by
     intro hne
     have hl0 : 0 < len := by
      rcases Nat.eq_zero_or_pos len with h0 | h0
      ·subst h0; exact absurd (by simp) hne
      ·exact h0
     obtain ⟨cs0, q1, _⟩ := hf 0 _ (qsD (by omega))
     have := (qfC q1 (by omega)).1
     simpa [Addr.add] using this
    have hcell : ∀ (i j : Nat) (row : List AV) x, ((qs7 len).map f)[i]? = some row → row[j]? = some x → x.isCell = true ∧ ∃ v, W.cell? ⟨a.block, a.off + i * P.cellsOf e + j, none⟩ = some v ∧ Rep (C0 W) M0 x v := by
     intro i j row x hi hj
     have hs := hspot (by intro h0; rw [h0] at hi; simp at hi)
     obtain ⟨hil, rfl⟩ := hget i row hi
     obtain ⟨cs', h1, h2, h3, _⟩ := hf i _ (qsD (by omega))
     obtain ⟨s1, s2, s3⟩ := qfC h1 (by omega)
     have hjl : j < cs'.length := by
      rw [← h2.1]
      exact (qsA.1 hj).1
     have h4 := h2.2 j x _ hj (qsD hjl)
     refine ⟨h4.1, _, ?_, h4.2⟩
     have := s3 j _ (qsD hjl)
     rw [yd _ _ hs] at this
     exact this
    have hfree : qw 0 ((qs7 len).map f) = true := by
     have : ∀ l : List (List AV), (∀ r ∈ l, qp 0 r = true) → qw 0 l = true := by
      intro l
      induction l with
      | nil => intro _; rfl
      | cons r l ih => intro h; rw [qw, h r (by simp), ih fun q hq => h q (by simp [hq])]; rfl
     refine this _ fun r hr => ?_
     obtain ⟨i, hi⟩ := List.getElem?_of_mem hr
     exact (hrow i r hi).2.2
    refine ⟨[.sl ((qs7 len).map f)], xl.one rfl ?_, hc1.symm, ?_, ?_, rfl, fun W' sp hs hp => ?_⟩
    ·have := Rep.sl (C := C0 W) (μ := M0) ((qs7 len).map f) a cap (P.cellsOf e) (fun i j => (W.cell? ⟨a.block, a.off + i * P.cellsOf e + j, none⟩).getD undef) hspot (fun i row hi => (hrow i row hi).1) (fun i j row x hi hj => ?_) (fun i j row x hi hj => ?_) (fun i j row x hi hj => ?_) (by simpa using hlc) hfree
     ·simpa using this
     ·obtain ⟨_, v, h1, _⟩ := hcell i j row x hi hj
      show W.cell? _ = _
      rw [h1]; rfl
     ·obtain ⟨_, v, h1, h2⟩ := hcell i j row x hi hj
      rw [h1]; exact h2
     ·exact (hcell i j row x hi hj).1
    ·unfold Lay
     rw [hu]
     refine ⟨_, rfl, fun row hr => ?_⟩
     obtain ⟨i, hi⟩ := List.getElem?_of_mem hr
     exact ⟨(hrow i row hi).1, (hrow i row hi).2.1⟩
    ·simp only [Rows.uptoBulk, qpA, qq3, qsl]
     have := qiS (e := 0) ((qs7 len).map f) (elems.map (·.1)) (by simp [hel]) (fun i t d ht hd => by
      rw [List.getElem?_map] at ht hd
      obtain ⟨j, hj, rfl⟩ := qsC.1 ht
      obtain ⟨y, hy, rfl⟩ := qsC.1 hd
      have hil : i < len := by have := (qsA.1 hj).1; simpa using this
      rw [List.getElem?_range hil] at hj
      cases hj
      obtain ⟨_, _, _, _, _, h5, _⟩ := hf i y hy
      exact h5)
     omega
    ·have hrow' : 0 < (elems.length + rest.length) → sp a.block = true := fun hps => hp (.cell a.block (a.off + 0)) (by
      rw [qsS]
      exact .inl (MemPlace.mem_row.2 ⟨0, Nat.mul_pos hps hpos, rfl⟩))
     unfold DataW.trod at h ⊢
     rw [hu] at h ⊢
     simp only [if_true] at h ⊢
     rw [if_pos ⟨hb, hlc, hmx⟩] at h ⊢
     simp only [qsC, qsB] at h ⊢
     obtain ⟨elems', he, rest', hr, hx⟩ := h
     have hlen : elems'.length = len := by simpa using mapM_some_length he
     have hrl' : rest'.length = cap - len := by simpa using mapM_some_length hr
     simp only [Prod.mk.injEq, DataW.slice.injEq] at hx
     have one' : ∀ (i : Nat) (y : DataW H × List MemPlace), i < elems'.length + rest'.length → y ∈ elems' ++ rest' →
       (W.cells? 0 (a.add (i * P.cellsOf e)) (P.cellsOf e)).bind (DataW.trod enc P W 0 (fun _ => true) true n' e) = some y → (W'.cells? 0 (a.add (i * P.cellsOf e)) (P.cellsOf e)).bind (DataW.trod enc P W' 0 sp true n' e) = some y := by
      intro i y hi hy hv
      simp only [qsB] at hv ⊢
      obtain ⟨cs', hc', hy'⟩ := hv
      obtain ⟨_, _, _, _, _, _, hbk⟩ := ihe _ _ hy'
      refine ⟨cs', World.cells?_carry hc' (fun p hpp => hs p ?_), hbk W' sp (fun p hpp => hs p ?_) (fun p hpp => hp p ?_)⟩
      ·rw [← hx.2]
       obtain ⟨j, hj, rfl⟩ := MemPlace.mem_row.1 hpp
       simp only [qsS]
       left
       refine MemPlace.mem_row.2 ⟨i * P.cellsOf e + j, ?_, ?_⟩
       ·calc i * P.cellsOf e + j < i * P.cellsOf e + P.cellsOf e := by omega
         _ = (i + 1) * P.cellsOf e := by rw [Nat.add_mul, Nat.one_mul]
         _ ≤ (elems'.length + rest'.length) * P.cellsOf e := qsT _ hi
       ·unfold Addr.add
        split
        ·rename_i h0
         simp [h0]
        ·simp [Nat.add_assoc]
      ·rw [← hx.2]
       simp only [qsS, List.mem_flatMap]
       right
       exact ⟨y, by simpa using hy, hpp⟩
      ·rw [← hx.2]
       simp only [qsS, List.mem_flatMap]
       right
       exact ⟨y, by simpa using hy, hpp⟩
     refine ⟨elems', mapM_carry he (fun i y hi hy => one' i y (by have : i < len := (by simpa using hi); omega) (by simp [hy])), rest', ?_, by simp only [Prod.mk.injEq, DataW.slice.injEq]; exact hx⟩
     by_cases h0 : 0 < elems.length + rest.length
     ·rw [if_pos (hrow' h0)]
      exact mapM_carry hr (fun j y hj hy => one' (len + j) y (by have : j < cap - len := (by simpa using hj); omega) (by simp [hy]))
     ·have hc0 : cap - len = 0 := by omega
      rw [hc0] at hr ⊢
      simp at hr
      subst hr
      split <;> rfl
  ·cases hg
theorem qnu {ts : List TypeId} (hts : ∀ t ∈ ts, qeD P ts t = true) {t e : TypeId} (ht : t ∈ ts) (hu : P.underlying t = some (.slice e)) {r : Reach} {b0 : Nat} {v : Value} {d : DataW H} {ps : List MemPlace}
  (hval : Value.okWide P W r b0 t v) (hd : DataW.Trod enc P W 0 (fun _ => true) true t v d ps) :
  ∃ (rows : List (List AV)) (n : Nat), Opened enc P W t v d ps (.sl rows) ∧ (∀ row ∈ rows, row.length = P.cellsOf e ∧ Lay P n e row) ∧ wtR rows < Rows.uptoBulk d := by
 obtain ⟨a, len, cap, rfl⟩ := okWide_slice hu hval
 obtain ⟨n, hn⟩ := hd
 obtain ⟨cz, h1, h2, h3, h4, h5, h6⟩ := qpS hts n t ht _ _ hn
 cases n with
 | zero => exact absurd h3 (by unfold Lay; exact id)
 | succ n =>
  unfold Lay at h3
  rw [hu] at h3
  obtain ⟨rows, rfl, h3⟩ := h3
  refine ⟨rows, n, ⟨?_, fun W' sp hs hp => ⟨n + 1, h6 W' sp hs hp⟩⟩, h3, ?_⟩
  ·exact (h1.2 0 _ _ rfl (by simp [Value.cells])).2
  ·simp at h4; exact h4
end
theorem qpZ {α : Type} {P : Program} {n : Nat} {e : TypeId} {f : α → List AV} {w : α → Nat} (h : ∀ cz, Lay P n e cz → ∃ x : α, cz = f x ∧ w x < wtL cz) : ∀ rows : List (List AV), (∀ row ∈ rows, row.length = P.cellsOf e ∧ Lay P n e row) →
  ∃ l : List α, rows = l.map f ∧ (∀ x ∈ l, w x < wtR rows) ∧ l.length ≤ wtR rows := by
 intro rows
 induction rows with
 | nil => intro _; exact ⟨[], rfl, fun x hx => by simp at hx, by simp⟩
 | cons r rows ih =>
  intro hr
  obtain ⟨x, e1, w1⟩ := h r (hr r (by simp)).2
  obtain ⟨l, e2, w2, w3⟩ := ih fun q hq => hr q (by simp [hq])
  refine ⟨x :: l, by rw [List.map_cons, ← e1, ← e2], fun y hy => ?_, by simp; omega⟩
  rcases qsV.1 hy with rfl | hy
  ·simp; omega
  ·have := w2 y hy; simp; omega
theorem qrq {H : Type} {l : List (DataW H)} (hk : Rows.uptoSmall H l = true) {d : DataW H} (hd : d ∈ l) : Rows.uptoBulk d ≤ 1048576 := by
 have h : Rows.uptoBulkAll l ≤ 1048576 := of_decide_eq_true hk
 have := qiT hd
 omega
end Go.Proofs.YtkohdkldmpiiiaaGreatDoor
end
section
namespace Go.Av
def InB (a : Int) : Prop := -576460752303423488 ≤ a ∧ a ≤ 576460752303423487
instance (a : Int) : Decidable (InB a) := inferInstanceAs (Decidable (_ ∧ _))
structure Env where
 obj : Tm
 binds : List (Int × Tm)
 self : Int
theorem Tm.Ok.subs {t : Tm} (h : t.Ok) {x : Tm} (hx : x ∈ t.subs) : x.Ok := by
 obtain ⟨k, n, s, l⟩ := t
 exact h.sub hx
end Go.Av
end
section
namespace Go.Proofs.YtkohdkldmpiiiaaGreatDoor
open Go.Av
theorem qh7 {n : Nat} {cz : List AV} (h : Lay Tryz.prog n 3 cz) : ∃ k : Int, cz = [.int .i64 k] ∧ 0 < wtL cz := by
 cases n with
 | zero => exact absurd h (by unfold Lay; exact id)
 | succ n =>
  unfold Lay at h
  rw [Tryz.underlying3] at h
  obtain ⟨k, rfl, _⟩ := h
  exact ⟨k, rfl, by simp⟩
def qgl : List TypeId := [34, 68, 3, 9]
theorem qmY : ∀ t ∈ qgl, qeD Tryz.prog qgl t = true := by
 have : qgl.all (qeD Tryz.prog qgl) = true := by kernel_rfl
 exact qs3.1 this
theorem qpY {n : Nat} {cz : List AV} (h : Lay Tryz.prog n 9 cz) : ∃ s : List UInt8, cz = [.str s] ∧ s.length < wtL cz := by
 cases n with
 | zero => exact absurd h (by unfold Lay; exact id)
 | succ n =>
  unfold Lay at h
  rw [Tryz.underlying9] at h
  obtain ⟨s, rfl⟩ := h
  exact ⟨s, rfl, by simp⟩
theorem qoZ {n : Nat} {cz : List AV} (h : Lay Tryz.prog n 68 cz) : ∃ t : TokA, cz = t.cells ∧ t.s.length < wtL cz := by
 cases n with
 | zero => exact absurd h (by unfold Lay; exact id)
 | succ n =>
  unfold Lay at h
  rw [Tryz.underlying68] at h
  obtain ⟨hl, hf⟩ := h
  have hl : cz.length = 4 := by rw [hl]; kernel_rfl
  match cz, hl with
  | [a, b, c, d], _ =>
   have h0 : Lay Tryz.prog n 3 ((([a, b, c, d] : List AV).drop 0).take (Tryz.prog.cellsOf 3)) := hf 0 _ rfl
   have h1 : Lay Tryz.prog n 3 ((([a, b, c, d] : List AV).drop 1).take (Tryz.prog.cellsOf 3)) := hf 1 _ rfl
   have h2 : Lay Tryz.prog n 3 ((([a, b, c, d] : List AV).drop 2).take (Tryz.prog.cellsOf 3)) := hf 2 _ rfl
   have h3 : Lay Tryz.prog n 9 ((([a, b, c, d] : List AV).drop 3).take (Tryz.prog.cellsOf 9)) := hf 3 _ rfl
   rw [show Tryz.prog.cellsOf 3 = 1 by kernel_rfl] at h0 h1 h2
   rw [show Tryz.prog.cellsOf 9 = 1 by kernel_rfl] at h3
   obtain ⟨x0, e0, _⟩ := qh7 h0
   obtain ⟨x1, e1, _⟩ := qh7 h1
   obtain ⟨x2, e2, _⟩ := qh7 h2
   obtain ⟨x3, e3, w3⟩ := qpY h3
   simp at e0 e1 e2 e3 w3
   subst e0 e1 e2 e3
   refine ⟨⟨x0, x1, x2, x3⟩, rfl, ?_⟩
   simp at w3 ⊢
   omega
theorem qlQ {H : Type} {enc : TypeId × Value → H} {W : World} {r : Reach} {b0 : Nat} {v : Value} {d : DataW H} {ps : List MemPlace} (hval : Value.okWide Tryz.prog W r b0 34 v) (hd : DataW.Trod enc Tryz.prog W 0 (fun _ => true) true 34 v d ps) :
  ∃ l : List TokA, Opened enc Tryz.prog W 34 v d ps (.sl (q4 l)) ∧ l.length ≤ Rows.uptoBulk d := by
 obtain ⟨rows, n, h1, h2, h3⟩ := qnu qmY (by simp [qgl]) Tryz.underlying34 hval hd
 obtain ⟨l, rfl, w1, w2⟩ := qpZ (f := TokA.cells) (w := fun _ => 0) (fun cz h => by obtain ⟨t, h1, h2⟩ := qoZ h; exact ⟨t, h1, by omega⟩) rows h2
 exact ⟨l, h1, by omega⟩
end Go.Proofs.YtkohdkldmpiiiaaGreatDoor
end
