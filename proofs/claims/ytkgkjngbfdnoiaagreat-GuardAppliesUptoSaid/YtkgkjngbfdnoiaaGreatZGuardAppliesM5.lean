/-
  Parts of the proof of GuardAppliesUptoSaid, put together: the abstract evaluation and its contracts. Own work.
  What is proved: each lemma as it stands; no condition.
-/
import Derived.Test.YtkgkjngbfdnoiaaGreatZGuardAppliesM4

section
namespace Go.Proofs.YtkgkjngbfdnoiaaGreat
open Go.Av
set_option maxRecDepth 100000
set_option maxHeartbeats 0

noncomputable def Lg65_0 : Den := evC cfg (EV cfg) 168 none 0 (sub (bodyOf Tryz.f168) [1, 0, 1, 0, 0])
noncomputable def Ag65_0 : Ex × List AV × AH → Option AV := kAft (Cfg.keepOut cfg 168 2) (kRun cfg (EV cfg) (kfN cfg 6) 168 none 0 (kFinS cfg (Cfg.lift cfg 168 0) Tryz.f168.results.toList) ([.block 0, .seq (sub (bodyOf Tryz.f168) [1, 1])]))
noncomputable def Wg65_0 : List AV × AH → Option AV := fun p => kOpt (LOOP 0 (some [0, 1, 7, 8]) ([]) Lg65_0 p) Ag65_0
noncomputable abbrev wg65_0 (A : List (List AV)) (n : Int) (v8 : Int) : Option (AV) := Wg65_0  (((fx 19 [(0, AV.sl A), (1, AV.int IntKind.i64 n), (7, AV.int IntKind.i64 (↑(List.length A) : Int)), (8, AV.int IntKind.i64 v8)]) : List AV), ([] : AH))
theorem guard_Ops_run (op : List UInt8) {P : AV → Prop} (h : Gets (bif op == [(115 : UInt8), (101 : UInt8), (108 : UInt8), (102 : UInt8)] then some (.sl [[.int .i64 (0 : Int)]]) else bif op == [(105 : UInt8), (115 : UInt8), (95 : UInt8), (97 : UInt8), 
  (116 : UInt8), (111 : UInt8), (109 : UInt8)] then some (.sl [[.int .i64 (1 : Int)]]) else bif op == [(105 : UInt8), (115 : UInt8), (95 : UInt8), (105 : UInt8), (110 : UInt8), (116 : 
  UInt8), (101 : UInt8), (103 : UInt8), (101 : UInt8), (114 : UInt8)] then some (.sl [[.int .i64 (1 : Int)]]) else bif op == [(105 : UInt8), (115 : UInt8), (95 : UInt8), (108 : UInt8), 
  (105 : UInt8), (115 : UInt8), (116 : UInt8)] then some (.sl [[.int .i64 (1 : Int)]]) else bif op == [(105 : UInt8), (115 : UInt8), (95 : UInt8), (116 : UInt8), (117 : UInt8), (112 : 
  UInt8), (108 : UInt8), (101 : UInt8)] then some (.sl [[.int .i64 (1 : Int)]]) else bif op == [(105 : UInt8), (115 : UInt8), (95 : UInt8), (112 : UInt8), (105 : UInt8), (100 : UInt8)] 
  then some (.sl [[.int .i64 (1 : Int)]]) else bif op == [(105 : UInt8), (115 : UInt8), (95 : UInt8), (102 : UInt8), (117 : UInt8), (110 : UInt8), (99 : UInt8), (116 : UInt8), (105 : 
  UInt8), (111 : UInt8), (110 : UInt8)] then some (.sl [[.int .i64 (1 : Int)]]) else bif op == [(105 : UInt8), (115 : UInt8), (95 : UInt8), (114 : UInt8), (101 : UInt8), (102 : UInt8), 
  (101 : UInt8), (114 : UInt8), (101 : UInt8), (110 : UInt8), (99 : UInt8), (101 : UInt8)] then some (.sl [[.int .i64 (1 : Int)]]) else bif op == [(110 : UInt8), (111 : UInt8), (116 : 
  UInt8)] then some (.sl [[.int .i64 (1 : Int)]]) else bif op == [(98 : UInt8), (110 : UInt8), (111 : UInt8), (116 : UInt8)] then some (.sl [[.int .i64 (1 : Int)]]) else bif op == [(97 
  : UInt8), (98 : UInt8), (115 : UInt8)] then some (.sl [[.int .i64 (1 : Int)]]) else bif op == [(116 : UInt8), (117 : UInt8), (112 : UInt8), (108 : UInt8), (101 : UInt8), (95 : UInt8), 
  (115 : UInt8), (105 : UInt8), (122 : UInt8), (101 : UInt8)] then some (.sl [[.int .i64 (1 : Int)]]) else bif op == [(115 : UInt8), (105 : UInt8), (122 : UInt8), (101 : UInt8)] then 
  some (.sl [[.int .i64 (1 : Int)]]) else bif op == [(104 : UInt8), (100 : UInt8)] then some (.sl [[.int .i64 (1 : Int)]]) else bif op == [(116 : UInt8), (108 : UInt8)] then some (.sl 
  [[.int .i64 (1 : Int)]]) else bif op == [(108 : UInt8), (101 : UInt8), (110 : UInt8), (103 : UInt8), (116 : UInt8), (104 : UInt8)] then some (.sl [[.int .i64 (1 : Int)]]) else bif op 
  == [(43 : UInt8)] then some (.sl [[.int .i64 (1 : Int)], [.int .i64 (2 : Int)]]) else bif op == [(45 : UInt8)] then some (.sl [[.int .i64 (1 : Int)], [.int .i64 (2 : Int)]]) else bif 
  op == [(61 : UInt8), (61 : UInt8)] then some (.sl [[.int .i64 (2 : Int)]]) else bif op == [(61 : UInt8), (58 : UInt8), (61 : UInt8)] then some (.sl [[.int .i64 (2 : Int)]]) else bif 
  op == [(47 : UInt8), (61 : UInt8)] then some (.sl [[.int .i64 (2 : Int)]]) else bif op == [(61 : UInt8), (47 : UInt8), (61 : UInt8)] then some (.sl [[.int .i64 (2 : Int)]]) else bif 
  op == [(60 : UInt8)] then some (.sl [[.int .i64 (2 : Int)]]) else bif op == [(61 : UInt8), (60 : UInt8)] then some (.sl [[.int .i64 (2 : Int)]]) else bif op == [(62 : UInt8)] then some 
  (.sl [[.int .i64 (2 : Int)]]) else bif op == [(62 : UInt8), (61 : UInt8)] then some (.sl [[.int .i64 (2 : Int)]]) else bif op == [(97 : UInt8), (110 : UInt8), (100 : UInt8)] then some 
  (.sl [[.int .i64 (2 : Int)]]) else bif op == [(111 : UInt8), (114 : UInt8)] then some (.sl [[.int .i64 (2 : Int)]]) else bif op == [(120 : UInt8), (111 : UInt8), (114 : UInt8)] then 
  some (.sl [[.int .i64 (2 : Int)]]) else bif op == [(97 : UInt8), (110 : UInt8), (100 : UInt8), (97 : UInt8), (108 : UInt8), (115 : UInt8), (111 : UInt8)] then some (.sl [[.int .i64 
  (2 : Int)]]) else bif op == [(111 : UInt8), (114 : UInt8), (101 : UInt8), (108 : UInt8), (115 : UInt8), (101 : UInt8)] then some (.sl [[.int .i64 (2 : Int)]]) else bif op == [(42 : 
  UInt8)] then some (.sl [[.int .i64 (2 : Int)]]) else bif op == [(100 : UInt8), (105 : UInt8), (118 : UInt8)] then some (.sl [[.int .i64 (2 : Int)]]) else bif op == [(114 : UInt8), (101 
  : UInt8), (109 : UInt8)] then some (.sl [[.int .i64 (2 : Int)]]) else bif op == [(98 : UInt8), (97 : UInt8), (110 : UInt8), (100 : UInt8)] then some (.sl [[.int .i64 (2 : Int)]]) else 
  bif op == [(98 : UInt8), (111 : UInt8), (114 : UInt8)] then some (.sl [[.int .i64 (2 : Int)]]) else bif op == [(98 : UInt8), (120 : UInt8), (111 : UInt8), (114 : UInt8)] then some (.sl 
  [[.int .i64 (2 : Int)]]) else bif op == [(101 : UInt8), (108 : UInt8), (101 : UInt8), (109 : UInt8), (101 : UInt8), (110 : UInt8), (116 : UInt8)] then some (.sl [[.int .i64 (2 : Int)]]) 
  else some (.sl [])) P) : Gets (EVf (EV cfg) 89 ([AV.str op] : List AV)) P :=
  Gets.ev (fun _ h => funF rfl rfl Tryz.func89 rfl h) (Gets.eq (by kernel_rfl) h)
theorem guard_self_run (n : Int) {P : AV → Prop} (h : Gets (bif decide (n ≥ (1 : Int)) then some (.bool (decide (n ≤ (1073741824 : Int)))) else some (.bool false)) P) : Gets (EVs (EV cfg) 90 ([AV.int IntKind.i64 n] : List AV)) P :=
  Gets.ev (fun _ h => funS rfl rfl Tryz.func90 rfl h) (Gets.eq (by kernel_rfl) h)
theorem guard_truth_run (b : Bool) {P : AV → Prop} (h : Gets (bif b then kOpt (EVf (EV cfg) 292 [.str [(116 : UInt8), (114 : UInt8), (117 : UInt8), (101 : UInt8)]]) fun (v : AV) => kTmV v fun (n n_1 : Int) (s : List UInt8) (rows : List (List AV)) 
  => (some (.agg [.int .i64 n, .int .i64 n_1, .str s, .sl rows])) else kOpt (EVf (EV cfg) 292 [.str [(102 : UInt8), (97 : UInt8), (108 : UInt8), (115 : UInt8), (101 : UInt8)]]) fun (v 
  : AV) => kTmV v fun (n n_1 : Int) (s : List UInt8) (rows : List (List AV)) => (some (.agg [.int .i64 n, .int .i64 n_1, .str s, .sl rows]))) P) : Gets (EVf (EV cfg) 239 ([AV.bool b] : List AV)) P :=
  Gets.ev (fun _ h => funF rfl rfl Tryz.func239 rfl h) (Gets.eq (by kernel_rfl) h)
theorem guard_atom_run (s : List UInt8) {P : AV → Prop} (h : Gets (some (.agg [.int .i64 (2 : Int), .int .i64 (0 : Int), .str s, .sl []])) P) : Gets (EVf (EV cfg) 292 ([AV.str s] : List AV)) P :=
  Gets.ev (fun _ h => funF rfl rfl Tryz.func292 rfl h) (Gets.eq (by kernel_rfl) h)
theorem containsI_run (A : List (List AV)) (n : Int) {P : AV → Prop} (h : Gets (kOpt (EVs (EV cfg) 168 [.sl A, .int .i64 n]) fun (v : AV) => kInt .i64 v fun (n : Int) => some (.bool (decide (n ≥ (0 : Int))))) P) : Gets (EVs (EV cfg) 88 ([AV.sl A, AV.int IntKind.i64 n] : List AV)) P :=
  Gets.ev (fun _ h => funS rfl rfl Tryz.func88 rfl h) (Gets.eq (by kernel_rfl) h)
theorem indexI_run (A : List (List AV)) (n : Int) {P : AV → Prop} (h : Gets (wg65_0 A n (0 : Int)) P) : Gets (EVs (EV cfg) 168 ([AV.sl A, AV.int IntKind.i64 n] : List AV)) P :=
  Gets.ev (fun _ h => funS rfl rfl Tryz.func168 rfl h) (Gets.eq (by kernel_rfl) h)
theorem mRaise_run (ke : Int) (ne : Int) (se : List UInt8) (le : List (List AV)) (bd : List (List AV)) (self : Int) (bad : Bool) {P : AV × List (List AV) → Prop} (h : Gets (some (.agg [.int .i64 (0 : Int), .int .i64 (0 : Int), .str [], .sl []], [[.int .i64 ke, .int .i64 ne, .str se, .sl le, .sl bd, .int .i64 self, .bool true]])) P) : Gets (EVd (EV cfg) 233 ([AV.ptr (0 : Nat) (0 : Nat) (0 : Nat)] : List AV) 7 [[AV.int .i64 ke, AV.int .i64 ne, AV.str se, AV.sl le, AV.sl bd, AV.int .i64 self, AV.bool bad]]) P :=
  Gets.ev (fun _ h => funD rfl rfl Tryz.func233 rfl h) (Gets.eq (by kernel_rfl) h)
theorem mNumber_run (ke : Int) (ne : Int) (se : List UInt8) (le : List (List AV)) (bd : List (List AV)) (self : Int) (bad : Bool) (n : Int) {P : AV × List (List AV) → Prop} (h : Gets (bif decide (n < (-576460752303423488 : Int)) then kOpt (EVd (EV cfg) 233 [.ptr 0 0 0] 7 [[.int .i64 ke, .int .i64 ne, .str se, .sl le, .sl bd, .int .i64 self, .bool bad]]) fun (q : AV 
  × List (List AV)) => kTmV q.1 fun (n n_1 : Int) (s : List UInt8) (rows : List (List AV)) => (some (.agg [.int .i64 n, .int .i64 n_1, .str s, .sl rows], q.2)) else bif decide (n > (576460752303423487 
  : Int)) then kOpt (EVd (EV cfg) 233 [.ptr 0 0 0] 7 [[.int .i64 ke, .int .i64 ne, .str se, .sl le, .sl bd, .int .i64 self, .bool bad]]) fun (q : AV × List (List AV)) => kTmV q.1 fun (n 
  n_1 : Int) (s : List UInt8) (rows : List (List AV)) => (some (.agg [.int .i64 n, .int .i64 n_1, .str s, .sl rows], q.2)) else some (.agg [.int .i64 (1 : Int), .int .i64 n, .str [], 
  .sl []], [[.int .i64 ke, .int .i64 ne, .str se, .sl le, .sl bd, .int .i64 self, .bool bad]])) P) : Gets (EVd (EV cfg) 240 ([AV.ptr (0 : Nat) (0 : Nat) (0 : Nat), AV.int IntKind.i64 n] : List AV) 7 [[AV.int .i64 ke, AV.int .i64 ne, AV.str se, AV.sl le, AV.sl bd, AV.int .i64 self, AV.bool bad]]) P :=
  Gets.ev (fun _ h => funD rfl rfl Tryz.func240 rfl h) (Gets.eq (by kernel_rfl) h)
theorem mProduct_run (ke : Int) (ne : Int) (se : List UInt8) (le : List (List AV)) (bd : List (List AV)) (self : Int) (bad : Bool) (a : Int) (b : Int) {P : AV × List (List AV) → Prop} (h : Gets (bif decide (a < (0 : Int)) then bif decide (b < (0 : Int)) then kOpt (EVs (EV cfg) 312 [.int .u64 (IntKind.wrap .u64 (IntKind.wrap .i64 ((0 : Int) - a))), .int .u64 (IntKind.wrap .u64 
  (IntKind.wrap .i64 ((0 : Int) - b)))]) fun (v : AV) => kTup v fun (cs : List AV) => kCons cs fun (c : AV) (cs : List AV) => kInt .u64 c fun (n : Int) => kCons cs fun (c : AV) (cs : 
  List AV) => kInt .u64 c fun (n_1 : Int) => kNil cs (bif decide (n > (0 : Int)) then kOpt (EVd (EV cfg) 233 [.ptr 0 0 0] 7 [[.int .i64 ke, .int .i64 ne, .str se, .sl le, .sl bd, .int 
  .i64 self, .bool bad]]) fun (q : AV × List (List AV)) => kTmV q.1 fun (n n_2 : Int) (s : List UInt8) (rows : List (List AV)) => (some (.agg [.int .i64 n, .int .i64 n_2, .str s, .sl 
  rows], q.2)) else bif decide (n_1 > (576460752303423488 : Int)) then kOpt (EVd (EV cfg) 233 [.ptr 0 0 0] 7 [[.int .i64 ke, .int .i64 ne, .str se, .sl le, .sl bd, .int .i64 self, .bool 
  bad]]) fun (q : AV × List (List AV)) => kTmV q.1 fun (n n_2 : Int) (s : List UInt8) (rows : List (List AV)) => (some (.agg [.int .i64 n, .int .i64 n_2, .str s, .sl rows], q.2)) else 
  kOpt (EVd (EV cfg) 240 [.ptr 0 0 0, .int .i64 (IntKind.wrap .i64 ((1 : Int) * IntKind.wrap .i64 n_1))] 7 [[.int .i64 ke, .int .i64 ne, .str se, .sl le, .sl bd, .int .i64 self, .bool 
  bad]]) fun (q : AV × List (List AV)) => kTmV q.1 fun (n n_2 : Int) (s : List UInt8) (rows : List (List AV)) => (some (.agg [.int .i64 n, .int .i64 n_2, .str s, .sl rows], q.2))) else 
  kOpt (EVs (EV cfg) 312 [.int .u64 (IntKind.wrap .u64 (IntKind.wrap .i64 ((0 : Int) - a))), .int .u64 (IntKind.wrap .u64 b)]) fun (v : AV) => kTup v fun (cs : List AV) => kCons cs fun 
  (c : AV) (cs : List AV) => kInt .u64 c fun (n : Int) => kCons cs fun (c : AV) (cs : List AV) => kInt .u64 c fun (n_1 : Int) => kNil cs (bif decide (n > (0 : Int)) then kOpt (EVd (EV 
  cfg) 233 [.ptr 0 0 0] 7 [[.int .i64 ke, .int .i64 ne, .str se, .sl le, .sl bd, .int .i64 self, .bool bad]]) fun (q : AV × List (List AV)) => kTmV q.1 fun (n n_2 : Int) (s : List UInt8) 
  (rows : List (List AV)) => (some (.agg [.int .i64 n, .int .i64 n_2, .str s, .sl rows], q.2)) else bif decide (n_1 > (576460752303423488 : Int)) then kOpt (EVd (EV cfg) 233 [.ptr 0 0 
  0] 7 [[.int .i64 ke, .int .i64 ne, .str se, .sl le, .sl bd, .int .i64 self, .bool bad]]) fun (q : AV × List (List AV)) => kTmV q.1 fun (n n_2 : Int) (s : List UInt8) (rows : List (List 
  AV)) => (some (.agg [.int .i64 n, .int .i64 n_2, .str s, .sl rows], q.2)) else kOpt (EVd (EV cfg) 240 [.ptr 0 0 0, .int .i64 (IntKind.wrap .i64 ((-1 : Int) * IntKind.wrap .i64 n_1))] 
  7 [[.int .i64 ke, .int .i64 ne, .str se, .sl le, .sl bd, .int .i64 self, .bool bad]]) fun (q : AV × List (List AV)) => kTmV q.1 fun (n n_2 : Int) (s : List UInt8) (rows : List (List 
  AV)) => (some (.agg [.int .i64 n, .int .i64 n_2, .str s, .sl rows], q.2))) else bif decide (b < (0 : Int)) then kOpt (EVs (EV cfg) 312 [.int .u64 (IntKind.wrap .u64 a), .int .u64 (IntKind.wrap 
  .u64 (IntKind.wrap .i64 ((0 : Int) - b)))]) fun (v : AV) => kTup v fun (cs : List AV) => kCons cs fun (c : AV) (cs : List AV) => kInt .u64 c fun (n : Int) => kCons cs fun (c : AV) (cs 
  : List AV) => kInt .u64 c fun (n_1 : Int) => kNil cs (bif decide (n > (0 : Int)) then kOpt (EVd (EV cfg) 233 [.ptr 0 0 0] 7 [[.int .i64 ke, .int .i64 ne, .str se, .sl le, .sl bd, .int 
  .i64 self, .bool bad]]) fun (q : AV × List (List AV)) => kTmV q.1 fun (n n_2 : Int) (s : List UInt8) (rows : List (List AV)) => (some (.agg [.int .i64 n, .int .i64 n_2, .str s, .sl 
  rows], q.2)) else bif decide (n_1 > (576460752303423488 : Int)) then kOpt (EVd (EV cfg) 233 [.ptr 0 0 0] 7 [[.int .i64 ke, .int .i64 ne, .str se, .sl le, .sl bd, .int .i64 self, .bool 
  bad]]) fun (q : AV × List (List AV)) => kTmV q.1 fun (n n_2 : Int) (s : List UInt8) (rows : List (List AV)) => (some (.agg [.int .i64 n, .int .i64 n_2, .str s, .sl rows], q.2)) else 
  kOpt (EVd (EV cfg) 240 [.ptr 0 0 0, .int .i64 (IntKind.wrap .i64 ((-1 : Int) * IntKind.wrap .i64 n_1))] 7 [[.int .i64 ke, .int .i64 ne, .str se, .sl le, .sl bd, .int .i64 self, .bool 
  bad]]) fun (q : AV × List (List AV)) => kTmV q.1 fun (n n_2 : Int) (s : List UInt8) (rows : List (List AV)) => (some (.agg [.int .i64 n, .int .i64 n_2, .str s, .sl rows], q.2))) else 
  kOpt (EVs (EV cfg) 312 [.int .u64 (IntKind.wrap .u64 a), .int .u64 (IntKind.wrap .u64 b)]) fun (v : AV) => kTup v fun (cs : List AV) => kCons cs fun (c : AV) (cs : List AV) => kInt 
  .u64 c fun (n : Int) => kCons cs fun (c : AV) (cs : List AV) => kInt .u64 c fun (n_1 : Int) => kNil cs (bif decide (n > (0 : Int)) then kOpt (EVd (EV cfg) 233 [.ptr 0 0 0] 7 [[.int .i64 
  ke, .int .i64 ne, .str se, .sl le, .sl bd, .int .i64 self, .bool bad]]) fun (q : AV × List (List AV)) => kTmV q.1 fun (n n_2 : Int) (s : List UInt8) (rows : List (List AV)) => (some 
  (.agg [.int .i64 n, .int .i64 n_2, .str s, .sl rows], q.2)) else bif decide (n_1 > (576460752303423488 : Int)) then kOpt (EVd (EV cfg) 233 [.ptr 0 0 0] 7 [[.int .i64 ke, .int .i64 ne, 
  .str se, .sl le, .sl bd, .int .i64 self, .bool bad]]) fun (q : AV × List (List AV)) => kTmV q.1 fun (n n_2 : Int) (s : List UInt8) (rows : List (List AV)) => (some (.agg [.int .i64 
  n, .int .i64 n_2, .str s, .sl rows], q.2)) else kOpt (EVd (EV cfg) 240 [.ptr 0 0 0, .int .i64 (IntKind.wrap .i64 ((1 : Int) * IntKind.wrap .i64 n_1))] 7 [[.int .i64 ke, .int .i64 ne, 
  .str se, .sl le, .sl bd, .int .i64 self, .bool bad]]) fun (q : AV × List (List AV)) => kTmV q.1 fun (n n_2 : Int) (s : List UInt8) (rows : List (List AV)) => (some (.agg [.int .i64 
  n, .int .i64 n_2, .str s, .sl rows], q.2)))) P) : Gets (EVd (EV cfg) 294 ([AV.ptr (0 : Nat) (0 : Nat) (0 : Nat), AV.int IntKind.i64 a, AV.int IntKind.i64 b] : List AV) 7 [[AV.int .i64 ke, AV.int .i64 ne, AV.str se, AV.sl le, AV.sl bd, AV.int .i64 self, AV.bool bad]]) P :=
  Gets.ev (fun _ h => funD rfl rfl Tryz.func294 rfl h) (Gets.eq (by kernel_rfl) h)
theorem mNumbers_run (ke : Int) (ne : Int) (se : List UInt8) (le : List (List AV)) (bd : List (List AV)) (self : Int) (bad : Bool) (op : List UInt8) (a : Int) (b : Int) {P : AV × List (List AV) → Prop} (h : Gets (bif bad then some (.agg [.int .i64 (0 : Int), .int .i64 (0 : Int), .str [], .sl []], [[.int .i64 ke, .int .i64 ne, .str se, .sl le, .sl bd, .int .i64 self, .bool bad]]) else bif op 
  == [(43 : UInt8)] then kOpt (EVd (EV cfg) 240 [.ptr 0 0 0, .int .i64 (IntKind.wrap .i64 (a + b))] 7 [[.int .i64 ke, .int .i64 ne, .str se, .sl le, .sl bd, .int .i64 self, .bool bad]]) 
  fun (q : AV × List (List AV)) => kTmV q.1 fun (n n_1 : Int) (s : List UInt8) (rows : List (List AV)) => (some (.agg [.int .i64 n, .int .i64 n_1, .str s, .sl rows], q.2)) else bif op 
  == [(45 : UInt8)] then kOpt (EVd (EV cfg) 240 [.ptr 0 0 0, .int .i64 (IntKind.wrap .i64 (a - b))] 7 [[.int .i64 ke, .int .i64 ne, .str se, .sl le, .sl bd, .int .i64 self, .bool bad]]) 
  fun (q : AV × List (List AV)) => kTmV q.1 fun (n n_1 : Int) (s : List UInt8) (rows : List (List AV)) => (some (.agg [.int .i64 n, .int .i64 n_1, .str s, .sl rows], q.2)) else bif op 
  == [(42 : UInt8)] then kOpt (EVd (EV cfg) 294 [.ptr 0 0 0, .int .i64 a, .int .i64 b] 7 [[.int .i64 ke, .int .i64 ne, .str se, .sl le, .sl bd, .int .i64 self, .bool bad]]) fun (q : AV 
  × List (List AV)) => kTmV q.1 fun (n n_1 : Int) (s : List UInt8) (rows : List (List AV)) => (some (.agg [.int .i64 n, .int .i64 n_1, .str s, .sl rows], q.2)) else bif op == [(98 : UInt8), 
  (97 : UInt8), (110 : UInt8), (100 : UInt8)] then kOpt (fromSem (Op.intBits BinOp.and .i64 a b)) fun (v : AV) => kInt .i64 v fun (n : Int) => kOpt (EVd (EV cfg) 240 [.ptr 0 0 0, .int 
  .i64 n] 7 [[.int .i64 ke, .int .i64 ne, .str se, .sl le, .sl bd, .int .i64 self, .bool bad]]) fun (q : AV × List (List AV)) => kTmV q.1 fun (n n_1 : Int) (s : List UInt8) (rows : List 
  (List AV)) => (some (.agg [.int .i64 n, .int .i64 n_1, .str s, .sl rows], q.2)) else bif op == [(98 : UInt8), (111 : UInt8), (114 : UInt8)] then kOpt (fromSem (Op.intBits BinOp.or .i64 
  a b)) fun (v : AV) => kInt .i64 v fun (n : Int) => kOpt (EVd (EV cfg) 240 [.ptr 0 0 0, .int .i64 n] 7 [[.int .i64 ke, .int .i64 ne, .str se, .sl le, .sl bd, .int .i64 self, .bool bad]]) 
  fun (q : AV × List (List AV)) => kTmV q.1 fun (n n_1 : Int) (s : List UInt8) (rows : List (List AV)) => (some (.agg [.int .i64 n, .int .i64 n_1, .str s, .sl rows], q.2)) else bif op 
  == [(98 : UInt8), (120 : UInt8), (111 : UInt8), (114 : UInt8)] then kOpt (fromSem (Op.intBits BinOp.xor .i64 a b)) fun (v : AV) => kInt .i64 v fun (n : Int) => kOpt (EVd (EV cfg) 240 
  [.ptr 0 0 0, .int .i64 n] 7 [[.int .i64 ke, .int .i64 ne, .str se, .sl le, .sl bd, .int .i64 self, .bool bad]]) fun (q : AV × List (List AV)) => kTmV q.1 fun (n n_1 : Int) (s : List 
  UInt8) (rows : List (List AV)) => (some (.agg [.int .i64 n, .int .i64 n_1, .str s, .sl rows], q.2)) else bif b == (0 : Int) then kOpt (EVd (EV cfg) 233 [.ptr 0 0 0] 7 [[.int .i64 ke, 
  .int .i64 ne, .str se, .sl le, .sl bd, .int .i64 self, .bool bad]]) fun (q : AV × List (List AV)) => kTmV q.1 fun (n n_1 : Int) (s : List UInt8) (rows : List (List AV)) => (some (.agg 
  [.int .i64 n, .int .i64 n_1, .str s, .sl rows], q.2)) else bif op == [(100 : UInt8), (105 : UInt8), (118 : UInt8)] then kOpt (fromSem (Op.intDiv BinOp.quo .i64 a b)) fun (v : AV) => 
  kInt .i64 v fun (n : Int) => kOpt (EVd (EV cfg) 240 [.ptr 0 0 0, .int .i64 n] 7 [[.int .i64 ke, .int .i64 ne, .str se, .sl le, .sl bd, .int .i64 self, .bool bad]]) fun (q : AV × List 
  (List AV)) => kTmV q.1 fun (n n_1 : Int) (s : List UInt8) (rows : List (List AV)) => (some (.agg [.int .i64 n, .int .i64 n_1, .str s, .sl rows], q.2)) else kOpt (fromSem (Op.intDiv 
  BinOp.rem .i64 a b)) fun (v : AV) => kInt .i64 v fun (n : Int) => kOpt (EVd (EV cfg) 240 [.ptr 0 0 0, .int .i64 n] 7 [[.int .i64 ke, .int .i64 ne, .str se, .sl le, .sl bd, .int .i64 
  self, .bool bad]]) fun (q : AV × List (List AV)) => kTmV q.1 fun (n n_1 : Int) (s : List UInt8) (rows : List (List AV)) => (some (.agg [.int .i64 n, .int .i64 n_1, .str s, .sl rows], 
  q.2))) P) : Gets (EVd (EV cfg) 243 ([AV.ptr (0 : Nat) (0 : Nat) (0 : Nat), AV.str op, AV.int IntKind.i64 a, AV.int IntKind.i64 b] : List AV) 7 [[AV.int .i64 ke, AV.int .i64 ne, AV.str se, AV.sl le, AV.sl bd, AV.int .i64 self, AV.bool bad]]) P :=
  Gets.ev (fun _ h => funD rfl rfl Tryz.func243 rfl h) (Gets.eq (by kernel_rfl) h)
theorem mInt_run (ke : Int) (ne : Int) (se : List UInt8) (le : List (List AV)) (bd : List (List AV)) (self : Int) (bad : Bool) (kt : Int) (nt : Int) (st : List UInt8) (lt : List (List AV)) {P : MV × List (List AV) → Prop} (h : Gets (bif kt != (1 : Int) then kOpt (EVd (EV cfg) 233 [.ptr 0 0 0] 7 [[.int .i64 ke, .int .i64 ne, .str se, .sl le, .sl bd, .int .i64 self, .bool bad]]) fun (q : AV × List (List AV)) => kTmV 
  q.1 fun (n n : Int) (s : List UInt8) (rows : List (List AV)) => (some (MV.int .i64 nt, q.2)) else some (MV.int .i64 nt, [[.int .i64 ke, .int .i64 ne, .str se, .sl le, .sl bd, .int .i64 
  self, .bool bad]])) P) : Gets (EVm (EV cfg) 241 ([AV.ptr (0 : Nat) (0 : Nat) (0 : Nat), AV.agg [AV.int IntKind.i64 kt, AV.int IntKind.i64 nt, AV.str st, AV.sl lt]] : List AV) 7 [[AV.int .i64 ke, AV.int .i64 ne, AV.str se, AV.sl le, AV.sl bd, AV.int .i64 self, AV.bool bad]]) P :=
  Gets.ev (fun _ h => funM rfl rfl Tryz.func241 rfl h) (Gets.eq (by kernel_rfl) h)
theorem mBool_run (ke : Int) (ne : Int) (se : List UInt8) (le : List (List AV)) (bd : List (List AV)) (self : Int) (bad : Bool) (kt : Int) (nt : Int) (st : List UInt8) (lt : List (List AV)) {P : MV × List (List AV) → Prop} (h : Gets (bif kt != (2 : Int) then kOpt (EVd (EV cfg) 233 [.ptr 0 0 0] 7 [[.int .i64 ke, .int .i64 ne, .str se, .sl le, .sl bd, .int .i64 self, .bool bad]]) fun (q : AV × List (List AV)) => kTmV 
  q.1 fun (n n : Int) (s : List UInt8) (rows : List (List AV)) => (some (MV.bool (st == [(116 : UInt8), (114 : UInt8), (117 : UInt8), (101 : UInt8)]), q.2)) else bif !st == [(116 : UInt8), 
  (114 : UInt8), (117 : UInt8), (101 : UInt8)] then bif !st == [(102 : UInt8), (97 : UInt8), (108 : UInt8), (115 : UInt8), (101 : UInt8)] then kOpt (EVd (EV cfg) 233 [.ptr 0 0 0] 7 [[.int 
  .i64 ke, .int .i64 ne, .str se, .sl le, .sl bd, .int .i64 self, .bool bad]]) fun (q : AV × List (List AV)) => kTmV q.1 fun (n n : Int) (s : List UInt8) (rows : List (List AV)) => (some 
  (MV.bool (st == [(116 : UInt8), (114 : UInt8), (117 : UInt8), (101 : UInt8)]), q.2)) else some (MV.bool (st == [(116 : UInt8), (114 : UInt8), (117 : UInt8), (101 : UInt8)]), [[.int 
  .i64 ke, .int .i64 ne, .str se, .sl le, .sl bd, .int .i64 self, .bool bad]]) else some (MV.bool (st == [(116 : UInt8), (114 : UInt8), (117 : UInt8), (101 : UInt8)]), [[.int .i64 ke, 
  .int .i64 ne, .str se, .sl le, .sl bd, .int .i64 self, .bool bad]])) P) : Gets (EVm (EV cfg) 158 ([AV.ptr (0 : Nat) (0 : Nat) (0 : Nat), AV.agg [AV.int IntKind.i64 kt, AV.int IntKind.i64 nt, AV.str st, AV.sl lt]] : List AV) 7 [[AV.int .i64 ke, AV.int .i64 ne, AV.str se, AV.sl le, AV.sl bd, AV.int .i64 self, AV.bool bad]]) P :=
  Gets.ev (fun _ h => funM rfl rfl Tryz.func158 rfl h) (Gets.eq (by kernel_rfl) h)
theorem mTwo_run (ke : Int) (ne : Int) (se : List UInt8) (le : List (List AV)) (bd : List (List AV)) (self : Int) (bad : Bool) (op : List UInt8) (ka : Int) (na : Int) (sa : List UInt8) (la : List (List AV)) (kb : Int) (nb : Int) (sb : List UInt8) (lb : List (List AV)) {P : AV × List (List AV) → Prop} (h : Gets (bif op == [(61 : UInt8), (61 : UInt8)] then kOpt (EVs (EV cfg) 134 [.agg [.int .i64 ka, .int .i64 na, .str sa, .sl la], .agg [.int .i64 kb, .int .i64 nb, .str sb, .sl lb]]) fun (v : 
  AV) => kInt .i64 v fun (n : Int) => kOpt (EVf (EV cfg) 239 [.bool (n == (0 : Int))]) fun (v : AV) => kTmV v fun (n n_1 : Int) (s : List UInt8) (rows : List (List AV)) => (some (.agg 
  [.int .i64 n, .int .i64 n_1, .str s, .sl rows], [[.int .i64 ke, .int .i64 ne, .str se, .sl le, .sl bd, .int .i64 self, .bool bad]])) else bif op == [(61 : UInt8), (58 : UInt8), (61 
  : UInt8)] then kOpt (EVs (EV cfg) 134 [.agg [.int .i64 ka, .int .i64 na, .str sa, .sl la], .agg [.int .i64 kb, .int .i64 nb, .str sb, .sl lb]]) fun (v : AV) => kInt .i64 v fun (n : Int) 
  => kOpt (EVf (EV cfg) 239 [.bool (n == (0 : Int))]) fun (v : AV) => kTmV v fun (n n_1 : Int) (s : List UInt8) (rows : List (List AV)) => (some (.agg [.int .i64 n, .int .i64 n_1, .str 
  s, .sl rows], [[.int .i64 ke, .int .i64 ne, .str se, .sl le, .sl bd, .int .i64 self, .bool bad]])) else bif op == [(47 : UInt8), (61 : UInt8)] then kOpt (EVs (EV cfg) 134 [.agg [.int 
  .i64 ka, .int .i64 na, .str sa, .sl la], .agg [.int .i64 kb, .int .i64 nb, .str sb, .sl lb]]) fun (v : AV) => kInt .i64 v fun (n : Int) => kOpt (EVf (EV cfg) 239 [.bool (n != (0 : Int))]) 
  fun (v : AV) => kTmV v fun (n n_1 : Int) (s : List UInt8) (rows : List (List AV)) => (some (.agg [.int .i64 n, .int .i64 n_1, .str s, .sl rows], [[.int .i64 ke, .int .i64 ne, .str se, 
  .sl le, .sl bd, .int .i64 self, .bool bad]])) else bif op == [(61 : UInt8), (47 : UInt8), (61 : UInt8)] then kOpt (EVs (EV cfg) 134 [.agg [.int .i64 ka, .int .i64 na, .str sa, .sl la], 
  .agg [.int .i64 kb, .int .i64 nb, .str sb, .sl lb]]) fun (v : AV) => kInt .i64 v fun (n : Int) => kOpt (EVf (EV cfg) 239 [.bool (n != (0 : Int))]) fun (v : AV) => kTmV v fun (n n_1 : 
  Int) (s : List UInt8) (rows : List (List AV)) => (some (.agg [.int .i64 n, .int .i64 n_1, .str s, .sl rows], [[.int .i64 ke, .int .i64 ne, .str se, .sl le, .sl bd, .int .i64 self, .bool 
  bad]])) else bif op == [(60 : UInt8)] then kOpt (EVs (EV cfg) 134 [.agg [.int .i64 ka, .int .i64 na, .str sa, .sl la], .agg [.int .i64 kb, .int .i64 nb, .str sb, .sl lb]]) fun (v : AV) 
  => kInt .i64 v fun (n : Int) => kOpt (EVf (EV cfg) 239 [.bool (decide (n < (0 : Int)))]) fun (v : AV) => kTmV v fun (n n_1 : Int) (s : List UInt8) (rows : List (List AV)) => (some (.agg 
  [.int .i64 n, .int .i64 n_1, .str s, .sl rows], [[.int .i64 ke, .int .i64 ne, .str se, .sl le, .sl bd, .int .i64 self, .bool bad]])) else bif op == [(61 : UInt8), (60 : UInt8)] then 
  kOpt (EVs (EV cfg) 134 [.agg [.int .i64 ka, .int .i64 na, .str sa, .sl la], .agg [.int .i64 kb, .int .i64 nb, .str sb, .sl lb]]) fun (v : AV) => kInt .i64 v fun (n : Int) => kOpt (EVf 
  (EV cfg) 239 [.bool (decide (n ≤ (0 : Int)))]) fun (v : AV) => kTmV v fun (n n_1 : Int) (s : List UInt8) (rows : List (List AV)) => (some (.agg [.int .i64 n, .int .i64 n_1, .str s, .sl 
  rows], [[.int .i64 ke, .int .i64 ne, .str se, .sl le, .sl bd, .int .i64 self, .bool bad]])) else bif op == [(62 : UInt8)] then kOpt (EVs (EV cfg) 134 [.agg [.int .i64 ka, .int .i64 na, 
  .str sa, .sl la], .agg [.int .i64 kb, .int .i64 nb, .str sb, .sl lb]]) fun (v : AV) => kInt .i64 v fun (n : Int) => kOpt (EVf (EV cfg) 239 [.bool (decide (n > (0 : Int)))]) fun (v : 
  AV) => kTmV v fun (n n_1 : Int) (s : List UInt8) (rows : List (List AV)) => (some (.agg [.int .i64 n, .int .i64 n_1, .str s, .sl rows], [[.int .i64 ke, .int .i64 ne, .str se, .sl le, 
  .sl bd, .int .i64 self, .bool bad]])) else bif op == [(62 : UInt8), (61 : UInt8)] then kOpt (EVs (EV cfg) 134 [.agg [.int .i64 ka, .int .i64 na, .str sa, .sl la], .agg [.int .i64 kb, 
  .int .i64 nb, .str sb, .sl lb]]) fun (v : AV) => kInt .i64 v fun (n : Int) => kOpt (EVf (EV cfg) 239 [.bool (decide (n ≥ (0 : Int)))]) fun (v : AV) => kTmV v fun (n n_1 : Int) (s : List 
  UInt8) (rows : List (List AV)) => (some (.agg [.int .i64 n, .int .i64 n_1, .str s, .sl rows], [[.int .i64 ke, .int .i64 ne, .str se, .sl le, .sl bd, .int .i64 self, .bool bad]])) else 
  bif op == [(97 : UInt8), (110 : UInt8), (100 : UInt8)] then kOpt (EVm (EV cfg) 158 [.ptr 0 0 0, .agg [.int .i64 ka, .int .i64 na, .str sa, .sl la]] 7 [[.int .i64 ke, .int .i64 ne, .str 
  se, .sl le, .sl bd, .int .i64 self, .bool bad]]) fun (q : MV × List (List AV)) => kMBool q.1 fun (b : Bool) => kOpt (EVm (EV cfg) 158 [.ptr 0 0 0, .agg [.int .i64 kb, .int .i64 nb, .str 
  sb, .sl lb]] 7 q.2) fun (q : MV × List (List AV)) => kMBool q.1 fun (b_1 : Bool) => bif b then kOpt (EVf (EV cfg) 239 [.bool b_1]) fun (v : AV) => kTmV v fun (n n_1 : Int) (s : List 
  UInt8) (rows : List (List AV)) => (some (.agg [.int .i64 n, .int .i64 n_1, .str s, .sl rows], q.2)) else kOpt (EVf (EV cfg) 239 [.bool false]) fun (v : AV) => kTmV v fun (n n_1 : Int) 
  (s : List UInt8) (rows : List (List AV)) => (some (.agg [.int .i64 n, .int .i64 n_1, .str s, .sl rows], q.2)) else bif op == [(97 : UInt8), (110 : UInt8), (100 : UInt8), (97 : UInt8), 
  (108 : UInt8), (115 : UInt8), (111 : UInt8)] then kOpt (EVm (EV cfg) 158 [.ptr 0 0 0, .agg [.int .i64 ka, .int .i64 na, .str sa, .sl la]] 7 [[.int .i64 ke, .int .i64 ne, .str se, .sl 
  le, .sl bd, .int .i64 self, .bool bad]]) fun (q : MV × List (List AV)) => kMBool q.1 fun (b : Bool) => kOpt (EVm (EV cfg) 158 [.ptr 0 0 0, .agg [.int .i64 kb, .int .i64 nb, .str sb, 
  .sl lb]] 7 q.2) fun (q : MV × List (List AV)) => kMBool q.1 fun (b_1 : Bool) => bif b then kOpt (EVf (EV cfg) 239 [.bool b_1]) fun (v : AV) => kTmV v fun (n n_1 : Int) (s : List UInt8) 
  (rows : List (List AV)) => (some (.agg [.int .i64 n, .int .i64 n_1, .str s, .sl rows], q.2)) else kOpt (EVf (EV cfg) 239 [.bool false]) fun (v : AV) => kTmV v fun (n n_1 : Int) (s : 
  List UInt8) (rows : List (List AV)) => (some (.agg [.int .i64 n, .int .i64 n_1, .str s, .sl rows], q.2)) else bif op == [(111 : UInt8), (114 : UInt8)] then kOpt (EVm (EV cfg) 158 [.ptr 
  0 0 0, .agg [.int .i64 ka, .int .i64 na, .str sa, .sl la]] 7 [[.int .i64 ke, .int .i64 ne, .str se, .sl le, .sl bd, .int .i64 self, .bool bad]]) fun (q : MV × List (List AV)) => kMBool 
  q.1 fun (b : Bool) => kOpt (EVm (EV cfg) 158 [.ptr 0 0 0, .agg [.int .i64 kb, .int .i64 nb, .str sb, .sl lb]] 7 q.2) fun (q : MV × List (List AV)) => kMBool q.1 fun (b_1 : Bool) => bif 
  b then kOpt (EVf (EV cfg) 239 [.bool true]) fun (v : AV) => kTmV v fun (n n_1 : Int) (s : List UInt8) (rows : List (List AV)) => (some (.agg [.int .i64 n, .int .i64 n_1, .str s, .sl 
  rows], q.2)) else kOpt (EVf (EV cfg) 239 [.bool b_1]) fun (v : AV) => kTmV v fun (n n_1 : Int) (s : List UInt8) (rows : List (List AV)) => (some (.agg [.int .i64 n, .int .i64 n_1, .str 
  s, .sl rows], q.2)) else bif op == [(111 : UInt8), (114 : UInt8), (101 : UInt8), (108 : UInt8), (115 : UInt8), (101 : UInt8)] then kOpt (EVm (EV cfg) 158 [.ptr 0 0 0, .agg [.int .i64 
  ka, .int .i64 na, .str sa, .sl la]] 7 [[.int .i64 ke, .int .i64 ne, .str se, .sl le, .sl bd, .int .i64 self, .bool bad]]) fun (q : MV × List (List AV)) => kMBool q.1 fun (b : Bool) 
  => kOpt (EVm (EV cfg) 158 [.ptr 0 0 0, .agg [.int .i64 kb, .int .i64 nb, .str sb, .sl lb]] 7 q.2) fun (q : MV × List (List AV)) => kMBool q.1 fun (b_1 : Bool) => bif b then kOpt (EVf 
  (EV cfg) 239 [.bool true]) fun (v : AV) => kTmV v fun (n n_1 : Int) (s : List UInt8) (rows : List (List AV)) => (some (.agg [.int .i64 n, .int .i64 n_1, .str s, .sl rows], q.2)) else 
  kOpt (EVf (EV cfg) 239 [.bool b_1]) fun (v : AV) => kTmV v fun (n n_1 : Int) (s : List UInt8) (rows : List (List AV)) => (some (.agg [.int .i64 n, .int .i64 n_1, .str s, .sl rows], q.2)) 
  else bif op == [(120 : UInt8), (111 : UInt8), (114 : UInt8)] then kOpt (EVm (EV cfg) 158 [.ptr 0 0 0, .agg [.int .i64 ka, .int .i64 na, .str sa, .sl la]] 7 [[.int .i64 ke, .int .i64 
  ne, .str se, .sl le, .sl bd, .int .i64 self, .bool bad]]) fun (q : MV × List (List AV)) => kMBool q.1 fun (b : Bool) => kOpt (EVm (EV cfg) 158 [.ptr 0 0 0, .agg [.int .i64 kb, .int .i64 
  nb, .str sb, .sl lb]] 7 q.2) fun (q : MV × List (List AV)) => kMBool q.1 fun (b_1 : Bool) => kOpt (EVf (EV cfg) 239 [.bool !b == b_1]) fun (v : AV) => kTmV v fun (n n_1 : Int) (s : List 
  UInt8) (rows : List (List AV)) => (some (.agg [.int .i64 n, .int .i64 n_1, .str s, .sl rows], q.2)) else bif op == [(101 : UInt8), (108 : UInt8), (101 : UInt8), (109 : UInt8), (101 
  : UInt8), (110 : UInt8), (116 : UInt8)] then kOpt (EVm (EV cfg) 241 [.ptr 0 0 0, .agg [.int .i64 ka, .int .i64 na, .str sa, .sl la]] 7 [[.int .i64 ke, .int .i64 ne, .str se, .sl le, 
  .sl bd, .int .i64 self, .bool bad]]) fun (q : MV × List (List AV)) => kMInt .i64 q.1 fun (n : Int) => bif decide (n ≥ (1 : Int)) then bif kb == (7 : Int) then bif decide (n ≤ (↑(List.length 
  lb) : Int)) then bif leInt (0 : Int) (IntKind.wrap .i64 (n - (1 : Int))) && ltInt (IntKind.wrap .i64 (n - (1 : Int))) (↑(List.length lb) : Int) then kOpt (List.get?Internal lb (Int.toNat 
  (IntKind.wrap .i64 (n - (1 : Int))))) fun (row : List AV) => bif Nat.beq (List.length row) 4 then bif Nat.ble 4 (List.length row) then kTmC (List.take 4 row) fun (n n_1 : Int) (s : 
  List UInt8) (rows : List (List AV)) => (some (.agg [.int .i64 n, .int .i64 n_1, .str s, .sl rows], q.2)) else none else none else none else kOpt (EVd (EV cfg) 233 [.ptr 0 0 0] 7 q.2) 
  fun (q : AV × List (List AV)) => kTmV q.1 fun (n n_1 : Int) (s : List UInt8) (rows : List (List AV)) => (some (.agg [.int .i64 n, .int .i64 n_1, .str s, .sl rows], q.2)) else kOpt (EVd 
  (EV cfg) 233 [.ptr 0 0 0] 7 q.2) fun (q : AV × List (List AV)) => kTmV q.1 fun (n n_1 : Int) (s : List UInt8) (rows : List (List AV)) => (some (.agg [.int .i64 n, .int .i64 n_1, .str 
  s, .sl rows], q.2)) else kOpt (EVd (EV cfg) 233 [.ptr 0 0 0] 7 q.2) fun (q : AV × List (List AV)) => kTmV q.1 fun (n n_1 : Int) (s : List UInt8) (rows : List (List AV)) => (some (.agg 
  [.int .i64 n, .int .i64 n_1, .str s, .sl rows], q.2)) else kOpt (EVm (EV cfg) 241 [.ptr 0 0 0, .agg [.int .i64 ka, .int .i64 na, .str sa, .sl la]] 7 [[.int .i64 ke, .int .i64 ne, .str 
  se, .sl le, .sl bd, .int .i64 self, .bool bad]]) fun (q : MV × List (List AV)) => kMInt .i64 q.1 fun (n : Int) => kOpt (EVm (EV cfg) 241 [.ptr 0 0 0, .agg [.int .i64 kb, .int .i64 nb, 
  .str sb, .sl lb]] 7 q.2) fun (q : MV × List (List AV)) => kMInt .i64 q.1 fun (n_1 : Int) => kOpt (EVd (EV cfg) 243 [.ptr 0 0 0, .str op, .int .i64 n, .int .i64 n_1] 7 q.2) fun (q : AV 
  × List (List AV)) => kTmV q.1 fun (n n_2 : Int) (s : List UInt8) (rows : List (List AV)) => (some (.agg [.int .i64 n, .int .i64 n_2, .str s, .sl rows], q.2))) P) : Gets (EVd (EV cfg) 173 ([AV.ptr (0 : Nat) (0 : Nat) (0 : Nat), AV.str op, AV.agg [AV.int IntKind.i64 ka, AV.int IntKind.i64 na, AV.str sa, AV.sl la], AV.agg [AV.int IntKind.i64 kb, AV.int IntKind.i64 nb, AV.str sb, AV.sl lb]] : List AV) 7 [[AV.int .i64 ke, AV.int .i64 ne, AV.str se, AV.sl le, AV.sl bd, AV.int .i64 self, AV.bool bad]]) P :=
  Gets.ev (fun _ h => funD rfl rfl Tryz.func173 rfl h) (Gets.eq (by kernel_rfl) h)
theorem mOne_run (ke : Int) (ne : Int) (se : List UInt8) (le : List (List AV)) (bd : List (List AV)) (self : Int) (bad : Bool) (op : List UInt8) (kt : Int) (nt : Int) (st : List UInt8) (lt : List (List AV)) {P : AV × List (List AV) → Prop} (h : Gets (bif op == [(105 : UInt8), (115 : UInt8), (95 : UInt8), (97 : UInt8), (116 : UInt8), (111 : UInt8), (109 : UInt8)] then kOpt (EVf (EV cfg) 239 [.bool (kt == (2 : Int))]) fun (v : AV) 
  => kTmV v fun (n n_1 : Int) (s : List UInt8) (rows : List (List AV)) => (some (.agg [.int .i64 n, .int .i64 n_1, .str s, .sl rows], [[.int .i64 ke, .int .i64 ne, .str se, .sl le, .sl 
  bd, .int .i64 self, .bool bad]])) else bif op == [(105 : UInt8), (115 : UInt8), (95 : UInt8), (105 : UInt8), (110 : UInt8), (116 : UInt8), (101 : UInt8), (103 : UInt8), (101 : UInt8), 
  (114 : UInt8)] then kOpt (EVf (EV cfg) 239 [.bool (kt == (1 : Int))]) fun (v : AV) => kTmV v fun (n n_1 : Int) (s : List UInt8) (rows : List (List AV)) => (some (.agg [.int .i64 n, .int 
  .i64 n_1, .str s, .sl rows], [[.int .i64 ke, .int .i64 ne, .str se, .sl le, .sl bd, .int .i64 self, .bool bad]])) else bif op == [(105 : UInt8), (115 : UInt8), (95 : UInt8), (108 : 
  UInt8), (105 : UInt8), (115 : UInt8), (116 : UInt8)] then bif kt == (9 : Int) then kOpt (EVf (EV cfg) 239 [.bool true]) fun (v : AV) => kTmV v fun (n n_1 : Int) (s : List UInt8) (rows 
  : List (List AV)) => (some (.agg [.int .i64 n, .int .i64 n_1, .str s, .sl rows], [[.int .i64 ke, .int .i64 ne, .str se, .sl le, .sl bd, .int .i64 self, .bool bad]])) else kOpt (EVf 
  (EV cfg) 239 [.bool (kt == (8 : Int))]) fun (v : AV) => kTmV v fun (n n_1 : Int) (s : List UInt8) (rows : List (List AV)) => (some (.agg [.int .i64 n, .int .i64 n_1, .str s, .sl rows], 
  [[.int .i64 ke, .int .i64 ne, .str se, .sl le, .sl bd, .int .i64 self, .bool bad]])) else bif op == [(105 : UInt8), (115 : UInt8), (95 : UInt8), (116 : UInt8), (117 : UInt8), (112 : 
  UInt8), (108 : UInt8), (101 : UInt8)] then kOpt (EVf (EV cfg) 239 [.bool (kt == (7 : Int))]) fun (v : AV) => kTmV v fun (n n_1 : Int) (s : List UInt8) (rows : List (List AV)) => (some 
  (.agg [.int .i64 n, .int .i64 n_1, .str s, .sl rows], [[.int .i64 ke, .int .i64 ne, .str se, .sl le, .sl bd, .int .i64 self, .bool bad]])) else bif op == [(105 : UInt8), (115 : UInt8), 
  (95 : UInt8), (112 : UInt8), (105 : UInt8), (100 : UInt8)] then kOpt (EVf (EV cfg) 239 [.bool (kt == (6 : Int))]) fun (v : AV) => kTmV v fun (n n_1 : Int) (s : List UInt8) (rows : List 
  (List AV)) => (some (.agg [.int .i64 n, .int .i64 n_1, .str s, .sl rows], [[.int .i64 ke, .int .i64 ne, .str se, .sl le, .sl bd, .int .i64 self, .bool bad]])) else bif op == [(105 : 
  UInt8), (115 : UInt8), (95 : UInt8), (102 : UInt8), (117 : UInt8), (110 : UInt8), (99 : UInt8), (116 : UInt8), (105 : UInt8), (111 : UInt8), (110 : UInt8)] then kOpt (EVf (EV cfg) 239 
  [.bool (kt == (5 : Int))]) fun (v : AV) => kTmV v fun (n n_1 : Int) (s : List UInt8) (rows : List (List AV)) => (some (.agg [.int .i64 n, .int .i64 n_1, .str s, .sl rows], [[.int .i64 
  ke, .int .i64 ne, .str se, .sl le, .sl bd, .int .i64 self, .bool bad]])) else bif op == [(105 : UInt8), (115 : UInt8), (95 : UInt8), (114 : UInt8), (101 : UInt8), (102 : UInt8), (101 
  : UInt8), (114 : UInt8), (101 : UInt8), (110 : UInt8), (99 : UInt8), (101 : UInt8)] then bif kt == (3 : Int) then kOpt (EVf (EV cfg) 239 [.bool true]) fun (v : AV) => kTmV v fun (n n_1 
  : Int) (s : List UInt8) (rows : List (List AV)) => (some (.agg [.int .i64 n, .int .i64 n_1, .str s, .sl rows], [[.int .i64 ke, .int .i64 ne, .str se, .sl le, .sl bd, .int .i64 self, 
  .bool bad]])) else kOpt (EVf (EV cfg) 239 [.bool (kt == (4 : Int))]) fun (v : AV) => kTmV v fun (n n_1 : Int) (s : List UInt8) (rows : List (List AV)) => (some (.agg [.int .i64 n, .int 
  .i64 n_1, .str s, .sl rows], [[.int .i64 ke, .int .i64 ne, .str se, .sl le, .sl bd, .int .i64 self, .bool bad]])) else bif op == [(110 : UInt8), (111 : UInt8), (116 : UInt8)] then kOpt 
  (EVm (EV cfg) 158 [.ptr 0 0 0, .agg [.int .i64 kt, .int .i64 nt, .str st, .sl lt]] 7 [[.int .i64 ke, .int .i64 ne, .str se, .sl le, .sl bd, .int .i64 self, .bool bad]]) fun (q : MV × 
  List (List AV)) => kMBool q.1 fun (b : Bool) => kOpt (EVf (EV cfg) 239 [.bool !b]) fun (v : AV) => kTmV v fun (n n_1 : Int) (s : List UInt8) (rows : List (List AV)) => (some (.agg [.int 
  .i64 n, .int .i64 n_1, .str s, .sl rows], q.2)) else bif op == [(98 : UInt8), (110 : UInt8), (111 : UInt8), (116 : UInt8)] then kOpt (EVm (EV cfg) 241 [.ptr 0 0 0, .agg [.int .i64 kt, 
  .int .i64 nt, .str st, .sl lt]] 7 [[.int .i64 ke, .int .i64 ne, .str se, .sl le, .sl bd, .int .i64 self, .bool bad]]) fun (q : MV × List (List AV)) => kMInt .i64 q.1 fun (n : Int) => 
  kOpt (fromSem (Op.intBits BinOp.xor .i64 (-1 : Int) n)) fun (v : AV) => kInt .i64 v fun (n : Int) => kOpt (EVd (EV cfg) 240 [.ptr 0 0 0, .int .i64 n] 7 q.2) fun (q : AV × List (List 
  AV)) => kTmV q.1 fun (n n_1 : Int) (s : List UInt8) (rows : List (List AV)) => (some (.agg [.int .i64 n, .int .i64 n_1, .str s, .sl rows], q.2)) else bif op == [(43 : UInt8)] then kOpt 
  (EVm (EV cfg) 241 [.ptr 0 0 0, .agg [.int .i64 kt, .int .i64 nt, .str st, .sl lt]] 7 [[.int .i64 ke, .int .i64 ne, .str se, .sl le, .sl bd, .int .i64 self, .bool bad]]) fun (q : MV × 
  List (List AV)) => kMInt .i64 q.1 fun (n : Int) => kOpt (EVd (EV cfg) 240 [.ptr 0 0 0, .int .i64 n] 7 q.2) fun (q : AV × List (List AV)) => kTmV q.1 fun (n n_1 : Int) (s : List UInt8) 
  (rows : List (List AV)) => (some (.agg [.int .i64 n, .int .i64 n_1, .str s, .sl rows], q.2)) else bif op == [(45 : UInt8)] then kOpt (EVm (EV cfg) 241 [.ptr 0 0 0, .agg [.int .i64 kt, 
  .int .i64 nt, .str st, .sl lt]] 7 [[.int .i64 ke, .int .i64 ne, .str se, .sl le, .sl bd, .int .i64 self, .bool bad]]) fun (q : MV × List (List AV)) => kMInt .i64 q.1 fun (n : Int) => 
  kOpt (EVd (EV cfg) 240 [.ptr 0 0 0, .int .i64 (IntKind.wrap .i64 ((0 : Int) - n))] 7 q.2) fun (q : AV × List (List AV)) => kTmV q.1 fun (n n_1 : Int) (s : List UInt8) (rows : List (List 
  AV)) => (some (.agg [.int .i64 n, .int .i64 n_1, .str s, .sl rows], q.2)) else bif op == [(97 : UInt8), (98 : UInt8), (115 : UInt8)] then kOpt (EVm (EV cfg) 241 [.ptr 0 0 0, .agg [.int 
  .i64 kt, .int .i64 nt, .str st, .sl lt]] 7 [[.int .i64 ke, .int .i64 ne, .str se, .sl le, .sl bd, .int .i64 self, .bool bad]]) fun (q : MV × List (List AV)) => kMInt .i64 q.1 fun (n 
  : Int) => kOpt (EVd (EV cfg) 240 [.ptr 0 0 0, .int .i64 (if (fun (b a : Int) => decide (a < b)) (IntKind.wrap .i64 ((0 : Int) - nt)) n = true then IntKind.wrap .i64 ((0 : Int) - nt) 
  else n)] 7 q.2) fun (q : AV × List (List AV)) => kTmV q.1 fun (n n_1 : Int) (s : List UInt8) (rows : List (List AV)) => (some (.agg [.int .i64 n, .int .i64 n_1, .str s, .sl rows], q.2)) 
  else bif op == [(116 : UInt8), (117 : UInt8), (112 : UInt8), (108 : UInt8), (101 : UInt8), (95 : UInt8), (115 : UInt8), (105 : UInt8), (122 : UInt8), (101 : UInt8)] then bif kt != (7 
  : Int) then kOpt (EVd (EV cfg) 233 [.ptr 0 0 0] 7 [[.int .i64 ke, .int .i64 ne, .str se, .sl le, .sl bd, .int .i64 self, .bool bad]]) fun (q : AV × List (List AV)) => kTmV q.1 fun (n 
  n_1 : Int) (s : List UInt8) (rows : List (List AV)) => (some (.agg [.int .i64 n, .int .i64 n_1, .str s, .sl rows], q.2)) else kOpt (EVd (EV cfg) 240 [.ptr 0 0 0, .int .i64 (↑(List.length 
  lt) : Int)] 7 [[.int .i64 ke, .int .i64 ne, .str se, .sl le, .sl bd, .int .i64 self, .bool bad]]) fun (q : AV × List (List AV)) => kTmV q.1 fun (n n_1 : Int) (s : List UInt8) (rows 
  : List (List AV)) => (some (.agg [.int .i64 n, .int .i64 n_1, .str s, .sl rows], q.2)) else bif op == [(115 : UInt8), (105 : UInt8), (122 : UInt8), (101 : UInt8)] then bif kt != (7 
  : Int) then kOpt (EVd (EV cfg) 233 [.ptr 0 0 0] 7 [[.int .i64 ke, .int .i64 ne, .str se, .sl le, .sl bd, .int .i64 self, .bool bad]]) fun (q : AV × List (List AV)) => kTmV q.1 fun (n 
  n_1 : Int) (s : List UInt8) (rows : List (List AV)) => (some (.agg [.int .i64 n, .int .i64 n_1, .str s, .sl rows], q.2)) else kOpt (EVd (EV cfg) 240 [.ptr 0 0 0, .int .i64 (↑(List.length 
  lt) : Int)] 7 [[.int .i64 ke, .int .i64 ne, .str se, .sl le, .sl bd, .int .i64 self, .bool bad]]) fun (q : AV × List (List AV)) => kTmV q.1 fun (n n_1 : Int) (s : List UInt8) (rows 
  : List (List AV)) => (some (.agg [.int .i64 n, .int .i64 n_1, .str s, .sl rows], q.2)) else kOpt (EVd (EV cfg) 242 [.ptr 0 0 0, .str op, .agg [.int .i64 kt, .int .i64 nt, .str st, .sl 
  lt]] 7 [[.int .i64 ke, .int .i64 ne, .str se, .sl le, .sl bd, .int .i64 self, .bool bad]]) fun (q : AV × List (List AV)) => kTmV q.1 fun (n n_1 : Int) (s : List UInt8) (rows : List 
  (List AV)) => (some (.agg [.int .i64 n, .int .i64 n_1, .str s, .sl rows], q.2))) P) : Gets (EVd (EV cfg) 172 ([AV.ptr (0 : Nat) (0 : Nat) (0 : Nat), AV.str op, AV.agg [AV.int IntKind.i64 kt, AV.int IntKind.i64 nt, AV.str st, AV.sl lt]] : List AV) 7 [[AV.int .i64 ke, AV.int .i64 ne, AV.str se, AV.sl le, AV.sl bd, AV.int .i64 self, AV.bool bad]]) P :=
  Gets.ev (fun _ h => funD rfl rfl Tryz.func172 rfl h) (Gets.eq (by kernel_rfl) h)
theorem mApply_run (ke : Int) (ne : Int) (se : List UInt8) (le : List (List AV)) (bd : List (List AV)) (self : Int) (bad : Bool) (op : List UInt8) (L : List (List AV)) {P : AV × List (List AV) → Prop} (h : Gets (bif (↑(List.length L) : Int) == (1 : Int) then bif ltInt (0 : Int) (↑(List.length L) : Int) then kOpt (List.get?Internal L 0) fun (row : List AV) => bif Nat.beq (List.length row) 4 
  then bif Nat.ble 4 (List.length row) then kTmC (List.take 4 row) fun (n n_1 : Int) (s : List UInt8) (rows : List (List AV)) => (kOpt (EVd (EV cfg) 172 [.ptr 0 0 0, .str op, .agg [.int 
  .i64 n, .int .i64 n_1, .str s, .sl rows]] 7 [[.int .i64 ke, .int .i64 ne, .str se, .sl le, .sl bd, .int .i64 self, .bool bad]]) fun (q : AV × List (List AV)) => kTmV q.1 fun (n n_2 
  : Int) (s : List UInt8) (rows : List (List AV)) => (some (.agg [.int .i64 n, .int .i64 n_2, .str s, .sl rows], q.2))) else none else none else none else bif (↑(List.length L) : Int) 
  == (2 : Int) then bif ltInt (0 : Int) (↑(List.length L) : Int) then kOpt (List.get?Internal L 0) fun (row : List AV) => bif Nat.beq (List.length row) 4 then bif Nat.ble 4 (List.length 
  row) then kTmC (List.take 4 row) fun (n n_1 : Int) (s : List UInt8) (rows : List (List AV)) => (bif ltInt (1 : Int) (↑(List.length L) : Int) then kOpt (List.get?Internal L 1) fun (row 
  : List AV) => bif Nat.beq (List.length row) 4 then bif Nat.ble 4 (List.length row) then kTmC (List.take 4 row) fun (n_2 n_3 : Int) (s_1 : List UInt8) (rows_1 : List (List AV)) => (kOpt 
  (EVd (EV cfg) 173 [.ptr 0 0 0, .str op, .agg [.int .i64 n, .int .i64 n_1, .str s, .sl rows], .agg [.int .i64 n_2, .int .i64 n_3, .str s_1, .sl rows_1]] 7 [[.int .i64 ke, .int .i64 ne, 
  .str se, .sl le, .sl bd, .int .i64 self, .bool bad]]) fun (q : AV × List (List AV)) => kTmV q.1 fun (n n_4 : Int) (s : List UInt8) (rows : List (List AV)) => (some (.agg [.int .i64 
  n, .int .i64 n_4, .str s, .sl rows], q.2))) else none else none else none) else none else none else none else some (.agg [.int .i64 (6 : Int), .int .i64 self, .str [], .sl []], [[.int 
  .i64 ke, .int .i64 ne, .str se, .sl le, .sl bd, .int .i64 self, .bool bad]])) P) : Gets (EVd (EV cfg) 92 ([AV.ptr (0 : Nat) (0 : Nat) (0 : Nat), AV.str op, AV.sl L] : List AV) 7 [[AV.int .i64 ke, AV.int .i64 ne, AV.str se, AV.sl le, AV.sl bd, AV.int .i64 self, AV.bool bad]]) P :=
  Gets.ev (fun _ h => funD rfl rfl Tryz.func92 rfl h) (Gets.eq (by kernel_rfl) h)
theorem wg65_0_step (A : List (List AV)) (n : Int) (v8 : Int) {P : AV → Prop} (h : Gets (bif decide (v8 < (↑(List.length A) : Int)) then bif leInt (0 : Int) v8 && ltInt v8 (↑(List.length A) : Int) then kOpt (List.get?Internal A (Int.toNat v8)) fun (row : List AV) => bif 
  Nat.beq (List.length row) 1 then kOpt (List.get?Internal row 0) fun (v : AV) => kInt .i64 v fun (n_1 : Int) => bif n == n_1 then some (.int .i64 v8) else wg65_0 A n (IntKind.wrap .i64 
  (v8 + (1 : Int))) else none else none else some (.int .i64 (-1 : Int))) P) : Gets (wg65_0 A n v8) P :=
  Gets.ev (fun _ h => loop_step (cfg := cfg) (f := 168) (rd := none) (bs := 0) h) (Gets.eq (by kernel_rfl) h)
end Go.Proofs.YtkgkjngbfdnoiaaGreat
end

section
namespace Go.Proofs.YtkgkjngbfdnoiaaGreat
open Go.Av
theorem mRaise_ev (e : Env) (b : Bool) : EVd (EV cfg) 233 [.ptr 0 0 0] 7 (mR e b) = some (zeroT.av, mR e true) := by
  apply Gets.get
  refine mRaise_run _ _ _ _ _ _ _ ?_
  rw [zeroT_av]
  simp
theorem mNumber_ev (e : Env) (b : Bool) (n : Int) : EVd (EV cfg) 240 [.ptr 0 0 0, .int .i64 n] 7 (mR e b) = some (if InB n then ((numT n).av, mR e b) else (zeroT.av, mR e true)) := by
  have hr := mRaise_ev e b
  apply Gets.get
  refine mNumber_run _ _ _ _ _ _ _ _ ?_
  simp only [hr]
  unfold InB
  rw [numT_av]
  by_cases h1 : n < -576460752303423488
  · have : ¬ (-576460752303423488 ≤ n ∧ n ≤ 576460752303423487) := by omega
    simp [h1, this]
  · by_cases h2 : n > 576460752303423487
    · have : ¬ (-576460752303423488 ≤ n ∧ n ≤ 576460752303423487) := by omega
      simp [h1, h2, this]
    · have : (-576460752303423488 ≤ n ∧ n ≤ 576460752303423487) := by omega
      simp [h1, h2, this]
theorem mNumber_within (e : Env) (n : Int) {P : AV × List (List AV) → Prop} (h : ∀ r, Res e (withinG n) r → (∃ t : Tm, r.1 = t.av) → P r) : Gets (EVd (EV cfg) 240 [.ptr 0 0 0, .int .i64 n] 7 (mR e false)) P := by
  rw [mNumber_ev]
  refine ⟨_, rfl, h _ ?_ ?_⟩
  · unfold withinG Res
    by_cases hb : InB n
    · simp [hb]
    · simp [hb]; exact ⟨_, rfl⟩
  · by_cases hb : InB n
    · exact ⟨numT n, by simp [hb]⟩
    · exact ⟨zeroT, by simp [hb]⟩
theorem mNumbers_bad (e : Env) (op : List UInt8) (a b : Int) : EVd (EV cfg) 243 [.ptr 0 0 0, .str op, .int .i64 a, .int .i64 b] 7 (mR e true) = some (zeroT.av, mR e true) := by
  apply Gets.get
  refine mNumbers_run _ _ _ _ _ _ _ _ _ _ ?_
  rw [zeroT_av]; simp
def ProductOk : Prop := ∀ (e : Env) (a b : Int), InB a → InB b → Gets (EVd (EV cfg) 294 [.ptr 0 0 0, .int .i64 a, .int .i64 b] 7 (mR e false)) (Res e (withinG (a * b)))
theorem ret_res {e : Env} {o : Option Tm} {r : AV × List (List AV)} (h : Res e o r) (ht : ∃ t : Tm, r.1 = t.av) : Gets (kTmV r.1 fun (n n_1 : Int) (s : List UInt8) (rows : List (List AV)) => some (AV.agg [.int .i64 n, .int .i64 n_1, .str s, .sl rows], r.2)) (Res e o) := by
  obtain ⟨t, ht⟩ := ht
  rw [ht, kTmV_av]
  refine ⟨_, rfl, ?_⟩
  have : (AV.agg [.int .i64 t.kind, .int .i64 t.num, .str t.str, .sl (rowsT t.subs)], r.2) = r := by
    rw [← Tm.cells_eq]; exact Prod.ext ht.symm rfl
  rw [this]; exact h
theorem Res_tm {e : Env} {o : Option Tm} {r : AV × List (List AV)} (h : Res e o r) : ∃ t : Tm, r.1 = t.av := by
  unfold Res at h
  split at h
  · exact ⟨_, by rw [h]⟩
  · exact h.2
theorem mNumbers_ev (e : Env) (op : List UInt8) {a b : Int} (ha : InB a) (hb : InB b) (hp : op = [42] → ProductOk) : Gets (EVd (EV cfg) 243 [.ptr 0 0 0, .str op, .int .i64 a, .int .i64 b] 7 (mR e false)) (Res e (numbersG op a b)) := by
  have num : ∀ n, Gets (kOpt (EVd (EV cfg) 240 [.ptr 0 0 0, .int .i64 n] 7 (mR e false)) fun q => kTmV q.1 fun (n n_1 : Int) (s : List UInt8) (rows : List (List AV)) => some (AV.agg [.int .i64 n, .int .i64 n_1, .str s, .sl rows], q.2)) (Res e (withinG n)) :=
    fun n => Gets.bind (mNumber_within e n fun r h1 h2 => h1) fun r h => ret_res h (Res_tm h)
  refine mNumbers_run _ _ _ _ _ _ _ _ _ _ ?_
  have ha' := ha
  have hb' := hb
  obtain ⟨a1, a2⟩ := ha
  obtain ⟨b1, b2⟩ := hb
  simp only [beqS, beqD, cond_false]
  unfold numbersG
  by_cases h1 : op = [43]
  · rw [if_pos h1, decide_eq_true h1, cond_true, wrap64 (by omega) (by omega)]; exact num _
  rw [if_neg h1, decide_eq_false h1, cond_false]
  by_cases h2 : op = [45]
  · rw [if_pos h2, decide_eq_true h2, cond_true, wrap64 (by omega) (by omega)]; exact num _
  rw [if_neg h2, decide_eq_false h2, cond_false]
  by_cases h3 : op = [42]
  · rw [if_pos h3, decide_eq_true h3, cond_true]
    exact Gets.bind (hp h3 e a b ha' hb') fun r h => ret_res h (Res_tm h)
  rw [if_neg h3, decide_eq_false h3, cond_false]
  by_cases h4 : op = [98, 97, 110, 100]
  · rw [if_pos h4, decide_eq_true h4, cond_true, bvG_and ha' hb']; simp only [kOptSome, kInt_int]; exact num _
  rw [if_neg h4, decide_eq_false h4, cond_false]
  by_cases h5 : op = [98, 111, 114]
  · rw [if_pos h5, decide_eq_true h5, cond_true, bvG_or ha' hb']; simp only [kOptSome, kInt_int]; exact num _
  rw [if_neg h5, decide_eq_false h5, cond_false]
  by_cases h6 : op = [98, 120, 111, 114]
  · rw [if_pos h6, decide_eq_true h6, cond_true, bvG_xor ha' hb']; simp only [kOptSome, kInt_int]; exact num _
  rw [if_neg h6, decide_eq_false h6, cond_false]
  by_cases h7 : b = 0
  · rw [if_pos h7, decide_eq_true h7, cond_true, mRaise_ev]
    simp only [kOptSome, kTmV_av]
    exact ⟨_, rfl, rfl, zeroT, by rw [Tm.av, Tm.cells_eq]⟩
  rw [if_neg h7, decide_eq_false h7, cond_false, intDiv_quo h7, intDiv_rem h7]
  by_cases h8 : op = [100, 105, 118]
  · have := tdiv_abs (a := a) h7
    rw [if_pos h8, decide_eq_true h8, cond_true, wrap64 (by omega) (by omega)]; simp only [kOptSome, kInt_int]; exact num _
  · rw [if_neg h8, decide_eq_false h8, cond_false]; simp only [kOptSome, kInt_int]; exact num _
end Go.Proofs.YtkgkjngbfdnoiaaGreat
end

section
namespace Go.Proofs.YtkgkjngbfdnoiaaGreat
open Go.Av
set_option maxRecDepth 100000
set_option maxHeartbeats 0

noncomputable def Lq62_0 : Den := evC cfg (EV cfg) 219 none 0 (sub (bodyOf Tryz.f219) [1, 1, 0, 1, 0, 0])
noncomputable def Aq62_0 : Ex × List AV × AH → Option AV := kAft (Cfg.keepOut cfg 219 3) (kRun cfg (EV cfg) (kfN cfg 6) 219 none 0 (kFinS cfg (Cfg.lift cfg 219 0) Tryz.f219.results.toList) ([.block 0, .seq (sub (bodyOf Tryz.f219) [1, 1, 1])]))
noncomputable def Wq62_0 : List AV × AH → Option AV := fun p => kOpt (LOOP 0 (some [3, 6, 7, 8]) ([]) Lq62_0 p) Aq62_0
noncomputable def Lq97_0 : Den := evC cfg (EV cfg) 150 none 0 (sub (bodyOf Tryz.f150) [1, 0, 1, 0, 0])
noncomputable def Aq97_0 : Ex × List AV × AH → Option AV := kAft (Cfg.keepOut cfg 150 2) (kRun cfg (EV cfg) (kfN cfg 6) 150 none 0 (kFinS cfg (Cfg.lift cfg 150 0) Tryz.f150.results.toList) ([.block 0, .seq (sub (bodyOf Tryz.f150) [1, 1])]))
noncomputable def Wq97_0 : List AV × AH → Option AV := fun p => kOpt (LOOP 0 (some [0, 1, 2, 11, 12, 13]) ([]) Lq97_0 p) Aq97_0
noncomputable def Lq15_0 : Den := evC cfg (EV cfg) 134 none 0 (sub (bodyOf Tryz.f134) [1, 0, 1, 0, 0])
noncomputable def Aq15_0 : Ex × List AV × AH → Option AV := kAft (Cfg.keepOut cfg 134 1) (kRun cfg (EV cfg) (kfN cfg 6) 134 none 0 (kFinS cfg (Cfg.lift cfg 134 0) Tryz.f134.results.toList) ([.block 0, .scope]))
noncomputable def Wq15_0 : List AV × AH → Option AV := fun p => kOpt (LOOP 0 (some [2, 3]) ([]) Lq15_0 p) Aq15_0
noncomputable abbrev wq62_0 (a : Int) (b : Int) (c : Int) (v8 : Int) : Option (AV) := Wq62_0  (((fx 18 [(3, AV.int IntKind.i64 (0 : Int)), (6, AV.sl [[AV.int IntKind.i64 a], [AV.int IntKind.i64 b], [AV.int IntKind.i64 c]]), (7, AV.int IntKind.i64 (3 : Int)), (8, AV.int IntKind.i64 v8)]) : List AV), ([] : AH))
noncomputable abbrev wq62_0a (a : Int) (b : Int) (v8 : Int) : Option (AV) := Wq62_0  (((fx 18 [(3, AV.int IntKind.i64 (0 : Int)), (6, AV.sl [[AV.int IntKind.i64 a], [AV.int IntKind.i64 b]]), (7, AV.int IntKind.i64 (2 : Int)), (8, AV.int IntKind.i64 v8)]) : List AV), ([] : AH))
noncomputable abbrev wq97_0 (A : List (List AV)) (B : List (List AV)) (v13 : Int) : Option (AV) := Wq97_0  (((fx 39 [(0, AV.sl A), (1, AV.sl B), (2, AV.fn (Fn.func 134) [] []), (11, AV.sl A), (12, AV.int IntKind.i64 (↑(List.length A) : Int)), (13, AV.int IntKind.i64 v13)]) : List AV), ([] : AH))
noncomputable abbrev wq15_0 (c0_0 : Int) (c0_1 : Int) (c0_2 : List UInt8) (c0_3 : List (List AV)) (c1_0 : Int) (c1_1 : Int) (c1_2 : List UInt8) (c1_3 : List (List AV)) : Option (AV) := Wq15_0  (((fx 117 [(2, AV.ptr (0 : Nat) (0 : Nat) (0 : Nat)), (3, AV.ptr (1 : Nat) (0 : Nat) (0 : Nat))]) : List AV), ([ABlk.rows false (4 : Nat) [[AV.int IntKind.i64 c0_0, AV.int IntKind.i64 c0_1, AV.str c0_2, AV.sl c0_3]], ABlk.rows false (4 : Nat) [[AV.int IntKind.i64 c1_0, AV.int IntKind.i64 c1_1, AV.str c1_2, AV.sl c1_3]]] : AH))
theorem cmpI_run (a : Int) (b : Int) {P : AV → Prop} (h : Gets (kOpt (EVs (EV cfg) 226 [.int .i64 a]) fun (v : AV) => kBool v fun (b_1 : Bool) => kOpt (EVs (EV cfg) 226 [.int .i64 b]) fun (v : AV) => kBool v fun (b_2 : Bool) => bif b_1 then bif b_2 
  then some (.int .i64 (0 : Int)) else some (.int .i64 (-1 : Int)) else bif b_2 then some (.int .i64 (1 : Int)) else bif decide (a < b) then some (.int .i64 (-1 : Int)) else bif decide 
  (a > b) then some (.int .i64 (1 : Int)) else some (.int .i64 (0 : Int))) P) : Gets (EVs (EV cfg) 149 ([AV.int IntKind.i64 a, AV.int IntKind.i64 b] : List AV)) P :=
  Gets.ev (fun _ h => funS rfl rfl Tryz.func149 rfl h) (Gets.eq (by kernel_rfl) h)
theorem cmpSt_run (a : List UInt8) (b : List UInt8) {P : AV → Prop} (h : Gets (kOpt (EVs (EV cfg) 287 [.str a, .str b]) fun (v : AV) => kInt .i64 v fun (n : Int) => some (.int .i64 n)) P) : Gets (EVs (EV cfg) 218 ([AV.str a, AV.str b] : List AV)) P :=
  Gets.ev (fun _ h => funS rfl rfl Tryz.func218 rfl h) (Gets.eq (by kernel_rfl) h)
theorem or3_run (a : Int) (b : Int) (c : Int) {P : AV → Prop} (h : Gets (wq62_0 a b c (0 : Int)) P) : Gets (EVs (EV cfg) 219 ([AV.sl [[AV.int IntKind.i64 a], [AV.int IntKind.i64 b], [AV.int IntKind.i64 c]]] : List AV)) P :=
  Gets.ev (fun _ h => funS rfl rfl Tryz.func219 rfl h) (Gets.eq (by kernel_rfl) h)
theorem or2_run (a : Int) (b : Int) {P : AV → Prop} (h : Gets (wq62_0a a b (0 : Int)) P) : Gets (EVs (EV cfg) 219 ([AV.sl [[AV.int IntKind.i64 a], [AV.int IntKind.i64 b]]] : List AV)) P :=
  Gets.ev (fun _ h => funS rfl rfl Tryz.func219 rfl h) (Gets.eq (by kernel_rfl) h)
theorem cmpFunc_run (A : List (List AV)) (B : List (List AV)) {P : AV → Prop} (h : Gets (wq97_0 A B (0 : Int)) P) : Gets (EVs (EV cfg) 150 ([AV.sl A, AV.sl B, AV.fn (Fn.func 134) [] []] : List AV)) P :=
  Gets.ev (fun _ h => funS rfl rfl Tryz.func150 rfl h) (Gets.eq (by kernel_rfl) h)
theorem isNaNI_run (a : Int) {P : AV → Prop} (h : Gets (some (.bool (a != a))) P) : Gets (EVs (EV cfg) 226 ([AV.int IntKind.i64 a] : List AV)) P :=
  Gets.ev (fun _ h => funS rfl rfl Tryz.func226 rfl h) (Gets.eq (by kernel_rfl) h)
theorem cmpStr_run (a : List UInt8) (b : List UInt8) {P : AV → Prop} (h : Gets (kOpt (EVs (EV cfg) 308 [.str a, .str b]) fun (v : AV) => kInt .i64 v fun (n : Int) => some (.int .i64 n)) P) : Gets (EVs (EV cfg) 287 ([AV.str a, AV.str b] : List AV)) P :=
  Gets.ev (fun _ h => funS rfl rfl Tryz.func287 rfl h) (Gets.eq (by kernel_rfl) h)
theorem order_lists_run (A : List (List AV)) (B : List (List AV)) {P : AV → Prop} (h : Gets (kOpt (EVs (EV cfg) 150 [.sl A, .sl B, AV.fn (Fn.func 134) [] []]) fun (v : AV) => kInt .i64 v fun (n : Int) => some (.int .i64 n)) P) : Gets (EVs (EV cfg) 220 ([AV.sl A, AV.sl B] : List AV)) P :=
  Gets.ev (fun _ h => funS rfl rfl Tryz.func220 rfl h) (Gets.eq (by kernel_rfl) h)
theorem oCompare_run (ka : Int) (na : Int) (sa : List UInt8) (la : List (List AV)) (kb : Int) (nb : Int) (sb : List UInt8) (lb : List (List AV)) {P : AV → Prop} (h : Gets (wq15_0 ka na sa la kb nb sb lb) P) : Gets (EVs (EV cfg) 134 ([AV.agg [AV.int IntKind.i64 ka, AV.int IntKind.i64 na, AV.str sa, AV.sl la], AV.agg [AV.int IntKind.i64 kb, AV.int IntKind.i64 nb, AV.str sb, AV.sl lb]] : List AV)) P :=
  Gets.ev (fun _ h => funS rfl rfl Tryz.func134 rfl h) (Gets.eq (by kernel_rfl) h)
theorem wq62_0_step (a : Int) (b : Int) (c : Int) (v8 : Int) {P : AV → Prop} (h : Gets (bif decide (v8 < (3 : Int)) then bif leInt (0 : Int) v8 && ltInt v8 (↑3 : Int) then kOpt (List.get?Internal [[.int .i64 a], [.int .i64 b], [.int .i64 c]] (Int.toNat v8)) fun (row : 
  List AV) => bif Nat.beq (List.length row) 1 then kOpt (List.get?Internal row 0) fun (v : AV) => kInt .i64 v fun (n : Int) => bif n != (0 : Int) then some (.int .i64 n) else wq62_0 a 
  b c (IntKind.wrap .i64 (v8 + (1 : Int))) else none else none else some (.int .i64 (0 : Int))) P) : Gets (wq62_0 a b c v8) P :=
  Gets.ev (fun _ h => loop_step (cfg := cfg) (f := 219) (rd := none) (bs := 0) h) (Gets.eq (by kernel_rfl) h)
theorem wq62_0a_step (a : Int) (b : Int) (v8 : Int) {P : AV → Prop} (h : Gets (bif decide (v8 < (2 : Int)) then bif leInt (0 : Int) v8 && ltInt v8 (↑2 : Int) then kOpt (List.get?Internal [[.int .i64 a], [.int .i64 b]] (Int.toNat v8)) fun (row : List AV) => bif 
  Nat.beq (List.length row) 1 then kOpt (List.get?Internal row 0) fun (v : AV) => kInt .i64 v fun (n : Int) => bif n != (0 : Int) then some (.int .i64 n) else wq62_0a a b (IntKind.wrap 
  .i64 (v8 + (1 : Int))) else none else none else some (.int .i64 (0 : Int))) P) : Gets (wq62_0a a b v8) P :=
  Gets.ev (fun _ h => loop_step (cfg := cfg) (f := 219) (rd := none) (bs := 0) h) (Gets.eq (by kernel_rfl) h)
theorem wq97_0_step (A : List (List AV)) (B : List (List AV)) (v13 : Int) {P : AV → Prop} (h : Gets (bif decide (v13 < (↑(List.length A) : Int)) then bif leInt (0 : Int) v13 && ltInt v13 (↑(List.length A) : Int) then kOpt (List.get?Internal A (Int.toNat v13)) fun (row : List AV) => 
  bif Nat.beq (List.length row) 4 then bif Nat.ble 4 (List.length row) then kTmC (List.take 4 row) fun (n n_1 : Int) (s : List UInt8) (rows : List (List AV)) => (bif decide (v13 ≥ (↑(List.length 
  B) : Int)) then some (.int .i64 (1 : Int)) else bif leInt (0 : Int) v13 && ltInt v13 (↑(List.length B) : Int) then kOpt (List.get?Internal B (Int.toNat v13)) fun (row : List AV) => 
  bif Nat.beq (List.length row) 4 then bif Nat.ble 4 (List.length row) then kTmC (List.take 4 row) fun (n_2 n_3 : Int) (s_1 : List UInt8) (rows_1 : List (List AV)) => (kOpt (EVs (EV cfg) 
  134 [.agg [.int .i64 n, .int .i64 n_1, .str s, .sl rows], .agg [.int .i64 n_2, .int .i64 n_3, .str s_1, .sl rows_1]]) fun (v : AV) => kInt .i64 v fun (n : Int) => bif n != (0 : Int) 
  then some (.int .i64 n) else wq97_0 A B (IntKind.wrap .i64 (v13 + (1 : Int)))) else none else none else none) else none else none else none else bif decide ((↑(List.length A) : Int) 
  < (↑(List.length B) : Int)) then some (.int .i64 (-1 : Int)) else some (.int .i64 (0 : Int))) P) : Gets (wq97_0 A B v13) P :=
  Gets.ev (fun _ h => loop_step (cfg := cfg) (f := 150) (rd := none) (bs := 0) h) (Gets.eq (by kernel_rfl) h)
theorem wq15_0_step (c0_0 : Int) (c0_1 : Int) (c0_2 : List UInt8) (c0_3 : List (List AV)) (c1_0 : Int) (c1_1 : Int) (c1_2 : List UInt8) (c1_3 : List (List AV)) {P : AV → Prop} (h : Gets (kOpt (EVs (EV cfg) 149 [.int .i64 c0_0, .int .i64 c1_0]) fun (v : AV) => kInt .i64 v fun (n : Int) => bif n != (0 : Int) then some (.int .i64 n) else bif c0_0 == (1 : Int) then kOpt 
  (EVs (EV cfg) 149 [.int .i64 c0_1, .int .i64 c1_1]) fun (v : AV) => kInt .i64 v fun (n : Int) => some (.int .i64 n) else bif c0_0 == (3 : Int) then kOpt (EVs (EV cfg) 149 [.int .i64 c0_1, 
  .int .i64 c1_1]) fun (v : AV) => kInt .i64 v fun (n : Int) => some (.int .i64 n) else bif c0_0 == (4 : Int) then kOpt (EVs (EV cfg) 149 [.int .i64 c0_1, .int .i64 c1_1]) fun (v : AV) 
  => kInt .i64 v fun (n : Int) => some (.int .i64 n) else bif c0_0 == (6 : Int) then kOpt (EVs (EV cfg) 149 [.int .i64 c0_1, .int .i64 c1_1]) fun (v : AV) => kInt .i64 v fun (n : Int) 
  => some (.int .i64 n) else bif c0_0 == (2 : Int) then kOpt (EVs (EV cfg) 218 [.str c0_2, .str c1_2]) fun (v : AV) => kInt .i64 v fun (n : Int) => some (.int .i64 n) else bif c0_0 == 
  (5 : Int) then kOpt (EVs (EV cfg) 149 [.int .i64 c0_1, .int .i64 c1_1]) fun (v : AV) => kInt .i64 v fun (n : Int) => kOpt (EVs (EV cfg) 149 [.int .i64 (↑(List.length c0_3) : Int), .int 
  .i64 (↑(List.length c1_3) : Int)]) fun (v : AV) => kInt .i64 v fun (n_1 : Int) => kOpt (EVs (EV cfg) 220 [.sl c0_3, .sl c1_3]) fun (v : AV) => kInt .i64 v fun (n_2 : Int) => kOpt (EVs 
  (EV cfg) 219 [.sl [[.int .i64 n], [.int .i64 n_1], [.int .i64 n_2]]]) fun (v : AV) => kInt .i64 v fun (n : Int) => some (.int .i64 n) else bif c0_0 == (9 : Int) then bif (↑(List.length 
  c0_3) : Int) == (2 : Int) then bif (↑(List.length c1_3) : Int) == (2 : Int) then bif ltInt (0 : Int) (↑(List.length c0_3) : Int) then kOpt (List.get?Internal c0_3 0) fun (row : List 
  AV) => bif Nat.beq (List.length row) 4 then bif Nat.ble 4 (List.length row) then kTmC (List.take 4 row) fun (n n_1 : Int) (s : List UInt8) (rows : List (List AV)) => (bif ltInt (0 : 
  Int) (↑(List.length c1_3) : Int) then kOpt (List.get?Internal c1_3 0) fun (row : List AV) => bif Nat.beq (List.length row) 4 then bif Nat.ble 4 (List.length row) then kTmC (List.take 
  4 row) fun (n_2 n_3 : Int) (s_1 : List UInt8) (rows_1 : List (List AV)) => (kOpt (EVs (EV cfg) 134 [.agg [.int .i64 n, .int .i64 n_1, .str s, .sl rows], .agg [.int .i64 n_2, .int .i64 
  n_3, .str s_1, .sl rows_1]]) fun (v : AV) => kInt .i64 v fun (n : Int) => bif n != (0 : Int) then some (.int .i64 n) else bif ltInt (1 : Int) (↑(List.length c0_3) : Int) then kOpt (List.get?Internal 
  c0_3 1) fun (row : List AV) => bif Nat.beq (List.length row) 4 then bif Nat.ble 4 (List.length row) then kTmC (List.take 4 row) fun (n n_4 : Int) (s : List UInt8) (rows : List (List 
  AV)) => (bif ltInt (1 : Int) (↑(List.length c1_3) : Int) then kOpt (List.get?Internal c1_3 1) fun (row : List AV) => bif Nat.beq (List.length row) 4 then bif Nat.ble 4 (List.length 
  row) then kTmC (List.take 4 row) fun (n_5 n_6 : Int) (s_2 : List UInt8) (rows_2 : List (List AV)) => (wq15_0 n n_4 s rows n_5 n_6 s_2 rows_2) else none else none else none) else none 
  else none else none) else none else none else none) else none else none else none else kOpt (EVs (EV cfg) 149 [.int .i64 (↑(List.length c0_3) : Int), .int .i64 (↑(List.length c1_3) : 
  Int)]) fun (v : AV) => kInt .i64 v fun (n : Int) => kOpt (EVs (EV cfg) 220 [.sl c0_3, .sl c1_3]) fun (v : AV) => kInt .i64 v fun (n_1 : Int) => kOpt (EVs (EV cfg) 219 [.sl [[.int .i64 
  n], [.int .i64 n_1]]]) fun (v : AV) => kInt .i64 v fun (n : Int) => some (.int .i64 n) else kOpt (EVs (EV cfg) 149 [.int .i64 (↑(List.length c0_3) : Int), .int .i64 (↑(List.length c1_3) 
  : Int)]) fun (v : AV) => kInt .i64 v fun (n : Int) => kOpt (EVs (EV cfg) 220 [.sl c0_3, .sl c1_3]) fun (v : AV) => kInt .i64 v fun (n_1 : Int) => kOpt (EVs (EV cfg) 219 [.sl [[.int .i64 
  n], [.int .i64 n_1]]]) fun (v : AV) => kInt .i64 v fun (n : Int) => some (.int .i64 n) else bif c0_0 == (7 : Int) then kOpt (EVs (EV cfg) 149 [.int .i64 (↑(List.length c0_3) : Int), 
  .int .i64 (↑(List.length c1_3) : Int)]) fun (v : AV) => kInt .i64 v fun (n : Int) => kOpt (EVs (EV cfg) 220 [.sl c0_3, .sl c1_3]) fun (v : AV) => kInt .i64 v fun (n_1 : Int) => kOpt 
  (EVs (EV cfg) 219 [.sl [[.int .i64 n], [.int .i64 n_1]]]) fun (v : AV) => kInt .i64 v fun (n : Int) => some (.int .i64 n) else some (.int .i64 (0 : Int))) P) : Gets (wq15_0 c0_0 c0_1 c0_2 c0_3 c1_0 c1_1 c1_2 c1_3) P :=
  Gets.ev (fun _ h => loop_step (cfg := cfg) (f := 134) (rd := none) (bs := 0) h) (Gets.eq (by kernel_rfl) h)
end Go.Proofs.YtkgkjngbfdnoiaaGreat
end

section
namespace Go.Proofs.YtkgkjngbfdnoiaaGreat
open Go.Av
set_option maxRecDepth 100000

theorem isNaN_ev (a : Int) : EVs (EV cfg) 226 [.int .i64 a] = some (.bool false) := by
  apply Gets.get
  refine isNaNI_run _ ?_
  simp
theorem cmp_ev (a b : Int) : EVs (EV cfg) 149 [.int .i64 a, .int .i64 b] = some (.int .i64 (numC a b)) := by
  apply Gets.get
  refine cmpI_run _ _ ?_
  rw [isNaN_ev, isNaN_ev]
  unfold numC
  by_cases h1 : a < b
  · simp [h1]
  · by_cases h2 : b < a
    · simp [h1, h2]
    · simp [h1, h2]
theorem cmpstr_ev (a b : List UInt8) : EVs (EV cfg) 308 [.str a, .str b] = some (.int .i64 (strC a b)) := by
  refine EVs_of (H := []) (EV_of ?_)
  have hx : cfg.ext 308 = some extCmp := rfl
  unfold evBody
  simp only [hx]
  unfold extCmp strC
  by_cases h : a = b
  · simp [h]
  · simp [h]
theorem strCmp_ev (a b : List UInt8) : EVs (EV cfg) 218 [.str a, .str b] = some (.int .i64 (strC a b)) := by
  have h96 : EVs (EV cfg) 287 [.str a, .str b] = some (.int .i64 (strC a b)) := by
    apply Gets.get
    refine cmpStr_run _ _ ?_
    rw [cmpstr_ev]; simp
  apply Gets.get
  refine cmpSt_run _ _ ?_
  rw [h96]; simp
theorem or3_ev (a b c : Int) : EVs (EV cfg) 219 [.sl [[.int .i64 a], [.int .i64 b], [.int .i64 c]]] = some (.int .i64 (if a ≠ 0 then a else if b ≠ 0 then b else c)) := by
  apply Gets.get
  refine or3_run _ _ _ ?_
  have w1 : IntKind.wrap .i64 (0 + 1) = 1 := wrap64 (by omega) (by omega)
  have w2 : IntKind.wrap .i64 (1 + 1) = 2 := wrap64 (by omega) (by omega)
  have w3 : IntKind.wrap .i64 (2 + 1) = 3 := wrap64 (by omega) (by omega)
  have s3 : Gets (wq62_0 a b c 3) (· = .int .i64 0) := by
    refine wq62_0_step _ _ _ _ ?_
    simp
  have s2 : Gets (wq62_0 a b c 2) (· = .int .i64 c) := by
    refine wq62_0_step _ _ _ _ ?_
    rw [w3]
    by_cases h : c = 0
    · subst h; simp; exact s3
    · simp [bneD, h]
  have s1 : Gets (wq62_0 a b c 1) (· = .int .i64 (if b ≠ 0 then b else c)) := by
    refine wq62_0_step _ _ _ _ ?_
    rw [w2]
    by_cases h : b = 0
    · subst h; simp; exact s2
    · simp [bneD, h]
  refine wq62_0_step _ _ _ _ ?_
  rw [w1]
  by_cases h : a = 0
  · subst h; simp only [ne_eq, ite_not] at s1; simp; exact s1
  · simp [bneD, h]
theorem or2_ev (a b : Int) : EVs (EV cfg) 219 [.sl [[.int .i64 a], [.int .i64 b]]] = some (.int .i64 (if a ≠ 0 then a else b)) := by
  apply Gets.get
  refine or2_run _ _ ?_
  have w1 : IntKind.wrap .i64 (0 + 1) = 1 := wrap64 (by omega) (by omega)
  have w2 : IntKind.wrap .i64 (1 + 1) = 2 := wrap64 (by omega) (by omega)
  have s2 : Gets (wq62_0a a b 2) (· = .int .i64 0) := by
    refine wq62_0a_step _ _ _ ?_
    simp
  have s1 : Gets (wq62_0a a b 1) (· = .int .i64 b) := by
    refine wq62_0a_step _ _ _ ?_
    rw [w2]
    by_cases h : b = 0
    · subst h; simp; exact s2
    · simp [bneD, h]
  refine wq62_0a_step _ _ _ ?_
  rw [w1]
  by_cases h : a = 0
  · subst h; simp; exact s1
  · simp [bneD, h]
theorem drop_get {β : Type} {l : List β} {i : Nat} {x : β} (h : l[i]? = some x) : l.drop i = x :: l.drop (i + 1) := by
  obtain ⟨h1, h2⟩ := List.getElem?_eq_some_iff.1 h
  rw [← h2]; exact List.drop_eq_getElem_cons h1

theorem dropNil {β : Type} {l : List β} {i : Nat} (h : l.length ≤ i) : l.drop i = [] := List.drop_eq_nil_of_le h

theorem listsE_of (la lb : List Tm) (hlen : la.length < 1099511627776) (ih : ∀ a ∈ la, ∀ b ∈ lb, EVs (EV cfg) 134 [a.av, b.av] = some (.int .i64 (cmpT a b))) :
    EVs (EV cfg) 150 [.sl (rowsT la), .sl (rowsT lb), .fn (.func 134) [] []] = some (.int .i64 (cmpE la lb)) := by
  have loop : ∀ (d i : Nat), i + d = la.length → Gets (wq97_0 (rowsT la) (rowsT lb) i) (· = .int .i64 (cmpE (la.drop i) (lb.drop i))) := by
    intro d
    induction d with
    | zero =>
      intro i hi
      refine wq97_0_step _ _ _ ?_
      rw [dropNil (l := la) (by omega)]
      by_cases h : i < lb.length
      · obtain ⟨y, hy⟩ : ∃ y, lb[i]? = some y := ⟨_, List.getElem?_eq_getElem h⟩
        rw [drop_get hy, cmpE_nil_cons]
        simp [show ¬ i < la.length by omega, show la.length < lb.length by omega]
      · rw [dropNil (l := lb) (by omega), cmpE_nil]
        simp [show ¬ i < la.length by omega, show ¬ la.length < lb.length by omega]
    | succ d ihd =>
      intro i hi
      refine wq97_0_step _ _ _ ?_
      obtain ⟨x, hx⟩ : ∃ x, la[i]? = some x := ⟨_, List.getElem?_eq_getElem (by omega)⟩
      rw [drop_get hx]
      by_cases h : i < lb.length
      · obtain ⟨y, hy⟩ : ∃ y, lb[i]? = some y := ⟨_, List.getElem?_eq_getElem h⟩
        have hix := ih x (List.mem_of_getElem? hx) y (List.mem_of_getElem? hy)
        have hih := ihd (i + 1) (by omega)
        rw [drop_get hy, cmpE_cons]
        obtain ⟨k, n, s, l⟩ := x
        obtain ⟨k', n', s', l'⟩ := y
        simp only [get?Internal_eq, Int.toNat_natCast, rowsT_some hx, rowsT_some hy]
        simp [show i < la.length by omega, h, show ¬ lb.length ≤ i by omega, hix, bneD]
        by_cases hc : cmpT (.mk k n s l) (.mk k' n' s' l') = 0
        · simp [hc]; rw [wrap_succ (n := la.length) (by omega) hlen]; exact hih
        · simp [hc]
      · rw [dropNil (l := lb) (by omega), cmpE_cons_nil]
        obtain ⟨k, n, s, l⟩ := x
        simp only [get?Internal_eq, Int.toNat_natCast, rowsT_some hx]
        simp [show i < la.length by omega, show lb.length ≤ i by omega]
  apply Gets.get
  refine cmpFunc_run _ _ ?_
  exact loop la.length 0 (by omega)

theorem lists_of (la lb : List Tm) (hlen : la.length < 1099511627776) (ih : ∀ a ∈ la, ∀ b ∈ lb, EVs (EV cfg) 134 [a.av, b.av] = some (.int .i64 (cmpT a b))) :
    EVs (EV cfg) 220 [.sl (rowsT la), .sl (rowsT lb)] = some (.int .i64 (cmpE la lb)) := by
  apply Gets.get
  refine order_lists_run _ _ ?_
  rw [listsE_of la lb hlen ih]
  simp

theorem compare_loop (a : Tm) : a.Ok → ∀ (kb nb : Int) (sb : List UInt8) (lb : List Tm), (Tm.mk kb nb sb lb).Ok → Gets (wq15_0 a.kind a.num a.str (rowsT a.subs) kb nb sb (rowsT lb)) (· = .int .i64 (cmpT a (.mk kb nb sb lb))) := by
  induction a using Tm.ind with
  | _ k n s l ih =>
    intro hok kb nb sb lb hokb
    have ihe : ∀ a ∈ l, ∀ b ∈ lb, EVs (EV cfg) 134 [a.av, b.av] = some (.int .i64 (cmpT a b)) := by
      intro a ha b hb
      have := ih a ha (hok.sub ha)
      have hob := hokb.sub hb
      obtain ⟨k1, n1, s1, l1⟩ := a
      obtain ⟨k2, n2, s2, l2⟩ := b
      rw [Tm.av_mk, Tm.av_mk]
      apply Gets.get
      exact oCompare_run _ _ _ _ _ _ _ _ (this k2 n2 s2 l2 hob)
    have hlists := lists_of l lb hok.len ihe
    rw [cmpT_eq]
    refine wq15_0_step _ _ _ _ _ _ _ _ ?_
    simp only [Tm.kind, Tm.num, Tm.str, Tm.subs, cmp_ev, strCmp_ev, hlists, or2_ev, or3_ev, rowsT_length, kOptSome, kInt_int, bneD, beqD]
    by_cases h0 : ¬ numC k kb = 0
    · simp [h0]
    have h0 : numC k kb = 0 := Classical.not_not.1 h0
    simp [h0]
    by_cases h1 : k = 1
    · simp [h1]
    by_cases h3 : k = 3
    · simp [h3]
    by_cases h4 : k = 4
    · simp [h4]
    by_cases h6 : k = 6
    · simp [h6]
    by_cases h2 : k = 2
    · simp [h2]
    by_cases h5 : k = 5
    · simp [h5, cmpL]
    by_cases h9 : k = 9
    · subst h9
      by_cases hl : l.length = 2
      · by_cases hl' : lb.length = 2
        · obtain ⟨x, y, rfl⟩ : ∃ x y, l = [x, y] := by
            match l, hl with
            | [x, y], _ => exact ⟨x, y, rfl⟩
          obtain ⟨x', y', rfl⟩ : ∃ x y, lb = [x, y] := by
            match lb, hl' with
            | [x, y], _ => exact ⟨x, y, rfl⟩
          have hx := ihe x (by simp) x' (by simp)
          have hy := ih y (by simp) (hok.sub (by simp))
          have hoy := hokb.sub (t := y') (by simp)
          have hcl : cmpL [x, y] [x', y'] = if cmpT x x' ≠ 0 then cmpT x x' else cmpT y y' := by
            unfold cmpL
            rw [cmpE_cons, cmpE_cons, cmpE_nil]
            by_cases e1 : cmpT x x' = 0 <;> by_cases e2 : cmpT y y' = 0 <;> simp [numC_self, e1, e2]
          obtain ⟨k1, n1, s1, l1⟩ := x
          obtain ⟨k2, n2, s2, l2⟩ := y
          obtain ⟨k1', n1', s1', l1'⟩ := x'
          obtain ⟨k2', n2', s2', l2'⟩ := y'
          have hyy := hy k2' n2' s2' l2' hoy
          simp only [rowsT_cons, rowsT_nil, Tm.cells_mk]
          simp [hcl, hx]
          by_cases hc : cmpT (.mk k1 n1 s1 l1) (.mk k1' n1' s1' l1') = 0
          · simp [hc]; exact hyy
          · simp [hc]
        · have : ¬ ((lb.length : Int) = 2) := by omega
          simp [hl, this, cmpL]
      · have : ¬ ((l.length : Int) = 2) := by omega
        simp [this, cmpL]
    by_cases h7 : k = 7
    · simp [h7, cmpL]
    simp [h1, h2, h3, h4, h5, h6, h7, h9]

theorem compare_ev {a b : Tm} (ha : a.Ok) (hb : b.Ok) : EVs (EV cfg) 134 [a.av, b.av] = some (.int .i64 (cmpT a b)) := by
  have := compare_loop a ha
  obtain ⟨k1, n1, s1, l1⟩ := a
  obtain ⟨k2, n2, s2, l2⟩ := b
  rw [Tm.av_mk, Tm.av_mk]
  apply Gets.get
  exact oCompare_run _ _ _ _ _ _ _ _ (this k2 n2 s2 l2 hb)

end Go.Proofs.YtkgkjngbfdnoiaaGreat
end

section
namespace Go.Proofs.YtkgkjngbfdnoiaaGreat
open Go.Av
theorem truth_ev (b : Bool) : EVf (EV cfg) 239 [.bool b] = some (truthT b).av := by
  have ha : ∀ s, EVf (EV cfg) 292 [.str s] = some (symT s).av := by
    intro s
    apply Gets.get
    refine guard_atom_run _ ?_
    rw [symT_av]; simp
  apply Gets.get
  refine guard_truth_run _ ?_
  rw [ha, ha]
  cases b <;> simp [truthT, tru, fal]
theorem mInt_ev (e : Env) (b : Bool) (t : Tm) : EVm (EV cfg) 241 [.ptr 0 0 0, t.av] 7 (mR e b) = some (.int .i64 t.num, mR e (b || decide (t.kind ≠ 1))) := by
  have hr := mRaise_ev e b
  apply Gets.get
  rw [Tm.av, Tm.cells_eq]
  refine mInt_run _ _ _ _ _ _ _ _ _ _ _ ?_
  rw [hr, bneD]
  by_cases h : t.kind = 1
  · simp [h]
  · simp [h]
theorem mBool_ev (e : Env) (b : Bool) (t : Tm) : EVm (EV cfg) 158 [.ptr 0 0 0, t.av] 7 (mR e b) = some (.bool (decide (t.str = tru)), mR e (b || (boolG t).isNone)) := by
  have hr := mRaise_ev e b
  apply Gets.get
  rw [Tm.av, Tm.cells_eq]
  refine mBool_run _ _ _ _ _ _ _ _ _ _ _ ?_
  rw [hr, bneD]
  unfold boolG
  simp only [beqS, show ([116, 114, 117, 101] : List UInt8) = tru from rfl, show ([102, 97, 108, 115, 101] : List UInt8) = fal from rfl]
  by_cases h : t.kind = 2
  · by_cases h1 : t.str = tru
    · simp [h, h1]
    · by_cases h2 : t.str = fal
      · simp [h, h1, h2]
        have : ¬ fal = tru := by decide
        simp [this]
      · simp [h, h1, h2]
  · simp [h]
theorem boolG_some {t : Tm} {x : Bool} (h : boolG t = some x) : decide (t.str = tru) = x := by
  unfold boolG at h
  split at h
  · rename_i h1; cases h; exact decide_eq_true h1.2
  · split at h
    · rename_i h1; cases h; rw [h1.2]; decide
    · cases h
theorem ret_true {e : Env} {t : Tm} : Gets (some (t.av, mR e true)) (Res e none) := ⟨_, rfl, rfl, t, rfl⟩
theorem ret_false {e : Env} {t : Tm} : Gets (some (t.av, mR e false)) (Res e (some t)) := ⟨_, rfl, rfl⟩
theorem two_end {e : Env} {a b : Tm} (f : Bool → Bool → Bool) {o : Option (AV × List (List AV))} (h : o = some ((truthT (f (decide (a.str = tru)) (decide (b.str = tru)))).av, mR e (false || (boolG a).isNone || (boolG b).isNone))) :
    Gets o (Res e ((boolG a).bind fun x => (boolG b).map fun y => truthT (f x y))) := by
  subst h
  cases ha : boolG a with
  | none => exact ret_true
  | some x =>
    cases hb : boolG b with
    | none => exact ret_true
    | some y =>
      rw [boolG_some ha, boolG_some hb]
      exact ret_false
theorem mTwo_ev (e : Env) (op : List UInt8) {a b : Tm} (ha : a.Ok) (hb : b.Ok) (ia : a.kind = 1 → InB a.num) (ib : b.kind = 1 → InB b.num) (hp : op = [42] → ProductOk) :
    Gets (EVd (EV cfg) 173 [.ptr 0 0 0, .str op, a.av, b.av] 7 (mR e false)) (Res e (twoG op a b)) := by
  have hc := compare_ev ha hb
  rw [Tm.av, Tm.av, Tm.cells_eq a, Tm.cells_eq b]
  refine mTwo_run _ _ _ _ _ _ _ _ _ _ _ _ _ _ _ _ ?_
  simp only [av_unf, hc, kOptSome, kInt_int, truth_ev, kTmV_av, beqS, beqD, bneD]
  unfold twoG
  by_cases h1 : op = [61, 61]
  · rw [if_pos h1, decide_eq_true h1, cond_true]; exact ret_false
  rw [if_neg h1, decide_eq_false h1, cond_false]
  by_cases h2 : op = [61, 58, 61]
  · rw [if_pos h2, decide_eq_true h2, cond_true]; exact ret_false
  rw [if_neg h2, decide_eq_false h2, cond_false]
  by_cases h3 : op = [47, 61]
  · rw [if_pos h3, decide_eq_true h3, cond_true]; exact ret_false
  rw [if_neg h3, decide_eq_false h3, cond_false]
  by_cases h4 : op = [61, 47, 61]
  · rw [if_pos h4, decide_eq_true h4, cond_true]; exact ret_false
  rw [if_neg h4, decide_eq_false h4, cond_false]
  by_cases h5 : op = [60]
  · rw [if_pos h5, decide_eq_true h5, cond_true]; exact ret_false
  rw [if_neg h5, decide_eq_false h5, cond_false]
  by_cases h6 : op = [61, 60]
  · rw [if_pos h6, decide_eq_true h6, cond_true]; exact ret_false
  rw [if_neg h6, decide_eq_false h6, cond_false]
  by_cases h7 : op = [62]
  · rw [if_pos h7, decide_eq_true h7, cond_true]; exact ret_false
  rw [if_neg h7, decide_eq_false h7, cond_false]
  by_cases h8 : op = [62, 61]
  · rw [if_pos h8, decide_eq_true h8, cond_true]; exact ret_false
  rw [if_neg h8, decide_eq_false h8, cond_false]
  by_cases h9 : op = [97, 110, 100]
  · rw [if_pos (Or.inl h9), decide_eq_true h9, cond_true]
    refine two_end (fun x y => x && y) ?_
    simp only [mBool_ev, kOptSome, kMBool_bool]
    cases decide (a.str = tru) <;> cases decide (b.str = tru) <;> rfl
  rw [decide_eq_false h9, cond_false]
  by_cases h10 : op = [97, 110, 100, 97, 108, 115, 111]
  · rw [if_pos (Or.inr h10), decide_eq_true h10, cond_true]
    refine two_end (fun x y => x && y) ?_
    simp only [mBool_ev, kOptSome, kMBool_bool]
    cases decide (a.str = tru) <;> cases decide (b.str = tru) <;> rfl
  rw [if_neg (fun h => h.elim h9 h10), decide_eq_false h10, cond_false]
  by_cases h11 : op = [111, 114]
  · rw [if_pos (Or.inl h11), decide_eq_true h11, cond_true]
    refine two_end (fun x y => x || y) ?_
    simp only [mBool_ev, kOptSome, kMBool_bool]
    cases decide (a.str = tru) <;> cases decide (b.str = tru) <;> rfl
  rw [decide_eq_false h11, cond_false]
  by_cases h12 : op = [111, 114, 101, 108, 115, 101]
  · rw [if_pos (Or.inr h12), decide_eq_true h12, cond_true]
    refine two_end (fun x y => x || y) ?_
    simp only [mBool_ev, kOptSome, kMBool_bool]
    cases decide (a.str = tru) <;> cases decide (b.str = tru) <;> rfl
  rw [if_neg (fun h => h.elim h11 h12), decide_eq_false h12, cond_false]
  by_cases h13 : op = [120, 111, 114]
  · rw [if_pos h13, decide_eq_true h13, cond_true]
    refine two_end (fun x y => x != y) ?_
    simp only [mBool_ev, kOptSome, kMBool_bool]
    cases decide (a.str = tru) <;> cases decide (b.str = tru) <;> rfl
  rw [if_neg h13, decide_eq_false h13, cond_false]
  by_cases h14 : op = [101, 108, 101, 109, 101, 110, 116]
  · rw [if_pos h14, decide_eq_true h14, cond_true]
    simp only [mInt_ev, kOptSome, kMInt_int, mRaise_ev, kTmV_av, av_unf]
    by_cases g1 : 1 ≤ a.num
    · rw [decide_eq_true (show a.num ≥ 1 from g1), cond_true]
      by_cases g2 : b.kind = 7
      · rw [decide_eq_true g2, cond_true]
        by_cases g3 : a.num ≤ b.subs.length
        · have hl : (a.num - 1).toNat < b.subs.length := by omega
          obtain ⟨j, hj⟩ : ∃ j : Nat, a.num = (j : Int) + 1 := ⟨(a.num - 1).toNat, by omega⟩
          have hjl : j < b.subs.length := by omega
          have hbl := hb
          have hw : IntKind.wrap .i64 (a.num - 1) = (j : Int) := by
            have : b.subs.length < 1099511627776 := by
              obtain ⟨kb, nb, sb, lb⟩ := b
              exact hb.len
            rw [wrap64 (by omega) (by omega)]; omega
          have hx : b.subs[j]? = some b.subs[j] := List.getElem?_eq_getElem hjl
          have e1 : (a.num - 1).toNat = j := by omega
          rw [rowsT_length, decide_eq_true g3, cond_true, hw, leInt_zero, ltInt_nat, decide_eq_true hjl, rowsT_at hx, e1, hx]
          simp only [Bool.and_true, cond_true, length_cells, Nat.beq_refl, Nat.ble_eq, take_cells, kTmC_cells, av_unf]
          by_cases g0 : a.kind = 1
          · rw [if_pos ⟨g0, g1, g2, g3⟩]; simp only [g0]; exact ret_false
          · rw [if_neg (fun h => g0 h.1), decide_eq_true g0]; exact ret_true
        · rw [rowsT_length, decide_eq_false g3, cond_false, if_neg (fun h => g3 h.2.2.2)]; exact ret_true
      · rw [decide_eq_false g2, cond_false, if_neg (fun h => g2 h.2.2.1)]; exact ret_true
    · rw [decide_eq_false g1, cond_false, if_neg (fun h => g1 h.2.1)]; exact ret_true
  rw [if_neg h14, decide_eq_false h14, cond_false]
  simp only [mInt_ev, kOptSome, kMInt_int]
  by_cases ga : a.kind = 1
  · by_cases gb : b.kind = 1
    · rw [if_pos ⟨ga, gb⟩]
      simp only [ga, gb]
      exact Gets.bind (mNumbers_ev e op (ia ga) (ib gb) hp) fun r h => ret_res h (Res_tm h)
    · rw [if_neg (fun h => gb h.2), decide_eq_true gb, Bool.or_true, mNumbers_bad]
      simp only [kOptSome, kTmV_av, av_unf]; exact ret_true
  · rw [if_neg (fun h => ga h.1), decide_eq_true ga, Bool.or_true, Bool.true_or, mNumbers_bad]
    simp only [kOptSome, kTmV_av, av_unf]; exact ret_true
end Go.Proofs.YtkgkjngbfdnoiaaGreat
end

section
namespace Go.Proofs.YtkgkjngbfdnoiaaGreat
open Go.Av
theorem ops_ev (op : List UInt8) : EVf (EV cfg) 89 [.str op] = some (.sl (intsR (opsG op))) := by
  apply Gets.get
  refine guard_Ops_run _ ?_
  have h := lookS_map (fun l => some (AV.sl (intsR l))) op [] opsTab
  have : Gets (lookS op (some (AV.sl (intsR []))) (opsTab.map fun p => (p.1, some (AV.sl (intsR p.2))))) (· = .sl (intsR (opsG op))) := by
    rw [h]; exact ⟨_, rfl, rfl⟩
  exact this
theorem index_ev (l : List Int) (hl : l.length < 1099511627776) (n : Int) : ∀ d i : Nat, i + d = l.length → Gets (wg65_0 (intsR l) n i) (fun v => ∃ j : Int, v = .int .i64 j ∧ (0 ≤ j ↔ n ∈ l.drop i)) := by
  intro d
  induction d with
  | zero =>
    intro i hi
    refine wg65_0_step _ _ _ ?_
    rw [intsR_len, decide_eq_false (by omega)]
    refine ⟨_, rfl, -1, rfl, ?_⟩
    rw [List.drop_eq_nil_of_le (by omega)]
    simp
  | succ d ih =>
    intro i hi
    have hil : i < l.length := by omega
    refine wg65_0_step _ _ _ ?_
    have hx : l[i]? = some l[i] := List.getElem?_eq_getElem hil
    have hd : l.drop i = l[i] :: l.drop (i + 1) := List.drop_eq_getElem_cons hil
    have h := ih (i + 1) (by omega)
    rw [intsR_len, decide_eq_true (show (i : Int) < (l.length : Int) by omega), leInt_zero, ltInt_nat, decide_eq_true hil, get?Internal_eq, Int.toNat_natCast, intsR_get, hx, wrap_succ hil hl]
    by_cases he : n = l[i]
    · refine ⟨.int .i64 i, ?_, i, rfl, ?_⟩
      · simp [he]
      · rw [hd, he]; exact ⟨fun _ => List.mem_cons_self, fun _ => by omega⟩
    · have hne : (n == l[i]) = false := by rw [beqI]; exact decide_eq_false he
      simp [hne]
      refine Gets.mono (by simpa using h) ?_
      rintro _ ⟨j, rfl, hj⟩
      exact ⟨j, rfl, by rw [hj, hd, List.mem_cons]; exact ⟨Or.inr, fun h => h.resolve_left he⟩⟩
theorem contains_ev (l : List Int) (hl : l.length < 1099511627776) (n : Int) : EVs (EV cfg) 88 [.sl (intsR l), .int .i64 n] = some (.bool (decide (n ∈ l))) := by
  obtain ⟨_, h1, j, rfl, hj⟩ := index_ev l hl n l.length 0 (by omega)
  have h2 : EVs (EV cfg) 168 [.sl (intsR l), .int .i64 n] = some (.int .i64 j) := by
    apply Gets.get
    exact indexI_run _ _ ⟨_, h1, rfl⟩
  apply Gets.get
  refine containsI_run _ _ ?_
  rw [h2]
  rw [List.drop_zero] at hj
  refine ⟨_, rfl, ?_⟩
  show AV.bool (decide (j ≥ 0)) = _
  congr 1
  exact decide_eq_decide.2 hj
theorem self_ev (n : Int) : EVs (EV cfg) 90 [.int .i64 n] = some (.bool (selfG n)) := by
  apply Gets.get
  refine guard_self_run _ ?_
  unfold selfG
  by_cases h : 1 ≤ n
  · simp [h]
  · simp [h]
end Go.Proofs.YtkgkjngbfdnoiaaGreat
end

section
namespace Go.Proofs.YtkgkjngbfdnoiaaGreat
open Go.Av
theorem opsG_len (op : List UInt8) : (opsG op).length < 1099511627776 := by
  have : ∀ (l : List (List UInt8 × List Int)), (∀ p ∈ l, p.2.length ≤ 2) → (lookS op [] l).length ≤ 2 := by
    intro l
    induction l with
    | nil => intro _; simp [lookS]
    | cons p l ih =>
      intro h
      rw [lookS]
      cases op == p.1
      · exact ih fun q hq => h q (by simp [hq])
      · exact h p (by simp)
  have := this opsTab (by decide)
  unfold opsG
  omega
end Go.Proofs.YtkgkjngbfdnoiaaGreat
end

section
namespace Go.Proofs.YtkgkjngbfdnoiaaGreat
open Go.Av
set_option maxRecDepth 100000
set_option maxHeartbeats 0

noncomputable def Lz82_0 : Den := evC cfg (EV cfg) 311 none 6 (sub (bodyOf Tryz.f311) [0, 0])
noncomputable def Az82_0 : Ex × List AV × AH → Option (AV × List (List AV)) := kAft (Cfg.keepOut cfg 311 (firstRid (sub (bodyOf Tryz.f311) [0, 0]))) (kBlock 0 (kFinG cfg (Cfg.lift cfg 311 0) (fun (v : AV) (H : AH) => (fun (r : AV × AH) => kRangeEnd 1 5 (fx 37 [(0, AV.ptr 0 0 0), (5, AV.ptr 1 0 0), (6, AV.ptr 2 0 0), (7, AV.ptr 3 0 0)]) (kBlock 0 (kSeq (fun (fr : List AV) (H : AH) => kCutTo (Cfg.cut cfg 242 (firstRid (sub (bodyOf Tryz.f242) [1, 0, 1, 0, 0, 1, 1, 1]))) fr H fun (fr : List AV) (H : AH) => kCode cfg (EV cfg) (kfN cfg 6) 242 none 1 (sub (bodyOf Tryz.f242) [1, 0, 1, 0, 0, 1, 1, 1]) fr H (kScope (kSeq (fun (fr : List AV) (H : AH) => kCutTo (Cfg.cut cfg 242 (firstRid (sub (bodyOf Tryz.f242) [1, 1]))) fr H fun (fr : List AV) (H : AH) => kCode cfg (EV cfg) (kfN cfg 6) 242 none 1 (sub (bodyOf Tryz.f242) [1, 1]) fr H (kFinD cfg 7 (Cfg.lift cfg 242 0) (Array.toList (Func.results Tryz.f242)))) (kFinD cfg 7 (Cfg.lift cfg 242 0) (Array.toList (Func.results Tryz.f242)))))) (kScope (kSeq (fun (fr : List AV) (H : AH) => kCutTo (Cfg.cut cfg 242 (firstRid (sub (bodyOf Tryz.f242) [1, 1]))) fr H fun (fr : List AV) (H : AH) => kCode cfg (EV cfg) (kfN cfg 6) 242 none 1 (sub (bodyOf Tryz.f242) [1, 1]) fr H (kFinD cfg 7 (Cfg.lift cfg 242 0) (Array.toList (Func.results Tryz.f242)))) (kFinD cfg 7 (Cfg.lift cfg 242 0) (Array.toList (Func.results Tryz.f242))))))) (Prod.snd r)) (v, H)) (Array.toList (Func.results (Prod.snd (311, Tryz.f311))))))
noncomputable def Wz82_0 : List AV × AH → Option (AV × List (List AV)) := fun (p : List AV × AH) => kOpt (LOOP 6 (some [0, 1]) [] Lz82_0 p) Az82_0
noncomputable def Lz9_0 : Den := evC cfg (EV cfg) 14 none 0 (sub (bodyOf Tryz.f14) [1, 0, 1, 0, 0])
noncomputable def Az9_0 : Ex × List AV × AH → Option AV := kAft (Cfg.keepOut cfg 14 2) (kRun cfg (EV cfg) (kfN cfg 6) 14 none 0 (kFinS cfg (Cfg.lift cfg 14 0) Tryz.f14.results.toList) ([.block 0, .seq (sub (bodyOf Tryz.f14) [1, 1])]))
noncomputable def Wz9_0 : List AV × AH → Option AV := fun p => kOpt (LOOP 0 (some [0, 3, 5]) ([]) Lz9_0 p) Az9_0
noncomputable def Lz9_1 : Den := evC cfg (EV cfg) 14 none 0 (sub (bodyOf Tryz.f14) [1, 1, 0, 1, 0, 0])
noncomputable def Az9_1 : Ex × List AV × AH → Option AV := kAft (Cfg.keepOut cfg 14 7) (kRun cfg (EV cfg) (kfN cfg 6) 14 none 0 (kFinS cfg (Cfg.lift cfg 14 0) Tryz.f14.results.toList) ([.block 2, .seq (sub (bodyOf Tryz.f14) [1, 1, 1])]))
noncomputable def Wz9_1 : List AV × AH → Option AV := fun p => kOpt (LOOP 0 (some [0, 3, 6]) ([]) Lz9_1 p) Az9_1
noncomputable abbrev wz82_0 (h0 : List (List AV)) (c1_0 : Int) (c1_1 : Int) (c1_2 : List UInt8) (c1_3 : List (List AV)) (c2_0 : Int) (c2_1 : Int) (c2_2 : List UInt8) (c2_3 : List (List AV)) (c3_0 : Int) : Option (AV × List (List AV)) := Wz82_0  (((fx 25 [(0, AV.yld (5 : Nat)), (1, AV.ptr (4 : Nat) (0 : Nat) (0 : Nat))]) : List AV), ([ABlk.rows true (7 : Nat) h0, ABlk.rows false (4 : Nat) [[AV.int IntKind.i64 c1_0, AV.int IntKind.i64 c1_1, AV.str c1_2, AV.sl c1_3]], ABlk.rows false (4 : Nat) [[AV.int IntKind.i64 c2_0, AV.int IntKind.i64 c2_1, AV.str c2_2, AV.sl c2_3]], ABlk.rows false (1 : Nat) [[AV.int IntKind.i64 c3_0]], ABlk.rows false (1 : Nat) [[AV.ptr (1 : Nat) (0 : Nat) (0 : Nat)]], rngB Tryz.f242 (242 : Nat) [(1 : Nat), (0 : Nat), (1 : Nat), (0 : Nat), (0 : Nat), (1 : Nat), (1 : Nat), (0 : Nat), (1 : Nat), (0 : Nat)] (fx 37 [(7, AV.ptr (3 : Nat) (0 : Nat) (0 : Nat))]) none LoopState.ready] : AH))
noncomputable abbrev wz9_0 (L : List (List AV)) (v5 : Int) (c0_0 : Int) (c0_1 : Int) (c0_2 : List UInt8) (c0_3 : List (List AV)) (c0_4 : List (List AV)) (c0_5 : Int) : Option (AV) := Wz9_0  (((fx 54 [(0, AV.sl L), (3, AV.ptr (0 : Nat) (0 : Nat) (0 : Nat)), (5, AV.int IntKind.i64 v5)]) : List AV), ([ABlk.rows false (6 : Nat) [[AV.int IntKind.i64 c0_0, AV.int IntKind.i64 c0_1, AV.str c0_2, AV.sl c0_3, AV.sl c0_4, AV.int IntKind.i64 c0_5]]] : AH))
noncomputable abbrev wz9_1 (L : List (List AV)) (v6 : Int) (c0_0 : Int) (c0_1 : Int) (c0_2 : List UInt8) (c0_3 : List (List AV)) (c0_4 : List (List AV)) (c0_5 : Int) : Option (AV) := Wz9_1  (((fx 54 [(0, AV.sl L), (3, AV.ptr (0 : Nat) (0 : Nat) (0 : Nat)), (6, AV.int IntKind.i64 v6)]) : List AV), ([ABlk.rows false (6 : Nat) [[AV.int IntKind.i64 c0_0, AV.int IntKind.i64 c0_1, AV.str c0_2, AV.sl c0_3, AV.sl c0_4, AV.int IntKind.i64 c0_5]]] : AH))
theorem mList_run (ke : Int) (ne : Int) (se : List UInt8) (le : List (List AV)) (bd : List (List AV)) (self : Int) (bad : Bool) (op : List UInt8) (kt : Int) (nt : Int) (st : List UInt8) (lt : List (List AV)) {P : AV × List (List AV) → Prop} (h : Gets (bif op == [(108 : UInt8), (101 : UInt8), (110 : UInt8), (103 : UInt8), (116 : UInt8), (104 : UInt8)] then wz82_0 [[AV.int .i64 ke, .int .i64 ne, .str se, .sl le, .sl bd, .int .i64 self, 
  .bool bad]] kt nt st lt (0 : Int) (0 : Int) [] [] (0 : Int) else bif kt != (9 : Int) then kOpt (EVd (EV cfg) 233 [.ptr 0 0 0] 7 [[AV.int .i64 ke, .int .i64 ne, .str se, .sl le, .sl bd, 
  .int .i64 self, .bool bad]]) fun (q : AV × List (List AV)) => kTmV q.1 fun (n n_1 : Int) (s : List UInt8) (rows : List (List AV)) => (some (.agg [AV.int .i64 n, .int .i64 n_1, .str s, 
  .sl rows], q.2)) else bif op == [(104 : UInt8), (100 : UInt8)] then bif ltInt (0 : Int) (↑(List.length lt) : Int) then kOpt (List.get?Internal lt 0) fun (row : List AV) => bif Nat.beq 
  (List.length row) 4 then bif Nat.ble 4 (List.length row) then kTmC (List.take 4 row) fun (n n_1 : Int) (s : List UInt8) (rows : List (List AV)) => (some (.agg [AV.int .i64 n, .int .i64 
  n_1, .str s, .sl rows], [[AV.int .i64 ke, .int .i64 ne, .str se, .sl le, .sl bd, .int .i64 self, .bool bad]])) else none else none else none else bif ltInt (1 : Int) (↑(List.length lt) 
  : Int) then kOpt (List.get?Internal lt 1) fun (row : List AV) => bif Nat.beq (List.length row) 4 then bif Nat.ble 4 (List.length row) then kTmC (List.take 4 row) fun (n n_1 : Int) (s 
  : List UInt8) (rows : List (List AV)) => (some (.agg [AV.int .i64 n, .int .i64 n_1, .str s, .sl rows], [[AV.int .i64 ke, .int .i64 ne, .str se, .sl le, .sl bd, .int .i64 self, .bool bad]])) 
  else none else none else none) P) : Gets (EVd (EV cfg) 242 ([AV.ptr (0 : Nat) (0 : Nat) (0 : Nat), AV.str op, AV.agg [AV.int IntKind.i64 kt, AV.int IntKind.i64 nt, AV.str st, AV.sl lt]] : List AV) 7 [[AV.int .i64 ke, AV.int .i64 ne, AV.str se, AV.sl le, AV.sl bd, AV.int .i64 self, AV.bool bad]]) P :=
  Gets.ev (fun _ h => funD rfl rfl Tryz.func242 rfl h) (Gets.eq (by kernel_rfl) h)
theorem mul64_run (a : Int) (b : Int) {P : AV → Prop} (h : Gets (kOpt (fromSem (Op.intBits BinOp.and .u64 a (4294967295 : Int))) fun (v : AV) => kInt .u64 v fun (n : Int) => kOpt (fromSem (Op.shift BinOp.shr .u64 a .u64 (32 : Int))) fun (v : AV) 
  => kInt .u64 v fun (n_1 : Int) => kOpt (fromSem (Op.intBits BinOp.and .u64 b (4294967295 : Int))) fun (v : AV) => kInt .u64 v fun (n_2 : Int) => kOpt (fromSem (Op.shift BinOp.shr .u64 
  b .u64 (32 : Int))) fun (v : AV) => kInt .u64 v fun (n_3 : Int) => kOpt (fromSem (Op.shift BinOp.shr .u64 (IntKind.wrap .u64 (n * n_2)) .u64 (32 : Int))) fun (v : AV) => kInt .u64 v 
  fun (n_4 : Int) => kOpt (fromSem (Op.intBits BinOp.and .u64 (IntKind.wrap .u64 (IntKind.wrap .u64 (n_1 * n_2) + n_4)) (4294967295 : Int))) fun (v : AV) => kInt .u64 v fun (n_5 : Int) 
  => kOpt (fromSem (Op.shift BinOp.shr .u64 (IntKind.wrap .u64 (IntKind.wrap .u64 (n_1 * n_2) + n_4)) .u64 (32 : Int))) fun (v : AV) => kInt .u64 v fun (n_6 : Int) => kOpt (fromSem (Op.shift 
  BinOp.shr .u64 (IntKind.wrap .u64 (n_5 + IntKind.wrap .u64 (n * n_3))) .u64 (32 : Int))) fun (v : AV) => kInt .u64 v fun (n : Int) => some (AV.tup [AV.int .u64 (IntKind.wrap .u64 (IntKind.wrap 
  .u64 (IntKind.wrap .u64 (n_1 * n_3) + n_6) + n)), .int .u64 (IntKind.wrap .u64 (a * b))])) P) : Gets (EVs (EV cfg) 312 ([AV.int IntKind.u64 a, AV.int IntKind.u64 b] : List AV)) P :=
  Gets.ev (fun _ h => funS rfl rfl Tryz.func312 rfl h) (Gets.eq (by kernel_rfl) h)
theorem law17Large_run (L : List (List AV)) (ke : Int) (ne : Int) (se : List UInt8) (le : List (List AV)) (bd : List (List AV)) (self : Int) {P : AV → Prop} (h : Gets (wz9_0 L (0 : Int) ke ne se le bd self) P) : Gets (EVs (EV cfg) 14 ([AV.sl L, AV.agg [AV.int IntKind.i64 ke, AV.int IntKind.i64 ne, AV.str se, AV.sl le, AV.sl bd, AV.int IntKind.i64 self]] : List AV)) P :=
  Gets.ev (fun _ h => funS rfl rfl Tryz.func14 rfl h) (Gets.eq (by kernel_rfl) h)
theorem wz82_0_step (h0 : List (List AV)) (c1_0 : Int) (c1_1 : Int) (c1_2 : List UInt8) (c1_3 : List (List AV)) (c2_0 : Int) (c2_1 : Int) (c2_2 : List UInt8) (c2_3 : List (List AV)) (c3_0 : Int) {P : AV × List (List AV) → Prop} (h : Gets (bif c1_0 == (9 : Int) then bif ltInt (0 : Int) (↑(List.length c1_3) : Int) then kOpt (List.get?Internal c1_3 0) fun (row : List AV) => bif Nat.beq (List.length row) 4 then bif Nat.ble 
  4 (List.length row) then kTmC (List.take 4 row) fun (n n : Int) (s : List UInt8) (rows : List (List AV)) => (bif ltInt (1 : Int) (↑(List.length c1_3) : Int) then kOpt (List.get?Internal 
  c1_3 1) fun (row : List AV) => bif Nat.beq (List.length row) 4 then bif Nat.ble 4 (List.length row) then kTmC (List.take 4 row) fun (n n_1 : Int) (s : List UInt8) (rows : List (List 
  AV)) => (wz82_0 h0 n n_1 s rows c2_0 c2_1 c2_2 c2_3 (IntKind.wrap .i64 (c3_0 + (1 : Int)))) else none else none else none) else none else none else none else bif c1_0 != (8 : Int) then 
  kOpt (EVd (EV cfg) 233 [.ptr 0 0 0] 7 h0) fun (q : AV × List (List AV)) => kTmV q.1 fun (n n_1 : Int) (s : List UInt8) (rows : List (List AV)) => (some (.agg [AV.int .i64 n, .int .i64 
  n_1, .str s, .sl rows], q.2)) else kOpt (EVd (EV cfg) 240 [.ptr 0 0 0, .int .i64 c3_0] 7 h0) fun (q : AV × List (List AV)) => kTmV q.1 fun (n n_1 : Int) (s : List UInt8) (rows : List 
  (List AV)) => (some (.agg [AV.int .i64 n, .int .i64 n_1, .str s, .sl rows], q.2))) P) : Gets (wz82_0 h0 c1_0 c1_1 c1_2 c1_3 c2_0 c2_1 c2_2 c2_3 c3_0) P :=
  Gets.ev (fun _ h => loop_step (cfg := cfg) (f := 311) (rd := none) (bs := 6) h) (Gets.eq (by kernel_rfl) h)
theorem wz9_0_step (L : List (List AV)) (v5 : Int) (c0_0 : Int) (c0_1 : Int) (c0_2 : List UInt8) (c0_3 : List (List AV)) (c0_4 : List (List AV)) (c0_5 : Int) {P : AV → Prop} (h : Gets (bif decide (v5 < (↑(List.length L) : Int)) then bif decide (v5 < (101 : Int)) then bif leInt (0 : Int) v5 && ltInt v5 (↑(List.length L) : Int) then kOpt (List.get?Internal L (Int.toNat 
  v5)) fun (row : List AV) => bif Nat.beq (List.length row) 4 then bif Nat.ble 4 (List.length row) then kTmC (List.take 4 row) fun (n n_1 : Int) (s : List UInt8) (rows : List (List AV)) 
  => (kOpt (EVs (EV cfg) 41 [.agg [AV.int .i64 n, .int .i64 n_1, .str s, .sl rows], .int .i64 (300 : Int)]) fun (v : AV) => kBool v fun (b : Bool) => bif b then some (.bool true) else wz9_0 
  L (IntKind.wrap .i64 (v5 + (1 : Int))) c0_0 c0_1 c0_2 c0_3 c0_4 c0_5) else none else none else none else wz9_1 L (0 : Int) c0_0 c0_1 c0_2 c0_3 c0_4 c0_5 else wz9_1 L (0 : Int) c0_0 
  c0_1 c0_2 c0_3 c0_4 c0_5) P) : Gets (wz9_0 L v5 c0_0 c0_1 c0_2 c0_3 c0_4 c0_5) P :=
  Gets.ev (fun _ h => loop_step (cfg := cfg) (f := 14) (rd := none) (bs := 0) h) (Gets.eq (by kernel_rfl) h)
theorem wz9_1_step (L : List (List AV)) (v6 : Int) (c0_0 : Int) (c0_1 : Int) (c0_2 : List UInt8) (c0_3 : List (List AV)) (c0_4 : List (List AV)) (c0_5 : Int) {P : AV → Prop} (h : Gets (bif decide (v6 < (↑(List.length c0_4) : Int)) then bif decide (v6 < (61 : Int)) then bif leInt (0 : Int) v6 && ltInt v6 (↑(List.length c0_4) : Int) then kOpt (List.get?Internal c0_4 
  (Int.toNat v6)) fun (row : List AV) => bif Nat.beq (List.length row) 5 then bif Nat.ble 5 (List.length row) then kCons (List.take 4 (List.drop 1 row)) fun (c : AV) (cs : List AV) => 
  kInt .i64 c fun (n : Int) => kCons cs fun (c : AV) (cs : List AV) => kInt .i64 c fun (n_1 : Int) => kCons cs fun (c : AV) (cs : List AV) => kStr c fun (s : List UInt8) => kCons cs fun 
  (c : AV) (cs : List AV) => kSl c fun (rows : List (List AV)) => kNil cs (kOpt (EVs (EV cfg) 41 [.agg [AV.int .i64 n, .int .i64 n_1, .str s, .sl rows], .int .i64 (100 : Int)]) fun (v : 
  AV) => kBool v fun (b : Bool) => bif b then some (.bool true) else wz9_1 L (IntKind.wrap .i64 (v6 + (1 : Int))) c0_0 c0_1 c0_2 c0_3 c0_4 c0_5) else none else none else none else bif 
  decide ((↑(List.length L) : Int) > (100 : Int)) then some (.bool true) else bif decide ((↑(List.length c0_4) : Int) > (60 : Int)) then some (.bool true) else kOpt (EVs (EV cfg) 41 [.agg 
  [AV.int .i64 c0_0, .int .i64 c0_1, .str c0_2, .sl c0_3], .int .i64 (300 : Int)]) fun (v : AV) => kBool v fun (b : Bool) => some (.bool b) else bif decide ((↑(List.length L) : Int) > (100 
  : Int)) then some (.bool true) else bif decide ((↑(List.length c0_4) : Int) > (60 : Int)) then some (.bool true) else kOpt (EVs (EV cfg) 41 [.agg [AV.int .i64 c0_0, .int .i64 c0_1, .str 
  c0_2, .sl c0_3], .int .i64 (300 : Int)]) fun (v : AV) => kBool v fun (b : Bool) => some (.bool b)) P) : Gets (wz9_1 L v6 c0_0 c0_1 c0_2 c0_3 c0_4 c0_5) P :=
  Gets.ev (fun _ h => loop_step (cfg := cfg) (f := 14) (rd := none) (bs := 0) h) (Gets.eq (by kernel_rfl) h)
end Go.Proofs.YtkgkjngbfdnoiaaGreat
end

section
namespace Go.Av
theorem xor_not {n : Int} (h1 : -9223372036854775808 ≤ n) (h2 : n < 9223372036854775808) : fromSem (Op.intBits .xor .i64 (-1) n) = some (.int .i64 (-1 - n)) := by
  have : fromSem (Op.intBits .xor .i64 (-1) n) = some (.int .i64 (IntKind.wrap .i64 (BitVec.ofInt 64 (-1) ^^^ BitVec.ofInt 64 n).toNat)) := rfl
  rw [this, wrap_toNat]
  have e : BitVec.ofInt 64 (-1) ^^^ BitVec.ofInt 64 n = ~~~(BitVec.ofInt 64 n) := by
    rw [show BitVec.ofInt 64 (-1) = BitVec.allOnes 64 from by decide, BitVec.allOnes_xor]
  have en : n = (BitVec.ofInt 64 n).toInt := by rw [BitVec.toInt_ofInt, Int.bmod_eq_of_le (by omega) (by omega)]
  have hn := BitVec.toNat_not (x := BitVec.ofInt 64 n)
  rw [e]
  congr 2
  rw [BitVec.toInt_eq_toNat_cond] at en ⊢
  have hl := (BitVec.ofInt 64 n).isLt
  rw [hn]
  generalize (BitVec.ofInt 64 n).toNat = U at *
  split at en <;> split <;> omega
theorem get0T (x : Tm) (l : List Tm) : List.get?Internal (rowsT (x :: l)) 0 = some x.cells := by rw [get?Internal_eq, rowsT_cons]; rfl
theorem get1T (x y : Tm) (l : List Tm) : List.get?Internal (rowsT (x :: y :: l)) 1 = some y.cells := by rw [get?Internal_eq, rowsT_cons, rowsT_cons]; rfl
theorem lt0T (x : Tm) (l : List Tm) : ltInt 0 ((rowsT (x :: l)).length : Int) = true := by rw [rowsT_length]; exact decide_eq_true (by simp)
theorem lt1T (x y : Tm) (l : List Tm) : ltInt 1 ((rowsT (x :: y :: l)).length : Int) = true := by rw [rowsT_length]; exact decide_eq_true (by simp; omega)
theorem ble44 : Nat.ble 4 4 = true := rfl
theorem num_chk {t : Tm} (h : t.chk = 0) : -576460752303423488 ≤ t.num ∧ t.num ≤ 576460752303423487 := by
  obtain ⟨h1, _⟩ := chk_zero.1 h
  rw [Tm.parts_eq, Bool.and_eq_true] at h1
  have h2 : soundB t.kind t.num t.str t.subs.length = true := h1.1
  generalize t.kind = k at h2
  generalize t.num = n at *
  unfold soundB at h2
  repeat' split at h2
  all_goals simp at h2
  all_goals omega
theorem ok_chk {t : Tm} (h : t.chk = 0) : t.Ok := ok_of_w t (by have := w_chk h; omega)
theorem inB_chk {t : Tm} (h : t.chk = 0) : t.kind = 1 → InB t.num := fun _ => num_chk h
end Go.Av
namespace Go.Proofs.YtkgkjngbfdnoiaaGreat
open Go.Av
theorem num_bad (e : Env) (n : Int) : ∃ t : Tm, EVd (EV cfg) 240 [.ptr 0 0 0, .int .i64 n] 7 (mR e true) = some (t.av, mR e true) := by
  rw [mNumber_ev]
  by_cases h : InB n
  · exact ⟨numT n, by rw [if_pos h]⟩
  · exact ⟨zeroT, by rw [if_neg h]⟩
theorem num_res {e : Env} {b : Bool} {n : Int} {k : Int} : Gets (kOpt (EVd (EV cfg) 240 [.ptr 0 0 0, .int .i64 n] 7 (mR e (false || decide (k ≠ 1)))) fun q => kTmV q.1 fun (n n_1 : Int) (s : List UInt8) (rows : List (List AV)) => some (AV.agg [.int .i64 n, .int .i64 n_1, .str s, .sl rows], q.2)) (Res e (if k = 1 then withinG n else none)) := by
  by_cases h : k = 1
  · rw [if_pos h, decide_eq_false (by simpa using h)]
    exact Gets.bind (mNumber_within e n fun r h1 h2 => h1) fun r h => ret_res h (Res_tm h)
  · rw [if_neg h, decide_eq_true (by simpa using h)]
    obtain ⟨t, ht⟩ := num_bad e n
    rw [Bool.or_true, ht]
    simp only [kOptSome, kTmV_av, av_unf]
    exact ret_true
theorem lenLoop (e : Env) {a b : Int} {s : List UInt8} {r : List (List AV)} : ∀ (n : Nat) (t : Tm) (c : Nat), t.w ≤ n → t.chk = 0 → c + n < 1099511627776 →
    Gets (wz82_0 (mR e false) t.kind t.num t.str (rowsT t.subs) a b s r c) (Res e ((lenG t).bind fun m => withinG ((c + m : Nat) : Int))) := by
  intro n
  induction n with
  | zero => intro t _ h; have := w_pos t; omega
  | succ n ih =>
    intro t c hw hc hn
    refine wz82_0_step _ _ _ _ _ _ _ _ _ _ ?_
    by_cases h9 : t.kind = 9
    · obtain ⟨x, y, hs⟩ := cons_chk hc h9
      have hwe := t.w_eq
      rw [hs] at hwe
      simp only [wL_cons, wL_nil] at hwe
      have h := ih y (c + 1) (by omega) (chk_sub hc (by rw [hs]; simp)) (by omega)
      rw [lenG_cons h9 hs, hs, beqI, decide_eq_true h9]
      simp only [cond_true, lt0T, lt1T, get0T, get1T, kOptSome, length_cells, Nat.beq_refl, ble44, take_cells, kTmC_cells, wrap_succ (show c < c + 1 by omega) (by omega)]
      have e1 : ((lenG y).map (· + 1)).bind (fun m => withinG ((c + m : Nat) : Int)) = (lenG y).bind fun m => withinG ((c + 1 + m : Nat) : Int) := by
        cases lenG y with
        | none => rw [Option.map_none, Option.bind_none, Option.bind_none]
        | some m => rw [Option.map_some, Option.bind_some, Option.bind_some, show c + (m + 1) = c + 1 + m by omega]
      rw [e1]
      exact h
    · rw [beqI, decide_eq_false h9, cond_false]
      by_cases h8 : t.kind = 8
      · have : (t.kind != 8) = false := by rw [h8]; rfl
        have e0 : ((some 0).bind fun m => withinG ((c + m : Nat) : Int)) = withinG c := by rw [Option.bind_some, Nat.add_zero]
        rw [this, lenG_nil h8, e0]
        exact Gets.bind (mNumber_within e c fun r h1 h2 => h1) fun r h => ret_res h (Res_tm h)
      · have : (t.kind != 8) = true := by simpa using h8
        rw [this, lenG_none h9 h8, mRaise_ev]
        simp only [cond_true, kOptSome, kTmV_av, av_unf]
        exact ret_true
def listOpG (op : List UInt8) (t : Tm) : Option Tm :=
  if op = [108, 101, 110, 103, 116, 104] then (lenG t).bind fun n => withinG n
  else if t.kind = 9 then (if op = [104, 100] then t.subs[0]? else t.subs[1]?)
  else none
theorem mList_ev (e : Env) (op : List UInt8) {t : Tm} (hc : t.chk = 0) : Gets (EVd (EV cfg) 242 [.ptr 0 0 0, .str op, t.av] 7 (mR e false)) (Res e (listOpG op t)) := by
  rw [Tm.av, Tm.cells_eq]
  refine mList_run _ _ _ _ _ _ _ _ _ _ _ _ ?_
  have hw := w_chk hc
  unfold listOpG
  rw [beqS]
  by_cases h1 : op = [108, 101, 110, 103, 116, 104]
  · rw [if_pos h1, decide_eq_true h1, cond_true]
    have h := lenLoop e (a := 0) (b := 0) (s := []) (r := []) t.w t 0 (Nat.le_refl _) hc (by omega)
    simpa using h
  · rw [if_neg h1, decide_eq_false h1, cond_false]
    by_cases h9 : t.kind = 9
    · obtain ⟨x, y, hs⟩ := cons_chk hc h9
      have : (t.kind != 9) = false := by rw [h9]; rfl
      rw [this, if_pos h9, hs, beqS]
      simp only [cond_false, lt0T, lt1T, get0T, get1T, kOptSome, length_cells, Nat.beq_refl, ble44, take_cells, kTmC_cells, cond_true, av_unf]
      by_cases h2 : op = [104, 100]
      · rw [if_pos h2, decide_eq_true h2]; exact ret_false
      · rw [if_neg h2, decide_eq_false h2]; exact ret_false
    · have : (t.kind != 9) = true := by simpa using h9
      rw [this, if_neg h9, mRaise_ev]
      simp only [cond_true, kOptSome, kTmV_av, av_unf]
      exact ret_true
theorem oneG_list {op : List UInt8} {t : Tm} : (if op = [108, 101, 110, 103, 116, 104] then (lenG t).bind fun n => withinG n else if t.kind = 9 then (if op = [104, 100] then t.subs[0]? else t.subs[1]?) else none) = listOpG op t := rfl
theorem mOne_ev (e : Env) (op : List UInt8) {t : Tm} (hc : t.chk = 0) : Gets (EVd (EV cfg) 172 [.ptr 0 0 0, .str op, t.av] 7 (mR e false)) (Res e (oneG op t)) := by
  have hl := mList_ev e op hc
  have hn := num_chk hc
  have hs := subs_chk hc
  have w1 : IntKind.wrap .i64 (0 - t.num) = -t.num := by rw [wrap64 (by omega) (by omega)]; omega
  rw [Tm.av, Tm.cells_eq] at hl ⊢
  refine mOne_run _ _ _ _ _ _ _ _ _ _ _ _ ?_
  simp only [av_unf, truth_ev, kOptSome, kTmV_av, beqS, beqI, w1, mRaise_ev, mBool_ev, mInt_ev, kMBool_bool, kMInt_int, xor_not (show -9223372036854775808 ≤ t.num by omega) (by omega), kInt_int]
  rw [av_unf] at hl
  unfold oneG
  by_cases h1 : op = [105, 115, 95, 97, 116, 111, 109]
  · rw [if_pos h1, decide_eq_true h1, cond_true]; exact ret_false
  rw [if_neg h1, decide_eq_false h1, cond_false]
  by_cases h2 : op = [105, 115, 95, 105, 110, 116, 101, 103, 101, 114]
  · rw [if_pos h2, decide_eq_true h2, cond_true]; exact ret_false
  rw [if_neg h2, decide_eq_false h2, cond_false]
  by_cases h3 : op = [105, 115, 95, 108, 105, 115, 116]
  · rw [if_pos h3, decide_eq_true h3, cond_true]
    cases decide (t.kind = 9)
    · exact ret_false
    · exact ret_false
  rw [if_neg h3, decide_eq_false h3, cond_false]
  by_cases h4 : op = [105, 115, 95, 116, 117, 112, 108, 101]
  · rw [if_pos h4, decide_eq_true h4, cond_true]; exact ret_false
  rw [if_neg h4, decide_eq_false h4, cond_false]
  by_cases h5 : op = [105, 115, 95, 112, 105, 100]
  · rw [if_pos h5, decide_eq_true h5, cond_true]; exact ret_false
  rw [if_neg h5, decide_eq_false h5, cond_false]
  by_cases h6 : op = [105, 115, 95, 102, 117, 110, 99, 116, 105, 111, 110]
  · rw [if_pos h6, decide_eq_true h6, cond_true]; exact ret_false
  rw [if_neg h6, decide_eq_false h6, cond_false]
  by_cases h7 : op = [105, 115, 95, 114, 101, 102, 101, 114, 101, 110, 99, 101]
  · rw [if_pos h7, decide_eq_true h7, cond_true]
    cases decide (t.kind = 3)
    · exact ret_false
    · exact ret_false
  rw [if_neg h7, decide_eq_false h7, cond_false]
  by_cases h8 : op = [110, 111, 116]
  · rw [if_pos h8, decide_eq_true h8, cond_true]
    cases hb : boolG t with
    | none => exact ret_true
    | some x => rw [boolG_some hb]; exact ret_false
  rw [if_neg h8, decide_eq_false h8, cond_false]
  by_cases h9 : op = [98, 110, 111, 116]
  · rw [if_pos h9, decide_eq_true h9, cond_true]; exact num_res (b := false)
  rw [if_neg h9, decide_eq_false h9, cond_false]
  by_cases h10 : op = [43]
  · rw [if_pos h10, decide_eq_true h10, cond_true]; exact num_res (b := false)
  rw [if_neg h10, decide_eq_false h10, cond_false]
  by_cases h11 : op = [45]
  · rw [if_pos h11, decide_eq_true h11, cond_true]; exact num_res (b := false)
  rw [if_neg h11, decide_eq_false h11, cond_false]
  by_cases h12 : op = [97, 98, 115]
  · rw [if_pos h12, decide_eq_true h12, cond_true]
    have e1 : (if decide (t.num < -t.num) = true then -t.num else t.num) = if t.num < 0 then -t.num else t.num := by
      by_cases h : t.num < 0
      · rw [if_pos h, if_pos (decide_eq_true (by omega))]
      · rw [if_neg h, if_neg (by rw [decide_eq_false (by omega)]; simp)]
    rw [e1]
    exact num_res (b := false)
  rw [if_neg h12, decide_eq_false h12, cond_false]
  have tup : Gets (bif t.kind != 7 then some (zeroT.av, mR e true) else kOpt (EVd (EV cfg) 240 [.ptr 0 0 0, .int .i64 ((rowsT t.subs).length : Int)] 7 (mR e false)) fun q => kTmV q.1 fun (n n_1 : Int) (s : List UInt8) (rows : List (List AV)) => some (AV.agg [.int .i64 n, .int .i64 n_1, .str s, .sl rows], q.2)) (Res e (if t.kind = 7 then withinG t.subs.length else none)) := by
    by_cases h : t.kind = 7
    · have : (t.kind != 7) = false := by rw [h]; rfl
      rw [this, if_pos h, cond_false, rowsT_length]
      exact Gets.bind (mNumber_within e _ fun r h1 h2 => h1) fun r h => ret_res h (Res_tm h)
    · have : (t.kind != 7) = true := by simpa using h
      rw [this, if_neg h, cond_true]
      exact ret_true
  by_cases h13 : op = [116, 117, 112, 108, 101, 95, 115, 105, 122, 101]
  · rw [if_pos h13, decide_eq_true h13, cond_true]; exact tup
  rw [if_neg h13, decide_eq_false h13, cond_false]
  by_cases h14 : op = [115, 105, 122, 101]
  · rw [if_pos h14, decide_eq_true h14, cond_true]; exact tup
  rw [if_neg h14, decide_eq_false h14, cond_false, oneG_list]
  exact Gets.bind hl fun r h => ret_res h (Res_tm h)
theorem mApply_ev (e : Env) (op : List UInt8) {l : List Tm} (hl : ∀ x ∈ l, x.chk = 0) (hlen : l.length ≤ 2) (hp : op = [42] → ProductOk) :
    Gets (EVd (EV cfg) 92 [.ptr 0 0 0, .str op, .sl (rowsT l)] 7 (mR e false)) (Res e (applyG op l e.self)) := by
  refine mApply_run _ _ _ _ _ _ _ _ _ ?_
  match l, hl, hlen with
  | [], _, _ =>
    simp only [rowsT_length, List.length_nil]
    refine ⟨_, rfl, ?_⟩
    show _ = (Tm.av _, mR e false)
    rw [Tm.av_mk, rowsT_nil]
  | [a], hl, _ =>
    have h1 := mOne_ev e op (hl a (by simp))
    have c1 : ((((rowsT [a]).length : Nat) : Int) == 1) = true := by rw [rowsT_length]; rfl
    rw [c1]
    simp only [cond_true, lt0T, get0T, kOptSome, length_cells, Nat.beq_refl, ble44, take_cells, kTmC_cells, av_unf]
    exact Gets.bind h1 fun r h => ret_res h (Res_tm h)
  | [a, b], hl, _ =>
    have ha := hl a (by simp)
    have hb := hl b (by simp)
    have h1 := mTwo_ev e op (ok_chk ha) (ok_chk hb) (inB_chk ha) (inB_chk hb) hp
    have c1 : ((((rowsT [a, b]).length : Nat) : Int) == 1) = false := by rw [rowsT_length]; rfl
    have c2 : ((((rowsT [a, b]).length : Nat) : Int) == 2) = true := by rw [rowsT_length]; rfl
    rw [c1, c2]
    simp only [cond_true, cond_false, lt0T, lt1T, get0T, get1T, kOptSome, length_cells, Nat.beq_refl, ble44, take_cells, kTmC_cells, av_unf]
    exact Gets.bind h1 fun r h => ret_res h (Res_tm h)
  | _ :: _ :: _ :: _, _, h => simp at h
end Go.Proofs.YtkgkjngbfdnoiaaGreat
end

section
namespace Go.Proofs.YtkgkjngbfdnoiaaGreat
open Go.Av
set_option maxRecDepth 100000
set_option maxHeartbeats 0

noncomputable def Lu58_0 : Den := evC cfg (EV cfg) 93 none 0 (sub (bodyOf Tryz.f93) [1, 1, 0, 1, 0, 0])
noncomputable def Au58_0 : Ex × List AV × AH → Option AV := kAft (Cfg.keepOut cfg 93 3) (kRun cfg (EV cfg) (kfN cfg 6) 93 none 0 (kFinS cfg (Cfg.lift cfg 93 0) Tryz.f93.results.toList) ([.block 0, .seq (sub (bodyOf Tryz.f93) [1, 1, 1])]))
noncomputable def Wu58_0 : List AV × AH → Option AV := fun p => kOpt (LOOP 0 (some [1, 5, 6]) ([]) Lu58_0 p) Au58_0
noncomputable def Lu53_0 : Den := evC cfg (EV cfg) 175 none 0 (sub (bodyOf Tryz.f175) [1, 1, 0, 1, 0, 0])
noncomputable def Au53_0 : Ex × List AV × AH → Option AV := kAft (Cfg.keepOut cfg 175 4) (kRun cfg (EV cfg) (kfN cfg 6) 175 none 0 (kFinS cfg (Cfg.lift cfg 175 0) Tryz.f175.results.toList) ([.block 0, .seq (sub (bodyOf Tryz.f175) [1, 1, 1])]))
noncomputable def Wu53_0 : List AV × AH → Option AV := fun p => kOpt (LOOP 0 (some [1, 3]) ([]) Lu53_0 p) Au53_0
noncomputable def Lu54_0 : Den := evC cfg (EV cfg) 176 none 0 (sub (bodyOf Tryz.f176) [1, 1, 1, 0, 1, 0, 1, 0, 0])
noncomputable def Au54_0 : Ex × List AV × AH → Option AV := kAft (Cfg.keepOut cfg 176 6) (kRun cfg (EV cfg) (kfN cfg 6) 176 none 0 (kFinS cfg (Cfg.lift cfg 176 0) Tryz.f176.results.toList) ([.block 0, .seq (sub (bodyOf Tryz.f176) [1, 1, 1, 1])]))
noncomputable def Wu54_0 : List AV × AH → Option AV := fun p => kOpt (LOOP 0 (some [1, 3, 4]) ([]) Lu54_0 p) Au54_0
noncomputable abbrev wu58_0 (n : Int) (rows : List (List AV)) (v6 : Int) : Option (AV) := Wu58_0  (((fx 21 [(1, AV.int IntKind.i64 n), (5, AV.sl rows), (6, AV.int IntKind.i64 v6)]) : List AV), ([] : AH))
noncomputable abbrev wu53_0 (v3 : Int) (c0_0 : Int) (c0_1 : Int) (c0_2 : List UInt8) (c0_3 : List (List AV)) : Option (AV) := Wu53_0  (((fx 21 [(1, AV.ptr (0 : Nat) (0 : Nat) (0 : Nat)), (3, AV.int IntKind.i64 v3)]) : List AV), ([ABlk.rows false (4 : Nat) [[AV.int IntKind.i64 c0_0, AV.int IntKind.i64 c0_1, AV.str c0_2, AV.sl c0_3]]] : AH))
noncomputable abbrev wu54_0 (v3 : Int) (v4 : Int) (c0_0 : Int) (c0_1 : Int) (c0_2 : List UInt8) (c0_3 : List (List AV)) : Option (AV) := Wu54_0  (((fx 42 [(1, AV.ptr (0 : Nat) (0 : Nat) (0 : Nat)), (3, AV.int IntKind.i64 v3), (4, AV.int IntKind.i64 v4)]) : List AV), ([ABlk.rows false (4 : Nat) [[AV.int IntKind.i64 c0_0, AV.int IntKind.i64 c0_1, AV.str c0_2, AV.sl c0_3]]] : AH))
theorem r17May_run (op : List UInt8) (n : Int) {P : AV → Prop} (h : Gets (kOpt (EVf (EV cfg) 174 [.str op]) fun (v : AV) => kSl v fun (rows : List (List AV)) => wu58_0 n rows (0 : Int)) P) : Gets (EVs (EV cfg) 93 ([AV.str op, AV.int IntKind.i64 n] : List AV)) P :=
  Gets.ev (fun _ h => funS rfl rfl Tryz.func93 rfl h) (Gets.eq (by kernel_rfl) h)
theorem r17Ops_run (op : List UInt8) {P : AV → Prop} (h : Gets (bif op == [(115 : UInt8), (101 : UInt8), (108 : UInt8), (102 : UInt8)] then some (.sl [[.int .i64 (0 : Int)]]) else bif op == [(105 : UInt8), (115 : UInt8), (95 : UInt8), (97 : UInt8), 
  (116 : UInt8), (111 : UInt8), (109 : UInt8)] then some (.sl [[.int .i64 (1 : Int)]]) else bif op == [(105 : UInt8), (115 : UInt8), (95 : UInt8), (105 : UInt8), (110 : UInt8), (116 : 
  UInt8), (101 : UInt8), (103 : UInt8), (101 : UInt8), (114 : UInt8)] then some (.sl [[.int .i64 (1 : Int)]]) else bif op == [(105 : UInt8), (115 : UInt8), (95 : UInt8), (108 : UInt8), 
  (105 : UInt8), (115 : UInt8), (116 : UInt8)] then some (.sl [[.int .i64 (1 : Int)]]) else bif op == [(105 : UInt8), (115 : UInt8), (95 : UInt8), (116 : UInt8), (117 : UInt8), (112 : 
  UInt8), (108 : UInt8), (101 : UInt8)] then some (.sl [[.int .i64 (1 : Int)]]) else bif op == [(105 : UInt8), (115 : UInt8), (95 : UInt8), (112 : UInt8), (105 : UInt8), (100 : UInt8)] 
  then some (.sl [[.int .i64 (1 : Int)]]) else bif op == [(105 : UInt8), (115 : UInt8), (95 : UInt8), (102 : UInt8), (117 : UInt8), (110 : UInt8), (99 : UInt8), (116 : UInt8), (105 : 
  UInt8), (111 : UInt8), (110 : UInt8)] then some (.sl [[.int .i64 (1 : Int)]]) else bif op == [(105 : UInt8), (115 : UInt8), (95 : UInt8), (114 : UInt8), (101 : UInt8), (102 : UInt8), 
  (101 : UInt8), (114 : UInt8), (101 : UInt8), (110 : UInt8), (99 : UInt8), (101 : UInt8)] then some (.sl [[.int .i64 (1 : Int)]]) else bif op == [(110 : UInt8), (111 : UInt8), (116 : 
  UInt8)] then some (.sl [[.int .i64 (1 : Int)]]) else bif op == [(98 : UInt8), (110 : UInt8), (111 : UInt8), (116 : UInt8)] then some (.sl [[.int .i64 (1 : Int)]]) else bif op == [(97 
  : UInt8), (98 : UInt8), (115 : UInt8)] then some (.sl [[.int .i64 (1 : Int)]]) else bif op == [(116 : UInt8), (117 : UInt8), (112 : UInt8), (108 : UInt8), (101 : UInt8), (95 : UInt8), 
  (115 : UInt8), (105 : UInt8), (122 : UInt8), (101 : UInt8)] then some (.sl [[.int .i64 (1 : Int)]]) else bif op == [(115 : UInt8), (105 : UInt8), (122 : UInt8), (101 : UInt8)] then 
  some (.sl [[.int .i64 (1 : Int)]]) else bif op == [(104 : UInt8), (100 : UInt8)] then some (.sl [[.int .i64 (1 : Int)]]) else bif op == [(116 : UInt8), (108 : UInt8)] then some (.sl 
  [[.int .i64 (1 : Int)]]) else bif op == [(108 : UInt8), (101 : UInt8), (110 : UInt8), (103 : UInt8), (116 : UInt8), (104 : UInt8)] then some (.sl [[.int .i64 (1 : Int)]]) else bif op 
  == [(43 : UInt8)] then some (.sl [[.int .i64 (1 : Int)], [.int .i64 (2 : Int)]]) else bif op == [(45 : UInt8)] then some (.sl [[.int .i64 (1 : Int)], [.int .i64 (2 : Int)]]) else bif 
  op == [(61 : UInt8), (61 : UInt8)] then some (.sl [[.int .i64 (2 : Int)]]) else bif op == [(61 : UInt8), (58 : UInt8), (61 : UInt8)] then some (.sl [[.int .i64 (2 : Int)]]) else bif 
  op == [(47 : UInt8), (61 : UInt8)] then some (.sl [[.int .i64 (2 : Int)]]) else bif op == [(61 : UInt8), (47 : UInt8), (61 : UInt8)] then some (.sl [[.int .i64 (2 : Int)]]) else bif 
  op == [(60 : UInt8)] then some (.sl [[.int .i64 (2 : Int)]]) else bif op == [(61 : UInt8), (60 : UInt8)] then some (.sl [[.int .i64 (2 : Int)]]) else bif op == [(62 : UInt8)] then some 
  (.sl [[.int .i64 (2 : Int)]]) else bif op == [(62 : UInt8), (61 : UInt8)] then some (.sl [[.int .i64 (2 : Int)]]) else bif op == [(97 : UInt8), (110 : UInt8), (100 : UInt8)] then some 
  (.sl [[.int .i64 (2 : Int)]]) else bif op == [(111 : UInt8), (114 : UInt8)] then some (.sl [[.int .i64 (2 : Int)]]) else bif op == [(120 : UInt8), (111 : UInt8), (114 : UInt8)] then 
  some (.sl [[.int .i64 (2 : Int)]]) else bif op == [(97 : UInt8), (110 : UInt8), (100 : UInt8), (97 : UInt8), (108 : UInt8), (115 : UInt8), (111 : UInt8)] then some (.sl [[.int .i64 
  (2 : Int)]]) else bif op == [(111 : UInt8), (114 : UInt8), (101 : UInt8), (108 : UInt8), (115 : UInt8), (101 : UInt8)] then some (.sl [[.int .i64 (2 : Int)]]) else bif op == [(42 : 
  UInt8)] then some (.sl [[.int .i64 (2 : Int)]]) else bif op == [(100 : UInt8), (105 : UInt8), (118 : UInt8)] then some (.sl [[.int .i64 (2 : Int)]]) else bif op == [(114 : UInt8), (101 
  : UInt8), (109 : UInt8)] then some (.sl [[.int .i64 (2 : Int)]]) else bif op == [(98 : UInt8), (97 : UInt8), (110 : UInt8), (100 : UInt8)] then some (.sl [[.int .i64 (2 : Int)]]) else 
  bif op == [(98 : UInt8), (111 : UInt8), (114 : UInt8)] then some (.sl [[.int .i64 (2 : Int)]]) else bif op == [(98 : UInt8), (120 : UInt8), (111 : UInt8), (114 : UInt8)] then some (.sl 
  [[.int .i64 (2 : Int)]]) else bif op == [(101 : UInt8), (108 : UInt8), (101 : UInt8), (109 : UInt8), (101 : UInt8), (110 : UInt8), (116 : UInt8)] then some (.sl [[.int .i64 (2 : Int)]]) 
  else some (.sl [])) P) : Gets (EVf (EV cfg) 174 ([AV.str op] : List AV)) P :=
  Gets.ev (fun _ h => funF rfl rfl Tryz.func174 rfl h) (Gets.eq (by kernel_rfl) h)
theorem r02Check_run (kt : Int) (nt : Int) (st : List UInt8) (lt : List (List AV)) {P : AV → Prop} (h : Gets (kOpt (EVs (EV cfg) 175 [.agg [.int .i64 kt, .int .i64 nt, .str st, .sl lt]]) fun (v : AV) => kBool v fun (b : Bool) => bif !b then some (.int .i64 (2 : Int)) else kOpt (EVs (EV cfg) 
  176 [.agg [.int .i64 kt, .int .i64 nt, .str st, .sl lt]]) fun (v : AV) => kInt .i64 v fun (n : Int) => bif decide (n > (65536 : Int)) then some (.int .i64 (3 : Int)) else some (.int 
  .i64 (0 : Int))) P) : Gets (EVs (EV cfg) 95 ([AV.agg [AV.int IntKind.i64 kt, AV.int IntKind.i64 nt, AV.str st, AV.sl lt]] : List AV)) P :=
  Gets.ev (fun _ h => funS rfl rfl Tryz.func95 rfl h) (Gets.eq (by kernel_rfl) h)
theorem r02Own_run (kt : Int) (nt : Int) (st : List UInt8) (lt : List (List AV)) {P : AV → Prop} (h : Gets (bif kt == (1 : Int) then bif decide (nt ≥ (-576460752303423488 : Int)) then bif decide (nt ≤ (576460752303423487 : Int)) then bif st == [] then some (.bool ((↑(List.length lt) : Int) 
  == (0 : Int))) else some (.bool false) else some (.bool false) else some (.bool false) else bif kt == (2 : Int) then bif nt == (0 : Int) then bif decide ((↑(List.length st) : Int) ≤ 
  (64 : Int)) then some (.bool ((↑(List.length lt) : Int) == (0 : Int))) else some (.bool false) else some (.bool false) else bif kt == (3 : Int) then kOpt (EVs (EV cfg) 295 [.int .i64 
  nt]) fun (v : AV) => kBool v fun (b : Bool) => bif b then bif st == [] then some (.bool ((↑(List.length lt) : Int) == (0 : Int))) else some (.bool false) else some (.bool false) else 
  bif kt == (4 : Int) then kOpt (EVs (EV cfg) 295 [.int .i64 nt]) fun (v : AV) => kBool v fun (b : Bool) => bif b then bif st == [] then some (.bool ((↑(List.length lt) : Int) == (0 : 
  Int))) else some (.bool false) else some (.bool false) else bif kt == (6 : Int) then kOpt (EVs (EV cfg) 295 [.int .i64 nt]) fun (v : AV) => kBool v fun (b : Bool) => bif b then bif st 
  == [] then some (.bool ((↑(List.length lt) : Int) == (0 : Int))) else some (.bool false) else some (.bool false) else bif kt == (5 : Int) then kOpt (EVs (EV cfg) 295 [.int .i64 nt]) 
  fun (v : AV) => kBool v fun (b : Bool) => bif b then bif st == [] then some (.bool (decide ((↑(List.length lt) : Int) ≤ (64 : Int)))) else some (.bool false) else some (.bool false) 
  else bif kt == (7 : Int) then bif nt == (0 : Int) then bif st == [] then some (.bool (decide ((↑(List.length lt) : Int) ≤ (64 : Int)))) else some (.bool false) else some (.bool false) 
  else bif kt == (8 : Int) then bif nt == (0 : Int) then bif st == [] then some (.bool ((↑(List.length lt) : Int) == (0 : Int))) else some (.bool false) else some (.bool false) else bif 
  kt == (9 : Int) then bif nt == (0 : Int) then bif st == [] then some (.bool ((↑(List.length lt) : Int) == (2 : Int))) else some (.bool false) else some (.bool false) else some (.bool 
  false)) P) : Gets (EVs (EV cfg) 244 ([AV.agg [AV.int IntKind.i64 kt, AV.int IntKind.i64 nt, AV.str st, AV.sl lt]] : List AV)) P :=
  Gets.ev (fun _ h => funS rfl rfl Tryz.func244 rfl h) (Gets.eq (by kernel_rfl) h)
theorem r02Parts_run (kt : Int) (nt : Int) (st : List UInt8) (lt : List (List AV)) {P : AV → Prop} (h : Gets (kOpt (EVs (EV cfg) 244 [.agg [.int .i64 kt, .int .i64 nt, .str st, .sl lt]]) fun (v : AV) => kBool v fun (b : Bool) => bif !b then some (.bool false) else wu53_0 (0 : Int) kt nt st lt) P) : Gets (EVs (EV cfg) 175 ([AV.agg [AV.int IntKind.i64 kt, AV.int IntKind.i64 nt, AV.str st, AV.sl lt]] : List AV)) P :=
  Gets.ev (fun _ h => funS rfl rfl Tryz.func175 rfl h) (Gets.eq (by kernel_rfl) h)
theorem r02Words_run (kt : Int) (nt : Int) (st : List UInt8) (lt : List (List AV)) {P : AV → Prop} (h : Gets (bif kt == (5 : Int) then bif kt == (5 : Int) then wu54_0 (2 : Int) (0 : Int) kt nt st lt else bif kt == (7 : Int) then wu54_0 (2 : Int) (0 : Int) kt nt st lt else bif kt == (9 : Int) 
  then wu54_0 (2 : Int) (0 : Int) kt nt st lt else some (.int .i64 (2 : Int)) else bif kt == (7 : Int) then bif kt == (5 : Int) then wu54_0 (2 : Int) (0 : Int) kt nt st lt else bif kt 
  == (7 : Int) then wu54_0 (2 : Int) (0 : Int) kt nt st lt else bif kt == (9 : Int) then wu54_0 (2 : Int) (0 : Int) kt nt st lt else some (.int .i64 (2 : Int)) else bif kt == (5 : Int) 
  then wu54_0 (1 : Int) (0 : Int) kt nt st lt else bif kt == (7 : Int) then wu54_0 (1 : Int) (0 : Int) kt nt st lt else bif kt == (9 : Int) then wu54_0 (1 : Int) (0 : Int) kt nt st lt 
  else some (.int .i64 (1 : Int))) P) : Gets (EVs (EV cfg) 176 ([AV.agg [AV.int IntKind.i64 kt, AV.int IntKind.i64 nt, AV.str st, AV.sl lt]] : List AV)) P :=
  Gets.ev (fun _ h => funS rfl rfl Tryz.func176 rfl h) (Gets.eq (by kernel_rfl) h)
theorem wu58_0_step (n : Int) (rows : List (List AV)) (v6 : Int) {P : AV → Prop} (h : Gets (bif decide (v6 < (↑(List.length rows) : Int)) then bif leInt (0 : Int) v6 && ltInt v6 (↑(List.length rows) : Int) then kOpt (List.get?Internal rows (Int.toNat v6)) fun (row : List AV) 
  => bif Nat.beq (List.length row) 1 then kOpt (List.get?Internal row 0) fun (v : AV) => kInt .i64 v fun (n_1 : Int) => bif n_1 == n then some (.bool true) else wu58_0 n rows (IntKind.wrap 
  .i64 (v6 + (1 : Int))) else none else none else some (.bool false)) P) : Gets (wu58_0 n rows v6) P :=
  Gets.ev (fun _ h => loop_step (cfg := cfg) (f := 93) (rd := none) (bs := 0) h) (Gets.eq (by kernel_rfl) h)
theorem wu53_0_step (v3 : Int) (c0_0 : Int) (c0_1 : Int) (c0_2 : List UInt8) (c0_3 : List (List AV)) {P : AV → Prop} (h : Gets (bif decide (v3 < (↑(List.length c0_3) : Int)) then bif leInt (0 : Int) v3 && ltInt v3 (↑(List.length c0_3) : Int) then kOpt (List.get?Internal c0_3 (Int.toNat v3)) fun (row : List AV) 
  => bif Nat.beq (List.length row) 4 then bif Nat.ble 4 (List.length row) then kTmC (List.take 4 row) fun (n n_1 : Int) (s : List UInt8) (rows : List (List AV)) => (kOpt (EVs (EV cfg) 
  175 [.agg [.int .i64 n, .int .i64 n_1, .str s, .sl rows]]) fun (v : AV) => kBool v fun (b : Bool) => bif !b then some (.bool false) else wu53_0 (IntKind.wrap .i64 (v3 + (1 : Int))) c0_0 
  c0_1 c0_2 c0_3) else none else none else none else some (.bool true)) P) : Gets (wu53_0 v3 c0_0 c0_1 c0_2 c0_3) P :=
  Gets.ev (fun _ h => loop_step (cfg := cfg) (f := 175) (rd := none) (bs := 0) h) (Gets.eq (by kernel_rfl) h)
theorem wu54_0_step (v3 : Int) (v4 : Int) (c0_0 : Int) (c0_1 : Int) (c0_2 : List UInt8) (c0_3 : List (List AV)) {P : AV → Prop} (h : Gets (bif decide (v4 < (↑(List.length c0_3) : Int)) then bif leInt (0 : Int) v4 && ltInt v4 (↑(List.length c0_3) : Int) then kOpt (List.get?Internal c0_3 (Int.toNat v4)) fun (row : List AV) 
  => bif Nat.beq (List.length row) 4 then bif Nat.ble 4 (List.length row) then kTmC (List.take 4 row) fun (n n_1 : Int) (s : List UInt8) (rows : List (List AV)) => (kOpt (EVs (EV cfg) 
  176 [.agg [.int .i64 n, .int .i64 n_1, .str s, .sl rows]]) fun (v : AV) => kInt .i64 v fun (n : Int) => wu54_0 (IntKind.wrap .i64 (v3 + n)) (IntKind.wrap .i64 (v4 + (1 : Int))) c0_0 
  c0_1 c0_2 c0_3) else none else none else none else some (.int .i64 v3)) P) : Gets (wu54_0 v3 v4 c0_0 c0_1 c0_2 c0_3) P :=
  Gets.ev (fun _ h => loop_step (cfg := cfg) (f := 176) (rd := none) (bs := 0) h) (Gets.eq (by kernel_rfl) h)
end Go.Proofs.YtkgkjngbfdnoiaaGreat
end

section
namespace Go.Proofs.YtkgkjngbfdnoiaaGreat
open Go.Av
set_option maxRecDepth 100000
set_option maxHeartbeats 0

theorem r02Numbered_run (n : Int) {P : AV → Prop} (h : Gets (bif decide (n ≥ (0 : Int)) then some (.bool (decide (n ≤ (1073741824 : Int)))) else some (.bool false)) P) : Gets (EVs (EV cfg) 295 ([AV.int IntKind.i64 n] : List AV)) P :=
  Gets.ev (fun _ h => funS rfl rfl Tryz.func295 rfl h) (Gets.eq (by kernel_rfl) h)
end Go.Proofs.YtkgkjngbfdnoiaaGreat
end

section
namespace Go.Proofs.YtkgkjngbfdnoiaaGreat
open Go.Av
theorem r02Numbered_ev (n : Int) : EVs (EV cfg) 295 [.int .i64 n] = some (.bool (decide (0 ≤ n) && decide (n ≤ 1073741824))) := by
  apply Gets.get
  refine r02Numbered_run _ ?_
  by_cases h : 0 ≤ n <;> simp [h]
theorem r02Own_ev (t : Tm) : EVs (EV cfg) 244 [t.av] = some (.bool t.sound) := by
  obtain ⟨k, n, s, l⟩ := t
  apply Gets.get
  rw [Tm.av_mk]
  refine r02Own_run _ _ _ _ ?_
  simp only [Tm.sound, Tm.kind_mk, Tm.num_mk, Tm.str_mk, Tm.subs_mk, rowsT_length, beqI, beqNil, soundB, r02Numbered_ev, kOptSome, kBool_bool]
  by_cases h1 : k = 1
  · subst h1; simp [bif_some'] <;> (try rw [Bool.eq_iff_iff]) <;> (try simp) <;> first | omega | grind
  by_cases h2 : k = 2
  · subst h2; simp [bif_some'] <;> (try rw [Bool.eq_iff_iff]) <;> (try simp) <;> first | omega | grind
  by_cases h3 : k = 3
  · subst h3; simp [bif_some'] <;> (try rw [Bool.eq_iff_iff]) <;> (try simp) <;> first | omega | grind
  by_cases h4 : k = 4
  · subst h4; simp [bif_some'] <;> (try rw [Bool.eq_iff_iff]) <;> (try simp) <;> first | omega | grind
  by_cases h6 : k = 6
  · subst h6; simp [bif_some'] <;> (try rw [Bool.eq_iff_iff]) <;> (try simp) <;> first | omega | grind
  by_cases h5 : k = 5
  · subst h5; simp [bif_some'] <;> (try rw [Bool.eq_iff_iff]) <;> (try simp) <;> first | omega | grind
  by_cases h7 : k = 7
  · subst h7; simp [bif_some'] <;> (try rw [Bool.eq_iff_iff]) <;> (try simp) <;> first | omega | grind
  by_cases h8 : k = 8
  · subst h8; simp [bif_some'] <;> (try rw [Bool.eq_iff_iff]) <;> (try simp) <;> first | omega | grind
  by_cases h9 : k = 9
  · subst h9; simp [bif_some'] <;> (try rw [Bool.eq_iff_iff]) <;> (try simp) <;> first | omega | grind
  simp [h1, h2, h3, h4, h5, h6, h7, h8, h9]
theorem r02Parts_ev (t : Tm) : t.w < 1099511627776 → EVs (EV cfg) 175 [t.av] = some (.bool t.parts) := by
  induction t using Tm.ind with
  | _ k n s l ih =>
    intro hw
    rw [Tm.w_mk] at hw
    have hlen := wL_len l
    have loop : ∀ d i : Nat, i + d = l.length → Gets (wu53_0 i k n s (rowsT l)) (· = .bool (partsL (l.drop i))) := by
      intro d
      induction d with
      | zero =>
        intro i hi
        refine wu53_0_step _ _ _ _ _ ?_
        rw [rowsT_length, decide_eq_false (by omega), List.drop_eq_nil_of_le (by omega)]
        exact ⟨_, rfl, rfl⟩
      | succ d ihd =>
        intro i hi
        have hil : i < l.length := by omega
        refine wu53_0_step _ _ _ _ _ ?_
        have hx : l[i]? = some l[i] := List.getElem?_eq_getElem hil
        have hm := List.mem_of_getElem? hx
        have hd : l.drop i = l[i] :: l.drop (i + 1) := List.drop_eq_getElem_cons hil
        have h1 := ih l[i] hm (by have := wL_mem hm; omega)
        have h2 := ihd (i + 1) (by omega)
        rw [rowsT_length, decide_eq_true (show (i : Int) < (l.length : Int) by omega), leInt_zero, ltInt_nat, decide_eq_true hil, rowsT_at hx, wrap_succ hil (by omega), hd, partsL]
        simp only [cond_true, Bool.and_self, length_cells, Nat.beq_refl, take_cells, kTmC_cells, show Nat.ble 4 4 = true from rfl, av_unf, h1, kOptSome, kBool_bool]
        cases hg : l[i].parts with
        | false => exact ⟨_, rfl, rfl⟩
        | true => rw [Bool.true_and]; exact h2
    have ho := r02Own_ev (.mk k n s l)
    have h0 := loop l.length 0 (by omega)
    apply Gets.get
    rw [Tm.parts_eq]
    rw [Tm.av_mk] at ho ⊢
    refine r02Parts_run _ _ _ _ ?_
    rw [ho]
    simp only [kOptSome, kBool_bool, Tm.subs_mk]
    cases (Tm.mk k n s l).sound with
    | false => exact ⟨_, rfl, rfl⟩
    | true => rw [Bool.true_and]; exact h0
end Go.Proofs.YtkgkjngbfdnoiaaGreat
end

section
namespace Go.Proofs.YtkgkjngbfdnoiaaGreat
open Go.Av
theorem partsL_mem {l : List Tm} (h : partsL l = true) : ∀ x ∈ l, x.parts = true := by
  induction l with
  | nil => intro x hx; cases hx
  | cons y l ih =>
    rw [partsL, Bool.and_eq_true] at h
    intro x hx
    cases hx with
    | head => exact h.1
    | tail _ hx => exact ih h.2 x hx
theorem r02Words_ev (t : Tm) : t.w < 1099511627776 → t.parts = true → EVs (EV cfg) 176 [t.av] = some (.int .i64 (t.words : Int)) := by
  induction t using Tm.ind with
  | _ k n s l ih =>
    intro hw hp
    have hww := words_le (.mk k n s l)
    rw [Tm.w_mk] at hw hww
    have hlen := wL_len l
    rw [Tm.parts, Bool.and_eq_true] at hp
    obtain ⟨hp, hpl⟩ := hp
    have loop : ∀ d i acc : Nat, i + d = l.length → acc + wordsL (l.drop i) < 9007199254740992 → Gets (wu54_0 acc i k n s (rowsT l)) (· = .int .i64 ((acc + wordsL (l.drop i) : Nat) : Int)) := by
      intro d
      induction d with
      | zero =>
        intro i acc hi _
        refine wu54_0_step _ _ _ _ _ _ ?_
        rw [rowsT_length, decide_eq_false (by omega), List.drop_eq_nil_of_le (by omega)]
        exact ⟨_, rfl, rfl⟩
      | succ d ihd =>
        intro i acc hi hacc
        have hil : i < l.length := by omega
        refine wu54_0_step _ _ _ _ _ _ ?_
        have hx : l[i]? = some l[i] := List.getElem?_eq_getElem hil
        have hm := List.mem_of_getElem? hx
        have hd : l.drop i = l[i] :: l.drop (i + 1) := List.drop_eq_getElem_cons hil
        have h1 := ih l[i] hm (by have := wL_mem hm; omega) (partsL_mem hpl _ hm)
        rw [hd, wordsL] at hacc
        have h2 := ihd (i + 1) (acc + (l[i]).words) (by omega) (by omega)
        have w1 : IntKind.wrap .i64 ((acc : Int) + ((l[i]).words : Int)) = ((acc + (l[i]).words : Nat) : Int) := by rw [wrap64 (by omega) (by omega)]; omega
        rw [rowsT_length, decide_eq_true (show (i : Int) < (l.length : Int) by omega), leInt_zero, ltInt_nat, decide_eq_true hil, rowsT_at hx, wrap_succ hil (by omega), hd, wordsL]
        simp only [cond_true, Bool.and_self, length_cells, Nat.beq_refl, take_cells, kTmC_cells, show Nat.ble 4 4 = true from rfl, av_unf, h1, kOptSome, kInt_int, w1]
        rw [← Nat.add_assoc]
        exact h2
    have hwo : (Tm.mk k n s l).words = (Tm.mk k n s l).own + wordsL l := by rw [Tm.words]
    rw [hwo] at hww ⊢
    have ho := (Tm.mk k n s l).own_le
    have h0 := loop l.length 0 (Tm.mk k n s l).own (by omega) (by rw [List.drop_zero]; omega)
    rw [List.drop_zero] at h0
    apply Gets.get
    rw [Tm.av_mk]
    refine r02Words_run _ _ _ _ ?_
    by_cases h5 : k = 5
    · subst h5
      have o2 : (Tm.mk 5 n s l).own = 2 := by simp [Tm.own]
      rw [o2] at h0 ⊢; exact h0
    by_cases h7 : k = 7
    · subst h7
      have o2 : (Tm.mk 7 n s l).own = 2 := by simp [Tm.own]
      rw [o2] at h0 ⊢; exact h0
    have o1 : (Tm.mk k n s l).own = 1 := by simp [Tm.own, h5, h7]
    rw [o1] at h0 ⊢
    by_cases h9 : k = 9
    · subst h9; exact h0
    have e5 : (k == 5) = false := by simpa using h5
    have e7 : (k == 7) = false := by simpa using h7
    have e9 : (k == 9) = false := by simpa using h9
    have hl : l = [] := by
      have : soundB k n s l.length = true → l.length = 0 := by
        unfold soundB
        rw [if_neg h5, if_neg h7, if_neg h9]
        intro h
        repeat' split at h
        all_goals simp at h
        all_goals simp [h]
      exact List.length_eq_zero_iff.1 (this hp)
    subst hl
    rw [e5, e7, e9]
    exact ⟨_, rfl, rfl⟩
theorem r02Check_ev {t : Tm} (h : t.w < 1099511627776) : EVs (EV cfg) 95 [t.av] = some (.int .i64 t.chk) := by
  have hp := r02Parts_ev t h
  have hw := r02Words_ev t h
  apply Gets.get
  rw [Tm.av, Tm.cells_eq] at hp hw ⊢
  refine r02Check_run _ _ _ _ ?_
  rw [hp]
  have hc : t.chk = if t.parts then (if 65536 < t.words then 3 else 0) else 2 := by
    unfold Tm.chk chkS
    simp [partsL, wordsL]
  rw [hc]
  simp only [kOptSome, kBool_bool]
  cases ht : t.parts with
  | false => exact ⟨_, rfl, rfl⟩
  | true =>
    rw [hw ht]
    simp only [kOptSome, kInt_int, Bool.not_true, cond_false, if_true]
    by_cases hg : 65536 < t.words
    · rw [decide_eq_true (show ((t.words : Int) > 65536) by omega), if_pos hg]; exact ⟨_, rfl, rfl⟩
    · rw [decide_eq_false (show ¬ ((t.words : Int) > 65536) by omega), if_neg hg]; exact ⟨_, rfl, rfl⟩
theorem r17Ops_ev (op : List UInt8) : EVf (EV cfg) 174 [.str op] = some (.sl (intsR (opsG op))) := by
  apply Gets.get
  refine r17Ops_run _ ?_
  have h := lookS_map (fun l => some (AV.sl (intsR l))) op [] opsTab
  have : Gets (lookS op (some (AV.sl (intsR []))) (opsTab.map fun p => (p.1, some (AV.sl (intsR p.2))))) (· = .sl (intsR (opsG op))) := by
    rw [h]; exact ⟨_, rfl, rfl⟩
  exact this
end Go.Proofs.YtkgkjngbfdnoiaaGreat
end

section
namespace Go.Av
def tbR (o : Option Tm) : AV := .tup [(o.getD zeroT).av, .bool o.isSome]
def RB (o : Option Tm) (v : AV) : Prop := ∃ t : Tm, v = .tup [t.av, .bool o.isSome] ∧ ∀ x, o = some x → t = x
theorem RB.of {o : Option Tm} : RB o (tbR o) := ⟨_, rfl, fun x h => by rw [h]; rfl⟩
theorem RB.some {t : Tm} {v : AV} (h : RB (some t) v) : v = .tup [t.av, .bool true] := by
  obtain ⟨x, rfl, h⟩ := h
  rw [h t rfl]; rfl
theorem kTB {α : Type} (t : Tm) (b : Bool) (K : Int → Int → List UInt8 → List (List AV) → Bool → Option α) : (kTup (.tup [t.av, .bool b]) fun cs => kCons cs fun c cs => kAgg c fun cs_1 => kCons cs_1 fun c cs_2 => kInt .i64 c fun n => kCons cs_2 fun c cs_3 => kInt .i64 c fun n_1 => kCons cs_3 fun c cs_4 => kStr c fun s => kCons cs_4 fun c cs_5 => kSl c fun rows => kNil cs_5 (kCons cs fun c cs => kBool c fun b => kNil cs (K n n_1 s rows b))) = K t.kind t.num t.str (rowsT t.subs) b := by
  obtain ⟨k, n, s, l⟩ := t
  rw [Tm.av_mk]; rfl
theorem tbR_eq (o : Option Tm) : tbR o = .tup [(o.getD zeroT).av, .bool o.isSome] := rfl
theorem tb_none : (some (AV.tup [zeroT.av, .bool false])) = some (tbR none) := rfl
theorem ops1_in {op : List UInt8} (h : (1 : Int) ∈ opsG op) : op ∈ ([[105, 115, 95, 97, 116, 111, 109], [105, 115, 95, 105, 110, 116, 101, 103, 101, 114], [105, 115, 95, 108, 105, 115, 116], [105, 115, 95, 116, 117, 112, 108, 101], [105, 115, 95, 112, 105, 100], [105, 115, 95, 102, 117, 110, 99, 116, 105, 111, 110], [105, 115, 95, 114, 101, 102, 101, 114, 101, 110, 99, 101], [110, 111, 116], [98, 110, 111, 116], [97, 98, 115], [116, 117, 112, 108, 101, 95, 115, 105, 122, 101], [115, 105, 122, 101], [104, 100], [116, 108], [108, 101, 110, 103, 116, 104], [43], [45]] : List (List UInt8)) := by
  have : ∀ (l : List (List UInt8 × List Int)), (1 : Int) ∈ lookS op [] l → ∃ p ∈ l, p.1 = op ∧ (1 : Int) ∈ p.2 := by
    intro l
    induction l with
    | nil => intro h; simp [lookS] at h
    | cons p l ih =>
      intro h
      rw [lookS] at h
      cases hp : op == p.1
      · rw [hp] at h
        obtain ⟨q, h1, h2⟩ := ih h
        exact ⟨q, List.mem_cons_of_mem _ h1, h2⟩
      · rw [hp] at h
        rw [beqS, decide_eq_true_eq] at hp
        exact ⟨p, List.mem_cons_self, hp.symm, h⟩
  obtain ⟨p, h1, rfl, h2⟩ := this _ h
  clear this h
  revert p
  decide
theorem ops2_in {op : List UInt8} (h : (2 : Int) ∈ opsG op) : op ∈ ([[43], [45], [61, 61], [61, 58, 61], [47, 61], [61, 47, 61], [60], [61, 60], [62], [62, 61], [97, 110, 100], [111, 114], [120, 111, 114], [97, 110, 100, 97, 108, 115, 111], [111, 114, 101, 108, 115, 101], [42], [100, 105, 118], [114, 101, 109], [98, 97, 110, 100], [98, 111, 114], [98, 120, 111, 114], [101, 108, 101, 109, 101, 110, 116]] : List (List UInt8)) := by
  have : ∀ (l : List (List UInt8 × List Int)), (2 : Int) ∈ lookS op [] l → ∃ p ∈ l, p.1 = op ∧ (2 : Int) ∈ p.2 := by
    intro l
    induction l with
    | nil => intro h; simp [lookS] at h
    | cons p l ih =>
      intro h
      rw [lookS] at h
      cases hp : op == p.1
      · rw [hp] at h
        obtain ⟨q, h1, h2⟩ := ih h
        exact ⟨q, List.mem_cons_of_mem _ h1, h2⟩
      · rw [hp] at h
        rw [beqS, decide_eq_true_eq] at hp
        exact ⟨p, List.mem_cons_self, hp.symm, h⟩
  obtain ⟨p, h1, rfl, h2⟩ := this _ h
  clear this h
  revert p
  decide
end Go.Av
namespace Go.Proofs.YtkgkjngbfdnoiaaGreat
open Go.Av
theorem r17Truth_ev (b : Bool) : EVf (EV cfg) 245 [.bool b] = some (truthT b).av := by
  apply Gets.get
  refine r17Truth_run _ ?_
  rw [truthT, symT_av]
  cases b <;> exact ⟨_, rfl, rfl⟩
theorem r17Truths_ev (t : Tm) : EVs (EV cfg) 237 [t.av] = some (.tup [.bool ((boolG t).getD false), .bool (boolG t).isSome]) := by
  apply Gets.get
  rw [Tm.av, Tm.cells_eq]
  refine r17Truths_run _ _ _ _ ?_
  unfold boolG
  simp only [beqS, show ([116, 114, 117, 101] : List UInt8) = tru from rfl, show ([102, 97, 108, 115, 101] : List UInt8) = fal from rfl]
  by_cases h : t.kind = 2
  · have e0 : (t.kind != 2) = false := by rw [h]; rfl
    rw [e0, cond_false]
    by_cases h1 : t.str = tru
    · rw [if_pos ⟨h, h1⟩, decide_eq_true h1]; exact ⟨_, rfl, rfl⟩
    · rw [if_neg (fun e => h1 e.2), decide_eq_false h1]
      by_cases h2 : t.str = fal
      · rw [if_pos ⟨h, h2⟩, decide_eq_true h2]; exact ⟨_, rfl, rfl⟩
      · rw [if_neg (fun e => h2 e.2), decide_eq_false h2]; exact ⟨_, rfl, rfl⟩
  · have e0 : (t.kind != 2) = true := by simpa using h
    rw [e0, if_neg (fun e => h e.1), if_neg (fun e => h e.1)]; exact ⟨_, rfl, rfl⟩
theorem r17Within_ev (n : Int) : EVf (EV cfg) 247 [.int .i64 n] = some (tbR (withinG n)) := by
  apply Gets.get
  refine r17Within_run _ ?_
  unfold withinG
  rw [← zeroT_av, ← numT_av]
  by_cases h1 : n < -576460752303423488
  · rw [decide_eq_true h1, if_neg (fun h : InB n => by obtain ⟨a, b⟩ := h; omega)]; exact ⟨_, rfl, rfl⟩
  · rw [decide_eq_false h1, cond_false]
    by_cases h2 : n > 576460752303423487
    · rw [decide_eq_true h2, if_neg (fun h : InB n => by obtain ⟨a, b⟩ := h; omega)]; exact ⟨_, rfl, rfl⟩
    · rw [decide_eq_false h2, cond_false, if_pos (show InB n from ⟨by omega, by omega⟩)]; exact ⟨_, rfl, rfl⟩
theorem r17Compares_ev (op : List UInt8) (c : Int) : EVs (EV cfg) 249 [.str op, .int .i64 c] = some (.bool (
    if op = [61, 61] then decide (c = 0) else if op = [61, 58, 61] then decide (c = 0) else if op = [47, 61] then !decide (c = 0) else if op = [61, 47, 61] then !decide (c = 0)
    else if op = [60] then decide (c < 0) else if op = [61, 60] then decide (c ≤ 0) else if op = [62] then decide (c > 0) else decide (c ≥ 0))) := by
  apply Gets.get
  refine r17Compares_run _ _ ?_
  have hne : (c != 0) = !decide (c = 0) := by rw [bne, beqI]
  simp only [beqS, hne, beqI]
  repeat' first
    | exact ⟨_, rfl, rfl⟩
    | (split <;> rename_i h <;> simp only [h, decide_true, cond_true, decide_false, cond_false])
theorem within_step (n : Int) : Gets (kOpt (EVf (EV cfg) 247 [.int .i64 n]) fun (v : AV) => kTup v fun (cs : List AV) => kCons cs fun (c : AV) (cs : List AV) => kAgg c fun (cs_1 : List AV) => kCons cs_1 fun (c : AV) (cs_2 : List AV) => kInt .i64 c fun (n : Int) => kCons cs_2 fun (c : AV) (cs_3 : List AV) => kInt .i64 c fun (n_1 : Int) => kCons cs_3 fun (c : AV) (cs_4 : List AV) => kStr c fun (s : List UInt8) => kCons cs_4 fun (c : AV) (cs_5 : List AV) => kSl c fun (rows : List (List AV)) => kNil cs_5 (kCons cs fun (c : AV) (cs : List AV) => kBool c fun (b : Bool) => kNil cs (some (AV.tup [.agg [.int .i64 n, .int .i64 n_1, .str s, .sl rows], .bool b])))) (· = tbR (withinG n)) := by
  rw [r17Within_ev]
  simp only [kOptSome, tbR_eq, kTB, av_unf]
  exact ⟨_, rfl, rfl⟩
theorem r17Product_ev {a b : Int} (ha : InB a) (hb : InB b) : EVf (EV cfg) 296 [.int .i64 a, .int .i64 b] = some (tbR (withinG (a * b))) := by
  obtain ⟨a1, a2⟩ := ha
  obtain ⟨b1, b2⟩ := hb
  have no : ∀ {P : Prop}, ¬ InB (a * b) → (· = tbR (withinG (a * b))) (tbR none) := by
    intro P h
    show _ = _
    unfold withinG
    rw [if_neg h]
  have fin : InB (a * b) → Gets (kOpt (EVf (EV cfg) 247 [.int .i64 (IntKind.wrap .i64 (a * b))]) fun (v : AV) => kTup v fun (cs : List AV) => kCons cs fun (c : AV) (cs : List AV) => kAgg c fun (cs_1 : List AV) => kCons cs_1 fun (c : AV) (cs_2 : List AV) => kInt .i64 c fun (n : Int) => kCons cs_2 fun (c : AV) (cs_3 : List AV) => kInt .i64 c fun (n_1 : Int) => kCons cs_3 fun (c : AV) (cs_4 : List AV) => kStr c fun (s : List UInt8) => kCons cs_4 fun (c : AV) (cs_5 : List AV) => kSl c fun (rows : List (List AV)) => kNil cs_5 (kCons cs fun (c : AV) (cs : List AV) => kBool c fun (b : Bool) => kNil cs (some (AV.tup [.agg [.int .i64 n, .int .i64 n_1, .str s, .sl rows], .bool b])))) (· = tbR (withinG (a * b))) := by
    rintro ⟨h1, h2⟩
    rw [wrap64 (by omega) (by omega)]
    exact within_step _
  apply Gets.get
  refine r17Product_run _ _ ?_
  rw [← zeroT_av, tb_none]
  rw [beqI, beqI]
  by_cases z1 : a = 0
  · rw [decide_eq_true z1, cond_true, z1, Int.zero_mul]; exact within_step _
  rw [decide_eq_false z1, cond_false]
  by_cases z2 : b = 0
  · rw [decide_eq_true z2, cond_true, z2, Int.mul_zero]; exact within_step _
  rw [decide_eq_false z2, cond_false]
  have neg : ∀ {x : Int}, ¬ InB (a * b) → Gets (some (tbR none)) (· = tbR (withinG (a * b))) := fun {_} h => ⟨_, rfl, no (P := True) h⟩
  have q0 : ∀ M y : Int, 0 ≤ M → 0 < y → 0 ≤ M / y ∧ M / y ≤ M := fun M y hM hy => ⟨Int.ediv_nonneg hM (by omega), Int.ediv_le_self y hM⟩
  have q1 : ∀ M x y : Int, 0 < y → (x > M / y ↔ x * y > M) := fun M x y hy => by
    have := Int.le_ediv_iff_mul_le (a := x) (b := M) hy
    omega
  rcases Int.lt_or_gt_of_ne z1 with sa | sa
  · have d1 : decide (a > 0) = false := decide_eq_false (by omega)
    have d2 : decide (a < 0) = true := decide_eq_true sa
    rcases Int.lt_or_gt_of_ne z2 with sb | sb
    · have d3 : decide (b > 0) = false := decide_eq_false (by omega)
      have d4 : decide (b < 0) = true := decide_eq_true sb
      have e1 : (576460752303423487 : Int).tdiv b = -(576460752303423487 / (-b)) := by
        rw [show b = -(-b) by omega, Int.tdiv_neg, Int.neg_neg, Int.tdiv_eq_ediv_of_nonneg (by omega)]
      obtain ⟨h1, h2⟩ := q0 576460752303423487 (-b) (by omega) (by omega)
      have h3 := q1 576460752303423487 (-a) (-b) (by omega)
      have e2 : (-a) * (-b) = a * b := Int.neg_mul_neg a b
      rw [e2] at h3
      have hp : 0 < a * b := by rw [← e2]; exact Int.mul_pos (by omega) (by omega)
      rw [intDiv_quo z2, e1, wrap64 (by omega) (by omega)]
      simp only [d1, d2, d3, d4, cond_true, cond_false, kOptSome, kInt_int]
      by_cases h : a < -(576460752303423487 / (-b))
      · rw [decide_eq_true h, cond_true]; exact neg (x := 0) fun ⟨_, g⟩ => by omega
      · rw [decide_eq_false h, cond_false]; exact fin ⟨by omega, by omega⟩
    · have d3 : decide (b > 0) = true := decide_eq_true sb
      have d4 : decide (b < 0) = false := decide_eq_false (by omega)
      have e1 : (-576460752303423488 : Int).tdiv b = -(576460752303423488 / b) := by
        rw [show (-576460752303423488 : Int) = -(576460752303423488) by omega, Int.neg_tdiv, Int.tdiv_eq_ediv_of_nonneg (by omega)]
      obtain ⟨h1, h2⟩ := q0 576460752303423488 b (by omega) (by omega)
      have h3 := q1 576460752303423488 (-a) b (by omega)
      have e2 : (-a) * b = -(a * b) := Int.neg_mul a b
      rw [e2] at h3
      have hp : 0 < -(a * b) := by rw [← e2]; exact Int.mul_pos (by omega) (by omega)
      rw [intDiv_quo z2, intDiv_quo z2, e1, wrap64 (x := -(576460752303423488 / b)) (by omega) (by omega)]
      simp only [d1, d2, d3, d4, cond_true, cond_false, kOptSome, kInt_int]
      by_cases h : a < -(576460752303423488 / b)
      · rw [decide_eq_true h, cond_true]; exact neg (x := 0) fun ⟨g, _⟩ => by omega
      · rw [decide_eq_false h, cond_false]; exact fin ⟨by omega, by omega⟩
  · have d1 : decide (a > 0) = true := decide_eq_true sa
    have d2 : decide (a < 0) = false := decide_eq_false (by omega)
    rcases Int.lt_or_gt_of_ne z2 with sb | sb
    · have d3 : decide (b > 0) = false := decide_eq_false (by omega)
      have d4 : decide (b < 0) = true := decide_eq_true sb
      have e1 : (-576460752303423488 : Int).tdiv a = -(576460752303423488 / a) := by
        rw [show (-576460752303423488 : Int) = -(576460752303423488) by omega, Int.neg_tdiv, Int.tdiv_eq_ediv_of_nonneg (by omega)]
      obtain ⟨h1, h2⟩ := q0 576460752303423488 a (by omega) (by omega)
      have h3 := q1 576460752303423488 (-b) a (by omega)
      have e2 : (-b) * a = -(a * b) := by rw [Int.neg_mul, Int.mul_comm]
      rw [e2] at h3
      have hp : 0 < -(a * b) := by rw [← e2]; exact Int.mul_pos (by omega) (by omega)
      rw [intDiv_quo z2, intDiv_quo z2, intDiv_quo z1, e1, wrap64 (x := -(576460752303423488 / a)) (by omega) (by omega)]
      simp only [d1, d2, d3, d4, cond_true, cond_false, kOptSome, kInt_int]
      by_cases h : b < -(576460752303423488 / a)
      · rw [decide_eq_true h, cond_true]; exact neg (x := 0) fun ⟨g, _⟩ => by omega
      · rw [decide_eq_false h, cond_false]; exact fin ⟨by omega, by omega⟩
    · have d3 : decide (b > 0) = true := decide_eq_true sb
      have d4 : decide (b < 0) = false := decide_eq_false (by omega)
      have e1 : (576460752303423487 : Int).tdiv b = 576460752303423487 / b := Int.tdiv_eq_ediv_of_nonneg (by omega)
      obtain ⟨h1, h2⟩ := q0 576460752303423487 b (by omega) (by omega)
      have h3 := q1 576460752303423487 a b (by omega)
      have hp : 0 < a * b := Int.mul_pos (by omega) (by omega)
      rw [intDiv_quo z2, e1, wrap64 (x := 576460752303423487 / b) (by omega) (by omega)]
      simp only [d1, d2, d3, d4, cond_true, cond_false, kOptSome, kInt_int]
      by_cases h : a > 576460752303423487 / b
      · rw [decide_eq_true h, cond_true]; exact neg (x := 0) fun ⟨_, g⟩ => by omega
      · rw [decide_eq_false h, cond_false]; exact fin ⟨by omega, by omega⟩
theorem product_step {a b : Int} (ha : InB a) (hb : InB b) : Gets (kOpt (EVf (EV cfg) 296 [.int .i64 a, .int .i64 b]) fun (v : AV) => kTup v fun (cs : List AV) => kCons cs fun (c : AV) (cs : List AV) => kAgg c fun (cs_1 : List AV) => kCons cs_1 fun (c : AV) (cs_2 : List AV) => kInt .i64 c fun (n : Int) => kCons cs_2 fun (c : AV) (cs_3 : List AV) => kInt .i64 c fun (n_1 : Int) => kCons cs_3 fun (c : AV) (cs_4 : List AV) => kStr c fun (s : List UInt8) => kCons cs_4 fun (c : AV) (cs_5 : List AV) => kSl c fun (rows : List (List AV)) => kNil cs_5 (kCons cs fun (c : AV) (cs : List AV) => kBool c fun (b : Bool) => kNil cs (some (AV.tup [.agg [.int .i64 n, .int .i64 n_1, .str s, .sl rows], .bool b])))) (· = tbR (withinG (a * b))) := by
  rw [r17Product_ev ha hb]
  simp only [kOptSome, tbR_eq, kTB, av_unf]
  exact ⟨_, rfl, rfl⟩
theorem r17Numbers_ev {op : List UInt8} (h : op ∈ ([[43], [45], [42], [98, 97, 110, 100], [98, 111, 114], [98, 120, 111, 114], [100, 105, 118], [114, 101, 109]] : List (List UInt8))) {a b : Int} (ha : InB a) (hb : InB b) :
    EVf (EV cfg) 251 [.str op, .int .i64 a, .int .i64 b] = some (tbR (numbersG op a b)) := by
  obtain ⟨a1, a2⟩ := ha
  obtain ⟨b1, b2⟩ := hb
  have hp := product_step ⟨a1, a2⟩ ⟨b1, b2⟩
  have h1 := bvG_and (a := a) (b := b) ⟨a1, a2⟩ ⟨b1, b2⟩
  have h2 := bvG_or (a := a) (b := b) ⟨a1, a2⟩ ⟨b1, b2⟩
  have h3 := bvG_xor (a := a) (b := b) ⟨a1, a2⟩ ⟨b1, b2⟩
  have w1 : IntKind.wrap .i64 (a + b) = a + b := wrap64 (by omega) (by omega)
  have w2 : IntKind.wrap .i64 (a - b) = a - b := wrap64 (by omega) (by omega)
  apply Gets.get
  refine r17Numbers_run _ _ _ ?_
  rw [← zeroT_av, tb_none, w1, w2]
  simp only [beqS, beqI]
  simp only [List.mem_cons, List.not_mem_nil, or_false] at h
  rcases h with rfl | rfl | rfl | rfl | rfl | rfl | rfl | rfl
  · exact within_step _
  · exact within_step _
  · exact hp
  · simp only [h1, kOptSome, kInt_int]; exact within_step _
  · simp only [h2, kOptSome, kInt_int]; exact within_step _
  · simp only [h3, kOptSome, kInt_int]; exact within_step _
  · by_cases z : b = 0
    · rw [decide_eq_true z]
      unfold numbersG
      simp only [if_pos z]
      exact ⟨_, rfl, rfl⟩
    · rw [decide_eq_false z]
      have := tdiv_abs (a := a) z
      rw [intDiv_quo z, wrap64 (by omega) (by omega)]
      unfold numbersG
      simp only [if_neg z]
      exact within_step _
  · by_cases z : b = 0
    · rw [decide_eq_true z]
      unfold numbersG
      simp only [if_pos z]
      exact ⟨_, rfl, rfl⟩
    · rw [decide_eq_false z]
      rw [intDiv_rem z]
      unfold numbersG
      simp only [if_neg z]
      exact within_step _
end Go.Proofs.YtkgkjngbfdnoiaaGreat
end

section
namespace Go.Proofs.YtkgkjngbfdnoiaaGreat
open Go.Av
theorem r03Numbers_ev (a b : Int) : EVs (EV cfg) 227 [.int .i64 a, .int .i64 b] = some (.int .i64 (numC a b)) := by
  apply Gets.get
  refine r03Numbers_run _ _ ?_
  unfold numC
  by_cases h : a < b
  · rw [decide_eq_true h, if_pos h]; exact ⟨_, rfl, rfl⟩
  · rw [decide_eq_false h, if_neg h, cond_false]
    by_cases h : b < a
    · rw [decide_eq_true (show a > b from h), if_pos h]; exact ⟨_, rfl, rfl⟩
    · rw [decide_eq_false (show ¬ a > b from h), if_neg h]; exact ⟨_, rfl, rfl⟩
theorem r03Texts_ev (a b : List UInt8) : EVs (EV cfg) 228 [.str a, .str b] = some (.int .i64 (strC a b)) := by
  apply Gets.get
  refine r03Texts_run _ _ ?_
  unfold strC
  rw [beqS]
  by_cases h : a = b
  · subst h
    rw [bytesLess_irrefl, if_pos rfl, decide_eq_true rfl]; exact ⟨_, rfl, rfl⟩
  · rw [if_neg h, decide_eq_false h]
    cases Op.bytesLess a b <;> exact ⟨_, rfl, rfl⟩
theorem r03Lists_of (la lb : List Tm) (hlen : la.length < 1099511627776) (ih : ∀ a ∈ la, ∀ b ∈ lb, EVs (EV cfg) 151 [a.av, b.av] = some (.int .i64 (cmpT a b))) :
    EVs (EV cfg) 229 [.sl (rowsT la), .sl (rowsT lb)] = some (.int .i64 (cmpL la lb)) := by
  have stop : ∀ (c : Int) (i : Nat), c ≠ 0 → Gets (wy120_0 (rowsT la) (rowsT lb) c i) (· = .int .i64 c) := by
    intro c i hc
    refine wy120_0_step _ _ _ _ ?_
    rw [beqI, decide_eq_false hc]
    cases decide ((i : Int) < ((rowsT la).length : Int)) <;> exact ⟨_, rfl, rfl⟩
  have loop : la.length = lb.length → ∀ (d i : Nat), i + d = la.length → Gets (wy120_0 (rowsT la) (rowsT lb) 0 i) (· = .int .i64 (cmpE (la.drop i) (lb.drop i))) := by
    intro hl d
    induction d with
    | zero =>
      intro i hi
      refine wy120_0_step _ _ _ _ ?_
      rw [rowsT_length, decide_eq_false (by omega), List.drop_eq_nil_of_le (by omega), List.drop_eq_nil_of_le (by omega), cmpE_nil]
      exact ⟨_, rfl, rfl⟩
    | succ d ihd =>
      intro i hi
      have hil : i < la.length := by omega
      have hil' : i < lb.length := by omega
      have hx : la[i]? = some la[i] := List.getElem?_eq_getElem hil
      have hy : lb[i]? = some lb[i] := List.getElem?_eq_getElem hil'
      have h1 := ih _ (List.mem_of_getElem? hx) _ (List.mem_of_getElem? hy)
      refine wy120_0_step _ _ _ _ ?_
      rw [rowsT_length, rowsT_length, decide_eq_true (show (i : Int) < (la.length : Int) by omega), leInt_zero, ltInt_nat, ltInt_nat, decide_eq_true hil, decide_eq_true hil', rowsT_at hx, List.drop_eq_getElem_cons hil, List.drop_eq_getElem_cons hil', cmpE_cons, wrap_succ hil hlen]
      simp only [cond_true, Bool.and_self, length_cells, Nat.beq_refl, take_cells, kTmC_cells, ble44, beqI, decide_true, rowsT_at hy, av_unf, h1, kOptSome, kInt_int]
      by_cases h0 : cmpT la[i] lb[i] = 0
      · rw [h0, if_neg (by omega)]; exact ihd (i + 1) (by omega)
      · rw [if_pos h0]; exact stop _ _ h0
  apply Gets.get
  refine r03Lists_run _ _ ?_
  rw [r03Numbers_ev]
  simp only [kOptSome, kInt_int, rowsT_length]
  unfold cmpL
  by_cases h : numC la.length lb.length = 0
  · have hl := numC_zero.1 h
    rw [h, if_neg (by omega)]
    simpa using loop (by omega) la.length 0 (by omega)
  · rw [if_pos h]; exact stop _ 0 h
theorem r03Compare_ev : ∀ (n : Nat) (a b : Tm), a.w ≤ n → n < 1099511627776 → EVs (EV cfg) 151 [a.av, b.av] = some (.int .i64 (cmpT a b)) := by
  intro n
  induction n with
  | zero => intro a b h; have := w_pos a; omega
  | succ n ih =>
    intro a b hw hn
    obtain ⟨k, m, s, l⟩ := a
    obtain ⟨k', m', s', l'⟩ := b
    rw [Tm.w_mk] at hw
    have hlen := wL_len l
    have hl := r03Lists_of l l' (by omega) (fun x hx y _ => ih x y (by have := wL_mem hx; omega) (by omega))
    apply Gets.get
    rw [Tm.av_mk, Tm.av_mk]
    refine r03Compare_run _ _ _ _ _ _ _ _ ?_
    rw [cmpT_eq, r03Numbers_ev, r03Numbers_ev, r03Texts_ev, hl]
    simp only [kOptSome, kInt_int, beqI]
    have bne0 : ∀ z : Int, (z != 0) = !decide (z = 0) := fun z => by rw [bne, beqI]
    simp only [bne0]
    by_cases h : numC k k' = 0
    · rw [if_neg (by omega), decide_eq_true h]
      simp only [Bool.not_true, cond_false]
      by_cases h1 : k = 1
      · rw [if_pos (Or.inl h1), decide_eq_true h1]; exact ⟨_, rfl, rfl⟩
      rw [decide_eq_false h1, cond_false]
      by_cases h3 : k = 3
      · rw [if_pos (Or.inr (Or.inl h3)), decide_eq_true h3]; exact ⟨_, rfl, rfl⟩
      rw [decide_eq_false h3, cond_false]
      by_cases h4 : k = 4
      · rw [if_pos (Or.inr (Or.inr (Or.inl h4))), decide_eq_true h4]; exact ⟨_, rfl, rfl⟩
      rw [decide_eq_false h4, cond_false]
      by_cases h6 : k = 6
      · rw [if_pos (Or.inr (Or.inr (Or.inr h6))), decide_eq_true h6]; exact ⟨_, rfl, rfl⟩
      rw [decide_eq_false h6, cond_false, if_neg (by omega)]
      by_cases h2 : k = 2
      · rw [if_pos h2, decide_eq_true h2]; exact ⟨_, rfl, rfl⟩
      rw [decide_eq_false h2, cond_false, if_neg h2]
      by_cases h5 : k = 5
      · rw [if_pos h5, decide_eq_true h5, cond_true]
        by_cases hm : numC m m' = 0
        · rw [if_neg (by omega), decide_eq_true hm]; exact ⟨_, rfl, rfl⟩
        · rw [if_pos hm, decide_eq_false hm]; exact ⟨_, rfl, rfl⟩
      rw [decide_eq_false h5, cond_false, if_neg h5]
      by_cases h7 : k = 7
      · rw [if_pos (Or.inl h7), decide_eq_true h7]; exact ⟨_, rfl, rfl⟩
      rw [decide_eq_false h7, cond_false]
      by_cases h9 : k = 9
      · rw [if_pos (Or.inr h9), decide_eq_true h9]; exact ⟨_, rfl, rfl⟩
      rw [decide_eq_false h9, if_neg (by omega)]; exact ⟨_, rfl, rfl⟩
    · rw [if_pos h, decide_eq_false h]; exact ⟨_, rfl, rfl⟩
end Go.Proofs.YtkgkjngbfdnoiaaGreat
end

section
namespace Go.Proofs.YtkgkjngbfdnoiaaGreat
open Go.Av
theorem r17Kinds_ev {op : List UInt8} {t : Tm} {b : Bool} (h : (op, b) ∈ ([([105, 115, 95, 97, 116, 111, 109], decide (t.kind = 2)), ([105, 115, 95, 105, 110, 116, 101, 103, 101, 114], decide (t.kind = 1)), ([105, 115, 95, 108, 105, 115, 116], decide (t.kind = 9) || decide (t.kind = 8)), ([105, 115, 95, 116, 117, 112, 108, 101], decide (t.kind = 7)), ([105, 115, 95, 112, 105, 100], decide (t.kind = 6)), ([105, 115, 95, 102, 117, 110, 99, 116, 105, 111, 110], decide (t.kind = 5)), ([105, 115, 95, 114, 101, 102, 101, 114, 101, 110, 99, 101], decide (t.kind = 3) || decide (t.kind = 4))] : List (List UInt8 × Bool))) : EVs (EV cfg) 248 [.str op, t.av] = some (.bool b) := by
  apply Gets.get
  rw [Tm.av, Tm.cells_eq]
  refine r17Kinds_run _ _ _ _ _ ?_
  simp only [beqS, beqI]
  simp only [List.mem_cons, List.not_mem_nil, or_false, Prod.mk.injEq] at h
  rcases h with ⟨rfl, rfl⟩ | ⟨rfl, rfl⟩ | ⟨rfl, rfl⟩ | ⟨rfl, rfl⟩ | ⟨rfl, rfl⟩ | ⟨rfl, rfl⟩ | ⟨rfl, rfl⟩
  · exact ⟨_, rfl, rfl⟩
  · exact ⟨_, rfl, rfl⟩
  · show Gets (bif decide (t.kind = 9) then some (AV.bool true) else some (AV.bool (decide (t.kind = 8)))) _
    cases decide (t.kind = 9) <;> exact ⟨_, rfl, rfl⟩
  · exact ⟨_, rfl, rfl⟩
  · exact ⟨_, rfl, rfl⟩
  · exact ⟨_, rfl, rfl⟩
  · show Gets (bif decide (t.kind = 3) then some (AV.bool true) else some (AV.bool (decide (t.kind = 4)))) _
    cases decide (t.kind = 3) <;> exact ⟨_, rfl, rfl⟩
theorem r17Length_loop : ∀ (n : Nat) (t : Tm) (c : Nat), t.w ≤ n → t.chk = 0 → c + n < 1099511627776 → Gets (wy99_0 c t.kind t.num t.str (rowsT t.subs)) (fun v => ∃ m : Int, v = .tup [.int .i64 m, .bool (lenG t).isSome] ∧ ∀ x, lenG t = some x → m = (c + x : Nat)) := by
  intro n
  induction n with
  | zero => intro t c h; have := w_pos t; omega
  | succ n ih =>
    intro t c hw hc hn
    refine wy99_0_step _ _ _ _ _ ?_
    rw [beqI, beqI]
    by_cases h9 : t.kind = 9
    · obtain ⟨x, y, hs⟩ := cons_chk hc h9
      have hwe := t.w_eq
      rw [hs] at hwe
      simp only [wL_cons, wL_nil] at hwe
      have hy : y.chk = 0 := chk_sub hc (by rw [hs]; simp)
      have h := ih y (c + 1) (by omega) hy (by omega)
      rw [decide_eq_true h9, cond_true, hs, lt1T, get1T]
      simp only [cond_true, kOptSome, length_cells, Nat.beq_refl, take_cells, kTmC_cells, ble44]
      rw [wrap_succ (n := 1099511627775) (by omega) (by omega), lenG_cons h9 hs]
      refine Gets.mono h ?_
      rintro _ ⟨m, rfl, hm⟩
      refine ⟨m, by rw [Option.isSome_map], fun z hz => ?_⟩
      obtain ⟨q, hq, rfl⟩ := Option.map_eq_some_iff.1 hz
      rw [hm q hq]; omega
    · rw [decide_eq_false h9, cond_false]
      by_cases h8 : t.kind = 8
      · rw [decide_eq_true h8, lenG_nil h8]
        exact ⟨_, rfl, c, rfl, fun x hx => by cases hx; rfl⟩
      · rw [decide_eq_false h8, lenG_none h9 h8]
        exact ⟨_, rfl, c, rfl, fun x hx => by cases hx⟩
theorem r17Length_ev {t : Tm} (hc : t.chk = 0) : Gets (EVs (EV cfg) 246 [t.av]) (fun v => ∃ m : Int, v = .tup [.int .i64 m, .bool (lenG t).isSome] ∧ ∀ x, lenG t = some x → m = x) := by
  have hw := w_chk hc
  rw [Tm.av, Tm.cells_eq]
  refine r17Length_run _ _ _ _ ?_
  refine Gets.mono (r17Length_loop t.w t 0 (Nat.le_refl _) hc (by omega)) ?_
  rintro _ ⟨m, rfl, hm⟩
  exact ⟨m, rfl, fun x hx => by rw [hm x hx]; omega⟩
theorem kinds_step {op : List UInt8} {t : Tm} {b : Bool} {o : Option Tm} (h : (op, b) ∈ ([([105, 115, 95, 97, 116, 111, 109], decide (t.kind = 2)), ([105, 115, 95, 105, 110, 116, 101, 103, 101, 114], decide (t.kind = 1)), ([105, 115, 95, 108, 105, 115, 116], decide (t.kind = 9) || decide (t.kind = 8)), ([105, 115, 95, 116, 117, 112, 108, 101], decide (t.kind = 7)), ([105, 115, 95, 112, 105, 100], decide (t.kind = 6)), ([105, 115, 95, 102, 117, 110, 99, 116, 105, 111, 110], decide (t.kind = 5)), ([105, 115, 95, 114, 101, 102, 101, 114, 101, 110, 99, 101], decide (t.kind = 3) || decide (t.kind = 4))] : List (List UInt8 × Bool))) (ho : o = some (truthT b)) :
    Gets (kOpt (EVs (EV cfg) 248 [.str op, t.av]) fun (v : AV) => kBool v fun (b : Bool) => kOpt (EVf (EV cfg) 245 [.bool b]) fun (v : AV) => kTmV v fun (n n_1 : Int) (s : List UInt8) (rows : List (List AV)) => (some (AV.tup [.agg [.int .i64 n, .int .i64 n_1, .str s, .sl rows], .bool true]))) (RB o) := by
  rw [r17Kinds_ev h, ho]
  simp only [kOptSome, kBool_bool, r17Truth_ev, kTmV_av, av_unf]
  exact ⟨_, rfl, RB.of⟩
theorem within_rb {n : Int} {o : Option Tm} (ho : o = withinG n) : Gets (kOpt (EVf (EV cfg) 247 [.int .i64 n]) fun (v : AV) => kTup v fun (cs : List AV) => kCons cs fun (c : AV) (cs : List AV) => kAgg c fun (cs_1 : List AV) => kCons cs_1 fun (c : AV) (cs_2 : List AV) => kInt .i64 c fun (n : Int) => kCons cs_2 fun (c : AV) (cs_3 : List AV) => kInt .i64 c fun (n_1 : Int) => kCons cs_3 fun (c : AV) (cs_4 : List AV) => kStr c fun (s : List UInt8) => kCons cs_4 fun (c : AV) (cs_5 : List AV) => kSl c fun (rows : List (List AV)) => kNil cs_5 (kCons cs fun (c : AV) (cs : List AV) => kBool c fun (b : Bool) => kNil cs (some (AV.tup [.agg [.int .i64 n, .int .i64 n_1, .str s, .sl rows], .bool b])))) (RB o) := by
  subst ho
  refine Gets.mono (within_step n) ?_
  rintro _ rfl
  exact RB.of
theorem r17One_ev {op : List UInt8} (ho : (1 : Int) ∈ opsG op) {t : Tm} (hc : t.chk = 0) : Gets (EVf (EV cfg) 177 [.str op, t.av]) (RB (oneG op t)) := by
  have hl := r17Length_ev hc
  have hn := num_chk hc
  have hs := subs_chk hc
  have hwithin : ∀ n : Nat, n ≤ 4259840 → withinG (n : Int) = some (numT n) := fun n h => by
    unfold withinG
    rw [if_pos (show InB (n : Int) from ⟨by omega, by omega⟩)]
  have w1 : IntKind.wrap .i64 (0 - t.num) = -t.num := by rw [wrap64 (by omega) (by omega)]; omega
  have w2 : IntKind.wrap .i64 (-1 - t.num) = -1 - t.num := wrap64 (by omega) (by omega)
  have raise : Gets (some (tbR none)) (RB none) := ⟨_, rfl, RB.of⟩
  rw [Tm.av, Tm.cells_eq] at hl ⊢
  refine r17One_run _ _ _ _ _ ?_
  rw [← zeroT_av, tb_none, w1, w2, rowsT_length]
  simp only [av_unf, beqS, beqI]
  rw [av_unf] at hl
  have bnd : ∀ z : Int, (z != 0) = !decide (z = 0) := fun z => by rw [bne, beqI]
  have b9 : (t.kind != 9) = !decide (t.kind = 9) := by rw [bne, beqI]
  have b1 : (t.kind != 1) = !decide (t.kind = 1) := by rw [bne, beqI]
  rw [b9, b1]
  have size : Gets (some (AV.tup [.agg [.int .i64 1, .int .i64 (t.subs.length : Int), .str [], .sl []], .bool (decide (t.kind = 7))])) (RB (if t.kind = 7 then withinG t.subs.length else none)) := by
    rw [← numT_av, hwithin _ (by omega)]
    by_cases h7 : t.kind = 7
    · rw [if_pos h7, decide_eq_true h7]; exact ⟨_, rfl, _, rfl, fun x hx => by cases hx; rfl⟩
    · rw [if_neg h7, decide_eq_false h7]; exact ⟨_, rfl, _, rfl, fun x hx => by cases hx⟩
  have hop := ops1_in ho
  simp only [List.mem_cons, List.not_mem_nil, or_false] at hop
  rcases hop with rfl | rfl | rfl | rfl | rfl | rfl | rfl | rfl | rfl | rfl | rfl | rfl | rfl | rfl | rfl | rfl | rfl
  · exact kinds_step (b := decide (t.kind = 2)) (by simp) rfl
  · exact kinds_step (b := decide (t.kind = 1)) (by simp) rfl
  · exact kinds_step (b := decide (t.kind = 9) || decide (t.kind = 8)) (by simp) rfl
  · exact kinds_step (b := decide (t.kind = 7)) (by simp) rfl
  · exact kinds_step (b := decide (t.kind = 6)) (by simp) rfl
  · exact kinds_step (b := decide (t.kind = 5)) (by simp) rfl
  · exact kinds_step (b := decide (t.kind = 3) || decide (t.kind = 4)) (by simp) rfl
  · show Gets (kOpt (EVs (EV cfg) 237 [t.av]) _) (RB ((boolG t).map fun b => truthT (!b)))
    rw [r17Truths_ev]
    simp only [kOptSome, kTup, kCons, kBool_bool, kNil, r17Truth_ev, kTmV_av, av_unf]
    refine ⟨_, rfl, _, by rw [Option.isSome_map], fun x hx => ?_⟩
    obtain ⟨b, hb, rfl⟩ := Option.map_eq_some_iff.1 hx
    rw [hb]; rfl
  · show Gets (bif !decide (t.kind = 1) then some (tbR none) else kOpt (EVf (EV cfg) 247 [.int .i64 (-1 - t.num)]) fun (v : AV) => kTup v fun (cs : List AV) => kCons cs fun (c : AV) (cs : List AV) => kAgg c fun (cs_1 : List AV) => kCons cs_1 fun (c : AV) (cs_2 : List AV) => kInt .i64 c fun (n : Int) => kCons cs_2 fun (c : AV) (cs_3 : List AV) => kInt .i64 c fun (n_1 : Int) => kCons cs_3 fun (c : AV) (cs_4 : List AV) => kStr c fun (s : List UInt8) => kCons cs_4 fun (c : AV) (cs_5 : List AV) => kSl c fun (rows : List (List AV)) => kNil cs_5 (kCons cs fun (c : AV) (cs : List AV) => kBool c fun (b : Bool) => kNil cs (some (AV.tup [.agg [.int .i64 n, .int .i64 n_1, .str s, .sl rows], .bool b])))) (RB (if t.kind = 1 then withinG (-1 - t.num) else none))
    by_cases h : t.kind = 1
    · rw [decide_eq_true h, if_pos h]; exact within_rb rfl
    · rw [decide_eq_false h, if_neg h]; exact raise
  · show Gets (bif !decide (t.kind = 1) then some (tbR none) else bif decide (t.num < 0) then kOpt (EVf (EV cfg) 247 [.int .i64 (-t.num)]) fun (v : AV) => kTup v fun (cs : List AV) => kCons cs fun (c : AV) (cs : List AV) => kAgg c fun (cs_1 : List AV) => kCons cs_1 fun (c : AV) (cs_2 : List AV) => kInt .i64 c fun (n : Int) => kCons cs_2 fun (c : AV) (cs_3 : List AV) => kInt .i64 c fun (n_1 : Int) => kCons cs_3 fun (c : AV) (cs_4 : List AV) => kStr c fun (s : List UInt8) => kCons cs_4 fun (c : AV) (cs_5 : List AV) => kSl c fun (rows : List (List AV)) => kNil cs_5 (kCons cs fun (c : AV) (cs : List AV) => kBool c fun (b : Bool) => kNil cs (some (AV.tup [.agg [.int .i64 n, .int .i64 n_1, .str s, .sl rows], .bool b]))) else some (AV.tup [t.av, .bool true])) (RB (if t.kind = 1 then withinG (if t.num < 0 then -t.num else t.num) else none))
    by_cases h : t.kind = 1
    · obtain ⟨hi, he⟩ := int_chk hc h
      rw [decide_eq_true h, if_pos h]
      by_cases hz : t.num < 0
      · rw [decide_eq_true hz, if_pos hz]; exact within_rb rfl
      · rw [decide_eq_false hz, if_neg hz]
        unfold withinG
        rw [if_pos hi]
        exact ⟨_, rfl, _, rfl, fun x hx => by cases hx; exact he⟩
    · rw [decide_eq_false h, if_neg h]; exact raise
  · exact size
  · exact size
  · show Gets (bif !decide (t.kind = 9) then some (tbR none) else bif ltInt 0 (t.subs.length : Int) then kOpt (List.get?Internal (rowsT t.subs) 0) _ else none) (RB (if t.kind = 9 then t.subs[0]? else none))
    by_cases h : t.kind = 9
    · obtain ⟨x, y, hs⟩ := cons_chk hc h
      rw [decide_eq_true h, if_pos h, ← rowsT_length t.subs, hs, lt0T, get0T]
      simp only [Bool.not_true, cond_true, cond_false, kOptSome, length_cells, Nat.beq_refl, take_cells, kTmC_cells, ble44, av_unf]
      exact ⟨_, rfl, _, rfl, fun x hx => by cases hx; rfl⟩
    · rw [decide_eq_false h, if_neg h]; exact raise
  · show Gets (bif !decide (t.kind = 9) then some (tbR none) else bif ltInt 1 (t.subs.length : Int) then kOpt (List.get?Internal (rowsT t.subs) 1) _ else none) (RB (if t.kind = 9 then t.subs[1]? else none))
    by_cases h : t.kind = 9
    · obtain ⟨x, y, hs⟩ := cons_chk hc h
      rw [decide_eq_true h, if_pos h, ← rowsT_length t.subs, hs, lt1T, get1T]
      simp only [Bool.not_true, cond_true, cond_false, kOptSome, length_cells, Nat.beq_refl, take_cells, kTmC_cells, ble44, av_unf]
      exact ⟨_, rfl, _, rfl, fun x hx => by cases hx; rfl⟩
    · rw [decide_eq_false h, if_neg h]; exact raise
  · show Gets (kOpt (EVs (EV cfg) 246 [t.av]) _) (RB ((lenG t).bind fun n => withinG n))
    refine Gets.bind hl ?_
    rintro _ ⟨m, rfl, hm⟩
    simp only [kTup, kCons, kInt_int, kBool_bool, kNil]
    rw [← numT_av]
    cases hg : lenG t with
    | none => exact ⟨_, rfl, _, rfl, fun x hx => by cases hx⟩
    | some x =>
      have hx := lenG_le hg
      have hw := w_chk hc
      rw [Option.bind_some, hwithin x (by omega), hm x hg]
      exact ⟨_, rfl, _, rfl, fun x hx => by cases hx; rfl⟩
  · show Gets (bif !decide (t.kind = 1) then some (tbR none) else some (AV.tup [t.av, .bool true])) (RB (if t.kind = 1 then withinG t.num else none))
    by_cases h : t.kind = 1
    · obtain ⟨hi, he⟩ := int_chk hc h
      unfold withinG
      rw [decide_eq_true h, if_pos h, if_pos hi]
      exact ⟨_, rfl, _, rfl, fun x hx => by cases hx; exact he⟩
    · rw [decide_eq_false h, if_neg h]; exact raise
  · show Gets (bif !decide (t.kind = 1) then some (tbR none) else kOpt (EVf (EV cfg) 247 [.int .i64 (-t.num)]) fun (v : AV) => kTup v fun (cs : List AV) => kCons cs fun (c : AV) (cs : List AV) => kAgg c fun (cs_1 : List AV) => kCons cs_1 fun (c : AV) (cs_2 : List AV) => kInt .i64 c fun (n : Int) => kCons cs_2 fun (c : AV) (cs_3 : List AV) => kInt .i64 c fun (n_1 : Int) => kCons cs_3 fun (c : AV) (cs_4 : List AV) => kStr c fun (s : List UInt8) => kCons cs_4 fun (c : AV) (cs_5 : List AV) => kSl c fun (rows : List (List AV)) => kNil cs_5 (kCons cs fun (c : AV) (cs : List AV) => kBool c fun (b : Bool) => kNil cs (some (AV.tup [.agg [.int .i64 n, .int .i64 n_1, .str s, .sl rows], .bool b])))) (RB (if t.kind = 1 then withinG (-t.num) else none))
    by_cases h : t.kind = 1
    · rw [decide_eq_true h, if_pos h]; exact within_rb rfl
    · rw [decide_eq_false h, if_neg h]; exact raise
end Go.Proofs.YtkgkjngbfdnoiaaGreat
end

section
namespace Go.Proofs.YtkgkjngbfdnoiaaGreat
open Go.Av
theorem r17Bools_ev (op : List UInt8) (a b : Bool) : EVs (EV cfg) 250 [.str op, .bool a, .bool b] = some (.bool (
    if op = [97, 110, 100] then a && b else if op = [97, 110, 100, 97, 108, 115, 111] then a && b else if op = [111, 114] then a || b else if op = [111, 114, 101, 108, 115, 101] then a || b else a != b)) := by
  apply Gets.get
  refine r17Bools_run _ _ _ ?_
  simp only [beqS]
  repeat' first
    | exact ⟨_, rfl, rfl⟩
    | (split <;> rename_i h <;> simp only [h, decide_true, cond_true, decide_false, cond_false])
  all_goals cases a <;> cases b <;> exact ⟨_, rfl, rfl⟩
theorem cmp_stepR {op : List UInt8} {a b : Tm} {c : Bool} {o : Option Tm} (wa : a.w < 1099511627776) (hb : EVs (EV cfg) 249 [.str op, .int .i64 (cmpT a b)] = some (.bool c)) (ho : o = some (truthT c)) :
    Gets (kOpt (EVs (EV cfg) 151 [a.av, b.av]) fun (v : AV) => kInt .i64 v fun (n : Int) => kOpt (EVs (EV cfg) 249 [.str op, .int .i64 n]) fun (v : AV) => kBool v fun (b : Bool) => kOpt (EVf (EV cfg) 245 [.bool b]) fun (v : AV) => kTmV v fun (n n_1 : Int) (s : List UInt8) (rows : List (List AV)) => (some (AV.tup [.agg [.int .i64 n, .int .i64 n_1, .str s, .sl rows], .bool true]))) (RB o) := by
  rw [r03Compare_ev a.w a b (Nat.le_refl _) wa, ho]
  simp only [kOptSome, kInt_int, hb, kBool_bool, r17Truth_ev, kTmV_av, av_unf]
  exact ⟨_, rfl, RB.of⟩
theorem bool_stepR {op : List UInt8} {a b : Tm} {f : Bool → Bool → Bool} {o : Option Tm} (hf : ∀ x y, EVs (EV cfg) 250 [.str op, .bool x, .bool y] = some (.bool (f x y))) (ho : o = (boolG a).bind fun x => (boolG b).map fun y => truthT (f x y)) :
    Gets (kOpt (EVs (EV cfg) 237 [a.av]) fun (v : AV) => kTup v fun (cs : List AV) => kCons cs fun (c : AV) (cs : List AV) => kBool c fun (b_0 : Bool) => kCons cs fun (c : AV) (cs : List AV) => kBool c fun (b_1 : Bool) => kNil cs (kOpt (EVs (EV cfg) 237 [b.av]) fun (v : AV) => kTup v fun (cs : List AV) => kCons cs fun (c : AV) (cs : List AV) => kBool c fun (b_2 : Bool) => kCons cs fun (c : AV) (cs : List AV) => kBool c fun (b_3 : Bool) => kNil cs (kOpt (EVs (EV cfg) 250 [.str op, .bool b_0, .bool b_2]) fun (v : AV) => kBool v fun (b : Bool) => kOpt (EVf (EV cfg) 245 [.bool b]) fun (v : AV) => kTmV v fun (n n_1 : Int) (s : List UInt8) (rows : List (List AV)) => (bif b_1 then some (AV.tup [.agg [.int .i64 n, .int .i64 n_1, .str s, .sl rows], .bool b_3]) else some (AV.tup [.agg [.int .i64 n, .int .i64 n_1, .str s, .sl rows], .bool false]))))) (RB o) := by
  rw [r17Truths_ev, r17Truths_ev, ho]
  simp only [kOptSome, kTup, kCons, kBool_bool, kNil, hf, r17Truth_ev, kTmV_av, av_unf]
  cases boolG a with
  | none => exact ⟨_, rfl, _, rfl, fun x hx => by cases hx⟩
  | some x =>
    cases boolG b with
    | none => exact ⟨_, rfl, _, rfl, fun x hx => by cases hx⟩
    | some y => exact ⟨_, rfl, _, rfl, fun x hx => by cases hx; rfl⟩
theorem num_stepR {op : List UInt8} {a b : Tm} {o : Option Tm} (ha : a.chk = 0) (hb : b.chk = 0) (h : op ∈ ([[43], [45], [42], [98, 97, 110, 100], [98, 111, 114], [98, 120, 111, 114], [100, 105, 118], [114, 101, 109]] : List (List UInt8))) (ho : o = if a.kind = 1 ∧ b.kind = 1 then numbersG op a.num b.num else none) :
    Gets (bif !decide (a.kind = 1) then some (tbR none) else bif !decide (b.kind = 1) then some (tbR none) else kOpt (EVf (EV cfg) 251 [.str op, .int .i64 a.num, .int .i64 b.num]) fun (v : AV) => kTup v fun (cs : List AV) => kCons cs fun (c : AV) (cs : List AV) => kAgg c fun (cs_1 : List AV) => kCons cs_1 fun (c : AV) (cs_2 : List AV) => kInt .i64 c fun (n : Int) => kCons cs_2 fun (c : AV) (cs_3 : List AV) => kInt .i64 c fun (n_1 : Int) => kCons cs_3 fun (c : AV) (cs_4 : List AV) => kStr c fun (s : List UInt8) => kCons cs_4 fun (c : AV) (cs_5 : List AV) => kSl c fun (rows : List (List AV)) => kNil cs_5 (kCons cs fun (c : AV) (cs : List AV) => kBool c fun (b : Bool) => kNil cs (some (AV.tup [.agg [.int .i64 n, .int .i64 n_1, .str s, .sl rows], .bool b])))) (RB o) := by
  subst ho
  by_cases ka : a.kind = 1
  · by_cases kb : b.kind = 1
    · rw [decide_eq_true ka, decide_eq_true kb, if_pos ⟨ka, kb⟩, r17Numbers_ev h (inB_chk ha ka) (inB_chk hb kb)]
      simp only [Bool.not_true, cond_false, kOptSome, tbR_eq, kTB, av_unf]
      exact ⟨_, rfl, RB.of⟩
    · rw [decide_eq_true ka, decide_eq_false kb, if_neg (fun e => kb e.2)]; exact ⟨_, rfl, RB.of⟩
  · rw [decide_eq_false ka, if_neg (fun e => ka e.1)]; exact ⟨_, rfl, RB.of⟩
theorem r17Two_ev {op : List UInt8} (hop : (2 : Int) ∈ opsG op) {a b : Tm} (ha : a.chk = 0) (hb : b.chk = 0) : Gets (EVf (EV cfg) 178 [.str op, a.av, b.av]) (RB (twoG op a b)) := by
  have wa : a.w < 1099511627776 := by have := w_chk ha; omega
  have na := num_chk ha
  have sb := subs_chk hb
  rw [Tm.av, Tm.av, Tm.cells_eq a, Tm.cells_eq b]
  refine r17Two_run _ _ _ _ _ _ _ _ _ ?_
  have b1 : (a.kind != 1) = !decide (a.kind = 1) := by rw [bne, beqI]
  have b2 : (b.kind != 1) = !decide (b.kind = 1) := by rw [bne, beqI]
  have b7 : (b.kind != 7) = !decide (b.kind = 7) := by rw [bne, beqI]
  have w1 : IntKind.wrap .i64 (a.num - 1) = a.num - 1 := wrap64 (by omega) (by omega)
  rw [← zeroT_av, tb_none, b1, b2, b7, w1, rowsT_length]
  simp only [av_unf, beqS]
  have h := ops2_in hop
  simp only [List.mem_cons, List.not_mem_nil, or_false] at h
  rcases h with rfl | rfl | rfl | rfl | rfl | rfl | rfl | rfl | rfl | rfl | rfl | rfl | rfl | rfl | rfl | rfl | rfl | rfl | rfl | rfl | rfl | rfl
  · exact num_stepR ha hb (by simp) rfl
  · exact num_stepR ha hb (by simp) rfl
  · exact cmp_stepR (c := decide (cmpT a b = 0)) wa (r17Compares_ev _ _) rfl
  · exact cmp_stepR (c := decide (cmpT a b = 0)) wa (r17Compares_ev _ _) rfl
  · exact cmp_stepR (c := !decide (cmpT a b = 0)) wa (r17Compares_ev _ _) rfl
  · exact cmp_stepR (c := !decide (cmpT a b = 0)) wa (r17Compares_ev _ _) rfl
  · exact cmp_stepR (c := decide (cmpT a b < 0)) wa (r17Compares_ev _ _) rfl
  · exact cmp_stepR (c := decide (cmpT a b ≤ 0)) wa (r17Compares_ev _ _) rfl
  · exact cmp_stepR (c := decide (cmpT a b > 0)) wa (r17Compares_ev _ _) rfl
  · exact cmp_stepR (c := decide (cmpT a b ≥ 0)) wa (r17Compares_ev _ _) rfl
  · exact bool_stepR (f := fun x y => x && y) (fun x y => r17Bools_ev _ _ _) rfl
  · exact bool_stepR (f := fun x y => x || y) (fun x y => r17Bools_ev _ _ _) rfl
  · exact bool_stepR (f := fun x y => x != y) (fun x y => r17Bools_ev _ _ _) rfl
  · exact bool_stepR (f := fun x y => x && y) (fun x y => r17Bools_ev _ _ _) rfl
  · exact bool_stepR (f := fun x y => x || y) (fun x y => r17Bools_ev _ _ _) rfl
  · exact num_stepR ha hb (by simp) rfl
  · exact num_stepR ha hb (by simp) rfl
  · exact num_stepR ha hb (by simp) rfl
  · exact num_stepR ha hb (by simp) rfl
  · exact num_stepR ha hb (by simp) rfl
  · exact num_stepR ha hb (by simp) rfl
  · show Gets (bif !decide (a.kind = 1) then some (tbR none) else bif !decide (b.kind = 7) then some (tbR none) else bif decide (a.num < 1) then some (tbR none) else bif decide (a.num > (b.subs.length : Int)) then some (tbR none) else bif leInt 0 (a.num - 1) && ltInt (a.num - 1) (b.subs.length : Int) then kOpt (List.get?Internal (rowsT b.subs) (Int.toNat (a.num - 1))) _ else none) (RB (if a.kind = 1 ∧ 1 ≤ a.num ∧ b.kind = 7 ∧ a.num ≤ b.subs.length then b.subs[(a.num - 1).toNat]? else none))
    by_cases k1 : a.kind = 1
    · by_cases k7 : b.kind = 7
      · by_cases l1 : a.num < 1
        · rw [decide_eq_true k1, decide_eq_true k7, decide_eq_true l1, if_neg (fun e => by omega)]; exact ⟨_, rfl, RB.of⟩
        · by_cases l2 : a.num > (b.subs.length : Int)
          · rw [decide_eq_true k1, decide_eq_true k7, decide_eq_false l1, decide_eq_true l2, if_neg (fun e => by omega)]; exact ⟨_, rfl, RB.of⟩
          · have hi : (a.num - 1).toNat < b.subs.length := by omega
            have hx : b.subs[(a.num - 1).toNat]? = some b.subs[(a.num - 1).toNat] := List.getElem?_eq_getElem hi
            have e1 : leInt 0 (a.num - 1) = true := decide_eq_true (by omega)
            have e2 : ltInt (a.num - 1) (b.subs.length : Int) = true := decide_eq_true (by omega)
            rw [decide_eq_true k1, decide_eq_true k7, decide_eq_false l1, decide_eq_false l2, if_pos ⟨k1, by omega, k7, by omega⟩, e1, e2, hx, get?Internal_eq, rowsT_get, hx]
            simp only [Bool.not_true, cond_false, cond_true, Bool.and_self, Option.map_some, kOptSome, length_cells, Nat.beq_refl, take_cells, kTmC_cells, ble44, av_unf]
            exact ⟨_, rfl, RB.of⟩
      · rw [decide_eq_true k1, decide_eq_false k7, if_neg (fun e => k7 e.2.2.1)]; exact ⟨_, rfl, RB.of⟩
    · rw [decide_eq_false k1, if_neg (fun e => k1 e.1)]; exact ⟨_, rfl, RB.of⟩
theorem rb_norm {o : Option Tm} {v : AV} (h : RB o v) : Gets (kTup v fun (cs : List AV) => kCons cs fun (c : AV) (cs : List AV) => kAgg c fun (cs_1 : List AV) => kCons cs_1 fun (c : AV) (cs_2 : List AV) => kInt .i64 c fun (n : Int) => kCons cs_2 fun (c : AV) (cs_3 : List AV) => kInt .i64 c fun (n_2 : Int) => kCons cs_3 fun (c : AV) (cs_4 : List AV) => kStr c fun (s : List UInt8) => kCons cs_4 fun (c : AV) (cs_5 : List AV) => kSl c fun (rows : List (List AV)) => kNil cs_5 (kCons cs fun (c : AV) (cs : List AV) => kBool c fun (b : Bool) => kNil cs (bif !b then some (AV.tup [zeroT.av, .bool false]) else some (AV.tup [.agg [.int .i64 n, .int .i64 n_2, .str s, .sl rows], .bool true])))) (· = tbR o) := by
  obtain ⟨t, rfl, h⟩ := h
  rw [kTB, av_unf]
  cases o with
  | none => exact ⟨_, rfl, rfl⟩
  | some x => rw [h x rfl]; exact ⟨_, rfl, rfl⟩
theorem r17Apply_ev {op : List UInt8} {l : List Tm} (hop : (l.length : Int) ∈ opsG op) (hl : ∀ x ∈ l, x.chk = 0) (hlen : l.length ≤ 2) (self : Int) :
    EVf (EV cfg) 96 [.str op, .sl (rowsT l), .int .i64 self] = some (tbR (applyG op l self)) := by
  apply Gets.get
  refine r17Apply1_run _ _ _ ?_
  rw [← zeroT_av]
  match l, hop, hl, hlen with
  | [], _, _, _ =>
    refine ⟨_, rfl, ?_⟩
    show _ = AV.tup [(Tm.mk 6 self [] []).av, .bool true]
    rw [Tm.av_mk, rowsT_nil]
  | [a], hop, hl, _ =>
    have h1 := r17One_ev hop (hl a (by simp))
    rw [lt0T, get0T, rowsT_length]
    simp only [List.length_cons, List.length_nil, beqI, show decide (((0 + 1 : Nat) : Int) = 1) = true from rfl, cond_true, kOptSome, length_cells, Nat.beq_refl, take_cells, kTmC_cells, ble44, av_unf]
    exact Gets.bind h1 fun v h => rb_norm h
  | [a, b], hop, hl, _ =>
    have h1 := r17Two_ev hop (hl a (by simp)) (hl b (by simp))
    rw [lt0T, get0T, lt1T, get1T, rowsT_length]
    simp only [List.length_cons, List.length_nil, beqI, show decide (((0 + 1 + 1 : Nat) : Int) = 1) = false from rfl, show decide (((0 + 1 + 1 : Nat) : Int) = 2) = true from rfl, cond_true, cond_false, kOptSome, length_cells, Nat.beq_refl, take_cells, kTmC_cells, ble44, av_unf]
    exact Gets.bind h1 fun v h => rb_norm h
  | _ :: _ :: _ :: _, _, _, h => simp at h
end Go.Proofs.YtkgkjngbfdnoiaaGreat
end

section
namespace Go.Proofs.YtkgkjngbfdnoiaaGreat
open Go.Av
def envR (o : Tm) (L : List (Int × Tm)) (self : Int) : AV := .agg [.int .i64 o.kind, .int .i64 o.num, .str o.str, .sl (rowsT o.subs), .sl (bindsR L), .int .i64 self]
end Go.Proofs.YtkgkjngbfdnoiaaGreat
end

section
namespace Go.Av
theorem mR_row (e : Env) (b : Bool) : List.get?Internal (mR e b) 0 = some [.int .i64 e.obj.kind, .int .i64 e.obj.num, .str e.obj.str, .sl (rowsT e.obj.subs), .sl (bindsR e.binds), .int .i64 e.self, .bool b] := rfl
theorem mR_bad (e : Env) (b : Bool) : List.get?Internal [AV.int .i64 e.obj.kind, .int .i64 e.obj.num, .str e.obj.str, .sl (rowsT e.obj.subs), .sl (bindsR e.binds), .int .i64 e.self, .bool b] 6 = some (.bool b) := rfl
theorem opsG_two (op : List UInt8) {n : Nat} (h : (n : Int) ∈ opsG op) : n ≤ 2 := by
  have : ∀ (l : List (List UInt8 × List Int)), (∀ p ∈ l, ∀ x ∈ p.2, x ≤ 2) → ∀ x ∈ lookS op [] l, x ≤ 2 := by
    intro l
    induction l with
    | nil => intro _ x hx; simp [lookS] at hx
    | cons p l ih =>
      intro h x hx
      rw [lookS] at hx
      cases hp : op == p.1
      · rw [hp] at hx; exact ih (fun q hq => h q (by simp [hq])) x hx
      · rw [hp] at hx; exact h p (by simp) x hx
  have := this opsTab (by decide) _ h
  omega
theorem ite_w {c : Prop} [Decidable c] {x y : Option Tm} {P : Tm → Prop} (h1 : ∀ t, x = some t → P t) (h2 : ∀ t, y = some t → P t) : ∀ t, (if c then x else y) = some t → P t := by
  intro t h
  by_cases hc : c
  · rw [if_pos hc] at h; exact h1 t h
  · rw [if_neg hc] at h; exact h2 t h
theorem w_truthT (b : Bool) : (truthT b).w < 1099511627776 := by have := w_chk (truthT_chk b); omega
theorem w_withinG {n : Int} {v : Tm} (h : withinG n = some v) : v.w < 1099511627776 := by have := w_chk (withinG_chk h); omega
theorem oneG_w {op : List UInt8} {t : Tm} (hc : t.chk = 0) : ∀ v, oneG op t = some v → v.w < 1099511627776 := by
  have tr : ∀ b : Bool, ∀ v, some (truthT b) = some v → v.w < 1099511627776 := fun b v h => by cases h; exact w_truthT _
  have sub : ∀ i : Nat, ∀ v, t.subs[i]? = some v → v.w < 1099511627776 := fun i v h => by have := w_chk (chk_sub hc (List.mem_of_getElem? h)); omega
  have wi : ∀ n : Int, ∀ v, withinG n = some v → v.w < 1099511627776 := fun n v h => w_withinG h
  have no : ∀ v, (none : Option Tm) = some v → v.w < 1099511627776 := fun v h => by cases h
  have bo : ∀ v, ((boolG t).map fun b => truthT (!b)) = some v → v.w < 1099511627776 := fun v h => by obtain ⟨_, _, rfl⟩ := Option.map_eq_some_iff.1 h; exact w_truthT _
  have ln : ∀ v, ((lenG t).bind fun n => withinG n) = some v → v.w < 1099511627776 := fun v h => by obtain ⟨_, _, h⟩ := Option.bind_eq_some_iff.1 h; exact w_withinG h
  unfold oneG
  repeat' first
    | exact tr _
    | exact wi _
    | exact no
    | exact sub _
    | exact bo
    | exact ln
    | refine ite_w ?_ ?_
theorem numbersG_w {op : List UInt8} {a b : Int} {v : Tm} (h : numbersG op a b = some v) : v.w < 1099511627776 := by
  obtain ⟨_, n, rfl⟩ := numbersG_ok h
  rw [numT, Tm.w_mk]; simp
theorem twoG_w {op : List UInt8} {a b : Tm} (hb : b.chk = 0) : ∀ v, twoG op a b = some v → v.w < 1099511627776 := by
  have tr : ∀ c : Bool, ∀ v, some (truthT c) = some v → v.w < 1099511627776 := fun b v h => by cases h; exact w_truthT _
  have bo : ∀ f : Bool → Bool → Bool, ∀ v, ((boolG a).bind fun x => (boolG b).map fun y => truthT (f x y)) = some v → v.w < 1099511627776 := by
    intro f v h
    obtain ⟨_, _, h⟩ := Option.bind_eq_some_iff.1 h
    obtain ⟨_, _, rfl⟩ := Option.map_eq_some_iff.1 h
    exact w_truthT _
  have no : ∀ v, (none : Option Tm) = some v → v.w < 1099511627776 := fun v h => by cases h
  have sub : ∀ i : Nat, ∀ v, b.subs[i]? = some v → v.w < 1099511627776 := fun i v h => by have := w_chk (chk_sub hb (List.mem_of_getElem? h)); omega
  have nu : ∀ v, numbersG op a.num b.num = some v → v.w < 1099511627776 := fun v h => numbersG_w h
  unfold twoG
  repeat' first
    | exact tr _
    | exact bo (fun x y => x && y)
    | exact bo (fun x y => x || y)
    | exact bo (fun x y => x != y)
    | exact no
    | exact sub _
    | exact nu
    | refine ite_w ?_ ?_
theorem applyG_w {op : List UInt8} {l : List Tm} {self : Int} {v : Tm} (hl : ∀ x ∈ l, x.chk = 0) (hlen : l.length ≤ 2) (h : applyG op l self = some v) : v.w < 1099511627776 := by
  match l, hl, hlen with
  | [], _, _ => cases h; rw [Tm.w_mk]; simp
  | [a], hl, _ => exact oneG_w (hl a (by simp)) _ h
  | [a, b], hl, _ => exact twoG_w (hl b (by simp)) _ h
  | _ :: _ :: _ :: _, _, h => simp at h
end Go.Av
namespace Go.Proofs.YtkgkjngbfdnoiaaGreat
open Go.Av
end Go.Proofs.YtkgkjngbfdnoiaaGreat
end

section
namespace Go.Av
theorem kChain {α : Type} (t : Tm) (K : Int → Int → List UInt8 → List (List AV) → Option α) : (kCons t.cells fun (c : AV) (cs : List AV) => kInt .i64 c fun (n : Int) => kCons cs fun (c : AV) (cs : List AV) => kInt .i64 c fun (n_1 : Int) => kCons cs fun (c : AV) (cs : List AV) => kStr c fun (s : List UInt8) => kCons cs fun (c : AV) (cs : List AV) => kSl c fun (rows : List (List AV)) => kNil cs (K n n_1 s rows)) = K t.kind t.num t.str (rowsT t.subs) := kTmC_cells t K
end Go.Av
namespace Go.Proofs.YtkgkjngbfdnoiaaGreat
open Go.Av
theorem r17Self_ev (n : Int) : EVs (EV cfg) 94 [.int .i64 n] = some (.bool (selfG n)) := by
  apply Gets.get
  refine r17Self_run _ ?_
  unfold selfG
  by_cases h : 1 ≤ n
  · rw [decide_eq_true (show n ≥ 1 from h)]; exact ⟨_, rfl, rfl⟩
  · rw [decide_eq_false (show ¬ n ≥ 1 from h)]; exact ⟨_, rfl, rfl⟩
theorem r02Copy_ev (t : Tm) : t.w < 1099511627776 → EVf (EV cfg) 76 [t.av] = some t.av := by
  induction t using Tm.ind with
  | _ k n s l ih =>
    intro hw
    rw [Tm.w_mk] at hw
    have hlen := wL_len l
    have ih' : ∀ x ∈ l, EVf (EV cfg) 76 [x.av] = some x.av := fun x hx => ih x hx (by have := wL_mem hx; omega)
    have loop : ∀ d i : Nat, i + d = l.length → Gets (wy30_0 i i k n s (rowsT l) 0 0 [] [] (rowsT (l.take i))) (· = (Tm.mk k n s l).av) := by
      intro d
      induction d with
      | zero =>
        intro i hi
        refine wy30_0_step _ _ _ _ _ _ _ _ _ _ _ ?_
        obtain rfl : i = l.length := by omega
        have hb : Nat.ble (0 + l.length) (rowsT l).length = true := by rw [Nat.ble_eq, rowsT_length]; omega
        have ht : List.take l.length (rowsT l) = rowsT l := List.take_of_length_le (by rw [rowsT_length]; omega)
        rw [rowsT_length, decide_eq_false (by omega), List.take_length, hb, ht, Tm.av_mk]
        exact ⟨_, rfl, rfl⟩
      | succ d ihd =>
        intro i hi
        have hil : i < l.length := by omega
        refine wy30_0_step _ _ _ _ _ _ _ _ _ _ _ ?_
        have hx : l[i]? = some l[i] := List.getElem?_eq_getElem hil
        have h1 := ih' l[i] (List.mem_of_getElem? hx)
        have h2 := ihd (i + 1) (by omega)
        have e1 : l.take (i + 1) = l.take i ++ [l[i]] := by rw [List.take_add_one, hx]; rfl
        have ht : (rowsT (l.take i)).length = i := by rw [rowsT_length, List.length_take]; omega
        have e2 : List.append (List.take i (rowsT (l.take i))) [l[i].cells] = rowsT (l.take (i + 1)) := by
          rw [List.take_of_length_le (by omega), e1, rowsT_append, rowsT_cons, rowsT_nil]; rfl
        have e3 : Nat.ble (0 + i) (rowsT (l.take i)).length = true := by rw [ht, Nat.ble_eq]; omega
        rw [rowsT_length, decide_eq_true (show (i : Int) < (l.length : Int) by omega), leInt_zero, ltInt_nat, decide_eq_true hil, rowsT_at hx, wrap_succ (n := l.length) hil (by omega), e3, fits56 (by omega)]
        simp only [cond_true, Bool.and_self, length_cells, Nat.beq_refl, take_cells, kTmC_cells, show Nat.ble 4 4 = true from rfl, av_unf, h1, kOptSome, kTmV_av]
        rw [← Tm.cells_eq, e2]
        exact h2
    apply Gets.get
    rw [Tm.av_mk]
    refine r02Copy_run _ _ _ _ ?_
    rw [← Tm.av_mk]
    exact (by simpa [rowsT_nil] using loop l.length 0 (by omega))
end Go.Proofs.YtkgkjngbfdnoiaaGreat
end

section
namespace Go.Av
theorem termRow_cells (t : Tm) : termRow t.cells = true := by obtain ⟨k, n, s, l⟩ := t; rw [Tm.cells_mk]; rfl
end Go.Av
namespace Go.Proofs.YtkgkjngbfdnoiaaGreat.R
open Go.Av
theorem overE_ev (k n : Int) (s : List UInt8) : EVz (EV cfg) 20 (.agg [.int .i64 k, .int .i64 n, .str s, .sl []]) = some () := by
  apply Gets.get
  refine overE_run k n s ?_
  refine wra20_0a_step _ _ _ _ _ ?_
  exact ⟨_, rfl, rfl⟩
theorem overT_ev (t : Tm) : t.Ok → EVz (EV cfg) 20 (avR 0 t) = some () := by
  induction t using Tm.ind with
  | _ k n s l ih =>
    intro hok
    have hlen := hok.len
    have loop : ∀ (d i : Nat), i + d = l.length → Gets (wra20_0 (rowsT l) i k n s) (· = ()) := by
      intro d
      induction d with
      | zero =>
        intro i hi
        refine wra20_0_step _ _ _ _ _ ?_
        rw [rowsT_length, decide_eq_false (by omega)]
        exact ⟨_, rfl, rfl⟩
      | succ d ihd =>
        intro i hi
        refine wra20_0_step _ _ _ _ _ ?_
        have hil : i < l.length := by omega
        have hx : l[i]? = some l[i] := List.getElem?_eq_getElem hil
        have h1 := ih l[i] (List.mem_of_getElem? hx) (hok.sub (List.mem_of_getElem? hx))
        unfold avR at h1
        have h := ihd (i + 1) (by omega)
        rw [rowsT_length, decide_eq_true (show (i : Int) < (l.length : Int) by omega), leInt_zero, ltInt_nat, decide_eq_true hil, rowsT_at hx, wrap_succ hil hlen]
        simp only [cond_true, Bool.and_self, length_cells, Nat.beq_refl, kChain, h1, overE_ev, kOptSome, rowsT_at hx, termRow_cells, Bool.and_true]
        exact h.mono fun _ _ => trivial
    apply Gets.get
    unfold avR
    exact overT_run k n s (rowsT l) (loop l.length 0 (by omega))
end Go.Proofs.YtkgkjngbfdnoiaaGreat.R
end

section
namespace Go.Proofs.YtkgkjngbfdnoiaaGreat.R
open Go.Av Go.ChangeShapes Go.WideShapes Go.ChangeAt Go.RowKit
set_option maxRecDepth 100000
theorem copy_ok [Lent] {args : List AV} {H H' : AH} {r : AV} {C : Claims} {μ : MMap} {w : World} {vs : Array Value} (hr : extCopy args H = some (r, H')) (ha : FrRep C μ args vs) (hw : Wld C μ H w) :
    CallR Tryz.prog (callFunc 71 vs) w (Post1 C μ H w r H') := by
  unfold extCopy at hr
  split at hr
  case h_2 => cases hr
  rename_i a b c rows
  split at hr
  case isFalse => cases hr
  rename_i hx
  obtain ⟨t, hok, ht⟩ := hx
  cases hr
  have hμ : μ = fun _ => none := by
    funext id
    cases hm : μ id with
    | none => rfl
    | some m => have := hw.dom id m hm; simp at this
  subst hμ
  have e2 : avR 0 t = .agg [a, b, c, .rsl 0 rows] := by
    obtain ⟨k, n, s, l⟩ := t
    rw [Tm.av_mk] at ht
    simp only [AV.agg.injEq, List.cons.injEq, AV.sl.injEq, and_true] at ht
    obtain ⟨rfl, rfl, rfl, rfl⟩ := ht
    rfl
  have h := copy_reg hok hw (by rw [ht]; exact ha)
  rw [e2] at h
  exact h
theorem cfg_ok [Lent] : CfgOk cfg where
  ty := ⟨fun t ti h => BT.all_look tys_ok h⟩
  mixed := mixed_ok
  named := fun f fn _ h => named_ok f fn h
  ext := fun f s h args H r H' hr C μ w vs ha hw => by
    have h : ext f = some s := h
    unfold ext at h
    split at h
    · rename_i s' hs
      cases h
      unfold xL at hs
      rw [lookN] at hs
      split at hs
      · rename_i e
        have e := Nat.eq_of_beq_eq_true e
        subst e
        cases hs
        exact copy_ok hr ha hw
      · cases hs
    · split at h
      · cases h
        exact (EV_sound Go.Proofs.YtkgkjngbfdnoiaaGreat.cfg_ok).calls _ _ _ _ _ hr C μ w vs _ ha hw rfl
      · exact Go.Proofs.YtkgkjngbfdnoiaaGreat.cfg_ok.ext f s h args H r H' hr C μ w vs ha hw
theorem row_calls {f : FuncId} {args : List AV} {vs : Array Value} {W : World} (hx : cfg.ext f = none) (he : EVs (EV cfg) f args = some (.bool true)) (ha : FrRep (C0 W) M0 args vs) :
    Calls Tryz.prog f vs W fun e W' => e = .returned (.bool true) ∧ (∀ b, b < W.heap.size → W'.heap[b]? = W.heap[b]?) ∧ W.heap.size ≤ W'.heap.size ∧ W'.os = W.os ∧ W'.output = W.output := by
  unfold EVs at he
  obtain ⟨q, h1, h2⟩ := Option.map_eq_some_iff.1 he
  have := EV_calls cfg_ok hx (r := q.1) (H' := q.2) h1 ha (wld0 W)
  refine this.mono fun e W' ⟨v, hv, C', μ', p1, p2, p3⟩ => ?_
  rw [h2] at p1
  cases p1
  refine ⟨hv, fun b hb => (p3.fr b hb not_live_nil).1, p3.size, p3.os, p3.output⟩
theorem copyR_ev {t : Tm} (h : t.Ok) : EVg (EV cfg) 71 [t.av] = some t.av := by
  obtain ⟨k, n, s, l⟩ := t
  have e : EV cfg (.f 71) [(Tm.mk k n s l).av] [] = some (avR 0 (.mk k n s l), [.reg]) := by
    refine EV_of ?_
    unfold evBody
    have hx : cfg.ext 71 = some extCopy := rfl
    simp only [hx]
    rw [Tm.av_mk]
    show extCopy [.agg [.int .i64 k, .int .i64 n, .str s, .sl (rowsT l)]] [] = _
    exact if_pos ⟨_, h, Tm.av_mk k n s l⟩
  unfold EVg
  rw [e, Tm.av_mk]
  rfl
end Go.Proofs.YtkgkjngbfdnoiaaGreat.R
end

section
namespace Go.Proofs.YtkgkjngbfdnoiaaGreat
open Go.Av
theorem r17May_ev (op : List UInt8) (n : Int) : EVs (EV cfg) 93 [.str op, .int .i64 n] = some (.bool (decide (n ∈ opsG op))) := by
  have hl := opsG_len op
  have loop : ∀ d i : Nat, i + d = (opsG op).length → Gets (wu58_0 n (intsR (opsG op)) i) (· = .bool (decide (n ∈ (opsG op).drop i))) := by
    generalize opsG op = l at hl
    intro d
    induction d with
    | zero =>
      intro i hi
      refine wu58_0_step _ _ _ ?_
      rw [intsR_len, decide_eq_false (by omega), List.drop_eq_nil_of_le (by omega)]
      exact ⟨_, rfl, by simp⟩
    | succ d ih =>
      intro i hi
      have hil : i < l.length := by omega
      refine wu58_0_step _ _ _ ?_
      have hx : l[i]? = some l[i] := List.getElem?_eq_getElem hil
      have hd : l.drop i = l[i] :: l.drop (i + 1) := List.drop_eq_getElem_cons hil
      have h := ih (i + 1) (by omega)
      rw [intsR_len, decide_eq_true (show (i : Int) < (l.length : Int) by omega), leInt_zero, ltInt_nat, decide_eq_true hil, get?Internal_eq, Int.toNat_natCast, intsR_get, hx, wrap_succ hil hl, hd]
      by_cases he : l[i] = n
      · refine ⟨.bool true, ?_, ?_⟩
        · simp [he]
        · rw [he]; simp
      · have hne : (l[i] == n) = false := by rw [beqI]; exact decide_eq_false he
        have hm : decide (n ∈ l[i] :: l.drop (i + 1)) = decide (n ∈ l.drop (i + 1)) := decide_eq_decide.2 (by rw [List.mem_cons]; exact ⟨fun h => h.resolve_left (fun e => he e.symm), Or.inr⟩)
        rw [hm]
        simpa [hne] using h
  apply Gets.get
  refine r17May_run _ _ ?_
  rw [r17Ops_ev]
  exact (by simpa using loop (opsG op).length 0 (by omega))
end Go.Proofs.YtkgkjngbfdnoiaaGreat
end

section
namespace Go.Av
def evalR (r : Tm × Int) : AV := .tup [r.1.av, .int .i64 r.2]
theorem kEvalR {α : Type} (t : Tm) (x : Int) (K : Int → Int → List UInt8 → List (List AV) → Int → Option α) : (kTup (.tup [t.av, .int .i64 x]) fun cs => kCons cs fun c cs => kAgg c fun cs_1 => kCons cs_1 fun c cs_2 => kInt .i64 c fun n => kCons cs_2 fun c cs_3 => kInt .i64 c fun n_1 => kCons cs_3 fun c cs_4 => kStr c fun s => kCons cs_4 fun c cs_5 => kSl c fun rows => kNil cs_5 (kCons cs fun c cs => kInt .i64 c fun m => kNil cs (K n n_1 s rows m))) = K t.kind t.num t.str (rowsT t.subs) x := by
  obtain ⟨k, n, s, l⟩ := t
  rw [Tm.av_mk]; rfl
structure EnvW (e : Env) : Prop where
  obj : e.obj.w < 1099511627776
  len : e.binds.length < 1099511627776
  binds : ∀ p ∈ e.binds, p.2.w < 1099511627776
end Go.Av
namespace Go.Proofs.YtkgkjngbfdnoiaaGreat
open Go.Av
end Go.Proofs.YtkgkjngbfdnoiaaGreat
end

section
namespace Go.Proofs.YtkgkjngbfdnoiaaGreat
open Go.Av
set_option maxRecDepth 100000
set_option maxHeartbeats 0

noncomputable def Lq67_0 : Den := evC cfg (EV cfg) 26 none 0 (sub (bodyOf Tryz.f26) [1, 1, 0, 1, 0, 0])
noncomputable def Aq67_0 : Ex × List AV × AH → Option AV := kAft (Cfg.keepOut cfg 26 4) (kRun cfg (EV cfg) (kfN cfg 6) 26 none 0 (kFinS cfg (Cfg.lift cfg 26 0) Tryz.f26.results.toList) ([.block 0, .seq (sub (bodyOf Tryz.f26) [1, 1, 1])]))
noncomputable def Wq67_0 : List AV × AH → Option AV := fun p => kOpt (LOOP 0 (some [0, 1, 5]) ([]) Lq67_0 p) Aq67_0
noncomputable def Lq59_0 : Den := evC cfg (EV cfg) 23 none 0 (sub (bodyOf Tryz.f23) [1, 1, 0, 1, 0, 0])
noncomputable def Aq59_0 : Ex × List AV × AH → Option OV := kAft (Cfg.keepOut cfg 23 3) (kRun cfg (EV cfg) (kfN cfg 6) 23 none 0 (kFinO cfg (Cfg.lift cfg 23 0) Tryz.f23.results.toList) ([.block 0, .seq (sub (bodyOf Tryz.f23) [1, 1, 1])]))
noncomputable def Wq59_0 : List AV × AH → Option OV := fun p => kOpt (LOOP 0 (some [0, 3, 4]) ([(3, 4)]) Lq59_0 p) Aq59_0
noncomputable abbrev wq67_0 (A : List (List AV)) (B : List (List AV)) (v5 : Int) : Option (AV) := Wq67_0  (((fx 27 [(0, AV.sl A), (1, AV.sl B), (5, AV.int IntKind.i64 v5)]) : List AV), ([] : AH))
noncomputable abbrev wq59_0 (A : List (List AV)) (nv3 : Nat) (v4 : Int) (h0 : List (List AV)) : Option (OV) := Wq59_0  (((fx 20 [(0, AV.sl A), (3, AV.ms (0 : Nat) (0 : Nat) nv3), (4, AV.int IntKind.i64 v4)]) : List AV), ([ABlk.rows true (4 : Nat) h0] : AH))
theorem tenurekit_SameTerm_run (ka : Int) (na : Int) (sa : List UInt8) (la : List (List AV)) (kb : Int) (nb : Int) (sb : List UInt8) (lb : List (List AV)) {P : AV → Prop} (h : Gets (bif ka == kb then bif na == nb then bif sa == sb then kOpt (EVs (EV cfg) 26 [.sl la, .sl lb]) fun (v : AV) => kBool v fun (b : Bool) => some (.bool b) else some (.bool false) else some 
  (.bool false) else some (.bool false)) P) : Gets (EVs (EV cfg) 19 ([AV.agg [AV.int IntKind.i64 ka, AV.int IntKind.i64 na, AV.str sa, AV.sl la], AV.agg [AV.int IntKind.i64 kb, AV.int IntKind.i64 nb, AV.str sb, AV.sl lb]] : List AV)) P :=
  Gets.ev (fun _ h => funS rfl rfl Tryz.func19 rfl h) (Gets.eq (by kernel_rfl) h)
theorem tenurekit_SameTerms_run (A : List (List AV)) (B : List (List AV)) {P : AV → Prop} (h : Gets (bif (↑(List.length A) : Int) != (↑(List.length B) : Int) then some (.bool false) else wq67_0 A B (0 : Int)) P) : Gets (EVs (EV cfg) 26 ([AV.sl A, AV.sl B] : List AV)) P :=
  Gets.ev (fun _ h => funS rfl rfl Tryz.func26 rfl h) (Gets.eq (by kernel_rfl) h)
theorem tenurekit_CopyTerm_run (kt : Int) (nt : Int) (st : List UInt8) (lt : List (List AV)) {P : AV → Prop} (h : Gets (kOpt (EVo (EV cfg) 23 [.sl lt]) fun (o : OV) => kOwn o (some (.agg [.int .i64 kt, .int .i64 nt, .str st, .sl []])) fun (sz : Nat) (rs : List (List AV)) (off len : Nat) => bif Nat.ble 
  (off + len) (List.length rs) && true then some (.agg [.int .i64 kt, .int .i64 nt, .str st, .sl (List.take len (List.drop off rs))]) else none) P) : Gets (EVf (EV cfg) 15 ([AV.agg [AV.int IntKind.i64 kt, AV.int IntKind.i64 nt, AV.str st, AV.sl lt]] : List AV)) P :=
  Gets.ev (fun _ h => funF rfl rfl Tryz.func15 rfl h) (Gets.eq (by kernel_rfl) h)
theorem tenurekit_CopyTerms_run (A : List (List AV)) {P : OV → Prop} (h : Gets (wq59_0 A 0 (0 : Int) []) P) : Gets (EVo (EV cfg) 23 ([AV.sl A] : List AV)) P :=
  Gets.ev (fun _ h => funO rfl rfl Tryz.func23 rfl h) (Gets.eq (by kernel_rfl) h)
theorem wq67_0_step (A : List (List AV)) (B : List (List AV)) (v5 : Int) {P : AV → Prop} (h : Gets (bif decide (v5 < (↑(List.length A) : Int)) then bif leInt (0 : Int) v5 && ltInt v5 (↑(List.length A) : Int) then kOpt (List.get?Internal A (Int.toNat v5)) fun (row : List AV) => bif 
  Nat.beq (List.length row) 4 then bif Nat.ble 4 (List.length row) then kTmC (List.take 4 row) fun (n n_1 : Int) (s : List UInt8) (rows : List (List AV)) => (bif leInt (0 : Int) v5 && 
  ltInt v5 (↑(List.length B) : Int) then kOpt (List.get?Internal B (Int.toNat v5)) fun (row : List AV) => bif Nat.beq (List.length row) 4 then bif Nat.ble 4 (List.length row) then kTmC 
  (List.take 4 row) fun (n_2 n_3 : Int) (s_1 : List UInt8) (rows_1 : List (List AV)) => (kOpt (EVs (EV cfg) 19 [.agg [.int .i64 n, .int .i64 n_1, .str s, .sl rows], .agg [.int .i64 n_2, 
  .int .i64 n_3, .str s_1, .sl rows_1]]) fun (v : AV) => kBool v fun (b : Bool) => bif !b then some (.bool false) else wq67_0 A B (IntKind.wrap .i64 (v5 + (1 : Int)))) else none else 
  none else none) else none else none else none else some (.bool true)) P) : Gets (wq67_0 A B v5) P :=
  Gets.ev (fun _ h => loop_step (cfg := cfg) (f := 26) (rd := none) (bs := 0) h) (Gets.eq (by kernel_rfl) h)
theorem wq59_0_step (A : List (List AV)) (nv3 : Nat) (v4 : Int) (h0 : List (List AV)) {P : OV → Prop} (h : Gets (bif decide (v4 < (↑(List.length A) : Int)) then bif leInt (0 : Int) v4 && ltInt v4 (↑(List.length A) : Int) then kOpt (List.get?Internal A (Int.toNat v4)) fun (row : List AV) => bif 
  Nat.beq (List.length row) 4 then bif Nat.ble 4 (List.length row) then kTmC (List.take 4 row) fun (n n_1 : Int) (s : List UInt8) (rows : List (List AV)) => (kOpt (EVf (EV cfg) 15 [.agg 
  [.int .i64 n, .int .i64 n_1, .str s, .sl rows]]) fun (v : AV) => kTmV v fun (n n_2 : Int) (s : List UInt8) (rows : List (List AV)) => (bif Nat.ble (0 + nv3) (List.length h0) && fitsIn 
  (nv3 + 1) 56 then wq59_0 A (nv3 + 1) (IntKind.wrap .i64 (v4 + (1 : Int))) (List.append (List.take nv3 h0) [[.int .i64 n, .int .i64 n_2, .str s, .sl rows]]) else none)) else none else 
  none else none else some (OV.own 4 h0 0 nv3)) P) : Gets (wq59_0 A nv3 v4 h0) P :=
  Gets.ev (fun _ h => loop_step (cfg := cfg) (f := 23) (rd := none) (bs := 0) h) (Gets.eq (by kernel_rfl) h)
end Go.Proofs.YtkgkjngbfdnoiaaGreat
end

section
namespace Go.Proofs.YtkgkjngbfdnoiaaGreat
open Go.Av
theorem copyTerms_of {l : List Tm} (hlen : l.length < 1099511627776) (ih : ∀ x ∈ l, EVf (EV cfg) 15 [x.av] = some x.av) :
    EVo (EV cfg) 23 [.sl (rowsT l)] = some (OV.own 4 (rowsT l) 0 l.length) := by
  have loop : ∀ d i : Nat, i + d = l.length → Gets (wq59_0 (rowsT l) i i (rowsT (l.take i))) (· = OV.own 4 (rowsT l) 0 l.length) := by
    intro d
    induction d with
    | zero =>
      intro i hi
      refine wq59_0_step _ _ _ _ ?_
      obtain rfl : i = l.length := by omega
      rw [rowsT_length, decide_eq_false (by omega), List.take_length]
      exact ⟨_, rfl, rfl⟩
    | succ d ihd =>
      intro i hi
      have hil : i < l.length := by omega
      refine wq59_0_step _ _ _ _ ?_
      have hx : l[i]? = some l[i] := List.getElem?_eq_getElem hil
      have h1 := ih l[i] (List.mem_of_getElem? hx)
      have h2 := ihd (i + 1) (by omega)
      have e1 : l.take (i + 1) = l.take i ++ [l[i]] := by rw [List.take_add_one, hx]; rfl
      have ht : (rowsT (l.take i)).length = i := by rw [rowsT_length, List.length_take]; omega
      have e2 : List.append (List.take i (rowsT (l.take i))) [l[i].cells] = rowsT (l.take (i + 1)) := by
        rw [List.take_of_length_le (by omega), e1, rowsT_append, rowsT_cons, rowsT_nil]; rfl
      have e3 : Nat.ble (0 + i) (rowsT (l.take i)).length = true := by rw [ht, Nat.ble_eq]; omega
      rw [rowsT_length, decide_eq_true (show (i : Int) < (l.length : Int) by omega), leInt_zero, ltInt_nat, decide_eq_true hil, rowsT_at hx, wrap_succ hil hlen, e3, fits56 (by omega)]
      simp only [cond_true, Bool.and_self, length_cells, Nat.beq_refl, take_cells, kTmC_cells, show Nat.ble 4 4 = true from rfl, av_unf, h1, kOptSome, kTmV_av]
      rw [← Tm.cells_eq, e2]
      exact h2
  apply Gets.get
  exact tenurekit_CopyTerms_run _ (by simpa [rowsT_nil] using loop l.length 0 (by omega))
theorem copyTerm_ev (t : Tm) : t.w < 1099511627776 → EVf (EV cfg) 15 [t.av] = some t.av := by
  induction t using Tm.ind with
  | _ k n s l ih =>
    intro hw
    rw [Tm.w_mk] at hw
    have hlen := wL_len l
    have h := copyTerms_of (l := l) (by omega) fun x hx => ih x hx (by have := wL_mem hx; omega)
    apply Gets.get
    rw [Tm.av_mk]
    refine tenurekit_CopyTerm_run _ _ _ _ ?_
    rw [h]
    have e : (Nat.ble (0 + l.length) (rowsT l).length && true) = true := by rw [Bool.and_true, Nat.ble_eq, rowsT_length]; omega
    have e2 : List.take l.length (List.drop 0 (rowsT l)) = rowsT l := List.take_of_length_le (by simp)
    show Gets (bif (Nat.ble (0 + l.length) (rowsT l).length && true) then some (AV.agg [.int .i64 k, .int .i64 n, .str s, .sl (List.take l.length (List.drop 0 (rowsT l)))]) else none) _
    rw [e, e2]
    exact ⟨_, rfl, rfl⟩
end Go.Proofs.YtkgkjngbfdnoiaaGreat
end

section
namespace Go.Proofs.YtkgkjngbfdnoiaaGreat
open Go.Av
theorem sameL_of (la lb : List Tm) (hlen : la.length < 1099511627776) (ih : ∀ a ∈ la, ∀ b, Gets (EVs (EV cfg) 19 [a.av, b.av]) (Tells (a = b))) : Gets (EVs (EV cfg) 26 [.sl (rowsT la), .sl (rowsT lb)]) (Tells (la = lb)) := by
  have loop : la.length = lb.length → ∀ (d i : Nat), i + d = la.length → la.take i = lb.take i → Gets (wq67_0 (rowsT la) (rowsT lb) i) (Tells (la = lb)) := by
    intro hl d
    induction d with
    | zero =>
      intro i hi ht
      refine wq67_0_step _ _ _ ?_
      rw [List.take_of_length_le (by omega), List.take_of_length_le (by omega)] at ht
      have h1 : ¬ i < la.length := by omega
      simp [h1, tells_bool]
      exact ht
    | succ d ihd =>
      intro i hi ht
      refine wq67_0_step _ _ _ ?_
      have hlt1 : i < la.length := by omega
      have hlt2 : i < lb.length := by omega
      have hx : la[i]? = some la[i] := List.getElem?_eq_getElem hlt1
      have hy : lb[i]? = some lb[i] := List.getElem?_eq_getElem hlt2
      have hix := ih la[i] (List.mem_of_getElem? hx) lb[i]
      have hta : la.take (i + 1) = la.take i ++ [la[i]] := by rw [List.take_add_one, hx]; rfl
      have htb : lb.take (i + 1) = lb.take i ++ [lb[i]] := by rw [List.take_add_one, hy]; rfl
      have hih := ihd (i + 1) (by omega)
      have hne : la[i] ≠ lb[i] → la ≠ lb := by intro h e; subst e; exact h rfl
      rw [hta, htb, ht] at hih
      rw [wrap_succ (n := la.length) (by omega) hlen]
      simp [hlt1, hlt2, hx, hy]
      refine Gets.bind hix ?_
      rintro _ ⟨b, rfl, hb⟩
      cases b with
      | true => simp; exact hih (by rw [hb.1 rfl])
      | false =>
        have : la ≠ lb := hne (fun e => by cases hb.2 e)
        simp [tells_bool, this]
  refine tenurekit_SameTerms_run _ _ ?_
  by_cases hl : la.length = lb.length
  · simp [hl]
    exact loop hl la.length 0 (by omega) (by simp)
  · have : la ≠ lb := fun e => hl (by rw [e])
    have hl' : ¬ ((la.length : Int) = lb.length) := by omega
    simp [bneD, hl', tells_bool, this]
theorem sameT_ev (a : Tm) : a.Ok → ∀ b : Tm, Gets (EVs (EV cfg) 19 [a.av, b.av]) (Tells (a = b)) := by
  induction a using Tm.ind with
  | _ k n s l ih =>
    intro hok b
    obtain ⟨k', n', s', l'⟩ := b
    have hl := sameL_of l l' hok.len (fun a ha b => ih a ha (hok.sub ha) b)
    rw [Tm.av_mk, Tm.av_mk]
    refine tenurekit_SameTerm_run _ _ _ _ _ _ _ _ ?_
    by_cases h1 : k = k'
    · by_cases h2 : n = n'
      · by_cases h3 : s = s'
        · subst h1 h2 h3
          simp
          refine Gets.bind hl ?_
          rintro _ ⟨b, rfl, hb⟩
          simp [tells_bool, hb]
        · simp [h1, h2, beqD, h3, tells_bool]
      · simp [h1, beqD, h2, tells_bool]
    · simp [beqD, h1, tells_bool]
theorem sameL_ev {la : List Tm} (h : OkL la) (hlen : la.length < 1099511627776) (lb : List Tm) : Gets (EVs (EV cfg) 26 [.sl (rowsT la), .sl (rowsT lb)]) (Tells (la = lb)) := sameL_of la lb hlen (fun a ha b => sameT_ev a (h.get ha) b)
theorem sameT_dec {a b : Tm} (h : a.Ok) {c : Bool} (hc : c = true ↔ a = b) : EVs (EV cfg) 19 [a.av, b.av] = some (.bool c) := by
  obtain ⟨_, h1, b', rfl, h2⟩ := sameT_ev a h b
  rw [h1]
  have : b' = c := by rw [Bool.eq_iff_iff]; exact h2.trans hc.symm
  rw [this]
end Go.Proofs.YtkgkjngbfdnoiaaGreat
end

section
namespace Go.Proofs.YtkgkjngbfdnoiaaGreat
open Go.Av
theorem size_ev (t : Tm) : t.Ok → ∀ most : Int, Gets (EVs (EV cfg) 106 [t.av, .int .i64 most]) AV.IsInt := by
  induction t using Tm.ind with
  | _ k n s l ih =>
    intro hok most
    have loop : ∀ (d i : Nat) (m : Int), i + d = l.length → Gets (wh47_0 most m i k n s (rowsT l)) AV.IsInt := by
      intro d
      induction d with
      | zero =>
        intro i m hi
        refine wh47_0_step _ _ _ _ _ _ _ ?_
        rw [rowsT_length, decide_eq_false (by omega)]
        simp
      | succ d ihd =>
        intro i m hi
        refine wh47_0_step _ _ _ _ _ _ _ ?_
        have hil : i < l.length := by omega
        have hx : l[i]? = some l[i] := List.getElem?_eq_getElem hil
        have hxl := List.mem_of_getElem? hx
        have hix := ih l[i] hxl (hok.sub hxl)
        by_cases hm : m < most
        · rw [wrap_succ hil hok.len]
          simp [hil, hx, hm]
          refine Gets.bind (hix _) ?_
          rintro _ ⟨n'', rfl⟩
          simpa using ihd (i + 1) _ (by omega)
        · simp [hil, hm]
    rw [Tm.av_mk]
    refine kitSize_run _ _ _ _ _ ?_
    by_cases h1 : (s.length : Int) > 100
    · rw [decide_eq_true h1]; simp
    · rw [decide_eq_false h1]
      by_cases h2 : (l.length : Int) > most
      · rw [rowsT_length, decide_eq_true h2]; simp
      · rw [rowsT_length, decide_eq_false h2]
        exact loop l.length 0 1 (by omega)
theorem big_ev {t : Tm} (h : t.Ok) (most : Int) : Gets (EVs (EV cfg) 41 [t.av, .int .i64 most]) AV.IsBool := by
  have h1 := size_ev t h (IntKind.wrap .i64 (most + 1))
  rw [Tm.av, Tm.cells_eq] at h1 ⊢
  refine kitBig_run _ _ _ _ _ ?_
  refine Gets.bind h1 ?_
  rintro _ ⟨n, rfl⟩
  simp
end Go.Proofs.YtkgkjngbfdnoiaaGreat
end

section
namespace Go.Av
theorem kChainL {α : Type} (t : Tm) (K : Int → Int → List UInt8 → List (List AV) → Option α) : (kCons t.cells fun (c : AV) (cs : List AV) => kInt .i64 c fun (n : Int) => kCons cs fun (c : AV) (cs : List AV) => kInt .i64 c fun (n_1 : Int) => kCons cs fun (c : AV) (cs : List AV) => kStr c fun (s : List UInt8) => kCons cs fun (c : AV) (cs : List AV) => kSl c fun (rows : List (List AV)) => kNil cs (K n n_1 s rows)) = K t.kind t.num t.str (rowsT t.subs) := kTmC_cells t K
end Go.Av
namespace Go.Proofs.YtkgkjngbfdnoiaaGreat
open Go.Av
theorem largeE_ev {l : List Tm} (hl : OkL l) (hlen : l.length < 1099511627776) {e : Env} (he : EnvW e) : Gets (EVs (EV cfg) 14 [.sl (rowsT l), envR e.obj e.binds e.self]) AV.IsBool := by
  have hb := big_ev (ok_of_w _ he.obj) 300
  have fin : Gets (bif decide (((rowsT l).length : Int) > 100) then some (.bool true) else bif decide (((bindsR e.binds).length : Int) > 60) then some (.bool true) else kOpt (EVs (EV cfg) 41 [e.obj.av, .int .i64 300]) fun (v : AV) => kBool v fun (b : Bool) => some (.bool b)) AV.IsBool := by
    cases decide (((rowsT l).length : Int) > 100) with
    | true => exact ⟨_, rfl, _, rfl⟩
    | false =>
      cases decide (((bindsR e.binds).length : Int) > 60) with
      | true => exact ⟨_, rfl, _, rfl⟩
      | false =>
        refine Gets.bind hb ?_
        rintro _ ⟨b, rfl⟩
        exact ⟨_, rfl, _, rfl⟩
  have loop1 : ∀ (d i : Nat), i + d = e.binds.length → Gets (wz9_1 (rowsT l) i e.obj.kind e.obj.num e.obj.str (rowsT e.obj.subs) (bindsR e.binds) e.self) AV.IsBool := by
    intro d
    induction d with
    | zero =>
      intro i hi
      refine wz9_1_step _ _ _ _ _ _ _ _ ?_
      rw [decide_eq_false (show ¬ (i : Int) < ((bindsR e.binds).length : Int) by rw [bindsR_len]; omega), cond_false, av_unf]
      exact fin
    | succ d ih =>
      intro i hi
      refine wz9_1_step _ _ _ _ _ _ _ _ ?_
      have hil : i < e.binds.length := by omega
      have h := ih (i + 1) (by omega)
      rw [decide_eq_true (show (i : Int) < ((bindsR e.binds).length : Int) by rw [bindsR_len]; omega), cond_true, av_unf]
      cases decide ((i : Int) < 61) with
      | false => exact fin
      | true =>
        rw [show ltInt (i : Int) ((bindsR e.binds).length : Int) = true by rw [bindsR_len, ltInt_nat]; exact decide_eq_true hil, leInt_zero, wrap_succ hil he.len]
        simp only [get?Internal_eq, Int.toNat_natCast, bindsR_get, List.getElem?_eq_getElem hil, Option.map_some, cond_true, Bool.and_self, List.length_cons, length_cells, show Nat.beq (4 + 1) 5 = true from rfl, show Nat.ble 5 (4 + 1) = true from rfl, kOptSome, List.drop_succ_cons, List.drop_zero, take_cells, kChainL, av_unf]
        refine Gets.bind (big_ev (ok_of_w _ (he.binds _ (List.getElem_mem hil))) 100) ?_
        rintro _ ⟨b, rfl⟩
        cases b with
        | true => exact ⟨_, rfl, _, rfl⟩
        | false => exact h
  have loop0 : ∀ (d i : Nat), i + d = l.length → Gets (wz9_0 (rowsT l) i e.obj.kind e.obj.num e.obj.str (rowsT e.obj.subs) (bindsR e.binds) e.self) AV.IsBool := by
    intro d
    induction d with
    | zero =>
      intro i hi
      refine wz9_0_step _ _ _ _ _ _ _ _ ?_
      rw [rowsT_length, decide_eq_false (by omega)]
      exact loop1 e.binds.length 0 (by omega)
    | succ d ih =>
      intro i hi
      refine wz9_0_step _ _ _ _ _ _ _ _ ?_
      have hil : i < l.length := by omega
      have hx : l[i]? = some l[i] := List.getElem?_eq_getElem hil
      have h := ih (i + 1) (by omega)
      rw [rowsT_length, decide_eq_true (show (i : Int) < (l.length : Int) by omega), cond_true]
      cases decide ((i : Int) < 101) with
      | false => exact loop1 e.binds.length 0 (by omega)
      | true =>
        rw [leInt_zero, ltInt_nat, decide_eq_true hil, rowsT_at hx, wrap_succ hil hlen]
        simp only [cond_true, Bool.and_self, length_cells, Nat.beq_refl, take_cells, kTmC_cells, ble44, av_unf]
        refine Gets.bind (big_ev (hl.get (List.mem_of_getElem? hx)) 300) ?_
        rintro _ ⟨b, rfl⟩
        cases b with
        | true => exact ⟨_, rfl, _, rfl⟩
        | false => exact h
  unfold envR
  exact law17Large_run _ _ _ _ _ _ _ (loop0 l.length 0 (by omega))
end Go.Proofs.YtkgkjngbfdnoiaaGreat
end

section
namespace Go.Proofs.YtkgkjngbfdnoiaaGreat
open Go.Av
set_option maxRecDepth 1000000
theorem guardKnown_k0 : EVs (EV cfg) 91 [.agg [.int .i64 7, .int .i64 0, .str [], .sl [[.int .i64 2, .int .i64 0, .str [107], .sl []], [.int .i64 1, .int .i64 3, .str [], .sl []]]]] = some (.int .i64 0) := factS (.nil) 1000 1000 (by kernel_rfl)
theorem guardKnown_k1 : EVf (EV cfg) 68 [.agg [.int .i64 7, .int .i64 0, .str [], .sl [[.int .i64 2, .int .i64 0, .str [107], .sl []], [.int .i64 1, .int .i64 3, .str [], .sl []]], .sl [[.int .i64 1, .int .i64 2, .int .i64 0, .str [107], .sl []], [.int .i64 2, .int .i64 1, .int .i64 3, .str [], .sl []]], .int .i64 1]] = some (.tup [.sl [[.int .i64 1], [.int .i64 2]], .bool true]) := factF (.consS guardKnown_k0 (.nil)) 1000 1000 (by kernel_rfl)
theorem guardKnown_k3 : EVs (EV cfg) 153 [.agg [.int .i64 2, .int .i64 0, .str [36, 49], .sl []]] = some (.tup [.int .i64 1, .bool true]) := factS (.nil) 1000 1000 (by kernel_rfl)
theorem guardKnown_k4 : EVs (EV cfg) 153 [.agg [.int .i64 2, .int .i64 0, .str [36, 50], .sl []]] = some (.tup [.int .i64 2, .bool true]) := factS (.nil) 1000 1000 (by kernel_rfl)
theorem guardKnown_k5 : EVf (EV cfg) 154 [.sl [[.int .i64 1, .int .i64 2, .int .i64 0, .str [107], .sl []], [.int .i64 2, .int .i64 1, .int .i64 3, .str [], .sl []]], .int .i64 1] = some (.tup [.agg [.int .i64 2, .int .i64 0, .str [107], .sl []], .bool true]) := factF (.nil) 1000 1000 (by kernel_rfl)
theorem guardKnown_k6 : EVf (EV cfg) 154 [.sl [[.int .i64 1, .int .i64 2, .int .i64 0, .str [107], .sl []], [.int .i64 2, .int .i64 1, .int .i64 3, .str [], .sl []]], .int .i64 2] = some (.tup [.agg [.int .i64 1, .int .i64 3, .str [], .sl []], .bool true]) := factF (.nil) 1000 1000 (by kernel_rfl)
theorem guardKnown_k35 : EVs (EV cfg) 91 [.agg [.int .i64 7, .int .i64 0, .str [], .sl [[.int .i64 2, .int .i64 0, .str [61, 61], .sl []], [.int .i64 2, .int .i64 0, .str [36, 49], .sl []], [.int .i64 2, .int .i64 0, .str [107], .sl []]]]] = some (.int .i64 0) := factS (.nil) 1000 1000 (by kernel_rfl)
theorem guardKnown_k36 : EVs (EV cfg) 124 [.sl [[.int .i64 2, .int .i64 0, .str [36, 49], .sl []], [.int .i64 2, .int .i64 0, .str [107], .sl []]], .fn (.func 290) [] [.cptr [.sl [[.int .i64 1], [.int .i64 2]]] 0]] = some (.int .i64 (-1)) := factS (.consS guardKnown_k3 (.nil)) 1000 1000 (by kernel_rfl)
theorem guardKnown_k37 : EVf (EV cfg) 17 [.agg [.int .i64 7, .int .i64 0, .str [], .sl [[.int .i64 2, .int .i64 0, .str [61, 61], .sl []], [.int .i64 2, .int .i64 0, .str [36, 49], .sl []], [.int .i64 2, .int .i64 0, .str [107], .sl []]]], .agg [.int .i64 7, .int .i64 0, .str [], .sl [[.int .i64 2, .int .i64 0, .str [107], .sl []], [.int .i64 1, .int .i64 3, .str [], .sl []]], .sl [[.int .i64 1, .int .i64 2, .int .i64 0, .str [107], .sl []], [.int .i64 2, .int .i64 1, .int .i64 3, .str [], .sl []]], .int .i64 1]] = some (.tup [.agg [.int .i64 2, .int .i64 0, .str [116, 114, 117, 101], .sl []], .int .i64 0]) := factF (.consF guardKnown_k1 (.consS guardKnown_k35 (.consS guardKnown_k36 (.consS guardKnown_k3 (.consF guardKnown_k5 (.nil)))))) 1000 1000 (by kernel_rfl)
theorem guardKnown_k42 : EVs (EV cfg) 91 [.agg [.int .i64 7, .int .i64 0, .str [], .sl [[.int .i64 2, .int .i64 0, .str [43], .sl []], [.int .i64 2, .int .i64 0, .str [36, 50], .sl []], [.int .i64 1, .int .i64 4, .str [], .sl []]]]] = some (.int .i64 0) := factS (.nil) 1000 1000 (by kernel_rfl)
theorem guardKnown_k43 : EVs (EV cfg) 152 [.agg [.int .i64 7, .int .i64 0, .str [], .sl [[.int .i64 2, .int .i64 0, .str [43], .sl []], [.int .i64 2, .int .i64 0, .str [36, 50], .sl []], [.int .i64 1, .int .i64 4, .str [], .sl []]]], .sl [[.int .i64 1], [.int .i64 2]]] = some (.bool true) := factS (.consS guardKnown_k4 (.nil)) 1000 1000 (by kernel_rfl)
theorem guardKnown_k44 : EVf (EV cfg) 17 [.agg [.int .i64 7, .int .i64 0, .str [], .sl [[.int .i64 2, .int .i64 0, .str [43], .sl []], [.int .i64 2, .int .i64 0, .str [36, 50], .sl []], [.int .i64 1, .int .i64 4, .str [], .sl []]]], .agg [.int .i64 7, .int .i64 0, .str [], .sl [[.int .i64 2, .int .i64 0, .str [107], .sl []], [.int .i64 1, .int .i64 3, .str [], .sl []]], .sl [[.int .i64 1, .int .i64 2, .int .i64 0, .str [107], .sl []], [.int .i64 2, .int .i64 1, .int .i64 3, .str [], .sl []]], .int .i64 1]] = some (.tup [.agg [.int .i64 1, .int .i64 7, .str [], .sl []], .int .i64 0]) := factF (.consF guardKnown_k1 (.consS guardKnown_k42 (.consS guardKnown_k43 (.consS guardKnown_k4 (.consF guardKnown_k6 (.nil)))))) 1000 1000 (by kernel_rfl)
theorem guardKnown_k45 : EVs (EV cfg) 91 [.agg [.int .i64 7, .int .i64 0, .str [], .sl [[.int .i64 2, .int .i64 0, .str [104, 100], .sl []], [.int .i64 8, .int .i64 0, .str [], .sl []]]]] = some (.int .i64 0) := factS (.nil) 1000 1000 (by kernel_rfl)
theorem guardKnown_k46 : EVf (EV cfg) 17 [.agg [.int .i64 7, .int .i64 0, .str [], .sl [[.int .i64 2, .int .i64 0, .str [104, 100], .sl []], [.int .i64 8, .int .i64 0, .str [], .sl []]]], .agg [.int .i64 7, .int .i64 0, .str [], .sl [[.int .i64 2, .int .i64 0, .str [107], .sl []], [.int .i64 1, .int .i64 3, .str [], .sl []]], .sl [[.int .i64 1, .int .i64 2, .int .i64 0, .str [107], .sl []], [.int .i64 2, .int .i64 1, .int .i64 3, .str [], .sl []]], .int .i64 1]] = some (.tup [.agg [.int .i64 0, .int .i64 0, .str [], .sl []], .int .i64 10]) := factF (.consF guardKnown_k1 (.consS guardKnown_k45 (.nil))) 1000 1000 (by kernel_rfl)
theorem guardKnown_k47 : EVs (EV cfg) 22 [] = some (.bool true) := factS (.consF guardKnown_k44 (.consF guardKnown_k46 (.consF guardKnown_k1 (.consF guardKnown_k37 (.nil))))) 1000 1000 (by kernel_rfl)
end Go.Proofs.YtkgkjngbfdnoiaaGreat
end

section
namespace Go.Av
theorem and_mask {a : Nat} (ha : a < 18446744073709551616) : fromSem (Op.intBits .and .u64 (a : Int) 4294967295) = some (.int .u64 ((a % 4294967296 : Nat) : Int)) := by
  have : fromSem (Op.intBits .and .u64 (a : Int) 4294967295) = some (.int .u64 (IntKind.wrap .u64 (BitVec.ofInt 64 (a : Int) &&& BitVec.ofInt 64 4294967295).toNat)) := rfl
  rw [this]
  have ea : (BitVec.ofInt 64 (a : Int)).toNat = a := by simp [BitVec.toNat_ofInt]; omega
  have eb : (BitVec.ofInt 64 (4294967295 : Int)).toNat = 2 ^ 32 - 1 := by decide
  rw [BitVec.toNat_and, ea, eb, Nat.and_two_pow_sub_one_eq_mod, wrapU (by omega)]
theorem shr_32 {a : Nat} (_ha : a < 18446744073709551616) : fromSem (Op.shift .shr .u64 (a : Int) .u64 32) = some (.int .u64 ((a / 4294967296 : Nat) : Int)) := by
  have : fromSem (Op.shift .shr .u64 (a : Int) .u64 32) = some (.int .u64 (Int.fdiv a (2 ^ (min (32 : Int).toNat 64)))) := by
    unfold Op.shift
    rw [if_neg (by omega)]; rfl
  rw [this]
  have e : ((2 : Int) ^ (min (32 : Int).toNat 64)) = ((4294967296 : Nat) : Int) := by decide
  rw [e, Int.fdiv_eq_ediv_of_nonneg _ (Int.natCast_nonneg _)]
  rfl
theorem wrapU' {n : Int} {m : Nat} (h : n = (m : Int)) (hm : m < 18446744073709551616) : IntKind.wrap .u64 n = (m : Int) := by rw [h, wrapU hm]
theorem wrapU_mod (n : Nat) : IntKind.wrap .u64 (n : Int) = ((n % 18446744073709551616 : Nat) : Int) := by
  simp [IntKind.wrap, IntKind.bits, IntKind.signed]
theorem hi_parts {a b : Nat} (ha : a < 18446744073709551616) (hb : b < 18446744073709551616) :
    let p := a / 4294967296 * (b % 4294967296); let q := a % 4294967296 * (b / 4294967296); let r := a % 4294967296 * (b % 4294967296); let s := a / 4294967296 * (b / 4294967296)
    r < 18446744073709551616 ∧ p < 18446744073709551616 ∧ q < 18446744073709551616 ∧ s < 18446744073709551616 ∧ p + r / 4294967296 < 18446744073709551616 ∧ (p + r / 4294967296) % 4294967296 + q < 18446744073709551616 ∧ s + (p + r / 4294967296) / 4294967296 < 18446744073709551616 ∧
    s + (p + r / 4294967296) / 4294967296 + ((p + r / 4294967296) % 4294967296 + q) / 4294967296 = a * b / 18446744073709551616 ∧ a * b / 18446744073709551616 < 18446744073709551616 := by
  intro p q r s
  have ea : a = a / 4294967296 * 4294967296 + a % 4294967296 := by omega
  have eb : b = b / 4294967296 * 4294967296 + b % 4294967296 := by omega
  have e : a * b = s * 18446744073709551616 + (p + q) * 4294967296 + r := by
    show a * b = (a / 4294967296 * (b / 4294967296)) * 18446744073709551616 + (a / 4294967296 * (b % 4294967296) + a % 4294967296 * (b / 4294967296)) * 4294967296 + a % 4294967296 * (b % 4294967296)
    generalize a / 4294967296 = x1 at *
    generalize a % 4294967296 = x0 at *
    generalize b / 4294967296 = y1 at *
    generalize b % 4294967296 = y0 at *
    rw [ea, eb]
    have h1 : x1 * 4294967296 * (y1 * 4294967296) = x1 * y1 * 18446744073709551616 := by
      rw [Nat.mul_mul_mul_comm]
    have h2 : x1 * 4294967296 * y0 = x1 * y0 * 4294967296 := by rw [Nat.mul_right_comm]
    have h3 : x0 * (y1 * 4294967296) = x0 * y1 * 4294967296 := by rw [Nat.mul_assoc]
    rw [Nat.add_mul, Nat.mul_add, Nat.mul_add, h1, h2, h3]
    omega
  have bp : p ≤ 4294967295 * 4294967295 := Nat.mul_le_mul (by omega) (by omega)
  have bq : q ≤ 4294967295 * 4294967295 := Nat.mul_le_mul (by omega) (by omega)
  have br : r ≤ 4294967295 * 4294967295 := Nat.mul_le_mul (by omega) (by omega)
  have bs : s ≤ 4294967295 * 4294967295 := Nat.mul_le_mul (by omega) (by omega)
  have hab : a * b < 18446744073709551616 * 18446744073709551616 := Nat.mul_lt_mul'' ha hb
  clear_value p q r s
  rw [e] at hab ⊢
  clear e ea eb
  refine ⟨by omega, by omega, by omega, by omega, by omega, by omega, by omega, by omega, by omega⟩
end Go.Av
namespace Go.Proofs.YtkgkjngbfdnoiaaGreat
open Go.Av
theorem mul64_ev {a b : Nat} (ha : a < 18446744073709551616) (hb : b < 18446744073709551616) :
    EVs (EV cfg) 312 [.int .u64 (a : Int), .int .u64 (b : Int)] = some (.tup [.int .u64 ((a * b / 18446744073709551616 : Nat) : Int), .int .u64 ((a * b % 18446744073709551616 : Nat) : Int)]) := by
  obtain ⟨h1, h2, h3, h4, h5, h6, h7, h8, h9⟩ := hi_parts ha hb
  have w0 : IntKind.wrap .u64 (((a % 4294967296 : Nat) : Int) * ((b % 4294967296 : Nat) : Int)) = ((a % 4294967296 * (b % 4294967296) : Nat) : Int) := wrapU' (Int.natCast_mul _ _).symm h1
  have w1 : IntKind.wrap .u64 (((a / 4294967296 : Nat) : Int) * ((b % 4294967296 : Nat) : Int)) = ((a / 4294967296 * (b % 4294967296) : Nat) : Int) := wrapU' (Int.natCast_mul _ _).symm h2
  have w2 : IntKind.wrap .u64 (((a % 4294967296 : Nat) : Int) * ((b / 4294967296 : Nat) : Int)) = ((a % 4294967296 * (b / 4294967296) : Nat) : Int) := wrapU' (Int.natCast_mul _ _).symm h3
  have w3 : IntKind.wrap .u64 (((a / 4294967296 : Nat) : Int) * ((b / 4294967296 : Nat) : Int)) = ((a / 4294967296 * (b / 4294967296) : Nat) : Int) := wrapU' (Int.natCast_mul _ _).symm h4
  have w4 : IntKind.wrap .u64 ((a : Int) * (b : Int)) = ((a * b % 18446744073709551616 : Nat) : Int) := by rw [← Int.natCast_mul, wrapU_mod]
  apply Gets.get
  refine mul64_run _ _ ?_
  rw [and_mask ha, shr_32 ha, and_mask hb, shr_32 hb]
  simp only [kOptSome, kInt_int, w0, w1, w2, w3, w4]
  rw [shr_32 h1]
  simp only [kOptSome, kInt_int]
  rw [wrapU' (Int.natCast_add _ _).symm h5, and_mask h5, shr_32 h5]
  simp only [kOptSome, kInt_int]
  rw [wrapU' (Int.natCast_add _ _).symm h6, shr_32 h6]
  simp only [kOptSome, kInt_int]
  rw [wrapU' (Int.natCast_add _ _).symm h7, wrapU' (Int.natCast_add _ _).symm (by rw [h8]; exact h9), h8]
  exact ⟨_, rfl, rfl⟩
theorem product_ok : ProductOk := by
  intro e a b ha hb
  obtain ⟨a1, a2⟩ := ha
  obtain ⟨b1, b2⟩ := hb
  -- what follows the two signs
  have fin : ∀ (x y : Nat) (sg : Int), x ≤ 576460752303423488 → y ≤ 576460752303423488 → (sg = 1 ∨ sg = -1) → a * b = sg * (x * y : Nat) →
      Gets (kOpt (EVs (EV cfg) 312 [.int .u64 (x : Int), .int .u64 (y : Int)]) fun (v : AV) => kTup v fun (cs : List AV) => kCons cs fun (c : AV) (cs : List AV) => kInt .u64 c fun (n : Int) => kCons cs fun (c : AV) (cs : List AV) => kInt .u64 c fun (n_1 : Int) => kNil cs (bif decide (n > (0 : Int)) then kOpt (EVd (EV cfg) 233 [.ptr 0 0 0] 7 (mR e false)) fun (q : AV × List (List AV)) => kTmV q.1 fun (n n_2 : Int) (s : List UInt8) (rows : List (List AV)) => (some (.agg [.int .i64 n, .int .i64 n_2, .str s, .sl rows], q.2)) else bif decide (n_1 > (576460752303423488 : Int)) then kOpt (EVd (EV cfg) 233 [.ptr 0 0 0] 7 (mR e false)) fun (q : AV × List (List AV)) => kTmV q.1 fun (n n_2 : Int) (s : List UInt8) (rows : List (List AV)) => (some (.agg [.int .i64 n, .int .i64 n_2, .str s, .sl rows], q.2)) else kOpt (EVd (EV cfg) 240 [.ptr 0 0 0, .int .i64 (IntKind.wrap .i64 (sg * IntKind.wrap .i64 n_1))] 7 (mR e false)) fun (q : AV × List (List AV)) => kTmV q.1 fun (n n_2 : Int) (s : List UInt8) (rows : List (List AV)) => (some (.agg [.int .i64 n, .int .i64 n_2, .str s, .sl rows], q.2)))) (Res e (withinG (a * b))) := by
    intro x y sg hx hy hsg hab
    rw [mul64_ev (by omega) (by omega)]
    simp only [kOptSome, kTup, kCons, kInt_int, kNil, mRaise_ev, kTmV_av, av_unf]
    have hbad : (x * y : Nat) > 576460752303423488 → withinG (a * b) = none := by
      intro h
      unfold withinG
      rw [if_neg]
      rintro ⟨h1, h2⟩
      rw [hab] at h1 h2
      rcases hsg with rfl | rfl <;> omega
    rw [hab] at hbad ⊢
    generalize x * y = p at *
    by_cases c1 : p / 18446744073709551616 > 0
    · rw [decide_eq_true (by omega), cond_true, hbad (by omega)]; exact ret_true
    · rw [decide_eq_false (by omega), cond_false]
      have ep : p % 18446744073709551616 = p := by omega
      rw [ep]
      by_cases c2 : p > 576460752303423488
      · rw [decide_eq_true (by omega), cond_true, hbad c2]; exact ret_true
      · rw [decide_eq_false (by omega), cond_false, wrap64 (x := (p : Int)) (by omega) (by omega)]
        have : IntKind.wrap .i64 (sg * (p : Int)) = sg * p := by rcases hsg with rfl | rfl <;> exact wrap64 (by omega) (by omega)
        rw [this]
        exact Gets.bind (mNumber_within e _ fun r h1 h2 => h1) fun r h => ret_res h (Res_tm h)
  have wneg : ∀ z : Int, -576460752303423488 ≤ z → z < 0 → IntKind.wrap .u64 (IntKind.wrap .i64 (0 - z)) = ((-z).toNat : Int) := by
    intro z h1 h2
    rw [wrap64 (by omega) (by omega)]
    exact wrapU' (by omega) (by omega)
  have wpos : ∀ z : Int, 0 ≤ z → z ≤ 576460752303423488 → IntKind.wrap .u64 z = (z.toNat : Int) := fun z h1 h2 => wrapU' (by omega) (by omega)
  refine mProduct_run _ _ _ _ _ _ _ _ _ ?_
  by_cases ca : a < 0
  · rw [decide_eq_true ca, cond_true]
    by_cases cb : b < 0
    · rw [decide_eq_true cb, cond_true, wneg a a1 ca, wneg b b1 cb]
      refine fin (-a).toNat (-b).toNat 1 (by omega) (by omega) (Or.inl rfl) ?_
      rw [Int.natCast_mul, Int.toNat_of_nonneg (by omega), Int.toNat_of_nonneg (by omega), Int.neg_mul_neg, Int.one_mul]
    · rw [decide_eq_false cb, cond_false, wneg a a1 ca, wpos b (by omega) (by omega)]
      refine fin (-a).toNat b.toNat (-1) (by omega) (by omega) (Or.inr rfl) ?_
      rw [Int.natCast_mul, Int.toNat_of_nonneg (by omega), Int.toNat_of_nonneg (by omega), Int.neg_mul, Int.one_mul, Int.neg_mul, Int.neg_neg]
  · rw [decide_eq_false ca, cond_false]
    by_cases cb : b < 0
    · rw [decide_eq_true cb, cond_true, wpos a (by omega) (by omega), wneg b b1 cb]
      refine fin a.toNat (-b).toNat (-1) (by omega) (by omega) (Or.inr rfl) ?_
      rw [Int.natCast_mul, Int.toNat_of_nonneg (by omega), Int.toNat_of_nonneg (by omega), Int.neg_mul, Int.one_mul, Int.mul_neg, Int.neg_neg]
    · rw [decide_eq_false cb, cond_false, wpos a (by omega) (by omega), wpos b (by omega) (by omega)]
      refine fin a.toNat b.toNat 1 (by omega) (by omega) (Or.inl rfl) ?_
      rw [Int.natCast_mul, Int.toNat_of_nonneg (by omega), Int.toNat_of_nonneg (by omega), Int.one_mul]
end Go.Proofs.YtkgkjngbfdnoiaaGreat
end

section
namespace Go.Av
end Go.Av
namespace Go.Proofs.YtkgkjngbfdnoiaaGreat
open Go.Av
theorem copyTerms_ev {l : List Tm} (h : wL l < 1099511627776) : EVo (EV cfg) 23 [.sl (rowsT l)] = some (OV.own 4 (rowsT l) 0 l.length) := by
  have := wL_len l
  exact copyTerms_of (by omega) fun x hx => copyTerm_ev x (by have := wL_mem hx; omega)
end Go.Proofs.YtkgkjngbfdnoiaaGreat
end

section
namespace Go.Av
def applyF (op : List UInt8) (l : List Tm) (self : Int) : Tm × Int :=
  if ((l.length : Int) ∈ opsG op ∧ selfG self = true) ∧ ∀ x ∈ l, x.chk = 0 then (match applyG op l self with | some t => (t, 0) | none => (zeroT, 10)) else (zeroT, 2)
theorem bne0 (z : Int) : (z != 0) = !decide (z = 0) := by rw [bne, beqI]
theorem bneII (a b : Int) : (a != b) = !decide (a = b) := by rw [bne, beqI]
end Go.Av
namespace Go.Proofs.YtkgkjngbfdnoiaaGreat
open Go.Av
theorem r17ApplyF_ev {op : List UInt8} {l : List Tm} (hl : ∀ x ∈ l, x.w < 1099511627776) (hlen : l.length < 1099511627776) (self : Int) :
    EVf (EV cfg) 25 [.str op, .sl (rowsT l), .int .i64 self] = some (evalR (applyF op l self)) := by
  apply Gets.get
  refine r17Apply_run _ _ _ ?_
  rw [rowsT_length, r17May_ev, r17Self_ev, ← zeroT_av]
  simp only [kOptSome, kBool_bool]
  unfold applyF evalR
  by_cases hop : (l.length : Int) ∈ opsG op
  case neg =>
    rw [decide_eq_false hop, if_neg (fun h => hop h.1.1)]
    exact ⟨_, rfl, rfl⟩
  rw [decide_eq_true hop]
  cases hs : selfG self with
  | false => rw [if_neg (by rintro ⟨⟨_, h⟩, _⟩; cases h)]; exact ⟨_, rfl, rfl⟩
  | true =>
  have h2 := opsG_two op hop
  have loop : ∀ (d i : Nat), i + d = l.length → (∀ (j : Nat) x, j < i → l[j]? = some x → x.chk = 0) → Gets (wy20_0 op (rowsT l) self i 0 0 [] []) (· = evalR (if ∀ x ∈ l, x.chk = 0 then (match applyG op l self with | some t => (t, 0) | none => (zeroT, 10)) else (zeroT, 2))) := by
    intro d
    induction d with
    | zero =>
      intro i hi ha
      refine wy20_0_step _ _ _ _ _ _ _ _ ?_
      have hall : ∀ x ∈ l, x.chk = 0 := fun x hx => by
        obtain ⟨j, hj, rfl⟩ := List.mem_iff_getElem.1 hx
        exact ha j _ (by omega) (List.getElem?_eq_getElem hj)
      rw [rowsT_length, decide_eq_false (by omega), r17Apply_ev hop hall h2, if_pos hall, ← zeroT_av]
      simp only [kOptSome, cond_false, tbR_eq, kTB, av_unf]
      cases hap : applyG op l self with
      | none => exact ⟨_, rfl, rfl⟩
      | some z =>
        simp only [Option.isSome_some, Bool.not_true, cond_false, Option.getD_some, r02Copy_ev z (applyG_w hall h2 hap), kOptSome, kTmV_av, av_unf]
        exact ⟨_, rfl, rfl⟩
    | succ d ih =>
      intro i hi ha
      refine wy20_0_step _ _ _ _ _ _ _ _ ?_
      have hil : i < l.length := by omega
      have hx : l[i]? = some l[i] := List.getElem?_eq_getElem hil
      have hc := r02Check_ev (hl l[i] (List.mem_of_getElem? hx))
      rw [rowsT_length, decide_eq_true (show (i : Int) < (l.length : Int) by omega), leInt_zero, ltInt_nat, decide_eq_true hil, rowsT_at hx, wrap_succ hil hlen, ← zeroT_av]
      simp only [cond_true, Bool.and_self, length_cells, Nat.beq_refl, take_cells, kTmC_cells, ble44, av_unf, hc, kOptSome, kInt_int, bne0]
      by_cases h0 : l[i].chk = 0
      · rw [decide_eq_true h0]
        refine ih (i + 1) (by omega) (fun j x hj hjx => ?_)
        by_cases e : j = i
        · subst e; rw [hx] at hjx; cases hjx; exact h0
        · exact ha j x (by omega) hjx
      · rw [decide_eq_false h0, if_neg (fun h => h0 (h _ (List.mem_of_getElem? hx)))]
        exact ⟨_, rfl, rfl⟩
  have h := loop l.length 0 (by omega) (fun j x hj => by omega)
  refine h.mono fun r hr => ?_
  rw [hr]
  unfold evalR
  by_cases hall : ∀ x ∈ l, x.chk = 0
  · rw [if_pos hall, if_pos ⟨⟨hop, rfl⟩, hall⟩]
  · rw [if_neg hall, if_neg (fun h => hall h.2)]
end Go.Proofs.YtkgkjngbfdnoiaaGreat
namespace Go.Proofs.YtkgkjngbfdnoiaaGreat.R
open Go.Av
theorem gApplyR_ev (hp : ProductOk) {op : List UInt8} {l : List Tm} (hl : ∀ x ∈ l, x.w < 1099511627776) (hlen : l.length < 1099511627776) (self : Int) :
    EVg (EV cfg) 24 [.str op, .sl (rowsT l), .int .i64 self] = some (evalR (applyF op l self)) := by
  apply Gets.get
  refine gApplyR_run _ _ _ ?_
  rw [rowsT_length, evf_k _ rfl rfl, ops_ev, ← zeroT_av]
  simp only [kOptSome, kSl_sl]
  rw [evs_k _ rfl rfl, contains_ev _ (opsG_len op), evs_k _ rfl rfl, self_ev]
  simp only [kOptSome, kBool_bool]
  unfold applyF evalR
  by_cases hop : (l.length : Int) ∈ opsG op
  case neg =>
    rw [decide_eq_false hop, if_neg (fun h => hop h.1.1)]
    exact ⟨_, rfl, rfl⟩
  rw [decide_eq_true hop]
  cases hs : selfG self with
  | false => rw [if_neg (by rintro ⟨⟨_, h⟩, _⟩; cases h)]; exact ⟨_, rfl, rfl⟩
  | true =>
  have h2 := opsG_two op hop
  have loop : ∀ (d i : Nat), i + d = l.length → (∀ (j : Nat) x, j < i → l[j]? = some x → x.chk = 0) → Gets (wra24_0 op (rowsT l) self i 0 0 [] []) (· = evalR (if ∀ x ∈ l, x.chk = 0 then (match applyG op l self with | some t => (t, 0) | none => (zeroT, 10)) else (zeroT, 2))) := by
    intro d
    induction d with
    | zero =>
      intro i hi ha
      refine wra24_0_step _ _ _ _ _ _ _ _ ?_
      have hall : ∀ x ∈ l, x.chk = 0 := fun x hx => by
        obtain ⟨j, hj, rfl⟩ := List.mem_iff_getElem.1 hx
        exact ha j _ (by omega) (List.getElem?_eq_getElem hj)
      have hm := mApply_ev ⟨zeroT, [], self⟩ op hall h2 (fun _ => hp)
      have e0 : mR ⟨zeroT, [], self⟩ false = [[.int .i64 0, .int .i64 0, .str [], .sl [], .sl [], .int .i64 self, .bool false]] := by simp [mR, zeroT, bindsR]
      rw [e0] at hm
      rw [rowsT_length, decide_eq_false (by omega), evd_k _ _ _ rfl rfl, if_pos hall, ← zeroT_av]
      refine Gets.bind hm ?_
      intro r hr
      unfold Res at hr
      cases hap : applyG op l self with
      | none =>
        rw [hap] at hr
        obtain ⟨g1, z, g2⟩ := hr
        rw [g1, g2]
        simp only [kTmV_av, mR_row, mR_bad, kOptSome, kBool_bool, cond_true]
        exact ⟨_, rfl, rfl⟩
      | some z =>
        rw [hap] at hr
        have hr : r = (z.av, mR ⟨zeroT, [], self⟩ false) := hr
        subst hr
        have hcp := copyR_ev (ok_of_w z (applyG_w hall h2 hap))
        simp only [kTmV_av, mR_row, mR_bad, kOptSome, kBool_bool, cond_false, av_unf, hcp]
        exact ⟨_, rfl, rfl⟩
    | succ d ih =>
      intro i hi ha
      refine wra24_0_step _ _ _ _ _ _ _ _ ?_
      have hil : i < l.length := by omega
      have hx : l[i]? = some l[i] := List.getElem?_eq_getElem hil
      have hc := check_ev (hl l[i] (List.mem_of_getElem? hx))
      rw [rowsT_length, decide_eq_true (show (i : Int) < (l.length : Int) by omega), leInt_zero, ltInt_nat, decide_eq_true hil, rowsT_at hx, wrap_succ hil hlen, ← zeroT_av]
      simp only [cond_true, Bool.and_self, length_cells, Nat.beq_refl, take_cells, kTmC_cells, ble44, av_unf]
      rw [evs_k _ rfl rfl, hc]
      simp only [kOptSome, kInt_int, bne0]
      by_cases h0 : l[i].chk = 0
      · rw [decide_eq_true h0]
        refine ih (i + 1) (by omega) (fun j x hj hjx => ?_)
        by_cases e : j = i
        · subst e; rw [hx] at hjx; cases hjx; exact h0
        · exact ha j x (by omega) hjx
      · rw [decide_eq_false h0, if_neg (fun h => h0 (h _ (List.mem_of_getElem? hx)))]
        exact ⟨_, rfl, rfl⟩
  have h := loop l.length 0 (by omega) (fun j x hj => by omega)
  refine h.mono fun r hr => ?_
  rw [hr]
  unfold evalR
  by_cases hall : ∀ x ∈ l, x.chk = 0
  · rw [if_pos hall, if_pos ⟨⟨hop, rfl⟩, hall⟩]
  · rw [if_neg hall, if_neg (fun h => hall h.2)]
end Go.Proofs.YtkgkjngbfdnoiaaGreat.R
end

section
namespace Go.Av
theorem zeroT_w : zeroT.w < 1099511627776 := by unfold zeroT; rw [Tm.w_mk]; simp
theorem applyF_w {op : List UInt8} {l : List Tm} {self : Int} : (applyF op l self).1.w < 1099511627776 := by
  unfold applyF
  split
  · rename_i h
    split
    · rename_i v hv
      exact applyG_w h.2 (opsG_two op h.1.1) hv
    · exact zeroT_w
  · exact zeroT_w
end Go.Av
namespace Go.Proofs.YtkgkjngbfdnoiaaGreat.R
open Go.Av
theorem overAv_ev {t : Tm} (h : t.Ok) : EVz (EV cfg) 20 (.agg [.int .i64 t.kind, .int .i64 t.num, .str t.str, .rsl 0 (rowsT t.subs)]) = some () := overT_ev t h
theorem guardApplies_ev {op : List UInt8} {l : List Tm} (hl : wL l < 1099511627776) (self : Int) : EVs (EV cfg) 4 [.str op, .sl (rowsT l), .int .i64 self] = some (.bool true) := by
  have hlen := wL_len l
  have hlw : ∀ x ∈ l, x.w < 1099511627776 := fun x hx => by have := wL_mem hx; omega
  have h1 := largeE_ev (okL_of_w hl) (by omega) (e := ⟨zeroT, [], 0⟩) ⟨zeroT_w, by simp, by simp⟩
  have h2 := copyTerms_ev hl
  have h4 := gApplyR_ev product_ok hlw (by omega) (op := op) self
  have h5 := r17ApplyF_ev hlw (by omega) (op := op) self
  have h6 : EVs (EV Go.Proofs.YtkgkjngbfdnoiaaGreat.cfg) 26 [.sl (rowsT l), .sl (rowsT l)] = some (.bool true) := by
    obtain ⟨_, h1, b, rfl, h2⟩ := sameL_ev (okL_of_w hl) (by omega) l
    rw [h1, h2.2 rfl]
  have hv := @applyF_w op l self
  generalize applyF op l self = ev at *
  have h8 : EVs (EV Go.Proofs.YtkgkjngbfdnoiaaGreat.cfg) 19 [ev.1.av, ev.1.av] = some (.bool true) := sameT_dec (ok_of_w _ hv) (by simp)
  have h9 := overAv_ev (ok_of_w _ hv)
  rw [← evf_k _ rfl rfl] at h5
  rw [← evo_k _ rfl rfl] at h2
  rw [← evs_k _ rfl rfl] at h6 h8
  have h10 := guardKnown_k47
  rw [← evs_k _ rfl rfl] at h10
  rw [← evs_k _ rfl rfl] at h1
  have ht : List.take l.length (List.drop 0 (rowsT l)) = rowsT l := List.take_of_length_le (by simp)
  have hb : Nat.ble (0 + l.length) (rowsT l).length = true := by rw [Nat.ble_eq, rowsT_length]; omega
  have hz : envR zeroT [] 0 = .agg [.int .i64 0, .int .i64 0, .str [], .sl [], .sl [], .int .i64 0] := by simp [envR, zeroT, bindsR]
  have hz' : envR ((⟨zeroT, [], 0⟩ : Env).obj) ((⟨zeroT, [], 0⟩ : Env).binds) ((⟨zeroT, [], 0⟩ : Env).self) = .agg [.int .i64 0, .int .i64 0, .str [], .sl [], .sl [], .int .i64 0] := hz
  rw [hz'] at h1
  apply Gets.get
  unfold evalR at *
  refine law17Applies_run _ _ _ ?_
  rw [show refsLtL 0 [.sl (rowsT l), .agg [AV.int .i64 0, .int .i64 0, .str [], .sl [], .sl [], .int .i64 0]] = true by simp [refsLtL, AV.refsLt], cond_true]
  refine Gets.bind h1 ?_
  rintro _ ⟨b, rfl⟩
  cases b with
  | true => exact ⟨_, rfl, rfl⟩
  | false =>
    simp only [kBool_bool, cond_false]
    cases decide (((op.length : Nat) : Int) > 100) with
    | true => exact ⟨_, rfl, rfl⟩
    | false =>
      rw [h2]
      simp only [cond_false, kOptSome, kOwn_own, hb, Bool.and_true, cond_true, ht, h4, kEvalR, h5, bneII, decide_true, Bool.not_true, av_unf, h8, kBool_bool, h9, h6, h10]
      exact ⟨_, rfl, rfl⟩
end Go.Proofs.YtkgkjngbfdnoiaaGreat.R
end
