/-
  Parts of the proof of GuardHoldsUptoSaid, put together: the abstract evaluation and its contracts. Own work.
  What is proved: each lemma as it stands; no condition.
-/
import Derived.Test.YtogebohommickaaGreatZGuardHoldsM3

section
namespace Go.Proofs.YtogebohommickaaGreat
open Go.Av
set_option maxRecDepth 100000
set_option maxHeartbeats 0

noncomputable def Ly99_0 : Den := evC cfg (EV cfg) 99 none 0 (sub (bodyOf Tryz.f99) [1, 1, 0, 0, 0])
noncomputable def Ay99_0 : Ex × List AV × AH → Option AV := kAft (Cfg.keepOut cfg 99 2) (kRun cfg (EV cfg) (kfN cfg 6) 99 none 0 (kFinS cfg (Cfg.lift cfg 99 0) Tryz.f99.results.toList) ([.block 0, .seq (sub (bodyOf Tryz.f99) [1, 1, 1])]))
noncomputable def Wy99_0 : List AV × AH → Option AV := fun p => kOpt (LOOP 0 (some [1, 4]) ([]) Ly99_0 p) Ay99_0
noncomputable def Ly64_0 : Den := evC cfg (EV cfg) 64 none 0 (sub (bodyOf Tryz.f64) [1, 1, 0, 1, 0, 0])
noncomputable def Ay64_0 : Ex × List AV × AH → Option AV := kAft (Cfg.keepOut cfg 64 3) (kRun cfg (EV cfg) (kfN cfg 6) 64 none 0 (kFinF cfg (Cfg.lift cfg 64 0) Tryz.f64.results.toList) ([.block 0, .seq (sub (bodyOf Tryz.f64) [1, 1, 1])]))
noncomputable def Wy64_0 : List AV × AH → Option AV := fun p => kOpt (LOOP 0 (some [0, 2, 3, 4]) ([]) Ly64_0 p) Ay64_0
noncomputable def Ly65_0 : Den := evC cfg (EV cfg) 65 none 0 (sub (bodyOf Tryz.f65) [1, 1, 0, 1, 0, 0])
noncomputable def Ay65_0 : Ex × List AV × AH → Option AV := kAft (Cfg.keepOut cfg 65 3) (kRun cfg (EV cfg) (kfN cfg 6) 65 none 0 (kFinF cfg (Cfg.lift cfg 65 0) Tryz.f65.results.toList) ([.block 0, .seq (sub (bodyOf Tryz.f65) [1, 1, 1])]))
noncomputable def Wy65_0 : List AV × AH → Option AV := fun p => kOpt (LOOP 0 (some [0, 3, 6, 7]) ([(6, 4)]) Ly65_0 p) Ay65_0
noncomputable def Ly29_0 : Den := evC cfg (EV cfg) 29 none 0 (sub (bodyOf Tryz.f29) [1, 1, 1, 0, 0, 1, 1, 1, 0, 1, 0, 1, 0, 0])
noncomputable def Ay29_0 : Ex × List AV × AH → Option AV := kAft (Cfg.keepOut cfg 29 9) (kRun cfg (EV cfg) (kfN cfg 6) 29 none 0 (kFinF cfg (Cfg.lift cfg 29 0) Tryz.f29.results.toList) ([.block 1, .seq (sub (bodyOf Tryz.f29) [1, 1, 1, 0, 0, 1, 1, 1, 0, 1, 1]), .block 0, .seq (sub (bodyOf Tryz.f29) [1, 1, 1, 1])]))
noncomputable def Wy29_0 : List AV × AH → Option AV := fun p => kOpt (LOOP 0 (some [3, 4, 8, 9]) ([(8, 4)]) Ly29_0 p) Ay29_0
noncomputable def Ly28_0 : Den := evC cfg (EV cfg) 28 none 0 (sub (bodyOf Tryz.f28) [1, 1, 0, 1, 0, 0])
noncomputable def Ay28_0 : Ex × List AV × AH → Option AV := kAft (Cfg.keepOut cfg 28 3) (kRun cfg (EV cfg) (kfN cfg 6) 28 none 0 (kFinF cfg (Cfg.lift cfg 28 0) Tryz.f28.results.toList) ([.block 0, .seq (sub (bodyOf Tryz.f28) [1, 1, 1])]))
noncomputable def Wy28_0 : List AV × AH → Option AV := fun p => kOpt (LOOP 0 (some [0, 3, 4]) ([(3, 1)]) Ly28_0 p) Ay28_0
noncomputable def Ly17_0 : Den := evC cfg (EV cfg) 17 none 0 (sub (bodyOf Tryz.f17) [1, 0, 1, 0, 0])
noncomputable def Ay17_0 : Ex × List AV × AH → Option AV := kAft (Cfg.keepOut cfg 17 2) (kRun cfg (EV cfg) (kfN cfg 6) 17 none 0 (kFinS cfg (Cfg.lift cfg 17 0) Tryz.f17.results.toList) ([.block 0, .seq (sub (bodyOf Tryz.f17) [1, 1])]))
noncomputable def Wy17_0 : List AV × AH → Option AV := fun p => kOpt (LOOP 0 (some [0, 3, 5]) ([]) Ly17_0 p) Ay17_0
noncomputable def Ly87_0 : Den := evC cfg (EV cfg) 87 none 0 (sub (bodyOf Tryz.f87) [1, 0, 1, 0, 0])
noncomputable def Ay87_0 : Ex × List AV × AH → Option AV := kAft (Cfg.keepOut cfg 87 2) (kRun cfg (EV cfg) (kfN cfg 6) 87 none 0 (kFinF cfg (Cfg.lift cfg 87 0) Tryz.f87.results.toList) ([.block 0, .seq (sub (bodyOf Tryz.f87) [1, 1])]))
noncomputable def Wy87_0 : List AV × AH → Option AV := fun p => kOpt (LOOP 0 (some [0, 1, 4, 6]) ([]) Ly87_0 p) Ay87_0
noncomputable def Ly59_0 : Den := evC cfg (EV cfg) 59 none 0 (sub (bodyOf Tryz.f59) [1, 0, 1, 0, 0])
noncomputable def Ay59_0 : Ex × List AV × AH → Option AV := kAft (Cfg.keepOut cfg 59 2) (kRun cfg (EV cfg) (kfN cfg 6) 59 none 0 (kFinS cfg (Cfg.lift cfg 59 0) Tryz.f59.results.toList) ([.block 0, .seq (sub (bodyOf Tryz.f59) [1, 1])]))
noncomputable def Wy59_0 : List AV × AH → Option AV := fun p => kOpt (LOOP 0 (some [0, 3]) ([]) Ly59_0 p) Ay59_0
noncomputable def Ly30_0 : Den := evC cfg (EV cfg) 30 none 0 (sub (bodyOf Tryz.f30) [1, 1, 0, 1, 0, 0])
noncomputable def Ay30_0 : Ex × List AV × AH → Option AV := kAft (Cfg.keepOut cfg 30 3) (kRun cfg (EV cfg) (kfN cfg 6) 30 none 0 (kFinF cfg (Cfg.lift cfg 30 0) Tryz.f30.results.toList) ([.block 0, .seq (sub (bodyOf Tryz.f30) [1, 1, 1])]))
noncomputable def Wy30_0 : List AV × AH → Option AV := fun p => kOpt (LOOP 0 (some [1, 2, 3, 4]) ([(3, 4)]) Ly30_0 p) Ay30_0
noncomputable def Ly120_0 : Den := evC cfg (EV cfg) 120 none 0 (sub (bodyOf Tryz.f120) [1, 1, 0, 1, 0, 0])
noncomputable def Ay120_0 : Ex × List AV × AH → Option AV := kAft (Cfg.keepOut cfg 120 3) (kRun cfg (EV cfg) (kfN cfg 6) 120 none 0 (kFinS cfg (Cfg.lift cfg 120 0) Tryz.f120.results.toList) ([.block 0, .seq (sub (bodyOf Tryz.f120) [1, 1, 1])]))
noncomputable def Wy120_0 : List AV × AH → Option AV := fun p => kOpt (LOOP 0 (some [0, 1, 5, 6]) ([]) Ly120_0 p) Ay120_0
noncomputable abbrev wy99_0 (v4 : Int) (c0_0 : Int) (c0_1 : Int) (c0_2 : List UInt8) (c0_3 : List (List AV)) : Option (AV) := Wy99_0  (((fx 18 [(1, AV.ptr (0 : Nat) (0 : Nat) (0 : Nat)), (4, AV.int IntKind.i64 v4)]) : List AV), ([ABlk.rows false (4 : Nat) [[AV.int IntKind.i64 c0_0, AV.int IntKind.i64 c0_1, AV.str c0_2, AV.sl c0_3]]] : AH))
noncomputable abbrev wy64_0 (L : List (List AV)) (v4 : Int) (c0_0 : Int) (c0_1 : Int) (c0_2 : List UInt8) (c0_3 : List (List AV)) (c1_0 : Int) (c1_1 : Int) (c1_2 : List UInt8) (c1_3 : List (List AV)) : Option (AV) := Wy64_0  (((fx 21 [(0, AV.sl L), (2, AV.ptr (0 : Nat) (0 : Nat) (0 : Nat)), (3, AV.ptr (1 : Nat) (0 : Nat) (0 : Nat)), (4, AV.int IntKind.i64 v4)]) : List AV), ([ABlk.rows false (4 : Nat) [[AV.int IntKind.i64 c0_0, AV.int IntKind.i64 c0_1, AV.str c0_2, AV.sl c0_3]], ABlk.rows false (4 : Nat) [[AV.int IntKind.i64 c1_0, AV.int IntKind.i64 c1_1, AV.str c1_2, AV.sl c1_3]]] : AH))
noncomputable abbrev wy65_0 (L : List (List AV)) (nv6 : Nat) (v7 : Int) (c0_0 : Int) (c0_1 : Int) (c0_2 : List UInt8) (c0_3 : List (List AV)) (c0_4 : List (List AV)) (c0_5 : Int) (h1 : List (List AV)) : Option (AV) := Wy65_0  (((fx 32 [(0, AV.sl L), (3, AV.ptr (0 : Nat) (0 : Nat) (0 : Nat)), (6, AV.ms (1 : Nat) (0 : Nat) nv6), (7, AV.int IntKind.i64 v7)]) : List AV), ([ABlk.rows false (6 : Nat) [[AV.int IntKind.i64 c0_0, AV.int IntKind.i64 c0_1, AV.str c0_2, AV.sl c0_3, AV.sl c0_4, AV.int IntKind.i64 c0_5]], ABlk.rows true (4 : Nat) h1] : AH))
noncomputable abbrev wy29_0 (nv8 : Nat) (v9 : Int) (c0_0 : Int) (c0_1 : Int) (c0_2 : List UInt8) (c0_3 : List (List AV)) (c0_4 : List (List AV)) (c0_5 : Int) (c1_0 : Int) (c1_1 : Int) (c1_2 : List UInt8) (c1_3 : List (List AV)) (h2 : List (List AV)) : Option (AV) := Wy29_0  (((fx 159 [(3, AV.ptr (0 : Nat) (0 : Nat) (0 : Nat)), (4, AV.ptr (1 : Nat) (0 : Nat) (0 : Nat)), (8, AV.ms (2 : Nat) (0 : Nat) nv8), (9, AV.int IntKind.i64 v9)]) : List AV), ([ABlk.rows false (6 : Nat) [[AV.int IntKind.i64 c0_0, AV.int IntKind.i64 c0_1, AV.str c0_2, AV.sl c0_3, AV.sl c0_4, AV.int IntKind.i64 c0_5]], ABlk.rows false (4 : Nat) [[AV.int IntKind.i64 c1_0, AV.int IntKind.i64 c1_1, AV.str c1_2, AV.sl c1_3]], ABlk.rows true (4 : Nat) h2] : AH))
noncomputable abbrev wy28_0 (bd : List (List AV)) (nv3 : Nat) (v4 : Int) (h0 : List (List AV)) : Option (AV) := Wy28_0  (((fx 20 [(0, AV.sl bd), (3, AV.ms (0 : Nat) (0 : Nat) nv3), (4, AV.int IntKind.i64 v4)]) : List AV), ([ABlk.rows true (1 : Nat) h0] : AH))
noncomputable abbrev wy17_0 (L : List (List AV)) (v5 : Int) (c0_0 : Int) (c0_1 : Int) (c0_2 : List UInt8) (c0_3 : List (List AV)) (c0_4 : List (List AV)) (c0_5 : Int) : Option (AV) := Wy17_0  (((fx 37 [(0, AV.sl L), (3, AV.ptr (0 : Nat) (0 : Nat) (0 : Nat)), (5, AV.int IntKind.i64 v5)]) : List AV), ([ABlk.rows false (6 : Nat) [[AV.int IntKind.i64 c0_0, AV.int IntKind.i64 c0_1, AV.str c0_2, AV.sl c0_3, AV.sl c0_4, AV.int IntKind.i64 c0_5]]] : AH))
noncomputable abbrev wy87_0 (bd : List (List AV)) (n : Int) (v6 : Int) (c0_0 : Int) (c0_1 : Int) (c0_2 : List UInt8) (c0_3 : List (List AV)) : Option (AV) := Wy87_0  (((fx 26 [(0, AV.sl bd), (1, AV.int IntKind.i64 n), (4, AV.ptr (0 : Nat) (0 : Nat) (0 : Nat)), (6, AV.int IntKind.i64 v6)]) : List AV), ([ABlk.rows false (4 : Nat) [[AV.int IntKind.i64 c0_0, AV.int IntKind.i64 c0_1, AV.str c0_2, AV.sl c0_3]]] : AH))
noncomputable abbrev wy59_0 (bd : List (List AV)) (v3 : Int) : Option (AV) := Wy59_0  (((fx 51 [(0, AV.sl bd), (3, AV.int IntKind.i64 v3)]) : List AV), ([] : AH))
noncomputable abbrev wy30_0 (nv3 : Nat) (v4 : Int) (c0_0 : Int) (c0_1 : Int) (c0_2 : List UInt8) (c0_3 : List (List AV)) (c1_0 : Int) (c1_1 : Int) (c1_2 : List UInt8) (c1_3 : List (List AV)) (h2 : List (List AV)) : Option (AV) := Wy30_0  (((fx 24 [(1, AV.ptr (0 : Nat) (0 : Nat) (0 : Nat)), (2, AV.ptr (1 : Nat) (0 : Nat) (0 : Nat)), (3, AV.ms (2 : Nat) (0 : Nat) nv3), (4, AV.int IntKind.i64 v4)]) : List AV), ([ABlk.rows false (4 : Nat) [[AV.int IntKind.i64 c0_0, AV.int IntKind.i64 c0_1, AV.str c0_2, AV.sl c0_3]], ABlk.rows false (4 : Nat) [[AV.int IntKind.i64 c1_0, AV.int IntKind.i64 c1_1, AV.str c1_2, AV.sl c1_3]], ABlk.rows true (4 : Nat) h2] : AH))
noncomputable abbrev wy120_0 (A : List (List AV)) (B : List (List AV)) (v5 : Int) (v6 : Int) : Option (AV) := Wy120_0  (((fx 32 [(0, AV.sl A), (1, AV.sl B), (5, AV.int IntKind.i64 v5), (6, AV.int IntKind.i64 v6)]) : List AV), ([] : AH))
theorem r17Truth_run (b : Bool) {P : AV → Prop} (h : Gets (bif b then some (.agg [AV.int .i64 (2 : Int), .int .i64 (0 : Int), .str [(116 : UInt8), (114 : UInt8), (117 : UInt8), (101 : UInt8)], .sl []]) else some (.agg [AV.int .i64 (2 : Int), .int 
  .i64 (0 : Int), .str [(102 : UInt8), (97 : UInt8), (108 : UInt8), (115 : UInt8), (101 : UInt8)], .sl []])) P) : Gets (EVf (EV cfg) 98 ([AV.bool b] : List AV)) P :=
  Gets.ev (fun _ h => funF rfl rfl Tryz.func98 rfl h) (Gets.eq (by kernel_rfl) h)
theorem r17Truths_run (kt : Int) (nt : Int) (st : List UInt8) (lt : List (List AV)) {P : AV → Prop} (h : Gets (bif kt != (2 : Int) then some (AV.tup [.bool false, .bool false]) else bif !st == [(116 : UInt8), (114 : UInt8), (117 : UInt8), (101 : UInt8)] then bif !st == [(102 : UInt8), (97 : 
  UInt8), (108 : UInt8), (115 : UInt8), (101 : UInt8)] then some (AV.tup [.bool false, .bool false]) else some (AV.tup [.bool (st == [(116 : UInt8), (114 : UInt8), (117 : UInt8), (101 
  : UInt8)]), .bool true]) else some (AV.tup [.bool (st == [(116 : UInt8), (114 : UInt8), (117 : UInt8), (101 : UInt8)]), .bool true])) P) : Gets (EVs (EV cfg) 88 ([AV.agg [AV.int IntKind.i64 kt, AV.int IntKind.i64 nt, AV.str st, AV.sl lt]] : List AV)) P :=
  Gets.ev (fun _ h => funS rfl rfl Tryz.func88 rfl h) (Gets.eq (by kernel_rfl) h)
theorem r17Within_run (n : Int) {P : AV → Prop} (h : Gets (bif decide (n < (-576460752303423488 : Int)) then some (AV.tup [.agg [AV.int .i64 (0 : Int), .int .i64 (0 : Int), .str [], .sl []], .bool false]) else bif decide (n > (576460752303423487 
  : Int)) then some (AV.tup [.agg [AV.int .i64 (0 : Int), .int .i64 (0 : Int), .str [], .sl []], .bool false]) else some (AV.tup [.agg [AV.int .i64 (1 : Int), .int .i64 n, .str [], .sl []], 
  .bool true])) P) : Gets (EVf (EV cfg) 100 ([AV.int IntKind.i64 n] : List AV)) P :=
  Gets.ev (fun _ h => funF rfl rfl Tryz.func100 rfl h) (Gets.eq (by kernel_rfl) h)
theorem r17Product_run (a : Int) (b : Int) {P : AV → Prop} (h : Gets (bif a == (0 : Int) then kOpt (EVf (EV cfg) 100 [AV.int .i64 (0 : Int)]) fun (v : AV) => kTup v fun (cs : List AV) => kCons cs fun (c : AV) (cs : List AV) => kAgg c fun (cs_1 : List AV) 
  => kCons cs_1 fun (c : AV) (cs_2 : List AV) => kInt .i64 c fun (n : Int) => kCons cs_2 fun (c : AV) (cs_3 : List AV) => kInt .i64 c fun (n_1 : Int) => kCons cs_3 fun (c : AV) (cs_4 
  : List AV) => kStr c fun (s : List UInt8) => kCons cs_4 fun (c : AV) (cs_5 : List AV) => kSl c fun (rows : List (List AV)) => kNil cs_5 (kCons cs fun (c : AV) (cs : List AV) => kBool 
  c fun (b : Bool) => kNil cs (some (AV.tup [.agg [AV.int .i64 n, .int .i64 n_1, .str s, .sl rows], .bool b]))) else bif b == (0 : Int) then kOpt (EVf (EV cfg) 100 [AV.int .i64 (0 : Int)]) 
  fun (v : AV) => kTup v fun (cs : List AV) => kCons cs fun (c : AV) (cs : List AV) => kAgg c fun (cs_1 : List AV) => kCons cs_1 fun (c : AV) (cs_2 : List AV) => kInt .i64 c fun (n : 
  Int) => kCons cs_2 fun (c : AV) (cs_3 : List AV) => kInt .i64 c fun (n_1 : Int) => kCons cs_3 fun (c : AV) (cs_4 : List AV) => kStr c fun (s : List UInt8) => kCons cs_4 fun (c : AV) 
  (cs_5 : List AV) => kSl c fun (rows : List (List AV)) => kNil cs_5 (kCons cs fun (c : AV) (cs : List AV) => kBool c fun (b : Bool) => kNil cs (some (AV.tup [.agg [AV.int .i64 n, .int 
  .i64 n_1, .str s, .sl rows], .bool b]))) else bif decide (a > (0 : Int)) then bif decide (b > (0 : Int)) then kOpt (fromSem (Op.intDiv BinOp.quo .i64 (576460752303423487 : Int) b)) 
  fun (v : AV) => kInt .i64 v fun (n : Int) => bif decide (a > n) then some (AV.tup [.agg [AV.int .i64 (0 : Int), .int .i64 (0 : Int), .str [], .sl []], .bool false]) else bif decide (a 
  < (0 : Int)) then bif decide (b < (0 : Int)) then kOpt (fromSem (Op.intDiv BinOp.quo .i64 (576460752303423487 : Int) b)) fun (v : AV) => kInt .i64 v fun (n : Int) => bif decide (a < 
  n) then some (AV.tup [.agg [AV.int .i64 (0 : Int), .int .i64 (0 : Int), .str [], .sl []], .bool false]) else bif decide (a > (0 : Int)) then bif decide (b < (0 : Int)) then kOpt (fromSem 
  (Op.intDiv BinOp.quo .i64 (-576460752303423488 : Int) a)) fun (v : AV) => kInt .i64 v fun (n : Int) => bif decide (b < n) then some (AV.tup [.agg [AV.int .i64 (0 : Int), .int .i64 (0 
  : Int), .str [], .sl []], .bool false]) else bif decide (a < (0 : Int)) then bif decide (b > (0 : Int)) then kOpt (fromSem (Op.intDiv BinOp.quo .i64 (-576460752303423488 : Int) b)) 
  fun (v : AV) => kInt .i64 v fun (n : Int) => bif decide (a < n) then some (AV.tup [.agg [AV.int .i64 (0 : Int), .int .i64 (0 : Int), .str [], .sl []], .bool false]) else kOpt (EVf (EV 
  cfg) 100 [AV.int .i64 (IntKind.wrap .i64 (a * b))]) fun (v : AV) => kTup v fun (cs : List AV) => kCons cs fun (c : AV) (cs : List AV) => kAgg c fun (cs_1 : List AV) => kCons cs_1 fun 
  (c : AV) (cs_2 : List AV) => kInt .i64 c fun (n : Int) => kCons cs_2 fun (c : AV) (cs_3 : List AV) => kInt .i64 c fun (n_1 : Int) => kCons cs_3 fun (c : AV) (cs_4 : List AV) => kStr 
  c fun (s : List UInt8) => kCons cs_4 fun (c : AV) (cs_5 : List AV) => kSl c fun (rows : List (List AV)) => kNil cs_5 (kCons cs fun (c : AV) (cs : List AV) => kBool c fun (b : Bool) 
  => kNil cs (some (AV.tup [.agg [AV.int .i64 n, .int .i64 n_1, .str s, .sl rows], .bool b]))) else kOpt (EVf (EV cfg) 100 [AV.int .i64 (IntKind.wrap .i64 (a * b))]) fun (v : AV) => kTup 
  v fun (cs : List AV) => kCons cs fun (c : AV) (cs : List AV) => kAgg c fun (cs_1 : List AV) => kCons cs_1 fun (c : AV) (cs_2 : List AV) => kInt .i64 c fun (n : Int) => kCons cs_2 fun 
  (c : AV) (cs_3 : List AV) => kInt .i64 c fun (n_1 : Int) => kCons cs_3 fun (c : AV) (cs_4 : List AV) => kStr c fun (s : List UInt8) => kCons cs_4 fun (c : AV) (cs_5 : List AV) => kSl 
  c fun (rows : List (List AV)) => kNil cs_5 (kCons cs fun (c : AV) (cs : List AV) => kBool c fun (b : Bool) => kNil cs (some (AV.tup [.agg [AV.int .i64 n, .int .i64 n_1, .str s, .sl rows], 
  .bool b]))) else kOpt (EVf (EV cfg) 100 [AV.int .i64 (IntKind.wrap .i64 (a * b))]) fun (v : AV) => kTup v fun (cs : List AV) => kCons cs fun (c : AV) (cs : List AV) => kAgg c fun (cs_1 
  : List AV) => kCons cs_1 fun (c : AV) (cs_2 : List AV) => kInt .i64 c fun (n : Int) => kCons cs_2 fun (c : AV) (cs_3 : List AV) => kInt .i64 c fun (n_1 : Int) => kCons cs_3 fun (c : 
  AV) (cs_4 : List AV) => kStr c fun (s : List UInt8) => kCons cs_4 fun (c : AV) (cs_5 : List AV) => kSl c fun (rows : List (List AV)) => kNil cs_5 (kCons cs fun (c : AV) (cs : List AV) 
  => kBool c fun (b : Bool) => kNil cs (some (AV.tup [.agg [AV.int .i64 n, .int .i64 n_1, .str s, .sl rows], .bool b]))) else bif decide (a < (0 : Int)) then bif decide (b > (0 : Int)) 
  then kOpt (fromSem (Op.intDiv BinOp.quo .i64 (-576460752303423488 : Int) b)) fun (v : AV) => kInt .i64 v fun (n : Int) => bif decide (a < n) then some (AV.tup [.agg [AV.int .i64 (0 : 
  Int), .int .i64 (0 : Int), .str [], .sl []], .bool false]) else kOpt (EVf (EV cfg) 100 [AV.int .i64 (IntKind.wrap .i64 (a * b))]) fun (v : AV) => kTup v fun (cs : List AV) => kCons cs 
  fun (c : AV) (cs : List AV) => kAgg c fun (cs_1 : List AV) => kCons cs_1 fun (c : AV) (cs_2 : List AV) => kInt .i64 c fun (n : Int) => kCons cs_2 fun (c : AV) (cs_3 : List AV) => kInt 
  .i64 c fun (n_1 : Int) => kCons cs_3 fun (c : AV) (cs_4 : List AV) => kStr c fun (s : List UInt8) => kCons cs_4 fun (c : AV) (cs_5 : List AV) => kSl c fun (rows : List (List AV)) => 
  kNil cs_5 (kCons cs fun (c : AV) (cs : List AV) => kBool c fun (b : Bool) => kNil cs (some (AV.tup [.agg [AV.int .i64 n, .int .i64 n_1, .str s, .sl rows], .bool b]))) else kOpt (EVf (EV 
  cfg) 100 [AV.int .i64 (IntKind.wrap .i64 (a * b))]) fun (v : AV) => kTup v fun (cs : List AV) => kCons cs fun (c : AV) (cs : List AV) => kAgg c fun (cs_1 : List AV) => kCons cs_1 fun 
  (c : AV) (cs_2 : List AV) => kInt .i64 c fun (n : Int) => kCons cs_2 fun (c : AV) (cs_3 : List AV) => kInt .i64 c fun (n_1 : Int) => kCons cs_3 fun (c : AV) (cs_4 : List AV) => kStr 
  c fun (s : List UInt8) => kCons cs_4 fun (c : AV) (cs_5 : List AV) => kSl c fun (rows : List (List AV)) => kNil cs_5 (kCons cs fun (c : AV) (cs : List AV) => kBool c fun (b : Bool) 
  => kNil cs (some (AV.tup [.agg [AV.int .i64 n, .int .i64 n_1, .str s, .sl rows], .bool b]))) else kOpt (EVf (EV cfg) 100 [AV.int .i64 (IntKind.wrap .i64 (a * b))]) fun (v : AV) => kTup 
  v fun (cs : List AV) => kCons cs fun (c : AV) (cs : List AV) => kAgg c fun (cs_1 : List AV) => kCons cs_1 fun (c : AV) (cs_2 : List AV) => kInt .i64 c fun (n : Int) => kCons cs_2 fun 
  (c : AV) (cs_3 : List AV) => kInt .i64 c fun (n_1 : Int) => kCons cs_3 fun (c : AV) (cs_4 : List AV) => kStr c fun (s : List UInt8) => kCons cs_4 fun (c : AV) (cs_5 : List AV) => kSl 
  c fun (rows : List (List AV)) => kNil cs_5 (kCons cs fun (c : AV) (cs : List AV) => kBool c fun (b : Bool) => kNil cs (some (AV.tup [.agg [AV.int .i64 n, .int .i64 n_1, .str s, .sl rows], 
  .bool b]))) else bif decide (a < (0 : Int)) then bif decide (b > (0 : Int)) then kOpt (fromSem (Op.intDiv BinOp.quo .i64 (-576460752303423488 : Int) b)) fun (v : AV) => kInt .i64 v 
  fun (n : Int) => bif decide (a < n) then some (AV.tup [.agg [AV.int .i64 (0 : Int), .int .i64 (0 : Int), .str [], .sl []], .bool false]) else kOpt (EVf (EV cfg) 100 [AV.int .i64 (IntKind.wrap 
  .i64 (a * b))]) fun (v : AV) => kTup v fun (cs : List AV) => kCons cs fun (c : AV) (cs : List AV) => kAgg c fun (cs_1 : List AV) => kCons cs_1 fun (c : AV) (cs_2 : List AV) => kInt 
  .i64 c fun (n : Int) => kCons cs_2 fun (c : AV) (cs_3 : List AV) => kInt .i64 c fun (n_1 : Int) => kCons cs_3 fun (c : AV) (cs_4 : List AV) => kStr c fun (s : List UInt8) => kCons cs_4 
  fun (c : AV) (cs_5 : List AV) => kSl c fun (rows : List (List AV)) => kNil cs_5 (kCons cs fun (c : AV) (cs : List AV) => kBool c fun (b : Bool) => kNil cs (some (AV.tup [.agg [AV.int 
  .i64 n, .int .i64 n_1, .str s, .sl rows], .bool b]))) else kOpt (EVf (EV cfg) 100 [AV.int .i64 (IntKind.wrap .i64 (a * b))]) fun (v : AV) => kTup v fun (cs : List AV) => kCons cs fun 
  (c : AV) (cs : List AV) => kAgg c fun (cs_1 : List AV) => kCons cs_1 fun (c : AV) (cs_2 : List AV) => kInt .i64 c fun (n : Int) => kCons cs_2 fun (c : AV) (cs_3 : List AV) => kInt .i64 
  c fun (n_1 : Int) => kCons cs_3 fun (c : AV) (cs_4 : List AV) => kStr c fun (s : List UInt8) => kCons cs_4 fun (c : AV) (cs_5 : List AV) => kSl c fun (rows : List (List AV)) => kNil 
  cs_5 (kCons cs fun (c : AV) (cs : List AV) => kBool c fun (b : Bool) => kNil cs (some (AV.tup [.agg [AV.int .i64 n, .int .i64 n_1, .str s, .sl rows], .bool b]))) else kOpt (EVf (EV cfg) 
  100 [AV.int .i64 (IntKind.wrap .i64 (a * b))]) fun (v : AV) => kTup v fun (cs : List AV) => kCons cs fun (c : AV) (cs : List AV) => kAgg c fun (cs_1 : List AV) => kCons cs_1 fun (c : 
  AV) (cs_2 : List AV) => kInt .i64 c fun (n : Int) => kCons cs_2 fun (c : AV) (cs_3 : List AV) => kInt .i64 c fun (n_1 : Int) => kCons cs_3 fun (c : AV) (cs_4 : List AV) => kStr c fun 
  (s : List UInt8) => kCons cs_4 fun (c : AV) (cs_5 : List AV) => kSl c fun (rows : List (List AV)) => kNil cs_5 (kCons cs fun (c : AV) (cs : List AV) => kBool c fun (b : Bool) => kNil 
  cs (some (AV.tup [.agg [AV.int .i64 n, .int .i64 n_1, .str s, .sl rows], .bool b]))) else bif decide (a > (0 : Int)) then bif decide (b < (0 : Int)) then kOpt (fromSem (Op.intDiv BinOp.quo 
  .i64 (-576460752303423488 : Int) a)) fun (v : AV) => kInt .i64 v fun (n : Int) => bif decide (b < n) then some (AV.tup [.agg [AV.int .i64 (0 : Int), .int .i64 (0 : Int), .str [], .sl 
  []], .bool false]) else bif decide (a < (0 : Int)) then bif decide (b > (0 : Int)) then kOpt (fromSem (Op.intDiv BinOp.quo .i64 (-576460752303423488 : Int) b)) fun (v : AV) => kInt 
  .i64 v fun (n : Int) => bif decide (a < n) then some (AV.tup [.agg [AV.int .i64 (0 : Int), .int .i64 (0 : Int), .str [], .sl []], .bool false]) else kOpt (EVf (EV cfg) 100 [AV.int .i64 
  (IntKind.wrap .i64 (a * b))]) fun (v : AV) => kTup v fun (cs : List AV) => kCons cs fun (c : AV) (cs : List AV) => kAgg c fun (cs_1 : List AV) => kCons cs_1 fun (c : AV) (cs_2 : List 
  AV) => kInt .i64 c fun (n : Int) => kCons cs_2 fun (c : AV) (cs_3 : List AV) => kInt .i64 c fun (n_1 : Int) => kCons cs_3 fun (c : AV) (cs_4 : List AV) => kStr c fun (s : List UInt8) 
  => kCons cs_4 fun (c : AV) (cs_5 : List AV) => kSl c fun (rows : List (List AV)) => kNil cs_5 (kCons cs fun (c : AV) (cs : List AV) => kBool c fun (b : Bool) => kNil cs (some (AV.tup 
  [.agg [AV.int .i64 n, .int .i64 n_1, .str s, .sl rows], .bool b]))) else kOpt (EVf (EV cfg) 100 [AV.int .i64 (IntKind.wrap .i64 (a * b))]) fun (v : AV) => kTup v fun (cs : List AV) => kCons 
  cs fun (c : AV) (cs : List AV) => kAgg c fun (cs_1 : List AV) => kCons cs_1 fun (c : AV) (cs_2 : List AV) => kInt .i64 c fun (n : Int) => kCons cs_2 fun (c : AV) (cs_3 : List AV) => 
  kInt .i64 c fun (n_1 : Int) => kCons cs_3 fun (c : AV) (cs_4 : List AV) => kStr c fun (s : List UInt8) => kCons cs_4 fun (c : AV) (cs_5 : List AV) => kSl c fun (rows : List (List AV)) 
  => kNil cs_5 (kCons cs fun (c : AV) (cs : List AV) => kBool c fun (b : Bool) => kNil cs (some (AV.tup [.agg [AV.int .i64 n, .int .i64 n_1, .str s, .sl rows], .bool b]))) else kOpt (EVf 
  (EV cfg) 100 [AV.int .i64 (IntKind.wrap .i64 (a * b))]) fun (v : AV) => kTup v fun (cs : List AV) => kCons cs fun (c : AV) (cs : List AV) => kAgg c fun (cs_1 : List AV) => kCons cs_1 
  fun (c : AV) (cs_2 : List AV) => kInt .i64 c fun (n : Int) => kCons cs_2 fun (c : AV) (cs_3 : List AV) => kInt .i64 c fun (n_1 : Int) => kCons cs_3 fun (c : AV) (cs_4 : List AV) => 
  kStr c fun (s : List UInt8) => kCons cs_4 fun (c : AV) (cs_5 : List AV) => kSl c fun (rows : List (List AV)) => kNil cs_5 (kCons cs fun (c : AV) (cs : List AV) => kBool c fun (b : Bool) 
  => kNil cs (some (AV.tup [.agg [AV.int .i64 n, .int .i64 n_1, .str s, .sl rows], .bool b]))) else bif decide (a < (0 : Int)) then bif decide (b > (0 : Int)) then kOpt (fromSem (Op.intDiv 
  BinOp.quo .i64 (-576460752303423488 : Int) b)) fun (v : AV) => kInt .i64 v fun (n : Int) => bif decide (a < n) then some (AV.tup [.agg [AV.int .i64 (0 : Int), .int .i64 (0 : Int), .str 
  [], .sl []], .bool false]) else kOpt (EVf (EV cfg) 100 [AV.int .i64 (IntKind.wrap .i64 (a * b))]) fun (v : AV) => kTup v fun (cs : List AV) => kCons cs fun (c : AV) (cs : List AV) => 
  kAgg c fun (cs_1 : List AV) => kCons cs_1 fun (c : AV) (cs_2 : List AV) => kInt .i64 c fun (n : Int) => kCons cs_2 fun (c : AV) (cs_3 : List AV) => kInt .i64 c fun (n_1 : Int) => kCons 
  cs_3 fun (c : AV) (cs_4 : List AV) => kStr c fun (s : List UInt8) => kCons cs_4 fun (c : AV) (cs_5 : List AV) => kSl c fun (rows : List (List AV)) => kNil cs_5 (kCons cs fun (c : AV) 
  (cs : List AV) => kBool c fun (b : Bool) => kNil cs (some (AV.tup [.agg [AV.int .i64 n, .int .i64 n_1, .str s, .sl rows], .bool b]))) else kOpt (EVf (EV cfg) 100 [AV.int .i64 (IntKind.wrap 
  .i64 (a * b))]) fun (v : AV) => kTup v fun (cs : List AV) => kCons cs fun (c : AV) (cs : List AV) => kAgg c fun (cs_1 : List AV) => kCons cs_1 fun (c : AV) (cs_2 : List AV) => kInt 
  .i64 c fun (n : Int) => kCons cs_2 fun (c : AV) (cs_3 : List AV) => kInt .i64 c fun (n_1 : Int) => kCons cs_3 fun (c : AV) (cs_4 : List AV) => kStr c fun (s : List UInt8) => kCons cs_4 
  fun (c : AV) (cs_5 : List AV) => kSl c fun (rows : List (List AV)) => kNil cs_5 (kCons cs fun (c : AV) (cs : List AV) => kBool c fun (b : Bool) => kNil cs (some (AV.tup [.agg [AV.int 
  .i64 n, .int .i64 n_1, .str s, .sl rows], .bool b]))) else kOpt (EVf (EV cfg) 100 [AV.int .i64 (IntKind.wrap .i64 (a * b))]) fun (v : AV) => kTup v fun (cs : List AV) => kCons cs fun 
  (c : AV) (cs : List AV) => kAgg c fun (cs_1 : List AV) => kCons cs_1 fun (c : AV) (cs_2 : List AV) => kInt .i64 c fun (n : Int) => kCons cs_2 fun (c : AV) (cs_3 : List AV) => kInt .i64 
  c fun (n_1 : Int) => kCons cs_3 fun (c : AV) (cs_4 : List AV) => kStr c fun (s : List UInt8) => kCons cs_4 fun (c : AV) (cs_5 : List AV) => kSl c fun (rows : List (List AV)) => kNil 
  cs_5 (kCons cs fun (c : AV) (cs : List AV) => kBool c fun (b : Bool) => kNil cs (some (AV.tup [.agg [AV.int .i64 n, .int .i64 n_1, .str s, .sl rows], .bool b]))) else bif decide (a < 
  (0 : Int)) then bif decide (b > (0 : Int)) then kOpt (fromSem (Op.intDiv BinOp.quo .i64 (-576460752303423488 : Int) b)) fun (v : AV) => kInt .i64 v fun (n : Int) => bif decide (a < 
  n) then some (AV.tup [.agg [AV.int .i64 (0 : Int), .int .i64 (0 : Int), .str [], .sl []], .bool false]) else kOpt (EVf (EV cfg) 100 [AV.int .i64 (IntKind.wrap .i64 (a * b))]) fun (v : AV) 
  => kTup v fun (cs : List AV) => kCons cs fun (c : AV) (cs : List AV) => kAgg c fun (cs_1 : List AV) => kCons cs_1 fun (c : AV) (cs_2 : List AV) => kInt .i64 c fun (n : Int) => kCons 
  cs_2 fun (c : AV) (cs_3 : List AV) => kInt .i64 c fun (n_1 : Int) => kCons cs_3 fun (c : AV) (cs_4 : List AV) => kStr c fun (s : List UInt8) => kCons cs_4 fun (c : AV) (cs_5 : List 
  AV) => kSl c fun (rows : List (List AV)) => kNil cs_5 (kCons cs fun (c : AV) (cs : List AV) => kBool c fun (b : Bool) => kNil cs (some (AV.tup [.agg [AV.int .i64 n, .int .i64 n_1, .str 
  s, .sl rows], .bool b]))) else kOpt (EVf (EV cfg) 100 [AV.int .i64 (IntKind.wrap .i64 (a * b))]) fun (v : AV) => kTup v fun (cs : List AV) => kCons cs fun (c : AV) (cs : List AV) => kAgg 
  c fun (cs_1 : List AV) => kCons cs_1 fun (c : AV) (cs_2 : List AV) => kInt .i64 c fun (n : Int) => kCons cs_2 fun (c : AV) (cs_3 : List AV) => kInt .i64 c fun (n_1 : Int) => kCons cs_3 
  fun (c : AV) (cs_4 : List AV) => kStr c fun (s : List UInt8) => kCons cs_4 fun (c : AV) (cs_5 : List AV) => kSl c fun (rows : List (List AV)) => kNil cs_5 (kCons cs fun (c : AV) (cs 
  : List AV) => kBool c fun (b : Bool) => kNil cs (some (AV.tup [.agg [AV.int .i64 n, .int .i64 n_1, .str s, .sl rows], .bool b]))) else kOpt (EVf (EV cfg) 100 [AV.int .i64 (IntKind.wrap 
  .i64 (a * b))]) fun (v : AV) => kTup v fun (cs : List AV) => kCons cs fun (c : AV) (cs : List AV) => kAgg c fun (cs_1 : List AV) => kCons cs_1 fun (c : AV) (cs_2 : List AV) => kInt 
  .i64 c fun (n : Int) => kCons cs_2 fun (c : AV) (cs_3 : List AV) => kInt .i64 c fun (n_1 : Int) => kCons cs_3 fun (c : AV) (cs_4 : List AV) => kStr c fun (s : List UInt8) => kCons cs_4 
  fun (c : AV) (cs_5 : List AV) => kSl c fun (rows : List (List AV)) => kNil cs_5 (kCons cs fun (c : AV) (cs : List AV) => kBool c fun (b : Bool) => kNil cs (some (AV.tup [.agg [AV.int 
  .i64 n, .int .i64 n_1, .str s, .sl rows], .bool b]))) else bif decide (a > (0 : Int)) then bif decide (b < (0 : Int)) then kOpt (fromSem (Op.intDiv BinOp.quo .i64 (-576460752303423488 
  : Int) a)) fun (v : AV) => kInt .i64 v fun (n : Int) => bif decide (b < n) then some (AV.tup [.agg [AV.int .i64 (0 : Int), .int .i64 (0 : Int), .str [], .sl []], .bool false]) else bif 
  decide (a < (0 : Int)) then bif decide (b > (0 : Int)) then kOpt (fromSem (Op.intDiv BinOp.quo .i64 (-576460752303423488 : Int) b)) fun (v : AV) => kInt .i64 v fun (n : Int) => bif 
  decide (a < n) then some (AV.tup [.agg [AV.int .i64 (0 : Int), .int .i64 (0 : Int), .str [], .sl []], .bool false]) else kOpt (EVf (EV cfg) 100 [AV.int .i64 (IntKind.wrap .i64 (a * b))]) 
  fun (v : AV) => kTup v fun (cs : List AV) => kCons cs fun (c : AV) (cs : List AV) => kAgg c fun (cs_1 : List AV) => kCons cs_1 fun (c : AV) (cs_2 : List AV) => kInt .i64 c fun (n : 
  Int) => kCons cs_2 fun (c : AV) (cs_3 : List AV) => kInt .i64 c fun (n_1 : Int) => kCons cs_3 fun (c : AV) (cs_4 : List AV) => kStr c fun (s : List UInt8) => kCons cs_4 fun (c : AV) 
  (cs_5 : List AV) => kSl c fun (rows : List (List AV)) => kNil cs_5 (kCons cs fun (c : AV) (cs : List AV) => kBool c fun (b : Bool) => kNil cs (some (AV.tup [.agg [AV.int .i64 n, .int 
  .i64 n_1, .str s, .sl rows], .bool b]))) else kOpt (EVf (EV cfg) 100 [AV.int .i64 (IntKind.wrap .i64 (a * b))]) fun (v : AV) => kTup v fun (cs : List AV) => kCons cs fun (c : AV) (cs 
  : List AV) => kAgg c fun (cs_1 : List AV) => kCons cs_1 fun (c : AV) (cs_2 : List AV) => kInt .i64 c fun (n : Int) => kCons cs_2 fun (c : AV) (cs_3 : List AV) => kInt .i64 c fun (n_1 
  : Int) => kCons cs_3 fun (c : AV) (cs_4 : List AV) => kStr c fun (s : List UInt8) => kCons cs_4 fun (c : AV) (cs_5 : List AV) => kSl c fun (rows : List (List AV)) => kNil cs_5 (kCons 
  cs fun (c : AV) (cs : List AV) => kBool c fun (b : Bool) => kNil cs (some (AV.tup [.agg [AV.int .i64 n, .int .i64 n_1, .str s, .sl rows], .bool b]))) else kOpt (EVf (EV cfg) 100 [AV.int 
  .i64 (IntKind.wrap .i64 (a * b))]) fun (v : AV) => kTup v fun (cs : List AV) => kCons cs fun (c : AV) (cs : List AV) => kAgg c fun (cs_1 : List AV) => kCons cs_1 fun (c : AV) (cs_2 
  : List AV) => kInt .i64 c fun (n : Int) => kCons cs_2 fun (c : AV) (cs_3 : List AV) => kInt .i64 c fun (n_1 : Int) => kCons cs_3 fun (c : AV) (cs_4 : List AV) => kStr c fun (s : List 
  UInt8) => kCons cs_4 fun (c : AV) (cs_5 : List AV) => kSl c fun (rows : List (List AV)) => kNil cs_5 (kCons cs fun (c : AV) (cs : List AV) => kBool c fun (b : Bool) => kNil cs (some 
  (AV.tup [.agg [AV.int .i64 n, .int .i64 n_1, .str s, .sl rows], .bool b]))) else bif decide (a < (0 : Int)) then bif decide (b > (0 : Int)) then kOpt (fromSem (Op.intDiv BinOp.quo .i64 
  (-576460752303423488 : Int) b)) fun (v : AV) => kInt .i64 v fun (n : Int) => bif decide (a < n) then some (AV.tup [.agg [AV.int .i64 (0 : Int), .int .i64 (0 : Int), .str [], .sl []], 
  .bool false]) else kOpt (EVf (EV cfg) 100 [AV.int .i64 (IntKind.wrap .i64 (a * b))]) fun (v : AV) => kTup v fun (cs : List AV) => kCons cs fun (c : AV) (cs : List AV) => kAgg c fun (cs_1 
  : List AV) => kCons cs_1 fun (c : AV) (cs_2 : List AV) => kInt .i64 c fun (n : Int) => kCons cs_2 fun (c : AV) (cs_3 : List AV) => kInt .i64 c fun (n_1 : Int) => kCons cs_3 fun (c : 
  AV) (cs_4 : List AV) => kStr c fun (s : List UInt8) => kCons cs_4 fun (c : AV) (cs_5 : List AV) => kSl c fun (rows : List (List AV)) => kNil cs_5 (kCons cs fun (c : AV) (cs : List AV) 
  => kBool c fun (b : Bool) => kNil cs (some (AV.tup [.agg [AV.int .i64 n, .int .i64 n_1, .str s, .sl rows], .bool b]))) else kOpt (EVf (EV cfg) 100 [AV.int .i64 (IntKind.wrap .i64 (a * b))]) 
  fun (v : AV) => kTup v fun (cs : List AV) => kCons cs fun (c : AV) (cs : List AV) => kAgg c fun (cs_1 : List AV) => kCons cs_1 fun (c : AV) (cs_2 : List AV) => kInt .i64 c fun (n : 
  Int) => kCons cs_2 fun (c : AV) (cs_3 : List AV) => kInt .i64 c fun (n_1 : Int) => kCons cs_3 fun (c : AV) (cs_4 : List AV) => kStr c fun (s : List UInt8) => kCons cs_4 fun (c : AV) 
  (cs_5 : List AV) => kSl c fun (rows : List (List AV)) => kNil cs_5 (kCons cs fun (c : AV) (cs : List AV) => kBool c fun (b : Bool) => kNil cs (some (AV.tup [.agg [AV.int .i64 n, .int 
  .i64 n_1, .str s, .sl rows], .bool b]))) else kOpt (EVf (EV cfg) 100 [AV.int .i64 (IntKind.wrap .i64 (a * b))]) fun (v : AV) => kTup v fun (cs : List AV) => kCons cs fun (c : AV) (cs 
  : List AV) => kAgg c fun (cs_1 : List AV) => kCons cs_1 fun (c : AV) (cs_2 : List AV) => kInt .i64 c fun (n : Int) => kCons cs_2 fun (c : AV) (cs_3 : List AV) => kInt .i64 c fun (n_1 
  : Int) => kCons cs_3 fun (c : AV) (cs_4 : List AV) => kStr c fun (s : List UInt8) => kCons cs_4 fun (c : AV) (cs_5 : List AV) => kSl c fun (rows : List (List AV)) => kNil cs_5 (kCons 
  cs fun (c : AV) (cs : List AV) => kBool c fun (b : Bool) => kNil cs (some (AV.tup [.agg [AV.int .i64 n, .int .i64 n_1, .str s, .sl rows], .bool b]))) else bif decide (a < (0 : Int)) then 
  bif decide (b > (0 : Int)) then kOpt (fromSem (Op.intDiv BinOp.quo .i64 (-576460752303423488 : Int) b)) fun (v : AV) => kInt .i64 v fun (n : Int) => bif decide (a < n) then some (AV.tup 
  [.agg [AV.int .i64 (0 : Int), .int .i64 (0 : Int), .str [], .sl []], .bool false]) else kOpt (EVf (EV cfg) 100 [AV.int .i64 (IntKind.wrap .i64 (a * b))]) fun (v : AV) => kTup v fun (cs 
  : List AV) => kCons cs fun (c : AV) (cs : List AV) => kAgg c fun (cs_1 : List AV) => kCons cs_1 fun (c : AV) (cs_2 : List AV) => kInt .i64 c fun (n : Int) => kCons cs_2 fun (c : AV) 
  (cs_3 : List AV) => kInt .i64 c fun (n_1 : Int) => kCons cs_3 fun (c : AV) (cs_4 : List AV) => kStr c fun (s : List UInt8) => kCons cs_4 fun (c : AV) (cs_5 : List AV) => kSl c fun (rows 
  : List (List AV)) => kNil cs_5 (kCons cs fun (c : AV) (cs : List AV) => kBool c fun (b : Bool) => kNil cs (some (AV.tup [.agg [AV.int .i64 n, .int .i64 n_1, .str s, .sl rows], .bool b]))) 
  else kOpt (EVf (EV cfg) 100 [AV.int .i64 (IntKind.wrap .i64 (a * b))]) fun (v : AV) => kTup v fun (cs : List AV) => kCons cs fun (c : AV) (cs : List AV) => kAgg c fun (cs_1 : List AV) 
  => kCons cs_1 fun (c : AV) (cs_2 : List AV) => kInt .i64 c fun (n : Int) => kCons cs_2 fun (c : AV) (cs_3 : List AV) => kInt .i64 c fun (n_1 : Int) => kCons cs_3 fun (c : AV) (cs_4 
  : List AV) => kStr c fun (s : List UInt8) => kCons cs_4 fun (c : AV) (cs_5 : List AV) => kSl c fun (rows : List (List AV)) => kNil cs_5 (kCons cs fun (c : AV) (cs : List AV) => kBool 
  c fun (b : Bool) => kNil cs (some (AV.tup [.agg [AV.int .i64 n, .int .i64 n_1, .str s, .sl rows], .bool b]))) else kOpt (EVf (EV cfg) 100 [AV.int .i64 (IntKind.wrap .i64 (a * b))]) fun 
  (v : AV) => kTup v fun (cs : List AV) => kCons cs fun (c : AV) (cs : List AV) => kAgg c fun (cs_1 : List AV) => kCons cs_1 fun (c : AV) (cs_2 : List AV) => kInt .i64 c fun (n : Int) 
  => kCons cs_2 fun (c : AV) (cs_3 : List AV) => kInt .i64 c fun (n_1 : Int) => kCons cs_3 fun (c : AV) (cs_4 : List AV) => kStr c fun (s : List UInt8) => kCons cs_4 fun (c : AV) (cs_5 
  : List AV) => kSl c fun (rows : List (List AV)) => kNil cs_5 (kCons cs fun (c : AV) (cs : List AV) => kBool c fun (b : Bool) => kNil cs (some (AV.tup [.agg [AV.int .i64 n, .int .i64 n_1, 
  .str s, .sl rows], .bool b]))) else bif decide (a < (0 : Int)) then bif decide (b < (0 : Int)) then kOpt (fromSem (Op.intDiv BinOp.quo .i64 (576460752303423487 : Int) b)) fun (v : AV) 
  => kInt .i64 v fun (n : Int) => bif decide (a < n) then some (AV.tup [.agg [AV.int .i64 (0 : Int), .int .i64 (0 : Int), .str [], .sl []], .bool false]) else bif decide (a > (0 : Int)) 
  then bif decide (b < (0 : Int)) then kOpt (fromSem (Op.intDiv BinOp.quo .i64 (-576460752303423488 : Int) a)) fun (v : AV) => kInt .i64 v fun (n : Int) => bif decide (b < n) then some 
  (AV.tup [.agg [AV.int .i64 (0 : Int), .int .i64 (0 : Int), .str [], .sl []], .bool false]) else bif decide (a < (0 : Int)) then bif decide (b > (0 : Int)) then kOpt (fromSem (Op.intDiv 
  BinOp.quo .i64 (-576460752303423488 : Int) b)) fun (v : AV) => kInt .i64 v fun (n : Int) => bif decide (a < n) then some (AV.tup [.agg [AV.int .i64 (0 : Int), .int .i64 (0 : Int), .str 
  [], .sl []], .bool false]) else kOpt (EVf (EV cfg) 100 [AV.int .i64 (IntKind.wrap .i64 (a * b))]) fun (v : AV) => kTup v fun (cs : List AV) => kCons cs fun (c : AV) (cs : List AV) => 
  kAgg c fun (cs_1 : List AV) => kCons cs_1 fun (c : AV) (cs_2 : List AV) => kInt .i64 c fun (n : Int) => kCons cs_2 fun (c : AV) (cs_3 : List AV) => kInt .i64 c fun (n_1 : Int) => kCons 
  cs_3 fun (c : AV) (cs_4 : List AV) => kStr c fun (s : List UInt8) => kCons cs_4 fun (c : AV) (cs_5 : List AV) => kSl c fun (rows : List (List AV)) => kNil cs_5 (kCons cs fun (c : AV) 
  (cs : List AV) => kBool c fun (b : Bool) => kNil cs (some (AV.tup [.agg [AV.int .i64 n, .int .i64 n_1, .str s, .sl rows], .bool b]))) else kOpt (EVf (EV cfg) 100 [AV.int .i64 (IntKind.wrap 
  .i64 (a * b))]) fun (v : AV) => kTup v fun (cs : List AV) => kCons cs fun (c : AV) (cs : List AV) => kAgg c fun (cs_1 : List AV) => kCons cs_1 fun (c : AV) (cs_2 : List AV) => kInt 
  .i64 c fun (n : Int) => kCons cs_2 fun (c : AV) (cs_3 : List AV) => kInt .i64 c fun (n_1 : Int) => kCons cs_3 fun (c : AV) (cs_4 : List AV) => kStr c fun (s : List UInt8) => kCons cs_4 
  fun (c : AV) (cs_5 : List AV) => kSl c fun (rows : List (List AV)) => kNil cs_5 (kCons cs fun (c : AV) (cs : List AV) => kBool c fun (b : Bool) => kNil cs (some (AV.tup [.agg [AV.int 
  .i64 n, .int .i64 n_1, .str s, .sl rows], .bool b]))) else kOpt (EVf (EV cfg) 100 [AV.int .i64 (IntKind.wrap .i64 (a * b))]) fun (v : AV) => kTup v fun (cs : List AV) => kCons cs fun 
  (c : AV) (cs : List AV) => kAgg c fun (cs_1 : List AV) => kCons cs_1 fun (c : AV) (cs_2 : List AV) => kInt .i64 c fun (n : Int) => kCons cs_2 fun (c : AV) (cs_3 : List AV) => kInt .i64 
  c fun (n_1 : Int) => kCons cs_3 fun (c : AV) (cs_4 : List AV) => kStr c fun (s : List UInt8) => kCons cs_4 fun (c : AV) (cs_5 : List AV) => kSl c fun (rows : List (List AV)) => kNil 
  cs_5 (kCons cs fun (c : AV) (cs : List AV) => kBool c fun (b : Bool) => kNil cs (some (AV.tup [.agg [AV.int .i64 n, .int .i64 n_1, .str s, .sl rows], .bool b]))) else bif decide (a < 
  (0 : Int)) then bif decide (b > (0 : Int)) then kOpt (fromSem (Op.intDiv BinOp.quo .i64 (-576460752303423488 : Int) b)) fun (v : AV) => kInt .i64 v fun (n : Int) => bif decide (a < 
  n) then some (AV.tup [.agg [AV.int .i64 (0 : Int), .int .i64 (0 : Int), .str [], .sl []], .bool false]) else kOpt (EVf (EV cfg) 100 [AV.int .i64 (IntKind.wrap .i64 (a * b))]) fun (v : AV) 
  => kTup v fun (cs : List AV) => kCons cs fun (c : AV) (cs : List AV) => kAgg c fun (cs_1 : List AV) => kCons cs_1 fun (c : AV) (cs_2 : List AV) => kInt .i64 c fun (n : Int) => kCons 
  cs_2 fun (c : AV) (cs_3 : List AV) => kInt .i64 c fun (n_1 : Int) => kCons cs_3 fun (c : AV) (cs_4 : List AV) => kStr c fun (s : List UInt8) => kCons cs_4 fun (c : AV) (cs_5 : List 
  AV) => kSl c fun (rows : List (List AV)) => kNil cs_5 (kCons cs fun (c : AV) (cs : List AV) => kBool c fun (b : Bool) => kNil cs (some (AV.tup [.agg [AV.int .i64 n, .int .i64 n_1, .str 
  s, .sl rows], .bool b]))) else kOpt (EVf (EV cfg) 100 [AV.int .i64 (IntKind.wrap .i64 (a * b))]) fun (v : AV) => kTup v fun (cs : List AV) => kCons cs fun (c : AV) (cs : List AV) => kAgg 
  c fun (cs_1 : List AV) => kCons cs_1 fun (c : AV) (cs_2 : List AV) => kInt .i64 c fun (n : Int) => kCons cs_2 fun (c : AV) (cs_3 : List AV) => kInt .i64 c fun (n_1 : Int) => kCons cs_3 
  fun (c : AV) (cs_4 : List AV) => kStr c fun (s : List UInt8) => kCons cs_4 fun (c : AV) (cs_5 : List AV) => kSl c fun (rows : List (List AV)) => kNil cs_5 (kCons cs fun (c : AV) (cs 
  : List AV) => kBool c fun (b : Bool) => kNil cs (some (AV.tup [.agg [AV.int .i64 n, .int .i64 n_1, .str s, .sl rows], .bool b]))) else kOpt (EVf (EV cfg) 100 [AV.int .i64 (IntKind.wrap 
  .i64 (a * b))]) fun (v : AV) => kTup v fun (cs : List AV) => kCons cs fun (c : AV) (cs : List AV) => kAgg c fun (cs_1 : List AV) => kCons cs_1 fun (c : AV) (cs_2 : List AV) => kInt 
  .i64 c fun (n : Int) => kCons cs_2 fun (c : AV) (cs_3 : List AV) => kInt .i64 c fun (n_1 : Int) => kCons cs_3 fun (c : AV) (cs_4 : List AV) => kStr c fun (s : List UInt8) => kCons cs_4 
  fun (c : AV) (cs_5 : List AV) => kSl c fun (rows : List (List AV)) => kNil cs_5 (kCons cs fun (c : AV) (cs : List AV) => kBool c fun (b : Bool) => kNil cs (some (AV.tup [.agg [AV.int 
  .i64 n, .int .i64 n_1, .str s, .sl rows], .bool b]))) else bif decide (a < (0 : Int)) then bif decide (b > (0 : Int)) then kOpt (fromSem (Op.intDiv BinOp.quo .i64 (-576460752303423488 
  : Int) b)) fun (v : AV) => kInt .i64 v fun (n : Int) => bif decide (a < n) then some (AV.tup [.agg [AV.int .i64 (0 : Int), .int .i64 (0 : Int), .str [], .sl []], .bool false]) else kOpt 
  (EVf (EV cfg) 100 [AV.int .i64 (IntKind.wrap .i64 (a * b))]) fun (v : AV) => kTup v fun (cs : List AV) => kCons cs fun (c : AV) (cs : List AV) => kAgg c fun (cs_1 : List AV) => kCons 
  cs_1 fun (c : AV) (cs_2 : List AV) => kInt .i64 c fun (n : Int) => kCons cs_2 fun (c : AV) (cs_3 : List AV) => kInt .i64 c fun (n_1 : Int) => kCons cs_3 fun (c : AV) (cs_4 : List AV) 
  => kStr c fun (s : List UInt8) => kCons cs_4 fun (c : AV) (cs_5 : List AV) => kSl c fun (rows : List (List AV)) => kNil cs_5 (kCons cs fun (c : AV) (cs : List AV) => kBool c fun (b 
  : Bool) => kNil cs (some (AV.tup [.agg [AV.int .i64 n, .int .i64 n_1, .str s, .sl rows], .bool b]))) else kOpt (EVf (EV cfg) 100 [AV.int .i64 (IntKind.wrap .i64 (a * b))]) fun (v : AV) 
  => kTup v fun (cs : List AV) => kCons cs fun (c : AV) (cs : List AV) => kAgg c fun (cs_1 : List AV) => kCons cs_1 fun (c : AV) (cs_2 : List AV) => kInt .i64 c fun (n : Int) => kCons 
  cs_2 fun (c : AV) (cs_3 : List AV) => kInt .i64 c fun (n_1 : Int) => kCons cs_3 fun (c : AV) (cs_4 : List AV) => kStr c fun (s : List UInt8) => kCons cs_4 fun (c : AV) (cs_5 : List 
  AV) => kSl c fun (rows : List (List AV)) => kNil cs_5 (kCons cs fun (c : AV) (cs : List AV) => kBool c fun (b : Bool) => kNil cs (some (AV.tup [.agg [AV.int .i64 n, .int .i64 n_1, .str 
  s, .sl rows], .bool b]))) else kOpt (EVf (EV cfg) 100 [AV.int .i64 (IntKind.wrap .i64 (a * b))]) fun (v : AV) => kTup v fun (cs : List AV) => kCons cs fun (c : AV) (cs : List AV) => kAgg 
  c fun (cs_1 : List AV) => kCons cs_1 fun (c : AV) (cs_2 : List AV) => kInt .i64 c fun (n : Int) => kCons cs_2 fun (c : AV) (cs_3 : List AV) => kInt .i64 c fun (n_1 : Int) => kCons cs_3 
  fun (c : AV) (cs_4 : List AV) => kStr c fun (s : List UInt8) => kCons cs_4 fun (c : AV) (cs_5 : List AV) => kSl c fun (rows : List (List AV)) => kNil cs_5 (kCons cs fun (c : AV) (cs 
  : List AV) => kBool c fun (b : Bool) => kNil cs (some (AV.tup [.agg [AV.int .i64 n, .int .i64 n_1, .str s, .sl rows], .bool b]))) else bif decide (a > (0 : Int)) then bif decide (b < 
  (0 : Int)) then kOpt (fromSem (Op.intDiv BinOp.quo .i64 (-576460752303423488 : Int) a)) fun (v : AV) => kInt .i64 v fun (n : Int) => bif decide (b < n) then some (AV.tup [.agg [AV.int 
  .i64 (0 : Int), .int .i64 (0 : Int), .str [], .sl []], .bool false]) else bif decide (a < (0 : Int)) then bif decide (b > (0 : Int)) then kOpt (fromSem (Op.intDiv BinOp.quo .i64 (-576460752303423488 
  : Int) b)) fun (v : AV) => kInt .i64 v fun (n : Int) => bif decide (a < n) then some (AV.tup [.agg [AV.int .i64 (0 : Int), .int .i64 (0 : Int), .str [], .sl []], .bool false]) else kOpt 
  (EVf (EV cfg) 100 [AV.int .i64 (IntKind.wrap .i64 (a * b))]) fun (v : AV) => kTup v fun (cs : List AV) => kCons cs fun (c : AV) (cs : List AV) => kAgg c fun (cs_1 : List AV) => kCons 
  cs_1 fun (c : AV) (cs_2 : List AV) => kInt .i64 c fun (n : Int) => kCons cs_2 fun (c : AV) (cs_3 : List AV) => kInt .i64 c fun (n_1 : Int) => kCons cs_3 fun (c : AV) (cs_4 : List AV) 
  => kStr c fun (s : List UInt8) => kCons cs_4 fun (c : AV) (cs_5 : List AV) => kSl c fun (rows : List (List AV)) => kNil cs_5 (kCons cs fun (c : AV) (cs : List AV) => kBool c fun (b 
  : Bool) => kNil cs (some (AV.tup [.agg [AV.int .i64 n, .int .i64 n_1, .str s, .sl rows], .bool b]))) else kOpt (EVf (EV cfg) 100 [AV.int .i64 (IntKind.wrap .i64 (a * b))]) fun (v : AV) 
  => kTup v fun (cs : List AV) => kCons cs fun (c : AV) (cs : List AV) => kAgg c fun (cs_1 : List AV) => kCons cs_1 fun (c : AV) (cs_2 : List AV) => kInt .i64 c fun (n : Int) => kCons 
  cs_2 fun (c : AV) (cs_3 : List AV) => kInt .i64 c fun (n_1 : Int) => kCons cs_3 fun (c : AV) (cs_4 : List AV) => kStr c fun (s : List UInt8) => kCons cs_4 fun (c : AV) (cs_5 : List 
  AV) => kSl c fun (rows : List (List AV)) => kNil cs_5 (kCons cs fun (c : AV) (cs : List AV) => kBool c fun (b : Bool) => kNil cs (some (AV.tup [.agg [AV.int .i64 n, .int .i64 n_1, .str 
  s, .sl rows], .bool b]))) else kOpt (EVf (EV cfg) 100 [AV.int .i64 (IntKind.wrap .i64 (a * b))]) fun (v : AV) => kTup v fun (cs : List AV) => kCons cs fun (c : AV) (cs : List AV) => kAgg 
  c fun (cs_1 : List AV) => kCons cs_1 fun (c : AV) (cs_2 : List AV) => kInt .i64 c fun (n : Int) => kCons cs_2 fun (c : AV) (cs_3 : List AV) => kInt .i64 c fun (n_1 : Int) => kCons cs_3 
  fun (c : AV) (cs_4 : List AV) => kStr c fun (s : List UInt8) => kCons cs_4 fun (c : AV) (cs_5 : List AV) => kSl c fun (rows : List (List AV)) => kNil cs_5 (kCons cs fun (c : AV) (cs 
  : List AV) => kBool c fun (b : Bool) => kNil cs (some (AV.tup [.agg [AV.int .i64 n, .int .i64 n_1, .str s, .sl rows], .bool b]))) else bif decide (a < (0 : Int)) then bif decide (b > 
  (0 : Int)) then kOpt (fromSem (Op.intDiv BinOp.quo .i64 (-576460752303423488 : Int) b)) fun (v : AV) => kInt .i64 v fun (n : Int) => bif decide (a < n) then some (AV.tup [.agg [AV.int 
  .i64 (0 : Int), .int .i64 (0 : Int), .str [], .sl []], .bool false]) else kOpt (EVf (EV cfg) 100 [AV.int .i64 (IntKind.wrap .i64 (a * b))]) fun (v : AV) => kTup v fun (cs : List AV) => 
  kCons cs fun (c : AV) (cs : List AV) => kAgg c fun (cs_1 : List AV) => kCons cs_1 fun (c : AV) (cs_2 : List AV) => kInt .i64 c fun (n : Int) => kCons cs_2 fun (c : AV) (cs_3 : List 
  AV) => kInt .i64 c fun (n_1 : Int) => kCons cs_3 fun (c : AV) (cs_4 : List AV) => kStr c fun (s : List UInt8) => kCons cs_4 fun (c : AV) (cs_5 : List AV) => kSl c fun (rows : List (List 
  AV)) => kNil cs_5 (kCons cs fun (c : AV) (cs : List AV) => kBool c fun (b : Bool) => kNil cs (some (AV.tup [.agg [AV.int .i64 n, .int .i64 n_1, .str s, .sl rows], .bool b]))) else kOpt 
  (EVf (EV cfg) 100 [AV.int .i64 (IntKind.wrap .i64 (a * b))]) fun (v : AV) => kTup v fun (cs : List AV) => kCons cs fun (c : AV) (cs : List AV) => kAgg c fun (cs_1 : List AV) => kCons 
  cs_1 fun (c : AV) (cs_2 : List AV) => kInt .i64 c fun (n : Int) => kCons cs_2 fun (c : AV) (cs_3 : List AV) => kInt .i64 c fun (n_1 : Int) => kCons cs_3 fun (c : AV) (cs_4 : List AV) 
  => kStr c fun (s : List UInt8) => kCons cs_4 fun (c : AV) (cs_5 : List AV) => kSl c fun (rows : List (List AV)) => kNil cs_5 (kCons cs fun (c : AV) (cs : List AV) => kBool c fun (b 
  : Bool) => kNil cs (some (AV.tup [.agg [AV.int .i64 n, .int .i64 n_1, .str s, .sl rows], .bool b]))) else kOpt (EVf (EV cfg) 100 [AV.int .i64 (IntKind.wrap .i64 (a * b))]) fun (v : AV) 
  => kTup v fun (cs : List AV) => kCons cs fun (c : AV) (cs : List AV) => kAgg c fun (cs_1 : List AV) => kCons cs_1 fun (c : AV) (cs_2 : List AV) => kInt .i64 c fun (n : Int) => kCons 
  cs_2 fun (c : AV) (cs_3 : List AV) => kInt .i64 c fun (n_1 : Int) => kCons cs_3 fun (c : AV) (cs_4 : List AV) => kStr c fun (s : List UInt8) => kCons cs_4 fun (c : AV) (cs_5 : List 
  AV) => kSl c fun (rows : List (List AV)) => kNil cs_5 (kCons cs fun (c : AV) (cs : List AV) => kBool c fun (b : Bool) => kNil cs (some (AV.tup [.agg [AV.int .i64 n, .int .i64 n_1, .str 
  s, .sl rows], .bool b]))) else bif decide (a < (0 : Int)) then bif decide (b > (0 : Int)) then kOpt (fromSem (Op.intDiv BinOp.quo .i64 (-576460752303423488 : Int) b)) fun (v : AV) => 
  kInt .i64 v fun (n : Int) => bif decide (a < n) then some (AV.tup [.agg [AV.int .i64 (0 : Int), .int .i64 (0 : Int), .str [], .sl []], .bool false]) else kOpt (EVf (EV cfg) 100 [AV.int 
  .i64 (IntKind.wrap .i64 (a * b))]) fun (v : AV) => kTup v fun (cs : List AV) => kCons cs fun (c : AV) (cs : List AV) => kAgg c fun (cs_1 : List AV) => kCons cs_1 fun (c : AV) (cs_2 
  : List AV) => kInt .i64 c fun (n : Int) => kCons cs_2 fun (c : AV) (cs_3 : List AV) => kInt .i64 c fun (n_1 : Int) => kCons cs_3 fun (c : AV) (cs_4 : List AV) => kStr c fun (s : List 
  UInt8) => kCons cs_4 fun (c : AV) (cs_5 : List AV) => kSl c fun (rows : List (List AV)) => kNil cs_5 (kCons cs fun (c : AV) (cs : List AV) => kBool c fun (b : Bool) => kNil cs (some 
  (AV.tup [.agg [AV.int .i64 n, .int .i64 n_1, .str s, .sl rows], .bool b]))) else kOpt (EVf (EV cfg) 100 [AV.int .i64 (IntKind.wrap .i64 (a * b))]) fun (v : AV) => kTup v fun (cs : List 
  AV) => kCons cs fun (c : AV) (cs : List AV) => kAgg c fun (cs_1 : List AV) => kCons cs_1 fun (c : AV) (cs_2 : List AV) => kInt .i64 c fun (n : Int) => kCons cs_2 fun (c : AV) (cs_3 
  : List AV) => kInt .i64 c fun (n_1 : Int) => kCons cs_3 fun (c : AV) (cs_4 : List AV) => kStr c fun (s : List UInt8) => kCons cs_4 fun (c : AV) (cs_5 : List AV) => kSl c fun (rows : 
  List (List AV)) => kNil cs_5 (kCons cs fun (c : AV) (cs : List AV) => kBool c fun (b : Bool) => kNil cs (some (AV.tup [.agg [AV.int .i64 n, .int .i64 n_1, .str s, .sl rows], .bool b]))) 
  else kOpt (EVf (EV cfg) 100 [AV.int .i64 (IntKind.wrap .i64 (a * b))]) fun (v : AV) => kTup v fun (cs : List AV) => kCons cs fun (c : AV) (cs : List AV) => kAgg c fun (cs_1 : List AV) 
  => kCons cs_1 fun (c : AV) (cs_2 : List AV) => kInt .i64 c fun (n : Int) => kCons cs_2 fun (c : AV) (cs_3 : List AV) => kInt .i64 c fun (n_1 : Int) => kCons cs_3 fun (c : AV) (cs_4 
  : List AV) => kStr c fun (s : List UInt8) => kCons cs_4 fun (c : AV) (cs_5 : List AV) => kSl c fun (rows : List (List AV)) => kNil cs_5 (kCons cs fun (c : AV) (cs : List AV) => kBool 
  c fun (b : Bool) => kNil cs (some (AV.tup [.agg [AV.int .i64 n, .int .i64 n_1, .str s, .sl rows], .bool b]))) else bif decide (a > (0 : Int)) then bif decide (b < (0 : Int)) then kOpt 
  (fromSem (Op.intDiv BinOp.quo .i64 (-576460752303423488 : Int) a)) fun (v : AV) => kInt .i64 v fun (n : Int) => bif decide (b < n) then some (AV.tup [.agg [AV.int .i64 (0 : Int), .int 
  .i64 (0 : Int), .str [], .sl []], .bool false]) else bif decide (a < (0 : Int)) then bif decide (b > (0 : Int)) then kOpt (fromSem (Op.intDiv BinOp.quo .i64 (-576460752303423488 : Int) 
  b)) fun (v : AV) => kInt .i64 v fun (n : Int) => bif decide (a < n) then some (AV.tup [.agg [AV.int .i64 (0 : Int), .int .i64 (0 : Int), .str [], .sl []], .bool false]) else kOpt (EVf 
  (EV cfg) 100 [AV.int .i64 (IntKind.wrap .i64 (a * b))]) fun (v : AV) => kTup v fun (cs : List AV) => kCons cs fun (c : AV) (cs : List AV) => kAgg c fun (cs_1 : List AV) => kCons cs_1 
  fun (c : AV) (cs_2 : List AV) => kInt .i64 c fun (n : Int) => kCons cs_2 fun (c : AV) (cs_3 : List AV) => kInt .i64 c fun (n_1 : Int) => kCons cs_3 fun (c : AV) (cs_4 : List AV) => 
  kStr c fun (s : List UInt8) => kCons cs_4 fun (c : AV) (cs_5 : List AV) => kSl c fun (rows : List (List AV)) => kNil cs_5 (kCons cs fun (c : AV) (cs : List AV) => kBool c fun (b : Bool) 
  => kNil cs (some (AV.tup [.agg [AV.int .i64 n, .int .i64 n_1, .str s, .sl rows], .bool b]))) else kOpt (EVf (EV cfg) 100 [AV.int .i64 (IntKind.wrap .i64 (a * b))]) fun (v : AV) => kTup 
  v fun (cs : List AV) => kCons cs fun (c : AV) (cs : List AV) => kAgg c fun (cs_1 : List AV) => kCons cs_1 fun (c : AV) (cs_2 : List AV) => kInt .i64 c fun (n : Int) => kCons cs_2 fun 
  (c : AV) (cs_3 : List AV) => kInt .i64 c fun (n_1 : Int) => kCons cs_3 fun (c : AV) (cs_4 : List AV) => kStr c fun (s : List UInt8) => kCons cs_4 fun (c : AV) (cs_5 : List AV) => kSl 
  c fun (rows : List (List AV)) => kNil cs_5 (kCons cs fun (c : AV) (cs : List AV) => kBool c fun (b : Bool) => kNil cs (some (AV.tup [.agg [AV.int .i64 n, .int .i64 n_1, .str s, .sl rows], 
  .bool b]))) else kOpt (EVf (EV cfg) 100 [AV.int .i64 (IntKind.wrap .i64 (a * b))]) fun (v : AV) => kTup v fun (cs : List AV) => kCons cs fun (c : AV) (cs : List AV) => kAgg c fun (cs_1 
  : List AV) => kCons cs_1 fun (c : AV) (cs_2 : List AV) => kInt .i64 c fun (n : Int) => kCons cs_2 fun (c : AV) (cs_3 : List AV) => kInt .i64 c fun (n_1 : Int) => kCons cs_3 fun (c : 
  AV) (cs_4 : List AV) => kStr c fun (s : List UInt8) => kCons cs_4 fun (c : AV) (cs_5 : List AV) => kSl c fun (rows : List (List AV)) => kNil cs_5 (kCons cs fun (c : AV) (cs : List AV) 
  => kBool c fun (b : Bool) => kNil cs (some (AV.tup [.agg [AV.int .i64 n, .int .i64 n_1, .str s, .sl rows], .bool b]))) else bif decide (a < (0 : Int)) then bif decide (b > (0 : Int)) 
  then kOpt (fromSem (Op.intDiv BinOp.quo .i64 (-576460752303423488 : Int) b)) fun (v : AV) => kInt .i64 v fun (n : Int) => bif decide (a < n) then some (AV.tup [.agg [AV.int .i64 (0 : 
  Int), .int .i64 (0 : Int), .str [], .sl []], .bool false]) else kOpt (EVf (EV cfg) 100 [AV.int .i64 (IntKind.wrap .i64 (a * b))]) fun (v : AV) => kTup v fun (cs : List AV) => kCons cs 
  fun (c : AV) (cs : List AV) => kAgg c fun (cs_1 : List AV) => kCons cs_1 fun (c : AV) (cs_2 : List AV) => kInt .i64 c fun (n : Int) => kCons cs_2 fun (c : AV) (cs_3 : List AV) => kInt 
  .i64 c fun (n_1 : Int) => kCons cs_3 fun (c : AV) (cs_4 : List AV) => kStr c fun (s : List UInt8) => kCons cs_4 fun (c : AV) (cs_5 : List AV) => kSl c fun (rows : List (List AV)) => 
  kNil cs_5 (kCons cs fun (c : AV) (cs : List AV) => kBool c fun (b : Bool) => kNil cs (some (AV.tup [.agg [AV.int .i64 n, .int .i64 n_1, .str s, .sl rows], .bool b]))) else kOpt (EVf (EV 
  cfg) 100 [AV.int .i64 (IntKind.wrap .i64 (a * b))]) fun (v : AV) => kTup v fun (cs : List AV) => kCons cs fun (c : AV) (cs : List AV) => kAgg c fun (cs_1 : List AV) => kCons cs_1 fun 
  (c : AV) (cs_2 : List AV) => kInt .i64 c fun (n : Int) => kCons cs_2 fun (c : AV) (cs_3 : List AV) => kInt .i64 c fun (n_1 : Int) => kCons cs_3 fun (c : AV) (cs_4 : List AV) => kStr 
  c fun (s : List UInt8) => kCons cs_4 fun (c : AV) (cs_5 : List AV) => kSl c fun (rows : List (List AV)) => kNil cs_5 (kCons cs fun (c : AV) (cs : List AV) => kBool c fun (b : Bool) 
  => kNil cs (some (AV.tup [.agg [AV.int .i64 n, .int .i64 n_1, .str s, .sl rows], .bool b]))) else kOpt (EVf (EV cfg) 100 [AV.int .i64 (IntKind.wrap .i64 (a * b))]) fun (v : AV) => kTup 
  v fun (cs : List AV) => kCons cs fun (c : AV) (cs : List AV) => kAgg c fun (cs_1 : List AV) => kCons cs_1 fun (c : AV) (cs_2 : List AV) => kInt .i64 c fun (n : Int) => kCons cs_2 fun 
  (c : AV) (cs_3 : List AV) => kInt .i64 c fun (n_1 : Int) => kCons cs_3 fun (c : AV) (cs_4 : List AV) => kStr c fun (s : List UInt8) => kCons cs_4 fun (c : AV) (cs_5 : List AV) => kSl 
  c fun (rows : List (List AV)) => kNil cs_5 (kCons cs fun (c : AV) (cs : List AV) => kBool c fun (b : Bool) => kNil cs (some (AV.tup [.agg [AV.int .i64 n, .int .i64 n_1, .str s, .sl rows], 
  .bool b]))) else bif decide (a < (0 : Int)) then bif decide (b > (0 : Int)) then kOpt (fromSem (Op.intDiv BinOp.quo .i64 (-576460752303423488 : Int) b)) fun (v : AV) => kInt .i64 v 
  fun (n : Int) => bif decide (a < n) then some (AV.tup [.agg [AV.int .i64 (0 : Int), .int .i64 (0 : Int), .str [], .sl []], .bool false]) else kOpt (EVf (EV cfg) 100 [AV.int .i64 (IntKind.wrap 
  .i64 (a * b))]) fun (v : AV) => kTup v fun (cs : List AV) => kCons cs fun (c : AV) (cs : List AV) => kAgg c fun (cs_1 : List AV) => kCons cs_1 fun (c : AV) (cs_2 : List AV) => kInt 
  .i64 c fun (n : Int) => kCons cs_2 fun (c : AV) (cs_3 : List AV) => kInt .i64 c fun (n_1 : Int) => kCons cs_3 fun (c : AV) (cs_4 : List AV) => kStr c fun (s : List UInt8) => kCons cs_4 
  fun (c : AV) (cs_5 : List AV) => kSl c fun (rows : List (List AV)) => kNil cs_5 (kCons cs fun (c : AV) (cs : List AV) => kBool c fun (b : Bool) => kNil cs (some (AV.tup [.agg [AV.int 
  .i64 n, .int .i64 n_1, .str s, .sl rows], .bool b]))) else kOpt (EVf (EV cfg) 100 [AV.int .i64 (IntKind.wrap .i64 (a * b))]) fun (v : AV) => kTup v fun (cs : List AV) => kCons cs fun 
  (c : AV) (cs : List AV) => kAgg c fun (cs_1 : List AV) => kCons cs_1 fun (c : AV) (cs_2 : List AV) => kInt .i64 c fun (n : Int) => kCons cs_2 fun (c : AV) (cs_3 : List AV) => kInt .i64 
  c fun (n_1 : Int) => kCons cs_3 fun (c : AV) (cs_4 : List AV) => kStr c fun (s : List UInt8) => kCons cs_4 fun (c : AV) (cs_5 : List AV) => kSl c fun (rows : List (List AV)) => kNil 
  cs_5 (kCons cs fun (c : AV) (cs : List AV) => kBool c fun (b : Bool) => kNil cs (some (AV.tup [.agg [AV.int .i64 n, .int .i64 n_1, .str s, .sl rows], .bool b]))) else kOpt (EVf (EV cfg) 
  100 [AV.int .i64 (IntKind.wrap .i64 (a * b))]) fun (v : AV) => kTup v fun (cs : List AV) => kCons cs fun (c : AV) (cs : List AV) => kAgg c fun (cs_1 : List AV) => kCons cs_1 fun (c : 
  AV) (cs_2 : List AV) => kInt .i64 c fun (n : Int) => kCons cs_2 fun (c : AV) (cs_3 : List AV) => kInt .i64 c fun (n_1 : Int) => kCons cs_3 fun (c : AV) (cs_4 : List AV) => kStr c fun 
  (s : List UInt8) => kCons cs_4 fun (c : AV) (cs_5 : List AV) => kSl c fun (rows : List (List AV)) => kNil cs_5 (kCons cs fun (c : AV) (cs : List AV) => kBool c fun (b : Bool) => kNil 
  cs (some (AV.tup [.agg [AV.int .i64 n, .int .i64 n_1, .str s, .sl rows], .bool b]))) else bif decide (a < (0 : Int)) then bif decide (b < (0 : Int)) then kOpt (fromSem (Op.intDiv BinOp.quo 
  .i64 (576460752303423487 : Int) b)) fun (v : AV) => kInt .i64 v fun (n : Int) => bif decide (a < n) then some (AV.tup [.agg [AV.int .i64 (0 : Int), .int .i64 (0 : Int), .str [], .sl []], 
  .bool false]) else bif decide (a > (0 : Int)) then bif decide (b < (0 : Int)) then kOpt (fromSem (Op.intDiv BinOp.quo .i64 (-576460752303423488 : Int) a)) fun (v : AV) => kInt .i64 
  v fun (n : Int) => bif decide (b < n) then some (AV.tup [.agg [AV.int .i64 (0 : Int), .int .i64 (0 : Int), .str [], .sl []], .bool false]) else bif decide (a < (0 : Int)) then bif decide 
  (b > (0 : Int)) then kOpt (fromSem (Op.intDiv BinOp.quo .i64 (-576460752303423488 : Int) b)) fun (v : AV) => kInt .i64 v fun (n : Int) => bif decide (a < n) then some (AV.tup [.agg 
  [AV.int .i64 (0 : Int), .int .i64 (0 : Int), .str [], .sl []], .bool false]) else kOpt (EVf (EV cfg) 100 [AV.int .i64 (IntKind.wrap .i64 (a * b))]) fun (v : AV) => kTup v fun (cs : List 
  AV) => kCons cs fun (c : AV) (cs : List AV) => kAgg c fun (cs_1 : List AV) => kCons cs_1 fun (c : AV) (cs_2 : List AV) => kInt .i64 c fun (n : Int) => kCons cs_2 fun (c : AV) (cs_3 
  : List AV) => kInt .i64 c fun (n_1 : Int) => kCons cs_3 fun (c : AV) (cs_4 : List AV) => kStr c fun (s : List UInt8) => kCons cs_4 fun (c : AV) (cs_5 : List AV) => kSl c fun (rows : 
  List (List AV)) => kNil cs_5 (kCons cs fun (c : AV) (cs : List AV) => kBool c fun (b : Bool) => kNil cs (some (AV.tup [.agg [AV.int .i64 n, .int .i64 n_1, .str s, .sl rows], .bool b]))) 
  else kOpt (EVf (EV cfg) 100 [AV.int .i64 (IntKind.wrap .i64 (a * b))]) fun (v : AV) => kTup v fun (cs : List AV) => kCons cs fun (c : AV) (cs : List AV) => kAgg c fun (cs_1 : List AV) 
  => kCons cs_1 fun (c : AV) (cs_2 : List AV) => kInt .i64 c fun (n : Int) => kCons cs_2 fun (c : AV) (cs_3 : List AV) => kInt .i64 c fun (n_1 : Int) => kCons cs_3 fun (c : AV) (cs_4 
  : List AV) => kStr c fun (s : List UInt8) => kCons cs_4 fun (c : AV) (cs_5 : List AV) => kSl c fun (rows : List (List AV)) => kNil cs_5 (kCons cs fun (c : AV) (cs : List AV) => kBool 
  c fun (b : Bool) => kNil cs (some (AV.tup [.agg [AV.int .i64 n, .int .i64 n_1, .str s, .sl rows], .bool b]))) else kOpt (EVf (EV cfg) 100 [AV.int .i64 (IntKind.wrap .i64 (a * b))]) fun 
  (v : AV) => kTup v fun (cs : List AV) => kCons cs fun (c : AV) (cs : List AV) => kAgg c fun (cs_1 : List AV) => kCons cs_1 fun (c : AV) (cs_2 : List AV) => kInt .i64 c fun (n : Int) 
  => kCons cs_2 fun (c : AV) (cs_3 : List AV) => kInt .i64 c fun (n_1 : Int) => kCons cs_3 fun (c : AV) (cs_4 : List AV) => kStr c fun (s : List UInt8) => kCons cs_4 fun (c : AV) (cs_5 
  : List AV) => kSl c fun (rows : List (List AV)) => kNil cs_5 (kCons cs fun (c : AV) (cs : List AV) => kBool c fun (b : Bool) => kNil cs (some (AV.tup [.agg [AV.int .i64 n, .int .i64 n_1, 
  .str s, .sl rows], .bool b]))) else bif decide (a < (0 : Int)) then bif decide (b > (0 : Int)) then kOpt (fromSem (Op.intDiv BinOp.quo .i64 (-576460752303423488 : Int) b)) fun (v : 
  AV) => kInt .i64 v fun (n : Int) => bif decide (a < n) then some (AV.tup [.agg [AV.int .i64 (0 : Int), .int .i64 (0 : Int), .str [], .sl []], .bool false]) else kOpt (EVf (EV cfg) 100 
  [AV.int .i64 (IntKind.wrap .i64 (a * b))]) fun (v : AV) => kTup v fun (cs : List AV) => kCons cs fun (c : AV) (cs : List AV) => kAgg c fun (cs_1 : List AV) => kCons cs_1 fun (c : AV) 
  (cs_2 : List AV) => kInt .i64 c fun (n : Int) => kCons cs_2 fun (c : AV) (cs_3 : List AV) => kInt .i64 c fun (n_1 : Int) => kCons cs_3 fun (c : AV) (cs_4 : List AV) => kStr c fun (s 
  : List UInt8) => kCons cs_4 fun (c : AV) (cs_5 : List AV) => kSl c fun (rows : List (List AV)) => kNil cs_5 (kCons cs fun (c : AV) (cs : List AV) => kBool c fun (b : Bool) => kNil cs 
  (some (AV.tup [.agg [AV.int .i64 n, .int .i64 n_1, .str s, .sl rows], .bool b]))) else kOpt (EVf (EV cfg) 100 [AV.int .i64 (IntKind.wrap .i64 (a * b))]) fun (v : AV) => kTup v fun (cs : 
  List AV) => kCons cs fun (c : AV) (cs : List AV) => kAgg c fun (cs_1 : List AV) => kCons cs_1 fun (c : AV) (cs_2 : List AV) => kInt .i64 c fun (n : Int) => kCons cs_2 fun (c : AV) (cs_3 
  : List AV) => kInt .i64 c fun (n_1 : Int) => kCons cs_3 fun (c : AV) (cs_4 : List AV) => kStr c fun (s : List UInt8) => kCons cs_4 fun (c : AV) (cs_5 : List AV) => kSl c fun (rows : 
  List (List AV)) => kNil cs_5 (kCons cs fun (c : AV) (cs : List AV) => kBool c fun (b : Bool) => kNil cs (some (AV.tup [.agg [AV.int .i64 n, .int .i64 n_1, .str s, .sl rows], .bool b]))) 
  else kOpt (EVf (EV cfg) 100 [AV.int .i64 (IntKind.wrap .i64 (a * b))]) fun (v : AV) => kTup v fun (cs : List AV) => kCons cs fun (c : AV) (cs : List AV) => kAgg c fun (cs_1 : List AV) 
  => kCons cs_1 fun (c : AV) (cs_2 : List AV) => kInt .i64 c fun (n : Int) => kCons cs_2 fun (c : AV) (cs_3 : List AV) => kInt .i64 c fun (n_1 : Int) => kCons cs_3 fun (c : AV) (cs_4 
  : List AV) => kStr c fun (s : List UInt8) => kCons cs_4 fun (c : AV) (cs_5 : List AV) => kSl c fun (rows : List (List AV)) => kNil cs_5 (kCons cs fun (c : AV) (cs : List AV) => kBool 
  c fun (b : Bool) => kNil cs (some (AV.tup [.agg [AV.int .i64 n, .int .i64 n_1, .str s, .sl rows], .bool b]))) else bif decide (a < (0 : Int)) then bif decide (b > (0 : Int)) then kOpt 
  (fromSem (Op.intDiv BinOp.quo .i64 (-576460752303423488 : Int) b)) fun (v : AV) => kInt .i64 v fun (n : Int) => bif decide (a < n) then some (AV.tup [.agg [AV.int .i64 (0 : Int), .int 
  .i64 (0 : Int), .str [], .sl []], .bool false]) else kOpt (EVf (EV cfg) 100 [AV.int .i64 (IntKind.wrap .i64 (a * b))]) fun (v : AV) => kTup v fun (cs : List AV) => kCons cs fun (c : AV) 
  (cs : List AV) => kAgg c fun (cs_1 : List AV) => kCons cs_1 fun (c : AV) (cs_2 : List AV) => kInt .i64 c fun (n : Int) => kCons cs_2 fun (c : AV) (cs_3 : List AV) => kInt .i64 c fun 
  (n_1 : Int) => kCons cs_3 fun (c : AV) (cs_4 : List AV) => kStr c fun (s : List UInt8) => kCons cs_4 fun (c : AV) (cs_5 : List AV) => kSl c fun (rows : List (List AV)) => kNil cs_5 
  (kCons cs fun (c : AV) (cs : List AV) => kBool c fun (b : Bool) => kNil cs (some (AV.tup [.agg [AV.int .i64 n, .int .i64 n_1, .str s, .sl rows], .bool b]))) else kOpt (EVf (EV cfg) 100 
  [AV.int .i64 (IntKind.wrap .i64 (a * b))]) fun (v : AV) => kTup v fun (cs : List AV) => kCons cs fun (c : AV) (cs : List AV) => kAgg c fun (cs_1 : List AV) => kCons cs_1 fun (c : AV) 
  (cs_2 : List AV) => kInt .i64 c fun (n : Int) => kCons cs_2 fun (c : AV) (cs_3 : List AV) => kInt .i64 c fun (n_1 : Int) => kCons cs_3 fun (c : AV) (cs_4 : List AV) => kStr c fun (s 
  : List UInt8) => kCons cs_4 fun (c : AV) (cs_5 : List AV) => kSl c fun (rows : List (List AV)) => kNil cs_5 (kCons cs fun (c : AV) (cs : List AV) => kBool c fun (b : Bool) => kNil cs 
  (some (AV.tup [.agg [AV.int .i64 n, .int .i64 n_1, .str s, .sl rows], .bool b]))) else kOpt (EVf (EV cfg) 100 [AV.int .i64 (IntKind.wrap .i64 (a * b))]) fun (v : AV) => kTup v fun (cs : 
  List AV) => kCons cs fun (c : AV) (cs : List AV) => kAgg c fun (cs_1 : List AV) => kCons cs_1 fun (c : AV) (cs_2 : List AV) => kInt .i64 c fun (n : Int) => kCons cs_2 fun (c : AV) (cs_3 
  : List AV) => kInt .i64 c fun (n_1 : Int) => kCons cs_3 fun (c : AV) (cs_4 : List AV) => kStr c fun (s : List UInt8) => kCons cs_4 fun (c : AV) (cs_5 : List AV) => kSl c fun (rows : 
  List (List AV)) => kNil cs_5 (kCons cs fun (c : AV) (cs : List AV) => kBool c fun (b : Bool) => kNil cs (some (AV.tup [.agg [AV.int .i64 n, .int .i64 n_1, .str s, .sl rows], .bool b]))) 
  else bif decide (a > (0 : Int)) then bif decide (b < (0 : Int)) then kOpt (fromSem (Op.intDiv BinOp.quo .i64 (-576460752303423488 : Int) a)) fun (v : AV) => kInt .i64 v fun (n : Int) 
  => bif decide (b < n) then some (AV.tup [.agg [AV.int .i64 (0 : Int), .int .i64 (0 : Int), .str [], .sl []], .bool false]) else bif decide (a < (0 : Int)) then bif decide (b > (0 : Int)) 
  then kOpt (fromSem (Op.intDiv BinOp.quo .i64 (-576460752303423488 : Int) b)) fun (v : AV) => kInt .i64 v fun (n : Int) => bif decide (a < n) then some (AV.tup [.agg [AV.int .i64 (0 : 
  Int), .int .i64 (0 : Int), .str [], .sl []], .bool false]) else kOpt (EVf (EV cfg) 100 [AV.int .i64 (IntKind.wrap .i64 (a * b))]) fun (v : AV) => kTup v fun (cs : List AV) => kCons cs 
  fun (c : AV) (cs : List AV) => kAgg c fun (cs_1 : List AV) => kCons cs_1 fun (c : AV) (cs_2 : List AV) => kInt .i64 c fun (n : Int) => kCons cs_2 fun (c : AV) (cs_3 : List AV) => kInt 
  .i64 c fun (n_1 : Int) => kCons cs_3 fun (c : AV) (cs_4 : List AV) => kStr c fun (s : List UInt8) => kCons cs_4 fun (c : AV) (cs_5 : List AV) => kSl c fun (rows : List (List AV)) => 
  kNil cs_5 (kCons cs fun (c : AV) (cs : List AV) => kBool c fun (b : Bool) => kNil cs (some (AV.tup [.agg [AV.int .i64 n, .int .i64 n_1, .str s, .sl rows], .bool b]))) else kOpt (EVf (EV 
  cfg) 100 [AV.int .i64 (IntKind.wrap .i64 (a * b))]) fun (v : AV) => kTup v fun (cs : List AV) => kCons cs fun (c : AV) (cs : List AV) => kAgg c fun (cs_1 : List AV) => kCons cs_1 fun 
  (c : AV) (cs_2 : List AV) => kInt .i64 c fun (n : Int) => kCons cs_2 fun (c : AV) (cs_3 : List AV) => kInt .i64 c fun (n_1 : Int) => kCons cs_3 fun (c : AV) (cs_4 : List AV) => kStr 
  c fun (s : List UInt8) => kCons cs_4 fun (c : AV) (cs_5 : List AV) => kSl c fun (rows : List (List AV)) => kNil cs_5 (kCons cs fun (c : AV) (cs : List AV) => kBool c fun (b : Bool) 
  => kNil cs (some (AV.tup [.agg [AV.int .i64 n, .int .i64 n_1, .str s, .sl rows], .bool b]))) else kOpt (EVf (EV cfg) 100 [AV.int .i64 (IntKind.wrap .i64 (a * b))]) fun (v : AV) => kTup 
  v fun (cs : List AV) => kCons cs fun (c : AV) (cs : List AV) => kAgg c fun (cs_1 : List AV) => kCons cs_1 fun (c : AV) (cs_2 : List AV) => kInt .i64 c fun (n : Int) => kCons cs_2 fun 
  (c : AV) (cs_3 : List AV) => kInt .i64 c fun (n_1 : Int) => kCons cs_3 fun (c : AV) (cs_4 : List AV) => kStr c fun (s : List UInt8) => kCons cs_4 fun (c : AV) (cs_5 : List AV) => kSl 
  c fun (rows : List (List AV)) => kNil cs_5 (kCons cs fun (c : AV) (cs : List AV) => kBool c fun (b : Bool) => kNil cs (some (AV.tup [.agg [AV.int .i64 n, .int .i64 n_1, .str s, .sl rows], 
  .bool b]))) else bif decide (a < (0 : Int)) then bif decide (b > (0 : Int)) then kOpt (fromSem (Op.intDiv BinOp.quo .i64 (-576460752303423488 : Int) b)) fun (v : AV) => kInt .i64 v 
  fun (n : Int) => bif decide (a < n) then some (AV.tup [.agg [AV.int .i64 (0 : Int), .int .i64 (0 : Int), .str [], .sl []], .bool false]) else kOpt (EVf (EV cfg) 100 [AV.int .i64 (IntKind.wrap 
  .i64 (a * b))]) fun (v : AV) => kTup v fun (cs : List AV) => kCons cs fun (c : AV) (cs : List AV) => kAgg c fun (cs_1 : List AV) => kCons cs_1 fun (c : AV) (cs_2 : List AV) => kInt 
  .i64 c fun (n : Int) => kCons cs_2 fun (c : AV) (cs_3 : List AV) => kInt .i64 c fun (n_1 : Int) => kCons cs_3 fun (c : AV) (cs_4 : List AV) => kStr c fun (s : List UInt8) => kCons cs_4 
  fun (c : AV) (cs_5 : List AV) => kSl c fun (rows : List (List AV)) => kNil cs_5 (kCons cs fun (c : AV) (cs : List AV) => kBool c fun (b : Bool) => kNil cs (some (AV.tup [.agg [AV.int 
  .i64 n, .int .i64 n_1, .str s, .sl rows], .bool b]))) else kOpt (EVf (EV cfg) 100 [AV.int .i64 (IntKind.wrap .i64 (a * b))]) fun (v : AV) => kTup v fun (cs : List AV) => kCons cs fun 
  (c : AV) (cs : List AV) => kAgg c fun (cs_1 : List AV) => kCons cs_1 fun (c : AV) (cs_2 : List AV) => kInt .i64 c fun (n : Int) => kCons cs_2 fun (c : AV) (cs_3 : List AV) => kInt .i64 
  c fun (n_1 : Int) => kCons cs_3 fun (c : AV) (cs_4 : List AV) => kStr c fun (s : List UInt8) => kCons cs_4 fun (c : AV) (cs_5 : List AV) => kSl c fun (rows : List (List AV)) => kNil 
  cs_5 (kCons cs fun (c : AV) (cs : List AV) => kBool c fun (b : Bool) => kNil cs (some (AV.tup [.agg [AV.int .i64 n, .int .i64 n_1, .str s, .sl rows], .bool b]))) else kOpt (EVf (EV cfg) 
  100 [AV.int .i64 (IntKind.wrap .i64 (a * b))]) fun (v : AV) => kTup v fun (cs : List AV) => kCons cs fun (c : AV) (cs : List AV) => kAgg c fun (cs_1 : List AV) => kCons cs_1 fun (c : 
  AV) (cs_2 : List AV) => kInt .i64 c fun (n : Int) => kCons cs_2 fun (c : AV) (cs_3 : List AV) => kInt .i64 c fun (n_1 : Int) => kCons cs_3 fun (c : AV) (cs_4 : List AV) => kStr c fun 
  (s : List UInt8) => kCons cs_4 fun (c : AV) (cs_5 : List AV) => kSl c fun (rows : List (List AV)) => kNil cs_5 (kCons cs fun (c : AV) (cs : List AV) => kBool c fun (b : Bool) => kNil 
  cs (some (AV.tup [.agg [AV.int .i64 n, .int .i64 n_1, .str s, .sl rows], .bool b]))) else bif decide (a < (0 : Int)) then bif decide (b > (0 : Int)) then kOpt (fromSem (Op.intDiv BinOp.quo 
  .i64 (-576460752303423488 : Int) b)) fun (v : AV) => kInt .i64 v fun (n : Int) => bif decide (a < n) then some (AV.tup [.agg [AV.int .i64 (0 : Int), .int .i64 (0 : Int), .str [], .sl 
  []], .bool false]) else kOpt (EVf (EV cfg) 100 [AV.int .i64 (IntKind.wrap .i64 (a * b))]) fun (v : AV) => kTup v fun (cs : List AV) => kCons cs fun (c : AV) (cs : List AV) => kAgg c fun 
  (cs_1 : List AV) => kCons cs_1 fun (c : AV) (cs_2 : List AV) => kInt .i64 c fun (n : Int) => kCons cs_2 fun (c : AV) (cs_3 : List AV) => kInt .i64 c fun (n_1 : Int) => kCons cs_3 fun 
  (c : AV) (cs_4 : List AV) => kStr c fun (s : List UInt8) => kCons cs_4 fun (c : AV) (cs_5 : List AV) => kSl c fun (rows : List (List AV)) => kNil cs_5 (kCons cs fun (c : AV) (cs : List 
  AV) => kBool c fun (b : Bool) => kNil cs (some (AV.tup [.agg [AV.int .i64 n, .int .i64 n_1, .str s, .sl rows], .bool b]))) else kOpt (EVf (EV cfg) 100 [AV.int .i64 (IntKind.wrap .i64 (a 
  * b))]) fun (v : AV) => kTup v fun (cs : List AV) => kCons cs fun (c : AV) (cs : List AV) => kAgg c fun (cs_1 : List AV) => kCons cs_1 fun (c : AV) (cs_2 : List AV) => kInt .i64 c fun 
  (n : Int) => kCons cs_2 fun (c : AV) (cs_3 : List AV) => kInt .i64 c fun (n_1 : Int) => kCons cs_3 fun (c : AV) (cs_4 : List AV) => kStr c fun (s : List UInt8) => kCons cs_4 fun (c 
  : AV) (cs_5 : List AV) => kSl c fun (rows : List (List AV)) => kNil cs_5 (kCons cs fun (c : AV) (cs : List AV) => kBool c fun (b : Bool) => kNil cs (some (AV.tup [.agg [AV.int .i64 n, 
  .int .i64 n_1, .str s, .sl rows], .bool b]))) else kOpt (EVf (EV cfg) 100 [AV.int .i64 (IntKind.wrap .i64 (a * b))]) fun (v : AV) => kTup v fun (cs : List AV) => kCons cs fun (c : AV) 
  (cs : List AV) => kAgg c fun (cs_1 : List AV) => kCons cs_1 fun (c : AV) (cs_2 : List AV) => kInt .i64 c fun (n : Int) => kCons cs_2 fun (c : AV) (cs_3 : List AV) => kInt .i64 c fun 
  (n_1 : Int) => kCons cs_3 fun (c : AV) (cs_4 : List AV) => kStr c fun (s : List UInt8) => kCons cs_4 fun (c : AV) (cs_5 : List AV) => kSl c fun (rows : List (List AV)) => kNil cs_5 
  (kCons cs fun (c : AV) (cs : List AV) => kBool c fun (b : Bool) => kNil cs (some (AV.tup [.agg [AV.int .i64 n, .int .i64 n_1, .str s, .sl rows], .bool b]))) else bif decide (a > (0 : 
  Int)) then bif decide (b < (0 : Int)) then kOpt (fromSem (Op.intDiv BinOp.quo .i64 (-576460752303423488 : Int) a)) fun (v : AV) => kInt .i64 v fun (n : Int) => bif decide (b < n) then 
  some (AV.tup [.agg [AV.int .i64 (0 : Int), .int .i64 (0 : Int), .str [], .sl []], .bool false]) else bif decide (a < (0 : Int)) then bif decide (b > (0 : Int)) then kOpt (fromSem (Op.intDiv 
  BinOp.quo .i64 (-576460752303423488 : Int) b)) fun (v : AV) => kInt .i64 v fun (n : Int) => bif decide (a < n) then some (AV.tup [.agg [AV.int .i64 (0 : Int), .int .i64 (0 : Int), .str 
  [], .sl []], .bool false]) else kOpt (EVf (EV cfg) 100 [AV.int .i64 (IntKind.wrap .i64 (a * b))]) fun (v : AV) => kTup v fun (cs : List AV) => kCons cs fun (c : AV) (cs : List AV) => 
  kAgg c fun (cs_1 : List AV) => kCons cs_1 fun (c : AV) (cs_2 : List AV) => kInt .i64 c fun (n : Int) => kCons cs_2 fun (c : AV) (cs_3 : List AV) => kInt .i64 c fun (n_1 : Int) => kCons 
  cs_3 fun (c : AV) (cs_4 : List AV) => kStr c fun (s : List UInt8) => kCons cs_4 fun (c : AV) (cs_5 : List AV) => kSl c fun (rows : List (List AV)) => kNil cs_5 (kCons cs fun (c : AV) 
  (cs : List AV) => kBool c fun (b : Bool) => kNil cs (some (AV.tup [.agg [AV.int .i64 n, .int .i64 n_1, .str s, .sl rows], .bool b]))) else kOpt (EVf (EV cfg) 100 [AV.int .i64 (IntKind.wrap 
  .i64 (a * b))]) fun (v : AV) => kTup v fun (cs : List AV) => kCons cs fun (c : AV) (cs : List AV) => kAgg c fun (cs_1 : List AV) => kCons cs_1 fun (c : AV) (cs_2 : List AV) => kInt 
  .i64 c fun (n : Int) => kCons cs_2 fun (c : AV) (cs_3 : List AV) => kInt .i64 c fun (n_1 : Int) => kCons cs_3 fun (c : AV) (cs_4 : List AV) => kStr c fun (s : List UInt8) => kCons cs_4 
  fun (c : AV) (cs_5 : List AV) => kSl c fun (rows : List (List AV)) => kNil cs_5 (kCons cs fun (c : AV) (cs : List AV) => kBool c fun (b : Bool) => kNil cs (some (AV.tup [.agg [AV.int 
  .i64 n, .int .i64 n_1, .str s, .sl rows], .bool b]))) else kOpt (EVf (EV cfg) 100 [AV.int .i64 (IntKind.wrap .i64 (a * b))]) fun (v : AV) => kTup v fun (cs : List AV) => kCons cs fun 
  (c : AV) (cs : List AV) => kAgg c fun (cs_1 : List AV) => kCons cs_1 fun (c : AV) (cs_2 : List AV) => kInt .i64 c fun (n : Int) => kCons cs_2 fun (c : AV) (cs_3 : List AV) => kInt .i64 
  c fun (n_1 : Int) => kCons cs_3 fun (c : AV) (cs_4 : List AV) => kStr c fun (s : List UInt8) => kCons cs_4 fun (c : AV) (cs_5 : List AV) => kSl c fun (rows : List (List AV)) => kNil 
  cs_5 (kCons cs fun (c : AV) (cs : List AV) => kBool c fun (b : Bool) => kNil cs (some (AV.tup [.agg [AV.int .i64 n, .int .i64 n_1, .str s, .sl rows], .bool b]))) else bif decide (a < 
  (0 : Int)) then bif decide (b > (0 : Int)) then kOpt (fromSem (Op.intDiv BinOp.quo .i64 (-576460752303423488 : Int) b)) fun (v : AV) => kInt .i64 v fun (n : Int) => bif decide (a < 
  n) then some (AV.tup [.agg [AV.int .i64 (0 : Int), .int .i64 (0 : Int), .str [], .sl []], .bool false]) else kOpt (EVf (EV cfg) 100 [AV.int .i64 (IntKind.wrap .i64 (a * b))]) fun (v : AV) 
  => kTup v fun (cs : List AV) => kCons cs fun (c : AV) (cs : List AV) => kAgg c fun (cs_1 : List AV) => kCons cs_1 fun (c : AV) (cs_2 : List AV) => kInt .i64 c fun (n : Int) => kCons 
  cs_2 fun (c : AV) (cs_3 : List AV) => kInt .i64 c fun (n_1 : Int) => kCons cs_3 fun (c : AV) (cs_4 : List AV) => kStr c fun (s : List UInt8) => kCons cs_4 fun (c : AV) (cs_5 : List 
  AV) => kSl c fun (rows : List (List AV)) => kNil cs_5 (kCons cs fun (c : AV) (cs : List AV) => kBool c fun (b : Bool) => kNil cs (some (AV.tup [.agg [AV.int .i64 n, .int .i64 n_1, .str 
  s, .sl rows], .bool b]))) else kOpt (EVf (EV cfg) 100 [AV.int .i64 (IntKind.wrap .i64 (a * b))]) fun (v : AV) => kTup v fun (cs : List AV) => kCons cs fun (c : AV) (cs : List AV) => kAgg 
  c fun (cs_1 : List AV) => kCons cs_1 fun (c : AV) (cs_2 : List AV) => kInt .i64 c fun (n : Int) => kCons cs_2 fun (c : AV) (cs_3 : List AV) => kInt .i64 c fun (n_1 : Int) => kCons cs_3 
  fun (c : AV) (cs_4 : List AV) => kStr c fun (s : List UInt8) => kCons cs_4 fun (c : AV) (cs_5 : List AV) => kSl c fun (rows : List (List AV)) => kNil cs_5 (kCons cs fun (c : AV) (cs 
  : List AV) => kBool c fun (b : Bool) => kNil cs (some (AV.tup [.agg [AV.int .i64 n, .int .i64 n_1, .str s, .sl rows], .bool b]))) else kOpt (EVf (EV cfg) 100 [AV.int .i64 (IntKind.wrap 
  .i64 (a * b))]) fun (v : AV) => kTup v fun (cs : List AV) => kCons cs fun (c : AV) (cs : List AV) => kAgg c fun (cs_1 : List AV) => kCons cs_1 fun (c : AV) (cs_2 : List AV) => kInt 
  .i64 c fun (n : Int) => kCons cs_2 fun (c : AV) (cs_3 : List AV) => kInt .i64 c fun (n_1 : Int) => kCons cs_3 fun (c : AV) (cs_4 : List AV) => kStr c fun (s : List UInt8) => kCons cs_4 
  fun (c : AV) (cs_5 : List AV) => kSl c fun (rows : List (List AV)) => kNil cs_5 (kCons cs fun (c : AV) (cs : List AV) => kBool c fun (b : Bool) => kNil cs (some (AV.tup [.agg [AV.int 
  .i64 n, .int .i64 n_1, .str s, .sl rows], .bool b]))) else bif decide (a < (0 : Int)) then bif decide (b > (0 : Int)) then kOpt (fromSem (Op.intDiv BinOp.quo .i64 (-576460752303423488 
  : Int) b)) fun (v : AV) => kInt .i64 v fun (n : Int) => bif decide (a < n) then some (AV.tup [.agg [AV.int .i64 (0 : Int), .int .i64 (0 : Int), .str [], .sl []], .bool false]) else kOpt 
  (EVf (EV cfg) 100 [AV.int .i64 (IntKind.wrap .i64 (a * b))]) fun (v : AV) => kTup v fun (cs : List AV) => kCons cs fun (c : AV) (cs : List AV) => kAgg c fun (cs_1 : List AV) => kCons 
  cs_1 fun (c : AV) (cs_2 : List AV) => kInt .i64 c fun (n : Int) => kCons cs_2 fun (c : AV) (cs_3 : List AV) => kInt .i64 c fun (n_1 : Int) => kCons cs_3 fun (c : AV) (cs_4 : List AV) 
  => kStr c fun (s : List UInt8) => kCons cs_4 fun (c : AV) (cs_5 : List AV) => kSl c fun (rows : List (List AV)) => kNil cs_5 (kCons cs fun (c : AV) (cs : List AV) => kBool c fun (b 
  : Bool) => kNil cs (some (AV.tup [.agg [AV.int .i64 n, .int .i64 n_1, .str s, .sl rows], .bool b]))) else kOpt (EVf (EV cfg) 100 [AV.int .i64 (IntKind.wrap .i64 (a * b))]) fun (v : AV) 
  => kTup v fun (cs : List AV) => kCons cs fun (c : AV) (cs : List AV) => kAgg c fun (cs_1 : List AV) => kCons cs_1 fun (c : AV) (cs_2 : List AV) => kInt .i64 c fun (n : Int) => kCons 
  cs_2 fun (c : AV) (cs_3 : List AV) => kInt .i64 c fun (n_1 : Int) => kCons cs_3 fun (c : AV) (cs_4 : List AV) => kStr c fun (s : List UInt8) => kCons cs_4 fun (c : AV) (cs_5 : List 
  AV) => kSl c fun (rows : List (List AV)) => kNil cs_5 (kCons cs fun (c : AV) (cs : List AV) => kBool c fun (b : Bool) => kNil cs (some (AV.tup [.agg [AV.int .i64 n, .int .i64 n_1, .str 
  s, .sl rows], .bool b]))) else kOpt (EVf (EV cfg) 100 [AV.int .i64 (IntKind.wrap .i64 (a * b))]) fun (v : AV) => kTup v fun (cs : List AV) => kCons cs fun (c : AV) (cs : List AV) => kAgg 
  c fun (cs_1 : List AV) => kCons cs_1 fun (c : AV) (cs_2 : List AV) => kInt .i64 c fun (n : Int) => kCons cs_2 fun (c : AV) (cs_3 : List AV) => kInt .i64 c fun (n_1 : Int) => kCons cs_3 
  fun (c : AV) (cs_4 : List AV) => kStr c fun (s : List UInt8) => kCons cs_4 fun (c : AV) (cs_5 : List AV) => kSl c fun (rows : List (List AV)) => kNil cs_5 (kCons cs fun (c : AV) (cs 
  : List AV) => kBool c fun (b : Bool) => kNil cs (some (AV.tup [.agg [AV.int .i64 n, .int .i64 n_1, .str s, .sl rows], .bool b])))) P) : Gets (EVf (EV cfg) 121 ([AV.int IntKind.i64 a, AV.int IntKind.i64 b] : List AV)) P :=
  Gets.ev (fun _ h => funF rfl rfl Tryz.func121 rfl h) (Gets.eq (by kernel_rfl) h)
theorem r17Kinds_run (op : List UInt8) (kt : Int) (nt : Int) (st : List UInt8) (lt : List (List AV)) {P : AV → Prop} (h : Gets (bif op == [(105 : UInt8), (115 : UInt8), (95 : UInt8), (97 : UInt8), (116 : UInt8), (111 : UInt8), (109 : UInt8)] then some (.bool (kt == (2 : Int))) else bif op == [(105 : UInt8), 
  (115 : UInt8), (95 : UInt8), (105 : UInt8), (110 : UInt8), (116 : UInt8), (101 : UInt8), (103 : UInt8), (101 : UInt8), (114 : UInt8)] then some (.bool (kt == (1 : Int))) else bif op 
  == [(105 : UInt8), (115 : UInt8), (95 : UInt8), (108 : UInt8), (105 : UInt8), (115 : UInt8), (116 : UInt8)] then bif kt == (9 : Int) then some (.bool true) else some (.bool (kt == (8 
  : Int))) else bif op == [(105 : UInt8), (115 : UInt8), (95 : UInt8), (116 : UInt8), (117 : UInt8), (112 : UInt8), (108 : UInt8), (101 : UInt8)] then some (.bool (kt == (7 : Int))) else 
  bif op == [(105 : UInt8), (115 : UInt8), (95 : UInt8), (112 : UInt8), (105 : UInt8), (100 : UInt8)] then some (.bool (kt == (6 : Int))) else bif op == [(105 : UInt8), (115 : UInt8), 
  (95 : UInt8), (102 : UInt8), (117 : UInt8), (110 : UInt8), (99 : UInt8), (116 : UInt8), (105 : UInt8), (111 : UInt8), (110 : UInt8)] then some (.bool (kt == (5 : Int))) else bif kt 
  == (3 : Int) then some (.bool true) else some (.bool (kt == (4 : Int)))) P) : Gets (EVs (EV cfg) 101 ([AV.str op, AV.agg [AV.int IntKind.i64 kt, AV.int IntKind.i64 nt, AV.str st, AV.sl lt]] : List AV)) P :=
  Gets.ev (fun _ h => funS rfl rfl Tryz.func101 rfl h) (Gets.eq (by kernel_rfl) h)
theorem r17Length_run (kt : Int) (nt : Int) (st : List UInt8) (lt : List (List AV)) {P : AV → Prop} (h : Gets (wy99_0 (0 : Int) kt nt st lt) P) : Gets (EVs (EV cfg) 99 ([AV.agg [AV.int IntKind.i64 kt, AV.int IntKind.i64 nt, AV.str st, AV.sl lt]] : List AV)) P :=
  Gets.ev (fun _ h => funS rfl rfl Tryz.func99 rfl h) (Gets.eq (by kernel_rfl) h)
theorem r17One_run (op : List UInt8) (kt : Int) (nt : Int) (st : List UInt8) (lt : List (List AV)) {P : AV → Prop} (h : Gets (bif op == [(110 : UInt8), (111 : UInt8), (116 : UInt8)] then kOpt (EVs (EV cfg) 88 [.agg [AV.int .i64 kt, .int .i64 nt, .str st, .sl lt]]) fun (v : AV) => kTup v fun (cs : List AV) => 
  kCons cs fun (c : AV) (cs : List AV) => kBool c fun (b : Bool) => kCons cs fun (c : AV) (cs : List AV) => kBool c fun (b_1 : Bool) => kNil cs (kOpt (EVf (EV cfg) 98 [.bool !b]) fun 
  (v : AV) => kTmV v fun (n n_1 : Int) (s : List UInt8) (rows : List (List AV)) => (some (AV.tup [.agg [AV.int .i64 n, .int .i64 n_1, .str s, .sl rows], .bool b_1]))) else bif op == [(116 
  : UInt8), (117 : UInt8), (112 : UInt8), (108 : UInt8), (101 : UInt8), (95 : UInt8), (115 : UInt8), (105 : UInt8), (122 : UInt8), (101 : UInt8)] then some (AV.tup [.agg [AV.int .i64 (1 
  : Int), .int .i64 (↑(List.length lt) : Int), .str [], .sl []], .bool (kt == (7 : Int))]) else bif op == [(115 : UInt8), (105 : UInt8), (122 : UInt8), (101 : UInt8)] then some (AV.tup 
  [.agg [AV.int .i64 (1 : Int), .int .i64 (↑(List.length lt) : Int), .str [], .sl []], .bool (kt == (7 : Int))]) else bif op == [(104 : UInt8), (100 : UInt8)] then bif kt != (9 : Int) then 
  some (AV.tup [.agg [AV.int .i64 (0 : Int), .int .i64 (0 : Int), .str [], .sl []], .bool false]) else bif op == [(104 : UInt8), (100 : UInt8)] then bif ltInt (0 : Int) (↑(List.length lt) 
  : Int) then kOpt (List.get?Internal lt 0) fun (row : List AV) => bif Nat.beq (List.length row) 4 then bif Nat.ble 4 (List.length row) then kTmC (List.take 4 row) fun (n n_1 : Int) (s 
  : List UInt8) (rows : List (List AV)) => (some (AV.tup [.agg [AV.int .i64 n, .int .i64 n_1, .str s, .sl rows], .bool true])) else none else none else none else bif ltInt (1 : Int) (↑(List.length 
  lt) : Int) then kOpt (List.get?Internal lt 1) fun (row : List AV) => bif Nat.beq (List.length row) 4 then bif Nat.ble 4 (List.length row) then kTmC (List.take 4 row) fun (n n_1 : Int) 
  (s : List UInt8) (rows : List (List AV)) => (some (AV.tup [.agg [AV.int .i64 n, .int .i64 n_1, .str s, .sl rows], .bool true])) else none else none else none else bif op == [(116 : UInt8), 
  (108 : UInt8)] then bif kt != (9 : Int) then some (AV.tup [.agg [AV.int .i64 (0 : Int), .int .i64 (0 : Int), .str [], .sl []], .bool false]) else bif op == [(104 : UInt8), (100 : UInt8)] 
  then bif ltInt (0 : Int) (↑(List.length lt) : Int) then kOpt (List.get?Internal lt 0) fun (row : List AV) => bif Nat.beq (List.length row) 4 then bif Nat.ble 4 (List.length row) then 
  kTmC (List.take 4 row) fun (n n_1 : Int) (s : List UInt8) (rows : List (List AV)) => (some (AV.tup [.agg [AV.int .i64 n, .int .i64 n_1, .str s, .sl rows], .bool true])) else none else 
  none else none else bif ltInt (1 : Int) (↑(List.length lt) : Int) then kOpt (List.get?Internal lt 1) fun (row : List AV) => bif Nat.beq (List.length row) 4 then bif Nat.ble 4 (List.length 
  row) then kTmC (List.take 4 row) fun (n n_1 : Int) (s : List UInt8) (rows : List (List AV)) => (some (AV.tup [.agg [AV.int .i64 n, .int .i64 n_1, .str s, .sl rows], .bool true])) else 
  none else none else none else bif op == [(108 : UInt8), (101 : UInt8), (110 : UInt8), (103 : UInt8), (116 : UInt8), (104 : UInt8)] then kOpt (EVs (EV cfg) 99 [.agg [AV.int .i64 kt, .int 
  .i64 nt, .str st, .sl lt]]) fun (v : AV) => kTup v fun (cs : List AV) => kCons cs fun (c : AV) (cs : List AV) => kInt .i64 c fun (n : Int) => kCons cs fun (c : AV) (cs : List AV) => 
  kBool c fun (b : Bool) => kNil cs (some (AV.tup [.agg [AV.int .i64 (1 : Int), .int .i64 n, .str [], .sl []], .bool b])) else bif op == [(98 : UInt8), (110 : UInt8), (111 : UInt8), (116 
  : UInt8)] then bif kt != (1 : Int) then some (AV.tup [.agg [AV.int .i64 (0 : Int), .int .i64 (0 : Int), .str [], .sl []], .bool false]) else bif op == [(98 : UInt8), (110 : UInt8), (111 
  : UInt8), (116 : UInt8)] then kOpt (EVf (EV cfg) 100 [AV.int .i64 (IntKind.wrap .i64 ((-1 : Int) - nt))]) fun (v : AV) => kTup v fun (cs : List AV) => kCons cs fun (c : AV) (cs : List 
  AV) => kAgg c fun (cs_1 : List AV) => kCons cs_1 fun (c : AV) (cs_2 : List AV) => kInt .i64 c fun (n : Int) => kCons cs_2 fun (c : AV) (cs_3 : List AV) => kInt .i64 c fun (n_1 : Int) 
  => kCons cs_3 fun (c : AV) (cs_4 : List AV) => kStr c fun (s : List UInt8) => kCons cs_4 fun (c : AV) (cs_5 : List AV) => kSl c fun (rows : List (List AV)) => kNil cs_5 (kCons cs fun 
  (c : AV) (cs : List AV) => kBool c fun (b : Bool) => kNil cs (some (AV.tup [.agg [AV.int .i64 n, .int .i64 n_1, .str s, .sl rows], .bool b]))) else bif op == [(45 : UInt8)] then kOpt 
  (EVf (EV cfg) 100 [AV.int .i64 (IntKind.wrap .i64 ((0 : Int) - nt))]) fun (v : AV) => kTup v fun (cs : List AV) => kCons cs fun (c : AV) (cs : List AV) => kAgg c fun (cs_1 : List AV) 
  => kCons cs_1 fun (c : AV) (cs_2 : List AV) => kInt .i64 c fun (n : Int) => kCons cs_2 fun (c : AV) (cs_3 : List AV) => kInt .i64 c fun (n_1 : Int) => kCons cs_3 fun (c : AV) (cs_4 
  : List AV) => kStr c fun (s : List UInt8) => kCons cs_4 fun (c : AV) (cs_5 : List AV) => kSl c fun (rows : List (List AV)) => kNil cs_5 (kCons cs fun (c : AV) (cs : List AV) => kBool 
  c fun (b : Bool) => kNil cs (some (AV.tup [.agg [AV.int .i64 n, .int .i64 n_1, .str s, .sl rows], .bool b]))) else bif op == [(97 : UInt8), (98 : UInt8), (115 : UInt8)] then bif decide 
  (nt < (0 : Int)) then kOpt (EVf (EV cfg) 100 [AV.int .i64 (IntKind.wrap .i64 ((0 : Int) - nt))]) fun (v : AV) => kTup v fun (cs : List AV) => kCons cs fun (c : AV) (cs : List AV) => kAgg 
  c fun (cs_1 : List AV) => kCons cs_1 fun (c : AV) (cs_2 : List AV) => kInt .i64 c fun (n : Int) => kCons cs_2 fun (c : AV) (cs_3 : List AV) => kInt .i64 c fun (n_1 : Int) => kCons cs_3 
  fun (c : AV) (cs_4 : List AV) => kStr c fun (s : List UInt8) => kCons cs_4 fun (c : AV) (cs_5 : List AV) => kSl c fun (rows : List (List AV)) => kNil cs_5 (kCons cs fun (c : AV) (cs 
  : List AV) => kBool c fun (b : Bool) => kNil cs (some (AV.tup [.agg [AV.int .i64 n, .int .i64 n_1, .str s, .sl rows], .bool b]))) else some (AV.tup [.agg [AV.int .i64 kt, .int .i64 nt, 
  .str st, .sl lt], .bool true]) else some (AV.tup [.agg [AV.int .i64 kt, .int .i64 nt, .str st, .sl lt], .bool true]) else bif op == [(97 : UInt8), (98 : UInt8), (115 : UInt8)] then bif 
  kt != (1 : Int) then some (AV.tup [.agg [AV.int .i64 (0 : Int), .int .i64 (0 : Int), .str [], .sl []], .bool false]) else bif op == [(98 : UInt8), (110 : UInt8), (111 : UInt8), (116 : 
  UInt8)] then kOpt (EVf (EV cfg) 100 [AV.int .i64 (IntKind.wrap .i64 ((-1 : Int) - nt))]) fun (v : AV) => kTup v fun (cs : List AV) => kCons cs fun (c : AV) (cs : List AV) => kAgg c fun 
  (cs_1 : List AV) => kCons cs_1 fun (c : AV) (cs_2 : List AV) => kInt .i64 c fun (n : Int) => kCons cs_2 fun (c : AV) (cs_3 : List AV) => kInt .i64 c fun (n_1 : Int) => kCons cs_3 fun 
  (c : AV) (cs_4 : List AV) => kStr c fun (s : List UInt8) => kCons cs_4 fun (c : AV) (cs_5 : List AV) => kSl c fun (rows : List (List AV)) => kNil cs_5 (kCons cs fun (c : AV) (cs : List 
  AV) => kBool c fun (b : Bool) => kNil cs (some (AV.tup [.agg [AV.int .i64 n, .int .i64 n_1, .str s, .sl rows], .bool b]))) else bif op == [(45 : UInt8)] then kOpt (EVf (EV cfg) 100 [AV.int 
  .i64 (IntKind.wrap .i64 ((0 : Int) - nt))]) fun (v : AV) => kTup v fun (cs : List AV) => kCons cs fun (c : AV) (cs : List AV) => kAgg c fun (cs_1 : List AV) => kCons cs_1 fun (c : AV) 
  (cs_2 : List AV) => kInt .i64 c fun (n : Int) => kCons cs_2 fun (c : AV) (cs_3 : List AV) => kInt .i64 c fun (n_1 : Int) => kCons cs_3 fun (c : AV) (cs_4 : List AV) => kStr c fun (s 
  : List UInt8) => kCons cs_4 fun (c : AV) (cs_5 : List AV) => kSl c fun (rows : List (List AV)) => kNil cs_5 (kCons cs fun (c : AV) (cs : List AV) => kBool c fun (b : Bool) => kNil cs 
  (some (AV.tup [.agg [AV.int .i64 n, .int .i64 n_1, .str s, .sl rows], .bool b]))) else bif op == [(97 : UInt8), (98 : UInt8), (115 : UInt8)] then bif decide (nt < (0 : Int)) then kOpt 
  (EVf (EV cfg) 100 [AV.int .i64 (IntKind.wrap .i64 ((0 : Int) - nt))]) fun (v : AV) => kTup v fun (cs : List AV) => kCons cs fun (c : AV) (cs : List AV) => kAgg c fun (cs_1 : List AV) 
  => kCons cs_1 fun (c : AV) (cs_2 : List AV) => kInt .i64 c fun (n : Int) => kCons cs_2 fun (c : AV) (cs_3 : List AV) => kInt .i64 c fun (n_1 : Int) => kCons cs_3 fun (c : AV) (cs_4 
  : List AV) => kStr c fun (s : List UInt8) => kCons cs_4 fun (c : AV) (cs_5 : List AV) => kSl c fun (rows : List (List AV)) => kNil cs_5 (kCons cs fun (c : AV) (cs : List AV) => kBool 
  c fun (b : Bool) => kNil cs (some (AV.tup [.agg [AV.int .i64 n, .int .i64 n_1, .str s, .sl rows], .bool b]))) else some (AV.tup [.agg [AV.int .i64 kt, .int .i64 nt, .str st, .sl lt], .bool 
  true]) else some (AV.tup [.agg [AV.int .i64 kt, .int .i64 nt, .str st, .sl lt], .bool true]) else bif op == [(43 : UInt8)] then bif kt != (1 : Int) then some (AV.tup [.agg [AV.int .i64 
  (0 : Int), .int .i64 (0 : Int), .str [], .sl []], .bool false]) else bif op == [(98 : UInt8), (110 : UInt8), (111 : UInt8), (116 : UInt8)] then kOpt (EVf (EV cfg) 100 [AV.int .i64 (IntKind.wrap 
  .i64 ((-1 : Int) - nt))]) fun (v : AV) => kTup v fun (cs : List AV) => kCons cs fun (c : AV) (cs : List AV) => kAgg c fun (cs_1 : List AV) => kCons cs_1 fun (c : AV) (cs_2 : List AV) 
  => kInt .i64 c fun (n : Int) => kCons cs_2 fun (c : AV) (cs_3 : List AV) => kInt .i64 c fun (n_1 : Int) => kCons cs_3 fun (c : AV) (cs_4 : List AV) => kStr c fun (s : List UInt8) => 
  kCons cs_4 fun (c : AV) (cs_5 : List AV) => kSl c fun (rows : List (List AV)) => kNil cs_5 (kCons cs fun (c : AV) (cs : List AV) => kBool c fun (b : Bool) => kNil cs (some (AV.tup [.agg 
  [AV.int .i64 n, .int .i64 n_1, .str s, .sl rows], .bool b]))) else bif op == [(45 : UInt8)] then kOpt (EVf (EV cfg) 100 [AV.int .i64 (IntKind.wrap .i64 ((0 : Int) - nt))]) fun (v : AV) 
  => kTup v fun (cs : List AV) => kCons cs fun (c : AV) (cs : List AV) => kAgg c fun (cs_1 : List AV) => kCons cs_1 fun (c : AV) (cs_2 : List AV) => kInt .i64 c fun (n : Int) => kCons 
  cs_2 fun (c : AV) (cs_3 : List AV) => kInt .i64 c fun (n_1 : Int) => kCons cs_3 fun (c : AV) (cs_4 : List AV) => kStr c fun (s : List UInt8) => kCons cs_4 fun (c : AV) (cs_5 : List 
  AV) => kSl c fun (rows : List (List AV)) => kNil cs_5 (kCons cs fun (c : AV) (cs : List AV) => kBool c fun (b : Bool) => kNil cs (some (AV.tup [.agg [AV.int .i64 n, .int .i64 n_1, .str 
  s, .sl rows], .bool b]))) else bif op == [(97 : UInt8), (98 : UInt8), (115 : UInt8)] then bif decide (nt < (0 : Int)) then kOpt (EVf (EV cfg) 100 [AV.int .i64 (IntKind.wrap .i64 ((0 : 
  Int) - nt))]) fun (v : AV) => kTup v fun (cs : List AV) => kCons cs fun (c : AV) (cs : List AV) => kAgg c fun (cs_1 : List AV) => kCons cs_1 fun (c : AV) (cs_2 : List AV) => kInt .i64 
  c fun (n : Int) => kCons cs_2 fun (c : AV) (cs_3 : List AV) => kInt .i64 c fun (n_1 : Int) => kCons cs_3 fun (c : AV) (cs_4 : List AV) => kStr c fun (s : List UInt8) => kCons cs_4 fun 
  (c : AV) (cs_5 : List AV) => kSl c fun (rows : List (List AV)) => kNil cs_5 (kCons cs fun (c : AV) (cs : List AV) => kBool c fun (b : Bool) => kNil cs (some (AV.tup [.agg [AV.int .i64 
  n, .int .i64 n_1, .str s, .sl rows], .bool b]))) else some (AV.tup [.agg [AV.int .i64 kt, .int .i64 nt, .str st, .sl lt], .bool true]) else some (AV.tup [.agg [AV.int .i64 kt, .int .i64 
  nt, .str st, .sl lt], .bool true]) else bif op == [(45 : UInt8)] then bif kt != (1 : Int) then some (AV.tup [.agg [AV.int .i64 (0 : Int), .int .i64 (0 : Int), .str [], .sl []], .bool 
  false]) else bif op == [(98 : UInt8), (110 : UInt8), (111 : UInt8), (116 : UInt8)] then kOpt (EVf (EV cfg) 100 [AV.int .i64 (IntKind.wrap .i64 ((-1 : Int) - nt))]) fun (v : AV) => kTup 
  v fun (cs : List AV) => kCons cs fun (c : AV) (cs : List AV) => kAgg c fun (cs_1 : List AV) => kCons cs_1 fun (c : AV) (cs_2 : List AV) => kInt .i64 c fun (n : Int) => kCons cs_2 fun 
  (c : AV) (cs_3 : List AV) => kInt .i64 c fun (n_1 : Int) => kCons cs_3 fun (c : AV) (cs_4 : List AV) => kStr c fun (s : List UInt8) => kCons cs_4 fun (c : AV) (cs_5 : List AV) => kSl 
  c fun (rows : List (List AV)) => kNil cs_5 (kCons cs fun (c : AV) (cs : List AV) => kBool c fun (b : Bool) => kNil cs (some (AV.tup [.agg [AV.int .i64 n, .int .i64 n_1, .str s, .sl rows], 
  .bool b]))) else bif op == [(45 : UInt8)] then kOpt (EVf (EV cfg) 100 [AV.int .i64 (IntKind.wrap .i64 ((0 : Int) - nt))]) fun (v : AV) => kTup v fun (cs : List AV) => kCons cs fun (c 
  : AV) (cs : List AV) => kAgg c fun (cs_1 : List AV) => kCons cs_1 fun (c : AV) (cs_2 : List AV) => kInt .i64 c fun (n : Int) => kCons cs_2 fun (c : AV) (cs_3 : List AV) => kInt .i64 
  c fun (n_1 : Int) => kCons cs_3 fun (c : AV) (cs_4 : List AV) => kStr c fun (s : List UInt8) => kCons cs_4 fun (c : AV) (cs_5 : List AV) => kSl c fun (rows : List (List AV)) => kNil 
  cs_5 (kCons cs fun (c : AV) (cs : List AV) => kBool c fun (b : Bool) => kNil cs (some (AV.tup [.agg [AV.int .i64 n, .int .i64 n_1, .str s, .sl rows], .bool b]))) else bif op == [(97 : 
  UInt8), (98 : UInt8), (115 : UInt8)] then bif decide (nt < (0 : Int)) then kOpt (EVf (EV cfg) 100 [AV.int .i64 (IntKind.wrap .i64 ((0 : Int) - nt))]) fun (v : AV) => kTup v fun (cs : 
  List AV) => kCons cs fun (c : AV) (cs : List AV) => kAgg c fun (cs_1 : List AV) => kCons cs_1 fun (c : AV) (cs_2 : List AV) => kInt .i64 c fun (n : Int) => kCons cs_2 fun (c : AV) (cs_3 
  : List AV) => kInt .i64 c fun (n_1 : Int) => kCons cs_3 fun (c : AV) (cs_4 : List AV) => kStr c fun (s : List UInt8) => kCons cs_4 fun (c : AV) (cs_5 : List AV) => kSl c fun (rows : 
  List (List AV)) => kNil cs_5 (kCons cs fun (c : AV) (cs : List AV) => kBool c fun (b : Bool) => kNil cs (some (AV.tup [.agg [AV.int .i64 n, .int .i64 n_1, .str s, .sl rows], .bool b]))) 
  else some (AV.tup [.agg [AV.int .i64 kt, .int .i64 nt, .str st, .sl lt], .bool true]) else some (AV.tup [.agg [AV.int .i64 kt, .int .i64 nt, .str st, .sl lt], .bool true]) else kOpt (EVs 
  (EV cfg) 101 [.str op, .agg [AV.int .i64 kt, .int .i64 nt, .str st, .sl lt]]) fun (v : AV) => kBool v fun (b : Bool) => kOpt (EVf (EV cfg) 98 [.bool b]) fun (v : AV) => kTmV v fun (n 
  n_1 : Int) (s : List UInt8) (rows : List (List AV)) => (some (AV.tup [.agg [AV.int .i64 n, .int .i64 n_1, .str s, .sl rows], .bool true]))) P) : Gets (EVf (EV cfg) 76 ([AV.str op, AV.agg [AV.int IntKind.i64 kt, AV.int IntKind.i64 nt, AV.str st, AV.sl lt]] : List AV)) P :=
  Gets.ev (fun _ h => funF rfl rfl Tryz.func76 rfl h) (Gets.eq (by kernel_rfl) h)
theorem r17Compares_run (op : List UInt8) (c : Int) {P : AV → Prop} (h : Gets (bif op == [(61 : UInt8), (61 : UInt8)] then some (.bool (c == (0 : Int))) else bif op == [(61 : UInt8), (58 : UInt8), (61 : UInt8)] then some (.bool (c == (0 : Int))) else bif op == 
  [(47 : UInt8), (61 : UInt8)] then some (.bool (c != (0 : Int))) else bif op == [(61 : UInt8), (47 : UInt8), (61 : UInt8)] then some (.bool (c != (0 : Int))) else bif op == [(60 : UInt8)] 
  then some (.bool (decide (c < (0 : Int)))) else bif op == [(61 : UInt8), (60 : UInt8)] then some (.bool (decide (c ≤ (0 : Int)))) else bif op == [(62 : UInt8)] then some (.bool (decide 
  (c > (0 : Int)))) else some (.bool (decide (c ≥ (0 : Int))))) P) : Gets (EVs (EV cfg) 102 ([AV.str op, AV.int IntKind.i64 c] : List AV)) P :=
  Gets.ev (fun _ h => funS rfl rfl Tryz.func102 rfl h) (Gets.eq (by kernel_rfl) h)
theorem r17Bools_run (op : List UInt8) (a : Bool) (b : Bool) {P : AV → Prop} (h : Gets (bif op == [(97 : UInt8), (110 : UInt8), (100 : UInt8)] then bif a then some (.bool b) else some (.bool false) else bif op == [(97 : UInt8), (110 : UInt8), (100 : UInt8), (97 : UInt8), 
  (108 : UInt8), (115 : UInt8), (111 : UInt8)] then bif a then some (.bool b) else some (.bool false) else bif op == [(111 : UInt8), (114 : UInt8)] then bif a then some (.bool true) else 
  some (.bool b) else bif op == [(111 : UInt8), (114 : UInt8), (101 : UInt8), (108 : UInt8), (115 : UInt8), (101 : UInt8)] then bif a then some (.bool true) else some (.bool b) else some 
  (.bool !a == b)) P) : Gets (EVs (EV cfg) 104 ([AV.str op, AV.bool a, AV.bool b] : List AV)) P :=
  Gets.ev (fun _ h => funS rfl rfl Tryz.func104 rfl h) (Gets.eq (by kernel_rfl) h)
theorem r17Numbers_run (op : List UInt8) (a : Int) (b : Int) {P : AV → Prop} (h : Gets (bif op == [(43 : UInt8)] then kOpt (EVf (EV cfg) 100 [AV.int .i64 (IntKind.wrap .i64 (a + b))]) fun (v : AV) => kTup v fun (cs : List AV) => kCons cs fun (c : AV) (cs : List AV) => kAgg 
  c fun (cs_1 : List AV) => kCons cs_1 fun (c : AV) (cs_2 : List AV) => kInt .i64 c fun (n : Int) => kCons cs_2 fun (c : AV) (cs_3 : List AV) => kInt .i64 c fun (n_1 : Int) => kCons cs_3 
  fun (c : AV) (cs_4 : List AV) => kStr c fun (s : List UInt8) => kCons cs_4 fun (c : AV) (cs_5 : List AV) => kSl c fun (rows : List (List AV)) => kNil cs_5 (kCons cs fun (c : AV) (cs 
  : List AV) => kBool c fun (b : Bool) => kNil cs (some (AV.tup [.agg [AV.int .i64 n, .int .i64 n_1, .str s, .sl rows], .bool b]))) else bif op == [(45 : UInt8)] then kOpt (EVf (EV cfg) 
  100 [AV.int .i64 (IntKind.wrap .i64 (a - b))]) fun (v : AV) => kTup v fun (cs : List AV) => kCons cs fun (c : AV) (cs : List AV) => kAgg c fun (cs_1 : List AV) => kCons cs_1 fun (c : 
  AV) (cs_2 : List AV) => kInt .i64 c fun (n : Int) => kCons cs_2 fun (c : AV) (cs_3 : List AV) => kInt .i64 c fun (n_1 : Int) => kCons cs_3 fun (c : AV) (cs_4 : List AV) => kStr c fun 
  (s : List UInt8) => kCons cs_4 fun (c : AV) (cs_5 : List AV) => kSl c fun (rows : List (List AV)) => kNil cs_5 (kCons cs fun (c : AV) (cs : List AV) => kBool c fun (b : Bool) => kNil 
  cs (some (AV.tup [.agg [AV.int .i64 n, .int .i64 n_1, .str s, .sl rows], .bool b]))) else bif op == [(42 : UInt8)] then kOpt (EVf (EV cfg) 121 [AV.int .i64 a, .int .i64 b]) fun (v : AV) 
  => kTup v fun (cs : List AV) => kCons cs fun (c : AV) (cs : List AV) => kAgg c fun (cs_1 : List AV) => kCons cs_1 fun (c : AV) (cs_2 : List AV) => kInt .i64 c fun (n : Int) => kCons 
  cs_2 fun (c : AV) (cs_3 : List AV) => kInt .i64 c fun (n_1 : Int) => kCons cs_3 fun (c : AV) (cs_4 : List AV) => kStr c fun (s : List UInt8) => kCons cs_4 fun (c : AV) (cs_5 : List 
  AV) => kSl c fun (rows : List (List AV)) => kNil cs_5 (kCons cs fun (c : AV) (cs : List AV) => kBool c fun (b : Bool) => kNil cs (some (AV.tup [.agg [AV.int .i64 n, .int .i64 n_1, .str 
  s, .sl rows], .bool b]))) else bif op == [(100 : UInt8), (105 : UInt8), (118 : UInt8)] then bif b == (0 : Int) then some (AV.tup [.agg [AV.int .i64 (0 : Int), .int .i64 (0 : Int), .str 
  [], .sl []], .bool false]) else bif op == [(100 : UInt8), (105 : UInt8), (118 : UInt8)] then kOpt (fromSem (Op.intDiv BinOp.quo .i64 a b)) fun (v : AV) => kInt .i64 v fun (n : Int) 
  => kOpt (EVf (EV cfg) 100 [AV.int .i64 n]) fun (v : AV) => kTup v fun (cs : List AV) => kCons cs fun (c : AV) (cs : List AV) => kAgg c fun (cs_1 : List AV) => kCons cs_1 fun (c : AV) 
  (cs_2 : List AV) => kInt .i64 c fun (n : Int) => kCons cs_2 fun (c : AV) (cs_3 : List AV) => kInt .i64 c fun (n_1 : Int) => kCons cs_3 fun (c : AV) (cs_4 : List AV) => kStr c fun (s 
  : List UInt8) => kCons cs_4 fun (c : AV) (cs_5 : List AV) => kSl c fun (rows : List (List AV)) => kNil cs_5 (kCons cs fun (c : AV) (cs : List AV) => kBool c fun (b : Bool) => kNil cs 
  (some (AV.tup [.agg [AV.int .i64 n, .int .i64 n_1, .str s, .sl rows], .bool b]))) else kOpt (fromSem (Op.intDiv BinOp.rem .i64 a b)) fun (v : AV) => kInt .i64 v fun (n : Int) => kOpt 
  (EVf (EV cfg) 100 [AV.int .i64 n]) fun (v : AV) => kTup v fun (cs : List AV) => kCons cs fun (c : AV) (cs : List AV) => kAgg c fun (cs_1 : List AV) => kCons cs_1 fun (c : AV) (cs_2 : 
  List AV) => kInt .i64 c fun (n : Int) => kCons cs_2 fun (c : AV) (cs_3 : List AV) => kInt .i64 c fun (n_1 : Int) => kCons cs_3 fun (c : AV) (cs_4 : List AV) => kStr c fun (s : List 
  UInt8) => kCons cs_4 fun (c : AV) (cs_5 : List AV) => kSl c fun (rows : List (List AV)) => kNil cs_5 (kCons cs fun (c : AV) (cs : List AV) => kBool c fun (b : Bool) => kNil cs (some 
  (AV.tup [.agg [AV.int .i64 n, .int .i64 n_1, .str s, .sl rows], .bool b]))) else bif op == [(114 : UInt8), (101 : UInt8), (109 : UInt8)] then bif b == (0 : Int) then some (AV.tup [.agg 
  [AV.int .i64 (0 : Int), .int .i64 (0 : Int), .str [], .sl []], .bool false]) else bif op == [(100 : UInt8), (105 : UInt8), (118 : UInt8)] then kOpt (fromSem (Op.intDiv BinOp.quo .i64 
  a b)) fun (v : AV) => kInt .i64 v fun (n : Int) => kOpt (EVf (EV cfg) 100 [AV.int .i64 n]) fun (v : AV) => kTup v fun (cs : List AV) => kCons cs fun (c : AV) (cs : List AV) => kAgg c 
  fun (cs_1 : List AV) => kCons cs_1 fun (c : AV) (cs_2 : List AV) => kInt .i64 c fun (n : Int) => kCons cs_2 fun (c : AV) (cs_3 : List AV) => kInt .i64 c fun (n_1 : Int) => kCons cs_3 
  fun (c : AV) (cs_4 : List AV) => kStr c fun (s : List UInt8) => kCons cs_4 fun (c : AV) (cs_5 : List AV) => kSl c fun (rows : List (List AV)) => kNil cs_5 (kCons cs fun (c : AV) (cs 
  : List AV) => kBool c fun (b : Bool) => kNil cs (some (AV.tup [.agg [AV.int .i64 n, .int .i64 n_1, .str s, .sl rows], .bool b]))) else kOpt (fromSem (Op.intDiv BinOp.rem .i64 a b)) fun 
  (v : AV) => kInt .i64 v fun (n : Int) => kOpt (EVf (EV cfg) 100 [AV.int .i64 n]) fun (v : AV) => kTup v fun (cs : List AV) => kCons cs fun (c : AV) (cs : List AV) => kAgg c fun (cs_1 
  : List AV) => kCons cs_1 fun (c : AV) (cs_2 : List AV) => kInt .i64 c fun (n : Int) => kCons cs_2 fun (c : AV) (cs_3 : List AV) => kInt .i64 c fun (n_1 : Int) => kCons cs_3 fun (c : 
  AV) (cs_4 : List AV) => kStr c fun (s : List UInt8) => kCons cs_4 fun (c : AV) (cs_5 : List AV) => kSl c fun (rows : List (List AV)) => kNil cs_5 (kCons cs fun (c : AV) (cs : List AV) 
  => kBool c fun (b : Bool) => kNil cs (some (AV.tup [.agg [AV.int .i64 n, .int .i64 n_1, .str s, .sl rows], .bool b]))) else bif op == [(98 : UInt8), (97 : UInt8), (110 : UInt8), (100 
  : UInt8)] then kOpt (fromSem (Op.intBits BinOp.and .i64 a b)) fun (v : AV) => kInt .i64 v fun (n : Int) => kOpt (EVf (EV cfg) 100 [AV.int .i64 n]) fun (v : AV) => kTup v fun (cs : List 
  AV) => kCons cs fun (c : AV) (cs : List AV) => kAgg c fun (cs_1 : List AV) => kCons cs_1 fun (c : AV) (cs_2 : List AV) => kInt .i64 c fun (n : Int) => kCons cs_2 fun (c : AV) (cs_3 
  : List AV) => kInt .i64 c fun (n_1 : Int) => kCons cs_3 fun (c : AV) (cs_4 : List AV) => kStr c fun (s : List UInt8) => kCons cs_4 fun (c : AV) (cs_5 : List AV) => kSl c fun (rows : 
  List (List AV)) => kNil cs_5 (kCons cs fun (c : AV) (cs : List AV) => kBool c fun (b : Bool) => kNil cs (some (AV.tup [.agg [AV.int .i64 n, .int .i64 n_1, .str s, .sl rows], .bool b]))) 
  else bif op == [(98 : UInt8), (111 : UInt8), (114 : UInt8)] then kOpt (fromSem (Op.intBits BinOp.or .i64 a b)) fun (v : AV) => kInt .i64 v fun (n : Int) => kOpt (EVf (EV cfg) 100 [AV.int 
  .i64 n]) fun (v : AV) => kTup v fun (cs : List AV) => kCons cs fun (c : AV) (cs : List AV) => kAgg c fun (cs_1 : List AV) => kCons cs_1 fun (c : AV) (cs_2 : List AV) => kInt .i64 c 
  fun (n : Int) => kCons cs_2 fun (c : AV) (cs_3 : List AV) => kInt .i64 c fun (n_1 : Int) => kCons cs_3 fun (c : AV) (cs_4 : List AV) => kStr c fun (s : List UInt8) => kCons cs_4 fun 
  (c : AV) (cs_5 : List AV) => kSl c fun (rows : List (List AV)) => kNil cs_5 (kCons cs fun (c : AV) (cs : List AV) => kBool c fun (b : Bool) => kNil cs (some (AV.tup [.agg [AV.int .i64 
  n, .int .i64 n_1, .str s, .sl rows], .bool b]))) else kOpt (fromSem (Op.intBits BinOp.xor .i64 a b)) fun (v : AV) => kInt .i64 v fun (n : Int) => kOpt (EVf (EV cfg) 100 [AV.int .i64 n]) 
  fun (v : AV) => kTup v fun (cs : List AV) => kCons cs fun (c : AV) (cs : List AV) => kAgg c fun (cs_1 : List AV) => kCons cs_1 fun (c : AV) (cs_2 : List AV) => kInt .i64 c fun (n : 
  Int) => kCons cs_2 fun (c : AV) (cs_3 : List AV) => kInt .i64 c fun (n_1 : Int) => kCons cs_3 fun (c : AV) (cs_4 : List AV) => kStr c fun (s : List UInt8) => kCons cs_4 fun (c : AV) 
  (cs_5 : List AV) => kSl c fun (rows : List (List AV)) => kNil cs_5 (kCons cs fun (c : AV) (cs : List AV) => kBool c fun (b : Bool) => kNil cs (some (AV.tup [.agg [AV.int .i64 n, .int 
  .i64 n_1, .str s, .sl rows], .bool b])))) P) : Gets (EVf (EV cfg) 105 ([AV.str op, AV.int IntKind.i64 a, AV.int IntKind.i64 b] : List AV)) P :=
  Gets.ev (fun _ h => funF rfl rfl Tryz.func105 rfl h) (Gets.eq (by kernel_rfl) h)
theorem r17Two_run (op : List UInt8) (ka : Int) (na : Int) (sa : List UInt8) (la : List (List AV)) (kb : Int) (nb : Int) (sb : List UInt8) (lb : List (List AV)) {P : AV → Prop} (h : Gets (bif op == [(61 : UInt8), (61 : UInt8)] then kOpt (EVs (EV cfg) 103 [.agg [AV.int .i64 ka, .int .i64 na, .str sa, .sl la], .agg [AV.int .i64 kb, .int .i64 nb, .str sb, .sl lb]]) fun (v : 
  AV) => kInt .i64 v fun (n : Int) => kOpt (EVs (EV cfg) 102 [.str op, .int .i64 n]) fun (v : AV) => kBool v fun (b : Bool) => kOpt (EVf (EV cfg) 98 [.bool b]) fun (v : AV) => kTmV v 
  fun (n n_1 : Int) (s : List UInt8) (rows : List (List AV)) => (some (AV.tup [.agg [AV.int .i64 n, .int .i64 n_1, .str s, .sl rows], .bool true])) else bif op == [(61 : UInt8), (58 : UInt8), 
  (61 : UInt8)] then kOpt (EVs (EV cfg) 103 [.agg [AV.int .i64 ka, .int .i64 na, .str sa, .sl la], .agg [AV.int .i64 kb, .int .i64 nb, .str sb, .sl lb]]) fun (v : AV) => kInt .i64 v fun (n 
  : Int) => kOpt (EVs (EV cfg) 102 [.str op, .int .i64 n]) fun (v : AV) => kBool v fun (b : Bool) => kOpt (EVf (EV cfg) 98 [.bool b]) fun (v : AV) => kTmV v fun (n n_1 : Int) (s : List 
  UInt8) (rows : List (List AV)) => (some (AV.tup [.agg [AV.int .i64 n, .int .i64 n_1, .str s, .sl rows], .bool true])) else bif op == [(47 : UInt8), (61 : UInt8)] then kOpt (EVs (EV cfg) 
  103 [.agg [AV.int .i64 ka, .int .i64 na, .str sa, .sl la], .agg [AV.int .i64 kb, .int .i64 nb, .str sb, .sl lb]]) fun (v : AV) => kInt .i64 v fun (n : Int) => kOpt (EVs (EV cfg) 102 [.str 
  op, .int .i64 n]) fun (v : AV) => kBool v fun (b : Bool) => kOpt (EVf (EV cfg) 98 [.bool b]) fun (v : AV) => kTmV v fun (n n_1 : Int) (s : List UInt8) (rows : List (List AV)) => (some 
  (AV.tup [.agg [AV.int .i64 n, .int .i64 n_1, .str s, .sl rows], .bool true])) else bif op == [(61 : UInt8), (47 : UInt8), (61 : UInt8)] then kOpt (EVs (EV cfg) 103 [.agg [AV.int .i64 ka, 
  .int .i64 na, .str sa, .sl la], .agg [AV.int .i64 kb, .int .i64 nb, .str sb, .sl lb]]) fun (v : AV) => kInt .i64 v fun (n : Int) => kOpt (EVs (EV cfg) 102 [.str op, .int .i64 n]) fun 
  (v : AV) => kBool v fun (b : Bool) => kOpt (EVf (EV cfg) 98 [.bool b]) fun (v : AV) => kTmV v fun (n n_1 : Int) (s : List UInt8) (rows : List (List AV)) => (some (AV.tup [.agg [AV.int 
  .i64 n, .int .i64 n_1, .str s, .sl rows], .bool true])) else bif op == [(60 : UInt8)] then kOpt (EVs (EV cfg) 103 [.agg [AV.int .i64 ka, .int .i64 na, .str sa, .sl la], .agg [AV.int .i64 
  kb, .int .i64 nb, .str sb, .sl lb]]) fun (v : AV) => kInt .i64 v fun (n : Int) => kOpt (EVs (EV cfg) 102 [.str op, .int .i64 n]) fun (v : AV) => kBool v fun (b : Bool) => kOpt (EVf 
  (EV cfg) 98 [.bool b]) fun (v : AV) => kTmV v fun (n n_1 : Int) (s : List UInt8) (rows : List (List AV)) => (some (AV.tup [.agg [AV.int .i64 n, .int .i64 n_1, .str s, .sl rows], .bool 
  true])) else bif op == [(61 : UInt8), (60 : UInt8)] then kOpt (EVs (EV cfg) 103 [.agg [AV.int .i64 ka, .int .i64 na, .str sa, .sl la], .agg [AV.int .i64 kb, .int .i64 nb, .str sb, .sl lb]]) 
  fun (v : AV) => kInt .i64 v fun (n : Int) => kOpt (EVs (EV cfg) 102 [.str op, .int .i64 n]) fun (v : AV) => kBool v fun (b : Bool) => kOpt (EVf (EV cfg) 98 [.bool b]) fun (v : AV) => 
  kTmV v fun (n n_1 : Int) (s : List UInt8) (rows : List (List AV)) => (some (AV.tup [.agg [AV.int .i64 n, .int .i64 n_1, .str s, .sl rows], .bool true])) else bif op == [(62 : UInt8)] 
  then kOpt (EVs (EV cfg) 103 [.agg [AV.int .i64 ka, .int .i64 na, .str sa, .sl la], .agg [AV.int .i64 kb, .int .i64 nb, .str sb, .sl lb]]) fun (v : AV) => kInt .i64 v fun (n : Int) => kOpt 
  (EVs (EV cfg) 102 [.str op, .int .i64 n]) fun (v : AV) => kBool v fun (b : Bool) => kOpt (EVf (EV cfg) 98 [.bool b]) fun (v : AV) => kTmV v fun (n n_1 : Int) (s : List UInt8) (rows 
  : List (List AV)) => (some (AV.tup [.agg [AV.int .i64 n, .int .i64 n_1, .str s, .sl rows], .bool true])) else bif op == [(62 : UInt8), (61 : UInt8)] then kOpt (EVs (EV cfg) 103 [.agg 
  [AV.int .i64 ka, .int .i64 na, .str sa, .sl la], .agg [AV.int .i64 kb, .int .i64 nb, .str sb, .sl lb]]) fun (v : AV) => kInt .i64 v fun (n : Int) => kOpt (EVs (EV cfg) 102 [.str op, .int 
  .i64 n]) fun (v : AV) => kBool v fun (b : Bool) => kOpt (EVf (EV cfg) 98 [.bool b]) fun (v : AV) => kTmV v fun (n n_1 : Int) (s : List UInt8) (rows : List (List AV)) => (some (AV.tup 
  [.agg [AV.int .i64 n, .int .i64 n_1, .str s, .sl rows], .bool true])) else bif op == [(97 : UInt8), (110 : UInt8), (100 : UInt8)] then kOpt (EVs (EV cfg) 88 [.agg [AV.int .i64 ka, .int 
  .i64 na, .str sa, .sl la]]) fun (v : AV) => kTup v fun (cs : List AV) => kCons cs fun (c : AV) (cs : List AV) => kBool c fun (b : Bool) => kCons cs fun (c : AV) (cs : List AV) => kBool 
  c fun (b_1 : Bool) => kNil cs (kOpt (EVs (EV cfg) 88 [.agg [AV.int .i64 kb, .int .i64 nb, .str sb, .sl lb]]) fun (v : AV) => kTup v fun (cs : List AV) => kCons cs fun (c : AV) (cs : List 
  AV) => kBool c fun (b_2 : Bool) => kCons cs fun (c : AV) (cs : List AV) => kBool c fun (b_3 : Bool) => kNil cs (kOpt (EVs (EV cfg) 104 [.str op, .bool b, .bool b_2]) fun (v : AV) => 
  kBool v fun (b : Bool) => kOpt (EVf (EV cfg) 98 [.bool b]) fun (v : AV) => kTmV v fun (n n_1 : Int) (s : List UInt8) (rows : List (List AV)) => (bif b_1 then some (AV.tup [.agg [AV.int 
  .i64 n, .int .i64 n_1, .str s, .sl rows], .bool b_3]) else some (AV.tup [.agg [AV.int .i64 n, .int .i64 n_1, .str s, .sl rows], .bool false])))) else bif op == [(111 : UInt8), (114 : 
  UInt8)] then kOpt (EVs (EV cfg) 88 [.agg [AV.int .i64 ka, .int .i64 na, .str sa, .sl la]]) fun (v : AV) => kTup v fun (cs : List AV) => kCons cs fun (c : AV) (cs : List AV) => kBool c 
  fun (b : Bool) => kCons cs fun (c : AV) (cs : List AV) => kBool c fun (b_1 : Bool) => kNil cs (kOpt (EVs (EV cfg) 88 [.agg [AV.int .i64 kb, .int .i64 nb, .str sb, .sl lb]]) fun (v : AV) 
  => kTup v fun (cs : List AV) => kCons cs fun (c : AV) (cs : List AV) => kBool c fun (b_2 : Bool) => kCons cs fun (c : AV) (cs : List AV) => kBool c fun (b_3 : Bool) => kNil cs (kOpt 
  (EVs (EV cfg) 104 [.str op, .bool b, .bool b_2]) fun (v : AV) => kBool v fun (b : Bool) => kOpt (EVf (EV cfg) 98 [.bool b]) fun (v : AV) => kTmV v fun (n n_1 : Int) (s : List UInt8) 
  (rows : List (List AV)) => (bif b_1 then some (AV.tup [.agg [AV.int .i64 n, .int .i64 n_1, .str s, .sl rows], .bool b_3]) else some (AV.tup [.agg [AV.int .i64 n, .int .i64 n_1, .str s, 
  .sl rows], .bool false])))) else bif op == [(120 : UInt8), (111 : UInt8), (114 : UInt8)] then kOpt (EVs (EV cfg) 88 [.agg [AV.int .i64 ka, .int .i64 na, .str sa, .sl la]]) fun (v : AV) 
  => kTup v fun (cs : List AV) => kCons cs fun (c : AV) (cs : List AV) => kBool c fun (b : Bool) => kCons cs fun (c : AV) (cs : List AV) => kBool c fun (b_1 : Bool) => kNil cs (kOpt (EVs 
  (EV cfg) 88 [.agg [AV.int .i64 kb, .int .i64 nb, .str sb, .sl lb]]) fun (v : AV) => kTup v fun (cs : List AV) => kCons cs fun (c : AV) (cs : List AV) => kBool c fun (b_2 : Bool) => kCons 
  cs fun (c : AV) (cs : List AV) => kBool c fun (b_3 : Bool) => kNil cs (kOpt (EVs (EV cfg) 104 [.str op, .bool b, .bool b_2]) fun (v : AV) => kBool v fun (b : Bool) => kOpt (EVf (EV 
  cfg) 98 [.bool b]) fun (v : AV) => kTmV v fun (n n_1 : Int) (s : List UInt8) (rows : List (List AV)) => (bif b_1 then some (AV.tup [.agg [AV.int .i64 n, .int .i64 n_1, .str s, .sl rows], 
  .bool b_3]) else some (AV.tup [.agg [AV.int .i64 n, .int .i64 n_1, .str s, .sl rows], .bool false])))) else bif op == [(97 : UInt8), (110 : UInt8), (100 : UInt8), (97 : UInt8), (108 : 
  UInt8), (115 : UInt8), (111 : UInt8)] then kOpt (EVs (EV cfg) 88 [.agg [AV.int .i64 ka, .int .i64 na, .str sa, .sl la]]) fun (v : AV) => kTup v fun (cs : List AV) => kCons cs fun (c : 
  AV) (cs : List AV) => kBool c fun (b : Bool) => kCons cs fun (c : AV) (cs : List AV) => kBool c fun (b_1 : Bool) => kNil cs (kOpt (EVs (EV cfg) 88 [.agg [AV.int .i64 kb, .int .i64 nb, 
  .str sb, .sl lb]]) fun (v : AV) => kTup v fun (cs : List AV) => kCons cs fun (c : AV) (cs : List AV) => kBool c fun (b_2 : Bool) => kCons cs fun (c : AV) (cs : List AV) => kBool c fun 
  (b_3 : Bool) => kNil cs (kOpt (EVs (EV cfg) 104 [.str op, .bool b, .bool b_2]) fun (v : AV) => kBool v fun (b : Bool) => kOpt (EVf (EV cfg) 98 [.bool b]) fun (v : AV) => kTmV v fun 
  (n n_1 : Int) (s : List UInt8) (rows : List (List AV)) => (bif b_1 then some (AV.tup [.agg [AV.int .i64 n, .int .i64 n_1, .str s, .sl rows], .bool b_3]) else some (AV.tup [.agg [AV.int 
  .i64 n, .int .i64 n_1, .str s, .sl rows], .bool false])))) else bif op == [(111 : UInt8), (114 : UInt8), (101 : UInt8), (108 : UInt8), (115 : UInt8), (101 : UInt8)] then kOpt (EVs (EV 
  cfg) 88 [.agg [AV.int .i64 ka, .int .i64 na, .str sa, .sl la]]) fun (v : AV) => kTup v fun (cs : List AV) => kCons cs fun (c : AV) (cs : List AV) => kBool c fun (b : Bool) => kCons cs 
  fun (c : AV) (cs : List AV) => kBool c fun (b_1 : Bool) => kNil cs (kOpt (EVs (EV cfg) 88 [.agg [AV.int .i64 kb, .int .i64 nb, .str sb, .sl lb]]) fun (v : AV) => kTup v fun (cs : List 
  AV) => kCons cs fun (c : AV) (cs : List AV) => kBool c fun (b_2 : Bool) => kCons cs fun (c : AV) (cs : List AV) => kBool c fun (b_3 : Bool) => kNil cs (kOpt (EVs (EV cfg) 104 [.str 
  op, .bool b, .bool b_2]) fun (v : AV) => kBool v fun (b : Bool) => kOpt (EVf (EV cfg) 98 [.bool b]) fun (v : AV) => kTmV v fun (n n_1 : Int) (s : List UInt8) (rows : List (List AV)) 
  => (bif b_1 then some (AV.tup [.agg [AV.int .i64 n, .int .i64 n_1, .str s, .sl rows], .bool b_3]) else some (AV.tup [.agg [AV.int .i64 n, .int .i64 n_1, .str s, .sl rows], .bool false])))) 
  else bif op == [(101 : UInt8), (108 : UInt8), (101 : UInt8), (109 : UInt8), (101 : UInt8), (110 : UInt8), (116 : UInt8)] then bif ka != (1 : Int) then some (AV.tup [.agg [AV.int .i64 
  (0 : Int), .int .i64 (0 : Int), .str [], .sl []], .bool false]) else bif kb != (7 : Int) then some (AV.tup [.agg [AV.int .i64 (0 : Int), .int .i64 (0 : Int), .str [], .sl []], .bool false]) 
  else bif decide (na < (1 : Int)) then some (AV.tup [.agg [AV.int .i64 (0 : Int), .int .i64 (0 : Int), .str [], .sl []], .bool false]) else bif decide (na > (↑(List.length lb) : Int)) 
  then some (AV.tup [.agg [AV.int .i64 (0 : Int), .int .i64 (0 : Int), .str [], .sl []], .bool false]) else bif leInt (0 : Int) (IntKind.wrap .i64 (na - (1 : Int))) && ltInt (IntKind.wrap 
  .i64 (na - (1 : Int))) (↑(List.length lb) : Int) then kOpt (List.get?Internal lb (Int.toNat (IntKind.wrap .i64 (na - (1 : Int))))) fun (row : List AV) => bif Nat.beq (List.length row) 
  4 then bif Nat.ble 4 (List.length row) then kTmC (List.take 4 row) fun (n n_1 : Int) (s : List UInt8) (rows : List (List AV)) => (some (AV.tup [.agg [AV.int .i64 n, .int .i64 n_1, .str 
  s, .sl rows], .bool true])) else none else none else none else bif ka != (1 : Int) then some (AV.tup [.agg [AV.int .i64 (0 : Int), .int .i64 (0 : Int), .str [], .sl []], .bool false]) 
  else bif kb != (1 : Int) then some (AV.tup [.agg [AV.int .i64 (0 : Int), .int .i64 (0 : Int), .str [], .sl []], .bool false]) else kOpt (EVf (EV cfg) 105 [.str op, .int .i64 na, .int 
  .i64 nb]) fun (v : AV) => kTup v fun (cs : List AV) => kCons cs fun (c : AV) (cs : List AV) => kAgg c fun (cs_1 : List AV) => kCons cs_1 fun (c : AV) (cs_2 : List AV) => kInt .i64 c 
  fun (n : Int) => kCons cs_2 fun (c : AV) (cs_3 : List AV) => kInt .i64 c fun (n_1 : Int) => kCons cs_3 fun (c : AV) (cs_4 : List AV) => kStr c fun (s : List UInt8) => kCons cs_4 fun 
  (c : AV) (cs_5 : List AV) => kSl c fun (rows : List (List AV)) => kNil cs_5 (kCons cs fun (c : AV) (cs : List AV) => kBool c fun (b : Bool) => kNil cs (some (AV.tup [.agg [AV.int .i64 
  n, .int .i64 n_1, .str s, .sl rows], .bool b])))) P) : Gets (EVf (EV cfg) 77 ([AV.str op, AV.agg [AV.int IntKind.i64 ka, AV.int IntKind.i64 na, AV.str sa, AV.sl la], AV.agg [AV.int IntKind.i64 kb, AV.int IntKind.i64 nb, AV.str sb, AV.sl lb]] : List AV)) P :=
  Gets.ev (fun _ h => funF rfl rfl Tryz.func77 rfl h) (Gets.eq (by kernel_rfl) h)
theorem r17Apply1_run (op : List UInt8) (L : List (List AV)) (self : Int) {P : AV → Prop} (h : Gets (bif (↑(List.length L) : Int) == (1 : Int) then bif ltInt (0 : Int) (↑(List.length L) : Int) then kOpt (List.get?Internal L 0) fun (row : List AV) => bif Nat.beq (List.length row) 4 
  then bif Nat.ble 4 (List.length row) then kTmC (List.take 4 row) fun (n n_1 : Int) (s : List UInt8) (rows : List (List AV)) => (kOpt (EVf (EV cfg) 76 [.str op, .agg [AV.int .i64 n, .int 
  .i64 n_1, .str s, .sl rows]]) fun (v : AV) => kTup v fun (cs : List AV) => kCons cs fun (c : AV) (cs : List AV) => kAgg c fun (cs_1 : List AV) => kCons cs_1 fun (c : AV) (cs_2 : List 
  AV) => kInt .i64 c fun (n : Int) => kCons cs_2 fun (c : AV) (cs_3 : List AV) => kInt .i64 c fun (n_2 : Int) => kCons cs_3 fun (c : AV) (cs_4 : List AV) => kStr c fun (s : List UInt8) 
  => kCons cs_4 fun (c : AV) (cs_5 : List AV) => kSl c fun (rows : List (List AV)) => kNil cs_5 (kCons cs fun (c : AV) (cs : List AV) => kBool c fun (b : Bool) => kNil cs (bif !b then 
  some (AV.tup [.agg [AV.int .i64 (0 : Int), .int .i64 (0 : Int), .str [], .sl []], .bool false]) else some (AV.tup [.agg [AV.int .i64 n, .int .i64 n_2, .str s, .sl rows], .bool true])))) 
  else none else none else none else bif (↑(List.length L) : Int) == (2 : Int) then bif ltInt (0 : Int) (↑(List.length L) : Int) then kOpt (List.get?Internal L 0) fun (row : List AV) 
  => bif Nat.beq (List.length row) 4 then bif Nat.ble 4 (List.length row) then kTmC (List.take 4 row) fun (n n_1 : Int) (s : List UInt8) (rows : List (List AV)) => (bif ltInt (1 : Int) 
  (↑(List.length L) : Int) then kOpt (List.get?Internal L 1) fun (row : List AV) => bif Nat.beq (List.length row) 4 then bif Nat.ble 4 (List.length row) then kTmC (List.take 4 row) fun 
  (n_2 n_3 : Int) (s_1 : List UInt8) (rows_1 : List (List AV)) => (kOpt (EVf (EV cfg) 77 [.str op, .agg [AV.int .i64 n, .int .i64 n_1, .str s, .sl rows], .agg [AV.int .i64 n_2, .int .i64 
  n_3, .str s_1, .sl rows_1]]) fun (v : AV) => kTup v fun (cs : List AV) => kCons cs fun (c : AV) (cs : List AV) => kAgg c fun (cs_1 : List AV) => kCons cs_1 fun (c : AV) (cs_2 : List 
  AV) => kInt .i64 c fun (n : Int) => kCons cs_2 fun (c : AV) (cs_3 : List AV) => kInt .i64 c fun (n_4 : Int) => kCons cs_3 fun (c : AV) (cs_4 : List AV) => kStr c fun (s : List UInt8) 
  => kCons cs_4 fun (c : AV) (cs_5 : List AV) => kSl c fun (rows : List (List AV)) => kNil cs_5 (kCons cs fun (c : AV) (cs : List AV) => kBool c fun (b : Bool) => kNil cs (bif !b then 
  some (AV.tup [.agg [AV.int .i64 (0 : Int), .int .i64 (0 : Int), .str [], .sl []], .bool false]) else some (AV.tup [.agg [AV.int .i64 n, .int .i64 n_4, .str s, .sl rows], .bool true])))) 
  else none else none else none) else none else none else none else some (AV.tup [.agg [AV.int .i64 (6 : Int), .int .i64 self, .str [], .sl []], .bool true])) P) : Gets (EVf (EV cfg) 49 ([AV.str op, AV.sl L, AV.int IntKind.i64 self] : List AV)) P :=
  Gets.ev (fun _ h => funF rfl rfl Tryz.func49 rfl h) (Gets.eq (by kernel_rfl) h)
theorem r17List_run (L : List (List AV)) {P : AV → Prop} (h : Gets (wy64_0 L (IntKind.wrap .i64 ((↑(List.length L) : Int) - (1 : Int))) (0 : Int) (0 : Int) [] [] (8 : Int) (0 : Int) [] []) P) : Gets (EVf (EV cfg) 64 ([AV.sl L] : List AV)) P :=
  Gets.ev (fun _ h => funF rfl rfl Tryz.func64 rfl h) (Gets.eq (by kernel_rfl) h)
theorem r17Whole_run (kt : Int) (nt : Int) (st : List UInt8) (lt : List (List AV)) (ok : Bool) {P : AV → Prop} (h : Gets (bif !ok then some (AV.tup [.agg [AV.int .i64 (0 : Int), .int .i64 (0 : Int), .str [], .sl []], .bool false]) else kOpt (EVs (EV cfg) 48 [.agg [AV.int .i64 kt, .int .i64 nt, .str st, .sl 
  lt]]) fun (v : AV) => kInt .i64 v fun (n : Int) => bif n != (0 : Int) then some (AV.tup [.agg [AV.int .i64 (0 : Int), .int .i64 (0 : Int), .str [], .sl []], .bool false]) else some (AV.tup 
  [.agg [AV.int .i64 kt, .int .i64 nt, .str st, .sl lt], .bool true])) P) : Gets (EVf (EV cfg) 63 ([AV.agg [AV.int IntKind.i64 kt, AV.int IntKind.i64 nt, AV.str st, AV.sl lt], AV.bool ok] : List AV)) P :=
  Gets.ev (fun _ h => funF rfl rfl Tryz.func63 rfl h) (Gets.eq (by kernel_rfl) h)
theorem r17Values_run (L : List (List AV)) (ke : Int) (ne : Int) (se : List UInt8) (le : List (List AV)) (bd : List (List AV)) (self : Int) {P : AV → Prop} (h : Gets (wy65_0 L 0 (0 : Int) ke ne se le bd self []) P) : Gets (EVf (EV cfg) 65 ([AV.sl L, AV.agg [AV.int IntKind.i64 ke, AV.int IntKind.i64 ne, AV.str se, AV.sl le, AV.sl bd, AV.int IntKind.i64 self]] : List AV)) P :=
  Gets.ev (fun _ h => funF rfl rfl Tryz.func65 rfl h) (Gets.eq (by kernel_rfl) h)
theorem r17Lazy_run (op : List UInt8) (L : List (List AV)) (ke : Int) (ne : Int) (se : List UInt8) (le : List (List AV)) (bd : List (List AV)) (self : Int) {P : AV → Prop} (h : Gets (bif ltInt (0 : Int) (↑(List.length L) : Int) then kOpt (List.get?Internal L 0) fun (row : List AV) => bif Nat.beq (List.length row) 4 then bif Nat.ble 4 (List.length row) then kTmC 
  (List.take 4 row) fun (n n_1 : Int) (s : List UInt8) (rows : List (List AV)) => (kOpt (EVf (EV cfg) 29 [.agg [AV.int .i64 n, .int .i64 n_1, .str s, .sl rows], .agg [AV.int .i64 ke, .int 
  .i64 ne, .str se, .sl le, .sl bd, .int .i64 self]]) fun (v : AV) => kTup v fun (cs : List AV) => kCons cs fun (c : AV) (cs : List AV) => kAgg c fun (cs_1 : List AV) => kCons cs_1 fun 
  (c : AV) (cs_2 : List AV) => kInt .i64 c fun (n : Int) => kCons cs_2 fun (c : AV) (cs_3 : List AV) => kInt .i64 c fun (n_2 : Int) => kCons cs_3 fun (c : AV) (cs_4 : List AV) => kStr 
  c fun (s : List UInt8) => kCons cs_4 fun (c : AV) (cs_5 : List AV) => kSl c fun (rows : List (List AV)) => kNil cs_5 (kCons cs fun (c : AV) (cs : List AV) => kBool c fun (b : Bool) 
  => kNil cs (kOpt (EVs (EV cfg) 88 [.agg [AV.int .i64 n, .int .i64 n_2, .str s, .sl rows]]) fun (v : AV) => kTup v fun (cs : List AV) => kCons cs fun (c : AV) (cs : List AV) => kBool c 
  fun (b_1 : Bool) => kCons cs fun (c : AV) (cs : List AV) => kBool c fun (b_2 : Bool) => kNil cs (bif !b then some (AV.tup [.agg [AV.int .i64 (0 : Int), .int .i64 (0 : Int), .str [], .sl 
  []], .bool false]) else bif !b_2 then some (AV.tup [.agg [AV.int .i64 (0 : Int), .int .i64 (0 : Int), .str [], .sl []], .bool false]) else bif !b_1 == (op == [(97 : UInt8), (110 : UInt8), 
  (100 : UInt8), (97 : UInt8), (108 : UInt8), (115 : UInt8), (111 : UInt8)]) then some (AV.tup [.agg [AV.int .i64 n, .int .i64 n_2, .str s, .sl rows], .bool true]) else bif ltInt (1 : Int) 
  (↑(List.length L) : Int) then kOpt (List.get?Internal L 1) fun (row : List AV) => bif Nat.beq (List.length row) 4 then bif Nat.ble 4 (List.length row) then kTmC (List.take 4 row) fun 
  (n n_3 : Int) (s : List UInt8) (rows : List (List AV)) => (kOpt (EVf (EV cfg) 29 [.agg [AV.int .i64 n, .int .i64 n_3, .str s, .sl rows], AV.agg [AV.int .i64 ke, .int .i64 ne, .str se, .sl 
  le, .sl bd, .int .i64 self]]) fun (v : AV) => kTup v fun (cs : List AV) => kCons cs fun (c : AV) (cs : List AV) => kAgg c fun (cs_6 : List AV) => kCons cs_6 fun (c : AV) (cs_7 : List 
  AV) => kInt .i64 c fun (n : Int) => kCons cs_7 fun (c : AV) (cs_8 : List AV) => kInt .i64 c fun (n_4 : Int) => kCons cs_8 fun (c : AV) (cs_9 : List AV) => kStr c fun (s : List UInt8) 
  => kCons cs_9 fun (c : AV) (cs_10 : List AV) => kSl c fun (rows : List (List AV)) => kNil cs_10 (kCons cs fun (c : AV) (cs : List AV) => kBool c fun (b : Bool) => kNil cs (kOpt (EVs 
  (EV cfg) 88 [AV.agg [AV.int .i64 n, .int .i64 n_4, .str s, .sl rows]]) fun (v : AV) => kTup v fun (cs : List AV) => kCons cs fun (c : AV) (cs : List AV) => kBool c fun (b_3 : Bool) => 
  kCons cs fun (c : AV) (cs : List AV) => kBool c fun (b_4 : Bool) => kNil cs (bif b then some (AV.tup [AV.agg [AV.int .i64 n, .int .i64 n_4, .str s, .sl rows], .bool b_4]) else some (AV.tup 
  [AV.agg [AV.int .i64 n, .int .i64 n_4, .str s, .sl rows], .bool false]))))) else none else none else none)))) else none else none else none) P) : Gets (EVf (EV cfg) 66 ([AV.str op, AV.sl L, AV.agg [AV.int IntKind.i64 ke, AV.int IntKind.i64 ne, AV.str se, AV.sl le, AV.sl bd, AV.int IntKind.i64 self]] : List AV)) P :=
  Gets.ev (fun _ h => funF rfl rfl Tryz.func66 rfl h) (Gets.eq (by kernel_rfl) h)
theorem r17Value_run (kt : Int) (nt : Int) (st : List UInt8) (lt : List (List AV)) (ke : Int) (ne : Int) (se : List UInt8) (le : List (List AV)) (bd : List (List AV)) (self : Int) {P : AV → Prop} (h : Gets (kOpt (EVs (EV cfg) 61 [.agg [AV.int .i64 kt, .int .i64 nt, .str st, .sl lt]]) fun (v : AV) => kTup v fun (cs : List AV) => kCons cs fun (c : AV) (cs : List AV) => kInt .i64 c fun (n : 
  Int) => kCons cs fun (c : AV) (cs : List AV) => kBool c fun (b : Bool) => kNil cs (bif b then kOpt (EVf (EV cfg) 62 [.sl bd, .int .i64 n]) fun (v : AV) => kTup v fun (cs : List AV) 
  => kCons cs fun (c : AV) (cs : List AV) => kAgg c fun (cs_1 : List AV) => kCons cs_1 fun (c : AV) (cs_2 : List AV) => kInt .i64 c fun (n : Int) => kCons cs_2 fun (c : AV) (cs_3 : List 
  AV) => kInt .i64 c fun (n_1 : Int) => kCons cs_3 fun (c : AV) (cs_4 : List AV) => kStr c fun (s : List UInt8) => kCons cs_4 fun (c : AV) (cs_5 : List AV) => kSl c fun (rows : List (List 
  AV)) => kNil cs_5 (kCons cs fun (c : AV) (cs : List AV) => kBool c fun (b : Bool) => kNil cs (some (AV.tup [.agg [AV.int .i64 n, .int .i64 n_1, .str s, .sl rows], .bool b]))) else bif 
  kt == (2 : Int) then bif st == [(36 : UInt8), (95 : UInt8)] then some (AV.tup [.agg [AV.int .i64 ke, .int .i64 ne, .str se, .sl le], .bool true]) else bif kt == (2 : Int) then bif st 
  == [(36 : UInt8), (36 : UInt8)] then wy29_0 0 (0 : Int) ke ne se le bd self (0 : Int) (0 : Int) [] [] [] else bif kt == (9 : Int) then kOpt (EVf (EV cfg) 65 [.sl lt, .agg [AV.int .i64 
  ke, .int .i64 ne, .str se, .sl le, .sl bd, .int .i64 self]]) fun (v : AV) => kTup v fun (cs : List AV) => kCons cs fun (c : AV) (cs : List AV) => kSl c fun (rows : List (List AV)) => 
  kCons cs fun (c : AV) (cs : List AV) => kBool c fun (b : Bool) => kNil cs (kOpt (EVf (EV cfg) 63 [.agg [AV.int .i64 (9 : Int), .int .i64 (0 : Int), .str [], .sl rows], .bool b]) fun (v 
  : AV) => kTup v fun (cs : List AV) => kCons cs fun (c : AV) (cs : List AV) => kAgg c fun (cs_1 : List AV) => kCons cs_1 fun (c : AV) (cs_2 : List AV) => kInt .i64 c fun (n : Int) => 
  kCons cs_2 fun (c : AV) (cs_3 : List AV) => kInt .i64 c fun (n_1 : Int) => kCons cs_3 fun (c : AV) (cs_4 : List AV) => kStr c fun (s : List UInt8) => kCons cs_4 fun (c : AV) (cs_5 : 
  List AV) => kSl c fun (rows : List (List AV)) => kNil cs_5 (kCons cs fun (c : AV) (cs : List AV) => kBool c fun (b : Bool) => kNil cs (some (AV.tup [.agg [AV.int .i64 n, .int .i64 n_1, 
  .str s, .sl rows], .bool b])))) else bif kt != (7 : Int) then some (AV.tup [.agg [AV.int .i64 kt, .int .i64 nt, .str st, .sl lt], .bool true]) else bif ltInt (0 : Int) (↑(List.length 
  lt) : Int) then kOpt (List.get?Internal lt 0) fun (row : List AV) => bif Nat.beq (List.length row) 4 then bif Nat.ble 4 (List.length row) then kTmC (List.take 4 row) fun (n n_1 : Int) 
  (s : List UInt8) (rows : List (List AV)) => (bif n == (7 : Int) then kOpt (EVf (EV cfg) 65 [.sl rows, .agg [AV.int .i64 ke, .int .i64 ne, .str se, .sl le, .sl bd, .int .i64 self]]) fun 
  (v : AV) => kTup v fun (cs : List AV) => kCons cs fun (c : AV) (cs : List AV) => kSl c fun (rows : List (List AV)) => kCons cs fun (c : AV) (cs : List AV) => kBool c fun (b : Bool) 
  => kNil cs (kOpt (EVf (EV cfg) 63 [.agg [AV.int .i64 (7 : Int), .int .i64 (0 : Int), .str [], .sl rows], .bool b]) fun (v : AV) => kTup v fun (cs : List AV) => kCons cs fun (c : AV) (cs 
  : List AV) => kAgg c fun (cs_1 : List AV) => kCons cs_1 fun (c : AV) (cs_2 : List AV) => kInt .i64 c fun (n : Int) => kCons cs_2 fun (c : AV) (cs_3 : List AV) => kInt .i64 c fun (n_2 
  : Int) => kCons cs_3 fun (c : AV) (cs_4 : List AV) => kStr c fun (s : List UInt8) => kCons cs_4 fun (c : AV) (cs_5 : List AV) => kSl c fun (rows : List (List AV)) => kNil cs_5 (kCons 
  cs fun (c : AV) (cs : List AV) => kBool c fun (b : Bool) => kNil cs (some (AV.tup [.agg [AV.int .i64 n, .int .i64 n_2, .str s, .sl rows], .bool b])))) else bif s == [(99 : UInt8), (111 
  : UInt8), (110 : UInt8), (115 : UInt8), (116 : UInt8)] then bif ltInt (1 : Int) (↑(List.length lt) : Int) then kOpt (List.get?Internal lt 1) fun (row : List AV) => bif Nat.beq (List.length 
  row) 4 then bif Nat.ble 4 (List.length row) then kTmC (List.take 4 row) fun (n n_2 : Int) (s : List UInt8) (rows : List (List AV)) => (some (AV.tup [.agg [AV.int .i64 n, .int .i64 n_2, 
  .str s, .sl rows], .bool true])) else none else none else none else bif s == [(97 : UInt8), (110 : UInt8), (100 : UInt8), (97 : UInt8), (108 : UInt8), (115 : UInt8), (111 : UInt8)] 
  then bif leInt (1 : Int) (↑(List.length lt) : Int) then bif rowsOk 4 lt then kOpt (EVf (EV cfg) 66 [.str s, .sl (List.take (List.length lt - 1) (List.drop 1 lt)), .agg [AV.int .i64 ke, 
  .int .i64 ne, .str se, .sl le, .sl bd, .int .i64 self]]) fun (v : AV) => kTup v fun (cs : List AV) => kCons cs fun (c : AV) (cs : List AV) => kAgg c fun (cs_1 : List AV) => kCons cs_1 
  fun (c : AV) (cs_2 : List AV) => kInt .i64 c fun (n : Int) => kCons cs_2 fun (c : AV) (cs_3 : List AV) => kInt .i64 c fun (n_2 : Int) => kCons cs_3 fun (c : AV) (cs_4 : List AV) => 
  kStr c fun (s : List UInt8) => kCons cs_4 fun (c : AV) (cs_5 : List AV) => kSl c fun (rows : List (List AV)) => kNil cs_5 (kCons cs fun (c : AV) (cs : List AV) => kBool c fun (b : Bool) 
  => kNil cs (some (AV.tup [.agg [AV.int .i64 n, .int .i64 n_2, .str s, .sl rows], .bool b]))) else none else none else bif s == [(111 : UInt8), (114 : UInt8), (101 : UInt8), (108 : UInt8), 
  (115 : UInt8), (101 : UInt8)] then bif leInt (1 : Int) (↑(List.length lt) : Int) then bif rowsOk 4 lt then kOpt (EVf (EV cfg) 66 [.str s, .sl (List.take (List.length lt - 1) (List.drop 
  1 lt)), .agg [AV.int .i64 ke, .int .i64 ne, .str se, .sl le, .sl bd, .int .i64 self]]) fun (v : AV) => kTup v fun (cs : List AV) => kCons cs fun (c : AV) (cs : List AV) => kAgg c fun 
  (cs_1 : List AV) => kCons cs_1 fun (c : AV) (cs_2 : List AV) => kInt .i64 c fun (n : Int) => kCons cs_2 fun (c : AV) (cs_3 : List AV) => kInt .i64 c fun (n_2 : Int) => kCons cs_3 fun 
  (c : AV) (cs_4 : List AV) => kStr c fun (s : List UInt8) => kCons cs_4 fun (c : AV) (cs_5 : List AV) => kSl c fun (rows : List (List AV)) => kNil cs_5 (kCons cs fun (c : AV) (cs : List 
  AV) => kBool c fun (b : Bool) => kNil cs (some (AV.tup [.agg [AV.int .i64 n, .int .i64 n_2, .str s, .sl rows], .bool b]))) else none else none else bif leInt (1 : Int) (↑(List.length 
  lt) : Int) then bif rowsOk 4 lt then kOpt (EVf (EV cfg) 65 [.sl (List.take (List.length lt - 1) (List.drop 1 lt)), .agg [AV.int .i64 ke, .int .i64 ne, .str se, .sl le, .sl bd, .int .i64 
  self]]) fun (v : AV) => kTup v fun (cs : List AV) => kCons cs fun (c : AV) (cs : List AV) => kSl c fun (rows : List (List AV)) => kCons cs fun (c : AV) (cs : List AV) => kBool c fun 
  (b : Bool) => kNil cs (bif !b then some (AV.tup [.agg [AV.int .i64 (0 : Int), .int .i64 (0 : Int), .str [], .sl []], .bool false]) else kOpt (EVf (EV cfg) 49 [.str s, .sl rows, .int .i64 
  self]) fun (v : AV) => kTup v fun (cs : List AV) => kCons cs fun (c : AV) (cs : List AV) => kAgg c fun (cs_1 : List AV) => kCons cs_1 fun (c : AV) (cs_2 : List AV) => kInt .i64 c fun 
  (n : Int) => kCons cs_2 fun (c : AV) (cs_3 : List AV) => kInt .i64 c fun (n_2 : Int) => kCons cs_3 fun (c : AV) (cs_4 : List AV) => kStr c fun (s : List UInt8) => kCons cs_4 fun (c 
  : AV) (cs_5 : List AV) => kSl c fun (rows : List (List AV)) => kNil cs_5 (kCons cs fun (c : AV) (cs : List AV) => kBool c fun (b : Bool) => kNil cs (kOpt (EVf (EV cfg) 63 [.agg [AV.int 
  .i64 n, .int .i64 n_2, .str s, .sl rows], .bool b]) fun (v : AV) => kTup v fun (cs : List AV) => kCons cs fun (c : AV) (cs : List AV) => kAgg c fun (cs_6 : List AV) => kCons cs_6 fun 
  (c : AV) (cs_7 : List AV) => kInt .i64 c fun (n : Int) => kCons cs_7 fun (c : AV) (cs_8 : List AV) => kInt .i64 c fun (n_3 : Int) => kCons cs_8 fun (c : AV) (cs_9 : List AV) => kStr 
  c fun (s : List UInt8) => kCons cs_9 fun (c : AV) (cs_10 : List AV) => kSl c fun (rows : List (List AV)) => kNil cs_10 (kCons cs fun (c : AV) (cs : List AV) => kBool c fun (b : Bool) 
  => kNil cs (some (AV.tup [AV.agg [AV.int .i64 n, .int .i64 n_3, .str s, .sl rows], .bool b])))))) else none else none) else none else none else none else bif kt == (9 : Int) then kOpt 
  (EVf (EV cfg) 65 [.sl lt, .agg [AV.int .i64 ke, .int .i64 ne, .str se, .sl le, .sl bd, .int .i64 self]]) fun (v : AV) => kTup v fun (cs : List AV) => kCons cs fun (c : AV) (cs : List 
  AV) => kSl c fun (rows : List (List AV)) => kCons cs fun (c : AV) (cs : List AV) => kBool c fun (b : Bool) => kNil cs (kOpt (EVf (EV cfg) 63 [.agg [AV.int .i64 (9 : Int), .int .i64 (0 
  : Int), .str [], .sl rows], .bool b]) fun (v : AV) => kTup v fun (cs : List AV) => kCons cs fun (c : AV) (cs : List AV) => kAgg c fun (cs_1 : List AV) => kCons cs_1 fun (c : AV) (cs_2 
  : List AV) => kInt .i64 c fun (n : Int) => kCons cs_2 fun (c : AV) (cs_3 : List AV) => kInt .i64 c fun (n_1 : Int) => kCons cs_3 fun (c : AV) (cs_4 : List AV) => kStr c fun (s : List 
  UInt8) => kCons cs_4 fun (c : AV) (cs_5 : List AV) => kSl c fun (rows : List (List AV)) => kNil cs_5 (kCons cs fun (c : AV) (cs : List AV) => kBool c fun (b : Bool) => kNil cs (some 
  (AV.tup [.agg [AV.int .i64 n, .int .i64 n_1, .str s, .sl rows], .bool b])))) else bif kt != (7 : Int) then some (AV.tup [.agg [AV.int .i64 kt, .int .i64 nt, .str st, .sl lt], .bool true]) 
  else bif ltInt (0 : Int) (↑(List.length lt) : Int) then kOpt (List.get?Internal lt 0) fun (row : List AV) => bif Nat.beq (List.length row) 4 then bif Nat.ble 4 (List.length row) then 
  kTmC (List.take 4 row) fun (n n_1 : Int) (s : List UInt8) (rows : List (List AV)) => (bif n == (7 : Int) then kOpt (EVf (EV cfg) 65 [.sl rows, .agg [AV.int .i64 ke, .int .i64 ne, .str 
  se, .sl le, .sl bd, .int .i64 self]]) fun (v : AV) => kTup v fun (cs : List AV) => kCons cs fun (c : AV) (cs : List AV) => kSl c fun (rows : List (List AV)) => kCons cs fun (c : AV) 
  (cs : List AV) => kBool c fun (b : Bool) => kNil cs (kOpt (EVf (EV cfg) 63 [.agg [AV.int .i64 (7 : Int), .int .i64 (0 : Int), .str [], .sl rows], .bool b]) fun (v : AV) => kTup v fun 
  (cs : List AV) => kCons cs fun (c : AV) (cs : List AV) => kAgg c fun (cs_1 : List AV) => kCons cs_1 fun (c : AV) (cs_2 : List AV) => kInt .i64 c fun (n : Int) => kCons cs_2 fun (c : 
  AV) (cs_3 : List AV) => kInt .i64 c fun (n_2 : Int) => kCons cs_3 fun (c : AV) (cs_4 : List AV) => kStr c fun (s : List UInt8) => kCons cs_4 fun (c : AV) (cs_5 : List AV) => kSl c fun 
  (rows : List (List AV)) => kNil cs_5 (kCons cs fun (c : AV) (cs : List AV) => kBool c fun (b : Bool) => kNil cs (some (AV.tup [.agg [AV.int .i64 n, .int .i64 n_2, .str s, .sl rows], .bool 
  b])))) else bif s == [(99 : UInt8), (111 : UInt8), (110 : UInt8), (115 : UInt8), (116 : UInt8)] then bif ltInt (1 : Int) (↑(List.length lt) : Int) then kOpt (List.get?Internal lt 1) 
  fun (row : List AV) => bif Nat.beq (List.length row) 4 then bif Nat.ble 4 (List.length row) then kTmC (List.take 4 row) fun (n n_2 : Int) (s : List UInt8) (rows : List (List AV)) => 
  (some (AV.tup [.agg [AV.int .i64 n, .int .i64 n_2, .str s, .sl rows], .bool true])) else none else none else none else bif s == [(97 : UInt8), (110 : UInt8), (100 : UInt8), (97 : UInt8), 
  (108 : UInt8), (115 : UInt8), (111 : UInt8)] then bif leInt (1 : Int) (↑(List.length lt) : Int) then bif rowsOk 4 lt then kOpt (EVf (EV cfg) 66 [.str s, .sl (List.take (List.length 
  lt - 1) (List.drop 1 lt)), .agg [AV.int .i64 ke, .int .i64 ne, .str se, .sl le, .sl bd, .int .i64 self]]) fun (v : AV) => kTup v fun (cs : List AV) => kCons cs fun (c : AV) (cs : List 
  AV) => kAgg c fun (cs_1 : List AV) => kCons cs_1 fun (c : AV) (cs_2 : List AV) => kInt .i64 c fun (n : Int) => kCons cs_2 fun (c : AV) (cs_3 : List AV) => kInt .i64 c fun (n_2 : Int) 
  => kCons cs_3 fun (c : AV) (cs_4 : List AV) => kStr c fun (s : List UInt8) => kCons cs_4 fun (c : AV) (cs_5 : List AV) => kSl c fun (rows : List (List AV)) => kNil cs_5 (kCons cs fun 
  (c : AV) (cs : List AV) => kBool c fun (b : Bool) => kNil cs (some (AV.tup [.agg [AV.int .i64 n, .int .i64 n_2, .str s, .sl rows], .bool b]))) else none else none else bif s == [(111 
  : UInt8), (114 : UInt8), (101 : UInt8), (108 : UInt8), (115 : UInt8), (101 : UInt8)] then bif leInt (1 : Int) (↑(List.length lt) : Int) then bif rowsOk 4 lt then kOpt (EVf (EV cfg) 
  66 [.str s, .sl (List.take (List.length lt - 1) (List.drop 1 lt)), .agg [AV.int .i64 ke, .int .i64 ne, .str se, .sl le, .sl bd, .int .i64 self]]) fun (v : AV) => kTup v fun (cs : List 
  AV) => kCons cs fun (c : AV) (cs : List AV) => kAgg c fun (cs_1 : List AV) => kCons cs_1 fun (c : AV) (cs_2 : List AV) => kInt .i64 c fun (n : Int) => kCons cs_2 fun (c : AV) (cs_3 
  : List AV) => kInt .i64 c fun (n_2 : Int) => kCons cs_3 fun (c : AV) (cs_4 : List AV) => kStr c fun (s : List UInt8) => kCons cs_4 fun (c : AV) (cs_5 : List AV) => kSl c fun (rows : 
  List (List AV)) => kNil cs_5 (kCons cs fun (c : AV) (cs : List AV) => kBool c fun (b : Bool) => kNil cs (some (AV.tup [.agg [AV.int .i64 n, .int .i64 n_2, .str s, .sl rows], .bool b]))) 
  else none else none else bif leInt (1 : Int) (↑(List.length lt) : Int) then bif rowsOk 4 lt then kOpt (EVf (EV cfg) 65 [.sl (List.take (List.length lt - 1) (List.drop 1 lt)), .agg [AV.int 
  .i64 ke, .int .i64 ne, .str se, .sl le, .sl bd, .int .i64 self]]) fun (v : AV) => kTup v fun (cs : List AV) => kCons cs fun (c : AV) (cs : List AV) => kSl c fun (rows : List (List AV)) 
  => kCons cs fun (c : AV) (cs : List AV) => kBool c fun (b : Bool) => kNil cs (bif !b then some (AV.tup [.agg [AV.int .i64 (0 : Int), .int .i64 (0 : Int), .str [], .sl []], .bool false]) 
  else kOpt (EVf (EV cfg) 49 [.str s, .sl rows, .int .i64 self]) fun (v : AV) => kTup v fun (cs : List AV) => kCons cs fun (c : AV) (cs : List AV) => kAgg c fun (cs_1 : List AV) => kCons 
  cs_1 fun (c : AV) (cs_2 : List AV) => kInt .i64 c fun (n : Int) => kCons cs_2 fun (c : AV) (cs_3 : List AV) => kInt .i64 c fun (n_2 : Int) => kCons cs_3 fun (c : AV) (cs_4 : List AV) 
  => kStr c fun (s : List UInt8) => kCons cs_4 fun (c : AV) (cs_5 : List AV) => kSl c fun (rows : List (List AV)) => kNil cs_5 (kCons cs fun (c : AV) (cs : List AV) => kBool c fun (b 
  : Bool) => kNil cs (kOpt (EVf (EV cfg) 63 [.agg [AV.int .i64 n, .int .i64 n_2, .str s, .sl rows], .bool b]) fun (v : AV) => kTup v fun (cs : List AV) => kCons cs fun (c : AV) (cs : List 
  AV) => kAgg c fun (cs_6 : List AV) => kCons cs_6 fun (c : AV) (cs_7 : List AV) => kInt .i64 c fun (n : Int) => kCons cs_7 fun (c : AV) (cs_8 : List AV) => kInt .i64 c fun (n_3 : Int) 
  => kCons cs_8 fun (c : AV) (cs_9 : List AV) => kStr c fun (s : List UInt8) => kCons cs_9 fun (c : AV) (cs_10 : List AV) => kSl c fun (rows : List (List AV)) => kNil cs_10 (kCons cs 
  fun (c : AV) (cs : List AV) => kBool c fun (b : Bool) => kNil cs (some (AV.tup [AV.agg [AV.int .i64 n, .int .i64 n_3, .str s, .sl rows], .bool b])))))) else none else none) else none 
  else none else none else bif kt == (2 : Int) then bif st == [(36 : UInt8), (36 : UInt8)] then wy29_0 0 (0 : Int) ke ne se le bd self (0 : Int) (0 : Int) [] [] [] else bif kt == (9 : 
  Int) then kOpt (EVf (EV cfg) 65 [.sl lt, .agg [AV.int .i64 ke, .int .i64 ne, .str se, .sl le, .sl bd, .int .i64 self]]) fun (v : AV) => kTup v fun (cs : List AV) => kCons cs fun (c : 
  AV) (cs : List AV) => kSl c fun (rows : List (List AV)) => kCons cs fun (c : AV) (cs : List AV) => kBool c fun (b : Bool) => kNil cs (kOpt (EVf (EV cfg) 63 [.agg [AV.int .i64 (9 : Int), 
  .int .i64 (0 : Int), .str [], .sl rows], .bool b]) fun (v : AV) => kTup v fun (cs : List AV) => kCons cs fun (c : AV) (cs : List AV) => kAgg c fun (cs_1 : List AV) => kCons cs_1 fun 
  (c : AV) (cs_2 : List AV) => kInt .i64 c fun (n : Int) => kCons cs_2 fun (c : AV) (cs_3 : List AV) => kInt .i64 c fun (n_1 : Int) => kCons cs_3 fun (c : AV) (cs_4 : List AV) => kStr 
  c fun (s : List UInt8) => kCons cs_4 fun (c : AV) (cs_5 : List AV) => kSl c fun (rows : List (List AV)) => kNil cs_5 (kCons cs fun (c : AV) (cs : List AV) => kBool c fun (b : Bool) 
  => kNil cs (some (AV.tup [.agg [AV.int .i64 n, .int .i64 n_1, .str s, .sl rows], .bool b])))) else bif kt != (7 : Int) then some (AV.tup [.agg [AV.int .i64 kt, .int .i64 nt, .str st, .sl 
  lt], .bool true]) else bif ltInt (0 : Int) (↑(List.length lt) : Int) then kOpt (List.get?Internal lt 0) fun (row : List AV) => bif Nat.beq (List.length row) 4 then bif Nat.ble 4 (List.length 
  row) then kTmC (List.take 4 row) fun (n n_1 : Int) (s : List UInt8) (rows : List (List AV)) => (bif n == (7 : Int) then kOpt (EVf (EV cfg) 65 [.sl rows, .agg [AV.int .i64 ke, .int .i64 
  ne, .str se, .sl le, .sl bd, .int .i64 self]]) fun (v : AV) => kTup v fun (cs : List AV) => kCons cs fun (c : AV) (cs : List AV) => kSl c fun (rows : List (List AV)) => kCons cs fun 
  (c : AV) (cs : List AV) => kBool c fun (b : Bool) => kNil cs (kOpt (EVf (EV cfg) 63 [.agg [AV.int .i64 (7 : Int), .int .i64 (0 : Int), .str [], .sl rows], .bool b]) fun (v : AV) => kTup 
  v fun (cs : List AV) => kCons cs fun (c : AV) (cs : List AV) => kAgg c fun (cs_1 : List AV) => kCons cs_1 fun (c : AV) (cs_2 : List AV) => kInt .i64 c fun (n : Int) => kCons cs_2 fun 
  (c : AV) (cs_3 : List AV) => kInt .i64 c fun (n_2 : Int) => kCons cs_3 fun (c : AV) (cs_4 : List AV) => kStr c fun (s : List UInt8) => kCons cs_4 fun (c : AV) (cs_5 : List AV) => kSl 
  c fun (rows : List (List AV)) => kNil cs_5 (kCons cs fun (c : AV) (cs : List AV) => kBool c fun (b : Bool) => kNil cs (some (AV.tup [.agg [AV.int .i64 n, .int .i64 n_2, .str s, .sl rows], 
  .bool b])))) else bif s == [(99 : UInt8), (111 : UInt8), (110 : UInt8), (115 : UInt8), (116 : UInt8)] then bif ltInt (1 : Int) (↑(List.length lt) : Int) then kOpt (List.get?Internal 
  lt 1) fun (row : List AV) => bif Nat.beq (List.length row) 4 then bif Nat.ble 4 (List.length row) then kTmC (List.take 4 row) fun (n n_2 : Int) (s : List UInt8) (rows : List (List AV)) 
  => (some (AV.tup [.agg [AV.int .i64 n, .int .i64 n_2, .str s, .sl rows], .bool true])) else none else none else none else bif s == [(97 : UInt8), (110 : UInt8), (100 : UInt8), (97 : UInt8), 
  (108 : UInt8), (115 : UInt8), (111 : UInt8)] then bif leInt (1 : Int) (↑(List.length lt) : Int) then bif rowsOk 4 lt then kOpt (EVf (EV cfg) 66 [.str s, .sl (List.take (List.length 
  lt - 1) (List.drop 1 lt)), .agg [AV.int .i64 ke, .int .i64 ne, .str se, .sl le, .sl bd, .int .i64 self]]) fun (v : AV) => kTup v fun (cs : List AV) => kCons cs fun (c : AV) (cs : List 
  AV) => kAgg c fun (cs_1 : List AV) => kCons cs_1 fun (c : AV) (cs_2 : List AV) => kInt .i64 c fun (n : Int) => kCons cs_2 fun (c : AV) (cs_3 : List AV) => kInt .i64 c fun (n_2 : Int) 
  => kCons cs_3 fun (c : AV) (cs_4 : List AV) => kStr c fun (s : List UInt8) => kCons cs_4 fun (c : AV) (cs_5 : List AV) => kSl c fun (rows : List (List AV)) => kNil cs_5 (kCons cs fun 
  (c : AV) (cs : List AV) => kBool c fun (b : Bool) => kNil cs (some (AV.tup [.agg [AV.int .i64 n, .int .i64 n_2, .str s, .sl rows], .bool b]))) else none else none else bif s == [(111 
  : UInt8), (114 : UInt8), (101 : UInt8), (108 : UInt8), (115 : UInt8), (101 : UInt8)] then bif leInt (1 : Int) (↑(List.length lt) : Int) then bif rowsOk 4 lt then kOpt (EVf (EV cfg) 
  66 [.str s, .sl (List.take (List.length lt - 1) (List.drop 1 lt)), .agg [AV.int .i64 ke, .int .i64 ne, .str se, .sl le, .sl bd, .int .i64 self]]) fun (v : AV) => kTup v fun (cs : List 
  AV) => kCons cs fun (c : AV) (cs : List AV) => kAgg c fun (cs_1 : List AV) => kCons cs_1 fun (c : AV) (cs_2 : List AV) => kInt .i64 c fun (n : Int) => kCons cs_2 fun (c : AV) (cs_3 
  : List AV) => kInt .i64 c fun (n_2 : Int) => kCons cs_3 fun (c : AV) (cs_4 : List AV) => kStr c fun (s : List UInt8) => kCons cs_4 fun (c : AV) (cs_5 : List AV) => kSl c fun (rows : 
  List (List AV)) => kNil cs_5 (kCons cs fun (c : AV) (cs : List AV) => kBool c fun (b : Bool) => kNil cs (some (AV.tup [.agg [AV.int .i64 n, .int .i64 n_2, .str s, .sl rows], .bool b]))) 
  else none else none else bif leInt (1 : Int) (↑(List.length lt) : Int) then bif rowsOk 4 lt then kOpt (EVf (EV cfg) 65 [.sl (List.take (List.length lt - 1) (List.drop 1 lt)), .agg [AV.int 
  .i64 ke, .int .i64 ne, .str se, .sl le, .sl bd, .int .i64 self]]) fun (v : AV) => kTup v fun (cs : List AV) => kCons cs fun (c : AV) (cs : List AV) => kSl c fun (rows : List (List AV)) 
  => kCons cs fun (c : AV) (cs : List AV) => kBool c fun (b : Bool) => kNil cs (bif !b then some (AV.tup [.agg [AV.int .i64 (0 : Int), .int .i64 (0 : Int), .str [], .sl []], .bool false]) 
  else kOpt (EVf (EV cfg) 49 [.str s, .sl rows, .int .i64 self]) fun (v : AV) => kTup v fun (cs : List AV) => kCons cs fun (c : AV) (cs : List AV) => kAgg c fun (cs_1 : List AV) => kCons 
  cs_1 fun (c : AV) (cs_2 : List AV) => kInt .i64 c fun (n : Int) => kCons cs_2 fun (c : AV) (cs_3 : List AV) => kInt .i64 c fun (n_2 : Int) => kCons cs_3 fun (c : AV) (cs_4 : List AV) 
  => kStr c fun (s : List UInt8) => kCons cs_4 fun (c : AV) (cs_5 : List AV) => kSl c fun (rows : List (List AV)) => kNil cs_5 (kCons cs fun (c : AV) (cs : List AV) => kBool c fun (b 
  : Bool) => kNil cs (kOpt (EVf (EV cfg) 63 [.agg [AV.int .i64 n, .int .i64 n_2, .str s, .sl rows], .bool b]) fun (v : AV) => kTup v fun (cs : List AV) => kCons cs fun (c : AV) (cs : List 
  AV) => kAgg c fun (cs_6 : List AV) => kCons cs_6 fun (c : AV) (cs_7 : List AV) => kInt .i64 c fun (n : Int) => kCons cs_7 fun (c : AV) (cs_8 : List AV) => kInt .i64 c fun (n_3 : Int) 
  => kCons cs_8 fun (c : AV) (cs_9 : List AV) => kStr c fun (s : List UInt8) => kCons cs_9 fun (c : AV) (cs_10 : List AV) => kSl c fun (rows : List (List AV)) => kNil cs_10 (kCons cs 
  fun (c : AV) (cs : List AV) => kBool c fun (b : Bool) => kNil cs (some (AV.tup [AV.agg [AV.int .i64 n, .int .i64 n_3, .str s, .sl rows], .bool b])))))) else none else none) else none 
  else none else none else bif kt == (9 : Int) then kOpt (EVf (EV cfg) 65 [.sl lt, .agg [AV.int .i64 ke, .int .i64 ne, .str se, .sl le, .sl bd, .int .i64 self]]) fun (v : AV) => kTup v 
  fun (cs : List AV) => kCons cs fun (c : AV) (cs : List AV) => kSl c fun (rows : List (List AV)) => kCons cs fun (c : AV) (cs : List AV) => kBool c fun (b : Bool) => kNil cs (kOpt (EVf 
  (EV cfg) 63 [.agg [AV.int .i64 (9 : Int), .int .i64 (0 : Int), .str [], .sl rows], .bool b]) fun (v : AV) => kTup v fun (cs : List AV) => kCons cs fun (c : AV) (cs : List AV) => kAgg 
  c fun (cs_1 : List AV) => kCons cs_1 fun (c : AV) (cs_2 : List AV) => kInt .i64 c fun (n : Int) => kCons cs_2 fun (c : AV) (cs_3 : List AV) => kInt .i64 c fun (n_1 : Int) => kCons cs_3 
  fun (c : AV) (cs_4 : List AV) => kStr c fun (s : List UInt8) => kCons cs_4 fun (c : AV) (cs_5 : List AV) => kSl c fun (rows : List (List AV)) => kNil cs_5 (kCons cs fun (c : AV) (cs 
  : List AV) => kBool c fun (b : Bool) => kNil cs (some (AV.tup [.agg [AV.int .i64 n, .int .i64 n_1, .str s, .sl rows], .bool b])))) else bif kt != (7 : Int) then some (AV.tup [.agg [AV.int 
  .i64 kt, .int .i64 nt, .str st, .sl lt], .bool true]) else bif ltInt (0 : Int) (↑(List.length lt) : Int) then kOpt (List.get?Internal lt 0) fun (row : List AV) => bif Nat.beq (List.length 
  row) 4 then bif Nat.ble 4 (List.length row) then kTmC (List.take 4 row) fun (n n_1 : Int) (s : List UInt8) (rows : List (List AV)) => (bif n == (7 : Int) then kOpt (EVf (EV cfg) 65 
  [.sl rows, .agg [AV.int .i64 ke, .int .i64 ne, .str se, .sl le, .sl bd, .int .i64 self]]) fun (v : AV) => kTup v fun (cs : List AV) => kCons cs fun (c : AV) (cs : List AV) => kSl c fun 
  (rows : List (List AV)) => kCons cs fun (c : AV) (cs : List AV) => kBool c fun (b : Bool) => kNil cs (kOpt (EVf (EV cfg) 63 [.agg [AV.int .i64 (7 : Int), .int .i64 (0 : Int), .str [], 
  .sl rows], .bool b]) fun (v : AV) => kTup v fun (cs : List AV) => kCons cs fun (c : AV) (cs : List AV) => kAgg c fun (cs_1 : List AV) => kCons cs_1 fun (c : AV) (cs_2 : List AV) => 
  kInt .i64 c fun (n : Int) => kCons cs_2 fun (c : AV) (cs_3 : List AV) => kInt .i64 c fun (n_2 : Int) => kCons cs_3 fun (c : AV) (cs_4 : List AV) => kStr c fun (s : List UInt8) => kCons 
  cs_4 fun (c : AV) (cs_5 : List AV) => kSl c fun (rows : List (List AV)) => kNil cs_5 (kCons cs fun (c : AV) (cs : List AV) => kBool c fun (b : Bool) => kNil cs (some (AV.tup [.agg [AV.int 
  .i64 n, .int .i64 n_2, .str s, .sl rows], .bool b])))) else bif s == [(99 : UInt8), (111 : UInt8), (110 : UInt8), (115 : UInt8), (116 : UInt8)] then bif ltInt (1 : Int) (↑(List.length 
  lt) : Int) then kOpt (List.get?Internal lt 1) fun (row : List AV) => bif Nat.beq (List.length row) 4 then bif Nat.ble 4 (List.length row) then kTmC (List.take 4 row) fun (n n_2 : Int) 
  (s : List UInt8) (rows : List (List AV)) => (some (AV.tup [.agg [AV.int .i64 n, .int .i64 n_2, .str s, .sl rows], .bool true])) else none else none else none else bif s == [(97 : UInt8), 
  (110 : UInt8), (100 : UInt8), (97 : UInt8), (108 : UInt8), (115 : UInt8), (111 : UInt8)] then bif leInt (1 : Int) (↑(List.length lt) : Int) then bif rowsOk 4 lt then kOpt (EVf (EV cfg) 
  66 [.str s, .sl (List.take (List.length lt - 1) (List.drop 1 lt)), .agg [AV.int .i64 ke, .int .i64 ne, .str se, .sl le, .sl bd, .int .i64 self]]) fun (v : AV) => kTup v fun (cs : List 
  AV) => kCons cs fun (c : AV) (cs : List AV) => kAgg c fun (cs_1 : List AV) => kCons cs_1 fun (c : AV) (cs_2 : List AV) => kInt .i64 c fun (n : Int) => kCons cs_2 fun (c : AV) (cs_3 
  : List AV) => kInt .i64 c fun (n_2 : Int) => kCons cs_3 fun (c : AV) (cs_4 : List AV) => kStr c fun (s : List UInt8) => kCons cs_4 fun (c : AV) (cs_5 : List AV) => kSl c fun (rows : 
  List (List AV)) => kNil cs_5 (kCons cs fun (c : AV) (cs : List AV) => kBool c fun (b : Bool) => kNil cs (some (AV.tup [.agg [AV.int .i64 n, .int .i64 n_2, .str s, .sl rows], .bool b]))) 
  else none else none else bif s == [(111 : UInt8), (114 : UInt8), (101 : UInt8), (108 : UInt8), (115 : UInt8), (101 : UInt8)] then bif leInt (1 : Int) (↑(List.length lt) : Int) then 
  bif rowsOk 4 lt then kOpt (EVf (EV cfg) 66 [.str s, .sl (List.take (List.length lt - 1) (List.drop 1 lt)), .agg [AV.int .i64 ke, .int .i64 ne, .str se, .sl le, .sl bd, .int .i64 self]]) 
  fun (v : AV) => kTup v fun (cs : List AV) => kCons cs fun (c : AV) (cs : List AV) => kAgg c fun (cs_1 : List AV) => kCons cs_1 fun (c : AV) (cs_2 : List AV) => kInt .i64 c fun (n : 
  Int) => kCons cs_2 fun (c : AV) (cs_3 : List AV) => kInt .i64 c fun (n_2 : Int) => kCons cs_3 fun (c : AV) (cs_4 : List AV) => kStr c fun (s : List UInt8) => kCons cs_4 fun (c : AV) 
  (cs_5 : List AV) => kSl c fun (rows : List (List AV)) => kNil cs_5 (kCons cs fun (c : AV) (cs : List AV) => kBool c fun (b : Bool) => kNil cs (some (AV.tup [.agg [AV.int .i64 n, .int 
  .i64 n_2, .str s, .sl rows], .bool b]))) else none else none else bif leInt (1 : Int) (↑(List.length lt) : Int) then bif rowsOk 4 lt then kOpt (EVf (EV cfg) 65 [.sl (List.take (List.length 
  lt - 1) (List.drop 1 lt)), .agg [AV.int .i64 ke, .int .i64 ne, .str se, .sl le, .sl bd, .int .i64 self]]) fun (v : AV) => kTup v fun (cs : List AV) => kCons cs fun (c : AV) (cs : List 
  AV) => kSl c fun (rows : List (List AV)) => kCons cs fun (c : AV) (cs : List AV) => kBool c fun (b : Bool) => kNil cs (bif !b then some (AV.tup [.agg [AV.int .i64 (0 : Int), .int .i64 
  (0 : Int), .str [], .sl []], .bool false]) else kOpt (EVf (EV cfg) 49 [.str s, .sl rows, .int .i64 self]) fun (v : AV) => kTup v fun (cs : List AV) => kCons cs fun (c : AV) (cs : List 
  AV) => kAgg c fun (cs_1 : List AV) => kCons cs_1 fun (c : AV) (cs_2 : List AV) => kInt .i64 c fun (n : Int) => kCons cs_2 fun (c : AV) (cs_3 : List AV) => kInt .i64 c fun (n_2 : Int) 
  => kCons cs_3 fun (c : AV) (cs_4 : List AV) => kStr c fun (s : List UInt8) => kCons cs_4 fun (c : AV) (cs_5 : List AV) => kSl c fun (rows : List (List AV)) => kNil cs_5 (kCons cs fun 
  (c : AV) (cs : List AV) => kBool c fun (b : Bool) => kNil cs (kOpt (EVf (EV cfg) 63 [.agg [AV.int .i64 n, .int .i64 n_2, .str s, .sl rows], .bool b]) fun (v : AV) => kTup v fun (cs : 
  List AV) => kCons cs fun (c : AV) (cs : List AV) => kAgg c fun (cs_6 : List AV) => kCons cs_6 fun (c : AV) (cs_7 : List AV) => kInt .i64 c fun (n : Int) => kCons cs_7 fun (c : AV) (cs_8 
  : List AV) => kInt .i64 c fun (n_3 : Int) => kCons cs_8 fun (c : AV) (cs_9 : List AV) => kStr c fun (s : List UInt8) => kCons cs_9 fun (c : AV) (cs_10 : List AV) => kSl c fun (rows 
  : List (List AV)) => kNil cs_10 (kCons cs fun (c : AV) (cs : List AV) => kBool c fun (b : Bool) => kNil cs (some (AV.tup [AV.agg [AV.int .i64 n, .int .i64 n_3, .str s, .sl rows], .bool 
  b])))))) else none else none) else none else none else none)) P) : Gets (EVf (EV cfg) 29 ([AV.agg [AV.int IntKind.i64 kt, AV.int IntKind.i64 nt, AV.str st, AV.sl lt], AV.agg [AV.int IntKind.i64 ke, AV.int IntKind.i64 ne, AV.str se, AV.sl le, AV.sl bd, AV.int IntKind.i64 self]] : List AV)) P :=
  Gets.ev (fun _ h => funF rfl rfl Tryz.func29 rfl h) (Gets.eq (by kernel_rfl) h)
theorem r17Self_run (n : Int) {P : AV → Prop} (h : Gets (bif decide (n ≥ (1 : Int)) then some (.bool (decide (n ≤ (1073741824 : Int)))) else some (.bool false)) P) : Gets (EVs (EV cfg) 47 ([AV.int IntKind.i64 n] : List AV)) P :=
  Gets.ev (fun _ h => funS rfl rfl Tryz.func47 rfl h) (Gets.eq (by kernel_rfl) h)
theorem r17Names_run (bd : List (List AV)) {P : AV → Prop} (h : Gets (wy28_0 bd 0 (0 : Int) []) P) : Gets (EVf (EV cfg) 28 ([AV.sl bd] : List AV)) P :=
  Gets.ev (fun _ h => funF rfl rfl Tryz.func28 rfl h) (Gets.eq (by kernel_rfl) h)
theorem r17Env_run (ke : Int) (ne : Int) (se : List UInt8) (le : List (List AV)) (bd : List (List AV)) (self : Int) {P : AV → Prop} (h : Gets (kOpt (EVs (EV cfg) 48 [.agg [AV.int .i64 ke, .int .i64 ne, .str se, .sl le]]) fun (v : AV) => kInt .i64 v fun (n : Int) => bif n == (0 : Int) then kOpt (EVs (EV cfg) 59 [.sl bd]) fun 
  (v : AV) => kBool v fun (b : Bool) => bif b then kOpt (EVs (EV cfg) 47 [AV.int .i64 self]) fun (v : AV) => kBool v fun (b : Bool) => some (.bool b) else some (.bool false) else some (.bool 
  false)) P) : Gets (EVs (EV cfg) 26 ([AV.agg [AV.int IntKind.i64 ke, AV.int IntKind.i64 ne, AV.str se, AV.sl le, AV.sl bd, AV.int IntKind.i64 self]] : List AV)) P :=
  Gets.ev (fun _ h => funS rfl rfl Tryz.func26 rfl h) (Gets.eq (by kernel_rfl) h)
theorem r17Eval_run (kt : Int) (nt : Int) (st : List UInt8) (lt : List (List AV)) (ke : Int) (ne : Int) (se : List UInt8) (le : List (List AV)) (bd : List (List AV)) (self : Int) {P : AV → Prop} (h : Gets (kOpt (EVs (EV cfg) 26 [.agg [AV.int .i64 ke, .int .i64 ne, .str se, .sl le, .sl bd, .int .i64 self]]) fun (v : AV) => kBool v fun (b : Bool) => bif !b then some (AV.tup [.agg [AV.int .i64 
  (0 : Int), .int .i64 (0 : Int), .str [], .sl []], .int .i64 (2 : Int)]) else kOpt (EVf (EV cfg) 28 [.sl bd]) fun (v : AV) => kSl v fun (rows : List (List AV)) => kOpt (EVs (EV cfg) 
  27 [.agg [AV.int .i64 kt, .int .i64 nt, .str st, .sl lt], .sl rows]) fun (v : AV) => kInt .i64 v fun (n : Int) => bif n != (0 : Int) then some (AV.tup [.agg [AV.int .i64 (0 : Int), .int 
  .i64 (0 : Int), .str [], .sl []], .int .i64 (2 : Int)]) else kOpt (EVf (EV cfg) 29 [.agg [AV.int .i64 kt, .int .i64 nt, .str st, .sl lt], .agg [AV.int .i64 ke, .int .i64 ne, .str se, .sl 
  le, .sl bd, .int .i64 self]]) fun (v : AV) => kTup v fun (cs : List AV) => kCons cs fun (c : AV) (cs : List AV) => kAgg c fun (cs_1 : List AV) => kCons cs_1 fun (c : AV) (cs_2 : List 
  AV) => kInt .i64 c fun (n : Int) => kCons cs_2 fun (c : AV) (cs_3 : List AV) => kInt .i64 c fun (n_1 : Int) => kCons cs_3 fun (c : AV) (cs_4 : List AV) => kStr c fun (s : List UInt8) 
  => kCons cs_4 fun (c : AV) (cs_5 : List AV) => kSl c fun (rows : List (List AV)) => kNil cs_5 (kCons cs fun (c : AV) (cs : List AV) => kBool c fun (b : Bool) => kNil cs (bif !b then 
  some (AV.tup [.agg [AV.int .i64 (0 : Int), .int .i64 (0 : Int), .str [], .sl []], .int .i64 (10 : Int)]) else kOpt (EVf (EV cfg) 30 [.agg [AV.int .i64 n, .int .i64 n_1, .str s, .sl rows]]) 
  fun (v : AV) => kTmV v fun (n n_2 : Int) (s : List UInt8) (rows : List (List AV)) => (some (AV.tup [.agg [AV.int .i64 n, .int .i64 n_2, .str s, .sl rows], .int .i64 (0 : Int)]))))) P) : Gets (EVf (EV cfg) 10 ([AV.agg [AV.int IntKind.i64 kt, AV.int IntKind.i64 nt, AV.str st, AV.sl lt], AV.agg [AV.int IntKind.i64 ke, AV.int IntKind.i64 ne, AV.str se, AV.sl le, AV.sl bd, AV.int IntKind.i64 self]] : List AV)) P :=
  Gets.ev (fun _ h => funF rfl rfl Tryz.func10 rfl h) (Gets.eq (by kernel_rfl) h)
theorem r17Holds_run (L : List (List AV)) (ke : Int) (ne : Int) (se : List UInt8) (le : List (List AV)) (bd : List (List AV)) (self : Int) {P : AV → Prop} (h : Gets (wy17_0 L (0 : Int) ke ne se le bd self) P) : Gets (EVs (EV cfg) 17 ([AV.sl L, AV.agg [AV.int IntKind.i64 ke, AV.int IntKind.i64 ne, AV.str se, AV.sl le, AV.sl bd, AV.int IntKind.i64 self]] : List AV)) P :=
  Gets.ev (fun _ h => funS rfl rfl Tryz.func17 rfl h) (Gets.eq (by kernel_rfl) h)
theorem r16Find_run (bd : List (List AV)) (n : Int) {P : AV → Prop} (h : Gets (kOpt (EVs (EV cfg) 59 [.sl bd]) fun (v : AV) => kBool v fun (b : Bool) => bif !b then some (AV.tup [.agg [AV.int .i64 (0 : Int), .int .i64 (0 : Int), .str [], .sl []], .bool false]) else 
  kOpt (EVf (EV cfg) 87 [.sl bd, .int .i64 n]) fun (v : AV) => kTup v fun (cs : List AV) => kCons cs fun (c : AV) (cs : List AV) => kAgg c fun (cs_1 : List AV) => kCons cs_1 fun (c : 
  AV) (cs_2 : List AV) => kInt .i64 c fun (n : Int) => kCons cs_2 fun (c : AV) (cs_3 : List AV) => kInt .i64 c fun (n_1 : Int) => kCons cs_3 fun (c : AV) (cs_4 : List AV) => kStr c fun 
  (s : List UInt8) => kCons cs_4 fun (c : AV) (cs_5 : List AV) => kSl c fun (rows : List (List AV)) => kNil cs_5 (kCons cs fun (c : AV) (cs : List AV) => kBool c fun (b : Bool) => kNil 
  cs (bif !b then some (AV.tup [.agg [AV.int .i64 (0 : Int), .int .i64 (0 : Int), .str [], .sl []], .bool false]) else kOpt (EVf (EV cfg) 30 [.agg [AV.int .i64 n, .int .i64 n_1, .str s, .sl 
  rows]]) fun (v : AV) => kTmV v fun (n n_2 : Int) (s : List UInt8) (rows : List (List AV)) => (some (AV.tup [.agg [AV.int .i64 n, .int .i64 n_2, .str s, .sl rows], .bool true]))))) P) : Gets (EVf (EV cfg) 62 ([AV.sl bd, AV.int IntKind.i64 n] : List AV)) P :=
  Gets.ev (fun _ h => funF rfl rfl Tryz.func62 rfl h) (Gets.eq (by kernel_rfl) h)
theorem r16find_run (bd : List (List AV)) (n : Int) {P : AV → Prop} (h : Gets (wy87_0 bd n (0 : Int) (0 : Int) (0 : Int) [] []) P) : Gets (EVf (EV cfg) 87 ([AV.sl bd, AV.int IntKind.i64 n] : List AV)) P :=
  Gets.ev (fun _ h => funF rfl rfl Tryz.func87 rfl h) (Gets.eq (by kernel_rfl) h)
theorem r16May_run (bd : List (List AV)) {P : AV → Prop} (h : Gets (wy59_0 bd (0 : Int)) P) : Gets (EVs (EV cfg) 59 ([AV.sl bd] : List AV)) P :=
  Gets.ev (fun _ h => funS rfl rfl Tryz.func59 rfl h) (Gets.eq (by kernel_rfl) h)
theorem r02Copy_run (kt : Int) (nt : Int) (st : List UInt8) (lt : List (List AV)) {P : AV → Prop} (h : Gets (wy30_0 0 (0 : Int) kt nt st lt (0 : Int) (0 : Int) [] [] []) P) : Gets (EVf (EV cfg) 30 ([AV.agg [AV.int IntKind.i64 kt, AV.int IntKind.i64 nt, AV.str st, AV.sl lt]] : List AV)) P :=
  Gets.ev (fun _ h => funF rfl rfl Tryz.func30 rfl h) (Gets.eq (by kernel_rfl) h)
theorem r03Numbers_run (a : Int) (b : Int) {P : AV → Prop} (h : Gets (bif decide (a < b) then some (.int .i64 (-1 : Int)) else bif decide (a > b) then some (.int .i64 (1 : Int)) else some (.int .i64 (0 : Int))) P) : Gets (EVs (EV cfg) 118 ([AV.int IntKind.i64 a, AV.int IntKind.i64 b] : List AV)) P :=
  Gets.ev (fun _ h => funS rfl rfl Tryz.func118 rfl h) (Gets.eq (by kernel_rfl) h)
theorem r03Texts_run (a : List UInt8) (b : List UInt8) {P : AV → Prop} (h : Gets (bif Op.bytesLess a b then some (.int .i64 (-1 : Int)) else bif !(Op.bytesLess a b || a == b) then some (.int .i64 (1 : Int)) else some (.int .i64 (0 : Int))) P) : Gets (EVs (EV cfg) 119 ([AV.str a, AV.str b] : List AV)) P :=
  Gets.ev (fun _ h => funS rfl rfl Tryz.func119 rfl h) (Gets.eq (by kernel_rfl) h)
theorem r03Lists_run (A : List (List AV)) (B : List (List AV)) {P : AV → Prop} (h : Gets (kOpt (EVs (EV cfg) 118 [AV.int .i64 (↑(List.length A) : Int), .int .i64 (↑(List.length B) : Int)]) fun (v : AV) => kInt .i64 v fun (n : Int) => wy120_0 A B n (0 : Int)) P) : Gets (EVs (EV cfg) 120 ([AV.sl A, AV.sl B] : List AV)) P :=
  Gets.ev (fun _ h => funS rfl rfl Tryz.func120 rfl h) (Gets.eq (by kernel_rfl) h)
theorem r03Compare_run (ka : Int) (na : Int) (sa : List UInt8) (la : List (List AV)) (kb : Int) (nb : Int) (sb : List UInt8) (lb : List (List AV)) {P : AV → Prop} (h : Gets (kOpt (EVs (EV cfg) 118 [AV.int .i64 ka, .int .i64 kb]) fun (v : AV) => kInt .i64 v fun (n : Int) => bif n != (0 : Int) then some (.int .i64 n) else bif ka == (1 : Int) then kOpt (EVs 
  (EV cfg) 118 [AV.int .i64 na, .int .i64 nb]) fun (v : AV) => kInt .i64 v fun (n : Int) => some (.int .i64 n) else bif ka == (3 : Int) then kOpt (EVs (EV cfg) 118 [AV.int .i64 na, .int .i64 
  nb]) fun (v : AV) => kInt .i64 v fun (n : Int) => some (.int .i64 n) else bif ka == (4 : Int) then kOpt (EVs (EV cfg) 118 [AV.int .i64 na, .int .i64 nb]) fun (v : AV) => kInt .i64 v fun 
  (n : Int) => some (.int .i64 n) else bif ka == (6 : Int) then kOpt (EVs (EV cfg) 118 [AV.int .i64 na, .int .i64 nb]) fun (v : AV) => kInt .i64 v fun (n : Int) => some (.int .i64 n) else 
  bif ka == (2 : Int) then kOpt (EVs (EV cfg) 119 [.str sa, .str sb]) fun (v : AV) => kInt .i64 v fun (n : Int) => some (.int .i64 n) else bif ka == (5 : Int) then kOpt (EVs (EV cfg) 
  118 [AV.int .i64 na, .int .i64 nb]) fun (v : AV) => kInt .i64 v fun (n : Int) => bif n != (0 : Int) then some (.int .i64 n) else kOpt (EVs (EV cfg) 120 [.sl la, .sl lb]) fun (v : AV) 
  => kInt .i64 v fun (n : Int) => some (.int .i64 n) else bif ka == (7 : Int) then kOpt (EVs (EV cfg) 120 [.sl la, .sl lb]) fun (v : AV) => kInt .i64 v fun (n : Int) => some (.int .i64 
  n) else bif ka == (9 : Int) then kOpt (EVs (EV cfg) 120 [.sl la, .sl lb]) fun (v : AV) => kInt .i64 v fun (n : Int) => some (.int .i64 n) else some (.int .i64 (0 : Int))) P) : Gets (EVs (EV cfg) 103 ([AV.agg [AV.int IntKind.i64 ka, AV.int IntKind.i64 na, AV.str sa, AV.sl la], AV.agg [AV.int IntKind.i64 kb, AV.int IntKind.i64 nb, AV.str sb, AV.sl lb]] : List AV)) P :=
  Gets.ev (fun _ h => funS rfl rfl Tryz.func103 rfl h) (Gets.eq (by kernel_rfl) h)
theorem wy99_0_step (v4 : Int) (c0_0 : Int) (c0_1 : Int) (c0_2 : List UInt8) (c0_3 : List (List AV)) {P : AV → Prop} (h : Gets (bif c0_0 == (9 : Int) then bif ltInt (1 : Int) (↑(List.length c0_3) : Int) then kOpt (List.get?Internal c0_3 1) fun (row : List AV) => bif Nat.beq (List.length row) 4 then bif Nat.ble 
  4 (List.length row) then kTmC (List.take 4 row) fun (n n_1 : Int) (s : List UInt8) (rows : List (List AV)) => (wy99_0 (IntKind.wrap .i64 (v4 + (1 : Int))) n n_1 s rows) else none else 
  none else none else some (AV.tup [AV.int .i64 v4, .bool (c0_0 == (8 : Int))])) P) : Gets (wy99_0 v4 c0_0 c0_1 c0_2 c0_3) P :=
  Gets.ev (fun _ h => loop_step (cfg := cfg) (f := 99) (rd := none) (bs := 0) h) (Gets.eq (by kernel_rfl) h)
theorem wy64_0_step (L : List (List AV)) (v4 : Int) (c0_0 : Int) (c0_1 : Int) (c0_2 : List UInt8) (c0_3 : List (List AV)) (c1_0 : Int) (c1_1 : Int) (c1_2 : List UInt8) (c1_3 : List (List AV)) {P : AV → Prop} (h : Gets (bif decide (v4 ≥ (0 : Int)) then bif leInt (0 : Int) v4 && ltInt v4 (↑(List.length L) : Int) then kOpt (List.get?Internal L (Int.toNat v4)) fun (row : List AV) => bif Nat.beq (List.length 
  row) 4 then bif Nat.ble 4 (List.length row) then kTmC (List.take 4 row) fun (n n_1 : Int) (s : List UInt8) (rows : List (List AV)) => (wy64_0 L (IntKind.wrap .i64 (v4 - (1 : Int))) 
  c0_0 c0_1 c0_2 c0_3 (9 : Int) (0 : Int) [] [[AV.int .i64 n, .int .i64 n_1, .str s, .sl rows], [AV.int .i64 c1_0, .int .i64 c1_1, .str c1_2, .sl c1_3]]) else none else none else none else 
  some (.agg [AV.int .i64 c1_0, .int .i64 c1_1, .str c1_2, .sl c1_3])) P) : Gets (wy64_0 L v4 c0_0 c0_1 c0_2 c0_3 c1_0 c1_1 c1_2 c1_3) P :=
  Gets.ev (fun _ h => loop_step (cfg := cfg) (f := 64) (rd := none) (bs := 0) h) (Gets.eq (by kernel_rfl) h)
theorem wy65_0_step (L : List (List AV)) (nv6 : Nat) (v7 : Int) (c0_0 : Int) (c0_1 : Int) (c0_2 : List UInt8) (c0_3 : List (List AV)) (c0_4 : List (List AV)) (c0_5 : Int) (h1 : List (List AV)) {P : AV → Prop} (h : Gets (bif decide (v7 < (↑(List.length L) : Int)) then bif leInt (0 : Int) v7 && ltInt v7 (↑(List.length L) : Int) then kOpt (List.get?Internal L (Int.toNat v7)) fun (row : List AV) => bif 
  Nat.beq (List.length row) 4 then bif Nat.ble 4 (List.length row) then kTmC (List.take 4 row) fun (n n_1 : Int) (s : List UInt8) (rows : List (List AV)) => (kOpt (EVf (EV cfg) 29 [.agg 
  [AV.int .i64 n, .int .i64 n_1, .str s, .sl rows], .agg [AV.int .i64 c0_0, .int .i64 c0_1, .str c0_2, .sl c0_3, .sl c0_4, .int .i64 c0_5]]) fun (v : AV) => kTup v fun (cs : List AV) => kCons 
  cs fun (c : AV) (cs : List AV) => kAgg c fun (cs_1 : List AV) => kCons cs_1 fun (c : AV) (cs_2 : List AV) => kInt .i64 c fun (n : Int) => kCons cs_2 fun (c : AV) (cs_3 : List AV) => 
  kInt .i64 c fun (n_2 : Int) => kCons cs_3 fun (c : AV) (cs_4 : List AV) => kStr c fun (s : List UInt8) => kCons cs_4 fun (c : AV) (cs_5 : List AV) => kSl c fun (rows : List (List AV)) 
  => kNil cs_5 (kCons cs fun (c : AV) (cs : List AV) => kBool c fun (b : Bool) => kNil cs (bif !b then some (AV.tup [.sl [], .bool false]) else bif Nat.ble (0 + nv6) (List.length h1) 
  && fitsIn (nv6 + 1) 56 then wy65_0 L (nv6 + 1) (IntKind.wrap .i64 (v7 + (1 : Int))) c0_0 c0_1 c0_2 c0_3 c0_4 c0_5 (List.append (List.take nv6 h1) [[AV.int .i64 n, .int .i64 n_2, .str 
  s, .sl rows]]) else none))) else none else none else none else bif Nat.ble (0 + nv6) (List.length h1) && true then some (AV.tup [.sl (List.take nv6 h1), .bool true]) else none) P) : Gets (wy65_0 L nv6 v7 c0_0 c0_1 c0_2 c0_3 c0_4 c0_5 h1) P :=
  Gets.ev (fun _ h => loop_step (cfg := cfg) (f := 65) (rd := none) (bs := 0) h) (Gets.eq (by kernel_rfl) h)
theorem wy29_0_step (nv8 : Nat) (v9 : Int) (c0_0 : Int) (c0_1 : Int) (c0_2 : List UInt8) (c0_3 : List (List AV)) (c0_4 : List (List AV)) (c0_5 : Int) (c1_0 : Int) (c1_1 : Int) (c1_2 : List UInt8) (c1_3 : List (List AV)) (h2 : List (List AV)) {P : AV → Prop} (h : Gets (bif decide (v9 < (↑(List.length c0_4) : Int)) then bif leInt (0 : Int) v9 && ltInt v9 (↑(List.length c0_4) : Int) then kOpt (List.get?Internal c0_4 (Int.toNat v9)) fun (row : List AV) 
  => bif Nat.beq (List.length row) 5 then bif Nat.ble 5 (List.length row) then kCons (List.take 4 (List.drop 1 row)) fun (c : AV) (cs : List AV) => kInt .i64 c fun (n : Int) => kCons 
  cs fun (c : AV) (cs : List AV) => kInt .i64 c fun (n_1 : Int) => kCons cs fun (c : AV) (cs : List AV) => kStr c fun (s : List UInt8) => kCons cs fun (c : AV) (cs : List AV) => kSl c 
  fun (rows : List (List AV)) => kNil cs (bif Nat.ble (0 + nv8) (List.length h2) && fitsIn (nv8 + 1) 56 then wy29_0 (nv8 + 1) (IntKind.wrap .i64 (v9 + (1 : Int))) c0_0 c0_1 c0_2 c0_3 
  c0_4 c0_5 c1_0 c1_1 c1_2 c1_3 (List.append (List.take nv8 h2) [[AV.int .i64 n, .int .i64 n_1, .str s, .sl rows]]) else none) else none else none else none else bif Nat.ble (0 + nv8) (List.length 
  h2) && true then kOpt (EVf (EV cfg) 64 [.sl (List.take nv8 h2)]) fun (v : AV) => kTmV v fun (n n_1 : Int) (s : List UInt8) (rows : List (List AV)) => (kOpt (EVf (EV cfg) 63 [.agg [AV.int 
  .i64 n, .int .i64 n_1, .str s, .sl rows], .bool true]) fun (v : AV) => kTup v fun (cs : List AV) => kCons cs fun (c : AV) (cs : List AV) => kAgg c fun (cs_1 : List AV) => kCons cs_1 
  fun (c : AV) (cs_2 : List AV) => kInt .i64 c fun (n : Int) => kCons cs_2 fun (c : AV) (cs_3 : List AV) => kInt .i64 c fun (n_2 : Int) => kCons cs_3 fun (c : AV) (cs_4 : List AV) => 
  kStr c fun (s : List UInt8) => kCons cs_4 fun (c : AV) (cs_5 : List AV) => kSl c fun (rows : List (List AV)) => kNil cs_5 (kCons cs fun (c : AV) (cs : List AV) => kBool c fun (b : Bool) 
  => kNil cs (some (AV.tup [.agg [AV.int .i64 n, .int .i64 n_2, .str s, .sl rows], .bool b])))) else none) P) : Gets (wy29_0 nv8 v9 c0_0 c0_1 c0_2 c0_3 c0_4 c0_5 c1_0 c1_1 c1_2 c1_3 h2) P :=
  Gets.ev (fun _ h => loop_step (cfg := cfg) (f := 29) (rd := none) (bs := 0) h) (Gets.eq (by kernel_rfl) h)
theorem wy28_0_step (bd : List (List AV)) (nv3 : Nat) (v4 : Int) (h0 : List (List AV)) {P : AV → Prop} (h : Gets (bif decide (v4 < (↑(List.length bd) : Int)) then bif leInt (0 : Int) v4 && ltInt v4 (↑(List.length bd) : Int) then kOpt (List.get?Internal bd (Int.toNat v4)) fun (row : List AV) => 
  bif Nat.beq (List.length row) 5 then kOpt (List.get?Internal row 0) fun (v : AV) => kInt .i64 v fun (n : Int) => bif Nat.ble (0 + nv3) (List.length h0) && fitsIn (nv3 + 1) 8 then wy28_0 
  bd (nv3 + 1) (IntKind.wrap .i64 (v4 + (1 : Int))) (List.append (List.take nv3 h0) [[AV.int .i64 n]]) else none else none else none else bif Nat.ble (0 + nv3) (List.length h0) && true 
  then some (.sl (List.take nv3 h0)) else none) P) : Gets (wy28_0 bd nv3 v4 h0) P :=
  Gets.ev (fun _ h => loop_step (cfg := cfg) (f := 28) (rd := none) (bs := 0) h) (Gets.eq (by kernel_rfl) h)
theorem wy17_0_step (L : List (List AV)) (v5 : Int) (c0_0 : Int) (c0_1 : Int) (c0_2 : List UInt8) (c0_3 : List (List AV)) (c0_4 : List (List AV)) (c0_5 : Int) {P : AV → Prop} (h : Gets (bif decide (v5 < (↑(List.length L) : Int)) then bif leInt (0 : Int) v5 && ltInt v5 (↑(List.length L) : Int) then kOpt (List.get?Internal L (Int.toNat v5)) fun (row : List AV) => bif 
  Nat.beq (List.length row) 4 then bif Nat.ble 4 (List.length row) then kTmC (List.take 4 row) fun (n n_1 : Int) (s : List UInt8) (rows : List (List AV)) => (kOpt (EVf (EV cfg) 10 [.agg 
  [AV.int .i64 n, .int .i64 n_1, .str s, .sl rows], .agg [AV.int .i64 c0_0, .int .i64 c0_1, .str c0_2, .sl c0_3, .sl c0_4, .int .i64 c0_5]]) fun (v : AV) => kTup v fun (cs : List AV) => kCons 
  cs fun (c : AV) (cs : List AV) => kAgg c fun (cs_1 : List AV) => kCons cs_1 fun (c : AV) (cs_2 : List AV) => kInt .i64 c fun (n : Int) => kCons cs_2 fun (c : AV) (cs_3 : List AV) => 
  kInt .i64 c fun (n_2 : Int) => kCons cs_3 fun (c : AV) (cs_4 : List AV) => kStr c fun (s : List UInt8) => kCons cs_4 fun (c : AV) (cs_5 : List AV) => kSl c fun (rows : List (List AV)) 
  => kNil cs_5 (kCons cs fun (c : AV) (cs : List AV) => kInt .i64 c fun (n_3 : Int) => kNil cs (bif n_3 != (0 : Int) then some (.bool false) else bif n != (2 : Int) then some (.bool false) 
  else bif !s == [(116 : UInt8), (114 : UInt8), (117 : UInt8), (101 : UInt8)] then some (.bool false) else wy17_0 L (IntKind.wrap .i64 (v5 + (1 : Int))) c0_0 c0_1 c0_2 c0_3 c0_4 c0_5))) 
  else none else none else none else kOpt (EVs (EV cfg) 26 [.agg [AV.int .i64 c0_0, .int .i64 c0_1, .str c0_2, .sl c0_3, .sl c0_4, .int .i64 c0_5]]) fun (v : AV) => kBool v fun (b : Bool) 
  => some (.bool b)) P) : Gets (wy17_0 L v5 c0_0 c0_1 c0_2 c0_3 c0_4 c0_5) P :=
  Gets.ev (fun _ h => loop_step (cfg := cfg) (f := 17) (rd := none) (bs := 0) h) (Gets.eq (by kernel_rfl) h)
theorem wy87_0_step (bd : List (List AV)) (n : Int) (v6 : Int) (c0_0 : Int) (c0_1 : Int) (c0_2 : List UInt8) (c0_3 : List (List AV)) {P : AV → Prop} (h : Gets (bif decide (v6 < (↑(List.length bd) : Int)) then bif leInt (0 : Int) v6 && ltInt v6 (↑(List.length bd) : Int) then kOpt (List.get?Internal bd (Int.toNat v6)) fun (row : List AV) => 
  bif Nat.beq (List.length row) 5 then kOpt (List.get?Internal row 0) fun (v : AV) => kInt .i64 v fun (n_1 : Int) => bif n_1 == n then bif leInt (0 : Int) v6 && ltInt v6 (↑(List.length 
  bd) : Int) then kOpt (List.get?Internal bd (Int.toNat v6)) fun (row : List AV) => bif Nat.beq (List.length row) 5 then bif Nat.ble 5 (List.length row) then kCons (List.take 4 (List.drop 
  1 row)) fun (c : AV) (cs : List AV) => kInt .i64 c fun (n : Int) => kCons cs fun (c : AV) (cs : List AV) => kInt .i64 c fun (n_2 : Int) => kCons cs fun (c : AV) (cs : List AV) => kStr 
  c fun (s : List UInt8) => kCons cs fun (c : AV) (cs : List AV) => kSl c fun (rows : List (List AV)) => kNil cs (some (AV.tup [.agg [AV.int .i64 n, .int .i64 n_2, .str s, .sl rows], .bool 
  true])) else none else none else none else wy87_0 bd n (IntKind.wrap .i64 (v6 + (1 : Int))) c0_0 c0_1 c0_2 c0_3 else none else none else some (AV.tup [.agg [AV.int .i64 (0 : Int), .int 
  .i64 (0 : Int), .str [], .sl []], .bool false])) P) : Gets (wy87_0 bd n v6 c0_0 c0_1 c0_2 c0_3) P :=
  Gets.ev (fun _ h => loop_step (cfg := cfg) (f := 87) (rd := none) (bs := 0) h) (Gets.eq (by kernel_rfl) h)
theorem wy59_0_step (bd : List (List AV)) (v3 : Int) {P : AV → Prop} (h : Gets (bif decide (v3 < (↑(List.length bd) : Int)) then bif leInt (0 : Int) v3 && ltInt v3 (↑(List.length bd) : Int) then kOpt (List.get?Internal bd (Int.toNat v3)) fun (row : List AV) => 
  bif Nat.beq (List.length row) 5 then kOpt (List.get?Internal row 0) fun (v : AV) => kInt .i64 v fun (n : Int) => bif decide (n < (0 : Int)) then some (.bool false) else bif leInt (0 
  : Int) v3 && ltInt v3 (↑(List.length bd) : Int) then kOpt (List.get?Internal bd (Int.toNat v3)) fun (row : List AV) => bif Nat.beq (List.length row) 5 then kOpt (List.get?Internal row 
  0) fun (v : AV) => kInt .i64 v fun (n : Int) => bif decide (n > (99 : Int)) then some (.bool false) else bif decide (v3 > (0 : Int)) then bif leInt (0 : Int) v3 && ltInt v3 (↑(List.length 
  bd) : Int) then kOpt (List.get?Internal bd (Int.toNat v3)) fun (row : List AV) => bif Nat.beq (List.length row) 5 then kOpt (List.get?Internal row 0) fun (v : AV) => kInt .i64 v fun 
  (n : Int) => bif leInt (0 : Int) (IntKind.wrap .i64 (v3 - (1 : Int))) && ltInt (IntKind.wrap .i64 (v3 - (1 : Int))) (↑(List.length bd) : Int) then kOpt (List.get?Internal bd (Int.toNat 
  (IntKind.wrap .i64 (v3 - (1 : Int))))) fun (row : List AV) => bif Nat.beq (List.length row) 5 then kOpt (List.get?Internal row 0) fun (v : AV) => kInt .i64 v fun (n_1 : Int) => bif 
  decide (n ≤ n_1) then some (.bool false) else bif leInt (0 : Int) v3 && ltInt v3 (↑(List.length bd) : Int) then kOpt (List.get?Internal bd (Int.toNat v3)) fun (row : List AV) => bif 
  Nat.beq (List.length row) 5 then bif Nat.ble 5 (List.length row) then kCons (List.take 4 (List.drop 1 row)) fun (c : AV) (cs : List AV) => kInt .i64 c fun (n : Int) => kCons cs fun 
  (c : AV) (cs : List AV) => kInt .i64 c fun (n_2 : Int) => kCons cs fun (c : AV) (cs : List AV) => kStr c fun (s : List UInt8) => kCons cs fun (c : AV) (cs : List AV) => kSl c fun (rows 
  : List (List AV)) => kNil cs (kOpt (EVs (EV cfg) 48 [.agg [AV.int .i64 n, .int .i64 n_2, .str s, .sl rows]]) fun (v : AV) => kInt .i64 v fun (n : Int) => bif n != (0 : Int) then some 
  (.bool false) else wy59_0 bd (IntKind.wrap .i64 (v3 + (1 : Int)))) else none else none else none else none else none else none else none else bif leInt (0 : Int) v3 && ltInt v3 (↑(List.length 
  bd) : Int) then kOpt (List.get?Internal bd (Int.toNat v3)) fun (row : List AV) => bif Nat.beq (List.length row) 5 then bif Nat.ble 5 (List.length row) then kCons (List.take 4 (List.drop 
  1 row)) fun (c : AV) (cs : List AV) => kInt .i64 c fun (n : Int) => kCons cs fun (c : AV) (cs : List AV) => kInt .i64 c fun (n_1 : Int) => kCons cs fun (c : AV) (cs : List AV) => kStr 
  c fun (s : List UInt8) => kCons cs fun (c : AV) (cs : List AV) => kSl c fun (rows : List (List AV)) => kNil cs (kOpt (EVs (EV cfg) 48 [.agg [AV.int .i64 n, .int .i64 n_1, .str s, .sl 
  rows]]) fun (v : AV) => kInt .i64 v fun (n : Int) => bif n != (0 : Int) then some (.bool false) else wy59_0 bd (IntKind.wrap .i64 (v3 + (1 : Int)))) else none else none else none else 
  none else none else none else none else some (.bool true)) P) : Gets (wy59_0 bd v3) P :=
  Gets.ev (fun _ h => loop_step (cfg := cfg) (f := 59) (rd := none) (bs := 0) h) (Gets.eq (by kernel_rfl) h)
theorem wy30_0_step (nv3 : Nat) (v4 : Int) (c0_0 : Int) (c0_1 : Int) (c0_2 : List UInt8) (c0_3 : List (List AV)) (c1_0 : Int) (c1_1 : Int) (c1_2 : List UInt8) (c1_3 : List (List AV)) (h2 : List (List AV)) {P : AV → Prop} (h : Gets (bif decide (v4 < (↑(List.length c0_3) : Int)) then bif leInt (0 : Int) v4 && ltInt v4 (↑(List.length c0_3) : Int) then kOpt (List.get?Internal c0_3 (Int.toNat v4)) fun (row : List AV) 
  => bif Nat.beq (List.length row) 4 then bif Nat.ble 4 (List.length row) then kTmC (List.take 4 row) fun (n n_1 : Int) (s : List UInt8) (rows : List (List AV)) => (kOpt (EVf (EV cfg) 
  30 [.agg [AV.int .i64 n, .int .i64 n_1, .str s, .sl rows]]) fun (v : AV) => kTmV v fun (n n_2 : Int) (s : List UInt8) (rows : List (List AV)) => (bif Nat.ble (0 + nv3) (List.length h2) 
  && fitsIn (nv3 + 1) 56 then wy30_0 (nv3 + 1) (IntKind.wrap .i64 (v4 + (1 : Int))) c0_0 c0_1 c0_2 c0_3 c1_0 c1_1 c1_2 c1_3 (List.append (List.take nv3 h2) [[AV.int .i64 n, .int .i64 n_2, 
  .str s, .sl rows]]) else none)) else none else none else none else bif Nat.ble (0 + nv3) (List.length h2) && true then some (.agg [AV.int .i64 c0_0, .int .i64 c0_1, .str c0_2, .sl (List.take 
  nv3 h2)]) else none) P) : Gets (wy30_0 nv3 v4 c0_0 c0_1 c0_2 c0_3 c1_0 c1_1 c1_2 c1_3 h2) P :=
  Gets.ev (fun _ h => loop_step (cfg := cfg) (f := 30) (rd := none) (bs := 0) h) (Gets.eq (by kernel_rfl) h)
theorem wy120_0_step (A : List (List AV)) (B : List (List AV)) (v5 : Int) (v6 : Int) {P : AV → Prop} (h : Gets (bif decide (v6 < (↑(List.length A) : Int)) then bif v5 == (0 : Int) then bif leInt (0 : Int) v6 && ltInt v6 (↑(List.length A) : Int) then kOpt (List.get?Internal A (Int.toNat v6)) fun 
  (row : List AV) => bif Nat.beq (List.length row) 4 then bif Nat.ble 4 (List.length row) then kTmC (List.take 4 row) fun (n n_1 : Int) (s : List UInt8) (rows : List (List AV)) => (bif 
  leInt (0 : Int) v6 && ltInt v6 (↑(List.length B) : Int) then kOpt (List.get?Internal B (Int.toNat v6)) fun (row : List AV) => bif Nat.beq (List.length row) 4 then bif Nat.ble 4 (List.length 
  row) then kTmC (List.take 4 row) fun (n_2 n_3 : Int) (s_1 : List UInt8) (rows_1 : List (List AV)) => (kOpt (EVs (EV cfg) 103 [.agg [AV.int .i64 n, .int .i64 n_1, .str s, .sl rows], .agg 
  [AV.int .i64 n_2, .int .i64 n_3, .str s_1, .sl rows_1]]) fun (v : AV) => kInt .i64 v fun (n : Int) => wy120_0 A B n (IntKind.wrap .i64 (v6 + (1 : Int)))) else none else none else none) 
  else none else none else none else some (.int .i64 v5) else some (.int .i64 v5)) P) : Gets (wy120_0 A B v5 v6) P :=
  Gets.ev (fun _ h => loop_step (cfg := cfg) (f := 120) (rd := none) (bs := 0) h) (Gets.eq (by kernel_rfl) h)
end Go.Proofs.YtogebohommickaaGreat
end

section
namespace Go.Av
@[simp] theorem Tm.kind_mk (k n : Int) (s : List UInt8) (l : List Tm) : (Tm.mk k n s l).kind = k := rfl
@[simp] theorem Tm.num_mk (k n : Int) (s : List UInt8) (l : List Tm) : (Tm.mk k n s l).num = n := rfl
@[simp] theorem Tm.str_mk (k n : Int) (s : List UInt8) (l : List Tm) : (Tm.mk k n s l).str = s := rfl
@[simp] theorem Tm.subs_mk (k n : Int) (s : List UInt8) (l : List Tm) : (Tm.mk k n s l).subs = l := rfl
@[simp] theorem Tm.eta (t : Tm) : Tm.mk t.kind t.num t.str t.subs = t := by cases t; rfl
theorem Tm.cells_eq (t : Tm) : t.cells = [.int .i64 t.kind, .int .i64 t.num, .str t.str, .sl (rowsT t.subs)] := by cases t; rw [Tm.cells_mk]; rfl
@[simp] theorem cells_fold (k n : Int) (s : List UInt8) (l : List Tm) : [AV.int .i64 k, AV.int .i64 n, AV.str s, AV.sl (rowsT l)] = (Tm.mk k n s l).cells := (Tm.cells_mk k n s l).symm
@[simp] theorem cells_fold0 (k n : Int) (s : List UInt8) : [AV.int .i64 k, AV.int .i64 n, AV.str s, AV.sl []] = (Tm.mk k n s []).cells := by rw [Tm.cells_mk, rowsT_nil]
@[simp] theorem agg_cells (t : Tm) : AV.agg t.cells = t.av := rfl
@[simp] theorem rowsT_one (t : Tm) : [t.cells] = rowsT [t] := by rw [rowsT_cons, rowsT_nil]
@[simp] theorem rowsT_cons' (t : Tm) (l : List Tm) : t.cells :: rowsT l = rowsT (t :: l) := (rowsT_cons t l).symm
@[simp] theorem rowsT_append' (a b : List Tm) : rowsT a ++ rowsT b = rowsT (a ++ b) := (rowsT_append a b).symm
@[simp] theorem rowsT_app (a b : List Tm) : List.append (rowsT a) (rowsT b) = rowsT (a ++ b) := (rowsT_append a b).symm
@[simp] theorem rowsT_take' (n : Nat) (a : List Tm) : (rowsT a).take n = rowsT (a.take n) := rowsT_take n a
@[simp] theorem rowsT_drop' (n : Nat) (a : List Tm) : (rowsT a).drop n = rowsT (a.drop n) := rowsT_drop n a
@[simp] theorem rowsT_set' (l : List Tm) (i : Nat) (t : Tm) : (rowsT l).set i t.cells = rowsT (l.set i t) := rowsT_set l i t
@[simp] theorem rowsT_get' (l : List Tm) (i : Nat) : (rowsT l)[i]? = (l[i]?).map Tm.cells := rowsT_get l i
@[simp] theorem rowsT_getElem (l : List Tm) (i : Nat) (h : i < (rowsT l).length) : (rowsT l)[i] = (l[i]'(by simpa using h)).cells := by
  have h1 := rowsT_get l i
  rw [List.getElem?_eq_getElem h, List.getElem?_eq_getElem (by simpa using h)] at h1
  exact Option.some.inj h1
@[simp] theorem kOpt_map {α β γ : Type} (o : Option β) (g : β → γ) (k : γ → Option α) : kOpt (o.map g) k = kOpt o fun x => k (g x) := by cases o <;> rfl
@[simp] theorem length_cells (t : Tm) : t.cells.length = 4 := by rw [Tm.cells_eq]; rfl
@[simp] theorem take_cells (t : Tm) : t.cells.take 4 = t.cells := by rw [Tm.cells_eq]; rfl
@[simp] theorem drop_cells (t : Tm) : t.cells.drop 4 = [] := by rw [Tm.cells_eq]; rfl
@[simp] theorem cells_0 (t : Tm) : t.cells[0]? = some (.int .i64 t.kind) := by rw [Tm.cells_eq]; rfl
@[simp] theorem cells_1 (t : Tm) : t.cells[1]? = some (.int .i64 t.num) := by rw [Tm.cells_eq]; rfl
@[simp] theorem cells_2 (t : Tm) : t.cells[2]? = some (.str t.str) := by rw [Tm.cells_eq]; rfl
@[simp] theorem cells_3 (t : Tm) : t.cells[3]? = some (.sl (rowsT t.subs)) := by rw [Tm.cells_eq]; rfl
@[simp] theorem refs_cells (n : Nat) (t : Tm) : refsLtL n t.cells = true := by rw [Tm.cells_eq]; rfl
@[simp] theorem allCells_cells (t : Tm) : allCells t.cells = true := by rw [Tm.cells_eq]; rfl
@[simp] theorem rowsT_free' (l : List Tm) : refsLtR 0 (rowsT l) = true := rowsT_free l
@[simp] theorem rowsOk_rowsT (l : List Tm) : rowsOk 4 (rowsT l) = true := by
  cases l with
  | nil => rw [rowsT_nil]; rfl
  | cons t l => rw [rowsT_cons, rowsOk, length_cells]; rfl
@[simp] theorem kTmC_cells {α : Type} (t : Tm) (k : Int → Int → List UInt8 → List (List AV) → Option α) : kTmC t.cells k = k t.kind t.num t.str (rowsT t.subs) := by rw [Tm.cells_eq]; rfl
@[simp] theorem kTmV_av {α : Type} (t : Tm) (k : Int → Int → List UInt8 → List (List AV) → Option α) : kTmV t.av k = k t.kind t.num t.str (rowsT t.subs) := by rw [Tm.av, Tm.cells_eq]; rfl

theorem wrap_s {i n : Nat} (h : i < n) (hn : n < 1099511627776) : IntKind.wrap .i64 ((i : Int) + 1) = (i : Int) + 1 := wrap64 (by omega) (by omega)
@[simp] theorem cast_nn (q : Nat) : (0 ≤ (q : Int) + 1) = True := eq_true (by omega)
@[simp] theorem cast_le1 (q n : Nat) : ((q : Int) + 1 ≤ (n : Int)) = (q + 1 ≤ n) := propext (by omega)
@[simp] theorem cast_lt1 (q n : Nat) : ((q : Int) + 1 < (n : Int)) = (q + 1 < n) := propext (by omega)
@[simp] theorem cast_nn' (q : Nat) : (0 < (q : Int) + 1) = True := eq_true (by omega)
@[simp] theorem cast_ne0 (q : Nat) : ((q : Int) + 1 == 0) = false := by rw [beqD]; exact decide_eq_false (by omega)
@[simp] theorem cast_lt_s (q : Nat) : ((q : Int) < (q : Int) + 1) = True := eq_true (by omega)
@[simp] theorem cast_le_s (q : Nat) : ((q : Int) ≤ (q : Int) + 1) = True := eq_true (by omega)
theorem wrapN {n : Nat} (hn : n < 4398046511104) : IntKind.wrap .i64 (n : Int) = n := wrap64 (by omega) (by omega)
end Go.Av
end

section
namespace Go.Av

def numC (a b : Int) : Int := if a < b then -1 else if b < a then 1 else 0
def strC (a b : List UInt8) : Int := if a = b then 0 else if Op.bytesLess a b then -1 else 1

mutual
def cmpT : Tm → Tm → Int
  | .mk k n s l, b =>
    if numC k b.kind ≠ 0 then numC k b.kind
    else if k = 1 ∨ k = 3 ∨ k = 4 ∨ k = 6 then numC n b.num
    else if k = 2 then strC s b.str
    else if k = 5 then (if numC n b.num ≠ 0 then numC n b.num else if numC l.length b.subs.length ≠ 0 then numC l.length b.subs.length else cmpE l b.subs)
    else if k = 7 ∨ k = 9 then (if numC l.length b.subs.length ≠ 0 then numC l.length b.subs.length else cmpE l b.subs)
    else 0
def cmpE : List Tm → List Tm → Int
  | [], [] => 0
  | [], _ :: _ => -1
  | _ :: _, [] => 1
  | a :: l, b :: l' => if cmpT a b ≠ 0 then cmpT a b else cmpE l l'
end

def cmpL (l l' : List Tm) : Int := if numC l.length l'.length ≠ 0 then numC l.length l'.length else cmpE l l'

theorem numC_zero {a b : Int} : numC a b = 0 ↔ a = b := by unfold numC; split <;> (try split) <;> omega
theorem numC_self (a : Int) : numC a a = 0 := numC_zero.2 rfl

theorem cmpT_eq (k n : Int) (s : List UInt8) (l : List Tm) (k' n' : Int) (s' : List UInt8) (l' : List Tm) : cmpT (.mk k n s l) (.mk k' n' s' l') =
    if numC k k' ≠ 0 then numC k k' else if k = 1 ∨ k = 3 ∨ k = 4 ∨ k = 6 then numC n n' else if k = 2 then strC s s'
    else if k = 5 then (if numC n n' ≠ 0 then numC n n' else cmpL l l') else if k = 7 ∨ k = 9 then cmpL l l' else 0 := by
  rw [cmpT]; rfl
theorem cmpE_cons (a b : Tm) (l l' : List Tm) : cmpE (a :: l) (b :: l') = if cmpT a b ≠ 0 then cmpT a b else cmpE l l' := by rw [cmpE]
theorem cmpE_nil : cmpE [] [] = 0 := by rw [cmpE]
theorem cmpE_nil_cons (b : Tm) (l' : List Tm) : cmpE [] (b :: l') = -1 := by rw [cmpE]
theorem cmpE_cons_nil (a : Tm) (l : List Tm) : cmpE (a :: l) [] = 1 := by rw [cmpE]

theorem bytesLess_irrefl : ∀ a : List UInt8, Op.bytesLess a a = false
  | [] => rfl
  | a :: l => by rw [Op.bytesLess, bytesLess_irrefl l]; simp
end Go.Av
end

section
namespace Go.Av

def C3 (p q r : Int) : Prop := (p ≤ 0 → q ≤ 0 → r ≤ 0) ∧ (p < 0 → q ≤ 0 → r < 0) ∧ (p ≤ 0 → q < 0 → r < 0) ∧ (0 ≤ p → 0 ≤ q → 0 ≤ r) ∧ (0 < p → 0 ≤ q → 0 < r) ∧ (0 ≤ p → 0 < q → 0 < r)

end Go.Av
end

section
namespace Go.Av
def soundB (k n : Int) (s : List UInt8) (m : Nat) : Bool :=
  if k = 1 then decide (-576460752303423488 ≤ n) && (decide (n ≤ 576460752303423487) && (decide (s = []) && decide (m = 0)))
  else if k = 2 then decide (n = 0) && (decide (s.length ≤ 64) && decide (m = 0))
  else if k = 3 then decide (0 ≤ n) && (decide (n ≤ 1073741824) && (decide (s = []) && decide (m = 0)))
  else if k = 4 then decide (0 ≤ n) && (decide (n ≤ 1073741824) && (decide (s = []) && decide (m = 0)))
  else if k = 6 then decide (0 ≤ n) && (decide (n ≤ 1073741824) && (decide (s = []) && decide (m = 0)))
  else if k = 5 then decide (0 ≤ n) && (decide (n ≤ 1073741824) && (decide (s = []) && decide (m ≤ 64)))
  else if k = 7 then decide (n = 0) && (decide (s = []) && decide (m ≤ 64))
  else if k = 8 then decide (n = 0) && (decide (s = []) && decide (m = 0))
  else if k = 9 then decide (n = 0) && (decide (s = []) && decide (m = 2))
  else false
def Tm.sound (t : Tm) : Bool := soundB t.kind t.num t.str t.subs.length
def Tm.own (t : Tm) : Nat := if t.kind = 7 ∨ t.kind = 5 then 2 else 1
theorem bif_some' (a b : Bool) : (bif a then some (AV.bool b) else some (AV.bool false)) = some (.bool (a && b)) := by cases a <;> rfl
theorem beqNil (s : List UInt8) : (s == []) = decide (s = []) := by cases s <;> simp
theorem beqI (a b : Int) : (a == b) = decide (a = b) := by simp [beqD]
mutual
/-- may all parts of a term be? -/
def Tm.parts : Tm → Bool
  | .mk k n s l => soundB k n s l.length && partsL l
def partsL : List Tm → Bool
  | [] => true
  | t :: l => t.parts && partsL l
end
mutual
/-- how many words all parts have -/
def Tm.words : Tm → Nat
  | .mk k n s l => (Tm.mk k n s l).own + wordsL l
def wordsL : List Tm → Nat
  | [] => 0
  | t :: l => t.words + wordsL l
end
theorem Tm.parts_eq (t : Tm) : t.parts = (t.sound && partsL t.subs) := by cases t; rw [Tm.parts]; rfl
theorem Tm.words_eq (t : Tm) : t.words = t.own + wordsL t.subs := by cases t; rw [Tm.words]; rfl
theorem partsL_append (a b : List Tm) : partsL (a ++ b) = (partsL a && partsL b) := by
  induction a with
  | nil => simp [partsL]
  | cons x l ih => simp [partsL, ih, Bool.and_assoc]
theorem wordsL_append (a b : List Tm) : wordsL (a ++ b) = wordsL a + wordsL b := by
  induction a with
  | nil => simp [wordsL]
  | cons x l ih => simp [wordsL, ih]; omega
theorem partsL_rev (a : List Tm) : partsL a.reverse = partsL a := by
  induction a with
  | nil => rfl
  | cons x l ih => simp [partsL_append, partsL, ih, Bool.and_comm]
theorem wordsL_rev (a : List Tm) : wordsL a.reverse = wordsL a := by
  induction a with
  | nil => rfl
  | cons x l ih => simp [wordsL_append, wordsL, ih]; omega
theorem Tm.own_le (t : Tm) : t.own ≤ 2 ∧ 1 ≤ t.own := by unfold Tm.own; split <;> omega
theorem words_le (t : Tm) : t.words ≤ 2 * t.w := by
  induction t using Tm.ind with
  | _ k n s l ih =>
    have h1 : wordsL l ≤ 2 * wL l := by
      clear n s
      induction l with
      | nil => simp [wordsL]
      | cons x l ih2 =>
        have := ih x (by simp)
        have := ih2 (fun t ht => ih t (by simp [ht]))
        simp [wordsL]; omega
    have := (Tm.mk k n s l).own_le
    rw [Tm.words, Tm.w_mk]; omega
def chkS (R : List Tm) (wd : Nat) : Int := if partsL R then (if 65536 < wd + wordsL R then 3 else 0) else 2
def Tm.chk (t : Tm) : Int := chkS [t] 0
theorem chkS_bad {R : List Tm} {x : Tm} {wd : Nat} (h : x.sound = false) : chkS (R ++ [x]) wd = 2 := by
  unfold chkS
  rw [partsL_append]
  simp [partsL, Tm.parts_eq, h]
theorem chkS_step {R : List Tm} {x : Tm} {wd : Nat} (h : x.sound = true) : chkS (R ++ x.subs.reverse) (wd + x.own) = chkS (R ++ [x]) wd := by
  unfold chkS
  simp only [partsL_append, partsL_rev, wordsL_append, wordsL_rev, partsL, wordsL, Tm.parts_eq, Tm.words_eq, h, Bool.true_and, Bool.and_true]
  have : wd + x.own + (wordsL R + wordsL x.subs) = wd + (wordsL R + (x.own + wordsL x.subs + 0)) := by omega
  rw [this]

end Go.Av
end

section
namespace Go.Av
def numT (i : Int) : Tm := .mk 1 i [] []
def symT (s : List UInt8) : Tm := .mk 2 0 s []
def zeroT : Tm := .mk 0 0 [] []
theorem numT_av (i : Int) : (numT i).av = .agg [.int .i64 1, .int .i64 i, .str [], .sl []] := by rw [numT, Tm.av_mk, rowsT_nil]
theorem symT_av (s : List UInt8) : (symT s).av = .agg [.int .i64 2, .int .i64 0, .str s, .sl []] := by rw [symT, Tm.av_mk, rowsT_nil]
theorem zeroT_av : zeroT.av = .agg [.int .i64 0, .int .i64 0, .str [], .sl []] := by rw [zeroT, Tm.av_mk, rowsT_nil]
def InB (a : Int) : Prop := -576460752303423488 ≤ a ∧ a ≤ 576460752303423487
instance (a : Int) : Decidable (InB a) := inferInstanceAs (Decidable (_ ∧ _))
theorem numT_chk {a : Int} (h : InB a) : (numT a).chk = 0 := by
  obtain ⟨h1, h2⟩ := h
  simp [numT, Tm.chk, chkS, partsL, Tm.parts, soundB, wordsL, Tm.words, Tm.own, Tm.kind, h1, h2]
def withinG (n : Int) : Option Tm := if InB n then some (numT n) else none
theorem ofInt_ext {a : Int} (h : InB a) : BitVec.ofInt 64 a = (BitVec.ofInt 60 a).signExtend 64 := by
  obtain ⟨h1, h2⟩ := h
  apply BitVec.eq_of_toInt_eq
  rw [BitVec.toInt_signExtend_of_le (by omega), BitVec.toInt_ofInt, BitVec.toInt_ofInt]
  rw [Int.bmod_eq_of_le (by omega) (by omega), Int.bmod_eq_of_le (by omega) (by omega)]
theorem wrap_toNat (r : BitVec 64) : IntKind.wrap .i64 r.toNat = r.toInt := by
  have h := r.isLt
  rw [BitVec.toInt_eq_toNat_cond]
  simp [IntKind.wrap, IntKind.bits, IntKind.signed]
  omega
def bvG (op : BinOp) (a b : Int) : Int :=
  match op with
  | .and => (BitVec.ofInt 60 a &&& BitVec.ofInt 60 b).toInt
  | .or => (BitVec.ofInt 60 a ||| BitVec.ofInt 60 b).toInt
  | _ => (BitVec.ofInt 60 a ^^^ BitVec.ofInt 60 b).toInt
theorem bvG_and {a b : Int} (ha : InB a) (hb : InB b) : fromSem (Op.intBits .and .i64 a b) = some (.int .i64 (bvG .and a b)) := by
  have : fromSem (Op.intBits .and .i64 a b) = some (.int .i64 (IntKind.wrap .i64 (BitVec.ofInt 64 a &&& BitVec.ofInt 64 b).toNat)) := rfl
  rw [this, wrap_toNat, ofInt_ext ha, ofInt_ext hb, ← BitVec.signExtend_and, BitVec.toInt_signExtend_of_le (by omega)]; rfl
theorem bvG_or {a b : Int} (ha : InB a) (hb : InB b) : fromSem (Op.intBits .or .i64 a b) = some (.int .i64 (bvG .or a b)) := by
  have : fromSem (Op.intBits .or .i64 a b) = some (.int .i64 (IntKind.wrap .i64 (BitVec.ofInt 64 a ||| BitVec.ofInt 64 b).toNat)) := rfl
  rw [this, wrap_toNat, ofInt_ext ha, ofInt_ext hb, ← BitVec.signExtend_or, BitVec.toInt_signExtend_of_le (by omega)]; rfl
theorem bvG_xor {a b : Int} (ha : InB a) (hb : InB b) : fromSem (Op.intBits .xor .i64 a b) = some (.int .i64 (bvG .xor a b)) := by
  have : fromSem (Op.intBits .xor .i64 a b) = some (.int .i64 (IntKind.wrap .i64 (BitVec.ofInt 64 a ^^^ BitVec.ofInt 64 b).toNat)) := rfl
  rw [this, wrap_toNat, ofInt_ext ha, ofInt_ext hb, ← BitVec.signExtend_xor, BitVec.toInt_signExtend_of_le (by omega)]; rfl
end Go.Av
namespace Go.Av
def numbersG (op : List UInt8) (a b : Int) : Option Tm :=
  if op = [43] then withinG (a + b)
  else if op = [45] then withinG (a - b)
  else if op = [42] then withinG (a * b)
  else if op = [98, 97, 110, 100] then withinG (bvG .and a b)
  else if op = [98, 111, 114] then withinG (bvG .or a b)
  else if op = [98, 120, 111, 114] then withinG (bvG .xor a b)
  else if b = 0 then none
  else if op = [100, 105, 118] then withinG (a.tdiv b)
  else withinG (a.tmod b)
theorem beqS (a b : List UInt8) : (a == b) = decide (a = b) := by by_cases h : a = b <;> simp [h]
theorem intDiv_quo {a b : Int} (h : b ≠ 0) : fromSem (Op.intDiv .quo .i64 a b) = some (.int .i64 (IntKind.wrap .i64 (a.tdiv b))) := by
  unfold Op.intDiv; rw [if_neg h]; rfl
theorem intDiv_rem {a b : Int} (h : b ≠ 0) : fromSem (Op.intDiv .rem .i64 a b) = some (.int .i64 (a.tmod b)) := by
  unfold Op.intDiv; rw [if_neg h]; rfl
theorem tdiv_abs {a b : Int} (_h : b ≠ 0) : (a.tdiv b).natAbs ≤ a.natAbs := by
  rw [Int.natAbs_tdiv]; exact Nat.div_le_self _ _
structure Env where
  obj : Tm
  binds : List (Int × Tm)
  self : Int
def bindsR (l : List (Int × Tm)) : List (List AV) := l.map fun p => .int .i64 p.1 :: p.2.cells
theorem bindsR_len (l : List (Int × Tm)) : (bindsR l).length = l.length := by simp [bindsR]
theorem bindsR_get (l : List (Int × Tm)) (i : Nat) : (bindsR l)[i]? = (l[i]?).map fun p => .int .i64 p.1 :: p.2.cells := by simp [bindsR]
abbrev mR (e : Env) (b : Bool) : List (List AV) := [[.int .i64 e.obj.kind, .int .i64 e.obj.num, .str e.obj.str, .sl (rowsT e.obj.subs), .sl (bindsR e.binds), .int .i64 e.self, .bool b]]
def Res (e : Env) (o : Option Tm) (r : AV × List (List AV)) : Prop :=
  match o with
  | some t => r = (t.av, mR e false)
  | none => r.2 = mR e true ∧ ∃ t : Tm, r.1 = t.av
end Go.Av
namespace Go.Av
def tru : List UInt8 := [116, 114, 117, 101]
def fal : List UInt8 := [102, 97, 108, 115, 101]
def truthT (b : Bool) : Tm := symT (if b then tru else fal)
def boolG (t : Tm) : Option Bool := if t.kind = 2 ∧ t.str = tru then some true else if t.kind = 2 ∧ t.str = fal then some false else none
def twoG (op : List UInt8) (a b : Tm) : Option Tm :=
  if op = [61, 61] then some (truthT (decide (cmpT a b = 0)))
  else if op = [61, 58, 61] then some (truthT (decide (cmpT a b = 0)))
  else if op = [47, 61] then some (truthT (!decide (cmpT a b = 0)))
  else if op = [61, 47, 61] then some (truthT (!decide (cmpT a b = 0)))
  else if op = [60] then some (truthT (decide (cmpT a b < 0)))
  else if op = [61, 60] then some (truthT (decide (cmpT a b ≤ 0)))
  else if op = [62] then some (truthT (decide (cmpT a b > 0)))
  else if op = [62, 61] then some (truthT (decide (cmpT a b ≥ 0)))
  else if op = [97, 110, 100] ∨ op = [97, 110, 100, 97, 108, 115, 111] then (boolG a).bind fun x => (boolG b).map fun y => truthT (x && y)
  else if op = [111, 114] ∨ op = [111, 114, 101, 108, 115, 101] then (boolG a).bind fun x => (boolG b).map fun y => truthT (x || y)
  else if op = [120, 111, 114] then (boolG a).bind fun x => (boolG b).map fun y => truthT (x != y)
  else if op = [101, 108, 101, 109, 101, 110, 116] then (if a.kind = 1 ∧ 1 ≤ a.num ∧ b.kind = 7 ∧ a.num ≤ b.subs.length then b.subs[(a.num - 1).toNat]? else none)
  else if a.kind = 1 ∧ b.kind = 1 then numbersG op a.num b.num else none
end Go.Av
namespace Go.Av
def opsTab : List (List UInt8 × List Int) := [
  ([115, 101, 108, 102], [0]),
  ([105, 115, 95, 97, 116, 111, 109], [1]),
  ([105, 115, 95, 105, 110, 116, 101, 103, 101, 114], [1]),
  ([105, 115, 95, 108, 105, 115, 116], [1]),
  ([105, 115, 95, 116, 117, 112, 108, 101], [1]),
  ([105, 115, 95, 112, 105, 100], [1]),
  ([105, 115, 95, 102, 117, 110, 99, 116, 105, 111, 110], [1]),
  ([105, 115, 95, 114, 101, 102, 101, 114, 101, 110, 99, 101], [1]),
  ([110, 111, 116], [1]),
  ([98, 110, 111, 116], [1]),
  ([97, 98, 115], [1]),
  ([116, 117, 112, 108, 101, 95, 115, 105, 122, 101], [1]),
  ([115, 105, 122, 101], [1]),
  ([104, 100], [1]),
  ([116, 108], [1]),
  ([108, 101, 110, 103, 116, 104], [1]),
  ([43], [1, 2]),
  ([45], [1, 2]),
  ([61, 61], [2]),
  ([61, 58, 61], [2]),
  ([47, 61], [2]),
  ([61, 47, 61], [2]),
  ([60], [2]),
  ([61, 60], [2]),
  ([62], [2]),
  ([62, 61], [2]),
  ([97, 110, 100], [2]),
  ([111, 114], [2]),
  ([120, 111, 114], [2]),
  ([97, 110, 100, 97, 108, 115, 111], [2]),
  ([111, 114, 101, 108, 115, 101], [2]),
  ([42], [2]),
  ([100, 105, 118], [2]),
  ([114, 101, 109], [2]),
  ([98, 97, 110, 100], [2]),
  ([98, 111, 114], [2]),
  ([98, 120, 111, 114], [2]),
  ([101, 108, 101, 109, 101, 110, 116], [2])]
def lookS {β : Type} (op : List UInt8) (d : β) : List (List UInt8 × β) → β
  | [] => d
  | p :: l => bif op == p.1 then p.2 else lookS op d l
theorem lookS_map {β γ : Type} (g : β → γ) (op : List UInt8) (d : β) : ∀ l : List (List UInt8 × β), lookS op (g d) (l.map fun p => (p.1, g p.2)) = g (lookS op d l)
  | [] => rfl
  | p :: l => by
    rw [List.map_cons, lookS, lookS, lookS_map g op d l]
    cases op == p.1 <;> rfl
def opsG (op : List UInt8) : List Int := lookS op [] opsTab
def intsR (l : List Int) : List (List AV) := l.map fun n => [.int .i64 n]
theorem intsR_len (l : List Int) : (intsR l).length = l.length := by simp [intsR]
theorem intsR_get (l : List Int) (i : Nat) : (intsR l)[i]? = (l[i]?).map fun n => [AV.int .i64 n] := by simp [intsR]
def selfG (n : Int) : Bool := decide (1 ≤ n) && decide (n ≤ 1073741824)
theorem numT_ok (n : Int) : (numT n).Ok := by simp [numT, Tm.Ok, OkL]
theorem within_ok {n : Int} {t : Tm} (h : withinG n = some t) : t.Ok ∧ t = numT n := by
  unfold withinG at h
  split at h
  · cases h; exact ⟨numT_ok n, rfl⟩
  · cases h
theorem numbersG_ok {op : List UInt8} {a b : Int} {t : Tm} (h : numbersG op a b = some t) : t.Ok ∧ ∃ n, t = numT n := by
  unfold numbersG at h
  repeat' split at h
  all_goals first | (cases h; done) | exact ⟨(within_ok h).1, _, (within_ok h).2⟩
theorem Tm.Ok.subs {t : Tm} (h : t.Ok) {x : Tm} (hx : x ∈ t.subs) : x.Ok := by
  obtain ⟨k, n, s, l⟩ := t
  exact h.sub hx
end Go.Av
end

section
namespace Go.Av
def digitG (b : UInt8) : Option Int := if b.toNat < 48 then none else if b.toNat > 57 then none else some ((b.toNat : Int) - 48)
def varG : List UInt8 → Option Int
  | [a, b] => if a.toNat = 36 then digitG b else none
  | [a, b, c] => if a.toNat = 36 ∧ b.toNat ≠ 48 then (digitG b).bind fun x => (digitG c).map fun y => x * 10 + y else none
  | _ => none
theorem digitG_in {b : UInt8} {x : Int} (h : digitG b = some x) : 0 ≤ x ∧ x ≤ 9 := by
  unfold digitG at h
  split at h
  · cases h
  · split at h
    · cases h
    · cases h; omega
theorem varG2 (a b : UInt8) : varG [a, b] = if a.toNat = 36 then digitG b else none := rfl
theorem varG3 (a b c : UInt8) : varG [a, b, c] = if a.toNat = 36 ∧ b.toNat ≠ 48 then (digitG b).bind fun x => (digitG c).map fun y => x * 10 + y else none := rfl
def varT (t : Tm) : Option Int := if t.kind = 2 ∧ t.chk = 0 then varG t.str else none
theorem wrapU {n : Nat} (h : n < 18446744073709551616) : IntKind.wrap .u64 (n : Int) = n := by
  simp [IntKind.wrap, IntKind.bits, IntKind.signed]; omega
theorem shl_one {n : Nat} (h : n < 64) : fromSem (Op.shift .shl .u64 1 .i64 (n : Int)) = some (.int .u64 ((2 ^ n : Nat) : Int)) := by
  have hp : 2 ^ n < 18446744073709551616 := by
    have : 2 ^ n < 2 ^ 64 := Nat.pow_lt_pow_right (by omega) h
    simpa using this
  have : fromSem (Op.shift .shl .u64 1 .i64 (n : Int)) = some (.int .u64 (IntKind.wrap .u64 (1 * 2 ^ (min (n : Int).toNat 64)))) := by
    unfold Op.shift
    rw [if_neg (by omega)]; rfl
  rw [this, Int.toNat_natCast, Nat.min_eq_left (by omega), Int.one_mul]
  have e : ((2 : Int) ^ n) = ((2 ^ n : Nat) : Int) := by simp
  rw [e, wrapU hp]
theorem or_bits {a b : Nat} (ha : a < 18446744073709551616) (hb : b < 18446744073709551616) : fromSem (Op.intBits .or .u64 (a : Int) (b : Int)) = some (.int .u64 ((a ||| b : Nat) : Int)) := by
  have : fromSem (Op.intBits .or .u64 (a : Int) (b : Int)) = some (.int .u64 (IntKind.wrap .u64 (BitVec.ofInt 64 (a : Int) ||| BitVec.ofInt 64 (b : Int)).toNat)) := rfl
  rw [this]
  have ea : (BitVec.ofInt 64 (a : Int)).toNat = a := by simp [BitVec.toNat_ofInt]; omega
  have eb : (BitVec.ofInt 64 (b : Int)).toNat = b := by simp [BitVec.toNat_ofInt]; omega
  have hlt := (BitVec.ofInt 64 (a : Int) ||| BitVec.ofInt 64 (b : Int)).isLt
  rw [wrapU (by simpa using hlt), BitVec.toNat_or, ea, eb]
theorem shr_bit {a n : Nat} (ha : a < 18446744073709551616) (hn : n < 64) : fromSem (Op.shift .shr .u64 (a : Int) .i64 (n : Int)) = some (.int .u64 ((a / 2 ^ n : Nat) : Int)) := by
  have : fromSem (Op.shift .shr .u64 (a : Int) .i64 (n : Int)) = some (.int .u64 (Int.fdiv a (2 ^ (min (n : Int).toNat 64)))) := by
    unfold Op.shift
    rw [if_neg (by omega)]; rfl
  rw [this, Int.toNat_natCast, Nat.min_eq_left (by omega)]
  have e : ((2 : Int) ^ n) = ((2 ^ n : Nat) : Int) := by simp
  rw [e, Int.fdiv_eq_ediv_of_nonneg _ (Int.natCast_nonneg _)]
  rfl
theorem and_one {a : Nat} (ha : a < 18446744073709551616) : fromSem (Op.intBits .and .u64 (a : Int) 1) = some (.int .u64 ((a % 2 : Nat) : Int)) := by
  have : fromSem (Op.intBits .and .u64 (a : Int) 1) = some (.int .u64 (IntKind.wrap .u64 (BitVec.ofInt 64 (a : Int) &&& BitVec.ofInt 64 1).toNat)) := rfl
  rw [this]
  have ea : (BitVec.ofInt 64 (a : Int)).toNat = a := by simp [BitVec.toNat_ofInt]; omega
  have eb : (BitVec.ofInt 64 (1 : Int)).toNat = 1 := by decide
  rw [BitVec.toNat_and, ea, eb, Nat.and_one_is_mod, wrapU (by omega)]
def SetRow (p : Nat → Bool) (r : List AV) : Prop := ∃ (lo hi : Nat) (l : List AV), r = .int .u64 lo :: .int .u64 hi :: l ∧ lo < 18446744073709551616 ∧ hi < 18446744073709551616 ∧ (∀ n, n < 64 → lo.testBit n = p n) ∧ ∀ n, n < 64 → hi.testBit n = p (n + 64)
end Go.Av
namespace Go.Av
theorem store_get {r cs : List AV} {o k : Nat} (hc : cs.length = 4) (h : o + 4 ≤ r.length) (hk : k < o ∨ o + 4 ≤ k) : (List.append (List.append (r.take o) cs) (r.drop (o + 4)))[k]? = r[k]? := by
  show ((r.take o ++ cs) ++ r.drop (o + 4))[k]? = r[k]?
  have hl : (r.take o).length = o := by simp; omega
  rcases hk with hk | hk
  · rw [List.getElem?_append_left (by simp; omega), List.getElem?_append_left (by omega), List.getElem?_take, if_pos hk]
  · rw [List.getElem?_append_right (by simp; omega), List.getElem?_drop]
    congr 1
    simp [hc]
    omega
theorem store_len {r cs : List AV} {o : Nat} (hc : cs.length = 4) (h : o + 4 ≤ r.length) : (List.append (List.append (r.take o) cs) (r.drop (o + 4))).length = r.length := by
  show ((r.take o ++ cs) ++ r.drop (o + 4)).length = r.length
  simp [hc]; omega
theorem store_same {r cs : List AV} {o : Nat} (hc : cs.length = 4) (h : o + 4 ≤ r.length) : ((List.append (List.append (r.take o) cs) (r.drop (o + 4))).drop o).take 4 = cs := by
  show (((r.take o ++ cs) ++ r.drop (o + 4)).drop o).take 4 = cs
  have hl : (r.take o).length = o := by simp; omega
  rw [List.append_assoc, List.drop_append_of_le_length (by omega), List.drop_of_length_le (by omega), List.nil_append, List.take_append_of_le_length (by omega), List.take_of_length_le (by omega)]
theorem store_other {r cs : List AV} {o o' : Nat} (hc : cs.length = 4) (h : o + 4 ≤ r.length) (hd : o' + 4 ≤ o ∨ o + 4 ≤ o') : ((List.append (List.append (r.take o) cs) (r.drop (o + 4))).drop o').take 4 = (r.drop o').take 4 := by
  apply List.ext_getElem?
  intro j
  by_cases hj : j < 4
  · rw [List.getElem?_take, List.getElem?_take, if_pos hj, if_pos hj, List.getElem?_drop, List.getElem?_drop, store_get hc h (by omega)]
  · rw [List.getElem?_take, List.getElem?_take, if_neg hj, if_neg hj]
def mayB : Int → List (Int × Tm) → Bool
  | _, [] => true
  | last, p :: l => decide (last < p.1) && (decide (p.1 ≤ 99) && (decide (p.2.chk = 0) && mayB p.1 l))
def lookB (n : Int) : List (Int × Tm) → Option Tm
  | [] => none
  | p :: l => if p.1 = n then some p.2 else lookB n l
structure BRow (m : List (Int × Tm)) (r : List AV) : Prop where
  len : r.length = 402
  set : SetRow (fun i => (lookB i m).isSome) r
  cells : ∀ i : Nat, i < 100 → ∀ t, lookB i m = some t → (r.drop (2 + i * 4)).take 4 = t.cells
  free : refsLtL 0 r = true
end Go.Av
namespace Go.Av
theorem lookB_snoc (n : Int) (p : Int × Tm) : ∀ m : List (Int × Tm), lookB n (m ++ [p]) = match lookB n m with | some t => some t | none => if p.1 = n then some p.2 else none
  | [] => by simp [lookB]
  | q :: m => by
    rw [List.cons_append, lookB, lookB]
    by_cases h : q.1 = n
    · rw [if_pos h, if_pos h]
    · rw [if_neg h, if_neg h]; exact lookB_snoc n p m
theorem lookB_mem {n : Int} {t : Tm} : ∀ {m : List (Int × Tm)}, lookB n m = some t → (n, t) ∈ m
  | [], h => by cases h
  | q :: m, h => by
    rw [lookB] at h
    by_cases hq : q.1 = n
    · rw [if_pos hq] at h; cases h; subst hq; exact List.mem_cons_self
    · rw [if_neg hq] at h; exact List.mem_cons_of_mem _ (lookB_mem h)
theorem mayB_range : ∀ {l : List (Int × Tm)} {last : Int}, mayB last l = true → ∀ p ∈ l, last < p.1 ∧ p.1 ≤ 99
  | [], _, _, p, hp => by cases hp
  | q :: l, last, h, p, hp => by
    simp only [mayB, Bool.and_eq_true, decide_eq_true_eq] at h
    rcases List.mem_cons.1 hp with rfl | hp
    · exact ⟨h.1, h.2.1⟩
    · have := mayB_range h.2.2.2 p hp
      omega
theorem BRow.add {m : List (Int × Tm)} {r r' : List AV} {n : Nat} {t : Tm} (h : BRow m r) (hn : n < 100) (hnew : lookB n m = none)
    (h1 : SetRow (fun i => (fun i : Nat => (lookB i m).isSome) i || decide (i = n)) r') (h2 : r'.drop 2 = r.drop 2) (h3 : r'.length = r.length) (h4 : refsLtL 0 r = true → refsLtL 0 r' = true) :
    BRow (m ++ [((n : Int), t)]) (List.append (List.append (r'.take (2 + n * 4)) t.cells) (r'.drop (2 + n * 4 + 4))) := by
  have hl : r'.length = 402 := by rw [h3, h.len]
  have hc : t.cells.length = 4 := length_cells t
  have ho : 2 + n * 4 + 4 ≤ r'.length := by omega
  have hd : ∀ j, (r'.drop (2 + j)) = r.drop (2 + j) := by
    intro j
    rw [← List.drop_drop, ← List.drop_drop, h2]
  refine ⟨by rw [store_len hc ho, hl], ?_, fun i hi t' ht' => ?_, ?_⟩
  · obtain ⟨lo, hi, l, rfl, a1, a2, a3, a4⟩ := h1
    obtain ⟨o, ho'⟩ : ∃ o, 2 + n * 4 = o + 2 := ⟨n * 4, by omega⟩
    have lk : ∀ i : Nat, (lookB i (m ++ [((n : Int), t)])).isSome = ((lookB i m).isSome || decide (i = n)) := by
      intro i
      rw [lookB_snoc]
      cases hx : lookB (i : Int) m with
      | some x => rfl
      | none =>
        by_cases hi : i = n
        · subst hi; simp
        · have : ¬ ((n : Int) = (i : Int)) := by omega
          simp [this, hi]
    refine ⟨lo, hi, (l.take o ++ t.cells) ++ l.drop (o + 4), ?_, a1, a2, fun i hi => ?_, fun i hi => ?_⟩
    · rw [ho']; rfl
    · exact (a3 i hi).trans (lk i).symm
    · exact (a4 i hi).trans (lk (i + 64)).symm
  · rw [lookB_snoc] at ht'
    by_cases hin : i = n
    · subst hin
      rw [hnew] at ht'
      simp at ht'
      subst ht'
      exact store_same hc ho
    · cases hx : lookB (i : Int) m with
      | none =>
        rw [hx] at ht'
        have : ¬ ((n : Int) = (i : Int)) := by omega
        simp [this] at ht'
      | some x =>
        rw [hx] at ht'
        cases ht'
        rw [store_other hc ho (by omega), hd]
        exact h.cells i hi _ hx
  · show refsLtL 0 ((r'.take (2 + n * 4) ++ t.cells) ++ r'.drop (2 + n * 4 + 4)) = true
    have hf := h4 h.free
    exact refsLtL_app (refsLtL_app (refsLtL_take hf) (cells_free t)) (refsLtL_drop hf)
def findG (n : Int) (l : List (Int × Tm)) : Option Tm := if mayB (-1) l then lookB n l else none
end Go.Av
end

section
namespace Go.Av
mutual
/-- is a term an expression over some variables? -/
def isG (V : List Int) : Tm → Bool
  | .mk k n s l =>
    if k = 2 then (match varT (.mk k n s l) with | none => true | some x => decide (x ∈ V))
    else if k = 9 then allG V l
    else if k = 7 then
      (match l with
       | [] => false
       | (.mk k1 _ s1 l1) :: rest =>
         if k1 = 7 then decide (rest.length = 0) && allG V l1
         else if k1 = 2 then (if s1 = [99, 111, 110, 115, 116] then decide (rest.length = 1) else decide ((rest.length : Int) ∈ opsG s1) && allG V rest)
         else false)
    else true
def allG (V : List Int) : List Tm → Bool
  | [] => true
  | t :: l => isG V t && allG V l
end
theorem isG_atom {V : List Int} {t : Tm} (h : t.kind = 2) : isG V t = (match varT t with | none => true | some x => decide (x ∈ V)) := by
  obtain ⟨k, n, s, l⟩ := t
  simp only [Tm.kind_mk] at h
  rw [isG.eq_def]; simp only []; rw [if_pos h]
theorem isG_cons {V : List Int} {t : Tm} (h : t.kind = 9) : isG V t = allG V t.subs := by
  obtain ⟨k, n, s, l⟩ := t
  simp only [Tm.kind_mk] at h
  subst h
  rw [isG.eq_def]; simp only []; rw [if_neg (by omega), if_pos trivial]; rfl
theorem isG_nil {V : List Int} {t : Tm} (h : t.kind = 7) (hl : t.subs = []) : isG V t = false := by
  obtain ⟨k, n, s, l⟩ := t
  simp only [Tm.kind_mk, Tm.subs_mk] at h hl
  subst h hl
  rw [isG.eq_def]; simp only []; rw [if_neg (by omega), if_neg (by omega), if_pos trivial]
theorem isG_tup {V : List Int} {t f : Tm} {r : List Tm} (h : t.kind = 7) (hl : t.subs = f :: r) : isG V t =
    if f.kind = 7 then decide (r.length = 0) && allG V f.subs
    else if f.kind = 2 then (if f.str = [99, 111, 110, 115, 116] then decide (r.length = 1) else decide ((r.length : Int) ∈ opsG f.str) && allG V r) else false := by
  obtain ⟨k, n, s, l⟩ := t
  obtain ⟨k1, n1, s1, l1⟩ := f
  simp only [Tm.kind_mk, Tm.subs_mk] at h hl
  subst h hl
  rw [isG.eq_def]; simp only []; rw [if_neg (by omega), if_neg (by omega), if_pos trivial]; rfl
theorem isG_other {V : List Int} {t : Tm} (h2 : t.kind ≠ 2) (h9 : t.kind ≠ 9) (h7 : t.kind ≠ 7) : isG V t = true := by
  obtain ⟨k, n, s, l⟩ := t
  simp only [Tm.kind_mk] at h2 h9 h7
  rw [isG.eq_def]; simp only []; rw [if_neg h2, if_neg h9, if_neg h7]
theorem allG_false {V : List Int} : ∀ {l : List Tm}, allG V l = false ↔ ∃ x ∈ l, isG V x = false
  | [] => by simp [allG]
  | t :: l => by
    rw [allG, Bool.and_eq_false_iff, allG_false (l := l)]
    simp
def checkG (V : List Int) (t : Tm) : Int := if t.chk = 0 then (if isG V t then 0 else 10) else 2
end Go.Av
end

section
namespace Go.Av
theorem chk_zero {t : Tm} : t.chk = 0 ↔ t.parts = true ∧ t.words ≤ 65536 := by
  unfold Tm.chk chkS
  simp only [partsL, wordsL, Bool.and_true, Nat.zero_add, Nat.add_zero]
  cases h : t.parts with
  | false => simp
  | true =>
    simp
theorem wL_parts (l : List Tm) (h : ∀ x ∈ l, x.parts = true → x.w ≤ 65 * x.words) : partsL l = true → wL l ≤ 65 * wordsL l := by
  induction l with
  | nil => intro _; simp
  | cons x l ih =>
    intro hp
    rw [partsL, Bool.and_eq_true] at hp
    have h1 := h x (by simp) hp.1
    have h2 := ih (fun y hy => h y (by simp [hy])) hp.2
    rw [wL_cons, wordsL]; omega
theorem sound_str {k n : Int} {s : List UInt8} {m : Nat} (h : soundB k n s m = true) : s.length ≤ 64 ∧ m ≤ 64 := by
  unfold soundB at h
  repeat' split at h
  all_goals simp at h
  all_goals first | (obtain ⟨_, _, h3, h4⟩ := h; subst h3; simp; omega) | (obtain ⟨_, h3, h4⟩ := h; subst h3; simp; omega) | omega
theorem w_parts (t : Tm) : t.parts = true → t.w ≤ 65 * t.words := by
  induction t using Tm.ind with
  | _ k n s l ih =>
    intro hp
    rw [Tm.parts, Bool.and_eq_true] at hp
    have h1 := sound_str hp.1
    have h2 := wL_parts l ih hp.2
    have h3 := (Tm.mk k n s l).own_le
    rw [Tm.w_mk, Tm.words]; omega
theorem w_chk {t : Tm} (h : t.chk = 0) : t.w ≤ 4259840 := by
  obtain ⟨h1, h2⟩ := chk_zero.1 h
  have := w_parts t h1
  omega
theorem subs_chk {t : Tm} (h : t.chk = 0) : t.subs.length ≤ 64 := by
  obtain ⟨h1, _⟩ := chk_zero.1 h
  rw [Tm.parts_eq, Bool.and_eq_true] at h1
  exact (sound_str h1.1).2
theorem wordsL_mem {x : Tm} {l : List Tm} (h : x ∈ l) : x.words ≤ wordsL l := by
  induction l with
  | nil => cases h
  | cons y l ih =>
    rw [wordsL]
    rcases List.mem_cons.1 h with rfl | h
    · omega
    · have := ih h; omega
theorem partsL_mem {l : List Tm} (h : partsL l = true) : ∀ x ∈ l, x.parts = true := by
  induction l with
  | nil => intro x hx; cases hx
  | cons y l ih =>
    intro x hx
    rw [partsL, Bool.and_eq_true] at h
    rcases List.mem_cons.1 hx with rfl | hx
    · exact h.1
    · exact ih h.2 x hx
theorem chk_sub {t x : Tm} (h : t.chk = 0) (hx : x ∈ t.subs) : x.chk = 0 := by
  obtain ⟨h1, h2⟩ := chk_zero.1 h
  rw [Tm.parts_eq, Bool.and_eq_true] at h1
  have := wordsL_mem hx
  rw [Tm.words_eq] at h2
  exact chk_zero.2 ⟨partsL_mem h1.2 x hx, by omega⟩
theorem cons_chk {t : Tm} (h : t.chk = 0) (hk : t.kind = 9) : ∃ a b, t.subs = [a, b] := by
  obtain ⟨h1, _⟩ := chk_zero.1 h
  rw [Tm.parts_eq, Bool.and_eq_true] at h1
  have h2 : soundB t.kind t.num t.str t.subs.length = true := h1.1
  rw [hk] at h2
  simp [soundB] at h2
  match hl : t.subs, h2.2.2 with
  | [a, b], _ => exact ⟨a, b, rfl⟩
theorem int_chk {t : Tm} (h : t.chk = 0) (hk : t.kind = 1) : InB t.num ∧ t = numT t.num := by
  obtain ⟨h1, _⟩ := chk_zero.1 h
  obtain ⟨k, n, s, l⟩ := t
  simp only [Tm.kind_mk] at hk
  subst hk
  rw [Tm.parts_eq, Bool.and_eq_true] at h1
  have h2 : soundB 1 n s l.length = true := h1.1
  simp [soundB] at h2
  obtain ⟨a, b, c, d⟩ := h2
  subst c d
  exact ⟨⟨a, b⟩, rfl⟩
def wholeO (t : Tm) : Option Tm := if t.chk = 0 then some t else none
theorem wholeO_chk {t v : Tm} (h : wholeO t = some v) : v.chk = 0 ∧ v = t := by
  unfold wholeO at h
  split at h
  · rename_i hc; cases h; exact ⟨hc, rfl⟩
  · cases h
def lenT : Nat → Tm → Option Nat
  | 0, _ => none
  | n + 1, t => if t.kind = 9 then (match t.subs with | [_, b] => (lenT n b).map (· + 1) | _ => none) else if t.kind = 8 then some 0 else none
def lenG (t : Tm) : Option Nat := lenT t.w t
theorem lenT_le : ∀ (n : Nat) (t : Tm) (m : Nat), lenT n t = some m → m ≤ n
  | 0, _, _, h => by cases h
  | n + 1, t, m, h => by
    rw [lenT] at h
    split at h
    · split at h
      · obtain ⟨x, h1, rfl⟩ := Option.map_eq_some_iff.1 h
        have := lenT_le n _ x h1
        omega
      · cases h
    · split at h
      · cases h; omega
      · cases h
theorem lenT_more : ∀ (n m : Nat) (t : Tm), t.w ≤ n → t.w ≤ m → lenT n t = lenT m t := by
  intro n
  induction n with
  | zero => intro m t h; have := w_pos t; omega
  | succ n ih =>
    intro m t hn hm
    obtain ⟨m, rfl⟩ : ∃ k, m = k + 1 := ⟨m - 1, by have := w_pos t; omega⟩
    rw [lenT, lenT]
    by_cases h9 : t.kind = 9
    · rw [if_pos h9, if_pos h9]
      have hw := t.w_eq
      cases hs : t.subs with
      | nil => rfl
      | cons a l =>
        cases l with
        | nil => rfl
        | cons b l =>
          cases l with
          | nil =>
            rw [hs] at hw
            simp only [wL_cons, wL_nil] at hw
            simp only []
            rw [ih m b (by omega) (by omega)]
          | cons c l => rfl
    · rw [if_neg h9, if_neg h9]
theorem lenG_cons {t a b : Tm} (hk : t.kind = 9) (hs : t.subs = [a, b]) : lenG t = (lenG b).map (· + 1) := by
  have hw := t.w_eq
  rw [hs] at hw
  simp only [wL_cons, wL_nil] at hw
  unfold lenG
  obtain ⟨n, hn⟩ : ∃ n, t.w = n + 1 := ⟨t.w - 1, by have := w_pos t; omega⟩
  rw [hn, lenT, if_pos hk, hs]
  simp only []
  rw [lenT_more n b.w b (by omega) (Nat.le_refl _)]
theorem lenG_nil {t : Tm} (hk : t.kind = 8) : lenG t = some 0 := by
  unfold lenG
  obtain ⟨n, hn⟩ : ∃ n, t.w = n + 1 := ⟨t.w - 1, by have := w_pos t; omega⟩
  rw [hn, lenT, if_neg (by omega), if_pos hk]
theorem lenG_none {t : Tm} (h9 : t.kind ≠ 9) (h8 : t.kind ≠ 8) : lenG t = none := by
  unfold lenG
  obtain ⟨n, hn⟩ : ∃ n, t.w = n + 1 := ⟨t.w - 1, by have := w_pos t; omega⟩
  rw [hn, lenT, if_neg h9, if_neg h8]
theorem lenG_le {t : Tm} {m : Nat} (h : lenG t = some m) : m ≤ t.w := lenT_le _ _ _ h
def oneG (op : List UInt8) (t : Tm) : Option Tm :=
  if op = [105, 115, 95, 97, 116, 111, 109] then some (truthT (decide (t.kind = 2)))
  else if op = [105, 115, 95, 105, 110, 116, 101, 103, 101, 114] then some (truthT (decide (t.kind = 1)))
  else if op = [105, 115, 95, 108, 105, 115, 116] then some (truthT (decide (t.kind = 9) || decide (t.kind = 8)))
  else if op = [105, 115, 95, 116, 117, 112, 108, 101] then some (truthT (decide (t.kind = 7)))
  else if op = [105, 115, 95, 112, 105, 100] then some (truthT (decide (t.kind = 6)))
  else if op = [105, 115, 95, 102, 117, 110, 99, 116, 105, 111, 110] then some (truthT (decide (t.kind = 5)))
  else if op = [105, 115, 95, 114, 101, 102, 101, 114, 101, 110, 99, 101] then some (truthT (decide (t.kind = 3) || decide (t.kind = 4)))
  else if op = [110, 111, 116] then (boolG t).map fun b => truthT (!b)
  else if op = [98, 110, 111, 116] then (if t.kind = 1 then withinG (-1 - t.num) else none)
  else if op = [43] then (if t.kind = 1 then withinG t.num else none)
  else if op = [45] then (if t.kind = 1 then withinG (-t.num) else none)
  else if op = [97, 98, 115] then (if t.kind = 1 then withinG (if t.num < 0 then -t.num else t.num) else none)
  else if op = [116, 117, 112, 108, 101, 95, 115, 105, 122, 101] then (if t.kind = 7 then withinG t.subs.length else none)
  else if op = [115, 105, 122, 101] then (if t.kind = 7 then withinG t.subs.length else none)
  else if op = [108, 101, 110, 103, 116, 104] then (lenG t).bind fun n => withinG n
  else if t.kind = 9 then (if op = [104, 100] then t.subs[0]? else t.subs[1]?)
  else none
def applyG (op : List UInt8) (l : List Tm) (self : Int) : Option Tm :=
  match l with
  | [a] => oneG op a
  | [a, b] => twoG op a b
  | _ => some (.mk 6 self [] [])
theorem withinG_chk {n : Int} {v : Tm} (h : withinG n = some v) : v.chk = 0 := by
  unfold withinG at h
  split at h
  · rename_i hb; cases h; exact numT_chk hb
  · cases h
theorem truthT_chk (b : Bool) : (truthT b).chk = 0 := by cases b <;> decide
def seqO : List (Option Tm) → Option (List Tm)
  | [] => some []
  | o :: l => o.bind fun x => (seqO l).map (x :: ·)
def listT (l : List Tm) : Tm := l.foldr (fun x e => .mk 9 0 [] [x, e]) (.mk 8 0 [] [])
def lazyG (an : Bool) : List (Option Tm) → Option Tm
  | a :: b :: _ => a.bind fun x => (boolG x).bind fun v => if v = an then (b.bind fun y => (boolG y).map fun _ => y) else some x
  | _ => none
mutual
/-- an expression's value -/
def valG (e : Env) : Tm → Option Tm
  | .mk k n s l =>
    if k = 2 then
      (match varT (.mk k n s l) with
       | some x => some ((lookB x e.binds).getD zeroT)
       | none => if s = [36, 95] then some e.obj else if s = [36, 36] then wholeO (listT (e.binds.map (·.2))) else some (.mk k n s l))
    else if k = 9 then (seqO (optsG e l)).bind fun ts => wholeO (.mk 9 0 [] ts)
    else if k = 7 then
      (match l with
       | [] => none
       | (.mk k1 _ s1 l1) :: rest =>
         if k1 = 7 then (seqO (optsG e l1)).bind fun ts => wholeO (.mk 7 0 [] ts)
         else if s1 = [99, 111, 110, 115, 116] then rest[0]?
         else if s1 = [97, 110, 100, 97, 108, 115, 111] then lazyG true (optsG e rest)
         else if s1 = [111, 114, 101, 108, 115, 101] then lazyG false (optsG e rest)
         else (seqO (optsG e rest)).bind fun ts => (applyG s1 ts e.self).bind wholeO)
    else some (.mk k n s l)
def optsG (e : Env) : List Tm → List (Option Tm)
  | [] => []
  | t :: l => valG e t :: optsG e l
end
theorem optsG_map (e : Env) : ∀ l : List Tm, optsG e l = l.map (valG e)
  | [] => rfl
  | t :: l => by rw [optsG, optsG_map e l]; rfl
theorem valG_atom {e : Env} {t : Tm} (h : t.kind = 2) : valG e t = match varT t with
    | some x => some ((lookB x e.binds).getD zeroT)
    | none => if t.str = [36, 95] then some e.obj else if t.str = [36, 36] then wholeO (listT (e.binds.map (·.2))) else some t := by
  obtain ⟨k, n, s, l⟩ := t
  simp only [Tm.kind_mk] at h
  rw [valG.eq_def]; simp only []; rw [if_pos h]; rfl
theorem valG_cons {e : Env} {t : Tm} (h : t.kind = 9) : valG e t = (seqO (optsG e t.subs)).bind fun ts => wholeO (.mk 9 0 [] ts) := by
  obtain ⟨k, n, s, l⟩ := t
  simp only [Tm.kind_mk] at h
  subst h
  rw [valG.eq_def]; simp only []; rw [if_neg (by omega), if_pos trivial]; rfl
theorem valG_tup {e : Env} {t f : Tm} {r : List Tm} (h : t.kind = 7) (hl : t.subs = f :: r) : valG e t =
    if f.kind = 7 then (seqO (optsG e f.subs)).bind fun ts => wholeO (.mk 7 0 [] ts)
    else if f.str = [99, 111, 110, 115, 116] then r[0]?
    else if f.str = [97, 110, 100, 97, 108, 115, 111] then lazyG true (optsG e r)
    else if f.str = [111, 114, 101, 108, 115, 101] then lazyG false (optsG e r)
    else (seqO (optsG e r)).bind fun ts => (applyG f.str ts e.self).bind wholeO := by
  obtain ⟨k, n, s, l⟩ := t
  obtain ⟨k1, n1, s1, l1⟩ := f
  simp only [Tm.kind_mk, Tm.subs_mk] at h hl
  subst h hl
  rw [valG.eq_def]; simp only []; rw [if_neg (by omega), if_neg (by omega), if_pos trivial]; rfl
theorem valG_other {e : Env} {t : Tm} (h2 : t.kind ≠ 2) (h9 : t.kind ≠ 9) (h7 : t.kind ≠ 7) : valG e t = some t := by
  obtain ⟨k, n, s, l⟩ := t
  simp only [Tm.kind_mk] at h2 h9 h7
  rw [valG.eq_def]; simp only []; rw [if_neg h2, if_neg h9, if_neg h7]
structure EnvOk (e : Env) : Prop where
  obj : e.obj.chk = 0
  may : mayB (-1) e.binds = true
  self : selfG e.self = true
theorem mayB_len : ∀ {l : List (Int × Tm)} {last : Int}, mayB last l = true → (l.length : Int) ≤ max 0 (99 - last)
  | [], _, _ => by simp; omega
  | p :: l, last, h => by
    simp only [mayB, Bool.and_eq_true, decide_eq_true_eq] at h
    have := mayB_len h.2.2.2
    simp only [List.length_cons]
    omega
theorem mayB_chk : ∀ {l : List (Int × Tm)} {last : Int}, mayB last l = true → ∀ p ∈ l, p.2.chk = 0
  | [], _, _, p, hp => by cases hp
  | q :: l, last, h, p, hp => by
    simp only [mayB, Bool.and_eq_true, decide_eq_true_eq] at h
    rcases List.mem_cons.1 hp with rfl | hp
    · exact h.2.2.1
    · exact mayB_chk h.2.2.2 p hp
theorem EnvOk.len {e : Env} (h : EnvOk e) : e.binds.length ≤ 100 := by have := mayB_len h.may; omega
def namesG (e : Env) : List Int := e.binds.map (·.1)
theorem lookB_some {n : Int} : ∀ {m : List (Int × Tm)}, n ∈ m.map (·.1) → ∃ t, lookB n m = some t
  | [], h => by cases h
  | q :: m, h => by
    rw [lookB]
    by_cases hq : q.1 = n
    · exact ⟨q.2, by rw [if_pos hq]⟩
    · rw [if_neg hq]
      rw [List.map_cons, List.mem_cons] at h
      exact lookB_some (h.resolve_left fun h => hq h.symm)
theorem allG_mem {V : List Int} {l : List Tm} (h : allG V l = true) : ∀ x ∈ l, isG V x = true := by
  intro x hx
  cases hg : isG V x with
  | true => rfl
  | false => rw [allG_false.2 ⟨x, hx, hg⟩] at h; cases h
theorem seqO_mem : ∀ {l : List (Option Tm)} {ts : List Tm}, seqO l = some ts → l = ts.map some
  | [], ts, h => by cases h; rfl
  | o :: l, ts, h => by
    rw [seqO] at h
    obtain ⟨x, hx, h⟩ := Option.bind_eq_some_iff.1 h
    obtain ⟨r, hr, rfl⟩ := Option.map_eq_some_iff.1 h
    rw [hx, seqO_mem hr]; rfl
theorem valG_chk {e : Env} (he : EnvOk e) : ∀ (n : Nat) (t : Tm), t.w ≤ n → t.chk = 0 → isG (namesG e) t = true → ∀ v, valG e t = some v → v.chk = 0 := by
  intro n
  induction n with
  | zero => intro t h; have := w_pos t; omega
  | succ n ih =>
    intro t hw hc hg v hv
    have hwe := t.w_eq
    by_cases h2 : t.kind = 2
    · rw [valG_atom h2] at hv
      rw [isG_atom h2] at hg
      cases hx : varT t with
      | some x =>
        rw [hx] at hv hg
        obtain ⟨y, hy⟩ := lookB_some (of_decide_eq_true hg)
        simp only [hy, Option.getD_some] at hv
        cases hv
        exact mayB_chk he.may _ (lookB_mem hy)
      | none =>
        rw [hx] at hv
        simp only [] at hv
        split at hv
        · cases hv; exact he.obj
        · split at hv
          · exact (wholeO_chk hv).1
          · cases hv; exact hc
    by_cases h9 : t.kind = 9
    · rw [valG_cons h9] at hv
      obtain ⟨ts, _, h⟩ := Option.bind_eq_some_iff.1 hv
      exact (wholeO_chk h).1
    by_cases h7 : t.kind = 7
    · cases hl : t.subs with
      | nil => rw [isG_nil h7 hl] at hg; cases hg
      | cons f r =>
        have hr : ∀ x ∈ r, x.w ≤ n ∧ x.chk = 0 := fun x hx => by
          have h1 : x ∈ t.subs := by rw [hl]; simp [hx]
          have h2 := wL_mem h1
          exact ⟨by omega, chk_sub hc h1⟩
        rw [valG_tup h7 hl] at hv
        rw [isG_tup h7 hl] at hg
        by_cases f7 : f.kind = 7
        · rw [if_pos f7] at hv
          obtain ⟨ts, _, h⟩ := Option.bind_eq_some_iff.1 hv
          exact (wholeO_chk h).1
        rw [if_neg f7] at hv hg
        by_cases f2 : f.kind = 2
        · rw [if_pos f2] at hg
          by_cases hk : f.str = [99, 111, 110, 115, 116]
          · rw [if_pos hk] at hv
            exact (hr v (List.mem_of_getElem? hv)).2
          rw [if_neg hk] at hv hg
          rw [Bool.and_eq_true] at hg
          have hlz : ∀ an, lazyG an (optsG e r) = some v → v.chk = 0 := by
            intro an h
            rw [optsG_map] at h
            match r, hr, hg.2 with
            | [], _, _ => cases h
            | [a], _, _ => cases h
            | a :: b :: q, hr, hg2 =>
              simp only [List.map_cons, lazyG] at h
              obtain ⟨x, hx, h⟩ := Option.bind_eq_some_iff.1 h
              obtain ⟨bb, _, h⟩ := Option.bind_eq_some_iff.1 h
              have hga := allG_mem hg2
              split at h
              · obtain ⟨y, hy, h⟩ := Option.bind_eq_some_iff.1 h
                obtain ⟨_, _, rfl⟩ := Option.map_eq_some_iff.1 h
                exact ih b (hr b (by simp)).1 (hr b (by simp)).2 (hga b (by simp)) _ hy
              · cases h
                exact ih a (hr a (by simp)).1 (hr a (by simp)).2 (hga a (by simp)) _ hx
          split at hv
          · exact hlz _ hv
          split at hv
          · exact hlz _ hv
          obtain ⟨ts, _, h⟩ := Option.bind_eq_some_iff.1 hv
          obtain ⟨w, _, h⟩ := Option.bind_eq_some_iff.1 h
          exact (wholeO_chk h).1
        · rw [if_neg f2] at hg; cases hg
    · rw [valG_other h2 h9 h7] at hv
      cases hv; exact hc
theorem seqO_chk {e : Env} (he : EnvOk e) {l ts : List Tm} (hl : ∀ x ∈ l, x.chk = 0 ∧ isG (namesG e) x = true) (h : seqO (optsG e l) = some ts) : ∀ x ∈ ts, x.chk = 0 := by
  have := seqO_mem h
  rw [optsG_map] at this
  intro x hx
  have hm : some x ∈ l.map (valG e) := by rw [this]; exact List.mem_map_of_mem hx
  obtain ⟨y, hy, hv⟩ := List.mem_map.1 hm
  exact valG_chk he _ y (Nat.le_refl _) (hl y hy).1 (hl y hy).2 x hv
theorem seqO_len {e : Env} {l ts : List Tm} (h : seqO (optsG e l) = some ts) : ts.length = l.length := by
  have := congrArg List.length (seqO_mem h)
  rw [optsG_map] at this
  simpa using this.symm
def envG (e : Env) : Bool := mayB (-1) e.binds && (decide (e.obj.chk = 0) && selfG e.self)
theorem envG_ok {e : Env} : envG e = true ↔ EnvOk e := by
  unfold envG
  constructor
  · intro h
    rw [Bool.and_eq_true, Bool.and_eq_true, decide_eq_true_eq] at h
    exact ⟨h.2.1, h.1, h.2.2⟩
  · rintro ⟨h1, h2, h3⟩
    rw [h2, h3, decide_eq_true h1]; rfl
def evalG (e : Env) (t : Tm) : Tm × Int := if envG e && decide (checkG (namesG e) t = 0) then (match valG e t with | some v => (v, 0) | none => (zeroT, 10)) else (zeroT, 2)
def trueG (e : Env) (t : Tm) : Bool := decide ((evalG e t).2 = 0) && (decide ((evalG e t).1.kind = 2) && decide ((evalG e t).1.str = tru))
def holdsG (e : Env) (l : List Tm) : Bool := l.all (trueG e) && envG e
theorem checkG_zero {V : List Int} {t : Tm} (h : checkG V t = 0) : t.chk = 0 ∧ isG V t = true := by
  unfold checkG at h
  split at h
  · rename_i h0
    split at h
    · rename_i h1; exact ⟨h0, h1⟩
    · cases h
  · cases h
end Go.Av
end

section
namespace Go.Proofs.YtogebohommickaaGreat
open Go.Av
set_option maxRecDepth 100000
set_option maxHeartbeats 0

noncomputable def Ls41_0 : Den := evC cfg (EV cfg) 22 none 0 (sub (bodyOf Tryz.f22) [1, 1, 1, 0, 1, 0, 0])
noncomputable def As41_0 : Ex × List AV × AH → Option AV := kAft (Cfg.keepOut cfg 22 4) (kRun cfg (EV cfg) (kfN cfg 6) 22 none 0 (kFinF cfg (Cfg.lift cfg 22 0) Tryz.f22.results.toList) ([.block 0, .seq (sub (bodyOf Tryz.f22) [1, 1, 1, 1])]))
noncomputable def Ws41_0 : List AV × AH → Option AV := fun p => kOpt (LOOP 0 (some [1, 4, 5, 9, 10, 11]) ([(4, 1)]) Ls41_0 p) As41_0
noncomputable def Ls62_0 : Den := evC cfg (EV cfg) 56 none 1 (sub (bodyOf Tryz.f56) [1, 1, 0, 1, 0, 0])
noncomputable def As62_0 : Ex × List AV × AH → Option (AV × List (List AV)) := kAft (Cfg.keepOut cfg 56 (firstRid (sub (bodyOf Tryz.f56) [1, 1, 0, 1, 0, 0]))) (kBlock 0 (kSeq (fun (fr : List AV) (H : AH) => kCutTo (Cfg.cut cfg 56 (firstRid (sub (bodyOf Tryz.f56) [1, 1, 1]))) fr H fun (fr : List AV) (H : AH) => kCode cfg (EV cfg) (kfN cfg 6) 56 none 1 (sub (bodyOf Tryz.f56) [1, 1, 1]) fr H (kFinD cfg 7 (Cfg.lift cfg 56 0) (Array.toList (Func.results Tryz.f56)))) (kFinD cfg 7 (Cfg.lift cfg 56 0) (Array.toList (Func.results Tryz.f56)))))
noncomputable def Ws62_0 : List AV × AH → Option (AV × List (List AV)) := fun (p : List AV × AH) => kOpt (LOOP 1 (some [0, 5, 8, 9, 10]) [(5, 4)] Ls62_0 p) As62_0
noncomputable def Ls61_0 : Den := evC cfg (EV cfg) 55 none 1 (sub (bodyOf Tryz.f55) [1, 1, 0, 1, 0, 0])
noncomputable def As61_0 : Ex × List AV × AH → Option (AV × List (List AV)) := kAft (Cfg.keepOut cfg 55 (firstRid (sub (bodyOf Tryz.f55) [1, 1, 0, 1, 0, 0]))) (kBlock 0 (kSeq (fun (fr : List AV) (H : AH) => kCutTo (Cfg.cut cfg 55 (firstRid (sub (bodyOf Tryz.f55) [1, 1, 1]))) fr H fun (fr : List AV) (H : AH) => kCode cfg (EV cfg) (kfN cfg 6) 55 none 1 (sub (bodyOf Tryz.f55) [1, 1, 1]) fr H (kFinD cfg 7 (Cfg.lift cfg 55 0) (Array.toList (Func.results Tryz.f55)))) (kFinD cfg 7 (Cfg.lift cfg 55 0) (Array.toList (Func.results Tryz.f55)))))
noncomputable def Ws61_0 : List AV × AH → Option (AV × List (List AV)) := fun (p : List AV × AH) => kOpt (LOOP 1 (some [2, 3, 10, 11, 12]) [(3, 4)] Ls61_0 p) As61_0
noncomputable def Ls25_0 : Den := evC cfg (EV cfg) 16 none 0 (sub (bodyOf Tryz.f16) [1, 1, 0, 1, 0, 0])
noncomputable def As25_0 : Ex × List AV × AH → Option AV := kAft (Cfg.keepOut cfg 16 3) (kRun cfg (EV cfg) (kfN cfg 6) 16 none 0 (kFinS cfg (Cfg.lift cfg 16 0) Tryz.f16.results.toList) ([.block 0, .seq (sub (bodyOf Tryz.f16) [1, 1, 1])]))
noncomputable def Ws25_0 : List AV × AH → Option AV := fun p => kOpt (LOOP 0 (some [3, 6, 16, 17, 18]) ([]) Ls25_0 p) As25_0
noncomputable def Ls78_0 : Den := evC cfg (EV cfg) 109 none 4 (sub (bodyOf Tryz.f109) [1, 0, 0])
noncomputable def As78_0 : Ex × List AV × AH → Option AV := kAft (Cfg.keepOut cfg 109 (firstRid (sub (bodyOf Tryz.f109) [1, 0, 0]))) (kBlock 0 (kFinG cfg (Cfg.lift cfg 109 0) (fun (v : AV) (H : AH) => (fun (r : AV × AH) => kRangeEnd 0 3 (fx 16 [(3, AV.ptr 0 0 0), (4, AV.ptr 1 0 0)]) (kBlock 0 (kSeq (fun (fr : List AV) (H : AH) => kCutTo (Cfg.cut cfg 84 (firstRid (sub (bodyOf Tryz.f84) [1, 1]))) fr H fun (fr : List AV) (H : AH) => kCode cfg (EV cfg) (kfN cfg 6) 84 none 0 (sub (bodyOf Tryz.f84) [1, 1]) fr H (kFinF cfg (Cfg.lift cfg 84 0) (Array.toList (Func.results Tryz.f84)))) (kFinF cfg (Cfg.lift cfg 84 0) (Array.toList (Func.results Tryz.f84))))) (Prod.snd r)) (v, H)) (Array.toList (Func.results (Prod.snd (109, Tryz.f109))))))
noncomputable def Ws78_0 : List AV × AH → Option AV := fun (p : List AV × AH) => kOpt (LOOP 4 (some [0, 1, 3]) [] Ls78_0 p) As78_0
noncomputable abbrev ws41_0 (bd : List (List AV)) (nv4 : Nat) (v5 : Int) (v11 : Int) (c0_0 : Int) (c0_1 : Int) (c0_2 : List UInt8) (c0_3 : List (List AV)) (c0_4 : List (List AV)) (c0_5 : Int) (h1 : List (List AV)) : Option (AV) := Ws41_0  (((fx 48 [(1, AV.ptr (0 : Nat) (0 : Nat) (0 : Nat)), (4, AV.ms (1 : Nat) (0 : Nat) nv4), (5, AV.int IntKind.i64 v5), (9, AV.sl bd), (10, AV.int IntKind.i64 (↑(List.length bd) : Int)), (11, AV.int IntKind.i64 v11)]) : List AV), ([ABlk.rows false (6 : Nat) [[AV.int IntKind.i64 c0_0, AV.int IntKind.i64 c0_1, AV.str c0_2, AV.sl c0_3, AV.sl c0_4, AV.int IntKind.i64 c0_5]], ABlk.rows true (1 : Nat) h1] : AH))
noncomputable abbrev ws62_0 (L : List (List AV)) (nv5 : Nat) (v10 : Int) (h0 : List (List AV)) (h1 : List (List AV)) : Option (AV × List (List AV)) := Ws62_0  (((fx 26 [(0, AV.ptr (0 : Nat) (0 : Nat) (0 : Nat)), (5, AV.ms (1 : Nat) (0 : Nat) nv5), (8, AV.sl L), (9, AV.int IntKind.i64 (↑(List.length L) : Int)), (10, AV.int IntKind.i64 v10)]) : List AV), ([ABlk.rows true (7 : Nat) h0, ABlk.rows true (4 : Nat) h1] : AH))
noncomputable abbrev ws61_0 (bd : List (List AV)) (nv3 : Nat) (v12 : Int) (h0 : List (List AV)) (c1_0 : Int) (c1_1 : Int) (c1_2 : List UInt8) (c1_3 : List (List AV)) (h2 : List (List AV)) : Option (AV × List (List AV)) := Ws61_0  (((fx 25 [(2, AV.ptr (1 : Nat) (0 : Nat) (0 : Nat)), (3, AV.ms (2 : Nat) (0 : Nat) nv3), (10, AV.sl bd), (11, AV.int IntKind.i64 (↑(List.length bd) : Int)), (12, AV.int IntKind.i64 v12)]) : List AV), ([ABlk.rows true (7 : Nat) h0, ABlk.rows false (4 : Nat) [[AV.int IntKind.i64 c1_0, AV.int IntKind.i64 c1_1, AV.str c1_2, AV.sl c1_3]], ABlk.rows true (4 : Nat) h2] : AH))
noncomputable abbrev ws25_0 (L : List (List AV)) (b : Bool) (v18 : Int) (c0_0 : Int) (c0_1 : Int) (c0_2 : List UInt8) (c0_3 : List (List AV)) (c0_4 : List (List AV)) (c0_5 : Int) : Option (AV) := Ws25_0  (((fx 42 [(3, AV.ptr (0 : Nat) (0 : Nat) (0 : Nat)), (6, AV.bool b), (16, AV.sl L), (17, AV.int IntKind.i64 (↑(List.length L) : Int)), (18, AV.int IntKind.i64 v18)]) : List AV), ([ABlk.rows false (6 : Nat) [[AV.int IntKind.i64 c0_0, AV.int IntKind.i64 c0_1, AV.str c0_2, AV.sl c0_3, AV.sl c0_4, AV.int IntKind.i64 c0_5]]] : AH))
noncomputable abbrev ws78_0 (v3 : Int) (c0_0 : Int) (c0_1 : Int) (c0_2 : List UInt8) (c0_3 : List (List AV)) (c1_0 : Int) (c1_1 : Int) (c1_2 : List UInt8) (c1_3 : List (List AV)) (c2_0 : List (List AV)) : Option (AV) := Ws78_0  (((fx 19 [(0, AV.yld (3 : Nat)), (1, AV.ptr (2 : Nat) (0 : Nat) (0 : Nat)), (3, AV.int IntKind.i64 v3)]) : List AV), ([ABlk.rows false (4 : Nat) [[AV.int IntKind.i64 c0_0, AV.int IntKind.i64 c0_1, AV.str c0_2, AV.sl c0_3]], ABlk.rows false (4 : Nat) [[AV.int IntKind.i64 c1_0, AV.int IntKind.i64 c1_1, AV.str c1_2, AV.sl c1_3]], ABlk.rows false (1 : Nat) [[AV.sl c2_0]], rngB Tryz.f84 (84 : Nat) [(1 : Nat), (0 : Nat), (1 : Nat), (0 : Nat)] (fx 16 [(3, AV.ptr (0 : Nat) (0 : Nat) (0 : Nat))]) none LoopState.ready] : AH))
theorem guardMay_run (ke : Int) (ne : Int) (se : List UInt8) (le : List (List AV)) (bd : List (List AV)) (self : Int) {P : AV → Prop} (h : Gets (ws41_0 bd 0 (-1 : Int) (0 : Int) ke ne se le bd self []) P) : Gets (EVf (EV cfg) 22 ([AV.agg [AV.int IntKind.i64 ke, AV.int IntKind.i64 ne, AV.str se, AV.sl le, AV.sl bd, AV.int IntKind.i64 self]] : List AV)) P :=
  Gets.ev (fun _ h => funF rfl rfl Tryz.func22 rfl h) (Gets.eq (by kernel_rfl) h)
theorem guardIs_run (kt : Int) (nt : Int) (st : List UInt8) (lt : List (List AV)) (V : List (List AV)) {P : AV → Prop} (h : Gets (bif kt == (2 : Int) then kOpt (EVs (EV cfg) 52 [.agg [.int .i64 kt, .int .i64 nt, .str st, .sl lt]]) fun (v : AV) => kTup v fun (cs : List AV) => kCons cs fun (c : AV) (cs : List AV) 
  => kInt .i64 c fun (n : Int) => kCons cs fun (c : AV) (cs : List AV) => kBool c fun (b : Bool) => kNil cs (bif !b then some (.bool true) else kOpt (EVs (EV cfg) 41 [.sl V, .int .i64 
  n]) fun (v : AV) => kBool v fun (b : Bool) => some (.bool b)) else bif kt == (9 : Int) then kOpt (EVs (EV cfg) 78 [.sl lt, .sl V]) fun (v : AV) => kBool v fun (b : Bool) => some (.bool 
  b) else bif kt == (7 : Int) then bif (↑(List.length lt) : Int) == (0 : Int) then some (.bool false) else bif ltInt (0 : Int) (↑(List.length lt) : Int) then kOpt (List.get?Internal lt 
  0) fun (row : List AV) => bif Nat.beq (List.length row) 4 then bif Nat.ble 4 (List.length row) then kTmC (List.take 4 row) fun (n n_1 : Int) (s : List UInt8) (rows : List (List AV)) 
  => (bif leInt (1 : Int) (↑(List.length lt) : Int) then bif rowsOk 4 lt then bif n == (7 : Int) then bif (↑(List.length (List.take (List.length lt - 1) (List.drop 1 lt))) : Int) == (0 
  : Int) then kOpt (EVs (EV cfg) 78 [.sl rows, .sl V]) fun (v : AV) => kBool v fun (b : Bool) => some (.bool b) else some (.bool false) else bif n != (2 : Int) then some (.bool false) 
  else bif s == [(99 : UInt8), (111 : UInt8), (110 : UInt8), (115 : UInt8), (116 : UInt8)] then some (.bool ((↑(List.length (List.take (List.length lt - 1) (List.drop 1 lt))) : Int) == 
  (1 : Int))) else kOpt (EVf (EV cfg) 42 [.str s]) fun (v : AV) => kSl v fun (rows : List (List AV)) => kOpt (EVs (EV cfg) 41 [.sl rows, .int .i64 (↑(List.length (List.take (List.length 
  lt - 1) (List.drop 1 lt))) : Int)]) fun (v : AV) => kBool v fun (b : Bool) => bif b then kOpt (EVs (EV cfg) 78 [.sl (List.take (List.length lt - 1) (List.drop 1 lt)), .sl V]) fun (v 
  : AV) => kBool v fun (b : Bool) => some (.bool b) else some (.bool false) else none else none) else none else none else none else some (.bool true)) P) : Gets (EVs (EV cfg) 51 ([AV.agg [AV.int IntKind.i64 kt, AV.int IntKind.i64 nt, AV.str st, AV.sl lt], AV.sl V] : List AV)) P :=
  Gets.ev (fun _ h => funS rfl rfl Tryz.func51 rfl h) (Gets.eq (by kernel_rfl) h)
theorem guardAll_run (L : List (List AV)) (V : List (List AV)) {P : AV → Prop} (h : Gets (kOpt (EVs (EV cfg) 106 [.sl L, AV.fn (Fn.func 107) [] [AV.cptr [.sl V] 0]]) fun (v : AV) => kBool v fun (b : Bool) => some (.bool !b)) P) : Gets (EVs (EV cfg) 78 ([AV.sl L, AV.sl V] : List AV)) P :=
  Gets.ev (fun _ h => funS rfl rfl Tryz.func78 rfl h) (Gets.eq (by kernel_rfl) h)
theorem guardCheck_run (kt : Int) (nt : Int) (st : List UInt8) (lt : List (List AV)) (V : List (List AV)) {P : AV → Prop} (h : Gets (kOpt (EVs (EV cfg) 44 [.agg [.int .i64 kt, .int .i64 nt, .str st, .sl lt]]) fun (v : AV) => kInt .i64 v fun (n : Int) => bif n != (0 : Int) then some (.int .i64 (2 : Int)) else kOpt 
  (EVs (EV cfg) 51 [.agg [.int .i64 kt, .int .i64 nt, .str st, .sl lt], .sl V]) fun (v : AV) => kBool v fun (b : Bool) => bif !b then some (.int .i64 (10 : Int)) else some (.int .i64 
  (0 : Int))) P) : Gets (EVs (EV cfg) 23 ([AV.agg [AV.int IntKind.i64 kt, AV.int IntKind.i64 nt, AV.str st, AV.sl lt], AV.sl V] : List AV)) P :=
  Gets.ev (fun _ h => funS rfl rfl Tryz.func23 rfl h) (Gets.eq (by kernel_rfl) h)
theorem mWhole_run (ke : Int) (ne : Int) (se : List UInt8) (le : List (List AV)) (bd : List (List AV)) (self : Int) (bad : Bool) (kt : Int) (nt : Int) (st : List UInt8) (lt : List (List AV)) {P : AV × List (List AV) → Prop} (h : Gets (bif bad then kOpt (EVd (EV cfg) 83 [.ptr 0 0 0] 7 [[.int .i64 ke, .int .i64 ne, .str se, .sl le, .sl bd, .int .i64 self, .bool bad]]) fun (q : AV × List (List AV)) => kTmV q.1 fun (n 
  n_1 : Int) (s : List UInt8) (rows : List (List AV)) => (some (.agg [.int .i64 n, .int .i64 n_1, .str s, .sl rows], q.2)) else kOpt (EVs (EV cfg) 44 [.agg [.int .i64 kt, .int .i64 nt, 
  .str st, .sl lt]]) fun (v : AV) => kInt .i64 v fun (n : Int) => bif n != (0 : Int) then kOpt (EVd (EV cfg) 83 [.ptr 0 0 0] 7 [[.int .i64 ke, .int .i64 ne, .str se, .sl le, .sl bd, .int 
  .i64 self, .bool bad]]) fun (q : AV × List (List AV)) => kTmV q.1 fun (n n_1 : Int) (s : List UInt8) (rows : List (List AV)) => (some (.agg [.int .i64 n, .int .i64 n_1, .str s, .sl 
  rows], q.2)) else some (.agg [.int .i64 kt, .int .i64 nt, .str st, .sl lt], [[.int .i64 ke, .int .i64 ne, .str se, .sl le, .sl bd, .int .i64 self, .bool bad]])) P) : Gets (EVd (EV cfg) 54 ([AV.ptr (0 : Nat) (0 : Nat) (0 : Nat), AV.agg [AV.int IntKind.i64 kt, AV.int IntKind.i64 nt, AV.str st, AV.sl lt]] : List AV) 7 [[AV.int .i64 ke, AV.int .i64 ne, AV.str se, AV.sl le, AV.sl bd, AV.int .i64 self, AV.bool bad]]) P :=
  Gets.ev (fun _ h => funD rfl rfl Tryz.func54 rfl h) (Gets.eq (by kernel_rfl) h)
theorem mValues_run (ke : Int) (ne : Int) (se : List UInt8) (le : List (List AV)) (bd : List (List AV)) (self : Int) (bad : Bool) (L : List (List AV)) {P : AV × List (List AV) → Prop} (h : Gets (ws62_0 L 0 (0 : Int) [[.int .i64 ke, .int .i64 ne, .str se, .sl le, .sl bd, .int .i64 self, .bool bad]] []) P) : Gets (EVd (EV cfg) 56 ([AV.ptr (0 : Nat) (0 : Nat) (0 : Nat), AV.sl L] : List AV) 7 [[AV.int .i64 ke, AV.int .i64 ne, AV.str se, AV.sl le, AV.sl bd, AV.int .i64 self, AV.bool bad]]) P :=
  Gets.ev (fun _ h => funD rfl rfl Tryz.func56 rfl h) (Gets.eq (by kernel_rfl) h)
theorem mValue_run (ke : Int) (ne : Int) (se : List UInt8) (le : List (List AV)) (bd : List (List AV)) (self : Int) (bad : Bool) (kt : Int) (nt : Int) (st : List UInt8) (lt : List (List AV)) {P : AV × List (List AV) → Prop} (h : Gets (bif kt == (2 : Int) then kOpt (EVs (EV cfg) 52 [.agg [.int .i64 kt, .int .i64 nt, .str st, .sl lt]]) fun (v : AV) => kTup v fun (cs : List AV) => kCons cs fun (c : AV) (cs : List AV) 
  => kInt .i64 c fun (n : Int) => kCons cs fun (c : AV) (cs : List AV) => kBool c fun (b : Bool) => kNil cs (bif b then kOpt (EVf (EV cfg) 53 [.sl bd, .int .i64 n]) fun (v : AV) => kTup 
  v fun (cs : List AV) => kCons cs fun (c : AV) (cs : List AV) => kAgg c fun (cs_1 : List AV) => kCons cs_1 fun (c : AV) (cs_2 : List AV) => kInt .i64 c fun (n : Int) => kCons cs_2 fun 
  (c : AV) (cs_3 : List AV) => kInt .i64 c fun (n_1 : Int) => kCons cs_3 fun (c : AV) (cs_4 : List AV) => kStr c fun (s : List UInt8) => kCons cs_4 fun (c : AV) (cs_5 : List AV) => kSl 
  c fun (rows : List (List AV)) => kNil cs_5 (kCons cs fun (c : AV) (cs : List AV) => kBool c fun (b : Bool) => kNil cs (some (.agg [.int .i64 n, .int .i64 n_1, .str s, .sl rows], [[.int 
  .i64 ke, .int .i64 ne, .str se, .sl le, .sl bd, .int .i64 self, .bool bad]]))) else bif st == [(36 : UInt8), (95 : UInt8)] then some (.agg [.int .i64 ke, .int .i64 ne, .str se, .sl 
  le], [[.int .i64 ke, .int .i64 ne, .str se, .sl le, .sl bd, .int .i64 self, .bool bad]]) else bif st == [(36 : UInt8), (36 : UInt8)] then kOpt (EVd (EV cfg) 55 [.ptr 0 0 0] 7 [[.int 
  .i64 ke, .int .i64 ne, .str se, .sl le, .sl bd, .int .i64 self, .bool bad]]) fun (q : AV × List (List AV)) => kTmV q.1 fun (n n_1 : Int) (s : List UInt8) (rows : List (List AV)) => 
  (kOpt (EVd (EV cfg) 54 [.ptr 0 0 0, .agg [.int .i64 n, .int .i64 n_1, .str s, .sl rows]] 7 q.2) fun (q : AV × List (List AV)) => kTmV q.1 fun (n n_2 : Int) (s : List UInt8) (rows : 
  List (List AV)) => (some (.agg [.int .i64 n, .int .i64 n_2, .str s, .sl rows], q.2))) else some (.agg [.int .i64 kt, .int .i64 nt, .str st, .sl lt], [[.int .i64 ke, .int .i64 ne, .str 
  se, .sl le, .sl bd, .int .i64 self, .bool bad]])) else bif kt == (9 : Int) then kOpt (EVd (EV cfg) 56 [.ptr 0 0 0, .sl lt] 7 [[.int .i64 ke, .int .i64 ne, .str se, .sl le, .sl bd, .int 
  .i64 self, .bool bad]]) fun (q : AV × List (List AV)) => kSl q.1 fun (rows : List (List AV)) => kOpt (EVd (EV cfg) 54 [.ptr 0 0 0, .agg [.int .i64 (9 : Int), .int .i64 (0 : Int), .str 
  [], .sl rows]] 7 q.2) fun (q : AV × List (List AV)) => kTmV q.1 fun (n n_1 : Int) (s : List UInt8) (rows : List (List AV)) => (some (.agg [.int .i64 n, .int .i64 n_1, .str s, .sl rows], 
  q.2)) else bif kt == (7 : Int) then bif ltInt (0 : Int) (↑(List.length lt) : Int) then kOpt (List.get?Internal lt 0) fun (row : List AV) => bif Nat.beq (List.length row) 4 then bif 
  Nat.ble 4 (List.length row) then kTmC (List.take 4 row) fun (n n_1 : Int) (s : List UInt8) (rows : List (List AV)) => (bif n == (7 : Int) then kOpt (EVd (EV cfg) 56 [.ptr 0 0 0, .sl 
  rows] 7 [[.int .i64 ke, .int .i64 ne, .str se, .sl le, .sl bd, .int .i64 self, .bool bad]]) fun (q : AV × List (List AV)) => kSl q.1 fun (rows : List (List AV)) => kOpt (EVd (EV cfg) 
  54 [.ptr 0 0 0, .agg [.int .i64 (7 : Int), .int .i64 (0 : Int), .str [], .sl rows]] 7 q.2) fun (q : AV × List (List AV)) => kTmV q.1 fun (n n_2 : Int) (s : List UInt8) (rows : List 
  (List AV)) => (some (.agg [.int .i64 n, .int .i64 n_2, .str s, .sl rows], q.2)) else bif s == [(99 : UInt8), (111 : UInt8), (110 : UInt8), (115 : UInt8), (116 : UInt8)] then bif ltInt 
  (1 : Int) (↑(List.length lt) : Int) then kOpt (List.get?Internal lt 1) fun (row : List AV) => bif Nat.beq (List.length row) 4 then bif Nat.ble 4 (List.length row) then kTmC (List.take 
  4 row) fun (n n_2 : Int) (s : List UInt8) (rows : List (List AV)) => (some (.agg [.int .i64 n, .int .i64 n_2, .str s, .sl rows], [[.int .i64 ke, .int .i64 ne, .str se, .sl le, .sl bd, 
  .int .i64 self, .bool bad]])) else none else none else none else bif s == [(97 : UInt8), (110 : UInt8), (100 : UInt8), (97 : UInt8), (108 : UInt8), (115 : UInt8), (111 : UInt8)] then 
  bif ltInt (1 : Int) (↑(List.length lt) : Int) then kOpt (List.get?Internal lt 1) fun (row : List AV) => bif Nat.beq (List.length row) 4 then bif Nat.ble 4 (List.length row) then kTmC 
  (List.take 4 row) fun (n n_2 : Int) (s_1 : List UInt8) (rows : List (List AV)) => (kOpt (EVd (EV cfg) 24 [.ptr 0 0 0, .agg [.int .i64 n, .int .i64 n_2, .str s_1, .sl rows]] 7 [[.int 
  .i64 ke, .int .i64 ne, .str se, .sl le, .sl bd, .int .i64 self, .bool bad]]) fun (q : AV × List (List AV)) => kTmV q.1 fun (n n_3 : Int) (s_2 : List UInt8) (rows : List (List AV)) => 
  (kOpt (List.get?Internal q.2 0) fun (row : List AV) => kOpt (List.get?Internal row 6) fun (v : AV) => kBool v fun (b : Bool) => bif b then some (.agg [.int .i64 n, .int .i64 n_3, .str 
  s_2, .sl rows], q.2) else kOpt (EVm (EV cfg) 57 [.ptr 0 0 0, .agg [.int .i64 n, .int .i64 n_3, .str s_2, .sl rows]] 7 q.2) fun (q : MV × List (List AV)) => kMBool q.1 fun (b : Bool) 
  => bif !b == (s == [(97 : UInt8), (110 : UInt8), (100 : UInt8), (97 : UInt8), (108 : UInt8), (115 : UInt8), (111 : UInt8)]) then some (.agg [.int .i64 n, .int .i64 n_3, .str s_2, .sl 
  rows], q.2) else kOpt (List.get?Internal q.2 0) fun (row : List AV) => kOpt (List.get?Internal row 6) fun (v : AV) => kBool v fun (b : Bool) => bif b then some (.agg [.int .i64 n, .int 
  .i64 n_3, .str s_2, .sl rows], q.2) else bif ltInt (2 : Int) (↑(List.length lt) : Int) then kOpt (List.get?Internal lt 2) fun (row : List AV) => bif Nat.beq (List.length row) 4 then 
  bif Nat.ble 4 (List.length row) then kTmC (List.take 4 row) fun (n n_4 : Int) (s : List UInt8) (rows : List (List AV)) => (kOpt (EVd (EV cfg) 24 [.ptr 0 0 0, AV.agg [.int .i64 n, .int 
  .i64 n_4, .str s, .sl rows]] 7 q.2) fun (q : AV × List (List AV)) => kTmV q.1 fun (n n_5 : Int) (s : List UInt8) (rows : List (List AV)) => (kOpt (List.get?Internal q.2 0) fun (row 
  : List AV) => kOpt (List.get?Internal row 6) fun (v : AV) => kBool v fun (b : Bool) => bif !b then kOpt (EVm (EV cfg) 57 [.ptr 0 0 0, AV.agg [.int .i64 n, .int .i64 n_5, .str s, .sl 
  rows]] 7 q.2) fun (q : MV × List (List AV)) => kMBool q.1 fun (b : Bool) => some (AV.agg [.int .i64 n, .int .i64 n_5, .str s, .sl rows], q.2) else some (AV.agg [.int .i64 n, .int .i64 
  n_5, .str s, .sl rows], q.2))) else none else none else none)) else none else none else none else bif s == [(111 : UInt8), (114 : UInt8), (101 : UInt8), (108 : UInt8), (115 : UInt8), 
  (101 : UInt8)] then bif ltInt (1 : Int) (↑(List.length lt) : Int) then kOpt (List.get?Internal lt 1) fun (row : List AV) => bif Nat.beq (List.length row) 4 then bif Nat.ble 4 (List.length 
  row) then kTmC (List.take 4 row) fun (n n_2 : Int) (s_1 : List UInt8) (rows : List (List AV)) => (kOpt (EVd (EV cfg) 24 [.ptr 0 0 0, .agg [.int .i64 n, .int .i64 n_2, .str s_1, .sl 
  rows]] 7 [[.int .i64 ke, .int .i64 ne, .str se, .sl le, .sl bd, .int .i64 self, .bool bad]]) fun (q : AV × List (List AV)) => kTmV q.1 fun (n n_3 : Int) (s_2 : List UInt8) (rows : List 
  (List AV)) => (kOpt (List.get?Internal q.2 0) fun (row : List AV) => kOpt (List.get?Internal row 6) fun (v : AV) => kBool v fun (b : Bool) => bif b then some (.agg [.int .i64 n, .int 
  .i64 n_3, .str s_2, .sl rows], q.2) else kOpt (EVm (EV cfg) 57 [.ptr 0 0 0, .agg [.int .i64 n, .int .i64 n_3, .str s_2, .sl rows]] 7 q.2) fun (q : MV × List (List AV)) => kMBool q.1 
  fun (b : Bool) => bif !b == (s == [(97 : UInt8), (110 : UInt8), (100 : UInt8), (97 : UInt8), (108 : UInt8), (115 : UInt8), (111 : UInt8)]) then some (.agg [.int .i64 n, .int .i64 n_3, 
  .str s_2, .sl rows], q.2) else kOpt (List.get?Internal q.2 0) fun (row : List AV) => kOpt (List.get?Internal row 6) fun (v : AV) => kBool v fun (b : Bool) => bif b then some (.agg [.int 
  .i64 n, .int .i64 n_3, .str s_2, .sl rows], q.2) else bif ltInt (2 : Int) (↑(List.length lt) : Int) then kOpt (List.get?Internal lt 2) fun (row : List AV) => bif Nat.beq (List.length 
  row) 4 then bif Nat.ble 4 (List.length row) then kTmC (List.take 4 row) fun (n n_4 : Int) (s : List UInt8) (rows : List (List AV)) => (kOpt (EVd (EV cfg) 24 [.ptr 0 0 0, AV.agg [.int 
  .i64 n, .int .i64 n_4, .str s, .sl rows]] 7 q.2) fun (q : AV × List (List AV)) => kTmV q.1 fun (n n_5 : Int) (s : List UInt8) (rows : List (List AV)) => (kOpt (List.get?Internal q.2 
  0) fun (row : List AV) => kOpt (List.get?Internal row 6) fun (v : AV) => kBool v fun (b : Bool) => bif !b then kOpt (EVm (EV cfg) 57 [.ptr 0 0 0, AV.agg [.int .i64 n, .int .i64 n_5, 
  .str s, .sl rows]] 7 q.2) fun (q : MV × List (List AV)) => kMBool q.1 fun (b : Bool) => some (AV.agg [.int .i64 n, .int .i64 n_5, .str s, .sl rows], q.2) else some (AV.agg [.int .i64 
  n, .int .i64 n_5, .str s, .sl rows], q.2))) else none else none else none)) else none else none else none else bif leInt (1 : Int) (↑(List.length lt) : Int) then bif rowsOk 4 lt then 
  kOpt (EVd (EV cfg) 56 [.ptr 0 0 0, .sl (List.take (List.length lt - 1) (List.drop 1 lt))] 7 [[.int .i64 ke, .int .i64 ne, .str se, .sl le, .sl bd, .int .i64 self, .bool bad]]) fun (q 
  : AV × List (List AV)) => kSl q.1 fun (rows : List (List AV)) => kOpt (List.get?Internal q.2 0) fun (row : List AV) => kOpt (List.get?Internal row 6) fun (v : AV) => kBool v fun (b 
  : Bool) => bif b then some (.agg [.int .i64 (0 : Int), .int .i64 (0 : Int), .str [], .sl []], q.2) else kOpt (EVd (EV cfg) 45 [.ptr 0 0 0, .str s, .sl rows] 7 q.2) fun (q : AV × List 
  (List AV)) => kTmV q.1 fun (n n_2 : Int) (s : List UInt8) (rows : List (List AV)) => (kOpt (EVd (EV cfg) 54 [.ptr 0 0 0, .agg [.int .i64 n, .int .i64 n_2, .str s, .sl rows]] 7 q.2) 
  fun (q : AV × List (List AV)) => kTmV q.1 fun (n n_3 : Int) (s : List UInt8) (rows : List (List AV)) => (some (.agg [.int .i64 n, .int .i64 n_3, .str s, .sl rows], q.2))) else none 
  else none) else none else none else none else some (.agg [.int .i64 kt, .int .i64 nt, .str st, .sl lt], [[.int .i64 ke, .int .i64 ne, .str se, .sl le, .sl bd, .int .i64 self, .bool 
  bad]])) P) : Gets (EVd (EV cfg) 24 ([AV.ptr (0 : Nat) (0 : Nat) (0 : Nat), AV.agg [AV.int IntKind.i64 kt, AV.int IntKind.i64 nt, AV.str st, AV.sl lt]] : List AV) 7 [[AV.int .i64 ke, AV.int .i64 ne, AV.str se, AV.sl le, AV.sl bd, AV.int .i64 self, AV.bool bad]]) P :=
  Gets.ev (fun _ h => funD rfl rfl Tryz.func24 rfl h) (Gets.eq (by kernel_rfl) h)
theorem mBound_run (ke : Int) (ne : Int) (se : List UInt8) (le : List (List AV)) (bd : List (List AV)) (self : Int) (bad : Bool) {P : AV × List (List AV) → Prop} (h : Gets (ws61_0 bd 0 (0 : Int) [[.int .i64 ke, .int .i64 ne, .str se, .sl le, .sl bd, .int .i64 self, .bool bad]] (0 : Int) (0 : Int) [] [] []) P) : Gets (EVd (EV cfg) 55 ([AV.ptr (0 : Nat) (0 : Nat) (0 : Nat)] : List AV) 7 [[AV.int .i64 ke, AV.int .i64 ne, AV.str se, AV.sl le, AV.sl bd, AV.int .i64 self, AV.bool bad]]) P :=
  Gets.ev (fun _ h => funD rfl rfl Tryz.func55 rfl h) (Gets.eq (by kernel_rfl) h)
theorem gEval_run (kt : Int) (nt : Int) (st : List UInt8) (lt : List (List AV)) (ke : Int) (ne : Int) (se : List UInt8) (le : List (List AV)) (bd : List (List AV)) (self : Int) {P : AV → Prop} (h : Gets (kOpt (EVf (EV cfg) 22 [.agg [.int .i64 ke, .int .i64 ne, .str se, .sl le, .sl bd, .int .i64 self]]) fun (v : AV) => kTup v fun (cs : List AV) => kCons cs fun (c : AV) (cs : List AV) 
  => kSl c fun (rows : List (List AV)) => kCons cs fun (c : AV) (cs : List AV) => kBool c fun (b : Bool) => kNil cs (bif !b then some (AV.tup [.agg [.int .i64 (0 : Int), .int .i64 (0 
  : Int), .str [], .sl []], .int .i64 (2 : Int)]) else kOpt (EVs (EV cfg) 23 [.agg [.int .i64 kt, .int .i64 nt, .str st, .sl lt], .sl rows]) fun (v : AV) => kInt .i64 v fun (n : Int) 
  => bif n != (0 : Int) then some (AV.tup [.agg [.int .i64 (0 : Int), .int .i64 (0 : Int), .str [], .sl []], .int .i64 (2 : Int)]) else kOpt (EVd (EV cfg) 24 [.ptr 0 0 0, .agg [.int .i64 
  kt, .int .i64 nt, .str st, .sl lt]] 7 [[.int .i64 ke, .int .i64 ne, .str se, .sl le, .sl bd, .int .i64 self, .bool false]]) fun (q : AV × List (List AV)) => kTmV q.1 fun (n n_1 : Int) 
  (s : List UInt8) (rows : List (List AV)) => (kOpt (List.get?Internal q.2 0) fun (row : List AV) => kOpt (List.get?Internal row 6) fun (v : AV) => kBool v fun (b : Bool) => bif b then 
  some (AV.tup [.agg [.int .i64 (0 : Int), .int .i64 (0 : Int), .str [], .sl []], .int .i64 (10 : Int)]) else kOpt (EVf (EV cfg) 25 [.agg [.int .i64 n, .int .i64 n_1, .str s, .sl rows]]) 
  fun (v : AV) => kTmV v fun (n n_2 : Int) (s : List UInt8) (rows : List (List AV)) => (some (AV.tup [.agg [.int .i64 n, .int .i64 n_2, .str s, .sl rows], .int .i64 (0 : Int)]))))) P) : Gets (EVf (EV cfg) 9 ([AV.agg [AV.int IntKind.i64 kt, AV.int IntKind.i64 nt, AV.str st, AV.sl lt], AV.agg [AV.int IntKind.i64 ke, AV.int IntKind.i64 ne, AV.str se, AV.sl le, AV.sl bd, AV.int IntKind.i64 self]] : List AV)) P :=
  Gets.ev (fun _ h => funF rfl rfl Tryz.func9 rfl h) (Gets.eq (by kernel_rfl) h)
theorem gHolds_run (L : List (List AV)) (ke : Int) (ne : Int) (se : List UInt8) (le : List (List AV)) (bd : List (List AV)) (self : Int) {P : AV → Prop} (h : Gets (kOpt (EVf (EV cfg) 22 [.agg [.int .i64 ke, .int .i64 ne, .str se, .sl le, .sl bd, .int .i64 self]]) fun (v : AV) => kTup v fun (cs : List AV) => kCons cs fun (c : AV) (cs : List AV) 
  => kSl c fun (rows : List (List AV)) => kCons cs fun (c : AV) (cs : List AV) => kBool c fun (b : Bool) => kNil cs (ws25_0 L b (0 : Int) ke ne se le bd self)) P) : Gets (EVs (EV cfg) 16 ([AV.sl L, AV.agg [AV.int IntKind.i64 ke, AV.int IntKind.i64 ne, AV.str se, AV.sl le, AV.sl bd, AV.int IntKind.i64 self]] : List AV)) P :=
  Gets.ev (fun _ h => funS rfl rfl Tryz.func16 rfl h) (Gets.eq (by kernel_rfl) h)
theorem makeList_run (L : List (List AV)) (kt : Int) (nt : Int) (st : List UInt8) (lt : List (List AV)) {P : AV → Prop} (h : Gets (ws78_0 (IntKind.wrap .i64 ((↑(List.length L) : Int) - (1 : Int))) kt nt st lt (0 : Int) (0 : Int) [] [] L) P) : Gets (EVf (EV cfg) 84 ([AV.sl L, AV.agg [AV.int IntKind.i64 kt, AV.int IntKind.i64 nt, AV.str st, AV.sl lt]] : List AV)) P :=
  Gets.ev (fun _ h => funF rfl rfl Tryz.func84 rfl h) (Gets.eq (by kernel_rfl) h)
theorem ws41_0_step (bd : List (List AV)) (nv4 : Nat) (v5 : Int) (v11 : Int) (c0_0 : Int) (c0_1 : Int) (c0_2 : List UInt8) (c0_3 : List (List AV)) (c0_4 : List (List AV)) (c0_5 : Int) (h1 : List (List AV)) {P : AV → Prop} (h : Gets (bif decide (v11 < (↑(List.length bd) : Int)) then bif leInt (0 : Int) v11 && ltInt v11 (↑(List.length bd) : Int) then kOpt (List.get?Internal bd (Int.toNat v11)) fun (row : List AV) 
  => bif Nat.beq (List.length row) 5 then bif Nat.ble 5 (List.length row) then kCons (List.take 5 row) fun (c : AV) (cs : List AV) => kInt .i64 c fun (n : Int) => kTmC cs fun (n_1 n_2 
  : Int) (s : List UInt8) (rows : List (List AV)) => (bif decide (n ≤ v5) then some (AV.tup [.sl [], .bool false]) else bif decide (n > (99 : Int)) then some (AV.tup [.sl [], .bool false]) 
  else kOpt (EVs (EV cfg) 44 [.agg [.int .i64 n_1, .int .i64 n_2, .str s, .sl rows]]) fun (v : AV) => kInt .i64 v fun (n_3 : Int) => bif n_3 != (0 : Int) then some (AV.tup [.sl [], .bool 
  false]) else bif Nat.ble (0 + nv4) (List.length h1) && fitsIn (nv4 + 1) 8 then ws41_0 bd (nv4 + 1) n (IntKind.wrap .i64 (v11 + (1 : Int))) c0_0 c0_1 c0_2 c0_3 c0_4 c0_5 (List.append 
  (List.take nv4 h1) [[.int .i64 n]]) else none) else none else none else none else kOpt (EVs (EV cfg) 44 [.agg [.int .i64 c0_0, .int .i64 c0_1, .str c0_2, .sl c0_3]]) fun (v : AV) => 
  kInt .i64 v fun (n : Int) => bif n == (0 : Int) then kOpt (EVs (EV cfg) 43 [.int .i64 c0_5]) fun (v : AV) => kBool v fun (b : Bool) => bif Nat.ble (0 + nv4) (List.length h1) && true 
  then some (AV.tup [.sl (List.take nv4 h1), .bool b]) else none else bif Nat.ble (0 + nv4) (List.length h1) && true then some (AV.tup [.sl (List.take nv4 h1), .bool false]) else none) P) : Gets (ws41_0 bd nv4 v5 v11 c0_0 c0_1 c0_2 c0_3 c0_4 c0_5 h1) P :=
  Gets.ev (fun _ h => loop_step (cfg := cfg) (f := 22) (rd := none) (bs := 0) h) (Gets.eq (by kernel_rfl) h)
theorem ws62_0_step (L : List (List AV)) (nv5 : Nat) (v10 : Int) (h0 : List (List AV)) (h1 : List (List AV)) {P : AV × List (List AV) → Prop} (h : Gets (bif decide (v10 < (↑(List.length L) : Int)) then bif leInt (0 : Int) v10 && ltInt v10 (↑(List.length L) : Int) then kOpt (List.get?Internal L (Int.toNat v10)) fun (row : List AV) => 
  bif Nat.beq (List.length row) 4 then bif Nat.ble 4 (List.length row) then kTmC (List.take 4 row) fun (n n_1 : Int) (s : List UInt8) (rows : List (List AV)) => (kOpt (List.get?Internal 
  h0 0) fun (row : List AV) => kOpt (List.get?Internal row 6) fun (v : AV) => kBool v fun (b : Bool) => bif b then some (.sl [], h0) else kOpt (EVd (EV cfg) 24 [.ptr 0 0 0, .agg [.int 
  .i64 n, .int .i64 n_1, .str s, .sl rows]] 7 h0) fun (q : AV × List (List AV)) => kTmV q.1 fun (n n_2 : Int) (s : List UInt8) (rows : List (List AV)) => (bif Nat.ble (0 + nv5) (List.length 
  h1) && fitsIn (nv5 + 1) 56 then ws62_0 L (nv5 + 1) (IntKind.wrap .i64 (v10 + (1 : Int))) q.2 (List.append (List.take nv5 h1) [[.int .i64 n, .int .i64 n_2, .str s, .sl rows]]) else none)) 
  else none else none else none else bif Nat.ble (0 + nv5) (List.length h1) && true then some (.sl (List.take nv5 h1), h0) else none) P) : Gets (ws62_0 L nv5 v10 h0 h1) P :=
  Gets.ev (fun _ h => loop_step (cfg := cfg) (f := 56) (rd := none) (bs := 1) h) (Gets.eq (by kernel_rfl) h)
theorem ws61_0_step (bd : List (List AV)) (nv3 : Nat) (v12 : Int) (h0 : List (List AV)) (c1_0 : Int) (c1_1 : Int) (c1_2 : List UInt8) (c1_3 : List (List AV)) (h2 : List (List AV)) {P : AV × List (List AV) → Prop} (h : Gets (bif decide (v12 < (↑(List.length bd) : Int)) then bif leInt (0 : Int) v12 && ltInt v12 (↑(List.length bd) : Int) then kOpt (List.get?Internal bd (Int.toNat v12)) fun (row : List AV) 
  => bif Nat.beq (List.length row) 5 then bif Nat.ble 5 (List.length row) then kCons (List.take 5 row) fun (c : AV) (cs : List AV) => kInt .i64 c fun (n : Int) => kTmC cs fun (n n_1 : 
  Int) (s : List UInt8) (rows : List (List AV)) => (bif Nat.ble (0 + nv3) (List.length h2) && fitsIn (nv3 + 1) 56 then ws61_0 bd (nv3 + 1) (IntKind.wrap .i64 (v12 + (1 : Int))) h0 c1_0 
  c1_1 c1_2 c1_3 (List.append (List.take nv3 h2) [[.int .i64 n, .int .i64 n_1, .str s, .sl rows]]) else none) else none else none else none else bif Nat.ble (0 + nv3) (List.length h2) 
  && true then kOpt (EVf (EV cfg) 84 [.sl (List.take nv3 h2), .agg [.int .i64 (8 : Int), .int .i64 (0 : Int), .str [], .sl []]]) fun (v : AV) => kTmV v fun (n n_1 : Int) (s : List UInt8) 
  (rows : List (List AV)) => (some (.agg [.int .i64 n, .int .i64 n_1, .str s, .sl rows], h0)) else none) P) : Gets (ws61_0 bd nv3 v12 h0 c1_0 c1_1 c1_2 c1_3 h2) P :=
  Gets.ev (fun _ h => loop_step (cfg := cfg) (f := 55) (rd := none) (bs := 1) h) (Gets.eq (by kernel_rfl) h)
theorem ws25_0_step (L : List (List AV)) (b : Bool) (v18 : Int) (c0_0 : Int) (c0_1 : Int) (c0_2 : List UInt8) (c0_3 : List (List AV)) (c0_4 : List (List AV)) (c0_5 : Int) {P : AV → Prop} (h : Gets (bif decide (v18 < (↑(List.length L) : Int)) then bif leInt (0 : Int) v18 && ltInt v18 (↑(List.length L) : Int) then kOpt (List.get?Internal L (Int.toNat v18)) fun (row : List AV) => 
  bif Nat.beq (List.length row) 4 then bif Nat.ble 4 (List.length row) then kTmC (List.take 4 row) fun (n n_1 : Int) (s : List UInt8) (rows : List (List AV)) => (kOpt (EVf (EV cfg) 9 
  [.agg [.int .i64 n, .int .i64 n_1, .str s, .sl rows], .agg [.int .i64 c0_0, .int .i64 c0_1, .str c0_2, .sl c0_3, .sl c0_4, .int .i64 c0_5]]) fun (v : AV) => kTup v fun (cs : List AV) 
  => kCons cs fun (c : AV) (cs : List AV) => kAgg c fun (cs_1 : List AV) => kCons cs_1 fun (c : AV) (cs_2 : List AV) => kInt .i64 c fun (n : Int) => kCons cs_2 fun (c : AV) (cs_3 : List 
  AV) => kInt .i64 c fun (n_2 : Int) => kCons cs_3 fun (c : AV) (cs_4 : List AV) => kStr c fun (s : List UInt8) => kCons cs_4 fun (c : AV) (cs_5 : List AV) => kSl c fun (rows : List (List 
  AV)) => kNil cs_5 (kCons cs fun (c : AV) (cs : List AV) => kInt .i64 c fun (n_3 : Int) => kNil cs (bif n_3 != (0 : Int) then some (.bool false) else bif n != (2 : Int) then some (.bool 
  false) else bif !s == [(116 : UInt8), (114 : UInt8), (117 : UInt8), (101 : UInt8)] then some (.bool false) else ws25_0 L b (IntKind.wrap .i64 (v18 + (1 : Int))) c0_0 c0_1 c0_2 c0_3 
  c0_4 c0_5))) else none else none else none else some (.bool b)) P) : Gets (ws25_0 L b v18 c0_0 c0_1 c0_2 c0_3 c0_4 c0_5) P :=
  Gets.ev (fun _ h => loop_step (cfg := cfg) (f := 16) (rd := none) (bs := 0) h) (Gets.eq (by kernel_rfl) h)
theorem ws78_0_step (v3 : Int) (c0_0 : Int) (c0_1 : Int) (c0_2 : List UInt8) (c0_3 : List (List AV)) (c1_0 : Int) (c1_1 : Int) (c1_2 : List UInt8) (c1_3 : List (List AV)) (c2_0 : List (List AV)) {P : AV → Prop} (h : Gets (bif decide (v3 ≥ (0 : Int)) then bif leInt (0 : Int) v3 && ltInt v3 (↑(List.length c2_0) : Int) then kOpt (List.get?Internal c2_0 (Int.toNat v3)) fun (row : List AV) => bif Nat.beq 
  (List.length row) 4 then bif Nat.ble 4 (List.length row) then kTmC (List.take 4 row) fun (n n_1 : Int) (s : List UInt8) (rows : List (List AV)) => (ws78_0 (IntKind.wrap .i64 (v3 - (1 
  : Int))) (9 : Int) (0 : Int) [] [[.int .i64 n, .int .i64 n_1, .str s, .sl rows], [.int .i64 c0_0, .int .i64 c0_1, .str c0_2, .sl c0_3]] c1_0 c1_1 c1_2 c1_3 c2_0) else none else none 
  else none else some (.agg [.int .i64 c0_0, .int .i64 c0_1, .str c0_2, .sl c0_3])) P) : Gets (ws78_0 v3 c0_0 c0_1 c0_2 c0_3 c1_0 c1_1 c1_2 c1_3 c2_0) P :=
  Gets.ev (fun _ h => loop_step (cfg := cfg) (f := 109) (rd := none) (bs := 4) h) (Gets.eq (by kernel_rfl) h)
end Go.Proofs.YtogebohommickaaGreat
end

section
namespace Go.Proofs.YtogebohommickaaGreat
open Go.Av
set_option maxRecDepth 100000
set_option maxHeartbeats 0

noncomputable def Lt86_0 : Den := evC cfg (EV cfg) 122 none 0 (sub (bodyOf Tryz.f122) [1, 0, 1, 0, 0])
noncomputable def At86_0 : Ex × List AV × AH → Option AV := kAft (Cfg.keepOut cfg 122 2) (kRun cfg (EV cfg) (kfN cfg 6) 122 none 0 (kFinS cfg (Cfg.lift cfg 122 0) Tryz.f122.results.toList) ([.block 0, .seq (sub (bodyOf Tryz.f122) [1, 1])]))
noncomputable def Wt86_0 : List AV × AH → Option AV := fun p => kOpt (LOOP 0 (some [0, 1, 7, 8]) ([]) Lt86_0 p) At86_0
noncomputable abbrev wt86_0 (L : List (List AV)) (V : List (List AV)) (v8 : Int) : Option (AV) := Wt86_0  (((fx 19 [(0, AV.sl L), (1, AV.fn (Fn.func 107) [] [AV.cptr [AV.sl V] (0 : Nat)]), (7, AV.int IntKind.i64 (↑(List.length L) : Int)), (8, AV.int IntKind.i64 v8)]) : List AV), ([] : AH))
theorem contFunc_run (L : List (List AV)) (V : List (List AV)) {P : AV → Prop} (h : Gets (kOpt (EVs (EV cfg) 122 [.sl L, AV.fn (Fn.func 107) [] [AV.cptr [.sl V] 0]]) fun (v : AV) => kInt .i64 v fun (n : Int) => some (.bool (decide (n ≥ (0 : Int))))) P) : Gets (EVs (EV cfg) 106 ([AV.sl L, AV.fn (Fn.func 107) [] [AV.cptr [AV.sl V] (0 : Nat)]] : List AV)) P :=
  Gets.ev (fun _ h => funS rfl rfl Tryz.func106 rfl h) (Gets.eq (by kernel_rfl) h)
theorem indFunc_run (L : List (List AV)) (V : List (List AV)) {P : AV → Prop} (h : Gets (wt86_0 L V (0 : Int)) P) : Gets (EVs (EV cfg) 122 ([AV.sl L, AV.fn (Fn.func 107) [] [AV.cptr [AV.sl V] (0 : Nat)]] : List AV)) P :=
  Gets.ev (fun _ h => funS rfl rfl Tryz.func122 rfl h) (Gets.eq (by kernel_rfl) h)
theorem allIn_run (ke : Int) (ne : Int) (se : List UInt8) (le : List (List AV)) (V : List (List AV)) {P : AV → Prop} (h : Gets (kOpt (EVs (EV cfg) 51 [.agg [.int .i64 ke, .int .i64 ne, .str se, .sl le], .sl V]) fun (v : AV) => kBool v fun (b : Bool) => some (.bool !b)) P) : Gets (EVs (EV cfg) 107 ([AV.agg [AV.int IntKind.i64 ke, AV.int IntKind.i64 ne, AV.str se, AV.sl le], AV.cptr [AV.sl V] (0 : Nat)] : List AV)) P :=
  Gets.ev (fun _ h => funS rfl rfl Tryz.func107 rfl h) (Gets.eq (by kernel_rfl) h)
theorem wt86_0_step (L : List (List AV)) (V : List (List AV)) (v8 : Int) {P : AV → Prop} (h : Gets (bif decide (v8 < (↑(List.length L) : Int)) then bif leInt (0 : Int) v8 && ltInt v8 (↑(List.length L) : Int) then kOpt (List.get?Internal L (Int.toNat v8)) fun (row : List AV) => bif 
  Nat.beq (List.length row) 4 then bif Nat.ble 4 (List.length row) then kTmC (List.take 4 row) fun (n n_1 : Int) (s : List UInt8) (rows : List (List AV)) => (kOpt (EVs (EV cfg) 107 [.agg 
  [.int .i64 n, .int .i64 n_1, .str s, .sl rows], AV.cptr [.sl V] 0]) fun (v : AV) => kBool v fun (b : Bool) => bif b then some (.int .i64 v8) else wt86_0 L V (IntKind.wrap .i64 (v8 + 
  (1 : Int)))) else none else none else none else some (.int .i64 (-1 : Int))) P) : Gets (wt86_0 L V v8) P :=
  Gets.ev (fun _ h => loop_step (cfg := cfg) (f := 122) (rd := none) (bs := 0) h) (Gets.eq (by kernel_rfl) h)
end Go.Proofs.YtogebohommickaaGreat
end

section
namespace Go.Proofs.YtogebohommickaaGreat
open Go.Av
set_option maxRecDepth 100000
set_option maxHeartbeats 0

noncomputable def Lp71_0 : Den := evC cfg (EV cfg) 80 none 0 (sub (bodyOf Tryz.f80) [1, 1, 1, 0, 1, 0, 0])
noncomputable def Ap71_0 : Ex × List AV × AH → Option AV := kAft (Cfg.keepOut cfg 80 5) (kRun cfg (EV cfg) (kfN cfg 6) 80 none 0 (kFinS cfg (Cfg.lift cfg 80 0) Tryz.f80.results.toList) ([.block 0, .seq (sub (bodyOf Tryz.f80) [1, 1, 1, 1])]))
noncomputable def Wp71_0 : List AV × AH → Option AV := fun p => kOpt (LOOP 0 (some [4, 32, 33, 34]) ([]) Lp71_0 p) Ap71_0
noncomputable abbrev wp71_0 (s : List UInt8) (v4 : Int) (v34 : Int) (h0 : List (List AV)) : Option (AV) := Wp71_0  (((fx 52 [(4, AV.int IntKind.i64 v4), (32, AV.ms (0 : Nat) (0 : Nat) (List.length (List.take (List.length s - (1 : Nat)) (List.drop (1 : Nat) s)))), (33, AV.int IntKind.i64 (↑(List.length (List.take (List.length s - (1 : Nat)) (List.drop (1 : Nat) s))) : Int)), (34, AV.int IntKind.i64 v34)]) : List AV), ([ABlk.rows true (1 : Nat) h0] : AH))
theorem patNumber_run (s : List UInt8) {P : AV → Prop} (h : Gets (bif decide ((↑(List.length s) : Int) < (2 : Int)) then some (AV.tup [.int .i64 (0 : Int), .bool false]) else bif decide ((↑(List.length s) : Int) > (3 : Int)) then some (AV.tup [.int 
  .i64 (0 : Int), .bool false]) else kOpt (List.get?Internal s 0) fun (b : UInt8) => bif (↑(UInt8.toNat b) : Int) != (36 : Int) then some (AV.tup [.int .i64 (0 : Int), .bool false]) else 
  bif (↑(List.length s) : Int) == (3 : Int) then kOpt (List.get?Internal s 1) fun (b : UInt8) => bif (↑(UInt8.toNat b) : Int) == (48 : Int) then some (AV.tup [.int .i64 (0 : Int), .bool 
  false]) else bif leInt (1 : Int) (↑(List.length s) : Int) then wp71_0 s (0 : Int) (0 : Int) (List.map (fun (b : UInt8) => [.int .u8 (↑(UInt8.toNat b) : Int)]) (List.take (List.length 
  s - 1) (List.drop 1 s))) else none else bif leInt (1 : Int) (↑(List.length s) : Int) then wp71_0 s (0 : Int) (0 : Int) (List.map (fun (b : UInt8) => [.int .u8 (↑(UInt8.toNat b) : Int)]) 
  (List.take (List.length s - 1) (List.drop 1 s))) else none) P) : Gets (EVs (EV cfg) 80 ([AV.str s] : List AV)) P :=
  Gets.ev (fun _ h => funS rfl rfl Tryz.func80 rfl h) (Gets.eq (by kernel_rfl) h)
theorem patMay_run (kt : Int) (nt : Int) (st : List UInt8) (lt : List (List AV)) {P : AV → Prop} (h : Gets (kOpt (EVs (EV cfg) 44 [.agg [.int .i64 kt, .int .i64 nt, .str st, .sl lt]]) fun (v : AV) => kInt .i64 v fun (n : Int) => some (.bool (n == (0 : Int)))) P) : Gets (EVs (EV cfg) 79 ([AV.agg [AV.int IntKind.i64 kt, AV.int IntKind.i64 nt, AV.str st, AV.sl lt]] : List AV)) P :=
  Gets.ev (fun _ h => funS rfl rfl Tryz.func79 rfl h) (Gets.eq (by kernel_rfl) h)
theorem patVar_run (kt : Int) (nt : Int) (st : List UInt8) (lt : List (List AV)) {P : AV → Prop} (h : Gets (bif kt != (2 : Int) then some (AV.tup [.int .i64 (0 : Int), .bool false]) else kOpt (EVs (EV cfg) 79 [.agg [.int .i64 kt, .int .i64 nt, .str st, .sl lt]]) fun (v : AV) => kBool v fun 
  (b : Bool) => bif !b then some (AV.tup [.int .i64 (0 : Int), .bool false]) else kOpt (EVs (EV cfg) 80 [.str st]) fun (v : AV) => kTup v fun (cs : List AV) => kCons cs fun (c : AV) (cs 
  : List AV) => kInt .i64 c fun (n : Int) => kCons cs fun (c : AV) (cs : List AV) => kBool c fun (b : Bool) => kNil cs (some (AV.tup [.int .i64 n, .bool b]))) P) : Gets (EVs (EV cfg) 52 ([AV.agg [AV.int IntKind.i64 kt, AV.int IntKind.i64 nt, AV.str st, AV.sl lt]] : List AV)) P :=
  Gets.ev (fun _ h => funS rfl rfl Tryz.func52 rfl h) (Gets.eq (by kernel_rfl) h)
theorem setAdd_run (n : Int) (r : List AV) {P : MV × List (List AV) → Prop} (h : Gets (bif decide (n < (64 : Int)) then kOpt (List.get?Internal r 0) fun (v : AV) => kInt .u64 v fun (n_1 : Int) => kOpt (fromSem (Op.shift BinOp.shl .u64 (1 : Int) .i64 n)) fun (v : AV) => 
  kInt .u64 v fun (n : Int) => kOpt (fromSem (Op.intBits BinOp.or .u64 n_1 n)) fun (v : AV) => kInt .u64 v fun (n : Int) => bif Nat.ble 1 (List.length r) then some (MV.unit, [.int .u64 
  n :: List.drop 1 r]) else none else kOpt (List.get?Internal r 1) fun (v : AV) => kInt .u64 v fun (n_1 : Int) => kOpt (fromSem (Op.shift BinOp.shl .u64 (1 : Int) .i64 (IntKind.wrap .i64 
  (n - (64 : Int))))) fun (v : AV) => kInt .u64 v fun (n : Int) => kOpt (fromSem (Op.intBits BinOp.or .u64 n_1 n)) fun (v : AV) => kInt .u64 v fun (n : Int) => bif Nat.ble 2 (List.length 
  r) then some (MV.unit, [List.append (List.append (List.take 1 r) [.int .u64 n]) (List.drop 2 r)]) else none) P) : Gets (EVm (EV cfg) 108 ([AV.ptr (0 : Nat) (0 : Nat) (0 : Nat), AV.int IntKind.i64 n] : List AV) 402 [r]) P :=
  Gets.ev (fun _ h => funM rfl rfl Tryz.func108 rfl h) (Gets.eq (by kernel_rfl) h)
theorem setHas_run (n : Int) (r : List AV) {P : AV → Prop} (h : Gets (bif decide (n < (64 : Int)) then kOpt (List.get?Internal r 0) fun (v : AV) => kInt .u64 v fun (n_1 : Int) => kOpt (fromSem (Op.shift BinOp.shr .u64 n_1 .i64 n)) fun (v : AV) => kInt 
  .u64 v fun (n : Int) => kOpt (fromSem (Op.intBits BinOp.and .u64 n (1 : Int))) fun (v : AV) => kInt .u64 v fun (n : Int) => some (.bool (n == (1 : Int))) else kOpt (List.get?Internal 
  r 1) fun (v : AV) => kInt .u64 v fun (n_1 : Int) => kOpt (fromSem (Op.shift BinOp.shr .u64 n_1 .i64 (IntKind.wrap .i64 (n - (64 : Int))))) fun (v : AV) => kInt .u64 v fun (n : Int) 
  => kOpt (fromSem (Op.intBits BinOp.and .u64 n (1 : Int))) fun (v : AV) => kInt .u64 v fun (n : Int) => some (.bool (n == (1 : Int)))) P) : Gets (EVs (EV cfg) 82 ([AV.cptr r (0 : Nat), AV.int IntKind.i64 n] : List AV)) P :=
  Gets.ev (fun _ h => funS rfl rfl Tryz.func82 rfl h) (Gets.eq (by kernel_rfl) h)
theorem wp71_0_step (s : List UInt8) (v4 : Int) (v34 : Int) (h0 : List (List AV)) {P : AV → Prop} (h : Gets (bif decide (v34 < (↑(List.length (List.take (List.length s - 1) (List.drop 1 s))) : Int)) then bif leInt (0 : Int) v34 && ltInt v34 (↑(List.length (List.take (List.length s - 1) (List.drop 
  1 s))) : Int) then kOpt (List.get?Internal h0 (0 + Int.toNat v34)) fun (row : List AV) => kOpt (List.get?Internal row 0) fun (v : AV) => kInt .u8 v fun (n : Int) => bif decide (n < 
  (48 : Int)) then some (AV.tup [.int .i64 (0 : Int), .bool false]) else bif decide (n > (57 : Int)) then some (AV.tup [.int .i64 (0 : Int), .bool false]) else wp71_0 s (IntKind.wrap 
  .i64 (IntKind.wrap .i64 (v4 * (10 : Int)) + IntKind.wrap .i64 (IntKind.wrap .u8 (n - (48 : Int))))) (IntKind.wrap .i64 (v34 + (1 : Int))) h0 else none else some (AV.tup [.int .i64 v4, 
  .bool true])) P) : Gets (wp71_0 s v4 v34 h0) P :=
  Gets.ev (fun _ h => loop_step (cfg := cfg) (f := 80) (rd := none) (bs := 0) h) (Gets.eq (by kernel_rfl) h)
end Go.Proofs.YtogebohommickaaGreat
end
