/-
  What is left of the functions' evaluation at arguments with variables, printed by a program of ours (resid.py) and checked by the kernel.
  What is proved: each equation as it stands; no condition.
-/
import Derived.Test.YtpbfmaodnihpeaaAvW
import Derived.Test.YtpbfmaodnihpeaaAvCfg
namespace Go.Proofs.Ytpbfmaodnihpeaa
open Go.Av
set_option maxRecDepth 100000
set_option maxHeartbeats 0

noncomputable def L57_0 : Den := evC cfg (EV cfg) 57 none (sub (bodyOf Try.f57) [1, 1, 0, 1, 0, 0])
noncomputable def A57_0 : Ex × List AV × AH → Option AV := kAft (Cfg.keepOut cfg 57 3) (kRun cfg (EV cfg) 57 none (kFinS cfg Try.f57.results.toList) ([.block 0, .seq (sub (bodyOf Try.f57) [1, 1, 1])]))
noncomputable def W57_0 : List AV × AH → Option AV := fun p => kOpt (LOOP 1 (some [1, 2, 5, 6]) L57_0 p) A57_0
noncomputable def L58_0 : Den := evC cfg (EV cfg) 58 none (sub (bodyOf Try.f58) [1, 1, 0, 1, 0, 0])
noncomputable def A58_0 : Ex × List AV × AH → Option AV := kAft (Cfg.keepOut cfg 58 4) (kRun cfg (EV cfg) 58 none (kFinS cfg Try.f58.results.toList) ([.block 0, .seq (sub (bodyOf Try.f58) [1, 1, 1])]))
noncomputable def W58_0 : List AV × AH → Option AV := fun p => kOpt (LOOP 1 (some [1, 3]) L58_0 p) A58_0
noncomputable def L59_0 : Den := evC cfg (EV cfg) 59 none (sub (bodyOf Try.f59) [1, 1, 0, 1, 0, 0])
noncomputable def A59_0 : Ex × List AV × AH → Option AV := kAft (Cfg.keepOut cfg 59 3) (kRun cfg (EV cfg) 59 none (kFinF cfg Try.f59.results.toList) ([.block 0, .seq (sub (bodyOf Try.f59) [1, 1, 1])]))
noncomputable def W59_0 : List AV × AH → Option AV := fun p => kOpt (LOOP 0 (some [0, 3, 4]) L59_0 p) A59_0
noncomputable def L67_0 : Den := evC cfg (EV cfg) 67 none (sub (bodyOf Try.f67) [1, 1, 0, 1, 0, 0])
noncomputable def A67_0 : Ex × List AV × AH → Option AV := kAft (Cfg.keepOut cfg 67 4) (kRun cfg (EV cfg) 67 none (kFinS cfg Try.f67.results.toList) ([.block 0, .seq (sub (bodyOf Try.f67) [1, 1, 1])]))
noncomputable def W67_0 : List AV × AH → Option AV := fun p => kOpt (LOOP 0 (some [0, 1, 5]) L67_0 p) A67_0
noncomputable def L62_0 : Den := evC cfg (EV cfg) 62 none (sub (bodyOf Try.f62) [1, 1, 0, 1, 0, 0])
noncomputable def A62_0 : Ex × List AV × AH → Option AV := kAft (Cfg.keepOut cfg 62 3) (kRun cfg (EV cfg) 62 none (kFinS cfg Try.f62.results.toList) ([.block 0, .seq (sub (bodyOf Try.f62) [1, 1, 1])]))
noncomputable def W62_0 : List AV × AH → Option AV := fun p => kOpt (LOOP 0 (some [3, 6, 7, 8]) L62_0 p) A62_0
noncomputable def L97_0 : Den := evC cfg (EV cfg) 97 none (sub (bodyOf Try.f97) [1, 0, 1, 0, 0])
noncomputable def A97_0 : Ex × List AV × AH → Option AV := kAft (Cfg.keepOut cfg 97 2) (kRun cfg (EV cfg) 97 none (kFinS cfg Try.f97.results.toList) ([.block 0, .seq (sub (bodyOf Try.f97) [1, 1])]))
noncomputable def W97_0 : List AV × AH → Option AV := fun p => kOpt (LOOP 0 (some [0, 1, 2, 11, 12, 13]) L97_0 p) A97_0
noncomputable def L15_0 : Den := evC cfg (EV cfg) 15 none (sub (bodyOf Try.f15) [1, 0, 1, 0, 0])
noncomputable def A15_0 : Ex × List AV × AH → Option AV := kAft (Cfg.keepOut cfg 15 1) (kRun cfg (EV cfg) 15 none (kFinS cfg Try.f15.results.toList) ([.block 0, .scope]))
noncomputable def W15_0 : List AV × AH → Option AV := fun p => kOpt (LOOP 2 (some [2, 3]) L15_0 p) A15_0
noncomputable def L66_0 : Den := evC cfg (EV cfg) 66 none (sub (bodyOf Try.f66) [1, 1, 0, 1, 0, 0])
noncomputable def A66_0 : Ex × List AV × AH → Option AV := kAft (Cfg.keepOut cfg 66 3) (kRun cfg (EV cfg) 66 none (kFinS cfg Try.f66.results.toList) ([.block 0, .seq (sub (bodyOf Try.f66) [1, 1, 1])]))
noncomputable def W66_0 : List AV × AH → Option AV := fun p => kOpt (LOOP 0 (some [0, 1, 5, 6]) L66_0 p) A66_0
noncomputable def L73_0 : Den := evC cfg (EV cfg) 73 none (sub (bodyOf Try.f73) [1, 1, 0, 1, 0, 0])
noncomputable def A73_0 : Ex × List AV × AH → Option AV := kAft (Cfg.keepOut cfg 73 3) (kRun cfg (EV cfg) 73 none (kFinF cfg Try.f73.results.toList) ([.block 0, .seq (sub (bodyOf Try.f73) [1, 1, 1])]))
noncomputable def W73_0 : List AV × AH → Option AV := fun p => kOpt (LOOP 3 (some [0, 4, 5, 6]) L73_0 p) A73_0
theorem f57_run (ki : Int) (n : Int) (most : Int) (s : List UInt8) (A : List (List AV)) {P : AV → Prop} (h : Gets (W57_0 ((fx 31 [(1, .int .i64 most), (2, .ptr 0 0 0), (5, .int .i64 (1 : Int)), (6, .int .i64 (0 : Int))]), [.rows false 4 [[.int .i64 ki, .int .i64 n, .str s, .sl A]]])) P) : Gets (EVs (EV cfg) 57 ([AV.agg [AV.int IntKind.i64 ki, AV.int IntKind.i64 n, AV.str s, AV.sl A], AV.int IntKind.i64 most] : List AV)) P :=
  Gets.ev (fun _ h => funS rfl rfl Try.func57 rfl h) (Gets.eq (by kernel_rfl) h)
noncomputable abbrev w57_0 (ki : Int) (n : Int) (most : Int) (s : List UInt8) (A : List (List AV)) (v5 : Int) (v6 : Int) : Option (AV) := W57_0 (((fx 31 [(1, AV.int IntKind.i64 most), (2, AV.ptr (0 : Nat) (0 : Nat) (0 : Nat)), (5, AV.int IntKind.i64 v5), (6, AV.int IntKind.i64 v6)]) : List AV), ([ABlk.rows false (4 : Nat) [[AV.int IntKind.i64 ki, AV.int IntKind.i64 n, AV.str s, AV.sl A]]] : AH))
theorem w57_0_step (ki : Int) (n : Int) (most : Int) (s : List UInt8) (A : List (List AV)) (v5 : Int) (v6 : Int) {P : AV → Prop} (h : Gets (bif decide (v6 < (↑(List.length A) : Int)) then bif decide (v5 ≤ most) then bif leInt (0 : Int) v6 && ltInt v6 (↑(List.length A) : Int) then kOpt (List.get?Internal A (Int.toNat v6)) 
  fun (row : List AV) => bif Nat.beq (List.length row) 4 then bif Nat.ble 4 (List.length row) then kCons (List.take 4 row) fun (c : AV) (cs : List AV) => kInt .i64 c fun (n_1 : Int) => 
  kCons cs fun (c : AV) (cs : List AV) => kInt .i64 c fun (n_2 : Int) => kCons cs fun (c : AV) (cs : List AV) => kStr c fun (s_1 : List UInt8) => kCons cs fun (c : AV) (cs : List AV) 
  => kSl c fun (rows : List (List AV)) => kNil cs (kOpt (EVs (EV cfg) 57 [.agg [.int .i64 n_1, .int .i64 n_2, .str s_1, .sl rows], .int .i64 (IntKind.wrap .i64 (most - v5))]) fun (v : 
  AV) => kInt .i64 v fun (n_3 : Int) => W57_0 ((fx 31 [(1, .int .i64 most), (2, .ptr 0 0 0), (5, .int .i64 (IntKind.wrap .i64 (v5 + n_3))), (6, .int .i64 (IntKind.wrap .i64 (v6 + (1 : 
  Int))))]), [.rows false 4 [[.int .i64 ki, .int .i64 n, .str s, .sl A]]])) else none else none else none else some (.int .i64 v5) else some (.int .i64 v5)) P) : Gets (w57_0 ki n most s A v5 v6) P :=
  Gets.ev (fun _ h => loop_step (cfg := cfg) (f := 57) (rd := none) h) (Gets.eq (by kernel_rfl) h)
theorem f58_run (ki : Int) (n : Int) (s : List UInt8) (A : List (List AV)) {P : AV → Prop} (h : Gets (bif decide ((↑(List.length s) : Int) > (200 : Int)) then some (.bool true) else W58_0 ((fx 21 [(1, .ptr 0 0 0), (3, .int .i64 (0 : Int))]), [.rows false 4 [[.int .i64 ki, .int .i64 
  n, .str s, .sl A]]])) P) : Gets (EVs (EV cfg) 58 ([AV.agg [AV.int IntKind.i64 ki, AV.int IntKind.i64 n, AV.str s, AV.sl A]] : List AV)) P :=
  Gets.ev (fun _ h => funS rfl rfl Try.func58 rfl h) (Gets.eq (by kernel_rfl) h)
noncomputable abbrev w58_0 (ki : Int) (n : Int) (s : List UInt8) (A : List (List AV)) (v3 : Int) : Option (AV) := W58_0 (((fx 21 [(1, AV.ptr (0 : Nat) (0 : Nat) (0 : Nat)), (3, AV.int IntKind.i64 v3)]) : List AV), ([ABlk.rows false (4 : Nat) [[AV.int IntKind.i64 ki, AV.int IntKind.i64 n, AV.str s, AV.sl A]]] : AH))
theorem w58_0_step (ki : Int) (n : Int) (s : List UInt8) (A : List (List AV)) (v3 : Int) {P : AV → Prop} (h : Gets (bif decide (v3 < (↑(List.length A) : Int)) then bif leInt (0 : Int) v3 && ltInt v3 (↑(List.length A) : Int) then kOpt (List.get?Internal A (Int.toNat v3)) fun (row : List AV) => bif 
  Nat.beq (List.length row) 4 then bif Nat.ble 4 (List.length row) then kCons (List.take 4 row) fun (c : AV) (cs : List AV) => kInt .i64 c fun (n_1 : Int) => kCons cs fun (c : AV) (cs 
  : List AV) => kInt .i64 c fun (n_2 : Int) => kCons cs fun (c : AV) (cs : List AV) => kStr c fun (s_1 : List UInt8) => kCons cs fun (c : AV) (cs : List AV) => kSl c fun (rows : List 
  (List AV)) => kNil cs (kOpt (EVs (EV cfg) 58 [.agg [.int .i64 n_1, .int .i64 n_2, .str s_1, .sl rows]]) fun (v : AV) => kBool v fun (b : Bool) => bif b then some (.bool true) else W58_0 
  ((fx 21 [(1, .ptr 0 0 0), (3, .int .i64 (IntKind.wrap .i64 (v3 + (1 : Int))))]), [.rows false 4 [[.int .i64 ki, .int .i64 n, .str s, .sl A]]])) else none else none else none else some 
  (.bool false)) P) : Gets (w58_0 ki n s A v3) P :=
  Gets.ev (fun _ h => loop_step (cfg := cfg) (f := 58) (rd := none) h) (Gets.eq (by kernel_rfl) h)
theorem f13_run (ki : Int) (n : Int) (most : Int) (s : List UInt8) (A : List (List AV)) {P : AV → Prop} (h : Gets (kOpt (EVs (EV cfg) 57 [.agg [.int .i64 ki, .int .i64 n, .str s, .sl A], .int .i64 most]) fun (v : AV) => kInt .i64 v fun (n_1 : Int) => bif decide (n_1 > most) then some (.bool true) 
  else kOpt (EVs (EV cfg) 58 [.agg [.int .i64 ki, .int .i64 n, .str s, .sl A]]) fun (v : AV) => kBool v fun (b : Bool) => some (.bool b)) P) : Gets (EVs (EV cfg) 13 ([AV.agg [AV.int IntKind.i64 ki, AV.int IntKind.i64 n, AV.str s, AV.sl A], AV.int IntKind.i64 most] : List AV)) P :=
  Gets.ev (fun _ h => funS rfl rfl Try.func13 rfl h) (Gets.eq (by kernel_rfl) h)
theorem f14_run (ki : Int) (n : Int) (s : List UInt8) (A : List (List AV)) {P : AV → Prop} (h : Gets (kOpt (EVf (EV cfg) 59 [.sl A]) fun (v : AV) => kSl v fun (rows : List (List AV)) => some (.agg [.int .i64 ki, .int .i64 n, .str s, .sl rows])) P) : Gets (EVf (EV cfg) 14 ([AV.agg [AV.int IntKind.i64 ki, AV.int IntKind.i64 n, AV.str s, AV.sl A]] : List AV)) P :=
  Gets.ev (fun _ h => funF rfl rfl Try.func14 rfl h) (Gets.eq (by kernel_rfl) h)
theorem f59_run (A : List (List AV)) {P : AV → Prop} (h : Gets (W59_0 ((fx 20 [(0, .sl A), (3, .nilS), (4, .int .i64 (0 : Int))]), [])) P) : Gets (EVf (EV cfg) 59 ([AV.sl A] : List AV)) P :=
  Gets.ev (fun _ h => funF rfl rfl Try.func59 rfl h) (Gets.eq (by kernel_rfl) h)
noncomputable abbrev w59_0 (A : List (List AV)) (v4 : Int) : Option (AV) := W59_0 (((fx 20 [(0, AV.sl A), (3, AV.nilS), (4, AV.int IntKind.i64 v4)]) : List AV), ([] : AH))
theorem w59_0_step (A : List (List AV)) (v4 : Int) {P : AV → Prop} (h : Gets (bif decide (v4 < (↑(List.length A) : Int)) then bif leInt (0 : Int) v4 && ltInt v4 (↑(List.length A) : Int) then kOpt (List.get?Internal A (Int.toNat v4)) fun (row : List AV) => bif 
  Nat.beq (List.length row) 4 then bif Nat.ble 4 (List.length row) then kCons (List.take 4 row) fun (c : AV) (cs : List AV) => kInt .i64 c fun (n : Int) => kCons cs fun (c : AV) (cs : 
  List AV) => kInt .i64 c fun (n_1 : Int) => kCons cs fun (c : AV) (cs : List AV) => kStr c fun (s : List UInt8) => kCons cs fun (c : AV) (cs : List AV) => kSl c fun (rows : List (List 
  AV)) => kNil cs (kOpt (EVf (EV cfg) 14 [.agg [.int .i64 n, .int .i64 n_1, .str s, .sl rows]]) fun (v : AV) => kAgg v fun (cs : List AV) => kCons cs fun (c : AV) (cs : List AV) => kInt 
  .i64 c fun (n : Int) => kCons cs fun (c : AV) (cs : List AV) => kInt .i64 c fun (n_2 : Int) => kCons cs fun (c : AV) (cs : List AV) => kStr c fun (s : List UInt8) => kCons cs fun (c 
  : AV) (cs : List AV) => kSl c fun (rows : List (List AV)) => kNil cs (bif fitsIn 1 56 then W59_0 ((fx 20 [(0, .sl A), (3, .ms 0 0 1), (4, .int .i64 (IntKind.wrap .i64 (v4 + (1 : Int))))]), 
  [.rows true 4 [[.int .i64 n, .int .i64 n_2, .str s, .sl rows]]]) else none)) else none else none else none else some (bif true then .sl [] else .nilS)) P) : Gets (w59_0 A v4) P :=
  Gets.ev (fun _ h => loop_step (cfg := cfg) (f := 59) (rd := none) h) (Gets.eq (by kernel_rfl) h)
noncomputable abbrev w59_1 (rs : List (List AV)) (n : Nat) (A : List (List AV)) (v4 : Int) : Option (AV) := W59_0 (((fx 20 [(0, AV.sl A), (3, AV.ms (0 : Nat) (0 : Nat) n), (4, AV.int IntKind.i64 v4)]) : List AV), ([ABlk.rows true (4 : Nat) rs] : AH))
theorem w59_1_step (rs : List (List AV)) (n : Nat) (A : List (List AV)) (v4 : Int) {P : AV → Prop} (h : Gets (bif decide (v4 < (↑(List.length A) : Int)) then bif leInt (0 : Int) v4 && ltInt v4 (↑(List.length A) : Int) then kOpt (List.get?Internal A (Int.toNat v4)) fun (row : List AV) => bif 
  Nat.beq (List.length row) 4 then bif Nat.ble 4 (List.length row) then kCons (List.take 4 row) fun (c : AV) (cs : List AV) => kInt .i64 c fun (n_1 : Int) => kCons cs fun (c : AV) (cs 
  : List AV) => kInt .i64 c fun (n_2 : Int) => kCons cs fun (c : AV) (cs : List AV) => kStr c fun (s : List UInt8) => kCons cs fun (c : AV) (cs : List AV) => kSl c fun (rows : List (List 
  AV)) => kNil cs (kOpt (EVf (EV cfg) 14 [.agg [.int .i64 n_1, .int .i64 n_2, .str s, .sl rows]]) fun (v : AV) => kAgg v fun (cs : List AV) => kCons cs fun (c : AV) (cs : List AV) => 
  kInt .i64 c fun (n_3 : Int) => kCons cs fun (c : AV) (cs : List AV) => kInt .i64 c fun (n_4 : Int) => kCons cs fun (c : AV) (cs : List AV) => kStr c fun (s : List UInt8) => kCons cs 
  fun (c : AV) (cs : List AV) => kSl c fun (rows : List (List AV)) => kNil cs (bif true && Nat.ble (0 + n) (List.length rs) && fitsIn (n + 1) 56 then W59_0 ((fx 20 [(0, .sl A), (3, .ms 
  0 0 (n + 1)), (4, .int .i64 (IntKind.wrap .i64 (v4 + (1 : Int))))]), [.rows true 4 (List.append (List.take n rs) [[.int .i64 n_3, .int .i64 n_4, .str s, .sl rows]])]) else none)) else 
  none else none else none else bif Nat.ble (0 + n) (List.length rs) && true then some (.sl (List.take n rs)) else none) P) : Gets (w59_1 rs n A v4) P :=
  Gets.ev (fun _ h => loop_step (cfg := cfg) (f := 59) (rd := none) h) (Gets.eq (by kernel_rfl) h)
theorem f17_run (ka : Int) (na : Int) (sa : List UInt8) (A : List (List AV)) (kb : Int) (nb : Int) (sb : List UInt8) (B : List (List AV)) {P : AV → Prop} (h : Gets (bif ka == kb then bif na == nb then bif sa == sb then kOpt (EVs (EV cfg) 67 [.sl A, .sl B]) fun (v : AV) => kBool v fun (b : Bool) => some (.bool b) else some (.bool false) else some 
  (.bool false) else some (.bool false)) P) : Gets (EVs (EV cfg) 17 ([AV.agg [AV.int IntKind.i64 ka, AV.int IntKind.i64 na, AV.str sa, AV.sl A], AV.agg [AV.int IntKind.i64 kb, AV.int IntKind.i64 nb, AV.str sb, AV.sl B]] : List AV)) P :=
  Gets.ev (fun _ h => funS rfl rfl Try.func17 rfl h) (Gets.eq (by kernel_rfl) h)
theorem f67_run (A : List (List AV)) (B : List (List AV)) {P : AV → Prop} (h : Gets (bif (↑(List.length A) : Int) != (↑(List.length B) : Int) then some (.bool false) else W67_0 ((fx 27 [(0, .sl A), (1, .sl B), (5, .int .i64 (0 : Int))]), [])) P) : Gets (EVs (EV cfg) 67 ([AV.sl A, AV.sl B] : List AV)) P :=
  Gets.ev (fun _ h => funS rfl rfl Try.func67 rfl h) (Gets.eq (by kernel_rfl) h)
noncomputable abbrev w67_0 (A : List (List AV)) (B : List (List AV)) (v5 : Int) : Option (AV) := W67_0 (((fx 27 [(0, AV.sl A), (1, AV.sl B), (5, AV.int IntKind.i64 v5)]) : List AV), ([] : AH))
theorem w67_0_step (A : List (List AV)) (B : List (List AV)) (v5 : Int) {P : AV → Prop} (h : Gets (bif decide (v5 < (↑(List.length A) : Int)) then bif leInt (0 : Int) v5 && ltInt v5 (↑(List.length A) : Int) then kOpt (List.get?Internal A (Int.toNat v5)) fun (row : List AV) => bif 
  Nat.beq (List.length row) 4 then bif Nat.ble 4 (List.length row) then kCons (List.take 4 row) fun (c : AV) (cs : List AV) => kInt .i64 c fun (n : Int) => kCons cs fun (c : AV) (cs : 
  List AV) => kInt .i64 c fun (n_1 : Int) => kCons cs fun (c : AV) (cs : List AV) => kStr c fun (s : List UInt8) => kCons cs fun (c : AV) (cs : List AV) => kSl c fun (rows : List (List 
  AV)) => kNil cs (bif leInt (0 : Int) v5 && ltInt v5 (↑(List.length B) : Int) then kOpt (List.get?Internal B (Int.toNat v5)) fun (row : List AV) => bif Nat.beq (List.length row) 4 then 
  bif Nat.ble 4 (List.length row) then kCons (List.take 4 row) fun (c : AV) (cs : List AV) => kInt .i64 c fun (n_2 : Int) => kCons cs fun (c : AV) (cs : List AV) => kInt .i64 c fun (n_3 
  : Int) => kCons cs fun (c : AV) (cs : List AV) => kStr c fun (s_1 : List UInt8) => kCons cs fun (c : AV) (cs : List AV) => kSl c fun (rows_1 : List (List AV)) => kNil cs (kOpt (EVs 
  (EV cfg) 17 [.agg [.int .i64 n, .int .i64 n_1, .str s, .sl rows], .agg [.int .i64 n_2, .int .i64 n_3, .str s_1, .sl rows_1]]) fun (v : AV) => kBool v fun (b : Bool) => bif !b then some 
  (.bool false) else W67_0 ((fx 27 [(0, .sl A), (1, .sl B), (5, .int .i64 (IntKind.wrap .i64 (v5 + (1 : Int))))]), [])) else none else none else none) else none else none else none else 
  some (.bool true)) P) : Gets (w67_0 A B v5) P :=
  Gets.ev (fun _ h => loop_step (cfg := cfg) (f := 67) (rd := none) h) (Gets.eq (by kernel_rfl) h)
theorem f60_run (a : Int) (b : Int) {P : AV → Prop} (h : Gets (kOpt (EVs (EV cfg) 95 [.int .i64 a]) fun (v : AV) => kBool v fun (b_1 : Bool) => kOpt (EVs (EV cfg) 95 [.int .i64 b]) fun (v : AV) => kBool v fun (b_2 : Bool) => bif b_1 then bif b_2 
  then some (.int .i64 (0 : Int)) else some (.int .i64 (-1 : Int)) else bif b_2 then some (.int .i64 (1 : Int)) else bif decide (a < b) then some (.int .i64 (-1 : Int)) else bif decide 
  (a > b) then some (.int .i64 (1 : Int)) else some (.int .i64 (0 : Int))) P) : Gets (EVs (EV cfg) 60 ([AV.int IntKind.i64 a, AV.int IntKind.i64 b] : List AV)) P :=
  Gets.ev (fun _ h => funS rfl rfl Try.func60 rfl h) (Gets.eq (by kernel_rfl) h)
theorem f95_run (a : Int) {P : AV → Prop} (h : Gets (some (.bool (a != a))) P) : Gets (EVs (EV cfg) 95 ([AV.int IntKind.i64 a] : List AV)) P :=
  Gets.ev (fun _ h => funS rfl rfl Try.func95 rfl h) (Gets.eq (by kernel_rfl) h)
theorem f61_run (a : List UInt8) (b : List UInt8) {P : AV → Prop} (h : Gets (kOpt (EVs (EV cfg) 96 [.str a, .str b]) fun (v : AV) => kInt .i64 v fun (n : Int) => some (.int .i64 n)) P) : Gets (EVs (EV cfg) 61 ([AV.str a, AV.str b] : List AV)) P :=
  Gets.ev (fun _ h => funS rfl rfl Try.func61 rfl h) (Gets.eq (by kernel_rfl) h)
theorem f96_run (a : List UInt8) (b : List UInt8) {P : AV → Prop} (h : Gets (kOpt (EVs (EV cfg) 107 [.str a, .str b]) fun (v : AV) => kInt .i64 v fun (n : Int) => some (.int .i64 n)) P) : Gets (EVs (EV cfg) 96 ([AV.str a, AV.str b] : List AV)) P :=
  Gets.ev (fun _ h => funS rfl rfl Try.func96 rfl h) (Gets.eq (by kernel_rfl) h)
theorem f62_run (A : List (List AV)) {P : AV → Prop} (h : Gets (W62_0 ((fx 18 [(3, .int .i64 (0 : Int)), (6, .sl A), (7, .int .i64 (↑(List.length A) : Int)), (8, .int .i64 (0 : Int))]), [])) P) : Gets (EVs (EV cfg) 62 ([AV.sl A] : List AV)) P :=
  Gets.ev (fun _ h => funS rfl rfl Try.func62 rfl h) (Gets.eq (by kernel_rfl) h)
noncomputable abbrev w62_0 (A : List (List AV)) (v8 : Int) : Option (AV) := W62_0 (((fx 18 [(3, AV.int IntKind.i64 (0 : Int)), (6, AV.sl A), (7, AV.int IntKind.i64 (↑(List.length A) : Int)), (8, AV.int IntKind.i64 v8)]) : List AV), ([] : AH))
theorem w62_0_step (A : List (List AV)) (v8 : Int) {P : AV → Prop} (h : Gets (bif decide (v8 < (↑(List.length A) : Int)) then bif leInt (0 : Int) v8 && ltInt v8 (↑(List.length A) : Int) then kOpt (List.get?Internal A (Int.toNat v8)) fun (row : List AV) => bif 
  Nat.beq (List.length row) 1 then kOpt (List.get?Internal row 0) fun (v : AV) => kInt .i64 v fun (n : Int) => bif n != (0 : Int) then some (.int .i64 n) else W62_0 ((fx 18 [(3, .int 
  .i64 (0 : Int)), (6, .sl A), (7, .int .i64 (↑(List.length A) : Int)), (8, .int .i64 (IntKind.wrap .i64 (v8 + (1 : Int))))]), []) else none else none else some (.int .i64 (0 : Int))) P) : Gets (w62_0 A v8) P :=
  Gets.ev (fun _ h => loop_step (cfg := cfg) (f := 62) (rd := none) h) (Gets.eq (by kernel_rfl) h)
theorem f63_run (A : List (List AV)) (B : List (List AV)) {P : AV → Prop} (h : Gets (kOpt (EVs (EV cfg) 97 [.sl A, .sl B, AV.fn (Fn.func 15) [] []]) fun (v : AV) => kInt .i64 v fun (n : Int) => some (.int .i64 n)) P) : Gets (EVs (EV cfg) 63 ([AV.sl A, AV.sl B] : List AV)) P :=
  Gets.ev (fun _ h => funS rfl rfl Try.func63 rfl h) (Gets.eq (by kernel_rfl) h)
theorem f97_run (A : List (List AV)) (B : List (List AV)) {P : AV → Prop} (h : Gets (W97_0 ((fx 39 [(0, .sl A), (1, .sl B), (2, AV.fn (Fn.func 15) [] []), (11, .sl A), (12, .int .i64 (↑(List.length A) : Int)), (13, .int .i64 (0 : Int))]), [])) P) : Gets (EVs (EV cfg) 97 ([AV.sl A, AV.sl B, AV.fn (Fn.func (15 : Nat)) [] []] : List AV)) P :=
  Gets.ev (fun _ h => funS rfl rfl Try.func97 rfl h) (Gets.eq (by kernel_rfl) h)
noncomputable abbrev w97_0 (A : List (List AV)) (B : List (List AV)) (v13 : Int) : Option (AV) := W97_0 (((fx 39 [(0, AV.sl A), (1, AV.sl B), (2, AV.fn (Fn.func (15 : Nat)) [] []), (11, AV.sl A), (12, AV.int IntKind.i64 (↑(List.length A) : Int)), (13, AV.int IntKind.i64 v13)]) : List AV), ([] : AH))
theorem w97_0_step (A : List (List AV)) (B : List (List AV)) (v13 : Int) {P : AV → Prop} (h : Gets (bif decide (v13 < (↑(List.length A) : Int)) then bif leInt (0 : Int) v13 && ltInt v13 (↑(List.length A) : Int) then kOpt (List.get?Internal A (Int.toNat v13)) fun (row : List AV) => 
  bif Nat.beq (List.length row) 4 then bif Nat.ble 4 (List.length row) then kCons (List.take 4 row) fun (c : AV) (cs : List AV) => kInt .i64 c fun (n : Int) => kCons cs fun (c : AV) (cs 
  : List AV) => kInt .i64 c fun (n_1 : Int) => kCons cs fun (c : AV) (cs : List AV) => kStr c fun (s : List UInt8) => kCons cs fun (c : AV) (cs : List AV) => kSl c fun (rows : List (List 
  AV)) => kNil cs (bif decide (v13 ≥ (↑(List.length B) : Int)) then some (.int .i64 (1 : Int)) else bif leInt (0 : Int) v13 && ltInt v13 (↑(List.length B) : Int) then kOpt (List.get?Internal 
  B (Int.toNat v13)) fun (row : List AV) => bif Nat.beq (List.length row) 4 then bif Nat.ble 4 (List.length row) then kCons (List.take 4 row) fun (c : AV) (cs : List AV) => kInt .i64 
  c fun (n_2 : Int) => kCons cs fun (c : AV) (cs : List AV) => kInt .i64 c fun (n_3 : Int) => kCons cs fun (c : AV) (cs : List AV) => kStr c fun (s_1 : List UInt8) => kCons cs fun (c 
  : AV) (cs : List AV) => kSl c fun (rows_1 : List (List AV)) => kNil cs (kOpt (EVs (EV cfg) 15 [.agg [.int .i64 n, .int .i64 n_1, .str s, .sl rows], .agg [.int .i64 n_2, .int .i64 n_3, 
  .str s_1, .sl rows_1]]) fun (v : AV) => kInt .i64 v fun (n : Int) => bif n != (0 : Int) then some (.int .i64 n) else W97_0 ((fx 39 [(0, .sl A), (1, .sl B), (2, AV.fn (Fn.func 15) [] 
  []), (11, .sl A), (12, .int .i64 (↑(List.length A) : Int)), (13, .int .i64 (IntKind.wrap .i64 (v13 + (1 : Int))))]), [])) else none else none else none) else none else none else none 
  else bif decide ((↑(List.length A) : Int) < (↑(List.length B) : Int)) then some (.int .i64 (-1 : Int)) else some (.int .i64 (0 : Int))) P) : Gets (w97_0 A B v13) P :=
  Gets.ev (fun _ h => loop_step (cfg := cfg) (f := 97) (rd := none) h) (Gets.eq (by kernel_rfl) h)
theorem f15_run (ka : Int) (na : Int) (sa : List UInt8) (A : List (List AV)) (kb : Int) (nb : Int) (sb : List UInt8) (B : List (List AV)) {P : AV → Prop} (h : Gets (W15_0 ((fx 117 [(2, .ptr 0 0 0), (3, .ptr 1 0 0)]), [.rows false 4 [[.int .i64 ka, .int .i64 na, .str sa, .sl A]], .rows false 4 [[.int .i64 kb, .int .i64 nb, .str sb, .sl B]]])) P) : Gets (EVs (EV cfg) 15 ([AV.agg [AV.int IntKind.i64 ka, AV.int IntKind.i64 na, AV.str sa, AV.sl A], AV.agg [AV.int IntKind.i64 kb, AV.int IntKind.i64 nb, AV.str sb, AV.sl B]] : List AV)) P :=
  Gets.ev (fun _ h => funS rfl rfl Try.func15 rfl h) (Gets.eq (by kernel_rfl) h)
noncomputable abbrev w15_0 (ka : Int) (na : Int) (sa : List UInt8) (A : List (List AV)) (kb : Int) (nb : Int) (sb : List UInt8) (B : List (List AV)) : Option (AV) := W15_0 (((fx 117 [(2, AV.ptr (0 : Nat) (0 : Nat) (0 : Nat)), (3, AV.ptr (1 : Nat) (0 : Nat) (0 : Nat))]) : List AV), ([ABlk.rows false (4 : Nat) [[AV.int IntKind.i64 ka, AV.int IntKind.i64 na, AV.str sa, AV.sl A]], ABlk.rows false (4 : Nat) [[AV.int IntKind.i64 kb, AV.int IntKind.i64 nb, AV.str sb, AV.sl B]]] : AH))
theorem w15_0_step (ka : Int) (na : Int) (sa : List UInt8) (A : List (List AV)) (kb : Int) (nb : Int) (sb : List UInt8) (B : List (List AV)) {P : AV → Prop} (h : Gets (kOpt (EVs (EV cfg) 60 [.int .i64 ka, .int .i64 kb]) fun (v : AV) => kInt .i64 v fun (n : Int) => bif n != (0 : Int) then some (.int .i64 n) else bif ka == (1 : Int) then kOpt (EVs (EV 
  cfg) 60 [.int .i64 na, .int .i64 nb]) fun (v : AV) => kInt .i64 v fun (n : Int) => some (.int .i64 n) else bif ka == (3 : Int) then kOpt (EVs (EV cfg) 60 [.int .i64 na, .int .i64 nb]) 
  fun (v : AV) => kInt .i64 v fun (n : Int) => some (.int .i64 n) else bif ka == (4 : Int) then kOpt (EVs (EV cfg) 60 [.int .i64 na, .int .i64 nb]) fun (v : AV) => kInt .i64 v fun (n 
  : Int) => some (.int .i64 n) else bif ka == (6 : Int) then kOpt (EVs (EV cfg) 60 [.int .i64 na, .int .i64 nb]) fun (v : AV) => kInt .i64 v fun (n : Int) => some (.int .i64 n) else bif 
  ka == (2 : Int) then kOpt (EVs (EV cfg) 61 [.str sa, .str sb]) fun (v : AV) => kInt .i64 v fun (n : Int) => some (.int .i64 n) else bif ka == (5 : Int) then kOpt (EVs (EV cfg) 60 [.int 
  .i64 na, .int .i64 nb]) fun (v : AV) => kInt .i64 v fun (n : Int) => kOpt (EVs (EV cfg) 60 [.int .i64 (↑(List.length A) : Int), .int .i64 (↑(List.length B) : Int)]) fun (v : AV) => 
  kInt .i64 v fun (n_1 : Int) => kOpt (EVs (EV cfg) 63 [.sl A, .sl B]) fun (v : AV) => kInt .i64 v fun (n_2 : Int) => kOpt (EVs (EV cfg) 62 [.sl [[.int .i64 n], [.int .i64 n_1], [.int 
  .i64 n_2]]]) fun (v : AV) => kInt .i64 v fun (n : Int) => some (.int .i64 n) else bif ka == (9 : Int) then bif (↑(List.length A) : Int) == (2 : Int) then bif (↑(List.length B) : Int) 
  == (2 : Int) then bif true && ltInt (0 : Int) (↑(List.length A) : Int) then kOpt (List.get?Internal A (Int.toNat (0 : Int))) fun (row : List AV) => bif Nat.beq (List.length row) 4 then 
  bif Nat.ble 4 (List.length row) then kCons (List.take 4 row) fun (c : AV) (cs : List AV) => kInt .i64 c fun (n : Int) => kCons cs fun (c : AV) (cs : List AV) => kInt .i64 c fun (n_1 
  : Int) => kCons cs fun (c : AV) (cs : List AV) => kStr c fun (s : List UInt8) => kCons cs fun (c : AV) (cs : List AV) => kSl c fun (rows : List (List AV)) => kNil cs (bif true && ltInt 
  (0 : Int) (↑(List.length B) : Int) then kOpt (List.get?Internal B (Int.toNat (0 : Int))) fun (row : List AV) => bif Nat.beq (List.length row) 4 then bif Nat.ble 4 (List.length row) 
  then kCons (List.take 4 row) fun (c : AV) (cs : List AV) => kInt .i64 c fun (n_2 : Int) => kCons cs fun (c : AV) (cs : List AV) => kInt .i64 c fun (n_3 : Int) => kCons cs fun (c : AV) 
  (cs : List AV) => kStr c fun (s_1 : List UInt8) => kCons cs fun (c : AV) (cs : List AV) => kSl c fun (rows_1 : List (List AV)) => kNil cs (kOpt (EVs (EV cfg) 15 [.agg [.int .i64 n, 
  .int .i64 n_1, .str s, .sl rows], .agg [.int .i64 n_2, .int .i64 n_3, .str s_1, .sl rows_1]]) fun (v : AV) => kInt .i64 v fun (n : Int) => bif n != (0 : Int) then some (.int .i64 n) 
  else bif true && ltInt (1 : Int) (↑(List.length A) : Int) then kOpt (List.get?Internal A (Int.toNat (1 : Int))) fun (row : List AV) => bif Nat.beq (List.length row) 4 then bif Nat.ble 
  4 (List.length row) then kCons (List.take 4 row) fun (c : AV) (cs : List AV) => kInt .i64 c fun (n : Int) => kCons cs fun (c : AV) (cs : List AV) => kInt .i64 c fun (n_4 : Int) => kCons 
  cs fun (c : AV) (cs : List AV) => kStr c fun (s : List UInt8) => kCons cs fun (c : AV) (cs : List AV) => kSl c fun (rows : List (List AV)) => kNil cs (bif true && ltInt (1 : Int) (↑(List.length 
  B) : Int) then kOpt (List.get?Internal B (Int.toNat (1 : Int))) fun (row : List AV) => bif Nat.beq (List.length row) 4 then bif Nat.ble 4 (List.length row) then kCons (List.take 4 row) 
  fun (c : AV) (cs : List AV) => kInt .i64 c fun (n_5 : Int) => kCons cs fun (c : AV) (cs : List AV) => kInt .i64 c fun (n_6 : Int) => kCons cs fun (c : AV) (cs : List AV) => kStr c fun 
  (s_2 : List UInt8) => kCons cs fun (c : AV) (cs : List AV) => kSl c fun (rows_2 : List (List AV)) => kNil cs (W15_0 ((fx 117 [(2, .ptr 0 0 0), (3, .ptr 1 0 0)]), [.rows false 4 [[.int 
  .i64 n, .int .i64 n_4, .str s, .sl rows]], .rows false 4 [[.int .i64 n_5, .int .i64 n_6, .str s_2, .sl rows_2]]])) else none else none else none) else none else none else none) else 
  none else none else none) else none else none else none else kOpt (EVs (EV cfg) 60 [.int .i64 (↑(List.length A) : Int), .int .i64 (↑(List.length B) : Int)]) fun (v : AV) => kInt .i64 
  v fun (n : Int) => kOpt (EVs (EV cfg) 63 [.sl A, .sl B]) fun (v : AV) => kInt .i64 v fun (n_1 : Int) => kOpt (EVs (EV cfg) 62 [.sl [[.int .i64 n], [.int .i64 n_1]]]) fun (v : AV) => 
  kInt .i64 v fun (n : Int) => some (.int .i64 n) else kOpt (EVs (EV cfg) 60 [.int .i64 (↑(List.length A) : Int), .int .i64 (↑(List.length B) : Int)]) fun (v : AV) => kInt .i64 v fun 
  (n : Int) => kOpt (EVs (EV cfg) 63 [.sl A, .sl B]) fun (v : AV) => kInt .i64 v fun (n_1 : Int) => kOpt (EVs (EV cfg) 62 [.sl [[.int .i64 n], [.int .i64 n_1]]]) fun (v : AV) => kInt 
  .i64 v fun (n : Int) => some (.int .i64 n) else bif ka == (7 : Int) then kOpt (EVs (EV cfg) 60 [.int .i64 (↑(List.length A) : Int), .int .i64 (↑(List.length B) : Int)]) fun (v : AV) 
  => kInt .i64 v fun (n : Int) => kOpt (EVs (EV cfg) 63 [.sl A, .sl B]) fun (v : AV) => kInt .i64 v fun (n_1 : Int) => kOpt (EVs (EV cfg) 62 [.sl [[.int .i64 n], [.int .i64 n_1]]]) fun 
  (v : AV) => kInt .i64 v fun (n : Int) => some (.int .i64 n) else some (.int .i64 (0 : Int))) P) : Gets (w15_0 ka na sa A kb nb sb B) P :=
  Gets.ev (fun _ h => loop_step (cfg := cfg) (f := 15) (rd := none) h) (Gets.eq (by kernel_rfl) h)
theorem f64_run (a : Int) (b : Int) {P : AV → Prop} (h : Gets (bif decide (a < b) then some (.int .i64 (-1 : Int)) else bif decide (a > b) then some (.int .i64 (1 : Int)) else some (.int .i64 (0 : Int))) P) : Gets (EVs (EV cfg) 64 ([AV.int IntKind.i64 a, AV.int IntKind.i64 b] : List AV)) P :=
  Gets.ev (fun _ h => funS rfl rfl Try.func64 rfl h) (Gets.eq (by kernel_rfl) h)
theorem f65_run (a : List UInt8) (b : List UInt8) {P : AV → Prop} (h : Gets (bif Op.bytesLess a b then some (.int .i64 (-1 : Int)) else bif !(Op.bytesLess a b || a == b) then some (.int .i64 (1 : Int)) else some (.int .i64 (0 : Int))) P) : Gets (EVs (EV cfg) 65 ([AV.str a, AV.str b] : List AV)) P :=
  Gets.ev (fun _ h => funS rfl rfl Try.func65 rfl h) (Gets.eq (by kernel_rfl) h)
theorem f66_run (A : List (List AV)) (B : List (List AV)) {P : AV → Prop} (h : Gets (kOpt (EVs (EV cfg) 64 [.int .i64 (↑(List.length A) : Int), .int .i64 (↑(List.length B) : Int)]) fun (v : AV) => kInt .i64 v fun (n : Int) => W66_0 ((fx 32 [(0, .sl A), (1, .sl B), (5, 
  .int .i64 n), (6, .int .i64 (0 : Int))]), [])) P) : Gets (EVs (EV cfg) 66 ([AV.sl A, AV.sl B] : List AV)) P :=
  Gets.ev (fun _ h => funS rfl rfl Try.func66 rfl h) (Gets.eq (by kernel_rfl) h)
noncomputable abbrev w66_0 (A : List (List AV)) (B : List (List AV)) (v5 : Int) (v6 : Int) : Option (AV) := W66_0 (((fx 32 [(0, AV.sl A), (1, AV.sl B), (5, AV.int IntKind.i64 v5), (6, AV.int IntKind.i64 v6)]) : List AV), ([] : AH))
theorem w66_0_step (A : List (List AV)) (B : List (List AV)) (v5 : Int) (v6 : Int) {P : AV → Prop} (h : Gets (bif decide (v6 < (↑(List.length A) : Int)) then bif v5 == (0 : Int) then bif leInt (0 : Int) v6 && ltInt v6 (↑(List.length A) : Int) then kOpt (List.get?Internal A (Int.toNat v6)) fun 
  (row : List AV) => bif Nat.beq (List.length row) 4 then bif Nat.ble 4 (List.length row) then kCons (List.take 4 row) fun (c : AV) (cs : List AV) => kInt .i64 c fun (n : Int) => kCons 
  cs fun (c : AV) (cs : List AV) => kInt .i64 c fun (n_1 : Int) => kCons cs fun (c : AV) (cs : List AV) => kStr c fun (s : List UInt8) => kCons cs fun (c : AV) (cs : List AV) => kSl c 
  fun (rows : List (List AV)) => kNil cs (bif leInt (0 : Int) v6 && ltInt v6 (↑(List.length B) : Int) then kOpt (List.get?Internal B (Int.toNat v6)) fun (row : List AV) => bif Nat.beq 
  (List.length row) 4 then bif Nat.ble 4 (List.length row) then kCons (List.take 4 row) fun (c : AV) (cs : List AV) => kInt .i64 c fun (n_2 : Int) => kCons cs fun (c : AV) (cs : List 
  AV) => kInt .i64 c fun (n_3 : Int) => kCons cs fun (c : AV) (cs : List AV) => kStr c fun (s_1 : List UInt8) => kCons cs fun (c : AV) (cs : List AV) => kSl c fun (rows_1 : List (List 
  AV)) => kNil cs (kOpt (EVs (EV cfg) 16 [.agg [.int .i64 n, .int .i64 n_1, .str s, .sl rows], .agg [.int .i64 n_2, .int .i64 n_3, .str s_1, .sl rows_1]]) fun (v : AV) => kInt .i64 v 
  fun (n : Int) => W66_0 ((fx 32 [(0, .sl A), (1, .sl B), (5, .int .i64 n), (6, .int .i64 (IntKind.wrap .i64 (v6 + (1 : Int))))]), [])) else none else none else none) else none else none 
  else none else some (.int .i64 v5) else some (.int .i64 v5)) P) : Gets (w66_0 A B v5 v6) P :=
  Gets.ev (fun _ h => loop_step (cfg := cfg) (f := 66) (rd := none) h) (Gets.eq (by kernel_rfl) h)
theorem f16_run (ka : Int) (na : Int) (sa : List UInt8) (A : List (List AV)) (kb : Int) (nb : Int) (sb : List UInt8) (B : List (List AV)) {P : AV → Prop} (h : Gets (kOpt (EVs (EV cfg) 64 [.int .i64 ka, .int .i64 kb]) fun (v : AV) => kInt .i64 v fun (n : Int) => bif n != (0 : Int) then some (.int .i64 n) else bif ka == (1 : Int) then kOpt (EVs (EV 
  cfg) 64 [.int .i64 na, .int .i64 nb]) fun (v : AV) => kInt .i64 v fun (n : Int) => some (.int .i64 n) else bif ka == (3 : Int) then kOpt (EVs (EV cfg) 64 [.int .i64 na, .int .i64 nb]) 
  fun (v : AV) => kInt .i64 v fun (n : Int) => some (.int .i64 n) else bif ka == (4 : Int) then kOpt (EVs (EV cfg) 64 [.int .i64 na, .int .i64 nb]) fun (v : AV) => kInt .i64 v fun (n 
  : Int) => some (.int .i64 n) else bif ka == (6 : Int) then kOpt (EVs (EV cfg) 64 [.int .i64 na, .int .i64 nb]) fun (v : AV) => kInt .i64 v fun (n : Int) => some (.int .i64 n) else bif 
  ka == (2 : Int) then kOpt (EVs (EV cfg) 65 [.str sa, .str sb]) fun (v : AV) => kInt .i64 v fun (n : Int) => some (.int .i64 n) else bif ka == (5 : Int) then kOpt (EVs (EV cfg) 64 [.int 
  .i64 na, .int .i64 nb]) fun (v : AV) => kInt .i64 v fun (n : Int) => bif n != (0 : Int) then some (.int .i64 n) else kOpt (EVs (EV cfg) 66 [.sl A, .sl B]) fun (v : AV) => kInt .i64 
  v fun (n : Int) => some (.int .i64 n) else bif ka == (7 : Int) then kOpt (EVs (EV cfg) 66 [.sl A, .sl B]) fun (v : AV) => kInt .i64 v fun (n : Int) => some (.int .i64 n) else bif ka 
  == (9 : Int) then kOpt (EVs (EV cfg) 66 [.sl A, .sl B]) fun (v : AV) => kInt .i64 v fun (n : Int) => some (.int .i64 n) else some (.int .i64 (0 : Int))) P) : Gets (EVs (EV cfg) 16 ([AV.agg [AV.int IntKind.i64 ka, AV.int IntKind.i64 na, AV.str sa, AV.sl A], AV.agg [AV.int IntKind.i64 kb, AV.int IntKind.i64 nb, AV.str sb, AV.sl B]] : List AV)) P :=
  Gets.ev (fun _ h => funS rfl rfl Try.func16 rfl h) (Gets.eq (by kernel_rfl) h)
theorem f28_run (A : List (List AV)) {P : AV → Prop} (h : Gets (some (.agg [.int .i64 (7 : Int), .int .i64 (0 : Int), .str [], .sl A])) P) : Gets (EVf (EV cfg) 28 ([AV.sl A] : List AV)) P :=
  Gets.ev (fun _ h => funF rfl rfl Try.func28 rfl h) (Gets.eq (by kernel_rfl) h)
theorem f29_run (i : Int) {P : AV → Prop} (h : Gets (kOpt (EVf (EV cfg) 38 [.int .i64 i]) fun (v : AV) => kAgg v fun (cs : List AV) => kCons cs fun (c : AV) (cs : List AV) => kInt .i64 c fun (n : Int) => kCons cs fun (c : AV) (cs : List 
  AV) => kInt .i64 c fun (n_1 : Int) => kCons cs fun (c : AV) (cs : List AV) => kStr c fun (s : List UInt8) => kCons cs fun (c : AV) (cs : List AV) => kSl c fun (rows : List (List AV)) 
  => kNil cs (some (.agg [.int .i64 n, .int .i64 n_1, .str s, .sl rows]))) P) : Gets (EVf (EV cfg) 29 ([AV.int IntKind.i64 i] : List AV)) P :=
  Gets.ev (fun _ h => funF rfl rfl Try.func29 rfl h) (Gets.eq (by kernel_rfl) h)
theorem f31_run (t : List UInt8) {P : AV → Prop} (h : Gets (kOpt (EVf (EV cfg) 75 [.str t]) fun (v : AV) => kAgg v fun (cs : List AV) => kCons cs fun (c : AV) (cs : List AV) => kInt .i64 c fun (n : Int) => kCons cs fun (c : AV) (cs : List AV) 
  => kInt .i64 c fun (n_1 : Int) => kCons cs fun (c : AV) (cs : List AV) => kStr c fun (s : List UInt8) => kCons cs fun (c : AV) (cs : List AV) => kSl c fun (rows : List (List AV)) => 
  kNil cs (some (.agg [.int .i64 n, .int .i64 n_1, .str s, .sl rows]))) P) : Gets (EVf (EV cfg) 31 ([AV.str t] : List AV)) P :=
  Gets.ev (fun _ h => funF rfl rfl Try.func31 rfl h) (Gets.eq (by kernel_rfl) h)
theorem f30_run (A : List (List AV)) {P : AV → Prop} (h : Gets (kOpt (EVf (EV cfg) 74 []) fun (v : AV) => kAgg v fun (cs : List AV) => kCons cs fun (c : AV) (cs : List AV) => kInt .i64 c fun (n : Int) => kCons cs fun (c : AV) (cs : List AV) => kInt 
  .i64 c fun (n_1 : Int) => kCons cs fun (c : AV) (cs : List AV) => kStr c fun (s : List UInt8) => kCons cs fun (c : AV) (cs : List AV) => kSl c fun (rows : List (List AV)) => kNil cs 
  (kOpt (EVf (EV cfg) 73 [.sl A, .agg [.int .i64 n, .int .i64 n_1, .str s, .sl rows]]) fun (v : AV) => kAgg v fun (cs : List AV) => kCons cs fun (c : AV) (cs : List AV) => kInt .i64 c 
  fun (n : Int) => kCons cs fun (c : AV) (cs : List AV) => kInt .i64 c fun (n_2 : Int) => kCons cs fun (c : AV) (cs : List AV) => kStr c fun (s : List UInt8) => kCons cs fun (c : AV) 
  (cs : List AV) => kSl c fun (rows : List (List AV)) => kNil cs (some (.agg [.int .i64 n, .int .i64 n_2, .str s, .sl rows])))) P) : Gets (EVf (EV cfg) 30 ([AV.sl A] : List AV)) P :=
  Gets.ev (fun _ h => funF rfl rfl Try.func30 rfl h) (Gets.eq (by kernel_rfl) h)
theorem f38_run (i : Int) {P : AV → Prop} (h : Gets (some (.agg [.int .i64 (1 : Int), .int .i64 i, .str [], .sl []])) P) : Gets (EVf (EV cfg) 38 ([AV.int IntKind.i64 i] : List AV)) P :=
  Gets.ev (fun _ h => funF rfl rfl Try.func38 rfl h) (Gets.eq (by kernel_rfl) h)
theorem f75_run (t : List UInt8) {P : AV → Prop} (h : Gets (some (.agg [.int .i64 (2 : Int), .int .i64 (0 : Int), .str t, .sl []])) P) : Gets (EVf (EV cfg) 75 ([AV.str t] : List AV)) P :=
  Gets.ev (fun _ h => funF rfl rfl Try.func75 rfl h) (Gets.eq (by kernel_rfl) h)
theorem f74_run  {P : AV → Prop} (h : Gets (some (.agg [.int .i64 (8 : Int), .int .i64 (0 : Int), .str [], .sl []])) P) : Gets (EVf (EV cfg) 74 ([] : List AV)) P :=
  Gets.ev (fun _ h => funF rfl rfl Try.func74 rfl h) (Gets.eq (by kernel_rfl) h)
theorem f73_run (A : List (List AV)) (ki : Int) (n : Int) (s : List UInt8) (B : List (List AV)) {P : AV → Prop} (h : Gets (W73_0 ((fx 23 [(0, .sl A), (4, .ptr 1 0 0), (5, .ptr 2 0 0), (6, .int .i64 (IntKind.wrap .i64 ((↑(List.length A) : Int) - (1 : Int))))]), [.rows false 4 [[.int .i64 ki, .int .i64 n, 
  .str s, .sl B]], .rows false 4 [[.int .i64 (0 : Int), .int .i64 (0 : Int), .str [], .sl []]], .rows false 4 [[.int .i64 ki, .int .i64 n, .str s, .sl B]]])) P) : Gets (EVf (EV cfg) 73 ([AV.sl A, AV.agg [AV.int IntKind.i64 ki, AV.int IntKind.i64 n, AV.str s, AV.sl B]] : List AV)) P :=
  Gets.ev (fun _ h => funF rfl rfl Try.func73 rfl h) (Gets.eq (by kernel_rfl) h)
noncomputable abbrev w73_0 (k2 : Int) (n2 : Int) (s2 : List UInt8) (B2 : List (List AV)) (A : List (List AV)) (ki : Int) (n : Int) (s : List UInt8) (B : List (List AV)) (v6 : Int) : Option (AV) := W73_0 (((fx 23 [(0, AV.sl A), (4, AV.ptr (1 : Nat) (0 : Nat) (0 : Nat)), (5, AV.ptr (2 : Nat) (0 : Nat) (0 : Nat)), (6, AV.int IntKind.i64 v6)]) : List AV), ([ABlk.rows false (4 : Nat) [[AV.int IntKind.i64 ki, AV.int IntKind.i64 n, AV.str s, AV.sl B]], ABlk.rows false (4 : Nat) [[AV.int IntKind.i64 (0 : Int), AV.int IntKind.i64 (0 : Int), AV.str [], AV.sl []]], ABlk.rows false (4 : Nat) [[AV.int IntKind.i64 k2, AV.int IntKind.i64 n2, AV.str s2, AV.sl B2]]] : AH))
theorem w73_0_step (k2 : Int) (n2 : Int) (s2 : List UInt8) (B2 : List (List AV)) (A : List (List AV)) (ki : Int) (n : Int) (s : List UInt8) (B : List (List AV)) (v6 : Int) {P : AV → Prop} (h : Gets (bif decide (v6 ≥ (0 : Int)) then bif leInt (0 : Int) v6 && ltInt v6 (↑(List.length A) : Int) then kOpt (List.get?Internal A (Int.toNat v6)) fun (row : List AV) => bif Nat.beq (List.length 
  row) 4 then bif Nat.ble 4 (List.length row) then kCons (List.take 4 row) fun (c : AV) (cs : List AV) => kInt .i64 c fun (n_1 : Int) => kCons cs fun (c : AV) (cs : List AV) => kInt .i64 
  c fun (n_2 : Int) => kCons cs fun (c : AV) (cs : List AV) => kStr c fun (s_1 : List UInt8) => kCons cs fun (c : AV) (cs : List AV) => kSl c fun (rows : List (List AV)) => kNil cs (W73_0 
  ((fx 23 [(0, .sl A), (4, .ptr 1 0 0), (5, .ptr 2 0 0), (6, .int .i64 (IntKind.wrap .i64 (v6 - (1 : Int))))]), [.rows false 4 [[.int .i64 ki, .int .i64 n, .str s, .sl B]], .rows false 
  4 [[.int .i64 (0 : Int), .int .i64 (0 : Int), .str [], .sl []]], .rows false 4 [[.int .i64 (9 : Int), .int .i64 (0 : Int), .str [], .sl [[.int .i64 n_1, .int .i64 n_2, .str s_1, .sl 
  rows], [.int .i64 k2, .int .i64 n2, .str s2, .sl B2]]]]])) else none else none else none else some (.agg [.int .i64 k2, .int .i64 n2, .str s2, .sl B2])) P) : Gets (w73_0 k2 n2 s2 B2 A ki n s B v6) P :=
  Gets.ev (fun _ h => loop_step (cfg := cfg) (f := 73) (rd := none) h) (Gets.eq (by kernel_rfl) h)
theorem f18_run  {P : AV → Prop} (h : Gets (kOpt (EVf (EV cfg) 29 [.int .i64 (1 : Int)]) fun (v : AV) => kAgg v fun (cs : List AV) => kCons cs fun (c : AV) (cs : List AV) => kInt .i64 c fun (n : Int) => kCons cs fun (c : AV) 
  (cs : List AV) => kInt .i64 c fun (n_1 : Int) => kCons cs fun (c : AV) (cs : List AV) => kStr c fun (s : List UInt8) => kCons cs fun (c : AV) (cs : List AV) => kSl c fun (rows : List 
  (List AV)) => kNil cs (kOpt (EVf (EV cfg) 31 [.str [(97 : UInt8)]]) fun (v : AV) => kAgg v fun (cs : List AV) => kCons cs fun (c : AV) (cs : List AV) => kInt .i64 c fun (n_2 : Int) 
  => kCons cs fun (c : AV) (cs : List AV) => kInt .i64 c fun (n_3 : Int) => kCons cs fun (c : AV) (cs : List AV) => kStr c fun (s_1 : List UInt8) => kCons cs fun (c : AV) (cs : List AV) 
  => kSl c fun (rows_1 : List (List AV)) => kNil cs (kOpt (EVs (EV cfg) 15 [.agg [.int .i64 n, .int .i64 n_1, .str s, .sl rows], .agg [.int .i64 n_2, .int .i64 n_3, .str s_1, .sl rows_1]]) 
  fun (v : AV) => kInt .i64 v fun (n : Int) => bif n == (-1 : Int) then kOpt (EVf (EV cfg) 29 [.int .i64 (9 : Int)]) fun (v : AV) => kAgg v fun (cs : List AV) => kCons cs fun (c : AV) 
  (cs : List AV) => kInt .i64 c fun (n : Int) => kCons cs fun (c : AV) (cs : List AV) => kInt .i64 c fun (n_4 : Int) => kCons cs fun (c : AV) (cs : List AV) => kStr c fun (s : List UInt8) 
  => kCons cs fun (c : AV) (cs : List AV) => kSl c fun (rows : List (List AV)) => kNil cs (kOpt (EVf (EV cfg) 28 [.sl [[.int .i64 n, .int .i64 n_4, .str s, .sl rows]]]) fun (v : AV) => 
  kAgg v fun (cs : List AV) => kCons cs fun (c : AV) (cs : List AV) => kInt .i64 c fun (n : Int) => kCons cs fun (c : AV) (cs : List AV) => kInt .i64 c fun (n_5 : Int) => kCons cs fun 
  (c : AV) (cs : List AV) => kStr c fun (s : List UInt8) => kCons cs fun (c : AV) (cs : List AV) => kSl c fun (rows : List (List AV)) => kNil cs (kOpt (EVf (EV cfg) 29 [.int .i64 (1 : 
  Int)]) fun (v : AV) => kAgg v fun (cs : List AV) => kCons cs fun (c : AV) (cs : List AV) => kInt .i64 c fun (n_6 : Int) => kCons cs fun (c : AV) (cs : List AV) => kInt .i64 c fun (n_7 
  : Int) => kCons cs fun (c : AV) (cs : List AV) => kStr c fun (s_2 : List UInt8) => kCons cs fun (c : AV) (cs : List AV) => kSl c fun (rows_2 : List (List AV)) => kNil cs (kOpt (EVf 
  (EV cfg) 30 [AV.sl [[.int .i64 n_6, .int .i64 n_7, .str s_2, .sl rows_2]]]) fun (v : AV) => kAgg v fun (cs : List AV) => kCons cs fun (c : AV) (cs : List AV) => kInt .i64 c fun (n_8 
  : Int) => kCons cs fun (c : AV) (cs : List AV) => kInt .i64 c fun (n_9 : Int) => kCons cs fun (c : AV) (cs : List AV) => kStr c fun (s_3 : List UInt8) => kCons cs fun (c : AV) (cs : 
  List AV) => kSl c fun (rows_3 : List (List AV)) => kNil cs (kOpt (EVs (EV cfg) 15 [AV.agg [.int .i64 n, .int .i64 n_5, .str s, .sl rows], AV.agg [.int .i64 n_8, .int .i64 n_9, .str 
  s_3, .sl rows_3]]) fun (v : AV) => kInt .i64 v fun (n : Int) => bif n == (-1 : Int) then kOpt (EVf (EV cfg) 29 [.int .i64 (1 : Int)]) fun (v : AV) => kAgg v fun (cs : List AV) => kCons 
  cs fun (c : AV) (cs : List AV) => kInt .i64 c fun (n : Int) => kCons cs fun (c : AV) (cs : List AV) => kInt .i64 c fun (n_10 : Int) => kCons cs fun (c : AV) (cs : List AV) => kStr c 
  fun (s : List UInt8) => kCons cs fun (c : AV) (cs : List AV) => kSl c fun (rows : List (List AV)) => kNil cs (kOpt (EVf (EV cfg) 29 [.int .i64 (2 : Int)]) fun (v : AV) => kAgg v fun 
  (cs : List AV) => kCons cs fun (c : AV) (cs : List AV) => kInt .i64 c fun (n_11 : Int) => kCons cs fun (c : AV) (cs : List AV) => kInt .i64 c fun (n_12 : Int) => kCons cs fun (c : AV) 
  (cs : List AV) => kStr c fun (s_4 : List UInt8) => kCons cs fun (c : AV) (cs : List AV) => kSl c fun (rows_4 : List (List AV)) => kNil cs (kOpt (EVf (EV cfg) (30 : Nat) [AV.sl [[AV.int 
  .i64 n, AV.int .i64 n_10, AV.str s, AV.sl rows], [AV.int .i64 n_11, AV.int .i64 n_12, AV.str s_4, AV.sl rows_4]]]) fun (v : AV) => kAgg v fun (cs : List AV) => kCons cs fun (c : AV) 
  (cs : List AV) => kInt .i64 c fun (n : Int) => kCons cs fun (c : AV) (cs : List AV) => kInt .i64 c fun (n_13 : Int) => kCons cs fun (c : AV) (cs : List AV) => kStr c fun (s : List UInt8) 
  => kCons cs fun (c : AV) (cs : List AV) => kSl c fun (rows : List (List AV)) => kNil cs (kOpt (EVf (EV cfg) (29 : Nat) [AV.int .i64 (1 : Int)]) fun (v : AV) => kAgg v fun (cs : List 
  AV) => kCons cs fun (c : AV) (cs : List AV) => kInt .i64 c fun (n_14 : Int) => kCons cs fun (c : AV) (cs : List AV) => kInt .i64 c fun (n_15 : Int) => kCons cs fun (c : AV) (cs : List 
  AV) => kStr c fun (s_5 : List UInt8) => kCons cs fun (c : AV) (cs : List AV) => kSl c fun (rows_5 : List (List AV)) => kNil cs (kOpt (EVf (EV cfg) (30 : Nat) [AV.sl [[AV.int .i64 n_14, 
  AV.int .i64 n_15, AV.str s_5, AV.sl rows_5]]]) fun (v : AV) => kAgg v fun (cs : List AV) => kCons cs fun (c : AV) (cs : List AV) => kInt .i64 c fun (n_16 : Int) => kCons cs fun (c : 
  AV) (cs : List AV) => kInt .i64 c fun (n_17 : Int) => kCons cs fun (c : AV) (cs : List AV) => kStr c fun (s_6 : List UInt8) => kCons cs fun (c : AV) (cs : List AV) => kSl c fun (rows_6 
  : List (List AV)) => kNil cs (kOpt (EVs (EV cfg) (15 : Nat) [AV.agg [AV.int .i64 n, AV.int .i64 n_13, AV.str s, AV.sl rows], AV.agg [AV.int .i64 n_16, AV.int .i64 n_17, AV.str s_6, 
  AV.sl rows_6]]) fun (v : AV) => kInt .i64 v fun (n : Int) => some (AV.bool (n == (1 : Int)))))))) else some (.bool false))))) else some (.bool false)))) P) : Gets (EVs (EV cfg) 18 ([] : List AV)) P :=
  Gets.ev (fun _ h => funS rfl rfl Try.func18 rfl h) (Gets.eq (by kernel_rfl) h)
theorem f3_run (ka : Int) (na : Int) (sa : List UInt8) (A : List (List AV)) (kb : Int) (nb : Int) (sb : List UInt8) (B : List (List AV)) {P : AV → Prop} (h : Gets (kOpt (EVs (EV cfg) 13 [.agg [.int .i64 ka, .int .i64 na, .str sa, .sl A], .int .i64 (400 : Int)]) fun (v : AV) => kBool v fun (b : Bool) => bif b then some (.bool true) else kOpt (EVs 
  (EV cfg) 13 [.agg [.int .i64 kb, .int .i64 nb, .str sb, .sl B], .int .i64 (400 : Int)]) fun (v : AV) => kBool v fun (b : Bool) => bif b then some (.bool true) else kOpt (EVf (EV cfg) 
  14 [.agg [.int .i64 ka, .int .i64 na, .str sa, .sl A]]) fun (v : AV) => kAgg v fun (cs : List AV) => kCons cs fun (c : AV) (cs : List AV) => kInt .i64 c fun (n : Int) => kCons cs fun 
  (c : AV) (cs : List AV) => kInt .i64 c fun (n_1 : Int) => kCons cs fun (c : AV) (cs : List AV) => kStr c fun (s : List UInt8) => kCons cs fun (c : AV) (cs : List AV) => kSl c fun (rows 
  : List (List AV)) => kNil cs (kOpt (EVf (EV cfg) 14 [.agg [.int .i64 kb, .int .i64 nb, .str sb, .sl B]]) fun (v : AV) => kAgg v fun (cs : List AV) => kCons cs fun (c : AV) (cs : List 
  AV) => kInt .i64 c fun (n_2 : Int) => kCons cs fun (c : AV) (cs : List AV) => kInt .i64 c fun (n_3 : Int) => kCons cs fun (c : AV) (cs : List AV) => kStr c fun (s_1 : List UInt8) => 
  kCons cs fun (c : AV) (cs : List AV) => kSl c fun (rows_1 : List (List AV)) => kNil cs (kOpt (EVs (EV cfg) 15 [.agg [.int .i64 n, .int .i64 n_1, .str s, .sl rows], .agg [.int .i64 n_2, 
  .int .i64 n_3, .str s_1, .sl rows_1]]) fun (v : AV) => kInt .i64 v fun (n_4 : Int) => kOpt (EVs (EV cfg) 16 [.agg [.int .i64 ka, .int .i64 na, .str sa, .sl A], .agg [.int .i64 kb, .int 
  .i64 nb, .str sb, .sl B]]) fun (v : AV) => kInt .i64 v fun (n_5 : Int) => bif n_4 == n_5 then kOpt (EVs (EV cfg) 17 [.agg [.int .i64 n, .int .i64 n_1, .str s, .sl rows], .agg [.int 
  .i64 ka, .int .i64 na, .str sa, .sl A]]) fun (v : AV) => kBool v fun (b : Bool) => bif b then kOpt (EVs (EV cfg) 17 [.agg [.int .i64 n_2, .int .i64 n_3, .str s_1, .sl rows_1], .agg 
  [.int .i64 kb, .int .i64 nb, .str sb, .sl B]]) fun (v : AV) => kBool v fun (b : Bool) => bif b then kOpt (EVs (EV cfg) 18 []) fun (v : AV) => kBool v fun (b : Bool) => some (.bool b) 
  else some (.bool false) else some (.bool false) else some (.bool false)))) P) : Gets (EVs (EV cfg) 3 ([AV.agg [AV.int IntKind.i64 ka, AV.int IntKind.i64 na, AV.str sa, AV.sl A], AV.agg [AV.int IntKind.i64 kb, AV.int IntKind.i64 nb, AV.str sb, AV.sl B]] : List AV)) P :=
  Gets.ev (fun _ h => funS rfl rfl Try.func3 rfl h) (Gets.eq (by kernel_rfl) h)
end Go.Proofs.Ytpbfmaodnihpeaa
