/-
  Parts of the proof of OrderWholeUptoSaid, put together: the abstract evaluation and its contracts. Own work.
  What is proved: each lemma as it stands; no condition.
-/
import Derived.Test.YtpbfmaodnihpeaaZOrderWholeM3

section
/-
  What is left of the functions' evaluation at arguments with variables, printed by a program of ours (resid.py) and checked by the kernel.
  What is proved: each equation as it stands; no condition.
-/
namespace Go.Proofs.Ytpbfmaodnihpeaa
open Go.Av
set_option maxRecDepth 100000
set_option maxHeartbeats 0

noncomputable def L57_0 : Den := evC cfg (EV cfg) 57 none (sub (bodyOf Try.f57) [1, 1, 0, 1, 0, 0])
noncomputable def A57_0 : Ex × List AV × AH → Option AV := kAft (Cfg.keepOut cfg 57 3) (kRun cfg (EV cfg) (kfN cfg 6) 57 none (kFinS cfg Try.f57.results.toList) ([.block 0, .seq (sub (bodyOf Try.f57) [1, 1, 1])]))
noncomputable def W57_0 : List AV × AH → Option AV := fun p => kOpt (LOOP 1 (some [1, 2, 5, 6]) L57_0 p) A57_0
noncomputable def L58_0 : Den := evC cfg (EV cfg) 58 none (sub (bodyOf Try.f58) [1, 1, 0, 1, 0, 0])
noncomputable def A58_0 : Ex × List AV × AH → Option AV := kAft (Cfg.keepOut cfg 58 4) (kRun cfg (EV cfg) (kfN cfg 6) 58 none (kFinS cfg Try.f58.results.toList) ([.block 0, .seq (sub (bodyOf Try.f58) [1, 1, 1])]))
noncomputable def W58_0 : List AV × AH → Option AV := fun p => kOpt (LOOP 1 (some [1, 3]) L58_0 p) A58_0
noncomputable def L59_0 : Den := evC cfg (EV cfg) 59 none (sub (bodyOf Try.f59) [1, 1, 0, 1, 0, 0])
noncomputable def A59_0 : Ex × List AV × AH → Option OV := kAft (Cfg.keepOut cfg 59 3) (kRun cfg (EV cfg) (kfN cfg 6) 59 none (kFinO cfg Try.f59.results.toList) ([.block 0, .seq (sub (bodyOf Try.f59) [1, 1, 1])]))
noncomputable def W59_0 : List AV × AH → Option OV := fun p => kOpt (LOOP 0 (some [0, 3, 4]) L59_0 p) A59_0
noncomputable def L67_0 : Den := evC cfg (EV cfg) 67 none (sub (bodyOf Try.f67) [1, 1, 0, 1, 0, 0])
noncomputable def A67_0 : Ex × List AV × AH → Option AV := kAft (Cfg.keepOut cfg 67 4) (kRun cfg (EV cfg) (kfN cfg 6) 67 none (kFinS cfg Try.f67.results.toList) ([.block 0, .seq (sub (bodyOf Try.f67) [1, 1, 1])]))
noncomputable def W67_0 : List AV × AH → Option AV := fun p => kOpt (LOOP 0 (some [0, 1, 5]) L67_0 p) A67_0
noncomputable def L62_0 : Den := evC cfg (EV cfg) 62 none (sub (bodyOf Try.f62) [1, 1, 0, 1, 0, 0])
noncomputable def A62_0 : Ex × List AV × AH → Option AV := kAft (Cfg.keepOut cfg 62 3) (kRun cfg (EV cfg) (kfN cfg 6) 62 none (kFinS cfg Try.f62.results.toList) ([.block 0, .seq (sub (bodyOf Try.f62) [1, 1, 1])]))
noncomputable def W62_0 : List AV × AH → Option AV := fun p => kOpt (LOOP 0 (some [3, 6, 7, 8]) L62_0 p) A62_0
noncomputable def L97_0 : Den := evC cfg (EV cfg) 97 none (sub (bodyOf Try.f97) [1, 0, 1, 0, 0])
noncomputable def A97_0 : Ex × List AV × AH → Option AV := kAft (Cfg.keepOut cfg 97 2) (kRun cfg (EV cfg) (kfN cfg 6) 97 none (kFinS cfg Try.f97.results.toList) ([.block 0, .seq (sub (bodyOf Try.f97) [1, 1])]))
noncomputable def W97_0 : List AV × AH → Option AV := fun p => kOpt (LOOP 0 (some [0, 1, 2, 11, 12, 13]) L97_0 p) A97_0
noncomputable def L15_0 : Den := evC cfg (EV cfg) 15 none (sub (bodyOf Try.f15) [1, 0, 1, 0, 0])
noncomputable def A15_0 : Ex × List AV × AH → Option AV := kAft (Cfg.keepOut cfg 15 1) (kRun cfg (EV cfg) (kfN cfg 6) 15 none (kFinS cfg Try.f15.results.toList) ([.block 0, .scope]))
noncomputable def W15_0 : List AV × AH → Option AV := fun p => kOpt (LOOP 2 (some [2, 3]) L15_0 p) A15_0
noncomputable def L66_0 : Den := evC cfg (EV cfg) 66 none (sub (bodyOf Try.f66) [1, 1, 0, 1, 0, 0])
noncomputable def A66_0 : Ex × List AV × AH → Option AV := kAft (Cfg.keepOut cfg 66 3) (kRun cfg (EV cfg) (kfN cfg 6) 66 none (kFinS cfg Try.f66.results.toList) ([.block 0, .seq (sub (bodyOf Try.f66) [1, 1, 1])]))
noncomputable def W66_0 : List AV × AH → Option AV := fun p => kOpt (LOOP 0 (some [0, 1, 5, 6]) L66_0 p) A66_0
noncomputable def L73_0 : Den := evC cfg (EV cfg) 73 none (sub (bodyOf Try.f73) [1, 1, 0, 1, 0, 0])
noncomputable def A73_0 : Ex × List AV × AH → Option AV := kAft (Cfg.keepOut cfg 73 3) (kRun cfg (EV cfg) (kfN cfg 6) 73 none (kFinF cfg Try.f73.results.toList) ([.block 0, .seq (sub (bodyOf Try.f73) [1, 1, 1])]))
noncomputable def W73_0 : List AV × AH → Option AV := fun p => kOpt (LOOP 3 (some [0, 4, 5, 6]) L73_0 p) A73_0
theorem f57_run (ki : Int) (n : Int) (most : Int) (s : List UInt8) (A : List (List AV)) {P : AV → Prop} (h : Gets (W57_0 ((fx 31 [(1, .int .i64 most), (2, .ptr 0 0 0), (5, .int .i64 (1 : Int)), (6, .int .i64 (0 : Int))]), [.rows false 4 [[.int .i64 ki, .int .i64 n, .str s, .sl A]]])) P) : Gets (EVs (EV cfg) 57 ([AV.agg [AV.int IntKind.i64 ki, AV.int IntKind.i64 n, AV.str s, AV.sl A], AV.int IntKind.i64 most] : List AV)) P :=
  Gets.ev (fun _ h => funS rfl rfl Try.func57 rfl h) (Gets.eq (by kernel_rfl) h)
noncomputable abbrev w57_0 (ki : Int) (n : Int) (most : Int) (s : List UInt8) (A : List (List AV)) (v5 : Int) (v6 : Int) : Option (AV) := W57_0 (((fx 31 [(1, AV.int IntKind.i64 most), (2, AV.ptr (0 : Nat) (0 : Nat) (0 : Nat)), (5, AV.int IntKind.i64 v5), (6, AV.int IntKind.i64 v6)]) : List AV), ([ABlk.rows false (4 : Nat) [[AV.int IntKind.i64 ki, AV.int IntKind.i64 n, AV.str s, AV.sl A]]] : AH))
theorem w57_0_step (ki : Int) (n : Int) (most : Int) (s : List UInt8) (A : List (List AV)) (v5 : Int) (v6 : Int) {P : AV → Prop} (h : Gets (bif decide (v6 < (↑(List.length A) : Int)) then bif decide (v5 ≤ most) then bif leInt (0 : Int) v6 && ltInt v6 (↑(List.length A) : Int) then kOpt (List.get?Internal A (Int.toNat v6)) 
  fun (row : List AV) => bif Nat.beq (List.length row) 4 then bif Nat.ble 4 (List.length row) then kCons (List.take 4 row) fun (c : AV) (cs : List AV) => kInt .i64 c fun (n_1 : Int) => 
  kCons cs fun (c : AV) (cs : List AV) => kInt .i64 c fun (n_2 : Int) => kCons cs fun (c : AV) (cs : List AV) => kStr c fun (s_1 : List UInt8) => kCons cs fun (c : AV) (cs : List AV) 
  => kSl c fun (rows : List (List AV)) => kNil cs (kOpt (EVs (EV cfg) 57 [.agg [.int .i64 n_1, .int .i64 n_2, .str s_1, .sl rows], .int .i64 (IntKind.wrap .i64 (most - v5))]) fun (v : 
  AV) => kInt .i64 v fun (n_3 : Int) => W57_0 ((fx 31 [(1, .int .i64 most), (2, .ptr 0 0 0), (5, .int .i64 (IntKind.wrap .i64 (v5 + n_3))), (6, .int .i64 (IntKind.wrap .i64 (v6 + (1 : 
  Int))))]), [.rows false 4 [[.int .i64 ki, .int .i64 n, .str s, .sl A]]])) else none else none else none else some (.int .i64 v5) else some (.int .i64 v5)) P) : Gets (w57_0 ki n most s A v5 v6) P :=
  Gets.ev (fun _ h => loop_step (cfg := cfg) (f := 57) (rd := none) h) (Gets.eq (by kernel_rfl) h)
theorem f58_run (ki : Int) (n : Int) (s : List UInt8) (A : List (List AV)) {P : AV → Prop} (h : Gets (bif decide ((↑(List.length s) : Int) > (200 : Int)) then some (.bool true) else W58_0 ((fx 21 [(1, .ptr 0 0 0), (3, .int .i64 (0 : Int))]), [.rows false 4 [[.int .i64 ki, .int .i64 
  n, .str s, .sl A]]])) P) : Gets (EVs (EV cfg) 58 ([AV.agg [AV.int IntKind.i64 ki, AV.int IntKind.i64 n, AV.str s, AV.sl A]] : List AV)) P :=
  Gets.ev (fun _ h => funS rfl rfl Try.func58 rfl h) (Gets.eq (by kernel_rfl) h)
noncomputable abbrev w58_0 (ki : Int) (n : Int) (s : List UInt8) (A : List (List AV)) (v3 : Int) : Option (AV) := W58_0 (((fx 21 [(1, AV.ptr (0 : Nat) (0 : Nat) (0 : Nat)), (3, AV.int IntKind.i64 v3)]) : List AV), ([ABlk.rows false (4 : Nat) [[AV.int IntKind.i64 ki, AV.int IntKind.i64 n, AV.str s, AV.sl A]]] : AH))
theorem w58_0_step (ki : Int) (n : Int) (s : List UInt8) (A : List (List AV)) (v3 : Int) {P : AV → Prop} (h : Gets (bif decide (v3 < (↑(List.length A) : Int)) then bif leInt (0 : Int) v3 && ltInt v3 (↑(List.length A) : Int) then kOpt (List.get?Internal A (Int.toNat v3)) fun (row : List AV) => bif 
  Nat.beq (List.length row) 4 then bif Nat.ble 4 (List.length row) then kCons (List.take 4 row) fun (c : AV) (cs : List AV) => kInt .i64 c fun (n_1 : Int) => kCons cs fun (c : AV) (cs 
  : List AV) => kInt .i64 c fun (n_2 : Int) => kCons cs fun (c : AV) (cs : List AV) => kStr c fun (s_1 : List UInt8) => kCons cs fun (c : AV) (cs : List AV) => kSl c fun (rows : List 
  (List AV)) => kNil cs (kOpt (EVs (EV cfg) 58 [.agg [.int .i64 n_1, .int .i64 n_2, .str s_1, .sl rows]]) fun (v : AV) => kBool v fun (b : Bool) => bif b then some (.bool true) else W58_0 
  ((fx 21 [(1, .ptr 0 0 0), (3, .int .i64 (IntKind.wrap .i64 (v3 + (1 : Int))))]), [.rows false 4 [[.int .i64 ki, .int .i64 n, .str s, .sl A]]])) else none else none else none else some 
  (.bool false)) P) : Gets (w58_0 ki n s A v3) P :=
  Gets.ev (fun _ h => loop_step (cfg := cfg) (f := 58) (rd := none) h) (Gets.eq (by kernel_rfl) h)
theorem f13_run (ki : Int) (n : Int) (most : Int) (s : List UInt8) (A : List (List AV)) {P : AV → Prop} (h : Gets (kOpt (EVs (EV cfg) 57 [.agg [.int .i64 ki, .int .i64 n, .str s, .sl A], .int .i64 most]) fun (v : AV) => kInt .i64 v fun (n_1 : Int) => bif decide (n_1 > most) then some (.bool true) 
  else kOpt (EVs (EV cfg) 58 [.agg [.int .i64 ki, .int .i64 n, .str s, .sl A]]) fun (v : AV) => kBool v fun (b : Bool) => some (.bool b)) P) : Gets (EVs (EV cfg) 13 ([AV.agg [AV.int IntKind.i64 ki, AV.int IntKind.i64 n, AV.str s, AV.sl A], AV.int IntKind.i64 most] : List AV)) P :=
  Gets.ev (fun _ h => funS rfl rfl Try.func13 rfl h) (Gets.eq (by kernel_rfl) h)
theorem f14_run (ki : Int) (n : Int) (s : List UInt8) (A : List (List AV)) {P : AV → Prop} (h : Gets (kOpt (EVo (EV cfg) 59 [.sl A]) fun (o : OV) => kOwn o (some (.agg [.int .i64 ki, .int .i64 n, .str s, bif true then .sl [] else .nilS])) fun (sz : Nat) (rs : List (List AV)) (off len 
  : Nat) => bif Nat.ble (off + len) (List.length rs) && true then some (.agg [.int .i64 ki, .int .i64 n, .str s, .sl (List.take len (List.drop off rs))]) else none) P) : Gets (EVf (EV cfg) 14 ([AV.agg [AV.int IntKind.i64 ki, AV.int IntKind.i64 n, AV.str s, AV.sl A]] : List AV)) P :=
  Gets.ev (fun _ h => funF rfl rfl Try.func14 rfl h) (Gets.eq (by kernel_rfl) h)
theorem f59_run (A : List (List AV)) {P : OV → Prop} (h : Gets (W59_0 ((fx 20 [(0, .sl A), (3, .nilS), (4, .int .i64 (0 : Int))]), [])) P) : Gets (EVo (EV cfg) 59 ([AV.sl A] : List AV)) P :=
  Gets.ev (fun _ h => funO rfl rfl Try.func59 rfl h) (Gets.eq (by kernel_rfl) h)
theorem f59n_run  {P : OV → Prop} (h : Gets (W59_0 ((fx 20 [(0, .nilS), (3, .nilS), (4, .int .i64 (0 : Int))]), [])) P) : Gets (EVo (EV cfg) 59 ([AV.nilS] : List AV)) P :=
  Gets.ev (fun _ h => funO rfl rfl Try.func59 rfl h) (Gets.eq (by kernel_rfl) h)
noncomputable abbrev w59_0 (A : List (List AV)) (v4 : Int) : Option (OV) := W59_0 (((fx 20 [(0, AV.sl A), (3, AV.nilS), (4, AV.int IntKind.i64 v4)]) : List AV), ([] : AH))
theorem w59_0_step (A : List (List AV)) (v4 : Int) {P : OV → Prop} (h : Gets (bif decide (v4 < (↑(List.length A) : Int)) then bif leInt (0 : Int) v4 && ltInt v4 (↑(List.length A) : Int) then kOpt (List.get?Internal A (Int.toNat v4)) fun (row : List AV) => bif 
  Nat.beq (List.length row) 4 then bif Nat.ble 4 (List.length row) then kCons (List.take 4 row) fun (c : AV) (cs : List AV) => kInt .i64 c fun (n : Int) => kCons cs fun (c : AV) (cs : 
  List AV) => kInt .i64 c fun (n_1 : Int) => kCons cs fun (c : AV) (cs : List AV) => kStr c fun (s : List UInt8) => kCons cs fun (c : AV) (cs : List AV) => kSl c fun (rows : List (List 
  AV)) => kNil cs (kOpt (EVf (EV cfg) 14 [.agg [.int .i64 n, .int .i64 n_1, .str s, .sl rows]]) fun (v : AV) => kAgg v fun (cs : List AV) => kCons cs fun (c : AV) (cs : List AV) => kInt 
  .i64 c fun (n : Int) => kCons cs fun (c : AV) (cs : List AV) => kInt .i64 c fun (n_2 : Int) => kCons cs fun (c : AV) (cs : List AV) => kStr c fun (s : List UInt8) => kCons cs fun (c 
  : AV) (cs : List AV) => kSl c fun (rows : List (List AV)) => kNil cs (bif fitsIn 1 56 then W59_0 ((fx 20 [(0, .sl A), (3, .ms 0 0 1), (4, .int .i64 (IntKind.wrap .i64 (v4 + (1 : Int))))]), 
  [.rows true 4 [[.int .i64 n, .int .i64 n_2, .str s, .sl rows]]]) else none)) else none else none else none else some OV.nil) P) : Gets (w59_0 A v4) P :=
  Gets.ev (fun _ h => loop_step (cfg := cfg) (f := 59) (rd := none) h) (Gets.eq (by kernel_rfl) h)
noncomputable abbrev w59_1 (rs : List (List AV)) (n : Nat) (A : List (List AV)) (v4 : Int) : Option (OV) := W59_0 (((fx 20 [(0, AV.sl A), (3, AV.ms (0 : Nat) (0 : Nat) n), (4, AV.int IntKind.i64 v4)]) : List AV), ([ABlk.rows true (4 : Nat) rs] : AH))
theorem w59_1_step (rs : List (List AV)) (n : Nat) (A : List (List AV)) (v4 : Int) {P : OV → Prop} (h : Gets (bif decide (v4 < (↑(List.length A) : Int)) then bif leInt (0 : Int) v4 && ltInt v4 (↑(List.length A) : Int) then kOpt (List.get?Internal A (Int.toNat v4)) fun (row : List AV) => bif 
  Nat.beq (List.length row) 4 then bif Nat.ble 4 (List.length row) then kCons (List.take 4 row) fun (c : AV) (cs : List AV) => kInt .i64 c fun (n_1 : Int) => kCons cs fun (c : AV) (cs 
  : List AV) => kInt .i64 c fun (n_2 : Int) => kCons cs fun (c : AV) (cs : List AV) => kStr c fun (s : List UInt8) => kCons cs fun (c : AV) (cs : List AV) => kSl c fun (rows : List (List 
  AV)) => kNil cs (kOpt (EVf (EV cfg) 14 [.agg [.int .i64 n_1, .int .i64 n_2, .str s, .sl rows]]) fun (v : AV) => kAgg v fun (cs : List AV) => kCons cs fun (c : AV) (cs : List AV) => 
  kInt .i64 c fun (n_3 : Int) => kCons cs fun (c : AV) (cs : List AV) => kInt .i64 c fun (n_4 : Int) => kCons cs fun (c : AV) (cs : List AV) => kStr c fun (s : List UInt8) => kCons cs 
  fun (c : AV) (cs : List AV) => kSl c fun (rows : List (List AV)) => kNil cs (bif Nat.ble (0 + n) (List.length rs) && fitsIn (n + 1) 56 then W59_0 ((fx 20 [(0, .sl A), (3, .ms 0 0 (n 
  + 1)), (4, .int .i64 (IntKind.wrap .i64 (v4 + (1 : Int))))]), [.rows true 4 (List.append (List.take n rs) [[.int .i64 n_3, .int .i64 n_4, .str s, .sl rows]])]) else none)) else none 
  else none else none else some (OV.own 4 rs 0 n)) P) : Gets (w59_1 rs n A v4) P :=
  Gets.ev (fun _ h => loop_step (cfg := cfg) (f := 59) (rd := none) h) (Gets.eq (by kernel_rfl) h)
theorem f17_run (ka : Int) (na : Int) (sa : List UInt8) (A : List (List AV)) (kb : Int) (nb : Int) (sb : List UInt8) (B : List (List AV)) {P : AV → Prop} (h : Gets (bif ka == kb then bif na == nb then bif sa == sb then kOpt (EVs (EV cfg) 67 [.sl A, .sl B]) fun (v : AV) => kBool v fun (b : Bool) => some (.bool b) else some (.bool false) else some 
  (.bool false) else some (.bool false)) P) : Gets (EVs (EV cfg) 17 ([AV.agg [AV.int IntKind.i64 ka, AV.int IntKind.i64 na, AV.str sa, AV.sl A], AV.agg [AV.int IntKind.i64 kb, AV.int IntKind.i64 nb, AV.str sb, AV.sl B]] : List AV)) P :=
  Gets.ev (fun _ h => funS rfl rfl Try.func17 rfl h) (Gets.eq (by kernel_rfl) h)
theorem f67_run (A : List (List AV)) (B : List (List AV)) {P : AV → Prop} (h : Gets (bif (↑(List.length A) : Int) != (↑(List.length B) : Int) then some (.bool false) else W67_0 ((fx 27 [(0, .sl A), (1, .sl B), (5, .int .i64 (0 : Int))]), [])) P) : Gets (EVs (EV cfg) 67 ([AV.sl A, AV.sl B] : List AV)) P :=
  Gets.ev (fun _ h => funS rfl rfl Try.func67 rfl h) (Gets.eq (by kernel_rfl) h)
noncomputable abbrev w67_0 (A : List (List AV)) (B : List (List AV)) (v5 : Int) : Option (AV) := W67_0 (((fx 27 [(0, AV.sl A), (1, AV.sl B), (5, AV.int IntKind.i64 v5)]) : List AV), ([] : AH))
theorem w67_0_step (A : List (List AV)) (B : List (List AV)) (v5 : Int) {P : AV → Prop} (h : Gets (bif decide (v5 < (↑(List.length A) : Int)) then bif leInt (0 : Int) v5 && ltInt v5 (↑(List.length A) : Int) then kOpt (List.get?Internal A (Int.toNat v5)) fun (row : List AV) => bif 
  Nat.beq (List.length row) 4 then bif Nat.ble 4 (List.length row) then kCons (List.take 4 row) fun (c : AV) (cs : List AV) => kInt .i64 c fun (n : Int) => kCons cs fun (c : AV) (cs : 
  List AV) => kInt .i64 c fun (n_1 : Int) => kCons cs fun (c : AV) (cs : List AV) => kStr c fun (s : List UInt8) => kCons cs fun (c : AV) (cs : List AV) => kSl c fun (rows : List (List 
  AV)) => kNil cs (bif leInt (0 : Int) v5 && ltInt v5 (↑(List.length B) : Int) then kOpt (List.get?Internal B (Int.toNat v5)) fun (row : List AV) => bif Nat.beq (List.length row) 4 then 
  bif Nat.ble 4 (List.length row) then kCons (List.take 4 row) fun (c : AV) (cs : List AV) => kInt .i64 c fun (n_2 : Int) => kCons cs fun (c : AV) (cs : List AV) => kInt .i64 c fun (n_3 
  : Int) => kCons cs fun (c : AV) (cs : List AV) => kStr c fun (s_1 : List UInt8) => kCons cs fun (c : AV) (cs : List AV) => kSl c fun (rows_1 : List (List AV)) => kNil cs (kOpt (EVs 
  (EV cfg) 17 [.agg [.int .i64 n, .int .i64 n_1, .str s, .sl rows], .agg [.int .i64 n_2, .int .i64 n_3, .str s_1, .sl rows_1]]) fun (v : AV) => kBool v fun (b : Bool) => bif !b then some 
  (.bool false) else W67_0 ((fx 27 [(0, .sl A), (1, .sl B), (5, .int .i64 (IntKind.wrap .i64 (v5 + (1 : Int))))]), [])) else none else none else none) else none else none else none else 
  some (.bool true)) P) : Gets (w67_0 A B v5) P :=
  Gets.ev (fun _ h => loop_step (cfg := cfg) (f := 67) (rd := none) h) (Gets.eq (by kernel_rfl) h)
theorem f60_run (a : Int) (b : Int) {P : AV → Prop} (h : Gets (kOpt (EVs (EV cfg) 95 [.int .i64 a]) fun (v : AV) => kBool v fun (b_1 : Bool) => kOpt (EVs (EV cfg) 95 [.int .i64 b]) fun (v : AV) => kBool v fun (b_2 : Bool) => bif b_1 then bif b_2 
  then some (.int .i64 (0 : Int)) else some (.int .i64 (-1 : Int)) else bif b_2 then some (.int .i64 (1 : Int)) else bif decide (a < b) then some (.int .i64 (-1 : Int)) else bif decide 
  (a > b) then some (.int .i64 (1 : Int)) else some (.int .i64 (0 : Int))) P) : Gets (EVs (EV cfg) 60 ([AV.int IntKind.i64 a, AV.int IntKind.i64 b] : List AV)) P :=
  Gets.ev (fun _ h => funS rfl rfl Try.func60 rfl h) (Gets.eq (by kernel_rfl) h)
theorem f95_run (a : Int) {P : AV → Prop} (h : Gets (some (.bool (a != a))) P) : Gets (EVs (EV cfg) 95 ([AV.int IntKind.i64 a] : List AV)) P :=
  Gets.ev (fun _ h => funS rfl rfl Try.func95 rfl h) (Gets.eq (by kernel_rfl) h)
theorem f61_run (a : List UInt8) (b : List UInt8) {P : AV → Prop} (h : Gets (kOpt (EVs (EV cfg) 96 [.str a, .str b]) fun (v : AV) => kInt .i64 v fun (n : Int) => some (.int .i64 n)) P) : Gets (EVs (EV cfg) 61 ([AV.str a, AV.str b] : List AV)) P :=
  Gets.ev (fun _ h => funS rfl rfl Try.func61 rfl h) (Gets.eq (by kernel_rfl) h)
theorem f96_run (a : List UInt8) (b : List UInt8) {P : AV → Prop} (h : Gets (kOpt (EVs (EV cfg) 107 [.str a, .str b]) fun (v : AV) => kInt .i64 v fun (n : Int) => some (.int .i64 n)) P) : Gets (EVs (EV cfg) 96 ([AV.str a, AV.str b] : List AV)) P :=
  Gets.ev (fun _ h => funS rfl rfl Try.func96 rfl h) (Gets.eq (by kernel_rfl) h)
theorem f62_run (A : List (List AV)) {P : AV → Prop} (h : Gets (W62_0 ((fx 18 [(3, .int .i64 (0 : Int)), (6, .sl A), (7, .int .i64 (↑(List.length A) : Int)), (8, .int .i64 (0 : Int))]), [])) P) : Gets (EVs (EV cfg) 62 ([AV.sl A] : List AV)) P :=
  Gets.ev (fun _ h => funS rfl rfl Try.func62 rfl h) (Gets.eq (by kernel_rfl) h)
noncomputable abbrev w62_0 (A : List (List AV)) (v8 : Int) : Option (AV) := W62_0 (((fx 18 [(3, AV.int IntKind.i64 (0 : Int)), (6, AV.sl A), (7, AV.int IntKind.i64 (↑(List.length A) : Int)), (8, AV.int IntKind.i64 v8)]) : List AV), ([] : AH))
theorem w62_0_step (A : List (List AV)) (v8 : Int) {P : AV → Prop} (h : Gets (bif decide (v8 < (↑(List.length A) : Int)) then bif leInt (0 : Int) v8 && ltInt v8 (↑(List.length A) : Int) then kOpt (List.get?Internal A (Int.toNat v8)) fun (row : List AV) => bif 
  Nat.beq (List.length row) 1 then kOpt (List.get?Internal row 0) fun (v : AV) => kInt .i64 v fun (n : Int) => bif n != (0 : Int) then some (.int .i64 n) else W62_0 ((fx 18 [(3, .int 
  .i64 (0 : Int)), (6, .sl A), (7, .int .i64 (↑(List.length A) : Int)), (8, .int .i64 (IntKind.wrap .i64 (v8 + (1 : Int))))]), []) else none else none else some (.int .i64 (0 : Int))) P) : Gets (w62_0 A v8) P :=
  Gets.ev (fun _ h => loop_step (cfg := cfg) (f := 62) (rd := none) h) (Gets.eq (by kernel_rfl) h)
theorem f63_run (A : List (List AV)) (B : List (List AV)) {P : AV → Prop} (h : Gets (kOpt (EVs (EV cfg) 97 [.sl A, .sl B, AV.fn (Fn.func 15) [] []]) fun (v : AV) => kInt .i64 v fun (n : Int) => some (.int .i64 n)) P) : Gets (EVs (EV cfg) 63 ([AV.sl A, AV.sl B] : List AV)) P :=
  Gets.ev (fun _ h => funS rfl rfl Try.func63 rfl h) (Gets.eq (by kernel_rfl) h)
theorem f97_run (A : List (List AV)) (B : List (List AV)) {P : AV → Prop} (h : Gets (W97_0 ((fx 39 [(0, .sl A), (1, .sl B), (2, AV.fn (Fn.func 15) [] []), (11, .sl A), (12, .int .i64 (↑(List.length A) : Int)), (13, .int .i64 (0 : Int))]), [])) P) : Gets (EVs (EV cfg) 97 ([AV.sl A, AV.sl B, AV.fn (Fn.func (15 : Nat)) [] []] : List AV)) P :=
  Gets.ev (fun _ h => funS rfl rfl Try.func97 rfl h) (Gets.eq (by kernel_rfl) h)
noncomputable abbrev w97_0 (A : List (List AV)) (B : List (List AV)) (v13 : Int) : Option (AV) := W97_0 (((fx 39 [(0, AV.sl A), (1, AV.sl B), (2, AV.fn (Fn.func (15 : Nat)) [] []), (11, AV.sl A), (12, AV.int IntKind.i64 (↑(List.length A) : Int)), (13, AV.int IntKind.i64 v13)]) : List AV), ([] : AH))
theorem w97_0_step (A : List (List AV)) (B : List (List AV)) (v13 : Int) {P : AV → Prop} (h : Gets (bif decide (v13 < (↑(List.length A) : Int)) then bif leInt (0 : Int) v13 && ltInt v13 (↑(List.length A) : Int) then kOpt (List.get?Internal A (Int.toNat v13)) fun (row : List AV) => 
  bif Nat.beq (List.length row) 4 then bif Nat.ble 4 (List.length row) then kCons (List.take 4 row) fun (c : AV) (cs : List AV) => kInt .i64 c fun (n : Int) => kCons cs fun (c : AV) (cs 
  : List AV) => kInt .i64 c fun (n_1 : Int) => kCons cs fun (c : AV) (cs : List AV) => kStr c fun (s : List UInt8) => kCons cs fun (c : AV) (cs : List AV) => kSl c fun (rows : List (List 
  AV)) => kNil cs (bif decide (v13 ≥ (↑(List.length B) : Int)) then some (.int .i64 (1 : Int)) else bif leInt (0 : Int) v13 && ltInt v13 (↑(List.length B) : Int) then kOpt (List.get?Internal 
  B (Int.toNat v13)) fun (row : List AV) => bif Nat.beq (List.length row) 4 then bif Nat.ble 4 (List.length row) then kCons (List.take 4 row) fun (c : AV) (cs : List AV) => kInt .i64 
  c fun (n_2 : Int) => kCons cs fun (c : AV) (cs : List AV) => kInt .i64 c fun (n_3 : Int) => kCons cs fun (c : AV) (cs : List AV) => kStr c fun (s_1 : List UInt8) => kCons cs fun (c 
  : AV) (cs : List AV) => kSl c fun (rows_1 : List (List AV)) => kNil cs (kOpt (EVs (EV cfg) 15 [.agg [.int .i64 n, .int .i64 n_1, .str s, .sl rows], .agg [.int .i64 n_2, .int .i64 n_3, 
  .str s_1, .sl rows_1]]) fun (v : AV) => kInt .i64 v fun (n : Int) => bif n != (0 : Int) then some (.int .i64 n) else W97_0 ((fx 39 [(0, .sl A), (1, .sl B), (2, AV.fn (Fn.func 15) [] 
  []), (11, .sl A), (12, .int .i64 (↑(List.length A) : Int)), (13, .int .i64 (IntKind.wrap .i64 (v13 + (1 : Int))))]), [])) else none else none else none) else none else none else none 
  else bif decide ((↑(List.length A) : Int) < (↑(List.length B) : Int)) then some (.int .i64 (-1 : Int)) else some (.int .i64 (0 : Int))) P) : Gets (w97_0 A B v13) P :=
  Gets.ev (fun _ h => loop_step (cfg := cfg) (f := 97) (rd := none) h) (Gets.eq (by kernel_rfl) h)
theorem f15_run (ka : Int) (na : Int) (sa : List UInt8) (A : List (List AV)) (kb : Int) (nb : Int) (sb : List UInt8) (B : List (List AV)) {P : AV → Prop} (h : Gets (W15_0 ((fx 117 [(2, .ptr 0 0 0), (3, .ptr 1 0 0)]), [.rows false 4 [[.int .i64 ka, .int .i64 na, .str sa, .sl A]], .rows false 4 [[.int .i64 kb, .int .i64 nb, .str sb, .sl B]]])) P) : Gets (EVs (EV cfg) 15 ([AV.agg [AV.int IntKind.i64 ka, AV.int IntKind.i64 na, AV.str sa, AV.sl A], AV.agg [AV.int IntKind.i64 kb, AV.int IntKind.i64 nb, AV.str sb, AV.sl B]] : List AV)) P :=
  Gets.ev (fun _ h => funS rfl rfl Try.func15 rfl h) (Gets.eq (by kernel_rfl) h)
noncomputable abbrev w15_0 (ka : Int) (na : Int) (sa : List UInt8) (A : List (List AV)) (kb : Int) (nb : Int) (sb : List UInt8) (B : List (List AV)) : Option (AV) := W15_0 (((fx 117 [(2, AV.ptr (0 : Nat) (0 : Nat) (0 : Nat)), (3, AV.ptr (1 : Nat) (0 : Nat) (0 : Nat))]) : List AV), ([ABlk.rows false (4 : Nat) [[AV.int IntKind.i64 ka, AV.int IntKind.i64 na, AV.str sa, AV.sl A]], ABlk.rows false (4 : Nat) [[AV.int IntKind.i64 kb, AV.int IntKind.i64 nb, AV.str sb, AV.sl B]]] : AH))
theorem w15_0_step (ka : Int) (na : Int) (sa : List UInt8) (A : List (List AV)) (kb : Int) (nb : Int) (sb : List UInt8) (B : List (List AV)) {P : AV → Prop} (h : Gets (kOpt (EVs (EV cfg) 60 [.int .i64 ka, .int .i64 kb]) fun (v : AV) => kInt .i64 v fun (n : Int) => bif n != (0 : Int) then some (.int .i64 n) else bif ka == (1 : Int) then kOpt (EVs (EV 
  cfg) 60 [.int .i64 na, .int .i64 nb]) fun (v : AV) => kInt .i64 v fun (n : Int) => some (.int .i64 n) else bif ka == (3 : Int) then kOpt (EVs (EV cfg) 60 [.int .i64 na, .int .i64 nb]) 
  fun (v : AV) => kInt .i64 v fun (n : Int) => some (.int .i64 n) else bif ka == (4 : Int) then kOpt (EVs (EV cfg) 60 [.int .i64 na, .int .i64 nb]) fun (v : AV) => kInt .i64 v fun (n 
  : Int) => some (.int .i64 n) else bif ka == (6 : Int) then kOpt (EVs (EV cfg) 60 [.int .i64 na, .int .i64 nb]) fun (v : AV) => kInt .i64 v fun (n : Int) => some (.int .i64 n) else bif 
  ka == (2 : Int) then kOpt (EVs (EV cfg) 61 [.str sa, .str sb]) fun (v : AV) => kInt .i64 v fun (n : Int) => some (.int .i64 n) else bif ka == (5 : Int) then kOpt (EVs (EV cfg) 60 [.int 
  .i64 na, .int .i64 nb]) fun (v : AV) => kInt .i64 v fun (n : Int) => kOpt (EVs (EV cfg) 60 [.int .i64 (↑(List.length A) : Int), .int .i64 (↑(List.length B) : Int)]) fun (v : AV) => 
  kInt .i64 v fun (n_1 : Int) => kOpt (EVs (EV cfg) 63 [.sl A, .sl B]) fun (v : AV) => kInt .i64 v fun (n_2 : Int) => kOpt (EVs (EV cfg) 62 [.sl [[.int .i64 n], [.int .i64 n_1], [.int 
  .i64 n_2]]]) fun (v : AV) => kInt .i64 v fun (n : Int) => some (.int .i64 n) else bif ka == (9 : Int) then bif (↑(List.length A) : Int) == (2 : Int) then bif (↑(List.length B) : Int) 
  == (2 : Int) then bif ltInt (0 : Int) (↑(List.length A) : Int) then kOpt (List.get?Internal A (Int.toNat (0 : Int))) fun (row : List AV) => bif Nat.beq (List.length row) 4 then bif 
  Nat.ble 4 (List.length row) then kCons (List.take 4 row) fun (c : AV) (cs : List AV) => kInt .i64 c fun (n : Int) => kCons cs fun (c : AV) (cs : List AV) => kInt .i64 c fun (n_1 : Int) 
  => kCons cs fun (c : AV) (cs : List AV) => kStr c fun (s : List UInt8) => kCons cs fun (c : AV) (cs : List AV) => kSl c fun (rows : List (List AV)) => kNil cs (bif ltInt (0 : Int) (↑(List.length 
  B) : Int) then kOpt (List.get?Internal B (Int.toNat (0 : Int))) fun (row : List AV) => bif Nat.beq (List.length row) 4 then bif Nat.ble 4 (List.length row) then kCons (List.take 4 row) 
  fun (c : AV) (cs : List AV) => kInt .i64 c fun (n_2 : Int) => kCons cs fun (c : AV) (cs : List AV) => kInt .i64 c fun (n_3 : Int) => kCons cs fun (c : AV) (cs : List AV) => kStr c fun 
  (s_1 : List UInt8) => kCons cs fun (c : AV) (cs : List AV) => kSl c fun (rows_1 : List (List AV)) => kNil cs (kOpt (EVs (EV cfg) 15 [.agg [.int .i64 n, .int .i64 n_1, .str s, .sl rows], 
  .agg [.int .i64 n_2, .int .i64 n_3, .str s_1, .sl rows_1]]) fun (v : AV) => kInt .i64 v fun (n : Int) => bif n != (0 : Int) then some (.int .i64 n) else bif ltInt (1 : Int) (↑(List.length 
  A) : Int) then kOpt (List.get?Internal A (Int.toNat (1 : Int))) fun (row : List AV) => bif Nat.beq (List.length row) 4 then bif Nat.ble 4 (List.length row) then kCons (List.take 4 row) 
  fun (c : AV) (cs : List AV) => kInt .i64 c fun (n : Int) => kCons cs fun (c : AV) (cs : List AV) => kInt .i64 c fun (n_4 : Int) => kCons cs fun (c : AV) (cs : List AV) => kStr c fun 
  (s : List UInt8) => kCons cs fun (c : AV) (cs : List AV) => kSl c fun (rows : List (List AV)) => kNil cs (bif ltInt (1 : Int) (↑(List.length B) : Int) then kOpt (List.get?Internal B 
  (Int.toNat (1 : Int))) fun (row : List AV) => bif Nat.beq (List.length row) 4 then bif Nat.ble 4 (List.length row) then kCons (List.take 4 row) fun (c : AV) (cs : List AV) => kInt .i64 
  c fun (n_5 : Int) => kCons cs fun (c : AV) (cs : List AV) => kInt .i64 c fun (n_6 : Int) => kCons cs fun (c : AV) (cs : List AV) => kStr c fun (s_2 : List UInt8) => kCons cs fun (c 
  : AV) (cs : List AV) => kSl c fun (rows_2 : List (List AV)) => kNil cs (W15_0 ((fx 117 [(2, .ptr 0 0 0), (3, .ptr 1 0 0)]), [.rows false 4 [[.int .i64 n, .int .i64 n_4, .str s, .sl 
  rows]], .rows false 4 [[.int .i64 n_5, .int .i64 n_6, .str s_2, .sl rows_2]]])) else none else none else none) else none else none else none) else none else none else none) else none 
  else none else none else kOpt (EVs (EV cfg) 60 [.int .i64 (↑(List.length A) : Int), .int .i64 (↑(List.length B) : Int)]) fun (v : AV) => kInt .i64 v fun (n : Int) => kOpt (EVs (EV cfg) 
  63 [.sl A, .sl B]) fun (v : AV) => kInt .i64 v fun (n_1 : Int) => kOpt (EVs (EV cfg) 62 [.sl [[.int .i64 n], [.int .i64 n_1]]]) fun (v : AV) => kInt .i64 v fun (n : Int) => some (.int 
  .i64 n) else kOpt (EVs (EV cfg) 60 [.int .i64 (↑(List.length A) : Int), .int .i64 (↑(List.length B) : Int)]) fun (v : AV) => kInt .i64 v fun (n : Int) => kOpt (EVs (EV cfg) 63 [.sl 
  A, .sl B]) fun (v : AV) => kInt .i64 v fun (n_1 : Int) => kOpt (EVs (EV cfg) 62 [.sl [[.int .i64 n], [.int .i64 n_1]]]) fun (v : AV) => kInt .i64 v fun (n : Int) => some (.int .i64 
  n) else bif ka == (7 : Int) then kOpt (EVs (EV cfg) 60 [.int .i64 (↑(List.length A) : Int), .int .i64 (↑(List.length B) : Int)]) fun (v : AV) => kInt .i64 v fun (n : Int) => kOpt (EVs 
  (EV cfg) 63 [.sl A, .sl B]) fun (v : AV) => kInt .i64 v fun (n_1 : Int) => kOpt (EVs (EV cfg) 62 [.sl [[.int .i64 n], [.int .i64 n_1]]]) fun (v : AV) => kInt .i64 v fun (n : Int) => 
  some (.int .i64 n) else some (.int .i64 (0 : Int))) P) : Gets (w15_0 ka na sa A kb nb sb B) P :=
  Gets.ev (fun _ h => loop_step (cfg := cfg) (f := 15) (rd := none) h) (Gets.eq (by kernel_rfl) h)
theorem f64_run (a : Int) (b : Int) {P : AV → Prop} (h : Gets (bif decide (a < b) then some (.int .i64 (-1 : Int)) else bif decide (a > b) then some (.int .i64 (1 : Int)) else some (.int .i64 (0 : Int))) P) : Gets (EVs (EV cfg) 64 ([AV.int IntKind.i64 a, AV.int IntKind.i64 b] : List AV)) P :=
  Gets.ev (fun _ h => funS rfl rfl Try.func64 rfl h) (Gets.eq (by kernel_rfl) h)
theorem f65_run (a : List UInt8) (b : List UInt8) {P : AV → Prop} (h : Gets (bif Op.bytesLess a b then some (.int .i64 (-1 : Int)) else bif !(Op.bytesLess a b || a == b) then some (.int .i64 (1 : Int)) else some (.int .i64 (0 : Int))) P) : Gets (EVs (EV cfg) 65 ([AV.str a, AV.str b] : List AV)) P :=
  Gets.ev (fun _ h => funS rfl rfl Try.func65 rfl h) (Gets.eq (by kernel_rfl) h)
theorem f66_run (A : List (List AV)) (B : List (List AV)) {P : AV → Prop} (h : Gets (kOpt (EVs (EV cfg) 64 [.int .i64 (↑(List.length A) : Int), .int .i64 (↑(List.length B) : Int)]) fun (v : AV) => kInt .i64 v fun (n : Int) => W66_0 ((fx 32 [(0, .sl A), (1, .sl B), (5, 
  .int .i64 n), (6, .int .i64 (0 : Int))]), [])) P) : Gets (EVs (EV cfg) 66 ([AV.sl A, AV.sl B] : List AV)) P :=
  Gets.ev (fun _ h => funS rfl rfl Try.func66 rfl h) (Gets.eq (by kernel_rfl) h)
noncomputable abbrev w66_0 (A : List (List AV)) (B : List (List AV)) (v5 : Int) (v6 : Int) : Option (AV) := W66_0 (((fx 32 [(0, AV.sl A), (1, AV.sl B), (5, AV.int IntKind.i64 v5), (6, AV.int IntKind.i64 v6)]) : List AV), ([] : AH))
theorem w66_0_step (A : List (List AV)) (B : List (List AV)) (v5 : Int) (v6 : Int) {P : AV → Prop} (h : Gets (bif decide (v6 < (↑(List.length A) : Int)) then bif v5 == (0 : Int) then bif leInt (0 : Int) v6 && ltInt v6 (↑(List.length A) : Int) then kOpt (List.get?Internal A (Int.toNat v6)) fun 
  (row : List AV) => bif Nat.beq (List.length row) 4 then bif Nat.ble 4 (List.length row) then kCons (List.take 4 row) fun (c : AV) (cs : List AV) => kInt .i64 c fun (n : Int) => kCons 
  cs fun (c : AV) (cs : List AV) => kInt .i64 c fun (n_1 : Int) => kCons cs fun (c : AV) (cs : List AV) => kStr c fun (s : List UInt8) => kCons cs fun (c : AV) (cs : List AV) => kSl c 
  fun (rows : List (List AV)) => kNil cs (bif leInt (0 : Int) v6 && ltInt v6 (↑(List.length B) : Int) then kOpt (List.get?Internal B (Int.toNat v6)) fun (row : List AV) => bif Nat.beq 
  (List.length row) 4 then bif Nat.ble 4 (List.length row) then kCons (List.take 4 row) fun (c : AV) (cs : List AV) => kInt .i64 c fun (n_2 : Int) => kCons cs fun (c : AV) (cs : List 
  AV) => kInt .i64 c fun (n_3 : Int) => kCons cs fun (c : AV) (cs : List AV) => kStr c fun (s_1 : List UInt8) => kCons cs fun (c : AV) (cs : List AV) => kSl c fun (rows_1 : List (List 
  AV)) => kNil cs (kOpt (EVs (EV cfg) 16 [.agg [.int .i64 n, .int .i64 n_1, .str s, .sl rows], .agg [.int .i64 n_2, .int .i64 n_3, .str s_1, .sl rows_1]]) fun (v : AV) => kInt .i64 v 
  fun (n : Int) => W66_0 ((fx 32 [(0, .sl A), (1, .sl B), (5, .int .i64 n), (6, .int .i64 (IntKind.wrap .i64 (v6 + (1 : Int))))]), [])) else none else none else none) else none else none 
  else none else some (.int .i64 v5) else some (.int .i64 v5)) P) : Gets (w66_0 A B v5 v6) P :=
  Gets.ev (fun _ h => loop_step (cfg := cfg) (f := 66) (rd := none) h) (Gets.eq (by kernel_rfl) h)
theorem f16_run (ka : Int) (na : Int) (sa : List UInt8) (A : List (List AV)) (kb : Int) (nb : Int) (sb : List UInt8) (B : List (List AV)) {P : AV → Prop} (h : Gets (kOpt (EVs (EV cfg) 64 [.int .i64 ka, .int .i64 kb]) fun (v : AV) => kInt .i64 v fun (n : Int) => bif n != (0 : Int) then some (.int .i64 n) else bif ka == (1 : Int) then kOpt (EVs (EV 
  cfg) 64 [.int .i64 na, .int .i64 nb]) fun (v : AV) => kInt .i64 v fun (n : Int) => some (.int .i64 n) else bif ka == (3 : Int) then kOpt (EVs (EV cfg) 64 [.int .i64 na, .int .i64 nb]) 
  fun (v : AV) => kInt .i64 v fun (n : Int) => some (.int .i64 n) else bif ka == (4 : Int) then kOpt (EVs (EV cfg) 64 [.int .i64 na, .int .i64 nb]) fun (v : AV) => kInt .i64 v fun (n 
  : Int) => some (.int .i64 n) else bif ka == (6 : Int) then kOpt (EVs (EV cfg) 64 [.int .i64 na, .int .i64 nb]) fun (v : AV) => kInt .i64 v fun (n : Int) => some (.int .i64 n) else bif 
  ka == (2 : Int) then kOpt (EVs (EV cfg) 65 [.str sa, .str sb]) fun (v : AV) => kInt .i64 v fun (n : Int) => some (.int .i64 n) else bif ka == (5 : Int) then kOpt (EVs (EV cfg) 64 [.int 
  .i64 na, .int .i64 nb]) fun (v : AV) => kInt .i64 v fun (n : Int) => bif n != (0 : Int) then some (.int .i64 n) else kOpt (EVs (EV cfg) 66 [.sl A, .sl B]) fun (v : AV) => kInt .i64 
  v fun (n : Int) => some (.int .i64 n) else bif ka == (7 : Int) then kOpt (EVs (EV cfg) 66 [.sl A, .sl B]) fun (v : AV) => kInt .i64 v fun (n : Int) => some (.int .i64 n) else bif ka 
  == (9 : Int) then kOpt (EVs (EV cfg) 66 [.sl A, .sl B]) fun (v : AV) => kInt .i64 v fun (n : Int) => some (.int .i64 n) else some (.int .i64 (0 : Int))) P) : Gets (EVs (EV cfg) 16 ([AV.agg [AV.int IntKind.i64 ka, AV.int IntKind.i64 na, AV.str sa, AV.sl A], AV.agg [AV.int IntKind.i64 kb, AV.int IntKind.i64 nb, AV.str sb, AV.sl B]] : List AV)) P :=
  Gets.ev (fun _ h => funS rfl rfl Try.func16 rfl h) (Gets.eq (by kernel_rfl) h)
theorem f28_run (A : List (List AV)) {P : AV → Prop} (h : Gets (some (.agg [.int .i64 (7 : Int), .int .i64 (0 : Int), .str [], .sl A])) P) : Gets (EVf (EV cfg) 28 ([AV.sl A] : List AV)) P :=
  Gets.ev (fun _ h => funF rfl rfl Try.func28 rfl h) (Gets.eq (by kernel_rfl) h)
theorem f29_run (i : Int) {P : AV → Prop} (h : Gets (kOpt (EVf (EV cfg) 38 [.int .i64 i]) fun (v : AV) => kAgg v fun (cs : List AV) => kCons cs fun (c : AV) (cs : List AV) => kInt .i64 c fun (n : Int) => kCons cs fun (c : AV) (cs : List 
  AV) => kInt .i64 c fun (n_1 : Int) => kCons cs fun (c : AV) (cs : List AV) => kStr c fun (s : List UInt8) => kCons cs fun (c : AV) (cs : List AV) => kSl c fun (rows : List (List AV)) 
  => kNil cs (some (.agg [.int .i64 n, .int .i64 n_1, .str s, .sl rows]))) P) : Gets (EVf (EV cfg) 29 ([AV.int IntKind.i64 i] : List AV)) P :=
  Gets.ev (fun _ h => funF rfl rfl Try.func29 rfl h) (Gets.eq (by kernel_rfl) h)
theorem f31_run (t : List UInt8) {P : AV → Prop} (h : Gets (kOpt (EVf (EV cfg) 75 [.str t]) fun (v : AV) => kAgg v fun (cs : List AV) => kCons cs fun (c : AV) (cs : List AV) => kInt .i64 c fun (n : Int) => kCons cs fun (c : AV) (cs : List AV) 
  => kInt .i64 c fun (n_1 : Int) => kCons cs fun (c : AV) (cs : List AV) => kStr c fun (s : List UInt8) => kCons cs fun (c : AV) (cs : List AV) => kSl c fun (rows : List (List AV)) => 
  kNil cs (some (.agg [.int .i64 n, .int .i64 n_1, .str s, .sl rows]))) P) : Gets (EVf (EV cfg) 31 ([AV.str t] : List AV)) P :=
  Gets.ev (fun _ h => funF rfl rfl Try.func31 rfl h) (Gets.eq (by kernel_rfl) h)
theorem f30_run (A : List (List AV)) {P : AV → Prop} (h : Gets (kOpt (EVf (EV cfg) 74 []) fun (v : AV) => kAgg v fun (cs : List AV) => kCons cs fun (c : AV) (cs : List AV) => kInt .i64 c fun (n : Int) => kCons cs fun (c : AV) (cs : List AV) => kInt 
  .i64 c fun (n_1 : Int) => kCons cs fun (c : AV) (cs : List AV) => kStr c fun (s : List UInt8) => kCons cs fun (c : AV) (cs : List AV) => kSl c fun (rows : List (List AV)) => kNil cs 
  (kOpt (EVf (EV cfg) 73 [.sl A, .agg [.int .i64 n, .int .i64 n_1, .str s, .sl rows]]) fun (v : AV) => kAgg v fun (cs : List AV) => kCons cs fun (c : AV) (cs : List AV) => kInt .i64 c 
  fun (n : Int) => kCons cs fun (c : AV) (cs : List AV) => kInt .i64 c fun (n_2 : Int) => kCons cs fun (c : AV) (cs : List AV) => kStr c fun (s : List UInt8) => kCons cs fun (c : AV) 
  (cs : List AV) => kSl c fun (rows : List (List AV)) => kNil cs (some (.agg [.int .i64 n, .int .i64 n_2, .str s, .sl rows])))) P) : Gets (EVf (EV cfg) 30 ([AV.sl A] : List AV)) P :=
  Gets.ev (fun _ h => funF rfl rfl Try.func30 rfl h) (Gets.eq (by kernel_rfl) h)
theorem f38_run (i : Int) {P : AV → Prop} (h : Gets (some (.agg [.int .i64 (1 : Int), .int .i64 i, .str [], .sl []])) P) : Gets (EVf (EV cfg) 38 ([AV.int IntKind.i64 i] : List AV)) P :=
  Gets.ev (fun _ h => funF rfl rfl Try.func38 rfl h) (Gets.eq (by kernel_rfl) h)
theorem f75_run (t : List UInt8) {P : AV → Prop} (h : Gets (some (.agg [.int .i64 (2 : Int), .int .i64 (0 : Int), .str t, .sl []])) P) : Gets (EVf (EV cfg) 75 ([AV.str t] : List AV)) P :=
  Gets.ev (fun _ h => funF rfl rfl Try.func75 rfl h) (Gets.eq (by kernel_rfl) h)
theorem f74_run  {P : AV → Prop} (h : Gets (some (.agg [.int .i64 (8 : Int), .int .i64 (0 : Int), .str [], .sl []])) P) : Gets (EVf (EV cfg) 74 ([] : List AV)) P :=
  Gets.ev (fun _ h => funF rfl rfl Try.func74 rfl h) (Gets.eq (by kernel_rfl) h)
theorem f73_run (A : List (List AV)) (ki : Int) (n : Int) (s : List UInt8) (B : List (List AV)) {P : AV → Prop} (h : Gets (W73_0 ((fx 23 [(0, .sl A), (4, .ptr 1 0 0), (5, .ptr 2 0 0), (6, .int .i64 (IntKind.wrap .i64 ((↑(List.length A) : Int) - (1 : Int))))]), [.rows false 4 [[.int .i64 ki, .int .i64 n, 
  .str s, .sl B]], .rows false 4 [[.int .i64 (0 : Int), .int .i64 (0 : Int), .str [], .sl []]], .rows false 4 [[.int .i64 ki, .int .i64 n, .str s, .sl B]]])) P) : Gets (EVf (EV cfg) 73 ([AV.sl A, AV.agg [AV.int IntKind.i64 ki, AV.int IntKind.i64 n, AV.str s, AV.sl B]] : List AV)) P :=
  Gets.ev (fun _ h => funF rfl rfl Try.func73 rfl h) (Gets.eq (by kernel_rfl) h)
noncomputable abbrev w73_0 (k2 : Int) (n2 : Int) (s2 : List UInt8) (B2 : List (List AV)) (A : List (List AV)) (ki : Int) (n : Int) (s : List UInt8) (B : List (List AV)) (v6 : Int) : Option (AV) := W73_0 (((fx 23 [(0, AV.sl A), (4, AV.ptr (1 : Nat) (0 : Nat) (0 : Nat)), (5, AV.ptr (2 : Nat) (0 : Nat) (0 : Nat)), (6, AV.int IntKind.i64 v6)]) : List AV), ([ABlk.rows false (4 : Nat) [[AV.int IntKind.i64 ki, AV.int IntKind.i64 n, AV.str s, AV.sl B]], ABlk.rows false (4 : Nat) [[AV.int IntKind.i64 (0 : Int), AV.int IntKind.i64 (0 : Int), AV.str [], AV.sl []]], ABlk.rows false (4 : Nat) [[AV.int IntKind.i64 k2, AV.int IntKind.i64 n2, AV.str s2, AV.sl B2]]] : AH))
theorem w73_0_step (k2 : Int) (n2 : Int) (s2 : List UInt8) (B2 : List (List AV)) (A : List (List AV)) (ki : Int) (n : Int) (s : List UInt8) (B : List (List AV)) (v6 : Int) {P : AV → Prop} (h : Gets (bif decide (v6 ≥ (0 : Int)) then bif leInt (0 : Int) v6 && ltInt v6 (↑(List.length A) : Int) then kOpt (List.get?Internal A (Int.toNat v6)) fun (row : List AV) => bif Nat.beq (List.length 
  row) 4 then bif Nat.ble 4 (List.length row) then kCons (List.take 4 row) fun (c : AV) (cs : List AV) => kInt .i64 c fun (n_1 : Int) => kCons cs fun (c : AV) (cs : List AV) => kInt .i64 
  c fun (n_2 : Int) => kCons cs fun (c : AV) (cs : List AV) => kStr c fun (s_1 : List UInt8) => kCons cs fun (c : AV) (cs : List AV) => kSl c fun (rows : List (List AV)) => kNil cs (W73_0 
  ((fx 23 [(0, .sl A), (4, .ptr 1 0 0), (5, .ptr 2 0 0), (6, .int .i64 (IntKind.wrap .i64 (v6 - (1 : Int))))]), [.rows false 4 [[.int .i64 ki, .int .i64 n, .str s, .sl B]], .rows false 
  4 [[.int .i64 (0 : Int), .int .i64 (0 : Int), .str [], .sl []]], .rows false 4 [[.int .i64 (9 : Int), .int .i64 (0 : Int), .str [], .sl [[.int .i64 n_1, .int .i64 n_2, .str s_1, .sl 
  rows], [.int .i64 k2, .int .i64 n2, .str s2, .sl B2]]]]])) else none else none else none else some (.agg [.int .i64 k2, .int .i64 n2, .str s2, .sl B2])) P) : Gets (w73_0 k2 n2 s2 B2 A ki n s B v6) P :=
  Gets.ev (fun _ h => loop_step (cfg := cfg) (f := 73) (rd := none) h) (Gets.eq (by kernel_rfl) h)
theorem f18_run  {P : AV → Prop} (h : Gets (kOpt (EVf (EV cfg) 29 [.int .i64 (1 : Int)]) fun (v : AV) => kAgg v fun (cs : List AV) => kCons cs fun (c : AV) (cs : List AV) => kInt .i64 c fun (n : Int) => kCons cs fun (c : AV) 
  (cs : List AV) => kInt .i64 c fun (n_1 : Int) => kCons cs fun (c : AV) (cs : List AV) => kStr c fun (s : List UInt8) => kCons cs fun (c : AV) (cs : List AV) => kSl c fun (rows : List 
  (List AV)) => kNil cs (kOpt (EVf (EV cfg) 31 [.str [(97 : UInt8)]]) fun (v : AV) => kAgg v fun (cs : List AV) => kCons cs fun (c : AV) (cs : List AV) => kInt .i64 c fun (n_2 : Int) 
  => kCons cs fun (c : AV) (cs : List AV) => kInt .i64 c fun (n_3 : Int) => kCons cs fun (c : AV) (cs : List AV) => kStr c fun (s_1 : List UInt8) => kCons cs fun (c : AV) (cs : List AV) 
  => kSl c fun (rows_1 : List (List AV)) => kNil cs (kOpt (EVs (EV cfg) 15 [.agg [.int .i64 n, .int .i64 n_1, .str s, .sl rows], .agg [.int .i64 n_2, .int .i64 n_3, .str s_1, .sl rows_1]]) 
  fun (v : AV) => kInt .i64 v fun (n : Int) => bif n == (-1 : Int) then kOpt (EVf (EV cfg) 29 [.int .i64 (9 : Int)]) fun (v : AV) => kAgg v fun (cs : List AV) => kCons cs fun (c : AV) 
  (cs : List AV) => kInt .i64 c fun (n : Int) => kCons cs fun (c : AV) (cs : List AV) => kInt .i64 c fun (n_4 : Int) => kCons cs fun (c : AV) (cs : List AV) => kStr c fun (s : List UInt8) 
  => kCons cs fun (c : AV) (cs : List AV) => kSl c fun (rows : List (List AV)) => kNil cs (kOpt (EVf (EV cfg) 28 [.sl [[.int .i64 n, .int .i64 n_4, .str s, .sl rows]]]) fun (v : AV) => 
  kAgg v fun (cs : List AV) => kCons cs fun (c : AV) (cs : List AV) => kInt .i64 c fun (n : Int) => kCons cs fun (c : AV) (cs : List AV) => kInt .i64 c fun (n_5 : Int) => kCons cs fun 
  (c : AV) (cs : List AV) => kStr c fun (s : List UInt8) => kCons cs fun (c : AV) (cs : List AV) => kSl c fun (rows : List (List AV)) => kNil cs (kOpt (EVf (EV cfg) 29 [.int .i64 (1 : 
  Int)]) fun (v : AV) => kAgg v fun (cs : List AV) => kCons cs fun (c : AV) (cs : List AV) => kInt .i64 c fun (n_6 : Int) => kCons cs fun (c : AV) (cs : List AV) => kInt .i64 c fun (n_7 
  : Int) => kCons cs fun (c : AV) (cs : List AV) => kStr c fun (s_2 : List UInt8) => kCons cs fun (c : AV) (cs : List AV) => kSl c fun (rows_2 : List (List AV)) => kNil cs (kOpt (EVf 
  (EV cfg) 30 [AV.sl [[.int .i64 n_6, .int .i64 n_7, .str s_2, .sl rows_2]]]) fun (v : AV) => kAgg v fun (cs : List AV) => kCons cs fun (c : AV) (cs : List AV) => kInt .i64 c fun (n_8 
  : Int) => kCons cs fun (c : AV) (cs : List AV) => kInt .i64 c fun (n_9 : Int) => kCons cs fun (c : AV) (cs : List AV) => kStr c fun (s_3 : List UInt8) => kCons cs fun (c : AV) (cs : 
  List AV) => kSl c fun (rows_3 : List (List AV)) => kNil cs (kOpt (EVs (EV cfg) 15 [AV.agg [.int .i64 n, .int .i64 n_5, .str s, .sl rows], AV.agg [.int .i64 n_8, .int .i64 n_9, .str 
  s_3, .sl rows_3]]) fun (v : AV) => kInt .i64 v fun (n : Int) => bif n == (-1 : Int) then kOpt (EVf (EV cfg) 29 [.int .i64 (1 : Int)]) fun (v : AV) => kAgg v fun (cs : List AV) => kCons 
  cs fun (c : AV) (cs : List AV) => kInt .i64 c fun (n : Int) => kCons cs fun (c : AV) (cs : List AV) => kInt .i64 c fun (n_10 : Int) => kCons cs fun (c : AV) (cs : List AV) => kStr c 
  fun (s : List UInt8) => kCons cs fun (c : AV) (cs : List AV) => kSl c fun (rows : List (List AV)) => kNil cs (kOpt (EVf (EV cfg) 29 [.int .i64 (2 : Int)]) fun (v : AV) => kAgg v fun 
  (cs : List AV) => kCons cs fun (c : AV) (cs : List AV) => kInt .i64 c fun (n_11 : Int) => kCons cs fun (c : AV) (cs : List AV) => kInt .i64 c fun (n_12 : Int) => kCons cs fun (c : AV) 
  (cs : List AV) => kStr c fun (s_4 : List UInt8) => kCons cs fun (c : AV) (cs : List AV) => kSl c fun (rows_4 : List (List AV)) => kNil cs (kOpt (EVf (EV cfg) (30 : Nat) [AV.sl [[AV.int 
  .i64 n, AV.int .i64 n_10, AV.str s, AV.sl rows], [AV.int .i64 n_11, AV.int .i64 n_12, AV.str s_4, AV.sl rows_4]]]) fun (v : AV) => kAgg v fun (cs : List AV) => kCons cs fun (c : AV) 
  (cs : List AV) => kInt .i64 c fun (n : Int) => kCons cs fun (c : AV) (cs : List AV) => kInt .i64 c fun (n_13 : Int) => kCons cs fun (c : AV) (cs : List AV) => kStr c fun (s : List UInt8) 
  => kCons cs fun (c : AV) (cs : List AV) => kSl c fun (rows : List (List AV)) => kNil cs (kOpt (EVf (EV cfg) (29 : Nat) [AV.int .i64 (1 : Int)]) fun (v : AV) => kAgg v fun (cs : List 
  AV) => kCons cs fun (c : AV) (cs : List AV) => kInt .i64 c fun (n_14 : Int) => kCons cs fun (c : AV) (cs : List AV) => kInt .i64 c fun (n_15 : Int) => kCons cs fun (c : AV) (cs : List 
  AV) => kStr c fun (s_5 : List UInt8) => kCons cs fun (c : AV) (cs : List AV) => kSl c fun (rows_5 : List (List AV)) => kNil cs (kOpt (EVf (EV cfg) (30 : Nat) [AV.sl [[AV.int .i64 n_14, 
  AV.int .i64 n_15, AV.str s_5, AV.sl rows_5]]]) fun (v : AV) => kAgg v fun (cs : List AV) => kCons cs fun (c : AV) (cs : List AV) => kInt .i64 c fun (n_16 : Int) => kCons cs fun (c : 
  AV) (cs : List AV) => kInt .i64 c fun (n_17 : Int) => kCons cs fun (c : AV) (cs : List AV) => kStr c fun (s_6 : List UInt8) => kCons cs fun (c : AV) (cs : List AV) => kSl c fun (rows_6 
  : List (List AV)) => kNil cs (kOpt (EVs (EV cfg) (15 : Nat) [AV.agg [AV.int .i64 n, AV.int .i64 n_13, AV.str s, AV.sl rows], AV.agg [AV.int .i64 n_16, AV.int .i64 n_17, AV.str s_6, 
  AV.sl rows_6]]) fun (v : AV) => kInt .i64 v fun (n : Int) => some (AV.bool (n == (1 : Int)))))))) else some (.bool false))))) else some (.bool false)))) P) : Gets (EVs (EV cfg) 18 ([] : List AV)) P :=
  Gets.ev (fun _ h => funS rfl rfl Try.func18 rfl h) (Gets.eq (by kernel_rfl) h)
theorem f3_run (ka : Int) (na : Int) (sa : List UInt8) (A : List (List AV)) (kb : Int) (nb : Int) (sb : List UInt8) (B : List (List AV)) {P : AV → Prop} (h : Gets (kOpt (EVs (EV cfg) 13 [.agg [.int .i64 ka, .int .i64 na, .str sa, .sl A], .int .i64 (400 : Int)]) fun (v : AV) => kBool v fun (b : Bool) => bif b then some (.bool true) else kOpt (EVs 
  (EV cfg) 13 [.agg [.int .i64 kb, .int .i64 nb, .str sb, .sl B], .int .i64 (400 : Int)]) fun (v : AV) => kBool v fun (b : Bool) => bif b then some (.bool true) else kOpt (EVf (EV cfg) 
  14 [.agg [.int .i64 ka, .int .i64 na, .str sa, .sl A]]) fun (v : AV) => kAgg v fun (cs : List AV) => kCons cs fun (c : AV) (cs : List AV) => kInt .i64 c fun (n : Int) => kCons cs fun 
  (c : AV) (cs : List AV) => kInt .i64 c fun (n_1 : Int) => kCons cs fun (c : AV) (cs : List AV) => kStr c fun (s : List UInt8) => kCons cs fun (c : AV) (cs : List AV) => kSl c fun (rows 
  : List (List AV)) => kNil cs (kOpt (EVf (EV cfg) 14 [.agg [.int .i64 kb, .int .i64 nb, .str sb, .sl B]]) fun (v : AV) => kAgg v fun (cs : List AV) => kCons cs fun (c : AV) (cs : List 
  AV) => kInt .i64 c fun (n_2 : Int) => kCons cs fun (c : AV) (cs : List AV) => kInt .i64 c fun (n_3 : Int) => kCons cs fun (c : AV) (cs : List AV) => kStr c fun (s_1 : List UInt8) => 
  kCons cs fun (c : AV) (cs : List AV) => kSl c fun (rows_1 : List (List AV)) => kNil cs (kOpt (EVs (EV cfg) 15 [.agg [.int .i64 n, .int .i64 n_1, .str s, .sl rows], .agg [.int .i64 n_2, 
  .int .i64 n_3, .str s_1, .sl rows_1]]) fun (v : AV) => kInt .i64 v fun (n_4 : Int) => kOpt (EVs (EV cfg) 16 [.agg [.int .i64 ka, .int .i64 na, .str sa, .sl A], .agg [.int .i64 kb, .int 
  .i64 nb, .str sb, .sl B]]) fun (v : AV) => kInt .i64 v fun (n_5 : Int) => bif n_4 == n_5 then kOpt (EVs (EV cfg) 17 [.agg [.int .i64 n, .int .i64 n_1, .str s, .sl rows], .agg [.int 
  .i64 ka, .int .i64 na, .str sa, .sl A]]) fun (v : AV) => kBool v fun (b : Bool) => bif b then kOpt (EVs (EV cfg) 17 [.agg [.int .i64 n_2, .int .i64 n_3, .str s_1, .sl rows_1], .agg 
  [.int .i64 kb, .int .i64 nb, .str sb, .sl B]]) fun (v : AV) => kBool v fun (b : Bool) => bif b then kOpt (EVs (EV cfg) 18 []) fun (v : AV) => kBool v fun (b : Bool) => some (.bool b) 
  else some (.bool false) else some (.bool false) else some (.bool false)))) P) : Gets (EVs (EV cfg) 3 ([AV.agg [AV.int IntKind.i64 ka, AV.int IntKind.i64 na, AV.str sa, AV.sl A], AV.agg [AV.int IntKind.i64 kb, AV.int IntKind.i64 nb, AV.str sb, AV.sl B]] : List AV)) P :=
  Gets.ev (fun _ h => funS rfl rfl Try.func3 rfl h) (Gets.eq (by kernel_rfl) h)
end Go.Proofs.Ytpbfmaodnihpeaa
end

section
/-
  The order of terms as plain Lean functions. Own work.
  What is proved: elementary facts; no condition.
-/
namespace Go.Av

def numC (a b : Int) : Int := if a < b then -1 else if b < a then 1 else 0
def strC (a b : List UInt8) : Int := if a = b then 0 else if Op.bytesLess a b then -1 else 1

mutual
def cmpT : Tm → Tm → Int
  | .mk k n s l, b =>
    if numC k b.kind ≠ 0 then numC k b.kind
    else if k = 1 ∨ k = 3 ∨ k = 4 ∨ k = 6 then numC n b.num
    else if k = 2 then strC s b.str
    else if k = 5 then (if numC n b.num ≠ 0 then numC n b.num else if numC l.length b.subs.length ≠ 0 then numC l.length b.subs.length else cmpE l b.subs)
    else if k = 7 ∨ k = 9 then (if numC l.length b.subs.length ≠ 0 then numC l.length b.subs.length else cmpE l b.subs)
    else 0
def cmpE : List Tm → List Tm → Int
  | [], [] => 0
  | [], _ :: _ => -1
  | _ :: _, [] => 1
  | a :: l, b :: l' => if cmpT a b ≠ 0 then cmpT a b else cmpE l l'
end

def cmpL (l l' : List Tm) : Int := if numC l.length l'.length ≠ 0 then numC l.length l'.length else cmpE l l'

theorem numC_zero {a b : Int} : numC a b = 0 ↔ a = b := by unfold numC; split <;> (try split) <;> omega
theorem numC_self (a : Int) : numC a a = 0 := numC_zero.2 rfl

theorem cmpT_eq (k n : Int) (s : List UInt8) (l : List Tm) (k' n' : Int) (s' : List UInt8) (l' : List Tm) : cmpT (.mk k n s l) (.mk k' n' s' l') =
    if numC k k' ≠ 0 then numC k k' else if k = 1 ∨ k = 3 ∨ k = 4 ∨ k = 6 then numC n n' else if k = 2 then strC s s'
    else if k = 5 then (if numC n n' ≠ 0 then numC n n' else cmpL l l') else if k = 7 ∨ k = 9 then cmpL l l' else 0 := by
  rw [cmpT]; rfl
theorem cmpE_cons (a b : Tm) (l l' : List Tm) : cmpE (a :: l) (b :: l') = if cmpT a b ≠ 0 then cmpT a b else cmpE l l' := by rw [cmpE]
theorem cmpE_nil : cmpE [] [] = 0 := by rw [cmpE]
theorem cmpE_nil_cons (b : Tm) (l' : List Tm) : cmpE [] (b :: l') = -1 := by rw [cmpE]
theorem cmpE_cons_nil (a : Tm) (l : List Tm) : cmpE (a :: l) [] = 1 := by rw [cmpE]

theorem bytesLess_irrefl : ∀ a : List UInt8, Op.bytesLess a a = false
  | [] => rfl
  | a :: l => by rw [Op.bytesLess, bytesLess_irrefl l]; simp
theorem bytesLess_total : ∀ a b : List UInt8, Op.bytesLess a b = false → a ≠ b → Op.bytesLess b a = true
  | [], [], _, h => absurd rfl h
  | [], _ :: _, h, _ => by simp [Op.bytesLess] at h
  | _ :: _, [], _, _ => by simp [Op.bytesLess]
  | a :: l, b :: m, h, hne => by
    simp only [Op.bytesLess, Bool.or_eq_false_iff, Bool.and_eq_false_iff, decide_eq_false_iff_not, Bool.or_eq_true, Bool.and_eq_true, decide_eq_true_eq, beq_iff_eq] at *
    obtain ⟨h1, h2⟩ := h
    by_cases hab : a = b
    · subst hab
      refine .inr ⟨rfl, bytesLess_total l m ?_ (fun e => hne (by rw [e]))⟩
      rcases h2 with h2 | h2
      · simp at h2
      · exact h2
    · left
      have : ¬ a.toNat < b.toNat := h1
      have : a.toNat ≠ b.toNat := fun e => hab (UInt8.toNat.inj e)
      show b.toNat < a.toNat
      omega
theorem strC_eq (a b : List UInt8) : strC a b = if Op.bytesLess a b then -1 else if !(Op.bytesLess a b || a == b) then 1 else 0 := by
  unfold strC
  by_cases h : a = b
  · subst h; simp [bytesLess_irrefl]
  · rw [if_neg h]
    have : (a == b) = false := by simpa using h
    rw [this]
    cases Op.bytesLess a b <;> rfl
end Go.Av
end

section
/-
  What the functions of terms do: how many parts a term has, copies, whether two are the same. Own work.
  What is proved: contracts of the abstract evaluation; no condition.
-/
namespace Go.Proofs.Ytpbfmaodnihpeaa
open Go.Av

theorem parts_ev (t : Tm) : t.Ok → ∀ most : Int, Gets (EVs (EV cfg) 57 [t.av, .int .i64 most]) AV.IsInt := by
  induction t using Tm.ind with
  | _ k n s l ih =>
    intro hok most
    have loop : ∀ (d i : Nat) (m : Int), i + d = l.length → Gets (w57_0 k n most s (rowsT l) m i) AV.IsInt := by
      intro d
      induction d with
      | zero =>
        intro i m hi
        refine w57_0_step _ _ _ _ _ _ _ ?_
        rw [rowsT_length, decide_eq_false (by omega)]
        simp
      | succ d ihd =>
        intro i m hi
        refine w57_0_step _ _ _ _ _ _ _ ?_
        obtain ⟨x, hx⟩ : ∃ x, l[i]? = some x := ⟨_, List.getElem?_eq_getElem (by omega)⟩
        have hxl := List.mem_of_getElem? hx
        have hix := ih x hxl (hok.sub hxl)
        obtain ⟨k', n', s', l'⟩ := x
        rw [rowsT_length, decide_eq_true (show (i : Int) < (l.length : Int) by omega), leInt_zero, ltInt_nat, decide_eq_true (show i < l.length by omega), rowsT_at hx, Tm.cells_mk]
        by_cases hm : m ≤ most
        · rw [decide_eq_true hm]
          simp
          rw [Tm.av_mk] at hix
          refine Gets.bind (hix _) ?_
          rintro _ ⟨n'', rfl⟩
          simp
          rw [wrap_succ (n := l.length) (by omega) hok.len]
          exact ihd (i + 1) _ (by omega)
        · rw [decide_eq_false hm]
          simp
    rw [Tm.av_mk]
    exact f57_run _ _ _ _ _ (loop l.length 0 1 (by omega))

theorem long_ev (t : Tm) : t.Ok → Gets (EVs (EV cfg) 58 [t.av]) AV.IsBool := by
  induction t using Tm.ind with
  | _ k n s l ih =>
    intro hok
    have loop : ∀ (d i : Nat), i + d = l.length → Gets (w58_0 k n s (rowsT l) i) AV.IsBool := by
      intro d
      induction d with
      | zero =>
        intro i hi
        refine w58_0_step _ _ _ _ _ ?_
        rw [rowsT_length, decide_eq_false (by omega)]
        simp
      | succ d ihd =>
        intro i hi
        refine w58_0_step _ _ _ _ _ ?_
        obtain ⟨x, hx⟩ : ∃ x, l[i]? = some x := ⟨_, List.getElem?_eq_getElem (by omega)⟩
        have hxl := List.mem_of_getElem? hx
        have hix := ih x hxl (hok.sub hxl)
        obtain ⟨k', n', s', l'⟩ := x
        rw [rowsT_length, decide_eq_true (show (i : Int) < (l.length : Int) by omega), leInt_zero, ltInt_nat, decide_eq_true (show i < l.length by omega), rowsT_at hx, Tm.cells_mk]
        simp
        rw [Tm.av_mk] at hix
        refine Gets.bind hix ?_
        rintro _ ⟨b, rfl⟩
        cases b with
        | true => simp
        | false =>
          simp
          rw [wrap_succ (n := l.length) (by omega) hok.len]
          exact ihd (i + 1) (by omega)
    rw [Tm.av_mk]
    refine f58_run _ _ _ _ ?_
    by_cases h : (s.length : Int) > 200
    · rw [decide_eq_true h]; simp
    · rw [decide_eq_false h]
      exact loop l.length 0 (by omega)

theorem large_ev (t : Tm) (h : t.Ok) (most : Int) : Gets (EVs (EV cfg) 13 [t.av, .int .i64 most]) AV.IsBool := by
  have h1 := parts_ev t h most
  have h2 := long_ev t h
  obtain ⟨k, n, s, l⟩ := t
  rw [Tm.av_mk] at *
  refine f13_run _ _ _ _ _ ?_
  refine Gets.bind h1 ?_
  rintro _ ⟨m, rfl⟩
  simp
  by_cases hm : most < m
  · simp [hm]
  · simp [hm]
    refine Gets.bind h2 ?_
    rintro _ ⟨b, rfl⟩
    simp

theorem fits56 {n : Nat} (h : n ≤ 1099511627776) : fitsIn n 56 = true := by
  unfold fitsIn
  rw [Bool.and_eq_true, Nat.ble_eq, Nat.ble_eq]
  omega

/-- a list of terms in memory of its own -/
def ownL (l : List Tm) : OV := match l with | [] => .nil | l => .own 4 (rowsT l) 0 l.length

theorem copyT_of {k n : Int} {s : List UInt8} {l : List Tm} (h : EVo (EV cfg) 59 [.sl (rowsT l)] = some (ownL l)) : EVf (EV cfg) 14 [(Tm.mk k n s l).av] = some (Tm.mk k n s l).av := by
  apply Gets.get
  rw [Tm.av_mk]
  refine f14_run _ _ _ _ ?_
  rw [h]
  cases l with
  | nil => simp [ownL]
  | cons x l =>
    have : (rowsT (x :: l)).take (l.length + 1) = rowsT (x :: l) := List.take_of_length_le (by simp)
    simp [ownL, this]

theorem copyL_of (l : List Tm) (hlen : l.length < 1099511627776) (ih : ∀ t ∈ l, EVf (EV cfg) 14 [t.av] = some t.av) : EVo (EV cfg) 59 [.sl (rowsT l)] = some (ownL l) := by
  apply Gets.get
  have step : ∀ (d i : Nat), i + d = l.length → 0 < i → Gets (w59_1 (rowsT (l.take i)) i (rowsT l) i) (· = ownL l) := by
    intro d
    induction d with
    | zero =>
      intro i hi h0
      refine w59_1_step _ _ _ _ ?_
      have : i = l.length := by omega
      subst this
      cases l with
      | nil => simp at h0
      | cons x l => simp [ownL]
    | succ d ihd =>
      intro i hi h0
      refine w59_1_step _ _ _ _ ?_
      obtain ⟨x, hx⟩ : ∃ x, l[i]? = some x := ⟨_, List.getElem?_eq_getElem (by omega)⟩
      have hix := ih x (List.mem_of_getElem? hx)
      have htk : l.take (i + 1) = l.take i ++ [x] := by rw [List.take_add_one, hx]; rfl
      have hlt : (l.take i).length = i := by simp; omega
      have := ihd (i + 1) (by omega) (by omega)
      rw [htk, rowsT_append] at this
      obtain ⟨k', n', s', l'⟩ := x
      rw [Tm.av_mk] at hix
      rw [rowsT_at hx, Tm.cells_mk, rowsT_length, rowsT_length, hlt, rowsT_take, List.take_take, Nat.min_self, wrap_succ (n := l.length) (by omega) hlen]
      rw [rowsT_cons, rowsT_nil, Tm.cells_mk] at this
      simpa [show i < l.length by omega, hix, fits56 (show i + 1 ≤ 1099511627776 by omega)] using this
  refine f59_run _ ?_
  show Gets (w59_0 (rowsT l) 0) _
  cases l with
  | nil =>
    refine w59_0_step _ _ ?_
    simp [ownL]
  | cons x l =>
    have := step l.length 1 (by simp; omega) (by omega)
    have hix := ih x (by simp)
    refine w59_0_step _ _ ?_
    obtain ⟨k', n', s', l'⟩ := x
    rw [Tm.av_mk] at hix
    have h1 : IntKind.wrap .i64 1 = 1 := wrap64 (by omega) (by omega)
    simpa [rowsT_cons, Tm.cells_mk, hix, fits56, h1] using this

theorem copyT_ev (t : Tm) : t.Ok → EVf (EV cfg) 14 [t.av] = some t.av := by
  induction t using Tm.ind with
  | _ k n s l ih => exact fun hok => copyT_of (copyL_of l hok.len (fun t ht => ih t ht (hok.sub ht)))
theorem copyL_ev {l : List Tm} (h : OkL l) (hlen : l.length < 1099511627776) : EVo (EV cfg) 59 [.sl (rowsT l)] = some (ownL l) := copyL_of l hlen (fun t ht => copyT_ev t (h.get ht))
end Go.Proofs.Ytpbfmaodnihpeaa
end

section
/-
  What the functions of the order of terms do. Own work.
  What is proved: contracts of the abstract evaluation; no condition.
-/
namespace Go.Proofs.Ytpbfmaodnihpeaa
open Go.Av

/-- v tells whether p -/
def Tells (p : Prop) (v : AV) : Prop := ∃ b : Bool, v = .bool b ∧ (b = true ↔ p)

theorem tells_bool {p : Prop} {b : Bool} : Tells p (.bool b) ↔ (b = true ↔ p) := ⟨fun ⟨_, h1, h2⟩ => by cases h1; exact h2, fun h => ⟨b, rfl, h⟩⟩

theorem sameL_of (la lb : List Tm) (hlen : la.length < 1099511627776) (ih : ∀ a ∈ la, ∀ b, Gets (EVs (EV cfg) 17 [a.av, b.av]) (Tells (a = b))) : Gets (EVs (EV cfg) 67 [.sl (rowsT la), .sl (rowsT lb)]) (Tells (la = lb)) := by
  have loop : la.length = lb.length → ∀ (d i : Nat), i + d = la.length → la.take i = lb.take i → Gets (w67_0 (rowsT la) (rowsT lb) i) (Tells (la = lb)) := by
    intro hl d
    induction d with
    | zero =>
      intro i hi ht
      refine w67_0_step _ _ _ ?_
      rw [List.take_of_length_le (by omega), List.take_of_length_le (by omega)] at ht
      have h1 : ¬ i < la.length := by omega
      simp [h1, tells_bool]
      exact ht
    | succ d ihd =>
      intro i hi ht
      refine w67_0_step _ _ _ ?_
      obtain ⟨x, hx⟩ : ∃ x, la[i]? = some x := ⟨_, List.getElem?_eq_getElem (by omega)⟩
      obtain ⟨y, hy⟩ : ∃ y, lb[i]? = some y := ⟨_, List.getElem?_eq_getElem (by omega)⟩
      have hix := ih x (List.mem_of_getElem? hx) y
      have hta : la.take (i + 1) = la.take i ++ [x] := by rw [List.take_add_one, hx]; rfl
      have htb : lb.take (i + 1) = lb.take i ++ [y] := by rw [List.take_add_one, hy]; rfl
      have hih := ihd (i + 1) (by omega)
      have hne : x ≠ y → la ≠ lb := by intro h e; subst e; rw [hx] at hy; exact h (Option.some.inj hy)
      rw [hta, htb, ht] at hih
      obtain ⟨k, n, s, l⟩ := x
      obtain ⟨k', n', s', l'⟩ := y
      rw [Tm.av_mk, Tm.av_mk] at hix
      rw [wrap_succ (n := la.length) (by omega) hlen]
      simp only [get?Internal_eq, Int.toNat_natCast, rowsT_some hx, rowsT_some hy]
      simp [show i < la.length by omega, show i < lb.length by omega]
      refine Gets.bind hix ?_
      rintro _ ⟨b, rfl, hb⟩
      cases b with
      | true => simp; exact hih (by rw [hb.1 rfl])
      | false =>
        have : la ≠ lb := hne (fun e => by cases hb.2 e)
        simp [tells_bool, this]
  refine f67_run _ _ ?_
  by_cases hl : la.length = lb.length
  · simp [hl]
    exact loop hl la.length 0 (by omega) (by simp)
  · have : la ≠ lb := fun e => hl (by rw [e])
    have hl' : ¬ ((la.length : Int) = lb.length) := by omega
    simp [bneD, hl', tells_bool, this]

theorem sameT_ev (a : Tm) : a.Ok → ∀ b : Tm, Gets (EVs (EV cfg) 17 [a.av, b.av]) (Tells (a = b)) := by
  induction a using Tm.ind with
  | _ k n s l ih =>
    intro hok b
    obtain ⟨k', n', s', l'⟩ := b
    have hl := sameL_of l l' hok.len (fun a ha b => ih a ha (hok.sub ha) b)
    rw [Tm.av_mk, Tm.av_mk]
    refine f17_run _ _ _ _ _ _ _ _ ?_
    by_cases h1 : k = k'
    · by_cases h2 : n = n'
      · by_cases h3 : s = s'
        · subst h1 h2 h3
          simp
          refine Gets.bind hl ?_
          rintro _ ⟨b, rfl, hb⟩
          simp [tells_bool, hb]
        · simp [h1, h2, beqD, h3, tells_bool]
      · simp [h1, beqD, h2, tells_bool]
    · simp [beqD, h1, tells_bool]
theorem sameL_ev {la : List Tm} (h : OkL la) (hlen : la.length < 1099511627776) (lb : List Tm) : Gets (EVs (EV cfg) 67 [.sl (rowsT la), .sl (rowsT lb)]) (Tells (la = lb)) := sameL_of la lb hlen (fun a ha b => sameT_ev a (h.get ha) b)

/-! ### numbers and texts -/
theorem isNaN_ev (a : Int) : EVs (EV cfg) 95 [.int .i64 a] = some (.bool false) := by
  apply Gets.get
  refine f95_run _ ?_
  simp
theorem cmp_ev (a b : Int) : EVs (EV cfg) 60 [.int .i64 a, .int .i64 b] = some (.int .i64 (numC a b)) := by
  apply Gets.get
  refine f60_run _ _ ?_
  rw [isNaN_ev, isNaN_ev]
  unfold numC
  by_cases h1 : a < b
  · simp [h1]
  · by_cases h2 : b < a
    · simp [h1, h2]
    · simp [h1, h2]
theorem cmpstr_ev (a b : List UInt8) : EVs (EV cfg) 107 [.str a, .str b] = some (.int .i64 (strC a b)) := by
  refine EVs_of (H := []) (EV_of ?_)
  have hx : cfg.ext 107 = some extCmp := rfl
  unfold evBody
  simp only [hx]
  unfold extCmp strC
  by_cases h : a = b
  · simp [h]
  · simp [h]
theorem strCmp_ev (a b : List UInt8) : EVs (EV cfg) 61 [.str a, .str b] = some (.int .i64 (strC a b)) := by
  have h96 : EVs (EV cfg) 96 [.str a, .str b] = some (.int .i64 (strC a b)) := by
    apply Gets.get
    refine f96_run _ _ ?_
    rw [cmpstr_ev]; simp
  apply Gets.get
  refine f61_run _ _ ?_
  rw [h96]; simp
theorem or3_ev (a b c : Int) : EVs (EV cfg) 62 [.sl [[.int .i64 a], [.int .i64 b], [.int .i64 c]]] = some (.int .i64 (if a ≠ 0 then a else if b ≠ 0 then b else c)) := by
  apply Gets.get
  refine f62_run _ ?_
  have w1 : IntKind.wrap .i64 (0 + 1) = 1 := wrap64 (by omega) (by omega)
  have w2 : IntKind.wrap .i64 (1 + 1) = 2 := wrap64 (by omega) (by omega)
  have w3 : IntKind.wrap .i64 (2 + 1) = 3 := wrap64 (by omega) (by omega)
  have s3 : Gets (w62_0 [[.int .i64 a], [.int .i64 b], [.int .i64 c]] 3) (· = .int .i64 0) := by
    refine w62_0_step _ _ ?_
    simp
  have s2 : Gets (w62_0 [[.int .i64 a], [.int .i64 b], [.int .i64 c]] 2) (· = .int .i64 c) := by
    refine w62_0_step _ _ ?_
    rw [w3]
    by_cases h : c = 0
    · subst h; simp; exact s3
    · simp [bneD, h]
  have s1 : Gets (w62_0 [[.int .i64 a], [.int .i64 b], [.int .i64 c]] 1) (· = .int .i64 (if b ≠ 0 then b else c)) := by
    refine w62_0_step _ _ ?_
    rw [w2]
    by_cases h : b = 0
    · subst h; simp; exact s2
    · simp [bneD, h]
  refine w62_0_step _ _ ?_
  rw [w1]
  by_cases h : a = 0
  · subst h; simp only [ne_eq, ite_not] at s1; simp; exact s1
  · simp [bneD, h]
theorem or2_ev (a b : Int) : EVs (EV cfg) 62 [.sl [[.int .i64 a], [.int .i64 b]]] = some (.int .i64 (if a ≠ 0 then a else b)) := by
  apply Gets.get
  refine f62_run _ ?_
  have w1 : IntKind.wrap .i64 (0 + 1) = 1 := wrap64 (by omega) (by omega)
  have w2 : IntKind.wrap .i64 (1 + 1) = 2 := wrap64 (by omega) (by omega)
  have s2 : Gets (w62_0 [[.int .i64 a], [.int .i64 b]] 2) (· = .int .i64 0) := by
    refine w62_0_step _ _ ?_
    simp
  have s1 : Gets (w62_0 [[.int .i64 a], [.int .i64 b]] 1) (· = .int .i64 b) := by
    refine w62_0_step _ _ ?_
    rw [w2]
    by_cases h : b = 0
    · subst h; simp; exact s2
    · simp [bneD, h]
  refine w62_0_step _ _ ?_
  rw [w1]
  by_cases h : a = 0
  · subst h; simp; exact s1
  · simp [bneD, h]
theorem numbers_ev (a b : Int) : EVs (EV cfg) 64 [.int .i64 a, .int .i64 b] = some (.int .i64 (numC a b)) := by
  apply Gets.get
  refine f64_run _ _ ?_
  unfold numC
  by_cases h1 : a < b
  · simp [h1]
  · by_cases h2 : b < a
    · simp [h1, h2]
    · simp [h1, h2]
theorem texts_ev (a b : List UInt8) : EVs (EV cfg) 65 [.str a, .str b] = some (.int .i64 (strC a b)) := by
  apply Gets.get
  refine f65_run _ _ ?_
  rw [strC_eq]
  cases h1 : Op.bytesLess a b
  · cases h2 : (a == b) <;> simp
  · simp
end Go.Proofs.Ytpbfmaodnihpeaa
end

section
/-
  What order.Compare and its definition by the document do. Own work.
  What is proved: contracts of the abstract evaluation; no condition.
-/
namespace Go.Proofs.Ytpbfmaodnihpeaa
open Go.Av

theorem drop_get {β : Type} {l : List β} {i : Nat} {x : β} (h : l[i]? = some x) : l.drop i = x :: l.drop (i + 1) := by
  obtain ⟨h1, h2⟩ := List.getElem?_eq_some_iff.1 h
  rw [← h2]; exact List.drop_eq_getElem_cons h1

theorem dropNil {β : Type} {l : List β} {i : Nat} (h : l.length ≤ i) : l.drop i = [] := List.drop_eq_nil_of_le h

theorem listsE_of (la lb : List Tm) (hlen : la.length < 1099511627776) (ih : ∀ a ∈ la, ∀ b ∈ lb, EVs (EV cfg) 15 [a.av, b.av] = some (.int .i64 (cmpT a b))) :
    EVs (EV cfg) 97 [.sl (rowsT la), .sl (rowsT lb), .fn (.func 15) [] []] = some (.int .i64 (cmpE la lb)) := by
  have loop : ∀ (d i : Nat), i + d = la.length → Gets (w97_0 (rowsT la) (rowsT lb) i) (· = .int .i64 (cmpE (la.drop i) (lb.drop i))) := by
    intro d
    induction d with
    | zero =>
      intro i hi
      refine w97_0_step _ _ _ ?_
      rw [dropNil (l := la) (by omega)]
      by_cases h : i < lb.length
      · obtain ⟨y, hy⟩ : ∃ y, lb[i]? = some y := ⟨_, List.getElem?_eq_getElem h⟩
        rw [drop_get hy, cmpE_nil_cons]
        simp [show ¬ i < la.length by omega, show la.length < lb.length by omega]
      · rw [dropNil (l := lb) (by omega), cmpE_nil]
        simp [show ¬ i < la.length by omega, show ¬ la.length < lb.length by omega]
    | succ d ihd =>
      intro i hi
      refine w97_0_step _ _ _ ?_
      obtain ⟨x, hx⟩ : ∃ x, la[i]? = some x := ⟨_, List.getElem?_eq_getElem (by omega)⟩
      rw [drop_get hx]
      by_cases h : i < lb.length
      · obtain ⟨y, hy⟩ : ∃ y, lb[i]? = some y := ⟨_, List.getElem?_eq_getElem h⟩
        have hix := ih x (List.mem_of_getElem? hx) y (List.mem_of_getElem? hy)
        have hih := ihd (i + 1) (by omega)
        simp only [w97_0, rowsT_length] at hih
        rw [drop_get hy, cmpE_cons]
        obtain ⟨k, n, s, l⟩ := x
        obtain ⟨k', n', s', l'⟩ := y
        rw [Tm.av_mk, Tm.av_mk] at hix
        simp only [get?Internal_eq, Int.toNat_natCast, rowsT_some hx, rowsT_some hy]
        simp [show i < la.length by omega, h, show ¬ lb.length ≤ i by omega, hix, bneD]
        by_cases hc : cmpT (.mk k n s l) (.mk k' n' s' l') = 0
        · simp [hc]; rw [wrap_succ (n := la.length) (by omega) hlen]; exact hih
        · simp [hc]
      · rw [dropNil (l := lb) (by omega), cmpE_cons_nil]
        obtain ⟨k, n, s, l⟩ := x
        simp only [get?Internal_eq, Int.toNat_natCast, rowsT_some hx]
        simp [show i < la.length by omega, show lb.length ≤ i by omega]
  apply Gets.get
  refine f97_run _ _ ?_
  exact loop la.length 0 (by omega)

theorem lists_of (la lb : List Tm) (hlen : la.length < 1099511627776) (ih : ∀ a ∈ la, ∀ b ∈ lb, EVs (EV cfg) 15 [a.av, b.av] = some (.int .i64 (cmpT a b))) :
    EVs (EV cfg) 63 [.sl (rowsT la), .sl (rowsT lb)] = some (.int .i64 (cmpE la lb)) := by
  apply Gets.get
  refine f63_run _ _ ?_
  rw [listsE_of la lb hlen ih]
  simp

theorem compare_loop (a : Tm) : a.Ok → ∀ (kb nb : Int) (sb : List UInt8) (lb : List Tm), (Tm.mk kb nb sb lb).Ok → Gets (w15_0 a.kind a.num a.str (rowsT a.subs) kb nb sb (rowsT lb)) (· = .int .i64 (cmpT a (.mk kb nb sb lb))) := by
  induction a using Tm.ind with
  | _ k n s l ih =>
    intro hok kb nb sb lb hokb
    have ihe : ∀ a ∈ l, ∀ b ∈ lb, EVs (EV cfg) 15 [a.av, b.av] = some (.int .i64 (cmpT a b)) := by
      intro a ha b hb
      have := ih a ha (hok.sub ha)
      have hob := hokb.sub hb
      obtain ⟨k1, n1, s1, l1⟩ := a
      obtain ⟨k2, n2, s2, l2⟩ := b
      rw [Tm.av_mk, Tm.av_mk]
      apply Gets.get
      exact f15_run _ _ _ _ _ _ _ _ (this k2 n2 s2 l2 hob)
    have hlists := lists_of l lb hok.len ihe
    rw [cmpT_eq]
    refine w15_0_step _ _ _ _ _ _ _ _ ?_
    simp only [Tm.kind, Tm.num, Tm.str, Tm.subs, cmp_ev, strCmp_ev, hlists, or2_ev, or3_ev, rowsT_length, kOptSome, kInt_int, bneD, beqD]
    by_cases h0 : ¬ numC k kb = 0
    · simp [h0]
    have h0 : numC k kb = 0 := Classical.not_not.1 h0
    simp [h0]
    by_cases h1 : k = 1
    · simp [h1]
    by_cases h3 : k = 3
    · simp [h3]
    by_cases h4 : k = 4
    · simp [h4]
    by_cases h6 : k = 6
    · simp [h6]
    by_cases h2 : k = 2
    · simp [h2]
    by_cases h5 : k = 5
    · simp [h5, cmpL]
    by_cases h9 : k = 9
    · subst h9
      by_cases hl : l.length = 2
      · by_cases hl' : lb.length = 2
        · obtain ⟨x, y, rfl⟩ : ∃ x y, l = [x, y] := by
            match l, hl with
            | [x, y], _ => exact ⟨x, y, rfl⟩
          obtain ⟨x', y', rfl⟩ : ∃ x y, lb = [x, y] := by
            match lb, hl' with
            | [x, y], _ => exact ⟨x, y, rfl⟩
          have hx := ihe x (by simp) x' (by simp)
          have hy := ih y (by simp) (hok.sub (by simp))
          have hoy := hokb.sub (t := y') (by simp)
          have hcl : cmpL [x, y] [x', y'] = if cmpT x x' ≠ 0 then cmpT x x' else cmpT y y' := by
            unfold cmpL
            rw [cmpE_cons, cmpE_cons, cmpE_nil]
            by_cases e1 : cmpT x x' = 0 <;> by_cases e2 : cmpT y y' = 0 <;> simp [numC_self, e1, e2]
          obtain ⟨k1, n1, s1, l1⟩ := x
          obtain ⟨k2, n2, s2, l2⟩ := y
          obtain ⟨k1', n1', s1', l1'⟩ := x'
          obtain ⟨k2', n2', s2', l2'⟩ := y'
          have hyy := hy k2' n2' s2' l2' hoy
          rw [Tm.av_mk, Tm.av_mk] at hx
          simp only [rowsT_cons, rowsT_nil, Tm.cells_mk]
          simp [hcl, hx]
          by_cases hc : cmpT (.mk k1 n1 s1 l1) (.mk k1' n1' s1' l1') = 0
          · simp [hc]; exact hyy
          · simp [hc]
        · have : ¬ ((lb.length : Int) = 2) := by omega
          simp [hl, this, cmpL]
      · have : ¬ ((l.length : Int) = 2) := by omega
        simp [this, cmpL]
    by_cases h7 : k = 7
    · simp [h7, cmpL]
    simp [h1, h2, h3, h4, h5, h6, h7, h9]

theorem compare_ev {a b : Tm} (ha : a.Ok) (hb : b.Ok) : EVs (EV cfg) 15 [a.av, b.av] = some (.int .i64 (cmpT a b)) := by
  have := compare_loop a ha
  obtain ⟨k1, n1, s1, l1⟩ := a
  obtain ⟨k2, n2, s2, l2⟩ := b
  rw [Tm.av_mk, Tm.av_mk]
  apply Gets.get
  exact f15_run _ _ _ _ _ _ _ _ (this k2 n2 s2 l2 hb)

/-! ### by the document -/
theorem refLists_of (la lb : List Tm) (hlen : la.length < 1099511627776) (ih : ∀ a ∈ la, ∀ b ∈ lb, EVs (EV cfg) 16 [a.av, b.av] = some (.int .i64 (cmpT a b))) :
    EVs (EV cfg) 66 [.sl (rowsT la), .sl (rowsT lb)] = some (.int .i64 (cmpL la lb)) := by
  have stop : ∀ (c : Int) (i : Nat), c ≠ 0 → Gets (w66_0 (rowsT la) (rowsT lb) c i) (· = .int .i64 c) := by
    intro c i hc
    refine w66_0_step _ _ _ _ ?_
    by_cases h : i < la.length
    · simp [h, beqD, hc]
    · simp [h]
  have loop : la.length = lb.length → ∀ (d i : Nat), i + d = la.length → Gets (w66_0 (rowsT la) (rowsT lb) 0 i) (· = .int .i64 (cmpE (la.drop i) (lb.drop i))) := by
    intro hl d
    induction d with
    | zero =>
      intro i hi
      refine w66_0_step _ _ _ _ ?_
      rw [dropNil (l := la) (by omega), dropNil (l := lb) (by omega), cmpE_nil]
      simp [show ¬ i < la.length by omega]
    | succ d ihd =>
      intro i hi
      refine w66_0_step _ _ _ _ ?_
      obtain ⟨x, hx⟩ : ∃ x, la[i]? = some x := ⟨_, List.getElem?_eq_getElem (by omega)⟩
      obtain ⟨y, hy⟩ : ∃ y, lb[i]? = some y := ⟨_, List.getElem?_eq_getElem (by omega)⟩
      have hix := ih x (List.mem_of_getElem? hx) y (List.mem_of_getElem? hy)
      have hih := ihd (i + 1) (by omega)
      rw [drop_get hx, drop_get hy, cmpE_cons]
      have hst := stop (cmpT x y) (i + 1)
      obtain ⟨k, n, s, l⟩ := x
      obtain ⟨k', n', s', l'⟩ := y
      rw [Tm.av_mk, Tm.av_mk] at hix
      simp only [get?Internal_eq, Int.toNat_natCast, rowsT_some hx, rowsT_some hy]
      simp [show i < la.length by omega, show i < lb.length by omega, hix]
      by_cases hc : cmpT (.mk k n s l) (.mk k' n' s' l') = 0
      · simp [hc]; rw [wrap_succ (n := la.length) (by omega) hlen]; exact hih
      · simp [hc]; rw [wrap_succ (n := la.length) (by omega) hlen]; exact hst hc
  apply Gets.get
  refine f66_run _ _ ?_
  simp only [numbers_ev, rowsT_length, kOptSome, kInt_int]
  unfold cmpL
  by_cases h : numC la.length lb.length = 0
  · have := loop (by have := numC_zero.1 h; omega) la.length 0 (by omega)
    simp [h]; exact this
  · simp [h]; exact stop _ 0 h

theorem refCompare_ev (a : Tm) : a.Ok → ∀ b : Tm, b.Ok → EVs (EV cfg) 16 [a.av, b.av] = some (.int .i64 (cmpT a b)) := by
  induction a using Tm.ind with
  | _ k n s l ih =>
    intro hok b hokb
    obtain ⟨kb, nb, sb, lb⟩ := b
    have hlists := refLists_of l lb hok.len (fun a ha b hb => ih a ha (hok.sub ha) b (hokb.sub hb))
    rw [cmpT_eq, Tm.av_mk, Tm.av_mk]
    apply Gets.get
    refine f16_run _ _ _ _ _ _ _ _ ?_
    simp only [numbers_ev, texts_ev, hlists, kOptSome, kInt_int, bneD, beqD]
    by_cases h0 : ¬ numC k kb = 0
    · simp [h0]
    have h0 : numC k kb = 0 := Classical.not_not.1 h0
    simp [h0]
    by_cases h1 : k = 1
    · simp [h1]
    by_cases h3 : k = 3
    · simp [h3]
    by_cases h4 : k = 4
    · simp [h4]
    by_cases h6 : k = 6
    · simp [h6]
    by_cases h2 : k = 2
    · simp [h2]
    by_cases h5 : k = 5
    · by_cases hn : numC n nb = 0
      · simp [h5, hn]
      · simp [h5, hn]
    by_cases h7 : k = 7
    · simp [h7]
    by_cases h9 : k = 9
    · simp [h9]
    simp [h1, h2, h3, h4, h5, h6, h7, h9]
end Go.Proofs.Ytpbfmaodnihpeaa
end

section
/-
  The order of terms is total: plain Lean. Own work.
  What is proved: antisymmetry and transitivity of cmpT; no condition.
-/
namespace Go.Av

/-- three numbers that compare three things: x to y, y to z, x to z -/
def C3 (p q r : Int) : Prop := (p ≤ 0 → q ≤ 0 → r ≤ 0) ∧ (p < 0 → q ≤ 0 → r < 0) ∧ (p ≤ 0 → q < 0 → r < 0) ∧ (0 ≤ p → 0 ≤ q → 0 ≤ r) ∧ (0 < p → 0 ≤ q → 0 < r) ∧ (0 ≤ p → 0 < q → 0 < r)

def lexI (a b : Int) : Int := if a ≠ 0 then a else b

theorem C3.neg3 {p q r : Int} (hp : p < 0) (hq : q ≤ 0) (hr : r < 0) : C3 p q r := by
  refine ⟨?_, ?_, ?_, ?_, ?_, ?_⟩ <;> intros <;> omega
theorem C3.neg3' {p q r : Int} (hp : p ≤ 0) (hq : q < 0) (hr : r < 0) : C3 p q r := by
  refine ⟨?_, ?_, ?_, ?_, ?_, ?_⟩ <;> intros <;> omega
theorem C3.pos3 {p q r : Int} (hp : 0 < p) (hq : 0 ≤ q) (hr : 0 < r) : C3 p q r := by
  refine ⟨?_, ?_, ?_, ?_, ?_, ?_⟩ <;> intros <;> omega
theorem C3.pos3' {p q r : Int} (hp : 0 ≤ p) (hq : 0 < q) (hr : 0 < r) : C3 p q r := by
  refine ⟨?_, ?_, ?_, ?_, ?_, ?_⟩ <;> intros <;> omega
theorem C3.mix {p q r : Int} (hp : p < 0) (hq : 0 < q) : C3 p q r := by
  refine ⟨?_, ?_, ?_, ?_, ?_, ?_⟩ <;> intros <;> omega
theorem C3.mix' {p q r : Int} (hp : 0 < p) (hq : q < 0) : C3 p q r := by
  refine ⟨?_, ?_, ?_, ?_, ?_, ?_⟩ <;> intros <;> omega
theorem lexI_ne {a b : Int} (h : a ≠ 0) : lexI a b = a := if_pos h
theorem lexI_zero (b : Int) : lexI 0 b = b := rfl

theorem C3.lex {p q r p' q' r' : Int} (h : C3 p q r) (h' : p = 0 → q = 0 → C3 p' q' r') : C3 (lexI p p') (lexI q q') (lexI r r') := by
  obtain ⟨h1, h2, h3, h4, h5, h6⟩ := h
  rcases Int.lt_trichotomy p 0 with hp | hp | hp
  · rw [lexI_ne (a := p) (by omega)]
    rcases Int.lt_trichotomy q 0 with hq | hq | hq
    · have hr := h2 hp (by omega)
      rw [lexI_ne (a := q) (by omega), lexI_ne (a := r) (by omega)]
      exact C3.neg3 hp (by omega) hr
    · have hr := h2 hp (by omega)
      rw [hq, lexI_zero, lexI_ne (a := r) (by omega)]
      rcases Int.lt_trichotomy q' 0 with h | h | h
      · exact C3.neg3 hp (by omega) hr
      · exact C3.neg3 hp (by omega) hr
      · exact C3.mix hp h
    · rw [lexI_ne (a := q) (by omega)]
      exact C3.mix hp hq
  · subst hp
    rw [lexI_zero]
    rcases Int.lt_trichotomy q 0 with hq | hq | hq
    · have hr := h3 (by omega) hq
      rw [lexI_ne (a := q) (by omega), lexI_ne (a := r) (by omega)]
      rcases Int.lt_trichotomy p' 0 with h | h | h
      · exact C3.neg3' (by omega) hq hr
      · exact C3.neg3' (by omega) hq hr
      · exact C3.mix' h hq
    · subst hq
      have ha := h1 (by omega) (by omega)
      have hb := h4 (by omega) (by omega)
      obtain rfl : r = 0 := by omega
      exact h' rfl rfl
    · have hr := h6 (by omega) hq
      rw [lexI_ne (a := q) (by omega), lexI_ne (a := r) (by omega)]
      rcases Int.lt_trichotomy p' 0 with h | h | h
      · exact C3.mix h hq
      · exact C3.pos3' (by omega) hq hr
      · exact C3.pos3' (by omega) hq hr
  · rw [lexI_ne (a := p) (by omega)]
    rcases Int.lt_trichotomy q 0 with hq | hq | hq
    · rw [lexI_ne (a := q) (by omega)]
      exact C3.mix' hp hq
    · have hr := h5 hp (by omega)
      rw [hq, lexI_zero, lexI_ne (a := r) (by omega)]
      rcases Int.lt_trichotomy q' 0 with h | h | h
      · exact C3.mix' hp h
      · exact C3.pos3 hp (by omega) hr
      · exact C3.pos3 hp (by omega) hr
    · have hr := h5 hp (by omega)
      rw [lexI_ne (a := q) (by omega), lexI_ne (a := r) (by omega)]
      exact C3.pos3 hp (by omega) hr

theorem lexI_neg (a b : Int) : lexI (-a) (-b) = - lexI a b := by unfold lexI; split <;> split <;> omega

theorem numC_neg (a b : Int) : numC b a = - numC a b := by unfold numC; split <;> split <;> (try split) <;> omega
theorem numC_le (a b : Int) : numC a b ≤ 0 ↔ a ≤ b := by unfold numC; split <;> (try split) <;> omega
theorem numC_lt (a b : Int) : numC a b < 0 ↔ a < b := by unfold numC; split <;> (try split) <;> omega
theorem numC_ge (a b : Int) : 0 ≤ numC a b ↔ b ≤ a := by unfold numC; split <;> (try split) <;> omega
theorem numC_gt (a b : Int) : 0 < numC a b ↔ b < a := by unfold numC; split <;> (try split) <;> omega
theorem numC_C3 (a b c : Int) : C3 (numC a b) (numC b c) (numC a c) := by
  unfold C3
  simp only [numC_le, numC_lt, numC_ge, numC_gt]
  refine ⟨?_, ?_, ?_, ?_, ?_, ?_⟩ <;> intros <;> omega

theorem strC_nil : strC [] [] = 0 := by simp [strC]
theorem strC_nil_cons (b : UInt8) (m : List UInt8) : strC [] (b :: m) = -1 := by simp [strC, Op.bytesLess]
theorem strC_cons_nil (b : UInt8) (m : List UInt8) : strC (b :: m) [] = 1 := by simp [strC, Op.bytesLess]
theorem strC_cons (a b : UInt8) (l m : List UInt8) : strC (a :: l) (b :: m) = lexI (numC a.toNat b.toNat) (strC l m) := by
  unfold strC lexI numC
  by_cases h : a = b
  · subst h
    by_cases h2 : l = m
    · subst h2; simp
    · simp [h2, Op.bytesLess]
  · have hne : a.toNat ≠ b.toNat := fun e => h (UInt8.toNat.inj e)
    have h3 : (a :: l = b :: m) = False := by simp [h]
    have h4 : (a == b) = false := by simpa using h
    rw [if_neg (by simp [h])]
    simp only [Op.bytesLess, h4, Bool.false_and, Bool.or_false]
    by_cases hlt : a.toNat < b.toNat
    · have : a < b := hlt
      have h5 : (a.toNat : Int) < b.toNat := by omega
      simp [this, h5]
    · have : ¬ a < b := hlt
      have h5 : ¬ (a.toNat : Int) < b.toNat := by omega
      have h6 : (b.toNat : Int) < a.toNat := by omega
      simp [this, h5, h6]
theorem strC_neg : ∀ a b : List UInt8, strC b a = - strC a b
  | [], [] => by simp [strC_nil]
  | [], b :: m => by rw [strC_nil_cons, strC_cons_nil]; rfl
  | a :: l, [] => by rw [strC_nil_cons, strC_cons_nil]
  | a :: l, b :: m => by rw [strC_cons, strC_cons, numC_neg, strC_neg l m, lexI_neg]
theorem strC_C3 : ∀ a b c : List UInt8, C3 (strC a b) (strC b c) (strC a c)
  | [], [], [] => by simp [strC_nil, C3]
  | [], [], c :: n => by simp [strC_nil, strC_nil_cons, C3]
  | [], b :: m, [] => by simp [strC_nil, strC_nil_cons, strC_cons_nil, C3]
  | [], b :: m, c :: n => by
    rw [strC_nil_cons, strC_nil_cons]
    unfold C3
    refine ⟨?_, ?_, ?_, ?_, ?_, ?_⟩ <;> intros <;> omega
  | a :: l, [], [] => by simp [strC_nil, strC_cons_nil, C3]
  | a :: l, [], c :: n => by
    rw [strC_nil_cons, strC_cons_nil]
    unfold C3
    refine ⟨?_, ?_, ?_, ?_, ?_, ?_⟩ <;> intros <;> omega
  | a :: l, b :: m, [] => by
    rw [strC_cons_nil, strC_cons_nil]
    unfold C3
    refine ⟨?_, ?_, ?_, ?_, ?_, ?_⟩ <;> intros <;> omega
  | a :: l, b :: m, c :: n => by
    rw [strC_cons, strC_cons, strC_cons]
    exact (numC_C3 _ _ _).lex fun _ _ => strC_C3 l m n

theorem cmpT_lex (k n : Int) (s : List UInt8) (l : List Tm) (k' n' : Int) (s' : List UInt8) (l' : List Tm) : cmpT (.mk k n s l) (.mk k' n' s' l') =
    lexI (numC k k') (if k = 1 ∨ k = 3 ∨ k = 4 ∨ k = 6 then numC n n' else if k = 2 then strC s s'
    else if k = 5 then lexI (numC n n') (lexI (numC l.length l'.length) (cmpE l l')) else if k = 7 ∨ k = 9 then lexI (numC l.length l'.length) (cmpE l l') else 0) := by
  rw [cmpT_eq]; rfl

theorem cmpE_lex (a b : Tm) (l l' : List Tm) : cmpE (a :: l) (b :: l') = lexI (cmpT a b) (cmpE l l') := by rw [cmpE_cons]; rfl

theorem cmpE_neg_of : ∀ (l : List Tm), (∀ a ∈ l, ∀ b, cmpT b a = - cmpT a b) → ∀ l', cmpE l' l = - cmpE l l'
  | [], _, [] => by rw [cmpE_nil]; rfl
  | [], _, b :: l' => by rw [cmpE_nil_cons, cmpE_cons_nil]; rfl
  | a :: l, _, [] => by rw [cmpE_nil_cons, cmpE_cons_nil]
  | a :: l, h, b :: l' => by rw [cmpE_lex, cmpE_lex, h a (by simp), cmpE_neg_of l (fun a ha => h a (by simp [ha])) l', lexI_neg]

theorem cmpT_neg (a b : Tm) : cmpT b a = - cmpT a b := by
  induction a using Tm.ind generalizing b with
  | _ k n s l ih =>
    obtain ⟨k', n', s', l'⟩ := b
    rw [cmpT_lex, cmpT_lex, numC_neg, cmpE_neg_of l ih, numC_neg n n', numC_neg l.length l'.length, strC_neg]
    by_cases h : k = k'
    · subst h
      rw [← lexI_neg, numC_self]
      simp only [lexI_neg]
      congr 1
      split
      · rfl
      · split
        · rfl
        · split
          · rfl
          · split
            · rfl
            · rfl
    · have : numC k k' ≠ 0 := fun e => h (numC_zero.1 e)
      unfold lexI
      rw [if_pos (by omega), if_pos this]

theorem cmpE_C3_of : ∀ (l : List Tm), (∀ a ∈ l, ∀ b c, C3 (cmpT a b) (cmpT b c) (cmpT a c)) → ∀ m n, C3 (cmpE l m) (cmpE m n) (cmpE l n)
  | [], _, [], [] => by simp [cmpE_nil, C3]
  | [], _, [], c :: n => by simp [cmpE_nil, cmpE_nil_cons, C3]
  | [], _, b :: m, [] => by simp [cmpE_nil, cmpE_nil_cons, cmpE_cons_nil, C3]
  | [], _, b :: m, c :: n => by
    rw [cmpE_nil_cons, cmpE_nil_cons]
    unfold C3
    refine ⟨?_, ?_, ?_, ?_, ?_, ?_⟩ <;> intros <;> omega
  | a :: l, _, [], [] => by simp [cmpE_nil, cmpE_cons_nil, C3]
  | a :: l, _, [], c :: n => by
    rw [cmpE_nil_cons, cmpE_cons_nil]
    unfold C3
    refine ⟨?_, ?_, ?_, ?_, ?_, ?_⟩ <;> intros <;> omega
  | a :: l, _, b :: m, [] => by
    rw [cmpE_cons_nil, cmpE_cons_nil]
    unfold C3
    refine ⟨?_, ?_, ?_, ?_, ?_, ?_⟩ <;> intros <;> omega
  | a :: l, h, b :: m, c :: n => by
    rw [cmpE_lex, cmpE_lex, cmpE_lex]
    exact (h a (by simp) b c).lex fun _ _ => cmpE_C3_of l (fun a ha => h a (by simp [ha])) m n

theorem cmpT_C3 (a b c : Tm) : C3 (cmpT a b) (cmpT b c) (cmpT a c) := by
  induction a using Tm.ind generalizing b c with
  | _ k n s l ih =>
    obtain ⟨k', n', s', l'⟩ := b
    obtain ⟨k'', n'', s'', l''⟩ := c
    rw [cmpT_lex, cmpT_lex, cmpT_lex]
    refine (numC_C3 _ _ _).lex fun h1 h2 => ?_
    have e1 := numC_zero.1 h1
    have e2 := numC_zero.1 h2
    subst e1 e2
    have hE := cmpE_C3_of l ih l' l''
    have hL := (numC_C3 l.length l'.length l''.length).lex fun _ _ => hE
    split
    · exact numC_C3 _ _ _
    · split
      · exact strC_C3 _ _ _
      · split
        · exact (numC_C3 _ _ _).lex fun _ _ => hL
        · split
          · exact hL
          · simp [C3]

theorem cmpT_self (a : Tm) : cmpT a a = 0 := by have := cmpT_neg a a; omega
theorem cmpT_trans {a b c : Tm} (h1 : cmpT a b ≤ 0) (h2 : cmpT b c ≤ 0) : cmpT a c ≤ 0 := (cmpT_C3 a b c).1 h1 h2
theorem cmpT_lt_le {a b c : Tm} (h1 : cmpT a b < 0) (h2 : cmpT b c ≤ 0) : cmpT a c < 0 := (cmpT_C3 a b c).2.1 h1 h2
theorem cmpT_le_lt {a b c : Tm} (h1 : cmpT a b ≤ 0) (h2 : cmpT b c < 0) : cmpT a c < 0 := (cmpT_C3 a b c).2.2.1 h1 h2
end Go.Av
end

section
/-
  Merging and stable sorting of lists of terms: plain Lean. Own work.
  What is proved: laws of mrg and sortT; no condition.
-/
namespace Go.Av

/-- two lists merged; of terms that are alike the left one's first -/
def mrg : List Tm → List Tm → List Tm
  | [], b => b
  | x :: a, [] => x :: a
  | x :: a, y :: b => if cmpT x y ≤ 0 then x :: mrg a (y :: b) else y :: mrg (x :: a) b
termination_by a b => a.length + b.length

@[simp] theorem mrg_nil (b : List Tm) : mrg [] b = b := by rw [mrg]
@[simp] theorem mrg_nil' (a : List Tm) : mrg a [] = a := by cases a <;> rw [mrg]
theorem mrg_le {x y : Tm} (h : cmpT x y ≤ 0) (a b : List Tm) : mrg (x :: a) (y :: b) = x :: mrg a (y :: b) := by rw [mrg, if_pos h]
theorem mrg_gt {x y : Tm} (h : ¬ cmpT x y ≤ 0) (a b : List Tm) : mrg (x :: a) (y :: b) = y :: mrg (x :: a) b := by rw [mrg, if_neg h]

theorem mrg_mem {t : Tm} : ∀ (n : Nat) (a b : List Tm), a.length + b.length = n → (t ∈ mrg a b ↔ t ∈ a ∨ t ∈ b) := by
  intro n
  induction n with
  | zero =>
    intro a b h
    have ha : a = [] := List.eq_nil_of_length_eq_zero (by omega)
    have hb : b = [] := List.eq_nil_of_length_eq_zero (by omega)
    subst ha hb; simp
  | succ n ih =>
    intro a b h
    match a, b with
    | [], b => simp
    | x :: a, [] => simp
    | x :: a, y :: b =>
      simp only [List.length_cons] at h
      by_cases hc : cmpT x y ≤ 0
      · rw [mrg_le hc, List.mem_cons, ih a (y :: b) (by simp; omega)]
        simp only [List.mem_cons]
        exact or_assoc.symm
      · rw [mrg_gt hc, List.mem_cons, ih (x :: a) b (by simp; omega)]
        simp only [List.mem_cons]
        exact or_left_comm
theorem mem_mrg {t : Tm} {a b : List Tm} : t ∈ mrg a b ↔ t ∈ a ∨ t ∈ b := mrg_mem _ a b rfl

theorem mrg_length : ∀ (n : Nat) (a b : List Tm), a.length + b.length = n → (mrg a b).length = n := by
  intro n
  induction n with
  | zero =>
    intro a b h
    have ha : a = [] := List.eq_nil_of_length_eq_zero (by omega)
    have hb : b = [] := List.eq_nil_of_length_eq_zero (by omega)
    subst ha hb; simp
  | succ n ih =>
    intro a b h
    match a, b with
    | [], b => simpa using h
    | x :: a, [] => simpa using h
    | x :: a, y :: b =>
      simp only [List.length_cons] at h
      by_cases hc : cmpT x y ≤ 0
      · rw [mrg_le hc, List.length_cons, ih a (y :: b) (by simp; omega)]
      · rw [mrg_gt hc, List.length_cons, ih (x :: a) b (by simp; omega)]

theorem mrg_split : ∀ (n : Nat) (X U V Y : List Tm), X.length + V.length = n → (∀ u ∈ U, ∀ v ∈ V, 0 < cmpT u v) → (∀ x ∈ X, ∀ y ∈ Y, cmpT x y ≤ 0) → mrg (X ++ U) (V ++ Y) = mrg X V ++ mrg U Y := by
  intro n
  induction n with
  | zero =>
    intro X U V Y h _ _
    have ha : X = [] := List.eq_nil_of_length_eq_zero (by omega)
    have hb : V = [] := List.eq_nil_of_length_eq_zero (by omega)
    subst ha hb; simp
  | succ n ih =>
    intro X U V Y h hU hX
    match X, V with
    | [], [] => simp
    | [], v :: V =>
      simp only [List.length_cons, List.length_nil] at h
      have := ih [] U V Y (by simp; omega) (fun u hu w hw => hU u hu w (by simp [hw])) hX
      simp only [List.nil_append, mrg_nil] at this ⊢
      cases U with
      | nil => simp
      | cons u U =>
        rw [List.cons_append, mrg_gt (by have := hU u (by simp) v (by simp); omega), this]
        rfl
    | x :: X, [] =>
      simp only [List.length_cons, List.length_nil] at h
      have := ih X U [] Y (by simp; omega) hU (fun z hz y hy => hX z (by simp [hz]) y hy)
      simp only [List.nil_append, mrg_nil'] at this ⊢
      cases Y with
      | nil => simp
      | cons y Y =>
        rw [List.cons_append, mrg_le (hX x (by simp) y (by simp)), this]
        rfl
    | x :: X, v :: V =>
      simp only [List.length_cons] at h
      by_cases hc : cmpT x v ≤ 0
      · have := ih X U (v :: V) Y (by simp; omega) hU (fun z hz y hy => hX z (by simp [hz]) y hy)
        rw [List.cons_append, List.cons_append, mrg_le hc, mrg_le hc, List.cons_append, ← this]
        rfl
      · have := ih (x :: X) U V Y (by simp; omega) (fun u hu w hw => hU u hu w (by simp [hw])) hX
        rw [List.cons_append, List.cons_append, mrg_gt hc, mrg_gt hc, List.cons_append, ← this]
        rfl

theorem mrg_assoc : ∀ (n : Nat) (a b c : List Tm), a.length + b.length + c.length = n → mrg (mrg a b) c = mrg a (mrg b c) := by
  intro n
  induction n with
  | zero =>
    intro a b c h
    have ha : a = [] := List.eq_nil_of_length_eq_zero (by omega)
    have hb : b = [] := List.eq_nil_of_length_eq_zero (by omega)
    subst ha hb; simp
  | succ n ih =>
    intro a b c h
    match a, b, c with
    | [], b, c => simp
    | x :: a, [], c => simp
    | x :: a, y :: b, [] => simp
    | x :: a, y :: b, z :: c =>
      simp only [List.length_cons] at h
      have ngx := cmpT_neg x z
      have ngy := cmpT_neg y z
      have ngxy := cmpT_neg x y
      by_cases h1 : cmpT x y ≤ 0
      · rw [mrg_le h1]
        by_cases h2 : cmpT x z ≤ 0
        · rw [mrg_le h2]
          by_cases h3 : cmpT y z ≤ 0
          · rw [mrg_le h3, mrg_le h1, ih a (y :: b) (z :: c) (by simp; omega), mrg_le h3]
          · rw [mrg_gt h3, mrg_le h2, ih a (y :: b) (z :: c) (by simp; omega), mrg_gt h3]
        · have h3 : ¬ cmpT y z ≤ 0 := by
            intro h3
            exact h2 (cmpT_trans h1 h3)
          rw [mrg_gt h2, mrg_gt h3, mrg_gt h2, ← ih (x :: a) (y :: b) c (by simp; omega), mrg_le h1]
      · rw [mrg_gt h1]
        by_cases h3 : cmpT y z ≤ 0
        · rw [mrg_le h3, mrg_le h3, mrg_gt h1, ih (x :: a) b (z :: c) (by simp; omega)]
        · have h2 : ¬ cmpT x z ≤ 0 := by
            intro h2
            have hzx : cmpT z y ≤ 0 := by omega
            have hyx : cmpT y x < 0 := by omega
            have := cmpT_le_lt (a := x) (b := z) (c := y) h2 (by omega)
            omega
          rw [mrg_gt h3, mrg_gt h3, mrg_gt h2, ← ih (x :: a) (y :: b) c (by simp; omega), mrg_gt h1]
theorem mrg_asc (a b c : List Tm) : mrg (mrg a b) c = mrg a (mrg b c) := mrg_assoc _ a b c rfl

def SortedT (l : List Tm) : Prop := l.Pairwise fun a b => cmpT a b ≤ 0

theorem mrg_sorted : ∀ (n : Nat) (a b : List Tm), a.length + b.length = n → SortedT a → SortedT b → SortedT (mrg a b) := by
  intro n
  induction n with
  | zero =>
    intro a b h _ _
    have ha : a = [] := List.eq_nil_of_length_eq_zero (by omega)
    have hb : b = [] := List.eq_nil_of_length_eq_zero (by omega)
    subst ha hb; simp [SortedT]
  | succ n ih =>
    intro a b h ha hb
    match a, b with
    | [], b => simpa using hb
    | x :: a, [] => simpa using ha
    | x :: a, y :: b =>
      simp only [List.length_cons] at h
      have ha' := List.pairwise_cons.1 ha
      have hb' := List.pairwise_cons.1 hb
      have ng := cmpT_neg x y
      by_cases hc : cmpT x y ≤ 0
      · rw [mrg_le hc]
        refine List.pairwise_cons.2 ⟨fun t ht => ?_, ih a (y :: b) (by simp; omega) ha'.2 hb⟩
        rcases mem_mrg.1 ht with ht | ht
        · exact ha'.1 t ht
        · rcases List.mem_cons.1 ht with rfl | ht
          · exact hc
          · exact cmpT_trans hc (hb'.1 t ht)
      · rw [mrg_gt hc]
        have hyx : cmpT y x ≤ 0 := by omega
        refine List.pairwise_cons.2 ⟨fun t ht => ?_, ih (x :: a) b (by simp; omega) ha hb'.2⟩
        rcases mem_mrg.1 ht with ht | ht
        · rcases List.mem_cons.1 ht with rfl | ht
          · exact hyx
          · exact cmpT_trans hyx (ha'.1 t ht)
        · exact hb'.1 t ht

/-- sorted, those that are alike in their order -/
def sortT (l : List Tm) : List Tm := l.foldl (fun acc x => mrg acc [x]) []

theorem sortT_snoc (l : List Tm) (x : Tm) : sortT (l ++ [x]) = mrg (sortT l) [x] := by simp [sortT, List.foldl_append]
theorem sortT_nil : sortT [] = [] := rfl
theorem sortT_one (x : Tm) : sortT [x] = [x] := by simp [sortT]

theorem list_snoc_ind {P : List Tm → Prop} (h0 : P []) (h1 : ∀ l x, P l → P (l ++ [x])) : ∀ l, P l := by
  intro l
  have : ∀ r : List Tm, P r.reverse := by
    intro r
    induction r with
    | nil => exact h0
    | cons x r ih => rw [List.reverse_cons]; exact h1 _ _ ih
  have h := this l.reverse
  rwa [List.reverse_reverse] at h

theorem sortT_append (a b : List Tm) : sortT (a ++ b) = mrg (sortT a) (sortT b) := by
  induction b using list_snoc_ind with
  | h0 => simp [sortT_nil]
  | h1 b x ih => rw [← List.append_assoc, sortT_snoc, ih, sortT_snoc, mrg_asc]

theorem sortT_sorted (l : List Tm) : SortedT (sortT l) := by
  induction l using list_snoc_ind with
  | h0 => simp [sortT_nil, SortedT]
  | h1 l x ih => rw [sortT_snoc]; exact mrg_sorted _ _ _ rfl ih (by simp [SortedT])
theorem sortT_length (l : List Tm) : (sortT l).length = l.length := by
  induction l using list_snoc_ind with
  | h0 => rfl
  | h1 l x ih => rw [sortT_snoc, mrg_length _ _ _ rfl, ih]; simp
theorem mem_sortT {t : Tm} {l : List Tm} : t ∈ sortT l ↔ t ∈ l := by
  induction l using list_snoc_ind with
  | h0 => simp [sortT_nil]
  | h1 l x ih => rw [sortT_snoc, mem_mrg, ih]; simp

/-- a term is put behind all that are not behind it -/
theorem mrg_one {X U : List Tm} {y : Tm} (hX : ∀ x ∈ X, cmpT x y ≤ 0) (hU : ∀ u ∈ U, 0 < cmpT u y) : mrg (X ++ U) [y] = X ++ y :: U := by
  have h := mrg_split _ X U [y] [] rfl (fun u hu v hv => by simp at hv; subst hv; exact hU u hu) (fun x _ y hy => by cases hy)
  rw [List.append_nil] at h
  rw [h, mrg_nil']
  have h2 := mrg_split _ X [] [] [y] rfl (fun u hu => by cases hu) (fun x hx z hz => by simp at hz; subst hz; exact hX x hx)
  simp only [List.append_nil, List.nil_append, mrg_nil, mrg_nil'] at h2
  rw [h2]; simp
theorem one_mrg {V Y : List Tm} {x : Tm} (hV : ∀ v ∈ V, 0 < cmpT x v) (hY : ∀ y ∈ Y, cmpT x y ≤ 0) : mrg [x] (V ++ Y) = V ++ x :: Y := by
  have h := mrg_split _ [] [x] V Y rfl (fun u hu v hv => by simp at hu; subst hu; exact hV v hv) (fun x hx => by cases hx)
  simp only [List.nil_append, mrg_nil] at h
  rw [h]
  have h2 := mrg_split _ [x] [] [] Y rfl (fun u hu => by cases hu) (fun z hz y hy => by simp at hz; subst hz; exact hY y hy)
  simp only [List.append_nil, List.nil_append, mrg_nil, mrg_nil'] at h2
  rw [h2]; rfl
end Go.Av
end

section
/-
  What the parts of the library's stable sort do. Own work.
  What is proved: contracts of the abstract evaluation; no condition.
-/
namespace Go.Proofs.Ytpbfmaodnihpeaa
open Go.Av

theorem get_mid {β : Type} {A B : List β} {x : β} {i : Nat} (h : i = A.length) : (A ++ x :: B)[i]? = some x := by subst h; simp
theorem set_mid {β : Type} {A B : List β} {x y : β} {i : Nat} (h : i = A.length) : (A ++ x :: B).set i y = A ++ y :: B := by subst h; simp

theorem swap_step {l : List Tm} {x y : Tm} {p q a b m i : Nat} (hlen : l.length < 1099511627776) (hx : l[p]? = some x) (hy : l[q]? = some y) (hp : a + i = p) (hq : b + i = q) (hne : p ≠ q) (hi : i < m) {P : MV × List (List AV) → Prop}
    (h : Gets (w118_0 (rowsT ((l.set p y).set q x)) 0 l.length a b m ((i + 1 : Nat) : Int)) P) : Gets (w118_0 (rowsT l) 0 l.length a b m i) P := by
  refine w118_0_step _ _ _ _ _ _ _ ?_
  have hpl : p < l.length := (List.getElem?_eq_some_iff.1 hx).1
  have hql : q < l.length := (List.getElem?_eq_some_iff.1 hy).1
  have ea : IntKind.wrap .i64 ((a : Int) + i) = (p : Int) := by rw [wrap64 (by omega) (by omega)]; omega
  have eb : IntKind.wrap .i64 ((b : Int) + i) = (q : Int) := by rw [wrap64 (by omega) (by omega)]; omega
  have hset : (rowsT (l.set p y))[q]? = some y.cells := by rw [rowsT_get, List.getElem?_set_ne hne, hy]; rfl
  have h1 : (rowsT l).set p y.cells = rowsT (l.set p y) := rowsT_set l p y
  have h2 : (rowsT (l.set p y)).set q x.cells = rowsT ((l.set p y).set q x) := rowsT_set _ q x
  have ei : IntKind.wrap .i64 ((i : Int) + 1) = ((i + 1 : Nat) : Int) := by rw [wrap64 (by omega) (by omega)]; rfl
  obtain ⟨k, n, s, lx⟩ := x
  obtain ⟨k', n', s', ly⟩ := y
  rw [Tm.cells_mk] at hset h1 h2
  rw [ea, eb, ei]
  simp only [get?Internal_eq, Int.toNat_natCast, Nat.zero_add, rowsT_some hx, rowsT_some hy, kOptSome]
  simp only [List.length_cons, List.length_nil, Nat.zero_add, Nat.reduceAdd, nble, Nat.le_refl, decide_true, cond_true, List.take_succ_cons, List.take_zero, List.drop_succ_cons, List.drop_zero, kCons_cons, kNil_nil, kInt_int, kStr_str, kSl_sl, leInt_eq, ltInt_eq,
    h1, hset, h2, kOptSome]
  have d1 : decide ((i : Int) < (m : Int)) = true := decide_eq_true (by omega)
  have d2 : decide ((0 : Int) ≤ (q : Int)) = true := decide_eq_true (by omega)
  have d3 : decide ((q : Int) < (l.length : Int)) = true := decide_eq_true (by omega)
  have d4 : decide ((0 : Int) ≤ (p : Int)) = true := decide_eq_true (by omega)
  have d5 : decide ((p : Int) < (l.length : Int)) = true := decide_eq_true (by omega)
  simp only [d1, d2, d3, d4, d5, Bool.and_self, cond_true]
  exact h

theorem swapRange_ev {P X Y Z S : List Tm} (hxz : X.length = Z.length) {n a b m : Nat} (hn : n = (P ++ (X ++ (Y ++ (Z ++ S)))).length) (hlen : n < 1099511627776) (ha : a = P.length) (hb : b = P.length + X.length + Y.length) (hm : m = X.length) :
    EVm (EV cfg) 118 [.ms 0 0 n, .int .i64 a, .int .i64 b, .int .i64 m, .fn (.func 15) [] []] 4 (rowsT (P ++ (X ++ (Y ++ (Z ++ S))))) = some (.unit, rowsT (P ++ (Z ++ (Y ++ (X ++ S))))) := by
  have loop : ∀ (X2 Z2 X1 Z1 : List Tm), X2.length = Z2.length → X1.length = Z1.length → X = X1 ++ X2 → Z = Z1 ++ Z2 →
      Gets (w118_0 (rowsT (P ++ (Z1 ++ (X2 ++ (Y ++ (X1 ++ (Z2 ++ S))))))) 0 n a b m X1.length) (· = (.unit, rowsT (P ++ (Z ++ (Y ++ (X ++ S)))))) := by
    intro X2
    induction X2 with
    | nil =>
      intro Z2 X1 Z1 h2 h1 eX eZ
      obtain rfl : Z2 = [] := List.eq_nil_of_length_eq_zero (by simpa using h2.symm)
      refine w118_0_step _ _ _ _ _ _ _ ?_
      have : ¬ ((X1.length : Int) < (m : Int)) := by rw [hm, eX]; simp
      simp only [List.append_nil] at eX eZ
      subst eX eZ
      simp [this]
    | cons x X2 ih =>
      intro Z2 X1 Z1 h2 h1 eX eZ
      match Z2, h2 with
      | z :: Z2, h2 =>
        have hlenX : X.length = X1.length + (X2.length + 1) := by rw [eX]; simp
        have e0 : P ++ (Z1 ++ (x :: X2 ++ (Y ++ (X1 ++ (z :: Z2 ++ S))))) = (P ++ Z1) ++ x :: (X2 ++ (Y ++ (X1 ++ (z :: Z2 ++ S)))) := by simp
        have e1 : (P ++ Z1) ++ z :: (X2 ++ (Y ++ (X1 ++ (z :: Z2 ++ S)))) = (P ++ Z1 ++ z :: (X2 ++ (Y ++ X1))) ++ z :: (Z2 ++ S) := by simp
        have e2 : (P ++ Z1 ++ z :: (X2 ++ (Y ++ X1))) ++ x :: (Z2 ++ S) = P ++ ((Z1 ++ [z]) ++ (X2 ++ (Y ++ ((X1 ++ [x]) ++ (Z2 ++ S))))) := by simp
        have e3 : P ++ (Z1 ++ (x :: X2 ++ (Y ++ (X1 ++ (z :: Z2 ++ S))))) = (P ++ Z1 ++ x :: (X2 ++ (Y ++ X1))) ++ z :: (Z2 ++ S) := by simp
        have hln : (P ++ (Z1 ++ (x :: X2 ++ (Y ++ (X1 ++ (z :: Z2 ++ S)))))).length = n := by
          rw [hn, eX, eZ]; simp at h2 ⊢; omega
        have := ih Z2 (X1 ++ [x]) (Z1 ++ [z]) (by simpa using h2) (by simp [h1]) (by simp [eX]) (by simp [eZ])
        have hp : a + X1.length = (P ++ Z1).length := by rw [ha]; simp; omega
        have hq : b + X1.length = (P ++ Z1 ++ x :: (X2 ++ (Y ++ X1))).length := by rw [hb, hlenX]; simp; omega
        have hq' : (P ++ Z1 ++ x :: (X2 ++ (Y ++ X1))).length = (P ++ Z1 ++ z :: (X2 ++ (Y ++ X1))).length := by simp
        have st := swap_step (l := P ++ (Z1 ++ (x :: X2 ++ (Y ++ (X1 ++ (z :: Z2 ++ S)))))) (x := x) (y := z) (p := (P ++ Z1).length) (q := (P ++ Z1 ++ x :: (X2 ++ (Y ++ X1))).length) (a := a) (b := b) (m := m) (i := X1.length)
          (by rw [hln]; exact hlen) (by rw [e0]; exact get_mid rfl) (by rw [e3]; exact get_mid rfl) hp hq (by simp) (by rw [hm, hlenX]; omega) (P := (· = (.unit, rowsT (P ++ (Z ++ (Y ++ (X ++ S)))))))
        rw [hln] at st
        refine st ?_
        rw [e0, set_mid rfl, e1, set_mid hq', e2]
        simpa using this
  apply Gets.get
  refine f118_run _ _ _ _ _ _ ?_
  exact loop X Z [] [] hxz rfl rfl rfl

theorem rotate_loop : ∀ (k : Nat) (P X Y S : List Tm) (n m : Nat), X.length + Y.length = k → 0 < X.length → 0 < Y.length → n = (P ++ (X ++ (Y ++ S))).length → n < 1099511627776 → m = P.length + X.length →
    Gets (w116_0 (rowsT (P ++ (X ++ (Y ++ S)))) 0 n m X.length Y.length) (· = (.unit, rowsT (P ++ (Y ++ (X ++ S))))) := by
  intro k
  induction k using Nat.strongRecOn with
  | ind k ih =>
    intro P X Y S n m hk hX hY hn hlen hm
    have hnl : n = P.length + (X.length + (Y.length + S.length)) := by rw [hn]; simp
    refine w116_0_step _ _ _ _ _ _ ?_
    have em : IntKind.wrap .i64 ((m : Int) - (X.length : Int)) = (P.length : Int) := by rw [wrap64 (by omega) (by omega)]; omega
    rw [em]
    rcases Nat.lt_trichotomy X.length Y.length with h | h | h
    · -- the left part is the shorter one
      have hY2 : (Y.drop (Y.length - X.length)).length = X.length := by simp; omega
      have hY1 : (Y.take (Y.length - X.length)).length = Y.length - X.length := by simp
      have hYY : Y.take (Y.length - X.length) ++ Y.drop (Y.length - X.length) = Y := List.take_append_drop _ _
      have sw := swapRange_ev (P := P) (X := X) (Y := Y.take (Y.length - X.length)) (Z := Y.drop (Y.length - X.length)) (S := S) hY2.symm (n := n) (a := P.length) (b := P.length + X.length + (Y.length - X.length)) (m := X.length)
        (by rw [hnl]; simp [hY2]; omega) hlen rfl (by rw [hY1]) rfl
      have e1 : P ++ (X ++ (Y.take (Y.length - X.length) ++ (Y.drop (Y.length - X.length) ++ S))) = P ++ (X ++ (Y ++ S)) := by rw [← List.append_assoc (Y.take _), hYY]
      rw [e1] at sw
      have eb : IntKind.wrap .i64 (IntKind.wrap .i64 ((m : Int) + (Y.length : Int)) - (X.length : Int)) = ((P.length + X.length + (Y.length - X.length) : Nat) : Int) := by
        rw [wrap64 (x := (m : Int) + (Y.length : Int)) (by omega) (by omega), wrap64 (by omega) (by omega)]; omega
      have ej : IntKind.wrap .i64 ((Y.length : Int) - (X.length : Int)) = ((Y.length - X.length : Nat) : Int) := by rw [wrap64 (by omega) (by omega)]; omega
      have hne : ¬ ((X.length : Int) = (Y.length : Int)) := by omega
      have hgt : ¬ ((X.length : Int) > (Y.length : Int)) := by omega
      have hrec := ih (Y.length) (by omega) P (Y.drop (Y.length - X.length)) (Y.take (Y.length - X.length)) (X ++ S) n m (by rw [hY2, hY1]; omega) (by omega) (by omega) (by rw [hnl]; simp [hY2]; omega) hlen (by rw [hY2]; exact hm)
      have e5 : Y.take (Y.length - X.length) ++ (Y.drop (Y.length - X.length) ++ (X ++ S)) = Y ++ (X ++ S) := by rw [← List.append_assoc, hYY]
      rw [hY1, hY2, e5] at hrec
      rw [eb, ej]
      simp only [bneD, hne, decide_false, Bool.not_false, cond_true, hgt, cond_false, sw, kOptSome, kMUnit_unit]
      exact hrec
    · -- as long
      have sw := swapRange_ev (P := P) (X := X) (Y := []) (Z := Y) (S := S) h (n := n) (a := P.length) (b := m) (m := X.length) (by rw [hn]; simp) hlen rfl (by simp [hm]) rfl
      simp only [List.nil_append] at sw
      have he : ((X.length : Int) = (Y.length : Int)) := by omega
      simp only [bneD, he, decide_true, Bool.not_true, cond_false]
      rw [← he]
      simp [sw]
    · -- the left part is the longer one
      have hX1 : (X.take Y.length).length = Y.length := by simp; omega
      have hX2 : (X.drop Y.length).length = X.length - Y.length := by simp
      have hXX : X.take Y.length ++ X.drop Y.length = X := List.take_append_drop _ _
      have sw := swapRange_ev (P := P) (X := X.take Y.length) (Y := X.drop Y.length) (Z := Y) (S := S) hX1 (n := n) (a := P.length) (b := m) (m := Y.length)
        (by rw [hnl]; simp [hX1, hX2]; omega) hlen rfl (by rw [hX1, hX2]; omega) hX1.symm
      have e1 : P ++ (X.take Y.length ++ (X.drop Y.length ++ (Y ++ S))) = P ++ (X ++ (Y ++ S)) := by rw [← List.append_assoc (X.take _), hXX]
      rw [e1] at sw
      have ei : IntKind.wrap .i64 ((X.length : Int) - (Y.length : Int)) = ((X.length - Y.length : Nat) : Int) := by rw [wrap64 (by omega) (by omega)]; omega
      have hne : ¬ ((X.length : Int) = (Y.length : Int)) := by omega
      have hgt : ((X.length : Int) > (Y.length : Int)) := by omega
      have hrec := ih (X.length) (by omega) (P ++ Y) (X.drop Y.length) (X.take Y.length) S n m (by rw [hX1, hX2]; omega) (by omega) (by omega) (by rw [hnl]; simp [hX1]; omega) hlen (by rw [hX2]; simp; omega)
      have e5 : X.take Y.length ++ (X.drop Y.length ++ S) = X ++ S := by rw [← List.append_assoc, hXX]
      have e6 : P ++ Y ++ (X.drop Y.length ++ (X.take Y.length ++ S)) = P ++ (Y ++ (X.drop Y.length ++ (X.take Y.length ++ S))) := List.append_assoc _ _ _
      have e7 : P ++ Y ++ (X ++ S) = P ++ (Y ++ (X ++ S)) := List.append_assoc _ _ _
      rw [hX1, hX2, e5, e6, e7] at hrec
      rw [ei]
      simp only [bneD, hne, decide_false, Bool.not_false, cond_true, hgt, decide_true, sw, kOptSome, kMUnit_unit]
      exact hrec

theorem rotate_ev {P X Y S : List Tm} (hX : 0 < X.length) (hY : 0 < Y.length) {n a m b : Nat} (hn : n = (P ++ (X ++ (Y ++ S))).length) (hlen : n < 1099511627776) (ha : a = P.length) (hm : m = P.length + X.length) (hb : b = P.length + X.length + Y.length) :
    EVm (EV cfg) 116 [.ms 0 0 n, .int .i64 a, .int .i64 m, .int .i64 b, .fn (.func 15) [] []] 4 (rowsT (P ++ (X ++ (Y ++ S)))) = some (.unit, rowsT (P ++ (Y ++ (X ++ S)))) := by
  have hnl : n = P.length + (X.length + (Y.length + S.length)) := by rw [hn]; simp
  apply Gets.get
  refine f116_run _ _ _ _ _ _ ?_
  have e1 : IntKind.wrap .i64 ((m : Int) - (a : Int)) = (X.length : Int) := by rw [wrap64 (by omega) (by omega)]; omega
  have e2 : IntKind.wrap .i64 ((b : Int) - (m : Int)) = (Y.length : Int) := by rw [wrap64 (by omega) (by omega)]; omega
  rw [e1, e2]
  exact rotate_loop _ P X Y S n m rfl hX hY hn hlen hm
end Go.Proofs.Ytpbfmaodnihpeaa
end

section
/-
  What the library's insertion sort does. Own work.
  What is proved: contracts of the abstract evaluation; no condition.
-/
namespace Go.Proofs.Ytpbfmaodnihpeaa
open Go.Av

theorem ins_swap {l : List Tm} {y z : Tm} {j q n a : Nat} (hlen : l.length < 1099511627776) (hn : n = l.length) (hok : OkL l) (hy : l[q + 1]? = some y) (hz : l[q]? = some z) (hj : j = q + 1) (ha : a ≤ q) (hlt : cmpT y z < 0) {b v8 : Int} {P : MV × List (List AV) → Prop}
    (h : Gets (w108_1 (rowsT ((l.set (q + 1) z).set q y)) 0 n a b v8 q) P) : Gets (w108_1 (rowsT l) 0 n a b v8 j) P := by
  subst hn hj
  refine w108_1_step _ _ _ _ _ _ _ ?_
  have hql : q + 1 < l.length := (List.getElem?_eq_some_iff.1 hy).1
  have eq1 : IntKind.wrap .i64 (((q + 1 : Nat) : Int) - 1) = (q : Int) := by rw [wrap64 (by omega) (by omega)]; omega
  have hcmp := compare_ev (hok.get (List.mem_of_getElem? hy)) (hok.get (List.mem_of_getElem? hz))
  have hset : (rowsT (l.set (q + 1) z))[q]? = some z.cells := by rw [rowsT_get, List.getElem?_set_ne (by omega), hz]; rfl
  have h1 : (rowsT l).set (q + 1) z.cells = rowsT (l.set (q + 1) z) := rowsT_set l (q + 1) z
  have h2 : (rowsT (l.set (q + 1) z)).set q y.cells = rowsT ((l.set (q + 1) z).set q y) := rowsT_set _ q y
  obtain ⟨k, n, s, ly⟩ := y
  obtain ⟨k', n', s', lz⟩ := z
  rw [Tm.av_mk, Tm.av_mk] at hcmp
  rw [Tm.cells_mk] at hset h1 h2
  rw [eq1]
  simp only [get?Internal_eq, Int.toNat_natCast, Nat.zero_add, rowsT_some hy, rowsT_some hz, kOptSome]
  simp only [List.length_cons, List.length_nil, Nat.zero_add, Nat.reduceAdd, nble, Nat.le_refl, decide_true, cond_true, List.take_succ_cons, List.take_zero, List.drop_succ_cons, List.drop_zero, kCons_cons, kNil_nil, kInt_int, kStr_str, kSl_sl, leInt_eq, ltInt_eq,
    hcmp, h1, hset, h2, kOptSome]
  have d0 : decide (((q + 1 : Nat) : Int) > (a : Int)) = true := decide_eq_true (by omega)
  have d1 : decide (cmpT (.mk k n s ly) (.mk k' n' s' lz) < 0) = true := decide_eq_true hlt
  have d2 : decide ((0 : Int) ≤ (q : Int)) = true := decide_eq_true (by omega)
  have d3 : decide ((q : Int) < (l.length : Int)) = true := decide_eq_true (by omega)
  have d4 : decide ((0 : Int) ≤ ((q + 1 : Nat) : Int)) = true := decide_eq_true (by omega)
  have d5 : decide (((q + 1 : Nat) : Int) < (l.length : Int)) = true := decide_eq_true (by omega)
  simp only [d0, d1, d2, d3, d4, d5, Bool.and_self, cond_true]
  exact h

theorem ins_stay {l : List Tm} {y z : Tm} {j q n a : Nat} (hlen : l.length < 1099511627776) (hn : n = l.length) (hok : OkL l) (hy : l[q + 1]? = some y) (hz : l[q]? = some z) (hj : j = q + 1) (ha : a ≤ q) (hlt : ¬ cmpT y z < 0) {b v8 : Int} {P : MV × List (List AV) → Prop}
    (h : Gets (w108_0 (rowsT l) 0 n a b (IntKind.wrap .i64 (v8 + 1))) P) : Gets (w108_1 (rowsT l) 0 n a b v8 j) P := by
  subst hn hj
  refine w108_1_step _ _ _ _ _ _ _ ?_
  have hql : q + 1 < l.length := (List.getElem?_eq_some_iff.1 hy).1
  have eq1 : IntKind.wrap .i64 (((q + 1 : Nat) : Int) - 1) = (q : Int) := by rw [wrap64 (by omega) (by omega)]; omega
  have hcmp := compare_ev (hok.get (List.mem_of_getElem? hy)) (hok.get (List.mem_of_getElem? hz))
  obtain ⟨k, n, s, ly⟩ := y
  obtain ⟨k', n', s', lz⟩ := z
  rw [Tm.av_mk, Tm.av_mk] at hcmp
  rw [eq1]
  simp only [get?Internal_eq, Int.toNat_natCast, Nat.zero_add, rowsT_some hy, rowsT_some hz, kOptSome]
  simp only [List.length_cons, List.length_nil, Nat.zero_add, Nat.reduceAdd, nble, Nat.le_refl, decide_true, cond_true, List.take_succ_cons, List.take_zero, List.drop_succ_cons, List.drop_zero, kCons_cons, kNil_nil, kInt_int, kStr_str, kSl_sl, leInt_eq, ltInt_eq,
    hcmp, kOptSome]
  have d0 : decide (((q + 1 : Nat) : Int) > (a : Int)) = true := decide_eq_true (by omega)
  have d1 : decide (cmpT (.mk k n s ly) (.mk k' n' s' lz) < 0) = false := decide_eq_false hlt
  have d2 : decide ((0 : Int) ≤ (q : Int)) = true := decide_eq_true (by omega)
  have d3 : decide ((q : Int) < (l.length : Int)) = true := decide_eq_true (by omega)
  have d4 : decide ((0 : Int) ≤ ((q + 1 : Nat) : Int)) = true := decide_eq_true (by omega)
  have d5 : decide (((q + 1 : Nat) : Int) < (l.length : Int)) = true := decide_eq_true (by omega)
  simp only [d0, d1, d2, d3, d4, d5, Bool.and_self, cond_true, cond_false]
  exact h

theorem ins_inner {P0 S : List Tm} {y : Tm} {n a : Nat} {b v8 : Int} {P : MV × List (List AV) → Prop} (hlen : n < 1099511627776) (ha : a = P0.length) :
    ∀ (A B : List Tm), SortedT A → n = (P0 ++ (A ++ (y :: (B ++ S)))).length → OkL (P0 ++ (A ++ (y :: (B ++ S)))) →
      Gets (w108_0 (rowsT (P0 ++ (mrg A [y] ++ (B ++ S)))) 0 n a b (IntKind.wrap .i64 (v8 + 1))) P → Gets (w108_1 (rowsT (P0 ++ (A ++ (y :: (B ++ S))))) 0 n a b v8 ((P0.length + A.length : Nat) : Int)) P := by
  intro A
  induction A using list_snoc_ind with
  | h0 =>
    intro B _ hn hok h
    refine w108_1_step _ _ _ _ _ _ _ ?_
    have d0 : decide ((((P0.length + ([] : List Tm).length : Nat) : Int)) > (a : Int)) = false := decide_eq_false (by simp [ha])
    rw [d0, cond_false]
    simpa using h
  | h1 A z ih =>
    intro B hs hn hok h
    have hs' := List.pairwise_append.1 hs
    have e0 : P0 ++ (A ++ [z] ++ (y :: (B ++ S))) = (P0 ++ A) ++ z :: (y :: (B ++ S)) := by simp
    have e1 : P0 ++ (A ++ [z] ++ (y :: (B ++ S))) = (P0 ++ (A ++ [z])) ++ y :: (B ++ S) := by simp
    have hz : (P0 ++ (A ++ [z] ++ (y :: (B ++ S))))[P0.length + A.length]? = some z := by rw [e0]; exact get_mid (by simp)
    have hy : (P0 ++ (A ++ [z] ++ (y :: (B ++ S))))[P0.length + A.length + 1]? = some y := by rw [e1]; exact get_mid (by simp; omega)
    have hln : (P0 ++ (A ++ [z] ++ (y :: (B ++ S)))).length < 1099511627776 := by rw [← hn]; exact hlen
    have ng := cmpT_neg y z
    by_cases hc : cmpT y z < 0
    · refine ins_swap hln hn hok hy hz (j := P0.length + (A ++ [z]).length) (by simp; omega) (by omega) hc ?_
      have e2 : ((P0 ++ (A ++ [z] ++ (y :: (B ++ S)))).set (P0.length + A.length + 1) z).set (P0.length + A.length) y = P0 ++ (A ++ (y :: ((z :: B) ++ S))) := by
        rw [e1, set_mid (by simp; omega)]
        have : P0 ++ (A ++ [z]) ++ z :: (B ++ S) = (P0 ++ A) ++ z :: (z :: (B ++ S)) := by simp
        rw [this, set_mid (by simp)]
        simp
      rw [e2]
      have hm : mrg (A ++ [z]) [y] = mrg A [y] ++ [z] := by
        have := mrg_split _ A [z] [y] [] rfl (fun u hu v hv => by simp at hu hv; subst hu hv; omega) (fun x _ w hw => by cases hw)
        simpa using this
      have hmem : ∀ t, t ∈ P0 ++ (A ++ (y :: ((z :: B) ++ S))) → t ∈ P0 ++ (A ++ [z] ++ (y :: (B ++ S))) := by
        intro t ht
        simp at ht ⊢
        rcases ht with h | h | h | h | h | h <;> simp [h]
      refine ih (z :: B) hs'.1 (by rw [hn]; simp) (OkL_iff.2 fun t ht => hok.get (hmem t ht)) ?_
      rw [hm] at h
      have e3 : P0 ++ (mrg A [y] ++ [z] ++ (B ++ S)) = P0 ++ (mrg A [y] ++ (z :: B ++ S)) := by simp
      rw [e3] at h
      exact h
    · refine ins_stay hln hn hok hy hz (j := P0.length + (A ++ [z]).length) (by simp; omega) (by omega) hc ?_
      have hle : ∀ x ∈ A ++ [z], cmpT x y ≤ 0 := by
        intro x hx
        have hzy : cmpT z y ≤ 0 := by omega
        rcases List.mem_append.1 hx with hx | hx
        · exact cmpT_trans (hs'.2.2 x hx z (by simp)) hzy
        · simp at hx; subst hx; exact hzy
      have hm := mrg_one (U := []) hle (fun u hu => by cases hu)
      rw [List.append_nil] at hm
      rw [hm] at h
      have e3 : P0 ++ (A ++ [z] ++ [y] ++ (B ++ S)) = P0 ++ (A ++ [z] ++ (y :: (B ++ S))) := by simp
      rw [e3] at h
      exact h

theorem insertion_ev {P0 X S : List Tm} {n a b : Nat} (hn : n = (P0 ++ (X ++ S)).length) (hlen : n < 1099511627776) (hok : OkL (P0 ++ (X ++ S))) (ha : a = P0.length) (hb : b = P0.length + X.length) :
    EVm (EV cfg) 108 [.ms 0 0 n, .int .i64 a, .int .i64 b, .fn (.func 15) [] []] 4 (rowsT (P0 ++ (X ++ S))) = some (.unit, rowsT (P0 ++ (sortT X ++ S))) := by
  have hnl : n = P0.length + (X.length + S.length) := by rw [hn]; simp
  have outer : ∀ (X2 X1 : List Tm), X = X1 ++ X2 → Gets (w108_0 (rowsT (P0 ++ (sortT X1 ++ (X2 ++ S)))) 0 n a b ((P0.length + X1.length : Nat) : Int)) (· = (.unit, rowsT (P0 ++ (sortT X ++ S)))) := by
    intro X2
    induction X2 with
    | nil =>
      intro X1 e
      rw [List.append_nil] at e
      subst e
      refine w108_0_step _ _ _ _ _ _ ?_
      have d : decide (((P0.length + X.length : Nat) : Int) < (b : Int)) = false := decide_eq_false (by omega)
      rw [d, cond_false]
      simp
    | cons y X2 ih =>
      intro X1 e
      have hx : X.length = X1.length + (X2.length + 1) := by rw [e]; simp
      refine w108_0_step _ _ _ _ _ _ ?_
      have d : decide (((P0.length + X1.length : Nat) : Int) < (b : Int)) = true := decide_eq_true (by omega)
      rw [d, cond_true]
      have hmem : ∀ t, t ∈ P0 ++ (sortT X1 ++ (y :: ([] ++ (X2 ++ S)))) → t ∈ P0 ++ (X ++ S) := by
        intro t ht
        rw [e]
        simp [mem_sortT] at ht ⊢
        rcases ht with h | h | h | h | h <;> simp [h]
      have := ins_inner (P0 := P0) (S := X2 ++ S) (y := y) (n := n) (a := a) (b := b) (v8 := ((P0.length + X1.length : Nat) : Int)) (P := (· = (.unit, rowsT (P0 ++ (sortT X ++ S))))) hlen ha (sortT X1) [] (sortT_sorted X1)
        (by rw [hnl, hx]; simp [sortT_length]; omega) (OkL_iff.2 fun t ht => hok.get (hmem t ht)) (by
          have h2 := ih (X1 ++ [y]) (by rw [e]; simp)
          rw [sortT_snoc] at h2
          have e1 : IntKind.wrap .i64 (((P0.length + X1.length : Nat) : Int) + 1) = ((P0.length + (X1 ++ [y]).length : Nat) : Int) := by
            rw [wrap64 (by omega) (by omega)]; simp; omega
          rw [e1]
          simpa using h2)
      rw [sortT_length] at this
      simpa using this
  apply Gets.get
  refine f108_run _ _ _ _ _ ?_
  have e1 : IntKind.wrap .i64 ((a : Int) + 1) = ((a + 1 : Nat) : Int) := by rw [wrap64 (by omega) (by omega)]; rfl
  rw [e1]
  cases X with
  | nil =>
    refine w108_0_step _ _ _ _ _ _ ?_
    have d : decide (((a + 1 : Nat) : Int) < (b : Int)) = false := decide_eq_false (by simp at hb; omega)
    rw [d, cond_false]
    simp [sortT_nil]
  | cons x X =>
    have := outer X [x] rfl
    rw [sortT_one] at this
    rw [ha]
    subst ha
    simpa using this
end Go.Proofs.Ytpbfmaodnihpeaa
end

section
/-
  What the library's merging in place does: its searches, its moves. Own work.
  What is proved: contracts of the abstract evaluation; no condition.
-/
namespace Go.Proofs.Ytpbfmaodnihpeaa
open Go.Av

theorem wrapU {x : Int} (h1 : 0 ≤ x) (h2 : x < 18446744073709551616) : IntKind.wrap .u64 x = x := by
  simp [IntKind.wrap, IntKind.bits, IntKind.signed]; omega
theorem half {i j : Nat} (h : i + j < 4398046511104) : IntKind.wrap .i64 (Int.fdiv (IntKind.wrap .u64 (IntKind.wrap .i64 ((i : Int) + (j : Int)))) 2) = (((i + j) / 2 : Nat) : Int) := by
  rw [wrap64 (x := (i : Int) + (j : Int)) (by omega) (by omega), wrapU (by omega) (by omega), Int.fdiv_eq_ediv_of_nonneg _ (by omega), wrap64 (by omega) (by omega)]
  omega

/-- the first term of some that isn't ahead of x -/
theorem search_right {l : List Tm} {x : Tm} {n a pos lo hi : Nat} (hn : n = l.length) (hlen : n < 1099511627776) (hok : OkL l) (hx : l[a]? = some x) {P : MV × List (List AV) → Prop}
    (hlo : ∀ h y, h < pos → l[h]? = some y → lo ≤ h → cmpT y x < 0) (hhi : ∀ h y, pos ≤ h → l[h]? = some y → h < hi → ¬ cmpT y x < 0) (hhl : hi ≤ n) (h : Gets (w109_3 (rowsT l) 0 n pos a) P) :
    ∀ (d i j : Nat), j - i = d → lo ≤ i → i ≤ pos → pos ≤ j → j ≤ hi → Gets (w109_0 (rowsT l) 0 n a i j) P := by
  intro d
  induction d using Nat.strongRecOn with
  | ind d ih =>
    intro i j hd hli hip hpj hjh
    refine w109_0_step _ _ _ _ _ _ ?_
    by_cases hij : i < j
    · have eh := half (i := i) (j := j) (by omega)
      obtain ⟨c, hc⟩ : ∃ c, c = (i + j) / 2 := ⟨_, rfl⟩
      rw [← hc] at eh
      have hic : i ≤ c := by omega
      have hcj : c < j := by omega
      rw [eh]
      obtain ⟨y, hy⟩ : ∃ y, l[c]? = some y := ⟨_, List.getElem?_eq_getElem (by omega)⟩
      have hcmp := compare_ev (hok.get (List.mem_of_getElem? hy)) (hok.get (List.mem_of_getElem? hx))
      have hal : a < l.length := (List.getElem?_eq_some_iff.1 hx).1
      have hlo' := fun h1 => hlo c y h1 hy (by omega)
      have hhi' := fun h1 => hhi c y h1 hy (by omega)
      have e1 : IntKind.wrap .i64 ((c : Int) + 1) = ((c + 1 : Nat) : Int) := by rw [wrap64 (by omega) (by omega)]; rfl
      have ih1 := ih (j - (c + 1)) (by omega) (c + 1) j rfl (by omega)
      have ih2 := ih (c - i) (by omega) i c rfl (by omega)
      obtain ⟨k, nn, s, ly⟩ := y
      obtain ⟨k', n', s', lx⟩ := x
      rw [Tm.av_mk, Tm.av_mk] at hcmp
      rw [e1]
      simp only [get?Internal_eq, Int.toNat_natCast, Nat.zero_add, rowsT_some hy, rowsT_some hx, kOptSome]
      simp only [List.length_cons, List.length_nil, Nat.zero_add, Nat.reduceAdd, nble, Nat.le_refl, decide_true, cond_true, List.take_succ_cons, List.take_zero, kCons_cons, kNil_nil, kInt_int, kStr_str, kSl_sl, leInt_eq, ltInt_eq, hcmp, kOptSome]
      have d0 : decide ((i : Int) < (j : Int)) = true := decide_eq_true (by omega)
      have d2 : decide ((0 : Int) ≤ (c : Int)) = true := decide_eq_true (by omega)
      have d3 : decide ((c : Int) < (n : Int)) = true := decide_eq_true (by omega)
      have d4 : decide ((0 : Int) ≤ (a : Int)) = true := decide_eq_true (by omega)
      have d5 : decide ((a : Int) < (n : Int)) = true := decide_eq_true (by omega)
      simp only [d0, d2, d3, d4, d5, Bool.and_self, cond_true]
      by_cases hcp : c < pos
      · rw [decide_eq_true (hlo' hcp), cond_true]
        exact ih1 (by omega) hpj hjh
      · rw [decide_eq_false (hhi' (by omega)), cond_false]
        exact ih2 hip (by omega) (by omega)
    · have d0 : decide ((i : Int) < (j : Int)) = false := decide_eq_false (by omega)
      rw [d0, cond_false]
      obtain rfl : i = pos := by omega
      exact h

/-- the first term of some that x is ahead of -/
theorem search_left {l : List Tm} {x : Tm} {n m pos lo hi : Nat} (hn : n = l.length) (hlen : n < 1099511627776) (hok : OkL l) (hx : l[m]? = some x) {P : MV × List (List AV) → Prop}
    (hlo : ∀ h y, h < pos → l[h]? = some y → lo ≤ h → ¬ cmpT x y < 0) (hhi : ∀ h y, pos ≤ h → l[h]? = some y → h < hi → cmpT x y < 0) (hhl : hi ≤ n) (h : Gets (w109_4 (rowsT l) 0 n pos m) P) :
    ∀ (d i j : Nat), j - i = d → lo ≤ i → i ≤ pos → pos ≤ j → j ≤ hi → Gets (w109_1 (rowsT l) 0 n m i j) P := by
  intro d
  induction d using Nat.strongRecOn with
  | ind d ih =>
    intro i j hd hli hip hpj hjh
    refine w109_1_step _ _ _ _ _ _ ?_
    by_cases hij : i < j
    · have eh := half (i := i) (j := j) (by omega)
      obtain ⟨c, hc⟩ : ∃ c, c = (i + j) / 2 := ⟨_, rfl⟩
      rw [← hc] at eh
      have hic : i ≤ c := by omega
      have hcj : c < j := by omega
      rw [eh]
      obtain ⟨y, hy⟩ : ∃ y, l[c]? = some y := ⟨_, List.getElem?_eq_getElem (by omega)⟩
      have hcmp := compare_ev (hok.get (List.mem_of_getElem? hx)) (hok.get (List.mem_of_getElem? hy))
      have hal : m < l.length := (List.getElem?_eq_some_iff.1 hx).1
      have hlo' := fun h1 => hlo c y h1 hy (by omega)
      have hhi' := fun h1 => hhi c y h1 hy (by omega)
      have e1 : IntKind.wrap .i64 ((c : Int) + 1) = ((c + 1 : Nat) : Int) := by rw [wrap64 (by omega) (by omega)]; rfl
      have ih1 := ih (j - (c + 1)) (by omega) (c + 1) j rfl (by omega)
      have ih2 := ih (c - i) (by omega) i c rfl (by omega)
      obtain ⟨k, nn, s, ly⟩ := y
      obtain ⟨k', n', s', lx⟩ := x
      rw [Tm.av_mk, Tm.av_mk] at hcmp
      rw [e1]
      simp only [get?Internal_eq, Int.toNat_natCast, Nat.zero_add, rowsT_some hy, rowsT_some hx, kOptSome]
      simp only [List.length_cons, List.length_nil, Nat.zero_add, Nat.reduceAdd, nble, Nat.le_refl, decide_true, cond_true, List.take_succ_cons, List.take_zero, kCons_cons, kNil_nil, kInt_int, kStr_str, kSl_sl, leInt_eq, ltInt_eq, hcmp, kOptSome]
      have d0 : decide ((i : Int) < (j : Int)) = true := decide_eq_true (by omega)
      have d2 : decide ((0 : Int) ≤ (c : Int)) = true := decide_eq_true (by omega)
      have d3 : decide ((c : Int) < (n : Int)) = true := decide_eq_true (by omega)
      have d4 : decide ((0 : Int) ≤ (m : Int)) = true := decide_eq_true (by omega)
      have d5 : decide ((m : Int) < (n : Int)) = true := decide_eq_true (by omega)
      simp only [d0, d2, d3, d4, d5, Bool.and_self, cond_true]
      by_cases hcp : c < pos
      · rw [decide_eq_false (hlo' hcp), Bool.not_false, cond_true]
        exact ih1 (by omega) hpj hjh
      · rw [decide_eq_true (hhi' (by omega)), Bool.not_true, cond_false]
        exact ih2 hip (by omega) (by omega)
    · have d0 : decide ((i : Int) < (j : Int)) = false := decide_eq_false (by omega)
      rw [d0, cond_false]
      obtain rfl : i = pos := by omega
      exact h

theorem moveR_step {l : List Tm} {x y : Tm} {n k i : Nat} (hn : n = l.length) (hlen : n < 1099511627776) (hx : l[k]? = some x) (hy : l[k + 1]? = some y) (hi : k + 1 < i) (hil : i ≤ n) {P : MV × List (List AV) → Prop}
    (h : Gets (w109_3 (rowsT ((l.set k y).set (k + 1) x)) 0 n i ((k + 1 : Nat) : Int)) P) : Gets (w109_3 (rowsT l) 0 n i k) P := by
  subst hn
  refine w109_3_step _ _ _ _ _ ?_
  have hql : k + 1 < l.length := (List.getElem?_eq_some_iff.1 hy).1
  have e1 : IntKind.wrap .i64 ((k : Int) + 1) = ((k + 1 : Nat) : Int) := by rw [wrap64 (by omega) (by omega)]; rfl
  have e2 : IntKind.wrap .i64 ((i : Int) - 1) = (i : Int) - 1 := wrap64 (by omega) (by omega)
  have hset : (rowsT (l.set k y))[k + 1]? = some y.cells := by rw [rowsT_get, List.getElem?_set_ne (by omega), hy]; rfl
  have h1 : (rowsT l).set k y.cells = rowsT (l.set k y) := rowsT_set l k y
  have h2 : (rowsT (l.set k y)).set (k + 1) x.cells = rowsT ((l.set k y).set (k + 1) x) := rowsT_set _ _ x
  obtain ⟨kx, nx, sx, lx⟩ := x
  obtain ⟨ky, ny, sy, ly⟩ := y
  rw [Tm.cells_mk] at hset h1 h2
  rw [e1, e2]
  simp only [get?Internal_eq, Int.toNat_natCast, Nat.zero_add, rowsT_some hx, rowsT_some hy, kOptSome]
  simp only [List.length_cons, List.length_nil, Nat.zero_add, Nat.reduceAdd, nble, Nat.le_refl, decide_true, cond_true, List.take_succ_cons, List.take_zero, List.drop_succ_cons, List.drop_zero, kCons_cons, kNil_nil, kInt_int, kStr_str, kSl_sl, leInt_eq, ltInt_eq,
    h1, hset, h2, kOptSome]
  have d0 : decide ((k : Int) < (i : Int) - 1) = true := decide_eq_true (by omega)
  have d2 : decide ((0 : Int) ≤ (k : Int)) = true := decide_eq_true (by omega)
  have d3 : decide ((k : Int) < (l.length : Int)) = true := decide_eq_true (by omega)
  have d4 : decide ((0 : Int) ≤ ((k + 1 : Nat) : Int)) = true := decide_eq_true (by omega)
  have d5 : decide (((k + 1 : Nat) : Int) < (l.length : Int)) = true := decide_eq_true (by omega)
  simp only [d0, d2, d3, d4, d5, Bool.and_self, cond_true]
  exact h

theorem moveR {x : Tm} {S : List Tm} {n i : Nat} (hlen : n < 1099511627776) : ∀ (V Q : List Tm), n = (Q ++ (x :: (V ++ S))).length → i = Q.length + V.length + 1 →
    Gets (w109_3 (rowsT (Q ++ (x :: (V ++ S)))) 0 n i Q.length) (· = (.unit, rowsT (Q ++ (V ++ (x :: S))))) := by
  intro V
  induction V with
  | nil =>
    intro Q hn hi
    have hnl : n = Q.length + (S.length + 1) := by rw [hn]; simp
    refine w109_3_step _ _ _ _ _ ?_
    have e2 : IntKind.wrap .i64 ((i : Int) - 1) = (i : Int) - 1 := wrap64 (by omega) (by simp at hi; omega)
    have d0 : decide ((Q.length : Int) < (i : Int) - 1) = false := decide_eq_false (by simp at hi; omega)
    rw [e2, d0, cond_false]
    simp
  | cons v V ih =>
    intro Q hn hi
    have hnl : n = Q.length + (V.length + S.length + 2) := by rw [hn]; simp
    have e0 : Q ++ (x :: (v :: V ++ S)) = (Q ++ [x]) ++ v :: (V ++ S) := by simp
    refine moveR_step (l := Q ++ (x :: (v :: V ++ S))) (x := x) (y := v) hn hlen (get_mid rfl) (by rw [e0]; exact get_mid (by simp)) (by simp at hi; omega) (by simp at hi; omega) ?_
    rw [set_mid rfl]
    have e1 : Q ++ v :: (v :: V ++ S) = (Q ++ [v]) ++ v :: (V ++ S) := by simp
    rw [e1, set_mid (by simp)]
    have := ih (Q ++ [v]) (by rw [hnl]; simp) (by simp at hi ⊢; omega)
    simpa using this

theorem moveL_step {l : List Tm} {x y : Tm} {n k i : Nat} (hn : n = l.length) (hlen : n < 1099511627776) (hx : l[k]? = some x) (hy : l[k + 1]? = some y) (hi : i ≤ k) {P : MV × List (List AV) → Prop}
    (h : Gets (w109_4 (rowsT ((l.set (k + 1) x).set k y)) 0 n i (k : Int)) P) : Gets (w109_4 (rowsT l) 0 n i ((k + 1 : Nat) : Int)) P := by
  subst hn
  refine w109_4_step _ _ _ _ _ ?_
  have hql : k + 1 < l.length := (List.getElem?_eq_some_iff.1 hy).1
  have e1 : IntKind.wrap .i64 (((k + 1 : Nat) : Int) - 1) = (k : Int) := by rw [wrap64 (by omega) (by omega)]; omega
  have hset : (rowsT (l.set (k + 1) x))[k]? = some x.cells := by rw [rowsT_get, List.getElem?_set_ne (by omega), hx]; rfl
  have h1 : (rowsT l).set (k + 1) x.cells = rowsT (l.set (k + 1) x) := rowsT_set l _ x
  have h2 : (rowsT (l.set (k + 1) x)).set k y.cells = rowsT ((l.set (k + 1) x).set k y) := rowsT_set _ _ y
  obtain ⟨kx, nx, sx, lx⟩ := x
  obtain ⟨ky, ny, sy, ly⟩ := y
  rw [Tm.cells_mk] at hset h1 h2
  rw [e1]
  simp only [get?Internal_eq, Int.toNat_natCast, Nat.zero_add, rowsT_some hx, rowsT_some hy, kOptSome]
  simp only [List.length_cons, List.length_nil, Nat.zero_add, Nat.reduceAdd, nble, Nat.le_refl, decide_true, cond_true, List.take_succ_cons, List.take_zero, List.drop_succ_cons, List.drop_zero, kCons_cons, kNil_nil, kInt_int, kStr_str, kSl_sl, leInt_eq, ltInt_eq,
    h1, hset, h2, kOptSome]
  have d0 : decide (((k + 1 : Nat) : Int) > (i : Int)) = true := decide_eq_true (by omega)
  have d2 : decide ((0 : Int) ≤ (k : Int)) = true := decide_eq_true (by omega)
  have d3 : decide ((k : Int) < (l.length : Int)) = true := decide_eq_true (by omega)
  have d4 : decide ((0 : Int) ≤ ((k + 1 : Nat) : Int)) = true := decide_eq_true (by omega)
  have d5 : decide (((k + 1 : Nat) : Int) < (l.length : Int)) = true := decide_eq_true (by omega)
  simp only [d0, d2, d3, d4, d5, Bool.and_self, cond_true]
  exact h

theorem moveL {x : Tm} {Q : List Tm} {n i : Nat} (hlen : n < 1099511627776) (hi : i = Q.length) : ∀ (U S : List Tm), n = (Q ++ (U ++ (x :: S))).length →
    Gets (w109_4 (rowsT (Q ++ (U ++ (x :: S)))) 0 n i ((Q.length + U.length : Nat) : Int)) (· = (.unit, rowsT (Q ++ (x :: (U ++ S))))) := by
  intro U
  induction U using list_snoc_ind with
  | h0 =>
    intro S hn
    refine w109_4_step _ _ _ _ _ ?_
    have d0 : decide (((Q.length + ([] : List Tm).length : Nat) : Int) > (i : Int)) = false := decide_eq_false (by simp [hi])
    rw [d0, cond_false]
    simp
  | h1 U u ih =>
    intro S hn
    have e0 : Q ++ (U ++ [u] ++ (x :: S)) = (Q ++ U) ++ u :: (x :: S) := by simp
    have e1 : Q ++ (U ++ [u] ++ (x :: S)) = (Q ++ (U ++ [u])) ++ x :: S := by simp
    have := moveL_step (l := Q ++ (U ++ [u] ++ (x :: S))) (x := u) (y := x) (k := Q.length + U.length) (i := i) hn hlen (by rw [e0]; exact get_mid (by simp)) (by rw [e1]; exact get_mid (by simp; omega)) (by omega) (P := (· = (.unit, rowsT (Q ++ (x :: (U ++ [u] ++ S)))))) (by
      rw [e1, set_mid (by simp; omega)]
      have e2 : Q ++ (U ++ [u]) ++ u :: S = (Q ++ U) ++ u :: (u :: S) := by simp
      rw [e2, set_mid (by simp)]
      have := ih (u :: S) (by rw [hn]; simp)
      simpa using this)
    have e3 : ((Q.length + (U ++ [u]).length : Nat) : Int) = ((Q.length + U.length + 1 : Nat) : Int) := by simp; omega
    rw [e3]
    exact this
end Go.Proofs.Ytpbfmaodnihpeaa
end

section
/-
  What the library's merging in place does. Own work.
  What is proved: contracts of the abstract evaluation; no condition.
-/
namespace Go.Proofs.Ytpbfmaodnihpeaa
open Go.Av

theorem split_lt {x : Tm} : ∀ {Y : List Tm}, SortedT Y → ∃ Y1 Y2, Y = Y1 ++ Y2 ∧ (∀ v ∈ Y1, cmpT v x < 0) ∧ (∀ y ∈ Y2, ¬ cmpT y x < 0)
  | [], _ => ⟨[], [], rfl, by simp, by simp⟩
  | y :: Y, h => by
    have h' := List.pairwise_cons.1 h
    by_cases hc : cmpT y x < 0
    · obtain ⟨Y1, Y2, e, h1, h2⟩ := split_lt (x := x) h'.2
      refine ⟨y :: Y1, Y2, by rw [e]; rfl, fun v hv => ?_, h2⟩
      rcases List.mem_cons.1 hv with rfl | hv
      · exact hc
      · exact h1 v hv
    · refine ⟨[], y :: Y, rfl, by simp, fun z hz hzx => ?_⟩
      rcases List.mem_cons.1 hz with rfl | hz
      · exact hc hzx
      · exact hc (cmpT_le_lt (h'.1 z hz) hzx)
theorem split_le {y : Tm} : ∀ {X : List Tm}, SortedT X → ∃ X1 U, X = X1 ++ U ∧ (∀ x ∈ X1, ¬ cmpT y x < 0) ∧ (∀ u ∈ U, cmpT y u < 0)
  | [], _ => ⟨[], [], rfl, by simp, by simp⟩
  | x :: X, h => by
    have h' := List.pairwise_cons.1 h
    by_cases hc : cmpT y x < 0
    · refine ⟨[], x :: X, rfl, by simp, fun z hz => ?_⟩
      rcases List.mem_cons.1 hz with rfl | hz
      · exact hc
      · exact cmpT_lt_le hc (h'.1 z hz)
    · obtain ⟨X1, U, e, h1, h2⟩ := split_le (y := y) h'.2
      refine ⟨x :: X1, U, by rw [e]; rfl, fun v hv => ?_, h2⟩
      rcases List.mem_cons.1 hv with rfl | hv
      · exact hc
      · exact h1 v hv

/-- where a place lies in a list of three parts -/
theorem get_part {A B C : List Tm} {h : Nat} {y : Tm} (hy : (A ++ (B ++ C))[h]? = some y) (h1 : A.length ≤ h) (h2 : h < A.length + B.length) : y ∈ B := by
  rw [List.getElem?_append_right h1, List.getElem?_append_left (by omega)] at hy
  exact List.mem_of_getElem? hy

theorem sym_left {Q : List Tm} {x : Tm} {Y S : List Tm} {n a m b : Nat} (hY : SortedT Y) (hn : n = (Q ++ ([x] ++ (Y ++ S))).length) (hlen : n < 1099511627776) (hok : OkL (Q ++ ([x] ++ (Y ++ S)))) (ha : a = Q.length) (hm : m = Q.length + 1) (hb : b = Q.length + 1 + Y.length) :
    Gets (w109_0 (rowsT (Q ++ ([x] ++ (Y ++ S)))) 0 n a m b) (· = (.unit, rowsT (Q ++ (mrg [x] Y ++ S)))) := by
  obtain ⟨Y1, Y2, rfl, h1, h2⟩ := split_lt (x := x) hY
  have hnl : n = Q.length + 1 + Y1.length + Y2.length + S.length := by rw [hn]; simp; omega
  have hmr : mrg [x] (Y1 ++ Y2) = Y1 ++ x :: Y2 := one_mrg (fun v hv => by have := h1 v hv; have := cmpT_neg x v; omega) (fun y hy => by have := h2 y hy; have := cmpT_neg x y; omega)
  have mv := moveR (x := x) (S := Y2 ++ S) (n := n) (i := Q.length + Y1.length + 1) hlen Y1 Q (by rw [hnl]; simp; omega) rfl
  have e1 : Q ++ ([x] ++ (Y1 ++ Y2 ++ S)) = Q ++ (x :: (Y1 ++ (Y2 ++ S))) := by simp
  rw [hmr]
  have e2 : Q ++ (Y1 ++ x :: Y2 ++ S) = Q ++ (Y1 ++ (x :: (Y2 ++ S))) := by simp
  rw [e2]
  rw [e1] at hok ⊢
  subst ha
  refine search_right (lo := m) (hi := b) (pos := Q.length + Y1.length + 1) (x := x) (by rw [hnl]; simp; omega) hlen hok (get_mid rfl) (fun h y hh hy hl => ?_) (fun h y hh hy hl => ?_) (by rw [hb, hnl]; simp; omega) mv _ m b rfl (Nat.le_refl _) (by omega) (by rw [hb]; simp; omega) (Nat.le_refl _)
  · have e3 : Q ++ (x :: (Y1 ++ (Y2 ++ S))) = (Q ++ [x]) ++ (Y1 ++ (Y2 ++ S)) := by simp
    rw [e3] at hy
    exact h1 y (get_part hy (by simp; omega) (by simp; omega))
  · have e3 : Q ++ (x :: (Y1 ++ (Y2 ++ S))) = (Q ++ [x] ++ Y1) ++ (Y2 ++ S) := by simp
    rw [e3] at hy
    refine h2 y (get_part hy (by simp; omega) (by rw [hb] at hl; simp at hl ⊢; omega))

theorem sym_right {Q : List Tm} {y : Tm} {X S : List Tm} {n a m : Nat} (hX : SortedT X) (hn : n = (Q ++ (X ++ ([y] ++ S))).length) (hlen : n < 1099511627776) (hok : OkL (Q ++ (X ++ ([y] ++ S)))) (ha : a = Q.length) (hm : m = Q.length + X.length) :
    Gets (w109_1 (rowsT (Q ++ (X ++ ([y] ++ S)))) 0 n m a m) (· = (.unit, rowsT (Q ++ (mrg X [y] ++ S)))) := by
  obtain ⟨X1, U, rfl, h1, h2⟩ := split_le (y := y) hX
  have hnl : n = Q.length + X1.length + U.length + 1 + S.length := by rw [hn]; simp; omega
  have hml : m = Q.length + X1.length + U.length := by rw [hm, List.length_append]; omega
  have hmr : mrg (X1 ++ U) [y] = X1 ++ y :: U := mrg_one (fun x hx => by have := h1 x hx; have := cmpT_neg x y; omega) (fun u hu => by have := h2 u hu; have := cmpT_neg u y; omega)
  have mv := moveL (x := y) (Q := Q ++ X1) (n := n) (i := Q.length + X1.length) hlen (by simp) U S (by rw [hnl]; simp; omega)
  have e1 : Q ++ (X1 ++ U ++ ([y] ++ S)) = Q ++ X1 ++ (U ++ (y :: S)) := by simp
  rw [hmr]
  have e2 : Q ++ (X1 ++ y :: U ++ S) = Q ++ X1 ++ (y :: (U ++ S)) := by simp
  rw [e2]
  rw [e1] at hok ⊢
  have em : ((Q ++ X1).length + U.length) = m := by rw [List.length_append]; omega
  rw [em] at mv
  refine search_left (lo := a) (hi := m) (pos := Q.length + X1.length) (x := y) (by rw [hnl]; simp; omega) hlen hok ?_ (fun h z hh hz hl => ?_) (fun h z hh hz hl => ?_) (by omega) mv _ a m rfl (Nat.le_refl _) (by omega) (by omega) (Nat.le_refl _)
  · have e3 : Q ++ X1 ++ (U ++ (y :: S)) = (Q ++ X1 ++ U) ++ y :: S := by simp
    rw [e3]; exact get_mid (by rw [List.length_append, List.length_append]; omega)
  · have e3 : Q ++ X1 ++ (U ++ (y :: S)) = Q ++ (X1 ++ (U ++ (y :: S))) := by simp
    rw [e3] at hz
    exact h1 z (get_part hz (by omega) (by omega))
  · exact h2 z (get_part hz (by rw [List.length_append]; omega) (by rw [List.length_append]; omega))
end Go.Proofs.Ytpbfmaodnihpeaa
end

section
/-
  What the library's merging in place does, as a whole. Own work.
  What is proved: contracts of the abstract evaluation; no condition.
-/
namespace Go.Proofs.Ytpbfmaodnihpeaa
open Go.Av

theorem search_mid {l : List Tm} {n a m b pos start r mid nn pp : Nat} (hn : n = l.length) (hlen : n < 1099511627776) (hok : OkL l) (hrn : r ≤ n) (hrp : r ≤ pp + 1) (hpn : pp < n + start)
    (hT : ∀ c y z, start ≤ c → c < pos → l[pp - c]? = some y → l[c]? = some z → ¬ cmpT y z < 0) (hF : ∀ c y z, pos ≤ c → c < r → l[pp - c]? = some y → l[c]? = some z → cmpT y z < 0)
    {P : MV × List (List AV) → Prop} (h : Gets (w109_2 (rowsT l) mid nn pp 0 n a m b pos pos) P) :
    ∀ (d i j : Nat), j - i = d → start ≤ i → i ≤ pos → pos ≤ j → j ≤ r → Gets (w109_2 (rowsT l) mid nn pp 0 n a m b i j) P := by
  intro d
  induction d using Nat.strongRecOn with
  | ind d ih =>
    intro i j hd hli hip hpj hjh
    by_cases hij : i < j
    · refine w109_2_step _ _ _ _ _ _ _ _ _ _ _ ?_
      have eh := half (i := i) (j := j) (by omega)
      obtain ⟨c, hc⟩ : ∃ c, c = (i + j) / 2 := ⟨_, rfl⟩
      rw [← hc] at eh
      have hic : i ≤ c := by omega
      have hcj : c < j := by omega
      rw [eh]
      obtain ⟨z, hz⟩ : ∃ z, l[c]? = some z := ⟨_, List.getElem?_eq_getElem (by omega)⟩
      obtain ⟨y, hy⟩ : ∃ y, l[pp - c]? = some y := ⟨_, List.getElem?_eq_getElem (by omega)⟩
      have hcmp := compare_ev (hok.get (List.mem_of_getElem? hy)) (hok.get (List.mem_of_getElem? hz))
      have hT' := fun h1 => hT c y z (by omega) h1 hy hz
      have hF' := fun h1 => hF c y z h1 (by omega) hy hz
      have e1 : IntKind.wrap .i64 ((c : Int) + 1) = ((c + 1 : Nat) : Int) := by rw [wrap64 (by omega) (by omega)]; rfl
      have e2 : IntKind.wrap .i64 ((pp : Int) - (c : Int)) = ((pp - c : Nat) : Int) := by rw [wrap64 (by omega) (by omega)]; omega
      have ih1 := ih (j - (c + 1)) (by omega) (c + 1) j rfl (by omega)
      have ih2 := ih (c - i) (by omega) i c rfl (by omega)
      obtain ⟨k, n1, s, ly⟩ := y
      obtain ⟨k', n', s', lz⟩ := z
      rw [Tm.av_mk, Tm.av_mk] at hcmp
      rw [e1, e2]
      simp only [get?Internal_eq, Int.toNat_natCast, Nat.zero_add, rowsT_some hy, rowsT_some hz, kOptSome]
      simp only [List.length_cons, List.length_nil, Nat.zero_add, Nat.reduceAdd, nble, Nat.le_refl, decide_true, cond_true, List.take_succ_cons, List.take_zero, kCons_cons, kNil_nil, kInt_int, kStr_str, kSl_sl, leInt_eq, ltInt_eq, hcmp, kOptSome]
      have d0 : decide ((i : Int) < (j : Int)) = true := decide_eq_true (by omega)
      have d2 : decide ((0 : Int) ≤ (c : Int)) = true := decide_eq_true (by omega)
      have d3 : decide ((c : Int) < (n : Int)) = true := decide_eq_true (by omega)
      have d4 : decide ((0 : Int) ≤ ((pp - c : Nat) : Int)) = true := decide_eq_true (by omega)
      have d5 : decide (((pp - c : Nat) : Int) < (n : Int)) = true := decide_eq_true (by omega)
      simp only [d0, d2, d3, d4, d5, Bool.and_self, cond_true]
      by_cases hcp : c < pos
      · rw [decide_eq_false (hT' hcp), Bool.not_false, cond_true]
        exact ih1 (by omega) hpj hjh
      · rw [decide_eq_true (hF' (by omega)), Bool.not_true, cond_false]
        exact ih2 hip (by omega) (by omega)
    · obtain rfl : i = pos := by omega
      obtain rfl : j = i := by omega
      exact h

/-- behind the search: rotated, then both halves -/
theorem sym_tail {n a m b pos e mid nn pp : Nat} (hn : n < 1099511627776) (he : e + pos = nn) (hnn : nn < 4398046511104) {L0 L1 L2 L3 : List (List AV)}
    (rot : pos < m → m < e → EVm (EV cfg) 116 [.ms 0 0 n, .int .i64 pos, .int .i64 m, .int .i64 e, .fn (.func 15) [] []] 4 L0 = some (.unit, L1)) (rot' : ¬ (pos < m ∧ m < e) → L0 = L1)
    (rec1 : a < pos → pos < mid → EVm (EV cfg) 109 [.ms 0 0 n, .int .i64 a, .int .i64 pos, .int .i64 mid, .fn (.func 15) [] []] 4 L1 = some (.unit, L2)) (rec1' : ¬ (a < pos ∧ pos < mid) → L1 = L2)
    (rec2 : mid < e → e < b → EVm (EV cfg) 109 [.ms 0 0 n, .int .i64 mid, .int .i64 e, .int .i64 b, .fn (.func 15) [] []] 4 L2 = some (.unit, L3)) (rec2' : ¬ (mid < e ∧ e < b) → L2 = L3) :
    Gets (w109_2 L0 mid nn pp 0 n a m b pos pos) (· = (.unit, L3)) := by
  refine w109_2_step _ _ _ _ _ _ _ _ _ _ _ ?_
  have ee : IntKind.wrap .i64 ((nn : Int) - (pos : Int)) = (e : Int) := by rw [wrap64 (by omega) (by omega)]; omega
  have dz : decide ((pos : Int) < (pos : Int)) = false := decide_eq_false (by omega)
  have c1 : decide ((pos : Int) < (m : Int)) = decide (pos < m) := by simp
  have c2 : decide ((m : Int) < (e : Int)) = decide (m < e) := by simp
  have c3 : decide ((a : Int) < (pos : Int)) = decide (a < pos) := by simp
  have c4 : decide ((pos : Int) < (mid : Int)) = decide (pos < mid) := by simp
  have c5 : decide ((mid : Int) < (e : Int)) = decide (mid < e) := by simp
  have c6 : decide ((e : Int) < (b : Int)) = decide (e < b) := by simp
  rw [dz, cond_false, ee]
  simp only [c1, c2, c3, c4, c5, c6]
  have t3 : ∀ L, L = L2 → Gets (bif decide (mid < e) then bif decide (e < b) then kOpt (EVm (EV cfg) 109 [.ms 0 0 n, .int .i64 mid, .int .i64 e, .int .i64 b, .fn (.func 15) [] []] 4 L) fun q => kMUnit q.1 (some (MV.unit, q.2)) else some (MV.unit, L) else some (MV.unit, L)) (· = (.unit, L3)) := by
    intro L hL
    subst hL
    by_cases h5 : mid < e
    · by_cases h6 : e < b
      · simp [h5, h6, rec2 h5 h6]
      · simp [h5, h6, rec2' (fun h => h6 h.2)]
    · simp [h5, rec2' (fun h => h5 h.1)]
  have t2 : ∀ L, L = L1 → Gets (bif decide (a < pos) then bif decide (pos < mid) then kOpt (EVm (EV cfg) 109 [.ms 0 0 n, .int .i64 a, .int .i64 pos, .int .i64 mid, .fn (.func 15) [] []] 4 L) fun q => kMUnit q.1
        (bif decide (mid < e) then bif decide (e < b) then kOpt (EVm (EV cfg) 109 [.ms 0 0 n, .int .i64 mid, .int .i64 e, .int .i64 b, .fn (.func 15) [] []] 4 q.2) fun q => kMUnit q.1 (some (MV.unit, q.2)) else some (MV.unit, q.2) else some (MV.unit, q.2))
        else bif decide (mid < e) then bif decide (e < b) then kOpt (EVm (EV cfg) 109 [.ms 0 0 n, .int .i64 mid, .int .i64 e, .int .i64 b, .fn (.func 15) [] []] 4 L) fun q => kMUnit q.1 (some (MV.unit, q.2)) else some (MV.unit, L) else some (MV.unit, L)
        else bif decide (mid < e) then bif decide (e < b) then kOpt (EVm (EV cfg) 109 [.ms 0 0 n, .int .i64 mid, .int .i64 e, .int .i64 b, .fn (.func 15) [] []] 4 L) fun q => kMUnit q.1 (some (MV.unit, q.2)) else some (MV.unit, L) else some (MV.unit, L)) (· = (.unit, L3)) := by
    intro L hL
    subst hL
    by_cases h3 : a < pos
    · by_cases h4 : pos < mid
      · rw [decide_eq_true h3, decide_eq_true h4, cond_true, cond_true, rec1 h3 h4, kOptSome, kMUnit_unit]
        exact t3 L2 rfl
      · rw [decide_eq_true h3, decide_eq_false h4, cond_true, cond_false]
        exact t3 _ (rec1' (fun h => h4 h.2))
    · rw [decide_eq_false h3, cond_false]
      exact t3 _ (rec1' (fun h => h3 h.1))
  by_cases h1 : pos < m
  · by_cases h2 : m < e
    · rw [decide_eq_true h1, decide_eq_true h2, cond_true, cond_true, rot h1 h2, kOptSome, kMUnit_unit]
      exact t2 L1 rfl
    · rw [decide_eq_true h1, decide_eq_false h2, cond_true, cond_false]
      exact t2 _ (rot' (fun h => h2 h.2))
  · rw [decide_eq_false h1, cond_false]
    exact t2 _ (rot' (fun h => h1 h.1))
end Go.Proofs.Ytpbfmaodnihpeaa
end

section
/-
  The library's merging in place merges. Own work.
  What is proved: a contract of the abstract evaluation; no condition.
-/
namespace Go.Proofs.Ytpbfmaodnihpeaa
open Go.Av

theorem mono_split (p : Nat → Prop) : ∀ (d lo hi : Nat), hi = lo + d → (∀ c c', lo ≤ c → c < c' → c' < hi → p c' → p c) → ∃ pos, lo ≤ pos ∧ pos ≤ hi ∧ (∀ c, lo ≤ c → c < pos → p c) ∧ (∀ c, pos ≤ c → c < hi → ¬ p c) := by
  intro d
  induction d with
  | zero => intro lo hi h _; exact ⟨lo, Nat.le_refl _, by omega, fun c h1 h2 => by omega, fun c h1 h2 => by omega⟩
  | succ d ih =>
    intro lo hi h mono
    by_cases hp : p (hi - 1)
    · refine ⟨hi, by omega, Nat.le_refl _, fun c h1 h2 => ?_, fun c h1 h2 => by omega⟩
      by_cases hc : c = hi - 1
      · rw [hc]; exact hp
      · exact mono c (hi - 1) h1 (by omega) (by omega) hp
    · obtain ⟨pos, h1, h2, h3, h4⟩ := ih lo (hi - 1) (by omega) (fun c c' h1 h2 h3 => mono c c' h1 h2 (by omega))
      refine ⟨pos, h1, by omega, h3, fun c h5 h6 => ?_⟩
      by_cases hc : c = hi - 1
      · rw [hc]; exact hp
      · exact h4 c h5 (by omega)

theorem sorted_get {l : List Tm} (h : SortedT l) {i j : Nat} {x y : Tm} (hx : l[i]? = some x) (hy : l[j]? = some y) (hij : i ≤ j) : cmpT x y ≤ 0 := by
  rcases Nat.lt_or_eq_of_le hij with hlt | rfl
  · obtain ⟨h1, e1⟩ := List.getElem?_eq_some_iff.1 hx
    obtain ⟨h2, e2⟩ := List.getElem?_eq_some_iff.1 hy
    have := List.pairwise_iff_getElem.1 h i j h1 h2 hlt
    rw [e1, e2] at this
    exact this
  · rw [hx] at hy; cases hy
    rw [cmpT_self]; exact Int.le_refl _

theorem sorted_sub {l l' : List Tm} (h : SortedT l) (hs : l'.Sublist l) : SortedT l' := List.Pairwise.sublist hs h

set_option maxHeartbeats 4000000 in
theorem symMerge_ev : ∀ (k : Nat) (P X Y S : List Tm) (n a m b : Nat), X.length + Y.length = k → 0 < X.length → 0 < Y.length → SortedT X → SortedT Y → n = (P ++ (X ++ (Y ++ S))).length → n < 1099511627776 → OkL (P ++ (X ++ (Y ++ S))) →
    a = P.length → m = P.length + X.length → b = P.length + X.length + Y.length →
    EVm (EV cfg) 109 [.ms 0 0 n, .int .i64 a, .int .i64 m, .int .i64 b, .fn (.func 15) [] []] 4 (rowsT (P ++ (X ++ (Y ++ S)))) = some (.unit, rowsT (P ++ (mrg X Y ++ S))) := by
  intro k
  induction k using Nat.strongRecOn with
  | ind k ih =>
    intro P X Y S n a m b hk hX0 hY0 hX hY hn hlen hok ha hm hb
    have hnl : n = P.length + X.length + Y.length + S.length := by rw [hn]; simp; omega
    apply Gets.get
    refine f109_run _ _ _ _ _ _ ?_
    have e1 : IntKind.wrap .i64 ((m : Int) - (a : Int)) = (X.length : Int) := by rw [wrap64 (by omega) (by omega)]; omega
    have e2 : IntKind.wrap .i64 ((b : Int) - (m : Int)) = (Y.length : Int) := by rw [wrap64 (by omega) (by omega)]; omega
    rw [e1, e2]
    by_cases hX1 : X.length = 1
    · obtain ⟨x, rfl⟩ : ∃ x, X = [x] := by
        match X, hX1 with
        | [x], _ => exact ⟨x, rfl⟩
      have := sym_left (Q := P) (x := x) (n := n) (a := a) (m := m) (b := b) hY hn hlen hok ha (by simpa using hm) (by simpa using hb)
      simpa [beqD] using this
    by_cases hY1 : Y.length = 1
    · obtain ⟨y, rfl⟩ : ∃ y, Y = [y] := by
        match Y, hY1 with
        | [y], _ => exact ⟨y, rfl⟩
      have := sym_right (Q := P) (y := y) (n := n) (a := a) (m := m) hX hn hlen hok ha hm
      have c1 : ¬ ((X.length : Int) = 1) := by omega
      rw [beqD, decide_eq_false c1, cond_false]
      simpa [beqD] using this
    have c1 : ¬ ((X.length : Int) = 1) := by omega
    have c2 : ¬ ((Y.length : Int) = 1) := by omega
    rw [beqD, decide_eq_false c1, cond_false, beqD, decide_eq_false c2, cond_false]
    have eh := half (i := a) (j := b) (by omega)
    obtain ⟨mid, hmid⟩ : ∃ mid, mid = (a + b) / 2 := ⟨_, rfl⟩
    rw [← hmid] at eh
    have e3 : IntKind.wrap .i64 ((mid : Int) + (m : Int)) = ((mid + m : Nat) : Int) := by rw [wrap64 (by omega) (by omega)]; rfl
    have e4 : IntKind.wrap .i64 (((mid + m : Nat) : Int) - 1) = ((mid + m - 1 : Nat) : Int) := by rw [wrap64 (by omega) (by omega)]; omega
    rw [eh, e3, e4]
    have main : ∀ start r : Nat, (mid < m ∧ start = mid + m - b ∧ r = mid) ∨ (m ≤ mid ∧ start = a ∧ r = m) →
        Gets (w109_2 (rowsT (P ++ (X ++ (Y ++ S)))) mid (mid + m : Nat) (mid + m - 1 : Nat) 0 n a m b start r) (· = (.unit, rowsT (P ++ (mrg X Y ++ S)))) := by
      intro start r hsr
      have hsr' : a ≤ start ∧ start ≤ r ∧ r ≤ m ∧ r ≤ mid ∧ mid + m ≤ start + b := by omega
      have gX : ∀ c, a ≤ c → c < m → ∃ z, X[c - a]? = some z ∧ (P ++ (X ++ (Y ++ S)))[c]? = some z := fun c h1 h2 => by
        obtain ⟨z, hz⟩ : ∃ z, X[c - a]? = some z := ⟨_, List.getElem?_eq_getElem (by omega)⟩
        refine ⟨z, hz, ?_⟩
        rw [List.getElem?_append_right (by omega), List.getElem?_append_left (by omega), ← ha]; exact hz
      have gY : ∀ c, m ≤ c → c < b → ∃ z, Y[c - m]? = some z ∧ (P ++ (X ++ (Y ++ S)))[c]? = some z := fun c h1 h2 => by
        obtain ⟨z, hz⟩ : ∃ z, Y[c - m]? = some z := ⟨_, List.getElem?_eq_getElem (by omega)⟩
        refine ⟨z, hz, ?_⟩
        rw [List.getElem?_append_right (by omega), List.getElem?_append_right (by omega), List.getElem?_append_left (by omega)]
        rw [show c - P.length - X.length = c - m by omega]; exact hz
      obtain ⟨pos, hp1, hp2, hp3, hp4⟩ := mono_split (fun c => ∀ y z, Y[mid + m - 1 - c - m]? = some y → X[c - a]? = some z → ¬ cmpT y z < 0) (r - start) start r (by omega) (fun c c' h1 h2 h3 hp y z hy hz hlt => by
        obtain ⟨z', hz', _⟩ := gX c' (by omega) (by omega)
        obtain ⟨y', hy', _⟩ := gY (mid + m - 1 - c') (by omega) (by omega)
        refine hp y' z' hy' hz' ?_
        exact cmpT_lt_le (cmpT_le_lt (sorted_get hY hy' hy (by omega)) hlt) (sorted_get hX hz hz' (by omega)))
      obtain ⟨e, he⟩ : ∃ e, e = mid + m - pos := ⟨_, rfl⟩
      have hX1l : (X.take (pos - a)).length = pos - a := by simp; omega
      have hUl : (X.drop (pos - a)).length = m - pos := by simp; omega
      have hVl : (Y.take (e - m)).length = e - m := by simp; omega
      have hY2l : (Y.drop (e - m)).length = b - e := by simp; omega
      have hXX : X.take (pos - a) ++ X.drop (pos - a) = X := List.take_append_drop _ _
      have hYY : Y.take (e - m) ++ Y.drop (e - m) = Y := List.take_append_drop _ _
      have hUV : ∀ u ∈ X.drop (pos - a), ∀ v ∈ Y.take (e - m), 0 < cmpT u v := by
        intro u hu v hv
        obtain ⟨i, hi⟩ := List.mem_iff_getElem?.1 hu
        obtain ⟨j, hj⟩ := List.mem_iff_getElem?.1 hv
        have hil : i < m - pos := by rw [← hUl]; exact (List.getElem?_eq_some_iff.1 hi).1
        have hjl : j < e - m := by rw [← hVl]; exact (List.getElem?_eq_some_iff.1 hj).1
        rw [List.getElem?_drop] at hi
        rw [List.getElem?_take, if_pos hjl] at hj
        have hn4 := hp4 pos (Nat.le_refl _) (by omega)
        have hc : ∃ y z, Y[mid + m - 1 - pos - m]? = some y ∧ X[pos - a]? = some z ∧ cmpT y z < 0 := by
          obtain ⟨z, hz, _⟩ := gX pos (by omega) (by omega)
          obtain ⟨y, hy, _⟩ := gY (mid + m - 1 - pos) (by omega) (by omega)
          refine ⟨y, z, hy, hz, ?_⟩
          by_cases hlt : cmpT y z < 0
          · exact hlt
          · exfalso
            refine hn4 (fun y' z' hy' hz' => ?_)
            rw [hy] at hy'; rw [hz] at hz'; cases hy'; cases hz'; exact hlt
        obtain ⟨y, z, hy, hz, hlt⟩ := hc
        have h1 := sorted_get hY hj hy (by omega)
        have h2 := sorted_get hX hz hi (by omega)
        have h3 := cmpT_lt_le (cmpT_le_lt h1 hlt) h2
        have := cmpT_neg u v
        omega
      have hXY : ∀ x ∈ X.take (pos - a), ∀ y ∈ Y.drop (e - m), cmpT x y ≤ 0 := by
        intro x hx y hy
        obtain ⟨i, hi⟩ := List.mem_iff_getElem?.1 hx
        obtain ⟨j, hj⟩ := List.mem_iff_getElem?.1 hy
        have hil : i < pos - a := by rw [← hX1l]; exact (List.getElem?_eq_some_iff.1 hi).1
        have hjl : j < b - e := by rw [← hY2l]; exact (List.getElem?_eq_some_iff.1 hj).1
        rw [List.getElem?_take, if_pos hil] at hi
        rw [List.getElem?_drop] at hj
        obtain ⟨z, hz, _⟩ := gX (pos - 1) (by omega) (by omega)
        obtain ⟨w, hw, _⟩ := gY (mid + m - 1 - (pos - 1)) (by omega) (by omega)
        have hnl := hp3 (pos - 1) (by omega) (by omega) w z hw hz
        have h1 := sorted_get hX hi hz (by omega)
        have h2 := sorted_get hY hw hj (by omega)
        have := cmpT_neg z w
        exact cmpT_trans (cmpT_trans h1 (by omega)) h2
      have hmrg : mrg X Y = mrg (X.take (pos - a)) (Y.take (e - m)) ++ mrg (X.drop (pos - a)) (Y.drop (e - m)) := by
        have := mrg_split _ _ _ _ _ rfl hUV hXY
        rw [hXX, hYY] at this
        exact this
      have hokU : ∀ t, (t ∈ P ∨ t ∈ X ∨ t ∈ Y ∨ t ∈ S) → t.Ok := fun t ht => hok.get (by simpa using ht)
      have eL0 : P ++ (X ++ (Y ++ S)) = (P ++ X.take (pos - a)) ++ (X.drop (pos - a) ++ (Y.take (e - m) ++ (Y.drop (e - m) ++ S))) := by
        rw [List.append_assoc, ← List.append_assoc (X.take _), hXX, ← List.append_assoc (Y.take _), hYY]
      refine search_mid (start := start) (r := r) (pos := pos) (by rw [hn]) hlen hok (by omega) (by omega) (by omega) (fun c y z h1 h2 hy hz => ?_) (fun c y z h1 h2 hy hz => ?_) ?_ _ start r rfl (Nat.le_refl _) hp1 hp2 (Nat.le_refl _)
      · obtain ⟨z', hz', hz2⟩ := gX c (by omega) (by omega)
        obtain ⟨y', hy', hy2⟩ := gY (mid + m - 1 - c) (by omega) (by omega)
        rw [hz] at hz2; rw [hy] at hy2; cases hz2; cases hy2
        exact hp3 c h1 h2 _ _ hy' hz'
      · obtain ⟨z', hz', hz2⟩ := gX c (by omega) (by omega)
        obtain ⟨y', hy', hy2⟩ := gY (mid + m - 1 - c) (by omega) (by omega)
        rw [hz] at hz2; rw [hy] at hy2; cases hz2; cases hy2
        by_cases hlt : cmpT y z < 0
        · exact hlt
        · exfalso
          refine hp4 c h1 h2 (fun y2 z2 h3 h4 => ?_)
          rw [hy'] at h3; rw [hz'] at h4; cases h3; cases h4; exact hlt
      · rw [hmrg]
        generalize hX1e : X.take (pos - a) = X1 at *
        generalize hUe : X.drop (pos - a) = U at *
        generalize hVe : Y.take (e - m) = V at *
        generalize hY2e : Y.drop (e - m) = Y2 at *
        have sX1 : SortedT X1 := hX1e ▸ sorted_sub hX (List.take_sublist _ _)
        have sU : SortedT U := hUe ▸ sorted_sub hX (List.drop_sublist _ _)
        have sV : SortedT V := hVe ▸ sorted_sub hY (List.take_sublist _ _)
        have sY2 : SortedT Y2 := hY2e ▸ sorted_sub hY (List.drop_sublist _ _)
        have memX : ∀ t, t ∈ X1 ∨ t ∈ U → t ∈ X := fun t ht => by rw [← hXX]; exact List.mem_append.2 ht
        have memY : ∀ t, t ∈ V ∨ t ∈ Y2 → t ∈ Y := fun t ht => by rw [← hYY]; exact List.mem_append.2 ht
        rw [eL0]
        have ml1 : (mrg X1 V).length = X1.length + V.length := mrg_length _ _ _ rfl
        refine sym_tail (e := e) (L1 := rowsT (P ++ (X1 ++ (V ++ (U ++ (Y2 ++ S)))))) (L2 := rowsT (P ++ (mrg X1 V ++ (U ++ (Y2 ++ S))))) hlen (by omega) (by omega) (fun h1 h2 => ?_) (fun h => ?_) (fun h1 h2 => ?_) (fun h => ?_) (fun h1 h2 => ?_) (fun h => ?_)
        · have := rotate_ev (P := P ++ X1) (X := U) (Y := V) (S := Y2 ++ S) (by omega) (by omega) (n := n) (a := pos) (m := m) (b := e) (by rw [hnl]; simp; omega) hlen (by simp; omega) (by simp; omega) (by simp; omega)
          rw [this]
          simp
        · have : U = [] ∨ V = [] := by
            by_cases h1 : pos < m
            · right; exact List.eq_nil_of_length_eq_zero (by omega)
            · left; exact List.eq_nil_of_length_eq_zero (by omega)
          rcases this with e0 | e0 <;> subst e0 <;> simp
        · exact ih (X1.length + V.length) (by omega) P X1 V (U ++ (Y2 ++ S)) n a pos mid rfl (by omega) (by omega) sX1 sV (by rw [hnl]; simp; omega) hlen
            (OkL_iff.2 fun t ht => hokU t (by
              simp only [List.mem_append] at ht
              rcases ht with h | h | h | h | h | h
              · exact .inl h
              · exact .inr (.inl (memX t (.inl h)))
              · exact .inr (.inr (.inl (memY t (.inl h))))
              · exact .inr (.inl (memX t (.inr h)))
              · exact .inr (.inr (.inl (memY t (.inr h))))
              · exact .inr (.inr (.inr h)))) ha (by omega) (by omega)
        · have : X1 = [] ∨ V = [] := by
            by_cases h1 : a < pos
            · right; exact List.eq_nil_of_length_eq_zero (by omega)
            · left; exact List.eq_nil_of_length_eq_zero (by omega)
          rcases this with e0 | e0 <;> subst e0 <;> simp
        · have := ih (U.length + Y2.length) (by omega) (P ++ mrg X1 V) U Y2 S n mid e b rfl (by omega) (by omega) sU sY2 (by rw [hnl]; simp [ml1]; omega) hlen
            (OkL_iff.2 fun t ht => hokU t (by
              simp only [List.mem_append, mem_mrg] at ht
              rcases ht with (h | h | h) | h | h | h
              · exact .inl h
              · exact .inr (.inl (memX t (.inl h)))
              · exact .inr (.inr (.inl (memY t (.inl h))))
              · exact .inr (.inl (memX t (.inr h)))
              · exact .inr (.inr (.inl (memY t (.inr h))))
              · exact .inr (.inr (.inr h)))) (by simp [ml1]; omega) (by simp [ml1]; omega) (by simp [ml1]; omega)
          simpa using this
        · have : U = [] ∨ Y2 = [] := by
            by_cases h1 : mid < e
            · right; exact List.eq_nil_of_length_eq_zero (by omega)
            · left; exact List.eq_nil_of_length_eq_zero (by omega)
          rcases this with e0 | e0 <;> subst e0 <;> simp
    by_cases hmm : mid < m
    · have d : decide ((m : Int) > (mid : Int)) = true := decide_eq_true (by omega)
      have e5 : IntKind.wrap .i64 (((mid + m : Nat) : Int) - (b : Int)) = ((mid + m - b : Nat) : Int) := by rw [wrap64 (by omega) (by omega)]; omega
      rw [d, cond_true, e5]
      exact main (mid + m - b) mid (.inl ⟨hmm, rfl, rfl⟩)
    · have d : decide ((m : Int) > (mid : Int)) = false := decide_eq_false (by omega)
      rw [d, cond_false]
      exact main a m (.inr ⟨by omega, rfl, rfl⟩)
end Go.Proofs.Ytpbfmaodnihpeaa
end

section
/-
  The library's stable sort sorts. Own work.
  What is proved: contracts of the abstract evaluation; no condition.
-/
namespace Go.Proofs.Ytpbfmaodnihpeaa
open Go.Av
set_option maxHeartbeats 2000000

/-- a list, each k terms of it sorted by themselves -/
def chunks (k : Nat) : Nat → List Tm → List Tm
  | 0, l => l
  | f + 1, l => if l = [] then [] else sortT (l.take k) ++ chunks k f (l.drop k)

theorem chunks_nil (k f : Nat) : chunks k f [] = [] := by cases f <;> simp [chunks]
theorem chunks_cons {k f : Nat} {l : List Tm} (h : l ≠ []) : chunks k (f + 1) l = sortT (l.take k) ++ chunks k f (l.drop k) := by rw [chunks, if_neg h]
theorem chunks_short {k f : Nat} {l : List Tm} (h : l.length ≤ k) : chunks k (f + 1) l = sortT l := by
  by_cases hl : l = []
  · subst hl; simp [chunks, sortT_nil]
  · rw [chunks_cons hl, List.take_of_length_le h, List.drop_eq_nil_of_le h, chunks_nil, List.append_nil]
theorem chunks_len (k : Nat) : ∀ (f : Nat) (l : List Tm), (chunks k f l).length = l.length
  | 0, l => rfl
  | f + 1, l => by
    by_cases hl : l = []
    · subst hl; rw [chunks_nil]
    · rw [chunks_cons hl, List.length_append, sortT_length, chunks_len k f]; simp; omega
theorem mem_chunks {k : Nat} {t : Tm} : ∀ {f : Nat} {l : List Tm}, t ∈ chunks k f l → t ∈ l
  | 0, l, h => h
  | f + 1, l, h => by
    by_cases hl : l = []
    · subst hl; rw [chunks_nil] at h; exact h
    · rw [chunks_cons hl] at h
      rcases List.mem_append.1 h with h | h
      · exact List.mem_of_mem_take (mem_sortT.1 h)
      · exact List.mem_of_mem_drop (mem_chunks h)
/-- more steps than are needed change nothing -/
theorem chunks_fuel {k : Nat} (hk : 0 < k) : ∀ (f g : Nat) (l : List Tm), l.length ≤ f → l.length ≤ g → chunks k f l = chunks k g l := by
  intro f
  induction f with
  | zero =>
    intro g l h1 h2
    obtain rfl : l = [] := List.eq_nil_of_length_eq_zero (by omega)
    rw [chunks_nil, chunks_nil]
  | succ f ih =>
    intro g l h1 h2
    by_cases hl : l = []
    · subst hl; rw [chunks_nil, chunks_nil]
    · have : 0 < l.length := List.length_pos_iff.2 hl
      obtain ⟨g, rfl⟩ : ∃ g', g = g' + 1 := ⟨g - 1, by omega⟩
      rw [chunks_cons hl, chunks_cons hl, ih g (l.drop k) (by simp; omega) (by simp; omega)]

/-- the blocks of twenty -/
theorem stable_blocks {n : Nat} (hlen : n < 1099511627776) {P : MV × List (List AV) → Prop} : ∀ (d : Nat) (D R : List Tm), R.length = d → n = (D ++ R).length → OkL (D ++ R) →
    Gets (w98_1 (rowsT (D ++ chunks 20 (R.length + 1) R)) 0 n n 20) P → Gets (w98_0 (rowsT (D ++ R)) 0 n n D.length ((D.length + 20 : Nat) : Int)) P := by
  intro d
  induction d using Nat.strongRecOn with
  | ind d ih =>
    intro D R hd hn hok h
    have hnl : n = D.length + R.length := by rw [hn]; simp
    refine w98_0_step _ _ _ _ _ _ ?_
    by_cases h20 : 20 ≤ R.length
    · have d0 : decide (((D.length + 20 : Nat) : Int) ≤ (n : Int)) = true := decide_eq_true (by omega)
      have ht : (R.take 20).length = 20 := by simp; omega
      have hRR : R.take 20 ++ R.drop 20 = R := List.take_append_drop _ _
      have ins := insertion_ev (P0 := D) (X := R.take 20) (S := R.drop 20) (n := n) (a := D.length) (b := D.length + 20) (by rw [hRR, hn]) hlen (by rw [hRR]; exact hok) rfl (by omega)
      rw [hRR] at ins
      have e1 : IntKind.wrap .i64 (((D.length + 20 : Nat) : Int) + 20) = ((D.length + 20 + 20 : Nat) : Int) := by rw [wrap64 (by omega) (by omega)]; omega
      rw [d0, cond_true, ins, kOptSome, kMUnit_unit, e1]
      have hl2 : (D ++ sortT (R.take 20)).length = D.length + 20 := by rw [List.length_append, sortT_length, ht]
      have := ih (R.drop 20).length (by simp; omega) (D ++ sortT (R.take 20)) (R.drop 20) rfl (by rw [List.length_append, hl2]; simp; omega) (OkL_iff.2 fun t ht => by
          simp only [List.mem_append, mem_sortT] at ht
          refine hok.get (List.mem_append.2 ?_)
          rcases ht with (h | h) | h
          · exact .inl h
          · exact .inr (List.mem_of_mem_take h)
          · exact .inr (List.mem_of_mem_drop h)) (by
          have hne : R ≠ [] := by intro e; rw [e] at h20; simp at h20
          rw [chunks_cons hne, ← List.append_assoc, chunks_fuel (by omega) R.length ((R.drop 20).length + 1) (R.drop 20) (by simp) (by omega)] at h
          exact h)
      rw [hl2, List.append_assoc] at this
      exact this
    · have d0 : decide (((D.length + 20 : Nat) : Int) ≤ (n : Int)) = false := decide_eq_false (by omega)
      have ins := insertion_ev (P0 := D) (X := R) (S := []) (n := n) (a := D.length) (b := n) (by rw [hn]; simp) hlen (by simpa using hok) rfl hnl
      simp only [List.append_nil] at ins
      rw [d0, cond_false, ins, kOptSome, kMUnit_unit]
      rw [chunks_short (by omega)] at h
      exact h

/-- pairs of blocks are merged -/
theorem stable_pairs {n bs : Nat} (hlen : n < 1099511627776) (hbs : 0 < bs) (hbn : bs < n) {P : MV × List (List AV) → Prop} : ∀ (d : Nat) (D R : List Tm), R.length = d → n = (D ++ R).length → OkL (D ++ R) →
    Gets (w98_1 (rowsT (D ++ chunks (2 * bs) (R.length + 1) R)) 0 n n ((2 * bs : Nat) : Int)) P → Gets (w98_2 (rowsT (D ++ chunks bs (R.length + 1) R)) 0 n n bs D.length ((D.length + 2 * bs : Nat) : Int)) P := by
  intro d
  induction d using Nat.strongRecOn with
  | ind d ih =>
    intro D R hd hn hok h
    have hnl : n = D.length + R.length := by rw [hn]; simp
    refine w98_2_step _ _ _ _ _ _ _ ?_
    have e1 : IntKind.wrap .i64 ((D.length : Int) + (bs : Int)) = ((D.length + bs : Nat) : Int) := by rw [wrap64 (by omega) (by omega)]; omega
    have e2 : IntKind.wrap .i64 (2 * (bs : Int)) = ((2 * bs : Nat) : Int) := by rw [wrap64 (by omega) (by omega)]; omega
    have e3 : IntKind.wrap .i64 (((D.length + 2 * bs : Nat) : Int) + ((2 * bs : Nat) : Int)) = ((D.length + 2 * bs + 2 * bs : Nat) : Int) := by rw [wrap64 (by omega) (by omega)]; omega
    have e4 : IntKind.wrap .i64 ((bs : Int) * 2) = ((2 * bs : Nat) : Int) := by rw [wrap64 (by omega) (by omega)]; omega
    rw [e1, e2, e3, e4]
    have okR : ∀ t, t ∈ D ∨ t ∈ R → t.Ok := fun t ht => hok.get (List.mem_append.2 ht)
    by_cases h2 : 2 * bs ≤ R.length
    · have d0 : decide (((D.length + 2 * bs : Nat) : Int) ≤ (n : Int)) = true := decide_eq_true (by omega)
      have hne : R ≠ [] := by intro e; rw [e] at h2; simp at h2; omega
      have hne2 : R.drop bs ≠ [] := by intro e; have := congrArg List.length e; simp at this; omega
      have ec : chunks bs (R.length + 1) R = sortT (R.take bs) ++ (sortT ((R.drop bs).take bs) ++ chunks bs ((R.drop (2 * bs)).length + 1) (R.drop (2 * bs))) := by
        rw [chunks_cons hne, chunks_fuel hbs R.length (R.length + 1) (R.drop bs) (by simp) (by simp; omega), chunks_cons hne2, List.drop_drop,
          chunks_fuel hbs R.length ((R.drop (2 * bs)).length + 1) (R.drop (bs + bs)) (by simp) (by simp; omega), show bs + bs = 2 * bs by omega]
      have l1 : (R.take bs).length = bs := by simp; omega
      have l2 : ((R.drop bs).take bs).length = bs := by simp; omega
      have sm := symMerge_ev _ D (sortT (R.take bs)) (sortT ((R.drop bs).take bs)) (chunks bs ((R.drop (2 * bs)).length + 1) (R.drop (2 * bs))) n D.length (D.length + bs) (D.length + 2 * bs) rfl (by rw [sortT_length]; omega) (by rw [sortT_length]; omega)
        (sortT_sorted _) (sortT_sorted _) (by rw [hnl]; simp only [List.length_append, sortT_length, chunks_len, l1, l2]; simp; omega) hlen (OkL_iff.2 fun t ht => okR t (by
          simp only [List.mem_append, mem_sortT] at ht
          rcases ht with h | h | h | h
          · exact .inl h
          · exact .inr (List.mem_of_mem_take h)
          · exact .inr (List.mem_of_mem_drop (List.mem_of_mem_take h))
          · exact .inr (List.mem_of_mem_drop (mem_chunks h)))) rfl (by rw [sortT_length, l1]) (by rw [sortT_length, sortT_length, l1, l2]; omega)
      have em : mrg (sortT (R.take bs)) (sortT ((R.drop bs).take bs)) = sortT (R.take (2 * bs)) := by
        rw [← sortT_append, show 2 * bs = bs + bs by omega, List.take_add]
      rw [em, ← ec] at sm
      rw [d0, cond_true, sm, kOptSome, kMUnit_unit]
      have ht : (R.take (2 * bs)).length = 2 * bs := by simp; omega
      have hl2 : (D ++ sortT (R.take (2 * bs))).length = D.length + 2 * bs := by rw [List.length_append, sortT_length, ht]
      have := ih (R.drop (2 * bs)).length (by simp; omega) (D ++ sortT (R.take (2 * bs))) (R.drop (2 * bs)) rfl (by rw [List.length_append, hl2]; simp; omega) (OkL_iff.2 fun t ht => okR t (by
          simp only [List.mem_append, mem_sortT] at ht
          rcases ht with (h | h) | h
          · exact .inl h
          · exact .inr (List.mem_of_mem_take h)
          · exact .inr (List.mem_of_mem_drop h))) (by
          rw [chunks_cons hne, ← List.append_assoc, chunks_fuel (by omega) R.length ((R.drop (2 * bs)).length + 1) (R.drop (2 * bs)) (by simp) (by omega)] at h
          exact h)
      rw [hl2, List.append_assoc] at this
      exact this
    · have d0 : decide (((D.length + 2 * bs : Nat) : Int) ≤ (n : Int)) = false := decide_eq_false (by omega)
      rw [d0, cond_false]
      rw [chunks_short (by omega)] at h
      by_cases h1 : bs < R.length
      · have d1 : decide (((D.length + bs : Nat) : Int) < (n : Int)) = true := decide_eq_true (by omega)
        have hne : R ≠ [] := by intro e; rw [e] at h1; simp at h1
        have l1 : (R.take bs).length = bs := by simp; omega
        have ec : chunks bs (R.length + 1) R = sortT (R.take bs) ++ (sortT (R.drop bs) ++ []) := by
          rw [chunks_cons hne, chunks_fuel hbs R.length (R.length + 1) (R.drop bs) (by simp) (by simp; omega), chunks_short (by simp; omega), List.append_nil]
        have sm := symMerge_ev _ D (sortT (R.take bs)) (sortT (R.drop bs)) [] n D.length (D.length + bs) n rfl (by rw [sortT_length]; omega) (by rw [sortT_length]; simp; omega)
          (sortT_sorted _) (sortT_sorted _) (by rw [hnl]; simp only [List.length_append, sortT_length, l1]; simp; omega) hlen (OkL_iff.2 fun t ht => okR t (by
            simp only [List.mem_append, mem_sortT] at ht
            rcases ht with h | h | h | h
            · exact .inl h
            · exact .inr (List.mem_of_mem_take h)
            · exact .inr (List.mem_of_mem_drop h)
            · cases h)) rfl (by rw [sortT_length, l1]) (by rw [sortT_length, sortT_length, l1]; simp; omega)
        have em : mrg (sortT (R.take bs)) (sortT (R.drop bs)) = sortT R := by rw [← sortT_append, List.take_append_drop]
        rw [em, ← ec, List.append_nil] at sm
        rw [d1, cond_true, sm, kOptSome, kMUnit_unit]
        exact h
      · have d1 : decide (((D.length + bs : Nat) : Int) < (n : Int)) = false := decide_eq_false (by omega)
        rw [d1, cond_false]
        rw [chunks_short (by omega)]
        exact h

theorem stable_rounds {l : List Tm} {n : Nat} (hn : n = l.length) (hlen : n < 1099511627776) (hok : OkL l) : ∀ (d bs : Nat), n - bs = d → 0 < bs → Gets (w98_1 (rowsT (chunks bs (l.length + 1) l)) 0 n n bs) (· = (.unit, rowsT (sortT l))) := by
  intro d
  induction d using Nat.strongRecOn with
  | ind d ih =>
    intro bs hd hbs
    refine w98_1_step _ _ _ _ _ ?_
    by_cases hb : bs < n
    · have d0 : decide ((bs : Int) < (n : Int)) = true := decide_eq_true (by omega)
      have e2 : IntKind.wrap .i64 (2 * (bs : Int)) = ((2 * bs : Nat) : Int) := by rw [wrap64 (by omega) (by omega)]; omega
      rw [d0, cond_true, e2]
      have := stable_pairs (n := n) (bs := bs) hlen hbs hb (P := (· = (.unit, rowsT (sortT l)))) _ [] l rfl (by simpa using hn) (by simpa using hok) (by simpa using ih (n - 2 * bs) (by omega) (2 * bs) rfl (by omega))
      simpa using this
    · have d0 : decide ((bs : Int) < (n : Int)) = false := decide_eq_false (by omega)
      rw [d0, cond_false, chunks_short (by omega)]
      simp

theorem stable_ev {l : List Tm} {n : Nat} (hn : n = l.length) (hlen : n < 1099511627776) (hok : OkL l) : EVm (EV cfg) 69 [.ms 0 0 n, .fn (.func 15) [] []] 4 (rowsT l) = some (.unit, rowsT (sortT l)) := by
  have h98 : EVm (EV cfg) 98 [.ms 0 0 n, .int .i64 n, .fn (.func 15) [] []] 4 (rowsT l) = some (.unit, rowsT (sortT l)) := by
    apply Gets.get
    refine f98_run _ _ _ _ ?_
    have := stable_blocks (n := n) hlen (P := (· = (.unit, rowsT (sortT l)))) _ [] l rfl (by simpa using hn) (by simpa using hok) (by simpa using stable_rounds hn hlen hok _ 20 rfl (by omega))
    simpa using this
  apply Gets.get
  refine f69_run _ _ _ ?_
  rw [h98]
  simp
end Go.Proofs.Ytpbfmaodnihpeaa
end

section
/-
  What is left of the functions' evaluation at arguments with variables, printed by a program of ours (resid.py) and checked by the kernel.
  What is proved: each equation as it stands; no condition.
-/
namespace Go.Proofs.Ytpbfmaodnihpeaa
open Go.Av
set_option maxRecDepth 100000
set_option maxHeartbeats 0

noncomputable def Lz98_0 : Den := evC cfg (EV cfg) 98 none (sub (bodyOf Try.f98) [1, 1, 0, 0, 0])
noncomputable def Az98_0 : Ex × List AV × AH → Option MV := kAft (Cfg.keepOut cfg 98 2) (kRun cfg (EV cfg) (kfN cfg 6) 98 none (kFinU cfg Try.f98.results.toList) ([.block 0, .seq (sub (bodyOf Try.f98) [1, 1, 1])]))
noncomputable def Wz98_0 : List AV × AH → Option MV := fun p => kOpt (LOOP 0 (some [0, 1, 2, 6, 7, 8]) Lz98_0 p) Az98_0
noncomputable def Lz108_0 : Den := evC cfg (EV cfg) 108 none (sub (bodyOf Try.f108) [1, 0, 0])
noncomputable def Az108_0 : Ex × List AV × AH → Option MV := kAft (Cfg.keepOut cfg 108 1) (kRun cfg (EV cfg) (kfN cfg 6) 108 none (kFinU cfg Try.f108.results.toList) ([.block 0]))
noncomputable def Wz108_0 : List AV × AH → Option MV := fun p => kOpt (LOOP 0 (some [0, 1, 2, 3, 8]) Lz108_0 p) Az108_0
noncomputable def Lz98_1 : Den := evC cfg (EV cfg) 98 none (sub (bodyOf Try.f98) [1, 1, 1, 1, 0, 0])
noncomputable def Az98_1 : Ex × List AV × AH → Option MV := kAft (Cfg.keepOut cfg 98 7) (kRun cfg (EV cfg) (kfN cfg 6) 98 none (kFinU cfg Try.f98.results.toList) ([.block 2]))
noncomputable def Wz98_1 : List AV × AH → Option MV := fun p => kOpt (LOOP 0 (some [0, 1, 2, 6]) Lz98_1 p) Az98_1
noncomputable def Lz108_1 : Den := evC cfg (EV cfg) 108 none (sub (bodyOf Try.f108) [1, 0, 0, 1, 0, 0, 1, 0, 0])
noncomputable def Az108_1 : Ex × List AV × AH → Option MV := kAft (Cfg.keepOut cfg 108 4) (kRun cfg (EV cfg) (kfN cfg 6) 108 none (kLp 0 (some [0, 1, 2, 3, 8]) Lz108_0 Az108_0) ([.block 2, .block 1, .seq (sub (bodyOf Try.f108) [1, 0, 0, 1, 1])]))
noncomputable def Wz108_1 : List AV × AH → Option MV := fun p => kOpt (LOOP 0 (some [0, 1, 2, 3, 8, 9]) Lz108_1 p) Az108_1
noncomputable def Lz98_2 : Den := evC cfg (EV cfg) 98 none (sub (bodyOf Try.f98) [1, 1, 1, 1, 0, 0, 1, 0, 1, 0, 0, 0])
noncomputable def Az98_2 : Ex × List AV × AH → Option MV := kAft (Cfg.keepOut cfg 98 9) (kRun cfg (EV cfg) (kfN cfg 6) 98 none (kLp 0 (some [0, 1, 2, 6]) Lz98_1 Az98_1) ([.block 4, .seq (sub (bodyOf Try.f98) [1, 1, 1, 1, 0, 0, 1, 0, 1, 1]), .block 3]))
noncomputable def Wz98_2 : List AV × AH → Option MV := fun p => kOpt (LOOP 0 (some [0, 1, 2, 6, 7, 8]) Lz98_2 p) Az98_2
theorem f98z_run  {P : MV → Prop} (h : Gets (Wz98_0 ((fx 63 [(0, .nilS), (1, .int .i64 (0 : Int)), (2, AV.fn (Fn.func 15) [] []), (6, .int .i64 (20 : Int)), (7, .int .i64 (0 : Int)), (8, .int .i64 (20 : Int))]), [])) P) : Gets (EVu (EV cfg) 98 ([AV.nilS, AV.int IntKind.i64 (0 : Int), AV.fn (Fn.func (15 : Nat)) [] []] : List AV)) P :=
  Gets.ev (fun _ h => funU rfl rfl Try.func98 rfl h) (Gets.eq (by kernel_rfl) h)
noncomputable abbrev wz98_0 (v7 : Int) (v8 : Int) : Option (MV) := Wz98_0 (((fx 63 [(0, AV.nilS), (1, AV.int IntKind.i64 (0 : Int)), (2, AV.fn (Fn.func (15 : Nat)) [] []), (6, AV.int IntKind.i64 (20 : Int)), (7, AV.int IntKind.i64 v7), (8, AV.int IntKind.i64 v8)]) : List AV), ([] : AH))
theorem wz98_0_step (v7 : Int) (v8 : Int) {P : MV → Prop} (h : Gets (bif decide (v8 ≤ (0 : Int)) then kOpt (EVu (EV cfg) 108 [.nilS, .int .i64 v7, .int .i64 v8, AV.fn (Fn.func 15) [] []]) fun (v : MV) => kMUnit v (Wz98_0 ((fx 63 [(0, .nilS), (1, .int 
  .i64 (0 : Int)), (2, AV.fn (Fn.func 15) [] []), (6, .int .i64 (20 : Int)), (7, .int .i64 v8), (8, .int .i64 (IntKind.wrap .i64 (v8 + (20 : Int))))]), [])) else kOpt (EVu (EV cfg) 108 
  [.nilS, .int .i64 v7, .int .i64 (0 : Int), AV.fn (Fn.func 15) [] []]) fun (v : MV) => kMUnit v (Wz98_1 ((fx 63 [(0, .nilS), (1, .int .i64 (0 : Int)), (2, AV.fn (Fn.func 15) [] []), 
  (6, .int .i64 (20 : Int))]), []))) P) : Gets (wz98_0 v7 v8) P :=
  Gets.ev (fun _ h => loop_step (cfg := cfg) (f := 98) (rd := none) h) (Gets.eq (by kernel_rfl) h)
noncomputable abbrev wz98_1 (v6 : Int) : Option (MV) := Wz98_1 (((fx 63 [(0, AV.nilS), (1, AV.int IntKind.i64 (0 : Int)), (2, AV.fn (Fn.func (15 : Nat)) [] []), (6, AV.int IntKind.i64 v6)]) : List AV), ([] : AH))
theorem wz98_1_step (v6 : Int) {P : MV → Prop} (h : Gets (bif decide (v6 < (0 : Int)) then Wz98_2 ((fx 63 [(0, .nilS), (1, .int .i64 (0 : Int)), (2, AV.fn (Fn.func 15) [] []), (6, .int .i64 v6), (7, .int .i64 (0 : Int)), (8, .int .i64 (IntKind.wrap 
  .i64 ((2 : Int) * v6)))]), []) else some MV.unit) P) : Gets (wz98_1 v6) P :=
  Gets.ev (fun _ h => loop_step (cfg := cfg) (f := 98) (rd := none) h) (Gets.eq (by kernel_rfl) h)
theorem f108z_run  {P : MV → Prop} (h : Gets (Wz108_0 ((fx 53 [(0, .nilS), (1, .int .i64 (0 : Int)), (2, .int .i64 (0 : Int)), (3, AV.fn (Fn.func 15) [] []), (8, .int .i64 (1 : Int))]), [])) P) : Gets (EVu (EV cfg) 108 ([AV.nilS, AV.int IntKind.i64 (0 : Int), AV.int IntKind.i64 (0 : Int), AV.fn (Fn.func (15 : Nat)) [] []] : List AV)) P :=
  Gets.ev (fun _ h => funU rfl rfl Try.func108 rfl h) (Gets.eq (by kernel_rfl) h)
noncomputable abbrev wz108_0 (v8 : Int) : Option (MV) := Wz108_0 (((fx 53 [(0, AV.nilS), (1, AV.int IntKind.i64 (0 : Int)), (2, AV.int IntKind.i64 (0 : Int)), (3, AV.fn (Fn.func (15 : Nat)) [] []), (8, AV.int IntKind.i64 v8)]) : List AV), ([] : AH))
theorem wz108_0_step (v8 : Int) {P : MV → Prop} (h : Gets (bif decide (v8 < (0 : Int)) then Wz108_1 ((fx 53 [(0, .nilS), (1, .int .i64 (0 : Int)), (2, .int .i64 (0 : Int)), (3, AV.fn (Fn.func 15) [] []), (8, .int .i64 v8), (9, .int .i64 v8)]), 
  []) else some MV.unit) P) : Gets (wz108_0 v8) P :=
  Gets.ev (fun _ h => loop_step (cfg := cfg) (f := 108) (rd := none) h) (Gets.eq (by kernel_rfl) h)
end Go.Proofs.Ytpbfmaodnihpeaa
end

section
/-
  order.Sort sorts. Own work.
  What is proved: contracts of the abstract evaluation; no condition.
-/
namespace Go.Proofs.Ytpbfmaodnihpeaa
open Go.Av

theorem clone_nil : EVo (EV cfg) 68 [.nilS] = some .nil := Gets.get (f68n_run (by simp))
theorem clone_em : EVo (EV cfg) 68 [.em] = some (.own 4 [] 0 0) := Gets.get (f68e_run (by simp))
theorem clone_ev {t : Tm} {l : List Tm} (h : (t :: l).length < 1099511627776) : EVo (EV cfg) 68 [.sl (rowsT (t :: l))] = some (.own 4 (rowsT (t :: l)) 0 (t :: l).length) := by
  apply Gets.get
  rw [rowsT_cons]
  refine f68_run _ _ ?_
  have h1 : rowsOk 4 (t.cells :: rowsT l) = true := by
    cases t with
    | mk k n s ls => rw [Tm.cells_mk]; rfl
  have h2 : fitsIn (l.length + 1) 56 = true := fits56 (by simp at h; omega)
  simp [h1, h2]

theorem sort_nil : EVo (EV cfg) 21 [.nilS] = some .nil := by
  have h98 : EVu (EV cfg) 69 [.nilS, .fn (.func 15) [] []] = some .unit := by
    have i108 : EVu (EV cfg) 108 [.nilS, .int .i64 0, .int .i64 0, .fn (.func 15) [] []] = some .unit := by
      apply Gets.get
      refine f108z_run ?_
      show Gets (wz108_0 1) _
      refine wz108_0_step _ ?_
      simp
    have w1 : Gets (wz98_1 20) (· = MV.unit) := by
      refine wz98_1_step _ ?_
      simp
    have i98 : EVu (EV cfg) 98 [.nilS, .int .i64 0, .fn (.func 15) [] []] = some .unit := by
      apply Gets.get
      refine f98z_run ?_
      show Gets (wz98_0 0 20) _
      refine wz98_0_step _ _ ?_
      have d : decide ((20 : Int) ≤ 0) = false := rfl
      rw [d, cond_false, i108, kOptSome, kMUnit_unit]
      exact w1
    apply Gets.get
    refine f69n_run ?_
    rw [i98]
    simp
  apply Gets.get
  refine f21n_run ?_
  simp [clone_nil, h98]
theorem sort_em : EVo (EV cfg) 21 [.em] = some (.own 4 [] 0 0) := by
  have h := stable_ev (l := []) (n := 0) rfl (by omega) trivial
  rw [sortT_nil, rowsT_nil] at h
  apply Gets.get
  refine f21e_run ?_
  simp [clone_em, h]
theorem sort_ev {t : Tm} {l : List Tm} (h : (t :: l).length < 1099511627776) (hok : OkL (t :: l)) : EVo (EV cfg) 21 [.sl (rowsT (t :: l))] = some (.own 4 (rowsT (sortT (t :: l))) 0 (t :: l).length) := by
  have hs := stable_ev (l := t :: l) rfl h hok
  have hc := clone_ev h
  apply Gets.get
  rw [rowsT_cons] at hc hs ⊢
  refine f21_run _ _ ?_
  simp only [List.length_cons] at hc hs ⊢
  simp [hc, hs]
end Go.Proofs.Ytpbfmaodnihpeaa
end

section
/-
  The terms of the examples; OrderCompares as the abstract evaluation has it. Own work.
  What is proved: contracts of the abstract evaluation; no condition.
-/
namespace Go.Proofs.Ytpbfmaodnihpeaa
set_option maxRecDepth 20000
open Go.Av

def numT (i : Int) : Tm := .mk 1 i [] []
def symT (s : List UInt8) : Tm := .mk 2 0 s []
def tupT (l : List Tm) : Tm := .mk 7 0 [] l
def noneT : Tm := .mk 8 0 [] []
def pairsT (l : List Tm) (e : Tm) : Tm := l.foldr (fun x acc => .mk 9 0 [] [x, acc]) e

theorem numT_av (i : Int) : (numT i).av = .agg [.int .i64 1, .int .i64 i, .str [], .sl []] := by rw [numT, Tm.av_mk, rowsT_nil]
theorem symT_av (s : List UInt8) : (symT s).av = .agg [.int .i64 2, .int .i64 0, .str s, .sl []] := by rw [symT, Tm.av_mk, rowsT_nil]
theorem noneT_av : noneT.av = .agg [.int .i64 8, .int .i64 0, .str [], .sl []] := by rw [noneT, Tm.av_mk, rowsT_nil]
theorem tupT_av (l : List Tm) : (tupT l).av = .agg [.int .i64 7, .int .i64 0, .str [], .sl (rowsT l)] := by rw [tupT, Tm.av_mk]

theorem num_ev (i : Int) : EVf (EV cfg) 38 [.int .i64 i] = some (numT i).av := by
  apply Gets.get
  refine f38_run _ ?_
  simp [numT_av]
theorem sym_ev (s : List UInt8) : EVf (EV cfg) 75 [.str s] = some (symT s).av := by
  apply Gets.get
  refine f75_run _ ?_
  simp [symT_av]
theorem none_ev : EVf (EV cfg) 74 [] = some noneT.av := by
  apply Gets.get
  refine f74_run ?_
  simp [noneT_av]
theorem tup_ev (l : List Tm) : EVf (EV cfg) 28 [.sl (rowsT l)] = some (tupT l).av := by
  apply Gets.get
  refine f28_run _ ?_
  simp [tupT_av]
theorem pairs_ev (l : List Tm) (hl : l.length < 1099511627776) (e : Tm) : EVf (EV cfg) 73 [.sl (rowsT l), e.av] = some (pairsT l e).av := by
  obtain ⟨k, n, s, le⟩ := e
  have loop : ∀ (i : Nat) (k2 n2 : Int) (s2 : List UInt8) (l2 : List Tm), i ≤ l.length → pairsT (l.drop i) (.mk k n s le) = .mk k2 n2 s2 l2 → Gets (w73_0 k2 n2 s2 (rowsT l2) (rowsT l) k n s (rowsT le) ((i : Int) - 1)) (· = (pairsT l (.mk k n s le)).av) := by
    intro i
    induction i with
    | zero =>
      intro k2 n2 s2 l2 _ h
      refine w73_0_step _ _ _ _ _ _ _ _ _ _ ?_
      rw [List.drop_zero] at h
      rw [h, Tm.av_mk]
      simp
    | succ i ih =>
      intro k2 n2 s2 l2 hi h
      refine w73_0_step _ _ _ _ _ _ _ _ _ _ ?_
      obtain ⟨x, hx⟩ : ∃ x, l[i]? = some x := ⟨_, List.getElem?_eq_getElem (by omega)⟩
      have h2 : pairsT (l.drop i) (.mk k n s le) = .mk 9 0 [] [x, .mk k2 n2 s2 l2] := by
        rw [drop_get hx, ← h]; rfl
      have := ih 9 0 [] _ (by omega) h2
      obtain ⟨kx, nx, sx, lx⟩ := x
      rw [show ((i + 1 : Nat) : Int) - 1 = (i : Int) by omega]
      simp only [get?Internal_eq, Int.toNat_natCast, rowsT_some hx, leInt_eq, ltInt_eq, rowsT_length]
      have e1 : IntKind.wrap .i64 ((i : Int) - 1) = (i : Int) - 1 := wrap64 (by omega) (by omega)
      simp only [rowsT_cons, rowsT_nil, Tm.cells_mk] at this
      simp [e1, show (i : Int) < (l.length : Int) by omega, show (0 : Int) ≤ (i : Int) by omega, show i < l.length by omega]
      exact this
  rw [Tm.av_mk]
  apply Gets.get
  refine f73_run _ _ _ _ _ ?_
  have := loop l.length k n s le (Nat.le_refl _) (by rw [List.drop_length]; rfl)
  rw [rowsT_length, wrap64 (by omega) (by omega)]
  exact this

theorem n_ev (i : Int) : EVf (EV cfg) 29 [.int .i64 i] = some (numT i).av := by
  apply Gets.get
  refine f29_run _ ?_
  rw [num_ev, numT_av]; simp
theorem s_ev (s : List UInt8) : EVf (EV cfg) 31 [.str s] = some (symT s).av := by
  apply Gets.get
  refine f31_run _ ?_
  rw [sym_ev, symT_av]; simp
theorem l_ev (l : List Tm) (hl : l.length < 1099511627776) : EVf (EV cfg) 30 [.sl (rowsT l)] = some (pairsT l noneT).av := by
  apply Gets.get
  refine f30_run _ ?_
  have := pairs_ev l hl noneT
  rw [noneT_av] at this
  rw [none_ev, noneT_av]
  cases h : pairsT l noneT with
  | mk k n s le =>
    rw [h, Tm.av_mk] at this
    rw [Tm.av_mk]
    simp [this]

theorem awake_ev : EVs (EV cfg) 18 [] = some (.bool true) := by
  apply Gets.get
  refine f18_run ?_
  have o1 : ∀ i, (numT i).Ok := fun i => by simp [numT, Tm.Ok, OkL]
  have c1 := compare_ev (o1 1) (show (symT [97]).Ok by simp [symT, Tm.Ok, OkL])
  have t9 := tup_ev [numT 9]
  have l1 := l_ev [numT 1] (by simp)
  have c2 := compare_ev (a := tupT [numT 9]) (b := pairsT [numT 1] noneT) (by simp [tupT, numT, Tm.Ok, OkL]) (by simp [pairsT, numT, noneT, Tm.Ok, OkL])
  have l2 := l_ev [numT 1, numT 2] (by simp)
  have c3 := compare_ev (a := pairsT [numT 1, numT 2] noneT) (b := pairsT [numT 1] noneT) (by simp [pairsT, numT, noneT, Tm.Ok, OkL]) (by simp [pairsT, numT, noneT, Tm.Ok, OkL])
  rw [show cmpT (numT 1) (symT [97]) = -1 by rfl] at c1
  rw [show cmpT (tupT [numT 9]) (pairsT [numT 1] noneT) = -1 by rfl] at c2
  rw [show cmpT (pairsT [numT 1, numT 2] noneT) (pairsT [numT 1] noneT) = 1 by rfl] at c3
  simp only [numT_av, symT_av, n_ev, s_ev] at *
  simp only [tupT, pairsT, numT, noneT, List.foldr, Tm.av_mk, rowsT_cons, rowsT_nil, Tm.cells_mk] at *
  simp [c1, c2, c3, t9, l1, l2]

theorem orderCompares_ev {a b : Tm} (ha : a.Ok) (hb : b.Ok) : EVs (EV cfg) 3 [a.av, b.av] = some (.bool true) := by
  have l1 := large_ev a ha 400
  have l2 := large_ev b hb 400
  have c1 := copyT_ev a ha
  have c2 := copyT_ev b hb
  have e1 := compare_ev ha hb
  have e2 := refCompare_ev a ha b hb
  have s1 := sameT_ev a ha a
  have s2 := sameT_ev b hb b
  obtain ⟨k, n, s, l⟩ := a
  obtain ⟨k', n', s', l'⟩ := b
  rw [Tm.av_mk] at *
  rw [Tm.av_mk] at *
  apply Gets.get
  refine f3_run _ _ _ _ _ _ _ _ ?_
  refine Gets.bind l1 ?_
  rintro _ ⟨b1, rfl⟩
  cases b1 with
  | true => simp
  | false =>
    simp
    refine Gets.bind l2 ?_
    rintro _ ⟨b2, rfl⟩
    cases b2 with
    | true => simp
    | false =>
      simp [c1, c2, e1, e2]
      refine Gets.bind s1 ?_
      rintro _ ⟨b3, rfl, h3⟩
      obtain rfl := h3.2 rfl
      simp
      refine Gets.bind s2 ?_
      rintro _ ⟨b4, rfl, h4⟩
      obtain rfl := h4.2 rfl
      simp [awake_ev]
end Go.Proofs.Ytpbfmaodnihpeaa
end

section
/-
  Lists of terms: copied, compared; Unique's comparison. Own work.
  What is proved: contracts of the abstract evaluation; no condition.
-/
namespace Go.Proofs.Ytpbfmaodnihpeaa
open Go.Av

theorem copyAll_ev {l : List Tm} (h : OkL l) (hlen : l.length < 1099511627776) : EVo (EV cfg) 20 [.sl (rowsT l)] = some (ownL l) := by
  have hc := copyL_ev h hlen
  apply Gets.get
  refine f20_run _ ?_
  rw [hc]
  cases l with
  | nil => simp [ownL]
  | cons x l => simp [ownL]

theorem sameAll_ev {la : List Tm} (h : OkL la) (hlen : la.length < 1099511627776) (lb : List Tm) : Gets (EVs (EV cfg) 23 [.sl (rowsT la), .sl (rowsT lb)]) (Tells (la = lb)) := by
  refine f23_run _ _ ?_
  refine Gets.bind (sameL_ev h hlen lb) ?_
  rintro _ ⟨b, rfl, hb⟩
  simp [tells_bool, hb]

theorem alike_ev {a b : Tm} (ha : a.Ok) (hb : b.Ok) : EVs (EV cfg) 72 [a.av, b.av] = some (.bool (decide (cmpT a b = 0))) := by
  have h := compare_ev ha hb
  obtain ⟨k, n, s, l⟩ := a
  obtain ⟨k', n', s', l'⟩ := b
  rw [Tm.av_mk, Tm.av_mk] at *
  apply Gets.get
  refine f72_run _ _ _ _ _ _ _ _ ?_
  simp [h, beqD]

theorem largeAll_ev {l : List Tm} (hok : OkL l) (hlen : l.length < 1099511627776) (most : Int) : Gets (EVs (EV cfg) 19 [.sl (rowsT l), .int .i64 most]) AV.IsBool := by
  have loop : ∀ (d i : Nat) (s : Int), i + d = l.length → Gets (wd19_0 (rowsT l) most s i) AV.IsBool := by
    intro d
    induction d with
    | zero =>
      intro i s hi
      refine wd19_0_step _ _ _ _ ?_
      have h1 : ¬ i < l.length := by omega
      simp [h1]
    | succ d ihd =>
      intro i s hi
      refine wd19_0_step _ _ _ _ ?_
      obtain ⟨x, hx⟩ : ∃ x, l[i]? = some x := ⟨_, List.getElem?_eq_getElem (by omega)⟩
      have hxo := hok.get (List.mem_of_getElem? hx)
      have hp := parts_ev x hxo most
      have hl := long_ev x hxo
      obtain ⟨k', n', s', l'⟩ := x
      rw [Tm.av_mk] at hp hl
      simp only [get?Internal_eq, Int.toNat_natCast, rowsT_some hx]
      simp [show i < l.length by omega]
      refine Gets.bind hp ?_
      rintro _ ⟨m, rfl⟩
      simp
      by_cases hm : most < IntKind.wrap .i64 (s + m)
      · simp [hm]
      · simp [hm]
        refine Gets.bind hl ?_
        rintro _ ⟨b, rfl⟩
        cases b with
        | true => simp
        | false =>
          simp
          rw [wrap_succ (n := l.length) (by omega) hlen]
          exact ihd (i + 1) _ (by omega)
  refine f19_run _ _ ?_
  exact loop l.length 0 0 (by omega)
end Go.Proofs.Ytpbfmaodnihpeaa
end

section
/-
  order.Find finds. Own work.
  What is proved: contracts of the abstract evaluation; no condition.
-/
namespace Go.Proofs.Ytpbfmaodnihpeaa
open Go.Av

/-- where a term stands in a list, or would -/
def findT (t : Tm) : List Tm → Nat × Bool
  | [] => (0, false)
  | x :: l => if 0 ≤ cmpT x t then (0, decide (cmpT x t = 0)) else ((findT t l).1 + 1, (findT t l).2)

theorem find_ev {l : List Tm} (hok : OkL l) (hlen : l.length < 1099511627776) {t : Tm} (ht : t.Ok) : EVs (EV cfg) 26 [.sl (rowsT l), t.av] = some (.tup [.int .i64 (findT t l).1, .bool (findT t l).2]) := by
  have loop : ∀ (d i : Nat), i + d = l.length → Gets (wd26_0 (rowsT l) t.kind t.num t.str (rowsT t.subs) i) (· = .tup [.int .i64 ((i + (findT t (l.drop i)).1 : Nat) : Int), .bool (findT t (l.drop i)).2]) := by
    intro d
    induction d with
    | zero =>
      intro i hi
      refine wd26_0_step _ _ _ _ _ _ ?_
      have h1 : ¬ i < l.length := by omega
      have h2 : i = l.length := by omega
      rw [dropNil (l := l) (by omega)]
      simp [h1, findT, h2]
    | succ d ihd =>
      intro i hi
      refine wd26_0_step _ _ _ _ _ _ ?_
      obtain ⟨x, hx⟩ : ∃ x, l[i]? = some x := ⟨_, List.getElem?_eq_getElem (by omega)⟩
      have hc := compare_ev (hok.get (List.mem_of_getElem? hx)) ht
      have hih := ihd (i + 1) (by omega)
      simp only [wd26_0, rowsT_length] at hih
      rw [drop_get hx, findT]
      obtain ⟨k', n', s', l'⟩ := x
      obtain ⟨k, n, s, lt⟩ := t
      rw [Tm.av_mk, Tm.av_mk] at hc
      simp only [get?Internal_eq, Int.toNat_natCast, rowsT_some hx, Tm.kind, Tm.num, Tm.str, Tm.subs] at hih ⊢
      simp [show i < l.length by omega, hc]
      by_cases h0 : 0 ≤ cmpT (.mk k' n' s' l') (.mk k n s lt)
      · simp [h0, beqD]
      · simp [h0]
        rw [wrap_succ (n := l.length) (by omega) hlen]
        refine hih.mono fun v hv => ?_
        rw [hv]
        simp
        omega
  obtain ⟨k, n, s, lt⟩ := t
  apply Gets.get
  rw [Tm.av_mk]
  refine f26_run _ _ _ _ _ ?_
  have := loop l.length 0 (by omega)
  simp only [List.drop_zero, Nat.zero_add] at this
  exact this

theorem clip_ev (rs : List (List AV)) (n : Nat) : EVm (EV cfg) 70 [.ms 0 0 n] 4 rs = some (.sl 0 n, rs) := by
  apply Gets.get
  refine f70_run _ _ _ ?_
  simp
theorem clip_nil : EVu (EV cfg) 70 [.nilS] = some .nil := Gets.get (f70n_run (by simp))

theorem refFind_ev {l : List Tm} (hok : OkL l) (hlen : l.length < 1099511627776) {t : Tm} (ht : t.Ok) : EVs (EV cfg) 27 [.sl (rowsT l), t.av] = some (.tup [.int .i64 (findT t l).1, .bool (findT t l).2]) := by
  have loop : ∀ (d i : Nat), i + d = l.length → Gets (wd27_0 (rowsT l) t.kind t.num t.str (rowsT t.subs) i) (· = .tup [.int .i64 ((i + (findT t (l.drop i)).1 : Nat) : Int), .bool (findT t (l.drop i)).2]) := by
    intro d
    induction d with
    | zero =>
      intro i hi
      refine wd27_0_step _ _ _ _ _ _ ?_
      have h1 : ¬ i < l.length := by omega
      rw [dropNil (l := l) (by omega)]
      simp [h1, findT]
    | succ d ihd =>
      intro i hi
      refine wd27_0_step _ _ _ _ _ _ ?_
      obtain ⟨x, hx⟩ : ∃ x, l[i]? = some x := ⟨_, List.getElem?_eq_getElem (by omega)⟩
      have hc := refCompare_ev x (hok.get (List.mem_of_getElem? hx)) t ht
      have hih := ihd (i + 1) (by omega)
      rw [drop_get hx, findT]
      obtain ⟨k', n', s', l'⟩ := x
      obtain ⟨k, n, s, lt⟩ := t
      rw [Tm.av_mk, Tm.av_mk] at hc
      simp only [get?Internal_eq, Int.toNat_natCast, rowsT_some hx, Tm.kind, Tm.num, Tm.str, Tm.subs] at hih ⊢
      simp [show i < l.length by omega, hc]
      by_cases h0 : 0 ≤ cmpT (.mk k' n' s' l') (.mk k n s lt)
      · have h1 : ¬ cmpT (.mk k' n' s' l') (.mk k n s lt) < 0 := by omega
        simp [h0, h1, beqD]
      · have h1 : cmpT (.mk k' n' s' l') (.mk k n s lt) < 0 := by omega
        simp [h0, h1]
        rw [wrap_succ (n := l.length) (by omega) hlen]
        refine hih.mono fun v hv => ?_
        rw [hv]
        simp
        omega
  obtain ⟨k, n, s, lt⟩ := t
  apply Gets.get
  rw [Tm.av_mk]
  refine f27_run _ _ _ _ _ ?_
  have := loop l.length 0 (by omega)
  simp only [List.drop_zero, Nat.zero_add] at this
  exact this
end Go.Proofs.Ytpbfmaodnihpeaa
end

section
/-
  Terms kept whole while an evaluation is simplified. Own work.
  What is proved: rules for the simplifier; no condition.
-/
namespace Go.Av
@[simp] theorem Tm.kind_mk (k n : Int) (s : List UInt8) (l : List Tm) : (Tm.mk k n s l).kind = k := rfl
@[simp] theorem Tm.num_mk (k n : Int) (s : List UInt8) (l : List Tm) : (Tm.mk k n s l).num = n := rfl
@[simp] theorem Tm.str_mk (k n : Int) (s : List UInt8) (l : List Tm) : (Tm.mk k n s l).str = s := rfl
@[simp] theorem Tm.subs_mk (k n : Int) (s : List UInt8) (l : List Tm) : (Tm.mk k n s l).subs = l := rfl
@[simp] theorem Tm.eta (t : Tm) : Tm.mk t.kind t.num t.str t.subs = t := by cases t; rfl
theorem Tm.cells_eq (t : Tm) : t.cells = [.int .i64 t.kind, .int .i64 t.num, .str t.str, .sl (rowsT t.subs)] := by cases t; rw [Tm.cells_mk]; rfl
@[simp] theorem cells_fold (k n : Int) (s : List UInt8) (l : List Tm) : [AV.int .i64 k, AV.int .i64 n, AV.str s, AV.sl (rowsT l)] = (Tm.mk k n s l).cells := (Tm.cells_mk k n s l).symm
@[simp] theorem cells_fold0 (k n : Int) (s : List UInt8) : [AV.int .i64 k, AV.int .i64 n, AV.str s, AV.sl []] = (Tm.mk k n s []).cells := by rw [Tm.cells_mk, rowsT_nil]
@[simp] theorem agg_cells (t : Tm) : AV.agg t.cells = t.av := rfl
@[simp] theorem rowsT_one (t : Tm) : [t.cells] = rowsT [t] := by rw [rowsT_cons, rowsT_nil]
@[simp] theorem rowsT_cons' (t : Tm) (l : List Tm) : t.cells :: rowsT l = rowsT (t :: l) := (rowsT_cons t l).symm
@[simp] theorem rowsT_append' (a b : List Tm) : rowsT a ++ rowsT b = rowsT (a ++ b) := (rowsT_append a b).symm
@[simp] theorem rowsT_app (a b : List Tm) : List.append (rowsT a) (rowsT b) = rowsT (a ++ b) := (rowsT_append a b).symm
@[simp] theorem rowsT_take' (n : Nat) (a : List Tm) : (rowsT a).take n = rowsT (a.take n) := rowsT_take n a
@[simp] theorem rowsT_drop' (n : Nat) (a : List Tm) : (rowsT a).drop n = rowsT (a.drop n) := rowsT_drop n a
@[simp] theorem rowsT_set' (l : List Tm) (i : Nat) (t : Tm) : (rowsT l).set i t.cells = rowsT (l.set i t) := rowsT_set l i t
@[simp] theorem rowsT_get' (l : List Tm) (i : Nat) : (rowsT l)[i]? = (l[i]?).map Tm.cells := rowsT_get l i
@[simp] theorem rowsT_getElem (l : List Tm) (i : Nat) (h : i < (rowsT l).length) : (rowsT l)[i] = (l[i]'(by simpa using h)).cells := by
  have h1 := rowsT_get l i
  rw [List.getElem?_eq_getElem h, List.getElem?_eq_getElem (by simpa using h)] at h1
  exact Option.some.inj h1
@[simp] theorem kOpt_map {α β γ : Type} (o : Option β) (g : β → γ) (k : γ → Option α) : kOpt (o.map g) k = kOpt o fun x => k (g x) := by cases o <;> rfl
@[simp] theorem length_cells (t : Tm) : t.cells.length = 4 := by rw [Tm.cells_eq]; rfl
@[simp] theorem take_cells (t : Tm) : t.cells.take 4 = t.cells := by rw [Tm.cells_eq]; rfl
@[simp] theorem drop_cells (t : Tm) : t.cells.drop 4 = [] := by rw [Tm.cells_eq]; rfl
@[simp] theorem cells_0 (t : Tm) : t.cells[0]? = some (.int .i64 t.kind) := by rw [Tm.cells_eq]; rfl
@[simp] theorem cells_1 (t : Tm) : t.cells[1]? = some (.int .i64 t.num) := by rw [Tm.cells_eq]; rfl
@[simp] theorem cells_2 (t : Tm) : t.cells[2]? = some (.str t.str) := by rw [Tm.cells_eq]; rfl
@[simp] theorem cells_3 (t : Tm) : t.cells[3]? = some (.sl (rowsT t.subs)) := by rw [Tm.cells_eq]; rfl
@[simp] theorem refs_cells (n : Nat) (t : Tm) : refsLtL n t.cells = true := by rw [Tm.cells_eq]; rfl
@[simp] theorem allCells_cells (t : Tm) : allCells t.cells = true := by rw [Tm.cells_eq]; rfl
@[simp] theorem rowsT_free' (l : List Tm) : refsLtR 0 (rowsT l) = true := rowsT_free l
@[simp] theorem rowsOk_rowsT (l : List Tm) : rowsOk 4 (rowsT l) = true := by
  cases l with
  | nil => rw [rowsT_nil]; rfl
  | cons t l => rw [rowsT_cons, rowsOk, length_cells]; rfl
@[simp] theorem kTmC_cells {α : Type} (t : Tm) (k : Int → Int → List UInt8 → List (List AV) → Option α) : kTmC t.cells k = k t.kind t.num t.str (rowsT t.subs) := by rw [Tm.cells_eq]; rfl
@[simp] theorem kTmV_av {α : Type} (t : Tm) (k : Int → Int → List UInt8 → List (List AV) → Option α) : kTmV t.av k = k t.kind t.num t.str (rowsT t.subs) := by rw [Tm.av, Tm.cells_eq]; rfl

/-! ### from the end back -/
theorem upTo {n : Nat} {Q : Nat → Prop} (h0 : Q n) (hs : ∀ i, i < n → Q (i + 1) → Q i) : ∀ i, i ≤ n → Q i := by
  have : ∀ d i, i + d = n → Q i := by
    intro d
    induction d with
    | zero => intro i hi; have : i = n := by omega
              subst this; exact h0
    | succ d ih => intro i hi; exact hs i (by omega) (ih (i + 1) (by omega))
  intro i hi
  exact this (n - i) i (by omega)
/-- .. where the number stands as Go's, too -/
theorem upTo2 {n : Nat} {Q : Nat → Int → Prop} (h0 : Q n n) (hs : ∀ i : Nat, i < n → Q (i + 1) ((i : Int) + 1) → Q i i) : ∀ i : Nat, i ≤ n → Q i i :=
  upTo (Q := fun i => Q i i) h0 hs
theorem wrap_s {i n : Nat} (h : i < n) (hn : n < 1099511627776) : IntKind.wrap .i64 ((i : Int) + 1) = (i : Int) + 1 := wrap64 (by omega) (by omega)
theorem wrap_p {i n : Nat} (h : i < n) (hn : n < 1099511627776) : IntKind.wrap .i64 ((i : Int) - 1) = (i : Int) - 1 := wrap64 (by omega) (by omega)
@[simp] theorem cast_nn (q : Nat) : (0 ≤ (q : Int) + 1) = True := eq_true (by omega)
@[simp] theorem cast_le1 (q n : Nat) : ((q : Int) + 1 ≤ (n : Int)) = (q + 1 ≤ n) := propext (by omega)
@[simp] theorem cast_lt1 (q n : Nat) : ((q : Int) + 1 < (n : Int)) = (q + 1 < n) := propext (by omega)
@[simp] theorem cast_nn' (q : Nat) : (0 < (q : Int) + 1) = True := eq_true (by omega)
@[simp] theorem cast_ne0 (q : Nat) : ((q : Int) + 1 == 0) = false := by rw [beqD]; exact decide_eq_false (by omega)
@[simp] theorem cast_lt_s (q : Nat) : ((q : Int) < (q : Int) + 1) = True := eq_true (by omega)
@[simp] theorem cast_le_s (q : Nat) : ((q : Int) ≤ (q : Int) + 1) = True := eq_true (by omega)
theorem wrapN {n : Nat} (hn : n < 4398046511104) : IntKind.wrap .i64 (n : Int) = n := wrap64 (by omega) (by omega)
end Go.Av
end

section
/-
  The document's Sort and Unique. Own work.
  What is proved: contracts of the abstract evaluation; no condition.
-/
namespace Go.Proofs.Ytpbfmaodnihpeaa
open Go.Av

theorem refSort_stay {S l : List Tm} {y : Tm} {i p : Nat} (hok : OkL S) (hyo : y.Ok) (hil : i < l.length) (hy : l[i] = y) (hl : l.length < 1099511627776) (hn : S.length ≤ i) (hp : p ≤ S.length)
    (hle : ∀ q x, p = q + 1 → S[q]? = some x → cmpT x y ≤ 0) {P : AV → Prop} (h : Gets (we24_0m (rowsT (S.take p ++ y :: S.drop p)) (S.length + 1) (rowsT l) ((i : Int) + 1)) P) :
    Gets (we24_1m (rowsT S) S.length (rowsT l) i p) P := by
  have hw : IntKind.wrap .i64 ((i : Int) + 1) = (i : Int) + 1 := wrap_s hil hl
  have e1 : min p S.length = p := by omega
  have e2 : p + 1 + (S.length - p) = S.length + 1 := by omega
  have e3 : p + (S.length - p) = S.length := by omega
  have f1 : fitsIn p 56 = true := fits56 (by omega)
  have f2 : fitsIn (p + 1) 56 = true := fits56 (by omega)
  have f3 : fitsIn (S.length + 1) 56 = true := fits56 (by omega)
  have e4 : List.take p (List.take p S) = List.take p S := by rw [List.take_take, Nat.min_self]
  have e5 : List.take (p + 1) (List.take p S ++ [y]) = List.take p S ++ [y] := List.take_of_length_le (by simp; omega)
  have e6 : List.take (S.length - p) (List.drop p S) = List.drop p S := List.take_of_length_le (by simp)
  refine we24_1m_step _ _ _ _ _ ?_
  cases p with
  | zero =>
    simp at h
    simp [hil, hy, hw, fits56 (n := 0) (by omega), fits56 (n := 1) (by omega), f3, Nat.add_comm 1 S.length]
    exact h
  | succ q =>
    have hx : S[q]? = some S[q] := List.getElem?_eq_getElem (by omega)
    have hxy := hle q S[q] rfl hx
    have hc := refCompare_ev S[q] (hok.get (by simp)) y hyo
    have hw2 : IntKind.wrap .i64 (q : Int) = (q : Int) := wrapN (by omega)
    have hlt : ¬ 0 < cmpT S[q] y := by omega
    have hq : q < S.length := by omega
    simp [hil, hy, hw, hw2, hc, hlt, hq, hp, e1, e2, e3, f1, f2, f3, e4, e5, e6]
    exact h

theorem refSort_go {S l : List Tm} {y : Tm} {i q : Nat} (hok : OkL S) (hyo : y.Ok) (hil : i < l.length) (hy : l[i] = y) (hl : l.length < 1099511627776) (hn : S.length ≤ i) (hq : q < S.length)
    (hgt : 0 < cmpT S[q] y) {P : AV → Prop} (h : Gets (we24_1m (rowsT S) S.length (rowsT l) i q) P) :
    Gets (we24_1m (rowsT S) S.length (rowsT l) i ((q + 1 : Nat) : Int)) P := by
  have hc := refCompare_ev S[q] (hok.get (by simp)) y hyo
  have hw2 : IntKind.wrap .i64 (q : Int) = (q : Int) := wrapN (by omega)
  refine we24_1m_step _ _ _ _ _ ?_
  simp [hil, hy, hw2, hc, hgt, hq]
  exact h

theorem refSort_inner {S l : List Tm} {y : Tm} {i : Nat} (hs : SortedT S) (hok : OkL S) (hyo : y.Ok) (hil : i < l.length) (hy : l[i] = y) (hl : l.length < 1099511627776) (hn : S.length ≤ i) {P : AV → Prop}
    (h : Gets (we24_0m (rowsT (mrg S [y])) (S.length + 1) (rowsT l) ((i : Int) + 1)) P) : Gets (we24_1m (rowsT S) S.length (rowsT l) i S.length) P := by
  obtain ⟨X, U, rfl, hX, hU⟩ := split_le (y := y) hs
  have hX' : ∀ x ∈ X, cmpT x y ≤ 0 := fun x hx => by have := hX x hx; have := cmpT_neg x y; omega
  have hU' : ∀ u ∈ U, 0 < cmpT u y := fun u hu => by have := hU u hu; have := cmpT_neg u y; omega
  rw [mrg_one hX' hU'] at h
  have base : Gets (we24_1m (rowsT (X ++ U)) (X ++ U).length (rowsT l) i (X.length : Nat)) P := by
    refine refSort_stay hok hyo hil hy hl hn (by simp) (fun q x hq hx => ?_) ?_
    · have : q < X.length := by omega
      rw [List.getElem?_append_left this] at hx
      exact hX' x (List.mem_of_getElem? hx)
    · simpa using h
  have go : ∀ d, d ≤ U.length → Gets (we24_1m (rowsT (X ++ U)) (X ++ U).length (rowsT l) i ((X.length + d : Nat) : Int)) P := by
    intro d
    induction d with
    | zero => intro _; exact base
    | succ d ih =>
      intro hd
      refine refSort_go (q := X.length + d) hok hyo hil hy hl hn (by simp; omega) ?_ (ih (by omega))
      have : (X ++ U)[X.length + d]'(by simp; omega) = U[d] := by simp
      rw [this]
      exact hU' _ (by simp)
  have := go U.length (Nat.le_refl _)
  simpa using this

theorem refSort_ev {l : List Tm} (hok : OkL l) (hl : l.length < 1099511627776) : EVf (EV cfg) 24 [.sl (rowsT l)] = some (.sl (rowsT (sortT l))) := by
  have okt : ∀ i, OkL (sortT (l.take i)) := fun i => OkL_iff.2 fun t ht => hok.get (List.mem_of_mem_take (mem_sortT.1 ht))
  have st : ∀ i (hi : i < l.length), mrg (sortT (l.take i)) [l[i]] = sortT (l.take (i + 1)) := fun i hi => by
    rw [← sortT_snoc, List.take_add_one, List.getElem?_eq_getElem hi]; rfl
  have loop : ∀ i, i ≤ l.length → 0 < i → Gets (we24_0m (rowsT (sortT (l.take i))) i (rowsT l) i) (· = .sl (rowsT (sortT l))) := by
    refine upTo (fun _ => ?_) fun i hi ih h0 => ?_
    · refine we24_0m_step _ _ _ _ ?_
      have e1 : (sortT l).length = l.length := sortT_length l
      have e2 : List.take l.length (sortT l) = sortT l := List.take_of_length_le (by omega)
      simp [e1, e2]
    · have hlen : (sortT (l.take i)).length = i := by rw [sortT_length]; simp; omega
      refine we24_0m_step _ _ _ _ ?_
      have := refSort_inner (S := sortT (l.take i)) (l := l) (y := l[i]) (i := i) (sortT_sorted _) (okt i) (hok.get (by simp)) hi rfl hl (by omega) (P := (· = .sl (rowsT (sortT l)))) (by
        rw [st i hi, hlen]
        have := ih (by omega)
        simpa using this)
      rw [hlen] at this
      simp [hi]
      exact this
  apply Gets.get
  refine f24e_run _ ?_
  refine we24_0_step _ _ ?_
  cases l with
  | nil => simp [sortT_nil]
  | cons x l =>
    simp
    refine we24_1_step _ _ _ ?_
    have h1 := loop 1 (by simp) (by omega)
    have h2 : IntKind.wrap .i64 1 = 1 := wrap64 (by omega) (by omega)
    simp [sortT_one, fits56 (n := 1) (by omega), h2] at h1 ⊢
    exact h1

/-! ### Unique -/
/-- of a list behind a term, those that are not like the one ahead of them -/
def uniqG : Tm → List Tm → List Tm
  | _, [] => []
  | p, y :: l => if cmpT p y = 0 then uniqG y l else y :: uniqG y l
def uniqT : List Tm → List Tm
  | [] => []
  | x :: l => x :: uniqG x l

theorem uniqG_snoc {y z : Tm} : ∀ {l : List Tm} {p : Tm}, uniqG p (l ++ [y, z]) = uniqG p (l ++ [y]) ++ (if cmpT y z = 0 then [] else [z])
  | [], p => by
    simp only [List.nil_append, uniqG]
    by_cases h1 : cmpT p y = 0 <;> by_cases h2 : cmpT y z = 0 <;> simp [h1, h2]
  | x :: l, p => by
    simp only [List.cons_append, uniqG]
    rw [uniqG_snoc (l := l)]
    by_cases h1 : cmpT p x = 0 <;> simp [h1]
theorem uniqG_len : ∀ (l : List Tm) (p : Tm), (uniqG p l).length ≤ l.length
  | [], _ => by simp [uniqG]
  | x :: l, p => by
    have := uniqG_len l x
    rw [uniqG]
    split
    · simp; omega
    · simp; omega
theorem uniqT_len (l : List Tm) : (uniqT l).length ≤ l.length := by
  cases l with
  | nil => simp [uniqT]
  | cons x l => have := uniqG_len l x; simp [uniqT]; omega
theorem uniqG_mem {t : Tm} : ∀ {l : List Tm} {p : Tm}, t ∈ uniqG p l → t ∈ l
  | [], _, h => by simp [uniqG] at h
  | x :: l, p, h => by
    rw [uniqG] at h
    split at h
    · exact List.mem_cons_of_mem _ (uniqG_mem h)
    · rcases List.mem_cons.1 h with rfl | h
      · simp
      · exact List.mem_cons_of_mem _ (uniqG_mem h)
theorem uniqT_mem {t : Tm} {l : List Tm} (h : t ∈ uniqT l) : t ∈ l := by
  cases l with
  | nil => simp [uniqT] at h
  | cons x l =>
    rcases List.mem_cons.1 h with rfl | h
    · simp
    · exact List.mem_cons_of_mem _ (uniqG_mem h)
theorem uniqT_step {l : List Tm} {i : Nat} (h0 : 0 < i) (hi : i < l.length) : uniqT (l.take (i + 1)) = uniqT (l.take i) ++ (if cmpT (l[i - 1]'(by omega)) l[i] = 0 then [] else [l[i]]) := by
  obtain ⟨k, rfl⟩ : ∃ k, i = k + 1 := ⟨i - 1, by omega⟩
  have e1 : l.take (k + 1 + 1) = l.take k ++ [l[k], l[k + 1]] := by
    rw [List.take_add_one, List.take_add_one, List.getElem?_eq_getElem (by omega), List.getElem?_eq_getElem (by omega)]
    show (List.take k l ++ [l[k]]) ++ [l[k + 1]] = _
    rw [List.append_assoc]; rfl
  have e2 : l.take (k + 1) = l.take k ++ [l[k]] := by
    rw [List.take_add_one, List.getElem?_eq_getElem (by omega)]; rfl
  rw [e1, e2]
  cases h : l.take k with
  | nil =>
    simp only [List.nil_append, uniqT, uniqG, Nat.add_sub_cancel]
    by_cases hc : cmpT l[k] l[k + 1] = 0 <;> simp [hc]
  | cons x m =>
    simp only [List.cons_append, uniqT, Nat.add_sub_cancel]
    rw [uniqG_snoc]

theorem refUnique_ev {l : List Tm} (hok : OkL l) (hl : l.length < 1099511627776) : EVf (EV cfg) 25 [.sl (rowsT l)] = some (.sl (rowsT (uniqT (sortT l)))) := by
  have okS : OkL (sortT l) := OkL_iff.2 fun t ht => hok.get (mem_sortT.1 ht)
  have hlen : (sortT l).length = l.length := sortT_length l
  have hsort := refSort_ev hok hl
  revert okS hlen hsort
  generalize sortT l = S
  intro okS hlen hsort
  have loop : ∀ i, i ≤ S.length → 0 < i → Gets (we25_0m (rowsT S) (rowsT (uniqT (S.take i))) (uniqT (S.take i)).length i) (· = .sl (rowsT (uniqT S))) := by
    refine upTo (fun _ => ?_) fun i hi ih h0 => ?_
    · refine we25_0m_step _ _ _ _ ?_
      simp
    · have hw := wrap_s (i := i) (n := S.length) hi (by omega)
      obtain ⟨k, rfl⟩ : ∃ k, i = k + 1 := ⟨i - 1, by omega⟩
      have hw2 : IntKind.wrap .i64 (k : Int) = k := wrapN (by omega)
      have hc := refCompare_ev S[k] (okS.get (by simp)) S[k + 1] (okS.get (by simp))
      have hst := uniqT_step (l := S) (i := k + 1) (by omega) hi
      have hle : (uniqT (S.take (k + 1))).length ≤ 1099511627775 := by have := uniqT_len (S.take (k + 1)); simp at this; omega
      have ih := ih (by omega)
      rw [hst] at ih
      refine we25_0m_step _ _ _ _ ?_
      simp at hw ih
      by_cases h0 : cmpT S[k] S[k + 1] = 0
      · simp [h0] at ih hc
        simp [hi, show k < S.length by omega, hw, hw2, hc]
        exact ih
      · simp [h0] at ih
        simp [hi, show k < S.length by omega, hw, hw2, hc, h0, bneD, fits56 (n := (uniqT (S.take (k + 1))).length + 1) (by omega)]
        exact ih
  apply Gets.get
  refine f25e_run _ ?_
  simp [hsort]
  refine we25_0_step _ _ ?_
  cases S with
  | nil => simp [uniqT]
  | cons x S =>
    have h1 := loop 1 (by simp) (by omega)
    have h2 : IntKind.wrap .i64 1 = 1 := wrap64 (by omega) (by omega)
    simp [uniqT, uniqG, fits56 (n := 1) (by omega), h2] at h1 ⊢
    exact h1
end Go.Proofs.Ytpbfmaodnihpeaa
end

section
/-
  order.Unique leaves out those that are alike. Own work.
  What is proved: contracts of the abstract evaluation; no condition.
-/
namespace Go.Proofs.Ytpbfmaodnihpeaa
open Go.Av

theorem cmpT_zero (a b : Tm) : cmpT a b = 0 ↔ cmpT b a = 0 := by have := cmpT_neg a b; omega

/-- rows of terms, and some that nobody reads -/
def Tops (n : Nat) (l : List Tm) (r : MV × List (List AV)) : Prop := ∃ Z : List (List AV), r = (.sl 0 l.length, rowsT l ++ Z) ∧ (rowsT l ++ Z).length = n ∧ refsLtR 0 Z = true

theorem compact_inner {S : List Tm} {n k0 : Nat} (hn : n = S.length) (hl : n < 1099511627776) (hok : OkL S) (hk0 : k0 < n) : ∀ m, m ≤ n → k0 + 1 ≤ m → ∀ (R : List Tm) (k : Nat), R.length = n → k < m →
    R.take k = uniqT (S.take m) → R.drop (m - 1) = S.drop (m - 1) → Gets (we71_1 (rowsT R) k0 (n - k0) 0 n k ((m - k0 : Nat) : Int)) (Tops n (uniqT S)) := by
  refine upTo (fun _ => ?_) fun m hm ih h0 => ?_
  · intro R k hR hk h1 h2
    have h3 : S.take n = S := List.take_of_length_le (by omega)
    rw [h3] at h1
    have hkl : k = (uniqT S).length := by rw [← h1]; simp; omega
    refine we71_1_step _ _ _ _ _ _ _ ?_
    have e1 : k + (n - k) = n := by omega
    have e2 : k ≤ n := by omega
    simp [e1, e2, hR]
    refine ⟨List.replicate (n - k) [.int .i64 0, .int .i64 0, .str [], .nilS], ?_, ?_, ?_⟩
    · rw [h1, hkl]
      have e3 : List.drop n R = [] := List.drop_of_length_le (by omega)
      simp [e3]
    · simp [← hkl]; omega
    · induction (n - k) with
      | zero => rfl
      | succ j ihj => rw [List.replicate_succ, refsLtR, ihj]; rfl
  · intro R k hR hk h1 h2
    obtain ⟨j, rfl⟩ : ∃ j, m = k0 + (j + 1) := ⟨m - k0 - 1, by omega⟩
    have hg : ∀ q (hq : q < n), k0 + j ≤ q → R[q]'(by omega) = S[q]'(by omega) := by
      intro q hq hle
      have e : (R.drop (k0 + (j + 1) - 1))[q - (k0 + j)]? = (S.drop (k0 + (j + 1) - 1))[q - (k0 + j)]? := by rw [h2]
      rw [List.getElem?_drop, List.getElem?_drop, show k0 + (j + 1) - 1 + (q - (k0 + j)) = q by omega, List.getElem?_eq_getElem (by omega), List.getElem?_eq_getElem (by omega)] at e
      exact Option.some.inj e
    have g1 := hg (k0 + (j + 1)) (by omega) (by omega)
    have g2 := hg (k0 + j) (by omega) (by omega)
    have hR2 : ∀ q (hq : q < n), (R[q]'(by omega)) = R[q]'(by omega) := fun _ _ => rfl
    have hc := alike_ev (hok.get (l := S) (t := S[k0 + (j + 1)]'(by omega)) (by simp)) (hok.get (l := S) (t := S[k0 + j]'(by omega)) (by simp))
    have hw : IntKind.wrap .i64 (j : Int) = j := wrapN (by omega)
    have hw2 : IntKind.wrap .i64 ((j : Int) + 1 + 1) = (j : Int) + 1 + 1 := wrap64 (by omega) (by omega)
    have hw3 : IntKind.wrap .i64 ((k : Int) + 1) = (k : Int) + 1 := wrap64 (by omega) (by omega)
    have hst := uniqT_step (l := S) (i := k0 + (j + 1)) (by omega) (by omega)
    simp only [show k0 + (j + 1) - 1 = k0 + j by omega] at hst h2
    have i1 : j + 1 < n - k0 := by omega
    have i2 : j < n - k0 := by omega
    have i3 : k0 + (j + 1) < R.length := by omega
    have i4 : k0 + j < R.length := by omega
    have i5 : k < n := by omega
    have i6 : k < R.length := by omega
    have e0 : k0 + (j + 1) - k0 = j + 1 := by omega
    have e9 : k0 + (j + 1) + 1 - k0 = j + 1 + 1 := by omega
    rw [e0]
    rw [e9] at ih
    refine we71_1_step _ _ _ _ _ _ _ ?_
    by_cases hz : cmpT (S[k0 + j]'(by omega)) (S[k0 + (j + 1)]'(by omega)) = 0
    · have hz' := (cmpT_zero _ _).1 hz
      rw [if_pos hz, List.append_nil] at hst
      have := ih (by omega) R k hR (by omega) (by rw [h1, hst]) (by
        show List.drop (k0 + (j + 1)) R = List.drop (k0 + (j + 1)) S
        have := congrArg (List.drop 1) h2
        simpa [List.drop_drop, Nat.add_assoc] using this)
      simp [hw, hw2, i1, i2, i3, i4, i5, i6, g1, g2, hc, hz']
      simpa using this
    · have hz' : ¬ cmpT (S[k0 + (j + 1)]'(by omega)) (S[k0 + j]'(by omega)) = 0 := fun h => hz ((cmpT_zero _ _).1 h)
      rw [if_neg hz] at hst
      have := ih (by omega) (R.set k (S[k0 + (j + 1)]'(by omega))) (k + 1) (by simp [hR]) (by omega) (by
        rw [hst, ← h1, List.take_add_one, List.getElem?_set_self i6, List.take_set_of_le (by omega)]; rfl) (by
        show List.drop (k0 + (j + 1)) (R.set k _) = List.drop (k0 + (j + 1)) S
        rw [List.drop_set_of_lt (by omega)]
        have := congrArg (List.drop 1) h2
        simpa [List.drop_drop, Nat.add_assoc] using this)
      simp [hw, hw2, hw3, i1, i2, i3, i4, i5, i6, g1, g2, hc, hz']
      simpa using this

theorem compact_ev {S : List Tm} {n : Nat} (hn : n = S.length) (hl : n < 1099511627776) (hok : OkL S) : Gets (EVm (EV cfg) 71 [.ms 0 0 n, .fn (.func 72) [] []] 4 (rowsT S)) (Tops n (uniqT S)) := by
  have fin : uniqT S = S → Tops n (uniqT S) (MV.sl 0 n, rowsT S) := fun h => ⟨[], by rw [h, hn]; simp, by rw [h, hn]; simp, rfl⟩
  have loop : ∀ k, k ≤ n → 0 < k → uniqT (S.take k) = S.take k → Gets (we71_0 (rowsT S) 0 n k) (Tops n (uniqT S)) := by
    refine upTo (fun _ h => ?_) fun k hk ih h0 hu => ?_
    · rw [List.take_of_length_le (by omega)] at h
      refine we71_0_step _ _ _ _ ?_
      simpa using fin h
    · obtain ⟨j, rfl⟩ : ∃ j, k = j + 1 := ⟨k - 1, by omega⟩
      have hc := alike_ev (hok.get (l := S) (t := S[j + 1]'(by omega)) (by simp)) (hok.get (l := S) (t := S[j]'(by omega)) (by simp))
      have hw : IntKind.wrap .i64 (j : Int) = j := wrapN (by omega)
      have hw2 : IntKind.wrap .i64 ((j : Int) + 1 + 1) = (j : Int) + 1 + 1 := wrap64 (by omega) (by omega)
      have hst := uniqT_step (l := S) (i := j + 1) (by omega) (by omega)
      have i1 : j + 1 < n := hk
      have i2 : j < n := by omega
      have i3 : j + 1 < S.length := by omega
      have i4 : j < S.length := by omega
      have i5 : j + 1 ≤ n := by omega
      simp only [Nat.add_sub_cancel] at hst
      refine we71_0_step _ _ _ _ ?_
      by_cases hz : cmpT (S[j]'(by omega)) (S[j + 1]'(by omega)) = 0
      · have hz' := (cmpT_zero _ _).1 hz
        rw [if_pos hz, List.append_nil] at hst
        have := compact_inner hn hl hok (k0 := j + 1) (by omega) (j + 1 + 1) (by omega) (by omega) S (j + 1) hn.symm (by omega) (by rw [hst, hu]) rfl
        rw [show j + 1 + 1 - (j + 1) = 1 by omega] at this
        simp [hw, hw2, i1, i2, i3, i4, i5, hc, hz']
        simpa using this
      · have hz' : ¬ cmpT (S[j + 1]'(by omega)) (S[j]'(by omega)) = 0 := fun h => hz ((cmpT_zero _ _).1 h)
        rw [if_neg hz] at hst
        have := ih (by omega) (by rw [hst, hu, List.take_add_one (i := j + 1), List.getElem?_eq_getElem i3]; rfl)
        simp [hw, hw2, i1, i2, i3, i4, i5, hc, hz']
        simpa using this
  refine f71e_run _ _ _ ?_
  by_cases h2 : n < 2
  · have : uniqT S = S := by
      match S, hn with
      | [], _ => rfl
      | [x], _ => rfl
      | x :: y :: l, hn => simp at hn; omega
    simp [show (n : Int) < 2 by omega]
    exact fin this
  · simp [show ¬ (n : Int) < 2 by omega]
    refine loop 1 (by omega) (by omega) ?_
    match S, hn with
    | [], hn => simp at hn; omega
    | x :: l, _ => rfl

theorem unique_nil : EVo (EV cfg) 22 [.nilS] = some .nil := by
  have h71 : EVu (EV cfg) 71 [.nilS, .fn (.func 72) [] []] = some .nil := Gets.get (f71n_run (by simp))
  apply Gets.get
  refine f22n_run ?_
  simp [sort_nil, h71, clip_nil]
/-- an own block whose first rows are these terms -/
def OwnTops (n : Nat) (l : List Tm) (o : OV) : Prop := ∃ Z : List (List AV), o = .own 4 (rowsT l ++ Z) 0 l.length ∧ (rowsT l ++ Z).length = n ∧ refsLtR 0 Z = true
theorem unique_of {S : List Tm} (hl : S.length < 1099511627776) (hok : OkL S) {a : AV} (h : EVo (EV cfg) 21 [a] = some (.own 4 (rowsT S) 0 S.length)) {P : OV → Prop} (hp : ∀ o, OwnTops S.length (uniqT S) o → P o)
    (hrun : Gets (kOpt (EVo (EV cfg) 21 [a]) fun (o : OV) => kOwn o (kOpt (EVu (EV cfg) 71 [.nilS, AV.fn (Fn.func 72) [] []]) fun (v : MV) => kMSl v (kOpt (EVu (EV cfg) 70 [.nilS]) fun (v : MV) => 
      kMSl v (some OV.nil) fun (off len : Nat) => none) fun (off len : Nat) => none) fun (sz : Nat) (rs : List (List AV)) (off len : Nat) => kOpt (EVm (EV cfg) 71 [.ms 0 off len, AV.fn (Fn.func 
      72) [] []] sz rs) fun (q : MV × List (List AV)) => kMSl q.1 (kOpt (EVu (EV cfg) 70 [.nilS]) fun (v : MV) => kMSl v (some OV.nil) fun (off len : Nat) => some (OV.own sz q.2 off len)) 
      fun (off len : Nat) => kOpt (EVm (EV cfg) 70 [.ms 0 off len] sz q.2) fun (q : MV × List (List AV)) => kMSl q.1 (some OV.nil) fun (off len : Nat) => some (OV.own sz q.2 off len)) P → Gets (EVo (EV cfg) 22 [a]) P) : Gets (EVo (EV cfg) 22 [a]) P := by
  refine hrun ?_
  rw [h]
  simp only [kOptSome, kOwn_own]
  refine Gets.bind (compact_ev rfl hl hok) ?_
  rintro _ ⟨Z, rfl, h1, h2⟩
  simp only [kMSl_sl, clip_ev, kOptSome, gets_some]
  exact hp _ ⟨Z, rfl, h1, h2⟩
theorem sortT_ok {l : List Tm} (h : OkL l) : OkL (sortT l) := OkL_iff.2 fun t ht => h.get (mem_sortT.1 ht)
theorem unique_em : Gets (EVo (EV cfg) 22 [.em]) (OwnTops 0 []) := by
  have := sort_em
  rw [← rowsT_nil] at this
  exact unique_of (S := []) (by simp) trivial this (fun _ h => h) (fun h => f22e_run h)
theorem unique_ev {t : Tm} {l : List Tm} (h : (t :: l).length < 1099511627776) (hok : OkL (t :: l)) : Gets (EVo (EV cfg) 22 [.sl (rowsT (t :: l))]) (OwnTops (t :: l).length (uniqT (sortT (t :: l)))) := by
  have h1 := sort_ev h hok
  have e : (t :: l).length = (sortT (t :: l)).length := (sortT_length _).symm
  rw [e] at h1 h ⊢
  exact unique_of h (sortT_ok hok) h1 (fun _ h => h) (fun h => f22_run _ h)
end Go.Proofs.Ytpbfmaodnihpeaa
end

section
/-
  OrderSorts, as the abstract evaluation has it. Own work.
  What is proved: it answers true of any terms; no condition but on their bulk.
-/
namespace Go.Proofs.Ytpbfmaodnihpeaa
open Go.Av

theorem sameAll_true {l : List Tm} (h : OkL l) (hlen : l.length < 1099511627776) : EVs (EV cfg) 23 [.sl (rowsT l), .sl (rowsT l)] = some (.bool true) := by
  apply Gets.get
  refine (sameAll_ev h hlen l).mono ?_
  rintro _ ⟨b, rfl, hb⟩
  rw [hb.2 rfl]
theorem uniqT_ok {l : List Tm} (h : OkL l) : OkL (uniqT l) := OkL_iff.2 fun t ht => h.get (uniqT_mem ht)
theorem uniqT_pos {t : Tm} {l : List Tm} : 0 < (uniqT (sortT (t :: l))).length := by
  cases h : sortT (t :: l) with
  | nil => have := sortT_length (t :: l); rw [h] at this; simp at this
  | cons x m => simp [uniqT]
theorem take_tops {l : List Tm} {Z : List (List AV)} : List.take l.length (rowsT l ++ Z) = rowsT l := by
  rw [List.take_append_of_le_length (by simp), List.take_of_length_le (by simp)]

theorem orderSorts_nil {t : Tm} (ht : t.Ok) : Gets (j4_0 t.kind t.num t.str (rowsT t.subs) []) (· = .bool true) := by
  have e0 := copyAll_ev (l := []) trivial (by simp)
  have e1 := refSort_ev (l := []) trivial (by simp)
  have e2 := refUnique_ev (l := []) trivial (by simp)
  have e3 := sameAll_true (l := []) trivial (by simp)
  have e4 := find_ev (l := []) trivial (by simp) ht
  have e5 := refFind_ev (l := []) trivial (by simp) ht
  simp only [rowsT_nil, sortT_nil, uniqT, ownL] at e0 e1 e2 e3 e4 e5
  have er : refsLtL 0 [AV.sl [], AV.sl []] = true := rfl
  have er2 : refsLtL 0 [AV.sl [], t.av] = true := by rw [Tm.av, Tm.cells_eq]; rfl
  refine j4_0_step _ _ _ _ _ ?_
  simp [e0]
  refine j4_1n_step _ _ _ _ _ ?_
  simp [sort_nil, unique_nil]
  refine j4_2n_step _ _ _ _ _ ?_
  simp [e1, e2, e3, er]
  refine j4_3n_step _ _ _ _ _ ?_
  simp [e4, er2]
  refine j4_4n_step _ _ _ _ _ _ _ ?_
  simp [e2, e5]
  refine j4_5n_step _ _ _ _ _ _ _ _ _ ?_
  refine j4_6n_step _ _ _ _ _ _ _ _ _ ?_
  simp [e3, er, awake_ev]

theorem orderSorts_cons {x : Tm} {l : List Tm} {t : Tm} (hok : OkL (x :: l)) (hl : (x :: l).length < 1099511627776) (ht : t.Ok) : Gets (j4_0 t.kind t.num t.str (rowsT t.subs) (rowsT (x :: l))) (· = .bool true) := by
  have okS := sortT_ok hok
  have okU := uniqT_ok okS
  have hls : (sortT (x :: l)).length < 1099511627776 := by rw [sortT_length]; exact hl
  have hlu : (uniqT (sortT (x :: l))).length < 1099511627776 := by have := uniqT_len (sortT (x :: l)); omega
  have hup := uniqT_pos (t := x) (l := l)
  have e0 := copyAll_ev hok hl
  have e1 := refSort_ev hok hl
  have e2 := refUnique_ev hok hl
  have e3 := sameAll_true hok hl
  have e4 := find_ev okU hlu ht
  have e5 := refFind_ev okU hlu ht
  have e6 := sort_ev hl hok
  have e7 := unique_ev hl hok
  have e8 := sameAll_true okS hls
  have e9 := sameAll_true okU hlu
  have hn : (sortT (x :: l)).length = (x :: l).length := sortT_length _
  revert e0 e1 e2 e3 e4 e5 e6 e7 e8 e9 hup hn
  simp only [ownL]
  generalize sortT (x :: l) = S
  generalize uniqT S = U
  generalize hL : x :: l = L
  intro hup e0 e1 e2 e3 e4 e5 e6 e7 e8 e9 hn
  have tS : List.take L.length (rowsT S) = rowsT S := List.take_of_length_le (by simp; omega)
  have tL : List.take L.length (rowsT L) = rowsT L := List.take_of_length_le (by simp)
  have hnS : 0 < L.length := by rw [← hL]; simp
  refine j4_0_step _ _ _ _ _ ?_
  simp only [e0, kOptSome, kOwn_own]
  refine j4_1_step t.kind t.num t.str (rowsT t.subs) (rowsT L) 0 L.length (rowsT L) ?_
  simp only [List.drop_zero, tL, e6, kOptSome, kOwn_own, rowsT_length, Nat.zero_add, nble, Nat.le_refl, decide_true, Bool.and_self, cond_true]
  refine Gets.bind e7 ?_
  rintro _ ⟨Z, rfl, hZ1, hZ2⟩
  simp only [kOwn_own]
  refine j4_2_step t.kind t.num t.str (rowsT t.subs) (rowsT L) 0 L.length 0 L.length 0 U.length (rowsT L) (rowsT S) (rowsT U ++ Z) ?_
  have tU : List.take U.length (rowsT U ++ Z) = rowsT U := take_tops
  have iU : U.length ≤ (rowsT U ++ Z).length := by simp
  simp only [e1, e2, e3, e8, e9, tS, tL, tU, hn, iU, kOptSome, kSl_sl, kBool_bool, List.drop_zero, rowsT_length, Nat.zero_add, nble, Nat.le_refl, decide_true, Bool.and_self, cond_true, Bool.not_true, cond_false]
  refine j4_3_step _ _ _ _ _ _ _ _ _ _ _ _ _ _ ?_
  have e4' : EVs (EV cfg) 26 [.sl (rowsT U), .agg [.int .i64 t.kind, .int .i64 t.num, .str t.str, .sl (rowsT t.subs)]] = some (.tup [.int .i64 (findT t U).1, .bool (findT t U).2]) := by rw [cells_fold, agg_cells, Tm.eta]; exact e4
  have e5' : EVs (EV cfg) 27 [.sl (rowsT U), .agg [.int .i64 t.kind, .int .i64 t.num, .str t.str, .sl (rowsT t.subs)]] = some (.tup [.int .i64 (findT t U).1, .bool (findT t U).2]) := by rw [cells_fold, agg_cells, Tm.eta]; exact e5
  simp only [e4', tU, iU, kOptSome, List.drop_zero, Nat.zero_add, nble, decide_true, Bool.and_self, cond_true]
  refine j4_4_step _ _ _ _ _ _ _ _ _ _ _ _ _ _ _ _ ?_
  simp only [e2, e5', kOptSome, kSl_sl]
  refine j4_5_step _ _ _ _ _ _ _ _ _ _ _ _ _ _ _ _ _ _ ?_
  cases S with
  | nil => simp at hn; omega
  | cons s1 S =>
    cases U with
    | nil => simp at hup
    | cons u1 U =>
      have g1 : (rowsT (u1 :: U) ++ Z)[0]? = some u1.cells := by rw [rowsT_cons]; rfl
      simp [hnS, g1]
      refine j4_6_step _ _ _ _ _ _ _ _ _ _ _ _ _ _ ?_
      simp [tL, e3, awake_ev]

theorem orderSorts_ev {l : List Tm} {t : Tm} (hok : OkL l) (hl : l.length < 1099511627776) (ht : t.Ok) : EVs (EV cfg) 4 [.sl (rowsT l), t.av] = some (.bool true) := by
  have h1 := largeAll_ev hok hl 400
  have h2 := large_ev t ht 400
  have h3 : Gets (j4_0 t.kind t.num t.str (rowsT t.subs) (rowsT l)) (· = .bool true) := by
    cases l with
    | nil => rw [rowsT_nil]; exact orderSorts_nil ht
    | cons x l => exact orderSorts_cons hok hl ht
  apply Gets.get
  rw [Tm.av, Tm.cells_eq] at h2 ⊢
  refine f4_run _ _ _ _ _ ?_
  refine Gets.bind h1 ?_
  rintro _ ⟨b, rfl⟩
  cases b with
  | true => simp
  | false =>
    simp only [kBool_bool, cond_false]
    refine Gets.bind h2 ?_
    rintro _ ⟨b, rfl⟩
    cases b with
    | true => simp
    | false => simpa using h3
end Go.Proofs.Ytpbfmaodnihpeaa
end

section
/-
  The abstract evaluation as a program that ends: for calls whose arguments are known whole. Own work.
  What is proved: what it tells the evaluation tells; no condition.
-/
namespace Go.Av
variable {α β : Type}

/-! ### values worked out at once -/
def fBool (b : Bool) (k : Bool → α) : α := match b with | true => k true | false => k false
def fNat (n : Nat) (k : Nat → α) : α := match n with | 0 => k 0 | m + 1 => k (m + 1)
def fInt (n : Int) (k : Int → α) : α := match n with | .ofNat m => fNat m fun m => k (.ofNat m) | .negSucc m => fNat m fun m => k (.negSucc m)
def fL (g : β → (β → α) → α) : List β → (List β → α) → α
  | [], k => k []
  | a :: l, k => g a fun a' => fL g l fun l' => k (a' :: l')
def fKind (kd : IntKind) (k : IntKind → α) : α := match kd with
  | .i64 => k .i64
  | .u64 => k .u64
  | .u8 => k .u8
  | .i32 => k .i32
  | .u32 => k .u32
  | x => k x
def fByte (b : UInt8) (k : UInt8 → α) : α := fNat b.toNat fun n => k (UInt8.ofNat n)
def fAV : Nat → AV → (AV → α) → α
  | 0, v, k => k v
  | n + 1, v, k => match v with
    | .int kd m => fKind kd fun kd => fInt m fun m => k (.int kd m)
    | .bool b => fBool b fun b => k (.bool b)
    | .str s => fL fByte s fun s => k (.str s)
    | .agg cs => fL (fAV n) cs fun cs => k (.agg cs)
    | .tup cs => fL (fAV n) cs fun cs => k (.tup cs)
    | .nilS => k .nilS
    | .sl rows => fL (fL (fAV n)) rows fun rows => k (.sl rows)
    | .em => k .em
    | .ms a b c => fNat a fun a => fNat b fun b => fNat c fun c => k (.ms a b c)
    | .nilP => k .nilP
    | .ptr a b c => fNat a fun a => fNat b fun b => fNat c fun c => k (.ptr a b c)
    | .cptr cs o => fL (fAV n) cs fun cs => fNat o fun o => k (.cptr cs o)
    | .fn f a b => fL (fAV n) a fun a => fL (fAV n) b fun b => k (.fn f a b)
    | .yld a => fNat a fun a => k (.yld a)
    | .nilF => k .nilF
    | .nilM => k .nilM
    | .mp a => fNat a fun a => k (.mp a)
    | .nilI => k .nilI
    | .ifc t v => fAV n v fun v => k (.ifc t v)
    | .junk => k .junk
def fB (b : ABlk) (k : ABlk → α) : α := match b with
  | .rows d sz rs => fBool d fun d => fNat sz fun sz => fL (fL (fAV 1)) rs fun rs => k (.rows d sz rs)
  | .froz d sz rs => fBool d fun d => fNat sz fun sz => fL (fL (fAV 1)) rs fun rs => k (.froz d sz rs)
  | .mp es => fL (fun (e : AV × AV) k => k e) es fun es => k (.mp es)
  | .loop f fr ps a b p s => fL (fAV 1) fr fun fr => k (.loop f fr ps a b p s)
  | .dead => k .dead
  | .res => k .res
def fH (H : AH) (k : AH → α) : α := fL fB H k

theorem fL_eq {g : β → (β → α) → α} (hg : ∀ b k, g b k = k b) : ∀ (l : List β) (k : List β → α), fL g l k = k l
  | [], _ => rfl
  | a :: l, k => by rw [fL, hg, fL_eq hg l]
theorem fBool_eq (b : Bool) (k : Bool → α) : fBool b k = k b := by cases b <;> rfl
theorem fNat_eq (b : Nat) (k : Nat → α) : fNat b k = k b := by cases b <;> rfl
theorem fInt_eq (b : Int) (k : Int → α) : fInt b k = k b := by cases b <;> simp only [fInt, fNat_eq]
theorem fKind_eq (b : IntKind) (k : IntKind → α) : fKind b k = k b := by cases b <;> rfl
theorem fByte_eq (b : UInt8) (k : UInt8 → α) : fByte b k = k b := by simp [fByte, fNat_eq]
theorem fAV_eq : ∀ (n : Nat) (v : AV) (k : AV → α), fAV n v k = k v
  | 0, _, _ => rfl
  | n + 1, v, k => by
    have e1 : ∀ (l : List AV) (k : List AV → α), fL (fAV n) l k = k l := fL_eq (fAV_eq n)
    have e2 : ∀ (l : List (List AV)) (k : List (List AV) → α), fL (fL (fAV n)) l k = k l := fL_eq e1
    cases v <;> simp only [fAV, fKind_eq, fInt_eq, fBool_eq, fNat_eq, e1, e2, fL_eq fByte_eq, fAV_eq n]
theorem fB_eq (b : ABlk) (k : ABlk → α) : fB b k = k b := by
  have e1 : ∀ (l : List AV) (k : List AV → α), fL (fAV 1) l k = k l := fL_eq (fAV_eq 1)
  have e2 : ∀ (l : List (List AV)) (k : List (List AV) → α), fL (fL (fAV 1)) l k = k l := fL_eq e1
  cases b <;> simp only [fB, fBool_eq, fNat_eq, e1, e2, fL_eq (g := fun (e : AV × AV) (k : AV × AV → α) => k e) (fun _ _ => rfl)]
theorem fH_eq (H : AH) (k : AH → α) : fH H k = k H := fL_eq fB_eq H k
def fFr (fr : List AV) (k : List AV → α) : α := fL (fun v k => match v with | .junk => k .junk | v => k v) fr k
theorem fFr_eq (fr : List AV) (k : List AV → α) : fFr fr k = k fr := fL_eq (fun v k => by cases v <;> rfl) fr k

/-- does the operation leave the blocks alone? -/
def quietOp (o : Op) : Bool := match o with
  | .alloc _ | .box _ _ | .buildSlice _ _ _ | .store _ _ _ | .convert _ _ _ | .makeSlice _ _ _ | .call _ => false
  | _ => true

def xRes (q : Bool) (o : Option (AV × AH)) (k : AV → AH → Option β) : Option β :=
  match o with
  | none => none
  | some r => fAV 12 r.1 fun v => cond q (k v r.2) (fH r.2 fun H => k v H)
theorem xRes_eq (q : Bool) (o : Option (AV × AH)) (k : AV → AH → Option β) : xRes q o k = o.bind fun r => k r.1 r.2 := by
  cases o with
  | none => rfl
  | some r => cases q <;> simp [xRes, fAV_eq, fH_eq]

def xOps (cfg : Cfg) (cf : Orac) (f rid : Nat) (ops : Array Oper) : Nat → List Oper → List AV → AH → Option (List AV × AH)
  | _, [], fr, H => some (fr, H)
  | k, o :: rest, fr, H =>
    match wantedA ops fr o with
    | none => none
    | some b =>
      cond b (xRes (quietOp o.op && !cfg.frz f rid k) (evOper cfg cf (cfg.frz f rid k) none o (opd fr) H) fun v H' => fFr (put fr o.dst v) fun fr' => xOps cfg cf f rid ops (k + 1) rest fr' H')
        (fFr (put fr o.dst (.tup [])) fun fr' => xOps cfg cf f rid ops (k + 1) rest fr' H)
theorem xOps_eq (cfg : Cfg) (cf : Orac) (f rid : Nat) (ops : Array Oper) : ∀ (l : List Oper) (k : Nat) (fr : List AV) (H : AH), xOps cfg cf f rid ops k l fr H = evOps cfg cf f rid ops k l fr H
  | [], _, _, _ => rfl
  | o :: l, k, fr, H => by
    rw [xOps, evOps]
    cases wantedA ops fr o with
    | none => rfl
    | some b => cases b <;> simp [xRes_eq, fFr_eq, xOps_eq cfg cf f rid ops l]

def xDraw (cfg : Cfg) (cf : Orac) (f rid : Nat) (ops : Array Oper) : Nat → Nat → List Oper → List AV → AH → Option (List FP × List AV × AH)
  | _, _, [], fr, H => some ([], fr, H)
  | k, at_, o :: rest, fr, H =>
    match wantedA ops fr o with
    | none => none
    | some b =>
      fNat (if makes cfg o then at_ + 1 else at_) fun at' =>
      cond b (xRes (quietOp o.op && !cfg.frz f rid k) (evOper cfg cf (cfg.frz f rid k) (some at_) o (opd fr) H) fun v H' => fFr (put fr o.dst v) fun fr' =>
          match xDraw cfg cf f rid ops (k + 1) at' rest fr' H' with
          | none => none
          | some q => some (fpOper cfg (cfg.frz f rid k) at_ o (opd fr) :: q.1, q.2))
        (fFr (put fr o.dst (.tup [])) fun fr' =>
          match xDraw cfg cf f rid ops (k + 1) at' rest fr' H with
          | none => none
          | some q => some (.none :: q.1, q.2))
theorem xDraw_eq (cfg : Cfg) (cf : Orac) (f rid : Nat) (ops : Array Oper) : ∀ (l : List Oper) (k at_ : Nat) (fr : List AV) (H : AH), xDraw cfg cf f rid ops k at_ l fr H = evDraw cfg cf f rid ops k at_ l fr H
  | [], _, _, _, _ => rfl
  | o :: l, k, at_, fr, H => by
    have em : ∀ (x : Option (List FP × List AV × AH)) (g : List FP × List AV × AH → List FP × List AV × AH), (match x with | none => none | some q => some (g q)) = x.map g := fun x g => by cases x <;> rfl
    rw [xDraw, evDraw]
    cases wantedA ops fr o with
    | none => rfl
    | some b => cases b <;> simp [xRes_eq, fFr_eq, fNat_eq, xDraw_eq cfg cf f rid ops l, em]

def xLoop (k : Nat) (ts : Option (List Tmp)) (body : Den) : Nat → List AV → AH → Option (Ex × List AV × AH)
  | 0, _, _ => none
  | n + 1, fr, H =>
    match body fr H with
    | none => none
    | some r =>
      match r.1 with
      | .normal => fFr (gc k (maskFr ts r.2.1) r.2.2).1 fun fr' => fH (gc k (maskFr ts r.2.1) r.2.2).2 fun H' => xLoop k ts body n fr' H'
      | e => some (e, r.2)
theorem xLoop_eq (k : Nat) (ts : Option (List Tmp)) (body : Den) : ∀ (n : Nat) (fr : List AV) (H : AH), xLoop k ts body n fr H = loopN k ts body n (fr, H)
  | 0, _, _ => rfl
  | n + 1, fr, H => by
    rw [xLoop, loopN]
    show _ = (body fr H).bind _
    cases body fr H with
    | none => rfl
    | some r =>
      simp only [Option.bind_some]
      cases hr : r.1 <;> simp [fFr_eq, fH_eq, xLoop_eq k ts body n]

def xC (cfg : Cfg) (cf : Orac) (m : Nat) (f : Nat) (rd : Option Nat) : Code → List AV → AH → Option (Ex × List AV × AH)
  | .skip, fr, H => some (.normal, fr, H)
  | .label _, fr, H => some (.normal, fr, H)
  | .region id ops draw, fr, H =>
    if draw then
      if drawStat ops then
        match xDraw cfg cf f id ops 0 H.length ops.toList fr (H ++ List.replicate (places cfg ops.toList) .res) with
        | none => none
        | some q => if dynAll (ancs [] ops.toList) 0 q.1 then some (.normal, q.2) else none
      else none
    else match xOps cfg cf f id ops 0 ops.toList fr H with
      | none => none
      | some q => some (.normal, q)
  | .seq a b, fr, H =>
    match xC cfg cf m f rd a fr H with
    | none => none
    | some r =>
      match r.1 with
      | .normal => fFr (maskFr (cfg.cut f (firstRid b)) r.2.1) fun fr' => xC cfg cf m f rd b fr' r.2.2
      | e => some (e, r.2)
  | .cond c a b, fr, H =>
    match opd fr c with
    | .bool t => if t then xC cfg cf m f rd a fr H else xC cfg cf m f rd b fr H
    | _ => none
  | .block id a, fr, H =>
    match xC cfg cf m f rd a fr H with
    | none => none
    | some r =>
      match r.1 with
      | .exit id' => some (if Nat.beq id' id then (.normal, r.2) else r)
      | _ => some r
  | .loop a, fr, H =>
    match fFr (gc H.length (maskFr (cfg.keepIn f (firstRid a)) fr) H).1 fun fr' => fH (gc H.length (maskFr (cfg.keepIn f (firstRid a)) fr) H).2 fun H' => xLoop H.length (cfg.keepIn f (firstRid a)) (xC cfg cf m f rd a) m fr' H' with
    | none => none
    | some r => fFr (maskFr (cfg.keepOut f (firstRid a)) r.2.1) fun fr' => some (r.1, fr', r.2.2)
  | .scope a, fr, H =>
    match xC cfg cf m f rd a fr H with
    | none => none
    | some r =>
      match r.1 with
      | .goto _ => none
      | _ => some r
  | .exit id, fr, H => some (.exit id, fr, H)
  | .goto _, _, _ => none
  | .ret, fr, H => some (.ret, fr, H)
  | .rangeFunc g ps assign body, fr, H =>
    if rdLive rd H then
      match opd fr g with
      | .fn (.func h) first caps =>
        if (cfg.ext h).isSome then none else
        match cf (.f h) (first ++ [.yld H.length] ++ caps) (H ++ [.loop f (maskFr (cfg.keepIn f (firstRid body)) fr) ps.toList assign body none .ready]) with
        | none => none
        | some r =>
          match r.2[H.length]? with
          | some (.loop _ _ _ _ _ pend st) =>
            match st with
            | .busy => none
            | _ =>
              match gc H.length (maskFr (cfg.keepOut f (firstRid body)) fr) (r.2.set H.length .dead), pend with
              | q, none => some (.normal, q)
              | q, some .ret => some (.ret, q)
              | q, some (.exit id) => some (.exit id, q)
              | _, _ => none
          | _ => none
      | _ => none
    else none
  | .refuse _, _, _ => none

theorem matchBind {γ : Type} (o : Option β) (k : β → Option γ) : (match o with | none => none | some r => k r) = o.bind k := by cases o <;> rfl

theorem xC_ev (cfg : Cfg) {cf cf' : Orac} (hcf : ∀ t a H r, cf t a H = some r → cf' t a H = some r) (m : Nat) (f : Nat) (rd : Option Nat) : ∀ (cd : Code) (fr : List AV) (H : AH) (r), xC cfg cf m f rd cd fr H = some r → evC cfg cf' f rd cd fr H = some r := by
  have hev : Ev (fun _ => cf') cf := fun t a H r h => ⟨0, fun _ _ => hcf t a H r h⟩
  have key : ∀ {γ : Type} {G : Orac → Option γ}, EvG (fun _ => cf') cf G → ∀ r, G cf = some r → G cf' = some r := fun h r hr => by
    obtain ⟨n, hn⟩ := h r hr
    exact hn n (Nat.le_refl _)
  intro cd
  induction cd with
  | skip => intro fr H r h; exact h
  | label l => intro fr H r h; exact h
  | exit id => intro fr H r h; exact h
  | ret => intro fr H r h; exact h
  | goto l => intro fr H r h; cases h
  | refuse s => intro fr H r h; cases h
  | region id ops draw =>
    intro fr H r h
    simp only [xC, evC] at h ⊢
    cases draw with
    | true =>
      simp only [if_true] at h ⊢
      split at h
      · rename_i hd
        rw [if_pos hd]
        rw [xDraw_eq] at h
        refine key (G := fun q => (evDraw cfg q f id ops 0 H.length ops.toList fr (H ++ List.replicate (places cfg ops.toList) .res)).bind fun q => if dynAll (ancs [] ops.toList) 0 q.1 then some (Ex.normal, q.2) else none) (EvG.bind (K := fun _ q => if dynAll (ancs [] ops.toList) 0 q.1 then some (Ex.normal, q.2) else none) (evDraw_ev hev cfg f id ops _ _ _ _ _) fun q => EvG.const _) r ?_
        revert h
        cases evDraw cfg cf f id ops 0 H.length ops.toList fr (H ++ List.replicate (places cfg ops.toList) .res) with
        | none => intro h; cases h
        | some q => exact fun h => h
      · cases h
    | false =>
      simp only [Bool.false_eq_true, if_false] at h ⊢
      rw [xOps_eq] at h
      refine key (G := fun q => (evOps cfg q f id ops 0 ops.toList fr H).map fun q => (Ex.normal, q)) ((evOps_ev hev cfg f id ops _ _ _ _).map _) r ?_
      rw [← h]
      cases evOps cfg cf f id ops 0 ops.toList fr H <;> rfl
  | seq x y ihx ihy =>
    intro fr H r h
    simp only [xC, evC] at h ⊢
    split at h
    · cases h
    · rename_i q hq
      rw [ihx _ _ _ hq]
      simp only [Option.bind_some]
      cases hq1 : q.1 with
      | normal => rw [hq1] at h; rw [fFr_eq] at h; exact ihy _ _ _ h
      | exit id => rw [hq1] at h; exact h
      | goto l => rw [hq1] at h; exact h
      | ret => rw [hq1] at h; exact h
  | cond cnd x y ihx ihy =>
    intro fr H r h
    simp only [xC, evC] at h ⊢
    split at h
    · rename_i t ht
      rw [ht]
      cases t with
      | true => exact ihx _ _ _ h
      | false => exact ihy _ _ _ h
    · cases h
  | block id x ih =>
    intro fr H r h
    simp only [xC, evC] at h ⊢
    split at h
    · cases h
    · rename_i q hq
      rw [ih _ _ _ hq]
      exact h
  | loop x ih =>
    intro fr H r h
    simp only [xC, evC] at h ⊢
    split at h
    · cases h
    · rename_i q hq
      rw [fFr_eq, fH_eq, xLoop_eq] at hq
      rw [fFr_eq] at h
      have hl : LOOP H.length (cfg.keepIn f (firstRid x)) (evC cfg cf' f rd x) (gc H.length (maskFr (cfg.keepIn f (firstRid x)) fr) H) = some q := by
        refine LOOP_of (n := m) ?_
        have up : ∀ (n : Nat) (p : List AV × AH) (r), loopN H.length (cfg.keepIn f (firstRid x)) (xC cfg cf m f rd x) n p = some r → loopN H.length (cfg.keepIn f (firstRid x)) (evC cfg cf' f rd x) n p = some r := by
          intro n
          induction n with
          | zero => intro p r h; cases h
          | succ n ihn =>
            intro p r h
            rw [loopN] at h ⊢
            obtain ⟨q, h1, h2⟩ := Option.bind_eq_some_iff.1 h
            rw [ih _ _ _ h1]
            simp only [Option.bind_some]
            cases hq : q.1 with
            | normal => rw [hq] at h2; exact ihn _ _ h2
            | exit id => rw [hq] at h2; exact h2
            | goto l => rw [hq] at h2; exact h2
            | ret => rw [hq] at h2; exact h2
        exact up _ _ _ hq
      rw [hl]
      exact h
  | scope x ih =>
    intro fr H r h
    simp only [xC, evC] at h ⊢
    split at h
    · cases h
    · rename_i q hq
      rw [ih _ _ _ hq]
      exact h
  | rangeFunc g ps assign body =>
    intro fr H r h
    simp only [xC, evC] at h ⊢
    split at h
    · rename_i hl
      rw [if_pos hl]
      split at h
      · rename_i ho
        rw [ho]
        simp only
        split at h
        · cases h
        · rename_i hx
          rw [if_neg hx]
          split at h
          · cases h
          · rename_i q hq
            rw [hcf _ _ _ _ hq]
            exact h
      · cases h
    · cases h

/-- a call, all blocks worked out -/
def xF (cfg : Cfg) (m : Nat) : Nat → Orac
  | 0, _, _, _ => none
  | n + 1, .f f, args, H =>
    match cfg.ext f with
    | some s => s args H
    | none =>
      if cfg.known f then
        match cfg.P.funcs[f]? with
        | some fn =>
          match fn.body with
          | some c =>
            match fFr (args ++ List.replicate (fn.ntmps - args.length) .junk) fun fr => fH H fun H => xC cfg (xF cfg m n) m f none c fr H with
            | none => none
            | some q => finish cfg fn.results.toList q
          | none => none
        | none => none
      else none
  | n + 1, .y id, args, H =>
    match H[id]? with
    | some (.loop f fr ps assign body _ .ready) =>
      if args.length = ps.length then
        match fFr (setParams fr ps args) fun fr' => xC cfg (xF cfg m n) m f (some id) assign fr' H with
        | none => none
        | some r =>
          match r.1, r.2.2[id]? with
          | .normal, some (.loop f' fr' ps' assign' body' pend' .ready) =>
            match xC cfg (xF cfg m n) m f (some id) body r.2.1 (r.2.2.set id (.loop f' fr' ps' assign' body' pend' .busy)) with
            | none => none
            | some q =>
              match q.2.2[id]? with
              | some (.loop f' fr' ps' assign' body' _ _) =>
                match q.1 with
                | .normal => some (.bool true, q.2.2.set id (.loop f' fr' ps' assign' body' none .ready))
                | .ret => some (.bool false, q.2.2.set id (.loop f' fr' ps' assign' body' (some .ret) .done))
                | .exit x => some (.bool false, q.2.2.set id (.loop f' fr' ps' assign' body' (some (.exit x)) .done))
                | .goto _ => none
              | _ => none
          | _, _ => none
      else none
    | _ => none

theorem xF_EV (cfg : Cfg) (m : Nat) : ∀ (n : Nat) (t : Tgt) (a : List AV) (H : AH) (r), xF cfg m n t a H = some r → EV cfg t a H = some r
  | 0, _, _, _, _, h => by cases h
  | n + 1, t, a, H, r, h => by
    have ih := xF_EV cfg m n
    refine EV_of ?_
    cases t with
    | f f =>
      simp only [xF, fFr_eq, fH_eq] at h
      unfold evBody
      split at h
      · rename_i s hs
        simp only [hs]
        exact h
      · rename_i hs
        simp only [hs]
        split at h
        · rename_i hk
          rw [if_pos hk]
          split at h
          · rename_i fn hf
            simp only [hf]
            split at h
            · rename_i c hb
              simp only [hb]
              split at h
              · cases h
              · rename_i q hq
                rw [xC_ev cfg ih m f none c _ _ _ hq]
                exact h
            · cases h
          · cases h
        · cases h
    | y id =>
      simp only [xF, fFr_eq] at h
      unfold evBody
      split at h
      · rename_i f fr ps assign body p hl
        simp only [hl]
        split at h
        · rename_i hlen
          rw [if_pos hlen]
          split at h
          · cases h
          · rename_i q hq
            rw [xC_ev cfg ih m f (some id) assign _ _ _ hq]
            simp only [Option.bind_some]
            split at h
            · rename_i h1 h2
              simp only [h1, h2]
              split at h
              · cases h
              · rename_i q2 hq2
                rw [xC_ev cfg ih m f (some id) body _ _ _ hq2]
                exact h
            · cases h
        · cases h
      · cases h

/-- a statement without arguments, or with known ones -/
theorem EVs_x {cfg : Cfg} {f : Nat} {args : List AV} {v : AV} (m n : Nat) (h : (match xF cfg m n (.f f) args [] with | some r => some r.1 | none => none) = some v) : EVs (EV cfg) f args = some v := by
  unfold EVs
  cases hx : xF cfg m n (.f f) args [] with
  | none => rw [hx] at h; cases h
  | some r => rw [hx] at h; rw [xF_EV cfg m n _ _ _ _ hx]; exact h
end Go.Av
end
