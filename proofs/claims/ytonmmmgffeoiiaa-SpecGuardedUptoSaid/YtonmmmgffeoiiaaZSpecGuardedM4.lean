/-
  Parts of the proof of SpecGuardedUptoSaid, put together: the abstract evaluation and its contracts. Own work.
  What is proved: each lemma as it stands; no condition.
-/
import Derived.Test.YtonmmmgffeoiiaaZSpecGuardedM3

section
namespace Go.Proofs.Ytonmmmgffeoiiaa
open Go.Av
set_option maxRecDepth 100000
set_option maxHeartbeats 0

noncomputable def Ls41_0 : Den := evC cfg (EV cfg) 62 none 0 (sub (bodyOf Try.f62) [1, 1, 1, 0, 1, 0, 0])
noncomputable def As41_0 : Ex × List AV × AH → Option AV := kAft (Cfg.keepOut cfg 62 4) (kRun cfg (EV cfg) (kfN cfg 6) 62 none 0 (kFinF cfg (Cfg.lift cfg 62 0) Try.f62.results.toList) ([.block 0, .seq (sub (bodyOf Try.f62) [1, 1, 1, 1])]))
noncomputable def Ws41_0 : List AV × AH → Option AV := fun p => kOpt (LOOP 0 (some [1, 4, 5, 9, 10, 11]) ([(4, 1)]) Ls41_0 p) As41_0
noncomputable def Ls62_0 : Den := evC cfg (EV cfg) 72 none 1 (sub (bodyOf Try.f72) [1, 1, 0, 1, 0, 0])
noncomputable def As62_0 : Ex × List AV × AH → Option (AV × List (List AV)) := kAft (Cfg.keepOut cfg 72 (firstRid (sub (bodyOf Try.f72) [1, 1, 0, 1, 0, 0]))) (kBlock 0 (kSeq (fun (fr : List AV) (H : AH) => kCutTo (Cfg.cut cfg 72 (firstRid (sub (bodyOf Try.f72) [1, 1, 1]))) fr H fun (fr : List AV) (H : AH) => kCode cfg (EV cfg) (kfN cfg 6) 72 none 1 (sub (bodyOf Try.f72) [1, 1, 1]) fr H (kFinD cfg 7 (Cfg.lift cfg 72 0) (Array.toList (Func.results Try.f72)))) (kFinD cfg 7 (Cfg.lift cfg 72 0) (Array.toList (Func.results Try.f72)))))
noncomputable def Ws62_0 : List AV × AH → Option (AV × List (List AV)) := fun (p : List AV × AH) => kOpt (LOOP 1 (some [0, 5, 8, 9, 10]) [(5, 4)] Ls62_0 p) As62_0
noncomputable def Ls61_0 : Den := evC cfg (EV cfg) 71 none 1 (sub (bodyOf Try.f71) [1, 1, 0, 1, 0, 0])
noncomputable def As61_0 : Ex × List AV × AH → Option (AV × List (List AV)) := kAft (Cfg.keepOut cfg 71 (firstRid (sub (bodyOf Try.f71) [1, 1, 0, 1, 0, 0]))) (kBlock 0 (kSeq (fun (fr : List AV) (H : AH) => kCutTo (Cfg.cut cfg 71 (firstRid (sub (bodyOf Try.f71) [1, 1, 1]))) fr H fun (fr : List AV) (H : AH) => kCode cfg (EV cfg) (kfN cfg 6) 71 none 1 (sub (bodyOf Try.f71) [1, 1, 1]) fr H (kFinD cfg 7 (Cfg.lift cfg 71 0) (Array.toList (Func.results Try.f71)))) (kFinD cfg 7 (Cfg.lift cfg 71 0) (Array.toList (Func.results Try.f71)))))
noncomputable def Ws61_0 : List AV × AH → Option (AV × List (List AV)) := fun (p : List AV × AH) => kOpt (LOOP 1 (some [2, 3, 10, 11, 12]) [(3, 4)] Ls61_0 p) As61_0
noncomputable def Ls25_0 : Den := evC cfg (EV cfg) 49 none 0 (sub (bodyOf Try.f49) [1, 1, 0, 1, 0, 0])
noncomputable def As25_0 : Ex × List AV × AH → Option AV := kAft (Cfg.keepOut cfg 49 3) (kRun cfg (EV cfg) (kfN cfg 6) 49 none 0 (kFinS cfg (Cfg.lift cfg 49 0) Try.f49.results.toList) ([.block 0, .seq (sub (bodyOf Try.f49) [1, 1, 1])]))
noncomputable def Ws25_0 : List AV × AH → Option AV := fun p => kOpt (LOOP 0 (some [3, 6, 16, 17, 18]) ([]) Ls25_0 p) As25_0
noncomputable def Ls78_0 : Den := evC cfg (EV cfg) 60 none 4 (sub (bodyOf Try.f60) [1, 0, 0])
noncomputable def As78_0 : Ex × List AV × AH → Option AV := kAft (Cfg.keepOut cfg 60 (firstRid (sub (bodyOf Try.f60) [1, 0, 0]))) (kBlock 0 (kFinG cfg (Cfg.lift cfg 60 0) (fun (v : AV) (H : AH) => (fun (r : AV × AH) => kRangeEnd 0 3 (fx 16 [(3, AV.ptr 0 0 0), (4, AV.ptr 1 0 0)]) (kBlock 0 (kSeq (fun (fr : List AV) (H : AH) => kCutTo (Cfg.cut cfg 32 (firstRid (sub (bodyOf Try.f32) [1, 1]))) fr H fun (fr : List AV) (H : AH) => kCode cfg (EV cfg) (kfN cfg 6) 32 none 0 (sub (bodyOf Try.f32) [1, 1]) fr H (kFinF cfg (Cfg.lift cfg 32 0) (Array.toList (Func.results Try.f32)))) (kFinF cfg (Cfg.lift cfg 32 0) (Array.toList (Func.results Try.f32))))) (Prod.snd r)) (v, H)) (Array.toList (Func.results (Prod.snd (60, Try.f60))))))
noncomputable def Ws78_0 : List AV × AH → Option AV := fun (p : List AV × AH) => kOpt (LOOP 4 (some [0, 1, 3]) [] Ls78_0 p) As78_0
noncomputable abbrev ws41_0 (bd : List (List AV)) (nv4 : Nat) (v5 : Int) (v11 : Int) (c0_0 : Int) (c0_1 : Int) (c0_2 : List UInt8) (c0_3 : List (List AV)) (c0_4 : List (List AV)) (c0_5 : Int) (h1 : List (List AV)) : Option (AV) := Ws41_0  (((fx 48 [(1, AV.ptr (0 : Nat) (0 : Nat) (0 : Nat)), (4, AV.ms (1 : Nat) (0 : Nat) nv4), (5, AV.int IntKind.i64 v5), (9, AV.sl bd), (10, AV.int IntKind.i64 (↑(List.length bd) : Int)), (11, AV.int IntKind.i64 v11)]) : List AV), ([ABlk.rows false (6 : Nat) [[AV.int IntKind.i64 c0_0, AV.int IntKind.i64 c0_1, AV.str c0_2, AV.sl c0_3, AV.sl c0_4, AV.int IntKind.i64 c0_5]], ABlk.rows true (1 : Nat) h1] : AH))
noncomputable abbrev ws62_0 (L : List (List AV)) (nv5 : Nat) (v10 : Int) (h0 : List (List AV)) (h1 : List (List AV)) : Option (AV × List (List AV)) := Ws62_0  (((fx 26 [(0, AV.ptr (0 : Nat) (0 : Nat) (0 : Nat)), (5, AV.ms (1 : Nat) (0 : Nat) nv5), (8, AV.sl L), (9, AV.int IntKind.i64 (↑(List.length L) : Int)), (10, AV.int IntKind.i64 v10)]) : List AV), ([ABlk.rows true (7 : Nat) h0, ABlk.rows true (4 : Nat) h1] : AH))
noncomputable abbrev ws61_0 (bd : List (List AV)) (nv3 : Nat) (v12 : Int) (h0 : List (List AV)) (c1_0 : Int) (c1_1 : Int) (c1_2 : List UInt8) (c1_3 : List (List AV)) (h2 : List (List AV)) : Option (AV × List (List AV)) := Ws61_0  (((fx 25 [(2, AV.ptr (1 : Nat) (0 : Nat) (0 : Nat)), (3, AV.ms (2 : Nat) (0 : Nat) nv3), (10, AV.sl bd), (11, AV.int IntKind.i64 (↑(List.length bd) : Int)), (12, AV.int IntKind.i64 v12)]) : List AV), ([ABlk.rows true (7 : Nat) h0, ABlk.rows false (4 : Nat) [[AV.int IntKind.i64 c1_0, AV.int IntKind.i64 c1_1, AV.str c1_2, AV.sl c1_3]], ABlk.rows true (4 : Nat) h2] : AH))
noncomputable abbrev ws25_0 (L : List (List AV)) (b : Bool) (v18 : Int) (c0_0 : Int) (c0_1 : Int) (c0_2 : List UInt8) (c0_3 : List (List AV)) (c0_4 : List (List AV)) (c0_5 : Int) : Option (AV) := Ws25_0  (((fx 42 [(3, AV.ptr (0 : Nat) (0 : Nat) (0 : Nat)), (6, AV.bool b), (16, AV.sl L), (17, AV.int IntKind.i64 (↑(List.length L) : Int)), (18, AV.int IntKind.i64 v18)]) : List AV), ([ABlk.rows false (6 : Nat) [[AV.int IntKind.i64 c0_0, AV.int IntKind.i64 c0_1, AV.str c0_2, AV.sl c0_3, AV.sl c0_4, AV.int IntKind.i64 c0_5]]] : AH))
noncomputable abbrev ws78_0 (v3 : Int) (c0_0 : Int) (c0_1 : Int) (c0_2 : List UInt8) (c0_3 : List (List AV)) (c1_0 : Int) (c1_1 : Int) (c1_2 : List UInt8) (c1_3 : List (List AV)) (c2_0 : List (List AV)) : Option (AV) := Ws78_0  (((fx 19 [(0, AV.yld (3 : Nat)), (1, AV.ptr (2 : Nat) (0 : Nat) (0 : Nat)), (3, AV.int IntKind.i64 v3)]) : List AV), ([ABlk.rows false (4 : Nat) [[AV.int IntKind.i64 c0_0, AV.int IntKind.i64 c0_1, AV.str c0_2, AV.sl c0_3]], ABlk.rows false (4 : Nat) [[AV.int IntKind.i64 c1_0, AV.int IntKind.i64 c1_1, AV.str c1_2, AV.sl c1_3]], ABlk.rows false (1 : Nat) [[AV.sl c2_0]], rngB Try.f32 (32 : Nat) [(1 : Nat), (0 : Nat), (1 : Nat), (0 : Nat)] (fx 16 [(3, AV.ptr (0 : Nat) (0 : Nat) (0 : Nat))]) none LoopState.ready] : AH))
theorem guardMay_run (ke : Int) (ne : Int) (se : List UInt8) (le : List (List AV)) (bd : List (List AV)) (self : Int) {P : AV → Prop} (h : Gets (ws41_0 bd 0 (-1 : Int) (0 : Int) ke ne se le bd self []) P) : Gets (EVf (EV cfg) 62 ([AV.agg [AV.int IntKind.i64 ke, AV.int IntKind.i64 ne, AV.str se, AV.sl le, AV.sl bd, AV.int IntKind.i64 self]] : List AV)) P :=
  Gets.ev (fun _ h => funF rfl rfl Try.func62 rfl h) (Gets.eq (by kernel_rfl) h)
theorem guardIs_run (kt : Int) (nt : Int) (st : List UInt8) (lt : List (List AV)) (V : List (List AV)) {P : AV → Prop} (h : Gets (bif kt == (2 : Int) then kOpt (EVs (EV cfg) 64 [.agg [.int .i64 kt, .int .i64 nt, .str st, .sl lt]]) fun (v : AV) => kTup v fun (cs : List AV) => kCons cs fun (c : AV) (cs : List AV) 
  => kInt .i64 c fun (n : Int) => kCons cs fun (c : AV) (cs : List AV) => kBool c fun (b : Bool) => kNil cs (bif !b then some (.bool true) else kOpt (EVs (EV cfg) 76 [.sl V, .int .i64 
  n]) fun (v : AV) => kBool v fun (b : Bool) => some (.bool b)) else bif kt == (9 : Int) then kOpt (EVs (EV cfg) 77 [.sl lt, .sl V]) fun (v : AV) => kBool v fun (b : Bool) => some (.bool 
  b) else bif kt == (7 : Int) then bif (↑(List.length lt) : Int) == (0 : Int) then some (.bool false) else bif ltInt (0 : Int) (↑(List.length lt) : Int) then kOpt (List.get?Internal lt 
  0) fun (row : List AV) => bif Nat.beq (List.length row) 4 then bif Nat.ble 4 (List.length row) then kTmC (List.take 4 row) fun (n n_1 : Int) (s : List UInt8) (rows : List (List AV)) 
  => (bif leInt (1 : Int) (↑(List.length lt) : Int) then bif rowsOk 4 lt then bif n == (7 : Int) then bif (↑(List.length (List.take (List.length lt - 1) (List.drop 1 lt))) : Int) == (0 
  : Int) then kOpt (EVs (EV cfg) 77 [.sl rows, .sl V]) fun (v : AV) => kBool v fun (b : Bool) => some (.bool b) else some (.bool false) else bif n != (2 : Int) then some (.bool false) 
  else bif s == [(99 : UInt8), (111 : UInt8), (110 : UInt8), (115 : UInt8), (116 : UInt8)] then some (.bool ((↑(List.length (List.take (List.length lt - 1) (List.drop 1 lt))) : Int) == 
  (1 : Int))) else kOpt (EVf (EV cfg) 78 [.str s]) fun (v : AV) => kSl v fun (rows : List (List AV)) => kOpt (EVs (EV cfg) 76 [.sl rows, .int .i64 (↑(List.length (List.take (List.length 
  lt - 1) (List.drop 1 lt))) : Int)]) fun (v : AV) => kBool v fun (b : Bool) => bif b then kOpt (EVs (EV cfg) 77 [.sl (List.take (List.length lt - 1) (List.drop 1 lt)), .sl V]) fun (v 
  : AV) => kBool v fun (b : Bool) => some (.bool b) else some (.bool false) else none else none) else none else none else none else some (.bool true)) P) : Gets (EVs (EV cfg) 67 ([AV.agg [AV.int IntKind.i64 kt, AV.int IntKind.i64 nt, AV.str st, AV.sl lt], AV.sl V] : List AV)) P :=
  Gets.ev (fun _ h => funS rfl rfl Try.func67 rfl h) (Gets.eq (by kernel_rfl) h)
theorem guardAll_run (L : List (List AV)) (V : List (List AV)) {P : AV → Prop} (h : Gets (kOpt (EVs (EV cfg) 83 [.sl L, AV.fn (Fn.func 84) [] [AV.cptr [.sl V] 0]]) fun (v : AV) => kBool v fun (b : Bool) => some (.bool !b)) P) : Gets (EVs (EV cfg) 77 ([AV.sl L, AV.sl V] : List AV)) P :=
  Gets.ev (fun _ h => funS rfl rfl Try.func77 rfl h) (Gets.eq (by kernel_rfl) h)
theorem guardCheck_run (kt : Int) (nt : Int) (st : List UInt8) (lt : List (List AV)) (V : List (List AV)) {P : AV → Prop} (h : Gets (kOpt (EVs (EV cfg) 35 [.agg [.int .i64 kt, .int .i64 nt, .str st, .sl lt]]) fun (v : AV) => kInt .i64 v fun (n : Int) => bif n != (0 : Int) then some (.int .i64 (2 : Int)) else kOpt 
  (EVs (EV cfg) 67 [.agg [.int .i64 kt, .int .i64 nt, .str st, .sl lt], .sl V]) fun (v : AV) => kBool v fun (b : Bool) => bif !b then some (.int .i64 (10 : Int)) else some (.int .i64 
  (0 : Int))) P) : Gets (EVs (EV cfg) 59 ([AV.agg [AV.int IntKind.i64 kt, AV.int IntKind.i64 nt, AV.str st, AV.sl lt], AV.sl V] : List AV)) P :=
  Gets.ev (fun _ h => funS rfl rfl Try.func59 rfl h) (Gets.eq (by kernel_rfl) h)
theorem mWhole_run (ke : Int) (ne : Int) (se : List UInt8) (le : List (List AV)) (bd : List (List AV)) (self : Int) (bad : Bool) (kt : Int) (nt : Int) (st : List UInt8) (lt : List (List AV)) {P : AV × List (List AV) → Prop} (h : Gets (bif bad then kOpt (EVd (EV cfg) 79 [.ptr 0 0 0] 7 [[.int .i64 ke, .int .i64 ne, .str se, .sl le, .sl bd, .int .i64 self, .bool bad]]) fun (q : AV × List (List AV)) => kTmV q.1 fun (n 
  n_1 : Int) (s : List UInt8) (rows : List (List AV)) => (some (.agg [.int .i64 n, .int .i64 n_1, .str s, .sl rows], q.2)) else kOpt (EVs (EV cfg) 35 [.agg [.int .i64 kt, .int .i64 nt, 
  .str st, .sl lt]]) fun (v : AV) => kInt .i64 v fun (n : Int) => bif n != (0 : Int) then kOpt (EVd (EV cfg) 79 [.ptr 0 0 0] 7 [[.int .i64 ke, .int .i64 ne, .str se, .sl le, .sl bd, .int 
  .i64 self, .bool bad]]) fun (q : AV × List (List AV)) => kTmV q.1 fun (n n_1 : Int) (s : List UInt8) (rows : List (List AV)) => (some (.agg [.int .i64 n, .int .i64 n_1, .str s, .sl 
  rows], q.2)) else some (.agg [.int .i64 kt, .int .i64 nt, .str st, .sl lt], [[.int .i64 ke, .int .i64 ne, .str se, .sl le, .sl bd, .int .i64 self, .bool bad]])) P) : Gets (EVd (EV cfg) 70 ([AV.ptr (0 : Nat) (0 : Nat) (0 : Nat), AV.agg [AV.int IntKind.i64 kt, AV.int IntKind.i64 nt, AV.str st, AV.sl lt]] : List AV) 7 [[AV.int .i64 ke, AV.int .i64 ne, AV.str se, AV.sl le, AV.sl bd, AV.int .i64 self, AV.bool bad]]) P :=
  Gets.ev (fun _ h => funD rfl rfl Try.func70 rfl h) (Gets.eq (by kernel_rfl) h)
theorem mValues_run (ke : Int) (ne : Int) (se : List UInt8) (le : List (List AV)) (bd : List (List AV)) (self : Int) (bad : Bool) (L : List (List AV)) {P : AV × List (List AV) → Prop} (h : Gets (ws62_0 L 0 (0 : Int) [[.int .i64 ke, .int .i64 ne, .str se, .sl le, .sl bd, .int .i64 self, .bool bad]] []) P) : Gets (EVd (EV cfg) 72 ([AV.ptr (0 : Nat) (0 : Nat) (0 : Nat), AV.sl L] : List AV) 7 [[AV.int .i64 ke, AV.int .i64 ne, AV.str se, AV.sl le, AV.sl bd, AV.int .i64 self, AV.bool bad]]) P :=
  Gets.ev (fun _ h => funD rfl rfl Try.func72 rfl h) (Gets.eq (by kernel_rfl) h)
theorem mValue_run (ke : Int) (ne : Int) (se : List UInt8) (le : List (List AV)) (bd : List (List AV)) (self : Int) (bad : Bool) (kt : Int) (nt : Int) (st : List UInt8) (lt : List (List AV)) {P : AV × List (List AV) → Prop} (h : Gets (bif kt == (2 : Int) then kOpt (EVs (EV cfg) 64 [.agg [.int .i64 kt, .int .i64 nt, .str st, .sl lt]]) fun (v : AV) => kTup v fun (cs : List AV) => kCons cs fun (c : AV) (cs : List AV) 
  => kInt .i64 c fun (n : Int) => kCons cs fun (c : AV) (cs : List AV) => kBool c fun (b : Bool) => kNil cs (bif b then kOpt (EVf (EV cfg) 69 [.sl bd, .int .i64 n]) fun (v : AV) => kTup 
  v fun (cs : List AV) => kCons cs fun (c : AV) (cs : List AV) => kAgg c fun (cs_1 : List AV) => kCons cs_1 fun (c : AV) (cs_2 : List AV) => kInt .i64 c fun (n : Int) => kCons cs_2 fun 
  (c : AV) (cs_3 : List AV) => kInt .i64 c fun (n_1 : Int) => kCons cs_3 fun (c : AV) (cs_4 : List AV) => kStr c fun (s : List UInt8) => kCons cs_4 fun (c : AV) (cs_5 : List AV) => kSl 
  c fun (rows : List (List AV)) => kNil cs_5 (kCons cs fun (c : AV) (cs : List AV) => kBool c fun (b : Bool) => kNil cs (some (.agg [.int .i64 n, .int .i64 n_1, .str s, .sl rows], [[.int 
  .i64 ke, .int .i64 ne, .str se, .sl le, .sl bd, .int .i64 self, .bool bad]]))) else bif st == [(36 : UInt8), (95 : UInt8)] then some (.agg [.int .i64 ke, .int .i64 ne, .str se, .sl 
  le], [[.int .i64 ke, .int .i64 ne, .str se, .sl le, .sl bd, .int .i64 self, .bool bad]]) else bif st == [(36 : UInt8), (36 : UInt8)] then kOpt (EVd (EV cfg) 71 [.ptr 0 0 0] 7 [[.int 
  .i64 ke, .int .i64 ne, .str se, .sl le, .sl bd, .int .i64 self, .bool bad]]) fun (q : AV × List (List AV)) => kTmV q.1 fun (n n_1 : Int) (s : List UInt8) (rows : List (List AV)) => 
  (kOpt (EVd (EV cfg) 70 [.ptr 0 0 0, .agg [.int .i64 n, .int .i64 n_1, .str s, .sl rows]] 7 q.2) fun (q : AV × List (List AV)) => kTmV q.1 fun (n n_2 : Int) (s : List UInt8) (rows : 
  List (List AV)) => (some (.agg [.int .i64 n, .int .i64 n_2, .str s, .sl rows], q.2))) else some (.agg [.int .i64 kt, .int .i64 nt, .str st, .sl lt], [[.int .i64 ke, .int .i64 ne, .str 
  se, .sl le, .sl bd, .int .i64 self, .bool bad]])) else bif kt == (9 : Int) then kOpt (EVd (EV cfg) 72 [.ptr 0 0 0, .sl lt] 7 [[.int .i64 ke, .int .i64 ne, .str se, .sl le, .sl bd, .int 
  .i64 self, .bool bad]]) fun (q : AV × List (List AV)) => kSl q.1 fun (rows : List (List AV)) => kOpt (EVd (EV cfg) 70 [.ptr 0 0 0, .agg [.int .i64 (9 : Int), .int .i64 (0 : Int), .str 
  [], .sl rows]] 7 q.2) fun (q : AV × List (List AV)) => kTmV q.1 fun (n n_1 : Int) (s : List UInt8) (rows : List (List AV)) => (some (.agg [.int .i64 n, .int .i64 n_1, .str s, .sl rows], 
  q.2)) else bif kt == (7 : Int) then bif ltInt (0 : Int) (↑(List.length lt) : Int) then kOpt (List.get?Internal lt 0) fun (row : List AV) => bif Nat.beq (List.length row) 4 then bif 
  Nat.ble 4 (List.length row) then kTmC (List.take 4 row) fun (n n_1 : Int) (s : List UInt8) (rows : List (List AV)) => (bif n == (7 : Int) then kOpt (EVd (EV cfg) 72 [.ptr 0 0 0, .sl 
  rows] 7 [[.int .i64 ke, .int .i64 ne, .str se, .sl le, .sl bd, .int .i64 self, .bool bad]]) fun (q : AV × List (List AV)) => kSl q.1 fun (rows : List (List AV)) => kOpt (EVd (EV cfg) 
  70 [.ptr 0 0 0, .agg [.int .i64 (7 : Int), .int .i64 (0 : Int), .str [], .sl rows]] 7 q.2) fun (q : AV × List (List AV)) => kTmV q.1 fun (n n_2 : Int) (s : List UInt8) (rows : List 
  (List AV)) => (some (.agg [.int .i64 n, .int .i64 n_2, .str s, .sl rows], q.2)) else bif s == [(99 : UInt8), (111 : UInt8), (110 : UInt8), (115 : UInt8), (116 : UInt8)] then bif ltInt 
  (1 : Int) (↑(List.length lt) : Int) then kOpt (List.get?Internal lt 1) fun (row : List AV) => bif Nat.beq (List.length row) 4 then bif Nat.ble 4 (List.length row) then kTmC (List.take 
  4 row) fun (n n_2 : Int) (s : List UInt8) (rows : List (List AV)) => (some (.agg [.int .i64 n, .int .i64 n_2, .str s, .sl rows], [[.int .i64 ke, .int .i64 ne, .str se, .sl le, .sl bd, 
  .int .i64 self, .bool bad]])) else none else none else none else bif s == [(97 : UInt8), (110 : UInt8), (100 : UInt8), (97 : UInt8), (108 : UInt8), (115 : UInt8), (111 : UInt8)] then 
  bif ltInt (1 : Int) (↑(List.length lt) : Int) then kOpt (List.get?Internal lt 1) fun (row : List AV) => bif Nat.beq (List.length row) 4 then bif Nat.ble 4 (List.length row) then kTmC 
  (List.take 4 row) fun (n n_2 : Int) (s_1 : List UInt8) (rows : List (List AV)) => (kOpt (EVd (EV cfg) 63 [.ptr 0 0 0, .agg [.int .i64 n, .int .i64 n_2, .str s_1, .sl rows]] 7 [[.int 
  .i64 ke, .int .i64 ne, .str se, .sl le, .sl bd, .int .i64 self, .bool bad]]) fun (q : AV × List (List AV)) => kTmV q.1 fun (n n_3 : Int) (s_2 : List UInt8) (rows : List (List AV)) => 
  (kOpt (List.get?Internal q.2 0) fun (row : List AV) => kOpt (List.get?Internal row 6) fun (v : AV) => kBool v fun (b : Bool) => bif b then some (.agg [.int .i64 n, .int .i64 n_3, .str 
  s_2, .sl rows], q.2) else kOpt (EVm (EV cfg) 73 [.ptr 0 0 0, .agg [.int .i64 n, .int .i64 n_3, .str s_2, .sl rows]] 7 q.2) fun (q : MV × List (List AV)) => kMBool q.1 fun (b : Bool) 
  => bif !b == (s == [(97 : UInt8), (110 : UInt8), (100 : UInt8), (97 : UInt8), (108 : UInt8), (115 : UInt8), (111 : UInt8)]) then some (.agg [.int .i64 n, .int .i64 n_3, .str s_2, .sl 
  rows], q.2) else kOpt (List.get?Internal q.2 0) fun (row : List AV) => kOpt (List.get?Internal row 6) fun (v : AV) => kBool v fun (b : Bool) => bif b then some (.agg [.int .i64 n, .int 
  .i64 n_3, .str s_2, .sl rows], q.2) else bif ltInt (2 : Int) (↑(List.length lt) : Int) then kOpt (List.get?Internal lt 2) fun (row : List AV) => bif Nat.beq (List.length row) 4 then 
  bif Nat.ble 4 (List.length row) then kTmC (List.take 4 row) fun (n n_4 : Int) (s : List UInt8) (rows : List (List AV)) => (kOpt (EVd (EV cfg) 63 [.ptr 0 0 0, AV.agg [.int .i64 n, .int 
  .i64 n_4, .str s, .sl rows]] 7 q.2) fun (q : AV × List (List AV)) => kTmV q.1 fun (n n_5 : Int) (s : List UInt8) (rows : List (List AV)) => (kOpt (List.get?Internal q.2 0) fun (row 
  : List AV) => kOpt (List.get?Internal row 6) fun (v : AV) => kBool v fun (b : Bool) => bif !b then kOpt (EVm (EV cfg) 73 [.ptr 0 0 0, AV.agg [.int .i64 n, .int .i64 n_5, .str s, .sl 
  rows]] 7 q.2) fun (q : MV × List (List AV)) => kMBool q.1 fun (b : Bool) => some (AV.agg [.int .i64 n, .int .i64 n_5, .str s, .sl rows], q.2) else some (AV.agg [.int .i64 n, .int .i64 
  n_5, .str s, .sl rows], q.2))) else none else none else none)) else none else none else none else bif s == [(111 : UInt8), (114 : UInt8), (101 : UInt8), (108 : UInt8), (115 : UInt8), 
  (101 : UInt8)] then bif ltInt (1 : Int) (↑(List.length lt) : Int) then kOpt (List.get?Internal lt 1) fun (row : List AV) => bif Nat.beq (List.length row) 4 then bif Nat.ble 4 (List.length 
  row) then kTmC (List.take 4 row) fun (n n_2 : Int) (s_1 : List UInt8) (rows : List (List AV)) => (kOpt (EVd (EV cfg) 63 [.ptr 0 0 0, .agg [.int .i64 n, .int .i64 n_2, .str s_1, .sl 
  rows]] 7 [[.int .i64 ke, .int .i64 ne, .str se, .sl le, .sl bd, .int .i64 self, .bool bad]]) fun (q : AV × List (List AV)) => kTmV q.1 fun (n n_3 : Int) (s_2 : List UInt8) (rows : List 
  (List AV)) => (kOpt (List.get?Internal q.2 0) fun (row : List AV) => kOpt (List.get?Internal row 6) fun (v : AV) => kBool v fun (b : Bool) => bif b then some (.agg [.int .i64 n, .int 
  .i64 n_3, .str s_2, .sl rows], q.2) else kOpt (EVm (EV cfg) 73 [.ptr 0 0 0, .agg [.int .i64 n, .int .i64 n_3, .str s_2, .sl rows]] 7 q.2) fun (q : MV × List (List AV)) => kMBool q.1 
  fun (b : Bool) => bif !b == (s == [(97 : UInt8), (110 : UInt8), (100 : UInt8), (97 : UInt8), (108 : UInt8), (115 : UInt8), (111 : UInt8)]) then some (.agg [.int .i64 n, .int .i64 n_3, 
  .str s_2, .sl rows], q.2) else kOpt (List.get?Internal q.2 0) fun (row : List AV) => kOpt (List.get?Internal row 6) fun (v : AV) => kBool v fun (b : Bool) => bif b then some (.agg [.int 
  .i64 n, .int .i64 n_3, .str s_2, .sl rows], q.2) else bif ltInt (2 : Int) (↑(List.length lt) : Int) then kOpt (List.get?Internal lt 2) fun (row : List AV) => bif Nat.beq (List.length 
  row) 4 then bif Nat.ble 4 (List.length row) then kTmC (List.take 4 row) fun (n n_4 : Int) (s : List UInt8) (rows : List (List AV)) => (kOpt (EVd (EV cfg) 63 [.ptr 0 0 0, AV.agg [.int 
  .i64 n, .int .i64 n_4, .str s, .sl rows]] 7 q.2) fun (q : AV × List (List AV)) => kTmV q.1 fun (n n_5 : Int) (s : List UInt8) (rows : List (List AV)) => (kOpt (List.get?Internal q.2 
  0) fun (row : List AV) => kOpt (List.get?Internal row 6) fun (v : AV) => kBool v fun (b : Bool) => bif !b then kOpt (EVm (EV cfg) 73 [.ptr 0 0 0, AV.agg [.int .i64 n, .int .i64 n_5, 
  .str s, .sl rows]] 7 q.2) fun (q : MV × List (List AV)) => kMBool q.1 fun (b : Bool) => some (AV.agg [.int .i64 n, .int .i64 n_5, .str s, .sl rows], q.2) else some (AV.agg [.int .i64 
  n, .int .i64 n_5, .str s, .sl rows], q.2))) else none else none else none)) else none else none else none else bif leInt (1 : Int) (↑(List.length lt) : Int) then bif rowsOk 4 lt then 
  kOpt (EVd (EV cfg) 72 [.ptr 0 0 0, .sl (List.take (List.length lt - 1) (List.drop 1 lt))] 7 [[.int .i64 ke, .int .i64 ne, .str se, .sl le, .sl bd, .int .i64 self, .bool bad]]) fun (q 
  : AV × List (List AV)) => kSl q.1 fun (rows : List (List AV)) => kOpt (List.get?Internal q.2 0) fun (row : List AV) => kOpt (List.get?Internal row 6) fun (v : AV) => kBool v fun (b 
  : Bool) => bif b then some (.agg [.int .i64 (0 : Int), .int .i64 (0 : Int), .str [], .sl []], q.2) else kOpt (EVd (EV cfg) 74 [.ptr 0 0 0, .str s, .sl rows] 7 q.2) fun (q : AV × List 
  (List AV)) => kTmV q.1 fun (n n_2 : Int) (s : List UInt8) (rows : List (List AV)) => (kOpt (EVd (EV cfg) 70 [.ptr 0 0 0, .agg [.int .i64 n, .int .i64 n_2, .str s, .sl rows]] 7 q.2) 
  fun (q : AV × List (List AV)) => kTmV q.1 fun (n n_3 : Int) (s : List UInt8) (rows : List (List AV)) => (some (.agg [.int .i64 n, .int .i64 n_3, .str s, .sl rows], q.2))) else none 
  else none) else none else none else none else some (.agg [.int .i64 kt, .int .i64 nt, .str st, .sl lt], [[.int .i64 ke, .int .i64 ne, .str se, .sl le, .sl bd, .int .i64 self, .bool 
  bad]])) P) : Gets (EVd (EV cfg) 63 ([AV.ptr (0 : Nat) (0 : Nat) (0 : Nat), AV.agg [AV.int IntKind.i64 kt, AV.int IntKind.i64 nt, AV.str st, AV.sl lt]] : List AV) 7 [[AV.int .i64 ke, AV.int .i64 ne, AV.str se, AV.sl le, AV.sl bd, AV.int .i64 self, AV.bool bad]]) P :=
  Gets.ev (fun _ h => funD rfl rfl Try.func63 rfl h) (Gets.eq (by kernel_rfl) h)
theorem mBound_run (ke : Int) (ne : Int) (se : List UInt8) (le : List (List AV)) (bd : List (List AV)) (self : Int) (bad : Bool) {P : AV × List (List AV) → Prop} (h : Gets (ws61_0 bd 0 (0 : Int) [[.int .i64 ke, .int .i64 ne, .str se, .sl le, .sl bd, .int .i64 self, .bool bad]] (0 : Int) (0 : Int) [] [] []) P) : Gets (EVd (EV cfg) 71 ([AV.ptr (0 : Nat) (0 : Nat) (0 : Nat)] : List AV) 7 [[AV.int .i64 ke, AV.int .i64 ne, AV.str se, AV.sl le, AV.sl bd, AV.int .i64 self, AV.bool bad]]) P :=
  Gets.ev (fun _ h => funD rfl rfl Try.func71 rfl h) (Gets.eq (by kernel_rfl) h)
theorem gEval_run (kt : Int) (nt : Int) (st : List UInt8) (lt : List (List AV)) (ke : Int) (ne : Int) (se : List UInt8) (le : List (List AV)) (bd : List (List AV)) (self : Int) {P : AV → Prop} (h : Gets (kOpt (EVf (EV cfg) 62 [.agg [.int .i64 ke, .int .i64 ne, .str se, .sl le, .sl bd, .int .i64 self]]) fun (v : AV) => kTup v fun (cs : List AV) => kCons cs fun (c : AV) (cs : List AV) 
  => kSl c fun (rows : List (List AV)) => kCons cs fun (c : AV) (cs : List AV) => kBool c fun (b : Bool) => kNil cs (bif !b then some (AV.tup [.agg [.int .i64 (0 : Int), .int .i64 (0 
  : Int), .str [], .sl []], .int .i64 (2 : Int)]) else kOpt (EVs (EV cfg) 59 [.agg [.int .i64 kt, .int .i64 nt, .str st, .sl lt], .sl rows]) fun (v : AV) => kInt .i64 v fun (n : Int) 
  => bif n != (0 : Int) then some (AV.tup [.agg [.int .i64 (0 : Int), .int .i64 (0 : Int), .str [], .sl []], .int .i64 (2 : Int)]) else kOpt (EVd (EV cfg) 63 [.ptr 0 0 0, .agg [.int .i64 
  kt, .int .i64 nt, .str st, .sl lt]] 7 [[.int .i64 ke, .int .i64 ne, .str se, .sl le, .sl bd, .int .i64 self, .bool false]]) fun (q : AV × List (List AV)) => kTmV q.1 fun (n n_1 : Int) 
  (s : List UInt8) (rows : List (List AV)) => (kOpt (List.get?Internal q.2 0) fun (row : List AV) => kOpt (List.get?Internal row 6) fun (v : AV) => kBool v fun (b : Bool) => bif b then 
  some (AV.tup [.agg [.int .i64 (0 : Int), .int .i64 (0 : Int), .str [], .sl []], .int .i64 (10 : Int)]) else kOpt (EVf (EV cfg) 29 [.agg [.int .i64 n, .int .i64 n_1, .str s, .sl rows]]) 
  fun (v : AV) => kTmV v fun (n n_2 : Int) (s : List UInt8) (rows : List (List AV)) => (some (AV.tup [.agg [.int .i64 n, .int .i64 n_2, .str s, .sl rows], .int .i64 (0 : Int)]))))) P) : Gets (EVf (EV cfg) 50 ([AV.agg [AV.int IntKind.i64 kt, AV.int IntKind.i64 nt, AV.str st, AV.sl lt], AV.agg [AV.int IntKind.i64 ke, AV.int IntKind.i64 ne, AV.str se, AV.sl le, AV.sl bd, AV.int IntKind.i64 self]] : List AV)) P :=
  Gets.ev (fun _ h => funF rfl rfl Try.func50 rfl h) (Gets.eq (by kernel_rfl) h)
theorem gHolds_run (L : List (List AV)) (ke : Int) (ne : Int) (se : List UInt8) (le : List (List AV)) (bd : List (List AV)) (self : Int) {P : AV → Prop} (h : Gets (kOpt (EVf (EV cfg) 62 [.agg [.int .i64 ke, .int .i64 ne, .str se, .sl le, .sl bd, .int .i64 self]]) fun (v : AV) => kTup v fun (cs : List AV) => kCons cs fun (c : AV) (cs : List AV) 
  => kSl c fun (rows : List (List AV)) => kCons cs fun (c : AV) (cs : List AV) => kBool c fun (b : Bool) => kNil cs (ws25_0 L b (0 : Int) ke ne se le bd self)) P) : Gets (EVs (EV cfg) 49 ([AV.sl L, AV.agg [AV.int IntKind.i64 ke, AV.int IntKind.i64 ne, AV.str se, AV.sl le, AV.sl bd, AV.int IntKind.i64 self]] : List AV)) P :=
  Gets.ev (fun _ h => funS rfl rfl Try.func49 rfl h) (Gets.eq (by kernel_rfl) h)
theorem makeList_run (L : List (List AV)) (kt : Int) (nt : Int) (st : List UInt8) (lt : List (List AV)) {P : AV → Prop} (h : Gets (ws78_0 (IntKind.wrap .i64 ((↑(List.length L) : Int) - (1 : Int))) kt nt st lt (0 : Int) (0 : Int) [] [] L) P) : Gets (EVf (EV cfg) 32 ([AV.sl L, AV.agg [AV.int IntKind.i64 kt, AV.int IntKind.i64 nt, AV.str st, AV.sl lt]] : List AV)) P :=
  Gets.ev (fun _ h => funF rfl rfl Try.func32 rfl h) (Gets.eq (by kernel_rfl) h)
theorem ws41_0_step (bd : List (List AV)) (nv4 : Nat) (v5 : Int) (v11 : Int) (c0_0 : Int) (c0_1 : Int) (c0_2 : List UInt8) (c0_3 : List (List AV)) (c0_4 : List (List AV)) (c0_5 : Int) (h1 : List (List AV)) {P : AV → Prop} (h : Gets (bif decide (v11 < (↑(List.length bd) : Int)) then bif leInt (0 : Int) v11 && ltInt v11 (↑(List.length bd) : Int) then kOpt (List.get?Internal bd (Int.toNat v11)) fun (row : List AV) 
  => bif Nat.beq (List.length row) 5 then bif Nat.ble 5 (List.length row) then kCons (List.take 5 row) fun (c : AV) (cs : List AV) => kInt .i64 c fun (n : Int) => kTmC cs fun (n_1 n_2 
  : Int) (s : List UInt8) (rows : List (List AV)) => (bif decide (n ≤ v5) then some (AV.tup [.sl [], .bool false]) else bif decide (n > (99 : Int)) then some (AV.tup [.sl [], .bool false]) 
  else kOpt (EVs (EV cfg) 35 [.agg [.int .i64 n_1, .int .i64 n_2, .str s, .sl rows]]) fun (v : AV) => kInt .i64 v fun (n_3 : Int) => bif n_3 != (0 : Int) then some (AV.tup [.sl [], .bool 
  false]) else bif Nat.ble (0 + nv4) (List.length h1) && fitsIn (nv4 + 1) 8 then ws41_0 bd (nv4 + 1) n (IntKind.wrap .i64 (v11 + (1 : Int))) c0_0 c0_1 c0_2 c0_3 c0_4 c0_5 (List.append 
  (List.take nv4 h1) [[.int .i64 n]]) else none) else none else none else none else kOpt (EVs (EV cfg) 35 [.agg [.int .i64 c0_0, .int .i64 c0_1, .str c0_2, .sl c0_3]]) fun (v : AV) => 
  kInt .i64 v fun (n : Int) => bif n == (0 : Int) then kOpt (EVs (EV cfg) 68 [.int .i64 c0_5]) fun (v : AV) => kBool v fun (b : Bool) => bif Nat.ble (0 + nv4) (List.length h1) && true 
  then some (AV.tup [.sl (List.take nv4 h1), .bool b]) else none else bif Nat.ble (0 + nv4) (List.length h1) && true then some (AV.tup [.sl (List.take nv4 h1), .bool false]) else none) P) : Gets (ws41_0 bd nv4 v5 v11 c0_0 c0_1 c0_2 c0_3 c0_4 c0_5 h1) P :=
  Gets.ev (fun _ h => loop_step (cfg := cfg) (f := 62) (rd := none) (bs := 0) h) (Gets.eq (by kernel_rfl) h)
theorem ws62_0_step (L : List (List AV)) (nv5 : Nat) (v10 : Int) (h0 : List (List AV)) (h1 : List (List AV)) {P : AV × List (List AV) → Prop} (h : Gets (bif decide (v10 < (↑(List.length L) : Int)) then bif leInt (0 : Int) v10 && ltInt v10 (↑(List.length L) : Int) then kOpt (List.get?Internal L (Int.toNat v10)) fun (row : List AV) => 
  bif Nat.beq (List.length row) 4 then bif Nat.ble 4 (List.length row) then kTmC (List.take 4 row) fun (n n_1 : Int) (s : List UInt8) (rows : List (List AV)) => (kOpt (List.get?Internal 
  h0 0) fun (row : List AV) => kOpt (List.get?Internal row 6) fun (v : AV) => kBool v fun (b : Bool) => bif b then some (.sl [], h0) else kOpt (EVd (EV cfg) 63 [.ptr 0 0 0, .agg [.int 
  .i64 n, .int .i64 n_1, .str s, .sl rows]] 7 h0) fun (q : AV × List (List AV)) => kTmV q.1 fun (n n_2 : Int) (s : List UInt8) (rows : List (List AV)) => (bif Nat.ble (0 + nv5) (List.length 
  h1) && fitsIn (nv5 + 1) 56 then ws62_0 L (nv5 + 1) (IntKind.wrap .i64 (v10 + (1 : Int))) q.2 (List.append (List.take nv5 h1) [[.int .i64 n, .int .i64 n_2, .str s, .sl rows]]) else none)) 
  else none else none else none else bif Nat.ble (0 + nv5) (List.length h1) && true then some (.sl (List.take nv5 h1), h0) else none) P) : Gets (ws62_0 L nv5 v10 h0 h1) P :=
  Gets.ev (fun _ h => loop_step (cfg := cfg) (f := 72) (rd := none) (bs := 1) h) (Gets.eq (by kernel_rfl) h)
theorem ws61_0_step (bd : List (List AV)) (nv3 : Nat) (v12 : Int) (h0 : List (List AV)) (c1_0 : Int) (c1_1 : Int) (c1_2 : List UInt8) (c1_3 : List (List AV)) (h2 : List (List AV)) {P : AV × List (List AV) → Prop} (h : Gets (bif decide (v12 < (↑(List.length bd) : Int)) then bif leInt (0 : Int) v12 && ltInt v12 (↑(List.length bd) : Int) then kOpt (List.get?Internal bd (Int.toNat v12)) fun (row : List AV) 
  => bif Nat.beq (List.length row) 5 then bif Nat.ble 5 (List.length row) then kCons (List.take 5 row) fun (c : AV) (cs : List AV) => kInt .i64 c fun (n : Int) => kTmC cs fun (n n_1 : 
  Int) (s : List UInt8) (rows : List (List AV)) => (bif Nat.ble (0 + nv3) (List.length h2) && fitsIn (nv3 + 1) 56 then ws61_0 bd (nv3 + 1) (IntKind.wrap .i64 (v12 + (1 : Int))) h0 c1_0 
  c1_1 c1_2 c1_3 (List.append (List.take nv3 h2) [[.int .i64 n, .int .i64 n_1, .str s, .sl rows]]) else none) else none else none else none else bif Nat.ble (0 + nv3) (List.length h2) 
  && true then kOpt (EVf (EV cfg) 32 [.sl (List.take nv3 h2), .agg [.int .i64 (8 : Int), .int .i64 (0 : Int), .str [], .sl []]]) fun (v : AV) => kTmV v fun (n n_1 : Int) (s : List UInt8) 
  (rows : List (List AV)) => (some (.agg [.int .i64 n, .int .i64 n_1, .str s, .sl rows], h0)) else none) P) : Gets (ws61_0 bd nv3 v12 h0 c1_0 c1_1 c1_2 c1_3 h2) P :=
  Gets.ev (fun _ h => loop_step (cfg := cfg) (f := 71) (rd := none) (bs := 1) h) (Gets.eq (by kernel_rfl) h)
theorem ws25_0_step (L : List (List AV)) (b : Bool) (v18 : Int) (c0_0 : Int) (c0_1 : Int) (c0_2 : List UInt8) (c0_3 : List (List AV)) (c0_4 : List (List AV)) (c0_5 : Int) {P : AV → Prop} (h : Gets (bif decide (v18 < (↑(List.length L) : Int)) then bif leInt (0 : Int) v18 && ltInt v18 (↑(List.length L) : Int) then kOpt (List.get?Internal L (Int.toNat v18)) fun (row : List AV) => 
  bif Nat.beq (List.length row) 4 then bif Nat.ble 4 (List.length row) then kTmC (List.take 4 row) fun (n n_1 : Int) (s : List UInt8) (rows : List (List AV)) => (kOpt (EVf (EV cfg) 50 
  [.agg [.int .i64 n, .int .i64 n_1, .str s, .sl rows], .agg [.int .i64 c0_0, .int .i64 c0_1, .str c0_2, .sl c0_3, .sl c0_4, .int .i64 c0_5]]) fun (v : AV) => kTup v fun (cs : List AV) 
  => kCons cs fun (c : AV) (cs : List AV) => kAgg c fun (cs_1 : List AV) => kCons cs_1 fun (c : AV) (cs_2 : List AV) => kInt .i64 c fun (n : Int) => kCons cs_2 fun (c : AV) (cs_3 : List 
  AV) => kInt .i64 c fun (n_2 : Int) => kCons cs_3 fun (c : AV) (cs_4 : List AV) => kStr c fun (s : List UInt8) => kCons cs_4 fun (c : AV) (cs_5 : List AV) => kSl c fun (rows : List (List 
  AV)) => kNil cs_5 (kCons cs fun (c : AV) (cs : List AV) => kInt .i64 c fun (n_3 : Int) => kNil cs (bif n_3 != (0 : Int) then some (.bool false) else bif n != (2 : Int) then some (.bool 
  false) else bif !s == [(116 : UInt8), (114 : UInt8), (117 : UInt8), (101 : UInt8)] then some (.bool false) else ws25_0 L b (IntKind.wrap .i64 (v18 + (1 : Int))) c0_0 c0_1 c0_2 c0_3 
  c0_4 c0_5))) else none else none else none else some (.bool b)) P) : Gets (ws25_0 L b v18 c0_0 c0_1 c0_2 c0_3 c0_4 c0_5) P :=
  Gets.ev (fun _ h => loop_step (cfg := cfg) (f := 49) (rd := none) (bs := 0) h) (Gets.eq (by kernel_rfl) h)
theorem ws78_0_step (v3 : Int) (c0_0 : Int) (c0_1 : Int) (c0_2 : List UInt8) (c0_3 : List (List AV)) (c1_0 : Int) (c1_1 : Int) (c1_2 : List UInt8) (c1_3 : List (List AV)) (c2_0 : List (List AV)) {P : AV → Prop} (h : Gets (bif decide (v3 ≥ (0 : Int)) then bif leInt (0 : Int) v3 && ltInt v3 (↑(List.length c2_0) : Int) then kOpt (List.get?Internal c2_0 (Int.toNat v3)) fun (row : List AV) => bif Nat.beq 
  (List.length row) 4 then bif Nat.ble 4 (List.length row) then kTmC (List.take 4 row) fun (n n_1 : Int) (s : List UInt8) (rows : List (List AV)) => (ws78_0 (IntKind.wrap .i64 (v3 - (1 
  : Int))) (9 : Int) (0 : Int) [] [[.int .i64 n, .int .i64 n_1, .str s, .sl rows], [.int .i64 c0_0, .int .i64 c0_1, .str c0_2, .sl c0_3]] c1_0 c1_1 c1_2 c1_3 c2_0) else none else none 
  else none else some (.agg [.int .i64 c0_0, .int .i64 c0_1, .str c0_2, .sl c0_3])) P) : Gets (ws78_0 v3 c0_0 c0_1 c0_2 c0_3 c1_0 c1_1 c1_2 c1_3 c2_0) P :=
  Gets.ev (fun _ h => loop_step (cfg := cfg) (f := 60) (rd := none) (bs := 4) h) (Gets.eq (by kernel_rfl) h)
end Go.Proofs.Ytonmmmgffeoiiaa
end

section
namespace Go.Proofs.Ytonmmmgffeoiiaa
open Go.Av
set_option maxRecDepth 100000
set_option maxHeartbeats 0

noncomputable def Lt86_0 : Den := evC cfg (EV cfg) 91 none 0 (sub (bodyOf Try.f91) [1, 0, 1, 0, 0])
noncomputable def At86_0 : Ex × List AV × AH → Option AV := kAft (Cfg.keepOut cfg 91 2) (kRun cfg (EV cfg) (kfN cfg 6) 91 none 0 (kFinS cfg (Cfg.lift cfg 91 0) Try.f91.results.toList) ([.block 0, .seq (sub (bodyOf Try.f91) [1, 1])]))
noncomputable def Wt86_0 : List AV × AH → Option AV := fun p => kOpt (LOOP 0 (some [0, 1, 7, 8]) ([]) Lt86_0 p) At86_0
noncomputable abbrev wt86_0 (L : List (List AV)) (V : List (List AV)) (v8 : Int) : Option (AV) := Wt86_0  (((fx 19 [(0, AV.sl L), (1, AV.fn (Fn.func 84) [] [AV.cptr [AV.sl V] (0 : Nat)]), (7, AV.int IntKind.i64 (↑(List.length L) : Int)), (8, AV.int IntKind.i64 v8)]) : List AV), ([] : AH))
theorem contFunc_run (L : List (List AV)) (V : List (List AV)) {P : AV → Prop} (h : Gets (kOpt (EVs (EV cfg) 91 [.sl L, AV.fn (Fn.func 84) [] [AV.cptr [.sl V] 0]]) fun (v : AV) => kInt .i64 v fun (n : Int) => some (.bool (decide (n ≥ (0 : Int))))) P) : Gets (EVs (EV cfg) 83 ([AV.sl L, AV.fn (Fn.func 84) [] [AV.cptr [AV.sl V] (0 : Nat)]] : List AV)) P :=
  Gets.ev (fun _ h => funS rfl rfl Try.func83 rfl h) (Gets.eq (by kernel_rfl) h)
theorem indFunc_run (L : List (List AV)) (V : List (List AV)) {P : AV → Prop} (h : Gets (wt86_0 L V (0 : Int)) P) : Gets (EVs (EV cfg) 91 ([AV.sl L, AV.fn (Fn.func 84) [] [AV.cptr [AV.sl V] (0 : Nat)]] : List AV)) P :=
  Gets.ev (fun _ h => funS rfl rfl Try.func91 rfl h) (Gets.eq (by kernel_rfl) h)
theorem allIn_run (ke : Int) (ne : Int) (se : List UInt8) (le : List (List AV)) (V : List (List AV)) {P : AV → Prop} (h : Gets (kOpt (EVs (EV cfg) 67 [.agg [.int .i64 ke, .int .i64 ne, .str se, .sl le], .sl V]) fun (v : AV) => kBool v fun (b : Bool) => some (.bool !b)) P) : Gets (EVs (EV cfg) 84 ([AV.agg [AV.int IntKind.i64 ke, AV.int IntKind.i64 ne, AV.str se, AV.sl le], AV.cptr [AV.sl V] (0 : Nat)] : List AV)) P :=
  Gets.ev (fun _ h => funS rfl rfl Try.func84 rfl h) (Gets.eq (by kernel_rfl) h)
theorem wt86_0_step (L : List (List AV)) (V : List (List AV)) (v8 : Int) {P : AV → Prop} (h : Gets (bif decide (v8 < (↑(List.length L) : Int)) then bif leInt (0 : Int) v8 && ltInt v8 (↑(List.length L) : Int) then kOpt (List.get?Internal L (Int.toNat v8)) fun (row : List AV) => bif 
  Nat.beq (List.length row) 4 then bif Nat.ble 4 (List.length row) then kTmC (List.take 4 row) fun (n n_1 : Int) (s : List UInt8) (rows : List (List AV)) => (kOpt (EVs (EV cfg) 84 [.agg 
  [.int .i64 n, .int .i64 n_1, .str s, .sl rows], AV.cptr [.sl V] 0]) fun (v : AV) => kBool v fun (b : Bool) => bif b then some (.int .i64 v8) else wt86_0 L V (IntKind.wrap .i64 (v8 + 
  (1 : Int)))) else none else none else none else some (.int .i64 (-1 : Int))) P) : Gets (wt86_0 L V v8) P :=
  Gets.ev (fun _ h => loop_step (cfg := cfg) (f := 91) (rd := none) (bs := 0) h) (Gets.eq (by kernel_rfl) h)
end Go.Proofs.Ytonmmmgffeoiiaa
end

section
namespace Go.Proofs.Ytonmmmgffeoiiaa
open Go.Av
set_option maxRecDepth 100000
set_option maxHeartbeats 0

noncomputable def Lp71_0 : Den := evC cfg (EV cfg) 52 none 0 (sub (bodyOf Try.f52) [1, 1, 1, 0, 1, 0, 0])
noncomputable def Ap71_0 : Ex × List AV × AH → Option AV := kAft (Cfg.keepOut cfg 52 5) (kRun cfg (EV cfg) (kfN cfg 6) 52 none 0 (kFinS cfg (Cfg.lift cfg 52 0) Try.f52.results.toList) ([.block 0, .seq (sub (bodyOf Try.f52) [1, 1, 1, 1])]))
noncomputable def Wp71_0 : List AV × AH → Option AV := fun p => kOpt (LOOP 0 (some [4, 32, 33, 34]) ([]) Lp71_0 p) Ap71_0
noncomputable abbrev wp71_0 (s : List UInt8) (v4 : Int) (v34 : Int) (h0 : List (List AV)) : Option (AV) := Wp71_0  (((fx 52 [(4, AV.int IntKind.i64 v4), (32, AV.ms (0 : Nat) (0 : Nat) (List.length (List.take (List.length s - (1 : Nat)) (List.drop (1 : Nat) s)))), (33, AV.int IntKind.i64 (↑(List.length (List.take (List.length s - (1 : Nat)) (List.drop (1 : Nat) s))) : Int)), (34, AV.int IntKind.i64 v34)]) : List AV), ([ABlk.rows true (1 : Nat) h0] : AH))
theorem patNumber_run (s : List UInt8) {P : AV → Prop} (h : Gets (bif decide ((↑(List.length s) : Int) < (2 : Int)) then some (AV.tup [.int .i64 (0 : Int), .bool false]) else bif decide ((↑(List.length s) : Int) > (3 : Int)) then some (AV.tup [.int 
  .i64 (0 : Int), .bool false]) else kOpt (List.get?Internal s 0) fun (b : UInt8) => bif (↑(UInt8.toNat b) : Int) != (36 : Int) then some (AV.tup [.int .i64 (0 : Int), .bool false]) else 
  bif (↑(List.length s) : Int) == (3 : Int) then kOpt (List.get?Internal s 1) fun (b : UInt8) => bif (↑(UInt8.toNat b) : Int) == (48 : Int) then some (AV.tup [.int .i64 (0 : Int), .bool 
  false]) else bif leInt (1 : Int) (↑(List.length s) : Int) then wp71_0 s (0 : Int) (0 : Int) (List.map (fun (b : UInt8) => [.int .u8 (↑(UInt8.toNat b) : Int)]) (List.take (List.length 
  s - 1) (List.drop 1 s))) else none else bif leInt (1 : Int) (↑(List.length s) : Int) then wp71_0 s (0 : Int) (0 : Int) (List.map (fun (b : UInt8) => [.int .u8 (↑(UInt8.toNat b) : Int)]) 
  (List.take (List.length s - 1) (List.drop 1 s))) else none) P) : Gets (EVs (EV cfg) 52 ([AV.str s] : List AV)) P :=
  Gets.ev (fun _ h => funS rfl rfl Try.func52 rfl h) (Gets.eq (by kernel_rfl) h)
theorem patMay_run (kt : Int) (nt : Int) (st : List UInt8) (lt : List (List AV)) {P : AV → Prop} (h : Gets (kOpt (EVs (EV cfg) 35 [.agg [.int .i64 kt, .int .i64 nt, .str st, .sl lt]]) fun (v : AV) => kInt .i64 v fun (n : Int) => some (.bool (n == (0 : Int)))) P) : Gets (EVs (EV cfg) 38 ([AV.agg [AV.int IntKind.i64 kt, AV.int IntKind.i64 nt, AV.str st, AV.sl lt]] : List AV)) P :=
  Gets.ev (fun _ h => funS rfl rfl Try.func38 rfl h) (Gets.eq (by kernel_rfl) h)
theorem patVar_run (kt : Int) (nt : Int) (st : List UInt8) (lt : List (List AV)) {P : AV → Prop} (h : Gets (bif kt != (2 : Int) then some (AV.tup [.int .i64 (0 : Int), .bool false]) else kOpt (EVs (EV cfg) 38 [.agg [.int .i64 kt, .int .i64 nt, .str st, .sl lt]]) fun (v : AV) => kBool v fun 
  (b : Bool) => bif !b then some (AV.tup [.int .i64 (0 : Int), .bool false]) else kOpt (EVs (EV cfg) 52 [.str st]) fun (v : AV) => kTup v fun (cs : List AV) => kCons cs fun (c : AV) (cs 
  : List AV) => kInt .i64 c fun (n : Int) => kCons cs fun (c : AV) (cs : List AV) => kBool c fun (b : Bool) => kNil cs (some (AV.tup [.int .i64 n, .bool b]))) P) : Gets (EVs (EV cfg) 64 ([AV.agg [AV.int IntKind.i64 kt, AV.int IntKind.i64 nt, AV.str st, AV.sl lt]] : List AV)) P :=
  Gets.ev (fun _ h => funS rfl rfl Try.func64 rfl h) (Gets.eq (by kernel_rfl) h)
theorem setAdd_run (n : Int) (r : List AV) {P : MV × List (List AV) → Prop} (h : Gets (bif decide (n < (64 : Int)) then kOpt (List.get?Internal r 0) fun (v : AV) => kInt .u64 v fun (n_1 : Int) => kOpt (fromSem (Op.shift BinOp.shl .u64 (1 : Int) .i64 n)) fun (v : AV) => 
  kInt .u64 v fun (n : Int) => kOpt (fromSem (Op.intBits BinOp.or .u64 n_1 n)) fun (v : AV) => kInt .u64 v fun (n : Int) => bif Nat.ble 1 (List.length r) then some (MV.unit, [.int .u64 
  n :: List.drop 1 r]) else none else kOpt (List.get?Internal r 1) fun (v : AV) => kInt .u64 v fun (n_1 : Int) => kOpt (fromSem (Op.shift BinOp.shl .u64 (1 : Int) .i64 (IntKind.wrap .i64 
  (n - (64 : Int))))) fun (v : AV) => kInt .u64 v fun (n : Int) => kOpt (fromSem (Op.intBits BinOp.or .u64 n_1 n)) fun (v : AV) => kInt .u64 v fun (n : Int) => bif Nat.ble 2 (List.length 
  r) then some (MV.unit, [List.append (List.append (List.take 1 r) [.int .u64 n]) (List.drop 2 r)]) else none) P) : Gets (EVm (EV cfg) 51 ([AV.ptr (0 : Nat) (0 : Nat) (0 : Nat), AV.int IntKind.i64 n] : List AV) 402 [r]) P :=
  Gets.ev (fun _ h => funM rfl rfl Try.func51 rfl h) (Gets.eq (by kernel_rfl) h)
theorem setHas_run (n : Int) (r : List AV) {P : AV → Prop} (h : Gets (bif decide (n < (64 : Int)) then kOpt (List.get?Internal r 0) fun (v : AV) => kInt .u64 v fun (n_1 : Int) => kOpt (fromSem (Op.shift BinOp.shr .u64 n_1 .i64 n)) fun (v : AV) => kInt 
  .u64 v fun (n : Int) => kOpt (fromSem (Op.intBits BinOp.and .u64 n (1 : Int))) fun (v : AV) => kInt .u64 v fun (n : Int) => some (.bool (n == (1 : Int))) else kOpt (List.get?Internal 
  r 1) fun (v : AV) => kInt .u64 v fun (n_1 : Int) => kOpt (fromSem (Op.shift BinOp.shr .u64 n_1 .i64 (IntKind.wrap .i64 (n - (64 : Int))))) fun (v : AV) => kInt .u64 v fun (n : Int) 
  => kOpt (fromSem (Op.intBits BinOp.and .u64 n (1 : Int))) fun (v : AV) => kInt .u64 v fun (n : Int) => some (.bool (n == (1 : Int)))) P) : Gets (EVs (EV cfg) 53 ([AV.cptr r (0 : Nat), AV.int IntKind.i64 n] : List AV)) P :=
  Gets.ev (fun _ h => funS rfl rfl Try.func53 rfl h) (Gets.eq (by kernel_rfl) h)
theorem wp71_0_step (s : List UInt8) (v4 : Int) (v34 : Int) (h0 : List (List AV)) {P : AV → Prop} (h : Gets (bif decide (v34 < (↑(List.length (List.take (List.length s - 1) (List.drop 1 s))) : Int)) then bif leInt (0 : Int) v34 && ltInt v34 (↑(List.length (List.take (List.length s - 1) (List.drop 
  1 s))) : Int) then kOpt (List.get?Internal h0 (0 + Int.toNat v34)) fun (row : List AV) => kOpt (List.get?Internal row 0) fun (v : AV) => kInt .u8 v fun (n : Int) => bif decide (n < 
  (48 : Int)) then some (AV.tup [.int .i64 (0 : Int), .bool false]) else bif decide (n > (57 : Int)) then some (AV.tup [.int .i64 (0 : Int), .bool false]) else wp71_0 s (IntKind.wrap 
  .i64 (IntKind.wrap .i64 (v4 * (10 : Int)) + IntKind.wrap .i64 (IntKind.wrap .u8 (n - (48 : Int))))) (IntKind.wrap .i64 (v34 + (1 : Int))) h0 else none else some (AV.tup [.int .i64 v4, 
  .bool true])) P) : Gets (wp71_0 s v4 v34 h0) P :=
  Gets.ev (fun _ h => loop_step (cfg := cfg) (f := 52) (rd := none) (bs := 0) h) (Gets.eq (by kernel_rfl) h)
end Go.Proofs.Ytonmmmgffeoiiaa
end

section
namespace Go.Proofs.Ytonmmmgffeoiiaa
open Go.Av
set_option maxRecDepth 100000
set_option maxHeartbeats 0

noncomputable def Lq33_0 : Den := evC cfg (EV cfg) 61 none 5 (sub (bodyOf Try.f61) [1, 0, 0])
noncomputable def Aq33_0 : Ex × List AV × AH → Option AV := kAft (Cfg.keepOut cfg 61 (firstRid (sub (bodyOf Try.f61) [1, 0, 0]))) (kBlock 0 (kFinG cfg (Cfg.lift cfg 61 0) (fun (v : AV) (H : AH) => (fun (r : AV × AH) => kRangeEnd 0 4 (fx 17 [(2, AV.ptr 1 0 0), (3, AV.ptr 2 0 0)]) (kBlock 0 (kSeq (fun (fr : List AV) (H : AH) => kCutTo (Cfg.cut cfg 35 (firstRid (sub (bodyOf Try.f35) [1, 1, 1]))) fr H fun (fr : List AV) (H : AH) => kCode cfg (EV cfg) (kfN cfg 6) 35 none 0 (sub (bodyOf Try.f35) [1, 1, 1]) fr H (kFinS cfg (Cfg.lift cfg 35 0) (Array.toList (Func.results Try.f35)))) (kFinS cfg (Cfg.lift cfg 35 0) (Array.toList (Func.results Try.f35))))) (Prod.snd r)) (v, H)) (Array.toList (Func.results (Prod.snd (61, Try.f61))))))
noncomputable def Wq33_0 : List AV × AH → Option AV := fun (p : List AV × AH) => kOpt (LOOP 5 (some [0, 3]) [(3, 4)] Lq33_0 p) Aq33_0
noncomputable def Lq33_1 : Den := evC cfg (EV cfg) 60 none 10 (sub (bodyOf Try.f60) [1, 0, 0])
noncomputable def Aq33_1 : Ex × List AV × AH → Option AV := kAft (Cfg.keepOut cfg 60 (firstRid (sub (bodyOf Try.f60) [1, 0, 0]))) (kBlock 0 (kFinG cfg (Cfg.lift cfg 60 0) (fun (v : AV) (H : AH) => (fun (r : AV × AH) => kRangeEnd 5 9 (fx 38 [(0, AV.yld 4), (3, AV.ptr 5 0 0)]) (kBlock 2 (kBlock 1 (kLp 5 (some [0, 3]) [(3, 4)] Lq33_0 Aq33_0))) (Prod.snd r)) (v, H)) (Array.toList (Func.results (Prod.snd (60, Try.f60))))))
noncomputable def Wq33_1 : List AV × AH → Option AV := fun (p : List AV × AH) => kOpt (LOOP 10 (some [0, 1, 3]) [] Lq33_1 p) Aq33_1
noncomputable abbrev wq33_0 (c0_0 : Int) (c0_1 : Int) (c0_2 : List UInt8) (c0_3 : List (List AV)) (c1_0 : Int) (c2_0 : Int) (c3_0 : Int) (c3_1 : Int) (c3_2 : List UInt8) (c3_3 : List (List AV)) (nc5_0 : Nat) (h6 : List (List AV)) : Option (AV) := Wq33_0  (((fx 38 [(0, AV.yld (4 : Nat)), (3, AV.ptr (5 : Nat) (0 : Nat) (0 : Nat))]) : List AV), ([ABlk.rows false (4 : Nat) [[AV.int IntKind.i64 c0_0, AV.int IntKind.i64 c0_1, AV.str c0_2, AV.sl c0_3]], ABlk.rows false (1 : Nat) [[AV.int IntKind.i64 c1_0]], ABlk.rows false (1 : Nat) [[AV.int IntKind.i64 c2_0]], ABlk.rows false (4 : Nat) [[AV.int IntKind.i64 c3_0, AV.int IntKind.i64 c3_1, AV.str c3_2, AV.sl c3_3]], rngB Try.f35 (35 : Nat) [(1 : Nat), (1 : Nat), (0 : Nat), (1 : Nat), (0 : Nat)] (fx 17 [(2, AV.ptr (1 : Nat) (0 : Nat) (0 : Nat)), (3, AV.ptr (2 : Nat) (0 : Nat) (0 : Nat))]) none LoopState.ready, ABlk.rows false (1 : Nat) [[AV.ms (6 : Nat) (0 : Nat) nc5_0]], ABlk.rows true (4 : Nat) h6] : AH))
noncomputable abbrev wq33_1 (v3 : Int) (c0_0 : Int) (c0_1 : Int) (c0_2 : List UInt8) (c0_3 : List (List AV)) (c1_0 : Int) (c2_0 : Int) (c3_0 : Int) (c3_1 : Int) (c3_2 : List UInt8) (c3_3 : List (List AV)) (nc5_0 : Nat) (h6 : List (List AV)) (c7_0 : Int) (c7_1 : Int) (c7_2 : List UInt8) (c7_3 : List (List AV)) (c8_0 : List (List AV)) : Option (AV) := Wq33_1  (((fx 19 [(0, AV.yld (9 : Nat)), (1, AV.ptr (8 : Nat) (0 : Nat) (0 : Nat)), (3, AV.int IntKind.i64 v3)]) : List AV), ([ABlk.rows false (4 : Nat) [[AV.int IntKind.i64 c0_0, AV.int IntKind.i64 c0_1, AV.str c0_2, AV.sl c0_3]], ABlk.rows false (1 : Nat) [[AV.int IntKind.i64 c1_0]], ABlk.rows false (1 : Nat) [[AV.int IntKind.i64 c2_0]], ABlk.rows false (4 : Nat) [[AV.int IntKind.i64 c3_0, AV.int IntKind.i64 c3_1, AV.str c3_2, AV.sl c3_3]], rngB Try.f35 (35 : Nat) [(1 : Nat), (1 : Nat), (0 : Nat), (1 : Nat), (0 : Nat)] (fx 17 [(2, AV.ptr (1 : Nat) (0 : Nat) (0 : Nat)), (3, AV.ptr (2 : Nat) (0 : Nat) (0 : Nat))]) none LoopState.ready, ABlk.rows false (1 : Nat) [[AV.ms (6 : Nat) (0 : Nat) nc5_0]], ABlk.rows true (4 : Nat) h6, ABlk.rows false (4 : Nat) [[AV.int IntKind.i64 c7_0, AV.int IntKind.i64 c7_1, AV.str c7_2, AV.sl c7_3]], ABlk.rows false (1 : Nat) [[AV.sl c8_0]], rngB Try.f61 (61 : Nat) [(1 : Nat), (0 : Nat), (0 : Nat), (1 : Nat), (0 : Nat), (1 : Nat), (1 : Nat), (1 : Nat), (1 : Nat), (0 : Nat)] (fx 38 [(3, AV.ptr (5 : Nat) (0 : Nat) (0 : Nat))]) none LoopState.ready] : AH))
noncomputable abbrev wq33_1a (v3 : Int) (c0_0 : Int) (c0_1 : Int) (c0_2 : List UInt8) (c0_3 : List (List AV)) (c1_0 : Int) (c2_0 : Int) (c3_0 : Int) (c3_1 : Int) (c3_2 : List UInt8) (c3_3 : List (List AV)) (nc5_0 : Nat) (c7_0 : Int) (c7_1 : Int) (c7_2 : List UInt8) (c7_3 : List (List AV)) (c8_0 : List (List AV)) (h10 : List (List AV)) : Option (AV) := Wq33_1  (((fx 19 [(0, AV.yld (9 : Nat)), (1, AV.ptr (8 : Nat) (0 : Nat) (0 : Nat)), (3, AV.int IntKind.i64 v3)]) : List AV), ([ABlk.rows false (4 : Nat) [[AV.int IntKind.i64 c0_0, AV.int IntKind.i64 c0_1, AV.str c0_2, AV.sl c0_3]], ABlk.rows false (1 : Nat) [[AV.int IntKind.i64 c1_0]], ABlk.rows false (1 : Nat) [[AV.int IntKind.i64 c2_0]], ABlk.rows false (4 : Nat) [[AV.int IntKind.i64 c3_0, AV.int IntKind.i64 c3_1, AV.str c3_2, AV.sl c3_3]], rngB Try.f35 (35 : Nat) [(1 : Nat), (1 : Nat), (0 : Nat), (1 : Nat), (0 : Nat)] (fx 17 [(2, AV.ptr (1 : Nat) (0 : Nat) (0 : Nat)), (3, AV.ptr (2 : Nat) (0 : Nat) (0 : Nat))]) none LoopState.ready, ABlk.rows false (1 : Nat) [[AV.ms (10 : Nat) (0 : Nat) nc5_0]], ABlk.dead, ABlk.rows false (4 : Nat) [[AV.int IntKind.i64 c7_0, AV.int IntKind.i64 c7_1, AV.str c7_2, AV.sl c7_3]], ABlk.rows false (1 : Nat) [[AV.sl c8_0]], rngB Try.f61 (61 : Nat) [(1 : Nat), (0 : Nat), (0 : Nat), (1 : Nat), (0 : Nat), (1 : Nat), (1 : Nat), (1 : Nat), (1 : Nat), (0 : Nat)] (fx 38 [(3, AV.ptr (5 : Nat) (0 : Nat) (0 : Nat))]) none LoopState.ready, ABlk.rows true (4 : Nat) h10] : AH))
theorem term_sound_run (kt : Int) (nt : Int) (st : List UInt8) (lt : List (List AV)) {P : AV → Prop} (h : Gets (bif kt == (1 : Int) then bif decide (nt ≥ (-576460752303423488 : Int)) then bif decide (nt ≤ (576460752303423487 : Int)) then bif st == [] then some (.bool ((↑(List.length lt) : Int) 
  == (0 : Int))) else some (.bool false) else some (.bool false) else some (.bool false) else bif kt == (2 : Int) then bif nt == (0 : Int) then bif decide ((↑(List.length st) : Int) ≤ 
  (64 : Int)) then some (.bool ((↑(List.length lt) : Int) == (0 : Int))) else some (.bool false) else some (.bool false) else bif kt == (3 : Int) then bif decide (nt ≥ (0 : Int)) then 
  bif decide (nt ≤ (1073741824 : Int)) then bif st == [] then bif (↑(List.length lt) : Int) == (0 : Int) then some (.bool true) else bif kt == (5 : Int) then some (.bool (decide ((↑(List.length 
  lt) : Int) ≤ (64 : Int)))) else some (.bool false) else some (.bool false) else some (.bool false) else some (.bool false) else bif kt == (4 : Int) then bif decide (nt ≥ (0 : Int)) 
  then bif decide (nt ≤ (1073741824 : Int)) then bif st == [] then bif (↑(List.length lt) : Int) == (0 : Int) then some (.bool true) else bif kt == (5 : Int) then some (.bool (decide 
  ((↑(List.length lt) : Int) ≤ (64 : Int)))) else some (.bool false) else some (.bool false) else some (.bool false) else some (.bool false) else bif kt == (6 : Int) then bif decide (nt 
  ≥ (0 : Int)) then bif decide (nt ≤ (1073741824 : Int)) then bif st == [] then bif (↑(List.length lt) : Int) == (0 : Int) then some (.bool true) else bif kt == (5 : Int) then some (.bool 
  (decide ((↑(List.length lt) : Int) ≤ (64 : Int)))) else some (.bool false) else some (.bool false) else some (.bool false) else some (.bool false) else bif kt == (5 : Int) then bif 
  decide (nt ≥ (0 : Int)) then bif decide (nt ≤ (1073741824 : Int)) then bif st == [] then bif (↑(List.length lt) : Int) == (0 : Int) then some (.bool true) else bif kt == (5 : Int) then 
  some (.bool (decide ((↑(List.length lt) : Int) ≤ (64 : Int)))) else some (.bool false) else some (.bool false) else some (.bool false) else some (.bool false) else bif kt == (7 : Int) 
  then bif nt == (0 : Int) then bif st == [] then some (.bool (decide ((↑(List.length lt) : Int) ≤ (64 : Int)))) else some (.bool false) else some (.bool false) else bif kt == (8 : Int) 
  then bif nt == (0 : Int) then bif st == [] then some (.bool ((↑(List.length lt) : Int) == (0 : Int))) else some (.bool false) else some (.bool false) else bif kt == (9 : Int) then bif 
  nt == (0 : Int) then bif st == [] then some (.bool ((↑(List.length lt) : Int) == (2 : Int))) else some (.bool false) else some (.bool false) else some (.bool false)) P) : Gets (EVs (EV cfg) 47 ([AV.agg [AV.int IntKind.i64 kt, AV.int IntKind.i64 nt, AV.str st, AV.sl lt]] : List AV)) P :=
  Gets.ev (fun _ h => funS rfl rfl Try.func47 rfl h) (Gets.eq (by kernel_rfl) h)
theorem term_own_run (kt : Int) (nt : Int) (st : List UInt8) (lt : List (List AV)) {P : AV → Prop} (h : Gets (bif kt == (7 : Int) then some (.int .i64 (2 : Int)) else bif kt == (5 : Int) then some (.int .i64 (2 : Int)) else some (.int .i64 (1 : Int))) P) : Gets (EVs (EV cfg) 48 ([AV.agg [AV.int IntKind.i64 kt, AV.int IntKind.i64 nt, AV.str st, AV.sl lt]] : List AV)) P :=
  Gets.ev (fun _ h => funS rfl rfl Try.func48 rfl h) (Gets.eq (by kernel_rfl) h)
theorem term_Check_run (kt : Int) (nt : Int) (st : List UInt8) (lt : List (List AV)) {P : AV → Prop} (h : Gets (wq33_0 kt nt st lt (0 : Int) (0 : Int) kt nt st lt 1 [[.int .i64 kt, .int .i64 nt, .str st, .sl lt]]) P) : Gets (EVs (EV cfg) 35 ([AV.agg [AV.int IntKind.i64 kt, AV.int IntKind.i64 nt, AV.str st, AV.sl lt]] : List AV)) P :=
  Gets.ev (fun _ h => funS rfl rfl Try.func35 rfl h) (Gets.eq (by kernel_rfl) h)
theorem wq33_0_step (c0_0 : Int) (c0_1 : Int) (c0_2 : List UInt8) (c0_3 : List (List AV)) (c1_0 : Int) (c2_0 : Int) (c3_0 : Int) (c3_1 : Int) (c3_2 : List UInt8) (c3_3 : List (List AV)) (nc5_0 : Nat) (h6 : List (List AV)) {P : AV → Prop} (h : Gets (bif decide ((↑nc5_0 : Int) > (0 : Int)) then bif leInt (0 : Int) (IntKind.wrap .i64 ((↑nc5_0 : Int) - (1 : Int))) && ltInt (IntKind.wrap .i64 ((↑nc5_0 : Int) - (1 : Int))) (↑nc5_0 : 
  Int) then kOpt (List.get?Internal h6 (0 + Int.toNat (IntKind.wrap .i64 ((↑nc5_0 : Int) - (1 : Int))))) fun (row : List AV) => bif Nat.ble 4 (List.length row) then kTmC (List.take 4 
  row) fun (n n_1 : Int) (s : List UInt8) (rows : List (List AV)) => (bif leInt (0 : Int) (IntKind.wrap .i64 ((↑nc5_0 : Int) - (1 : Int))) && leInt (IntKind.wrap .i64 ((↑nc5_0 : Int) 
  - (1 : Int))) (↑nc5_0 : Int) then kOpt (EVs (EV cfg) 47 [.agg [.int .i64 n, .int .i64 n_1, .str s, .sl rows]]) fun (v : AV) => kBool v fun (b : Bool) => bif !b then some (.int .i64 
  (2 : Int)) else kOpt (EVs (EV cfg) 48 [.agg [.int .i64 n, .int .i64 n_1, .str s, .sl rows]]) fun (v : AV) => kInt .i64 v fun (n_2 : Int) => wq33_1 (IntKind.wrap .i64 ((↑(List.length 
  rows) : Int) - (1 : Int))) c0_0 c0_1 c0_2 c0_3 c1_0 (IntKind.wrap .i64 (c2_0 + n_2)) c3_0 c3_1 c3_2 c3_3 (Int.toNat (IntKind.wrap .i64 ((↑nc5_0 : Int) - (1 : Int))) - 0) h6 n n_1 s 
  rows rows else none) else none else none else bif decide (c2_0 > (65536 : Int)) then some (.int .i64 (3 : Int)) else some (.int .i64 (0 : Int))) P) : Gets (wq33_0 c0_0 c0_1 c0_2 c0_3 c1_0 c2_0 c3_0 c3_1 c3_2 c3_3 nc5_0 h6) P :=
  Gets.ev (fun _ h => loop_step (cfg := cfg) (f := 61) (rd := none) (bs := 5) h) (Gets.eq (by kernel_rfl) h)
theorem wq33_1_step (v3 : Int) (c0_0 : Int) (c0_1 : Int) (c0_2 : List UInt8) (c0_3 : List (List AV)) (c1_0 : Int) (c2_0 : Int) (c3_0 : Int) (c3_1 : Int) (c3_2 : List UInt8) (c3_3 : List (List AV)) (nc5_0 : Nat) (h6 : List (List AV)) (c7_0 : Int) (c7_1 : Int) (c7_2 : List UInt8) (c7_3 : List (List AV)) (c8_0 : List (List AV)) {P : AV → Prop} (h : Gets (bif decide (v3 ≥ (0 : Int)) then bif leInt (0 : Int) v3 && ltInt v3 (↑(List.length c8_0) : Int) then kOpt (List.get?Internal c8_0 (Int.toNat v3)) fun (row : List AV) => bif Nat.beq 
  (List.length row) 4 then bif Nat.ble 4 (List.length row) then kTmC (List.take 4 row) fun (n n_1 : Int) (s : List UInt8) (rows : List (List AV)) => (bif Nat.ble (0 + nc5_0) (List.length 
  h6) && fitsIn (nc5_0 + 1) 56 then bif leInt (0 : Int) (↑nc5_0 : Int) && ltInt (↑nc5_0 : Int) (↑(nc5_0 + 1) : Int) then kOpt (List.get?Internal (List.append (List.take nc5_0 h6) [[.int 
  .i64 (0 : Int), .int .i64 (0 : Int), .str [], .nilS]]) (0 + Int.toNat (↑nc5_0 : Int))) fun (row : List AV) => bif Nat.ble 4 (List.length row) then wq33_1a (IntKind.wrap .i64 (v3 - (1 
  : Int))) c0_0 c0_1 c0_2 c0_3 c1_0 c2_0 c3_0 c3_1 c3_2 c3_3 (nc5_0 + 1) c7_0 c7_1 c7_2 c7_3 c8_0 (List.set (List.append (List.take nc5_0 h6) [[.int .i64 (0 : Int), .int .i64 (0 : Int), 
  .str [], .nilS]]) (0 + Int.toNat (↑nc5_0 : Int)) (.int .i64 n :: .int .i64 n_1 :: .str s :: .sl rows :: List.drop 4 row)) else none else none else none) else none else none else none 
  else wq33_0 c0_0 c0_1 c0_2 c0_3 c1_0 c2_0 c3_0 c3_1 c3_2 c3_3 nc5_0 h6) P) : Gets (wq33_1 v3 c0_0 c0_1 c0_2 c0_3 c1_0 c2_0 c3_0 c3_1 c3_2 c3_3 nc5_0 h6 c7_0 c7_1 c7_2 c7_3 c8_0) P :=
  Gets.ev (fun _ h => loop_step (cfg := cfg) (f := 60) (rd := none) (bs := 10) h) (Gets.eq (by kernel_rfl) h)
theorem wq33_1a_step (v3 : Int) (c0_0 : Int) (c0_1 : Int) (c0_2 : List UInt8) (c0_3 : List (List AV)) (c1_0 : Int) (c2_0 : Int) (c3_0 : Int) (c3_1 : Int) (c3_2 : List UInt8) (c3_3 : List (List AV)) (nc5_0 : Nat) (c7_0 : Int) (c7_1 : Int) (c7_2 : List UInt8) (c7_3 : List (List AV)) (c8_0 : List (List AV)) (h10 : List (List AV)) {P : AV → Prop} (h : Gets (bif decide (v3 ≥ (0 : Int)) then bif leInt (0 : Int) v3 && ltInt v3 (↑(List.length c8_0) : Int) then kOpt (List.get?Internal c8_0 (Int.toNat v3)) fun (row : List AV) => bif Nat.beq 
  (List.length row) 4 then bif Nat.ble 4 (List.length row) then kTmC (List.take 4 row) fun (n n_1 : Int) (s : List UInt8) (rows : List (List AV)) => (bif Nat.ble (0 + nc5_0) (List.length 
  h10) && fitsIn (nc5_0 + 1) 56 then bif leInt (0 : Int) (↑nc5_0 : Int) && ltInt (↑nc5_0 : Int) (↑(nc5_0 + 1) : Int) then kOpt (List.get?Internal (List.append (List.take nc5_0 h10) [[.int 
  .i64 (0 : Int), .int .i64 (0 : Int), .str [], .nilS]]) (0 + Int.toNat (↑nc5_0 : Int))) fun (row : List AV) => bif Nat.ble 4 (List.length row) then wq33_1a (IntKind.wrap .i64 (v3 - (1 
  : Int))) c0_0 c0_1 c0_2 c0_3 c1_0 c2_0 c3_0 c3_1 c3_2 c3_3 (nc5_0 + 1) c7_0 c7_1 c7_2 c7_3 c8_0 (List.set (List.append (List.take nc5_0 h10) [[.int .i64 (0 : Int), .int .i64 (0 : Int), 
  .str [], .nilS]]) (0 + Int.toNat (↑nc5_0 : Int)) (.int .i64 n :: .int .i64 n_1 :: .str s :: .sl rows :: List.drop 4 row)) else none else none else none) else none else none else none 
  else wq33_0 c0_0 c0_1 c0_2 c0_3 c1_0 c2_0 c3_0 c3_1 c3_2 c3_3 nc5_0 h10) P) : Gets (wq33_1a v3 c0_0 c0_1 c0_2 c0_3 c1_0 c2_0 c3_0 c3_1 c3_2 c3_3 nc5_0 c7_0 c7_1 c7_2 c7_3 c8_0 h10) P :=
  Gets.ev (fun _ h => loop_step (cfg := cfg) (f := 60) (rd := none) (bs := 10) h) (Gets.eq (by kernel_rfl) h)
end Go.Proofs.Ytonmmmgffeoiiaa
end

section
namespace Go.Av
def Tells (p : Prop) (v : AV) : Prop := ∃ b : Bool, v = .bool b ∧ (b = true ↔ p)
theorem tells_bool {p : Prop} {b : Bool} : Tells p (.bool b) ↔ (b = true ↔ p) := ⟨fun ⟨_, h1, h2⟩ => by cases h1; exact h2, fun h => ⟨b, rfl, h⟩⟩
end Go.Av
namespace Go.Proofs.Ytonmmmgffeoiiaa
open Go.Av

theorem fits56 {n : Nat} (h : n ≤ 1099511627776) : fitsIn n 56 = true := by
  unfold fitsIn
  rw [Bool.and_eq_true, Nat.ble_eq, Nat.ble_eq]
  omega

theorem av_unf (t : Tm) : (AV.agg [.int .i64 t.kind, .int .i64 t.num, .str t.str, .sl (rowsT t.subs)]) = t.av := by rw [Tm.av, Tm.cells_eq]
end Go.Proofs.Ytonmmmgffeoiiaa
end

section
namespace Go.Proofs.Ytonmmmgffeoiiaa
open Go.Av

theorem sound_ev (t : Tm) : EVs (EV cfg) 47 [t.av] = some (.bool t.sound) := by
  obtain ⟨k, n, s, l⟩ := t
  apply Gets.get
  rw [Tm.av_mk]
  refine term_sound_run _ _ _ _ ?_
  simp only [Tm.sound, Tm.kind_mk, Tm.num_mk, Tm.str_mk, Tm.subs_mk, rowsT_length, beqI, beqNil, soundB]
  by_cases h1 : k = 1
  · subst h1; simp [bif_some'] <;> (try rw [Bool.eq_iff_iff]) <;> (try simp) <;> first | omega | grind
  by_cases h2 : k = 2
  · subst h2; simp [bif_some'] <;> (try rw [Bool.eq_iff_iff]) <;> (try simp) <;> first | omega | grind
  by_cases h3 : k = 3
  · subst h3; simp [bif_some'] <;> (try rw [Bool.eq_iff_iff]) <;> (try simp) <;> first | omega | grind
  by_cases h4 : k = 4
  · subst h4; simp [bif_some'] <;> (try rw [Bool.eq_iff_iff]) <;> (try simp) <;> first | omega | grind
  by_cases h6 : k = 6
  · subst h6; simp [bif_some'] <;> (try rw [Bool.eq_iff_iff]) <;> (try simp) <;> first | omega | grind
  by_cases h5 : k = 5
  · subst h5
    cases l with
    | nil => simp [bif_some'] <;> (try rw [Bool.eq_iff_iff]) <;> (try simp) <;> first | omega | grind
    | cons x l =>
      have hx : ¬ ((l.length : Int) + 1 = 0) := by omega
      simp [hx, bif_some'] <;> (try rw [Bool.eq_iff_iff]) <;> (try simp) <;> first | omega | grind
  by_cases h7 : k = 7
  · subst h7; simp [bif_some'] <;> (try rw [Bool.eq_iff_iff]) <;> (try simp) <;> first | omega | grind
  by_cases h8 : k = 8
  · subst h8; simp [bif_some'] <;> (try rw [Bool.eq_iff_iff]) <;> (try simp) <;> first | omega | grind
  by_cases h9 : k = 9
  · subst h9; simp [bif_some'] <;> (try rw [Bool.eq_iff_iff]) <;> (try simp) <;> first | omega | grind
  simp [h1, h2, h3, h4, h5, h6, h7, h8, h9]
theorem own_ev (t : Tm) : EVs (EV cfg) 48 [t.av] = some (.int .i64 t.own) := by
  obtain ⟨k, n, s, l⟩ := t
  apply Gets.get
  rw [Tm.av_mk]
  refine term_own_run _ _ _ _ ?_
  simp only [Tm.own, Tm.kind_mk, beqI]
  by_cases h7 : k = 7
  · simp [h7]
  · by_cases h5 : k = 5
    · simp [h5]
    · simp [h7, h5]
end Go.Proofs.Ytonmmmgffeoiiaa
end

section
namespace Go.Proofs.Ytonmmmgffeoiiaa
open Go.Av

theorem app_get0 (l : List (List AV)) (z : List AV) : (l ++ [z])[l.length]? = some z := by simp
theorem app_set0 (l : List (List AV)) (z c : List AV) : (l ++ [z]).set l.length c = l ++ [c] := by simp

theorem push_a {t x : Tm} (hx : x.subs.length < 1099511627776) {wd : Int} {P : AV → Prop} : ∀ (j : Nat) (R : List Tm), j ≤ x.subs.length → R.length + j < 1099511627776 →
    Gets (wq33_0 t.kind t.num t.str (rowsT t.subs) 0 wd t.kind t.num t.str (rowsT t.subs) (R.length + j) (rowsT (R ++ (x.subs.take j).reverse))) P →
    Gets (wq33_1a ((j : Int) - 1) t.kind t.num t.str (rowsT t.subs) 0 wd t.kind t.num t.str (rowsT t.subs) R.length x.kind x.num x.str (rowsT x.subs) (rowsT x.subs) (rowsT R)) P
  | 0, R, _, _, h => by
    refine wq33_1a_step _ _ _ _ _ _ _ _ _ _ _ _ _ _ _ _ _ _ ?_
    simpa using h
  | j + 1, R, hj, hR, h => by
    have ih := push_a (t := t) hx (wd := wd) (P := P) j (R ++ [x.subs[j]]) (by omega) (by simp; omega)
    have e1 : x.subs.take (j + 1) = x.subs.take j ++ [x.subs[j]] := by rw [List.take_add_one, List.getElem?_eq_getElem (by omega)]; rfl
    have e4 : R ++ (x.subs.take j ++ [x.subs[j]]).reverse = R ++ x.subs[j] :: (x.subs.take j).reverse := by rw [List.reverse_append]; rfl
    rw [e1, e4, show R.length + (j + 1) = R.length + 1 + j by omega] at h
    refine wq33_1a_step _ _ _ _ _ _ _ _ _ _ _ _ _ _ _ _ _ _ ?_
    have hw : IntKind.wrap .i64 ((j : Int) - 1) = (j : Int) - 1 := wrap64 (by omega) (by omega)
    have hjl : j < x.subs.length := by omega
    have e2 : ((j + 1 : Nat) : Int) - 1 = j := by omega
    rw [e2]
    have ht : List.take R.length (rowsT R) = rowsT R := List.take_of_length_le (by simp)
    have g0 := app_get0 (rowsT R) [.int .i64 0, .int .i64 0, .str [], .nilS]
    have s0 := app_set0 (rowsT R) [.int .i64 0, .int .i64 0, .str [], .nilS] x.subs[j].cells
    rw [rowsT_length] at g0 s0
    simp [hjl, hw, fits56 (show R.length + 1 ≤ 1099511627776 by omega), ht] at ih ⊢
    exact ih h

theorem push_m {t x : Tm} (hx : x.subs.length < 1099511627776) {wd : Int} {P : AV → Prop} {R : List Tm} {Z : List (List AV)} (hR : R.length + x.subs.length < 1099511627776)
    (h0 : x.subs = [] → Gets (wq33_0 t.kind t.num t.str (rowsT t.subs) 0 wd t.kind t.num t.str (rowsT t.subs) R.length (rowsT R ++ Z)) P)
    (h : x.subs ≠ [] → Gets (wq33_0 t.kind t.num t.str (rowsT t.subs) 0 wd t.kind t.num t.str (rowsT t.subs) (R ++ x.subs.reverse).length (rowsT (R ++ x.subs.reverse))) P) :
    Gets (wq33_1 ((x.subs.length : Int) - 1) t.kind t.num t.str (rowsT t.subs) 0 wd t.kind t.num t.str (rowsT t.subs) R.length (rowsT R ++ Z) x.kind x.num x.str (rowsT x.subs) (rowsT x.subs)) P := by
  refine wq33_1_step _ _ _ _ _ _ _ _ _ _ _ _ _ _ _ _ _ _ ?_
  rcases Nat.eq_zero_or_pos x.subs.length with hz | hp
  · have hz' : x.subs = [] := List.length_eq_zero_iff.1 hz
    have := h0 hz'
    simpa [hz'] using this
  · obtain ⟨j, hj⟩ : ∃ j, x.subs.length = j + 1 := ⟨x.subs.length - 1, by omega⟩
    have hne : x.subs ≠ [] := by intro e; rw [e] at hp; simp at hp
    have hjl : j < x.subs.length := by omega
    have e2 : (x.subs.length : Int) - 1 = j := by omega
    have hw : IntKind.wrap .i64 ((j : Int) - 1) = (j : Int) - 1 := wrap64 (by omega) (by omega)
    have ht : List.take R.length (rowsT R ++ Z) = rowsT R := by rw [List.take_append_of_le_length (by simp), List.take_of_length_le (by simp)]
    have e5 : x.subs = x.subs.take j ++ [x.subs[j]] := by
      have : x.subs.take (j + 1) = x.subs := List.take_of_length_le (by omega)
      rw [List.take_add_one, List.getElem?_eq_getElem hjl] at this
      exact this.symm
    have e6 : R ++ x.subs.reverse = R ++ [x.subs[j]] ++ (x.subs.take j).reverse := by
      conv => lhs; rw [e5]
      rw [List.reverse_append, List.append_assoc]; rfl
    have := push_a (t := t) hx (wd := wd) (P := P) j (R ++ [x.subs[j]]) (by omega) (by simp; omega) (by
      have h := h hne
      rw [e6] at h
      have e7 : (R ++ [x.subs[j]] ++ (x.subs.take j).reverse).length = (R ++ [x.subs[j]]).length + j := by
        rw [List.length_append, List.length_reverse, List.length_take]; omega
      rw [e7] at h
      exact h)
    rw [e2]
    simp at this
    simp [hjl, hw, fits56 (show R.length + 1 ≤ 1099511627776 by omega), ht]
    exact this

theorem check_m {t : Tm} : ∀ (n : Nat) (R : List Tm) (Z : List (List AV)) (wd : Nat), wL R ≤ n → n < 1099511627776 → wd + 2 * wL R < 9007199254740992 →
    Gets (wq33_0 t.kind t.num t.str (rowsT t.subs) 0 (wd : Int) t.kind t.num t.str (rowsT t.subs) R.length (rowsT R ++ Z)) (· = .int .i64 (chkS R wd)) := by
  intro n
  induction n with
  | zero =>
    intro R Z wd hn _ _
    have : R = [] := by
      have := wL_len R
      exact List.length_eq_zero_iff.1 (by omega)
    subst this
    refine wq33_0_step _ _ _ _ _ _ _ _ _ _ _ _ ?_
    by_cases h : 65536 < wd
    · have h' : (65536 : Int) < wd := by omega
      simp [h, h', chkS, partsL, wordsL]
    · have h' : ¬ (65536 : Int) < wd := by omega
      simp [h, h', chkS, partsL, wordsL]
  | succ n ih =>
    intro R Z wd hn hN hw
    rcases List.eq_nil_or_concat R with rfl | ⟨R0, x, rfl⟩
    · refine wq33_0_step _ _ _ _ _ _ _ _ _ _ _ _ ?_
      by_cases h : 65536 < wd
      · have h' : (65536 : Int) < wd := by omega
        simp [h, h', chkS, partsL, wordsL]
      · have h' : ¬ (65536 : Int) < wd := by omega
        simp [h, h', chkS, partsL, wordsL]
    · rw [List.concat_eq_append] at *
      have hwx := x.w_eq
      have ho := x.own_le
      simp only [wL_append, wL_cons, wL_nil] at hn hw
      have hl0 := wL_len R0
      have hls := wL_len x.subs
      have hsd := sound_ev x
      have how := own_ev x
      refine wq33_0_step _ _ _ _ _ _ _ _ _ _ _ _ ?_
      have e1 : (R0 ++ [x]).length = R0.length + 1 := by simp
      have hw1 : IntKind.wrap .i64 (R0.length : Int) = R0.length := wrapN (by omega)
      have hw2 : IntKind.wrap .i64 ((wd : Int) + x.own) = ((wd + x.own : Nat) : Int) := by rw [wrap64 (by omega) (by omega)]; omega
      have hw3 : IntKind.wrap .i64 ((x.subs.length : Int) - 1) = (x.subs.length : Int) - 1 := wrap64 (by omega) (by omega)
      have g : (rowsT (R0 ++ [x]) ++ Z)[R0.length]? = some x.cells := by
        rw [List.getElem?_append_left (by simp), rowsT_get]; simp
      cases hs : x.sound with
      | false =>
        rw [hs] at hsd
        simp [e1, hw1, g, hsd, chkS_bad hs]
      | true =>
        rw [hs] at hsd
        have e3 : rowsT (R0 ++ [x]) ++ Z = rowsT R0 ++ (x.cells :: Z) := by rw [rowsT_append, List.append_assoc, rowsT_cons, rowsT_nil]; rfl
        have := push_m (t := t) (x := x) (R := R0) (Z := x.cells :: Z) (wd := ((wd + x.own : Nat) : Int)) (P := (· = .int .i64 (chkS (R0 ++ [x]) wd))) (by omega) (by omega)
          (fun hz => by
            have := ih R0 (x.cells :: Z) (wd + x.own) (by omega) (by omega) (by omega)
            rw [← chkS_step hs, hz, List.reverse_nil, List.append_nil]
            exact this)
          (fun hz => by
            have := ih (R0 ++ x.subs.reverse) [] (wd + x.own) (by rw [wL_append, wL_rev]; omega) (by omega) (by rw [wL_append, wL_rev]; omega)
            rw [← chkS_step hs]
            rw [List.append_nil] at this
            exact this)
        simp only [e1, e3] at g ⊢
        simp only [Int.natCast_add] at hw2 this
        simp [hw1, g, hsd, how, hw2, hw3]
        exact this

theorem check_ev {t : Tm} (h : t.w < 1099511627776) : EVs (EV cfg) 35 [t.av] = some (.int .i64 t.chk) := by
  have := check_m (t := t) _ [t] [] 0 (Nat.le_refl _) (by simpa using h) (by simp; omega)
  apply Gets.get
  rw [Tm.av, Tm.cells_eq]
  refine term_Check_run _ _ _ _ ?_
  rw [← Tm.cells_eq, rowsT_one, Tm.chk]
  simpa using this
end Go.Proofs.Ytonmmmgffeoiiaa
end

section
namespace Go.Proofs.Ytonmmmgffeoiiaa
open Go.Av
theorem number_step {s h0 : List UInt8} {b : UInt8} {v : Int} {i : Nat} {P : AV → Prop} (hv : 0 ≤ v ∧ v ≤ 9) (hlen : (List.take (s.length - 1) (s.drop 1)).length = h0.length) (hl : h0.length ≤ 2) (hb : h0[i]? = some b)
    (h : Gets (match digitG b with | none => some (AV.tup [.int .i64 0, .bool false]) | some x => wp71_0 s (v * 10 + x) ((i + 1 : Nat) : Int) (h0.map fun b => [.int .u8 (b.toNat : Int)])) P) : Gets (wp71_0 s v i (h0.map fun b => [.int .u8 (b.toNat : Int)])) P := by
  have hi : i < h0.length := (List.getElem?_eq_some_iff.1 hb).1
  refine wp71_0_step _ _ _ _ ?_
  have hbl := b.toNat_lt
  rw [hlen, decide_eq_true (show (i : Int) < (h0.length : Int) by omega), leInt_zero, ltInt_nat, decide_eq_true hi]
  simp only [cond_true, Bool.and_self, get?Internal_eq, Nat.zero_add, Int.toNat_natCast, List.getElem?_map, hb, Option.map_some, kOptSome, List.getElem?_cons_zero, kInt_int]
  unfold digitG at h
  by_cases h1 : b.toNat < 48
  · rw [if_pos h1] at h
    rw [decide_eq_true (show (b.toNat : Int) < 48 by omega)]; exact h
  · rw [if_neg h1] at h
    rw [decide_eq_false (show ¬ (b.toNat : Int) < 48 by omega), cond_false]
    by_cases h2 : b.toNat > 57
    · rw [if_pos h2] at h
      rw [decide_eq_true (show (b.toNat : Int) > 57 by omega)]; exact h
    · rw [if_neg h2] at h
      rw [decide_eq_false (show ¬ (b.toNat : Int) > 57 by omega), cond_false]
      have w1 : IntKind.wrap .i64 (v * 10) = v * 10 := wrap64 (by omega) (by omega)
      have w2 : IntKind.wrap .u8 ((b.toNat : Int) - 48) = (b.toNat : Int) - 48 := by
        simp [IntKind.wrap, IntKind.bits, IntKind.signed]; omega
      have w3 : IntKind.wrap .i64 ((b.toNat : Int) - 48) = (b.toNat : Int) - 48 := wrap64 (by omega) (by omega)
      have w4 : IntKind.wrap .i64 (v * 10 + ((b.toNat : Int) - 48)) = v * 10 + ((b.toNat : Int) - 48) := wrap64 (by omega) (by omega)
      have w5 : IntKind.wrap .i64 ((i : Int) + 1) = ((i + 1 : Nat) : Int) := wrap_succ (n := 2) (by omega) (by omega)
      rw [w1, w2, w3, w4, w5]
      exact h
theorem number_end {s h0 : List UInt8} {v : Int} {i : Nat} (hlen : (List.take (s.length - 1) (s.drop 1)).length = h0.length) (hi : i = h0.length) : Gets (wp71_0 s v i (h0.map fun b => [.int .u8 (b.toNat : Int)])) (· = .tup [.int .i64 v, .bool true]) := by
  refine wp71_0_step _ _ _ _ ?_
  rw [hlen, decide_eq_false (by omega)]
  exact ⟨_, rfl, rfl⟩
def varR (o : Option Int) : AV := .tup [.int .i64 (o.getD 0), .bool o.isSome]
theorem patNumber_ev (s : List UInt8) : EVs (EV cfg) 52 [.str s] = some (varR (varG s)) := by
  apply Gets.get
  refine patNumber_run _ ?_
  match s with
  | [] => exact ⟨_, rfl, rfl⟩
  | [a] => exact ⟨_, rfl, rfl⟩
  | a :: b :: c :: d :: l =>
    have h1 : ¬ ((a :: b :: c :: d :: l).length : Int) < 2 := by simp; omega
    have h2 : ((a :: b :: c :: d :: l).length : Int) > 3 := by simp; omega
    rw [decide_eq_false h1, decide_eq_true h2]
    exact ⟨_, rfl, rfl⟩
  | [a, b] =>
    by_cases h : a.toNat = 36
    · have e : (((a.toNat : Int)) != 36) = false := by rw [h]; rfl
      have hs := number_step (s := [a, b]) (h0 := [b]) (b := b) (v := 0) (i := 0) (P := (· = varR (varG [a, b]))) (by omega) rfl (by simp) rfl (by
        rw [varG2, if_pos h]
        cases hd : digitG b with
        | none => exact ⟨_, rfl, rfl⟩
        | some x =>
          refine (number_end (s := [a, b]) (h0 := [b]) rfl rfl).mono ?_
          rintro _ rfl
          show _ = varR (some x)
          simp [varR])
      show Gets (bif (((a.toNat : Int)) != 36) then _ else _) _
      rw [e]
      exact hs
    · have e : (((a.toNat : Int)) != 36) = true := by simpa using fun h' => h (by omega)
      show Gets (bif (((a.toNat : Int)) != 36) then _ else _) _
      rw [e]
      refine ⟨_, rfl, ?_⟩
      rw [varG2, if_neg h]; rfl
  | [a, b, c] =>
    by_cases h : a.toNat = 36
    · have e : (((a.toNat : Int)) != 36) = false := by rw [h]; rfl
      show Gets (bif (((a.toNat : Int)) != 36) then _ else bif (((b.toNat : Int)) == 48) then _ else _) _
      rw [e]
      by_cases hb : b.toNat = 48
      · have e2 : (((b.toNat : Int)) == 48) = true := by rw [hb]; rfl
        rw [e2]
        refine ⟨_, rfl, ?_⟩
        rw [varG3, if_neg (fun h => h.2 hb)]; rfl
      · have e2 : (((b.toNat : Int)) == 48) = false := by simpa using fun h' => hb (by omega)
        rw [e2]
        show Gets (wp71_0 [a, b, c] 0 0 ([b, c].map fun b => [.int .u8 (b.toNat : Int)])) _
        refine number_step (s := [a, b, c]) (h0 := [b, c]) (b := b) (v := 0) (i := 0) (by omega) rfl (by simp) rfl ?_
        rw [varG3, if_pos ⟨h, hb⟩]
        cases hd : digitG b with
        | none => exact ⟨_, rfl, rfl⟩
        | some x =>
          have hx := digitG_in hd
          refine number_step (s := [a, b, c]) (h0 := [b, c]) (b := c) (i := 1) (by omega) rfl (by simp) rfl ?_
          cases hd2 : digitG c with
          | none => exact ⟨_, rfl, by simp [varR, hd2]⟩
          | some y =>
            refine (number_end (s := [a, b, c]) (h0 := [b, c]) rfl rfl).mono ?_
            rintro _ rfl
            simp [varR, hd2]
    · have e : (((a.toNat : Int)) != 36) = true := by simpa using fun h' => h (by omega)
      show Gets (bif (((a.toNat : Int)) != 36) then _ else _) _
      rw [e]
      refine ⟨_, rfl, ?_⟩
      rw [varG3, if_neg (fun h' => h h'.1)]; rfl
theorem patMay_ev {t : Tm} (h : t.w < 1099511627776) : EVs (EV cfg) 38 [t.av] = some (.bool (decide (t.chk = 0))) := by
  have hc := check_ev h
  apply Gets.get
  rw [Tm.av, Tm.cells_eq] at hc ⊢
  refine patMay_run _ _ _ _ ?_
  rw [hc]
  simp [beqI]
theorem patVar_ev {t : Tm} (h : t.w < 1099511627776) : EVs (EV cfg) 64 [t.av] = some (varR (varT t)) := by
  have hc := patMay_ev h
  apply Gets.get
  rw [Tm.av, Tm.cells_eq] at hc ⊢
  refine patVar_run _ _ _ _ ?_
  rw [hc, patNumber_ev]
  unfold varT
  by_cases h1 : t.kind = 2
  · by_cases h2 : t.chk = 0
    · simp [h1, h2, varR, kTup, kCons, kNil]
    · simp [h1, h2, varR]
  · have h1' : (t.kind != 2) = true := by simpa using h1
    rw [h1']
    simp [h1, varR]
end Go.Proofs.Ytonmmmgffeoiiaa
end

section
namespace Go.Proofs.Ytonmmmgffeoiiaa
open Go.Av
set_option maxRecDepth 100000
set_option maxHeartbeats 0

noncomputable def Lg65_0 : Den := evC cfg (EV cfg) 82 none 0 (sub (bodyOf Try.f82) [1, 0, 1, 0, 0])
noncomputable def Ag65_0 : Ex × List AV × AH → Option AV := kAft (Cfg.keepOut cfg 82 2) (kRun cfg (EV cfg) (kfN cfg 6) 82 none 0 (kFinS cfg (Cfg.lift cfg 82 0) Try.f82.results.toList) ([.block 0, .seq (sub (bodyOf Try.f82) [1, 1])]))
noncomputable def Wg65_0 : List AV × AH → Option AV := fun p => kOpt (LOOP 0 (some [0, 1, 7, 8]) ([]) Lg65_0 p) Ag65_0
noncomputable abbrev wg65_0 (A : List (List AV)) (n : Int) (v8 : Int) : Option (AV) := Wg65_0  (((fx 19 [(0, AV.sl A), (1, AV.int IntKind.i64 n), (7, AV.int IntKind.i64 (↑(List.length A) : Int)), (8, AV.int IntKind.i64 v8)]) : List AV), ([] : AH))
theorem guard_Ops_run (op : List UInt8) {P : AV → Prop} (h : Gets (bif op == [(115 : UInt8), (101 : UInt8), (108 : UInt8), (102 : UInt8)] then some (.sl [[.int .i64 (0 : Int)]]) else bif op == [(105 : UInt8), (115 : UInt8), (95 : UInt8), (97 : UInt8), 
  (116 : UInt8), (111 : UInt8), (109 : UInt8)] then some (.sl [[.int .i64 (1 : Int)]]) else bif op == [(105 : UInt8), (115 : UInt8), (95 : UInt8), (105 : UInt8), (110 : UInt8), (116 : 
  UInt8), (101 : UInt8), (103 : UInt8), (101 : UInt8), (114 : UInt8)] then some (.sl [[.int .i64 (1 : Int)]]) else bif op == [(105 : UInt8), (115 : UInt8), (95 : UInt8), (108 : UInt8), 
  (105 : UInt8), (115 : UInt8), (116 : UInt8)] then some (.sl [[.int .i64 (1 : Int)]]) else bif op == [(105 : UInt8), (115 : UInt8), (95 : UInt8), (116 : UInt8), (117 : UInt8), (112 : 
  UInt8), (108 : UInt8), (101 : UInt8)] then some (.sl [[.int .i64 (1 : Int)]]) else bif op == [(105 : UInt8), (115 : UInt8), (95 : UInt8), (112 : UInt8), (105 : UInt8), (100 : UInt8)] 
  then some (.sl [[.int .i64 (1 : Int)]]) else bif op == [(105 : UInt8), (115 : UInt8), (95 : UInt8), (102 : UInt8), (117 : UInt8), (110 : UInt8), (99 : UInt8), (116 : UInt8), (105 : 
  UInt8), (111 : UInt8), (110 : UInt8)] then some (.sl [[.int .i64 (1 : Int)]]) else bif op == [(105 : UInt8), (115 : UInt8), (95 : UInt8), (114 : UInt8), (101 : UInt8), (102 : UInt8), 
  (101 : UInt8), (114 : UInt8), (101 : UInt8), (110 : UInt8), (99 : UInt8), (101 : UInt8)] then some (.sl [[.int .i64 (1 : Int)]]) else bif op == [(110 : UInt8), (111 : UInt8), (116 : 
  UInt8)] then some (.sl [[.int .i64 (1 : Int)]]) else bif op == [(98 : UInt8), (110 : UInt8), (111 : UInt8), (116 : UInt8)] then some (.sl [[.int .i64 (1 : Int)]]) else bif op == [(97 
  : UInt8), (98 : UInt8), (115 : UInt8)] then some (.sl [[.int .i64 (1 : Int)]]) else bif op == [(116 : UInt8), (117 : UInt8), (112 : UInt8), (108 : UInt8), (101 : UInt8), (95 : UInt8), 
  (115 : UInt8), (105 : UInt8), (122 : UInt8), (101 : UInt8)] then some (.sl [[.int .i64 (1 : Int)]]) else bif op == [(115 : UInt8), (105 : UInt8), (122 : UInt8), (101 : UInt8)] then 
  some (.sl [[.int .i64 (1 : Int)]]) else bif op == [(104 : UInt8), (100 : UInt8)] then some (.sl [[.int .i64 (1 : Int)]]) else bif op == [(116 : UInt8), (108 : UInt8)] then some (.sl 
  [[.int .i64 (1 : Int)]]) else bif op == [(108 : UInt8), (101 : UInt8), (110 : UInt8), (103 : UInt8), (116 : UInt8), (104 : UInt8)] then some (.sl [[.int .i64 (1 : Int)]]) else bif op 
  == [(43 : UInt8)] then some (.sl [[.int .i64 (1 : Int)], [.int .i64 (2 : Int)]]) else bif op == [(45 : UInt8)] then some (.sl [[.int .i64 (1 : Int)], [.int .i64 (2 : Int)]]) else bif 
  op == [(61 : UInt8), (61 : UInt8)] then some (.sl [[.int .i64 (2 : Int)]]) else bif op == [(61 : UInt8), (58 : UInt8), (61 : UInt8)] then some (.sl [[.int .i64 (2 : Int)]]) else bif 
  op == [(47 : UInt8), (61 : UInt8)] then some (.sl [[.int .i64 (2 : Int)]]) else bif op == [(61 : UInt8), (47 : UInt8), (61 : UInt8)] then some (.sl [[.int .i64 (2 : Int)]]) else bif 
  op == [(60 : UInt8)] then some (.sl [[.int .i64 (2 : Int)]]) else bif op == [(61 : UInt8), (60 : UInt8)] then some (.sl [[.int .i64 (2 : Int)]]) else bif op == [(62 : UInt8)] then some 
  (.sl [[.int .i64 (2 : Int)]]) else bif op == [(62 : UInt8), (61 : UInt8)] then some (.sl [[.int .i64 (2 : Int)]]) else bif op == [(97 : UInt8), (110 : UInt8), (100 : UInt8)] then some 
  (.sl [[.int .i64 (2 : Int)]]) else bif op == [(111 : UInt8), (114 : UInt8)] then some (.sl [[.int .i64 (2 : Int)]]) else bif op == [(120 : UInt8), (111 : UInt8), (114 : UInt8)] then 
  some (.sl [[.int .i64 (2 : Int)]]) else bif op == [(97 : UInt8), (110 : UInt8), (100 : UInt8), (97 : UInt8), (108 : UInt8), (115 : UInt8), (111 : UInt8)] then some (.sl [[.int .i64 
  (2 : Int)]]) else bif op == [(111 : UInt8), (114 : UInt8), (101 : UInt8), (108 : UInt8), (115 : UInt8), (101 : UInt8)] then some (.sl [[.int .i64 (2 : Int)]]) else bif op == [(42 : 
  UInt8)] then some (.sl [[.int .i64 (2 : Int)]]) else bif op == [(100 : UInt8), (105 : UInt8), (118 : UInt8)] then some (.sl [[.int .i64 (2 : Int)]]) else bif op == [(114 : UInt8), (101 
  : UInt8), (109 : UInt8)] then some (.sl [[.int .i64 (2 : Int)]]) else bif op == [(98 : UInt8), (97 : UInt8), (110 : UInt8), (100 : UInt8)] then some (.sl [[.int .i64 (2 : Int)]]) else 
  bif op == [(98 : UInt8), (111 : UInt8), (114 : UInt8)] then some (.sl [[.int .i64 (2 : Int)]]) else bif op == [(98 : UInt8), (120 : UInt8), (111 : UInt8), (114 : UInt8)] then some (.sl 
  [[.int .i64 (2 : Int)]]) else bif op == [(101 : UInt8), (108 : UInt8), (101 : UInt8), (109 : UInt8), (101 : UInt8), (110 : UInt8), (116 : UInt8)] then some (.sl [[.int .i64 (2 : Int)]]) 
  else some (.sl [])) P) : Gets (EVf (EV cfg) 78 ([AV.str op] : List AV)) P :=
  Gets.ev (fun _ h => funF rfl rfl Try.func78 rfl h) (Gets.eq (by kernel_rfl) h)
theorem guard_self_run (n : Int) {P : AV → Prop} (h : Gets (bif decide (n ≥ (1 : Int)) then some (.bool (decide (n ≤ (1073741824 : Int)))) else some (.bool false)) P) : Gets (EVs (EV cfg) 68 ([AV.int IntKind.i64 n] : List AV)) P :=
  Gets.ev (fun _ h => funS rfl rfl Try.func68 rfl h) (Gets.eq (by kernel_rfl) h)
theorem guard_truth_run (b : Bool) {P : AV → Prop} (h : Gets (bif b then kOpt (EVf (EV cfg) 92 [.str [(116 : UInt8), (114 : UInt8), (117 : UInt8), (101 : UInt8)]]) fun (v : AV) => kTmV v fun (n n_1 : Int) (s : List UInt8) (rows : List (List AV)) 
  => (some (.agg [.int .i64 n, .int .i64 n_1, .str s, .sl rows])) else kOpt (EVf (EV cfg) 92 [.str [(102 : UInt8), (97 : UInt8), (108 : UInt8), (115 : UInt8), (101 : UInt8)]]) fun (v 
  : AV) => kTmV v fun (n n_1 : Int) (s : List UInt8) (rows : List (List AV)) => (some (.agg [.int .i64 n, .int .i64 n_1, .str s, .sl rows]))) P) : Gets (EVf (EV cfg) 85 ([AV.bool b] : List AV)) P :=
  Gets.ev (fun _ h => funF rfl rfl Try.func85 rfl h) (Gets.eq (by kernel_rfl) h)
theorem guard_atom_run (s : List UInt8) {P : AV → Prop} (h : Gets (some (.agg [.int .i64 (2 : Int), .int .i64 (0 : Int), .str s, .sl []])) P) : Gets (EVf (EV cfg) 92 ([AV.str s] : List AV)) P :=
  Gets.ev (fun _ h => funF rfl rfl Try.func92 rfl h) (Gets.eq (by kernel_rfl) h)
theorem containsI_run (A : List (List AV)) (n : Int) {P : AV → Prop} (h : Gets (kOpt (EVs (EV cfg) 82 [.sl A, .int .i64 n]) fun (v : AV) => kInt .i64 v fun (n : Int) => some (.bool (decide (n ≥ (0 : Int))))) P) : Gets (EVs (EV cfg) 76 ([AV.sl A, AV.int IntKind.i64 n] : List AV)) P :=
  Gets.ev (fun _ h => funS rfl rfl Try.func76 rfl h) (Gets.eq (by kernel_rfl) h)
theorem indexI_run (A : List (List AV)) (n : Int) {P : AV → Prop} (h : Gets (wg65_0 A n (0 : Int)) P) : Gets (EVs (EV cfg) 82 ([AV.sl A, AV.int IntKind.i64 n] : List AV)) P :=
  Gets.ev (fun _ h => funS rfl rfl Try.func82 rfl h) (Gets.eq (by kernel_rfl) h)
theorem mRaise_run (ke : Int) (ne : Int) (se : List UInt8) (le : List (List AV)) (bd : List (List AV)) (self : Int) (bad : Bool) {P : AV × List (List AV) → Prop} (h : Gets (some (.agg [.int .i64 (0 : Int), .int .i64 (0 : Int), .str [], .sl []], [[.int .i64 ke, .int .i64 ne, .str se, .sl le, .sl bd, .int .i64 self, .bool true]])) P) : Gets (EVd (EV cfg) 79 ([AV.ptr (0 : Nat) (0 : Nat) (0 : Nat)] : List AV) 7 [[AV.int .i64 ke, AV.int .i64 ne, AV.str se, AV.sl le, AV.sl bd, AV.int .i64 self, AV.bool bad]]) P :=
  Gets.ev (fun _ h => funD rfl rfl Try.func79 rfl h) (Gets.eq (by kernel_rfl) h)
theorem mNumber_run (ke : Int) (ne : Int) (se : List UInt8) (le : List (List AV)) (bd : List (List AV)) (self : Int) (bad : Bool) (n : Int) {P : AV × List (List AV) → Prop} (h : Gets (bif decide (n < (-576460752303423488 : Int)) then kOpt (EVd (EV cfg) 79 [.ptr 0 0 0] 7 [[.int .i64 ke, .int .i64 ne, .str se, .sl le, .sl bd, .int .i64 self, .bool bad]]) fun (q : AV 
  × List (List AV)) => kTmV q.1 fun (n n_1 : Int) (s : List UInt8) (rows : List (List AV)) => (some (.agg [.int .i64 n, .int .i64 n_1, .str s, .sl rows], q.2)) else bif decide (n > (576460752303423487 
  : Int)) then kOpt (EVd (EV cfg) 79 [.ptr 0 0 0] 7 [[.int .i64 ke, .int .i64 ne, .str se, .sl le, .sl bd, .int .i64 self, .bool bad]]) fun (q : AV × List (List AV)) => kTmV q.1 fun (n 
  n_1 : Int) (s : List UInt8) (rows : List (List AV)) => (some (.agg [.int .i64 n, .int .i64 n_1, .str s, .sl rows], q.2)) else some (.agg [.int .i64 (1 : Int), .int .i64 n, .str [], 
  .sl []], [[.int .i64 ke, .int .i64 ne, .str se, .sl le, .sl bd, .int .i64 self, .bool bad]])) P) : Gets (EVd (EV cfg) 86 ([AV.ptr (0 : Nat) (0 : Nat) (0 : Nat), AV.int IntKind.i64 n] : List AV) 7 [[AV.int .i64 ke, AV.int .i64 ne, AV.str se, AV.sl le, AV.sl bd, AV.int .i64 self, AV.bool bad]]) P :=
  Gets.ev (fun _ h => funD rfl rfl Try.func86 rfl h) (Gets.eq (by kernel_rfl) h)
theorem mProduct_run (ke : Int) (ne : Int) (se : List UInt8) (le : List (List AV)) (bd : List (List AV)) (self : Int) (bad : Bool) (a : Int) (b : Int) {P : AV × List (List AV) → Prop} (h : Gets (bif decide (a < (0 : Int)) then bif decide (b < (0 : Int)) then kOpt (EVs (EV cfg) 103 [.int .u64 (IntKind.wrap .u64 (IntKind.wrap .i64 ((0 : Int) - a))), .int .u64 (IntKind.wrap .u64 
  (IntKind.wrap .i64 ((0 : Int) - b)))]) fun (v : AV) => kTup v fun (cs : List AV) => kCons cs fun (c : AV) (cs : List AV) => kInt .u64 c fun (n : Int) => kCons cs fun (c : AV) (cs : 
  List AV) => kInt .u64 c fun (n_1 : Int) => kNil cs (bif decide (n > (0 : Int)) then kOpt (EVd (EV cfg) 79 [.ptr 0 0 0] 7 [[.int .i64 ke, .int .i64 ne, .str se, .sl le, .sl bd, .int 
  .i64 self, .bool bad]]) fun (q : AV × List (List AV)) => kTmV q.1 fun (n n_2 : Int) (s : List UInt8) (rows : List (List AV)) => (some (.agg [.int .i64 n, .int .i64 n_2, .str s, .sl 
  rows], q.2)) else bif decide (n_1 > (576460752303423488 : Int)) then kOpt (EVd (EV cfg) 79 [.ptr 0 0 0] 7 [[.int .i64 ke, .int .i64 ne, .str se, .sl le, .sl bd, .int .i64 self, .bool 
  bad]]) fun (q : AV × List (List AV)) => kTmV q.1 fun (n n_2 : Int) (s : List UInt8) (rows : List (List AV)) => (some (.agg [.int .i64 n, .int .i64 n_2, .str s, .sl rows], q.2)) else 
  kOpt (EVd (EV cfg) 86 [.ptr 0 0 0, .int .i64 (IntKind.wrap .i64 ((1 : Int) * IntKind.wrap .i64 n_1))] 7 [[.int .i64 ke, .int .i64 ne, .str se, .sl le, .sl bd, .int .i64 self, .bool 
  bad]]) fun (q : AV × List (List AV)) => kTmV q.1 fun (n n_2 : Int) (s : List UInt8) (rows : List (List AV)) => (some (.agg [.int .i64 n, .int .i64 n_2, .str s, .sl rows], q.2))) else 
  kOpt (EVs (EV cfg) 103 [.int .u64 (IntKind.wrap .u64 (IntKind.wrap .i64 ((0 : Int) - a))), .int .u64 (IntKind.wrap .u64 b)]) fun (v : AV) => kTup v fun (cs : List AV) => kCons cs fun 
  (c : AV) (cs : List AV) => kInt .u64 c fun (n : Int) => kCons cs fun (c : AV) (cs : List AV) => kInt .u64 c fun (n_1 : Int) => kNil cs (bif decide (n > (0 : Int)) then kOpt (EVd (EV 
  cfg) 79 [.ptr 0 0 0] 7 [[.int .i64 ke, .int .i64 ne, .str se, .sl le, .sl bd, .int .i64 self, .bool bad]]) fun (q : AV × List (List AV)) => kTmV q.1 fun (n n_2 : Int) (s : List UInt8) 
  (rows : List (List AV)) => (some (.agg [.int .i64 n, .int .i64 n_2, .str s, .sl rows], q.2)) else bif decide (n_1 > (576460752303423488 : Int)) then kOpt (EVd (EV cfg) 79 [.ptr 0 0 
  0] 7 [[.int .i64 ke, .int .i64 ne, .str se, .sl le, .sl bd, .int .i64 self, .bool bad]]) fun (q : AV × List (List AV)) => kTmV q.1 fun (n n_2 : Int) (s : List UInt8) (rows : List (List 
  AV)) => (some (.agg [.int .i64 n, .int .i64 n_2, .str s, .sl rows], q.2)) else kOpt (EVd (EV cfg) 86 [.ptr 0 0 0, .int .i64 (IntKind.wrap .i64 ((-1 : Int) * IntKind.wrap .i64 n_1))] 
  7 [[.int .i64 ke, .int .i64 ne, .str se, .sl le, .sl bd, .int .i64 self, .bool bad]]) fun (q : AV × List (List AV)) => kTmV q.1 fun (n n_2 : Int) (s : List UInt8) (rows : List (List 
  AV)) => (some (.agg [.int .i64 n, .int .i64 n_2, .str s, .sl rows], q.2))) else bif decide (b < (0 : Int)) then kOpt (EVs (EV cfg) 103 [.int .u64 (IntKind.wrap .u64 a), .int .u64 (IntKind.wrap 
  .u64 (IntKind.wrap .i64 ((0 : Int) - b)))]) fun (v : AV) => kTup v fun (cs : List AV) => kCons cs fun (c : AV) (cs : List AV) => kInt .u64 c fun (n : Int) => kCons cs fun (c : AV) (cs 
  : List AV) => kInt .u64 c fun (n_1 : Int) => kNil cs (bif decide (n > (0 : Int)) then kOpt (EVd (EV cfg) 79 [.ptr 0 0 0] 7 [[.int .i64 ke, .int .i64 ne, .str se, .sl le, .sl bd, .int 
  .i64 self, .bool bad]]) fun (q : AV × List (List AV)) => kTmV q.1 fun (n n_2 : Int) (s : List UInt8) (rows : List (List AV)) => (some (.agg [.int .i64 n, .int .i64 n_2, .str s, .sl 
  rows], q.2)) else bif decide (n_1 > (576460752303423488 : Int)) then kOpt (EVd (EV cfg) 79 [.ptr 0 0 0] 7 [[.int .i64 ke, .int .i64 ne, .str se, .sl le, .sl bd, .int .i64 self, .bool 
  bad]]) fun (q : AV × List (List AV)) => kTmV q.1 fun (n n_2 : Int) (s : List UInt8) (rows : List (List AV)) => (some (.agg [.int .i64 n, .int .i64 n_2, .str s, .sl rows], q.2)) else 
  kOpt (EVd (EV cfg) 86 [.ptr 0 0 0, .int .i64 (IntKind.wrap .i64 ((-1 : Int) * IntKind.wrap .i64 n_1))] 7 [[.int .i64 ke, .int .i64 ne, .str se, .sl le, .sl bd, .int .i64 self, .bool 
  bad]]) fun (q : AV × List (List AV)) => kTmV q.1 fun (n n_2 : Int) (s : List UInt8) (rows : List (List AV)) => (some (.agg [.int .i64 n, .int .i64 n_2, .str s, .sl rows], q.2))) else 
  kOpt (EVs (EV cfg) 103 [.int .u64 (IntKind.wrap .u64 a), .int .u64 (IntKind.wrap .u64 b)]) fun (v : AV) => kTup v fun (cs : List AV) => kCons cs fun (c : AV) (cs : List AV) => kInt 
  .u64 c fun (n : Int) => kCons cs fun (c : AV) (cs : List AV) => kInt .u64 c fun (n_1 : Int) => kNil cs (bif decide (n > (0 : Int)) then kOpt (EVd (EV cfg) 79 [.ptr 0 0 0] 7 [[.int .i64 
  ke, .int .i64 ne, .str se, .sl le, .sl bd, .int .i64 self, .bool bad]]) fun (q : AV × List (List AV)) => kTmV q.1 fun (n n_2 : Int) (s : List UInt8) (rows : List (List AV)) => (some 
  (.agg [.int .i64 n, .int .i64 n_2, .str s, .sl rows], q.2)) else bif decide (n_1 > (576460752303423488 : Int)) then kOpt (EVd (EV cfg) 79 [.ptr 0 0 0] 7 [[.int .i64 ke, .int .i64 ne, 
  .str se, .sl le, .sl bd, .int .i64 self, .bool bad]]) fun (q : AV × List (List AV)) => kTmV q.1 fun (n n_2 : Int) (s : List UInt8) (rows : List (List AV)) => (some (.agg [.int .i64 
  n, .int .i64 n_2, .str s, .sl rows], q.2)) else kOpt (EVd (EV cfg) 86 [.ptr 0 0 0, .int .i64 (IntKind.wrap .i64 ((1 : Int) * IntKind.wrap .i64 n_1))] 7 [[.int .i64 ke, .int .i64 ne, 
  .str se, .sl le, .sl bd, .int .i64 self, .bool bad]]) fun (q : AV × List (List AV)) => kTmV q.1 fun (n n_2 : Int) (s : List UInt8) (rows : List (List AV)) => (some (.agg [.int .i64 
  n, .int .i64 n_2, .str s, .sl rows], q.2)))) P) : Gets (EVd (EV cfg) 98 ([AV.ptr (0 : Nat) (0 : Nat) (0 : Nat), AV.int IntKind.i64 a, AV.int IntKind.i64 b] : List AV) 7 [[AV.int .i64 ke, AV.int .i64 ne, AV.str se, AV.sl le, AV.sl bd, AV.int .i64 self, AV.bool bad]]) P :=
  Gets.ev (fun _ h => funD rfl rfl Try.func98 rfl h) (Gets.eq (by kernel_rfl) h)
theorem mNumbers_run (ke : Int) (ne : Int) (se : List UInt8) (le : List (List AV)) (bd : List (List AV)) (self : Int) (bad : Bool) (op : List UInt8) (a : Int) (b : Int) {P : AV × List (List AV) → Prop} (h : Gets (bif bad then some (.agg [.int .i64 (0 : Int), .int .i64 (0 : Int), .str [], .sl []], [[.int .i64 ke, .int .i64 ne, .str se, .sl le, .sl bd, .int .i64 self, .bool bad]]) else bif op 
  == [(43 : UInt8)] then kOpt (EVd (EV cfg) 86 [.ptr 0 0 0, .int .i64 (IntKind.wrap .i64 (a + b))] 7 [[.int .i64 ke, .int .i64 ne, .str se, .sl le, .sl bd, .int .i64 self, .bool bad]]) 
  fun (q : AV × List (List AV)) => kTmV q.1 fun (n n_1 : Int) (s : List UInt8) (rows : List (List AV)) => (some (.agg [.int .i64 n, .int .i64 n_1, .str s, .sl rows], q.2)) else bif op 
  == [(45 : UInt8)] then kOpt (EVd (EV cfg) 86 [.ptr 0 0 0, .int .i64 (IntKind.wrap .i64 (a - b))] 7 [[.int .i64 ke, .int .i64 ne, .str se, .sl le, .sl bd, .int .i64 self, .bool bad]]) 
  fun (q : AV × List (List AV)) => kTmV q.1 fun (n n_1 : Int) (s : List UInt8) (rows : List (List AV)) => (some (.agg [.int .i64 n, .int .i64 n_1, .str s, .sl rows], q.2)) else bif op 
  == [(42 : UInt8)] then kOpt (EVd (EV cfg) 98 [.ptr 0 0 0, .int .i64 a, .int .i64 b] 7 [[.int .i64 ke, .int .i64 ne, .str se, .sl le, .sl bd, .int .i64 self, .bool bad]]) fun (q : AV 
  × List (List AV)) => kTmV q.1 fun (n n_1 : Int) (s : List UInt8) (rows : List (List AV)) => (some (.agg [.int .i64 n, .int .i64 n_1, .str s, .sl rows], q.2)) else bif op == [(98 : UInt8), 
  (97 : UInt8), (110 : UInt8), (100 : UInt8)] then kOpt (fromSem (Op.intBits BinOp.and .i64 a b)) fun (v : AV) => kInt .i64 v fun (n : Int) => kOpt (EVd (EV cfg) 86 [.ptr 0 0 0, .int 
  .i64 n] 7 [[.int .i64 ke, .int .i64 ne, .str se, .sl le, .sl bd, .int .i64 self, .bool bad]]) fun (q : AV × List (List AV)) => kTmV q.1 fun (n n_1 : Int) (s : List UInt8) (rows : List 
  (List AV)) => (some (.agg [.int .i64 n, .int .i64 n_1, .str s, .sl rows], q.2)) else bif op == [(98 : UInt8), (111 : UInt8), (114 : UInt8)] then kOpt (fromSem (Op.intBits BinOp.or .i64 
  a b)) fun (v : AV) => kInt .i64 v fun (n : Int) => kOpt (EVd (EV cfg) 86 [.ptr 0 0 0, .int .i64 n] 7 [[.int .i64 ke, .int .i64 ne, .str se, .sl le, .sl bd, .int .i64 self, .bool bad]]) 
  fun (q : AV × List (List AV)) => kTmV q.1 fun (n n_1 : Int) (s : List UInt8) (rows : List (List AV)) => (some (.agg [.int .i64 n, .int .i64 n_1, .str s, .sl rows], q.2)) else bif op 
  == [(98 : UInt8), (120 : UInt8), (111 : UInt8), (114 : UInt8)] then kOpt (fromSem (Op.intBits BinOp.xor .i64 a b)) fun (v : AV) => kInt .i64 v fun (n : Int) => kOpt (EVd (EV cfg) 86 
  [.ptr 0 0 0, .int .i64 n] 7 [[.int .i64 ke, .int .i64 ne, .str se, .sl le, .sl bd, .int .i64 self, .bool bad]]) fun (q : AV × List (List AV)) => kTmV q.1 fun (n n_1 : Int) (s : List 
  UInt8) (rows : List (List AV)) => (some (.agg [.int .i64 n, .int .i64 n_1, .str s, .sl rows], q.2)) else bif b == (0 : Int) then kOpt (EVd (EV cfg) 79 [.ptr 0 0 0] 7 [[.int .i64 ke, 
  .int .i64 ne, .str se, .sl le, .sl bd, .int .i64 self, .bool bad]]) fun (q : AV × List (List AV)) => kTmV q.1 fun (n n_1 : Int) (s : List UInt8) (rows : List (List AV)) => (some (.agg 
  [.int .i64 n, .int .i64 n_1, .str s, .sl rows], q.2)) else bif op == [(100 : UInt8), (105 : UInt8), (118 : UInt8)] then kOpt (fromSem (Op.intDiv BinOp.quo .i64 a b)) fun (v : AV) => 
  kInt .i64 v fun (n : Int) => kOpt (EVd (EV cfg) 86 [.ptr 0 0 0, .int .i64 n] 7 [[.int .i64 ke, .int .i64 ne, .str se, .sl le, .sl bd, .int .i64 self, .bool bad]]) fun (q : AV × List 
  (List AV)) => kTmV q.1 fun (n n_1 : Int) (s : List UInt8) (rows : List (List AV)) => (some (.agg [.int .i64 n, .int .i64 n_1, .str s, .sl rows], q.2)) else kOpt (fromSem (Op.intDiv 
  BinOp.rem .i64 a b)) fun (v : AV) => kInt .i64 v fun (n : Int) => kOpt (EVd (EV cfg) 86 [.ptr 0 0 0, .int .i64 n] 7 [[.int .i64 ke, .int .i64 ne, .str se, .sl le, .sl bd, .int .i64 
  self, .bool bad]]) fun (q : AV × List (List AV)) => kTmV q.1 fun (n n_1 : Int) (s : List UInt8) (rows : List (List AV)) => (some (.agg [.int .i64 n, .int .i64 n_1, .str s, .sl rows], 
  q.2))) P) : Gets (EVd (EV cfg) 90 ([AV.ptr (0 : Nat) (0 : Nat) (0 : Nat), AV.str op, AV.int IntKind.i64 a, AV.int IntKind.i64 b] : List AV) 7 [[AV.int .i64 ke, AV.int .i64 ne, AV.str se, AV.sl le, AV.sl bd, AV.int .i64 self, AV.bool bad]]) P :=
  Gets.ev (fun _ h => funD rfl rfl Try.func90 rfl h) (Gets.eq (by kernel_rfl) h)
theorem mInt_run (ke : Int) (ne : Int) (se : List UInt8) (le : List (List AV)) (bd : List (List AV)) (self : Int) (bad : Bool) (kt : Int) (nt : Int) (st : List UInt8) (lt : List (List AV)) {P : MV × List (List AV) → Prop} (h : Gets (bif kt != (1 : Int) then kOpt (EVd (EV cfg) 79 [.ptr 0 0 0] 7 [[.int .i64 ke, .int .i64 ne, .str se, .sl le, .sl bd, .int .i64 self, .bool bad]]) fun (q : AV × List (List AV)) => kTmV 
  q.1 fun (n n : Int) (s : List UInt8) (rows : List (List AV)) => (some (MV.int .i64 nt, q.2)) else some (MV.int .i64 nt, [[.int .i64 ke, .int .i64 ne, .str se, .sl le, .sl bd, .int .i64 
  self, .bool bad]])) P) : Gets (EVm (EV cfg) 87 ([AV.ptr (0 : Nat) (0 : Nat) (0 : Nat), AV.agg [AV.int IntKind.i64 kt, AV.int IntKind.i64 nt, AV.str st, AV.sl lt]] : List AV) 7 [[AV.int .i64 ke, AV.int .i64 ne, AV.str se, AV.sl le, AV.sl bd, AV.int .i64 self, AV.bool bad]]) P :=
  Gets.ev (fun _ h => funM rfl rfl Try.func87 rfl h) (Gets.eq (by kernel_rfl) h)
theorem mBool_run (ke : Int) (ne : Int) (se : List UInt8) (le : List (List AV)) (bd : List (List AV)) (self : Int) (bad : Bool) (kt : Int) (nt : Int) (st : List UInt8) (lt : List (List AV)) {P : MV × List (List AV) → Prop} (h : Gets (bif kt != (2 : Int) then kOpt (EVd (EV cfg) 79 [.ptr 0 0 0] 7 [[.int .i64 ke, .int .i64 ne, .str se, .sl le, .sl bd, .int .i64 self, .bool bad]]) fun (q : AV × List (List AV)) => kTmV 
  q.1 fun (n n : Int) (s : List UInt8) (rows : List (List AV)) => (some (MV.bool (st == [(116 : UInt8), (114 : UInt8), (117 : UInt8), (101 : UInt8)]), q.2)) else bif !st == [(116 : UInt8), 
  (114 : UInt8), (117 : UInt8), (101 : UInt8)] then bif !st == [(102 : UInt8), (97 : UInt8), (108 : UInt8), (115 : UInt8), (101 : UInt8)] then kOpt (EVd (EV cfg) 79 [.ptr 0 0 0] 7 [[.int 
  .i64 ke, .int .i64 ne, .str se, .sl le, .sl bd, .int .i64 self, .bool bad]]) fun (q : AV × List (List AV)) => kTmV q.1 fun (n n : Int) (s : List UInt8) (rows : List (List AV)) => (some 
  (MV.bool (st == [(116 : UInt8), (114 : UInt8), (117 : UInt8), (101 : UInt8)]), q.2)) else some (MV.bool (st == [(116 : UInt8), (114 : UInt8), (117 : UInt8), (101 : UInt8)]), [[.int 
  .i64 ke, .int .i64 ne, .str se, .sl le, .sl bd, .int .i64 self, .bool bad]]) else some (MV.bool (st == [(116 : UInt8), (114 : UInt8), (117 : UInt8), (101 : UInt8)]), [[.int .i64 ke, 
  .int .i64 ne, .str se, .sl le, .sl bd, .int .i64 self, .bool bad]])) P) : Gets (EVm (EV cfg) 73 ([AV.ptr (0 : Nat) (0 : Nat) (0 : Nat), AV.agg [AV.int IntKind.i64 kt, AV.int IntKind.i64 nt, AV.str st, AV.sl lt]] : List AV) 7 [[AV.int .i64 ke, AV.int .i64 ne, AV.str se, AV.sl le, AV.sl bd, AV.int .i64 self, AV.bool bad]]) P :=
  Gets.ev (fun _ h => funM rfl rfl Try.func73 rfl h) (Gets.eq (by kernel_rfl) h)
theorem mTwo_run (ke : Int) (ne : Int) (se : List UInt8) (le : List (List AV)) (bd : List (List AV)) (self : Int) (bad : Bool) (op : List UInt8) (ka : Int) (na : Int) (sa : List UInt8) (la : List (List AV)) (kb : Int) (nb : Int) (sb : List UInt8) (lb : List (List AV)) {P : AV × List (List AV) → Prop} (h : Gets (bif op == [(61 : UInt8), (61 : UInt8)] then kOpt (EVs (EV cfg) 89 [.agg [.int .i64 ka, .int .i64 na, .str sa, .sl la], .agg [.int .i64 kb, .int .i64 nb, .str sb, .sl lb]]) fun (v : 
  AV) => kInt .i64 v fun (n : Int) => kOpt (EVf (EV cfg) 85 [.bool (n == (0 : Int))]) fun (v : AV) => kTmV v fun (n n_1 : Int) (s : List UInt8) (rows : List (List AV)) => (some (.agg 
  [.int .i64 n, .int .i64 n_1, .str s, .sl rows], [[.int .i64 ke, .int .i64 ne, .str se, .sl le, .sl bd, .int .i64 self, .bool bad]])) else bif op == [(61 : UInt8), (58 : UInt8), (61 
  : UInt8)] then kOpt (EVs (EV cfg) 89 [.agg [.int .i64 ka, .int .i64 na, .str sa, .sl la], .agg [.int .i64 kb, .int .i64 nb, .str sb, .sl lb]]) fun (v : AV) => kInt .i64 v fun (n : Int) 
  => kOpt (EVf (EV cfg) 85 [.bool (n == (0 : Int))]) fun (v : AV) => kTmV v fun (n n_1 : Int) (s : List UInt8) (rows : List (List AV)) => (some (.agg [.int .i64 n, .int .i64 n_1, .str 
  s, .sl rows], [[.int .i64 ke, .int .i64 ne, .str se, .sl le, .sl bd, .int .i64 self, .bool bad]])) else bif op == [(47 : UInt8), (61 : UInt8)] then kOpt (EVs (EV cfg) 89 [.agg [.int 
  .i64 ka, .int .i64 na, .str sa, .sl la], .agg [.int .i64 kb, .int .i64 nb, .str sb, .sl lb]]) fun (v : AV) => kInt .i64 v fun (n : Int) => kOpt (EVf (EV cfg) 85 [.bool (n != (0 : Int))]) 
  fun (v : AV) => kTmV v fun (n n_1 : Int) (s : List UInt8) (rows : List (List AV)) => (some (.agg [.int .i64 n, .int .i64 n_1, .str s, .sl rows], [[.int .i64 ke, .int .i64 ne, .str se, 
  .sl le, .sl bd, .int .i64 self, .bool bad]])) else bif op == [(61 : UInt8), (47 : UInt8), (61 : UInt8)] then kOpt (EVs (EV cfg) 89 [.agg [.int .i64 ka, .int .i64 na, .str sa, .sl la], 
  .agg [.int .i64 kb, .int .i64 nb, .str sb, .sl lb]]) fun (v : AV) => kInt .i64 v fun (n : Int) => kOpt (EVf (EV cfg) 85 [.bool (n != (0 : Int))]) fun (v : AV) => kTmV v fun (n n_1 : 
  Int) (s : List UInt8) (rows : List (List AV)) => (some (.agg [.int .i64 n, .int .i64 n_1, .str s, .sl rows], [[.int .i64 ke, .int .i64 ne, .str se, .sl le, .sl bd, .int .i64 self, .bool 
  bad]])) else bif op == [(60 : UInt8)] then kOpt (EVs (EV cfg) 89 [.agg [.int .i64 ka, .int .i64 na, .str sa, .sl la], .agg [.int .i64 kb, .int .i64 nb, .str sb, .sl lb]]) fun (v : AV) 
  => kInt .i64 v fun (n : Int) => kOpt (EVf (EV cfg) 85 [.bool (decide (n < (0 : Int)))]) fun (v : AV) => kTmV v fun (n n_1 : Int) (s : List UInt8) (rows : List (List AV)) => (some (.agg 
  [.int .i64 n, .int .i64 n_1, .str s, .sl rows], [[.int .i64 ke, .int .i64 ne, .str se, .sl le, .sl bd, .int .i64 self, .bool bad]])) else bif op == [(61 : UInt8), (60 : UInt8)] then 
  kOpt (EVs (EV cfg) 89 [.agg [.int .i64 ka, .int .i64 na, .str sa, .sl la], .agg [.int .i64 kb, .int .i64 nb, .str sb, .sl lb]]) fun (v : AV) => kInt .i64 v fun (n : Int) => kOpt (EVf 
  (EV cfg) 85 [.bool (decide (n ≤ (0 : Int)))]) fun (v : AV) => kTmV v fun (n n_1 : Int) (s : List UInt8) (rows : List (List AV)) => (some (.agg [.int .i64 n, .int .i64 n_1, .str s, .sl 
  rows], [[.int .i64 ke, .int .i64 ne, .str se, .sl le, .sl bd, .int .i64 self, .bool bad]])) else bif op == [(62 : UInt8)] then kOpt (EVs (EV cfg) 89 [.agg [.int .i64 ka, .int .i64 na, 
  .str sa, .sl la], .agg [.int .i64 kb, .int .i64 nb, .str sb, .sl lb]]) fun (v : AV) => kInt .i64 v fun (n : Int) => kOpt (EVf (EV cfg) 85 [.bool (decide (n > (0 : Int)))]) fun (v : 
  AV) => kTmV v fun (n n_1 : Int) (s : List UInt8) (rows : List (List AV)) => (some (.agg [.int .i64 n, .int .i64 n_1, .str s, .sl rows], [[.int .i64 ke, .int .i64 ne, .str se, .sl le, 
  .sl bd, .int .i64 self, .bool bad]])) else bif op == [(62 : UInt8), (61 : UInt8)] then kOpt (EVs (EV cfg) 89 [.agg [.int .i64 ka, .int .i64 na, .str sa, .sl la], .agg [.int .i64 kb, 
  .int .i64 nb, .str sb, .sl lb]]) fun (v : AV) => kInt .i64 v fun (n : Int) => kOpt (EVf (EV cfg) 85 [.bool (decide (n ≥ (0 : Int)))]) fun (v : AV) => kTmV v fun (n n_1 : Int) (s : List 
  UInt8) (rows : List (List AV)) => (some (.agg [.int .i64 n, .int .i64 n_1, .str s, .sl rows], [[.int .i64 ke, .int .i64 ne, .str se, .sl le, .sl bd, .int .i64 self, .bool bad]])) else 
  bif op == [(97 : UInt8), (110 : UInt8), (100 : UInt8)] then kOpt (EVm (EV cfg) 73 [.ptr 0 0 0, .agg [.int .i64 ka, .int .i64 na, .str sa, .sl la]] 7 [[.int .i64 ke, .int .i64 ne, .str 
  se, .sl le, .sl bd, .int .i64 self, .bool bad]]) fun (q : MV × List (List AV)) => kMBool q.1 fun (b : Bool) => kOpt (EVm (EV cfg) 73 [.ptr 0 0 0, .agg [.int .i64 kb, .int .i64 nb, .str 
  sb, .sl lb]] 7 q.2) fun (q : MV × List (List AV)) => kMBool q.1 fun (b_1 : Bool) => bif b then kOpt (EVf (EV cfg) 85 [.bool b_1]) fun (v : AV) => kTmV v fun (n n_1 : Int) (s : List 
  UInt8) (rows : List (List AV)) => (some (.agg [.int .i64 n, .int .i64 n_1, .str s, .sl rows], q.2)) else kOpt (EVf (EV cfg) 85 [.bool false]) fun (v : AV) => kTmV v fun (n n_1 : Int) 
  (s : List UInt8) (rows : List (List AV)) => (some (.agg [.int .i64 n, .int .i64 n_1, .str s, .sl rows], q.2)) else bif op == [(97 : UInt8), (110 : UInt8), (100 : UInt8), (97 : UInt8), 
  (108 : UInt8), (115 : UInt8), (111 : UInt8)] then kOpt (EVm (EV cfg) 73 [.ptr 0 0 0, .agg [.int .i64 ka, .int .i64 na, .str sa, .sl la]] 7 [[.int .i64 ke, .int .i64 ne, .str se, .sl 
  le, .sl bd, .int .i64 self, .bool bad]]) fun (q : MV × List (List AV)) => kMBool q.1 fun (b : Bool) => kOpt (EVm (EV cfg) 73 [.ptr 0 0 0, .agg [.int .i64 kb, .int .i64 nb, .str sb, 
  .sl lb]] 7 q.2) fun (q : MV × List (List AV)) => kMBool q.1 fun (b_1 : Bool) => bif b then kOpt (EVf (EV cfg) 85 [.bool b_1]) fun (v : AV) => kTmV v fun (n n_1 : Int) (s : List UInt8) 
  (rows : List (List AV)) => (some (.agg [.int .i64 n, .int .i64 n_1, .str s, .sl rows], q.2)) else kOpt (EVf (EV cfg) 85 [.bool false]) fun (v : AV) => kTmV v fun (n n_1 : Int) (s : 
  List UInt8) (rows : List (List AV)) => (some (.agg [.int .i64 n, .int .i64 n_1, .str s, .sl rows], q.2)) else bif op == [(111 : UInt8), (114 : UInt8)] then kOpt (EVm (EV cfg) 73 [.ptr 
  0 0 0, .agg [.int .i64 ka, .int .i64 na, .str sa, .sl la]] 7 [[.int .i64 ke, .int .i64 ne, .str se, .sl le, .sl bd, .int .i64 self, .bool bad]]) fun (q : MV × List (List AV)) => kMBool 
  q.1 fun (b : Bool) => kOpt (EVm (EV cfg) 73 [.ptr 0 0 0, .agg [.int .i64 kb, .int .i64 nb, .str sb, .sl lb]] 7 q.2) fun (q : MV × List (List AV)) => kMBool q.1 fun (b_1 : Bool) => bif 
  b then kOpt (EVf (EV cfg) 85 [.bool true]) fun (v : AV) => kTmV v fun (n n_1 : Int) (s : List UInt8) (rows : List (List AV)) => (some (.agg [.int .i64 n, .int .i64 n_1, .str s, .sl 
  rows], q.2)) else kOpt (EVf (EV cfg) 85 [.bool b_1]) fun (v : AV) => kTmV v fun (n n_1 : Int) (s : List UInt8) (rows : List (List AV)) => (some (.agg [.int .i64 n, .int .i64 n_1, .str 
  s, .sl rows], q.2)) else bif op == [(111 : UInt8), (114 : UInt8), (101 : UInt8), (108 : UInt8), (115 : UInt8), (101 : UInt8)] then kOpt (EVm (EV cfg) 73 [.ptr 0 0 0, .agg [.int .i64 
  ka, .int .i64 na, .str sa, .sl la]] 7 [[.int .i64 ke, .int .i64 ne, .str se, .sl le, .sl bd, .int .i64 self, .bool bad]]) fun (q : MV × List (List AV)) => kMBool q.1 fun (b : Bool) 
  => kOpt (EVm (EV cfg) 73 [.ptr 0 0 0, .agg [.int .i64 kb, .int .i64 nb, .str sb, .sl lb]] 7 q.2) fun (q : MV × List (List AV)) => kMBool q.1 fun (b_1 : Bool) => bif b then kOpt (EVf 
  (EV cfg) 85 [.bool true]) fun (v : AV) => kTmV v fun (n n_1 : Int) (s : List UInt8) (rows : List (List AV)) => (some (.agg [.int .i64 n, .int .i64 n_1, .str s, .sl rows], q.2)) else 
  kOpt (EVf (EV cfg) 85 [.bool b_1]) fun (v : AV) => kTmV v fun (n n_1 : Int) (s : List UInt8) (rows : List (List AV)) => (some (.agg [.int .i64 n, .int .i64 n_1, .str s, .sl rows], q.2)) 
  else bif op == [(120 : UInt8), (111 : UInt8), (114 : UInt8)] then kOpt (EVm (EV cfg) 73 [.ptr 0 0 0, .agg [.int .i64 ka, .int .i64 na, .str sa, .sl la]] 7 [[.int .i64 ke, .int .i64 
  ne, .str se, .sl le, .sl bd, .int .i64 self, .bool bad]]) fun (q : MV × List (List AV)) => kMBool q.1 fun (b : Bool) => kOpt (EVm (EV cfg) 73 [.ptr 0 0 0, .agg [.int .i64 kb, .int .i64 
  nb, .str sb, .sl lb]] 7 q.2) fun (q : MV × List (List AV)) => kMBool q.1 fun (b_1 : Bool) => kOpt (EVf (EV cfg) 85 [.bool !b == b_1]) fun (v : AV) => kTmV v fun (n n_1 : Int) (s : List 
  UInt8) (rows : List (List AV)) => (some (.agg [.int .i64 n, .int .i64 n_1, .str s, .sl rows], q.2)) else bif op == [(101 : UInt8), (108 : UInt8), (101 : UInt8), (109 : UInt8), (101 
  : UInt8), (110 : UInt8), (116 : UInt8)] then kOpt (EVm (EV cfg) 87 [.ptr 0 0 0, .agg [.int .i64 ka, .int .i64 na, .str sa, .sl la]] 7 [[.int .i64 ke, .int .i64 ne, .str se, .sl le, 
  .sl bd, .int .i64 self, .bool bad]]) fun (q : MV × List (List AV)) => kMInt .i64 q.1 fun (n : Int) => bif decide (n ≥ (1 : Int)) then bif kb == (7 : Int) then bif decide (n ≤ (↑(List.length 
  lb) : Int)) then bif leInt (0 : Int) (IntKind.wrap .i64 (n - (1 : Int))) && ltInt (IntKind.wrap .i64 (n - (1 : Int))) (↑(List.length lb) : Int) then kOpt (List.get?Internal lb (Int.toNat 
  (IntKind.wrap .i64 (n - (1 : Int))))) fun (row : List AV) => bif Nat.beq (List.length row) 4 then bif Nat.ble 4 (List.length row) then kTmC (List.take 4 row) fun (n n_1 : Int) (s : 
  List UInt8) (rows : List (List AV)) => (some (.agg [.int .i64 n, .int .i64 n_1, .str s, .sl rows], q.2)) else none else none else none else kOpt (EVd (EV cfg) 79 [.ptr 0 0 0] 7 q.2) 
  fun (q : AV × List (List AV)) => kTmV q.1 fun (n n_1 : Int) (s : List UInt8) (rows : List (List AV)) => (some (.agg [.int .i64 n, .int .i64 n_1, .str s, .sl rows], q.2)) else kOpt (EVd 
  (EV cfg) 79 [.ptr 0 0 0] 7 q.2) fun (q : AV × List (List AV)) => kTmV q.1 fun (n n_1 : Int) (s : List UInt8) (rows : List (List AV)) => (some (.agg [.int .i64 n, .int .i64 n_1, .str 
  s, .sl rows], q.2)) else kOpt (EVd (EV cfg) 79 [.ptr 0 0 0] 7 q.2) fun (q : AV × List (List AV)) => kTmV q.1 fun (n n_1 : Int) (s : List UInt8) (rows : List (List AV)) => (some (.agg 
  [.int .i64 n, .int .i64 n_1, .str s, .sl rows], q.2)) else kOpt (EVm (EV cfg) 87 [.ptr 0 0 0, .agg [.int .i64 ka, .int .i64 na, .str sa, .sl la]] 7 [[.int .i64 ke, .int .i64 ne, .str 
  se, .sl le, .sl bd, .int .i64 self, .bool bad]]) fun (q : MV × List (List AV)) => kMInt .i64 q.1 fun (n : Int) => kOpt (EVm (EV cfg) 87 [.ptr 0 0 0, .agg [.int .i64 kb, .int .i64 nb, 
  .str sb, .sl lb]] 7 q.2) fun (q : MV × List (List AV)) => kMInt .i64 q.1 fun (n_1 : Int) => kOpt (EVd (EV cfg) 90 [.ptr 0 0 0, .str op, .int .i64 n, .int .i64 n_1] 7 q.2) fun (q : AV 
  × List (List AV)) => kTmV q.1 fun (n n_2 : Int) (s : List UInt8) (rows : List (List AV)) => (some (.agg [.int .i64 n, .int .i64 n_2, .str s, .sl rows], q.2))) P) : Gets (EVd (EV cfg) 81 ([AV.ptr (0 : Nat) (0 : Nat) (0 : Nat), AV.str op, AV.agg [AV.int IntKind.i64 ka, AV.int IntKind.i64 na, AV.str sa, AV.sl la], AV.agg [AV.int IntKind.i64 kb, AV.int IntKind.i64 nb, AV.str sb, AV.sl lb]] : List AV) 7 [[AV.int .i64 ke, AV.int .i64 ne, AV.str se, AV.sl le, AV.sl bd, AV.int .i64 self, AV.bool bad]]) P :=
  Gets.ev (fun _ h => funD rfl rfl Try.func81 rfl h) (Gets.eq (by kernel_rfl) h)
theorem mOne_run (ke : Int) (ne : Int) (se : List UInt8) (le : List (List AV)) (bd : List (List AV)) (self : Int) (bad : Bool) (op : List UInt8) (kt : Int) (nt : Int) (st : List UInt8) (lt : List (List AV)) {P : AV × List (List AV) → Prop} (h : Gets (bif op == [(105 : UInt8), (115 : UInt8), (95 : UInt8), (97 : UInt8), (116 : UInt8), (111 : UInt8), (109 : UInt8)] then kOpt (EVf (EV cfg) 85 [.bool (kt == (2 : Int))]) fun (v : AV) 
  => kTmV v fun (n n_1 : Int) (s : List UInt8) (rows : List (List AV)) => (some (.agg [.int .i64 n, .int .i64 n_1, .str s, .sl rows], [[.int .i64 ke, .int .i64 ne, .str se, .sl le, .sl 
  bd, .int .i64 self, .bool bad]])) else bif op == [(105 : UInt8), (115 : UInt8), (95 : UInt8), (105 : UInt8), (110 : UInt8), (116 : UInt8), (101 : UInt8), (103 : UInt8), (101 : UInt8), 
  (114 : UInt8)] then kOpt (EVf (EV cfg) 85 [.bool (kt == (1 : Int))]) fun (v : AV) => kTmV v fun (n n_1 : Int) (s : List UInt8) (rows : List (List AV)) => (some (.agg [.int .i64 n, .int 
  .i64 n_1, .str s, .sl rows], [[.int .i64 ke, .int .i64 ne, .str se, .sl le, .sl bd, .int .i64 self, .bool bad]])) else bif op == [(105 : UInt8), (115 : UInt8), (95 : UInt8), (108 : 
  UInt8), (105 : UInt8), (115 : UInt8), (116 : UInt8)] then bif kt == (9 : Int) then kOpt (EVf (EV cfg) 85 [.bool true]) fun (v : AV) => kTmV v fun (n n_1 : Int) (s : List UInt8) (rows 
  : List (List AV)) => (some (.agg [.int .i64 n, .int .i64 n_1, .str s, .sl rows], [[.int .i64 ke, .int .i64 ne, .str se, .sl le, .sl bd, .int .i64 self, .bool bad]])) else kOpt (EVf 
  (EV cfg) 85 [.bool (kt == (8 : Int))]) fun (v : AV) => kTmV v fun (n n_1 : Int) (s : List UInt8) (rows : List (List AV)) => (some (.agg [.int .i64 n, .int .i64 n_1, .str s, .sl rows], 
  [[.int .i64 ke, .int .i64 ne, .str se, .sl le, .sl bd, .int .i64 self, .bool bad]])) else bif op == [(105 : UInt8), (115 : UInt8), (95 : UInt8), (116 : UInt8), (117 : UInt8), (112 : 
  UInt8), (108 : UInt8), (101 : UInt8)] then kOpt (EVf (EV cfg) 85 [.bool (kt == (7 : Int))]) fun (v : AV) => kTmV v fun (n n_1 : Int) (s : List UInt8) (rows : List (List AV)) => (some 
  (.agg [.int .i64 n, .int .i64 n_1, .str s, .sl rows], [[.int .i64 ke, .int .i64 ne, .str se, .sl le, .sl bd, .int .i64 self, .bool bad]])) else bif op == [(105 : UInt8), (115 : UInt8), 
  (95 : UInt8), (112 : UInt8), (105 : UInt8), (100 : UInt8)] then kOpt (EVf (EV cfg) 85 [.bool (kt == (6 : Int))]) fun (v : AV) => kTmV v fun (n n_1 : Int) (s : List UInt8) (rows : List 
  (List AV)) => (some (.agg [.int .i64 n, .int .i64 n_1, .str s, .sl rows], [[.int .i64 ke, .int .i64 ne, .str se, .sl le, .sl bd, .int .i64 self, .bool bad]])) else bif op == [(105 : 
  UInt8), (115 : UInt8), (95 : UInt8), (102 : UInt8), (117 : UInt8), (110 : UInt8), (99 : UInt8), (116 : UInt8), (105 : UInt8), (111 : UInt8), (110 : UInt8)] then kOpt (EVf (EV cfg) 85 
  [.bool (kt == (5 : Int))]) fun (v : AV) => kTmV v fun (n n_1 : Int) (s : List UInt8) (rows : List (List AV)) => (some (.agg [.int .i64 n, .int .i64 n_1, .str s, .sl rows], [[.int .i64 
  ke, .int .i64 ne, .str se, .sl le, .sl bd, .int .i64 self, .bool bad]])) else bif op == [(105 : UInt8), (115 : UInt8), (95 : UInt8), (114 : UInt8), (101 : UInt8), (102 : UInt8), (101 
  : UInt8), (114 : UInt8), (101 : UInt8), (110 : UInt8), (99 : UInt8), (101 : UInt8)] then bif kt == (3 : Int) then kOpt (EVf (EV cfg) 85 [.bool true]) fun (v : AV) => kTmV v fun (n n_1 
  : Int) (s : List UInt8) (rows : List (List AV)) => (some (.agg [.int .i64 n, .int .i64 n_1, .str s, .sl rows], [[.int .i64 ke, .int .i64 ne, .str se, .sl le, .sl bd, .int .i64 self, 
  .bool bad]])) else kOpt (EVf (EV cfg) 85 [.bool (kt == (4 : Int))]) fun (v : AV) => kTmV v fun (n n_1 : Int) (s : List UInt8) (rows : List (List AV)) => (some (.agg [.int .i64 n, .int 
  .i64 n_1, .str s, .sl rows], [[.int .i64 ke, .int .i64 ne, .str se, .sl le, .sl bd, .int .i64 self, .bool bad]])) else bif op == [(110 : UInt8), (111 : UInt8), (116 : UInt8)] then kOpt 
  (EVm (EV cfg) 73 [.ptr 0 0 0, .agg [.int .i64 kt, .int .i64 nt, .str st, .sl lt]] 7 [[.int .i64 ke, .int .i64 ne, .str se, .sl le, .sl bd, .int .i64 self, .bool bad]]) fun (q : MV × 
  List (List AV)) => kMBool q.1 fun (b : Bool) => kOpt (EVf (EV cfg) 85 [.bool !b]) fun (v : AV) => kTmV v fun (n n_1 : Int) (s : List UInt8) (rows : List (List AV)) => (some (.agg [.int 
  .i64 n, .int .i64 n_1, .str s, .sl rows], q.2)) else bif op == [(98 : UInt8), (110 : UInt8), (111 : UInt8), (116 : UInt8)] then kOpt (EVm (EV cfg) 87 [.ptr 0 0 0, .agg [.int .i64 kt, 
  .int .i64 nt, .str st, .sl lt]] 7 [[.int .i64 ke, .int .i64 ne, .str se, .sl le, .sl bd, .int .i64 self, .bool bad]]) fun (q : MV × List (List AV)) => kMInt .i64 q.1 fun (n : Int) => 
  kOpt (fromSem (Op.intBits BinOp.xor .i64 (-1 : Int) n)) fun (v : AV) => kInt .i64 v fun (n : Int) => kOpt (EVd (EV cfg) 86 [.ptr 0 0 0, .int .i64 n] 7 q.2) fun (q : AV × List (List 
  AV)) => kTmV q.1 fun (n n_1 : Int) (s : List UInt8) (rows : List (List AV)) => (some (.agg [.int .i64 n, .int .i64 n_1, .str s, .sl rows], q.2)) else bif op == [(43 : UInt8)] then kOpt 
  (EVm (EV cfg) 87 [.ptr 0 0 0, .agg [.int .i64 kt, .int .i64 nt, .str st, .sl lt]] 7 [[.int .i64 ke, .int .i64 ne, .str se, .sl le, .sl bd, .int .i64 self, .bool bad]]) fun (q : MV × 
  List (List AV)) => kMInt .i64 q.1 fun (n : Int) => kOpt (EVd (EV cfg) 86 [.ptr 0 0 0, .int .i64 n] 7 q.2) fun (q : AV × List (List AV)) => kTmV q.1 fun (n n_1 : Int) (s : List UInt8) 
  (rows : List (List AV)) => (some (.agg [.int .i64 n, .int .i64 n_1, .str s, .sl rows], q.2)) else bif op == [(45 : UInt8)] then kOpt (EVm (EV cfg) 87 [.ptr 0 0 0, .agg [.int .i64 kt, 
  .int .i64 nt, .str st, .sl lt]] 7 [[.int .i64 ke, .int .i64 ne, .str se, .sl le, .sl bd, .int .i64 self, .bool bad]]) fun (q : MV × List (List AV)) => kMInt .i64 q.1 fun (n : Int) => 
  kOpt (EVd (EV cfg) 86 [.ptr 0 0 0, .int .i64 (IntKind.wrap .i64 ((0 : Int) - n))] 7 q.2) fun (q : AV × List (List AV)) => kTmV q.1 fun (n n_1 : Int) (s : List UInt8) (rows : List (List 
  AV)) => (some (.agg [.int .i64 n, .int .i64 n_1, .str s, .sl rows], q.2)) else bif op == [(97 : UInt8), (98 : UInt8), (115 : UInt8)] then kOpt (EVm (EV cfg) 87 [.ptr 0 0 0, .agg [.int 
  .i64 kt, .int .i64 nt, .str st, .sl lt]] 7 [[.int .i64 ke, .int .i64 ne, .str se, .sl le, .sl bd, .int .i64 self, .bool bad]]) fun (q : MV × List (List AV)) => kMInt .i64 q.1 fun (n 
  : Int) => kOpt (EVd (EV cfg) 86 [.ptr 0 0 0, .int .i64 (if (fun (b a : Int) => decide (a < b)) (IntKind.wrap .i64 ((0 : Int) - nt)) n = true then IntKind.wrap .i64 ((0 : Int) - nt) 
  else n)] 7 q.2) fun (q : AV × List (List AV)) => kTmV q.1 fun (n n_1 : Int) (s : List UInt8) (rows : List (List AV)) => (some (.agg [.int .i64 n, .int .i64 n_1, .str s, .sl rows], q.2)) 
  else bif op == [(116 : UInt8), (117 : UInt8), (112 : UInt8), (108 : UInt8), (101 : UInt8), (95 : UInt8), (115 : UInt8), (105 : UInt8), (122 : UInt8), (101 : UInt8)] then bif kt != (7 
  : Int) then kOpt (EVd (EV cfg) 79 [.ptr 0 0 0] 7 [[.int .i64 ke, .int .i64 ne, .str se, .sl le, .sl bd, .int .i64 self, .bool bad]]) fun (q : AV × List (List AV)) => kTmV q.1 fun (n 
  n_1 : Int) (s : List UInt8) (rows : List (List AV)) => (some (.agg [.int .i64 n, .int .i64 n_1, .str s, .sl rows], q.2)) else kOpt (EVd (EV cfg) 86 [.ptr 0 0 0, .int .i64 (↑(List.length 
  lt) : Int)] 7 [[.int .i64 ke, .int .i64 ne, .str se, .sl le, .sl bd, .int .i64 self, .bool bad]]) fun (q : AV × List (List AV)) => kTmV q.1 fun (n n_1 : Int) (s : List UInt8) (rows 
  : List (List AV)) => (some (.agg [.int .i64 n, .int .i64 n_1, .str s, .sl rows], q.2)) else bif op == [(115 : UInt8), (105 : UInt8), (122 : UInt8), (101 : UInt8)] then bif kt != (7 
  : Int) then kOpt (EVd (EV cfg) 79 [.ptr 0 0 0] 7 [[.int .i64 ke, .int .i64 ne, .str se, .sl le, .sl bd, .int .i64 self, .bool bad]]) fun (q : AV × List (List AV)) => kTmV q.1 fun (n 
  n_1 : Int) (s : List UInt8) (rows : List (List AV)) => (some (.agg [.int .i64 n, .int .i64 n_1, .str s, .sl rows], q.2)) else kOpt (EVd (EV cfg) 86 [.ptr 0 0 0, .int .i64 (↑(List.length 
  lt) : Int)] 7 [[.int .i64 ke, .int .i64 ne, .str se, .sl le, .sl bd, .int .i64 self, .bool bad]]) fun (q : AV × List (List AV)) => kTmV q.1 fun (n n_1 : Int) (s : List UInt8) (rows 
  : List (List AV)) => (some (.agg [.int .i64 n, .int .i64 n_1, .str s, .sl rows], q.2)) else kOpt (EVd (EV cfg) 88 [.ptr 0 0 0, .str op, .agg [.int .i64 kt, .int .i64 nt, .str st, .sl 
  lt]] 7 [[.int .i64 ke, .int .i64 ne, .str se, .sl le, .sl bd, .int .i64 self, .bool bad]]) fun (q : AV × List (List AV)) => kTmV q.1 fun (n n_1 : Int) (s : List UInt8) (rows : List 
  (List AV)) => (some (.agg [.int .i64 n, .int .i64 n_1, .str s, .sl rows], q.2))) P) : Gets (EVd (EV cfg) 80 ([AV.ptr (0 : Nat) (0 : Nat) (0 : Nat), AV.str op, AV.agg [AV.int IntKind.i64 kt, AV.int IntKind.i64 nt, AV.str st, AV.sl lt]] : List AV) 7 [[AV.int .i64 ke, AV.int .i64 ne, AV.str se, AV.sl le, AV.sl bd, AV.int .i64 self, AV.bool bad]]) P :=
  Gets.ev (fun _ h => funD rfl rfl Try.func80 rfl h) (Gets.eq (by kernel_rfl) h)
theorem mApply_run (ke : Int) (ne : Int) (se : List UInt8) (le : List (List AV)) (bd : List (List AV)) (self : Int) (bad : Bool) (op : List UInt8) (L : List (List AV)) {P : AV × List (List AV) → Prop} (h : Gets (bif (↑(List.length L) : Int) == (1 : Int) then bif ltInt (0 : Int) (↑(List.length L) : Int) then kOpt (List.get?Internal L 0) fun (row : List AV) => bif Nat.beq (List.length row) 4 
  then bif Nat.ble 4 (List.length row) then kTmC (List.take 4 row) fun (n n_1 : Int) (s : List UInt8) (rows : List (List AV)) => (kOpt (EVd (EV cfg) 80 [.ptr 0 0 0, .str op, .agg [.int 
  .i64 n, .int .i64 n_1, .str s, .sl rows]] 7 [[.int .i64 ke, .int .i64 ne, .str se, .sl le, .sl bd, .int .i64 self, .bool bad]]) fun (q : AV × List (List AV)) => kTmV q.1 fun (n n_2 
  : Int) (s : List UInt8) (rows : List (List AV)) => (some (.agg [.int .i64 n, .int .i64 n_2, .str s, .sl rows], q.2))) else none else none else none else bif (↑(List.length L) : Int) 
  == (2 : Int) then bif ltInt (0 : Int) (↑(List.length L) : Int) then kOpt (List.get?Internal L 0) fun (row : List AV) => bif Nat.beq (List.length row) 4 then bif Nat.ble 4 (List.length 
  row) then kTmC (List.take 4 row) fun (n n_1 : Int) (s : List UInt8) (rows : List (List AV)) => (bif ltInt (1 : Int) (↑(List.length L) : Int) then kOpt (List.get?Internal L 1) fun (row 
  : List AV) => bif Nat.beq (List.length row) 4 then bif Nat.ble 4 (List.length row) then kTmC (List.take 4 row) fun (n_2 n_3 : Int) (s_1 : List UInt8) (rows_1 : List (List AV)) => (kOpt 
  (EVd (EV cfg) 81 [.ptr 0 0 0, .str op, .agg [.int .i64 n, .int .i64 n_1, .str s, .sl rows], .agg [.int .i64 n_2, .int .i64 n_3, .str s_1, .sl rows_1]] 7 [[.int .i64 ke, .int .i64 ne, 
  .str se, .sl le, .sl bd, .int .i64 self, .bool bad]]) fun (q : AV × List (List AV)) => kTmV q.1 fun (n n_4 : Int) (s : List UInt8) (rows : List (List AV)) => (some (.agg [.int .i64 
  n, .int .i64 n_4, .str s, .sl rows], q.2))) else none else none else none) else none else none else none else some (.agg [.int .i64 (6 : Int), .int .i64 self, .str [], .sl []], [[.int 
  .i64 ke, .int .i64 ne, .str se, .sl le, .sl bd, .int .i64 self, .bool bad]])) P) : Gets (EVd (EV cfg) 74 ([AV.ptr (0 : Nat) (0 : Nat) (0 : Nat), AV.str op, AV.sl L] : List AV) 7 [[AV.int .i64 ke, AV.int .i64 ne, AV.str se, AV.sl le, AV.sl bd, AV.int .i64 self, AV.bool bad]]) P :=
  Gets.ev (fun _ h => funD rfl rfl Try.func74 rfl h) (Gets.eq (by kernel_rfl) h)
theorem wg65_0_step (A : List (List AV)) (n : Int) (v8 : Int) {P : AV → Prop} (h : Gets (bif decide (v8 < (↑(List.length A) : Int)) then bif leInt (0 : Int) v8 && ltInt v8 (↑(List.length A) : Int) then kOpt (List.get?Internal A (Int.toNat v8)) fun (row : List AV) => bif 
  Nat.beq (List.length row) 1 then kOpt (List.get?Internal row 0) fun (v : AV) => kInt .i64 v fun (n_1 : Int) => bif n == n_1 then some (.int .i64 v8) else wg65_0 A n (IntKind.wrap .i64 
  (v8 + (1 : Int))) else none else none else some (.int .i64 (-1 : Int))) P) : Gets (wg65_0 A n v8) P :=
  Gets.ev (fun _ h => loop_step (cfg := cfg) (f := 82) (rd := none) (bs := 0) h) (Gets.eq (by kernel_rfl) h)
end Go.Proofs.Ytonmmmgffeoiiaa
end

section
namespace Go.Proofs.Ytonmmmgffeoiiaa
open Go.Av
theorem mRaise_ev (e : Env) (b : Bool) : EVd (EV cfg) 79 [.ptr 0 0 0] 7 (mR e b) = some (zeroT.av, mR e true) := by
  apply Gets.get
  refine mRaise_run _ _ _ _ _ _ _ ?_
  rw [zeroT_av]
  simp
theorem mNumber_ev (e : Env) (b : Bool) (n : Int) : EVd (EV cfg) 86 [.ptr 0 0 0, .int .i64 n] 7 (mR e b) = some (if InB n then ((numT n).av, mR e b) else (zeroT.av, mR e true)) := by
  have hr := mRaise_ev e b
  apply Gets.get
  refine mNumber_run _ _ _ _ _ _ _ _ ?_
  simp only [hr]
  unfold InB
  rw [numT_av]
  by_cases h1 : n < -576460752303423488
  · have : ¬ (-576460752303423488 ≤ n ∧ n ≤ 576460752303423487) := by omega
    simp [h1, this]
  · by_cases h2 : n > 576460752303423487
    · have : ¬ (-576460752303423488 ≤ n ∧ n ≤ 576460752303423487) := by omega
      simp [h1, h2, this]
    · have : (-576460752303423488 ≤ n ∧ n ≤ 576460752303423487) := by omega
      simp [h1, h2, this]
theorem mNumber_within (e : Env) (n : Int) {P : AV × List (List AV) → Prop} (h : ∀ r, Res e (withinG n) r → (∃ t : Tm, r.1 = t.av) → P r) : Gets (EVd (EV cfg) 86 [.ptr 0 0 0, .int .i64 n] 7 (mR e false)) P := by
  rw [mNumber_ev]
  refine ⟨_, rfl, h _ ?_ ?_⟩
  · unfold withinG Res
    by_cases hb : InB n
    · simp [hb]
    · simp [hb]; exact ⟨_, rfl⟩
  · by_cases hb : InB n
    · exact ⟨numT n, by simp [hb]⟩
    · exact ⟨zeroT, by simp [hb]⟩
theorem mNumbers_bad (e : Env) (op : List UInt8) (a b : Int) : EVd (EV cfg) 90 [.ptr 0 0 0, .str op, .int .i64 a, .int .i64 b] 7 (mR e true) = some (zeroT.av, mR e true) := by
  apply Gets.get
  refine mNumbers_run _ _ _ _ _ _ _ _ _ _ ?_
  rw [zeroT_av]; simp
def ProductOk : Prop := ∀ (e : Env) (a b : Int), InB a → InB b → Gets (EVd (EV cfg) 98 [.ptr 0 0 0, .int .i64 a, .int .i64 b] 7 (mR e false)) (Res e (withinG (a * b)))
theorem ret_res {e : Env} {o : Option Tm} {r : AV × List (List AV)} (h : Res e o r) (ht : ∃ t : Tm, r.1 = t.av) : Gets (kTmV r.1 fun (n n_1 : Int) (s : List UInt8) (rows : List (List AV)) => some (AV.agg [.int .i64 n, .int .i64 n_1, .str s, .sl rows], r.2)) (Res e o) := by
  obtain ⟨t, ht⟩ := ht
  rw [ht, kTmV_av]
  refine ⟨_, rfl, ?_⟩
  have : (AV.agg [.int .i64 t.kind, .int .i64 t.num, .str t.str, .sl (rowsT t.subs)], r.2) = r := by
    rw [← Tm.cells_eq]; exact Prod.ext ht.symm rfl
  rw [this]; exact h
theorem Res_tm {e : Env} {o : Option Tm} {r : AV × List (List AV)} (h : Res e o r) : ∃ t : Tm, r.1 = t.av := by
  unfold Res at h
  split at h
  · exact ⟨_, by rw [h]⟩
  · exact h.2
theorem mNumbers_ev (e : Env) (op : List UInt8) {a b : Int} (ha : InB a) (hb : InB b) (hp : op = [42] → ProductOk) : Gets (EVd (EV cfg) 90 [.ptr 0 0 0, .str op, .int .i64 a, .int .i64 b] 7 (mR e false)) (Res e (numbersG op a b)) := by
  have num : ∀ n, Gets (kOpt (EVd (EV cfg) 86 [.ptr 0 0 0, .int .i64 n] 7 (mR e false)) fun q => kTmV q.1 fun (n n_1 : Int) (s : List UInt8) (rows : List (List AV)) => some (AV.agg [.int .i64 n, .int .i64 n_1, .str s, .sl rows], q.2)) (Res e (withinG n)) :=
    fun n => Gets.bind (mNumber_within e n fun r h1 h2 => h1) fun r h => ret_res h (Res_tm h)
  refine mNumbers_run _ _ _ _ _ _ _ _ _ _ ?_
  have ha' := ha
  have hb' := hb
  obtain ⟨a1, a2⟩ := ha
  obtain ⟨b1, b2⟩ := hb
  simp only [beqS, beqD, cond_false]
  unfold numbersG
  by_cases h1 : op = [43]
  · rw [if_pos h1, decide_eq_true h1, cond_true, wrap64 (by omega) (by omega)]; exact num _
  rw [if_neg h1, decide_eq_false h1, cond_false]
  by_cases h2 : op = [45]
  · rw [if_pos h2, decide_eq_true h2, cond_true, wrap64 (by omega) (by omega)]; exact num _
  rw [if_neg h2, decide_eq_false h2, cond_false]
  by_cases h3 : op = [42]
  · rw [if_pos h3, decide_eq_true h3, cond_true]
    exact Gets.bind (hp h3 e a b ha' hb') fun r h => ret_res h (Res_tm h)
  rw [if_neg h3, decide_eq_false h3, cond_false]
  by_cases h4 : op = [98, 97, 110, 100]
  · rw [if_pos h4, decide_eq_true h4, cond_true, bvG_and ha' hb']; simp only [kOptSome, kInt_int]; exact num _
  rw [if_neg h4, decide_eq_false h4, cond_false]
  by_cases h5 : op = [98, 111, 114]
  · rw [if_pos h5, decide_eq_true h5, cond_true, bvG_or ha' hb']; simp only [kOptSome, kInt_int]; exact num _
  rw [if_neg h5, decide_eq_false h5, cond_false]
  by_cases h6 : op = [98, 120, 111, 114]
  · rw [if_pos h6, decide_eq_true h6, cond_true, bvG_xor ha' hb']; simp only [kOptSome, kInt_int]; exact num _
  rw [if_neg h6, decide_eq_false h6, cond_false]
  by_cases h7 : b = 0
  · rw [if_pos h7, decide_eq_true h7, cond_true, mRaise_ev]
    simp only [kOptSome, kTmV_av]
    exact ⟨_, rfl, rfl, zeroT, by rw [Tm.av, Tm.cells_eq]⟩
  rw [if_neg h7, decide_eq_false h7, cond_false, intDiv_quo h7, intDiv_rem h7]
  by_cases h8 : op = [100, 105, 118]
  · have := tdiv_abs (a := a) h7
    rw [if_pos h8, decide_eq_true h8, cond_true, wrap64 (by omega) (by omega)]; simp only [kOptSome, kInt_int]; exact num _
  · rw [if_neg h8, decide_eq_false h8, cond_false]; simp only [kOptSome, kInt_int]; exact num _
end Go.Proofs.Ytonmmmgffeoiiaa
end

section
namespace Go.Proofs.Ytonmmmgffeoiiaa
open Go.Av
set_option maxRecDepth 100000
set_option maxHeartbeats 0

noncomputable def Lq62_0 : Den := evC cfg (EV cfg) 96 none 0 (sub (bodyOf Try.f96) [1, 1, 0, 1, 0, 0])
noncomputable def Aq62_0 : Ex × List AV × AH → Option AV := kAft (Cfg.keepOut cfg 96 3) (kRun cfg (EV cfg) (kfN cfg 6) 96 none 0 (kFinS cfg (Cfg.lift cfg 96 0) Try.f96.results.toList) ([.block 0, .seq (sub (bodyOf Try.f96) [1, 1, 1])]))
noncomputable def Wq62_0 : List AV × AH → Option AV := fun p => kOpt (LOOP 0 (some [3, 6, 7, 8]) ([]) Lq62_0 p) Aq62_0
noncomputable def Lq97_0 : Den := evC cfg (EV cfg) 102 none 0 (sub (bodyOf Try.f102) [1, 0, 1, 0, 0])
noncomputable def Aq97_0 : Ex × List AV × AH → Option AV := kAft (Cfg.keepOut cfg 102 2) (kRun cfg (EV cfg) (kfN cfg 6) 102 none 0 (kFinS cfg (Cfg.lift cfg 102 0) Try.f102.results.toList) ([.block 0, .seq (sub (bodyOf Try.f102) [1, 1])]))
noncomputable def Wq97_0 : List AV × AH → Option AV := fun p => kOpt (LOOP 0 (some [0, 1, 2, 11, 12, 13]) ([]) Lq97_0 p) Aq97_0
noncomputable def Lq15_0 : Den := evC cfg (EV cfg) 89 none 0 (sub (bodyOf Try.f89) [1, 0, 1, 0, 0])
noncomputable def Aq15_0 : Ex × List AV × AH → Option AV := kAft (Cfg.keepOut cfg 89 1) (kRun cfg (EV cfg) (kfN cfg 6) 89 none 0 (kFinS cfg (Cfg.lift cfg 89 0) Try.f89.results.toList) ([.block 0, .scope]))
noncomputable def Wq15_0 : List AV × AH → Option AV := fun p => kOpt (LOOP 0 (some [2, 3]) ([]) Lq15_0 p) Aq15_0
noncomputable abbrev wq62_0 (a : Int) (b : Int) (c : Int) (v8 : Int) : Option (AV) := Wq62_0  (((fx 18 [(3, AV.int IntKind.i64 (0 : Int)), (6, AV.sl [[AV.int IntKind.i64 a], [AV.int IntKind.i64 b], [AV.int IntKind.i64 c]]), (7, AV.int IntKind.i64 (3 : Int)), (8, AV.int IntKind.i64 v8)]) : List AV), ([] : AH))
noncomputable abbrev wq62_0a (a : Int) (b : Int) (v8 : Int) : Option (AV) := Wq62_0  (((fx 18 [(3, AV.int IntKind.i64 (0 : Int)), (6, AV.sl [[AV.int IntKind.i64 a], [AV.int IntKind.i64 b]]), (7, AV.int IntKind.i64 (2 : Int)), (8, AV.int IntKind.i64 v8)]) : List AV), ([] : AH))
noncomputable abbrev wq97_0 (A : List (List AV)) (B : List (List AV)) (v13 : Int) : Option (AV) := Wq97_0  (((fx 39 [(0, AV.sl A), (1, AV.sl B), (2, AV.fn (Fn.func 89) [] []), (11, AV.sl A), (12, AV.int IntKind.i64 (↑(List.length A) : Int)), (13, AV.int IntKind.i64 v13)]) : List AV), ([] : AH))
noncomputable abbrev wq15_0 (c0_0 : Int) (c0_1 : Int) (c0_2 : List UInt8) (c0_3 : List (List AV)) (c1_0 : Int) (c1_1 : Int) (c1_2 : List UInt8) (c1_3 : List (List AV)) : Option (AV) := Wq15_0  (((fx 117 [(2, AV.ptr (0 : Nat) (0 : Nat) (0 : Nat)), (3, AV.ptr (1 : Nat) (0 : Nat) (0 : Nat))]) : List AV), ([ABlk.rows false (4 : Nat) [[AV.int IntKind.i64 c0_0, AV.int IntKind.i64 c0_1, AV.str c0_2, AV.sl c0_3]], ABlk.rows false (4 : Nat) [[AV.int IntKind.i64 c1_0, AV.int IntKind.i64 c1_1, AV.str c1_2, AV.sl c1_3]]] : AH))
theorem cmpI_run (a : Int) (b : Int) {P : AV → Prop} (h : Gets (kOpt (EVs (EV cfg) 100 [.int .i64 a]) fun (v : AV) => kBool v fun (b_1 : Bool) => kOpt (EVs (EV cfg) 100 [.int .i64 b]) fun (v : AV) => kBool v fun (b_2 : Bool) => bif b_1 then bif b_2 
  then some (.int .i64 (0 : Int)) else some (.int .i64 (-1 : Int)) else bif b_2 then some (.int .i64 (1 : Int)) else bif decide (a < b) then some (.int .i64 (-1 : Int)) else bif decide 
  (a > b) then some (.int .i64 (1 : Int)) else some (.int .i64 (0 : Int))) P) : Gets (EVs (EV cfg) 94 ([AV.int IntKind.i64 a, AV.int IntKind.i64 b] : List AV)) P :=
  Gets.ev (fun _ h => funS rfl rfl Try.func94 rfl h) (Gets.eq (by kernel_rfl) h)
theorem cmpSt_run (a : List UInt8) (b : List UInt8) {P : AV → Prop} (h : Gets (kOpt (EVs (EV cfg) 101 [.str a, .str b]) fun (v : AV) => kInt .i64 v fun (n : Int) => some (.int .i64 n)) P) : Gets (EVs (EV cfg) 95 ([AV.str a, AV.str b] : List AV)) P :=
  Gets.ev (fun _ h => funS rfl rfl Try.func95 rfl h) (Gets.eq (by kernel_rfl) h)
theorem or3_run (a : Int) (b : Int) (c : Int) {P : AV → Prop} (h : Gets (wq62_0 a b c (0 : Int)) P) : Gets (EVs (EV cfg) 96 ([AV.sl [[AV.int IntKind.i64 a], [AV.int IntKind.i64 b], [AV.int IntKind.i64 c]]] : List AV)) P :=
  Gets.ev (fun _ h => funS rfl rfl Try.func96 rfl h) (Gets.eq (by kernel_rfl) h)
theorem or2_run (a : Int) (b : Int) {P : AV → Prop} (h : Gets (wq62_0a a b (0 : Int)) P) : Gets (EVs (EV cfg) 96 ([AV.sl [[AV.int IntKind.i64 a], [AV.int IntKind.i64 b]]] : List AV)) P :=
  Gets.ev (fun _ h => funS rfl rfl Try.func96 rfl h) (Gets.eq (by kernel_rfl) h)
theorem cmpFunc_run (A : List (List AV)) (B : List (List AV)) {P : AV → Prop} (h : Gets (wq97_0 A B (0 : Int)) P) : Gets (EVs (EV cfg) 102 ([AV.sl A, AV.sl B, AV.fn (Fn.func 89) [] []] : List AV)) P :=
  Gets.ev (fun _ h => funS rfl rfl Try.func102 rfl h) (Gets.eq (by kernel_rfl) h)
theorem isNaNI_run (a : Int) {P : AV → Prop} (h : Gets (some (.bool (a != a))) P) : Gets (EVs (EV cfg) 100 ([AV.int IntKind.i64 a] : List AV)) P :=
  Gets.ev (fun _ h => funS rfl rfl Try.func100 rfl h) (Gets.eq (by kernel_rfl) h)
theorem cmpStr_run (a : List UInt8) (b : List UInt8) {P : AV → Prop} (h : Gets (kOpt (EVs (EV cfg) 104 [.str a, .str b]) fun (v : AV) => kInt .i64 v fun (n : Int) => some (.int .i64 n)) P) : Gets (EVs (EV cfg) 101 ([AV.str a, AV.str b] : List AV)) P :=
  Gets.ev (fun _ h => funS rfl rfl Try.func101 rfl h) (Gets.eq (by kernel_rfl) h)
theorem order_lists_run (A : List (List AV)) (B : List (List AV)) {P : AV → Prop} (h : Gets (kOpt (EVs (EV cfg) 102 [.sl A, .sl B, AV.fn (Fn.func 89) [] []]) fun (v : AV) => kInt .i64 v fun (n : Int) => some (.int .i64 n)) P) : Gets (EVs (EV cfg) 97 ([AV.sl A, AV.sl B] : List AV)) P :=
  Gets.ev (fun _ h => funS rfl rfl Try.func97 rfl h) (Gets.eq (by kernel_rfl) h)
theorem oCompare_run (ka : Int) (na : Int) (sa : List UInt8) (la : List (List AV)) (kb : Int) (nb : Int) (sb : List UInt8) (lb : List (List AV)) {P : AV → Prop} (h : Gets (wq15_0 ka na sa la kb nb sb lb) P) : Gets (EVs (EV cfg) 89 ([AV.agg [AV.int IntKind.i64 ka, AV.int IntKind.i64 na, AV.str sa, AV.sl la], AV.agg [AV.int IntKind.i64 kb, AV.int IntKind.i64 nb, AV.str sb, AV.sl lb]] : List AV)) P :=
  Gets.ev (fun _ h => funS rfl rfl Try.func89 rfl h) (Gets.eq (by kernel_rfl) h)
theorem wq62_0_step (a : Int) (b : Int) (c : Int) (v8 : Int) {P : AV → Prop} (h : Gets (bif decide (v8 < (3 : Int)) then bif leInt (0 : Int) v8 && ltInt v8 (↑3 : Int) then kOpt (List.get?Internal [[.int .i64 a], [.int .i64 b], [.int .i64 c]] (Int.toNat v8)) fun (row : 
  List AV) => bif Nat.beq (List.length row) 1 then kOpt (List.get?Internal row 0) fun (v : AV) => kInt .i64 v fun (n : Int) => bif n != (0 : Int) then some (.int .i64 n) else wq62_0 a 
  b c (IntKind.wrap .i64 (v8 + (1 : Int))) else none else none else some (.int .i64 (0 : Int))) P) : Gets (wq62_0 a b c v8) P :=
  Gets.ev (fun _ h => loop_step (cfg := cfg) (f := 96) (rd := none) (bs := 0) h) (Gets.eq (by kernel_rfl) h)
theorem wq62_0a_step (a : Int) (b : Int) (v8 : Int) {P : AV → Prop} (h : Gets (bif decide (v8 < (2 : Int)) then bif leInt (0 : Int) v8 && ltInt v8 (↑2 : Int) then kOpt (List.get?Internal [[.int .i64 a], [.int .i64 b]] (Int.toNat v8)) fun (row : List AV) => bif 
  Nat.beq (List.length row) 1 then kOpt (List.get?Internal row 0) fun (v : AV) => kInt .i64 v fun (n : Int) => bif n != (0 : Int) then some (.int .i64 n) else wq62_0a a b (IntKind.wrap 
  .i64 (v8 + (1 : Int))) else none else none else some (.int .i64 (0 : Int))) P) : Gets (wq62_0a a b v8) P :=
  Gets.ev (fun _ h => loop_step (cfg := cfg) (f := 96) (rd := none) (bs := 0) h) (Gets.eq (by kernel_rfl) h)
theorem wq97_0_step (A : List (List AV)) (B : List (List AV)) (v13 : Int) {P : AV → Prop} (h : Gets (bif decide (v13 < (↑(List.length A) : Int)) then bif leInt (0 : Int) v13 && ltInt v13 (↑(List.length A) : Int) then kOpt (List.get?Internal A (Int.toNat v13)) fun (row : List AV) => 
  bif Nat.beq (List.length row) 4 then bif Nat.ble 4 (List.length row) then kTmC (List.take 4 row) fun (n n_1 : Int) (s : List UInt8) (rows : List (List AV)) => (bif decide (v13 ≥ (↑(List.length 
  B) : Int)) then some (.int .i64 (1 : Int)) else bif leInt (0 : Int) v13 && ltInt v13 (↑(List.length B) : Int) then kOpt (List.get?Internal B (Int.toNat v13)) fun (row : List AV) => 
  bif Nat.beq (List.length row) 4 then bif Nat.ble 4 (List.length row) then kTmC (List.take 4 row) fun (n_2 n_3 : Int) (s_1 : List UInt8) (rows_1 : List (List AV)) => (kOpt (EVs (EV cfg) 
  89 [.agg [.int .i64 n, .int .i64 n_1, .str s, .sl rows], .agg [.int .i64 n_2, .int .i64 n_3, .str s_1, .sl rows_1]]) fun (v : AV) => kInt .i64 v fun (n : Int) => bif n != (0 : Int) 
  then some (.int .i64 n) else wq97_0 A B (IntKind.wrap .i64 (v13 + (1 : Int)))) else none else none else none) else none else none else none else bif decide ((↑(List.length A) : Int) 
  < (↑(List.length B) : Int)) then some (.int .i64 (-1 : Int)) else some (.int .i64 (0 : Int))) P) : Gets (wq97_0 A B v13) P :=
  Gets.ev (fun _ h => loop_step (cfg := cfg) (f := 102) (rd := none) (bs := 0) h) (Gets.eq (by kernel_rfl) h)
theorem wq15_0_step (c0_0 : Int) (c0_1 : Int) (c0_2 : List UInt8) (c0_3 : List (List AV)) (c1_0 : Int) (c1_1 : Int) (c1_2 : List UInt8) (c1_3 : List (List AV)) {P : AV → Prop} (h : Gets (kOpt (EVs (EV cfg) 94 [.int .i64 c0_0, .int .i64 c1_0]) fun (v : AV) => kInt .i64 v fun (n : Int) => bif n != (0 : Int) then some (.int .i64 n) else bif c0_0 == (1 : Int) then kOpt 
  (EVs (EV cfg) 94 [.int .i64 c0_1, .int .i64 c1_1]) fun (v : AV) => kInt .i64 v fun (n : Int) => some (.int .i64 n) else bif c0_0 == (3 : Int) then kOpt (EVs (EV cfg) 94 [.int .i64 c0_1, 
  .int .i64 c1_1]) fun (v : AV) => kInt .i64 v fun (n : Int) => some (.int .i64 n) else bif c0_0 == (4 : Int) then kOpt (EVs (EV cfg) 94 [.int .i64 c0_1, .int .i64 c1_1]) fun (v : AV) 
  => kInt .i64 v fun (n : Int) => some (.int .i64 n) else bif c0_0 == (6 : Int) then kOpt (EVs (EV cfg) 94 [.int .i64 c0_1, .int .i64 c1_1]) fun (v : AV) => kInt .i64 v fun (n : Int) 
  => some (.int .i64 n) else bif c0_0 == (2 : Int) then kOpt (EVs (EV cfg) 95 [.str c0_2, .str c1_2]) fun (v : AV) => kInt .i64 v fun (n : Int) => some (.int .i64 n) else bif c0_0 == 
  (5 : Int) then kOpt (EVs (EV cfg) 94 [.int .i64 c0_1, .int .i64 c1_1]) fun (v : AV) => kInt .i64 v fun (n : Int) => kOpt (EVs (EV cfg) 94 [.int .i64 (↑(List.length c0_3) : Int), .int 
  .i64 (↑(List.length c1_3) : Int)]) fun (v : AV) => kInt .i64 v fun (n_1 : Int) => kOpt (EVs (EV cfg) 97 [.sl c0_3, .sl c1_3]) fun (v : AV) => kInt .i64 v fun (n_2 : Int) => kOpt (EVs 
  (EV cfg) 96 [.sl [[.int .i64 n], [.int .i64 n_1], [.int .i64 n_2]]]) fun (v : AV) => kInt .i64 v fun (n : Int) => some (.int .i64 n) else bif c0_0 == (9 : Int) then bif (↑(List.length 
  c0_3) : Int) == (2 : Int) then bif (↑(List.length c1_3) : Int) == (2 : Int) then bif ltInt (0 : Int) (↑(List.length c0_3) : Int) then kOpt (List.get?Internal c0_3 0) fun (row : List 
  AV) => bif Nat.beq (List.length row) 4 then bif Nat.ble 4 (List.length row) then kTmC (List.take 4 row) fun (n n_1 : Int) (s : List UInt8) (rows : List (List AV)) => (bif ltInt (0 : 
  Int) (↑(List.length c1_3) : Int) then kOpt (List.get?Internal c1_3 0) fun (row : List AV) => bif Nat.beq (List.length row) 4 then bif Nat.ble 4 (List.length row) then kTmC (List.take 
  4 row) fun (n_2 n_3 : Int) (s_1 : List UInt8) (rows_1 : List (List AV)) => (kOpt (EVs (EV cfg) 89 [.agg [.int .i64 n, .int .i64 n_1, .str s, .sl rows], .agg [.int .i64 n_2, .int .i64 
  n_3, .str s_1, .sl rows_1]]) fun (v : AV) => kInt .i64 v fun (n : Int) => bif n != (0 : Int) then some (.int .i64 n) else bif ltInt (1 : Int) (↑(List.length c0_3) : Int) then kOpt (List.get?Internal 
  c0_3 1) fun (row : List AV) => bif Nat.beq (List.length row) 4 then bif Nat.ble 4 (List.length row) then kTmC (List.take 4 row) fun (n n_4 : Int) (s : List UInt8) (rows : List (List 
  AV)) => (bif ltInt (1 : Int) (↑(List.length c1_3) : Int) then kOpt (List.get?Internal c1_3 1) fun (row : List AV) => bif Nat.beq (List.length row) 4 then bif Nat.ble 4 (List.length 
  row) then kTmC (List.take 4 row) fun (n_5 n_6 : Int) (s_2 : List UInt8) (rows_2 : List (List AV)) => (wq15_0 n n_4 s rows n_5 n_6 s_2 rows_2) else none else none else none) else none 
  else none else none) else none else none else none) else none else none else none else kOpt (EVs (EV cfg) 94 [.int .i64 (↑(List.length c0_3) : Int), .int .i64 (↑(List.length c1_3) : 
  Int)]) fun (v : AV) => kInt .i64 v fun (n : Int) => kOpt (EVs (EV cfg) 97 [.sl c0_3, .sl c1_3]) fun (v : AV) => kInt .i64 v fun (n_1 : Int) => kOpt (EVs (EV cfg) 96 [.sl [[.int .i64 
  n], [.int .i64 n_1]]]) fun (v : AV) => kInt .i64 v fun (n : Int) => some (.int .i64 n) else kOpt (EVs (EV cfg) 94 [.int .i64 (↑(List.length c0_3) : Int), .int .i64 (↑(List.length c1_3) 
  : Int)]) fun (v : AV) => kInt .i64 v fun (n : Int) => kOpt (EVs (EV cfg) 97 [.sl c0_3, .sl c1_3]) fun (v : AV) => kInt .i64 v fun (n_1 : Int) => kOpt (EVs (EV cfg) 96 [.sl [[.int .i64 
  n], [.int .i64 n_1]]]) fun (v : AV) => kInt .i64 v fun (n : Int) => some (.int .i64 n) else bif c0_0 == (7 : Int) then kOpt (EVs (EV cfg) 94 [.int .i64 (↑(List.length c0_3) : Int), 
  .int .i64 (↑(List.length c1_3) : Int)]) fun (v : AV) => kInt .i64 v fun (n : Int) => kOpt (EVs (EV cfg) 97 [.sl c0_3, .sl c1_3]) fun (v : AV) => kInt .i64 v fun (n_1 : Int) => kOpt 
  (EVs (EV cfg) 96 [.sl [[.int .i64 n], [.int .i64 n_1]]]) fun (v : AV) => kInt .i64 v fun (n : Int) => some (.int .i64 n) else some (.int .i64 (0 : Int))) P) : Gets (wq15_0 c0_0 c0_1 c0_2 c0_3 c1_0 c1_1 c1_2 c1_3) P :=
  Gets.ev (fun _ h => loop_step (cfg := cfg) (f := 89) (rd := none) (bs := 0) h) (Gets.eq (by kernel_rfl) h)
end Go.Proofs.Ytonmmmgffeoiiaa
end

section
namespace Go.Proofs.Ytonmmmgffeoiiaa
open Go.Av
set_option maxRecDepth 100000

theorem isNaN_ev (a : Int) : EVs (EV cfg) 100 [.int .i64 a] = some (.bool false) := by
  apply Gets.get
  refine isNaNI_run _ ?_
  simp
theorem cmp_ev (a b : Int) : EVs (EV cfg) 94 [.int .i64 a, .int .i64 b] = some (.int .i64 (numC a b)) := by
  apply Gets.get
  refine cmpI_run _ _ ?_
  rw [isNaN_ev, isNaN_ev]
  unfold numC
  by_cases h1 : a < b
  · simp [h1]
  · by_cases h2 : b < a
    · simp [h1, h2]
    · simp [h1, h2]
theorem cmpstr_ev (a b : List UInt8) : EVs (EV cfg) 104 [.str a, .str b] = some (.int .i64 (strC a b)) := by
  refine EVs_of (H := []) (EV_of ?_)
  have hx : cfg.ext 104 = some extCmp := rfl
  unfold evBody
  simp only [hx]
  unfold extCmp strC
  by_cases h : a = b
  · simp [h]
  · simp [h]
theorem strCmp_ev (a b : List UInt8) : EVs (EV cfg) 95 [.str a, .str b] = some (.int .i64 (strC a b)) := by
  have h96 : EVs (EV cfg) 101 [.str a, .str b] = some (.int .i64 (strC a b)) := by
    apply Gets.get
    refine cmpStr_run _ _ ?_
    rw [cmpstr_ev]; simp
  apply Gets.get
  refine cmpSt_run _ _ ?_
  rw [h96]; simp
theorem or3_ev (a b c : Int) : EVs (EV cfg) 96 [.sl [[.int .i64 a], [.int .i64 b], [.int .i64 c]]] = some (.int .i64 (if a ≠ 0 then a else if b ≠ 0 then b else c)) := by
  apply Gets.get
  refine or3_run _ _ _ ?_
  have w1 : IntKind.wrap .i64 (0 + 1) = 1 := wrap64 (by omega) (by omega)
  have w2 : IntKind.wrap .i64 (1 + 1) = 2 := wrap64 (by omega) (by omega)
  have w3 : IntKind.wrap .i64 (2 + 1) = 3 := wrap64 (by omega) (by omega)
  have s3 : Gets (wq62_0 a b c 3) (· = .int .i64 0) := by
    refine wq62_0_step _ _ _ _ ?_
    simp
  have s2 : Gets (wq62_0 a b c 2) (· = .int .i64 c) := by
    refine wq62_0_step _ _ _ _ ?_
    rw [w3]
    by_cases h : c = 0
    · subst h; simp; exact s3
    · simp [bneD, h]
  have s1 : Gets (wq62_0 a b c 1) (· = .int .i64 (if b ≠ 0 then b else c)) := by
    refine wq62_0_step _ _ _ _ ?_
    rw [w2]
    by_cases h : b = 0
    · subst h; simp; exact s2
    · simp [bneD, h]
  refine wq62_0_step _ _ _ _ ?_
  rw [w1]
  by_cases h : a = 0
  · subst h; simp only [ne_eq, ite_not] at s1; simp; exact s1
  · simp [bneD, h]
theorem or2_ev (a b : Int) : EVs (EV cfg) 96 [.sl [[.int .i64 a], [.int .i64 b]]] = some (.int .i64 (if a ≠ 0 then a else b)) := by
  apply Gets.get
  refine or2_run _ _ ?_
  have w1 : IntKind.wrap .i64 (0 + 1) = 1 := wrap64 (by omega) (by omega)
  have w2 : IntKind.wrap .i64 (1 + 1) = 2 := wrap64 (by omega) (by omega)
  have s2 : Gets (wq62_0a a b 2) (· = .int .i64 0) := by
    refine wq62_0a_step _ _ _ ?_
    simp
  have s1 : Gets (wq62_0a a b 1) (· = .int .i64 b) := by
    refine wq62_0a_step _ _ _ ?_
    rw [w2]
    by_cases h : b = 0
    · subst h; simp; exact s2
    · simp [bneD, h]
  refine wq62_0a_step _ _ _ ?_
  rw [w1]
  by_cases h : a = 0
  · subst h; simp; exact s1
  · simp [bneD, h]
theorem drop_get {β : Type} {l : List β} {i : Nat} {x : β} (h : l[i]? = some x) : l.drop i = x :: l.drop (i + 1) := by
  obtain ⟨h1, h2⟩ := List.getElem?_eq_some_iff.1 h
  rw [← h2]; exact List.drop_eq_getElem_cons h1

theorem dropNil {β : Type} {l : List β} {i : Nat} (h : l.length ≤ i) : l.drop i = [] := List.drop_eq_nil_of_le h

theorem listsE_of (la lb : List Tm) (hlen : la.length < 1099511627776) (ih : ∀ a ∈ la, ∀ b ∈ lb, EVs (EV cfg) 89 [a.av, b.av] = some (.int .i64 (cmpT a b))) :
    EVs (EV cfg) 102 [.sl (rowsT la), .sl (rowsT lb), .fn (.func 89) [] []] = some (.int .i64 (cmpE la lb)) := by
  have loop : ∀ (d i : Nat), i + d = la.length → Gets (wq97_0 (rowsT la) (rowsT lb) i) (· = .int .i64 (cmpE (la.drop i) (lb.drop i))) := by
    intro d
    induction d with
    | zero =>
      intro i hi
      refine wq97_0_step _ _ _ ?_
      rw [dropNil (l := la) (by omega)]
      by_cases h : i < lb.length
      · obtain ⟨y, hy⟩ : ∃ y, lb[i]? = some y := ⟨_, List.getElem?_eq_getElem h⟩
        rw [drop_get hy, cmpE_nil_cons]
        simp [show ¬ i < la.length by omega, show la.length < lb.length by omega]
      · rw [dropNil (l := lb) (by omega), cmpE_nil]
        simp [show ¬ i < la.length by omega, show ¬ la.length < lb.length by omega]
    | succ d ihd =>
      intro i hi
      refine wq97_0_step _ _ _ ?_
      obtain ⟨x, hx⟩ : ∃ x, la[i]? = some x := ⟨_, List.getElem?_eq_getElem (by omega)⟩
      rw [drop_get hx]
      by_cases h : i < lb.length
      · obtain ⟨y, hy⟩ : ∃ y, lb[i]? = some y := ⟨_, List.getElem?_eq_getElem h⟩
        have hix := ih x (List.mem_of_getElem? hx) y (List.mem_of_getElem? hy)
        have hih := ihd (i + 1) (by omega)
        rw [drop_get hy, cmpE_cons]
        obtain ⟨k, n, s, l⟩ := x
        obtain ⟨k', n', s', l'⟩ := y
        simp only [get?Internal_eq, Int.toNat_natCast, rowsT_some hx, rowsT_some hy]
        simp [show i < la.length by omega, h, show ¬ lb.length ≤ i by omega, hix, bneD]
        by_cases hc : cmpT (.mk k n s l) (.mk k' n' s' l') = 0
        · simp [hc]; rw [wrap_succ (n := la.length) (by omega) hlen]; exact hih
        · simp [hc]
      · rw [dropNil (l := lb) (by omega), cmpE_cons_nil]
        obtain ⟨k, n, s, l⟩ := x
        simp only [get?Internal_eq, Int.toNat_natCast, rowsT_some hx]
        simp [show i < la.length by omega, show lb.length ≤ i by omega]
  apply Gets.get
  refine cmpFunc_run _ _ ?_
  exact loop la.length 0 (by omega)

theorem lists_of (la lb : List Tm) (hlen : la.length < 1099511627776) (ih : ∀ a ∈ la, ∀ b ∈ lb, EVs (EV cfg) 89 [a.av, b.av] = some (.int .i64 (cmpT a b))) :
    EVs (EV cfg) 97 [.sl (rowsT la), .sl (rowsT lb)] = some (.int .i64 (cmpE la lb)) := by
  apply Gets.get
  refine order_lists_run _ _ ?_
  rw [listsE_of la lb hlen ih]
  simp

theorem compare_loop (a : Tm) : a.Ok → ∀ (kb nb : Int) (sb : List UInt8) (lb : List Tm), (Tm.mk kb nb sb lb).Ok → Gets (wq15_0 a.kind a.num a.str (rowsT a.subs) kb nb sb (rowsT lb)) (· = .int .i64 (cmpT a (.mk kb nb sb lb))) := by
  induction a using Tm.ind with
  | _ k n s l ih =>
    intro hok kb nb sb lb hokb
    have ihe : ∀ a ∈ l, ∀ b ∈ lb, EVs (EV cfg) 89 [a.av, b.av] = some (.int .i64 (cmpT a b)) := by
      intro a ha b hb
      have := ih a ha (hok.sub ha)
      have hob := hokb.sub hb
      obtain ⟨k1, n1, s1, l1⟩ := a
      obtain ⟨k2, n2, s2, l2⟩ := b
      rw [Tm.av_mk, Tm.av_mk]
      apply Gets.get
      exact oCompare_run _ _ _ _ _ _ _ _ (this k2 n2 s2 l2 hob)
    have hlists := lists_of l lb hok.len ihe
    rw [cmpT_eq]
    refine wq15_0_step _ _ _ _ _ _ _ _ ?_
    simp only [Tm.kind, Tm.num, Tm.str, Tm.subs, cmp_ev, strCmp_ev, hlists, or2_ev, or3_ev, rowsT_length, kOptSome, kInt_int, bneD, beqD]
    by_cases h0 : ¬ numC k kb = 0
    · simp [h0]
    have h0 : numC k kb = 0 := Classical.not_not.1 h0
    simp [h0]
    by_cases h1 : k = 1
    · simp [h1]
    by_cases h3 : k = 3
    · simp [h3]
    by_cases h4 : k = 4
    · simp [h4]
    by_cases h6 : k = 6
    · simp [h6]
    by_cases h2 : k = 2
    · simp [h2]
    by_cases h5 : k = 5
    · simp [h5, cmpL]
    by_cases h9 : k = 9
    · subst h9
      by_cases hl : l.length = 2
      · by_cases hl' : lb.length = 2
        · obtain ⟨x, y, rfl⟩ : ∃ x y, l = [x, y] := by
            match l, hl with
            | [x, y], _ => exact ⟨x, y, rfl⟩
          obtain ⟨x', y', rfl⟩ : ∃ x y, lb = [x, y] := by
            match lb, hl' with
            | [x, y], _ => exact ⟨x, y, rfl⟩
          have hx := ihe x (by simp) x' (by simp)
          have hy := ih y (by simp) (hok.sub (by simp))
          have hoy := hokb.sub (t := y') (by simp)
          have hcl : cmpL [x, y] [x', y'] = if cmpT x x' ≠ 0 then cmpT x x' else cmpT y y' := by
            unfold cmpL
            rw [cmpE_cons, cmpE_cons, cmpE_nil]
            by_cases e1 : cmpT x x' = 0 <;> by_cases e2 : cmpT y y' = 0 <;> simp [numC_self, e1, e2]
          obtain ⟨k1, n1, s1, l1⟩ := x
          obtain ⟨k2, n2, s2, l2⟩ := y
          obtain ⟨k1', n1', s1', l1'⟩ := x'
          obtain ⟨k2', n2', s2', l2'⟩ := y'
          have hyy := hy k2' n2' s2' l2' hoy
          simp only [rowsT_cons, rowsT_nil, Tm.cells_mk]
          simp [hcl, hx]
          by_cases hc : cmpT (.mk k1 n1 s1 l1) (.mk k1' n1' s1' l1') = 0
          · simp [hc]; exact hyy
          · simp [hc]
        · have : ¬ ((lb.length : Int) = 2) := by omega
          simp [hl, this, cmpL]
      · have : ¬ ((l.length : Int) = 2) := by omega
        simp [this, cmpL]
    by_cases h7 : k = 7
    · simp [h7, cmpL]
    simp [h1, h2, h3, h4, h5, h6, h7, h9]

theorem compare_ev {a b : Tm} (ha : a.Ok) (hb : b.Ok) : EVs (EV cfg) 89 [a.av, b.av] = some (.int .i64 (cmpT a b)) := by
  have := compare_loop a ha
  obtain ⟨k1, n1, s1, l1⟩ := a
  obtain ⟨k2, n2, s2, l2⟩ := b
  rw [Tm.av_mk, Tm.av_mk]
  apply Gets.get
  exact oCompare_run _ _ _ _ _ _ _ _ (this k2 n2 s2 l2 hb)

end Go.Proofs.Ytonmmmgffeoiiaa
end

section
namespace Go.Proofs.Ytonmmmgffeoiiaa
open Go.Av
theorem truth_ev (b : Bool) : EVf (EV cfg) 85 [.bool b] = some (truthT b).av := by
  have ha : ∀ s, EVf (EV cfg) 92 [.str s] = some (symT s).av := by
    intro s
    apply Gets.get
    refine guard_atom_run _ ?_
    rw [symT_av]; simp
  apply Gets.get
  refine guard_truth_run _ ?_
  rw [ha, ha]
  cases b <;> simp [truthT, tru, fal]
theorem mInt_ev (e : Env) (b : Bool) (t : Tm) : EVm (EV cfg) 87 [.ptr 0 0 0, t.av] 7 (mR e b) = some (.int .i64 t.num, mR e (b || decide (t.kind ≠ 1))) := by
  have hr := mRaise_ev e b
  apply Gets.get
  rw [Tm.av, Tm.cells_eq]
  refine mInt_run _ _ _ _ _ _ _ _ _ _ _ ?_
  rw [hr, bneD]
  by_cases h : t.kind = 1
  · simp [h]
  · simp [h]
theorem mBool_ev (e : Env) (b : Bool) (t : Tm) : EVm (EV cfg) 73 [.ptr 0 0 0, t.av] 7 (mR e b) = some (.bool (decide (t.str = tru)), mR e (b || (boolG t).isNone)) := by
  have hr := mRaise_ev e b
  apply Gets.get
  rw [Tm.av, Tm.cells_eq]
  refine mBool_run _ _ _ _ _ _ _ _ _ _ _ ?_
  rw [hr, bneD]
  unfold boolG
  simp only [beqS, show ([116, 114, 117, 101] : List UInt8) = tru from rfl, show ([102, 97, 108, 115, 101] : List UInt8) = fal from rfl]
  by_cases h : t.kind = 2
  · by_cases h1 : t.str = tru
    · simp [h, h1]
    · by_cases h2 : t.str = fal
      · simp [h, h1, h2]
        have : ¬ fal = tru := by decide
        simp [this]
      · simp [h, h1, h2]
  · simp [h]
theorem boolG_some {t : Tm} {x : Bool} (h : boolG t = some x) : decide (t.str = tru) = x := by
  unfold boolG at h
  split at h
  · rename_i h1; cases h; exact decide_eq_true h1.2
  · split at h
    · rename_i h1; cases h; rw [h1.2]; decide
    · cases h
theorem ret_true {e : Env} {t : Tm} : Gets (some (t.av, mR e true)) (Res e none) := ⟨_, rfl, rfl, t, rfl⟩
theorem ret_false {e : Env} {t : Tm} : Gets (some (t.av, mR e false)) (Res e (some t)) := ⟨_, rfl, rfl⟩
theorem two_end {e : Env} {a b : Tm} (f : Bool → Bool → Bool) {o : Option (AV × List (List AV))} (h : o = some ((truthT (f (decide (a.str = tru)) (decide (b.str = tru)))).av, mR e (false || (boolG a).isNone || (boolG b).isNone))) :
    Gets o (Res e ((boolG a).bind fun x => (boolG b).map fun y => truthT (f x y))) := by
  subst h
  cases ha : boolG a with
  | none => exact ret_true
  | some x =>
    cases hb : boolG b with
    | none => exact ret_true
    | some y =>
      rw [boolG_some ha, boolG_some hb]
      exact ret_false
theorem mTwo_ev (e : Env) (op : List UInt8) {a b : Tm} (ha : a.Ok) (hb : b.Ok) (ia : a.kind = 1 → InB a.num) (ib : b.kind = 1 → InB b.num) (hp : op = [42] → ProductOk) :
    Gets (EVd (EV cfg) 81 [.ptr 0 0 0, .str op, a.av, b.av] 7 (mR e false)) (Res e (twoG op a b)) := by
  have hc := compare_ev ha hb
  rw [Tm.av, Tm.av, Tm.cells_eq a, Tm.cells_eq b]
  refine mTwo_run _ _ _ _ _ _ _ _ _ _ _ _ _ _ _ _ ?_
  simp only [av_unf, hc, kOptSome, kInt_int, truth_ev, kTmV_av, beqS, beqD, bneD]
  unfold twoG
  by_cases h1 : op = [61, 61]
  · rw [if_pos h1, decide_eq_true h1, cond_true]; exact ret_false
  rw [if_neg h1, decide_eq_false h1, cond_false]
  by_cases h2 : op = [61, 58, 61]
  · rw [if_pos h2, decide_eq_true h2, cond_true]; exact ret_false
  rw [if_neg h2, decide_eq_false h2, cond_false]
  by_cases h3 : op = [47, 61]
  · rw [if_pos h3, decide_eq_true h3, cond_true]; exact ret_false
  rw [if_neg h3, decide_eq_false h3, cond_false]
  by_cases h4 : op = [61, 47, 61]
  · rw [if_pos h4, decide_eq_true h4, cond_true]; exact ret_false
  rw [if_neg h4, decide_eq_false h4, cond_false]
  by_cases h5 : op = [60]
  · rw [if_pos h5, decide_eq_true h5, cond_true]; exact ret_false
  rw [if_neg h5, decide_eq_false h5, cond_false]
  by_cases h6 : op = [61, 60]
  · rw [if_pos h6, decide_eq_true h6, cond_true]; exact ret_false
  rw [if_neg h6, decide_eq_false h6, cond_false]
  by_cases h7 : op = [62]
  · rw [if_pos h7, decide_eq_true h7, cond_true]; exact ret_false
  rw [if_neg h7, decide_eq_false h7, cond_false]
  by_cases h8 : op = [62, 61]
  · rw [if_pos h8, decide_eq_true h8, cond_true]; exact ret_false
  rw [if_neg h8, decide_eq_false h8, cond_false]
  by_cases h9 : op = [97, 110, 100]
  · rw [if_pos (Or.inl h9), decide_eq_true h9, cond_true]
    refine two_end (fun x y => x && y) ?_
    simp only [mBool_ev, kOptSome, kMBool_bool]
    cases decide (a.str = tru) <;> cases decide (b.str = tru) <;> rfl
  rw [decide_eq_false h9, cond_false]
  by_cases h10 : op = [97, 110, 100, 97, 108, 115, 111]
  · rw [if_pos (Or.inr h10), decide_eq_true h10, cond_true]
    refine two_end (fun x y => x && y) ?_
    simp only [mBool_ev, kOptSome, kMBool_bool]
    cases decide (a.str = tru) <;> cases decide (b.str = tru) <;> rfl
  rw [if_neg (fun h => h.elim h9 h10), decide_eq_false h10, cond_false]
  by_cases h11 : op = [111, 114]
  · rw [if_pos (Or.inl h11), decide_eq_true h11, cond_true]
    refine two_end (fun x y => x || y) ?_
    simp only [mBool_ev, kOptSome, kMBool_bool]
    cases decide (a.str = tru) <;> cases decide (b.str = tru) <;> rfl
  rw [decide_eq_false h11, cond_false]
  by_cases h12 : op = [111, 114, 101, 108, 115, 101]
  · rw [if_pos (Or.inr h12), decide_eq_true h12, cond_true]
    refine two_end (fun x y => x || y) ?_
    simp only [mBool_ev, kOptSome, kMBool_bool]
    cases decide (a.str = tru) <;> cases decide (b.str = tru) <;> rfl
  rw [if_neg (fun h => h.elim h11 h12), decide_eq_false h12, cond_false]
  by_cases h13 : op = [120, 111, 114]
  · rw [if_pos h13, decide_eq_true h13, cond_true]
    refine two_end (fun x y => x != y) ?_
    simp only [mBool_ev, kOptSome, kMBool_bool]
    cases decide (a.str = tru) <;> cases decide (b.str = tru) <;> rfl
  rw [if_neg h13, decide_eq_false h13, cond_false]
  by_cases h14 : op = [101, 108, 101, 109, 101, 110, 116]
  · rw [if_pos h14, decide_eq_true h14, cond_true]
    simp only [mInt_ev, kOptSome, kMInt_int, mRaise_ev, kTmV_av, av_unf]
    by_cases g1 : 1 ≤ a.num
    · rw [decide_eq_true (show a.num ≥ 1 from g1), cond_true]
      by_cases g2 : b.kind = 7
      · rw [decide_eq_true g2, cond_true]
        by_cases g3 : a.num ≤ b.subs.length
        · have hl : (a.num - 1).toNat < b.subs.length := by omega
          obtain ⟨j, hj⟩ : ∃ j : Nat, a.num = (j : Int) + 1 := ⟨(a.num - 1).toNat, by omega⟩
          have hjl : j < b.subs.length := by omega
          have hbl := hb
          have hw : IntKind.wrap .i64 (a.num - 1) = (j : Int) := by
            have : b.subs.length < 1099511627776 := by
              obtain ⟨kb, nb, sb, lb⟩ := b
              exact hb.len
            rw [wrap64 (by omega) (by omega)]; omega
          have hx : b.subs[j]? = some b.subs[j] := List.getElem?_eq_getElem hjl
          have e1 : (a.num - 1).toNat = j := by omega
          rw [rowsT_length, decide_eq_true g3, cond_true, hw, leInt_zero, ltInt_nat, decide_eq_true hjl, rowsT_at hx, e1, hx]
          simp only [Bool.and_true, cond_true, length_cells, Nat.beq_refl, Nat.ble_eq, take_cells, kTmC_cells, av_unf]
          by_cases g0 : a.kind = 1
          · rw [if_pos ⟨g0, g1, g2, g3⟩]; simp only [g0]; exact ret_false
          · rw [if_neg (fun h => g0 h.1), decide_eq_true g0]; exact ret_true
        · rw [rowsT_length, decide_eq_false g3, cond_false, if_neg (fun h => g3 h.2.2.2)]; exact ret_true
      · rw [decide_eq_false g2, cond_false, if_neg (fun h => g2 h.2.2.1)]; exact ret_true
    · rw [decide_eq_false g1, cond_false, if_neg (fun h => g1 h.2.1)]; exact ret_true
  rw [if_neg h14, decide_eq_false h14, cond_false]
  simp only [mInt_ev, kOptSome, kMInt_int]
  by_cases ga : a.kind = 1
  · by_cases gb : b.kind = 1
    · rw [if_pos ⟨ga, gb⟩]
      simp only [ga, gb]
      exact Gets.bind (mNumbers_ev e op (ia ga) (ib gb) hp) fun r h => ret_res h (Res_tm h)
    · rw [if_neg (fun h => gb h.2), decide_eq_true gb, Bool.or_true, mNumbers_bad]
      simp only [kOptSome, kTmV_av, av_unf]; exact ret_true
  · rw [if_neg (fun h => ga h.1), decide_eq_true ga, Bool.or_true, Bool.true_or, mNumbers_bad]
    simp only [kOptSome, kTmV_av, av_unf]; exact ret_true
end Go.Proofs.Ytonmmmgffeoiiaa
end

section
namespace Go.Proofs.Ytonmmmgffeoiiaa
open Go.Av
set_option maxRecDepth 100000
set_option maxHeartbeats 0

noncomputable def Lh64_0 : Den := evC cfg (EV cfg) 43 none 1 (sub (bodyOf Try.f43) [1, 1, 1, 0, 1, 0, 0])
noncomputable def Ah64_0 : Ex × List AV × AH → Option (AV × List (List AV)) := kAft (Cfg.keepOut cfg 43 6) (kRun cfg (EV cfg) (kfN cfg 6) 43 none 1 (kFinX cfg 1 (Cfg.lift cfg 43 0) Try.f43.results.toList) ([.block 0, .seq (sub (bodyOf Try.f43) [1, 1, 1, 1])]))
noncomputable def Wh64_0 : List AV × AH → Option (AV × List (List AV)) := fun p => kOpt (LOOP 1 (some [1, 2, 3, 4, 18, 19, 20]) ([]) Lh64_0 p) Ah64_0
noncomputable def Lh47_0 : Den := evC cfg (EV cfg) 27 none 0 (sub (bodyOf Try.f27) [1, 1, 1, 0, 1, 0, 0])
noncomputable def Ah47_0 : Ex × List AV × AH → Option AV := kAft (Cfg.keepOut cfg 27 5) (kRun cfg (EV cfg) (kfN cfg 6) 27 none 0 (kFinS cfg (Cfg.lift cfg 27 0) Try.f27.results.toList) ([.block 0, .seq (sub (bodyOf Try.f27) [1, 1, 1, 1])]))
noncomputable def Wh47_0 : List AV × AH → Option AV := fun p => kOpt (LOOP 0 (some [1, 2, 5, 6]) ([]) Lh47_0 p) Ah47_0
noncomputable abbrev wh64_0 (lt : List (List AV)) (v20 : Int) (c1_0 : Int) (c1_1 : Int) (c1_2 : List UInt8) (c1_3 : List (List AV)) (c2_0 : Int) (c2_1 : Int) (c2_2 : List UInt8) (c2_3 : List (List AV)) (h3 : List (List AV)) : Option (AV × List (List AV)) := Wh64_0  (((fx 35 [(1, AV.ptr (0 : Nat) (0 : Nat) (0 : Nat)), (2, AV.ptr (1 : Nat) (0 : Nat) (0 : Nat)), (3, AV.ptr (2 : Nat) (0 : Nat) (0 : Nat)), (4, AV.ms (3 : Nat) (0 : Nat) (Int.toNat (↑(List.length lt) : Int))), (18, AV.sl lt), (19, AV.int IntKind.i64 (↑(List.length lt) : Int)), (20, AV.int IntKind.i64 v20)]) : List AV), ([ABlk.rows false (1 : Nat) [[AV.fn (Fn.func 43) [] [AV.ptr (0 : Nat) (0 : Nat) (0 : Nat)]]], ABlk.rows false (4 : Nat) [[AV.int IntKind.i64 c1_0, AV.int IntKind.i64 c1_1, AV.str c1_2, AV.sl c1_3]], ABlk.rows false (4 : Nat) [[AV.int IntKind.i64 c2_0, AV.int IntKind.i64 c2_1, AV.str c2_2, AV.sl c2_3]], ABlk.rows true (4 : Nat) h3] : AH))
noncomputable abbrev wh47_0 (most : Int) (v5 : Int) (v6 : Int) (c0_0 : Int) (c0_1 : Int) (c0_2 : List UInt8) (c0_3 : List (List AV)) : Option (AV) := Wh47_0  (((fx 43 [(1, AV.int IntKind.i64 most), (2, AV.ptr (0 : Nat) (0 : Nat) (0 : Nat)), (5, AV.int IntKind.i64 v5), (6, AV.int IntKind.i64 v6)]) : List AV), ([ABlk.rows false (4 : Nat) [[AV.int IntKind.i64 c0_0, AV.int IntKind.i64 c0_1, AV.str c0_2, AV.sl c0_3]]] : AH))
theorem term_Copy_run (kt : Int) (nt : Int) (st : List UInt8) (lt : List (List AV)) {P : AV → Prop} (h : Gets (kOpt (EVk (EV cfg) 43 [.agg [.int .i64 kt, .int .i64 nt, .str st, .sl lt], .ptr 0 0 0] 1 [[AV.fn (Fn.func 43) [] [.ptr 0 0 0]]]) fun (q : AV) => kTmV q fun (n n_1 : Int) (s : List UInt8) 
  (rows : List (List AV)) => (some (.agg [.int .i64 n, .int .i64 n_1, .str s, .sl rows]))) P) : Gets (EVf (EV cfg) 29 ([AV.agg [AV.int IntKind.i64 kt, AV.int IntKind.i64 nt, AV.str st, AV.sl lt]] : List AV)) P :=
  Gets.ev (fun _ h => funF rfl rfl Try.func29 rfl h) (Gets.eq (by kernel_rfl) h)
theorem copyIn_run (kt : Int) (nt : Int) (st : List UInt8) (lt : List (List AV)) {P : AV × List (List AV) → Prop} (h : Gets (bif (↑(List.length lt) : Int) == (0 : Int) then bif AV.refsLt 0 (.agg [.int .i64 kt, .int .i64 nt, .str st, .sl []]) then some (.agg [.int .i64 kt, .int .i64 nt, .str st, .sl []], [[AV.fn 
  (Fn.func 43) [] [.ptr 0 0 0]]]) else none else bif leInt (0 : Int) (↑(List.length lt) : Int) && leInt (↑(List.length lt) : Int) (↑(List.length lt) : Int) && leInt ((↑(List.length lt) 
  : Int) * (56 : Int)) (140737488355328 : Int) && leInt (↑(List.length lt) : Int) (9223372036854775807 : Int) then wh64_0 lt (0 : Int) kt nt st lt (0 : Int) (0 : Int) [] [] (List.replicate 
  (Int.toNat (↑(List.length lt) : Int)) [.int .i64 (0 : Int), .int .i64 (0 : Int), .str [], .nilS]) else none) P) : Gets (EVx (EV cfg) 43 ([AV.agg [AV.int IntKind.i64 kt, AV.int IntKind.i64 nt, AV.str st, AV.sl lt], AV.ptr (0 : Nat) (0 : Nat) (0 : Nat)] : List AV) 1 [[(AV.fn (Fn.func 43) [] [AV.ptr 0 0 0])]]) P :=
  Gets.ev (fun _ h => funX rfl rfl Try.func43 rfl h) (Gets.eq (by kernel_rfl) h)
theorem kitA_run (s : List UInt8) {P : AV → Prop} (h : Gets (some (.agg [.int .i64 (2 : Int), .int .i64 (0 : Int), .str s, .sl []])) P) : Gets (EVf (EV cfg) 15 ([AV.str s] : List AV)) P :=
  Gets.ev (fun _ h => funF rfl rfl Try.func15 rfl h) (Gets.eq (by kernel_rfl) h)
theorem kitT_run (A : List (List AV)) {P : AV → Prop} (h : Gets (some (.agg [.int .i64 (7 : Int), .int .i64 (0 : Int), .str [], .sl A])) P) : Gets (EVf (EV cfg) 16 ([AV.sl A] : List AV)) P :=
  Gets.ev (fun _ h => funF rfl rfl Try.func16 rfl h) (Gets.eq (by kernel_rfl) h)
theorem kitBig_run (kt : Int) (nt : Int) (st : List UInt8) (lt : List (List AV)) (most : Int) {P : AV → Prop} (h : Gets (kOpt (EVs (EV cfg) 27 [.agg [.int .i64 kt, .int .i64 nt, .str st, .sl lt], .int .i64 (IntKind.wrap .i64 (most + (1 : Int)))]) fun (v : AV) => kInt .i64 v fun (n : Int) => some (.bool 
  (decide (n > most)))) P) : Gets (EVs (EV cfg) 12 ([AV.agg [AV.int IntKind.i64 kt, AV.int IntKind.i64 nt, AV.str st, AV.sl lt], AV.int IntKind.i64 most] : List AV)) P :=
  Gets.ev (fun _ h => funS rfl rfl Try.func12 rfl h) (Gets.eq (by kernel_rfl) h)
theorem kitSize_run (kt : Int) (nt : Int) (st : List UInt8) (lt : List (List AV)) (most : Int) {P : AV → Prop} (h : Gets (bif decide ((↑(List.length st) : Int) > (100 : Int)) then some (.int .i64 most) else bif decide ((↑(List.length lt) : Int) > most) then some (.int .i64 most) else wh47_0 most (1 : Int) 
  (0 : Int) kt nt st lt) P) : Gets (EVs (EV cfg) 27 ([AV.agg [AV.int IntKind.i64 kt, AV.int IntKind.i64 nt, AV.str st, AV.sl lt], AV.int IntKind.i64 most] : List AV)) P :=
  Gets.ev (fun _ h => funS rfl rfl Try.func27 rfl h) (Gets.eq (by kernel_rfl) h)
theorem wh64_0_step (lt : List (List AV)) (v20 : Int) (c1_0 : Int) (c1_1 : Int) (c1_2 : List UInt8) (c1_3 : List (List AV)) (c2_0 : Int) (c2_1 : Int) (c2_2 : List UInt8) (c2_3 : List (List AV)) (h3 : List (List AV)) {P : AV × List (List AV) → Prop} (h : Gets (bif decide (v20 < (↑(List.length lt) : Int)) then bif leInt (0 : Int) v20 && ltInt v20 (↑(List.length lt) : Int) then kOpt (List.get?Internal lt (Int.toNat v20)) fun (row : List AV) 
  => bif Nat.beq (List.length row) 4 then bif Nat.ble 4 (List.length row) then kTmC (List.take 4 row) fun (n n_1 : Int) (s : List UInt8) (rows : List (List AV)) => (kOpt (EVk (EV cfg) 
  43 [.agg [.int .i64 n, .int .i64 n_1, .str s, .sl rows], .ptr 0 0 0] 1 [[AV.fn (Fn.func 43) [] [.ptr 0 0 0]]]) fun (q : AV) => kTmV q fun (n n_2 : Int) (s : List UInt8) (rows : List 
  (List AV)) => (bif leInt (0 : Int) v20 && ltInt v20 (↑(Int.toNat (↑(List.length lt) : Int)) : Int) then kOpt (List.get?Internal h3 (0 + Int.toNat v20)) fun (row : List AV) => bif Nat.ble 
  4 (List.length row) then wh64_0 lt (IntKind.wrap .i64 (v20 + (1 : Int))) c1_0 c1_1 c1_2 c1_3 c2_0 c2_1 c2_2 c2_3 (List.set h3 (0 + Int.toNat v20) (.int .i64 n :: .int .i64 n_2 :: .str 
  s :: .sl rows :: List.drop 4 row)) else none else none)) else none else none else none else bif Nat.ble (0 + Int.toNat (↑(List.length lt) : Int)) (List.length h3) && true then some 
  (.agg [.int .i64 c1_0, .int .i64 c1_1, .str c1_2, .sl (List.take (Int.toNat (↑(List.length lt) : Int)) h3)], [[AV.fn (Fn.func 43) [] [.ptr 0 0 0]]]) else none) P) : Gets (wh64_0 lt v20 c1_0 c1_1 c1_2 c1_3 c2_0 c2_1 c2_2 c2_3 h3) P :=
  Gets.ev (fun _ h => loop_step (cfg := cfg) (f := 43) (rd := none) (bs := 1) h) (Gets.eq (by kernel_rfl) h)
theorem wh47_0_step (most : Int) (v5 : Int) (v6 : Int) (c0_0 : Int) (c0_1 : Int) (c0_2 : List UInt8) (c0_3 : List (List AV)) {P : AV → Prop} (h : Gets (bif decide (v6 < (↑(List.length c0_3) : Int)) then bif decide (v5 < most) then bif leInt (0 : Int) v6 && ltInt v6 (↑(List.length c0_3) : Int) then kOpt (List.get?Internal c0_3 (Int.toNat 
  v6)) fun (row : List AV) => bif Nat.beq (List.length row) 4 then bif Nat.ble 4 (List.length row) then kTmC (List.take 4 row) fun (n n_1 : Int) (s : List UInt8) (rows : List (List AV)) 
  => (kOpt (EVs (EV cfg) 27 [.agg [.int .i64 n, .int .i64 n_1, .str s, .sl rows], .int .i64 (IntKind.wrap .i64 (most - v5))]) fun (v : AV) => kInt .i64 v fun (n : Int) => wh47_0 most 
  (IntKind.wrap .i64 (v5 + n)) (IntKind.wrap .i64 (v6 + (1 : Int))) c0_0 c0_1 c0_2 c0_3) else none else none else none else some (.int .i64 v5) else some (.int .i64 v5)) P) : Gets (wh47_0 most v5 v6 c0_0 c0_1 c0_2 c0_3) P :=
  Gets.ev (fun _ h => loop_step (cfg := cfg) (f := 27) (rd := none) (bs := 0) h) (Gets.eq (by kernel_rfl) h)
end Go.Proofs.Ytonmmmgffeoiiaa
end

section
namespace Go.Proofs.Ytonmmmgffeoiiaa
open Go.Av
def copyCell : List (List AV) := [[AV.fn (Fn.func 43) [] [AV.ptr 0 0 0]]]
theorem copyIn_ev (t : Tm) : t.Ok → EVx (EV cfg) 43 [t.av, .ptr 0 0 0] 1 copyCell = some (t.av, copyCell) := by
  induction t using Tm.ind with
  | _ k n s l ih =>
    intro hok
    have hlen := hok.len
    have loop : ∀ (d i : Nat), i + d = l.length → Gets (wh64_0 (rowsT l) i k n s (rowsT l) 0 0 [] [] (rowsT (l.take i) ++ List.replicate d [.int .i64 0, .int .i64 0, .str [], .nilS])) (· = ((Tm.mk k n s l).av, copyCell)) := by
      intro d
      induction d with
      | zero =>
        intro i hi
        refine wh64_0_step _ _ _ _ _ _ _ _ _ _ _ ?_
        obtain rfl : i = l.length := by omega
        have e : l.take l.length = l := List.take_of_length_le (Nat.le_refl _)
        rw [e]
        simp
        rfl
      | succ d ihd =>
        intro i hi
        refine wh64_0_step _ _ _ _ _ _ _ _ _ _ _ ?_
        have hil : i < l.length := by omega
        have hx : l[i]? = some l[i] := List.getElem?_eq_getElem hil
        have hxl := List.mem_of_getElem? hx
        have hix := EVk_of (ih l[i] hxl (hok.sub hxl))
        have hih := ihd (i + 1) (by omega)
        have hw := wrap_s hil hlen
        have e1 : l.take (i + 1) = l.take i ++ [l[i]] := by rw [List.take_add_one, hx]; rfl
        have ht : (rowsT (l.take i)).length = i := by rw [rowsT_length, List.length_take]; omega
        have g : (rowsT (l.take i) ++ List.replicate (d + 1) [AV.int .i64 0, .int .i64 0, .str [], .nilS])[i]? = some [AV.int .i64 0, .int .i64 0, .str [], .nilS] := by
          rw [List.getElem?_append_right (by omega), ht, Nat.sub_self]; rfl
        have g2 : (rowsT (l.take i) ++ List.replicate (d + 1) [AV.int .i64 0, .int .i64 0, .str [], .nilS]).set i l[i].cells = rowsT (l.take (i + 1)) ++ List.replicate d [AV.int .i64 0, .int .i64 0, .str [], .nilS] := by
          rw [List.set_append_right _ _ (by omega), e1, rowsT_append, rowsT_cons, rowsT_nil]
          have e3 : i - (rowsT (l.take i)).length = 0 := by omega
          rw [e3, List.replicate_succ, List.set_cons_zero, List.append_assoc]; rfl
        simp only [copyCell] at hix
        simp [hil, hx, hix, g, hw]
        rw [g2]
        simpa using hih
    apply Gets.get
    rw [Tm.av_mk]
    refine copyIn_run _ _ _ _ ?_
    rw [rowsT_length]
    by_cases hl : l.length = 0
    · have : l = [] := List.length_eq_zero_iff.1 hl
      subst this
      simp [copyCell, AV.refsLt, refsLtL]
    · have hl' : ((l.length : Int) == 0) = false := by rw [beqD]; exact decide_eq_false (by omega)
      have h56 : leInt ((l.length : Int) * 56) 140737488355328 = true := by simp [leInt]; omega
      have hm : leInt (l.length : Int) 9223372036854775807 = true := by simp [leInt]; omega
      have hz : leInt 0 (l.length : Int) = true := leInt_zero _
      have hs : leInt (l.length : Int) (l.length : Int) = true := by simp [leInt]
      rw [hl', h56, hm, hz, hs]
      have := loop l.length 0 (by omega)
      rw [Tm.av_mk] at this
      simpa using this
theorem copy_ev {t : Tm} (h : t.Ok) : EVf (EV cfg) 29 [t.av] = some t.av := by
  have h1 := EVk_of (copyIn_ev t h)
  obtain ⟨k, n, s, l⟩ := t
  rw [Tm.av_mk] at h1 ⊢
  apply Gets.get
  refine term_Copy_run _ _ _ _ ?_
  simp only [copyCell] at h1
  rw [h1]
  simp [← Tm.av_mk]
end Go.Proofs.Ytonmmmgffeoiiaa
end

section
namespace Go.Proofs.Ytonmmmgffeoiiaa
open Go.Av
theorem ops_ev (op : List UInt8) : EVf (EV cfg) 78 [.str op] = some (.sl (intsR (opsG op))) := by
  apply Gets.get
  refine guard_Ops_run _ ?_
  have h := lookS_map (fun l => some (AV.sl (intsR l))) op [] opsTab
  have : Gets (lookS op (some (AV.sl (intsR []))) (opsTab.map fun p => (p.1, some (AV.sl (intsR p.2))))) (· = .sl (intsR (opsG op))) := by
    rw [h]; exact ⟨_, rfl, rfl⟩
  exact this
theorem index_ev (l : List Int) (hl : l.length < 1099511627776) (n : Int) : ∀ d i : Nat, i + d = l.length → Gets (wg65_0 (intsR l) n i) (fun v => ∃ j : Int, v = .int .i64 j ∧ (0 ≤ j ↔ n ∈ l.drop i)) := by
  intro d
  induction d with
  | zero =>
    intro i hi
    refine wg65_0_step _ _ _ ?_
    rw [intsR_len, decide_eq_false (by omega)]
    refine ⟨_, rfl, -1, rfl, ?_⟩
    rw [List.drop_eq_nil_of_le (by omega)]
    simp
  | succ d ih =>
    intro i hi
    have hil : i < l.length := by omega
    refine wg65_0_step _ _ _ ?_
    have hx : l[i]? = some l[i] := List.getElem?_eq_getElem hil
    have hd : l.drop i = l[i] :: l.drop (i + 1) := List.drop_eq_getElem_cons hil
    have h := ih (i + 1) (by omega)
    rw [intsR_len, decide_eq_true (show (i : Int) < (l.length : Int) by omega), leInt_zero, ltInt_nat, decide_eq_true hil, get?Internal_eq, Int.toNat_natCast, intsR_get, hx, wrap_succ hil hl]
    by_cases he : n = l[i]
    · refine ⟨.int .i64 i, ?_, i, rfl, ?_⟩
      · simp [he]
      · rw [hd, he]; exact ⟨fun _ => List.mem_cons_self, fun _ => by omega⟩
    · have hne : (n == l[i]) = false := by rw [beqI]; exact decide_eq_false he
      simp [hne]
      refine Gets.mono (by simpa using h) ?_
      rintro _ ⟨j, rfl, hj⟩
      exact ⟨j, rfl, by rw [hj, hd, List.mem_cons]; exact ⟨Or.inr, fun h => h.resolve_left he⟩⟩
theorem contains_ev (l : List Int) (hl : l.length < 1099511627776) (n : Int) : EVs (EV cfg) 76 [.sl (intsR l), .int .i64 n] = some (.bool (decide (n ∈ l))) := by
  obtain ⟨_, h1, j, rfl, hj⟩ := index_ev l hl n l.length 0 (by omega)
  have h2 : EVs (EV cfg) 82 [.sl (intsR l), .int .i64 n] = some (.int .i64 j) := by
    apply Gets.get
    exact indexI_run _ _ ⟨_, h1, rfl⟩
  apply Gets.get
  refine containsI_run _ _ ?_
  rw [h2]
  rw [List.drop_zero] at hj
  refine ⟨_, rfl, ?_⟩
  show AV.bool (decide (j ≥ 0)) = _
  congr 1
  exact decide_eq_decide.2 hj
theorem self_ev (n : Int) : EVs (EV cfg) 68 [.int .i64 n] = some (.bool (selfG n)) := by
  apply Gets.get
  refine guard_self_run _ ?_
  unfold selfG
  by_cases h : 1 ≤ n
  · simp [h]
  · simp [h]
end Go.Proofs.Ytonmmmgffeoiiaa
end

section
namespace Go.Proofs.Ytonmmmgffeoiiaa
open Go.Av
theorem opsG_len (op : List UInt8) : (opsG op).length < 1099511627776 := by
  have : ∀ (l : List (List UInt8 × List Int)), (∀ p ∈ l, p.2.length ≤ 2) → (lookS op [] l).length ≤ 2 := by
    intro l
    induction l with
    | nil => intro _; simp [lookS]
    | cons p l ih =>
      intro h
      rw [lookS]
      cases op == p.1
      · exact ih fun q hq => h q (by simp [hq])
      · exact h p (by simp)
  have := this opsTab (by decide)
  unfold opsG
  omega
theorem all_of {V : List Int} {l : List Tm} (hlen : l.length < 1099511627776) (ih : ∀ x ∈ l, EVs (EV cfg) 67 [x.av, .sl (intsR V)] = some (.bool (isG V x))) :
    EVs (EV cfg) 77 [.sl (rowsT l), .sl (intsR V)] = some (.bool (allG V l)) := by
  have hin : ∀ x ∈ l, EVs (EV cfg) 84 [x.av, .cptr [.sl (intsR V)] 0] = some (.bool (!isG V x)) := by
    intro x hx
    have h := ih x hx
    apply Gets.get
    rw [Tm.av, Tm.cells_eq] at h ⊢
    refine allIn_run _ _ _ _ _ ?_
    rw [h]; exact ⟨_, rfl, rfl⟩
  have loop : ∀ d i : Nat, i + d = l.length → Gets (wt86_0 (rowsT l) (intsR V) i) (fun v => ∃ j : Int, v = .int .i64 j ∧ (0 ≤ j ↔ allG V (l.drop i) = false)) := by
    intro d
    induction d with
    | zero =>
      intro i hi
      refine wt86_0_step _ _ _ ?_
      rw [rowsT_length, decide_eq_false (by omega)]
      refine ⟨_, rfl, -1, rfl, ?_⟩
      rw [List.drop_eq_nil_of_le (by omega)]
      simp [allG]
    | succ d ihd =>
      intro i hi
      have hil : i < l.length := by omega
      refine wt86_0_step _ _ _ ?_
      have hx : l[i]? = some l[i] := List.getElem?_eq_getElem hil
      have hd : l.drop i = l[i] :: l.drop (i + 1) := List.drop_eq_getElem_cons hil
      have h1 := hin l[i] (List.mem_of_getElem? hx)
      have h2 := ihd (i + 1) (by omega)
      rw [rowsT_length, decide_eq_true (show (i : Int) < (l.length : Int) by omega), leInt_zero, ltInt_nat, decide_eq_true hil, rowsT_at hx, wrap_succ hil hlen]
      simp only [cond_true, Bool.and_self, length_cells, Nat.beq_refl, take_cells, kTmC_cells, show Nat.ble 4 4 = true from rfl, av_unf, h1, kOptSome, kBool_bool]
      cases hg : isG V l[i] with
      | false =>
        refine ⟨_, rfl, i, rfl, ?_⟩
        rw [hd, allG, hg]
        exact ⟨fun _ => rfl, fun _ => by omega⟩
      | true =>
        refine h2.mono ?_
        rintro _ ⟨j, rfl, hj⟩
        refine ⟨j, rfl, ?_⟩
        rw [hd, allG, hg, Bool.true_and]; exact hj
  obtain ⟨_, h1, j, rfl, hj⟩ := loop l.length 0 (by omega)
  rw [List.drop_zero] at hj
  have h2 : EVs (EV cfg) 91 [.sl (rowsT l), .fn (.func 84) [] [.cptr [.sl (intsR V)] 0]] = some (.int .i64 j) := by
    apply Gets.get
    exact indFunc_run _ _ ⟨_, h1, rfl⟩
  have h3 : EVs (EV cfg) 83 [.sl (rowsT l), .fn (.func 84) [] [.cptr [.sl (intsR V)] 0]] = some (.bool (decide (j ≥ 0))) := by
    apply Gets.get
    refine contFunc_run _ _ ?_
    rw [h2]; exact ⟨_, rfl, rfl⟩
  apply Gets.get
  refine guardAll_run _ _ ?_
  rw [h3]
  refine ⟨_, rfl, ?_⟩
  show AV.bool (!decide (j ≥ 0)) = _
  congr 1
  cases ha : allG V l with
  | false => rw [decide_eq_true (hj.2 ha)]; rfl
  | true =>
    have : ¬ j ≥ 0 := fun h => by have := hj.1 h; rw [ha] at this; cases this
    rw [decide_eq_false this]; rfl
theorem is_ev {V : List Int} (hV : V.length < 1099511627776) : ∀ (n : Nat) (t : Tm), t.w ≤ n → n < 1099511627776 → EVs (EV cfg) 67 [t.av, .sl (intsR V)] = some (.bool (isG V t)) := by
  intro n
  induction n with
  | zero => intro t h; have := w_pos t; omega
  | succ n ih =>
    intro t hw hn
    have hwe := t.w_eq
    have hwl := wL_len t.subs
    have allOf : ∀ l : List Tm, wL l ≤ n → EVs (EV cfg) 77 [.sl (rowsT l), .sl (intsR V)] = some (.bool (allG V l)) := fun l hl =>
      all_of (by have := wL_len l; omega) fun x hx => ih x (by have := wL_mem hx; omega) (by omega)
    have hvar := patVar_ev (t := t) (by omega)
    have hsub := allOf t.subs (by omega)
    apply Gets.get
    rw [Tm.av, Tm.cells_eq] at hvar ⊢
    refine guardIs_run _ _ _ _ _ ?_
    rw [hvar, hsub]
    simp only [beqI, kOptSome, kBool_bool]
    by_cases h2 : t.kind = 2
    · rw [decide_eq_true h2, cond_true, isG_atom h2]
      simp only [varR, kTup, kCons, kInt_int, kBool_bool, kNil]
      cases hv : varT t with
      | none => exact ⟨_, rfl, rfl⟩
      | some x =>
        have hc := contains_ev V hV x
        simp only [Option.getD_some, Option.isSome_some, Bool.not_true, cond_false]
        rw [hc]; exact ⟨_, rfl, rfl⟩
    · rw [decide_eq_false h2, cond_false]
      by_cases h9 : t.kind = 9
      · rw [decide_eq_true h9, cond_true, isG_cons h9]; exact ⟨_, rfl, rfl⟩
      · rw [decide_eq_false h9, cond_false]
        by_cases h7 : t.kind = 7
        · rw [decide_eq_true h7, cond_true]
          cases hl : t.subs with
          | nil => rw [isG_nil h7 hl]; exact ⟨_, rfl, rfl⟩
          | cons f r =>
            rw [isG_tup h7 hl]
            rw [hl] at hwl hwe
            rw [wL_cons] at hwe
            have hfw := f.w_eq
            have hfs := allOf f.subs (by omega)
            have hr := allOf r (by omega)
            have c0 : (decide (((rowsT (f :: r)).length : Int) = 0)) = false := by rw [rowsT_length]; exact decide_eq_false (by simp; omega)
            have c1 : ltInt 0 ((rowsT (f :: r)).length : Int) = true := by rw [rowsT_length]; exact decide_eq_true (by simp)
            have c2 : leInt 1 ((rowsT (f :: r)).length : Int) = true := by rw [rowsT_length]; exact decide_eq_true (by simp; omega)
            have g0 : (rowsT (f :: r))[(0 : Int).toNat]? = some f.cells := by rw [rowsT_cons]; rfl
            have tk : List.take ((rowsT (f :: r)).length - 1) (List.drop 1 (rowsT (f :: r))) = rowsT r := by
              rw [rowsT_cons, List.drop_succ_cons, List.drop_zero, List.length_cons, Nat.add_sub_cancel, List.take_length]
            have g0' : (rowsT (f :: r))[0]? = some f.cells := g0
            rw [c0, c1, c2, tk]
            simp only [cond_false, cond_true, get?Internal_eq, g0, g0', kOptSome, length_cells, Nat.beq_refl, show Nat.ble 4 4 = true from rfl, take_cells, kTmC_cells, rowsOk_rowsT, rowsT_length, beqS]
            by_cases f7 : f.kind = 7
            · rw [if_pos f7, decide_eq_true f7, cond_true, hfs]
              by_cases hrl : r.length = 0
              · have : decide ((r.length : Int) = 0) = true := decide_eq_true (by omega)
                rw [this, decide_eq_true hrl]; exact ⟨_, rfl, rfl⟩
              · have : decide ((r.length : Int) = 0) = false := decide_eq_false (by omega)
                rw [this, decide_eq_false hrl]; exact ⟨_, rfl, rfl⟩
            · rw [if_neg f7, decide_eq_false f7, cond_false]
              by_cases f2 : f.kind = 2
              · have : (f.kind != 2) = false := by rw [f2]; rfl
                rw [if_pos f2, this, cond_false]
                by_cases hc : f.str = [99, 111, 110, 115, 116]
                · rw [if_pos hc, decide_eq_true hc]
                  refine ⟨_, rfl, ?_⟩
                  show AV.bool (decide ((r.length : Int) = 1)) = _
                  congr 1
                  exact decide_eq_decide.2 (by omega)
                · rw [if_neg hc, decide_eq_false hc, cond_false, ops_ev]
                  have hcn := contains_ev (opsG f.str) (opsG_len f.str) (r.length : Int)
                  simp only [kOptSome, kSl_sl, hcn, kBool_bool, hr]
                  cases decide ((r.length : Int) ∈ opsG f.str) <;> exact ⟨_, rfl, rfl⟩
              · have : (f.kind != 2) = true := by simpa using f2
                rw [if_neg f2, this]; exact ⟨_, rfl, rfl⟩
        · rw [decide_eq_false h7, isG_other h2 h9 h7]; exact ⟨_, rfl, rfl⟩
theorem guardCheck_ev {V : List Int} (hV : V.length < 1099511627776) {t : Tm} (h : t.w < 1099511627776) : EVs (EV cfg) 59 [t.av, .sl (intsR V)] = some (.int .i64 (checkG V t)) := by
  have hc := check_ev h
  have hi := is_ev hV t.w t (Nat.le_refl _) h
  apply Gets.get
  rw [Tm.av, Tm.cells_eq] at hc hi ⊢
  refine guardCheck_run _ _ _ _ _ ?_
  rw [hc, hi]
  unfold checkG
  simp only [kOptSome, kInt_int, kBool_bool]
  by_cases h0 : t.chk = 0
  · have : (t.chk != 0) = false := by rw [h0]; rfl
    rw [this, if_pos h0]
    cases isG V t <;> exact ⟨_, rfl, rfl⟩
  · have : (t.chk != 0) = true := by simpa using h0
    rw [this, if_neg h0]; exact ⟨_, rfl, rfl⟩
end Go.Proofs.Ytonmmmgffeoiiaa
end

section
namespace Go.Proofs.Ytonmmmgffeoiiaa
open Go.Av
set_option maxRecDepth 100000
set_option maxHeartbeats 0

noncomputable def Lz82_0 : Den := evC cfg (EV cfg) 99 none 6 (sub (bodyOf Try.f99) [0, 0])
noncomputable def Az82_0 : Ex × List AV × AH → Option (AV × List (List AV)) := kAft (Cfg.keepOut cfg 99 (firstRid (sub (bodyOf Try.f99) [0, 0]))) (kBlock 0 (kFinG cfg (Cfg.lift cfg 99 0) (fun (v : AV) (H : AH) => (fun (r : AV × AH) => kRangeEnd 1 5 (fx 37 [(0, AV.ptr 0 0 0), (5, AV.ptr 1 0 0), (6, AV.ptr 2 0 0), (7, AV.ptr 3 0 0)]) (kBlock 0 (kSeq (fun (fr : List AV) (H : AH) => kCutTo (Cfg.cut cfg 88 (firstRid (sub (bodyOf Try.f88) [1, 0, 1, 0, 0, 1, 1, 1]))) fr H fun (fr : List AV) (H : AH) => kCode cfg (EV cfg) (kfN cfg 6) 88 none 1 (sub (bodyOf Try.f88) [1, 0, 1, 0, 0, 1, 1, 1]) fr H (kScope (kSeq (fun (fr : List AV) (H : AH) => kCutTo (Cfg.cut cfg 88 (firstRid (sub (bodyOf Try.f88) [1, 1]))) fr H fun (fr : List AV) (H : AH) => kCode cfg (EV cfg) (kfN cfg 6) 88 none 1 (sub (bodyOf Try.f88) [1, 1]) fr H (kFinD cfg 7 (Cfg.lift cfg 88 0) (Array.toList (Func.results Try.f88)))) (kFinD cfg 7 (Cfg.lift cfg 88 0) (Array.toList (Func.results Try.f88)))))) (kScope (kSeq (fun (fr : List AV) (H : AH) => kCutTo (Cfg.cut cfg 88 (firstRid (sub (bodyOf Try.f88) [1, 1]))) fr H fun (fr : List AV) (H : AH) => kCode cfg (EV cfg) (kfN cfg 6) 88 none 1 (sub (bodyOf Try.f88) [1, 1]) fr H (kFinD cfg 7 (Cfg.lift cfg 88 0) (Array.toList (Func.results Try.f88)))) (kFinD cfg 7 (Cfg.lift cfg 88 0) (Array.toList (Func.results Try.f88))))))) (Prod.snd r)) (v, H)) (Array.toList (Func.results (Prod.snd (99, Try.f99))))))
noncomputable def Wz82_0 : List AV × AH → Option (AV × List (List AV)) := fun (p : List AV × AH) => kOpt (LOOP 6 (some [0, 1]) [] Lz82_0 p) Az82_0
noncomputable abbrev wz82_0 (h0 : List (List AV)) (c1_0 : Int) (c1_1 : Int) (c1_2 : List UInt8) (c1_3 : List (List AV)) (c2_0 : Int) (c2_1 : Int) (c2_2 : List UInt8) (c2_3 : List (List AV)) (c3_0 : Int) : Option (AV × List (List AV)) := Wz82_0  (((fx 25 [(0, AV.yld (5 : Nat)), (1, AV.ptr (4 : Nat) (0 : Nat) (0 : Nat))]) : List AV), ([ABlk.rows true (7 : Nat) h0, ABlk.rows false (4 : Nat) [[AV.int IntKind.i64 c1_0, AV.int IntKind.i64 c1_1, AV.str c1_2, AV.sl c1_3]], ABlk.rows false (4 : Nat) [[AV.int IntKind.i64 c2_0, AV.int IntKind.i64 c2_1, AV.str c2_2, AV.sl c2_3]], ABlk.rows false (1 : Nat) [[AV.int IntKind.i64 c3_0]], ABlk.rows false (1 : Nat) [[AV.ptr (1 : Nat) (0 : Nat) (0 : Nat)]], rngB Try.f88 (88 : Nat) [(1 : Nat), (0 : Nat), (1 : Nat), (0 : Nat), (0 : Nat), (1 : Nat), (1 : Nat), (0 : Nat), (1 : Nat), (0 : Nat)] (fx 37 [(7, AV.ptr (3 : Nat) (0 : Nat) (0 : Nat))]) none LoopState.ready] : AH))
theorem mList_run (ke : Int) (ne : Int) (se : List UInt8) (le : List (List AV)) (bd : List (List AV)) (self : Int) (bad : Bool) (op : List UInt8) (kt : Int) (nt : Int) (st : List UInt8) (lt : List (List AV)) {P : AV × List (List AV) → Prop} (h : Gets (bif op == [(108 : UInt8), (101 : UInt8), (110 : UInt8), (103 : UInt8), (116 : UInt8), (104 : UInt8)] then wz82_0 [[AV.int .i64 ke, .int .i64 ne, .str se, .sl le, .sl bd, .int .i64 self, 
  .bool bad]] kt nt st lt (0 : Int) (0 : Int) [] [] (0 : Int) else bif kt != (9 : Int) then kOpt (EVd (EV cfg) 79 [.ptr 0 0 0] 7 [[AV.int .i64 ke, .int .i64 ne, .str se, .sl le, .sl bd, 
  .int .i64 self, .bool bad]]) fun (q : AV × List (List AV)) => kTmV q.1 fun (n n_1 : Int) (s : List UInt8) (rows : List (List AV)) => (some (.agg [AV.int .i64 n, .int .i64 n_1, .str s, 
  .sl rows], q.2)) else bif op == [(104 : UInt8), (100 : UInt8)] then bif ltInt (0 : Int) (↑(List.length lt) : Int) then kOpt (List.get?Internal lt 0) fun (row : List AV) => bif Nat.beq 
  (List.length row) 4 then bif Nat.ble 4 (List.length row) then kTmC (List.take 4 row) fun (n n_1 : Int) (s : List UInt8) (rows : List (List AV)) => (some (.agg [AV.int .i64 n, .int .i64 
  n_1, .str s, .sl rows], [[AV.int .i64 ke, .int .i64 ne, .str se, .sl le, .sl bd, .int .i64 self, .bool bad]])) else none else none else none else bif ltInt (1 : Int) (↑(List.length lt) 
  : Int) then kOpt (List.get?Internal lt 1) fun (row : List AV) => bif Nat.beq (List.length row) 4 then bif Nat.ble 4 (List.length row) then kTmC (List.take 4 row) fun (n n_1 : Int) (s 
  : List UInt8) (rows : List (List AV)) => (some (.agg [AV.int .i64 n, .int .i64 n_1, .str s, .sl rows], [[AV.int .i64 ke, .int .i64 ne, .str se, .sl le, .sl bd, .int .i64 self, .bool bad]])) 
  else none else none else none) P) : Gets (EVd (EV cfg) 88 ([AV.ptr (0 : Nat) (0 : Nat) (0 : Nat), AV.str op, AV.agg [AV.int IntKind.i64 kt, AV.int IntKind.i64 nt, AV.str st, AV.sl lt]] : List AV) 7 [[AV.int .i64 ke, AV.int .i64 ne, AV.str se, AV.sl le, AV.sl bd, AV.int .i64 self, AV.bool bad]]) P :=
  Gets.ev (fun _ h => funD rfl rfl Try.func88 rfl h) (Gets.eq (by kernel_rfl) h)
theorem mul64_run (a : Int) (b : Int) {P : AV → Prop} (h : Gets (kOpt (fromSem (Op.intBits BinOp.and .u64 a (4294967295 : Int))) fun (v : AV) => kInt .u64 v fun (n : Int) => kOpt (fromSem (Op.shift BinOp.shr .u64 a .u64 (32 : Int))) fun (v : AV) 
  => kInt .u64 v fun (n_1 : Int) => kOpt (fromSem (Op.intBits BinOp.and .u64 b (4294967295 : Int))) fun (v : AV) => kInt .u64 v fun (n_2 : Int) => kOpt (fromSem (Op.shift BinOp.shr .u64 
  b .u64 (32 : Int))) fun (v : AV) => kInt .u64 v fun (n_3 : Int) => kOpt (fromSem (Op.shift BinOp.shr .u64 (IntKind.wrap .u64 (n * n_2)) .u64 (32 : Int))) fun (v : AV) => kInt .u64 v 
  fun (n_4 : Int) => kOpt (fromSem (Op.intBits BinOp.and .u64 (IntKind.wrap .u64 (IntKind.wrap .u64 (n_1 * n_2) + n_4)) (4294967295 : Int))) fun (v : AV) => kInt .u64 v fun (n_5 : Int) 
  => kOpt (fromSem (Op.shift BinOp.shr .u64 (IntKind.wrap .u64 (IntKind.wrap .u64 (n_1 * n_2) + n_4)) .u64 (32 : Int))) fun (v : AV) => kInt .u64 v fun (n_6 : Int) => kOpt (fromSem (Op.shift 
  BinOp.shr .u64 (IntKind.wrap .u64 (n_5 + IntKind.wrap .u64 (n * n_3))) .u64 (32 : Int))) fun (v : AV) => kInt .u64 v fun (n : Int) => some (AV.tup [AV.int .u64 (IntKind.wrap .u64 (IntKind.wrap 
  .u64 (IntKind.wrap .u64 (n_1 * n_3) + n_6) + n)), .int .u64 (IntKind.wrap .u64 (a * b))])) P) : Gets (EVs (EV cfg) 103 ([AV.int IntKind.u64 a, AV.int IntKind.u64 b] : List AV)) P :=
  Gets.ev (fun _ h => funS rfl rfl Try.func103 rfl h) (Gets.eq (by kernel_rfl) h)
theorem wz82_0_step (h0 : List (List AV)) (c1_0 : Int) (c1_1 : Int) (c1_2 : List UInt8) (c1_3 : List (List AV)) (c2_0 : Int) (c2_1 : Int) (c2_2 : List UInt8) (c2_3 : List (List AV)) (c3_0 : Int) {P : AV × List (List AV) → Prop} (h : Gets (bif c1_0 == (9 : Int) then bif ltInt (0 : Int) (↑(List.length c1_3) : Int) then kOpt (List.get?Internal c1_3 0) fun (row : List AV) => bif Nat.beq (List.length row) 4 then bif Nat.ble 
  4 (List.length row) then kTmC (List.take 4 row) fun (n n : Int) (s : List UInt8) (rows : List (List AV)) => (bif ltInt (1 : Int) (↑(List.length c1_3) : Int) then kOpt (List.get?Internal 
  c1_3 1) fun (row : List AV) => bif Nat.beq (List.length row) 4 then bif Nat.ble 4 (List.length row) then kTmC (List.take 4 row) fun (n n_1 : Int) (s : List UInt8) (rows : List (List 
  AV)) => (wz82_0 h0 n n_1 s rows c2_0 c2_1 c2_2 c2_3 (IntKind.wrap .i64 (c3_0 + (1 : Int)))) else none else none else none) else none else none else none else bif c1_0 != (8 : Int) then 
  kOpt (EVd (EV cfg) 79 [.ptr 0 0 0] 7 h0) fun (q : AV × List (List AV)) => kTmV q.1 fun (n n_1 : Int) (s : List UInt8) (rows : List (List AV)) => (some (.agg [AV.int .i64 n, .int .i64 
  n_1, .str s, .sl rows], q.2)) else kOpt (EVd (EV cfg) 86 [.ptr 0 0 0, .int .i64 c3_0] 7 h0) fun (q : AV × List (List AV)) => kTmV q.1 fun (n n_1 : Int) (s : List UInt8) (rows : List 
  (List AV)) => (some (.agg [AV.int .i64 n, .int .i64 n_1, .str s, .sl rows], q.2))) P) : Gets (wz82_0 h0 c1_0 c1_1 c1_2 c1_3 c2_0 c2_1 c2_2 c2_3 c3_0) P :=
  Gets.ev (fun _ h => loop_step (cfg := cfg) (f := 99) (rd := none) (bs := 6) h) (Gets.eq (by kernel_rfl) h)
end Go.Proofs.Ytonmmmgffeoiiaa
end

section
namespace Go.Av
theorem xor_not {n : Int} (h1 : -9223372036854775808 ≤ n) (h2 : n < 9223372036854775808) : fromSem (Op.intBits .xor .i64 (-1) n) = some (.int .i64 (-1 - n)) := by
  have : fromSem (Op.intBits .xor .i64 (-1) n) = some (.int .i64 (IntKind.wrap .i64 (BitVec.ofInt 64 (-1) ^^^ BitVec.ofInt 64 n).toNat)) := rfl
  rw [this, wrap_toNat]
  have e : BitVec.ofInt 64 (-1) ^^^ BitVec.ofInt 64 n = ~~~(BitVec.ofInt 64 n) := by
    rw [show BitVec.ofInt 64 (-1) = BitVec.allOnes 64 from by decide, BitVec.allOnes_xor]
  have en : n = (BitVec.ofInt 64 n).toInt := by rw [BitVec.toInt_ofInt, Int.bmod_eq_of_le (by omega) (by omega)]
  have hn := BitVec.toNat_not (x := BitVec.ofInt 64 n)
  rw [e]
  congr 2
  rw [BitVec.toInt_eq_toNat_cond] at en ⊢
  have hl := (BitVec.ofInt 64 n).isLt
  rw [hn]
  generalize (BitVec.ofInt 64 n).toNat = U at *
  split at en <;> split <;> omega
theorem get0T (x : Tm) (l : List Tm) : List.get?Internal (rowsT (x :: l)) 0 = some x.cells := by rw [get?Internal_eq, rowsT_cons]; rfl
theorem get1T (x y : Tm) (l : List Tm) : List.get?Internal (rowsT (x :: y :: l)) 1 = some y.cells := by rw [get?Internal_eq, rowsT_cons, rowsT_cons]; rfl
theorem get2T (x y z : Tm) (l : List Tm) : List.get?Internal (rowsT (x :: y :: z :: l)) 2 = some z.cells := by rw [get?Internal_eq, rowsT_cons, rowsT_cons, rowsT_cons]; rfl
theorem lt0T (x : Tm) (l : List Tm) : ltInt 0 ((rowsT (x :: l)).length : Int) = true := by rw [rowsT_length]; exact decide_eq_true (by simp)
theorem lt1T (x y : Tm) (l : List Tm) : ltInt 1 ((rowsT (x :: y :: l)).length : Int) = true := by rw [rowsT_length]; exact decide_eq_true (by simp; omega)
theorem lt2T (x y z : Tm) (l : List Tm) : ltInt 2 ((rowsT (x :: y :: z :: l)).length : Int) = true := by rw [rowsT_length]; exact decide_eq_true (by simp; omega)
theorem ble44 : Nat.ble 4 4 = true := rfl
theorem num_chk {t : Tm} (h : t.chk = 0) : -576460752303423488 ≤ t.num ∧ t.num ≤ 576460752303423487 := by
  obtain ⟨h1, _⟩ := chk_zero.1 h
  rw [Tm.parts_eq, Bool.and_eq_true] at h1
  have h2 : soundB t.kind t.num t.str t.subs.length = true := h1.1
  generalize t.kind = k at h2
  generalize t.num = n at *
  unfold soundB at h2
  repeat' split at h2
  all_goals simp at h2
  all_goals omega
theorem ok_chk {t : Tm} (h : t.chk = 0) : t.Ok := ok_of_w t (by have := w_chk h; omega)
theorem inB_chk {t : Tm} (h : t.chk = 0) : t.kind = 1 → InB t.num := fun _ => num_chk h
end Go.Av
namespace Go.Proofs.Ytonmmmgffeoiiaa
open Go.Av
theorem num_bad (e : Env) (n : Int) : ∃ t : Tm, EVd (EV cfg) 86 [.ptr 0 0 0, .int .i64 n] 7 (mR e true) = some (t.av, mR e true) := by
  rw [mNumber_ev]
  by_cases h : InB n
  · exact ⟨numT n, by rw [if_pos h]⟩
  · exact ⟨zeroT, by rw [if_neg h]⟩
theorem num_res {e : Env} {b : Bool} {n : Int} {k : Int} : Gets (kOpt (EVd (EV cfg) 86 [.ptr 0 0 0, .int .i64 n] 7 (mR e (false || decide (k ≠ 1)))) fun q => kTmV q.1 fun (n n_1 : Int) (s : List UInt8) (rows : List (List AV)) => some (AV.agg [.int .i64 n, .int .i64 n_1, .str s, .sl rows], q.2)) (Res e (if k = 1 then withinG n else none)) := by
  by_cases h : k = 1
  · rw [if_pos h, decide_eq_false (by simpa using h)]
    exact Gets.bind (mNumber_within e n fun r h1 h2 => h1) fun r h => ret_res h (Res_tm h)
  · rw [if_neg h, decide_eq_true (by simpa using h)]
    obtain ⟨t, ht⟩ := num_bad e n
    rw [Bool.or_true, ht]
    simp only [kOptSome, kTmV_av, av_unf]
    exact ret_true
theorem lenLoop (e : Env) {a b : Int} {s : List UInt8} {r : List (List AV)} : ∀ (n : Nat) (t : Tm) (c : Nat), t.w ≤ n → t.chk = 0 → c + n < 1099511627776 →
    Gets (wz82_0 (mR e false) t.kind t.num t.str (rowsT t.subs) a b s r c) (Res e ((lenG t).bind fun m => withinG ((c + m : Nat) : Int))) := by
  intro n
  induction n with
  | zero => intro t _ h; have := w_pos t; omega
  | succ n ih =>
    intro t c hw hc hn
    refine wz82_0_step _ _ _ _ _ _ _ _ _ _ ?_
    by_cases h9 : t.kind = 9
    · obtain ⟨x, y, hs⟩ := cons_chk hc h9
      have hwe := t.w_eq
      rw [hs] at hwe
      simp only [wL_cons, wL_nil] at hwe
      have h := ih y (c + 1) (by omega) (chk_sub hc (by rw [hs]; simp)) (by omega)
      rw [lenG_cons h9 hs, hs, beqI, decide_eq_true h9]
      simp only [cond_true, lt0T, lt1T, get0T, get1T, kOptSome, length_cells, Nat.beq_refl, ble44, take_cells, kTmC_cells, wrap_succ (show c < c + 1 by omega) (by omega)]
      have e1 : ((lenG y).map (· + 1)).bind (fun m => withinG ((c + m : Nat) : Int)) = (lenG y).bind fun m => withinG ((c + 1 + m : Nat) : Int) := by
        cases lenG y with
        | none => rw [Option.map_none, Option.bind_none, Option.bind_none]
        | some m => rw [Option.map_some, Option.bind_some, Option.bind_some, show c + (m + 1) = c + 1 + m by omega]
      rw [e1]
      exact h
    · rw [beqI, decide_eq_false h9, cond_false]
      by_cases h8 : t.kind = 8
      · have : (t.kind != 8) = false := by rw [h8]; rfl
        have e0 : ((some 0).bind fun m => withinG ((c + m : Nat) : Int)) = withinG c := by rw [Option.bind_some, Nat.add_zero]
        rw [this, lenG_nil h8, e0]
        exact Gets.bind (mNumber_within e c fun r h1 h2 => h1) fun r h => ret_res h (Res_tm h)
      · have : (t.kind != 8) = true := by simpa using h8
        rw [this, lenG_none h9 h8, mRaise_ev]
        simp only [cond_true, kOptSome, kTmV_av, av_unf]
        exact ret_true
def listOpG (op : List UInt8) (t : Tm) : Option Tm :=
  if op = [108, 101, 110, 103, 116, 104] then (lenG t).bind fun n => withinG n
  else if t.kind = 9 then (if op = [104, 100] then t.subs[0]? else t.subs[1]?)
  else none
theorem mList_ev (e : Env) (op : List UInt8) {t : Tm} (hc : t.chk = 0) : Gets (EVd (EV cfg) 88 [.ptr 0 0 0, .str op, t.av] 7 (mR e false)) (Res e (listOpG op t)) := by
  rw [Tm.av, Tm.cells_eq]
  refine mList_run _ _ _ _ _ _ _ _ _ _ _ _ ?_
  have hw := w_chk hc
  unfold listOpG
  rw [beqS]
  by_cases h1 : op = [108, 101, 110, 103, 116, 104]
  · rw [if_pos h1, decide_eq_true h1, cond_true]
    have h := lenLoop e (a := 0) (b := 0) (s := []) (r := []) t.w t 0 (Nat.le_refl _) hc (by omega)
    simpa using h
  · rw [if_neg h1, decide_eq_false h1, cond_false]
    by_cases h9 : t.kind = 9
    · obtain ⟨x, y, hs⟩ := cons_chk hc h9
      have : (t.kind != 9) = false := by rw [h9]; rfl
      rw [this, if_pos h9, hs, beqS]
      simp only [cond_false, lt0T, lt1T, get0T, get1T, kOptSome, length_cells, Nat.beq_refl, ble44, take_cells, kTmC_cells, cond_true, av_unf]
      by_cases h2 : op = [104, 100]
      · rw [if_pos h2, decide_eq_true h2]; exact ret_false
      · rw [if_neg h2, decide_eq_false h2]; exact ret_false
    · have : (t.kind != 9) = true := by simpa using h9
      rw [this, if_neg h9, mRaise_ev]
      simp only [cond_true, kOptSome, kTmV_av, av_unf]
      exact ret_true
theorem oneG_list {op : List UInt8} {t : Tm} : (if op = [108, 101, 110, 103, 116, 104] then (lenG t).bind fun n => withinG n else if t.kind = 9 then (if op = [104, 100] then t.subs[0]? else t.subs[1]?) else none) = listOpG op t := rfl
theorem mOne_ev (e : Env) (op : List UInt8) {t : Tm} (hc : t.chk = 0) : Gets (EVd (EV cfg) 80 [.ptr 0 0 0, .str op, t.av] 7 (mR e false)) (Res e (oneG op t)) := by
  have hl := mList_ev e op hc
  have hn := num_chk hc
  have hs := subs_chk hc
  have w1 : IntKind.wrap .i64 (0 - t.num) = -t.num := by rw [wrap64 (by omega) (by omega)]; omega
  rw [Tm.av, Tm.cells_eq] at hl ⊢
  refine mOne_run _ _ _ _ _ _ _ _ _ _ _ _ ?_
  simp only [av_unf, truth_ev, kOptSome, kTmV_av, beqS, beqI, w1, mRaise_ev, mBool_ev, mInt_ev, kMBool_bool, kMInt_int, xor_not (show -9223372036854775808 ≤ t.num by omega) (by omega), kInt_int]
  rw [av_unf] at hl
  unfold oneG
  by_cases h1 : op = [105, 115, 95, 97, 116, 111, 109]
  · rw [if_pos h1, decide_eq_true h1, cond_true]; exact ret_false
  rw [if_neg h1, decide_eq_false h1, cond_false]
  by_cases h2 : op = [105, 115, 95, 105, 110, 116, 101, 103, 101, 114]
  · rw [if_pos h2, decide_eq_true h2, cond_true]; exact ret_false
  rw [if_neg h2, decide_eq_false h2, cond_false]
  by_cases h3 : op = [105, 115, 95, 108, 105, 115, 116]
  · rw [if_pos h3, decide_eq_true h3, cond_true]
    cases decide (t.kind = 9)
    · exact ret_false
    · exact ret_false
  rw [if_neg h3, decide_eq_false h3, cond_false]
  by_cases h4 : op = [105, 115, 95, 116, 117, 112, 108, 101]
  · rw [if_pos h4, decide_eq_true h4, cond_true]; exact ret_false
  rw [if_neg h4, decide_eq_false h4, cond_false]
  by_cases h5 : op = [105, 115, 95, 112, 105, 100]
  · rw [if_pos h5, decide_eq_true h5, cond_true]; exact ret_false
  rw [if_neg h5, decide_eq_false h5, cond_false]
  by_cases h6 : op = [105, 115, 95, 102, 117, 110, 99, 116, 105, 111, 110]
  · rw [if_pos h6, decide_eq_true h6, cond_true]; exact ret_false
  rw [if_neg h6, decide_eq_false h6, cond_false]
  by_cases h7 : op = [105, 115, 95, 114, 101, 102, 101, 114, 101, 110, 99, 101]
  · rw [if_pos h7, decide_eq_true h7, cond_true]
    cases decide (t.kind = 3)
    · exact ret_false
    · exact ret_false
  rw [if_neg h7, decide_eq_false h7, cond_false]
  by_cases h8 : op = [110, 111, 116]
  · rw [if_pos h8, decide_eq_true h8, cond_true]
    cases hb : boolG t with
    | none => exact ret_true
    | some x => rw [boolG_some hb]; exact ret_false
  rw [if_neg h8, decide_eq_false h8, cond_false]
  by_cases h9 : op = [98, 110, 111, 116]
  · rw [if_pos h9, decide_eq_true h9, cond_true]; exact num_res (b := false)
  rw [if_neg h9, decide_eq_false h9, cond_false]
  by_cases h10 : op = [43]
  · rw [if_pos h10, decide_eq_true h10, cond_true]; exact num_res (b := false)
  rw [if_neg h10, decide_eq_false h10, cond_false]
  by_cases h11 : op = [45]
  · rw [if_pos h11, decide_eq_true h11, cond_true]; exact num_res (b := false)
  rw [if_neg h11, decide_eq_false h11, cond_false]
  by_cases h12 : op = [97, 98, 115]
  · rw [if_pos h12, decide_eq_true h12, cond_true]
    have e1 : (if decide (t.num < -t.num) = true then -t.num else t.num) = if t.num < 0 then -t.num else t.num := by
      by_cases h : t.num < 0
      · rw [if_pos h, if_pos (decide_eq_true (by omega))]
      · rw [if_neg h, if_neg (by rw [decide_eq_false (by omega)]; simp)]
    rw [e1]
    exact num_res (b := false)
  rw [if_neg h12, decide_eq_false h12, cond_false]
  have tup : Gets (bif t.kind != 7 then some (zeroT.av, mR e true) else kOpt (EVd (EV cfg) 86 [.ptr 0 0 0, .int .i64 ((rowsT t.subs).length : Int)] 7 (mR e false)) fun q => kTmV q.1 fun (n n_1 : Int) (s : List UInt8) (rows : List (List AV)) => some (AV.agg [.int .i64 n, .int .i64 n_1, .str s, .sl rows], q.2)) (Res e (if t.kind = 7 then withinG t.subs.length else none)) := by
    by_cases h : t.kind = 7
    · have : (t.kind != 7) = false := by rw [h]; rfl
      rw [this, if_pos h, cond_false, rowsT_length]
      exact Gets.bind (mNumber_within e _ fun r h1 h2 => h1) fun r h => ret_res h (Res_tm h)
    · have : (t.kind != 7) = true := by simpa using h
      rw [this, if_neg h, cond_true]
      exact ret_true
  by_cases h13 : op = [116, 117, 112, 108, 101, 95, 115, 105, 122, 101]
  · rw [if_pos h13, decide_eq_true h13, cond_true]; exact tup
  rw [if_neg h13, decide_eq_false h13, cond_false]
  by_cases h14 : op = [115, 105, 122, 101]
  · rw [if_pos h14, decide_eq_true h14, cond_true]; exact tup
  rw [if_neg h14, decide_eq_false h14, cond_false, oneG_list]
  exact Gets.bind hl fun r h => ret_res h (Res_tm h)
theorem mApply_ev (e : Env) (op : List UInt8) {l : List Tm} (hl : ∀ x ∈ l, x.chk = 0) (hlen : l.length ≤ 2) (hp : op = [42] → ProductOk) :
    Gets (EVd (EV cfg) 74 [.ptr 0 0 0, .str op, .sl (rowsT l)] 7 (mR e false)) (Res e (applyG op l e.self)) := by
  refine mApply_run _ _ _ _ _ _ _ _ _ ?_
  match l, hl, hlen with
  | [], _, _ =>
    simp only [rowsT_length, List.length_nil]
    refine ⟨_, rfl, ?_⟩
    show _ = (Tm.av _, mR e false)
    rw [Tm.av_mk, rowsT_nil]
  | [a], hl, _ =>
    have h1 := mOne_ev e op (hl a (by simp))
    have c1 : ((((rowsT [a]).length : Nat) : Int) == 1) = true := by rw [rowsT_length]; rfl
    rw [c1]
    simp only [cond_true, lt0T, get0T, kOptSome, length_cells, Nat.beq_refl, ble44, take_cells, kTmC_cells, av_unf]
    exact Gets.bind h1 fun r h => ret_res h (Res_tm h)
  | [a, b], hl, _ =>
    have ha := hl a (by simp)
    have hb := hl b (by simp)
    have h1 := mTwo_ev e op (ok_chk ha) (ok_chk hb) (inB_chk ha) (inB_chk hb) hp
    have c1 : ((((rowsT [a, b]).length : Nat) : Int) == 1) = false := by rw [rowsT_length]; rfl
    have c2 : ((((rowsT [a, b]).length : Nat) : Int) == 2) = true := by rw [rowsT_length]; rfl
    rw [c1, c2]
    simp only [cond_true, cond_false, lt0T, lt1T, get0T, get1T, kOptSome, length_cells, Nat.beq_refl, ble44, take_cells, kTmC_cells, av_unf]
    exact Gets.bind h1 fun r h => ret_res h (Res_tm h)
  | _ :: _ :: _ :: _, _, h => simp at h
end Go.Proofs.Ytonmmmgffeoiiaa
end

section
namespace Go.Av
def pairG (x e : Tm) : Tm := .mk 9 0 [] [x, e]
def makeG (l : List Tm) (e : Tm) : Tm := l.foldr pairG e
end Go.Av
namespace Go.Proofs.Ytonmmmgffeoiiaa
open Go.Av
theorem makeList_ev {l : List Tm} (hlen : l.length < 1099511627776) (e : Tm) : EVf (EV cfg) 32 [.sl (rowsT l), e.av] = some (makeG l e).av := by
  have loop : ∀ (j : Nat) (a : Tm), j ≤ l.length → Gets (ws78_0 ((j : Int) - 1) a.kind a.num a.str (rowsT a.subs) 0 0 [] [] (rowsT l)) (· = ((l.take j).foldr pairG a).av) := by
    intro j
    induction j with
    | zero =>
      intro a _
      refine ws78_0_step _ _ _ _ _ _ _ _ _ _ ?_
      refine ⟨_, rfl, ?_⟩
      rw [av_unf]; rfl
    | succ j ih =>
      intro a hj
      refine ws78_0_step _ _ _ _ _ _ _ _ _ _ ?_
      have hil : j < l.length := by omega
      have hx : l[j]? = some l[j] := List.getElem?_eq_getElem hil
      have h := ih (pairG l[j] a) (by omega)
      have e1 : l.take (j + 1) = l.take j ++ [l[j]] := by rw [List.take_add_one, hx]; rfl
      have e2 : (((j + 1 : Nat) : Int) - 1) = (j : Int) := by omega
      have w1 : IntKind.wrap .i64 ((j : Int) - 1) = (j : Int) - 1 := wrap64 (by omega) (by omega)
      rw [e2, w1, decide_eq_true (show (j : Int) ≥ 0 by omega), rowsT_length, leInt_zero, ltInt_nat, decide_eq_true hil, rowsT_at hx, e1, List.foldr_append]
      simp only [cond_true, Bool.and_self, length_cells, Nat.beq_refl, take_cells, kTmC_cells, show Nat.ble 4 4 = true from rfl, kOptSome]
      rw [← Tm.cells_eq, ← Tm.cells_eq]
      have e3 : rowsT (pairG l[j] a).subs = [l[j].cells, a.cells] := by show rowsT [l[j], a] = _; rw [rowsT_cons, rowsT_cons, rowsT_nil]
      rw [e3] at h
      exact h
  apply Gets.get
  rw [Tm.av, Tm.cells_eq]
  refine makeList_run _ _ _ _ _ ?_
  have h := loop l.length e (Nat.le_refl _)
  rw [List.take_length] at h
  rw [rowsT_length, wrap64 (by omega) (by omega)]
  exact h
end Go.Proofs.Ytonmmmgffeoiiaa
end

section
namespace Go.Proofs.Ytonmmmgffeoiiaa
open Go.Av
theorem setHas_ev {p : Nat → Bool} {r : List AV} (h : SetRow p r) {n : Nat} (hn : n < 100) : EVs (EV cfg) 53 [.cptr r 0, .int .i64 n] = some (.bool (p n)) := by
  obtain ⟨lo, hi, l, rfl, h1, h2, h3, h4⟩ := h
  have key : ∀ {a k : Nat}, a < 18446744073709551616 → k < 64 → ((((a / 2 ^ k % 2 : Nat) : Int)) == 1) = a.testBit k := by
    intro a k _ _
    rw [Nat.testBit_eq_decide_div_mod_eq]
    rw [beqI]
    exact decide_eq_decide.2 (by omega)
  apply Gets.get
  refine setHas_run _ _ ?_
  by_cases hs : n < 64
  · have e : p n = lo.testBit n := (h3 n hs).symm
    have hd := Nat.div_le_self lo (2 ^ n)
    rw [decide_eq_true (show (n : Int) < 64 by omega), e]
    simp only [cond_true, get?Internal_eq, List.getElem?_cons_zero, kOptSome, kInt_int, shr_bit h1 hs, and_one (show lo / 2 ^ n < 18446744073709551616 by omega), key h1 hs]
    exact ⟨_, rfl, rfl⟩
  · obtain ⟨k, rfl⟩ : ∃ k, n = k + 64 := ⟨n - 64, by omega⟩
    have hk : k < 64 := by omega
    have e : p (k + 64) = hi.testBit k := (h4 k hk).symm
    have hd := Nat.div_le_self hi (2 ^ k)
    have w : IntKind.wrap .i64 (((k + 64 : Nat) : Int) - 64) = (k : Int) := by rw [wrap64 (by omega) (by omega)]; omega
    rw [decide_eq_false (show ¬ ((k + 64 : Nat) : Int) < 64 by omega), w, e]
    simp only [cond_false, get?Internal_eq, List.getElem?_cons_succ, List.getElem?_cons_zero, kOptSome, kInt_int, shr_bit h2 hk, and_one (show hi / 2 ^ k < 18446744073709551616 by omega), key h2 hk]
    exact ⟨_, rfl, rfl⟩
theorem setAdd_ev {p : Nat → Bool} {r : List AV} (h : SetRow p r) {n : Nat} (hn : n < 100) : ∃ r', EVm (EV cfg) 51 [.ptr 0 0 0, .int .i64 n] 402 [r] = some (.unit, [r']) ∧
    SetRow (fun i => p i || decide (i = n)) r' ∧ r'.drop 2 = r.drop 2 ∧ r'.length = r.length ∧ (refsLtL 0 r = true → refsLtL 0 r' = true) := by
  obtain ⟨lo, hi, l, rfl, h1, h2, h3, h4⟩ := h
  have pw : ∀ {k : Nat}, k < 64 → 2 ^ k < 18446744073709551616 := by
    intro k hk
    have : 2 ^ k < 2 ^ 64 := Nat.pow_lt_pow_right (by omega) hk
    simpa using this
  have orlt : ∀ {a b : Nat}, a < 18446744073709551616 → b < 18446744073709551616 → a ||| b < 18446744073709551616 := by
    intro a b ha hb
    have := Nat.or_lt_two_pow (n := 64) (by simpa using ha) (by simpa using hb)
    simpa using this
  have bit : ∀ {a k i : Nat}, (a ||| 2 ^ k).testBit i = (a.testBit i || decide (i = k)) := by
    intro a k i
    rw [Nat.testBit_or, Nat.testBit_two_pow]
    congr 1
    exact decide_eq_decide.2 ⟨fun h => h.symm, fun h => h.symm⟩
  by_cases hs : n < 64
  · refine ⟨.int .u64 ((lo ||| 2 ^ n : Nat) : Int) :: .int .u64 hi :: l, ?_, ⟨_, hi, l, rfl, orlt h1 (pw hs), h2, fun i hi => ?_, fun i hi => ?_⟩, rfl, rfl, fun h => h⟩
    · apply Gets.get
      refine setAdd_run _ _ ?_
      rw [decide_eq_true (show (n : Int) < 64 by omega)]
      simp only [cond_true, get?Internal_eq, List.getElem?_cons_zero, kOptSome, kInt_int, shl_one hs, or_bits h1 (pw hs)]
      exact ⟨_, rfl, rfl⟩
    · rw [bit, h3 i hi]
    · have : decide (i + 64 = n) = false := decide_eq_false (by omega)
      rw [h4 i hi]
      show p (i + 64) = (p (i + 64) || decide (i + 64 = n))
      rw [this, Bool.or_false]
  · obtain ⟨k, rfl⟩ : ∃ k, n = k + 64 := ⟨n - 64, by omega⟩
    have hk : k < 64 := by omega
    have w : IntKind.wrap .i64 (((k + 64 : Nat) : Int) - 64) = (k : Int) := by rw [wrap64 (by omega) (by omega)]; omega
    refine ⟨.int .u64 lo :: .int .u64 ((hi ||| 2 ^ k : Nat) : Int) :: l, ?_, ⟨lo, _, l, rfl, h1, orlt h2 (pw hk), fun i hi => ?_, fun i hi => ?_⟩, rfl, rfl, fun h => h⟩
    · apply Gets.get
      refine setAdd_run _ _ ?_
      rw [decide_eq_false (show ¬ ((k + 64 : Nat) : Int) < 64 by omega), w]
      simp only [cond_false, get?Internal_eq, List.getElem?_cons_succ, List.getElem?_cons_zero, kOptSome, kInt_int, shl_one hk, or_bits h2 (pw hk)]
      exact ⟨_, rfl, rfl⟩
    · have : decide (i = k + 64) = false := decide_eq_false (by omega)
      rw [h3 i hi]
      show p i = (p i || decide (i = k + 64))
      rw [this, Bool.or_false]
    · rw [bit, h4 i hi]
      congr 1
      exact decide_eq_decide.2 (by omega)
end Go.Proofs.Ytonmmmgffeoiiaa
end

section
namespace Go.Proofs.Ytonmmmgffeoiiaa
open Go.Av
set_option maxRecDepth 100000
set_option maxHeartbeats 0

noncomputable def Lr59_0 : Den := evC cfg (EV cfg) 37 none 1 (sub (bodyOf Try.f37) [1, 1, 1, 0, 1, 0, 0])
noncomputable def Ar59_0 (B : List (List AV)) (n : Int) : Ex × List AV × AH → Option AV := kAft (Cfg.keepOut cfg 37 (firstRid (sub (bodyOf Try.f37) [1, 1, 1, 0, 1, 0, 0]))) (kBlock 0 (kSeq (fun (fr : List AV) (H : AH) => kCutTo (Cfg.cut cfg 37 (firstRid (sub (bodyOf Try.f37) [1, 1, 1, 1]))) fr H fun (fr : List AV) (H : AH) => kCode cfg (EV cfg) (kfN cfg (5)) 37 none 1 (sub (bodyOf Try.f37) [1, 1, 1, 1]) fr H (kFinG cfg (Cfg.lift cfg 37 0) (fun (v : AV) (H : AH) => (fun (r : AV × AH) => kOpt (impRes none 1 (Prod.fst r) (Prod.snd r)) fun (r : AV × AH) => kTy noTy cfg (Oper.type { dst := some 8, op := Op.call { callee := Callee.value (Operand.func 37), args := #[Operand.tmp 7], argTypes := #[32] }, type := 65, pos := "pattern.go:188", after := #[{ on := 0, ground := Ground.data }], guard := none }) (Prod.fst r) fun (v : AV) => (fun (v : AV) (H' : AH) => kOps cfg (EV cfg) (kfN cfg 6) 69 1 (opsOf (sub (bodyOf Try.f69) [1, 0])) (0 + 1 + 1) (List.drop 2 (Array.toList (opsOf (sub (bodyOf Try.f69) [1, 0])))) (put (fx 35 [(0, AV.sl B), (1, AV.int IntKind.i64 n), (4, AV.ptr 0 0 0), (5, AV.bool false), (7, AV.sl B)]) (some 8) v) H' fun (fr' : List AV) (H' : AH) => kSeq (fun (fr : List AV) (H : AH) => kCutTo (Cfg.cut cfg 69 (firstRid (sub (bodyOf Try.f69) [1, 1]))) fr H fun (fr : List AV) (H : AH) => kCode cfg (EV cfg) (kfN cfg 6) 69 none 0 (sub (bodyOf Try.f69) [1, 1]) fr H (kFinF cfg (Cfg.lift cfg 69 0) (Array.toList (Func.results Try.f69)))) (kFinF cfg (Cfg.lift cfg 69 0) (Array.toList (Func.results Try.f69))) Ex.normal fr' H') v (Prod.snd r)) (v, H)) (Array.toList (Func.results (Prod.snd (37, Try.f37)))))) (kFinG cfg (Cfg.lift cfg 37 0) (fun (v : AV) (H : AH) => (fun (r : AV × AH) => kOpt (impRes none 1 (Prod.fst r) (Prod.snd r)) fun (r : AV × AH) => kTy noTy cfg (Oper.type { dst := some 8, op := Op.call { callee := Callee.value (Operand.func 37), args := #[Operand.tmp 7], argTypes := #[32] }, type := 65, pos := "pattern.go:188", after := #[{ on := 0, ground := Ground.data }], guard := none }) (Prod.fst r) fun (v : AV) => (fun (v : AV) (H' : AH) => kOps cfg (EV cfg) (kfN cfg 6) 69 1 (opsOf (sub (bodyOf Try.f69) [1, 0])) (0 + 1 + 1) (List.drop 2 (Array.toList (opsOf (sub (bodyOf Try.f69) [1, 0])))) (put (fx 35 [(0, AV.sl B), (1, AV.int IntKind.i64 n), (4, AV.ptr 0 0 0), (5, AV.bool false), (7, AV.sl B)]) (some 8) v) H' fun (fr' : List AV) (H' : AH) => kSeq (fun (fr : List AV) (H : AH) => kCutTo (Cfg.cut cfg 69 (firstRid (sub (bodyOf Try.f69) [1, 1]))) fr H fun (fr : List AV) (H : AH) => kCode cfg (EV cfg) (kfN cfg 6) 69 none 0 (sub (bodyOf Try.f69) [1, 1]) fr H (kFinF cfg (Cfg.lift cfg 69 0) (Array.toList (Func.results Try.f69)))) (kFinF cfg (Cfg.lift cfg 69 0) (Array.toList (Func.results Try.f69))) Ex.normal fr' H') v (Prod.snd r)) (v, H)) (Array.toList (Func.results (Prod.snd (37, Try.f37)))))))
noncomputable def Wr59_0 (B : List (List AV)) (n : Int) : List AV × AH → Option AV := fun (p : List AV × AH) => kOpt (LOOP 1 (some [3, 4, 9, 10, 11]) [] Lr59_0 p) (Ar59_0 B n)
noncomputable abbrev wr59_0 (B : List (List AV)) (n : Int) (v4 : Int) (v11 : Int) (c0_0 : Int) (c0_1 : Int) (c0_2 : List UInt8) (c0_3 : List (List AV)) (c1r0 : List AV) : Option (AV) := Wr59_0 (B) (n) (((fx 48 [(3, AV.ptr (1 : Nat) (0 : Nat) (0 : Nat)), (4, AV.int IntKind.i64 v4), (9, AV.sl B), (10, AV.int IntKind.i64 (↑(List.length B) : Int)), (11, AV.int IntKind.i64 v11)]) : List AV), ([ABlk.rows false (4 : Nat) [[AV.int IntKind.i64 c0_0, AV.int IntKind.i64 c0_1, AV.str c0_2, AV.sl c0_3]], ABlk.rows true (402 : Nat) [c1r0]] : AH))
noncomputable abbrev wr59_0a (B : List (List AV)) (n : Int) (n' : Int) (n'' : Int) (n''' : Int) (s : List UInt8) (rows : List (List AV)) (q : MV × List (List AV)) (row : List AV) (v4 : Int) (v11 : Int) (c0_0 : Int) (c0_1 : Int) (c0_2 : List UInt8) (c0_3 : List (List AV)) : Option (AV) := Wr59_0 (B) (n) (((fx 48 [(3, AV.ptr (1 : Nat) (0 : Nat) (0 : Nat)), (4, AV.int IntKind.i64 v4), (9, AV.sl B), (10, AV.int IntKind.i64 (↑(List.length B) : Int)), (11, AV.int IntKind.i64 v11)]) : List AV), ([ABlk.rows false (4 : Nat) [[AV.int IntKind.i64 c0_0, AV.int IntKind.i64 c0_1, AV.str c0_2, AV.sl c0_3]], ABlk.rows true (402 : Nat) (List.set q.2 (0 : Nat) (List.append (List.append (List.take ((2 : Nat) + Int.toNat n' * (4 : Nat)) row) [AV.int IntKind.i64 n'', AV.int IntKind.i64 n''', AV.str s, AV.sl rows]) (List.drop ((2 : Nat) + Int.toNat n' * (4 : Nat) + (4 : Nat)) row)))] : AH))
theorem patFind_run (B : List (List AV)) (n : Int) {P : AV → Prop} (h : Gets (wr59_0 B n (-1 : Int) (0 : Int) (0 : Int) (0 : Int) [] [] [AV.int .u64 (0 : Int), .int .u64 (0 : Int), .int .i64 (0 : Int), .int .i64 (0 : Int), .str [], .nilS, .int .i64 (0 : Int), .int 
  .i64 (0 : Int), .str [], .nilS, .int .i64 (0 : Int), .int .i64 (0 : Int), .str [], .nilS, .int .i64 (0 : Int), .int .i64 (0 : Int), .str [], .nilS, .int .i64 (0 : Int), .int .i64 (0 
  : Int), .str [], .nilS, .int .i64 (0 : Int), .int .i64 (0 : Int), .str [], .nilS, .int .i64 (0 : Int), .int .i64 (0 : Int), .str [], .nilS, .int .i64 (0 : Int), .int .i64 (0 : Int), 
  .str [], .nilS, .int .i64 (0 : Int), .int .i64 (0 : Int), .str [], .nilS, .int .i64 (0 : Int), .int .i64 (0 : Int), .str [], .nilS, .int .i64 (0 : Int), .int .i64 (0 : Int), .str [], 
  .nilS, .int .i64 (0 : Int), .int .i64 (0 : Int), .str [], .nilS, .int .i64 (0 : Int), .int .i64 (0 : Int), .str [], .nilS, .int .i64 (0 : Int), .int .i64 (0 : Int), .str [], .nilS, 
  .int .i64 (0 : Int), .int .i64 (0 : Int), .str [], .nilS, .int .i64 (0 : Int), .int .i64 (0 : Int), .str [], .nilS, .int .i64 (0 : Int), .int .i64 (0 : Int), .str [], .nilS, .int .i64 
  (0 : Int), .int .i64 (0 : Int), .str [], .nilS, .int .i64 (0 : Int), .int .i64 (0 : Int), .str [], .nilS, .int .i64 (0 : Int), .int .i64 (0 : Int), .str [], .nilS, .int .i64 (0 : Int), 
  .int .i64 (0 : Int), .str [], .nilS, .int .i64 (0 : Int), .int .i64 (0 : Int), .str [], .nilS, .int .i64 (0 : Int), .int .i64 (0 : Int), .str [], .nilS, .int .i64 (0 : Int), .int .i64 
  (0 : Int), .str [], .nilS, .int .i64 (0 : Int), .int .i64 (0 : Int), .str [], .nilS, .int .i64 (0 : Int), .int .i64 (0 : Int), .str [], .nilS, .int .i64 (0 : Int), .int .i64 (0 : Int), 
  .str [], .nilS, .int .i64 (0 : Int), .int .i64 (0 : Int), .str [], .nilS, .int .i64 (0 : Int), .int .i64 (0 : Int), .str [], .nilS, .int .i64 (0 : Int), .int .i64 (0 : Int), .str [], 
  .nilS, .int .i64 (0 : Int), .int .i64 (0 : Int), .str [], .nilS, .int .i64 (0 : Int), .int .i64 (0 : Int), .str [], .nilS, .int .i64 (0 : Int), .int .i64 (0 : Int), .str [], .nilS, 
  .int .i64 (0 : Int), .int .i64 (0 : Int), .str [], .nilS, .int .i64 (0 : Int), .int .i64 (0 : Int), .str [], .nilS, .int .i64 (0 : Int), .int .i64 (0 : Int), .str [], .nilS, .int .i64 
  (0 : Int), .int .i64 (0 : Int), .str [], .nilS, .int .i64 (0 : Int), .int .i64 (0 : Int), .str [], .nilS, .int .i64 (0 : Int), .int .i64 (0 : Int), .str [], .nilS, .int .i64 (0 : Int), 
  .int .i64 (0 : Int), .str [], .nilS, .int .i64 (0 : Int), .int .i64 (0 : Int), .str [], .nilS, .int .i64 (0 : Int), .int .i64 (0 : Int), .str [], .nilS, .int .i64 (0 : Int), .int .i64 
  (0 : Int), .str [], .nilS, .int .i64 (0 : Int), .int .i64 (0 : Int), .str [], .nilS, .int .i64 (0 : Int), .int .i64 (0 : Int), .str [], .nilS, .int .i64 (0 : Int), .int .i64 (0 : Int), 
  .str [], .nilS, .int .i64 (0 : Int), .int .i64 (0 : Int), .str [], .nilS, .int .i64 (0 : Int), .int .i64 (0 : Int), .str [], .nilS, .int .i64 (0 : Int), .int .i64 (0 : Int), .str [], 
  .nilS, .int .i64 (0 : Int), .int .i64 (0 : Int), .str [], .nilS, .int .i64 (0 : Int), .int .i64 (0 : Int), .str [], .nilS, .int .i64 (0 : Int), .int .i64 (0 : Int), .str [], .nilS, 
  .int .i64 (0 : Int), .int .i64 (0 : Int), .str [], .nilS, .int .i64 (0 : Int), .int .i64 (0 : Int), .str [], .nilS, .int .i64 (0 : Int), .int .i64 (0 : Int), .str [], .nilS, .int .i64 
  (0 : Int), .int .i64 (0 : Int), .str [], .nilS, .int .i64 (0 : Int), .int .i64 (0 : Int), .str [], .nilS, .int .i64 (0 : Int), .int .i64 (0 : Int), .str [], .nilS, .int .i64 (0 : Int), 
  .int .i64 (0 : Int), .str [], .nilS, .int .i64 (0 : Int), .int .i64 (0 : Int), .str [], .nilS, .int .i64 (0 : Int), .int .i64 (0 : Int), .str [], .nilS, .int .i64 (0 : Int), .int .i64 
  (0 : Int), .str [], .nilS, .int .i64 (0 : Int), .int .i64 (0 : Int), .str [], .nilS, .int .i64 (0 : Int), .int .i64 (0 : Int), .str [], .nilS, .int .i64 (0 : Int), .int .i64 (0 : Int), 
  .str [], .nilS, .int .i64 (0 : Int), .int .i64 (0 : Int), .str [], .nilS, .int .i64 (0 : Int), .int .i64 (0 : Int), .str [], .nilS, .int .i64 (0 : Int), .int .i64 (0 : Int), .str [], 
  .nilS, .int .i64 (0 : Int), .int .i64 (0 : Int), .str [], .nilS, .int .i64 (0 : Int), .int .i64 (0 : Int), .str [], .nilS, .int .i64 (0 : Int), .int .i64 (0 : Int), .str [], .nilS, 
  .int .i64 (0 : Int), .int .i64 (0 : Int), .str [], .nilS, .int .i64 (0 : Int), .int .i64 (0 : Int), .str [], .nilS, .int .i64 (0 : Int), .int .i64 (0 : Int), .str [], .nilS, .int .i64 
  (0 : Int), .int .i64 (0 : Int), .str [], .nilS, .int .i64 (0 : Int), .int .i64 (0 : Int), .str [], .nilS, .int .i64 (0 : Int), .int .i64 (0 : Int), .str [], .nilS, .int .i64 (0 : Int), 
  .int .i64 (0 : Int), .str [], .nilS, .int .i64 (0 : Int), .int .i64 (0 : Int), .str [], .nilS, .int .i64 (0 : Int), .int .i64 (0 : Int), .str [], .nilS, .int .i64 (0 : Int), .int .i64 
  (0 : Int), .str [], .nilS, .int .i64 (0 : Int), .int .i64 (0 : Int), .str [], .nilS, .int .i64 (0 : Int), .int .i64 (0 : Int), .str [], .nilS, .int .i64 (0 : Int), .int .i64 (0 : Int), 
  .str [], .nilS, .int .i64 (0 : Int), .int .i64 (0 : Int), .str [], .nilS, .int .i64 (0 : Int), .int .i64 (0 : Int), .str [], .nilS, .int .i64 (0 : Int), .int .i64 (0 : Int), .str [], 
  .nilS, .int .i64 (0 : Int), .int .i64 (0 : Int), .str [], .nilS, .int .i64 (0 : Int), .int .i64 (0 : Int), .str [], .nilS, .int .i64 (0 : Int), .int .i64 (0 : Int), .str [], .nilS, 
  .int .i64 (0 : Int), .int .i64 (0 : Int), .str [], .nilS, .int .i64 (0 : Int), .int .i64 (0 : Int), .str [], .nilS, .int .i64 (0 : Int), .int .i64 (0 : Int), .str [], .nilS, .int .i64 
  (0 : Int), .int .i64 (0 : Int), .str [], .nilS, .int .i64 (0 : Int), .int .i64 (0 : Int), .str [], .nilS, .int .i64 (0 : Int), .int .i64 (0 : Int), .str [], .nilS, .int .i64 (0 : Int), 
  .int .i64 (0 : Int), .str [], .nilS, .int .i64 (0 : Int), .int .i64 (0 : Int), .str [], .nilS, .int .i64 (0 : Int), .int .i64 (0 : Int), .str [], .nilS, .int .i64 (0 : Int), .int .i64 
  (0 : Int), .str [], .nilS]) P) : Gets (EVf (EV cfg) 69 ([AV.sl B, AV.int IntKind.i64 n] : List AV)) P :=
  Gets.ev (fun _ h => funF rfl rfl Try.func69 rfl h) (Gets.eq (by kernel_rfl) h)
theorem wr59_0_step (B : List (List AV)) (n : Int) (v4 : Int) (v11 : Int) (c0_0 : Int) (c0_1 : Int) (c0_2 : List UInt8) (c0_3 : List (List AV)) (c1r0 : List AV) {P : AV → Prop} (h : Gets (bif decide (v11 < (↑(List.length B) : Int)) then bif leInt (0 : Int) v11 && ltInt v11 (↑(List.length B) : Int) then kOpt (List.get?Internal B (Int.toNat v11)) fun (row : List AV) => 
  bif Nat.beq (List.length row) 5 then bif Nat.ble 5 (List.length row) then kCons (List.take 5 row) fun (c : AV) (cs : List AV) => kInt .i64 c fun (n_1 : Int) => kTmC cs fun (n_2 n_3 
  : Int) (s : List UInt8) (rows : List (List AV)) => (bif decide (n_1 ≤ v4) then some (AV.tup [.agg [AV.int .i64 (0 : Int), .int .i64 (0 : Int), .str [], .sl []], .bool false]) else bif 
  decide (n_1 > (99 : Int)) then some (AV.tup [.agg [AV.int .i64 (0 : Int), .int .i64 (0 : Int), .str [], .sl []], .bool false]) else kOpt (EVs (EV cfg) 38 [.agg [AV.int .i64 n_2, .int .i64 
  n_3, .str s, .sl rows]]) fun (v : AV) => kBool v fun (b : Bool) => bif !b then some (AV.tup [.agg [AV.int .i64 (0 : Int), .int .i64 (0 : Int), .str [], .sl []], .bool false]) else kOpt 
  (EVm (EV cfg) 51 [.ptr 0 0 0, .int .i64 n_1] 402 [c1r0]) fun (q : MV × List (List AV)) => kMUnit q.1 (bif leInt (0 : Int) n_1 && ltInt n_1 (100 : Int) then kOpt (List.get?Internal q.2 
  0) fun (row : List AV) => bif Nat.ble (2 + Int.toNat n_1 * 4 + 4) (List.length row) then wr59_0a B n n_1 n_2 n_3 s rows q row n_1 (IntKind.wrap .i64 (v11 + (1 : Int))) c0_0 c0_1 c0_2 
  c0_3 else none else none)) else none else none else none else bif decide (n < (0 : Int)) then some (AV.tup [.agg [AV.int .i64 (0 : Int), .int .i64 (0 : Int), .str [], .sl []], .bool false]) 
  else bif decide (n > (99 : Int)) then some (AV.tup [.agg [AV.int .i64 (0 : Int), .int .i64 (0 : Int), .str [], .sl []], .bool false]) else bif refsLtL 0 c1r0 then bif refsLtL 0 [AV.cptr 
  c1r0 0, .int .i64 n] then kOpt (EVs (EV cfg) 53 [AV.cptr c1r0 0, .int .i64 n]) fun (v : AV) => kBool v fun (b : Bool) => bif !b then some (AV.tup [.agg [AV.int .i64 (0 : Int), .int .i64 
  (0 : Int), .str [], .sl []], .bool false]) else bif leInt (0 : Int) n && ltInt n (100 : Int) then bif Nat.ble (2 + Int.toNat n * 4 + 4) (List.length c1r0) then kCons (List.take 4 (List.drop 
  (2 + Int.toNat n * 4) c1r0)) fun (c : AV) (cs : List AV) => kInt .i64 c fun (n : Int) => kCons cs fun (c : AV) (cs : List AV) => kInt .i64 c fun (n_1 : Int) => kCons cs fun (c : AV) 
  (cs : List AV) => kStr c fun (s : List UInt8) => kCons cs fun (c : AV) (cs : List AV) => kSl c fun (rows : List (List AV)) => kNil cs (kOpt (EVf (EV cfg) 29 [.agg [AV.int .i64 n, .int 
  .i64 n_1, .str s, .sl rows]]) fun (v : AV) => kTmV v fun (n n_2 : Int) (s : List UInt8) (rows : List (List AV)) => (some (AV.tup [.agg [AV.int .i64 n, .int .i64 n_2, .str s, .sl rows], 
  .bool true]))) else none else none else none else none) P) : Gets (wr59_0 B n v4 v11 c0_0 c0_1 c0_2 c0_3 c1r0) P :=
  Gets.ev (fun _ h => loop_step (cfg := cfg) (f := 37) (rd := none) (bs := 1) h) (Gets.eq (by kernel_rfl) h)
end Go.Proofs.Ytonmmmgffeoiiaa
end

section
namespace Go.Proofs.Ytonmmmgffeoiiaa
open Go.Av
set_option maxRecDepth 100000
def findR (o : Option Tm) : AV := match o with | some t => .tup [t.av, .bool true] | none => .tup [zeroT.av, .bool false]
theorem find_end {L : List (Int × Tm)} {n last : Int} {r : List AV} (hm : mayB (-1) L = true) (hr : BRow L r) (hok : ∀ p ∈ L, p.2.Ok) : Gets (wr59_0 (bindsR L) n last L.length 0 0 [] [] r) (· = findR (findG n L)) := by
  have hz : AV.agg [.int .i64 0, .int .i64 0, .str [], .sl []] = zeroT.av := zeroT_av.symm
  unfold findG
  rw [if_pos hm]
  refine wr59_0_step _ _ _ _ _ _ _ _ _ ?_
  rw [bindsR_len, decide_eq_false (show ¬ (L.length : Int) < (L.length : Int) by omega), cond_false, hz]
  by_cases h1 : n < 0
  · have : lookB n L = none := by
      cases hx : lookB n L with
      | none => rfl
      | some t => have := mayB_range hm _ (lookB_mem hx); simp at this; omega
    rw [decide_eq_true h1, this]; exact ⟨_, rfl, rfl⟩
  · rw [decide_eq_false h1, cond_false]
    by_cases h2 : n > 99
    · have : lookB n L = none := by
        cases hx : lookB n L with
        | none => rfl
        | some t => have := mayB_range hm _ (lookB_mem hx); simp at this; omega
      rw [decide_eq_true h2, this]; exact ⟨_, rfl, rfl⟩
    · rw [decide_eq_false h2, cond_false]
      obtain ⟨k, rfl⟩ : ∃ k : Nat, n = k := ⟨n.toNat, by omega⟩
      have hk : k < 100 := by omega
      have hf2 : refsLtL 0 [AV.cptr r 0, .int .i64 (k : Int)] = true := by simp [refsLtL, AV.refsLt, hr.free]
      rw [hr.free, hf2, setHas_ev hr.set hk]
      simp only [cond_true, kOptSome, kBool_bool]
      cases hx : lookB (k : Int) L with
      | none => exact ⟨_, rfl, rfl⟩
      | some t =>
        have hc := hr.cells k hk t hx
        have hcopy := copy_ev (hok _ (lookB_mem hx))
        have hb : Nat.ble (2 + (k : Int).toNat * 4 + 4) r.length = true := by rw [Nat.ble_eq, hr.len]; omega
        have hl2 : ltInt (k : Int) 100 = true := by simp [ltInt]; omega
        rw [leInt_zero, hl2, hb, Int.toNat_natCast, hc, Tm.cells_eq]
        simp only [Option.isSome_some, Bool.not_true, cond_false, cond_true, Bool.and_self, kCons, kInt_int, kStr_str, kSl_sl, kNil, av_unf]
        rw [hcopy]
        simp only [kOptSome, kTmV_av, av_unf]
        exact ⟨_, rfl, rfl⟩
theorem find_loop {L : List (Int × Tm)} {n : Int} (hlen : L.length < 1099511627776) (hw : ∀ p ∈ L, p.2.w < 1099511627776) : ∀ (d i : Nat) (last : Int) (r : List AV), i + d = L.length → -1 ≤ last →
    (mayB (-1) L = mayB last (L.drop i)) → (∀ p ∈ L.take i, p.1 ≤ last) → BRow (L.take i) r → Gets (wr59_0 (bindsR L) n last i 0 0 [] [] r) (· = findR (findG n L)) := by
  have hok : ∀ p ∈ L, p.2.Ok := fun p hp => ok_of_w _ (hw p hp)
  have hz : AV.agg [.int .i64 0, .int .i64 0, .str [], .sl []] = zeroT.av := zeroT_av.symm
  intro d
  induction d with
  | zero =>
    intro i last r hi _ hm _ hr
    obtain rfl : i = L.length := by omega
    rw [List.take_of_length_le (Nat.le_refl _)] at hr
    have hm' : mayB (-1) L = true := by rw [hm, List.drop_eq_nil_of_le (Nat.le_refl _)]; rfl
    exact find_end hm' hr hok
  | succ d ih =>
    intro i last r hi hlast hm hkeys hr
    have hil : i < L.length := by omega
    have hx : L[i]? = some L[i] := List.getElem?_eq_getElem hil
    have hd : L.drop i = L[i] :: L.drop (i + 1) := List.drop_eq_getElem_cons hil
    have ht : L.take (i + 1) = L.take i ++ [L[i]] := by rw [List.take_add_one, hx]; rfl
    have hmem := List.mem_of_getElem? hx
    have hmay := patMay_ev (hw _ hmem)
    rw [hd] at hm
    generalize hp : L[i] = p at *
    obtain ⟨pn, pt⟩ := p
    simp only at hmay
    refine wr59_0_step _ _ _ _ _ _ _ _ _ ?_
    rw [bindsR_len, decide_eq_true (show (i : Int) < (L.length : Int) by omega), leInt_zero, ltInt_nat, decide_eq_true hil, get?Internal_eq, Int.toNat_natCast, bindsR_get, hx, wrap_succ hil hlen]
    simp only [cond_true, Bool.and_self, Option.map_some, kOptSome, List.length_cons, length_cells, Nat.beq_refl, show Nat.ble (4 + 1) (4 + 1) = true from rfl, show Nat.ble 5 (4 + 1) = true from rfl, show Nat.beq (4 + 1) 5 = true from rfl]
    have htk : List.take 5 (AV.int .i64 pn :: pt.cells) = AV.int .i64 pn :: pt.cells := List.take_of_length_le (by simp)
    rw [htk]
    simp only [kCons, kInt_int, kTmC_cells, av_unf]
    rw [hmay]
    have none_of : mayB (-1) L = false → findR (findG n L) = .tup [zeroT.av, .bool false] := fun h => by unfold findG; rw [h]; rfl
    rw [hz]
    by_cases h1 : pn ≤ last
    · rw [decide_eq_true h1]
      refine ⟨_, rfl, (none_of ?_).symm⟩
      rw [hm, mayB, decide_eq_false (by show ¬ last < pn; omega), Bool.false_and]
    · rw [decide_eq_false h1, cond_false]
      by_cases h2 : pn > 99
      · rw [decide_eq_true h2]
        refine ⟨_, rfl, (none_of ?_).symm⟩
        rw [hm, mayB, decide_eq_false (show ¬ (pn, pt).1 ≤ 99 by show ¬ pn ≤ 99; omega), Bool.false_and, Bool.and_false]
      · rw [decide_eq_false h2, cond_false]
        by_cases h3 : pt.chk = 0
        · obtain ⟨k, rfl⟩ : ∃ k : Nat, pn = k := ⟨pn.toNat, by omega⟩
          have hk : k < 100 := by omega
          obtain ⟨r', e1, e2, e3, e4, e5⟩ := setAdd_ev hr.set hk
          have hnew : lookB (k : Int) (L.take i) = none := by
            cases hx : lookB (k : Int) (L.take i) with
            | none => rfl
            | some t => have := hkeys _ (lookB_mem hx); simp at this; omega
          have hadd := hr.add (t := pt) hk hnew e2 e3 e4 e5
          have hb : Nat.ble (2 + (k : Int).toNat * 4 + 4) r'.length = true := by rw [Nat.ble_eq, e4, hr.len]; omega
          have hl2 : ltInt (k : Int) 100 = true := by simp [ltInt]; omega
          have := ih (i + 1) k _ (by omega) (by omega) (by rw [hm, mayB, decide_eq_true (show last < (k : Int) by omega), decide_eq_true (show ((k : Int)) ≤ 99 by omega), decide_eq_true h3]; rfl)
            (fun p hpm => by
              rw [ht] at hpm
              rcases List.mem_append.1 hpm with h | h
              · have := hkeys p h; omega
              · simp at h; subst h; exact Int.le_refl _) (by rw [ht]; exact hadd)
          simp only [kOptSome, kBool_bool, decide_eq_true h3, Bool.not_true, cond_false, e1, kMUnit_unit, leInt_zero, hl2, Bool.and_self, cond_true, get?Internal_eq, List.getElem?_cons_zero, hb]
          rw [Tm.cells_eq] at this
          exact this
        · simp only [kOptSome, kBool_bool, decide_eq_false h3, Bool.not_false, cond_true]
          refine ⟨_, rfl, (none_of ?_).symm⟩
          rw [hm, mayB, decide_eq_false (show ¬ (((pn, pt) : Int × Tm).2).chk = 0 from h3), Bool.false_and, Bool.and_false, Bool.and_false]
theorem zeroRow : BRow [] ([AV.int .u64 0, .int .u64 0] ++ (List.replicate 100 [AV.int .i64 0, .int .i64 0, .str [], .nilS]).flatten) where
  len := by decide +kernel
  set := ⟨0, 0, _, rfl, by omega, by omega, fun n _ => by simp [lookB], fun n _ => by simp [lookB]⟩
  cells := fun i _ t h => by simp [lookB] at h
  free := by decide +kernel
theorem patFind_ev {L : List (Int × Tm)} (hlen : L.length < 1099511627776) (hw : ∀ p ∈ L, p.2.w < 1099511627776) (n : Int) : EVf (EV cfg) 69 [.sl (bindsR L), .int .i64 n] = some (findR (findG n L)) := by
  apply Gets.get
  refine patFind_run _ _ ?_
  have h := find_loop (n := n) hlen hw L.length 0 (-1) _ (by omega) (by omega) rfl (fun p hp => by simp at hp) zeroRow
  refine Gets.eq ?_ h
  kernel_rfl
end Go.Proofs.Ytonmmmgffeoiiaa
end

section
namespace Go.Proofs.Ytonmmmgffeoiiaa
open Go.Av
def mayR (last : Int) (pre : List Int) (L : List (Int × Tm)) (o : Tm) (self : Int) : AV :=
  if mayB last L then .tup [.sl (intsR (pre ++ L.map (·.1))), .bool (decide (o.chk = 0) && selfG self)] else .tup [.sl [], .bool false]
def envR (o : Tm) (L : List (Int × Tm)) (self : Int) : AV := .agg [.int .i64 o.kind, .int .i64 o.num, .str o.str, .sl (rowsT o.subs), .sl (bindsR L), .int .i64 self]
theorem fits8 {n : Nat} (h : n ≤ 1099511627776) : fitsIn n 8 = true := by
  unfold fitsIn
  rw [Bool.and_eq_true, Nat.ble_eq, Nat.ble_eq]
  omega
theorem guardMay_ev {L : List (Int × Tm)} (hlen : L.length < 1099511627776) (hw : ∀ p ∈ L, p.2.w < 1099511627776) {o : Tm} (ho : o.w < 1099511627776) (self : Int) :
    EVf (EV cfg) 62 [envR o L self] = some (mayR (-1) [] L o self) := by
  have hco := check_ev ho
  rw [Tm.av, Tm.cells_eq] at hco
  have loop : ∀ (d i : Nat) (last : Int), i + d = L.length → Gets (ws41_0 (bindsR L) i last i o.kind o.num o.str (rowsT o.subs) (bindsR L) self (intsR ((L.take i).map (·.1)))) (· = mayR last ((L.take i).map (·.1)) (L.drop i) o self) := by
    intro d
    induction d with
    | zero =>
      intro i last hi
      refine ws41_0_step _ _ _ _ _ _ _ _ _ _ _ ?_
      obtain rfl : i = L.length := by omega
      have hb : Nat.ble (0 + L.length) (intsR ((L.take L.length).map (·.1))).length = true := by rw [Nat.ble_eq, intsR_len, List.length_map, List.length_take]; omega
      have ht : List.take L.length (intsR ((L.take L.length).map (·.1))) = intsR ((L.take L.length).map (·.1)) := List.take_of_length_le (by rw [intsR_len, List.length_map, List.length_take]; omega)
      rw [bindsR_len, decide_eq_false (by omega), List.drop_eq_nil_of_le (Nat.le_refl _), hco, self_ev]
      unfold mayR
      simp only [cond_false, kOptSome, kInt_int, kBool_bool, beqI, cond_true, mayB, if_true, List.map_nil, List.append_nil, hb, ht, Bool.and_true]
      by_cases hc : o.chk = 0
      · rw [decide_eq_true hc]; exact ⟨_, rfl, rfl⟩
      · rw [decide_eq_false hc]; exact ⟨_, rfl, rfl⟩
    | succ d ih =>
      intro i last hi
      refine ws41_0_step _ _ _ _ _ _ _ _ _ _ _ ?_
      have hil : i < L.length := by omega
      have hx : L[i]? = some L[i] := List.getElem?_eq_getElem hil
      have hd : L.drop i = L[i] :: L.drop (i + 1) := List.drop_eq_getElem_cons hil
      have hck := check_ev (hw L[i] (List.mem_of_getElem? hx))
      have h := ih (i + 1) L[i].1 (by omega)
      have e1 : (L.take (i + 1)).map (·.1) = (L.take i).map (·.1) ++ [L[i].1] := by
        have ht : L.take (i + 1) = L.take i ++ [L[i]] := by rw [List.take_add_one, hx]; rfl
        rw [ht, List.map_append]; rfl
      have hl0 : (intsR ((L.take i).map (·.1))).length = i := by rw [intsR_len, List.length_map, List.length_take]; omega
      have e2 : List.append (List.take i (intsR ((L.take i).map (·.1)))) [[AV.int .i64 L[i].1]] = intsR ((L.take (i + 1)).map (·.1)) := by
        rw [List.take_of_length_le (by omega), e1]; simp [intsR]
      have e3 : Nat.ble (0 + i) (intsR ((L.take i).map (·.1))).length = true := by rw [hl0, Nat.ble_eq]; omega
      rw [bindsR_len, decide_eq_true (show (i : Int) < (L.length : Int) by omega), leInt_zero, ltInt_nat, decide_eq_true hil, get?Internal_eq, Int.toNat_natCast, bindsR_get, hx, wrap_succ hil hlen, hd]
      simp only [Option.map_some, cond_true, Bool.and_self, kOptSome, List.length_cons, length_cells, show Nat.beq (4 + 1) 5 = true from rfl, show Nat.ble 5 (4 + 1) = true from rfl, List.take_succ_cons, take_cells, kCons, kInt_int, kTmC_cells, av_unf, hck, e2, e3, fits8 (show i + 1 ≤ 1099511627776 by omega)]
      unfold mayR at h ⊢
      rw [mayB]
      by_cases h1 : last < L[i].1
      · rw [decide_eq_false (show ¬ L[i].1 ≤ last by omega), decide_eq_true h1, cond_false, Bool.true_and]
        by_cases h2 : L[i].1 ≤ 99
        · rw [decide_eq_false (show ¬ L[i].1 > 99 by omega), decide_eq_true h2, cond_false, Bool.true_and]
          by_cases h3 : L[i].2.chk = 0
          · have e0 : (L[i].2.chk != 0) = false := by rw [h3]; rfl
            rw [e0, decide_eq_true h3, cond_false, Bool.true_and]
            have e4 : (L.take (i + 1)).map (·.1) ++ (L.drop (i + 1)).map (·.1) = (L.take i).map (·.1) ++ (L[i] :: L.drop (i + 1)).map (·.1) := by rw [e1, List.append_assoc]; rfl
            rw [e4] at h
            exact h
          · have e0 : (L[i].2.chk != 0) = true := by simpa using h3
            rw [e0, decide_eq_false h3]; exact ⟨_, rfl, rfl⟩
        · rw [decide_eq_true (show L[i].1 > 99 by omega), decide_eq_false h2]; exact ⟨_, rfl, rfl⟩
      · rw [decide_eq_true (show L[i].1 ≤ last by omega), decide_eq_false h1]; exact ⟨_, rfl, rfl⟩
  apply Gets.get
  refine guardMay_run _ _ _ _ _ _ ?_
  have h := loop L.length 0 (-1) (by omega)
  exact h
end Go.Proofs.Ytonmmmgffeoiiaa
end

section
namespace Go.Proofs.Ytonmmmgffeoiiaa
open Go.Av
def wholeG (b : Bool) (t : Tm) : Option Tm := if b then none else if t.chk = 0 then some t else none
theorem mWhole_ev (e : Env) (b : Bool) {t : Tm} (h : t.w < 1099511627776) : Gets (EVd (EV cfg) 70 [.ptr 0 0 0, t.av] 7 (mR e b)) (Res e (wholeG b t)) := by
  have hc := check_ev h
  have hr := mRaise_ev e b
  unfold wholeG
  rw [Tm.av, Tm.cells_eq] at hc ⊢
  refine mWhole_run _ _ _ _ _ _ _ _ _ _ _ ?_
  rw [hc]
  cases b with
  | true =>
    rw [if_pos rfl, cond_true, hr]
    simp only [kOptSome, kTmV_av]
    rw [av_unf]; exact ret_true
  | false =>
    rw [if_neg (by simp), cond_false]
    simp only [kOptSome, kInt_int]
    by_cases h0 : t.chk = 0
    · have e0 : (t.chk != 0) = false := by rw [h0]; rfl
      rw [e0, if_pos h0, cond_false, av_unf]; exact ret_false
    · have e0 : (t.chk != 0) = true := by simpa using h0
      rw [e0, if_neg h0, cond_true, hr]
      simp only [kOptSome, kTmV_av]
      rw [av_unf]; exact ret_true
theorem mBound_ev {e : Env} (hlen : e.binds.length < 1099511627776) (b : Bool) : EVd (EV cfg) 71 [.ptr 0 0 0] 7 (mR e b) = some ((makeG (e.binds.map (·.2)) (.mk 8 0 [] [])).av, mR e b) := by
  have loop : ∀ (d i : Nat), i + d = e.binds.length → Gets (ws61_0 (bindsR e.binds) i i (mR e b) 0 0 [] [] (rowsT ((e.binds.take i).map (·.2)))) (· = ((makeG (e.binds.map (·.2)) (.mk 8 0 [] [])).av, mR e b)) := by
    intro d
    induction d with
    | zero =>
      intro i hi
      refine ws61_0_step _ _ _ _ _ _ _ _ _ ?_
      obtain rfl : i = e.binds.length := by omega
      have hb : Nat.ble (0 + e.binds.length) (rowsT ((e.binds.take e.binds.length).map (·.2))).length = true := by rw [Nat.ble_eq, rowsT_length, List.length_map, List.length_take]; omega
      have ht : List.take e.binds.length (rowsT ((e.binds.take e.binds.length).map (·.2))) = rowsT (e.binds.map (·.2)) := by
        rw [List.take_of_length_le (by rw [rowsT_length, List.length_map, List.length_take]; omega), List.take_length]
      have hm := makeList_ev (l := e.binds.map (·.2)) (by rw [List.length_map]; exact hlen) (.mk 8 0 [] [])
      rw [Tm.av_mk, rowsT_nil] at hm
      rw [bindsR_len, decide_eq_false (by omega)]
      simp only [cond_false, hb, Bool.and_true, cond_true, ht, hm, kOptSome, kTmV_av, av_unf]
      exact ⟨_, rfl, rfl⟩
    | succ d ih =>
      intro i hi
      refine ws61_0_step _ _ _ _ _ _ _ _ _ ?_
      have hil : i < e.binds.length := by omega
      have hx : e.binds[i]? = some e.binds[i] := List.getElem?_eq_getElem hil
      have h := ih (i + 1) (by omega)
      have e1 : (e.binds.take (i + 1)).map (·.2) = (e.binds.take i).map (·.2) ++ [e.binds[i].2] := by
        have ht : e.binds.take (i + 1) = e.binds.take i ++ [e.binds[i]] := by rw [List.take_add_one, hx]; rfl
        rw [ht, List.map_append]; rfl
      have hl0 : (rowsT ((e.binds.take i).map (·.2))).length = i := by rw [rowsT_length, List.length_map, List.length_take]; omega
      have e2 : List.append (List.take i (rowsT ((e.binds.take i).map (·.2)))) [e.binds[i].2.cells] = rowsT ((e.binds.take (i + 1)).map (·.2)) := by
        rw [List.take_of_length_le (by omega), e1, rowsT_append, rowsT_cons, rowsT_nil]; rfl
      have e3 : Nat.ble (0 + i) (rowsT ((e.binds.take i).map (·.2))).length = true := by rw [hl0, Nat.ble_eq]; omega
      rw [bindsR_len, decide_eq_true (show (i : Int) < (e.binds.length : Int) by omega), leInt_zero, ltInt_nat, decide_eq_true hil, get?Internal_eq, Int.toNat_natCast, bindsR_get, hx, wrap_succ hil hlen]
      simp only [Option.map_some, cond_true, Bool.and_self, kOptSome, List.length_cons, length_cells, show Nat.beq (4 + 1) 5 = true from rfl, show Nat.ble 5 (4 + 1) = true from rfl, List.take_succ_cons, take_cells, kCons, kInt_int, kTmC_cells, e3, fits56 (show i + 1 ≤ 1099511627776 by omega)]
      rw [← Tm.cells_eq, e2]
      exact h
  apply Gets.get
  refine mBound_run _ _ _ _ _ _ _ ?_
  exact loop e.binds.length 0 (by omega)
end Go.Proofs.Ytonmmmgffeoiiaa
end

section
namespace Go.Av
def valsG (f : Tm → Option Tm) : List Tm → Option (List Tm)
  | [] => some []
  | t :: l => (f t).bind fun x => (valsG f l).map (x :: ·)
def ResL (e : Env) (o : Option (List Tm)) (r : AV × List (List AV)) : Prop :=
  match o with
  | some ts => r = (.sl (rowsT ts), mR e false)
  | none => r.2 = mR e true ∧ ∃ ts : List Tm, r.1 = .sl (rowsT ts)
end Go.Av
namespace Go.Proofs.Ytonmmmgffeoiiaa
open Go.Av
theorem values_bad {e : Env} {l acc : List Tm} {i : Nat} (hi : i ≤ l.length) (ha : acc.length = i) : Gets (ws62_0 (rowsT l) i i (mR e true) (rowsT acc)) (ResL e none) := by
  refine ws62_0_step _ _ _ _ _ ?_
  by_cases hil : i < l.length
  · have hx : l[i]? = some l[i] := List.getElem?_eq_getElem hil
    rw [rowsT_length, decide_eq_true (show (i : Int) < (l.length : Int) by omega), leInt_zero, ltInt_nat, decide_eq_true hil, rowsT_at hx]
    simp only [cond_true, Bool.and_self, length_cells, Nat.beq_refl, take_cells, kTmC_cells, show Nat.ble 4 4 = true from rfl, kOptSome]
    exact ⟨_, rfl, rfl, [], by rw [rowsT_nil]⟩
  · have e3 : (Nat.ble (0 + i) (rowsT acc).length && true) = true := by rw [Bool.and_true, Nat.ble_eq, rowsT_length]; omega
    rw [rowsT_length, decide_eq_false (by omega), cond_false, e3, cond_true, List.take_of_length_le (by rw [rowsT_length]; omega)]
    exact ⟨_, rfl, rfl, acc, rfl⟩
theorem mValues_of {e : Env} {f : Tm → Option Tm} {l : List Tm} (hlen : l.length < 1099511627776) (ih : ∀ x ∈ l, Gets (EVd (EV cfg) 63 [.ptr 0 0 0, x.av] 7 (mR e false)) (Res e (f x))) :
    Gets (EVd (EV cfg) 72 [.ptr 0 0 0, .sl (rowsT l)] 7 (mR e false)) (ResL e (valsG f l)) := by
  have loop : ∀ (d i : Nat) (acc : List Tm), i + d = l.length → acc.length = i → Gets (ws62_0 (rowsT l) i i (mR e false) (rowsT acc)) (ResL e ((valsG f (l.drop i)).map (acc ++ ·))) := by
    intro d
    induction d with
    | zero =>
      intro i acc hi ha
      refine ws62_0_step _ _ _ _ _ ?_
      have e3 : (Nat.ble (0 + i) (rowsT acc).length && true) = true := by rw [Bool.and_true, Nat.ble_eq, rowsT_length]; omega
      rw [rowsT_length, decide_eq_false (by omega), cond_false, e3, cond_true, List.take_of_length_le (by rw [rowsT_length]; omega), List.drop_eq_nil_of_le (by omega)]
      refine ⟨_, rfl, ?_⟩
      show _ = (AV.sl (rowsT (acc ++ [])), mR e false)
      rw [List.append_nil]
    | succ d ihd =>
      intro i acc hi ha
      refine ws62_0_step _ _ _ _ _ ?_
      have hil : i < l.length := by omega
      have hx : l[i]? = some l[i] := List.getElem?_eq_getElem hil
      have hd : l.drop i = l[i] :: l.drop (i + 1) := List.drop_eq_getElem_cons hil
      have h1 := ih l[i] (List.mem_of_getElem? hx)
      have e3 : (Nat.ble (0 + i) (rowsT acc).length && fitsIn (i + 1) 56) = true := by rw [fits56 (by omega), Bool.and_true, Nat.ble_eq, rowsT_length]; omega
      have e4 : ∀ t : Tm, List.append (List.take i (rowsT acc)) [[.int .i64 t.kind, .int .i64 t.num, .str t.str, .sl (rowsT t.subs)]] = rowsT (acc ++ [t]) := by
        intro t
        rw [List.take_of_length_le (by rw [rowsT_length]; omega), rowsT_append, rowsT_cons, rowsT_nil, Tm.cells_eq]; rfl
      rw [rowsT_length, decide_eq_true (show (i : Int) < (l.length : Int) by omega), leInt_zero, ltInt_nat, decide_eq_true hil, rowsT_at hx, wrap_succ hil hlen, hd, valsG]
      simp only [cond_true, Bool.and_self, length_cells, Nat.beq_refl, take_cells, kTmC_cells, show Nat.ble 4 4 = true from rfl, kOptSome, av_unf]
      show Gets (kOpt (EVd (EV cfg) _ _ 7 (mR e false)) _) _
      refine Gets.bind h1 ?_
      intro r hr
      cases hf : f l[i] with
      | none =>
        rw [hf] at hr
        obtain ⟨h2, t, h3⟩ := hr
        rw [h2, h3, kTmV_av, e3, e4, cond_true]
        exact values_bad (by omega) (by simp [ha])
      | some t =>
        rw [hf] at hr
        obtain rfl : r = (t.av, mR e false) := hr
        have h2 := ihd (i + 1) (acc ++ [t]) (by omega) (by simp [ha])
        rw [kTmV_av, e3, e4, cond_true]
        have e5 : ((some t).bind fun x => (valsG f (l.drop (i + 1))).map (x :: ·)).map (acc ++ ·) = (valsG f (l.drop (i + 1))).map (acc ++ [t] ++ ·) := by
          cases valsG f (l.drop (i + 1)) <;> simp
        rw [e5]
        exact h2
  refine mValues_run _ _ _ _ _ _ _ _ ?_
  have h := loop l.length 0 [] (by omega) rfl
  rw [List.drop_zero] at h
  have e6 : (valsG f l).map ([] ++ ·) = valsG f l := by cases valsG f l <;> simp
  rw [e6] at h
  exact h
end Go.Proofs.Ytonmmmgffeoiiaa
end

section
namespace Go.Av
theorem seqO_valsG (e : Env) : ∀ l : List Tm, valsG (valG e) l = seqO (optsG e l)
  | [] => rfl
  | t :: l => by rw [valsG, optsG, seqO, seqO_valsG e l]
theorem listT_makeG (l : List Tm) : makeG l (.mk 8 0 [] []) = listT l := rfl
theorem mR_row (e : Env) (b : Bool) : List.get?Internal (mR e b) 0 = some [.int .i64 e.obj.kind, .int .i64 e.obj.num, .str e.obj.str, .sl (rowsT e.obj.subs), .sl (bindsR e.binds), .int .i64 e.self, .bool b] := rfl
theorem mR_bad (e : Env) (b : Bool) : List.get?Internal [AV.int .i64 e.obj.kind, .int .i64 e.obj.num, .str e.obj.str, .sl (rowsT e.obj.subs), .sl (bindsR e.binds), .int .i64 e.self, .bool b] 6 = some (.bool b) := rfl
theorem wL_bound {l : List Tm} (h : ∀ x ∈ l, x.chk = 0) : wL l ≤ l.length * 4259840 := by
  induction l with
  | nil => simp
  | cons x l ih =>
    have h1 := w_chk (h x (by simp))
    have h2 := ih fun y hy => h y (by simp [hy])
    rw [wL_cons, List.length_cons]; omega
theorem listT_w : ∀ l : List Tm, (listT l).w ≤ 1 + l.length + wL l
  | [] => by simp [listT, Tm.w_mk]
  | x :: l => by
    have h := listT_w l
    have : listT (x :: l) = .mk 9 0 [] [x, listT l] := rfl
    rw [this, Tm.w_mk, wL_cons, wL_cons, wL_cons, wL_nil, List.length_cons]
    simp only [List.length_nil]
    omega
theorem opsG_two (op : List UInt8) {n : Nat} (h : (n : Int) ∈ opsG op) : n ≤ 2 := by
  have : ∀ (l : List (List UInt8 × List Int)), (∀ p ∈ l, ∀ x ∈ p.2, x ≤ 2) → ∀ x ∈ lookS op [] l, x ≤ 2 := by
    intro l
    induction l with
    | nil => intro _ x hx; simp [lookS] at hx
    | cons p l ih =>
      intro h x hx
      rw [lookS] at hx
      cases hp : op == p.1
      · rw [hp] at hx; exact ih (fun q hq => h q (by simp [hq])) x hx
      · rw [hp] at hx; exact h p (by simp) x hx
  have := this opsTab (by decide) _ h
  omega
theorem cond_same {α : Type} (c : Bool) (x : α) : (bif c then x else x) = x := by cases c <;> rfl
theorem ite_w {c : Prop} [Decidable c] {x y : Option Tm} {P : Tm → Prop} (h1 : ∀ t, x = some t → P t) (h2 : ∀ t, y = some t → P t) : ∀ t, (if c then x else y) = some t → P t := by
  intro t h
  by_cases hc : c
  · rw [if_pos hc] at h; exact h1 t h
  · rw [if_neg hc] at h; exact h2 t h
theorem w_truthT (b : Bool) : (truthT b).w < 1099511627776 := by have := w_chk (truthT_chk b); omega
theorem w_withinG {n : Int} {v : Tm} (h : withinG n = some v) : v.w < 1099511627776 := by have := w_chk (withinG_chk h); omega
theorem oneG_w {op : List UInt8} {t : Tm} (hc : t.chk = 0) : ∀ v, oneG op t = some v → v.w < 1099511627776 := by
  have tr : ∀ b : Bool, ∀ v, some (truthT b) = some v → v.w < 1099511627776 := fun b v h => by cases h; exact w_truthT _
  have sub : ∀ i : Nat, ∀ v, t.subs[i]? = some v → v.w < 1099511627776 := fun i v h => by have := w_chk (chk_sub hc (List.mem_of_getElem? h)); omega
  have wi : ∀ n : Int, ∀ v, withinG n = some v → v.w < 1099511627776 := fun n v h => w_withinG h
  have no : ∀ v, (none : Option Tm) = some v → v.w < 1099511627776 := fun v h => by cases h
  have bo : ∀ v, ((boolG t).map fun b => truthT (!b)) = some v → v.w < 1099511627776 := fun v h => by obtain ⟨_, _, rfl⟩ := Option.map_eq_some_iff.1 h; exact w_truthT _
  have ln : ∀ v, ((lenG t).bind fun n => withinG n) = some v → v.w < 1099511627776 := fun v h => by obtain ⟨_, _, h⟩ := Option.bind_eq_some_iff.1 h; exact w_withinG h
  unfold oneG
  repeat' first
    | exact tr _
    | exact wi _
    | exact no
    | exact sub _
    | exact bo
    | exact ln
    | refine ite_w ?_ ?_
theorem numbersG_w {op : List UInt8} {a b : Int} {v : Tm} (h : numbersG op a b = some v) : v.w < 1099511627776 := by
  obtain ⟨_, n, rfl⟩ := numbersG_ok h
  rw [numT, Tm.w_mk]; simp
theorem twoG_w {op : List UInt8} {a b : Tm} (hb : b.chk = 0) : ∀ v, twoG op a b = some v → v.w < 1099511627776 := by
  have tr : ∀ c : Bool, ∀ v, some (truthT c) = some v → v.w < 1099511627776 := fun b v h => by cases h; exact w_truthT _
  have bo : ∀ f : Bool → Bool → Bool, ∀ v, ((boolG a).bind fun x => (boolG b).map fun y => truthT (f x y)) = some v → v.w < 1099511627776 := by
    intro f v h
    obtain ⟨_, _, h⟩ := Option.bind_eq_some_iff.1 h
    obtain ⟨_, _, rfl⟩ := Option.map_eq_some_iff.1 h
    exact w_truthT _
  have no : ∀ v, (none : Option Tm) = some v → v.w < 1099511627776 := fun v h => by cases h
  have sub : ∀ i : Nat, ∀ v, b.subs[i]? = some v → v.w < 1099511627776 := fun i v h => by have := w_chk (chk_sub hb (List.mem_of_getElem? h)); omega
  have nu : ∀ v, numbersG op a.num b.num = some v → v.w < 1099511627776 := fun v h => numbersG_w h
  unfold twoG
  repeat' first
    | exact tr _
    | exact bo (fun x y => x && y)
    | exact bo (fun x y => x || y)
    | exact bo (fun x y => x != y)
    | exact no
    | exact sub _
    | exact nu
    | refine ite_w ?_ ?_
theorem applyG_w {op : List UInt8} {l : List Tm} {self : Int} {v : Tm} (hl : ∀ x ∈ l, x.chk = 0) (hlen : l.length ≤ 2) (h : applyG op l self = some v) : v.w < 1099511627776 := by
  match l, hl, hlen with
  | [], _, _ => cases h; rw [Tm.w_mk]; simp
  | [a], hl, _ => exact oneG_w (hl a (by simp)) _ h
  | [a, b], hl, _ => exact twoG_w (hl b (by simp)) _ h
  | _ :: _ :: _ :: _, _, h => simp at h
end Go.Av
namespace Go.Proofs.Ytonmmmgffeoiiaa
open Go.Av
theorem wholeG_O (t : Tm) : wholeG false t = wholeO t := by unfold wholeG wholeO; rfl
theorem mWhole_of {e : Env} {t : Tm} (h : t.w < 1099511627776) : Gets (kOpt (EVd (EV cfg) 70 [.ptr 0 0 0, t.av] 7 (mR e false)) fun q => kTmV q.1 fun (n n_1 : Int) (s : List UInt8) (rows : List (List AV)) => some (AV.agg [.int .i64 n, .int .i64 n_1, .str s, .sl rows], q.2)) (Res e (wholeO t)) := by
  have := mWhole_ev e false h
  rw [wholeG_O] at this
  exact Gets.bind this fun r h => ret_res h (Res_tm h)
theorem mWhole_bad {e : Env} (t : Tm) : Gets (kOpt (EVd (EV cfg) 70 [.ptr 0 0 0, t.av] 7 (mR e true)) fun q => kTmV q.1 fun (n n_1 : Int) (s : List UInt8) (rows : List (List AV)) => some (AV.agg [.int .i64 n, .int .i64 n_1, .str s, .sl rows], q.2)) (Res e none) := by
  have hr := mRaise_ev e true
  have h1 : EVd (EV cfg) 70 [.ptr 0 0 0, t.av] 7 (mR e true) = some (zeroT.av, mR e true) := by
    apply Gets.get
    rw [Tm.av, Tm.cells_eq]
    refine mWhole_run _ _ _ _ _ _ _ _ _ _ _ ?_
    rw [cond_true, hr]
    simp only [kOptSome, kTmV_av]
    rw [av_unf]; exact ⟨_, rfl, rfl⟩
  rw [h1]
  simp only [kOptSome, kTmV_av, av_unf]
  exact ret_true
theorem agg_mk (k : Int) (ts : List Tm) : (AV.agg [.int .i64 k, .int .i64 0, .str [], .sl (rowsT ts)]) = (Tm.mk k 0 [] ts).av := by rw [Tm.av_mk]
theorem vals_whole {e : Env} (he : EnvOk e) {l : List Tm} (k : Int) (hlen : l.length ≤ 64) (hl : ∀ x ∈ l, x.chk = 0 ∧ isG (namesG e) x = true)
    (hv : Gets (EVd (EV cfg) 72 [.ptr 0 0 0, .sl (rowsT l)] 7 (mR e false)) (ResL e (seqO (optsG e l)))) :
    Gets (kOpt (EVd (EV cfg) 72 [.ptr 0 0 0, .sl (rowsT l)] 7 (mR e false)) fun q => kSl q.1 fun (rows : List (List AV)) => kOpt (EVd (EV cfg) 70 [.ptr 0 0 0, .agg [.int .i64 k, .int .i64 0, .str [], .sl rows]] 7 q.2) fun q => kTmV q.1 fun (n n_1 : Int) (s : List UInt8) (rows : List (List AV)) => some (AV.agg [.int .i64 n, .int .i64 n_1, .str s, .sl rows], q.2)) (Res e ((seqO (optsG e l)).bind fun ts => wholeO (.mk k 0 [] ts))) := by
  refine Gets.bind hv ?_
  intro r hr
  cases ho : seqO (optsG e l) with
  | none =>
    rw [ho] at hr
    obtain ⟨h1, ts, h2⟩ := hr
    rw [h1, h2, kSl_sl, agg_mk]
    exact mWhole_bad _
  | some ts =>
    rw [ho] at hr
    obtain rfl : r = (.sl (rowsT ts), mR e false) := hr
    have h1 := wL_bound (seqO_chk he hl ho)
    have h2 := seqO_len ho
    simp only [kSl_sl, agg_mk]
    rw [Option.bind_some]
    have h3 : ts.length * 4259840 ≤ 64 * 4259840 := Nat.mul_le_mul_right _ (by omega)
    exact mWhole_of (by rw [Tm.w_mk]; simp only [List.length_nil]; omega)
theorem lazy_end {e : Env} {y : Tm} : Gets (kOpt (EVm (EV cfg) 73 [.ptr 0 0 0, y.av] 7 (mR e false)) fun (q : MV × List (List AV)) => kMBool q.1 fun (_ : Bool) => some (y.av, q.2)) (Res e ((boolG y).map fun _ => y)) := by
  rw [mBool_ev]
  simp only [kOptSome, kMBool_bool]
  cases boolG y with
  | none => exact ret_true
  | some b => exact ret_false
theorem mValue_ev {e : Env} (he : EnvOk e) (hp : ProductOk) : ∀ (n : Nat) (t : Tm), t.w ≤ n → t.chk = 0 → isG (namesG e) t = true →
    Gets (EVd (EV cfg) 63 [.ptr 0 0 0, t.av] 7 (mR e false)) (Res e (valG e t)) := by
  intro n
  induction n with
  | zero => intro t h; have := w_pos t; omega
  | succ n ih =>
    intro t hw hc hg
    have hwe := t.w_eq
    have hwc := w_chk hc
    have hvar := patVar_ev (t := t) (by omega)
    have hbl := he.len
    have hbw : ∀ p ∈ e.binds, p.2.w < 1099511627776 := fun p hp => by have := w_chk (mayB_chk he.may p hp); omega
    have vals : ∀ l : List Tm, l.length ≤ 64 → (∀ x ∈ l, x.w ≤ n ∧ x.chk = 0 ∧ isG (namesG e) x = true) → Gets (EVd (EV cfg) 72 [.ptr 0 0 0, .sl (rowsT l)] 7 (mR e false)) (ResL e (seqO (optsG e l))) := by
      intro l hlen hl
      rw [← seqO_valsG]
      exact mValues_of (by omega) fun x hx => ih x (hl x hx).1 (hl x hx).2.1 (hl x hx).2.2
    rw [Tm.av, Tm.cells_eq] at hvar ⊢
    refine mValue_run _ _ _ _ _ _ _ _ _ _ _ ?_
    rw [hvar]
    simp only [beqI, beqS, kOptSome]
    by_cases h2 : t.kind = 2
    · rw [decide_eq_true h2, cond_true, valG_atom h2]
      rw [isG_atom h2] at hg
      simp only [varR, kTup, kCons, kInt_int, kBool_bool, kNil]
      cases hx : varT t with
      | some x =>
        rw [hx] at hg
        obtain ⟨y, hy⟩ := lookB_some (of_decide_eq_true hg)
        have hf := patFind_ev (L := e.binds) (by omega) hbw x
        have hfr : findR (findG x e.binds) = .tup [y.av, .bool true] := by
          unfold findG
          rw [if_pos he.may, hy]; rfl
        rw [hfr] at hf
        simp only [Option.isSome_some, Option.getD_some, cond_true, hf, kOptSome, hy]
        obtain ⟨ky, ny, sy, ly⟩ := y
        rw [Tm.av_mk]
        refine ⟨_, rfl, ?_⟩
        show _ = ((Tm.mk ky ny sy ly).av, mR e false)
        rw [Tm.av_mk]
      | none =>
        simp only [Option.isSome_none, cond_false]
        by_cases s1 : t.str = [36, 95]
        · rw [if_pos s1, decide_eq_true s1, cond_true, av_unf]; exact ret_false
        rw [if_neg s1, decide_eq_false s1, cond_false]
        by_cases s2 : t.str = [36, 36]
        · rw [if_pos s2, decide_eq_true s2, cond_true, mBound_ev (by omega)]
          simp only [kOptSome, kTmV_av, av_unf]
          rw [listT_makeG]
          refine mWhole_of ?_
          have h1 := listT_w (e.binds.map (·.2))
          have h3 := wL_bound (l := e.binds.map (·.2)) (fun x hx => by
            obtain ⟨p, hp, rfl⟩ := List.mem_map.1 hx
            exact mayB_chk he.may p hp)
          rw [List.length_map] at h1 h3
          have h4 : e.binds.length * 4259840 ≤ 100 * 4259840 := Nat.mul_le_mul_right _ hbl
          omega
        rw [if_neg s2, decide_eq_false s2, cond_false, av_unf]; exact ret_false
    rw [decide_eq_false h2, cond_false]
    have hsub : ∀ x ∈ t.subs, x.w ≤ n ∧ x.chk = 0 := fun x hx => by
      have := wL_mem hx
      exact ⟨by omega, chk_sub hc hx⟩
    by_cases h9 : t.kind = 9
    · rw [decide_eq_true h9, cond_true, valG_cons h9]
      rw [isG_cons h9] at hg
      have hall := allG_mem hg
      exact vals_whole he 9 (subs_chk hc) (fun x hx => ⟨(hsub x hx).2, hall x hx⟩) (vals t.subs (subs_chk hc) fun x hx => ⟨(hsub x hx).1, (hsub x hx).2, hall x hx⟩)
    rw [decide_eq_false h9, cond_false]
    by_cases h7 : t.kind = 7
    · rw [decide_eq_true h7, cond_true]
      cases hl : t.subs with
      | nil => rw [isG_nil h7 hl] at hg; cases hg
      | cons f r =>
        have hf := hsub f (by rw [hl]; simp)
        have hr : ∀ x ∈ r, x.w ≤ n ∧ x.chk = 0 := fun x hx => hsub x (by rw [hl]; simp [hx])
        have hlen := subs_chk hc
        rw [hl, List.length_cons] at hlen
        rw [valG_tup h7 hl]
        rw [isG_tup h7 hl] at hg
        have c2 : leInt 1 ((rowsT (f :: r)).length : Int) = true := by rw [rowsT_length]; exact decide_eq_true (by simp; omega)
        have tk : List.take ((rowsT (f :: r)).length - 1) (List.drop 1 (rowsT (f :: r))) = rowsT r := by
          rw [rowsT_cons, List.drop_succ_cons, List.drop_zero, List.length_cons, Nat.add_sub_cancel, List.take_length]
        rw [c2, tk]
        simp only [cond_true, lt0T, get0T, kOptSome, length_cells, Nat.beq_refl, ble44, take_cells, kTmC_cells, rowsOk_rowsT, beqI, beqS]
        by_cases f7 : f.kind = 7
        · rw [if_pos f7] at hg ⊢
          rw [decide_eq_true f7, cond_true]
          rw [Bool.and_eq_true] at hg
          have hall := allG_mem hg.2
          have fs := subs_chk hf.2
          have hfs : ∀ x ∈ f.subs, x.w ≤ n ∧ x.chk = 0 := fun x hx => by
            have h1 := wL_mem hx
            have h2 := f.w_eq
            exact ⟨by have := hf.1; omega, chk_sub hf.2 hx⟩
          exact vals_whole he 7 fs (fun x hx => ⟨(hfs x hx).2, hall x hx⟩) (vals f.subs fs fun x hx => ⟨(hfs x hx).1, (hfs x hx).2, hall x hx⟩)
        rw [if_neg f7] at hg ⊢
        rw [decide_eq_false f7, cond_false]
        by_cases f2 : f.kind = 2
        · rw [if_pos f2] at hg
          by_cases hk : f.str = [99, 111, 110, 115, 116]
          · rw [if_pos hk] at hg ⊢
            rw [decide_eq_true hk, cond_true]
            match r, of_decide_eq_true hg with
            | [a], _ =>
              simp only [lt1T, get1T, cond_true, kOptSome, length_cells, Nat.beq_refl, ble44, take_cells, kTmC_cells, av_unf]
              exact ret_false
          rw [if_neg hk] at hg ⊢
          rw [decide_eq_false hk, cond_false]
          rw [Bool.and_eq_true] at hg
          have hrg := allG_mem hg.2
          have hop := of_decide_eq_true hg.1
          by_cases ha : f.str = [97, 110, 100, 97, 108, 115, 111]
          · rw [if_pos ha, decide_eq_true ha]
            have hl2 : r.length = 2 := by
              rw [ha] at hop
              have : opsG [97, 110, 100, 97, 108, 115, 111] = [2] := by decide
              rw [this] at hop
              simp at hop; omega
            match r, hr, hrg with
            | [], _, _ => simp at hl2
            | [a], _, _ => simp at hl2
            | a :: b :: q, hr, hrg =>
              have ra := hr a (by simp)
              have rb := hr b (by simp)
              have iha := ih a ra.1 ra.2 (hrg a (by simp))
              have ihb := ih b rb.1 rb.2 (hrg b (by simp))
              simp only [cond_true, cond_false, lt1T, lt2T, get1T, get2T, kOptSome, length_cells, Nat.beq_refl, ble44, take_cells, kTmC_cells, av_unf, optsG, lazyG]
              refine Gets.bind iha ?_
              intro x hx
              cases hva : valG e a with
              | none =>
                rw [hva] at hx
                obtain ⟨h1, y, h2⟩ := hx
                rw [h1, h2]
                simp only [kTmV_av, mR_row, mR_bad, kOptSome, kBool_bool, cond_true, av_unf]
                exact ret_true
              | some y =>
                rw [hva] at hx
                obtain rfl : x = (y.av, mR e false) := hx
                simp only [kTmV_av, mR_row, mR_bad, kOptSome, kBool_bool, cond_false, av_unf, mBool_ev, kMBool_bool, Option.bind_some]
                cases hb : boolG y with
                | none =>
                  simp only [Option.isNone_none, Bool.or_true, cond_true, Option.bind_none]
                  rw [cond_same]; exact ret_true
                | some v =>
                  rw [boolG_some hb]
                  simp only [Option.isNone_some, Bool.or_false, cond_false, Option.bind_some]
                  cases v with
                  | false =>
                    rw [if_neg (by simp)]; exact ret_false
                  | true =>
                    rw [if_pos rfl]
                    change Gets (kOpt (EVd (EV cfg) _ _ 7 (mR e false)) _) _
                    refine Gets.bind ihb ?_
                    intro x hx
                    cases hvb : valG e b with
                    | none =>
                      rw [hvb] at hx
                      obtain ⟨h1, z, h2⟩ := hx
                      rw [h1, h2]
                      simp only [kTmV_av, mR_row, mR_bad, kOptSome, kBool_bool, Bool.not_true, cond_false, av_unf]
                      exact ret_true
                    | some z =>
                      rw [hvb] at hx
                      obtain rfl : x = (z.av, mR e false) := hx
                      simp only [kTmV_av, mR_row, mR_bad, kOptSome, kBool_bool, Bool.not_false, cond_true, av_unf, Option.bind_some]
                      exact lazy_end
          rw [if_neg ha, decide_eq_false ha]
          by_cases hb : f.str = [111, 114, 101, 108, 115, 101]
          · rw [if_pos hb, decide_eq_true hb]
            have hl2 : r.length = 2 := by
              rw [hb] at hop
              have : opsG [111, 114, 101, 108, 115, 101] = [2] := by decide
              rw [this] at hop
              simp at hop; omega
            simp only [cond_false]
            match r, hr, hrg with
            | [], _, _ => simp at hl2
            | [a], _, _ => simp at hl2
            | a :: b :: q, hr, hrg =>
              have ra := hr a (by simp)
              have rb := hr b (by simp)
              have iha := ih a ra.1 ra.2 (hrg a (by simp))
              have ihb := ih b rb.1 rb.2 (hrg b (by simp))
              simp only [cond_true, cond_false, lt1T, lt2T, get1T, get2T, kOptSome, length_cells, Nat.beq_refl, ble44, take_cells, kTmC_cells, av_unf, optsG, lazyG]
              refine Gets.bind iha ?_
              intro x hx
              cases hva : valG e a with
              | none =>
                rw [hva] at hx
                obtain ⟨h1, y, h2⟩ := hx
                rw [h1, h2]
                simp only [kTmV_av, mR_row, mR_bad, kOptSome, kBool_bool, cond_true, av_unf]
                exact ret_true
              | some y =>
                rw [hva] at hx
                obtain rfl : x = (y.av, mR e false) := hx
                simp only [kTmV_av, mR_row, mR_bad, kOptSome, kBool_bool, cond_false, av_unf, mBool_ev, kMBool_bool, Option.bind_some]
                cases hb : boolG y with
                | none =>
                  simp only [Option.isNone_none, Bool.or_true, cond_true, Option.bind_none]
                  rw [cond_same]; exact ret_true
                | some v =>
                  rw [boolG_some hb]
                  simp only [Option.isNone_some, Bool.or_false, cond_false, Option.bind_some]
                  cases v with
                  | true =>
                    rw [if_neg (by simp)]; exact ret_false
                  | false =>
                    rw [if_pos rfl]
                    change Gets (kOpt (EVd (EV cfg) _ _ 7 (mR e false)) _) _
                    refine Gets.bind ihb ?_
                    intro x hx
                    cases hvb : valG e b with
                    | none =>
                      rw [hvb] at hx
                      obtain ⟨h1, z, h2⟩ := hx
                      rw [h1, h2]
                      simp only [kTmV_av, mR_row, mR_bad, kOptSome, kBool_bool, Bool.not_true, cond_false, av_unf]
                      exact ret_true
                    | some z =>
                      rw [hvb] at hx
                      obtain rfl : x = (z.av, mR e false) := hx
                      simp only [kTmV_av, mR_row, mR_bad, kOptSome, kBool_bool, Bool.not_false, cond_true, av_unf, Option.bind_some]
                      exact lazy_end
          rw [if_neg hb, decide_eq_false hb]
          simp only [cond_false]
          have hv := vals r (by omega) fun x hx => ⟨(hr x hx).1, (hr x hx).2, hrg x hx⟩
          refine Gets.bind hv ?_
          intro q hq
          cases ho : seqO (optsG e r) with
          | none =>
            rw [ho] at hq
            obtain ⟨h1, ts, h3⟩ := hq
            rw [h1, h3]
            simp only [kSl_sl, mR_row, mR_bad, kOptSome, kBool_bool, cond_true]
            exact ⟨_, rfl, rfl, zeroT, by rw [zeroT_av]⟩
          | some ts =>
            rw [ho] at hq
            obtain rfl : q = (.sl (rowsT ts), mR e false) := hq
            have hts := seqO_chk he (fun x hx => ⟨(hr x hx).2, hrg x hx⟩) ho
            have hlt := seqO_len ho
            have h2 := opsG_two _ hop
            simp only [kSl_sl, mR_row, mR_bad, kOptSome, kBool_bool, cond_false, Option.bind_some]
            refine Gets.bind (mApply_ev e f.str hts (by omega) (fun _ => hp)) ?_
            intro q hq
            cases hap : applyG f.str ts e.self with
            | none =>
              rw [hap] at hq
              obtain ⟨h1, z, h3⟩ := hq
              rw [h1, h3]
              simp only [kTmV_av, av_unf]
              exact mWhole_bad z
            | some z =>
              rw [hap] at hq
              obtain rfl : q = (z.av, mR e false) := hq
              simp only [kTmV_av, av_unf, Option.bind_some]
              exact mWhole_of (applyG_w hts (by omega) hap)
        · rw [if_neg f2] at hg; cases hg
    · rw [decide_eq_false h7, valG_other h2 h9 h7, cond_false, av_unf]; exact ret_false
end Go.Proofs.Ytonmmmgffeoiiaa
end

section
namespace Go.Proofs.Ytonmmmgffeoiiaa
open Go.Av
set_option maxRecDepth 100000
set_option maxHeartbeats 0

noncomputable def Le58_0 : Den := evC cfg (EV cfg) 55 none 7 (sub (bodyOf Try.f55) [0, 0, 0])
noncomputable def Ae58_0 : Ex × List AV × AH → Option AV := kAft (Cfg.keepOut cfg 55 (firstRid (sub (bodyOf Try.f55) [0, 0, 0]))) (kBlock 0 (kSeq (fun (fr : List AV) (H : AH) => kCutTo (Cfg.cut cfg 55 (firstRid (sub (bodyOf Try.f55) [1]))) fr H fun (fr : List AV) (H : AH) => kCode cfg (EV cfg) (kfN cfg (5)) 55 none 7 (sub (bodyOf Try.f55) [1]) fr H (kFinG cfg (Cfg.lift cfg 55 0) (fun (v : AV) (H : AH) => (fun (r : AV × AH) => kRangeEnd 0 6 (fx 18 [(4, AV.ptr 1 0 0), (5, AV.ptr 2 0 0)]) (kBlock 0 (kSeq (fun (fr : List AV) (H : AH) => kCutTo (Cfg.cut cfg 58 (firstRid (sub (bodyOf Try.f58) [1, 1, 1, 1]))) fr H fun (fr : List AV) (H : AH) => kCode cfg (EV cfg) (kfN cfg 6) 58 none 0 (sub (bodyOf Try.f58) [1, 1, 1, 1]) fr H (kFinF cfg (Cfg.lift cfg 58 0) (Array.toList (Func.results Try.f58)))) (kFinF cfg (Cfg.lift cfg 58 0) (Array.toList (Func.results Try.f58))))) (Prod.snd r)) (v, H)) (Array.toList (Func.results (Prod.snd (55, Try.f55)))))) (kFinG cfg (Cfg.lift cfg 55 0) (fun (v : AV) (H : AH) => (fun (r : AV × AH) => kRangeEnd 0 6 (fx 18 [(4, AV.ptr 1 0 0), (5, AV.ptr 2 0 0)]) (kBlock 0 (kSeq (fun (fr : List AV) (H : AH) => kCutTo (Cfg.cut cfg 58 (firstRid (sub (bodyOf Try.f58) [1, 1, 1, 1]))) fr H fun (fr : List AV) (H : AH) => kCode cfg (EV cfg) (kfN cfg 6) 58 none 0 (sub (bodyOf Try.f58) [1, 1, 1, 1]) fr H (kFinF cfg (Cfg.lift cfg 58 0) (Array.toList (Func.results Try.f58)))) (kFinF cfg (Cfg.lift cfg 58 0) (Array.toList (Func.results Try.f58))))) (Prod.snd r)) (v, H)) (Array.toList (Func.results (Prod.snd (55, Try.f55)))))))
noncomputable def We58_0 : List AV × AH → Option AV := fun (p : List AV × AH) => kOpt (LOOP 7 (some [0, 1, 2]) [] Le58_0 p) Ae58_0
noncomputable def Le30_0 : Den := evC cfg (EV cfg) 30 none 0 (sub (bodyOf Try.f30) [1, 1, 0, 1, 0, 0])
noncomputable def Ae30_0 : Ex × List AV × AH → Option AV := kAft (Cfg.keepOut cfg 30 3) (kRun cfg (EV cfg) (kfN cfg 6) 30 none 0 (kFinF cfg (Cfg.lift cfg 30 0) Try.f30.results.toList) ([.block 0, .seq (sub (bodyOf Try.f30) [1, 1, 1])]))
noncomputable def We30_0 : List AV × AH → Option AV := fun p => kOpt (LOOP 0 (some [3, 6, 7, 8]) ([(3, 4)]) Le30_0 p) Ae30_0
noncomputable abbrev we58_0 (c0_0 : Int) (c0_1 : Int) (c0_2 : List UInt8) (c0_3 : List (List AV)) (nc1_0 : Nat) (c2_0 : Bool) (c3_0 : Int) (c3_1 : Int) (c3_2 : List UInt8) (c3_3 : List (List AV)) (h5 : List (List AV)) : Option (AV) := We58_0  (((fx 23 [(0, AV.yld (6 : Nat)), (1, AV.ptr (3 : Nat) (0 : Nat) (0 : Nat)), (2, AV.ptr (4 : Nat) (0 : Nat) (0 : Nat))]) : List AV), ([ABlk.rows false (4 : Nat) [[AV.int IntKind.i64 c0_0, AV.int IntKind.i64 c0_1, AV.str c0_2, AV.sl c0_3]], ABlk.rows false (1 : Nat) [[AV.ms (5 : Nat) (0 : Nat) nc1_0]], ABlk.rows false (1 : Nat) [[AV.bool c2_0]], ABlk.rows false (4 : Nat) [[AV.int IntKind.i64 c3_0, AV.int IntKind.i64 c3_1, AV.str c3_2, AV.sl c3_3]], ABlk.rows false (1 : Nat) [[AV.ptr (2 : Nat) (0 : Nat) (0 : Nat)]], ABlk.rows true (4 : Nat) h5, rngB Try.f58 (58 : Nat) [(1 : Nat), (1 : Nat), (1 : Nat), (0 : Nat), (1 : Nat), (0 : Nat)] (fx 18 [(4, AV.ptr (1 : Nat) (0 : Nat) (0 : Nat))]) none LoopState.ready] : AH))
noncomputable abbrev we30_0 (L : List (List AV)) (nv3 : Nat) (v8 : Int) (h0 : List (List AV)) : Option (AV) := We30_0  (((fx 19 [(3, AV.ms (0 : Nat) (0 : Nat) nv3), (6, AV.sl L), (7, AV.int IntKind.i64 (↑(List.length L) : Int)), (8, AV.int IntKind.i64 v8)]) : List AV), ([ABlk.rows true (4 : Nat) h0] : AH))
noncomputable abbrev we58_0a (c0_0 : Int) (c0_1 : Int) (c0_2 : List UInt8) (c0_3 : List (List AV)) (nc1_0 : Nat) (c2_0 : Bool) (c3_0 : Int) (c3_1 : Int) (c3_2 : List UInt8) (c3_3 : List (List AV)) (h7 : List (List AV)) : Option (AV) := We58_0  (((fx 23 [(0, AV.yld (6 : Nat)), (1, AV.ptr (3 : Nat) (0 : Nat) (0 : Nat)), (2, AV.ptr (4 : Nat) (0 : Nat) (0 : Nat))]) : List AV), ([ABlk.rows false (4 : Nat) [[AV.int IntKind.i64 c0_0, AV.int IntKind.i64 c0_1, AV.str c0_2, AV.sl c0_3]], ABlk.rows false (1 : Nat) [[AV.ms (7 : Nat) (0 : Nat) nc1_0]], ABlk.rows false (1 : Nat) [[AV.bool c2_0]], ABlk.rows false (4 : Nat) [[AV.int IntKind.i64 c3_0, AV.int IntKind.i64 c3_1, AV.str c3_2, AV.sl c3_3]], ABlk.rows false (1 : Nat) [[AV.ptr (2 : Nat) (0 : Nat) (0 : Nat)]], ABlk.dead, rngB Try.f58 (58 : Nat) [(1 : Nat), (1 : Nat), (1 : Nat), (0 : Nat), (1 : Nat), (0 : Nat)] (fx 18 [(4, AV.ptr (1 : Nat) (0 : Nat) (0 : Nat))]) none LoopState.ready, ABlk.rows true (4 : Nat) h7] : AH))
theorem patAny_run (kt : Int) (nt : Int) (st : List UInt8) (lt : List (List AV)) {P : AV → Prop} (h : Gets (bif kt == (2 : Int) then bif st == [(95 : UInt8)] then kOpt (EVs (EV cfg) 38 [.agg [AV.int .i64 kt, .int .i64 nt, .str st, .sl lt]]) fun (v : AV) => kBool v fun (b : Bool) => some (.bool 
  b) else some (.bool false) else some (.bool false)) P) : Gets (EVs (EV cfg) 65 ([AV.agg [AV.int IntKind.i64 kt, AV.int IntKind.i64 nt, AV.str st, AV.sl lt]] : List AV)) P :=
  Gets.ev (fun _ h => funS rfl rfl Try.func65 rfl h) (Gets.eq (by kernel_rfl) h)
theorem spHead_run (kt : Int) (nt : Int) (st : List UInt8) (lt : List (List AV)) {P : AV → Prop} (h : Gets (kOpt (EVs (EV cfg) 64 [.agg [AV.int .i64 kt, .int .i64 nt, .str st, .sl lt]]) fun (v : AV) => kTup v fun (cs : List AV) => kCons cs fun (c : AV) (cs : List AV) => kInt .i64 c fun (n : 
  Int) => kCons cs fun (c : AV) (cs : List AV) => kBool c fun (b : Bool) => kNil cs (bif b then some (.bool true) else bif kt == (7 : Int) then some (.bool true) else kOpt (EVs (EV cfg) 
  65 [.agg [AV.int .i64 kt, .int .i64 nt, .str st, .sl lt]]) fun (v : AV) => kBool v fun (b : Bool) => some (.bool b))) P) : Gets (EVs (EV cfg) 56 ([AV.agg [AV.int IntKind.i64 kt, AV.int IntKind.i64 nt, AV.str st, AV.sl lt]] : List AV)) P :=
  Gets.ev (fun _ h => funS rfl rfl Try.func56 rfl h) (Gets.eq (by kernel_rfl) h)
theorem spList_run (kt : Int) (nt : Int) (st : List UInt8) (lt : List (List AV)) {P : AV → Prop} (h : Gets (we58_0 kt nt st lt 0 false kt nt st lt []) P) : Gets (EVf (EV cfg) 58 ([AV.agg [AV.int IntKind.i64 kt, AV.int IntKind.i64 nt, AV.str st, AV.sl lt]] : List AV)) P :=
  Gets.ev (fun _ h => funF rfl rfl Try.func58 rfl h) (Gets.eq (by kernel_rfl) h)
theorem spCheck_run (kt : Int) (nt : Int) (st : List UInt8) (lt : List (List AV)) {P : AV → Prop} (h : Gets (kOpt (EVq (EV cfg) 28 [.agg [AV.int .i64 kt, .int .i64 nt, .str st, .sl lt]]) fun (q : OV × AV) => kInt .i64 q.2 fun (n : Int) => kOwn q.1 (some (.int .i64 n)) fun (sz : Nat) (rs : List 
  (List AV)) (off len : Nat) => some (.int .i64 n)) P) : Gets (EVs (EV cfg) 21 ([AV.agg [AV.int IntKind.i64 kt, AV.int IntKind.i64 nt, AV.str st, AV.sl lt]] : List AV)) P :=
  Gets.ev (fun _ h => funS rfl rfl Try.func21 rfl h) (Gets.eq (by kernel_rfl) h)
theorem spCopies_run (L : List (List AV)) {P : AV → Prop} (h : Gets (we30_0 L 0 (0 : Int) []) P) : Gets (EVf (EV cfg) 30 ([AV.sl L] : List AV)) P :=
  Gets.ev (fun _ h => funF rfl rfl Try.func30 rfl h) (Gets.eq (by kernel_rfl) h)
theorem makeTuple_run (L : List (List AV)) {P : AV → Prop} (h : Gets (kOpt (EVo (EV cfg) 44 [.sl L]) fun (o : OV) => kOwn o (some (.agg [AV.int .i64 (7 : Int), .int .i64 (0 : Int), .str [], .sl []])) fun (sz : Nat) (rs : List (List AV)) (off len : Nat) 
  => bif Nat.ble (off + len) (List.length rs) && true then some (.agg [AV.int .i64 (7 : Int), .int .i64 (0 : Int), .str [], .sl (List.take len (List.drop off rs))]) else none) P) : Gets (EVf (EV cfg) 31 ([AV.sl L] : List AV)) P :=
  Gets.ev (fun _ h => funF rfl rfl Try.func31 rfl h) (Gets.eq (by kernel_rfl) h)
theorem spRun_run (kt : Int) (nt : Int) (st : List UInt8) (lt : List (List AV)) (ko : Int) (no : Int) (so : List UInt8) (lo : List (List AV)) (self : Int) {P : AV → Prop} (h : Gets (kOpt (EVf (EV cfg) 24 [.agg [AV.int .i64 kt, .int .i64 nt, .str st, .sl lt], .agg [AV.int .i64 ko, .int .i64 no, .str so, .sl lo], .int .i64 self]) fun (v : AV) => kTup v fun (cs : List 
  AV) => kCons cs fun (c : AV) (cs : List AV) => kInt .i64 c fun (n : Int) => kCons cs fun (c : AV) (cs : List AV) => kAgg c fun (cs_1 : List AV) => kCons cs_1 fun (c : AV) (cs_2 : List 
  AV) => kInt .i64 c fun (n_1 : Int) => kCons cs_2 fun (c : AV) (cs_3 : List AV) => kInt .i64 c fun (n_2 : Int) => kCons cs_3 fun (c : AV) (cs_4 : List AV) => kStr c fun (s : List UInt8) 
  => kCons cs_4 fun (c : AV) (cs_5 : List AV) => kSl c fun (rows : List (List AV)) => kNil cs_5 (kCons cs fun (c : AV) (cs : List AV) => kInt .i64 c fun (n_3 : Int) => kNil cs (some (AV.tup 
  [.agg [AV.int .i64 n_1, .int .i64 n_2, .str s, .sl rows], .bool (decide (n > (0 : Int))), .int .i64 n_3])))) P) : Gets (EVf (EV cfg) 9 ([AV.agg [AV.int IntKind.i64 kt, AV.int IntKind.i64 nt, AV.str st, AV.sl lt], AV.agg [AV.int IntKind.i64 ko, AV.int IntKind.i64 no, AV.str so, AV.sl lo], AV.int IntKind.i64 self] : List AV)) P :=
  Gets.ev (fun _ h => funF rfl rfl Try.func9 rfl h) (Gets.eq (by kernel_rfl) h)
theorem patMatch_run (kt : Int) (nt : Int) (st : List UInt8) (lt : List (List AV)) (ko : Int) (no : Int) (so : List UInt8) (lo : List (List AV)) {P : AV → Prop} (h : Gets (kOpt (EVf (EV cfg) 25 [.agg [AV.int .i64 kt, .int .i64 nt, .str st, .sl lt], .agg [AV.int .i64 ko, .int .i64 no, .str so, .sl lo], .sl []]) fun (v : AV) => kTup v fun (cs : List AV) => 
  kCons cs fun (c : AV) (cs : List AV) => kSl c fun (rows : List (List AV)) => kCons cs fun (c : AV) (cs : List AV) => kBool c fun (b : Bool) => kNil cs (some (AV.tup [.sl rows, .bool 
  b]))) P) : Gets (EVf (EV cfg) 10 ([AV.agg [AV.int IntKind.i64 kt, AV.int IntKind.i64 nt, AV.str st, AV.sl lt], AV.agg [AV.int IntKind.i64 ko, AV.int IntKind.i64 no, AV.str so, AV.sl lo]] : List AV)) P :=
  Gets.ev (fun _ h => funF rfl rfl Try.func10 rfl h) (Gets.eq (by kernel_rfl) h)
theorem we58_0_step (c0_0 : Int) (c0_1 : Int) (c0_2 : List UInt8) (c0_3 : List (List AV)) (nc1_0 : Nat) (c2_0 : Bool) (c3_0 : Int) (c3_1 : Int) (c3_2 : List UInt8) (c3_3 : List (List AV)) (h5 : List (List AV)) {P : AV → Prop} (h : Gets (bif c3_0 == (9 : Int) then bif ltInt (0 : Int) (↑(List.length c3_3) : Int) then kOpt (List.get?Internal c3_3 0) fun (row : List AV) => bif Nat.beq (List.length row) 4 then bif Nat.ble 
  4 (List.length row) then kTmC (List.take 4 row) fun (n n_1 : Int) (s : List UInt8) (rows : List (List AV)) => (bif Nat.ble (0 + nc1_0) (List.length h5) && fitsIn (nc1_0 + 1) 56 then 
  bif leInt (0 : Int) (↑nc1_0 : Int) && ltInt (↑nc1_0 : Int) (↑(nc1_0 + 1) : Int) then kOpt (List.get?Internal (List.append (List.take nc1_0 h5) [[AV.int .i64 (0 : Int), .int .i64 (0 : 
  Int), .str [], .nilS]]) (0 + Int.toNat (↑nc1_0 : Int))) fun (row : List AV) => bif Nat.ble 4 (List.length row) then bif ltInt (1 : Int) (↑(List.length c3_3) : Int) then kOpt (List.get?Internal 
  c3_3 1) fun (row_1 : List AV) => bif Nat.beq (List.length row_1) 4 then bif Nat.ble 4 (List.length row_1) then kTmC (List.take 4 row_1) fun (n_2 n_3 : Int) (s_1 : List UInt8) (rows_1 
  : List (List AV)) => (we58_0a c0_0 c0_1 c0_2 c0_3 (nc1_0 + 1) c2_0 n_2 n_3 s_1 rows_1 (List.set (List.append (List.take nc1_0 h5) [[AV.int .i64 (0 : Int), .int .i64 (0 : Int), .str [], 
  .nilS]]) (0 + Int.toNat (↑nc1_0 : Int)) (.int .i64 n :: .int .i64 n_1 :: .str s :: .sl rows :: List.drop 4 row))) else none else none else none else none else none else none) else none 
  else none else none else bif Nat.ble (0 + nc1_0) (List.length h5) && true then some (AV.tup [.sl (List.take nc1_0 h5), .bool (c3_0 == (8 : Int))]) else none) P) : Gets (we58_0 c0_0 c0_1 c0_2 c0_3 nc1_0 c2_0 c3_0 c3_1 c3_2 c3_3 h5) P :=
  Gets.ev (fun _ h => loop_step (cfg := cfg) (f := 55) (rd := none) (bs := 7) h) (Gets.eq (by kernel_rfl) h)
theorem we30_0_step (L : List (List AV)) (nv3 : Nat) (v8 : Int) (h0 : List (List AV)) {P : AV → Prop} (h : Gets (bif decide (v8 < (↑(List.length L) : Int)) then bif leInt (0 : Int) v8 && ltInt v8 (↑(List.length L) : Int) then kOpt (List.get?Internal L (Int.toNat v8)) fun (row : List AV) => bif 
  Nat.beq (List.length row) 4 then bif Nat.ble 4 (List.length row) then kTmC (List.take 4 row) fun (n n_1 : Int) (s : List UInt8) (rows : List (List AV)) => (kOpt (EVf (EV cfg) 29 [.agg 
  [AV.int .i64 n, .int .i64 n_1, .str s, .sl rows]]) fun (v : AV) => kTmV v fun (n n_2 : Int) (s : List UInt8) (rows : List (List AV)) => (bif Nat.ble (0 + nv3) (List.length h0) && fitsIn 
  (nv3 + 1) 56 then we30_0 L (nv3 + 1) (IntKind.wrap .i64 (v8 + (1 : Int))) (List.append (List.take nv3 h0) [[AV.int .i64 n, .int .i64 n_2, .str s, .sl rows]]) else none)) else none else 
  none else none else bif Nat.ble (0 + nv3) (List.length h0) && true then some (.sl (List.take nv3 h0)) else none) P) : Gets (we30_0 L nv3 v8 h0) P :=
  Gets.ev (fun _ h => loop_step (cfg := cfg) (f := 30) (rd := none) (bs := 0) h) (Gets.eq (by kernel_rfl) h)
theorem we58_0a_step (c0_0 : Int) (c0_1 : Int) (c0_2 : List UInt8) (c0_3 : List (List AV)) (nc1_0 : Nat) (c2_0 : Bool) (c3_0 : Int) (c3_1 : Int) (c3_2 : List UInt8) (c3_3 : List (List AV)) (h7 : List (List AV)) {P : AV → Prop} (h : Gets (bif c3_0 == (9 : Int) then bif ltInt (0 : Int) (↑(List.length c3_3) : Int) then kOpt (List.get?Internal c3_3 0) fun (row : List AV) => bif Nat.beq (List.length row) 4 then bif Nat.ble 
  4 (List.length row) then kTmC (List.take 4 row) fun (n n_1 : Int) (s : List UInt8) (rows : List (List AV)) => (bif Nat.ble (0 + nc1_0) (List.length h7) && fitsIn (nc1_0 + 1) 56 then 
  bif leInt (0 : Int) (↑nc1_0 : Int) && ltInt (↑nc1_0 : Int) (↑(nc1_0 + 1) : Int) then kOpt (List.get?Internal (List.append (List.take nc1_0 h7) [[AV.int .i64 (0 : Int), .int .i64 (0 : 
  Int), .str [], .nilS]]) (0 + Int.toNat (↑nc1_0 : Int))) fun (row : List AV) => bif Nat.ble 4 (List.length row) then bif ltInt (1 : Int) (↑(List.length c3_3) : Int) then kOpt (List.get?Internal 
  c3_3 1) fun (row_1 : List AV) => bif Nat.beq (List.length row_1) 4 then bif Nat.ble 4 (List.length row_1) then kTmC (List.take 4 row_1) fun (n_2 n_3 : Int) (s_1 : List UInt8) (rows_1 
  : List (List AV)) => (we58_0a c0_0 c0_1 c0_2 c0_3 (nc1_0 + 1) c2_0 n_2 n_3 s_1 rows_1 (List.set (List.append (List.take nc1_0 h7) [[AV.int .i64 (0 : Int), .int .i64 (0 : Int), .str [], 
  .nilS]]) (0 + Int.toNat (↑nc1_0 : Int)) (.int .i64 n :: .int .i64 n_1 :: .str s :: .sl rows :: List.drop 4 row))) else none else none else none else none else none else none) else none 
  else none else none else bif Nat.ble (0 + nc1_0) (List.length h7) && true then some (AV.tup [.sl (List.take nc1_0 h7), .bool (c3_0 == (8 : Int))]) else none) P) : Gets (we58_0a c0_0 c0_1 c0_2 c0_3 nc1_0 c2_0 c3_0 c3_1 c3_2 c3_3 h7) P :=
  Gets.ev (fun _ h => loop_step (cfg := cfg) (f := 55) (rd := none) (bs := 7) h) (Gets.eq (by kernel_rfl) h)
end Go.Proofs.Ytonmmmgffeoiiaa
end

section
namespace Go.Proofs.Ytonmmmgffeoiiaa
open Go.Av
set_option maxRecDepth 100000
set_option maxHeartbeats 0

theorem cloneT_run (r : List AV) (L : List (List AV)) {P : OV → Prop} (h : Gets (bif rowsOk 4 (r :: L) then bif fitsIn (0 + List.length (r :: L)) 56 then some (OV.own 4 (r :: L) 0 (0 + List.length (r :: L))) else none else none) P) : Gets (EVo (EV cfg) 44 ([AV.sl (r :: L)] : List AV)) P :=
  Gets.ev (fun _ h => funO rfl rfl Try.func44 rfl h) (Gets.eq (by kernel_rfl) h)
end Go.Proofs.Ytonmmmgffeoiiaa
end
