/-
  Parts of the proof of SpecMakesUptoSaid, put together: the abstract evaluation and its contracts. Own work.
  What is proved: each lemma as it stands; no condition.
-/
import Derived.Test.YtonmmmgffeoiiaaGreatZSpecMakesM3

section
namespace Go.Proofs.YtonmmmgffeoiiaaGreat
open Go.Av
set_option maxRecDepth 100000
set_option maxHeartbeats 0

noncomputable def Lq33_0 : Den := evC cfg (EV cfg) 88 none 5 (sub (bodyOf Tryz.f88) [1, 0, 0])
noncomputable def Aq33_0 : Ex × List AV × AH → Option AV := kAft (Cfg.keepOut cfg 88 (firstRid (sub (bodyOf Tryz.f88) [1, 0, 0]))) (kBlock 0 (kFinG cfg (Cfg.lift cfg 88 0) (fun (v : AV) (H : AH) => (fun (r : AV × AH) => kRangeEnd 0 4 (fx 17 [(2, AV.ptr 1 0 0), (3, AV.ptr 2 0 0)]) (kBlock 0 (kSeq (fun (fr : List AV) (H : AH) => kCutTo (Cfg.cut cfg 46 (firstRid (sub (bodyOf Tryz.f46) [1, 1, 1]))) fr H fun (fr : List AV) (H : AH) => kCode cfg (EV cfg) (kfN cfg 6) 46 none 0 (sub (bodyOf Tryz.f46) [1, 1, 1]) fr H (kFinS cfg (Cfg.lift cfg 46 0) (Array.toList (Func.results Tryz.f46)))) (kFinS cfg (Cfg.lift cfg 46 0) (Array.toList (Func.results Tryz.f46))))) (Prod.snd r)) (v, H)) (Array.toList (Func.results (Prod.snd (88, Tryz.f88))))))
noncomputable def Wq33_0 : List AV × AH → Option AV := fun (p : List AV × AH) => kOpt (LOOP 5 (some [0, 3]) [(3, 4)] Lq33_0 p) Aq33_0
noncomputable def Lq33_1 : Den := evC cfg (EV cfg) 89 none 10 (sub (bodyOf Tryz.f89) [1, 0, 0])
noncomputable def Aq33_1 : Ex × List AV × AH → Option AV := kAft (Cfg.keepOut cfg 89 (firstRid (sub (bodyOf Tryz.f89) [1, 0, 0]))) (kBlock 0 (kFinG cfg (Cfg.lift cfg 89 0) (fun (v : AV) (H : AH) => (fun (r : AV × AH) => kRangeEnd 5 9 (fx 38 [(0, AV.yld 4), (3, AV.ptr 5 0 0)]) (kBlock 2 (kBlock 1 (kLp 5 (some [0, 3]) [(3, 4)] Lq33_0 Aq33_0))) (Prod.snd r)) (v, H)) (Array.toList (Func.results (Prod.snd (89, Tryz.f89))))))
noncomputable def Wq33_1 : List AV × AH → Option AV := fun (p : List AV × AH) => kOpt (LOOP 10 (some [0, 1, 3]) [] Lq33_1 p) Aq33_1
noncomputable abbrev wq33_0 (c0_0 : Int) (c0_1 : Int) (c0_2 : List UInt8) (c0_3 : List (List AV)) (c1_0 : Int) (c2_0 : Int) (c3_0 : Int) (c3_1 : Int) (c3_2 : List UInt8) (c3_3 : List (List AV)) (nc5_0 : Nat) (h6 : List (List AV)) : Option (AV) := Wq33_0  (((fx 38 [(0, AV.yld (4 : Nat)), (3, AV.ptr (5 : Nat) (0 : Nat) (0 : Nat))]) : List AV), ([ABlk.rows false (4 : Nat) [[AV.int IntKind.i64 c0_0, AV.int IntKind.i64 c0_1, AV.str c0_2, AV.sl c0_3]], ABlk.rows false (1 : Nat) [[AV.int IntKind.i64 c1_0]], ABlk.rows false (1 : Nat) [[AV.int IntKind.i64 c2_0]], ABlk.rows false (4 : Nat) [[AV.int IntKind.i64 c3_0, AV.int IntKind.i64 c3_1, AV.str c3_2, AV.sl c3_3]], rngB Tryz.f46 (46 : Nat) [(1 : Nat), (1 : Nat), (0 : Nat), (1 : Nat), (0 : Nat)] (fx 17 [(2, AV.ptr (1 : Nat) (0 : Nat) (0 : Nat)), (3, AV.ptr (2 : Nat) (0 : Nat) (0 : Nat))]) none LoopState.ready, ABlk.rows false (1 : Nat) [[AV.ms (6 : Nat) (0 : Nat) nc5_0]], ABlk.rows true (4 : Nat) h6] : AH))
noncomputable abbrev wq33_1 (v3 : Int) (c0_0 : Int) (c0_1 : Int) (c0_2 : List UInt8) (c0_3 : List (List AV)) (c1_0 : Int) (c2_0 : Int) (c3_0 : Int) (c3_1 : Int) (c3_2 : List UInt8) (c3_3 : List (List AV)) (nc5_0 : Nat) (h6 : List (List AV)) (c7_0 : Int) (c7_1 : Int) (c7_2 : List UInt8) (c7_3 : List (List AV)) (c8_0 : List (List AV)) : Option (AV) := Wq33_1  (((fx 19 [(0, AV.yld (9 : Nat)), (1, AV.ptr (8 : Nat) (0 : Nat) (0 : Nat)), (3, AV.int IntKind.i64 v3)]) : List AV), ([ABlk.rows false (4 : Nat) [[AV.int IntKind.i64 c0_0, AV.int IntKind.i64 c0_1, AV.str c0_2, AV.sl c0_3]], ABlk.rows false (1 : Nat) [[AV.int IntKind.i64 c1_0]], ABlk.rows false (1 : Nat) [[AV.int IntKind.i64 c2_0]], ABlk.rows false (4 : Nat) [[AV.int IntKind.i64 c3_0, AV.int IntKind.i64 c3_1, AV.str c3_2, AV.sl c3_3]], rngB Tryz.f46 (46 : Nat) [(1 : Nat), (1 : Nat), (0 : Nat), (1 : Nat), (0 : Nat)] (fx 17 [(2, AV.ptr (1 : Nat) (0 : Nat) (0 : Nat)), (3, AV.ptr (2 : Nat) (0 : Nat) (0 : Nat))]) none LoopState.ready, ABlk.rows false (1 : Nat) [[AV.ms (6 : Nat) (0 : Nat) nc5_0]], ABlk.rows true (4 : Nat) h6, ABlk.rows false (4 : Nat) [[AV.int IntKind.i64 c7_0, AV.int IntKind.i64 c7_1, AV.str c7_2, AV.sl c7_3]], ABlk.rows false (1 : Nat) [[AV.sl c8_0]], rngB Tryz.f88 (88 : Nat) [(1 : Nat), (0 : Nat), (0 : Nat), (1 : Nat), (0 : Nat), (1 : Nat), (1 : Nat), (1 : Nat), (1 : Nat), (0 : Nat)] (fx 38 [(3, AV.ptr (5 : Nat) (0 : Nat) (0 : Nat))]) none LoopState.ready] : AH))
noncomputable abbrev wq33_1a (v3 : Int) (c0_0 : Int) (c0_1 : Int) (c0_2 : List UInt8) (c0_3 : List (List AV)) (c1_0 : Int) (c2_0 : Int) (c3_0 : Int) (c3_1 : Int) (c3_2 : List UInt8) (c3_3 : List (List AV)) (nc5_0 : Nat) (c7_0 : Int) (c7_1 : Int) (c7_2 : List UInt8) (c7_3 : List (List AV)) (c8_0 : List (List AV)) (h10 : List (List AV)) : Option (AV) := Wq33_1  (((fx 19 [(0, AV.yld (9 : Nat)), (1, AV.ptr (8 : Nat) (0 : Nat) (0 : Nat)), (3, AV.int IntKind.i64 v3)]) : List AV), ([ABlk.rows false (4 : Nat) [[AV.int IntKind.i64 c0_0, AV.int IntKind.i64 c0_1, AV.str c0_2, AV.sl c0_3]], ABlk.rows false (1 : Nat) [[AV.int IntKind.i64 c1_0]], ABlk.rows false (1 : Nat) [[AV.int IntKind.i64 c2_0]], ABlk.rows false (4 : Nat) [[AV.int IntKind.i64 c3_0, AV.int IntKind.i64 c3_1, AV.str c3_2, AV.sl c3_3]], rngB Tryz.f46 (46 : Nat) [(1 : Nat), (1 : Nat), (0 : Nat), (1 : Nat), (0 : Nat)] (fx 17 [(2, AV.ptr (1 : Nat) (0 : Nat) (0 : Nat)), (3, AV.ptr (2 : Nat) (0 : Nat) (0 : Nat))]) none LoopState.ready, ABlk.rows false (1 : Nat) [[AV.ms (10 : Nat) (0 : Nat) nc5_0]], ABlk.dead, ABlk.rows false (4 : Nat) [[AV.int IntKind.i64 c7_0, AV.int IntKind.i64 c7_1, AV.str c7_2, AV.sl c7_3]], ABlk.rows false (1 : Nat) [[AV.sl c8_0]], rngB Tryz.f88 (88 : Nat) [(1 : Nat), (0 : Nat), (0 : Nat), (1 : Nat), (0 : Nat), (1 : Nat), (1 : Nat), (1 : Nat), (1 : Nat), (0 : Nat)] (fx 38 [(3, AV.ptr (5 : Nat) (0 : Nat) (0 : Nat))]) none LoopState.ready, ABlk.rows true (4 : Nat) h10] : AH))
theorem term_sound_run (kt : Int) (nt : Int) (st : List UInt8) (lt : List (List AV)) {P : AV → Prop} (h : Gets (bif kt == (1 : Int) then bif decide (nt ≥ (-576460752303423488 : Int)) then bif decide (nt ≤ (576460752303423487 : Int)) then bif st == [] then some (.bool ((↑(List.length lt) : Int) 
  == (0 : Int))) else some (.bool false) else some (.bool false) else some (.bool false) else bif kt == (2 : Int) then bif nt == (0 : Int) then bif decide ((↑(List.length st) : Int) ≤ 
  (64 : Int)) then some (.bool ((↑(List.length lt) : Int) == (0 : Int))) else some (.bool false) else some (.bool false) else bif kt == (3 : Int) then bif decide (nt ≥ (0 : Int)) then 
  bif decide (nt ≤ (1073741824 : Int)) then bif st == [] then bif (↑(List.length lt) : Int) == (0 : Int) then some (.bool true) else bif kt == (5 : Int) then some (.bool (decide ((↑(List.length 
  lt) : Int) ≤ (64 : Int)))) else some (.bool false) else some (.bool false) else some (.bool false) else some (.bool false) else bif kt == (4 : Int) then bif decide (nt ≥ (0 : Int)) 
  then bif decide (nt ≤ (1073741824 : Int)) then bif st == [] then bif (↑(List.length lt) : Int) == (0 : Int) then some (.bool true) else bif kt == (5 : Int) then some (.bool (decide 
  ((↑(List.length lt) : Int) ≤ (64 : Int)))) else some (.bool false) else some (.bool false) else some (.bool false) else some (.bool false) else bif kt == (6 : Int) then bif decide (nt 
  ≥ (0 : Int)) then bif decide (nt ≤ (1073741824 : Int)) then bif st == [] then bif (↑(List.length lt) : Int) == (0 : Int) then some (.bool true) else bif kt == (5 : Int) then some (.bool 
  (decide ((↑(List.length lt) : Int) ≤ (64 : Int)))) else some (.bool false) else some (.bool false) else some (.bool false) else some (.bool false) else bif kt == (5 : Int) then bif 
  decide (nt ≥ (0 : Int)) then bif decide (nt ≤ (1073741824 : Int)) then bif st == [] then bif (↑(List.length lt) : Int) == (0 : Int) then some (.bool true) else bif kt == (5 : Int) then 
  some (.bool (decide ((↑(List.length lt) : Int) ≤ (64 : Int)))) else some (.bool false) else some (.bool false) else some (.bool false) else some (.bool false) else bif kt == (7 : Int) 
  then bif nt == (0 : Int) then bif st == [] then some (.bool (decide ((↑(List.length lt) : Int) ≤ (64 : Int)))) else some (.bool false) else some (.bool false) else bif kt == (8 : Int) 
  then bif nt == (0 : Int) then bif st == [] then some (.bool ((↑(List.length lt) : Int) == (0 : Int))) else some (.bool false) else some (.bool false) else bif kt == (9 : Int) then bif 
  nt == (0 : Int) then bif st == [] then some (.bool ((↑(List.length lt) : Int) == (2 : Int))) else some (.bool false) else some (.bool false) else some (.bool false)) P) : Gets (EVs (EV cfg) 67 ([AV.agg [AV.int IntKind.i64 kt, AV.int IntKind.i64 nt, AV.str st, AV.sl lt]] : List AV)) P :=
  Gets.ev (fun _ h => funS rfl rfl Tryz.func67 rfl h) (Gets.eq (by kernel_rfl) h)
theorem term_own_run (kt : Int) (nt : Int) (st : List UInt8) (lt : List (List AV)) {P : AV → Prop} (h : Gets (bif kt == (7 : Int) then some (.int .i64 (2 : Int)) else bif kt == (5 : Int) then some (.int .i64 (2 : Int)) else some (.int .i64 (1 : Int))) P) : Gets (EVs (EV cfg) 68 ([AV.agg [AV.int IntKind.i64 kt, AV.int IntKind.i64 nt, AV.str st, AV.sl lt]] : List AV)) P :=
  Gets.ev (fun _ h => funS rfl rfl Tryz.func68 rfl h) (Gets.eq (by kernel_rfl) h)
theorem term_Check_run (kt : Int) (nt : Int) (st : List UInt8) (lt : List (List AV)) {P : AV → Prop} (h : Gets (wq33_0 kt nt st lt (0 : Int) (0 : Int) kt nt st lt 1 [[.int .i64 kt, .int .i64 nt, .str st, .sl lt]]) P) : Gets (EVs (EV cfg) 46 ([AV.agg [AV.int IntKind.i64 kt, AV.int IntKind.i64 nt, AV.str st, AV.sl lt]] : List AV)) P :=
  Gets.ev (fun _ h => funS rfl rfl Tryz.func46 rfl h) (Gets.eq (by kernel_rfl) h)
theorem wq33_0_step (c0_0 : Int) (c0_1 : Int) (c0_2 : List UInt8) (c0_3 : List (List AV)) (c1_0 : Int) (c2_0 : Int) (c3_0 : Int) (c3_1 : Int) (c3_2 : List UInt8) (c3_3 : List (List AV)) (nc5_0 : Nat) (h6 : List (List AV)) {P : AV → Prop} (h : Gets (bif decide ((↑nc5_0 : Int) > (0 : Int)) then bif leInt (0 : Int) (IntKind.wrap .i64 ((↑nc5_0 : Int) - (1 : Int))) && ltInt (IntKind.wrap .i64 ((↑nc5_0 : Int) - (1 : Int))) (↑nc5_0 : 
  Int) then kOpt (List.get?Internal h6 (0 + Int.toNat (IntKind.wrap .i64 ((↑nc5_0 : Int) - (1 : Int))))) fun (row : List AV) => bif Nat.ble 4 (List.length row) then kTmC (List.take 4 
  row) fun (n n_1 : Int) (s : List UInt8) (rows : List (List AV)) => (bif leInt (0 : Int) (IntKind.wrap .i64 ((↑nc5_0 : Int) - (1 : Int))) && leInt (IntKind.wrap .i64 ((↑nc5_0 : Int) 
  - (1 : Int))) (↑nc5_0 : Int) then kOpt (EVs (EV cfg) 67 [.agg [.int .i64 n, .int .i64 n_1, .str s, .sl rows]]) fun (v : AV) => kBool v fun (b : Bool) => bif !b then some (.int .i64 
  (2 : Int)) else kOpt (EVs (EV cfg) 68 [.agg [.int .i64 n, .int .i64 n_1, .str s, .sl rows]]) fun (v : AV) => kInt .i64 v fun (n_2 : Int) => wq33_1 (IntKind.wrap .i64 ((↑(List.length 
  rows) : Int) - (1 : Int))) c0_0 c0_1 c0_2 c0_3 c1_0 (IntKind.wrap .i64 (c2_0 + n_2)) c3_0 c3_1 c3_2 c3_3 (Int.toNat (IntKind.wrap .i64 ((↑nc5_0 : Int) - (1 : Int))) - 0) h6 n n_1 s 
  rows rows else none) else none else none else bif decide (c2_0 > (65536 : Int)) then some (.int .i64 (3 : Int)) else some (.int .i64 (0 : Int))) P) : Gets (wq33_0 c0_0 c0_1 c0_2 c0_3 c1_0 c2_0 c3_0 c3_1 c3_2 c3_3 nc5_0 h6) P :=
  Gets.ev (fun _ h => loop_step (cfg := cfg) (f := 88) (rd := none) (bs := 5) h) (Gets.eq (by kernel_rfl) h)
theorem wq33_1_step (v3 : Int) (c0_0 : Int) (c0_1 : Int) (c0_2 : List UInt8) (c0_3 : List (List AV)) (c1_0 : Int) (c2_0 : Int) (c3_0 : Int) (c3_1 : Int) (c3_2 : List UInt8) (c3_3 : List (List AV)) (nc5_0 : Nat) (h6 : List (List AV)) (c7_0 : Int) (c7_1 : Int) (c7_2 : List UInt8) (c7_3 : List (List AV)) (c8_0 : List (List AV)) {P : AV → Prop} (h : Gets (bif decide (v3 ≥ (0 : Int)) then bif leInt (0 : Int) v3 && ltInt v3 (↑(List.length c8_0) : Int) then kOpt (List.get?Internal c8_0 (Int.toNat v3)) fun (row : List AV) => bif Nat.beq 
  (List.length row) 4 then bif Nat.ble 4 (List.length row) then kTmC (List.take 4 row) fun (n n_1 : Int) (s : List UInt8) (rows : List (List AV)) => (bif Nat.ble (0 + nc5_0) (List.length 
  h6) && fitsIn (nc5_0 + 1) 56 then bif leInt (0 : Int) (↑nc5_0 : Int) && ltInt (↑nc5_0 : Int) (↑(nc5_0 + 1) : Int) then kOpt (List.get?Internal (List.append (List.take nc5_0 h6) [[.int 
  .i64 (0 : Int), .int .i64 (0 : Int), .str [], .nilS]]) (0 + Int.toNat (↑nc5_0 : Int))) fun (row : List AV) => bif Nat.ble 4 (List.length row) then wq33_1a (IntKind.wrap .i64 (v3 - (1 
  : Int))) c0_0 c0_1 c0_2 c0_3 c1_0 c2_0 c3_0 c3_1 c3_2 c3_3 (nc5_0 + 1) c7_0 c7_1 c7_2 c7_3 c8_0 (List.set (List.append (List.take nc5_0 h6) [[.int .i64 (0 : Int), .int .i64 (0 : Int), 
  .str [], .nilS]]) (0 + Int.toNat (↑nc5_0 : Int)) (.int .i64 n :: .int .i64 n_1 :: .str s :: .sl rows :: List.drop 4 row)) else none else none else none) else none else none else none 
  else wq33_0 c0_0 c0_1 c0_2 c0_3 c1_0 c2_0 c3_0 c3_1 c3_2 c3_3 nc5_0 h6) P) : Gets (wq33_1 v3 c0_0 c0_1 c0_2 c0_3 c1_0 c2_0 c3_0 c3_1 c3_2 c3_3 nc5_0 h6 c7_0 c7_1 c7_2 c7_3 c8_0) P :=
  Gets.ev (fun _ h => loop_step (cfg := cfg) (f := 89) (rd := none) (bs := 10) h) (Gets.eq (by kernel_rfl) h)
theorem wq33_1a_step (v3 : Int) (c0_0 : Int) (c0_1 : Int) (c0_2 : List UInt8) (c0_3 : List (List AV)) (c1_0 : Int) (c2_0 : Int) (c3_0 : Int) (c3_1 : Int) (c3_2 : List UInt8) (c3_3 : List (List AV)) (nc5_0 : Nat) (c7_0 : Int) (c7_1 : Int) (c7_2 : List UInt8) (c7_3 : List (List AV)) (c8_0 : List (List AV)) (h10 : List (List AV)) {P : AV → Prop} (h : Gets (bif decide (v3 ≥ (0 : Int)) then bif leInt (0 : Int) v3 && ltInt v3 (↑(List.length c8_0) : Int) then kOpt (List.get?Internal c8_0 (Int.toNat v3)) fun (row : List AV) => bif Nat.beq 
  (List.length row) 4 then bif Nat.ble 4 (List.length row) then kTmC (List.take 4 row) fun (n n_1 : Int) (s : List UInt8) (rows : List (List AV)) => (bif Nat.ble (0 + nc5_0) (List.length 
  h10) && fitsIn (nc5_0 + 1) 56 then bif leInt (0 : Int) (↑nc5_0 : Int) && ltInt (↑nc5_0 : Int) (↑(nc5_0 + 1) : Int) then kOpt (List.get?Internal (List.append (List.take nc5_0 h10) [[.int 
  .i64 (0 : Int), .int .i64 (0 : Int), .str [], .nilS]]) (0 + Int.toNat (↑nc5_0 : Int))) fun (row : List AV) => bif Nat.ble 4 (List.length row) then wq33_1a (IntKind.wrap .i64 (v3 - (1 
  : Int))) c0_0 c0_1 c0_2 c0_3 c1_0 c2_0 c3_0 c3_1 c3_2 c3_3 (nc5_0 + 1) c7_0 c7_1 c7_2 c7_3 c8_0 (List.set (List.append (List.take nc5_0 h10) [[.int .i64 (0 : Int), .int .i64 (0 : Int), 
  .str [], .nilS]]) (0 + Int.toNat (↑nc5_0 : Int)) (.int .i64 n :: .int .i64 n_1 :: .str s :: .sl rows :: List.drop 4 row)) else none else none else none) else none else none else none 
  else wq33_0 c0_0 c0_1 c0_2 c0_3 c1_0 c2_0 c3_0 c3_1 c3_2 c3_3 nc5_0 h10) P) : Gets (wq33_1a v3 c0_0 c0_1 c0_2 c0_3 c1_0 c2_0 c3_0 c3_1 c3_2 c3_3 nc5_0 c7_0 c7_1 c7_2 c7_3 c8_0 h10) P :=
  Gets.ev (fun _ h => loop_step (cfg := cfg) (f := 89) (rd := none) (bs := 10) h) (Gets.eq (by kernel_rfl) h)
end Go.Proofs.YtonmmmgffeoiiaaGreat
end

section
namespace Go.Av
def Tells (p : Prop) (v : AV) : Prop := ∃ b : Bool, v = .bool b ∧ (b = true ↔ p)
theorem tells_bool {p : Prop} {b : Bool} : Tells p (.bool b) ↔ (b = true ↔ p) := ⟨fun ⟨_, h1, h2⟩ => by cases h1; exact h2, fun h => ⟨b, rfl, h⟩⟩
end Go.Av
namespace Go.Proofs.YtonmmmgffeoiiaaGreat
open Go.Av

theorem fits56 {n : Nat} (h : n ≤ 1099511627776) : fitsIn n 56 = true := by
  unfold fitsIn
  rw [Bool.and_eq_true, Nat.ble_eq, Nat.ble_eq]
  omega

theorem av_unf (t : Tm) : (AV.agg [.int .i64 t.kind, .int .i64 t.num, .str t.str, .sl (rowsT t.subs)]) = t.av := by rw [Tm.av, Tm.cells_eq]
end Go.Proofs.YtonmmmgffeoiiaaGreat
end

section
namespace Go.Proofs.YtonmmmgffeoiiaaGreat
open Go.Av

theorem sound_ev (t : Tm) : EVs (EV cfg) 67 [t.av] = some (.bool t.sound) := by
  obtain ⟨k, n, s, l⟩ := t
  apply Gets.get
  rw [Tm.av_mk]
  refine term_sound_run _ _ _ _ ?_
  simp only [Tm.sound, Tm.kind_mk, Tm.num_mk, Tm.str_mk, Tm.subs_mk, rowsT_length, beqI, beqNil, soundB]
  by_cases h1 : k = 1
  · subst h1; simp [bif_some'] <;> (try rw [Bool.eq_iff_iff]) <;> (try simp) <;> first | omega | grind
  by_cases h2 : k = 2
  · subst h2; simp [bif_some'] <;> (try rw [Bool.eq_iff_iff]) <;> (try simp) <;> first | omega | grind
  by_cases h3 : k = 3
  · subst h3; simp [bif_some'] <;> (try rw [Bool.eq_iff_iff]) <;> (try simp) <;> first | omega | grind
  by_cases h4 : k = 4
  · subst h4; simp [bif_some'] <;> (try rw [Bool.eq_iff_iff]) <;> (try simp) <;> first | omega | grind
  by_cases h6 : k = 6
  · subst h6; simp [bif_some'] <;> (try rw [Bool.eq_iff_iff]) <;> (try simp) <;> first | omega | grind
  by_cases h5 : k = 5
  · subst h5
    cases l with
    | nil => simp [bif_some'] <;> (try rw [Bool.eq_iff_iff]) <;> (try simp) <;> first | omega | grind
    | cons x l =>
      have hx : ¬ ((l.length : Int) + 1 = 0) := by omega
      simp [hx, bif_some'] <;> (try rw [Bool.eq_iff_iff]) <;> (try simp) <;> first | omega | grind
  by_cases h7 : k = 7
  · subst h7; simp [bif_some'] <;> (try rw [Bool.eq_iff_iff]) <;> (try simp) <;> first | omega | grind
  by_cases h8 : k = 8
  · subst h8; simp [bif_some'] <;> (try rw [Bool.eq_iff_iff]) <;> (try simp) <;> first | omega | grind
  by_cases h9 : k = 9
  · subst h9; simp [bif_some'] <;> (try rw [Bool.eq_iff_iff]) <;> (try simp) <;> first | omega | grind
  simp [h1, h2, h3, h4, h5, h6, h7, h8, h9]
theorem own_ev (t : Tm) : EVs (EV cfg) 68 [t.av] = some (.int .i64 t.own) := by
  obtain ⟨k, n, s, l⟩ := t
  apply Gets.get
  rw [Tm.av_mk]
  refine term_own_run _ _ _ _ ?_
  simp only [Tm.own, Tm.kind_mk, beqI]
  by_cases h7 : k = 7
  · simp [h7]
  · by_cases h5 : k = 5
    · simp [h5]
    · simp [h7, h5]
end Go.Proofs.YtonmmmgffeoiiaaGreat
end

section
namespace Go.Proofs.YtonmmmgffeoiiaaGreat
open Go.Av

theorem app_get0 (l : List (List AV)) (z : List AV) : (l ++ [z])[l.length]? = some z := by simp
theorem app_set0 (l : List (List AV)) (z c : List AV) : (l ++ [z]).set l.length c = l ++ [c] := by simp

theorem push_a {t x : Tm} (hx : x.subs.length < 1099511627776) {wd : Int} {P : AV → Prop} : ∀ (j : Nat) (R : List Tm), j ≤ x.subs.length → R.length + j < 1099511627776 →
    Gets (wq33_0 t.kind t.num t.str (rowsT t.subs) 0 wd t.kind t.num t.str (rowsT t.subs) (R.length + j) (rowsT (R ++ (x.subs.take j).reverse))) P →
    Gets (wq33_1a ((j : Int) - 1) t.kind t.num t.str (rowsT t.subs) 0 wd t.kind t.num t.str (rowsT t.subs) R.length x.kind x.num x.str (rowsT x.subs) (rowsT x.subs) (rowsT R)) P
  | 0, R, _, _, h => by
    refine wq33_1a_step _ _ _ _ _ _ _ _ _ _ _ _ _ _ _ _ _ _ ?_
    simpa using h
  | j + 1, R, hj, hR, h => by
    have ih := push_a (t := t) hx (wd := wd) (P := P) j (R ++ [x.subs[j]]) (by omega) (by simp; omega)
    have e1 : x.subs.take (j + 1) = x.subs.take j ++ [x.subs[j]] := by rw [List.take_add_one, List.getElem?_eq_getElem (by omega)]; rfl
    have e4 : R ++ (x.subs.take j ++ [x.subs[j]]).reverse = R ++ x.subs[j] :: (x.subs.take j).reverse := by rw [List.reverse_append]; rfl
    rw [e1, e4, show R.length + (j + 1) = R.length + 1 + j by omega] at h
    refine wq33_1a_step _ _ _ _ _ _ _ _ _ _ _ _ _ _ _ _ _ _ ?_
    have hw : IntKind.wrap .i64 ((j : Int) - 1) = (j : Int) - 1 := wrap64 (by omega) (by omega)
    have hjl : j < x.subs.length := by omega
    have e2 : ((j + 1 : Nat) : Int) - 1 = j := by omega
    rw [e2]
    have ht : List.take R.length (rowsT R) = rowsT R := List.take_of_length_le (by simp)
    have g0 := app_get0 (rowsT R) [.int .i64 0, .int .i64 0, .str [], .nilS]
    have s0 := app_set0 (rowsT R) [.int .i64 0, .int .i64 0, .str [], .nilS] x.subs[j].cells
    rw [rowsT_length] at g0 s0
    simp [hjl, hw, fits56 (show R.length + 1 ≤ 1099511627776 by omega), ht] at ih ⊢
    exact ih h

theorem push_m {t x : Tm} (hx : x.subs.length < 1099511627776) {wd : Int} {P : AV → Prop} {R : List Tm} {Z : List (List AV)} (hR : R.length + x.subs.length < 1099511627776)
    (h0 : x.subs = [] → Gets (wq33_0 t.kind t.num t.str (rowsT t.subs) 0 wd t.kind t.num t.str (rowsT t.subs) R.length (rowsT R ++ Z)) P)
    (h : x.subs ≠ [] → Gets (wq33_0 t.kind t.num t.str (rowsT t.subs) 0 wd t.kind t.num t.str (rowsT t.subs) (R ++ x.subs.reverse).length (rowsT (R ++ x.subs.reverse))) P) :
    Gets (wq33_1 ((x.subs.length : Int) - 1) t.kind t.num t.str (rowsT t.subs) 0 wd t.kind t.num t.str (rowsT t.subs) R.length (rowsT R ++ Z) x.kind x.num x.str (rowsT x.subs) (rowsT x.subs)) P := by
  refine wq33_1_step _ _ _ _ _ _ _ _ _ _ _ _ _ _ _ _ _ _ ?_
  rcases Nat.eq_zero_or_pos x.subs.length with hz | hp
  · have hz' : x.subs = [] := List.length_eq_zero_iff.1 hz
    have := h0 hz'
    simpa [hz'] using this
  · obtain ⟨j, hj⟩ : ∃ j, x.subs.length = j + 1 := ⟨x.subs.length - 1, by omega⟩
    have hne : x.subs ≠ [] := by intro e; rw [e] at hp; simp at hp
    have hjl : j < x.subs.length := by omega
    have e2 : (x.subs.length : Int) - 1 = j := by omega
    have hw : IntKind.wrap .i64 ((j : Int) - 1) = (j : Int) - 1 := wrap64 (by omega) (by omega)
    have ht : List.take R.length (rowsT R ++ Z) = rowsT R := by rw [List.take_append_of_le_length (by simp), List.take_of_length_le (by simp)]
    have e5 : x.subs = x.subs.take j ++ [x.subs[j]] := by
      have : x.subs.take (j + 1) = x.subs := List.take_of_length_le (by omega)
      rw [List.take_add_one, List.getElem?_eq_getElem hjl] at this
      exact this.symm
    have e6 : R ++ x.subs.reverse = R ++ [x.subs[j]] ++ (x.subs.take j).reverse := by
      conv => lhs; rw [e5]
      rw [List.reverse_append, List.append_assoc]; rfl
    have := push_a (t := t) hx (wd := wd) (P := P) j (R ++ [x.subs[j]]) (by omega) (by simp; omega) (by
      have h := h hne
      rw [e6] at h
      have e7 : (R ++ [x.subs[j]] ++ (x.subs.take j).reverse).length = (R ++ [x.subs[j]]).length + j := by
        rw [List.length_append, List.length_reverse, List.length_take]; omega
      rw [e7] at h
      exact h)
    rw [e2]
    simp at this
    simp [hjl, hw, fits56 (show R.length + 1 ≤ 1099511627776 by omega), ht]
    exact this

theorem check_m {t : Tm} : ∀ (n : Nat) (R : List Tm) (Z : List (List AV)) (wd : Nat), wL R ≤ n → n < 1099511627776 → wd + 2 * wL R < 9007199254740992 →
    Gets (wq33_0 t.kind t.num t.str (rowsT t.subs) 0 (wd : Int) t.kind t.num t.str (rowsT t.subs) R.length (rowsT R ++ Z)) (· = .int .i64 (chkS R wd)) := by
  intro n
  induction n with
  | zero =>
    intro R Z wd hn _ _
    have : R = [] := by
      have := wL_len R
      exact List.length_eq_zero_iff.1 (by omega)
    subst this
    refine wq33_0_step _ _ _ _ _ _ _ _ _ _ _ _ ?_
    by_cases h : 65536 < wd
    · have h' : (65536 : Int) < wd := by omega
      simp [h, h', chkS, partsL, wordsL]
    · have h' : ¬ (65536 : Int) < wd := by omega
      simp [h, h', chkS, partsL, wordsL]
  | succ n ih =>
    intro R Z wd hn hN hw
    rcases List.eq_nil_or_concat R with rfl | ⟨R0, x, rfl⟩
    · refine wq33_0_step _ _ _ _ _ _ _ _ _ _ _ _ ?_
      by_cases h : 65536 < wd
      · have h' : (65536 : Int) < wd := by omega
        simp [h, h', chkS, partsL, wordsL]
      · have h' : ¬ (65536 : Int) < wd := by omega
        simp [h, h', chkS, partsL, wordsL]
    · rw [List.concat_eq_append] at *
      have hwx := x.w_eq
      have ho := x.own_le
      simp only [wL_append, wL_cons, wL_nil] at hn hw
      have hl0 := wL_len R0
      have hls := wL_len x.subs
      have hsd := sound_ev x
      have how := own_ev x
      refine wq33_0_step _ _ _ _ _ _ _ _ _ _ _ _ ?_
      have e1 : (R0 ++ [x]).length = R0.length + 1 := by simp
      have hw1 : IntKind.wrap .i64 (R0.length : Int) = R0.length := wrapN (by omega)
      have hw2 : IntKind.wrap .i64 ((wd : Int) + x.own) = ((wd + x.own : Nat) : Int) := by rw [wrap64 (by omega) (by omega)]; omega
      have hw3 : IntKind.wrap .i64 ((x.subs.length : Int) - 1) = (x.subs.length : Int) - 1 := wrap64 (by omega) (by omega)
      have g : (rowsT (R0 ++ [x]) ++ Z)[R0.length]? = some x.cells := by
        rw [List.getElem?_append_left (by simp), rowsT_get]; simp
      cases hs : x.sound with
      | false =>
        rw [hs] at hsd
        simp [e1, hw1, g, hsd, chkS_bad hs]
      | true =>
        rw [hs] at hsd
        have e3 : rowsT (R0 ++ [x]) ++ Z = rowsT R0 ++ (x.cells :: Z) := by rw [rowsT_append, List.append_assoc, rowsT_cons, rowsT_nil]; rfl
        have := push_m (t := t) (x := x) (R := R0) (Z := x.cells :: Z) (wd := ((wd + x.own : Nat) : Int)) (P := (· = .int .i64 (chkS (R0 ++ [x]) wd))) (by omega) (by omega)
          (fun hz => by
            have := ih R0 (x.cells :: Z) (wd + x.own) (by omega) (by omega) (by omega)
            rw [← chkS_step hs, hz, List.reverse_nil, List.append_nil]
            exact this)
          (fun hz => by
            have := ih (R0 ++ x.subs.reverse) [] (wd + x.own) (by rw [wL_append, wL_rev]; omega) (by omega) (by rw [wL_append, wL_rev]; omega)
            rw [← chkS_step hs]
            rw [List.append_nil] at this
            exact this)
        simp only [e1, e3] at g ⊢
        simp only [Int.natCast_add] at hw2 this
        simp [hw1, g, hsd, how, hw2, hw3]
        exact this

theorem check_ev {t : Tm} (h : t.w < 1099511627776) : EVs (EV cfg) 46 [t.av] = some (.int .i64 t.chk) := by
  have := check_m (t := t) _ [t] [] 0 (Nat.le_refl _) (by simpa using h) (by simp; omega)
  apply Gets.get
  rw [Tm.av, Tm.cells_eq]
  refine term_Check_run _ _ _ _ ?_
  rw [← Tm.cells_eq, rowsT_one, Tm.chk]
  simpa using this
end Go.Proofs.YtonmmmgffeoiiaaGreat
end

section
namespace Go.Proofs.YtonmmmgffeoiiaaGreat
open Go.Av
theorem number_step {s h0 : List UInt8} {b : UInt8} {v : Int} {i : Nat} {P : AV → Prop} (hv : 0 ≤ v ∧ v ≤ 9) (hlen : (List.take (s.length - 1) (s.drop 1)).length = h0.length) (hl : h0.length ≤ 2) (hb : h0[i]? = some b)
    (h : Gets (match digitG b with | none => some (AV.tup [.int .i64 0, .bool false]) | some x => wp71_0 s (v * 10 + x) ((i + 1 : Nat) : Int) (h0.map fun b => [.int .u8 (b.toNat : Int)])) P) : Gets (wp71_0 s v i (h0.map fun b => [.int .u8 (b.toNat : Int)])) P := by
  have hi : i < h0.length := (List.getElem?_eq_some_iff.1 hb).1
  refine wp71_0_step _ _ _ _ ?_
  have hbl := b.toNat_lt
  rw [hlen, decide_eq_true (show (i : Int) < (h0.length : Int) by omega), leInt_zero, ltInt_nat, decide_eq_true hi]
  simp only [cond_true, Bool.and_self, get?Internal_eq, Nat.zero_add, Int.toNat_natCast, List.getElem?_map, hb, Option.map_some, kOptSome, List.getElem?_cons_zero, kInt_int]
  unfold digitG at h
  by_cases h1 : b.toNat < 48
  · rw [if_pos h1] at h
    rw [decide_eq_true (show (b.toNat : Int) < 48 by omega)]; exact h
  · rw [if_neg h1] at h
    rw [decide_eq_false (show ¬ (b.toNat : Int) < 48 by omega), cond_false]
    by_cases h2 : b.toNat > 57
    · rw [if_pos h2] at h
      rw [decide_eq_true (show (b.toNat : Int) > 57 by omega)]; exact h
    · rw [if_neg h2] at h
      rw [decide_eq_false (show ¬ (b.toNat : Int) > 57 by omega), cond_false]
      have w1 : IntKind.wrap .i64 (v * 10) = v * 10 := wrap64 (by omega) (by omega)
      have w2 : IntKind.wrap .u8 ((b.toNat : Int) - 48) = (b.toNat : Int) - 48 := by
        simp [IntKind.wrap, IntKind.bits, IntKind.signed]; omega
      have w3 : IntKind.wrap .i64 ((b.toNat : Int) - 48) = (b.toNat : Int) - 48 := wrap64 (by omega) (by omega)
      have w4 : IntKind.wrap .i64 (v * 10 + ((b.toNat : Int) - 48)) = v * 10 + ((b.toNat : Int) - 48) := wrap64 (by omega) (by omega)
      have w5 : IntKind.wrap .i64 ((i : Int) + 1) = ((i + 1 : Nat) : Int) := wrap_succ (n := 2) (by omega) (by omega)
      rw [w1, w2, w3, w4, w5]
      exact h
theorem number_end {s h0 : List UInt8} {v : Int} {i : Nat} (hlen : (List.take (s.length - 1) (s.drop 1)).length = h0.length) (hi : i = h0.length) : Gets (wp71_0 s v i (h0.map fun b => [.int .u8 (b.toNat : Int)])) (· = .tup [.int .i64 v, .bool true]) := by
  refine wp71_0_step _ _ _ _ ?_
  rw [hlen, decide_eq_false (by omega)]
  exact ⟨_, rfl, rfl⟩
def varR (o : Option Int) : AV := .tup [.int .i64 (o.getD 0), .bool o.isSome]
theorem patNumber_ev (s : List UInt8) : EVs (EV cfg) 110 [.str s] = some (varR (varG s)) := by
  apply Gets.get
  refine patNumber_run _ ?_
  match s with
  | [] => exact ⟨_, rfl, rfl⟩
  | [a] => exact ⟨_, rfl, rfl⟩
  | a :: b :: c :: d :: l =>
    have h1 : ¬ ((a :: b :: c :: d :: l).length : Int) < 2 := by simp; omega
    have h2 : ((a :: b :: c :: d :: l).length : Int) > 3 := by simp; omega
    rw [decide_eq_false h1, decide_eq_true h2]
    exact ⟨_, rfl, rfl⟩
  | [a, b] =>
    by_cases h : a.toNat = 36
    · have e : (((a.toNat : Int)) != 36) = false := by rw [h]; rfl
      have hs := number_step (s := [a, b]) (h0 := [b]) (b := b) (v := 0) (i := 0) (P := (· = varR (varG [a, b]))) (by omega) rfl (by simp) rfl (by
        rw [varG2, if_pos h]
        cases hd : digitG b with
        | none => exact ⟨_, rfl, rfl⟩
        | some x =>
          refine (number_end (s := [a, b]) (h0 := [b]) rfl rfl).mono ?_
          rintro _ rfl
          show _ = varR (some x)
          simp [varR])
      show Gets (bif (((a.toNat : Int)) != 36) then _ else _) _
      rw [e]
      exact hs
    · have e : (((a.toNat : Int)) != 36) = true := by simpa using fun h' => h (by omega)
      show Gets (bif (((a.toNat : Int)) != 36) then _ else _) _
      rw [e]
      refine ⟨_, rfl, ?_⟩
      rw [varG2, if_neg h]; rfl
  | [a, b, c] =>
    by_cases h : a.toNat = 36
    · have e : (((a.toNat : Int)) != 36) = false := by rw [h]; rfl
      show Gets (bif (((a.toNat : Int)) != 36) then _ else bif (((b.toNat : Int)) == 48) then _ else _) _
      rw [e]
      by_cases hb : b.toNat = 48
      · have e2 : (((b.toNat : Int)) == 48) = true := by rw [hb]; rfl
        rw [e2]
        refine ⟨_, rfl, ?_⟩
        rw [varG3, if_neg (fun h => h.2 hb)]; rfl
      · have e2 : (((b.toNat : Int)) == 48) = false := by simpa using fun h' => hb (by omega)
        rw [e2]
        show Gets (wp71_0 [a, b, c] 0 0 ([b, c].map fun b => [.int .u8 (b.toNat : Int)])) _
        refine number_step (s := [a, b, c]) (h0 := [b, c]) (b := b) (v := 0) (i := 0) (by omega) rfl (by simp) rfl ?_
        rw [varG3, if_pos ⟨h, hb⟩]
        cases hd : digitG b with
        | none => exact ⟨_, rfl, rfl⟩
        | some x =>
          have hx := digitG_in hd
          refine number_step (s := [a, b, c]) (h0 := [b, c]) (b := c) (i := 1) (by omega) rfl (by simp) rfl ?_
          cases hd2 : digitG c with
          | none => exact ⟨_, rfl, by simp [varR, hd2]⟩
          | some y =>
            refine (number_end (s := [a, b, c]) (h0 := [b, c]) rfl rfl).mono ?_
            rintro _ rfl
            simp [varR, hd2]
    · have e : (((a.toNat : Int)) != 36) = true := by simpa using fun h' => h (by omega)
      show Gets (bif (((a.toNat : Int)) != 36) then _ else _) _
      rw [e]
      refine ⟨_, rfl, ?_⟩
      rw [varG3, if_neg (fun h' => h h'.1)]; rfl
theorem patMay_ev {t : Tm} (h : t.w < 1099511627776) : EVs (EV cfg) 108 [t.av] = some (.bool (decide (t.chk = 0))) := by
  have hc := check_ev h
  apply Gets.get
  rw [Tm.av, Tm.cells_eq] at hc ⊢
  refine patMay_run _ _ _ _ ?_
  rw [hc]
  simp [beqI]
theorem patVar_ev {t : Tm} (h : t.w < 1099511627776) : EVs (EV cfg) 106 [t.av] = some (varR (varT t)) := by
  have hc := patMay_ev h
  apply Gets.get
  rw [Tm.av, Tm.cells_eq] at hc ⊢
  refine patVar_run _ _ _ _ ?_
  rw [hc, patNumber_ev]
  unfold varT
  by_cases h1 : t.kind = 2
  · by_cases h2 : t.chk = 0
    · simp [h1, h2, varR, kTup, kCons, kNil]
    · simp [h1, h2, varR]
  · have h1' : (t.kind != 2) = true := by simpa using h1
    rw [h1']
    simp [h1, varR]
end Go.Proofs.YtonmmmgffeoiiaaGreat
end

section
namespace Go.Proofs.YtonmmmgffeoiiaaGreat
open Go.Av
set_option maxRecDepth 100000
set_option maxHeartbeats 0

noncomputable def Lg65_0 : Den := evC cfg (EV cfg) 153 none 0 (sub (bodyOf Tryz.f153) [1, 0, 1, 0, 0])
noncomputable def Ag65_0 : Ex × List AV × AH → Option AV := kAft (Cfg.keepOut cfg 153 2) (kRun cfg (EV cfg) (kfN cfg 6) 153 none 0 (kFinS cfg (Cfg.lift cfg 153 0) Tryz.f153.results.toList) ([.block 0, .seq (sub (bodyOf Tryz.f153) [1, 1])]))
noncomputable def Wg65_0 : List AV × AH → Option AV := fun p => kOpt (LOOP 0 (some [0, 1, 7, 8]) ([]) Lg65_0 p) Ag65_0
noncomputable abbrev wg65_0 (A : List (List AV)) (n : Int) (v8 : Int) : Option (AV) := Wg65_0  (((fx 19 [(0, AV.sl A), (1, AV.int IntKind.i64 n), (7, AV.int IntKind.i64 (↑(List.length A) : Int)), (8, AV.int IntKind.i64 v8)]) : List AV), ([] : AH))
theorem guard_Ops_run (op : List UInt8) {P : AV → Prop} (h : Gets (bif op == [(115 : UInt8), (101 : UInt8), (108 : UInt8), (102 : UInt8)] then some (.sl [[.int .i64 (0 : Int)]]) else bif op == [(105 : UInt8), (115 : UInt8), (95 : UInt8), (97 : UInt8), 
  (116 : UInt8), (111 : UInt8), (109 : UInt8)] then some (.sl [[.int .i64 (1 : Int)]]) else bif op == [(105 : UInt8), (115 : UInt8), (95 : UInt8), (105 : UInt8), (110 : UInt8), (116 : 
  UInt8), (101 : UInt8), (103 : UInt8), (101 : UInt8), (114 : UInt8)] then some (.sl [[.int .i64 (1 : Int)]]) else bif op == [(105 : UInt8), (115 : UInt8), (95 : UInt8), (108 : UInt8), 
  (105 : UInt8), (115 : UInt8), (116 : UInt8)] then some (.sl [[.int .i64 (1 : Int)]]) else bif op == [(105 : UInt8), (115 : UInt8), (95 : UInt8), (116 : UInt8), (117 : UInt8), (112 : 
  UInt8), (108 : UInt8), (101 : UInt8)] then some (.sl [[.int .i64 (1 : Int)]]) else bif op == [(105 : UInt8), (115 : UInt8), (95 : UInt8), (112 : UInt8), (105 : UInt8), (100 : UInt8)] 
  then some (.sl [[.int .i64 (1 : Int)]]) else bif op == [(105 : UInt8), (115 : UInt8), (95 : UInt8), (102 : UInt8), (117 : UInt8), (110 : UInt8), (99 : UInt8), (116 : UInt8), (105 : 
  UInt8), (111 : UInt8), (110 : UInt8)] then some (.sl [[.int .i64 (1 : Int)]]) else bif op == [(105 : UInt8), (115 : UInt8), (95 : UInt8), (114 : UInt8), (101 : UInt8), (102 : UInt8), 
  (101 : UInt8), (114 : UInt8), (101 : UInt8), (110 : UInt8), (99 : UInt8), (101 : UInt8)] then some (.sl [[.int .i64 (1 : Int)]]) else bif op == [(110 : UInt8), (111 : UInt8), (116 : 
  UInt8)] then some (.sl [[.int .i64 (1 : Int)]]) else bif op == [(98 : UInt8), (110 : UInt8), (111 : UInt8), (116 : UInt8)] then some (.sl [[.int .i64 (1 : Int)]]) else bif op == [(97 
  : UInt8), (98 : UInt8), (115 : UInt8)] then some (.sl [[.int .i64 (1 : Int)]]) else bif op == [(116 : UInt8), (117 : UInt8), (112 : UInt8), (108 : UInt8), (101 : UInt8), (95 : UInt8), 
  (115 : UInt8), (105 : UInt8), (122 : UInt8), (101 : UInt8)] then some (.sl [[.int .i64 (1 : Int)]]) else bif op == [(115 : UInt8), (105 : UInt8), (122 : UInt8), (101 : UInt8)] then 
  some (.sl [[.int .i64 (1 : Int)]]) else bif op == [(104 : UInt8), (100 : UInt8)] then some (.sl [[.int .i64 (1 : Int)]]) else bif op == [(116 : UInt8), (108 : UInt8)] then some (.sl 
  [[.int .i64 (1 : Int)]]) else bif op == [(108 : UInt8), (101 : UInt8), (110 : UInt8), (103 : UInt8), (116 : UInt8), (104 : UInt8)] then some (.sl [[.int .i64 (1 : Int)]]) else bif op 
  == [(43 : UInt8)] then some (.sl [[.int .i64 (1 : Int)], [.int .i64 (2 : Int)]]) else bif op == [(45 : UInt8)] then some (.sl [[.int .i64 (1 : Int)], [.int .i64 (2 : Int)]]) else bif 
  op == [(61 : UInt8), (61 : UInt8)] then some (.sl [[.int .i64 (2 : Int)]]) else bif op == [(61 : UInt8), (58 : UInt8), (61 : UInt8)] then some (.sl [[.int .i64 (2 : Int)]]) else bif 
  op == [(47 : UInt8), (61 : UInt8)] then some (.sl [[.int .i64 (2 : Int)]]) else bif op == [(61 : UInt8), (47 : UInt8), (61 : UInt8)] then some (.sl [[.int .i64 (2 : Int)]]) else bif 
  op == [(60 : UInt8)] then some (.sl [[.int .i64 (2 : Int)]]) else bif op == [(61 : UInt8), (60 : UInt8)] then some (.sl [[.int .i64 (2 : Int)]]) else bif op == [(62 : UInt8)] then some 
  (.sl [[.int .i64 (2 : Int)]]) else bif op == [(62 : UInt8), (61 : UInt8)] then some (.sl [[.int .i64 (2 : Int)]]) else bif op == [(97 : UInt8), (110 : UInt8), (100 : UInt8)] then some 
  (.sl [[.int .i64 (2 : Int)]]) else bif op == [(111 : UInt8), (114 : UInt8)] then some (.sl [[.int .i64 (2 : Int)]]) else bif op == [(120 : UInt8), (111 : UInt8), (114 : UInt8)] then 
  some (.sl [[.int .i64 (2 : Int)]]) else bif op == [(97 : UInt8), (110 : UInt8), (100 : UInt8), (97 : UInt8), (108 : UInt8), (115 : UInt8), (111 : UInt8)] then some (.sl [[.int .i64 
  (2 : Int)]]) else bif op == [(111 : UInt8), (114 : UInt8), (101 : UInt8), (108 : UInt8), (115 : UInt8), (101 : UInt8)] then some (.sl [[.int .i64 (2 : Int)]]) else bif op == [(42 : 
  UInt8)] then some (.sl [[.int .i64 (2 : Int)]]) else bif op == [(100 : UInt8), (105 : UInt8), (118 : UInt8)] then some (.sl [[.int .i64 (2 : Int)]]) else bif op == [(114 : UInt8), (101 
  : UInt8), (109 : UInt8)] then some (.sl [[.int .i64 (2 : Int)]]) else bif op == [(98 : UInt8), (97 : UInt8), (110 : UInt8), (100 : UInt8)] then some (.sl [[.int .i64 (2 : Int)]]) else 
  bif op == [(98 : UInt8), (111 : UInt8), (114 : UInt8)] then some (.sl [[.int .i64 (2 : Int)]]) else bif op == [(98 : UInt8), (120 : UInt8), (111 : UInt8), (114 : UInt8)] then some (.sl 
  [[.int .i64 (2 : Int)]]) else bif op == [(101 : UInt8), (108 : UInt8), (101 : UInt8), (109 : UInt8), (101 : UInt8), (110 : UInt8), (116 : UInt8)] then some (.sl [[.int .i64 (2 : Int)]]) 
  else some (.sl [])) P) : Gets (EVf (EV cfg) 139 ([AV.str op] : List AV)) P :=
  Gets.ev (fun _ h => funF rfl rfl Tryz.func139 rfl h) (Gets.eq (by kernel_rfl) h)
theorem containsI_run (A : List (List AV)) (n : Int) {P : AV → Prop} (h : Gets (kOpt (EVs (EV cfg) 153 [.sl A, .int .i64 n]) fun (v : AV) => kInt .i64 v fun (n : Int) => some (.bool (decide (n ≥ (0 : Int))))) P) : Gets (EVs (EV cfg) 137 ([AV.sl A, AV.int IntKind.i64 n] : List AV)) P :=
  Gets.ev (fun _ h => funS rfl rfl Tryz.func137 rfl h) (Gets.eq (by kernel_rfl) h)
theorem indexI_run (A : List (List AV)) (n : Int) {P : AV → Prop} (h : Gets (wg65_0 A n (0 : Int)) P) : Gets (EVs (EV cfg) 153 ([AV.sl A, AV.int IntKind.i64 n] : List AV)) P :=
  Gets.ev (fun _ h => funS rfl rfl Tryz.func153 rfl h) (Gets.eq (by kernel_rfl) h)
theorem wg65_0_step (A : List (List AV)) (n : Int) (v8 : Int) {P : AV → Prop} (h : Gets (bif decide (v8 < (↑(List.length A) : Int)) then bif leInt (0 : Int) v8 && ltInt v8 (↑(List.length A) : Int) then kOpt (List.get?Internal A (Int.toNat v8)) fun (row : List AV) => bif 
  Nat.beq (List.length row) 1 then kOpt (List.get?Internal row 0) fun (v : AV) => kInt .i64 v fun (n_1 : Int) => bif n == n_1 then some (.int .i64 v8) else wg65_0 A n (IntKind.wrap .i64 
  (v8 + (1 : Int))) else none else none else some (.int .i64 (-1 : Int))) P) : Gets (wg65_0 A n v8) P :=
  Gets.ev (fun _ h => loop_step (cfg := cfg) (f := 153) (rd := none) (bs := 0) h) (Gets.eq (by kernel_rfl) h)
end Go.Proofs.YtonmmmgffeoiiaaGreat
end

section
namespace Go.Proofs.YtonmmmgffeoiiaaGreat
open Go.Av
set_option maxRecDepth 100000
set_option maxHeartbeats 0

noncomputable def Lh64_0 : Den := evC cfg (EV cfg) 63 none 1 (sub (bodyOf Tryz.f63) [1, 1, 1, 0, 1, 0, 0])
noncomputable def Ah64_0 : Ex × List AV × AH → Option (AV × List (List AV)) := kAft (Cfg.keepOut cfg 63 6) (kRun cfg (EV cfg) (kfN cfg 6) 63 none 1 (kFinX cfg 1 (Cfg.lift cfg 63 0) Tryz.f63.results.toList) ([.block 0, .seq (sub (bodyOf Tryz.f63) [1, 1, 1, 1])]))
noncomputable def Wh64_0 : List AV × AH → Option (AV × List (List AV)) := fun p => kOpt (LOOP 1 (some [1, 2, 3, 4, 18, 19, 20]) ([]) Lh64_0 p) Ah64_0
noncomputable def Lh47_0 : Den := evC cfg (EV cfg) 51 none 0 (sub (bodyOf Tryz.f51) [1, 1, 1, 0, 1, 0, 0])
noncomputable def Ah47_0 : Ex × List AV × AH → Option AV := kAft (Cfg.keepOut cfg 51 5) (kRun cfg (EV cfg) (kfN cfg 6) 51 none 0 (kFinS cfg (Cfg.lift cfg 51 0) Tryz.f51.results.toList) ([.block 0, .seq (sub (bodyOf Tryz.f51) [1, 1, 1, 1])]))
noncomputable def Wh47_0 : List AV × AH → Option AV := fun p => kOpt (LOOP 0 (some [1, 2, 5, 6]) ([]) Lh47_0 p) Ah47_0
noncomputable abbrev wh64_0 (lt : List (List AV)) (v20 : Int) (c1_0 : Int) (c1_1 : Int) (c1_2 : List UInt8) (c1_3 : List (List AV)) (c2_0 : Int) (c2_1 : Int) (c2_2 : List UInt8) (c2_3 : List (List AV)) (h3 : List (List AV)) : Option (AV × List (List AV)) := Wh64_0  (((fx 35 [(1, AV.ptr (0 : Nat) (0 : Nat) (0 : Nat)), (2, AV.ptr (1 : Nat) (0 : Nat) (0 : Nat)), (3, AV.ptr (2 : Nat) (0 : Nat) (0 : Nat)), (4, AV.ms (3 : Nat) (0 : Nat) (Int.toNat (↑(List.length lt) : Int))), (18, AV.sl lt), (19, AV.int IntKind.i64 (↑(List.length lt) : Int)), (20, AV.int IntKind.i64 v20)]) : List AV), ([ABlk.rows false (1 : Nat) [[AV.fn (Fn.func 63) [] [AV.ptr (0 : Nat) (0 : Nat) (0 : Nat)]]], ABlk.rows false (4 : Nat) [[AV.int IntKind.i64 c1_0, AV.int IntKind.i64 c1_1, AV.str c1_2, AV.sl c1_3]], ABlk.rows false (4 : Nat) [[AV.int IntKind.i64 c2_0, AV.int IntKind.i64 c2_1, AV.str c2_2, AV.sl c2_3]], ABlk.rows true (4 : Nat) h3] : AH))
noncomputable abbrev wh47_0 (most : Int) (v5 : Int) (v6 : Int) (c0_0 : Int) (c0_1 : Int) (c0_2 : List UInt8) (c0_3 : List (List AV)) : Option (AV) := Wh47_0  (((fx 43 [(1, AV.int IntKind.i64 most), (2, AV.ptr (0 : Nat) (0 : Nat) (0 : Nat)), (5, AV.int IntKind.i64 v5), (6, AV.int IntKind.i64 v6)]) : List AV), ([ABlk.rows false (4 : Nat) [[AV.int IntKind.i64 c0_0, AV.int IntKind.i64 c0_1, AV.str c0_2, AV.sl c0_3]]] : AH))
theorem term_Copy_run (kt : Int) (nt : Int) (st : List UInt8) (lt : List (List AV)) {P : AV → Prop} (h : Gets (kOpt (EVk (EV cfg) 63 [.agg [.int .i64 kt, .int .i64 nt, .str st, .sl lt], .ptr 0 0 0] 1 [[AV.fn (Fn.func 63) [] [.ptr 0 0 0]]]) fun (q : AV) => kTmV q fun (n n_1 : Int) (s : List UInt8) 
  (rows : List (List AV)) => (some (.agg [.int .i64 n, .int .i64 n_1, .str s, .sl rows]))) P) : Gets (EVf (EV cfg) 42 ([AV.agg [AV.int IntKind.i64 kt, AV.int IntKind.i64 nt, AV.str st, AV.sl lt]] : List AV)) P :=
  Gets.ev (fun _ h => funF rfl rfl Tryz.func42 rfl h) (Gets.eq (by kernel_rfl) h)
theorem copyIn_run (kt : Int) (nt : Int) (st : List UInt8) (lt : List (List AV)) {P : AV × List (List AV) → Prop} (h : Gets (bif (↑(List.length lt) : Int) == (0 : Int) then bif AV.refsLt 0 (.agg [.int .i64 kt, .int .i64 nt, .str st, .sl []]) then some (.agg [.int .i64 kt, .int .i64 nt, .str st, .sl []], [[AV.fn 
  (Fn.func 63) [] [.ptr 0 0 0]]]) else none else bif leInt (0 : Int) (↑(List.length lt) : Int) && leInt (↑(List.length lt) : Int) (↑(List.length lt) : Int) && leInt ((↑(List.length lt) 
  : Int) * (56 : Int)) (140737488355328 : Int) && leInt (↑(List.length lt) : Int) (9223372036854775807 : Int) then wh64_0 lt (0 : Int) kt nt st lt (0 : Int) (0 : Int) [] [] (List.replicate 
  (Int.toNat (↑(List.length lt) : Int)) [.int .i64 (0 : Int), .int .i64 (0 : Int), .str [], .nilS]) else none) P) : Gets (EVx (EV cfg) 63 ([AV.agg [AV.int IntKind.i64 kt, AV.int IntKind.i64 nt, AV.str st, AV.sl lt], AV.ptr (0 : Nat) (0 : Nat) (0 : Nat)] : List AV) 1 [[(AV.fn (Fn.func 63) [] [AV.ptr 0 0 0])]]) P :=
  Gets.ev (fun _ h => funX rfl rfl Tryz.func63 rfl h) (Gets.eq (by kernel_rfl) h)
theorem kitBig_run (kt : Int) (nt : Int) (st : List UInt8) (lt : List (List AV)) (most : Int) {P : AV → Prop} (h : Gets (kOpt (EVs (EV cfg) 51 [.agg [.int .i64 kt, .int .i64 nt, .str st, .sl lt], .int .i64 (IntKind.wrap .i64 (most + (1 : Int)))]) fun (v : AV) => kInt .i64 v fun (n : Int) => some (.bool 
  (decide (n > most)))) P) : Gets (EVs (EV cfg) 27 ([AV.agg [AV.int IntKind.i64 kt, AV.int IntKind.i64 nt, AV.str st, AV.sl lt], AV.int IntKind.i64 most] : List AV)) P :=
  Gets.ev (fun _ h => funS rfl rfl Tryz.func27 rfl h) (Gets.eq (by kernel_rfl) h)
theorem kitSize_run (kt : Int) (nt : Int) (st : List UInt8) (lt : List (List AV)) (most : Int) {P : AV → Prop} (h : Gets (bif decide ((↑(List.length st) : Int) > (100 : Int)) then some (.int .i64 most) else bif decide ((↑(List.length lt) : Int) > most) then some (.int .i64 most) else wh47_0 most (1 : Int) 
  (0 : Int) kt nt st lt) P) : Gets (EVs (EV cfg) 51 ([AV.agg [AV.int IntKind.i64 kt, AV.int IntKind.i64 nt, AV.str st, AV.sl lt], AV.int IntKind.i64 most] : List AV)) P :=
  Gets.ev (fun _ h => funS rfl rfl Tryz.func51 rfl h) (Gets.eq (by kernel_rfl) h)
theorem wh64_0_step (lt : List (List AV)) (v20 : Int) (c1_0 : Int) (c1_1 : Int) (c1_2 : List UInt8) (c1_3 : List (List AV)) (c2_0 : Int) (c2_1 : Int) (c2_2 : List UInt8) (c2_3 : List (List AV)) (h3 : List (List AV)) {P : AV × List (List AV) → Prop} (h : Gets (bif decide (v20 < (↑(List.length lt) : Int)) then bif leInt (0 : Int) v20 && ltInt v20 (↑(List.length lt) : Int) then kOpt (List.get?Internal lt (Int.toNat v20)) fun (row : List AV) 
  => bif Nat.beq (List.length row) 4 then bif Nat.ble 4 (List.length row) then kTmC (List.take 4 row) fun (n n_1 : Int) (s : List UInt8) (rows : List (List AV)) => (kOpt (EVk (EV cfg) 
  63 [.agg [.int .i64 n, .int .i64 n_1, .str s, .sl rows], .ptr 0 0 0] 1 [[AV.fn (Fn.func 63) [] [.ptr 0 0 0]]]) fun (q : AV) => kTmV q fun (n n_2 : Int) (s : List UInt8) (rows : List 
  (List AV)) => (bif leInt (0 : Int) v20 && ltInt v20 (↑(Int.toNat (↑(List.length lt) : Int)) : Int) then kOpt (List.get?Internal h3 (0 + Int.toNat v20)) fun (row : List AV) => bif Nat.ble 
  4 (List.length row) then wh64_0 lt (IntKind.wrap .i64 (v20 + (1 : Int))) c1_0 c1_1 c1_2 c1_3 c2_0 c2_1 c2_2 c2_3 (List.set h3 (0 + Int.toNat v20) (.int .i64 n :: .int .i64 n_2 :: .str 
  s :: .sl rows :: List.drop 4 row)) else none else none)) else none else none else none else bif Nat.ble (0 + Int.toNat (↑(List.length lt) : Int)) (List.length h3) && true then some 
  (.agg [.int .i64 c1_0, .int .i64 c1_1, .str c1_2, .sl (List.take (Int.toNat (↑(List.length lt) : Int)) h3)], [[AV.fn (Fn.func 63) [] [.ptr 0 0 0]]]) else none) P) : Gets (wh64_0 lt v20 c1_0 c1_1 c1_2 c1_3 c2_0 c2_1 c2_2 c2_3 h3) P :=
  Gets.ev (fun _ h => loop_step (cfg := cfg) (f := 63) (rd := none) (bs := 1) h) (Gets.eq (by kernel_rfl) h)
theorem wh47_0_step (most : Int) (v5 : Int) (v6 : Int) (c0_0 : Int) (c0_1 : Int) (c0_2 : List UInt8) (c0_3 : List (List AV)) {P : AV → Prop} (h : Gets (bif decide (v6 < (↑(List.length c0_3) : Int)) then bif decide (v5 < most) then bif leInt (0 : Int) v6 && ltInt v6 (↑(List.length c0_3) : Int) then kOpt (List.get?Internal c0_3 (Int.toNat 
  v6)) fun (row : List AV) => bif Nat.beq (List.length row) 4 then bif Nat.ble 4 (List.length row) then kTmC (List.take 4 row) fun (n n_1 : Int) (s : List UInt8) (rows : List (List AV)) 
  => (kOpt (EVs (EV cfg) 51 [.agg [.int .i64 n, .int .i64 n_1, .str s, .sl rows], .int .i64 (IntKind.wrap .i64 (most - v5))]) fun (v : AV) => kInt .i64 v fun (n : Int) => wh47_0 most 
  (IntKind.wrap .i64 (v5 + n)) (IntKind.wrap .i64 (v6 + (1 : Int))) c0_0 c0_1 c0_2 c0_3) else none else none else none else some (.int .i64 v5) else some (.int .i64 v5)) P) : Gets (wh47_0 most v5 v6 c0_0 c0_1 c0_2 c0_3) P :=
  Gets.ev (fun _ h => loop_step (cfg := cfg) (f := 51) (rd := none) (bs := 0) h) (Gets.eq (by kernel_rfl) h)
end Go.Proofs.YtonmmmgffeoiiaaGreat
end

section
namespace Go.Proofs.YtonmmmgffeoiiaaGreat
open Go.Av
def copyCell : List (List AV) := [[AV.fn (Fn.func 63) [] [AV.ptr 0 0 0]]]
theorem copyIn_ev (t : Tm) : t.Ok → EVx (EV cfg) 63 [t.av, .ptr 0 0 0] 1 copyCell = some (t.av, copyCell) := by
  induction t using Tm.ind with
  | _ k n s l ih =>
    intro hok
    have hlen := hok.len
    have loop : ∀ (d i : Nat), i + d = l.length → Gets (wh64_0 (rowsT l) i k n s (rowsT l) 0 0 [] [] (rowsT (l.take i) ++ List.replicate d [.int .i64 0, .int .i64 0, .str [], .nilS])) (· = ((Tm.mk k n s l).av, copyCell)) := by
      intro d
      induction d with
      | zero =>
        intro i hi
        refine wh64_0_step _ _ _ _ _ _ _ _ _ _ _ ?_
        obtain rfl : i = l.length := by omega
        have e : l.take l.length = l := List.take_of_length_le (Nat.le_refl _)
        rw [e]
        simp
        rfl
      | succ d ihd =>
        intro i hi
        refine wh64_0_step _ _ _ _ _ _ _ _ _ _ _ ?_
        have hil : i < l.length := by omega
        have hx : l[i]? = some l[i] := List.getElem?_eq_getElem hil
        have hxl := List.mem_of_getElem? hx
        have hix := EVk_of (ih l[i] hxl (hok.sub hxl))
        have hih := ihd (i + 1) (by omega)
        have hw := wrap_s hil hlen
        have e1 : l.take (i + 1) = l.take i ++ [l[i]] := by rw [List.take_add_one, hx]; rfl
        have ht : (rowsT (l.take i)).length = i := by rw [rowsT_length, List.length_take]; omega
        have g : (rowsT (l.take i) ++ List.replicate (d + 1) [AV.int .i64 0, .int .i64 0, .str [], .nilS])[i]? = some [AV.int .i64 0, .int .i64 0, .str [], .nilS] := by
          rw [List.getElem?_append_right (by omega), ht, Nat.sub_self]; rfl
        have g2 : (rowsT (l.take i) ++ List.replicate (d + 1) [AV.int .i64 0, .int .i64 0, .str [], .nilS]).set i l[i].cells = rowsT (l.take (i + 1)) ++ List.replicate d [AV.int .i64 0, .int .i64 0, .str [], .nilS] := by
          rw [List.set_append_right _ _ (by omega), e1, rowsT_append, rowsT_cons, rowsT_nil]
          have e3 : i - (rowsT (l.take i)).length = 0 := by omega
          rw [e3, List.replicate_succ, List.set_cons_zero, List.append_assoc]; rfl
        simp only [copyCell] at hix
        simp [hil, hx, hix, g, hw]
        rw [g2]
        simpa using hih
    apply Gets.get
    rw [Tm.av_mk]
    refine copyIn_run _ _ _ _ ?_
    rw [rowsT_length]
    by_cases hl : l.length = 0
    · have : l = [] := List.length_eq_zero_iff.1 hl
      subst this
      simp [copyCell, AV.refsLt, refsLtL]
    · have hl' : ((l.length : Int) == 0) = false := by rw [beqD]; exact decide_eq_false (by omega)
      have h56 : leInt ((l.length : Int) * 56) 140737488355328 = true := by simp [leInt]; omega
      have hm : leInt (l.length : Int) 9223372036854775807 = true := by simp [leInt]; omega
      have hz : leInt 0 (l.length : Int) = true := leInt_zero _
      have hs : leInt (l.length : Int) (l.length : Int) = true := by simp [leInt]
      rw [hl', h56, hm, hz, hs]
      have := loop l.length 0 (by omega)
      rw [Tm.av_mk] at this
      simpa using this
theorem copy_ev {t : Tm} (h : t.Ok) : EVf (EV cfg) 42 [t.av] = some t.av := by
  have h1 := EVk_of (copyIn_ev t h)
  obtain ⟨k, n, s, l⟩ := t
  rw [Tm.av_mk] at h1 ⊢
  apply Gets.get
  refine term_Copy_run _ _ _ _ ?_
  simp only [copyCell] at h1
  rw [h1]
  simp [← Tm.av_mk]
end Go.Proofs.YtonmmmgffeoiiaaGreat
end

section
namespace Go.Proofs.YtonmmmgffeoiiaaGreat
open Go.Av
theorem ops_ev (op : List UInt8) : EVf (EV cfg) 139 [.str op] = some (.sl (intsR (opsG op))) := by
  apply Gets.get
  refine guard_Ops_run _ ?_
  have h := lookS_map (fun l => some (AV.sl (intsR l))) op [] opsTab
  have : Gets (lookS op (some (AV.sl (intsR []))) (opsTab.map fun p => (p.1, some (AV.sl (intsR p.2))))) (· = .sl (intsR (opsG op))) := by
    rw [h]; exact ⟨_, rfl, rfl⟩
  exact this
theorem index_ev (l : List Int) (hl : l.length < 1099511627776) (n : Int) : ∀ d i : Nat, i + d = l.length → Gets (wg65_0 (intsR l) n i) (fun v => ∃ j : Int, v = .int .i64 j ∧ (0 ≤ j ↔ n ∈ l.drop i)) := by
  intro d
  induction d with
  | zero =>
    intro i hi
    refine wg65_0_step _ _ _ ?_
    rw [intsR_len, decide_eq_false (by omega)]
    refine ⟨_, rfl, -1, rfl, ?_⟩
    rw [List.drop_eq_nil_of_le (by omega)]
    simp
  | succ d ih =>
    intro i hi
    have hil : i < l.length := by omega
    refine wg65_0_step _ _ _ ?_
    have hx : l[i]? = some l[i] := List.getElem?_eq_getElem hil
    have hd : l.drop i = l[i] :: l.drop (i + 1) := List.drop_eq_getElem_cons hil
    have h := ih (i + 1) (by omega)
    rw [intsR_len, decide_eq_true (show (i : Int) < (l.length : Int) by omega), leInt_zero, ltInt_nat, decide_eq_true hil, get?Internal_eq, Int.toNat_natCast, intsR_get, hx, wrap_succ hil hl]
    by_cases he : n = l[i]
    · refine ⟨.int .i64 i, ?_, i, rfl, ?_⟩
      · simp [he]
      · rw [hd, he]; exact ⟨fun _ => List.mem_cons_self, fun _ => by omega⟩
    · have hne : (n == l[i]) = false := by rw [beqI]; exact decide_eq_false he
      simp [hne]
      refine Gets.mono (by simpa using h) ?_
      rintro _ ⟨j, rfl, hj⟩
      exact ⟨j, rfl, by rw [hj, hd, List.mem_cons]; exact ⟨Or.inr, fun h => h.resolve_left he⟩⟩
theorem contains_ev (l : List Int) (hl : l.length < 1099511627776) (n : Int) : EVs (EV cfg) 137 [.sl (intsR l), .int .i64 n] = some (.bool (decide (n ∈ l))) := by
  obtain ⟨_, h1, j, rfl, hj⟩ := index_ev l hl n l.length 0 (by omega)
  have h2 : EVs (EV cfg) 153 [.sl (intsR l), .int .i64 n] = some (.int .i64 j) := by
    apply Gets.get
    exact indexI_run _ _ ⟨_, h1, rfl⟩
  apply Gets.get
  refine containsI_run _ _ ?_
  rw [h2]
  rw [List.drop_zero] at hj
  refine ⟨_, rfl, ?_⟩
  show AV.bool (decide (j ≥ 0)) = _
  congr 1
  exact decide_eq_decide.2 hj
end Go.Proofs.YtonmmmgffeoiiaaGreat
end

section
namespace Go.Proofs.YtonmmmgffeoiiaaGreat
open Go.Av
theorem opsG_len (op : List UInt8) : (opsG op).length < 1099511627776 := by
  have : ∀ (l : List (List UInt8 × List Int)), (∀ p ∈ l, p.2.length ≤ 2) → (lookS op [] l).length ≤ 2 := by
    intro l
    induction l with
    | nil => intro _; simp [lookS]
    | cons p l ih =>
      intro h
      rw [lookS]
      cases op == p.1
      · exact ih fun q hq => h q (by simp [hq])
      · exact h p (by simp)
  have := this opsTab (by decide)
  unfold opsG
  omega
theorem all_of {V : List Int} {l : List Tm} (hlen : l.length < 1099511627776) (ih : ∀ x ∈ l, EVs (EV cfg) 113 [x.av, .sl (intsR V)] = some (.bool (isG V x))) :
    EVs (EV cfg) 138 [.sl (rowsT l), .sl (intsR V)] = some (.bool (allG V l)) := by
  have hin : ∀ x ∈ l, EVs (EV cfg) 155 [x.av, .cptr [.sl (intsR V)] 0] = some (.bool (!isG V x)) := by
    intro x hx
    have h := ih x hx
    apply Gets.get
    rw [Tm.av, Tm.cells_eq] at h ⊢
    refine allIn_run _ _ _ _ _ ?_
    rw [h]; exact ⟨_, rfl, rfl⟩
  have loop : ∀ d i : Nat, i + d = l.length → Gets (wt86_0 (rowsT l) (intsR V) i) (fun v => ∃ j : Int, v = .int .i64 j ∧ (0 ≤ j ↔ allG V (l.drop i) = false)) := by
    intro d
    induction d with
    | zero =>
      intro i hi
      refine wt86_0_step _ _ _ ?_
      rw [rowsT_length, decide_eq_false (by omega)]
      refine ⟨_, rfl, -1, rfl, ?_⟩
      rw [List.drop_eq_nil_of_le (by omega)]
      simp [allG]
    | succ d ihd =>
      intro i hi
      have hil : i < l.length := by omega
      refine wt86_0_step _ _ _ ?_
      have hx : l[i]? = some l[i] := List.getElem?_eq_getElem hil
      have hd : l.drop i = l[i] :: l.drop (i + 1) := List.drop_eq_getElem_cons hil
      have h1 := hin l[i] (List.mem_of_getElem? hx)
      have h2 := ihd (i + 1) (by omega)
      rw [rowsT_length, decide_eq_true (show (i : Int) < (l.length : Int) by omega), leInt_zero, ltInt_nat, decide_eq_true hil, rowsT_at hx, wrap_succ hil hlen]
      simp only [cond_true, Bool.and_self, length_cells, Nat.beq_refl, take_cells, kTmC_cells, show Nat.ble 4 4 = true from rfl, av_unf, h1, kOptSome, kBool_bool]
      cases hg : isG V l[i] with
      | false =>
        refine ⟨_, rfl, i, rfl, ?_⟩
        rw [hd, allG, hg]
        exact ⟨fun _ => rfl, fun _ => by omega⟩
      | true =>
        refine h2.mono ?_
        rintro _ ⟨j, rfl, hj⟩
        refine ⟨j, rfl, ?_⟩
        rw [hd, allG, hg, Bool.true_and]; exact hj
  obtain ⟨_, h1, j, rfl, hj⟩ := loop l.length 0 (by omega)
  rw [List.drop_zero] at hj
  have h2 : EVs (EV cfg) 166 [.sl (rowsT l), .fn (.func 155) [] [.cptr [.sl (intsR V)] 0]] = some (.int .i64 j) := by
    apply Gets.get
    exact indFunc_run _ _ ⟨_, h1, rfl⟩
  have h3 : EVs (EV cfg) 154 [.sl (rowsT l), .fn (.func 155) [] [.cptr [.sl (intsR V)] 0]] = some (.bool (decide (j ≥ 0))) := by
    apply Gets.get
    refine contFunc_run _ _ ?_
    rw [h2]; exact ⟨_, rfl, rfl⟩
  apply Gets.get
  refine guardAll_run _ _ ?_
  rw [h3]
  refine ⟨_, rfl, ?_⟩
  show AV.bool (!decide (j ≥ 0)) = _
  congr 1
  cases ha : allG V l with
  | false => rw [decide_eq_true (hj.2 ha)]; rfl
  | true =>
    have : ¬ j ≥ 0 := fun h => by have := hj.1 h; rw [ha] at this; cases this
    rw [decide_eq_false this]; rfl
theorem is_ev {V : List Int} (hV : V.length < 1099511627776) : ∀ (n : Nat) (t : Tm), t.w ≤ n → n < 1099511627776 → EVs (EV cfg) 113 [t.av, .sl (intsR V)] = some (.bool (isG V t)) := by
  intro n
  induction n with
  | zero => intro t h; have := w_pos t; omega
  | succ n ih =>
    intro t hw hn
    have hwe := t.w_eq
    have hwl := wL_len t.subs
    have allOf : ∀ l : List Tm, wL l ≤ n → EVs (EV cfg) 138 [.sl (rowsT l), .sl (intsR V)] = some (.bool (allG V l)) := fun l hl =>
      all_of (by have := wL_len l; omega) fun x hx => ih x (by have := wL_mem hx; omega) (by omega)
    have hvar := patVar_ev (t := t) (by omega)
    have hsub := allOf t.subs (by omega)
    apply Gets.get
    rw [Tm.av, Tm.cells_eq] at hvar ⊢
    refine guardIs_run _ _ _ _ _ ?_
    rw [hvar, hsub]
    simp only [beqI, kOptSome, kBool_bool]
    by_cases h2 : t.kind = 2
    · rw [decide_eq_true h2, cond_true, isG_atom h2]
      simp only [varR, kTup, kCons, kInt_int, kBool_bool, kNil]
      cases hv : varT t with
      | none => exact ⟨_, rfl, rfl⟩
      | some x =>
        have hc := contains_ev V hV x
        simp only [Option.getD_some, Option.isSome_some, Bool.not_true, cond_false]
        rw [hc]; exact ⟨_, rfl, rfl⟩
    · rw [decide_eq_false h2, cond_false]
      by_cases h9 : t.kind = 9
      · rw [decide_eq_true h9, cond_true, isG_cons h9]; exact ⟨_, rfl, rfl⟩
      · rw [decide_eq_false h9, cond_false]
        by_cases h7 : t.kind = 7
        · rw [decide_eq_true h7, cond_true]
          cases hl : t.subs with
          | nil => rw [isG_nil h7 hl]; exact ⟨_, rfl, rfl⟩
          | cons f r =>
            rw [isG_tup h7 hl]
            rw [hl] at hwl hwe
            rw [wL_cons] at hwe
            have hfw := f.w_eq
            have hfs := allOf f.subs (by omega)
            have hr := allOf r (by omega)
            have c0 : (decide (((rowsT (f :: r)).length : Int) = 0)) = false := by rw [rowsT_length]; exact decide_eq_false (by simp; omega)
            have c1 : ltInt 0 ((rowsT (f :: r)).length : Int) = true := by rw [rowsT_length]; exact decide_eq_true (by simp)
            have c2 : leInt 1 ((rowsT (f :: r)).length : Int) = true := by rw [rowsT_length]; exact decide_eq_true (by simp; omega)
            have g0 : (rowsT (f :: r))[(0 : Int).toNat]? = some f.cells := by rw [rowsT_cons]; rfl
            have tk : List.take ((rowsT (f :: r)).length - 1) (List.drop 1 (rowsT (f :: r))) = rowsT r := by
              rw [rowsT_cons, List.drop_succ_cons, List.drop_zero, List.length_cons, Nat.add_sub_cancel, List.take_length]
            have g0' : (rowsT (f :: r))[0]? = some f.cells := g0
            rw [c0, c1, c2, tk]
            simp only [cond_false, cond_true, get?Internal_eq, g0, g0', kOptSome, length_cells, Nat.beq_refl, show Nat.ble 4 4 = true from rfl, take_cells, kTmC_cells, rowsOk_rowsT, rowsT_length, beqS]
            by_cases f7 : f.kind = 7
            · rw [if_pos f7, decide_eq_true f7, cond_true, hfs]
              by_cases hrl : r.length = 0
              · have : decide ((r.length : Int) = 0) = true := decide_eq_true (by omega)
                rw [this, decide_eq_true hrl]; exact ⟨_, rfl, rfl⟩
              · have : decide ((r.length : Int) = 0) = false := decide_eq_false (by omega)
                rw [this, decide_eq_false hrl]; exact ⟨_, rfl, rfl⟩
            · rw [if_neg f7, decide_eq_false f7, cond_false]
              by_cases f2 : f.kind = 2
              · have : (f.kind != 2) = false := by rw [f2]; rfl
                rw [if_pos f2, this, cond_false]
                by_cases hc : f.str = [99, 111, 110, 115, 116]
                · rw [if_pos hc, decide_eq_true hc]
                  refine ⟨_, rfl, ?_⟩
                  show AV.bool (decide ((r.length : Int) = 1)) = _
                  congr 1
                  exact decide_eq_decide.2 (by omega)
                · rw [if_neg hc, decide_eq_false hc, cond_false, ops_ev]
                  have hcn := contains_ev (opsG f.str) (opsG_len f.str) (r.length : Int)
                  simp only [kOptSome, kSl_sl, hcn, kBool_bool, hr]
                  cases decide ((r.length : Int) ∈ opsG f.str) <;> exact ⟨_, rfl, rfl⟩
              · have : (f.kind != 2) = true := by simpa using f2
                rw [if_neg f2, this]; exact ⟨_, rfl, rfl⟩
        · rw [decide_eq_false h7, isG_other h2 h9 h7]; exact ⟨_, rfl, rfl⟩
theorem guardCheck_ev {V : List Int} (hV : V.length < 1099511627776) {t : Tm} (h : t.w < 1099511627776) : EVs (EV cfg) 86 [t.av, .sl (intsR V)] = some (.int .i64 (checkG V t)) := by
  have hc := check_ev h
  have hi := is_ev hV t.w t (Nat.le_refl _) h
  apply Gets.get
  rw [Tm.av, Tm.cells_eq] at hc hi ⊢
  refine guardCheck_run _ _ _ _ _ ?_
  rw [hc, hi]
  unfold checkG
  simp only [kOptSome, kInt_int, kBool_bool]
  by_cases h0 : t.chk = 0
  · have : (t.chk != 0) = false := by rw [h0]; rfl
    rw [this, if_pos h0]
    cases isG V t <;> exact ⟨_, rfl, rfl⟩
  · have : (t.chk != 0) = true := by simpa using h0
    rw [this, if_neg h0]; exact ⟨_, rfl, rfl⟩
end Go.Proofs.YtonmmmgffeoiiaaGreat
end

section
namespace Go.Av
theorem get0T (x : Tm) (l : List Tm) : List.get?Internal (rowsT (x :: l)) 0 = some x.cells := by rw [get?Internal_eq, rowsT_cons]; rfl
theorem get1T (x y : Tm) (l : List Tm) : List.get?Internal (rowsT (x :: y :: l)) 1 = some y.cells := by rw [get?Internal_eq, rowsT_cons, rowsT_cons]; rfl
theorem lt0T (x : Tm) (l : List Tm) : ltInt 0 ((rowsT (x :: l)).length : Int) = true := by rw [rowsT_length]; exact decide_eq_true (by simp)
theorem lt1T (x y : Tm) (l : List Tm) : ltInt 1 ((rowsT (x :: y :: l)).length : Int) = true := by rw [rowsT_length]; exact decide_eq_true (by simp; omega)
theorem ble44 : Nat.ble 4 4 = true := rfl
end Go.Av
namespace Go.Proofs.YtonmmmgffeoiiaaGreat
open Go.Av
end Go.Proofs.YtonmmmgffeoiiaaGreat
end

section
namespace Go.Av
def pairG (x e : Tm) : Tm := .mk 9 0 [] [x, e]
def makeG (l : List Tm) (e : Tm) : Tm := l.foldr pairG e
end Go.Av
namespace Go.Proofs.YtonmmmgffeoiiaaGreat
open Go.Av
theorem makeList_ev {l : List Tm} (hlen : l.length < 1099511627776) (e : Tm) : EVf (EV cfg) 48 [.sl (rowsT l), e.av] = some (makeG l e).av := by
  have loop : ∀ (j : Nat) (a : Tm), j ≤ l.length → Gets (ws78_0 ((j : Int) - 1) a.kind a.num a.str (rowsT a.subs) 0 0 [] [] (rowsT l)) (· = ((l.take j).foldr pairG a).av) := by
    intro j
    induction j with
    | zero =>
      intro a _
      refine ws78_0_step _ _ _ _ _ _ _ _ _ _ ?_
      refine ⟨_, rfl, ?_⟩
      rw [av_unf]; rfl
    | succ j ih =>
      intro a hj
      refine ws78_0_step _ _ _ _ _ _ _ _ _ _ ?_
      have hil : j < l.length := by omega
      have hx : l[j]? = some l[j] := List.getElem?_eq_getElem hil
      have h := ih (pairG l[j] a) (by omega)
      have e1 : l.take (j + 1) = l.take j ++ [l[j]] := by rw [List.take_add_one, hx]; rfl
      have e2 : (((j + 1 : Nat) : Int) - 1) = (j : Int) := by omega
      have w1 : IntKind.wrap .i64 ((j : Int) - 1) = (j : Int) - 1 := wrap64 (by omega) (by omega)
      rw [e2, w1, decide_eq_true (show (j : Int) ≥ 0 by omega), rowsT_length, leInt_zero, ltInt_nat, decide_eq_true hil, rowsT_at hx, e1, List.foldr_append]
      simp only [cond_true, Bool.and_self, length_cells, Nat.beq_refl, take_cells, kTmC_cells, show Nat.ble 4 4 = true from rfl, kOptSome]
      rw [← Tm.cells_eq, ← Tm.cells_eq]
      have e3 : rowsT (pairG l[j] a).subs = [l[j].cells, a.cells] := by show rowsT [l[j], a] = _; rw [rowsT_cons, rowsT_cons, rowsT_nil]
      rw [e3] at h
      exact h
  apply Gets.get
  rw [Tm.av, Tm.cells_eq]
  refine makeList_run _ _ _ _ _ ?_
  have h := loop l.length e (Nat.le_refl _)
  rw [List.take_length] at h
  rw [rowsT_length, wrap64 (by omega) (by omega)]
  exact h
end Go.Proofs.YtonmmmgffeoiiaaGreat
end

section
namespace Go.Proofs.YtonmmmgffeoiiaaGreat
open Go.Av
theorem setHas_ev {p : Nat → Bool} {r : List AV} (h : SetRow p r) {n : Nat} (hn : n < 100) : EVs (EV cfg) 112 [.cptr r 0, .int .i64 n] = some (.bool (p n)) := by
  obtain ⟨lo, hi, l, rfl, h1, h2, h3, h4⟩ := h
  have key : ∀ {a k : Nat}, a < 18446744073709551616 → k < 64 → ((((a / 2 ^ k % 2 : Nat) : Int)) == 1) = a.testBit k := by
    intro a k _ _
    rw [Nat.testBit_eq_decide_div_mod_eq]
    rw [beqI]
    exact decide_eq_decide.2 (by omega)
  apply Gets.get
  refine setHas_run _ _ ?_
  by_cases hs : n < 64
  · have e : p n = lo.testBit n := (h3 n hs).symm
    have hd := Nat.div_le_self lo (2 ^ n)
    rw [decide_eq_true (show (n : Int) < 64 by omega), e]
    simp only [cond_true, get?Internal_eq, List.getElem?_cons_zero, kOptSome, kInt_int, shr_bit h1 hs, and_one (show lo / 2 ^ n < 18446744073709551616 by omega), key h1 hs]
    exact ⟨_, rfl, rfl⟩
  · obtain ⟨k, rfl⟩ : ∃ k, n = k + 64 := ⟨n - 64, by omega⟩
    have hk : k < 64 := by omega
    have e : p (k + 64) = hi.testBit k := (h4 k hk).symm
    have hd := Nat.div_le_self hi (2 ^ k)
    have w : IntKind.wrap .i64 (((k + 64 : Nat) : Int) - 64) = (k : Int) := by rw [wrap64 (by omega) (by omega)]; omega
    rw [decide_eq_false (show ¬ ((k + 64 : Nat) : Int) < 64 by omega), w, e]
    simp only [cond_false, get?Internal_eq, List.getElem?_cons_succ, List.getElem?_cons_zero, kOptSome, kInt_int, shr_bit h2 hk, and_one (show hi / 2 ^ k < 18446744073709551616 by omega), key h2 hk]
    exact ⟨_, rfl, rfl⟩
end Go.Proofs.YtonmmmgffeoiiaaGreat
end

section
namespace Go.Proofs.YtonmmmgffeoiiaaGreat
open Go.Av
theorem fits8 {n : Nat} (h : n ≤ 1099511627776) : fitsIn n 8 = true := by
  unfold fitsIn
  rw [Bool.and_eq_true, Nat.ble_eq, Nat.ble_eq]
  omega
end Go.Proofs.YtonmmmgffeoiiaaGreat
end

section
namespace Go.Av
theorem listT_w : ∀ l : List Tm, (listT l).w ≤ 1 + l.length + wL l
  | [] => by simp [listT, Tm.w_mk]
  | x :: l => by
    have h := listT_w l
    have : listT (x :: l) = .mk 9 0 [] [x, listT l] := rfl
    rw [this, Tm.w_mk, wL_cons, wL_cons, wL_cons, wL_nil, List.length_cons]
    simp only [List.length_nil]
    omega
end Go.Av
namespace Go.Proofs.YtonmmmgffeoiiaaGreat
open Go.Av
end Go.Proofs.YtonmmmgffeoiiaaGreat
end

section
namespace Go.Av
theorem kEvalR {α : Type} (t : Tm) (x : Int) (K : Int → Int → List UInt8 → List (List AV) → Int → Option α) : (kTup (.tup [t.av, .int .i64 x]) fun cs => kCons cs fun c cs => kAgg c fun cs_1 => kCons cs_1 fun c cs_2 => kInt .i64 c fun n => kCons cs_2 fun c cs_3 => kInt .i64 c fun n_1 => kCons cs_3 fun c cs_4 => kStr c fun s => kCons cs_4 fun c cs_5 => kSl c fun rows => kNil cs_5 (kCons cs fun c cs => kInt .i64 c fun m => kNil cs (K n n_1 s rows m))) = K t.kind t.num t.str (rowsT t.subs) x := by
  obtain ⟨k, n, s, l⟩ := t
  rw [Tm.av_mk]; rfl
structure EnvW (e : Env) : Prop where
  obj : e.obj.w < 1099511627776
  len : e.binds.length < 1099511627776
  binds : ∀ p ∈ e.binds, p.2.w < 1099511627776
end Go.Av
namespace Go.Proofs.YtonmmmgffeoiiaaGreat
open Go.Av
end Go.Proofs.YtonmmmgffeoiiaaGreat
end

section
namespace Go.Proofs.YtonmmmgffeoiiaaGreat
open Go.Av
set_option maxRecDepth 100000
theorem lay_term {n : Nat} {cz : List AV} (h : Lay Tryz.prog n 24 cz) : ∃ t : Tm, cz = t.cells ∧ t.w < wtL cz := (lay_terms term_tys n).1 cz h
end Go.Proofs.YtonmmmgffeoiiaaGreat
end

section
namespace Go.Av
def itemsF : Nat → Tm → List Tm × Bool
  | 0, _ => ([], false)
  | n + 1, t => if t.kind = 9 then (match t.subs with | [a, b] => (a :: (itemsF n b).1, (itemsF n b).2) | _ => ([], false)) else ([], decide (t.kind = 8))
def itemsG (t : Tm) : List Tm × Bool := itemsF t.w t
theorem itemsF_more : ∀ (n m : Nat) (t : Tm), t.w ≤ n → t.w ≤ m → itemsF n t = itemsF m t := by
  intro n
  induction n with
  | zero => intro m t h; have := w_pos t; omega
  | succ n ih =>
    intro m t hn hm
    obtain ⟨m, rfl⟩ : ∃ k, m = k + 1 := ⟨m - 1, by have := w_pos t; omega⟩
    rw [itemsF, itemsF]
    by_cases h9 : t.kind = 9
    · rw [if_pos h9, if_pos h9]
      have hw := t.w_eq
      cases hs : t.subs with
      | nil => rfl
      | cons a l =>
        cases l with
        | nil => rfl
        | cons b l =>
          cases l with
          | nil =>
            rw [hs] at hw
            simp only [wL_cons, wL_nil] at hw
            simp only []
            rw [ih m b (by omega) (by omega)]
          | cons c l => rfl
    · rw [if_neg h9, if_neg h9]
theorem itemsG_cons {t a b : Tm} (hk : t.kind = 9) (hs : t.subs = [a, b]) : itemsG t = (a :: (itemsG b).1, (itemsG b).2) := by
  have hw := t.w_eq
  rw [hs] at hw
  simp only [wL_cons, wL_nil] at hw
  unfold itemsG
  obtain ⟨n, hn⟩ : ∃ n, t.w = n + 1 := ⟨t.w - 1, by have := w_pos t; omega⟩
  rw [hn, itemsF, if_pos hk, hs]
  simp only []
  rw [itemsF_more n b.w b (by omega) (Nat.le_refl _)]
theorem itemsG_end {t : Tm} (hk : t.kind ≠ 9) : itemsG t = ([], decide (t.kind = 8)) := by
  unfold itemsG
  obtain ⟨n, hn⟩ : ∃ n, t.w = n + 1 := ⟨t.w - 1, by have := w_pos t; omega⟩
  rw [hn, itemsF, if_neg hk]
theorem itemsG_list : ∀ l : List Tm, itemsG (listT l) = (l, true)
  | [] => itemsG_end (by decide)
  | x :: l => by
    rw [itemsG_cons (a := x) (b := listT l) rfl rfl, itemsG_list l]
theorem cons_ind {P : Tm → Prop} (h9 : ∀ t a b, t.kind = 9 → t.subs = [a, b] → t.chk = 0 → P b → P t) (h0 : ∀ t, t.kind ≠ 9 → t.chk = 0 → P t) : ∀ (n : Nat) (t : Tm), t.w ≤ n → t.chk = 0 → P t := by
  intro n
  induction n with
  | zero => intro t h; have := w_pos t; omega
  | succ n ih =>
    intro t hw hc
    by_cases hk : t.kind = 9
    · obtain ⟨a, b, hs⟩ := cons_chk hc hk
      have hwe := t.w_eq
      rw [hs] at hwe
      simp only [wL_cons, wL_nil] at hwe
      exact h9 t a b hk hs hc (ih b (by omega) (chk_sub hc (by rw [hs]; simp)))
    · exact h0 t hk hc
theorem consInd {P : Tm → Prop} (t : Tm) (hc : t.chk = 0) (h9 : ∀ t a b, t.kind = 9 → t.subs = [a, b] → t.chk = 0 → P b → P t) (h0 : ∀ t, t.kind ≠ 9 → t.chk = 0 → P t) : P t := cons_ind h9 h0 t.w t (Nat.le_refl _) hc
theorem itemsG_chk {t : Tm} (hc : t.chk = 0) : ∀ x ∈ (itemsG t).1, x.chk = 0 := by
  refine consInd (P := fun t => ∀ x ∈ (itemsG t).1, x.chk = 0) t hc (fun t a b hk hs hc ih => ?_) (fun t hk hc => ?_)
  · rw [itemsG_cons hk hs]
    intro x hx
    rcases List.mem_cons.1 hx with rfl | hx
    · exact chk_sub hc (by rw [hs]; simp)
    · exact ih x hx
  · rw [itemsG_end hk]
    intro x hx
    cases hx
theorem itemsG_w {t : Tm} (hc : t.chk = 0) : wL (itemsG t).1 + (itemsG t).1.length ≤ t.w := by
  refine consInd (P := fun t => wL (itemsG t).1 + (itemsG t).1.length ≤ t.w) t hc (fun t a b hk hs hc ih => ?_) (fun t hk hc => ?_)
  · rw [itemsG_cons hk hs, t.w_eq, hs]
    simp only [wL_cons, wL_nil, List.length_cons]
    omega
  · rw [itemsG_end hk]
    simp
def anyT (p : Tm) : Bool := decide (p.kind = 2) && (decide (p.str = [95]) && decide (p.chk = 0))
def headG (p : Tm) : Bool := (varT p).isSome || (decide (p.kind = 7) || anyT p)
mutual
/-- does a variable stand in a pattern? -/
def varIn (n : Int) : Tm → Bool
  | .mk k _ s l => if k = 7 ∨ k = 9 then varInL n l else decide (k = 2) && decide (varG s = some n)
def varInL (n : Int) : List Tm → Bool
  | [] => false
  | t :: l => varIn n t || varInL n l
end
theorem varInL_any (n : Int) : ∀ l : List Tm, varInL n l = l.any (varIn n)
  | [] => rfl
  | t :: l => by rw [varInL, varInL_any n l]; rfl
theorem varIn_eq (n : Int) (t : Tm) : varIn n t = if t.kind = 7 ∨ t.kind = 9 then t.subs.any (varIn n) else decide (t.kind = 2) && decide (varG t.str = some n) := by
  obtain ⟨k, m, s, l⟩ := t
  rw [varIn, varInL_any]; rfl
def varsG (p : Tm) : List Int := if p.chk = 0 then ((List.range 100).filter fun n => varIn (n : Nat) p).map Int.ofNat else []
structure Cl where
  head : Tm
  gs : List Tm
  bs : List Tm
  deriving Inhabited
def Cl.cells (c : Cl) : List AV := [.int .i64 c.head.kind, .int .i64 c.head.num, .str c.head.str, .sl (rowsT c.head.subs), .sl (rowsT c.gs), .sl (rowsT c.bs)]
def Cl.av (c : Cl) : AV := .agg c.cells
def rowsC (l : List Cl) : List (List AV) := l.map Cl.cells
def zeroC : Cl := ⟨zeroT, [], []⟩
theorem rowsC_len (l : List Cl) : (rowsC l).length = l.length := by simp [rowsC]
theorem rowsC_get (l : List Cl) (i : Nat) : (rowsC l)[i]? = (l[i]?).map Cl.cells := by simp [rowsC]
theorem rowsC_append (a b : List Cl) : rowsC (a ++ b) = rowsC a ++ rowsC b := by simp [rowsC]
theorem rowsC_one (c : Cl) : rowsC [c] = [c.cells] := rfl
def clauseG (t : Tm) : Option Cl :=
  if t.kind = 7 then (match t.subs with
    | [h, g, b] => if headG h && ((itemsG g).2 && ((itemsG b).2 && !(itemsG b).1.isEmpty)) && ((itemsG g).1.all (fun e => decide (checkG (varsG h) e = 0)) && (itemsG b).1.all (fun e => decide (checkG (varsG h) e = 0))) then some ⟨h, (itemsG g).1, (itemsG b).1⟩ else none
    | _ => none)
  else none
def seqC : List Tm → Option (List Cl)
  | [] => some []
  | t :: l => (clauseG t).bind fun c => (seqC l).map (c :: ·)
def clsG (t : Tm) : List Cl × Int :=
  if t.chk = 0 then (match seqC (itemsG t).1 with
    | some l => if (itemsG t).2 && !l.isEmpty then (l, 0) else ([], 10)
    | none => ([], 10))
  else ([], 2)
theorem seqC_len : ∀ {l : List Tm} {cs : List Cl}, seqC l = some cs → cs.length = l.length
  | [], cs, h => by cases h; rfl
  | t :: l, cs, h => by
    rw [seqC] at h
    obtain ⟨c, _, h⟩ := Option.bind_eq_some_iff.1 h
    obtain ⟨r, hr, rfl⟩ := Option.map_eq_some_iff.1 h
    simp [seqC_len hr]
noncomputable instance tmEq : DecidableEq Tm := fun _ _ => Classical.propDecidable _
def clT (c : Cl) : Tm := tupT [c.head, listT c.gs, listT c.bs]
def selT (l : List Cl) : Tm := listT (l.map clT)
def ofG (l : List Cl) : Tm × Int := if (clsG (selT l)).2 = 0 then (selT l, 0) else (zeroT, (clsG (selT l)).2)
end Go.Av
end

section
namespace Go.Proofs.YtonmmmgffeoiiaaGreat
open Go.Av
set_option maxRecDepth 100000
def clTys : List TypeId := [36, 43, 24, 22, 3, 9]
theorem clTys_good : ∀ t ∈ clTys, goodTy Tryz.prog clTys t = true := by
  have : clTys.all (goodTy Tryz.prog clTys) = true := by kernel_rfl
  exact List.all_eq_true.1 this
theorem lay_tlist {n : Nat} {cz : List AV} (h : Lay Tryz.prog n 22 cz) : ∃ l : List Tm, cz = [.sl (rowsT l)] ∧ wL l < wtL cz := (lay_terms term_tys n).2 cz h
def Cl.wt (c : Cl) : Nat := c.head.w + wL c.gs + wL c.bs
theorem lay_clause {n : Nat} {cz : List AV} (h : Lay Tryz.prog n 43 cz) : ∃ c : Cl, cz = c.cells ∧ Cl.wt c < wtL cz := by
  cases n with
  | zero => exact absurd h (by unfold Lay; exact id)
  | succ n =>
    unfold Lay at h
    rw [Tryz.underlying43] at h
    obtain ⟨hl, hf⟩ := h
    have hl : cz.length = 6 := by rw [hl]; kernel_rfl
    match cz, hl with
    | [a, b, c, d, e, f], _ =>
      have h0 : Lay Tryz.prog n 24 ((([a, b, c, d, e, f] : List AV).drop 0).take (Tryz.prog.cellsOf 24)) := hf 0 _ rfl
      have h1 : Lay Tryz.prog n 22 ((([a, b, c, d, e, f] : List AV).drop 4).take (Tryz.prog.cellsOf 22)) := hf 1 _ rfl
      have h2 : Lay Tryz.prog n 22 ((([a, b, c, d, e, f] : List AV).drop 5).take (Tryz.prog.cellsOf 22)) := hf 2 _ rfl
      rw [show Tryz.prog.cellsOf 24 = 4 by kernel_rfl] at h0
      rw [show Tryz.prog.cellsOf 22 = 1 by kernel_rfl] at h1 h2
      obtain ⟨t, e0, w0⟩ := lay_term h0
      obtain ⟨L, e1, w1⟩ := lay_tlist h1
      obtain ⟨M, e2, w2⟩ := lay_tlist h2
      simp at e0 e1 e2 w0 w1 w2
      subst e1 e2
      obtain ⟨k, q, s, l⟩ := t
      rw [Tm.cells_mk] at e0
      cases e0
      refine ⟨⟨.mk k q s l, L, M⟩, rfl, ?_⟩
      unfold Cl.wt
      simp at w0 w1 w2 ⊢
      omega
theorem open_clauses {H : Type} {enc : TypeId × Value → H} {W : World} {r : Reach} {b0 : Nat} {v : Value} {d : DataW H} {ps : List MemPlace} (hval : Value.okWide Tryz.prog W r b0 36 v) (hd : DataW.Trod enc Tryz.prog W 0 (fun _ => true) true 36 v d ps) :
    ∃ l : List Cl, Opened enc Tryz.prog W 36 v d ps (.sl (rowsC l)) ∧ (∀ c ∈ l, Cl.wt c ≤ Rows.uptoBulk d) ∧ l.length ≤ Rows.uptoBulk d := by
  obtain ⟨rows, n, h1, h2, h3⟩ := open_slice clTys_good (by simp [clTys]) Tryz.underlying36 hval hd
  obtain ⟨l, rfl, w1, w2⟩ := lay_rows (w := Cl.wt) (fun cz h => lay_clause h) rows h2
  exact ⟨l, h1, fun c hc => by have := w1 c hc; omega, by omega⟩
end Go.Proofs.YtonmmmgffeoiiaaGreat
end

section
namespace Go.Proofs.YtonmmmgffeoiiaaGreat
open Go.Av
set_option maxRecDepth 100000
set_option maxHeartbeats 0

noncomputable def Lra54_0 : Den := evC cfg (EV cfg) 54 none 0 (sub (bodyOf Tryz.f54) [1, 1, 0, 0, 0])
noncomputable def Ara54_0 : Ex × List AV × AH → Option AV := kAft (Cfg.keepOut cfg 54 2) (kRun cfg (EV cfg) (kfN cfg 6) 54 none 0 (kFinF cfg (Cfg.lift cfg 54 0) Tryz.f54.results.toList) ([.block 0, .seq (sub (bodyOf Tryz.f54) [1, 1, 1])]))
noncomputable def Wra54_0 : List AV × AH → Option AV := fun p => kOpt (LOOP 0 (some [1, 4]) ([(4, 4)]) Lra54_0 p) Ara54_0
noncomputable def Lra49_0 : Den := evC cfg (EV cfg) 49 none 0 (sub (bodyOf Tryz.f49) [1, 1, 0, 1, 0, 0])
noncomputable def Ara49_0 : Ex × List AV × AH → Option AV := kAft (Cfg.keepOut cfg 49 3) (kRun cfg (EV cfg) (kfN cfg 6) 49 none 0 (kFinF cfg (Cfg.lift cfg 49 0) Tryz.f49.results.toList) ([.block 0, .seq (sub (bodyOf Tryz.f49) [1, 1, 1])]))
noncomputable def Wra49_0 : List AV × AH → Option AV := fun p => kOpt (LOOP 0 (some [0, 2, 3, 4]) ([]) Lra49_0 p) Ara49_0
noncomputable def Lra76_0 : Den := evC cfg (EV cfg) 76 none 0 (sub (bodyOf Tryz.f76) [1, 0, 1, 0, 0])
noncomputable def Ara76_0 : Ex × List AV × AH → Option AV := kAft (Cfg.keepOut cfg 76 2) (kRun cfg (EV cfg) (kfN cfg 6) 76 none 0 (kFinS cfg (Cfg.lift cfg 76 0) Tryz.f76.results.toList) ([.block 0, .seq (sub (bodyOf Tryz.f76) [1, 1])]))
noncomputable def Wra76_0 : List AV × AH → Option AV := fun p => kOpt (LOOP 0 (some [0, 1, 5]) ([]) Lra76_0 p) Ara76_0
noncomputable def Lra31_0 : Den := evC cfg (EV cfg) 31 none 0 (sub (bodyOf Tryz.f31) [1, 1, 1, 1, 0, 1, 0, 0])
noncomputable def Ara31_0 : Ex × List AV × AH → Option (OV × AV) := kAft (Cfg.keepOut cfg 31 6) (kRun cfg (EV cfg) (kfN cfg 6) 31 none 0 (kFinQ cfg (Cfg.lift cfg 31 0) Tryz.f31.results.toList) ([.block 0, .seq (sub (bodyOf Tryz.f31) [1, 1, 1, 1, 1])]))
noncomputable def Wra31_0 : List AV × AH → Option (OV × AV) := fun p => kOpt (LOOP 0 (some [4, 6, 7]) ([(6, 6)]) Lra31_0 p) Ara31_0
noncomputable def Lra24_0 : Den := evC cfg (EV cfg) 24 none 0 (sub (bodyOf Tryz.f24) [1, 1, 0, 1, 0, 0])
noncomputable def Ara24_0 : Ex × List AV × AH → Option AV := kAft (Cfg.keepOut cfg 24 3) (kRun cfg (EV cfg) (kfN cfg 6) 24 none 0 (kFinF cfg (Cfg.lift cfg 24 0) Tryz.f24.results.toList) ([.block 0, .seq (sub (bodyOf Tryz.f24) [1, 1, 1])]))
noncomputable def Wra24_0 : List AV × AH → Option AV := fun p => kOpt (LOOP 0 (some [0, 2, 4, 5]) ([(4, 4)]) Lra24_0 p) Ara24_0
noncomputable def Lra95_0 : Den := evC cfg (EV cfg) 95 none 0 (sub (bodyOf Tryz.f95) [1, 1, 1, 1, 0, 1, 0, 0])
noncomputable def Ara95_0 : Ex × List AV × AH → Option AV := kAft (Cfg.keepOut cfg 95 6) (kRun cfg (EV cfg) (kfN cfg 6) 95 none 0 (kFinF cfg (Cfg.lift cfg 95 0) Tryz.f95.results.toList) ([.block 0, .seq (sub (bodyOf Tryz.f95) [1, 1, 1, 1, 1])]))
noncomputable def Wra95_0 : List AV × AH → Option AV := fun p => kOpt (LOOP 0 (some [1, 7, 8]) ([]) Lra95_0 p) Ara95_0
noncomputable def Lra125_0 : Den := evC cfg (EV cfg) 125 none 0 (sub (bodyOf Tryz.f125) [1, 1, 0, 0, 0])
noncomputable def Ara125_0 : Ex × List AV × AH → Option AV := kAft (Cfg.keepOut cfg 125 2) (kRun cfg (EV cfg) (kfN cfg 6) 125 none 0 (kFinF cfg (Cfg.lift cfg 125 0) Tryz.f125.results.toList) ([.block 0, .seq (sub (bodyOf Tryz.f125) [1, 1, 1])]))
noncomputable def Wra125_0 : List AV × AH → Option AV := fun p => kOpt (LOOP 0 (some [0, 1, 5]) ([]) Lra125_0 p) Ara125_0
noncomputable def Jra125_0 : List AV × AH → Option AV := fun p => kOpt (CUT p) fun p => kCode cfg (EV cfg) (kfN cfg 6) 125 none 0 (sub (bodyOf Tryz.f125) [1, 1, 1]) p.1 p.2 (kRun cfg (EV cfg) (kfN cfg 6) 125 none 0 (kFinF cfg (Cfg.lift cfg 125 0) Tryz.f125.results.toList) ([]))
noncomputable def Jra125_1 : List AV × AH → Option AV := fun p => kOpt (CUT p) fun p => kCode cfg (EV cfg) (kfN cfg 6) 125 none 0 (sub (bodyOf Tryz.f125) [1, 1, 1, 1]) p.1 p.2 (kRun cfg (EV cfg) (kfN cfg 6) 125 none 0 (kFinF cfg (Cfg.lift cfg 125 0) Tryz.f125.results.toList) ([]))
noncomputable abbrev wra54_0 (nv4 : Nat) (c0_0 : Int) (c0_1 : Int) (c0_2 : List UInt8) (c0_3 : List (List AV)) (h1 : List (List AV)) : Option (AV) := Wra54_0  (((fx 23 [(1, AV.ptr (0 : Nat) (0 : Nat) (0 : Nat)), (4, AV.ms (1 : Nat) (0 : Nat) nv4)]) : List AV), ([ABlk.rows false (4 : Nat) [[AV.int IntKind.i64 c0_0, AV.int IntKind.i64 c0_1, AV.str c0_2, AV.sl c0_3]], ABlk.rows true (4 : Nat) h1] : AH))
noncomputable abbrev wra49_0 (L : List (List AV)) (v4 : Int) (c0_0 : Int) (c0_1 : Int) (c0_2 : List UInt8) (c0_3 : List (List AV)) (c1_0 : Int) (c1_1 : Int) (c1_2 : List UInt8) (c1_3 : List (List AV)) : Option (AV) := Wra49_0  (((fx 21 [(0, AV.sl L), (2, AV.ptr (0 : Nat) (0 : Nat) (0 : Nat)), (3, AV.ptr (1 : Nat) (0 : Nat) (0 : Nat)), (4, AV.int IntKind.i64 v4)]) : List AV), ([ABlk.rows false (4 : Nat) [[AV.int IntKind.i64 c0_0, AV.int IntKind.i64 c0_1, AV.str c0_2, AV.sl c0_3]], ABlk.rows false (4 : Nat) [[AV.int IntKind.i64 c1_0, AV.int IntKind.i64 c1_1, AV.str c1_2, AV.sl c1_3]]] : AH))
noncomputable abbrev wra76_0 (L : List (List AV)) (V : List (List AV)) (v5 : Int) : Option (AV) := Wra76_0  (((fx 19 [(0, AV.sl L), (1, AV.sl V), (5, AV.int IntKind.i64 v5)]) : List AV), ([] : AH))
noncomputable abbrev wra31_0 (rows : List (List AV)) (nv6 : Nat) (v7 : Int) (h0 : List (List AV)) : Option (OV × AV) := Wra31_0  (((fx 43 [(4, AV.sl rows), (6, AV.ms (0 : Nat) (0 : Nat) nv6), (7, AV.int IntKind.i64 v7)]) : List AV), ([ABlk.rows true (6 : Nat) h0] : AH))
noncomputable abbrev wra24_0 (L : List (List AV)) (nv4 : Nat) (v5 : Int) (c0_0 : Int) (c0_1 : Int) (c0_2 : List UInt8) (c0_3 : List (List AV)) (h1 : List (List AV)) : Option (AV) := Wra24_0  (((fx 46 [(0, AV.sl L), (2, AV.ptr (0 : Nat) (0 : Nat) (0 : Nat)), (4, AV.ms (1 : Nat) (0 : Nat) nv4), (5, AV.int IntKind.i64 v5)]) : List AV), ([ABlk.rows false (4 : Nat) [[AV.int IntKind.i64 c0_0, AV.int IntKind.i64 c0_1, AV.str c0_2, AV.sl c0_3]], ABlk.rows true (4 : Nat) h1] : AH))
noncomputable abbrev wra95_0 (rows : List (List AV)) (v1 : List (List AV)) (v8 : Int) : Option (AV) := Wra95_0  (((fx 33 [(1, AV.sl v1), (7, AV.sl rows), (8, AV.int IntKind.i64 v8)]) : List AV), ([] : AH))
noncomputable abbrev wra125_0 (L : List (List AV)) (n : Int) (v5 : Int) : Option (AV) := Wra125_0  (((fx 48 [(0, AV.sl L), (1, AV.int IntKind.i64 n), (5, AV.int IntKind.i64 v5)]) : List AV), ([] : AH))
noncomputable abbrev jra125_0 (v0 : List (List AV)) (v1 : Int) (v5 : Int) : Option (AV) := Jra125_0  (((fx 48 [(0, AV.sl v0), (1, AV.int IntKind.i64 v1), (5, AV.int IntKind.i64 v5)]) : List AV), ([] : AH))
noncomputable abbrev jra125_1 (v0 : List (List AV)) (v1 : Int) (v5 : Int) : Option (AV) := Jra125_1  (((fx 48 [(0, AV.sl v0), (1, AV.int IntKind.i64 v1), (5, AV.int IntKind.i64 v5)]) : List AV), ([] : AH))
theorem r18Items_run (kt : Int) (nt : Int) (st : List UInt8) (lt : List (List AV)) {P : AV → Prop} (h : Gets (wra54_0 0 kt nt st lt []) P) : Gets (EVf (EV cfg) 54 ([AV.agg [AV.int IntKind.i64 kt, AV.int IntKind.i64 nt, AV.str st, AV.sl lt]] : List AV)) P :=
  Gets.ev (fun _ h => funF rfl rfl Tryz.func54 rfl h) (Gets.eq (by kernel_rfl) h)
theorem r18List_run (L : List (List AV)) {P : AV → Prop} (h : Gets (wra49_0 L (IntKind.wrap .i64 ((↑(List.length L) : Int) - (1 : Int))) (0 : Int) (0 : Int) [] [] (8 : Int) (0 : Int) [] []) P) : Gets (EVf (EV cfg) 49 ([AV.sl L] : List AV)) P :=
  Gets.ev (fun _ h => funF rfl rfl Tryz.func49 rfl h) (Gets.eq (by kernel_rfl) h)
theorem r18Head_run (kt : Int) (nt : Int) (st : List UInt8) (lt : List (List AV)) {P : AV → Prop} (h : Gets (kOpt (EVs (EV cfg) 93 [.agg [AV.int .i64 kt, .int .i64 nt, .str st, .sl lt]]) fun (v : AV) => kTup v fun (cs : List AV) => kCons cs fun (c : AV) (cs : List AV) => kInt .i64 c fun (n : 
  Int) => kCons cs fun (c : AV) (cs : List AV) => kBool c fun (b : Bool) => kNil cs (bif b then some (.bool true) else kOpt (EVs (EV cfg) 94 [.agg [AV.int .i64 kt, .int .i64 nt, .str st, 
  .sl lt]]) fun (v : AV) => kBool v fun (b : Bool) => bif b then some (.bool true) else some (.bool (kt == (7 : Int))))) P) : Gets (EVs (EV cfg) 74 ([AV.agg [AV.int IntKind.i64 kt, AV.int IntKind.i64 nt, AV.str st, AV.sl lt]] : List AV)) P :=
  Gets.ev (fun _ h => funS rfl rfl Tryz.func74 rfl h) (Gets.eq (by kernel_rfl) h)
theorem r18Exprs_run (L : List (List AV)) (V : List (List AV)) {P : AV → Prop} (h : Gets (wra76_0 L V (0 : Int)) P) : Gets (EVs (EV cfg) 76 ([AV.sl L, AV.sl V] : List AV)) P :=
  Gets.ev (fun _ h => funS rfl rfl Tryz.func76 rfl h) (Gets.eq (by kernel_rfl) h)
theorem r18Clause_run (kt : Int) (nt : Int) (st : List UInt8) (lt : List (List AV)) {P : AV → Prop} (h : Gets (bif kt != (7 : Int) then some (AV.tup [.agg [AV.int .i64 (0 : Int), .int .i64 (0 : Int), .str [], .sl [], .sl [], .sl []], .bool false]) else bif (↑(List.length lt) : Int) != (3 : Int) 
  then some (AV.tup [.agg [AV.int .i64 (0 : Int), .int .i64 (0 : Int), .str [], .sl [], .sl [], .sl []], .bool false]) else bif ltInt (0 : Int) (↑(List.length lt) : Int) then kOpt (List.get?Internal 
  lt 0) fun (row : List AV) => bif Nat.beq (List.length row) 4 then bif Nat.ble 4 (List.length row) then kTmC (List.take 4 row) fun (n n_1 : Int) (s : List UInt8) (rows : List (List AV)) 
  => (kOpt (EVs (EV cfg) 74 [.agg [AV.int .i64 n, .int .i64 n_1, .str s, .sl rows]]) fun (v : AV) => kBool v fun (b : Bool) => bif !b then some (AV.tup [.agg [AV.int .i64 (0 : Int), .int 
  .i64 (0 : Int), .str [], .sl [], .sl [], .sl []], .bool false]) else bif ltInt (1 : Int) (↑(List.length lt) : Int) then kOpt (List.get?Internal lt 1) fun (row : List AV) => bif Nat.beq 
  (List.length row) 4 then bif Nat.ble 4 (List.length row) then kTmC (List.take 4 row) fun (n n_2 : Int) (s : List UInt8) (rows : List (List AV)) => (kOpt (EVf (EV cfg) 54 [.agg [AV.int 
  .i64 n, .int .i64 n_2, .str s, .sl rows]]) fun (v : AV) => kTup v fun (cs : List AV) => kCons cs fun (c : AV) (cs : List AV) => kSl c fun (rows : List (List AV)) => kCons cs fun (c 
  : AV) (cs : List AV) => kBool c fun (b : Bool) => kNil cs (bif ltInt (2 : Int) (↑(List.length lt) : Int) then kOpt (List.get?Internal lt 2) fun (row : List AV) => bif Nat.beq (List.length 
  row) 4 then bif Nat.ble 4 (List.length row) then kTmC (List.take 4 row) fun (n n_3 : Int) (s : List UInt8) (rows_1 : List (List AV)) => (kOpt (EVf (EV cfg) 54 [.agg [AV.int .i64 n, .int 
  .i64 n_3, .str s, .sl rows_1]]) fun (v : AV) => kTup v fun (cs : List AV) => kCons cs fun (c : AV) (cs : List AV) => kSl c fun (rows_2 : List (List AV)) => kCons cs fun (c : AV) (cs 
  : List AV) => kBool c fun (b_1 : Bool) => kNil cs (bif ltInt (0 : Int) (↑(List.length lt) : Int) then kOpt (List.get?Internal lt 0) fun (row : List AV) => bif Nat.beq (List.length row) 
  4 then bif Nat.ble 4 (List.length row) then kTmC (List.take 4 row) fun (n n_4 : Int) (s : List UInt8) (rows_3 : List (List AV)) => (kOpt (EVf (EV cfg) 75 [AV.agg [AV.int .i64 n, .int 
  .i64 n_4, .str s, .sl rows_3]]) fun (v : AV) => kSl v fun (rows_4 : List (List AV)) => bif !b then some (AV.tup [AV.agg [AV.int .i64 (0 : Int), .int .i64 (0 : Int), .str [], .sl [], .sl 
  [], .sl []], .bool false]) else bif !b_1 then some (AV.tup [AV.agg [AV.int .i64 (0 : Int), .int .i64 (0 : Int), .str [], .sl [], .sl [], .sl []], .bool false]) else bif (↑(List.length 
  rows_2) : Int) == (0 : Int) then some (AV.tup [AV.agg [AV.int .i64 (0 : Int), .int .i64 (0 : Int), .str [], .sl [], .sl [], .sl []], .bool false]) else kOpt (EVs (EV cfg) 76 [.sl rows, 
  .sl rows_4]) fun (v : AV) => kBool v fun (b : Bool) => bif !b then some (AV.tup [AV.agg [AV.int .i64 (0 : Int), .int .i64 (0 : Int), .str [], .sl [], .sl [], .sl []], .bool false]) else 
  kOpt (EVs (EV cfg) 76 [.sl rows_2, .sl rows_4]) fun (v : AV) => kBool v fun (b : Bool) => bif !b then some (AV.tup [AV.agg [AV.int .i64 (0 : Int), .int .i64 (0 : Int), .str [], .sl [], 
  .sl [], .sl []], .bool false]) else bif ltInt (0 : Int) (↑(List.length lt) : Int) then kOpt (List.get?Internal lt 0) fun (row : List AV) => bif Nat.beq (List.length row) 4 then bif 
  Nat.ble 4 (List.length row) then kTmC (List.take 4 row) fun (n n_5 : Int) (s : List UInt8) (rows_5 : List (List AV)) => (some (AV.tup [AV.agg [AV.int .i64 n, AV.int .i64 n_5, AV.str 
  s, AV.sl rows_5, AV.sl rows, AV.sl rows_2], AV.bool true])) else none else none else none) else none else none else none)) else none else none else none)) else none else none else none) 
  else none else none else none) P) : Gets (EVf (EV cfg) 55 ([AV.agg [AV.int IntKind.i64 kt, AV.int IntKind.i64 nt, AV.str st, AV.sl lt]] : List AV)) P :=
  Gets.ev (fun _ h => funF rfl rfl Tryz.func55 rfl h) (Gets.eq (by kernel_rfl) h)
theorem r18Clauses__run (kt : Int) (nt : Int) (st : List UInt8) (lt : List (List AV)) {P : OV × AV → Prop} (h : Gets (kOpt (EVf (EV cfg) 54 [.agg [AV.int .i64 kt, .int .i64 nt, .str st, .sl lt]]) fun (v : AV) => kTup v fun (cs : List AV) => kCons cs fun (c : AV) (cs : List AV) => kSl c fun (rows : List 
  (List AV)) => kCons cs fun (c : AV) (cs : List AV) => kBool c fun (b : Bool) => kNil cs (bif !b then some (OV.own 6 [] 0 0, .bool false) else bif (↑(List.length rows) : Int) == (0 : 
  Int) then some (OV.own 6 [] 0 0, .bool false) else wra31_0 rows 0 (0 : Int) [])) P) : Gets (EVq (EV cfg) 31 ([AV.agg [AV.int IntKind.i64 kt, AV.int IntKind.i64 nt, AV.str st, AV.sl lt]] : List AV)) P :=
  Gets.ev (fun _ h => funQ rfl rfl Tryz.func31 rfl h) (Gets.eq (by kernel_rfl) h)
theorem r18Check_run (kt : Int) (nt : Int) (st : List UInt8) (lt : List (List AV)) {P : AV → Prop} (h : Gets (kOpt (EVs (EV cfg) 45 [.agg [AV.int .i64 kt, .int .i64 nt, .str st, .sl lt]]) fun (v : AV) => kInt .i64 v fun (n : Int) => bif n != (0 : Int) then some (.int .i64 (2 : Int)) else kOpt 
  (EVq (EV cfg) 31 [.agg [AV.int .i64 kt, .int .i64 nt, .str st, .sl lt]]) fun (q : OV × AV) => kBool q.2 fun (b : Bool) => kOwn q.1 (bif !b then some (.int .i64 (10 : Int)) else some (.int 
  .i64 (0 : Int))) fun (sz : Nat) (rs : List (List AV)) (off len : Nat) => bif !b then some (.int .i64 (10 : Int)) else some (.int .i64 (0 : Int))) P) : Gets (EVs (EV cfg) 19 ([AV.agg [AV.int IntKind.i64 kt, AV.int IntKind.i64 nt, AV.str st, AV.sl lt]] : List AV)) P :=
  Gets.ev (fun _ h => funS rfl rfl Tryz.func19 rfl h) (Gets.eq (by kernel_rfl) h)
theorem r18Of_run (L : List (List AV)) {P : AV → Prop} (h : Gets (wra24_0 L 0 (0 : Int) (0 : Int) (0 : Int) [] [] []) P) : Gets (EVf (EV cfg) 24 ([AV.sl L] : List AV)) P :=
  Gets.ev (fun _ h => funF rfl rfl Tryz.func24 rfl h) (Gets.eq (by kernel_rfl) h)
theorem r18Match_run (kt : Int) (nt : Int) (st : List UInt8) (lt : List (List AV)) {P : AV → Prop} (h : Gets (kOpt (EVf (EV cfg) 24 [AV.sl [[AV.int .i64 kt, .int .i64 nt, .str st, .sl lt, .sl [], .sl [[AV.int .i64 (2 : Int), .int .i64 (0 : Int), .str [(36 : UInt8), (95 : UInt8)], .sl []]]]]]) fun 
  (v : AV) => kTup v fun (cs : List AV) => kCons cs fun (c : AV) (cs : List AV) => kAgg c fun (cs_1 : List AV) => kCons cs_1 fun (c : AV) (cs_2 : List AV) => kInt .i64 c fun (n : Int) 
  => kCons cs_2 fun (c : AV) (cs_3 : List AV) => kInt .i64 c fun (n_1 : Int) => kCons cs_3 fun (c : AV) (cs_4 : List AV) => kStr c fun (s : List UInt8) => kCons cs_4 fun (c : AV) (cs_5 
  : List AV) => kSl c fun (rows : List (List AV)) => kNil cs_5 (kCons cs fun (c : AV) (cs : List AV) => kInt .i64 c fun (n_2 : Int) => kNil cs (some (AV.tup [.agg [AV.int .i64 n, .int .i64 
  n_1, .str s, .sl rows], .int .i64 n_2])))) P) : Gets (EVf (EV cfg) 26 ([AV.agg [AV.int IntKind.i64 kt, AV.int IntKind.i64 nt, AV.str st, AV.sl lt]] : List AV)) P :=
  Gets.ev (fun _ h => funF rfl rfl Tryz.func26 rfl h) (Gets.eq (by kernel_rfl) h)
theorem r16Any_run (kt : Int) (nt : Int) (st : List UInt8) (lt : List (List AV)) {P : AV → Prop} (h : Gets (kOpt (EVs (EV cfg) 45 [.agg [AV.int .i64 kt, .int .i64 nt, .str st, .sl lt]]) fun (v : AV) => kInt .i64 v fun (n : Int) => bif n == (0 : Int) then bif kt == (2 : Int) then some (.bool 
  (st == [(95 : UInt8)])) else some (.bool false) else some (.bool false)) P) : Gets (EVs (EV cfg) 94 ([AV.agg [AV.int IntKind.i64 kt, AV.int IntKind.i64 nt, AV.str st, AV.sl lt]] : List AV)) P :=
  Gets.ev (fun _ h => funS rfl rfl Tryz.func94 rfl h) (Gets.eq (by kernel_rfl) h)
theorem r16Parts_run (kt : Int) (nt : Int) (st : List UInt8) (lt : List (List AV)) {P : AV → Prop} (h : Gets (bif kt == (7 : Int) then some (.sl lt) else bif kt == (9 : Int) then some (.sl lt) else some (.sl [])) P) : Gets (EVf (EV cfg) 126 ([AV.agg [AV.int IntKind.i64 kt, AV.int IntKind.i64 nt, AV.str st, AV.sl lt]] : List AV)) P :=
  Gets.ev (fun _ h => funF rfl rfl Tryz.func126 rfl h) (Gets.eq (by kernel_rfl) h)
theorem r16vars_run (kp : Int) (np : Int) (sp : List UInt8) (lp : List (List AV)) (L : List (List AV)) {P : AV → Prop} (h : Gets (kOpt (EVs (EV cfg) 93 [.agg [AV.int .i64 kp, .int .i64 np, .str sp, .sl lp]]) fun (v : AV) => kTup v fun (cs : List AV) => kCons cs fun (c : AV) (cs : List AV) => kInt .i64 c fun (n : 
  Int) => kCons cs fun (c : AV) (cs : List AV) => kBool c fun (b : Bool) => kNil cs (bif b then kOpt (EVf (EV cfg) 125 [.sl L, .int .i64 n]) fun (v : AV) => kSl v fun (rows : List (List 
  AV)) => some (.sl rows) else kOpt (EVf (EV cfg) 126 [.agg [AV.int .i64 kp, .int .i64 np, .str sp, .sl lp]]) fun (v : AV) => kSl v fun (rows : List (List AV)) => wra95_0 rows L (0 : Int))) P) : Gets (EVf (EV cfg) 95 ([AV.agg [AV.int IntKind.i64 kp, AV.int IntKind.i64 np, AV.str sp, AV.sl lp], AV.sl L] : List AV)) P :=
  Gets.ev (fun _ h => funF rfl rfl Tryz.func95 rfl h) (Gets.eq (by kernel_rfl) h)
theorem r16With_run (L : List (List AV)) (n : Int) {P : AV → Prop} (h : Gets (wra125_0 L n (0 : Int)) P) : Gets (EVf (EV cfg) 125 ([AV.sl L, AV.int IntKind.i64 n] : List AV)) P :=
  Gets.ev (fun _ h => funF rfl rfl Tryz.func125 rfl h) (Gets.eq (by kernel_rfl) h)
theorem r16Vars_run (kt : Int) (nt : Int) (st : List UInt8) (lt : List (List AV)) {P : AV → Prop} (h : Gets (kOpt (EVs (EV cfg) 45 [.agg [AV.int .i64 kt, .int .i64 nt, .str st, .sl lt]]) fun (v : AV) => kInt .i64 v fun (n : Int) => bif n != (0 : Int) then some (.sl []) else kOpt (EVf (EV cfg) 
  95 [.agg [AV.int .i64 kt, .int .i64 nt, .str st, .sl lt], .sl []]) fun (v : AV) => kSl v fun (rows : List (List AV)) => some (.sl rows)) P) : Gets (EVf (EV cfg) 75 ([AV.agg [AV.int IntKind.i64 kt, AV.int IntKind.i64 nt, AV.str st, AV.sl lt]] : List AV)) P :=
  Gets.ev (fun _ h => funF rfl rfl Tryz.func75 rfl h) (Gets.eq (by kernel_rfl) h)
theorem wra54_0_step (nv4 : Nat) (c0_0 : Int) (c0_1 : Int) (c0_2 : List UInt8) (c0_3 : List (List AV)) (h1 : List (List AV)) {P : AV → Prop} (h : Gets (bif c0_0 == (9 : Int) then bif ltInt (0 : Int) (↑(List.length c0_3) : Int) then kOpt (List.get?Internal c0_3 0) fun (row : List AV) => bif Nat.beq (List.length row) 4 then bif Nat.ble 
  4 (List.length row) then kTmC (List.take 4 row) fun (n n_1 : Int) (s : List UInt8) (rows : List (List AV)) => (bif Nat.ble (0 + nv4) (List.length h1) && fitsIn (nv4 + 1) 56 then bif 
  ltInt (1 : Int) (↑(List.length c0_3) : Int) then kOpt (List.get?Internal c0_3 1) fun (row : List AV) => bif Nat.beq (List.length row) 4 then bif Nat.ble 4 (List.length row) then kTmC 
  (List.take 4 row) fun (n_2 n_3 : Int) (s_1 : List UInt8) (rows_1 : List (List AV)) => (wra54_0 (nv4 + 1) n_2 n_3 s_1 rows_1 (List.append (List.take nv4 h1) [[AV.int .i64 n, .int .i64 
  n_1, .str s, .sl rows]])) else none else none else none else none) else none else none else none else bif Nat.ble (0 + nv4) (List.length h1) && true then some (AV.tup [.sl (List.take 
  nv4 h1), .bool (c0_0 == (8 : Int))]) else none) P) : Gets (wra54_0 nv4 c0_0 c0_1 c0_2 c0_3 h1) P :=
  Gets.ev (fun _ h => loop_step (cfg := cfg) (f := 54) (rd := none) (bs := 0) h) (Gets.eq (by kernel_rfl) h)
theorem wra49_0_step (L : List (List AV)) (v4 : Int) (c0_0 : Int) (c0_1 : Int) (c0_2 : List UInt8) (c0_3 : List (List AV)) (c1_0 : Int) (c1_1 : Int) (c1_2 : List UInt8) (c1_3 : List (List AV)) {P : AV → Prop} (h : Gets (bif decide (v4 ≥ (0 : Int)) then bif leInt (0 : Int) v4 && ltInt v4 (↑(List.length L) : Int) then kOpt (List.get?Internal L (Int.toNat v4)) fun (row : List AV) => bif Nat.beq (List.length 
  row) 4 then bif Nat.ble 4 (List.length row) then kTmC (List.take 4 row) fun (n n_1 : Int) (s : List UInt8) (rows : List (List AV)) => (wra49_0 L (IntKind.wrap .i64 (v4 - (1 : Int))) 
  c0_0 c0_1 c0_2 c0_3 (9 : Int) (0 : Int) [] [[AV.int .i64 n, .int .i64 n_1, .str s, .sl rows], [AV.int .i64 c1_0, .int .i64 c1_1, .str c1_2, .sl c1_3]]) else none else none else none else 
  some (.agg [AV.int .i64 c1_0, .int .i64 c1_1, .str c1_2, .sl c1_3])) P) : Gets (wra49_0 L v4 c0_0 c0_1 c0_2 c0_3 c1_0 c1_1 c1_2 c1_3) P :=
  Gets.ev (fun _ h => loop_step (cfg := cfg) (f := 49) (rd := none) (bs := 0) h) (Gets.eq (by kernel_rfl) h)
theorem wra76_0_step (L : List (List AV)) (V : List (List AV)) (v5 : Int) {P : AV → Prop} (h : Gets (bif decide (v5 < (↑(List.length L) : Int)) then bif leInt (0 : Int) v5 && ltInt v5 (↑(List.length L) : Int) then kOpt (List.get?Internal L (Int.toNat v5)) fun (row : List AV) => bif 
  Nat.beq (List.length row) 4 then bif Nat.ble 4 (List.length row) then kTmC (List.take 4 row) fun (n n_1 : Int) (s : List UInt8) (rows : List (List AV)) => (kOpt (EVs (EV cfg) 79 [.agg 
  [AV.int .i64 n, .int .i64 n_1, .str s, .sl rows], .sl V]) fun (v : AV) => kInt .i64 v fun (n : Int) => bif n != (0 : Int) then some (.bool false) else wra76_0 L V (IntKind.wrap .i64 (v5 
  + (1 : Int)))) else none else none else none else some (.bool true)) P) : Gets (wra76_0 L V v5) P :=
  Gets.ev (fun _ h => loop_step (cfg := cfg) (f := 76) (rd := none) (bs := 0) h) (Gets.eq (by kernel_rfl) h)
theorem wra31_0_step (rows : List (List AV)) (nv6 : Nat) (v7 : Int) (h0 : List (List AV)) {P : OV × AV → Prop} (h : Gets (bif decide (v7 < (↑(List.length rows) : Int)) then bif leInt (0 : Int) v7 && ltInt v7 (↑(List.length rows) : Int) then kOpt (List.get?Internal rows (Int.toNat v7)) fun (row : List AV) 
  => bif Nat.beq (List.length row) 4 then bif Nat.ble 4 (List.length row) then kTmC (List.take 4 row) fun (n n_1 : Int) (s : List UInt8) (rows_1 : List (List AV)) => (kOpt (EVf (EV cfg) 
  55 [.agg [AV.int .i64 n, .int .i64 n_1, .str s, .sl rows_1]]) fun (v : AV) => kTup v fun (cs : List AV) => kCons cs fun (c : AV) (cs : List AV) => kAgg c fun (cs_1 : List AV) => kCons 
  cs_1 fun (c : AV) (cs_2 : List AV) => kInt .i64 c fun (n : Int) => kCons cs_2 fun (c : AV) (cs_3 : List AV) => kInt .i64 c fun (n_2 : Int) => kCons cs_3 fun (c : AV) (cs_4 : List AV) 
  => kStr c fun (s : List UInt8) => kCons cs_4 fun (c : AV) (cs_5 : List AV) => kSl c fun (rows_2 : List (List AV)) => kCons cs_5 fun (c : AV) (cs_6 : List AV) => kSl c fun (rows_3 : 
  List (List AV)) => kCons cs_6 fun (c : AV) (cs_7 : List AV) => kSl c fun (rows_4 : List (List AV)) => kNil cs_7 (kCons cs fun (c : AV) (cs : List AV) => kBool c fun (b : Bool) => kNil 
  cs (bif !b then some (OV.own 6 [] 0 0, .bool false) else bif Nat.ble (0 + nv6) (List.length h0) && fitsIn (nv6 + 1) 104 then wra31_0 rows (nv6 + 1) (IntKind.wrap .i64 (v7 + (1 : Int))) 
  (List.append (List.take nv6 h0) [[AV.int .i64 n, .int .i64 n_2, .str s, .sl rows_2, .sl rows_3, .sl rows_4]]) else none))) else none else none else none else some (OV.own 6 h0 0 nv6, 
  .bool true)) P) : Gets (wra31_0 rows nv6 v7 h0) P :=
  Gets.ev (fun _ h => loop_step (cfg := cfg) (f := 31) (rd := none) (bs := 0) h) (Gets.eq (by kernel_rfl) h)
theorem wra24_0_step (L : List (List AV)) (nv4 : Nat) (v5 : Int) (c0_0 : Int) (c0_1 : Int) (c0_2 : List UInt8) (c0_3 : List (List AV)) (h1 : List (List AV)) {P : AV → Prop} (h : Gets (bif decide (v5 < (↑(List.length L) : Int)) then bif leInt (0 : Int) v5 && ltInt v5 (↑(List.length L) : Int) then kOpt (List.get?Internal L (Int.toNat v5)) fun (row : List AV) => bif 
  Nat.beq (List.length row) 6 then bif Nat.ble 4 (List.length row) then kTmC (List.take 4 row) fun (n n_1 : Int) (s : List UInt8) (rows : List (List AV)) => (bif leInt (0 : Int) v5 && 
  ltInt v5 (↑(List.length L) : Int) then kOpt (List.get?Internal L (Int.toNat v5)) fun (row : List AV) => bif Nat.beq (List.length row) 6 then kOpt (List.get?Internal row 4) fun (v : 
  AV) => kSl v fun (rows_1 : List (List AV)) => kOpt (EVf (EV cfg) 49 [.sl rows_1]) fun (v : AV) => kTmV v fun (n_2 n_3 : Int) (s_1 : List UInt8) (rows_2 : List (List AV)) => (bif leInt 
  (0 : Int) v5 && ltInt v5 (↑(List.length L) : Int) then kOpt (List.get?Internal L (Int.toNat v5)) fun (row : List AV) => bif Nat.beq (List.length row) 6 then kOpt (List.get?Internal 
  row 5) fun (v : AV) => kSl v fun (rows_3 : List (List AV)) => kOpt (EVf (EV cfg) 49 [.sl rows_3]) fun (v : AV) => kTmV v fun (n_4 n_5 : Int) (s_2 : List UInt8) (rows_4 : List (List 
  AV)) => (bif Nat.ble (0 + nv4) (List.length h1) && fitsIn (nv4 + 1) 56 then wra24_0 L (nv4 + 1) (IntKind.wrap .i64 (v5 + (1 : Int))) c0_0 c0_1 c0_2 c0_3 (List.append (List.take nv4 
  h1) [[AV.int .i64 (7 : Int), .int .i64 (0 : Int), .str [], AV.sl [[AV.int .i64 n, .int .i64 n_1, .str s, .sl rows], [AV.int .i64 n_2, .int .i64 n_3, .str s_1, .sl rows_2], [AV.int .i64 n_4, 
  .int .i64 n_5, .str s_2, .sl rows_4]]]]) else none) else none else none) else none else none) else none else none else none else bif Nat.ble (0 + nv4) (List.length h1) && true then 
  kOpt (EVf (EV cfg) 49 [.sl (List.take nv4 h1)]) fun (v : AV) => kTmV v fun (n n_1 : Int) (s : List UInt8) (rows : List (List AV)) => (kOpt (EVs (EV cfg) 19 [.agg [AV.int .i64 n, .int 
  .i64 n_1, .str s, .sl rows]]) fun (v : AV) => kInt .i64 v fun (n_2 : Int) => bif n_2 != (0 : Int) then some (AV.tup [.agg [AV.int .i64 (0 : Int), .int .i64 (0 : Int), .str [], .sl []], 
  .int .i64 n_2]) else kOpt (EVf (EV cfg) 33 [.agg [AV.int .i64 n, .int .i64 n_1, .str s, .sl rows]]) fun (v : AV) => kTmV v fun (n n_3 : Int) (s : List UInt8) (rows : List (List AV)) => 
  (some (AV.tup [.agg [AV.int .i64 n, .int .i64 n_3, .str s, .sl rows], .int .i64 (0 : Int)]))) else none) P) : Gets (wra24_0 L nv4 v5 c0_0 c0_1 c0_2 c0_3 h1) P :=
  Gets.ev (fun _ h => loop_step (cfg := cfg) (f := 24) (rd := none) (bs := 0) h) (Gets.eq (by kernel_rfl) h)
theorem wra95_0_step (rows : List (List AV)) (v1 : List (List AV)) (v8 : Int) {P : AV → Prop} (h : Gets (bif decide (v8 < (↑(List.length rows) : Int)) then bif leInt (0 : Int) v8 && ltInt v8 (↑(List.length rows) : Int) then kOpt (List.get?Internal rows (Int.toNat v8)) fun (row : List AV) 
  => bif Nat.beq (List.length row) 4 then bif Nat.ble 4 (List.length row) then kTmC (List.take 4 row) fun (n n_1 : Int) (s : List UInt8) (rows_1 : List (List AV)) => (kOpt (EVf (EV cfg) 
  95 [.agg [AV.int .i64 n, .int .i64 n_1, .str s, .sl rows_1], .sl v1]) fun (v : AV) => kSl v fun (rows_2 : List (List AV)) => wra95_0 rows rows_2 (IntKind.wrap .i64 (v8 + (1 : Int)))) 
  else none else none else none else some (.sl v1)) P) : Gets (wra95_0 rows v1 v8) P :=
  Gets.ev (fun _ h => loop_step (cfg := cfg) (f := 95) (rd := none) (bs := 0) h) (Gets.eq (by kernel_rfl) h)
theorem wra125_0_step (L : List (List AV)) (n : Int) (v5 : Int) {P : AV → Prop} (h : Gets (bif decide (v5 < (↑(List.length L) : Int)) then bif leInt (0 : Int) v5 && ltInt v5 (↑(List.length L) : Int) then kOpt (List.get?Internal L (Int.toNat v5)) fun (row : List AV) => bif 
  Nat.beq (List.length row) 1 then kOpt (List.get?Internal row 0) fun (v : AV) => kInt .i64 v fun (n_1 : Int) => bif decide (n_1 < n) then wra125_0 L n (IntKind.wrap .i64 (v5 + (1 : Int))) 
  else jra125_0 L n v5 else none else none else jra125_0 L n v5) P) : Gets (wra125_0 L n v5) P :=
  Gets.ev (fun _ h => loop_step (cfg := cfg) (f := 125) (rd := none) (bs := 0) h) (Gets.eq (by kernel_rfl) h)
theorem jra125_0_step (v0 : List (List AV)) (v1 : Int) (v5 : Int) {P : AV → Prop} (h : Gets (bif decide (v5 < (↑(List.length v0) : Int)) then bif leInt (0 : Int) v5 && ltInt v5 (↑(List.length v0) : Int) then kOpt (List.get?Internal v0 (Int.toNat v5)) fun (row : List AV) => 
  bif Nat.beq (List.length row) 1 then kOpt (List.get?Internal row 0) fun (v : AV) => kInt .i64 v fun (n : Int) => bif n == v1 then some (.sl v0) else jra125_1 v0 v1 v5 else none else 
  none else jra125_1 v0 v1 v5) P) : Gets (jra125_0 v0 v1 v5) P :=
  Gets.ev (fun _ h => cut_step h) (Gets.eq (by kernel_rfl) h)
theorem jra125_1_step (v0 : List (List AV)) (v1 : Int) (v5 : Int) {P : AV → Prop} (h : Gets (bif leInt (0 : Int) v5 && leInt v5 (↑(List.length v0) : Int) then bif rowsOk 1 v0 then bif rowsOk 1 (List.take (Int.toNat v5 - 0) v0) then bif fitsIn (0 + List.length (List.take (Int.toNat 
  v5 - 0) v0)) 8 then bif Nat.ble (0 + (0 + List.length (List.take (Int.toNat v5 - 0) v0))) (List.length (List.take (Int.toNat v5 - 0) v0)) && fitsIn (0 + List.length (List.take (Int.toNat 
  v5 - 0) v0) + 1) 8 then bif leInt (0 : Int) v5 && leInt v5 (↑(List.length v0) : Int) then bif rowsOk 1 v0 then bif rowsOk 1 (List.take (List.length v0 - Int.toNat v5) (List.drop (Int.toNat 
  v5) v0)) then bif Nat.ble (0 + (0 + List.length (List.take (Int.toNat v5 - 0) v0) + 1)) (List.length (List.append (List.take (0 + List.length (List.take (Int.toNat v5 - 0) v0)) (List.take 
  (Int.toNat v5 - 0) v0)) [[AV.int .i64 v1]])) && fitsIn (0 + List.length (List.take (Int.toNat v5 - 0) v0) + 1 + List.length (List.take (List.length v0 - Int.toNat v5) (List.drop (Int.toNat 
  v5) v0))) 8 then bif Nat.ble (0 + (0 + List.length (List.take (Int.toNat v5 - 0) v0) + 1 + List.length (List.take (List.length v0 - Int.toNat v5) (List.drop (Int.toNat v5) v0)))) (List.length 
  (List.append (List.take (0 + List.length (List.take (Int.toNat v5 - 0) v0) + 1) (List.append (List.take (0 + List.length (List.take (Int.toNat v5 - 0) v0)) (List.take (Int.toNat v5 
  - 0) v0)) [[AV.int .i64 v1]])) (List.take (List.length v0 - Int.toNat v5) (List.drop (Int.toNat v5) v0)))) && true then some (AV.sl (List.take (0 + List.length (List.take (Int.toNat v5 
  - 0) v0) + 1 + List.length (List.take (List.length v0 - Int.toNat v5) (List.drop (Int.toNat v5) v0))) (List.append (List.take (0 + List.length (List.take (Int.toNat v5 - 0) v0) + 1) 
  (List.append (List.take (0 + List.length (List.take (Int.toNat v5 - 0) v0)) (List.take (Int.toNat v5 - 0) v0)) [[AV.int .i64 v1]])) (List.take (List.length v0 - Int.toNat v5) (List.drop 
  (Int.toNat v5) v0))))) else none else none else none else none else none else none else none else none else none else none) P) : Gets (jra125_1 v0 v1 v5) P :=
  Gets.ev (fun _ h => cut_step h) (Gets.eq (by kernel_rfl) h)
end Go.Proofs.YtonmmmgffeoiiaaGreat
end

section
namespace Go.Proofs.YtonmmmgffeoiiaaGreat
open Go.Av
set_option maxRecDepth 100000
set_option maxHeartbeats 0

noncomputable def Lu57_0 : Den := evC cfg (EV cfg) 131 none 0 (sub (bodyOf Tryz.f131) [1, 0, 1, 0, 0])
noncomputable def Au57_0 : Ex × List AV × AH → Option AV := kAft (Cfg.keepOut cfg 131 2) (kRun cfg (EV cfg) (kfN cfg 6) 131 none 0 (kFinS cfg (Cfg.lift cfg 131 0) Tryz.f131.results.toList) ([.block 0, .seq (sub (bodyOf Tryz.f131) [1, 1])]))
noncomputable def Wu57_0 : List AV × AH → Option AV := fun p => kOpt (LOOP 0 (some [0, 1, 5]) ([]) Lu57_0 p) Au57_0
noncomputable def Lu58_0 : Den := evC cfg (EV cfg) 132 none 0 (sub (bodyOf Tryz.f132) [1, 1, 0, 1, 0, 0])
noncomputable def Au58_0 : Ex × List AV × AH → Option AV := kAft (Cfg.keepOut cfg 132 3) (kRun cfg (EV cfg) (kfN cfg 6) 132 none 0 (kFinS cfg (Cfg.lift cfg 132 0) Tryz.f132.results.toList) ([.block 0, .seq (sub (bodyOf Tryz.f132) [1, 1, 1])]))
noncomputable def Wu58_0 : List AV × AH → Option AV := fun p => kOpt (LOOP 0 (some [1, 5, 6]) ([]) Lu58_0 p) Au58_0
noncomputable def Lu56_0 : Den := evC cfg (EV cfg) 130 none 0 (sub (bodyOf Tryz.f130) [1, 0, 1, 0, 0])
noncomputable def Au56_0 : Ex × List AV × AH → Option AV := kAft (Cfg.keepOut cfg 130 2) (kRun cfg (EV cfg) (kfN cfg 6) 130 none 0 (kFinS cfg (Cfg.lift cfg 130 0) Tryz.f130.results.toList) ([.block 0, .seq (sub (bodyOf Tryz.f130) [1, 1])]))
noncomputable def Wu56_0 : List AV × AH → Option AV := fun p => kOpt (LOOP 0 (some [0, 1, 5]) ([]) Lu56_0 p) Au56_0
noncomputable def Lu55_0 : Den := evC cfg (EV cfg) 93 none 0 (sub (bodyOf Tryz.f93) [1, 1, 1, 0, 1, 0, 0])
noncomputable def Au55_0 : Ex × List AV × AH → Option AV := kAft (Cfg.keepOut cfg 93 5) (kRun cfg (EV cfg) (kfN cfg 6) 93 none 0 (kFinS cfg (Cfg.lift cfg 93 0) Tryz.f93.results.toList) ([.block 0, .seq (sub (bodyOf Tryz.f93) [1, 1, 1, 1])]))
noncomputable def Wu55_0 : List AV × AH → Option AV := fun p => kOpt (LOOP 0 (some [1, 4, 5]) ([]) Lu55_0 p) Au55_0
noncomputable def Lu53_0 : Den := evC cfg (EV cfg) 64 none 0 (sub (bodyOf Tryz.f64) [1, 1, 0, 1, 0, 0])
noncomputable def Au53_0 : Ex × List AV × AH → Option AV := kAft (Cfg.keepOut cfg 64 4) (kRun cfg (EV cfg) (kfN cfg 6) 64 none 0 (kFinS cfg (Cfg.lift cfg 64 0) Tryz.f64.results.toList) ([.block 0, .seq (sub (bodyOf Tryz.f64) [1, 1, 1])]))
noncomputable def Wu53_0 : List AV × AH → Option AV := fun p => kOpt (LOOP 0 (some [1, 3]) ([]) Lu53_0 p) Au53_0
noncomputable def Lu54_0 : Den := evC cfg (EV cfg) 65 none 0 (sub (bodyOf Tryz.f65) [1, 1, 1, 0, 1, 0, 1, 0, 0])
noncomputable def Au54_0 : Ex × List AV × AH → Option AV := kAft (Cfg.keepOut cfg 65 6) (kRun cfg (EV cfg) (kfN cfg 6) 65 none 0 (kFinS cfg (Cfg.lift cfg 65 0) Tryz.f65.results.toList) ([.block 0, .seq (sub (bodyOf Tryz.f65) [1, 1, 1, 1])]))
noncomputable def Wu54_0 : List AV × AH → Option AV := fun p => kOpt (LOOP 0 (some [1, 3, 4]) ([]) Lu54_0 p) Au54_0
noncomputable abbrev wu57_0 (L : List (List AV)) (V : List (List AV)) (v5 : Int) : Option (AV) := Wu57_0  (((fx 19 [(0, AV.sl L), (1, AV.sl V), (5, AV.int IntKind.i64 v5)]) : List AV), ([] : AH))
noncomputable abbrev wu58_0 (n : Int) (rows : List (List AV)) (v6 : Int) : Option (AV) := Wu58_0  (((fx 21 [(1, AV.int IntKind.i64 n), (5, AV.sl rows), (6, AV.int IntKind.i64 v6)]) : List AV), ([] : AH))
noncomputable abbrev wu56_0 (L : List (List AV)) (n : Int) (v5 : Int) : Option (AV) := Wu56_0  (((fx 18 [(0, AV.sl L), (1, AV.int IntKind.i64 n), (5, AV.int IntKind.i64 v5)]) : List AV), ([] : AH))
noncomputable abbrev wu55_0 (v4 : Int) (v5 : Int) (c0_0 : Int) (c0_1 : Int) (c0_2 : List UInt8) (c0_3 : List (List AV)) : Option (AV) := Wu55_0  (((fx 73 [(1, AV.ptr (0 : Nat) (0 : Nat) (0 : Nat)), (4, AV.int IntKind.i64 v4), (5, AV.int IntKind.i64 v5)]) : List AV), ([ABlk.rows false (4 : Nat) [[AV.int IntKind.i64 c0_0, AV.int IntKind.i64 c0_1, AV.str c0_2, AV.sl c0_3]]] : AH))
noncomputable abbrev wu53_0 (v3 : Int) (c0_0 : Int) (c0_1 : Int) (c0_2 : List UInt8) (c0_3 : List (List AV)) : Option (AV) := Wu53_0  (((fx 21 [(1, AV.ptr (0 : Nat) (0 : Nat) (0 : Nat)), (3, AV.int IntKind.i64 v3)]) : List AV), ([ABlk.rows false (4 : Nat) [[AV.int IntKind.i64 c0_0, AV.int IntKind.i64 c0_1, AV.str c0_2, AV.sl c0_3]]] : AH))
noncomputable abbrev wu54_0 (v3 : Int) (v4 : Int) (c0_0 : Int) (c0_1 : Int) (c0_2 : List UInt8) (c0_3 : List (List AV)) : Option (AV) := Wu54_0  (((fx 42 [(1, AV.ptr (0 : Nat) (0 : Nat) (0 : Nat)), (3, AV.int IntKind.i64 v3), (4, AV.int IntKind.i64 v4)]) : List AV), ([ABlk.rows false (4 : Nat) [[AV.int IntKind.i64 c0_0, AV.int IntKind.i64 c0_1, AV.str c0_2, AV.sl c0_3]]] : AH))
theorem r17Check_run (kt : Int) (nt : Int) (st : List UInt8) (lt : List (List AV)) (V : List (List AV)) {P : AV → Prop} (h : Gets (kOpt (EVs (EV cfg) 45 [.agg [.int .i64 kt, .int .i64 nt, .str st, .sl lt]]) fun (v : AV) => kInt .i64 v fun (n : Int) => bif n != (0 : Int) then some (.int .i64 (2 : Int)) else kOpt 
  (EVs (EV cfg) 99 [.agg [.int .i64 kt, .int .i64 nt, .str st, .sl lt], .sl V]) fun (v : AV) => kBool v fun (b : Bool) => bif !b then some (.int .i64 (10 : Int)) else some (.int .i64 
  (0 : Int))) P) : Gets (EVs (EV cfg) 79 ([AV.agg [AV.int IntKind.i64 kt, AV.int IntKind.i64 nt, AV.str st, AV.sl lt], AV.sl V] : List AV)) P :=
  Gets.ev (fun _ h => funS rfl rfl Tryz.func79 rfl h) (Gets.eq (by kernel_rfl) h)
theorem r17Is_run (kt : Int) (nt : Int) (st : List UInt8) (lt : List (List AV)) (V : List (List AV)) {P : AV → Prop} (h : Gets (kOpt (EVs (EV cfg) 93 [.agg [.int .i64 kt, .int .i64 nt, .str st, .sl lt]]) fun (v : AV) => kTup v fun (cs : List AV) => kCons cs fun (c : AV) (cs : List AV) => kInt .i64 c fun (n : 
  Int) => kCons cs fun (c : AV) (cs : List AV) => kBool c fun (b : Bool) => kNil cs (bif b then kOpt (EVs (EV cfg) 130 [.sl V, .int .i64 n]) fun (v : AV) => kBool v fun (b : Bool) => some 
  (.bool b) else bif kt == (9 : Int) then kOpt (EVs (EV cfg) 131 [.sl lt, .sl V]) fun (v : AV) => kBool v fun (b : Bool) => some (.bool b) else bif kt != (7 : Int) then some (.bool true) 
  else bif (↑(List.length lt) : Int) == (0 : Int) then some (.bool false) else bif ltInt (0 : Int) (↑(List.length lt) : Int) then kOpt (List.get?Internal lt 0) fun (row : List AV) => 
  bif Nat.beq (List.length row) 4 then bif Nat.ble 4 (List.length row) then kTmC (List.take 4 row) fun (n n_1 : Int) (s : List UInt8) (rows : List (List AV)) => (bif (↑(List.length lt) 
  : Int) == (1 : Int) then bif n == (7 : Int) then kOpt (EVs (EV cfg) 131 [.sl rows, .sl V]) fun (v : AV) => kBool v fun (b : Bool) => some (.bool b) else bif n != (2 : Int) then some 
  (.bool false) else bif s == [(99 : UInt8), (111 : UInt8), (110 : UInt8), (115 : UInt8), (116 : UInt8)] then some (.bool ((↑(List.length lt) : Int) == (2 : Int))) else kOpt (EVs (EV 
  cfg) 132 [.str s, .int .i64 (IntKind.wrap .i64 ((↑(List.length lt) : Int) - (1 : Int)))]) fun (v : AV) => kBool v fun (b : Bool) => bif b then bif leInt (1 : Int) (↑(List.length lt) 
  : Int) then bif rowsOk 4 lt then kOpt (EVs (EV cfg) 131 [.sl (List.take (List.length lt - 1) (List.drop 1 lt)), .sl V]) fun (v : AV) => kBool v fun (b : Bool) => some (.bool b) else 
  none else none else some (.bool false) else bif n != (2 : Int) then some (.bool false) else bif s == [(99 : UInt8), (111 : UInt8), (110 : UInt8), (115 : UInt8), (116 : UInt8)] then 
  some (.bool ((↑(List.length lt) : Int) == (2 : Int))) else kOpt (EVs (EV cfg) 132 [.str s, .int .i64 (IntKind.wrap .i64 ((↑(List.length lt) : Int) - (1 : Int)))]) fun (v : AV) => kBool 
  v fun (b : Bool) => bif b then bif leInt (1 : Int) (↑(List.length lt) : Int) then bif rowsOk 4 lt then kOpt (EVs (EV cfg) 131 [.sl (List.take (List.length lt - 1) (List.drop 1 lt)), 
  .sl V]) fun (v : AV) => kBool v fun (b : Bool) => some (.bool b) else none else none else some (.bool false)) else none else none else none)) P) : Gets (EVs (EV cfg) 99 ([AV.agg [AV.int IntKind.i64 kt, AV.int IntKind.i64 nt, AV.str st, AV.sl lt], AV.sl V] : List AV)) P :=
  Gets.ev (fun _ h => funS rfl rfl Tryz.func99 rfl h) (Gets.eq (by kernel_rfl) h)
theorem r17All_run (L : List (List AV)) (V : List (List AV)) {P : AV → Prop} (h : Gets (wu57_0 L V (0 : Int)) P) : Gets (EVs (EV cfg) 131 ([AV.sl L, AV.sl V] : List AV)) P :=
  Gets.ev (fun _ h => funS rfl rfl Tryz.func131 rfl h) (Gets.eq (by kernel_rfl) h)
theorem r17May_run (op : List UInt8) (n : Int) {P : AV → Prop} (h : Gets (kOpt (EVf (EV cfg) 144 [.str op]) fun (v : AV) => kSl v fun (rows : List (List AV)) => wu58_0 n rows (0 : Int)) P) : Gets (EVs (EV cfg) 132 ([AV.str op, AV.int IntKind.i64 n] : List AV)) P :=
  Gets.ev (fun _ h => funS rfl rfl Tryz.func132 rfl h) (Gets.eq (by kernel_rfl) h)
theorem r17In_run (L : List (List AV)) (n : Int) {P : AV → Prop} (h : Gets (wu56_0 L n (0 : Int)) P) : Gets (EVs (EV cfg) 130 ([AV.sl L, AV.int IntKind.i64 n] : List AV)) P :=
  Gets.ev (fun _ h => funS rfl rfl Tryz.func130 rfl h) (Gets.eq (by kernel_rfl) h)
theorem r17Ops_run (op : List UInt8) {P : AV → Prop} (h : Gets (bif op == [(115 : UInt8), (101 : UInt8), (108 : UInt8), (102 : UInt8)] then some (.sl [[.int .i64 (0 : Int)]]) else bif op == [(105 : UInt8), (115 : UInt8), (95 : UInt8), (97 : UInt8), 
  (116 : UInt8), (111 : UInt8), (109 : UInt8)] then some (.sl [[.int .i64 (1 : Int)]]) else bif op == [(105 : UInt8), (115 : UInt8), (95 : UInt8), (105 : UInt8), (110 : UInt8), (116 : 
  UInt8), (101 : UInt8), (103 : UInt8), (101 : UInt8), (114 : UInt8)] then some (.sl [[.int .i64 (1 : Int)]]) else bif op == [(105 : UInt8), (115 : UInt8), (95 : UInt8), (108 : UInt8), 
  (105 : UInt8), (115 : UInt8), (116 : UInt8)] then some (.sl [[.int .i64 (1 : Int)]]) else bif op == [(105 : UInt8), (115 : UInt8), (95 : UInt8), (116 : UInt8), (117 : UInt8), (112 : 
  UInt8), (108 : UInt8), (101 : UInt8)] then some (.sl [[.int .i64 (1 : Int)]]) else bif op == [(105 : UInt8), (115 : UInt8), (95 : UInt8), (112 : UInt8), (105 : UInt8), (100 : UInt8)] 
  then some (.sl [[.int .i64 (1 : Int)]]) else bif op == [(105 : UInt8), (115 : UInt8), (95 : UInt8), (102 : UInt8), (117 : UInt8), (110 : UInt8), (99 : UInt8), (116 : UInt8), (105 : 
  UInt8), (111 : UInt8), (110 : UInt8)] then some (.sl [[.int .i64 (1 : Int)]]) else bif op == [(105 : UInt8), (115 : UInt8), (95 : UInt8), (114 : UInt8), (101 : UInt8), (102 : UInt8), 
  (101 : UInt8), (114 : UInt8), (101 : UInt8), (110 : UInt8), (99 : UInt8), (101 : UInt8)] then some (.sl [[.int .i64 (1 : Int)]]) else bif op == [(110 : UInt8), (111 : UInt8), (116 : 
  UInt8)] then some (.sl [[.int .i64 (1 : Int)]]) else bif op == [(98 : UInt8), (110 : UInt8), (111 : UInt8), (116 : UInt8)] then some (.sl [[.int .i64 (1 : Int)]]) else bif op == [(97 
  : UInt8), (98 : UInt8), (115 : UInt8)] then some (.sl [[.int .i64 (1 : Int)]]) else bif op == [(116 : UInt8), (117 : UInt8), (112 : UInt8), (108 : UInt8), (101 : UInt8), (95 : UInt8), 
  (115 : UInt8), (105 : UInt8), (122 : UInt8), (101 : UInt8)] then some (.sl [[.int .i64 (1 : Int)]]) else bif op == [(115 : UInt8), (105 : UInt8), (122 : UInt8), (101 : UInt8)] then 
  some (.sl [[.int .i64 (1 : Int)]]) else bif op == [(104 : UInt8), (100 : UInt8)] then some (.sl [[.int .i64 (1 : Int)]]) else bif op == [(116 : UInt8), (108 : UInt8)] then some (.sl 
  [[.int .i64 (1 : Int)]]) else bif op == [(108 : UInt8), (101 : UInt8), (110 : UInt8), (103 : UInt8), (116 : UInt8), (104 : UInt8)] then some (.sl [[.int .i64 (1 : Int)]]) else bif op 
  == [(43 : UInt8)] then some (.sl [[.int .i64 (1 : Int)], [.int .i64 (2 : Int)]]) else bif op == [(45 : UInt8)] then some (.sl [[.int .i64 (1 : Int)], [.int .i64 (2 : Int)]]) else bif 
  op == [(61 : UInt8), (61 : UInt8)] then some (.sl [[.int .i64 (2 : Int)]]) else bif op == [(61 : UInt8), (58 : UInt8), (61 : UInt8)] then some (.sl [[.int .i64 (2 : Int)]]) else bif 
  op == [(47 : UInt8), (61 : UInt8)] then some (.sl [[.int .i64 (2 : Int)]]) else bif op == [(61 : UInt8), (47 : UInt8), (61 : UInt8)] then some (.sl [[.int .i64 (2 : Int)]]) else bif 
  op == [(60 : UInt8)] then some (.sl [[.int .i64 (2 : Int)]]) else bif op == [(61 : UInt8), (60 : UInt8)] then some (.sl [[.int .i64 (2 : Int)]]) else bif op == [(62 : UInt8)] then some 
  (.sl [[.int .i64 (2 : Int)]]) else bif op == [(62 : UInt8), (61 : UInt8)] then some (.sl [[.int .i64 (2 : Int)]]) else bif op == [(97 : UInt8), (110 : UInt8), (100 : UInt8)] then some 
  (.sl [[.int .i64 (2 : Int)]]) else bif op == [(111 : UInt8), (114 : UInt8)] then some (.sl [[.int .i64 (2 : Int)]]) else bif op == [(120 : UInt8), (111 : UInt8), (114 : UInt8)] then 
  some (.sl [[.int .i64 (2 : Int)]]) else bif op == [(97 : UInt8), (110 : UInt8), (100 : UInt8), (97 : UInt8), (108 : UInt8), (115 : UInt8), (111 : UInt8)] then some (.sl [[.int .i64 
  (2 : Int)]]) else bif op == [(111 : UInt8), (114 : UInt8), (101 : UInt8), (108 : UInt8), (115 : UInt8), (101 : UInt8)] then some (.sl [[.int .i64 (2 : Int)]]) else bif op == [(42 : 
  UInt8)] then some (.sl [[.int .i64 (2 : Int)]]) else bif op == [(100 : UInt8), (105 : UInt8), (118 : UInt8)] then some (.sl [[.int .i64 (2 : Int)]]) else bif op == [(114 : UInt8), (101 
  : UInt8), (109 : UInt8)] then some (.sl [[.int .i64 (2 : Int)]]) else bif op == [(98 : UInt8), (97 : UInt8), (110 : UInt8), (100 : UInt8)] then some (.sl [[.int .i64 (2 : Int)]]) else 
  bif op == [(98 : UInt8), (111 : UInt8), (114 : UInt8)] then some (.sl [[.int .i64 (2 : Int)]]) else bif op == [(98 : UInt8), (120 : UInt8), (111 : UInt8), (114 : UInt8)] then some (.sl 
  [[.int .i64 (2 : Int)]]) else bif op == [(101 : UInt8), (108 : UInt8), (101 : UInt8), (109 : UInt8), (101 : UInt8), (110 : UInt8), (116 : UInt8)] then some (.sl [[.int .i64 (2 : Int)]]) 
  else some (.sl [])) P) : Gets (EVf (EV cfg) 144 ([AV.str op] : List AV)) P :=
  Gets.ev (fun _ h => funF rfl rfl Tryz.func144 rfl h) (Gets.eq (by kernel_rfl) h)
theorem r16Var_run (kt : Int) (nt : Int) (st : List UInt8) (lt : List (List AV)) {P : AV → Prop} (h : Gets (kOpt (EVs (EV cfg) 45 [.agg [.int .i64 kt, .int .i64 nt, .str st, .sl lt]]) fun (v : AV) => kInt .i64 v fun (n : Int) => bif n != (0 : Int) then some (AV.tup [.int .i64 (0 : Int), .bool 
  false]) else bif kt != (2 : Int) then some (AV.tup [.int .i64 (0 : Int), .bool false]) else bif decide ((↑(List.length st) : Int) < (2 : Int)) then some (AV.tup [.int .i64 (0 : Int), 
  .bool false]) else bif decide ((↑(List.length st) : Int) > (3 : Int)) then some (AV.tup [.int .i64 (0 : Int), .bool false]) else kOpt (List.get?Internal st 0) fun (b : UInt8) => bif 
  (↑(UInt8.toNat b) : Int) != (36 : Int) then some (AV.tup [.int .i64 (0 : Int), .bool false]) else bif (↑(List.length st) : Int) == (3 : Int) then kOpt (List.get?Internal st 1) fun (b 
  : UInt8) => bif (↑(UInt8.toNat b) : Int) == (48 : Int) then some (AV.tup [.int .i64 (0 : Int), .bool false]) else wu55_0 (0 : Int) (1 : Int) kt nt st lt else wu55_0 (0 : Int) (1 : Int) 
  kt nt st lt) P) : Gets (EVs (EV cfg) 93 ([AV.agg [AV.int IntKind.i64 kt, AV.int IntKind.i64 nt, AV.str st, AV.sl lt]] : List AV)) P :=
  Gets.ev (fun _ h => funS rfl rfl Tryz.func93 rfl h) (Gets.eq (by kernel_rfl) h)
theorem r02Check_run (kt : Int) (nt : Int) (st : List UInt8) (lt : List (List AV)) {P : AV → Prop} (h : Gets (kOpt (EVs (EV cfg) 64 [.agg [.int .i64 kt, .int .i64 nt, .str st, .sl lt]]) fun (v : AV) => kBool v fun (b : Bool) => bif !b then some (.int .i64 (2 : Int)) else kOpt (EVs (EV cfg) 
  65 [.agg [.int .i64 kt, .int .i64 nt, .str st, .sl lt]]) fun (v : AV) => kInt .i64 v fun (n : Int) => bif decide (n > (65536 : Int)) then some (.int .i64 (3 : Int)) else some (.int 
  .i64 (0 : Int))) P) : Gets (EVs (EV cfg) 45 ([AV.agg [AV.int IntKind.i64 kt, AV.int IntKind.i64 nt, AV.str st, AV.sl lt]] : List AV)) P :=
  Gets.ev (fun _ h => funS rfl rfl Tryz.func45 rfl h) (Gets.eq (by kernel_rfl) h)
theorem r02Own_run (kt : Int) (nt : Int) (st : List UInt8) (lt : List (List AV)) {P : AV → Prop} (h : Gets (bif kt == (1 : Int) then bif decide (nt ≥ (-576460752303423488 : Int)) then bif decide (nt ≤ (576460752303423487 : Int)) then bif st == [] then some (.bool ((↑(List.length lt) : Int) 
  == (0 : Int))) else some (.bool false) else some (.bool false) else some (.bool false) else bif kt == (2 : Int) then bif nt == (0 : Int) then bif decide ((↑(List.length st) : Int) ≤ 
  (64 : Int)) then some (.bool ((↑(List.length lt) : Int) == (0 : Int))) else some (.bool false) else some (.bool false) else bif kt == (3 : Int) then kOpt (EVs (EV cfg) 114 [.int .i64 
  nt]) fun (v : AV) => kBool v fun (b : Bool) => bif b then bif st == [] then some (.bool ((↑(List.length lt) : Int) == (0 : Int))) else some (.bool false) else some (.bool false) else 
  bif kt == (4 : Int) then kOpt (EVs (EV cfg) 114 [.int .i64 nt]) fun (v : AV) => kBool v fun (b : Bool) => bif b then bif st == [] then some (.bool ((↑(List.length lt) : Int) == (0 : 
  Int))) else some (.bool false) else some (.bool false) else bif kt == (6 : Int) then kOpt (EVs (EV cfg) 114 [.int .i64 nt]) fun (v : AV) => kBool v fun (b : Bool) => bif b then bif st 
  == [] then some (.bool ((↑(List.length lt) : Int) == (0 : Int))) else some (.bool false) else some (.bool false) else bif kt == (5 : Int) then kOpt (EVs (EV cfg) 114 [.int .i64 nt]) 
  fun (v : AV) => kBool v fun (b : Bool) => bif b then bif st == [] then some (.bool (decide ((↑(List.length lt) : Int) ≤ (64 : Int)))) else some (.bool false) else some (.bool false) 
  else bif kt == (7 : Int) then bif nt == (0 : Int) then bif st == [] then some (.bool (decide ((↑(List.length lt) : Int) ≤ (64 : Int)))) else some (.bool false) else some (.bool false) 
  else bif kt == (8 : Int) then bif nt == (0 : Int) then bif st == [] then some (.bool ((↑(List.length lt) : Int) == (0 : Int))) else some (.bool false) else some (.bool false) else bif 
  kt == (9 : Int) then bif nt == (0 : Int) then bif st == [] then some (.bool ((↑(List.length lt) : Int) == (2 : Int))) else some (.bool false) else some (.bool false) else some (.bool 
  false)) P) : Gets (EVs (EV cfg) 87 ([AV.agg [AV.int IntKind.i64 kt, AV.int IntKind.i64 nt, AV.str st, AV.sl lt]] : List AV)) P :=
  Gets.ev (fun _ h => funS rfl rfl Tryz.func87 rfl h) (Gets.eq (by kernel_rfl) h)
theorem r02Parts_run (kt : Int) (nt : Int) (st : List UInt8) (lt : List (List AV)) {P : AV → Prop} (h : Gets (kOpt (EVs (EV cfg) 87 [.agg [.int .i64 kt, .int .i64 nt, .str st, .sl lt]]) fun (v : AV) => kBool v fun (b : Bool) => bif !b then some (.bool false) else wu53_0 (0 : Int) kt nt st lt) P) : Gets (EVs (EV cfg) 64 ([AV.agg [AV.int IntKind.i64 kt, AV.int IntKind.i64 nt, AV.str st, AV.sl lt]] : List AV)) P :=
  Gets.ev (fun _ h => funS rfl rfl Tryz.func64 rfl h) (Gets.eq (by kernel_rfl) h)
theorem r02Words_run (kt : Int) (nt : Int) (st : List UInt8) (lt : List (List AV)) {P : AV → Prop} (h : Gets (bif kt == (5 : Int) then bif kt == (5 : Int) then wu54_0 (2 : Int) (0 : Int) kt nt st lt else bif kt == (7 : Int) then wu54_0 (2 : Int) (0 : Int) kt nt st lt else bif kt == (9 : Int) 
  then wu54_0 (2 : Int) (0 : Int) kt nt st lt else some (.int .i64 (2 : Int)) else bif kt == (7 : Int) then bif kt == (5 : Int) then wu54_0 (2 : Int) (0 : Int) kt nt st lt else bif kt 
  == (7 : Int) then wu54_0 (2 : Int) (0 : Int) kt nt st lt else bif kt == (9 : Int) then wu54_0 (2 : Int) (0 : Int) kt nt st lt else some (.int .i64 (2 : Int)) else bif kt == (5 : Int) 
  then wu54_0 (1 : Int) (0 : Int) kt nt st lt else bif kt == (7 : Int) then wu54_0 (1 : Int) (0 : Int) kt nt st lt else bif kt == (9 : Int) then wu54_0 (1 : Int) (0 : Int) kt nt st lt 
  else some (.int .i64 (1 : Int))) P) : Gets (EVs (EV cfg) 65 ([AV.agg [AV.int IntKind.i64 kt, AV.int IntKind.i64 nt, AV.str st, AV.sl lt]] : List AV)) P :=
  Gets.ev (fun _ h => funS rfl rfl Tryz.func65 rfl h) (Gets.eq (by kernel_rfl) h)
theorem wu57_0_step (L : List (List AV)) (V : List (List AV)) (v5 : Int) {P : AV → Prop} (h : Gets (bif decide (v5 < (↑(List.length L) : Int)) then bif leInt (0 : Int) v5 && ltInt v5 (↑(List.length L) : Int) then kOpt (List.get?Internal L (Int.toNat v5)) fun (row : List AV) => bif 
  Nat.beq (List.length row) 4 then bif Nat.ble 4 (List.length row) then kTmC (List.take 4 row) fun (n n_1 : Int) (s : List UInt8) (rows : List (List AV)) => (kOpt (EVs (EV cfg) 99 [.agg 
  [.int .i64 n, .int .i64 n_1, .str s, .sl rows], .sl V]) fun (v : AV) => kBool v fun (b : Bool) => bif !b then some (.bool false) else wu57_0 L V (IntKind.wrap .i64 (v5 + (1 : Int)))) 
  else none else none else none else some (.bool true)) P) : Gets (wu57_0 L V v5) P :=
  Gets.ev (fun _ h => loop_step (cfg := cfg) (f := 131) (rd := none) (bs := 0) h) (Gets.eq (by kernel_rfl) h)
theorem wu58_0_step (n : Int) (rows : List (List AV)) (v6 : Int) {P : AV → Prop} (h : Gets (bif decide (v6 < (↑(List.length rows) : Int)) then bif leInt (0 : Int) v6 && ltInt v6 (↑(List.length rows) : Int) then kOpt (List.get?Internal rows (Int.toNat v6)) fun (row : List AV) 
  => bif Nat.beq (List.length row) 1 then kOpt (List.get?Internal row 0) fun (v : AV) => kInt .i64 v fun (n_1 : Int) => bif n_1 == n then some (.bool true) else wu58_0 n rows (IntKind.wrap 
  .i64 (v6 + (1 : Int))) else none else none else some (.bool false)) P) : Gets (wu58_0 n rows v6) P :=
  Gets.ev (fun _ h => loop_step (cfg := cfg) (f := 132) (rd := none) (bs := 0) h) (Gets.eq (by kernel_rfl) h)
theorem wu56_0_step (L : List (List AV)) (n : Int) (v5 : Int) {P : AV → Prop} (h : Gets (bif decide (v5 < (↑(List.length L) : Int)) then bif leInt (0 : Int) v5 && ltInt v5 (↑(List.length L) : Int) then kOpt (List.get?Internal L (Int.toNat v5)) fun (row : List AV) => bif 
  Nat.beq (List.length row) 1 then kOpt (List.get?Internal row 0) fun (v : AV) => kInt .i64 v fun (n_1 : Int) => bif n_1 == n then some (.bool true) else wu56_0 L n (IntKind.wrap .i64 
  (v5 + (1 : Int))) else none else none else some (.bool false)) P) : Gets (wu56_0 L n v5) P :=
  Gets.ev (fun _ h => loop_step (cfg := cfg) (f := 130) (rd := none) (bs := 0) h) (Gets.eq (by kernel_rfl) h)
theorem wu55_0_step (v4 : Int) (v5 : Int) (c0_0 : Int) (c0_1 : Int) (c0_2 : List UInt8) (c0_3 : List (List AV)) {P : AV → Prop} (h : Gets (bif decide (v5 < (↑(List.length c0_2) : Int)) then bif leInt (0 : Int) v5 then kOpt (List.get?Internal c0_2 (Int.toNat v5)) fun (b : UInt8) => bif decide ((↑(UInt8.toNat b) : Int) < 
  (48 : Int)) then some (AV.tup [.int .i64 (0 : Int), .bool false]) else bif leInt (0 : Int) v5 then kOpt (List.get?Internal c0_2 (Int.toNat v5)) fun (b : UInt8) => bif decide ((↑(UInt8.toNat 
  b) : Int) > (57 : Int)) then some (AV.tup [.int .i64 (0 : Int), .bool false]) else bif leInt (0 : Int) v5 then kOpt (List.get?Internal c0_2 (Int.toNat v5)) fun (b : UInt8) => wu55_0 
  (IntKind.wrap .i64 (IntKind.wrap .i64 ((10 : Int) * v4) + IntKind.wrap .i64 (IntKind.wrap .u8 ((↑(UInt8.toNat b) : Int) - (48 : Int))))) (IntKind.wrap .i64 (v5 + (1 : Int))) c0_0 c0_1 
  c0_2 c0_3 else none else none else none else some (AV.tup [.int .i64 v4, .bool true])) P) : Gets (wu55_0 v4 v5 c0_0 c0_1 c0_2 c0_3) P :=
  Gets.ev (fun _ h => loop_step (cfg := cfg) (f := 93) (rd := none) (bs := 0) h) (Gets.eq (by kernel_rfl) h)
theorem wu53_0_step (v3 : Int) (c0_0 : Int) (c0_1 : Int) (c0_2 : List UInt8) (c0_3 : List (List AV)) {P : AV → Prop} (h : Gets (bif decide (v3 < (↑(List.length c0_3) : Int)) then bif leInt (0 : Int) v3 && ltInt v3 (↑(List.length c0_3) : Int) then kOpt (List.get?Internal c0_3 (Int.toNat v3)) fun (row : List AV) 
  => bif Nat.beq (List.length row) 4 then bif Nat.ble 4 (List.length row) then kTmC (List.take 4 row) fun (n n_1 : Int) (s : List UInt8) (rows : List (List AV)) => (kOpt (EVs (EV cfg) 
  64 [.agg [.int .i64 n, .int .i64 n_1, .str s, .sl rows]]) fun (v : AV) => kBool v fun (b : Bool) => bif !b then some (.bool false) else wu53_0 (IntKind.wrap .i64 (v3 + (1 : Int))) c0_0 
  c0_1 c0_2 c0_3) else none else none else none else some (.bool true)) P) : Gets (wu53_0 v3 c0_0 c0_1 c0_2 c0_3) P :=
  Gets.ev (fun _ h => loop_step (cfg := cfg) (f := 64) (rd := none) (bs := 0) h) (Gets.eq (by kernel_rfl) h)
theorem wu54_0_step (v3 : Int) (v4 : Int) (c0_0 : Int) (c0_1 : Int) (c0_2 : List UInt8) (c0_3 : List (List AV)) {P : AV → Prop} (h : Gets (bif decide (v4 < (↑(List.length c0_3) : Int)) then bif leInt (0 : Int) v4 && ltInt v4 (↑(List.length c0_3) : Int) then kOpt (List.get?Internal c0_3 (Int.toNat v4)) fun (row : List AV) 
  => bif Nat.beq (List.length row) 4 then bif Nat.ble 4 (List.length row) then kTmC (List.take 4 row) fun (n n_1 : Int) (s : List UInt8) (rows : List (List AV)) => (kOpt (EVs (EV cfg) 
  65 [.agg [.int .i64 n, .int .i64 n_1, .str s, .sl rows]]) fun (v : AV) => kInt .i64 v fun (n : Int) => wu54_0 (IntKind.wrap .i64 (v3 + n)) (IntKind.wrap .i64 (v4 + (1 : Int))) c0_0 
  c0_1 c0_2 c0_3) else none else none else none else some (.int .i64 v3)) P) : Gets (wu54_0 v3 v4 c0_0 c0_1 c0_2 c0_3) P :=
  Gets.ev (fun _ h => loop_step (cfg := cfg) (f := 65) (rd := none) (bs := 0) h) (Gets.eq (by kernel_rfl) h)
end Go.Proofs.YtonmmmgffeoiiaaGreat
end

section
namespace Go.Proofs.YtonmmmgffeoiiaaGreat
open Go.Av
set_option maxRecDepth 100000
set_option maxHeartbeats 0

theorem r02Numbered_run (n : Int) {P : AV → Prop} (h : Gets (bif decide (n ≥ (0 : Int)) then some (.bool (decide (n ≤ (1073741824 : Int)))) else some (.bool false)) P) : Gets (EVs (EV cfg) 114 ([AV.int IntKind.i64 n] : List AV)) P :=
  Gets.ev (fun _ h => funS rfl rfl Tryz.func114 rfl h) (Gets.eq (by kernel_rfl) h)
end Go.Proofs.YtonmmmgffeoiiaaGreat
end

section
namespace Go.Proofs.YtonmmmgffeoiiaaGreat
open Go.Av
theorem r02Numbered_ev (n : Int) : EVs (EV cfg) 114 [.int .i64 n] = some (.bool (decide (0 ≤ n) && decide (n ≤ 1073741824))) := by
  apply Gets.get
  refine r02Numbered_run _ ?_
  by_cases h : 0 ≤ n <;> simp [h]
theorem r02Own_ev (t : Tm) : EVs (EV cfg) 87 [t.av] = some (.bool t.sound) := by
  obtain ⟨k, n, s, l⟩ := t
  apply Gets.get
  rw [Tm.av_mk]
  refine r02Own_run _ _ _ _ ?_
  simp only [Tm.sound, Tm.kind_mk, Tm.num_mk, Tm.str_mk, Tm.subs_mk, rowsT_length, beqI, beqNil, soundB, r02Numbered_ev, kOptSome, kBool_bool]
  by_cases h1 : k = 1
  · subst h1; simp [bif_some'] <;> (try rw [Bool.eq_iff_iff]) <;> (try simp) <;> first | omega | grind
  by_cases h2 : k = 2
  · subst h2; simp [bif_some'] <;> (try rw [Bool.eq_iff_iff]) <;> (try simp) <;> first | omega | grind
  by_cases h3 : k = 3
  · subst h3; simp [bif_some'] <;> (try rw [Bool.eq_iff_iff]) <;> (try simp) <;> first | omega | grind
  by_cases h4 : k = 4
  · subst h4; simp [bif_some'] <;> (try rw [Bool.eq_iff_iff]) <;> (try simp) <;> first | omega | grind
  by_cases h6 : k = 6
  · subst h6; simp [bif_some'] <;> (try rw [Bool.eq_iff_iff]) <;> (try simp) <;> first | omega | grind
  by_cases h5 : k = 5
  · subst h5; simp [bif_some'] <;> (try rw [Bool.eq_iff_iff]) <;> (try simp) <;> first | omega | grind
  by_cases h7 : k = 7
  · subst h7; simp [bif_some'] <;> (try rw [Bool.eq_iff_iff]) <;> (try simp) <;> first | omega | grind
  by_cases h8 : k = 8
  · subst h8; simp [bif_some'] <;> (try rw [Bool.eq_iff_iff]) <;> (try simp) <;> first | omega | grind
  by_cases h9 : k = 9
  · subst h9; simp [bif_some'] <;> (try rw [Bool.eq_iff_iff]) <;> (try simp) <;> first | omega | grind
  simp [h1, h2, h3, h4, h5, h6, h7, h8, h9]
theorem r02Parts_ev (t : Tm) : t.w < 1099511627776 → EVs (EV cfg) 64 [t.av] = some (.bool t.parts) := by
  induction t using Tm.ind with
  | _ k n s l ih =>
    intro hw
    rw [Tm.w_mk] at hw
    have hlen := wL_len l
    have loop : ∀ d i : Nat, i + d = l.length → Gets (wu53_0 i k n s (rowsT l)) (· = .bool (partsL (l.drop i))) := by
      intro d
      induction d with
      | zero =>
        intro i hi
        refine wu53_0_step _ _ _ _ _ ?_
        rw [rowsT_length, decide_eq_false (by omega), List.drop_eq_nil_of_le (by omega)]
        exact ⟨_, rfl, rfl⟩
      | succ d ihd =>
        intro i hi
        have hil : i < l.length := by omega
        refine wu53_0_step _ _ _ _ _ ?_
        have hx : l[i]? = some l[i] := List.getElem?_eq_getElem hil
        have hm := List.mem_of_getElem? hx
        have hd : l.drop i = l[i] :: l.drop (i + 1) := List.drop_eq_getElem_cons hil
        have h1 := ih l[i] hm (by have := wL_mem hm; omega)
        have h2 := ihd (i + 1) (by omega)
        rw [rowsT_length, decide_eq_true (show (i : Int) < (l.length : Int) by omega), leInt_zero, ltInt_nat, decide_eq_true hil, rowsT_at hx, wrap_succ hil (by omega), hd, partsL]
        simp only [cond_true, Bool.and_self, length_cells, Nat.beq_refl, take_cells, kTmC_cells, show Nat.ble 4 4 = true from rfl, av_unf, h1, kOptSome, kBool_bool]
        cases hg : l[i].parts with
        | false => exact ⟨_, rfl, rfl⟩
        | true => rw [Bool.true_and]; exact h2
    have ho := r02Own_ev (.mk k n s l)
    have h0 := loop l.length 0 (by omega)
    apply Gets.get
    rw [Tm.parts_eq]
    rw [Tm.av_mk] at ho ⊢
    refine r02Parts_run _ _ _ _ ?_
    rw [ho]
    simp only [kOptSome, kBool_bool, Tm.subs_mk]
    cases (Tm.mk k n s l).sound with
    | false => exact ⟨_, rfl, rfl⟩
    | true => rw [Bool.true_and]; exact h0
end Go.Proofs.YtonmmmgffeoiiaaGreat
end

section
namespace Go.Proofs.YtonmmmgffeoiiaaGreat
open Go.Av
theorem partsL_mem {l : List Tm} (h : partsL l = true) : ∀ x ∈ l, x.parts = true := by
  induction l with
  | nil => intro x hx; cases hx
  | cons y l ih =>
    rw [partsL, Bool.and_eq_true] at h
    intro x hx
    cases hx with
    | head => exact h.1
    | tail _ hx => exact ih h.2 x hx
theorem r02Words_ev (t : Tm) : t.w < 1099511627776 → t.parts = true → EVs (EV cfg) 65 [t.av] = some (.int .i64 (t.words : Int)) := by
  induction t using Tm.ind with
  | _ k n s l ih =>
    intro hw hp
    have hww := words_le (.mk k n s l)
    rw [Tm.w_mk] at hw hww
    have hlen := wL_len l
    rw [Tm.parts, Bool.and_eq_true] at hp
    obtain ⟨hp, hpl⟩ := hp
    have loop : ∀ d i acc : Nat, i + d = l.length → acc + wordsL (l.drop i) < 9007199254740992 → Gets (wu54_0 acc i k n s (rowsT l)) (· = .int .i64 ((acc + wordsL (l.drop i) : Nat) : Int)) := by
      intro d
      induction d with
      | zero =>
        intro i acc hi _
        refine wu54_0_step _ _ _ _ _ _ ?_
        rw [rowsT_length, decide_eq_false (by omega), List.drop_eq_nil_of_le (by omega)]
        exact ⟨_, rfl, rfl⟩
      | succ d ihd =>
        intro i acc hi hacc
        have hil : i < l.length := by omega
        refine wu54_0_step _ _ _ _ _ _ ?_
        have hx : l[i]? = some l[i] := List.getElem?_eq_getElem hil
        have hm := List.mem_of_getElem? hx
        have hd : l.drop i = l[i] :: l.drop (i + 1) := List.drop_eq_getElem_cons hil
        have h1 := ih l[i] hm (by have := wL_mem hm; omega) (partsL_mem hpl _ hm)
        rw [hd, wordsL] at hacc
        have h2 := ihd (i + 1) (acc + (l[i]).words) (by omega) (by omega)
        have w1 : IntKind.wrap .i64 ((acc : Int) + ((l[i]).words : Int)) = ((acc + (l[i]).words : Nat) : Int) := by rw [wrap64 (by omega) (by omega)]; omega
        rw [rowsT_length, decide_eq_true (show (i : Int) < (l.length : Int) by omega), leInt_zero, ltInt_nat, decide_eq_true hil, rowsT_at hx, wrap_succ hil (by omega), hd, wordsL]
        simp only [cond_true, Bool.and_self, length_cells, Nat.beq_refl, take_cells, kTmC_cells, show Nat.ble 4 4 = true from rfl, av_unf, h1, kOptSome, kInt_int, w1]
        rw [← Nat.add_assoc]
        exact h2
    have hwo : (Tm.mk k n s l).words = (Tm.mk k n s l).own + wordsL l := by rw [Tm.words]
    rw [hwo] at hww ⊢
    have ho := (Tm.mk k n s l).own_le
    have h0 := loop l.length 0 (Tm.mk k n s l).own (by omega) (by rw [List.drop_zero]; omega)
    rw [List.drop_zero] at h0
    apply Gets.get
    rw [Tm.av_mk]
    refine r02Words_run _ _ _ _ ?_
    by_cases h5 : k = 5
    · subst h5
      have o2 : (Tm.mk 5 n s l).own = 2 := by simp [Tm.own]
      rw [o2] at h0 ⊢; exact h0
    by_cases h7 : k = 7
    · subst h7
      have o2 : (Tm.mk 7 n s l).own = 2 := by simp [Tm.own]
      rw [o2] at h0 ⊢; exact h0
    have o1 : (Tm.mk k n s l).own = 1 := by simp [Tm.own, h5, h7]
    rw [o1] at h0 ⊢
    by_cases h9 : k = 9
    · subst h9; exact h0
    have e5 : (k == 5) = false := by simpa using h5
    have e7 : (k == 7) = false := by simpa using h7
    have e9 : (k == 9) = false := by simpa using h9
    have hl : l = [] := by
      have : soundB k n s l.length = true → l.length = 0 := by
        unfold soundB
        rw [if_neg h5, if_neg h7, if_neg h9]
        intro h
        repeat' split at h
        all_goals simp at h
        all_goals simp [h]
      exact List.length_eq_zero_iff.1 (this hp)
    subst hl
    rw [e5, e7, e9]
    exact ⟨_, rfl, rfl⟩
theorem r02Check_ev {t : Tm} (h : t.w < 1099511627776) : EVs (EV cfg) 45 [t.av] = some (.int .i64 t.chk) := by
  have hp := r02Parts_ev t h
  have hw := r02Words_ev t h
  apply Gets.get
  rw [Tm.av, Tm.cells_eq] at hp hw ⊢
  refine r02Check_run _ _ _ _ ?_
  rw [hp]
  have hc : t.chk = if t.parts then (if 65536 < t.words then 3 else 0) else 2 := by
    unfold Tm.chk chkS
    simp [partsL, wordsL]
  rw [hc]
  simp only [kOptSome, kBool_bool]
  cases ht : t.parts with
  | false => exact ⟨_, rfl, rfl⟩
  | true =>
    rw [hw ht]
    simp only [kOptSome, kInt_int, Bool.not_true, cond_false, if_true]
    by_cases hg : 65536 < t.words
    · rw [decide_eq_true (show ((t.words : Int) > 65536) by omega), if_pos hg]; exact ⟨_, rfl, rfl⟩
    · rw [decide_eq_false (show ¬ ((t.words : Int) > 65536) by omega), if_neg hg]; exact ⟨_, rfl, rfl⟩
theorem r17In_ev (l : List Int) (hl : l.length < 1099511627776) (n : Int) : EVs (EV cfg) 130 [.sl (intsR l), .int .i64 n] = some (.bool (decide (n ∈ l))) := by
  have loop : ∀ d i : Nat, i + d = l.length → Gets (wu56_0 (intsR l) n i) (· = .bool (decide (n ∈ l.drop i))) := by
    intro d
    induction d with
    | zero =>
      intro i hi
      refine wu56_0_step _ _ _ ?_
      rw [intsR_len, decide_eq_false (by omega), List.drop_eq_nil_of_le (by omega)]
      exact ⟨_, rfl, by simp⟩
    | succ d ih =>
      intro i hi
      have hil : i < l.length := by omega
      refine wu56_0_step _ _ _ ?_
      have hx : l[i]? = some l[i] := List.getElem?_eq_getElem hil
      have hd : l.drop i = l[i] :: l.drop (i + 1) := List.drop_eq_getElem_cons hil
      have h := ih (i + 1) (by omega)
      rw [intsR_len, decide_eq_true (show (i : Int) < (l.length : Int) by omega), leInt_zero, ltInt_nat, decide_eq_true hil, get?Internal_eq, Int.toNat_natCast, intsR_get, hx, wrap_succ hil hl, hd]
      by_cases he : l[i] = n
      · refine ⟨.bool true, ?_, ?_⟩
        · simp [he]
        · rw [he]; simp
      · have hne : (l[i] == n) = false := by rw [beqI]; exact decide_eq_false he
        have hm : decide (n ∈ l[i] :: l.drop (i + 1)) = decide (n ∈ l.drop (i + 1)) := decide_eq_decide.2 (by rw [List.mem_cons]; exact ⟨fun h => h.resolve_left (fun e => he e.symm), Or.inr⟩)
        rw [hm]
        simpa [hne] using h
  apply Gets.get
  exact r17In_run _ _ (by simpa using loop l.length 0 (by omega))
theorem r17Ops_ev (op : List UInt8) : EVf (EV cfg) 144 [.str op] = some (.sl (intsR (opsG op))) := by
  apply Gets.get
  refine r17Ops_run _ ?_
  have h := lookS_map (fun l => some (AV.sl (intsR l))) op [] opsTab
  have : Gets (lookS op (some (AV.sl (intsR []))) (opsTab.map fun p => (p.1, some (AV.sl (intsR p.2))))) (· = .sl (intsR (opsG op))) := by
    rw [h]; exact ⟨_, rfl, rfl⟩
  exact this
end Go.Proofs.YtonmmmgffeoiiaaGreat
end

section
namespace Go.Proofs.YtonmmmgffeoiiaaGreat
open Go.Av
theorem r17May_ev (op : List UInt8) (n : Int) : EVs (EV cfg) 132 [.str op, .int .i64 n] = some (.bool (decide (n ∈ opsG op))) := by
  have hl := opsG_len op
  have loop : ∀ d i : Nat, i + d = (opsG op).length → Gets (wu58_0 n (intsR (opsG op)) i) (· = .bool (decide (n ∈ (opsG op).drop i))) := by
    generalize opsG op = l at hl
    intro d
    induction d with
    | zero =>
      intro i hi
      refine wu58_0_step _ _ _ ?_
      rw [intsR_len, decide_eq_false (by omega), List.drop_eq_nil_of_le (by omega)]
      exact ⟨_, rfl, by simp⟩
    | succ d ih =>
      intro i hi
      have hil : i < l.length := by omega
      refine wu58_0_step _ _ _ ?_
      have hx : l[i]? = some l[i] := List.getElem?_eq_getElem hil
      have hd : l.drop i = l[i] :: l.drop (i + 1) := List.drop_eq_getElem_cons hil
      have h := ih (i + 1) (by omega)
      rw [intsR_len, decide_eq_true (show (i : Int) < (l.length : Int) by omega), leInt_zero, ltInt_nat, decide_eq_true hil, get?Internal_eq, Int.toNat_natCast, intsR_get, hx, wrap_succ hil hl, hd]
      by_cases he : l[i] = n
      · refine ⟨.bool true, ?_, ?_⟩
        · simp [he]
        · rw [he]; simp
      · have hne : (l[i] == n) = false := by rw [beqI]; exact decide_eq_false he
        have hm : decide (n ∈ l[i] :: l.drop (i + 1)) = decide (n ∈ l.drop (i + 1)) := decide_eq_decide.2 (by rw [List.mem_cons]; exact ⟨fun h => h.resolve_left (fun e => he e.symm), Or.inr⟩)
        rw [hm]
        simpa [hne] using h
  apply Gets.get
  refine r17May_run _ _ ?_
  rw [r17Ops_ev]
  exact (by simpa using loop (opsG op).length 0 (by omega))
theorem var_step {k n : Int} {s : List UInt8} {l : List (List AV)} {b : UInt8} {v : Int} {i : Nat} {P : AV → Prop} (hv : 0 ≤ v ∧ v ≤ 9) (hl : s.length ≤ 3) (hb : s[i]? = some b)
    (h : Gets (match digitG b with | none => some (AV.tup [.int .i64 0, .bool false]) | some x => wu55_0 (v * 10 + x) ((i + 1 : Nat) : Int) k n s l) P) : Gets (wu55_0 v i k n s l) P := by
  have hi : i < s.length := (List.getElem?_eq_some_iff.1 hb).1
  refine wu55_0_step _ _ _ _ _ _ ?_
  have hbl := b.toNat_lt
  rw [decide_eq_true (show (i : Int) < (s.length : Int) by omega), leInt_zero]
  simp only [cond_true, get?Internal_eq, Int.toNat_natCast, hb, kOptSome]
  unfold digitG at h
  by_cases h1 : b.toNat < 48
  · rw [if_pos h1] at h
    rw [decide_eq_true (show (b.toNat : Int) < 48 by omega)]; exact h
  · rw [if_neg h1] at h
    rw [decide_eq_false (show ¬ (b.toNat : Int) < 48 by omega), cond_false]
    by_cases h2 : b.toNat > 57
    · rw [if_pos h2] at h
      rw [decide_eq_true (show (b.toNat : Int) > 57 by omega)]; exact h
    · rw [if_neg h2] at h
      rw [decide_eq_false (show ¬ (b.toNat : Int) > 57 by omega), cond_false]
      have w1 : IntKind.wrap .i64 (10 * v) = v * 10 := by rw [wrap64 (by omega) (by omega)]; omega
      have w2 : IntKind.wrap .u8 ((b.toNat : Int) - 48) = (b.toNat : Int) - 48 := by
        simp [IntKind.wrap, IntKind.bits, IntKind.signed]; omega
      have w3 : IntKind.wrap .i64 ((b.toNat : Int) - 48) = (b.toNat : Int) - 48 := wrap64 (by omega) (by omega)
      have w4 : IntKind.wrap .i64 (v * 10 + ((b.toNat : Int) - 48)) = v * 10 + ((b.toNat : Int) - 48) := wrap64 (by omega) (by omega)
      have w5 : IntKind.wrap .i64 ((i : Int) + 1) = ((i + 1 : Nat) : Int) := wrap_succ (n := 3) (by omega) (by omega)
      rw [w1, w2, w3, w4, w5]
      exact h
theorem var_end {k n : Int} {s : List UInt8} {l : List (List AV)} {v : Int} {i : Nat} (hi : i = s.length) : Gets (wu55_0 v i k n s l) (· = .tup [.int .i64 v, .bool true]) := by
  refine wu55_0_step _ _ _ _ _ _ ?_
  rw [decide_eq_false (by omega)]
  exact ⟨_, rfl, rfl⟩
theorem r16Var_ev {t : Tm} (h : t.w < 1099511627776) : EVs (EV cfg) 93 [t.av] = some (varR (varT t)) := by
  have hc := r02Check_ev h
  apply Gets.get
  rw [Tm.av, Tm.cells_eq] at hc ⊢
  refine r16Var_run _ _ _ _ ?_
  rw [hc]
  unfold varT
  simp only [kOptSome, kInt_int]
  by_cases h2 : t.chk = 0
  · have e0 : (t.chk != 0) = false := by rw [h2]; rfl
    rw [e0, cond_false]
    by_cases h1 : t.kind = 2
    · have e1 : (t.kind != 2) = false := by rw [h1]; rfl
      rw [e1, cond_false, if_pos ⟨h1, h2⟩]
      generalize t.str = s
      generalize t.kind = k
      generalize t.num = n
      generalize rowsT t.subs = l
      match s with
      | [] => exact ⟨_, rfl, rfl⟩
      | [a] => exact ⟨_, rfl, rfl⟩
      | a :: b :: c :: d :: l =>
        have h1 : ¬ ((a :: b :: c :: d :: l).length : Int) < 2 := by simp; omega
        have h2 : ((a :: b :: c :: d :: l).length : Int) > 3 := by simp; omega
        rw [decide_eq_false h1, decide_eq_true h2]
        exact ⟨_, rfl, rfl⟩
      | [a, b] =>
        by_cases h : a.toNat = 36
        · have e : (((a.toNat : Int)) != 36) = false := by rw [h]; rfl
          have hs := var_step (k := k) (n := n) (l := l) (s := [a, b]) (b := b) (v := 0) (i := 1) (P := (· = varR (varG [a, b]))) (by omega) (by simp) rfl (by
            rw [varG2, if_pos h]
            cases hd : digitG b with
            | none => exact ⟨_, rfl, rfl⟩
            | some x =>
              refine (var_end (s := [a, b]) rfl).mono ?_
              rintro _ rfl
              show _ = varR (some x)
              simp [varR])
          show Gets (bif (((a.toNat : Int)) != 36) then _ else _) _
          rw [e]
          exact hs
        · have e : (((a.toNat : Int)) != 36) = true := by simpa using fun h' => h (by omega)
          show Gets (bif (((a.toNat : Int)) != 36) then _ else _) _
          rw [e]
          refine ⟨_, rfl, ?_⟩
          rw [varG2, if_neg h]; rfl
      | [a, b, c] =>
        by_cases h : a.toNat = 36
        · have e : (((a.toNat : Int)) != 36) = false := by rw [h]; rfl
          show Gets (bif (((a.toNat : Int)) != 36) then _ else bif (((b.toNat : Int)) == 48) then _ else _) _
          rw [e]
          by_cases hb : b.toNat = 48
          · have e2 : (((b.toNat : Int)) == 48) = true := by rw [hb]; rfl
            rw [e2]
            refine ⟨_, rfl, ?_⟩
            rw [varG3, if_neg (fun h => h.2 hb)]; rfl
          · have e2 : (((b.toNat : Int)) == 48) = false := by simpa using fun h' => hb (by omega)
            rw [e2]
            show Gets (wu55_0 0 1 k n [a, b, c] l) _
            refine var_step (s := [a, b, c]) (b := b) (v := 0) (i := 1) (by omega) (by simp) rfl ?_
            rw [varG3, if_pos ⟨h, hb⟩]
            cases hd : digitG b with
            | none => exact ⟨_, rfl, rfl⟩
            | some x =>
              have hx := digitG_in hd
              refine var_step (s := [a, b, c]) (b := c) (i := 2) (by omega) (by simp) rfl ?_
              cases hd2 : digitG c with
              | none => exact ⟨_, rfl, by simp [varR, hd2]⟩
              | some y =>
                refine (var_end (s := [a, b, c]) rfl).mono ?_
                rintro _ rfl
                simp [varR, hd2]
        · have e : (((a.toNat : Int)) != 36) = true := by simpa using fun h' => h (by omega)
          show Gets (bif (((a.toNat : Int)) != 36) then _ else _) _
          rw [e]
          refine ⟨_, rfl, ?_⟩
          rw [varG3, if_neg (fun h' => h h'.1)]; rfl
    · have e1 : (t.kind != 2) = true := by simpa using h1
      rw [e1, if_neg (fun h => h1 h.1)]
      exact ⟨_, rfl, rfl⟩
  · have e0 : (t.chk != 0) = true := by simpa using h2
    rw [e0, if_neg (fun h => h2 h.2)]
    exact ⟨_, rfl, rfl⟩
end Go.Proofs.YtonmmmgffeoiiaaGreat
end

section
namespace Go.Proofs.YtonmmmgffeoiiaaGreat
open Go.Av
theorem r17All_of {V : List Int} {l : List Tm} (hlen : l.length < 1099511627776) (ih : ∀ x ∈ l, EVs (EV cfg) 99 [x.av, .sl (intsR V)] = some (.bool (isG V x))) :
    EVs (EV cfg) 131 [.sl (rowsT l), .sl (intsR V)] = some (.bool (allG V l)) := by
  have loop : ∀ d i : Nat, i + d = l.length → Gets (wu57_0 (rowsT l) (intsR V) i) (· = .bool (allG V (l.drop i))) := by
    intro d
    induction d with
    | zero =>
      intro i hi
      refine wu57_0_step _ _ _ ?_
      rw [rowsT_length, decide_eq_false (by omega), List.drop_eq_nil_of_le (by omega)]
      exact ⟨_, rfl, by rw [allG]⟩
    | succ d ihd =>
      intro i hi
      have hil : i < l.length := by omega
      refine wu57_0_step _ _ _ ?_
      have hx : l[i]? = some l[i] := List.getElem?_eq_getElem hil
      have hd : l.drop i = l[i] :: l.drop (i + 1) := List.drop_eq_getElem_cons hil
      have h1 := ih l[i] (List.mem_of_getElem? hx)
      have h2 := ihd (i + 1) (by omega)
      rw [rowsT_length, decide_eq_true (show (i : Int) < (l.length : Int) by omega), leInt_zero, ltInt_nat, decide_eq_true hil, rowsT_at hx, wrap_succ hil hlen, hd, allG]
      simp only [cond_true, Bool.and_self, length_cells, Nat.beq_refl, take_cells, kTmC_cells, show Nat.ble 4 4 = true from rfl, av_unf, h1, kOptSome, kBool_bool]
      cases hg : isG V l[i] with
      | false => exact ⟨_, rfl, rfl⟩
      | true => rw [Bool.true_and]; exact h2
  apply Gets.get
  exact r17All_run _ _ (by simpa using loop l.length 0 (by omega))
theorem r17Is_ev {V : List Int} (hV : V.length < 1099511627776) : ∀ (n : Nat) (t : Tm), t.w ≤ n → n < 1099511627776 → EVs (EV cfg) 99 [t.av, .sl (intsR V)] = some (.bool (isG V t)) := by
  intro n
  induction n with
  | zero => intro t h; have := w_pos t; omega
  | succ n ih =>
    intro t hw hn
    have hwe := t.w_eq
    have hwl := wL_len t.subs
    have allOf : ∀ l : List Tm, wL l ≤ n → EVs (EV cfg) 131 [.sl (rowsT l), .sl (intsR V)] = some (.bool (allG V l)) := fun l hl =>
      r17All_of (by have := wL_len l; omega) fun x hx => ih x (by have := wL_mem hx; omega) (by omega)
    have hvar := r16Var_ev (t := t) (by omega)
    have hsub := allOf t.subs (by omega)
    apply Gets.get
    rw [Tm.av, Tm.cells_eq] at hvar ⊢
    refine r17Is_run _ _ _ _ _ ?_
    rw [hvar, hsub]
    simp only [beqI, kOptSome, kBool_bool]
    simp only [varR, kTup, kCons, kInt_int, kBool_bool, kNil]
    cases hv : varT t with
    | some x =>
      have h2 : t.kind = 2 := by
        unfold varT at hv
        split at hv
        · rename_i h; exact h.1
        · cases hv
      have hc := r17In_ev V hV x
      simp only [Option.getD_some, Option.isSome_some, cond_true]
      rw [hc, isG_atom h2, hv]; exact ⟨_, rfl, rfl⟩
    | none =>
      simp only [Option.isSome_none, cond_false]
      by_cases h9 : t.kind = 9
      · rw [decide_eq_true h9, cond_true, isG_cons h9]; exact ⟨_, rfl, rfl⟩
      · rw [decide_eq_false h9, cond_false]
        by_cases h7 : t.kind = 7
        · have e7 : (t.kind != 7) = false := by rw [h7]; rfl
          rw [e7, cond_false]
          cases hl : t.subs with
          | nil => rw [isG_nil h7 hl]; exact ⟨_, rfl, rfl⟩
          | cons f r =>
            rw [isG_tup h7 hl]
            rw [hl] at hwl hwe
            rw [wL_cons] at hwe
            have hfw := f.w_eq
            have hfs := allOf f.subs (by omega)
            have hr := allOf r (by omega)
            have hrl := wL_len r
            have c0 : (decide (((rowsT (f :: r)).length : Int) = 0)) = false := by rw [rowsT_length]; exact decide_eq_false (by simp; omega)
            have c1 : ltInt 0 ((rowsT (f :: r)).length : Int) = true := by rw [rowsT_length]; exact decide_eq_true (by simp)
            have c2 : leInt 1 ((rowsT (f :: r)).length : Int) = true := by rw [rowsT_length]; exact decide_eq_true (by simp; omega)
            have c3 : IntKind.wrap .i64 (((rowsT (f :: r)).length : Int) - 1) = (r.length : Int) := by
              rw [rowsT_length, List.length_cons, wrap64 (by omega) (by omega)]; omega
            have c4 : (decide (((rowsT (f :: r)).length : Int) = 1)) = decide (r.length = 0) := by rw [rowsT_length, List.length_cons]; exact decide_eq_decide.2 (by omega)
            have c5 : (decide (((rowsT (f :: r)).length : Int) = 2)) = decide (r.length = 1) := by rw [rowsT_length, List.length_cons]; exact decide_eq_decide.2 (by omega)
            have g0 : (rowsT (f :: r))[(0 : Int).toNat]? = some f.cells := by rw [rowsT_cons]; rfl
            have g0' : (rowsT (f :: r))[0]? = some f.cells := g0
            have tk : List.take ((rowsT (f :: r)).length - 1) (List.drop 1 (rowsT (f :: r))) = rowsT r := by
              rw [rowsT_cons, List.drop_succ_cons, List.drop_zero, List.length_cons, Nat.add_sub_cancel, List.take_length]
            have hm := r17May_ev f.str (r.length : Int)
            rw [c0, c1, c2, c3, c4, c5, tk]
            simp only [cond_false, cond_true, get?Internal_eq, g0, g0', kOptSome, length_cells, Nat.beq_refl, show Nat.ble 4 4 = true from rfl, take_cells, kTmC_cells, rowsOk_rowsT, beqS, hm, hfs, hr, kBool_bool]
            by_cases f7 : f.kind = 7
            · have f2 : (f.kind != 2) = true := by rw [f7]; rfl
              rw [if_pos f7, decide_eq_true f7, f2]
              cases decide (r.length = 0) <;> exact ⟨_, rfl, rfl⟩
            · rw [if_neg f7, decide_eq_false f7, cond_false]
              by_cases f2 : f.kind = 2
              · have e2 : (f.kind != 2) = false := by rw [f2]; rfl
                rw [if_pos f2, e2, cond_false]
                by_cases hc : f.str = [99, 111, 110, 115, 116]
                · rw [if_pos hc, decide_eq_true hc]
                  cases decide (r.length = 0) <;> exact ⟨_, rfl, rfl⟩
                · rw [if_neg hc, decide_eq_false hc, cond_false]
                  cases decide (r.length = 0) <;> cases decide ((r.length : Int) ∈ opsG f.str) <;> exact ⟨_, rfl, rfl⟩
              · have e2 : (f.kind != 2) = true := by simpa using f2
                rw [if_neg f2, e2]
                cases decide (r.length = 0) <;> exact ⟨_, rfl, rfl⟩
        · have e7 : (t.kind != 7) = true := by simpa using h7
          rw [e7]
          by_cases h2 : t.kind = 2
          · rw [isG_atom h2, hv]; exact ⟨_, rfl, rfl⟩
          · rw [isG_other h2 h9 h7]; exact ⟨_, rfl, rfl⟩
theorem r17Check_ev {V : List Int} (hV : V.length < 1099511627776) {t : Tm} (h : t.w < 1099511627776) : EVs (EV cfg) 79 [t.av, .sl (intsR V)] = some (.int .i64 (checkG V t)) := by
  have hc := r02Check_ev h
  have hi := r17Is_ev hV t.w t (Nat.le_refl _) h
  apply Gets.get
  rw [Tm.av, Tm.cells_eq] at hc hi ⊢
  refine r17Check_run _ _ _ _ _ ?_
  rw [hc, hi]
  unfold checkG
  simp only [kOptSome, kInt_int, kBool_bool]
  by_cases h0 : t.chk = 0
  · have : (t.chk != 0) = false := by rw [h0]; rfl
    rw [this, if_pos h0]
    cases isG V t <;> exact ⟨_, rfl, rfl⟩
  · have : (t.chk != 0) = true := by simpa using h0
    rw [this, if_neg h0]; exact ⟨_, rfl, rfl⟩
end Go.Proofs.YtonmmmgffeoiiaaGreat
end

section
namespace Go.Av
def setL (q : Nat → Bool) : List Int := ((List.range 100).filter q).map Int.ofNat
theorem setL_range (q : Nat → Bool) : setL q = ((List.range' 0 100).filter q).map Int.ofNat := by unfold setL; rw [List.range_eq_range']
theorem setL_len (q : Nat → Bool) : (setL q).length ≤ 100 := by
  unfold setL
  rw [List.length_map]
  exact Nat.le_trans (List.length_filter_le _ _) (by simp)
theorem varsG_set (p : Tm) : varsG p = if p.chk = 0 then setL (fun n => varIn (n : Nat) p) else [] := rfl
def insL : List Int → Int → List Int
  | [], n => [n]
  | x :: l, n => if x < n then x :: insL l n else if x = n then x :: l else n :: x :: l
theorem insL_app (A : List Int) (B : List Int) (n : Int) (h : ∀ a ∈ A, a < n) : insL (A ++ B) n = A ++ insL B n := by
  induction A with
  | nil => rfl
  | cons a A ih =>
    rw [List.cons_append, insL, if_pos (h a (by simp)), ih (fun x hx => h x (by simp [hx]))]; rfl
theorem insL_gt (B : List Int) (n : Int) (h : ∀ b ∈ B, n < b) : insL B n = n :: B := by
  cases B with
  | nil => rfl
  | cons b B =>
    have := h b (by simp)
    rw [insL, if_neg (by omega), if_neg (by omega)]
theorem insL_filter (q : Nat → Bool) (n : Nat) : ∀ d a : Nat, a ≤ n → n < a + d → insL (((List.range' a d).filter q).map Int.ofNat) (n : Int) = ((List.range' a d).filter fun m => q m || decide (m = n)).map Int.ofNat := by
  intro d
  induction d with
  | zero => intro a h1 h2; omega
  | succ d ih =>
    intro a h1 h2
    rw [List.range'_succ]
    by_cases ha : a = n
    · subst ha
      have hgt : ∀ b ∈ ((List.range' (a + 1) d).filter q).map Int.ofNat, (a : Int) < b := by
        intro b hb
        obtain ⟨m, hm, rfl⟩ := List.mem_map.1 hb
        have := (List.mem_range'_1.1 (List.mem_filter.1 hm).1).1
        show (a : Int) < (m : Int)
        omega
      have hc : (List.range' (a + 1) d).filter (fun m => q m || decide (m = a)) = (List.range' (a + 1) d).filter q := by
        refine List.filter_congr fun m hm => ?_
        have := (List.mem_range'_1.1 hm).1
        rw [decide_eq_false (by omega), Bool.or_false]
      rw [List.filter_cons_of_pos (p := fun m => q m || decide (m = a)) (by simp), hc]
      cases hq : q a with
      | true =>
        rw [List.filter_cons_of_pos hq, List.map_cons, insL, if_neg (by simp), if_pos (show Int.ofNat a = (a : Int) from rfl)]
      | false =>
        rw [List.filter_cons_of_neg (by simp [hq]), insL_gt _ _ hgt]; rfl
    · have h := ih (a + 1) (by omega) (by omega)
      cases hq : q a with
      | true =>
        rw [List.filter_cons_of_pos hq, List.filter_cons_of_pos (p := fun m => q m || decide (m = n)) (by simp [hq]), List.map_cons, List.map_cons, insL, if_pos (by show (a : Int) < (n : Int); omega), h]
      | false =>
        rw [List.filter_cons_of_neg (by simp [hq]), List.filter_cons_of_neg (p := fun m => q m || decide (m = n)) (by simp [hq, ha]), h]
theorem insL_set (q : Nat → Bool) {n : Nat} (h : n < 100) : insL (setL q) (n : Int) = setL fun m => q m || decide (m = n) := by
  rw [setL_range, setL_range]
  exact insL_filter q n 100 0 (by omega) (by omega)
theorem rowsOk_ints (l : List Int) : rowsOk 1 (intsR l) = true := by cases l <;> rfl
theorem intsR_take (l : List Int) (n : Nat) : (intsR l).take n = intsR (l.take n) := by simp [intsR, List.map_take]
theorem intsR_drop (l : List Int) (n : Nat) : (intsR l).drop n = intsR (l.drop n) := by simp [intsR, List.map_drop]
theorem intsR_app (a b : List Int) : intsR a ++ intsR b = intsR (a ++ b) := by simp [intsR]
theorem fits8 {n : Nat} (h : n ≤ 1099511627776) : fitsIn n 8 = true := by
  unfold fitsIn; rw [Bool.and_eq_true, Nat.ble_eq, Nat.ble_eq]; omega
end Go.Av
namespace Go.Proofs.YtonmmmgffeoiiaaGreat
open Go.Av
set_option maxRecDepth 100000
theorem r16With_ev {l : List Int} (hl : l.length < 1000000) (n : Int) : EVf (EV cfg) 125 [.sl (intsR l), .int .i64 n] = some (.sl (intsR (insL l n))) := by
  -- put in at a place
  have put : ∀ i : Nat, i ≤ l.length → Gets (jra125_1 (intsR l) n i) (· = .sl (intsR (l.take i ++ n :: l.drop i))) := by
    intro i hi
    refine jra125_1_step _ _ _ ?_
    have e1 : (i : Int).toNat = i := Int.toNat_natCast i
    have hli : leInt (i : Int) (((intsR l).length : Nat) : Int) = true := by rw [intsR_len]; simp only [leInt]; exact decide_eq_true (by omega)
    have e2 : (intsR l).take (i - 0) = intsR (l.take i) := by rw [Nat.sub_zero, intsR_take]
    have e3 : List.take ((intsR l).length - i) (List.drop i (intsR l)) = intsR (l.drop i) := by
      rw [intsR_len, intsR_drop, intsR_take, List.take_of_length_le (by rw [List.length_drop]; exact Nat.le_refl _)]
    have e4 : (intsR (l.take i)).length = i := by rw [intsR_len, List.length_take]; omega
    have e5 : (intsR (l.drop i)).length = l.length - i := by rw [intsR_len, List.length_drop]
    have e6 : List.append (List.take (0 + i) (intsR (l.take i))) [[AV.int .i64 n]] = intsR (l.take i ++ [n]) := by
      rw [List.take_of_length_le (by omega), ← intsR_app]; rfl
    have e7 : (intsR (l.take i ++ [n])).length = i + 1 := by rw [intsR_len, List.length_append, List.length_take, List.length_singleton]; omega
    have e8 : List.append (List.take (0 + i + 1) (intsR (l.take i ++ [n]))) (intsR (l.drop i)) = intsR (l.take i ++ n :: l.drop i) := by
      rw [List.take_of_length_le (by omega)]
      show intsR _ ++ intsR _ = _
      rw [intsR_app, List.append_assoc]; rfl
    have e9 : (intsR (l.take i ++ n :: l.drop i)).length = i + 1 + (l.length - i) := by rw [intsR_len, List.length_append, List.length_take, List.length_cons, List.length_drop]; omega
    have e10 : List.take (0 + i + 1 + (l.length - i)) (intsR (l.take i ++ n :: l.drop i)) = intsR (l.take i ++ n :: l.drop i) := List.take_of_length_le (by omega)
    have b1 : Nat.ble (0 + (0 + i)) i = true := by rw [Nat.ble_eq]; omega
    have b2 : Nat.ble (0 + (0 + i + 1)) (i + 1) = true := by rw [Nat.ble_eq]; omega
    have b3 : Nat.ble (0 + (0 + i + 1 + (l.length - i))) (i + 1 + (l.length - i)) = true := by rw [Nat.ble_eq]; omega
    have f1 : fitsIn (0 + i) 8 = true := fits8 (by omega)
    have f2 : fitsIn (0 + i + 1) 8 = true := fits8 (by omega)
    have f3 : fitsIn (0 + i + 1 + (l.length - i)) 8 = true := fits8 (by omega)
    simp only [e1, leInt_zero, hli, rowsOk_ints, e2, e3, e4, e5, e6, e7, e8, e9, e10, b1, b2, b3, f1, f2, f3, Bool.and_self, cond_true]
    exact ⟨_, rfl, rfl⟩
  -- where the numbers begin that are not below
  have here : ∀ i : Nat, i ≤ l.length → (∀ a ∈ l.take i, a < n) → (∀ x r, l.drop i = x :: r → ¬ x < n) → Gets (jra125_0 (intsR l) n i) (· = .sl (intsR (insL l n))) := by
    intro i hi hlt hge
    have hsplit : insL l n = l.take i ++ insL (l.drop i) n := by
      have := insL_app (l.take i) (l.drop i) n hlt
      rwa [List.take_append_drop] at this
    refine jra125_0_step _ _ _ ?_
    by_cases hil : i < l.length
    · have hx : l[i]? = some l[i] := List.getElem?_eq_getElem hil
      have hd : l.drop i = l[i] :: l.drop (i + 1) := List.drop_eq_getElem_cons hil
      have hnl := hge _ _ hd
      rw [intsR_len, decide_eq_true (show (i : Int) < (l.length : Int) by omega), leInt_zero, ltInt_nat, decide_eq_true hil, get?Internal_eq, Int.toNat_natCast, intsR_get, hx]
      simp only [Bool.and_self, cond_true, Option.map_some, kOptSome, List.length_singleton, Nat.beq_refl, get?Internal_eq, List.getElem?_cons_zero, kInt_int, beqI]
      by_cases he : l[i] = n
      · rw [decide_eq_true he]
        refine ⟨_, rfl, ?_⟩
        rw [hsplit, hd, insL, if_neg hnl, if_pos he, ← hd, List.take_append_drop]
      · rw [decide_eq_false he]
        have h := put i hi
        have e : insL (l.drop i) n = n :: l.drop i := by rw [hd, insL, if_neg hnl, if_neg he]
        rw [hsplit, e]
        exact h
    · rw [intsR_len, decide_eq_false (by omega)]
      have h := put i hi
      have e0 : l.drop i = [] := List.drop_eq_nil_of_le (by omega)
      have e : insL (l.drop i) n = n :: l.drop i := by rw [e0]; rfl
      rw [hsplit, e]
      exact h
  have loop : ∀ d i : Nat, i + d = l.length → (∀ a ∈ l.take i, a < n) → Gets (wra125_0 (intsR l) n i) (· = .sl (intsR (insL l n))) := by
    intro d
    induction d with
    | zero =>
      intro i hi hlt
      refine wra125_0_step _ _ _ ?_
      rw [intsR_len, decide_eq_false (by omega)]
      exact here i (by omega) hlt (fun x r h => by rw [List.drop_eq_nil_of_le (by omega)] at h; cases h)
    | succ d ih =>
      intro i hi hlt
      have hil : i < l.length := by omega
      refine wra125_0_step _ _ _ ?_
      have hx : l[i]? = some l[i] := List.getElem?_eq_getElem hil
      have hd : l.drop i = l[i] :: l.drop (i + 1) := List.drop_eq_getElem_cons hil
      rw [intsR_len, decide_eq_true (show (i : Int) < (l.length : Int) by omega), leInt_zero, ltInt_nat, decide_eq_true hil, get?Internal_eq, Int.toNat_natCast, intsR_get, hx, wrap_succ hil (by omega)]
      simp only [Bool.and_self, cond_true, Option.map_some, kOptSome, List.length_singleton, Nat.beq_refl, get?Internal_eq, List.getElem?_cons_zero, kInt_int]
      by_cases hlx : l[i] < n
      · rw [decide_eq_true hlx]
        refine ih (i + 1) (by omega) (fun a ha => ?_)
        rw [List.take_add_one, hx, Option.toList_some, List.mem_append] at ha
        rcases ha with h | h
        · exact hlt a h
        · simp at h; subst h; exact hlx
      · rw [decide_eq_false hlx]
        refine here i (by omega) hlt (fun x r h => ?_)
        rw [hd] at h; cases h; exact hlx
  apply Gets.get
  exact r16With_run _ _ (loop l.length 0 (by omega) (by simp))
theorem r16Any_ev {t : Tm} (h : t.w < 1099511627776) : EVs (EV cfg) 94 [t.av] = some (.bool (anyT t)) := by
  have hm := r02Check_ev h
  apply Gets.get
  rw [Tm.av, Tm.cells_eq] at hm ⊢
  refine r16Any_run _ _ _ _ ?_
  rw [hm]
  simp only [beqI, beqS, kOptSome, kInt_int]
  unfold anyT
  cases decide (t.kind = 2) <;> cases decide (t.str = [95]) <;> cases decide (t.chk = 0) <;> exact ⟨_, rfl, rfl⟩
theorem varT_lt {t : Tm} {n : Int} (h : varT t = some n) : 0 ≤ n ∧ n < 100 := by
  unfold varT at h
  split at h
  · have := varG_in h; omega
  · cases h
theorem r16vars_ev : ∀ (n : Nat) (p : Tm), p.w ≤ n → p.chk = 0 → ∀ q : Nat → Bool, EVf (EV cfg) 95 [p.av, .sl (intsR (setL q))] = some (.sl (intsR (setL fun m => q m || varIn (m : Nat) p))) := by
  intro n
  induction n with
  | zero => intro p h; have := w_pos p; omega
  | succ n ih =>
    intro p hw hc q
    have hwe := p.w_eq
    have hwc := w_chk hc
    have hv := r16Var_ev (t := p) (by omega)
    have loop : ∀ (l : List Tm), wL l ≤ n → (∀ x ∈ l, x.chk = 0) → l.length < 1000000 → ∀ (d i : Nat) (q : Nat → Bool), i + d = l.length → Gets (wra95_0 (rowsT l) (intsR (setL q)) i) (· = .sl (intsR (setL fun m => q m || (l.drop i).any (varIn (m : Nat))))) := by
      intro l hwl hcl hlen d
      induction d with
      | zero =>
        intro i q hi
        refine wra95_0_step _ _ _ ?_
        rw [rowsT_length, decide_eq_false (by omega), List.drop_eq_nil_of_le (by omega)]
        simp only [List.any_nil, Bool.or_false]
        exact ⟨_, rfl, rfl⟩
      | succ d ihd =>
        intro i q hi
        have hil : i < l.length := by omega
        have hx : l[i]? = some l[i] := List.getElem?_eq_getElem hil
        have hd : l.drop i = l[i] :: l.drop (i + 1) := List.drop_eq_getElem_cons hil
        have hm := List.mem_of_getElem? hx
        refine wra95_0_step _ _ _ ?_
        have hi2 := ih l[i] (by have := wL_mem hm; omega) (hcl _ hm) q
        have h2 := ihd (i + 1) (fun m => q m || varIn (m : Nat) l[i]) (by omega)
        rw [rowsT_length, decide_eq_true (show (i : Int) < (l.length : Int) by omega), leInt_zero, ltInt_nat, decide_eq_true hil, rowsT_at hx, wrap_succ hil (by omega)]
        simp only [cond_true, Bool.and_self, length_cells, Nat.beq_refl, take_cells, kTmC_cells, show Nat.ble 4 4 = true from rfl, av_unf, hi2, kOptSome, kSl_sl]
        rw [hd]
        simp only [List.any_cons, ← Bool.or_assoc]
        exact h2
    have hp : ∀ l : List Tm, EVf (EV cfg) 126 [p.av] = some (.sl (rowsT l)) → wL l ≤ n → (∀ x ∈ l, x.chk = 0) → l.length < 1000000 → (∀ m : Nat, varIn (m : Nat) p = l.any (varIn (m : Nat))) → varT p = none →
        EVf (EV cfg) 95 [p.av, .sl (intsR (setL q))] = some (.sl (intsR (setL fun m => q m || varIn (m : Nat) p))) := by
      intro l hpl hwl hcl hlen heq hnone
      have h := loop l hwl hcl hlen l.length 0 q (by omega)
      apply Gets.get
      rw [Tm.av, Tm.cells_eq] at hpl hv ⊢
      refine r16vars_run _ _ _ _ _ ?_
      rw [hv, hpl, hnone]
      simp only [varR, kOptSome, kTup, kCons, kInt_int, kNil, Option.isSome_none, kBool_bool, cond_false, kSl_sl]
      rw [List.drop_zero] at h
      simp only [heq]
      exact h
    have parts : EVf (EV cfg) 126 [p.av] = some (.sl (rowsT (if p.kind = 7 ∨ p.kind = 9 then p.subs else []))) := by
      apply Gets.get
      rw [Tm.av, Tm.cells_eq]
      refine r16Parts_run _ _ _ _ ?_
      rw [beqI, beqI]
      by_cases h7 : p.kind = 7
      · rw [decide_eq_true h7, if_pos (.inl h7)]; exact ⟨_, rfl, rfl⟩
      · by_cases h9 : p.kind = 9
        · rw [decide_eq_false h7, decide_eq_true h9, if_pos (.inr h9)]; exact ⟨_, rfl, rfl⟩
        · rw [decide_eq_false h7, decide_eq_false h9, if_neg (fun h => h.elim h7 h9), rowsT_nil]; exact ⟨_, rfl, rfl⟩
    cases hvt : varT p with
    | some x =>
      obtain ⟨h0, h1⟩ := varT_lt hvt
      have hk : p.kind = 2 := by
        unfold varT at hvt
        split at hvt
        · rename_i h; exact h.1
        · cases hvt
      have hvg : varG p.str = some x := by
        unfold varT at hvt
        rw [if_pos ⟨hk, hc⟩] at hvt; exact hvt
      obtain ⟨k, rfl⟩ : ∃ k : Nat, x = k := ⟨x.toNat, by omega⟩
      have hw1 := r16With_ev (l := setL q) (by have := setL_len q; omega) (k : Int)
      rw [insL_set q (by omega)] at hw1
      apply Gets.get
      rw [Tm.av, Tm.cells_eq] at hv ⊢
      refine r16vars_run _ _ _ _ _ ?_
      rw [hv, hvt]
      simp only [varR, kOptSome, kTup, kCons, kInt_int, kNil, Option.isSome_some, Option.getD_some, kBool_bool, cond_true, hw1, kSl_sl]
      refine ⟨_, rfl, ?_⟩
      congr 3
      funext m
      congr 1
      rw [varIn_eq, if_neg (by omega), decide_eq_true hk, hvg, Bool.true_and]
      exact decide_eq_decide.2 ⟨fun h => by rw [h], fun h => by cases h; rfl⟩
    | none =>
      rw [hvt] at hv
      by_cases h79 : p.kind = 7 ∨ p.kind = 9
      · rw [if_pos h79] at parts
        exact hp p.subs parts (by omega) (fun x hx => chk_sub hc hx) (by have := subs_chk hc; omega) (fun m => by rw [varIn_eq, if_pos h79]) hvt
      · rw [if_neg h79] at parts
        refine hp [] parts (by simp) (by simp) (by simp) (fun m => ?_) hvt
        rw [varIn_eq, if_neg h79, List.any_nil]
        by_cases hk : p.kind = 2
        · unfold varT at hvt
          rw [if_pos ⟨hk, hc⟩] at hvt
          rw [hvt]; simp
        · rw [decide_eq_false hk]; rfl
theorem r16Vars_ev {t : Tm} (h : t.w < 1099511627776) : EVf (EV cfg) 75 [t.av] = some (.sl (intsR (varsG t))) := by
  have hc := r02Check_ev h
  rw [varsG_set]
  apply Gets.get
  by_cases h0 : t.chk = 0
  · have hv := r16vars_ev t.w t (Nat.le_refl _) h0 (fun _ => false)
    have e0 : intsR (setL fun _ => false) = [] := rfl
    rw [e0] at hv
    rw [Tm.av, Tm.cells_eq] at hv hc ⊢
    refine r16Vars_run _ _ _ _ ?_
    rw [hc, h0, if_pos rfl, hv]
    simp only [kOptSome, kInt_int, kSl_sl, Bool.false_or]
    exact ⟨_, rfl, rfl⟩
  · rw [Tm.av, Tm.cells_eq] at hc ⊢
    refine r16Vars_run _ _ _ _ ?_
    rw [hc, if_neg h0]
    simp only [kOptSome, kInt_int, bneD, decide_eq_false h0]
    exact ⟨_, rfl, rfl⟩
end Go.Proofs.YtonmmmgffeoiiaaGreat
end

section
namespace Go.Proofs.YtonmmmgffeoiiaaGreat
open Go.Av
set_option maxRecDepth 100000
set_option maxHeartbeats 0

noncomputable def Ly30_0 : Den := evC cfg (EV cfg) 33 none 0 (sub (bodyOf Tryz.f33) [1, 1, 0, 1, 0, 0])
noncomputable def Ay30_0 : Ex × List AV × AH → Option AV := kAft (Cfg.keepOut cfg 33 3) (kRun cfg (EV cfg) (kfN cfg 6) 33 none 0 (kFinF cfg (Cfg.lift cfg 33 0) Tryz.f33.results.toList) ([.block 0, .seq (sub (bodyOf Tryz.f33) [1, 1, 1])]))
noncomputable def Wy30_0 : List AV × AH → Option AV := fun p => kOpt (LOOP 0 (some [1, 2, 3, 4]) ([(3, 4)]) Ly30_0 p) Ay30_0
noncomputable abbrev wy30_0 (nv3 : Nat) (v4 : Int) (c0_0 : Int) (c0_1 : Int) (c0_2 : List UInt8) (c0_3 : List (List AV)) (c1_0 : Int) (c1_1 : Int) (c1_2 : List UInt8) (c1_3 : List (List AV)) (h2 : List (List AV)) : Option (AV) := Wy30_0  (((fx 24 [(1, AV.ptr (0 : Nat) (0 : Nat) (0 : Nat)), (2, AV.ptr (1 : Nat) (0 : Nat) (0 : Nat)), (3, AV.ms (2 : Nat) (0 : Nat) nv3), (4, AV.int IntKind.i64 v4)]) : List AV), ([ABlk.rows false (4 : Nat) [[AV.int IntKind.i64 c0_0, AV.int IntKind.i64 c0_1, AV.str c0_2, AV.sl c0_3]], ABlk.rows false (4 : Nat) [[AV.int IntKind.i64 c1_0, AV.int IntKind.i64 c1_1, AV.str c1_2, AV.sl c1_3]], ABlk.rows true (4 : Nat) h2] : AH))
theorem r02Copy_run (kt : Int) (nt : Int) (st : List UInt8) (lt : List (List AV)) {P : AV → Prop} (h : Gets (wy30_0 0 (0 : Int) kt nt st lt (0 : Int) (0 : Int) [] [] []) P) : Gets (EVf (EV cfg) 33 ([AV.agg [AV.int IntKind.i64 kt, AV.int IntKind.i64 nt, AV.str st, AV.sl lt]] : List AV)) P :=
  Gets.ev (fun _ h => funF rfl rfl Tryz.func33 rfl h) (Gets.eq (by kernel_rfl) h)
theorem wy30_0_step (nv3 : Nat) (v4 : Int) (c0_0 : Int) (c0_1 : Int) (c0_2 : List UInt8) (c0_3 : List (List AV)) (c1_0 : Int) (c1_1 : Int) (c1_2 : List UInt8) (c1_3 : List (List AV)) (h2 : List (List AV)) {P : AV → Prop} (h : Gets (bif decide (v4 < (↑(List.length c0_3) : Int)) then bif leInt (0 : Int) v4 && ltInt v4 (↑(List.length c0_3) : Int) then kOpt (List.get?Internal c0_3 (Int.toNat v4)) fun (row : List AV) 
  => bif Nat.beq (List.length row) 4 then bif Nat.ble 4 (List.length row) then kTmC (List.take 4 row) fun (n n_1 : Int) (s : List UInt8) (rows : List (List AV)) => (kOpt (EVf (EV cfg) 
  33 [.agg [AV.int .i64 n, .int .i64 n_1, .str s, .sl rows]]) fun (v : AV) => kTmV v fun (n n_2 : Int) (s : List UInt8) (rows : List (List AV)) => (bif Nat.ble (0 + nv3) (List.length h2) 
  && fitsIn (nv3 + 1) 56 then wy30_0 (nv3 + 1) (IntKind.wrap .i64 (v4 + (1 : Int))) c0_0 c0_1 c0_2 c0_3 c1_0 c1_1 c1_2 c1_3 (List.append (List.take nv3 h2) [[AV.int .i64 n, .int .i64 n_2, 
  .str s, .sl rows]]) else none)) else none else none else none else bif Nat.ble (0 + nv3) (List.length h2) && true then some (.agg [AV.int .i64 c0_0, .int .i64 c0_1, .str c0_2, .sl (List.take 
  nv3 h2)]) else none) P) : Gets (wy30_0 nv3 v4 c0_0 c0_1 c0_2 c0_3 c1_0 c1_1 c1_2 c1_3 h2) P :=
  Gets.ev (fun _ h => loop_step (cfg := cfg) (f := 33) (rd := none) (bs := 0) h) (Gets.eq (by kernel_rfl) h)
end Go.Proofs.YtonmmmgffeoiiaaGreat
end

section
namespace Go.Av
def tbR (o : Option Tm) : AV := .tup [(o.getD zeroT).av, .bool o.isSome]
def RB (o : Option Tm) (v : AV) : Prop := ∃ t : Tm, v = .tup [t.av, .bool o.isSome] ∧ ∀ x, o = some x → t = x
theorem RB.of {o : Option Tm} : RB o (tbR o) := ⟨_, rfl, fun x h => by rw [h]; rfl⟩
theorem RB.some {t : Tm} {v : AV} (h : RB (some t) v) : v = .tup [t.av, .bool true] := by
  obtain ⟨x, rfl, h⟩ := h
  rw [h t rfl]; rfl
end Go.Av
namespace Go.Proofs.YtonmmmgffeoiiaaGreat
open Go.Av
end Go.Proofs.YtonmmmgffeoiiaaGreat
end

section
namespace Go.Av
end Go.Av
namespace Go.Proofs.YtonmmmgffeoiiaaGreat
open Go.Av
theorem r02Copy_ev (t : Tm) : t.w < 1099511627776 → EVf (EV cfg) 33 [t.av] = some t.av := by
  induction t using Tm.ind with
  | _ k n s l ih =>
    intro hw
    rw [Tm.w_mk] at hw
    have hlen := wL_len l
    have ih' : ∀ x ∈ l, EVf (EV cfg) 33 [x.av] = some x.av := fun x hx => ih x hx (by have := wL_mem hx; omega)
    have loop : ∀ d i : Nat, i + d = l.length → Gets (wy30_0 i i k n s (rowsT l) 0 0 [] [] (rowsT (l.take i))) (· = (Tm.mk k n s l).av) := by
      intro d
      induction d with
      | zero =>
        intro i hi
        refine wy30_0_step _ _ _ _ _ _ _ _ _ _ _ ?_
        obtain rfl : i = l.length := by omega
        have hb : Nat.ble (0 + l.length) (rowsT l).length = true := by rw [Nat.ble_eq, rowsT_length]; omega
        have ht : List.take l.length (rowsT l) = rowsT l := List.take_of_length_le (by rw [rowsT_length]; omega)
        rw [rowsT_length, decide_eq_false (by omega), List.take_length, hb, ht, Tm.av_mk]
        exact ⟨_, rfl, rfl⟩
      | succ d ihd =>
        intro i hi
        have hil : i < l.length := by omega
        refine wy30_0_step _ _ _ _ _ _ _ _ _ _ _ ?_
        have hx : l[i]? = some l[i] := List.getElem?_eq_getElem hil
        have h1 := ih' l[i] (List.mem_of_getElem? hx)
        have h2 := ihd (i + 1) (by omega)
        have e1 : l.take (i + 1) = l.take i ++ [l[i]] := by rw [List.take_add_one, hx]; rfl
        have ht : (rowsT (l.take i)).length = i := by rw [rowsT_length, List.length_take]; omega
        have e2 : List.append (List.take i (rowsT (l.take i))) [l[i].cells] = rowsT (l.take (i + 1)) := by
          rw [List.take_of_length_le (by omega), e1, rowsT_append, rowsT_cons, rowsT_nil]; rfl
        have e3 : Nat.ble (0 + i) (rowsT (l.take i)).length = true := by rw [ht, Nat.ble_eq]; omega
        rw [rowsT_length, decide_eq_true (show (i : Int) < (l.length : Int) by omega), leInt_zero, ltInt_nat, decide_eq_true hil, rowsT_at hx, wrap_succ (n := l.length) hil (by omega), e3, fits56 (by omega)]
        simp only [cond_true, Bool.and_self, length_cells, Nat.beq_refl, take_cells, kTmC_cells, show Nat.ble 4 4 = true from rfl, av_unf, h1, kOptSome, kTmV_av]
        rw [← Tm.cells_eq, e2]
        exact h2
    apply Gets.get
    rw [Tm.av_mk]
    refine r02Copy_run _ _ _ _ ?_
    rw [← Tm.av_mk]
    exact (by simpa [rowsT_nil] using loop l.length 0 (by omega))
end Go.Proofs.YtonmmmgffeoiiaaGreat
end

section
namespace Go.Proofs.YtonmmmgffeoiiaaGreat
open Go.Av
set_option maxRecDepth 100000
set_option maxHeartbeats 0

noncomputable def Le58_0 : Den := evC cfg (EV cfg) 82 none 7 (sub (bodyOf Tryz.f82) [0, 0, 0])
noncomputable def Ae58_0 : Ex × List AV × AH → Option AV := kAft (Cfg.keepOut cfg 82 (firstRid (sub (bodyOf Tryz.f82) [0, 0, 0]))) (kBlock 0 (kSeq (fun (fr : List AV) (H : AH) => kCutTo (Cfg.cut cfg 82 (firstRid (sub (bodyOf Tryz.f82) [1]))) fr H fun (fr : List AV) (H : AH) => kCode cfg (EV cfg) (kfN cfg (5)) 55 none 7 (sub (bodyOf Tryz.f82) [1]) fr H (kFinG cfg (Cfg.lift cfg 82 0) (fun (v : AV) (H : AH) => (fun (r : AV × AH) => kRangeEnd 0 6 (fx 18 [(4, AV.ptr 1 0 0), (5, AV.ptr 2 0 0)]) (kBlock 0 (kSeq (fun (fr : List AV) (H : AH) => kCutTo (Cfg.cut cfg 85 (firstRid (sub (bodyOf Tryz.f85) [1, 1, 1, 1]))) fr H fun (fr : List AV) (H : AH) => kCode cfg (EV cfg) (kfN cfg 6) 85 none 0 (sub (bodyOf Tryz.f85) [1, 1, 1, 1]) fr H (kFinF cfg (Cfg.lift cfg 85 0) (Array.toList (Func.results Tryz.f85)))) (kFinF cfg (Cfg.lift cfg 85 0) (Array.toList (Func.results Tryz.f85))))) (Prod.snd r)) (v, H)) (Array.toList (Func.results (Prod.snd (82, Tryz.f82)))))) (kFinG cfg (Cfg.lift cfg 82 0) (fun (v : AV) (H : AH) => (fun (r : AV × AH) => kRangeEnd 0 6 (fx 18 [(4, AV.ptr 1 0 0), (5, AV.ptr 2 0 0)]) (kBlock 0 (kSeq (fun (fr : List AV) (H : AH) => kCutTo (Cfg.cut cfg 85 (firstRid (sub (bodyOf Tryz.f85) [1, 1, 1, 1]))) fr H fun (fr : List AV) (H : AH) => kCode cfg (EV cfg) (kfN cfg 6) 85 none 0 (sub (bodyOf Tryz.f85) [1, 1, 1, 1]) fr H (kFinF cfg (Cfg.lift cfg 85 0) (Array.toList (Func.results Tryz.f85)))) (kFinF cfg (Cfg.lift cfg 85 0) (Array.toList (Func.results Tryz.f85))))) (Prod.snd r)) (v, H)) (Array.toList (Func.results (Prod.snd (82, Tryz.f82)))))))
noncomputable def We58_0 : List AV × AH → Option AV := fun (p : List AV × AH) => kOpt (LOOP 7 (some [0, 1, 2]) [] Le58_0 p) Ae58_0
noncomputable abbrev we58_0 (c0_0 : Int) (c0_1 : Int) (c0_2 : List UInt8) (c0_3 : List (List AV)) (nc1_0 : Nat) (c2_0 : Bool) (c3_0 : Int) (c3_1 : Int) (c3_2 : List UInt8) (c3_3 : List (List AV)) (h5 : List (List AV)) : Option (AV) := We58_0  (((fx 23 [(0, AV.yld (6 : Nat)), (1, AV.ptr (3 : Nat) (0 : Nat) (0 : Nat)), (2, AV.ptr (4 : Nat) (0 : Nat) (0 : Nat))]) : List AV), ([ABlk.rows false (4 : Nat) [[AV.int IntKind.i64 c0_0, AV.int IntKind.i64 c0_1, AV.str c0_2, AV.sl c0_3]], ABlk.rows false (1 : Nat) [[AV.ms (5 : Nat) (0 : Nat) nc1_0]], ABlk.rows false (1 : Nat) [[AV.bool c2_0]], ABlk.rows false (4 : Nat) [[AV.int IntKind.i64 c3_0, AV.int IntKind.i64 c3_1, AV.str c3_2, AV.sl c3_3]], ABlk.rows false (1 : Nat) [[AV.ptr (2 : Nat) (0 : Nat) (0 : Nat)]], ABlk.rows true (4 : Nat) h5, rngB Tryz.f85 (85 : Nat) [(1 : Nat), (1 : Nat), (1 : Nat), (0 : Nat), (1 : Nat), (0 : Nat)] (fx 18 [(4, AV.ptr (1 : Nat) (0 : Nat) (0 : Nat))]) none LoopState.ready] : AH))
noncomputable abbrev we58_0a (c0_0 : Int) (c0_1 : Int) (c0_2 : List UInt8) (c0_3 : List (List AV)) (nc1_0 : Nat) (c2_0 : Bool) (c3_0 : Int) (c3_1 : Int) (c3_2 : List UInt8) (c3_3 : List (List AV)) (h7 : List (List AV)) : Option (AV) := We58_0  (((fx 23 [(0, AV.yld (6 : Nat)), (1, AV.ptr (3 : Nat) (0 : Nat) (0 : Nat)), (2, AV.ptr (4 : Nat) (0 : Nat) (0 : Nat))]) : List AV), ([ABlk.rows false (4 : Nat) [[AV.int IntKind.i64 c0_0, AV.int IntKind.i64 c0_1, AV.str c0_2, AV.sl c0_3]], ABlk.rows false (1 : Nat) [[AV.ms (7 : Nat) (0 : Nat) nc1_0]], ABlk.rows false (1 : Nat) [[AV.bool c2_0]], ABlk.rows false (4 : Nat) [[AV.int IntKind.i64 c3_0, AV.int IntKind.i64 c3_1, AV.str c3_2, AV.sl c3_3]], ABlk.rows false (1 : Nat) [[AV.ptr (2 : Nat) (0 : Nat) (0 : Nat)]], ABlk.dead, rngB Tryz.f85 (85 : Nat) [(1 : Nat), (1 : Nat), (1 : Nat), (0 : Nat), (1 : Nat), (0 : Nat)] (fx 18 [(4, AV.ptr (1 : Nat) (0 : Nat) (0 : Nat))]) none LoopState.ready, ABlk.rows true (4 : Nat) h7] : AH))
theorem patAny_run (kt : Int) (nt : Int) (st : List UInt8) (lt : List (List AV)) {P : AV → Prop} (h : Gets (bif kt == (2 : Int) then bif st == [(95 : UInt8)] then kOpt (EVs (EV cfg) 108 [.agg [AV.int .i64 kt, .int .i64 nt, .str st, .sl lt]]) fun (v : AV) => kBool v fun (b : Bool) => some (.bool 
  b) else some (.bool false) else some (.bool false)) P) : Gets (EVs (EV cfg) 107 ([AV.agg [AV.int IntKind.i64 kt, AV.int IntKind.i64 nt, AV.str st, AV.sl lt]] : List AV)) P :=
  Gets.ev (fun _ h => funS rfl rfl Tryz.func107 rfl h) (Gets.eq (by kernel_rfl) h)
theorem spHead_run (kt : Int) (nt : Int) (st : List UInt8) (lt : List (List AV)) {P : AV → Prop} (h : Gets (kOpt (EVs (EV cfg) 106 [.agg [AV.int .i64 kt, .int .i64 nt, .str st, .sl lt]]) fun (v : AV) => kTup v fun (cs : List AV) => kCons cs fun (c : AV) (cs : List AV) => kInt .i64 c fun (n : 
  Int) => kCons cs fun (c : AV) (cs : List AV) => kBool c fun (b : Bool) => kNil cs (bif b then some (.bool true) else bif kt == (7 : Int) then some (.bool true) else kOpt (EVs (EV cfg) 
  107 [.agg [AV.int .i64 kt, .int .i64 nt, .str st, .sl lt]]) fun (v : AV) => kBool v fun (b : Bool) => some (.bool b))) P) : Gets (EVs (EV cfg) 83 ([AV.agg [AV.int IntKind.i64 kt, AV.int IntKind.i64 nt, AV.str st, AV.sl lt]] : List AV)) P :=
  Gets.ev (fun _ h => funS rfl rfl Tryz.func83 rfl h) (Gets.eq (by kernel_rfl) h)
theorem spList_run (kt : Int) (nt : Int) (st : List UInt8) (lt : List (List AV)) {P : AV → Prop} (h : Gets (we58_0 kt nt st lt 0 false kt nt st lt []) P) : Gets (EVf (EV cfg) 85 ([AV.agg [AV.int IntKind.i64 kt, AV.int IntKind.i64 nt, AV.str st, AV.sl lt]] : List AV)) P :=
  Gets.ev (fun _ h => funF rfl rfl Tryz.func85 rfl h) (Gets.eq (by kernel_rfl) h)
theorem spCheck_run (kt : Int) (nt : Int) (st : List UInt8) (lt : List (List AV)) {P : AV → Prop} (h : Gets (kOpt (EVq (EV cfg) 41 [.agg [AV.int .i64 kt, .int .i64 nt, .str st, .sl lt]]) fun (q : OV × AV) => kInt .i64 q.2 fun (n : Int) => kOwn q.1 (some (.int .i64 n)) fun (sz : Nat) (rs : List 
  (List AV)) (off len : Nat) => some (.int .i64 n)) P) : Gets (EVs (EV cfg) 18 ([AV.agg [AV.int IntKind.i64 kt, AV.int IntKind.i64 nt, AV.str st, AV.sl lt]] : List AV)) P :=
  Gets.ev (fun _ h => funS rfl rfl Tryz.func18 rfl h) (Gets.eq (by kernel_rfl) h)
theorem makeTuple_run (L : List (List AV)) {P : AV → Prop} (h : Gets (kOpt (EVo (EV cfg) 69 [.sl L]) fun (o : OV) => kOwn o (some (.agg [AV.int .i64 (7 : Int), .int .i64 (0 : Int), .str [], .sl []])) fun (sz : Nat) (rs : List (List AV)) (off len : Nat) 
  => bif Nat.ble (off + len) (List.length rs) && true then some (.agg [AV.int .i64 (7 : Int), .int .i64 (0 : Int), .str [], .sl (List.take len (List.drop off rs))]) else none) P) : Gets (EVf (EV cfg) 47 ([AV.sl L] : List AV)) P :=
  Gets.ev (fun _ h => funF rfl rfl Tryz.func47 rfl h) (Gets.eq (by kernel_rfl) h)
theorem makeAtom_run (s : List UInt8) {P : AV → Prop} (h : Gets (some (.agg [AV.int .i64 (2 : Int), .int .i64 (0 : Int), .str s, .sl []])) P) : Gets (EVf (EV cfg) 50 ([AV.str s] : List AV)) P :=
  Gets.ev (fun _ h => funF rfl rfl Tryz.func50 rfl h) (Gets.eq (by kernel_rfl) h)
theorem spMatch_run (kt : Int) (nt : Int) (st : List UInt8) (lt : List (List AV)) {P : AV → Prop} (h : Gets (kOpt (EVf (EV cfg) 50 [.str [(36 : UInt8), (95 : UInt8)]]) fun (v : AV) => kTmV v fun (n n_1 : Int) (s : List UInt8) (rows : List (List AV)) => (kOpt (EVf (EV cfg) 23 [.sl [[AV.int .i64 
  kt, .int .i64 nt, .str st, .sl lt, .sl [], .sl [[AV.int .i64 n, .int .i64 n_1, .str s, .sl rows]]]]]) fun (v : AV) => kTup v fun (cs : List AV) => kCons cs fun (c : AV) (cs : List AV) 
  => kAgg c fun (cs_1 : List AV) => kCons cs_1 fun (c : AV) (cs_2 : List AV) => kInt .i64 c fun (n : Int) => kCons cs_2 fun (c : AV) (cs_3 : List AV) => kInt .i64 c fun (n_2 : Int) => 
  kCons cs_3 fun (c : AV) (cs_4 : List AV) => kStr c fun (s : List UInt8) => kCons cs_4 fun (c : AV) (cs_5 : List AV) => kSl c fun (rows : List (List AV)) => kNil cs_5 (kCons cs fun (c 
  : AV) (cs : List AV) => kInt .i64 c fun (n_3 : Int) => kNil cs (some (AV.tup [.agg [AV.int .i64 n, .int .i64 n_2, .str s, .sl rows], .int .i64 n_3]))))) P) : Gets (EVf (EV cfg) 25 ([AV.agg [AV.int IntKind.i64 kt, AV.int IntKind.i64 nt, AV.str st, AV.sl lt]] : List AV)) P :=
  Gets.ev (fun _ h => funF rfl rfl Tryz.func25 rfl h) (Gets.eq (by kernel_rfl) h)
theorem we58_0_step (c0_0 : Int) (c0_1 : Int) (c0_2 : List UInt8) (c0_3 : List (List AV)) (nc1_0 : Nat) (c2_0 : Bool) (c3_0 : Int) (c3_1 : Int) (c3_2 : List UInt8) (c3_3 : List (List AV)) (h5 : List (List AV)) {P : AV → Prop} (h : Gets (bif c3_0 == (9 : Int) then bif ltInt (0 : Int) (↑(List.length c3_3) : Int) then kOpt (List.get?Internal c3_3 0) fun (row : List AV) => bif Nat.beq (List.length row) 4 then bif Nat.ble 
  4 (List.length row) then kTmC (List.take 4 row) fun (n n_1 : Int) (s : List UInt8) (rows : List (List AV)) => (bif Nat.ble (0 + nc1_0) (List.length h5) && fitsIn (nc1_0 + 1) 56 then 
  bif leInt (0 : Int) (↑nc1_0 : Int) && ltInt (↑nc1_0 : Int) (↑(nc1_0 + 1) : Int) then kOpt (List.get?Internal (List.append (List.take nc1_0 h5) [[AV.int .i64 (0 : Int), .int .i64 (0 : 
  Int), .str [], .nilS]]) (0 + Int.toNat (↑nc1_0 : Int))) fun (row : List AV) => bif Nat.ble 4 (List.length row) then bif ltInt (1 : Int) (↑(List.length c3_3) : Int) then kOpt (List.get?Internal 
  c3_3 1) fun (row_1 : List AV) => bif Nat.beq (List.length row_1) 4 then bif Nat.ble 4 (List.length row_1) then kTmC (List.take 4 row_1) fun (n_2 n_3 : Int) (s_1 : List UInt8) (rows_1 
  : List (List AV)) => (we58_0a c0_0 c0_1 c0_2 c0_3 (nc1_0 + 1) c2_0 n_2 n_3 s_1 rows_1 (List.set (List.append (List.take nc1_0 h5) [[AV.int .i64 (0 : Int), .int .i64 (0 : Int), .str [], 
  .nilS]]) (0 + Int.toNat (↑nc1_0 : Int)) (.int .i64 n :: .int .i64 n_1 :: .str s :: .sl rows :: List.drop 4 row))) else none else none else none else none else none else none) else none 
  else none else none else bif Nat.ble (0 + nc1_0) (List.length h5) && true then some (AV.tup [.sl (List.take nc1_0 h5), .bool (c3_0 == (8 : Int))]) else none) P) : Gets (we58_0 c0_0 c0_1 c0_2 c0_3 nc1_0 c2_0 c3_0 c3_1 c3_2 c3_3 h5) P :=
  Gets.ev (fun _ h => loop_step (cfg := cfg) (f := 82) (rd := none) (bs := 7) h) (Gets.eq (by kernel_rfl) h)
theorem we58_0a_step (c0_0 : Int) (c0_1 : Int) (c0_2 : List UInt8) (c0_3 : List (List AV)) (nc1_0 : Nat) (c2_0 : Bool) (c3_0 : Int) (c3_1 : Int) (c3_2 : List UInt8) (c3_3 : List (List AV)) (h7 : List (List AV)) {P : AV → Prop} (h : Gets (bif c3_0 == (9 : Int) then bif ltInt (0 : Int) (↑(List.length c3_3) : Int) then kOpt (List.get?Internal c3_3 0) fun (row : List AV) => bif Nat.beq (List.length row) 4 then bif Nat.ble 
  4 (List.length row) then kTmC (List.take 4 row) fun (n n_1 : Int) (s : List UInt8) (rows : List (List AV)) => (bif Nat.ble (0 + nc1_0) (List.length h7) && fitsIn (nc1_0 + 1) 56 then 
  bif leInt (0 : Int) (↑nc1_0 : Int) && ltInt (↑nc1_0 : Int) (↑(nc1_0 + 1) : Int) then kOpt (List.get?Internal (List.append (List.take nc1_0 h7) [[AV.int .i64 (0 : Int), .int .i64 (0 : 
  Int), .str [], .nilS]]) (0 + Int.toNat (↑nc1_0 : Int))) fun (row : List AV) => bif Nat.ble 4 (List.length row) then bif ltInt (1 : Int) (↑(List.length c3_3) : Int) then kOpt (List.get?Internal 
  c3_3 1) fun (row_1 : List AV) => bif Nat.beq (List.length row_1) 4 then bif Nat.ble 4 (List.length row_1) then kTmC (List.take 4 row_1) fun (n_2 n_3 : Int) (s_1 : List UInt8) (rows_1 
  : List (List AV)) => (we58_0a c0_0 c0_1 c0_2 c0_3 (nc1_0 + 1) c2_0 n_2 n_3 s_1 rows_1 (List.set (List.append (List.take nc1_0 h7) [[AV.int .i64 (0 : Int), .int .i64 (0 : Int), .str [], 
  .nilS]]) (0 + Int.toNat (↑nc1_0 : Int)) (.int .i64 n :: .int .i64 n_1 :: .str s :: .sl rows :: List.drop 4 row))) else none else none else none else none else none else none) else none 
  else none else none else bif Nat.ble (0 + nc1_0) (List.length h7) && true then some (AV.tup [.sl (List.take nc1_0 h7), .bool (c3_0 == (8 : Int))]) else none) P) : Gets (we58_0a c0_0 c0_1 c0_2 c0_3 nc1_0 c2_0 c3_0 c3_1 c3_2 c3_3 h7) P :=
  Gets.ev (fun _ h => loop_step (cfg := cfg) (f := 82) (rd := none) (bs := 7) h) (Gets.eq (by kernel_rfl) h)
end Go.Proofs.YtonmmmgffeoiiaaGreat
end

section
namespace Go.Proofs.YtonmmmgffeoiiaaGreat
open Go.Av
set_option maxRecDepth 100000
set_option maxHeartbeats 0

theorem cloneT_run (r : List AV) (L : List (List AV)) {P : OV → Prop} (h : Gets (bif rowsOk 4 (r :: L) then bif fitsIn (0 + List.length (r :: L)) 56 then some (OV.own 4 (r :: L) 0 (0 + List.length (r :: L))) else none else none) P) : Gets (EVo (EV cfg) 69 ([AV.sl (r :: L)] : List AV)) P :=
  Gets.ev (fun _ h => funO rfl rfl Tryz.func69 rfl h) (Gets.eq (by kernel_rfl) h)
end Go.Proofs.YtonmmmgffeoiiaaGreat
end

section
namespace Go.Av
def lsR (r : List Tm × Bool) : AV := .tup [.sl (rowsT r.1), .bool r.2]
end Go.Av
namespace Go.Proofs.YtonmmmgffeoiiaaGreat
open Go.Av
theorem patAny_ev {t : Tm} (h : t.w < 1099511627776) : EVs (EV cfg) 107 [t.av] = some (.bool (anyT t)) := by
  have hm := patMay_ev h
  apply Gets.get
  rw [Tm.av, Tm.cells_eq] at hm ⊢
  refine patAny_run _ _ _ _ ?_
  rw [hm]
  simp only [beqI, beqS, kOptSome, kBool_bool]
  unfold anyT
  cases decide (t.kind = 2) <;> cases decide (t.str = [95]) <;> exact ⟨_, rfl, rfl⟩
theorem spHead_ev {t : Tm} (h : t.w < 1099511627776) : EVs (EV cfg) 83 [t.av] = some (.bool (headG t)) := by
  have hv := patVar_ev h
  have ha := patAny_ev h
  apply Gets.get
  rw [Tm.av, Tm.cells_eq] at hv ha ⊢
  refine spHead_run _ _ _ _ ?_
  rw [hv, ha]
  unfold headG varR
  simp only [beqI, kOptSome, kBool_bool, kTup, kCons, kInt_int, kNil]
  cases (varT t).isSome <;> cases decide (t.kind = 7) <;> exact ⟨_, rfl, rfl⟩
theorem makeAtom_ev (s : List UInt8) : EVf (EV cfg) 50 [.str s] = some (symT s).av := by
  apply Gets.get
  refine makeAtom_run _ ?_
  rw [symT_av]
  exact ⟨_, rfl, rfl⟩
theorem cloneT_ev {x : Tm} {l : List Tm} (h : l.length < 1099511627775) : EVo (EV cfg) 69 [.sl (rowsT (x :: l))] = some (.own 4 (rowsT (x :: l)) 0 (x :: l).length) := by
  apply Gets.get
  rw [rowsT_cons]
  refine cloneT_run _ _ ?_
  rw [← rowsT_cons, rowsOk_rowsT]
  simp only [cond_true, rowsT_length, List.length_cons, Nat.zero_add, fits56 (show l.length + 1 ≤ 1099511627776 by omega)]
  exact ⟨_, rfl, rfl⟩
theorem makeTuple_ev {x : Tm} {l : List Tm} (h : l.length < 1099511627775) : EVf (EV cfg) 47 [.sl (rowsT (x :: l))] = some (tupT (x :: l)).av := by
  apply Gets.get
  refine makeTuple_run _ ?_
  rw [cloneT_ev h, tupT, Tm.av_mk]
  have hb : Nat.ble (0 + (x :: l).length) (rowsT (x :: l)).length = true := by rw [Nat.ble_eq, rowsT_length]; omega
  have ht : List.take (x :: l).length (List.drop 0 (rowsT (x :: l))) = rowsT (x :: l) := List.take_of_length_le (by simp)
  simp only [kOptSome, kOwn_own, hb, ht, Bool.and_true, cond_true]
  exact ⟨_, rfl, rfl⟩
theorem spList_loopA {c : Tm} {b : Bool} : ∀ (n : Nat) (t : Tm) (acc : List Tm), t.w ≤ n → t.chk = 0 → acc.length + n < 1099511627776 → Gets (we58_0a c.kind c.num c.str (rowsT c.subs) acc.length b t.kind t.num t.str (rowsT t.subs) (rowsT acc)) (· = lsR (acc ++ (itemsG t).1, (itemsG t).2)) := by
  intro n
  induction n with
  | zero => intro t acc h; have := w_pos t; omega
  | succ n ih =>
    intro t acc hw hc hn
    refine we58_0a_step _ _ _ _ _ _ _ _ _ _ _ ?_
    rw [beqI, beqI]
    by_cases h9 : t.kind = 9
    · obtain ⟨x, y, hs⟩ := cons_chk hc h9
      have hwe := t.w_eq
      rw [hs] at hwe
      simp only [wL_cons, wL_nil] at hwe
      have h := ih y (acc ++ [x]) (by omega) (chk_sub hc (by rw [hs]; simp)) (by simp; omega)
      have e1 : Nat.ble (0 + acc.length) (rowsT acc).length = true := by rw [Nat.ble_eq, rowsT_length]; omega
      have e2 : List.take acc.length (rowsT acc) = rowsT acc := List.take_of_length_le (by simp)
      have e3 : ltInt (acc.length : Int) ((acc.length + 1 : Nat) : Int) = true := decide_eq_true (by omega)
      have e4 : (List.append (rowsT acc) [[AV.int .i64 0, .int .i64 0, .str [], .nilS]])[0 + Int.toNat (acc.length : Int)]? = some [AV.int .i64 0, .int .i64 0, .str [], .nilS] := by
        rw [Int.toNat_natCast, Nat.zero_add]
        have := app_get0 (rowsT acc) [AV.int .i64 0, .int .i64 0, .str [], .nilS]
        rw [rowsT_length] at this
        exact this
      have e5 : List.set (List.append (rowsT acc) [[AV.int .i64 0, .int .i64 0, .str [], .nilS]]) (0 + Int.toNat (acc.length : Int)) x.cells = rowsT (acc ++ [x]) := by
        rw [Int.toNat_natCast, Nat.zero_add]
        have := app_set0 (rowsT acc) [AV.int .i64 0, .int .i64 0, .str [], .nilS] x.cells
        rw [rowsT_length] at this
        rw [rowsT_append, rowsT_cons, rowsT_nil]
        exact this
      rw [decide_eq_true h9, cond_true, hs, lt0T, get0T, lt1T, get1T, e1, e2, fits56 (by omega), leInt_zero, e3, get?Internal_eq, e4]
      simp only [cond_true, Bool.and_self, kOptSome, length_cells, Nat.beq_refl, take_cells, kTmC_cells, ble44, List.length_cons, List.length_nil, show Nat.ble 4 (0 + 1 + 1 + 1 + 1) = true from rfl, List.drop_succ_cons, List.drop_zero]
      rw [← Tm.cells_eq, e5, itemsG_cons h9 hs]
      rw [List.length_append] at h
      refine Gets.mono h ?_
      rintro _ rfl
      simp [lsR]
    · have e1 : Nat.ble (0 + acc.length) (rowsT acc).length = true := by rw [Nat.ble_eq, rowsT_length]; omega
      have e2 : List.take acc.length (rowsT acc) = rowsT acc := List.take_of_length_le (by simp)
      rw [decide_eq_false h9, cond_false, e1, e2, itemsG_end h9]
      exact ⟨_, rfl, by simp [lsR]⟩
theorem spList_loop {c : Tm} {b : Bool} : ∀ (n : Nat) (t : Tm) (acc : List Tm), t.w ≤ n → t.chk = 0 → acc.length + n < 1099511627776 → Gets (we58_0 c.kind c.num c.str (rowsT c.subs) acc.length b t.kind t.num t.str (rowsT t.subs) (rowsT acc)) (· = lsR (acc ++ (itemsG t).1, (itemsG t).2)) := by
  intro n
  induction n with
  | zero => intro t acc h; have := w_pos t; omega
  | succ n ih =>
    intro t acc hw hc hn
    refine we58_0_step _ _ _ _ _ _ _ _ _ _ _ ?_
    rw [beqI, beqI]
    by_cases h9 : t.kind = 9
    · obtain ⟨x, y, hs⟩ := cons_chk hc h9
      have hwe := t.w_eq
      rw [hs] at hwe
      simp only [wL_cons, wL_nil] at hwe
      have h := spList_loopA (c := c) (b := b) n y (acc ++ [x]) (by omega) (chk_sub hc (by rw [hs]; simp)) (by simp; omega)
      have e1 : Nat.ble (0 + acc.length) (rowsT acc).length = true := by rw [Nat.ble_eq, rowsT_length]; omega
      have e2 : List.take acc.length (rowsT acc) = rowsT acc := List.take_of_length_le (by simp)
      have e3 : ltInt (acc.length : Int) ((acc.length + 1 : Nat) : Int) = true := decide_eq_true (by omega)
      have e4 : (List.append (rowsT acc) [[AV.int .i64 0, .int .i64 0, .str [], .nilS]])[0 + Int.toNat (acc.length : Int)]? = some [AV.int .i64 0, .int .i64 0, .str [], .nilS] := by
        rw [Int.toNat_natCast, Nat.zero_add]
        have := app_get0 (rowsT acc) [AV.int .i64 0, .int .i64 0, .str [], .nilS]
        rw [rowsT_length] at this
        exact this
      have e5 : List.set (List.append (rowsT acc) [[AV.int .i64 0, .int .i64 0, .str [], .nilS]]) (0 + Int.toNat (acc.length : Int)) x.cells = rowsT (acc ++ [x]) := by
        rw [Int.toNat_natCast, Nat.zero_add]
        have := app_set0 (rowsT acc) [AV.int .i64 0, .int .i64 0, .str [], .nilS] x.cells
        rw [rowsT_length] at this
        rw [rowsT_append, rowsT_cons, rowsT_nil]
        exact this
      rw [decide_eq_true h9, cond_true, hs, lt0T, get0T, lt1T, get1T, e1, e2, fits56 (by omega), leInt_zero, e3, get?Internal_eq, e4]
      simp only [cond_true, Bool.and_self, kOptSome, length_cells, Nat.beq_refl, take_cells, kTmC_cells, ble44, List.length_cons, List.length_nil, show Nat.ble 4 (0 + 1 + 1 + 1 + 1) = true from rfl, List.drop_succ_cons, List.drop_zero]
      rw [← Tm.cells_eq, e5, itemsG_cons h9 hs]
      rw [List.length_append] at h
      refine Gets.mono h ?_
      rintro _ rfl
      simp [lsR]
    · have e1 : Nat.ble (0 + acc.length) (rowsT acc).length = true := by rw [Nat.ble_eq, rowsT_length]; omega
      have e2 : List.take acc.length (rowsT acc) = rowsT acc := List.take_of_length_le (by simp)
      rw [decide_eq_false h9, cond_false, e1, e2, itemsG_end h9]
      exact ⟨_, rfl, by simp [lsR]⟩
theorem spList_ev {t : Tm} (hc : t.chk = 0) : EVf (EV cfg) 85 [t.av] = some (lsR (itemsG t)) := by
  apply Gets.get
  rw [Tm.av, Tm.cells_eq]
  refine spList_run _ _ _ _ ?_
  have hw := w_chk hc
  have h := spList_loop (c := t) (b := false) t.w t [] (Nat.le_refl _) hc (by simp; omega)
  rw [rowsT_nil] at h
  exact h
end Go.Proofs.YtonmmmgffeoiiaaGreat
end

section
namespace Go.Proofs.YtonmmmgffeoiiaaGreat
open Go.Av
set_option maxRecDepth 100000
set_option maxHeartbeats 0

noncomputable def Lk57_0 : Den := evC cfg (EV cfg) 136 none 4 (sub (bodyOf Tryz.f136) [0, 1, 1, 0, 0])
noncomputable def Ak57_0 : Ex × List AV × AH → Option AV := kAft (Cfg.keepOut cfg 136 (firstRid (sub (bodyOf Tryz.f136) [0, 1, 1, 0, 0]))) (kBlock 0 (kScope (kFinG cfg (Cfg.lift cfg 136 0) (fun (v : AV) (H : AH) => (fun (r : AV × AH) => kRangeEnd 0 3 (fx 40 [(3, AV.ptr 1 0 0)]) (kBlock 0 (kSeq (fun (fr : List AV) (H : AH) => kCutTo (Cfg.cut cfg 84 (firstRid (sub (bodyOf Tryz.f84) [1, 1, 1, 1]))) fr H fun (fr : List AV) (H : AH) => kCode cfg (EV cfg) (kfN cfg 6) 84 none 0 (sub (bodyOf Tryz.f84) [1, 1, 1, 1]) fr H (kFinF cfg (Cfg.lift cfg 84 0) (Array.toList (Func.results Tryz.f84)))) (kFinF cfg (Cfg.lift cfg 84 0) (Array.toList (Func.results Tryz.f84))))) (Prod.snd r)) (v, H)) (Array.toList (Func.results (Prod.snd (136, Tryz.f136)))))))
noncomputable def Wk57_0 : List AV × AH → Option AV := fun (p : List AV × AH) => kOpt (LOOP 4 (some [0, 3]) [(3, 4)] Lk57_0 p) Ak57_0
noncomputable def Lk57_1 : Den := evC cfg (EV cfg) 84 none 0 (sub (bodyOf Tryz.f84) [1, 1, 1, 1, 1, 0, 1, 0, 0])
noncomputable def Ak57_1 : Ex × List AV × AH → Option AV := kAft (Cfg.keepOut cfg 84 11) (kRun cfg (EV cfg) (kfN cfg 6) 84 none 0 (kFinF cfg (Cfg.lift cfg 84 0) Tryz.f84.results.toList) ([.block 2, .seq (sub (bodyOf Tryz.f84) [1, 1, 1, 1, 1, 1])]))
noncomputable def Wk57_1 : List AV × AH → Option AV := fun p => kOpt (LOOP 0 (some [3, 7, 29]) ([(7, 1)]) Lk57_1 p) Ak57_1
noncomputable abbrev wk57_0 (nv3 : Nat) (c0_0 : Int) (c0_1 : Int) (c0_2 : List UInt8) (c0_3 : List (List AV)) (c1_0 : Int) (c1_1 : Int) (c2_0 : Int) (c2_1 : Int) (c2_2 : List UInt8) (c2_3 : List (List AV)) (h4 : List (List AV)) : Option (AV) := Wk57_0  (((fx 37 [(0, AV.yld (3 : Nat)), (3, AV.ms (4 : Nat) (0 : Nat) nv3)]) : List AV), ([ABlk.rows false (4 : Nat) [[AV.int IntKind.i64 c0_0, AV.int IntKind.i64 c0_1, AV.str c0_2, AV.sl c0_3]], ABlk.rows false (2 : Nat) [[AV.int IntKind.u64 c1_0, AV.int IntKind.u64 c1_1]], ABlk.rows false (4 : Nat) [[AV.int IntKind.i64 c2_0, AV.int IntKind.i64 c2_1, AV.str c2_2, AV.sl c2_3]], rngB Tryz.f84 (84 : Nat) [(1 : Nat), (1 : Nat), (1 : Nat), (0 : Nat), (1 : Nat), (0 : Nat)] (fx 40 [(3, AV.ptr (1 : Nat) (0 : Nat) (0 : Nat))]) none LoopState.ready, ABlk.rows true (4 : Nat) h4] : AH))
noncomputable abbrev wk57_0a (nv3 : Nat) (c0_0 : Int) (c0_1 : Int) (c0_2 : List UInt8) (c0_3 : List (List AV)) (h1 : List (List AV)) (c2_0 : Int) (c2_1 : Int) (c2_2 : List UInt8) (c2_3 : List (List AV)) (h4 : List (List AV)) : Option (AV) := Wk57_0  (((fx 37 [(0, AV.yld (3 : Nat)), (3, AV.ms (4 : Nat) (0 : Nat) nv3)]) : List AV), ([ABlk.rows false (4 : Nat) [[AV.int IntKind.i64 c0_0, AV.int IntKind.i64 c0_1, AV.str c0_2, AV.sl c0_3]], ABlk.rows true (2 : Nat) h1, ABlk.rows false (4 : Nat) [[AV.int IntKind.i64 c2_0, AV.int IntKind.i64 c2_1, AV.str c2_2, AV.sl c2_3]], rngB Tryz.f84 (84 : Nat) [(1 : Nat), (1 : Nat), (1 : Nat), (0 : Nat), (1 : Nat), (0 : Nat)] (fx 40 [(3, AV.ptr (1 : Nat) (0 : Nat) (0 : Nat))]) none LoopState.ready, ABlk.rows true (4 : Nat) h4] : AH))
noncomputable abbrev wk57_1 (nv7 : Nat) (v29 : Int) (c0_0 : Int) (c0_1 : Int) (h1 : List (List AV)) : Option (AV) := Wk57_1  (((fx 40 [(3, AV.ptr (0 : Nat) (0 : Nat) (0 : Nat)), (7, AV.ms (1 : Nat) (0 : Nat) nv7), (29, AV.int IntKind.i64 v29)]) : List AV), ([ABlk.rows false (2 : Nat) [[AV.int IntKind.u64 c0_0, AV.int IntKind.u64 c0_1]], ABlk.rows true (1 : Nat) h1] : AH))
noncomputable abbrev wk57_1a (nv7 : Nat) (v29 : Int) (h0 : List (List AV)) (h1 : List (List AV)) : Option (AV) := Wk57_1  (((fx 40 [(3, AV.ptr (0 : Nat) (0 : Nat) (0 : Nat)), (7, AV.ms (1 : Nat) (0 : Nat) nv7), (29, AV.int IntKind.i64 v29)]) : List AV), ([ABlk.rows true (2 : Nat) h0, ABlk.rows true (1 : Nat) h1] : AH))
theorem setAdd2_run (n : Int) (r : List AV) {P : MV × List (List AV) → Prop} (h : Gets (bif decide (n < (64 : Int)) then kOpt (List.get?Internal r 0) fun (v : AV) => kInt .u64 v fun (n_1 : Int) => kOpt (fromSem (Op.shift BinOp.shl .u64 (1 : Int) .i64 n)) fun (v : AV) => 
  kInt .u64 v fun (n : Int) => kOpt (fromSem (Op.intBits BinOp.or .u64 n_1 n)) fun (v : AV) => kInt .u64 v fun (n : Int) => bif Nat.ble 1 (List.length r) then some (MV.unit, [AV.int .u64 
  n :: List.drop 1 r]) else none else kOpt (List.get?Internal r 1) fun (v : AV) => kInt .u64 v fun (n_1 : Int) => kOpt (fromSem (Op.shift BinOp.shl .u64 (1 : Int) .i64 (IntKind.wrap .i64 
  (n - (64 : Int))))) fun (v : AV) => kInt .u64 v fun (n : Int) => kOpt (fromSem (Op.intBits BinOp.or .u64 n_1 n)) fun (v : AV) => kInt .u64 v fun (n : Int) => bif Nat.ble 2 (List.length 
  r) then some (MV.unit, [List.append (List.append (List.take 1 r) [AV.int .u64 n]) (List.drop 2 r)]) else none) P) : Gets (EVm (EV cfg) 111 ([AV.ptr (0 : Nat) (0 : Nat) (0 : Nat), AV.int IntKind.i64 n] : List AV) 2 [r]) P :=
  Gets.ev (fun _ h => funM rfl rfl Tryz.func111 rfl h) (Gets.eq (by kernel_rfl) h)
theorem patVars_run (kp : Int) (np : Int) (sp : List UInt8) (lp : List (List AV)) {P : AV → Prop} (h : Gets (kOpt (EVs (EV cfg) 108 [.agg [AV.int .i64 kp, .int .i64 np, .str sp, .sl lp]]) fun (v : AV) => kBool v fun (b : Bool) => bif !b then some (.sl []) else wk57_0 1 kp np sp lp (0 : Int) (0 
  : Int) kp np sp lp [[AV.int .i64 kp, .int .i64 np, .str sp, .sl lp]]) P) : Gets (EVf (EV cfg) 84 ([AV.agg [AV.int IntKind.i64 kp, AV.int IntKind.i64 np, AV.str sp, AV.sl lp]] : List AV)) P :=
  Gets.ev (fun _ h => funF rfl rfl Tryz.func84 rfl h) (Gets.eq (by kernel_rfl) h)
theorem wk57_0_step (nv3 : Nat) (c0_0 : Int) (c0_1 : Int) (c0_2 : List UInt8) (c0_3 : List (List AV)) (c1_0 : Int) (c1_1 : Int) (c2_0 : Int) (c2_1 : Int) (c2_2 : List UInt8) (c2_3 : List (List AV)) (h4 : List (List AV)) {P : AV → Prop} (h : Gets (bif decide ((↑nv3 : Int) > (0 : Int)) then bif leInt (0 : Int) (IntKind.wrap .i64 ((↑nv3 : Int) - (1 : Int))) && ltInt (IntKind.wrap .i64 ((↑nv3 : Int) - (1 : Int))) (↑nv3 : Int) then 
  kOpt (List.get?Internal h4 (0 + Int.toNat (IntKind.wrap .i64 ((↑nv3 : Int) - (1 : Int))))) fun (row : List AV) => bif Nat.ble 4 (List.length row) then kTmC (List.take 4 row) fun (n 
  n_1 : Int) (s : List UInt8) (rows : List (List AV)) => (bif leInt (0 : Int) (IntKind.wrap .i64 ((↑nv3 : Int) - (1 : Int))) && leInt (IntKind.wrap .i64 ((↑nv3 : Int) - (1 : Int))) (↑nv3 
  : Int) then bif n == (7 : Int) then bif rowsOk 4 rows then bif Nat.ble (0 + (Int.toNat (IntKind.wrap .i64 ((↑nv3 : Int) - (1 : Int))) - 0)) (List.length h4) && fitsIn (Int.toNat (IntKind.wrap 
  .i64 ((↑nv3 : Int) - (1 : Int))) - 0 + List.length rows) 56 then wk57_0 (Int.toNat (IntKind.wrap .i64 ((↑nv3 : Int) - (1 : Int))) - 0 + List.length rows) c0_0 c0_1 c0_2 c0_3 c1_0 c1_1 
  c2_0 c2_1 c2_2 c2_3 (List.append (List.take (Int.toNat (IntKind.wrap .i64 ((↑nv3 : Int) - (1 : Int))) - 0) h4) rows) else none else none else bif n == (9 : Int) then bif rowsOk 4 rows 
  then bif Nat.ble (0 + (Int.toNat (IntKind.wrap .i64 ((↑nv3 : Int) - (1 : Int))) - 0)) (List.length h4) && fitsIn (Int.toNat (IntKind.wrap .i64 ((↑nv3 : Int) - (1 : Int))) - 0 + List.length 
  rows) 56 then wk57_0 (Int.toNat (IntKind.wrap .i64 ((↑nv3 : Int) - (1 : Int))) - 0 + List.length rows) c0_0 c0_1 c0_2 c0_3 c1_0 c1_1 c2_0 c2_1 c2_2 c2_3 (List.append (List.take (Int.toNat 
  (IntKind.wrap .i64 ((↑nv3 : Int) - (1 : Int))) - 0) h4) rows) else none else none else kOpt (EVs (EV cfg) 110 [.str s]) fun (v : AV) => kTup v fun (cs : List AV) => kCons cs fun (c : 
  AV) (cs : List AV) => kInt .i64 c fun (n_2 : Int) => kCons cs fun (c : AV) (cs : List AV) => kBool c fun (b : Bool) => kNil cs (bif b then bif n == (2 : Int) then kOpt (EVm (EV cfg) 
  111 [.ptr 0 0 0, .int .i64 n_2] 2 [[AV.int .u64 c1_0, .int .u64 c1_1]]) fun (q : MV × List (List AV)) => kMUnit q.1 (wk57_0a (Int.toNat (IntKind.wrap .i64 ((↑nv3 : Int) - (1 : Int))) - 
  0) c0_0 c0_1 c0_2 c0_3 q.2 c2_0 c2_1 c2_2 c2_3 h4) else wk57_0 (Int.toNat (IntKind.wrap .i64 ((↑nv3 : Int) - (1 : Int))) - 0) c0_0 c0_1 c0_2 c0_3 c1_0 c1_1 c2_0 c2_1 c2_2 c2_3 h4 else 
  wk57_0 (Int.toNat (IntKind.wrap .i64 ((↑nv3 : Int) - (1 : Int))) - 0) c0_0 c0_1 c0_2 c0_3 c1_0 c1_1 c2_0 c2_1 c2_2 c2_3 h4) else none) else none else none else wk57_1 0 (0 : Int) c1_0 
  c1_1 []) P) : Gets (wk57_0 nv3 c0_0 c0_1 c0_2 c0_3 c1_0 c1_1 c2_0 c2_1 c2_2 c2_3 h4) P :=
  Gets.ev (fun _ h => loop_step (cfg := cfg) (f := 136) (rd := none) (bs := 4) h) (Gets.eq (by kernel_rfl) h)
theorem wk57_0a_step (nv3 : Nat) (c0_0 : Int) (c0_1 : Int) (c0_2 : List UInt8) (c0_3 : List (List AV)) (h1 : List (List AV)) (c2_0 : Int) (c2_1 : Int) (c2_2 : List UInt8) (c2_3 : List (List AV)) (h4 : List (List AV)) {P : AV → Prop} (h : Gets (bif decide ((↑nv3 : Int) > (0 : Int)) then bif leInt (0 : Int) (IntKind.wrap .i64 ((↑nv3 : Int) - (1 : Int))) && ltInt (IntKind.wrap .i64 ((↑nv3 : Int) - (1 : Int))) (↑nv3 : Int) then 
  kOpt (List.get?Internal h4 (0 + Int.toNat (IntKind.wrap .i64 ((↑nv3 : Int) - (1 : Int))))) fun (row : List AV) => bif Nat.ble 4 (List.length row) then kTmC (List.take 4 row) fun (n 
  n_1 : Int) (s : List UInt8) (rows : List (List AV)) => (bif leInt (0 : Int) (IntKind.wrap .i64 ((↑nv3 : Int) - (1 : Int))) && leInt (IntKind.wrap .i64 ((↑nv3 : Int) - (1 : Int))) (↑nv3 
  : Int) then bif n == (7 : Int) then bif rowsOk 4 rows then bif Nat.ble (0 + (Int.toNat (IntKind.wrap .i64 ((↑nv3 : Int) - (1 : Int))) - 0)) (List.length h4) && fitsIn (Int.toNat (IntKind.wrap 
  .i64 ((↑nv3 : Int) - (1 : Int))) - 0 + List.length rows) 56 then wk57_0a (Int.toNat (IntKind.wrap .i64 ((↑nv3 : Int) - (1 : Int))) - 0 + List.length rows) c0_0 c0_1 c0_2 c0_3 h1 c2_0 
  c2_1 c2_2 c2_3 (List.append (List.take (Int.toNat (IntKind.wrap .i64 ((↑nv3 : Int) - (1 : Int))) - 0) h4) rows) else none else none else bif n == (9 : Int) then bif rowsOk 4 rows then 
  bif Nat.ble (0 + (Int.toNat (IntKind.wrap .i64 ((↑nv3 : Int) - (1 : Int))) - 0)) (List.length h4) && fitsIn (Int.toNat (IntKind.wrap .i64 ((↑nv3 : Int) - (1 : Int))) - 0 + List.length 
  rows) 56 then wk57_0a (Int.toNat (IntKind.wrap .i64 ((↑nv3 : Int) - (1 : Int))) - 0 + List.length rows) c0_0 c0_1 c0_2 c0_3 h1 c2_0 c2_1 c2_2 c2_3 (List.append (List.take (Int.toNat 
  (IntKind.wrap .i64 ((↑nv3 : Int) - (1 : Int))) - 0) h4) rows) else none else none else kOpt (EVs (EV cfg) 110 [.str s]) fun (v : AV) => kTup v fun (cs : List AV) => kCons cs fun (c : 
  AV) (cs : List AV) => kInt .i64 c fun (n_2 : Int) => kCons cs fun (c : AV) (cs : List AV) => kBool c fun (b : Bool) => kNil cs (bif b then bif n == (2 : Int) then kOpt (EVm (EV cfg) 
  111 [.ptr 0 0 0, .int .i64 n_2] 2 h1) fun (q : MV × List (List AV)) => kMUnit q.1 (wk57_0a (Int.toNat (IntKind.wrap .i64 ((↑nv3 : Int) - (1 : Int))) - 0) c0_0 c0_1 c0_2 c0_3 q.2 c2_0 
  c2_1 c2_2 c2_3 h4) else wk57_0a (Int.toNat (IntKind.wrap .i64 ((↑nv3 : Int) - (1 : Int))) - 0) c0_0 c0_1 c0_2 c0_3 h1 c2_0 c2_1 c2_2 c2_3 h4 else wk57_0a (Int.toNat (IntKind.wrap .i64 
  ((↑nv3 : Int) - (1 : Int))) - 0) c0_0 c0_1 c0_2 c0_3 h1 c2_0 c2_1 c2_2 c2_3 h4) else none) else none else none else wk57_1a 0 (0 : Int) h1 []) P) : Gets (wk57_0a nv3 c0_0 c0_1 c0_2 c0_3 h1 c2_0 c2_1 c2_2 c2_3 h4) P :=
  Gets.ev (fun _ h => loop_step (cfg := cfg) (f := 136) (rd := none) (bs := 4) h) (Gets.eq (by kernel_rfl) h)
theorem wk57_1_step (nv7 : Nat) (v29 : Int) (c0_0 : Int) (c0_1 : Int) (h1 : List (List AV)) {P : AV → Prop} (h : Gets (bif decide (v29 < (100 : Int)) then kOpt (EVs (EV cfg) 112 [AV.cptr [AV.int .u64 c0_0, .int .u64 c0_1] 0, .int .i64 v29]) fun (v : AV) => kBool v fun (b : Bool) => bif b then bif Nat.ble 
  (0 + nv7) (List.length h1) && fitsIn (nv7 + 1) 8 then wk57_1 (nv7 + 1) (IntKind.wrap .i64 (v29 + (1 : Int))) c0_0 c0_1 (List.append (List.take nv7 h1) [[AV.int .i64 v29]]) else none else 
  wk57_1 nv7 (IntKind.wrap .i64 (v29 + (1 : Int))) c0_0 c0_1 h1 else bif Nat.ble (0 + nv7) (List.length h1) && true then some (.sl (List.take nv7 h1)) else none) P) : Gets (wk57_1 nv7 v29 c0_0 c0_1 h1) P :=
  Gets.ev (fun _ h => loop_step (cfg := cfg) (f := 84) (rd := none) (bs := 0) h) (Gets.eq (by kernel_rfl) h)
theorem wk57_1a_step (nv7 : Nat) (v29 : Int) (h0 : List (List AV)) (h1 : List (List AV)) {P : AV → Prop} (h : Gets (bif decide (v29 < (100 : Int)) then kOpt (List.get?Internal h0 0) fun (row : List AV) => bif refsLtL 0 row then bif refsLtL 0 [AV.cptr row 0, .int .i64 v29] then kOpt (EVs (EV cfg) 
  112 [AV.cptr row 0, .int .i64 v29]) fun (v : AV) => kBool v fun (b : Bool) => bif b then bif Nat.ble (0 + nv7) (List.length h1) && fitsIn (nv7 + 1) 8 then wk57_1a (nv7 + 1) (IntKind.wrap 
  .i64 (v29 + (1 : Int))) h0 (List.append (List.take nv7 h1) [[AV.int .i64 v29]]) else none else wk57_1a nv7 (IntKind.wrap .i64 (v29 + (1 : Int))) h0 h1 else none else none else bif Nat.ble 
  (0 + nv7) (List.length h1) && true then some (.sl (List.take nv7 h1)) else none) P) : Gets (wk57_1a nv7 v29 h0 h1) P :=
  Gets.ev (fun _ h => loop_step (cfg := cfg) (f := 84) (rd := none) (bs := 0) h) (Gets.eq (by kernel_rfl) h)
end Go.Proofs.YtonmmmgffeoiiaaGreat
end

section
namespace Go.Av
def varsV (q : Nat → Bool) : AV := .sl (intsR (((List.range 100).filter q).map Int.ofNat))
theorem len_wL : ∀ l : List Tm, l.length ≤ wL l
  | [] => Nat.le_refl _
  | t :: l => by rw [wL_cons, List.length_cons]; have := w_pos t; have := len_wL l; omega
theorem setZero : SetRow (fun _ => false) [.int .u64 0, .int .u64 0] := ⟨0, 0, [], rfl, by decide, by decide, fun n _ => Nat.zero_testBit n, fun n _ => Nat.zero_testBit n⟩
theorem rowsOk_of_cells (x : Tm) : rowsOk 4 (rowsT x.subs) = true := rowsOk_rowsT _
end Go.Av
namespace Go.Proofs.YtonmmmgffeoiiaaGreat
open Go.Av
theorem setAdd2_ev {p : Nat → Bool} {r : List AV} (h : SetRow p r) {n : Nat} (hn : n < 100) : ∃ r', EVm (EV cfg) 111 [.ptr 0 0 0, .int .i64 n] 2 [r] = some (.unit, [r']) ∧
    SetRow (fun i => p i || decide (i = n)) r' ∧ r'.drop 2 = r.drop 2 ∧ r'.length = r.length ∧ (refsLtL 0 r = true → refsLtL 0 r' = true) := by
  obtain ⟨lo, hi, l, rfl, h1, h2, h3, h4⟩ := h
  have pw : ∀ {k : Nat}, k < 64 → 2 ^ k < 18446744073709551616 := by
    intro k hk
    have : 2 ^ k < 2 ^ 64 := Nat.pow_lt_pow_right (by omega) hk
    simpa using this
  have orlt : ∀ {a b : Nat}, a < 18446744073709551616 → b < 18446744073709551616 → a ||| b < 18446744073709551616 := by
    intro a b ha hb
    have := Nat.or_lt_two_pow (n := 64) (by simpa using ha) (by simpa using hb)
    simpa using this
  have bit : ∀ {a k i : Nat}, (a ||| 2 ^ k).testBit i = (a.testBit i || decide (i = k)) := by
    intro a k i
    rw [Nat.testBit_or, Nat.testBit_two_pow]
    congr 1
    exact decide_eq_decide.2 ⟨fun h => h.symm, fun h => h.symm⟩
  by_cases hs : n < 64
  · refine ⟨.int .u64 ((lo ||| 2 ^ n : Nat) : Int) :: .int .u64 hi :: l, ?_, ⟨_, hi, l, rfl, orlt h1 (pw hs), h2, fun i hi => ?_, fun i hi => ?_⟩, rfl, rfl, fun h => h⟩
    · apply Gets.get
      refine setAdd2_run _ _ ?_
      rw [decide_eq_true (show (n : Int) < 64 by omega)]
      simp only [cond_true, get?Internal_eq, List.getElem?_cons_zero, kOptSome, kInt_int, shl_one hs, or_bits h1 (pw hs)]
      exact ⟨_, rfl, rfl⟩
    · rw [bit, h3 i hi]
    · have : decide (i + 64 = n) = false := decide_eq_false (by omega)
      rw [h4 i hi]
      show p (i + 64) = (p (i + 64) || decide (i + 64 = n))
      rw [this, Bool.or_false]
  · obtain ⟨k, rfl⟩ : ∃ k, n = k + 64 := ⟨n - 64, by omega⟩
    have hk : k < 64 := by omega
    have w : IntKind.wrap .i64 (((k + 64 : Nat) : Int) - 64) = (k : Int) := by rw [wrap64 (by omega) (by omega)]; omega
    refine ⟨.int .u64 lo :: .int .u64 ((hi ||| 2 ^ k : Nat) : Int) :: l, ?_, ⟨lo, _, l, rfl, h1, orlt h2 (pw hk), fun i hi => ?_, fun i hi => ?_⟩, rfl, rfl, fun h => h⟩
    · apply Gets.get
      refine setAdd2_run _ _ ?_
      rw [decide_eq_false (show ¬ ((k + 64 : Nat) : Int) < 64 by omega), w]
      simp only [cond_false, get?Internal_eq, List.getElem?_cons_succ, List.getElem?_cons_zero, kOptSome, kInt_int, shl_one hk, or_bits h2 (pw hk)]
      exact ⟨_, rfl, rfl⟩
    · have : decide (i = k + 64) = false := decide_eq_false (by omega)
      rw [h3 i hi]
      show p i = (p i || decide (i = k + 64))
      rw [this, Bool.or_false]
    · rw [bit, h4 i hi]
      congr 1
      exact decide_eq_decide.2 (by omega)
theorem vars_end {q : Nat → Bool} {s : List AV} (h : SetRow q s) (h2 : s.length = 2) : Gets (wk57_1a 0 0 [s] []) (· = varsV q) := by
  have hf : refsLtL 0 s = true := by
    obtain ⟨lo, hi, l, rfl, _⟩ := h
    cases l with
    | nil => rfl
    | cons a l => simp at h2
  have hg : ∀ n : Int, refsLtL 0 [AV.cptr s 0, .int .i64 n] = true := by
    intro n
    obtain ⟨lo, hi, l, rfl, _⟩ := h
    cases l with
    | nil => rfl
    | cons a l => simp at h2
  have loop : ∀ d i : Nat, i + d = 100 → Gets (wk57_1a ((List.range i).filter q).length i [s] (intsR (((List.range i).filter q).map Int.ofNat))) (· = varsV q) := by
    intro d
    induction d with
    | zero =>
      intro i hi
      obtain rfl : i = 100 := by omega
      refine wk57_1a_step _ _ _ _ ?_
      have e1 : Nat.ble (0 + ((List.range 100).filter q).length) (intsR (((List.range 100).filter q).map Int.ofNat)).length = true := by rw [Nat.ble_eq, intsR_len, List.length_map]; omega
      have e2 : List.take ((List.range 100).filter q).length (intsR (((List.range 100).filter q).map Int.ofNat)) = intsR (((List.range 100).filter q).map Int.ofNat) := List.take_of_length_le (by rw [intsR_len, List.length_map]; exact Nat.le_refl _)
      rw [show decide (((100 : Nat) : Int) < 100) = false from rfl, e1, e2]
      exact ⟨_, rfl, rfl⟩
    | succ d ih =>
      intro i hi
      have h1 := ih (i + 1) (by omega)
      rw [List.range_succ, List.filter_append] at h1
      refine wk57_1a_step _ _ _ _ ?_
      have hle : ((List.range i).filter q).length ≤ i := by have := List.length_filter_le q (List.range i); rw [List.length_range] at this; exact this
      have e1 : Nat.ble (0 + ((List.range i).filter q).length) (intsR (((List.range i).filter q).map Int.ofNat)).length = true := by rw [Nat.ble_eq, intsR_len, List.length_map]; omega
      have e2 : List.take ((List.range i).filter q).length (intsR (((List.range i).filter q).map Int.ofNat)) = intsR (((List.range i).filter q).map Int.ofNat) := List.take_of_length_le (by rw [intsR_len, List.length_map]; exact Nat.le_refl _)
      have e3 : IntKind.wrap .i64 ((i : Int) + 1) = ((i + 1 : Nat) : Int) := by rw [wrap64 (by omega) (by omega)]; omega
      rw [decide_eq_true (show (i : Int) < 100 by omega), get?Internal_eq, List.getElem?_cons_zero, e1, e2, e3, fits8 (by omega)]
      simp only [cond_true, kOptSome, kBool_bool, hf, hg, Bool.and_self, setHas_ev h (show i < 100 by omega)]
      cases hq : q i with
      | true =>
        rw [List.filter_cons_of_pos hq, List.filter_nil, List.map_append, List.length_append] at h1
        rw [cond_true]
        have e4 : intsR (((List.range i).filter q).map Int.ofNat ++ [i].map Int.ofNat) = List.append (intsR (((List.range i).filter q).map Int.ofNat)) [[AV.int .i64 i]] := by
          unfold intsR; rw [List.map_append]; rfl
        rw [e4] at h1
        exact h1
      | false =>
        rw [List.filter_cons_of_neg (by rw [hq]; decide), List.filter_nil, List.append_nil] at h1
        rw [cond_false]
        exact h1
  exact loop 100 0 rfl
theorem vars_end0 : Gets (wk57_1 0 0 0 0 []) (· = varsV fun i => ([] : List Tm).any (varIn (i : Nat))) := by
  have loop : ∀ d i : Nat, i + d = 100 → Gets (wk57_1 0 i 0 0 []) (· = varsV fun i => ([] : List Tm).any (varIn (i : Nat))) := by
    intro d
    induction d with
    | zero =>
      intro i hi
      obtain rfl : i = 100 := by omega
      refine wk57_1_step _ _ _ _ _ ?_
      rw [show decide (((100 : Nat) : Int) < 100) = false from rfl]
      exact ⟨_, rfl, rfl⟩
    | succ d ih =>
      intro i hi
      refine wk57_1_step _ _ _ _ _ ?_
      have e3 : IntKind.wrap .i64 ((i : Int) + 1) = ((i + 1 : Nat) : Int) := by rw [wrap64 (by omega) (by omega)]; omega
      rw [decide_eq_true (show (i : Int) < 100 by omega), setHas_ev setZero (show i < 100 by omega), e3]
      simp only [cond_true, kOptSome, kBool_bool, cond_false]
      exact ih (i + 1) (by omega)
  exact loop 100 0 rfl
theorem vars_loopa {p : Tm} : ∀ (n : Nat) (R : List Tm) (h4 : List (List AV)) (s : List AV) (q : Nat → Bool), wL R ≤ n → n < 1099511627776 → R.length ≤ h4.length → h4.take R.length = rowsT R → SetRow q s → s.length = 2 → 
    Gets (wk57_0a R.length p.kind p.num p.str (rowsT p.subs) [s] p.kind p.num p.str (rowsT p.subs) h4) (· = varsV fun i => q i || R.any (varIn (i : Nat))) := by
  intro n
  induction n with
  | zero =>
    intro R h4 s q hw hn hl ht hs hs2
    have hR : R = [] := by
      cases R with
      | nil => rfl
      | cons x l => rw [wL_cons] at hw; have := w_pos x; omega
    subst hR
    refine wk57_0a_step _ _ _ _ _ _ _ _ _ _ _ ?_
    have : decide (((([] : List Tm).length : Nat) : Int) > 0) = false := rfl
    rw [this, cond_false]
    exact vars_end (by simpa using hs) hs2
  | succ n ih =>
    intro R h4 s q hw hn hl ht hs hs2
    rcases List.eq_nil_or_concat R with rfl | ⟨R', x, hR⟩
    · refine wk57_0a_step _ _ _ _ _ _ _ _ _ _ _ ?_
      have : decide (((([] : List Tm).length : Nat) : Int) > 0) = false := rfl
      rw [this, cond_false]
      exact vars_end (by simpa using hs) hs2
    · obtain rfl : R = R' ++ [x] := by rw [hR]; simp
      clear hR
      rw [wL_append, wL_cons, wL_nil] at hw
      have hx := w_pos x
      have hwe := x.w_eq
      have hRl := len_wL R'
      rw [List.length_append, List.length_singleton] at hl ht ⊢
      refine wk57_0a_step _ _ _ _ _ _ _ _ _ _ _ ?_
      have g0 : decide (((R'.length + 1 : Nat) : Int) > 0) = true := decide_eq_true (by omega)
      have g1 : IntKind.wrap .i64 (((R'.length + 1 : Nat) : Int) - 1) = (R'.length : Int) := by rw [wrap64 (by omega) (by omega)]; omega
      have g2 : ltInt (R'.length : Int) ((R'.length + 1 : Nat) : Int) = true := decide_eq_true (by omega)
      have g3 : leInt (R'.length : Int) ((R'.length + 1 : Nat) : Int) = true := decide_eq_true (by omega)
      have g4 : h4[R'.length]? = some x.cells := by
        have : (h4.take (R'.length + 1))[R'.length]? = some x.cells := by
          rw [ht, rowsT_get]; simp
        rwa [List.getElem?_take, if_pos (by omega)] at this
      have g5 : h4.take R'.length = rowsT R' := by
        have : (h4.take (R'.length + 1)).take R'.length = rowsT R' := by
          rw [ht, rowsT_append]
          exact List.take_left' (rowsT_length R')
        rwa [List.take_take, Nat.min_eq_left (by omega)] at this
      have g6 : Nat.ble (0 + R'.length) h4.length = true := by rw [Nat.ble_eq]; omega
      rw [g0, g1, leInt_zero, g2, g3, get?Internal_eq, Int.toNat_natCast, Nat.zero_add, g4, Nat.sub_zero]
      simp only [cond_true, Bool.and_self, kOptSome, length_cells, take_cells, kTmC_cells, ble44, rowsT_length, g5, rowsOk_of_cells]
      have push : (x.kind = 7 ∨ x.kind = 9) → Gets (wk57_0a (R'.length + x.subs.length) p.kind p.num p.str (rowsT p.subs) [s] p.kind p.num p.str (rowsT p.subs) (List.append (rowsT R') (rowsT x.subs))) (· = varsV fun i => q i || (R' ++ [x]).any (varIn (i : Nat))) := by
        intro hk
        have hl := len_wL x.subs
        have h := ih (R' ++ x.subs) (rowsT (R' ++ x.subs)) s q (by rw [wL_append]; omega) (by omega) (by rw [rowsT_length]; exact Nat.le_refl _) (List.take_of_length_le (by simp)) hs hs2
        rw [List.length_append] at h
        rw [show List.append (rowsT R') (rowsT x.subs) = rowsT (R' ++ x.subs) from (rowsT_append _ _).symm]
        refine Gets.mono h ?_
        rintro _ rfl
        apply congrArg varsV
        funext i
        rw [List.any_append, List.any_append, List.any_cons, List.any_nil, Bool.or_false, varIn_eq _ x, if_pos hk]
      have drop : (¬ (x.kind = 7 ∨ x.kind = 9)) → ¬ (x.kind = 2 ∧ (varG x.str).isSome) → Gets (wk57_0a R'.length p.kind p.num p.str (rowsT p.subs) [s] p.kind p.num p.str (rowsT p.subs) h4) (· = varsV fun i => q i || (R' ++ [x]).any (varIn (i : Nat))) := by
        intro hk hv
        refine Gets.mono (ih R' h4 s q (by omega) (by omega) (by omega) g5 hs hs2) ?_
        rintro _ rfl
        apply congrArg varsV
        funext i
        have : varIn (i : Nat) x = false := by
          rw [varIn_eq, if_neg hk]
          by_cases h2 : x.kind = 2
          · rw [decide_eq_true h2, Bool.true_and, decide_eq_false]
            intro h
            exact hv ⟨h2, by rw [h]; rfl⟩
          · rw [decide_eq_false h2, Bool.false_and]
        rw [List.any_append, List.any_cons, List.any_nil, this, Bool.or_false, Bool.or_false]
      rw [beqI, beqI, beqI, patNumber_ev, g6]
      by_cases h7 : x.kind = 7
      · rw [decide_eq_true h7]
        simp only [cond_true, Bool.true_and, fits56 (show R'.length + x.subs.length ≤ 1099511627776 by have := len_wL x.subs; omega)]
        exact push (.inl h7)
      rw [decide_eq_false h7, cond_false]
      by_cases h9 : x.kind = 9
      · rw [decide_eq_true h9]
        simp only [cond_true, Bool.true_and, fits56 (show R'.length + x.subs.length ≤ 1099511627776 by have := len_wL x.subs; omega)]
        exact push (.inr h9)
      rw [decide_eq_false h9, cond_false]
      have hk : ¬ (x.kind = 7 ∨ x.kind = 9) := by omega
      unfold varR
      simp only [kOptSome, kTup, kCons, kInt_int, kBool_bool, kNil]
      cases hv : varG x.str with
      | none =>
        rw [hv] at drop
        exact drop hk (by simp)
      | some v =>
        by_cases h2 : x.kind = 2
        · rw [decide_eq_true h2]
          obtain ⟨hv0, hv9⟩ := varG_in hv
          obtain ⟨m, rfl⟩ : ∃ m : Nat, v = m := ⟨v.toNat, by omega⟩
          obtain ⟨r', hr1, hr2, hr3, hr4, hr5⟩ := setAdd2_ev hs (n := m) (by omega)
          simp only [Option.getD_some, Option.isSome_some, cond_true, hr1, kOptSome, kMUnit]
          refine Gets.mono (ih R' h4 r' _ (by omega) (by omega) (by omega) g5 hr2 (by rw [hr4]; exact hs2)) ?_
          rintro _ rfl
          apply congrArg varsV
          funext i
          have : varIn (i : Nat) x = decide (i = m) := by
            rw [varIn_eq, if_neg hk, decide_eq_true h2, Bool.true_and, hv]
            exact decide_eq_decide.2 ⟨fun h => by cases h; rfl, fun h => by rw [h]⟩
          rw [List.any_append, List.any_cons, List.any_nil, this, Bool.or_false]
          cases q i <;> cases decide (i = m) <;> cases R'.any (varIn (i : Nat)) <;> rfl
        · rw [decide_eq_false h2]
          exact drop hk (fun h => h2 h.1)
theorem vars_loop {p : Tm} : ∀ (n : Nat) (R : List Tm) (h4 : List (List AV)) , wL R ≤ n → n < 1099511627776 → R.length ≤ h4.length → h4.take R.length = rowsT R → 
    Gets (wk57_0 R.length p.kind p.num p.str (rowsT p.subs) 0 0 p.kind p.num p.str (rowsT p.subs) h4) (· = varsV fun i => R.any (varIn (i : Nat))) := by
  intro n
  induction n with
  | zero =>
    intro R h4  hw hn hl ht 
    have hR : R = [] := by
      cases R with
      | nil => rfl
      | cons x l => rw [wL_cons] at hw; have := w_pos x; omega
    subst hR
    refine wk57_0_step _ _ _ _ _ _ _ _ _ _ _ _ ?_
    have : decide (((([] : List Tm).length : Nat) : Int) > 0) = false := rfl
    rw [this, cond_false]
    exact vars_end0
  | succ n ih =>
    intro R h4  hw hn hl ht 
    rcases List.eq_nil_or_concat R with rfl | ⟨R', x, hR⟩
    · refine wk57_0_step _ _ _ _ _ _ _ _ _ _ _ _ ?_
      have : decide (((([] : List Tm).length : Nat) : Int) > 0) = false := rfl
      rw [this, cond_false]
      exact vars_end0
    · obtain rfl : R = R' ++ [x] := by rw [hR]; simp
      clear hR
      rw [wL_append, wL_cons, wL_nil] at hw
      have hx := w_pos x
      have hwe := x.w_eq
      have hRl := len_wL R'
      rw [List.length_append, List.length_singleton] at hl ht ⊢
      refine wk57_0_step _ _ _ _ _ _ _ _ _ _ _ _ ?_
      have g0 : decide (((R'.length + 1 : Nat) : Int) > 0) = true := decide_eq_true (by omega)
      have g1 : IntKind.wrap .i64 (((R'.length + 1 : Nat) : Int) - 1) = (R'.length : Int) := by rw [wrap64 (by omega) (by omega)]; omega
      have g2 : ltInt (R'.length : Int) ((R'.length + 1 : Nat) : Int) = true := decide_eq_true (by omega)
      have g3 : leInt (R'.length : Int) ((R'.length + 1 : Nat) : Int) = true := decide_eq_true (by omega)
      have g4 : h4[R'.length]? = some x.cells := by
        have : (h4.take (R'.length + 1))[R'.length]? = some x.cells := by
          rw [ht, rowsT_get]; simp
        rwa [List.getElem?_take, if_pos (by omega)] at this
      have g5 : h4.take R'.length = rowsT R' := by
        have : (h4.take (R'.length + 1)).take R'.length = rowsT R' := by
          rw [ht, rowsT_append]
          exact List.take_left' (rowsT_length R')
        rwa [List.take_take, Nat.min_eq_left (by omega)] at this
      have g6 : Nat.ble (0 + R'.length) h4.length = true := by rw [Nat.ble_eq]; omega
      rw [g0, g1, leInt_zero, g2, g3, get?Internal_eq, Int.toNat_natCast, Nat.zero_add, g4, Nat.sub_zero]
      simp only [cond_true, Bool.and_self, kOptSome, length_cells, take_cells, kTmC_cells, ble44, rowsT_length, g5, rowsOk_of_cells]
      have push : (x.kind = 7 ∨ x.kind = 9) → Gets (wk57_0 (R'.length + x.subs.length) p.kind p.num p.str (rowsT p.subs) 0 0 p.kind p.num p.str (rowsT p.subs) (List.append (rowsT R') (rowsT x.subs))) (· = varsV fun i => (R' ++ [x]).any (varIn (i : Nat))) := by
        intro hk
        have hl := len_wL x.subs
        have h := ih (R' ++ x.subs) (rowsT (R' ++ x.subs))  (by rw [wL_append]; omega) (by omega) (by rw [rowsT_length]; exact Nat.le_refl _) (List.take_of_length_le (by simp)) 
        rw [List.length_append] at h
        rw [show List.append (rowsT R') (rowsT x.subs) = rowsT (R' ++ x.subs) from (rowsT_append _ _).symm]
        refine Gets.mono h ?_
        rintro _ rfl
        apply congrArg varsV
        funext i
        rw [List.any_append, List.any_append, List.any_cons, List.any_nil, Bool.or_false, varIn_eq _ x, if_pos hk]
      have drop : (¬ (x.kind = 7 ∨ x.kind = 9)) → ¬ (x.kind = 2 ∧ (varG x.str).isSome) → Gets (wk57_0 R'.length p.kind p.num p.str (rowsT p.subs) 0 0 p.kind p.num p.str (rowsT p.subs) h4) (· = varsV fun i => (R' ++ [x]).any (varIn (i : Nat))) := by
        intro hk hv
        refine Gets.mono (ih R' h4  (by omega) (by omega) (by omega) g5 ) ?_
        rintro _ rfl
        apply congrArg varsV
        funext i
        have : varIn (i : Nat) x = false := by
          rw [varIn_eq, if_neg hk]
          by_cases h2 : x.kind = 2
          · rw [decide_eq_true h2, Bool.true_and, decide_eq_false]
            intro h
            exact hv ⟨h2, by rw [h]; rfl⟩
          · rw [decide_eq_false h2, Bool.false_and]
        rw [List.any_append, List.any_cons, List.any_nil, this, Bool.or_false, Bool.or_false]
      rw [beqI, beqI, beqI, patNumber_ev, g6]
      by_cases h7 : x.kind = 7
      · rw [decide_eq_true h7]
        simp only [cond_true, Bool.true_and, fits56 (show R'.length + x.subs.length ≤ 1099511627776 by have := len_wL x.subs; omega)]
        exact push (.inl h7)
      rw [decide_eq_false h7, cond_false]
      by_cases h9 : x.kind = 9
      · rw [decide_eq_true h9]
        simp only [cond_true, Bool.true_and, fits56 (show R'.length + x.subs.length ≤ 1099511627776 by have := len_wL x.subs; omega)]
        exact push (.inr h9)
      rw [decide_eq_false h9, cond_false]
      have hk : ¬ (x.kind = 7 ∨ x.kind = 9) := by omega
      unfold varR
      simp only [kOptSome, kTup, kCons, kInt_int, kBool_bool, kNil]
      cases hv : varG x.str with
      | none =>
        rw [hv] at drop
        exact drop hk (by simp)
      | some v =>
        by_cases h2 : x.kind = 2
        · rw [decide_eq_true h2]
          obtain ⟨hv0, hv9⟩ := varG_in hv
          obtain ⟨m, rfl⟩ : ∃ m : Nat, v = m := ⟨v.toNat, by omega⟩
          obtain ⟨r', hr1, hr2, hr3, hr4, hr5⟩ := setAdd2_ev setZero (n := m) (by omega)
          simp only [Option.getD_some, Option.isSome_some, cond_true, hr1, kOptSome, kMUnit]
          refine Gets.mono (vars_loopa n R' h4 r' _ (by omega) (by omega) (by omega) g5 hr2 (by rw [hr4]; rfl)) ?_
          rintro _ rfl
          apply congrArg varsV
          funext i
          have : varIn (i : Nat) x = decide (i = m) := by
            rw [varIn_eq, if_neg hk, decide_eq_true h2, Bool.true_and, hv]
            exact decide_eq_decide.2 ⟨fun h => by cases h; rfl, fun h => by rw [h]⟩
          rw [List.any_append, List.any_cons, List.any_nil, this, Bool.or_false]
          cases decide (i = m) <;> cases R'.any (varIn (i : Nat)) <;> rfl
        · rw [decide_eq_false h2]
          exact drop hk (fun h => h2 h.1)
theorem patVars_ev {t : Tm} (h : t.w < 1099511627776) : EVf (EV cfg) 84 [t.av] = some (.sl (intsR (varsG t))) := by
  have hm := patMay_ev h
  apply Gets.get
  rw [Tm.av, Tm.cells_eq] at hm ⊢
  refine patVars_run _ _ _ _ ?_
  rw [hm]
  simp only [kOptSome, kBool_bool]
  unfold varsG
  by_cases hc : t.chk = 0
  · rw [decide_eq_true hc, if_pos hc]
    have hl := vars_loop (p := t) t.w [t] [t.cells] (by rw [wL_cons, wL_nil]; exact Nat.le_refl _) h (Nat.le_refl _) rfl
    rw [Tm.cells_eq] at hl
    refine Gets.mono hl ?_
    rintro _ rfl
    unfold varsV
    have : (fun i : Nat => [t].any (varIn (i : Nat))) = fun i : Nat => varIn (i : Nat) t := by funext i; simp
    rw [this]
  · rw [decide_eq_false hc, if_neg hc]
    exact ⟨_, rfl, rfl⟩
end Go.Proofs.YtonmmmgffeoiiaaGreat
end

section
namespace Go.Av
theorem rowsT_at' {l : List Tm} {i : Nat} {t : Tm} (h : l[i]? = some t) : List.get?Internal (rowsT l) (Int.toNat (i : Int)) = some t.cells := by
  rw [get?Internal_eq, Int.toNat_natCast, rowsT_get, h]; rfl
def MOut (o : Option (List (Int × Tm))) (b : Bool) (r : List AV) : Prop := match o with
  | some m => b = true ∧ BRow m r ∧ ∀ q ∈ m, q.2.chk = 0
  | none => b = false
def QM (o : Option (List (Int × Tm))) (q : MV × List (List AV)) : Prop := ∃ b r, q = (MV.bool b, [r]) ∧ MOut o b r
theorem QM.same {p t : Tm} {m : List (Int × Tm)} {r : List AV} (h : BRow m r) (hm : ∀ q ∈ m, q.2.chk = 0) : QM (if p = t then some m else none) (MV.bool (decide (p = t)), [r]) := by
  refine ⟨_, r, rfl, ?_⟩
  by_cases h1 : p = t
  · rw [if_pos h1, decide_eq_true h1]; exact ⟨rfl, h, hm⟩
  · rw [if_neg h1, decide_eq_false h1]; exact rfl
end Go.Av
namespace Go.Proofs.YtonmmmgffeoiiaaGreat
open Go.Av
set_option maxRecDepth 100000
end Go.Proofs.YtonmmmgffeoiiaaGreat
end

section
namespace Go.Proofs.YtonmmmgffeoiiaaGreat
open Go.Av
set_option maxRecDepth 100000
set_option maxHeartbeats 0

noncomputable def Lf28_0 : Den := evC cfg (EV cfg) 82 none 10 (sub (bodyOf Tryz.f82) [0, 0, 0])
noncomputable def Af28_0 : Ex × List AV × AH → Option (OV × AV) := kAft (Cfg.keepOut cfg 82 (firstRid (sub (bodyOf Tryz.f82) [0, 0, 0]))) (kBlock 0 (kSeq (fun (fr : List AV) (H : AH) => kCutTo (Cfg.cut cfg 82 (firstRid (sub (bodyOf Tryz.f82) [1]))) fr H fun (fr : List AV) (H : AH) => kCode cfg (EV cfg) (kfN cfg (5)) 55 none 10 (sub (bodyOf Tryz.f82) [1]) fr H (kFinG cfg (Cfg.lift cfg 82 0) (fun (v : AV) (H : AH) => (fun (r : AV × AH) => kRangeEnd 0 9 (fx 34 [(2, AV.ptr 1 0 0), (3, AV.ptr 2 0 0), (4, AV.ptr 3 0 0), (5, AV.ptr 4 0 0)]) (kBlock 0 (kSeq (fun (fr : List AV) (H : AH) => kCutTo (Cfg.cut cfg 41 (firstRid (sub (bodyOf Tryz.f41) [1, 1, 1, 1, 1]))) fr H fun (fr : List AV) (H : AH) => kCode cfg (EV cfg) (kfN cfg 6) 41 none 0 (sub (bodyOf Tryz.f41) [1, 1, 1, 1, 1]) fr H (kFinQ cfg (Cfg.lift cfg 41 0) (Array.toList (Func.results Tryz.f41)))) (kFinQ cfg (Cfg.lift cfg 41 0) (Array.toList (Func.results Tryz.f41))))) (Prod.snd r)) (v, H)) (Array.toList (Func.results (Prod.snd (82, Tryz.f82)))))) (kFinG cfg (Cfg.lift cfg 82 0) (fun (v : AV) (H : AH) => (fun (r : AV × AH) => kRangeEnd 0 9 (fx 34 [(2, AV.ptr 1 0 0), (3, AV.ptr 2 0 0), (4, AV.ptr 3 0 0), (5, AV.ptr 4 0 0)]) (kBlock 0 (kSeq (fun (fr : List AV) (H : AH) => kCutTo (Cfg.cut cfg 41 (firstRid (sub (bodyOf Tryz.f41) [1, 1, 1, 1, 1]))) fr H fun (fr : List AV) (H : AH) => kCode cfg (EV cfg) (kfN cfg 6) 41 none 0 (sub (bodyOf Tryz.f41) [1, 1, 1, 1, 1]) fr H (kFinQ cfg (Cfg.lift cfg 41 0) (Array.toList (Func.results Tryz.f41)))) (kFinQ cfg (Cfg.lift cfg 41 0) (Array.toList (Func.results Tryz.f41))))) (Prod.snd r)) (v, H)) (Array.toList (Func.results (Prod.snd (82, Tryz.f82)))))))
noncomputable def Wf28_0 : List AV × AH → Option (OV × AV) := fun (p : List AV × AH) => kOpt (LOOP 10 (some [0, 1, 2]) [] Lf28_0 p) Af28_0
noncomputable def Lf42_0 : Den := evC cfg (EV cfg) 62 none 0 (sub (bodyOf Tryz.f62) [1, 1, 1, 1, 1, 1, 1, 1, 0, 1, 0, 0])
noncomputable def Af42_0 : Ex × List AV × AH → Option AV := kAft (Cfg.keepOut cfg 62 11) (kRun cfg (EV cfg) (kfN cfg 6) 62 none 0 (kFinF cfg (Cfg.lift cfg 62 0) Tryz.f62.results.toList) ([.block 0, .seq (sub (bodyOf Tryz.f62) [1, 1, 1, 1, 1, 1, 1, 1, 1])]))
noncomputable def Wf42_0 : List AV × AH → Option AV := fun p => kOpt (LOOP 0 (some [2, 4, 5, 73, 74]) ([]) Lf42_0 p) Af42_0
noncomputable def Lf42_1 : Den := evC cfg (EV cfg) 62 none 0 (sub (bodyOf Tryz.f62) [1, 1, 1, 1, 1, 1, 1, 1, 0, 1, 0, 0, 1, 1, 0, 0, 1, 1, 0, 0])
noncomputable def Af42_1 : Ex × List AV × AH → Option AV := kAft (Cfg.keepOut cfg 62 14) (kRun cfg (EV cfg) (kfN cfg 6) 62 none 0 (kLp 0 (some [2, 4, 5, 73, 74]) ([]) Lf42_0 Af42_0) ([.block 2, .block 1, .seq (sub (bodyOf Tryz.f62) [1, 1, 1, 1, 1, 1, 1, 1, 0, 1, 0, 0, 1, 1, 1])]))
noncomputable def Wf42_1 : List AV × AH → Option AV := fun p => kOpt (LOOP 0 (some [2, 4, 5, 73, 74, 77, 78, 79]) ([]) Lf42_1 p) Af42_1
noncomputable abbrev wf28_0 (c0_0 : Int) (c0_1 : Int) (c0_2 : List UInt8) (c0_3 : List (List AV)) (nc1_0 : Nat) (c2_0 : Int) (nc3_0 : Nat) (c4_0 : Bool) (c5_0 : Int) (c5_1 : Int) (c5_2 : List UInt8) (c5_3 : List (List AV)) (h7 : List (List AV)) (h8 : List (List AV)) : Option (OV × AV) := Wf28_0  (((fx 23 [(0, AV.yld (9 : Nat)), (1, AV.ptr (5 : Nat) (0 : Nat) (0 : Nat)), (2, AV.ptr (6 : Nat) (0 : Nat) (0 : Nat))]) : List AV), ([ABlk.rows false (4 : Nat) [[AV.int IntKind.i64 c0_0, AV.int IntKind.i64 c0_1, AV.str c0_2, AV.sl c0_3]], ABlk.rows false (1 : Nat) [[AV.ms (7 : Nat) (0 : Nat) nc1_0]], ABlk.rows false (1 : Nat) [[AV.int IntKind.i64 c2_0]], ABlk.rows false (1 : Nat) [[AV.ms (8 : Nat) (0 : Nat) nc3_0]], ABlk.rows false (1 : Nat) [[AV.bool c4_0]], ABlk.rows false (4 : Nat) [[AV.int IntKind.i64 c5_0, AV.int IntKind.i64 c5_1, AV.str c5_2, AV.sl c5_3]], ABlk.rows false (1 : Nat) [[AV.ptr (4 : Nat) (0 : Nat) (0 : Nat)]], ABlk.rows true (6 : Nat) h7, ABlk.rows true (6 : Nat) h8, rngB Tryz.f41 (41 : Nat) [(1 : Nat), (1 : Nat), (1 : Nat), (1 : Nat), (0 : Nat), (1 : Nat), (0 : Nat)] (fx 34 [(2, AV.ptr (1 : Nat) (0 : Nat) (0 : Nat)), (3, AV.ptr (2 : Nat) (0 : Nat) (0 : Nat)), (4, AV.ptr (3 : Nat) (0 : Nat) (0 : Nat))]) none LoopState.ready] : AH))
noncomputable abbrev wf42_0 (n : Int) (n' : Int) (s : List UInt8) (rows : List (List AV)) (rows' : List (List AV)) (rows'' : List (List AV)) (rows''' : List (List AV)) : Option (AV) := Wf42_0  (((fx 91 [(2, AV.ptr (0 : Nat) (0 : Nat) (0 : Nat)), (4, AV.ptr (1 : Nat) (0 : Nat) (0 : Nat)), (5, AV.sl rows'), (73, AV.agg [AV.sl rows'', AV.sl rows''']), (74, AV.int IntKind.i64 (0 : Int))]) : List AV), ([ABlk.rows false (6 : Nat) [[AV.int IntKind.i64 (0 : Int), AV.int IntKind.i64 (0 : Int), AV.str [], AV.sl [], AV.sl [], AV.sl []]], ABlk.rows false (6 : Nat) [[AV.int IntKind.i64 n, AV.int IntKind.i64 n', AV.str s, AV.sl rows, AV.sl rows'', AV.sl rows''']]] : AH))
noncomputable abbrev wf28_0a (c0_0 : Int) (c0_1 : Int) (c0_2 : List UInt8) (c0_3 : List (List AV)) (nc1_0 : Nat) (c2_0 : Int) (nc3_0 : Nat) (c4_0 : Bool) (c5_0 : Int) (c5_1 : Int) (c5_2 : List UInt8) (c5_3 : List (List AV)) (h7 : List (List AV)) (h10 : List (List AV)) : Option (OV × AV) := Wf28_0  (((fx 23 [(0, AV.yld (9 : Nat)), (1, AV.ptr (5 : Nat) (0 : Nat) (0 : Nat)), (2, AV.ptr (6 : Nat) (0 : Nat) (0 : Nat))]) : List AV), ([ABlk.rows false (4 : Nat) [[AV.int IntKind.i64 c0_0, AV.int IntKind.i64 c0_1, AV.str c0_2, AV.sl c0_3]], ABlk.rows false (1 : Nat) [[AV.ms (7 : Nat) (0 : Nat) nc1_0]], ABlk.rows false (1 : Nat) [[AV.int IntKind.i64 c2_0]], ABlk.rows false (1 : Nat) [[AV.ms (10 : Nat) (0 : Nat) nc3_0]], ABlk.rows false (1 : Nat) [[AV.bool c4_0]], ABlk.rows false (4 : Nat) [[AV.int IntKind.i64 c5_0, AV.int IntKind.i64 c5_1, AV.str c5_2, AV.sl c5_3]], ABlk.rows false (1 : Nat) [[AV.ptr (4 : Nat) (0 : Nat) (0 : Nat)]], ABlk.rows true (6 : Nat) h7, ABlk.dead, rngB Tryz.f41 (41 : Nat) [(1 : Nat), (1 : Nat), (1 : Nat), (1 : Nat), (0 : Nat), (1 : Nat), (0 : Nat)] (fx 34 [(2, AV.ptr (1 : Nat) (0 : Nat) (0 : Nat)), (3, AV.ptr (2 : Nat) (0 : Nat) (0 : Nat)), (4, AV.ptr (3 : Nat) (0 : Nat) (0 : Nat))]) none LoopState.ready, ABlk.rows true (6 : Nat) h10] : AH))
noncomputable abbrev wf42_1 (rows' : List (List AV)) (rows'' : List (List AV)) (rows''' : List (List AV)) (v79 : Int) (c0_0 : Int) (c0_1 : Int) (c0_2 : List UInt8) (c0_3 : List (List AV)) (c0_4 : List (List AV)) (c0_5 : List (List AV)) (c1_0 : Int) (c1_1 : Int) (c1_2 : List UInt8) (c1_3 : List (List AV)) (c1_4 : List (List AV)) (c1_5 : List (List AV)) : Option (AV) := Wf42_1  (((fx 91 [(2, AV.ptr (0 : Nat) (0 : Nat) (0 : Nat)), (4, AV.ptr (1 : Nat) (0 : Nat) (0 : Nat)), (5, AV.sl rows'), (73, AV.agg [AV.sl rows'', AV.sl rows''']), (74, AV.int IntKind.i64 (0 : Int)), (77, AV.sl rows''), (78, AV.int IntKind.i64 (↑(List.length rows'') : Int)), (79, AV.int IntKind.i64 v79)]) : List AV), ([ABlk.rows false (6 : Nat) [[AV.int IntKind.i64 c0_0, AV.int IntKind.i64 c0_1, AV.str c0_2, AV.sl c0_3, AV.sl c0_4, AV.sl c0_5]], ABlk.rows false (6 : Nat) [[AV.int IntKind.i64 c1_0, AV.int IntKind.i64 c1_1, AV.str c1_2, AV.sl c1_3, AV.sl c1_4, AV.sl c1_5]]] : AH))
noncomputable abbrev wf42_0a (rows' : List (List AV)) (rows'' : List (List AV)) (rows''' : List (List AV)) (c0_0 : Int) (c0_1 : Int) (c0_2 : List UInt8) (c0_3 : List (List AV)) (c0_4 : List (List AV)) (c0_5 : List (List AV)) (c1_0 : Int) (c1_1 : Int) (c1_2 : List UInt8) (c1_3 : List (List AV)) (c1_4 : List (List AV)) (c1_5 : List (List AV)) : Option (AV) := Wf42_0  (((fx 91 [(2, AV.ptr (0 : Nat) (0 : Nat) (0 : Nat)), (4, AV.ptr (1 : Nat) (0 : Nat) (0 : Nat)), (5, AV.sl rows'), (73, AV.agg [AV.sl rows'', AV.sl rows''']), (74, AV.int IntKind.i64 (1 : Int))]) : List AV), ([ABlk.rows false (6 : Nat) [[AV.int IntKind.i64 c0_0, AV.int IntKind.i64 c0_1, AV.str c0_2, AV.sl c0_3, AV.sl c0_4, AV.sl c0_5]], ABlk.rows false (6 : Nat) [[AV.int IntKind.i64 c1_0, AV.int IntKind.i64 c1_1, AV.str c1_2, AV.sl c1_3, AV.sl c1_4, AV.sl c1_5]]] : AH))
noncomputable abbrev wf42_1a (rows' : List (List AV)) (rows'' : List (List AV)) (rows''' : List (List AV)) (v79 : Int) (c0_0 : Int) (c0_1 : Int) (c0_2 : List UInt8) (c0_3 : List (List AV)) (c0_4 : List (List AV)) (c0_5 : List (List AV)) (c1_0 : Int) (c1_1 : Int) (c1_2 : List UInt8) (c1_3 : List (List AV)) (c1_4 : List (List AV)) (c1_5 : List (List AV)) : Option (AV) := Wf42_1  (((fx 91 [(2, AV.ptr (0 : Nat) (0 : Nat) (0 : Nat)), (4, AV.ptr (1 : Nat) (0 : Nat) (0 : Nat)), (5, AV.sl rows'), (73, AV.agg [AV.sl rows'', AV.sl rows''']), (74, AV.int IntKind.i64 (1 : Int)), (77, AV.sl rows'''), (78, AV.int IntKind.i64 (↑(List.length rows''') : Int)), (79, AV.int IntKind.i64 v79)]) : List AV), ([ABlk.rows false (6 : Nat) [[AV.int IntKind.i64 c0_0, AV.int IntKind.i64 c0_1, AV.str c0_2, AV.sl c0_3, AV.sl c0_4, AV.sl c0_5]], ABlk.rows false (6 : Nat) [[AV.int IntKind.i64 c1_0, AV.int IntKind.i64 c1_1, AV.str c1_2, AV.sl c1_3, AV.sl c1_4, AV.sl c1_5]]] : AH))
noncomputable abbrev wf42_0b (rows' : List (List AV)) (rows'' : List (List AV)) (rows''' : List (List AV)) (c0_0 : Int) (c0_1 : Int) (c0_2 : List UInt8) (c0_3 : List (List AV)) (c0_4 : List (List AV)) (c0_5 : List (List AV)) (c1_0 : Int) (c1_1 : Int) (c1_2 : List UInt8) (c1_3 : List (List AV)) (c1_4 : List (List AV)) (c1_5 : List (List AV)) : Option (AV) := Wf42_0  (((fx 91 [(2, AV.ptr (0 : Nat) (0 : Nat) (0 : Nat)), (4, AV.ptr (1 : Nat) (0 : Nat) (0 : Nat)), (5, AV.sl rows'), (73, AV.agg [AV.sl rows'', AV.sl rows''']), (74, AV.int IntKind.i64 (2 : Int))]) : List AV), ([ABlk.rows false (6 : Nat) [[AV.int IntKind.i64 c0_0, AV.int IntKind.i64 c0_1, AV.str c0_2, AV.sl c0_3, AV.sl c0_4, AV.sl c0_5]], ABlk.rows false (6 : Nat) [[AV.int IntKind.i64 c1_0, AV.int IntKind.i64 c1_1, AV.str c1_2, AV.sl c1_3, AV.sl c1_4, AV.sl c1_5]]] : AH))
theorem spClauses1_run (kt : Int) (nt : Int) (st : List UInt8) (lt : List (List AV)) {P : OV × AV → Prop} (h : Gets (kOpt (EVs (EV cfg) 46 [.agg [AV.int .i64 kt, .int .i64 nt, .str st, .sl lt]]) fun (v : AV) => kInt .i64 v fun (n : Int) => bif n != (0 : Int) then some (OV.own 6 [] 0 0, .int .i64 (2 
  : Int)) else wf28_0 kt nt st lt 0 (0 : Int) 0 false kt nt st lt [] []) P) : Gets (EVq (EV cfg) 41 ([AV.agg [AV.int IntKind.i64 kt, AV.int IntKind.i64 nt, AV.str st, AV.sl lt]] : List AV)) P :=
  Gets.ev (fun _ h => funQ rfl rfl Tryz.func41 rfl h) (Gets.eq (by kernel_rfl) h)
theorem spClause_run (kt : Int) (nt : Int) (st : List UInt8) (lt : List (List AV)) {P : AV → Prop} (h : Gets (bif kt != (7 : Int) then some (AV.tup [.agg [AV.int .i64 (0 : Int), .int .i64 (0 : Int), .str [], .sl [], .sl [], .sl []], .bool false]) else bif (↑(List.length lt) : Int) != (3 : Int) 
  then some (AV.tup [.agg [AV.int .i64 (0 : Int), .int .i64 (0 : Int), .str [], .sl [], .sl [], .sl []], .bool false]) else bif ltInt (0 : Int) (↑(List.length lt) : Int) then kOpt (List.get?Internal 
  lt 0) fun (row : List AV) => bif Nat.beq (List.length row) 4 then bif Nat.ble 4 (List.length row) then kTmC (List.take 4 row) fun (n n_1 : Int) (s : List UInt8) (rows : List (List AV)) 
  => (kOpt (EVs (EV cfg) 83 [.agg [AV.int .i64 n, .int .i64 n_1, .str s, .sl rows]]) fun (v : AV) => kBool v fun (b : Bool) => bif !b then some (AV.tup [.agg [AV.int .i64 (0 : Int), .int 
  .i64 (0 : Int), .str [], .sl [], .sl [], .sl []], .bool false]) else bif ltInt (0 : Int) (↑(List.length lt) : Int) then kOpt (List.get?Internal lt 0) fun (row : List AV) => bif Nat.beq 
  (List.length row) 4 then bif Nat.ble 4 (List.length row) then kTmC (List.take 4 row) fun (n n_2 : Int) (s : List UInt8) (rows : List (List AV)) => (kOpt (EVf (EV cfg) 84 [.agg [AV.int 
  .i64 n, .int .i64 n_2, .str s, .sl rows]]) fun (v : AV) => kSl v fun (rows_1 : List (List AV)) => bif ltInt (1 : Int) (↑(List.length lt) : Int) then kOpt (List.get?Internal lt 1) fun 
  (row : List AV) => bif Nat.beq (List.length row) 4 then bif Nat.ble 4 (List.length row) then kTmC (List.take 4 row) fun (n_3 n_4 : Int) (s_1 : List UInt8) (rows_2 : List (List AV)) 
  => (kOpt (EVf (EV cfg) 85 [.agg [AV.int .i64 n_3, .int .i64 n_4, .str s_1, .sl rows_2]]) fun (v : AV) => kTup v fun (cs : List AV) => kCons cs fun (c : AV) (cs : List AV) => kSl c fun 
  (rows_3 : List (List AV)) => kCons cs fun (c : AV) (cs : List AV) => kBool c fun (b : Bool) => kNil cs (bif ltInt (2 : Int) (↑(List.length lt) : Int) then kOpt (List.get?Internal lt 
  2) fun (row : List AV) => bif Nat.beq (List.length row) 4 then bif Nat.ble 4 (List.length row) then kTmC (List.take 4 row) fun (n_5 n_6 : Int) (s_2 : List UInt8) (rows_4 : List (List 
  AV)) => (kOpt (EVf (EV cfg) 85 [AV.agg [AV.int .i64 n_5, .int .i64 n_6, .str s_2, .sl rows_4]]) fun (v : AV) => kTup v fun (cs : List AV) => kCons cs fun (c : AV) (cs : List AV) => kSl 
  c fun (rows_5 : List (List AV)) => kCons cs fun (c : AV) (cs : List AV) => kBool c fun (b_1 : Bool) => kNil cs (bif !b then some (AV.tup [AV.agg [AV.int .i64 (0 : Int), .int .i64 (0 : 
  Int), .str [], .sl [], .sl [], .sl []], .bool false]) else bif !b_1 then some (AV.tup [AV.agg [AV.int .i64 (0 : Int), .int .i64 (0 : Int), .str [], .sl [], .sl [], .sl []], .bool false]) 
  else bif (↑(List.length rows_5) : Int) == (0 : Int) then some (AV.tup [AV.agg [AV.int .i64 (0 : Int), .int .i64 (0 : Int), .str [], .sl [], .sl [], .sl []], .bool false]) else wf42_0 
  n n_2 s rows rows_1 rows_3 rows_5)) else none else none else none)) else none else none else none) else none else none else none) else none else none else none) P) : Gets (EVf (EV cfg) 62 ([AV.agg [AV.int IntKind.i64 kt, AV.int IntKind.i64 nt, AV.str st, AV.sl lt]] : List AV)) P :=
  Gets.ev (fun _ h => funF rfl rfl Tryz.func62 rfl h) (Gets.eq (by kernel_rfl) h)
theorem wf28_0_step (c0_0 : Int) (c0_1 : Int) (c0_2 : List UInt8) (c0_3 : List (List AV)) (nc1_0 : Nat) (c2_0 : Int) (nc3_0 : Nat) (c4_0 : Bool) (c5_0 : Int) (c5_1 : Int) (c5_2 : List UInt8) (c5_3 : List (List AV)) (h7 : List (List AV)) (h8 : List (List AV)) {P : OV × AV → Prop} (h : Gets (bif c5_0 == (9 : Int) then bif ltInt (0 : Int) (↑(List.length c5_3) : Int) then kOpt (List.get?Internal c5_3 0) fun (row : List AV) => bif Nat.beq (List.length row) 4 then bif Nat.ble 
  4 (List.length row) then kTmC (List.take 4 row) fun (n n_1 : Int) (s : List UInt8) (rows : List (List AV)) => (kOpt (EVf (EV cfg) 62 [.agg [AV.int .i64 n, .int .i64 n_1, .str s, .sl rows]]) 
  fun (v : AV) => kTup v fun (cs : List AV) => kCons cs fun (c : AV) (cs : List AV) => kAgg c fun (cs_1 : List AV) => kCons cs_1 fun (c : AV) (cs_2 : List AV) => kInt .i64 c fun (n : 
  Int) => kCons cs_2 fun (c : AV) (cs_3 : List AV) => kInt .i64 c fun (n_2 : Int) => kCons cs_3 fun (c : AV) (cs_4 : List AV) => kStr c fun (s : List UInt8) => kCons cs_4 fun (c : AV) 
  (cs_5 : List AV) => kSl c fun (rows : List (List AV)) => kCons cs_5 fun (c : AV) (cs_6 : List AV) => kSl c fun (rows_1 : List (List AV)) => kCons cs_6 fun (c : AV) (cs_7 : List AV) 
  => kSl c fun (rows_2 : List (List AV)) => kNil cs_7 (kCons cs fun (c : AV) (cs : List AV) => kBool c fun (b : Bool) => kNil cs (bif !b then some (OV.own 6 [] 0 0, .int .i64 (10 : Int)) 
  else bif Nat.ble (0 + nc3_0) (List.length h8) && fitsIn (nc3_0 + 1) 104 then bif ltInt (1 : Int) (↑(List.length c5_3) : Int) then kOpt (List.get?Internal c5_3 1) fun (row : List AV) 
  => bif Nat.beq (List.length row) 4 then bif Nat.ble 4 (List.length row) then kTmC (List.take 4 row) fun (n_3 n_4 : Int) (s_1 : List UInt8) (rows_3 : List (List AV)) => (wf28_0a c0_0 
  c0_1 c0_2 c0_3 nc1_0 c2_0 (nc3_0 + 1) c4_0 n_3 n_4 s_1 rows_3 h7 (List.append (List.take nc3_0 h8) [[AV.int .i64 n, .int .i64 n_2, .str s, .sl rows, .sl rows_1, .sl rows_2]])) else none 
  else none else none else none))) else none else none else none else bif !c5_0 == (8 : Int) then some (OV.own 6 [] 0 0, .int .i64 (10 : Int)) else bif (↑nc3_0 : Int) == (0 : Int) then 
  some (OV.own 6 [] 0 0, .int .i64 (10 : Int)) else some (OV.own 6 h8 0 nc3_0, .int .i64 (0 : Int))) P) : Gets (wf28_0 c0_0 c0_1 c0_2 c0_3 nc1_0 c2_0 nc3_0 c4_0 c5_0 c5_1 c5_2 c5_3 h7 h8) P :=
  Gets.ev (fun _ h => loop_step (cfg := cfg) (f := 82) (rd := none) (bs := 10) h) (Gets.eq (by kernel_rfl) h)
theorem wf42_0_step (n : Int) (n' : Int) (s : List UInt8) (rows : List (List AV)) (rows' : List (List AV)) (rows'' : List (List AV)) (rows''' : List (List AV)) {P : AV → Prop} (h : Gets (wf42_1 rows' rows'' rows''' (0 : Int) (0 : Int) (0 : Int) [] [] [] [] n n' s rows rows'' rows''') P) : Gets (wf42_0 n n' s rows rows' rows'' rows''') P :=
  Gets.ev (fun _ h => loop_step (cfg := cfg) (f := 62) (rd := none) (bs := 0) h) (Gets.eq (by kernel_rfl) h)
theorem wf28_0a_step (c0_0 : Int) (c0_1 : Int) (c0_2 : List UInt8) (c0_3 : List (List AV)) (nc1_0 : Nat) (c2_0 : Int) (nc3_0 : Nat) (c4_0 : Bool) (c5_0 : Int) (c5_1 : Int) (c5_2 : List UInt8) (c5_3 : List (List AV)) (h7 : List (List AV)) (h10 : List (List AV)) {P : OV × AV → Prop} (h : Gets (bif c5_0 == (9 : Int) then bif ltInt (0 : Int) (↑(List.length c5_3) : Int) then kOpt (List.get?Internal c5_3 0) fun (row : List AV) => bif Nat.beq (List.length row) 4 then bif Nat.ble 
  4 (List.length row) then kTmC (List.take 4 row) fun (n n_1 : Int) (s : List UInt8) (rows : List (List AV)) => (kOpt (EVf (EV cfg) 62 [.agg [AV.int .i64 n, .int .i64 n_1, .str s, .sl rows]]) 
  fun (v : AV) => kTup v fun (cs : List AV) => kCons cs fun (c : AV) (cs : List AV) => kAgg c fun (cs_1 : List AV) => kCons cs_1 fun (c : AV) (cs_2 : List AV) => kInt .i64 c fun (n : 
  Int) => kCons cs_2 fun (c : AV) (cs_3 : List AV) => kInt .i64 c fun (n_2 : Int) => kCons cs_3 fun (c : AV) (cs_4 : List AV) => kStr c fun (s : List UInt8) => kCons cs_4 fun (c : AV) 
  (cs_5 : List AV) => kSl c fun (rows : List (List AV)) => kCons cs_5 fun (c : AV) (cs_6 : List AV) => kSl c fun (rows_1 : List (List AV)) => kCons cs_6 fun (c : AV) (cs_7 : List AV) 
  => kSl c fun (rows_2 : List (List AV)) => kNil cs_7 (kCons cs fun (c : AV) (cs : List AV) => kBool c fun (b : Bool) => kNil cs (bif !b then some (OV.own 6 [] 0 0, .int .i64 (10 : Int)) 
  else bif Nat.ble (0 + nc3_0) (List.length h10) && fitsIn (nc3_0 + 1) 104 then bif ltInt (1 : Int) (↑(List.length c5_3) : Int) then kOpt (List.get?Internal c5_3 1) fun (row : List AV) 
  => bif Nat.beq (List.length row) 4 then bif Nat.ble 4 (List.length row) then kTmC (List.take 4 row) fun (n_3 n_4 : Int) (s_1 : List UInt8) (rows_3 : List (List AV)) => (wf28_0a c0_0 
  c0_1 c0_2 c0_3 nc1_0 c2_0 (nc3_0 + 1) c4_0 n_3 n_4 s_1 rows_3 h7 (List.append (List.take nc3_0 h10) [[AV.int .i64 n, .int .i64 n_2, .str s, .sl rows, .sl rows_1, .sl rows_2]])) else none 
  else none else none else none))) else none else none else none else bif !c5_0 == (8 : Int) then some (OV.own 6 [] 0 0, .int .i64 (10 : Int)) else bif (↑nc3_0 : Int) == (0 : Int) then 
  some (OV.own 6 [] 0 0, .int .i64 (10 : Int)) else some (OV.own 6 h10 0 nc3_0, .int .i64 (0 : Int))) P) : Gets (wf28_0a c0_0 c0_1 c0_2 c0_3 nc1_0 c2_0 nc3_0 c4_0 c5_0 c5_1 c5_2 c5_3 h7 h10) P :=
  Gets.ev (fun _ h => loop_step (cfg := cfg) (f := 82) (rd := none) (bs := 10) h) (Gets.eq (by kernel_rfl) h)
theorem wf42_1_step (rows' : List (List AV)) (rows'' : List (List AV)) (rows''' : List (List AV)) (v79 : Int) (c0_0 : Int) (c0_1 : Int) (c0_2 : List UInt8) (c0_3 : List (List AV)) (c0_4 : List (List AV)) (c0_5 : List (List AV)) (c1_0 : Int) (c1_1 : Int) (c1_2 : List UInt8) (c1_3 : List (List AV)) (c1_4 : List (List AV)) (c1_5 : List (List AV)) {P : AV → Prop} (h : Gets (bif decide (v79 < (↑(List.length rows'') : Int)) then bif leInt (0 : Int) v79 && ltInt v79 (↑(List.length rows'') : Int) then kOpt (List.get?Internal rows'' (Int.toNat v79)) fun (row 
  : List AV) => bif Nat.beq (List.length row) 4 then bif Nat.ble 4 (List.length row) then kTmC (List.take 4 row) fun (n n_1 : Int) (s : List UInt8) (rows : List (List AV)) => (kOpt (EVs 
  (EV cfg) 86 [.agg [AV.int .i64 n, .int .i64 n_1, .str s, .sl rows], .sl rows']) fun (v : AV) => kInt .i64 v fun (n : Int) => bif n != (0 : Int) then some (AV.tup [.agg [AV.int .i64 (0 : 
  Int), .int .i64 (0 : Int), .str [], .sl [], .sl [], .sl []], .bool false]) else wf42_1 rows' rows'' rows''' (IntKind.wrap .i64 (v79 + (1 : Int))) c0_0 c0_1 c0_2 c0_3 c0_4 c0_5 c1_0 
  c1_1 c1_2 c1_3 c1_4 c1_5) else none else none else none else wf42_0a rows' rows'' rows''' c0_0 c0_1 c0_2 c0_3 c0_4 c0_5 c1_0 c1_1 c1_2 c1_3 c1_4 c1_5) P) : Gets (wf42_1 rows' rows'' rows''' v79 c0_0 c0_1 c0_2 c0_3 c0_4 c0_5 c1_0 c1_1 c1_2 c1_3 c1_4 c1_5) P :=
  Gets.ev (fun _ h => loop_step (cfg := cfg) (f := 62) (rd := none) (bs := 0) h) (Gets.eq (by kernel_rfl) h)
theorem wf42_0a_step (rows' : List (List AV)) (rows'' : List (List AV)) (rows''' : List (List AV)) (c0_0 : Int) (c0_1 : Int) (c0_2 : List UInt8) (c0_3 : List (List AV)) (c0_4 : List (List AV)) (c0_5 : List (List AV)) (c1_0 : Int) (c1_1 : Int) (c1_2 : List UInt8) (c1_3 : List (List AV)) (c1_4 : List (List AV)) (c1_5 : List (List AV)) {P : AV → Prop} (h : Gets (wf42_1a rows' rows'' rows''' (0 : Int) c0_0 c0_1 c0_2 c0_3 c0_4 c0_5 c1_0 c1_1 c1_2 c1_3 c1_4 c1_5) P) : Gets (wf42_0a rows' rows'' rows''' c0_0 c0_1 c0_2 c0_3 c0_4 c0_5 c1_0 c1_1 c1_2 c1_3 c1_4 c1_5) P :=
  Gets.ev (fun _ h => loop_step (cfg := cfg) (f := 62) (rd := none) (bs := 0) h) (Gets.eq (by kernel_rfl) h)
theorem wf42_1a_step (rows' : List (List AV)) (rows'' : List (List AV)) (rows''' : List (List AV)) (v79 : Int) (c0_0 : Int) (c0_1 : Int) (c0_2 : List UInt8) (c0_3 : List (List AV)) (c0_4 : List (List AV)) (c0_5 : List (List AV)) (c1_0 : Int) (c1_1 : Int) (c1_2 : List UInt8) (c1_3 : List (List AV)) (c1_4 : List (List AV)) (c1_5 : List (List AV)) {P : AV → Prop} (h : Gets (bif decide (v79 < (↑(List.length rows''') : Int)) then bif leInt (0 : Int) v79 && ltInt v79 (↑(List.length rows''') : Int) then kOpt (List.get?Internal rows''' (Int.toNat v79)) fun 
  (row : List AV) => bif Nat.beq (List.length row) 4 then bif Nat.ble 4 (List.length row) then kTmC (List.take 4 row) fun (n n_1 : Int) (s : List UInt8) (rows : List (List AV)) => (kOpt 
  (EVs (EV cfg) 86 [.agg [AV.int .i64 n, .int .i64 n_1, .str s, .sl rows], .sl rows']) fun (v : AV) => kInt .i64 v fun (n : Int) => bif n != (0 : Int) then some (AV.tup [.agg [AV.int .i64 
  (0 : Int), .int .i64 (0 : Int), .str [], .sl [], .sl [], .sl []], .bool false]) else wf42_1a rows' rows'' rows''' (IntKind.wrap .i64 (v79 + (1 : Int))) c0_0 c0_1 c0_2 c0_3 c0_4 c0_5 
  c1_0 c1_1 c1_2 c1_3 c1_4 c1_5) else none else none else none else wf42_0b rows' rows'' rows''' c0_0 c0_1 c0_2 c0_3 c0_4 c0_5 c1_0 c1_1 c1_2 c1_3 c1_4 c1_5) P) : Gets (wf42_1a rows' rows'' rows''' v79 c0_0 c0_1 c0_2 c0_3 c0_4 c0_5 c1_0 c1_1 c1_2 c1_3 c1_4 c1_5) P :=
  Gets.ev (fun _ h => loop_step (cfg := cfg) (f := 62) (rd := none) (bs := 0) h) (Gets.eq (by kernel_rfl) h)
theorem wf42_0b_step (rows' : List (List AV)) (rows'' : List (List AV)) (rows''' : List (List AV)) (c0_0 : Int) (c0_1 : Int) (c0_2 : List UInt8) (c0_3 : List (List AV)) (c0_4 : List (List AV)) (c0_5 : List (List AV)) (c1_0 : Int) (c1_1 : Int) (c1_2 : List UInt8) (c1_3 : List (List AV)) (c1_4 : List (List AV)) (c1_5 : List (List AV)) {P : AV → Prop} (h : Gets (some (AV.tup [.agg [AV.int .i64 c1_0, .int .i64 c1_1, .str c1_2, .sl c1_3, .sl c1_4, .sl c1_5], .bool true])) P) : Gets (wf42_0b rows' rows'' rows''' c0_0 c0_1 c0_2 c0_3 c0_4 c0_5 c1_0 c1_1 c1_2 c1_3 c1_4 c1_5) P :=
  Gets.ev (fun _ h => loop_step (cfg := cfg) (f := 62) (rd := none) (bs := 0) h) (Gets.eq (by kernel_rfl) h)
end Go.Proofs.YtonmmmgffeoiiaaGreat
end

section
namespace Go.Proofs.YtonmmmgffeoiiaaGreat
open Go.Av
set_option maxRecDepth 100000
set_option maxHeartbeats 0

noncomputable def Lg14_0 : Den := evC cfg (EV cfg) 23 none 0 (sub (bodyOf Tryz.f23) [1, 1, 1, 0, 1, 0, 0])
noncomputable def Ag14_0 : Ex × List AV × AH → Option AV := kAft (Cfg.keepOut cfg 23 4) (kRun cfg (EV cfg) (kfN cfg 6) 23 none 0 (kFinF cfg (Cfg.lift cfg 23 0) Tryz.f23.results.toList) ([.block 0, .seq (sub (bodyOf Tryz.f23) [1, 1, 1, 1])]))
noncomputable def Wg14_0 : List AV × AH → Option AV := fun p => kOpt (LOOP 0 (some [2, 4, 5, 11, 12, 13]) ([(5, 4)]) Lg14_0 p) Ag14_0
noncomputable abbrev wg14_0 (L : List (List AV)) (nv5 : Nat) (v13 : Int) (c0_0 : Int) (c0_1 : Int) (c0_2 : List UInt8) (c0_3 : List (List AV)) (c1_0 : Int) (c1_1 : Int) (c1_2 : List UInt8) (c1_3 : List (List AV)) (h2 : List (List AV)) : Option (AV) := Wg14_0  (((fx 44 [(2, AV.ptr (0 : Nat) (0 : Nat) (0 : Nat)), (4, AV.ptr (1 : Nat) (0 : Nat) (0 : Nat)), (5, AV.ms (2 : Nat) (0 : Nat) nv5), (11, AV.sl L), (12, AV.int IntKind.i64 (↑(List.length L) : Int)), (13, AV.int IntKind.i64 v13)]) : List AV), ([ABlk.rows false (4 : Nat) [[AV.int IntKind.i64 c0_0, AV.int IntKind.i64 c0_1, AV.str c0_2, AV.sl c0_3]], ABlk.rows false (4 : Nat) [[AV.int IntKind.i64 c1_0, AV.int IntKind.i64 c1_1, AV.str c1_2, AV.sl c1_3]], ABlk.rows true (4 : Nat) h2] : AH))
theorem spOf_run (L : List (List AV)) {P : AV → Prop} (h : Gets (wg14_0 L 0 (0 : Int) (0 : Int) (0 : Int) [] [] (8 : Int) (0 : Int) [] [] []) P) : Gets (EVf (EV cfg) 23 ([AV.sl L] : List AV)) P :=
  Gets.ev (fun _ h => funF rfl rfl Tryz.func23 rfl h) (Gets.eq (by kernel_rfl) h)
theorem wg14_0_step (L : List (List AV)) (nv5 : Nat) (v13 : Int) (c0_0 : Int) (c0_1 : Int) (c0_2 : List UInt8) (c0_3 : List (List AV)) (c1_0 : Int) (c1_1 : Int) (c1_2 : List UInt8) (c1_3 : List (List AV)) (h2 : List (List AV)) {P : AV → Prop} (h : Gets (bif decide (v13 < (↑(List.length L) : Int)) then bif leInt (0 : Int) v13 && ltInt v13 (↑(List.length L) : Int) then kOpt (List.get?Internal L (Int.toNat v13)) fun (row : List AV) => 
  bif Nat.beq (List.length row) 6 then bif Nat.ble 6 (List.length row) then kCons (List.take 6 row) fun (c : AV) (cs : List AV) => kInt .i64 c fun (n : Int) => kCons cs fun (c : AV) (cs 
  : List AV) => kInt .i64 c fun (n_1 : Int) => kCons cs fun (c : AV) (cs : List AV) => kStr c fun (s : List UInt8) => kCons cs fun (c : AV) (cs : List AV) => kSl c fun (rows : List (List 
  AV)) => kCons cs fun (c : AV) (cs : List AV) => kSl c fun (rows_1 : List (List AV)) => kCons cs fun (c : AV) (cs : List AV) => kSl c fun (rows_2 : List (List AV)) => kNil cs (kOpt (EVf 
  (EV cfg) 48 [.sl rows_1, .agg [AV.int .i64 c1_0, .int .i64 c1_1, .str c1_2, .sl c1_3]]) fun (v : AV) => kTmV v fun (n_2 n_3 : Int) (s_1 : List UInt8) (rows_3 : List (List AV)) => (kOpt 
  (EVf (EV cfg) 48 [.sl rows_2, .agg [AV.int .i64 c1_0, .int .i64 c1_1, .str c1_2, .sl c1_3]]) fun (v : AV) => kTmV v fun (n_4 n_5 : Int) (s_2 : List UInt8) (rows_4 : List (List AV)) => 
  (kOpt (EVf (EV cfg) 47 [AV.sl [[AV.int .i64 n, .int .i64 n_1, .str s, .sl rows], [AV.int .i64 n_2, .int .i64 n_3, .str s_1, .sl rows_3], [AV.int .i64 n_4, .int .i64 n_5, .str s_2, .sl rows_4]]]) 
  fun (v : AV) => kTmV v fun (n n_6 : Int) (s : List UInt8) (rows : List (List AV)) => (bif Nat.ble (0 + nv5) (List.length h2) && fitsIn (nv5 + 1) 56 then wg14_0 L (nv5 + 1) (IntKind.wrap 
  .i64 (v13 + (1 : Int))) c0_0 c0_1 c0_2 c0_3 c1_0 c1_1 c1_2 c1_3 (List.append (List.take nv5 h2) [[AV.int .i64 n, .int .i64 n_6, .str s, .sl rows]]) else none)))) else none else none else 
  none else bif Nat.ble (0 + nv5) (List.length h2) && true then kOpt (EVf (EV cfg) 48 [.sl (List.take nv5 h2), .agg [AV.int .i64 c1_0, .int .i64 c1_1, .str c1_2, .sl c1_3]]) fun (v : AV) 
  => kTmV v fun (n n_1 : Int) (s : List UInt8) (rows : List (List AV)) => (kOpt (EVs (EV cfg) 18 [.agg [AV.int .i64 n, .int .i64 n_1, .str s, .sl rows]]) fun (v : AV) => kInt .i64 v fun 
  (n_2 : Int) => bif n_2 != (0 : Int) then some (AV.tup [.agg [AV.int .i64 (0 : Int), .int .i64 (0 : Int), .str [], .sl []], .int .i64 n_2]) else kOpt (EVf (EV cfg) 42 [.agg [AV.int .i64 
  n, .int .i64 n_1, .str s, .sl rows]]) fun (v : AV) => kTmV v fun (n n_3 : Int) (s : List UInt8) (rows : List (List AV)) => (some (AV.tup [.agg [AV.int .i64 n, .int .i64 n_3, .str s, .sl 
  rows], .int .i64 (0 : Int)]))) else none) P) : Gets (wg14_0 L nv5 v13 c0_0 c0_1 c0_2 c0_3 c1_0 c1_1 c1_2 c1_3 h2) P :=
  Gets.ev (fun _ h => loop_step (cfg := cfg) (f := 23) (rd := none) (bs := 0) h) (Gets.eq (by kernel_rfl) h)
end Go.Proofs.YtonmmmgffeoiiaaGreat
end

section
namespace Go.Av
def clR (o : Option Cl) : AV := match o with
  | some c => .tup [c.av, .bool true]
  | none => .tup [zeroC.av, .bool false]
def clsQ (r : List Cl × Int) : OV × AV := (.own 6 (rowsC r.1) 0 r.1.length, .int .i64 r.2)
def clsA (acc : List Cl) (t : Tm) : List Cl × Int := match seqC (itemsG t).1 with
  | some l => if (itemsG t).2 && !(acc ++ l).isEmpty then (acc ++ l, 0) else ([], 10)
  | none => ([], 10)
def okV (V : List Int) (l : List Tm) : Bool := l.all fun e => decide (checkG V e = 0)
theorem okV_cons (V : List Int) (x : Tm) (l : List Tm) : okV V (x :: l) = (decide (checkG V x = 0) && okV V l) := rfl
theorem varsG_len (p : Tm) : (varsG p).length ≤ 100 := by
  unfold varsG
  by_cases h : p.chk = 0
  · rw [if_pos h, List.length_map]
    have := List.length_filter_le (fun n : Nat => varIn (n : Nat) p) (List.range 100)
    rw [List.length_range] at this
    exact this
  · rw [if_neg h]; exact Nat.zero_le _
theorem fits104 {n : Nat} (h : n ≤ 1099511627776) : fitsIn n 104 = true := by
  unfold fitsIn; rw [Bool.and_eq_true, Nat.ble_eq, Nat.ble_eq]; omega
end Go.Av
namespace Go.Proofs.YtonmmmgffeoiiaaGreat
open Go.Av
set_option maxRecDepth 100000
theorem clause_loop2 {V : List Int} {h : Tm} {G B : List Tm} (hV : V.length < 1099511627776) (hB : B.length < 1099511627776) (wB : ∀ x ∈ B, x.w < 1099511627776) : ∀ d i : Nat, i + d = B.length →
    Gets (wf42_1a (intsR V) (rowsT G) (rowsT B) i 0 0 [] [] [] [] h.kind h.num h.str (rowsT h.subs) (rowsT G) (rowsT B)) (· = clR (if okV V (B.drop i) then some ⟨h, G, B⟩ else none)) := by
  intro d
  induction d with
  | zero =>
    intro i hi
    obtain rfl : i = B.length := by omega
    refine wf42_1a_step _ _ _ _ _ _ _ _ _ _ _ _ _ _ _ _ ?_
    rw [rowsT_length, decide_eq_false (by omega), cond_false, List.drop_eq_nil_of_le (Nat.le_refl _)]
    refine wf42_0b_step _ _ _ _ _ _ _ _ _ _ _ _ _ _ _ ?_
    exact ⟨_, rfl, rfl⟩
  | succ d ih =>
    intro i hi
    have hil : i < B.length := by omega
    have hx : B[i]? = some B[i] := List.getElem?_eq_getElem hil
    have hg := guardCheck_ev hV (wB _ (List.mem_of_getElem? hx))
    have h1 := ih (i + 1) (by omega)
    rw [List.drop_eq_getElem_cons hil, okV_cons]
    refine wf42_1a_step _ _ _ _ _ _ _ _ _ _ _ _ _ _ _ _ ?_
    have gx : List.get?Internal (rowsT B) (Int.toNat (i : Int)) = some B[i].cells := rowsT_at' hx
    rw [rowsT_length, decide_eq_true (show (i : Int) < (B.length : Int) by omega), leInt_zero, ltInt_nat, decide_eq_true hil, gx, wrap_succ hil hB]
    simp only [cond_true, Bool.and_self, kOptSome, length_cells, Nat.beq_refl, take_cells, kTmC_cells, ble44, av_unf, hg, kInt_int, bneD]
    by_cases h0 : checkG V B[i] = 0
    · rw [decide_eq_true h0, Bool.true_and]
      exact h1
    · rw [decide_eq_false h0]
      exact ⟨_, rfl, rfl⟩
theorem clause_loop1 {V : List Int} {h : Tm} {G B : List Tm} (hV : V.length < 1099511627776) (hG : G.length < 1099511627776) (wG : ∀ x ∈ G, x.w < 1099511627776) (hB : B.length < 1099511627776) (wB : ∀ x ∈ B, x.w < 1099511627776) : ∀ d i : Nat, i + d = G.length →
    Gets (wf42_1 (intsR V) (rowsT G) (rowsT B) i 0 0 [] [] [] [] h.kind h.num h.str (rowsT h.subs) (rowsT G) (rowsT B)) (· = clR (if okV V (G.drop i) && okV V B then some ⟨h, G, B⟩ else none)) := by
  intro d
  induction d with
  | zero =>
    intro i hi
    obtain rfl : i = G.length := by omega
    refine wf42_1_step _ _ _ _ _ _ _ _ _ _ _ _ _ _ _ _ ?_
    rw [rowsT_length, decide_eq_false (by omega), cond_false, List.drop_eq_nil_of_le (Nat.le_refl _)]
    refine wf42_0a_step _ _ _ _ _ _ _ _ _ _ _ _ _ _ _ ?_
    exact clause_loop2 (h := h) (G := G) hV hB wB B.length 0 (by omega)
  | succ d ih =>
    intro i hi
    have hil : i < G.length := by omega
    have hx : G[i]? = some G[i] := List.getElem?_eq_getElem hil
    have hg := guardCheck_ev hV (wG _ (List.mem_of_getElem? hx))
    have h1 := ih (i + 1) (by omega)
    rw [List.drop_eq_getElem_cons hil, okV_cons]
    refine wf42_1_step _ _ _ _ _ _ _ _ _ _ _ _ _ _ _ _ ?_
    have gx : List.get?Internal (rowsT G) (Int.toNat (i : Int)) = some G[i].cells := rowsT_at' hx
    rw [rowsT_length, decide_eq_true (show (i : Int) < (G.length : Int) by omega), leInt_zero, ltInt_nat, decide_eq_true hil, gx, wrap_succ hil hG]
    simp only [cond_true, Bool.and_self, kOptSome, length_cells, Nat.beq_refl, take_cells, kTmC_cells, ble44, av_unf, hg, kInt_int, bneD]
    by_cases h0 : checkG V G[i] = 0
    · rw [decide_eq_true h0, Bool.true_and]
      exact h1
    · rw [decide_eq_false h0]
      exact ⟨_, rfl, rfl⟩
theorem clause_ev {t : Tm} (hc : t.chk = 0) : EVf (EV cfg) 62 [t.av] = some (clR (clauseG t)) := by
  have hw := w_chk hc
  have hwe := t.w_eq
  have hz : AV.tup [.agg [AV.int .i64 (0 : Int), .int .i64 (0 : Int), .str [], .sl [], .sl [], .sl []], .bool false] = clR none := rfl
  apply Gets.get
  rw [Tm.av, Tm.cells_eq]
  refine spClause_run _ _ _ _ ?_
  rw [bneD, bneD, hz, rowsT_length]
  by_cases h7 : t.kind = 7
  · rw [decide_eq_true h7]
    by_cases h3 : t.subs.length = 3
    · obtain ⟨h, g, b, hs⟩ : ∃ h g b, t.subs = [h, g, b] := by
        cases hs : t.subs with
        | nil => rw [hs] at h3; simp at h3
        | cons a l => cases l with
          | nil => rw [hs] at h3; simp at h3
          | cons b l => cases l with
            | nil => rw [hs] at h3; simp at h3
            | cons d l => cases l with
              | nil => exact ⟨a, b, d, rfl⟩
              | cons e l => rw [hs] at h3; simp at h3
      have ch : h.chk = 0 := chk_sub hc (by rw [hs]; simp)
      have cg : g.chk = 0 := chk_sub hc (by rw [hs]; simp)
      have cb : b.chk = 0 := chk_sub hc (by rw [hs]; simp)
      rw [hs] at hwe
      simp only [wL_cons, wL_nil] at hwe
      have lg := itemsG_w cg
      have lb := itemsG_w cb
      have hh := spHead_ev (t := h) (by omega)
      have hv := patVars_ev (t := h) (by omega)
      have e1 := spList_ev cg
      have e2 := spList_ev cb
      have hl := clause_loop1 (V := varsG h) (h := h) (G := (itemsG g).1) (B := (itemsG b).1) (by have := varsG_len h; omega) (by omega) (fun x hx => by have := wL_mem hx; omega) (by omega) (fun x hx => by have := wL_mem hx; omega) (itemsG g).1.length 0 (by omega)
      have gh : clauseG t = if headG h && ((itemsG g).2 && ((itemsG b).2 && !(itemsG b).1.isEmpty)) && (okV (varsG h) (itemsG g).1 && okV (varsG h) (itemsG b).1) then some ⟨h, (itemsG g).1, (itemsG b).1⟩ else none := by
        unfold clauseG; rw [if_pos h7, hs]; rfl
      rw [decide_eq_true (show (t.subs.length : Int) = 3 by omega), hs, rowsT_cons, rowsT_cons, rowsT_cons, rowsT_nil, gh]
      have g0 : List.get?Internal [h.cells, g.cells, b.cells] 0 = some h.cells := rfl
      have g1 : List.get?Internal [h.cells, g.cells, b.cells] 1 = some g.cells := rfl
      have g2 : List.get?Internal [h.cells, g.cells, b.cells] 2 = some b.cells := rfl
      have l0 : ltInt 0 (([h, g, b].length : Nat) : Int) = true := rfl
      have l1 : ltInt 1 (([h, g, b].length : Nat) : Int) = true := rfl
      have l2 : ltInt 2 (([h, g, b].length : Nat) : Int) = true := rfl
      rw [g0, g1, g2]
      simp only [l0, l1, l2, Bool.not_true, cond_false, cond_true, Bool.and_self, kOptSome, length_cells, Nat.beq_refl, take_cells, kTmC_cells, ble44, av_unf, hh, kBool_bool]
      cases headG h with
      | false => exact ⟨_, rfl, rfl⟩
      | true =>
        simp only [Bool.not_true, cond_false, Bool.true_and, hv, e1, e2, lsR, kOptSome, kTup, kCons, kSl_sl, kBool_bool, kNil, rowsT_length, beqI]
        cases (itemsG g).2 with
        | false => exact ⟨_, rfl, rfl⟩
        | true =>
          cases (itemsG b).2 with
          | false => exact ⟨_, rfl, rfl⟩
          | true =>
            simp only [Bool.not_true, cond_false, Bool.true_and]
            cases hb : (itemsG b).1 with
            | nil => exact ⟨_, rfl, rfl⟩
            | cons x l =>
              rw [hb] at hl
              rw [decide_eq_false (show ¬ (((x :: l).length : Nat) : Int) = 0 by simp; omega)]
              refine wf42_0_step _ _ _ _ _ _ _ ?_
              exact hl
    · have : clauseG t = none := by
        unfold clauseG
        rw [if_pos h7]
        cases hs : t.subs with
        | nil => rfl
        | cons a l => cases l with
          | nil => rfl
          | cons b l => cases l with
            | nil => rfl
            | cons d l => cases l with
              | nil => rw [hs] at h3; simp at h3
              | cons e l => rfl
      rw [decide_eq_false (show ¬ (t.subs.length : Int) = 3 by omega), this]
      exact ⟨_, rfl, rfl⟩
  · have : clauseG t = none := by unfold clauseG; rw [if_neg h7]
    rw [decide_eq_false h7, this]
    exact ⟨_, rfl, rfl⟩
theorem clauses_loopa {c : Tm} : ∀ (n : Nat) (t : Tm) (acc : List Cl), t.w ≤ n → t.chk = 0 → acc.length + n < 1099511627776 →
    Gets (wf28_0a c.kind c.num c.str (rowsT c.subs) 0 0 acc.length false t.kind t.num t.str (rowsT t.subs) [] (rowsC acc)) (· = clsQ (clsA acc t)) := by
  intro n
  induction n with
  | zero => intro t acc h; have := w_pos t; omega
  | succ n ih =>
    intro t acc hw hc hn
    refine wf28_0a_step _ _ _ _ _ _ _ _ _ _ _ _ _ _ ?_
    rw [beqI, beqI, beqI]
    by_cases h9 : t.kind = 9
    · obtain ⟨x, y, hs⟩ := cons_chk hc h9
      have hwe := t.w_eq
      rw [hs] at hwe
      simp only [wL_cons, wL_nil] at hwe
      have hxc : x.chk = 0 := chk_sub hc (by rw [hs]; simp)
      have hyc : y.chk = 0 := chk_sub hc (by rw [hs]; simp)
      have hce := clause_ev hxc
      have e1 : Nat.ble (0 + acc.length) (rowsC acc).length = true := by rw [Nat.ble_eq, rowsC_len]; omega
      have e2 : List.take acc.length (rowsC acc) = rowsC acc := List.take_of_length_le (by rw [rowsC_len]; exact Nat.le_refl _)
      rw [decide_eq_true h9, cond_true, hs, lt0T, get0T, lt1T, get1T, e1, e2, fits104 (by omega)]
      simp only [cond_true, Bool.and_self, kOptSome, length_cells, Nat.beq_refl, take_cells, kTmC_cells, ble44, av_unf, hce]
      cases hcl : clauseG x with
      | none =>
        have : clsA acc t = ([], 10) := by unfold clsA; rw [itemsG_cons h9 hs, seqC, hcl]; rfl
        rw [this]
        exact ⟨_, rfl, rfl⟩
      | some d =>
        have : clsA acc t = clsA (acc ++ [d]) y := by
          unfold clsA
          rw [itemsG_cons h9 hs, seqC, hcl]
          cases seqC (itemsG y).1 with
          | none => rfl
          | some l => simp
        rw [this]
        have h := ih y (acc ++ [d]) (by omega) hyc (by rw [List.length_append, List.length_singleton]; omega)
        rw [List.length_append, List.length_singleton] at h
        have e3 : List.append (rowsC acc) [[AV.int .i64 d.head.kind, .int .i64 d.head.num, .str d.head.str, .sl (rowsT d.head.subs), .sl (rowsT d.gs), .sl (rowsT d.bs)]] = rowsC (acc ++ [d]) := (rowsC_append acc [d]).symm
        simp only [clR, Cl.av, Cl.cells, kTup, kCons, kAgg, kInt_int, kStr_str, kSl_sl, kNil, kBool_bool, Bool.not_true, cond_false, e3]
        exact h
    · rw [decide_eq_false h9, cond_false]
      have hi : clsA acc t = if t.kind = 8 ∧ acc ≠ [] then (acc, 0) else ([], 10) := by
        unfold clsA
        rw [itemsG_end h9, seqC]
        by_cases h8 : t.kind = 8
        · cases acc <;> simp [h8]
        · simp [h8]
      rw [hi]
      by_cases h8 : t.kind = 8
      · rw [decide_eq_true h8]
        cases acc with
        | nil => rw [if_neg (fun h => h.2 rfl)]; exact ⟨_, rfl, rfl⟩
        | cons a l =>
          rw [decide_eq_false (show ¬ (((a :: l).length : Nat) : Int) = 0 by simp; omega), if_pos ⟨h8, by simp⟩]
          exact ⟨_, rfl, rfl⟩
      · rw [decide_eq_false h8, if_neg (fun h => h8 h.1)]
        exact ⟨_, rfl, rfl⟩
theorem clauses_loop {c : Tm} : ∀ (n : Nat) (t : Tm) (acc : List Cl), t.w ≤ n → t.chk = 0 → acc.length + n < 1099511627776 →
    Gets (wf28_0 c.kind c.num c.str (rowsT c.subs) 0 0 acc.length false t.kind t.num t.str (rowsT t.subs) [] (rowsC acc)) (· = clsQ (clsA acc t)) := by
  intro n
  induction n with
  | zero => intro t acc h; have := w_pos t; omega
  | succ n ih =>
    intro t acc hw hc hn
    refine wf28_0_step _ _ _ _ _ _ _ _ _ _ _ _ _ _ ?_
    rw [beqI, beqI, beqI]
    by_cases h9 : t.kind = 9
    · obtain ⟨x, y, hs⟩ := cons_chk hc h9
      have hwe := t.w_eq
      rw [hs] at hwe
      simp only [wL_cons, wL_nil] at hwe
      have hxc : x.chk = 0 := chk_sub hc (by rw [hs]; simp)
      have hyc : y.chk = 0 := chk_sub hc (by rw [hs]; simp)
      have hce := clause_ev hxc
      have e1 : Nat.ble (0 + acc.length) (rowsC acc).length = true := by rw [Nat.ble_eq, rowsC_len]; omega
      have e2 : List.take acc.length (rowsC acc) = rowsC acc := List.take_of_length_le (by rw [rowsC_len]; exact Nat.le_refl _)
      rw [decide_eq_true h9, cond_true, hs, lt0T, get0T, lt1T, get1T, e1, e2, fits104 (by omega)]
      simp only [cond_true, Bool.and_self, kOptSome, length_cells, Nat.beq_refl, take_cells, kTmC_cells, ble44, av_unf, hce]
      cases hcl : clauseG x with
      | none =>
        have : clsA acc t = ([], 10) := by unfold clsA; rw [itemsG_cons h9 hs, seqC, hcl]; rfl
        rw [this]
        exact ⟨_, rfl, rfl⟩
      | some d =>
        have : clsA acc t = clsA (acc ++ [d]) y := by
          unfold clsA
          rw [itemsG_cons h9 hs, seqC, hcl]
          cases seqC (itemsG y).1 with
          | none => rfl
          | some l => simp
        rw [this]
        have h := clauses_loopa (c := c) n y (acc ++ [d]) (by omega) hyc (by rw [List.length_append, List.length_singleton]; omega)
        rw [List.length_append, List.length_singleton] at h
        have e3 : List.append (rowsC acc) [[AV.int .i64 d.head.kind, .int .i64 d.head.num, .str d.head.str, .sl (rowsT d.head.subs), .sl (rowsT d.gs), .sl (rowsT d.bs)]] = rowsC (acc ++ [d]) := (rowsC_append acc [d]).symm
        simp only [clR, Cl.av, Cl.cells, kTup, kCons, kAgg, kInt_int, kStr_str, kSl_sl, kNil, kBool_bool, Bool.not_true, cond_false, e3]
        exact h
    · rw [decide_eq_false h9, cond_false]
      have hi : clsA acc t = if t.kind = 8 ∧ acc ≠ [] then (acc, 0) else ([], 10) := by
        unfold clsA
        rw [itemsG_end h9, seqC]
        by_cases h8 : t.kind = 8
        · cases acc <;> simp [h8]
        · simp [h8]
      rw [hi]
      by_cases h8 : t.kind = 8
      · rw [decide_eq_true h8]
        cases acc with
        | nil => rw [if_neg (fun h => h.2 rfl)]; exact ⟨_, rfl, rfl⟩
        | cons a l =>
          rw [decide_eq_false (show ¬ (((a :: l).length : Nat) : Int) = 0 by simp; omega), if_pos ⟨h8, by simp⟩]
          exact ⟨_, rfl, rfl⟩
      · rw [decide_eq_false h8, if_neg (fun h => h8 h.1)]
        exact ⟨_, rfl, rfl⟩
theorem clauses_ev {t : Tm} (hw : t.w < 1099511627776) : EVq (EV cfg) 41 [t.av] = some (clsQ (clsG t)) := by
  have hk := check_ev hw
  apply Gets.get
  rw [Tm.av, Tm.cells_eq] at hk ⊢
  refine spClauses1_run _ _ _ _ ?_
  rw [hk]
  simp only [kOptSome, kInt_int, bneD]
  unfold clsG
  by_cases hc : t.chk = 0
  · rw [decide_eq_true hc, if_pos hc]
    exact clauses_loop (c := t) t.w t [] (Nat.le_refl _) hc (by have := w_chk hc; simp; omega)
  · rw [decide_eq_false hc, if_neg hc]
    exact ⟨_, rfl, rfl⟩
theorem spCheck_ev {t : Tm} (hw : t.w < 1099511627776) : EVs (EV cfg) 18 [t.av] = some (.int .i64 (clsG t).2) := by
  have hk := clauses_ev hw
  apply Gets.get
  rw [Tm.av, Tm.cells_eq] at hk ⊢
  refine spCheck_run _ _ _ _ ?_
  rw [hk]
  exact ⟨_, rfl, rfl⟩
end Go.Proofs.YtonmmmgffeoiiaaGreat
end
