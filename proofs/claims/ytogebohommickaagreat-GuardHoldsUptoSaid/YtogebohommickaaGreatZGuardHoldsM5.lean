/-
  Parts of the proof of GuardHoldsUptoSaid, put together: the abstract evaluation and its contracts. Own work.
  What is proved: each lemma as it stands; no condition.
-/
import Derived.Test.YtogebohommickaaGreatZGuardHoldsM4

section
namespace Go.Proofs.YtogebohommickaaGreat
open Go.Av
set_option maxRecDepth 100000
set_option maxHeartbeats 0

noncomputable def Lq33_0 : Den := evC cfg (EV cfg) 89 none 5 (sub (bodyOf Tryz.f89) [1, 0, 0])
noncomputable def Aq33_0 : Ex × List AV × AH → Option AV := kAft (Cfg.keepOut cfg 89 (firstRid (sub (bodyOf Tryz.f89) [1, 0, 0]))) (kBlock 0 (kFinG cfg (Cfg.lift cfg 89 0) (fun (v : AV) (H : AH) => (fun (r : AV × AH) => kRangeEnd 0 4 (fx 17 [(2, AV.ptr 1 0 0), (3, AV.ptr 2 0 0)]) (kBlock 0 (kSeq (fun (fr : List AV) (H : AH) => kCutTo (Cfg.cut cfg 44 (firstRid (sub (bodyOf Tryz.f44) [1, 1, 1]))) fr H fun (fr : List AV) (H : AH) => kCode cfg (EV cfg) (kfN cfg 6) 44 none 0 (sub (bodyOf Tryz.f44) [1, 1, 1]) fr H (kFinS cfg (Cfg.lift cfg 44 0) (Array.toList (Func.results Tryz.f44)))) (kFinS cfg (Cfg.lift cfg 44 0) (Array.toList (Func.results Tryz.f44))))) (Prod.snd r)) (v, H)) (Array.toList (Func.results (Prod.snd (89, Tryz.f89))))))
noncomputable def Wq33_0 : List AV × AH → Option AV := fun (p : List AV × AH) => kOpt (LOOP 5 (some [0, 3]) [(3, 4)] Lq33_0 p) Aq33_0
noncomputable def Lq33_1 : Den := evC cfg (EV cfg) 109 none 10 (sub (bodyOf Tryz.f109) [1, 0, 0])
noncomputable def Aq33_1 : Ex × List AV × AH → Option AV := kAft (Cfg.keepOut cfg 109 (firstRid (sub (bodyOf Tryz.f109) [1, 0, 0]))) (kBlock 0 (kFinG cfg (Cfg.lift cfg 109 0) (fun (v : AV) (H : AH) => (fun (r : AV × AH) => kRangeEnd 5 9 (fx 38 [(0, AV.yld 4), (3, AV.ptr 5 0 0)]) (kBlock 2 (kBlock 1 (kLp 5 (some [0, 3]) [(3, 4)] Lq33_0 Aq33_0))) (Prod.snd r)) (v, H)) (Array.toList (Func.results (Prod.snd (109, Tryz.f109))))))
noncomputable def Wq33_1 : List AV × AH → Option AV := fun (p : List AV × AH) => kOpt (LOOP 10 (some [0, 1, 3]) [] Lq33_1 p) Aq33_1
noncomputable abbrev wq33_0 (c0_0 : Int) (c0_1 : Int) (c0_2 : List UInt8) (c0_3 : List (List AV)) (c1_0 : Int) (c2_0 : Int) (c3_0 : Int) (c3_1 : Int) (c3_2 : List UInt8) (c3_3 : List (List AV)) (nc5_0 : Nat) (h6 : List (List AV)) : Option (AV) := Wq33_0  (((fx 38 [(0, AV.yld (4 : Nat)), (3, AV.ptr (5 : Nat) (0 : Nat) (0 : Nat))]) : List AV), ([ABlk.rows false (4 : Nat) [[AV.int IntKind.i64 c0_0, AV.int IntKind.i64 c0_1, AV.str c0_2, AV.sl c0_3]], ABlk.rows false (1 : Nat) [[AV.int IntKind.i64 c1_0]], ABlk.rows false (1 : Nat) [[AV.int IntKind.i64 c2_0]], ABlk.rows false (4 : Nat) [[AV.int IntKind.i64 c3_0, AV.int IntKind.i64 c3_1, AV.str c3_2, AV.sl c3_3]], rngB Tryz.f44 (44 : Nat) [(1 : Nat), (1 : Nat), (0 : Nat), (1 : Nat), (0 : Nat)] (fx 17 [(2, AV.ptr (1 : Nat) (0 : Nat) (0 : Nat)), (3, AV.ptr (2 : Nat) (0 : Nat) (0 : Nat))]) none LoopState.ready, ABlk.rows false (1 : Nat) [[AV.ms (6 : Nat) (0 : Nat) nc5_0]], ABlk.rows true (4 : Nat) h6] : AH))
noncomputable abbrev wq33_1 (v3 : Int) (c0_0 : Int) (c0_1 : Int) (c0_2 : List UInt8) (c0_3 : List (List AV)) (c1_0 : Int) (c2_0 : Int) (c3_0 : Int) (c3_1 : Int) (c3_2 : List UInt8) (c3_3 : List (List AV)) (nc5_0 : Nat) (h6 : List (List AV)) (c7_0 : Int) (c7_1 : Int) (c7_2 : List UInt8) (c7_3 : List (List AV)) (c8_0 : List (List AV)) : Option (AV) := Wq33_1  (((fx 19 [(0, AV.yld (9 : Nat)), (1, AV.ptr (8 : Nat) (0 : Nat) (0 : Nat)), (3, AV.int IntKind.i64 v3)]) : List AV), ([ABlk.rows false (4 : Nat) [[AV.int IntKind.i64 c0_0, AV.int IntKind.i64 c0_1, AV.str c0_2, AV.sl c0_3]], ABlk.rows false (1 : Nat) [[AV.int IntKind.i64 c1_0]], ABlk.rows false (1 : Nat) [[AV.int IntKind.i64 c2_0]], ABlk.rows false (4 : Nat) [[AV.int IntKind.i64 c3_0, AV.int IntKind.i64 c3_1, AV.str c3_2, AV.sl c3_3]], rngB Tryz.f44 (44 : Nat) [(1 : Nat), (1 : Nat), (0 : Nat), (1 : Nat), (0 : Nat)] (fx 17 [(2, AV.ptr (1 : Nat) (0 : Nat) (0 : Nat)), (3, AV.ptr (2 : Nat) (0 : Nat) (0 : Nat))]) none LoopState.ready, ABlk.rows false (1 : Nat) [[AV.ms (6 : Nat) (0 : Nat) nc5_0]], ABlk.rows true (4 : Nat) h6, ABlk.rows false (4 : Nat) [[AV.int IntKind.i64 c7_0, AV.int IntKind.i64 c7_1, AV.str c7_2, AV.sl c7_3]], ABlk.rows false (1 : Nat) [[AV.sl c8_0]], rngB Tryz.f89 (89 : Nat) [(1 : Nat), (0 : Nat), (0 : Nat), (1 : Nat), (0 : Nat), (1 : Nat), (1 : Nat), (1 : Nat), (1 : Nat), (0 : Nat)] (fx 38 [(3, AV.ptr (5 : Nat) (0 : Nat) (0 : Nat))]) none LoopState.ready] : AH))
noncomputable abbrev wq33_1a (v3 : Int) (c0_0 : Int) (c0_1 : Int) (c0_2 : List UInt8) (c0_3 : List (List AV)) (c1_0 : Int) (c2_0 : Int) (c3_0 : Int) (c3_1 : Int) (c3_2 : List UInt8) (c3_3 : List (List AV)) (nc5_0 : Nat) (c7_0 : Int) (c7_1 : Int) (c7_2 : List UInt8) (c7_3 : List (List AV)) (c8_0 : List (List AV)) (h10 : List (List AV)) : Option (AV) := Wq33_1  (((fx 19 [(0, AV.yld (9 : Nat)), (1, AV.ptr (8 : Nat) (0 : Nat) (0 : Nat)), (3, AV.int IntKind.i64 v3)]) : List AV), ([ABlk.rows false (4 : Nat) [[AV.int IntKind.i64 c0_0, AV.int IntKind.i64 c0_1, AV.str c0_2, AV.sl c0_3]], ABlk.rows false (1 : Nat) [[AV.int IntKind.i64 c1_0]], ABlk.rows false (1 : Nat) [[AV.int IntKind.i64 c2_0]], ABlk.rows false (4 : Nat) [[AV.int IntKind.i64 c3_0, AV.int IntKind.i64 c3_1, AV.str c3_2, AV.sl c3_3]], rngB Tryz.f44 (44 : Nat) [(1 : Nat), (1 : Nat), (0 : Nat), (1 : Nat), (0 : Nat)] (fx 17 [(2, AV.ptr (1 : Nat) (0 : Nat) (0 : Nat)), (3, AV.ptr (2 : Nat) (0 : Nat) (0 : Nat))]) none LoopState.ready, ABlk.rows false (1 : Nat) [[AV.ms (10 : Nat) (0 : Nat) nc5_0]], ABlk.dead, ABlk.rows false (4 : Nat) [[AV.int IntKind.i64 c7_0, AV.int IntKind.i64 c7_1, AV.str c7_2, AV.sl c7_3]], ABlk.rows false (1 : Nat) [[AV.sl c8_0]], rngB Tryz.f89 (89 : Nat) [(1 : Nat), (0 : Nat), (0 : Nat), (1 : Nat), (0 : Nat), (1 : Nat), (1 : Nat), (1 : Nat), (1 : Nat), (0 : Nat)] (fx 38 [(3, AV.ptr (5 : Nat) (0 : Nat) (0 : Nat))]) none LoopState.ready, ABlk.rows true (4 : Nat) h10] : AH))
theorem term_sound_run (kt : Int) (nt : Int) (st : List UInt8) (lt : List (List AV)) {P : AV → Prop} (h : Gets (bif kt == (1 : Int) then bif decide (nt ≥ (-576460752303423488 : Int)) then bif decide (nt ≤ (576460752303423487 : Int)) then bif st == [] then some (.bool ((↑(List.length lt) : Int) 
  == (0 : Int))) else some (.bool false) else some (.bool false) else some (.bool false) else bif kt == (2 : Int) then bif nt == (0 : Int) then bif decide ((↑(List.length st) : Int) ≤ 
  (64 : Int)) then some (.bool ((↑(List.length lt) : Int) == (0 : Int))) else some (.bool false) else some (.bool false) else bif kt == (3 : Int) then bif decide (nt ≥ (0 : Int)) then 
  bif decide (nt ≤ (1073741824 : Int)) then bif st == [] then bif (↑(List.length lt) : Int) == (0 : Int) then some (.bool true) else bif kt == (5 : Int) then some (.bool (decide ((↑(List.length 
  lt) : Int) ≤ (64 : Int)))) else some (.bool false) else some (.bool false) else some (.bool false) else some (.bool false) else bif kt == (4 : Int) then bif decide (nt ≥ (0 : Int)) 
  then bif decide (nt ≤ (1073741824 : Int)) then bif st == [] then bif (↑(List.length lt) : Int) == (0 : Int) then some (.bool true) else bif kt == (5 : Int) then some (.bool (decide 
  ((↑(List.length lt) : Int) ≤ (64 : Int)))) else some (.bool false) else some (.bool false) else some (.bool false) else some (.bool false) else bif kt == (6 : Int) then bif decide (nt 
  ≥ (0 : Int)) then bif decide (nt ≤ (1073741824 : Int)) then bif st == [] then bif (↑(List.length lt) : Int) == (0 : Int) then some (.bool true) else bif kt == (5 : Int) then some (.bool 
  (decide ((↑(List.length lt) : Int) ≤ (64 : Int)))) else some (.bool false) else some (.bool false) else some (.bool false) else some (.bool false) else bif kt == (5 : Int) then bif 
  decide (nt ≥ (0 : Int)) then bif decide (nt ≤ (1073741824 : Int)) then bif st == [] then bif (↑(List.length lt) : Int) == (0 : Int) then some (.bool true) else bif kt == (5 : Int) then 
  some (.bool (decide ((↑(List.length lt) : Int) ≤ (64 : Int)))) else some (.bool false) else some (.bool false) else some (.bool false) else some (.bool false) else bif kt == (7 : Int) 
  then bif nt == (0 : Int) then bif st == [] then some (.bool (decide ((↑(List.length lt) : Int) ≤ (64 : Int)))) else some (.bool false) else some (.bool false) else bif kt == (8 : Int) 
  then bif nt == (0 : Int) then bif st == [] then some (.bool ((↑(List.length lt) : Int) == (0 : Int))) else some (.bool false) else some (.bool false) else bif kt == (9 : Int) then bif 
  nt == (0 : Int) then bif st == [] then some (.bool ((↑(List.length lt) : Int) == (2 : Int))) else some (.bool false) else some (.bool false) else some (.bool false)) P) : Gets (EVs (EV cfg) 69 ([AV.agg [AV.int IntKind.i64 kt, AV.int IntKind.i64 nt, AV.str st, AV.sl lt]] : List AV)) P :=
  Gets.ev (fun _ h => funS rfl rfl Tryz.func69 rfl h) (Gets.eq (by kernel_rfl) h)
theorem term_own_run (kt : Int) (nt : Int) (st : List UInt8) (lt : List (List AV)) {P : AV → Prop} (h : Gets (bif kt == (7 : Int) then some (.int .i64 (2 : Int)) else bif kt == (5 : Int) then some (.int .i64 (2 : Int)) else some (.int .i64 (1 : Int))) P) : Gets (EVs (EV cfg) 70 ([AV.agg [AV.int IntKind.i64 kt, AV.int IntKind.i64 nt, AV.str st, AV.sl lt]] : List AV)) P :=
  Gets.ev (fun _ h => funS rfl rfl Tryz.func70 rfl h) (Gets.eq (by kernel_rfl) h)
theorem term_Check_run (kt : Int) (nt : Int) (st : List UInt8) (lt : List (List AV)) {P : AV → Prop} (h : Gets (wq33_0 kt nt st lt (0 : Int) (0 : Int) kt nt st lt 1 [[.int .i64 kt, .int .i64 nt, .str st, .sl lt]]) P) : Gets (EVs (EV cfg) 44 ([AV.agg [AV.int IntKind.i64 kt, AV.int IntKind.i64 nt, AV.str st, AV.sl lt]] : List AV)) P :=
  Gets.ev (fun _ h => funS rfl rfl Tryz.func44 rfl h) (Gets.eq (by kernel_rfl) h)
theorem wq33_0_step (c0_0 : Int) (c0_1 : Int) (c0_2 : List UInt8) (c0_3 : List (List AV)) (c1_0 : Int) (c2_0 : Int) (c3_0 : Int) (c3_1 : Int) (c3_2 : List UInt8) (c3_3 : List (List AV)) (nc5_0 : Nat) (h6 : List (List AV)) {P : AV → Prop} (h : Gets (bif decide ((↑nc5_0 : Int) > (0 : Int)) then bif leInt (0 : Int) (IntKind.wrap .i64 ((↑nc5_0 : Int) - (1 : Int))) && ltInt (IntKind.wrap .i64 ((↑nc5_0 : Int) - (1 : Int))) (↑nc5_0 : 
  Int) then kOpt (List.get?Internal h6 (0 + Int.toNat (IntKind.wrap .i64 ((↑nc5_0 : Int) - (1 : Int))))) fun (row : List AV) => bif Nat.ble 4 (List.length row) then kTmC (List.take 4 
  row) fun (n n_1 : Int) (s : List UInt8) (rows : List (List AV)) => (bif leInt (0 : Int) (IntKind.wrap .i64 ((↑nc5_0 : Int) - (1 : Int))) && leInt (IntKind.wrap .i64 ((↑nc5_0 : Int) 
  - (1 : Int))) (↑nc5_0 : Int) then kOpt (EVs (EV cfg) 69 [.agg [.int .i64 n, .int .i64 n_1, .str s, .sl rows]]) fun (v : AV) => kBool v fun (b : Bool) => bif !b then some (.int .i64 
  (2 : Int)) else kOpt (EVs (EV cfg) 70 [.agg [.int .i64 n, .int .i64 n_1, .str s, .sl rows]]) fun (v : AV) => kInt .i64 v fun (n_2 : Int) => wq33_1 (IntKind.wrap .i64 ((↑(List.length 
  rows) : Int) - (1 : Int))) c0_0 c0_1 c0_2 c0_3 c1_0 (IntKind.wrap .i64 (c2_0 + n_2)) c3_0 c3_1 c3_2 c3_3 (Int.toNat (IntKind.wrap .i64 ((↑nc5_0 : Int) - (1 : Int))) - 0) h6 n n_1 s 
  rows rows else none) else none else none else bif decide (c2_0 > (65536 : Int)) then some (.int .i64 (3 : Int)) else some (.int .i64 (0 : Int))) P) : Gets (wq33_0 c0_0 c0_1 c0_2 c0_3 c1_0 c2_0 c3_0 c3_1 c3_2 c3_3 nc5_0 h6) P :=
  Gets.ev (fun _ h => loop_step (cfg := cfg) (f := 89) (rd := none) (bs := 5) h) (Gets.eq (by kernel_rfl) h)
theorem wq33_1_step (v3 : Int) (c0_0 : Int) (c0_1 : Int) (c0_2 : List UInt8) (c0_3 : List (List AV)) (c1_0 : Int) (c2_0 : Int) (c3_0 : Int) (c3_1 : Int) (c3_2 : List UInt8) (c3_3 : List (List AV)) (nc5_0 : Nat) (h6 : List (List AV)) (c7_0 : Int) (c7_1 : Int) (c7_2 : List UInt8) (c7_3 : List (List AV)) (c8_0 : List (List AV)) {P : AV → Prop} (h : Gets (bif decide (v3 ≥ (0 : Int)) then bif leInt (0 : Int) v3 && ltInt v3 (↑(List.length c8_0) : Int) then kOpt (List.get?Internal c8_0 (Int.toNat v3)) fun (row : List AV) => bif Nat.beq 
  (List.length row) 4 then bif Nat.ble 4 (List.length row) then kTmC (List.take 4 row) fun (n n_1 : Int) (s : List UInt8) (rows : List (List AV)) => (bif Nat.ble (0 + nc5_0) (List.length 
  h6) && fitsIn (nc5_0 + 1) 56 then bif leInt (0 : Int) (↑nc5_0 : Int) && ltInt (↑nc5_0 : Int) (↑(nc5_0 + 1) : Int) then kOpt (List.get?Internal (List.append (List.take nc5_0 h6) [[.int 
  .i64 (0 : Int), .int .i64 (0 : Int), .str [], .nilS]]) (0 + Int.toNat (↑nc5_0 : Int))) fun (row : List AV) => bif Nat.ble 4 (List.length row) then wq33_1a (IntKind.wrap .i64 (v3 - (1 
  : Int))) c0_0 c0_1 c0_2 c0_3 c1_0 c2_0 c3_0 c3_1 c3_2 c3_3 (nc5_0 + 1) c7_0 c7_1 c7_2 c7_3 c8_0 (List.set (List.append (List.take nc5_0 h6) [[.int .i64 (0 : Int), .int .i64 (0 : Int), 
  .str [], .nilS]]) (0 + Int.toNat (↑nc5_0 : Int)) (.int .i64 n :: .int .i64 n_1 :: .str s :: .sl rows :: List.drop 4 row)) else none else none else none) else none else none else none 
  else wq33_0 c0_0 c0_1 c0_2 c0_3 c1_0 c2_0 c3_0 c3_1 c3_2 c3_3 nc5_0 h6) P) : Gets (wq33_1 v3 c0_0 c0_1 c0_2 c0_3 c1_0 c2_0 c3_0 c3_1 c3_2 c3_3 nc5_0 h6 c7_0 c7_1 c7_2 c7_3 c8_0) P :=
  Gets.ev (fun _ h => loop_step (cfg := cfg) (f := 109) (rd := none) (bs := 10) h) (Gets.eq (by kernel_rfl) h)
theorem wq33_1a_step (v3 : Int) (c0_0 : Int) (c0_1 : Int) (c0_2 : List UInt8) (c0_3 : List (List AV)) (c1_0 : Int) (c2_0 : Int) (c3_0 : Int) (c3_1 : Int) (c3_2 : List UInt8) (c3_3 : List (List AV)) (nc5_0 : Nat) (c7_0 : Int) (c7_1 : Int) (c7_2 : List UInt8) (c7_3 : List (List AV)) (c8_0 : List (List AV)) (h10 : List (List AV)) {P : AV → Prop} (h : Gets (bif decide (v3 ≥ (0 : Int)) then bif leInt (0 : Int) v3 && ltInt v3 (↑(List.length c8_0) : Int) then kOpt (List.get?Internal c8_0 (Int.toNat v3)) fun (row : List AV) => bif Nat.beq 
  (List.length row) 4 then bif Nat.ble 4 (List.length row) then kTmC (List.take 4 row) fun (n n_1 : Int) (s : List UInt8) (rows : List (List AV)) => (bif Nat.ble (0 + nc5_0) (List.length 
  h10) && fitsIn (nc5_0 + 1) 56 then bif leInt (0 : Int) (↑nc5_0 : Int) && ltInt (↑nc5_0 : Int) (↑(nc5_0 + 1) : Int) then kOpt (List.get?Internal (List.append (List.take nc5_0 h10) [[.int 
  .i64 (0 : Int), .int .i64 (0 : Int), .str [], .nilS]]) (0 + Int.toNat (↑nc5_0 : Int))) fun (row : List AV) => bif Nat.ble 4 (List.length row) then wq33_1a (IntKind.wrap .i64 (v3 - (1 
  : Int))) c0_0 c0_1 c0_2 c0_3 c1_0 c2_0 c3_0 c3_1 c3_2 c3_3 (nc5_0 + 1) c7_0 c7_1 c7_2 c7_3 c8_0 (List.set (List.append (List.take nc5_0 h10) [[.int .i64 (0 : Int), .int .i64 (0 : Int), 
  .str [], .nilS]]) (0 + Int.toNat (↑nc5_0 : Int)) (.int .i64 n :: .int .i64 n_1 :: .str s :: .sl rows :: List.drop 4 row)) else none else none else none) else none else none else none 
  else wq33_0 c0_0 c0_1 c0_2 c0_3 c1_0 c2_0 c3_0 c3_1 c3_2 c3_3 nc5_0 h10) P) : Gets (wq33_1a v3 c0_0 c0_1 c0_2 c0_3 c1_0 c2_0 c3_0 c3_1 c3_2 c3_3 nc5_0 c7_0 c7_1 c7_2 c7_3 c8_0 h10) P :=
  Gets.ev (fun _ h => loop_step (cfg := cfg) (f := 109) (rd := none) (bs := 10) h) (Gets.eq (by kernel_rfl) h)
end Go.Proofs.YtogebohommickaaGreat
end

section
namespace Go.Av
def Tells (p : Prop) (v : AV) : Prop := ∃ b : Bool, v = .bool b ∧ (b = true ↔ p)
theorem tells_bool {p : Prop} {b : Bool} : Tells p (.bool b) ↔ (b = true ↔ p) := ⟨fun ⟨_, h1, h2⟩ => by cases h1; exact h2, fun h => ⟨b, rfl, h⟩⟩
end Go.Av
namespace Go.Proofs.YtogebohommickaaGreat
open Go.Av

theorem fits56 {n : Nat} (h : n ≤ 1099511627776) : fitsIn n 56 = true := by
  unfold fitsIn
  rw [Bool.and_eq_true, Nat.ble_eq, Nat.ble_eq]
  omega

theorem av_unf (t : Tm) : (AV.agg [.int .i64 t.kind, .int .i64 t.num, .str t.str, .sl (rowsT t.subs)]) = t.av := by rw [Tm.av, Tm.cells_eq]
end Go.Proofs.YtogebohommickaaGreat
end

section
namespace Go.Proofs.YtogebohommickaaGreat
open Go.Av

theorem sound_ev (t : Tm) : EVs (EV cfg) 69 [t.av] = some (.bool t.sound) := by
  obtain ⟨k, n, s, l⟩ := t
  apply Gets.get
  rw [Tm.av_mk]
  refine term_sound_run _ _ _ _ ?_
  simp only [Tm.sound, Tm.kind_mk, Tm.num_mk, Tm.str_mk, Tm.subs_mk, rowsT_length, beqI, beqNil, soundB]
  by_cases h1 : k = 1
  · subst h1; simp [bif_some'] <;> (try rw [Bool.eq_iff_iff]) <;> (try simp) <;> first | omega | grind
  by_cases h2 : k = 2
  · subst h2; simp [bif_some'] <;> (try rw [Bool.eq_iff_iff]) <;> (try simp) <;> first | omega | grind
  by_cases h3 : k = 3
  · subst h3; simp [bif_some'] <;> (try rw [Bool.eq_iff_iff]) <;> (try simp) <;> first | omega | grind
  by_cases h4 : k = 4
  · subst h4; simp [bif_some'] <;> (try rw [Bool.eq_iff_iff]) <;> (try simp) <;> first | omega | grind
  by_cases h6 : k = 6
  · subst h6; simp [bif_some'] <;> (try rw [Bool.eq_iff_iff]) <;> (try simp) <;> first | omega | grind
  by_cases h5 : k = 5
  · subst h5
    cases l with
    | nil => simp [bif_some'] <;> (try rw [Bool.eq_iff_iff]) <;> (try simp) <;> first | omega | grind
    | cons x l =>
      have hx : ¬ ((l.length : Int) + 1 = 0) := by omega
      simp [hx, bif_some'] <;> (try rw [Bool.eq_iff_iff]) <;> (try simp) <;> first | omega | grind
  by_cases h7 : k = 7
  · subst h7; simp [bif_some'] <;> (try rw [Bool.eq_iff_iff]) <;> (try simp) <;> first | omega | grind
  by_cases h8 : k = 8
  · subst h8; simp [bif_some'] <;> (try rw [Bool.eq_iff_iff]) <;> (try simp) <;> first | omega | grind
  by_cases h9 : k = 9
  · subst h9; simp [bif_some'] <;> (try rw [Bool.eq_iff_iff]) <;> (try simp) <;> first | omega | grind
  simp [h1, h2, h3, h4, h5, h6, h7, h8, h9]
theorem own_ev (t : Tm) : EVs (EV cfg) 70 [t.av] = some (.int .i64 t.own) := by
  obtain ⟨k, n, s, l⟩ := t
  apply Gets.get
  rw [Tm.av_mk]
  refine term_own_run _ _ _ _ ?_
  simp only [Tm.own, Tm.kind_mk, beqI]
  by_cases h7 : k = 7
  · simp [h7]
  · by_cases h5 : k = 5
    · simp [h5]
    · simp [h7, h5]
end Go.Proofs.YtogebohommickaaGreat
end

section
namespace Go.Proofs.YtogebohommickaaGreat
open Go.Av

theorem app_get0 (l : List (List AV)) (z : List AV) : (l ++ [z])[l.length]? = some z := by simp
theorem app_set0 (l : List (List AV)) (z c : List AV) : (l ++ [z]).set l.length c = l ++ [c] := by simp

theorem push_a {t x : Tm} (hx : x.subs.length < 1099511627776) {wd : Int} {P : AV → Prop} : ∀ (j : Nat) (R : List Tm), j ≤ x.subs.length → R.length + j < 1099511627776 →
    Gets (wq33_0 t.kind t.num t.str (rowsT t.subs) 0 wd t.kind t.num t.str (rowsT t.subs) (R.length + j) (rowsT (R ++ (x.subs.take j).reverse))) P →
    Gets (wq33_1a ((j : Int) - 1) t.kind t.num t.str (rowsT t.subs) 0 wd t.kind t.num t.str (rowsT t.subs) R.length x.kind x.num x.str (rowsT x.subs) (rowsT x.subs) (rowsT R)) P
  | 0, R, _, _, h => by
    refine wq33_1a_step _ _ _ _ _ _ _ _ _ _ _ _ _ _ _ _ _ _ ?_
    simpa using h
  | j + 1, R, hj, hR, h => by
    have ih := push_a (t := t) hx (wd := wd) (P := P) j (R ++ [x.subs[j]]) (by omega) (by simp; omega)
    have e1 : x.subs.take (j + 1) = x.subs.take j ++ [x.subs[j]] := by rw [List.take_add_one, List.getElem?_eq_getElem (by omega)]; rfl
    have e4 : R ++ (x.subs.take j ++ [x.subs[j]]).reverse = R ++ x.subs[j] :: (x.subs.take j).reverse := by rw [List.reverse_append]; rfl
    rw [e1, e4, show R.length + (j + 1) = R.length + 1 + j by omega] at h
    refine wq33_1a_step _ _ _ _ _ _ _ _ _ _ _ _ _ _ _ _ _ _ ?_
    have hw : IntKind.wrap .i64 ((j : Int) - 1) = (j : Int) - 1 := wrap64 (by omega) (by omega)
    have hjl : j < x.subs.length := by omega
    have e2 : ((j + 1 : Nat) : Int) - 1 = j := by omega
    rw [e2]
    have ht : List.take R.length (rowsT R) = rowsT R := List.take_of_length_le (by simp)
    have g0 := app_get0 (rowsT R) [.int .i64 0, .int .i64 0, .str [], .nilS]
    have s0 := app_set0 (rowsT R) [.int .i64 0, .int .i64 0, .str [], .nilS] x.subs[j].cells
    rw [rowsT_length] at g0 s0
    simp [hjl, hw, fits56 (show R.length + 1 ≤ 1099511627776 by omega), ht] at ih ⊢
    exact ih h

theorem push_m {t x : Tm} (hx : x.subs.length < 1099511627776) {wd : Int} {P : AV → Prop} {R : List Tm} {Z : List (List AV)} (hR : R.length + x.subs.length < 1099511627776)
    (h0 : x.subs = [] → Gets (wq33_0 t.kind t.num t.str (rowsT t.subs) 0 wd t.kind t.num t.str (rowsT t.subs) R.length (rowsT R ++ Z)) P)
    (h : x.subs ≠ [] → Gets (wq33_0 t.kind t.num t.str (rowsT t.subs) 0 wd t.kind t.num t.str (rowsT t.subs) (R ++ x.subs.reverse).length (rowsT (R ++ x.subs.reverse))) P) :
    Gets (wq33_1 ((x.subs.length : Int) - 1) t.kind t.num t.str (rowsT t.subs) 0 wd t.kind t.num t.str (rowsT t.subs) R.length (rowsT R ++ Z) x.kind x.num x.str (rowsT x.subs) (rowsT x.subs)) P := by
  refine wq33_1_step _ _ _ _ _ _ _ _ _ _ _ _ _ _ _ _ _ _ ?_
  rcases Nat.eq_zero_or_pos x.subs.length with hz | hp
  · have hz' : x.subs = [] := List.length_eq_zero_iff.1 hz
    have := h0 hz'
    simpa [hz'] using this
  · obtain ⟨j, hj⟩ : ∃ j, x.subs.length = j + 1 := ⟨x.subs.length - 1, by omega⟩
    have hne : x.subs ≠ [] := by intro e; rw [e] at hp; simp at hp
    have hjl : j < x.subs.length := by omega
    have e2 : (x.subs.length : Int) - 1 = j := by omega
    have hw : IntKind.wrap .i64 ((j : Int) - 1) = (j : Int) - 1 := wrap64 (by omega) (by omega)
    have ht : List.take R.length (rowsT R ++ Z) = rowsT R := by rw [List.take_append_of_le_length (by simp), List.take_of_length_le (by simp)]
    have e5 : x.subs = x.subs.take j ++ [x.subs[j]] := by
      have : x.subs.take (j + 1) = x.subs := List.take_of_length_le (by omega)
      rw [List.take_add_one, List.getElem?_eq_getElem hjl] at this
      exact this.symm
    have e6 : R ++ x.subs.reverse = R ++ [x.subs[j]] ++ (x.subs.take j).reverse := by
      conv => lhs; rw [e5]
      rw [List.reverse_append, List.append_assoc]; rfl
    have := push_a (t := t) hx (wd := wd) (P := P) j (R ++ [x.subs[j]]) (by omega) (by simp; omega) (by
      have h := h hne
      rw [e6] at h
      have e7 : (R ++ [x.subs[j]] ++ (x.subs.take j).reverse).length = (R ++ [x.subs[j]]).length + j := by
        rw [List.length_append, List.length_reverse, List.length_take]; omega
      rw [e7] at h
      exact h)
    rw [e2]
    simp at this
    simp [hjl, hw, fits56 (show R.length + 1 ≤ 1099511627776 by omega), ht]
    exact this

theorem check_m {t : Tm} : ∀ (n : Nat) (R : List Tm) (Z : List (List AV)) (wd : Nat), wL R ≤ n → n < 1099511627776 → wd + 2 * wL R < 9007199254740992 →
    Gets (wq33_0 t.kind t.num t.str (rowsT t.subs) 0 (wd : Int) t.kind t.num t.str (rowsT t.subs) R.length (rowsT R ++ Z)) (· = .int .i64 (chkS R wd)) := by
  intro n
  induction n with
  | zero =>
    intro R Z wd hn _ _
    have : R = [] := by
      have := wL_len R
      exact List.length_eq_zero_iff.1 (by omega)
    subst this
    refine wq33_0_step _ _ _ _ _ _ _ _ _ _ _ _ ?_
    by_cases h : 65536 < wd
    · have h' : (65536 : Int) < wd := by omega
      simp [h, h', chkS, partsL, wordsL]
    · have h' : ¬ (65536 : Int) < wd := by omega
      simp [h, h', chkS, partsL, wordsL]
  | succ n ih =>
    intro R Z wd hn hN hw
    rcases List.eq_nil_or_concat R with rfl | ⟨R0, x, rfl⟩
    · refine wq33_0_step _ _ _ _ _ _ _ _ _ _ _ _ ?_
      by_cases h : 65536 < wd
      · have h' : (65536 : Int) < wd := by omega
        simp [h, h', chkS, partsL, wordsL]
      · have h' : ¬ (65536 : Int) < wd := by omega
        simp [h, h', chkS, partsL, wordsL]
    · rw [List.concat_eq_append] at *
      have hwx := x.w_eq
      have ho := x.own_le
      simp only [wL_append, wL_cons, wL_nil] at hn hw
      have hl0 := wL_len R0
      have hls := wL_len x.subs
      have hsd := sound_ev x
      have how := own_ev x
      refine wq33_0_step _ _ _ _ _ _ _ _ _ _ _ _ ?_
      have e1 : (R0 ++ [x]).length = R0.length + 1 := by simp
      have hw1 : IntKind.wrap .i64 (R0.length : Int) = R0.length := wrapN (by omega)
      have hw2 : IntKind.wrap .i64 ((wd : Int) + x.own) = ((wd + x.own : Nat) : Int) := by rw [wrap64 (by omega) (by omega)]; omega
      have hw3 : IntKind.wrap .i64 ((x.subs.length : Int) - 1) = (x.subs.length : Int) - 1 := wrap64 (by omega) (by omega)
      have g : (rowsT (R0 ++ [x]) ++ Z)[R0.length]? = some x.cells := by
        rw [List.getElem?_append_left (by simp), rowsT_get]; simp
      cases hs : x.sound with
      | false =>
        rw [hs] at hsd
        simp [e1, hw1, g, hsd, chkS_bad hs]
      | true =>
        rw [hs] at hsd
        have e3 : rowsT (R0 ++ [x]) ++ Z = rowsT R0 ++ (x.cells :: Z) := by rw [rowsT_append, List.append_assoc, rowsT_cons, rowsT_nil]; rfl
        have := push_m (t := t) (x := x) (R := R0) (Z := x.cells :: Z) (wd := ((wd + x.own : Nat) : Int)) (P := (· = .int .i64 (chkS (R0 ++ [x]) wd))) (by omega) (by omega)
          (fun hz => by
            have := ih R0 (x.cells :: Z) (wd + x.own) (by omega) (by omega) (by omega)
            rw [← chkS_step hs, hz, List.reverse_nil, List.append_nil]
            exact this)
          (fun hz => by
            have := ih (R0 ++ x.subs.reverse) [] (wd + x.own) (by rw [wL_append, wL_rev]; omega) (by omega) (by rw [wL_append, wL_rev]; omega)
            rw [← chkS_step hs]
            rw [List.append_nil] at this
            exact this)
        simp only [e1, e3] at g ⊢
        simp only [Int.natCast_add] at hw2 this
        simp [hw1, g, hsd, how, hw2, hw3]
        exact this

theorem check_ev {t : Tm} (h : t.w < 1099511627776) : EVs (EV cfg) 44 [t.av] = some (.int .i64 t.chk) := by
  have := check_m (t := t) _ [t] [] 0 (Nat.le_refl _) (by simpa using h) (by simp; omega)
  apply Gets.get
  rw [Tm.av, Tm.cells_eq]
  refine term_Check_run _ _ _ _ ?_
  rw [← Tm.cells_eq, rowsT_one, Tm.chk]
  simpa using this
end Go.Proofs.YtogebohommickaaGreat
end

section
namespace Go.Proofs.YtogebohommickaaGreat
open Go.Av
theorem number_step {s h0 : List UInt8} {b : UInt8} {v : Int} {i : Nat} {P : AV → Prop} (hv : 0 ≤ v ∧ v ≤ 9) (hlen : (List.take (s.length - 1) (s.drop 1)).length = h0.length) (hl : h0.length ≤ 2) (hb : h0[i]? = some b)
    (h : Gets (match digitG b with | none => some (AV.tup [.int .i64 0, .bool false]) | some x => wp71_0 s (v * 10 + x) ((i + 1 : Nat) : Int) (h0.map fun b => [.int .u8 (b.toNat : Int)])) P) : Gets (wp71_0 s v i (h0.map fun b => [.int .u8 (b.toNat : Int)])) P := by
  have hi : i < h0.length := (List.getElem?_eq_some_iff.1 hb).1
  refine wp71_0_step _ _ _ _ ?_
  have hbl := b.toNat_lt
  rw [hlen, decide_eq_true (show (i : Int) < (h0.length : Int) by omega), leInt_zero, ltInt_nat, decide_eq_true hi]
  simp only [cond_true, Bool.and_self, get?Internal_eq, Nat.zero_add, Int.toNat_natCast, List.getElem?_map, hb, Option.map_some, kOptSome, List.getElem?_cons_zero, kInt_int]
  unfold digitG at h
  by_cases h1 : b.toNat < 48
  · rw [if_pos h1] at h
    rw [decide_eq_true (show (b.toNat : Int) < 48 by omega)]; exact h
  · rw [if_neg h1] at h
    rw [decide_eq_false (show ¬ (b.toNat : Int) < 48 by omega), cond_false]
    by_cases h2 : b.toNat > 57
    · rw [if_pos h2] at h
      rw [decide_eq_true (show (b.toNat : Int) > 57 by omega)]; exact h
    · rw [if_neg h2] at h
      rw [decide_eq_false (show ¬ (b.toNat : Int) > 57 by omega), cond_false]
      have w1 : IntKind.wrap .i64 (v * 10) = v * 10 := wrap64 (by omega) (by omega)
      have w2 : IntKind.wrap .u8 ((b.toNat : Int) - 48) = (b.toNat : Int) - 48 := by
        simp [IntKind.wrap, IntKind.bits, IntKind.signed]; omega
      have w3 : IntKind.wrap .i64 ((b.toNat : Int) - 48) = (b.toNat : Int) - 48 := wrap64 (by omega) (by omega)
      have w4 : IntKind.wrap .i64 (v * 10 + ((b.toNat : Int) - 48)) = v * 10 + ((b.toNat : Int) - 48) := wrap64 (by omega) (by omega)
      have w5 : IntKind.wrap .i64 ((i : Int) + 1) = ((i + 1 : Nat) : Int) := wrap_succ (n := 2) (by omega) (by omega)
      rw [w1, w2, w3, w4, w5]
      exact h
theorem number_end {s h0 : List UInt8} {v : Int} {i : Nat} (hlen : (List.take (s.length - 1) (s.drop 1)).length = h0.length) (hi : i = h0.length) : Gets (wp71_0 s v i (h0.map fun b => [.int .u8 (b.toNat : Int)])) (· = .tup [.int .i64 v, .bool true]) := by
  refine wp71_0_step _ _ _ _ ?_
  rw [hlen, decide_eq_false (by omega)]
  exact ⟨_, rfl, rfl⟩
def varR (o : Option Int) : AV := .tup [.int .i64 (o.getD 0), .bool o.isSome]
theorem patNumber_ev (s : List UInt8) : EVs (EV cfg) 80 [.str s] = some (varR (varG s)) := by
  apply Gets.get
  refine patNumber_run _ ?_
  match s with
  | [] => exact ⟨_, rfl, rfl⟩
  | [a] => exact ⟨_, rfl, rfl⟩
  | a :: b :: c :: d :: l =>
    have h1 : ¬ ((a :: b :: c :: d :: l).length : Int) < 2 := by simp; omega
    have h2 : ((a :: b :: c :: d :: l).length : Int) > 3 := by simp; omega
    rw [decide_eq_false h1, decide_eq_true h2]
    exact ⟨_, rfl, rfl⟩
  | [a, b] =>
    by_cases h : a.toNat = 36
    · have e : (((a.toNat : Int)) != 36) = false := by rw [h]; rfl
      have hs := number_step (s := [a, b]) (h0 := [b]) (b := b) (v := 0) (i := 0) (P := (· = varR (varG [a, b]))) (by omega) rfl (by simp) rfl (by
        rw [varG2, if_pos h]
        cases hd : digitG b with
        | none => exact ⟨_, rfl, rfl⟩
        | some x =>
          refine (number_end (s := [a, b]) (h0 := [b]) rfl rfl).mono ?_
          rintro _ rfl
          show _ = varR (some x)
          simp [varR])
      show Gets (bif (((a.toNat : Int)) != 36) then _ else _) _
      rw [e]
      exact hs
    · have e : (((a.toNat : Int)) != 36) = true := by simpa using fun h' => h (by omega)
      show Gets (bif (((a.toNat : Int)) != 36) then _ else _) _
      rw [e]
      refine ⟨_, rfl, ?_⟩
      rw [varG2, if_neg h]; rfl
  | [a, b, c] =>
    by_cases h : a.toNat = 36
    · have e : (((a.toNat : Int)) != 36) = false := by rw [h]; rfl
      show Gets (bif (((a.toNat : Int)) != 36) then _ else bif (((b.toNat : Int)) == 48) then _ else _) _
      rw [e]
      by_cases hb : b.toNat = 48
      · have e2 : (((b.toNat : Int)) == 48) = true := by rw [hb]; rfl
        rw [e2]
        refine ⟨_, rfl, ?_⟩
        rw [varG3, if_neg (fun h => h.2 hb)]; rfl
      · have e2 : (((b.toNat : Int)) == 48) = false := by simpa using fun h' => hb (by omega)
        rw [e2]
        show Gets (wp71_0 [a, b, c] 0 0 ([b, c].map fun b => [.int .u8 (b.toNat : Int)])) _
        refine number_step (s := [a, b, c]) (h0 := [b, c]) (b := b) (v := 0) (i := 0) (by omega) rfl (by simp) rfl ?_
        rw [varG3, if_pos ⟨h, hb⟩]
        cases hd : digitG b with
        | none => exact ⟨_, rfl, rfl⟩
        | some x =>
          have hx := digitG_in hd
          refine number_step (s := [a, b, c]) (h0 := [b, c]) (b := c) (i := 1) (by omega) rfl (by simp) rfl ?_
          cases hd2 : digitG c with
          | none => exact ⟨_, rfl, by simp [varR, hd2]⟩
          | some y =>
            refine (number_end (s := [a, b, c]) (h0 := [b, c]) rfl rfl).mono ?_
            rintro _ rfl
            simp [varR, hd2]
    · have e : (((a.toNat : Int)) != 36) = true := by simpa using fun h' => h (by omega)
      show Gets (bif (((a.toNat : Int)) != 36) then _ else _) _
      rw [e]
      refine ⟨_, rfl, ?_⟩
      rw [varG3, if_neg (fun h' => h h'.1)]; rfl
theorem patMay_ev {t : Tm} (h : t.w < 1099511627776) : EVs (EV cfg) 79 [t.av] = some (.bool (decide (t.chk = 0))) := by
  have hc := check_ev h
  apply Gets.get
  rw [Tm.av, Tm.cells_eq] at hc ⊢
  refine patMay_run _ _ _ _ ?_
  rw [hc]
  simp [beqI]
theorem patVar_ev {t : Tm} (h : t.w < 1099511627776) : EVs (EV cfg) 52 [t.av] = some (varR (varT t)) := by
  have hc := patMay_ev h
  apply Gets.get
  rw [Tm.av, Tm.cells_eq] at hc ⊢
  refine patVar_run _ _ _ _ ?_
  rw [hc, patNumber_ev]
  unfold varT
  by_cases h1 : t.kind = 2
  · by_cases h2 : t.chk = 0
    · simp [h1, h2, varR, kTup, kCons, kNil]
    · simp [h1, h2, varR]
  · have h1' : (t.kind != 2) = true := by simpa using h1
    rw [h1']
    simp [h1, varR]
end Go.Proofs.YtogebohommickaaGreat
end

section
namespace Go.Proofs.YtogebohommickaaGreat
open Go.Av
set_option maxRecDepth 100000
set_option maxHeartbeats 0

noncomputable def Lg65_0 : Den := evC cfg (EV cfg) 67 none 0 (sub (bodyOf Tryz.f67) [1, 0, 1, 0, 0])
noncomputable def Ag65_0 : Ex × List AV × AH → Option AV := kAft (Cfg.keepOut cfg 67 2) (kRun cfg (EV cfg) (kfN cfg 6) 67 none 0 (kFinS cfg (Cfg.lift cfg 67 0) Tryz.f67.results.toList) ([.block 0, .seq (sub (bodyOf Tryz.f67) [1, 1])]))
noncomputable def Wg65_0 : List AV × AH → Option AV := fun p => kOpt (LOOP 0 (some [0, 1, 7, 8]) ([]) Lg65_0 p) Ag65_0
noncomputable abbrev wg65_0 (A : List (List AV)) (n : Int) (v8 : Int) : Option (AV) := Wg65_0  (((fx 19 [(0, AV.sl A), (1, AV.int IntKind.i64 n), (7, AV.int IntKind.i64 (↑(List.length A) : Int)), (8, AV.int IntKind.i64 v8)]) : List AV), ([] : AH))
theorem guard_Ops_run (op : List UInt8) {P : AV → Prop} (h : Gets (bif op == [(115 : UInt8), (101 : UInt8), (108 : UInt8), (102 : UInt8)] then some (.sl [[.int .i64 (0 : Int)]]) else bif op == [(105 : UInt8), (115 : UInt8), (95 : UInt8), (97 : UInt8), 
  (116 : UInt8), (111 : UInt8), (109 : UInt8)] then some (.sl [[.int .i64 (1 : Int)]]) else bif op == [(105 : UInt8), (115 : UInt8), (95 : UInt8), (105 : UInt8), (110 : UInt8), (116 : 
  UInt8), (101 : UInt8), (103 : UInt8), (101 : UInt8), (114 : UInt8)] then some (.sl [[.int .i64 (1 : Int)]]) else bif op == [(105 : UInt8), (115 : UInt8), (95 : UInt8), (108 : UInt8), 
  (105 : UInt8), (115 : UInt8), (116 : UInt8)] then some (.sl [[.int .i64 (1 : Int)]]) else bif op == [(105 : UInt8), (115 : UInt8), (95 : UInt8), (116 : UInt8), (117 : UInt8), (112 : 
  UInt8), (108 : UInt8), (101 : UInt8)] then some (.sl [[.int .i64 (1 : Int)]]) else bif op == [(105 : UInt8), (115 : UInt8), (95 : UInt8), (112 : UInt8), (105 : UInt8), (100 : UInt8)] 
  then some (.sl [[.int .i64 (1 : Int)]]) else bif op == [(105 : UInt8), (115 : UInt8), (95 : UInt8), (102 : UInt8), (117 : UInt8), (110 : UInt8), (99 : UInt8), (116 : UInt8), (105 : 
  UInt8), (111 : UInt8), (110 : UInt8)] then some (.sl [[.int .i64 (1 : Int)]]) else bif op == [(105 : UInt8), (115 : UInt8), (95 : UInt8), (114 : UInt8), (101 : UInt8), (102 : UInt8), 
  (101 : UInt8), (114 : UInt8), (101 : UInt8), (110 : UInt8), (99 : UInt8), (101 : UInt8)] then some (.sl [[.int .i64 (1 : Int)]]) else bif op == [(110 : UInt8), (111 : UInt8), (116 : 
  UInt8)] then some (.sl [[.int .i64 (1 : Int)]]) else bif op == [(98 : UInt8), (110 : UInt8), (111 : UInt8), (116 : UInt8)] then some (.sl [[.int .i64 (1 : Int)]]) else bif op == [(97 
  : UInt8), (98 : UInt8), (115 : UInt8)] then some (.sl [[.int .i64 (1 : Int)]]) else bif op == [(116 : UInt8), (117 : UInt8), (112 : UInt8), (108 : UInt8), (101 : UInt8), (95 : UInt8), 
  (115 : UInt8), (105 : UInt8), (122 : UInt8), (101 : UInt8)] then some (.sl [[.int .i64 (1 : Int)]]) else bif op == [(115 : UInt8), (105 : UInt8), (122 : UInt8), (101 : UInt8)] then 
  some (.sl [[.int .i64 (1 : Int)]]) else bif op == [(104 : UInt8), (100 : UInt8)] then some (.sl [[.int .i64 (1 : Int)]]) else bif op == [(116 : UInt8), (108 : UInt8)] then some (.sl 
  [[.int .i64 (1 : Int)]]) else bif op == [(108 : UInt8), (101 : UInt8), (110 : UInt8), (103 : UInt8), (116 : UInt8), (104 : UInt8)] then some (.sl [[.int .i64 (1 : Int)]]) else bif op 
  == [(43 : UInt8)] then some (.sl [[.int .i64 (1 : Int)], [.int .i64 (2 : Int)]]) else bif op == [(45 : UInt8)] then some (.sl [[.int .i64 (1 : Int)], [.int .i64 (2 : Int)]]) else bif 
  op == [(61 : UInt8), (61 : UInt8)] then some (.sl [[.int .i64 (2 : Int)]]) else bif op == [(61 : UInt8), (58 : UInt8), (61 : UInt8)] then some (.sl [[.int .i64 (2 : Int)]]) else bif 
  op == [(47 : UInt8), (61 : UInt8)] then some (.sl [[.int .i64 (2 : Int)]]) else bif op == [(61 : UInt8), (47 : UInt8), (61 : UInt8)] then some (.sl [[.int .i64 (2 : Int)]]) else bif 
  op == [(60 : UInt8)] then some (.sl [[.int .i64 (2 : Int)]]) else bif op == [(61 : UInt8), (60 : UInt8)] then some (.sl [[.int .i64 (2 : Int)]]) else bif op == [(62 : UInt8)] then some 
  (.sl [[.int .i64 (2 : Int)]]) else bif op == [(62 : UInt8), (61 : UInt8)] then some (.sl [[.int .i64 (2 : Int)]]) else bif op == [(97 : UInt8), (110 : UInt8), (100 : UInt8)] then some 
  (.sl [[.int .i64 (2 : Int)]]) else bif op == [(111 : UInt8), (114 : UInt8)] then some (.sl [[.int .i64 (2 : Int)]]) else bif op == [(120 : UInt8), (111 : UInt8), (114 : UInt8)] then 
  some (.sl [[.int .i64 (2 : Int)]]) else bif op == [(97 : UInt8), (110 : UInt8), (100 : UInt8), (97 : UInt8), (108 : UInt8), (115 : UInt8), (111 : UInt8)] then some (.sl [[.int .i64 
  (2 : Int)]]) else bif op == [(111 : UInt8), (114 : UInt8), (101 : UInt8), (108 : UInt8), (115 : UInt8), (101 : UInt8)] then some (.sl [[.int .i64 (2 : Int)]]) else bif op == [(42 : 
  UInt8)] then some (.sl [[.int .i64 (2 : Int)]]) else bif op == [(100 : UInt8), (105 : UInt8), (118 : UInt8)] then some (.sl [[.int .i64 (2 : Int)]]) else bif op == [(114 : UInt8), (101 
  : UInt8), (109 : UInt8)] then some (.sl [[.int .i64 (2 : Int)]]) else bif op == [(98 : UInt8), (97 : UInt8), (110 : UInt8), (100 : UInt8)] then some (.sl [[.int .i64 (2 : Int)]]) else 
  bif op == [(98 : UInt8), (111 : UInt8), (114 : UInt8)] then some (.sl [[.int .i64 (2 : Int)]]) else bif op == [(98 : UInt8), (120 : UInt8), (111 : UInt8), (114 : UInt8)] then some (.sl 
  [[.int .i64 (2 : Int)]]) else bif op == [(101 : UInt8), (108 : UInt8), (101 : UInt8), (109 : UInt8), (101 : UInt8), (110 : UInt8), (116 : UInt8)] then some (.sl [[.int .i64 (2 : Int)]]) 
  else some (.sl [])) P) : Gets (EVf (EV cfg) 42 ([AV.str op] : List AV)) P :=
  Gets.ev (fun _ h => funF rfl rfl Tryz.func42 rfl h) (Gets.eq (by kernel_rfl) h)
theorem guard_self_run (n : Int) {P : AV → Prop} (h : Gets (bif decide (n ≥ (1 : Int)) then some (.bool (decide (n ≤ (1073741824 : Int)))) else some (.bool false)) P) : Gets (EVs (EV cfg) 43 ([AV.int IntKind.i64 n] : List AV)) P :=
  Gets.ev (fun _ h => funS rfl rfl Tryz.func43 rfl h) (Gets.eq (by kernel_rfl) h)
theorem guard_truth_run (b : Bool) {P : AV → Prop} (h : Gets (bif b then kOpt (EVf (EV cfg) 110 [.str [(116 : UInt8), (114 : UInt8), (117 : UInt8), (101 : UInt8)]]) fun (v : AV) => kTmV v fun (n n_1 : Int) (s : List UInt8) (rows : List (List AV)) 
  => (some (.agg [.int .i64 n, .int .i64 n_1, .str s, .sl rows])) else kOpt (EVf (EV cfg) 110 [.str [(102 : UInt8), (97 : UInt8), (108 : UInt8), (115 : UInt8), (101 : UInt8)]]) fun (v 
  : AV) => kTmV v fun (n n_1 : Int) (s : List UInt8) (rows : List (List AV)) => (some (.agg [.int .i64 n, .int .i64 n_1, .str s, .sl rows]))) P) : Gets (EVf (EV cfg) 91 ([AV.bool b] : List AV)) P :=
  Gets.ev (fun _ h => funF rfl rfl Tryz.func91 rfl h) (Gets.eq (by kernel_rfl) h)
theorem guard_atom_run (s : List UInt8) {P : AV → Prop} (h : Gets (some (.agg [.int .i64 (2 : Int), .int .i64 (0 : Int), .str s, .sl []])) P) : Gets (EVf (EV cfg) 110 ([AV.str s] : List AV)) P :=
  Gets.ev (fun _ h => funF rfl rfl Tryz.func110 rfl h) (Gets.eq (by kernel_rfl) h)
theorem containsI_run (A : List (List AV)) (n : Int) {P : AV → Prop} (h : Gets (kOpt (EVs (EV cfg) 67 [.sl A, .int .i64 n]) fun (v : AV) => kInt .i64 v fun (n : Int) => some (.bool (decide (n ≥ (0 : Int))))) P) : Gets (EVs (EV cfg) 41 ([AV.sl A, AV.int IntKind.i64 n] : List AV)) P :=
  Gets.ev (fun _ h => funS rfl rfl Tryz.func41 rfl h) (Gets.eq (by kernel_rfl) h)
theorem indexI_run (A : List (List AV)) (n : Int) {P : AV → Prop} (h : Gets (wg65_0 A n (0 : Int)) P) : Gets (EVs (EV cfg) 67 ([AV.sl A, AV.int IntKind.i64 n] : List AV)) P :=
  Gets.ev (fun _ h => funS rfl rfl Tryz.func67 rfl h) (Gets.eq (by kernel_rfl) h)
theorem mRaise_run (ke : Int) (ne : Int) (se : List UInt8) (le : List (List AV)) (bd : List (List AV)) (self : Int) (bad : Bool) {P : AV × List (List AV) → Prop} (h : Gets (some (.agg [.int .i64 (0 : Int), .int .i64 (0 : Int), .str [], .sl []], [[.int .i64 ke, .int .i64 ne, .str se, .sl le, .sl bd, .int .i64 self, .bool true]])) P) : Gets (EVd (EV cfg) 83 ([AV.ptr (0 : Nat) (0 : Nat) (0 : Nat)] : List AV) 7 [[AV.int .i64 ke, AV.int .i64 ne, AV.str se, AV.sl le, AV.sl bd, AV.int .i64 self, AV.bool bad]]) P :=
  Gets.ev (fun _ h => funD rfl rfl Tryz.func83 rfl h) (Gets.eq (by kernel_rfl) h)
theorem mNumber_run (ke : Int) (ne : Int) (se : List UInt8) (le : List (List AV)) (bd : List (List AV)) (self : Int) (bad : Bool) (n : Int) {P : AV × List (List AV) → Prop} (h : Gets (bif decide (n < (-576460752303423488 : Int)) then kOpt (EVd (EV cfg) 83 [.ptr 0 0 0] 7 [[.int .i64 ke, .int .i64 ne, .str se, .sl le, .sl bd, .int .i64 self, .bool bad]]) fun (q : AV 
  × List (List AV)) => kTmV q.1 fun (n n_1 : Int) (s : List UInt8) (rows : List (List AV)) => (some (.agg [.int .i64 n, .int .i64 n_1, .str s, .sl rows], q.2)) else bif decide (n > (576460752303423487 
  : Int)) then kOpt (EVd (EV cfg) 83 [.ptr 0 0 0] 7 [[.int .i64 ke, .int .i64 ne, .str se, .sl le, .sl bd, .int .i64 self, .bool bad]]) fun (q : AV × List (List AV)) => kTmV q.1 fun (n 
  n_1 : Int) (s : List UInt8) (rows : List (List AV)) => (some (.agg [.int .i64 n, .int .i64 n_1, .str s, .sl rows], q.2)) else some (.agg [.int .i64 (1 : Int), .int .i64 n, .str [], 
  .sl []], [[.int .i64 ke, .int .i64 ne, .str se, .sl le, .sl bd, .int .i64 self, .bool bad]])) P) : Gets (EVd (EV cfg) 92 ([AV.ptr (0 : Nat) (0 : Nat) (0 : Nat), AV.int IntKind.i64 n] : List AV) 7 [[AV.int .i64 ke, AV.int .i64 ne, AV.str se, AV.sl le, AV.sl bd, AV.int .i64 self, AV.bool bad]]) P :=
  Gets.ev (fun _ h => funD rfl rfl Tryz.func92 rfl h) (Gets.eq (by kernel_rfl) h)
theorem mProduct_run (ke : Int) (ne : Int) (se : List UInt8) (le : List (List AV)) (bd : List (List AV)) (self : Int) (bad : Bool) (a : Int) (b : Int) {P : AV × List (List AV) → Prop} (h : Gets (bif decide (a < (0 : Int)) then bif decide (b < (0 : Int)) then kOpt (EVs (EV cfg) 127 [.int .u64 (IntKind.wrap .u64 (IntKind.wrap .i64 ((0 : Int) - a))), .int .u64 (IntKind.wrap .u64 
  (IntKind.wrap .i64 ((0 : Int) - b)))]) fun (v : AV) => kTup v fun (cs : List AV) => kCons cs fun (c : AV) (cs : List AV) => kInt .u64 c fun (n : Int) => kCons cs fun (c : AV) (cs : 
  List AV) => kInt .u64 c fun (n_1 : Int) => kNil cs (bif decide (n > (0 : Int)) then kOpt (EVd (EV cfg) 83 [.ptr 0 0 0] 7 [[.int .i64 ke, .int .i64 ne, .str se, .sl le, .sl bd, .int 
  .i64 self, .bool bad]]) fun (q : AV × List (List AV)) => kTmV q.1 fun (n n_2 : Int) (s : List UInt8) (rows : List (List AV)) => (some (.agg [.int .i64 n, .int .i64 n_2, .str s, .sl 
  rows], q.2)) else bif decide (n_1 > (576460752303423488 : Int)) then kOpt (EVd (EV cfg) 83 [.ptr 0 0 0] 7 [[.int .i64 ke, .int .i64 ne, .str se, .sl le, .sl bd, .int .i64 self, .bool 
  bad]]) fun (q : AV × List (List AV)) => kTmV q.1 fun (n n_2 : Int) (s : List UInt8) (rows : List (List AV)) => (some (.agg [.int .i64 n, .int .i64 n_2, .str s, .sl rows], q.2)) else 
  kOpt (EVd (EV cfg) 92 [.ptr 0 0 0, .int .i64 (IntKind.wrap .i64 ((1 : Int) * IntKind.wrap .i64 n_1))] 7 [[.int .i64 ke, .int .i64 ne, .str se, .sl le, .sl bd, .int .i64 self, .bool 
  bad]]) fun (q : AV × List (List AV)) => kTmV q.1 fun (n n_2 : Int) (s : List UInt8) (rows : List (List AV)) => (some (.agg [.int .i64 n, .int .i64 n_2, .str s, .sl rows], q.2))) else 
  kOpt (EVs (EV cfg) 127 [.int .u64 (IntKind.wrap .u64 (IntKind.wrap .i64 ((0 : Int) - a))), .int .u64 (IntKind.wrap .u64 b)]) fun (v : AV) => kTup v fun (cs : List AV) => kCons cs fun 
  (c : AV) (cs : List AV) => kInt .u64 c fun (n : Int) => kCons cs fun (c : AV) (cs : List AV) => kInt .u64 c fun (n_1 : Int) => kNil cs (bif decide (n > (0 : Int)) then kOpt (EVd (EV 
  cfg) 83 [.ptr 0 0 0] 7 [[.int .i64 ke, .int .i64 ne, .str se, .sl le, .sl bd, .int .i64 self, .bool bad]]) fun (q : AV × List (List AV)) => kTmV q.1 fun (n n_2 : Int) (s : List UInt8) 
  (rows : List (List AV)) => (some (.agg [.int .i64 n, .int .i64 n_2, .str s, .sl rows], q.2)) else bif decide (n_1 > (576460752303423488 : Int)) then kOpt (EVd (EV cfg) 83 [.ptr 0 0 
  0] 7 [[.int .i64 ke, .int .i64 ne, .str se, .sl le, .sl bd, .int .i64 self, .bool bad]]) fun (q : AV × List (List AV)) => kTmV q.1 fun (n n_2 : Int) (s : List UInt8) (rows : List (List 
  AV)) => (some (.agg [.int .i64 n, .int .i64 n_2, .str s, .sl rows], q.2)) else kOpt (EVd (EV cfg) 92 [.ptr 0 0 0, .int .i64 (IntKind.wrap .i64 ((-1 : Int) * IntKind.wrap .i64 n_1))] 
  7 [[.int .i64 ke, .int .i64 ne, .str se, .sl le, .sl bd, .int .i64 self, .bool bad]]) fun (q : AV × List (List AV)) => kTmV q.1 fun (n n_2 : Int) (s : List UInt8) (rows : List (List 
  AV)) => (some (.agg [.int .i64 n, .int .i64 n_2, .str s, .sl rows], q.2))) else bif decide (b < (0 : Int)) then kOpt (EVs (EV cfg) 127 [.int .u64 (IntKind.wrap .u64 a), .int .u64 (IntKind.wrap 
  .u64 (IntKind.wrap .i64 ((0 : Int) - b)))]) fun (v : AV) => kTup v fun (cs : List AV) => kCons cs fun (c : AV) (cs : List AV) => kInt .u64 c fun (n : Int) => kCons cs fun (c : AV) (cs 
  : List AV) => kInt .u64 c fun (n_1 : Int) => kNil cs (bif decide (n > (0 : Int)) then kOpt (EVd (EV cfg) 83 [.ptr 0 0 0] 7 [[.int .i64 ke, .int .i64 ne, .str se, .sl le, .sl bd, .int 
  .i64 self, .bool bad]]) fun (q : AV × List (List AV)) => kTmV q.1 fun (n n_2 : Int) (s : List UInt8) (rows : List (List AV)) => (some (.agg [.int .i64 n, .int .i64 n_2, .str s, .sl 
  rows], q.2)) else bif decide (n_1 > (576460752303423488 : Int)) then kOpt (EVd (EV cfg) 83 [.ptr 0 0 0] 7 [[.int .i64 ke, .int .i64 ne, .str se, .sl le, .sl bd, .int .i64 self, .bool 
  bad]]) fun (q : AV × List (List AV)) => kTmV q.1 fun (n n_2 : Int) (s : List UInt8) (rows : List (List AV)) => (some (.agg [.int .i64 n, .int .i64 n_2, .str s, .sl rows], q.2)) else 
  kOpt (EVd (EV cfg) 92 [.ptr 0 0 0, .int .i64 (IntKind.wrap .i64 ((-1 : Int) * IntKind.wrap .i64 n_1))] 7 [[.int .i64 ke, .int .i64 ne, .str se, .sl le, .sl bd, .int .i64 self, .bool 
  bad]]) fun (q : AV × List (List AV)) => kTmV q.1 fun (n n_2 : Int) (s : List UInt8) (rows : List (List AV)) => (some (.agg [.int .i64 n, .int .i64 n_2, .str s, .sl rows], q.2))) else 
  kOpt (EVs (EV cfg) 127 [.int .u64 (IntKind.wrap .u64 a), .int .u64 (IntKind.wrap .u64 b)]) fun (v : AV) => kTup v fun (cs : List AV) => kCons cs fun (c : AV) (cs : List AV) => kInt 
  .u64 c fun (n : Int) => kCons cs fun (c : AV) (cs : List AV) => kInt .u64 c fun (n_1 : Int) => kNil cs (bif decide (n > (0 : Int)) then kOpt (EVd (EV cfg) 83 [.ptr 0 0 0] 7 [[.int .i64 
  ke, .int .i64 ne, .str se, .sl le, .sl bd, .int .i64 self, .bool bad]]) fun (q : AV × List (List AV)) => kTmV q.1 fun (n n_2 : Int) (s : List UInt8) (rows : List (List AV)) => (some 
  (.agg [.int .i64 n, .int .i64 n_2, .str s, .sl rows], q.2)) else bif decide (n_1 > (576460752303423488 : Int)) then kOpt (EVd (EV cfg) 83 [.ptr 0 0 0] 7 [[.int .i64 ke, .int .i64 ne, 
  .str se, .sl le, .sl bd, .int .i64 self, .bool bad]]) fun (q : AV × List (List AV)) => kTmV q.1 fun (n n_2 : Int) (s : List UInt8) (rows : List (List AV)) => (some (.agg [.int .i64 
  n, .int .i64 n_2, .str s, .sl rows], q.2)) else kOpt (EVd (EV cfg) 92 [.ptr 0 0 0, .int .i64 (IntKind.wrap .i64 ((1 : Int) * IntKind.wrap .i64 n_1))] 7 [[.int .i64 ke, .int .i64 ne, 
  .str se, .sl le, .sl bd, .int .i64 self, .bool bad]]) fun (q : AV × List (List AV)) => kTmV q.1 fun (n n_2 : Int) (s : List UInt8) (rows : List (List AV)) => (some (.agg [.int .i64 
  n, .int .i64 n_2, .str s, .sl rows], q.2)))) P) : Gets (EVd (EV cfg) 116 ([AV.ptr (0 : Nat) (0 : Nat) (0 : Nat), AV.int IntKind.i64 a, AV.int IntKind.i64 b] : List AV) 7 [[AV.int .i64 ke, AV.int .i64 ne, AV.str se, AV.sl le, AV.sl bd, AV.int .i64 self, AV.bool bad]]) P :=
  Gets.ev (fun _ h => funD rfl rfl Tryz.func116 rfl h) (Gets.eq (by kernel_rfl) h)
theorem mNumbers_run (ke : Int) (ne : Int) (se : List UInt8) (le : List (List AV)) (bd : List (List AV)) (self : Int) (bad : Bool) (op : List UInt8) (a : Int) (b : Int) {P : AV × List (List AV) → Prop} (h : Gets (bif bad then some (.agg [.int .i64 (0 : Int), .int .i64 (0 : Int), .str [], .sl []], [[.int .i64 ke, .int .i64 ne, .str se, .sl le, .sl bd, .int .i64 self, .bool bad]]) else bif op 
  == [(43 : UInt8)] then kOpt (EVd (EV cfg) 92 [.ptr 0 0 0, .int .i64 (IntKind.wrap .i64 (a + b))] 7 [[.int .i64 ke, .int .i64 ne, .str se, .sl le, .sl bd, .int .i64 self, .bool bad]]) 
  fun (q : AV × List (List AV)) => kTmV q.1 fun (n n_1 : Int) (s : List UInt8) (rows : List (List AV)) => (some (.agg [.int .i64 n, .int .i64 n_1, .str s, .sl rows], q.2)) else bif op 
  == [(45 : UInt8)] then kOpt (EVd (EV cfg) 92 [.ptr 0 0 0, .int .i64 (IntKind.wrap .i64 (a - b))] 7 [[.int .i64 ke, .int .i64 ne, .str se, .sl le, .sl bd, .int .i64 self, .bool bad]]) 
  fun (q : AV × List (List AV)) => kTmV q.1 fun (n n_1 : Int) (s : List UInt8) (rows : List (List AV)) => (some (.agg [.int .i64 n, .int .i64 n_1, .str s, .sl rows], q.2)) else bif op 
  == [(42 : UInt8)] then kOpt (EVd (EV cfg) 116 [.ptr 0 0 0, .int .i64 a, .int .i64 b] 7 [[.int .i64 ke, .int .i64 ne, .str se, .sl le, .sl bd, .int .i64 self, .bool bad]]) fun (q : AV 
  × List (List AV)) => kTmV q.1 fun (n n_1 : Int) (s : List UInt8) (rows : List (List AV)) => (some (.agg [.int .i64 n, .int .i64 n_1, .str s, .sl rows], q.2)) else bif op == [(98 : UInt8), 
  (97 : UInt8), (110 : UInt8), (100 : UInt8)] then kOpt (fromSem (Op.intBits BinOp.and .i64 a b)) fun (v : AV) => kInt .i64 v fun (n : Int) => kOpt (EVd (EV cfg) 92 [.ptr 0 0 0, .int 
  .i64 n] 7 [[.int .i64 ke, .int .i64 ne, .str se, .sl le, .sl bd, .int .i64 self, .bool bad]]) fun (q : AV × List (List AV)) => kTmV q.1 fun (n n_1 : Int) (s : List UInt8) (rows : List 
  (List AV)) => (some (.agg [.int .i64 n, .int .i64 n_1, .str s, .sl rows], q.2)) else bif op == [(98 : UInt8), (111 : UInt8), (114 : UInt8)] then kOpt (fromSem (Op.intBits BinOp.or .i64 
  a b)) fun (v : AV) => kInt .i64 v fun (n : Int) => kOpt (EVd (EV cfg) 92 [.ptr 0 0 0, .int .i64 n] 7 [[.int .i64 ke, .int .i64 ne, .str se, .sl le, .sl bd, .int .i64 self, .bool bad]]) 
  fun (q : AV × List (List AV)) => kTmV q.1 fun (n n_1 : Int) (s : List UInt8) (rows : List (List AV)) => (some (.agg [.int .i64 n, .int .i64 n_1, .str s, .sl rows], q.2)) else bif op 
  == [(98 : UInt8), (120 : UInt8), (111 : UInt8), (114 : UInt8)] then kOpt (fromSem (Op.intBits BinOp.xor .i64 a b)) fun (v : AV) => kInt .i64 v fun (n : Int) => kOpt (EVd (EV cfg) 92 
  [.ptr 0 0 0, .int .i64 n] 7 [[.int .i64 ke, .int .i64 ne, .str se, .sl le, .sl bd, .int .i64 self, .bool bad]]) fun (q : AV × List (List AV)) => kTmV q.1 fun (n n_1 : Int) (s : List 
  UInt8) (rows : List (List AV)) => (some (.agg [.int .i64 n, .int .i64 n_1, .str s, .sl rows], q.2)) else bif b == (0 : Int) then kOpt (EVd (EV cfg) 83 [.ptr 0 0 0] 7 [[.int .i64 ke, 
  .int .i64 ne, .str se, .sl le, .sl bd, .int .i64 self, .bool bad]]) fun (q : AV × List (List AV)) => kTmV q.1 fun (n n_1 : Int) (s : List UInt8) (rows : List (List AV)) => (some (.agg 
  [.int .i64 n, .int .i64 n_1, .str s, .sl rows], q.2)) else bif op == [(100 : UInt8), (105 : UInt8), (118 : UInt8)] then kOpt (fromSem (Op.intDiv BinOp.quo .i64 a b)) fun (v : AV) => 
  kInt .i64 v fun (n : Int) => kOpt (EVd (EV cfg) 92 [.ptr 0 0 0, .int .i64 n] 7 [[.int .i64 ke, .int .i64 ne, .str se, .sl le, .sl bd, .int .i64 self, .bool bad]]) fun (q : AV × List 
  (List AV)) => kTmV q.1 fun (n n_1 : Int) (s : List UInt8) (rows : List (List AV)) => (some (.agg [.int .i64 n, .int .i64 n_1, .str s, .sl rows], q.2)) else kOpt (fromSem (Op.intDiv 
  BinOp.rem .i64 a b)) fun (v : AV) => kInt .i64 v fun (n : Int) => kOpt (EVd (EV cfg) 92 [.ptr 0 0 0, .int .i64 n] 7 [[.int .i64 ke, .int .i64 ne, .str se, .sl le, .sl bd, .int .i64 
  self, .bool bad]]) fun (q : AV × List (List AV)) => kTmV q.1 fun (n n_1 : Int) (s : List UInt8) (rows : List (List AV)) => (some (.agg [.int .i64 n, .int .i64 n_1, .str s, .sl rows], 
  q.2))) P) : Gets (EVd (EV cfg) 96 ([AV.ptr (0 : Nat) (0 : Nat) (0 : Nat), AV.str op, AV.int IntKind.i64 a, AV.int IntKind.i64 b] : List AV) 7 [[AV.int .i64 ke, AV.int .i64 ne, AV.str se, AV.sl le, AV.sl bd, AV.int .i64 self, AV.bool bad]]) P :=
  Gets.ev (fun _ h => funD rfl rfl Tryz.func96 rfl h) (Gets.eq (by kernel_rfl) h)
theorem mInt_run (ke : Int) (ne : Int) (se : List UInt8) (le : List (List AV)) (bd : List (List AV)) (self : Int) (bad : Bool) (kt : Int) (nt : Int) (st : List UInt8) (lt : List (List AV)) {P : MV × List (List AV) → Prop} (h : Gets (bif kt != (1 : Int) then kOpt (EVd (EV cfg) 83 [.ptr 0 0 0] 7 [[.int .i64 ke, .int .i64 ne, .str se, .sl le, .sl bd, .int .i64 self, .bool bad]]) fun (q : AV × List (List AV)) => kTmV 
  q.1 fun (n n : Int) (s : List UInt8) (rows : List (List AV)) => (some (MV.int .i64 nt, q.2)) else some (MV.int .i64 nt, [[.int .i64 ke, .int .i64 ne, .str se, .sl le, .sl bd, .int .i64 
  self, .bool bad]])) P) : Gets (EVm (EV cfg) 93 ([AV.ptr (0 : Nat) (0 : Nat) (0 : Nat), AV.agg [AV.int IntKind.i64 kt, AV.int IntKind.i64 nt, AV.str st, AV.sl lt]] : List AV) 7 [[AV.int .i64 ke, AV.int .i64 ne, AV.str se, AV.sl le, AV.sl bd, AV.int .i64 self, AV.bool bad]]) P :=
  Gets.ev (fun _ h => funM rfl rfl Tryz.func93 rfl h) (Gets.eq (by kernel_rfl) h)
theorem mBool_run (ke : Int) (ne : Int) (se : List UInt8) (le : List (List AV)) (bd : List (List AV)) (self : Int) (bad : Bool) (kt : Int) (nt : Int) (st : List UInt8) (lt : List (List AV)) {P : MV × List (List AV) → Prop} (h : Gets (bif kt != (2 : Int) then kOpt (EVd (EV cfg) 83 [.ptr 0 0 0] 7 [[.int .i64 ke, .int .i64 ne, .str se, .sl le, .sl bd, .int .i64 self, .bool bad]]) fun (q : AV × List (List AV)) => kTmV 
  q.1 fun (n n : Int) (s : List UInt8) (rows : List (List AV)) => (some (MV.bool (st == [(116 : UInt8), (114 : UInt8), (117 : UInt8), (101 : UInt8)]), q.2)) else bif !st == [(116 : UInt8), 
  (114 : UInt8), (117 : UInt8), (101 : UInt8)] then bif !st == [(102 : UInt8), (97 : UInt8), (108 : UInt8), (115 : UInt8), (101 : UInt8)] then kOpt (EVd (EV cfg) 83 [.ptr 0 0 0] 7 [[.int 
  .i64 ke, .int .i64 ne, .str se, .sl le, .sl bd, .int .i64 self, .bool bad]]) fun (q : AV × List (List AV)) => kTmV q.1 fun (n n : Int) (s : List UInt8) (rows : List (List AV)) => (some 
  (MV.bool (st == [(116 : UInt8), (114 : UInt8), (117 : UInt8), (101 : UInt8)]), q.2)) else some (MV.bool (st == [(116 : UInt8), (114 : UInt8), (117 : UInt8), (101 : UInt8)]), [[.int 
  .i64 ke, .int .i64 ne, .str se, .sl le, .sl bd, .int .i64 self, .bool bad]]) else some (MV.bool (st == [(116 : UInt8), (114 : UInt8), (117 : UInt8), (101 : UInt8)]), [[.int .i64 ke, 
  .int .i64 ne, .str se, .sl le, .sl bd, .int .i64 self, .bool bad]])) P) : Gets (EVm (EV cfg) 57 ([AV.ptr (0 : Nat) (0 : Nat) (0 : Nat), AV.agg [AV.int IntKind.i64 kt, AV.int IntKind.i64 nt, AV.str st, AV.sl lt]] : List AV) 7 [[AV.int .i64 ke, AV.int .i64 ne, AV.str se, AV.sl le, AV.sl bd, AV.int .i64 self, AV.bool bad]]) P :=
  Gets.ev (fun _ h => funM rfl rfl Tryz.func57 rfl h) (Gets.eq (by kernel_rfl) h)
theorem mTwo_run (ke : Int) (ne : Int) (se : List UInt8) (le : List (List AV)) (bd : List (List AV)) (self : Int) (bad : Bool) (op : List UInt8) (ka : Int) (na : Int) (sa : List UInt8) (la : List (List AV)) (kb : Int) (nb : Int) (sb : List UInt8) (lb : List (List AV)) {P : AV × List (List AV) → Prop} (h : Gets (bif op == [(61 : UInt8), (61 : UInt8)] then kOpt (EVs (EV cfg) 95 [.agg [.int .i64 ka, .int .i64 na, .str sa, .sl la], .agg [.int .i64 kb, .int .i64 nb, .str sb, .sl lb]]) fun (v : 
  AV) => kInt .i64 v fun (n : Int) => kOpt (EVf (EV cfg) 91 [.bool (n == (0 : Int))]) fun (v : AV) => kTmV v fun (n n_1 : Int) (s : List UInt8) (rows : List (List AV)) => (some (.agg 
  [.int .i64 n, .int .i64 n_1, .str s, .sl rows], [[.int .i64 ke, .int .i64 ne, .str se, .sl le, .sl bd, .int .i64 self, .bool bad]])) else bif op == [(61 : UInt8), (58 : UInt8), (61 
  : UInt8)] then kOpt (EVs (EV cfg) 95 [.agg [.int .i64 ka, .int .i64 na, .str sa, .sl la], .agg [.int .i64 kb, .int .i64 nb, .str sb, .sl lb]]) fun (v : AV) => kInt .i64 v fun (n : Int) 
  => kOpt (EVf (EV cfg) 91 [.bool (n == (0 : Int))]) fun (v : AV) => kTmV v fun (n n_1 : Int) (s : List UInt8) (rows : List (List AV)) => (some (.agg [.int .i64 n, .int .i64 n_1, .str 
  s, .sl rows], [[.int .i64 ke, .int .i64 ne, .str se, .sl le, .sl bd, .int .i64 self, .bool bad]])) else bif op == [(47 : UInt8), (61 : UInt8)] then kOpt (EVs (EV cfg) 95 [.agg [.int 
  .i64 ka, .int .i64 na, .str sa, .sl la], .agg [.int .i64 kb, .int .i64 nb, .str sb, .sl lb]]) fun (v : AV) => kInt .i64 v fun (n : Int) => kOpt (EVf (EV cfg) 91 [.bool (n != (0 : Int))]) 
  fun (v : AV) => kTmV v fun (n n_1 : Int) (s : List UInt8) (rows : List (List AV)) => (some (.agg [.int .i64 n, .int .i64 n_1, .str s, .sl rows], [[.int .i64 ke, .int .i64 ne, .str se, 
  .sl le, .sl bd, .int .i64 self, .bool bad]])) else bif op == [(61 : UInt8), (47 : UInt8), (61 : UInt8)] then kOpt (EVs (EV cfg) 95 [.agg [.int .i64 ka, .int .i64 na, .str sa, .sl la], 
  .agg [.int .i64 kb, .int .i64 nb, .str sb, .sl lb]]) fun (v : AV) => kInt .i64 v fun (n : Int) => kOpt (EVf (EV cfg) 91 [.bool (n != (0 : Int))]) fun (v : AV) => kTmV v fun (n n_1 : 
  Int) (s : List UInt8) (rows : List (List AV)) => (some (.agg [.int .i64 n, .int .i64 n_1, .str s, .sl rows], [[.int .i64 ke, .int .i64 ne, .str se, .sl le, .sl bd, .int .i64 self, .bool 
  bad]])) else bif op == [(60 : UInt8)] then kOpt (EVs (EV cfg) 95 [.agg [.int .i64 ka, .int .i64 na, .str sa, .sl la], .agg [.int .i64 kb, .int .i64 nb, .str sb, .sl lb]]) fun (v : AV) 
  => kInt .i64 v fun (n : Int) => kOpt (EVf (EV cfg) 91 [.bool (decide (n < (0 : Int)))]) fun (v : AV) => kTmV v fun (n n_1 : Int) (s : List UInt8) (rows : List (List AV)) => (some (.agg 
  [.int .i64 n, .int .i64 n_1, .str s, .sl rows], [[.int .i64 ke, .int .i64 ne, .str se, .sl le, .sl bd, .int .i64 self, .bool bad]])) else bif op == [(61 : UInt8), (60 : UInt8)] then 
  kOpt (EVs (EV cfg) 95 [.agg [.int .i64 ka, .int .i64 na, .str sa, .sl la], .agg [.int .i64 kb, .int .i64 nb, .str sb, .sl lb]]) fun (v : AV) => kInt .i64 v fun (n : Int) => kOpt (EVf 
  (EV cfg) 91 [.bool (decide (n ≤ (0 : Int)))]) fun (v : AV) => kTmV v fun (n n_1 : Int) (s : List UInt8) (rows : List (List AV)) => (some (.agg [.int .i64 n, .int .i64 n_1, .str s, .sl 
  rows], [[.int .i64 ke, .int .i64 ne, .str se, .sl le, .sl bd, .int .i64 self, .bool bad]])) else bif op == [(62 : UInt8)] then kOpt (EVs (EV cfg) 95 [.agg [.int .i64 ka, .int .i64 na, 
  .str sa, .sl la], .agg [.int .i64 kb, .int .i64 nb, .str sb, .sl lb]]) fun (v : AV) => kInt .i64 v fun (n : Int) => kOpt (EVf (EV cfg) 91 [.bool (decide (n > (0 : Int)))]) fun (v : 
  AV) => kTmV v fun (n n_1 : Int) (s : List UInt8) (rows : List (List AV)) => (some (.agg [.int .i64 n, .int .i64 n_1, .str s, .sl rows], [[.int .i64 ke, .int .i64 ne, .str se, .sl le, 
  .sl bd, .int .i64 self, .bool bad]])) else bif op == [(62 : UInt8), (61 : UInt8)] then kOpt (EVs (EV cfg) 95 [.agg [.int .i64 ka, .int .i64 na, .str sa, .sl la], .agg [.int .i64 kb, 
  .int .i64 nb, .str sb, .sl lb]]) fun (v : AV) => kInt .i64 v fun (n : Int) => kOpt (EVf (EV cfg) 91 [.bool (decide (n ≥ (0 : Int)))]) fun (v : AV) => kTmV v fun (n n_1 : Int) (s : List 
  UInt8) (rows : List (List AV)) => (some (.agg [.int .i64 n, .int .i64 n_1, .str s, .sl rows], [[.int .i64 ke, .int .i64 ne, .str se, .sl le, .sl bd, .int .i64 self, .bool bad]])) else 
  bif op == [(97 : UInt8), (110 : UInt8), (100 : UInt8)] then kOpt (EVm (EV cfg) 57 [.ptr 0 0 0, .agg [.int .i64 ka, .int .i64 na, .str sa, .sl la]] 7 [[.int .i64 ke, .int .i64 ne, .str 
  se, .sl le, .sl bd, .int .i64 self, .bool bad]]) fun (q : MV × List (List AV)) => kMBool q.1 fun (b : Bool) => kOpt (EVm (EV cfg) 57 [.ptr 0 0 0, .agg [.int .i64 kb, .int .i64 nb, .str 
  sb, .sl lb]] 7 q.2) fun (q : MV × List (List AV)) => kMBool q.1 fun (b_1 : Bool) => bif b then kOpt (EVf (EV cfg) 91 [.bool b_1]) fun (v : AV) => kTmV v fun (n n_1 : Int) (s : List 
  UInt8) (rows : List (List AV)) => (some (.agg [.int .i64 n, .int .i64 n_1, .str s, .sl rows], q.2)) else kOpt (EVf (EV cfg) 91 [.bool false]) fun (v : AV) => kTmV v fun (n n_1 : Int) 
  (s : List UInt8) (rows : List (List AV)) => (some (.agg [.int .i64 n, .int .i64 n_1, .str s, .sl rows], q.2)) else bif op == [(97 : UInt8), (110 : UInt8), (100 : UInt8), (97 : UInt8), 
  (108 : UInt8), (115 : UInt8), (111 : UInt8)] then kOpt (EVm (EV cfg) 57 [.ptr 0 0 0, .agg [.int .i64 ka, .int .i64 na, .str sa, .sl la]] 7 [[.int .i64 ke, .int .i64 ne, .str se, .sl 
  le, .sl bd, .int .i64 self, .bool bad]]) fun (q : MV × List (List AV)) => kMBool q.1 fun (b : Bool) => kOpt (EVm (EV cfg) 57 [.ptr 0 0 0, .agg [.int .i64 kb, .int .i64 nb, .str sb, 
  .sl lb]] 7 q.2) fun (q : MV × List (List AV)) => kMBool q.1 fun (b_1 : Bool) => bif b then kOpt (EVf (EV cfg) 91 [.bool b_1]) fun (v : AV) => kTmV v fun (n n_1 : Int) (s : List UInt8) 
  (rows : List (List AV)) => (some (.agg [.int .i64 n, .int .i64 n_1, .str s, .sl rows], q.2)) else kOpt (EVf (EV cfg) 91 [.bool false]) fun (v : AV) => kTmV v fun (n n_1 : Int) (s : 
  List UInt8) (rows : List (List AV)) => (some (.agg [.int .i64 n, .int .i64 n_1, .str s, .sl rows], q.2)) else bif op == [(111 : UInt8), (114 : UInt8)] then kOpt (EVm (EV cfg) 57 [.ptr 
  0 0 0, .agg [.int .i64 ka, .int .i64 na, .str sa, .sl la]] 7 [[.int .i64 ke, .int .i64 ne, .str se, .sl le, .sl bd, .int .i64 self, .bool bad]]) fun (q : MV × List (List AV)) => kMBool 
  q.1 fun (b : Bool) => kOpt (EVm (EV cfg) 57 [.ptr 0 0 0, .agg [.int .i64 kb, .int .i64 nb, .str sb, .sl lb]] 7 q.2) fun (q : MV × List (List AV)) => kMBool q.1 fun (b_1 : Bool) => bif 
  b then kOpt (EVf (EV cfg) 91 [.bool true]) fun (v : AV) => kTmV v fun (n n_1 : Int) (s : List UInt8) (rows : List (List AV)) => (some (.agg [.int .i64 n, .int .i64 n_1, .str s, .sl 
  rows], q.2)) else kOpt (EVf (EV cfg) 91 [.bool b_1]) fun (v : AV) => kTmV v fun (n n_1 : Int) (s : List UInt8) (rows : List (List AV)) => (some (.agg [.int .i64 n, .int .i64 n_1, .str 
  s, .sl rows], q.2)) else bif op == [(111 : UInt8), (114 : UInt8), (101 : UInt8), (108 : UInt8), (115 : UInt8), (101 : UInt8)] then kOpt (EVm (EV cfg) 57 [.ptr 0 0 0, .agg [.int .i64 
  ka, .int .i64 na, .str sa, .sl la]] 7 [[.int .i64 ke, .int .i64 ne, .str se, .sl le, .sl bd, .int .i64 self, .bool bad]]) fun (q : MV × List (List AV)) => kMBool q.1 fun (b : Bool) 
  => kOpt (EVm (EV cfg) 57 [.ptr 0 0 0, .agg [.int .i64 kb, .int .i64 nb, .str sb, .sl lb]] 7 q.2) fun (q : MV × List (List AV)) => kMBool q.1 fun (b_1 : Bool) => bif b then kOpt (EVf 
  (EV cfg) 91 [.bool true]) fun (v : AV) => kTmV v fun (n n_1 : Int) (s : List UInt8) (rows : List (List AV)) => (some (.agg [.int .i64 n, .int .i64 n_1, .str s, .sl rows], q.2)) else 
  kOpt (EVf (EV cfg) 91 [.bool b_1]) fun (v : AV) => kTmV v fun (n n_1 : Int) (s : List UInt8) (rows : List (List AV)) => (some (.agg [.int .i64 n, .int .i64 n_1, .str s, .sl rows], q.2)) 
  else bif op == [(120 : UInt8), (111 : UInt8), (114 : UInt8)] then kOpt (EVm (EV cfg) 57 [.ptr 0 0 0, .agg [.int .i64 ka, .int .i64 na, .str sa, .sl la]] 7 [[.int .i64 ke, .int .i64 
  ne, .str se, .sl le, .sl bd, .int .i64 self, .bool bad]]) fun (q : MV × List (List AV)) => kMBool q.1 fun (b : Bool) => kOpt (EVm (EV cfg) 57 [.ptr 0 0 0, .agg [.int .i64 kb, .int .i64 
  nb, .str sb, .sl lb]] 7 q.2) fun (q : MV × List (List AV)) => kMBool q.1 fun (b_1 : Bool) => kOpt (EVf (EV cfg) 91 [.bool !b == b_1]) fun (v : AV) => kTmV v fun (n n_1 : Int) (s : List 
  UInt8) (rows : List (List AV)) => (some (.agg [.int .i64 n, .int .i64 n_1, .str s, .sl rows], q.2)) else bif op == [(101 : UInt8), (108 : UInt8), (101 : UInt8), (109 : UInt8), (101 
  : UInt8), (110 : UInt8), (116 : UInt8)] then kOpt (EVm (EV cfg) 93 [.ptr 0 0 0, .agg [.int .i64 ka, .int .i64 na, .str sa, .sl la]] 7 [[.int .i64 ke, .int .i64 ne, .str se, .sl le, 
  .sl bd, .int .i64 self, .bool bad]]) fun (q : MV × List (List AV)) => kMInt .i64 q.1 fun (n : Int) => bif decide (n ≥ (1 : Int)) then bif kb == (7 : Int) then bif decide (n ≤ (↑(List.length 
  lb) : Int)) then bif leInt (0 : Int) (IntKind.wrap .i64 (n - (1 : Int))) && ltInt (IntKind.wrap .i64 (n - (1 : Int))) (↑(List.length lb) : Int) then kOpt (List.get?Internal lb (Int.toNat 
  (IntKind.wrap .i64 (n - (1 : Int))))) fun (row : List AV) => bif Nat.beq (List.length row) 4 then bif Nat.ble 4 (List.length row) then kTmC (List.take 4 row) fun (n n_1 : Int) (s : 
  List UInt8) (rows : List (List AV)) => (some (.agg [.int .i64 n, .int .i64 n_1, .str s, .sl rows], q.2)) else none else none else none else kOpt (EVd (EV cfg) 83 [.ptr 0 0 0] 7 q.2) 
  fun (q : AV × List (List AV)) => kTmV q.1 fun (n n_1 : Int) (s : List UInt8) (rows : List (List AV)) => (some (.agg [.int .i64 n, .int .i64 n_1, .str s, .sl rows], q.2)) else kOpt (EVd 
  (EV cfg) 83 [.ptr 0 0 0] 7 q.2) fun (q : AV × List (List AV)) => kTmV q.1 fun (n n_1 : Int) (s : List UInt8) (rows : List (List AV)) => (some (.agg [.int .i64 n, .int .i64 n_1, .str 
  s, .sl rows], q.2)) else kOpt (EVd (EV cfg) 83 [.ptr 0 0 0] 7 q.2) fun (q : AV × List (List AV)) => kTmV q.1 fun (n n_1 : Int) (s : List UInt8) (rows : List (List AV)) => (some (.agg 
  [.int .i64 n, .int .i64 n_1, .str s, .sl rows], q.2)) else kOpt (EVm (EV cfg) 93 [.ptr 0 0 0, .agg [.int .i64 ka, .int .i64 na, .str sa, .sl la]] 7 [[.int .i64 ke, .int .i64 ne, .str 
  se, .sl le, .sl bd, .int .i64 self, .bool bad]]) fun (q : MV × List (List AV)) => kMInt .i64 q.1 fun (n : Int) => kOpt (EVm (EV cfg) 93 [.ptr 0 0 0, .agg [.int .i64 kb, .int .i64 nb, 
  .str sb, .sl lb]] 7 q.2) fun (q : MV × List (List AV)) => kMInt .i64 q.1 fun (n_1 : Int) => kOpt (EVd (EV cfg) 96 [.ptr 0 0 0, .str op, .int .i64 n, .int .i64 n_1] 7 q.2) fun (q : AV 
  × List (List AV)) => kTmV q.1 fun (n n_2 : Int) (s : List UInt8) (rows : List (List AV)) => (some (.agg [.int .i64 n, .int .i64 n_2, .str s, .sl rows], q.2))) P) : Gets (EVd (EV cfg) 72 ([AV.ptr (0 : Nat) (0 : Nat) (0 : Nat), AV.str op, AV.agg [AV.int IntKind.i64 ka, AV.int IntKind.i64 na, AV.str sa, AV.sl la], AV.agg [AV.int IntKind.i64 kb, AV.int IntKind.i64 nb, AV.str sb, AV.sl lb]] : List AV) 7 [[AV.int .i64 ke, AV.int .i64 ne, AV.str se, AV.sl le, AV.sl bd, AV.int .i64 self, AV.bool bad]]) P :=
  Gets.ev (fun _ h => funD rfl rfl Tryz.func72 rfl h) (Gets.eq (by kernel_rfl) h)
theorem mOne_run (ke : Int) (ne : Int) (se : List UInt8) (le : List (List AV)) (bd : List (List AV)) (self : Int) (bad : Bool) (op : List UInt8) (kt : Int) (nt : Int) (st : List UInt8) (lt : List (List AV)) {P : AV × List (List AV) → Prop} (h : Gets (bif op == [(105 : UInt8), (115 : UInt8), (95 : UInt8), (97 : UInt8), (116 : UInt8), (111 : UInt8), (109 : UInt8)] then kOpt (EVf (EV cfg) 91 [.bool (kt == (2 : Int))]) fun (v : AV) 
  => kTmV v fun (n n_1 : Int) (s : List UInt8) (rows : List (List AV)) => (some (.agg [.int .i64 n, .int .i64 n_1, .str s, .sl rows], [[.int .i64 ke, .int .i64 ne, .str se, .sl le, .sl 
  bd, .int .i64 self, .bool bad]])) else bif op == [(105 : UInt8), (115 : UInt8), (95 : UInt8), (105 : UInt8), (110 : UInt8), (116 : UInt8), (101 : UInt8), (103 : UInt8), (101 : UInt8), 
  (114 : UInt8)] then kOpt (EVf (EV cfg) 91 [.bool (kt == (1 : Int))]) fun (v : AV) => kTmV v fun (n n_1 : Int) (s : List UInt8) (rows : List (List AV)) => (some (.agg [.int .i64 n, .int 
  .i64 n_1, .str s, .sl rows], [[.int .i64 ke, .int .i64 ne, .str se, .sl le, .sl bd, .int .i64 self, .bool bad]])) else bif op == [(105 : UInt8), (115 : UInt8), (95 : UInt8), (108 : 
  UInt8), (105 : UInt8), (115 : UInt8), (116 : UInt8)] then bif kt == (9 : Int) then kOpt (EVf (EV cfg) 91 [.bool true]) fun (v : AV) => kTmV v fun (n n_1 : Int) (s : List UInt8) (rows 
  : List (List AV)) => (some (.agg [.int .i64 n, .int .i64 n_1, .str s, .sl rows], [[.int .i64 ke, .int .i64 ne, .str se, .sl le, .sl bd, .int .i64 self, .bool bad]])) else kOpt (EVf 
  (EV cfg) 91 [.bool (kt == (8 : Int))]) fun (v : AV) => kTmV v fun (n n_1 : Int) (s : List UInt8) (rows : List (List AV)) => (some (.agg [.int .i64 n, .int .i64 n_1, .str s, .sl rows], 
  [[.int .i64 ke, .int .i64 ne, .str se, .sl le, .sl bd, .int .i64 self, .bool bad]])) else bif op == [(105 : UInt8), (115 : UInt8), (95 : UInt8), (116 : UInt8), (117 : UInt8), (112 : 
  UInt8), (108 : UInt8), (101 : UInt8)] then kOpt (EVf (EV cfg) 91 [.bool (kt == (7 : Int))]) fun (v : AV) => kTmV v fun (n n_1 : Int) (s : List UInt8) (rows : List (List AV)) => (some 
  (.agg [.int .i64 n, .int .i64 n_1, .str s, .sl rows], [[.int .i64 ke, .int .i64 ne, .str se, .sl le, .sl bd, .int .i64 self, .bool bad]])) else bif op == [(105 : UInt8), (115 : UInt8), 
  (95 : UInt8), (112 : UInt8), (105 : UInt8), (100 : UInt8)] then kOpt (EVf (EV cfg) 91 [.bool (kt == (6 : Int))]) fun (v : AV) => kTmV v fun (n n_1 : Int) (s : List UInt8) (rows : List 
  (List AV)) => (some (.agg [.int .i64 n, .int .i64 n_1, .str s, .sl rows], [[.int .i64 ke, .int .i64 ne, .str se, .sl le, .sl bd, .int .i64 self, .bool bad]])) else bif op == [(105 : 
  UInt8), (115 : UInt8), (95 : UInt8), (102 : UInt8), (117 : UInt8), (110 : UInt8), (99 : UInt8), (116 : UInt8), (105 : UInt8), (111 : UInt8), (110 : UInt8)] then kOpt (EVf (EV cfg) 91 
  [.bool (kt == (5 : Int))]) fun (v : AV) => kTmV v fun (n n_1 : Int) (s : List UInt8) (rows : List (List AV)) => (some (.agg [.int .i64 n, .int .i64 n_1, .str s, .sl rows], [[.int .i64 
  ke, .int .i64 ne, .str se, .sl le, .sl bd, .int .i64 self, .bool bad]])) else bif op == [(105 : UInt8), (115 : UInt8), (95 : UInt8), (114 : UInt8), (101 : UInt8), (102 : UInt8), (101 
  : UInt8), (114 : UInt8), (101 : UInt8), (110 : UInt8), (99 : UInt8), (101 : UInt8)] then bif kt == (3 : Int) then kOpt (EVf (EV cfg) 91 [.bool true]) fun (v : AV) => kTmV v fun (n n_1 
  : Int) (s : List UInt8) (rows : List (List AV)) => (some (.agg [.int .i64 n, .int .i64 n_1, .str s, .sl rows], [[.int .i64 ke, .int .i64 ne, .str se, .sl le, .sl bd, .int .i64 self, 
  .bool bad]])) else kOpt (EVf (EV cfg) 91 [.bool (kt == (4 : Int))]) fun (v : AV) => kTmV v fun (n n_1 : Int) (s : List UInt8) (rows : List (List AV)) => (some (.agg [.int .i64 n, .int 
  .i64 n_1, .str s, .sl rows], [[.int .i64 ke, .int .i64 ne, .str se, .sl le, .sl bd, .int .i64 self, .bool bad]])) else bif op == [(110 : UInt8), (111 : UInt8), (116 : UInt8)] then kOpt 
  (EVm (EV cfg) 57 [.ptr 0 0 0, .agg [.int .i64 kt, .int .i64 nt, .str st, .sl lt]] 7 [[.int .i64 ke, .int .i64 ne, .str se, .sl le, .sl bd, .int .i64 self, .bool bad]]) fun (q : MV × 
  List (List AV)) => kMBool q.1 fun (b : Bool) => kOpt (EVf (EV cfg) 91 [.bool !b]) fun (v : AV) => kTmV v fun (n n_1 : Int) (s : List UInt8) (rows : List (List AV)) => (some (.agg [.int 
  .i64 n, .int .i64 n_1, .str s, .sl rows], q.2)) else bif op == [(98 : UInt8), (110 : UInt8), (111 : UInt8), (116 : UInt8)] then kOpt (EVm (EV cfg) 93 [.ptr 0 0 0, .agg [.int .i64 kt, 
  .int .i64 nt, .str st, .sl lt]] 7 [[.int .i64 ke, .int .i64 ne, .str se, .sl le, .sl bd, .int .i64 self, .bool bad]]) fun (q : MV × List (List AV)) => kMInt .i64 q.1 fun (n : Int) => 
  kOpt (fromSem (Op.intBits BinOp.xor .i64 (-1 : Int) n)) fun (v : AV) => kInt .i64 v fun (n : Int) => kOpt (EVd (EV cfg) 92 [.ptr 0 0 0, .int .i64 n] 7 q.2) fun (q : AV × List (List 
  AV)) => kTmV q.1 fun (n n_1 : Int) (s : List UInt8) (rows : List (List AV)) => (some (.agg [.int .i64 n, .int .i64 n_1, .str s, .sl rows], q.2)) else bif op == [(43 : UInt8)] then kOpt 
  (EVm (EV cfg) 93 [.ptr 0 0 0, .agg [.int .i64 kt, .int .i64 nt, .str st, .sl lt]] 7 [[.int .i64 ke, .int .i64 ne, .str se, .sl le, .sl bd, .int .i64 self, .bool bad]]) fun (q : MV × 
  List (List AV)) => kMInt .i64 q.1 fun (n : Int) => kOpt (EVd (EV cfg) 92 [.ptr 0 0 0, .int .i64 n] 7 q.2) fun (q : AV × List (List AV)) => kTmV q.1 fun (n n_1 : Int) (s : List UInt8) 
  (rows : List (List AV)) => (some (.agg [.int .i64 n, .int .i64 n_1, .str s, .sl rows], q.2)) else bif op == [(45 : UInt8)] then kOpt (EVm (EV cfg) 93 [.ptr 0 0 0, .agg [.int .i64 kt, 
  .int .i64 nt, .str st, .sl lt]] 7 [[.int .i64 ke, .int .i64 ne, .str se, .sl le, .sl bd, .int .i64 self, .bool bad]]) fun (q : MV × List (List AV)) => kMInt .i64 q.1 fun (n : Int) => 
  kOpt (EVd (EV cfg) 92 [.ptr 0 0 0, .int .i64 (IntKind.wrap .i64 ((0 : Int) - n))] 7 q.2) fun (q : AV × List (List AV)) => kTmV q.1 fun (n n_1 : Int) (s : List UInt8) (rows : List (List 
  AV)) => (some (.agg [.int .i64 n, .int .i64 n_1, .str s, .sl rows], q.2)) else bif op == [(97 : UInt8), (98 : UInt8), (115 : UInt8)] then kOpt (EVm (EV cfg) 93 [.ptr 0 0 0, .agg [.int 
  .i64 kt, .int .i64 nt, .str st, .sl lt]] 7 [[.int .i64 ke, .int .i64 ne, .str se, .sl le, .sl bd, .int .i64 self, .bool bad]]) fun (q : MV × List (List AV)) => kMInt .i64 q.1 fun (n 
  : Int) => kOpt (EVd (EV cfg) 92 [.ptr 0 0 0, .int .i64 (if (fun (b a : Int) => decide (a < b)) (IntKind.wrap .i64 ((0 : Int) - nt)) n = true then IntKind.wrap .i64 ((0 : Int) - nt) 
  else n)] 7 q.2) fun (q : AV × List (List AV)) => kTmV q.1 fun (n n_1 : Int) (s : List UInt8) (rows : List (List AV)) => (some (.agg [.int .i64 n, .int .i64 n_1, .str s, .sl rows], q.2)) 
  else bif op == [(116 : UInt8), (117 : UInt8), (112 : UInt8), (108 : UInt8), (101 : UInt8), (95 : UInt8), (115 : UInt8), (105 : UInt8), (122 : UInt8), (101 : UInt8)] then bif kt != (7 
  : Int) then kOpt (EVd (EV cfg) 83 [.ptr 0 0 0] 7 [[.int .i64 ke, .int .i64 ne, .str se, .sl le, .sl bd, .int .i64 self, .bool bad]]) fun (q : AV × List (List AV)) => kTmV q.1 fun (n 
  n_1 : Int) (s : List UInt8) (rows : List (List AV)) => (some (.agg [.int .i64 n, .int .i64 n_1, .str s, .sl rows], q.2)) else kOpt (EVd (EV cfg) 92 [.ptr 0 0 0, .int .i64 (↑(List.length 
  lt) : Int)] 7 [[.int .i64 ke, .int .i64 ne, .str se, .sl le, .sl bd, .int .i64 self, .bool bad]]) fun (q : AV × List (List AV)) => kTmV q.1 fun (n n_1 : Int) (s : List UInt8) (rows 
  : List (List AV)) => (some (.agg [.int .i64 n, .int .i64 n_1, .str s, .sl rows], q.2)) else bif op == [(115 : UInt8), (105 : UInt8), (122 : UInt8), (101 : UInt8)] then bif kt != (7 
  : Int) then kOpt (EVd (EV cfg) 83 [.ptr 0 0 0] 7 [[.int .i64 ke, .int .i64 ne, .str se, .sl le, .sl bd, .int .i64 self, .bool bad]]) fun (q : AV × List (List AV)) => kTmV q.1 fun (n 
  n_1 : Int) (s : List UInt8) (rows : List (List AV)) => (some (.agg [.int .i64 n, .int .i64 n_1, .str s, .sl rows], q.2)) else kOpt (EVd (EV cfg) 92 [.ptr 0 0 0, .int .i64 (↑(List.length 
  lt) : Int)] 7 [[.int .i64 ke, .int .i64 ne, .str se, .sl le, .sl bd, .int .i64 self, .bool bad]]) fun (q : AV × List (List AV)) => kTmV q.1 fun (n n_1 : Int) (s : List UInt8) (rows 
  : List (List AV)) => (some (.agg [.int .i64 n, .int .i64 n_1, .str s, .sl rows], q.2)) else kOpt (EVd (EV cfg) 94 [.ptr 0 0 0, .str op, .agg [.int .i64 kt, .int .i64 nt, .str st, .sl 
  lt]] 7 [[.int .i64 ke, .int .i64 ne, .str se, .sl le, .sl bd, .int .i64 self, .bool bad]]) fun (q : AV × List (List AV)) => kTmV q.1 fun (n n_1 : Int) (s : List UInt8) (rows : List 
  (List AV)) => (some (.agg [.int .i64 n, .int .i64 n_1, .str s, .sl rows], q.2))) P) : Gets (EVd (EV cfg) 71 ([AV.ptr (0 : Nat) (0 : Nat) (0 : Nat), AV.str op, AV.agg [AV.int IntKind.i64 kt, AV.int IntKind.i64 nt, AV.str st, AV.sl lt]] : List AV) 7 [[AV.int .i64 ke, AV.int .i64 ne, AV.str se, AV.sl le, AV.sl bd, AV.int .i64 self, AV.bool bad]]) P :=
  Gets.ev (fun _ h => funD rfl rfl Tryz.func71 rfl h) (Gets.eq (by kernel_rfl) h)
theorem mApply_run (ke : Int) (ne : Int) (se : List UInt8) (le : List (List AV)) (bd : List (List AV)) (self : Int) (bad : Bool) (op : List UInt8) (L : List (List AV)) {P : AV × List (List AV) → Prop} (h : Gets (bif (↑(List.length L) : Int) == (1 : Int) then bif ltInt (0 : Int) (↑(List.length L) : Int) then kOpt (List.get?Internal L 0) fun (row : List AV) => bif Nat.beq (List.length row) 4 
  then bif Nat.ble 4 (List.length row) then kTmC (List.take 4 row) fun (n n_1 : Int) (s : List UInt8) (rows : List (List AV)) => (kOpt (EVd (EV cfg) 71 [.ptr 0 0 0, .str op, .agg [.int 
  .i64 n, .int .i64 n_1, .str s, .sl rows]] 7 [[.int .i64 ke, .int .i64 ne, .str se, .sl le, .sl bd, .int .i64 self, .bool bad]]) fun (q : AV × List (List AV)) => kTmV q.1 fun (n n_2 
  : Int) (s : List UInt8) (rows : List (List AV)) => (some (.agg [.int .i64 n, .int .i64 n_2, .str s, .sl rows], q.2))) else none else none else none else bif (↑(List.length L) : Int) 
  == (2 : Int) then bif ltInt (0 : Int) (↑(List.length L) : Int) then kOpt (List.get?Internal L 0) fun (row : List AV) => bif Nat.beq (List.length row) 4 then bif Nat.ble 4 (List.length 
  row) then kTmC (List.take 4 row) fun (n n_1 : Int) (s : List UInt8) (rows : List (List AV)) => (bif ltInt (1 : Int) (↑(List.length L) : Int) then kOpt (List.get?Internal L 1) fun (row 
  : List AV) => bif Nat.beq (List.length row) 4 then bif Nat.ble 4 (List.length row) then kTmC (List.take 4 row) fun (n_2 n_3 : Int) (s_1 : List UInt8) (rows_1 : List (List AV)) => (kOpt 
  (EVd (EV cfg) 72 [.ptr 0 0 0, .str op, .agg [.int .i64 n, .int .i64 n_1, .str s, .sl rows], .agg [.int .i64 n_2, .int .i64 n_3, .str s_1, .sl rows_1]] 7 [[.int .i64 ke, .int .i64 ne, 
  .str se, .sl le, .sl bd, .int .i64 self, .bool bad]]) fun (q : AV × List (List AV)) => kTmV q.1 fun (n n_4 : Int) (s : List UInt8) (rows : List (List AV)) => (some (.agg [.int .i64 
  n, .int .i64 n_4, .str s, .sl rows], q.2))) else none else none else none) else none else none else none else some (.agg [.int .i64 (6 : Int), .int .i64 self, .str [], .sl []], [[.int 
  .i64 ke, .int .i64 ne, .str se, .sl le, .sl bd, .int .i64 self, .bool bad]])) P) : Gets (EVd (EV cfg) 45 ([AV.ptr (0 : Nat) (0 : Nat) (0 : Nat), AV.str op, AV.sl L] : List AV) 7 [[AV.int .i64 ke, AV.int .i64 ne, AV.str se, AV.sl le, AV.sl bd, AV.int .i64 self, AV.bool bad]]) P :=
  Gets.ev (fun _ h => funD rfl rfl Tryz.func45 rfl h) (Gets.eq (by kernel_rfl) h)
theorem wg65_0_step (A : List (List AV)) (n : Int) (v8 : Int) {P : AV → Prop} (h : Gets (bif decide (v8 < (↑(List.length A) : Int)) then bif leInt (0 : Int) v8 && ltInt v8 (↑(List.length A) : Int) then kOpt (List.get?Internal A (Int.toNat v8)) fun (row : List AV) => bif 
  Nat.beq (List.length row) 1 then kOpt (List.get?Internal row 0) fun (v : AV) => kInt .i64 v fun (n_1 : Int) => bif n == n_1 then some (.int .i64 v8) else wg65_0 A n (IntKind.wrap .i64 
  (v8 + (1 : Int))) else none else none else some (.int .i64 (-1 : Int))) P) : Gets (wg65_0 A n v8) P :=
  Gets.ev (fun _ h => loop_step (cfg := cfg) (f := 67) (rd := none) (bs := 0) h) (Gets.eq (by kernel_rfl) h)
end Go.Proofs.YtogebohommickaaGreat
end

section
namespace Go.Proofs.YtogebohommickaaGreat
open Go.Av
theorem mRaise_ev (e : Env) (b : Bool) : EVd (EV cfg) 83 [.ptr 0 0 0] 7 (mR e b) = some (zeroT.av, mR e true) := by
  apply Gets.get
  refine mRaise_run _ _ _ _ _ _ _ ?_
  rw [zeroT_av]
  simp
theorem mNumber_ev (e : Env) (b : Bool) (n : Int) : EVd (EV cfg) 92 [.ptr 0 0 0, .int .i64 n] 7 (mR e b) = some (if InB n then ((numT n).av, mR e b) else (zeroT.av, mR e true)) := by
  have hr := mRaise_ev e b
  apply Gets.get
  refine mNumber_run _ _ _ _ _ _ _ _ ?_
  simp only [hr]
  unfold InB
  rw [numT_av]
  by_cases h1 : n < -576460752303423488
  · have : ¬ (-576460752303423488 ≤ n ∧ n ≤ 576460752303423487) := by omega
    simp [h1, this]
  · by_cases h2 : n > 576460752303423487
    · have : ¬ (-576460752303423488 ≤ n ∧ n ≤ 576460752303423487) := by omega
      simp [h1, h2, this]
    · have : (-576460752303423488 ≤ n ∧ n ≤ 576460752303423487) := by omega
      simp [h1, h2, this]
theorem mNumber_within (e : Env) (n : Int) {P : AV × List (List AV) → Prop} (h : ∀ r, Res e (withinG n) r → (∃ t : Tm, r.1 = t.av) → P r) : Gets (EVd (EV cfg) 92 [.ptr 0 0 0, .int .i64 n] 7 (mR e false)) P := by
  rw [mNumber_ev]
  refine ⟨_, rfl, h _ ?_ ?_⟩
  · unfold withinG Res
    by_cases hb : InB n
    · simp [hb]
    · simp [hb]; exact ⟨_, rfl⟩
  · by_cases hb : InB n
    · exact ⟨numT n, by simp [hb]⟩
    · exact ⟨zeroT, by simp [hb]⟩
theorem mNumbers_bad (e : Env) (op : List UInt8) (a b : Int) : EVd (EV cfg) 96 [.ptr 0 0 0, .str op, .int .i64 a, .int .i64 b] 7 (mR e true) = some (zeroT.av, mR e true) := by
  apply Gets.get
  refine mNumbers_run _ _ _ _ _ _ _ _ _ _ ?_
  rw [zeroT_av]; simp
def ProductOk : Prop := ∀ (e : Env) (a b : Int), InB a → InB b → Gets (EVd (EV cfg) 116 [.ptr 0 0 0, .int .i64 a, .int .i64 b] 7 (mR e false)) (Res e (withinG (a * b)))
theorem ret_res {e : Env} {o : Option Tm} {r : AV × List (List AV)} (h : Res e o r) (ht : ∃ t : Tm, r.1 = t.av) : Gets (kTmV r.1 fun (n n_1 : Int) (s : List UInt8) (rows : List (List AV)) => some (AV.agg [.int .i64 n, .int .i64 n_1, .str s, .sl rows], r.2)) (Res e o) := by
  obtain ⟨t, ht⟩ := ht
  rw [ht, kTmV_av]
  refine ⟨_, rfl, ?_⟩
  have : (AV.agg [.int .i64 t.kind, .int .i64 t.num, .str t.str, .sl (rowsT t.subs)], r.2) = r := by
    rw [← Tm.cells_eq]; exact Prod.ext ht.symm rfl
  rw [this]; exact h
theorem Res_tm {e : Env} {o : Option Tm} {r : AV × List (List AV)} (h : Res e o r) : ∃ t : Tm, r.1 = t.av := by
  unfold Res at h
  split at h
  · exact ⟨_, by rw [h]⟩
  · exact h.2
theorem mNumbers_ev (e : Env) (op : List UInt8) {a b : Int} (ha : InB a) (hb : InB b) (hp : op = [42] → ProductOk) : Gets (EVd (EV cfg) 96 [.ptr 0 0 0, .str op, .int .i64 a, .int .i64 b] 7 (mR e false)) (Res e (numbersG op a b)) := by
  have num : ∀ n, Gets (kOpt (EVd (EV cfg) 92 [.ptr 0 0 0, .int .i64 n] 7 (mR e false)) fun q => kTmV q.1 fun (n n_1 : Int) (s : List UInt8) (rows : List (List AV)) => some (AV.agg [.int .i64 n, .int .i64 n_1, .str s, .sl rows], q.2)) (Res e (withinG n)) :=
    fun n => Gets.bind (mNumber_within e n fun r h1 h2 => h1) fun r h => ret_res h (Res_tm h)
  refine mNumbers_run _ _ _ _ _ _ _ _ _ _ ?_
  have ha' := ha
  have hb' := hb
  obtain ⟨a1, a2⟩ := ha
  obtain ⟨b1, b2⟩ := hb
  simp only [beqS, beqD, cond_false]
  unfold numbersG
  by_cases h1 : op = [43]
  · rw [if_pos h1, decide_eq_true h1, cond_true, wrap64 (by omega) (by omega)]; exact num _
  rw [if_neg h1, decide_eq_false h1, cond_false]
  by_cases h2 : op = [45]
  · rw [if_pos h2, decide_eq_true h2, cond_true, wrap64 (by omega) (by omega)]; exact num _
  rw [if_neg h2, decide_eq_false h2, cond_false]
  by_cases h3 : op = [42]
  · rw [if_pos h3, decide_eq_true h3, cond_true]
    exact Gets.bind (hp h3 e a b ha' hb') fun r h => ret_res h (Res_tm h)
  rw [if_neg h3, decide_eq_false h3, cond_false]
  by_cases h4 : op = [98, 97, 110, 100]
  · rw [if_pos h4, decide_eq_true h4, cond_true, bvG_and ha' hb']; simp only [kOptSome, kInt_int]; exact num _
  rw [if_neg h4, decide_eq_false h4, cond_false]
  by_cases h5 : op = [98, 111, 114]
  · rw [if_pos h5, decide_eq_true h5, cond_true, bvG_or ha' hb']; simp only [kOptSome, kInt_int]; exact num _
  rw [if_neg h5, decide_eq_false h5, cond_false]
  by_cases h6 : op = [98, 120, 111, 114]
  · rw [if_pos h6, decide_eq_true h6, cond_true, bvG_xor ha' hb']; simp only [kOptSome, kInt_int]; exact num _
  rw [if_neg h6, decide_eq_false h6, cond_false]
  by_cases h7 : b = 0
  · rw [if_pos h7, decide_eq_true h7, cond_true, mRaise_ev]
    simp only [kOptSome, kTmV_av]
    exact ⟨_, rfl, rfl, zeroT, by rw [Tm.av, Tm.cells_eq]⟩
  rw [if_neg h7, decide_eq_false h7, cond_false, intDiv_quo h7, intDiv_rem h7]
  by_cases h8 : op = [100, 105, 118]
  · have := tdiv_abs (a := a) h7
    rw [if_pos h8, decide_eq_true h8, cond_true, wrap64 (by omega) (by omega)]; simp only [kOptSome, kInt_int]; exact num _
  · rw [if_neg h8, decide_eq_false h8, cond_false]; simp only [kOptSome, kInt_int]; exact num _
end Go.Proofs.YtogebohommickaaGreat
end

section
namespace Go.Proofs.YtogebohommickaaGreat
open Go.Av
set_option maxRecDepth 100000
set_option maxHeartbeats 0

noncomputable def Lq62_0 : Den := evC cfg (EV cfg) 114 none 0 (sub (bodyOf Tryz.f114) [1, 1, 0, 1, 0, 0])
noncomputable def Aq62_0 : Ex × List AV × AH → Option AV := kAft (Cfg.keepOut cfg 114 3) (kRun cfg (EV cfg) (kfN cfg 6) 114 none 0 (kFinS cfg (Cfg.lift cfg 114 0) Tryz.f114.results.toList) ([.block 0, .seq (sub (bodyOf Tryz.f114) [1, 1, 1])]))
noncomputable def Wq62_0 : List AV × AH → Option AV := fun p => kOpt (LOOP 0 (some [3, 6, 7, 8]) ([]) Lq62_0 p) Aq62_0
noncomputable def Lq97_0 : Den := evC cfg (EV cfg) 126 none 0 (sub (bodyOf Tryz.f126) [1, 0, 1, 0, 0])
noncomputable def Aq97_0 : Ex × List AV × AH → Option AV := kAft (Cfg.keepOut cfg 126 2) (kRun cfg (EV cfg) (kfN cfg 6) 126 none 0 (kFinS cfg (Cfg.lift cfg 126 0) Tryz.f126.results.toList) ([.block 0, .seq (sub (bodyOf Tryz.f126) [1, 1])]))
noncomputable def Wq97_0 : List AV × AH → Option AV := fun p => kOpt (LOOP 0 (some [0, 1, 2, 11, 12, 13]) ([]) Lq97_0 p) Aq97_0
noncomputable def Lq15_0 : Den := evC cfg (EV cfg) 95 none 0 (sub (bodyOf Tryz.f95) [1, 0, 1, 0, 0])
noncomputable def Aq15_0 : Ex × List AV × AH → Option AV := kAft (Cfg.keepOut cfg 95 1) (kRun cfg (EV cfg) (kfN cfg 6) 95 none 0 (kFinS cfg (Cfg.lift cfg 95 0) Tryz.f95.results.toList) ([.block 0, .scope]))
noncomputable def Wq15_0 : List AV × AH → Option AV := fun p => kOpt (LOOP 0 (some [2, 3]) ([]) Lq15_0 p) Aq15_0
noncomputable abbrev wq62_0 (a : Int) (b : Int) (c : Int) (v8 : Int) : Option (AV) := Wq62_0  (((fx 18 [(3, AV.int IntKind.i64 (0 : Int)), (6, AV.sl [[AV.int IntKind.i64 a], [AV.int IntKind.i64 b], [AV.int IntKind.i64 c]]), (7, AV.int IntKind.i64 (3 : Int)), (8, AV.int IntKind.i64 v8)]) : List AV), ([] : AH))
noncomputable abbrev wq62_0a (a : Int) (b : Int) (v8 : Int) : Option (AV) := Wq62_0  (((fx 18 [(3, AV.int IntKind.i64 (0 : Int)), (6, AV.sl [[AV.int IntKind.i64 a], [AV.int IntKind.i64 b]]), (7, AV.int IntKind.i64 (2 : Int)), (8, AV.int IntKind.i64 v8)]) : List AV), ([] : AH))
noncomputable abbrev wq97_0 (A : List (List AV)) (B : List (List AV)) (v13 : Int) : Option (AV) := Wq97_0  (((fx 39 [(0, AV.sl A), (1, AV.sl B), (2, AV.fn (Fn.func 95) [] []), (11, AV.sl A), (12, AV.int IntKind.i64 (↑(List.length A) : Int)), (13, AV.int IntKind.i64 v13)]) : List AV), ([] : AH))
noncomputable abbrev wq15_0 (c0_0 : Int) (c0_1 : Int) (c0_2 : List UInt8) (c0_3 : List (List AV)) (c1_0 : Int) (c1_1 : Int) (c1_2 : List UInt8) (c1_3 : List (List AV)) : Option (AV) := Wq15_0  (((fx 117 [(2, AV.ptr (0 : Nat) (0 : Nat) (0 : Nat)), (3, AV.ptr (1 : Nat) (0 : Nat) (0 : Nat))]) : List AV), ([ABlk.rows false (4 : Nat) [[AV.int IntKind.i64 c0_0, AV.int IntKind.i64 c0_1, AV.str c0_2, AV.sl c0_3]], ABlk.rows false (4 : Nat) [[AV.int IntKind.i64 c1_0, AV.int IntKind.i64 c1_1, AV.str c1_2, AV.sl c1_3]]] : AH))
theorem cmpI_run (a : Int) (b : Int) {P : AV → Prop} (h : Gets (kOpt (EVs (EV cfg) 124 [.int .i64 a]) fun (v : AV) => kBool v fun (b_1 : Bool) => kOpt (EVs (EV cfg) 124 [.int .i64 b]) fun (v : AV) => kBool v fun (b_2 : Bool) => bif b_1 then bif b_2 
  then some (.int .i64 (0 : Int)) else some (.int .i64 (-1 : Int)) else bif b_2 then some (.int .i64 (1 : Int)) else bif decide (a < b) then some (.int .i64 (-1 : Int)) else bif decide 
  (a > b) then some (.int .i64 (1 : Int)) else some (.int .i64 (0 : Int))) P) : Gets (EVs (EV cfg) 112 ([AV.int IntKind.i64 a, AV.int IntKind.i64 b] : List AV)) P :=
  Gets.ev (fun _ h => funS rfl rfl Tryz.func112 rfl h) (Gets.eq (by kernel_rfl) h)
theorem cmpSt_run (a : List UInt8) (b : List UInt8) {P : AV → Prop} (h : Gets (kOpt (EVs (EV cfg) 125 [.str a, .str b]) fun (v : AV) => kInt .i64 v fun (n : Int) => some (.int .i64 n)) P) : Gets (EVs (EV cfg) 113 ([AV.str a, AV.str b] : List AV)) P :=
  Gets.ev (fun _ h => funS rfl rfl Tryz.func113 rfl h) (Gets.eq (by kernel_rfl) h)
theorem or3_run (a : Int) (b : Int) (c : Int) {P : AV → Prop} (h : Gets (wq62_0 a b c (0 : Int)) P) : Gets (EVs (EV cfg) 114 ([AV.sl [[AV.int IntKind.i64 a], [AV.int IntKind.i64 b], [AV.int IntKind.i64 c]]] : List AV)) P :=
  Gets.ev (fun _ h => funS rfl rfl Tryz.func114 rfl h) (Gets.eq (by kernel_rfl) h)
theorem or2_run (a : Int) (b : Int) {P : AV → Prop} (h : Gets (wq62_0a a b (0 : Int)) P) : Gets (EVs (EV cfg) 114 ([AV.sl [[AV.int IntKind.i64 a], [AV.int IntKind.i64 b]]] : List AV)) P :=
  Gets.ev (fun _ h => funS rfl rfl Tryz.func114 rfl h) (Gets.eq (by kernel_rfl) h)
theorem cmpFunc_run (A : List (List AV)) (B : List (List AV)) {P : AV → Prop} (h : Gets (wq97_0 A B (0 : Int)) P) : Gets (EVs (EV cfg) 126 ([AV.sl A, AV.sl B, AV.fn (Fn.func 95) [] []] : List AV)) P :=
  Gets.ev (fun _ h => funS rfl rfl Tryz.func126 rfl h) (Gets.eq (by kernel_rfl) h)
theorem isNaNI_run (a : Int) {P : AV → Prop} (h : Gets (some (.bool (a != a))) P) : Gets (EVs (EV cfg) 124 ([AV.int IntKind.i64 a] : List AV)) P :=
  Gets.ev (fun _ h => funS rfl rfl Tryz.func124 rfl h) (Gets.eq (by kernel_rfl) h)
theorem cmpStr_run (a : List UInt8) (b : List UInt8) {P : AV → Prop} (h : Gets (kOpt (EVs (EV cfg) 128 [.str a, .str b]) fun (v : AV) => kInt .i64 v fun (n : Int) => some (.int .i64 n)) P) : Gets (EVs (EV cfg) 125 ([AV.str a, AV.str b] : List AV)) P :=
  Gets.ev (fun _ h => funS rfl rfl Tryz.func125 rfl h) (Gets.eq (by kernel_rfl) h)
theorem order_lists_run (A : List (List AV)) (B : List (List AV)) {P : AV → Prop} (h : Gets (kOpt (EVs (EV cfg) 126 [.sl A, .sl B, AV.fn (Fn.func 95) [] []]) fun (v : AV) => kInt .i64 v fun (n : Int) => some (.int .i64 n)) P) : Gets (EVs (EV cfg) 115 ([AV.sl A, AV.sl B] : List AV)) P :=
  Gets.ev (fun _ h => funS rfl rfl Tryz.func115 rfl h) (Gets.eq (by kernel_rfl) h)
theorem oCompare_run (ka : Int) (na : Int) (sa : List UInt8) (la : List (List AV)) (kb : Int) (nb : Int) (sb : List UInt8) (lb : List (List AV)) {P : AV → Prop} (h : Gets (wq15_0 ka na sa la kb nb sb lb) P) : Gets (EVs (EV cfg) 95 ([AV.agg [AV.int IntKind.i64 ka, AV.int IntKind.i64 na, AV.str sa, AV.sl la], AV.agg [AV.int IntKind.i64 kb, AV.int IntKind.i64 nb, AV.str sb, AV.sl lb]] : List AV)) P :=
  Gets.ev (fun _ h => funS rfl rfl Tryz.func95 rfl h) (Gets.eq (by kernel_rfl) h)
theorem wq62_0_step (a : Int) (b : Int) (c : Int) (v8 : Int) {P : AV → Prop} (h : Gets (bif decide (v8 < (3 : Int)) then bif leInt (0 : Int) v8 && ltInt v8 (↑3 : Int) then kOpt (List.get?Internal [[.int .i64 a], [.int .i64 b], [.int .i64 c]] (Int.toNat v8)) fun (row : 
  List AV) => bif Nat.beq (List.length row) 1 then kOpt (List.get?Internal row 0) fun (v : AV) => kInt .i64 v fun (n : Int) => bif n != (0 : Int) then some (.int .i64 n) else wq62_0 a 
  b c (IntKind.wrap .i64 (v8 + (1 : Int))) else none else none else some (.int .i64 (0 : Int))) P) : Gets (wq62_0 a b c v8) P :=
  Gets.ev (fun _ h => loop_step (cfg := cfg) (f := 114) (rd := none) (bs := 0) h) (Gets.eq (by kernel_rfl) h)
theorem wq62_0a_step (a : Int) (b : Int) (v8 : Int) {P : AV → Prop} (h : Gets (bif decide (v8 < (2 : Int)) then bif leInt (0 : Int) v8 && ltInt v8 (↑2 : Int) then kOpt (List.get?Internal [[.int .i64 a], [.int .i64 b]] (Int.toNat v8)) fun (row : List AV) => bif 
  Nat.beq (List.length row) 1 then kOpt (List.get?Internal row 0) fun (v : AV) => kInt .i64 v fun (n : Int) => bif n != (0 : Int) then some (.int .i64 n) else wq62_0a a b (IntKind.wrap 
  .i64 (v8 + (1 : Int))) else none else none else some (.int .i64 (0 : Int))) P) : Gets (wq62_0a a b v8) P :=
  Gets.ev (fun _ h => loop_step (cfg := cfg) (f := 114) (rd := none) (bs := 0) h) (Gets.eq (by kernel_rfl) h)
theorem wq97_0_step (A : List (List AV)) (B : List (List AV)) (v13 : Int) {P : AV → Prop} (h : Gets (bif decide (v13 < (↑(List.length A) : Int)) then bif leInt (0 : Int) v13 && ltInt v13 (↑(List.length A) : Int) then kOpt (List.get?Internal A (Int.toNat v13)) fun (row : List AV) => 
  bif Nat.beq (List.length row) 4 then bif Nat.ble 4 (List.length row) then kTmC (List.take 4 row) fun (n n_1 : Int) (s : List UInt8) (rows : List (List AV)) => (bif decide (v13 ≥ (↑(List.length 
  B) : Int)) then some (.int .i64 (1 : Int)) else bif leInt (0 : Int) v13 && ltInt v13 (↑(List.length B) : Int) then kOpt (List.get?Internal B (Int.toNat v13)) fun (row : List AV) => 
  bif Nat.beq (List.length row) 4 then bif Nat.ble 4 (List.length row) then kTmC (List.take 4 row) fun (n_2 n_3 : Int) (s_1 : List UInt8) (rows_1 : List (List AV)) => (kOpt (EVs (EV cfg) 
  95 [.agg [.int .i64 n, .int .i64 n_1, .str s, .sl rows], .agg [.int .i64 n_2, .int .i64 n_3, .str s_1, .sl rows_1]]) fun (v : AV) => kInt .i64 v fun (n : Int) => bif n != (0 : Int) 
  then some (.int .i64 n) else wq97_0 A B (IntKind.wrap .i64 (v13 + (1 : Int)))) else none else none else none) else none else none else none else bif decide ((↑(List.length A) : Int) 
  < (↑(List.length B) : Int)) then some (.int .i64 (-1 : Int)) else some (.int .i64 (0 : Int))) P) : Gets (wq97_0 A B v13) P :=
  Gets.ev (fun _ h => loop_step (cfg := cfg) (f := 126) (rd := none) (bs := 0) h) (Gets.eq (by kernel_rfl) h)
theorem wq15_0_step (c0_0 : Int) (c0_1 : Int) (c0_2 : List UInt8) (c0_3 : List (List AV)) (c1_0 : Int) (c1_1 : Int) (c1_2 : List UInt8) (c1_3 : List (List AV)) {P : AV → Prop} (h : Gets (kOpt (EVs (EV cfg) 112 [.int .i64 c0_0, .int .i64 c1_0]) fun (v : AV) => kInt .i64 v fun (n : Int) => bif n != (0 : Int) then some (.int .i64 n) else bif c0_0 == (1 : Int) then kOpt 
  (EVs (EV cfg) 112 [.int .i64 c0_1, .int .i64 c1_1]) fun (v : AV) => kInt .i64 v fun (n : Int) => some (.int .i64 n) else bif c0_0 == (3 : Int) then kOpt (EVs (EV cfg) 112 [.int .i64 c0_1, 
  .int .i64 c1_1]) fun (v : AV) => kInt .i64 v fun (n : Int) => some (.int .i64 n) else bif c0_0 == (4 : Int) then kOpt (EVs (EV cfg) 112 [.int .i64 c0_1, .int .i64 c1_1]) fun (v : AV) 
  => kInt .i64 v fun (n : Int) => some (.int .i64 n) else bif c0_0 == (6 : Int) then kOpt (EVs (EV cfg) 112 [.int .i64 c0_1, .int .i64 c1_1]) fun (v : AV) => kInt .i64 v fun (n : Int) 
  => some (.int .i64 n) else bif c0_0 == (2 : Int) then kOpt (EVs (EV cfg) 113 [.str c0_2, .str c1_2]) fun (v : AV) => kInt .i64 v fun (n : Int) => some (.int .i64 n) else bif c0_0 == 
  (5 : Int) then kOpt (EVs (EV cfg) 112 [.int .i64 c0_1, .int .i64 c1_1]) fun (v : AV) => kInt .i64 v fun (n : Int) => kOpt (EVs (EV cfg) 112 [.int .i64 (↑(List.length c0_3) : Int), .int 
  .i64 (↑(List.length c1_3) : Int)]) fun (v : AV) => kInt .i64 v fun (n_1 : Int) => kOpt (EVs (EV cfg) 115 [.sl c0_3, .sl c1_3]) fun (v : AV) => kInt .i64 v fun (n_2 : Int) => kOpt (EVs 
  (EV cfg) 114 [.sl [[.int .i64 n], [.int .i64 n_1], [.int .i64 n_2]]]) fun (v : AV) => kInt .i64 v fun (n : Int) => some (.int .i64 n) else bif c0_0 == (9 : Int) then bif (↑(List.length 
  c0_3) : Int) == (2 : Int) then bif (↑(List.length c1_3) : Int) == (2 : Int) then bif ltInt (0 : Int) (↑(List.length c0_3) : Int) then kOpt (List.get?Internal c0_3 0) fun (row : List 
  AV) => bif Nat.beq (List.length row) 4 then bif Nat.ble 4 (List.length row) then kTmC (List.take 4 row) fun (n n_1 : Int) (s : List UInt8) (rows : List (List AV)) => (bif ltInt (0 : 
  Int) (↑(List.length c1_3) : Int) then kOpt (List.get?Internal c1_3 0) fun (row : List AV) => bif Nat.beq (List.length row) 4 then bif Nat.ble 4 (List.length row) then kTmC (List.take 
  4 row) fun (n_2 n_3 : Int) (s_1 : List UInt8) (rows_1 : List (List AV)) => (kOpt (EVs (EV cfg) 95 [.agg [.int .i64 n, .int .i64 n_1, .str s, .sl rows], .agg [.int .i64 n_2, .int .i64 
  n_3, .str s_1, .sl rows_1]]) fun (v : AV) => kInt .i64 v fun (n : Int) => bif n != (0 : Int) then some (.int .i64 n) else bif ltInt (1 : Int) (↑(List.length c0_3) : Int) then kOpt (List.get?Internal 
  c0_3 1) fun (row : List AV) => bif Nat.beq (List.length row) 4 then bif Nat.ble 4 (List.length row) then kTmC (List.take 4 row) fun (n n_4 : Int) (s : List UInt8) (rows : List (List 
  AV)) => (bif ltInt (1 : Int) (↑(List.length c1_3) : Int) then kOpt (List.get?Internal c1_3 1) fun (row : List AV) => bif Nat.beq (List.length row) 4 then bif Nat.ble 4 (List.length 
  row) then kTmC (List.take 4 row) fun (n_5 n_6 : Int) (s_2 : List UInt8) (rows_2 : List (List AV)) => (wq15_0 n n_4 s rows n_5 n_6 s_2 rows_2) else none else none else none) else none 
  else none else none) else none else none else none) else none else none else none else kOpt (EVs (EV cfg) 112 [.int .i64 (↑(List.length c0_3) : Int), .int .i64 (↑(List.length c1_3) : 
  Int)]) fun (v : AV) => kInt .i64 v fun (n : Int) => kOpt (EVs (EV cfg) 115 [.sl c0_3, .sl c1_3]) fun (v : AV) => kInt .i64 v fun (n_1 : Int) => kOpt (EVs (EV cfg) 114 [.sl [[.int .i64 
  n], [.int .i64 n_1]]]) fun (v : AV) => kInt .i64 v fun (n : Int) => some (.int .i64 n) else kOpt (EVs (EV cfg) 112 [.int .i64 (↑(List.length c0_3) : Int), .int .i64 (↑(List.length c1_3) 
  : Int)]) fun (v : AV) => kInt .i64 v fun (n : Int) => kOpt (EVs (EV cfg) 115 [.sl c0_3, .sl c1_3]) fun (v : AV) => kInt .i64 v fun (n_1 : Int) => kOpt (EVs (EV cfg) 114 [.sl [[.int .i64 
  n], [.int .i64 n_1]]]) fun (v : AV) => kInt .i64 v fun (n : Int) => some (.int .i64 n) else bif c0_0 == (7 : Int) then kOpt (EVs (EV cfg) 112 [.int .i64 (↑(List.length c0_3) : Int), 
  .int .i64 (↑(List.length c1_3) : Int)]) fun (v : AV) => kInt .i64 v fun (n : Int) => kOpt (EVs (EV cfg) 115 [.sl c0_3, .sl c1_3]) fun (v : AV) => kInt .i64 v fun (n_1 : Int) => kOpt 
  (EVs (EV cfg) 114 [.sl [[.int .i64 n], [.int .i64 n_1]]]) fun (v : AV) => kInt .i64 v fun (n : Int) => some (.int .i64 n) else some (.int .i64 (0 : Int))) P) : Gets (wq15_0 c0_0 c0_1 c0_2 c0_3 c1_0 c1_1 c1_2 c1_3) P :=
  Gets.ev (fun _ h => loop_step (cfg := cfg) (f := 95) (rd := none) (bs := 0) h) (Gets.eq (by kernel_rfl) h)
end Go.Proofs.YtogebohommickaaGreat
end

section
namespace Go.Proofs.YtogebohommickaaGreat
open Go.Av
set_option maxRecDepth 100000

theorem isNaN_ev (a : Int) : EVs (EV cfg) 124 [.int .i64 a] = some (.bool false) := by
  apply Gets.get
  refine isNaNI_run _ ?_
  simp
theorem cmp_ev (a b : Int) : EVs (EV cfg) 112 [.int .i64 a, .int .i64 b] = some (.int .i64 (numC a b)) := by
  apply Gets.get
  refine cmpI_run _ _ ?_
  rw [isNaN_ev, isNaN_ev]
  unfold numC
  by_cases h1 : a < b
  · simp [h1]
  · by_cases h2 : b < a
    · simp [h1, h2]
    · simp [h1, h2]
theorem cmpstr_ev (a b : List UInt8) : EVs (EV cfg) 128 [.str a, .str b] = some (.int .i64 (strC a b)) := by
  refine EVs_of (H := []) (EV_of ?_)
  have hx : cfg.ext 128 = some extCmp := rfl
  unfold evBody
  simp only [hx]
  unfold extCmp strC
  by_cases h : a = b
  · simp [h]
  · simp [h]
theorem strCmp_ev (a b : List UInt8) : EVs (EV cfg) 113 [.str a, .str b] = some (.int .i64 (strC a b)) := by
  have h96 : EVs (EV cfg) 125 [.str a, .str b] = some (.int .i64 (strC a b)) := by
    apply Gets.get
    refine cmpStr_run _ _ ?_
    rw [cmpstr_ev]; simp
  apply Gets.get
  refine cmpSt_run _ _ ?_
  rw [h96]; simp
theorem or3_ev (a b c : Int) : EVs (EV cfg) 114 [.sl [[.int .i64 a], [.int .i64 b], [.int .i64 c]]] = some (.int .i64 (if a ≠ 0 then a else if b ≠ 0 then b else c)) := by
  apply Gets.get
  refine or3_run _ _ _ ?_
  have w1 : IntKind.wrap .i64 (0 + 1) = 1 := wrap64 (by omega) (by omega)
  have w2 : IntKind.wrap .i64 (1 + 1) = 2 := wrap64 (by omega) (by omega)
  have w3 : IntKind.wrap .i64 (2 + 1) = 3 := wrap64 (by omega) (by omega)
  have s3 : Gets (wq62_0 a b c 3) (· = .int .i64 0) := by
    refine wq62_0_step _ _ _ _ ?_
    simp
  have s2 : Gets (wq62_0 a b c 2) (· = .int .i64 c) := by
    refine wq62_0_step _ _ _ _ ?_
    rw [w3]
    by_cases h : c = 0
    · subst h; simp; exact s3
    · simp [bneD, h]
  have s1 : Gets (wq62_0 a b c 1) (· = .int .i64 (if b ≠ 0 then b else c)) := by
    refine wq62_0_step _ _ _ _ ?_
    rw [w2]
    by_cases h : b = 0
    · subst h; simp; exact s2
    · simp [bneD, h]
  refine wq62_0_step _ _ _ _ ?_
  rw [w1]
  by_cases h : a = 0
  · subst h; simp only [ne_eq, ite_not] at s1; simp; exact s1
  · simp [bneD, h]
theorem or2_ev (a b : Int) : EVs (EV cfg) 114 [.sl [[.int .i64 a], [.int .i64 b]]] = some (.int .i64 (if a ≠ 0 then a else b)) := by
  apply Gets.get
  refine or2_run _ _ ?_
  have w1 : IntKind.wrap .i64 (0 + 1) = 1 := wrap64 (by omega) (by omega)
  have w2 : IntKind.wrap .i64 (1 + 1) = 2 := wrap64 (by omega) (by omega)
  have s2 : Gets (wq62_0a a b 2) (· = .int .i64 0) := by
    refine wq62_0a_step _ _ _ ?_
    simp
  have s1 : Gets (wq62_0a a b 1) (· = .int .i64 b) := by
    refine wq62_0a_step _ _ _ ?_
    rw [w2]
    by_cases h : b = 0
    · subst h; simp; exact s2
    · simp [bneD, h]
  refine wq62_0a_step _ _ _ ?_
  rw [w1]
  by_cases h : a = 0
  · subst h; simp; exact s1
  · simp [bneD, h]
theorem drop_get {β : Type} {l : List β} {i : Nat} {x : β} (h : l[i]? = some x) : l.drop i = x :: l.drop (i + 1) := by
  obtain ⟨h1, h2⟩ := List.getElem?_eq_some_iff.1 h
  rw [← h2]; exact List.drop_eq_getElem_cons h1

theorem dropNil {β : Type} {l : List β} {i : Nat} (h : l.length ≤ i) : l.drop i = [] := List.drop_eq_nil_of_le h

theorem listsE_of (la lb : List Tm) (hlen : la.length < 1099511627776) (ih : ∀ a ∈ la, ∀ b ∈ lb, EVs (EV cfg) 95 [a.av, b.av] = some (.int .i64 (cmpT a b))) :
    EVs (EV cfg) 126 [.sl (rowsT la), .sl (rowsT lb), .fn (.func 95) [] []] = some (.int .i64 (cmpE la lb)) := by
  have loop : ∀ (d i : Nat), i + d = la.length → Gets (wq97_0 (rowsT la) (rowsT lb) i) (· = .int .i64 (cmpE (la.drop i) (lb.drop i))) := by
    intro d
    induction d with
    | zero =>
      intro i hi
      refine wq97_0_step _ _ _ ?_
      rw [dropNil (l := la) (by omega)]
      by_cases h : i < lb.length
      · obtain ⟨y, hy⟩ : ∃ y, lb[i]? = some y := ⟨_, List.getElem?_eq_getElem h⟩
        rw [drop_get hy, cmpE_nil_cons]
        simp [show ¬ i < la.length by omega, show la.length < lb.length by omega]
      · rw [dropNil (l := lb) (by omega), cmpE_nil]
        simp [show ¬ i < la.length by omega, show ¬ la.length < lb.length by omega]
    | succ d ihd =>
      intro i hi
      refine wq97_0_step _ _ _ ?_
      obtain ⟨x, hx⟩ : ∃ x, la[i]? = some x := ⟨_, List.getElem?_eq_getElem (by omega)⟩
      rw [drop_get hx]
      by_cases h : i < lb.length
      · obtain ⟨y, hy⟩ : ∃ y, lb[i]? = some y := ⟨_, List.getElem?_eq_getElem h⟩
        have hix := ih x (List.mem_of_getElem? hx) y (List.mem_of_getElem? hy)
        have hih := ihd (i + 1) (by omega)
        rw [drop_get hy, cmpE_cons]
        obtain ⟨k, n, s, l⟩ := x
        obtain ⟨k', n', s', l'⟩ := y
        simp only [get?Internal_eq, Int.toNat_natCast, rowsT_some hx, rowsT_some hy]
        simp [show i < la.length by omega, h, show ¬ lb.length ≤ i by omega, hix, bneD]
        by_cases hc : cmpT (.mk k n s l) (.mk k' n' s' l') = 0
        · simp [hc]; rw [wrap_succ (n := la.length) (by omega) hlen]; exact hih
        · simp [hc]
      · rw [dropNil (l := lb) (by omega), cmpE_cons_nil]
        obtain ⟨k, n, s, l⟩ := x
        simp only [get?Internal_eq, Int.toNat_natCast, rowsT_some hx]
        simp [show i < la.length by omega, show lb.length ≤ i by omega]
  apply Gets.get
  refine cmpFunc_run _ _ ?_
  exact loop la.length 0 (by omega)

theorem lists_of (la lb : List Tm) (hlen : la.length < 1099511627776) (ih : ∀ a ∈ la, ∀ b ∈ lb, EVs (EV cfg) 95 [a.av, b.av] = some (.int .i64 (cmpT a b))) :
    EVs (EV cfg) 115 [.sl (rowsT la), .sl (rowsT lb)] = some (.int .i64 (cmpE la lb)) := by
  apply Gets.get
  refine order_lists_run _ _ ?_
  rw [listsE_of la lb hlen ih]
  simp

theorem compare_loop (a : Tm) : a.Ok → ∀ (kb nb : Int) (sb : List UInt8) (lb : List Tm), (Tm.mk kb nb sb lb).Ok → Gets (wq15_0 a.kind a.num a.str (rowsT a.subs) kb nb sb (rowsT lb)) (· = .int .i64 (cmpT a (.mk kb nb sb lb))) := by
  induction a using Tm.ind with
  | _ k n s l ih =>
    intro hok kb nb sb lb hokb
    have ihe : ∀ a ∈ l, ∀ b ∈ lb, EVs (EV cfg) 95 [a.av, b.av] = some (.int .i64 (cmpT a b)) := by
      intro a ha b hb
      have := ih a ha (hok.sub ha)
      have hob := hokb.sub hb
      obtain ⟨k1, n1, s1, l1⟩ := a
      obtain ⟨k2, n2, s2, l2⟩ := b
      rw [Tm.av_mk, Tm.av_mk]
      apply Gets.get
      exact oCompare_run _ _ _ _ _ _ _ _ (this k2 n2 s2 l2 hob)
    have hlists := lists_of l lb hok.len ihe
    rw [cmpT_eq]
    refine wq15_0_step _ _ _ _ _ _ _ _ ?_
    simp only [Tm.kind, Tm.num, Tm.str, Tm.subs, cmp_ev, strCmp_ev, hlists, or2_ev, or3_ev, rowsT_length, kOptSome, kInt_int, bneD, beqD]
    by_cases h0 : ¬ numC k kb = 0
    · simp [h0]
    have h0 : numC k kb = 0 := Classical.not_not.1 h0
    simp [h0]
    by_cases h1 : k = 1
    · simp [h1]
    by_cases h3 : k = 3
    · simp [h3]
    by_cases h4 : k = 4
    · simp [h4]
    by_cases h6 : k = 6
    · simp [h6]
    by_cases h2 : k = 2
    · simp [h2]
    by_cases h5 : k = 5
    · simp [h5, cmpL]
    by_cases h9 : k = 9
    · subst h9
      by_cases hl : l.length = 2
      · by_cases hl' : lb.length = 2
        · obtain ⟨x, y, rfl⟩ : ∃ x y, l = [x, y] := by
            match l, hl with
            | [x, y], _ => exact ⟨x, y, rfl⟩
          obtain ⟨x', y', rfl⟩ : ∃ x y, lb = [x, y] := by
            match lb, hl' with
            | [x, y], _ => exact ⟨x, y, rfl⟩
          have hx := ihe x (by simp) x' (by simp)
          have hy := ih y (by simp) (hok.sub (by simp))
          have hoy := hokb.sub (t := y') (by simp)
          have hcl : cmpL [x, y] [x', y'] = if cmpT x x' ≠ 0 then cmpT x x' else cmpT y y' := by
            unfold cmpL
            rw [cmpE_cons, cmpE_cons, cmpE_nil]
            by_cases e1 : cmpT x x' = 0 <;> by_cases e2 : cmpT y y' = 0 <;> simp [numC_self, e1, e2]
          obtain ⟨k1, n1, s1, l1⟩ := x
          obtain ⟨k2, n2, s2, l2⟩ := y
          obtain ⟨k1', n1', s1', l1'⟩ := x'
          obtain ⟨k2', n2', s2', l2'⟩ := y'
          have hyy := hy k2' n2' s2' l2' hoy
          simp only [rowsT_cons, rowsT_nil, Tm.cells_mk]
          simp [hcl, hx]
          by_cases hc : cmpT (.mk k1 n1 s1 l1) (.mk k1' n1' s1' l1') = 0
          · simp [hc]; exact hyy
          · simp [hc]
        · have : ¬ ((lb.length : Int) = 2) := by omega
          simp [hl, this, cmpL]
      · have : ¬ ((l.length : Int) = 2) := by omega
        simp [this, cmpL]
    by_cases h7 : k = 7
    · simp [h7, cmpL]
    simp [h1, h2, h3, h4, h5, h6, h7, h9]

theorem compare_ev {a b : Tm} (ha : a.Ok) (hb : b.Ok) : EVs (EV cfg) 95 [a.av, b.av] = some (.int .i64 (cmpT a b)) := by
  have := compare_loop a ha
  obtain ⟨k1, n1, s1, l1⟩ := a
  obtain ⟨k2, n2, s2, l2⟩ := b
  rw [Tm.av_mk, Tm.av_mk]
  apply Gets.get
  exact oCompare_run _ _ _ _ _ _ _ _ (this k2 n2 s2 l2 hb)

end Go.Proofs.YtogebohommickaaGreat
end

section
namespace Go.Proofs.YtogebohommickaaGreat
open Go.Av
theorem truth_ev (b : Bool) : EVf (EV cfg) 91 [.bool b] = some (truthT b).av := by
  have ha : ∀ s, EVf (EV cfg) 110 [.str s] = some (symT s).av := by
    intro s
    apply Gets.get
    refine guard_atom_run _ ?_
    rw [symT_av]; simp
  apply Gets.get
  refine guard_truth_run _ ?_
  rw [ha, ha]
  cases b <;> simp [truthT, tru, fal]
theorem mInt_ev (e : Env) (b : Bool) (t : Tm) : EVm (EV cfg) 93 [.ptr 0 0 0, t.av] 7 (mR e b) = some (.int .i64 t.num, mR e (b || decide (t.kind ≠ 1))) := by
  have hr := mRaise_ev e b
  apply Gets.get
  rw [Tm.av, Tm.cells_eq]
  refine mInt_run _ _ _ _ _ _ _ _ _ _ _ ?_
  rw [hr, bneD]
  by_cases h : t.kind = 1
  · simp [h]
  · simp [h]
theorem mBool_ev (e : Env) (b : Bool) (t : Tm) : EVm (EV cfg) 57 [.ptr 0 0 0, t.av] 7 (mR e b) = some (.bool (decide (t.str = tru)), mR e (b || (boolG t).isNone)) := by
  have hr := mRaise_ev e b
  apply Gets.get
  rw [Tm.av, Tm.cells_eq]
  refine mBool_run _ _ _ _ _ _ _ _ _ _ _ ?_
  rw [hr, bneD]
  unfold boolG
  simp only [beqS, show ([116, 114, 117, 101] : List UInt8) = tru from rfl, show ([102, 97, 108, 115, 101] : List UInt8) = fal from rfl]
  by_cases h : t.kind = 2
  · by_cases h1 : t.str = tru
    · simp [h, h1]
    · by_cases h2 : t.str = fal
      · simp [h, h1, h2]
        have : ¬ fal = tru := by decide
        simp [this]
      · simp [h, h1, h2]
  · simp [h]
theorem boolG_some {t : Tm} {x : Bool} (h : boolG t = some x) : decide (t.str = tru) = x := by
  unfold boolG at h
  split at h
  · rename_i h1; cases h; exact decide_eq_true h1.2
  · split at h
    · rename_i h1; cases h; rw [h1.2]; decide
    · cases h
theorem ret_true {e : Env} {t : Tm} : Gets (some (t.av, mR e true)) (Res e none) := ⟨_, rfl, rfl, t, rfl⟩
theorem ret_false {e : Env} {t : Tm} : Gets (some (t.av, mR e false)) (Res e (some t)) := ⟨_, rfl, rfl⟩
theorem two_end {e : Env} {a b : Tm} (f : Bool → Bool → Bool) {o : Option (AV × List (List AV))} (h : o = some ((truthT (f (decide (a.str = tru)) (decide (b.str = tru)))).av, mR e (false || (boolG a).isNone || (boolG b).isNone))) :
    Gets o (Res e ((boolG a).bind fun x => (boolG b).map fun y => truthT (f x y))) := by
  subst h
  cases ha : boolG a with
  | none => exact ret_true
  | some x =>
    cases hb : boolG b with
    | none => exact ret_true
    | some y =>
      rw [boolG_some ha, boolG_some hb]
      exact ret_false
theorem mTwo_ev (e : Env) (op : List UInt8) {a b : Tm} (ha : a.Ok) (hb : b.Ok) (ia : a.kind = 1 → InB a.num) (ib : b.kind = 1 → InB b.num) (hp : op = [42] → ProductOk) :
    Gets (EVd (EV cfg) 72 [.ptr 0 0 0, .str op, a.av, b.av] 7 (mR e false)) (Res e (twoG op a b)) := by
  have hc := compare_ev ha hb
  rw [Tm.av, Tm.av, Tm.cells_eq a, Tm.cells_eq b]
  refine mTwo_run _ _ _ _ _ _ _ _ _ _ _ _ _ _ _ _ ?_
  simp only [av_unf, hc, kOptSome, kInt_int, truth_ev, kTmV_av, beqS, beqD, bneD]
  unfold twoG
  by_cases h1 : op = [61, 61]
  · rw [if_pos h1, decide_eq_true h1, cond_true]; exact ret_false
  rw [if_neg h1, decide_eq_false h1, cond_false]
  by_cases h2 : op = [61, 58, 61]
  · rw [if_pos h2, decide_eq_true h2, cond_true]; exact ret_false
  rw [if_neg h2, decide_eq_false h2, cond_false]
  by_cases h3 : op = [47, 61]
  · rw [if_pos h3, decide_eq_true h3, cond_true]; exact ret_false
  rw [if_neg h3, decide_eq_false h3, cond_false]
  by_cases h4 : op = [61, 47, 61]
  · rw [if_pos h4, decide_eq_true h4, cond_true]; exact ret_false
  rw [if_neg h4, decide_eq_false h4, cond_false]
  by_cases h5 : op = [60]
  · rw [if_pos h5, decide_eq_true h5, cond_true]; exact ret_false
  rw [if_neg h5, decide_eq_false h5, cond_false]
  by_cases h6 : op = [61, 60]
  · rw [if_pos h6, decide_eq_true h6, cond_true]; exact ret_false
  rw [if_neg h6, decide_eq_false h6, cond_false]
  by_cases h7 : op = [62]
  · rw [if_pos h7, decide_eq_true h7, cond_true]; exact ret_false
  rw [if_neg h7, decide_eq_false h7, cond_false]
  by_cases h8 : op = [62, 61]
  · rw [if_pos h8, decide_eq_true h8, cond_true]; exact ret_false
  rw [if_neg h8, decide_eq_false h8, cond_false]
  by_cases h9 : op = [97, 110, 100]
  · rw [if_pos (Or.inl h9), decide_eq_true h9, cond_true]
    refine two_end (fun x y => x && y) ?_
    simp only [mBool_ev, kOptSome, kMBool_bool]
    cases decide (a.str = tru) <;> cases decide (b.str = tru) <;> rfl
  rw [decide_eq_false h9, cond_false]
  by_cases h10 : op = [97, 110, 100, 97, 108, 115, 111]
  · rw [if_pos (Or.inr h10), decide_eq_true h10, cond_true]
    refine two_end (fun x y => x && y) ?_
    simp only [mBool_ev, kOptSome, kMBool_bool]
    cases decide (a.str = tru) <;> cases decide (b.str = tru) <;> rfl
  rw [if_neg (fun h => h.elim h9 h10), decide_eq_false h10, cond_false]
  by_cases h11 : op = [111, 114]
  · rw [if_pos (Or.inl h11), decide_eq_true h11, cond_true]
    refine two_end (fun x y => x || y) ?_
    simp only [mBool_ev, kOptSome, kMBool_bool]
    cases decide (a.str = tru) <;> cases decide (b.str = tru) <;> rfl
  rw [decide_eq_false h11, cond_false]
  by_cases h12 : op = [111, 114, 101, 108, 115, 101]
  · rw [if_pos (Or.inr h12), decide_eq_true h12, cond_true]
    refine two_end (fun x y => x || y) ?_
    simp only [mBool_ev, kOptSome, kMBool_bool]
    cases decide (a.str = tru) <;> cases decide (b.str = tru) <;> rfl
  rw [if_neg (fun h => h.elim h11 h12), decide_eq_false h12, cond_false]
  by_cases h13 : op = [120, 111, 114]
  · rw [if_pos h13, decide_eq_true h13, cond_true]
    refine two_end (fun x y => x != y) ?_
    simp only [mBool_ev, kOptSome, kMBool_bool]
    cases decide (a.str = tru) <;> cases decide (b.str = tru) <;> rfl
  rw [if_neg h13, decide_eq_false h13, cond_false]
  by_cases h14 : op = [101, 108, 101, 109, 101, 110, 116]
  · rw [if_pos h14, decide_eq_true h14, cond_true]
    simp only [mInt_ev, kOptSome, kMInt_int, mRaise_ev, kTmV_av, av_unf]
    by_cases g1 : 1 ≤ a.num
    · rw [decide_eq_true (show a.num ≥ 1 from g1), cond_true]
      by_cases g2 : b.kind = 7
      · rw [decide_eq_true g2, cond_true]
        by_cases g3 : a.num ≤ b.subs.length
        · have hl : (a.num - 1).toNat < b.subs.length := by omega
          obtain ⟨j, hj⟩ : ∃ j : Nat, a.num = (j : Int) + 1 := ⟨(a.num - 1).toNat, by omega⟩
          have hjl : j < b.subs.length := by omega
          have hbl := hb
          have hw : IntKind.wrap .i64 (a.num - 1) = (j : Int) := by
            have : b.subs.length < 1099511627776 := by
              obtain ⟨kb, nb, sb, lb⟩ := b
              exact hb.len
            rw [wrap64 (by omega) (by omega)]; omega
          have hx : b.subs[j]? = some b.subs[j] := List.getElem?_eq_getElem hjl
          have e1 : (a.num - 1).toNat = j := by omega
          rw [rowsT_length, decide_eq_true g3, cond_true, hw, leInt_zero, ltInt_nat, decide_eq_true hjl, rowsT_at hx, e1, hx]
          simp only [Bool.and_true, cond_true, length_cells, Nat.beq_refl, Nat.ble_eq, take_cells, kTmC_cells, av_unf]
          by_cases g0 : a.kind = 1
          · rw [if_pos ⟨g0, g1, g2, g3⟩]; simp only [g0]; exact ret_false
          · rw [if_neg (fun h => g0 h.1), decide_eq_true g0]; exact ret_true
        · rw [rowsT_length, decide_eq_false g3, cond_false, if_neg (fun h => g3 h.2.2.2)]; exact ret_true
      · rw [decide_eq_false g2, cond_false, if_neg (fun h => g2 h.2.2.1)]; exact ret_true
    · rw [decide_eq_false g1, cond_false, if_neg (fun h => g1 h.2.1)]; exact ret_true
  rw [if_neg h14, decide_eq_false h14, cond_false]
  simp only [mInt_ev, kOptSome, kMInt_int]
  by_cases ga : a.kind = 1
  · by_cases gb : b.kind = 1
    · rw [if_pos ⟨ga, gb⟩]
      simp only [ga, gb]
      exact Gets.bind (mNumbers_ev e op (ia ga) (ib gb) hp) fun r h => ret_res h (Res_tm h)
    · rw [if_neg (fun h => gb h.2), decide_eq_true gb, Bool.or_true, mNumbers_bad]
      simp only [kOptSome, kTmV_av, av_unf]; exact ret_true
  · rw [if_neg (fun h => ga h.1), decide_eq_true ga, Bool.or_true, Bool.true_or, mNumbers_bad]
    simp only [kOptSome, kTmV_av, av_unf]; exact ret_true
end Go.Proofs.YtogebohommickaaGreat
end

section
namespace Go.Proofs.YtogebohommickaaGreat
open Go.Av
set_option maxRecDepth 100000
set_option maxHeartbeats 0

noncomputable def Lh64_0 : Den := evC cfg (EV cfg) 58 none 1 (sub (bodyOf Tryz.f58) [1, 1, 1, 0, 1, 0, 0])
noncomputable def Ah64_0 : Ex × List AV × AH → Option (AV × List (List AV)) := kAft (Cfg.keepOut cfg 58 6) (kRun cfg (EV cfg) (kfN cfg 6) 58 none 1 (kFinX cfg 1 (Cfg.lift cfg 58 0) Tryz.f58.results.toList) ([.block 0, .seq (sub (bodyOf Tryz.f58) [1, 1, 1, 1])]))
noncomputable def Wh64_0 : List AV × AH → Option (AV × List (List AV)) := fun p => kOpt (LOOP 1 (some [1, 2, 3, 4, 18, 19, 20]) ([]) Lh64_0 p) Ah64_0
noncomputable def Lh47_0 : Den := evC cfg (EV cfg) 50 none 0 (sub (bodyOf Tryz.f50) [1, 1, 1, 0, 1, 0, 0])
noncomputable def Ah47_0 : Ex × List AV × AH → Option AV := kAft (Cfg.keepOut cfg 50 5) (kRun cfg (EV cfg) (kfN cfg 6) 50 none 0 (kFinS cfg (Cfg.lift cfg 50 0) Tryz.f50.results.toList) ([.block 0, .seq (sub (bodyOf Tryz.f50) [1, 1, 1, 1])]))
noncomputable def Wh47_0 : List AV × AH → Option AV := fun p => kOpt (LOOP 0 (some [1, 2, 5, 6]) ([]) Lh47_0 p) Ah47_0
noncomputable abbrev wh64_0 (lt : List (List AV)) (v20 : Int) (c1_0 : Int) (c1_1 : Int) (c1_2 : List UInt8) (c1_3 : List (List AV)) (c2_0 : Int) (c2_1 : Int) (c2_2 : List UInt8) (c2_3 : List (List AV)) (h3 : List (List AV)) : Option (AV × List (List AV)) := Wh64_0  (((fx 35 [(1, AV.ptr (0 : Nat) (0 : Nat) (0 : Nat)), (2, AV.ptr (1 : Nat) (0 : Nat) (0 : Nat)), (3, AV.ptr (2 : Nat) (0 : Nat) (0 : Nat)), (4, AV.ms (3 : Nat) (0 : Nat) (Int.toNat (↑(List.length lt) : Int))), (18, AV.sl lt), (19, AV.int IntKind.i64 (↑(List.length lt) : Int)), (20, AV.int IntKind.i64 v20)]) : List AV), ([ABlk.rows false (1 : Nat) [[AV.fn (Fn.func 58) [] [AV.ptr (0 : Nat) (0 : Nat) (0 : Nat)]]], ABlk.rows false (4 : Nat) [[AV.int IntKind.i64 c1_0, AV.int IntKind.i64 c1_1, AV.str c1_2, AV.sl c1_3]], ABlk.rows false (4 : Nat) [[AV.int IntKind.i64 c2_0, AV.int IntKind.i64 c2_1, AV.str c2_2, AV.sl c2_3]], ABlk.rows true (4 : Nat) h3] : AH))
noncomputable abbrev wh47_0 (most : Int) (v5 : Int) (v6 : Int) (c0_0 : Int) (c0_1 : Int) (c0_2 : List UInt8) (c0_3 : List (List AV)) : Option (AV) := Wh47_0  (((fx 43 [(1, AV.int IntKind.i64 most), (2, AV.ptr (0 : Nat) (0 : Nat) (0 : Nat)), (5, AV.int IntKind.i64 v5), (6, AV.int IntKind.i64 v6)]) : List AV), ([ABlk.rows false (4 : Nat) [[AV.int IntKind.i64 c0_0, AV.int IntKind.i64 c0_1, AV.str c0_2, AV.sl c0_3]]] : AH))
theorem term_Copy_run (kt : Int) (nt : Int) (st : List UInt8) (lt : List (List AV)) {P : AV → Prop} (h : Gets (kOpt (EVk (EV cfg) 58 [.agg [.int .i64 kt, .int .i64 nt, .str st, .sl lt], .ptr 0 0 0] 1 [[AV.fn (Fn.func 58) [] [.ptr 0 0 0]]]) fun (q : AV) => kTmV q fun (n n_1 : Int) (s : List UInt8) 
  (rows : List (List AV)) => (some (.agg [.int .i64 n, .int .i64 n_1, .str s, .sl rows]))) P) : Gets (EVf (EV cfg) 25 ([AV.agg [AV.int IntKind.i64 kt, AV.int IntKind.i64 nt, AV.str st, AV.sl lt]] : List AV)) P :=
  Gets.ev (fun _ h => funF rfl rfl Tryz.func25 rfl h) (Gets.eq (by kernel_rfl) h)
theorem copyIn_run (kt : Int) (nt : Int) (st : List UInt8) (lt : List (List AV)) {P : AV × List (List AV) → Prop} (h : Gets (bif (↑(List.length lt) : Int) == (0 : Int) then bif AV.refsLt 0 (.agg [.int .i64 kt, .int .i64 nt, .str st, .sl []]) then some (.agg [.int .i64 kt, .int .i64 nt, .str st, .sl []], [[AV.fn 
  (Fn.func 58) [] [.ptr 0 0 0]]]) else none else bif leInt (0 : Int) (↑(List.length lt) : Int) && leInt (↑(List.length lt) : Int) (↑(List.length lt) : Int) && leInt ((↑(List.length lt) 
  : Int) * (56 : Int)) (140737488355328 : Int) && leInt (↑(List.length lt) : Int) (9223372036854775807 : Int) then wh64_0 lt (0 : Int) kt nt st lt (0 : Int) (0 : Int) [] [] (List.replicate 
  (Int.toNat (↑(List.length lt) : Int)) [.int .i64 (0 : Int), .int .i64 (0 : Int), .str [], .nilS]) else none) P) : Gets (EVx (EV cfg) 58 ([AV.agg [AV.int IntKind.i64 kt, AV.int IntKind.i64 nt, AV.str st, AV.sl lt], AV.ptr (0 : Nat) (0 : Nat) (0 : Nat)] : List AV) 1 [[(AV.fn (Fn.func 58) [] [AV.ptr 0 0 0])]]) P :=
  Gets.ev (fun _ h => funX rfl rfl Tryz.func58 rfl h) (Gets.eq (by kernel_rfl) h)
theorem kitBig_run (kt : Int) (nt : Int) (st : List UInt8) (lt : List (List AV)) (most : Int) {P : AV → Prop} (h : Gets (kOpt (EVs (EV cfg) 50 [.agg [.int .i64 kt, .int .i64 nt, .str st, .sl lt], .int .i64 (IntKind.wrap .i64 (most + (1 : Int)))]) fun (v : AV) => kInt .i64 v fun (n : Int) => some (.bool 
  (decide (n > most)))) P) : Gets (EVs (EV cfg) 21 ([AV.agg [AV.int IntKind.i64 kt, AV.int IntKind.i64 nt, AV.str st, AV.sl lt], AV.int IntKind.i64 most] : List AV)) P :=
  Gets.ev (fun _ h => funS rfl rfl Tryz.func21 rfl h) (Gets.eq (by kernel_rfl) h)
theorem kitSize_run (kt : Int) (nt : Int) (st : List UInt8) (lt : List (List AV)) (most : Int) {P : AV → Prop} (h : Gets (bif decide ((↑(List.length st) : Int) > (100 : Int)) then some (.int .i64 most) else bif decide ((↑(List.length lt) : Int) > most) then some (.int .i64 most) else wh47_0 most (1 : Int) 
  (0 : Int) kt nt st lt) P) : Gets (EVs (EV cfg) 50 ([AV.agg [AV.int IntKind.i64 kt, AV.int IntKind.i64 nt, AV.str st, AV.sl lt], AV.int IntKind.i64 most] : List AV)) P :=
  Gets.ev (fun _ h => funS rfl rfl Tryz.func50 rfl h) (Gets.eq (by kernel_rfl) h)
theorem wh64_0_step (lt : List (List AV)) (v20 : Int) (c1_0 : Int) (c1_1 : Int) (c1_2 : List UInt8) (c1_3 : List (List AV)) (c2_0 : Int) (c2_1 : Int) (c2_2 : List UInt8) (c2_3 : List (List AV)) (h3 : List (List AV)) {P : AV × List (List AV) → Prop} (h : Gets (bif decide (v20 < (↑(List.length lt) : Int)) then bif leInt (0 : Int) v20 && ltInt v20 (↑(List.length lt) : Int) then kOpt (List.get?Internal lt (Int.toNat v20)) fun (row : List AV) 
  => bif Nat.beq (List.length row) 4 then bif Nat.ble 4 (List.length row) then kTmC (List.take 4 row) fun (n n_1 : Int) (s : List UInt8) (rows : List (List AV)) => (kOpt (EVk (EV cfg) 
  58 [.agg [.int .i64 n, .int .i64 n_1, .str s, .sl rows], .ptr 0 0 0] 1 [[AV.fn (Fn.func 58) [] [.ptr 0 0 0]]]) fun (q : AV) => kTmV q fun (n n_2 : Int) (s : List UInt8) (rows : List 
  (List AV)) => (bif leInt (0 : Int) v20 && ltInt v20 (↑(Int.toNat (↑(List.length lt) : Int)) : Int) then kOpt (List.get?Internal h3 (0 + Int.toNat v20)) fun (row : List AV) => bif Nat.ble 
  4 (List.length row) then wh64_0 lt (IntKind.wrap .i64 (v20 + (1 : Int))) c1_0 c1_1 c1_2 c1_3 c2_0 c2_1 c2_2 c2_3 (List.set h3 (0 + Int.toNat v20) (.int .i64 n :: .int .i64 n_2 :: .str 
  s :: .sl rows :: List.drop 4 row)) else none else none)) else none else none else none else bif Nat.ble (0 + Int.toNat (↑(List.length lt) : Int)) (List.length h3) && true then some 
  (.agg [.int .i64 c1_0, .int .i64 c1_1, .str c1_2, .sl (List.take (Int.toNat (↑(List.length lt) : Int)) h3)], [[AV.fn (Fn.func 58) [] [.ptr 0 0 0]]]) else none) P) : Gets (wh64_0 lt v20 c1_0 c1_1 c1_2 c1_3 c2_0 c2_1 c2_2 c2_3 h3) P :=
  Gets.ev (fun _ h => loop_step (cfg := cfg) (f := 58) (rd := none) (bs := 1) h) (Gets.eq (by kernel_rfl) h)
theorem wh47_0_step (most : Int) (v5 : Int) (v6 : Int) (c0_0 : Int) (c0_1 : Int) (c0_2 : List UInt8) (c0_3 : List (List AV)) {P : AV → Prop} (h : Gets (bif decide (v6 < (↑(List.length c0_3) : Int)) then bif decide (v5 < most) then bif leInt (0 : Int) v6 && ltInt v6 (↑(List.length c0_3) : Int) then kOpt (List.get?Internal c0_3 (Int.toNat 
  v6)) fun (row : List AV) => bif Nat.beq (List.length row) 4 then bif Nat.ble 4 (List.length row) then kTmC (List.take 4 row) fun (n n_1 : Int) (s : List UInt8) (rows : List (List AV)) 
  => (kOpt (EVs (EV cfg) 50 [.agg [.int .i64 n, .int .i64 n_1, .str s, .sl rows], .int .i64 (IntKind.wrap .i64 (most - v5))]) fun (v : AV) => kInt .i64 v fun (n : Int) => wh47_0 most 
  (IntKind.wrap .i64 (v5 + n)) (IntKind.wrap .i64 (v6 + (1 : Int))) c0_0 c0_1 c0_2 c0_3) else none else none else none else some (.int .i64 v5) else some (.int .i64 v5)) P) : Gets (wh47_0 most v5 v6 c0_0 c0_1 c0_2 c0_3) P :=
  Gets.ev (fun _ h => loop_step (cfg := cfg) (f := 50) (rd := none) (bs := 0) h) (Gets.eq (by kernel_rfl) h)
end Go.Proofs.YtogebohommickaaGreat
end

section
namespace Go.Proofs.YtogebohommickaaGreat
open Go.Av
def copyCell : List (List AV) := [[AV.fn (Fn.func 58) [] [AV.ptr 0 0 0]]]
theorem copyIn_ev (t : Tm) : t.Ok → EVx (EV cfg) 58 [t.av, .ptr 0 0 0] 1 copyCell = some (t.av, copyCell) := by
  induction t using Tm.ind with
  | _ k n s l ih =>
    intro hok
    have hlen := hok.len
    have loop : ∀ (d i : Nat), i + d = l.length → Gets (wh64_0 (rowsT l) i k n s (rowsT l) 0 0 [] [] (rowsT (l.take i) ++ List.replicate d [.int .i64 0, .int .i64 0, .str [], .nilS])) (· = ((Tm.mk k n s l).av, copyCell)) := by
      intro d
      induction d with
      | zero =>
        intro i hi
        refine wh64_0_step _ _ _ _ _ _ _ _ _ _ _ ?_
        obtain rfl : i = l.length := by omega
        have e : l.take l.length = l := List.take_of_length_le (Nat.le_refl _)
        rw [e]
        simp
        rfl
      | succ d ihd =>
        intro i hi
        refine wh64_0_step _ _ _ _ _ _ _ _ _ _ _ ?_
        have hil : i < l.length := by omega
        have hx : l[i]? = some l[i] := List.getElem?_eq_getElem hil
        have hxl := List.mem_of_getElem? hx
        have hix := EVk_of (ih l[i] hxl (hok.sub hxl))
        have hih := ihd (i + 1) (by omega)
        have hw := wrap_s hil hlen
        have e1 : l.take (i + 1) = l.take i ++ [l[i]] := by rw [List.take_add_one, hx]; rfl
        have ht : (rowsT (l.take i)).length = i := by rw [rowsT_length, List.length_take]; omega
        have g : (rowsT (l.take i) ++ List.replicate (d + 1) [AV.int .i64 0, .int .i64 0, .str [], .nilS])[i]? = some [AV.int .i64 0, .int .i64 0, .str [], .nilS] := by
          rw [List.getElem?_append_right (by omega), ht, Nat.sub_self]; rfl
        have g2 : (rowsT (l.take i) ++ List.replicate (d + 1) [AV.int .i64 0, .int .i64 0, .str [], .nilS]).set i l[i].cells = rowsT (l.take (i + 1)) ++ List.replicate d [AV.int .i64 0, .int .i64 0, .str [], .nilS] := by
          rw [List.set_append_right _ _ (by omega), e1, rowsT_append, rowsT_cons, rowsT_nil]
          have e3 : i - (rowsT (l.take i)).length = 0 := by omega
          rw [e3, List.replicate_succ, List.set_cons_zero, List.append_assoc]; rfl
        simp only [copyCell] at hix
        simp [hil, hx, hix, g, hw]
        rw [g2]
        simpa using hih
    apply Gets.get
    rw [Tm.av_mk]
    refine copyIn_run _ _ _ _ ?_
    rw [rowsT_length]
    by_cases hl : l.length = 0
    · have : l = [] := List.length_eq_zero_iff.1 hl
      subst this
      simp [copyCell, AV.refsLt, refsLtL]
    · have hl' : ((l.length : Int) == 0) = false := by rw [beqD]; exact decide_eq_false (by omega)
      have h56 : leInt ((l.length : Int) * 56) 140737488355328 = true := by simp [leInt]; omega
      have hm : leInt (l.length : Int) 9223372036854775807 = true := by simp [leInt]; omega
      have hz : leInt 0 (l.length : Int) = true := leInt_zero _
      have hs : leInt (l.length : Int) (l.length : Int) = true := by simp [leInt]
      rw [hl', h56, hm, hz, hs]
      have := loop l.length 0 (by omega)
      rw [Tm.av_mk] at this
      simpa using this
theorem copy_ev {t : Tm} (h : t.Ok) : EVf (EV cfg) 25 [t.av] = some t.av := by
  have h1 := EVk_of (copyIn_ev t h)
  obtain ⟨k, n, s, l⟩ := t
  rw [Tm.av_mk] at h1 ⊢
  apply Gets.get
  refine term_Copy_run _ _ _ _ ?_
  simp only [copyCell] at h1
  rw [h1]
  simp [← Tm.av_mk]
end Go.Proofs.YtogebohommickaaGreat
end

section
namespace Go.Proofs.YtogebohommickaaGreat
open Go.Av
theorem ops_ev (op : List UInt8) : EVf (EV cfg) 42 [.str op] = some (.sl (intsR (opsG op))) := by
  apply Gets.get
  refine guard_Ops_run _ ?_
  have h := lookS_map (fun l => some (AV.sl (intsR l))) op [] opsTab
  have : Gets (lookS op (some (AV.sl (intsR []))) (opsTab.map fun p => (p.1, some (AV.sl (intsR p.2))))) (· = .sl (intsR (opsG op))) := by
    rw [h]; exact ⟨_, rfl, rfl⟩
  exact this
theorem index_ev (l : List Int) (hl : l.length < 1099511627776) (n : Int) : ∀ d i : Nat, i + d = l.length → Gets (wg65_0 (intsR l) n i) (fun v => ∃ j : Int, v = .int .i64 j ∧ (0 ≤ j ↔ n ∈ l.drop i)) := by
  intro d
  induction d with
  | zero =>
    intro i hi
    refine wg65_0_step _ _ _ ?_
    rw [intsR_len, decide_eq_false (by omega)]
    refine ⟨_, rfl, -1, rfl, ?_⟩
    rw [List.drop_eq_nil_of_le (by omega)]
    simp
  | succ d ih =>
    intro i hi
    have hil : i < l.length := by omega
    refine wg65_0_step _ _ _ ?_
    have hx : l[i]? = some l[i] := List.getElem?_eq_getElem hil
    have hd : l.drop i = l[i] :: l.drop (i + 1) := List.drop_eq_getElem_cons hil
    have h := ih (i + 1) (by omega)
    rw [intsR_len, decide_eq_true (show (i : Int) < (l.length : Int) by omega), leInt_zero, ltInt_nat, decide_eq_true hil, get?Internal_eq, Int.toNat_natCast, intsR_get, hx, wrap_succ hil hl]
    by_cases he : n = l[i]
    · refine ⟨.int .i64 i, ?_, i, rfl, ?_⟩
      · simp [he]
      · rw [hd, he]; exact ⟨fun _ => List.mem_cons_self, fun _ => by omega⟩
    · have hne : (n == l[i]) = false := by rw [beqI]; exact decide_eq_false he
      simp [hne]
      refine Gets.mono (by simpa using h) ?_
      rintro _ ⟨j, rfl, hj⟩
      exact ⟨j, rfl, by rw [hj, hd, List.mem_cons]; exact ⟨Or.inr, fun h => h.resolve_left he⟩⟩
theorem contains_ev (l : List Int) (hl : l.length < 1099511627776) (n : Int) : EVs (EV cfg) 41 [.sl (intsR l), .int .i64 n] = some (.bool (decide (n ∈ l))) := by
  obtain ⟨_, h1, j, rfl, hj⟩ := index_ev l hl n l.length 0 (by omega)
  have h2 : EVs (EV cfg) 67 [.sl (intsR l), .int .i64 n] = some (.int .i64 j) := by
    apply Gets.get
    exact indexI_run _ _ ⟨_, h1, rfl⟩
  apply Gets.get
  refine containsI_run _ _ ?_
  rw [h2]
  rw [List.drop_zero] at hj
  refine ⟨_, rfl, ?_⟩
  show AV.bool (decide (j ≥ 0)) = _
  congr 1
  exact decide_eq_decide.2 hj
theorem self_ev (n : Int) : EVs (EV cfg) 43 [.int .i64 n] = some (.bool (selfG n)) := by
  apply Gets.get
  refine guard_self_run _ ?_
  unfold selfG
  by_cases h : 1 ≤ n
  · simp [h]
  · simp [h]
end Go.Proofs.YtogebohommickaaGreat
end

section
namespace Go.Proofs.YtogebohommickaaGreat
open Go.Av
theorem opsG_len (op : List UInt8) : (opsG op).length < 1099511627776 := by
  have : ∀ (l : List (List UInt8 × List Int)), (∀ p ∈ l, p.2.length ≤ 2) → (lookS op [] l).length ≤ 2 := by
    intro l
    induction l with
    | nil => intro _; simp [lookS]
    | cons p l ih =>
      intro h
      rw [lookS]
      cases op == p.1
      · exact ih fun q hq => h q (by simp [hq])
      · exact h p (by simp)
  have := this opsTab (by decide)
  unfold opsG
  omega
theorem all_of {V : List Int} {l : List Tm} (hlen : l.length < 1099511627776) (ih : ∀ x ∈ l, EVs (EV cfg) 51 [x.av, .sl (intsR V)] = some (.bool (isG V x))) :
    EVs (EV cfg) 78 [.sl (rowsT l), .sl (intsR V)] = some (.bool (allG V l)) := by
  have hin : ∀ x ∈ l, EVs (EV cfg) 107 [x.av, .cptr [.sl (intsR V)] 0] = some (.bool (!isG V x)) := by
    intro x hx
    have h := ih x hx
    apply Gets.get
    rw [Tm.av, Tm.cells_eq] at h ⊢
    refine allIn_run _ _ _ _ _ ?_
    rw [h]; exact ⟨_, rfl, rfl⟩
  have loop : ∀ d i : Nat, i + d = l.length → Gets (wt86_0 (rowsT l) (intsR V) i) (fun v => ∃ j : Int, v = .int .i64 j ∧ (0 ≤ j ↔ allG V (l.drop i) = false)) := by
    intro d
    induction d with
    | zero =>
      intro i hi
      refine wt86_0_step _ _ _ ?_
      rw [rowsT_length, decide_eq_false (by omega)]
      refine ⟨_, rfl, -1, rfl, ?_⟩
      rw [List.drop_eq_nil_of_le (by omega)]
      simp [allG]
    | succ d ihd =>
      intro i hi
      have hil : i < l.length := by omega
      refine wt86_0_step _ _ _ ?_
      have hx : l[i]? = some l[i] := List.getElem?_eq_getElem hil
      have hd : l.drop i = l[i] :: l.drop (i + 1) := List.drop_eq_getElem_cons hil
      have h1 := hin l[i] (List.mem_of_getElem? hx)
      have h2 := ihd (i + 1) (by omega)
      rw [rowsT_length, decide_eq_true (show (i : Int) < (l.length : Int) by omega), leInt_zero, ltInt_nat, decide_eq_true hil, rowsT_at hx, wrap_succ hil hlen]
      simp only [cond_true, Bool.and_self, length_cells, Nat.beq_refl, take_cells, kTmC_cells, show Nat.ble 4 4 = true from rfl, av_unf, h1, kOptSome, kBool_bool]
      cases hg : isG V l[i] with
      | false =>
        refine ⟨_, rfl, i, rfl, ?_⟩
        rw [hd, allG, hg]
        exact ⟨fun _ => rfl, fun _ => by omega⟩
      | true =>
        refine h2.mono ?_
        rintro _ ⟨j, rfl, hj⟩
        refine ⟨j, rfl, ?_⟩
        rw [hd, allG, hg, Bool.true_and]; exact hj
  obtain ⟨_, h1, j, rfl, hj⟩ := loop l.length 0 (by omega)
  rw [List.drop_zero] at hj
  have h2 : EVs (EV cfg) 122 [.sl (rowsT l), .fn (.func 107) [] [.cptr [.sl (intsR V)] 0]] = some (.int .i64 j) := by
    apply Gets.get
    exact indFunc_run _ _ ⟨_, h1, rfl⟩
  have h3 : EVs (EV cfg) 106 [.sl (rowsT l), .fn (.func 107) [] [.cptr [.sl (intsR V)] 0]] = some (.bool (decide (j ≥ 0))) := by
    apply Gets.get
    refine contFunc_run _ _ ?_
    rw [h2]; exact ⟨_, rfl, rfl⟩
  apply Gets.get
  refine guardAll_run _ _ ?_
  rw [h3]
  refine ⟨_, rfl, ?_⟩
  show AV.bool (!decide (j ≥ 0)) = _
  congr 1
  cases ha : allG V l with
  | false => rw [decide_eq_true (hj.2 ha)]; rfl
  | true =>
    have : ¬ j ≥ 0 := fun h => by have := hj.1 h; rw [ha] at this; cases this
    rw [decide_eq_false this]; rfl
theorem is_ev {V : List Int} (hV : V.length < 1099511627776) : ∀ (n : Nat) (t : Tm), t.w ≤ n → n < 1099511627776 → EVs (EV cfg) 51 [t.av, .sl (intsR V)] = some (.bool (isG V t)) := by
  intro n
  induction n with
  | zero => intro t h; have := w_pos t; omega
  | succ n ih =>
    intro t hw hn
    have hwe := t.w_eq
    have hwl := wL_len t.subs
    have allOf : ∀ l : List Tm, wL l ≤ n → EVs (EV cfg) 78 [.sl (rowsT l), .sl (intsR V)] = some (.bool (allG V l)) := fun l hl =>
      all_of (by have := wL_len l; omega) fun x hx => ih x (by have := wL_mem hx; omega) (by omega)
    have hvar := patVar_ev (t := t) (by omega)
    have hsub := allOf t.subs (by omega)
    apply Gets.get
    rw [Tm.av, Tm.cells_eq] at hvar ⊢
    refine guardIs_run _ _ _ _ _ ?_
    rw [hvar, hsub]
    simp only [beqI, kOptSome, kBool_bool]
    by_cases h2 : t.kind = 2
    · rw [decide_eq_true h2, cond_true, isG_atom h2]
      simp only [varR, kTup, kCons, kInt_int, kBool_bool, kNil]
      cases hv : varT t with
      | none => exact ⟨_, rfl, rfl⟩
      | some x =>
        have hc := contains_ev V hV x
        simp only [Option.getD_some, Option.isSome_some, Bool.not_true, cond_false]
        rw [hc]; exact ⟨_, rfl, rfl⟩
    · rw [decide_eq_false h2, cond_false]
      by_cases h9 : t.kind = 9
      · rw [decide_eq_true h9, cond_true, isG_cons h9]; exact ⟨_, rfl, rfl⟩
      · rw [decide_eq_false h9, cond_false]
        by_cases h7 : t.kind = 7
        · rw [decide_eq_true h7, cond_true]
          cases hl : t.subs with
          | nil => rw [isG_nil h7 hl]; exact ⟨_, rfl, rfl⟩
          | cons f r =>
            rw [isG_tup h7 hl]
            rw [hl] at hwl hwe
            rw [wL_cons] at hwe
            have hfw := f.w_eq
            have hfs := allOf f.subs (by omega)
            have hr := allOf r (by omega)
            have c0 : (decide (((rowsT (f :: r)).length : Int) = 0)) = false := by rw [rowsT_length]; exact decide_eq_false (by simp; omega)
            have c1 : ltInt 0 ((rowsT (f :: r)).length : Int) = true := by rw [rowsT_length]; exact decide_eq_true (by simp)
            have c2 : leInt 1 ((rowsT (f :: r)).length : Int) = true := by rw [rowsT_length]; exact decide_eq_true (by simp; omega)
            have g0 : (rowsT (f :: r))[(0 : Int).toNat]? = some f.cells := by rw [rowsT_cons]; rfl
            have tk : List.take ((rowsT (f :: r)).length - 1) (List.drop 1 (rowsT (f :: r))) = rowsT r := by
              rw [rowsT_cons, List.drop_succ_cons, List.drop_zero, List.length_cons, Nat.add_sub_cancel, List.take_length]
            have g0' : (rowsT (f :: r))[0]? = some f.cells := g0
            rw [c0, c1, c2, tk]
            simp only [cond_false, cond_true, get?Internal_eq, g0, g0', kOptSome, length_cells, Nat.beq_refl, show Nat.ble 4 4 = true from rfl, take_cells, kTmC_cells, rowsOk_rowsT, rowsT_length, beqS]
            by_cases f7 : f.kind = 7
            · rw [if_pos f7, decide_eq_true f7, cond_true, hfs]
              by_cases hrl : r.length = 0
              · have : decide ((r.length : Int) = 0) = true := decide_eq_true (by omega)
                rw [this, decide_eq_true hrl]; exact ⟨_, rfl, rfl⟩
              · have : decide ((r.length : Int) = 0) = false := decide_eq_false (by omega)
                rw [this, decide_eq_false hrl]; exact ⟨_, rfl, rfl⟩
            · rw [if_neg f7, decide_eq_false f7, cond_false]
              by_cases f2 : f.kind = 2
              · have : (f.kind != 2) = false := by rw [f2]; rfl
                rw [if_pos f2, this, cond_false]
                by_cases hc : f.str = [99, 111, 110, 115, 116]
                · rw [if_pos hc, decide_eq_true hc]
                  refine ⟨_, rfl, ?_⟩
                  show AV.bool (decide ((r.length : Int) = 1)) = _
                  congr 1
                  exact decide_eq_decide.2 (by omega)
                · rw [if_neg hc, decide_eq_false hc, cond_false, ops_ev]
                  have hcn := contains_ev (opsG f.str) (opsG_len f.str) (r.length : Int)
                  simp only [kOptSome, kSl_sl, hcn, kBool_bool, hr]
                  cases decide ((r.length : Int) ∈ opsG f.str) <;> exact ⟨_, rfl, rfl⟩
              · have : (f.kind != 2) = true := by simpa using f2
                rw [if_neg f2, this]; exact ⟨_, rfl, rfl⟩
        · rw [decide_eq_false h7, isG_other h2 h9 h7]; exact ⟨_, rfl, rfl⟩
theorem guardCheck_ev {V : List Int} (hV : V.length < 1099511627776) {t : Tm} (h : t.w < 1099511627776) : EVs (EV cfg) 23 [t.av, .sl (intsR V)] = some (.int .i64 (checkG V t)) := by
  have hc := check_ev h
  have hi := is_ev hV t.w t (Nat.le_refl _) h
  apply Gets.get
  rw [Tm.av, Tm.cells_eq] at hc hi ⊢
  refine guardCheck_run _ _ _ _ _ ?_
  rw [hc, hi]
  unfold checkG
  simp only [kOptSome, kInt_int, kBool_bool]
  by_cases h0 : t.chk = 0
  · have : (t.chk != 0) = false := by rw [h0]; rfl
    rw [this, if_pos h0]
    cases isG V t <;> exact ⟨_, rfl, rfl⟩
  · have : (t.chk != 0) = true := by simpa using h0
    rw [this, if_neg h0]; exact ⟨_, rfl, rfl⟩
end Go.Proofs.YtogebohommickaaGreat
end

section
namespace Go.Proofs.YtogebohommickaaGreat
open Go.Av
set_option maxRecDepth 100000
set_option maxHeartbeats 0

noncomputable def Lz82_0 : Den := evC cfg (EV cfg) 123 none 6 (sub (bodyOf Tryz.f123) [0, 0])
noncomputable def Az82_0 : Ex × List AV × AH → Option (AV × List (List AV)) := kAft (Cfg.keepOut cfg 123 (firstRid (sub (bodyOf Tryz.f123) [0, 0]))) (kBlock 0 (kFinG cfg (Cfg.lift cfg 123 0) (fun (v : AV) (H : AH) => (fun (r : AV × AH) => kRangeEnd 1 5 (fx 37 [(0, AV.ptr 0 0 0), (5, AV.ptr 1 0 0), (6, AV.ptr 2 0 0), (7, AV.ptr 3 0 0)]) (kBlock 0 (kSeq (fun (fr : List AV) (H : AH) => kCutTo (Cfg.cut cfg 94 (firstRid (sub (bodyOf Tryz.f94) [1, 0, 1, 0, 0, 1, 1, 1]))) fr H fun (fr : List AV) (H : AH) => kCode cfg (EV cfg) (kfN cfg 6) 94 none 1 (sub (bodyOf Tryz.f94) [1, 0, 1, 0, 0, 1, 1, 1]) fr H (kScope (kSeq (fun (fr : List AV) (H : AH) => kCutTo (Cfg.cut cfg 94 (firstRid (sub (bodyOf Tryz.f94) [1, 1]))) fr H fun (fr : List AV) (H : AH) => kCode cfg (EV cfg) (kfN cfg 6) 94 none 1 (sub (bodyOf Tryz.f94) [1, 1]) fr H (kFinD cfg 7 (Cfg.lift cfg 94 0) (Array.toList (Func.results Tryz.f94)))) (kFinD cfg 7 (Cfg.lift cfg 94 0) (Array.toList (Func.results Tryz.f94)))))) (kScope (kSeq (fun (fr : List AV) (H : AH) => kCutTo (Cfg.cut cfg 94 (firstRid (sub (bodyOf Tryz.f94) [1, 1]))) fr H fun (fr : List AV) (H : AH) => kCode cfg (EV cfg) (kfN cfg 6) 94 none 1 (sub (bodyOf Tryz.f94) [1, 1]) fr H (kFinD cfg 7 (Cfg.lift cfg 94 0) (Array.toList (Func.results Tryz.f94)))) (kFinD cfg 7 (Cfg.lift cfg 94 0) (Array.toList (Func.results Tryz.f94))))))) (Prod.snd r)) (v, H)) (Array.toList (Func.results (Prod.snd (123, Tryz.f123))))))
noncomputable def Wz82_0 : List AV × AH → Option (AV × List (List AV)) := fun (p : List AV × AH) => kOpt (LOOP 6 (some [0, 1]) [] Lz82_0 p) Az82_0
noncomputable def Lz9_0 : Den := evC cfg (EV cfg) 6 none 0 (sub (bodyOf Tryz.f6) [1, 0, 1, 0, 0])
noncomputable def Az9_0 : Ex × List AV × AH → Option AV := kAft (Cfg.keepOut cfg 6 2) (kRun cfg (EV cfg) (kfN cfg 6) 6 none 0 (kFinS cfg (Cfg.lift cfg 6 0) Tryz.f6.results.toList) ([.block 0, .seq (sub (bodyOf Tryz.f6) [1, 1])]))
noncomputable def Wz9_0 : List AV × AH → Option AV := fun p => kOpt (LOOP 0 (some [0, 3, 5]) ([]) Lz9_0 p) Az9_0
noncomputable def Lz9_1 : Den := evC cfg (EV cfg) 6 none 0 (sub (bodyOf Tryz.f6) [1, 1, 0, 1, 0, 0])
noncomputable def Az9_1 : Ex × List AV × AH → Option AV := kAft (Cfg.keepOut cfg 6 7) (kRun cfg (EV cfg) (kfN cfg 6) 6 none 0 (kFinS cfg (Cfg.lift cfg 6 0) Tryz.f6.results.toList) ([.block 2, .seq (sub (bodyOf Tryz.f6) [1, 1, 1])]))
noncomputable def Wz9_1 : List AV × AH → Option AV := fun p => kOpt (LOOP 0 (some [0, 3, 6]) ([]) Lz9_1 p) Az9_1
noncomputable abbrev wz82_0 (h0 : List (List AV)) (c1_0 : Int) (c1_1 : Int) (c1_2 : List UInt8) (c1_3 : List (List AV)) (c2_0 : Int) (c2_1 : Int) (c2_2 : List UInt8) (c2_3 : List (List AV)) (c3_0 : Int) : Option (AV × List (List AV)) := Wz82_0  (((fx 25 [(0, AV.yld (5 : Nat)), (1, AV.ptr (4 : Nat) (0 : Nat) (0 : Nat))]) : List AV), ([ABlk.rows true (7 : Nat) h0, ABlk.rows false (4 : Nat) [[AV.int IntKind.i64 c1_0, AV.int IntKind.i64 c1_1, AV.str c1_2, AV.sl c1_3]], ABlk.rows false (4 : Nat) [[AV.int IntKind.i64 c2_0, AV.int IntKind.i64 c2_1, AV.str c2_2, AV.sl c2_3]], ABlk.rows false (1 : Nat) [[AV.int IntKind.i64 c3_0]], ABlk.rows false (1 : Nat) [[AV.ptr (1 : Nat) (0 : Nat) (0 : Nat)]], rngB Tryz.f94 (94 : Nat) [(1 : Nat), (0 : Nat), (1 : Nat), (0 : Nat), (0 : Nat), (1 : Nat), (1 : Nat), (0 : Nat), (1 : Nat), (0 : Nat)] (fx 37 [(7, AV.ptr (3 : Nat) (0 : Nat) (0 : Nat))]) none LoopState.ready] : AH))
noncomputable abbrev wz9_0 (L : List (List AV)) (v5 : Int) (c0_0 : Int) (c0_1 : Int) (c0_2 : List UInt8) (c0_3 : List (List AV)) (c0_4 : List (List AV)) (c0_5 : Int) : Option (AV) := Wz9_0  (((fx 54 [(0, AV.sl L), (3, AV.ptr (0 : Nat) (0 : Nat) (0 : Nat)), (5, AV.int IntKind.i64 v5)]) : List AV), ([ABlk.rows false (6 : Nat) [[AV.int IntKind.i64 c0_0, AV.int IntKind.i64 c0_1, AV.str c0_2, AV.sl c0_3, AV.sl c0_4, AV.int IntKind.i64 c0_5]]] : AH))
noncomputable abbrev wz9_1 (L : List (List AV)) (v6 : Int) (c0_0 : Int) (c0_1 : Int) (c0_2 : List UInt8) (c0_3 : List (List AV)) (c0_4 : List (List AV)) (c0_5 : Int) : Option (AV) := Wz9_1  (((fx 54 [(0, AV.sl L), (3, AV.ptr (0 : Nat) (0 : Nat) (0 : Nat)), (6, AV.int IntKind.i64 v6)]) : List AV), ([ABlk.rows false (6 : Nat) [[AV.int IntKind.i64 c0_0, AV.int IntKind.i64 c0_1, AV.str c0_2, AV.sl c0_3, AV.sl c0_4, AV.int IntKind.i64 c0_5]]] : AH))
theorem mList_run (ke : Int) (ne : Int) (se : List UInt8) (le : List (List AV)) (bd : List (List AV)) (self : Int) (bad : Bool) (op : List UInt8) (kt : Int) (nt : Int) (st : List UInt8) (lt : List (List AV)) {P : AV × List (List AV) → Prop} (h : Gets (bif op == [(108 : UInt8), (101 : UInt8), (110 : UInt8), (103 : UInt8), (116 : UInt8), (104 : UInt8)] then wz82_0 [[AV.int .i64 ke, .int .i64 ne, .str se, .sl le, .sl bd, .int .i64 self, 
  .bool bad]] kt nt st lt (0 : Int) (0 : Int) [] [] (0 : Int) else bif kt != (9 : Int) then kOpt (EVd (EV cfg) 83 [.ptr 0 0 0] 7 [[AV.int .i64 ke, .int .i64 ne, .str se, .sl le, .sl bd, 
  .int .i64 self, .bool bad]]) fun (q : AV × List (List AV)) => kTmV q.1 fun (n n_1 : Int) (s : List UInt8) (rows : List (List AV)) => (some (.agg [AV.int .i64 n, .int .i64 n_1, .str s, 
  .sl rows], q.2)) else bif op == [(104 : UInt8), (100 : UInt8)] then bif ltInt (0 : Int) (↑(List.length lt) : Int) then kOpt (List.get?Internal lt 0) fun (row : List AV) => bif Nat.beq 
  (List.length row) 4 then bif Nat.ble 4 (List.length row) then kTmC (List.take 4 row) fun (n n_1 : Int) (s : List UInt8) (rows : List (List AV)) => (some (.agg [AV.int .i64 n, .int .i64 
  n_1, .str s, .sl rows], [[AV.int .i64 ke, .int .i64 ne, .str se, .sl le, .sl bd, .int .i64 self, .bool bad]])) else none else none else none else bif ltInt (1 : Int) (↑(List.length lt) 
  : Int) then kOpt (List.get?Internal lt 1) fun (row : List AV) => bif Nat.beq (List.length row) 4 then bif Nat.ble 4 (List.length row) then kTmC (List.take 4 row) fun (n n_1 : Int) (s 
  : List UInt8) (rows : List (List AV)) => (some (.agg [AV.int .i64 n, .int .i64 n_1, .str s, .sl rows], [[AV.int .i64 ke, .int .i64 ne, .str se, .sl le, .sl bd, .int .i64 self, .bool bad]])) 
  else none else none else none) P) : Gets (EVd (EV cfg) 94 ([AV.ptr (0 : Nat) (0 : Nat) (0 : Nat), AV.str op, AV.agg [AV.int IntKind.i64 kt, AV.int IntKind.i64 nt, AV.str st, AV.sl lt]] : List AV) 7 [[AV.int .i64 ke, AV.int .i64 ne, AV.str se, AV.sl le, AV.sl bd, AV.int .i64 self, AV.bool bad]]) P :=
  Gets.ev (fun _ h => funD rfl rfl Tryz.func94 rfl h) (Gets.eq (by kernel_rfl) h)
theorem mul64_run (a : Int) (b : Int) {P : AV → Prop} (h : Gets (kOpt (fromSem (Op.intBits BinOp.and .u64 a (4294967295 : Int))) fun (v : AV) => kInt .u64 v fun (n : Int) => kOpt (fromSem (Op.shift BinOp.shr .u64 a .u64 (32 : Int))) fun (v : AV) 
  => kInt .u64 v fun (n_1 : Int) => kOpt (fromSem (Op.intBits BinOp.and .u64 b (4294967295 : Int))) fun (v : AV) => kInt .u64 v fun (n_2 : Int) => kOpt (fromSem (Op.shift BinOp.shr .u64 
  b .u64 (32 : Int))) fun (v : AV) => kInt .u64 v fun (n_3 : Int) => kOpt (fromSem (Op.shift BinOp.shr .u64 (IntKind.wrap .u64 (n * n_2)) .u64 (32 : Int))) fun (v : AV) => kInt .u64 v 
  fun (n_4 : Int) => kOpt (fromSem (Op.intBits BinOp.and .u64 (IntKind.wrap .u64 (IntKind.wrap .u64 (n_1 * n_2) + n_4)) (4294967295 : Int))) fun (v : AV) => kInt .u64 v fun (n_5 : Int) 
  => kOpt (fromSem (Op.shift BinOp.shr .u64 (IntKind.wrap .u64 (IntKind.wrap .u64 (n_1 * n_2) + n_4)) .u64 (32 : Int))) fun (v : AV) => kInt .u64 v fun (n_6 : Int) => kOpt (fromSem (Op.shift 
  BinOp.shr .u64 (IntKind.wrap .u64 (n_5 + IntKind.wrap .u64 (n * n_3))) .u64 (32 : Int))) fun (v : AV) => kInt .u64 v fun (n : Int) => some (AV.tup [AV.int .u64 (IntKind.wrap .u64 (IntKind.wrap 
  .u64 (IntKind.wrap .u64 (n_1 * n_3) + n_6) + n)), .int .u64 (IntKind.wrap .u64 (a * b))])) P) : Gets (EVs (EV cfg) 127 ([AV.int IntKind.u64 a, AV.int IntKind.u64 b] : List AV)) P :=
  Gets.ev (fun _ h => funS rfl rfl Tryz.func127 rfl h) (Gets.eq (by kernel_rfl) h)
theorem law17Large_run (L : List (List AV)) (ke : Int) (ne : Int) (se : List UInt8) (le : List (List AV)) (bd : List (List AV)) (self : Int) {P : AV → Prop} (h : Gets (wz9_0 L (0 : Int) ke ne se le bd self) P) : Gets (EVs (EV cfg) 6 ([AV.sl L, AV.agg [AV.int IntKind.i64 ke, AV.int IntKind.i64 ne, AV.str se, AV.sl le, AV.sl bd, AV.int IntKind.i64 self]] : List AV)) P :=
  Gets.ev (fun _ h => funS rfl rfl Tryz.func6 rfl h) (Gets.eq (by kernel_rfl) h)
theorem wz82_0_step (h0 : List (List AV)) (c1_0 : Int) (c1_1 : Int) (c1_2 : List UInt8) (c1_3 : List (List AV)) (c2_0 : Int) (c2_1 : Int) (c2_2 : List UInt8) (c2_3 : List (List AV)) (c3_0 : Int) {P : AV × List (List AV) → Prop} (h : Gets (bif c1_0 == (9 : Int) then bif ltInt (0 : Int) (↑(List.length c1_3) : Int) then kOpt (List.get?Internal c1_3 0) fun (row : List AV) => bif Nat.beq (List.length row) 4 then bif Nat.ble 
  4 (List.length row) then kTmC (List.take 4 row) fun (n n : Int) (s : List UInt8) (rows : List (List AV)) => (bif ltInt (1 : Int) (↑(List.length c1_3) : Int) then kOpt (List.get?Internal 
  c1_3 1) fun (row : List AV) => bif Nat.beq (List.length row) 4 then bif Nat.ble 4 (List.length row) then kTmC (List.take 4 row) fun (n n_1 : Int) (s : List UInt8) (rows : List (List 
  AV)) => (wz82_0 h0 n n_1 s rows c2_0 c2_1 c2_2 c2_3 (IntKind.wrap .i64 (c3_0 + (1 : Int)))) else none else none else none) else none else none else none else bif c1_0 != (8 : Int) then 
  kOpt (EVd (EV cfg) 83 [.ptr 0 0 0] 7 h0) fun (q : AV × List (List AV)) => kTmV q.1 fun (n n_1 : Int) (s : List UInt8) (rows : List (List AV)) => (some (.agg [AV.int .i64 n, .int .i64 
  n_1, .str s, .sl rows], q.2)) else kOpt (EVd (EV cfg) 92 [.ptr 0 0 0, .int .i64 c3_0] 7 h0) fun (q : AV × List (List AV)) => kTmV q.1 fun (n n_1 : Int) (s : List UInt8) (rows : List 
  (List AV)) => (some (.agg [AV.int .i64 n, .int .i64 n_1, .str s, .sl rows], q.2))) P) : Gets (wz82_0 h0 c1_0 c1_1 c1_2 c1_3 c2_0 c2_1 c2_2 c2_3 c3_0) P :=
  Gets.ev (fun _ h => loop_step (cfg := cfg) (f := 123) (rd := none) (bs := 6) h) (Gets.eq (by kernel_rfl) h)
theorem wz9_0_step (L : List (List AV)) (v5 : Int) (c0_0 : Int) (c0_1 : Int) (c0_2 : List UInt8) (c0_3 : List (List AV)) (c0_4 : List (List AV)) (c0_5 : Int) {P : AV → Prop} (h : Gets (bif decide (v5 < (↑(List.length L) : Int)) then bif decide (v5 < (101 : Int)) then bif leInt (0 : Int) v5 && ltInt v5 (↑(List.length L) : Int) then kOpt (List.get?Internal L (Int.toNat 
  v5)) fun (row : List AV) => bif Nat.beq (List.length row) 4 then bif Nat.ble 4 (List.length row) then kTmC (List.take 4 row) fun (n n_1 : Int) (s : List UInt8) (rows : List (List AV)) 
  => (kOpt (EVs (EV cfg) 21 [.agg [AV.int .i64 n, .int .i64 n_1, .str s, .sl rows], .int .i64 (300 : Int)]) fun (v : AV) => kBool v fun (b : Bool) => bif b then some (.bool true) else wz9_0 
  L (IntKind.wrap .i64 (v5 + (1 : Int))) c0_0 c0_1 c0_2 c0_3 c0_4 c0_5) else none else none else none else wz9_1 L (0 : Int) c0_0 c0_1 c0_2 c0_3 c0_4 c0_5 else wz9_1 L (0 : Int) c0_0 
  c0_1 c0_2 c0_3 c0_4 c0_5) P) : Gets (wz9_0 L v5 c0_0 c0_1 c0_2 c0_3 c0_4 c0_5) P :=
  Gets.ev (fun _ h => loop_step (cfg := cfg) (f := 6) (rd := none) (bs := 0) h) (Gets.eq (by kernel_rfl) h)
theorem wz9_1_step (L : List (List AV)) (v6 : Int) (c0_0 : Int) (c0_1 : Int) (c0_2 : List UInt8) (c0_3 : List (List AV)) (c0_4 : List (List AV)) (c0_5 : Int) {P : AV → Prop} (h : Gets (bif decide (v6 < (↑(List.length c0_4) : Int)) then bif decide (v6 < (61 : Int)) then bif leInt (0 : Int) v6 && ltInt v6 (↑(List.length c0_4) : Int) then kOpt (List.get?Internal c0_4 
  (Int.toNat v6)) fun (row : List AV) => bif Nat.beq (List.length row) 5 then bif Nat.ble 5 (List.length row) then kCons (List.take 4 (List.drop 1 row)) fun (c : AV) (cs : List AV) => 
  kInt .i64 c fun (n : Int) => kCons cs fun (c : AV) (cs : List AV) => kInt .i64 c fun (n_1 : Int) => kCons cs fun (c : AV) (cs : List AV) => kStr c fun (s : List UInt8) => kCons cs fun 
  (c : AV) (cs : List AV) => kSl c fun (rows : List (List AV)) => kNil cs (kOpt (EVs (EV cfg) 21 [.agg [AV.int .i64 n, .int .i64 n_1, .str s, .sl rows], .int .i64 (100 : Int)]) fun (v : 
  AV) => kBool v fun (b : Bool) => bif b then some (.bool true) else wz9_1 L (IntKind.wrap .i64 (v6 + (1 : Int))) c0_0 c0_1 c0_2 c0_3 c0_4 c0_5) else none else none else none else bif 
  decide ((↑(List.length L) : Int) > (100 : Int)) then some (.bool true) else bif decide ((↑(List.length c0_4) : Int) > (60 : Int)) then some (.bool true) else kOpt (EVs (EV cfg) 21 [.agg 
  [AV.int .i64 c0_0, .int .i64 c0_1, .str c0_2, .sl c0_3], .int .i64 (300 : Int)]) fun (v : AV) => kBool v fun (b : Bool) => some (.bool b) else bif decide ((↑(List.length L) : Int) > (100 
  : Int)) then some (.bool true) else bif decide ((↑(List.length c0_4) : Int) > (60 : Int)) then some (.bool true) else kOpt (EVs (EV cfg) 21 [.agg [AV.int .i64 c0_0, .int .i64 c0_1, .str 
  c0_2, .sl c0_3], .int .i64 (300 : Int)]) fun (v : AV) => kBool v fun (b : Bool) => some (.bool b)) P) : Gets (wz9_1 L v6 c0_0 c0_1 c0_2 c0_3 c0_4 c0_5) P :=
  Gets.ev (fun _ h => loop_step (cfg := cfg) (f := 6) (rd := none) (bs := 0) h) (Gets.eq (by kernel_rfl) h)
end Go.Proofs.YtogebohommickaaGreat
end

section
namespace Go.Av
theorem xor_not {n : Int} (h1 : -9223372036854775808 ≤ n) (h2 : n < 9223372036854775808) : fromSem (Op.intBits .xor .i64 (-1) n) = some (.int .i64 (-1 - n)) := by
  have : fromSem (Op.intBits .xor .i64 (-1) n) = some (.int .i64 (IntKind.wrap .i64 (BitVec.ofInt 64 (-1) ^^^ BitVec.ofInt 64 n).toNat)) := rfl
  rw [this, wrap_toNat]
  have e : BitVec.ofInt 64 (-1) ^^^ BitVec.ofInt 64 n = ~~~(BitVec.ofInt 64 n) := by
    rw [show BitVec.ofInt 64 (-1) = BitVec.allOnes 64 from by decide, BitVec.allOnes_xor]
  have en : n = (BitVec.ofInt 64 n).toInt := by rw [BitVec.toInt_ofInt, Int.bmod_eq_of_le (by omega) (by omega)]
  have hn := BitVec.toNat_not (x := BitVec.ofInt 64 n)
  rw [e]
  congr 2
  rw [BitVec.toInt_eq_toNat_cond] at en ⊢
  have hl := (BitVec.ofInt 64 n).isLt
  rw [hn]
  generalize (BitVec.ofInt 64 n).toNat = U at *
  split at en <;> split <;> omega
theorem get0T (x : Tm) (l : List Tm) : List.get?Internal (rowsT (x :: l)) 0 = some x.cells := by rw [get?Internal_eq, rowsT_cons]; rfl
theorem get1T (x y : Tm) (l : List Tm) : List.get?Internal (rowsT (x :: y :: l)) 1 = some y.cells := by rw [get?Internal_eq, rowsT_cons, rowsT_cons]; rfl
theorem get2T (x y z : Tm) (l : List Tm) : List.get?Internal (rowsT (x :: y :: z :: l)) 2 = some z.cells := by rw [get?Internal_eq, rowsT_cons, rowsT_cons, rowsT_cons]; rfl
theorem lt0T (x : Tm) (l : List Tm) : ltInt 0 ((rowsT (x :: l)).length : Int) = true := by rw [rowsT_length]; exact decide_eq_true (by simp)
theorem lt1T (x y : Tm) (l : List Tm) : ltInt 1 ((rowsT (x :: y :: l)).length : Int) = true := by rw [rowsT_length]; exact decide_eq_true (by simp; omega)
theorem lt2T (x y z : Tm) (l : List Tm) : ltInt 2 ((rowsT (x :: y :: z :: l)).length : Int) = true := by rw [rowsT_length]; exact decide_eq_true (by simp; omega)
theorem ble44 : Nat.ble 4 4 = true := rfl
theorem num_chk {t : Tm} (h : t.chk = 0) : -576460752303423488 ≤ t.num ∧ t.num ≤ 576460752303423487 := by
  obtain ⟨h1, _⟩ := chk_zero.1 h
  rw [Tm.parts_eq, Bool.and_eq_true] at h1
  have h2 : soundB t.kind t.num t.str t.subs.length = true := h1.1
  generalize t.kind = k at h2
  generalize t.num = n at *
  unfold soundB at h2
  repeat' split at h2
  all_goals simp at h2
  all_goals omega
theorem ok_chk {t : Tm} (h : t.chk = 0) : t.Ok := ok_of_w t (by have := w_chk h; omega)
theorem inB_chk {t : Tm} (h : t.chk = 0) : t.kind = 1 → InB t.num := fun _ => num_chk h
end Go.Av
namespace Go.Proofs.YtogebohommickaaGreat
open Go.Av
theorem num_bad (e : Env) (n : Int) : ∃ t : Tm, EVd (EV cfg) 92 [.ptr 0 0 0, .int .i64 n] 7 (mR e true) = some (t.av, mR e true) := by
  rw [mNumber_ev]
  by_cases h : InB n
  · exact ⟨numT n, by rw [if_pos h]⟩
  · exact ⟨zeroT, by rw [if_neg h]⟩
theorem num_res {e : Env} {b : Bool} {n : Int} {k : Int} : Gets (kOpt (EVd (EV cfg) 92 [.ptr 0 0 0, .int .i64 n] 7 (mR e (false || decide (k ≠ 1)))) fun q => kTmV q.1 fun (n n_1 : Int) (s : List UInt8) (rows : List (List AV)) => some (AV.agg [.int .i64 n, .int .i64 n_1, .str s, .sl rows], q.2)) (Res e (if k = 1 then withinG n else none)) := by
  by_cases h : k = 1
  · rw [if_pos h, decide_eq_false (by simpa using h)]
    exact Gets.bind (mNumber_within e n fun r h1 h2 => h1) fun r h => ret_res h (Res_tm h)
  · rw [if_neg h, decide_eq_true (by simpa using h)]
    obtain ⟨t, ht⟩ := num_bad e n
    rw [Bool.or_true, ht]
    simp only [kOptSome, kTmV_av, av_unf]
    exact ret_true
theorem lenLoop (e : Env) {a b : Int} {s : List UInt8} {r : List (List AV)} : ∀ (n : Nat) (t : Tm) (c : Nat), t.w ≤ n → t.chk = 0 → c + n < 1099511627776 →
    Gets (wz82_0 (mR e false) t.kind t.num t.str (rowsT t.subs) a b s r c) (Res e ((lenG t).bind fun m => withinG ((c + m : Nat) : Int))) := by
  intro n
  induction n with
  | zero => intro t _ h; have := w_pos t; omega
  | succ n ih =>
    intro t c hw hc hn
    refine wz82_0_step _ _ _ _ _ _ _ _ _ _ ?_
    by_cases h9 : t.kind = 9
    · obtain ⟨x, y, hs⟩ := cons_chk hc h9
      have hwe := t.w_eq
      rw [hs] at hwe
      simp only [wL_cons, wL_nil] at hwe
      have h := ih y (c + 1) (by omega) (chk_sub hc (by rw [hs]; simp)) (by omega)
      rw [lenG_cons h9 hs, hs, beqI, decide_eq_true h9]
      simp only [cond_true, lt0T, lt1T, get0T, get1T, kOptSome, length_cells, Nat.beq_refl, ble44, take_cells, kTmC_cells, wrap_succ (show c < c + 1 by omega) (by omega)]
      have e1 : ((lenG y).map (· + 1)).bind (fun m => withinG ((c + m : Nat) : Int)) = (lenG y).bind fun m => withinG ((c + 1 + m : Nat) : Int) := by
        cases lenG y with
        | none => rw [Option.map_none, Option.bind_none, Option.bind_none]
        | some m => rw [Option.map_some, Option.bind_some, Option.bind_some, show c + (m + 1) = c + 1 + m by omega]
      rw [e1]
      exact h
    · rw [beqI, decide_eq_false h9, cond_false]
      by_cases h8 : t.kind = 8
      · have : (t.kind != 8) = false := by rw [h8]; rfl
        have e0 : ((some 0).bind fun m => withinG ((c + m : Nat) : Int)) = withinG c := by rw [Option.bind_some, Nat.add_zero]
        rw [this, lenG_nil h8, e0]
        exact Gets.bind (mNumber_within e c fun r h1 h2 => h1) fun r h => ret_res h (Res_tm h)
      · have : (t.kind != 8) = true := by simpa using h8
        rw [this, lenG_none h9 h8, mRaise_ev]
        simp only [cond_true, kOptSome, kTmV_av, av_unf]
        exact ret_true
def listOpG (op : List UInt8) (t : Tm) : Option Tm :=
  if op = [108, 101, 110, 103, 116, 104] then (lenG t).bind fun n => withinG n
  else if t.kind = 9 then (if op = [104, 100] then t.subs[0]? else t.subs[1]?)
  else none
theorem mList_ev (e : Env) (op : List UInt8) {t : Tm} (hc : t.chk = 0) : Gets (EVd (EV cfg) 94 [.ptr 0 0 0, .str op, t.av] 7 (mR e false)) (Res e (listOpG op t)) := by
  rw [Tm.av, Tm.cells_eq]
  refine mList_run _ _ _ _ _ _ _ _ _ _ _ _ ?_
  have hw := w_chk hc
  unfold listOpG
  rw [beqS]
  by_cases h1 : op = [108, 101, 110, 103, 116, 104]
  · rw [if_pos h1, decide_eq_true h1, cond_true]
    have h := lenLoop e (a := 0) (b := 0) (s := []) (r := []) t.w t 0 (Nat.le_refl _) hc (by omega)
    simpa using h
  · rw [if_neg h1, decide_eq_false h1, cond_false]
    by_cases h9 : t.kind = 9
    · obtain ⟨x, y, hs⟩ := cons_chk hc h9
      have : (t.kind != 9) = false := by rw [h9]; rfl
      rw [this, if_pos h9, hs, beqS]
      simp only [cond_false, lt0T, lt1T, get0T, get1T, kOptSome, length_cells, Nat.beq_refl, ble44, take_cells, kTmC_cells, cond_true, av_unf]
      by_cases h2 : op = [104, 100]
      · rw [if_pos h2, decide_eq_true h2]; exact ret_false
      · rw [if_neg h2, decide_eq_false h2]; exact ret_false
    · have : (t.kind != 9) = true := by simpa using h9
      rw [this, if_neg h9, mRaise_ev]
      simp only [cond_true, kOptSome, kTmV_av, av_unf]
      exact ret_true
theorem oneG_list {op : List UInt8} {t : Tm} : (if op = [108, 101, 110, 103, 116, 104] then (lenG t).bind fun n => withinG n else if t.kind = 9 then (if op = [104, 100] then t.subs[0]? else t.subs[1]?) else none) = listOpG op t := rfl
theorem mOne_ev (e : Env) (op : List UInt8) {t : Tm} (hc : t.chk = 0) : Gets (EVd (EV cfg) 71 [.ptr 0 0 0, .str op, t.av] 7 (mR e false)) (Res e (oneG op t)) := by
  have hl := mList_ev e op hc
  have hn := num_chk hc
  have hs := subs_chk hc
  have w1 : IntKind.wrap .i64 (0 - t.num) = -t.num := by rw [wrap64 (by omega) (by omega)]; omega
  rw [Tm.av, Tm.cells_eq] at hl ⊢
  refine mOne_run _ _ _ _ _ _ _ _ _ _ _ _ ?_
  simp only [av_unf, truth_ev, kOptSome, kTmV_av, beqS, beqI, w1, mRaise_ev, mBool_ev, mInt_ev, kMBool_bool, kMInt_int, xor_not (show -9223372036854775808 ≤ t.num by omega) (by omega), kInt_int]
  rw [av_unf] at hl
  unfold oneG
  by_cases h1 : op = [105, 115, 95, 97, 116, 111, 109]
  · rw [if_pos h1, decide_eq_true h1, cond_true]; exact ret_false
  rw [if_neg h1, decide_eq_false h1, cond_false]
  by_cases h2 : op = [105, 115, 95, 105, 110, 116, 101, 103, 101, 114]
  · rw [if_pos h2, decide_eq_true h2, cond_true]; exact ret_false
  rw [if_neg h2, decide_eq_false h2, cond_false]
  by_cases h3 : op = [105, 115, 95, 108, 105, 115, 116]
  · rw [if_pos h3, decide_eq_true h3, cond_true]
    cases decide (t.kind = 9)
    · exact ret_false
    · exact ret_false
  rw [if_neg h3, decide_eq_false h3, cond_false]
  by_cases h4 : op = [105, 115, 95, 116, 117, 112, 108, 101]
  · rw [if_pos h4, decide_eq_true h4, cond_true]; exact ret_false
  rw [if_neg h4, decide_eq_false h4, cond_false]
  by_cases h5 : op = [105, 115, 95, 112, 105, 100]
  · rw [if_pos h5, decide_eq_true h5, cond_true]; exact ret_false
  rw [if_neg h5, decide_eq_false h5, cond_false]
  by_cases h6 : op = [105, 115, 95, 102, 117, 110, 99, 116, 105, 111, 110]
  · rw [if_pos h6, decide_eq_true h6, cond_true]; exact ret_false
  rw [if_neg h6, decide_eq_false h6, cond_false]
  by_cases h7 : op = [105, 115, 95, 114, 101, 102, 101, 114, 101, 110, 99, 101]
  · rw [if_pos h7, decide_eq_true h7, cond_true]
    cases decide (t.kind = 3)
    · exact ret_false
    · exact ret_false
  rw [if_neg h7, decide_eq_false h7, cond_false]
  by_cases h8 : op = [110, 111, 116]
  · rw [if_pos h8, decide_eq_true h8, cond_true]
    cases hb : boolG t with
    | none => exact ret_true
    | some x => rw [boolG_some hb]; exact ret_false
  rw [if_neg h8, decide_eq_false h8, cond_false]
  by_cases h9 : op = [98, 110, 111, 116]
  · rw [if_pos h9, decide_eq_true h9, cond_true]; exact num_res (b := false)
  rw [if_neg h9, decide_eq_false h9, cond_false]
  by_cases h10 : op = [43]
  · rw [if_pos h10, decide_eq_true h10, cond_true]; exact num_res (b := false)
  rw [if_neg h10, decide_eq_false h10, cond_false]
  by_cases h11 : op = [45]
  · rw [if_pos h11, decide_eq_true h11, cond_true]; exact num_res (b := false)
  rw [if_neg h11, decide_eq_false h11, cond_false]
  by_cases h12 : op = [97, 98, 115]
  · rw [if_pos h12, decide_eq_true h12, cond_true]
    have e1 : (if decide (t.num < -t.num) = true then -t.num else t.num) = if t.num < 0 then -t.num else t.num := by
      by_cases h : t.num < 0
      · rw [if_pos h, if_pos (decide_eq_true (by omega))]
      · rw [if_neg h, if_neg (by rw [decide_eq_false (by omega)]; simp)]
    rw [e1]
    exact num_res (b := false)
  rw [if_neg h12, decide_eq_false h12, cond_false]
  have tup : Gets (bif t.kind != 7 then some (zeroT.av, mR e true) else kOpt (EVd (EV cfg) 92 [.ptr 0 0 0, .int .i64 ((rowsT t.subs).length : Int)] 7 (mR e false)) fun q => kTmV q.1 fun (n n_1 : Int) (s : List UInt8) (rows : List (List AV)) => some (AV.agg [.int .i64 n, .int .i64 n_1, .str s, .sl rows], q.2)) (Res e (if t.kind = 7 then withinG t.subs.length else none)) := by
    by_cases h : t.kind = 7
    · have : (t.kind != 7) = false := by rw [h]; rfl
      rw [this, if_pos h, cond_false, rowsT_length]
      exact Gets.bind (mNumber_within e _ fun r h1 h2 => h1) fun r h => ret_res h (Res_tm h)
    · have : (t.kind != 7) = true := by simpa using h
      rw [this, if_neg h, cond_true]
      exact ret_true
  by_cases h13 : op = [116, 117, 112, 108, 101, 95, 115, 105, 122, 101]
  · rw [if_pos h13, decide_eq_true h13, cond_true]; exact tup
  rw [if_neg h13, decide_eq_false h13, cond_false]
  by_cases h14 : op = [115, 105, 122, 101]
  · rw [if_pos h14, decide_eq_true h14, cond_true]; exact tup
  rw [if_neg h14, decide_eq_false h14, cond_false, oneG_list]
  exact Gets.bind hl fun r h => ret_res h (Res_tm h)
theorem mApply_ev (e : Env) (op : List UInt8) {l : List Tm} (hl : ∀ x ∈ l, x.chk = 0) (hlen : l.length ≤ 2) (hp : op = [42] → ProductOk) :
    Gets (EVd (EV cfg) 45 [.ptr 0 0 0, .str op, .sl (rowsT l)] 7 (mR e false)) (Res e (applyG op l e.self)) := by
  refine mApply_run _ _ _ _ _ _ _ _ _ ?_
  match l, hl, hlen with
  | [], _, _ =>
    simp only [rowsT_length, List.length_nil]
    refine ⟨_, rfl, ?_⟩
    show _ = (Tm.av _, mR e false)
    rw [Tm.av_mk, rowsT_nil]
  | [a], hl, _ =>
    have h1 := mOne_ev e op (hl a (by simp))
    have c1 : ((((rowsT [a]).length : Nat) : Int) == 1) = true := by rw [rowsT_length]; rfl
    rw [c1]
    simp only [cond_true, lt0T, get0T, kOptSome, length_cells, Nat.beq_refl, ble44, take_cells, kTmC_cells, av_unf]
    exact Gets.bind h1 fun r h => ret_res h (Res_tm h)
  | [a, b], hl, _ =>
    have ha := hl a (by simp)
    have hb := hl b (by simp)
    have h1 := mTwo_ev e op (ok_chk ha) (ok_chk hb) (inB_chk ha) (inB_chk hb) hp
    have c1 : ((((rowsT [a, b]).length : Nat) : Int) == 1) = false := by rw [rowsT_length]; rfl
    have c2 : ((((rowsT [a, b]).length : Nat) : Int) == 2) = true := by rw [rowsT_length]; rfl
    rw [c1, c2]
    simp only [cond_true, cond_false, lt0T, lt1T, get0T, get1T, kOptSome, length_cells, Nat.beq_refl, ble44, take_cells, kTmC_cells, av_unf]
    exact Gets.bind h1 fun r h => ret_res h (Res_tm h)
  | _ :: _ :: _ :: _, _, h => simp at h
end Go.Proofs.YtogebohommickaaGreat
end

section
namespace Go.Proofs.YtogebohommickaaGreat
open Go.Av
set_option maxRecDepth 100000
set_option maxHeartbeats 0

noncomputable def Lu57_0 : Den := evC cfg (EV cfg) 86 none 0 (sub (bodyOf Tryz.f86) [1, 0, 1, 0, 0])
noncomputable def Au57_0 : Ex × List AV × AH → Option AV := kAft (Cfg.keepOut cfg 86 2) (kRun cfg (EV cfg) (kfN cfg 6) 86 none 0 (kFinS cfg (Cfg.lift cfg 86 0) Tryz.f86.results.toList) ([.block 0, .seq (sub (bodyOf Tryz.f86) [1, 1])]))
noncomputable def Wu57_0 : List AV × AH → Option AV := fun p => kOpt (LOOP 0 (some [0, 1, 5]) ([]) Lu57_0 p) Au57_0
noncomputable def Lu58_0 : Den := evC cfg (EV cfg) 46 none 0 (sub (bodyOf Tryz.f46) [1, 1, 0, 1, 0, 0])
noncomputable def Au58_0 : Ex × List AV × AH → Option AV := kAft (Cfg.keepOut cfg 46 3) (kRun cfg (EV cfg) (kfN cfg 6) 46 none 0 (kFinS cfg (Cfg.lift cfg 46 0) Tryz.f46.results.toList) ([.block 0, .seq (sub (bodyOf Tryz.f46) [1, 1, 1])]))
noncomputable def Wu58_0 : List AV × AH → Option AV := fun p => kOpt (LOOP 0 (some [1, 5, 6]) ([]) Lu58_0 p) Au58_0
noncomputable def Lu56_0 : Den := evC cfg (EV cfg) 85 none 0 (sub (bodyOf Tryz.f85) [1, 0, 1, 0, 0])
noncomputable def Au56_0 : Ex × List AV × AH → Option AV := kAft (Cfg.keepOut cfg 85 2) (kRun cfg (EV cfg) (kfN cfg 6) 85 none 0 (kFinS cfg (Cfg.lift cfg 85 0) Tryz.f85.results.toList) ([.block 0, .seq (sub (bodyOf Tryz.f85) [1, 1])]))
noncomputable def Wu56_0 : List AV × AH → Option AV := fun p => kOpt (LOOP 0 (some [0, 1, 5]) ([]) Lu56_0 p) Au56_0
noncomputable def Lu55_0 : Den := evC cfg (EV cfg) 61 none 0 (sub (bodyOf Tryz.f61) [1, 1, 1, 0, 1, 0, 0])
noncomputable def Au55_0 : Ex × List AV × AH → Option AV := kAft (Cfg.keepOut cfg 61 5) (kRun cfg (EV cfg) (kfN cfg 6) 61 none 0 (kFinS cfg (Cfg.lift cfg 61 0) Tryz.f61.results.toList) ([.block 0, .seq (sub (bodyOf Tryz.f61) [1, 1, 1, 1])]))
noncomputable def Wu55_0 : List AV × AH → Option AV := fun p => kOpt (LOOP 0 (some [1, 4, 5]) ([]) Lu55_0 p) Au55_0
noncomputable def Lu53_0 : Den := evC cfg (EV cfg) 74 none 0 (sub (bodyOf Tryz.f74) [1, 1, 0, 1, 0, 0])
noncomputable def Au53_0 : Ex × List AV × AH → Option AV := kAft (Cfg.keepOut cfg 74 4) (kRun cfg (EV cfg) (kfN cfg 6) 74 none 0 (kFinS cfg (Cfg.lift cfg 74 0) Tryz.f74.results.toList) ([.block 0, .seq (sub (bodyOf Tryz.f74) [1, 1, 1])]))
noncomputable def Wu53_0 : List AV × AH → Option AV := fun p => kOpt (LOOP 0 (some [1, 3]) ([]) Lu53_0 p) Au53_0
noncomputable def Lu54_0 : Den := evC cfg (EV cfg) 75 none 0 (sub (bodyOf Tryz.f75) [1, 1, 1, 0, 1, 0, 1, 0, 0])
noncomputable def Au54_0 : Ex × List AV × AH → Option AV := kAft (Cfg.keepOut cfg 75 6) (kRun cfg (EV cfg) (kfN cfg 6) 75 none 0 (kFinS cfg (Cfg.lift cfg 75 0) Tryz.f75.results.toList) ([.block 0, .seq (sub (bodyOf Tryz.f75) [1, 1, 1, 1])]))
noncomputable def Wu54_0 : List AV × AH → Option AV := fun p => kOpt (LOOP 0 (some [1, 3, 4]) ([]) Lu54_0 p) Au54_0
noncomputable abbrev wu57_0 (L : List (List AV)) (V : List (List AV)) (v5 : Int) : Option (AV) := Wu57_0  (((fx 19 [(0, AV.sl L), (1, AV.sl V), (5, AV.int IntKind.i64 v5)]) : List AV), ([] : AH))
noncomputable abbrev wu58_0 (n : Int) (rows : List (List AV)) (v6 : Int) : Option (AV) := Wu58_0  (((fx 21 [(1, AV.int IntKind.i64 n), (5, AV.sl rows), (6, AV.int IntKind.i64 v6)]) : List AV), ([] : AH))
noncomputable abbrev wu56_0 (L : List (List AV)) (n : Int) (v5 : Int) : Option (AV) := Wu56_0  (((fx 18 [(0, AV.sl L), (1, AV.int IntKind.i64 n), (5, AV.int IntKind.i64 v5)]) : List AV), ([] : AH))
noncomputable abbrev wu55_0 (v4 : Int) (v5 : Int) (c0_0 : Int) (c0_1 : Int) (c0_2 : List UInt8) (c0_3 : List (List AV)) : Option (AV) := Wu55_0  (((fx 73 [(1, AV.ptr (0 : Nat) (0 : Nat) (0 : Nat)), (4, AV.int IntKind.i64 v4), (5, AV.int IntKind.i64 v5)]) : List AV), ([ABlk.rows false (4 : Nat) [[AV.int IntKind.i64 c0_0, AV.int IntKind.i64 c0_1, AV.str c0_2, AV.sl c0_3]]] : AH))
noncomputable abbrev wu53_0 (v3 : Int) (c0_0 : Int) (c0_1 : Int) (c0_2 : List UInt8) (c0_3 : List (List AV)) : Option (AV) := Wu53_0  (((fx 21 [(1, AV.ptr (0 : Nat) (0 : Nat) (0 : Nat)), (3, AV.int IntKind.i64 v3)]) : List AV), ([ABlk.rows false (4 : Nat) [[AV.int IntKind.i64 c0_0, AV.int IntKind.i64 c0_1, AV.str c0_2, AV.sl c0_3]]] : AH))
noncomputable abbrev wu54_0 (v3 : Int) (v4 : Int) (c0_0 : Int) (c0_1 : Int) (c0_2 : List UInt8) (c0_3 : List (List AV)) : Option (AV) := Wu54_0  (((fx 42 [(1, AV.ptr (0 : Nat) (0 : Nat) (0 : Nat)), (3, AV.int IntKind.i64 v3), (4, AV.int IntKind.i64 v4)]) : List AV), ([ABlk.rows false (4 : Nat) [[AV.int IntKind.i64 c0_0, AV.int IntKind.i64 c0_1, AV.str c0_2, AV.sl c0_3]]] : AH))
theorem r17Check_run (kt : Int) (nt : Int) (st : List UInt8) (lt : List (List AV)) (V : List (List AV)) {P : AV → Prop} (h : Gets (kOpt (EVs (EV cfg) 48 [.agg [.int .i64 kt, .int .i64 nt, .str st, .sl lt]]) fun (v : AV) => kInt .i64 v fun (n : Int) => bif n != (0 : Int) then some (.int .i64 (2 : Int)) else kOpt 
  (EVs (EV cfg) 60 [.agg [.int .i64 kt, .int .i64 nt, .str st, .sl lt], .sl V]) fun (v : AV) => kBool v fun (b : Bool) => bif !b then some (.int .i64 (10 : Int)) else some (.int .i64 
  (0 : Int))) P) : Gets (EVs (EV cfg) 27 ([AV.agg [AV.int IntKind.i64 kt, AV.int IntKind.i64 nt, AV.str st, AV.sl lt], AV.sl V] : List AV)) P :=
  Gets.ev (fun _ h => funS rfl rfl Tryz.func27 rfl h) (Gets.eq (by kernel_rfl) h)
theorem r17Is_run (kt : Int) (nt : Int) (st : List UInt8) (lt : List (List AV)) (V : List (List AV)) {P : AV → Prop} (h : Gets (kOpt (EVs (EV cfg) 61 [.agg [.int .i64 kt, .int .i64 nt, .str st, .sl lt]]) fun (v : AV) => kTup v fun (cs : List AV) => kCons cs fun (c : AV) (cs : List AV) => kInt .i64 c fun (n : 
  Int) => kCons cs fun (c : AV) (cs : List AV) => kBool c fun (b : Bool) => kNil cs (bif b then kOpt (EVs (EV cfg) 85 [.sl V, .int .i64 n]) fun (v : AV) => kBool v fun (b : Bool) => some 
  (.bool b) else bif kt == (9 : Int) then kOpt (EVs (EV cfg) 86 [.sl lt, .sl V]) fun (v : AV) => kBool v fun (b : Bool) => some (.bool b) else bif kt != (7 : Int) then some (.bool true) 
  else bif (↑(List.length lt) : Int) == (0 : Int) then some (.bool false) else bif ltInt (0 : Int) (↑(List.length lt) : Int) then kOpt (List.get?Internal lt 0) fun (row : List AV) => 
  bif Nat.beq (List.length row) 4 then bif Nat.ble 4 (List.length row) then kTmC (List.take 4 row) fun (n n_1 : Int) (s : List UInt8) (rows : List (List AV)) => (bif (↑(List.length lt) 
  : Int) == (1 : Int) then bif n == (7 : Int) then kOpt (EVs (EV cfg) 86 [.sl rows, .sl V]) fun (v : AV) => kBool v fun (b : Bool) => some (.bool b) else bif n != (2 : Int) then some 
  (.bool false) else bif s == [(99 : UInt8), (111 : UInt8), (110 : UInt8), (115 : UInt8), (116 : UInt8)] then some (.bool ((↑(List.length lt) : Int) == (2 : Int))) else kOpt (EVs (EV 
  cfg) 46 [.str s, .int .i64 (IntKind.wrap .i64 ((↑(List.length lt) : Int) - (1 : Int)))]) fun (v : AV) => kBool v fun (b : Bool) => bif b then bif leInt (1 : Int) (↑(List.length lt) 
  : Int) then bif rowsOk 4 lt then kOpt (EVs (EV cfg) 86 [.sl (List.take (List.length lt - 1) (List.drop 1 lt)), .sl V]) fun (v : AV) => kBool v fun (b : Bool) => some (.bool b) else 
  none else none else some (.bool false) else bif n != (2 : Int) then some (.bool false) else bif s == [(99 : UInt8), (111 : UInt8), (110 : UInt8), (115 : UInt8), (116 : UInt8)] then 
  some (.bool ((↑(List.length lt) : Int) == (2 : Int))) else kOpt (EVs (EV cfg) 46 [.str s, .int .i64 (IntKind.wrap .i64 ((↑(List.length lt) : Int) - (1 : Int)))]) fun (v : AV) => kBool 
  v fun (b : Bool) => bif b then bif leInt (1 : Int) (↑(List.length lt) : Int) then bif rowsOk 4 lt then kOpt (EVs (EV cfg) 86 [.sl (List.take (List.length lt - 1) (List.drop 1 lt)), 
  .sl V]) fun (v : AV) => kBool v fun (b : Bool) => some (.bool b) else none else none else some (.bool false)) else none else none else none)) P) : Gets (EVs (EV cfg) 60 ([AV.agg [AV.int IntKind.i64 kt, AV.int IntKind.i64 nt, AV.str st, AV.sl lt], AV.sl V] : List AV)) P :=
  Gets.ev (fun _ h => funS rfl rfl Tryz.func60 rfl h) (Gets.eq (by kernel_rfl) h)
theorem r17All_run (L : List (List AV)) (V : List (List AV)) {P : AV → Prop} (h : Gets (wu57_0 L V (0 : Int)) P) : Gets (EVs (EV cfg) 86 ([AV.sl L, AV.sl V] : List AV)) P :=
  Gets.ev (fun _ h => funS rfl rfl Tryz.func86 rfl h) (Gets.eq (by kernel_rfl) h)
theorem r17May_run (op : List UInt8) (n : Int) {P : AV → Prop} (h : Gets (kOpt (EVf (EV cfg) 73 [.str op]) fun (v : AV) => kSl v fun (rows : List (List AV)) => wu58_0 n rows (0 : Int)) P) : Gets (EVs (EV cfg) 46 ([AV.str op, AV.int IntKind.i64 n] : List AV)) P :=
  Gets.ev (fun _ h => funS rfl rfl Tryz.func46 rfl h) (Gets.eq (by kernel_rfl) h)
theorem r17In_run (L : List (List AV)) (n : Int) {P : AV → Prop} (h : Gets (wu56_0 L n (0 : Int)) P) : Gets (EVs (EV cfg) 85 ([AV.sl L, AV.int IntKind.i64 n] : List AV)) P :=
  Gets.ev (fun _ h => funS rfl rfl Tryz.func85 rfl h) (Gets.eq (by kernel_rfl) h)
theorem r17Ops_run (op : List UInt8) {P : AV → Prop} (h : Gets (bif op == [(115 : UInt8), (101 : UInt8), (108 : UInt8), (102 : UInt8)] then some (.sl [[.int .i64 (0 : Int)]]) else bif op == [(105 : UInt8), (115 : UInt8), (95 : UInt8), (97 : UInt8), 
  (116 : UInt8), (111 : UInt8), (109 : UInt8)] then some (.sl [[.int .i64 (1 : Int)]]) else bif op == [(105 : UInt8), (115 : UInt8), (95 : UInt8), (105 : UInt8), (110 : UInt8), (116 : 
  UInt8), (101 : UInt8), (103 : UInt8), (101 : UInt8), (114 : UInt8)] then some (.sl [[.int .i64 (1 : Int)]]) else bif op == [(105 : UInt8), (115 : UInt8), (95 : UInt8), (108 : UInt8), 
  (105 : UInt8), (115 : UInt8), (116 : UInt8)] then some (.sl [[.int .i64 (1 : Int)]]) else bif op == [(105 : UInt8), (115 : UInt8), (95 : UInt8), (116 : UInt8), (117 : UInt8), (112 : 
  UInt8), (108 : UInt8), (101 : UInt8)] then some (.sl [[.int .i64 (1 : Int)]]) else bif op == [(105 : UInt8), (115 : UInt8), (95 : UInt8), (112 : UInt8), (105 : UInt8), (100 : UInt8)] 
  then some (.sl [[.int .i64 (1 : Int)]]) else bif op == [(105 : UInt8), (115 : UInt8), (95 : UInt8), (102 : UInt8), (117 : UInt8), (110 : UInt8), (99 : UInt8), (116 : UInt8), (105 : 
  UInt8), (111 : UInt8), (110 : UInt8)] then some (.sl [[.int .i64 (1 : Int)]]) else bif op == [(105 : UInt8), (115 : UInt8), (95 : UInt8), (114 : UInt8), (101 : UInt8), (102 : UInt8), 
  (101 : UInt8), (114 : UInt8), (101 : UInt8), (110 : UInt8), (99 : UInt8), (101 : UInt8)] then some (.sl [[.int .i64 (1 : Int)]]) else bif op == [(110 : UInt8), (111 : UInt8), (116 : 
  UInt8)] then some (.sl [[.int .i64 (1 : Int)]]) else bif op == [(98 : UInt8), (110 : UInt8), (111 : UInt8), (116 : UInt8)] then some (.sl [[.int .i64 (1 : Int)]]) else bif op == [(97 
  : UInt8), (98 : UInt8), (115 : UInt8)] then some (.sl [[.int .i64 (1 : Int)]]) else bif op == [(116 : UInt8), (117 : UInt8), (112 : UInt8), (108 : UInt8), (101 : UInt8), (95 : UInt8), 
  (115 : UInt8), (105 : UInt8), (122 : UInt8), (101 : UInt8)] then some (.sl [[.int .i64 (1 : Int)]]) else bif op == [(115 : UInt8), (105 : UInt8), (122 : UInt8), (101 : UInt8)] then 
  some (.sl [[.int .i64 (1 : Int)]]) else bif op == [(104 : UInt8), (100 : UInt8)] then some (.sl [[.int .i64 (1 : Int)]]) else bif op == [(116 : UInt8), (108 : UInt8)] then some (.sl 
  [[.int .i64 (1 : Int)]]) else bif op == [(108 : UInt8), (101 : UInt8), (110 : UInt8), (103 : UInt8), (116 : UInt8), (104 : UInt8)] then some (.sl [[.int .i64 (1 : Int)]]) else bif op 
  == [(43 : UInt8)] then some (.sl [[.int .i64 (1 : Int)], [.int .i64 (2 : Int)]]) else bif op == [(45 : UInt8)] then some (.sl [[.int .i64 (1 : Int)], [.int .i64 (2 : Int)]]) else bif 
  op == [(61 : UInt8), (61 : UInt8)] then some (.sl [[.int .i64 (2 : Int)]]) else bif op == [(61 : UInt8), (58 : UInt8), (61 : UInt8)] then some (.sl [[.int .i64 (2 : Int)]]) else bif 
  op == [(47 : UInt8), (61 : UInt8)] then some (.sl [[.int .i64 (2 : Int)]]) else bif op == [(61 : UInt8), (47 : UInt8), (61 : UInt8)] then some (.sl [[.int .i64 (2 : Int)]]) else bif 
  op == [(60 : UInt8)] then some (.sl [[.int .i64 (2 : Int)]]) else bif op == [(61 : UInt8), (60 : UInt8)] then some (.sl [[.int .i64 (2 : Int)]]) else bif op == [(62 : UInt8)] then some 
  (.sl [[.int .i64 (2 : Int)]]) else bif op == [(62 : UInt8), (61 : UInt8)] then some (.sl [[.int .i64 (2 : Int)]]) else bif op == [(97 : UInt8), (110 : UInt8), (100 : UInt8)] then some 
  (.sl [[.int .i64 (2 : Int)]]) else bif op == [(111 : UInt8), (114 : UInt8)] then some (.sl [[.int .i64 (2 : Int)]]) else bif op == [(120 : UInt8), (111 : UInt8), (114 : UInt8)] then 
  some (.sl [[.int .i64 (2 : Int)]]) else bif op == [(97 : UInt8), (110 : UInt8), (100 : UInt8), (97 : UInt8), (108 : UInt8), (115 : UInt8), (111 : UInt8)] then some (.sl [[.int .i64 
  (2 : Int)]]) else bif op == [(111 : UInt8), (114 : UInt8), (101 : UInt8), (108 : UInt8), (115 : UInt8), (101 : UInt8)] then some (.sl [[.int .i64 (2 : Int)]]) else bif op == [(42 : 
  UInt8)] then some (.sl [[.int .i64 (2 : Int)]]) else bif op == [(100 : UInt8), (105 : UInt8), (118 : UInt8)] then some (.sl [[.int .i64 (2 : Int)]]) else bif op == [(114 : UInt8), (101 
  : UInt8), (109 : UInt8)] then some (.sl [[.int .i64 (2 : Int)]]) else bif op == [(98 : UInt8), (97 : UInt8), (110 : UInt8), (100 : UInt8)] then some (.sl [[.int .i64 (2 : Int)]]) else 
  bif op == [(98 : UInt8), (111 : UInt8), (114 : UInt8)] then some (.sl [[.int .i64 (2 : Int)]]) else bif op == [(98 : UInt8), (120 : UInt8), (111 : UInt8), (114 : UInt8)] then some (.sl 
  [[.int .i64 (2 : Int)]]) else bif op == [(101 : UInt8), (108 : UInt8), (101 : UInt8), (109 : UInt8), (101 : UInt8), (110 : UInt8), (116 : UInt8)] then some (.sl [[.int .i64 (2 : Int)]]) 
  else some (.sl [])) P) : Gets (EVf (EV cfg) 73 ([AV.str op] : List AV)) P :=
  Gets.ev (fun _ h => funF rfl rfl Tryz.func73 rfl h) (Gets.eq (by kernel_rfl) h)
theorem r16Var_run (kt : Int) (nt : Int) (st : List UInt8) (lt : List (List AV)) {P : AV → Prop} (h : Gets (kOpt (EVs (EV cfg) 48 [.agg [.int .i64 kt, .int .i64 nt, .str st, .sl lt]]) fun (v : AV) => kInt .i64 v fun (n : Int) => bif n != (0 : Int) then some (AV.tup [.int .i64 (0 : Int), .bool 
  false]) else bif kt != (2 : Int) then some (AV.tup [.int .i64 (0 : Int), .bool false]) else bif decide ((↑(List.length st) : Int) < (2 : Int)) then some (AV.tup [.int .i64 (0 : Int), 
  .bool false]) else bif decide ((↑(List.length st) : Int) > (3 : Int)) then some (AV.tup [.int .i64 (0 : Int), .bool false]) else kOpt (List.get?Internal st 0) fun (b : UInt8) => bif 
  (↑(UInt8.toNat b) : Int) != (36 : Int) then some (AV.tup [.int .i64 (0 : Int), .bool false]) else bif (↑(List.length st) : Int) == (3 : Int) then kOpt (List.get?Internal st 1) fun (b 
  : UInt8) => bif (↑(UInt8.toNat b) : Int) == (48 : Int) then some (AV.tup [.int .i64 (0 : Int), .bool false]) else wu55_0 (0 : Int) (1 : Int) kt nt st lt else wu55_0 (0 : Int) (1 : Int) 
  kt nt st lt) P) : Gets (EVs (EV cfg) 61 ([AV.agg [AV.int IntKind.i64 kt, AV.int IntKind.i64 nt, AV.str st, AV.sl lt]] : List AV)) P :=
  Gets.ev (fun _ h => funS rfl rfl Tryz.func61 rfl h) (Gets.eq (by kernel_rfl) h)
theorem r02Check_run (kt : Int) (nt : Int) (st : List UInt8) (lt : List (List AV)) {P : AV → Prop} (h : Gets (kOpt (EVs (EV cfg) 74 [.agg [.int .i64 kt, .int .i64 nt, .str st, .sl lt]]) fun (v : AV) => kBool v fun (b : Bool) => bif !b then some (.int .i64 (2 : Int)) else kOpt (EVs (EV cfg) 
  75 [.agg [.int .i64 kt, .int .i64 nt, .str st, .sl lt]]) fun (v : AV) => kInt .i64 v fun (n : Int) => bif decide (n > (65536 : Int)) then some (.int .i64 (3 : Int)) else some (.int 
  .i64 (0 : Int))) P) : Gets (EVs (EV cfg) 48 ([AV.agg [AV.int IntKind.i64 kt, AV.int IntKind.i64 nt, AV.str st, AV.sl lt]] : List AV)) P :=
  Gets.ev (fun _ h => funS rfl rfl Tryz.func48 rfl h) (Gets.eq (by kernel_rfl) h)
theorem r02Own_run (kt : Int) (nt : Int) (st : List UInt8) (lt : List (List AV)) {P : AV → Prop} (h : Gets (bif kt == (1 : Int) then bif decide (nt ≥ (-576460752303423488 : Int)) then bif decide (nt ≤ (576460752303423487 : Int)) then bif st == [] then some (.bool ((↑(List.length lt) : Int) 
  == (0 : Int))) else some (.bool false) else some (.bool false) else some (.bool false) else bif kt == (2 : Int) then bif nt == (0 : Int) then bif decide ((↑(List.length st) : Int) ≤ 
  (64 : Int)) then some (.bool ((↑(List.length lt) : Int) == (0 : Int))) else some (.bool false) else some (.bool false) else bif kt == (3 : Int) then kOpt (EVs (EV cfg) 117 [.int .i64 
  nt]) fun (v : AV) => kBool v fun (b : Bool) => bif b then bif st == [] then some (.bool ((↑(List.length lt) : Int) == (0 : Int))) else some (.bool false) else some (.bool false) else 
  bif kt == (4 : Int) then kOpt (EVs (EV cfg) 117 [.int .i64 nt]) fun (v : AV) => kBool v fun (b : Bool) => bif b then bif st == [] then some (.bool ((↑(List.length lt) : Int) == (0 : 
  Int))) else some (.bool false) else some (.bool false) else bif kt == (6 : Int) then kOpt (EVs (EV cfg) 117 [.int .i64 nt]) fun (v : AV) => kBool v fun (b : Bool) => bif b then bif st 
  == [] then some (.bool ((↑(List.length lt) : Int) == (0 : Int))) else some (.bool false) else some (.bool false) else bif kt == (5 : Int) then kOpt (EVs (EV cfg) 117 [.int .i64 nt]) 
  fun (v : AV) => kBool v fun (b : Bool) => bif b then bif st == [] then some (.bool (decide ((↑(List.length lt) : Int) ≤ (64 : Int)))) else some (.bool false) else some (.bool false) 
  else bif kt == (7 : Int) then bif nt == (0 : Int) then bif st == [] then some (.bool (decide ((↑(List.length lt) : Int) ≤ (64 : Int)))) else some (.bool false) else some (.bool false) 
  else bif kt == (8 : Int) then bif nt == (0 : Int) then bif st == [] then some (.bool ((↑(List.length lt) : Int) == (0 : Int))) else some (.bool false) else some (.bool false) else bif 
  kt == (9 : Int) then bif nt == (0 : Int) then bif st == [] then some (.bool ((↑(List.length lt) : Int) == (2 : Int))) else some (.bool false) else some (.bool false) else some (.bool 
  false)) P) : Gets (EVs (EV cfg) 97 ([AV.agg [AV.int IntKind.i64 kt, AV.int IntKind.i64 nt, AV.str st, AV.sl lt]] : List AV)) P :=
  Gets.ev (fun _ h => funS rfl rfl Tryz.func97 rfl h) (Gets.eq (by kernel_rfl) h)
theorem r02Parts_run (kt : Int) (nt : Int) (st : List UInt8) (lt : List (List AV)) {P : AV → Prop} (h : Gets (kOpt (EVs (EV cfg) 97 [.agg [.int .i64 kt, .int .i64 nt, .str st, .sl lt]]) fun (v : AV) => kBool v fun (b : Bool) => bif !b then some (.bool false) else wu53_0 (0 : Int) kt nt st lt) P) : Gets (EVs (EV cfg) 74 ([AV.agg [AV.int IntKind.i64 kt, AV.int IntKind.i64 nt, AV.str st, AV.sl lt]] : List AV)) P :=
  Gets.ev (fun _ h => funS rfl rfl Tryz.func74 rfl h) (Gets.eq (by kernel_rfl) h)
theorem r02Words_run (kt : Int) (nt : Int) (st : List UInt8) (lt : List (List AV)) {P : AV → Prop} (h : Gets (bif kt == (5 : Int) then bif kt == (5 : Int) then wu54_0 (2 : Int) (0 : Int) kt nt st lt else bif kt == (7 : Int) then wu54_0 (2 : Int) (0 : Int) kt nt st lt else bif kt == (9 : Int) 
  then wu54_0 (2 : Int) (0 : Int) kt nt st lt else some (.int .i64 (2 : Int)) else bif kt == (7 : Int) then bif kt == (5 : Int) then wu54_0 (2 : Int) (0 : Int) kt nt st lt else bif kt 
  == (7 : Int) then wu54_0 (2 : Int) (0 : Int) kt nt st lt else bif kt == (9 : Int) then wu54_0 (2 : Int) (0 : Int) kt nt st lt else some (.int .i64 (2 : Int)) else bif kt == (5 : Int) 
  then wu54_0 (1 : Int) (0 : Int) kt nt st lt else bif kt == (7 : Int) then wu54_0 (1 : Int) (0 : Int) kt nt st lt else bif kt == (9 : Int) then wu54_0 (1 : Int) (0 : Int) kt nt st lt 
  else some (.int .i64 (1 : Int))) P) : Gets (EVs (EV cfg) 75 ([AV.agg [AV.int IntKind.i64 kt, AV.int IntKind.i64 nt, AV.str st, AV.sl lt]] : List AV)) P :=
  Gets.ev (fun _ h => funS rfl rfl Tryz.func75 rfl h) (Gets.eq (by kernel_rfl) h)
theorem wu57_0_step (L : List (List AV)) (V : List (List AV)) (v5 : Int) {P : AV → Prop} (h : Gets (bif decide (v5 < (↑(List.length L) : Int)) then bif leInt (0 : Int) v5 && ltInt v5 (↑(List.length L) : Int) then kOpt (List.get?Internal L (Int.toNat v5)) fun (row : List AV) => bif 
  Nat.beq (List.length row) 4 then bif Nat.ble 4 (List.length row) then kTmC (List.take 4 row) fun (n n_1 : Int) (s : List UInt8) (rows : List (List AV)) => (kOpt (EVs (EV cfg) 60 [.agg 
  [.int .i64 n, .int .i64 n_1, .str s, .sl rows], .sl V]) fun (v : AV) => kBool v fun (b : Bool) => bif !b then some (.bool false) else wu57_0 L V (IntKind.wrap .i64 (v5 + (1 : Int)))) 
  else none else none else none else some (.bool true)) P) : Gets (wu57_0 L V v5) P :=
  Gets.ev (fun _ h => loop_step (cfg := cfg) (f := 86) (rd := none) (bs := 0) h) (Gets.eq (by kernel_rfl) h)
theorem wu58_0_step (n : Int) (rows : List (List AV)) (v6 : Int) {P : AV → Prop} (h : Gets (bif decide (v6 < (↑(List.length rows) : Int)) then bif leInt (0 : Int) v6 && ltInt v6 (↑(List.length rows) : Int) then kOpt (List.get?Internal rows (Int.toNat v6)) fun (row : List AV) 
  => bif Nat.beq (List.length row) 1 then kOpt (List.get?Internal row 0) fun (v : AV) => kInt .i64 v fun (n_1 : Int) => bif n_1 == n then some (.bool true) else wu58_0 n rows (IntKind.wrap 
  .i64 (v6 + (1 : Int))) else none else none else some (.bool false)) P) : Gets (wu58_0 n rows v6) P :=
  Gets.ev (fun _ h => loop_step (cfg := cfg) (f := 46) (rd := none) (bs := 0) h) (Gets.eq (by kernel_rfl) h)
theorem wu56_0_step (L : List (List AV)) (n : Int) (v5 : Int) {P : AV → Prop} (h : Gets (bif decide (v5 < (↑(List.length L) : Int)) then bif leInt (0 : Int) v5 && ltInt v5 (↑(List.length L) : Int) then kOpt (List.get?Internal L (Int.toNat v5)) fun (row : List AV) => bif 
  Nat.beq (List.length row) 1 then kOpt (List.get?Internal row 0) fun (v : AV) => kInt .i64 v fun (n_1 : Int) => bif n_1 == n then some (.bool true) else wu56_0 L n (IntKind.wrap .i64 
  (v5 + (1 : Int))) else none else none else some (.bool false)) P) : Gets (wu56_0 L n v5) P :=
  Gets.ev (fun _ h => loop_step (cfg := cfg) (f := 85) (rd := none) (bs := 0) h) (Gets.eq (by kernel_rfl) h)
theorem wu55_0_step (v4 : Int) (v5 : Int) (c0_0 : Int) (c0_1 : Int) (c0_2 : List UInt8) (c0_3 : List (List AV)) {P : AV → Prop} (h : Gets (bif decide (v5 < (↑(List.length c0_2) : Int)) then bif leInt (0 : Int) v5 then kOpt (List.get?Internal c0_2 (Int.toNat v5)) fun (b : UInt8) => bif decide ((↑(UInt8.toNat b) : Int) < 
  (48 : Int)) then some (AV.tup [.int .i64 (0 : Int), .bool false]) else bif leInt (0 : Int) v5 then kOpt (List.get?Internal c0_2 (Int.toNat v5)) fun (b : UInt8) => bif decide ((↑(UInt8.toNat 
  b) : Int) > (57 : Int)) then some (AV.tup [.int .i64 (0 : Int), .bool false]) else bif leInt (0 : Int) v5 then kOpt (List.get?Internal c0_2 (Int.toNat v5)) fun (b : UInt8) => wu55_0 
  (IntKind.wrap .i64 (IntKind.wrap .i64 ((10 : Int) * v4) + IntKind.wrap .i64 (IntKind.wrap .u8 ((↑(UInt8.toNat b) : Int) - (48 : Int))))) (IntKind.wrap .i64 (v5 + (1 : Int))) c0_0 c0_1 
  c0_2 c0_3 else none else none else none else some (AV.tup [.int .i64 v4, .bool true])) P) : Gets (wu55_0 v4 v5 c0_0 c0_1 c0_2 c0_3) P :=
  Gets.ev (fun _ h => loop_step (cfg := cfg) (f := 61) (rd := none) (bs := 0) h) (Gets.eq (by kernel_rfl) h)
theorem wu53_0_step (v3 : Int) (c0_0 : Int) (c0_1 : Int) (c0_2 : List UInt8) (c0_3 : List (List AV)) {P : AV → Prop} (h : Gets (bif decide (v3 < (↑(List.length c0_3) : Int)) then bif leInt (0 : Int) v3 && ltInt v3 (↑(List.length c0_3) : Int) then kOpt (List.get?Internal c0_3 (Int.toNat v3)) fun (row : List AV) 
  => bif Nat.beq (List.length row) 4 then bif Nat.ble 4 (List.length row) then kTmC (List.take 4 row) fun (n n_1 : Int) (s : List UInt8) (rows : List (List AV)) => (kOpt (EVs (EV cfg) 
  74 [.agg [.int .i64 n, .int .i64 n_1, .str s, .sl rows]]) fun (v : AV) => kBool v fun (b : Bool) => bif !b then some (.bool false) else wu53_0 (IntKind.wrap .i64 (v3 + (1 : Int))) c0_0 
  c0_1 c0_2 c0_3) else none else none else none else some (.bool true)) P) : Gets (wu53_0 v3 c0_0 c0_1 c0_2 c0_3) P :=
  Gets.ev (fun _ h => loop_step (cfg := cfg) (f := 74) (rd := none) (bs := 0) h) (Gets.eq (by kernel_rfl) h)
theorem wu54_0_step (v3 : Int) (v4 : Int) (c0_0 : Int) (c0_1 : Int) (c0_2 : List UInt8) (c0_3 : List (List AV)) {P : AV → Prop} (h : Gets (bif decide (v4 < (↑(List.length c0_3) : Int)) then bif leInt (0 : Int) v4 && ltInt v4 (↑(List.length c0_3) : Int) then kOpt (List.get?Internal c0_3 (Int.toNat v4)) fun (row : List AV) 
  => bif Nat.beq (List.length row) 4 then bif Nat.ble 4 (List.length row) then kTmC (List.take 4 row) fun (n n_1 : Int) (s : List UInt8) (rows : List (List AV)) => (kOpt (EVs (EV cfg) 
  75 [.agg [.int .i64 n, .int .i64 n_1, .str s, .sl rows]]) fun (v : AV) => kInt .i64 v fun (n : Int) => wu54_0 (IntKind.wrap .i64 (v3 + n)) (IntKind.wrap .i64 (v4 + (1 : Int))) c0_0 
  c0_1 c0_2 c0_3) else none else none else none else some (.int .i64 v3)) P) : Gets (wu54_0 v3 v4 c0_0 c0_1 c0_2 c0_3) P :=
  Gets.ev (fun _ h => loop_step (cfg := cfg) (f := 75) (rd := none) (bs := 0) h) (Gets.eq (by kernel_rfl) h)
end Go.Proofs.YtogebohommickaaGreat
end

section
namespace Go.Proofs.YtogebohommickaaGreat
open Go.Av
set_option maxRecDepth 100000
set_option maxHeartbeats 0

theorem r02Numbered_run (n : Int) {P : AV → Prop} (h : Gets (bif decide (n ≥ (0 : Int)) then some (.bool (decide (n ≤ (1073741824 : Int)))) else some (.bool false)) P) : Gets (EVs (EV cfg) 117 ([AV.int IntKind.i64 n] : List AV)) P :=
  Gets.ev (fun _ h => funS rfl rfl Tryz.func117 rfl h) (Gets.eq (by kernel_rfl) h)
end Go.Proofs.YtogebohommickaaGreat
end

section
namespace Go.Proofs.YtogebohommickaaGreat
open Go.Av
theorem r02Numbered_ev (n : Int) : EVs (EV cfg) 117 [.int .i64 n] = some (.bool (decide (0 ≤ n) && decide (n ≤ 1073741824))) := by
  apply Gets.get
  refine r02Numbered_run _ ?_
  by_cases h : 0 ≤ n <;> simp [h]
theorem r02Own_ev (t : Tm) : EVs (EV cfg) 97 [t.av] = some (.bool t.sound) := by
  obtain ⟨k, n, s, l⟩ := t
  apply Gets.get
  rw [Tm.av_mk]
  refine r02Own_run _ _ _ _ ?_
  simp only [Tm.sound, Tm.kind_mk, Tm.num_mk, Tm.str_mk, Tm.subs_mk, rowsT_length, beqI, beqNil, soundB, r02Numbered_ev, kOptSome, kBool_bool]
  by_cases h1 : k = 1
  · subst h1; simp [bif_some'] <;> (try rw [Bool.eq_iff_iff]) <;> (try simp) <;> first | omega | grind
  by_cases h2 : k = 2
  · subst h2; simp [bif_some'] <;> (try rw [Bool.eq_iff_iff]) <;> (try simp) <;> first | omega | grind
  by_cases h3 : k = 3
  · subst h3; simp [bif_some'] <;> (try rw [Bool.eq_iff_iff]) <;> (try simp) <;> first | omega | grind
  by_cases h4 : k = 4
  · subst h4; simp [bif_some'] <;> (try rw [Bool.eq_iff_iff]) <;> (try simp) <;> first | omega | grind
  by_cases h6 : k = 6
  · subst h6; simp [bif_some'] <;> (try rw [Bool.eq_iff_iff]) <;> (try simp) <;> first | omega | grind
  by_cases h5 : k = 5
  · subst h5; simp [bif_some'] <;> (try rw [Bool.eq_iff_iff]) <;> (try simp) <;> first | omega | grind
  by_cases h7 : k = 7
  · subst h7; simp [bif_some'] <;> (try rw [Bool.eq_iff_iff]) <;> (try simp) <;> first | omega | grind
  by_cases h8 : k = 8
  · subst h8; simp [bif_some'] <;> (try rw [Bool.eq_iff_iff]) <;> (try simp) <;> first | omega | grind
  by_cases h9 : k = 9
  · subst h9; simp [bif_some'] <;> (try rw [Bool.eq_iff_iff]) <;> (try simp) <;> first | omega | grind
  simp [h1, h2, h3, h4, h5, h6, h7, h8, h9]
theorem r02Parts_ev (t : Tm) : t.w < 1099511627776 → EVs (EV cfg) 74 [t.av] = some (.bool t.parts) := by
  induction t using Tm.ind with
  | _ k n s l ih =>
    intro hw
    rw [Tm.w_mk] at hw
    have hlen := wL_len l
    have loop : ∀ d i : Nat, i + d = l.length → Gets (wu53_0 i k n s (rowsT l)) (· = .bool (partsL (l.drop i))) := by
      intro d
      induction d with
      | zero =>
        intro i hi
        refine wu53_0_step _ _ _ _ _ ?_
        rw [rowsT_length, decide_eq_false (by omega), List.drop_eq_nil_of_le (by omega)]
        exact ⟨_, rfl, rfl⟩
      | succ d ihd =>
        intro i hi
        have hil : i < l.length := by omega
        refine wu53_0_step _ _ _ _ _ ?_
        have hx : l[i]? = some l[i] := List.getElem?_eq_getElem hil
        have hm := List.mem_of_getElem? hx
        have hd : l.drop i = l[i] :: l.drop (i + 1) := List.drop_eq_getElem_cons hil
        have h1 := ih l[i] hm (by have := wL_mem hm; omega)
        have h2 := ihd (i + 1) (by omega)
        rw [rowsT_length, decide_eq_true (show (i : Int) < (l.length : Int) by omega), leInt_zero, ltInt_nat, decide_eq_true hil, rowsT_at hx, wrap_succ hil (by omega), hd, partsL]
        simp only [cond_true, Bool.and_self, length_cells, Nat.beq_refl, take_cells, kTmC_cells, show Nat.ble 4 4 = true from rfl, av_unf, h1, kOptSome, kBool_bool]
        cases hg : l[i].parts with
        | false => exact ⟨_, rfl, rfl⟩
        | true => rw [Bool.true_and]; exact h2
    have ho := r02Own_ev (.mk k n s l)
    have h0 := loop l.length 0 (by omega)
    apply Gets.get
    rw [Tm.parts_eq]
    rw [Tm.av_mk] at ho ⊢
    refine r02Parts_run _ _ _ _ ?_
    rw [ho]
    simp only [kOptSome, kBool_bool, Tm.subs_mk]
    cases (Tm.mk k n s l).sound with
    | false => exact ⟨_, rfl, rfl⟩
    | true => rw [Bool.true_and]; exact h0
end Go.Proofs.YtogebohommickaaGreat
end

section
namespace Go.Proofs.YtogebohommickaaGreat
open Go.Av
theorem partsL_mem {l : List Tm} (h : partsL l = true) : ∀ x ∈ l, x.parts = true := by
  induction l with
  | nil => intro x hx; cases hx
  | cons y l ih =>
    rw [partsL, Bool.and_eq_true] at h
    intro x hx
    cases hx with
    | head => exact h.1
    | tail _ hx => exact ih h.2 x hx
theorem r02Words_ev (t : Tm) : t.w < 1099511627776 → t.parts = true → EVs (EV cfg) 75 [t.av] = some (.int .i64 (t.words : Int)) := by
  induction t using Tm.ind with
  | _ k n s l ih =>
    intro hw hp
    have hww := words_le (.mk k n s l)
    rw [Tm.w_mk] at hw hww
    have hlen := wL_len l
    rw [Tm.parts, Bool.and_eq_true] at hp
    obtain ⟨hp, hpl⟩ := hp
    have loop : ∀ d i acc : Nat, i + d = l.length → acc + wordsL (l.drop i) < 9007199254740992 → Gets (wu54_0 acc i k n s (rowsT l)) (· = .int .i64 ((acc + wordsL (l.drop i) : Nat) : Int)) := by
      intro d
      induction d with
      | zero =>
        intro i acc hi _
        refine wu54_0_step _ _ _ _ _ _ ?_
        rw [rowsT_length, decide_eq_false (by omega), List.drop_eq_nil_of_le (by omega)]
        exact ⟨_, rfl, rfl⟩
      | succ d ihd =>
        intro i acc hi hacc
        have hil : i < l.length := by omega
        refine wu54_0_step _ _ _ _ _ _ ?_
        have hx : l[i]? = some l[i] := List.getElem?_eq_getElem hil
        have hm := List.mem_of_getElem? hx
        have hd : l.drop i = l[i] :: l.drop (i + 1) := List.drop_eq_getElem_cons hil
        have h1 := ih l[i] hm (by have := wL_mem hm; omega) (partsL_mem hpl _ hm)
        rw [hd, wordsL] at hacc
        have h2 := ihd (i + 1) (acc + (l[i]).words) (by omega) (by omega)
        have w1 : IntKind.wrap .i64 ((acc : Int) + ((l[i]).words : Int)) = ((acc + (l[i]).words : Nat) : Int) := by rw [wrap64 (by omega) (by omega)]; omega
        rw [rowsT_length, decide_eq_true (show (i : Int) < (l.length : Int) by omega), leInt_zero, ltInt_nat, decide_eq_true hil, rowsT_at hx, wrap_succ hil (by omega), hd, wordsL]
        simp only [cond_true, Bool.and_self, length_cells, Nat.beq_refl, take_cells, kTmC_cells, show Nat.ble 4 4 = true from rfl, av_unf, h1, kOptSome, kInt_int, w1]
        rw [← Nat.add_assoc]
        exact h2
    have hwo : (Tm.mk k n s l).words = (Tm.mk k n s l).own + wordsL l := by rw [Tm.words]
    rw [hwo] at hww ⊢
    have ho := (Tm.mk k n s l).own_le
    have h0 := loop l.length 0 (Tm.mk k n s l).own (by omega) (by rw [List.drop_zero]; omega)
    rw [List.drop_zero] at h0
    apply Gets.get
    rw [Tm.av_mk]
    refine r02Words_run _ _ _ _ ?_
    by_cases h5 : k = 5
    · subst h5
      have o2 : (Tm.mk 5 n s l).own = 2 := by simp [Tm.own]
      rw [o2] at h0 ⊢; exact h0
    by_cases h7 : k = 7
    · subst h7
      have o2 : (Tm.mk 7 n s l).own = 2 := by simp [Tm.own]
      rw [o2] at h0 ⊢; exact h0
    have o1 : (Tm.mk k n s l).own = 1 := by simp [Tm.own, h5, h7]
    rw [o1] at h0 ⊢
    by_cases h9 : k = 9
    · subst h9; exact h0
    have e5 : (k == 5) = false := by simpa using h5
    have e7 : (k == 7) = false := by simpa using h7
    have e9 : (k == 9) = false := by simpa using h9
    have hl : l = [] := by
      have : soundB k n s l.length = true → l.length = 0 := by
        unfold soundB
        rw [if_neg h5, if_neg h7, if_neg h9]
        intro h
        repeat' split at h
        all_goals simp at h
        all_goals simp [h]
      exact List.length_eq_zero_iff.1 (this hp)
    subst hl
    rw [e5, e7, e9]
    exact ⟨_, rfl, rfl⟩
theorem r02Check_ev {t : Tm} (h : t.w < 1099511627776) : EVs (EV cfg) 48 [t.av] = some (.int .i64 t.chk) := by
  have hp := r02Parts_ev t h
  have hw := r02Words_ev t h
  apply Gets.get
  rw [Tm.av, Tm.cells_eq] at hp hw ⊢
  refine r02Check_run _ _ _ _ ?_
  rw [hp]
  have hc : t.chk = if t.parts then (if 65536 < t.words then 3 else 0) else 2 := by
    unfold Tm.chk chkS
    simp [partsL, wordsL]
  rw [hc]
  simp only [kOptSome, kBool_bool]
  cases ht : t.parts with
  | false => exact ⟨_, rfl, rfl⟩
  | true =>
    rw [hw ht]
    simp only [kOptSome, kInt_int, Bool.not_true, cond_false, if_true]
    by_cases hg : 65536 < t.words
    · rw [decide_eq_true (show ((t.words : Int) > 65536) by omega), if_pos hg]; exact ⟨_, rfl, rfl⟩
    · rw [decide_eq_false (show ¬ ((t.words : Int) > 65536) by omega), if_neg hg]; exact ⟨_, rfl, rfl⟩
theorem r17In_ev (l : List Int) (hl : l.length < 1099511627776) (n : Int) : EVs (EV cfg) 85 [.sl (intsR l), .int .i64 n] = some (.bool (decide (n ∈ l))) := by
  have loop : ∀ d i : Nat, i + d = l.length → Gets (wu56_0 (intsR l) n i) (· = .bool (decide (n ∈ l.drop i))) := by
    intro d
    induction d with
    | zero =>
      intro i hi
      refine wu56_0_step _ _ _ ?_
      rw [intsR_len, decide_eq_false (by omega), List.drop_eq_nil_of_le (by omega)]
      exact ⟨_, rfl, by simp⟩
    | succ d ih =>
      intro i hi
      have hil : i < l.length := by omega
      refine wu56_0_step _ _ _ ?_
      have hx : l[i]? = some l[i] := List.getElem?_eq_getElem hil
      have hd : l.drop i = l[i] :: l.drop (i + 1) := List.drop_eq_getElem_cons hil
      have h := ih (i + 1) (by omega)
      rw [intsR_len, decide_eq_true (show (i : Int) < (l.length : Int) by omega), leInt_zero, ltInt_nat, decide_eq_true hil, get?Internal_eq, Int.toNat_natCast, intsR_get, hx, wrap_succ hil hl, hd]
      by_cases he : l[i] = n
      · refine ⟨.bool true, ?_, ?_⟩
        · simp [he]
        · rw [he]; simp
      · have hne : (l[i] == n) = false := by rw [beqI]; exact decide_eq_false he
        have hm : decide (n ∈ l[i] :: l.drop (i + 1)) = decide (n ∈ l.drop (i + 1)) := decide_eq_decide.2 (by rw [List.mem_cons]; exact ⟨fun h => h.resolve_left (fun e => he e.symm), Or.inr⟩)
        rw [hm]
        simpa [hne] using h
  apply Gets.get
  exact r17In_run _ _ (by simpa using loop l.length 0 (by omega))
theorem r17Ops_ev (op : List UInt8) : EVf (EV cfg) 73 [.str op] = some (.sl (intsR (opsG op))) := by
  apply Gets.get
  refine r17Ops_run _ ?_
  have h := lookS_map (fun l => some (AV.sl (intsR l))) op [] opsTab
  have : Gets (lookS op (some (AV.sl (intsR []))) (opsTab.map fun p => (p.1, some (AV.sl (intsR p.2))))) (· = .sl (intsR (opsG op))) := by
    rw [h]; exact ⟨_, rfl, rfl⟩
  exact this
end Go.Proofs.YtogebohommickaaGreat
end

section
namespace Go.Av
def tbR (o : Option Tm) : AV := .tup [(o.getD zeroT).av, .bool o.isSome]
def RB (o : Option Tm) (v : AV) : Prop := ∃ t : Tm, v = .tup [t.av, .bool o.isSome] ∧ ∀ x, o = some x → t = x
theorem RB.of {o : Option Tm} : RB o (tbR o) := ⟨_, rfl, fun x h => by rw [h]; rfl⟩
theorem RB.some {t : Tm} {v : AV} (h : RB (some t) v) : v = .tup [t.av, .bool true] := by
  obtain ⟨x, rfl, h⟩ := h
  rw [h t rfl]; rfl
theorem kTB {α : Type} (t : Tm) (b : Bool) (K : Int → Int → List UInt8 → List (List AV) → Bool → Option α) : (kTup (.tup [t.av, .bool b]) fun cs => kCons cs fun c cs => kAgg c fun cs_1 => kCons cs_1 fun c cs_2 => kInt .i64 c fun n => kCons cs_2 fun c cs_3 => kInt .i64 c fun n_1 => kCons cs_3 fun c cs_4 => kStr c fun s => kCons cs_4 fun c cs_5 => kSl c fun rows => kNil cs_5 (kCons cs fun c cs => kBool c fun b => kNil cs (K n n_1 s rows b))) = K t.kind t.num t.str (rowsT t.subs) b := by
  obtain ⟨k, n, s, l⟩ := t
  rw [Tm.av_mk]; rfl
theorem tbR_eq (o : Option Tm) : tbR o = .tup [(o.getD zeroT).av, .bool o.isSome] := rfl
theorem tb_none : (some (AV.tup [zeroT.av, .bool false])) = some (tbR none) := rfl
theorem ops1_in {op : List UInt8} (h : (1 : Int) ∈ opsG op) : op ∈ ([[105, 115, 95, 97, 116, 111, 109], [105, 115, 95, 105, 110, 116, 101, 103, 101, 114], [105, 115, 95, 108, 105, 115, 116], [105, 115, 95, 116, 117, 112, 108, 101], [105, 115, 95, 112, 105, 100], [105, 115, 95, 102, 117, 110, 99, 116, 105, 111, 110], [105, 115, 95, 114, 101, 102, 101, 114, 101, 110, 99, 101], [110, 111, 116], [98, 110, 111, 116], [97, 98, 115], [116, 117, 112, 108, 101, 95, 115, 105, 122, 101], [115, 105, 122, 101], [104, 100], [116, 108], [108, 101, 110, 103, 116, 104], [43], [45]] : List (List UInt8)) := by
  have : ∀ (l : List (List UInt8 × List Int)), (1 : Int) ∈ lookS op [] l → ∃ p ∈ l, p.1 = op ∧ (1 : Int) ∈ p.2 := by
    intro l
    induction l with
    | nil => intro h; simp [lookS] at h
    | cons p l ih =>
      intro h
      rw [lookS] at h
      cases hp : op == p.1
      · rw [hp] at h
        obtain ⟨q, h1, h2⟩ := ih h
        exact ⟨q, List.mem_cons_of_mem _ h1, h2⟩
      · rw [hp] at h
        rw [beqS, decide_eq_true_eq] at hp
        exact ⟨p, List.mem_cons_self, hp.symm, h⟩
  obtain ⟨p, h1, rfl, h2⟩ := this _ h
  clear this h
  revert p
  decide
theorem ops2_in {op : List UInt8} (h : (2 : Int) ∈ opsG op) : op ∈ ([[43], [45], [61, 61], [61, 58, 61], [47, 61], [61, 47, 61], [60], [61, 60], [62], [62, 61], [97, 110, 100], [111, 114], [120, 111, 114], [97, 110, 100, 97, 108, 115, 111], [111, 114, 101, 108, 115, 101], [42], [100, 105, 118], [114, 101, 109], [98, 97, 110, 100], [98, 111, 114], [98, 120, 111, 114], [101, 108, 101, 109, 101, 110, 116]] : List (List UInt8)) := by
  have : ∀ (l : List (List UInt8 × List Int)), (2 : Int) ∈ lookS op [] l → ∃ p ∈ l, p.1 = op ∧ (2 : Int) ∈ p.2 := by
    intro l
    induction l with
    | nil => intro h; simp [lookS] at h
    | cons p l ih =>
      intro h
      rw [lookS] at h
      cases hp : op == p.1
      · rw [hp] at h
        obtain ⟨q, h1, h2⟩ := ih h
        exact ⟨q, List.mem_cons_of_mem _ h1, h2⟩
      · rw [hp] at h
        rw [beqS, decide_eq_true_eq] at hp
        exact ⟨p, List.mem_cons_self, hp.symm, h⟩
  obtain ⟨p, h1, rfl, h2⟩ := this _ h
  clear this h
  revert p
  decide
end Go.Av
namespace Go.Proofs.YtogebohommickaaGreat
open Go.Av
theorem r17Truth_ev (b : Bool) : EVf (EV cfg) 98 [.bool b] = some (truthT b).av := by
  apply Gets.get
  refine r17Truth_run _ ?_
  rw [truthT, symT_av]
  cases b <;> exact ⟨_, rfl, rfl⟩
theorem r17Truths_ev (t : Tm) : EVs (EV cfg) 88 [t.av] = some (.tup [.bool ((boolG t).getD false), .bool (boolG t).isSome]) := by
  apply Gets.get
  rw [Tm.av, Tm.cells_eq]
  refine r17Truths_run _ _ _ _ ?_
  unfold boolG
  simp only [beqS, show ([116, 114, 117, 101] : List UInt8) = tru from rfl, show ([102, 97, 108, 115, 101] : List UInt8) = fal from rfl]
  by_cases h : t.kind = 2
  · have e0 : (t.kind != 2) = false := by rw [h]; rfl
    rw [e0, cond_false]
    by_cases h1 : t.str = tru
    · rw [if_pos ⟨h, h1⟩, decide_eq_true h1]; exact ⟨_, rfl, rfl⟩
    · rw [if_neg (fun e => h1 e.2), decide_eq_false h1]
      by_cases h2 : t.str = fal
      · rw [if_pos ⟨h, h2⟩, decide_eq_true h2]; exact ⟨_, rfl, rfl⟩
      · rw [if_neg (fun e => h2 e.2), decide_eq_false h2]; exact ⟨_, rfl, rfl⟩
  · have e0 : (t.kind != 2) = true := by simpa using h
    rw [e0, if_neg (fun e => h e.1), if_neg (fun e => h e.1)]; exact ⟨_, rfl, rfl⟩
theorem r17Within_ev (n : Int) : EVf (EV cfg) 100 [.int .i64 n] = some (tbR (withinG n)) := by
  apply Gets.get
  refine r17Within_run _ ?_
  unfold withinG
  rw [← zeroT_av, ← numT_av]
  by_cases h1 : n < -576460752303423488
  · rw [decide_eq_true h1, if_neg (fun h : InB n => by obtain ⟨a, b⟩ := h; omega)]; exact ⟨_, rfl, rfl⟩
  · rw [decide_eq_false h1, cond_false]
    by_cases h2 : n > 576460752303423487
    · rw [decide_eq_true h2, if_neg (fun h : InB n => by obtain ⟨a, b⟩ := h; omega)]; exact ⟨_, rfl, rfl⟩
    · rw [decide_eq_false h2, cond_false, if_pos (show InB n from ⟨by omega, by omega⟩)]; exact ⟨_, rfl, rfl⟩
theorem r17Compares_ev (op : List UInt8) (c : Int) : EVs (EV cfg) 102 [.str op, .int .i64 c] = some (.bool (
    if op = [61, 61] then decide (c = 0) else if op = [61, 58, 61] then decide (c = 0) else if op = [47, 61] then !decide (c = 0) else if op = [61, 47, 61] then !decide (c = 0)
    else if op = [60] then decide (c < 0) else if op = [61, 60] then decide (c ≤ 0) else if op = [62] then decide (c > 0) else decide (c ≥ 0))) := by
  apply Gets.get
  refine r17Compares_run _ _ ?_
  have hne : (c != 0) = !decide (c = 0) := by rw [bne, beqI]
  simp only [beqS, hne, beqI]
  repeat' first
    | exact ⟨_, rfl, rfl⟩
    | (split <;> rename_i h <;> simp only [h, decide_true, cond_true, decide_false, cond_false])
theorem within_step (n : Int) : Gets (kOpt (EVf (EV cfg) 100 [.int .i64 n]) fun (v : AV) => kTup v fun (cs : List AV) => kCons cs fun (c : AV) (cs : List AV) => kAgg c fun (cs_1 : List AV) => kCons cs_1 fun (c : AV) (cs_2 : List AV) => kInt .i64 c fun (n : Int) => kCons cs_2 fun (c : AV) (cs_3 : List AV) => kInt .i64 c fun (n_1 : Int) => kCons cs_3 fun (c : AV) (cs_4 : List AV) => kStr c fun (s : List UInt8) => kCons cs_4 fun (c : AV) (cs_5 : List AV) => kSl c fun (rows : List (List AV)) => kNil cs_5 (kCons cs fun (c : AV) (cs : List AV) => kBool c fun (b : Bool) => kNil cs (some (AV.tup [.agg [.int .i64 n, .int .i64 n_1, .str s, .sl rows], .bool b])))) (· = tbR (withinG n)) := by
  rw [r17Within_ev]
  simp only [kOptSome, tbR_eq, kTB, av_unf]
  exact ⟨_, rfl, rfl⟩
theorem r17Product_ev {a b : Int} (ha : InB a) (hb : InB b) : EVf (EV cfg) 121 [.int .i64 a, .int .i64 b] = some (tbR (withinG (a * b))) := by
  obtain ⟨a1, a2⟩ := ha
  obtain ⟨b1, b2⟩ := hb
  have no : ∀ {P : Prop}, ¬ InB (a * b) → (· = tbR (withinG (a * b))) (tbR none) := by
    intro P h
    show _ = _
    unfold withinG
    rw [if_neg h]
  have fin : InB (a * b) → Gets (kOpt (EVf (EV cfg) 100 [.int .i64 (IntKind.wrap .i64 (a * b))]) fun (v : AV) => kTup v fun (cs : List AV) => kCons cs fun (c : AV) (cs : List AV) => kAgg c fun (cs_1 : List AV) => kCons cs_1 fun (c : AV) (cs_2 : List AV) => kInt .i64 c fun (n : Int) => kCons cs_2 fun (c : AV) (cs_3 : List AV) => kInt .i64 c fun (n_1 : Int) => kCons cs_3 fun (c : AV) (cs_4 : List AV) => kStr c fun (s : List UInt8) => kCons cs_4 fun (c : AV) (cs_5 : List AV) => kSl c fun (rows : List (List AV)) => kNil cs_5 (kCons cs fun (c : AV) (cs : List AV) => kBool c fun (b : Bool) => kNil cs (some (AV.tup [.agg [.int .i64 n, .int .i64 n_1, .str s, .sl rows], .bool b])))) (· = tbR (withinG (a * b))) := by
    rintro ⟨h1, h2⟩
    rw [wrap64 (by omega) (by omega)]
    exact within_step _
  apply Gets.get
  refine r17Product_run _ _ ?_
  rw [← zeroT_av, tb_none]
  rw [beqI, beqI]
  by_cases z1 : a = 0
  · rw [decide_eq_true z1, cond_true, z1, Int.zero_mul]; exact within_step _
  rw [decide_eq_false z1, cond_false]
  by_cases z2 : b = 0
  · rw [decide_eq_true z2, cond_true, z2, Int.mul_zero]; exact within_step _
  rw [decide_eq_false z2, cond_false]
  have neg : ∀ {x : Int}, ¬ InB (a * b) → Gets (some (tbR none)) (· = tbR (withinG (a * b))) := fun {_} h => ⟨_, rfl, no (P := True) h⟩
  have q0 : ∀ M y : Int, 0 ≤ M → 0 < y → 0 ≤ M / y ∧ M / y ≤ M := fun M y hM hy => ⟨Int.ediv_nonneg hM (by omega), Int.ediv_le_self y hM⟩
  have q1 : ∀ M x y : Int, 0 < y → (x > M / y ↔ x * y > M) := fun M x y hy => by
    have := Int.le_ediv_iff_mul_le (a := x) (b := M) hy
    omega
  rcases Int.lt_or_gt_of_ne z1 with sa | sa
  · have d1 : decide (a > 0) = false := decide_eq_false (by omega)
    have d2 : decide (a < 0) = true := decide_eq_true sa
    rcases Int.lt_or_gt_of_ne z2 with sb | sb
    · have d3 : decide (b > 0) = false := decide_eq_false (by omega)
      have d4 : decide (b < 0) = true := decide_eq_true sb
      have e1 : (576460752303423487 : Int).tdiv b = -(576460752303423487 / (-b)) := by
        rw [show b = -(-b) by omega, Int.tdiv_neg, Int.neg_neg, Int.tdiv_eq_ediv_of_nonneg (by omega)]
      obtain ⟨h1, h2⟩ := q0 576460752303423487 (-b) (by omega) (by omega)
      have h3 := q1 576460752303423487 (-a) (-b) (by omega)
      have e2 : (-a) * (-b) = a * b := Int.neg_mul_neg a b
      rw [e2] at h3
      have hp : 0 < a * b := by rw [← e2]; exact Int.mul_pos (by omega) (by omega)
      rw [intDiv_quo z2, e1, wrap64 (by omega) (by omega)]
      simp only [d1, d2, d3, d4, cond_true, cond_false, kOptSome, kInt_int]
      by_cases h : a < -(576460752303423487 / (-b))
      · rw [decide_eq_true h, cond_true]; exact neg (x := 0) fun ⟨_, g⟩ => by omega
      · rw [decide_eq_false h, cond_false]; exact fin ⟨by omega, by omega⟩
    · have d3 : decide (b > 0) = true := decide_eq_true sb
      have d4 : decide (b < 0) = false := decide_eq_false (by omega)
      have e1 : (-576460752303423488 : Int).tdiv b = -(576460752303423488 / b) := by
        rw [show (-576460752303423488 : Int) = -(576460752303423488) by omega, Int.neg_tdiv, Int.tdiv_eq_ediv_of_nonneg (by omega)]
      obtain ⟨h1, h2⟩ := q0 576460752303423488 b (by omega) (by omega)
      have h3 := q1 576460752303423488 (-a) b (by omega)
      have e2 : (-a) * b = -(a * b) := Int.neg_mul a b
      rw [e2] at h3
      have hp : 0 < -(a * b) := by rw [← e2]; exact Int.mul_pos (by omega) (by omega)
      rw [intDiv_quo z2, intDiv_quo z2, e1, wrap64 (x := -(576460752303423488 / b)) (by omega) (by omega)]
      simp only [d1, d2, d3, d4, cond_true, cond_false, kOptSome, kInt_int]
      by_cases h : a < -(576460752303423488 / b)
      · rw [decide_eq_true h, cond_true]; exact neg (x := 0) fun ⟨g, _⟩ => by omega
      · rw [decide_eq_false h, cond_false]; exact fin ⟨by omega, by omega⟩
  · have d1 : decide (a > 0) = true := decide_eq_true sa
    have d2 : decide (a < 0) = false := decide_eq_false (by omega)
    rcases Int.lt_or_gt_of_ne z2 with sb | sb
    · have d3 : decide (b > 0) = false := decide_eq_false (by omega)
      have d4 : decide (b < 0) = true := decide_eq_true sb
      have e1 : (-576460752303423488 : Int).tdiv a = -(576460752303423488 / a) := by
        rw [show (-576460752303423488 : Int) = -(576460752303423488) by omega, Int.neg_tdiv, Int.tdiv_eq_ediv_of_nonneg (by omega)]
      obtain ⟨h1, h2⟩ := q0 576460752303423488 a (by omega) (by omega)
      have h3 := q1 576460752303423488 (-b) a (by omega)
      have e2 : (-b) * a = -(a * b) := by rw [Int.neg_mul, Int.mul_comm]
      rw [e2] at h3
      have hp : 0 < -(a * b) := by rw [← e2]; exact Int.mul_pos (by omega) (by omega)
      rw [intDiv_quo z2, intDiv_quo z2, intDiv_quo z1, e1, wrap64 (x := -(576460752303423488 / a)) (by omega) (by omega)]
      simp only [d1, d2, d3, d4, cond_true, cond_false, kOptSome, kInt_int]
      by_cases h : b < -(576460752303423488 / a)
      · rw [decide_eq_true h, cond_true]; exact neg (x := 0) fun ⟨g, _⟩ => by omega
      · rw [decide_eq_false h, cond_false]; exact fin ⟨by omega, by omega⟩
    · have d3 : decide (b > 0) = true := decide_eq_true sb
      have d4 : decide (b < 0) = false := decide_eq_false (by omega)
      have e1 : (576460752303423487 : Int).tdiv b = 576460752303423487 / b := Int.tdiv_eq_ediv_of_nonneg (by omega)
      obtain ⟨h1, h2⟩ := q0 576460752303423487 b (by omega) (by omega)
      have h3 := q1 576460752303423487 a b (by omega)
      have hp : 0 < a * b := Int.mul_pos (by omega) (by omega)
      rw [intDiv_quo z2, e1, wrap64 (x := 576460752303423487 / b) (by omega) (by omega)]
      simp only [d1, d2, d3, d4, cond_true, cond_false, kOptSome, kInt_int]
      by_cases h : a > 576460752303423487 / b
      · rw [decide_eq_true h, cond_true]; exact neg (x := 0) fun ⟨_, g⟩ => by omega
      · rw [decide_eq_false h, cond_false]; exact fin ⟨by omega, by omega⟩
theorem product_step {a b : Int} (ha : InB a) (hb : InB b) : Gets (kOpt (EVf (EV cfg) 121 [.int .i64 a, .int .i64 b]) fun (v : AV) => kTup v fun (cs : List AV) => kCons cs fun (c : AV) (cs : List AV) => kAgg c fun (cs_1 : List AV) => kCons cs_1 fun (c : AV) (cs_2 : List AV) => kInt .i64 c fun (n : Int) => kCons cs_2 fun (c : AV) (cs_3 : List AV) => kInt .i64 c fun (n_1 : Int) => kCons cs_3 fun (c : AV) (cs_4 : List AV) => kStr c fun (s : List UInt8) => kCons cs_4 fun (c : AV) (cs_5 : List AV) => kSl c fun (rows : List (List AV)) => kNil cs_5 (kCons cs fun (c : AV) (cs : List AV) => kBool c fun (b : Bool) => kNil cs (some (AV.tup [.agg [.int .i64 n, .int .i64 n_1, .str s, .sl rows], .bool b])))) (· = tbR (withinG (a * b))) := by
  rw [r17Product_ev ha hb]
  simp only [kOptSome, tbR_eq, kTB, av_unf]
  exact ⟨_, rfl, rfl⟩
theorem r17Numbers_ev {op : List UInt8} (h : op ∈ ([[43], [45], [42], [98, 97, 110, 100], [98, 111, 114], [98, 120, 111, 114], [100, 105, 118], [114, 101, 109]] : List (List UInt8))) {a b : Int} (ha : InB a) (hb : InB b) :
    EVf (EV cfg) 105 [.str op, .int .i64 a, .int .i64 b] = some (tbR (numbersG op a b)) := by
  obtain ⟨a1, a2⟩ := ha
  obtain ⟨b1, b2⟩ := hb
  have hp := product_step ⟨a1, a2⟩ ⟨b1, b2⟩
  have h1 := bvG_and (a := a) (b := b) ⟨a1, a2⟩ ⟨b1, b2⟩
  have h2 := bvG_or (a := a) (b := b) ⟨a1, a2⟩ ⟨b1, b2⟩
  have h3 := bvG_xor (a := a) (b := b) ⟨a1, a2⟩ ⟨b1, b2⟩
  have w1 : IntKind.wrap .i64 (a + b) = a + b := wrap64 (by omega) (by omega)
  have w2 : IntKind.wrap .i64 (a - b) = a - b := wrap64 (by omega) (by omega)
  apply Gets.get
  refine r17Numbers_run _ _ _ ?_
  rw [← zeroT_av, tb_none, w1, w2]
  simp only [beqS, beqI]
  simp only [List.mem_cons, List.not_mem_nil, or_false] at h
  rcases h with rfl | rfl | rfl | rfl | rfl | rfl | rfl | rfl
  · exact within_step _
  · exact within_step _
  · exact hp
  · simp only [h1, kOptSome, kInt_int]; exact within_step _
  · simp only [h2, kOptSome, kInt_int]; exact within_step _
  · simp only [h3, kOptSome, kInt_int]; exact within_step _
  · by_cases z : b = 0
    · rw [decide_eq_true z]
      unfold numbersG
      simp only [if_pos z]
      exact ⟨_, rfl, rfl⟩
    · rw [decide_eq_false z]
      have := tdiv_abs (a := a) z
      rw [intDiv_quo z, wrap64 (by omega) (by omega)]
      unfold numbersG
      simp only [if_neg z]
      exact within_step _
  · by_cases z : b = 0
    · rw [decide_eq_true z]
      unfold numbersG
      simp only [if_pos z]
      exact ⟨_, rfl, rfl⟩
    · rw [decide_eq_false z]
      rw [intDiv_rem z]
      unfold numbersG
      simp only [if_neg z]
      exact within_step _
end Go.Proofs.YtogebohommickaaGreat
end

section
namespace Go.Proofs.YtogebohommickaaGreat
open Go.Av
theorem r03Numbers_ev (a b : Int) : EVs (EV cfg) 118 [.int .i64 a, .int .i64 b] = some (.int .i64 (numC a b)) := by
  apply Gets.get
  refine r03Numbers_run _ _ ?_
  unfold numC
  by_cases h : a < b
  · rw [decide_eq_true h, if_pos h]; exact ⟨_, rfl, rfl⟩
  · rw [decide_eq_false h, if_neg h, cond_false]
    by_cases h : b < a
    · rw [decide_eq_true (show a > b from h), if_pos h]; exact ⟨_, rfl, rfl⟩
    · rw [decide_eq_false (show ¬ a > b from h), if_neg h]; exact ⟨_, rfl, rfl⟩
theorem r03Texts_ev (a b : List UInt8) : EVs (EV cfg) 119 [.str a, .str b] = some (.int .i64 (strC a b)) := by
  apply Gets.get
  refine r03Texts_run _ _ ?_
  unfold strC
  rw [beqS]
  by_cases h : a = b
  · subst h
    rw [bytesLess_irrefl, if_pos rfl, decide_eq_true rfl]; exact ⟨_, rfl, rfl⟩
  · rw [if_neg h, decide_eq_false h]
    cases Op.bytesLess a b <;> exact ⟨_, rfl, rfl⟩
theorem r03Lists_of (la lb : List Tm) (hlen : la.length < 1099511627776) (ih : ∀ a ∈ la, ∀ b ∈ lb, EVs (EV cfg) 103 [a.av, b.av] = some (.int .i64 (cmpT a b))) :
    EVs (EV cfg) 120 [.sl (rowsT la), .sl (rowsT lb)] = some (.int .i64 (cmpL la lb)) := by
  have stop : ∀ (c : Int) (i : Nat), c ≠ 0 → Gets (wy120_0 (rowsT la) (rowsT lb) c i) (· = .int .i64 c) := by
    intro c i hc
    refine wy120_0_step _ _ _ _ ?_
    rw [beqI, decide_eq_false hc]
    cases decide ((i : Int) < ((rowsT la).length : Int)) <;> exact ⟨_, rfl, rfl⟩
  have loop : la.length = lb.length → ∀ (d i : Nat), i + d = la.length → Gets (wy120_0 (rowsT la) (rowsT lb) 0 i) (· = .int .i64 (cmpE (la.drop i) (lb.drop i))) := by
    intro hl d
    induction d with
    | zero =>
      intro i hi
      refine wy120_0_step _ _ _ _ ?_
      rw [rowsT_length, decide_eq_false (by omega), List.drop_eq_nil_of_le (by omega), List.drop_eq_nil_of_le (by omega), cmpE_nil]
      exact ⟨_, rfl, rfl⟩
    | succ d ihd =>
      intro i hi
      have hil : i < la.length := by omega
      have hil' : i < lb.length := by omega
      have hx : la[i]? = some la[i] := List.getElem?_eq_getElem hil
      have hy : lb[i]? = some lb[i] := List.getElem?_eq_getElem hil'
      have h1 := ih _ (List.mem_of_getElem? hx) _ (List.mem_of_getElem? hy)
      refine wy120_0_step _ _ _ _ ?_
      rw [rowsT_length, rowsT_length, decide_eq_true (show (i : Int) < (la.length : Int) by omega), leInt_zero, ltInt_nat, ltInt_nat, decide_eq_true hil, decide_eq_true hil', rowsT_at hx, List.drop_eq_getElem_cons hil, List.drop_eq_getElem_cons hil', cmpE_cons, wrap_succ hil hlen]
      simp only [cond_true, Bool.and_self, length_cells, Nat.beq_refl, take_cells, kTmC_cells, ble44, beqI, decide_true, rowsT_at hy, av_unf, h1, kOptSome, kInt_int]
      by_cases h0 : cmpT la[i] lb[i] = 0
      · rw [h0, if_neg (by omega)]; exact ihd (i + 1) (by omega)
      · rw [if_pos h0]; exact stop _ _ h0
  apply Gets.get
  refine r03Lists_run _ _ ?_
  rw [r03Numbers_ev]
  simp only [kOptSome, kInt_int, rowsT_length]
  unfold cmpL
  by_cases h : numC la.length lb.length = 0
  · have hl := numC_zero.1 h
    rw [h, if_neg (by omega)]
    simpa using loop (by omega) la.length 0 (by omega)
  · rw [if_pos h]; exact stop _ 0 h
theorem r03Compare_ev : ∀ (n : Nat) (a b : Tm), a.w ≤ n → n < 1099511627776 → EVs (EV cfg) 103 [a.av, b.av] = some (.int .i64 (cmpT a b)) := by
  intro n
  induction n with
  | zero => intro a b h; have := w_pos a; omega
  | succ n ih =>
    intro a b hw hn
    obtain ⟨k, m, s, l⟩ := a
    obtain ⟨k', m', s', l'⟩ := b
    rw [Tm.w_mk] at hw
    have hlen := wL_len l
    have hl := r03Lists_of l l' (by omega) (fun x hx y _ => ih x y (by have := wL_mem hx; omega) (by omega))
    apply Gets.get
    rw [Tm.av_mk, Tm.av_mk]
    refine r03Compare_run _ _ _ _ _ _ _ _ ?_
    rw [cmpT_eq, r03Numbers_ev, r03Numbers_ev, r03Texts_ev, hl]
    simp only [kOptSome, kInt_int, beqI]
    have bne0 : ∀ z : Int, (z != 0) = !decide (z = 0) := fun z => by rw [bne, beqI]
    simp only [bne0]
    by_cases h : numC k k' = 0
    · rw [if_neg (by omega), decide_eq_true h]
      simp only [Bool.not_true, cond_false]
      by_cases h1 : k = 1
      · rw [if_pos (Or.inl h1), decide_eq_true h1]; exact ⟨_, rfl, rfl⟩
      rw [decide_eq_false h1, cond_false]
      by_cases h3 : k = 3
      · rw [if_pos (Or.inr (Or.inl h3)), decide_eq_true h3]; exact ⟨_, rfl, rfl⟩
      rw [decide_eq_false h3, cond_false]
      by_cases h4 : k = 4
      · rw [if_pos (Or.inr (Or.inr (Or.inl h4))), decide_eq_true h4]; exact ⟨_, rfl, rfl⟩
      rw [decide_eq_false h4, cond_false]
      by_cases h6 : k = 6
      · rw [if_pos (Or.inr (Or.inr (Or.inr h6))), decide_eq_true h6]; exact ⟨_, rfl, rfl⟩
      rw [decide_eq_false h6, cond_false, if_neg (by omega)]
      by_cases h2 : k = 2
      · rw [if_pos h2, decide_eq_true h2]; exact ⟨_, rfl, rfl⟩
      rw [decide_eq_false h2, cond_false, if_neg h2]
      by_cases h5 : k = 5
      · rw [if_pos h5, decide_eq_true h5, cond_true]
        by_cases hm : numC m m' = 0
        · rw [if_neg (by omega), decide_eq_true hm]; exact ⟨_, rfl, rfl⟩
        · rw [if_pos hm, decide_eq_false hm]; exact ⟨_, rfl, rfl⟩
      rw [decide_eq_false h5, cond_false, if_neg h5]
      by_cases h7 : k = 7
      · rw [if_pos (Or.inl h7), decide_eq_true h7]; exact ⟨_, rfl, rfl⟩
      rw [decide_eq_false h7, cond_false]
      by_cases h9 : k = 9
      · rw [if_pos (Or.inr h9), decide_eq_true h9]; exact ⟨_, rfl, rfl⟩
      rw [decide_eq_false h9, if_neg (by omega)]; exact ⟨_, rfl, rfl⟩
    · rw [if_pos h, decide_eq_false h]; exact ⟨_, rfl, rfl⟩
end Go.Proofs.YtogebohommickaaGreat
end

section
namespace Go.Proofs.YtogebohommickaaGreat
open Go.Av
theorem r17Kinds_ev {op : List UInt8} {t : Tm} {b : Bool} (h : (op, b) ∈ ([([105, 115, 95, 97, 116, 111, 109], decide (t.kind = 2)), ([105, 115, 95, 105, 110, 116, 101, 103, 101, 114], decide (t.kind = 1)), ([105, 115, 95, 108, 105, 115, 116], decide (t.kind = 9) || decide (t.kind = 8)), ([105, 115, 95, 116, 117, 112, 108, 101], decide (t.kind = 7)), ([105, 115, 95, 112, 105, 100], decide (t.kind = 6)), ([105, 115, 95, 102, 117, 110, 99, 116, 105, 111, 110], decide (t.kind = 5)), ([105, 115, 95, 114, 101, 102, 101, 114, 101, 110, 99, 101], decide (t.kind = 3) || decide (t.kind = 4))] : List (List UInt8 × Bool))) : EVs (EV cfg) 101 [.str op, t.av] = some (.bool b) := by
  apply Gets.get
  rw [Tm.av, Tm.cells_eq]
  refine r17Kinds_run _ _ _ _ _ ?_
  simp only [beqS, beqI]
  simp only [List.mem_cons, List.not_mem_nil, or_false, Prod.mk.injEq] at h
  rcases h with ⟨rfl, rfl⟩ | ⟨rfl, rfl⟩ | ⟨rfl, rfl⟩ | ⟨rfl, rfl⟩ | ⟨rfl, rfl⟩ | ⟨rfl, rfl⟩ | ⟨rfl, rfl⟩
  · exact ⟨_, rfl, rfl⟩
  · exact ⟨_, rfl, rfl⟩
  · show Gets (bif decide (t.kind = 9) then some (AV.bool true) else some (AV.bool (decide (t.kind = 8)))) _
    cases decide (t.kind = 9) <;> exact ⟨_, rfl, rfl⟩
  · exact ⟨_, rfl, rfl⟩
  · exact ⟨_, rfl, rfl⟩
  · exact ⟨_, rfl, rfl⟩
  · show Gets (bif decide (t.kind = 3) then some (AV.bool true) else some (AV.bool (decide (t.kind = 4)))) _
    cases decide (t.kind = 3) <;> exact ⟨_, rfl, rfl⟩
theorem r17Length_loop : ∀ (n : Nat) (t : Tm) (c : Nat), t.w ≤ n → t.chk = 0 → c + n < 1099511627776 → Gets (wy99_0 c t.kind t.num t.str (rowsT t.subs)) (fun v => ∃ m : Int, v = .tup [.int .i64 m, .bool (lenG t).isSome] ∧ ∀ x, lenG t = some x → m = (c + x : Nat)) := by
  intro n
  induction n with
  | zero => intro t c h; have := w_pos t; omega
  | succ n ih =>
    intro t c hw hc hn
    refine wy99_0_step _ _ _ _ _ ?_
    rw [beqI, beqI]
    by_cases h9 : t.kind = 9
    · obtain ⟨x, y, hs⟩ := cons_chk hc h9
      have hwe := t.w_eq
      rw [hs] at hwe
      simp only [wL_cons, wL_nil] at hwe
      have hy : y.chk = 0 := chk_sub hc (by rw [hs]; simp)
      have h := ih y (c + 1) (by omega) hy (by omega)
      rw [decide_eq_true h9, cond_true, hs, lt1T, get1T]
      simp only [cond_true, kOptSome, length_cells, Nat.beq_refl, take_cells, kTmC_cells, ble44]
      rw [wrap_succ (n := 1099511627775) (by omega) (by omega), lenG_cons h9 hs]
      refine Gets.mono h ?_
      rintro _ ⟨m, rfl, hm⟩
      refine ⟨m, by rw [Option.isSome_map], fun z hz => ?_⟩
      obtain ⟨q, hq, rfl⟩ := Option.map_eq_some_iff.1 hz
      rw [hm q hq]; omega
    · rw [decide_eq_false h9, cond_false]
      by_cases h8 : t.kind = 8
      · rw [decide_eq_true h8, lenG_nil h8]
        exact ⟨_, rfl, c, rfl, fun x hx => by cases hx; rfl⟩
      · rw [decide_eq_false h8, lenG_none h9 h8]
        exact ⟨_, rfl, c, rfl, fun x hx => by cases hx⟩
theorem r17Length_ev {t : Tm} (hc : t.chk = 0) : Gets (EVs (EV cfg) 99 [t.av]) (fun v => ∃ m : Int, v = .tup [.int .i64 m, .bool (lenG t).isSome] ∧ ∀ x, lenG t = some x → m = x) := by
  have hw := w_chk hc
  rw [Tm.av, Tm.cells_eq]
  refine r17Length_run _ _ _ _ ?_
  refine Gets.mono (r17Length_loop t.w t 0 (Nat.le_refl _) hc (by omega)) ?_
  rintro _ ⟨m, rfl, hm⟩
  exact ⟨m, rfl, fun x hx => by rw [hm x hx]; omega⟩
theorem kinds_step {op : List UInt8} {t : Tm} {b : Bool} {o : Option Tm} (h : (op, b) ∈ ([([105, 115, 95, 97, 116, 111, 109], decide (t.kind = 2)), ([105, 115, 95, 105, 110, 116, 101, 103, 101, 114], decide (t.kind = 1)), ([105, 115, 95, 108, 105, 115, 116], decide (t.kind = 9) || decide (t.kind = 8)), ([105, 115, 95, 116, 117, 112, 108, 101], decide (t.kind = 7)), ([105, 115, 95, 112, 105, 100], decide (t.kind = 6)), ([105, 115, 95, 102, 117, 110, 99, 116, 105, 111, 110], decide (t.kind = 5)), ([105, 115, 95, 114, 101, 102, 101, 114, 101, 110, 99, 101], decide (t.kind = 3) || decide (t.kind = 4))] : List (List UInt8 × Bool))) (ho : o = some (truthT b)) :
    Gets (kOpt (EVs (EV cfg) 101 [.str op, t.av]) fun (v : AV) => kBool v fun (b : Bool) => kOpt (EVf (EV cfg) 98 [.bool b]) fun (v : AV) => kTmV v fun (n n_1 : Int) (s : List UInt8) (rows : List (List AV)) => (some (AV.tup [.agg [.int .i64 n, .int .i64 n_1, .str s, .sl rows], .bool true]))) (RB o) := by
  rw [r17Kinds_ev h, ho]
  simp only [kOptSome, kBool_bool, r17Truth_ev, kTmV_av, av_unf]
  exact ⟨_, rfl, RB.of⟩
theorem within_rb {n : Int} {o : Option Tm} (ho : o = withinG n) : Gets (kOpt (EVf (EV cfg) 100 [.int .i64 n]) fun (v : AV) => kTup v fun (cs : List AV) => kCons cs fun (c : AV) (cs : List AV) => kAgg c fun (cs_1 : List AV) => kCons cs_1 fun (c : AV) (cs_2 : List AV) => kInt .i64 c fun (n : Int) => kCons cs_2 fun (c : AV) (cs_3 : List AV) => kInt .i64 c fun (n_1 : Int) => kCons cs_3 fun (c : AV) (cs_4 : List AV) => kStr c fun (s : List UInt8) => kCons cs_4 fun (c : AV) (cs_5 : List AV) => kSl c fun (rows : List (List AV)) => kNil cs_5 (kCons cs fun (c : AV) (cs : List AV) => kBool c fun (b : Bool) => kNil cs (some (AV.tup [.agg [.int .i64 n, .int .i64 n_1, .str s, .sl rows], .bool b])))) (RB o) := by
  subst ho
  refine Gets.mono (within_step n) ?_
  rintro _ rfl
  exact RB.of
theorem r17One_ev {op : List UInt8} (ho : (1 : Int) ∈ opsG op) {t : Tm} (hc : t.chk = 0) : Gets (EVf (EV cfg) 76 [.str op, t.av]) (RB (oneG op t)) := by
  have hl := r17Length_ev hc
  have hn := num_chk hc
  have hs := subs_chk hc
  have hwithin : ∀ n : Nat, n ≤ 4259840 → withinG (n : Int) = some (numT n) := fun n h => by
    unfold withinG
    rw [if_pos (show InB (n : Int) from ⟨by omega, by omega⟩)]
  have w1 : IntKind.wrap .i64 (0 - t.num) = -t.num := by rw [wrap64 (by omega) (by omega)]; omega
  have w2 : IntKind.wrap .i64 (-1 - t.num) = -1 - t.num := wrap64 (by omega) (by omega)
  have raise : Gets (some (tbR none)) (RB none) := ⟨_, rfl, RB.of⟩
  rw [Tm.av, Tm.cells_eq] at hl ⊢
  refine r17One_run _ _ _ _ _ ?_
  rw [← zeroT_av, tb_none, w1, w2, rowsT_length]
  simp only [av_unf, beqS, beqI]
  rw [av_unf] at hl
  have bnd : ∀ z : Int, (z != 0) = !decide (z = 0) := fun z => by rw [bne, beqI]
  have b9 : (t.kind != 9) = !decide (t.kind = 9) := by rw [bne, beqI]
  have b1 : (t.kind != 1) = !decide (t.kind = 1) := by rw [bne, beqI]
  rw [b9, b1]
  have size : Gets (some (AV.tup [.agg [.int .i64 1, .int .i64 (t.subs.length : Int), .str [], .sl []], .bool (decide (t.kind = 7))])) (RB (if t.kind = 7 then withinG t.subs.length else none)) := by
    rw [← numT_av, hwithin _ (by omega)]
    by_cases h7 : t.kind = 7
    · rw [if_pos h7, decide_eq_true h7]; exact ⟨_, rfl, _, rfl, fun x hx => by cases hx; rfl⟩
    · rw [if_neg h7, decide_eq_false h7]; exact ⟨_, rfl, _, rfl, fun x hx => by cases hx⟩
  have hop := ops1_in ho
  simp only [List.mem_cons, List.not_mem_nil, or_false] at hop
  rcases hop with rfl | rfl | rfl | rfl | rfl | rfl | rfl | rfl | rfl | rfl | rfl | rfl | rfl | rfl | rfl | rfl | rfl
  · exact kinds_step (b := decide (t.kind = 2)) (by simp) rfl
  · exact kinds_step (b := decide (t.kind = 1)) (by simp) rfl
  · exact kinds_step (b := decide (t.kind = 9) || decide (t.kind = 8)) (by simp) rfl
  · exact kinds_step (b := decide (t.kind = 7)) (by simp) rfl
  · exact kinds_step (b := decide (t.kind = 6)) (by simp) rfl
  · exact kinds_step (b := decide (t.kind = 5)) (by simp) rfl
  · exact kinds_step (b := decide (t.kind = 3) || decide (t.kind = 4)) (by simp) rfl
  · show Gets (kOpt (EVs (EV cfg) 88 [t.av]) _) (RB ((boolG t).map fun b => truthT (!b)))
    rw [r17Truths_ev]
    simp only [kOptSome, kTup, kCons, kBool_bool, kNil, r17Truth_ev, kTmV_av, av_unf]
    refine ⟨_, rfl, _, by rw [Option.isSome_map], fun x hx => ?_⟩
    obtain ⟨b, hb, rfl⟩ := Option.map_eq_some_iff.1 hx
    rw [hb]; rfl
  · show Gets (bif !decide (t.kind = 1) then some (tbR none) else kOpt (EVf (EV cfg) 100 [.int .i64 (-1 - t.num)]) fun (v : AV) => kTup v fun (cs : List AV) => kCons cs fun (c : AV) (cs : List AV) => kAgg c fun (cs_1 : List AV) => kCons cs_1 fun (c : AV) (cs_2 : List AV) => kInt .i64 c fun (n : Int) => kCons cs_2 fun (c : AV) (cs_3 : List AV) => kInt .i64 c fun (n_1 : Int) => kCons cs_3 fun (c : AV) (cs_4 : List AV) => kStr c fun (s : List UInt8) => kCons cs_4 fun (c : AV) (cs_5 : List AV) => kSl c fun (rows : List (List AV)) => kNil cs_5 (kCons cs fun (c : AV) (cs : List AV) => kBool c fun (b : Bool) => kNil cs (some (AV.tup [.agg [.int .i64 n, .int .i64 n_1, .str s, .sl rows], .bool b])))) (RB (if t.kind = 1 then withinG (-1 - t.num) else none))
    by_cases h : t.kind = 1
    · rw [decide_eq_true h, if_pos h]; exact within_rb rfl
    · rw [decide_eq_false h, if_neg h]; exact raise
  · show Gets (bif !decide (t.kind = 1) then some (tbR none) else bif decide (t.num < 0) then kOpt (EVf (EV cfg) 100 [.int .i64 (-t.num)]) fun (v : AV) => kTup v fun (cs : List AV) => kCons cs fun (c : AV) (cs : List AV) => kAgg c fun (cs_1 : List AV) => kCons cs_1 fun (c : AV) (cs_2 : List AV) => kInt .i64 c fun (n : Int) => kCons cs_2 fun (c : AV) (cs_3 : List AV) => kInt .i64 c fun (n_1 : Int) => kCons cs_3 fun (c : AV) (cs_4 : List AV) => kStr c fun (s : List UInt8) => kCons cs_4 fun (c : AV) (cs_5 : List AV) => kSl c fun (rows : List (List AV)) => kNil cs_5 (kCons cs fun (c : AV) (cs : List AV) => kBool c fun (b : Bool) => kNil cs (some (AV.tup [.agg [.int .i64 n, .int .i64 n_1, .str s, .sl rows], .bool b]))) else some (AV.tup [t.av, .bool true])) (RB (if t.kind = 1 then withinG (if t.num < 0 then -t.num else t.num) else none))
    by_cases h : t.kind = 1
    · obtain ⟨hi, he⟩ := int_chk hc h
      rw [decide_eq_true h, if_pos h]
      by_cases hz : t.num < 0
      · rw [decide_eq_true hz, if_pos hz]; exact within_rb rfl
      · rw [decide_eq_false hz, if_neg hz]
        unfold withinG
        rw [if_pos hi]
        exact ⟨_, rfl, _, rfl, fun x hx => by cases hx; exact he⟩
    · rw [decide_eq_false h, if_neg h]; exact raise
  · exact size
  · exact size
  · show Gets (bif !decide (t.kind = 9) then some (tbR none) else bif ltInt 0 (t.subs.length : Int) then kOpt (List.get?Internal (rowsT t.subs) 0) _ else none) (RB (if t.kind = 9 then t.subs[0]? else none))
    by_cases h : t.kind = 9
    · obtain ⟨x, y, hs⟩ := cons_chk hc h
      rw [decide_eq_true h, if_pos h, ← rowsT_length t.subs, hs, lt0T, get0T]
      simp only [Bool.not_true, cond_true, cond_false, kOptSome, length_cells, Nat.beq_refl, take_cells, kTmC_cells, ble44, av_unf]
      exact ⟨_, rfl, _, rfl, fun x hx => by cases hx; rfl⟩
    · rw [decide_eq_false h, if_neg h]; exact raise
  · show Gets (bif !decide (t.kind = 9) then some (tbR none) else bif ltInt 1 (t.subs.length : Int) then kOpt (List.get?Internal (rowsT t.subs) 1) _ else none) (RB (if t.kind = 9 then t.subs[1]? else none))
    by_cases h : t.kind = 9
    · obtain ⟨x, y, hs⟩ := cons_chk hc h
      rw [decide_eq_true h, if_pos h, ← rowsT_length t.subs, hs, lt1T, get1T]
      simp only [Bool.not_true, cond_true, cond_false, kOptSome, length_cells, Nat.beq_refl, take_cells, kTmC_cells, ble44, av_unf]
      exact ⟨_, rfl, _, rfl, fun x hx => by cases hx; rfl⟩
    · rw [decide_eq_false h, if_neg h]; exact raise
  · show Gets (kOpt (EVs (EV cfg) 99 [t.av]) _) (RB ((lenG t).bind fun n => withinG n))
    refine Gets.bind hl ?_
    rintro _ ⟨m, rfl, hm⟩
    simp only [kTup, kCons, kInt_int, kBool_bool, kNil]
    rw [← numT_av]
    cases hg : lenG t with
    | none => exact ⟨_, rfl, _, rfl, fun x hx => by cases hx⟩
    | some x =>
      have hx := lenG_le hg
      have hw := w_chk hc
      rw [Option.bind_some, hwithin x (by omega), hm x hg]
      exact ⟨_, rfl, _, rfl, fun x hx => by cases hx; rfl⟩
  · show Gets (bif !decide (t.kind = 1) then some (tbR none) else some (AV.tup [t.av, .bool true])) (RB (if t.kind = 1 then withinG t.num else none))
    by_cases h : t.kind = 1
    · obtain ⟨hi, he⟩ := int_chk hc h
      unfold withinG
      rw [decide_eq_true h, if_pos h, if_pos hi]
      exact ⟨_, rfl, _, rfl, fun x hx => by cases hx; exact he⟩
    · rw [decide_eq_false h, if_neg h]; exact raise
  · show Gets (bif !decide (t.kind = 1) then some (tbR none) else kOpt (EVf (EV cfg) 100 [.int .i64 (-t.num)]) fun (v : AV) => kTup v fun (cs : List AV) => kCons cs fun (c : AV) (cs : List AV) => kAgg c fun (cs_1 : List AV) => kCons cs_1 fun (c : AV) (cs_2 : List AV) => kInt .i64 c fun (n : Int) => kCons cs_2 fun (c : AV) (cs_3 : List AV) => kInt .i64 c fun (n_1 : Int) => kCons cs_3 fun (c : AV) (cs_4 : List AV) => kStr c fun (s : List UInt8) => kCons cs_4 fun (c : AV) (cs_5 : List AV) => kSl c fun (rows : List (List AV)) => kNil cs_5 (kCons cs fun (c : AV) (cs : List AV) => kBool c fun (b : Bool) => kNil cs (some (AV.tup [.agg [.int .i64 n, .int .i64 n_1, .str s, .sl rows], .bool b])))) (RB (if t.kind = 1 then withinG (-t.num) else none))
    by_cases h : t.kind = 1
    · rw [decide_eq_true h, if_pos h]; exact within_rb rfl
    · rw [decide_eq_false h, if_neg h]; exact raise
end Go.Proofs.YtogebohommickaaGreat
end

section
namespace Go.Proofs.YtogebohommickaaGreat
open Go.Av
theorem r17Bools_ev (op : List UInt8) (a b : Bool) : EVs (EV cfg) 104 [.str op, .bool a, .bool b] = some (.bool (
    if op = [97, 110, 100] then a && b else if op = [97, 110, 100, 97, 108, 115, 111] then a && b else if op = [111, 114] then a || b else if op = [111, 114, 101, 108, 115, 101] then a || b else a != b)) := by
  apply Gets.get
  refine r17Bools_run _ _ _ ?_
  simp only [beqS]
  repeat' first
    | exact ⟨_, rfl, rfl⟩
    | (split <;> rename_i h <;> simp only [h, decide_true, cond_true, decide_false, cond_false])
  all_goals cases a <;> cases b <;> exact ⟨_, rfl, rfl⟩
theorem cmp_stepR {op : List UInt8} {a b : Tm} {c : Bool} {o : Option Tm} (wa : a.w < 1099511627776) (hb : EVs (EV cfg) 102 [.str op, .int .i64 (cmpT a b)] = some (.bool c)) (ho : o = some (truthT c)) :
    Gets (kOpt (EVs (EV cfg) 103 [a.av, b.av]) fun (v : AV) => kInt .i64 v fun (n : Int) => kOpt (EVs (EV cfg) 102 [.str op, .int .i64 n]) fun (v : AV) => kBool v fun (b : Bool) => kOpt (EVf (EV cfg) 98 [.bool b]) fun (v : AV) => kTmV v fun (n n_1 : Int) (s : List UInt8) (rows : List (List AV)) => (some (AV.tup [.agg [.int .i64 n, .int .i64 n_1, .str s, .sl rows], .bool true]))) (RB o) := by
  rw [r03Compare_ev a.w a b (Nat.le_refl _) wa, ho]
  simp only [kOptSome, kInt_int, hb, kBool_bool, r17Truth_ev, kTmV_av, av_unf]
  exact ⟨_, rfl, RB.of⟩
theorem bool_stepR {op : List UInt8} {a b : Tm} {f : Bool → Bool → Bool} {o : Option Tm} (hf : ∀ x y, EVs (EV cfg) 104 [.str op, .bool x, .bool y] = some (.bool (f x y))) (ho : o = (boolG a).bind fun x => (boolG b).map fun y => truthT (f x y)) :
    Gets (kOpt (EVs (EV cfg) 88 [a.av]) fun (v : AV) => kTup v fun (cs : List AV) => kCons cs fun (c : AV) (cs : List AV) => kBool c fun (b_0 : Bool) => kCons cs fun (c : AV) (cs : List AV) => kBool c fun (b_1 : Bool) => kNil cs (kOpt (EVs (EV cfg) 88 [b.av]) fun (v : AV) => kTup v fun (cs : List AV) => kCons cs fun (c : AV) (cs : List AV) => kBool c fun (b_2 : Bool) => kCons cs fun (c : AV) (cs : List AV) => kBool c fun (b_3 : Bool) => kNil cs (kOpt (EVs (EV cfg) 104 [.str op, .bool b_0, .bool b_2]) fun (v : AV) => kBool v fun (b : Bool) => kOpt (EVf (EV cfg) 98 [.bool b]) fun (v : AV) => kTmV v fun (n n_1 : Int) (s : List UInt8) (rows : List (List AV)) => (bif b_1 then some (AV.tup [.agg [.int .i64 n, .int .i64 n_1, .str s, .sl rows], .bool b_3]) else some (AV.tup [.agg [.int .i64 n, .int .i64 n_1, .str s, .sl rows], .bool false]))))) (RB o) := by
  rw [r17Truths_ev, r17Truths_ev, ho]
  simp only [kOptSome, kTup, kCons, kBool_bool, kNil, hf, r17Truth_ev, kTmV_av, av_unf]
  cases boolG a with
  | none => exact ⟨_, rfl, _, rfl, fun x hx => by cases hx⟩
  | some x =>
    cases boolG b with
    | none => exact ⟨_, rfl, _, rfl, fun x hx => by cases hx⟩
    | some y => exact ⟨_, rfl, _, rfl, fun x hx => by cases hx; rfl⟩
theorem num_stepR {op : List UInt8} {a b : Tm} {o : Option Tm} (ha : a.chk = 0) (hb : b.chk = 0) (h : op ∈ ([[43], [45], [42], [98, 97, 110, 100], [98, 111, 114], [98, 120, 111, 114], [100, 105, 118], [114, 101, 109]] : List (List UInt8))) (ho : o = if a.kind = 1 ∧ b.kind = 1 then numbersG op a.num b.num else none) :
    Gets (bif !decide (a.kind = 1) then some (tbR none) else bif !decide (b.kind = 1) then some (tbR none) else kOpt (EVf (EV cfg) 105 [.str op, .int .i64 a.num, .int .i64 b.num]) fun (v : AV) => kTup v fun (cs : List AV) => kCons cs fun (c : AV) (cs : List AV) => kAgg c fun (cs_1 : List AV) => kCons cs_1 fun (c : AV) (cs_2 : List AV) => kInt .i64 c fun (n : Int) => kCons cs_2 fun (c : AV) (cs_3 : List AV) => kInt .i64 c fun (n_1 : Int) => kCons cs_3 fun (c : AV) (cs_4 : List AV) => kStr c fun (s : List UInt8) => kCons cs_4 fun (c : AV) (cs_5 : List AV) => kSl c fun (rows : List (List AV)) => kNil cs_5 (kCons cs fun (c : AV) (cs : List AV) => kBool c fun (b : Bool) => kNil cs (some (AV.tup [.agg [.int .i64 n, .int .i64 n_1, .str s, .sl rows], .bool b])))) (RB o) := by
  subst ho
  by_cases ka : a.kind = 1
  · by_cases kb : b.kind = 1
    · rw [decide_eq_true ka, decide_eq_true kb, if_pos ⟨ka, kb⟩, r17Numbers_ev h (inB_chk ha ka) (inB_chk hb kb)]
      simp only [Bool.not_true, cond_false, kOptSome, tbR_eq, kTB, av_unf]
      exact ⟨_, rfl, RB.of⟩
    · rw [decide_eq_true ka, decide_eq_false kb, if_neg (fun e => kb e.2)]; exact ⟨_, rfl, RB.of⟩
  · rw [decide_eq_false ka, if_neg (fun e => ka e.1)]; exact ⟨_, rfl, RB.of⟩
theorem r17Two_ev {op : List UInt8} (hop : (2 : Int) ∈ opsG op) {a b : Tm} (ha : a.chk = 0) (hb : b.chk = 0) : Gets (EVf (EV cfg) 77 [.str op, a.av, b.av]) (RB (twoG op a b)) := by
  have wa : a.w < 1099511627776 := by have := w_chk ha; omega
  have na := num_chk ha
  have sb := subs_chk hb
  rw [Tm.av, Tm.av, Tm.cells_eq a, Tm.cells_eq b]
  refine r17Two_run _ _ _ _ _ _ _ _ _ ?_
  have b1 : (a.kind != 1) = !decide (a.kind = 1) := by rw [bne, beqI]
  have b2 : (b.kind != 1) = !decide (b.kind = 1) := by rw [bne, beqI]
  have b7 : (b.kind != 7) = !decide (b.kind = 7) := by rw [bne, beqI]
  have w1 : IntKind.wrap .i64 (a.num - 1) = a.num - 1 := wrap64 (by omega) (by omega)
  rw [← zeroT_av, tb_none, b1, b2, b7, w1, rowsT_length]
  simp only [av_unf, beqS]
  have h := ops2_in hop
  simp only [List.mem_cons, List.not_mem_nil, or_false] at h
  rcases h with rfl | rfl | rfl | rfl | rfl | rfl | rfl | rfl | rfl | rfl | rfl | rfl | rfl | rfl | rfl | rfl | rfl | rfl | rfl | rfl | rfl | rfl
  · exact num_stepR ha hb (by simp) rfl
  · exact num_stepR ha hb (by simp) rfl
  · exact cmp_stepR (c := decide (cmpT a b = 0)) wa (r17Compares_ev _ _) rfl
  · exact cmp_stepR (c := decide (cmpT a b = 0)) wa (r17Compares_ev _ _) rfl
  · exact cmp_stepR (c := !decide (cmpT a b = 0)) wa (r17Compares_ev _ _) rfl
  · exact cmp_stepR (c := !decide (cmpT a b = 0)) wa (r17Compares_ev _ _) rfl
  · exact cmp_stepR (c := decide (cmpT a b < 0)) wa (r17Compares_ev _ _) rfl
  · exact cmp_stepR (c := decide (cmpT a b ≤ 0)) wa (r17Compares_ev _ _) rfl
  · exact cmp_stepR (c := decide (cmpT a b > 0)) wa (r17Compares_ev _ _) rfl
  · exact cmp_stepR (c := decide (cmpT a b ≥ 0)) wa (r17Compares_ev _ _) rfl
  · exact bool_stepR (f := fun x y => x && y) (fun x y => r17Bools_ev _ _ _) rfl
  · exact bool_stepR (f := fun x y => x || y) (fun x y => r17Bools_ev _ _ _) rfl
  · exact bool_stepR (f := fun x y => x != y) (fun x y => r17Bools_ev _ _ _) rfl
  · exact bool_stepR (f := fun x y => x && y) (fun x y => r17Bools_ev _ _ _) rfl
  · exact bool_stepR (f := fun x y => x || y) (fun x y => r17Bools_ev _ _ _) rfl
  · exact num_stepR ha hb (by simp) rfl
  · exact num_stepR ha hb (by simp) rfl
  · exact num_stepR ha hb (by simp) rfl
  · exact num_stepR ha hb (by simp) rfl
  · exact num_stepR ha hb (by simp) rfl
  · exact num_stepR ha hb (by simp) rfl
  · show Gets (bif !decide (a.kind = 1) then some (tbR none) else bif !decide (b.kind = 7) then some (tbR none) else bif decide (a.num < 1) then some (tbR none) else bif decide (a.num > (b.subs.length : Int)) then some (tbR none) else bif leInt 0 (a.num - 1) && ltInt (a.num - 1) (b.subs.length : Int) then kOpt (List.get?Internal (rowsT b.subs) (Int.toNat (a.num - 1))) _ else none) (RB (if a.kind = 1 ∧ 1 ≤ a.num ∧ b.kind = 7 ∧ a.num ≤ b.subs.length then b.subs[(a.num - 1).toNat]? else none))
    by_cases k1 : a.kind = 1
    · by_cases k7 : b.kind = 7
      · by_cases l1 : a.num < 1
        · rw [decide_eq_true k1, decide_eq_true k7, decide_eq_true l1, if_neg (fun e => by omega)]; exact ⟨_, rfl, RB.of⟩
        · by_cases l2 : a.num > (b.subs.length : Int)
          · rw [decide_eq_true k1, decide_eq_true k7, decide_eq_false l1, decide_eq_true l2, if_neg (fun e => by omega)]; exact ⟨_, rfl, RB.of⟩
          · have hi : (a.num - 1).toNat < b.subs.length := by omega
            have hx : b.subs[(a.num - 1).toNat]? = some b.subs[(a.num - 1).toNat] := List.getElem?_eq_getElem hi
            have e1 : leInt 0 (a.num - 1) = true := decide_eq_true (by omega)
            have e2 : ltInt (a.num - 1) (b.subs.length : Int) = true := decide_eq_true (by omega)
            rw [decide_eq_true k1, decide_eq_true k7, decide_eq_false l1, decide_eq_false l2, if_pos ⟨k1, by omega, k7, by omega⟩, e1, e2, hx, get?Internal_eq, rowsT_get, hx]
            simp only [Bool.not_true, cond_false, cond_true, Bool.and_self, Option.map_some, kOptSome, length_cells, Nat.beq_refl, take_cells, kTmC_cells, ble44, av_unf]
            exact ⟨_, rfl, RB.of⟩
      · rw [decide_eq_true k1, decide_eq_false k7, if_neg (fun e => k7 e.2.2.1)]; exact ⟨_, rfl, RB.of⟩
    · rw [decide_eq_false k1, if_neg (fun e => k1 e.1)]; exact ⟨_, rfl, RB.of⟩
theorem rb_norm {o : Option Tm} {v : AV} (h : RB o v) : Gets (kTup v fun (cs : List AV) => kCons cs fun (c : AV) (cs : List AV) => kAgg c fun (cs_1 : List AV) => kCons cs_1 fun (c : AV) (cs_2 : List AV) => kInt .i64 c fun (n : Int) => kCons cs_2 fun (c : AV) (cs_3 : List AV) => kInt .i64 c fun (n_2 : Int) => kCons cs_3 fun (c : AV) (cs_4 : List AV) => kStr c fun (s : List UInt8) => kCons cs_4 fun (c : AV) (cs_5 : List AV) => kSl c fun (rows : List (List AV)) => kNil cs_5 (kCons cs fun (c : AV) (cs : List AV) => kBool c fun (b : Bool) => kNil cs (bif !b then some (AV.tup [zeroT.av, .bool false]) else some (AV.tup [.agg [.int .i64 n, .int .i64 n_2, .str s, .sl rows], .bool true])))) (· = tbR o) := by
  obtain ⟨t, rfl, h⟩ := h
  rw [kTB, av_unf]
  cases o with
  | none => exact ⟨_, rfl, rfl⟩
  | some x => rw [h x rfl]; exact ⟨_, rfl, rfl⟩
theorem r17Apply_ev {op : List UInt8} {l : List Tm} (hop : (l.length : Int) ∈ opsG op) (hl : ∀ x ∈ l, x.chk = 0) (hlen : l.length ≤ 2) (self : Int) :
    EVf (EV cfg) 49 [.str op, .sl (rowsT l), .int .i64 self] = some (tbR (applyG op l self)) := by
  apply Gets.get
  refine r17Apply1_run _ _ _ ?_
  rw [← zeroT_av]
  match l, hop, hl, hlen with
  | [], _, _, _ =>
    refine ⟨_, rfl, ?_⟩
    show _ = AV.tup [(Tm.mk 6 self [] []).av, .bool true]
    rw [Tm.av_mk, rowsT_nil]
  | [a], hop, hl, _ =>
    have h1 := r17One_ev hop (hl a (by simp))
    rw [lt0T, get0T, rowsT_length]
    simp only [List.length_cons, List.length_nil, beqI, show decide (((0 + 1 : Nat) : Int) = 1) = true from rfl, cond_true, kOptSome, length_cells, Nat.beq_refl, take_cells, kTmC_cells, ble44, av_unf]
    exact Gets.bind h1 fun v h => rb_norm h
  | [a, b], hop, hl, _ =>
    have h1 := r17Two_ev hop (hl a (by simp)) (hl b (by simp))
    rw [lt0T, get0T, lt1T, get1T, rowsT_length]
    simp only [List.length_cons, List.length_nil, beqI, show decide (((0 + 1 + 1 : Nat) : Int) = 1) = false from rfl, show decide (((0 + 1 + 1 : Nat) : Int) = 2) = true from rfl, cond_true, cond_false, kOptSome, length_cells, Nat.beq_refl, take_cells, kTmC_cells, ble44, av_unf]
    exact Gets.bind h1 fun v h => rb_norm h
  | _ :: _ :: _ :: _, _, _, h => simp at h
end Go.Proofs.YtogebohommickaaGreat
end

section
namespace Go.Av
def pairG (x e : Tm) : Tm := .mk 9 0 [] [x, e]
def makeG (l : List Tm) (e : Tm) : Tm := l.foldr pairG e
end Go.Av
namespace Go.Proofs.YtogebohommickaaGreat
open Go.Av
theorem makeList_ev {l : List Tm} (hlen : l.length < 1099511627776) (e : Tm) : EVf (EV cfg) 84 [.sl (rowsT l), e.av] = some (makeG l e).av := by
  have loop : ∀ (j : Nat) (a : Tm), j ≤ l.length → Gets (ws78_0 ((j : Int) - 1) a.kind a.num a.str (rowsT a.subs) 0 0 [] [] (rowsT l)) (· = ((l.take j).foldr pairG a).av) := by
    intro j
    induction j with
    | zero =>
      intro a _
      refine ws78_0_step _ _ _ _ _ _ _ _ _ _ ?_
      refine ⟨_, rfl, ?_⟩
      rw [av_unf]; rfl
    | succ j ih =>
      intro a hj
      refine ws78_0_step _ _ _ _ _ _ _ _ _ _ ?_
      have hil : j < l.length := by omega
      have hx : l[j]? = some l[j] := List.getElem?_eq_getElem hil
      have h := ih (pairG l[j] a) (by omega)
      have e1 : l.take (j + 1) = l.take j ++ [l[j]] := by rw [List.take_add_one, hx]; rfl
      have e2 : (((j + 1 : Nat) : Int) - 1) = (j : Int) := by omega
      have w1 : IntKind.wrap .i64 ((j : Int) - 1) = (j : Int) - 1 := wrap64 (by omega) (by omega)
      rw [e2, w1, decide_eq_true (show (j : Int) ≥ 0 by omega), rowsT_length, leInt_zero, ltInt_nat, decide_eq_true hil, rowsT_at hx, e1, List.foldr_append]
      simp only [cond_true, Bool.and_self, length_cells, Nat.beq_refl, take_cells, kTmC_cells, show Nat.ble 4 4 = true from rfl, kOptSome]
      rw [← Tm.cells_eq, ← Tm.cells_eq]
      have e3 : rowsT (pairG l[j] a).subs = [l[j].cells, a.cells] := by show rowsT [l[j], a] = _; rw [rowsT_cons, rowsT_cons, rowsT_nil]
      rw [e3] at h
      exact h
  apply Gets.get
  rw [Tm.av, Tm.cells_eq]
  refine makeList_run _ _ _ _ _ ?_
  have h := loop l.length e (Nat.le_refl _)
  rw [List.take_length] at h
  rw [rowsT_length, wrap64 (by omega) (by omega)]
  exact h
end Go.Proofs.YtogebohommickaaGreat
end

section
namespace Go.Proofs.YtogebohommickaaGreat
open Go.Av
theorem setHas_ev {p : Nat → Bool} {r : List AV} (h : SetRow p r) {n : Nat} (hn : n < 100) : EVs (EV cfg) 82 [.cptr r 0, .int .i64 n] = some (.bool (p n)) := by
  obtain ⟨lo, hi, l, rfl, h1, h2, h3, h4⟩ := h
  have key : ∀ {a k : Nat}, a < 18446744073709551616 → k < 64 → ((((a / 2 ^ k % 2 : Nat) : Int)) == 1) = a.testBit k := by
    intro a k _ _
    rw [Nat.testBit_eq_decide_div_mod_eq]
    rw [beqI]
    exact decide_eq_decide.2 (by omega)
  apply Gets.get
  refine setHas_run _ _ ?_
  by_cases hs : n < 64
  · have e : p n = lo.testBit n := (h3 n hs).symm
    have hd := Nat.div_le_self lo (2 ^ n)
    rw [decide_eq_true (show (n : Int) < 64 by omega), e]
    simp only [cond_true, get?Internal_eq, List.getElem?_cons_zero, kOptSome, kInt_int, shr_bit h1 hs, and_one (show lo / 2 ^ n < 18446744073709551616 by omega), key h1 hs]
    exact ⟨_, rfl, rfl⟩
  · obtain ⟨k, rfl⟩ : ∃ k, n = k + 64 := ⟨n - 64, by omega⟩
    have hk : k < 64 := by omega
    have e : p (k + 64) = hi.testBit k := (h4 k hk).symm
    have hd := Nat.div_le_self hi (2 ^ k)
    have w : IntKind.wrap .i64 (((k + 64 : Nat) : Int) - 64) = (k : Int) := by rw [wrap64 (by omega) (by omega)]; omega
    rw [decide_eq_false (show ¬ ((k + 64 : Nat) : Int) < 64 by omega), w, e]
    simp only [cond_false, get?Internal_eq, List.getElem?_cons_succ, List.getElem?_cons_zero, kOptSome, kInt_int, shr_bit h2 hk, and_one (show hi / 2 ^ k < 18446744073709551616 by omega), key h2 hk]
    exact ⟨_, rfl, rfl⟩
theorem setAdd_ev {p : Nat → Bool} {r : List AV} (h : SetRow p r) {n : Nat} (hn : n < 100) : ∃ r', EVm (EV cfg) 108 [.ptr 0 0 0, .int .i64 n] 402 [r] = some (.unit, [r']) ∧
    SetRow (fun i => p i || decide (i = n)) r' ∧ r'.drop 2 = r.drop 2 ∧ r'.length = r.length ∧ (refsLtL 0 r = true → refsLtL 0 r' = true) := by
  obtain ⟨lo, hi, l, rfl, h1, h2, h3, h4⟩ := h
  have pw : ∀ {k : Nat}, k < 64 → 2 ^ k < 18446744073709551616 := by
    intro k hk
    have : 2 ^ k < 2 ^ 64 := Nat.pow_lt_pow_right (by omega) hk
    simpa using this
  have orlt : ∀ {a b : Nat}, a < 18446744073709551616 → b < 18446744073709551616 → a ||| b < 18446744073709551616 := by
    intro a b ha hb
    have := Nat.or_lt_two_pow (n := 64) (by simpa using ha) (by simpa using hb)
    simpa using this
  have bit : ∀ {a k i : Nat}, (a ||| 2 ^ k).testBit i = (a.testBit i || decide (i = k)) := by
    intro a k i
    rw [Nat.testBit_or, Nat.testBit_two_pow]
    congr 1
    exact decide_eq_decide.2 ⟨fun h => h.symm, fun h => h.symm⟩
  by_cases hs : n < 64
  · refine ⟨.int .u64 ((lo ||| 2 ^ n : Nat) : Int) :: .int .u64 hi :: l, ?_, ⟨_, hi, l, rfl, orlt h1 (pw hs), h2, fun i hi => ?_, fun i hi => ?_⟩, rfl, rfl, fun h => h⟩
    · apply Gets.get
      refine setAdd_run _ _ ?_
      rw [decide_eq_true (show (n : Int) < 64 by omega)]
      simp only [cond_true, get?Internal_eq, List.getElem?_cons_zero, kOptSome, kInt_int, shl_one hs, or_bits h1 (pw hs)]
      exact ⟨_, rfl, rfl⟩
    · rw [bit, h3 i hi]
    · have : decide (i + 64 = n) = false := decide_eq_false (by omega)
      rw [h4 i hi]
      show p (i + 64) = (p (i + 64) || decide (i + 64 = n))
      rw [this, Bool.or_false]
  · obtain ⟨k, rfl⟩ : ∃ k, n = k + 64 := ⟨n - 64, by omega⟩
    have hk : k < 64 := by omega
    have w : IntKind.wrap .i64 (((k + 64 : Nat) : Int) - 64) = (k : Int) := by rw [wrap64 (by omega) (by omega)]; omega
    refine ⟨.int .u64 lo :: .int .u64 ((hi ||| 2 ^ k : Nat) : Int) :: l, ?_, ⟨lo, _, l, rfl, h1, orlt h2 (pw hk), fun i hi => ?_, fun i hi => ?_⟩, rfl, rfl, fun h => h⟩
    · apply Gets.get
      refine setAdd_run _ _ ?_
      rw [decide_eq_false (show ¬ ((k + 64 : Nat) : Int) < 64 by omega), w]
      simp only [cond_false, get?Internal_eq, List.getElem?_cons_succ, List.getElem?_cons_zero, kOptSome, kInt_int, shl_one hk, or_bits h2 (pw hk)]
      exact ⟨_, rfl, rfl⟩
    · have : decide (i = k + 64) = false := decide_eq_false (by omega)
      rw [h3 i hi]
      show p i = (p i || decide (i = k + 64))
      rw [this, Bool.or_false]
    · rw [bit, h4 i hi]
      congr 1
      exact decide_eq_decide.2 (by omega)
end Go.Proofs.YtogebohommickaaGreat
end

section
namespace Go.Proofs.YtogebohommickaaGreat
open Go.Av
set_option maxRecDepth 100000
set_option maxHeartbeats 0

noncomputable def Lr59_0 : Den := evC cfg (EV cfg) 81 none 1 (sub (bodyOf Tryz.f81) [1, 1, 1, 0, 1, 0, 0])
noncomputable def Ar59_0 (B : List (List AV)) (n : Int) : Ex × List AV × AH → Option AV := kAft (Cfg.keepOut cfg 81 (firstRid (sub (bodyOf Tryz.f81) [1, 1, 1, 0, 1, 0, 0]))) (kBlock 0 (kSeq (fun (fr : List AV) (H : AH) => kCutTo (Cfg.cut cfg 81 (firstRid (sub (bodyOf Tryz.f81) [1, 1, 1, 1]))) fr H fun (fr : List AV) (H : AH) => kCode cfg (EV cfg) (kfN cfg (5)) 75 none 1 (sub (bodyOf Tryz.f81) [1, 1, 1, 1]) fr H (kFinG cfg (Cfg.lift cfg 81 0) (fun (v : AV) (H : AH) => (fun (r : AV × AH) => kOpt (impRes none 1 (Prod.fst r) (Prod.snd r)) fun (r : AV × AH) => kTy noTy cfg (Oper.type { dst := some 8, op := Op.call { callee := Callee.value (Operand.func 75), args := #[Operand.tmp 7], argTypes := #[27] }, type := 92, pos := "pattern.go:188", after := #[{ on := 0, ground := Ground.data }], guard := none }) (Prod.fst r) fun (v : AV) => (fun (v : AV) (H' : AH) => kOps cfg (EV cfg) (kfN cfg 6) 53 1 (opsOf (sub (bodyOf Tryz.f53) [1, 0])) (0 + 1 + 1) (List.drop 2 (Array.toList (opsOf (sub (bodyOf Tryz.f53) [1, 0])))) (put (fx 35 [(0, AV.sl B), (1, AV.int IntKind.i64 n), (4, AV.ptr 0 0 0), (5, AV.bool false), (7, AV.sl B)]) (some 8) v) H' fun (fr' : List AV) (H' : AH) => kSeq (fun (fr : List AV) (H : AH) => kCutTo (Cfg.cut cfg 53 (firstRid (sub (bodyOf Tryz.f53) [1, 1]))) fr H fun (fr : List AV) (H : AH) => kCode cfg (EV cfg) (kfN cfg 6) 53 none 0 (sub (bodyOf Tryz.f53) [1, 1]) fr H (kFinF cfg (Cfg.lift cfg 53 0) (Array.toList (Func.results Tryz.f53)))) (kFinF cfg (Cfg.lift cfg 53 0) (Array.toList (Func.results Tryz.f53))) Ex.normal fr' H') v (Prod.snd r)) (v, H)) (Array.toList (Func.results (Prod.snd (81, Tryz.f81)))))) (kFinG cfg (Cfg.lift cfg 81 0) (fun (v : AV) (H : AH) => (fun (r : AV × AH) => kOpt (impRes none 1 (Prod.fst r) (Prod.snd r)) fun (r : AV × AH) => kTy noTy cfg (Oper.type { dst := some 8, op := Op.call { callee := Callee.value (Operand.func 75), args := #[Operand.tmp 7], argTypes := #[27] }, type := 92, pos := "pattern.go:188", after := #[{ on := 0, ground := Ground.data }], guard := none }) (Prod.fst r) fun (v : AV) => (fun (v : AV) (H' : AH) => kOps cfg (EV cfg) (kfN cfg 6) 53 1 (opsOf (sub (bodyOf Tryz.f53) [1, 0])) (0 + 1 + 1) (List.drop 2 (Array.toList (opsOf (sub (bodyOf Tryz.f53) [1, 0])))) (put (fx 35 [(0, AV.sl B), (1, AV.int IntKind.i64 n), (4, AV.ptr 0 0 0), (5, AV.bool false), (7, AV.sl B)]) (some 8) v) H' fun (fr' : List AV) (H' : AH) => kSeq (fun (fr : List AV) (H : AH) => kCutTo (Cfg.cut cfg 53 (firstRid (sub (bodyOf Tryz.f53) [1, 1]))) fr H fun (fr : List AV) (H : AH) => kCode cfg (EV cfg) (kfN cfg 6) 53 none 0 (sub (bodyOf Tryz.f53) [1, 1]) fr H (kFinF cfg (Cfg.lift cfg 53 0) (Array.toList (Func.results Tryz.f53)))) (kFinF cfg (Cfg.lift cfg 53 0) (Array.toList (Func.results Tryz.f53))) Ex.normal fr' H') v (Prod.snd r)) (v, H)) (Array.toList (Func.results (Prod.snd (81, Tryz.f81)))))))
noncomputable def Wr59_0 (B : List (List AV)) (n : Int) : List AV × AH → Option AV := fun (p : List AV × AH) => kOpt (LOOP 1 (some [3, 4, 9, 10, 11]) [] Lr59_0 p) (Ar59_0 B n)
noncomputable abbrev wr59_0 (B : List (List AV)) (n : Int) (v4 : Int) (v11 : Int) (c0_0 : Int) (c0_1 : Int) (c0_2 : List UInt8) (c0_3 : List (List AV)) (c1r0 : List AV) : Option (AV) := Wr59_0 (B) (n) (((fx 48 [(3, AV.ptr (1 : Nat) (0 : Nat) (0 : Nat)), (4, AV.int IntKind.i64 v4), (9, AV.sl B), (10, AV.int IntKind.i64 (↑(List.length B) : Int)), (11, AV.int IntKind.i64 v11)]) : List AV), ([ABlk.rows false (4 : Nat) [[AV.int IntKind.i64 c0_0, AV.int IntKind.i64 c0_1, AV.str c0_2, AV.sl c0_3]], ABlk.rows true (402 : Nat) [c1r0]] : AH))
noncomputable abbrev wr59_0a (B : List (List AV)) (n : Int) (n' : Int) (n'' : Int) (n''' : Int) (s : List UInt8) (rows : List (List AV)) (q : MV × List (List AV)) (row : List AV) (v4 : Int) (v11 : Int) (c0_0 : Int) (c0_1 : Int) (c0_2 : List UInt8) (c0_3 : List (List AV)) : Option (AV) := Wr59_0 (B) (n) (((fx 48 [(3, AV.ptr (1 : Nat) (0 : Nat) (0 : Nat)), (4, AV.int IntKind.i64 v4), (9, AV.sl B), (10, AV.int IntKind.i64 (↑(List.length B) : Int)), (11, AV.int IntKind.i64 v11)]) : List AV), ([ABlk.rows false (4 : Nat) [[AV.int IntKind.i64 c0_0, AV.int IntKind.i64 c0_1, AV.str c0_2, AV.sl c0_3]], ABlk.rows true (402 : Nat) (List.set q.2 (0 : Nat) (List.append (List.append (List.take ((2 : Nat) + Int.toNat n' * (4 : Nat)) row) [AV.int IntKind.i64 n'', AV.int IntKind.i64 n''', AV.str s, AV.sl rows]) (List.drop ((2 : Nat) + Int.toNat n' * (4 : Nat) + (4 : Nat)) row)))] : AH))
theorem patFind_run (B : List (List AV)) (n : Int) {P : AV → Prop} (h : Gets (wr59_0 B n (-1 : Int) (0 : Int) (0 : Int) (0 : Int) [] [] [.int .u64 (0 : Int), .int .u64 (0 : Int), .int .i64 (0 : Int), .int .i64 (0 : Int), .str [], .nilS, .int .i64 (0 : Int), .int 
  .i64 (0 : Int), .str [], .nilS, .int .i64 (0 : Int), .int .i64 (0 : Int), .str [], .nilS, .int .i64 (0 : Int), .int .i64 (0 : Int), .str [], .nilS, .int .i64 (0 : Int), .int .i64 (0 
  : Int), .str [], .nilS, .int .i64 (0 : Int), .int .i64 (0 : Int), .str [], .nilS, .int .i64 (0 : Int), .int .i64 (0 : Int), .str [], .nilS, .int .i64 (0 : Int), .int .i64 (0 : Int), 
  .str [], .nilS, .int .i64 (0 : Int), .int .i64 (0 : Int), .str [], .nilS, .int .i64 (0 : Int), .int .i64 (0 : Int), .str [], .nilS, .int .i64 (0 : Int), .int .i64 (0 : Int), .str [], 
  .nilS, .int .i64 (0 : Int), .int .i64 (0 : Int), .str [], .nilS, .int .i64 (0 : Int), .int .i64 (0 : Int), .str [], .nilS, .int .i64 (0 : Int), .int .i64 (0 : Int), .str [], .nilS, 
  .int .i64 (0 : Int), .int .i64 (0 : Int), .str [], .nilS, .int .i64 (0 : Int), .int .i64 (0 : Int), .str [], .nilS, .int .i64 (0 : Int), .int .i64 (0 : Int), .str [], .nilS, .int .i64 
  (0 : Int), .int .i64 (0 : Int), .str [], .nilS, .int .i64 (0 : Int), .int .i64 (0 : Int), .str [], .nilS, .int .i64 (0 : Int), .int .i64 (0 : Int), .str [], .nilS, .int .i64 (0 : Int), 
  .int .i64 (0 : Int), .str [], .nilS, .int .i64 (0 : Int), .int .i64 (0 : Int), .str [], .nilS, .int .i64 (0 : Int), .int .i64 (0 : Int), .str [], .nilS, .int .i64 (0 : Int), .int .i64 
  (0 : Int), .str [], .nilS, .int .i64 (0 : Int), .int .i64 (0 : Int), .str [], .nilS, .int .i64 (0 : Int), .int .i64 (0 : Int), .str [], .nilS, .int .i64 (0 : Int), .int .i64 (0 : Int), 
  .str [], .nilS, .int .i64 (0 : Int), .int .i64 (0 : Int), .str [], .nilS, .int .i64 (0 : Int), .int .i64 (0 : Int), .str [], .nilS, .int .i64 (0 : Int), .int .i64 (0 : Int), .str [], 
  .nilS, .int .i64 (0 : Int), .int .i64 (0 : Int), .str [], .nilS, .int .i64 (0 : Int), .int .i64 (0 : Int), .str [], .nilS, .int .i64 (0 : Int), .int .i64 (0 : Int), .str [], .nilS, 
  .int .i64 (0 : Int), .int .i64 (0 : Int), .str [], .nilS, .int .i64 (0 : Int), .int .i64 (0 : Int), .str [], .nilS, .int .i64 (0 : Int), .int .i64 (0 : Int), .str [], .nilS, .int .i64 
  (0 : Int), .int .i64 (0 : Int), .str [], .nilS, .int .i64 (0 : Int), .int .i64 (0 : Int), .str [], .nilS, .int .i64 (0 : Int), .int .i64 (0 : Int), .str [], .nilS, .int .i64 (0 : Int), 
  .int .i64 (0 : Int), .str [], .nilS, .int .i64 (0 : Int), .int .i64 (0 : Int), .str [], .nilS, .int .i64 (0 : Int), .int .i64 (0 : Int), .str [], .nilS, .int .i64 (0 : Int), .int .i64 
  (0 : Int), .str [], .nilS, .int .i64 (0 : Int), .int .i64 (0 : Int), .str [], .nilS, .int .i64 (0 : Int), .int .i64 (0 : Int), .str [], .nilS, .int .i64 (0 : Int), .int .i64 (0 : Int), 
  .str [], .nilS, .int .i64 (0 : Int), .int .i64 (0 : Int), .str [], .nilS, .int .i64 (0 : Int), .int .i64 (0 : Int), .str [], .nilS, .int .i64 (0 : Int), .int .i64 (0 : Int), .str [], 
  .nilS, .int .i64 (0 : Int), .int .i64 (0 : Int), .str [], .nilS, .int .i64 (0 : Int), .int .i64 (0 : Int), .str [], .nilS, .int .i64 (0 : Int), .int .i64 (0 : Int), .str [], .nilS, 
  .int .i64 (0 : Int), .int .i64 (0 : Int), .str [], .nilS, .int .i64 (0 : Int), .int .i64 (0 : Int), .str [], .nilS, .int .i64 (0 : Int), .int .i64 (0 : Int), .str [], .nilS, .int .i64 
  (0 : Int), .int .i64 (0 : Int), .str [], .nilS, .int .i64 (0 : Int), .int .i64 (0 : Int), .str [], .nilS, .int .i64 (0 : Int), .int .i64 (0 : Int), .str [], .nilS, .int .i64 (0 : Int), 
  .int .i64 (0 : Int), .str [], .nilS, .int .i64 (0 : Int), .int .i64 (0 : Int), .str [], .nilS, .int .i64 (0 : Int), .int .i64 (0 : Int), .str [], .nilS, .int .i64 (0 : Int), .int .i64 
  (0 : Int), .str [], .nilS, .int .i64 (0 : Int), .int .i64 (0 : Int), .str [], .nilS, .int .i64 (0 : Int), .int .i64 (0 : Int), .str [], .nilS, .int .i64 (0 : Int), .int .i64 (0 : Int), 
  .str [], .nilS, .int .i64 (0 : Int), .int .i64 (0 : Int), .str [], .nilS, .int .i64 (0 : Int), .int .i64 (0 : Int), .str [], .nilS, .int .i64 (0 : Int), .int .i64 (0 : Int), .str [], 
  .nilS, .int .i64 (0 : Int), .int .i64 (0 : Int), .str [], .nilS, .int .i64 (0 : Int), .int .i64 (0 : Int), .str [], .nilS, .int .i64 (0 : Int), .int .i64 (0 : Int), .str [], .nilS, 
  .int .i64 (0 : Int), .int .i64 (0 : Int), .str [], .nilS, .int .i64 (0 : Int), .int .i64 (0 : Int), .str [], .nilS, .int .i64 (0 : Int), .int .i64 (0 : Int), .str [], .nilS, .int .i64 
  (0 : Int), .int .i64 (0 : Int), .str [], .nilS, .int .i64 (0 : Int), .int .i64 (0 : Int), .str [], .nilS, .int .i64 (0 : Int), .int .i64 (0 : Int), .str [], .nilS, .int .i64 (0 : Int), 
  .int .i64 (0 : Int), .str [], .nilS, .int .i64 (0 : Int), .int .i64 (0 : Int), .str [], .nilS, .int .i64 (0 : Int), .int .i64 (0 : Int), .str [], .nilS, .int .i64 (0 : Int), .int .i64 
  (0 : Int), .str [], .nilS, .int .i64 (0 : Int), .int .i64 (0 : Int), .str [], .nilS, .int .i64 (0 : Int), .int .i64 (0 : Int), .str [], .nilS, .int .i64 (0 : Int), .int .i64 (0 : Int), 
  .str [], .nilS, .int .i64 (0 : Int), .int .i64 (0 : Int), .str [], .nilS, .int .i64 (0 : Int), .int .i64 (0 : Int), .str [], .nilS, .int .i64 (0 : Int), .int .i64 (0 : Int), .str [], 
  .nilS, .int .i64 (0 : Int), .int .i64 (0 : Int), .str [], .nilS, .int .i64 (0 : Int), .int .i64 (0 : Int), .str [], .nilS, .int .i64 (0 : Int), .int .i64 (0 : Int), .str [], .nilS, 
  .int .i64 (0 : Int), .int .i64 (0 : Int), .str [], .nilS, .int .i64 (0 : Int), .int .i64 (0 : Int), .str [], .nilS, .int .i64 (0 : Int), .int .i64 (0 : Int), .str [], .nilS, .int .i64 
  (0 : Int), .int .i64 (0 : Int), .str [], .nilS, .int .i64 (0 : Int), .int .i64 (0 : Int), .str [], .nilS, .int .i64 (0 : Int), .int .i64 (0 : Int), .str [], .nilS, .int .i64 (0 : Int), 
  .int .i64 (0 : Int), .str [], .nilS, .int .i64 (0 : Int), .int .i64 (0 : Int), .str [], .nilS, .int .i64 (0 : Int), .int .i64 (0 : Int), .str [], .nilS, .int .i64 (0 : Int), .int .i64 
  (0 : Int), .str [], .nilS]) P) : Gets (EVf (EV cfg) 53 ([AV.sl B, AV.int IntKind.i64 n] : List AV)) P :=
  Gets.ev (fun _ h => funF rfl rfl Tryz.func53 rfl h) (Gets.eq (by kernel_rfl) h)
theorem wr59_0_step (B : List (List AV)) (n : Int) (v4 : Int) (v11 : Int) (c0_0 : Int) (c0_1 : Int) (c0_2 : List UInt8) (c0_3 : List (List AV)) (c1r0 : List AV) {P : AV → Prop} (h : Gets (bif decide (v11 < (↑(List.length B) : Int)) then bif leInt (0 : Int) v11 && ltInt v11 (↑(List.length B) : Int) then kOpt (List.get?Internal B (Int.toNat v11)) fun (row : List AV) => 
  bif Nat.beq (List.length row) 5 then bif Nat.ble 5 (List.length row) then kCons (List.take 5 row) fun (c : AV) (cs : List AV) => kInt .i64 c fun (n_1 : Int) => kTmC cs fun (n_2 n_3 
  : Int) (s : List UInt8) (rows : List (List AV)) => (bif decide (n_1 ≤ v4) then some (AV.tup [.agg [.int .i64 (0 : Int), .int .i64 (0 : Int), .str [], .sl []], .bool false]) else bif 
  decide (n_1 > (99 : Int)) then some (AV.tup [.agg [.int .i64 (0 : Int), .int .i64 (0 : Int), .str [], .sl []], .bool false]) else kOpt (EVs (EV cfg) 79 [.agg [.int .i64 n_2, .int .i64 
  n_3, .str s, .sl rows]]) fun (v : AV) => kBool v fun (b : Bool) => bif !b then some (AV.tup [.agg [.int .i64 (0 : Int), .int .i64 (0 : Int), .str [], .sl []], .bool false]) else kOpt 
  (EVm (EV cfg) 108 [.ptr 0 0 0, .int .i64 n_1] 402 [c1r0]) fun (q : MV × List (List AV)) => kMUnit q.1 (bif leInt (0 : Int) n_1 && ltInt n_1 (100 : Int) then kOpt (List.get?Internal q.2 
  0) fun (row : List AV) => bif Nat.ble (2 + Int.toNat n_1 * 4 + 4) (List.length row) then wr59_0a B n n_1 n_2 n_3 s rows q row n_1 (IntKind.wrap .i64 (v11 + (1 : Int))) c0_0 c0_1 c0_2 
  c0_3 else none else none)) else none else none else none else bif decide (n < (0 : Int)) then some (AV.tup [.agg [.int .i64 (0 : Int), .int .i64 (0 : Int), .str [], .sl []], .bool false]) 
  else bif decide (n > (99 : Int)) then some (AV.tup [.agg [.int .i64 (0 : Int), .int .i64 (0 : Int), .str [], .sl []], .bool false]) else bif refsLtL 0 c1r0 then bif refsLtL 0 [AV.cptr 
  c1r0 0, .int .i64 n] then kOpt (EVs (EV cfg) 82 [AV.cptr c1r0 0, .int .i64 n]) fun (v : AV) => kBool v fun (b : Bool) => bif !b then some (AV.tup [.agg [.int .i64 (0 : Int), .int .i64 
  (0 : Int), .str [], .sl []], .bool false]) else bif leInt (0 : Int) n && ltInt n (100 : Int) then bif Nat.ble (2 + Int.toNat n * 4 + 4) (List.length c1r0) then kCons (List.take 4 (List.drop 
  (2 + Int.toNat n * 4) c1r0)) fun (c : AV) (cs : List AV) => kInt .i64 c fun (n : Int) => kCons cs fun (c : AV) (cs : List AV) => kInt .i64 c fun (n_1 : Int) => kCons cs fun (c : AV) 
  (cs : List AV) => kStr c fun (s : List UInt8) => kCons cs fun (c : AV) (cs : List AV) => kSl c fun (rows : List (List AV)) => kNil cs (kOpt (EVf (EV cfg) 25 [.agg [.int .i64 n, .int 
  .i64 n_1, .str s, .sl rows]]) fun (v : AV) => kTmV v fun (n n_2 : Int) (s : List UInt8) (rows : List (List AV)) => (some (AV.tup [.agg [.int .i64 n, .int .i64 n_2, .str s, .sl rows], 
  .bool true]))) else none else none else none else none) P) : Gets (wr59_0 B n v4 v11 c0_0 c0_1 c0_2 c0_3 c1r0) P :=
  Gets.ev (fun _ h => loop_step (cfg := cfg) (f := 81) (rd := none) (bs := 1) h) (Gets.eq (by kernel_rfl) h)
end Go.Proofs.YtogebohommickaaGreat
end

section
namespace Go.Proofs.YtogebohommickaaGreat
open Go.Av
set_option maxRecDepth 100000
def findR (o : Option Tm) : AV := match o with | some t => .tup [t.av, .bool true] | none => .tup [zeroT.av, .bool false]
theorem find_end {L : List (Int × Tm)} {n last : Int} {r : List AV} (hm : mayB (-1) L = true) (hr : BRow L r) (hok : ∀ p ∈ L, p.2.Ok) : Gets (wr59_0 (bindsR L) n last L.length 0 0 [] [] r) (· = findR (findG n L)) := by
  have hz : AV.agg [.int .i64 0, .int .i64 0, .str [], .sl []] = zeroT.av := zeroT_av.symm
  unfold findG
  rw [if_pos hm]
  refine wr59_0_step _ _ _ _ _ _ _ _ _ ?_
  rw [bindsR_len, decide_eq_false (show ¬ (L.length : Int) < (L.length : Int) by omega), cond_false, hz]
  by_cases h1 : n < 0
  · have : lookB n L = none := by
      cases hx : lookB n L with
      | none => rfl
      | some t => have := mayB_range hm _ (lookB_mem hx); simp at this; omega
    rw [decide_eq_true h1, this]; exact ⟨_, rfl, rfl⟩
  · rw [decide_eq_false h1, cond_false]
    by_cases h2 : n > 99
    · have : lookB n L = none := by
        cases hx : lookB n L with
        | none => rfl
        | some t => have := mayB_range hm _ (lookB_mem hx); simp at this; omega
      rw [decide_eq_true h2, this]; exact ⟨_, rfl, rfl⟩
    · rw [decide_eq_false h2, cond_false]
      obtain ⟨k, rfl⟩ : ∃ k : Nat, n = k := ⟨n.toNat, by omega⟩
      have hk : k < 100 := by omega
      have hf2 : refsLtL 0 [AV.cptr r 0, .int .i64 (k : Int)] = true := by simp [refsLtL, AV.refsLt, hr.free]
      rw [hr.free, hf2, setHas_ev hr.set hk]
      simp only [cond_true, kOptSome, kBool_bool]
      cases hx : lookB (k : Int) L with
      | none => exact ⟨_, rfl, rfl⟩
      | some t =>
        have hc := hr.cells k hk t hx
        have hcopy := copy_ev (hok _ (lookB_mem hx))
        have hb : Nat.ble (2 + (k : Int).toNat * 4 + 4) r.length = true := by rw [Nat.ble_eq, hr.len]; omega
        have hl2 : ltInt (k : Int) 100 = true := by simp [ltInt]; omega
        rw [leInt_zero, hl2, hb, Int.toNat_natCast, hc, Tm.cells_eq]
        simp only [Option.isSome_some, Bool.not_true, cond_false, cond_true, Bool.and_self, kCons, kInt_int, kStr_str, kSl_sl, kNil, av_unf]
        rw [hcopy]
        simp only [kOptSome, kTmV_av, av_unf]
        exact ⟨_, rfl, rfl⟩
theorem find_loop {L : List (Int × Tm)} {n : Int} (hlen : L.length < 1099511627776) (hw : ∀ p ∈ L, p.2.w < 1099511627776) : ∀ (d i : Nat) (last : Int) (r : List AV), i + d = L.length → -1 ≤ last →
    (mayB (-1) L = mayB last (L.drop i)) → (∀ p ∈ L.take i, p.1 ≤ last) → BRow (L.take i) r → Gets (wr59_0 (bindsR L) n last i 0 0 [] [] r) (· = findR (findG n L)) := by
  have hok : ∀ p ∈ L, p.2.Ok := fun p hp => ok_of_w _ (hw p hp)
  have hz : AV.agg [.int .i64 0, .int .i64 0, .str [], .sl []] = zeroT.av := zeroT_av.symm
  intro d
  induction d with
  | zero =>
    intro i last r hi _ hm _ hr
    obtain rfl : i = L.length := by omega
    rw [List.take_of_length_le (Nat.le_refl _)] at hr
    have hm' : mayB (-1) L = true := by rw [hm, List.drop_eq_nil_of_le (Nat.le_refl _)]; rfl
    exact find_end hm' hr hok
  | succ d ih =>
    intro i last r hi hlast hm hkeys hr
    have hil : i < L.length := by omega
    have hx : L[i]? = some L[i] := List.getElem?_eq_getElem hil
    have hd : L.drop i = L[i] :: L.drop (i + 1) := List.drop_eq_getElem_cons hil
    have ht : L.take (i + 1) = L.take i ++ [L[i]] := by rw [List.take_add_one, hx]; rfl
    have hmem := List.mem_of_getElem? hx
    have hmay := patMay_ev (hw _ hmem)
    rw [hd] at hm
    generalize hp : L[i] = p at *
    obtain ⟨pn, pt⟩ := p
    simp only at hmay
    refine wr59_0_step _ _ _ _ _ _ _ _ _ ?_
    rw [bindsR_len, decide_eq_true (show (i : Int) < (L.length : Int) by omega), leInt_zero, ltInt_nat, decide_eq_true hil, get?Internal_eq, Int.toNat_natCast, bindsR_get, hx, wrap_succ hil hlen]
    simp only [cond_true, Bool.and_self, Option.map_some, kOptSome, List.length_cons, length_cells, Nat.beq_refl, show Nat.ble (4 + 1) (4 + 1) = true from rfl, show Nat.ble 5 (4 + 1) = true from rfl, show Nat.beq (4 + 1) 5 = true from rfl]
    have htk : List.take 5 (AV.int .i64 pn :: pt.cells) = AV.int .i64 pn :: pt.cells := List.take_of_length_le (by simp)
    rw [htk]
    simp only [kCons, kInt_int, kTmC_cells, av_unf]
    rw [hmay]
    have none_of : mayB (-1) L = false → findR (findG n L) = .tup [zeroT.av, .bool false] := fun h => by unfold findG; rw [h]; rfl
    rw [hz]
    by_cases h1 : pn ≤ last
    · rw [decide_eq_true h1]
      refine ⟨_, rfl, (none_of ?_).symm⟩
      rw [hm, mayB, decide_eq_false (by show ¬ last < pn; omega), Bool.false_and]
    · rw [decide_eq_false h1, cond_false]
      by_cases h2 : pn > 99
      · rw [decide_eq_true h2]
        refine ⟨_, rfl, (none_of ?_).symm⟩
        rw [hm, mayB, decide_eq_false (show ¬ (pn, pt).1 ≤ 99 by show ¬ pn ≤ 99; omega), Bool.false_and, Bool.and_false]
      · rw [decide_eq_false h2, cond_false]
        by_cases h3 : pt.chk = 0
        · obtain ⟨k, rfl⟩ : ∃ k : Nat, pn = k := ⟨pn.toNat, by omega⟩
          have hk : k < 100 := by omega
          obtain ⟨r', e1, e2, e3, e4, e5⟩ := setAdd_ev hr.set hk
          have hnew : lookB (k : Int) (L.take i) = none := by
            cases hx : lookB (k : Int) (L.take i) with
            | none => rfl
            | some t => have := hkeys _ (lookB_mem hx); simp at this; omega
          have hadd := hr.add (t := pt) hk hnew e2 e3 e4 e5
          have hb : Nat.ble (2 + (k : Int).toNat * 4 + 4) r'.length = true := by rw [Nat.ble_eq, e4, hr.len]; omega
          have hl2 : ltInt (k : Int) 100 = true := by simp [ltInt]; omega
          have := ih (i + 1) k _ (by omega) (by omega) (by rw [hm, mayB, decide_eq_true (show last < (k : Int) by omega), decide_eq_true (show ((k : Int)) ≤ 99 by omega), decide_eq_true h3]; rfl)
            (fun p hpm => by
              rw [ht] at hpm
              rcases List.mem_append.1 hpm with h | h
              · have := hkeys p h; omega
              · simp at h; subst h; exact Int.le_refl _) (by rw [ht]; exact hadd)
          simp only [kOptSome, kBool_bool, decide_eq_true h3, Bool.not_true, cond_false, e1, kMUnit_unit, leInt_zero, hl2, Bool.and_self, cond_true, get?Internal_eq, List.getElem?_cons_zero, hb]
          rw [Tm.cells_eq] at this
          exact this
        · simp only [kOptSome, kBool_bool, decide_eq_false h3, Bool.not_false, cond_true]
          refine ⟨_, rfl, (none_of ?_).symm⟩
          rw [hm, mayB, decide_eq_false (show ¬ (((pn, pt) : Int × Tm).2).chk = 0 from h3), Bool.false_and, Bool.and_false, Bool.and_false]
theorem zeroRow : BRow [] ([AV.int .u64 0, .int .u64 0] ++ (List.replicate 100 [AV.int .i64 0, .int .i64 0, .str [], .nilS]).flatten) where
  len := by decide +kernel
  set := ⟨0, 0, _, rfl, by omega, by omega, fun n _ => by simp [lookB], fun n _ => by simp [lookB]⟩
  cells := fun i _ t h => by simp [lookB] at h
  free := by decide +kernel
theorem patFind_ev {L : List (Int × Tm)} (hlen : L.length < 1099511627776) (hw : ∀ p ∈ L, p.2.w < 1099511627776) (n : Int) : EVf (EV cfg) 53 [.sl (bindsR L), .int .i64 n] = some (findR (findG n L)) := by
  apply Gets.get
  refine patFind_run _ _ ?_
  have h := find_loop (n := n) hlen hw L.length 0 (-1) _ (by omega) (by omega) rfl (fun p hp => by simp at hp) zeroRow
  refine Gets.eq ?_ h
  kernel_rfl
end Go.Proofs.YtogebohommickaaGreat
end

section
namespace Go.Proofs.YtogebohommickaaGreat
open Go.Av
def mayR (last : Int) (pre : List Int) (L : List (Int × Tm)) (o : Tm) (self : Int) : AV :=
  if mayB last L then .tup [.sl (intsR (pre ++ L.map (·.1))), .bool (decide (o.chk = 0) && selfG self)] else .tup [.sl [], .bool false]
def envR (o : Tm) (L : List (Int × Tm)) (self : Int) : AV := .agg [.int .i64 o.kind, .int .i64 o.num, .str o.str, .sl (rowsT o.subs), .sl (bindsR L), .int .i64 self]
theorem fits8 {n : Nat} (h : n ≤ 1099511627776) : fitsIn n 8 = true := by
  unfold fitsIn
  rw [Bool.and_eq_true, Nat.ble_eq, Nat.ble_eq]
  omega
theorem guardMay_ev {L : List (Int × Tm)} (hlen : L.length < 1099511627776) (hw : ∀ p ∈ L, p.2.w < 1099511627776) {o : Tm} (ho : o.w < 1099511627776) (self : Int) :
    EVf (EV cfg) 22 [envR o L self] = some (mayR (-1) [] L o self) := by
  have hco := check_ev ho
  rw [Tm.av, Tm.cells_eq] at hco
  have loop : ∀ (d i : Nat) (last : Int), i + d = L.length → Gets (ws41_0 (bindsR L) i last i o.kind o.num o.str (rowsT o.subs) (bindsR L) self (intsR ((L.take i).map (·.1)))) (· = mayR last ((L.take i).map (·.1)) (L.drop i) o self) := by
    intro d
    induction d with
    | zero =>
      intro i last hi
      refine ws41_0_step _ _ _ _ _ _ _ _ _ _ _ ?_
      obtain rfl : i = L.length := by omega
      have hb : Nat.ble (0 + L.length) (intsR ((L.take L.length).map (·.1))).length = true := by rw [Nat.ble_eq, intsR_len, List.length_map, List.length_take]; omega
      have ht : List.take L.length (intsR ((L.take L.length).map (·.1))) = intsR ((L.take L.length).map (·.1)) := List.take_of_length_le (by rw [intsR_len, List.length_map, List.length_take]; omega)
      rw [bindsR_len, decide_eq_false (by omega), List.drop_eq_nil_of_le (Nat.le_refl _), hco, self_ev]
      unfold mayR
      simp only [cond_false, kOptSome, kInt_int, kBool_bool, beqI, cond_true, mayB, if_true, List.map_nil, List.append_nil, hb, ht, Bool.and_true]
      by_cases hc : o.chk = 0
      · rw [decide_eq_true hc]; exact ⟨_, rfl, rfl⟩
      · rw [decide_eq_false hc]; exact ⟨_, rfl, rfl⟩
    | succ d ih =>
      intro i last hi
      refine ws41_0_step _ _ _ _ _ _ _ _ _ _ _ ?_
      have hil : i < L.length := by omega
      have hx : L[i]? = some L[i] := List.getElem?_eq_getElem hil
      have hd : L.drop i = L[i] :: L.drop (i + 1) := List.drop_eq_getElem_cons hil
      have hck := check_ev (hw L[i] (List.mem_of_getElem? hx))
      have h := ih (i + 1) L[i].1 (by omega)
      have e1 : (L.take (i + 1)).map (·.1) = (L.take i).map (·.1) ++ [L[i].1] := by
        have ht : L.take (i + 1) = L.take i ++ [L[i]] := by rw [List.take_add_one, hx]; rfl
        rw [ht, List.map_append]; rfl
      have hl0 : (intsR ((L.take i).map (·.1))).length = i := by rw [intsR_len, List.length_map, List.length_take]; omega
      have e2 : List.append (List.take i (intsR ((L.take i).map (·.1)))) [[AV.int .i64 L[i].1]] = intsR ((L.take (i + 1)).map (·.1)) := by
        rw [List.take_of_length_le (by omega), e1]; simp [intsR]
      have e3 : Nat.ble (0 + i) (intsR ((L.take i).map (·.1))).length = true := by rw [hl0, Nat.ble_eq]; omega
      rw [bindsR_len, decide_eq_true (show (i : Int) < (L.length : Int) by omega), leInt_zero, ltInt_nat, decide_eq_true hil, get?Internal_eq, Int.toNat_natCast, bindsR_get, hx, wrap_succ hil hlen, hd]
      simp only [Option.map_some, cond_true, Bool.and_self, kOptSome, List.length_cons, length_cells, show Nat.beq (4 + 1) 5 = true from rfl, show Nat.ble 5 (4 + 1) = true from rfl, List.take_succ_cons, take_cells, kCons, kInt_int, kTmC_cells, av_unf, hck, e2, e3, fits8 (show i + 1 ≤ 1099511627776 by omega)]
      unfold mayR at h ⊢
      rw [mayB]
      by_cases h1 : last < L[i].1
      · rw [decide_eq_false (show ¬ L[i].1 ≤ last by omega), decide_eq_true h1, cond_false, Bool.true_and]
        by_cases h2 : L[i].1 ≤ 99
        · rw [decide_eq_false (show ¬ L[i].1 > 99 by omega), decide_eq_true h2, cond_false, Bool.true_and]
          by_cases h3 : L[i].2.chk = 0
          · have e0 : (L[i].2.chk != 0) = false := by rw [h3]; rfl
            rw [e0, decide_eq_true h3, cond_false, Bool.true_and]
            have e4 : (L.take (i + 1)).map (·.1) ++ (L.drop (i + 1)).map (·.1) = (L.take i).map (·.1) ++ (L[i] :: L.drop (i + 1)).map (·.1) := by rw [e1, List.append_assoc]; rfl
            rw [e4] at h
            exact h
          · have e0 : (L[i].2.chk != 0) = true := by simpa using h3
            rw [e0, decide_eq_false h3]; exact ⟨_, rfl, rfl⟩
        · rw [decide_eq_true (show L[i].1 > 99 by omega), decide_eq_false h2]; exact ⟨_, rfl, rfl⟩
      · rw [decide_eq_true (show L[i].1 ≤ last by omega), decide_eq_false h1]; exact ⟨_, rfl, rfl⟩
  apply Gets.get
  refine guardMay_run _ _ _ _ _ _ ?_
  have h := loop L.length 0 (-1) (by omega)
  exact h
end Go.Proofs.YtogebohommickaaGreat
end
