/-
  Parts of the proof of BoundMeetsUptoSaid, put together: the abstract evaluation and its contracts. Own work.
  What is proved: each lemma as it stands; no condition.
-/
import Derived.Test.YtkgkjngbfdnoiaaGreatZBoundMeetsM3

section
namespace Go.Proofs.YtkgkjngbfdnoiaaGreat
open Go.Av
set_option maxRecDepth 100000
set_option maxHeartbeats 0

noncomputable def Lrd147_0 : Den := evC cfg (EV cfg) 147 none 0 (sub (bodyOf Tryz.f147) [1, 0, 1, 0, 0])
noncomputable def Ard147_0 : Ex × List AV × AH → Option AV := kAft (Cfg.keepOut cfg 147 2) (kRun cfg (EV cfg) (kfN cfg 6) 147 none 0 (kFinS cfg (Cfg.lift cfg 147 0) Tryz.f147.results.toList) ([.block 0, .seq (sub (bodyOf Tryz.f147) [1, 1])]))
noncomputable def Wrd147_0 : List AV × AH → Option AV := fun p => kOpt (LOOP 0 (some [0, 3]) ([]) Lrd147_0 p) Ard147_0
noncomputable def Lrd225_0 : Den := evC cfg (EV cfg) 225 none 0 (sub (bodyOf Tryz.f225) [1, 1, 0, 1, 0, 0])
noncomputable def Ard225_0 : Ex × List AV × AH → Option AV := kAft (Cfg.keepOut cfg 225 4) (kRun cfg (EV cfg) (kfN cfg 6) 225 none 0 (kFinS cfg (Cfg.lift cfg 225 0) Tryz.f225.results.toList) ([.block 0, .seq (sub (bodyOf Tryz.f225) [1, 1, 1])]))
noncomputable def Wrd225_0 : List AV × AH → Option AV := fun p => kOpt (LOOP 0 (some [0, 1, 5]) ([]) Lrd225_0 p) Ard225_0
noncomputable def Lrd65_0 : Den := evC cfg (EV cfg) 65 none 0 (sub (bodyOf Tryz.f65) [1, 1, 1, 0, 1, 0, 0])
noncomputable def Ard65_0 : Ex × List AV × AH → Option AV := kAft (Cfg.keepOut cfg 65 6) (kRun cfg (EV cfg) (kfN cfg 6) 65 none 0 (kFinS cfg (Cfg.lift cfg 65 0) Tryz.f65.results.toList) ([.block 0, .seq (sub (bodyOf Tryz.f65) [1, 1, 1, 1])]))
noncomputable def Wrd65_0 : List AV × AH → Option AV := fun p => kOpt (LOOP 0 (some [2, 3, 5]) ([]) Lrd65_0 p) Ard65_0
noncomputable def Lrd67_0 : Den := evC cfg (EV cfg) 67 none 0 (sub (bodyOf Tryz.f67) [1, 1, 1, 1, 0, 1, 0, 0])
noncomputable def Ard67_0 : Ex × List AV × AH → Option AV := kAft (Cfg.keepOut cfg 67 12) (kRun cfg (EV cfg) (kfN cfg 6) 67 none 0 (kFinS cfg (Cfg.lift cfg 67 0) Tryz.f67.results.toList) ([.block 0, .seq (sub (bodyOf Tryz.f67) [1, 1, 1, 1, 1])]))
noncomputable def Wrd67_0 : List AV × AH → Option AV := fun p => kOpt (LOOP 0 (some [2, 3, 5]) ([]) Lrd67_0 p) Ard67_0
noncomputable def Lrd61_0 : Den := evC cfg (EV cfg) 61 none 0 (sub (bodyOf Tryz.f61) [1, 1, 0, 1, 0, 0])
noncomputable def Ard61_0 : Ex × List AV × AH → Option AV := kAft (Cfg.keepOut cfg 61 3) (kRun cfg (EV cfg) (kfN cfg 6) 61 none 0 (kFinF cfg (Cfg.lift cfg 61 0) Tryz.f61.results.toList) ([.block 0, .seq (sub (bodyOf Tryz.f61) [1, 1, 1])]))
noncomputable def Wrd61_0 : List AV × AH → Option AV := fun p => kOpt (LOOP 0 (some [1, 2, 3, 4]) ([]) Lrd61_0 p) Ard61_0
noncomputable def Lrd58_0 : Den := evC cfg (EV cfg) 58 none 0 (sub (bodyOf Tryz.f58) [1, 1, 0, 1, 0, 0])
noncomputable def Ard58_0 : Ex × List AV × AH → Option AV := kAft (Cfg.keepOut cfg 58 4) (kRun cfg (EV cfg) (kfN cfg 6) 58 none 0 (kFinS cfg (Cfg.lift cfg 58 0) Tryz.f58.results.toList) ([.block 0, .seq (sub (bodyOf Tryz.f58) [1, 1, 1])]))
noncomputable def Wrd58_0 : List AV × AH → Option AV := fun p => kOpt (LOOP 0 (some [2, 3, 5]) ([]) Lrd58_0 p) Ard58_0
noncomputable def Lrd65_1 : Den := evC cfg (EV cfg) 65 none 0 (sub (bodyOf Tryz.f65) [1, 1, 1, 1, 0, 1, 0, 0])
noncomputable def Ard65_1 : Ex × List AV × AH → Option AV := kAft (Cfg.keepOut cfg 65 11) (kRun cfg (EV cfg) (kfN cfg 6) 65 none 0 (kFinS cfg (Cfg.lift cfg 65 0) Tryz.f65.results.toList) ([.block 2, .seq (sub (bodyOf Tryz.f65) [1, 1, 1, 1, 1])]))
noncomputable def Wrd65_1 : List AV × AH → Option AV := fun p => kOpt (LOOP 0 (some [2, 3, 6]) ([]) Lrd65_1 p) Ard65_1
noncomputable abbrev wrd147_0 (L : List (List AV)) (v3 : Int) : Option (AV) := Wrd147_0  (((fx 16 [(0, .sl L), (3, .int .i64 v3)]) : List AV), ([] : AH))
noncomputable abbrev wrd225_0 (L M : List (List AV)) (v5 : Int) : Option (AV) := Wrd225_0  (((fx 27 [(0, .sl L), (1, .sl M), (5, .int .i64 v5)]) : List AV), ([] : AH))
noncomputable abbrev wrd65_0 (v5 : Int) (c0_0 : Bool) (c0_1 c0_2 : List (List AV)) (c1_0 c1_1 : Int) (c1_2 : List UInt8) (c1_3 : List (List AV)) : Option (AV) := Wrd65_0  (((fx 58 [(2, .ptr 0 0 0), (3, .ptr 1 0 0), (5, .int .i64 v5)]) : List AV), ([.rows false 3 [[.bool c0_0, .sl c0_1, .sl c0_2]], .rows false 4 [[.int .i64 c1_0, .int .i64 c1_1, .str c1_2, .sl c1_3]]] : AH))
noncomputable abbrev wrd67_0 (v5 c0_0 : Int) (c0_1 : List (List AV)) (c1_0 c1_1 : Int) (c1_2 : List UInt8) (c1_3 : List (List AV)) : Option (AV) := Wrd67_0  (((fx 63 [(2, .ptr 0 0 0), (3, .ptr 1 0 0), (5, .int .i64 v5)]) : List AV), ([.rows false 2 [[.int .i64 c0_0, .sl c0_1]], .rows false 4 [[.int .i64 c1_0, .int .i64 c1_1, .str c1_2, .sl c1_3]]] : AH))
noncomputable abbrev wrd61_0 (v4 : Int) (c0_0 : Bool) (c0_1 c0_2 : List (List AV)) (c1_0 c2_0 : Bool) : Option (AV) := Wrd61_0  (((fx 38 [(1, .ptr 0 0 0), (2, .ptr 1 0 0), (3, .ptr 2 0 0), (4, .int .i64 v4)]) : List AV), ([.rows false 3 [[.bool c0_0, .sl c0_1, .sl c0_2]], .rows false 3 [[.bool c1_0, .nilS, .nilS]], .rows false 3 [[.bool c2_0, .nilS, .nilS]]] : AH))
noncomputable abbrev wrd61_0a (v4 : Int) (c0_0 : Bool) (c0_1 c0_2 : List (List AV)) (c1_0 c2_0 : Bool) (c2_1 : List (List AV)) : Option (AV) := Wrd61_0  (((fx 38 [(1, .ptr 0 0 0), (2, .ptr 1 0 0), (3, .ptr 2 0 0), (4, .int .i64 v4)]) : List AV), ([.rows false 3 [[.bool c0_0, .sl c0_1, .sl c0_2]], .rows false 3 [[.bool c1_0, .nilS, .nilS]], .rows false 3 [[.bool c2_0, .sl c2_1, .nilS]]] : AH))
noncomputable abbrev wrd58_0 (v5 : Int) (c0_0 : Bool) (c0_1 c0_2 : List (List AV)) (c1_0 : Bool) (c1_1 c1_2 : List (List AV)) : Option (AV) := Wrd58_0  (((fx 64 [(2, .ptr 0 0 0), (3, .ptr 1 0 0), (5, .int .i64 v5)]) : List AV), ([.rows false 3 [[.bool c0_0, .sl c0_1, .sl c0_2]], .rows false 3 [[.bool c1_0, .sl c1_1, .sl c1_2]]] : AH))
noncomputable abbrev wrd65_1 (v6 : Int) (c0_0 : Bool) (c0_1 c0_2 : List (List AV)) (c1_0 c1_1 : Int) (c1_2 : List UInt8) (c1_3 : List (List AV)) : Option (AV) := Wrd65_1  (((fx 58 [(2, .ptr 0 0 0), (3, .ptr 1 0 0), (6, .int .i64 v6)]) : List AV), ([.rows false 3 [[.bool c0_0, .sl c0_1, .sl c0_2]], .rows false 4 [[.int .i64 c1_0, .int .i64 c1_1, .str c1_2, .sl c1_3]]] : AH))
noncomputable abbrev wrd61_0c (v4 : Int) (c0_0 : Bool) (c0_1 c0_2 : List (List AV)) (c1_0 c2_0 : Bool) (c2_1 : List (List AV)) (nc2_2 : Nat) (h3 : List (List AV)) : Option (AV) := Wrd61_0  (((fx 38 [(1, .ptr 0 0 0), (2, .ptr 1 0 0), (3, .ptr 2 0 0), (4, .int .i64 v4)]) : List AV), ([.rows false 3 [[.bool c0_0, .sl c0_1, .sl c0_2]], .rows false 3 [[.bool c1_0, .nilS, .nilS]], .rows false 3 [[.bool c2_0, .sl c2_1, .ms 3 0 nc2_2]], .rows true 2 h3] : AH))
theorem r21May_run (L : List (List AV)) {P : AV → Prop} (h : Gets (wrd147_0 L 0) P) : Gets (EVs (EV cfg) 147 ([AV.sl L] : List AV)) P :=
  Gets.ev (fun _ h => funS rfl rfl Tryz.func147 rfl h) (Gets.eq (by kernel_rfl) h)
theorem r21Begins_run (L M : List (List AV)) {P : AV → Prop} (h : Gets (bif decide ((L.length : Int) < (M.length : Int)) then some (.bool false) else wrd225_0 L M 0) P) : Gets (EVs (EV cfg) 225 ([AV.sl L, AV.sl M] : List AV)) P :=
  Gets.ev (fun _ h => funS rfl rfl Tryz.func225 rfl h) (Gets.eq (by kernel_rfl) h)
theorem r21Within_run (ar : Int) (fs : List (List AV)) (kt nt : Int) (st : List UInt8) (lt : List (List AV)) {P : AV → Prop} (h : Gets (bif kt == 7 then bif (lt.length : Int) == ar then kOpt (EVs (EV cfg) 225 [.sl lt, .sl fs]) fun v => kBool v fun b => some (.bool b) else some (.bool false) else some (.bool false)) P) : Gets (EVs (EV cfg) 148 ([AV.agg [AV.int IntKind.i64 ar, AV.sl fs], AV.agg [AV.int IntKind.i64 kt, AV.int IntKind.i64 nt, AV.str st, AV.sl lt]] : List AV)) P :=
  Gets.ev (fun _ h => funS rfl rfl Tryz.func148 rfl h) (Gets.eq (by kernel_rfl) h)
theorem r21Meets_run (al : Bool) (ks rs : List (List AV)) (kt nt : Int) (st : List UInt8) (lt : List (List AV)) {P : AV → Prop} (h : Gets (kOpt (EVs (EV cfg) 95 [.agg [AV.int .i64 kt, .int .i64 nt, .str st, .sl lt]]) fun v => kInt .i64 v fun n => bif n != 0 then some (.bool false) else bif al then some (.bool true) else wrd65_0 0 al ks rs kt nt st lt) P) : Gets (EVs (EV cfg) 65 ([AV.agg [AV.bool al, AV.sl ks, AV.sl rs], AV.agg [AV.int IntKind.i64 kt, AV.int IntKind.i64 nt, AV.str st, AV.sl lt]] : List AV)) P :=
  Gets.ev (fun _ h => funS rfl rfl Tryz.func65 rfl h) (Gets.eq (by kernel_rfl) h)
theorem r21Side_run (ar : Int) (fs : List (List AV)) (kt nt : Int) (st : List UInt8) (lt : List (List AV)) {P : AV → Prop} (h : Gets (kOpt (EVs (EV cfg) 95 [.agg [AV.int .i64 kt, .int .i64 nt, .str st, .sl lt]]) fun v => kInt .i64 v fun n => bif n != 0 then some (.int .i64 0) else kOpt (EVs (EV cfg) 147 [.sl fs]) fun v => kBool v fun b => bif ! b then some (.int .i64 0) else bif decide (ar < (fs.length : Int)) then some (.int .i64 (0 : Int)) else bif kt != 7 then bif decide (kt < 7) then some (.int .i64 (- 1)) else some (.int .i64 1) else bif (lt.length : Int) != ar then bif decide ((lt.length : Int) < ar) then some (.int .i64 (- 1)) else some (.int .i64 1) else wrd67_0 0 ar fs kt nt st lt) P) : Gets (EVs (EV cfg) 67 ([AV.agg [AV.int IntKind.i64 ar, AV.sl fs], AV.agg [AV.int IntKind.i64 kt, AV.int IntKind.i64 nt, AV.str st, AV.sl lt]] : List AV)) P :=
  Gets.ev (fun _ h => funS rfl rfl Tryz.func67 rfl h) (Gets.eq (by kernel_rfl) h)
theorem r21One_run (al : Bool) (ks rs : List (List AV)) {P : AV → Prop} (h : Gets (bif al then some (AV.tup [.agg [AV.int .i64 0, .int .i64 0, .str [], .sl []], .bool false]) else bif decide ((rs.length : Int) > 0) then some (AV.tup [.agg [AV.int .i64 0, .int .i64 0, .str [], .sl []], .bool false]) else bif (ks.length : Int) != 1 then some (AV.tup [.agg [AV.int .i64 0, .int .i64 (0 : Int), .str [], .sl []], .bool false]) else bif ltInt 0 (ks.length : Int) then kOpt (List.get?Internal ks 0) fun row => bif Nat.beq (List.length row) 4 then bif Nat.ble 4 (List.length row) then kTmC (List.take 4 row) fun n n_1 s rows => (kOpt (EVf (EV cfg) 76 [.agg [AV.int .i64 n, .int .i64 n_1, .str s, .sl rows]]) fun v => kTmV v fun n n_2 s rows => (some (AV.tup [.agg [AV.int .i64 n, .int .i64 n_2, .str s, .sl rows], .bool true]))) else none else none else none) P) : Gets (EVf (EV cfg) 63 ([AV.agg [AV.bool al, AV.sl ks, AV.sl rs]] : List AV)) P :=
  Gets.ev (fun _ h => funF rfl rfl Tryz.func63 rfl h) (Gets.eq (by kernel_rfl) h)
theorem own21_run (al : Bool) (ks rs : List (List AV)) {P : AV → Prop} (h : Gets (kOpt (EVo (EV cfg) 23 [.sl ks]) fun o => kOwn o (wrd61_0 0 al ks rs false al) fun sz rs_1 off len => bif Nat.ble (off + len) (List.length rs_1) && true then wrd61_0a 0 al ks rs false al (List.take len (List.drop off rs_1)) else none) P) : Gets (EVf (EV cfg) 61 ([AV.agg [AV.bool al, AV.sl ks, AV.sl rs]] : List AV)) P :=
  Gets.ev (fun _ h => funF rfl rfl Tryz.func61 rfl h) (Gets.eq (by kernel_rfl) h)
theorem same21_run (al : Bool) (ks rs : List (List AV)) (al2 : Bool) (ks2 rs2 : List (List AV)) {P : AV → Prop} (h : Gets (bif ! al == al2 then some (.bool false) else kOpt (EVs (EV cfg) 26 [.sl ks, .sl ks2]) fun v => kBool v fun b => bif ! b then some (.bool false) else bif (↑ (List.length rs) : Int) != (rs2.length : Int) then some (.bool false) else wrd58_0 0 al ks rs al2 ks2 rs2) P) : Gets (EVs (EV cfg) 58 ([AV.agg [AV.bool al, AV.sl ks, AV.sl rs], AV.agg [AV.bool al2, AV.sl ks2, AV.sl rs2]] : List AV)) P :=
  Gets.ev (fun _ h => funS rfl rfl Tryz.func58 rfl h) (Gets.eq (by kernel_rfl) h)
theorem wrd147_0_step (L : List (List AV)) (v3 : Int) {P : AV → Prop} (h : Gets (bif decide (v3 < (L.length : Int)) then bif leInt 0 v3 && ltInt v3 (L.length : Int) then kOpt (List.get?Internal L (v3.toNat)) fun row => bif Nat.beq (List.length row) 4 then bif Nat.ble 4 (List.length row) then kTmC (List.take 4 row) fun n n_1 s rows => (kOpt (EVs (EV cfg) 95 [.agg [AV.int .i64 n, .int .i64 n_1, .str s, .sl rows]]) fun v => kInt .i64 v fun n => bif n != 0 then some (.bool false) else wrd147_0 L (IntKind.wrap .i64 (v3 + (1 : Int)))) else none else none else none else some (.bool true)) P) : Gets (wrd147_0 L v3) P :=
  Gets.ev (fun _ h => loop_step (cfg := cfg) (f := 147) (rd := none) (bs := 0) h) (Gets.eq (by kernel_rfl) h)
theorem wrd225_0_step (L M : List (List AV)) (v5 : Int) {P : AV → Prop} (h : Gets (bif decide (v5 < (M.length : Int)) then bif leInt 0 v5 && ltInt v5 (L.length : Int) then kOpt (List.get?Internal L (v5.toNat)) fun row => bif Nat.beq (List.length row) 4 then bif Nat.ble 4 (List.length row) then kTmC (List.take 4 row) fun n n_1 s rows => (bif leInt 0 v5 && ltInt v5 (M.length : Int) then kOpt (List.get?Internal M (v5.toNat)) fun row => bif Nat.beq (List.length row) 4 then bif Nat.ble 4 (List.length row) then kTmC (List.take 4 row) fun n_2 n_3 s_1 rows_1 => (kOpt (EVs (EV cfg) 146 [.agg [AV.int .i64 n, .int .i64 n_1, .str s, .sl rows], .agg [AV.int .i64 n_2, .int .i64 n_3, .str s_1, .sl rows_1]]) fun v => kBool v fun b => bif ! b then some (.bool false) else wrd225_0 L M (IntKind.wrap .i64 (v5 + 1))) else none else none else none) else none else none else none else some (.bool true)) P) : Gets (wrd225_0 L M v5) P :=
  Gets.ev (fun _ h => loop_step (cfg := cfg) (f := 225) (rd := none) (bs := 0) h) (Gets.eq (by kernel_rfl) h)
theorem wrd65_0_step (v5 : Int) (c0_0 : Bool) (c0_1 c0_2 : List (List AV)) (c1_0 c1_1 : Int) (c1_2 : List UInt8) (c1_3 : List (List AV)) {P : AV → Prop} (h : Gets (bif decide (v5 < (c0_1.length : Int)) then bif leInt 0 v5 && ltInt v5 (c0_1.length : Int) then kOpt (List.get?Internal c0_1 (v5.toNat)) fun row => bif Nat.beq (List.length row) 4 then bif Nat.ble 4 (List.length row) then kTmC (List.take 4 row) fun n n_1 s rows => (kOpt (EVs (EV cfg) 95 [.agg [AV.int .i64 n, .int .i64 n_1, .str s, .sl rows]]) fun v => kInt .i64 v fun n => bif n == 0 then bif leInt 0 v5 && ltInt v5 (↑ (List.length c0_1) : Int) then kOpt (List.get?Internal c0_1 (v5.toNat)) fun row => bif Nat.beq (List.length row) 4 then bif Nat.ble 4 (List.length row) then kTmC (List.take 4 row) fun n n_2 s rows => (kOpt (EVs (EV cfg) 146 [.agg [AV.int .i64 n, .int .i64 n_2, .str s, .sl rows], .agg [AV.int .i64 c1_0, .int .i64 c1_1, .str c1_2, .sl c1_3]]) fun v => kBool v fun b => bif b then some (.bool true) else wrd65_0 (IntKind.wrap .i64 (v5 + 1)) c0_0 c0_1 c0_2 c1_0 c1_1 c1_2 c1_3) else none else none else none else wrd65_0 (IntKind.wrap .i64 (v5 + 1)) c0_0 c0_1 c0_2 c1_0 c1_1 c1_2 c1_3) else none else none else none else wrd65_1 0 c0_0 c0_1 c0_2 c1_0 c1_1 c1_2 c1_3) P) : Gets (wrd65_0 v5 c0_0 c0_1 c0_2 c1_0 c1_1 c1_2 c1_3) P :=
  Gets.ev (fun _ h => loop_step (cfg := cfg) (f := 65) (rd := none) (bs := 0) h) (Gets.eq (by kernel_rfl) h)
theorem wrd67_0_step (v5 c0_0 : Int) (c0_1 : List (List AV)) (c1_0 c1_1 : Int) (c1_2 : List UInt8) (c1_3 : List (List AV)) {P : AV → Prop} (h : Gets (bif decide (v5 < (c0_1.length : Int)) then bif leInt 0 v5 && ltInt v5 (c1_3.length : Int) then kOpt (List.get?Internal c1_3 (v5.toNat)) fun row => bif Nat.beq (List.length row) 4 then bif Nat.ble 4 (List.length row) then kTmC (List.take 4 row) fun n n_1 s rows => (bif leInt 0 v5 && ltInt v5 (c0_1.length : Int) then kOpt (List.get?Internal c0_1 (v5.toNat)) fun row => bif Nat.beq (List.length row) 4 then bif Nat.ble 4 (List.length row) then kTmC (List.take 4 row) fun n_2 n_3 s_1 rows_1 => (kOpt (EVs (EV cfg) 151 [.agg [AV.int .i64 n, .int .i64 n_1, .str s, .sl rows], .agg [AV.int .i64 n_2, .int .i64 n_3, .str s_1, .sl rows_1]]) fun v => kInt .i64 v fun n => bif n != 0 then some (.int .i64 n) else wrd67_0 (IntKind.wrap .i64 (v5 + 1)) c0_0 c0_1 c1_0 c1_1 c1_2 c1_3) else none else none else none) else none else none else none else some (.int .i64 0)) P) : Gets (wrd67_0 v5 c0_0 c0_1 c1_0 c1_1 c1_2 c1_3) P :=
  Gets.ev (fun _ h => loop_step (cfg := cfg) (f := 67) (rd := none) (bs := 0) h) (Gets.eq (by kernel_rfl) h)
theorem wrd61_0a_step (v4 : Int) (c0_0 : Bool) (c0_1 c0_2 : List (List AV)) (c1_0 c2_0 : Bool) (c2_1 : List (List AV)) {P : AV → Prop} (h : Gets (bif decide (v4 < (c0_2.length : Int)) then bif leInt 0 v4 && ltInt v4 (c0_2.length : Int) then kOpt (List.get?Internal c0_2 (v4.toNat)) fun row => bif Nat.beq (List.length row) 2 then kOpt (List.get?Internal row 0) fun v => kInt .i64 v fun n => bif leInt 0 v4 && ltInt v4 (c0_2.length : Int) then kOpt (List.get?Internal c0_2 (v4.toNat)) fun row => bif Nat.beq (List.length row) 2 then kOpt (List.get?Internal row 1) fun v => kSl v fun rows => kOpt (EVo (EV cfg) 23 [.sl rows]) fun o => kOwn o (bif fitsIn 1 32 then wrd61_0c (IntKind.wrap .i64 (v4 + 1)) c0_0 c0_1 c0_2 c1_0 c2_0 c2_1 1 [[AV.int .i64 n, .sl []]] else none) fun sz rs off len => bif Nat.ble (off + len) (List.length rs) && true then bif fitsIn 1 32 then wrd61_0c (IntKind.wrap .i64 (v4 + 1)) c0_0 c0_1 c0_2 c1_0 c2_0 c2_1 1 [[AV.int .i64 n, .sl (List.take len (List.drop off rs))]] else none else none else none else none else none else none else some (.agg [.bool c2_0, .sl c2_1, .sl []])) P) : Gets (wrd61_0a v4 c0_0 c0_1 c0_2 c1_0 c2_0 c2_1) P :=
  Gets.ev (fun _ h => loop_step (cfg := cfg) (f := 61) (rd := none) (bs := 0) h) (Gets.eq (by kernel_rfl) h)
theorem wrd58_0_step (v5 : Int) (c0_0 : Bool) (c0_1 c0_2 : List (List AV)) (c1_0 : Bool) (c1_1 c1_2 : List (List AV)) {P : AV → Prop} (h : Gets (bif decide (v5 < (c0_2.length : Int)) then bif leInt 0 v5 && ltInt v5 (c0_2.length : Int) then kOpt (List.get?Internal c0_2 (v5.toNat)) fun row => bif Nat.beq (List.length row) 2 then kOpt (List.get?Internal row 0) fun v => kInt .i64 v fun n => bif leInt 0 v5 && ltInt v5 (c1_2.length : Int) then kOpt (List.get?Internal c1_2 (v5.toNat)) fun row => bif Nat.beq (List.length row) 2 then kOpt (List.get?Internal row 0) fun v => kInt .i64 v fun n_1 => bif n != n_1 then some (.bool false) else bif leInt 0 v5 && ltInt v5 (c0_2.length : Int) then kOpt (List.get?Internal c0_2 (v5.toNat)) fun row => bif Nat.beq (List.length row) 2 then kOpt (List.get?Internal row 1) fun v => kSl v fun rows => bif leInt 0 v5 && ltInt v5 (c1_2.length : Int) then kOpt (List.get?Internal c1_2 (v5.toNat)) fun row => bif Nat.beq (List.length row) 2 then kOpt (List.get?Internal row 1) fun v => kSl v fun rows_1 => kOpt (EVs (EV cfg) 26 [.sl rows, .sl rows_1]) fun v => kBool v fun b => bif ! b then some (.bool false) else wrd58_0 (IntKind.wrap .i64 (v5 + 1)) c0_0 c0_1 c0_2 c1_0 c1_1 c1_2 else none else none else none else none else none else none else none else none else some (.bool true)) P) : Gets (wrd58_0 v5 c0_0 c0_1 c0_2 c1_0 c1_1 c1_2) P :=
  Gets.ev (fun _ h => loop_step (cfg := cfg) (f := 58) (rd := none) (bs := 0) h) (Gets.eq (by kernel_rfl) h)
theorem wrd65_1_step (v6 : Int) (c0_0 : Bool) (c0_1 c0_2 : List (List AV)) (c1_0 c1_1 : Int) (c1_2 : List UInt8) (c1_3 : List (List AV)) {P : AV → Prop} (h : Gets (bif decide (v6 < (c0_2.length : Int)) then bif leInt 0 v6 && ltInt v6 (c0_2.length : Int) then kOpt (List.get?Internal c0_2 (v6.toNat)) fun row => bif Nat.beq (List.length row) 2 then kOpt (List.get?Internal row 1) fun v => kSl v fun rows => kOpt (EVs (EV cfg) 147 [.sl rows]) fun v => kBool v fun b => bif b then bif leInt 0 v6 && ltInt v6 (c0_2.length : Int) then kOpt (List.get?Internal c0_2 (v6.toNat)) fun row => bif Nat.beq (List.length row) 2 then bif Nat.ble 2 (List.length row) then kCons (List.take 2 row) fun c cs => kInt .i64 c fun n => kCons cs fun c cs => kSl c fun rows => kNil cs (kOpt (EVs (EV cfg) 148 [.agg [AV.int .i64 n, .sl rows], .agg [AV.int .i64 c1_0, .int .i64 c1_1, .str c1_2, .sl c1_3]]) fun v => kBool v fun b => bif b then some (.bool true) else wrd65_1 (IntKind.wrap .i64 (v6 + 1)) c0_0 c0_1 c0_2 c1_0 c1_1 c1_2 c1_3) else none else none else none else wrd65_1 (IntKind.wrap .i64 (v6 + 1)) c0_0 c0_1 c0_2 c1_0 c1_1 c1_2 c1_3 else none else none else some (.bool false)) P) : Gets (wrd65_1 v6 c0_0 c0_1 c0_2 c1_0 c1_1 c1_2 c1_3) P :=
  Gets.ev (fun _ h => loop_step (cfg := cfg) (f := 65) (rd := none) (bs := 0) h) (Gets.eq (by kernel_rfl) h)
theorem wrd61_0c_step (v4 : Int) (c0_0 : Bool) (c0_1 c0_2 : List (List AV)) (c1_0 c2_0 : Bool) (c2_1 : List (List AV)) (nc2_2 : Nat) (h3 : List (List AV)) {P : AV → Prop} (h : Gets (bif decide (v4 < (c0_2.length : Int)) then bif leInt 0 v4 && ltInt v4 (c0_2.length : Int) then kOpt (List.get?Internal c0_2 (v4.toNat)) fun row => bif Nat.beq (List.length row) 2 then kOpt (List.get?Internal row 0) fun v => kInt .i64 v fun n => bif leInt 0 v4 && ltInt v4 (c0_2.length : Int) then kOpt (List.get?Internal c0_2 (v4.toNat)) fun row => bif Nat.beq (List.length row) 2 then kOpt (List.get?Internal row 1) fun v => kSl v fun rows => kOpt (EVo (EV cfg) 23 [.sl rows]) fun o => kOwn o (bif Nat.ble (0 + nc2_2) (List.length h3) && fitsIn (nc2_2 + 1) 32 then wrd61_0c (IntKind.wrap .i64 (v4 + 1)) c0_0 c0_1 c0_2 c1_0 c2_0 c2_1 (nc2_2 + 1) (List.append (List.take nc2_2 h3) [[AV.int .i64 n, .sl []]]) else none) fun sz rs off len => bif Nat.ble (off + len) (List.length rs) && true then bif Nat.ble (0 + nc2_2) (List.length h3) && fitsIn (nc2_2 + 1) 32 then wrd61_0c (IntKind.wrap .i64 (v4 + 1)) c0_0 c0_1 c0_2 c1_0 c2_0 c2_1 (nc2_2 + 1) (List.append (List.take nc2_2 h3) [[AV.int .i64 n, .sl (List.take len (List.drop off rs))]]) else none else none else none else none else none else none else bif Nat.ble (0 + nc2_2) (List.length h3) && true then some (.agg [.bool c2_0, .sl c2_1, .sl (List.take nc2_2 h3)]) else none) P) : Gets (wrd61_0c v4 c0_0 c0_1 c0_2 c1_0 c2_0 c2_1 nc2_2 h3) P :=
  Gets.ev (fun _ h => loop_step (cfg := cfg) (f := 61) (rd := none) (bs := 0) h) (Gets.eq (by kernel_rfl) h)
end Go.Proofs.YtkgkjngbfdnoiaaGreat
end

section
namespace Go.Av
@[simp] theorem Tm.kind_mk (k n : Int) (s : List UInt8) (l : List Tm) : (Tm.mk k n s l).kind = k := rfl
@[simp] theorem Tm.num_mk (k n : Int) (s : List UInt8) (l : List Tm) : (Tm.mk k n s l).num = n := rfl
@[simp] theorem Tm.str_mk (k n : Int) (s : List UInt8) (l : List Tm) : (Tm.mk k n s l).str = s := rfl
@[simp] theorem Tm.subs_mk (k n : Int) (s : List UInt8) (l : List Tm) : (Tm.mk k n s l).subs = l := rfl
@[simp] theorem Tm.eta (t : Tm) : Tm.mk t.kind t.num t.str t.subs = t := by cases t; rfl
theorem Tm.cells_eq (t : Tm) : t.cells = [.int .i64 t.kind, .int .i64 t.num, .str t.str, .sl (rowsT t.subs)] := by cases t; rw [Tm.cells_mk]; rfl
@[simp] theorem cells_fold (k n : Int) (s : List UInt8) (l : List Tm) : [AV.int .i64 k, AV.int .i64 n, AV.str s, AV.sl (rowsT l)] = (Tm.mk k n s l).cells := (Tm.cells_mk k n s l).symm
@[simp] theorem cells_fold0 (k n : Int) (s : List UInt8) : [AV.int .i64 k, AV.int .i64 n, AV.str s, AV.sl []] = (Tm.mk k n s []).cells := by rw [Tm.cells_mk, rowsT_nil]
@[simp] theorem agg_cells (t : Tm) : AV.agg t.cells = t.av := rfl
@[simp] theorem rowsT_one (t : Tm) : [t.cells] = rowsT [t] := by rw [rowsT_cons, rowsT_nil]
@[simp] theorem rowsT_cons' (t : Tm) (l : List Tm) : t.cells :: rowsT l = rowsT (t :: l) := (rowsT_cons t l).symm
@[simp] theorem rowsT_append' (a b : List Tm) : rowsT a ++ rowsT b = rowsT (a ++ b) := (rowsT_append a b).symm
@[simp] theorem rowsT_app (a b : List Tm) : List.append (rowsT a) (rowsT b) = rowsT (a ++ b) := (rowsT_append a b).symm
@[simp] theorem rowsT_take' (n : Nat) (a : List Tm) : (rowsT a).take n = rowsT (a.take n) := rowsT_take n a
@[simp] theorem rowsT_drop' (n : Nat) (a : List Tm) : (rowsT a).drop n = rowsT (a.drop n) := rowsT_drop n a
@[simp] theorem rowsT_set' (l : List Tm) (i : Nat) (t : Tm) : (rowsT l).set i t.cells = rowsT (l.set i t) := rowsT_set l i t
@[simp] theorem rowsT_get' (l : List Tm) (i : Nat) : (rowsT l)[i]? = (l[i]?).map Tm.cells := rowsT_get l i
@[simp] theorem rowsT_getElem (l : List Tm) (i : Nat) (h : i < (rowsT l).length) : (rowsT l)[i] = (l[i]'(by simpa using h)).cells := by
 have h1 := rowsT_get l i
 rw [List.getElem?_eq_getElem h, List.getElem?_eq_getElem (by simpa using h)] at h1
 exact Option.some.inj h1
@[simp] theorem kOpt_map {α β γ : Type} (o : Option β) (g : β → γ) (k : γ → Option α) : kOpt (o.map g) k = kOpt o fun x => k (g x) := by cases o <;> rfl
@[simp] theorem length_cells (t : Tm) : t.cells.length = 4 := by rw [Tm.cells_eq]; rfl
@[simp] theorem take_cells (t : Tm) : t.cells.take 4 = t.cells := by rw [Tm.cells_eq]; rfl
@[simp] theorem drop_cells (t : Tm) : t.cells.drop 4 = [] := by rw [Tm.cells_eq]; rfl
@[simp] theorem cells_0 (t : Tm) : t.cells[0]? = some (.int .i64 t.kind) := by rw [Tm.cells_eq]; rfl
@[simp] theorem cells_1 (t : Tm) : t.cells[1]? = some (.int .i64 t.num) := by rw [Tm.cells_eq]; rfl
@[simp] theorem cells_2 (t : Tm) : t.cells[2]? = some (.str t.str) := by rw [Tm.cells_eq]; rfl
@[simp] theorem cells_3 (t : Tm) : t.cells[3]? = some (.sl (rowsT t.subs)) := by rw [Tm.cells_eq]; rfl
@[simp] theorem refs_cells (n : Nat) (t : Tm) : refsLtL n t.cells = true := by rw [Tm.cells_eq]; rfl
@[simp] theorem allCells_cells (t : Tm) : allCells t.cells = true := by rw [Tm.cells_eq]; rfl
@[simp] theorem rowsT_free' (l : List Tm) : refsLtR 0 (rowsT l) = true := rowsT_free l
@[simp] theorem rowsOk_rowsT (l : List Tm) : rowsOk 4 (rowsT l) = true := by
 cases l with
 | nil => rw [rowsT_nil]; rfl
 | cons t l => rw [rowsT_cons, rowsOk, length_cells]; rfl
@[simp] theorem kTmC_cells {α : Type} (t : Tm) (k : Int → Int → List UInt8 → List (List AV) → Option α) : kTmC t.cells k = k t.kind t.num t.str (rowsT t.subs) := by rw [Tm.cells_eq]; rfl
@[simp] theorem kTmV_av {α : Type} (t : Tm) (k : Int → Int → List UInt8 → List (List AV) → Option α) : kTmV t.av k = k t.kind t.num t.str (rowsT t.subs) := by rw [Tm.av, Tm.cells_eq]; rfl

theorem wrap_s {i n : Nat} (h : i < n) (hn : n < 1099511627776) : IntKind.wrap .i64 ((i : Int) + 1) = (i : Int) + 1 := wrap64 (by omega) (by omega)
@[simp] theorem cast_nn (q : Nat) : (0 ≤ (q : Int) + 1) = True := eq_true (by omega)
@[simp] theorem cast_le1 (q n : Nat) : ((q : Int) + 1 ≤ (n : Int)) = (q + 1 ≤ n) := propext (by omega)
@[simp] theorem cast_lt1 (q n : Nat) : ((q : Int) + 1 < (n : Int)) = (q + 1 < n) := propext (by omega)
@[simp] theorem cast_nn' (q : Nat) : (0 < (q : Int) + 1) = True := eq_true (by omega)
@[simp] theorem cast_ne0 (q : Nat) : ((q : Int) + 1 == 0) = false := by rw [beqD]; exact decide_eq_false (by omega)
@[simp] theorem cast_lt_s (q : Nat) : ((q : Int) < (q : Int) + 1) = True := eq_true (by omega)
@[simp] theorem cast_le_s (q : Nat) : ((q : Int) ≤ (q : Int) + 1) = True := eq_true (by omega)
theorem wrapN {n : Nat} (hn : n < 4398046511104) : IntKind.wrap .i64 (n : Int) = n := wrap64 (by omega) (by omega)
end Go.Av
end

section
namespace Go.Av

def numC (a b : Int) : Int := if a < b then -1 else if b < a then 1 else 0
def strC (a b : List UInt8) : Int := if a = b then 0 else if Op.bytesLess a b then -1 else 1

mutual
def cmpT : Tm → Tm → Int
 | .mk k n s l, b =>
  if numC k b.kind ≠ 0 then numC k b.kind
  else if k = 1 ∨ k = 3 ∨ k = 4 ∨ k = 6 then numC n b.num
  else if k = 2 then strC s b.str
  else if k = 5 then (if numC n b.num ≠ 0 then numC n b.num else if numC l.length b.subs.length ≠ 0 then numC l.length b.subs.length else cmpE l b.subs)
  else if k = 7 ∨ k = 9 then (if numC l.length b.subs.length ≠ 0 then numC l.length b.subs.length else cmpE l b.subs)
  else 0
def cmpE : List Tm → List Tm → Int
 | [], [] => 0
 | [], _ :: _ => -1
 | _ :: _, [] => 1
 | a :: l, b :: l' => if cmpT a b ≠ 0 then cmpT a b else cmpE l l'
end

def cmpL (l l' : List Tm) : Int := if numC l.length l'.length ≠ 0 then numC l.length l'.length else cmpE l l'

theorem numC_zero {a b : Int} : numC a b = 0 ↔ a = b := by unfold numC; split <;> (try split) <;> omega
theorem numC_self (a : Int) : numC a a = 0 := numC_zero.2 rfl

theorem cmpT_eq (k n : Int) (s : List UInt8) (l : List Tm) (k' n' : Int) (s' : List UInt8) (l' : List Tm) : cmpT (.mk k n s l) (.mk k' n' s' l') =
  if numC k k' ≠ 0 then numC k k' else if k = 1 ∨ k = 3 ∨ k = 4 ∨ k = 6 then numC n n' else if k = 2 then strC s s'
  else if k = 5 then (if numC n n' ≠ 0 then numC n n' else cmpL l l') else if k = 7 ∨ k = 9 then cmpL l l' else 0 := by
 rw [cmpT]; rfl
theorem cmpE_cons (a b : Tm) (l l' : List Tm) : cmpE (a :: l) (b :: l') = if cmpT a b ≠ 0 then cmpT a b else cmpE l l' := by rw [cmpE]
theorem cmpE_nil : cmpE [] [] = 0 := by rw [cmpE]
theorem cmpE_nil_cons (b : Tm) (l' : List Tm) : cmpE [] (b :: l') = -1 := by rw [cmpE]
theorem cmpE_cons_nil (a : Tm) (l : List Tm) : cmpE (a :: l) [] = 1 := by rw [cmpE]

theorem bytesLess_irrefl : ∀ a : List UInt8, Op.bytesLess a a = false
 | [] => rfl
 | a :: l => by rw [Op.bytesLess, bytesLess_irrefl l]; simp
end Go.Av
end

section
namespace Go.Av

def C3 (p q r : Int) : Prop := (p ≤ 0 → q ≤ 0 → r ≤ 0) ∧ (p < 0 → q ≤ 0 → r < 0) ∧ (p ≤ 0 → q < 0 → r < 0) ∧ (0 ≤ p → 0 ≤ q → 0 ≤ r) ∧ (0 < p → 0 ≤ q → 0 < r) ∧ (0 ≤ p → 0 < q → 0 < r)

def lexI (a b : Int) : Int := if a ≠ 0 then a else b

theorem lexI_ne {a b : Int} (h : a ≠ 0) : lexI a b = a := if_pos h
theorem lexI_zero (b : Int) : lexI 0 b = b := rfl

end Go.Av
end

section
namespace Go.Av
def soundB (k n : Int) (s : List UInt8) (m : Nat) : Bool :=
 if k = 1 then decide (-576460752303423488 ≤ n) && (decide (n ≤ 576460752303423487) && (decide (s = []) && decide (m = 0)))
 else if k = 2 then decide (n = 0) && (decide (s.length ≤ 64) && decide (m = 0))
 else if k = 3 then decide (0 ≤ n) && (decide (n ≤ 1073741824) && (decide (s = []) && decide (m = 0)))
 else if k = 4 then decide (0 ≤ n) && (decide (n ≤ 1073741824) && (decide (s = []) && decide (m = 0)))
 else if k = 6 then decide (0 ≤ n) && (decide (n ≤ 1073741824) && (decide (s = []) && decide (m = 0)))
 else if k = 5 then decide (0 ≤ n) && (decide (n ≤ 1073741824) && (decide (s = []) && decide (m ≤ 64)))
 else if k = 7 then decide (n = 0) && (decide (s = []) && decide (m ≤ 64))
 else if k = 8 then decide (n = 0) && (decide (s = []) && decide (m = 0))
 else if k = 9 then decide (n = 0) && (decide (s = []) && decide (m = 2))
 else false
def Tm.sound (t : Tm) : Bool := soundB t.kind t.num t.str t.subs.length
def Tm.own (t : Tm) : Nat := if t.kind = 7 ∨ t.kind = 5 then 2 else 1
theorem bif_some' (a b : Bool) : (bif a then some (AV.bool b) else some (AV.bool false)) = some (.bool (a && b)) := by cases a <;> rfl
theorem beqNil (s : List UInt8) : (s == []) = decide (s = []) := by cases s <;> simp
theorem beqI (a b : Int) : (a == b) = decide (a = b) := by simp [beqD]
mutual
/-- may all parts of a term be? -/
def Tm.parts : Tm → Bool
 | .mk k n s l => soundB k n s l.length && partsL l
def partsL : List Tm → Bool
 | [] => true
 | t :: l => t.parts && partsL l
end
mutual
/-- how many words all parts have -/
def Tm.words : Tm → Nat
 | .mk k n s l => (Tm.mk k n s l).own + wordsL l
def wordsL : List Tm → Nat
 | [] => 0
 | t :: l => t.words + wordsL l
end
theorem Tm.parts_eq (t : Tm) : t.parts = (t.sound && partsL t.subs) := by cases t; rw [Tm.parts]; rfl
theorem Tm.words_eq (t : Tm) : t.words = t.own + wordsL t.subs := by cases t; rw [Tm.words]; rfl
theorem partsL_append (a b : List Tm) : partsL (a ++ b) = (partsL a && partsL b) := by
 induction a with
 | nil => simp [partsL]
 | cons x l ih => simp [partsL, ih, Bool.and_assoc]
theorem wordsL_append (a b : List Tm) : wordsL (a ++ b) = wordsL a + wordsL b := by
 induction a with
 | nil => simp [wordsL]
 | cons x l ih => simp [wordsL, ih]; omega
theorem partsL_rev (a : List Tm) : partsL a.reverse = partsL a := by
 induction a with
 | nil => rfl
 | cons x l ih => simp [partsL_append, partsL, ih, Bool.and_comm]
theorem wordsL_rev (a : List Tm) : wordsL a.reverse = wordsL a := by
 induction a with
 | nil => rfl
 | cons x l ih => simp [wordsL_append, wordsL, ih]; omega
theorem Tm.own_le (t : Tm) : t.own ≤ 2 ∧ 1 ≤ t.own := by unfold Tm.own; split <;> omega
theorem words_le (t : Tm) : t.words ≤ 2 * t.w := by
 induction t using Tm.ind with
 | _ k n s l ih =>
  have h1 : wordsL l ≤ 2 * wL l := by
   clear n s
   induction l with
   | nil => simp [wordsL]
   | cons x l ih2 =>
    have := ih x (by simp)
    have := ih2 (fun t ht => ih t (by simp [ht]))
    simp [wordsL]; omega
  have := (Tm.mk k n s l).own_le
  rw [Tm.words, Tm.w_mk]; omega
def chkS (R : List Tm) (wd : Nat) : Int := if partsL R then (if 65536 < wd + wordsL R then 3 else 0) else 2
def Tm.chk (t : Tm) : Int := chkS [t] 0
theorem chkS_bad {R : List Tm} {x : Tm} {wd : Nat} (h : x.sound = false) : chkS (R ++ [x]) wd = 2 := by
 unfold chkS
 rw [partsL_append]
 simp [partsL, Tm.parts_eq, h]
theorem chkS_step {R : List Tm} {x : Tm} {wd : Nat} (h : x.sound = true) : chkS (R ++ x.subs.reverse) (wd + x.own) = chkS (R ++ [x]) wd := by
 unfold chkS
 simp only [partsL_append, partsL_rev, wordsL_append, wordsL_rev, partsL, wordsL, Tm.parts_eq, Tm.words_eq, h, Bool.true_and, Bool.and_true]
 have : wd + x.own + (wordsL R + wordsL x.subs) = wd + (wordsL R + (x.own + wordsL x.subs + 0)) := by omega
 rw [this]

end Go.Av
end

section
namespace Go.Av
def numT (i : Int) : Tm := .mk 1 i [] []
def symT (s : List UInt8) : Tm := .mk 2 0 s []
def tupT (l : List Tm) : Tm := .mk 7 0 [] l
def zeroT : Tm := .mk 0 0 [] []
theorem zeroT_av : zeroT.av = .agg [.int .i64 0, .int .i64 0, .str [], .sl []] := by rw [zeroT, Tm.av_mk, rowsT_nil]
def InB (a : Int) : Prop := -576460752303423488 ≤ a ∧ a ≤ 576460752303423487
instance (a : Int) : Decidable (InB a) := inferInstanceAs (Decidable (_ ∧ _))
def withinG (n : Int) : Option Tm := if InB n then some (numT n) else none
end Go.Av
namespace Go.Av
theorem beqS (a b : List UInt8) : (a == b) = decide (a = b) := by by_cases h : a = b <;> simp [h]
structure Env where
 obj : Tm
 binds : List (Int × Tm)
 self : Int
end Go.Av
namespace Go.Av
def tru : List UInt8 := [116, 114, 117, 101]
def fal : List UInt8 := [102, 97, 108, 115, 101]
def truthT (b : Bool) : Tm := symT (if b then tru else fal)
def boolG (t : Tm) : Option Bool := if t.kind = 2 ∧ t.str = tru then some true else if t.kind = 2 ∧ t.str = fal then some false else none
end Go.Av
namespace Go.Av
def opsTab : List (List UInt8 × List Int) := [
 ([115, 101, 108, 102], [0]),
 ([105, 115, 95, 97, 116, 111, 109], [1]),
 ([105, 115, 95, 105, 110, 116, 101, 103, 101, 114], [1]),
 ([105, 115, 95, 108, 105, 115, 116], [1]),
 ([105, 115, 95, 116, 117, 112, 108, 101], [1]),
 ([105, 115, 95, 112, 105, 100], [1]),
 ([105, 115, 95, 102, 117, 110, 99, 116, 105, 111, 110], [1]),
 ([105, 115, 95, 114, 101, 102, 101, 114, 101, 110, 99, 101], [1]),
 ([110, 111, 116], [1]),
 ([98, 110, 111, 116], [1]),
 ([97, 98, 115], [1]),
 ([116, 117, 112, 108, 101, 95, 115, 105, 122, 101], [1]),
 ([115, 105, 122, 101], [1]),
 ([104, 100], [1]),
 ([116, 108], [1]),
 ([108, 101, 110, 103, 116, 104], [1]),
 ([43], [1, 2]),
 ([45], [1, 2]),
 ([61, 61], [2]),
 ([61, 58, 61], [2]),
 ([47, 61], [2]),
 ([61, 47, 61], [2]),
 ([60], [2]),
 ([61, 60], [2]),
 ([62], [2]),
 ([62, 61], [2]),
 ([97, 110, 100], [2]),
 ([111, 114], [2]),
 ([120, 111, 114], [2]),
 ([97, 110, 100, 97, 108, 115, 111], [2]),
 ([111, 114, 101, 108, 115, 101], [2]),
 ([42], [2]),
 ([100, 105, 118], [2]),
 ([114, 101, 109], [2]),
 ([98, 97, 110, 100], [2]),
 ([98, 111, 114], [2]),
 ([98, 120, 111, 114], [2]),
 ([101, 108, 101, 109, 101, 110, 116], [2])]
def lookS {β : Type} (op : List UInt8) (d : β) : List (List UInt8 × β) → β
 | [] => d
 | p :: l => bif op == p.1 then p.2 else lookS op d l
def opsG (op : List UInt8) : List Int := lookS op [] opsTab
def selfG (n : Int) : Bool := decide (1 ≤ n) && decide (n ≤ 1073741824)
theorem Tm.Ok.subs {t : Tm} (h : t.Ok) {x : Tm} (hx : x ∈ t.subs) : x.Ok := by
 obtain ⟨k, n, s, l⟩ := t
 exact h.sub hx
end Go.Av
end

section
namespace Go.Av
def digitG (b : UInt8) : Option Int := if b.toNat < 48 then none else if b.toNat > 57 then none else some ((b.toNat : Int) - 48)
def varG : List UInt8 → Option Int
 | [a, b] => if a.toNat = 36 then digitG b else none
 | [a, b, c] => if a.toNat = 36 ∧ b.toNat ≠ 48 then (digitG b).bind fun x => (digitG c).map fun y => x * 10 + y else none
 | _ => none
def varT (t : Tm) : Option Int := if t.kind = 2 ∧ t.chk = 0 then varG t.str else none
def SetRow (p : Nat → Bool) (r : List AV) : Prop := ∃ (lo hi : Nat) (l : List AV), r = .int .u64 lo :: .int .u64 hi :: l ∧ lo < 18446744073709551616 ∧ hi < 18446744073709551616 ∧ (∀ n, n < 64 → lo.testBit n = p n) ∧ ∀ n, n < 64 → hi.testBit n = p (n + 64)
end Go.Av
namespace Go.Av
theorem store_get {r cs : List AV} {o k : Nat} (hc : cs.length = 4) (h : o + 4 ≤ r.length) (hk : k < o ∨ o + 4 ≤ k) : (List.append (List.append (r.take o) cs) (r.drop (o + 4)))[k]? = r[k]? := by
 show ((r.take o ++ cs) ++ r.drop (o + 4))[k]? = r[k]?
 have hl : (r.take o).length = o := by simp; omega
 rcases hk with hk | hk
 ·rw [List.getElem?_append_left (by simp; omega), List.getElem?_append_left (by omega), List.getElem?_take, if_pos hk]
 ·rw [List.getElem?_append_right (by simp; omega), List.getElem?_drop]
  congr 1
  simp [hc]
  omega
theorem store_len {r cs : List AV} {o : Nat} (hc : cs.length = 4) (h : o + 4 ≤ r.length) : (List.append (List.append (r.take o) cs) (r.drop (o + 4))).length = r.length := by
 show ((r.take o ++ cs) ++ r.drop (o + 4)).length = r.length
 simp [hc]; omega
theorem store_same {r cs : List AV} {o : Nat} (hc : cs.length = 4) (h : o + 4 ≤ r.length) : ((List.append (List.append (r.take o) cs) (r.drop (o + 4))).drop o).take 4 = cs := by
 show (((r.take o ++ cs) ++ r.drop (o + 4)).drop o).take 4 = cs
 have hl : (r.take o).length = o := by simp; omega
 rw [List.append_assoc, List.drop_append_of_le_length (by omega), List.drop_of_length_le (by omega), List.nil_append, List.take_append_of_le_length (by omega), List.take_of_length_le (by omega)]
theorem store_other {r cs : List AV} {o o' : Nat} (hc : cs.length = 4) (h : o + 4 ≤ r.length) (hd : o' + 4 ≤ o ∨ o + 4 ≤ o') : ((List.append (List.append (r.take o) cs) (r.drop (o + 4))).drop o').take 4 = (r.drop o').take 4 := by
 apply List.ext_getElem?
 intro j
 by_cases hj : j < 4
 ·rw [List.getElem?_take, List.getElem?_take, if_pos hj, if_pos hj, List.getElem?_drop, List.getElem?_drop, store_get hc h (by omega)]
 ·rw [List.getElem?_take, List.getElem?_take, if_neg hj, if_neg hj]
def mayB : Int → List (Int × Tm) → Bool
 | _, [] => true
 | last, p :: l => decide (last < p.1) && (decide (p.1 ≤ 99) && (decide (p.2.chk = 0) && mayB p.1 l))
def lookB (n : Int) : List (Int × Tm) → Option Tm
 | [] => none
 | p :: l => if p.1 = n then some p.2 else lookB n l
structure BRow (m : List (Int × Tm)) (r : List AV) : Prop where
 len : r.length = 402
 set : SetRow (fun i => (lookB i m).isSome) r
 cells : ∀ i : Nat, i < 100 → ∀ t, lookB i m = some t → (r.drop (2 + i * 4)).take 4 = t.cells
 free : refsLtL 0 r = true
end Go.Av
namespace Go.Av
theorem lookB_snoc (n : Int) (p : Int × Tm) : ∀ m : List (Int × Tm), lookB n (m ++ [p]) = match lookB n m with | some t => some t | none => if p.1 = n then some p.2 else none
 | [] => by simp [lookB]
 | q :: m => by
  rw [List.cons_append, lookB, lookB]
  by_cases h : q.1 = n
  ·rw [if_pos h, if_pos h]
  ·rw [if_neg h, if_neg h]; exact lookB_snoc n p m
theorem BRow.add {m : List (Int × Tm)} {r r' : List AV} {n : Nat} {t : Tm} (h : BRow m r) (hn : n < 100) (hnew : lookB n m = none)
  (h1 : SetRow (fun i => (fun i : Nat => (lookB i m).isSome) i || decide (i = n)) r') (h2 : r'.drop 2 = r.drop 2) (h3 : r'.length = r.length) (h4 : refsLtL 0 r = true → refsLtL 0 r' = true) :
  BRow (m ++ [((n : Int), t)]) (List.append (List.append (r'.take (2 + n * 4)) t.cells) (r'.drop (2 + n * 4 + 4))) := by
 have hl : r'.length = 402 := by rw [h3, h.len]
 have hc : t.cells.length = 4 := length_cells t
 have ho : 2 + n * 4 + 4 ≤ r'.length := by omega
 have hd : ∀ j, (r'.drop (2 + j)) = r.drop (2 + j) := by
  intro j
  rw [← List.drop_drop, ← List.drop_drop, h2]
 refine ⟨by rw [store_len hc ho, hl], ?_, fun i hi t' ht' => ?_, ?_⟩
 ·obtain ⟨lo, hi, l, rfl, a1, a2, a3, a4⟩ := h1
  obtain ⟨o, ho'⟩ : ∃ o, 2 + n * 4 = o + 2 := ⟨n * 4, by omega⟩
  have lk : ∀ i : Nat, (lookB i (m ++ [((n : Int), t)])).isSome = ((lookB i m).isSome || decide (i = n)) := by
   intro i
   rw [lookB_snoc]
   cases hx : lookB (i : Int) m with
   | some x => rfl
   | none =>
    by_cases hi : i = n
    ·subst hi; simp
    ·have : ¬ ((n : Int) = (i : Int)) := by omega
     simp [this, hi]
  refine ⟨lo, hi, (l.take o ++ t.cells) ++ l.drop (o + 4), ?_, a1, a2, fun i hi => ?_, fun i hi => ?_⟩
  ·rw [ho']; rfl
  ·exact (a3 i hi).trans (lk i).symm
  ·exact (a4 i hi).trans (lk (i + 64)).symm
 ·rw [lookB_snoc] at ht'
  by_cases hin : i = n
  ·subst hin
   rw [hnew] at ht'
   simp at ht'
   subst ht'
   exact store_same hc ho
  ·cases hx : lookB (i : Int) m with
   | none =>
    rw [hx] at ht'
    have : ¬ ((n : Int) = (i : Int)) := by omega
    simp [this] at ht'
   | some x =>
    rw [hx] at ht'
    cases ht'
    rw [store_other hc ho (by omega), hd]
    exact h.cells i hi _ hx
 ·show refsLtL 0 ((r'.take (2 + n * 4) ++ t.cells) ++ r'.drop (2 + n * 4 + 4)) = true
  have hf := h4 h.free
  exact refsLtL_app (refsLtL_app (refsLtL_take hf) (cells_free t)) (refsLtL_drop hf)
end Go.Av
end

section
namespace Go.Av
mutual
/-- is a term an expression over some variables? -/
def isG (V : List Int) : Tm → Bool
  | .mk k n s l =>
    if k = 2 then (match varT (.mk k n s l) with | none => true | some x => decide (x ∈ V))
    else if k = 9 then allG V l
    else if k = 7 then
      (match l with
       | [] => false
       | (.mk k1 _ s1 l1) :: rest =>
         if k1 = 7 then decide (rest.length = 0) && allG V l1
         else if k1 = 2 then (if s1 = [99, 111, 110, 115, 116] then decide (rest.length = 1) else decide ((rest.length : Int) ∈ opsG s1) && allG V rest)
         else false)
    else true
def allG (V : List Int) : List Tm → Bool
  | [] => true
  | t :: l => isG V t && allG V l
end
def checkG (V : List Int) (t : Tm) : Int := if t.chk = 0 then (if isG V t then 0 else 10) else 2
end Go.Av
end

section
namespace Go.Av
theorem chk_zero {t : Tm} : t.chk = 0 ↔ t.parts = true ∧ t.words ≤ 65536 := by
 unfold Tm.chk chkS
 simp only [partsL, wordsL, Bool.and_true, Nat.zero_add, Nat.add_zero]
 cases h : t.parts with
 | false => simp
 | true =>
  simp
theorem wordsL_mem {x : Tm} {l : List Tm} (h : x ∈ l) : x.words ≤ wordsL l := by
 induction l with
 | nil => cases h
 | cons y l ih =>
  rw [wordsL]
  rcases List.mem_cons.1 h with rfl | h
  ·omega
  ·have := ih h; omega
theorem partsL_mem {l : List Tm} (h : partsL l = true) : ∀ x ∈ l, x.parts = true := by
 induction l with
 | nil => intro x hx; cases hx
 | cons y l ih =>
  intro x hx
  rw [partsL, Bool.and_eq_true] at h
  rcases List.mem_cons.1 hx with rfl | hx
  ·exact h.1
  ·exact ih h.2 x hx
def lenT : Nat → Tm → Option Nat
 | 0, _ => none
 | n + 1, t => if t.kind = 9 then (match t.subs with | [_, b] => (lenT n b).map (· + 1) | _ => none) else if t.kind = 8 then some 0 else none
def lenG (t : Tm) : Option Nat := lenT t.w t
def oneG (op : List UInt8) (t : Tm) : Option Tm :=
 if op = [105, 115, 95, 97, 116, 111, 109] then some (truthT (decide (t.kind = 2)))
 else if op = [105, 115, 95, 105, 110, 116, 101, 103, 101, 114] then some (truthT (decide (t.kind = 1)))
 else if op = [105, 115, 95, 108, 105, 115, 116] then some (truthT (decide (t.kind = 9) || decide (t.kind = 8)))
 else if op = [105, 115, 95, 116, 117, 112, 108, 101] then some (truthT (decide (t.kind = 7)))
 else if op = [105, 115, 95, 112, 105, 100] then some (truthT (decide (t.kind = 6)))
 else if op = [105, 115, 95, 102, 117, 110, 99, 116, 105, 111, 110] then some (truthT (decide (t.kind = 5)))
 else if op = [105, 115, 95, 114, 101, 102, 101, 114, 101, 110, 99, 101] then some (truthT (decide (t.kind = 3) || decide (t.kind = 4)))
 else if op = [110, 111, 116] then (boolG t).map fun b => truthT (!b)
 else if op = [98, 110, 111, 116] then (if t.kind = 1 then withinG (-1 - t.num) else none)
 else if op = [43] then (if t.kind = 1 then withinG t.num else none)
 else if op = [45] then (if t.kind = 1 then withinG (-t.num) else none)
 else if op = [97, 98, 115] then (if t.kind = 1 then withinG (if t.num < 0 then -t.num else t.num) else none)
 else if op = [116, 117, 112, 108, 101, 95, 115, 105, 122, 101] then (if t.kind = 7 then withinG t.subs.length else none)
 else if op = [115, 105, 122, 101] then (if t.kind = 7 then withinG t.subs.length else none)
 else if op = [108, 101, 110, 103, 116, 104] then (lenG t).bind fun n => withinG n
 else if t.kind = 9 then (if op = [104, 100] then t.subs[0]? else t.subs[1]?)
 else none
def listT (l : List Tm) : Tm := l.foldr (fun x e => .mk 9 0 [] [x, e]) (.mk 8 0 [] [])
structure EnvOk (e : Env) : Prop where
 obj : e.obj.chk = 0
 may : mayB (-1) e.binds = true
 self : selfG e.self = true
theorem mayB_len : ∀ {l : List (Int × Tm)} {last : Int}, mayB last l = true → (l.length : Int) ≤ max 0 (99 - last)
 | [], _, _ => by simp; omega
 | p :: l, last, h => by
  simp only [mayB, Bool.and_eq_true, decide_eq_true_eq] at h
  have := mayB_len h.2.2.2
  simp only [List.length_cons]
  omega
theorem EnvOk.len {e : Env} (h : EnvOk e) : e.binds.length ≤ 100 := by have := mayB_len h.may; omega
end Go.Av
end

section
namespace Go.Av
def itemsF : Nat → Tm → List Tm × Bool
 | 0, _ => ([], false)
 | n + 1, t => if t.kind = 9 then (match t.subs with | [a, b] => (a :: (itemsF n b).1, (itemsF n b).2) | _ => ([], false)) else ([], decide (t.kind = 8))
def itemsG (t : Tm) : List Tm × Bool := itemsF t.w t
theorem itemsF_more : ∀ (n m : Nat) (t : Tm), t.w ≤ n → t.w ≤ m → itemsF n t = itemsF m t := by
 intro n
 induction n with
 | zero => intro m t h; have := w_pos t; omega
 | succ n ih =>
  intro m t hn hm
  obtain ⟨m, rfl⟩ : ∃ k, m = k + 1 := ⟨m - 1, by have := w_pos t; omega⟩
  rw [itemsF, itemsF]
  by_cases h9 : t.kind = 9
  ·rw [if_pos h9, if_pos h9]
   have hw := t.w_eq
   cases hs : t.subs with
   | nil => rfl
   | cons a l =>
    cases l with
    | nil => rfl
    | cons b l =>
     cases l with
     | nil =>
      rw [hs] at hw
      simp only [wL_cons, wL_nil] at hw
      simp only []
      rw [ih m b (by omega) (by omega)]
     | cons c l => rfl
  ·rw [if_neg h9, if_neg h9]
theorem itemsG_cons {t a b : Tm} (hk : t.kind = 9) (hs : t.subs = [a, b]) : itemsG t = (a :: (itemsG b).1, (itemsG b).2) := by
 have hw := t.w_eq
 rw [hs] at hw
 simp only [wL_cons, wL_nil] at hw
 unfold itemsG
 obtain ⟨n, hn⟩ : ∃ n, t.w = n + 1 := ⟨t.w - 1, by have := w_pos t; omega⟩
 rw [hn, itemsF, if_pos hk, hs]
 simp only []
 rw [itemsF_more n b.w b (by omega) (Nat.le_refl _)]
theorem itemsG_end {t : Tm} (hk : t.kind ≠ 9) : itemsG t = ([], decide (t.kind = 8)) := by
 unfold itemsG
 obtain ⟨n, hn⟩ : ∃ n, t.w = n + 1 := ⟨t.w - 1, by have := w_pos t; omega⟩
 rw [hn, itemsF, if_neg hk]
theorem itemsG_list : ∀ l : List Tm, itemsG (listT l) = (l, true)
 | [] => itemsG_end (by decide)
 | x :: l => by
  rw [itemsG_cons (a := x) (b := listT l) rfl rfl, itemsG_list l]
def anyT (p : Tm) : Bool := decide (p.kind = 2) && (decide (p.str = [95]) && decide (p.chk = 0))
def headG (p : Tm) : Bool := (varT p).isSome || (decide (p.kind = 7) || anyT p)
mutual
/-- does a variable stand in a pattern? -/
def varIn (n : Int) : Tm → Bool
 | .mk k _ s l => if k = 7 ∨ k = 9 then varInL n l else decide (k = 2) && decide (varG s = some n)
def varInL (n : Int) : List Tm → Bool
 | [] => false
 | t :: l => varIn n t || varInL n l
end
def varsG (p : Tm) : List Int := if p.chk = 0 then ((List.range 100).filter fun n => varIn (n : Nat) p).map Int.ofNat else []
structure Cl where
 head : Tm
 gs : List Tm
 bs : List Tm
 deriving Inhabited
def Cl.cells (c : Cl) : List AV := [.int .i64 c.head.kind, .int .i64 c.head.num, .str c.head.str, .sl (rowsT c.head.subs), .sl (rowsT c.gs), .sl (rowsT c.bs)]
def Cl.av (c : Cl) : AV := .agg c.cells
def clauseG (t : Tm) : Option Cl :=
 if t.kind = 7 then (match t.subs with
  | [h, g, b] => if headG h && ((itemsG g).2 && ((itemsG b).2 && !(itemsG b).1.isEmpty)) && ((itemsG g).1.all (fun e => decide (checkG (varsG h) e = 0)) && (itemsG b).1.all (fun e => decide (checkG (varsG h) e = 0))) then some ⟨h, (itemsG g).1, (itemsG b).1⟩ else none
  | _ => none)
 else none
def seqC : List Tm → Option (List Cl)
 | [] => some []
 | t :: l => (clauseG t).bind fun c => (seqC l).map (c :: ·)
def clsG (t : Tm) : List Cl × Int :=
 if t.chk = 0 then (match seqC (itemsG t).1 with
  | some l => if (itemsG t).2 && !l.isEmpty then (l, 0) else ([], 10)
  | none => ([], 10))
 else ([], 2)
noncomputable instance tmEq : DecidableEq Tm := fun _ _ => Classical.propDecidable _
def clT (c : Cl) : Tm := tupT [c.head, listT c.gs, listT c.bs]
def selT (l : List Cl) : Tm := listT (l.map clT)
def ofG (l : List Cl) : Tm × Int := if (clsG (selT l)).2 = 0 then (selT l, 0) else (zeroT, (clsG (selT l)).2)
end Go.Av
end

section
namespace Go.Av
structure Rg where
 ar : Int
 fst : List Tm
 deriving Inhabited
structure Bnd where
 all : Bool
 keys : List Tm
 rgs : List Rg
 deriving Inhabited
def allK (l : List Tm) : Bool := l.all fun t => decide (t.chk = 0)
def sideC (r : Rg) (k : Tm) : Int := lexI (numC k.kind 7) (lexI (numC k.subs.length r.ar) (cmpE (k.subs.take r.fst.length) r.fst))
def sideG (r : Rg) (k : Tm) : Int := if r.ar < r.fst.length ∨ k.chk ≠ 0 ∨ allK r.fst = false then 0 else sideC r k
noncomputable def withinK (r : Rg) (k : Tm) : Bool := decide (k.kind = 7) && (decide ((k.subs.length : Int) = r.ar) && (decide (r.fst.length ≤ k.subs.length) && decide (k.subs.take r.fst.length = r.fst)))
end Go.Av
end

section
namespace Go.Proofs.YtkgkjngbfdnoiaaGreat
open Go.Av
set_option maxRecDepth 100000
set_option maxHeartbeats 0

noncomputable def Lrc15_0 : Den := evC cfg (EV cfg) 60 none 0 (sub (bodyOf Tryz.f60) [1, 1, 1, 0, 1, 0, 0])
noncomputable def Arc15_0 : Ex × List AV × AH → Option AV := kAft (Cfg.keepOut cfg 60 5) (kRun cfg (EV cfg) (kfN cfg 6) 60 none 0 (kFinS cfg (Cfg.lift cfg 60 0) Tryz.f60.results.toList) ([.block 0, .seq (sub (bodyOf Tryz.f60) [1, 1, 1, 1])]))
noncomputable def Wrc15_0 : List AV × AH → Option AV := fun p => kOpt (LOOP 0 (some [1, 3, 4]) ([(3, 4)]) Lrc15_0 p) Arc15_0
noncomputable def Lrc7_0 : Den := evC cfg (EV cfg) 55 none 0 (sub (bodyOf Tryz.f55) [1, 0, 1, 0, 0])
noncomputable def Arc7_0 : Ex × List AV × AH → Option AV := kAft (Cfg.keepOut cfg 55 2) (kRun cfg (EV cfg) (kfN cfg 6) 55 none 0 (kFinS cfg (Cfg.lift cfg 55 0) Tryz.f55.results.toList) ([.block 0, .seq (sub (bodyOf Tryz.f55) [1, 1])]))
noncomputable def Wrc7_0 : List AV × AH → Option AV := fun p => kOpt (LOOP 0 (some [0, 3]) ([]) Lrc7_0 p) Arc7_0
noncomputable def Lrc31_0 : Den := evC cfg (EV cfg) 124 none 0 (sub (bodyOf Tryz.f124) [1, 0, 1, 0, 0])
noncomputable def Arc31_0 : Ex × List AV × AH → Option AV := kAft (Cfg.keepOut cfg 124 2) (kRun cfg (EV cfg) (kfN cfg 6) 124 none 0 (kFinS cfg (Cfg.lift cfg 124 0) Tryz.f124.results.toList) ([.block 0, .seq (sub (bodyOf Tryz.f124) [1, 1])]))
noncomputable def Wrc31_0 : List AV × AH → Option AV := fun p => kOpt (LOOP 0 (some [0, 1, 7, 8]) ([]) Lrc31_0 p) Arc31_0
noncomputable def Lrc80_0 : Den := evC cfg (EV cfg) 214 none 0 (sub (bodyOf Tryz.f214) [1, 0, 1, 0, 0])
noncomputable def Arc80_0 : Ex × List AV × AH → Option AV := kAft (Cfg.keepOut cfg 214 2) (kRun cfg (EV cfg) (kfN cfg 6) 214 none 0 (kFinS cfg (Cfg.lift cfg 214 0) Tryz.f214.results.toList) ([.block 0, .seq (sub (bodyOf Tryz.f214) [1, 1])]))
noncomputable def Wrc80_0 : List AV × AH → Option AV := fun p => kOpt (LOOP 0 (some [0, 1, 7, 8]) ([]) Lrc80_0 p) Arc80_0
noncomputable def Lrc110_0 : Den := evC cfg (EV cfg) 276 none 0 (sub (bodyOf Tryz.f276) [1, 1, 0, 1, 0, 0])
noncomputable def Arc110_0 : Ex × List AV × AH → Option AV := kAft (Cfg.keepOut cfg 276 4) (kRun cfg (EV cfg) (kfN cfg 6) 276 none 0 (kFinS cfg (Cfg.lift cfg 276 0) Tryz.f276.results.toList) ([.block 0, .seq (sub (bodyOf Tryz.f276) [1, 1, 1])]))
noncomputable def Wrc110_0 : List AV × AH → Option AV := fun p => kOpt (LOOP 0 (some [1, 2, 15, 16, 17]) ([]) Lrc110_0 p) Arc110_0
noncomputable def Lrc63_0 : Den := evC cfg (EV cfg) 150 none 0 (sub (bodyOf Tryz.f150) [1, 0, 1, 0, 0])
noncomputable def Arc63_0 : Ex × List AV × AH → Option AV := kAft (Cfg.keepOut cfg 150 2) (kRun cfg (EV cfg) (kfN cfg 6) 150 none 0 (kFinS cfg (Cfg.lift cfg 150 0) Tryz.f150.results.toList) ([.block 0, .seq (sub (bodyOf Tryz.f150) [1, 1])]))
noncomputable def Wrc63_0 : List AV × AH → Option AV := fun p => kOpt (LOOP 0 (some [0, 1, 2, 11, 12, 13]) ([]) Lrc63_0 p) Arc63_0
noncomputable def Lrc15_1 : Den := evC cfg (EV cfg) 60 none 0 (sub (bodyOf Tryz.f60) [1, 1, 1, 1, 0, 1, 0, 0])
noncomputable def Arc15_1 : Ex × List AV × AH → Option AV := kAft (Cfg.keepOut cfg 60 11) (kRun cfg (EV cfg) (kfN cfg 6) 60 none 0 (kFinS cfg (Cfg.lift cfg 60 0) Tryz.f60.results.toList) ([.block 2, .seq (sub (bodyOf Tryz.f60) [1, 1, 1, 1, 1])]))
noncomputable def Wrc15_1 : List AV × AH → Option AV := fun p => kOpt (LOOP 0 (some [3, 5]) ([(3, 4)]) Lrc15_1 p) Arc15_1
noncomputable abbrev wrc15_0 (nv3 : Nat) (v4 : Int) (c0_0 : Bool) (c0_1 c0_2 h1 : List (List AV)) : Option (AV) := Wrc15_0  (((fx 54 [(1, .ptr 0 0 0), (3, .ms 1 0 nv3), (4, .int .i64 v4)]) : List AV), ([.rows false 3 [[.bool c0_0, .sl c0_1, .sl c0_2]], .rows true 4 h1] : AH))
noncomputable abbrev wrc7_0 (L : List (List AV)) (v3 : Int) : Option (AV) := Wrc7_0  (((fx 15 [(0, .sl L), (3, .int .i64 v3)]) : List AV), ([] : AH))
noncomputable abbrev wrc31_0 (L : List (List AV)) (v8 : Int) : Option (AV) := Wrc31_0  (((fx 19 [(0, .sl L), (1, .fn (Fn.func 224) [] []), (7, .int .i64 (L.length : Int)), (8, .int .i64 v8)]) : List AV), ([] : AH))
noncomputable abbrev wrc31_0a (L : List (List AV)) (kt nt : Int) (st : List UInt8) (lt : List (List AV)) (v8 : Int) : Option (AV) := Wrc31_0  (((fx 19 [(0, .sl L), (1, .fn (Fn.func 144) [] [.cptr [.int .i64 kt, .int .i64 nt, .str st, .sl lt] 0]), (7, .int .i64 (L.length : Int)), (8, .int .i64 v8)]) : List AV), ([] : AH))
noncomputable abbrev wrc80_0 (L : List (List AV)) (kt nt : Int) (st : List UInt8) (lt : List (List AV)) (v8 : Int) : Option (AV) := Wrc80_0  (((fx 19 [(0, .sl L), (1, .fn (Fn.func 145) [] [.cptr [.int .i64 kt, .int .i64 nt, .str st, .sl lt] 0]), (7, .int .i64 (L.length : Int)), (8, .int .i64 v8)]) : List AV), ([] : AH))
noncomputable abbrev wrc110_0 (L M : List (List AV)) (v17 : Int) : Option (AV) := Wrc110_0  (((fx 32 [(1, .sl M), (2, .fn (Fn.func 136) [] []), (15, .sl L), (16, .int .i64 (L.length : Int)), (17, .int .i64 v17)]) : List AV), ([] : AH))
noncomputable abbrev wrc63_0 (L M : List (List AV)) (v13 : Int) : Option (AV) := Wrc63_0  (((fx 39 [(0, .sl L), (1, .sl M), (2, .fn (Fn.func 134) [] []), (11, .sl L), (12, .int .i64 (L.length : Int)), (13, .int .i64 v13)]) : List AV), ([] : AH))
noncomputable abbrev wrc15_1 (nv3 : Nat) (v5 : Int) (h0 : List (List AV)) : Option (AV) := Wrc15_1  (((fx 54 [(3, .ms 0 0 nv3), (5, .int .i64 v5)]) : List AV), ([.rows true 4 h0] : AH))
theorem bMay_run (L : List (List AV)) {P : AV → Prop} (h : Gets (kOpt (EVs (EV cfg) 143 [.sl L, AV.fn (Fn.func 224) [] []]) fun v => kBool v fun b => some (.bool ! b)) P) : Gets (EVs (EV cfg) 142 ([AV.sl L] : List AV)) P :=
  Gets.ev (fun _ h => funS rfl rfl Tryz.func142 rfl h) (Gets.eq (by kernel_rfl) h)
theorem bMayIn_run (kt nt : Int) (st : List UInt8) (lt : List (List AV)) {P : AV → Prop} (h : Gets (kOpt (EVs (EV cfg) 91 [.agg [AV.int .i64 kt, .int .i64 nt, .str st, .sl lt]]) fun v => kInt .i64 v fun n => some (.bool (n != 0))) P) : Gets (EVs (EV cfg) 224 ([AV.agg [AV.int IntKind.i64 kt, AV.int IntKind.i64 nt, AV.str st, AV.sl lt]] : List AV)) P :=
  Gets.ev (fun _ h => funS rfl rfl Tryz.func224 rfl h) (Gets.eq (by kernel_rfl) h)
theorem bBegins_run (L M : List (List AV)) {P : AV → Prop} (h : Gets (bif decide ((L.length : Int) ≥ (M.length : Int)) then bif leInt 0 (M.length : Int) && leInt (M.length : Int) (L.length : Int) then bif rowsOk 4 L then kOpt (EVs (EV cfg) 276 [.sl (List.take (Int.toNat (M.length : Int) - 0) L), .sl M, AV.fn (Fn.func 136) [] []]) fun v => kBool v fun b => some (.bool b) else none else none else some (.bool false)) P) : Gets (EVs (EV cfg) 215 ([AV.sl L, AV.sl M] : List AV)) P :=
  Gets.ev (fun _ h => funS rfl rfl Tryz.func215 rfl h) (Gets.eq (by kernel_rfl) h)
theorem bWithin_run (ar : Int) (fs : List (List AV)) (kt nt : Int) (st : List UInt8) (lt : List (List AV)) {P : AV → Prop} (h : Gets (bif kt == 7 then bif (lt.length : Int) == ar then kOpt (EVs (EV cfg) 215 [.sl lt, .sl fs]) fun v => kBool v fun b => some (.bool b) else some (.bool false) else some (.bool false)) P) : Gets (EVs (EV cfg) 132 ([AV.agg [AV.int IntKind.i64 ar, AV.sl fs], AV.agg [AV.int IntKind.i64 kt, AV.int IntKind.i64 nt, AV.str st, AV.sl lt]] : List AV)) P :=
  Gets.ev (fun _ h => funS rfl rfl Tryz.func132 rfl h) (Gets.eq (by kernel_rfl) h)
theorem bMeets_run (al : Bool) (ks rs : List (List AV)) (kt nt : Int) (st : List UInt8) (lt : List (List AV)) {P : AV → Prop} (h : Gets (kOpt (EVs (EV cfg) 142 [.sl [[AV.int .i64 kt, .int .i64 nt, .str st, .sl lt]]]) fun v => kBool v fun b => bif ! b then some (.bool false) else bif al then some (.bool true) else kOpt (EVs (EV cfg) 143 [.sl ks, AV.fn (Fn.func 144) [] [AV.cptr [AV.int .i64 kt, .int .i64 nt, .str st, .sl lt] 0]]) fun v => kBool v fun b => bif b then some (.bool true) else kOpt (EVs (EV cfg) 130 [.sl rs, AV.fn (Fn.func 145) [] [AV.cptr [AV.int .i64 kt, .int .i64 nt, .str st, .sl lt] 0]]) fun v => kBool v fun b => some (.bool b)) P) : Gets (EVs (EV cfg) 64 ([AV.agg [AV.bool al, AV.sl ks, AV.sl rs], AV.agg [AV.int IntKind.i64 kt, AV.int IntKind.i64 nt, AV.str st, AV.sl lt]] : List AV)) P :=
  Gets.ev (fun _ h => funS rfl rfl Tryz.func64 rfl h) (Gets.eq (by kernel_rfl) h)
theorem bSide_run (ar : Int) (fs : List (List AV)) (kt nt : Int) (st : List UInt8) (lt : List (List AV)) {P : AV → Prop} (h : Gets (bif decide (ar < (fs.length : Int)) then some (.int .i64 0) else kOpt (EVs (EV cfg) 142 [.sl [[AV.int .i64 kt, .int .i64 nt, .str st, .sl lt]]]) fun v => kBool v fun b => bif ! b then some (.int .i64 0) else kOpt (EVs (EV cfg) 142 [.sl fs]) fun v => kBool v fun b => bif ! b then some (.int .i64 0) else kOpt (EVs (EV cfg) 149 [AV.int .i64 kt, .int .i64 7]) fun v => kInt .i64 v fun n => bif n != 0 then some (.int .i64 n) else kOpt (EVs (EV cfg) 149 [AV.int .i64 (↑ (List.length lt) : Int), .int .i64 ar]) fun v => kInt .i64 v fun n => bif n != 0 then some (.int .i64 n) else bif leInt 0 (fs.length : Int) && leInt (↑ (List.length fs) : Int) (lt.length : Int) then bif rowsOk 4 lt then kOpt (EVs (EV cfg) 150 [.sl (List.take (Int.toNat (fs.length : Int) - 0) lt), .sl fs, AV.fn (Fn.func 134) [] []]) fun v => kInt .i64 v fun n => some (.int .i64 n) else none else none) P) : Gets (EVs (EV cfg) 66 ([AV.agg [AV.int IntKind.i64 ar, AV.sl fs], AV.agg [AV.int IntKind.i64 kt, AV.int IntKind.i64 nt, AV.str st, AV.sl lt]] : List AV)) P :=
  Gets.ev (fun _ h => funS rfl rfl Tryz.func66 rfl h) (Gets.eq (by kernel_rfl) h)
theorem wide21_run (al : Bool) (ks rs : List (List AV)) {P : AV → Prop} (h : Gets (bif decide ((ks.length : Int) > 30) then some (.bool true) else bif decide ((rs.length : Int) > 30) then some (.bool true) else bif rowsOk 4 ks then bif fitsIn (0 + List.length ks) 56 then wrc15_0 (0 + List.length ks) 0 al ks rs ks else none else none) P) : Gets (EVs (EV cfg) 60 ([AV.agg [AV.bool al, AV.sl ks, AV.sl rs]] : List AV)) P :=
  Gets.ev (fun _ h => funS rfl rfl Tryz.func60 rfl h) (Gets.eq (by kernel_rfl) h)
theorem large21_run (L : List (List AV)) {P : AV → Prop} (h : Gets (wrc7_0 L 0) P) : Gets (EVs (EV cfg) 55 ([AV.sl L] : List AV)) P :=
  Gets.ev (fun _ h => funS rfl rfl Tryz.func55 rfl h) (Gets.eq (by kernel_rfl) h)
theorem contMay_run (L : List (List AV)) {P : AV → Prop} (h : Gets (kOpt (EVs (EV cfg) 124 [.sl L, AV.fn (Fn.func 224) [] []]) fun v => kInt .i64 v fun n => some (.bool (decide (n ≥ 0)))) P) : Gets (EVs (EV cfg) 143 ([AV.sl L, AV.fn (Fn.func 224) [] []] : List AV)) P :=
  Gets.ev (fun _ h => funS rfl rfl Tryz.func143 rfl h) (Gets.eq (by kernel_rfl) h)
theorem indMay_run (L : List (List AV)) {P : AV → Prop} (h : Gets (wrc31_0 L 0) P) : Gets (EVs (EV cfg) 124 ([AV.sl L, AV.fn (Fn.func 224) [] []] : List AV)) P :=
  Gets.ev (fun _ h => funS rfl rfl Tryz.func124 rfl h) (Gets.eq (by kernel_rfl) h)
theorem contKey_run (L : List (List AV)) (kt nt : Int) (st : List UInt8) (lt : List (List AV)) {P : AV → Prop} (h : Gets (kOpt (EVs (EV cfg) 124 [.sl L, AV.fn (Fn.func 144) [] [AV.cptr [AV.int .i64 kt, .int .i64 nt, .str st, .sl lt] 0]]) fun v => kInt .i64 v fun n => some (.bool (decide (n ≥ 0)))) P) : Gets (EVs (EV cfg) 143 ([AV.sl L, AV.fn (Fn.func 144) [] [AV.cptr [AV.int IntKind.i64 kt, AV.int IntKind.i64 nt, AV.str st, AV.sl lt] (0 : Nat)]] : List AV)) P :=
  Gets.ev (fun _ h => funS rfl rfl Tryz.func143 rfl h) (Gets.eq (by kernel_rfl) h)
theorem indKey_run (L : List (List AV)) (kt nt : Int) (st : List UInt8) (lt : List (List AV)) {P : AV → Prop} (h : Gets (wrc31_0a L kt nt st lt 0) P) : Gets (EVs (EV cfg) 124 ([AV.sl L, AV.fn (Fn.func 144) [] [AV.cptr [AV.int IntKind.i64 kt, AV.int IntKind.i64 nt, AV.str st, AV.sl lt] (0 : Nat)]] : List AV)) P :=
  Gets.ev (fun _ h => funS rfl rfl Tryz.func124 rfl h) (Gets.eq (by kernel_rfl) h)
theorem contRg_run (L : List (List AV)) (kt nt : Int) (st : List UInt8) (lt : List (List AV)) {P : AV → Prop} (h : Gets (kOpt (EVs (EV cfg) 214 [.sl L, AV.fn (Fn.func 145) [] [AV.cptr [AV.int .i64 kt, .int .i64 nt, .str st, .sl lt] 0]]) fun v => kInt .i64 v fun n => some (.bool (decide (n ≥ 0)))) P) : Gets (EVs (EV cfg) 130 ([AV.sl L, AV.fn (Fn.func 145) [] [AV.cptr [AV.int IntKind.i64 kt, AV.int IntKind.i64 nt, AV.str st, AV.sl lt] (0 : Nat)]] : List AV)) P :=
  Gets.ev (fun _ h => funS rfl rfl Tryz.func130 rfl h) (Gets.eq (by kernel_rfl) h)
theorem indRg_run (L : List (List AV)) (kt nt : Int) (st : List UInt8) (lt : List (List AV)) {P : AV → Prop} (h : Gets (wrc80_0 L kt nt st lt 0) P) : Gets (EVs (EV cfg) 214 ([AV.sl L, AV.fn (Fn.func 145) [] [AV.cptr [AV.int IntKind.i64 kt, AV.int IntKind.i64 nt, AV.str st, AV.sl lt] (0 : Nat)]] : List AV)) P :=
  Gets.ev (fun _ h => funS rfl rfl Tryz.func214 rfl h) (Gets.eq (by kernel_rfl) h)
theorem meetsKey_run (kk nk : Int) (sk : List UInt8) (lk : List (List AV)) (kt nt : Int) (st : List UInt8) (lt : List (List AV)) {P : AV → Prop} (h : Gets (kOpt (EVs (EV cfg) 142 [.sl [[AV.int .i64 kk, .int .i64 nk, .str sk, .sl lk]]]) fun v => kBool v fun b => bif b then kOpt (EVs (EV cfg) 136 [.agg [AV.int .i64 kk, .int .i64 nk, .str sk, .sl lk], .agg [AV.int .i64 kt, .int .i64 nt, .str st, .sl lt]]) fun v => kBool v fun b => some (.bool b) else some (.bool false)) P) : Gets (EVs (EV cfg) 144 ([AV.agg [AV.int IntKind.i64 kk, AV.int IntKind.i64 nk, AV.str sk, AV.sl lk], AV.cptr [AV.int IntKind.i64 kt, AV.int IntKind.i64 nt, AV.str st, AV.sl lt] (0 : Nat)] : List AV)) P :=
  Gets.ev (fun _ h => funS rfl rfl Tryz.func144 rfl h) (Gets.eq (by kernel_rfl) h)
theorem meetsRg_run (ar : Int) (fs : List (List AV)) (kt nt : Int) (st : List UInt8) (lt : List (List AV)) {P : AV → Prop} (h : Gets (kOpt (EVs (EV cfg) 142 [.sl fs]) fun v => kBool v fun b => bif b then kOpt (EVs (EV cfg) 132 [.agg [AV.int .i64 ar, .sl fs], .agg [AV.int .i64 kt, .int .i64 nt, .str st, .sl lt]]) fun v => kBool v fun b => some (.bool b) else some (.bool false)) P) : Gets (EVs (EV cfg) 145 ([AV.agg [AV.int IntKind.i64 ar, AV.sl fs], AV.cptr [AV.int IntKind.i64 kt, AV.int IntKind.i64 nt, AV.str st, AV.sl lt] (0 : Nat)] : List AV)) P :=
  Gets.ev (fun _ h => funS rfl rfl Tryz.func145 rfl h) (Gets.eq (by kernel_rfl) h)
theorem equalT_run (L M : List (List AV)) {P : AV → Prop} (h : Gets (bif (L.length : Int) != (M.length : Int) then some (.bool false) else wrc110_0 L M 0) P) : Gets (EVs (EV cfg) 276 ([AV.sl L, AV.sl M, AV.fn (Fn.func 136) [] []] : List AV)) P :=
  Gets.ev (fun _ h => funS rfl rfl Tryz.func276 rfl h) (Gets.eq (by kernel_rfl) h)
theorem compT_run (L M : List (List AV)) {P : AV → Prop} (h : Gets (wrc63_0 L M 0) P) : Gets (EVs (EV cfg) 150 ([AV.sl L, AV.sl M, AV.fn (Fn.func 134) [] []] : List AV)) P :=
  Gets.ev (fun _ h => funS rfl rfl Tryz.func150 rfl h) (Gets.eq (by kernel_rfl) h)
theorem wrc15_0_step (nv3 : Nat) (v4 : Int) (c0_0 : Bool) (c0_1 c0_2 h1 : List (List AV)) {P : AV → Prop} (h : Gets (bif decide (v4 < (c0_2.length : Int)) then bif leInt 0 v4 && ltInt v4 (c0_2.length : Int) then kOpt (List.get?Internal c0_2 (v4.toNat)) fun row => bif Nat.beq (List.length row) 2 then kOpt (List.get?Internal row 1) fun v => kSl v fun rows => bif decide ((rows.length : Int) > 70) then some (.bool true) else bif leInt 0 v4 && ltInt v4 (c0_2.length : Int) then kOpt (List.get?Internal c0_2 (v4.toNat)) fun row => bif Nat.beq (List.length row) 2 then kOpt (List.get?Internal row 1) fun v => kSl v fun rows => bif rowsOk 4 rows then bif Nat.ble (0 + nv3) (List.length h1) && fitsIn (nv3 + List.length rows) 56 then wrc15_0 (nv3 + List.length rows) (IntKind.wrap .i64 (v4 + 1)) c0_0 c0_1 c0_2 (List.append (List.take nv3 h1) rows) else none else none else none else none else none else none else wrc15_1 nv3 0 h1) P) : Gets (wrc15_0 nv3 v4 c0_0 c0_1 c0_2 h1) P :=
  Gets.ev (fun _ h => loop_step (cfg := cfg) (f := 60) (rd := none) (bs := 0) h) (Gets.eq (by kernel_rfl) h)
theorem wrc7_0_step (L : List (List AV)) (v3 : Int) {P : AV → Prop} (h : Gets (bif decide (v3 < (L.length : Int)) then bif leInt 0 v3 && ltInt v3 (L.length : Int) then kOpt (List.get?Internal L (v3.toNat)) fun row => bif Nat.beq (List.length row) 4 then bif Nat.ble 4 (List.length row) then kTmC (List.take 4 row) fun n n_1 s rows => (kOpt (EVs (EV cfg) 41 [.agg [AV.int .i64 n, .int .i64 n_1, .str s, .sl rows], .int .i64 400]) fun v => kBool v fun b => bif b then some (.bool true) else wrc7_0 L (IntKind.wrap .i64 (v3 + 1))) else none else none else none else some (.bool false)) P) : Gets (wrc7_0 L v3) P :=
  Gets.ev (fun _ h => loop_step (cfg := cfg) (f := 55) (rd := none) (bs := 0) h) (Gets.eq (by kernel_rfl) h)
theorem wrc31_0_step (L : List (List AV)) (v8 : Int) {P : AV → Prop} (h : Gets (bif decide (v8 < (L.length : Int)) then bif leInt 0 v8 && ltInt v8 (L.length : Int) then kOpt (List.get?Internal L (v8.toNat)) fun row => bif Nat.beq (List.length row) 4 then bif Nat.ble 4 (List.length row) then kTmC (List.take 4 row) fun n n_1 s rows => (kOpt (EVs (EV cfg) 224 [.agg [AV.int .i64 n, .int .i64 n_1, .str s, .sl rows]]) fun v => kBool v fun b => bif b then some (.int .i64 v8) else wrc31_0 L (IntKind.wrap .i64 (v8 + 1))) else none else none else none else some (.int .i64 (- 1))) P) : Gets (wrc31_0 L v8) P :=
  Gets.ev (fun _ h => loop_step (cfg := cfg) (f := 124) (rd := none) (bs := 0) h) (Gets.eq (by kernel_rfl) h)
theorem wrc31_0a_step (L : List (List AV)) (kt nt : Int) (st : List UInt8) (lt : List (List AV)) (v8 : Int) {P : AV → Prop} (h : Gets (bif decide (v8 < (L.length : Int)) then bif leInt 0 v8 && ltInt v8 (L.length : Int) then kOpt (List.get?Internal L (v8.toNat)) fun row => bif Nat.beq (List.length row) 4 then bif Nat.ble 4 (List.length row) then kTmC (List.take 4 row) fun n n_1 s rows => (kOpt (EVs (EV cfg) 144 [.agg [AV.int .i64 n, .int .i64 n_1, .str s, .sl rows], AV.cptr [AV.int .i64 kt, .int .i64 nt, .str st, .sl lt] 0]) fun v => kBool v fun b => bif b then some (.int .i64 v8) else wrc31_0a L kt nt st lt (IntKind.wrap .i64 (v8 + 1))) else none else none else none else some (.int .i64 (- 1))) P) : Gets (wrc31_0a L kt nt st lt v8) P :=
  Gets.ev (fun _ h => loop_step (cfg := cfg) (f := 124) (rd := none) (bs := 0) h) (Gets.eq (by kernel_rfl) h)
theorem wrc80_0_step (L : List (List AV)) (kt nt : Int) (st : List UInt8) (lt : List (List AV)) (v8 : Int) {P : AV → Prop} (h : Gets (bif decide (v8 < (L.length : Int)) then bif leInt 0 v8 && ltInt v8 (L.length : Int) then kOpt (List.get?Internal L (v8.toNat)) fun row => bif Nat.beq (List.length row) 2 then bif Nat.ble 2 (List.length row) then kCons (List.take 2 row) fun c cs => kInt .i64 c fun n => kCons cs fun c cs => kSl c fun rows => kNil cs (kOpt (EVs (EV cfg) 145 [.agg [AV.int .i64 n, .sl rows], AV.cptr [AV.int .i64 kt, .int .i64 nt, .str st, .sl lt] 0]) fun v => kBool v fun b => bif b then some (.int .i64 v8) else wrc80_0 L kt nt st lt (IntKind.wrap .i64 (v8 + 1))) else none else none else none else some (.int .i64 (- 1 : Int))) P) : Gets (wrc80_0 L kt nt st lt v8) P :=
  Gets.ev (fun _ h => loop_step (cfg := cfg) (f := 214) (rd := none) (bs := 0) h) (Gets.eq (by kernel_rfl) h)
theorem wrc110_0_step (L M : List (List AV)) (v17 : Int) {P : AV → Prop} (h : Gets (bif decide (v17 < (L.length : Int)) then bif leInt 0 v17 && ltInt v17 (L.length : Int) then kOpt (List.get?Internal L (v17.toNat)) fun row => bif Nat.beq (List.length row) 4 then bif Nat.ble 4 (List.length row) then kTmC (List.take 4 row) fun n n_1 s rows => (bif leInt 0 v17 && ltInt v17 (M.length : Int) then kOpt (List.get?Internal M (v17.toNat)) fun row => bif Nat.beq (List.length row) 4 then bif Nat.ble 4 (List.length row) then kTmC (List.take 4 row) fun n_2 n_3 s_1 rows_1 => (kOpt (EVs (EV cfg) 136 [.agg [AV.int .i64 n, .int .i64 n_1, .str s, .sl rows], .agg [AV.int .i64 n_2, .int .i64 n_3, .str s_1, .sl rows_1]]) fun v => kBool v fun b => bif ! b then some (.bool false) else wrc110_0 L M (IntKind.wrap .i64 (v17 + 1))) else none else none else none) else none else none else none else some (.bool true)) P) : Gets (wrc110_0 L M v17) P :=
  Gets.ev (fun _ h => loop_step (cfg := cfg) (f := 276) (rd := none) (bs := 0) h) (Gets.eq (by kernel_rfl) h)
theorem wrc63_0_step (L M : List (List AV)) (v13 : Int) {P : AV → Prop} (h : Gets (bif decide (v13 < (L.length : Int)) then bif leInt 0 v13 && ltInt v13 (L.length : Int) then kOpt (List.get?Internal L (v13.toNat)) fun row => bif Nat.beq (List.length row) 4 then bif Nat.ble 4 (List.length row) then kTmC (List.take 4 row) fun n n_1 s rows => (bif decide (v13 ≥ (↑ (List.length M) : Int)) then some (.int .i64 1) else bif leInt 0 v13 && ltInt v13 (M.length : Int) then kOpt (List.get?Internal M (v13.toNat)) fun row => bif Nat.beq (List.length row) 4 then bif Nat.ble 4 (List.length row) then kTmC (List.take 4 row) fun n_2 n_3 s_1 rows_1 => (kOpt (EVs (EV cfg) 134 [.agg [AV.int .i64 n, .int .i64 n_1, .str s, .sl rows], .agg [AV.int .i64 n_2, .int .i64 n_3, .str s_1, .sl rows_1]]) fun v => kInt .i64 v fun n => bif n != 0 then some (.int .i64 n) else wrc63_0 L M (IntKind.wrap .i64 (v13 + 1))) else none else none else none) else none else none else none else bif decide ((L.length : Int) < (M.length : Int)) then some (.int .i64 (- 1)) else some (.int .i64 0)) P) : Gets (wrc63_0 L M v13) P :=
  Gets.ev (fun _ h => loop_step (cfg := cfg) (f := 150) (rd := none) (bs := 0) h) (Gets.eq (by kernel_rfl) h)
theorem wrc15_1_step (nv3 : Nat) (v5 : Int) (h0 : List (List AV)) {P : AV → Prop} (h : Gets (bif decide (v5 < (↑ nv3 : Int)) then bif leInt 0 v5 && ltInt v5 (↑ nv3 : Int) then kOpt (List.get?Internal h0 (0 + v5.toNat)) fun row => bif Nat.ble 4 (List.length row) then kTmC (List.take 4 row) fun n n_1 s rows => (kOpt (EVs (EV cfg) 41 [.agg [AV.int .i64 n, .int .i64 n_1, .str s, .sl rows], .int .i64 100]) fun v => kBool v fun b => bif b then some (.bool true) else wrc15_1 nv3 (IntKind.wrap .i64 (v5 + 1)) h0) else none else none else some (.bool false)) P) : Gets (wrc15_1 nv3 v5 h0) P :=
  Gets.ev (fun _ h => loop_step (cfg := cfg) (f := 60) (rd := none) (bs := 0) h) (Gets.eq (by kernel_rfl) h)
end Go.Proofs.YtkgkjngbfdnoiaaGreat
end

section
namespace Go.Proofs.YtkgkjngbfdnoiaaGreat
open Go.Av
set_option maxRecDepth 100000
set_option maxHeartbeats 0

noncomputable def Lq62_0 : Den := evC cfg (EV cfg) 219 none 0 (sub (bodyOf Tryz.f219) [1, 1, 0, 1, 0, 0])
noncomputable def Aq62_0 : Ex × List AV × AH → Option AV := kAft (Cfg.keepOut cfg 219 3) (kRun cfg (EV cfg) (kfN cfg 6) 219 none 0 (kFinS cfg (Cfg.lift cfg 219 0) Tryz.f219.results.toList) ([.block 0, .seq (sub (bodyOf Tryz.f219) [1, 1, 1])]))
noncomputable def Wq62_0 : List AV × AH → Option AV := fun p => kOpt (LOOP 0 (some [3, 6, 7, 8]) ([]) Lq62_0 p) Aq62_0
noncomputable def Lq97_0 : Den := evC cfg (EV cfg) 150 none 0 (sub (bodyOf Tryz.f150) [1, 0, 1, 0, 0])
noncomputable def Aq97_0 : Ex × List AV × AH → Option AV := kAft (Cfg.keepOut cfg 150 2) (kRun cfg (EV cfg) (kfN cfg 6) 150 none 0 (kFinS cfg (Cfg.lift cfg 150 0) Tryz.f150.results.toList) ([.block 0, .seq (sub (bodyOf Tryz.f150) [1, 1])]))
noncomputable def Wq97_0 : List AV × AH → Option AV := fun p => kOpt (LOOP 0 (some [0, 1, 2, 11, 12, 13]) ([]) Lq97_0 p) Aq97_0
noncomputable def Lq15_0 : Den := evC cfg (EV cfg) 134 none 0 (sub (bodyOf Tryz.f134) [1, 0, 1, 0, 0])
noncomputable def Aq15_0 : Ex × List AV × AH → Option AV := kAft (Cfg.keepOut cfg 134 1) (kRun cfg (EV cfg) (kfN cfg 6) 134 none 0 (kFinS cfg (Cfg.lift cfg 134 0) Tryz.f134.results.toList) ([.block 0, .scope]))
noncomputable def Wq15_0 : List AV × AH → Option AV := fun p => kOpt (LOOP 0 (some [2, 3]) ([]) Lq15_0 p) Aq15_0
noncomputable abbrev wq62_0 (a b c v8 : Int) : Option (AV) := Wq62_0  (((fx 18 [(3, .int .i64 (0 : Int)), (6, .sl [[.int .i64 a], [.int .i64 b], [.int .i64 c]]), (7, .int .i64 (3 : Int)), (8, .int .i64 v8)]) : List AV), ([] : AH))
noncomputable abbrev wq62_0a (a b v8 : Int) : Option (AV) := Wq62_0  (((fx 18 [(3, .int .i64 (0 : Int)), (6, .sl [[.int .i64 a], [.int .i64 b]]), (7, .int .i64 (2 : Int)), (8, .int .i64 v8)]) : List AV), ([] : AH))
noncomputable abbrev wq97_0 (A B : List (List AV)) (v13 : Int) : Option (AV) := Wq97_0  (((fx 39 [(0, .sl A), (1, .sl B), (2, .fn (Fn.func 134) [] []), (11, .sl A), (12, .int .i64 (A.length : Int)), (13, .int .i64 v13)]) : List AV), ([] : AH))
noncomputable abbrev wq15_0 (c0_0 c0_1 : Int) (c0_2 : List UInt8) (c0_3 : List (List AV)) (c1_0 c1_1 : Int) (c1_2 : List UInt8) (c1_3 : List (List AV)) : Option (AV) := Wq15_0  (((fx 117 [(2, .ptr 0 0 0), (3, .ptr 1 0 0)]) : List AV), ([.rows false 4 [[.int .i64 c0_0, .int .i64 c0_1, .str c0_2, .sl c0_3]], .rows false 4 [[.int .i64 c1_0, .int .i64 c1_1, .str c1_2, .sl c1_3]]] : AH))
theorem cmpI_run (a b : Int) {P : AV → Prop} (h : Gets (kOpt (EVs (EV cfg) 226 [.int .i64 a]) fun v => kBool v fun b_1 => kOpt (EVs (EV cfg) 226 [.int .i64 b]) fun v => kBool v fun b_2 => bif b_1 then bif b_2 then some (.int .i64 0) else some (.int .i64 (- 1)) else bif b_2 then some (.int .i64 1) else bif decide (a < b) then some (.int .i64 (- 1)) else bif decide (a > b) then some (.int .i64 1) else some (.int .i64 0)) P) : Gets (EVs (EV cfg) 149 ([AV.int IntKind.i64 a, AV.int IntKind.i64 b] : List AV)) P :=
  Gets.ev (fun _ h => funS rfl rfl Tryz.func149 rfl h) (Gets.eq (by kernel_rfl) h)
theorem cmpSt_run (a b : List UInt8) {P : AV → Prop} (h : Gets (kOpt (EVs (EV cfg) 287 [.str a, .str b]) fun v => kInt .i64 v fun n => some (.int .i64 n)) P) : Gets (EVs (EV cfg) 218 ([AV.str a, AV.str b] : List AV)) P :=
  Gets.ev (fun _ h => funS rfl rfl Tryz.func218 rfl h) (Gets.eq (by kernel_rfl) h)
theorem or3_run (a b c : Int) {P : AV → Prop} (h : Gets (wq62_0 a b c 0) P) : Gets (EVs (EV cfg) 219 ([AV.sl [[AV.int IntKind.i64 a], [AV.int IntKind.i64 b], [AV.int IntKind.i64 c]]] : List AV)) P :=
  Gets.ev (fun _ h => funS rfl rfl Tryz.func219 rfl h) (Gets.eq (by kernel_rfl) h)
theorem or2_run (a b : Int) {P : AV → Prop} (h : Gets (wq62_0a a b 0) P) : Gets (EVs (EV cfg) 219 ([AV.sl [[AV.int IntKind.i64 a], [AV.int IntKind.i64 b]]] : List AV)) P :=
  Gets.ev (fun _ h => funS rfl rfl Tryz.func219 rfl h) (Gets.eq (by kernel_rfl) h)
theorem cmpFunc_run (A B : List (List AV)) {P : AV → Prop} (h : Gets (wq97_0 A B 0) P) : Gets (EVs (EV cfg) 150 ([AV.sl A, AV.sl B, AV.fn (Fn.func 134) [] []] : List AV)) P :=
  Gets.ev (fun _ h => funS rfl rfl Tryz.func150 rfl h) (Gets.eq (by kernel_rfl) h)
theorem isNaNI_run (a : Int) {P : AV → Prop} (h : Gets (some (.bool (a != a))) P) : Gets (EVs (EV cfg) 226 ([AV.int IntKind.i64 a] : List AV)) P :=
  Gets.ev (fun _ h => funS rfl rfl Tryz.func226 rfl h) (Gets.eq (by kernel_rfl) h)
theorem cmpStr_run (a b : List UInt8) {P : AV → Prop} (h : Gets (kOpt (EVs (EV cfg) 308 [.str a, .str b]) fun v => kInt .i64 v fun n => some (.int .i64 n)) P) : Gets (EVs (EV cfg) 287 ([AV.str a, AV.str b] : List AV)) P :=
  Gets.ev (fun _ h => funS rfl rfl Tryz.func287 rfl h) (Gets.eq (by kernel_rfl) h)
theorem order_lists_run (A B : List (List AV)) {P : AV → Prop} (h : Gets (kOpt (EVs (EV cfg) 150 [.sl A, .sl B, AV.fn (Fn.func 134) [] []]) fun v => kInt .i64 v fun n => some (.int .i64 n)) P) : Gets (EVs (EV cfg) 220 ([AV.sl A, AV.sl B] : List AV)) P :=
  Gets.ev (fun _ h => funS rfl rfl Tryz.func220 rfl h) (Gets.eq (by kernel_rfl) h)
theorem oCompare_run (ka na : Int) (sa : List UInt8) (la : List (List AV)) (kb nb : Int) (sb : List UInt8) (lb : List (List AV)) {P : AV → Prop} (h : Gets (wq15_0 ka na sa la kb nb sb lb) P) : Gets (EVs (EV cfg) 134 ([AV.agg [AV.int IntKind.i64 ka, AV.int IntKind.i64 na, AV.str sa, AV.sl la], AV.agg [AV.int IntKind.i64 kb, AV.int IntKind.i64 nb, AV.str sb, AV.sl lb]] : List AV)) P :=
  Gets.ev (fun _ h => funS rfl rfl Tryz.func134 rfl h) (Gets.eq (by kernel_rfl) h)
theorem wq62_0_step (a b c v8 : Int) {P : AV → Prop} (h : Gets (bif decide (v8 < 3) then bif leInt 0 v8 && ltInt v8 (↑ 3 : Int) then kOpt (List.get?Internal [[.int .i64 a], [.int .i64 b], [.int .i64 c]] (v8.toNat)) fun row => bif Nat.beq (List.length row) 1 then kOpt (List.get?Internal row 0) fun v => kInt .i64 v fun n => bif n != 0 then some (.int .i64 n) else wq62_0 a b c (IntKind.wrap .i64 (v8 + 1)) else none else none else some (.int .i64 0)) P) : Gets (wq62_0 a b c v8) P :=
  Gets.ev (fun _ h => loop_step (cfg := cfg) (f := 219) (rd := none) (bs := 0) h) (Gets.eq (by kernel_rfl) h)
theorem wq62_0a_step (a b v8 : Int) {P : AV → Prop} (h : Gets (bif decide (v8 < 2) then bif leInt 0 v8 && ltInt v8 (↑ 2 : Int) then kOpt (List.get?Internal [[.int .i64 a], [.int .i64 b]] (v8.toNat)) fun row => bif Nat.beq (List.length row) 1 then kOpt (List.get?Internal row 0) fun v => kInt .i64 v fun n => bif n != 0 then some (.int .i64 n) else wq62_0a a b (IntKind.wrap .i64 (v8 + 1)) else none else none else some (.int .i64 0)) P) : Gets (wq62_0a a b v8) P :=
  Gets.ev (fun _ h => loop_step (cfg := cfg) (f := 219) (rd := none) (bs := 0) h) (Gets.eq (by kernel_rfl) h)
theorem wq97_0_step (A B : List (List AV)) (v13 : Int) {P : AV → Prop} (h : Gets (bif decide (v13 < (A.length : Int)) then bif leInt 0 v13 && ltInt v13 (A.length : Int) then kOpt (List.get?Internal A (v13.toNat)) fun row => bif Nat.beq (List.length row) 4 then bif Nat.ble 4 (List.length row) then kTmC (List.take 4 row) fun n n_1 s rows => (bif decide (v13 ≥ (↑ (List.length B) : Int)) then some (.int .i64 1) else bif leInt 0 v13 && ltInt v13 (B.length : Int) then kOpt (List.get?Internal B (v13.toNat)) fun row => bif Nat.beq (List.length row) 4 then bif Nat.ble 4 (List.length row) then kTmC (List.take 4 row) fun n_2 n_3 s_1 rows_1 => (kOpt (EVs (EV cfg) 134 [.agg [.int .i64 n, .int .i64 n_1, .str s, .sl rows], .agg [.int .i64 n_2, .int .i64 n_3, .str s_1, .sl rows_1]]) fun v => kInt .i64 v fun n => bif n != 0 then some (.int .i64 n) else wq97_0 A B (IntKind.wrap .i64 (v13 + 1))) else none else none else none) else none else none else none else bif decide ((A.length : Int) < (B.length : Int)) then some (.int .i64 (- 1)) else some (.int .i64 0)) P) : Gets (wq97_0 A B v13) P :=
  Gets.ev (fun _ h => loop_step (cfg := cfg) (f := 150) (rd := none) (bs := 0) h) (Gets.eq (by kernel_rfl) h)
noncomputable abbrev zc0 (c0_1 c1_1 : Int) : Option (AV) := kOpt (EVs (EV cfg) 149 [.int .i64 c0_1, .int .i64 c1_1]) fun v => kInt .i64 v fun n => some (.int .i64 n)
noncomputable abbrev zc5 (n n_1 : Int) : Option (AV) := kOpt (EVs (EV cfg) 219 [.sl [[.int .i64 n], [.int .i64 n_1]]]) fun v => kInt .i64 v fun n => some (.int .i64 n)
noncomputable abbrev zc4 (v : AV) (n : Int) : Option (AV) := kInt .i64 v fun n_1 => zc5 n n_1
noncomputable abbrev zc3 (c0_3 c1_3 : List (List AV)) (n : Int) : Option (AV) := kOpt (EVs (EV cfg) 220 [.sl c0_3, .sl c1_3]) fun v => zc4 v n
noncomputable abbrev zc2 (v : AV) (c0_3 c1_3 : List (List AV)) : Option (AV) := kInt .i64 v fun n => zc3 c0_3 c1_3 n
noncomputable abbrev zc1 (c0_3 c1_3 : List (List AV)) : Option (AV) := kOpt (EVs (EV cfg) 149 [.int .i64 (c0_3.length : Int), .int .i64 (↑ (List.length c1_3) : Int)]) fun v => zc2 v c0_3 c1_3
theorem wq15_0_step (c0_0 c0_1 : Int) (c0_2 : List UInt8) (c0_3 : List (List AV)) (c1_0 c1_1 : Int) (c1_2 : List UInt8) (c1_3 : List (List AV)) {P : AV → Prop} (h : Gets (kOpt (EVs (EV cfg) 149 [.int .i64 c0_0, .int .i64 c1_0]) fun v => kInt .i64 v fun n => bif n != 0 then some (.int .i64 n) else bif c0_0 == 1 then zc0 c0_1 c1_1 else bif c0_0 == 3 then zc0 c0_1 c1_1 else bif c0_0 == 4 then zc0 c0_1 c1_1 else bif c0_0 == 6 then zc0 c0_1 c1_1 else bif c0_0 == 2 then kOpt (EVs (EV cfg) 218 [.str c0_2, .str c1_2]) fun v => kInt .i64 v fun n => some (.int .i64 n) else bif c0_0 == 5 then kOpt (EVs (EV cfg) 149 [.int .i64 c0_1, .int .i64 c1_1]) fun v => kInt .i64 v fun n => kOpt (EVs (EV cfg) 149 [.int .i64 (c0_3.length : Int), .int .i64 (c1_3.length : Int)]) fun v => kInt .i64 v fun n_1 => kOpt (EVs (EV cfg) 220 [.sl c0_3, .sl c1_3]) fun v => kInt .i64 v fun n_2 => kOpt (EVs (EV cfg) 219 [.sl [[.int .i64 n], [.int .i64 n_1], [.int .i64 n_2]]]) fun v => kInt .i64 v fun n => some (.int .i64 n) else bif c0_0 == 9 then bif (↑ (List.length c0_3) : Int) == 2 then bif (c1_3.length : Int) == 2 then bif ltInt 0 (c0_3.length : Int) then kOpt (List.get?Internal c0_3 0) fun row => bif Nat.beq (List.length row) 4 then bif Nat.ble 4 (List.length row) then kTmC (List.take 4 row) fun n n_1 s rows => (bif ltInt (0 : Int) (c1_3.length : Int) then kOpt (List.get?Internal c1_3 0) fun row => bif Nat.beq (List.length row) 4 then bif Nat.ble 4 (List.length row) then kTmC (List.take 4 row) fun n_2 n_3 s_1 rows_1 => (kOpt (EVs (EV cfg) 134 [.agg [.int .i64 n, .int .i64 n_1, .str s, .sl rows], .agg [.int .i64 n_2, .int .i64 n_3, .str s_1, .sl rows_1]]) fun v => kInt .i64 v fun n => bif n != 0 then some (.int .i64 n) else bif ltInt 1 (c0_3.length : Int) then kOpt (List.get?Internal c0_3 1) fun row => bif Nat.beq (List.length row) 4 then bif Nat.ble 4 (List.length row) then kTmC (List.take 4 row) fun n n_4 s rows => (bif ltInt 1 (c1_3.length : Int) then kOpt (List.get?Internal c1_3 1) fun row => bif Nat.beq (List.length row) 4 then bif Nat.ble 4 (List.length row) then kTmC (List.take 4 row) fun n_5 n_6 s_2 rows_2 => (wq15_0 n n_4 s rows n_5 n_6 s_2 rows_2) else none else none else none) else none else none else none) else none else none else none) else none else none else none else zc1 c0_3 c1_3 else zc1 c0_3 c1_3 else bif c0_0 == 7 then kOpt (EVs (EV cfg) 149 [.int .i64 (c0_3.length : Int), .int .i64 (c1_3.length : Int)]) fun v => zc2 v c0_3 c1_3 else some (.int .i64 0)) P) : Gets (wq15_0 c0_0 c0_1 c0_2 c0_3 c1_0 c1_1 c1_2 c1_3) P :=
  Gets.ev (fun _ h => loop_step (cfg := cfg) (f := 134) (rd := none) (bs := 0) h) (Gets.eq (by kernel_rfl) h)
end Go.Proofs.YtkgkjngbfdnoiaaGreat
end

section
namespace Go.Av
def Tells (p : Prop) (v : AV) : Prop := ∃ b : Bool, v = .bool b ∧ (b = true ↔ p)
theorem tells_bool {p : Prop} {b : Bool} : Tells p (.bool b) ↔ (b = true ↔ p) := ⟨fun ⟨_, h1, h2⟩ => by cases h1; exact h2, fun h => ⟨b, rfl, h⟩⟩
end Go.Av
namespace Go.Proofs.YtkgkjngbfdnoiaaGreat
open Go.Av

theorem fits56 {n : Nat} (h : n ≤ 1099511627776) : fitsIn n 56 = true := by
 unfold fitsIn
 rw [Bool.and_eq_true, Nat.ble_eq, Nat.ble_eq]
 omega

theorem av_unf (t : Tm) : (AV.agg [.int .i64 t.kind, .int .i64 t.num, .str t.str, .sl (rowsT t.subs)]) = t.av := by rw [Tm.av, Tm.cells_eq]
end Go.Proofs.YtkgkjngbfdnoiaaGreat
end

section
namespace Go.Proofs.YtkgkjngbfdnoiaaGreat
open Go.Av
set_option maxRecDepth 100000

theorem isNaN_ev (a : Int) : EVs (EV cfg) 226 [.int .i64 a] = some (.bool false) := by
 apply Gets.get
 refine isNaNI_run _ ?_
 simp
theorem cmp_ev (a b : Int) : EVs (EV cfg) 149 [.int .i64 a, .int .i64 b] = some (.int .i64 (numC a b)) := by
 apply Gets.get
 refine cmpI_run _ _ ?_
 rw [isNaN_ev, isNaN_ev]
 unfold numC
 by_cases h1 : a < b
 ·simp [h1]
 ·by_cases h2 : b < a
  ·simp [h1, h2]
  ·simp [h1, h2]
theorem cmpstr_ev (a b : List UInt8) : EVs (EV cfg) 308 [.str a, .str b] = some (.int .i64 (strC a b)) := by
 refine EVs_of (H := []) (EV_of ?_)
 have hx : cfg.ext 308 = some extCmp := rfl
 unfold evBody
 simp only [hx]
 unfold extCmp strC
 by_cases h : a = b
 ·simp [h]
 ·simp [h]
theorem strCmp_ev (a b : List UInt8) : EVs (EV cfg) 218 [.str a, .str b] = some (.int .i64 (strC a b)) := by
 have h96 : EVs (EV cfg) 287 [.str a, .str b] = some (.int .i64 (strC a b)) := by
  apply Gets.get
  refine cmpStr_run _ _ ?_
  rw [cmpstr_ev]; simp
 apply Gets.get
 refine cmpSt_run _ _ ?_
 rw [h96]; simp
theorem or3_ev (a b c : Int) : EVs (EV cfg) 219 [.sl [[.int .i64 a], [.int .i64 b], [.int .i64 c]]] = some (.int .i64 (if a ≠ 0 then a else if b ≠ 0 then b else c)) := by
 apply Gets.get
 refine or3_run _ _ _ ?_
 have w1 : IntKind.wrap .i64 (0 + 1) = 1 := wrap64 (by omega) (by omega)
 have w2 : IntKind.wrap .i64 (1 + 1) = 2 := wrap64 (by omega) (by omega)
 have w3 : IntKind.wrap .i64 (2 + 1) = 3 := wrap64 (by omega) (by omega)
 have s3 : Gets (wq62_0 a b c 3) (· = .int .i64 0) := by
  refine wq62_0_step _ _ _ _ ?_
  simp
 have s2 : Gets (wq62_0 a b c 2) (· = .int .i64 c) := by
  refine wq62_0_step _ _ _ _ ?_
  rw [w3]
  by_cases h : c = 0
  ·subst h; simp; exact s3
  ·simp [bneD, h]
 have s1 : Gets (wq62_0 a b c 1) (· = .int .i64 (if b ≠ 0 then b else c)) := by
  refine wq62_0_step _ _ _ _ ?_
  rw [w2]
  by_cases h : b = 0
  ·subst h; simp; exact s2
  ·simp [bneD, h]
 refine wq62_0_step _ _ _ _ ?_
 rw [w1]
 by_cases h : a = 0
 ·subst h; simp only [ne_eq, ite_not] at s1; simp; exact s1
 ·simp [bneD, h]
theorem or2_ev (a b : Int) : EVs (EV cfg) 219 [.sl [[.int .i64 a], [.int .i64 b]]] = some (.int .i64 (if a ≠ 0 then a else b)) := by
 apply Gets.get
 refine or2_run _ _ ?_
 have w1 : IntKind.wrap .i64 (0 + 1) = 1 := wrap64 (by omega) (by omega)
 have w2 : IntKind.wrap .i64 (1 + 1) = 2 := wrap64 (by omega) (by omega)
 have s2 : Gets (wq62_0a a b 2) (· = .int .i64 0) := by
  refine wq62_0a_step _ _ _ ?_
  simp
 have s1 : Gets (wq62_0a a b 1) (· = .int .i64 b) := by
  refine wq62_0a_step _ _ _ ?_
  rw [w2]
  by_cases h : b = 0
  ·subst h; simp; exact s2
  ·simp [bneD, h]
 refine wq62_0a_step _ _ _ ?_
 rw [w1]
 by_cases h : a = 0
 ·subst h; simp; exact s1
 ·simp [bneD, h]
theorem drop_get {β : Type} {l : List β} {i : Nat} {x : β} (h : l[i]? = some x) : l.drop i = x :: l.drop (i + 1) := by
 obtain ⟨h1, h2⟩ := List.getElem?_eq_some_iff.1 h
 rw [← h2]; exact List.drop_eq_getElem_cons h1

theorem dropNil {β : Type} {l : List β} {i : Nat} (h : l.length ≤ i) : l.drop i = [] := List.drop_eq_nil_of_le h

theorem listsE_of (la lb : List Tm) (hlen : la.length < 1099511627776) (ih : ∀ a ∈ la, ∀ b ∈ lb, EVs (EV cfg) 134 [a.av, b.av] = some (.int .i64 (cmpT a b))) :
  EVs (EV cfg) 150 [.sl (rowsT la), .sl (rowsT lb), .fn (.func 134) [] []] = some (.int .i64 (cmpE la lb)) := by
 have loop : ∀ (d i : Nat), i + d = la.length → Gets (wq97_0 (rowsT la) (rowsT lb) i) (· = .int .i64 (cmpE (la.drop i) (lb.drop i))) := by
  intro d
  induction d with
  | zero =>
   intro i hi
   refine wq97_0_step _ _ _ ?_
   rw [dropNil (l := la) (by omega)]
   by_cases h : i < lb.length
   ·obtain ⟨y, hy⟩ : ∃ y, lb[i]? = some y := ⟨_, List.getElem?_eq_getElem h⟩
    rw [drop_get hy, cmpE_nil_cons]
    simp [show ¬ i < la.length by omega, show la.length < lb.length by omega]
   ·rw [dropNil (l := lb) (by omega), cmpE_nil]
    simp [show ¬ i < la.length by omega, show ¬ la.length < lb.length by omega]
  | succ d ihd =>
   intro i hi
   refine wq97_0_step _ _ _ ?_
   obtain ⟨x, hx⟩ : ∃ x, la[i]? = some x := ⟨_, List.getElem?_eq_getElem (by omega)⟩
   rw [drop_get hx]
   by_cases h : i < lb.length
   ·obtain ⟨y, hy⟩ : ∃ y, lb[i]? = some y := ⟨_, List.getElem?_eq_getElem h⟩
    have hix := ih x (List.mem_of_getElem? hx) y (List.mem_of_getElem? hy)
    have hih := ihd (i + 1) (by omega)
    rw [drop_get hy, cmpE_cons]
    obtain ⟨k, n, s, l⟩ := x
    obtain ⟨k', n', s', l'⟩ := y
    simp only [get?Internal_eq, Int.toNat_natCast, rowsT_some hx, rowsT_some hy]
    simp [show i < la.length by omega, h, show ¬ lb.length ≤ i by omega, hix, bneD]
    by_cases hc : cmpT (.mk k n s l) (.mk k' n' s' l') = 0
    ·simp [hc]; rw [wrap_succ (n := la.length) (by omega) hlen]; exact hih
    ·simp [hc]
   ·rw [dropNil (l := lb) (by omega), cmpE_cons_nil]
    obtain ⟨k, n, s, l⟩ := x
    simp only [get?Internal_eq, Int.toNat_natCast, rowsT_some hx]
    simp [show i < la.length by omega, show lb.length ≤ i by omega]
 apply Gets.get
 refine cmpFunc_run _ _ ?_
 exact loop la.length 0 (by omega)

theorem lists_of (la lb : List Tm) (hlen : la.length < 1099511627776) (ih : ∀ a ∈ la, ∀ b ∈ lb, EVs (EV cfg) 134 [a.av, b.av] = some (.int .i64 (cmpT a b))) :
  EVs (EV cfg) 220 [.sl (rowsT la), .sl (rowsT lb)] = some (.int .i64 (cmpE la lb)) := by
 apply Gets.get
 refine order_lists_run _ _ ?_
 rw [listsE_of la lb hlen ih]
 simp

theorem compare_loop (a : Tm) : a.Ok → ∀ (kb nb : Int) (sb : List UInt8) (lb : List Tm), (Tm.mk kb nb sb lb).Ok → Gets (wq15_0 a.kind a.num a.str (rowsT a.subs) kb nb sb (rowsT lb)) (· = .int .i64 (cmpT a (.mk kb nb sb lb))) := by
 induction a using Tm.ind with
 | _ k n s l ih =>
  intro hok kb nb sb lb hokb
  have ihe : ∀ a ∈ l, ∀ b ∈ lb, EVs (EV cfg) 134 [a.av, b.av] = some (.int .i64 (cmpT a b)) := by
   intro a ha b hb
   have := ih a ha (hok.sub ha)
   have hob := hokb.sub hb
   obtain ⟨k1, n1, s1, l1⟩ := a
   obtain ⟨k2, n2, s2, l2⟩ := b
   rw [Tm.av_mk, Tm.av_mk]
   apply Gets.get
   exact oCompare_run _ _ _ _ _ _ _ _ (this k2 n2 s2 l2 hob)
  have hlists := lists_of l lb hok.len ihe
  rw [cmpT_eq]
  refine wq15_0_step _ _ _ _ _ _ _ _ ?_
  unfold zc1 zc2 zc3 zc4 zc5 zc0
  simp only [Tm.kind, Tm.num, Tm.str, Tm.subs, cmp_ev, strCmp_ev, hlists, or2_ev, or3_ev, rowsT_length, kOptSome, kInt_int, bneD, beqD]
  by_cases h0 : ¬ numC k kb = 0
  ·simp [h0]
  have h0 : numC k kb = 0 := Classical.not_not.1 h0
  simp [h0]
  by_cases h1 : k = 1
  ·simp [h1]
  by_cases h3 : k = 3
  ·simp [h3]
  by_cases h4 : k = 4
  ·simp [h4]
  by_cases h6 : k = 6
  ·simp [h6]
  by_cases h2 : k = 2
  ·simp [h2]
  by_cases h5 : k = 5
  ·simp [h5, cmpL]
  by_cases h9 : k = 9
  ·subst h9
   by_cases hl : l.length = 2
   ·by_cases hl' : lb.length = 2
    ·obtain ⟨x, y, rfl⟩ : ∃ x y, l = [x, y] := by
      match l, hl with
      | [x, y], _ => exact ⟨x, y, rfl⟩
     obtain ⟨x', y', rfl⟩ : ∃ x y, lb = [x, y] := by
      match lb, hl' with
      | [x, y], _ => exact ⟨x, y, rfl⟩
     have hx := ihe x (by simp) x' (by simp)
     have hy := ih y (by simp) (hok.sub (by simp))
     have hoy := hokb.sub (t := y') (by simp)
     have hcl : cmpL [x, y] [x', y'] = if cmpT x x' ≠ 0 then cmpT x x' else cmpT y y' := by
      unfold cmpL
      rw [cmpE_cons, cmpE_cons, cmpE_nil]
      by_cases e1 : cmpT x x' = 0 <;> by_cases e2 : cmpT y y' = 0 <;> simp [numC_self, e1, e2]
     obtain ⟨k1, n1, s1, l1⟩ := x
     obtain ⟨k2, n2, s2, l2⟩ := y
     obtain ⟨k1', n1', s1', l1'⟩ := x'
     obtain ⟨k2', n2', s2', l2'⟩ := y'
     have hyy := hy k2' n2' s2' l2' hoy
     simp only [rowsT_cons, rowsT_nil, Tm.cells_mk]
     simp [hcl, hx]
     by_cases hc : cmpT (.mk k1 n1 s1 l1) (.mk k1' n1' s1' l1') = 0
     ·simp [hc]; exact hyy
     ·simp [hc]
    ·have : ¬ ((lb.length : Int) = 2) := by omega
     simp [hl, this, cmpL]
   ·have : ¬ ((l.length : Int) = 2) := by omega
    simp [this, cmpL]
  by_cases h7 : k = 7
  ·simp [h7, cmpL]
  simp [h1, h2, h3, h4, h5, h6, h7, h9]

theorem compare_ev {a b : Tm} (ha : a.Ok) (hb : b.Ok) : EVs (EV cfg) 134 [a.av, b.av] = some (.int .i64 (cmpT a b)) := by
 have := compare_loop a ha
 obtain ⟨k1, n1, s1, l1⟩ := a
 obtain ⟨k2, n2, s2, l2⟩ := b
 rw [Tm.av_mk, Tm.av_mk]
 apply Gets.get
 exact oCompare_run _ _ _ _ _ _ _ _ (this k2 n2 s2 l2 hb)

end Go.Proofs.YtkgkjngbfdnoiaaGreat
end

section
namespace Go.Proofs.YtkgkjngbfdnoiaaGreat
open Go.Av
set_option maxRecDepth 100000
set_option maxHeartbeats 0

noncomputable def Lq33_0 : Den := evC cfg (EV cfg) 238 none 5 (sub (bodyOf Tryz.f238) [1, 0, 0])
noncomputable def Aq33_0 : Ex × List AV × AH → Option AV := kAft (Cfg.keepOut cfg 238 (firstRid (sub (bodyOf Tryz.f238) [1, 0, 0]))) (kBlock 0 (kFinG cfg (Cfg.lift cfg 238 0) (fun (v : AV) (H : AH) => (fun (r : AV × AH) => kRangeEnd 0 4 (fx 17 [(2, AV.ptr 1 0 0), (3, AV.ptr 2 0 0)]) (kBlock 0 (kSeq (fun (fr : List AV) (H : AH) => kCutTo (Cfg.cut cfg 91 (firstRid (sub (bodyOf Tryz.f91) [1, 1, 1]))) fr H fun (fr : List AV) (H : AH) => kCode cfg (EV cfg) (kfN cfg 6) 91 none 0 (sub (bodyOf Tryz.f91) [1, 1, 1]) fr H (kFinS cfg (Cfg.lift cfg 91 0) (Array.toList (Func.results Tryz.f91)))) (kFinS cfg (Cfg.lift cfg 91 0) (Array.toList (Func.results Tryz.f91))))) (Prod.snd r)) (v, H)) (Array.toList (Func.results (Prod.snd (238, Tryz.f238))))))
noncomputable def Wq33_0 : List AV × AH → Option AV := fun (p : List AV × AH) => kOpt (LOOP 5 (some [0, 3]) [(3, 4)] Lq33_0 p) Aq33_0
noncomputable def Lq33_1 : Den := evC cfg (EV cfg) 273 none 10 (sub (bodyOf Tryz.f273) [1, 0, 0])
noncomputable def Aq33_1 : Ex × List AV × AH → Option AV := kAft (Cfg.keepOut cfg 273 (firstRid (sub (bodyOf Tryz.f273) [1, 0, 0]))) (kBlock 0 (kFinG cfg (Cfg.lift cfg 273 0) (fun (v : AV) (H : AH) => (fun (r : AV × AH) => kRangeEnd 5 9 (fx 38 [(0, AV.yld 4), (3, AV.ptr 5 0 0)]) (kBlock 2 (kBlock 1 (kLp 5 (some [0, 3]) [(3, 4)] Lq33_0 Aq33_0))) (Prod.snd r)) (v, H)) (Array.toList (Func.results (Prod.snd (273, Tryz.f273))))))
noncomputable def Wq33_1 : List AV × AH → Option AV := fun (p : List AV × AH) => kOpt (LOOP 10 (some [0, 1, 3]) [] Lq33_1 p) Aq33_1
noncomputable abbrev wq33_0 (c0_0 c0_1 : Int) (c0_2 : List UInt8) (c0_3 : List (List AV)) (c1_0 c2_0 c3_0 c3_1 : Int) (c3_2 : List UInt8) (c3_3 : List (List AV)) (nc5_0 : Nat) (h6 : List (List AV)) : Option (AV) := Wq33_0  (((fx 38 [(0, .yld 4), (3, .ptr 5 0 0)]) : List AV), ([.rows false 4 [[.int .i64 c0_0, .int .i64 c0_1, .str c0_2, .sl c0_3]], .rows false 1 [[.int .i64 c1_0]], .rows false 1 [[.int .i64 c2_0]], .rows false 4 [[.int .i64 c3_0, .int .i64 c3_1, .str c3_2, .sl c3_3]], rngB Tryz.f91 91 [1, 1, 0, 1, 0] (fx 17 [(2, .ptr 1 0 0), (3, .ptr 2 0 0)]) none LoopState.ready, .rows false 1 [[.ms 6 0 nc5_0]], .rows true 4 h6] : AH))
noncomputable abbrev wq33_1 (v3 c0_0 c0_1 : Int) (c0_2 : List UInt8) (c0_3 : List (List AV)) (c1_0 c2_0 c3_0 c3_1 : Int) (c3_2 : List UInt8) (c3_3 : List (List AV)) (nc5_0 : Nat) (h6 : List (List AV)) (c7_0 c7_1 : Int) (c7_2 : List UInt8) (c7_3 c8_0 : List (List AV)) : Option (AV) := Wq33_1  (((fx 19 [(0, .yld 9), (1, .ptr 8 0 0), (3, .int .i64 v3)]) : List AV), ([.rows false 4 [[.int .i64 c0_0, .int .i64 c0_1, .str c0_2, .sl c0_3]], .rows false 1 [[.int .i64 c1_0]], .rows false 1 [[.int .i64 c2_0]], .rows false 4 [[.int .i64 c3_0, .int .i64 c3_1, .str c3_2, .sl c3_3]], rngB Tryz.f91 91 [1, 1, 0, 1, 0] (fx 17 [(2, .ptr 1 0 0), (3, .ptr 2 0 0)]) none LoopState.ready, .rows false 1 [[.ms 6 0 nc5_0]], .rows true 4 h6, .rows false 4 [[.int .i64 c7_0, .int .i64 c7_1, .str c7_2, .sl c7_3]], .rows false 1 [[.sl c8_0]], rngB Tryz.f238 238 [1, 0, 0, 1, 0, 1, 1, 1, 1, 0] (fx 38 [(3, .ptr 5 0 0)]) none LoopState.ready] : AH))
noncomputable abbrev wq33_1a (v3 c0_0 c0_1 : Int) (c0_2 : List UInt8) (c0_3 : List (List AV)) (c1_0 c2_0 c3_0 c3_1 : Int) (c3_2 : List UInt8) (c3_3 : List (List AV)) (nc5_0 : Nat) (c7_0 c7_1 : Int) (c7_2 : List UInt8) (c7_3 c8_0 h10 : List (List AV)) : Option (AV) := Wq33_1  (((fx 19 [(0, .yld 9), (1, .ptr 8 0 0), (3, .int .i64 v3)]) : List AV), ([.rows false 4 [[.int .i64 c0_0, .int .i64 c0_1, .str c0_2, .sl c0_3]], .rows false 1 [[.int .i64 c1_0]], .rows false 1 [[.int .i64 c2_0]], .rows false 4 [[.int .i64 c3_0, .int .i64 c3_1, .str c3_2, .sl c3_3]], rngB Tryz.f91 91 [1, 1, 0, 1, 0] (fx 17 [(2, .ptr 1 0 0), (3, .ptr 2 0 0)]) none LoopState.ready, .rows false 1 [[.ms 10 0 nc5_0]], .dead, .rows false 4 [[.int .i64 c7_0, .int .i64 c7_1, .str c7_2, .sl c7_3]], .rows false 1 [[.sl c8_0]], rngB Tryz.f238 238 [1, 0, 0, 1, 0, 1, 1, 1, 1, 0] (fx 38 [(3, .ptr 5 0 0)]) none LoopState.ready, .rows true 4 h10] : AH))
noncomputable abbrev zg4 (kt : Int) (lt : List (List AV)) : Option (AV) := bif kt == 5 then some (.bool (decide ((lt.length : Int) ≤ 64))) else some (.bool false)
noncomputable abbrev zg3 (lt : List (List AV)) (kt : Int) : Option (AV) := bif (lt.length : Int) == 0 then some (.bool true) else zg4 kt lt
noncomputable abbrev zg2 (st : List UInt8) (lt : List (List AV)) (kt : Int) : Option (AV) := bif st == [] then zg3 lt kt else some (.bool false)
noncomputable abbrev zg1 (nt : Int) (st : List UInt8) (lt : List (List AV)) (kt : Int) : Option (AV) := bif decide (nt ≤ 1073741824) then zg2 st lt kt else some (.bool false)
noncomputable abbrev zg0 (nt : Int) (st : List UInt8) (lt : List (List AV)) (kt : Int) : Option (AV) := bif decide (nt ≥ 0) then zg1 nt st lt kt else some (.bool false)
theorem term_sound_run (kt nt : Int) (st : List UInt8) (lt : List (List AV)) {P : AV → Prop} (h : Gets (bif kt == 1 then bif decide (nt ≥ (- 576460752303423488)) then bif decide (nt ≤ 576460752303423487) then bif st == [] then some (.bool ((lt.length : Int) == 0)) else some (.bool false) else some (.bool false) else some (.bool false) else bif kt == 2 then bif nt == 0 then bif decide ((st.length : Int) ≤ 64) then some (.bool ((lt.length : Int) == 0)) else some (.bool false) else some (.bool false) else bif kt == 3 then bif decide (nt ≥ 0) then bif decide (nt ≤ 1073741824) then bif st == [] then bif (lt.length : Int) == 0 then some (.bool true) else bif kt == 5 then some (.bool (decide ((↑ (List.length lt) : Int) ≤ 64))) else some (.bool false) else some (.bool false) else some (.bool false) else some (.bool false) else bif kt == 4 then zg0 nt st lt kt else bif kt == 6 then zg0 nt st lt kt else bif kt == 5 then zg0 nt st lt kt else bif kt == 7 then bif nt == 0 then bif st == [] then some (.bool (decide ((lt.length : Int) ≤ 64))) else some (.bool false) else some (.bool false) else bif kt == 8 then bif nt == 0 then bif st == [] then some (.bool ((lt.length : Int) == 0)) else some (.bool false) else some (.bool false) else bif kt == 9 then bif nt == 0 then bif st == [] then some (.bool ((lt.length : Int) == 2)) else some (.bool false) else some (.bool false) else some (.bool false)) P) : Gets (EVs (EV cfg) 170 ([AV.agg [AV.int IntKind.i64 kt, AV.int IntKind.i64 nt, AV.str st, AV.sl lt]] : List AV)) P :=
  Gets.ev (fun _ h => funS rfl rfl Tryz.func170 rfl h) (Gets.eq (by kernel_rfl) h)
theorem term_own_run (kt nt : Int) (st : List UInt8) (lt : List (List AV)) {P : AV → Prop} (h : Gets (bif kt == 7 then some (.int .i64 2) else bif kt == 5 then some (.int .i64 2) else some (.int .i64 1)) P) : Gets (EVs (EV cfg) 171 ([AV.agg [AV.int IntKind.i64 kt, AV.int IntKind.i64 nt, AV.str st, AV.sl lt]] : List AV)) P :=
  Gets.ev (fun _ h => funS rfl rfl Tryz.func171 rfl h) (Gets.eq (by kernel_rfl) h)
theorem term_Check_run (kt nt : Int) (st : List UInt8) (lt : List (List AV)) {P : AV → Prop} (h : Gets (wq33_0 kt nt st lt 0 0 kt nt st lt 1 [[.int .i64 kt, .int .i64 nt, .str st, .sl lt]]) P) : Gets (EVs (EV cfg) 91 ([AV.agg [AV.int IntKind.i64 kt, AV.int IntKind.i64 nt, AV.str st, AV.sl lt]] : List AV)) P :=
  Gets.ev (fun _ h => funS rfl rfl Tryz.func91 rfl h) (Gets.eq (by kernel_rfl) h)
theorem wq33_0_step (c0_0 c0_1 : Int) (c0_2 : List UInt8) (c0_3 : List (List AV)) (c1_0 c2_0 c3_0 c3_1 : Int) (c3_2 : List UInt8) (c3_3 : List (List AV)) (nc5_0 : Nat) (h6 : List (List AV)) {P : AV → Prop} (h : Gets (bif decide ((↑ nc5_0 : Int) > 0) then bif leInt 0 (IntKind.wrap .i64 ((↑ nc5_0 : Int) - 1)) && ltInt (IntKind.wrap .i64 ((↑ nc5_0 : Int) - 1)) (↑ nc5_0 : Int) then kOpt (List.get?Internal h6 (0 + Int.toNat (IntKind.wrap .i64 ((↑ nc5_0 : Int) - 1)))) fun row => bif Nat.ble 4 (List.length row) then kTmC (List.take 4 row) fun n n_1 s rows => (bif leInt 0 (IntKind.wrap .i64 ((↑ nc5_0 : Int) - 1)) && leInt (IntKind.wrap .i64 ((↑ nc5_0 : Int) - 1)) (↑ nc5_0 : Int) then kOpt (EVs (EV cfg) 170 [.agg [.int .i64 n, .int .i64 n_1, .str s, .sl rows]]) fun v => kBool v fun b => bif ! b then some (.int .i64 2) else kOpt (EVs (EV cfg) 171 [.agg [.int .i64 n, .int .i64 n_1, .str s, .sl rows]]) fun v => kInt .i64 v fun n_2 => wq33_1 (IntKind.wrap .i64 ((↑ (List.length rows) : Int) - 1)) c0_0 c0_1 c0_2 c0_3 c1_0 (IntKind.wrap .i64 (c2_0 + n_2)) c3_0 c3_1 c3_2 c3_3 (Int.toNat (IntKind.wrap .i64 ((↑ nc5_0 : Int) - 1)) - 0) h6 n n_1 s rows rows else none) else none else none else bif decide (c2_0 > 65536) then some (.int .i64 3) else some (.int .i64 0)) P) : Gets (wq33_0 c0_0 c0_1 c0_2 c0_3 c1_0 c2_0 c3_0 c3_1 c3_2 c3_3 nc5_0 h6) P :=
  Gets.ev (fun _ h => loop_step (cfg := cfg) (f := 238) (rd := none) (bs := 5) h) (Gets.eq (by kernel_rfl) h)
noncomputable abbrev zg10 (row : List AV) (nc5_0 : Nat) (h6 : List (List AV)) (v3 c0_0 c0_1 : Int) (c0_2 : List UInt8) (c0_3 : List (List AV)) (c1_0 c2_0 c3_0 c3_1 : Int) (c3_2 : List UInt8) (c3_3 : List (List AV)) (c7_0 c7_1 : Int) (c7_2 : List UInt8) (c7_3 c8_0 : List (List AV)) : Option (AV) := kTmC (List.take 4 row) fun n n_1 s rows => (bif Nat.ble (0 + nc5_0) (List.length h6) && fitsIn (nc5_0 + 1) 56 then bif leInt 0 (↑ nc5_0 : Int) && ltInt (↑ nc5_0 : Int) (↑ (nc5_0 + 1) : Int) then kOpt (List.get?Internal (List.append (List.take nc5_0 h6) [[.int .i64 0, .int .i64 0, .str [], .nilS]]) (0 + Int.toNat (↑ nc5_0 : Int))) fun row => bif Nat.ble 4 (List.length row) then wq33_1a (IntKind.wrap .i64 (v3 - (1 : Int))) c0_0 c0_1 c0_2 c0_3 c1_0 c2_0 c3_0 c3_1 c3_2 c3_3 (nc5_0 + 1) c7_0 c7_1 c7_2 c7_3 c8_0 (List.set (List.append (List.take nc5_0 h6) [[.int .i64 0, .int .i64 0, .str [], .nilS]]) (0 + Int.toNat (↑ nc5_0 : Int)) (.int .i64 n :: .int .i64 n_1 :: .str s :: .sl rows :: List.drop 4 row)) else none else none else none)
noncomputable abbrev zg9 (row : List AV) (nc5_0 : Nat) (h6 : List (List AV)) (v3 c0_0 c0_1 : Int) (c0_2 : List UInt8) (c0_3 : List (List AV)) (c1_0 c2_0 c3_0 c3_1 : Int) (c3_2 : List UInt8) (c3_3 : List (List AV)) (c7_0 c7_1 : Int) (c7_2 : List UInt8) (c7_3 c8_0 : List (List AV)) : Option (AV) := bif Nat.ble 4 (List.length row) then zg10 row nc5_0 h6 v3 c0_0 c0_1 c0_2 c0_3 c1_0 c2_0 c3_0 c3_1 c3_2 c3_3 c7_0 c7_1 c7_2 c7_3 c8_0 else none
noncomputable abbrev zg8 (row : List AV) (nc5_0 : Nat) (h6 : List (List AV)) (v3 c0_0 c0_1 : Int) (c0_2 : List UInt8) (c0_3 : List (List AV)) (c1_0 c2_0 c3_0 c3_1 : Int) (c3_2 : List UInt8) (c3_3 : List (List AV)) (c7_0 c7_1 : Int) (c7_2 : List UInt8) (c7_3 c8_0 : List (List AV)) : Option (AV) := bif Nat.beq (List.length row) 4 then zg9 row nc5_0 h6 v3 c0_0 c0_1 c0_2 c0_3 c1_0 c2_0 c3_0 c3_1 c3_2 c3_3 c7_0 c7_1 c7_2 c7_3 c8_0 else none
noncomputable abbrev zg7 (c8_0 : List (List AV)) (v3 : Int) (nc5_0 : Nat) (h6 : List (List AV)) (c0_0 c0_1 : Int) (c0_2 : List UInt8) (c0_3 : List (List AV)) (c1_0 c2_0 c3_0 c3_1 : Int) (c3_2 : List UInt8) (c3_3 : List (List AV)) (c7_0 c7_1 : Int) (c7_2 : List UInt8) (c7_3 : List (List AV)) : Option (AV) := kOpt (List.get?Internal c8_0 (v3.toNat)) fun row => zg8 row nc5_0 h6 v3 c0_0 c0_1 c0_2 c0_3 c1_0 c2_0 c3_0 c3_1 c3_2 c3_3 c7_0 c7_1 c7_2 c7_3 c8_0
noncomputable abbrev zg6 (v3 : Int) (c8_0 : List (List AV)) (nc5_0 : Nat) (h6 : List (List AV)) (c0_0 c0_1 : Int) (c0_2 : List UInt8) (c0_3 : List (List AV)) (c1_0 c2_0 c3_0 c3_1 : Int) (c3_2 : List UInt8) (c3_3 : List (List AV)) (c7_0 c7_1 : Int) (c7_2 : List UInt8) (c7_3 : List (List AV)) : Option (AV) := bif leInt 0 v3 && ltInt v3 (c8_0.length : Int) then zg7 c8_0 v3 nc5_0 h6 c0_0 c0_1 c0_2 c0_3 c1_0 c2_0 c3_0 c3_1 c3_2 c3_3 c7_0 c7_1 c7_2 c7_3 else none
noncomputable abbrev zg5 (v3 : Int) (c8_0 : List (List AV)) (nc5_0 : Nat) (h6 : List (List AV)) (c0_0 c0_1 : Int) (c0_2 : List UInt8) (c0_3 : List (List AV)) (c1_0 c2_0 c3_0 c3_1 : Int) (c3_2 : List UInt8) (c3_3 : List (List AV)) (c7_0 c7_1 : Int) (c7_2 : List UInt8) (c7_3 : List (List AV)) : Option (AV) := bif decide (v3 ≥ 0) then zg6 v3 c8_0 nc5_0 h6 c0_0 c0_1 c0_2 c0_3 c1_0 c2_0 c3_0 c3_1 c3_2 c3_3 c7_0 c7_1 c7_2 c7_3 else wq33_0 c0_0 c0_1 c0_2 c0_3 c1_0 c2_0 c3_0 c3_1 c3_2 c3_3 nc5_0 h6
theorem wq33_1_step (v3 c0_0 c0_1 : Int) (c0_2 : List UInt8) (c0_3 : List (List AV)) (c1_0 c2_0 c3_0 c3_1 : Int) (c3_2 : List UInt8) (c3_3 : List (List AV)) (nc5_0 : Nat) (h6 : List (List AV)) (c7_0 c7_1 : Int) (c7_2 : List UInt8) (c7_3 c8_0 : List (List AV)) {P : AV → Prop} (h : Gets (zg5 v3 c8_0 nc5_0 h6 c0_0 c0_1 c0_2 c0_3 c1_0 c2_0 c3_0 c3_1 c3_2 c3_3 c7_0 c7_1 c7_2 c7_3) P) : Gets (wq33_1 v3 c0_0 c0_1 c0_2 c0_3 c1_0 c2_0 c3_0 c3_1 c3_2 c3_3 nc5_0 h6 c7_0 c7_1 c7_2 c7_3 c8_0) P :=
  Gets.ev (fun _ h => loop_step (cfg := cfg) (f := 273) (rd := none) (bs := 10) h) (Gets.eq (by kernel_rfl) h)
theorem wq33_1a_step (v3 c0_0 c0_1 : Int) (c0_2 : List UInt8) (c0_3 : List (List AV)) (c1_0 c2_0 c3_0 c3_1 : Int) (c3_2 : List UInt8) (c3_3 : List (List AV)) (nc5_0 : Nat) (c7_0 c7_1 : Int) (c7_2 : List UInt8) (c7_3 c8_0 h10 : List (List AV)) {P : AV → Prop} (h : Gets (zg5 v3 c8_0 nc5_0 h10 c0_0 c0_1 c0_2 c0_3 c1_0 c2_0 c3_0 c3_1 c3_2 c3_3 c7_0 c7_1 c7_2 c7_3) P) : Gets (wq33_1a v3 c0_0 c0_1 c0_2 c0_3 c1_0 c2_0 c3_0 c3_1 c3_2 c3_3 nc5_0 c7_0 c7_1 c7_2 c7_3 c8_0 h10) P :=
  Gets.ev (fun _ h => loop_step (cfg := cfg) (f := 273) (rd := none) (bs := 10) h) (Gets.eq (by kernel_rfl) h)
end Go.Proofs.YtkgkjngbfdnoiaaGreat
end

section
namespace Go.Proofs.YtkgkjngbfdnoiaaGreat
open Go.Av

theorem sound_ev (t : Tm) : EVs (EV cfg) 170 [t.av] = some (.bool t.sound) := by
 obtain ⟨k, n, s, l⟩ := t
 apply Gets.get
 rw [Tm.av_mk]
 refine term_sound_run _ _ _ _ ?_
 unfold zg0 zg1 zg2 zg3 zg4
 simp only [Tm.sound, Tm.kind_mk, Tm.num_mk, Tm.str_mk, Tm.subs_mk, rowsT_length, beqI, beqNil, soundB]
 by_cases h1 : k = 1
 ·subst h1; simp [bif_some'] <;> (try rw [Bool.eq_iff_iff]) <;> (try simp) <;> first | omega | grind
 by_cases h2 : k = 2
 ·subst h2; simp [bif_some'] <;> (try rw [Bool.eq_iff_iff]) <;> (try simp) <;> first | omega | grind
 by_cases h3 : k = 3
 ·subst h3; simp [bif_some'] <;> (try rw [Bool.eq_iff_iff]) <;> (try simp) <;> first | omega | grind
 by_cases h4 : k = 4
 ·subst h4; simp [bif_some'] <;> (try rw [Bool.eq_iff_iff]) <;> (try simp) <;> first | omega | grind
 by_cases h6 : k = 6
 ·subst h6; simp [bif_some'] <;> (try rw [Bool.eq_iff_iff]) <;> (try simp) <;> first | omega | grind
 by_cases h5 : k = 5
 ·subst h5
  cases l with
  | nil => simp [bif_some'] <;> (try rw [Bool.eq_iff_iff]) <;> (try simp) <;> first | omega | grind
  | cons x l =>
   have hx : ¬ ((l.length : Int) + 1 = 0) := by omega
   simp [hx, bif_some'] <;> (try rw [Bool.eq_iff_iff]) <;> (try simp) <;> first | omega | grind
 by_cases h7 : k = 7
 ·subst h7; simp [bif_some'] <;> (try rw [Bool.eq_iff_iff]) <;> (try simp) <;> first | omega | grind
 by_cases h8 : k = 8
 ·subst h8; simp [bif_some'] <;> (try rw [Bool.eq_iff_iff]) <;> (try simp) <;> first | omega | grind
 by_cases h9 : k = 9
 ·subst h9; simp [bif_some'] <;> (try rw [Bool.eq_iff_iff]) <;> (try simp) <;> first | omega | grind
 simp [h1, h2, h3, h4, h5, h6, h7, h8, h9]
theorem own_ev (t : Tm) : EVs (EV cfg) 171 [t.av] = some (.int .i64 t.own) := by
 obtain ⟨k, n, s, l⟩ := t
 apply Gets.get
 rw [Tm.av_mk]
 refine term_own_run _ _ _ _ ?_
 simp only [Tm.own, Tm.kind_mk, beqI]
 by_cases h7 : k = 7
 ·simp [h7]
 ·by_cases h5 : k = 5
  ·simp [h5]
  ·simp [h7, h5]
end Go.Proofs.YtkgkjngbfdnoiaaGreat
end

section
namespace Go.Proofs.YtkgkjngbfdnoiaaGreat
open Go.Av

theorem app_get0 (l : List (List AV)) (z : List AV) : (l ++ [z])[l.length]? = some z := by simp
theorem app_set0 (l : List (List AV)) (z c : List AV) : (l ++ [z]).set l.length c = l ++ [c] := by simp

theorem push_a {t x : Tm} (hx : x.subs.length < 1099511627776) {wd : Int} {P : AV → Prop} : ∀ (j : Nat) (R : List Tm), j ≤ x.subs.length → R.length + j < 1099511627776 →
  Gets (wq33_0 t.kind t.num t.str (rowsT t.subs) 0 wd t.kind t.num t.str (rowsT t.subs) (R.length + j) (rowsT (R ++ (x.subs.take j).reverse))) P →
  Gets (wq33_1a ((j : Int) - 1) t.kind t.num t.str (rowsT t.subs) 0 wd t.kind t.num t.str (rowsT t.subs) R.length x.kind x.num x.str (rowsT x.subs) (rowsT x.subs) (rowsT R)) P
 | 0, R, _, _, h => by
  refine wq33_1a_step _ _ _ _ _ _ _ _ _ _ _ _ _ _ _ _ _ _ ?_
  unfold zg5 zg6 zg7 zg8 zg9 zg10
  simpa using h
 | j + 1, R, hj, hR, h => by
  have ih := push_a (t := t) hx (wd := wd) (P := P) j (R ++ [x.subs[j]]) (by omega) (by simp; omega)
  have e1 : x.subs.take (j + 1) = x.subs.take j ++ [x.subs[j]] := by rw [List.take_add_one, List.getElem?_eq_getElem (by omega)]; rfl
  have e4 : R ++ (x.subs.take j ++ [x.subs[j]]).reverse = R ++ x.subs[j] :: (x.subs.take j).reverse := by rw [List.reverse_append]; rfl
  rw [e1, e4, show R.length + (j + 1) = R.length + 1 + j by omega] at h
  refine wq33_1a_step _ _ _ _ _ _ _ _ _ _ _ _ _ _ _ _ _ _ ?_
  unfold zg5 zg6 zg7 zg8 zg9 zg10
  have hw : IntKind.wrap .i64 ((j : Int) - 1) = (j : Int) - 1 := wrap64 (by omega) (by omega)
  have hjl : j < x.subs.length := by omega
  have e2 : ((j + 1 : Nat) : Int) - 1 = j := by omega
  rw [e2]
  have ht : List.take R.length (rowsT R) = rowsT R := List.take_of_length_le (by simp)
  have g0 := app_get0 (rowsT R) [.int .i64 0, .int .i64 0, .str [], .nilS]
  have s0 := app_set0 (rowsT R) [.int .i64 0, .int .i64 0, .str [], .nilS] x.subs[j].cells
  rw [rowsT_length] at g0 s0
  simp [hjl, hw, fits56 (show R.length + 1 ≤ 1099511627776 by omega), ht] at ih ⊢
  exact ih h

theorem push_m {t x : Tm} (hx : x.subs.length < 1099511627776) {wd : Int} {P : AV → Prop} {R : List Tm} {Z : List (List AV)} (hR : R.length + x.subs.length < 1099511627776)
  (h0 : x.subs = [] → Gets (wq33_0 t.kind t.num t.str (rowsT t.subs) 0 wd t.kind t.num t.str (rowsT t.subs) R.length (rowsT R ++ Z)) P)
  (h : x.subs ≠ [] → Gets (wq33_0 t.kind t.num t.str (rowsT t.subs) 0 wd t.kind t.num t.str (rowsT t.subs) (R ++ x.subs.reverse).length (rowsT (R ++ x.subs.reverse))) P) :
  Gets (wq33_1 ((x.subs.length : Int) - 1) t.kind t.num t.str (rowsT t.subs) 0 wd t.kind t.num t.str (rowsT t.subs) R.length (rowsT R ++ Z) x.kind x.num x.str (rowsT x.subs) (rowsT x.subs)) P := by
 refine wq33_1_step _ _ _ _ _ _ _ _ _ _ _ _ _ _ _ _ _ _ ?_
 unfold zg5 zg6 zg7 zg8 zg9 zg10
 rcases Nat.eq_zero_or_pos x.subs.length with hz | hp
 ·have hz' : x.subs = [] := List.length_eq_zero_iff.1 hz
  have := h0 hz'
  simpa [hz'] using this
 ·obtain ⟨j, hj⟩ : ∃ j, x.subs.length = j + 1 := ⟨x.subs.length - 1, by omega⟩
  have hne : x.subs ≠ [] := by intro e; rw [e] at hp; simp at hp
  have hjl : j < x.subs.length := by omega
  have e2 : (x.subs.length : Int) - 1 = j := by omega
  have hw : IntKind.wrap .i64 ((j : Int) - 1) = (j : Int) - 1 := wrap64 (by omega) (by omega)
  have ht : List.take R.length (rowsT R ++ Z) = rowsT R := by rw [List.take_append_of_le_length (by simp), List.take_of_length_le (by simp)]
  have e5 : x.subs = x.subs.take j ++ [x.subs[j]] := by
   have : x.subs.take (j + 1) = x.subs := List.take_of_length_le (by omega)
   rw [List.take_add_one, List.getElem?_eq_getElem hjl] at this
   exact this.symm
  have e6 : R ++ x.subs.reverse = R ++ [x.subs[j]] ++ (x.subs.take j).reverse := by
   conv => lhs; rw [e5]
   rw [List.reverse_append, List.append_assoc]; rfl
  have := push_a (t := t) hx (wd := wd) (P := P) j (R ++ [x.subs[j]]) (by omega) (by simp; omega) (by
   have h := h hne
   rw [e6] at h
   have e7 : (R ++ [x.subs[j]] ++ (x.subs.take j).reverse).length = (R ++ [x.subs[j]]).length + j := by
    rw [List.length_append, List.length_reverse, List.length_take]; omega
   rw [e7] at h
   exact h)
  rw [e2]
  simp at this
  simp [hjl, hw, fits56 (show R.length + 1 ≤ 1099511627776 by omega), ht]
  exact this

theorem check_m {t : Tm} : ∀ (n : Nat) (R : List Tm) (Z : List (List AV)) (wd : Nat), wL R ≤ n → n < 1099511627776 → wd + 2 * wL R < 9007199254740992 →
  Gets (wq33_0 t.kind t.num t.str (rowsT t.subs) 0 (wd : Int) t.kind t.num t.str (rowsT t.subs) R.length (rowsT R ++ Z)) (· = .int .i64 (chkS R wd)) := by
 intro n
 induction n with
 | zero =>
  intro R Z wd hn _ _
  have : R = [] := by
   have := wL_len R
   exact List.length_eq_zero_iff.1 (by omega)
  subst this
  refine wq33_0_step _ _ _ _ _ _ _ _ _ _ _ _ ?_
  by_cases h : 65536 < wd
  ·have h' : (65536 : Int) < wd := by omega
   simp [h, h', chkS, partsL, wordsL]
  ·have h' : ¬ (65536 : Int) < wd := by omega
   simp [h, h', chkS, partsL, wordsL]
 | succ n ih =>
  intro R Z wd hn hN hw
  rcases List.eq_nil_or_concat R with rfl | ⟨R0, x, rfl⟩
  ·refine wq33_0_step _ _ _ _ _ _ _ _ _ _ _ _ ?_
   by_cases h : 65536 < wd
   ·have h' : (65536 : Int) < wd := by omega
    simp [h, h', chkS, partsL, wordsL]
   ·have h' : ¬ (65536 : Int) < wd := by omega
    simp [h, h', chkS, partsL, wordsL]
  ·rw [List.concat_eq_append] at *
   have hwx := x.w_eq
   have ho := x.own_le
   simp only [wL_append, wL_cons, wL_nil] at hn hw
   have hl0 := wL_len R0
   have hls := wL_len x.subs
   have hsd := sound_ev x
   have how := own_ev x
   refine wq33_0_step _ _ _ _ _ _ _ _ _ _ _ _ ?_
   have e1 : (R0 ++ [x]).length = R0.length + 1 := by simp
   have hw1 : IntKind.wrap .i64 (R0.length : Int) = R0.length := wrapN (by omega)
   have hw2 : IntKind.wrap .i64 ((wd : Int) + x.own) = ((wd + x.own : Nat) : Int) := by rw [wrap64 (by omega) (by omega)]; omega
   have hw3 : IntKind.wrap .i64 ((x.subs.length : Int) - 1) = (x.subs.length : Int) - 1 := wrap64 (by omega) (by omega)
   have g : (rowsT (R0 ++ [x]) ++ Z)[R0.length]? = some x.cells := by
    rw [List.getElem?_append_left (by simp), rowsT_get]; simp
   cases hs : x.sound with
   | false =>
    rw [hs] at hsd
    simp [e1, hw1, g, hsd, chkS_bad hs]
   | true =>
    rw [hs] at hsd
    have e3 : rowsT (R0 ++ [x]) ++ Z = rowsT R0 ++ (x.cells :: Z) := by rw [rowsT_append, List.append_assoc, rowsT_cons, rowsT_nil]; rfl
    have := push_m (t := t) (x := x) (R := R0) (Z := x.cells :: Z) (wd := ((wd + x.own : Nat) : Int)) (P := (· = .int .i64 (chkS (R0 ++ [x]) wd))) (by omega) (by omega)
     (fun hz => by
      have := ih R0 (x.cells :: Z) (wd + x.own) (by omega) (by omega) (by omega)
      rw [← chkS_step hs, hz, List.reverse_nil, List.append_nil]
      exact this)
     (fun hz => by
      have := ih (R0 ++ x.subs.reverse) [] (wd + x.own) (by rw [wL_append, wL_rev]; omega) (by omega) (by rw [wL_append, wL_rev]; omega)
      rw [← chkS_step hs]
      rw [List.append_nil] at this
      exact this)
    simp only [e1, e3] at g ⊢
    simp only [Int.natCast_add] at hw2 this
    simp [hw1, g, hsd, how, hw2, hw3]
    exact this

theorem check_ev {t : Tm} (h : t.w < 1099511627776) : EVs (EV cfg) 91 [t.av] = some (.int .i64 t.chk) := by
 have := check_m (t := t) _ [t] [] 0 (Nat.le_refl _) (by simpa using h) (by simp; omega)
 apply Gets.get
 rw [Tm.av, Tm.cells_eq]
 refine term_Check_run _ _ _ _ ?_
 rw [← Tm.cells_eq, rowsT_one, Tm.chk]
 simpa using this
end Go.Proofs.YtkgkjngbfdnoiaaGreat
end

section
namespace Go.Proofs.YtkgkjngbfdnoiaaGreat
open Go.Av
set_option maxRecDepth 100000
set_option maxHeartbeats 0

noncomputable def Lh47_0 : Den := evC cfg (EV cfg) 106 none 0 (sub (bodyOf Tryz.f106) [1, 1, 1, 0, 1, 0, 0])
noncomputable def Ah47_0 : Ex × List AV × AH → Option AV := kAft (Cfg.keepOut cfg 106 5) (kRun cfg (EV cfg) (kfN cfg 6) 106 none 0 (kFinS cfg (Cfg.lift cfg 106 0) Tryz.f106.results.toList) ([.block 0, .seq (sub (bodyOf Tryz.f106) [1, 1, 1, 1])]))
noncomputable def Wh47_0 : List AV × AH → Option AV := fun p => kOpt (LOOP 0 (some [1, 2, 5, 6]) ([]) Lh47_0 p) Ah47_0
noncomputable abbrev wh47_0 (most v5 v6 c0_0 c0_1 : Int) (c0_2 : List UInt8) (c0_3 : List (List AV)) : Option (AV) := Wh47_0  (((fx 43 [(1, .int .i64 most), (2, .ptr 0 0 0), (5, .int .i64 v5), (6, .int .i64 v6)]) : List AV), ([.rows false 4 [[.int .i64 c0_0, .int .i64 c0_1, .str c0_2, .sl c0_3]]] : AH))
theorem kitBig_run (kt nt : Int) (st : List UInt8) (lt : List (List AV)) (most : Int) {P : AV → Prop} (h : Gets (kOpt (EVs (EV cfg) 106 [.agg [.int .i64 kt, .int .i64 nt, .str st, .sl lt], .int .i64 (IntKind.wrap .i64 (most + 1))]) fun v => kInt .i64 v fun n => some (.bool (decide (n > most)))) P) : Gets (EVs (EV cfg) 41 ([AV.agg [AV.int IntKind.i64 kt, AV.int IntKind.i64 nt, AV.str st, AV.sl lt], AV.int IntKind.i64 most] : List AV)) P :=
  Gets.ev (fun _ h => funS rfl rfl Tryz.func41 rfl h) (Gets.eq (by kernel_rfl) h)
theorem kitSize_run (kt nt : Int) (st : List UInt8) (lt : List (List AV)) (most : Int) {P : AV → Prop} (h : Gets (bif decide ((st.length : Int) > 100) then some (.int .i64 most) else bif decide ((lt.length : Int) > most) then some (.int .i64 most) else wh47_0 most 1 0 kt nt st lt) P) : Gets (EVs (EV cfg) 106 ([AV.agg [AV.int IntKind.i64 kt, AV.int IntKind.i64 nt, AV.str st, AV.sl lt], AV.int IntKind.i64 most] : List AV)) P :=
  Gets.ev (fun _ h => funS rfl rfl Tryz.func106 rfl h) (Gets.eq (by kernel_rfl) h)
theorem wh47_0_step (most v5 v6 c0_0 c0_1 : Int) (c0_2 : List UInt8) (c0_3 : List (List AV)) {P : AV → Prop} (h : Gets (bif decide (v6 < (c0_3.length : Int)) then bif decide (v5 < most) then bif leInt 0 v6 && ltInt v6 (c0_3.length : Int) then kOpt (List.get?Internal c0_3 (Int.toNat v6)) fun row => bif Nat.beq (List.length row) 4 then bif Nat.ble 4 (List.length row) then kTmC (List.take 4 row) fun n n_1 s rows => (kOpt (EVs (EV cfg) 106 [.agg [.int .i64 n, .int .i64 n_1, .str s, .sl rows], .int .i64 (IntKind.wrap .i64 (most - v5))]) fun v => kInt .i64 v fun n => wh47_0 most (IntKind.wrap .i64 (v5 + n)) (IntKind.wrap .i64 (v6 + 1)) c0_0 c0_1 c0_2 c0_3) else none else none else none else some (.int .i64 v5) else some (.int .i64 v5)) P) : Gets (wh47_0 most v5 v6 c0_0 c0_1 c0_2 c0_3) P :=
  Gets.ev (fun _ h => loop_step (cfg := cfg) (f := 106) (rd := none) (bs := 0) h) (Gets.eq (by kernel_rfl) h)
end Go.Proofs.YtkgkjngbfdnoiaaGreat
end

section
namespace Go.Proofs.YtkgkjngbfdnoiaaGreat
open Go.Av
def copyCell : List (List AV) := [[AV.fn (Fn.func 159) [] [AV.ptr 0 0 0]]]
end Go.Proofs.YtkgkjngbfdnoiaaGreat
end

section
namespace Go.Av
theorem ble44 : Nat.ble 4 4 = true := rfl
end Go.Av
namespace Go.Proofs.YtkgkjngbfdnoiaaGreat
open Go.Av
end Go.Proofs.YtkgkjngbfdnoiaaGreat
end

section
namespace Go.Proofs.YtkgkjngbfdnoiaaGreat
open Go.Av
set_option maxRecDepth 100000
def findR (o : Option Tm) : AV := match o with | some t => .tup [t.av, .bool true] | none => .tup [zeroT.av, .bool false]
end Go.Proofs.YtkgkjngbfdnoiaaGreat
end

section
namespace Go.Av
theorem len_wL : ∀ l : List Tm, l.length ≤ wL l
 | [] => Nat.le_refl _
 | t :: l => by rw [wL_cons, List.length_cons]; have := w_pos t; have := len_wL l; omega
end Go.Av
namespace Go.Proofs.YtkgkjngbfdnoiaaGreat
open Go.Av
end Go.Proofs.YtkgkjngbfdnoiaaGreat
end

section
namespace Go.Proofs.YtkgkjngbfdnoiaaGreat
open Go.Av
set_option maxRecDepth 100000
set_option maxHeartbeats 0

noncomputable def Lq34_0 : Den := evC cfg (EV cfg) 136 none 0 (sub (bodyOf Tryz.f136) [1, 0, 1, 1, 0, 0, 0])
noncomputable def Aq34_0 : Ex × List AV × AH → Option AV := kAft (Cfg.keepOut cfg 136 2) (kRun cfg (EV cfg) (kfN cfg 6) 136 none 0 (kFinS cfg (Cfg.lift cfg 136 0) Tryz.f136.results.toList) ([.block 0, .seq (sub (bodyOf Tryz.f136) [1, 0, 1, 1, 1]), .scope]))
noncomputable def Wq34_0 : List AV × AH → Option AV := fun p => kOpt (LOOP 0 (some [5]) ([(5, 8)]) Lq34_0 p) Aq34_0
noncomputable def Lq34_1 : Den := evC cfg (EV cfg) 136 none 0 (sub (bodyOf Tryz.f136) [1, 0, 1, 1, 0, 0, 0, 1, 0, 1, 1, 1, 1, 1, 0, 0])
noncomputable def Aq34_1 : Ex × List AV × AH → Option AV := kAft (Cfg.keepOut cfg 136 9) (kRun cfg (EV cfg) (kfN cfg 6) 136 none 0 (kLp 0 (some [5]) ([(5, 8)]) Lq34_0 Aq34_0) ([.block 2, .block 1]))
noncomputable def Wq34_1 : List AV × AH → Option AV := fun p => kOpt (LOOP 0 (some [5, 6, 70, 71]) ([(5, 8)]) Lq34_1 p) Aq34_1
noncomputable abbrev wq34_0 (nv5 : Nat) (h0 : List (List AV)) : Option (AV) := Wq34_0  (((fx 91 [(5, .ms 0 0 nv5)]) : List AV), ([.rows true 8 h0] : AH))
noncomputable abbrev wq34_1 (rows : List (List AV)) (nv5 : Nat) (v71 : Int) (h0 : List (List AV)) (c1_0 c1_1 : Int) (c1_2 : List UInt8) (c1_3 : List (List AV)) (c1_4 c1_5 : Int) (c1_6 : List UInt8) (c1_7 : List (List AV)) : Option (AV) := Wq34_1  (((fx 91 [(5, .ms 0 0 nv5), (6, .ptr 1 0 0), (70, .int .i64 (rows.length : Int)), (71, .int .i64 v71)]) : List AV), ([.rows true 8 h0, .rows false 8 [[.int .i64 c1_0, .int .i64 c1_1, .str c1_2, .sl c1_3, .int .i64 c1_4, .int .i64 c1_5, .str c1_6, .sl c1_7]]] : AH))
theorem term_Same_run (ka na : Int) (sa : List UInt8) (la : List (List AV)) (kb nb : Int) (sb : List UInt8) (lb : List (List AV)) {P : AV → Prop} (h : Gets (wq34_0 1 [[.int .i64 ka, .int .i64 na, .str sa, .sl la, .int .i64 kb, .int .i64 nb, .str sb, .sl lb]]) P) : Gets (EVs (EV cfg) 136 ([AV.agg [AV.int IntKind.i64 ka, AV.int IntKind.i64 na, AV.str sa, AV.sl la], AV.agg [AV.int IntKind.i64 kb, AV.int IntKind.i64 nb, AV.str sb, AV.sl lb]] : List AV)) P :=
  Gets.ev (fun _ h => funS rfl rfl Tryz.func136 rfl h) (Gets.eq (by kernel_rfl) h)
theorem wq34_0_step (nv5 : Nat) (h0 : List (List AV)) {P : AV → Prop} (h : Gets (bif decide ((↑ nv5 : Int) > 0) then bif leInt 0 (IntKind.wrap .i64 ((↑ nv5 : Int) - 1)) && ltInt (IntKind.wrap .i64 ((↑ nv5 : Int) - 1)) (↑ nv5 : Int) then kOpt (List.get?Internal h0 (0 + Int.toNat (IntKind.wrap .i64 ((↑ nv5 : Int) - 1)))) fun row => bif Nat.ble 8 (List.length row) then kCons (List.take 8 row) fun c cs => kInt .i64 c fun n => kCons cs fun c cs => kInt .i64 c fun n_1 => kCons cs fun c cs => kStr c fun s => kCons cs fun c cs => kSl c fun rows => kTmC cs fun n_2 n_3 s_1 rows_1 => (bif leInt 0 (IntKind.wrap .i64 ((↑ nv5 : Int) - 1)) && leInt (IntKind.wrap .i64 ((↑ nv5 : Int) - 1)) (↑ nv5 : Int) then bif n != n_2 then some (.bool false) else bif n_1 != n_3 then some (.bool false) else bif ! s == s_1 then some (.bool false) else bif (rows.length : Int) != (rows_1.length : Int) then some (.bool false) else bif (↑ (List.length rows) : Int) == 0 then wq34_0 (Int.toNat (IntKind.wrap .i64 ((↑ nv5 : Int) - 1)) - 0) h0 else wq34_1 rows (Int.toNat (IntKind.wrap .i64 ((↑ nv5 : Int) - 1)) - 0) (0 : Int) h0 n n_1 s rows n_2 n_3 s_1 rows_1 else none) else none else none else some (.bool true)) P) : Gets (wq34_0 nv5 h0) P :=
  Gets.ev (fun _ h => loop_step (cfg := cfg) (f := 136) (rd := none) (bs := 0) h) (Gets.eq (by kernel_rfl) h)
theorem wq34_1_step (rows : List (List AV)) (nv5 : Nat) (v71 : Int) (h0 : List (List AV)) (c1_0 c1_1 : Int) (c1_2 : List UInt8) (c1_3 : List (List AV)) (c1_4 c1_5 : Int) (c1_6 : List UInt8) (c1_7 : List (List AV)) {P : AV → Prop} (h : Gets (bif decide (v71 < (rows.length : Int)) then bif leInt 0 v71 && ltInt v71 (c1_3.length : Int) then kOpt (List.get?Internal c1_3 (v71.toNat)) fun row => bif Nat.beq (List.length row) 4 then bif Nat.ble 4 (List.length row) then kTmC (List.take 4 row) fun n n_1 s rows_1 => (bif leInt (0 : Int) v71 && ltInt v71 (c1_7.length : Int) then kOpt (List.get?Internal c1_7 (v71.toNat)) fun row => bif Nat.beq (List.length row) 4 then bif Nat.ble 4 (List.length row) then kTmC (List.take 4 row) fun n_2 n_3 s_1 rows_2 => (bif Nat.ble (0 + nv5) (List.length h0) && fitsIn (nv5 + 1) 112 then wq34_1 rows (nv5 + 1) (IntKind.wrap .i64 (v71 + 1)) (List.append (List.take nv5 h0) [[.int .i64 n, .int .i64 n_1, .str s, .sl rows_1, .int .i64 n_2, .int .i64 n_3, .str s_1, .sl rows_2]]) c1_0 c1_1 c1_2 c1_3 c1_4 c1_5 c1_6 c1_7 else none) else none else none else none) else none else none else none else wq34_0 nv5 h0) P) : Gets (wq34_1 rows nv5 v71 h0 c1_0 c1_1 c1_2 c1_3 c1_4 c1_5 c1_6 c1_7) P :=
  Gets.ev (fun _ h => loop_step (cfg := cfg) (f := 136) (rd := none) (bs := 0) h) (Gets.eq (by kernel_rfl) h)
end Go.Proofs.YtkgkjngbfdnoiaaGreat
end

section
namespace Go.Av
def pairsR (R : List (Tm × Tm)) : List (List AV) := R.map fun p => p.1.cells ++ p.2.cells
theorem pairsR_len (R : List (Tm × Tm)) : (pairsR R).length = R.length := by simp [pairsR]
theorem pairsR_append (R S : List (Tm × Tm)) : pairsR (R ++ S) = pairsR R ++ pairsR S := by simp [pairsR]
theorem pairsR_get (R : List (Tm × Tm)) (i : Nat) : (pairsR R)[i]? = (R[i]?).map fun p => p.1.cells ++ p.2.cells := by simp [pairsR]
theorem zip_eq : ∀ (a b : List Tm), a.length = b.length → ((∀ p ∈ a.zip b, p.1 = p.2) ↔ a = b)
 | [], [], _ => by simp
 | x :: a, y :: b, h => by
  have := zip_eq a b (by simpa using h)
  simp only [List.zip_cons_cons, List.mem_cons, forall_eq_or_imp, List.cons.injEq, this]
 | [], _ :: _, h => by simp at h
 | _ :: _, [], h => by simp at h
end Go.Av
namespace Go.Proofs.YtkgkjngbfdnoiaaGreat
open Go.Av

theorem fits112 {n : Nat} (h : n ≤ 1099511627776) : fitsIn n 112 = true := by
 unfold fitsIn
 rw [Bool.and_eq_true, Nat.ble_eq, Nat.ble_eq]
 omega

theorem same_push {x y : Tm} (hxy : x.subs.length = y.subs.length) (hx : x.subs.length < 1099511627776) {P : AV → Prop} : ∀ (d i : Nat) (R : List (Tm × Tm)) (Z : List (List AV)), i + d = x.subs.length → R.length + d < 1099511627776 → (d = 0 → Z = []) →
  Gets (wq34_0 (R ++ (x.subs.zip y.subs).drop i).length (pairsR (R ++ (x.subs.zip y.subs).drop i))) P →
  Gets (wq34_1 (rowsT x.subs) R.length i (pairsR R ++ Z) x.kind x.num x.str (rowsT x.subs) y.kind y.num y.str (rowsT y.subs)) P
 | 0, i, R, Z, hi, _, hz, h => by
  refine wq34_1_step _ _ _ _ _ _ _ _ _ _ _ _ ?_
  obtain rfl := hz rfl
  rw [List.drop_eq_nil_of_le (by simp; omega)] at h
  simp at h
  have : ¬ i < x.subs.length := by omega
  simpa [this] using h
 | d + 1, i, R, Z, hi, hR, _, h => by
  refine wq34_1_step _ _ _ _ _ _ _ _ _ _ _ _ ?_
  have h1 : i < x.subs.length := by omega
  have h2 : i < y.subs.length := by omega
  have hzl : i < (x.subs.zip y.subs).length := by simp; omega
  have hd : (x.subs.zip y.subs).drop i = (x.subs[i], y.subs[i]) :: (x.subs.zip y.subs).drop (i + 1) := by
   rw [List.drop_eq_getElem_cons hzl, List.getElem_zip]
  have ih := same_push hxy hx (P := P) d (i + 1) (R ++ [(x.subs[i], y.subs[i])]) [] (by omega) (by simp; omega) (fun _ => rfl) (by
   rw [hd] at h
   simpa using h)
  have ht : List.take R.length (pairsR R ++ Z) = pairsR R := by rw [List.take_append_of_le_length (by rw [pairsR_len]; exact Nat.le_refl _), List.take_of_length_le (by rw [pairsR_len]; exact Nat.le_refl _)]
  have hp : pairsR (R ++ [(x.subs[i], y.subs[i])]) = pairsR R ++ [x.subs[i].cells ++ y.subs[i].cells] := by rw [pairsR_append]; rfl
  have hw := wrap_s h1 hx
  rw [List.append_nil, hp] at ih
  simp [h1, h2, hw, fits112 (show R.length + 1 ≤ 1099511627776 by omega), ht, pairsR_len] at ih ⊢
  rw [Tm.cells_eq x.subs[i]] at ih
  exact ih

theorem same_m : ∀ (n : Nat) (R : List (Tm × Tm)) (Z : List (List AV)), wL (R.map Prod.fst) ≤ n → n < 1099511627776 →
  Gets (wq34_0 R.length (pairsR R ++ Z)) (Tells (∀ p ∈ R, p.1 = p.2)) := by
 intro n
 induction n with
 | zero =>
  intro R Z hn _
  have : R = [] := by
   have := wL_len (R.map Prod.fst)
   exact List.length_eq_zero_iff.1 (by simp at this; omega)
  subst this
  refine wq34_0_step _ _ ?_
  simp [tells_bool]
 | succ n ih =>
  intro R Z hn hN
  rcases List.eq_nil_or_concat R with rfl | ⟨R0, p, rfl⟩
  ·refine wq34_0_step _ _ ?_
   simp [tells_bool]
  ·rw [List.concat_eq_append] at *
   obtain ⟨x, y⟩ := p
   have hwx := x.w_eq
   simp only [List.map_append, List.map_cons, List.map_nil, wL_append, wL_cons, wL_nil] at hn
   have hl0 := wL_len (R0.map Prod.fst)
   rw [List.length_map] at hl0
   have hls := wL_len x.subs
   refine wq34_0_step _ _ ?_
   have e1 : (R0 ++ [(x, y)]).length = R0.length + 1 := by simp
   have hw1 : IntKind.wrap .i64 (R0.length : Int) = R0.length := wrapN (by omega)
   have g : (pairsR (R0 ++ [(x, y)]) ++ Z)[R0.length]? = some (.int .i64 x.kind :: .int .i64 x.num :: .str x.str :: .sl (rowsT x.subs) :: y.cells) := by
    rw [List.getElem?_append_left (by rw [pairsR_len]; simp), pairsR_get]; simp; rw [Tm.cells_eq x]; rfl
   have e3 : pairsR (R0 ++ [(x, y)]) ++ Z = pairsR R0 ++ ((x.cells ++ y.cells) :: Z) := by rw [pairsR_append, List.append_assoc]; rfl
   have hq : (∀ p ∈ R0 ++ [(x, y)], p.1 = p.2) ↔ ((∀ p ∈ R0, p.1 = p.2) ∧ x = y) := by simp [or_imp, forall_and]
   have hxy : x = y ↔ (x.kind = y.kind ∧ x.num = y.num ∧ x.str = y.str ∧ x.subs = y.subs) := by
    constructor
    ·rintro rfl; exact ⟨rfl, rfl, rfl, rfl⟩
    ·rintro ⟨h1, h2, h3, h4⟩; rw [← Tm.eta x, ← Tm.eta y, h1, h2, h3, h4]
   rw [propext hq]
   have hno : ¬ (x.kind = y.kind ∧ x.num = y.num ∧ x.str = y.str ∧ x.subs = y.subs) → Tells ((∀ p ∈ R0, p.1 = p.2) ∧ x = y) (.bool false) := fun h => tells_bool.2 ⟨fun e => (by cases e), fun h' => absurd (hxy.1 h'.2) h⟩
   simp only [e3] at g ⊢
   simp [e1, hw1, g]
   by_cases h1 : x.kind = y.kind
   ·by_cases h2 : x.num = y.num
    ·by_cases h3 : x.str = y.str
     ·by_cases h4 : x.subs.length = y.subs.length
      ·have hsub : (∀ p ∈ x.subs.zip y.subs, p.1 = p.2) ↔ x = y := by
        rw [zip_eq _ _ h4, hxy]; simp [h1, h2, h3]
       have c1 : (x.kind != y.kind) = false := by simp [h1]
       have c2 : (x.num != y.num) = false := by simp [h2]
       have c3 : (x.str == y.str) = true := by simp [h3]
       have c4 : ((x.subs.length : Int) != (y.subs.length : Int)) = false := by simp [h4]
       have eall : (∀ (a b : Tm), (a, b) ∈ R0 → a = b) ↔ (∀ p ∈ R0, p.1 = p.2) := ⟨fun h p hp => h p.1 p.2 hp, fun h a b hp => h (a, b) hp⟩
       rw [c1, c2, c3, c4]
       simp only [cond_false, cond_true]
       rcases Nat.eq_zero_or_pos x.subs.length with hz | hp
       ·have hr := ih R0 ((x.cells ++ y.cells) :: Z) (by omega) (by omega)
        have hx0 : x.subs = [] := List.length_eq_zero_iff.1 hz
        have hxy' : x = y := hsub.1 (by rw [hx0]; simp)
        have c5 : ((x.subs.length : Int) == 0) = true := by simp [hz]
        rw [c5, propext (show ((∀ (a b : Tm), (a, b) ∈ R0 → a = b) ∧ x = y) ↔ (∀ p ∈ R0, p.1 = p.2) from ⟨fun h => eall.1 h.1, fun h => ⟨eall.2 h, hxy'⟩⟩)]
        exact hr
       ·have c5 : ((x.subs.length : Int) == 0) = false := by rw [beqD]; exact decide_eq_false (by omega)
        rw [c5]
        simp only [cond_false]
        have hm : (R0 ++ x.subs.zip y.subs).map Prod.fst = R0.map Prod.fst ++ x.subs := by rw [List.map_append, List.map_fst_zip (by omega)]
        have hr := ih (R0 ++ x.subs.zip y.subs) [] (by rw [hm, wL_append]; omega) (by omega)
        rw [List.append_nil] at hr
        have hP : (∀ p ∈ R0 ++ x.subs.zip y.subs, p.1 = p.2) ↔ ((∀ (a b : Tm), (a, b) ∈ R0 → a = b) ∧ x = y) := by
         rw [← hsub, eall]; simp only [List.mem_append, or_imp, forall_and]
        rw [propext hP] at hr
        exact same_push h4 (by omega) x.subs.length 0 R0 _ (by omega) (by omega) (fun h => by omega) (by rw [List.drop_zero]; exact hr)
      ·have h4' : ¬ ((x.subs.length : Int) = (y.subs.length : Int)) := by omega
       simp [h1, h2, h3, h4', bneD]
       simpa using hno fun h => h4 (by rw [h.2.2.2])
     ·have h3' : (x.str == y.str) = false := by simpa using h3
      simp [h1, h2, h3', bneD]
      simpa using hno fun h => h3 h.2.2.1
    ·simp [h1, h2, bneD]
     simpa using hno fun h => h2 h.2.1
   ·simp [h1, bneD]
    simpa using hno fun h => h1 h.1

theorem same_ev {a : Tm} (h : a.w < 1099511627776) (b : Tm) : Gets (EVs (EV cfg) 136 [a.av, b.av]) (Tells (a = b)) := by
 have := same_m _ [(a, b)] [] (Nat.le_refl _) (by simpa using h)
 rw [List.append_nil] at this
 rw [Tm.av, Tm.av, Tm.cells_eq a, Tm.cells_eq b]
 refine term_Same_run _ _ _ _ _ _ _ _ ?_
 have e : pairsR [(a, b)] = [[AV.int .i64 a.kind, .int .i64 a.num, .str a.str, .sl (rowsT a.subs), .int .i64 b.kind, .int .i64 b.num, .str b.str, .sl (rowsT b.subs)]] := by
  simp only [pairsR, List.map_cons, List.map_nil, Tm.cells_eq]; rfl
 have e2 : (∀ p ∈ [(a, b)], p.1 = p.2) ↔ a = b := by simp
 rw [e, propext e2] at this
 exact this
end Go.Proofs.YtkgkjngbfdnoiaaGreat
end

section
namespace Go.Av
def MOut (o : Option (List (Int × Tm))) (b : Bool) (r : List AV) : Prop := match o with
 | some m => b = true ∧ BRow m r ∧ ∀ q ∈ m, q.2.chk = 0
 | none => b = false
def QM (o : Option (List (Int × Tm))) (q : MV × List (List AV)) : Prop := ∃ b r, q = (MV.bool b, [r]) ∧ MOut o b r
theorem QM.same {p t : Tm} {m : List (Int × Tm)} {r : List AV} (h : BRow m r) (hm : ∀ q ∈ m, q.2.chk = 0) : QM (if p = t then some m else none) (MV.bool (decide (p = t)), [r]) := by
 refine ⟨_, r, rfl, ?_⟩
 by_cases h1 : p = t
 ·rw [if_pos h1, decide_eq_true h1]; exact ⟨rfl, h, hm⟩
 ·rw [if_neg h1, decide_eq_false h1]; exact rfl
end Go.Av
namespace Go.Proofs.YtkgkjngbfdnoiaaGreat
open Go.Av
set_option maxRecDepth 100000
theorem same_dec {a b : Tm} (h : a.w < 1099511627776) : EVs (EV cfg) 136 [a.av, b.av] = some (.bool (decide (a = b))) := by
 obtain ⟨v, h1, c, rfl, h2⟩ := same_ev h b
 rw [h1]
 congr 2
 by_cases hab : a = b
 ·rw [decide_eq_true hab, h2.2 hab]
 ·rw [decide_eq_false hab]
  cases c with
  | false => rfl
  | true => exact absurd (h2.1 rfl) hab
end Go.Proofs.YtkgkjngbfdnoiaaGreat
end

section
namespace Go.Av
structure EnvW (e : Env) : Prop where
 obj : e.obj.w < 1099511627776
 len : e.binds.length < 1099511627776
 binds : ∀ p ∈ e.binds, p.2.w < 1099511627776
end Go.Av
namespace Go.Proofs.YtkgkjngbfdnoiaaGreat
open Go.Av
end Go.Proofs.YtkgkjngbfdnoiaaGreat
end

section
namespace Go.Av
end Go.Av
namespace Go.Proofs.YtkgkjngbfdnoiaaGreat
open Go.Av
theorem agg_av (t : Tm) : t.av = .agg [.int .i64 t.kind, .int .i64 t.num, .str t.str, .sl (rowsT t.subs)] := by rw [Tm.av, Tm.cells_eq]
end Go.Proofs.YtkgkjngbfdnoiaaGreat
end

section
namespace Go.Av
def Rg.cells (r : Rg) : List AV := [.int .i64 r.ar, .sl (rowsT r.fst)]
def Rg.av (r : Rg) : AV := .agg r.cells
def rowsG (l : List Rg) : List (List AV) := l.map Rg.cells
def Bnd.av (b : Bnd) : AV := .agg [.bool b.all, .sl (rowsT b.keys), .sl (rowsG b.rgs)]
theorem rowsG_len (l : List Rg) : (rowsG l).length = l.length := by simp [rowsG]
theorem rowsG_get (l : List Rg) (i : Nat) : (rowsG l)[i]? = (l[i]?).map Rg.cells := by simp [rowsG]
structure RgW (r : Rg) : Prop where
 len : r.fst.length < 1099511627776
 ws : ∀ x ∈ r.fst, x.w < 1099511627776
noncomputable def meetsG (b : Bnd) (k : Tm) : Bool := decide (k.chk = 0) && (b.all || ((b.keys.any fun x => decide (x.chk = 0) && decide (x = k)) || b.rgs.any fun r => allK r.fst && withinK r k))
def AtP (i : Nat) (p : Bool) (v : AV) : Prop := ∃ j : Int, v = .int .i64 j ∧ (0 ≤ j ↔ p = true)
end Go.Av
namespace Go.Proofs.YtkgkjngbfdnoiaaGreat
open Go.Av
set_option maxRecDepth 100000
theorem bMayIn_ev {t : Tm} (h : t.w < 1099511627776) : EVs (EV cfg) 224 [t.av] = some (.bool (!decide (t.chk = 0))) := by
 have hc := check_ev h
 apply Gets.get
 rw [Tm.av, Tm.cells_eq] at hc ⊢
 refine bMayIn_run _ _ _ _ ?_
 rw [hc]
 simp only [kOptSome, kInt_int, bneD]
 exact ⟨_, rfl, rfl⟩
theorem bMay_ev {l : List Tm} (hlen : l.length < 1099511627776) (hw : ∀ x ∈ l, x.w < 1099511627776) : EVs (EV cfg) 142 [.sl (rowsT l)] = some (.bool (allK l)) := by
 have loop : ∀ d i : Nat, i + d = l.length → Gets (wrc31_0 (rowsT l) i) (AtP i (!allK (l.drop i))) := by
  intro d
  induction d with
  | zero =>
   intro i hi
   refine wrc31_0_step _ _ ?_
   rw [rowsT_length, decide_eq_false (by omega)]
   refine ⟨_, rfl, -1, rfl, ?_⟩
   rw [List.drop_eq_nil_of_le (by omega)]
   simp [allK]
  | succ d ihd =>
   intro i hi
   have hil : i < l.length := by omega
   refine wrc31_0_step _ _ ?_
   have hx : l[i]? = some l[i] := List.getElem?_eq_getElem hil
   have hd : l.drop i = l[i] :: l.drop (i + 1) := List.drop_eq_getElem_cons hil
   have h1 := bMayIn_ev (hw _ (List.mem_of_getElem? hx))
   have h2 := ihd (i + 1) (by omega)
   rw [rowsT_length, decide_eq_true (show (i : Int) < (l.length : Int) by omega), leInt_zero, ltInt_nat, decide_eq_true hil, rowsT_at hx, wrap_succ hil hlen]
   simp only [cond_true, Bool.and_self, length_cells, Nat.beq_refl, take_cells, kTmC_cells, show Nat.ble 4 4 = true from rfl, av_unf, h1, kOptSome, kBool_bool]
   by_cases hg : l[i].chk = 0
   ·rw [decide_eq_true hg]
    refine h2.mono ?_
    rintro _ ⟨j, rfl, hj⟩
    refine ⟨j, rfl, ?_⟩
    rw [hd, allK, List.all_cons, decide_eq_true hg, Bool.true_and]; exact hj
   ·rw [decide_eq_false hg]
    refine ⟨_, rfl, i, rfl, ?_⟩
    rw [hd, allK, List.all_cons, decide_eq_false hg]
    exact ⟨fun _ => rfl, fun _ => by omega⟩
 obtain ⟨_, h1, j, rfl, hj⟩ := loop l.length 0 (by omega)
 rw [List.drop_zero] at hj
 have h2 : EVs (EV cfg) 124 [.sl (rowsT l), .fn (.func 224) [] []] = some (.int .i64 j) := Gets.get (indMay_run _ ⟨_, h1, rfl⟩)
 have h3 : EVs (EV cfg) 143 [.sl (rowsT l), .fn (.func 224) [] []] = some (.bool (decide (j ≥ 0))) := by
  apply Gets.get
  refine contMay_run _ ?_
  rw [h2]; exact ⟨_, rfl, rfl⟩
 apply Gets.get
 refine bMay_run _ ?_
 rw [h3]
 refine ⟨_, rfl, ?_⟩
 show AV.bool (!decide (j ≥ 0)) = _
 congr 1
 cases ha : allK l with
 | false => rw [ha] at hj; rw [decide_eq_true (hj.2 rfl)]; rfl
 | true =>
  rw [ha] at hj
  have : ¬ j ≥ 0 := fun h => by have := hj.1 h; cases this
  rw [decide_eq_false this]; rfl
theorem bEqual_ev {l m : List Tm} (hl : l.length < 1099511627776) (hw : ∀ x ∈ l, x.w < 1099511627776) : EVs (EV cfg) 276 [.sl (rowsT l), .sl (rowsT m), .fn (.func 136) [] []] = some (.bool (decide (l = m))) := by
 apply Gets.get
 refine equalT_run _ _ ?_
 rw [rowsT_length, rowsT_length, bneD]
 by_cases hlm : l.length = m.length
 ·have loop : ∀ d i : Nat, i + d = l.length → Gets (wrc110_0 (rowsT l) (rowsT m) i) (· = .bool (decide (l.drop i = m.drop i))) := by
   intro d
   induction d with
   | zero =>
    intro i hi
    refine wrc110_0_step _ _ _ ?_
    rw [rowsT_length, decide_eq_false (by omega), List.drop_eq_nil_of_le (by omega), List.drop_eq_nil_of_le (by omega)]
    exact ⟨_, rfl, rfl⟩
   | succ d ihd =>
    intro i hi
    have hil : i < l.length := by omega
    have him : i < m.length := by omega
    refine wrc110_0_step _ _ _ ?_
    have hx : l[i]? = some l[i] := List.getElem?_eq_getElem hil
    have hy : m[i]? = some m[i] := List.getElem?_eq_getElem him
    have hd : l.drop i = l[i] :: l.drop (i + 1) := List.drop_eq_getElem_cons hil
    have hd' : m.drop i = m[i] :: m.drop (i + 1) := List.drop_eq_getElem_cons him
    have h1 := same_dec (b := m[i]) (hw _ (List.mem_of_getElem? hx))
    have h2 := ihd (i + 1) (by omega)
    rw [rowsT_length, rowsT_length, decide_eq_true (show (i : Int) < (l.length : Int) by omega), leInt_zero, ltInt_nat, ltInt_nat, decide_eq_true hil, decide_eq_true him, rowsT_at hx, wrap_succ hil hl]
    simp only [cond_true, Bool.and_self, length_cells, Nat.beq_refl, take_cells, kTmC_cells, show Nat.ble 4 4 = true from rfl]
    rw [rowsT_at hy]
    simp only [cond_true, length_cells, Nat.beq_refl, take_cells, kTmC_cells, show Nat.ble 4 4 = true from rfl, av_unf, h1, kOptSome, kBool_bool]
    rw [hd, hd']
    by_cases he : l[i] = m[i]
    ·rw [decide_eq_true he]
     refine h2.mono ?_
     rintro _ rfl
     rw [he]
     congr 1
     exact decide_eq_decide.2 ⟨fun h => by rw [h], fun h => (List.cons.inj h).2⟩
    ·rw [decide_eq_false he]
     refine ⟨_, rfl, ?_⟩
     rw [decide_eq_false (fun h => he (List.cons.inj h).1)]
  rw [decide_eq_true (show (l.length : Int) = m.length by omega)]
  have := loop l.length 0 (by omega)
  simpa using this
 ·rw [decide_eq_false (show ¬ (l.length : Int) = m.length by omega)]
  refine ⟨_, rfl, ?_⟩
  rw [decide_eq_false (fun h => hlm (by rw [h]))]
theorem bBegins_ev {l m : List Tm} (hl : l.length < 1099511627776) (hw : ∀ x ∈ l, x.w < 1099511627776) : EVs (EV cfg) 215 [.sl (rowsT l), .sl (rowsT m)] = some (.bool (decide (m.length ≤ l.length) && decide (l.take m.length = m))) := by
 have he := bEqual_ev (l := l.take m.length) (m := m) (by rw [List.length_take]; omega) (fun x hx => hw x (List.mem_of_mem_take hx))
 apply Gets.get
 refine bBegins_run _ _ ?_
 rw [rowsT_length, rowsT_length]
 by_cases h : m.length ≤ l.length
 ·have hle : leInt (m.length : Int) (l.length : Int) = true := by simp only [leInt]; exact decide_eq_true (by omega)
  have r4 : rowsOk 4 (rowsT l) = true := rowsOk_rowsT _
  rw [decide_eq_true (show (l.length : Int) ≥ m.length by omega), decide_eq_true h, leInt_zero, hle, r4, Int.toNat_natCast, Nat.sub_zero, rowsT_take, he]
  simp only [Bool.and_self, cond_true, kOptSome, kBool_bool, Bool.true_and]
  exact ⟨_, rfl, rfl⟩
 ·rw [decide_eq_false (show ¬ (l.length : Int) ≥ m.length by omega), decide_eq_false h]
  exact ⟨_, rfl, rfl⟩
theorem bWithin_ev (r : Rg) {k : Tm} (hk : k.w < 1099511627776) : EVs (EV cfg) 132 [r.av, k.av] = some (.bool (withinK r k)) := by
 have hwe := k.w_eq
 have hb := bBegins_ev (l := k.subs) (m := r.fst) (by have := len_wL k.subs; omega) (fun x hx => by have := wL_mem hx; omega)
 apply Gets.get
 rw [agg_av k]
 refine bWithin_run _ _ _ _ _ _ ?_
 rw [hb, beqI, rowsT_length, beqI]
 unfold withinK
 cases decide (k.kind = 7) <;> cases decide ((k.subs.length : Int) = r.ar) <;> exact ⟨_, rfl, rfl⟩
theorem bComp_ev {l m : List Tm} (hl : l.length < 1099511627776) (hlm : l.length = m.length) (hw : ∀ x ∈ l, x.w < 1099511627776) (hm : ∀ x ∈ m, x.w < 1099511627776) : EVs (EV cfg) 150 [.sl (rowsT l), .sl (rowsT m), .fn (.func 134) [] []] = some (.int .i64 (cmpE l m)) := by
 have loop : ∀ d i : Nat, i + d = l.length → Gets (wrc63_0 (rowsT l) (rowsT m) i) (· = .int .i64 (cmpE (l.drop i) (m.drop i))) := by
  intro d
  induction d with
  | zero =>
   intro i hi
   refine wrc63_0_step _ _ _ ?_
   rw [rowsT_length, rowsT_length, decide_eq_false (show ¬ ((i : Int) < (l.length : Int)) by omega), decide_eq_false (show ¬ ((l.length : Int) < (m.length : Int)) by omega), List.drop_eq_nil_of_le (by omega), List.drop_eq_nil_of_le (by omega), cmpE_nil]
   exact ⟨_, rfl, rfl⟩
  | succ d ihd =>
   intro i hi
   have hil : i < l.length := by omega
   have him : i < m.length := by omega
   refine wrc63_0_step _ _ _ ?_
   have hx : l[i]? = some l[i] := List.getElem?_eq_getElem hil
   have hy : m[i]? = some m[i] := List.getElem?_eq_getElem him
   have hd : l.drop i = l[i] :: l.drop (i + 1) := List.drop_eq_getElem_cons hil
   have hd' : m.drop i = m[i] :: m.drop (i + 1) := List.drop_eq_getElem_cons him
   have h1 := compare_ev (ok_of_w _ (hw _ (List.mem_of_getElem? hx))) (ok_of_w _ (hm _ (List.mem_of_getElem? hy)))
   have h2 := ihd (i + 1) (by omega)
   rw [rowsT_length, rowsT_length, decide_eq_true (show (i : Int) < (l.length : Int) by omega), leInt_zero, ltInt_nat, ltInt_nat, decide_eq_true hil, decide_eq_true him, decide_eq_false (show ¬ (i : Int) ≥ (m.length : Int) by omega), rowsT_at hx, wrap_succ hil hl]
   simp only [cond_true, cond_false, Bool.and_self, length_cells, Nat.beq_refl, take_cells, kTmC_cells, show Nat.ble 4 4 = true from rfl]
   rw [rowsT_at hy]
   simp only [cond_true, length_cells, Nat.beq_refl, take_cells, kTmC_cells, show Nat.ble 4 4 = true from rfl, av_unf, h1, kOptSome, kInt_int, bneD]
   rw [hd, hd', cmpE_cons]
   by_cases he : cmpT l[i] m[i] = 0
   ·rw [decide_eq_true he, if_neg (by omega)]
    exact h2
   ·rw [decide_eq_false he, if_pos he]
    exact ⟨_, rfl, rfl⟩
 apply Gets.get
 refine compT_run _ _ ?_
 simpa using loop l.length 0 (by omega)
theorem bSide_ev {r : Rg} (hr : RgW r) {k : Tm} (hk : k.w < 1099511627776) : EVs (EV cfg) 66 [r.av, k.av] = some (.int .i64 (sideG r k)) := by
 have hwe := k.w_eq
 have hlk := len_wL k.subs
 have m1 := bMay_ev (l := [k]) (by simp) (by simpa using hk)
 have m2 := bMay_ev hr.len hr.ws
 have er : [[AV.int .i64 k.kind, .int .i64 k.num, .str k.str, .sl (rowsT k.subs)]] = rowsT [k] := by rw [rowsT_cons, rowsT_nil, Tm.cells_eq]
 have k1 : allK [k] = decide (k.chk = 0) := by simp [allK]
 apply Gets.get
 rw [agg_av k]
 refine bSide_run _ _ _ _ _ _ ?_
 rw [rowsT_length, er, m1, m2, k1, cmp_ev, rowsT_length, cmp_ev]
 unfold sideG
 by_cases h1 : r.ar < (r.fst.length : Int)
 ·rw [decide_eq_true h1, if_pos (.inl h1)]; exact ⟨_, rfl, rfl⟩
 ·rw [decide_eq_false h1]
  by_cases h2 : k.chk = 0
  ·rw [decide_eq_true h2]
   cases h3 : allK r.fst with
   | false =>
    rw [if_pos (.inr (.inr rfl))]; exact ⟨_, rfl, rfl⟩
   | true =>
    rw [if_neg (fun h => h.elim h1 fun h => h.elim (fun h => h h2) fun h => by cases h)]
    simp only [cond_false, kOptSome, kBool_bool, Bool.not_true, kInt_int, bneD]
    unfold sideC
    by_cases h4 : numC k.kind 7 = 0
    ·rw [decide_eq_true h4, h4, lexI_zero]
     by_cases h5 : numC (k.subs.length : Int) r.ar = 0
     ·have h6 := numC_zero.1 h5
      have hle : leInt (r.fst.length : Int) (k.subs.length : Int) = true := by simp only [leInt]; exact decide_eq_true (by omega)
      have r4 : rowsOk 4 (rowsT k.subs) = true := rowsOk_rowsT _
      have hc := bComp_ev (l := k.subs.take r.fst.length) (m := r.fst) (by rw [List.length_take]; omega) (by rw [List.length_take]; omega) (fun x hx => by have := wL_mem (List.mem_of_mem_take hx); omega) hr.ws
      rw [decide_eq_true h5, h5, lexI_zero, leInt_zero, hle, r4, Int.toNat_natCast, Nat.sub_zero, rowsT_take, hc]
      exact ⟨_, rfl, rfl⟩
     ·rw [decide_eq_false h5, lexI_ne h5]; exact ⟨_, rfl, rfl⟩
    ·rw [decide_eq_false h4, lexI_ne h4]; exact ⟨_, rfl, rfl⟩
  ·rw [decide_eq_false h2, if_pos (.inr (.inl h2))]; exact ⟨_, rfl, rfl⟩
theorem bMeets_ev {b : Bnd} (hkl : b.keys.length < 1099511627776) (hkw : ∀ x ∈ b.keys, x.w < 1099511627776) (hrl : b.rgs.length < 1099511627776) (hrw : ∀ r ∈ b.rgs, RgW r) {k : Tm} (hk : k.w < 1099511627776) : EVs (EV cfg) 64 [b.av, k.av] = some (.bool (meetsG b k)) := by
 have m1 := bMay_ev (l := [k]) (by simp) (by simpa using hk)
 have k1 : ∀ k : Tm, allK [k] = decide (k.chk = 0) := fun k => by simp [allK]
 have er : ∀ k : Tm, [[AV.int .i64 k.kind, .int .i64 k.num, .str k.str, .sl (rowsT k.subs)]] = rowsT [k] := fun k => by rw [rowsT_cons, rowsT_nil, Tm.cells_eq]
 have hin : ∀ x ∈ b.keys, EVs (EV cfg) 144 [x.av, .cptr [.int .i64 k.kind, .int .i64 k.num, .str k.str, .sl (rowsT k.subs)] 0] = some (.bool (decide (x.chk = 0) && decide (x = k))) := by
  intro x hx
  have m2 := bMay_ev (l := [x]) (by simp) (by simpa using hkw x hx)
  have hs := same_dec (b := k) (hkw x hx)
  apply Gets.get
  rw [agg_av x]
  refine meetsKey_run _ _ _ _ _ _ _ _ ?_
  rw [er, m2, k1]
  simp only [kOptSome, kBool_bool, av_unf, hs]
  cases decide (x.chk = 0) <;> exact ⟨_, rfl, rfl⟩
 have hrin : ∀ r ∈ b.rgs, EVs (EV cfg) 145 [r.av, .cptr [.int .i64 k.kind, .int .i64 k.num, .str k.str, .sl (rowsT k.subs)] 0] = some (.bool (allK r.fst && withinK r k)) := by
  intro r hr
  have m2 := bMay_ev (hrw r hr).len (hrw r hr).ws
  have hs := bWithin_ev r hk
  apply Gets.get
  refine meetsRg_run _ _ _ _ _ _ ?_
  rw [m2, av_unf k]
  have e : (AV.agg [.int .i64 r.ar, .sl (rowsT r.fst)]) = r.av := rfl
  simp only [kOptSome, kBool_bool, e, hs]
  cases allK r.fst <;> exact ⟨_, rfl, rfl⟩
 have loopK : ∀ d i : Nat, i + d = b.keys.length → Gets (wrc31_0a (rowsT b.keys) k.kind k.num k.str (rowsT k.subs) i) (AtP i ((b.keys.drop i).any fun x => decide (x.chk = 0) && decide (x = k))) := by
  intro d
  induction d with
  | zero =>
   intro i hi
   refine wrc31_0a_step _ _ _ _ _ _ ?_
   rw [rowsT_length, decide_eq_false (by omega)]
   refine ⟨_, rfl, -1, rfl, ?_⟩
   rw [List.drop_eq_nil_of_le (by omega)]
   simp
  | succ d ihd =>
   intro i hi
   have hil : i < b.keys.length := by omega
   refine wrc31_0a_step _ _ _ _ _ _ ?_
   have hx : b.keys[i]? = some b.keys[i] := List.getElem?_eq_getElem hil
   have hd : b.keys.drop i = b.keys[i] :: b.keys.drop (i + 1) := List.drop_eq_getElem_cons hil
   have h1 := hin _ (List.mem_of_getElem? hx)
   have h2 := ihd (i + 1) (by omega)
   rw [rowsT_length, decide_eq_true (show (i : Int) < (b.keys.length : Int) by omega), leInt_zero, ltInt_nat, decide_eq_true hil, rowsT_at hx, wrap_succ hil hkl]
   simp only [cond_true, Bool.and_self, length_cells, Nat.beq_refl, take_cells, kTmC_cells, show Nat.ble 4 4 = true from rfl, av_unf, h1, kOptSome, kBool_bool]
   rw [hd, List.any_cons]
   cases hg : (decide (b.keys[i].chk = 0) && decide (b.keys[i] = k)) with
   | true =>
    refine ⟨_, rfl, i, rfl, ?_⟩
    exact ⟨fun _ => rfl, fun _ => by omega⟩
   | false =>
    refine h2.mono ?_
    rintro _ ⟨j, rfl, hj⟩
    exact ⟨j, rfl, by rw [Bool.false_or]; exact hj⟩
 have loopR : ∀ d i : Nat, i + d = b.rgs.length → Gets (wrc80_0 (rowsG b.rgs) k.kind k.num k.str (rowsT k.subs) i) (AtP i ((b.rgs.drop i).any fun r => allK r.fst && withinK r k)) := by
  intro d
  induction d with
  | zero =>
   intro i hi
   refine wrc80_0_step _ _ _ _ _ _ ?_
   rw [rowsG_len, decide_eq_false (by omega)]
   refine ⟨_, rfl, -1, rfl, ?_⟩
   rw [List.drop_eq_nil_of_le (by omega)]
   simp
  | succ d ihd =>
   intro i hi
   have hil : i < b.rgs.length := by omega
   refine wrc80_0_step _ _ _ _ _ _ ?_
   have hx : b.rgs[i]? = some b.rgs[i] := List.getElem?_eq_getElem hil
   have hd : b.rgs.drop i = b.rgs[i] :: b.rgs.drop (i + 1) := List.drop_eq_getElem_cons hil
   have h1 := hrin _ (List.mem_of_getElem? hx)
   have h2 := ihd (i + 1) (by omega)
   have gx : List.get?Internal (rowsG b.rgs) (Int.toNat (i : Int)) = some b.rgs[i].cells := by
    rw [get?Internal_eq, Int.toNat_natCast, rowsG_get, hx]; rfl
   rw [rowsG_len, decide_eq_true (show (i : Int) < (b.rgs.length : Int) by omega), leInt_zero, ltInt_nat, decide_eq_true hil, gx, wrap_succ hil hrl]
   generalize b.rgs[i] = r at *
   have e : (AV.agg [.int .i64 r.ar, .sl (rowsT r.fst)]) = r.av := rfl
   have c2 : r.cells.length = 2 := rfl
   have t2 : List.take 2 r.cells = r.cells := rfl
   have kc : ∀ {α : Type} (K : Int → List (List AV) → Option α), (kCons r.cells fun c cs => kInt .i64 c fun n => kCons cs fun c cs => kSl c fun rows => kNil cs (K n rows)) = K r.ar (rowsT r.fst) := fun K => rfl
   simp only [cond_true, Bool.and_self, c2, t2, Nat.beq_refl, show Nat.ble 2 2 = true from rfl, kOptSome]
   rw [kc]
   simp only [e, h1, kOptSome, kBool_bool]
   rw [hd, List.any_cons]
   cases hg : (allK r.fst && withinK r k) with
   | true =>
    refine ⟨_, rfl, i, rfl, ?_⟩
    exact ⟨fun _ => rfl, fun _ => by omega⟩
   | false =>
    refine h2.mono ?_
    rintro _ ⟨j, rfl, hj⟩
    exact ⟨j, rfl, by rw [Bool.false_or]; exact hj⟩
 obtain ⟨_, a1, j, rfl, hj⟩ := loopK b.keys.length 0 (by omega)
 obtain ⟨_, b1, j', rfl, hj'⟩ := loopR b.rgs.length 0 (by omega)
 rw [List.drop_zero] at hj hj'
 have a2 : EVs (EV cfg) 124 [.sl (rowsT b.keys), .fn (.func 144) [] [.cptr [.int .i64 k.kind, .int .i64 k.num, .str k.str, .sl (rowsT k.subs)] 0]] = some (.int .i64 j) := Gets.get (indKey_run _ _ _ _ _ ⟨_, a1, rfl⟩)
 have a3 : EVs (EV cfg) 143 [.sl (rowsT b.keys), .fn (.func 144) [] [.cptr [.int .i64 k.kind, .int .i64 k.num, .str k.str, .sl (rowsT k.subs)] 0]] = some (.bool (decide (j ≥ 0))) := by
  apply Gets.get
  refine contKey_run _ _ _ _ _ ?_
  rw [a2]; exact ⟨_, rfl, rfl⟩
 have b2 : EVs (EV cfg) 214 [.sl (rowsG b.rgs), .fn (.func 145) [] [.cptr [.int .i64 k.kind, .int .i64 k.num, .str k.str, .sl (rowsT k.subs)] 0]] = some (.int .i64 j') := Gets.get (indRg_run _ _ _ _ _ ⟨_, b1, rfl⟩)
 have b3 : EVs (EV cfg) 130 [.sl (rowsG b.rgs), .fn (.func 145) [] [.cptr [.int .i64 k.kind, .int .i64 k.num, .str k.str, .sl (rowsT k.subs)] 0]] = some (.bool (decide (j' ≥ 0))) := by
  apply Gets.get
  refine contRg_run _ _ _ _ _ ?_
  rw [b2]; exact ⟨_, rfl, rfl⟩
 have d1 : ∀ {j : Int} {p : Bool}, (0 ≤ j ↔ p = true) → decide (j ≥ 0) = p := fun {j p} h => by
  cases p with
  | true => exact decide_eq_true (h.2 rfl)
  | false => exact decide_eq_false (fun hh => by have := h.1 hh; cases this)
 rw [d1 hj] at a3
 rw [d1 hj'] at b3
 apply Gets.get
 rw [agg_av k]
 refine bMeets_run _ _ _ _ _ _ _ ?_
 rw [er, m1, k1, a3, b3]
 unfold meetsG
 simp only [kOptSome, kBool_bool]
 cases decide (k.chk = 0) with
 | false => exact ⟨_, rfl, rfl⟩
 | true =>
  cases b.all with
  | true => exact ⟨_, rfl, rfl⟩
  | false =>
   cases (b.keys.any fun x => decide (x.chk = 0) && decide (x = k)) <;> exact ⟨_, rfl, rfl⟩
end Go.Proofs.YtkgkjngbfdnoiaaGreat
end

section
namespace Go.Proofs.YtkgkjngbfdnoiaaGreat
open Go.Av
set_option maxRecDepth 100000
set_option maxHeartbeats 0

noncomputable def Lra128_0 : Den := evC cfg (EV cfg) 146 none 0 (sub (bodyOf Tryz.f146) [1, 1, 0, 1, 0, 0])
noncomputable def Ara128_0 : Ex × List AV × AH → Option AV := kAft (Cfg.keepOut cfg 146 4) (kRun cfg (EV cfg) (kfN cfg 6) 146 none 0 (kFinS cfg (Cfg.lift cfg 146 0) Tryz.f146.results.toList) ([.block 0, .seq (sub (bodyOf Tryz.f146) [1, 1, 1])]))
noncomputable def Wra128_0 : List AV × AH → Option AV := fun p => kOpt (LOOP 0 (some [2, 3, 5]) ([]) Lra128_0 p) Ara128_0
noncomputable abbrev wra128_0 (v5 c0_0 c0_1 : Int) (c0_2 : List UInt8) (c0_3 : List (List AV)) (c1_0 c1_1 : Int) (c1_2 : List UInt8) (c1_3 : List (List AV)) : Option (AV) := Wra128_0  (((fx 53 [(2, .ptr 0 0 0), (3, .ptr 1 0 0), (5, .int .i64 v5)]) : List AV), ([.rows false 4 [[.int .i64 c0_0, .int .i64 c0_1, .str c0_2, .sl c0_3]], .rows false 4 [[.int .i64 c1_0, .int .i64 c1_1, .str c1_2, .sl c1_3]]] : AH))
theorem r02Same_run (kp np : Int) (sp : List UInt8) (lp : List (List AV)) (kt nt : Int) (st : List UInt8) (lt : List (List AV)) {P : AV → Prop} (h : Gets (bif kp != kt then some (.bool false) else bif np != nt then some (.bool false) else bif ! sp == st then some (.bool false) else bif (lp.length : Int) != (↑ (List.length lt) : Int) then some (.bool false) else wra128_0 0 kp np sp lp kt nt st lt) P) : Gets (EVs (EV cfg) 146 ([AV.agg [AV.int IntKind.i64 kp, AV.int IntKind.i64 np, AV.str sp, AV.sl lp], AV.agg [AV.int IntKind.i64 kt, AV.int IntKind.i64 nt, AV.str st, AV.sl lt]] : List AV)) P :=
  Gets.ev (fun _ h => funS rfl rfl Tryz.func146 rfl h) (Gets.eq (by kernel_rfl) h)
theorem wra128_0_step (v5 c0_0 c0_1 : Int) (c0_2 : List UInt8) (c0_3 : List (List AV)) (c1_0 c1_1 : Int) (c1_2 : List UInt8) (c1_3 : List (List AV)) {P : AV → Prop} (h : Gets (bif decide (v5 < (c0_3.length : Int)) then bif leInt 0 v5 && ltInt v5 (c0_3.length : Int) then kOpt (List.get?Internal c0_3 (v5.toNat)) fun row => bif Nat.beq (List.length row) 4 then bif Nat.ble 4 (List.length row) then kTmC (List.take 4 row) fun n n_1 s rows => (bif leInt 0 v5 && ltInt v5 (c1_3.length : Int) then kOpt (List.get?Internal c1_3 (v5.toNat)) fun row => bif Nat.beq (List.length row) 4 then bif Nat.ble 4 (List.length row) then kTmC (List.take 4 row) fun n_2 n_3 s_1 rows_1 => (kOpt (EVs (EV cfg) 146 [.agg [AV.int .i64 n, .int .i64 n_1, .str s, .sl rows], .agg [AV.int .i64 n_2, .int .i64 n_3, .str s_1, .sl rows_1]]) fun v => kBool v fun b => bif ! b then some (.bool false) else wra128_0 (IntKind.wrap .i64 (v5 + 1)) c0_0 c0_1 c0_2 c0_3 c1_0 c1_1 c1_2 c1_3) else none else none else none) else none else none else none else some (.bool true)) P) : Gets (wra128_0 v5 c0_0 c0_1 c0_2 c0_3 c1_0 c1_1 c1_2 c1_3) P :=
  Gets.ev (fun _ h => loop_step (cfg := cfg) (f := 146) (rd := none) (bs := 0) h) (Gets.eq (by kernel_rfl) h)
end Go.Proofs.YtkgkjngbfdnoiaaGreat
end

section
namespace Go.Proofs.YtkgkjngbfdnoiaaGreat
open Go.Av
set_option maxRecDepth 100000
set_option maxHeartbeats 0

noncomputable def Lu53_0 : Den := evC cfg (EV cfg) 175 none 0 (sub (bodyOf Tryz.f175) [1, 1, 0, 1, 0, 0])
noncomputable def Au53_0 : Ex × List AV × AH → Option AV := kAft (Cfg.keepOut cfg 175 4) (kRun cfg (EV cfg) (kfN cfg 6) 175 none 0 (kFinS cfg (Cfg.lift cfg 175 0) Tryz.f175.results.toList) ([.block 0, .seq (sub (bodyOf Tryz.f175) [1, 1, 1])]))
noncomputable def Wu53_0 : List AV × AH → Option AV := fun p => kOpt (LOOP 0 (some [1, 3]) ([]) Lu53_0 p) Au53_0
noncomputable def Lu54_0 : Den := evC cfg (EV cfg) 176 none 0 (sub (bodyOf Tryz.f176) [1, 1, 1, 0, 1, 0, 1, 0, 0])
noncomputable def Au54_0 : Ex × List AV × AH → Option AV := kAft (Cfg.keepOut cfg 176 6) (kRun cfg (EV cfg) (kfN cfg 6) 176 none 0 (kFinS cfg (Cfg.lift cfg 176 0) Tryz.f176.results.toList) ([.block 0, .seq (sub (bodyOf Tryz.f176) [1, 1, 1, 1])]))
noncomputable def Wu54_0 : List AV × AH → Option AV := fun p => kOpt (LOOP 0 (some [1, 3, 4]) ([]) Lu54_0 p) Au54_0
noncomputable abbrev wu53_0 (v3 c0_0 c0_1 : Int) (c0_2 : List UInt8) (c0_3 : List (List AV)) : Option (AV) := Wu53_0  (((fx 21 [(1, .ptr 0 0 0), (3, .int .i64 v3)]) : List AV), ([.rows false 4 [[.int .i64 c0_0, .int .i64 c0_1, .str c0_2, .sl c0_3]]] : AH))
noncomputable abbrev wu54_0 (v3 v4 c0_0 c0_1 : Int) (c0_2 : List UInt8) (c0_3 : List (List AV)) : Option (AV) := Wu54_0  (((fx 42 [(1, .ptr 0 0 0), (3, .int .i64 v3), (4, .int .i64 v4)]) : List AV), ([.rows false 4 [[.int .i64 c0_0, .int .i64 c0_1, .str c0_2, .sl c0_3]]] : AH))
theorem r02Check_run (kt nt : Int) (st : List UInt8) (lt : List (List AV)) {P : AV → Prop} (h : Gets (kOpt (EVs (EV cfg) 175 [.agg [.int .i64 kt, .int .i64 nt, .str st, .sl lt]]) fun v => kBool v fun b => bif ! b then some (.int .i64 2) else kOpt (EVs (EV cfg) 176 [.agg [.int .i64 kt, .int .i64 nt, .str st, .sl lt]]) fun v => kInt .i64 v fun n => bif decide (n > 65536) then some (.int .i64 3) else some (.int .i64 0)) P) : Gets (EVs (EV cfg) 95 ([AV.agg [AV.int IntKind.i64 kt, AV.int IntKind.i64 nt, AV.str st, AV.sl lt]] : List AV)) P :=
  Gets.ev (fun _ h => funS rfl rfl Tryz.func95 rfl h) (Gets.eq (by kernel_rfl) h)
noncomputable abbrev zv0 (st : List UInt8) (lt : List (List AV)) : Option (AV) := bif st == [] then some (.bool ((lt.length : Int) == 0)) else some (.bool false)
noncomputable abbrev zv1 (nt : Int) (st : List UInt8) (lt : List (List AV)) : Option (AV) := kOpt (EVs (EV cfg) 295 [.int .i64 nt]) fun v => kBool v fun b => bif b then zv0 st lt else some (.bool false)
theorem r02Own_run (kt nt : Int) (st : List UInt8) (lt : List (List AV)) {P : AV → Prop} (h : Gets (bif kt == 1 then bif decide (nt ≥ (- 576460752303423488)) then bif decide (nt ≤ 576460752303423487) then zv0 st lt else some (.bool false) else some (.bool false) else bif kt == 2 then bif nt == 0 then bif decide ((st.length : Int) ≤ 64) then some (.bool ((lt.length : Int) == 0)) else some (.bool false) else some (.bool false) else bif kt == 3 then zv1 nt st lt else bif kt == 4 then kOpt (EVs (EV cfg) 295 [.int .i64 nt]) fun v => kBool v fun b => bif b then bif st == [] then some (.bool ((lt.length : Int) == (0 : Int))) else some (.bool false) else some (.bool false) else bif kt == 6 then zv1 nt st lt else bif kt == 5 then kOpt (EVs (EV cfg) 295 [.int .i64 nt]) fun v => kBool v fun b => bif b then bif st == [] then some (.bool (decide ((lt.length : Int) ≤ 64))) else some (.bool false) else some (.bool false) else bif kt == 7 then bif nt == 0 then bif st == [] then some (.bool (decide ((lt.length : Int) ≤ 64))) else some (.bool false) else some (.bool false) else bif kt == 8 then bif nt == 0 then zv0 st lt else some (.bool false) else bif kt == 9 then bif nt == 0 then bif st == [] then some (.bool ((lt.length : Int) == 2)) else some (.bool false) else some (.bool false) else some (.bool false)) P) : Gets (EVs (EV cfg) 244 ([AV.agg [AV.int IntKind.i64 kt, AV.int IntKind.i64 nt, AV.str st, AV.sl lt]] : List AV)) P :=
  Gets.ev (fun _ h => funS rfl rfl Tryz.func244 rfl h) (Gets.eq (by kernel_rfl) h)
theorem r02Parts_run (kt nt : Int) (st : List UInt8) (lt : List (List AV)) {P : AV → Prop} (h : Gets (kOpt (EVs (EV cfg) 244 [.agg [.int .i64 kt, .int .i64 nt, .str st, .sl lt]]) fun v => kBool v fun b => bif ! b then some (.bool false) else wu53_0 0 kt nt st lt) P) : Gets (EVs (EV cfg) 175 ([AV.agg [AV.int IntKind.i64 kt, AV.int IntKind.i64 nt, AV.str st, AV.sl lt]] : List AV)) P :=
  Gets.ev (fun _ h => funS rfl rfl Tryz.func175 rfl h) (Gets.eq (by kernel_rfl) h)
theorem r02Words_run (kt nt : Int) (st : List UInt8) (lt : List (List AV)) {P : AV → Prop} (h : Gets (bif kt == 5 then bif kt == 5 then wu54_0 2 0 kt nt st lt else bif kt == 7 then wu54_0 2 0 kt nt st lt else bif kt == 9 then wu54_0 2 0 kt nt st lt else some (.int .i64 2) else bif kt == 7 then bif kt == 5 then wu54_0 2 0 kt nt st lt else bif kt == 7 then wu54_0 2 0 kt nt st lt else bif kt == 9 then wu54_0 2 0 kt nt st lt else some (.int .i64 2) else bif kt == 5 then wu54_0 1 0 kt nt st lt else bif kt == 7 then wu54_0 1 0 kt nt st lt else bif kt == 9 then wu54_0 1 0 kt nt st lt else some (.int .i64 1)) P) : Gets (EVs (EV cfg) 176 ([AV.agg [AV.int IntKind.i64 kt, AV.int IntKind.i64 nt, AV.str st, AV.sl lt]] : List AV)) P :=
  Gets.ev (fun _ h => funS rfl rfl Tryz.func176 rfl h) (Gets.eq (by kernel_rfl) h)
theorem wu53_0_step (v3 c0_0 c0_1 : Int) (c0_2 : List UInt8) (c0_3 : List (List AV)) {P : AV → Prop} (h : Gets (bif decide (v3 < (c0_3.length : Int)) then bif leInt 0 v3 && ltInt v3 (c0_3.length : Int) then kOpt (List.get?Internal c0_3 (v3.toNat)) fun row => bif Nat.beq (List.length row) 4 then bif Nat.ble 4 (List.length row) then kTmC (List.take 4 row) fun n n_1 s rows => (kOpt (EVs (EV cfg) 175 [.agg [.int .i64 n, .int .i64 n_1, .str s, .sl rows]]) fun v => kBool v fun b => bif ! b then some (.bool false) else wu53_0 (IntKind.wrap .i64 (v3 + 1)) c0_0 c0_1 c0_2 c0_3) else none else none else none else some (.bool true)) P) : Gets (wu53_0 v3 c0_0 c0_1 c0_2 c0_3) P :=
  Gets.ev (fun _ h => loop_step (cfg := cfg) (f := 175) (rd := none) (bs := 0) h) (Gets.eq (by kernel_rfl) h)
theorem wu54_0_step (v3 v4 c0_0 c0_1 : Int) (c0_2 : List UInt8) (c0_3 : List (List AV)) {P : AV → Prop} (h : Gets (bif decide (v4 < (c0_3.length : Int)) then bif leInt 0 v4 && ltInt v4 (c0_3.length : Int) then kOpt (List.get?Internal c0_3 (v4.toNat)) fun row => bif Nat.beq (List.length row) 4 then bif Nat.ble 4 (List.length row) then kTmC (List.take 4 row) fun n n_1 s rows => (kOpt (EVs (EV cfg) 176 [.agg [.int .i64 n, .int .i64 n_1, .str s, .sl rows]]) fun v => kInt .i64 v fun n => wu54_0 (IntKind.wrap .i64 (v3 + n)) (IntKind.wrap .i64 (v4 + 1)) c0_0 c0_1 c0_2 c0_3) else none else none else none else some (.int .i64 v3)) P) : Gets (wu54_0 v3 v4 c0_0 c0_1 c0_2 c0_3) P :=
  Gets.ev (fun _ h => loop_step (cfg := cfg) (f := 176) (rd := none) (bs := 0) h) (Gets.eq (by kernel_rfl) h)
end Go.Proofs.YtkgkjngbfdnoiaaGreat
end

section
namespace Go.Proofs.YtkgkjngbfdnoiaaGreat
open Go.Av
set_option maxRecDepth 100000
set_option maxHeartbeats 0

theorem r02Numbered_run (n : Int) {P : AV → Prop} (h : Gets (bif decide (n ≥ 0) then some (.bool (decide (n ≤ 1073741824))) else some (.bool false)) P) : Gets (EVs (EV cfg) 295 ([AV.int IntKind.i64 n] : List AV)) P :=
  Gets.ev (fun _ h => funS rfl rfl Tryz.func295 rfl h) (Gets.eq (by kernel_rfl) h)
end Go.Proofs.YtkgkjngbfdnoiaaGreat
end

section
namespace Go.Proofs.YtkgkjngbfdnoiaaGreat
open Go.Av
theorem r02Numbered_ev (n : Int) : EVs (EV cfg) 295 [.int .i64 n] = some (.bool (decide (0 ≤ n) && decide (n ≤ 1073741824))) := by
 apply Gets.get
 refine r02Numbered_run _ ?_
 by_cases h : 0 ≤ n <;> simp [h]
theorem r02Own_ev (t : Tm) : EVs (EV cfg) 244 [t.av] = some (.bool t.sound) := by
 obtain ⟨k, n, s, l⟩ := t
 apply Gets.get
 rw [Tm.av_mk]
 refine r02Own_run _ _ _ _ ?_
 unfold zv1 zv0
 simp only [Tm.sound, Tm.kind_mk, Tm.num_mk, Tm.str_mk, Tm.subs_mk, rowsT_length, beqI, beqNil, soundB, r02Numbered_ev, kOptSome, kBool_bool]
 by_cases h1 : k = 1
 ·subst h1; simp [bif_some'] <;> (try rw [Bool.eq_iff_iff]) <;> (try simp) <;> first | omega | grind
 by_cases h2 : k = 2
 ·subst h2; simp [bif_some'] <;> (try rw [Bool.eq_iff_iff]) <;> (try simp) <;> first | omega | grind
 by_cases h3 : k = 3
 ·subst h3; simp [bif_some'] <;> (try rw [Bool.eq_iff_iff]) <;> (try simp) <;> first | omega | grind
 by_cases h4 : k = 4
 ·subst h4; simp [bif_some'] <;> (try rw [Bool.eq_iff_iff]) <;> (try simp) <;> first | omega | grind
 by_cases h6 : k = 6
 ·subst h6; simp [bif_some'] <;> (try rw [Bool.eq_iff_iff]) <;> (try simp) <;> first | omega | grind
 by_cases h5 : k = 5
 ·subst h5; simp [bif_some'] <;> (try rw [Bool.eq_iff_iff]) <;> (try simp) <;> first | omega | grind
 by_cases h7 : k = 7
 ·subst h7; simp [bif_some'] <;> (try rw [Bool.eq_iff_iff]) <;> (try simp) <;> first | omega | grind
 by_cases h8 : k = 8
 ·subst h8; simp [bif_some'] <;> (try rw [Bool.eq_iff_iff]) <;> (try simp) <;> first | omega | grind
 by_cases h9 : k = 9
 ·subst h9; simp [bif_some'] <;> (try rw [Bool.eq_iff_iff]) <;> (try simp) <;> first | omega | grind
 simp [h1, h2, h3, h4, h5, h6, h7, h8, h9]
theorem r02Parts_ev (t : Tm) : t.w < 1099511627776 → EVs (EV cfg) 175 [t.av] = some (.bool t.parts) := by
 induction t using Tm.ind with
 | _ k n s l ih =>
  intro hw
  rw [Tm.w_mk] at hw
  have hlen := wL_len l
  have loop : ∀ d i : Nat, i + d = l.length → Gets (wu53_0 i k n s (rowsT l)) (· = .bool (partsL (l.drop i))) := by
   intro d
   induction d with
   | zero =>
    intro i hi
    refine wu53_0_step _ _ _ _ _ ?_
    rw [rowsT_length, decide_eq_false (by omega), List.drop_eq_nil_of_le (by omega)]
    exact ⟨_, rfl, rfl⟩
   | succ d ihd =>
    intro i hi
    have hil : i < l.length := by omega
    refine wu53_0_step _ _ _ _ _ ?_
    have hx : l[i]? = some l[i] := List.getElem?_eq_getElem hil
    have hm := List.mem_of_getElem? hx
    have hd : l.drop i = l[i] :: l.drop (i + 1) := List.drop_eq_getElem_cons hil
    have h1 := ih l[i] hm (by have := wL_mem hm; omega)
    have h2 := ihd (i + 1) (by omega)
    rw [rowsT_length, decide_eq_true (show (i : Int) < (l.length : Int) by omega), leInt_zero, ltInt_nat, decide_eq_true hil, rowsT_at hx, wrap_succ hil (by omega), hd, partsL]
    simp only [cond_true, Bool.and_self, length_cells, Nat.beq_refl, take_cells, kTmC_cells, show Nat.ble 4 4 = true from rfl, av_unf, h1, kOptSome, kBool_bool]
    cases hg : l[i].parts with
    | false => exact ⟨_, rfl, rfl⟩
    | true => rw [Bool.true_and]; exact h2
  have ho := r02Own_ev (.mk k n s l)
  have h0 := loop l.length 0 (by omega)
  apply Gets.get
  rw [Tm.parts_eq]
  rw [Tm.av_mk] at ho ⊢
  refine r02Parts_run _ _ _ _ ?_
  rw [ho]
  simp only [kOptSome, kBool_bool, Tm.subs_mk]
  cases (Tm.mk k n s l).sound with
  | false => exact ⟨_, rfl, rfl⟩
  | true => rw [Bool.true_and]; exact h0
end Go.Proofs.YtkgkjngbfdnoiaaGreat
end

section
namespace Go.Proofs.YtkgkjngbfdnoiaaGreat
open Go.Av
theorem partsL_mem {l : List Tm} (h : partsL l = true) : ∀ x ∈ l, x.parts = true := by
 induction l with
 | nil => intro x hx; cases hx
 | cons y l ih =>
  rw [partsL, Bool.and_eq_true] at h
  intro x hx
  cases hx with
  | head => exact h.1
  | tail _ hx => exact ih h.2 x hx
theorem r02Words_ev (t : Tm) : t.w < 1099511627776 → t.parts = true → EVs (EV cfg) 176 [t.av] = some (.int .i64 (t.words : Int)) := by
 induction t using Tm.ind with
 | _ k n s l ih =>
  intro hw hp
  have hww := words_le (.mk k n s l)
  rw [Tm.w_mk] at hw hww
  have hlen := wL_len l
  rw [Tm.parts, Bool.and_eq_true] at hp
  obtain ⟨hp, hpl⟩ := hp
  have loop : ∀ d i acc : Nat, i + d = l.length → acc + wordsL (l.drop i) < 9007199254740992 → Gets (wu54_0 acc i k n s (rowsT l)) (· = .int .i64 ((acc + wordsL (l.drop i) : Nat) : Int)) := by
   intro d
   induction d with
   | zero =>
    intro i acc hi _
    refine wu54_0_step _ _ _ _ _ _ ?_
    rw [rowsT_length, decide_eq_false (by omega), List.drop_eq_nil_of_le (by omega)]
    exact ⟨_, rfl, rfl⟩
   | succ d ihd =>
    intro i acc hi hacc
    have hil : i < l.length := by omega
    refine wu54_0_step _ _ _ _ _ _ ?_
    have hx : l[i]? = some l[i] := List.getElem?_eq_getElem hil
    have hm := List.mem_of_getElem? hx
    have hd : l.drop i = l[i] :: l.drop (i + 1) := List.drop_eq_getElem_cons hil
    have h1 := ih l[i] hm (by have := wL_mem hm; omega) (partsL_mem hpl _ hm)
    rw [hd, wordsL] at hacc
    have h2 := ihd (i + 1) (acc + (l[i]).words) (by omega) (by omega)
    have w1 : IntKind.wrap .i64 ((acc : Int) + ((l[i]).words : Int)) = ((acc + (l[i]).words : Nat) : Int) := by rw [wrap64 (by omega) (by omega)]; omega
    rw [rowsT_length, decide_eq_true (show (i : Int) < (l.length : Int) by omega), leInt_zero, ltInt_nat, decide_eq_true hil, rowsT_at hx, wrap_succ hil (by omega), hd, wordsL]
    simp only [cond_true, Bool.and_self, length_cells, Nat.beq_refl, take_cells, kTmC_cells, show Nat.ble 4 4 = true from rfl, av_unf, h1, kOptSome, kInt_int, w1]
    rw [← Nat.add_assoc]
    exact h2
  have hwo : (Tm.mk k n s l).words = (Tm.mk k n s l).own + wordsL l := by rw [Tm.words]
  rw [hwo] at hww ⊢
  have ho := (Tm.mk k n s l).own_le
  have h0 := loop l.length 0 (Tm.mk k n s l).own (by omega) (by rw [List.drop_zero]; omega)
  rw [List.drop_zero] at h0
  apply Gets.get
  rw [Tm.av_mk]
  refine r02Words_run _ _ _ _ ?_
  by_cases h5 : k = 5
  ·subst h5
   have o2 : (Tm.mk 5 n s l).own = 2 := by simp [Tm.own]
   rw [o2] at h0 ⊢; exact h0
  by_cases h7 : k = 7
  ·subst h7
   have o2 : (Tm.mk 7 n s l).own = 2 := by simp [Tm.own]
   rw [o2] at h0 ⊢; exact h0
  have o1 : (Tm.mk k n s l).own = 1 := by simp [Tm.own, h5, h7]
  rw [o1] at h0 ⊢
  by_cases h9 : k = 9
  ·subst h9; exact h0
  have e5 : (k == 5) = false := by simpa using h5
  have e7 : (k == 7) = false := by simpa using h7
  have e9 : (k == 9) = false := by simpa using h9
  have hl : l = [] := by
   have : soundB k n s l.length = true → l.length = 0 := by
    unfold soundB
    rw [if_neg h5, if_neg h7, if_neg h9]
    intro h
    repeat' split at h
    all_goals simp at h
    all_goals simp [h]
   exact List.length_eq_zero_iff.1 (this hp)
  subst hl
  rw [e5, e7, e9]
  exact ⟨_, rfl, rfl⟩
theorem r02Check_ev {t : Tm} (h : t.w < 1099511627776) : EVs (EV cfg) 95 [t.av] = some (.int .i64 t.chk) := by
 have hp := r02Parts_ev t h
 have hw := r02Words_ev t h
 apply Gets.get
 rw [Tm.av, Tm.cells_eq] at hp hw ⊢
 refine r02Check_run _ _ _ _ ?_
 rw [hp]
 have hc : t.chk = if t.parts then (if 65536 < t.words then 3 else 0) else 2 := by
  unfold Tm.chk chkS
  simp [partsL, wordsL]
 rw [hc]
 simp only [kOptSome, kBool_bool]
 cases ht : t.parts with
 | false => exact ⟨_, rfl, rfl⟩
 | true =>
  rw [hw ht]
  simp only [kOptSome, kInt_int, Bool.not_true, cond_false, if_true]
  by_cases hg : 65536 < t.words
  ·rw [decide_eq_true (show ((t.words : Int) > 65536) by omega), if_pos hg]; exact ⟨_, rfl, rfl⟩
  ·rw [decide_eq_false (show ¬ ((t.words : Int) > 65536) by omega), if_neg hg]; exact ⟨_, rfl, rfl⟩
end Go.Proofs.YtkgkjngbfdnoiaaGreat
end

section
namespace Go.Proofs.YtkgkjngbfdnoiaaGreat
open Go.Av
set_option maxRecDepth 100000
set_option maxHeartbeats 0

noncomputable def Ly30_0 : Den := evC cfg (EV cfg) 76 none 0 (sub (bodyOf Tryz.f76) [1, 1, 0, 1, 0, 0])
noncomputable def Ay30_0 : Ex × List AV × AH → Option AV := kAft (Cfg.keepOut cfg 76 3) (kRun cfg (EV cfg) (kfN cfg 6) 76 none 0 (kFinF cfg (Cfg.lift cfg 76 0) Tryz.f76.results.toList) ([.block 0, .seq (sub (bodyOf Tryz.f76) [1, 1, 1])]))
noncomputable def Wy30_0 : List AV × AH → Option AV := fun p => kOpt (LOOP 0 (some [1, 2, 3, 4]) ([(3, 4)]) Ly30_0 p) Ay30_0
noncomputable def Ly120_0 : Den := evC cfg (EV cfg) 229 none 0 (sub (bodyOf Tryz.f229) [1, 1, 0, 1, 0, 0])
noncomputable def Ay120_0 : Ex × List AV × AH → Option AV := kAft (Cfg.keepOut cfg 229 3) (kRun cfg (EV cfg) (kfN cfg 6) 229 none 0 (kFinS cfg (Cfg.lift cfg 229 0) Tryz.f229.results.toList) ([.block 0, .seq (sub (bodyOf Tryz.f229) [1, 1, 1])]))
noncomputable def Wy120_0 : List AV × AH → Option AV := fun p => kOpt (LOOP 0 (some [0, 1, 5, 6]) ([]) Ly120_0 p) Ay120_0
noncomputable abbrev wy30_0 (nv3 : Nat) (v4 c0_0 c0_1 : Int) (c0_2 : List UInt8) (c0_3 : List (List AV)) (c1_0 c1_1 : Int) (c1_2 : List UInt8) (c1_3 h2 : List (List AV)) : Option (AV) := Wy30_0  (((fx 24 [(1, .ptr 0 0 0), (2, .ptr 1 0 0), (3, .ms 2 0 nv3), (4, .int .i64 v4)]) : List AV), ([.rows false 4 [[.int .i64 c0_0, .int .i64 c0_1, .str c0_2, .sl c0_3]], .rows false 4 [[.int .i64 c1_0, .int .i64 c1_1, .str c1_2, .sl c1_3]], .rows true 4 h2] : AH))
noncomputable abbrev wy120_0 (A B : List (List AV)) (v5 v6 : Int) : Option (AV) := Wy120_0  (((fx 32 [(0, .sl A), (1, .sl B), (5, .int .i64 v5), (6, .int .i64 v6)]) : List AV), ([] : AH))
theorem r02Copy_run (kt nt : Int) (st : List UInt8) (lt : List (List AV)) {P : AV → Prop} (h : Gets (wy30_0 0 0 kt nt st lt 0 0 [] [] []) P) : Gets (EVf (EV cfg) 76 ([AV.agg [AV.int IntKind.i64 kt, AV.int IntKind.i64 nt, AV.str st, AV.sl lt]] : List AV)) P :=
  Gets.ev (fun _ h => funF rfl rfl Tryz.func76 rfl h) (Gets.eq (by kernel_rfl) h)
theorem r03Numbers_run (a b : Int) {P : AV → Prop} (h : Gets (bif decide (a < b) then some (.int .i64 (- 1)) else bif decide (a > b) then some (.int .i64 1) else some (.int .i64 0)) P) : Gets (EVs (EV cfg) 227 ([AV.int IntKind.i64 a, AV.int IntKind.i64 b] : List AV)) P :=
  Gets.ev (fun _ h => funS rfl rfl Tryz.func227 rfl h) (Gets.eq (by kernel_rfl) h)
theorem r03Texts_run (a b : List UInt8) {P : AV → Prop} (h : Gets (bif Op.bytesLess a b then some (.int .i64 (- 1)) else bif ! (Op.bytesLess a b || a == b) then some (.int .i64 1) else some (.int .i64 0)) P) : Gets (EVs (EV cfg) 228 ([AV.str a, AV.str b] : List AV)) P :=
  Gets.ev (fun _ h => funS rfl rfl Tryz.func228 rfl h) (Gets.eq (by kernel_rfl) h)
theorem r03Lists_run (A B : List (List AV)) {P : AV → Prop} (h : Gets (kOpt (EVs (EV cfg) 227 [AV.int .i64 (A.length : Int), .int .i64 (B.length : Int)]) fun v => kInt .i64 v fun n => wy120_0 A B n 0) P) : Gets (EVs (EV cfg) 229 ([AV.sl A, AV.sl B] : List AV)) P :=
  Gets.ev (fun _ h => funS rfl rfl Tryz.func229 rfl h) (Gets.eq (by kernel_rfl) h)
noncomputable abbrev zx0 (na nb : Int) : Option (AV) := kOpt (EVs (EV cfg) 227 [AV.int .i64 na, .int .i64 nb]) fun v => kInt .i64 v fun n => some (.int .i64 n)
noncomputable abbrev zx1 (la lb : List (List AV)) : Option (AV) := kOpt (EVs (EV cfg) 229 [.sl la, .sl lb]) fun v => kInt .i64 v fun n => some (.int .i64 n)
theorem r03Compare_run (ka na : Int) (sa : List UInt8) (la : List (List AV)) (kb nb : Int) (sb : List UInt8) (lb : List (List AV)) {P : AV → Prop} (h : Gets (kOpt (EVs (EV cfg) 227 [AV.int .i64 ka, .int .i64 kb]) fun v => kInt .i64 v fun n => bif n != 0 then some (.int .i64 n) else bif ka == 1 then zx0 na nb else bif ka == 3 then zx0 na nb else bif ka == 4 then zx0 na nb else bif ka == 6 then zx0 na nb else bif ka == 2 then kOpt (EVs (EV cfg) 228 [.str sa, .str sb]) fun v => kInt .i64 v fun n => some (.int .i64 n) else bif ka == 5 then kOpt (EVs (EV cfg) 227 [AV.int .i64 na, .int .i64 nb]) fun v => kInt .i64 v fun n => bif n != 0 then some (.int .i64 n) else zx1 la lb else bif ka == 7 then zx1 la lb else bif ka == 9 then zx1 la lb else some (.int .i64 0)) P) : Gets (EVs (EV cfg) 151 ([AV.agg [AV.int IntKind.i64 ka, AV.int IntKind.i64 na, AV.str sa, AV.sl la], AV.agg [AV.int IntKind.i64 kb, AV.int IntKind.i64 nb, AV.str sb, AV.sl lb]] : List AV)) P :=
  Gets.ev (fun _ h => funS rfl rfl Tryz.func151 rfl h) (Gets.eq (by kernel_rfl) h)
theorem wy30_0_step (nv3 : Nat) (v4 c0_0 c0_1 : Int) (c0_2 : List UInt8) (c0_3 : List (List AV)) (c1_0 c1_1 : Int) (c1_2 : List UInt8) (c1_3 h2 : List (List AV)) {P : AV → Prop} (h : Gets (bif decide (v4 < (c0_3.length : Int)) then bif leInt 0 v4 && ltInt v4 (c0_3.length : Int) then kOpt (List.get?Internal c0_3 (v4.toNat)) fun row => bif Nat.beq (List.length row) 4 then bif Nat.ble 4 (List.length row) then kTmC (List.take 4 row) fun n n_1 s rows => (kOpt (EVf (EV cfg) 76 [.agg [AV.int .i64 n, .int .i64 n_1, .str s, .sl rows]]) fun v => kTmV v fun n n_2 s rows => (bif Nat.ble (0 + nv3) (List.length h2) && fitsIn (nv3 + 1) 56 then wy30_0 (nv3 + 1) (IntKind.wrap .i64 (v4 + 1)) c0_0 c0_1 c0_2 c0_3 c1_0 c1_1 c1_2 c1_3 (List.append (List.take nv3 h2) [[AV.int .i64 n, .int .i64 n_2, .str s, .sl rows]]) else none)) else none else none else none else bif Nat.ble (0 + nv3) (List.length h2) && true then some (.agg [AV.int .i64 c0_0, .int .i64 c0_1, .str c0_2, .sl (List.take nv3 h2)]) else none) P) : Gets (wy30_0 nv3 v4 c0_0 c0_1 c0_2 c0_3 c1_0 c1_1 c1_2 c1_3 h2) P :=
  Gets.ev (fun _ h => loop_step (cfg := cfg) (f := 76) (rd := none) (bs := 0) h) (Gets.eq (by kernel_rfl) h)
theorem wy120_0_step (A B : List (List AV)) (v5 v6 : Int) {P : AV → Prop} (h : Gets (bif decide (v6 < (A.length : Int)) then bif v5 == 0 then bif leInt 0 v6 && ltInt v6 (A.length : Int) then kOpt (List.get?Internal A (v6.toNat)) fun row => bif Nat.beq (List.length row) 4 then bif Nat.ble 4 (List.length row) then kTmC (List.take 4 row) fun n n_1 s rows => (bif leInt 0 v6 && ltInt v6 (B.length : Int) then kOpt (List.get?Internal B (v6.toNat)) fun row => bif Nat.beq (List.length row) 4 then bif Nat.ble 4 (List.length row) then kTmC (List.take 4 row) fun n_2 n_3 s_1 rows_1 => (kOpt (EVs (EV cfg) 151 [.agg [AV.int .i64 n, .int .i64 n_1, .str s, .sl rows], .agg [AV.int .i64 n_2, .int .i64 n_3, .str s_1, .sl rows_1]]) fun v => kInt .i64 v fun n => wy120_0 A B n (IntKind.wrap .i64 (v6 + 1))) else none else none else none) else none else none else none else some (.int .i64 v5) else some (.int .i64 v5)) P) : Gets (wy120_0 A B v5 v6) P :=
  Gets.ev (fun _ h => loop_step (cfg := cfg) (f := 229) (rd := none) (bs := 0) h) (Gets.eq (by kernel_rfl) h)
end Go.Proofs.YtkgkjngbfdnoiaaGreat
end

section
namespace Go.Av
def tbR (o : Option Tm) : AV := .tup [(o.getD zeroT).av, .bool o.isSome]
def RB (o : Option Tm) (v : AV) : Prop := ∃ t : Tm, v = .tup [t.av, .bool o.isSome] ∧ ∀ x, o = some x → t = x
theorem RB.of {o : Option Tm} : RB o (tbR o) := ⟨_, rfl, fun x h => by rw [h]; rfl⟩
theorem RB.some {t : Tm} {v : AV} (h : RB (some t) v) : v = .tup [t.av, .bool true] := by
 obtain ⟨x, rfl, h⟩ := h
 rw [h t rfl]; rfl
end Go.Av
namespace Go.Proofs.YtkgkjngbfdnoiaaGreat
open Go.Av
end Go.Proofs.YtkgkjngbfdnoiaaGreat
end

section
namespace Go.Proofs.YtkgkjngbfdnoiaaGreat
open Go.Av
theorem r03Numbers_ev (a b : Int) : EVs (EV cfg) 227 [.int .i64 a, .int .i64 b] = some (.int .i64 (numC a b)) := by
 apply Gets.get
 refine r03Numbers_run _ _ ?_
 unfold numC
 by_cases h : a < b
 ·rw [decide_eq_true h, if_pos h]; exact ⟨_, rfl, rfl⟩
 ·rw [decide_eq_false h, if_neg h, cond_false]
  by_cases h : b < a
  ·rw [decide_eq_true (show a > b from h), if_pos h]; exact ⟨_, rfl, rfl⟩
  ·rw [decide_eq_false (show ¬ a > b from h), if_neg h]; exact ⟨_, rfl, rfl⟩
theorem r03Texts_ev (a b : List UInt8) : EVs (EV cfg) 228 [.str a, .str b] = some (.int .i64 (strC a b)) := by
 apply Gets.get
 refine r03Texts_run _ _ ?_
 unfold strC
 rw [beqS]
 by_cases h : a = b
 ·subst h
  rw [bytesLess_irrefl, if_pos rfl, decide_eq_true rfl]; exact ⟨_, rfl, rfl⟩
 ·rw [if_neg h, decide_eq_false h]
  cases Op.bytesLess a b <;> exact ⟨_, rfl, rfl⟩
theorem r03Lists_of (la lb : List Tm) (hlen : la.length < 1099511627776) (ih : ∀ a ∈ la, ∀ b ∈ lb, EVs (EV cfg) 151 [a.av, b.av] = some (.int .i64 (cmpT a b))) :
  EVs (EV cfg) 229 [.sl (rowsT la), .sl (rowsT lb)] = some (.int .i64 (cmpL la lb)) := by
 have stop : ∀ (c : Int) (i : Nat), c ≠ 0 → Gets (wy120_0 (rowsT la) (rowsT lb) c i) (· = .int .i64 c) := by
  intro c i hc
  refine wy120_0_step _ _ _ _ ?_
  rw [beqI, decide_eq_false hc]
  cases decide ((i : Int) < ((rowsT la).length : Int)) <;> exact ⟨_, rfl, rfl⟩
 have loop : la.length = lb.length → ∀ (d i : Nat), i + d = la.length → Gets (wy120_0 (rowsT la) (rowsT lb) 0 i) (· = .int .i64 (cmpE (la.drop i) (lb.drop i))) := by
  intro hl d
  induction d with
  | zero =>
   intro i hi
   refine wy120_0_step _ _ _ _ ?_
   rw [rowsT_length, decide_eq_false (by omega), List.drop_eq_nil_of_le (by omega), List.drop_eq_nil_of_le (by omega), cmpE_nil]
   exact ⟨_, rfl, rfl⟩
  | succ d ihd =>
   intro i hi
   have hil : i < la.length := by omega
   have hil' : i < lb.length := by omega
   have hx : la[i]? = some la[i] := List.getElem?_eq_getElem hil
   have hy : lb[i]? = some lb[i] := List.getElem?_eq_getElem hil'
   have h1 := ih _ (List.mem_of_getElem? hx) _ (List.mem_of_getElem? hy)
   refine wy120_0_step _ _ _ _ ?_
   rw [rowsT_length, rowsT_length, decide_eq_true (show (i : Int) < (la.length : Int) by omega), leInt_zero, ltInt_nat, ltInt_nat, decide_eq_true hil, decide_eq_true hil', rowsT_at hx, List.drop_eq_getElem_cons hil, List.drop_eq_getElem_cons hil', cmpE_cons, wrap_succ hil hlen]
   simp only [cond_true, Bool.and_self, length_cells, Nat.beq_refl, take_cells, kTmC_cells, ble44, beqI, decide_true, rowsT_at hy, av_unf, h1, kOptSome, kInt_int]
   by_cases h0 : cmpT la[i] lb[i] = 0
   ·rw [h0, if_neg (by omega)]; exact ihd (i + 1) (by omega)
   ·rw [if_pos h0]; exact stop _ _ h0
 apply Gets.get
 refine r03Lists_run _ _ ?_
 rw [r03Numbers_ev]
 simp only [kOptSome, kInt_int, rowsT_length]
 unfold cmpL
 by_cases h : numC la.length lb.length = 0
 ·have hl := numC_zero.1 h
  rw [h, if_neg (by omega)]
  simpa using loop (by omega) la.length 0 (by omega)
 ·rw [if_pos h]; exact stop _ 0 h
theorem r03Compare_ev : ∀ (n : Nat) (a b : Tm), a.w ≤ n → n < 1099511627776 → EVs (EV cfg) 151 [a.av, b.av] = some (.int .i64 (cmpT a b)) := by
 intro n
 induction n with
 | zero => intro a b h; have := w_pos a; omega
 | succ n ih =>
  intro a b hw hn
  obtain ⟨k, m, s, l⟩ := a
  obtain ⟨k', m', s', l'⟩ := b
  rw [Tm.w_mk] at hw
  have hlen := wL_len l
  have hl := r03Lists_of l l' (by omega) (fun x hx y _ => ih x y (by have := wL_mem hx; omega) (by omega))
  apply Gets.get
  rw [Tm.av_mk, Tm.av_mk]
  refine r03Compare_run _ _ _ _ _ _ _ _ ?_
  unfold zx1 zx0
  rw [cmpT_eq, r03Numbers_ev, r03Numbers_ev, r03Texts_ev, hl]
  simp only [kOptSome, kInt_int, beqI]
  have bne0 : ∀ z : Int, (z != 0) = !decide (z = 0) := fun z => by rw [bne, beqI]
  simp only [bne0]
  by_cases h : numC k k' = 0
  ·rw [if_neg (by omega), decide_eq_true h]
   simp only [Bool.not_true, cond_false]
   by_cases h1 : k = 1
   ·rw [if_pos (Or.inl h1), decide_eq_true h1]; exact ⟨_, rfl, rfl⟩
   rw [decide_eq_false h1, cond_false]
   by_cases h3 : k = 3
   ·rw [if_pos (Or.inr (Or.inl h3)), decide_eq_true h3]; exact ⟨_, rfl, rfl⟩
   rw [decide_eq_false h3, cond_false]
   by_cases h4 : k = 4
   ·rw [if_pos (Or.inr (Or.inr (Or.inl h4))), decide_eq_true h4]; exact ⟨_, rfl, rfl⟩
   rw [decide_eq_false h4, cond_false]
   by_cases h6 : k = 6
   ·rw [if_pos (Or.inr (Or.inr (Or.inr h6))), decide_eq_true h6]; exact ⟨_, rfl, rfl⟩
   rw [decide_eq_false h6, cond_false, if_neg (by omega)]
   by_cases h2 : k = 2
   ·rw [if_pos h2, decide_eq_true h2]; exact ⟨_, rfl, rfl⟩
   rw [decide_eq_false h2, cond_false, if_neg h2]
   by_cases h5 : k = 5
   ·rw [if_pos h5, decide_eq_true h5, cond_true]
    by_cases hm : numC m m' = 0
    ·rw [if_neg (by omega), decide_eq_true hm]; exact ⟨_, rfl, rfl⟩
    ·rw [if_pos hm, decide_eq_false hm]; exact ⟨_, rfl, rfl⟩
   rw [decide_eq_false h5, cond_false, if_neg h5]
   by_cases h7 : k = 7
   ·rw [if_pos (Or.inl h7), decide_eq_true h7]; exact ⟨_, rfl, rfl⟩
   rw [decide_eq_false h7, cond_false]
   by_cases h9 : k = 9
   ·rw [if_pos (Or.inr h9), decide_eq_true h9]; exact ⟨_, rfl, rfl⟩
   rw [decide_eq_false h9, if_neg (by omega)]; exact ⟨_, rfl, rfl⟩
  ·rw [if_pos h, decide_eq_false h]; exact ⟨_, rfl, rfl⟩
end Go.Proofs.YtkgkjngbfdnoiaaGreat
end

section
namespace Go.Av
theorem kChain {α : Type} (t : Tm) (K : Int → Int → List UInt8 → List (List AV) → Option α) : (kCons t.cells fun (c : AV) (cs : List AV) => kInt .i64 c fun (n : Int) => kCons cs fun (c : AV) (cs : List AV) => kInt .i64 c fun (n_1 : Int) => kCons cs fun (c : AV) (cs : List AV) => kStr c fun (s : List UInt8) => kCons cs fun (c : AV) (cs : List AV) => kSl c fun (rows : List (List AV)) => kNil cs (K n n_1 s rows)) = K t.kind t.num t.str (rowsT t.subs) := kTmC_cells t K
end Go.Av
namespace Go.Proofs.YtkgkjngbfdnoiaaGreat
open Go.Av
theorem r02Copy_ev (t : Tm) : t.w < 1099511627776 → EVf (EV cfg) 76 [t.av] = some t.av := by
 induction t using Tm.ind with
 | _ k n s l ih =>
  intro hw
  rw [Tm.w_mk] at hw
  have hlen := wL_len l
  have ih' : ∀ x ∈ l, EVf (EV cfg) 76 [x.av] = some x.av := fun x hx => ih x hx (by have := wL_mem hx; omega)
  have loop : ∀ d i : Nat, i + d = l.length → Gets (wy30_0 i i k n s (rowsT l) 0 0 [] [] (rowsT (l.take i))) (· = (Tm.mk k n s l).av) := by
   intro d
   induction d with
   | zero =>
    intro i hi
    refine wy30_0_step _ _ _ _ _ _ _ _ _ _ _ ?_
    obtain rfl : i = l.length := by omega
    have hb : Nat.ble (0 + l.length) (rowsT l).length = true := by rw [Nat.ble_eq, rowsT_length]; omega
    have ht : List.take l.length (rowsT l) = rowsT l := List.take_of_length_le (by rw [rowsT_length]; omega)
    rw [rowsT_length, decide_eq_false (by omega), List.take_length, hb, ht, Tm.av_mk]
    exact ⟨_, rfl, rfl⟩
   | succ d ihd =>
    intro i hi
    have hil : i < l.length := by omega
    refine wy30_0_step _ _ _ _ _ _ _ _ _ _ _ ?_
    have hx : l[i]? = some l[i] := List.getElem?_eq_getElem hil
    have h1 := ih' l[i] (List.mem_of_getElem? hx)
    have h2 := ihd (i + 1) (by omega)
    have e1 : l.take (i + 1) = l.take i ++ [l[i]] := by rw [List.take_add_one, hx]; rfl
    have ht : (rowsT (l.take i)).length = i := by rw [rowsT_length, List.length_take]; omega
    have e2 : List.append (List.take i (rowsT (l.take i))) [l[i].cells] = rowsT (l.take (i + 1)) := by
     rw [List.take_of_length_le (by omega), e1, rowsT_append, rowsT_cons, rowsT_nil]; rfl
    have e3 : Nat.ble (0 + i) (rowsT (l.take i)).length = true := by rw [ht, Nat.ble_eq]; omega
    rw [rowsT_length, decide_eq_true (show (i : Int) < (l.length : Int) by omega), leInt_zero, ltInt_nat, decide_eq_true hil, rowsT_at hx, wrap_succ (n := l.length) hil (by omega), e3, fits56 (by omega)]
    simp only [cond_true, Bool.and_self, length_cells, Nat.beq_refl, take_cells, kTmC_cells, show Nat.ble 4 4 = true from rfl, av_unf, h1, kOptSome, kTmV_av]
    rw [← Tm.cells_eq, e2]
    exact h2
  apply Gets.get
  rw [Tm.av_mk]
  refine r02Copy_run _ _ _ _ ?_
  rw [← Tm.av_mk]
  exact (by simpa [rowsT_nil] using loop l.length 0 (by omega))
end Go.Proofs.YtkgkjngbfdnoiaaGreat
end

section
namespace Go.Av
def okC (c : Cl) : Bool := headG c.head && !c.bs.isEmpty && (c.gs.all (fun e => decide (checkG (varsG c.head) e = 0)) && c.bs.all (fun e => decide (checkG (varsG c.head) e = 0)))
theorem clauseG_clT (c : Cl) : clauseG (clT c) = if okC c then some c else none := by
 unfold clauseG clT
 rw [if_pos (show (tupT [c.head, listT c.gs, listT c.bs]).kind = 7 from rfl)]
 show (if headG c.head && ((itemsG (listT c.gs)).2 && ((itemsG (listT c.bs)).2 && !(itemsG (listT c.bs)).1.isEmpty)) && ((itemsG (listT c.gs)).1.all (fun e => decide (checkG (varsG c.head) e = 0)) && (itemsG (listT c.bs)).1.all (fun e => decide (checkG (varsG c.head) e = 0))) then some (Cl.mk c.head (itemsG (listT c.gs)).1 (itemsG (listT c.bs)).1) else none) = _
 rw [itemsG_list, itemsG_list]
 simp only [Bool.true_and]
 rfl
theorem seqC_clT : ∀ cs : List Cl, seqC (cs.map clT) = if cs.all okC then some cs else none
 | [] => rfl
 | c :: cs => by
  rw [List.map_cons, seqC, clauseG_clT, seqC_clT cs, List.all_cons]
  cases okC c <;> cases cs.all okC <;> rfl
theorem clsG_selT (cs : List Cl) : clsG (selT cs) = if (selT cs).chk = 0 then (if cs.all okC && !cs.isEmpty then (cs, 0) else ([], 10)) else ([], 2) := by
 unfold clsG
 have h : itemsG (selT cs) = (cs.map clT, true) := itemsG_list _
 rw [h]
 simp only [seqC_clT, Bool.true_and]
 cases h1 : cs.all okC <;> cases cs <;> simp
structure SelOk (cs : List Cl) : Prop where
 chk : (selT cs).chk = 0
 ok : ∀ c ∈ cs, okC c = true
 ne : cs ≠ []
theorem clsG_zero {cs : List Cl} : (clsG (selT cs)).2 = 0 ↔ SelOk cs := by
 rw [clsG_selT]
 by_cases h : (selT cs).chk = 0
 ·rw [if_pos h]
  cases h1 : cs.all okC && !cs.isEmpty with
  | true =>
   rw [Bool.and_eq_true, List.all_eq_true] at h1
   exact ⟨fun _ => ⟨h, h1.1, by rintro rfl; exact absurd h1.2 (by simp)⟩, fun _ => rfl⟩
  | false =>
   refine ⟨fun h => (by cases h), fun g => ?_⟩
   rw [List.all_eq_true.2 g.ok, Bool.true_and] at h1
   exact absurd (List.isEmpty_iff.1 (by simpa using h1)) g.ne
 ·rw [if_neg h]
  exact ⟨fun h => (by cases h), fun g => absurd g.chk h⟩
theorem SelOk.of {cs : List Cl} (h : SelOk cs) : ofG cs = (selT cs, 0) := by
 unfold ofG
 rw [if_pos (clsG_zero.2 h)]
theorem listT_words : ∀ l : List Tm, (listT l).words = 1 + l.length + wordsL l
 | [] => by decide
 | x :: l => by
  have h : (listT (x :: l)).words = 1 + (x.words + ((listT l).words + 0)) := by
   show (Tm.mk 9 0 [] [x, listT l]).words = _
   rw [Tm.words]; simp [wordsL, Tm.own]
  rw [h, listT_words l, wordsL, List.length_cons]; omega
theorem listT_parts : ∀ l : List Tm, (listT l).parts = partsL l
 | [] => by decide
 | x :: l => by
  have h : (listT (x :: l)).parts = (x.parts && ((listT l).parts && true)) := by
   show (Tm.mk 9 0 [] [x, listT l]).parts = _
   rw [Tm.parts]; simp [partsL, soundB]
  rw [h, listT_parts l, partsL, Bool.and_true]
theorem sel_one {c : Cl} : (selT [c]).chk = 0 ↔ (clT c).parts = true ∧ 2 + (clT c).words ≤ 65536 := by
 rw [chk_zero, selT, listT_words, listT_parts]
 simp [partsL, wordsL]
theorem SelOk.one {cs : List Cl} (h : SelOk cs) {c : Cl} (hc : c ∈ cs) : SelOk [c] := by
 obtain ⟨h1, h2⟩ := chk_zero.1 h.chk
 rw [selT, listT_parts] at h1
 rw [selT, listT_words] at h2
 have hm := List.mem_map_of_mem (f := clT) hc
 have := wordsL_mem hm
 have hl : 1 ≤ cs.length := List.length_pos_of_mem hc
 rw [List.length_map] at h2
 exact ⟨sel_one.2 ⟨partsL_mem h1 _ hm, by omega⟩, by simpa using h.ok c hc, by simp⟩
end Go.Av
end

section
namespace Go.Proofs.YtkgkjngbfdnoiaaGreat
open Go.Av
def SizeP (t : Tm) (most : Int) (v : AV) : Prop := ∃ n : Int, v = .int .i64 n ∧ 1 ≤ n ∧ n ≤ most ∧ (n < most → t.w ≤ 101 * n ∧ t.words ≤ 2 * n)
theorem sizeV_ev (t : Tm) : t.Ok → ∀ most : Int, 1 ≤ most → most ≤ 1073741824 → Gets (EVs (EV cfg) 106 [t.av, .int .i64 most]) (SizeP t most) := by
 induction t using Tm.ind with
 | _ k n s l ih =>
  intro hok most h1 hmx
  by_cases hs : s.length ≤ 100
  ·have loop : ∀ (d i : Nat) (m : Int), i + d = l.length → 1 ≤ m → m ≤ most → (m < most → (1 + s.length : Nat) + wL (l.take i) ≤ 101 * m ∧ 2 + wordsL (l.take i) ≤ 2 * m) → Gets (wh47_0 most m i k n s (rowsT l)) (SizeP (.mk k n s l) most) := by
    intro d
    induction d with
    | zero =>
     intro i m hi hm1 hm2 hmw
     refine wh47_0_step _ _ _ _ _ _ _ ?_
     rw [rowsT_length, decide_eq_false (by omega)]
     refine ⟨_, rfl, m, rfl, hm1, hm2, fun hlt => ?_⟩
     have hmw := hmw hlt
     rw [List.take_of_length_le (by omega)] at hmw
     have := (Tm.mk k n s l).own_le
     rw [Tm.w_mk, Tm.words]
     omega
    | succ d ihd =>
     intro i m hi hm1 hm2 hmw
     refine wh47_0_step _ _ _ _ _ _ _ ?_
     have hil : i < l.length := by omega
     have hx : l[i]? = some l[i] := List.getElem?_eq_getElem hil
     have hxl := List.mem_of_getElem? hx
     have hix := ih l[i] hxl (hok.sub hxl)
     by_cases hm : m < most
     ·have hmw := hmw hm
      rw [wrap_succ hil hok.len, wrap64 (x := most - m) (by omega) (by omega)]
      simp [hil, hx, hm]
      refine Gets.bind (hix (most - m) (by omega) (by omega)) ?_
      rintro _ ⟨n'', rfl, q1, q2, q3⟩
      have hg := ihd (i + 1) (m + n'') (by omega) (by omega) (by omega) (fun hlt => by
       have := q3 (by omega)
       rw [List.take_add_one, hx, Option.toList_some, wL_append, wordsL_append, wL_cons, wL_nil, wordsL, wordsL]
       omega)
      simp only [kInt_int]
      rw [wrap64 (x := m + n'') (by omega) (by omega)]
      simpa using hg
     ·simp [hil, hm]
      exact ⟨m, rfl, hm1, hm2, fun h => absurd h hm⟩
   rw [Tm.av_mk]
   refine kitSize_run _ _ _ _ _ ?_
   rw [decide_eq_false (by omega)]
   by_cases h2 : (l.length : Int) > most
   ·rw [rowsT_length, decide_eq_true h2]
    exact ⟨_, rfl, most, rfl, h1, Int.le_refl _, fun h => absurd h (by omega)⟩
   ·rw [rowsT_length, decide_eq_false h2]
    exact loop l.length 0 1 (by omega) (by omega) (by omega) (fun _ => by simp [wordsL]; omega)
  ·rw [Tm.av_mk]
   refine kitSize_run _ _ _ _ _ ?_
   rw [decide_eq_true (by omega)]
   exact ⟨_, rfl, most, rfl, h1, Int.le_refl _, fun h => absurd h (by omega)⟩
def BigP (t : Tm) (most : Int) (v : AV) : Prop := ∃ b : Bool, v = .bool b ∧ (b = false → t.w ≤ 101 * most ∧ t.words ≤ 2 * most)
theorem bigV_ev {t : Tm} (h : t.Ok) {most : Int} (h1 : 1 ≤ most) (h2 : most ≤ 1000000000) : Gets (EVs (EV cfg) 41 [t.av, .int .i64 most]) (BigP t most) := by
 have h1 := sizeV_ev t h (most + 1) (by omega) (by omega)
 rw [Tm.av, Tm.cells_eq] at h1 ⊢
 refine kitBig_run _ _ _ _ _ ?_
 rw [wrap64 (by omega) (by omega)]
 refine Gets.bind h1 ?_
 rintro _ ⟨n, rfl, q1, q2, q3⟩
 simp only [kInt_int]
 refine ⟨_, rfl, _, rfl, fun hb => ?_⟩
 have hb : ¬ n > most := of_decide_eq_false hb
 have := q3 (by omega)
 omega
end Go.Proofs.YtkgkjngbfdnoiaaGreat
end

section
namespace Go.Proofs.YtkgkjngbfdnoiaaGreat
open Go.Av
set_option maxRecDepth 100000
set_option maxHeartbeats 0

noncomputable def Lq67_0 : Den := evC cfg (EV cfg) 26 none 0 (sub (bodyOf Tryz.f26) [1, 1, 0, 1, 0, 0])
noncomputable def Aq67_0 : Ex × List AV × AH → Option AV := kAft (Cfg.keepOut cfg 26 4) (kRun cfg (EV cfg) (kfN cfg 6) 26 none 0 (kFinS cfg (Cfg.lift cfg 26 0) Tryz.f26.results.toList) ([.block 0, .seq (sub (bodyOf Tryz.f26) [1, 1, 1])]))
noncomputable def Wq67_0 : List AV × AH → Option AV := fun p => kOpt (LOOP 0 (some [0, 1, 5]) ([]) Lq67_0 p) Aq67_0
noncomputable def Lq59_0 : Den := evC cfg (EV cfg) 23 none 0 (sub (bodyOf Tryz.f23) [1, 1, 0, 1, 0, 0])
noncomputable def Aq59_0 : Ex × List AV × AH → Option OV := kAft (Cfg.keepOut cfg 23 3) (kRun cfg (EV cfg) (kfN cfg 6) 23 none 0 (kFinO cfg (Cfg.lift cfg 23 0) Tryz.f23.results.toList) ([.block 0, .seq (sub (bodyOf Tryz.f23) [1, 1, 1])]))
noncomputable def Wq59_0 : List AV × AH → Option OV := fun p => kOpt (LOOP 0 (some [0, 3, 4]) ([(3, 4)]) Lq59_0 p) Aq59_0
noncomputable abbrev wq67_0 (A B : List (List AV)) (v5 : Int) : Option (AV) := Wq67_0  (((fx 27 [(0, .sl A), (1, .sl B), (5, .int .i64 v5)]) : List AV), ([] : AH))
noncomputable abbrev wq59_0 (A : List (List AV)) (nv3 : Nat) (v4 : Int) (h0 : List (List AV)) : Option (OV) := Wq59_0  (((fx 20 [(0, .sl A), (3, .ms 0 0 nv3), (4, .int .i64 v4)]) : List AV), ([.rows true 4 h0] : AH))
theorem tenurekit_SameTerm_run (ka na : Int) (sa : List UInt8) (la : List (List AV)) (kb nb : Int) (sb : List UInt8) (lb : List (List AV)) {P : AV → Prop} (h : Gets (bif ka == kb then bif na == nb then bif sa == sb then kOpt (EVs (EV cfg) 26 [.sl la, .sl lb]) fun v => kBool v fun b => some (.bool b) else some (.bool false) else some (.bool false) else some (.bool false)) P) : Gets (EVs (EV cfg) 19 ([AV.agg [AV.int IntKind.i64 ka, AV.int IntKind.i64 na, AV.str sa, AV.sl la], AV.agg [AV.int IntKind.i64 kb, AV.int IntKind.i64 nb, AV.str sb, AV.sl lb]] : List AV)) P :=
  Gets.ev (fun _ h => funS rfl rfl Tryz.func19 rfl h) (Gets.eq (by kernel_rfl) h)
theorem tenurekit_SameTerms_run (A B : List (List AV)) {P : AV → Prop} (h : Gets (bif (A.length : Int) != (B.length : Int) then some (.bool false) else wq67_0 A B 0) P) : Gets (EVs (EV cfg) 26 ([AV.sl A, AV.sl B] : List AV)) P :=
  Gets.ev (fun _ h => funS rfl rfl Tryz.func26 rfl h) (Gets.eq (by kernel_rfl) h)
theorem tenurekit_CopyTerm_run (kt nt : Int) (st : List UInt8) (lt : List (List AV)) {P : AV → Prop} (h : Gets (kOpt (EVo (EV cfg) 23 [.sl lt]) fun o => kOwn o (some (.agg [.int .i64 kt, .int .i64 nt, .str st, .sl []])) fun sz rs off len => bif Nat.ble (off + len) (List.length rs) && true then some (.agg [.int .i64 kt, .int .i64 nt, .str st, .sl (List.take len (List.drop off rs))]) else none) P) : Gets (EVf (EV cfg) 15 ([AV.agg [AV.int IntKind.i64 kt, AV.int IntKind.i64 nt, AV.str st, AV.sl lt]] : List AV)) P :=
  Gets.ev (fun _ h => funF rfl rfl Tryz.func15 rfl h) (Gets.eq (by kernel_rfl) h)
theorem tenurekit_CopyTerms_run (A : List (List AV)) {P : OV → Prop} (h : Gets (wq59_0 A 0 0 []) P) : Gets (EVo (EV cfg) 23 ([AV.sl A] : List AV)) P :=
  Gets.ev (fun _ h => funO rfl rfl Tryz.func23 rfl h) (Gets.eq (by kernel_rfl) h)
theorem wq67_0_step (A B : List (List AV)) (v5 : Int) {P : AV → Prop} (h : Gets (bif decide (v5 < (A.length : Int)) then bif leInt 0 v5 && ltInt v5 (A.length : Int) then kOpt (List.get?Internal A (v5.toNat)) fun row => bif Nat.beq (List.length row) 4 then bif Nat.ble 4 (List.length row) then kTmC (List.take 4 row) fun n n_1 s rows => (bif leInt 0 v5 && ltInt v5 (B.length : Int) then kOpt (List.get?Internal B (v5.toNat)) fun row => bif Nat.beq (List.length row) 4 then bif Nat.ble 4 (List.length row) then kTmC (List.take 4 row) fun n_2 n_3 s_1 rows_1 => (kOpt (EVs (EV cfg) 19 [.agg [.int .i64 n, .int .i64 n_1, .str s, .sl rows], .agg [.int .i64 n_2, .int .i64 n_3, .str s_1, .sl rows_1]]) fun v => kBool v fun b => bif ! b then some (.bool false) else wq67_0 A B (IntKind.wrap .i64 (v5 + 1))) else none else none else none) else none else none else none else some (.bool true)) P) : Gets (wq67_0 A B v5) P :=
  Gets.ev (fun _ h => loop_step (cfg := cfg) (f := 26) (rd := none) (bs := 0) h) (Gets.eq (by kernel_rfl) h)
theorem wq59_0_step (A : List (List AV)) (nv3 : Nat) (v4 : Int) (h0 : List (List AV)) {P : OV → Prop} (h : Gets (bif decide (v4 < (A.length : Int)) then bif leInt 0 v4 && ltInt v4 (A.length : Int) then kOpt (List.get?Internal A (v4.toNat)) fun row => bif Nat.beq (List.length row) 4 then bif Nat.ble 4 (List.length row) then kTmC (List.take 4 row) fun n n_1 s rows => (kOpt (EVf (EV cfg) 15 [.agg [.int .i64 n, .int .i64 n_1, .str s, .sl rows]]) fun v => kTmV v fun n n_2 s rows => (bif Nat.ble (0 + nv3) (List.length h0) && fitsIn (nv3 + 1) 56 then wq59_0 A (nv3 + 1) (IntKind.wrap .i64 (v4 + 1)) (List.append (List.take nv3 h0) [[.int .i64 n, .int .i64 n_2, .str s, .sl rows]]) else none)) else none else none else none else some (OV.own 4 h0 0 nv3)) P) : Gets (wq59_0 A nv3 v4 h0) P :=
  Gets.ev (fun _ h => loop_step (cfg := cfg) (f := 23) (rd := none) (bs := 0) h) (Gets.eq (by kernel_rfl) h)
end Go.Proofs.YtkgkjngbfdnoiaaGreat
end

section
namespace Go.Proofs.YtkgkjngbfdnoiaaGreat
open Go.Av
theorem sameL_of (la lb : List Tm) (hlen : la.length < 1099511627776) (ih : ∀ a ∈ la, ∀ b, Gets (EVs (EV cfg) 19 [a.av, b.av]) (Tells (a = b))) : Gets (EVs (EV cfg) 26 [.sl (rowsT la), .sl (rowsT lb)]) (Tells (la = lb)) := by
 have loop : la.length = lb.length → ∀ (d i : Nat), i + d = la.length → la.take i = lb.take i → Gets (wq67_0 (rowsT la) (rowsT lb) i) (Tells (la = lb)) := by
  intro hl d
  induction d with
  | zero =>
   intro i hi ht
   refine wq67_0_step _ _ _ ?_
   rw [List.take_of_length_le (by omega), List.take_of_length_le (by omega)] at ht
   have h1 : ¬ i < la.length := by omega
   simp [h1, tells_bool]
   exact ht
  | succ d ihd =>
   intro i hi ht
   refine wq67_0_step _ _ _ ?_
   have hlt1 : i < la.length := by omega
   have hlt2 : i < lb.length := by omega
   have hx : la[i]? = some la[i] := List.getElem?_eq_getElem hlt1
   have hy : lb[i]? = some lb[i] := List.getElem?_eq_getElem hlt2
   have hix := ih la[i] (List.mem_of_getElem? hx) lb[i]
   have hta : la.take (i + 1) = la.take i ++ [la[i]] := by rw [List.take_add_one, hx]; rfl
   have htb : lb.take (i + 1) = lb.take i ++ [lb[i]] := by rw [List.take_add_one, hy]; rfl
   have hih := ihd (i + 1) (by omega)
   have hne : la[i] ≠ lb[i] → la ≠ lb := by intro h e; subst e; exact h rfl
   rw [hta, htb, ht] at hih
   rw [wrap_succ (n := la.length) (by omega) hlen]
   simp [hlt1, hlt2, hx, hy]
   refine Gets.bind hix ?_
   rintro _ ⟨b, rfl, hb⟩
   cases b with
   | true => simp; exact hih (by rw [hb.1 rfl])
   | false =>
    have : la ≠ lb := hne (fun e => by cases hb.2 e)
    simp [tells_bool, this]
 refine tenurekit_SameTerms_run _ _ ?_
 by_cases hl : la.length = lb.length
 ·simp [hl]
  exact loop hl la.length 0 (by omega) (by simp)
 ·have : la ≠ lb := fun e => hl (by rw [e])
  have hl' : ¬ ((la.length : Int) = lb.length) := by omega
  simp [bneD, hl', tells_bool, this]
theorem sameT_ev (a : Tm) : a.Ok → ∀ b : Tm, Gets (EVs (EV cfg) 19 [a.av, b.av]) (Tells (a = b)) := by
 induction a using Tm.ind with
 | _ k n s l ih =>
  intro hok b
  obtain ⟨k', n', s', l'⟩ := b
  have hl := sameL_of l l' hok.len (fun a ha b => ih a ha (hok.sub ha) b)
  rw [Tm.av_mk, Tm.av_mk]
  refine tenurekit_SameTerm_run _ _ _ _ _ _ _ _ ?_
  by_cases h1 : k = k'
  ·by_cases h2 : n = n'
   ·by_cases h3 : s = s'
    ·subst h1 h2 h3
     simp
     refine Gets.bind hl ?_
     rintro _ ⟨b, rfl, hb⟩
     simp [tells_bool, hb]
    ·simp [h1, h2, beqD, h3, tells_bool]
   ·simp [h1, beqD, h2, tells_bool]
  ·simp [beqD, h1, tells_bool]
theorem sameL_ev {la : List Tm} (h : OkL la) (hlen : la.length < 1099511627776) (lb : List Tm) : Gets (EVs (EV cfg) 26 [.sl (rowsT la), .sl (rowsT lb)]) (Tells (la = lb)) := sameL_of la lb hlen (fun a ha b => sameT_ev a (h.get ha) b)
theorem sameT_dec {a b : Tm} (h : a.Ok) {c : Bool} (hc : c = true ↔ a = b) : EVs (EV cfg) 19 [a.av, b.av] = some (.bool c) := by
 obtain ⟨_, h1, b', rfl, h2⟩ := sameT_ev a h b
 rw [h1]
 have : b' = c := by rw [Bool.eq_iff_iff]; exact h2.trans hc.symm
 rw [this]
end Go.Proofs.YtkgkjngbfdnoiaaGreat
end

section
namespace Go.Av
theorem okT_w {t : Tm} (h : t.w ≤ 1048576) : t.Ok := ok_of_w t (by omega)
end Go.Av
end

section
namespace Go.Av
end Go.Av
namespace Go.Proofs.YtkgkjngbfdnoiaaGreat
open Go.Av
set_option maxRecDepth 100000
theorem r02Same_ev (a : Tm) : a.w < 1099511627776 → ∀ b : Tm, EVs (EV cfg) 146 [a.av, b.av] = some (.bool (decide (a = b))) := by
 induction a using Tm.ind with
 | _ k n s l ih =>
  intro hw b
  obtain ⟨k', n', s', l'⟩ := b
  rw [Tm.w_mk] at hw
  have hlen := wL_len l
  have loop : l.length = l'.length → ∀ d i : Nat, i + d = l.length → Gets (wra128_0 i k n s (rowsT l) k' n' s' (rowsT l')) (· = .bool (decide (l.drop i = l'.drop i))) := by
   intro hll d
   induction d with
   | zero =>
    intro i hi
    refine wra128_0_step _ _ _ _ _ _ _ _ _ ?_
    rw [rowsT_length, decide_eq_false (show ¬ ((i : Int) < (l.length : Int)) by omega), List.drop_eq_nil_of_le (by omega), List.drop_eq_nil_of_le (by omega)]
    exact ⟨_, rfl, rfl⟩
   | succ d ihd =>
    intro i hi
    have hil : i < l.length := by omega
    have him : i < l'.length := by omega
    refine wra128_0_step _ _ _ _ _ _ _ _ _ ?_
    have hx : l[i]? = some l[i] := List.getElem?_eq_getElem hil
    have hy : l'[i]? = some l'[i] := List.getElem?_eq_getElem him
    have hd : l.drop i = l[i] :: l.drop (i + 1) := List.drop_eq_getElem_cons hil
    have hd' : l'.drop i = l'[i] :: l'.drop (i + 1) := List.drop_eq_getElem_cons him
    have hm := List.mem_of_getElem? hx
    have h1 := ih l[i] hm (by have := wL_mem hm; omega) l'[i]
    have h2 := ihd (i + 1) (by omega)
    rw [rowsT_length, rowsT_length, decide_eq_true (show (i : Int) < (l.length : Int) by omega), leInt_zero, ltInt_nat, ltInt_nat, decide_eq_true hil, decide_eq_true him, rowsT_at hx, wrap_succ hil (by omega)]
    simp only [cond_true, Bool.and_self, length_cells, Nat.beq_refl, take_cells, kTmC_cells, show Nat.ble 4 4 = true from rfl]
    rw [rowsT_at hy]
    simp only [cond_true, length_cells, Nat.beq_refl, take_cells, kTmC_cells, show Nat.ble 4 4 = true from rfl, av_unf, h1, kOptSome, kBool_bool]
    rw [hd, hd']
    by_cases he : l[i] = l'[i]
    ·rw [decide_eq_true he]
     refine h2.mono ?_
     rintro _ rfl
     rw [he]
     congr 1
     exact decide_eq_decide.2 ⟨fun h => by rw [h], fun h => (List.cons.inj h).2⟩
    ·rw [decide_eq_false he]
     refine ⟨_, rfl, ?_⟩
     rw [decide_eq_false (fun h => he (List.cons.inj h).1)]
  apply Gets.get
  rw [Tm.av_mk, Tm.av_mk]
  refine r02Same_run _ _ _ _ _ _ _ _ ?_
  rw [bneD, bneD, beqS, bneD, rowsT_length, rowsT_length]
  by_cases h1 : k = k'
  ·by_cases h2 : n = n'
   ·by_cases h3 : s = s'
    ·by_cases h4 : l.length = l'.length
     ·subst h1 h2 h3
      rw [decide_eq_true rfl, decide_eq_true rfl, decide_eq_true rfl, decide_eq_true (show (l.length : Int) = l'.length by omega)]
      have h := loop h4 l.length 0 (by omega)
      rw [List.drop_zero, List.drop_zero] at h
      refine h.mono ?_
      rintro _ rfl
      congr 1
      exact decide_eq_decide.2 ⟨fun h => by rw [h], fun h => by cases h; rfl⟩
     ·rw [decide_eq_true h1, decide_eq_true h2, decide_eq_true h3, decide_eq_false (show ¬ (l.length : Int) = l'.length by omega)]
      exact ⟨_, rfl, by rw [decide_eq_false (fun h => by cases h; exact h4 rfl)]⟩
    ·rw [decide_eq_true h1, decide_eq_true h2, decide_eq_false h3]
     exact ⟨_, rfl, by rw [decide_eq_false (fun h => by cases h; exact h3 rfl)]⟩
   ·rw [decide_eq_true h1, decide_eq_false h2]
    exact ⟨_, rfl, by rw [decide_eq_false (fun h => by cases h; exact h2 rfl)]⟩
  ·rw [decide_eq_false h1]
   exact ⟨_, rfl, by rw [decide_eq_false (fun h => by cases h; exact h1 rfl)]⟩
end Go.Proofs.YtkgkjngbfdnoiaaGreat
end

section
namespace Go.Proofs.YtkgkjngbfdnoiaaGreat
open Go.Av
set_option maxRecDepth 100000
theorem r21May_ev {l : List Tm} (hlen : l.length < 1099511627776) (hw : ∀ x ∈ l, x.w < 1099511627776) : EVs (EV cfg) 147 [.sl (rowsT l)] = some (.bool (allK l)) := by
 have loop : ∀ d i : Nat, i + d = l.length → Gets (wrd147_0 (rowsT l) i) (· = .bool (allK (l.drop i))) := by
  intro d
  induction d with
  | zero =>
   intro i hi
   refine wrd147_0_step _ _ ?_
   rw [rowsT_length, decide_eq_false (by omega), List.drop_eq_nil_of_le (by omega)]
   exact ⟨_, rfl, rfl⟩
  | succ d ihd =>
   intro i hi
   have hil : i < l.length := by omega
   refine wrd147_0_step _ _ ?_
   have hx : l[i]? = some l[i] := List.getElem?_eq_getElem hil
   have hd : l.drop i = l[i] :: l.drop (i + 1) := List.drop_eq_getElem_cons hil
   have h1 := r02Check_ev (hw _ (List.mem_of_getElem? hx))
   have h2 := ihd (i + 1) (by omega)
   rw [rowsT_length, decide_eq_true (show (i : Int) < (l.length : Int) by omega), leInt_zero, ltInt_nat, decide_eq_true hil, rowsT_at hx, wrap_succ hil hlen]
   simp only [cond_true, Bool.and_self, length_cells, Nat.beq_refl, take_cells, kTmC_cells, show Nat.ble 4 4 = true from rfl, av_unf, h1, kOptSome, kInt_int, bneD]
   rw [hd, allK, List.all_cons]
   by_cases hg : l[i].chk = 0
   ·rw [decide_eq_true hg, Bool.true_and]; exact h2
   ·rw [decide_eq_false hg]; exact ⟨_, rfl, rfl⟩
 apply Gets.get
 refine r21May_run _ ?_
 exact loop l.length 0 (by omega)
theorem r21Begins_ev {l m : List Tm} (hm : m.length < 1099511627776) (hw : ∀ x ∈ l, x.w < 1099511627776) : EVs (EV cfg) 225 [.sl (rowsT l), .sl (rowsT m)] = some (.bool (decide (m.length ≤ l.length) && decide (l.take m.length = m))) := by
 apply Gets.get
 refine r21Begins_run _ _ ?_
 rw [rowsT_length, rowsT_length]
 by_cases h : m.length ≤ l.length
 ·rw [decide_eq_false (show ¬ (l.length : Int) < m.length by omega), decide_eq_true h, Bool.true_and]
  have loop : ∀ d i : Nat, i + d = m.length → Gets (wrd225_0 (rowsT l) (rowsT m) i) (· = .bool (decide ((l.take m.length).drop i = m.drop i))) := by
   intro d
   induction d with
   | zero =>
    intro i hi
    refine wrd225_0_step _ _ _ ?_
    rw [rowsT_length, decide_eq_false (by omega), List.drop_eq_nil_of_le (by rw [List.length_take]; omega), List.drop_eq_nil_of_le (by omega)]
    exact ⟨_, rfl, rfl⟩
   | succ d ihd =>
    intro i hi
    have him : i < m.length := by omega
    have hil : i < l.length := by omega
    refine wrd225_0_step _ _ _ ?_
    have hx : l[i]? = some l[i] := List.getElem?_eq_getElem hil
    have hy : m[i]? = some m[i] := List.getElem?_eq_getElem him
    have hit : i < (l.take m.length).length := by rw [List.length_take]; omega
    have hd : (l.take m.length).drop i = l[i] :: (l.take m.length).drop (i + 1) := by rw [List.drop_eq_getElem_cons hit, List.getElem_take]
    have hd' : m.drop i = m[i] :: m.drop (i + 1) := List.drop_eq_getElem_cons him
    have h1 := r02Same_ev l[i] (hw _ (List.mem_of_getElem? hx)) m[i]
    have h2 := ihd (i + 1) (by omega)
    rw [rowsT_length, rowsT_length, decide_eq_true (show (i : Int) < (m.length : Int) by omega), leInt_zero, ltInt_nat, ltInt_nat, decide_eq_true hil, decide_eq_true him, rowsT_at hx, wrap_succ him hm]
    simp only [cond_true, Bool.and_self, length_cells, Nat.beq_refl, take_cells, kTmC_cells, show Nat.ble 4 4 = true from rfl]
    rw [rowsT_at hy]
    simp only [cond_true, length_cells, Nat.beq_refl, take_cells, kTmC_cells, show Nat.ble 4 4 = true from rfl, av_unf, h1, kOptSome, kBool_bool]
    rw [hd, hd']
    by_cases he : l[i] = m[i]
    ·rw [decide_eq_true he]
     refine h2.mono ?_
     rintro _ rfl
     rw [he]
     congr 1
     exact decide_eq_decide.2 ⟨fun h => by rw [h], fun h => (List.cons.inj h).2⟩
    ·rw [decide_eq_false he]
     refine ⟨_, rfl, ?_⟩
     rw [decide_eq_false (fun h => he (List.cons.inj h).1)]
  have := loop m.length 0 (by omega)
  simpa using this
 ·rw [decide_eq_true (show (l.length : Int) < m.length by omega), decide_eq_false h]
  exact ⟨_, rfl, rfl⟩
theorem r21Within_ev {r : Rg} (hr : RgW r) {k : Tm} (hk : k.w < 1099511627776) : EVs (EV cfg) 148 [r.av, k.av] = some (.bool (withinK r k)) := by
 have hwe := k.w_eq
 have hb := r21Begins_ev (l := k.subs) (m := r.fst) hr.len (fun x hx => by have := wL_mem hx; omega)
 apply Gets.get
 rw [agg_av k]
 refine r21Within_run _ _ _ _ _ _ ?_
 rw [hb, beqI, rowsT_length, beqI]
 unfold withinK
 cases decide (k.kind = 7) <;> cases decide ((k.subs.length : Int) = r.ar) <;> exact ⟨_, rfl, rfl⟩
theorem r21Meets_ev {b : Bnd} (hkl : b.keys.length < 1099511627776) (hkw : ∀ x ∈ b.keys, x.w < 1099511627776) (hrl : b.rgs.length < 1099511627776) (hrw : ∀ r ∈ b.rgs, RgW r) {k : Tm} (hk : k.w < 1099511627776) : EVs (EV cfg) 65 [b.av, k.av] = some (.bool (meetsG b k)) := by
 have hc := r02Check_ev hk
 have L1 : ∀ d i : Nat, i + d = b.rgs.length → Gets (wrd65_1 i b.all (rowsT b.keys) (rowsG b.rgs) k.kind k.num k.str (rowsT k.subs)) (· = .bool ((b.rgs.drop i).any fun r => allK r.fst && withinK r k)) := by
  intro d
  induction d with
  | zero =>
   intro i hi
   refine wrd65_1_step _ _ _ _ _ _ _ _ ?_
   rw [rowsG_len, decide_eq_false (by omega), List.drop_eq_nil_of_le (by omega)]
   exact ⟨_, rfl, rfl⟩
  | succ d ihd =>
   intro i hi
   have hil : i < b.rgs.length := by omega
   refine wrd65_1_step _ _ _ _ _ _ _ _ ?_
   have hx : b.rgs[i]? = some b.rgs[i] := List.getElem?_eq_getElem hil
   have hd : b.rgs.drop i = b.rgs[i] :: b.rgs.drop (i + 1) := List.drop_eq_getElem_cons hil
   have hr := hrw _ (List.mem_of_getElem? hx)
   have h1 := r21May_ev hr.len hr.ws
   have h2 := r21Within_ev hr hk
   have h3 := ihd (i + 1) (by omega)
   have gx : List.get?Internal (rowsG b.rgs) (Int.toNat (i : Int)) = some b.rgs[i].cells := by rw [get?Internal_eq, Int.toNat_natCast, rowsG_get, hx]; rfl
   rw [rowsG_len, decide_eq_true (show (i : Int) < (b.rgs.length : Int) by omega), leInt_zero, ltInt_nat, decide_eq_true hil, gx, wrap_succ hil hrl, hd, List.any_cons]
   rw [agg_av k] at h2
   unfold Rg.av at h2
   unfold Rg.cells at h2 ⊢
   simp only [cond_true, Bool.and_self, kOptSome, show Nat.beq [AV.int .i64 b.rgs[i].ar, .sl (rowsT b.rgs[i].fst)].length 2 = true from rfl, show Nat.ble 2 [AV.int .i64 b.rgs[i].ar, .sl (rowsT b.rgs[i].fst)].length = true from rfl, get?Internal_eq, List.getElem?_cons_succ, List.getElem?_cons_zero, kSl_sl, h1, kBool_bool, List.take_succ_cons, List.take_zero, kCons_cons, kInt_int, kNil_nil, h2]
   cases allK b.rgs[i].fst with
   | false => exact h3
   | true =>
    cases withinK b.rgs[i] k with
    | true => exact ⟨_, rfl, rfl⟩
    | false => exact h3
 have L0 : ∀ d i : Nat, i + d = b.keys.length → Gets (wrd65_0 i b.all (rowsT b.keys) (rowsG b.rgs) k.kind k.num k.str (rowsT k.subs)) (· = .bool (((b.keys.drop i).any fun x => decide (x.chk = 0) && decide (x = k)) || b.rgs.any fun r => allK r.fst && withinK r k)) := by
  intro d
  induction d with
  | zero =>
   intro i hi
   refine wrd65_0_step _ _ _ _ _ _ _ _ ?_
   rw [rowsT_length, decide_eq_false (by omega), List.drop_eq_nil_of_le (by omega)]
   exact L1 b.rgs.length 0 (by omega)
  | succ d ihd =>
   intro i hi
   have hil : i < b.keys.length := by omega
   refine wrd65_0_step _ _ _ _ _ _ _ _ ?_
   have hx : b.keys[i]? = some b.keys[i] := List.getElem?_eq_getElem hil
   have hd : b.keys.drop i = b.keys[i] :: b.keys.drop (i + 1) := List.drop_eq_getElem_cons hil
   have hxw := hkw _ (List.mem_of_getElem? hx)
   have h1 := r02Check_ev hxw
   have h2 := r02Same_ev b.keys[i] hxw k
   have h3 := ihd (i + 1) (by omega)
   rw [rowsT_length, decide_eq_true (show (i : Int) < (b.keys.length : Int) by omega), leInt_zero, ltInt_nat, decide_eq_true hil, rowsT_at hx, wrap_succ hil hkl, hd, List.any_cons]
   simp only [cond_true, Bool.and_self, length_cells, Nat.beq_refl, take_cells, kTmC_cells, show Nat.ble 4 4 = true from rfl, av_unf, h1, kOptSome, kInt_int, beqI, rowsT_at hx, h2, kBool_bool]
   by_cases hg : b.keys[i].chk = 0
   ·rw [decide_eq_true hg]
    by_cases he : b.keys[i] = k
    ·rw [decide_eq_true he]; exact ⟨_, rfl, rfl⟩
    ·rw [decide_eq_false he]; exact h3
   ·rw [decide_eq_false hg]; exact h3
 apply Gets.get
 rw [agg_av k] at hc ⊢
 refine r21Meets_run _ _ _ _ _ _ _ ?_
 rw [hc]
 unfold meetsG
 simp only [kOptSome, kInt_int, bneD]
 by_cases h0 : k.chk = 0
 ·rw [decide_eq_true h0]
  cases hb : b.all with
  | true => exact ⟨_, rfl, rfl⟩
  | false =>
   have := L0 b.keys.length 0 (by omega)
   rw [hb] at this
   exact this
 ·rw [decide_eq_false h0]; exact ⟨_, rfl, rfl⟩
theorem r21Side_ev {r : Rg} (hr : RgW r) {k : Tm} (hk : k.w < 1099511627776) : EVs (EV cfg) 67 [r.av, k.av] = some (.int .i64 (sideG r k)) := by
 have hwe := k.w_eq
 have hlk := len_wL k.subs
 have hc := r02Check_ev hk
 have m2 := r21May_ev hr.len hr.ws
 apply Gets.get
 rw [agg_av k] at hc ⊢
 refine r21Side_run _ _ _ _ _ _ ?_
 rw [hc, m2, rowsT_length, rowsT_length]
 simp only [kOptSome, kInt_int, kBool_bool, bneD]
 unfold sideG
 by_cases h2 : k.chk = 0
 case neg => rw [decide_eq_false h2, if_pos (.inr (.inl h2))]; exact ⟨_, rfl, rfl⟩
 rw [decide_eq_true h2]
 cases h3 : allK r.fst with
 | false => rw [if_pos (.inr (.inr rfl))]; exact ⟨_, rfl, rfl⟩
 | true =>
 by_cases h1 : r.ar < (r.fst.length : Int)
 ·rw [decide_eq_true h1, if_pos (.inl h1)]; exact ⟨_, rfl, rfl⟩
 rw [decide_eq_false h1, if_neg (fun h => h.elim h1 fun h => h.elim (fun h => h h2) fun h => by cases h)]
 unfold sideC
 by_cases h4 : k.kind = 7
 case neg =>
  have hn : numC k.kind 7 ≠ 0 := fun h => h4 (numC_zero.1 h)
  rw [decide_eq_false h4, lexI_ne hn]
  unfold numC
  by_cases h5 : k.kind < 7
  ·rw [decide_eq_true h5, if_pos h5]; exact ⟨_, rfl, rfl⟩
  ·rw [decide_eq_false h5, if_neg h5, if_pos (by omega)]; exact ⟨_, rfl, rfl⟩
 rw [decide_eq_true h4, numC_zero.2 h4, lexI_zero]
 by_cases h5 : (k.subs.length : Int) = r.ar
 case neg =>
  have hn : numC (k.subs.length : Int) r.ar ≠ 0 := fun h => h5 (numC_zero.1 h)
  rw [decide_eq_false h5, lexI_ne hn]
  unfold numC
  by_cases h6 : (k.subs.length : Int) < r.ar
  ·rw [decide_eq_true h6, if_pos h6]; exact ⟨_, rfl, rfl⟩
  ·rw [decide_eq_false h6, if_neg h6, if_pos (by omega)]; exact ⟨_, rfl, rfl⟩
 rw [decide_eq_true h5, numC_zero.2 h5, lexI_zero]
 have loop : ∀ d i : Nat, i + d = r.fst.length → Gets (wrd67_0 i r.ar (rowsT r.fst) k.kind k.num k.str (rowsT k.subs)) (· = .int .i64 (cmpE ((k.subs.take r.fst.length).drop i) (r.fst.drop i))) := by
  intro d
  induction d with
  | zero =>
   intro i hi
   refine wrd67_0_step _ _ _ _ _ _ _ ?_
   rw [rowsT_length, decide_eq_false (by omega), List.drop_eq_nil_of_le (by rw [List.length_take]; omega), List.drop_eq_nil_of_le (by omega), cmpE_nil]
   exact ⟨_, rfl, rfl⟩
  | succ d ihd =>
   intro i hi
   have him : i < r.fst.length := by omega
   have hil : i < k.subs.length := by omega
   refine wrd67_0_step _ _ _ _ _ _ _ ?_
   have hx : k.subs[i]? = some k.subs[i] := List.getElem?_eq_getElem hil
   have hy : r.fst[i]? = some r.fst[i] := List.getElem?_eq_getElem him
   have hit : i < (k.subs.take r.fst.length).length := by rw [List.length_take]; omega
   have hd : (k.subs.take r.fst.length).drop i = k.subs[i] :: (k.subs.take r.fst.length).drop (i + 1) := by rw [List.drop_eq_getElem_cons hit, List.getElem_take]
   have hd' : r.fst.drop i = r.fst[i] :: r.fst.drop (i + 1) := List.drop_eq_getElem_cons him
   have h1 := r03Compare_ev k.subs[i].w k.subs[i] r.fst[i] (Nat.le_refl _) (by have := wL_mem (List.mem_of_getElem? hx); omega)
   have h2 := ihd (i + 1) (by omega)
   rw [rowsT_length, rowsT_length, decide_eq_true (show (i : Int) < (r.fst.length : Int) by omega), leInt_zero, ltInt_nat, ltInt_nat, decide_eq_true hil, decide_eq_true him, rowsT_at hx, wrap_succ him hr.len]
   simp only [cond_true, Bool.and_self, length_cells, Nat.beq_refl, take_cells, kTmC_cells, show Nat.ble 4 4 = true from rfl]
   rw [rowsT_at hy]
   simp only [cond_true, length_cells, Nat.beq_refl, take_cells, kTmC_cells, show Nat.ble 4 4 = true from rfl, av_unf, h1, kOptSome, kInt_int, bneD]
   rw [hd, hd', cmpE_cons]
   by_cases he : cmpT k.subs[i] r.fst[i] = 0
   ·rw [decide_eq_true he, if_neg (by omega)]
    exact h2
   ·rw [decide_eq_false he, if_pos he]
    exact ⟨_, rfl, rfl⟩
 simpa using loop r.fst.length 0 (by omega)
def oneG (b : Bnd) : Option Tm := if b.all = true ∨ b.rgs ≠ [] then none else (match b.keys with | [x] => some x | _ => none)
theorem r21One_ev {b : Bnd} (hkw : ∀ x ∈ b.keys, x.w < 1099511627776) : EVf (EV cfg) 63 [b.av] = some (findR (oneG b)) := by
 apply Gets.get
 refine r21One_run _ _ _ ?_
 rw [rowsG_len, rowsT_length, bneD, ← zeroT_av]
 unfold oneG
 cases hb : b.all with
 | true => exact ⟨_, rfl, rfl⟩
 | false =>
 cases hr : b.rgs with
 | cons r l =>
  rw [if_pos (.inr (by simp)), decide_eq_true (show ((r :: l).length : Int) > 0 by simp)]
  exact ⟨_, rfl, rfl⟩
 | nil =>
 rw [if_neg (by simp)]
 match hk : b.keys with
 | [] => exact ⟨_, rfl, rfl⟩
 | [x] =>
  have h1 := r02Copy_ev x (hkw x (by rw [hk]; simp))
  have g0 : List.get?Internal (rowsT [x]) 0 = some x.cells := by rw [rowsT_cons]; rfl
  rw [g0]
  simp only [List.length_nil, List.length_cons, kOptSome, length_cells, Nat.beq_refl, take_cells, kTmC_cells, show Nat.ble 4 4 = true from rfl, cond_true, av_unf, h1, kTmV_av]
  exact ⟨_, rfl, rfl⟩
 | x :: y :: l =>
  rw [decide_eq_false (show ¬ ((x :: y :: l).length : Int) = 1 by simp; omega)]
  exact ⟨_, rfl, rfl⟩
end Go.Proofs.YtkgkjngbfdnoiaaGreat
end
