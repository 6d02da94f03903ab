/-
  Parts of the proof of ScanLongUptoCardSaid, put together: the abstract evaluation and its contracts. Own work.
  What is proved: each lemma as it stands; no condition.
-/
import Derived.Lib.Bytealg
import Derived.Shelf.Small.Strs
import Derived.Ground.MpProg
import Derived.Shelf.Pu.ParseUintPublic10
import Derived.Shelf.Strings.Search1
import Derived.Shelf.Strings.Search2
import Derived.Shelf.Strings.Search3
import Derived.Shelf.LaysM
import Derived.Shelf.Strings.Shaped
import Derived.Test.YtnmfakkjnbpjpaaDoorProg
import Derived.Lib.AtoiErrMem
import Derived.Test.YtnmfakkjnbpjpaaDoorRows
import Derived.ProofKit
import Derived.OpenShut
import Derived.JoinedCond
import Derived.ChangeArms
import Derived.RowKit
import Derived.WalkKit
import Derived.Test.YtnmfakkjnbpjpaaDoorZScanLongM3
open List renaming getElem?_eq_some_iff → qkp, getElem?_eq_getElem → qkv, get?Internal → qkw, getElem?_append_left → qkx, getElem?_set → qky, getElem?_append_right → qkB, replicate → qkE, mem_of_getElem? → qkF, mem_append → qkH
open Option renaming bind_eq_some_iff → qkq, map_eq_some_iff → qkr, bind_some → qkA, map_some → qkD
open Bool renaming and_eq_true → qks, false_eq_true → qkz
open Nat renaming eq_of_beq_eq_true → qkt, le_refl → qku, mul_le_mul_right → qkC, beq → qkG, blt_eq → qkI, ble → qkJ
set_option maxRecDepth 1000000
set_option maxHeartbeats 0
section
namespace Go.Proofs.YtnmfakkjnbpjpaaDoor
open Go.Av
noncomputable def qke : Den := evC cfg (EV cfg) 4 none 0 (sub (qF Tryd.f4) [1, 1, 1, 0, 1, 0, 0])
noncomputable def qki : Ex × List AV × AH → Option AV := kAft (Cfg.keepOut cfg 4 5) (kRun cfg (EV cfg) (kfN cfg 6) 4 none 0 (qjp cfg (Cfg.lift cfg 4 0) Tryd.f4.results.toList) ([.block 0, .seq (sub (qF Tryd.f4) [1, 1, 1, 1])]))
noncomputable def qkd : List AV × AH → Option AV := fun p => kOpt (LOOP 0 (some [0, 3, 4]) ([]) qke p) qki
noncomputable abbrev qcG (n v4 : Int) (h0 : Rz) : Option (AV) := qkd  (((fx 70 [(0, .int .i64 n), (3, .ms 0 0 (Int.toNat (IntKind.wrap .i64 ((65536 : Int) + n)))), (4, .int .i64 v4)]) : List AV), ([.rows true 1 h0] : AH))
theorem qg9 (n : Int) {P : AV → Prop} (h : Gets (bif decide (n < (- 100)) then some (.bool true) else bif decide (n > 100) then some (.bool true) else bif qk 0 (IntKind.wrap .i64 (65536 + n)) && qk (IntKind.wrap .i64 (65536 + n)) (IntKind.wrap .i64 (65536 + n)) && qk (IntKind.wrap .i64 (65536 + n) * 1) 140737488355328 && qk (IntKind.wrap .i64 (65536 + n)) 9223372036854775807 then qcG n 0 (qkE (Int.toNat (IntKind.wrap .i64 (65536 + n))) [AV.int .u8 0]) else none) P) : Gets (EVs (EV cfg) 4 [.int .i64 n]) P :=
  gE (fun _ => funS rfl rfl Tryd.func4 rfl) (by kernel_rfl) h
theorem qbZ (n v4 : Int) (h0 : Rz) {P : AV → Prop} (h : Gets (bif decide (v4 < (↑ (Int.toNat (IntKind.wrap .i64 (65536 + n))) : Int)) then bif qk 0 v4 && xb v4 (↑ (Int.toNat (IntKind.wrap .i64 (65536 + n))) : Int) then kOpt (qkw h0 (0 + v4.toNat)) fun row => bif qkJ 1 (List.length row) then qcG n (IntKind.wrap .i64 (v4 + 1)) (List.set h0 (0 + Int.toNat v4) (.int .u8 32 :: List.drop 1 row)) else none else none else bif qk 0 (IntKind.wrap .i64 ((↑ (Int.toNat (IntKind.wrap .i64 (65536 + n))) : Int) - 1)) && xb (IntKind.wrap .i64 ((↑ (Int.toNat (IntKind.wrap .i64 (65536 + n))) : Int) - 1)) (↑ (Int.toNat (IntKind.wrap .i64 (65536 + n))) : Int) then kOpt (qkw h0 (0 + Int.toNat (IntKind.wrap .i64 ((↑ (Int.toNat (IntKind.wrap .i64 (65536 + n))) : Int) - 1)))) fun row => bif qkJ 1 (List.length row) then kOpt (Decidable.rec (fun h => (fun x => none) h) (fun h => (fun x => some (List.take (Int.toNat (IntKind.wrap .i64 (65536 + n))) (List.drop 0 (List.set h0 (0 + Int.toNat (IntKind.wrap .i64 ((↑ (Int.toNat (IntKind.wrap .i64 ((65536 : Int) + n))) : Int) - 1))) (.int .u8 97 :: List.drop 1 row))))) h) (instDecidableEqBool (1 == 1 && qkJ (0 + Int.toNat (IntKind.wrap .i64 (65536 + n))) (List.length (List.set h0 (0 + Int.toNat (IntKind.wrap .i64 ((↑ (Int.toNat (IntKind.wrap .i64 (65536 + n))) : Int) - 1))) (.int .u8 97 :: List.drop 1 row)))) true)) fun rows => kOpt (qJ rows) fun bs => kOpt (EVf (EV cfg) 6 [.str bs]) fun v => kTup v fun cs => qy cs fun c cs => kSl c fun rows => qy cs fun c cs => kAgg c fun cs_1 => qy cs_1 fun c cs_2 => kInt .i64 c fun n_1 => qy cs_2 fun c cs_3 => kInt .i64 c fun n_2 => kNil cs_3 (kNil cs (bif decide (n > 0) then bif (rows.length : Int) == 0 then bif decide (n_1 = 3) && (decide (n_2 = 0) && true) then kOpt (EVs (EV cfg) 9 []) fun v => qD v fun b => some (.bool b) else some (.bool false) else some (.bool false) else bif (rows.length : Int) == 1 then bif decide (n_1 = 0) && (decide (n_2 = 0) && true) then bif xb 0 (↑ (List.length rows) : Int) then kOpt (qkw rows 0) fun row => bif qkG (List.length row) 4 then bif qkJ 4 (List.length row) then qy (List.take 4 row) fun c cs => kInt .i64 c fun n_3 => qy cs fun c cs => kInt .i64 c fun n_4 => qy cs fun c cs => kInt .i64 c fun n_5 => qy cs fun c cs => kStr c fun s => kNil cs (bif decide (n_3 = 2) && (decide (n_4 = 0) && (decide (n_5 = IntKind.wrap .i64 ((↑ (Int.toNat (IntKind.wrap .i64 (65536 + n))) : Int) - 1)) && (s == [(97 : UInt8)] && true))) then kOpt (EVs (EV cfg) 9 []) fun v => qD v fun b => some (.bool b) else some (.bool false)) else none else none else none else some (.bool false) else some (.bool false))) else none else none) P) : Gets (qcG n v4 h0) P :=
  gE (fun _ => yW (cfg := cfg) (f := 4) (rd := none) (bs := 0)) (by kernel_rfl) h
theorem qhc : EVf (EV cfg) 6 [.str [49, 32, 37, 32, 50]] = some (.tup [.sl [[.int .i64 1, .int .i64 1, .int .i64 0, .str []]], .agg [.int .i64 0, .int .i64 0]]) := qhF (.nil) 1000 1000 (by kernel_rfl)
theorem qhb : EVf (EV cfg) 6 [.str [97, 46, 98]] = some (.tup [.sl [], .agg [.int .i64 340, .int .i64 1]]) := qhF (.nil) 1000 1000 (by kernel_rfl)
theorem qha : EVf (EV cfg) 6 [.str [39, 97]] = some (.tup [.sl [], .agg [.int .i64 341, .int .i64 0]]) := qhF (.nil) 1000 1000 (by kernel_rfl)
theorem qcR : EVs (EV cfg) 9 [] = some (.bool true) := qkn (.consF qhc (.consF qhb (.consF qha (.nil)))) 1000 1000 (by kernel_rfl)
theorem qjI {α : Type} (b : Bool) (x : Option α) (h : b = true) : Decidable.rec (motive := fun _ => Option α) (fun _ => none) (fun _ => x) (instDecidableEqBool b true) = x := by subst h; rfl
theorem qdL : ∀ s : List UInt8, qJ (s.map fun b => [AV.int .u8 (b.toNat : Int)]) = some s
 | [] => rfl
 | b :: s => by
  have h1 : (b.toNat : Int) < 256 := by have := b.toNat_lt; omega
  rw [List.map_cons, qJ, qdL s]
  simp [h1]
def x8 (N i : Nat) : List (List AV) := qkE i [AV.int .u8 32] ++ qkE (N - i) [AV.int .u8 0]
theorem qi8 {N i : Nat} (h : i < N) : (x8 N i)[i]? = some [AV.int .u8 0] := by
 unfold x8
 rw [qkB (by simp), List.length_replicate, Nat.sub_self, List.getElem?_replicate, if_pos (by omega)]
theorem qiz {N i : Nat} (h : i < N) : (x8 N i).set i [AV.int .u8 32] = x8 N (i + 1) := by
 unfold x8
 rw [List.set_append_right _ _ (by simp), List.length_replicate, Nat.sub_self]
 obtain ⟨k, hk⟩ : ∃ k, N - i = k + 1 := ⟨N - i - 1, by omega⟩
 rw [hk, List.replicate_succ, List.set_cons_zero, show N - (i + 1) = k by omega, List.replicate_succ', List.append_assoc]
 rfl
theorem qhD {M : Nat} : (x8 (M + 1) (M + 1)).set M [AV.int .u8 97] = (qC M).map fun b => [AV.int .u8 (b.toNat : Int)] := by
 unfold x8 qC
 rw [Nat.sub_self, List.replicate_zero, List.append_nil, List.replicate_succ', List.set_append_right _ _ (by simp), List.length_replicate, Nat.sub_self, List.set_cons_zero, List.map_append, List.map_replicate]
 rfl
theorem qgb (n : Int) : EVs (EV cfg) 4 [.int .i64 n] = some (.bool true) := by
 apply Gets.get
 refine qg9 _ ?_
 by_cases h1 : n < -100
 ·rw [decide_eq_true h1]; exact ⟨_, rfl, rfl⟩
 by_cases h2 : n > 100
 ·rw [decide_eq_false h1, decide_eq_true h2]; exact ⟨_, rfl, rfl⟩
 rw [decide_eq_false h1, decide_eq_false h2]
 obtain ⟨M, hM⟩ : ∃ M : Nat, 65536 + n = ((M + 1 : Nat) : Int) := ⟨(65535 + n).toNat, by omega⟩
 have hw : IntKind.wrap .i64 (65536 + n) = ((M + 1 : Nat) : Int) := by rw [qcH (by omega) (by omega)]; exact hM
 have ht : Int.toNat (IntKind.wrap .i64 (65536 + n)) = M + 1 := by rw [hw]; rfl
 have hl : (qk 0 (IntKind.wrap .i64 (65536 + n)) && qk (IntKind.wrap .i64 (65536 + n)) (IntKind.wrap .i64 (65536 + n)) && qk (IntKind.wrap .i64 (65536 + n) * 1) 140737488355328 && qk (IntKind.wrap .i64 (65536 + n)) 9223372036854775807) = true := by
  rw [hw]; simp; omega
 simp only [cond_false, hl, cond_true, ht]
 have go : ∀ k i : Nat, i + k = M + 1 → Gets (qcG n (i : Int) (x8 (M + 1) i)) (· = .bool true) := by
  intro k
  induction k with
  | succ k ih =>
   intro i hi
   refine qbZ _ _ _ ?_
   have c1 : decide ((i : Int) < ((M + 1 : Nat) : Int)) = true := decide_eq_true (by omega)
   have c2 : (qk 0 (i : Int) && xb (i : Int) ((M + 1 : Nat) : Int)) = true := by simp; omega
   have c3 : IntKind.wrap .i64 ((i : Int) + 1) = ((i + 1 : Nat) : Int) := by rw [qcH (by omega) (by omega)]; omega
   simp only [ht, c1, c2, cond_true, Nat.zero_add, Int.toNat_natCast, List.get?Internal_eq_getElem?, qi8 (show i < M + 1 by omega), kOpt, c3]
   simpa [qiz (show i < M + 1 by omega)] using ih (i + 1) (by omega)
  | zero =>
   intro i hi
   have : i = M + 1 := by omega
   subst this
   refine qbZ _ _ _ ?_
   have c1 : decide (((M + 1 : Nat) : Int) < ((M + 1 : Nat) : Int)) = false := decide_eq_false (by omega)
   have wm : IntKind.wrap .i64 (((M + 1 : Nat) : Int) - 1) = (M : Int) := by rw [qcH (by omega) (by omega)]; omega
   have c2 : (qk 0 (M : Int) && xb (M : Int) ((M + 1 : Nat) : Int)) = true := by simp; omega
   have hg : (x8 (M + 1) (M + 1))[M]? = some [AV.int .u8 32] := by
    unfold x8
    rw [qkx (by simp), List.getElem?_replicate, if_pos (by omega)]
   have hb : qkJ 1 (List.length [AV.int .u8 32]) = true := rfl
   have hlen : ((qC M).map fun b => [AV.int .u8 (b.toNat : Int)]).length = M + 1 := by rw [List.length_map, vq]
   have hc : ((1 : Nat) == 1 && qkJ (0 + Int.toNat (IntKind.wrap .i64 (65536 + n))) (List.length (List.set (x8 (M + 1) (M + 1)) (0 + Int.toNat (IntKind.wrap .i64 ((Int.toNat (IntKind.wrap .i64 (65536 + n)) : Int) - 1))) (AV.int .u8 97 :: List.drop 1 [AV.int .u8 32])))) = true := by
    rw [ht, List.length_set]
    unfold x8
    simp
   simp only [ht, c1, cond_false, wm, c2, cond_true, Nat.zero_add, Int.toNat_natCast, List.get?Internal_eq_getElem?, hg, kOpt, hb, List.drop_succ_cons, List.drop_nil, List.drop_zero, qhD]
   rw [qjI _ _ hc]
   simp only [kOpt]
   rw [List.take_of_length_le (by rw [hlen]; exact qku _), qdL]
   simp only [kOpt]
   by_cases h3 : n > 0
   ·rw [qh8 (by rw [vq]; omega)]
    simp only [kOpt, kTup, qy, kSl, kAgg, kInt, qS, cond_true, kNil, decide_eq_true h3]
    rw [qcR]
    exact ⟨_, rfl, rfl⟩
   ·rw [qg5 (by omega)]
    simp only [kOpt, kTup, qy, kSl, kAgg, kInt, qS, cond_true, kNil, decide_eq_false h3, cond_false]
    rw [qcR]
    simp
 exact go (M + 1) 0 (by omega)
end Go.Proofs.YtnmfakkjnbpjpaaDoor
end
section
namespace Go.Av
end Go.Av
namespace Go.Proofs.YtnmfakkjnbpjpaaDoor
open Go.Av
theorem qjZ : qgZ.All fun t ti => tiOf Tryd.prog t = some ti := by
 unfold qgZ
 repeat (first | exact trivial | refine BT.all_node (by show tiOf Tryd.prog _ = _; kernel_rfl) ?_ ?_)
theorem qiX : Tryd.prog.funcs.toList.all (fun fn => !(fn.name == "runtime.NumGoroutine")) = true := by kernel_rfl
theorem qiZ : Tryd.prog.follows .mixedOrders = true := by kernel_rfl
end Go.Proofs.YtnmfakkjnbpjpaaDoor
end
section
namespace Go.Proofs
open Go.Shelf
def Tryd.lays137_ren : Go.Shelf.Ren := ⟨fun | 137 => 28 | 217 => 58 | 266 => 77 | n => n, fun | 9 => 9 | 5 => 5 | 3 => 3 | n => n, fun | n => n⟩
theorem Tryd.lays137 : Go.Proofs.Lays.n137 Tryd.prog Tryd.lays137_ren := {
 mixed := by kernel_rfl
 f137 := Tryd.func28.trans (congrArg some (by kernel_rfl))
 f217 := Tryd.func58.trans (congrArg some (by kernel_rfl))
 f266 := Tryd.func77.trans (congrArg some (by kernel_rfl))
 t3 := Tryd.underlying3
 a3 := Tryd.isAgg3
 z3 := Tryd.sizeOf3
 v3 := Tryd.zeroValue3
 t5 := Tryd.underlying5
 a5 := Tryd.isAgg5
 z5 := Tryd.sizeOf5
 v5 := Tryd.zeroValue5
 t9 := Tryd.underlying9
 a9 := Tryd.isAgg9
 z9 := Tryd.sizeOf9
 v9 := Tryd.zeroValue9 }
open Go.RowKit in
theorem Tryd.strings_IndexByte (s : ByteArray) (c : Int) (w : World) :
  Calls Tryd.prog 28 #[.string s, .int .u8 c] w fun e w' => e = .returned (.int .i64 (Lib.indexByte s.data.toList c.toNat.toUInt8)) ∧ w' = w := Any.strings_IndexByte Tryd.lays137 s c w
def Tryd.laysPu14_ren : Go.Shelf.Ren := ⟨fun | 14 => 59 | 16 => 78 | 17 => 79 | 19 => 93 | 20 => 94 | 21 => 95 | 22 => 96 | 23 => 97 | 24 => 98 | 25 => 108 | 27 => 22 | 26 => 109 | 28 => 52 | 29 => 66 | 30 => 82 | 31 => 83 | 32 => 84 | 33 => 85 | 35 => 103 | 34 => 102 | 36 => 104 | 37 => 105 | 38 => 106 | 39 => 111 | 40 => 112 | n => n, fun | 9 => 9 | 3 => 3 | 22 => 82 | 24 => 79 | 25 => 83 | 4 => 4 | 34 => 112 | 5 => 5 | 36 => 100 | 37 => 33 | 0 => 0 | 39 => 114 | 21 => 21 | 44 => 125 | 47 => 98 | 50 => 132 | 48 => 130 | 2 => 2 | 52 => 101 | 55 => 104 | 59 => 119 | 60 => 120 | 20 => 20 | 61 => 121 | 65 => 133 | 66 => 134 | 67 => 76 | n => n, fun | 0 => 2 | 1 => 3 | 2 => 1 | 3 => 4 | 4 => 5 | n => n⟩
theorem Tryd.laysPu14 : Go.Proofs.LaysPu.n14 Tryd.prog Tryd.laysPu14_ren := {
 mixed := by kernel_rfl
 f14 := Tryd.func59.trans (congrArg some (by kernel_rfl))
 f16 := Tryd.func78.trans (congrArg some (by kernel_rfl))
 f17 := Tryd.func79.trans (congrArg some (by kernel_rfl))
 f19 := Tryd.func93.trans (congrArg some (by kernel_rfl))
 f20 := Tryd.func94.trans (congrArg some (by kernel_rfl))
 f21 := Tryd.func95.trans (congrArg some (by kernel_rfl))
 f22 := Tryd.func96.trans (congrArg some (by kernel_rfl))
 f23 := Tryd.func97.trans (congrArg some (by kernel_rfl))
 f24 := Tryd.func98.trans (congrArg some (by kernel_rfl))
 f25 := Tryd.func108.trans (congrArg some (by kernel_rfl))
 f26 := Tryd.func109.trans (congrArg some (by kernel_rfl))
 f27 := Tryd.func22.trans (congrArg some (by kernel_rfl))
 f28 := Tryd.func52.trans (congrArg some (by kernel_rfl))
 f29 := Tryd.func66.trans (congrArg some (by kernel_rfl))
 f30 := Tryd.func82.trans (congrArg some (by kernel_rfl))
 f31 := Tryd.func83.trans (congrArg some (by kernel_rfl))
 f32 := Tryd.func84.trans (congrArg some (by kernel_rfl))
 f33 := Tryd.func85.trans (congrArg some (by kernel_rfl))
 f34 := Tryd.func102.trans (congrArg some (by kernel_rfl))
 f35 := Tryd.func103.trans (congrArg some (by kernel_rfl))
 f36 := Tryd.func104.trans (congrArg some (by kernel_rfl))
 f37 := Tryd.func105.trans (congrArg some (by kernel_rfl))
 f38 := Tryd.func106.trans (congrArg some (by kernel_rfl))
 f39 := Tryd.func111.trans (congrArg some (by kernel_rfl))
 f40 := Tryd.func112.trans (congrArg some (by kernel_rfl))
 t0 := Tryd.underlying0
 a0 := Tryd.isAgg0
 z0 := Tryd.sizeOf0
 v0 := Tryd.zeroValue0
 i0 := by kernel_rfl
 t2 := Tryd.underlying2
 a2 := Tryd.isAgg2
 z2 := Tryd.sizeOf2
 v2 := Tryd.zeroValue2
 i2 := by kernel_rfl
 t3 := Tryd.underlying3
 a3 := Tryd.isAgg3
 z3 := Tryd.sizeOf3
 v3 := Tryd.zeroValue3
 i3 := by kernel_rfl
 t4 := Tryd.underlying4
 a4 := Tryd.isAgg4
 z4 := Tryd.sizeOf4
 v4 := Tryd.zeroValue4
 i4 := by kernel_rfl
 t5 := Tryd.underlying5
 a5 := Tryd.isAgg5
 z5 := Tryd.sizeOf5
 v5 := Tryd.zeroValue5
 i5 := by kernel_rfl
 t9 := Tryd.underlying9
 a9 := Tryd.isAgg9
 z9 := Tryd.sizeOf9
 v9 := Tryd.zeroValue9
 i9 := by kernel_rfl
 t20 := Tryd.underlying20
 a20 := Tryd.isAgg20
 z20 := Tryd.sizeOf20
 v20 := Tryd.zeroValue20
 i20 := by kernel_rfl
 t21 := Tryd.underlying21
 a21 := Tryd.isAgg21
 z21 := Tryd.sizeOf21
 v21 := Tryd.zeroValue21
 i21 := by kernel_rfl
 t22 := Tryd.underlying82
 a22 := Tryd.isAgg82
 z22 := Tryd.sizeOf82
 v22 := Tryd.zeroValue82
 i22 := by kernel_rfl
 t24 := Tryd.underlying79
 a24 := Tryd.isAgg79
 z24 := Tryd.sizeOf79
 v24 := Tryd.zeroValue79
 i24 := by kernel_rfl
 t25 := Tryd.underlying83
 a25 := Tryd.isAgg83
 z25 := Tryd.sizeOf83
 v25 := Tryd.zeroValue83
 i25 := by kernel_rfl
 t34 := Tryd.underlying112
 a34 := Tryd.isAgg112
 z34 := Tryd.sizeOf112
 v34 := Tryd.zeroValue112
 i34 := by kernel_rfl
 c34 := by kernel_rfl
 t36 := Tryd.underlying100
 a36 := Tryd.isAgg100
 z36 := Tryd.sizeOf100
 v36 := Tryd.zeroValue100
 i36 := by kernel_rfl
 t37 := Tryd.underlying33
 a37 := Tryd.isAgg33
 z37 := Tryd.sizeOf33
 v37 := Tryd.zeroValue33
 i37 := by kernel_rfl
 t39 := Tryd.underlying114
 a39 := Tryd.isAgg114
 z39 := Tryd.sizeOf114
 v39 := Tryd.zeroValue114
 i39 := by kernel_rfl
 t44 := Tryd.underlying125
 a44 := Tryd.isAgg125
 z44 := Tryd.sizeOf125
 v44 := Tryd.zeroValue125
 i44 := by kernel_rfl
 t47 := Tryd.underlying98
 a47 := Tryd.isAgg98
 z47 := Tryd.sizeOf98
 v47 := Tryd.zeroValue98
 i47 := by kernel_rfl
 t48 := Tryd.underlying130
 a48 := Tryd.isAgg130
 z48 := Tryd.sizeOf130
 v48 := Tryd.zeroValue130
 i48 := by kernel_rfl
 t50 := Tryd.underlying132
 a50 := Tryd.isAgg132
 z50 := Tryd.sizeOf132
 v50 := Tryd.zeroValue132
 i50 := by kernel_rfl
 t52 := Tryd.underlying101
 a52 := Tryd.isAgg101
 z52 := Tryd.sizeOf101
 v52 := Tryd.zeroValue101
 i52 := by kernel_rfl
 t55 := Tryd.underlying104
 a55 := Tryd.isAgg104
 z55 := Tryd.sizeOf104
 v55 := Tryd.zeroValue104
 i55 := by kernel_rfl
 t59 := Tryd.underlying119
 a59 := Tryd.isAgg119
 z59 := Tryd.sizeOf119
 v59 := Tryd.zeroValue119
 i59 := by kernel_rfl
 t60 := Tryd.underlying120
 a60 := Tryd.isAgg120
 z60 := Tryd.sizeOf120
 v60 := Tryd.zeroValue120
 i60 := by kernel_rfl
 t61 := Tryd.underlying121
 a61 := Tryd.isAgg121
 z61 := Tryd.sizeOf121
 t65 := Tryd.underlying133
 a65 := Tryd.isAgg133
 z65 := Tryd.sizeOf133
 v65 := Tryd.zeroValue133
 i65 := by kernel_rfl
 t66 := Tryd.underlying134
 a66 := Tryd.isAgg134
 z66 := Tryd.sizeOf134
 v66 := Tryd.zeroValue134
 i66 := by kernel_rfl
 t67 := Tryd.underlying76
 a67 := Tryd.isAgg76
 z67 := Tryd.sizeOf76
 v67 := Tryd.zeroValue76
 i67 := by kernel_rfl
 g0 := by kernel_rfl
 m0 := by kernel_rfl
 g1 := by kernel_rfl
 m1 := by kernel_rfl
 g2 := by kernel_rfl
 m2 := by kernel_rfl
 g3 := by kernel_rfl
 m3 := by kernel_rfl
 g4 := by kernel_rfl
 m4 := by kernel_rfl }
open Go.RowKit in
theorem Tryd.strconv_ParseUint_10_at64_ok (s : ByteArray) (hmax : s.size ≤ 9223372036854775806) (u : Nat) (h : Lib.parseUintB 64 s.data.toList = .ok u) (w : World) :
  Calls Tryd.prog 59 #[.string s, .int .i64 10, .int .i64 64] w fun e w' => e = .returned (.tuple #[.int .u64 u, .nilIface]) ∧ (w' = w ∨ w' = Lib.bytesWorld w 5 s) := Any.strconv_ParseUint_10_at64_ok Tryd.laysPu14 s hmax u h w
open Go.RowKit in
theorem Tryd.strconv_ParseUint_10_at64_syntax (s : ByteArray) (hlim : s.size ≤ 281474976710656) (h : Lib.parseUintB 64 s.data.toList = Go.Lib.NumEnd.syntax) (ev : Value) (w : World) (hv : w.cell? ⟨2, 0, none⟩ = some ev) (hev : ev = .nilIface ∨ ∃ te pe, ev = .iface te pe) :
  Calls Tryd.prog 59 #[.string s, .int .i64 10, .int .i64 64] w fun e w' => ∃ N, e = .returned (.tuple #[.int .u64 0, .iface 114 (.pointer (some ⟨N, 0, none⟩))]) ∧ w.heap.size ≤ N ∧ w'.heap[N]? = some (.cells #[.string ⟨#[80, 97, 114, 115, 101, 85, 105, 110, 116]⟩, .string s, ev] 125 (0, 0)) ∧ Below w.heap.size w w' := Any.strconv_ParseUint_10_at64_syntax Tryd.laysPu14 s hlim h ev w hv hev
open Go.RowKit in
theorem Tryd.strconv_ParseUint_10_at64_range (s : ByteArray) (hlim : s.size ≤ 281474976710656) (h : Lib.parseUintB 64 s.data.toList = .range) (ev : Value) (w : World) (hv : w.cell? ⟨3, 0, none⟩ = some ev) (hev : ev = .nilIface ∨ ∃ te pe, ev = .iface te pe) :
  Calls Tryd.prog 59 #[.string s, .int .i64 10, .int .i64 64] w fun e w' => ∃ N, e = .returned (.tuple #[.int .u64 18446744073709551615, .iface 114 (.pointer (some ⟨N, 0, none⟩))]) ∧ w.heap.size ≤ N ∧ w'.heap[N]? = some (.cells #[.string ⟨#[80, 97, 114, 115, 101, 85, 105, 110, 116]⟩, .string s, ev] 125 (0, 0)) ∧ Below w.heap.size w w' := Any.strconv_ParseUint_10_at64_range Tryd.laysPu14 s hlim h ev w hv hev
def Tryd.lays144_ren : Go.Shelf.Ren := ⟨fun | 144 => 49 | 143 => 64 | 219 => 81 | 217 => 58 | 225 => 99 | 224 => 100 | 267 => 101 | 266 => 77 | 314 => 110 | n => n, fun | 9 => 9 | 4 => 4 | 3 => 3 | 5 => 5 | 46 => 100 | 146 => 127 | 51 => 120 | n => n, fun | 1 => 0 | n => n⟩
theorem Tryd.lays144 : Go.Proofs.Lays.n144 Tryd.prog Tryd.lays144_ren := {
 mixed := by kernel_rfl
 f143 := Tryd.func64.trans (congrArg some (by kernel_rfl))
 f144 := Tryd.func49.trans (congrArg some (by kernel_rfl))
 f217 := Tryd.func58.trans (congrArg some (by kernel_rfl))
 f219 := Tryd.func81.trans (congrArg some (by kernel_rfl))
 f224 := Tryd.func100.trans (congrArg some (by kernel_rfl))
 f225 := Tryd.func99.trans (congrArg some (by kernel_rfl))
 f266 := Tryd.func77.trans (congrArg some (by kernel_rfl))
 f267 := Tryd.func101.trans (congrArg some (by kernel_rfl))
 f314 := Tryd.func110.trans (congrArg some (by kernel_rfl))
 t3 := Tryd.underlying3
 a3 := Tryd.isAgg3
 z3 := Tryd.sizeOf3
 v3 := Tryd.zeroValue3
 t4 := Tryd.underlying4
 a4 := Tryd.isAgg4
 z4 := Tryd.sizeOf4
 v4 := Tryd.zeroValue4
 t5 := Tryd.underlying5
 a5 := Tryd.isAgg5
 z5 := Tryd.sizeOf5
 v5 := Tryd.zeroValue5
 t9 := Tryd.underlying9
 a9 := Tryd.isAgg9
 z9 := Tryd.sizeOf9
 v9 := Tryd.zeroValue9
 t46 := Tryd.underlying100
 a46 := Tryd.isAgg100
 z46 := Tryd.sizeOf100
 v46 := Tryd.zeroValue100
 t51 := Tryd.underlying120
 a51 := Tryd.isAgg120
 z51 := Tryd.sizeOf120
 v51 := Tryd.zeroValue120
 t146 := Tryd.underlying127
 a146 := Tryd.isAgg127
 z146 := Tryd.sizeOf127
 v146 := Tryd.zeroValue127
 g1 := by kernel_rfl }
open Go.RowKit Go.Lib in
theorem Tryd.strings_Contains (s sub : ByteArray) (m : Int) (w : World) (hs : s.size < 4294967281) (hm : w.cell? ⟨0, 0, none⟩ = some (.int .i64 m)) :
  Calls Tryd.prog 49 #[.string s, .string sub] w fun e w' => e = .returned (.bool (Lib.contains s.data.toList sub.data.toList)) ∧ w' = w := Any.strings_Contains Tryd.lays144 s sub m w hs hm
def Tryd.laysM144_ren : Go.Shelf.Ren := ⟨fun | 144 => 49 | 143 => 64 | 219 => 81 | 217 => 58 | 225 => 99 | 224 => 100 | 267 => 101 | 266 => 77 | 314 => 110 | n => n, fun | 9 => 9 | 4 => 4 | 3 => 3 | 5 => 5 | 46 => 100 | 146 => 127 | 51 => 120 | n => n, fun | 1 => 0 | n => n⟩
theorem Tryd.laysM144 : Go.Proofs.LaysM.n144 Tryd.prog Tryd.laysM144_ren := {
 mixed := by kernel_rfl
 f143 := Tryd.func64.trans (congrArg some (by kernel_rfl))
 f144 := Tryd.func49.trans (congrArg some (by kernel_rfl))
 f217 := Tryd.func58.trans (congrArg some (by kernel_rfl))
 f219 := Tryd.func81.trans (congrArg some (by kernel_rfl))
 f224 := Tryd.func100.trans (congrArg some (by kernel_rfl))
 f225 := Tryd.func99.trans (congrArg some (by kernel_rfl))
 f266 := Tryd.func77.trans (congrArg some (by kernel_rfl))
 f267 := Tryd.func101.trans (congrArg some (by kernel_rfl))
 f314 := Tryd.func110.trans (congrArg some (by kernel_rfl))
 t3 := Tryd.underlying3
 a3 := Tryd.isAgg3
 z3 := Tryd.sizeOf3
 v3 := Tryd.zeroValue3
 t4 := Tryd.underlying4
 a4 := Tryd.isAgg4
 z4 := Tryd.sizeOf4
 v4 := Tryd.zeroValue4
 t5 := Tryd.underlying5
 a5 := Tryd.isAgg5
 z5 := Tryd.sizeOf5
 v5 := Tryd.zeroValue5
 t9 := Tryd.underlying9
 a9 := Tryd.isAgg9
 z9 := Tryd.sizeOf9
 v9 := Tryd.zeroValue9
 t46 := Tryd.underlying100
 a46 := Tryd.isAgg100
 z46 := Tryd.sizeOf100
 v46 := Tryd.zeroValue100
 t51 := Tryd.underlying120
 a51 := Tryd.isAgg120
 z51 := Tryd.sizeOf120
 v51 := Tryd.zeroValue120
 t146 := Tryd.underlying127
 a146 := Tryd.isAgg127
 z146 := Tryd.sizeOf127
 v146 := Tryd.zeroValue127
 g1 := by kernel_rfl
 i3 := by kernel_rfl
 i4 := by kernel_rfl
 i5 := by kernel_rfl
 i9 := by kernel_rfl
 i46 := by kernel_rfl
 i51 := by kernel_rfl
 i146 := by kernel_rfl
 m1 := by kernel_rfl
 s1_3 := fun w h => Go.Proofs.cell_of_shapedOpen_int (zero := #[.int .i64 0]) (t := 3) h (of_decide_eq_true (by kernel_rfl)) (by kernel_rfl) rfl (by kernel_rfl) (by kernel_rfl) Tryd.underlying3 }
end Go.Proofs
end
section
namespace Go.Proofs.YtnmfakkjnbpjpaaDoor
open Go.Av Go.RowKit
theorem xT {P : Program} {f : FuncId} {fn : Func} {c : Code} (hf : P.funcs[f]? = some fn) (hn : (fn.name == "runtime.NumGoroutine") = false) (hb : fn.body = some c) {vs : Array Value} {w : World} {Q : Value → World → Prop}
  (h : Calls P f vs w fun e w' => ∃ v, e = .returned v ∧ Q v w') : qA P (callFunc f vs) w Q := by
 unfold qA
 rw [qcS hf hn hb vs w]
 exact callsIn_wide.2 h
theorem qe4 {vs : Array Value} (h : 2 = vs.size) : ∃ x y, vs = #[x, y] := by
 obtain ⟨l⟩ := vs
 match l, h with
 | [x, y], _ => exact ⟨x, y, rfl⟩
theorem qj3 [Lent] {args : List AV} {H H' : AH} {r : AV} {C : qb} {μ : MMap} {w : World} {vs : Array Value} (hr : zE args H = some (r, H')) (ha : qe C μ args vs) (hw : Wld C μ H w) :
  qA Tryd.prog (callFunc 28 vs) w (qP C μ H w r H') := by
 unfold zE at hr
 split at hr
 case h_2 => cases hr
 rename_i s c
 cases hr
 obtain ⟨hl, hv⟩ := ha
 obtain ⟨x, y, rfl⟩ := qe4 hl
 have h0 := hv 0 _ _ rfl rfl
 have h1 := hv 1 _ _ rfl rfl
 cases h0
 cases h1
 refine xT Tryd.func28 (by rfl) rfl ((Tryd.strings_IndexByte ⟨s.toArray⟩ c w).mono fun e w' ⟨e1, e2⟩ => ⟨_, e1, ?_⟩)
 subst e2
 exact ⟨C, μ, .int _ _, hw, Ext.refl (qku _)⟩
theorem qgF [Lent] (hm : ∃ m, Lent.l 0 0 = some (.int .i64 m)) {args : List AV} {H H' : AH} {r : AV} {C : qb} {μ : MMap} {w : World} {vs : Array Value} (hr : xS args H = some (r, H')) (ha : qe C μ args vs) (hw : Wld C μ H w) :
  qA Tryd.prog (callFunc 49 vs) w (qP C μ H w r H') := by
 unfold xS at hr
 split at hr
 case h_2 => cases hr
 rename_i s t
 split at hr
 case isFalse => cases hr
 rename_i hlt
 cases hr
 obtain ⟨hl, hv⟩ := ha
 obtain ⟨x, y, rfl⟩ := qe4 hl
 have h0 := hv 0 _ _ rfl rfl
 have h1 := hv 1 _ _ rfl rfl
 cases h0
 cases h1
 obtain ⟨m, hm⟩ := hm
 refine xT Tryd.func49 (by rfl) rfl ((Tryd.strings_Contains ⟨s.toArray⟩ ⟨t.toArray⟩ m w (by simpa [ByteArray.size] using hlt) (hw.lnt.1 0 0 _ hm)).mono fun e w' ⟨e1, e2⟩ => ⟨_, e1, ?_⟩)
 subst e2
 exact ⟨C, μ, .bool _, hw, Ext.refl (qku _)⟩
theorem qc0 [Lent] {H : AH} {r : AV} {C : qb} {μ : MMap} {w w' : World} {v : Value} (hw : Wld C μ H w) (hb : Below w.heap.size w w') (hr : Rep C μ r v) : qP C μ H w r H v w' :=
 ⟨C, μ, hr, hw.world hb.size (fun b hlt => hb.block b hlt), ⟨hb.os, hb.tape, hb.output, hb.size, fun _ _ _ h => h, fun _ m _ h => ⟨m, h, .refl m⟩, fun b hlt hl => ⟨hb.block b hlt, hl, rfl⟩, qku _⟩⟩
def qeW [Lent] (g : Nat) : Prop := ∃ ev, Lent.l g 0 = some ev ∧ (ev = .nilIface ∨ ∃ te pe, ev = .iface te pe)
theorem qiU [Lent] (hS : qeW 2) (hR : qeW 3) {args : List AV} {H H' : AH} {r : AV} {C : qb} {μ : MMap} {w : World} {vs : Array Value} (hr : qcs args H = some (r, H')) (ha : qe C μ args vs) (hw : Wld C μ H w) :
  qA Tryd.prog (callFunc 59 vs) w (qP C μ H w r H') := by
 unfold qcs at hr
 split at hr
 case h_2 => cases hr
 rename_i s
 split at hr
 case isFalse => cases hr
 rename_i hlt
 obtain ⟨hl, hv⟩ := ha
 obtain ⟨x, y, z, rfl⟩ : ∃ x y z, vs = #[x, y, z] := by
  obtain ⟨l⟩ := vs
  match l, hl with
  | [x, y, z], _ => exact ⟨x, y, z, rfl⟩
 have h0 := hv 0 _ _ rfl rfl
 have h1 := hv 1 _ _ rfl rfl
 have h2 := hv 2 _ _ rfl rfl
 cases h0
 cases h1
 cases h2
 have hsz : (⟨s.toArray⟩ : ByteArray).size ≤ 281474976710656 := by simpa [ByteArray.size] using hlt
 split at hr
 ·rename_i u hu
  cases hr
  refine xT Tryd.func59 (by rfl) rfl ((Tryd.strconv_ParseUint_10_at64_ok ⟨s.toArray⟩ (by omega) u hu w).mono fun e w' ⟨e1, e2⟩ => ⟨_, e1, ?_⟩)
  have hrep : Rep C μ (.tup [.int .u64 u, .nilI]) (.tuple #[.int .u64 u, .nilIface]) := Rep.tup _ [.int .u64 u, .nilIface] rfl fun i a v ha hv => by
   rcases i with _ | _ | i
   ·simp at ha hv; subst ha; subst hv; exact .int _ _
   ·simp at ha hv; subst ha; subst hv; exact .nilI
   ·simp at ha
  rcases e2 with rfl | rfl
  ·exact ⟨C, μ, hrep, hw, Ext.refl (qku _)⟩
  ·exact qc0 hw (Lib.bytesWorld_below _ _ _) hrep
 all_goals
  rename_i hu
  cases hr
  obtain ⟨ev, hS, hS2⟩ := hS
  obtain ⟨er, hR, hR2⟩ := hR
  first
   | refine xT Tryd.func59 (by rfl) rfl ((Tryd.strconv_ParseUint_10_at64_syntax ⟨s.toArray⟩ hsz hu ev w (hw.lnt.1 _ _ _ hS) hS2).mono fun e w' ⟨N, e1, _, _, e2⟩ => ⟨_, e1, ?_⟩)
   | refine xT Tryd.func59 (by rfl) rfl ((Tryd.strconv_ParseUint_10_at64_range ⟨s.toArray⟩ hsz hu er w (hw.lnt.1 _ _ _ hR) hR2).mono fun e w' ⟨N, e1, _, _, e2⟩ => ⟨_, e1, ?_⟩)
  refine qc0 hw e2 (Rep.tup _ [_, _] rfl fun i a v ha hv => ?_)
  rcases i with _ | _ | i
  ·simp at ha hv; subst ha; subst hv; exact .int _ _
  ·simp at ha hv; subst ha; subst hv; exact .ifc _ _ _ (.junk _)
  ·simp at ha
end Go.Proofs.YtnmfakkjnbpjpaaDoor
end
section
namespace Go.Av
mutual
def Tm.w : Tm → Nat
 | .mk _ _ s l => 1 + s.length + wL l
def wL : List Tm → Nat
 | [] => 0
 | t :: l => t.w + wL l
end
@[simp] theorem wL_nil : wL [] = 0 := by rw [wL]
@[simp] theorem wL_cons (t : Tm) (l : List Tm) : wL (t :: l) = t.w + wL l := by rw [wL]
@[simp] theorem wL_append (a b : List Tm) : wL (a ++ b) = wL a + wL b := by
 induction a with
 | nil => simp
 | cons t l ih => simp [ih]; omega
end Go.Av
end
section
namespace Go.Proofs.YtnmfakkjnbpjpaaDoor
open Go.Av
def C0 (W : World) : qb := fun b o => W.cell? ⟨b, o, none⟩
def M0 : MMap := fun _ => none
structure TermTys (P : Program) (tT tL tI tS : TypeId) : Prop where
 uT : ∃ f0 f1 f2 f3 : Field, P.underlying tT = some (.struct #[f0, f1, f2, f3]) ∧ f0.type = tI ∧ f0.offset = 0 ∧ f1.type = tI ∧ f1.offset = 1 ∧ f2.type = tS ∧ f2.offset = 2 ∧ f3.type = tL ∧ f3.offset = 3
 uL : P.underlying tL = some (.slice tT)
 uI : P.underlying tI = some (.int .i64)
 uS : P.underlying tS = some .string
 cT : P.cellsOf tT = 4
 cL : P.cellsOf tL = 1
 cI : P.cellsOf tI = 1
 cS : P.cellsOf tS = 1
section
variable {H : Type} {enc : TypeId × Value → H} {P : Program} {W : World} {tT tL tI tS : TypeId}
end
theorem qii (f : FuncId) (fn : Func) (h : Tryd.prog.funcs[f]? = some fn) : (fn.name == "runtime.NumGoroutine") = false := by
 have h1 := List.all_eq_true.1 qiX fn (by
  rw [← Array.getElem?_toList] at h
  exact qkF h)
 simpa using h1
theorem qjJ [Lent] (hm : ∃ m, Lent.l 0 0 = some (.int .i64 m)) (hS : qeW 2) (hR : qeW 3) : CfgOk cfg where
 ty := ⟨fun t ti h => BT.all_look qjZ h⟩
 mixed := qiZ
 named := fun f fn _ h => qii f fn h
 ext := fun f s h args H r H' hr C μ w vs ha hw => by
  have h : yK f qfJ = some s := h
  unfold qfJ at h
  rw [yK] at h
  split at h
  ·rename_i e
   have e := qkt e
   subst e
   cases h
   exact qj3 hr ha hw
  ·rw [yK] at h
   split at h
   ·rename_i e
    have e := qkt e
    subst e
    cases h
    exact qgF hm hr ha hw
   ·rw [yK] at h
    split at h
    ·rename_i e
     have e := qkt e
     subst e
     cases h
     exact qiU hS hR hr ha hw
    ·rw [qhH, yK] at h
     cases h
@[instance_reducible] def qaj (W : World) : Lent := ⟨fun b o => if (b = 0 ∨ b = 2 ∨ b = 3) ∧ o = 0 then W.cell? ⟨b, o, none⟩ else none, False, fun _ => True⟩
theorem wldS (W : World) : @Wld (qaj W) (C0 W) M0 [] W :=
 by
 letI := qaj W
 exact ⟨fun _ _ _ h => h, fun id m h => (by cases h), fun id h => (by simp at h), fun id b h => (by simp at h), fun id d sz rs h => (by simp at h), fun i i' b b' m m' h => (by simp at h), xP.nil, by
  refine ⟨fun b o v h => ?_, fun h => h.elim, fun _ _ => trivial⟩
  have h : (if (b = 0 ∨ b = 2 ∨ b = 3) ∧ o = 0 then W.cell? ⟨b, o, none⟩ else none) = some v := h
  split at h
  ·exact h
  ·cases h⟩
theorem qhe {f : FuncId} {args : List AV} {vs : Array Value} {W : World} (hx : cfg.ext f = none) (hm : ∃ m, W.cell? ⟨0, 0, none⟩ = some (.int .i64 m))
  (hS : ∃ ev, W.cell? ⟨2, 0, none⟩ = some ev ∧ (ev = .nilIface ∨ ∃ te pe, ev = .iface te pe)) (hR : ∃ ev, W.cell? ⟨3, 0, none⟩ = some ev ∧ (ev = .nilIface ∨ ∃ te pe, ev = .iface te pe))
  (he : EVs (EV cfg) f args = some (.bool true)) (ha : @qe (qaj W) (C0 W) M0 args vs) :
  Calls Tryd.prog f vs W fun e W' => e = .returned (.bool true) ∧ (∀ b, b < W.heap.size → W'.heap[b]? = W.heap[b]?) ∧ W.heap.size ≤ W'.heap.size ∧ W'.os = W.os ∧ W'.output = W.output := by
 letI := qaj W
 unfold EVs at he
 obtain ⟨q, h1, h2⟩ := qkr.1 he
 have := qjj (qjJ hm hS hR) hx (r := q.1) (H' := q.2) h1 ha (wldS W)
 refine this.mono fun e W' ⟨v, hv, C', μ', p1, p2, p3⟩ => ?_
 rw [h2] at p1
 cases p1
 refine ⟨hv, fun b hb => (p3.fr b hb vE).1, p3.size, p3.os, p3.output⟩
end Go.Proofs.YtnmfakkjnbpjpaaDoor
end
section
namespace Go.Proofs.YtnmfakkjnbpjpaaDoor
open Go.Av Go.ChangeShapes Go.WideShapes Go.ChangeAt Go.RowKit
theorem qiV : ownKnob Tryd.prog.godebug = none := by kernel_rfl
section
variable {H : Type} {enc : TypeId × Value → H} {P : Program} {W W' : World}
theorem qig {f : Func} {s : ChangeSpec} {apart fresh handsOn again : Bool} {args : Array Value} {v : Value} {ds gs : List (DataW H)} {before pa pv : List MemPlace}
  (hW : DataW.Whole enc P f.params.toList s.vars apart W args.toList ds gs before)
  (hres : ∀ (b : Nat) (sp : Nat → Bool) (hd : Bool), DataW.TrodAll enc P W' b sp hd f.resultTypes.toList (v.resultList f.resultTypes.size) (s.fn H (ds ++ gs)).results [])
  (hargs : ∀ sp : Nat → Bool, (∀ p ∈ before, sp p.block = true) → DataW.TrodAll enc P W' 0 sp true f.params.toList args.toList (s.fn H (ds ++ gs)).args pa)
  (hvars : ∀ sp : Nat → Bool, (∀ p ∈ before, sp p.block = true) → DataW.TrodVars enc P W' sp s.vars (s.fn H (ds ++ gs)).vars pv)
  (hps : before = pa ++ pv) (hk : W.keptBut W' (· ∈ before)) (hfz : ∀ b o, b < W.heap.size → W'.frozen? ⟨b, o, none⟩ = W.frozen? ⟨b, o, none⟩)
  (hok : ∀ (j : Nat) (t : TypeId) (r : Value), f.resultTypes[j]? = some t → (v.resultList f.resultTypes.size)[j]? = some r → Value.okWide P W' .any 0 t r) :
  s.post enc P f apart fresh handsOn again W args v W' := by
 have hlt := hW.lt
 have hold : ∀ p ∈ before, (fun b => decide (b < W.heap.size)) p.block = true := fun p hp => by simpa using hlt p hp
 refine ⟨ds, gs, before, [], pa, pv, hW, hres _ _ _, hargs _ hold, hvars _ hold, World.keptBut_mono (fun p hp => ⟨hp, ?_⟩) hk, fun _ => ?_⟩
 ·rw [hps, qkH] at hp
  exact Or.inr hp
 ·obtain ⟨_, _, _, _, _, hz, hn⟩ := hW
  refine ⟨hok, _, _, ([] ++ pa) ++ pv, ⟨[] ++ pa, pv, trodAll_append (hargs _ (fun _ _ => rfl)) (hres _ _ _), hvars _ (fun _ _ => rfl), rfl, ?_, ?_⟩, ?_⟩
  ·intro b off hp
   have hp' : MemPlace.cell b off ∈ before := by rw [hps]; simpa using hp
   rw [hfz b off (hlt _ hp')]
   exact hz b off hp'
  ·intro ha
   have := hn ha
   rw [hps] at this
   simpa using this
  ·intro p hp _
   rw [hps]
   simpa using hp
theorem qfo (h : ∀ b, b < W.heap.size → W'.heap[b]? = W.heap[b]?) (ho : W'.os = W.os) (hu : W'.output = W.output) (may : MemPlace → Prop) : W.keptBut W' may := by
 refine ⟨ho, hu, fun i hi => ?_⟩
 rw [h i hi]
 cases W.heap[i]? with
 | none => rfl
 | some o => cases o <;> simp
theorem qfa (h : ∀ b, b < W.heap.size → W'.heap[b]? = W.heap[b]?) {p : MemPlace} (hp : p.block < W.heap.size) : W.sameAt W' p := by
 cases p with
 | cell b o => simp only [World.sameAt, World.cell?]; rw [h b hp]
 | map b => exact h b hp
theorem qd9 (h : ∀ b, b < W.heap.size → W'.heap[b]? = W.heap[b]?) (b o : Nat) (hb : b < W.heap.size) : W'.frozen? ⟨b, o, none⟩ = W.frozen? ⟨b, o, none⟩ := by
 simp only [World.frozen?]; rw [h b hb]
structure Opened (enc : TypeId × Value → H) (P : Program) (W : World) (t : TypeId) (v : Value) (d : DataW H) (ps : List MemPlace) (a : AV) : Prop where
 rep : Rep (C0 W) M0 a v
 back : ∀ (W' : World) (sp : Nat → Bool), (∀ p ∈ ps, W.sameAt W' p) → (∀ p ∈ ps, sp p.block = true) → DataW.Trod enc P W' 0 sp true t v d ps
theorem qiW {tI : TypeId} (hu : P.underlying tI = some (.int .i64)) {r : Reach} {b0 : Nat} {v : Value} {d : DataW H} {ps : List MemPlace} (hval : Value.okWide P W r b0 tI v) (hd : DataW.Trod enc P W 0 (fun _ => true) true tI v d ps) :
  ∃ k : Int, Opened enc P W tI v d ps (.int .i64 k) ∧ (Lit.int .i64 k).wf = true := by
 obtain ⟨k, rfl⟩ := okWide_int hu hval
 obtain ⟨n, hn⟩ := hd
 obtain ⟨k', e0, ex, w0⟩ := DataW.trod_int hu hn
 have e0 : [Value.int .i64 k] = [Value.int .i64 k'] := by simpa [Value.cells] using e0
 cases e0
 cases ex
 refine ⟨k, ⟨.int _ _, fun W' sp _ _ => ⟨n, ?_⟩⟩, w0⟩
 cases n with
 | zero => simp [DataW.trod] at hn
 | succ q => simp [DataW.trod, hu, w0, Value.cells]
end
end Go.Proofs.YtnmfakkjnbpjpaaDoor
end
