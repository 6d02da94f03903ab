/-
  Parts of the proof of ScanWritesUptoCardSaid, put together: the abstract evaluation and its contracts. Own work.
  What is proved: each lemma as it stands; no condition.
-/
import Derived.Shelf.Strings.Builder1
import Derived.Shelf.Strings.Builder2
import Derived.Shelf.Strings.OnBuilder
import Derived.Shelf.Small.Strs
import Derived.Shelf.Small.Wraps
import Derived.Shelf.Strings.BuilderF
import Derived.Shelf.Strings.BuilderK
import Derived.Shelf.Strings.Builder2Cap
import Derived.Shelf.Strconv.Itoa0
import Derived.Shelf.Strconv.Itoa1
import Derived.Shelf.LaysM
import Derived.Shelf.Strconv.Itoa2
import Derived.Shelf.Strconv.Itoa3
import Derived.Shelf.Strconv.Clone
import Derived.Shelf.Strconv.SyntaxError
import Derived.Shelf.Strconv.Lower
import Derived.Shelf.Strconv.ParseUint10
import Derived.Shelf.Strconv.ParseUint10Empty
import Derived.Shelf.Strconv.RangeError
import Derived.Shelf.Strconv.ParseUintEmpty
import Derived.Shelf.Strconv.ParseUint10b64
import Derived.Shelf.Strconv.ParseUint10b32
import Derived.Shelf.Strconv.ParseUint10b16
import Derived.Shelf.Strconv.ParseUint10b8
import Derived.Ground.MpProg
import Derived.Shelf.Pu.ParseUintPublic10
import Derived.Shelf.Strings.Search1
import Derived.Shelf.Strings.Search2
import Derived.Shelf.Strings.Search3
import Derived.Shelf.Strings.Shaped
import Derived.Shelf.Strings.Prefix
import Derived.Shelf.Bits.Mul64
import Derived.Shelf.Slices.Turned
import Derived.Ground.Names2Prog
import Derived.Shelf.Slices.SearchI
import Derived.Test.YtnjonahoheopnaaGreatDoorProg
import Derived.Lib.AtoiErrMem
import Derived.Lib.FrozenHead2
import Derived.Lib.UnsafeStr
import Derived.WalkKit
import Derived.KernelRfl
import Derived.RowKit
import Derived.Shelf.RegionOpenPlain
import Derived.Test.YtnjonahoheopnaaGreatDoorRows
import Derived.ProofKit
import Derived.OpenShut
import Derived.JoinedCond
import Derived.ChangeArms
import Derived.Lib.AppendIntMem
import Derived.Deep.DeepHandedRow
import Derived.MakeChecks
import Derived.Stop.LaidErr
import Derived.LaidLaws
import Derived.Lib.LaidTab
import Derived.Deep.DeepWitnessRowRef
import Derived.LaidMore
import Derived.SevenTiedAt
import Derived.Test.YtnjonahoheopnaaGreatDoorCards
import Derived.Test.YtnjonahoheopnaaGreatDoorTie
import Derived.Lib.IndexAny
import Derived.Lib.IndexLaws
import Derived.Test.YtnjonahoheopnaaGreatDoorZScanWritesM3
open List renaming getElem?_eq_some_iff → qpn, getElem?_eq_getElem → qpr, getElem?_append_left → qpu, length → qpw, getElem?_set → qpx, getElem?_append_right → qpz, get?Internal → qpA, mem_of_getElem? → qpB, length_cons → qpC, length_append → qpD, mem_append → qpH, replicate → qpK, length_nil → qpL, mem_cons → qpM, length_map → qpN, take → qpO, append → qpQ
open Bool renaming and_eq_true → qpo, false_eq_true → qpv, not_eq_true → qpI
open Option renaming bind_eq_some_iff → qpp, map_eq_some_iff → qpq, bind_some → qpy, map_some → qpF
open Nat renaming le_refl → qps, eq_of_beq_eq_true → qpt, mul_le_mul_right → qpE, ble → qpG, beq → qpJ, blt_eq → qpP
set_option maxRecDepth 1000000
set_option maxHeartbeats 0
section
namespace Go.Proofs
open Go.Shelf
def Tryz.lays156_ren : Go.Shelf.Ren := ⟨fun | 156 => 32 | 165 => 67 | 166 => 68 | 169 => 66 | 240 => 116 | 241 => 117 | 276 => 153 | 277 => 154 | n => n, fun | 31 => 57 | 9 => 9 | 3 => 3 | 4 => 4 | 0 => 0 | 20 => 20 | 72 => 102 | 76 => 109 | 70 => 100 | 37 => 92 | 75 => 108 | 127 => 138 | 164 => 168 | 5 => 5 | 80 => 105 | n => n, fun | n => n⟩
theorem Tryz.lays156 : Go.Proofs.Lays.n156 Tryz.prog Tryz.lays156_ren := {
 mixed := by kernel_rfl
 f156 := Tryz.func32.trans (congrArg some (by kernel_rfl))
 f165 := Tryz.func67.trans (congrArg some (by kernel_rfl))
 f166 := Tryz.func68.trans (congrArg some (by kernel_rfl))
 f169 := Tryz.func66.trans (congrArg some (by kernel_rfl))
 f240 := Tryz.func116.trans (congrArg some (by kernel_rfl))
 f241 := Tryz.func117.trans (congrArg some (by kernel_rfl))
 f276 := Tryz.func153.trans (congrArg some (by kernel_rfl))
 f277 := Tryz.func154.trans (congrArg some (by kernel_rfl))
 t0 := Tryz.underlying0
 a0 := Tryz.isAgg0
 z0 := Tryz.sizeOf0
 v0 := Tryz.zeroValue0
 t3 := Tryz.underlying3
 a3 := Tryz.isAgg3
 z3 := Tryz.sizeOf3
 v3 := Tryz.zeroValue3
 t4 := Tryz.underlying4
 a4 := Tryz.isAgg4
 z4 := Tryz.sizeOf4
 v4 := Tryz.zeroValue4
 t9 := Tryz.underlying9
 a9 := Tryz.isAgg9
 z9 := Tryz.sizeOf9
 v9 := Tryz.zeroValue9
 t20 := Tryz.underlying20
 a20 := Tryz.isAgg20
 z20 := Tryz.sizeOf20
 v20 := Tryz.zeroValue20
 t31 := Tryz.underlying57
 a31 := Tryz.isAgg57
 z31 := Tryz.sizeOf57
 v31 := Tryz.zeroValue57
 t37 := Tryz.underlying92
 a37 := Tryz.isAgg92
 z37 := Tryz.sizeOf92
 v37 := Tryz.zeroValue92
 t70 := Tryz.underlying100
 a70 := Tryz.isAgg100
 z70 := Tryz.sizeOf100
 v70 := Tryz.zeroValue100
 t72 := Tryz.underlying102
 a72 := Tryz.isAgg102
 z72 := Tryz.sizeOf102
 v72 := Tryz.zeroValue102
 t75 := Tryz.underlying108
 a75 := Tryz.isAgg108
 z75 := Tryz.sizeOf108
 v75 := Tryz.zeroValue108
 t76 := Tryz.underlying109
 a76 := Tryz.isAgg109
 z76 := Tryz.sizeOf109
 v76 := Tryz.zeroValue109
 t127 := Tryz.underlying138
 a127 := Tryz.isAgg138
 z127 := Tryz.sizeOf138
 v127 := Tryz.zeroValue138
 t164 := Tryz.underlying168
 a164 := Tryz.isAgg168
 z164 := Tryz.sizeOf168
 v164 := Tryz.zeroValue168 }
theorem Tryz.Builder_Extra_156 : Builder.Extra Tryz.prog Tryz.lays156_ren := {
 sizeBuilder := by kernel_rfl
 liesBuilder := by kernel_rfl
 t5 := Tryz.underlying5
 a5 := Tryz.isAgg5
 z5 := Tryz.sizeOf5
 v5 := Tryz.zeroValue5
 infoByte := by kernel_rfl
 cellsByte := by kernel_rfl
 sizeByte := by kernel_rfl
 neB5 := by decide }
open Go.RowKit in
theorem Tryz.strings_Join_none (a : Option Addr) (c : Nat) (sep : ByteArray) (w : World) :
  Calls Tryz.prog 32 #[.slice a 0 c, .string sep] w fun e w' => e = .returned (.string ⟨#[]⟩) ∧ w' = w := Any.strings_Join_none Tryz.lays156 Tryz.Builder_Extra_156 a c sep w
open Go.RowKit in
theorem Tryz.strings_Join (bk o c : Nat) (xs : List ByteArray) (sep : ByteArray) (w : World) (hcells : ∀ (j : Nat) x, xs[j]? = some x → w.cell? ⟨bk, o + j, none⟩ = some (.string x)) (hbk : bk < w.heap.size) (hN : xs.length ≤ 140737488355328) (hcap : xs.length ≤ c) (hlen : (Lib.join (xs.map (·.data.toList)) sep.data.toList).length ≤ 140737488355328) :
  Calls Tryz.prog 32 #[.slice (some ⟨bk, o, none⟩) xs.length c, .string sep] w fun e w' => e = .returned (.string ⟨(Lib.join (xs.map (·.data.toList)) sep.data.toList).toArray⟩) ∧ Below w.heap.size w w' := Any.strings_Join Tryz.lays156 Tryz.Builder_Extra_156 bk o c xs sep w hcells hbk hN hcap hlen
def Tryz.lays137_ren : Go.Shelf.Ren := ⟨fun | 137 => 77 | 217 => 123 | 266 => 157 | n => n, fun | 9 => 9 | 5 => 5 | 3 => 3 | n => n, fun | n => n⟩
theorem Tryz.lays137 : Go.Proofs.Lays.n137 Tryz.prog Tryz.lays137_ren := {
 mixed := by kernel_rfl
 f137 := Tryz.func77.trans (congrArg some (by kernel_rfl))
 f217 := Tryz.func123.trans (congrArg some (by kernel_rfl))
 f266 := Tryz.func157.trans (congrArg some (by kernel_rfl))
 t3 := Tryz.underlying3
 a3 := Tryz.isAgg3
 z3 := Tryz.sizeOf3
 v3 := Tryz.zeroValue3
 t5 := Tryz.underlying5
 a5 := Tryz.isAgg5
 z5 := Tryz.sizeOf5
 v5 := Tryz.zeroValue5
 t9 := Tryz.underlying9
 a9 := Tryz.isAgg9
 z9 := Tryz.sizeOf9
 v9 := Tryz.zeroValue9 }
open Go.RowKit in
theorem Tryz.strings_IndexByte (s : ByteArray) (c : Int) (w : World) :
  Calls Tryz.prog 77 #[.string s, .int .u8 c] w fun e w' => e = .returned (.int .i64 (Lib.indexByte s.data.toList c.toNat.toUInt8)) ∧ w' = w := Any.strings_IndexByte Tryz.lays137 s c w
def Tryz.laysM171_ren : Go.Shelf.Ren := ⟨fun | 171 => 29 | 243 => 63 | 246 => 107 | 283 => 145 | 284 => 146 | 285 => 147 | 286 => 148 | 129 => 176 | 317 => 175 | 318 => 177 | 319 => 178 | 320 => 179 | 337 => 194 | 338 => 195 | n => n, fun | 3 => 3 | 9 => 9 | 2 => 2 | 4 => 4 | 171 => 162 | 0 => 0 | 53 => 141 | 37 => 92 | 5 => 5 | 173 => 165 | 212 => 192 | 51 => 193 | 20 => 20 | 213 => 194 | 46 => 167 | 232 => 216 | 233 => 217 | n => n, fun | 17 => 1 | 18 => 4 | 19 => 5 | n => n⟩
theorem Tryz.laysM171 : Go.Proofs.LaysM.n171 Tryz.prog Tryz.laysM171_ren := {
 mixed := by kernel_rfl
 f129 := Tryz.func176.trans (congrArg some (by kernel_rfl))
 f171 := Tryz.func29.trans (congrArg some (by kernel_rfl))
 f243 := Tryz.func63.trans (congrArg some (by kernel_rfl))
 f246 := Tryz.func107.trans (congrArg some (by kernel_rfl))
 f283 := Tryz.func145.trans (congrArg some (by kernel_rfl))
 f284 := Tryz.func146.trans (congrArg some (by kernel_rfl))
 f285 := Tryz.func147.trans (congrArg some (by kernel_rfl))
 f286 := Tryz.func148.trans (congrArg some (by kernel_rfl))
 f317 := Tryz.func175.trans (congrArg some (by kernel_rfl))
 f318 := Tryz.func177.trans (congrArg some (by kernel_rfl))
 f319 := Tryz.func178.trans (congrArg some (by kernel_rfl))
 f320 := Tryz.func179.trans (congrArg some (by kernel_rfl))
 f337 := Tryz.func194.trans (congrArg some (by kernel_rfl))
 f338 := Tryz.func195.trans (congrArg some (by kernel_rfl))
 t0 := Tryz.underlying0
 a0 := Tryz.isAgg0
 z0 := Tryz.sizeOf0
 v0 := Tryz.zeroValue0
 t2 := Tryz.underlying2
 a2 := Tryz.isAgg2
 z2 := Tryz.sizeOf2
 v2 := Tryz.zeroValue2
 t3 := Tryz.underlying3
 a3 := Tryz.isAgg3
 z3 := Tryz.sizeOf3
 v3 := Tryz.zeroValue3
 t4 := Tryz.underlying4
 a4 := Tryz.isAgg4
 z4 := Tryz.sizeOf4
 v4 := Tryz.zeroValue4
 t5 := Tryz.underlying5
 a5 := Tryz.isAgg5
 z5 := Tryz.sizeOf5
 v5 := Tryz.zeroValue5
 t9 := Tryz.underlying9
 a9 := Tryz.isAgg9
 z9 := Tryz.sizeOf9
 v9 := Tryz.zeroValue9
 t20 := Tryz.underlying20
 a20 := Tryz.isAgg20
 z20 := Tryz.sizeOf20
 v20 := Tryz.zeroValue20
 t37 := Tryz.underlying92
 a37 := Tryz.isAgg92
 z37 := Tryz.sizeOf92
 v37 := Tryz.zeroValue92
 t46 := Tryz.underlying167
 a46 := Tryz.isAgg167
 z46 := Tryz.sizeOf167
 v46 := Tryz.zeroValue167
 t51 := Tryz.underlying193
 a51 := Tryz.isAgg193
 z51 := Tryz.sizeOf193
 v51 := Tryz.zeroValue193
 t53 := Tryz.underlying141
 a53 := Tryz.isAgg141
 z53 := Tryz.sizeOf141
 v53 := Tryz.zeroValue141
 t171 := Tryz.underlying162
 a171 := Tryz.isAgg162
 z171 := Tryz.sizeOf162
 v171 := Tryz.zeroValue162
 t173 := Tryz.underlying165
 a173 := Tryz.isAgg165
 z173 := Tryz.sizeOf165
 v173 := Tryz.zeroValue165
 t212 := Tryz.underlying192
 a212 := Tryz.isAgg192
 z212 := Tryz.sizeOf192
 v212 := Tryz.zeroValue192
 t213 := Tryz.underlying194
 a213 := Tryz.isAgg194
 z213 := Tryz.sizeOf194
 t232 := Tryz.underlying216
 a232 := Tryz.isAgg216
 z232 := Tryz.sizeOf216
 v232 := Tryz.zeroValue216
 t233 := Tryz.underlying217
 a233 := Tryz.isAgg217
 z233 := Tryz.sizeOf217
 v233 := Tryz.zeroValue217
 g17 := by kernel_rfl
 g18 := by kernel_rfl
 g19 := by kernel_rfl
 i0 := by kernel_rfl
 i2 := by kernel_rfl
 i3 := by kernel_rfl
 i4 := by kernel_rfl
 i5 := by kernel_rfl
 i9 := by kernel_rfl
 i20 := by kernel_rfl
 i37 := by kernel_rfl
 i46 := by kernel_rfl
 i51 := by kernel_rfl
 i53 := by kernel_rfl
 i171 := by kernel_rfl
 i173 := by kernel_rfl
 i212 := by kernel_rfl
 i232 := by kernel_rfl
 i233 := by kernel_rfl
 m17 := by kernel_rfl
 m18 := by kernel_rfl
 m19 := by kernel_rfl }
open Go.RowKit Go.Sort Go.Lib in
theorem Tryz.strconv_Itoa (n : Int) (h0 : -9223372036854775808 ≤ n) (h1 : n ≤ 9223372036854775807) (w : World) (htab : Lib.TabIs Tryz.prog w "internal/strconv.uint64pow10" .u64 Lib.pow10Tab) :
  Calls Tryz.prog 29 #[.int .i64 n] w fun e w' => e = .returned (.string ⟨(Lib.itoa n).toArray⟩) ∧ ∃ k os, w' = grow (w.drewN k) os := Any.strconv_Itoa Tryz.laysM171 n h0 h1 w htab
def Tryz.laysPu14_ren : Go.Shelf.Ren := ⟨fun | 14 => 124 | 16 => 158 | 17 => 159 | 19 => 180 | 20 => 181 | 21 => 182 | 22 => 183 | 23 => 184 | 24 => 185 | 25 => 196 | 27 => 29 | 26 => 197 | 28 => 63 | 29 => 107 | 30 => 145 | 31 => 146 | 32 => 147 | 33 => 148 | 35 => 176 | 34 => 175 | 36 => 177 | 37 => 178 | 38 => 179 | 39 => 194 | 40 => 195 | n => n, fun | 9 => 9 | 3 => 3 | 22 => 141 | 24 => 108 | 25 => 142 | 4 => 4 | 34 => 196 | 5 => 5 | 36 => 167 | 37 => 92 | 0 => 0 | 39 => 198 | 21 => 21 | 44 => 210 | 47 => 138 | 50 => 220 | 48 => 218 | 2 => 2 | 52 => 162 | 55 => 165 | 59 => 192 | 60 => 193 | 20 => 20 | 61 => 194 | 65 => 216 | 66 => 217 | 67 => 105 | n => n, fun | 0 => 2 | 1 => 3 | 2 => 1 | 3 => 4 | 4 => 5 | n => n⟩
theorem Tryz.laysPu14 : Go.Proofs.LaysPu.n14 Tryz.prog Tryz.laysPu14_ren := {
 mixed := by kernel_rfl
 f14 := Tryz.func124.trans (congrArg some (by kernel_rfl))
 f16 := Tryz.func158.trans (congrArg some (by kernel_rfl))
 f17 := Tryz.func159.trans (congrArg some (by kernel_rfl))
 f19 := Tryz.func180.trans (congrArg some (by kernel_rfl))
 f20 := Tryz.func181.trans (congrArg some (by kernel_rfl))
 f21 := Tryz.func182.trans (congrArg some (by kernel_rfl))
 f22 := Tryz.func183.trans (congrArg some (by kernel_rfl))
 f23 := Tryz.func184.trans (congrArg some (by kernel_rfl))
 f24 := Tryz.func185.trans (congrArg some (by kernel_rfl))
 f25 := Tryz.func196.trans (congrArg some (by kernel_rfl))
 f26 := Tryz.func197.trans (congrArg some (by kernel_rfl))
 f27 := Tryz.func29.trans (congrArg some (by kernel_rfl))
 f28 := Tryz.func63.trans (congrArg some (by kernel_rfl))
 f29 := Tryz.func107.trans (congrArg some (by kernel_rfl))
 f30 := Tryz.func145.trans (congrArg some (by kernel_rfl))
 f31 := Tryz.func146.trans (congrArg some (by kernel_rfl))
 f32 := Tryz.func147.trans (congrArg some (by kernel_rfl))
 f33 := Tryz.func148.trans (congrArg some (by kernel_rfl))
 f34 := Tryz.func175.trans (congrArg some (by kernel_rfl))
 f35 := Tryz.func176.trans (congrArg some (by kernel_rfl))
 f36 := Tryz.func177.trans (congrArg some (by kernel_rfl))
 f37 := Tryz.func178.trans (congrArg some (by kernel_rfl))
 f38 := Tryz.func179.trans (congrArg some (by kernel_rfl))
 f39 := Tryz.func194.trans (congrArg some (by kernel_rfl))
 f40 := Tryz.func195.trans (congrArg some (by kernel_rfl))
 t0 := Tryz.underlying0
 a0 := Tryz.isAgg0
 z0 := Tryz.sizeOf0
 v0 := Tryz.zeroValue0
 i0 := by kernel_rfl
 t2 := Tryz.underlying2
 a2 := Tryz.isAgg2
 z2 := Tryz.sizeOf2
 v2 := Tryz.zeroValue2
 i2 := by kernel_rfl
 t3 := Tryz.underlying3
 a3 := Tryz.isAgg3
 z3 := Tryz.sizeOf3
 v3 := Tryz.zeroValue3
 i3 := by kernel_rfl
 t4 := Tryz.underlying4
 a4 := Tryz.isAgg4
 z4 := Tryz.sizeOf4
 v4 := Tryz.zeroValue4
 i4 := by kernel_rfl
 t5 := Tryz.underlying5
 a5 := Tryz.isAgg5
 z5 := Tryz.sizeOf5
 v5 := Tryz.zeroValue5
 i5 := by kernel_rfl
 t9 := Tryz.underlying9
 a9 := Tryz.isAgg9
 z9 := Tryz.sizeOf9
 v9 := Tryz.zeroValue9
 i9 := by kernel_rfl
 t20 := Tryz.underlying20
 a20 := Tryz.isAgg20
 z20 := Tryz.sizeOf20
 v20 := Tryz.zeroValue20
 i20 := by kernel_rfl
 t21 := Tryz.underlying21
 a21 := Tryz.isAgg21
 z21 := Tryz.sizeOf21
 v21 := Tryz.zeroValue21
 i21 := by kernel_rfl
 t22 := Tryz.underlying141
 a22 := Tryz.isAgg141
 z22 := Tryz.sizeOf141
 v22 := Tryz.zeroValue141
 i22 := by kernel_rfl
 t24 := Tryz.underlying108
 a24 := Tryz.isAgg108
 z24 := Tryz.sizeOf108
 v24 := Tryz.zeroValue108
 i24 := by kernel_rfl
 t25 := Tryz.underlying142
 a25 := Tryz.isAgg142
 z25 := Tryz.sizeOf142
 v25 := Tryz.zeroValue142
 i25 := by kernel_rfl
 t34 := Tryz.underlying196
 a34 := Tryz.isAgg196
 z34 := Tryz.sizeOf196
 v34 := Tryz.zeroValue196
 i34 := by kernel_rfl
 c34 := by kernel_rfl
 t36 := Tryz.underlying167
 a36 := Tryz.isAgg167
 z36 := Tryz.sizeOf167
 v36 := Tryz.zeroValue167
 i36 := by kernel_rfl
 t37 := Tryz.underlying92
 a37 := Tryz.isAgg92
 z37 := Tryz.sizeOf92
 v37 := Tryz.zeroValue92
 i37 := by kernel_rfl
 t39 := Tryz.underlying198
 a39 := Tryz.isAgg198
 z39 := Tryz.sizeOf198
 v39 := Tryz.zeroValue198
 i39 := by kernel_rfl
 t44 := Tryz.underlying210
 a44 := Tryz.isAgg210
 z44 := Tryz.sizeOf210
 v44 := Tryz.zeroValue210
 i44 := by kernel_rfl
 t47 := Tryz.underlying138
 a47 := Tryz.isAgg138
 z47 := Tryz.sizeOf138
 v47 := Tryz.zeroValue138
 i47 := by kernel_rfl
 t48 := Tryz.underlying218
 a48 := Tryz.isAgg218
 z48 := Tryz.sizeOf218
 v48 := Tryz.zeroValue218
 i48 := by kernel_rfl
 t50 := Tryz.underlying220
 a50 := Tryz.isAgg220
 z50 := Tryz.sizeOf220
 v50 := Tryz.zeroValue220
 i50 := by kernel_rfl
 t52 := Tryz.underlying162
 a52 := Tryz.isAgg162
 z52 := Tryz.sizeOf162
 v52 := Tryz.zeroValue162
 i52 := by kernel_rfl
 t55 := Tryz.underlying165
 a55 := Tryz.isAgg165
 z55 := Tryz.sizeOf165
 v55 := Tryz.zeroValue165
 i55 := by kernel_rfl
 t59 := Tryz.underlying192
 a59 := Tryz.isAgg192
 z59 := Tryz.sizeOf192
 v59 := Tryz.zeroValue192
 i59 := by kernel_rfl
 t60 := Tryz.underlying193
 a60 := Tryz.isAgg193
 z60 := Tryz.sizeOf193
 v60 := Tryz.zeroValue193
 i60 := by kernel_rfl
 t61 := Tryz.underlying194
 a61 := Tryz.isAgg194
 z61 := Tryz.sizeOf194
 t65 := Tryz.underlying216
 a65 := Tryz.isAgg216
 z65 := Tryz.sizeOf216
 v65 := Tryz.zeroValue216
 i65 := by kernel_rfl
 t66 := Tryz.underlying217
 a66 := Tryz.isAgg217
 z66 := Tryz.sizeOf217
 v66 := Tryz.zeroValue217
 i66 := by kernel_rfl
 t67 := Tryz.underlying105
 a67 := Tryz.isAgg105
 z67 := Tryz.sizeOf105
 v67 := Tryz.zeroValue105
 i67 := by kernel_rfl
 g0 := by kernel_rfl
 m0 := by kernel_rfl
 g1 := by kernel_rfl
 m1 := by kernel_rfl
 g2 := by kernel_rfl
 m2 := by kernel_rfl
 g3 := by kernel_rfl
 m3 := by kernel_rfl
 g4 := by kernel_rfl
 m4 := by kernel_rfl }
open Go.RowKit in
theorem Tryz.strconv_ParseUint_10_at64_ok (s : ByteArray) (hmax : s.size ≤ 9223372036854775806) (u : Nat) (h : Lib.parseUintB 64 s.data.toList = .ok u) (w : World) :
  Calls Tryz.prog 124 #[.string s, .int .i64 10, .int .i64 64] w fun e w' => e = .returned (.tuple #[.int .u64 u, .nilIface]) ∧ (w' = w ∨ w' = Lib.bytesWorld w 5 s) := Any.strconv_ParseUint_10_at64_ok Tryz.laysPu14 s hmax u h w
open Go.RowKit in
theorem Tryz.strconv_ParseUint_10_at64_syntax (s : ByteArray) (hlim : s.size ≤ 281474976710656) (h : Lib.parseUintB 64 s.data.toList = Go.Lib.NumEnd.syntax) (ev : Value) (w : World) (hv : w.cell? ⟨2, 0, none⟩ = some ev) (hev : ev = .nilIface ∨ ∃ te pe, ev = .iface te pe) :
  Calls Tryz.prog 124 #[.string s, .int .i64 10, .int .i64 64] w fun e w' => ∃ N, e = .returned (.tuple #[.int .u64 0, .iface 198 (.pointer (some ⟨N, 0, none⟩))]) ∧ w.heap.size ≤ N ∧ w'.heap[N]? = some (.cells #[.string ⟨#[80, 97, 114, 115, 101, 85, 105, 110, 116]⟩, .string s, ev] 210 (0, 0)) ∧ Below w.heap.size w w' := Any.strconv_ParseUint_10_at64_syntax Tryz.laysPu14 s hlim h ev w hv hev
open Go.RowKit in
theorem Tryz.strconv_ParseUint_10_at64_range (s : ByteArray) (hlim : s.size ≤ 281474976710656) (h : Lib.parseUintB 64 s.data.toList = .range) (ev : Value) (w : World) (hv : w.cell? ⟨3, 0, none⟩ = some ev) (hev : ev = .nilIface ∨ ∃ te pe, ev = .iface te pe) :
  Calls Tryz.prog 124 #[.string s, .int .i64 10, .int .i64 64] w fun e w' => ∃ N, e = .returned (.tuple #[.int .u64 18446744073709551615, .iface 198 (.pointer (some ⟨N, 0, none⟩))]) ∧ w.heap.size ≤ N ∧ w'.heap[N]? = some (.cells #[.string ⟨#[80, 97, 114, 115, 101, 85, 105, 110, 116]⟩, .string s, ev] 210 (0, 0)) ∧ Below w.heap.size w w' := Any.strconv_ParseUint_10_at64_range Tryz.laysPu14 s hlim h ev w hv hev
def Tryz.lays144_ren : Go.Shelf.Ren := ⟨fun | 144 => 59 | 143 => 105 | 219 => 144 | 217 => 123 | 225 => 172 | 224 => 173 | 267 => 174 | 266 => 157 | 314 => 193 | n => n, fun | 9 => 9 | 4 => 4 | 3 => 3 | 5 => 5 | 46 => 167 | 146 => 206 | 51 => 193 | n => n, fun | 1 => 0 | n => n⟩
theorem Tryz.lays144 : Go.Proofs.Lays.n144 Tryz.prog Tryz.lays144_ren := {
 mixed := by kernel_rfl
 f143 := Tryz.func105.trans (congrArg some (by kernel_rfl))
 f144 := Tryz.func59.trans (congrArg some (by kernel_rfl))
 f217 := Tryz.func123.trans (congrArg some (by kernel_rfl))
 f219 := Tryz.func144.trans (congrArg some (by kernel_rfl))
 f224 := Tryz.func173.trans (congrArg some (by kernel_rfl))
 f225 := Tryz.func172.trans (congrArg some (by kernel_rfl))
 f266 := Tryz.func157.trans (congrArg some (by kernel_rfl))
 f267 := Tryz.func174.trans (congrArg some (by kernel_rfl))
 f314 := Tryz.func193.trans (congrArg some (by kernel_rfl))
 t3 := Tryz.underlying3
 a3 := Tryz.isAgg3
 z3 := Tryz.sizeOf3
 v3 := Tryz.zeroValue3
 t4 := Tryz.underlying4
 a4 := Tryz.isAgg4
 z4 := Tryz.sizeOf4
 v4 := Tryz.zeroValue4
 t5 := Tryz.underlying5
 a5 := Tryz.isAgg5
 z5 := Tryz.sizeOf5
 v5 := Tryz.zeroValue5
 t9 := Tryz.underlying9
 a9 := Tryz.isAgg9
 z9 := Tryz.sizeOf9
 v9 := Tryz.zeroValue9
 t46 := Tryz.underlying167
 a46 := Tryz.isAgg167
 z46 := Tryz.sizeOf167
 v46 := Tryz.zeroValue167
 t51 := Tryz.underlying193
 a51 := Tryz.isAgg193
 z51 := Tryz.sizeOf193
 v51 := Tryz.zeroValue193
 t146 := Tryz.underlying206
 a146 := Tryz.isAgg206
 z146 := Tryz.sizeOf206
 v146 := Tryz.zeroValue206
 g1 := by kernel_rfl }
open Go.RowKit Go.Lib in
theorem Tryz.strings_Contains (s sub : ByteArray) (m : Int) (w : World) (hs : s.size < 4294967281) (hm : w.cell? ⟨0, 0, none⟩ = some (.int .i64 m)) :
  Calls Tryz.prog 59 #[.string s, .string sub] w fun e w' => e = .returned (.bool (Lib.contains s.data.toList sub.data.toList)) ∧ w' = w := Any.strings_Contains Tryz.lays144 s sub m w hs hm
def Tryz.laysM144_ren : Go.Shelf.Ren := ⟨fun | 144 => 59 | 143 => 105 | 219 => 144 | 217 => 123 | 225 => 172 | 224 => 173 | 267 => 174 | 266 => 157 | 314 => 193 | n => n, fun | 9 => 9 | 4 => 4 | 3 => 3 | 5 => 5 | 46 => 167 | 146 => 206 | 51 => 193 | n => n, fun | 1 => 0 | n => n⟩
theorem Tryz.laysM144 : Go.Proofs.LaysM.n144 Tryz.prog Tryz.laysM144_ren := {
 mixed := by kernel_rfl
 f143 := Tryz.func105.trans (congrArg some (by kernel_rfl))
 f144 := Tryz.func59.trans (congrArg some (by kernel_rfl))
 f217 := Tryz.func123.trans (congrArg some (by kernel_rfl))
 f219 := Tryz.func144.trans (congrArg some (by kernel_rfl))
 f224 := Tryz.func173.trans (congrArg some (by kernel_rfl))
 f225 := Tryz.func172.trans (congrArg some (by kernel_rfl))
 f266 := Tryz.func157.trans (congrArg some (by kernel_rfl))
 f267 := Tryz.func174.trans (congrArg some (by kernel_rfl))
 f314 := Tryz.func193.trans (congrArg some (by kernel_rfl))
 t3 := Tryz.underlying3
 a3 := Tryz.isAgg3
 z3 := Tryz.sizeOf3
 v3 := Tryz.zeroValue3
 t4 := Tryz.underlying4
 a4 := Tryz.isAgg4
 z4 := Tryz.sizeOf4
 v4 := Tryz.zeroValue4
 t5 := Tryz.underlying5
 a5 := Tryz.isAgg5
 z5 := Tryz.sizeOf5
 v5 := Tryz.zeroValue5
 t9 := Tryz.underlying9
 a9 := Tryz.isAgg9
 z9 := Tryz.sizeOf9
 v9 := Tryz.zeroValue9
 t46 := Tryz.underlying167
 a46 := Tryz.isAgg167
 z46 := Tryz.sizeOf167
 v46 := Tryz.zeroValue167
 t51 := Tryz.underlying193
 a51 := Tryz.isAgg193
 z51 := Tryz.sizeOf193
 v51 := Tryz.zeroValue193
 t146 := Tryz.underlying206
 a146 := Tryz.isAgg206
 z146 := Tryz.sizeOf206
 v146 := Tryz.zeroValue206
 g1 := by kernel_rfl
 i3 := by kernel_rfl
 i4 := by kernel_rfl
 i5 := by kernel_rfl
 i9 := by kernel_rfl
 i46 := by kernel_rfl
 i51 := by kernel_rfl
 i146 := by kernel_rfl
 m1 := by kernel_rfl
 s1_3 := fun w h => Go.Proofs.cell_of_shapedOpen_int (zero := #[.int .i64 0]) (t := 3) h (of_decide_eq_true (by kernel_rfl)) (by kernel_rfl) rfl (by kernel_rfl) (by kernel_rfl) Tryz.underlying3 }
end Go.Proofs
end
section
namespace Go.Proofs.YtnjonahoheopnaaGreatDoor
open Go.Av Go.RowKit
theorem vm {P : Program} {f : FuncId} {fn : Func} {c : Code} (hf : P.funcs[f]? = some fn) (hn : (fn.name == "runtime.NumGoroutine") = false) (hb : fn.body = some c) {vs : Array Value} {w : World} {Q : Value → World → Prop}
  (h : Calls P f vs w fun e w' => ∃ v, e = .returned v ∧ Q v w') : qM P (callFunc f vs) w Q := by
 unfold qM
 rw [qeL hf hn hb vs w]
 exact callsIn_wide.2 h
theorem qar {vs : Array Value} (h : 2 = vs.size) : ∃ x y, vs = #[x, y] := by
 obtain ⟨l⟩ := vs
 match l, h with
 | [x, y], _ => exact ⟨x, y, rfl⟩
theorem qoL [Lent] {args : List AV} {H H' : AH} {r : AV} {C : qb} {μ : MMap} {w : World} {vs : Array Value} (hr : qaG args H = some (r, H')) (ha : qg C μ args vs) (hw : Wld C μ H w) :
  qM Tryz.prog (callFunc 77 vs) w (qU C μ H w r H') := by
 unfold qaG at hr
 split at hr
 case h_2 => cases hr
 rename_i s c
 cases hr
 obtain ⟨hl, hv⟩ := ha
 obtain ⟨x, y, rfl⟩ := qar hl
 have h0 := hv 0 _ _ rfl rfl
 have h1 := hv 1 _ _ rfl rfl
 cases h0
 cases h1
 refine vm Tryz.func77 (by rfl) rfl ((Tryz.strings_IndexByte ⟨s.toArray⟩ c w).mono fun e w' ⟨e1, e2⟩ => ⟨_, e1, ?_⟩)
 subst e2
 exact ⟨C, μ, .int _ _, hw, Ext.refl (qps _)⟩
theorem qjn [Lent] (hm : ∃ m, Lent.l 0 0 = some (.int .i64 m)) {args : List AV} {H H' : AH} {r : AV} {C : qb} {μ : MMap} {w : World} {vs : Array Value} (hr : yI args H = some (r, H')) (ha : qg C μ args vs) (hw : Wld C μ H w) :
  qM Tryz.prog (callFunc 59 vs) w (qU C μ H w r H') := by
 unfold yI at hr
 split at hr
 case h_2 => cases hr
 rename_i s t
 split at hr
 case isFalse => cases hr
 rename_i hlt
 cases hr
 obtain ⟨hl, hv⟩ := ha
 obtain ⟨x, y, rfl⟩ := qar hl
 have h0 := hv 0 _ _ rfl rfl
 have h1 := hv 1 _ _ rfl rfl
 cases h0
 cases h1
 obtain ⟨m, hm⟩ := hm
 refine vm Tryz.func59 (by rfl) rfl ((Tryz.strings_Contains ⟨s.toArray⟩ ⟨t.toArray⟩ m w (by simpa [ByteArray.size] using hlt) (hw.lnt.1 0 0 _ hm).1).mono fun e w' ⟨e1, e2⟩ => ⟨_, e1, ?_⟩)
 subst e2
 exact ⟨C, μ, .bool _, hw, Ext.refl (qps _)⟩
theorem z6 [Lent] {H : AH} {r : AV} {C : qb} {μ : MMap} {w w' : World} {v : Value} (hw : Wld C μ H w) (hb : Below w.heap.size w w') (hr : Rep C μ r v) : qU C μ H w r H v w' :=
 ⟨C, μ, hr, hw.world hb.size (fun b hlt => hb.block b hlt), ⟨hb.os, hb.tape, hb.output, hb.size, fun _ _ _ h => h, fun _ m _ h => ⟨m, h, .refl m⟩, fun b hlt hl => ⟨hb.block b hlt, hl, rfl⟩, qps _⟩⟩
def qg3 [Lent] (g : Nat) : Prop := ∃ ev, Lent.l g 0 = some ev ∧ (ev = .nilIface ∨ ∃ te pe, ev = .iface te pe)
theorem qmx [Lent] (hS : qg3 2) (hR : qg3 3) {args : List AV} {H H' : AH} {r : AV} {C : qb} {μ : MMap} {w : World} {vs : Array Value} (hr : qef args H = some (r, H')) (ha : qg C μ args vs) (hw : Wld C μ H w) :
  qM Tryz.prog (callFunc 124 vs) w (qU C μ H w r H') := by
 unfold qef at hr
 split at hr
 case h_2 => cases hr
 rename_i s
 split at hr
 case isFalse => cases hr
 rename_i hlt
 obtain ⟨hl, hv⟩ := ha
 obtain ⟨x, y, z, rfl⟩ : ∃ x y z, vs = #[x, y, z] := by
  obtain ⟨l⟩ := vs
  match l, hl with
  | [x, y, z], _ => exact ⟨x, y, z, rfl⟩
 have h0 := hv 0 _ _ rfl rfl
 have h1 := hv 1 _ _ rfl rfl
 have h2 := hv 2 _ _ rfl rfl
 cases h0
 cases h1
 cases h2
 have hsz : (⟨s.toArray⟩ : ByteArray).size ≤ 281474976710656 := by simpa [ByteArray.size] using hlt
 split at hr
 ·rename_i u hu
  cases hr
  refine vm Tryz.func124 (by rfl) rfl ((Tryz.strconv_ParseUint_10_at64_ok ⟨s.toArray⟩ (by omega) u hu w).mono fun e w' ⟨e1, e2⟩ => ⟨_, e1, ?_⟩)
  have hrep : Rep C μ (.tup [.int .u64 u, .nilI]) (.tuple #[.int .u64 u, .nilIface]) := Rep.tup _ [.int .u64 u, .nilIface] rfl fun i a v ha hv => by
   rcases i with _ | _ | i
   ·simp at ha hv; subst ha; subst hv; exact .int _ _
   ·simp at ha hv; subst ha; subst hv; exact .nilI
   ·simp at ha
  rcases e2 with rfl | rfl
  ·exact ⟨C, μ, hrep, hw, Ext.refl (qps _)⟩
  ·exact z6 hw (Lib.bytesWorld_below _ _ _) hrep
 all_goals
  rename_i hu
  cases hr
  obtain ⟨ev, hS, hS2⟩ := hS
  obtain ⟨er, hR, hR2⟩ := hR
  first
   | refine vm Tryz.func124 (by rfl) rfl ((Tryz.strconv_ParseUint_10_at64_syntax ⟨s.toArray⟩ hsz hu ev w (hw.lnt.1 _ _ _ hS).1 hS2).mono fun e w' ⟨N, e1, _, _, e2⟩ => ⟨_, e1, ?_⟩)
   | refine vm Tryz.func124 (by rfl) rfl ((Tryz.strconv_ParseUint_10_at64_range ⟨s.toArray⟩ hsz hu er w (hw.lnt.1 _ _ _ hR).1 hR2).mono fun e w' ⟨N, e1, _, _, e2⟩ => ⟨_, e1, ?_⟩)
  refine z6 hw e2 (Rep.tup _ [_, _] rfl fun i a v ha hv => ?_)
  rcases i with _ | _ | i
  ·simp at ha hv; subst ha; subst hv; exact .int _ _
  ·simp at ha hv; subst ha; subst hv; exact .ifc _ _ _ (.junk _)
  ·simp at ha
end Go.Proofs.YtnjonahoheopnaaGreatDoor
end
section
namespace Go.Av
variable {P : Program} {C : qb} {μ : MMap} {H H' : AH} {w w' : World}
theorem Wld.grow [Lent] (h : Wld C μ H w) {id : Nat} {blk blk' : ABlk} {m m' : MI} (hi : H[id]? = some blk) (hl : blk.live = true) (hl' : blk'.live = true) (hm : μ id = some m) (hmm : m.le m') (hsz : w.heap.size ≤ w'.heap.size)
  (hnew : ∀ x, m'.has x → m.has x ∨ (w.heap.size ≤ x ∧ x < w'.heap.size)) (hb : ∀ k, k < w.heap.size → ¬ m.has k → w'.heap[k]? = w.heap[k]?) (hr : qV C (upd μ id m') w' m' blk') (hfr : blk'.Free)
  (ho : w'.os = w.os) (ht : w'.tape = w.tape) (hu : w'.output = w.output) :
  Wld C (upd μ id m') (H.set id blk') w' ∧ Ext H.length C μ H w C (upd μ id m') (H.set id blk') w' := by
 have hlen : id < H.length := (qpn.1 hi).1
 have hself : upd μ id m' id = some m' := by unfold upd; rw [if_pos rfl]
 have hoth : ∀ j, j ≠ id → upd μ id m' j = μ j := fun j hj => by unfold upd; rw [if_neg hj]
 have hmu : MLe μ (upd μ id m') := by
  intro j mj hj
  by_cases e : j = id
  ·subst e; rw [hm] at hj; cases hj; exact ⟨m', hself, hmm⟩
  ·exact ⟨mj, by rw [hoth j e]; exact hj, .refl _⟩
 have hcell : ∀ b o v, w.cell? ⟨b, o, none⟩ = some v → ¬ m.has b → w'.cell? ⟨b, o, none⟩ = some v ∧ w'.frozen? ⟨b, o, none⟩ = w.frozen? ⟨b, o, none⟩ := by
  intro b o v hc hnb
  have hlt : b < w.heap.size := World.block_lt_of_cell? w _ hc
  have := hb b hlt hnb
  exact ⟨by simp only [World.cell?, this] at hc ⊢; exact hc, by simp only [World.frozen?, this]⟩
 have aux : ∀ (j : Nat) bj, (H.set id blk')[j]? = some bj → (j = id ∧ bj = blk') ∨ (j ≠ id ∧ H[j]? = some bj) := by
  intro j bj hj
  rw [qpx] at hj
  split at hj
  ·rename_i e; subst e
   try rw [if_pos hlen] at hj
   cases hj; exact .inl ⟨rfl, rfl⟩
  ·rename_i e; exact .inr ⟨fun e' => e e'.symm, hj⟩
 have apart : ∀ (j : Nat) bj mj, j ≠ id → H[j]? = some bj → bj.live = true → μ j = some mj → ∀ x, mj.has x → x < w.heap.size ∧ ¬ m.has x := by
  intro j bj mj hne e hbl f1 x hx
  exact ⟨(h.liveH e hbl f1 x hx).1, fun he => hne (h.inj j id bj _ mj m e hi hbl hl f1 hm x hx he)⟩
 refine ⟨⟨fun b o v hc => ?_, fun j mj hj => ?_, fun j hj => ?_, fun j b hj hbl => ?_, fun j d sz rs hj => ?_, fun i i' b b' m1 m2 e1 e2 e3 e4 e5 e6 x e7 e8 => ?_, h.free.set hfr, ?_⟩,
  ⟨ho, ht, hu, hsz, fun _ _ _ h => h, fun i mi _ hmi => hmu i mi hmi, fun b hlt hnl => ?_, by simp⟩⟩
 ·exact (hcell b o v (h.cl b o v hc) fun e => by rw [(h.liveH hi hl hm b e).2.1 o] at hc; cases hc).1
 ·simp only [List.length_set]
  by_cases e : j = id
  ·subst e; exact hlen
  ·rw [hoth j e] at hj; exact h.dom j mj hj
 ·rcases aux j _ hj with ⟨_, e⟩ | ⟨hne, e⟩
  ·rw [← e] at hl'; cases hl'
  ·rw [hoth j hne]; exact h.res j e
 ·rcases aux j b hj with ⟨rfl, rfl⟩ | ⟨hne, e⟩
  ·refine ⟨fun hn => (by rw [hself] at hn; cases hn), fun mj hmj => ?_⟩
   rw [hself] at hmj; cases hmj
   refine ⟨fun x hx => ?_, hr⟩
   rcases hnew x hx with hx | ⟨hx1, hx2⟩
   ·obtain ⟨q1, q2⟩ := h.liveH hi hl hm x hx
    exact ⟨Nat.lt_of_lt_of_le q1 hsz, q2⟩
   ·refine ⟨hx2, fun o => ?_, h.lent_none hx1⟩
    cases hc : C x o with
    | none => rfl
    | some v => exact absurd (h.block_lt hc) (by omega)
  ·rw [hoth j hne]
   refine ⟨(h.live j b e hbl).1, fun mj f1 => ?_⟩
   obtain ⟨f2, f4⟩ := (h.live j b e hbl).2 mj f1
   have q := fun x (hx : mj.has x) => apart j b mj hne e hbl f1 x hx
   exact ⟨fun x hx => ⟨Nat.lt_of_lt_of_le (f2 x hx).1 hsz, (f2 x hx).2⟩, f4.monoG (fun _ _ _ h => h) hmu (fun x hx => hb x (q x hx).1 (q x hx).2)⟩
 ·rcases aux j _ hj with ⟨_, e⟩ | ⟨hne, e⟩
  ·rw [← e] at hl'; cases hl'
  ·rw [hoth j hne]
   refine ⟨(h.froz j d sz rs e).1, fun mj f1 => ?_⟩
   exact ((h.froz j d sz rs e).2 mj f1).monoG (fun _ _ _ h => h) hmu (.refl _)
 ·have cross : ∀ (j : Nat) bj mj, j ≠ id → H[j]? = some bj → bj.live = true → μ j = some mj → ∀ x, m'.has x → ¬ mj.has x := by
   intro j bj mj hne e hbl f1 x hx0 hxj
   obtain ⟨f2, f3⟩ := apart j bj mj hne e hbl f1 x hxj
   rcases hnew x hx0 with hx | ⟨hx1, _⟩
   ·exact f3 hx
   ·omega
  rcases aux i b e1 with ⟨rfl, rfl⟩ | ⟨hne, e⟩ <;> rcases aux i' b' e2 with ⟨rfl, rfl⟩ | ⟨hne', e'⟩
  ·rfl
  ·rw [hself] at e5; cases e5; rw [hoth _ hne'] at e6
   exact (cross i' b' m2 hne' e' e4 e6 x e7 e8).elim
  ·rw [hoth _ hne] at e5; rw [hself] at e6; cases e6
   exact (cross i b m1 hne e e3 e5 x e8 e7).elim
  ·rw [hoth _ hne] at e5; rw [hoth _ hne'] at e6
   exact h.inj i i' b b' m1 m2 e e' e3 e4 e5 e6 x e7 e8
 ·refine ⟨fun b o v hc => ?_, fun hu' b o v hn hc => ?_, fun b hb' => h.lnt.2.2 b (Nat.le_trans hsz hb')⟩
  ·have hnm : ¬ m.has b := fun e => by rw [(h.liveH hi hl hm b e).2.2.1 o] at hc; cases hc
   refine ⟨(hcell b o v (h.lnt.1 b o v hc).1 hnm).1, fun ob hk => ?_⟩
   rw [hb b (World.block_lt_of_cell? w _ (h.lnt.1 b o v hc).1) hnm]
   exact (h.lnt.1 b o v hc).2 ob hk
  ·rw [(hcell b o v (h.cl b o v hc) fun e => by rw [(h.liveH hi hl hm b e).2.1 o] at hc; cases hc).2]
   exact h.lnt.2.1 hu' b o v hn hc
 ·have hnm : ¬ m.has b := fun e => hnl ⟨id, blk, m, hi, hl, hm, e⟩
  refine ⟨hb b hlt hnm, fun hl2 => ?_, rfl⟩
  obtain ⟨j, bj, mj, e1, e2, e3, e5⟩ := hl2
  rcases aux j bj e1 with ⟨rfl, rfl⟩ | ⟨hne, e⟩
  ·rw [hself] at e3; cases e3
   rcases hnew b e5 with hx | ⟨hx, _⟩
   ·exact hnm hx
   ·omega
  ·rw [hoth j hne] at e3
   exact hnl ⟨j, bj, mj, e, e2, e3, e5⟩
def MI.plus (m : MI) (g : Option Nat) : MI := { m with D := fun b o => match m.D b o with | some x => some x | none => if g = some b then some (.bool false) else none }
theorem MI.plus_le (m : MI) (g : Option Nat) : m.le (m.plus g) := ⟨rfl, rfl, rfl, rfl, fun b o v h => by simp only [MI.plus, h]⟩
theorem MI.plus_has {m : MI} {g : Option Nat} {x : Nat} (h : (m.plus g).has x) : m.has x ∨ g = some x := by
 rcases h with e | ⟨o, e⟩
 ·exact .inl (.inl e)
 ·simp only [MI.plus] at e
  split at e
  ·rename_i v hv; exact .inl (.inr ⟨o, by rw [hv]; exact fun h => by cases h⟩)
  ·split at e
   ·rename_i hg; exact .inr hg
   ·exact absurd rfl e
theorem MI.has_plus {m : MI} {g : Option Nat} {x : Nat} (h : g = some x) : (m.plus g).has x := by
 refine .inr ⟨0, ?_⟩
 simp only [MI.plus]
 split
 ·exact fun h => by cases h
 ·rw [if_pos h]; exact fun h => by cases h
end Go.Av
end
section
namespace Go.Proofs.YtnjonahoheopnaaGreatDoor
open Go.RowKit Go.Lib
def qaL (w : World) (v v' : Value) : Prop := v'.ownBlock = v.ownBlock ∨ ∃ g, v'.ownBlock = some g ∧ w.heap.size ≤ g
structure Kept2 (w w' : World) (b : Nat) (v : Value) : Prop where
 os : w'.os = w.os
 tape : w'.tape = w.tape
 output : w'.output = w.output
 size : w.heap.size ≤ w'.heap.size
 block : ∀ k, k < w.heap.size → k ≠ b → some k ≠ v.ownBlock → w'.heap[k]? = w.heap[k]?
theorem qjs {P : Program} (w : World) (t ty e : TypeId) (i : TypeInfo) (z : Value) (ht : P.underlying t = some (.slice e)) (hi : P.info? e = some i) (hz : i.zero = some z) (hsize : i.size = 1) (hby : i.bytes = 1) (hzs : z.cells.size = 1)
  (v : Value) (n : Nat) (xs : List Value) (hown : w.ownsRowF 0 e 1 v n xs) (a : Addr) (m c : Nat) (news : List Value) (hl : news.length = m * 1) (hnews : ∀ j u, news[j]? = some u → w.cell? (a.add j) = some u) (h1 : ∀ u ∈ news, u.oneCell' = true)
  (hb : n + m ≤ 140737488355328) :
  ∃ v' w', (Builtin.append_ #[t, t] ty #[v, .slice (some a) m c]).run P w = .ok v' w' ∧ w'.ownsRowF 0 e 1 v' (n + m) (xs ++ news) ∧ w.grownBy w' v.ownBlock ∧ qaL w v v' ∧ (v' = .slice none 0 0 ↔ v = .slice none 0 0 ∧ m = 0) := by
 obtain ⟨v', w', hr, h2, h3, h4⟩ := run_append_ownF (P := P) w 0 t ty e i z 1 1 ht hi hz hsize hby hzs (by decide) v n xs hown a m c news hl hnews h1 (by unfold maxLen; omega) (by omega) (Nat.zero_le _)
 refine ⟨v', w', hr, h2, h3, ?_, h4⟩
 rcases hown.2 with ⟨rfl, rfl⟩ | ⟨g, cap, cur, fz, rfl, _, hg, hfz, hnc, hcm, hcs, htake⟩
 ·obtain ⟨v2, w2, hr2, h22, _, _⟩ := run_append_ownF (P := P) w w.heap.size t ty e i z 1 1 ht hi hz hsize hby hzs (by decide) (.slice none 0 0) 0 xs ⟨hown.1, .inl ⟨rfl, rfl⟩⟩ a m c news hl hnews h1 (by unfold maxLen; omega) (by omega) (qps _)
  rw [hr] at hr2
  cases hr2
  cases hv : v'.ownBlock with
  | none => exact .inl (by rw [hv]; rfl)
  | some g => exact .inr ⟨g, hv, (h22.lt g hv).1⟩
 ·by_cases hroom : n + m ≤ cap
  ·have hr2 := run_append_roomF (P := P) w t ty e i ht hi g n cap cur fz hg (by rw [hsize]; exact hfz) a m c news (by rw [hsize]; exact hl) hnews h1 hroom (by rw [hsize, hl, hcs]; omega)
   rw [hr] at hr2
   cases hr2
   exact .inl rfl
  ·have holds : ∀ j u, xs[j]? = some u → w.cell? ((⟨g, 0, none⟩ : Addr).add j) = some u := hown.cells (g := g) rfl
   have hr2 := run_append_grow (P := P) w t ty e i z ht hi hz ⟨g, 0, none⟩ n cap xs (by rw [hsize]; exact hown.1) holds a m c news (by rw [hsize]; exact hl) hnews (by omega) (by omega) (growslice_fits (by omega) (by rw [hby]; omega))
   rw [hr] at hr2
   cases hr2
   exact .inr ⟨_, rfl, qps _⟩
theorem qij {P : Program} (w : World) (t u ty e : TypeId) (i : TypeInfo) (ht : P.underlying t = some (.slice e)) (hu : P.underlying u = some .string) (hi : P.info? e = some i) (hz : i.zero = some (.int .u8 0)) (hsize : i.size = 1) (hby : i.bytes = 1)
  (v : Value) (n : Nat) (xs : List Value) (hown : w.ownsRowF 0 e 1 v n xs) (s : ByteArray) (hb : n + s.size ≤ 140737488355328) :
  ∃ v' w', (Builtin.append_ #[t, u] ty #[v, .string s]).run P w = .ok v' w' ∧ w'.ownsRowF 0 e 1 v' (n + s.size) (xs ++ strCells s) ∧ w.grownBy w' v.ownBlock ∧ qaL w v v' ∧ (v' = .slice none 0 0 ↔ v = .slice none 0 0 ∧ s.size = 0) := by
 obtain ⟨v', w', hr, h2, h3, h4⟩ := run_append_own_stringF (P := P) w 0 t u ty e i ht hu hi hz hsize hby v n xs hown s (by unfold maxLen; omega) hb (Nat.zero_le _)
 refine ⟨v', w', hr, h2, h3, ?_, h4⟩
 rcases hown.2 with ⟨rfl, rfl⟩ | ⟨g, cap, cur, fz, rfl, _, hg, hfz, hnc, hcm, hcs, htake⟩
 ·obtain ⟨v2, w2, hr2, h22, _, _⟩ := run_append_own_stringF (P := P) w w.heap.size t u ty e i ht hu hi hz hsize hby (.slice none 0 0) 0 xs ⟨hown.1, .inl ⟨rfl, rfl⟩⟩ s (by unfold maxLen; omega) hb (qps _)
  rw [hr] at hr2
  cases hr2
  cases hv : v'.ownBlock with
  | none => exact .inl (by rw [hv]; rfl)
  | some g => exact .inr ⟨g, hv, (h22.lt g hv).1⟩
 ·by_cases hroom : n + s.size ≤ cap
  ·have hr2 := run_append_room_stringF (P := P) w t u ty e i ht hu hi hsize g n cap cur fz hg (by simpa using hfz) s hroom (by omega)
   rw [hr] at hr2
   cases hr2
   exact .inl rfl
  ·have holds : ∀ j u, xs[j]? = some u → w.cell? ((⟨g, 0, none⟩ : Addr).add j) = some u := hown.cells (g := g) rfl
   have hr2 := run_append_grow_string (P := P) w t u ty e i (.int .u8 0) ht hu hi hz ⟨g, 0, none⟩ n cap xs (by rw [hsize]; exact hown.1) holds s (by omega) (by omega) (growslice_fits (by omega) (by rw [hby]; omega))
   rw [hr] at hr2
   cases hr2
   exact .inr ⟨_, rfl, qps _⟩
theorem qiw {P : Program} {w : World} {ops : Array Oper} {rest : List Oper} {o : Oper} {a : Act} {Q : Exit → Act → World → Prop} (hgd : o.guard = none) (s x : Operand) (t : TypeId)
  (ho : o.op = .call { callee := .builtin .append, args := #[s, x], argTypes := #[t, t] })
  (e : TypeId) (i : TypeInfo) (z : Value) (ht : P.underlying t = some (.slice e)) (hi : P.info? e = some i) (hz : i.zero = some z)
  (hsize : i.size = 1) (hby : i.bytes = 1) (hzs : z.cells.size = 1)
  (v : Value) (n : Nat) (xs : List Value) (hs : a.eval s = v) (hown : w.ownsRowF 0 e 1 v n xs)
  (ad : Addr) (m c : Nat) (news : List Value) (hx : a.eval x = .slice (some ad) m c) (hl : news.length = m * 1) (hnews : ∀ j u, news[j]? = some u → w.cell? (ad.add j) = some u) (h1 : ∀ u ∈ news, u.oneCell' = true)
  (hb : n + m ≤ 140737488355328)
  (h : ∀ v' w', w'.ownsRowF 0 e 1 v' (n + m) (xs ++ news) → w.grownBy w' v.ownBlock → qaL w v v' → (v' = .slice none 0 0 ↔ v = .slice none 0 0 ∧ m = 0) → wpList P ops Q rest (a.put o.dst v') w') : wpList P ops Q (o :: rest) a w := by
 refine wpList_plain hgd fun K hK => ?_
 obtain ⟨v', w', hr, h2, h3, h4, h5⟩ := qjs (P := P) w t o.type e i z ht hi hz hsize hby hzs v n xs hown ad m c news hl hnews h1 hb
 unfold Oper.wp execOp
 simp only [ho, resolve, invoke, builtin, Sem.run_bind, Sem.run_pure, Result.andThen_ok, List.map_toArray, List.map_cons, List.map_nil, hs, hx, hr]
 exact hK _ _ (h v' w' h2 h3 h4 h5)
theorem qhb {P : Program} {w : World} {ops : Array Oper} {rest : List Oper} {o : Oper} {a : Act} {Q : Exit → Act → World → Prop} (hgd : o.guard = none) (sl x : Operand) (t u : TypeId)
  (ho : o.op = .call { callee := .builtin .append, args := #[sl, x], argTypes := #[t, u] })
  (e : TypeId) (i : TypeInfo) (ht : P.underlying t = some (.slice e)) (hu : P.underlying u = some .string) (hi : P.info? e = some i) (hz : i.zero = some (.int .u8 0))
  (hsize : i.size = 1) (hby : i.bytes = 1)
  (v : Value) (n : Nat) (xs : List Value) (hs : a.eval sl = v) (hown : w.ownsRowF 0 e 1 v n xs) (s : ByteArray) (hx : a.eval x = .string s)
  (hb : n + s.size ≤ 140737488355328)
  (h : ∀ v' w', w'.ownsRowF 0 e 1 v' (n + s.size) (xs ++ strCells s) → w.grownBy w' v.ownBlock → qaL w v v' → (v' = .slice none 0 0 ↔ v = .slice none 0 0 ∧ s.size = 0) → wpList P ops Q rest (a.put o.dst v') w') : wpList P ops Q (o :: rest) a w := by
 refine wpList_plain hgd fun K hK => ?_
 obtain ⟨v', w', hr, h2, h3, h4, h5⟩ := qij (P := P) w t u o.type e i ht hu hi hz hsize hby v n xs hown s hb
 unfold Oper.wp execOp
 simp only [ho, resolve, invoke, builtin, Sem.run_bind, Sem.run_pure, Result.andThen_ok, List.map_toArray, List.map_cons, List.map_nil, hs, hx, hr]
 exact hK _ _ (h v' w' h2 h3 h4 h5)
structure BldTy (T : TypeId) : Prop where
 lies : liesAt Tryz.prog Tryz.prog.depth T (2 / Tryz.prog.cellsOf T) 0 102 1 = true
 ne : T ≠ 5
theorem qjr (b : Nat) (w : World) (h0 : w.cell? ⟨b, 0, none⟩ = some (.pointer (some ⟨b, 0, none⟩))) :
  Calls Tryz.prog 116 #[.pointer (some ⟨b, 0, none⟩)] w fun e w' => e = .returned (.tuple #[]) ∧ w' = w := by
 obtain ⟨j, hj, _⟩ := qpq.1 (show (Tryz.prog.info? 102).map (·.size) = some 2 by kernel_rfl)
 go_enter Tryz.func116, Tryz.ntmps116
 go_wp2
 rw [Lib.run_neq_ptr_same w _ Tryz.underlying100 hj]
 go_wp2
 go_end0
 exact ⟨rfl, rfl⟩
theorem qii {T : TypeId} (hT : BldTy T) (b : Nat) (w : World) (h0 : w.cell? ⟨b, 0, none⟩ = some (.pointer none)) (hsh : w.shape? b = some (T, 2)) (hfz : w.frozen? ⟨b, 0, none⟩ = false) :
  Calls Tryz.prog 116 #[.pointer (some ⟨b, 0, none⟩)] w fun e w' => e = .returned (.tuple #[]) ∧ w' = w.setCell ⟨b, 0, none⟩ (.pointer (some ⟨b, 0, none⟩)) := by
 obtain ⟨j, hj, hjs⟩ := qpq.1 (show (Tryz.prog.info? 102).map (·.size) = some 2 by kernel_rfl)
 go_enter Tryz.func116, Tryz.ntmps116
 go_wp2
 rw [Lib.run_to_unsafe w ⟨b, 0, none⟩ Tryz.underlying100 Tryz.underlying168 hj (by rw [hjs]; decide) hsh (Nat.zero_lt_succ 1)]
 simp only [Result.andThen]
 rw [Oper.upon_value]
 go_wp2
 rw [run_callFunc_extern Tryz.func153 (by kernel_rfl) (by kernel_rfl) (by kernel_rfl) (e := Extern.AbiNoEscape.same) (by kernel_rfl)]
 rw [Lib.run_noEscape]
 simp only [Result.andThen]
 rw [Oper.upon_value]
 go_wp2
 rw [Lib.run_from_unsafe w ⟨b, 0, none⟩ Tryz.underlying168 Tryz.underlying100 hj hsh hT.lies]
 simp only [Result.andThen]
 rw [Oper.upon_value]
 go_wp2
 go_end0
 exact ⟨rfl, rfl⟩
structure Only1 (w w' : World) (b : Nat) : Prop where
 os : w'.os = w.os
 tape : w'.tape = w.tape
 output : w'.output = w.output
 size : w'.heap.size = w.heap.size
 block : ∀ k, k ≠ b → w'.heap[k]? = w.heap[k]?
theorem ql7 {T : TypeId} (hT : BldTy T) (b : Nat) (p v : Value) (n : Nat) (bs : List Value) (w : World) (hbk : w.heap[b]? = some (.cells #[p, v] T (0, 0))) (hp : p = .pointer none ∨ p = .pointer (some ⟨b, 0, none⟩))
  (hown : w.ownsRowF 0 5 1 v n bs) (hne : v.ownBlock ≠ some b) :
  Calls Tryz.prog 116 #[.pointer (some ⟨b, 0, none⟩)] w fun e w' => e = .returned (.tuple #[]) ∧ w'.heap[b]? = some (.cells #[.pointer (some ⟨b, 0, none⟩), v] T (0, 0)) ∧ w'.ownsRowF 0 5 1 v n bs ∧
   Only1 w w' b := by
 have hc0 : w.cell? ⟨b, 0, none⟩ = some p := by rw [Lib.cell_of_heap hbk]; rfl
 rcases hp with rfl | rfl
 ·refine (qii hT b w hc0 (by simp [World.shape?, hbk]) (Lib.frozen_of_heap hbk 0)).mono ?_
  rintro e w' ⟨rfl, rfl⟩
  have hk : ∀ k, k ≠ b → (w.setCell ⟨b, 0, none⟩ (.pointer (some ⟨b, 0, none⟩))).heap[k]? = w.heap[k]? := fun k hk => Below.heap_setCell _ _ _ _ hk
  refine ⟨rfl, by simp [World.setCell, Array.getElem?_modify, hbk], hown.kept (row := some b) ⟨rfl, rfl, rfl, by simp [World.setCell], fun k _ hk' => hk k (fun e => hk' (by rw [e]))⟩ (.inr hne), ⟨rfl, rfl, rfl, by simp [World.setCell], hk⟩⟩
 ·refine (qjr b w hc0).mono ?_
  rintro e w' ⟨rfl, rfl⟩
  exact ⟨rfl, hbk, hown, ⟨rfl, rfl, rfl, rfl, fun _ _ => rfl⟩⟩
theorem qkY {T : TypeId} (hT : BldTy T) (b : Nat) (p v : Value) (bs : List Value) (c : Int) (w : World) (hbk0 : w.heap[b]? = some (.cells #[p, v] T (0, 0))) (hp : p = .pointer none ∨ p = .pointer (some ⟨b, 0, none⟩))
  (hown0 : w.ownsRowF 0 5 1 v bs.length bs) (hne : v.ownBlock ≠ some b) (hlen : bs.length + 1 ≤ 140737488355328) :
  Calls Tryz.prog 113 #[.pointer (some ⟨b, 0, none⟩), .int .u8 c] w fun e w' => e = .returned .nilIface ∧ ∃ v', w'.heap[b]? = some (.cells #[.pointer (some ⟨b, 0, none⟩), v'] T (0, 0)) ∧
   w'.ownsRowF 0 5 1 v' (bs.length + 1) (bs ++ [.int .u8 c]) ∧ v'.ownBlock ≠ some b ∧ Kept2 w w' b v ∧ qaL w v v' := by
 obtain ⟨i0, hi, hi2⟩ := qpq.1 (show (Tryz.prog.info? 5).map (fun i => (i.zero, i.size, i.bytes)) = some (some (.int .u8 0), 1, 1) by kernel_rfl)
 simp only [Prod.mk.injEq] at hi2
 obtain ⟨hz0, hz1, hz2⟩ := hi2
 have hlt0 : b < w.heap.size := by
  rcases Nat.lt_or_ge b w.heap.size with h' | h'
  ·exact h'
  ·simp [Array.getElem?_eq_none h'] at hbk0
 go_enter Tryz.func113, Tryz.ntmps113
 go_wp2_with (go_at_call 116; refine (ql7 hT b p v _ bs _ hbk0 hp hown0 hne).mono ?_)
 rintro e w1 ⟨rfl, hbk, hown, hk⟩
 have c0 : w1.cell? ⟨b, 0, none⟩ = some (.pointer (some ⟨b, 0, none⟩)) := by rw [Lib.cell_of_heap hbk]; rfl
 have c1 : w1.cell? ⟨b, 1, none⟩ = some v := by rw [Lib.cell_of_heap hbk]; rfl
 have hlt : b < w1.heap.size := by rw [hk.size]; exact hlt0
 go_wp2_with (at_builtin; go_loud (refine qiw rfl _ _ 92 rfl 5 i0 (.int .u8 0) Tryz.underlying92 hi hz0 hz1 hz2 rfl _ _ _ rfl (hown.alloc _) ⟨w1.heap.size, 0, none⟩ 1 1 [.int .u8 c] rfl rfl ?c1 ?c2 ?c3 ?_))
 case c1 =>
  intro j u hj
  match j, hj with
  | 0, hj => simp at hj; subst hj; simp [Addr.add]
 case c2 => intro u hu; simp at hu; subst hu; rfl
 case c3 => exact hlen
 intro v' w2 hown' hgrow hnew hnil
 have hb2 : w2.heap[b]? = some (.cells #[.pointer (some ⟨b, 0, none⟩), v] T (0, 0)) := by
  rw [hgrow.block b (by simp; omega) (fun e => hne e.symm), Lib.alloc_old w1 _ b hlt]
  exact hbk
 have d0 : w2.cell? ⟨b, 0, none⟩ = some (.pointer (some ⟨b, 0, none⟩)) := by rw [Lib.cell_of_heap hb2]; rfl
 have d1 : w2.cell? ⟨b, 1, none⟩ = some v := by rw [Lib.cell_of_heap hb2]; rfl
 have f1 : w2.frozen? ⟨b, 1, none⟩ = false := Lib.frozen_of_heap hb2 1
 obtain ⟨g, cap, rfl⟩ : ∃ g cap, v' = .slice (some ⟨g, 0, none⟩) (bs.length + 1) cap := by
  rcases hown'.2 with ⟨_, h0⟩ | ⟨g, cap, cur, fz, hv, _⟩
  ·omega
  ·exact ⟨g, cap, hv⟩
 go_wp2
 go_ret
 have hne' : (Value.slice (some ⟨g, 0, none⟩) (bs.length + 1) cap).ownBlock ≠ some b := by
  rcases hnew with h | ⟨g', h, hg'⟩
  ·rw [h]; exact hne
  ·rw [h]; intro e; cases e; simp at hg'; omega
 refine ⟨rfl, _, by simp [World.setCell, Array.getElem?_modify, hb2], hown'.kept (row := some b) ⟨rfl, rfl, rfl, by simp [World.setCell], fun k _ hk' => Below.heap_setCell _ _ _ _ (fun e => hk' (by simp [e]))⟩ (.inr hne'), hne', ?_, ?_⟩
 ·exact ⟨hgrow.os.trans hk.os, hgrow.tape.trans hk.tape, hgrow.output.trans hk.output, by have := hgrow.size; simp [World.setCell] at this ⊢; have := hk.size; omega, fun k hlt' hkb hkv => by
   rw [Below.heap_setCell _ _ _ _ hkb, hgrow.block k (by have := hk.size; simp; omega) hkv, Lib.alloc_old w1 _ k (by rw [hk.size]; exact hlt'), hk.block k hkb]⟩
 ·rcases hnew with h | ⟨g', h, hg'⟩
  ·exact .inl h
  ·exact .inr ⟨g', h, by have := hk.size; simp at hg'; omega⟩
theorem qig {T : TypeId} (hT : BldTy T) (b : Nat) (p v : Value) (bs : List Value) (s : ByteArray) (w : World) (hbk0 : w.heap[b]? = some (.cells #[p, v] T (0, 0))) (hp : p = .pointer none ∨ p = .pointer (some ⟨b, 0, none⟩))
  (hown0 : w.ownsRowF 0 5 1 v bs.length bs) (hne : v.ownBlock ≠ some b) (hlen : bs.length + s.size ≤ 140737488355328) :
  Calls Tryz.prog 68 #[.pointer (some ⟨b, 0, none⟩), .string s] w fun e w' => e = .returned (.tuple #[.int .i64 s.size, .nilIface]) ∧ ∃ v', w'.heap[b]? = some (.cells #[.pointer (some ⟨b, 0, none⟩), v'] T (0, 0)) ∧
   w'.ownsRowF 0 5 1 v' (bs.length + s.size) (bs ++ strCells s) ∧ v'.ownBlock ≠ some b ∧ Kept2 w w' b v ∧ qaL w v v' ∧ (v' = .slice none 0 0 ↔ v = .slice none 0 0 ∧ s.size = 0) := by
 obtain ⟨i0, hi, hi2⟩ := qpq.1 (show (Tryz.prog.info? 5).map (fun i => (i.zero, i.size, i.bytes)) = some (some (.int .u8 0), 1, 1) by kernel_rfl)
 simp only [Prod.mk.injEq] at hi2
 obtain ⟨hz0, hz1, hz2⟩ := hi2
 have hlt0 : b < w.heap.size := by
  rcases Nat.lt_or_ge b w.heap.size with h' | h'
  ·exact h'
  ·simp [Array.getElem?_eq_none h'] at hbk0
 go_enter Tryz.func68, Tryz.ntmps68
 go_wp2_with (go_at_call 116; refine (ql7 hT b p v _ bs _ hbk0 hp hown0 hne).mono ?_)
 rintro e w1 ⟨rfl, hbk, hown, hk⟩
 have c0 : w1.cell? ⟨b, 0, none⟩ = some (.pointer (some ⟨b, 0, none⟩)) := by rw [Lib.cell_of_heap hbk]; rfl
 have c1 : w1.cell? ⟨b, 1, none⟩ = some v := by rw [Lib.cell_of_heap hbk]; rfl
 have hlt : b < w1.heap.size := by rw [hk.size]; exact hlt0
 go_wp2_with (at_builtin; go_loud (refine qhb rfl _ _ 92 9 rfl 5 i0 Tryz.underlying92 Tryz.underlying9 hi hz0 hz1 hz2 _ _ _ rfl hown s rfl ?c3 ?_))
 case c3 => exact hlen
 intro v' w2 hown' hgrow hnew hnil
 have hb2 : w2.heap[b]? = some (.cells #[.pointer (some ⟨b, 0, none⟩), v] T (0, 0)) := by
  rw [hgrow.block b hlt (fun e => hne e.symm)]
  exact hbk
 have d0 : w2.cell? ⟨b, 0, none⟩ = some (.pointer (some ⟨b, 0, none⟩)) := by rw [Lib.cell_of_heap hb2]; rfl
 have d1 : w2.cell? ⟨b, 1, none⟩ = some v := by rw [Lib.cell_of_heap hb2]; rfl
 have f1 : w2.frozen? ⟨b, 1, none⟩ = false := Lib.frozen_of_heap hb2 1
 obtain ⟨ao, n', cap, rfl⟩ : ∃ ao n' cap, v' = .slice ao n' cap := by
  rcases hown'.2 with ⟨hv, _⟩ | ⟨g, cap, cur, fz, hv, _⟩
  ·exact ⟨_, _, _, hv⟩
  ·exact ⟨_, _, _, hv⟩
 go_wp2
 go_ret2
 have hne' : (Value.slice ao n' cap).ownBlock ≠ some b := by
  rcases hnew with h | ⟨g', h, hg'⟩
  ·rw [h]; exact hne
  ·rw [h]; intro e; cases e; omega
 refine ⟨rfl, _, by simp [World.setCell, Array.getElem?_modify, hb2], hown'.kept (row := some b) ⟨rfl, rfl, rfl, by simp [World.setCell], fun k _ hk' => Below.heap_setCell _ _ _ _ (fun e => hk' (by simp [e]))⟩ (.inr hne'), hne', ?_, ?_, by simpa using hnil⟩
 ·exact ⟨hgrow.os.trans hk.os, hgrow.tape.trans hk.tape, hgrow.output.trans hk.output, by have := hgrow.size; simp [World.setCell] at this ⊢; have := hk.size; omega, fun k hlt' hkb hkv => by
   rw [Below.heap_setCell _ _ _ _ hkb, hgrow.block k (by have := hk.size; omega) hkv, hk.block k hkb]⟩
 ·rcases hnew with h | ⟨g', h, hg'⟩
  ·exact .inl h
  ·exact .inr ⟨g', h, by have := hk.size; omega⟩
theorem qod {T : TypeId} (b : Nat) (p v : Value) (l : List UInt8) (w : World) (hbk : w.heap[b]? = some (.cells #[p, v] T (0, 0)))
  (hown0 : w.ownsRowF 0 5 1 v l.length (byteCells l)) (hne : v.ownBlock ≠ some b) (hnil : l = [] → v = .slice none 0 0) :
  Calls Tryz.prog 66 #[.pointer (some ⟨b, 0, none⟩)] w fun e w' => e = .returned (.string ⟨l.toArray⟩) ∧ w'.heap[b]? = some (.cells #[p, v] T (0, 0)) ∧
   w'.ownsRowF 0 5 1 v l.length (byteCells l) ∧ Kept2 w w' b v := by
 have mixed : Tryz.prog.follows .mixedOrders = true := by kernel_rfl
 by_cases h0 : l = []
 ·obtain rfl := h0
  obtain rfl := hnil rfl
  have hUS : ∀ W : World, ∀ q, (Builtin.unsafeString_ #[138, 3] 9 #[.pointer q, .int .i64 0]).run Tryz.prog W = .ok (.string .empty) W := fun W q => Lib.run_unsafeString_none W _ _ _ q
  have c1 : w.drew.cell? ⟨b, 1, none⟩ = some (.slice none 0 0) := by
   have : w.drew.heap[b]? = some (.cells #[p, .slice none 0 0] T (0, 0)) := hbk
   rw [Lib.cell_of_heap this]; rfl
  have hSD : (Builtin.unsafeSliceData_ #[92] 138 #[.slice none 0 0]).run Tryz.prog w.drew = .ok (.pointer none) w.drew := rfl
  go_enter Tryz.func66, Tryz.ntmps66
  go_wp2
  go_region_o
  all_goals (go_wp2; go_ret; exact ⟨rfl, hbk, hown0, ⟨rfl, rfl, rfl, qps _, fun _ _ _ _ => rfl⟩⟩)
 ·have hl0 : l.length ≠ 0 := by simpa using h0
  have hown := hown0
  obtain ⟨g, cap, cur, fz, rfl, hg, hfz, hnc, hcm, hcs, htake⟩ : ∃ g cap cur fz, v = .slice (some ⟨g, 0, none⟩) l.length cap ∧ w.heap[g]? = some (.cells cur 5 fz) ∧ fz.2 ≤ l.length * 1 ∧ l.length ≤ cap ∧ cap ≤ maxLen ∧ cur.size = cap * 1 ∧ cur.toList.take (l.length * 1) = Lib.byteCells l := by
   rcases hown.2 with ⟨_, hz⟩ | ⟨g, cap, cur, fz, hv, _, r⟩
   ·exact absurd hz hl0
   ·exact ⟨g, cap, cur, fz, hv, r⟩
  have hgb : g ≠ b := fun e => hne (by simp [Value.ownBlock, e])
  have c1 : w.drew.cell? ⟨b, 1, none⟩ = some (.slice (some ⟨g, 0, none⟩) l.length cap) := by
   have : w.drew.heap[b]? = some (.cells #[p, .slice (some ⟨g, 0, none⟩) l.length cap] T (0, 0)) := hbk
   rw [Lib.cell_of_heap this]; rfl
  have hSD : (Builtin.unsafeSliceData_ #[92] 138 #[.slice (some ⟨g, 0, none⟩) l.length cap]).run Tryz.prog w.drew = .ok (.pointer (some ⟨g, 0, none⟩)) w.drew :=
   Lib.run_unsafeSliceData_row _ _ _ _ _ _ (by omega)
  have hUS : (Builtin.unsafeString_ #[138, 3] 9 #[.pointer (some ⟨g, 0, none⟩), .int .i64 l.length]).run Tryz.prog w.drew = .ok (.string ⟨l.toArray⟩) (w.drew.freeze ⟨g, 0, none⟩ l.length) := by
   refine Lib.run_unsafeString_row w.drew 138 3 9 5 Tryz.underlying138 (by kernel_rfl) g cur.size (by have hg' : w.drew.heap[g]? = some (.cells cur 5 fz) := hg; simp [World.shape?, hg']) l h0 (by omega) (by unfold maxLen at hcm; omega) ?_
   intro j x hx
   exact hown.cells (g := g) rfl j (.int .u8 x.toNat) (by simp [Lib.byteCells, hx])
  have hA : Lib.BuilderAtF T 5 0 b p (Lib.byteCells l) w.drew := ⟨Nat.zero_le _, _, hbk, by rw [Lib.byteCells_length]; exact hown0, hne⟩
  have hF := hA.froze (g := g) (cap := cap) (by rw [Lib.byteCells_length]; exact c1)
  rw [Lib.byteCells_length] at hF
  have hfin : (w.drew.freeze ⟨g, 0, none⟩ l.length).heap[b]? = some (.cells #[p, .slice (some ⟨g, 0, none⟩) l.length cap] T (0, 0)) ∧
   (w.drew.freeze ⟨g, 0, none⟩ l.length).ownsRowF 0 5 1 (.slice (some ⟨g, 0, none⟩) l.length cap) l.length (byteCells l) ∧ Kept2 w (w.drew.freeze ⟨g, 0, none⟩ l.length) b (.slice (some ⟨g, 0, none⟩) l.length cap) := by
   have hfb : ∀ k, k ≠ g → (w.drew.freeze ⟨g, 0, none⟩ l.length).heap[k]? = w.heap[k]? := fun k hk => by
    unfold World.freeze
    split
    ·rfl
    ·simp [Array.getElem?_modify, hk.symm]
     rfl
   have hb' := (hfb b hgb.symm).trans hbk
   obtain ⟨_, v2, q1, q2, q3⟩ := hF
   rw [hb'] at q1
   simp only [Option.some.injEq, Obj.cells.injEq, Array.mk.injEq, List.cons.injEq] at q1
   obtain ⟨⟨_, rfl, _⟩, _⟩ := q1
   rw [Lib.byteCells_length] at q2
   refine ⟨hb', q2, ?_⟩
   have hs : (w.drew.freeze ⟨g, 0, none⟩ l.length).os = w.os ∧ (w.drew.freeze ⟨g, 0, none⟩ l.length).tape = w.tape ∧ (w.drew.freeze ⟨g, 0, none⟩ l.length).output = w.output ∧ (w.drew.freeze ⟨g, 0, none⟩ l.length).heap.size = w.heap.size := by
    unfold World.freeze
    split
    ·exact ⟨rfl, rfl, rfl, rfl⟩
    ·exact ⟨rfl, rfl, rfl, by simp⟩
   exact ⟨hs.1, hs.2.1, hs.2.2.1, by rw [hs.2.2.2]; exact qps _, fun k _ _ hk => hfb k fun e => hk (by rw [e]; rfl)⟩
  clear hF hA
  go_enter Tryz.func66, Tryz.ntmps66
  go_wp2
  go_region_o
  all_goals (go_wp2; go_ret; exact ⟨rfl, hfin⟩)
end Go.Proofs.YtnjonahoheopnaaGreatDoor
end
section
namespace Go.Av
abbrev Rz := List (List AV)
abbrev Bz := List UInt8
inductive Tm where
 | mk (k n : Int) (s : List UInt8) (l : List Tm)
 deriving Inhabited
namespace Tm
def kind : Tm → Int | mk k _ _ _ => k
def num : Tm → Int | mk _ n _ _ => n
def str : Tm → List UInt8 | mk _ _ s _ => s
def subs : Tm → List Tm | mk _ _ _ l => l
end Tm
mutual
def Tm.cells : Tm → List AV
 | .mk k n s l => [.int .i64 k, .int .i64 n, .str s, .sl (qi l)]
def qi : List Tm → List (List AV)
 | [] => []
 | t :: l => t.cells :: qi l
end
def Tm.av (t : Tm) : AV := .agg t.cells
theorem Tm.cells_mk (k n : Int) (s : List UInt8) (l : List Tm) : (Tm.mk k n s l).cells = [.int .i64 k, .int .i64 n, .str s, .sl (qi l)] := by rw [Tm.cells]
theorem Tm.av_mk (k n : Int) (s : List UInt8) (l : List Tm) : (Tm.mk k n s l).av = .agg [.int .i64 k, .int .i64 n, .str s, .sl (qi l)] := by rw [Tm.av, Tm.cells_mk]
theorem yf : ∀ l : List Tm, qi l = l.map Tm.cells
 | [] => by rw [qi]; rfl
 | t :: l => by rw [qi, yf l]; rfl
@[simp] theorem xF (l : List Tm) : (qi l).length = l.length := by rw [yf]; simp
@[simp] theorem zI : qi [] = [] := by rw [qi]
theorem yr (t : Tm) (l : List Tm) : qi (t :: l) = t.cells :: qi l := by rw [qi]
theorem qat (a b : List Tm) : qi (a ++ b) = qi a ++ qi b := by simp [yf]
theorem qkg (n : Nat) (a : List Tm) : (qi a).take n = qi (a.take n) := by simp [yf, List.map_take]
theorem qki (n : Nat) (a : List Tm) : (qi a).drop n = qi (a.drop n) := by simp [yf, List.map_drop]
theorem qaQ (l : List Tm) (i : Nat) : (qi l)[i]? = (l[i]?).map Tm.cells := by rw [yf]; simp
theorem qlw (l : List Tm) (i : Nat) (t : Tm) : (qi l).set i t.cells = qi (l.set i t) := by simp [yf, List.map_set]
theorem qkX (t : Tm) : qk 0 t.cells = true := by
 obtain ⟨k, n, s, l⟩ := t
 rw [Tm.cells_mk]; rfl
theorem qkh (l : List Tm) : ql 0 (qi l) = true := by
 induction l with
 | nil => rw [qi]; rfl
 | cons t l ih => rw [qi, ql, ih, qkX]; rfl
mutual
/-- no list is longer than is counted here, no text -/
def Tm.Ok : Tm → Prop
 | .mk _ _ s l => s.length < 1099511627776 ∧ l.length < 1099511627776 ∧ OkL l
def OkL : List Tm → Prop
 | [] => True
 | t :: l => t.Ok ∧ OkL l
end
theorem qjG {l : List Tm} : OkL l ↔ ∀ t ∈ l, t.Ok := by
 induction l with
 | nil => simp [OkL]
 | cons t l ih => simp [OkL, ih]
theorem Tm.Ok.str {k n : Int} {s : List UInt8} {l : List Tm} (h : (Tm.mk k n s l).Ok) : s.length < 1099511627776 := by rw [Tm.Ok] at h; exact h.1
theorem Tm.Ok.len {k n : Int} {s : List UInt8} {l : List Tm} (h : (Tm.mk k n s l).Ok) : l.length < 1099511627776 := by rw [Tm.Ok] at h; exact h.2.1
theorem Tm.Ok.sub {k n : Int} {s : List UInt8} {l : List Tm} (h : (Tm.mk k n s l).Ok) {t : Tm} (ht : t ∈ l) : t.Ok := by rw [Tm.Ok] at h; exact qjG.1 h.2.2 t ht
theorem OkL.get {l : List Tm} (h : OkL l) {t : Tm} (ht : t ∈ l) : t.Ok := qjG.1 h t ht
theorem Tm.ind {P : Tm → Prop} (h : ∀ k n s l, (∀ t ∈ l, P t) → P (.mk k n s l)) : ∀ t, P t
 | .mk k n s l => h k n s l (fun t _ => Tm.ind h t)
theorem zE {x : Int} (h1 : -9223372036854775808 ≤ x) (h2 : x < 9223372036854775808) : IntKind.wrap .i64 x = x := by
 simp [IntKind.wrap, IntKind.bits, IntKind.signed]; omega
theorem qW {i n : Nat} (h : i < n) (hn : n < 1099511627776) : IntKind.wrap .i64 ((i : Int) + 1) = ((i + 1 : Nat) : Int) := by
 rw [zE (by omega) (by omega)]; rfl
theorem qI (i : Nat) : qf 0 (i : Int) = true := by simp [qf]
theorem vL (i n : Nat) : qL (i : Int) (n : Int) = decide (i < n) := by simp [qL]
def kTmC {α : Type} (l : List AV) (k : Int → Int → List UInt8 → List (List AV) → Option α) : Option α :=
 qv l fun c cs => kInt .i64 c fun n => qv cs fun c cs => kInt .i64 c fun m => qv cs fun c cs => kStr c fun s => qv cs fun c cs => kSl c fun A => kNil cs (k n m s A)
def kTmV {α : Type} (v : AV) (k : Int → Int → List UInt8 → List (List AV) → Option α) : Option α := kAgg v fun cs => kTmC cs k
theorem qhw {α : Type} {l : List Tm} {i : Nat} {t : Tm} (h : l[i]? = some t) (k : List AV → Option α) : kOpt (qpA (qi l) (Int.toNat (i : Int))) k = k t.cells := by
 rw [qo, Int.toNat_natCast, qaQ, h]; rfl
mutual
def Tm.w : Tm → Nat
 | .mk _ _ s l => 1 + s.length + wL l
def wL : List Tm → Nat
 | [] => 0
 | t :: l => t.w + wL l
end
theorem Tm.w_mk (k n : Int) (s : List UInt8) (l : List Tm) : (Tm.mk k n s l).w = 1 + s.length + wL l := by rw [Tm.w]
theorem Tm.w_eq (t : Tm) : t.w = 1 + t.str.length + wL t.subs := by cases t; rw [Tm.w_mk]; rfl
@[simp] theorem qoF : wL [] = 0 := by rw [wL]
@[simp] theorem qnR (t : Tm) (l : List Tm) : wL (t :: l) = t.w + wL l := by rw [wL]
@[simp] theorem qcs (a b : List Tm) : wL (a ++ b) = wL a + wL b := by
 induction a with
 | nil => simp
 | cons t l ih => simp [ih]; omega
theorem qpe (t : Tm) : 1 ≤ t.w := by rw [Tm.w_eq]; omega
theorem qhd (l : List Tm) : l.length ≤ wL l := by
 induction l with
 | nil => simp
 | cons x l ih => have := qpe x; simp; omega
theorem qlc (l : List Tm) : wL l.reverse = wL l := by
 induction l with
 | nil => rfl
 | cons x l ih => simp [ih]; omega
end Go.Av
end
section
namespace Go.Proofs.YtnjonahoheopnaaGreatDoor
open Go.Av
def C0 (W : World) : qb := fun b o => W.cell? ⟨b, o, none⟩
def M0 : MMap := fun _ => none
structure TermTys (P : Program) (tT tL tI tS : TypeId) : Prop where
 uT : ∃ f0 f1 f2 f3 : Field, P.underlying tT = some (.struct #[f0, f1, f2, f3]) ∧ f0.type = tI ∧ f0.offset = 0 ∧ f1.type = tI ∧ f1.offset = 1 ∧ f2.type = tS ∧ f2.offset = 2 ∧ f3.type = tL ∧ f3.offset = 3
 uL : P.underlying tL = some (.slice tT)
 uI : P.underlying tI = some (.int .i64)
 uS : P.underlying tS = some .string
 cT : P.cellsOf tT = 4
 cL : P.cellsOf tL = 1
 cI : P.cellsOf tI = 1
 cS : P.cellsOf tS = 1
section
variable {H : Type} {enc : TypeId × Value → H} {P : Program} {W : World} {tT tL tI tS : TypeId}
theorem qdU {base : Nat} {a : Addr} {n : Nat} {cs : List Value} (h : W.cells? base a n = some cs) (hn : 0 < n) : a.spot = none ∧ cs.length = n ∧ ∀ (j : Nat) v, cs[j]? = some v → W.cell? ⟨a.block, a.off + j, none⟩ = some v := by
 unfold World.cells? at h
 split at h
 ·have hl : cs.length = n := by simpa using mapM_some_length h
  have hg : ∀ (j : Nat), j < n → W.cell? (a.add j) = cs[j]? := fun j hj => mapM_some_get h j j (by simp [hj])
  have hsp : a.spot = none := by
   have h0 := hg 0 hn
   rw [qpr (by omega)] at h0
   cases hs : a.spot with
   | none => rfl
   | some s =>
    simp only [World.cell?, Addr.add, if_pos, hs] at h0
    split at h0
    ·simp at h0
    ·cases h0
  refine ⟨hsp, hl, fun j v hv => ?_⟩
  have hj : j < n := by rw [← hl]; exact (qpn.1 hv).1
  have := hg j hj
  rw [hv] at this
  rw [xp _ _ hsp] at this
  exact this
 ·cases h
theorem ql5 {H : Type} {d : DataW H} {l : List (DataW H)} (h : d ∈ l) : Rows.uptoBulk d ≤ Rows.uptoBulkAll l := by
 induction l with
 | nil => cases h
 | cons x r ih =>
  simp only [Rows.uptoBulkAll]
  cases qpM.1 h with
  | inl e => subst e; omega
  | inr e => have := ih e; omega
end
end Go.Proofs.YtnjonahoheopnaaGreatDoor
end
section
namespace Go.Proofs.YtnjonahoheopnaaGreatDoor
open Go.Av Go.RowKit
theorem qdI : ∀ {rows : List (List AV)} {xs : List (List UInt8)}, zq rows = some xs → rows = xs.map fun s => [.str s]
 | [], xs, h => by simp [zq] at h; subst h; rfl
 | row :: l, xs, h => by
  unfold zq at h
  split at h
  ·rename_i heq; cases heq
  ·rename_i s l' heq
   cases heq
   split at h
   ·rename_i q hq; cases h; rw [List.map_cons, ← qdI hq]
   ·cases h
  ·cases h
def OkU [Lent] (f : FuncId) (s : List AV → AH → Option (AV × AH)) : Prop :=
 ∀ args H r H', s args H = some (r, H') → ∀ C μ w vs, qg C μ args vs → Wld C μ H w → qM Tryz.prog (callFunc f vs) w (qU C μ H w r H')
theorem qhG [Lent] {f : FuncId} {s : List AV → AH → Option (AV × AH)} : ∀ {l : List (Nat × (List AV → AH → Option (AV × AH)))}, (∀ p ∈ l, OkU p.1 p.2) → qbr f l = some s → OkU f s
 | [], _, h => by cases h
 | p :: l, hp, h => by
  rw [qbr] at h
  split at h
  ·rename_i e
   have e := qpt e
   cases h
   subst e
   exact hp p (by simp)
  ·exact qhG (fun q hq => hp q (by simp [hq])) h
theorem qeb {T e : TypeId} (h : yx vn.look T e = true) : e = 5 ∧ BldTy T := by
 have ok : vn.All fun T e => e = 5 ∧ BldTy T := by
  unfold vn
  repeat (first | exact trivial | refine BT.all_node ⟨rfl, ⟨by kernel_rfl, by decide⟩⟩ ?_ ?_)
 unfold yx at h
 split at h
 ·rename_i e' he
  obtain ⟨h1, h2⟩ := BT.all_look ok he
  exact ⟨by rw [← h1]; exact (qpt h).symm, h2⟩
 ·cases h
section
variable [Lent] {C : qb} {μ : MMap} {w w' : World}
theorem qgc {T e : TypeId} {s : List UInt8} {l : AH} {x : Value} (hr : Rep C μ (.ptr 0 0 0) x) (hw : Wld C μ (.bld T e s :: l) w) : ∃ m, μ 0 = some m ∧ x = .pointer (some ⟨m.block, 0, none⟩) ∧ qaM w m T e s := by
 cases hr with
 | ptr _ _ _ m hm =>
  have hb : qaM w m T e s := (hw.liveM (id := 0) rfl rfl hm).2.2
  refine ⟨m, hm, ?_, hb⟩
  rw [hb.1]
  simp
theorem qen {T e : TypeId} {s s' : List UInt8} {l : AH} {m : MI} {v v' p' : Value} {r : AV} {rv : Value} (hw : Wld C μ (.bld T e s :: l) w) (hm : μ 0 = some m) (hb0 : m.base = 0) (hold : ∀ g, v.ownBlock = some g → m.has g)
  (hk : Kept2 w w' m.block v) (hnew : w'.heap[m.block]? = some (.cells #[p', v'] T (0, 0))) (hp' : p' = .pointer none ∨ p' = .pointer (some ⟨m.block, 0, none⟩)) (hown : w'.ownsRowF 0 e 1 v' s'.length (Lib.byteCells s')) (hne : v'.ownBlock ≠ some m.block)
  (hnil : s' = [] → v' = .slice none 0 0) (hbuf : qaL w v v') (hr : ∀ μ', Rep C μ' r rv) : qU C μ (.bld T e s :: l) w r (.bld T e s' :: l) rv w' := by
 have hbl : ∀ x, v'.ownBlock = some x → m.has x ∨ (w.heap.size ≤ x ∧ x < w'.heap.size) := fun x hx => by
  rcases hbuf with h | ⟨g, h, hg⟩
  ·exact .inl (hold x (h ▸ hx))
  ·rw [hx] at h; cases h; exact .inr ⟨hg, (hown.lt x hx).2⟩
 obtain ⟨a1, a2⟩ := hw.grow (id := 0) (blk' := .bld T e s') (m' := m.plus v'.ownBlock) rfl rfl rfl hm (m.plus_le _) hk.size
  (fun x hx => by
   rcases MI.plus_has hx with h | h
   ·exact .inl h
   ·exact hbl x h)
  (fun k hk1 hk2 => hk.block k hk1 (fun e => hk2 (e ▸ m.has_block)) (fun e => hk2 (hold k e.symm)))
  ⟨hb0, p', v', hnew, hp', hown, hne, hnil, fun g hg => MI.has_plus hg⟩ trivial hk.os hk.tape hk.output
 exact ⟨C, _, hr _, a1, a2⟩
theorem qg9 : OkU 113 (yn vn.look) := fun args H r H' hr C μ w vs ha hw => by
 unfold yn at hr
 split at hr
 case h_2 => cases hr
 rename_i c T e s l
 split at hr
 case isFalse => cases hr
 rename_i hc
 cases hr
 obtain ⟨h1, h2, h3, h4⟩ := hc
 obtain ⟨rfl, hT⟩ := qeb h1
 obtain ⟨hl, hv⟩ := ha
 obtain ⟨x, y, rfl⟩ := qar hl
 have q1 := hv 1 _ _ rfl rfl
 cases q1
 obtain ⟨m, hm, rfl, hb0, p, v, b1, b2, b3, b4, b5, b6⟩ := qgc (hv 0 _ _ rfl rfl) hw
 rw [← Lib.byteCells_length s] at b3
 refine vm Tryz.func113 (by rfl) rfl ((qkY hT m.block p v (Lib.byteCells s) c w b1 b2 b3 b4 (by rw [Lib.byteCells_length]; omega)).mono fun e' w' ⟨e1, v', e2, e3, e4, e5, e6⟩ => ⟨_, e1, ?_⟩)
 have hcat : Lib.byteCells s ++ [.int .u8 c] = Lib.byteCells (s ++ [c.toNat.toUInt8]) := by
  simp [Lib.byteCells]
  omega
 rw [hcat, Lib.byteCells_length] at e3
 refine qen hw hm hb0 b6 e5 e2 (.inr rfl) (by simpa using e3) e4 (fun h => by simp at h) e6 fun _ => .nilI
theorem qfN : OkU 68 (xK vn.look) := fun args H r H' hr C μ w vs ha hw => by
 unfold xK at hr
 split at hr
 case h_2 => cases hr
 rename_i t T e s l
 split at hr
 case isFalse => cases hr
 rename_i hc
 cases hr
 obtain ⟨h1, h2⟩ := hc
 obtain ⟨rfl, hT⟩ := qeb h1
 obtain ⟨hl, hv⟩ := ha
 obtain ⟨x, y, rfl⟩ := qar hl
 have q1 := hv 1 _ _ rfl rfl
 cases q1
 obtain ⟨m, hm, rfl, hb0, p, v, b1, b2, b3, b4, b5, b6⟩ := qgc (hv 0 _ _ rfl rfl) hw
 rw [← Lib.byteCells_length s] at b3
 have hts : (⟨t.toArray⟩ : ByteArray).size = t.length := by simp [ByteArray.size]
 refine vm Tryz.func68 (by rfl) rfl ((qig hT m.block p v (Lib.byteCells s) ⟨t.toArray⟩ w b1 b2 b3 b4 (by rw [Lib.byteCells_length, hts]; omega)).mono fun e' w' ⟨e1, v', e2, e3, e4, e5, e6, e7⟩ => ⟨_, e1, ?_⟩)
 have hcat : Lib.byteCells s ++ Lib.strCells ⟨t.toArray⟩ = Lib.byteCells (s ++ t) := by
  simp [Lib.byteCells, Lib.strCells]
 rw [hcat, Lib.byteCells_length, hts] at e3
 refine qen hw hm hb0 b6 e5 e2 (.inr rfl) (by simpa using e3) e4 (fun h => ?_) e6 fun _ => ?_
 ·simp only [List.append_eq_nil_iff] at h
  exact e7.2 ⟨b5 h.1, by rw [hts, h.2]; rfl⟩
 ·rw [hts]
  exact Rep.tup [.int .i64 t.length, .nilI] [.int .i64 t.length, .nilIface] rfl fun i a u h1 h2 => by
   rcases i with _ | _ | i
   ·simp at h1 h2; subst h1; subst h2; exact .int _ _
   ·simp at h1 h2; subst h1; subst h2; exact .nilI
   ·simp at h1
theorem qlp : OkU 66 (zO vn.look) := fun args H r H' hr C μ w vs ha hw => by
 unfold zO at hr
 split at hr
 case h_2 => cases hr
 rename_i T e s l
 split at hr
 case isFalse => cases hr
 rename_i hc
 cases hr
 obtain ⟨h1, h2⟩ := hc
 obtain ⟨rfl, hT⟩ := qeb h1
 obtain ⟨hl, hv⟩ := ha
 obtain ⟨x, rfl⟩ : ∃ x, vs = #[x] := by
  obtain ⟨l⟩ := vs
  match l, hl with
  | [x], _ => exact ⟨x, rfl⟩
 obtain ⟨m, hm, rfl, hb0, p, v, b1, b2, b3, b4, b5, b6⟩ := qgc (hv 0 _ _ rfl rfl) hw
 refine vm Tryz.func66 (by rfl) rfl ((qod m.block p v s w b1 b3 b4 b5).mono fun e' w' ⟨e1, e2, e3, e4⟩ => ⟨_, e1, ?_⟩)
 exact qen hw hm hb0 b6 e4 e2 b2 e3 b4 b5 (.inl rfl) fun _ => .str _
end
section
variable [Lent] {C : qb} {μ : MMap} {w w' : World}
def qnL [Lent] (g : Nat) : Prop := ∃ v t fz, Lent.l g 0 = some v ∧ Lent.k g = some (.cells (Lib.pow10Tab.map fun z => Value.int .u64 z).toArray t fz)
theorem qn3 (hT : ∃ g, Tryz.prog.globalNamed "internal/strconv.uint64pow10" = some g ∧ qnL g) : OkU 29 qbt := fun args H r H' hr C μ w vs ha hw => by
 unfold qbt at hr
 split at hr
 case h_2 => cases hr
 rename_i n
 split at hr
 case isFalse => cases hr
 rename_i hc
 cases hr
 obtain ⟨hl, hv⟩ := ha
 obtain ⟨x, rfl⟩ : ∃ x, vs = #[x] := by
  obtain ⟨l⟩ := vs
  match l, hl with
  | [x], _ => exact ⟨x, rfl⟩
 have q0 := hv 0 _ _ rfl rfl
 cases q0
 obtain ⟨g, hg, v, t, fz, t1, t2⟩ := hT
 have htab : Lib.TabIs Tryz.prog w "internal/strconv.uint64pow10" .u64 Lib.pow10Tab := by
  have := (hw.lnt.1 g 0 v t1).2 _ t2
  unfold Lib.TabIs World.var?
  simp only [hg, qpy, this]
 refine vm Tryz.func29 (by rfl) rfl ((Tryz.strconv_Itoa n hc.1 hc.2 w htab).mono fun e w' ⟨e1, k, os, e2⟩ => ⟨_, e1, ?_⟩)
 subst e2
 rw [qhZ hc.1 hc.2]
 exact z6 hw (Go.Lib.below_grow _ w (qps _) k os) (.str _)
theorem qn1 : OkU 32 qbs := fun args H r H' hr C μ w vs ha hw => by
 unfold qbs at hr
 split at hr
 case h_2 => cases hr
 rename_i rows sep
 split at hr
 case h_2 => cases hr
 rename_i xs hxs
 split at hr
 case isFalse => cases hr
 rename_i hc
 cases hr
 obtain rfl := qdI hxs
 obtain ⟨hl, hv⟩ := ha
 obtain ⟨x, y, rfl⟩ := qar hl
 have q0 := hv 0 _ _ rfl rfl
 have q1 := hv 1 _ _ rfl rfl
 cases q1
 generalize hrows : xs.map (fun s => [AV.str s]) = rows at q0
 by_cases hx : xs = []
 ·subst hx
  simp at hrows
  subst hrows
  have fin : ∀ a c, x = .slice a 0 c → qM Tryz.prog (callFunc 32 #[x, .string ⟨sep.toArray⟩]) w (qU C μ H w (.str (Lib.join [] sep)) H) := fun a c hxx => by
   subst hxx
   refine vm Tryz.func32 (by rfl) rfl ((Tryz.strings_Join_none a c ⟨sep.toArray⟩ w).mono fun e w' ⟨e1, e2⟩ => ⟨_, e1, ?_⟩)
   subst e2
   exact ⟨C, μ, .str [], hw, Ext.refl (qps _)⟩
  cases q0 with
  | slNil => exact fin _ _ rfl
  | sl _ a cap sz vals h1 h2 h3 h4 h5 h6 h7 => exact fin _ _ rfl
 ·cases q0 with
  | slNil => simp at hrows; exact absurd hrows hx
  | sl _ a cap sz vals h1 h2 h3 h4 h5 h6 h7 =>
   subst hrows
   have hne : xs.map (fun s => [AV.str s]) ≠ [] := by simpa using hx
   obtain ⟨bk, o, sp⟩ := a
   obtain rfl : sp = none := h1 hne
   have hsz : sz = 1 := by
    cases xs with
    | nil => exact absurd rfl hx
    | cons s l => exact (h2 0 [.str s] rfl).symm
   subst hsz
   have hcell : ∀ (j : Nat) s, xs[j]? = some s → w.cell? ⟨bk, o + j, none⟩ = some (.string ⟨s.toArray⟩) := fun j s hj => by
    have g1 : (xs.map (fun s => [AV.str s]))[j]? = some [.str s] := by simp [hj]
    have g2 := hw.cl _ _ _ (h3 j 0 _ (.str s) g1 rfl)
    have g3 := h4 j 0 _ (.str s) g1 rfl
    generalize vals j 0 = u at g2 g3
    cases g3
    simpa using g2
   have hbk : bk < w.heap.size := by
    cases xs with
    | nil => exact absurd rfl hx
    | cons s l => exact World.block_lt_of_cell? w _ (hcell 0 s rfl)
   have hlen : ((xs.map fun s => (⟨s.toArray⟩ : ByteArray)).map (·.data.toList)) = xs := by rw [List.map_map]; exact List.map_id xs
   have := Tryz.strings_Join bk o cap (xs.map fun s => ⟨s.toArray⟩) ⟨sep.toArray⟩ w (fun j x hj => by
    simp only [List.getElem?_map, qpq] at hj
    obtain ⟨s, hs, rfl⟩ := hj
    exact hcell j s hs) hbk (by simpa using hc.1) (by simpa using h6) (by rw [hlen]; exact hc.2)
   rw [hlen] at this
   have hll : (xs.map fun s => [AV.str s]).length = (xs.map fun s => (⟨s.toArray⟩ : ByteArray)).length := by simp
   rw [hll]
   exact vm Tryz.func32 (by rfl) rfl (this.mono fun e w' ⟨e1, e2⟩ => ⟨_, e1, z6 hw e2 (.str _)⟩)
end
structure Vars [Lent] : Prop where
 m : ∃ m, Lent.l 0 0 = some (.int .i64 m)
 s : qg3 2
 r : qg3 3
 t : ∃ g, Tryz.prog.globalNamed "internal/strconv.uint64pow10" = some g ∧ qnL g
theorem qlH (f : FuncId) (fn : Func) (h : Tryz.prog.funcs[f]? = some fn) : (fn.name == "runtime.NumGoroutine") = false := by
 have h1 := List.all_eq_true.1 qmA fn (by
  rw [← Array.getElem?_toList] at h
  exact qpB h)
 simpa using h1
theorem qn9 [Lent] {args : List AV} {H H' : AH} {r : AV} {C : qb} {μ : MMap} {w : World} {vs : Array Value} (hr : qia args H = some (r, H')) (ha : qg C μ args vs) (hw : Wld C μ H w) : qM Tryz.prog (callFunc 219 vs) w (qU C μ H w r H') := qh9 (P := Tryz.prog) Tryz.func219 (by rfl) (by rfl) (by kernel_rfl) (by kernel_rfl) hr ha hw
theorem qob [Lent] (h : Vars) : CfgOk cfg where
 ty := ⟨fun t ti h => BT.all_look qoG h⟩
 mixed := qmB
 named := fun f fn _ h => qlH f fn h
 ext := fun f s hs => by
  have hs : qbr f qfs = some s := hs
  refine qhG (l := qfs) ?_ hs
  unfold qfs
  rw [qkQ]
  simp only [List.forall_mem_cons, List.not_mem_nil, false_implies, implies_true, and_true]
  and_intros
  all_goals first
   | exact qg9
   | exact qfN
   | exact qlp
   | exact qn1
   | exact qn3 h.t
   | exact fun _ _ _ _ hr _ _ _ _ ha hw => qoL hr ha hw
   | exact fun _ _ _ _ hr _ _ _ _ ha hw => qjn h.m hr ha hw
   | exact fun _ _ _ _ hr _ _ _ _ ha hw => qmx h.s h.r hr ha hw
   | exact fun _ _ _ _ hr _ _ _ _ ha hw => qn9 hr ha hw
@[instance_reducible] def zb (W : World) : Lent := ⟨fun b o => if (b = 0 ∨ b = 1 ∨ b = 2 ∨ b = 3) ∧ o = 0 then W.cell? ⟨b, o, none⟩ else none, False, fun _ => True, fun b => if b = 1 then W.heap[b]? else none⟩
theorem wldU (W : World) : @Wld (zb W) (C0 W) M0 [] W := by
 letI := zb W
 exact ⟨fun _ _ _ h => h, fun id m h => (by cases h), fun id h => (by simp at h), fun id b h => (by simp at h), fun id d sz rs h => (by simp at h), fun i i' b b' m m' h => (by simp at h), yD.nil, by
  refine ⟨fun b o v h => ?_, fun h => h.elim, fun _ _ => trivial⟩
  have h : (if (b = 0 ∨ b = 1 ∨ b = 2 ∨ b = 3) ∧ o = 0 then W.cell? ⟨b, o, none⟩ else none) = some v := h
  split at h
  ·refine ⟨h, fun ob hk => ?_⟩
   have hk : (if b = 1 then W.heap[b]? else none) = some ob := hk
   split at hk
   ·exact hk
   ·cases hk
  ·cases h⟩
end Go.Proofs.YtnjonahoheopnaaGreatDoor
end
section
namespace Go.Proofs.YtnjonahoheopnaaGreatDoor
open Go.Av Go.ChangeShapes Go.WideShapes Go.ChangeAt Go.RowKit
theorem qmy : ownKnob Tryz.prog.godebug = none := by kernel_rfl
section
variable {H : Type} {enc : TypeId × Value → H} {P : Program} {W W' : World}
theorem qlD {f : Func} {s : ChangeSpec} {apart fresh handsOn again : Bool} {args : Array Value} {v : Value} {ds gs : List (DataW H)} {before pa pv : List MemPlace}
  (hW : DataW.Whole enc P f.params.toList s.vars apart W args.toList ds gs before)
  (hres : ∀ (b : Nat) (sp : Nat → Bool) (hd : Bool), DataW.TrodAll enc P W' b sp hd f.resultTypes.toList (v.resultList f.resultTypes.size) (s.fn H (ds ++ gs)).results [])
  (hargs : ∀ sp : Nat → Bool, (∀ p ∈ before, sp p.block = true) → DataW.TrodAll enc P W' 0 sp true f.params.toList args.toList (s.fn H (ds ++ gs)).args pa)
  (hvars : ∀ sp : Nat → Bool, (∀ p ∈ before, sp p.block = true) → DataW.TrodVars enc P W' sp s.vars (s.fn H (ds ++ gs)).vars pv)
  (hps : before = pa ++ pv) (hk : W.keptBut W' (· ∈ before)) (hfz : ∀ b o, b < W.heap.size → W'.frozen? ⟨b, o, none⟩ = W.frozen? ⟨b, o, none⟩)
  (hok : ∀ (j : Nat) (t : TypeId) (r : Value), f.resultTypes[j]? = some t → (v.resultList f.resultTypes.size)[j]? = some r → Value.okWide P W' .any 0 t r) :
  s.post enc P f apart fresh handsOn again W args v W' := by
 have hlt := hW.lt
 have hold : ∀ p ∈ before, (fun b => decide (b < W.heap.size)) p.block = true := fun p hp => by simpa using hlt p hp
 refine ⟨ds, gs, before, [], pa, pv, hW, hres _ _ _, hargs _ hold, hvars _ hold, World.keptBut_mono (fun p hp => ⟨hp, ?_⟩) hk, fun _ => ?_⟩
 ·rw [hps, qpH] at hp
  exact Or.inr hp
 ·obtain ⟨_, _, _, _, _, hz, hn⟩ := hW
  refine ⟨hok, _, _, ([] ++ pa) ++ pv, ⟨[] ++ pa, pv, trodAll_append (hargs _ (fun _ _ => rfl)) (hres _ _ _), hvars _ (fun _ _ => rfl), rfl, ?_, ?_⟩, ?_⟩
  ·intro b off hp
   have hp' : MemPlace.cell b off ∈ before := by rw [hps]; simpa using hp
   rw [hfz b off (hlt _ hp')]
   exact hz b off hp'
  ·intro ha
   have := hn ha
   rw [hps] at this
   simpa using this
  ·intro p hp _
   rw [hps]
   simpa using hp
theorem qhM (h : ∀ b, b < W.heap.size → W'.heap[b]? = W.heap[b]?) (ho : W'.os = W.os) (hu : W'.output = W.output) (may : MemPlace → Prop) : W.keptBut W' may := by
 refine ⟨ho, hu, fun i hi => ?_⟩
 rw [h i hi]
 cases W.heap[i]? with
 | none => rfl
 | some o => cases o <;> simp
theorem qhu (h : ∀ b, b < W.heap.size → W'.heap[b]? = W.heap[b]?) {p : MemPlace} (hp : p.block < W.heap.size) : W.sameAt W' p := by
 cases p with
 | cell b o => simp only [World.sameAt, World.cell?]; rw [h b hp]
 | map b => exact h b hp
theorem frozen_of_heap (h : ∀ b, b < W.heap.size → W'.heap[b]? = W.heap[b]?) (b o : Nat) (hb : b < W.heap.size) : W'.frozen? ⟨b, o, none⟩ = W.frozen? ⟨b, o, none⟩ := by
 simp only [World.frozen?]; rw [h b hb]
structure Opened (enc : TypeId × Value → H) (P : Program) (W : World) (t : TypeId) (v : Value) (d : DataW H) (ps : List MemPlace) (a : AV) : Prop where
 rep : Rep (C0 W) M0 a v
 back : ∀ (W' : World) (sp : Nat → Bool), (∀ p ∈ ps, W.sameAt W' p) → (∀ p ∈ ps, sp p.block = true) → DataW.Trod enc P W' 0 sp true t v d ps
end
theorem qnU {C : qb} {a : AV} {x : Value} (h1 : Rep C M0 a x) : qg C M0 [a] #[x] := ⟨rfl, fun i c v hc hv => by
 match i, hc, hv with
 | 0, hc, hv => simp at hc hv; subst hc hv; exact h1
 | (i + 1), hc, hv => simp at hc⟩
structure VarsW (W : World) : Prop where
 m : ∃ m, W.cell? ⟨0, 0, none⟩ = some (.int .i64 m)
 s : ∃ ev, W.cell? ⟨2, 0, none⟩ = some ev ∧ (ev = .nilIface ∨ ∃ te pe, ev = .iface te pe)
 r : ∃ ev, W.cell? ⟨3, 0, none⟩ = some ev ∧ (ev = .nilIface ∨ ∃ te pe, ev = .iface te pe)
 t : Lib.TabIs Tryz.prog W "internal/strconv.uint64pow10" .u64 Lib.pow10Tab
theorem qpg {W : World} (h : VarsW W) : @Vars (zb W) := by
 letI := zb W
 have g1 : Tryz.prog.globalNamed "internal/strconv.uint64pow10" = some 1 := by kernel_rfl
 have hl : ∀ b, (b = 0 ∨ b = 1 ∨ b = 2 ∨ b = 3) → (zb W).l b 0 = W.cell? ⟨b, 0, none⟩ := fun b hb => if_pos ⟨hb, rfl⟩
 refine ⟨?_, ?_, ?_, _, g1, ?_⟩
 ·obtain ⟨m, hm⟩ := h.m
  exact ⟨m, (hl _ (.inl rfl)).trans hm⟩
 ·obtain ⟨ev, h1, h2⟩ := h.s
  exact ⟨ev, (hl _ (.inr (.inr (.inl rfl)))).trans h1, h2⟩
 ·obtain ⟨ev, h1, h2⟩ := h.r
  exact ⟨ev, (hl _ (.inr (.inr (.inr rfl)))).trans h1, h2⟩
 ·have ht := h.t
  have h0 := ht.cell g1 0 (by decide)
  unfold Lib.TabIs World.var? at ht
  rw [g1] at ht
  simp only [qpy] at ht
  split at ht
  ·rename_i cs t fz hw
   cases ht
   exact ⟨_, t, fz, (hl _ (.inr (.inl rfl))).trans h0, (if_pos rfl).trans hw⟩
  ·cases ht
theorem qnF (L : Lent) (C : qb) (hL : ∀ b, L.nw b) : @LC L C = C := by
 funext b o
 unfold LC
 rw [if_pos (hL b)]
theorem qlz {L : Lent} [L' : Lent] {C : qb} {μ : MMap} {a : AV} {v : Value} (e : @LC L' C = @LC L C) (h : @Rep L C μ a v) : @Rep L' C μ a v := by
 induction h with
 | int k n => exact .int k n
 | bool b => exact .bool b
 | str s => exact .str s
 | agg cs vs hl _ ih => exact .agg cs vs hl ih
 | tup cs vs hl _ ih => exact .tup cs vs hl ih
 | nilS => exact .nilS
 | slNil => exact .slNil
 | em a cap => exact .em a cap
 | sl rows a cap sz vals h1 h2 h3 _ h5 h6 h7 ih => exact .sl rows a cap sz vals h1 h2 h3 ih h5 h6 h7
 | ms id off len cap a m hm hl ha => exact .ms id off len cap a m hm hl ha
 | msN id off => exact .msN id off
 | nilP => exact .nilP
 | ptr id row off m hm => exact .ptr id row off m hm
 | cptr cells off b o vals hc _ ih => exact .cptr cells off b o vals hc ih
 | fn f first caps vf vc h1 h2 _ _ i1 i2 => exact .fn f first caps vf vc h1 h2 i1 i2
 | yld id m hm => exact .yld id m hm
 | nilF => exact .nilF
 | nilM => exact .nilM
 | mp id m hm => exact .mp id m hm
 | nilI => exact .nilI
 | ifc t a v _ ih => exact .ifc t a v ih
 | lsl rows v h => exact .lsl rows v (by rw [e]; exact h)
 | lpt cells off b o vals hc hr => exact .lpt cells off b o vals (by rw [e]; exact hc) (by rw [e]; exact hr)
 | rsl id rows v D hD h => exact .rsl id rows v D hD h
 | rpt id cells off b o vals m hm hc hr => exact .rpt id cells off b o vals m hm hc hr
 | alt l i a v ha _ ih => exact .alt l i a v ha ih
 | wr n a ad c hn _ ih => exact .wr n a ad c hn ih
 | junk v => exact .junk v
theorem qly {W : World} {C : qb} {μ : MMap} {a : AV} {v : Value} (h : Rep C μ a v) : @Rep (zb W) C μ a v :=
 @qlz _ (zb W) _ _ _ _ (Eq.trans (qnF (zb W) C fun _ => trivial) (Eq.symm (qnF instLent C fun _ => trivial))) h
theorem qmP (W : World) {C : qb} {μ : MMap} {al : List AV} {vs : Array Value} (h : qg C μ al vs) : @qg (zb W) C μ al vs := ⟨h.1, fun i a v h1 h2 => qly (h.2 i a v h1 h2)⟩
theorem qkj {f : FuncId} {args : List AV} {vs : Array Value} {W : World} (hx : cfg.ext f = none) (hv : VarsW W) (he : EVs (EV cfg) f args = some (.bool true)) (ha : @qg (zb W) (C0 W) M0 args vs) :
  Calls Tryz.prog f vs W fun e W' => e = .returned (.bool true) ∧ (∀ b, b < W.heap.size → W'.heap[b]? = W.heap[b]?) ∧ W.heap.size ≤ W'.heap.size ∧ W'.os = W.os ∧ W'.output = W.output := by
 letI := zb W
 unfold EVs at he
 obtain ⟨q, h1, h2⟩ := qpq.1 he
 have := qnr (qob (qpg hv)) hx (r := q.1) (H' := q.2) h1 ha (wldU W)
 refine this.mono fun e W' ⟨v, hv, C', μ', p1, p2, p3⟩ => ?_
 rw [h2] at p1
 cases p1
 refine ⟨hv, fun b hb => (p3.fr b hb xe).1, p3.size, p3.os, p3.output⟩
theorem qjF : "*" ++ "errors.errorString" = "*errors.errorString" := by decide
theorem ql0 (u : TypeId) (h : Tryz.prog.typeName? 3 u = some "*errors.errorString") : u = 218 :=
 typeName_ptr_named (nm := "errors.errorString") (by rw [qjF]; kernel_rfl) (by kernel_rfl) (by decide) u (by rw [qjF]; exact h)
def qe5 : List (String × DataW Unit) := [("math/bits.deBruijn32tab", Rows.laid_math_bits_deBruijn32tab), ("math/bits.deBruijn64tab", Rows.laid_math_bits_deBruijn64tab), ("internal/strconv.uint64pow10", Rows.laid_internal_strconv_uint64pow10), ("strconv.ErrRange", Rows.laid_strconv_ErrRange), ("strconv.ErrSyntax", Rows.laid_strconv_ErrSyntax)]
theorem qpf {W : World} (hsh : W.ShapedOpen Tryz.prog) (h : laidMetH Tryz.prog qe5 W) : VarsW W := by
 rw [MakeChecks.laidMetH_plain _ _ _ (by kernel_rfl)] at h
 have h3 := h.tail.tail.tail
 have g3 : Tryz.prog.globalNamed "strconv.ErrRange" = some 3 := by kernel_rfl
 have g2 : Tryz.prog.globalNamed "strconv.ErrSyntax" = some 2 := by kernel_rfl
 have g1 : Tryz.prog.globalNamed "internal/strconv.uint64pow10" = some 1 := by kernel_rfl
 have etab : (Rows.laid_internal_strconv_uint64pow10 : DataW Unit) = Lib.tabData .u64 Lib.pow10Tab := by kernel_rfl
 have t3 : (Tryz.prog.globals[3]?).map (·.type) = some 108 := by kernel_rfl
 have t2 : (Tryz.prog.globals[2]?).map (·.type) = some 108 := by kernel_rfl
 have c1 : Tryz.prog.cellsOf 220 = 1 := by kernel_rfl
 have c2 : Tryz.prog.cellsOf 9 = 1 := by kernel_rfl
 obtain ⟨a, sa, va, _⟩ := laid_sentinel h3 g3 t3 Tryz.underlying108 ql0 Tryz.underlying218 Tryz.underlying220 rfl rfl Tryz.underlying9 c1 c2
 obtain ⟨b, sb, vb, _⟩ := laid_sentinel h3.tail g2 t2 Tryz.underlying108 ql0 Tryz.underlying218 Tryz.underlying220 rfl rfl Tryz.underlying9 c1 c2
 exact ⟨Tryz.laysM144.s1_3 W hsh, ⟨_, by simpa using World.var?_cell g2 vb 0, .inr ⟨_, _, rfl⟩⟩, ⟨_, by simpa using World.var?_cell g3 va 0, .inr ⟨_, _, rfl⟩⟩,
  Go.Lib.tabIs_of_head (t := 192) (e := 141) (n := 20) g1 (by kernel_rfl) Tryz.underlying192 Tryz.underlying141 (by kernel_rfl) (by kernel_rfl) (by rw [← etab]; exact h.tail.tail)⟩
theorem metU (os : Os) (args : Array Value) : laidMetH Tryz.prog qe5 ((World.doorLaid Tryz.prog 400 os).forCall (fun _ _ => 0) ⟨#[], args, []⟩).memory :=
 laidMetH_of_parts3 (fuel := 8) (laidMet_of_run' 8 (by kernel_rfl) (by kernel_rfl)) (by kernel_rfl) (by kernel_rfl)
noncomputable def qnm : Den := evC cfg (EV cfg) 112 none 0 (sub (qm Tryz.f112) [1, 1, 1, 0, 1, 0, 0])
noncomputable def qny : Ex × List AV × AH → Option AV := kAft (Cfg.keepOut cfg 112 4) (kRun cfg (EV cfg) (kfN cfg 6) 112 none 0 (xB cfg (Cfg.lift cfg 112 0) Tryz.f112.results.toList) ([.block 0, .seq (sub (qm Tryz.f112) [1, 1, 1, 1])]))
noncomputable def qnd : List AV × AH → Option AV := fun p => kOpt (LOOP 0 (some [3, 8, 9, 10]) ([]) qnm p) qny
noncomputable def qnl : Den := evC cfg (EV cfg) 114 none 1 (sub (qm Tryz.f114) [1, 0, 0])
noncomputable def qnx : Ex × List AV × AH → Option (AV × List UInt8) := kAft (Cfg.keepOut cfg 114 1) (kRun cfg (EV cfg) (kfN cfg 6) 114 none 1 (qdp cfg 104 5 (Cfg.lift cfg 114 0) Tryz.f114.results.toList) ([.block 0]))
noncomputable def qnc : List AV × AH → Option (AV × List UInt8) := fun p => kOpt (LOOP 1 (some [0, 6, 7, 8]) ([]) qnl p) qnx
noncomputable def qnk : Den := evC cfg (EV cfg) 115 none 1 (sub (qm Tryz.f115) [1, 0, 1, 1, 1, 0, 0, 0])
noncomputable def qnw : Ex × List AV × AH → Option (AV × List UInt8) := kAft (Cfg.keepOut cfg 115 (qj (sub (qm Tryz.f115) [1, 0, 1, 1, 1, 0, 0, 0]))) (xV 0 (kSeq (fun (fr : List AV) (H : AH) => qbp (Cfg.cut cfg 115 (qj (sub (qm Tryz.f115) [1, 0, 1, 1, 1, 1]))) fr H fun (fr : List AV) (H : AH) => qY cfg (EV cfg) (kfN cfg 6) 115 none 1 (sub (qm Tryz.f115) [1, 0, 1, 1, 1, 1]) fr H (qcM (qdp cfg 104 5 (Cfg.lift cfg 115 0) (Array.toList (Func.results Tryz.f115))))) (qcM (qdp cfg 104 5 (Cfg.lift cfg 115 0) (Array.toList (Func.results Tryz.f115))))))
noncomputable def qnb : List AV × AH → Option (AV × List UInt8) := fun (p : List AV × AH) => kOpt (LOOP 1 (some [0, 3, 4]) [] qnk p) qnw
noncomputable def qoo : Den := evC cfg (EV cfg) 65 none 1 (sub (qm Tryz.f65) [1, 1, 1, 0, 1, 1, 1, 1, 1, 1, 1, 1, 1, 1, 1, 0, 1, 0, 1, 0, 0])
noncomputable def qov : Ex × List AV × AH → Option (AV × List UInt8) := kAft (Cfg.keepOut cfg 65 (qj (sub (qm Tryz.f65) [1, 1, 1, 0, 1, 1, 1, 1, 1, 1, 1, 1, 1, 1, 1, 0, 1, 0, 1, 0, 0]))) (xV 1 (kSeq (fun (fr : List AV) (H : AH) => qbp (Cfg.cut cfg 65 (qj (sub (qm Tryz.f65) [1, 1, 1, 0, 1, 1, 1, 1, 1, 1, 1, 1, 1, 1, 1, 0, 1, 1]))) fr H fun (fr : List AV) (H : AH) => qY cfg (EV cfg) (kfN cfg 6) 65 none 1 (sub (qm Tryz.f65) [1, 1, 1, 0, 1, 1, 1, 1, 1, 1, 1, 1, 1, 1, 1, 0, 1, 1]) fr H (xV 0 (qdp cfg 104 5 (Cfg.lift cfg 65 0) (Array.toList (Func.results Tryz.f65))))) (xV 0 (qdp cfg 104 5 (Cfg.lift cfg 65 0) (Array.toList (Func.results Tryz.f65))))))
noncomputable def qoh : List AV × AH → Option (AV × List UInt8) := fun (p : List AV × AH) => kOpt (LOOP 1 (some [0, 76, 77, 78]) [] qoo p) qov
noncomputable abbrev zo (s : Bz) (q : AV × List UInt8) (v10 : Int) (h1 : Rz) : Option (AV) := qnd  (((fx 51 [(3, .ptr 0 0 0), (8, .ms 1 0 (qpw s)), (9, .int .i64 (s.length : Int)), (10, .int .i64 v10)]) : List AV), ([.bld 102 5 q.2, .rows true 1 h1] : AH))
noncomputable abbrev qbf (l : Rz) (b : Bz) (v8 : Int) : Option (AV × List UInt8) := qnc  (((fx 23 [(0, .ptr 0 0 0), (6, .sl l), (7, .int .i64 (l.length : Int)), (8, .int .i64 v8)]) : List AV), ([.bld 104 5 b] : AH))
noncomputable abbrev qbe (q : AV × List UInt8) (v4 : Bz) (c1_0 c1_1 : Int) (c1_2 : Bz) (c1_3 : Rz) : Option (AV × List UInt8) := qnb  (((fx 41 [(0, .ptr 0 0 0), (3, .ptr 1 0 0), (4, .str v4)]) : List AV), ([.bld 104 5 q.2, .rows false 4 [[.int .i64 c1_0, .int .i64 c1_1, .str c1_2, .sl c1_3]]] : AH))
noncomputable abbrev qdc (l : Rz) (q : AV × List UInt8) (v78 : Int) : Option (AV × List UInt8) := qoh  (((fx 108 [(0, .ptr 0 0 0), (76, .sl l), (77, .int .i64 (l.length : Int)), (78, .int .i64 v78)]) : List AV), ([.bld 104 5 q.2] : AH))
theorem qiG (c : Int) {P : AV → Prop} (h : Gets (bif decide (c ≥ 97) then some (.bool (decide (c ≤ 122))) else some (.bool false)) P) : Gets (EVs (EV cfg) 150 [.int .u8 c]) P :=
  gE (fun _ => funS rfl rfl Tryz.func150 rfl) (by kernel_rfl) h
noncomputable abbrev za2 (c : Int) : Option (AV) := bif c == 95 then some (.bool true) else some (.bool (c == 64))
noncomputable abbrev za1 (c : Int) : Option (AV) := bif decide (c ≤ 57) then some (.bool true) else za2 c
noncomputable abbrev za0 (c : Int) : Option (AV) := bif decide (c ≥ 48) then za1 c else za2 c
theorem qhi (c : Int) {P : AV → Prop} (h : Gets (kOpt (EVs (EV cfg) 150 [AV.int .u8 c]) fun v => qB v fun b => bif b then some (.bool true) else bif decide (c ≥ 65) then bif decide (c ≤ 90) then some (.bool true) else za0 c else za0 c) P) : Gets (EVs (EV cfg) 152 [.int .u8 c]) P :=
  gE (fun _ => funS rfl rfl Tryz.func152 rfl) (by kernel_rfl) h
theorem qfR (c : Int) {P : AV → Prop} (h : Gets (kOpt (EVs (EV cfg) 152 [AV.int .u8 c]) fun v => qB v fun b => some (.bool ! b)) P) : Gets (EVs (EV cfg) 151 [.int .u8 c]) P :=
  gE (fun _ => funS rfl rfl Tryz.func151 rfl) (by kernel_rfl) h
theorem qiH (s : Bz) {P : AV → Prop} (h : Gets (bif s == [] then some (.bool false) else bif decide ((s.length : Int) > 64) then some (.bool false) else kOpt (qpA s 0) fun b => kOpt (EVs (EV cfg) 150 [AV.int .u8 (↑ (UInt8.toNat b) : Int)]) fun v => qB v fun b => bif ! b then some (.bool false) else kOpt (bif qpG (1 + qpw s) 9223372036854775807 then some (.str ((32 : UInt8) :: s)) else none) fun v => kStr v fun s_1 => kOpt (bif qpG (qpw s_1 + 1) 9223372036854775807 then some (.str (qpQ s_1 [(32 : UInt8)])) else none) fun v => kStr v fun s_2 => kOpt (EVs (EV cfg) 59 [AV.str [(32 : UInt8), (97 : UInt8), (102 : UInt8), (116 : UInt8), (101 : UInt8), (114 : UInt8), (32 : UInt8), (97 : UInt8), (110 : UInt8), (100 : UInt8), (32 : UInt8), (97 : UInt8), (110 : UInt8), (100 : UInt8), (97 : UInt8), (108 : UInt8), (115 : UInt8), (111 : UInt8), (32 : UInt8), (98 : UInt8), (101 : UInt8), (103 : UInt8), (105 : UInt8), (110 : UInt8), (32 : UInt8), (99 : UInt8), (97 : UInt8), (115 : UInt8), (101 : UInt8), (32 : UInt8), (99 : UInt8), (97 : UInt8), (116 : UInt8), (99 : UInt8), (104 : UInt8), (32 : UInt8), (100 : UInt8), (105 : UInt8), (118 : UInt8), (32 : UInt8), (101 : UInt8), (110 : UInt8), (100 : UInt8), (32 : UInt8), (102 : UInt8), (117 : UInt8), (110 : UInt8), (32 : UInt8), (110 : UInt8), (111 : UInt8), (116 : UInt8), (32 : UInt8), (111 : UInt8), (102 : UInt8), (32 : UInt8), (111 : UInt8), (114 : UInt8), (32 : UInt8), (111 : UInt8), (114 : UInt8), (101 : UInt8), (108 : UInt8), (115 : UInt8), (101 : UInt8), (32 : UInt8), (114 : UInt8), (101 : UInt8), (99 : UInt8), (101 : UInt8), (105 : UInt8), (118 : UInt8), (101 : UInt8), (32 : UInt8), (114 : UInt8), (101 : UInt8), (109 : UInt8), (32 : UInt8), (116 : UInt8), (114 : UInt8), (121 : UInt8), (32 : UInt8), (119 : UInt8), (104 : UInt8), (101 : UInt8), (110 : UInt8), (32 : UInt8)], .str s_2]) fun v => qB v fun b => bif b then some (.bool false) else bif qpG (0 + qpw s) (qpw (List.map (fun b => [AV.int .u8 (↑ (UInt8.toNat b) : Int)]) s)) && true then kOpt (EVs (EV cfg) 56 [.sl (qpO (qpw s) (List.map (fun b => [AV.int .u8 (↑ (UInt8.toNat b) : Int)]) s)), AV.fn (Fn.func 151) [] []]) fun v => qB v fun b => some (.bool ! b) else none) P) : Gets (EVs (EV cfg) 111 [.str s]) P :=
  gE (fun _ => funS rfl rfl Tryz.func111 rfl) (by kernel_rfl) h
theorem qhh (s : Bz) {P : AV → Prop} (h : Gets (kOpt (EVb (EV cfg) 113 [.ptr 0 0 0, .int .u8 39] 102 5 []) fun q => zo s q 0 (List.map (fun b => [AV.int .u8 (↑ (UInt8.toNat b) : Int)]) s)) P) : Gets (EVs (EV cfg) 112 [.str s]) P :=
  gE (fun _ => funS rfl rfl Tryz.func112 rfl) (by kernel_rfl) h
theorem qle (l : Rz) (b : Bz) {P : AV × List UInt8 → Prop} (h : Gets (qbf l b 0) P) : Gets (EVb (EV cfg) 114 [.ptr 0 0 0, .sl l] 104 5 b) P :=
  gE (fun _ => funB rfl rfl Tryz.func114 rfl) (by kernel_rfl) h
theorem qjV (k n : Int) (s : Bz) (l : Rz) (b : Bz) {P : AV × List UInt8 → Prop} (h : Gets (kOpt (EVb (EV cfg) 113 [.ptr 0 0 0, .int .u8 91] 104 5 b) fun q => qbe q [] k n s l) P) : Gets (EVb (EV cfg) 115 [.ptr 0 0 0, .agg [.int .i64 k, .int .i64 n, .str s, .sl l]] 104 5 b) P :=
  gE (fun _ => funB rfl rfl Tryz.func115 rfl) (by kernel_rfl) h
noncomputable abbrev za7 (cs : List AV) (q : AV × List UInt8) : Option (AV × List UInt8) := qv cs fun c cs => kNil cs (some (AV.tup [], q.2))
noncomputable abbrev za6 (c : AV) (cs : List AV) (q : AV × List UInt8) : Option (AV × List UInt8) := kInt .i64 c fun n => za7 cs q
noncomputable abbrev za5 (cs : List AV) (q : AV × List UInt8) : Option (AV × List UInt8) := qv cs fun c cs => za6 c cs q
noncomputable abbrev za4 (q : AV × List UInt8) : Option (AV × List UInt8) := kTup q.1 fun cs => za5 cs q
noncomputable abbrev za3 (s_1 b : Bz) : Option (AV × List UInt8) := kOpt (EVb (EV cfg) 68 [.ptr 0 0 0, .str s_1] 104 5 b) fun q => za4 q
noncomputable abbrev za8 (v : AV) (b : Bz) : Option (AV × List UInt8) := kStr v fun s => za3 s b
noncomputable abbrev za10 (s b : Bz) : Option (AV × List UInt8) := kOpt (bif qpG (qpw s + 1) 9223372036854775807 then some (.str (qpQ s [(62 : UInt8)])) else none) fun v => za8 v b
noncomputable abbrev za9 (v : AV) (b : Bz) : Option (AV × List UInt8) := kStr v fun s => za10 s b
theorem qjU (k n : Int) (s : Bz) (l : Rz) (b : Bz) {P : AV × List UInt8 → Prop} (h : Gets (kOpt (EVs (EV cfg) 29 [AV.int .i64 n]) fun v => kStr v fun s_1 => bif k == 1 then za3 s_1 b else bif k == 2 then kOpt (EVs (EV cfg) 111 [.str s]) fun v => qB v fun b_1 => bif b_1 then za3 s b else kOpt (EVs (EV cfg) 112 [.str s]) fun v => za8 v b else bif k == (3 : Int) then kOpt (bif qpG (5 + qpw s_1) 9223372036854775807 then some (.str ((35 : UInt8) :: (82 : UInt8) :: (101 : UInt8) :: (102 : UInt8) :: (60 : UInt8) :: s_1)) else none) fun v => za9 v b else bif k == 4 then kOpt (bif qpG (5 + qpw s_1) 9223372036854775807 then some (.str ((35 : UInt8) :: (84 : UInt8) :: (105 : UInt8) :: (100 : UInt8) :: (60 : UInt8) :: s_1)) else none) fun v => za9 v b else bif k == 6 then kOpt (bif qpG (3 + qpw s_1) 9223372036854775807 then some (.str ((60 : UInt8) :: (48 : UInt8) :: (46 : UInt8) :: s_1)) else none) fun v => kStr v fun s => kOpt (bif qpG (qpw s + 3) 9223372036854775807 then some (.str (qpQ s [(46 : UInt8), (48 : UInt8), (62 : UInt8)])) else none) fun v => za8 v b else bif k == 5 then kOpt (bif qpG (5 + qpw s_1) 9223372036854775807 then some (.str ((35 : UInt8) :: (70 : UInt8) :: (117 : UInt8) :: (110 : UInt8) :: (60 : UInt8) :: s_1)) else none) fun v => kStr v fun s => kOpt (EVb (EV cfg) 68 [.ptr 0 0 0, .str s] 104 5 b) fun q => kTup q.1 fun cs => qv cs fun c cs => kInt .i64 c fun n => qv cs fun c cs => kNil cs (qdc l q 0) else bif k == 7 then kOpt (EVb (EV cfg) 113 [.ptr 0 0 0, .int .u8 (123 : Int)] 104 5 b) fun q => kOpt (EVb (EV cfg) 114 [.ptr 0 0 0, .sl l] 104 5 q.2) fun q => kOpt (EVb (EV cfg) 113 [.ptr 0 0 0, .int .u8 125] 104 5 q.2) fun q => some (AV.tup [], q.2) else kOpt (EVb (EV cfg) 115 [.ptr 0 0 0, .agg [.int .i64 k, .int .i64 n, .str s, .sl l]] 104 5 b) fun q => some (AV.tup [], q.2)) P) : Gets (EVb (EV cfg) 65 [.ptr 0 0 0, .agg [.int .i64 k, .int .i64 n, .str s, .sl l]] 104 5 b) P :=
  gE (fun _ => funB rfl rfl Tryz.func65 rfl) (by kernel_rfl) h
theorem qiF (k n : Int) (s : Bz) (l : Rz) {P : AV → Prop} (h : Gets (kOpt (EVs (EV cfg) 64 [.agg [.int .i64 k, .int .i64 n, .str s, .sl l]]) fun v => kInt .i64 v fun n_1 => bif n_1 != 0 then some (AV.tup [.str [], .int .i64 n_1]) else kOpt (EVb (EV cfg) 65 [.ptr 0 0 0, .agg [.int .i64 k, .int .i64 n, .str s, .sl l]] 104 5 []) fun q => kOpt (EVb (EV cfg) 66 [.ptr 0 0 0] 104 5 q.2) fun q => kStr q.1 fun s => some (AV.tup [.str s, .int .i64 0])) P) : Gets (EVf (EV cfg) 30 [.agg [.int .i64 k, .int .i64 n, .str s, .sl l]]) P :=
  gE (fun _ => funF rfl rfl Tryz.func30 rfl) (by kernel_rfl) h
noncomputable abbrev za11 (n : Int) (q : AV × List UInt8) (s : Bz) (v10 : Int) (h1 : Rz) : Option (AV) := kOpt (EVb (EV cfg) 113 [.ptr 0 0 0, .int .u8 n] 102 5 q.2) fun q => zo s q (IntKind.wrap .i64 (v10 + 1)) h1
noncomputable abbrev za13 (s_2 : Bz) (q : AV × List UInt8) (s : Bz) (v10 : Int) (h1 : Rz) : Option (AV) := kOpt (EVb (EV cfg) 68 [.ptr 0 0 0, .str s_2] 102 5 q.2) fun q => kTup q.1 fun cs => qv cs fun c cs => kInt .i64 c fun n => qv cs fun c cs => kNil cs (zo s q (IntKind.wrap .i64 (v10 + 1)) h1)
noncomputable abbrev za12 (v : AV) (q : AV × List UInt8) (s : Bz) (v10 : Int) (h1 : Rz) : Option (AV) := kStr v fun s_2 => za13 s_2 q s v10 h1
theorem qcl (s : Bz) (q : AV × List UInt8) (v10 : Int) (h1 : Rz) {P : AV → Prop} (h : Gets (bif decide (v10 < (s.length : Int)) then bif qf 0 v10 && qL v10 (s.length : Int) then kOpt (qpA h1 (0 + v10.toNat)) fun row => kOpt (qpA row 0) fun v => kInt .u8 v fun n => bif n == 39 then kOpt (EVb (EV cfg) 113 [.ptr 0 0 0, .int .u8 92] 102 5 q.2) fun q => za11 n q s v10 h1 else bif n == 92 then kOpt (EVb (EV cfg) 113 [.ptr 0 0 0, .int .u8 92] 102 5 q.2) fun q => za11 n q s v10 h1 else bif decide (n < 32) then kOpt (qz (Op.shift BinOp.shr .u8 n .u64 4)) fun v => kInt .u8 v fun n_1 => kOpt (qz (Op.shift BinOp.shr .u8 n .u64 4)) fun v => kInt .u8 v fun n_2 => bif qf 0 (IntKind.wrap .u8 (n_2 + 1)) && qf (IntKind.wrap .u8 (n_2 + 1)) 16 then bif qf 0 n_1 && qf n_1 (↑ (Int.toNat (IntKind.wrap .u8 (n_2 + 1))) : Int) then kOpt (bif qpG (2 + qpw (qpO (Int.toNat (IntKind.wrap .u8 (n_2 + 1)) - n_1.toNat) (List.drop (n_1.toNat) [(48 : UInt8), (49 : UInt8), (50 : UInt8), (51 : UInt8), (52 : UInt8), (53 : UInt8), (54 : UInt8), (55 : UInt8), (56 : UInt8), (57 : UInt8), (97 : UInt8), (98 : UInt8), (99 : UInt8), (100 : UInt8), (101 : UInt8), (102 : UInt8)]))) 9223372036854775807 then some (AV.str ((92 : UInt8) :: (120 : UInt8) :: qpO (Int.toNat (IntKind.wrap .u8 (n_2 + 1)) - n_1.toNat) (List.drop (n_1.toNat) [(48 : UInt8), (49 : UInt8), (50 : UInt8), (51 : UInt8), (52 : UInt8), (53 : UInt8), (54 : UInt8), (55 : UInt8), (56 : UInt8), (57 : UInt8), (97 : UInt8), (98 : UInt8), (99 : UInt8), (100 : UInt8), (101 : UInt8), (102 : UInt8)]))) else none) fun v => kStr v fun s_1 => kOpt (qz (Op.intBits BinOp.and .u8 n 15)) fun v => kInt .u8 v fun n_3 => kOpt (qz (Op.intBits BinOp.and .u8 n 15)) fun v => kInt .u8 v fun n => bif qf 0 (IntKind.wrap .u8 (n + 1)) && qf (IntKind.wrap .u8 (n + 1)) 16 then bif qf 0 n_3 && qf n_3 (↑ (Int.toNat (IntKind.wrap .u8 (n + 1))) : Int) then kOpt (bif qpG (qpw s_1 + qpw (qpO (Int.toNat (IntKind.wrap .u8 (n + 1)) - n_3.toNat) (List.drop (n_3.toNat) [(48 : UInt8), (49 : UInt8), (50 : UInt8), (51 : UInt8), (52 : UInt8), (53 : UInt8), (54 : UInt8), (55 : UInt8), (56 : UInt8), (57 : UInt8), (97 : UInt8), (98 : UInt8), (99 : UInt8), (100 : UInt8), (101 : UInt8), (102 : UInt8)]))) 9223372036854775807 then some (AV.str (qpQ s_1 (qpO (Int.toNat (IntKind.wrap .u8 (n + 1)) - n_3.toNat) (List.drop (n_3.toNat) [(48 : UInt8), (49 : UInt8), (50 : UInt8), (51 : UInt8), (52 : UInt8), (53 : UInt8), (54 : UInt8), (55 : UInt8), (56 : UInt8), (57 : UInt8), (97 : UInt8), (98 : UInt8), (99 : UInt8), (100 : UInt8), (101 : UInt8), (102 : UInt8)])))) else none) fun v => za12 v q s v10 h1 else none else none else none else none else bif decide (n > 126) then kOpt (qz (Op.shift BinOp.shr .u8 n .u64 4)) fun v => kInt .u8 v fun n_1 => kOpt (qz (Op.shift BinOp.shr .u8 n .u64 4)) fun v => kInt .u8 v fun n_2 => bif qf 0 (IntKind.wrap .u8 (n_2 + 1)) && qf (IntKind.wrap .u8 (n_2 + 1)) 16 then bif qf 0 n_1 && qf n_1 (↑ (Int.toNat (IntKind.wrap .u8 (n_2 + 1))) : Int) then kOpt (bif qpG (2 + qpw (qpO (Int.toNat (IntKind.wrap .u8 (n_2 + 1)) - n_1.toNat) (List.drop (n_1.toNat) [(48 : UInt8), (49 : UInt8), (50 : UInt8), (51 : UInt8), (52 : UInt8), (53 : UInt8), (54 : UInt8), (55 : UInt8), (56 : UInt8), (57 : UInt8), (97 : UInt8), (98 : UInt8), (99 : UInt8), (100 : UInt8), (101 : UInt8), (102 : UInt8)]))) 9223372036854775807 then some (AV.str ((92 : UInt8) :: (120 : UInt8) :: qpO (Int.toNat (IntKind.wrap .u8 (n_2 + (1 : Int))) - n_1.toNat) (List.drop (n_1.toNat) [(48 : UInt8), (49 : UInt8), (50 : UInt8), (51 : UInt8), (52 : UInt8), (53 : UInt8), (54 : UInt8), (55 : UInt8), (56 : UInt8), (57 : UInt8), (97 : UInt8), (98 : UInt8), (99 : UInt8), (100 : UInt8), (101 : UInt8), (102 : UInt8)]))) else none) fun v => kStr v fun s_1 => kOpt (qz (Op.intBits BinOp.and .u8 n 15)) fun v => kInt .u8 v fun n_3 => kOpt (qz (Op.intBits BinOp.and .u8 n 15)) fun v => kInt .u8 v fun n => bif qf 0 (IntKind.wrap .u8 (n + 1)) && qf (IntKind.wrap .u8 (n + 1)) 16 then bif qf 0 n_3 && qf n_3 (↑ (Int.toNat (IntKind.wrap .u8 (n + (1 : Int)))) : Int) then kOpt (bif qpG (qpw s_1 + qpw (qpO (Int.toNat (IntKind.wrap .u8 (n + 1)) - n_3.toNat) (List.drop (n_3.toNat) [(48 : UInt8), (49 : UInt8), (50 : UInt8), (51 : UInt8), (52 : UInt8), (53 : UInt8), (54 : UInt8), (55 : UInt8), (56 : UInt8), (57 : UInt8), (97 : UInt8), (98 : UInt8), (99 : UInt8), (100 : UInt8), (101 : UInt8), (102 : UInt8)]))) 9223372036854775807 then some (AV.str (qpQ s_1 (qpO (Int.toNat (IntKind.wrap .u8 (n + 1)) - n_3.toNat) (List.drop (Int.toNat n_3) [(48 : UInt8), (49 : UInt8), (50 : UInt8), (51 : UInt8), (52 : UInt8), (53 : UInt8), (54 : UInt8), (55 : UInt8), (56 : UInt8), (57 : UInt8), (97 : UInt8), (98 : UInt8), (99 : UInt8), (100 : UInt8), (101 : UInt8), (102 : UInt8)])))) else none) fun v => za12 v q s v10 h1 else none else none else none else none else za11 n q s v10 h1 else none else kOpt (EVb (EV cfg) 113 [.ptr 0 0 0, .int .u8 39] 102 5 q.2) fun q => kOpt (EVb (EV cfg) 66 [.ptr 0 0 0] 102 5 q.2) fun q => kStr q.1 fun s => some (.str s)) P) : Gets (zo s q v10 h1) P :=
  gE (fun _ => qP (cfg := cfg) (f := 112) (rd := none) (bs := 0)) (by kernel_rfl) h
theorem qck (l : Rz) (b : Bz) (v8 : Int) {P : AV × List UInt8 → Prop} (h : Gets (bif decide (v8 < (l.length : Int)) then bif qf 0 v8 && qL v8 (l.length : Int) then kOpt (qpA l (v8.toNat)) fun row => bif qpJ (qpw row) 4 then bif qpG 4 (qpw row) then kTmC (qpO 4 row) fun n n_1 s rows => (bif decide (v8 > 0) then kOpt (EVb (EV cfg) 113 [.ptr 0 0 0, .int .u8 44] 104 5 b) fun q => kOpt (EVb (EV cfg) 65 [.ptr 0 0 0, .agg [.int .i64 n, .int .i64 n_1, .str s, .sl rows]] 104 5 q.2) fun q => qbf l q.2 (IntKind.wrap .i64 (v8 + 1)) else kOpt (EVb (EV cfg) 65 [.ptr 0 0 0, .agg [.int .i64 n, .int .i64 n_1, .str s, .sl rows]] 104 5 b) fun q => qbf l q.2 (IntKind.wrap .i64 (v8 + 1))) else none else none else none else some (AV.tup [], b)) P) : Gets (qbf l b v8) P :=
  gE (fun _ => qP (cfg := cfg) (f := 114) (rd := none) (bs := 1)) (by kernel_rfl) h
theorem qap (q : AV × List UInt8) (v4 : Bz) (c1_0 c1_1 : Int) (c1_2 : Bz) (c1_3 : Rz) {P : AV × List UInt8 → Prop} (h : Gets (bif c1_0 == 9 then kOpt (EVb (EV cfg) 68 [.ptr 0 0 0, .str v4] 104 5 q.2) fun q => kTup q.1 fun cs => qv cs fun c cs => kInt .i64 c fun n => qv cs fun c cs => kNil cs (bif qL 0 (c1_3.length : Int) then kOpt (qpA c1_3 0) fun row => bif qpJ (qpw row) 4 then bif qpG 4 (qpw row) then kTmC (qpO 4 row) fun n n_1 s rows => (kOpt (EVb (EV cfg) 65 [.ptr 0 0 0, .agg [.int .i64 n, .int .i64 n_1, .str s, .sl rows]] 104 5 q.2) fun q => bif qL 1 (c1_3.length : Int) then kOpt (qpA c1_3 1) fun row => bif qpJ (qpw row) 4 then bif qpG 4 (qpw row) then kTmC (qpO 4 row) fun n n_2 s rows => (qbe q [(44 : UInt8)] n n_2 s rows) else none else none else none) else none else none else none) else bif c1_0 == 8 then kOpt (EVb (EV cfg) 113 [.ptr 0 0 0, .int .u8 93] 104 5 q.2) fun q => some (AV.tup [], q.2) else kOpt (EVb (EV cfg) 113 [.ptr 0 0 0, .int .u8 124] 104 5 q.2) fun q => kOpt (EVb (EV cfg) 65 [.ptr 0 0 0, .agg [.int .i64 c1_0, .int .i64 c1_1, .str c1_2, .sl c1_3]] 104 5 q.2) fun q => kOpt (EVb (EV cfg) 113 [.ptr 0 0 0, .int .u8 (93 : Int)] 104 5 q.2) fun q => some (AV.tup [], q.2)) P) : Gets (qbe q v4 c1_0 c1_1 c1_2 c1_3) P :=
  gE (fun _ => qP (cfg := cfg) (f := 115) (rd := none) (bs := 1)) (by kernel_rfl) h
theorem qcm (l : Rz) (q : AV × List UInt8) (v78 : Int) {P : AV × List UInt8 → Prop} (h : Gets (bif decide (v78 < (l.length : Int)) then bif qf 0 v78 && qL v78 (l.length : Int) then kOpt (qpA l (v78.toNat)) fun row => bif qpJ (qpw row) 4 then bif qpG 4 (qpw row) then kTmC (qpO 4 row) fun n n_1 s rows => (kOpt (EVb (EV cfg) 113 [.ptr 0 0 0, .int .u8 44] 104 5 q.2) fun q => kOpt (EVb (EV cfg) 65 [.ptr 0 0 0, .agg [.int .i64 n, .int .i64 n_1, .str s, .sl rows]] 104 5 q.2) fun q => qdc l q (IntKind.wrap .i64 (v78 + 1))) else none else none else none else kOpt (EVb (EV cfg) 113 [.ptr 0 0 0, .int .u8 62] 104 5 q.2) fun q => some (AV.tup [], q.2)) P) : Gets (qdc l q v78) P :=
  gE (fun _ => qP (cfg := cfg) (f := 65) (rd := none) (bs := 1)) (by kernel_rfl) h
end Go.Proofs.YtnjonahoheopnaaGreatDoor
end
section
namespace Go.Av
open Go.Lib (contains index)
theorem contains_cons (b : UInt8) (l t : List UInt8) : contains (b :: l) t = (t.isPrefixOf (b :: l) || contains l t) := by
 unfold contains
 have h := Go.Lib.index_ge l t
 conv => lhs; unfold index
 cases t.isPrefixOf (b :: l) with
 | true => simp
 | false =>
  simp only [qpv, if_false, Bool.false_or]
  by_cases e : index l t = -1
  ·simp [e]
  ·have : (index l t == -1) = false := by simpa using e
   simp only [this, qpv, if_false]
   simp only [decide_eq_decide]
   omega
def catW : List (List UInt8) → List UInt8
 | [] => [32]
 | w :: ws => 32 :: (w ++ catW ws)
theorem ql4 : ∀ ws : List (List UInt8), ∃ r, catW ws = 32 :: r
 | [] => ⟨[], rfl⟩
 | w :: ws => ⟨_, rfl⟩
theorem qcg (u r : List UInt8) : ∀ w : List UInt8, (32 : UInt8) ∉ w → contains (w ++ r) (32 :: u) = contains r (32 :: u)
 | [], _ => rfl
 | c :: w, h => by
  simp only [qpM, not_or] at h
  rw [List.cons_append, contains_cons, qcg u r w h.2]
  have : ((32 : UInt8) :: u).isPrefixOf (c :: (w ++ r)) = false := by simp [List.isPrefixOf, h.1]
  rw [this]; rfl
theorem qdO (r : List UInt8) : ∀ (s w : List UInt8), (32 : UInt8) ∉ s → (32 : UInt8) ∉ w → (s ++ [32]).isPrefixOf (w ++ 32 :: r) = (s == w)
 | [], [], _, _ => by simp [List.isPrefixOf]
 | [], c :: w, _, h => by
  simp only [qpM, not_or] at h
  simp [List.isPrefixOf, h.1]
 | b :: s, [], h, _ => by
  simp only [qpM, not_or] at h
  have : (b == 32) = false := by simpa using fun e => h.1 e.symm
  simp [List.isPrefixOf, this]
 | b :: s, c :: w, h, h' => by
  simp only [qpM, not_or] at h h'
  have ih := qdO r s w h.2 h'.2
  simp only [List.cons_append, List.isPrefixOf, ih, List.cons_beq_cons]
theorem zU (s : List UInt8) (hs : (32 : UInt8) ∉ s) : ∀ ws : List (List UInt8), (∀ w ∈ ws, (32 : UInt8) ∉ w) → contains (catW ws) (32 :: (s ++ [32])) = ws.contains s
 | [], _ => by
  rw [show catW [] = [32] from rfl, contains_cons]
  have h1 : ((32 : UInt8) :: (s ++ [32])).isPrefixOf [32] = false := by cases s <;> simp [List.isPrefixOf]
  rw [h1]
  rfl
 | w :: ws, h => by
  obtain ⟨r, hr⟩ := ql4 ws
  rw [show catW (w :: ws) = 32 :: (w ++ catW ws) from rfl, contains_cons, qcg _ _ w (h w (by simp)), zU s hs ws (fun x hx => h x (by simp [hx]))]
  have : ((32 : UInt8) :: (s ++ [32])).isPrefixOf (32 :: (w ++ catW ws)) = (s == w) := by
   rw [hr, List.isPrefixOf]
   simp [qdO r s w hs (h w (by simp))]
  rw [this, List.contains_cons]
def qQ : List (List UInt8) := [[97, 102, 116, 101, 114], [97, 110, 100], [97, 110, 100, 97, 108, 115, 111], [98, 101, 103, 105, 110], [99, 97, 115, 101], [99, 97, 116, 99, 104], [100, 105, 118], [101, 110, 100], [102, 117, 110], [110, 111, 116], [111, 102], [111, 114], [111, 114, 101, 108, 115, 101], [114, 101, 99, 101, 105, 118, 101], [114, 101, 109], [116, 114, 121], [119, 104, 101, 110]]
def xj (c : UInt8) : Bool := decide (97 ≤ c.toNat) && decide (c.toNat ≤ 122)
def qp (c : UInt8) : Bool := xj c || (decide (65 ≤ c.toNat) && decide (c.toNat ≤ 90)) || (decide (48 ≤ c.toNat) && decide (c.toNat ≤ 57)) || c == 95 || c == 64
def yE (s : List UInt8) : Bool := (match s with | c :: _ => xj c | [] => false) && decide (s.length ≤ 64) && s.all qp && !qQ.contains s
def hexd (k : Nat) : UInt8 := ([48, 49, 50, 51, 52, 53, 54, 55, 56, 57, 97, 98, 99, 100, 101, 102] : List UInt8).getD k 0
def escB (b : UInt8) : List UInt8 := if b = 39 ∨ b = 92 then [92, b] else if b.toNat < 32 ∨ 126 < b.toNat then [92, 120, hexd (b.toNat / 16), hexd (b.toNat % 16)] else [b]
def xY (s : List UInt8) : List UInt8 := 39 :: (s.flatMap escB ++ [39])
theorem qmR (b : UInt8) : (escB b).length ≤ 4 := by unfold escB; split <;> (try split) <;> simp
theorem zu : ∀ s : List UInt8, (s.flatMap escB).length ≤ 4 * s.length
 | [] => by simp
 | b :: s => by
  have h1 := zu s
  have h2 := qmR b
  rw [List.flatMap_cons, qpD, qpC]
  omega
theorem qd7 {s : List UInt8} (h : s.all qp = true) : (32 : UInt8) ∉ s := by
 intro hm
 have := List.all_eq_true.1 h 32 hm
 exact absurd this (by decide)
end Go.Av
end
section
namespace Go.Proofs.YtnjonahoheopnaaGreatDoor
open Go.Av
theorem bldB : yx vn.look 102 5 = true := by kernel_rfl
theorem bldW : yx vn.look 104 5 = true := by kernel_rfl
theorem qeC {T : TypeId} (hT : yx vn.look T 5 = true) (b : UInt8) {s : List UInt8} (hl : s.length < 140737488355328) :
  EVb (EV cfg) 113 [.ptr 0 0 0, .int .u8 (b.toNat : Int)] T 5 s = some (.nilI, s ++ [b]) := by
 have hx : cfg.ext 113 = some (yn vn.look) := rfl
 have h1 : EV cfg (.f 113) [.ptr 0 0 0, .int .u8 (b.toNat : Int)] [.bld T 5 s] = some (.nilI, [.bld T 5 (s ++ [b])]) := by
  refine qah ?_
  unfold qZ
  simp only [hx]
  unfold yn
  have hb : (b.toNat : Int) ≤ 255 := by have := b.toNat_lt; omega
  simp only [if_pos (show yx vn.look T 5 = true ∧ 0 ≤ (b.toNat : Int) ∧ (b.toNat : Int) ≤ 255 ∧ s.length < 140737488355328 from ⟨hT, by omega, hb, hl⟩)]
  simp
 unfold EVb
 rw [h1]
 simp [qaK, AV.refsLt]
theorem qjK {T : TypeId} (hT : yx vn.look T 5 = true) {s t : List UInt8} (hl : s.length + t.length ≤ 140737488355328) :
  EVb (EV cfg) 68 [.ptr 0 0 0, .str t] T 5 s = some (.tup [.int .i64 t.length, .nilI], s ++ t) := by
 have hx : cfg.ext 68 = some (xK vn.look) := rfl
 have h1 : EV cfg (.f 68) [.ptr 0 0 0, .str t] [.bld T 5 s] = some (.tup [.int .i64 t.length, .nilI], [.bld T 5 (s ++ t)]) := by
  refine qah ?_
  unfold qZ
  simp only [hx]
  unfold xK
  simp only [if_pos (show yx vn.look T 5 = true ∧ s.length + t.length ≤ 140737488355328 from ⟨hT, hl⟩)]
 unfold EVb
 rw [h1]
 simp [qaK, AV.refsLt, qk]
theorem qlq {T : TypeId} (hT : yx vn.look T 5 = true) {s : List UInt8} (hl : s.length < 140737488355328) :
  EVb (EV cfg) 66 [.ptr 0 0 0] T 5 s = some (.str s, s) := by
 have hx : cfg.ext 66 = some (zO vn.look) := rfl
 have h1 : EV cfg (.f 66) [.ptr 0 0 0] [.bld T 5 s] = some (.str s, [.bld T 5 s]) := by
  refine qah ?_
  unfold qZ
  simp only [hx]
  unfold zO
  simp only [if_pos (show yx vn.look T 5 = true ∧ s.length < 140737488355328 from ⟨hT, hl⟩)]
 unfold EVb
 rw [h1]
 simp [qaK, AV.refsLt]
theorem qjz {n : Int} (h0 : -9223372036854775808 ≤ n) (h1 : n ≤ 9223372036854775807) : EVs (EV cfg) 29 [.int .i64 n] = some (.str (xl n)) := by
 refine qfK (H := []) (qah ?_)
 have hx : cfg.ext 29 = some qbt := rfl
 unfold qZ
 simp only [hx]
 unfold qbt
 simp only [if_pos (And.intro h0 h1)]
theorem qej {s t : List UInt8} (h : s.length < 4294967281) : EVs (EV cfg) 59 [.str s, .str t] = some (.bool (Go.Lib.contains s t)) := by
 refine qfK (H := []) (qah ?_)
 have hx : cfg.ext 59 = some yI := rfl
 unfold qZ
 simp only [hx]
 unfold yI
 simp only [if_pos h]
theorem qeE (b : UInt8) : EVs (EV cfg) 150 [.int .u8 (b.toNat : Int)] = some (.bool (xj b)) := by
 apply Gets.get
 refine qiG _ ?_
 unfold xj
 by_cases h : 97 ≤ b.toNat
 ·rw [decide_eq_true (show (b.toNat : Int) ≥ 97 by omega), decide_eq_true h]
  simp only [cond_true, qE, Bool.true_and, AV.bool.injEq, decide_eq_decide]
  omega
 ·rw [decide_eq_false (show ¬ (b.toNat : Int) ≥ 97 by omega), decide_eq_false h]
  simp
theorem vP (b c : UInt8) : ((b.toNat : Int) == (c.toNat : Int)) = (b == c) := by
 by_cases h : b = c
 ·subst h; simp
 ·have h1 : b.toNat ≠ c.toNat := fun e => h (UInt8.toNat_inj.1 e)
  have h2 : ((b.toNat : Int) == (c.toNat : Int)) = false := by rw [beq_eq_false_iff_ne]; omega
  rw [h2]; symm; simpa using h
theorem qiE (b : UInt8) : EVs (EV cfg) 152 [.int .u8 (b.toNat : Int)] = some (.bool (qp b)) := by
 apply Gets.get
 refine qhi _ ?_
 unfold za0 za1 za2
 rw [qeE]
 have e1 : ((b.toNat : Int) == 95) = (b == 95) := vP b 95
 have e2 : ((b.toNat : Int) == 64) = (b == 64) := vP b 64
 have d1 : decide ((b.toNat : Int) ≥ 65) = decide (65 ≤ b.toNat) := by simp only [decide_eq_decide]; omega
 have d2 : decide ((b.toNat : Int) ≤ 90) = decide (b.toNat ≤ 90) := by simp only [decide_eq_decide]; omega
 have d3 : decide ((b.toNat : Int) ≥ 48) = decide (48 ≤ b.toNat) := by simp only [decide_eq_decide]; omega
 have d4 : decide ((b.toNat : Int) ≤ 57) = decide (b.toNat ≤ 57) := by simp only [decide_eq_decide]; omega
 rw [e1, e2, d1, d2, d3, d4]
 unfold qp
 simp only [qa, qt]
 cases xj b <;> cases decide (65 ≤ b.toNat) <;> cases decide (b.toNat ≤ 90) <;> cases decide (48 ≤ b.toNat) <;> cases decide (b.toNat ≤ 57) <;> cases b == 95 <;> cases b == 64 <;> simp
theorem qgC (b : UInt8) : EVs (EV cfg) 151 [.int .u8 (b.toNat : Int)] = some (.bool (!qp b)) := by
 apply Gets.get
 refine qfR _ ?_
 rw [qiE]
 simp
noncomputable def qng : Den := evC cfg (EV cfg) 104 none 0 (sub (qm Tryz.f104) [1, 0, 1, 0, 0])
noncomputable def qns : Ex × List AV × AH → Option AV := kAft (Cfg.keepOut cfg 104 2) (kRun cfg (EV cfg) (kfN cfg 6) 104 none 0 (xB cfg (Cfg.lift cfg 104 0) Tryz.f104.results.toList) ([.block 0, .seq (sub (qm Tryz.f104) [1, 1])]))
noncomputable def qm7 : List AV × AH → Option AV := fun p => kOpt (LOOP 0 (some [0, 1, 7, 8]) ([]) qng p) qns
noncomputable abbrev qdb (l : Rz) (v8 : Int) : Option (AV) := qm7  (((fx 19 [(0, .sl l), (1, .fn (Fn.func 151) [] []), (7, .int .i64 (l.length : Int)), (8, .int .i64 v8)]) : List AV), ([] : AH))
theorem qfQ (l : Rz) {P : AV → Prop} (h : Gets (kOpt (EVs (EV cfg) 104 [.sl l, AV.fn (Fn.func 151) [] []]) fun v => kInt .i64 v fun n => some (.bool (decide (n ≥ 0)))) P) : Gets (EVs (EV cfg) 56 [.sl l, .fn (Fn.func 151) [] []]) P :=
  gE (fun _ => funS rfl rfl Tryz.func56 rfl) (by kernel_rfl) h
theorem qiB (l : Rz) {P : AV → Prop} (h : Gets (qdb l 0) P) : Gets (EVs (EV cfg) 104 [.sl l, .fn (Fn.func 151) [] []]) P :=
  gE (fun _ => funS rfl rfl Tryz.func104 rfl) (by kernel_rfl) h
theorem qcj (l : Rz) (v8 : Int) {P : AV → Prop} (h : Gets (bif decide (v8 < (l.length : Int)) then bif qf 0 v8 && qL v8 (l.length : Int) then kOpt (qpA l (v8.toNat)) fun row => bif qpJ (qpw row) 1 then kOpt (qpA row 0) fun v => kInt .u8 v fun n => kOpt (EVs (EV cfg) 151 [AV.int .u8 n]) fun v => qB v fun b => bif b then some (.int .i64 v8) else qdb l (IntKind.wrap .i64 (v8 + 1)) else none else none else some (.int .i64 (- 1))) P) : Gets (qdb l v8) P :=
  gE (fun _ => qP (cfg := cfg) (f := 104) (rd := none) (bs := 0)) (by kernel_rfl) h
abbrev bR (s : List UInt8) : List (List AV) := s.map fun b => [AV.int .u8 (b.toNat : Int)]
theorem qih {s : List UInt8} {i : Nat} {b : UInt8} (h : s[i]? = some b) : (bR s)[i]? = some [AV.int .u8 (b.toNat : Int)] := by simp [bR, h]
theorem qjP (s : List UInt8) (hl : s.length < 1099511627776) : Gets (EVs (EV cfg) 104 [.sl (bR s), .fn (.func 151) [] []]) (fun v => ∃ n : Int, v = .int .i64 n ∧ (decide (n ≥ 0) = !s.all qp)) := by
 refine qiB _ ?_
 have key : ∀ (k i : Nat), s.length - i = k → i ≤ s.length → (s.take i).all qp = true → Gets (qdb (bR s) (i : Int)) (fun v => ∃ n : Int, v = .int .i64 n ∧ (decide (n ≥ 0) = !s.all qp)) := by
  intro k
  induction k with
  | zero =>
   intro i hk hi ha
   refine qcj _ _ ?_
   have : i = s.length := by omega
   subst this
   simp only [qpN, decide_eq_false (show ¬ ((s.length : Int) < (s.length : Int)) by omega), cond_false, qE]
   rw [List.take_length] at ha
   exact ⟨-1, rfl, by rw [ha]; rfl⟩
  | succ k ih =>
   intro i hk hi ha
   refine qcj _ _ ?_
   have hlt : i < s.length := by omega
   obtain ⟨b, hb⟩ : ∃ b, s[i]? = some b := ⟨s[i], qpr hlt⟩
   rw [qpN, decide_eq_true (show (i : Int) < (s.length : Int) by omega), qI, vL, decide_eq_true hlt]
   simp only [cond_true, Bool.and_true, qo, Int.toNat_natCast, qih hb, qa, List.getElem?_cons_zero, qw, qgC, qt]
   cases hL : qp b with
   | false =>
    simp only [Bool.not_false, cond_true, qE]
    have : s.all qp = false := by
     rw [← qpI, List.all_eq_true]
     intro h
     have := h b (qpB hb)
     rw [hL] at this; cases this
    exact ⟨_, rfl, by rw [this]; simp⟩
   | true =>
    simp only [Bool.not_true, cond_false]
    rw [qW hlt hl]
    refine ih (i + 1) (by omega) hlt ?_
    rw [List.take_add_one, List.all_append, ha, hb]
    simp [hL]
 exact key _ 0 rfl (by omega) rfl
theorem qcz : ([32, 97, 102, 116, 101, 114, 32, 97, 110, 100, 32, 97, 110, 100, 97, 108, 115, 111, 32, 98, 101, 103, 105, 110, 32, 99, 97, 115, 101, 32, 99, 97, 116, 99, 104, 32, 100, 105, 118, 32, 101, 110, 100, 32, 102, 117, 110, 32, 110, 111, 116, 32, 111, 102, 32, 111, 114, 32, 111, 114, 101, 108, 115, 101, 32, 114, 101, 99, 101, 105, 118, 101, 32, 114, 101, 109, 32, 116, 114, 121, 32, 119, 104, 101, 110, 32] : List UInt8) = catW qQ := by decide
theorem qjT (s : List UInt8) (hl : s.length < 4294967200) : EVs (EV cfg) 111 [.str s] = some (.bool (yE s)) := by
 apply Gets.get
 refine qiH _ ?_
 unfold yE
 cases s with
 | nil => simp
 | cons b s =>
  have e0 : (b :: s == []) = false := rfl
  simp only [e0, cond_false]
  by_cases h64 : (b :: s).length ≤ 64
  ·rw [decide_eq_false (show ¬ (((b :: s).length : Int) > 64) by omega)]
   simp only [cond_false, qo, List.getElem?_cons_zero, qa, qeE, qt]
   cases hsm : xj b with
   | false => simp
   | true =>
    simp only [Bool.not_true, cond_false]
    rw [show qpG (1 + (b :: s).length) 9223372036854775807 = true by simp only [nble, decide_eq_true_eq]; omega]
    simp only [cond_true, qa, qh]
    rw [show qpG (((32 : UInt8) :: b :: s).length + 1) 9223372036854775807 = true by simp only [nble, decide_eq_true_eq, qpC] at *; omega]
    simp only [cond_true, qa, qh, qcz]
    rw [qej (by decide)]
    simp only [qa, qt, qpN, Nat.zero_add]
    rw [show qpG (b :: s).length (b :: s).length = true by simp, show qpO (b :: s).length ((b :: s).map fun b => [AV.int .u8 (b.toNat : Int)]) = bR (b :: s) from List.take_of_length_le (by simp)]
    simp only [Bool.and_self, cond_true]
    have hcf : EVs (EV cfg) 56 [.sl (bR (b :: s)), .fn (.func 151) [] []] = some (.bool (!(b :: s).all qp)) := by
     apply Gets.get
     refine qfQ _ ?_
     refine (qjP (b :: s) (by omega)).bind fun v ⟨n, hv, hn⟩ => ?_
     subst hv
     simp only [qw, qE, hn]
    rw [hcf]
    simp only [qa, qt, Bool.not_not, decide_eq_true h64, Bool.true_and, Bool.and_true]
    cases hL : (b :: s).all qp with
    | false => cases Go.Lib.contains (catW qQ) (qpQ (32 :: b :: s) [32]) <;> simp
    | true =>
     have := zU (b :: s) (qd7 hL) qQ (by decide)
     rw [show qpQ ((32 : UInt8) :: b :: s) [32] = 32 :: ((b :: s) ++ [32]) from rfl, this]
     cases qQ.contains (b :: s) <;> simp
  ·rw [decide_eq_true (show (((b :: s).length : Int) > 64) by omega)]
   have : decide ((b :: s).length ≤ 64) = false := decide_eq_false h64
   rw [this]
   simp
def qbq (o : Option AV) (x : Int) : Bool := match o with | some (.int .u8 y) => y == x | _ => false
theorem qaS {o : Option AV} {x : Int} (h : qbq o x = true) : o = some (.int .u8 x) := by
 unfold qbq at h
 split at h
 ·rw [beq_iff_eq] at h; subst h; rfl
 ·cases h
theorem shr4 (b : UInt8) : qz (Op.shift BinOp.shr .u8 (b.toNat : Int) .u64 4) = some (.int .u8 ((b.toNat / 16 : Nat) : Int)) := by
 have : ∀ n : Nat, n < 256 → qbq (qz (Op.shift BinOp.shr .u8 (n : Int) .u64 4)) ((n / 16 : Nat) : Int) = true := by decide +kernel
 exact qaS (this _ b.toNat_lt)
theorem qpl (b : UInt8) : qz (Op.intBits BinOp.and .u8 (b.toNat : Int) 15) = some (.int .u8 ((b.toNat % 16 : Nat) : Int)) := by
 have : ∀ n : Nat, n < 256 → qbq (qz (Op.intBits BinOp.and .u8 (n : Int) 15)) ((n % 16 : Nat) : Int) = true := by decide +kernel
 exact qaS (this _ b.toNat_lt)
theorem qgQ {k : Nat} (h : k < 16) : IntKind.wrap .u8 ((k : Int) + 1) = ((k + 1 : Nat) : Int) := by
 simp [IntKind.wrap, IntKind.bits, IntKind.signed]; omega
theorem zG {k : Nat} (h : k < 16) : qpO (k + 1 - k) (List.drop k ([48, 49, 50, 51, 52, 53, 54, 55, 56, 57, 97, 98, 99, 100, 101, 102] : List UInt8)) = [hexd k] := by
 have : ∀ k : Nat, k < 16 → qpO (k + 1 - k) (List.drop k ([48, 49, 50, 51, 52, 53, 54, 55, 56, 57, 97, 98, 99, 100, 101, 102] : List UInt8)) = [hexd k] := by decide
 exact this k h
theorem le16 {k : Nat} (h : k < 16) : qf ((k + 1 : Nat) : Int) 16 = true := by simp [qf]; omega
theorem qe4 (k : Nat) : qf (k : Int) ((k + 1 : Nat) : Int) = true := by simp [qf]; omega
theorem qiY {s acc : List UInt8} {v : AV} {i : Nat} {b : UInt8} (hb : s[i]? = some b) (hs : s.length < 1099511627776) (ha : acc.length < 100000000000000) {P : AV → Prop}
  (h : ∀ v', Gets (zo s (v', acc ++ escB b) ((i + 1 : Nat) : Int) (bR s)) P) : Gets (zo s (v, acc) (i : Int) (bR s)) P := by
 have hlt : i < s.length := (qpn.1 hb).1
 refine qcl _ _ _ _ ?_
 unfold za12 za13 za11
 rw [decide_eq_true (show (i : Int) < (s.length : Int) by omega), qI, vL, decide_eq_true hlt]
 simp only [cond_true, Bool.and_true, qo, Nat.zero_add, Int.toNat_natCast, qih hb, qa, List.getElem?_cons_zero, qw]
 rw [qW hlt hs]
 have e1 : ((b.toNat : Int) == 39) = (b == 39) := vP b 39
 have e2 : ((b.toNat : Int) == 92) = (b == 92) := vP b 92
 have w92 : EVb (EV cfg) 113 [.ptr 0 0 0, .int .u8 92] 102 5 acc = some (.nilI, acc ++ [92]) := qeC bldB 92 (by omega)
 have wb : ∀ a : List UInt8, a.length < 140737488355328 → EVb (EV cfg) 113 [.ptr 0 0 0, .int .u8 (b.toNat : Int)] 102 5 a = some (.nilI, a ++ [b]) := fun a h => qeC bldB b h
 rw [e1, e2]
 unfold escB at h
 cases h1 : b == 39 with
 | true =>
  have hb1 : b = 39 := by simpa using h1
  rw [if_pos (.inl hb1)] at h
  simp only [cond_true, w92, qa, wb (acc ++ [92]) (by simp; omega), List.append_assoc, List.cons_append, List.nil_append]
  exact h _
 | false =>
 cases h2 : b == 92 with
 | true =>
  have hb1 : b = 92 := by simpa using h2
  rw [if_pos (.inr hb1)] at h
  simp only [cond_true, cond_false, w92, qa, wb (acc ++ [92]) (by simp; omega), List.append_assoc, List.cons_append, List.nil_append]
  exact h _
 | false =>
  have hn : ¬ (b = 39 ∨ b = 92) := by simp at h1 h2; simp [h1, h2]
  rw [if_neg hn] at h
  have hq : b.toNat / 16 < 16 := by have := b.toNat_lt; omega
  have hr : b.toNat % 16 < 16 := by omega
  have hex : ∀ (t : List UInt8), qf 0 (((b.toNat / 16 + 1 : Nat) : Int)) = true := fun _ => qI _
  simp only [cond_false, shr4, qpl, qa, qw, qgQ hq, qgQ hr, qI, Bool.true_and, zG hq, zG hr, qpC, qpL, Int.toNat_natCast]
  by_cases h32 : b.toNat < 32
  ·rw [if_pos (.inl h32)] at h
   rw [decide_eq_true (show (b.toNat : Int) < 32 by omega)]
   simp only [cond_true, le16 hq, le16 hr, qe4, zG hq, zG hr, qpC, qpL, qh, qa, List.append_eq, List.cons_append, List.nil_append]
   rw [show qpG (2 + (0 + 1)) 9223372036854775807 = true by decide]
   simp only [cond_true, qa, qh, qpC, qpL]
   rw [show qpG (0 + 1 + 1 + 1 + (0 + 1)) 9223372036854775807 = true by decide]
   simp only [cond_true, qa, qh, List.append_eq, List.cons_append, List.nil_append]
   rw [qjK bldB (by simp; omega)]
   simp only [qa, kTup, qJ, qw, qT]
   exact h _
  ·by_cases h126 : 126 < b.toNat
   ·rw [if_pos (.inr h126)] at h
    rw [decide_eq_false (show ¬ (b.toNat : Int) < 32 by omega), decide_eq_true (show (b.toNat : Int) > 126 by omega)]
    simp only [cond_true, cond_false, le16 hq, le16 hr, qe4, zG hq, zG hr, qpC, qpL, qh, qa, List.append_eq, List.cons_append, List.nil_append]
    rw [show qpG (2 + (0 + 1)) 9223372036854775807 = true by decide]
    simp only [cond_true, qa, qh, qpC, qpL]
    rw [show qpG (0 + 1 + 1 + 1 + (0 + 1)) 9223372036854775807 = true by decide]
    simp only [cond_true, qa, qh, List.append_eq, List.cons_append, List.nil_append]
    rw [qjK bldB (by simp; omega)]
    simp only [qa, kTup, qJ, qw, qT]
    exact h _
   ·rw [if_neg (by omega)] at h
    rw [decide_eq_false (show ¬ (b.toNat : Int) < 32 by omega), decide_eq_false (show ¬ (b.toNat : Int) > 126 by omega)]
    simp only [cond_false, wb acc (by omega), qa]
    exact h _
theorem qiD (s : List UInt8) (hs : s.length < 1099511627776) : EVs (EV cfg) 112 [.str s] = some (.str (xY s)) := by
 apply Gets.get
 refine qhh _ ?_
 have w0 : EVb (EV cfg) 113 [.ptr 0 0 0, .int .u8 39] 102 5 [] = some (.nilI, [] ++ [39]) := qeC bldB 39 (by simp)
 rw [w0]
 simp only [qa]
 have key : ∀ (k i : Nat) (v : AV) (acc : List UInt8), s.length - i = k → i ≤ s.length → acc = 39 :: (s.take i).flatMap escB → Gets (zo s (v, acc) (i : Int) (bR s)) (fun v => v = .str (xY s)) := by
  intro k
  induction k with
  | zero =>
   intro i v acc hk hi ha
   refine qcl _ _ _ _ ?_
   unfold za12 za13 za11
   have : i = s.length := by omega
   subst this
   rw [List.take_length] at ha
   have hl := zu s
   have hal : acc.length = (s.flatMap escB).length + 1 := by rw [ha]; simp
   have w39 : EVb (EV cfg) 113 [.ptr 0 0 0, .int .u8 39] 102 5 acc = some (.nilI, acc ++ [39]) := qeC bldB 39 (by omega)
   rw [decide_eq_false (show ¬ ((s.length : Int) < (s.length : Int)) by omega)]
   simp only [cond_false, w39, qa]
   rw [qlq bldB (by simp; omega)]
   simp only [qa, qh, qE, ha]
   rfl
  | succ k ih =>
   intro i v acc hk hi ha
   have hlt : i < s.length := by omega
   have hb : s[i]? = some s[i] := qpr hlt
   have hl := zu (s.take i)
   have hal : acc.length = ((s.take i).flatMap escB).length + 1 := by rw [ha]; simp
   have htl : (s.take i).length ≤ s.length := by simp; omega
   refine qiY hb hs (by omega) fun v' => ih (i + 1) v' _ (by omega) hlt ?_
   rw [ha, List.take_add_one, hb]
   simp only [Option.toList, List.flatMap_append, List.flatMap_cons, List.flatMap_nil, List.append_nil, List.cons_append]
 exact key _ 0 _ _ rfl (by omega) rfl
end Go.Proofs.YtnjonahoheopnaaGreatDoor
end
section
namespace Go.Av
@[simp] theorem Tm.kind_mk (k n : Int) (s : List UInt8) (l : List Tm) : (Tm.mk k n s l).kind = k := rfl
@[simp] theorem Tm.num_mk (k n : Int) (s : List UInt8) (l : List Tm) : (Tm.mk k n s l).num = n := rfl
@[simp] theorem Tm.str_mk (k n : Int) (s : List UInt8) (l : List Tm) : (Tm.mk k n s l).str = s := rfl
@[simp] theorem Tm.subs_mk (k n : Int) (s : List UInt8) (l : List Tm) : (Tm.mk k n s l).subs = l := rfl
@[simp] theorem Tm.eta (t : Tm) : Tm.mk t.kind t.num t.str t.subs = t := by cases t; rfl
theorem Tm.cells_eq (t : Tm) : t.cells = [.int .i64 t.kind, .int .i64 t.num, .str t.str, .sl (qi t.subs)] := by cases t; rw [Tm.cells_mk]; rfl
@[simp] theorem cells_fold (k n : Int) (s : List UInt8) (l : List Tm) : [AV.int .i64 k, AV.int .i64 n, AV.str s, AV.sl (qi l)] = (Tm.mk k n s l).cells := (Tm.cells_mk k n s l).symm
@[simp] theorem cells_fold0 (k n : Int) (s : List UInt8) : [AV.int .i64 k, AV.int .i64 n, AV.str s, AV.sl []] = (Tm.mk k n s []).cells := by rw [Tm.cells_mk, zI]
@[simp] theorem agg_cells (t : Tm) : AV.agg t.cells = t.av := rfl
@[simp] theorem qlx (t : Tm) : [t.cells] = qi [t] := by rw [yr, zI]
@[simp] theorem rowsT_cons' (t : Tm) (l : List Tm) : t.cells :: qi l = qi (t :: l) := (yr t l).symm
@[simp] theorem rowsT_append' (a b : List Tm) : qi a ++ qi b = qi (a ++ b) := (qat a b).symm
@[simp] theorem rowsT_app (a b : List Tm) : qpQ (qi a) (qi b) = qi (a ++ b) := (qat a b).symm
@[simp] theorem rowsT_take' (n : Nat) (a : List Tm) : (qi a).take n = qi (a.take n) := qkg n a
@[simp] theorem rowsT_drop' (n : Nat) (a : List Tm) : (qi a).drop n = qi (a.drop n) := qki n a
@[simp] theorem rowsT_set' (l : List Tm) (i : Nat) (t : Tm) : (qi l).set i t.cells = qi (l.set i t) := qlw l i t
@[simp] theorem rowsT_get' (l : List Tm) (i : Nat) : (qi l)[i]? = (l[i]?).map Tm.cells := qaQ l i
@[simp] theorem rowsT_getElem (l : List Tm) (i : Nat) (h : i < (qi l).length) : (qi l)[i] = (l[i]'(by simpa using h)).cells := by
 have h1 := qaQ l i
 rw [qpr h, qpr (by simpa using h)] at h1
 exact Option.some.inj h1
@[simp] theorem kOpt_map {α β γ : Type} (o : Option β) (g : β → γ) (k : γ → Option α) : kOpt (o.map g) k = kOpt o fun x => k (g x) := by cases o <;> rfl
@[simp] theorem qhK (t : Tm) : t.cells.length = 4 := by rw [Tm.cells_eq]; rfl
@[simp] theorem take_cells (t : Tm) : t.cells.take 4 = t.cells := by rw [Tm.cells_eq]; rfl
@[simp] theorem drop_cells (t : Tm) : t.cells.drop 4 = [] := by rw [Tm.cells_eq]; rfl
@[simp] theorem cells_0 (t : Tm) : t.cells[0]? = some (.int .i64 t.kind) := by rw [Tm.cells_eq]; rfl
@[simp] theorem cells_1 (t : Tm) : t.cells[1]? = some (.int .i64 t.num) := by rw [Tm.cells_eq]; rfl
@[simp] theorem cells_2 (t : Tm) : t.cells[2]? = some (.str t.str) := by rw [Tm.cells_eq]; rfl
@[simp] theorem cells_3 (t : Tm) : t.cells[3]? = some (.sl (qi t.subs)) := by rw [Tm.cells_eq]; rfl
@[simp] theorem refs_cells (n : Nat) (t : Tm) : qk n t.cells = true := by rw [Tm.cells_eq]; rfl
@[simp] theorem allCells_cells (t : Tm) : q6 t.cells = true := by rw [Tm.cells_eq]; rfl
@[simp] theorem rowsT_free' (l : List Tm) : ql 0 (qi l) = true := qkh l
@[simp] theorem rowsOk_rowsT (l : List Tm) : yg 4 (qi l) = true := by
 cases l with
 | nil => rw [zI]; rfl
 | cons t l => rw [yr, yg, qhK]; rfl
@[simp] theorem kTmC_cells {α : Type} (t : Tm) (k : Int → Int → List UInt8 → List (List AV) → Option α) : kTmC t.cells k = k t.kind t.num t.str (qi t.subs) := by rw [Tm.cells_eq]; rfl
@[simp] theorem kTmV_av {α : Type} (t : Tm) (k : Int → Int → List UInt8 → List (List AV) → Option α) : kTmV t.av k = k t.kind t.num t.str (qi t.subs) := by rw [Tm.av, Tm.cells_eq]; rfl
@[simp] theorem cast_nn (q : Nat) : (0 ≤ (q : Int) + 1) = True := eq_true (by omega)
@[simp] theorem cast_le1 (q n : Nat) : ((q : Int) + 1 ≤ (n : Int)) = (q + 1 ≤ n) := propext (by omega)
@[simp] theorem cast_lt1 (q n : Nat) : ((q : Int) + 1 < (n : Int)) = (q + 1 < n) := propext (by omega)
@[simp] theorem cast_nn' (q : Nat) : (0 < (q : Int) + 1) = True := eq_true (by omega)
@[simp] theorem cast_ne0 (q : Nat) : ((q : Int) + 1 == 0) = false := by rw [beqD]; exact decide_eq_false (by omega)
@[simp] theorem cast_lt_s (q : Nat) : ((q : Int) < (q : Int) + 1) = True := eq_true (by omega)
@[simp] theorem cast_le_s (q : Nat) : ((q : Int) ≤ (q : Int) + 1) = True := eq_true (by omega)
theorem qpd {n : Nat} (hn : n < 4398046511104) : IntKind.wrap .i64 (n : Int) = n := zE (by omega) (by omega)
def C3 (p q r : Int) : Prop := (p ≤ 0 → q ≤ 0 → r ≤ 0) ∧ (p < 0 → q ≤ 0 → r < 0) ∧ (p ≤ 0 → q < 0 → r < 0) ∧ (0 ≤ p → 0 ≤ q → 0 ≤ r) ∧ (0 < p → 0 ≤ q → 0 < r) ∧ (0 ≤ p → 0 < q → 0 < r)
def vT (k n : Int) (s : List UInt8) (m : Nat) : Bool :=
 if k = 1 then decide (-576460752303423488 ≤ n) && (decide (n ≤ 576460752303423487) && (decide (s = []) && decide (m = 0)))
 else if k = 2 then decide (n = 0) && (decide (s.length ≤ 64) && decide (m = 0))
 else if k = 3 then decide (0 ≤ n) && (decide (n ≤ 1073741824) && (decide (s = []) && decide (m = 0)))
 else if k = 4 then decide (0 ≤ n) && (decide (n ≤ 1073741824) && (decide (s = []) && decide (m = 0)))
 else if k = 6 then decide (0 ≤ n) && (decide (n ≤ 1073741824) && (decide (s = []) && decide (m = 0)))
 else if k = 5 then decide (0 ≤ n) && (decide (n ≤ 1073741824) && (decide (s = []) && decide (m ≤ 64)))
 else if k = 7 then decide (n = 0) && (decide (s = []) && decide (m ≤ 64))
 else if k = 8 then decide (n = 0) && (decide (s = []) && decide (m = 0))
 else if k = 9 then decide (n = 0) && (decide (s = []) && decide (m = 2))
 else false
def Tm.sound (t : Tm) : Bool := vT t.kind t.num t.str t.subs.length
def Tm.own (t : Tm) : Nat := if t.kind = 7 ∨ t.kind = 5 then 2 else 1
theorem v7 (a b : Bool) : (bif a then some (AV.bool b) else some (AV.bool false)) = some (.bool (a && b)) := by cases a <;> rfl
theorem qoU (s : List UInt8) : (s == []) = decide (s = []) := by cases s <;> simp
theorem beqI (a b : Int) : (a == b) = decide (a = b) := by simp [beqD]
mutual
/-- may all parts of a term be? -/
def Tm.parts : Tm → Bool
 | .mk k n s l => vT k n s l.length && q4 l
def q4 : List Tm → Bool
 | [] => true
 | t :: l => t.parts && q4 l
end
mutual
/-- how many words all parts have -/
def Tm.words : Tm → Nat
 | .mk k n s l => (Tm.mk k n s l).own + qF l
def qF : List Tm → Nat
 | [] => 0
 | t :: l => t.words + qF l
end
theorem Tm.parts_eq (t : Tm) : t.parts = (t.sound && q4 t.subs) := by cases t; rw [Tm.parts]; rfl
theorem Tm.words_eq (t : Tm) : t.words = t.own + qF t.subs := by cases t; rw [Tm.words]; rfl
theorem zS (a b : List Tm) : q4 (a ++ b) = (q4 a && q4 b) := by
 induction a with
 | nil => simp [q4]
 | cons x l ih => simp [q4, ih, Bool.and_assoc]
theorem qb9 (a b : List Tm) : qF (a ++ b) = qF a + qF b := by
 induction a with
 | nil => simp [qF]
 | cons x l ih => simp [qF, ih]; omega
theorem qkp (a : List Tm) : q4 a.reverse = q4 a := by
 induction a with
 | nil => rfl
 | cons x l ih => simp [zS, q4, ih, Bool.and_comm]
theorem qjN (a : List Tm) : qF a.reverse = qF a := by
 induction a with
 | nil => rfl
 | cons x l ih => simp [qb9, qF, ih]; omega
theorem Tm.own_le (t : Tm) : t.own ≤ 2 ∧ 1 ≤ t.own := by unfold Tm.own; split <;> omega
def chkS (R : List Tm) (wd : Nat) : Int := if q4 R then (if 65536 < wd + qF R then 3 else 0) else 2
def Tm.chk (t : Tm) : Int := chkS [t] 0
theorem qmY {R : List Tm} {x : Tm} {wd : Nat} (h : x.sound = false) : chkS (R ++ [x]) wd = 2 := by
 unfold chkS
 rw [zS]
 simp [q4, Tm.parts_eq, h]
theorem qgy {R : List Tm} {x : Tm} {wd : Nat} (h : x.sound = true) : chkS (R ++ x.subs.reverse) (wd + x.own) = chkS (R ++ [x]) wd := by
 unfold chkS
 simp only [zS, qkp, qb9, qjN, q4, qF, Tm.parts_eq, Tm.words_eq, h, Bool.true_and, Bool.and_true]
 have : wd + x.own + (qF R + qF x.subs) = wd + (qF R + (x.own + qF x.subs + 0)) := by omega
 rw [this]
theorem qlr {k n : Int} {s : Bz} {m : Nat} (h : vT k n s m = true) : -576460752303423488 ≤ n ∧ n ≤ 576460752303423487 := by
 unfold vT at h
 split at h
 ·simp only [qpo, decide_eq_true_eq] at h; omega
 split at h
 ·simp only [qpo, decide_eq_true_eq] at h; omega
 split at h
 ·simp only [qpo, decide_eq_true_eq] at h; omega
 split at h
 ·simp only [qpo, decide_eq_true_eq] at h; omega
 split at h
 ·simp only [qpo, decide_eq_true_eq] at h; omega
 split at h
 ·simp only [qpo, decide_eq_true_eq] at h; omega
 split at h
 ·simp only [qpo, decide_eq_true_eq] at h; omega
 split at h
 ·simp only [qpo, decide_eq_true_eq] at h; omega
 split at h
 ·simp only [qpo, decide_eq_true_eq] at h; omega
 ·cases h
def comL : List Bz → Bz
 | [] => []
 | x :: l => 44 :: (x ++ comL l)
def sepL : List Bz → Bz
 | [] => []
 | x :: l => x ++ comL l
def mkP (k n : Int) (s : Bz) (ps : List (Bz × Bz)) : Bz × Bz :=
 let tx : Bz :=
  if k = 1 then xl n
  else if k = 2 then (if yE s then s else xY s)
  else if k = 3 then [35, 82, 101, 102, 60] ++ xl n ++ [62]
  else if k = 4 then [35, 84, 105, 100, 60] ++ xl n ++ [62]
  else if k = 6 then [60, 48, 46] ++ xl n ++ [46, 48, 62]
  else if k = 5 then [35, 70, 117, 110, 60] ++ xl n ++ comL (ps.map (·.1)) ++ [62]
  else if k = 7 then [123] ++ sepL (ps.map (·.1)) ++ [125]
  else if k = 9 then 91 :: ((ps.getD 0 ([], [])).1 ++ (ps.getD 1 ([], [])).2)
  else [91, 93]
 (tx, if k = 9 then 44 :: ((ps.getD 0 ([], [])).1 ++ (ps.getD 1 ([], [])).2) else if k = 8 then [93] else 124 :: (tx ++ [93]))
mutual
def y3 : Tm → Bz × Bz
 | .mk k n s l => mkP k n s (vh l)
def vh : List Tm → List (Bz × Bz)
 | [] => []
 | t :: l => y3 t :: vh l
end
def vD (t : Tm) : Bz := (y3 t).1
def zx (t : Tm) : Bz := (y3 t).2
theorem qei : ∀ (k u : Nat), (decF k u).length ≤ k
 | 0, _ => by simp [decF]
 | k + 1, u => by
  rw [decF]
  split
  ·simp
  ·have := qei k (u / 10); simp; omega
theorem qcS (n : Int) : (xl n).length ≤ 21 := by
 unfold xl
 split
 ·have := qei 20 n.natAbs; simp; omega
 ·have := qei 20 n.toNat; omega
theorem qa4 (s : Bz) : (xY s).length ≤ 4 * s.length + 2 := by
 have := zu s
 simp [xY] at *
 omega
theorem qek : ∀ (l : List Tm), (∀ t ∈ l, (vD t).length ≤ 290 * t.words) → (comL ((vh l).map (·.1))).length ≤ 290 * qF l + l.length
 | [], _ => by simp [vh, comL]
 | t :: l, h => by
  have h1 := qek l fun x hx => h x (by simp [hx])
  have h2 := h t (by simp)
  unfold vD at h2
  simp only [vh, List.map_cons, comL, qpC, qpD, qF]
  omega
theorem qhr (l : List Bz) : (sepL l).length ≤ (comL l).length := by
 cases l <;> simp [sepL, comL]
theorem qd1 (t : Tm) : t.parts = true → (vD t).length ≤ 290 * t.words ∧ (zx t).length ≤ 290 * t.words + 10 := by
 induction t using Tm.ind with
 | _ k n s l ih =>
  intro hp
  rw [Tm.parts, qpo] at hp
  obtain ⟨a1, a2⟩ := hp
  have a3 : ∀ t ∈ l, t.parts = true := by
   clear ih a1
   induction l with
   | nil => simp
   | cons x l ih => simp only [q4, qpo] at a2; intro t ht; rcases qpM.1 ht with rfl | ht; exact a2.1; exact ih a2.2 t ht
  have ih1 : ∀ t ∈ l, (vD t).length ≤ 290 * t.words := fun t ht => (ih t ht (a3 t ht)).1
  have hc := qek l ih1
  have hs := qhr ((vh l).map (·.1))
  have hi := qcS n
  have hq := qa4 s
  rw [Tm.words]
  unfold vD zx Tm.own
  rw [y3]
  unfold mkP
  simp only [Tm.kind]
  by_cases k9 : k = 9
  ·subst k9
   simp [vT] at a1
   match l, a1.2.2, ih, a3 with
   | [a, d], _, ih, a3 =>
    have q1 := (ih a (by simp) (a3 a (by simp))).1
    have q2 := (ih d (by simp) (a3 d (by simp))).2
    unfold vD at q1
    unfold zx at q2
    simp [vh, qF]
    omega
  by_cases k8 : k = 8
  ·subst k8; simp; omega
  by_cases k7 : k = 7
  ·subst k7
   simp [vT] at a1
   simp
   omega
  by_cases k5 : k = 5
  ·subst k5
   simp [vT] at a1
   simp
   omega
  by_cases k2 : k = 2
  ·subst k2
   simp [vT] at a1
   simp
   split <;> constructor <;> omega
  by_cases k1 : k = 1
  ·subst k1; simp; omega
  by_cases k3 : k = 3
  ·subst k3; simp; omega
  by_cases k4 : k = 4
  ·subst k4; simp; omega
  by_cases k6 : k = 6
  ·subst k6; simp; omega
  ·simp [vT, k1, k2, k3, k4, k5, k6, k7, k8, k9] at a1
end Go.Av
end
section
namespace Go.Proofs.YtnjonahoheopnaaGreatDoor
open Go.Av
noncomputable def qmd : Den := evC cfg (EV cfg) 149 none 5 (sub (qm Tryz.f149) [1, 0, 0])
noncomputable def qmg : Ex × List AV × AH → Option AV := kAft (Cfg.keepOut cfg 149 (qj (sub (qm Tryz.f149) [1, 0, 0]))) (xV 0 (qab cfg (Cfg.lift cfg 149 0) (fun (v : AV) (H : AH) => (fun (r : AV × AH) => qaV 0 4 (fx 17 [(2, AV.ptr 1 0 0), (3, AV.ptr 2 0 0)]) (xV 0 (kSeq (fun (fr : List AV) (H : AH) => qbp (Cfg.cut cfg 64 (qj (sub (qm Tryz.f64) [1, 1, 1]))) fr H fun (fr : List AV) (H : AH) => qY cfg (EV cfg) (kfN cfg 6) 64 none 0 (sub (qm Tryz.f64) [1, 1, 1]) fr H (xB cfg (Cfg.lift cfg 64 0) (Array.toList (Func.results Tryz.f64)))) (xB cfg (Cfg.lift cfg 64 0) (Array.toList (Func.results Tryz.f64))))) (Prod.snd r)) (v, H)) (Array.toList (Func.results (Prod.snd (149, Tryz.f149))))))
noncomputable def qoZ : List AV × AH → Option AV := fun (p : List AV × AH) => kOpt (LOOP 5 (some [0, 3]) [(3, 4)] qmd p) qmg
noncomputable def qo3 : Den := evC cfg (EV cfg) 166 none 10 (sub (qm Tryz.f166) [1, 0, 0])
noncomputable def qo9 : Ex × List AV × AH → Option AV := kAft (Cfg.keepOut cfg 166 (qj (sub (qm Tryz.f166) [1, 0, 0]))) (xV 0 (qab cfg (Cfg.lift cfg 166 0) (fun (v : AV) (H : AH) => (fun (r : AV × AH) => qaV 5 9 (fx 38 [(0, AV.yld 4), (3, AV.ptr 5 0 0)]) (xV 2 (xV 1 (kLp 5 (some [0, 3]) [(3, 4)] qmd qmg))) (Prod.snd r)) (v, H)) (Array.toList (Func.results (Prod.snd (166, Tryz.f166))))))
noncomputable def qmb : List AV × AH → Option AV := fun (p : List AV × AH) => kOpt (LOOP 10 (some [0, 1, 3]) [] qo3 p) qo9
noncomputable abbrev qaq (c0_0 c0_1 : Int) (c0_2 : Bz) (c0_3 : Rz) (c1_0 c2_0 c3_0 c3_1 : Int) (c3_2 : Bz) (c3_3 : Rz) (nc5_0 : Nat) (h6 : Rz) : Option (AV) := qoZ  (((fx 38 [(0, .yld 4), (3, .ptr 5 0 0)]) : List AV), ([.rows false 4 [[.int .i64 c0_0, .int .i64 c0_1, .str c0_2, .sl c0_3]], .rows false 1 [[.int .i64 c1_0]], .rows false 1 [[.int .i64 c2_0]], .rows false 4 [[.int .i64 c3_0, .int .i64 c3_1, .str c3_2, .sl c3_3]], rngB Tryz.f64 64 [1, 1, 0, 1, 0] (fx 17 [(2, .ptr 1 0 0), (3, .ptr 2 0 0)]) none LoopState.ready, .rows false 1 [[.ms 6 0 nc5_0]], .rows true 4 h6] : AH))
noncomputable abbrev qha (v3 c0_0 c0_1 : Int) (c0_2 : Bz) (c0_3 : Rz) (c1_0 c2_0 c3_0 c3_1 : Int) (c3_2 : Bz) (c3_3 : Rz) (nc5_0 : Nat) (h6 : Rz) (c7_0 c7_1 : Int) (c7_2 : Bz) (c7_3 c8_0 : Rz) : Option (AV) := qmb  (((fx 19 [(0, .yld 9), (1, .ptr 8 0 0), (3, .int .i64 v3)]) : List AV), ([.rows false 4 [[.int .i64 c0_0, .int .i64 c0_1, .str c0_2, .sl c0_3]], .rows false 1 [[.int .i64 c1_0]], .rows false 1 [[.int .i64 c2_0]], .rows false 4 [[.int .i64 c3_0, .int .i64 c3_1, .str c3_2, .sl c3_3]], rngB Tryz.f64 64 [1, 1, 0, 1, 0] (fx 17 [(2, .ptr 1 0 0), (3, .ptr 2 0 0)]) none LoopState.ready, .rows false 1 [[.ms 6 0 nc5_0]], .rows true 4 h6, .rows false 4 [[.int .i64 c7_0, .int .i64 c7_1, .str c7_2, .sl c7_3]], .rows false 1 [[.sl c8_0]], rngB Tryz.f149 149 [1, 0, 0, 1, 0, 1, 1, 1, 1, 0] (fx 38 [(3, .ptr 5 0 0)]) none LoopState.ready] : AH))
noncomputable abbrev qfO (v3 c0_0 c0_1 : Int) (c0_2 : Bz) (c0_3 : Rz) (c1_0 c2_0 c3_0 c3_1 : Int) (c3_2 : Bz) (c3_3 : Rz) (nc5_0 : Nat) (c7_0 c7_1 : Int) (c7_2 : Bz) (c7_3 c8_0 h10 : Rz) : Option (AV) := qmb  (((fx 19 [(0, .yld 9), (1, .ptr 8 0 0), (3, .int .i64 v3)]) : List AV), ([.rows false 4 [[.int .i64 c0_0, .int .i64 c0_1, .str c0_2, .sl c0_3]], .rows false 1 [[.int .i64 c1_0]], .rows false 1 [[.int .i64 c2_0]], .rows false 4 [[.int .i64 c3_0, .int .i64 c3_1, .str c3_2, .sl c3_3]], rngB Tryz.f64 64 [1, 1, 0, 1, 0] (fx 17 [(2, .ptr 1 0 0), (3, .ptr 2 0 0)]) none LoopState.ready, .rows false 1 [[.ms 10 0 nc5_0]], .dead, .rows false 4 [[.int .i64 c7_0, .int .i64 c7_1, .str c7_2, .sl c7_3]], .rows false 1 [[.sl c8_0]], rngB Tryz.f149 149 [1, 0, 0, 1, 0, 1, 1, 1, 1, 0] (fx 38 [(3, .ptr 5 0 0)]) none LoopState.ready, .rows true 4 h10] : AH))
noncomputable abbrev zc4 (kt : Int) (lt : Rz) : Option (AV) := bif kt == 5 then some (.bool (decide ((lt.length : Int) ≤ 64))) else some (.bool false)
noncomputable abbrev zc3 (lt : Rz) (kt : Int) : Option (AV) := bif (lt.length : Int) == 0 then some (.bool true) else zc4 kt lt
noncomputable abbrev zc2 (st : Bz) (lt : Rz) (kt : Int) : Option (AV) := bif st == [] then zc3 lt kt else some (.bool false)
noncomputable abbrev zc1 (nt : Int) (st : Bz) (lt : Rz) (kt : Int) : Option (AV) := bif decide (nt ≤ 1073741824) then zc2 st lt kt else some (.bool false)
noncomputable abbrev zc0 (nt : Int) (st : Bz) (lt : Rz) (kt : Int) : Option (AV) := bif decide (nt ≥ 0) then zc1 nt st lt kt else some (.bool false)
theorem qfV (kt nt : Int) (st : Bz) (lt : Rz) {P : AV → Prop} (h : Gets (bif kt == 1 then bif decide (nt ≥ (- 576460752303423488)) then bif decide (nt ≤ 576460752303423487) then bif st == [] then some (.bool ((lt.length : Int) == 0)) else some (.bool false) else some (.bool false) else some (.bool false) else bif kt == 2 then bif nt == 0 then bif decide ((st.length : Int) ≤ 64) then some (.bool ((lt.length : Int) == 0)) else some (.bool false) else some (.bool false) else bif kt == 3 then bif decide (nt ≥ 0) then bif decide (nt ≤ 1073741824) then bif st == [] then bif (lt.length : Int) == 0 then some (.bool true) else bif kt == 5 then some (.bool (decide ((↑ (qpw lt) : Int) ≤ 64))) else some (.bool false) else some (.bool false) else some (.bool false) else some (.bool false) else bif kt == 4 then zc0 nt st lt kt else bif kt == 6 then zc0 nt st lt kt else bif kt == 5 then zc0 nt st lt kt else bif kt == 7 then bif nt == 0 then bif st == [] then some (.bool (decide ((lt.length : Int) ≤ 64))) else some (.bool false) else some (.bool false) else bif kt == 8 then bif nt == 0 then bif st == [] then some (.bool ((lt.length : Int) == 0)) else some (.bool false) else some (.bool false) else bif kt == 9 then bif nt == 0 then bif st == [] then some (.bool ((lt.length : Int) == 2)) else some (.bool false) else some (.bool false) else some (.bool false)) P) : Gets (EVs (EV cfg) 109 [.agg [.int .i64 kt, .int .i64 nt, .str st, .sl lt]]) P :=
  gE (fun _ => funS rfl rfl Tryz.func109 rfl) (by kernel_rfl) h
theorem qhm (kt nt : Int) (st : Bz) (lt : Rz) {P : AV → Prop} (h : Gets (bif kt == 7 then some (.int .i64 2) else bif kt == 5 then some (.int .i64 2) else some (.int .i64 1)) P) : Gets (EVs (EV cfg) 110 [.agg [.int .i64 kt, .int .i64 nt, .str st, .sl lt]]) P :=
  gE (fun _ => funS rfl rfl Tryz.func110 rfl) (by kernel_rfl) h
theorem qfW (kt nt : Int) (st : Bz) (lt : Rz) {P : AV → Prop} (h : Gets (qaq kt nt st lt 0 0 kt nt st lt 1 [[.int .i64 kt, .int .i64 nt, .str st, .sl lt]]) P) : Gets (EVs (EV cfg) 64 [.agg [.int .i64 kt, .int .i64 nt, .str st, .sl lt]]) P :=
  gE (fun _ => funS rfl rfl Tryz.func64 rfl) (by kernel_rfl) h
theorem qa1 (c0_0 c0_1 : Int) (c0_2 : Bz) (c0_3 : Rz) (c1_0 c2_0 c3_0 c3_1 : Int) (c3_2 : Bz) (c3_3 : Rz) (nc5_0 : Nat) (h6 : Rz) {P : AV → Prop} (h : Gets (bif decide ((↑ nc5_0 : Int) > 0) then bif qf 0 (IntKind.wrap .i64 ((↑ nc5_0 : Int) - 1)) && qL (IntKind.wrap .i64 ((↑ nc5_0 : Int) - 1)) (↑ nc5_0 : Int) then kOpt (qpA h6 (0 + Int.toNat (IntKind.wrap .i64 ((↑ nc5_0 : Int) - 1)))) fun row => bif qpG 4 (qpw row) then kTmC (qpO 4 row) fun n n_1 s rows => (bif qf 0 (IntKind.wrap .i64 ((↑ nc5_0 : Int) - 1)) && qf (IntKind.wrap .i64 ((↑ nc5_0 : Int) - 1)) (↑ nc5_0 : Int) then kOpt (EVs (EV cfg) 109 [.agg [.int .i64 n, .int .i64 n_1, .str s, .sl rows]]) fun v => qB v fun b => bif ! b then some (.int .i64 2) else kOpt (EVs (EV cfg) 110 [.agg [.int .i64 n, .int .i64 n_1, .str s, .sl rows]]) fun v => kInt .i64 v fun n_2 => qha (IntKind.wrap .i64 ((↑ (qpw rows) : Int) - 1)) c0_0 c0_1 c0_2 c0_3 c1_0 (IntKind.wrap .i64 (c2_0 + n_2)) c3_0 c3_1 c3_2 c3_3 (Int.toNat (IntKind.wrap .i64 ((↑ nc5_0 : Int) - 1)) - 0) h6 n n_1 s rows rows else none) else none else none else bif decide (c2_0 > 65536) then some (.int .i64 3) else some (.int .i64 0)) P) : Gets (qaq c0_0 c0_1 c0_2 c0_3 c1_0 c2_0 c3_0 c3_1 c3_2 c3_3 nc5_0 h6) P :=
  gE (fun _ => qP (cfg := cfg) (f := 149) (rd := none) (bs := 5)) (by kernel_rfl) h
noncomputable abbrev zc10 (row : List AV) (nc5_0 : Nat) (h6 : Rz) (v3 c0_0 c0_1 : Int) (c0_2 : Bz) (c0_3 : Rz) (c1_0 c2_0 c3_0 c3_1 : Int) (c3_2 : Bz) (c3_3 : Rz) (c7_0 c7_1 : Int) (c7_2 : Bz) (c7_3 c8_0 : Rz) : Option (AV) := kTmC (qpO 4 row) fun n n_1 s rows => (bif qpG (0 + nc5_0) (qpw h6) && vN (nc5_0 + 1) 56 then bif qf 0 (↑ nc5_0 : Int) && qL (↑ nc5_0 : Int) (↑ (nc5_0 + 1) : Int) then kOpt (qpA (qpQ (qpO nc5_0 h6) [[.int .i64 0, .int .i64 0, .str [], .nilS]]) (0 + Int.toNat (↑ nc5_0 : Int))) fun row => bif qpG 4 (qpw row) then qfO (IntKind.wrap .i64 (v3 - (1 : Int))) c0_0 c0_1 c0_2 c0_3 c1_0 c2_0 c3_0 c3_1 c3_2 c3_3 (nc5_0 + 1) c7_0 c7_1 c7_2 c7_3 c8_0 (List.set (qpQ (qpO nc5_0 h6) [[.int .i64 0, .int .i64 0, .str [], .nilS]]) (0 + Int.toNat (↑ nc5_0 : Int)) (.int .i64 n :: .int .i64 n_1 :: .str s :: .sl rows :: List.drop 4 row)) else none else none else none)
noncomputable abbrev zc9 (row : List AV) (nc5_0 : Nat) (h6 : Rz) (v3 c0_0 c0_1 : Int) (c0_2 : Bz) (c0_3 : Rz) (c1_0 c2_0 c3_0 c3_1 : Int) (c3_2 : Bz) (c3_3 : Rz) (c7_0 c7_1 : Int) (c7_2 : Bz) (c7_3 c8_0 : Rz) : Option (AV) := bif qpG 4 (qpw row) then zc10 row nc5_0 h6 v3 c0_0 c0_1 c0_2 c0_3 c1_0 c2_0 c3_0 c3_1 c3_2 c3_3 c7_0 c7_1 c7_2 c7_3 c8_0 else none
noncomputable abbrev zc8 (row : List AV) (nc5_0 : Nat) (h6 : Rz) (v3 c0_0 c0_1 : Int) (c0_2 : Bz) (c0_3 : Rz) (c1_0 c2_0 c3_0 c3_1 : Int) (c3_2 : Bz) (c3_3 : Rz) (c7_0 c7_1 : Int) (c7_2 : Bz) (c7_3 c8_0 : Rz) : Option (AV) := bif qpJ (qpw row) 4 then zc9 row nc5_0 h6 v3 c0_0 c0_1 c0_2 c0_3 c1_0 c2_0 c3_0 c3_1 c3_2 c3_3 c7_0 c7_1 c7_2 c7_3 c8_0 else none
noncomputable abbrev zc7 (c8_0 : Rz) (v3 : Int) (nc5_0 : Nat) (h6 : Rz) (c0_0 c0_1 : Int) (c0_2 : Bz) (c0_3 : Rz) (c1_0 c2_0 c3_0 c3_1 : Int) (c3_2 : Bz) (c3_3 : Rz) (c7_0 c7_1 : Int) (c7_2 : Bz) (c7_3 : Rz) : Option (AV) := kOpt (qpA c8_0 (v3.toNat)) fun row => zc8 row nc5_0 h6 v3 c0_0 c0_1 c0_2 c0_3 c1_0 c2_0 c3_0 c3_1 c3_2 c3_3 c7_0 c7_1 c7_2 c7_3 c8_0
noncomputable abbrev zc6 (v3 : Int) (c8_0 : Rz) (nc5_0 : Nat) (h6 : Rz) (c0_0 c0_1 : Int) (c0_2 : Bz) (c0_3 : Rz) (c1_0 c2_0 c3_0 c3_1 : Int) (c3_2 : Bz) (c3_3 : Rz) (c7_0 c7_1 : Int) (c7_2 : Bz) (c7_3 : Rz) : Option (AV) := bif qf 0 v3 && qL v3 (c8_0.length : Int) then zc7 c8_0 v3 nc5_0 h6 c0_0 c0_1 c0_2 c0_3 c1_0 c2_0 c3_0 c3_1 c3_2 c3_3 c7_0 c7_1 c7_2 c7_3 else none
noncomputable abbrev zc5 (v3 : Int) (c8_0 : Rz) (nc5_0 : Nat) (h6 : Rz) (c0_0 c0_1 : Int) (c0_2 : Bz) (c0_3 : Rz) (c1_0 c2_0 c3_0 c3_1 : Int) (c3_2 : Bz) (c3_3 : Rz) (c7_0 c7_1 : Int) (c7_2 : Bz) (c7_3 : Rz) : Option (AV) := bif decide (v3 ≥ 0) then zc6 v3 c8_0 nc5_0 h6 c0_0 c0_1 c0_2 c0_3 c1_0 c2_0 c3_0 c3_1 c3_2 c3_3 c7_0 c7_1 c7_2 c7_3 else qaq c0_0 c0_1 c0_2 c0_3 c1_0 c2_0 c3_0 c3_1 c3_2 c3_3 nc5_0 h6
theorem qiv (v3 c0_0 c0_1 : Int) (c0_2 : Bz) (c0_3 : Rz) (c1_0 c2_0 c3_0 c3_1 : Int) (c3_2 : Bz) (c3_3 : Rz) (nc5_0 : Nat) (h6 : Rz) (c7_0 c7_1 : Int) (c7_2 : Bz) (c7_3 c8_0 : Rz) {P : AV → Prop} (h : Gets (zc5 v3 c8_0 nc5_0 h6 c0_0 c0_1 c0_2 c0_3 c1_0 c2_0 c3_0 c3_1 c3_2 c3_3 c7_0 c7_1 c7_2 c7_3) P) : Gets (qha v3 c0_0 c0_1 c0_2 c0_3 c1_0 c2_0 c3_0 c3_1 c3_2 c3_3 nc5_0 h6 c7_0 c7_1 c7_2 c7_3 c8_0) P :=
  gE (fun _ => qP (cfg := cfg) (f := 166) (rd := none) (bs := 10)) (by kernel_rfl) h
theorem qcq (v3 c0_0 c0_1 : Int) (c0_2 : Bz) (c0_3 : Rz) (c1_0 c2_0 c3_0 c3_1 : Int) (c3_2 : Bz) (c3_3 : Rz) (nc5_0 : Nat) (c7_0 c7_1 : Int) (c7_2 : Bz) (c7_3 c8_0 h10 : Rz) {P : AV → Prop} (h : Gets (zc5 v3 c8_0 nc5_0 h10 c0_0 c0_1 c0_2 c0_3 c1_0 c2_0 c3_0 c3_1 c3_2 c3_3 c7_0 c7_1 c7_2 c7_3) P) : Gets (qfO v3 c0_0 c0_1 c0_2 c0_3 c1_0 c2_0 c3_0 c3_1 c3_2 c3_3 nc5_0 c7_0 c7_1 c7_2 c7_3 c8_0 h10) P :=
  gE (fun _ => qP (cfg := cfg) (f := 166) (rd := none) (bs := 10)) (by kernel_rfl) h
end Go.Proofs.YtnjonahoheopnaaGreatDoor
end
section
namespace Go.Av
end Go.Av
namespace Go.Proofs.YtnjonahoheopnaaGreatDoor
open Go.Av
theorem qlZ {n : Nat} (h : n ≤ 1099511627776) : vN n 56 = true := by
 unfold vN
 rw [qpo, Nat.ble_eq, Nat.ble_eq]
 omega
theorem qmr (t : Tm) : EVs (EV cfg) 109 [t.av] = some (.bool t.sound) := by
 obtain ⟨k, n, s, l⟩ := t
 apply Gets.get
 rw [Tm.av_mk]
 refine qfV _ _ _ _ ?_
 unfold zc0 zc1 zc2 zc3 zc4
 simp only [Tm.sound, Tm.kind_mk, Tm.num_mk, Tm.str_mk, Tm.subs_mk, xF, beqI, qoU, vT]
 by_cases h1 : k = 1
 ·subst h1; simp [v7] <;> (try rw [Bool.eq_iff_iff]) <;> (try simp) <;> first | omega | grind
 by_cases h2 : k = 2
 ·subst h2; simp [v7] <;> (try rw [Bool.eq_iff_iff]) <;> (try simp) <;> first | omega | grind
 by_cases h3 : k = 3
 ·subst h3; simp [v7] <;> (try rw [Bool.eq_iff_iff]) <;> (try simp) <;> first | omega | grind
 by_cases h4 : k = 4
 ·subst h4; simp [v7] <;> (try rw [Bool.eq_iff_iff]) <;> (try simp) <;> first | omega | grind
 by_cases h6 : k = 6
 ·subst h6; simp [v7] <;> (try rw [Bool.eq_iff_iff]) <;> (try simp) <;> first | omega | grind
 by_cases h5 : k = 5
 ·subst h5
  cases l with
  | nil => simp [v7] <;> (try rw [Bool.eq_iff_iff]) <;> (try simp) <;> first | omega | grind
  | cons x l =>
   have hx : ¬ ((l.length : Int) + 1 = 0) := by omega
   simp [hx, v7] <;> (try rw [Bool.eq_iff_iff]) <;> (try simp) <;> first | omega | grind
 by_cases h7 : k = 7
 ·subst h7; simp [v7] <;> (try rw [Bool.eq_iff_iff]) <;> (try simp) <;> first | omega | grind
 by_cases h8 : k = 8
 ·subst h8; simp [v7] <;> (try rw [Bool.eq_iff_iff]) <;> (try simp) <;> first | omega | grind
 by_cases h9 : k = 9
 ·subst h9; simp [v7] <;> (try rw [Bool.eq_iff_iff]) <;> (try simp) <;> first | omega | grind
 simp [h1, h2, h3, h4, h5, h6, h7, h8, h9]
theorem qoK (t : Tm) : EVs (EV cfg) 110 [t.av] = some (.int .i64 t.own) := by
 obtain ⟨k, n, s, l⟩ := t
 apply Gets.get
 rw [Tm.av_mk]
 refine qhm _ _ _ _ ?_
 simp only [Tm.own, Tm.kind_mk, beqI]
 by_cases h7 : k = 7
 ·simp [h7]
 ·by_cases h5 : k = 5
  ·simp [h5]
  ·simp [h7, h5]
theorem qm3 (l : List (List AV)) (z : List AV) : (l ++ [z])[l.length]? = some z := by simp
theorem qm2 (l : List (List AV)) (z c : List AV) : (l ++ [z]).set l.length c = l ++ [c] := by simp
theorem qlB {t x : Tm} (hx : x.subs.length < 1099511627776) {wd : Int} {P : AV → Prop} : ∀ (j : Nat) (R : List Tm), j ≤ x.subs.length → R.length + j < 1099511627776 →
  Gets (qaq t.kind t.num t.str (qi t.subs) 0 wd t.kind t.num t.str (qi t.subs) (R.length + j) (qi (R ++ (x.subs.take j).reverse))) P →
  Gets (qfO ((j : Int) - 1) t.kind t.num t.str (qi t.subs) 0 wd t.kind t.num t.str (qi t.subs) R.length x.kind x.num x.str (qi x.subs) (qi x.subs) (qi R)) P
 | 0, R, _, _, h => by
  refine qcq _ _ _ _ _ _ _ _ _ _ _ _ _ _ _ _ _ _ ?_
  unfold zc5 zc6 zc7 zc8 zc9 zc10
  simpa using h
 | j + 1, R, hj, hR, h => by
  have ih := qlB (t := t) hx (wd := wd) (P := P) j (R ++ [x.subs[j]]) (by omega) (by simp; omega)
  have e1 : x.subs.take (j + 1) = x.subs.take j ++ [x.subs[j]] := by rw [List.take_add_one, qpr (by omega)]; rfl
  have e4 : R ++ (x.subs.take j ++ [x.subs[j]]).reverse = R ++ x.subs[j] :: (x.subs.take j).reverse := by rw [List.reverse_append]; rfl
  rw [e1, e4, show R.length + (j + 1) = R.length + 1 + j by omega] at h
  refine qcq _ _ _ _ _ _ _ _ _ _ _ _ _ _ _ _ _ _ ?_
  unfold zc5 zc6 zc7 zc8 zc9 zc10
  have hw : IntKind.wrap .i64 ((j : Int) - 1) = (j : Int) - 1 := zE (by omega) (by omega)
  have hjl : j < x.subs.length := by omega
  have e2 : ((j + 1 : Nat) : Int) - 1 = j := by omega
  rw [e2]
  have ht : qpO R.length (qi R) = qi R := List.take_of_length_le (by simp)
  have g0 := qm3 (qi R) [.int .i64 0, .int .i64 0, .str [], .nilS]
  have s0 := qm2 (qi R) [.int .i64 0, .int .i64 0, .str [], .nilS] x.subs[j].cells
  rw [xF] at g0 s0
  simp [hjl, hw, qlZ (show R.length + 1 ≤ 1099511627776 by omega), ht] at ih ⊢
  exact ih h
theorem qoJ {t x : Tm} (hx : x.subs.length < 1099511627776) {wd : Int} {P : AV → Prop} {R : List Tm} {Z : List (List AV)} (hR : R.length + x.subs.length < 1099511627776)
  (h0 : x.subs = [] → Gets (qaq t.kind t.num t.str (qi t.subs) 0 wd t.kind t.num t.str (qi t.subs) R.length (qi R ++ Z)) P)
  (h : x.subs ≠ [] → Gets (qaq t.kind t.num t.str (qi t.subs) 0 wd t.kind t.num t.str (qi t.subs) (R ++ x.subs.reverse).length (qi (R ++ x.subs.reverse))) P) :
  Gets (qha ((x.subs.length : Int) - 1) t.kind t.num t.str (qi t.subs) 0 wd t.kind t.num t.str (qi t.subs) R.length (qi R ++ Z) x.kind x.num x.str (qi x.subs) (qi x.subs)) P := by
 refine qiv _ _ _ _ _ _ _ _ _ _ _ _ _ _ _ _ _ _ ?_
 unfold zc5 zc6 zc7 zc8 zc9 zc10
 rcases Nat.eq_zero_or_pos x.subs.length with hz | hp
 ·have hz' : x.subs = [] := List.length_eq_zero_iff.1 hz
  have := h0 hz'
  simpa [hz'] using this
 ·obtain ⟨j, hj⟩ : ∃ j, x.subs.length = j + 1 := ⟨x.subs.length - 1, by omega⟩
  have hne : x.subs ≠ [] := by intro e; rw [e] at hp; simp at hp
  have hjl : j < x.subs.length := by omega
  have e2 : (x.subs.length : Int) - 1 = j := by omega
  have hw : IntKind.wrap .i64 ((j : Int) - 1) = (j : Int) - 1 := zE (by omega) (by omega)
  have ht : qpO R.length (qi R ++ Z) = qi R := by rw [List.take_append_of_le_length (by simp), List.take_of_length_le (by simp)]
  have e5 : x.subs = x.subs.take j ++ [x.subs[j]] := by
   have : x.subs.take (j + 1) = x.subs := List.take_of_length_le (by omega)
   rw [List.take_add_one, qpr hjl] at this
   exact this.symm
  have e6 : R ++ x.subs.reverse = R ++ [x.subs[j]] ++ (x.subs.take j).reverse := by
   conv => lhs; rw [e5]
   rw [List.reverse_append, List.append_assoc]; rfl
  have := qlB (t := t) hx (wd := wd) (P := P) j (R ++ [x.subs[j]]) (by omega) (by simp; omega) (by
   have h := h hne
   rw [e6] at h
   have e7 : (R ++ [x.subs[j]] ++ (x.subs.take j).reverse).length = (R ++ [x.subs[j]]).length + j := by
    rw [qpD, List.length_reverse, List.length_take]; omega
   rw [e7] at h
   exact h)
  rw [e2]
  simp at this
  simp [hjl, hw, qlZ (show R.length + 1 ≤ 1099511627776 by omega), ht]
  exact this
theorem qoa {t : Tm} : ∀ (n : Nat) (R : List Tm) (Z : List (List AV)) (wd : Nat), wL R ≤ n → n < 1099511627776 → wd + 2 * wL R < 9007199254740992 →
  Gets (qaq t.kind t.num t.str (qi t.subs) 0 (wd : Int) t.kind t.num t.str (qi t.subs) R.length (qi R ++ Z)) (· = .int .i64 (chkS R wd)) := by
 intro n
 induction n with
 | zero =>
  intro R Z wd hn _ _
  have : R = [] := by
   have := qhd R
   exact List.length_eq_zero_iff.1 (by omega)
  subst this
  refine qa1 _ _ _ _ _ _ _ _ _ _ _ _ ?_
  by_cases h : 65536 < wd
  ·have h' : (65536 : Int) < wd := by omega
   simp [h, h', chkS, q4, qF]
  ·have h' : ¬ (65536 : Int) < wd := by omega
   simp [h, h', chkS, q4, qF]
 | succ n ih =>
  intro R Z wd hn hN hw
  rcases List.eq_nil_or_concat R with rfl | ⟨R0, x, rfl⟩
  ·refine qa1 _ _ _ _ _ _ _ _ _ _ _ _ ?_
   by_cases h : 65536 < wd
   ·have h' : (65536 : Int) < wd := by omega
    simp [h, h', chkS, q4, qF]
   ·have h' : ¬ (65536 : Int) < wd := by omega
    simp [h, h', chkS, q4, qF]
  ·rw [List.concat_eq_append] at *
   have hwx := x.w_eq
   have ho := x.own_le
   simp only [qcs, qnR, qoF] at hn hw
   have hl0 := qhd R0
   have hls := qhd x.subs
   have hsd := qmr x
   have how := qoK x
   refine qa1 _ _ _ _ _ _ _ _ _ _ _ _ ?_
   have e1 : (R0 ++ [x]).length = R0.length + 1 := by simp
   have hw1 : IntKind.wrap .i64 (R0.length : Int) = R0.length := qpd (by omega)
   have hw2 : IntKind.wrap .i64 ((wd : Int) + x.own) = ((wd + x.own : Nat) : Int) := by rw [zE (by omega) (by omega)]; omega
   have hw3 : IntKind.wrap .i64 ((x.subs.length : Int) - 1) = (x.subs.length : Int) - 1 := zE (by omega) (by omega)
   have g : (qi (R0 ++ [x]) ++ Z)[R0.length]? = some x.cells := by
    rw [qpu (by simp), qaQ]; simp
   cases hs : x.sound with
   | false =>
    rw [hs] at hsd
    simp [e1, hw1, g, hsd, qmY hs]
   | true =>
    rw [hs] at hsd
    have e3 : qi (R0 ++ [x]) ++ Z = qi R0 ++ (x.cells :: Z) := by rw [qat, List.append_assoc, yr, zI]; rfl
    have := qoJ (t := t) (x := x) (R := R0) (Z := x.cells :: Z) (wd := ((wd + x.own : Nat) : Int)) (P := (· = .int .i64 (chkS (R0 ++ [x]) wd))) (by omega) (by omega)
     (fun hz => by
      have := ih R0 (x.cells :: Z) (wd + x.own) (by omega) (by omega) (by omega)
      rw [← qgy hs, hz, List.reverse_nil, List.append_nil]
      exact this)
     (fun hz => by
      have := ih (R0 ++ x.subs.reverse) [] (wd + x.own) (by rw [qcs, qlc]; omega) (by omega) (by rw [qcs, qlc]; omega)
      rw [← qgy hs]
      rw [List.append_nil] at this
      exact this)
    simp only [e1, e3] at g ⊢
    simp only [Int.natCast_add] at hw2 this
    simp [hw1, g, hsd, how, hw2, hw3]
    exact this
theorem qmZ {t : Tm} (h : t.w < 1099511627776) : EVs (EV cfg) 64 [t.av] = some (.int .i64 t.chk) := by
 have := qoa (t := t) _ [t] [] 0 (qps _) (by simpa using h) (by simp; omega)
 apply Gets.get
 rw [Tm.av, Tm.cells_eq]
 refine qfW _ _ _ _ ?_
 rw [← Tm.cells_eq, qlx, Tm.chk]
 simpa using this
abbrev tW : TypeId := 104
abbrev tE : TypeId := 5
theorem wbK {b : UInt8} {s : List UInt8} {n : Int} {α : Type} (hn : n = (b.toNat : Int)) (hl : s.length < 140737488355328) (k : AV × List UInt8 → Option α) :
  kOpt (EVb (EV cfg) 113 [.ptr 0 0 0, .int .u8 n] tW tE s) k = k (.nilI, s ++ [b]) := by
 subst hn
 rw [qeC bldW b hl]; rfl
theorem wsK {t s : List UInt8} {α : Type} (hl : s.length + t.length ≤ 140737488355328) (k : AV × List UInt8 → Option α) :
  kOpt (EVb (EV cfg) 68 [.ptr 0 0 0, .str t] tW tE s) k = k (.tup [.int .i64 t.length, .nilI], s ++ t) := by
 rw [qjK bldW hl]; rfl
theorem yU {n : Nat} (h : n ≤ 9223372036854775807) : qpG n 9223372036854775807 = true := by simp only [nble, decide_eq_true_eq]; exact h
def qc9 (t : Tm) : Prop := ∀ b : List UInt8, b.length + 290 * t.words + 40 ≤ 10000000000000 → EVb (EV cfg) 65 [.ptr 0 0 0, t.av] tW tE b = some (.tup [], b ++ vD t)
def qdf (sep : List UInt8) (t : Tm) : List UInt8 := if t.kind = 9 then sep ++ (((vh t.subs).getD 0 ([], [])).1 ++ ((vh t.subs).getD 1 ([], [])).2) else zx t
theorem qlm (t : Tm) : qdf [44] t = zx t := by
 obtain ⟨k, n, s, l⟩ := t
 unfold qdf
 split
 ·rename_i h
  have h : k = 9 := h
  unfold zx
  rw [y3]
  simp [mkP, h, Tm.subs]
 ·rfl
def qmc (t : Tm) : Prop := ∀ (k n : Int) (s : List UInt8) (l : List Tm), t = .mk k n s l → ∀ (v : AV) (b sep : List UInt8), sep.length ≤ 1 → b.length + 290 * t.words + 60 ≤ 10000000000000 →
 Gets (qbe (v, b) sep k n s (qi l)) (fun r => r = (.tup [], b ++ qdf sep t))
theorem qko (l : List Tm) (hl : ∀ t ∈ l, qc9 t) (hle : l.length < 1099511627776) (hp : ∀ t ∈ l, (vD t).length ≤ 290 * t.words) : ∀ (k i : Nat) (v : AV) (b : List UInt8), l.length - i = k → i ≤ l.length → b.length + 290 * qF (l.drop i) + (l.length - i) + 60 ≤ 10000000000000 →
  Gets (qdc (qi l) (v, b) (i : Int)) (fun r => r = (.tup [], b ++ comL ((vh (l.drop i)).map (·.1)) ++ [62])) := by
 intro k
 induction k with
 | zero =>
  intro i v b hk hi hb
  refine qcm _ _ _ ?_
  have : i = l.length := by omega
  subst this
  rw [xF, decide_eq_false (show ¬ ((l.length : Int) < (l.length : Int)) by omega)]
  simp only [cond_false]
  rw [wbK (b := 62) (n := 62) rfl (by omega)]
  simp [vh, comL]
 | succ k ih =>
  intro i v b hk hi hb
  refine qcm _ _ _ ?_
  have hlt : i < l.length := by omega
  obtain ⟨t, ht⟩ : ∃ t, l[i]? = some t := ⟨l[i], qpr hlt⟩
  have htm := qpB ht
  have hdrop : l.drop i = t :: l.drop (i + 1) := by
   rw [List.drop_eq_getElem_cons hlt]
   rw [qpr hlt] at ht
   cases ht; rfl
  rw [hdrop] at hb ⊢
  rw [qF] at hb
  rw [xF, decide_eq_true (show (i : Int) < (l.length : Int) by omega), qI, vL, decide_eq_true hlt]
  simp only [cond_true, Bool.and_true]
  rw [qhw ht]
  obtain ⟨kt, nt, st, lt⟩ := t
  rw [Tm.cells_mk]
  simp only [qpC, qpL, nbeq, nble, decide_true, cond_true, qpO, kTmC, qJ, qw, qh, qaD, qT]
  rw [wbK (b := 44) (n := 44) rfl (by omega), ← Tm.av_mk]
  have h1 := hl _ htm (b ++ [44]) (by simp; omega)
  rw [h1]
  simp only [qa, qW hlt hle]
  have h2 := hp _ htm
  refine (ih (i + 1) _ _ (by omega) hlt (by simp only [qpD, qpC, qpL]; omega)).mono fun r hr => ?_
  rw [hr]
  simp [vh, comL, vD]
theorem qm5 (l : List Tm) (hl : ∀ t ∈ l, qc9 t) (hle : l.length < 1099511627776) (hp : ∀ t ∈ l, (vD t).length ≤ 290 * t.words) : ∀ (k i : Nat) (b : List UInt8), l.length - i = k → i ≤ l.length → b.length + 290 * qF (l.drop i) + (l.length - i) + 60 ≤ 10000000000000 →
  Gets (qbf (qi l) b (i : Int)) (fun r => r = (.tup [], b ++ (if i = 0 then sepL else comL) ((vh (l.drop i)).map (·.1)))) := by
 intro k
 induction k with
 | zero =>
  intro i b hk hi hb
  refine qck _ _ _ ?_
  have : i = l.length := by omega
  subst this
  rw [xF, decide_eq_false (show ¬ ((l.length : Int) < (l.length : Int)) by omega)]
  simp only [cond_false, qE, List.drop_length, vh, List.map_nil]
  split <;> simp [comL, sepL]
 | succ k ih =>
  intro i b hk hi hb
  refine qck _ _ _ ?_
  have hlt : i < l.length := by omega
  obtain ⟨t, ht⟩ : ∃ t, l[i]? = some t := ⟨l[i], qpr hlt⟩
  have htm := qpB ht
  have hdrop : l.drop i = t :: l.drop (i + 1) := by
   rw [List.drop_eq_getElem_cons hlt]
   rw [qpr hlt] at ht
   cases ht; rfl
  rw [hdrop] at hb ⊢
  rw [qF] at hb
  rw [xF, decide_eq_true (show (i : Int) < (l.length : Int) by omega), qI, vL, decide_eq_true hlt]
  simp only [cond_true, Bool.and_true]
  rw [qhw ht]
  obtain ⟨kt, nt, st, lt⟩ := t
  rw [Tm.cells_mk]
  simp only [qpC, qpL, nbeq, nble, decide_true, cond_true, qpO, kTmC, qJ, qw, qh, qaD, qT]
  have h2 := hp _ htm
  rw [← Tm.av_mk]
  by_cases h0 : i = 0
  ·subst h0
   rw [decide_eq_false (show ¬ (((0 : Nat) : Int) > 0) by omega)]
   simp only [cond_false]
   have h1 := hl _ htm b (by omega)
   rw [h1]
   simp only [qa, qW hlt hle]
   refine (ih (0 + 1) _ (by omega) hlt (by simp only [qpD, qpC, qpL]; omega)).mono fun r hr => ?_
   rw [hr]
   simp [vh, sepL, vD]
  ·rw [decide_eq_true (show ((i : Int) > 0) by omega)]
   simp only [cond_true]
   rw [wbK (b := 44) (n := 44) rfl (by omega)]
   have h1 := hl _ htm (b ++ [44]) (by simp; omega)
   rw [h1]
   simp only [qa, qW hlt hle]
   refine (ih (i + 1) _ (by omega) hlt (by simp only [qpD, qpC, qpL]; omega)).mono fun r hr => ?_
   rw [hr, if_neg h0, if_neg (by omega)]
   simp [vh, comL, vD]
theorem qlk (t : Tm) : t.parts = true → qc9 t ∧ qmc t := by
 induction t using Tm.ind with
 | _ k n s l ih =>
  intro hp
  have hp0 := hp
  rw [Tm.parts, qpo] at hp
  obtain ⟨a1, a2⟩ := hp
  have a3 : ∀ t ∈ l, t.parts = true := by
   clear ih a1 hp0
   induction l with
   | nil => simp
   | cons x l ih => simp only [q4, qpo] at a2; intro t ht; rcases qpM.1 ht with rfl | ht; exact a2.1; exact ih a2.2 t ht
  have i1 : ∀ t ∈ l, qc9 t := fun t ht => (ih t ht (a3 t ht)).1
  have i2 : ∀ t ∈ l, qmc t := fun t ht => (ih t ht (a3 t ht)).2
  have i3 : ∀ t ∈ l, (vD t).length ≤ 290 * t.words := fun t ht => (qd1 t (a3 t ht)).1
  have hw : (Tm.mk k n s l).words = (Tm.mk k n s l).own + qF l := by rw [Tm.words]
  have ho := (Tm.mk k n s l).own_le
  -- a pair's two parts
  have pair : k = 9 → ∀ (v : AV) (b sep : List UInt8), sep.length ≤ 1 → b.length + 290 * (Tm.mk k n s l).words + 20 ≤ 10000000000000 →
    Gets (qbe (v, b) sep k n s (qi l)) (fun r => r = (.tup [], b ++ (sep ++ (((vh l).getD 0 ([], [])).1 ++ ((vh l).getD 1 ([], [])).2)))) := by
   intro h9 v b sep hsep hb
   subst h9
   simp [vT] at a1
   match l, a1.2.2, i1, i2, i3, hw with
   | [a, d], _, i1, i2, i3, hw =>
    rw [hw] at hb
    simp only [qF] at hb
    obtain ⟨ka, na, sa, la⟩ := a
    obtain ⟨kd, nd, sd, ld⟩ := d
    refine qap _ _ _ _ _ _ ?_
    simp only [beq_self_eq_true, cond_true]
    rw [wsK (by omega)]
    simp only [kTup, qJ, qw, qT]
    have r0 : (qi [Tm.mk ka na sa la, Tm.mk kd nd sd ld]) = [(Tm.mk ka na sa la).cells, (Tm.mk kd nd sd ld).cells] := by rw [yr, yr, zI]
    rw [r0, Tm.cells_mk, Tm.cells_mk]
    simp only [qpC, qpL, show qL 0 (((0 + 1 + 1 : Nat)) : Int) = true from rfl, show qL 1 (((0 + 1 + 1 : Nat)) : Int) = true from rfl, cond_true, qo, List.getElem?_cons_zero, List.getElem?_cons_succ, qa, nbeq, nble, decide_true, qpO, kTmC, qw, qh, qaD, qT, qJ]
    have q1 := i3 _ (List.mem_cons_self ..)
    rw [← Tm.av_mk, i1 (.mk ka na sa la) (by simp) (b ++ sep) (by simp; omega)]
    simp only [qa]
    refine (i2 (.mk kd nd sd ld) (by simp) kd nd sd ld rfl _ _ [44] (by simp) (by simp; omega)).mono fun r hr => ?_
    rw [hr, qlm]
    simp [vh, vD, zx]
  have P : qc9 (.mk k n s l) := by
   intro b hb
   rw [hw] at hb
   apply Gets.get
   rw [Tm.av_mk]
   refine qjU _ _ _ _ _ ?_
   unfold za9 za10 za8 za3 za4 za5 za6 za7
   have hn := qlr a1
   rw [qjz (by omega) (by omega)]
   have hi := qcS n
   unfold vD
   rw [y3]
   unfold mkP
   simp only [qa, qh]
   by_cases k1 : k = 1
   ·subst k1
    simp only [beq_self_eq_true, cond_true]
    rw [wsK (by omega)]
    simp only [kTup, qJ, qw, qT]
    simp
   have b1 : (k == 1) = false := by simpa using k1
   by_cases k2 : k = 2
   ·subst k2
    simp [vT] at a1
    simp only [b1, cond_false, beq_self_eq_true, cond_true, qjT s (by omega), qa, qt, qiD s (by omega), qh]
    have hq := qa4 s
    cases yE s with
    | true =>
     simp only [cond_true]
     rw [wsK (by omega)]
     simp only [kTup, qJ, qw, qT]
     simp
    | false =>
     simp only [cond_false]
     rw [wsK (by omega)]
     simp only [kTup, qJ, qw, qT]
     simp
   have b2 : (k == 2) = false := by simpa using k2
   by_cases k3 : k = 3
   ·subst k3
    simp only [b1, b2, cond_false, beq_self_eq_true, cond_true]
    rw [yU (show 5 + (xl n).length ≤ 9223372036854775807 by omega)]
    simp only [cond_true, qa, qh, qpC]
    rw [yU (by omega)]
    simp only [cond_true, qa, qh, List.append_eq]
    rw [wsK (by simp; omega)]
    simp only [kTup, qJ, qw, qT]
    simp
   have b3 : (k == 3) = false := by simpa using k3
   by_cases k4 : k = 4
   ·subst k4
    simp only [b1, b2, b3, cond_false, beq_self_eq_true, cond_true]
    rw [yU (show 5 + (xl n).length ≤ 9223372036854775807 by omega)]
    simp only [cond_true, qa, qh, qpC]
    rw [yU (by omega)]
    simp only [cond_true, qa, qh, List.append_eq]
    rw [wsK (by simp; omega)]
    simp only [kTup, qJ, qw, qT]
    simp
   have b4 : (k == 4) = false := by simpa using k4
   by_cases k6 : k = 6
   ·subst k6
    simp only [b1, b2, b3, b4, cond_false, beq_self_eq_true, cond_true]
    rw [yU (show 3 + (xl n).length ≤ 9223372036854775807 by omega)]
    simp only [cond_true, qa, qh, qpC]
    rw [yU (by omega)]
    simp only [cond_true, qa, qh, List.append_eq]
    rw [wsK (by simp; omega)]
    simp only [kTup, qJ, qw, qT]
    simp
   have b6 : (k == 6) = false := by simpa using k6
   by_cases k5 : k = 5
   ·subst k5
    have how : (Tm.mk 5 n s l).own = 2 := by simp [Tm.own, Tm.kind]
    simp [vT] at a1
    simp only [b1, b2, b3, b4, b6, cond_false, beq_self_eq_true, cond_true]
    rw [yU (show 5 + (xl n).length ≤ 9223372036854775807 by omega)]
    simp only [cond_true, qa, qh]
    rw [wsK (by simp; omega)]
    simp only [kTup, qJ, qw, qT]
    refine (qko l i1 (by omega) i3 _ 0 _ _ rfl (by omega) (by simp; omega)).mono fun r hr => ?_
    rw [hr]
    simp
   have b5 : (k == 5) = false := by simpa using k5
   by_cases k7 : k = 7
   ·subst k7
    have how : (Tm.mk 7 n s l).own = 2 := by simp [Tm.own, Tm.kind]
    simp [vT] at a1
    have hcl := qek l i3
    have hsl := qhr ((vh l).map (·.1))
    simp only [b1, b2, b3, b4, b5, b6, cond_false, beq_self_eq_true, cond_true]
    rw [wbK (b := 123) (n := 123) rfl (by omega)]
    have hall : EVb (EV cfg) 114 [.ptr 0 0 0, .sl (qi l)] tW tE (b ++ [123]) = some (.tup [], b ++ [123] ++ sepL ((vh l).map (·.1))) := by
     apply Gets.get
     refine qle _ _ ?_
     refine (qm5 l i1 (by omega) i3 _ 0 _ rfl (by omega) (by simp; omega)).mono fun r hr => ?_
     rw [hr]
     simp
    rw [hall]
    simp only [qa]
    rw [wbK (b := 125) (n := 125) rfl (by simp; omega)]
    simp
   have b7 : (k == 7) = false := by simpa using k7
   simp only [b1, b2, b3, b4, b5, b6, b7, cond_false]
   have hlist : EVb (EV cfg) 115 [.ptr 0 0 0, .agg [.int .i64 k, .int .i64 n, .str s, .sl (qi l)]] tW tE b = some (.tup [], b ++ vD (.mk k n s l)) := by
    apply Gets.get
    refine qjV _ _ _ _ _ ?_
    rw [wbK (b := 91) (n := 91) rfl (by omega)]
    unfold vD
    rw [y3]
    by_cases k9 : k = 9
    ·refine (pair k9 _ (b ++ [91]) [] (by simp) (by rw [hw]; simp; omega)).mono fun r hr => ?_
     rw [hr]
     subst k9
     simp [mkP]
    ·have k8 : k = 8 := by
      unfold vT at a1
      rw [if_neg k1, if_neg k2, if_neg k3, if_neg k4, if_neg k6, if_neg k5, if_neg k7] at a1
      by_cases k8 : k = 8
      ·exact k8
      ·rw [if_neg k8, if_neg k9] at a1; cases a1
     subst k8
     refine qap _ _ _ _ _ _ ?_
     simp only [show ((8 : Int) == 9) = false from rfl, cond_false, beq_self_eq_true, cond_true]
     rw [wbK (b := 93) (n := 93) rfl (by simp; omega)]
     simp [mkP]
   rw [hlist]
   simp [vD, y3, mkP, k1, k2, k3, k4, k5, k6, k7]
  refine ⟨P, ?_⟩
  intro k' n' s' l' he v b sep hsep hb
  cases he
  by_cases k9 : k = 9
  ·refine (pair k9 v b sep hsep (by omega)).mono fun r hr => ?_
   rw [hr]
   simp [qdf, Tm.kind, Tm.subs, k9]
  ·have hs : qdf sep (.mk k n s l) = zx (.mk k n s l) := by simp [qdf, Tm.kind, k9]
   rw [hs]
   have b9 : (k == 9) = false := by simpa using k9
   refine qap _ _ _ _ _ _ ?_
   simp only [b9, cond_false]
   by_cases k8 : k = 8
   ·subst k8
    simp only [beq_self_eq_true, cond_true]
    rw [wbK (b := 93) (n := 93) rfl (by omega)]
    simp [zx, y3, mkP]
   ·have b8 : (k == 8) = false := by simpa using k8
    simp only [b8, cond_false]
    rw [wbK (b := 124) (n := 124) rfl (by omega)]
    have hP := P (b ++ [124]) (by simp; omega)
    rw [Tm.av_mk] at hP
    rw [hP]
    simp only [qa]
    have htl := (qd1 (.mk k n s l) hp0).1
    rw [wbK (b := 93) (n := 93) rfl (by simp; omega)]
    simp [zx, vD, y3, mkP, k8, k9]
def qg8 (t : Tm) : AV := if t.chk = 0 then .tup [.str (vD t), .int .i64 0] else .tup [.str [], .int .i64 t.chk]
theorem qmX {t : Tm} (h : t.chk = 0) : t.parts = true ∧ t.words ≤ 65536 := by
 have hp1 : q4 [t] = t.parts := by simp [q4]
 have hw1 : qF [t] = t.words := by simp [qF]
 unfold Tm.chk chkS at h
 rw [hp1, hw1] at h
 by_cases hp : t.parts = true
 ·rw [if_pos hp] at h
  by_cases hw : 65536 < 0 + t.words
  ·rw [if_pos hw] at h; cases h
  ·exact ⟨hp, by omega⟩
 ·rw [if_neg hp] at h; cases h
theorem qhl (t : Tm) (hw : t.w < 1099511627776) : EVf (EV cfg) 30 [t.av] = some (qg8 t) := by
 have hc := qmZ hw
 obtain ⟨k, n, s, l⟩ := t
 rw [Tm.av_mk] at hc ⊢
 apply Gets.get
 refine qiF _ _ _ _ ?_
 rw [hc]
 simp only [qa, qw]
 unfold qg8
 by_cases h0 : (Tm.mk k n s l).chk = 0
 ·obtain ⟨hp, hwd⟩ := qmX h0
  have hl := (qd1 _ hp).1
  have ht := (qlk _ hp).1 [] (by simp; omega)
  rw [Tm.av_mk] at ht
  rw [if_pos h0, h0]
  have e0 : ((0 : Int) != 0) = false := rfl
  rw [e0]
  simp only [cond_false]
  rw [ht]
  simp only [qa, List.nil_append]
  rw [qlq bldW (by omega)]
  simp
 ·rw [if_neg h0]
  have e0 : ((Tm.mk k n s l).chk != 0) = true := by simpa using h0
  rw [e0]
  simp
theorem qjW (s : Bz) {P : AV → Prop} (h : Gets (some (.agg [.int .i64 2, .int .i64 0, .str s, .sl []])) P) : Gets (EVf (EV cfg) 31 [.str s]) P :=
  gE (fun _ => funF rfl rfl Tryz.func31 rfl) (by kernel_rfl) h
noncomputable def qo1 : Den := evC cfg (EV cfg) 8 none 0 (sub (qm Tryz.f8) [1, 1, 0, 1, 0, 0])
noncomputable def qo7 : Ex × List AV × AH → Option AV := kAft (Cfg.keepOut cfg 8 3) (kRun cfg (EV cfg) (kfN cfg 6) 8 none 0 (qkD cfg (Cfg.lift cfg 8 0) Tryz.f8.results.toList) ([.block 0, .seq (sub (qm Tryz.f8) [1, 1, 1])]))
noncomputable def qoX : List AV × AH → Option AV := fun p => kOpt (LOOP 0 (some [4, 8, 9, 10]) ([(4, 1)]) qo1 p) qo7
noncomputable def qno : Den := evC cfg (EV cfg) 104 none 0 (sub (qm Tryz.f104) [1, 0, 1, 0, 0])
noncomputable def qnA : Ex × List AV × AH → Option AV := kAft (Cfg.keepOut cfg 104 2) (kRun cfg (EV cfg) (kfN cfg 6) 104 none 0 (xB cfg (Cfg.lift cfg 104 0) Tryz.f104.results.toList) ([.block 0, .seq (sub (qm Tryz.f104) [1, 1])]))
noncomputable def qnf : List AV × AH → Option AV := fun p => kOpt (LOOP 0 (some [0, 1, 7, 8]) ([]) qno p) qnA
noncomputable def qnn : Den := evC cfg (EV cfg) 106 none 0 (sub (qm Tryz.f106) [1, 0, 1, 0, 0])
noncomputable def qnz : Ex × List AV × AH → Option AV := kAft (Cfg.keepOut cfg 106 2) (kRun cfg (EV cfg) (kfN cfg 6) 106 none 0 (xB cfg (Cfg.lift cfg 106 0) Tryz.f106.results.toList) ([.block 0, .seq (sub (qm Tryz.f106) [1, 1])]))
noncomputable def qne : List AV × AH → Option AV := fun p => kOpt (LOOP 0 (some [0, 1, 7, 8]) ([]) qnn p) qnz
noncomputable def qo2 : Den := evC cfg (EV cfg) 7 none 0 (sub (qm Tryz.f7) [1, 0, 1, 0, 0])
noncomputable def qo8 : Ex × List AV × AH → Option AV := kAft (Cfg.keepOut cfg 7 2) (kRun cfg (EV cfg) (kfN cfg 6) 7 none 0 (xB cfg (Cfg.lift cfg 7 0) Tryz.f7.results.toList) ([.block 0, .seq (sub (qm Tryz.f7) [1, 1])]))
noncomputable def qoY : List AV × AH → Option AV := fun p => kOpt (LOOP 0 (some [0, 3]) ([]) qo2 p) qo8
noncomputable abbrev qbg (l : Rz) (nv4 : Nat) (v10 : Int) (h0 : Rz) : Option (AV) := qoX  (((fx 44 [(4, .ms 0 0 nv4), (8, .sl l), (9, .int .i64 (l.length : Int)), (10, .int .i64 v10)]) : List AV), ([.rows true 1 h0] : AH))
noncomputable abbrev qbG (l : Rz) (v8 : Int) : Option (AV) := qnf  (((fx 19 [(0, .sl l), (1, .fn (Fn.func 57) [] []), (7, .int .i64 (l.length : Int)), (8, .int .i64 v8)]) : List AV), ([] : AH))
noncomputable abbrev qbF (l : Rz) (s : Bz) (v8 : Int) : Option (AV) := qne  (((fx 19 [(0, .sl l), (1, .str s), (7, .int .i64 (l.length : Int)), (8, .int .i64 v8)]) : List AV), ([] : AH))
noncomputable abbrev qey (l : Rz) (v3 : Int) : Option (AV) := qoY  (((fx 20 [(0, .sl l), (3, .int .i64 v3)]) : List AV), ([] : AH))
theorem qlg (k n a : Int) (s : Bz) {P : AV → Prop} (h : Gets (bif k == 1 then bif decide (n ≥ 0) then bif decide (n ≤ 576460752303423487) then some (.bool (s == [])) else some (.bool false) else some (.bool false) else bif k == 2 then bif n == 0 then some (.bool (decide ((s.length : Int) ≤ 64))) else some (.bool false) else bif k == 3 then bif n == 0 then bif ! s == [] then bif decide ((s.length : Int) ≤ 64) then kOpt (qpA s 0) fun b => kOpt (EVs (EV cfg) 55 [AV.int .u8 (↑ (UInt8.toNat b) : Int)]) fun v => qB v fun b => bif b then bif qpG (0 + qpw s) (qpw (List.map (fun b => [AV.int .u8 (↑ (UInt8.toNat b) : Int)]) s)) && true then kOpt (EVs (EV cfg) 56 [.sl (qpO (qpw s) (List.map (fun b => [AV.int .u8 (↑ (UInt8.toNat b) : Int)]) s)), AV.fn (Fn.func 57) [] []]) fun v => qB v fun b => some (.bool ! b) else none else some (.bool false) else some (.bool false) else some (.bool false) else some (.bool false) else bif k == 4 then bif n == 0 then kOpt (EVs (EV cfg) 59 [.str s, .str [(32 : UInt8)]]) fun v => qB v fun b => bif ! b then kOpt (EVs (EV cfg) 60 [.str s]) fun v => qB v fun b => some (.bool b) else some (.bool false) else some (.bool false) else bif k == 5 then bif n == 0 then kOpt (EVf (EV cfg) 62 []) fun v => kSl v fun rows => kOpt (EVs (EV cfg) 61 [.sl rows, .str s]) fun v => qB v fun b => some (.bool b) else some (.bool false) else bif k == 6 then bif n == 0 then some (.bool (s == [])) else some (.bool false) else some (.bool false)) P) : Gets (EVs (EV cfg) 28 [.agg [.int .i64 k, .int .i64 n, .int .i64 a, .str s]]) P :=
  gE (fun _ => funS rfl rfl Tryz.func28 rfl) (by kernel_rfl) h
theorem qiK (c : Int) {P : AV → Prop} (h : Gets (kOpt (EVs (EV cfg) 58 [AV.int .u8 c]) fun v => qB v fun b => some (.bool ! b)) P) : Gets (EVs (EV cfg) 57 [.int .u8 c]) P :=
  gE (fun _ => funS rfl rfl Tryz.func57 rfl) (by kernel_rfl) h
theorem qiJ (l : Rz) {P : AV → Prop} (h : Gets (qbg l 0 0 []) P) : Gets (EVf (EV cfg) 8 [.sl l]) P :=
  gE (fun _ => funF rfl rfl Tryz.func8 rfl) (by kernel_rfl) h
theorem qfT (l : Rz) {P : AV → Prop} (h : Gets (kOpt (EVs (EV cfg) 104 [.sl l, AV.fn (Fn.func 57) [] []]) fun v => kInt .i64 v fun n => some (.bool (decide (n ≥ 0)))) P) : Gets (EVs (EV cfg) 56 [.sl l, .fn (Fn.func 57) [] []]) P :=
  gE (fun _ => funS rfl rfl Tryz.func56 rfl) (by kernel_rfl) h
theorem qiM (l : Rz) {P : AV → Prop} (h : Gets (qbG l 0) P) : Gets (EVs (EV cfg) 104 [.sl l, .fn (Fn.func 57) [] []]) P :=
  gE (fun _ => funS rfl rfl Tryz.func104 rfl) (by kernel_rfl) h
theorem qli (l : Rz) (s : Bz) {P : AV → Prop} (h : Gets (kOpt (EVs (EV cfg) 106 [.sl l, .str s]) fun v => kInt .i64 v fun n => some (.bool (decide (n ≥ 0)))) P) : Gets (EVs (EV cfg) 61 [.sl l, .str s]) P :=
  gE (fun _ => funS rfl rfl Tryz.func61 rfl) (by kernel_rfl) h
theorem qiN (l : Rz) (s : Bz) {P : AV → Prop} (h : Gets (qbF l s 0) P) : Gets (EVs (EV cfg) 106 [.sl l, .str s]) P :=
  gE (fun _ => funS rfl rfl Tryz.func106 rfl) (by kernel_rfl) h
theorem qlh (l : Rz) {P : AV → Prop} (h : Gets (kOpt (EVs (EV cfg) 7 [.sl l]) fun v => qB v fun b => bif b then some (.bool true) else bif yg 4 l then bif vN (0 + qpw l) 40 then bif qpG (0 + (0 + qpw l)) (qpw l) && true then kOpt (EVf (EV cfg) 8 [.sl (qpO (0 + qpw l) l)]) fun v => kTup v fun cs => qv cs fun c cs => kStr c fun s => qv cs fun c cs => kInt .i64 c fun n => kNil cs (kOpt (EVf (EV cfg) 9 [.sl l]) fun v => kTup v fun cs => qv cs fun c cs => kStr c fun s_1 => qv cs fun c cs => kInt .i64 c fun n_1 => kNil cs (bif s == s_1 then bif n == n_1 then bif qpG (0 + (0 + qpw l)) (qpw l) && true then kOpt (EVs (EV cfg) 10 [.sl (qpO (0 + qpw l) l), .sl l]) fun v => qB v fun b => bif b then kOpt (EVs (EV cfg) 11 []) fun v => qB v fun b => some (.bool b) else some (.bool false) else none else some (.bool false) else some (.bool false))) else none else none else none) P) : Gets (EVs (EV cfg) 3 [.sl l]) P :=
  gE (fun _ => funS rfl rfl Tryz.func3 rfl) (by kernel_rfl) h
theorem qiL (l : Rz) {P : AV → Prop} (h : Gets (qey l 0) P) : Gets (EVs (EV cfg) 7 [.sl l]) P :=
  gE (fun _ => funS rfl rfl Tryz.func7 rfl) (by kernel_rfl) h
noncomputable abbrev ze0 (nv4 : Nat) (h0 l : Rz) (v10 : Int) (s : Bz) : Option (AV) := bif qpG (0 + nv4) (qpw h0) && vN (nv4 + 1) 16 then qbg l (nv4 + 1) (IntKind.wrap .i64 (v10 + 1)) (qpQ (qpO nv4 h0) [[.str s]]) else none
theorem qdE (l : Rz) (nv4 : Nat) (v10 : Int) (h0 : Rz) {P : AV → Prop} (h : Gets (bif decide (v10 < (l.length : Int)) then bif qf 0 v10 && qL v10 (l.length : Int) then kOpt (qpA l (v10.toNat)) fun row => bif qpJ (qpw row) 4 then bif qpG 4 (qpw row) then qv (qpO 4 row) fun c cs => kInt .i64 c fun n => qv cs fun c cs => kInt .i64 c fun n_1 => qv cs fun c cs => kInt .i64 c fun n_2 => qv cs fun c cs => kStr c fun s => kNil cs (kOpt (EVs (EV cfg) 28 [.agg [.int .i64 n, .int .i64 n_1, .int .i64 n_2, .str s]]) fun v => qB v fun b => bif ! b then some (AV.tup [.str [], .int .i64 2]) else bif n == 1 then kOpt (EVs (EV cfg) 29 [AV.int .i64 n_1]) fun v => kStr v fun s => ze0 nv4 h0 l v10 s else bif n == 2 then kOpt (EVf (EV cfg) 31 [.str s]) fun v => kTmV v fun n n_3 s rows => (kOpt (EVf (EV cfg) 30 [.agg [.int .i64 n, .int .i64 n_3, .str s, .sl rows]]) fun v => kTup v fun cs => qv cs fun c cs => kStr c fun s => qv cs fun c cs => kInt .i64 c fun n => kNil cs (ze0 nv4 h0 l v10 s)) else bif n == 6 then bif qpG (0 + nv4) (qpw h0) && vN (nv4 + 1) 16 then qbg l (nv4 + 1) (IntKind.wrap .i64 (v10 + 1)) (qpQ (qpO nv4 h0) [[.str [(46 : UInt8)]]]) else none else ze0 nv4 h0 l v10 s) else none else none else none else bif qpG (0 + nv4) (qpw h0) && true then kOpt (EVs (EV cfg) 32 [.sl (qpO nv4 h0), .str [(32 : UInt8)]]) fun v => kStr v fun s => some (AV.tup [.str s, .int .i64 0]) else none) P) : Gets (qbg l nv4 v10 h0) P :=
  gE (fun _ => qP (cfg := cfg) (f := 8) (rd := none) (bs := 0)) (by kernel_rfl) h
theorem qb8 (l : Rz) (v8 : Int) {P : AV → Prop} (h : Gets (bif decide (v8 < (l.length : Int)) then bif qf 0 v8 && qL v8 (l.length : Int) then kOpt (qpA l (v8.toNat)) fun row => bif qpJ (qpw row) 1 then kOpt (qpA row 0) fun v => kInt .u8 v fun n => kOpt (EVs (EV cfg) 57 [AV.int .u8 n]) fun v => qB v fun b => bif b then some (.int .i64 v8) else qbG l (IntKind.wrap .i64 (v8 + 1)) else none else none else some (.int .i64 (- 1))) P) : Gets (qbG l v8) P :=
  gE (fun _ => qP (cfg := cfg) (f := 104) (rd := none) (bs := 0)) (by kernel_rfl) h
theorem qb7 (l : Rz) (s : Bz) (v8 : Int) {P : AV → Prop} (h : Gets (bif decide (v8 < (l.length : Int)) then bif qf 0 v8 && qL v8 (l.length : Int) then kOpt (qpA l (v8.toNat)) fun row => bif qpJ (qpw row) 1 then kOpt (qpA row 0) fun v => kStr v fun s_1 => bif s == s_1 then some (.int .i64 v8) else qbF l s (IntKind.wrap .i64 (v8 + 1)) else none else none else some (.int .i64 (- 1))) P) : Gets (qbF l s v8) P :=
  gE (fun _ => qP (cfg := cfg) (f := 106) (rd := none) (bs := 0)) (by kernel_rfl) h
theorem qdF (l : Rz) (v3 : Int) {P : AV → Prop} (h : Gets (bif decide (v3 < (l.length : Int)) then bif qf 0 v3 && qL v3 (l.length : Int) then kOpt (qpA l (v3.toNat)) fun row => bif qpJ (qpw row) 4 then kOpt (qpA row 3) fun v => kStr v fun s => bif decide ((s.length : Int) > 100) then some (.bool true) else qey l (IntKind.wrap .i64 (v3 + 1)) else none else none else some (.bool (decide ((l.length : Int) > 200)))) P) : Gets (qey l v3) P :=
  gE (fun _ => qP (cfg := cfg) (f := 7) (rd := none) (bs := 0)) (by kernel_rfl) h
theorem qiT (c : Int) {P : AV → Prop} (h : Gets (bif decide (c ≥ 48) then some (.bool (decide (c ≤ 57))) else some (.bool false)) P) : Gets (EVs (EV cfg) 78 [.int .u8 c]) P :=
  gE (fun _ => funS rfl rfl Tryz.func78 rfl) (by kernel_rfl) h
theorem qiS (c : Int) {P : AV → Prop} (h : Gets (bif decide (c ≥ 97) then some (.bool (decide (c ≤ 122))) else some (.bool false)) P) : Gets (EVs (EV cfg) 84 [.int .u8 c]) P :=
  gE (fun _ => funS rfl rfl Tryz.func84 rfl) (by kernel_rfl) h
theorem qlt (c : Int) {P : AV → Prop} (h : Gets (bif decide (c ≥ 65) then bif decide (c ≤ 90) then some (.bool true) else some (.bool (c == 95)) else some (.bool (c == 95))) P) : Gets (EVs (EV cfg) 55 [.int .u8 c]) P :=
  gE (fun _ => funS rfl rfl Tryz.func55 rfl) (by kernel_rfl) h
theorem qht (c : Int) {P : AV → Prop} (h : Gets (kOpt (EVs (EV cfg) 78 [AV.int .u8 c]) fun v => qB v fun b => bif b then some (.bool true) else kOpt (EVs (EV cfg) 84 [AV.int .u8 c]) fun v => qB v fun b => bif b then some (.bool true) else kOpt (EVs (EV cfg) 55 [AV.int .u8 c]) fun v => qB v fun b => bif b then some (.bool true) else some (.bool (c == 64))) P) : Gets (EVs (EV cfg) 58 [.int .u8 c]) P :=
  gE (fun _ => funS rfl rfl Tryz.func58 rfl) (by kernel_rfl) h
theorem qj9 (w : Bz) {P : AV → Prop} (h : Gets (bif ! w == [] then kOpt (bif qpG (1 + qpw w) 9223372036854775807 then some (.str ((32 : UInt8) :: w)) else none) fun v => kStr v fun s => kOpt (bif qpG (qpw s + 1) 9223372036854775807 then some (.str (qpQ s [(32 : UInt8)])) else none) fun v => kStr v fun s => kOpt (EVs (EV cfg) 59 [AV.str [(32 : UInt8), (97 : UInt8), (102 : UInt8), (116 : UInt8), (101 : UInt8), (114 : UInt8), (32 : UInt8), (97 : UInt8), (110 : UInt8), (100 : UInt8), (32 : UInt8), (97 : UInt8), (110 : UInt8), (100 : UInt8), (97 : UInt8), (108 : UInt8), (115 : UInt8), (111 : UInt8), (32 : UInt8), (98 : UInt8), (101 : UInt8), (103 : UInt8), (105 : UInt8), (110 : UInt8), (32 : UInt8), (99 : UInt8), (97 : UInt8), (115 : UInt8), (101 : UInt8), (32 : UInt8), (99 : UInt8), (97 : UInt8), (116 : UInt8), (99 : UInt8), (104 : UInt8), (32 : UInt8), (100 : UInt8), (105 : UInt8), (118 : UInt8), (32 : UInt8), (101 : UInt8), (110 : UInt8), (100 : UInt8), (32 : UInt8), (102 : UInt8), (117 : UInt8), (110 : UInt8), (32 : UInt8), (110 : UInt8), (111 : UInt8), (116 : UInt8), (32 : UInt8), (111 : UInt8), (102 : UInt8), (32 : UInt8), (111 : UInt8), (114 : UInt8), (32 : UInt8), (111 : UInt8), (114 : UInt8), (101 : UInt8), (108 : UInt8), (115 : UInt8), (101 : UInt8), (32 : UInt8), (114 : UInt8), (101 : UInt8), (99 : UInt8), (101 : UInt8), (105 : UInt8), (118 : UInt8), (101 : UInt8), (32 : UInt8), (114 : UInt8), (101 : UInt8), (109 : UInt8), (32 : UInt8), (116 : UInt8), (114 : UInt8), (121 : UInt8), (32 : UInt8), (119 : UInt8), (104 : UInt8), (101 : UInt8), (110 : UInt8), (32 : UInt8)], .str s]) fun v => qB v fun b => some (.bool b) else some (.bool false)) P) : Gets (EVs (EV cfg) 60 [.str w]) P :=
  gE (fun _ => funS rfl rfl Tryz.func60 rfl) (by kernel_rfl) h
end Go.Proofs.YtnjonahoheopnaaGreatDoor
end
section
namespace Go.Av
def bigA (b : UInt8) : Bool := (decide (65 ≤ b.toNat) && decide (b.toNat ≤ 90)) || b == 95
def qid (b : UInt8) : Bool := decide (48 ≤ b.toNat) && decide (b.toNat ≤ 57)
def qcx : List (List UInt8) := [[61, 58, 61], [61, 47, 61], [61, 61], [47, 61], [61, 60], [62, 61], [45, 62], [40], [41], [123], [125], [91], [93], [44], [59], [124], [61], [60], [62], [43], [45], [42], [33], [58]]
abbrev strR (l : List (List UInt8)) : List (List AV) := l.map fun s => [AV.str s]
def varA (s : List UInt8) : Bool := (match s with | c :: _ => bigA c | [] => false) && decide (s.length ≤ 64) && s.all qp
def mayA (k n : Int) (s : List UInt8) : Bool :=
 if k = 1 then decide (0 ≤ n) && (decide (n ≤ 576460752303423487) && s == [])
 else if k = 2 then n == 0 && decide (s.length ≤ 64)
 else if k = 3 then n == 0 && varA s
 else if k = 4 then n == 0 && qQ.contains s
 else if k = 5 then n == 0 && qcx.contains s
 else if k = 6 then n == 0 && s == []
 else false
def tokA (k n : Int) (s : List UInt8) : List UInt8 := if k = 1 then xl n else if k = 2 then (if yE s then s else xY s) else if k = 6 then [46] else s
theorem qgb (s : List UInt8) : Go.Lib.contains s [32] = s.contains 32 := by
 unfold Go.Lib.contains
 rw [Go.Lib.index_one, Go.Lib.contains_iff_indexByte]
theorem qfP {s : List UInt8} (h : qQ.contains s = true) : s.contains 32 = false := by
 have : ∀ w ∈ qQ, w.contains 32 = false := by decide
 exact this s (by simpa using h)
theorem qez : qQ.contains [] = false := by decide
theorem qgt (sep : List UInt8) : ∀ (l : List (List UInt8)) (x : List UInt8), l ≠ [] → Go.Lib.join (l ++ [x]) sep = Go.Lib.join l sep ++ sep ++ x
 | [], _, h => absurd rfl h
 | [a], x, _ => by simp [Go.Lib.join, List.intercalate, List.intersperse]
 | a :: b :: l, x, _ => by
  have ih := qgt sep (b :: l) x (by simp)
  simp only [Go.Lib.join, List.intercalate, List.cons_append, List.intersperse_cons_cons] at ih ⊢
  simp only [List.flatten_cons, ih, List.append_assoc]
structure TokA where
 k : Int
 n : Int
 a : Int
 s : List UInt8
def TokA.may (t : TokA) : Bool := mayA t.k t.n t.s
def TokA.text (t : TokA) : List UInt8 := tokA t.k t.n t.s
def TokA.cells (t : TokA) : List AV := [.int .i64 t.k, .int .i64 t.n, .int .i64 t.a, .str t.s]
def vt (l : List TokA) : List (List AV) := l.map TokA.cells
@[simp] theorem vr (l : List TokA) : (vt l).length = l.length := by simp [vt]
theorem qaR {l : List TokA} {i : Nat} {t : TokA} (h : l[i]? = some t) : (vt l)[i]? = some t.cells := by simp [vt, h]
def yb (l : List TokA) : AV := if l.all TokA.may then .tup [.str (Go.Lib.join (l.map TokA.text) [32]), .int .i64 0] else .tup [.str [], .int .i64 2]
theorem qjy {k n : Int} {s : List UInt8} (h : mayA k n s = true) : 0 ≤ n ∧ n ≤ 576460752303423487 := by
 unfold mayA at h
 split at h
 ·simp only [qpo, decide_eq_true_eq] at h; omega
 split at h
 ·simp only [qpo, beq_iff_eq] at h; omega
 split at h
 ·simp only [qpo, beq_iff_eq] at h; omega
 split at h
 ·simp only [qpo, beq_iff_eq] at h; omega
 split at h
 ·simp only [qpo, beq_iff_eq] at h; omega
 split at h
 ·simp only [qpo, beq_iff_eq] at h; omega
 ·cases h
end Go.Av
end
section
namespace Go.Proofs.YtnjonahoheopnaaGreatDoor
open Go.Av
theorem dge (b : UInt8) (k : Nat) : decide ((b.toNat : Int) ≥ (k : Int)) = decide (k ≤ b.toNat) := by simp only [decide_eq_decide]; omega
theorem dle (b : UInt8) (k : Nat) : decide ((b.toNat : Int) ≤ (k : Int)) = decide (b.toNat ≤ k) := by simp only [decide_eq_decide]; omega
theorem qj8 (b : UInt8) : EVs (EV cfg) 78 [.int .u8 (b.toNat : Int)] = some (.bool (qid b)) := by
 apply Gets.get
 refine qiT _ ?_
 have d1 := dge b 48
 have d2 := dle b 57
 simp only [Int.cast_ofNat_Int] at d1 d2
 rw [d1, d2]
 unfold qid
 cases decide (48 ≤ b.toNat) <;> simp
theorem qj7 (b : UInt8) : EVs (EV cfg) 84 [.int .u8 (b.toNat : Int)] = some (.bool (xj b)) := by
 apply Gets.get
 refine qiS _ ?_
 have d1 := dge b 97
 have d2 := dle b 122
 simp only [Int.cast_ofNat_Int] at d1 d2
 rw [d1, d2]
 unfold xj
 cases decide (97 ≤ b.toNat) <;> simp
theorem qhs (b : UInt8) : EVs (EV cfg) 55 [.int .u8 (b.toNat : Int)] = some (.bool (bigA b)) := by
 apply Gets.get
 refine qlt _ ?_
 have d1 := dge b 65
 have d2 := dle b 90
 have e1 : ((b.toNat : Int) == 95) = (b == 95) := vP b 95
 simp only [Int.cast_ofNat_Int] at d1 d2
 rw [d1, d2, e1]
 unfold bigA
 cases decide (65 ≤ b.toNat) <;> cases decide (b.toNat ≤ 90) <;> cases b == 95 <;> simp
theorem qiR (b : UInt8) : EVs (EV cfg) 58 [.int .u8 (b.toNat : Int)] = some (.bool (qp b)) := by
 apply Gets.get
 refine qht _ ?_
 have e1 : ((b.toNat : Int) == 64) = (b == 64) := vP b 64
 simp only [qj8, qj7, qhs, qa, qt, e1]
 unfold qp qid bigA
 cases xj b <;> cases decide (65 ≤ b.toNat) <;> cases decide (b.toNat ≤ 90) <;> cases decide (48 ≤ b.toNat) <;> cases decide (b.toNat ≤ 57) <;> cases b == 95 <;> cases b == 64 <;> simp
theorem qlJ (b : UInt8) : EVs (EV cfg) 57 [.int .u8 (b.toNat : Int)] = some (.bool (!qp b)) := by
 apply Gets.get
 refine qiK _ ?_
 rw [qiR]
 simp
theorem qnQ {s : List UInt8} (hs : (32 : UInt8) ∉ s) (hl : s.length < 4294967200) : EVs (EV cfg) 60 [.str s] = some (.bool (qQ.contains s)) := by
 apply Gets.get
 refine qj9 _ ?_
 cases s with
 | nil => rw [qez]; simp
 | cons b s =>
  have e0 : (b :: s == []) = false := rfl
  simp only [e0, Bool.not_false, cond_true]
  rw [show qpG (1 + (b :: s).length) 9223372036854775807 = true by simp only [nble, decide_eq_true_eq]; omega]
  simp only [cond_true, qa, qh]
  rw [show qpG (((32 : UInt8) :: b :: s).length + 1) 9223372036854775807 = true by simp only [nble, decide_eq_true_eq, qpC] at *; omega]
  simp only [cond_true, qa, qh, qcz]
  rw [qej (by decide), show qpQ ((32 : UInt8) :: b :: s) [32] = 32 :: ((b :: s) ++ [32]) from rfl, zU (b :: s) hs qQ (by decide)]
  simp
theorem qmt : EVf (EV cfg) 62 [] = some (.sl (strR qcx)) := qdv (.nil) 1000 1000 (by kernel_rfl)
theorem qho {l : List (List UInt8)} {i : Nat} {s : List UInt8} (h : l[i]? = some s) : (strR l)[i]? = some [AV.str s] := by simp [strR, h]
theorem qmM (l : List (List UInt8)) (s : List UInt8) (hl : l.length < 1099511627776) : Gets (EVs (EV cfg) 106 [.sl (strR l), .str s]) (fun v => ∃ n : Int, v = .int .i64 n ∧ (decide (n ≥ 0) = l.contains s)) := by
 refine qiN _ _ ?_
 have key : ∀ (k i : Nat), l.length - i = k → i ≤ l.length → (l.take i).contains s = false → Gets (qbF (strR l) s (i : Int)) (fun v => ∃ n : Int, v = .int .i64 n ∧ (decide (n ≥ 0) = l.contains s)) := by
  intro k
  induction k with
  | zero =>
   intro i hk hi ha
   refine qb7 _ _ _ ?_
   have : i = l.length := by omega
   subst this
   simp only [qpN, decide_eq_false (show ¬ ((l.length : Int) < (l.length : Int)) by omega), cond_false, qE]
   rw [List.take_length] at ha
   exact ⟨-1, rfl, by rw [ha]; rfl⟩
  | succ k ih =>
   intro i hk hi ha
   refine qb7 _ _ _ ?_
   have hlt : i < l.length := by omega
   obtain ⟨b, hb⟩ : ∃ b, l[i]? = some b := ⟨l[i], qpr hlt⟩
   rw [qpN, decide_eq_true (show (i : Int) < (l.length : Int) by omega), qI, vL, decide_eq_true hlt]
   simp only [cond_true, Bool.and_true, qo, Int.toNat_natCast, qho hb, qa, List.getElem?_cons_zero, qh, qpC, qpL, nbeq, decide_true]
   cases hL : s == b with
   | true =>
    have hsb : s = b := by simpa using hL
    have : l.contains s = true := by
     simp only [List.contains_iff_mem]
     rw [hsb]
     exact qpB hb
    simp only [cond_true, qE]
    exact ⟨_, rfl, by rw [this]; simp⟩
   | false =>
    simp only [cond_false]
    rw [qW hlt hl]
    refine ih (i + 1) (by omega) hlt ?_
    rw [List.take_add_one, hb]
    simp only [Option.toList, List.contains_eq_mem, qpH, qpM, List.not_mem_nil, or_false, decide_eq_false_iff_not] at ha ⊢
    have hne : ¬ s = b := by simpa using hL
    exact fun h => h.elim ha hne
 exact key _ 0 rfl (by omega) (by simp)
theorem qoM (l : List (List UInt8)) (s : List UInt8) (hl : l.length < 1099511627776) : EVs (EV cfg) 61 [.sl (strR l), .str s] = some (.bool (l.contains s)) := by
 apply Gets.get
 refine qli _ _ ?_
 refine (qmM l s hl).bind fun v ⟨n, hv, hn⟩ => ?_
 subst hv
 simp only [qw, qE, hn]
theorem qjZ (s : List UInt8) (hl : s.length < 1099511627776) : Gets (EVs (EV cfg) 104 [.sl (bR s), .fn (.func 57) [] []]) (fun v => ∃ n : Int, v = .int .i64 n ∧ (decide (n ≥ 0) = !s.all qp)) := by
 refine qiM _ ?_
 have key : ∀ (k i : Nat), s.length - i = k → i ≤ s.length → (s.take i).all qp = true → Gets (qbG (bR s) (i : Int)) (fun v => ∃ n : Int, v = .int .i64 n ∧ (decide (n ≥ 0) = !s.all qp)) := by
  intro k
  induction k with
  | zero =>
   intro i hk hi ha
   refine qb8 _ _ ?_
   have : i = s.length := by omega
   subst this
   simp only [qpN, decide_eq_false (show ¬ ((s.length : Int) < (s.length : Int)) by omega), cond_false, qE]
   rw [List.take_length] at ha
   exact ⟨-1, rfl, by rw [ha]; rfl⟩
  | succ k ih =>
   intro i hk hi ha
   refine qb8 _ _ ?_
   have hlt : i < s.length := by omega
   obtain ⟨b, hb⟩ : ∃ b, s[i]? = some b := ⟨s[i], qpr hlt⟩
   rw [qpN, decide_eq_true (show (i : Int) < (s.length : Int) by omega), qI, vL, decide_eq_true hlt]
   simp only [cond_true, Bool.and_true, qo, Int.toNat_natCast, qih hb, qa, List.getElem?_cons_zero, qw, qlJ, qt, qpC, qpL, nbeq, decide_true]
   cases hL : qp b with
   | false =>
    simp only [Bool.not_false, cond_true, qE]
    have : s.all qp = false := by
     rw [← qpI, List.all_eq_true]
     intro h
     have := h b (qpB hb)
     rw [hL] at this; cases this
    exact ⟨_, rfl, by rw [this]; simp⟩
   | true =>
    simp only [Bool.not_true, cond_false]
    rw [qW hlt hl]
    refine ih (i + 1) (by omega) hlt ?_
    rw [List.take_add_one, List.all_append, ha, hb]
    simp [hL]
 exact key _ 0 rfl (by omega) rfl
theorem qlG (s : List UInt8) (hl : s.length < 1099511627776) : EVs (EV cfg) 56 [.sl (bR s), .fn (.func 57) [] []] = some (.bool (!s.all qp)) := by
 apply Gets.get
 refine qfT _ ?_
 refine (qjZ s hl).bind fun v ⟨n, hv, hn⟩ => ?_
 subst hv
 simp only [qw, qE, hn]
theorem qmu (k n a : Int) (s : List UInt8) (hl : s.length < 4294967200) : EVs (EV cfg) 28 [.agg [.int .i64 k, .int .i64 n, .int .i64 a, .str s]] = some (.bool (mayA k n s)) := by
 apply Gets.get
 refine qlg _ _ _ _ ?_
 unfold mayA
 by_cases k1 : k = 1
 ·subst k1
  simp only [beq_self_eq_true, cond_true, if_true]
  have d1 : decide (n ≥ 0) = decide (0 ≤ n) := rfl
  rw [d1]
  cases decide (0 ≤ n) <;> cases decide (n ≤ 576460752303423487) <;> simp
 have b1 : (k == 1) = false := by simpa using k1
 rw [if_neg k1, b1]
 by_cases k2 : k = 2
 ·subst k2
  have : decide ((s.length : Int) ≤ 64) = decide (s.length ≤ 64) := by simp only [decide_eq_decide]; omega
  simp only [cond_false, beq_self_eq_true, cond_true, if_true, this]
  cases n == 0 <;> simp
 have b2 : (k == 2) = false := by simpa using k2
 rw [if_neg k2, b2]
 by_cases k3 : k = 3
 ·subst k3
  simp only [cond_false, beq_self_eq_true, cond_true, if_true]
  cases n == 0 with
  | false => simp
  | true =>
   simp only [cond_true, Bool.true_and]
   unfold varA
   cases s with
   | nil => simp
   | cons b s =>
    have e0 : (b :: s == []) = false := rfl
    have : decide (((b :: s).length : Int) ≤ 64) = decide ((b :: s).length ≤ 64) := by simp only [decide_eq_decide]; omega
    simp only [e0, Bool.not_false, cond_true, this]
    cases decide ((b :: s).length ≤ 64) with
    | false => simp
    | true =>
     simp only [cond_true, qo, List.getElem?_cons_zero, qa, qhs, qt, Nat.zero_add, qpN]
     rw [show qpG (b :: s).length (b :: s).length = true by simp, show qpO (b :: s).length ((b :: s).map fun b => [AV.int .u8 (b.toNat : Int)]) = bR (b :: s) from List.take_of_length_le (by simp), qlG (b :: s) (by omega)]
     cases bigA b <;> simp
 have b3 : (k == 3) = false := by simpa using k3
 rw [if_neg k3, b3]
 by_cases k4 : k = 4
 ·subst k4
  simp only [cond_false, beq_self_eq_true, cond_true, if_true]
  cases n == 0 with
  | false => simp
  | true =>
   simp only [cond_true, Bool.true_and]
   rw [qej (by omega), qgb]
   simp only [qa, qt]
   cases hb : s.contains 32 with
   | true =>
    have : qQ.contains s = false := by
     rw [← qpI]
     intro h
     rw [qfP h] at hb; cases hb
    rw [this]; simp
   | false =>
    simp only [Bool.not_false, cond_true]
    rw [qnQ (by simpa using hb) hl]
    simp
 have b4 : (k == 4) = false := by simpa using k4
 rw [if_neg k4, b4]
 by_cases k5 : k = 5
 ·subst k5
  simp only [cond_false, beq_self_eq_true, cond_true, if_true, qmt, qa, qaD, qoM qcx s (by decide), qt]
  cases n == 0 <;> simp
 have b5 : (k == 5) = false := by simpa using k5
 rw [if_neg k5, b5]
 by_cases k6 : k = 6
 ·subst k6
  simp only [cond_false, beq_self_eq_true, cond_true, if_true]
  cases n == 0 <;> simp
 ·have b6 : (k == 6) = false := by simpa using k6
  rw [if_neg k6, b6]
  simp
theorem qcw : ∀ l : List (List UInt8), zq (strR l) = some l
 | [] => rfl
 | s :: l => by rw [strR, List.map_cons, zq]; rw [show (l.map fun s => [AV.str s]) = strR l from rfl, qcw l]
theorem qn2 {l : List (List UInt8)} {sep : List UInt8} (h1 : l.length ≤ 140737488355328) (h2 : (Go.Lib.join l sep).length ≤ 140737488355328) : EVs (EV cfg) 32 [.sl (strR l), .str sep] = some (.str (Go.Lib.join l sep)) := by
 refine qfK (H := []) (qah ?_)
 have hx : cfg.ext 32 = some qbs := rfl
 unfold qZ
 simp only [hx]
 unfold qbs
 simp only [qcw, if_pos (And.intro h1 h2)]
theorem qoe (s : List UInt8) : EVf (EV cfg) 31 [.str s] = some (Tm.mk 2 0 s []).av := by
 apply Gets.get
 refine qjW _ ?_
 rw [Tm.av_mk]; simp
theorem qm0 {s : List UInt8} (h : s.length ≤ 64) : (Tm.mk 2 0 s []).chk = 0 := by
 unfold Tm.chk chkS
 simp [q4, Tm.parts, vT, h, qF, Tm.words, Tm.own, Tm.kind]
theorem ql8 (s : List UInt8) : vD (Tm.mk 2 0 s []) = if yE s then s else xY s := by
 unfold vD
 rw [y3]
 simp [mkP]
theorem qfU {t : TokA} (h : t.s.length ≤ 100) : t.text.length ≤ 402 := by
 unfold TokA.text tokA
 have h1 := qcS t.n
 have h2 := qa4 t.s
 split
 ·omega
 split
 ·split <;> omega
 split
 ·simp
 ·omega
theorem qea : ∀ (l : List (List UInt8)), (∀ x ∈ l, x.length ≤ 402) → (Go.Lib.join l [32]).length ≤ 403 * l.length
 | [], _ => by simp [Go.Lib.join]
 | [x], h => by have := h x (by simp); simp [Go.Lib.join, List.intercalate, List.intersperse]; omega
 | x :: y :: l, h => by
  have h1 := h x (by simp)
  have ih := qea (y :: l) (fun z hz => h z (by simp [qpM.1 hz]))
  simp only [Go.Lib.join, List.intercalate, List.intersperse_cons_cons, List.flatten_cons, qpD, qpC, qpL] at ih ⊢
  omega
theorem qj6 (l : List TokA) (hn : l.length ≤ 200) (hs : ∀ t ∈ l, t.s.length ≤ 100) : EVf (EV cfg) 8 [.sl (vt l)] = some (yb l) := by
 apply Gets.get
 refine qiJ _ ?_
 have key : ∀ (k i : Nat), l.length - i = k → i ≤ l.length → (l.take i).all TokA.may = true → Gets (qbg (vt l) i (i : Int) (strR ((l.take i).map TokA.text))) (fun v => v = yb l) := by
  intro k
  induction k with
  | zero =>
   intro i hk hi ha
   refine qdE _ _ _ _ ?_
   unfold ze0
   have : i = l.length := by omega
   subst this
   rw [List.take_length] at ha ⊢
   rw [vr, decide_eq_false (show ¬ ((l.length : Int) < (l.length : Int)) by omega)]
   simp only [cond_false, Nat.zero_add, qpN, Bool.and_true]
   rw [show qpG l.length l.length = true by simp, show qpO l.length (strR (l.map TokA.text)) = strR (l.map TokA.text) from List.take_of_length_le (by simp)]
   simp only [cond_true]
   rw [qn2 (by simp; omega) (Nat.le_trans (qea _ (fun x hx => by
    obtain ⟨t, ht, rfl⟩ := List.mem_map.1 hx
    exact qfU (hs t ht))) (by simp; omega))]
   simp [yb, ha]
  | succ k ih =>
   intro i hk hi ha
   refine qdE _ _ _ _ ?_
   unfold ze0
   have hlt : i < l.length := by omega
   obtain ⟨t, ht⟩ : ∃ t, l[i]? = some t := ⟨l[i], qpr hlt⟩
   have htm := qpB ht
   have hlen := hs t htm
   rw [vr, decide_eq_true (show (i : Int) < (l.length : Int) by omega), qI, vL, decide_eq_true hlt]
   simp only [cond_true, Bool.and_true, qo, Int.toNat_natCast, qaR ht, qa]
   unfold TokA.cells
   simp only [qpC, qpL, nbeq, nble, decide_true, cond_true, qpO, qJ, qw, qh, qT]
   rw [qmu _ _ _ _ (by omega)]
   simp only [qa, qt]
   cases hm : mayA t.k t.n t.s with
   | false =>
    have : l.all TokA.may = false := by
     rw [← qpI, List.all_eq_true]
     intro h
     have h := h t htm
     unfold TokA.may at h
     rw [hm] at h; cases h
    simp [yb, this]
   | true =>
    simp only [Bool.not_true, cond_false]
    have hnum := qjy hm
    have htake : (l.take (i + 1)).map TokA.text = (l.take i).map TokA.text ++ [t.text] := by rw [List.take_add_one, ht]; simp
    have hmay : (l.take (i + 1)).all TokA.may = true := by
     rw [List.take_add_one, ht, List.all_append, ha]
     simp [TokA.may, hm]
    have hfit : vN (i + 1) 16 = true := by simp [vN]; omega
    have hll : (strR ((l.take i).map TokA.text)).length = i := by simp; omega
    have next : ∀ x : List UInt8, x = t.text → Gets (qbg (vt l) (i + 1) (IntKind.wrap .i64 ((i : Int) + 1)) (qpQ (qpO i (strR ((l.take i).map TokA.text))) [[.str x]])) (fun v => v = yb l) := by
     intro x hx
     subst hx
     rw [qW hlt (by omega), List.take_of_length_le (by omega)]
     have : qpQ (strR ((l.take i).map TokA.text)) [[.str t.text]] = strR ((l.take (i + 1)).map TokA.text) := by rw [htake]; simp [strR]
     rw [this]
     exact ih (i + 1) (by omega) hlt hmay
    simp only [hll, Nat.zero_add, hfit, Bool.and_true]
    rw [show decide (i ≤ i) = true by simp]
    simp only [cond_true]
    by_cases k1 : t.k = 1
    ·rw [show (t.k == 1) = true by simpa using k1]
     simp only [cond_true]
     rw [qjz (by omega) (by omega)]
     simp only [qa, qh]
     exact next _ (by simp [TokA.text, tokA, k1])
    rw [show (t.k == 1) = false by simpa using k1]
    by_cases k2 : t.k = 2
    ·rw [show (t.k == 2) = true by simpa using k2]
     have h64 : t.s.length ≤ 64 := by
      unfold mayA at hm
      rw [if_neg k1, if_pos k2] at hm
      simp only [qpo, decide_eq_true_eq] at hm
      exact hm.2
     simp only [cond_false, cond_true]
     rw [qoe]
     simp only [qa]
     have hw := qhl (Tm.mk 2 0 t.s []) (by simp [Tm.w_mk]; omega)
     rw [Tm.av_mk] at hw ⊢
     simp only [kTmV, kTmC, qmK, qJ, qw, qh, qaD, qT]
     rw [hw]
     unfold qg8
     rw [if_pos (qm0 h64)]
     simp only [qa, kTup, qJ, qh, qw, qT]
     exact next _ (by rw [ql8]; simp [TokA.text, tokA, k2])
    rw [show (t.k == 2) = false by simpa using k2]
    by_cases k6 : t.k = 6
    ·rw [show (t.k == 6) = true by simpa using k6]
     simp only [cond_false, cond_true]
     exact next _ (by simp [TokA.text, tokA, k6])
    ·rw [show (t.k == 6) = false by simpa using k6]
     simp only [cond_false]
     exact next _ (by simp [TokA.text, tokA, k1, k2, k6])
 exact key _ 0 rfl (by omega) rfl
noncomputable def qnh : Den := evC cfg (EV cfg) 156 none 0 (sub (qm Tryz.f156) [1, 1, 0, 1, 0, 0])
noncomputable def qnt : Ex × List AV × AH → Option AV := kAft (Cfg.keepOut cfg 156 3) (kRun cfg (EV cfg) (kfN cfg 6) 156 none 0 (xB cfg (Cfg.lift cfg 156 0) Tryz.f156.results.toList) ([.block 0, .seq (sub (qm Tryz.f156) [1, 1, 1])]))
noncomputable def qm8 : List AV × AH → Option AV := fun p => kOpt (LOOP 0 (some [0, 3, 4]) ([]) qnh p) qnt
noncomputable def qnj : Den := evC cfg (EV cfg) 120 none 0 (sub (qm Tryz.f120) [1, 1, 0, 1, 0, 0])
noncomputable def qnv : Ex × List AV × AH → Option AV := kAft (Cfg.keepOut cfg 120 4) (kRun cfg (EV cfg) (kfN cfg 6) 120 none 0 (xB cfg (Cfg.lift cfg 120 0) Tryz.f120.results.toList) ([.block 0, .seq (sub (qm Tryz.f120) [1, 1, 1])]))
noncomputable def qna : List AV × AH → Option AV := fun p => kOpt (LOOP 0 (some [0, 3]) ([]) qnj p) qnv
noncomputable def qni : Den := evC cfg (EV cfg) 121 none 0 (sub (qm Tryz.f121) [1, 1, 0, 1, 0, 0])
noncomputable def qnu : Ex × List AV × AH → Option AV := kAft (Cfg.keepOut cfg 121 3) (kRun cfg (EV cfg) (kfN cfg 6) 121 none 0 (xB cfg (Cfg.lift cfg 121 0) Tryz.f121.results.toList) ([.block 0, .seq (sub (qm Tryz.f121) [1, 1, 1])]))
noncomputable def qm9 : List AV × AH → Option AV := fun p => kOpt (LOOP 0 (some [0, 3, 4]) ([]) qni p) qnu
noncomputable def qon : Den := evC cfg (EV cfg) 74 none 0 (sub (qm Tryz.f74) [1, 0, 1, 0, 1, 1, 1, 1, 1, 1, 1, 1, 1, 1, 1, 0, 1, 0, 1, 0, 0])
noncomputable def qou : Ex × List AV × AH → Option AV := kAft (Cfg.keepOut cfg 74 17) (kRun cfg (EV cfg) (kfN cfg 6) 74 none 0 (xB cfg (Cfg.lift cfg 74 0) Tryz.f74.results.toList) ([.block 1, .seq (sub (qm Tryz.f74) [1, 0, 1, 0, 1, 1, 1, 1, 1, 1, 1, 1, 1, 1, 1, 0, 1, 1]), .block 0, .seq (sub (qm Tryz.f74) [1, 1])]))
noncomputable def qog : List AV × AH → Option AV := fun p => kOpt (LOOP 0 (some [1, 3, 4]) ([]) qon p) qou
noncomputable def qom : Den := evC cfg (EV cfg) 74 none 0 (sub (qm Tryz.f74) [1, 1, 1, 1, 0, 0, 0])
noncomputable def qot : Ex × List AV × AH → Option AV := kAft (Cfg.keepOut cfg 74 27) (kRun cfg (EV cfg) (kfN cfg 6) 74 none 0 (xB cfg (Cfg.lift cfg 74 0) Tryz.f74.results.toList) ([.block 3, .seq (sub (qm Tryz.f74) [1, 1, 1, 1, 1])]))
noncomputable def qof : List AV × AH → Option AV := fun p => kOpt (LOOP 0 (some [1, 5]) ([]) qom p) qot
noncomputable abbrev qao (s : Bz) (v4 : Int) (h0 : Rz) : Option (AV) := qm8  (((fx 18 [(0, .str s), (3, .ms 0 0 17), (4, .int .i64 v4)]) : List AV), ([.rows true 1 h0] : AH))
noncomputable abbrev xM (s : Bz) (v3 : Int) : Option (AV) := qna  (((fx 57 [(0, .str s), (3, .int .i64 v3)]) : List AV), ([] : AH))
noncomputable abbrev zn (s v3 : Bz) (v4 : Int) : Option (AV) := qm9  (((fx 54 [(0, .str s), (3, .str v3), (4, .int .i64 v4)]) : List AV), ([] : AH))
noncomputable abbrev qnO (v3 : Bz) (v4 c0_0 c0_1 : Int) (c0_2 : Bz) (c0_3 : Rz) : Option (AV) := qog  (((fx 113 [(1, .ptr 0 0 0), (3, .str v3), (4, .int .i64 v4)]) : List AV), ([.rows false 4 [[.int .i64 c0_0, .int .i64 c0_1, .str c0_2, .sl c0_3]]] : AH))
noncomputable abbrev qnN (v5 : Bz) (c0_0 c0_1 : Int) (c0_2 : Bz) (c0_3 : Rz) : Option (AV) := qof  (((fx 113 [(1, .ptr 0 0 0), (5, .str v5)]) : List AV), ([.rows false 4 [[.int .i64 c0_0, .int .i64 c0_1, .str c0_2, .sl c0_3]]] : AH))
theorem qhf (c x y : Int) {P : AV → Prop} (h : Gets (bif decide (c ≥ x) then some (.bool (decide (c ≤ y))) else some (.bool false)) P) : Gets (EVs (EV cfg) 155 [.int .u8 c, .int .u8 x, .int .u8 y]) P :=
  gE (fun _ => funS rfl rfl Tryz.func155 rfl) (by kernel_rfl) h
theorem qjQ (s : Bz) {P : AV → Prop} (h : Gets (qao s 0 [[.str [(97 : UInt8), (102 : UInt8), (116 : UInt8), (101 : UInt8), (114 : UInt8)]], [.str [(97 : UInt8), (110 : UInt8), (100 : UInt8)]], [.str [(97 : UInt8), (110 : UInt8), (100 : UInt8), (97 : UInt8), (108 : UInt8), (115 : UInt8), (111 : UInt8)]], [.str [(98 : UInt8), (101 : UInt8), (103 : UInt8), (105 : UInt8), (110 : UInt8)]], [.str [(99 : UInt8), (97 : UInt8), (115 : UInt8), (101 : UInt8)]], [.str [(99 : UInt8), (97 : UInt8), (116 : UInt8), (99 : UInt8), (104 : UInt8)]], [.str [(100 : UInt8), (105 : UInt8), (118 : UInt8)]], [.str [(101 : UInt8), (110 : UInt8), (100 : UInt8)]], [.str [(102 : UInt8), (117 : UInt8), (110 : UInt8)]], [.str [(110 : UInt8), (111 : UInt8), (116 : UInt8)]], [.str [(111 : UInt8), (102 : UInt8)]], [.str [(111 : UInt8), (114 : UInt8)]], [.str [(111 : UInt8), (114 : UInt8), (101 : UInt8), (108 : UInt8), (115 : UInt8), (101 : UInt8)]], [.str [(114 : UInt8), (101 : UInt8), (99 : UInt8), (101 : UInt8), (105 : UInt8), (118 : UInt8), (101 : UInt8)]], [.str [(114 : UInt8), (101 : UInt8), (109 : UInt8)]], [.str [(116 : UInt8), (114 : UInt8), (121 : UInt8)]], [.str [(119 : UInt8), (104 : UInt8), (101 : UInt8), (110 : UInt8)]]]) P) : Gets (EVs (EV cfg) 156 [.str s]) P :=
  gE (fun _ => funS rfl rfl Tryz.func156 rfl) (by kernel_rfl) h
theorem qiC (s : Bz) {P : AV → Prop} (h : Gets (bif s == [] then some (.bool false) else bif decide ((s.length : Int) > 64) then some (.bool false) else kOpt (qpA s 0) fun b => kOpt (EVs (EV cfg) 155 [AV.int .u8 (↑ (UInt8.toNat b) : Int), .int .u8 97, .int .u8 122]) fun v => qB v fun b => bif ! b then some (.bool false) else xM s (0 : Int)) P) : Gets (EVs (EV cfg) 120 [.str s]) P :=
  gE (fun _ => funS rfl rfl Tryz.func120 rfl) (by kernel_rfl) h
theorem qld (n : Int) {P : AV → Prop} (h : Gets (bif decide (n < 0) then kOpt (EVs (EV cfg) 73 [AV.int .i64 (IntKind.wrap .i64 (0 - n))]) fun v => kStr v fun s => kOpt (bif qpG (1 + qpw s) 9223372036854775807 then some (.str ((45 : UInt8) :: s)) else none) fun v => kStr v fun s => some (.str s) else bif decide (n < 10) then bif qf (0 : Int) (IntKind.wrap .i64 (n + 1)) && qf (IntKind.wrap .i64 (n + 1)) 10 then bif qf 0 n && qf n (↑ (Int.toNat (IntKind.wrap .i64 (n + 1))) : Int) then some (AV.str (qpO (Int.toNat (IntKind.wrap .i64 (n + 1)) - n.toNat) (List.drop (n.toNat) [(48 : UInt8), (49 : UInt8), (50 : UInt8), (51 : UInt8), (52 : UInt8), (53 : UInt8), (54 : UInt8), (55 : UInt8), (56 : UInt8), (57 : UInt8)]))) else none else none else kOpt (qz (Op.intDiv BinOp.quo .i64 n 10)) fun v => kInt .i64 v fun n_1 => kOpt (EVs (EV cfg) 73 [AV.int .i64 n_1]) fun v => kStr v fun s => kOpt (qz (Op.intDiv BinOp.rem .i64 n 10)) fun v => kInt .i64 v fun n => kOpt (EVs (EV cfg) 73 [AV.int .i64 n]) fun v => kStr v fun s_1 => kOpt (bif qpG (qpw s + qpw s_1) 9223372036854775807 then some (.str (qpQ s s_1)) else none) fun v => kStr v fun s => some (.str s)) P) : Gets (EVs (EV cfg) 73 [.int .i64 n]) P :=
  gE (fun _ => funS rfl rfl Tryz.func73 rfl) (by kernel_rfl) h
theorem qhg (s : Bz) {P : AV → Prop} (h : Gets (zn s [(39 : UInt8)] 0) P) : Gets (EVs (EV cfg) 121 [.str s]) P :=
  gE (fun _ => funS rfl rfl Tryz.func121 rfl) (by kernel_rfl) h
noncomputable abbrev zg1 (s : Bz) : Option (AV) := kOpt (bif qpG (qpw s + 1) 9223372036854775807 then some (.str (qpQ s [(62 : UInt8)])) else none) fun v => kStr v fun s => some (.str s)
noncomputable abbrev zg0 (v : AV) : Option (AV) := kStr v fun s => zg1 s
theorem qjR (k n : Int) (s : Bz) (l : Rz) {P : AV → Prop} (h : Gets (bif k == 1 then kOpt (EVs (EV cfg) 73 [AV.int .i64 n]) fun v => kStr v fun s => some (.str s) else bif k == 2 then kOpt (EVs (EV cfg) 120 [.str s]) fun v => qB v fun b => bif b then some (.str s) else kOpt (EVs (EV cfg) 121 [.str s]) fun v => kStr v fun s => some (.str s) else bif k == (3 : Int) then kOpt (EVs (EV cfg) 73 [AV.int .i64 n]) fun v => kStr v fun s => kOpt (bif qpG (5 + qpw s) 9223372036854775807 then some (.str ((35 : UInt8) :: (82 : UInt8) :: (101 : UInt8) :: (102 : UInt8) :: (60 : UInt8) :: s)) else none) fun v => zg0 v else bif k == 4 then kOpt (EVs (EV cfg) 73 [AV.int .i64 n]) fun v => kStr v fun s => kOpt (bif qpG (5 + qpw s) 9223372036854775807 then some (.str ((35 : UInt8) :: (84 : UInt8) :: (105 : UInt8) :: (100 : UInt8) :: (60 : UInt8) :: s)) else none) fun v => zg0 v else bif k == 6 then kOpt (EVs (EV cfg) 73 [AV.int .i64 n]) fun v => kStr v fun s => kOpt (bif qpG (3 + qpw s) 9223372036854775807 then some (.str ((60 : UInt8) :: (48 : UInt8) :: (46 : UInt8) :: s)) else none) fun v => kStr v fun s => kOpt (bif qpG (qpw s + 3) 9223372036854775807 then some (.str (qpQ s [(46 : UInt8), (48 : UInt8), (62 : UInt8)])) else none) fun v => kStr v fun s => some (.str s) else bif k == 5 then kOpt (EVs (EV cfg) 73 [AV.int .i64 n]) fun v => kStr v fun s_1 => kOpt (bif qpG (5 + qpw s_1) 9223372036854775807 then some (.str ((35 : UInt8) :: (70 : UInt8) :: (117 : UInt8) :: (110 : UInt8) :: (60 : UInt8) :: s_1)) else none) fun v => kStr v fun s_2 => qnO s_2 0 k n s l else bif k == 7 then kOpt (EVs (EV cfg) 122 [.sl l]) fun v => kStr v fun s => kOpt (bif qpG (1 + qpw s) 9223372036854775807 then some (.str ((123 : UInt8) :: s)) else none) fun v => kStr v fun s => kOpt (bif qpG (qpw s + 1) 9223372036854775807 then some (.str (qpQ s [(125 : UInt8)])) else none) fun v => kStr v fun s => some (.str s) else bif k == 8 then some (.str [(91 : UInt8), (93 : UInt8)]) else bif qL (0 : Int) (l.length : Int) then kOpt (qpA l 0) fun row => bif qpJ (qpw row) 4 then bif qpG 4 (qpw row) then kTmC (qpO 4 row) fun n n_1 s rows => (kOpt (EVs (EV cfg) 74 [.agg [.int .i64 n, .int .i64 n_1, .str s, .sl rows]]) fun v => kStr v fun s => kOpt (bif qpG (1 + qpw s) 9223372036854775807 then some (.str ((91 : UInt8) :: s)) else none) fun v => kStr v fun s => bif qL 1 (↑ (qpw l) : Int) then kOpt (qpA l 1) fun row => bif qpJ (qpw row) 4 then bif qpG 4 (qpw row) then kTmC (qpO 4 row) fun n n_2 s_1 rows => (qnN s n n_2 s_1 rows) else none else none else none) else none else none else none) P) : Gets (EVs (EV cfg) 74 [.agg [.int .i64 k, .int .i64 n, .str s, .sl l]]) P :=
  gE (fun _ => funS rfl rfl Tryz.func74 rfl) (by kernel_rfl) h
theorem qb4 (s : Bz) (v4 : Int) (h0 : Rz) {P : AV → Prop} (h : Gets (bif decide (v4 < 17) then bif qf 0 v4 && qL v4 17 then kOpt (qpA h0 (0 + v4.toNat)) fun row => kOpt (qpA row 0) fun v => kStr v fun s_1 => bif s_1 == s then some (.bool true) else qao s (IntKind.wrap .i64 (v4 + 1)) h0 else none else some (.bool false)) P) : Gets (qao s v4 h0) P :=
  gE (fun _ => qP (cfg := cfg) (f := 156) (rd := none) (bs := 0)) (by kernel_rfl) h
theorem qb6 (s : Bz) (v3 : Int) {P : AV → Prop} (h : Gets (bif decide (v3 < (s.length : Int)) then bif qf 0 v3 then kOpt (qpA s (v3.toNat)) fun b => kOpt (EVs (EV cfg) 155 [AV.int .u8 (↑ (UInt8.toNat b) : Int), .int .u8 97, .int .u8 122]) fun v => qB v fun b => bif ! b then bif qf 0 v3 then kOpt (qpA s (v3.toNat)) fun b => kOpt (EVs (EV cfg) 155 [AV.int .u8 (↑ (UInt8.toNat b) : Int), .int .u8 65, .int .u8 90]) fun v => qB v fun b => bif ! b then bif qf 0 v3 then kOpt (qpA s (v3.toNat)) fun b => kOpt (EVs (EV cfg) 155 [AV.int .u8 (↑ (UInt8.toNat b) : Int), .int .u8 48, .int .u8 57]) fun v => qB v fun b => bif ! b then bif qf 0 v3 then kOpt (qpA s (v3.toNat)) fun b => bif (↑ (UInt8.toNat b) : Int) != (95 : Int) then bif qf 0 v3 then kOpt (qpA s (v3.toNat)) fun b => bif (↑ (UInt8.toNat b) : Int) != 64 then some (.bool false) else xM s (IntKind.wrap .i64 (v3 + 1)) else none else xM s (IntKind.wrap .i64 (v3 + 1)) else none else xM s (IntKind.wrap .i64 (v3 + 1)) else none else xM s (IntKind.wrap .i64 (v3 + 1)) else none else xM s (IntKind.wrap .i64 (v3 + 1)) else none else kOpt (EVs (EV cfg) 156 [.str s]) fun v => qB v fun b => some (.bool ! b)) P) : Gets (xM s v3) P :=
  gE (fun _ => qP (cfg := cfg) (f := 120) (rd := none) (bs := 0)) (by kernel_rfl) h
noncomputable abbrev zg2 (v : AV) (s : Bz) (v4 : Int) : Option (AV) := kStr v fun s_3 => zn s s_3 (IntKind.wrap .i64 (v4 + 1))
noncomputable abbrev zg4 (s_1 : Bz) (v4 : Int) (s : Bz) : Option (AV) := kOpt (bif qpG (qpw s_1 + qpw (qpO (Int.toNat (IntKind.wrap .i64 (v4 + 1)) - v4.toNat) (List.drop (v4.toNat) s))) 9223372036854775807 then some (.str (qpQ s_1 (qpO (Int.toNat (IntKind.wrap .i64 (v4 + 1)) - v4.toNat) (List.drop (v4.toNat) s)))) else none) fun v => zg2 v s v4
noncomputable abbrev zg3 (v4 : Int) (s_1 s : Bz) : Option (AV) := bif qf 0 v4 && qf v4 (↑ (Int.toNat (IntKind.wrap .i64 (v4 + 1))) : Int) then zg4 s_1 v4 s else none
noncomputable abbrev zg5 (v4 : Int) (s s_1 : Bz) : Option (AV) := bif qf 0 (IntKind.wrap .i64 (v4 + 1)) && qf (IntKind.wrap .i64 (v4 + 1)) (s.length : Int) then zg3 v4 s_1 s else none
theorem qb5 (s v3 : Bz) (v4 : Int) {P : AV → Prop} (h : Gets (bif decide (v4 < (s.length : Int)) then bif qf 0 v4 then kOpt (qpA s (v4.toNat)) fun b => bif decide ((↑ (UInt8.toNat b) : Int) < (32 : Int)) then kOpt (bif qpG (qpw v3 + 2) 9223372036854775807 then some (.str (qpQ v3 [(92 : UInt8), (120 : UInt8)])) else none) fun v => kStr v fun s_1 => kOpt (qz (Op.intDiv BinOp.quo .u8 (↑ (UInt8.toNat b) : Int) 16)) fun v => kInt .u8 v fun n => kOpt (qz (Op.intDiv BinOp.quo .u8 (↑ (UInt8.toNat b) : Int) 16)) fun v => kInt .u8 v fun n_1 => bif qf 0 (IntKind.wrap .u8 (n_1 + 1)) && qf (IntKind.wrap .u8 (n_1 + 1)) 16 then bif qf 0 n && qf n (↑ (Int.toNat (IntKind.wrap .u8 (n_1 + 1))) : Int) then kOpt (bif qpG (qpw s_1 + qpw (qpO (Int.toNat (IntKind.wrap .u8 (n_1 + 1)) - n.toNat) (List.drop (n.toNat) [(48 : UInt8), (49 : UInt8), (50 : UInt8), (51 : UInt8), (52 : UInt8), (53 : UInt8), (54 : UInt8), (55 : UInt8), (56 : UInt8), (57 : UInt8), (97 : UInt8), (98 : UInt8), (99 : UInt8), (100 : UInt8), (101 : UInt8), (102 : UInt8)]))) 9223372036854775807 then some (AV.str (qpQ s_1 (qpO (Int.toNat (IntKind.wrap .u8 (n_1 + 1)) - n.toNat) (List.drop (n.toNat) [(48 : UInt8), (49 : UInt8), (50 : UInt8), (51 : UInt8), (52 : UInt8), (53 : UInt8), (54 : UInt8), (55 : UInt8), (56 : UInt8), (57 : UInt8), (97 : UInt8), (98 : UInt8), (99 : UInt8), (100 : UInt8), (101 : UInt8), (102 : UInt8)])))) else none) fun v => kStr v fun s_2 => kOpt (qz (Op.intDiv BinOp.rem .u8 (↑ (UInt8.toNat b) : Int) 16)) fun v => kInt .u8 v fun n => kOpt (qz (Op.intDiv BinOp.rem .u8 (↑ (UInt8.toNat b) : Int) 16)) fun v => kInt .u8 v fun n_2 => bif qf 0 (IntKind.wrap .u8 (n_2 + 1)) && qf (IntKind.wrap .u8 (n_2 + 1)) 16 then bif qf 0 n && qf n (↑ (Int.toNat (IntKind.wrap .u8 (n_2 + 1))) : Int) then kOpt (bif qpG (qpw s_2 + qpw (qpO (Int.toNat (IntKind.wrap .u8 (n_2 + 1)) - n.toNat) (List.drop (n.toNat) [(48 : UInt8), (49 : UInt8), (50 : UInt8), (51 : UInt8), (52 : UInt8), (53 : UInt8), (54 : UInt8), (55 : UInt8), (56 : UInt8), (57 : UInt8), (97 : UInt8), (98 : UInt8), (99 : UInt8), (100 : UInt8), (101 : UInt8), (102 : UInt8)]))) 9223372036854775807 then some (AV.str (qpQ s_2 (qpO (Int.toNat (IntKind.wrap .u8 (n_2 + 1)) - n.toNat) (List.drop (n.toNat) [(48 : UInt8), (49 : UInt8), (50 : UInt8), (51 : UInt8), (52 : UInt8), (53 : UInt8), (54 : UInt8), (55 : UInt8), (56 : UInt8), (57 : UInt8), (97 : UInt8), (98 : UInt8), (99 : UInt8), (100 : UInt8), (101 : UInt8), (102 : UInt8)])))) else none) fun v => zg2 v s v4 else none else none else none else none else bif decide ((↑ (UInt8.toNat b) : Int) > 126) then kOpt (bif qpG (qpw v3 + 2) 9223372036854775807 then some (.str (qpQ v3 [(92 : UInt8), (120 : UInt8)])) else none) fun v => kStr v fun s_1 => kOpt (qz (Op.intDiv BinOp.quo .u8 (↑ (UInt8.toNat b) : Int) 16)) fun v => kInt .u8 v fun n => kOpt (qz (Op.intDiv BinOp.quo .u8 (↑ (UInt8.toNat b) : Int) 16)) fun v => kInt .u8 v fun n_1 => bif qf 0 (IntKind.wrap .u8 (n_1 + 1)) && qf (IntKind.wrap .u8 (n_1 + 1)) 16 then bif qf 0 n && qf n (↑ (Int.toNat (IntKind.wrap .u8 (n_1 + 1))) : Int) then kOpt (bif qpG (qpw s_1 + qpw (qpO (Int.toNat (IntKind.wrap .u8 (n_1 + 1)) - n.toNat) (List.drop (n.toNat) [(48 : UInt8), (49 : UInt8), (50 : UInt8), (51 : UInt8), (52 : UInt8), (53 : UInt8), (54 : UInt8), (55 : UInt8), (56 : UInt8), (57 : UInt8), (97 : UInt8), (98 : UInt8), (99 : UInt8), (100 : UInt8), (101 : UInt8), (102 : UInt8)]))) 9223372036854775807 then some (AV.str (qpQ s_1 (qpO (Int.toNat (IntKind.wrap .u8 (n_1 + 1)) - Int.toNat n) (List.drop (n.toNat) [(48 : UInt8), (49 : UInt8), (50 : UInt8), (51 : UInt8), (52 : UInt8), (53 : UInt8), (54 : UInt8), (55 : UInt8), (56 : UInt8), (57 : UInt8), (97 : UInt8), (98 : UInt8), (99 : UInt8), (100 : UInt8), (101 : UInt8), (102 : UInt8)])))) else none) fun v => kStr v fun s_2 => kOpt (qz (Op.intDiv BinOp.rem .u8 (↑ (UInt8.toNat b) : Int) 16)) fun v => kInt .u8 v fun n => kOpt (qz (Op.intDiv BinOp.rem .u8 (↑ (UInt8.toNat b) : Int) 16)) fun v => kInt .u8 v fun n_2 => bif qf 0 (IntKind.wrap .u8 (n_2 + 1)) && qf (IntKind.wrap .u8 (n_2 + 1)) 16 then bif qf 0 n && qf n (↑ (Int.toNat (IntKind.wrap .u8 (n_2 + 1))) : Int) then kOpt (bif qpG (qpw s_2 + qpw (qpO (Int.toNat (IntKind.wrap .u8 (n_2 + 1)) - n.toNat) (List.drop (Int.toNat n) [(48 : UInt8), (49 : UInt8), (50 : UInt8), (51 : UInt8), (52 : UInt8), (53 : UInt8), (54 : UInt8), (55 : UInt8), (56 : UInt8), (57 : UInt8), (97 : UInt8), (98 : UInt8), (99 : UInt8), (100 : UInt8), (101 : UInt8), (102 : UInt8)]))) 9223372036854775807 then some (AV.str (qpQ s_2 (qpO (Int.toNat (IntKind.wrap .u8 (n_2 + 1)) - n.toNat) (List.drop (n.toNat) [(48 : UInt8), (49 : UInt8), (50 : UInt8), (51 : UInt8), (52 : UInt8), (53 : UInt8), (54 : UInt8), (55 : UInt8), (56 : UInt8), (57 : UInt8), (97 : UInt8), (98 : UInt8), (99 : UInt8), (100 : UInt8), (101 : UInt8), (102 : UInt8)])))) else none) fun v => zg2 v s v4 else none else none else none else none else bif (↑ (UInt8.toNat b) : Int) == 39 then kOpt (bif qpG (qpw v3 + 1) 9223372036854775807 then some (.str (qpQ v3 [(92 : UInt8)])) else none) fun v => kStr v fun s_1 => bif qf 0 (IntKind.wrap .i64 (v4 + 1)) && qf (IntKind.wrap .i64 (v4 + 1)) (↑ (qpw s) : Int) then zg3 v4 s_1 s else none else bif (↑ (UInt8.toNat b) : Int) == 92 then kOpt (bif qpG (qpw v3 + 1) 9223372036854775807 then some (.str (qpQ v3 [(92 : UInt8)])) else none) fun v => kStr v fun s_1 => zg5 v4 s s_1 else zg5 v4 s v3 else none else kOpt (bif qpG (qpw v3 + 1) 9223372036854775807 then some (.str (qpQ v3 [(39 : UInt8)])) else none) fun v => kStr v fun s => some (.str s)) P) : Gets (zn s v3 v4) P :=
  gE (fun _ => qP (cfg := cfg) (f := 121) (rd := none) (bs := 0)) (by kernel_rfl) h
theorem rquo {a b : Int} (h : b ≠ 0) : qz (Op.intDiv .quo .i64 a b) = some (.int .i64 (IntKind.wrap .i64 (a.tdiv b))) := by
 unfold Op.intDiv; rw [if_neg h]; rfl
theorem rrem {a b : Int} (h : b ≠ 0) : qz (Op.intDiv .rem .i64 a b) = some (.int .i64 (a.tmod b)) := by
 unfold Op.intDiv; rw [if_neg h]; rfl
theorem qeA (c x y : Int) : EVs (EV cfg) 155 [.int .u8 c, .int .u8 x, .int .u8 y] = some (.bool (decide (c ≥ x) && decide (c ≤ y))) := by
 apply Gets.get
 refine qhf _ _ _ ?_
 cases decide (c ≥ x) <;> simp
theorem qg7 (b : UInt8) : (decide ((b.toNat : Int) ≥ 97) && decide ((b.toNat : Int) ≤ 122)) = xj b := by
 unfold xj
 congr 1 <;> (simp only [decide_eq_decide]; omega)
theorem wbig (b : UInt8) : (decide ((b.toNat : Int) ≥ 65) && decide ((b.toNat : Int) ≤ 90)) = (decide (65 ≤ b.toNat) && decide (b.toNat ≤ 90)) := by
 congr 1 <;> (simp only [decide_eq_decide]; omega)
theorem qlb (b : UInt8) : (decide ((b.toNat : Int) ≥ 48) && decide ((b.toNat : Int) ≤ 57)) = (decide (48 ≤ b.toNat) && decide (b.toNat ≤ 57)) := by
 congr 1 <;> (simp only [decide_eq_decide]; omega)
theorem qc4 (b c : UInt8) : ((b.toNat : Int) != (c.toNat : Int)) = !(b == c) := by rw [bne, vP]
theorem qml (s : List UInt8) : EVs (EV cfg) 156 [.str s] = some (.bool (qQ.contains s)) := by
 apply Gets.get
 refine qjQ _ ?_
 show Gets (qao s 0 (strR qQ)) _
 have key : ∀ (k i : Nat), 17 - i = k → i ≤ 17 → (qQ.take i).contains s = false → Gets (qao s (i : Int) (strR qQ)) (fun v => v = .bool (qQ.contains s)) := by
  intro k
  induction k with
  | zero =>
   intro i hk hi ha
   refine qb4 _ _ _ ?_
   have : i = 17 := by omega
   subst this
   have h17 : qQ.take 17 = qQ := by decide
   rw [h17] at ha
   rw [decide_eq_false (show ¬ (((17 : Nat) : Int) < 17) by omega), ha]
   simp
  | succ k ih =>
   intro i hk hi ha
   refine qb4 _ _ _ ?_
   have hlt : i < 17 := by omega
   have hlen : qQ.length = 17 := by decide
   obtain ⟨b, hb⟩ : ∃ b, qQ[i]? = some b := ⟨qQ[i], qpr (by omega)⟩
   rw [decide_eq_true (show (i : Int) < 17 by omega), qI, show qL (i : Int) 17 = true by simp [qL]; omega]
   have hget : (strR qQ)[i]? = some [AV.str b] := by simp [strR, hb]
   simp only [cond_true, Bool.and_true, qo, Nat.zero_add, Int.toNat_natCast, hget, qa, List.getElem?_cons_zero, qh]
   cases hL : b == s with
   | true =>
    have hsb : b = s := by simpa using hL
    have : qQ.contains s = true := by
     simp only [List.contains_iff_mem]
     rw [← hsb]
     exact qpB hb
    rw [this]; simp
   | false =>
    simp only [cond_false]
    rw [qW hlt (by omega)]
    refine ih (i + 1) (by omega) hlt ?_
    rw [List.take_add_one, hb]
    simp only [Option.toList, List.contains_eq_mem, qpH, qpM, List.not_mem_nil, or_false, decide_eq_false_iff_not] at ha ⊢
    have hne : ¬ b = s := by simpa using hL
    exact fun h => h.elim ha fun e => hne e.symm
 exact key _ 0 rfl (by omega) (by simp)
theorem qlE (s : List UInt8) (hl : s.length < 1099511627776) : EVs (EV cfg) 120 [.str s] = some (.bool (yE s)) := by
 apply Gets.get
 refine qiC _ ?_
 unfold yE
 cases s with
 | nil => simp
 | cons b s =>
  have e0 : (b :: s == []) = false := rfl
  simp only [e0, cond_false]
  by_cases h64 : (b :: s).length ≤ 64
  ·rw [decide_eq_false (show ¬ (((b :: s).length : Int) > 64) by omega)]
   simp only [cond_false, qo, List.getElem?_cons_zero, qa, qeA, qg7, qt]
   cases hsm : xj b with
   | false => simp
   | true =>
    simp only [Bool.not_true, cond_false, decide_eq_true h64, Bool.true_and]
    have key : ∀ (k i : Nat), (b :: s).length - i = k → i ≤ (b :: s).length → ((b :: s).take i).all qp = true → Gets (xM (b :: s) (i : Int)) (fun v => v = .bool ((b :: s).all qp && !qQ.contains (b :: s))) := by
     generalize (b :: s) = s at *
     intro k
     induction k with
     | zero =>
      intro i hk hi ha
      refine qb6 _ _ ?_
      have : i = s.length := by omega
      subst this
      rw [List.take_length] at ha
      rw [decide_eq_false (show ¬ ((s.length : Int) < (s.length : Int)) by omega)]
      simp only [cond_false, qml, qa, qt, qE, ha, Bool.true_and]
     | succ k ih =>
      intro i hk hi ha
      refine qb6 _ _ ?_
      have hlt : i < s.length := by omega
      obtain ⟨c, hc⟩ : ∃ c, s[i]? = some c := ⟨s[i], qpr hlt⟩
      rw [decide_eq_true (show (i : Int) < (s.length : Int) by omega), qI, qW hlt hl]
      have e1 : ((c.toNat : Int) != 95) = !(c == 95) := qc4 c 95
      have e2 : ((c.toNat : Int) != 64) = !(c == 64) := qc4 c 64
      simp only [cond_true, qo, Int.toNat_natCast, hc, qa, qeA, qg7, wbig, qlb, qt, e1, e2]
      have hnext : qp c = true → Gets (xM s ((i + 1 : Nat) : Int)) (fun v => v = .bool (s.all qp && !qQ.contains s)) := fun hL => ih (i + 1) (by omega) hlt (by
       rw [List.take_add_one, List.all_append, ha, hc]
       simp [hL])
      have hstop : qp c = false → s.all qp = false := fun hL => by
       rw [← qpI, List.all_eq_true]
       intro h
       have := h c (qpB hc)
       rw [hL] at this; cases this
      cases h1 : xj c with
      | true => simp only [Bool.not_true, cond_false]; exact hnext (by unfold qp; simp [h1])
      | false =>
      simp only [Bool.not_false, cond_true]
      cases h2 : (decide (65 ≤ c.toNat) && decide (c.toNat ≤ 90)) with
      | true => simp only [Bool.not_true, cond_false]; exact hnext (by unfold qp; simp [h1, h2])
      | false =>
      simp only [Bool.not_false, cond_true]
      cases h3 : (decide (48 ≤ c.toNat) && decide (c.toNat ≤ 57)) with
      | true => simp only [Bool.not_true, cond_false]; exact hnext (by unfold qp; simp [h1, h2, h3])
      | false =>
      simp only [Bool.not_false, cond_true]
      cases h4 : c == 95 with
      | true => simp only [Bool.not_true, cond_false]; exact hnext (by unfold qp; simp [h1, h2, h3, h4])
      | false =>
      simp only [Bool.not_false, cond_true]
      cases h5 : c == 64 with
      | true => simp only [Bool.not_true, cond_false]; exact hnext (by unfold qp; simp [h1, h2, h3, h4, h5])
      | false =>
       simp only [Bool.not_false, cond_true, qE]
       rw [hstop (by unfold qp; simp [h1, h2, h3, h4, h5])]
       simp
    exact key _ 0 rfl (by omega) rfl
  ·rw [decide_eq_true (show (((b :: s).length : Int) > 64) by omega)]
   have : decide ((b :: s).length ≤ 64) = false := decide_eq_false h64
   rw [this]
   simp
theorem qpi (b : UInt8) : qz (Op.intDiv BinOp.quo .u8 (b.toNat : Int) 16) = some (.int .u8 ((b.toNat / 16 : Nat) : Int)) := by
 have : ∀ n : Nat, n < 256 → qbq (qz (Op.intDiv BinOp.quo .u8 (n : Int) 16)) ((n / 16 : Nat) : Int) = true := by decide +kernel
 exact qaS (this _ b.toNat_lt)
theorem qph (b : UInt8) : qz (Op.intDiv BinOp.rem .u8 (b.toNat : Int) 16) = some (.int .u8 ((b.toNat % 16 : Nat) : Int)) := by
 have : ∀ n : Nat, n < 256 → qbq (qz (Op.intDiv BinOp.rem .u8 (n : Int) 16)) ((n % 16 : Nat) : Int) = true := by decide +kernel
 exact qaS (this _ b.toNat_lt)
theorem bleN {n : Nat} (h : n ≤ 9223372036854775807) : qpG n 9223372036854775807 = true := by simp only [nble, decide_eq_true_eq]; exact h
theorem qmq {s : List UInt8} {i : Nat} {b : UInt8} (hb : s[i]? = some b) : qpO (i + 1 - i) (List.drop i s) = [b] := by
 have hlt : i < s.length := (qpn.1 hb).1
 rw [List.drop_eq_getElem_cons hlt]
 rw [qpr hlt] at hb
 cases hb
 rw [show i + 1 - i = 1 by omega]
 rfl
theorem qhE {s acc : List UInt8} {i : Nat} {b : UInt8} (hb : s[i]? = some b) (hs : s.length < 1099511627776) (ha : acc.length < 100000000000000) {P : AV → Prop}
  (h : Gets (zn s (acc ++ escB b) ((i + 1 : Nat) : Int)) P) : Gets (zn s acc (i : Int)) P := by
 have hlt : i < s.length := (qpn.1 hb).1
 refine qb5 _ _ _ ?_
 unfold zg5 zg3 zg4 zg2
 have e1 : ((b.toNat : Int) == 39) = (b == 39) := vP b 39
 have e2 : ((b.toNat : Int) == 92) = (b == 92) := vP b 92
 have hq : b.toNat / 16 < 16 := by have := b.toNat_lt; omega
 have hr : b.toNat % 16 < 16 := by omega
 have hle : qf ((i + 1 : Nat) : Int) (s.length : Int) = true := by simp [qf]; omega
 rw [decide_eq_true (show (i : Int) < (s.length : Int) by omega), qI, qW hlt hs]
 simp only [cond_true, qo, Int.toNat_natCast, hb, qa, qpi, qph, qw, qgQ hq, qgQ hr, qI, le16 hq, le16 hr, qe4, hle, Bool.and_self, zG hq, zG hr, qmq hb, e1, e2]
 unfold escB at h
 by_cases h32 : b.toNat < 32
 ·rw [decide_eq_true (show (b.toNat : Int) < 32 by omega)]
  have hn : ¬ (b = 39 ∨ b = 92) := by rintro (rfl | rfl) <;> exact absurd h32 (by decide)
  rw [if_neg hn, if_pos (.inl h32)] at h
  simp only [cond_true]
  rw [bleN (by omega)]
  simp only [cond_true, qa, qh, List.append_eq, qpD, qpC, qpL]
  rw [bleN (by omega)]
  simp only [cond_true, qa, qh, List.append_eq, qpD, qpC, qpL]
  rw [bleN (by omega)]
  simp only [cond_true, qa, qh, List.append_assoc, List.cons_append, List.nil_append]
  exact h
 ·rw [decide_eq_false (show ¬ (b.toNat : Int) < 32 by omega)]
  simp only [cond_false]
  by_cases h126 : 126 < b.toNat
  ·rw [decide_eq_true (show (b.toNat : Int) > 126 by omega)]
   have hn : ¬ (b = 39 ∨ b = 92) := by rintro (rfl | rfl) <;> exact absurd h126 (by decide)
   rw [if_neg hn, if_pos (.inr h126)] at h
   simp only [cond_true]
   rw [bleN (by omega)]
   simp only [cond_true, qa, qh, List.append_eq, qpD, qpC, qpL]
   rw [bleN (by omega)]
   simp only [cond_true, qa, qh, List.append_eq, qpD, qpC, qpL]
   rw [bleN (by omega)]
   simp only [cond_true, qa, qh, List.append_assoc, List.cons_append, List.nil_append]
   exact h
  ·rw [decide_eq_false (show ¬ (b.toNat : Int) > 126 by omega)]
   simp only [cond_false]
   cases h1 : b == 39 with
   | true =>
    simp only [cond_true]
    rw [if_pos (.inl (by simpa using h1))] at h
    rw [bleN (by omega)]
    simp only [cond_true, qa, qh, List.append_eq, qpD, qpC, qpL]
    rw [bleN (by omega)]
    simp only [cond_true, qa, qh, List.append_assoc, List.cons_append, List.nil_append]
    exact h
   | false =>
   cases h2 : b == 92 with
   | true =>
    simp only [cond_true, cond_false]
    rw [if_pos (.inr (by simpa using h2))] at h
    rw [bleN (by omega)]
    simp only [cond_true, qa, qh, List.append_eq, qpD, qpC, qpL]
    rw [bleN (by omega)]
    simp only [cond_true, qa, qh, List.append_assoc, List.cons_append, List.nil_append]
    exact h
   | false =>
    have hn : ¬ (b = 39 ∨ b = 92) := by simp at h1 h2; simp [h1, h2]
    rw [if_neg hn, if_neg (by omega)] at h
    simp only [cond_false]
    rw [bleN (by simp; omega)]
    simp only [cond_true, qa, qh, List.append_eq]
    exact h
theorem qkm (s : List UInt8) (hs : s.length < 1099511627776) : EVs (EV cfg) 121 [.str s] = some (.str (xY s)) := by
 apply Gets.get
 refine qhg _ ?_
 have key : ∀ (k i : Nat) (acc : List UInt8), s.length - i = k → i ≤ s.length → acc = 39 :: (s.take i).flatMap escB → Gets (zn s acc (i : Int)) (fun v => v = .str (xY s)) := by
  intro k
  induction k with
  | zero =>
   intro i acc hk hi ha
   refine qb5 _ _ _ ?_
   unfold zg5 zg3 zg4 zg2
   have : i = s.length := by omega
   subst this
   rw [List.take_length] at ha
   have hl := zu s
   have hal : acc.length = (s.flatMap escB).length + 1 := by rw [ha]; simp
   rw [decide_eq_false (show ¬ ((s.length : Int) < (s.length : Int)) by omega)]
   simp only [cond_false]
   rw [bleN (by omega)]
   simp only [cond_true, qa, qh, qE, ha]
   rfl
  | succ k ih =>
   intro i acc hk hi ha
   have hlt : i < s.length := by omega
   have hb : s[i]? = some s[i] := qpr hlt
   have hl := zu (s.take i)
   have hal : acc.length = ((s.take i).flatMap escB).length + 1 := by rw [ha]; simp
   have htl : (s.take i).length ≤ s.length := by simp; omega
   refine qhE hb hs (by omega) (ih (i + 1) _ (by omega) hlt ?_)
   rw [ha, List.take_add_one, hb]
   simp only [Option.toList, List.flatMap_append, List.flatMap_cons, List.flatMap_nil, List.append_nil, List.cons_append]
 exact key _ 0 _ rfl (by omega) rfl
theorem qn6 {k : Nat} (h : k < 10) : qpO (k + 1 - k) (List.drop k ([48, 49, 50, 51, 52, 53, 54, 55, 56, 57] : List UInt8)) = [UInt8.ofNat (48 + k)] := by
 have : ∀ k : Nat, k < 10 → qpO (k + 1 - k) (List.drop k ([48, 49, 50, 51, 52, 53, 54, 55, 56, 57] : List UInt8)) = [UInt8.ofNat (48 + k)] := by decide
 exact this k h
theorem qn7 (m : Nat) : m < 9223372036854775808 → EVs (EV cfg) 73 [.int .i64 (m : Int)] = some (.str (Go.Lib.decDigits m)) := by
 induction m using Nat.strongRecOn with
 | _ m ih =>
  intro hm
  apply Gets.get
  refine qld _ ?_
  rw [decide_eq_false (show ¬ (m : Int) < 0 by omega)]
  simp only [cond_false]
  by_cases h10 : m < 10
  ·rw [decide_eq_true (show (m : Int) < 10 by omega)]
   have hw : IntKind.wrap .i64 ((m : Int) + 1) = ((m + 1 : Nat) : Int) := by rw [zE (by omega) (by omega)]; rfl
   have hle : qf ((m + 1 : Nat) : Int) 10 = true := by simp [qf]; omega
   simp only [cond_true, hw, qI, hle, Bool.true_and, qe4, Int.toNat_natCast, qn6 h10, qE]
   rw [Go.Lib.decDigits, dif_pos h10]
  ·rw [decide_eq_false (show ¬ (m : Int) < 10 by omega)]
   simp only [cond_false]
   rw [rquo (by decide), rrem (by decide)]
   have hd : IntKind.wrap .i64 ((m : Int).tdiv 10) = ((m / 10 : Nat) : Int) := by
    rw [Int.tdiv_eq_ediv_of_nonneg (by omega), zE (by omega) (by omega)]; omega
   have hr : (m : Int).tmod 10 = ((m % 10 : Nat) : Int) := by
    rw [Int.tmod_eq_emod_of_nonneg (by omega)]; omega
   rw [hd, hr]
   have i1 := ih (m / 10) (by omega) (by omega)
   have i2 := ih (m % 10) (by omega) (by omega)
   simp only [qa, qw]
   rw [i1]
   simp only [qa, qh, qw]
   rw [i2]
   have hl : ∀ u, u < 10 ^ 19 → (Go.Lib.decDigits u).length ≤ 20 := fun u hu => by
    rw [← qdw 19 u (by omega)]
    have : ∀ (k u : Nat), (decF k u).length ≤ k := fun k => by
     induction k with
     | zero => intro u; simp [decF]
     | succ k ih => intro u; rw [decF]; split <;> simp; exact ih _
    exact this 20 u
   have l1 := hl (m / 10) (by omega)
   have l2 := hl (m % 10) (by omega)
   simp only [qa, qh]
   rw [bleN (by omega)]
   simp only [cond_true, qa, qh, qE, List.append_eq]
   conv => rhs; rw [Go.Lib.decDigits, dif_neg h10]
   have h9 : m % 10 < 10 := by omega
   rw [show Go.Lib.decDigits (m % 10) = [UInt8.ofNat (48 + m % 10)] by rw [Go.Lib.decDigits, dif_pos h9]]
theorem qn8 {n : Int} (h0 : 0 ≤ n) (h1 : n ≤ 576460752303423487) : EVs (EV cfg) 73 [.int .i64 n] = some (.str (xl n)) := by
 obtain ⟨m, rfl⟩ := Int.eq_ofNat_of_zero_le h0
 rw [qn7 m (by omega), qhZ (by omega) (by omega)]
 unfold Go.Lib.itoa
 rw [if_neg (by omega)]
 rfl
noncomputable def qop : Den := evC cfg (EV cfg) 70 none 0 (sub (qm Tryz.f70) [1, 0, 1, 0, 0])
noncomputable def qow : Ex × List AV × AH → Option AV := kAft (Cfg.keepOut cfg 70 2) (kRun cfg (EV cfg) (kfN cfg 6) 70 none 0 (xB cfg (Cfg.lift cfg 70 0) Tryz.f70.results.toList) ([.block 0, .seq (sub (qm Tryz.f70) [1, 1])]))
noncomputable def qoi : List AV × AH → Option AV := fun p => kOpt (LOOP 0 (some [0, 1, 5]) ([]) qop p) qow
noncomputable def qoq : Den := evC cfg (EV cfg) 69 none 0 (sub (qm Tryz.f69) [1, 1, 0, 1, 0, 0])
noncomputable def qox : Ex × List AV × AH → Option AV := kAft (Cfg.keepOut cfg 69 4) (kRun cfg (EV cfg) (kfN cfg 6) 69 none 0 (xB cfg (Cfg.lift cfg 69 0) Tryz.f69.results.toList) ([.block 0, .seq (sub (qm Tryz.f69) [1, 1, 1])]))
noncomputable def qoj : List AV × AH → Option AV := fun p => kOpt (LOOP 0 (some [0, 3]) ([]) qoq p) qox
noncomputable def qo0 : Den := evC cfg (EV cfg) 9 none 0 (sub (qm Tryz.f9) [1, 1, 0, 1, 0, 0])
noncomputable def qo6 : Ex × List AV × AH → Option AV := kAft (Cfg.keepOut cfg 9 3) (kRun cfg (EV cfg) (kfN cfg 6) 9 none 0 (qkD cfg (Cfg.lift cfg 9 0) Tryz.f9.results.toList) ([.block 0, .seq (sub (qm Tryz.f9) [1, 1, 1])]))
noncomputable def qoW : List AV × AH → Option AV := fun p => kOpt (LOOP 0 (some [0, 4, 5]) ([]) qo0 p) qo6
noncomputable def qor : Den := evC cfg (EV cfg) 10 none 0 (sub (qm Tryz.f10) [1, 1, 0, 1, 0, 0])
noncomputable def qoy : Ex × List AV × AH → Option AV := kAft (Cfg.keepOut cfg 10 4) (kRun cfg (EV cfg) (kfN cfg 6) 10 none 0 (xB cfg (Cfg.lift cfg 10 0) Tryz.f10.results.toList) ([.block 0, .seq (sub (qm Tryz.f10) [1, 1, 1])]))
noncomputable def qok : List AV × AH → Option AV := fun p => kOpt (LOOP 0 (some [0, 1, 5]) ([]) qor p) qoy
noncomputable abbrev qdd (s : Bz) (l : Rz) (v5 : Int) : Option (AV) := qoi  (((fx 18 [(0, .str s), (1, .sl l), (5, .int .i64 v5)]) : List AV), ([] : AH))
noncomputable abbrev qai (s : Bz) (v3 : Int) : Option (AV) := qoj  (((fx 33 [(0, .str s), (3, .int .i64 v3)]) : List AV), ([] : AH))
noncomputable abbrev qex (l : Rz) (v4 : Bz) (v5 : Int) : Option (AV) := qoW  (((fx 30 [(0, .sl l), (4, .str v4), (5, .int .i64 v5)]) : List AV), ([] : AH))
noncomputable abbrev qde (x y : Rz) (v5 : Int) : Option (AV) := qok  (((fx 26 [(0, .sl x), (1, .sl y), (5, .int .i64 v5)]) : List AV), ([] : AH))
theorem qhj (c x y : Int) {P : AV → Prop} (h : Gets (bif decide (c ≥ x) then some (.bool (decide (c ≤ y))) else some (.bool false)) P) : Gets (EVs (EV cfg) 118 [.int .u8 c, .int .u8 x, .int .u8 y]) P :=
  gE (fun _ => funS rfl rfl Tryz.func118 rfl) (by kernel_rfl) h
theorem qhk (c : Int) {P : AV → Prop} (h : Gets (kOpt (EVs (EV cfg) 118 [AV.int .u8 c, .int .u8 97, .int .u8 122]) fun v => qB v fun b => bif b then some (.bool true) else kOpt (EVs (EV cfg) 118 [AV.int .u8 c, .int .u8 65, .int .u8 90]) fun v => qB v fun b => bif b then some (.bool true) else kOpt (EVs (EV cfg) 118 [AV.int .u8 c, .int .u8 48, .int .u8 57]) fun v => qB v fun b => bif b then some (.bool true) else bif c == 95 then some (.bool true) else some (.bool (c == 64))) P) : Gets (EVs (EV cfg) 119 [.int .u8 c]) P :=
  gE (fun _ => funS rfl rfl Tryz.func119 rfl) (by kernel_rfl) h
theorem qmn (s : Bz) (l : Rz) {P : AV → Prop} (h : Gets (qdd s l 0) P) : Gets (EVs (EV cfg) 70 [.str s, .sl l]) P :=
  gE (fun _ => funS rfl rfl Tryz.func70 rfl) (by kernel_rfl) h
theorem qfS (s : Bz) {P : AV → Prop} (h : Gets (bif s == [] then some (.bool false) else bif decide ((s.length : Int) > 64) then some (.bool false) else kOpt (qpA s 0) fun b => kOpt (EVs (EV cfg) 118 [AV.int .u8 (↑ (UInt8.toNat b) : Int), .int .u8 65, .int .u8 90]) fun v => qB v fun b => bif ! b then kOpt (qpA s 0) fun b => bif (↑ (UInt8.toNat b) : Int) != 95 then some (.bool false) else qai s 0 else qai s 0) P) : Gets (EVs (EV cfg) 69 [.str s]) P :=
  gE (fun _ => funS rfl rfl Tryz.func69 rfl) (by kernel_rfl) h
theorem qlf (k n a : Int) (s : Bz) {P : AV → Prop} (h : Gets (bif k == 1 then bif decide (n ≥ 0) then bif decide (n ≤ 576460752303423487) then some (.bool (s == [])) else some (.bool false) else some (.bool false) else bif k == 2 then bif n == 0 then some (.bool (decide ((s.length : Int) ≤ 64))) else some (.bool false) else bif k == 3 then bif n == 0 then kOpt (EVs (EV cfg) 69 [.str s]) fun v => qB v fun b => some (.bool b) else some (.bool false) else bif k == 4 then bif n == 0 then kOpt (EVf (EV cfg) 71 []) fun v => kSl v fun rows => kOpt (EVs (EV cfg) 70 [.str s, .sl rows]) fun v => qB v fun b => some (.bool b) else some (.bool false) else bif k == 5 then bif n == 0 then kOpt (EVf (EV cfg) 72 []) fun v => kSl v fun rows => kOpt (EVs (EV cfg) 70 [.str s, .sl rows]) fun v => qB v fun b => some (.bool b) else some (.bool false) else bif k == 6 then bif n == 0 then some (.bool (s == [])) else some (.bool false) else some (.bool false)) P) : Gets (EVs (EV cfg) 33 [.agg [.int .i64 k, .int .i64 n, .int .i64 a, .str s]]) P :=
  gE (fun _ => funS rfl rfl Tryz.func33 rfl) (by kernel_rfl) h
theorem qjX (k n a : Int) (s : Bz) {P : AV → Prop} (h : Gets (bif k == 1 then kOpt (EVs (EV cfg) 73 [AV.int .i64 n]) fun v => kStr v fun s => some (.str s) else bif k == 2 then kOpt (EVs (EV cfg) 74 [.agg [.int .i64 2, .int .i64 0, .str s, .sl []]]) fun v => kStr v fun s => some (.str s) else bif k == 6 then some (.str [(46 : UInt8)]) else some (.str s)) P) : Gets (EVs (EV cfg) 34 [.agg [.int .i64 k, .int .i64 n, .int .i64 a, .str s]]) P :=
  gE (fun _ => funS rfl rfl Tryz.func34 rfl) (by kernel_rfl) h
theorem qiI (l : Rz) {P : AV → Prop} (h : Gets (qex l [] 0) P) : Gets (EVf (EV cfg) 9 [.sl l]) P :=
  gE (fun _ => funF rfl rfl Tryz.func9 rfl) (by kernel_rfl) h
theorem qjY (x y : Rz) {P : AV → Prop} (h : Gets (bif (x.length : Int) != (y.length : Int) then some (.bool false) else qde x y 0) P) : Gets (EVs (EV cfg) 10 [.sl x, .sl y]) P :=
  gE (fun _ => funS rfl rfl Tryz.func10 rfl) (by kernel_rfl) h
theorem qcn (s : Bz) (l : Rz) (v5 : Int) {P : AV → Prop} (h : Gets (bif decide (v5 < (l.length : Int)) then bif qf 0 v5 && qL v5 (l.length : Int) then kOpt (qpA l (v5.toNat)) fun row => bif qpJ (qpw row) 1 then kOpt (qpA row 0) fun v => kStr v fun s_1 => bif s_1 == s then some (.bool true) else qdd s l (IntKind.wrap .i64 (v5 + 1)) else none else none else some (.bool false)) P) : Gets (qdd s l v5) P :=
  gE (fun _ => qP (cfg := cfg) (f := 70) (rd := none) (bs := 0)) (by kernel_rfl) h
theorem qco (s : Bz) (v3 : Int) {P : AV → Prop} (h : Gets (bif decide (v3 < (s.length : Int)) then bif qf 0 v3 then kOpt (qpA s (v3.toNat)) fun b => kOpt (EVs (EV cfg) 119 [AV.int .u8 (↑ (UInt8.toNat b) : Int)]) fun v => qB v fun b => bif ! b then some (.bool false) else qai s (IntKind.wrap .i64 (v3 + 1)) else none else some (.bool true)) P) : Gets (qai s v3) P :=
  gE (fun _ => qP (cfg := cfg) (f := 69) (rd := none) (bs := 0)) (by kernel_rfl) h
noncomputable abbrev zh15 (s s_2 : Bz) (l : Rz) (v5 : Int) : Option (AV) := kOpt (bif qpG (qpw s + qpw s_2) 9223372036854775807 then some (.str (qpQ s s_2)) else none) fun v => kStr v fun s => qex l s (IntKind.wrap .i64 (v5 + 1))
noncomputable abbrev zh14 (v : AV) (s : Bz) (l : Rz) (v5 : Int) : Option (AV) := kStr v fun s_2 => zh15 s s_2 l v5
noncomputable abbrev zh13 (n n_3 n_4 : Int) (s_1 s : Bz) (l : Rz) (v5 : Int) : Option (AV) := kOpt (EVs (EV cfg) 34 [.agg [.int .i64 n, .int .i64 n_3, .int .i64 n_4, .str s_1]]) fun v => zh14 v s l v5
noncomputable abbrev zh12 (cs : List AV) (n n_3 n_4 : Int) (s_1 s : Bz) (l : Rz) (v5 : Int) : Option (AV) := kNil cs (zh13 n n_3 n_4 s_1 s l v5)
noncomputable abbrev zh11 (c : AV) (cs : List AV) (n n_3 n_4 : Int) (s : Bz) (l : Rz) (v5 : Int) : Option (AV) := kStr c fun s_1 => zh12 cs n n_3 n_4 s_1 s l v5
noncomputable abbrev zh10 (cs : List AV) (n n_3 n_4 : Int) (s : Bz) (l : Rz) (v5 : Int) : Option (AV) := qv cs fun c cs => zh11 c cs n n_3 n_4 s l v5
noncomputable abbrev zh9 (c : AV) (cs : List AV) (n n_3 : Int) (s : Bz) (l : Rz) (v5 : Int) : Option (AV) := kInt .i64 c fun n_4 => zh10 cs n n_3 n_4 s l v5
noncomputable abbrev zh8 (cs : List AV) (n n_3 : Int) (s : Bz) (l : Rz) (v5 : Int) : Option (AV) := qv cs fun c cs => zh9 c cs n n_3 s l v5
noncomputable abbrev zh7 (c : AV) (cs : List AV) (n : Int) (s : Bz) (l : Rz) (v5 : Int) : Option (AV) := kInt .i64 c fun n_3 => zh8 cs n n_3 s l v5
noncomputable abbrev zh6 (cs : List AV) (n : Int) (s : Bz) (l : Rz) (v5 : Int) : Option (AV) := qv cs fun c cs => zh7 c cs n s l v5
noncomputable abbrev zh5 (c : AV) (cs : List AV) (s : Bz) (l : Rz) (v5 : Int) : Option (AV) := kInt .i64 c fun n => zh6 cs n s l v5
noncomputable abbrev zh4 (row : List AV) (s : Bz) (l : Rz) (v5 : Int) : Option (AV) := qv (qpO 4 row) fun c cs => zh5 c cs s l v5
noncomputable abbrev zh3 (row : List AV) (s : Bz) (l : Rz) (v5 : Int) : Option (AV) := bif qpG 4 (qpw row) then zh4 row s l v5 else none
noncomputable abbrev zh2 (row : List AV) (s : Bz) (l : Rz) (v5 : Int) : Option (AV) := bif qpJ (qpw row) 4 then zh3 row s l v5 else none
noncomputable abbrev zh1 (l : Rz) (v5 : Int) (s : Bz) : Option (AV) := kOpt (qpA l (v5.toNat)) fun row => zh2 row s l v5
noncomputable abbrev zh0 (v5 : Int) (l : Rz) (s : Bz) : Option (AV) := bif qf 0 v5 && qL v5 (l.length : Int) then zh1 l v5 s else none
theorem qdD (l : Rz) (v4 : Bz) (v5 : Int) {P : AV → Prop} (h : Gets (bif decide (v5 < (l.length : Int)) then bif qf 0 v5 && qL v5 (l.length : Int) then kOpt (qpA l (v5.toNat)) fun row => bif qpJ (qpw row) 4 then bif qpG 4 (qpw row) then qv (qpO 4 row) fun c cs => kInt .i64 c fun n => qv cs fun c cs => kInt .i64 c fun n_1 => qv cs fun c cs => kInt .i64 c fun n_2 => qv cs fun c cs => kStr c fun s => kNil cs (kOpt (EVs (EV cfg) 33 [.agg [.int .i64 n, .int .i64 n_1, .int .i64 n_2, .str s]]) fun v => qB v fun b => bif ! b then some (AV.tup [.str [], .int .i64 2]) else bif decide (v5 > 0) then kOpt (bif qpG (qpw v4 + 1) 9223372036854775807 then some (.str (qpQ v4 [(32 : UInt8)])) else none) fun v => kStr v fun s => zh0 v5 l s else zh0 v5 l v4) else none else none else none else some (AV.tup [.str v4, .int .i64 0])) P) : Gets (qex l v4 v5) P :=
  gE (fun _ => qP (cfg := cfg) (f := 9) (rd := none) (bs := 0)) (by kernel_rfl) h
theorem qcp (x y : Rz) (v5 : Int) {P : AV → Prop} (h : Gets (bif decide (v5 < (x.length : Int)) then bif qf 0 v5 && qL v5 (x.length : Int) then kOpt (qpA x (v5.toNat)) fun row => bif qpJ (qpw row) 4 then bif qpG 4 (qpw row) then qv (qpO 4 row) fun c cs => kInt .i64 c fun n => qv cs fun c cs => kInt .i64 c fun n_1 => qv cs fun c cs => kInt .i64 c fun n_2 => qv cs fun c cs => kStr c fun s => kNil cs (bif qf 0 v5 && qL v5 (y.length : Int) then kOpt (qpA y (v5.toNat)) fun row => bif qpJ (qpw row) 4 then bif qpG 4 (qpw row) then qv (qpO 4 row) fun c cs => kInt .i64 c fun n_3 => qv cs fun c cs => kInt .i64 c fun n_4 => qv cs fun c cs => kInt .i64 c fun n_5 => qv cs fun c cs => kStr c fun s_1 => kNil cs (bif ! (decide (n = n_3) && (decide (n_1 = n_4) && (decide (n_2 = n_5) && (s == s_1 && true)))) then some (.bool false) else qde x y (IntKind.wrap .i64 (v5 + 1))) else none else none else none) else none else none else none else some (.bool true)) P) : Gets (qde x y v5) P :=
  gE (fun _ => qP (cfg := cfg) (f := 10) (rd := none) (bs := 0)) (by kernel_rfl) h
theorem qdG (c x y : Int) : EVs (EV cfg) 118 [.int .u8 c, .int .u8 x, .int .u8 y] = some (.bool (decide (c ≥ x) && decide (c ≤ y))) := by
 apply Gets.get
 refine qhj _ _ _ ?_
 cases decide (c ≥ x) <;> simp
theorem qi6 (b : UInt8) : EVs (EV cfg) 119 [.int .u8 (b.toNat : Int)] = some (.bool (qp b)) := by
 apply Gets.get
 refine qhk _ ?_
 have e1 : ((b.toNat : Int) == 95) = (b == 95) := vP b 95
 have e2 : ((b.toNat : Int) == 64) = (b == 64) := vP b 64
 simp only [qdG, qg7, wbig, qlb, qa, qt, e1, e2]
 unfold qp
 cases xj b <;> cases (decide (65 ≤ b.toNat) && decide (b.toNat ≤ 90)) <;> cases (decide (48 ≤ b.toNat) && decide (b.toNat ≤ 57)) <;> cases b == 95 <;> cases b == 64 <;> simp
theorem qjC (l : List (List UInt8)) (s : List UInt8) (hl : l.length < 1099511627776) : EVs (EV cfg) 70 [.str s, .sl (strR l)] = some (.bool (l.contains s)) := by
 apply Gets.get
 refine qmn _ _ ?_
 have key : ∀ (k i : Nat), l.length - i = k → i ≤ l.length → (l.take i).contains s = false → Gets (qdd s (strR l) (i : Int)) (fun v => v = .bool (l.contains s)) := by
  intro k
  induction k with
  | zero =>
   intro i hk hi ha
   refine qcn _ _ _ ?_
   have : i = l.length := by omega
   subst this
   simp only [qpN, decide_eq_false (show ¬ ((l.length : Int) < (l.length : Int)) by omega), cond_false, qE]
   rw [List.take_length] at ha
   rw [ha]
  | succ k ih =>
   intro i hk hi ha
   refine qcn _ _ _ ?_
   have hlt : i < l.length := by omega
   obtain ⟨b, hb⟩ : ∃ b, l[i]? = some b := ⟨l[i], qpr hlt⟩
   rw [qpN, decide_eq_true (show (i : Int) < (l.length : Int) by omega), qI, vL, decide_eq_true hlt]
   simp only [cond_true, Bool.and_true, qo, Int.toNat_natCast, qho hb, qa, List.getElem?_cons_zero, qh, qpC, qpL, nbeq, decide_true]
   cases hL : b == s with
   | true =>
    have hsb : b = s := by simpa using hL
    have : l.contains s = true := by
     simp only [List.contains_iff_mem]
     rw [← hsb]
     exact qpB hb
    rw [this]; simp
   | false =>
    simp only [cond_false]
    rw [qW hlt hl]
    refine ih (i + 1) (by omega) hlt ?_
    rw [List.take_add_one, hb]
    simp only [Option.toList, List.contains_eq_mem, qpH, qpM, List.not_mem_nil, or_false, decide_eq_false_iff_not] at ha ⊢
    have hne : ¬ b = s := by simpa using hL
    exact fun h => h.elim ha fun e => hne e.symm
 exact key _ 0 rfl (by omega) (by simp)
theorem qjO : EVf (EV cfg) 71 [] = some (.sl (strR qQ)) := qdv (.nil) 1000 1000 (by kernel_rfl)
theorem qj5 : EVf (EV cfg) 72 [] = some (.sl (strR qcx)) := qdv (.nil) 1000 1000 (by kernel_rfl)
theorem qmm (s : List UInt8) (hl : s.length < 1099511627776) : EVs (EV cfg) 69 [.str s] = some (.bool (varA s)) := by
 apply Gets.get
 refine qfS _ ?_
 unfold varA
 cases s with
 | nil => simp
 | cons b s =>
  have e0 : (b :: s == []) = false := rfl
  simp only [e0, cond_false]
  by_cases h64 : (b :: s).length ≤ 64
  ·rw [decide_eq_false (show ¬ (((b :: s).length : Int) > 64) by omega)]
   have e1 : ((b.toNat : Int) != 95) = !(b == 95) := qc4 b 95
   simp only [cond_false, qo, List.getElem?_cons_zero, qa, qdG, wbig, qt, e1]
   have loop : Gets (qai (b :: s) 0) (fun v => v = .bool ((b :: s).all qp)) := by
    generalize (b :: s) = s at *
    have key : ∀ (k i : Nat), s.length - i = k → i ≤ s.length → (s.take i).all qp = true → Gets (qai s (i : Int)) (fun v => v = .bool (s.all qp)) := by
     intro k
     induction k with
     | zero =>
      intro i hk hi ha
      refine qco _ _ ?_
      have : i = s.length := by omega
      subst this
      rw [List.take_length] at ha
      rw [decide_eq_false (show ¬ ((s.length : Int) < (s.length : Int)) by omega), ha]
      simp
     | succ k ih =>
      intro i hk hi ha
      refine qco _ _ ?_
      have hlt : i < s.length := by omega
      obtain ⟨c, hc⟩ : ∃ c, s[i]? = some c := ⟨s[i], qpr hlt⟩
      rw [decide_eq_true (show (i : Int) < (s.length : Int) by omega), qI, qW hlt hl]
      simp only [cond_true, qo, Int.toNat_natCast, hc, qa, qi6, qt]
      cases hL : qp c with
      | false =>
       have : s.all qp = false := by
        rw [← qpI, List.all_eq_true]
        intro h
        have := h c (qpB hc)
        rw [hL] at this; cases this
       rw [this]; simp
      | true =>
       simp only [Bool.not_true, cond_false]
       refine ih (i + 1) (by omega) hlt ?_
       rw [List.take_add_one, List.all_append, ha, hc]
       simp [hL]
    exact key _ 0 rfl (by omega) rfl
   have hb : bigA b = ((decide (65 ≤ b.toNat) && decide (b.toNat ≤ 90)) || b == 95) := rfl
   cases h1 : (decide (65 ≤ b.toNat) && decide (b.toNat ≤ 90)) with
   | true =>
    rw [h1] at hb
    simp only [Bool.not_true, cond_false, hb, Bool.true_or, decide_eq_true h64, Bool.true_and]
    exact loop
   | false =>
    rw [h1] at hb
    simp only [Bool.not_false, cond_true, hb, Bool.false_or, decide_eq_true h64, Bool.and_true]
    cases h2 : b == 95 with
    | true =>
     simp only [Bool.not_true, cond_false, Bool.true_and]
     exact loop
    | false => simp
  ·rw [decide_eq_true (show (((b :: s).length : Int) > 64) by omega)]
   have : decide ((b :: s).length ≤ 64) = false := decide_eq_false h64
   rw [this]
   simp
theorem qmC (k n a : Int) (s : List UInt8) (hl : s.length < 1099511627776) : EVs (EV cfg) 33 [.agg [.int .i64 k, .int .i64 n, .int .i64 a, .str s]] = some (.bool (mayA k n s)) := by
 apply Gets.get
 refine qlf _ _ _ _ ?_
 unfold mayA
 by_cases k1 : k = 1
 ·subst k1
  simp only [beq_self_eq_true, cond_true, if_true]
  have d1 : decide (n ≥ 0) = decide (0 ≤ n) := rfl
  rw [d1]
  cases decide (0 ≤ n) <;> cases decide (n ≤ 576460752303423487) <;> simp
 rw [if_neg k1, show (k == 1) = false by simpa using k1]
 by_cases k2 : k = 2
 ·subst k2
  have : decide ((s.length : Int) ≤ 64) = decide (s.length ≤ 64) := by simp only [decide_eq_decide]; omega
  simp only [cond_false, beq_self_eq_true, cond_true, if_true, this]
  cases n == 0 <;> simp
 rw [if_neg k2, show (k == 2) = false by simpa using k2]
 by_cases k3 : k = 3
 ·subst k3
  simp only [cond_false, beq_self_eq_true, cond_true, if_true, qmm s hl, qa, qt]
  cases n == 0 <;> simp
 rw [if_neg k3, show (k == 3) = false by simpa using k3]
 by_cases k4 : k = 4
 ·subst k4
  simp only [cond_false, beq_self_eq_true, cond_true, if_true, qjO, qa, qaD, qjC qQ s (by decide), qt]
  cases n == 0 <;> simp
 rw [if_neg k4, show (k == 4) = false by simpa using k4]
 by_cases k5 : k = 5
 ·subst k5
  simp only [cond_false, beq_self_eq_true, cond_true, if_true, qj5, qa, qaD, qjC qcx s (by decide), qt]
  cases n == 0 <;> simp
 rw [if_neg k5, show (k == 5) = false by simpa using k5]
 by_cases k6 : k = 6
 ·subst k6
  simp only [cond_false, beq_self_eq_true, cond_true, if_true]
  cases n == 0 <;> simp
 ·rw [if_neg k6, show (k == 6) = false by simpa using k6]
  simp
theorem qm1 (s : List UInt8) (hs : s.length < 1099511627776) : EVs (EV cfg) 74 [.agg [.int .i64 2, .int .i64 0, .str s, .sl []]] = some (.str (if yE s then s else xY s)) := by
 apply Gets.get
 refine qjR _ _ _ _ ?_
 unfold zg0 zg1
 simp only [show ((2 : Int) == 1) = false from rfl, cond_false, beq_self_eq_true, cond_true, qlE s hs, qkm s hs, qa, qt, qh]
 cases yE s <;> simp
theorem qlj {k n a : Int} {s : List UInt8} (hm : mayA k n s = true) (hs : s.length < 1099511627776) : EVs (EV cfg) 34 [.agg [.int .i64 k, .int .i64 n, .int .i64 a, .str s]] = some (.str (tokA k n s)) := by
 apply Gets.get
 refine qjX _ _ _ _ ?_
 have hn := qjy hm
 unfold tokA
 by_cases k1 : k = 1
 ·subst k1
  simp only [beq_self_eq_true, cond_true, if_true, qn8 hn.1 hn.2, qa, qh, qE]
 rw [if_neg k1, show (k == 1) = false by simpa using k1]
 by_cases k2 : k = 2
 ·subst k2
  simp only [cond_false, beq_self_eq_true, cond_true, if_true, qm1 s hs, qa, qh, qE]
 rw [if_neg k2, show (k == 2) = false by simpa using k2]
 by_cases k6 : k = 6
 ·subst k6
  simp
 ·rw [if_neg k6, show (k == 6) = false by simpa using k6]
  simp
theorem qkc : EVf (EV cfg) 14 [.str [49, 32, 37, 32, 50]] = some (.tup [.sl [[.int .i64 1, .int .i64 1, .int .i64 0, .str []]], .agg [.int .i64 0, .int .i64 0]]) := qdv (.nil) 1000 1000 (by kernel_rfl)
theorem qkb : EVf (EV cfg) 14 [.str [97, 46, 98]] = some (.tup [.sl [], .agg [.int .i64 340, .int .i64 1]]) := qdv (.nil) 1000 1000 (by kernel_rfl)
theorem qka : EVf (EV cfg) 14 [.str [39, 97]] = some (.tup [.sl [], .agg [.int .i64 341, .int .i64 0]]) := qdv (.nil) 1000 1000 (by kernel_rfl)
theorem qkd : EVs (EV cfg) 11 [] = some (.bool true) := qpk (.consF qkc (.consF qkb (.consF qka (.nil)))) 1000 1000 (by kernel_rfl)
theorem decN {n : Nat} (h : n ≤ 9223372036854775807) : decide (n ≤ 9223372036854775807) = true := decide_eq_true h
theorem qjL (l : List TokA) (hn : l.length ≤ 200) (hs : ∀ t ∈ l, t.s.length ≤ 100) : EVf (EV cfg) 9 [.sl (vt l)] = some (yb l) := by
 apply Gets.get
 refine qiI _ ?_
 have key : ∀ (k i : Nat), l.length - i = k → i ≤ l.length → (l.take i).all TokA.may = true → Gets (qex (vt l) (Go.Lib.join ((l.take i).map TokA.text) [32]) (i : Int)) (fun v => v = yb l) := by
  intro k
  induction k with
  | zero =>
   intro i hk hi ha
   refine qdD _ _ _ ?_
   unfold zh0 zh1 zh2 zh3 zh4 zh5 zh6 zh7 zh8 zh9 zh10 zh11 zh12 zh13 zh14 zh15
   have : i = l.length := by omega
   subst this
   rw [List.take_length] at ha ⊢
   rw [vr, decide_eq_false (show ¬ ((l.length : Int) < (l.length : Int)) by omega)]
   simp [yb, ha]
  | succ k ih =>
   intro i hk hi ha
   refine qdD _ _ _ ?_
   unfold zh0 zh1 zh2 zh3 zh4 zh5 zh6 zh7 zh8 zh9 zh10 zh11 zh12 zh13 zh14 zh15
   have hlt : i < l.length := by omega
   obtain ⟨t, ht⟩ : ∃ t, l[i]? = some t := ⟨l[i], qpr hlt⟩
   have htm := qpB ht
   have hlen := hs t htm
   rw [vr, decide_eq_true (show (i : Int) < (l.length : Int) by omega), qI, vL, decide_eq_true hlt]
   simp only [cond_true, Bool.and_true, qo, Int.toNat_natCast, qaR ht, qa]
   unfold TokA.cells
   simp only [qpC, qpL, nbeq, nble, decide_true, cond_true, qpO, qJ, qw, qh, qT]
   rw [qmC _ _ _ _ (by omega)]
   simp only [qa, qt]
   cases hm : mayA t.k t.n t.s with
   | false =>
    have : l.all TokA.may = false := by
     rw [← qpI, List.all_eq_true]
     intro h
     have h := h t htm
     unfold TokA.may at h
     rw [hm] at h; cases h
    simp [yb, this]
   | true =>
    simp only [Bool.not_true, cond_false, qlj hm (show t.s.length < 1099511627776 by omega), qa, qh]
    have htake : (l.take (i + 1)).map TokA.text = (l.take i).map TokA.text ++ [t.text] := by rw [List.take_add_one, ht]; simp
    have hmay : (l.take (i + 1)).all TokA.may = true := by
     rw [List.take_add_one, ht, List.all_append, ha]
     simp [TokA.may, hm]
    have hjl := qea ((l.take i).map TokA.text) (fun x hx => by
     obtain ⟨t, ht, rfl⟩ := List.mem_map.1 hx
     exact qfU (hs t (List.mem_of_mem_take ht)))
    have hml : ((l.take i).map TokA.text).length ≤ 200 := by simp; omega
    have htl := qfU hlen
    have ht2 : tokA t.k t.n t.s = t.text := rfl
    rw [ht2, qW hlt (by omega)]
    by_cases h0 : i = 0
    ·subst h0
     rw [decide_eq_false (show ¬ (((0 : Nat) : Int) > 0) by omega)]
     simp only [cond_false, show decide (4 ≤ 0 + 1 + 1 + 1 + 1) = true from rfl, cond_true]
     rw [decN (by omega)]
     simp only [cond_true, qa, qh]
     have hj : qpQ (Go.Lib.join ((l.take 0).map TokA.text) [32]) t.text = Go.Lib.join ((l.take (0 + 1)).map TokA.text) [32] := by
      rw [htake]
      simp [Go.Lib.join, List.intercalate, List.intersperse]
     rw [hj]
     exact ih (0 + 1) (by omega) hlt hmay
    ·rw [decide_eq_true (show ((i : Int) > 0) by omega)]
     simp only [cond_true, show decide (4 ≤ 0 + 1 + 1 + 1 + 1) = true from rfl]
     rw [decN (by omega)]
     simp only [cond_true, qa, qh, List.append_eq, qpD, qpC, qpL]
     rw [decN (by omega)]
     simp only [cond_true, qa, qh]
     have hj : Go.Lib.join ((l.take i).map TokA.text) [32] ++ [32] ++ t.text = Go.Lib.join ((l.take (i + 1)).map TokA.text) [32] := by
      rw [htake, qgt _ _ _ (by
       have hne : (l.take i).length ≠ 0 := by rw [List.length_take]; omega
       intro e
       apply hne
       rw [← qpN (f := TokA.text), e]; rfl)]
     rw [hj]
     exact ih (i + 1) (by omega) hlt hmay
 exact key _ 0 rfl (by omega) rfl
theorem qke (l : List TokA) (hl : l.length < 1099511627776) : EVs (EV cfg) 10 [.sl (vt l), .sl (vt l)] = some (.bool true) := by
 apply Gets.get
 refine qjY _ _ ?_
 have : (((vt l).length : Int) != ((vt l).length : Int)) = false := by simp
 rw [this]
 simp only [cond_false]
 have key : ∀ (k i : Nat), l.length - i = k → i ≤ l.length → Gets (qde (vt l) (vt l) (i : Int)) (fun v => v = .bool true) := by
  intro k
  induction k with
  | zero =>
   intro i hk hi
   refine qcp _ _ _ ?_
   have : i = l.length := by omega
   subst this
   rw [vr, decide_eq_false (show ¬ ((l.length : Int) < (l.length : Int)) by omega)]
   simp
  | succ k ih =>
   intro i hk hi
   refine qcp _ _ _ ?_
   have hlt : i < l.length := by omega
   obtain ⟨t, ht⟩ : ∃ t, l[i]? = some t := ⟨l[i], qpr hlt⟩
   rw [vr, decide_eq_true (show (i : Int) < (l.length : Int) by omega), qI, vL, decide_eq_true hlt]
   simp only [cond_true, Bool.and_true, qo, Int.toNat_natCast, qaR ht, qa]
   unfold TokA.cells
   simp only [qpC, qpL, nbeq, nble, decide_true, cond_true, qpO, qJ, qw, qh, qT, beq_self_eq_true, Bool.and_self, Bool.not_true, cond_false]
   rw [qW hlt hl]
   exact ih (i + 1) (by omega) hlt
 exact key _ 0 rfl (by omega)
theorem qkw (l : List TokA) (hl : l.length < 1099511627776) : EVs (EV cfg) 7 [.sl (vt l)] = some (.bool (decide (l.length > 200) || !l.all fun t => decide (t.s.length ≤ 100))) := by
 apply Gets.get
 refine qiL _ ?_
 have key : ∀ (k i : Nat), l.length - i = k → i ≤ l.length → ((l.take i).all fun t => decide (t.s.length ≤ 100)) = true → Gets (qey (vt l) (i : Int)) (fun v => v = .bool (decide (l.length > 200) || !l.all fun t => decide (t.s.length ≤ 100))) := by
  intro k
  induction k with
  | zero =>
   intro i hk hi ha
   refine qdF _ _ ?_
   have : i = l.length := by omega
   subst this
   rw [List.take_length] at ha
   rw [vr, decide_eq_false (show ¬ ((l.length : Int) < (l.length : Int)) by omega), ha]
   simp only [cond_false, qE, Bool.not_true, Bool.or_false, AV.bool.injEq, decide_eq_decide]
   omega
  | succ k ih =>
   intro i hk hi ha
   refine qdF _ _ ?_
   have hlt : i < l.length := by omega
   obtain ⟨t, ht⟩ : ∃ t, l[i]? = some t := ⟨l[i], qpr hlt⟩
   rw [vr, decide_eq_true (show (i : Int) < (l.length : Int) by omega), qI, vL, decide_eq_true hlt]
   simp only [cond_true, Bool.and_true, qo, Int.toNat_natCast, qaR ht, qa]
   unfold TokA.cells
   simp only [qpC, qpL, nbeq, decide_true, cond_true, List.getElem?_cons_succ, List.getElem?_cons_zero, qa, qh]
   by_cases h1 : t.s.length ≤ 100
   ·rw [decide_eq_false (show ¬ ((t.s.length : Int) > 100) by omega)]
    simp only [cond_false]
    rw [qW hlt hl]
    refine ih (i + 1) (by omega) hlt ?_
    rw [List.take_add_one, List.all_append, ha, ht]
    simp [h1]
   ·rw [decide_eq_true (show ((t.s.length : Int) > 100) by omega)]
    have : (l.all fun t => decide (t.s.length ≤ 100)) = false := by
     rw [← qpI, List.all_eq_true]
     intro h
     exact h1 (of_decide_eq_true (h t (qpB ht)))
    rw [this]
    simp
 exact key _ 0 rfl (by omega) rfl
theorem qgF (l : List TokA) (hl : l.length ≤ 1048576) : EVs (EV cfg) 3 [.sl (vt l)] = some (.bool true) := by
 apply Gets.get
 refine qlh _ ?_
 rw [qkw l (by omega)]
 simp only [qa, qt]
 cases hlg : (decide (l.length > 200) || !l.all fun t => decide (t.s.length ≤ 100)) with
 | true => simp
 | false =>
  simp only [Bool.or_eq_false_iff, decide_eq_false_iff_not, Bool.not_eq_false', List.all_eq_true, decide_eq_true_eq] at hlg
  obtain ⟨h1, h2⟩ := hlg
  have hn : l.length ≤ 200 := by omega
  have hro : yg 4 (vt l) = true := by cases l <;> simp [yg, vt, TokA.cells]
  have hfit : vN l.length 40 = true := by simp [vN]; omega
  have htk : qpO l.length (vt l) = vt l := List.take_of_length_le (by simp)
  simp only [cond_false, hro, cond_true, vr, Nat.zero_add, hfit, show qpG l.length l.length = true by simp, Bool.and_self, htk]
  rw [qj6 l hn h2]
  simp only [qa]
  rw [qjL l hn h2]
  have hws : ∃ (s : List UInt8) (e : Int), yb l = .tup [.str s, .int .i64 e] := by
   unfold yb
   split
   ·exact ⟨_, _, rfl⟩
   ·exact ⟨_, _, rfl⟩
  obtain ⟨s, e, hw⟩ := hws
  rw [hw]
  simp only [kTup, qJ, qh, qw, qT, qa, beq_self_eq_true, cond_true, qke l (by omega), qt, qkd, qE]
end Go.Proofs.YtnjonahoheopnaaGreatDoor
end
