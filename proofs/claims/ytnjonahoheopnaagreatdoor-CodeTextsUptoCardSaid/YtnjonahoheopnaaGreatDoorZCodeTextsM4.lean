/-
  Parts of the proof of CodeTextsUptoCardSaid, put together: the abstract evaluation and its contracts. Own work.
  What is proved: each lemma as it stands; no condition.
-/
import Derived.Test.YtnjonahoheopnaaGreatDoorProg
import Derived.KernelRfl
import Derived.Lib.Bytealg
import Derived.Shelf.Strings.Builder1
import Derived.Shelf.Strings.Builder2
import Derived.Shelf.Strings.OnBuilder
import Derived.Shelf.Small.Strs
import Derived.Shelf.Small.Wraps
import Derived.Shelf.Strings.BuilderF
import Derived.Shelf.Strings.BuilderK
import Derived.Shelf.Strings.Builder2Cap
import Derived.Shelf.Strconv.Itoa0
import Derived.Shelf.Strconv.Itoa1
import Derived.Shelf.LaysM
import Derived.Shelf.Strconv.Itoa2
import Derived.Shelf.Strconv.Itoa3
import Derived.Shelf.Strconv.Clone
import Derived.Shelf.Strconv.SyntaxError
import Derived.Shelf.Strconv.Lower
import Derived.Shelf.Strconv.ParseUint10
import Derived.Shelf.Strconv.ParseUint10Empty
import Derived.Shelf.Strconv.RangeError
import Derived.Shelf.Strconv.ParseUintEmpty
import Derived.Shelf.Strconv.ParseUint10b64
import Derived.Shelf.Strconv.ParseUint10b32
import Derived.Shelf.Strconv.ParseUint10b16
import Derived.Shelf.Strconv.ParseUint10b8
import Derived.Ground.MpProg
import Derived.Shelf.Pu.ParseUintPublic10
import Derived.Shelf.Strings.Search1
import Derived.Shelf.Strings.Search2
import Derived.Shelf.Strings.Search3
import Derived.Shelf.Strings.Shaped
import Derived.Shelf.Strings.Prefix
import Derived.Shelf.Bits.Mul64
import Derived.Shelf.Slices.Turned
import Derived.Ground.Names2Prog
import Derived.Shelf.Slices.SearchI
import Derived.Lib.AtoiErrMem
import Derived.Lib.FrozenHead2
import Derived.Lib.UnsafeStr
import Derived.WalkKit
import Derived.RowKit
import Derived.Shelf.RegionOpenPlain
import Derived.Test.YtnjonahoheopnaaGreatDoorRows
import Derived.ProofKit
import Derived.OpenShut
import Derived.JoinedCond
import Derived.ChangeArms
import Derived.Lib.AppendIntMem
import Derived.Deep.DeepHandedRow
import Derived.MakeChecks
import Derived.Stop.LaidErr
import Derived.LaidLaws
import Derived.Lib.LaidTab
import Derived.Deep.DeepWitnessRowRef
import Derived.LaidMore
import Derived.SevenTiedAt
import Derived.Test.YtnjonahoheopnaaGreatDoorCards
import Derived.Test.YtnjonahoheopnaaGreatDoorTie
import Derived.Lib.IndexAny
import Derived.Lib.IndexLaws
import Derived.Test.YtnjonahoheopnaaGreatDoorZCodeTextsM3
open Bool renaming and_eq_true → qqi, false_eq_true → qqq, not_eq_true → qqK
open List renaming getElem?_eq_some_iff → qqj, getElem?_eq_getElem → qqm, length → qqp, length_cons → qqr, getElem?_append_left → qqs, getElem?_set → qqu, length_append → qqv, getElem?_append_right → qqw, mem_of_getElem? → qqx, get?Internal → qqy, length_nil → qqA, append → qqE, getElem?_cons_succ → qqF, replicate → qqG, mem_cons → qqH, mem_append → qqI, take → qqM, append_eq → qqO
open Option renaming bind_eq_some_iff → qqk, map_eq_some_iff → qql, bind_some → qqt, map_some → qqD
open Nat renaming eq_of_beq_eq_true → qqn, le_refl → qqo, beq → qqz, ble → qqB, mul_le_mul_right → qqC, blt_eq → qqL
open Array renaming getElem?_toList → qqJ
open Int renaming toNat → qqN
set_option maxRecDepth 1000000
set_option maxHeartbeats 0
section
namespace Go.Proofs.YtnjonahoheopnaaGreatDoor
open Go.Av
def qk5 : BT TI := .node 118 ({ d := .func, sz := 1, bytes := 8, zero := [.nilF], eq := false }) (.node 62 ({ d := .func, sz := 1, bytes := 8, zero := [.nilF], eq := false }) (.node 33 ({ d := .func, sz := 1, bytes := 8, zero := [.nilF], eq := false }) (.node 18 ({ d := .struct [(0, 17)], sz := 1, bytes := 8, zero := [.nilP], eq := false }) (.node 7 ({ d := .struct [(0, 2), (1, 3), (2, 4), (3, 6)], sz := 4, bytes := 24, zero := [.int .i64 0, .int .i64 0, .bool false, .int .u8 0], eq := true }) (.node 4 ({ d := .bool, sz := 1, bytes := 1, zero := [.bool false], eq := false }) (.node 2 ({ d := .int .i64, sz := 1, bytes := 8, zero := [.int .i64 0], eq := false }) (.node 1 ({ d := .func, sz := 1, bytes := 8, zero := [.nilF], eq := false }) .leaf .leaf) (.node 3 ({ d := .int .i64, sz := 1, bytes := 8, zero := [.int .i64 0], eq := false }) .leaf .leaf)) (.node 6 ({ d := .int .u8, sz := 1, bytes := 1, zero := [.int .u8 0], eq := false }) (.node 5 ({ d := .int .u8, sz := 1, bytes := 1, zero := [.int .u8 0], eq := false }) .leaf .leaf) .leaf)) (.node 15 ({ d := .ptr 231, sz := 1, bytes := 8, zero := [.nilP], eq := false }) (.node 12 ({ d := .int .u64, sz := 1, bytes := 8, zero := [.int .u64 0], eq := false }) (.node 9 ({ d := .str, sz := 1, bytes := 16, zero := [.str []], eq := false }) .leaf .leaf) (.node 13 ({ d := .struct [(0, 9), (1, 12)], sz := 2, bytes := 24, zero := [.str [], .int .u64 0], eq := false }) .leaf .leaf)) (.node 17 ({ d := .ptr 242, sz := 1, bytes := 8, zero := [.nilP], eq := false }) (.node 16 ({ d := .ptr 234, sz := 1, bytes := 8, zero := [.nilP], eq := false }) .leaf .leaf) .leaf))) (.node 26 ({ d := .func, sz := 1, bytes := 8, zero := [.nilF], eq := false }) (.node 22 ({ d := .slice 56, sz := 1, bytes := 24, zero := [.nilS], eq := false }) (.node 20 ({ d := .iface, sz := 1, bytes := 16, zero := [.nilI], eq := false }) (.node 19 ({ d := .struct [(0, 17)], sz := 1, bytes := 8, zero := [.nilP], eq := false }) .leaf .leaf) (.node 21 ({ d := .int .i32, sz := 1, bytes := 4, zero := [.int .i32 0], eq := false }) .leaf .leaf)) (.node 24 ({ d := .int .i64, sz := 1, bytes := 8, zero := [.int .i64 0], eq := false }) (.node 23 ({ d := .func, sz := 1, bytes := 8, zero := [.nilF], eq := false }) .leaf .leaf) .leaf)) (.node 29 ({ d := .func, sz := 1, bytes := 8, zero := [.nilF], eq := false }) (.node 28 ({ d := .func, sz := 1, bytes := 8, zero := [.nilF], eq := false }) (.node 27 ({ d := .func, sz := 1, bytes := 8, zero := [.nilF], eq := false }) .leaf .leaf) .leaf) (.node 31 ({ d := .struct [(0, 24), (1, 3)], sz := 2, bytes := 16, zero := [.int .i64 0, .int .i64 0], eq := true }) (.node 30 ({ d := .struct [(0, 24), (1, 3)], sz := 2, bytes := 16, zero := [.int .i64 0, .int .i64 0], eq := true }) .leaf .leaf) .leaf)))) (.node 49 ({ d := .func, sz := 1, bytes := 8, zero := [.nilF], eq := false }) (.node 40 ({ d := .func, sz := 1, bytes := 8, zero := [.nilF], eq := false }) (.node 37 ({ d := .struct [(0, 3), (1, 3), (2, 9), (3, 35)], sz := 4, bytes := 56, zero := [.int .i64 0, .int .i64 0, .str [], .nilS], eq := false }) (.node 35 ({ d := .slice 37, sz := 1, bytes := 24, zero := [.nilS], eq := false }) (.node 34 ({ d := .func, sz := 1, bytes := 8, zero := [.nilF], eq := false }) .leaf .leaf) (.node 36 ({ d := .struct [(0, 3), (1, 3), (2, 9), (3, 35)], sz := 4, bytes := 56, zero := [.int .i64 0, .int .i64 0, .str [], .nilS], eq := false }) .leaf .leaf)) (.node 39 ({ d := .struct [(0, 3), (1, 3), (2, 3), (3, 37)], sz := 7, bytes := 80, zero := [.int .i64 0, .int .i64 0, .int .i64 0, .int .i64 0, .int .i64 0, .str [], .nilS], eq := false }) (.node 38 ({ d := .struct [(0, 3), (1, 3), (2, 3), (3, 37)], sz := 7, bytes := 80, zero := [.int .i64 0, .int .i64 0, .int .i64 0, .int .i64 0, .int .i64 0, .str [], .nilS], eq := false }) .leaf .leaf) .leaf)) (.node 45 ({ d := .func, sz := 1, bytes := 8, zero := [.nilF], eq := false }) (.node 42 ({ d := .func, sz := 1, bytes := 8, zero := [.nilF], eq := false }) (.node 41 ({ d := .func, sz := 1, bytes := 8, zero := [.nilF], eq := false }) .leaf .leaf) (.node 43 ({ d := .slice 39, sz := 1, bytes := 24, zero := [.nilS], eq := false }) .leaf .leaf)) (.node 48 ({ d := .func, sz := 1, bytes := 8, zero := [.nilF], eq := false }) (.node 46 ({ d := .func, sz := 1, bytes := 8, zero := [.nilF], eq := false }) .leaf .leaf) .leaf))) (.node 56 ({ d := .struct [(0, 3), (1, 3), (2, 3), (3, 9)], sz := 4, bytes := 40, zero := [.int .i64 0, .int .i64 0, .int .i64 0, .str []], eq := true }) (.node 53 ({ d := .slice 3, sz := 1, bytes := 24, zero := [.nilS], eq := false }) (.node 51 ({ d := .func, sz := 1, bytes := 8, zero := [.nilF], eq := false }) (.node 50 ({ d := .func, sz := 1, bytes := 8, zero := [.nilF], eq := false }) .leaf .leaf) (.node 52 ({ d := .func, sz := 1, bytes := 8, zero := [.nilF], eq := false }) .leaf .leaf)) (.node 55 ({ d := .struct [(0, 3), (1, 3), (2, 3), (3, 9)], sz := 4, bytes := 40, zero := [.int .i64 0, .int .i64 0, .int .i64 0, .str []], eq := true }) (.node 54 ({ d := .func, sz := 1, bytes := 8, zero := [.nilF], eq := false }) .leaf .leaf) .leaf)) (.node 59 ({ d := .func, sz := 1, bytes := 8, zero := [.nilF], eq := false }) (.node 58 ({ d := .func, sz := 1, bytes := 8, zero := [.nilF], eq := false }) (.node 57 ({ d := .slice 9, sz := 1, bytes := 24, zero := [.nilS], eq := false }) .leaf .leaf) .leaf) (.node 61 ({ d := .func, sz := 1, bytes := 8, zero := [.nilF], eq := false }) (.node 60 ({ d := .func, sz := 1, bytes := 8, zero := [.nilF], eq := false }) .leaf .leaf) .leaf))))) (.node 90 ({ d := .func, sz := 1, bytes := 8, zero := [.nilF], eq := false }) (.node 77 ({ d := .struct [(0, 43)], sz := 1, bytes := 24, zero := [.nilS], eq := false }) (.node 69 ({ d := .func, sz := 1, bytes := 8, zero := [.nilF], eq := false }) (.node 66 ({ d := .struct [(0, 9), (1, 3), (2, 24)], sz := 3, bytes := 32, zero := [.str [], .int .i64 0, .int .i64 0], eq := true }) (.node 64 ({ d := .func, sz := 1, bytes := 8, zero := [.nilF], eq := false }) (.node 63 ({ d := .func, sz := 1, bytes := 8, zero := [.nilF], eq := false }) .leaf .leaf) (.node 65 ({ d := .ptr 67, sz := 1, bytes := 8, zero := [.nilP], eq := false }) .leaf .leaf)) (.node 68 ({ d := .func, sz := 1, bytes := 8, zero := [.nilF], eq := false }) (.node 67 ({ d := .struct [(0, 9), (1, 3), (2, 24)], sz := 3, bytes := 32, zero := [.str [], .int .i64 0, .int .i64 0], eq := true }) .leaf .leaf) .leaf)) (.node 74 ({ d := .func, sz := 1, bytes := 8, zero := [.nilF], eq := false }) (.node 71 ({ d := .func, sz := 1, bytes := 8, zero := [.nilF], eq := false }) (.node 70 ({ d := .func, sz := 1, bytes := 8, zero := [.nilF], eq := false }) .leaf .leaf) (.node 72 ({ d := .slice 79, sz := 1, bytes := 24, zero := [.nilS], eq := false }) .leaf .leaf)) (.node 76 ({ d := .struct [(0, 43)], sz := 1, bytes := 24, zero := [.nilS], eq := false }) (.node 75 ({ d := .ptr 77, sz := 1, bytes := 8, zero := [.nilP], eq := false }) .leaf .leaf) .leaf))) (.node 84 ({ d := .map 3 37, sz := 1, bytes := 8, zero := [.nilM], eq := false }) (.node 81 ({ d := .func, sz := 1, bytes := 8, zero := [.nilF], eq := false }) (.node 79 ({ d := .struct [(0, 37), (4, 35), (5, 35)], sz := 6, bytes := 104, zero := [.int .i64 0, .int .i64 0, .str [], .nilS, .nilS, .nilS], eq := false }) (.node 78 ({ d := .struct [(0, 37), (4, 35), (5, 35)], sz := 6, bytes := 104, zero := [.int .i64 0, .int .i64 0, .str [], .nilS, .nilS, .nilS], eq := false }) .leaf .leaf) (.node 80 ({ d := .func, sz := 1, bytes := 8, zero := [.nilF], eq := false }) .leaf .leaf)) (.node 83 ({ d := .ptr 86, sz := 1, bytes := 8, zero := [.nilP], eq := false }) (.node 82 ({ d := .func, sz := 1, bytes := 8, zero := [.nilF], eq := false }) .leaf .leaf) .leaf)) (.node 87 ({ d := .int .i64, sz := 1, bytes := 8, zero := [.int .i64 0], eq := false }) (.node 86 ({ d := .struct [(0, 37), (4, 3), (5, 35), (6, 35), (7, 84), (8, 4)], sz := 9, bytes := 128, zero := [.int .i64 0, .int .i64 0, .str [], .nilS, .int .i64 0, .nilS, .nilS, .nilM, .bool false], eq := false }) (.node 85 ({ d := .struct [(0, 37), (4, 3), (5, 35), (6, 35), (7, 84), (8, 4)], sz := 9, bytes := 128, zero := [.int .i64 0, .int .i64 0, .str [], .nilS, .int .i64 0, .nilS, .nilS, .nilM, .bool false], eq := false }) .leaf .leaf) .leaf) (.node 89 ({ d := .func, sz := 1, bytes := 8, zero := [.nilF], eq := false }) (.node 88 ({ d := .func, sz := 1, bytes := 8, zero := [.nilF], eq := false }) .leaf .leaf) .leaf)))) (.node 103 ({ d := .struct [(0, 102)], sz := 2, bytes := 32, zero := [.nilP, .nilS], eq := false }) (.node 97 ({ d := .func, sz := 1, bytes := 8, zero := [.nilF], eq := false }) (.node 94 ({ d := .func, sz := 1, bytes := 8, zero := [.nilF], eq := false }) (.node 92 ({ d := .slice 5, sz := 1, bytes := 24, zero := [.nilS], eq := false }) (.node 91 ({ d := .func, sz := 1, bytes := 8, zero := [.nilF], eq := false }) .leaf .leaf) (.node 93 ({ d := .func, sz := 1, bytes := 8, zero := [.nilF], eq := false }) .leaf .leaf)) (.node 96 ({ d := .func, sz := 1, bytes := 8, zero := [.nilF], eq := false }) (.node 95 ({ d := .func, sz := 1, bytes := 8, zero := [.nilF], eq := false }) .leaf .leaf) .leaf)) (.node 100 ({ d := .ptr 102, sz := 1, bytes := 8, zero := [.nilP], eq := false }) (.node 99 ({ d := .ptr 104, sz := 1, bytes := 8, zero := [.nilP], eq := false }) (.node 98 ({ d := .func, sz := 1, bytes := 8, zero := [.nilF], eq := false }) .leaf .leaf) .leaf) (.node 102 ({ d := .struct [(0, 100), (1, 92)], sz := 2, bytes := 32, zero := [.nilP, .nilS], eq := false }) (.node 101 ({ d := .struct [(0, 100), (1, 92)], sz := 2, bytes := 32, zero := [.nilP, .nilS], eq := false }) .leaf .leaf) .leaf))) (.node 111 ({ d := .func, sz := 1, bytes := 8, zero := [.nilF], eq := false }) (.node 107 ({ d := .iface, sz := 1, bytes := 16, zero := [.nilI], eq := false }) (.node 105 ({ d := .func, sz := 1, bytes := 8, zero := [.nilF], eq := false }) (.node 104 ({ d := .struct [(0, 102)], sz := 2, bytes := 32, zero := [.nilP, .nilS], eq := false }) .leaf .leaf) (.node 106 ({ d := .func, sz := 1, bytes := 8, zero := [.nilF], eq := false }) .leaf .leaf)) (.node 110 ({ d := .func, sz := 1, bytes := 8, zero := [.nilF], eq := false }) (.node 108 ({ d := .iface, sz := 1, bytes := 16, zero := [.nilI], eq := false }) .leaf .leaf) .leaf)) (.node 115 ({ d := .func, sz := 1, bytes := 8, zero := [.nilF], eq := false }) (.node 114 ({ d := .func, sz := 1, bytes := 8, zero := [.nilF], eq := false }) (.node 112 ({ d := .func, sz := 1, bytes := 8, zero := [.nilF], eq := false }) .leaf .leaf) .leaf) (.node 117 ({ d := .func, sz := 1, bytes := 8, zero := [.nilF], eq := false }) (.node 116 ({ d := .func, sz := 1, bytes := 8, zero := [.nilF], eq := false }) .leaf .leaf) .leaf)))))) (.node 179 ({ d := .slice 178, sz := 1, bytes := 24, zero := [.nilS], eq := false }) (.node 148 ({ d := .func, sz := 1, bytes := 8, zero := [.nilF], eq := false }) (.node 133 ({ d := .func, sz := 1, bytes := 8, zero := [.nilF], eq := false }) (.node 126 ({ d := .func, sz := 1, bytes := 8, zero := [.nilF], eq := false }) (.node 122 ({ d := .func, sz := 1, bytes := 8, zero := [.nilF], eq := false }) (.node 120 ({ d := .func, sz := 1, bytes := 8, zero := [.nilF], eq := false }) (.node 119 ({ d := .func, sz := 1, bytes := 8, zero := [.nilF], eq := false }) .leaf .leaf) (.node 121 ({ d := .func, sz := 1, bytes := 8, zero := [.nilF], eq := false }) .leaf .leaf)) (.node 125 ({ d := .func, sz := 1, bytes := 8, zero := [.nilF], eq := false }) (.node 123 ({ d := .func, sz := 1, bytes := 8, zero := [.nilF], eq := false }) .leaf .leaf) .leaf)) (.node 130 ({ d := .func, sz := 1, bytes := 8, zero := [.nilF], eq := false }) (.node 128 ({ d := .func, sz := 1, bytes := 8, zero := [.nilF], eq := false }) (.node 127 ({ d := .func, sz := 1, bytes := 8, zero := [.nilF], eq := false }) .leaf .leaf) (.node 129 ({ d := .func, sz := 1, bytes := 8, zero := [.nilF], eq := false }) .leaf .leaf)) (.node 132 ({ d := .func, sz := 1, bytes := 8, zero := [.nilF], eq := false }) (.node 131 ({ d := .func, sz := 1, bytes := 8, zero := [.nilF], eq := false }) .leaf .leaf) .leaf))) (.node 140 ({ d := .func, sz := 1, bytes := 8, zero := [.nilF], eq := false }) (.node 137 ({ d := .func, sz := 1, bytes := 8, zero := [.nilF], eq := false }) (.node 135 ({ d := .func, sz := 1, bytes := 8, zero := [.nilF], eq := false }) (.node 134 ({ d := .func, sz := 1, bytes := 8, zero := [.nilF], eq := false }) .leaf .leaf) (.node 136 ({ d := .func, sz := 1, bytes := 8, zero := [.nilF], eq := false }) .leaf .leaf)) (.node 139 ({ d := .func, sz := 1, bytes := 8, zero := [.nilF], eq := false }) (.node 138 ({ d := .ptr 5, sz := 1, bytes := 8, zero := [.nilP], eq := false }) .leaf .leaf) .leaf)) (.node 144 ({ d := .func, sz := 1, bytes := 8, zero := [.nilF], eq := false }) (.node 143 ({ d := .func, sz := 1, bytes := 8, zero := [.nilF], eq := false }) (.node 141 ({ d := .int .u64, sz := 1, bytes := 8, zero := [.int .u64 0], eq := false }) .leaf .leaf) .leaf) (.node 146 ({ d := .ptr 4, sz := 1, bytes := 8, zero := [.nilP], eq := false }) (.node 145 ({ d := .func, sz := 1, bytes := 8, zero := [.nilF], eq := false }) .leaf .leaf) .leaf)))) (.node 163 ({ d := .func, sz := 1, bytes := 8, zero := [.nilF], eq := false }) (.node 157 ({ d := .func, sz := 1, bytes := 8, zero := [.nilF], eq := false }) (.node 152 ({ d := .func, sz := 1, bytes := 8, zero := [.nilF], eq := false }) (.node 150 ({ d := .func, sz := 1, bytes := 8, zero := [.nilF], eq := false }) (.node 149 ({ d := .map 3 4, sz := 1, bytes := 8, zero := [.nilM], eq := false }) .leaf .leaf) (.node 151 ({ d := .func, sz := 1, bytes := 8, zero := [.nilF], eq := false }) .leaf .leaf)) (.node 155 ({ d := .func, sz := 1, bytes := 8, zero := [.nilF], eq := false }) (.node 154 ({ d := .func, sz := 1, bytes := 8, zero := [.nilF], eq := false }) .leaf .leaf) .leaf)) (.node 160 ({ d := .func, sz := 1, bytes := 8, zero := [.nilF], eq := false }) (.node 159 ({ d := .func, sz := 1, bytes := 8, zero := [.nilF], eq := false }) (.node 158 ({ d := .func, sz := 1, bytes := 8, zero := [.nilF], eq := false }) .leaf .leaf) .leaf) (.node 162 ({ d := .array 24 5, sz := 24, bytes := 24, zero := [.int .u8 0, .int .u8 0, .int .u8 0, .int .u8 0, .int .u8 0, .int .u8 0, .int .u8 0, .int .u8 0, .int .u8 0, .int .u8 0, .int .u8 0, .int .u8 0, .int .u8 0, .int .u8 0, .int .u8 0, .int .u8 0, .int .u8 0, .int .u8 0, .int .u8 0, .int .u8 0, .int .u8 0, .int .u8 0, .int .u8 0, .int .u8 0], eq := false }) (.node 161 ({ d := .func, sz := 1, bytes := 8, zero := [.nilF], eq := false }) .leaf .leaf) .leaf))) (.node 172 ({ d := .func, sz := 1, bytes := 8, zero := [.nilF], eq := false }) (.node 169 ({ d := .func, sz := 1, bytes := 8, zero := [.nilF], eq := false }) (.node 166 ({ d := .func, sz := 1, bytes := 8, zero := [.nilF], eq := false }) (.node 164 ({ d := .func, sz := 1, bytes := 8, zero := [.nilF], eq := false }) .leaf .leaf) (.node 167 ({ d := .int .u64, sz := 1, bytes := 8, zero := [.int .u64 0], eq := false }) .leaf .leaf)) (.node 171 ({ d := .func, sz := 1, bytes := 8, zero := [.nilF], eq := false }) (.node 170 ({ d := .func, sz := 1, bytes := 8, zero := [.nilF], eq := false }) .leaf .leaf) .leaf)) (.node 176 ({ d := .func, sz := 1, bytes := 8, zero := [.nilF], eq := false }) (.node 175 ({ d := .array 2 35, sz := 2, bytes := 48, zero := [.nilS, .nilS], eq := false }) (.node 174 ({ d := .func, sz := 1, bytes := 8, zero := [.nilF], eq := false }) .leaf .leaf) .leaf) (.node 178 ({ d := .struct [(0, 37), (4, 37)], sz := 8, bytes := 112, zero := [.int .i64 0, .int .i64 0, .str [], .nilS, .int .i64 0, .int .i64 0, .str [], .nilS], eq := false }) (.node 177 ({ d := .struct [(0, 37), (4, 37)], sz := 8, bytes := 112, zero := [.int .i64 0, .int .i64 0, .str [], .nilS, .int .i64 0, .int .i64 0, .str [], .nilS], eq := false }) .leaf .leaf) .leaf))))) (.node 209 ({ d := .struct [(0, 9), (1, 9), (2, 108)], sz := 3, bytes := 48, zero := [.str [], .str [], .nilI], eq := false }) (.node 193 ({ d := .int .u32, sz := 1, bytes := 4, zero := [.int .u32 0], eq := false }) (.node 186 ({ d := .struct [(0, 184), (6, 4)], sz := 7, bytes := 96, zero := [.int .i64 0, .int .i64 0, .str [], .nilS, .nilS, .int .i64 0, .bool false], eq := false }) (.node 183 ({ d := .struct [(0, 37), (4, 182), (5, 3)], sz := 6, bytes := 88, zero := [.int .i64 0, .int .i64 0, .str [], .nilS, .nilS, .int .i64 0], eq := false }) (.node 181 ({ d := .ptr 186, sz := 1, bytes := 8, zero := [.nilP], eq := false }) (.node 180 ({ d := .func, sz := 1, bytes := 8, zero := [.nilF], eq := false }) .leaf .leaf) (.node 182 ({ d := .slice 244, sz := 1, bytes := 24, zero := [.nilS], eq := false }) .leaf .leaf)) (.node 185 ({ d := .struct [(0, 184), (6, 4)], sz := 7, bytes := 96, zero := [.int .i64 0, .int .i64 0, .str [], .nilS, .nilS, .int .i64 0, .bool false], eq := false }) (.node 184 ({ d := .struct [(0, 37), (4, 182), (5, 3)], sz := 6, bytes := 88, zero := [.int .i64 0, .int .i64 0, .str [], .nilS, .nilS, .int .i64 0], eq := false }) .leaf .leaf) .leaf)) (.node 190 ({ d := .func, sz := 1, bytes := 8, zero := [.nilF], eq := false }) (.node 188 ({ d := .func, sz := 1, bytes := 8, zero := [.nilF], eq := false }) (.node 187 ({ d := .func, sz := 1, bytes := 8, zero := [.nilF], eq := false }) .leaf .leaf) (.node 189 ({ d := .func, sz := 1, bytes := 8, zero := [.nilF], eq := false }) .leaf .leaf)) (.node 192 ({ d := .array 20 141, sz := 20, bytes := 160, zero := [.int .u64 0, .int .u64 0, .int .u64 0, .int .u64 0, .int .u64 0, .int .u64 0, .int .u64 0, .int .u64 0, .int .u64 0, .int .u64 0, .int .u64 0, .int .u64 0, .int .u64 0, .int .u64 0, .int .u64 0, .int .u64 0, .int .u64 0, .int .u64 0, .int .u64 0, .int .u64 0], eq := false }) (.node 191 ({ d := .func, sz := 1, bytes := 8, zero := [.nilF], eq := false }) .leaf .leaf) .leaf))) (.node 202 ({ d := .struct [(0, 141), (1, 141)], sz := 2, bytes := 16, zero := [.int .u64 0, .int .u64 0], eq := true }) (.node 199 ({ d := .func, sz := 1, bytes := 8, zero := [.nilF], eq := false }) (.node 195 ({ d := .func, sz := 1, bytes := 8, zero := [.nilF], eq := false }) (.node 194 ({ d := .array 65 5, sz := 65, bytes := 65, zero := [.int .u8 0, .int .u8 0, .int .u8 0, .int .u8 0, .int .u8 0, .int .u8 0, .int .u8 0, .int .u8 0, .int .u8 0, .int .u8 0, .int .u8 0, .int .u8 0, .int .u8 0, .int .u8 0, .int .u8 0, .int .u8 0, .int .u8 0, .int .u8 0, .int .u8 0, .int .u8 0, .int .u8 0, .int .u8 0, .int .u8 0, .int .u8 0, .int .u8 0, .int .u8 0, .int .u8 0, .int .u8 0, .int .u8 0, .int .u8 0, .int .u8 0, .int .u8 0, .int .u8 0, .int .u8 0, .int .u8 0, .int .u8 0, .int .u8 0, .int .u8 0, .int .u8 0, .int .u8 0, .int .u8 0, .int .u8 0, .int .u8 0, .int .u8 0, .int .u8 0, .int .u8 0, .int .u8 0, .int .u8 0, .int .u8 0, .int .u8 0, .int .u8 0, .int .u8 0, .int .u8 0, .int .u8 0, .int .u8 0, .int .u8 0, .int .u8 0, .int .u8 0, .int .u8 0, .int .u8 0, .int .u8 0, .int .u8 0, .int .u8 0, .int .u8 0, .int .u8 0], eq := false }) .leaf .leaf) (.node 198 ({ d := .ptr 210, sz := 1, bytes := 8, zero := [.nilP], eq := false }) .leaf .leaf)) (.node 201 ({ d := .struct [(0, 141), (1, 141)], sz := 2, bytes := 16, zero := [.int .u64 0, .int .u64 0], eq := true }) (.node 200 ({ d := .func, sz := 1, bytes := 8, zero := [.nilF], eq := false }) .leaf .leaf) .leaf)) (.node 205 ({ d := .func, sz := 1, bytes := 8, zero := [.nilF], eq := false }) (.node 204 ({ d := .func, sz := 1, bytes := 8, zero := [.nilF], eq := false }) (.node 203 ({ d := .func, sz := 1, bytes := 8, zero := [.nilF], eq := false }) .leaf .leaf) .leaf) (.node 208 ({ d := .func, sz := 1, bytes := 8, zero := [.nilF], eq := false }) (.node 207 ({ d := .func, sz := 1, bytes := 8, zero := [.nilF], eq := false }) .leaf .leaf) .leaf)))) (.node 230 ({ d := .struct [(0, 17), (1, 17), (2, 17), (3, 9)], sz := 4, bytes := 40, zero := [.nilP, .nilP, .nilP, .str []], eq := false }) (.node 216 ({ d := .array 32 5, sz := 32, bytes := 32, zero := [.int .u8 0, .int .u8 0, .int .u8 0, .int .u8 0, .int .u8 0, .int .u8 0, .int .u8 0, .int .u8 0, .int .u8 0, .int .u8 0, .int .u8 0, .int .u8 0, .int .u8 0, .int .u8 0, .int .u8 0, .int .u8 0, .int .u8 0, .int .u8 0, .int .u8 0, .int .u8 0, .int .u8 0, .int .u8 0, .int .u8 0, .int .u8 0, .int .u8 0, .int .u8 0, .int .u8 0, .int .u8 0, .int .u8 0, .int .u8 0, .int .u8 0, .int .u8 0], eq := false }) (.node 213 ({ d := .func, sz := 1, bytes := 8, zero := [.nilF], eq := false }) (.node 211 ({ d := .func, sz := 1, bytes := 8, zero := [.nilF], eq := false }) (.node 210 ({ d := .struct [(0, 9), (1, 9), (2, 108)], sz := 3, bytes := 48, zero := [.str [], .str [], .nilI], eq := false }) .leaf .leaf) (.node 212 ({ d := .ptr 202, sz := 1, bytes := 8, zero := [.nilP], eq := false }) .leaf .leaf)) (.node 215 ({ d := .func, sz := 1, bytes := 8, zero := [.nilF], eq := false }) (.node 214 ({ d := .func, sz := 1, bytes := 8, zero := [.nilF], eq := false }) .leaf .leaf) .leaf)) (.node 219 ({ d := .struct [(0, 9)], sz := 1, bytes := 16, zero := [.str []], eq := true }) (.node 218 ({ d := .ptr 220, sz := 1, bytes := 8, zero := [.nilP], eq := false }) (.node 217 ({ d := .array 64 5, sz := 64, bytes := 64, zero := [.int .u8 0, .int .u8 0, .int .u8 0, .int .u8 0, .int .u8 0, .int .u8 0, .int .u8 0, .int .u8 0, .int .u8 0, .int .u8 0, .int .u8 0, .int .u8 0, .int .u8 0, .int .u8 0, .int .u8 0, .int .u8 0, .int .u8 0, .int .u8 0, .int .u8 0, .int .u8 0, .int .u8 0, .int .u8 0, .int .u8 0, .int .u8 0, .int .u8 0, .int .u8 0, .int .u8 0, .int .u8 0, .int .u8 0, .int .u8 0, .int .u8 0, .int .u8 0, .int .u8 0, .int .u8 0, .int .u8 0, .int .u8 0, .int .u8 0, .int .u8 0, .int .u8 0, .int .u8 0, .int .u8 0, .int .u8 0, .int .u8 0, .int .u8 0, .int .u8 0, .int .u8 0, .int .u8 0, .int .u8 0, .int .u8 0, .int .u8 0, .int .u8 0, .int .u8 0, .int .u8 0, .int .u8 0, .int .u8 0, .int .u8 0, .int .u8 0, .int .u8 0, .int .u8 0, .int .u8 0, .int .u8 0, .int .u8 0, .int .u8 0, .int .u8 0], eq := false }) .leaf .leaf) .leaf) (.node 222 ({ d := .ptr 37, sz := 1, bytes := 8, zero := [.nilP], eq := false }) (.node 220 ({ d := .struct [(0, 9)], sz := 1, bytes := 16, zero := [.str []], eq := true }) .leaf .leaf) .leaf))) (.node 239 ({ d := .int .i32, sz := 1, bytes := 4, zero := [.int .i32 0], eq := false }) (.node 236 ({ d := .int .u8, sz := 1, bytes := 1, zero := [.int .u8 0], eq := false }) (.node 233 ({ d := .struct [(0, 232)], sz := 0, bytes := 0, zero := [], eq := false }) (.node 232 ({ d := .array 0 16, sz := 0, bytes := 0, zero := [], eq := false }) .leaf .leaf) (.node 235 ({ d := .func, sz := 1, bytes := 8, zero := [.nilF], eq := false }) .leaf .leaf)) (.node 238 ({ d := .func, sz := 1, bytes := 8, zero := [.nilF], eq := false }) (.node 237 ({ d := .int .u8, sz := 1, bytes := 1, zero := [.int .u8 0], eq := false }) .leaf .leaf) .leaf)) (.node 242 ({ d := .struct [(0, 12), (1, 12), (2, 193), (3, 236), (4, 5), (5, 5), (6, 237), (7, 238), (8, 138), (9, 239), (10, 240)], sz := 11, bytes := 48, zero := [.int .u64 0, .int .u64 0, .int .u32 0, .int .u8 0, .int .u8 0, .int .u8 0, .int .u8 0, .nilF, .nilP, .int .i32 0, .int .i32 0], eq := false }) (.node 241 ({ d := .struct [(0, 12), (1, 12), (2, 193), (3, 236), (4, 5), (5, 5), (6, 237), (7, 238), (8, 138), (9, 239), (10, 240)], sz := 11, bytes := 48, zero := [.int .u64 0, .int .u64 0, .int .u32 0, .int .u8 0, .int .u8 0, .int .u8 0, .int .u8 0, .nilF, .nilP, .int .i32 0, .int .i32 0], eq := false }) (.node 240 ({ d := .int .i32, sz := 1, bytes := 4, zero := [.int .i32 0], eq := false }) .leaf .leaf) .leaf) (.node 244 ({ d := .struct [(0, 3), (1, 37)], sz := 5, bytes := 64, zero := [.int .i64 0, .int .i64 0, .int .i64 0, .str [], .nilS], eq := false }) (.node 243 ({ d := .struct [(0, 3), (1, 37)], sz := 5, bytes := 64, zero := [.int .i64 0, .int .i64 0, .int .i64 0, .str [], .nilS], eq := false }) .leaf .leaf) .leaf))))))
def qoZ : BT CMode := .node 122 (.scal) (.node 65 (.bld) (.node 40 (.pfrz) (.node 22 (.pfrz) (.node 18 (.scal) (.node 16 (.scal) (.node 15 (.scal) (.node 5 (.scal) .leaf .leaf) .leaf) (.node 17 (.scal) .leaf .leaf)) (.node 20 (.pfrz) (.node 19 (.pfrz) .leaf .leaf) (.node 21 (.pfrz) .leaf .leaf))) (.node 29 (.scal) (.node 25 (.pfrz) (.node 23 (.pfrz) .leaf .leaf) (.node 27 (.scal) .leaf .leaf)) (.node 31 (.pfrz) (.node 30 (.pfrz) .leaf .leaf) (.node 39 (.scal) .leaf .leaf)))) (.node 50 (.sub) (.node 44 (.scal) (.node 42 (.scal) (.node 41 (.scal) .leaf .leaf) (.node 43 (.pfrz) .leaf .leaf)) (.node 46 (.sub) (.node 45 (.pfrz) .leaf .leaf) (.node 48 (.pfrz) .leaf .leaf))) (.node 54 (.sub) (.node 52 (.pfrz) (.node 51 (.sub) .leaf .leaf) (.node 53 (.scal) .leaf .leaf)) (.node 59 (.scal) (.node 56 (.scal) .leaf .leaf) (.node 64 (.scal) .leaf .leaf))))) (.node 99 (.slf) (.node 90 (.pfrz) (.node 86 (.scal) (.node 73 (.scal) (.node 68 (.bld) (.node 66 (.bld) .leaf .leaf) .leaf) (.node 74 (.scal) .leaf .leaf)) (.node 88 (.scal) (.node 87 (.scal) .leaf .leaf) (.node 89 (.pown) .leaf .leaf))) (.node 95 (.sub) (.node 92 (.sub) (.node 91 (.sub) .leaf .leaf) (.node 94 (.pown) .leaf .leaf)) (.node 97 (.sub) (.node 96 (.sub) .leaf .leaf) (.node 98 (.sub) .leaf .leaf)))) (.node 111 (.scal) (.node 103 (.sub) (.node 101 (.scal) (.node 100 (.scal) .leaf .leaf) (.node 102 (.sub) .leaf .leaf)) (.node 109 (.scal) (.node 104 (.scal) .leaf .leaf) (.node 110 (.scal) .leaf .leaf))) (.node 115 (.bld) (.node 113 (.bld) (.node 112 (.scal) .leaf .leaf) (.node 114 (.bld) .leaf .leaf)) (.node 120 (.scal) (.node 116 (.bld) .leaf .leaf) (.node 121 (.scal) .leaf .leaf)))))) (.node 172 (.scal) (.node 144 (.scal) (.node 136 (.pfrz) (.node 131 (.sub) (.node 128 (.scal) (.node 127 (.scal) (.node 123 (.scal) .leaf .leaf) .leaf) (.node 130 (.pfrz) .leaf .leaf)) (.node 134 (.scal) (.node 132 (.scal) .leaf .leaf) (.node 135 (.sub) .leaf .leaf))) (.node 140 (.scal) (.node 138 (.pfrz) (.node 137 (.pown) .leaf .leaf) (.node 139 (.scal) .leaf .leaf)) (.node 142 (.scal) (.node 141 (.pfrz) .leaf .leaf) (.node 143 (.scal) .leaf .leaf)))) (.node 163 (.scal) (.node 155 (.scal) (.node 151 (.scal) (.node 150 (.scal) .leaf .leaf) (.node 152 (.scal) .leaf .leaf)) (.node 157 (.scal) (.node 156 (.scal) .leaf .leaf) (.node 161 (.scal) .leaf .leaf))) (.node 168 (.inpf) (.node 165 (.pfrz) (.node 164 (.pfrz) .leaf .leaf) (.node 167 (.scal) .leaf .leaf)) (.node 170 (.scal) (.node 169 (.scal) .leaf .leaf) (.node 171 (.scal) .leaf .leaf))))) (.node 202 (.inpl) (.node 191 (.inpf) (.node 186 (.scal) (.node 176 (.scal) (.node 174 (.scal) (.node 173 (.scal) .leaf .leaf) .leaf) (.node 179 (.scal) .leaf .leaf)) (.node 189 (.scal) (.node 188 (.inpl) .leaf .leaf) (.node 190 (.inpf) .leaf .leaf))) (.node 195 (.scal) (.node 193 (.scal) (.node 192 (.scal) .leaf .leaf) (.node 194 (.scal) .leaf .leaf)) (.node 200 (.inpl) (.node 199 (.pfrz) .leaf .leaf) (.node 201 (.inpf) .leaf .leaf)))) (.node 211 (.scal) (.node 206 (.inpf) (.node 204 (.inpf) (.node 203 (.inpf) .leaf .leaf) (.node 205 (.scal) .leaf .leaf)) (.node 209 (.scal) (.node 207 (.pfrz) .leaf .leaf) (.node 210 (.scal) .leaf .leaf))) (.node 216 (.scal) (.node 213 (.inpf) (.node 212 (.scal) .leaf .leaf) (.node 215 (.scal) .leaf .leaf)) (.node 218 (.scal) (.node 217 (.scal) .leaf .leaf) (.node 219 (.scal) .leaf .leaf))))))
def qpF : BT (BT (List Nat)) := .node 48 (.node 5 ([6]) .leaf .leaf) (.node 20 (.node 1 ([3, 7, 9, 11]) .leaf .leaf) (.node 18 (.node 6 ([4]) .leaf .leaf) .leaf .leaf) (.node 47 (.node 1 ([1]) .leaf .leaf) .leaf .leaf)) (.node 136 (.node 3 ([3]) .leaf .leaf) (.node 96 (.node 21 ([3]) .leaf .leaf) .leaf .leaf) .leaf)
noncomputable def qhP {α : Type} (a b : Nat) (t : BT (BT α)) : Option α := match t.look a with | some u => u.look b | none => none
noncomputable def qo5 (f r k : Nat) : Bool := match qhP f r qpF with | some l => vR k l | none => false
def qo0 : BT (BT (List Tmp × List Tmp)) := .node 127 (.node 4 ([1, 3], [2]) .leaf .leaf) (.node 89 (.node 7 ([2, 3, 4], [2, 3, 4, 5]) .leaf .leaf) (.node 47 (.node 3 ([3, 8, 9], [3]) .leaf .leaf) (.node 27 (.node 4 ([0, 1, 5], [4]) .leaf .leaf) (.node 19 (.node 6 ([6, 19, 20, 21], [6]) .leaf .leaf) (.node 15 (.node 2 ([0, 3], [2]) .leaf .leaf) .leaf .leaf) (.node 21 (.node 6 ([0, 6, 10, 11, 12], [6, 7, 8, 9, 11]) .leaf .leaf) .leaf .leaf)) (.node 46 (.node 11 ([0, 4, 7, 37, 38, 39], [0, 4, 7]) (.node 4 ([0, 3, 4, 20, 21, 22], [0, 3, 4]) .leaf .leaf) .leaf) (.node 45 (.node 5 ([4, 16, 17, 18], [4]) .leaf .leaf) .leaf .leaf) .leaf)) (.node 74 (.node 27 ([1, 5], [1, 5]) (.node 17 ([1, 3, 4], [3]) .leaf .leaf) .leaf) (.node 64 (.node 4 ([2, 3], [2, 3]) .leaf .leaf) (.node 48 (.node 3 ([0, 2, 3, 4], [2, 3]) .leaf .leaf) .leaf .leaf) (.node 65 (.node 19 ([0, 76, 77, 78], [0]) .leaf .leaf) .leaf .leaf)) (.node 88 (.node 4 ([0, 1, 5], [4]) .leaf .leaf) (.node 86 (.node 5 ([1, 2, 5, 6], [5]) .leaf .leaf) .leaf .leaf) .leaf))) (.node 104 (.node 2 ([0, 1, 7, 8], [4]) .leaf .leaf) (.node 96 (.node 15 ([0, 7, 48], [0, 7]) .leaf .leaf) (.node 93 (.node 1 ([0, 1, 6, 7], []) .leaf .leaf) (.node 90 (.node 3 ([3, 6, 7, 8], [3]) .leaf .leaf) .leaf .leaf) (.node 95 (.node 15 ([2], []) .leaf .leaf) .leaf .leaf)) (.node 102 (.node 1 ([0, 6, 7, 8], []) .leaf .leaf) (.node 99 (.node 6 ([1, 2, 3, 4, 18, 19, 20], [2, 3, 4]) .leaf .leaf) .leaf .leaf) .leaf)) (.node 120 (.node 4 ([0, 3], [0, 2]) .leaf .leaf) (.node 114 (.node 1 ([0, 6, 7, 8], []) .leaf .leaf) (.node 112 (.node 4 ([3, 8, 9, 10], [3]) .leaf .leaf) .leaf .leaf) (.node 115 (.node 3 ([0, 3, 4], [0]) .leaf .leaf) .leaf .leaf)) (.node 122 (.node 3 ([0, 3, 4], [3]) .leaf .leaf) (.node 121 (.node 3 ([0, 3, 4], [3]) .leaf .leaf) .leaf .leaf) .leaf)))) (.node 164 (.node 11 ([3, 7, 29], [7]) (.node 6 ([3], [3]) .leaf .leaf) .leaf) (.node 143 (.node 5 ([4, 32, 33, 34], [2, 3, 4]) .leaf .leaf) (.node 134 (.node 9 ([5, 6, 70, 71], [5]) (.node 2 ([5], [4]) .leaf .leaf) .leaf) (.node 130 (.node 14 ([2, 4, 5, 73, 74, 77, 78, 79], [2, 3, 4, 5, 73, 74]) (.node 11 ([2, 4, 5, 73, 74], [2, 3, 4]) .leaf .leaf) .leaf) (.node 128 (.node 6 ([1, 3, 4], [3]) .leaf .leaf) .leaf .leaf) (.node 131 (.node 16 ([3, 69, 70, 71], []) .leaf .leaf) .leaf .leaf)) (.node 138 (.node 4 ([0, 1, 2, 6, 24, 25, 26], [0, 1, 2, 6, 7]) .leaf .leaf) (.node 136 (.node 3 ([3], [3, 4]) .leaf .leaf) .leaf .leaf) .leaf)) (.node 149 (.node 7 ([3], [0, 3]) (.node 1 ([0, 3], []) .leaf .leaf) .leaf) (.node 147 (.node 1 ([0, 1, 4], [0, 1, 4]) .leaf .leaf) (.node 144 (.node 15 ([0, 1, 5, 6, 7, 8, 9, 10], [4]) .leaf .leaf) .leaf .leaf) (.node 148 (.node 18 ([0, 1, 3, 4, 10, 11, 12, 13, 17], [0, 1, 3, 4, 10, 11, 12, 13]) (.node 11 ([0, 1, 3, 4, 10, 11, 12, 13, 14, 15, 16], [0, 1, 3, 4, 10, 11, 12, 13]) .leaf .leaf) .leaf) .leaf .leaf)) (.node 162 (.node 0 ([0, 1, 2], [1, 2]) .leaf .leaf) (.node 156 (.node 3 ([0, 3, 4], [2]) .leaf .leaf) .leaf .leaf) .leaf))) (.node 198 (.node 1 ([0, 3], []) .leaf .leaf) (.node 174 (.node 11 ([0, 1, 5, 6, 7, 8, 10], [4]) (.node 5 ([0, 1, 5, 6, 7, 8, 9], [0, 1, 5, 6, 7, 8]) .leaf .leaf) .leaf) (.node 166 (.node 1 ([0, 1, 3], []) .leaf .leaf) (.node 165 (.node 5 ([4], [4, 5]) .leaf .leaf) .leaf .leaf) (.node 169 (.node 2 ([0, 1, 7, 8], [4]) .leaf .leaf) .leaf .leaf)) (.node 193 (.node 8 ([4, 6, 7, 8], [4, 6]) (.node 3 ([0, 4, 5], [0, 4]) .leaf .leaf) .leaf) (.node 192 (.node 2 ([0, 1, 7, 8], [4]) .leaf .leaf) .leaf .leaf) .leaf)) (.node 211 (.node 3 ([3, 6, 7, 8], [2, 3]) .leaf .leaf) (.node 205 (.node 1 ([2, 3], [4]) .leaf .leaf) (.node 204 (.node 4 ([7], [0, 5, 6, 7]) .leaf .leaf) .leaf .leaf) .leaf) (.node 217 (.node 2 ([0, 1, 2, 11, 12, 13], [0, 1, 6]) .leaf .leaf) (.node 214 (.node 0 ([0, 1], []) .leaf .leaf) .leaf .leaf) .leaf))))
def qpL : BT (BT (List Tmp)) := .leaf
def qo1 : BT (BT (List (Tmp × Nat))) := .node 137 (.node 0 ([(2, 4)]) .leaf .leaf) (.node 94 (.node 0 ([(2, 7)]) .leaf .leaf) (.node 90 (.node 3 ([(3, 4)]) .leaf .leaf) (.node 89 (.node 7 ([(2, 6), (4, 6)]) (.node 0 ([(2, 6)]) .leaf .leaf) .leaf) .leaf .leaf) .leaf) (.node 134 (.node 9 ([(5, 8)]) (.node 2 ([(5, 8)]) .leaf .leaf) .leaf) (.node 96 (.node 15 ([(7, 4)]) .leaf .leaf) .leaf .leaf) .leaf)) (.node 164 (.node 11 ([(7, 1)]) .leaf .leaf) (.node 149 (.node 7 ([(3, 4)]) (.node 1 ([(3, 4)]) .leaf .leaf) .leaf) (.node 148 (.node 18 ([(10, 1)]) (.node 11 ([(10, 1)]) .leaf .leaf) .leaf) .leaf .leaf) .leaf) (.node 198 (.node 1 ([(3, 4)]) .leaf .leaf) (.node 165 (.node 5 ([(4, 4)]) .leaf .leaf) .leaf .leaf) .leaf))
def qaI (f : Nat) : List (Nat × (List AV → AH → Option (AV × AH))) → Option (List AV → AH → Option (AV × AH))
 | [] => none
 | p :: l => if qqz p.1 f then some p.2 else qaI f l
def vw : BT TypeId := .node 104 (5) (.node 102 (5) .leaf .leaf) .leaf
noncomputable def qkR : List (Nat × (List AV → AH → Option (AV × AH))) := []
noncomputable def qb4 : List (Nat × (List AV → AH → Option (AV × AH))) := (29, qb5) :: (59, yZ) :: (66, (qal vw.look)) :: (68, (xR vw.look)) :: (113, (yD vw.look)) :: (219, qgg) :: qkR
theorem qgf : qkR = [] := rfl
def qnS : BT Unit := .node 131 (()) (.node 86 (()) (.node 43 (()) (.node 23 (()) (.node 18 (()) (.node 16 (()) (.node 15 (()) (.node 5 (()) .leaf .leaf) .leaf) (.node 17 (()) .leaf .leaf)) (.node 21 (()) (.node 20 (()) (.node 19 (()) .leaf .leaf) .leaf) (.node 22 (()) .leaf .leaf))) (.node 39 (()) (.node 30 (()) (.node 27 (()) (.node 25 (()) .leaf .leaf) .leaf) (.node 31 (()) .leaf .leaf)) (.node 41 (()) (.node 40 (()) .leaf .leaf) (.node 42 (()) .leaf .leaf)))) (.node 52 (()) (.node 48 (()) (.node 46 (()) (.node 45 (()) (.node 44 (()) .leaf .leaf) .leaf) (.node 47 (()) .leaf .leaf)) (.node 50 (()) (.node 49 (()) .leaf .leaf) (.node 51 (()) .leaf .leaf))) (.node 64 (()) (.node 56 (()) (.node 54 (()) (.node 53 (()) .leaf .leaf) .leaf) (.node 63 (()) .leaf .leaf)) (.node 73 (()) (.node 65 (()) .leaf .leaf) (.node 74 (()) .leaf .leaf))))) (.node 105 (()) (.node 96 (()) (.node 91 (()) (.node 89 (()) (.node 88 (()) (.node 87 (()) .leaf .leaf) .leaf) (.node 90 (()) .leaf .leaf)) (.node 94 (()) (.node 93 (()) (.node 92 (()) .leaf .leaf) .leaf) (.node 95 (()) .leaf .leaf))) (.node 101 (()) (.node 99 (()) (.node 98 (()) (.node 97 (()) .leaf .leaf) .leaf) (.node 100 (()) .leaf .leaf)) (.node 103 (()) (.node 102 (()) .leaf .leaf) (.node 104 (()) .leaf .leaf)))) (.node 116 (()) (.node 111 (()) (.node 109 (()) (.node 108 (()) (.node 107 (()) .leaf .leaf) .leaf) (.node 110 (()) .leaf .leaf)) (.node 114 (()) (.node 112 (()) .leaf .leaf) (.node 115 (()) .leaf .leaf))) (.node 127 (()) (.node 122 (()) (.node 121 (()) (.node 120 (()) .leaf .leaf) .leaf) (.node 123 (()) .leaf .leaf)) (.node 129 (()) (.node 128 (()) .leaf .leaf) (.node 130 (()) .leaf .leaf)))))) (.node 175 (()) (.node 150 (()) (.node 141 (()) (.node 136 (()) (.node 134 (()) (.node 133 (()) (.node 132 (()) .leaf .leaf) .leaf) (.node 135 (()) .leaf .leaf)) (.node 139 (()) (.node 138 (()) (.node 137 (()) .leaf .leaf) .leaf) (.node 140 (()) .leaf .leaf))) (.node 146 (()) (.node 144 (()) (.node 143 (()) (.node 142 (()) .leaf .leaf) .leaf) (.node 145 (()) .leaf .leaf)) (.node 148 (()) (.node 147 (()) .leaf .leaf) (.node 149 (()) .leaf .leaf)))) (.node 165 (()) (.node 161 (()) (.node 155 (()) (.node 152 (()) (.node 151 (()) .leaf .leaf) .leaf) (.node 156 (()) .leaf .leaf)) (.node 163 (()) (.node 162 (()) .leaf .leaf) (.node 164 (()) .leaf .leaf))) (.node 170 (()) (.node 168 (()) (.node 167 (()) (.node 166 (()) .leaf .leaf) .leaf) (.node 169 (()) .leaf .leaf)) (.node 173 (()) (.node 171 (()) .leaf .leaf) (.node 174 (()) .leaf .leaf))))) (.node 201 (()) (.node 190 (()) (.node 186 (()) (.node 178 (()) (.node 177 (()) (.node 176 (()) .leaf .leaf) .leaf) (.node 179 (()) .leaf .leaf)) (.node 188 (()) (.node 187 (()) .leaf .leaf) (.node 189 (()) .leaf .leaf))) (.node 195 (()) (.node 193 (()) (.node 192 (()) (.node 191 (()) .leaf .leaf) .leaf) (.node 194 (()) .leaf .leaf)) (.node 199 (()) (.node 198 (()) .leaf .leaf) (.node 200 (()) .leaf .leaf)))) (.node 210 (()) (.node 206 (()) (.node 204 (()) (.node 203 (()) (.node 202 (()) .leaf .leaf) .leaf) (.node 205 (()) .leaf .leaf)) (.node 208 (()) (.node 207 (()) .leaf .leaf) (.node 209 (()) .leaf .leaf))) (.node 215 (()) (.node 213 (()) (.node 212 (()) (.node 211 (()) .leaf .leaf) .leaf) (.node 214 (()) .leaf .leaf)) (.node 217 (()) (.node 216 (()) .leaf .leaf) (.node 218 (()) .leaf .leaf))))))
def qpK : BT Unit := .node 182 (()) (.node 72 (()) (.node 37 (()) (.node 35 (()) .leaf .leaf) .leaf) (.node 79 (()) .leaf .leaf)) (.node 186 (()) (.node 184 (()) .leaf .leaf) (.node 244 (()) .leaf .leaf))
def qpN : BT Unit := .node 184 (()) .leaf .leaf
def qpu : BT Unit := .node 53 (()) .leaf .leaf
def qpJ : BT Unit := .leaf
def qpz : BT (List Nat) := .node 142 ([141, 108]) (.node 73 ([72, 24]) (.node 44 ([43, 24]) (.node 32 ([22, 31]) (.node 25 ([9, 24]) .leaf .leaf) .leaf) (.node 47 ([37, 4, 3, 24]) .leaf .leaf)) (.node 113 ([5, 4]) (.node 109 ([3, 108]) .leaf .leaf) (.node 124 ([3, 4]) .leaf .leaf))) (.node 165 ([92, 9]) (.node 153 ([37, 4]) (.node 147 ([79, 4]) .leaf .leaf) (.node 156 ([37, 24]) .leaf .leaf)) (.node 206 ([193, 193]) (.node 173 ([35, 4]) .leaf .leaf) (.node 228 ([141, 141]) .leaf .leaf)))
noncomputable def qm0 : List (Nat × Func) := [(108, Tryz.f108), (129, Tryz.f129), (133, Tryz.f133), (149, Tryz.f149), (162, Tryz.f162), (166, Tryz.f166), (187, Tryz.f187), (198, Tryz.f198), (208, Tryz.f208), (214, Tryz.f214)]
noncomputable def qlS : BT Func := .node 128 (Tryz.f128) (.node 68 (Tryz.f68) (.node 42 (Tryz.f42) (.node 23 (Tryz.f23) (.node 18 (Tryz.f18) (.node 16 (Tryz.f16) (.node 15 (Tryz.f15) (.node 5 (Tryz.f5) .leaf .leaf) .leaf) (.node 17 (Tryz.f17) .leaf .leaf)) (.node 21 (Tryz.f21) (.node 20 (Tryz.f20) (.node 19 (Tryz.f19) .leaf .leaf) .leaf) (.node 22 (Tryz.f22) .leaf .leaf))) (.node 31 (Tryz.f31) (.node 29 (Tryz.f29) (.node 27 (Tryz.f27) (.node 25 (Tryz.f25) .leaf .leaf) .leaf) (.node 30 (Tryz.f30) .leaf .leaf)) (.node 40 (Tryz.f40) (.node 39 (Tryz.f39) .leaf .leaf) (.node 41 (Tryz.f41) .leaf .leaf)))) (.node 52 (Tryz.f52) (.node 47 (Tryz.f47) (.node 45 (Tryz.f45) (.node 44 (Tryz.f44) (.node 43 (Tryz.f43) .leaf .leaf) .leaf) (.node 46 (Tryz.f46) .leaf .leaf)) (.node 50 (Tryz.f50) (.node 49 (Tryz.f49) (.node 48 (Tryz.f48) .leaf .leaf) .leaf) (.node 51 (Tryz.f51) .leaf .leaf))) (.node 63 (Tryz.f63) (.node 56 (Tryz.f56) (.node 54 (Tryz.f54) (.node 53 (Tryz.f53) .leaf .leaf) .leaf) (.node 59 (Tryz.f59) .leaf .leaf)) (.node 65 (Tryz.f65) (.node 64 (Tryz.f64) .leaf .leaf) (.node 66 (Tryz.f66) .leaf .leaf))))) (.node 102 (Tryz.f102) (.node 93 (Tryz.f93) (.node 88 (Tryz.f88) (.node 86 (Tryz.f86) (.node 74 (Tryz.f74) (.node 73 (Tryz.f73) .leaf .leaf) .leaf) (.node 87 (Tryz.f87) .leaf .leaf)) (.node 91 (Tryz.f91) (.node 90 (Tryz.f90) (.node 89 (Tryz.f89) .leaf .leaf) .leaf) (.node 92 (Tryz.f92) .leaf .leaf))) (.node 98 (Tryz.f98) (.node 96 (Tryz.f96) (.node 95 (Tryz.f95) (.node 94 (Tryz.f94) .leaf .leaf) .leaf) (.node 97 (Tryz.f97) .leaf .leaf)) (.node 100 (Tryz.f100) (.node 99 (Tryz.f99) .leaf .leaf) (.node 101 (Tryz.f101) .leaf .leaf)))) (.node 113 (Tryz.f113) (.node 108 (Tryz.f108) (.node 105 (Tryz.f105) (.node 104 (Tryz.f104) (.node 103 (Tryz.f103) .leaf .leaf) .leaf) (.node 107 (Tryz.f107) .leaf .leaf)) (.node 111 (Tryz.f111) (.node 110 (Tryz.f110) (.node 109 (Tryz.f109) .leaf .leaf) .leaf) (.node 112 (Tryz.f112) .leaf .leaf))) (.node 121 (Tryz.f121) (.node 116 (Tryz.f116) (.node 115 (Tryz.f115) (.node 114 (Tryz.f114) .leaf .leaf) .leaf) (.node 120 (Tryz.f120) .leaf .leaf)) (.node 123 (Tryz.f123) (.node 122 (Tryz.f122) .leaf .leaf) (.node 127 (Tryz.f127) .leaf .leaf)))))) (.node 173 (Tryz.f173) (.node 147 (Tryz.f147) (.node 138 (Tryz.f138) (.node 133 (Tryz.f133) (.node 131 (Tryz.f131) (.node 130 (Tryz.f130) (.node 129 (Tryz.f129) .leaf .leaf) .leaf) (.node 132 (Tryz.f132) .leaf .leaf)) (.node 136 (Tryz.f136) (.node 135 (Tryz.f135) (.node 134 (Tryz.f134) .leaf .leaf) .leaf) (.node 137 (Tryz.f137) .leaf .leaf))) (.node 143 (Tryz.f143) (.node 141 (Tryz.f141) (.node 140 (Tryz.f140) (.node 139 (Tryz.f139) .leaf .leaf) .leaf) (.node 142 (Tryz.f142) .leaf .leaf)) (.node 145 (Tryz.f145) (.node 144 (Tryz.f144) .leaf .leaf) (.node 146 (Tryz.f146) .leaf .leaf)))) (.node 163 (Tryz.f163) (.node 152 (Tryz.f152) (.node 150 (Tryz.f150) (.node 149 (Tryz.f149) (.node 148 (Tryz.f148) .leaf .leaf) .leaf) (.node 151 (Tryz.f151) .leaf .leaf)) (.node 161 (Tryz.f161) (.node 156 (Tryz.f156) (.node 155 (Tryz.f155) .leaf .leaf) .leaf) (.node 162 (Tryz.f162) .leaf .leaf))) (.node 168 (Tryz.f168) (.node 166 (Tryz.f166) (.node 165 (Tryz.f165) (.node 164 (Tryz.f164) .leaf .leaf) .leaf) (.node 167 (Tryz.f167) .leaf .leaf)) (.node 170 (Tryz.f170) (.node 169 (Tryz.f169) .leaf .leaf) (.node 171 (Tryz.f171) .leaf .leaf))))) (.node 200 (Tryz.f200) (.node 189 (Tryz.f189) (.node 178 (Tryz.f178) (.node 176 (Tryz.f176) (.node 175 (Tryz.f175) (.node 174 (Tryz.f174) .leaf .leaf) .leaf) (.node 177 (Tryz.f177) .leaf .leaf)) (.node 187 (Tryz.f187) (.node 186 (Tryz.f186) (.node 179 (Tryz.f179) .leaf .leaf) .leaf) (.node 188 (Tryz.f188) .leaf .leaf))) (.node 194 (Tryz.f194) (.node 192 (Tryz.f192) (.node 191 (Tryz.f191) (.node 190 (Tryz.f190) .leaf .leaf) .leaf) (.node 193 (Tryz.f193) .leaf .leaf)) (.node 198 (Tryz.f198) (.node 195 (Tryz.f195) .leaf .leaf) (.node 199 (Tryz.f199) .leaf .leaf)))) (.node 210 (Tryz.f210) (.node 205 (Tryz.f205) (.node 203 (Tryz.f203) (.node 202 (Tryz.f202) (.node 201 (Tryz.f201) .leaf .leaf) .leaf) (.node 204 (Tryz.f204) .leaf .leaf)) (.node 208 (Tryz.f208) (.node 207 (Tryz.f207) (.node 206 (Tryz.f206) .leaf .leaf) .leaf) (.node 209 (Tryz.f209) .leaf .leaf))) (.node 215 (Tryz.f215) (.node 213 (Tryz.f213) (.node 212 (Tryz.f212) (.node 211 (Tryz.f211) .leaf .leaf) .leaf) (.node 214 (Tryz.f214) .leaf .leaf)) (.node 217 (Tryz.f217) (.node 216 (Tryz.f216) .leaf .leaf) (.node 218 (Tryz.f218) .leaf .leaf))))))
theorem qoM : qlS.All fun f fn => Tryz.prog.funcs[f]? = some fn := (BT.all_node Tryz.func128 (BT.all_node Tryz.func68 (BT.all_node Tryz.func42 (BT.all_node Tryz.func23 (BT.all_node Tryz.func18 (BT.all_node Tryz.func16 (BT.all_node Tryz.func15 (BT.all_node Tryz.func5 trivial trivial) trivial) (BT.all_node Tryz.func17 trivial trivial)) (BT.all_node Tryz.func21 (BT.all_node Tryz.func20 (BT.all_node Tryz.func19 trivial trivial) trivial) (BT.all_node Tryz.func22 trivial trivial))) (BT.all_node Tryz.func31 (BT.all_node Tryz.func29 (BT.all_node Tryz.func27 (BT.all_node Tryz.func25 trivial trivial) trivial) (BT.all_node Tryz.func30 trivial trivial)) (BT.all_node Tryz.func40 (BT.all_node Tryz.func39 trivial trivial) (BT.all_node Tryz.func41 trivial trivial)))) (BT.all_node Tryz.func52 (BT.all_node Tryz.func47 (BT.all_node Tryz.func45 (BT.all_node Tryz.func44 (BT.all_node Tryz.func43 trivial trivial) trivial) (BT.all_node Tryz.func46 trivial trivial)) (BT.all_node Tryz.func50 (BT.all_node Tryz.func49 (BT.all_node Tryz.func48 trivial trivial) trivial) (BT.all_node Tryz.func51 trivial trivial))) (BT.all_node Tryz.func63 (BT.all_node Tryz.func56 (BT.all_node Tryz.func54 (BT.all_node Tryz.func53 trivial trivial) trivial) (BT.all_node Tryz.func59 trivial trivial)) (BT.all_node Tryz.func65 (BT.all_node Tryz.func64 trivial trivial) (BT.all_node Tryz.func66 trivial trivial))))) (BT.all_node Tryz.func102 (BT.all_node Tryz.func93 (BT.all_node Tryz.func88 (BT.all_node Tryz.func86 (BT.all_node Tryz.func74 (BT.all_node Tryz.func73 trivial trivial) trivial) (BT.all_node Tryz.func87 trivial trivial)) (BT.all_node Tryz.func91 (BT.all_node Tryz.func90 (BT.all_node Tryz.func89 trivial trivial) trivial) (BT.all_node Tryz.func92 trivial trivial))) (BT.all_node Tryz.func98 (BT.all_node Tryz.func96 (BT.all_node Tryz.func95 (BT.all_node Tryz.func94 trivial trivial) trivial) (BT.all_node Tryz.func97 trivial trivial)) (BT.all_node Tryz.func100 (BT.all_node Tryz.func99 trivial trivial) (BT.all_node Tryz.func101 trivial trivial)))) (BT.all_node Tryz.func113 (BT.all_node Tryz.func108 (BT.all_node Tryz.func105 (BT.all_node Tryz.func104 (BT.all_node Tryz.func103 trivial trivial) trivial) (BT.all_node Tryz.func107 trivial trivial)) (BT.all_node Tryz.func111 (BT.all_node Tryz.func110 (BT.all_node Tryz.func109 trivial trivial) trivial) (BT.all_node Tryz.func112 trivial trivial))) (BT.all_node Tryz.func121 (BT.all_node Tryz.func116 (BT.all_node Tryz.func115 (BT.all_node Tryz.func114 trivial trivial) trivial) (BT.all_node Tryz.func120 trivial trivial)) (BT.all_node Tryz.func123 (BT.all_node Tryz.func122 trivial trivial) (BT.all_node Tryz.func127 trivial trivial)))))) (BT.all_node Tryz.func173 (BT.all_node Tryz.func147 (BT.all_node Tryz.func138 (BT.all_node Tryz.func133 (BT.all_node Tryz.func131 (BT.all_node Tryz.func130 (BT.all_node Tryz.func129 trivial trivial) trivial) (BT.all_node Tryz.func132 trivial trivial)) (BT.all_node Tryz.func136 (BT.all_node Tryz.func135 (BT.all_node Tryz.func134 trivial trivial) trivial) (BT.all_node Tryz.func137 trivial trivial))) (BT.all_node Tryz.func143 (BT.all_node Tryz.func141 (BT.all_node Tryz.func140 (BT.all_node Tryz.func139 trivial trivial) trivial) (BT.all_node Tryz.func142 trivial trivial)) (BT.all_node Tryz.func145 (BT.all_node Tryz.func144 trivial trivial) (BT.all_node Tryz.func146 trivial trivial)))) (BT.all_node Tryz.func163 (BT.all_node Tryz.func152 (BT.all_node Tryz.func150 (BT.all_node Tryz.func149 (BT.all_node Tryz.func148 trivial trivial) trivial) (BT.all_node Tryz.func151 trivial trivial)) (BT.all_node Tryz.func161 (BT.all_node Tryz.func156 (BT.all_node Tryz.func155 trivial trivial) trivial) (BT.all_node Tryz.func162 trivial trivial))) (BT.all_node Tryz.func168 (BT.all_node Tryz.func166 (BT.all_node Tryz.func165 (BT.all_node Tryz.func164 trivial trivial) trivial) (BT.all_node Tryz.func167 trivial trivial)) (BT.all_node Tryz.func170 (BT.all_node Tryz.func169 trivial trivial) (BT.all_node Tryz.func171 trivial trivial))))) (BT.all_node Tryz.func200 (BT.all_node Tryz.func189 (BT.all_node Tryz.func178 (BT.all_node Tryz.func176 (BT.all_node Tryz.func175 (BT.all_node Tryz.func174 trivial trivial) trivial) (BT.all_node Tryz.func177 trivial trivial)) (BT.all_node Tryz.func187 (BT.all_node Tryz.func186 (BT.all_node Tryz.func179 trivial trivial) trivial) (BT.all_node Tryz.func188 trivial trivial))) (BT.all_node Tryz.func194 (BT.all_node Tryz.func192 (BT.all_node Tryz.func191 (BT.all_node Tryz.func190 trivial trivial) trivial) (BT.all_node Tryz.func193 trivial trivial)) (BT.all_node Tryz.func198 (BT.all_node Tryz.func195 trivial trivial) (BT.all_node Tryz.func199 trivial trivial)))) (BT.all_node Tryz.func210 (BT.all_node Tryz.func205 (BT.all_node Tryz.func203 (BT.all_node Tryz.func202 (BT.all_node Tryz.func201 trivial trivial) trivial) (BT.all_node Tryz.func204 trivial trivial)) (BT.all_node Tryz.func208 (BT.all_node Tryz.func207 (BT.all_node Tryz.func206 trivial trivial) trivial) (BT.all_node Tryz.func209 trivial trivial))) (BT.all_node Tryz.func215 (BT.all_node Tryz.func213 (BT.all_node Tryz.func212 (BT.all_node Tryz.func211 trivial trivial) trivial) (BT.all_node Tryz.func214 trivial trivial)) (BT.all_node Tryz.func217 (BT.all_node Tryz.func216 trivial trivial) (BT.all_node Tryz.func218 trivial trivial)))))))
noncomputable def cfg : Cfg := { P := Tryz.prog, ty := fun t => qk5.look t, mode := fun f => match qoZ.look f with | some m => m | none => .imp, frz := fun f r k => qo5 f r k, mask := fun f r => qhP f r qo0, cut := fun f r => qhP f r qpL, tup := fun t => qpz.look t, ext := fun f => qaI f qb4, known := fun f => (qnS.look f).isSome, dat := fun t => (qpK.look t).isSome, inl := fun f => qed f qm0, lift := fun f r => match qhP f r qo1 with | some l => l | none => [], ems := fun t => (qpJ.look t).isSome, ali := fun t => (qpN.look t).isSome, wrt := fun t => (qpu.look t).isSome, bld := fun t => vw.look t }
theorem qqd {fs : List Fact} (hfs : vq cfg fs) {f : Nat} {args : List AV} {v : AV} (m d : Nat) (h : (match yF cfg (fun f => qlS.look f) fs m d (.f f) args [] with | some r => some r.1 | none => none) = some v) : EVs (EV cfg) f args = some v := qpH (fun _ _ h => BT.all_look qoM h) hfs m d h
theorem qgc {fs : List Fact} (hfs : vq cfg fs) {f : Nat} {args : List AV} {v : AV} (m d : Nat) (h : (match yF cfg (fun f => qlS.look f) fs m d (.f f) args [] with | some r => gA (r.1.frz r.1.msIds r.2).fg some | none => none) = some v) : EVf (EV cfg) f args = some v := qpI (fun _ _ h => BT.all_look qoM h) hfs m d h
instance inl_ok : InlOk cfg := InlOk.of qm0 (fun _ => rfl) ⟨⟨rfl, rfl, Tryz.func108, rfl⟩, ⟨⟨rfl, rfl, Tryz.func129, rfl⟩, ⟨⟨rfl, rfl, Tryz.func133, rfl⟩, ⟨⟨rfl, rfl, Tryz.func149, rfl⟩, ⟨⟨rfl, rfl, Tryz.func162, rfl⟩, ⟨⟨rfl, rfl, Tryz.func166, rfl⟩, ⟨⟨rfl, rfl, Tryz.func187, rfl⟩, ⟨⟨rfl, rfl, Tryz.func198, rfl⟩, ⟨⟨rfl, rfl, Tryz.func208, rfl⟩, ⟨⟨rfl, rfl, Tryz.func214, rfl⟩, trivial⟩⟩⟩⟩⟩⟩⟩⟩⟩⟩
end Go.Proofs.YtnjonahoheopnaaGreatDoor
end
section
namespace Go.Av
def cmpS (a b : List UInt8) : Int := if a == b then 0 else if Op.bytesLess a b then -1 else 1
theorem qbs : ∀ a b : List UInt8, Lib.compareBytes a b = cmpS a b
 | [], [] => rfl
 | [], _ :: _ => by simp [Lib.compareBytes, cmpS, Op.bytesLess]
 | _ :: _, [] => by simp [Lib.compareBytes, cmpS, Op.bytesLess]
 | a :: l, b :: m => by
  rw [Lib.compareBytes, qbs l m]
  unfold cmpS
  by_cases h : a = b
  ·subst h
   have : ¬ a < a := by simp
   by_cases h2 : l = m
   ·subst h2; simp
   ·simp [Op.bytesLess, h2]
  ·have h' : (a :: l == b :: m) = false := by simp [h]
   rw [h']
   simp only [qqq, if_false, Op.bytesLess]
   by_cases hlt : a < b
   ·simp [hlt]
   ·have : b < a := by
     have h1 : ¬ a.toNat < b.toNat := hlt
     have h2 : a.toNat ≠ b.toNat := fun e => h (UInt8.toNat.inj e)
     show b.toNat < a.toNat
     omega
    simp [hlt, this, h]
theorem qjd [Lent] {P : Program} {f : FuncId} {fn : Func} (hf : P.funcs[f]? = some fn) (hn : (fn.name == "runtime.NumGoroutine") = false) (hb : fn.body.isNone = true) (hx : Extern.findNext fn = none)
  (he : Extern.find fn = some Extern.BytealgCompare.compare) {args : List AV} {H H' : AH} {r : AV} (hr : qgg args H = some (r, H')) {C : qb} {μ : MMap} {w : World} {vs : Array Value} (ha : qj C μ args vs) (hw : Wld C μ H w) :
  qL P (callFunc f vs) w (qZ C μ H w r H') := by
 unfold qgg at hr
 split at hr
 ·rename_i H0 a b
  cases hr
  obtain ⟨hl, hv⟩ := ha
  obtain ⟨x, y, rfl⟩ : ∃ x y, vs = #[x, y] := by
   obtain ⟨l⟩ := vs
   match l, hl with
   | [x, y], _ => exact ⟨x, y, rfl⟩
  have h0 := hv 0 _ _ rfl rfl
  have h1 := hv 1 _ _ rfl rfl
  cases h0
  cases h1
  have hrun : (callFunc f #[.string ⟨a.toArray⟩, .string ⟨b.toArray⟩]).run P w = .ok (.value (.int .i64 (cmpS a b))) w := by
   unfold callFunc
   simp only [Sem.run_bind, run_program, Result.andThen_ok, hf, hn, hb, qqq, if_false, if_true, run_mark, hx, he, Lib.run_compareString, Sem.run_pure]
   rw [qbs]
  unfold qL
  rw [hrun]
  exact ⟨C, μ, .int _ _, hw, Ext.refl (qqo _)⟩
 ·cases hr
end Go.Av
namespace Go.Proofs.YtnjonahoheopnaaGreatDoor
open Go.Av
theorem qpy : qk5.All fun t ti => tiOf Tryz.prog t = some ti := by
 unfold qk5
 repeat (first | exact trivial | refine BT.all_node (by show tiOf Tryz.prog _ = _; kernel_rfl) ?_ ?_)
theorem qnO : Tryz.prog.funcs.toList.all (fun fn => !(fn.name == "runtime.NumGoroutine")) = true := by kernel_rfl
theorem qnP : Tryz.prog.follows .mixedOrders = true := by kernel_rfl
end Go.Proofs.YtnjonahoheopnaaGreatDoor
end
section
namespace Go.Proofs
open Go.Shelf
def Tryz.lays156_ren : Go.Shelf.Ren := ⟨fun | 156 => 32 | 165 => 67 | 166 => 68 | 169 => 66 | 240 => 116 | 241 => 117 | 276 => 153 | 277 => 154 | n => n, fun | 31 => 57 | 9 => 9 | 3 => 3 | 4 => 4 | 0 => 0 | 20 => 20 | 72 => 102 | 76 => 109 | 70 => 100 | 37 => 92 | 75 => 108 | 127 => 138 | 164 => 168 | 5 => 5 | 80 => 105 | n => n, fun | n => n⟩
theorem Tryz.lays156 : Go.Proofs.Lays.n156 Tryz.prog Tryz.lays156_ren := {
 mixed := by kernel_rfl
 f156 := Tryz.func32.trans (congrArg some (by kernel_rfl))
 f165 := Tryz.func67.trans (congrArg some (by kernel_rfl))
 f166 := Tryz.func68.trans (congrArg some (by kernel_rfl))
 f169 := Tryz.func66.trans (congrArg some (by kernel_rfl))
 f240 := Tryz.func116.trans (congrArg some (by kernel_rfl))
 f241 := Tryz.func117.trans (congrArg some (by kernel_rfl))
 f276 := Tryz.func153.trans (congrArg some (by kernel_rfl))
 f277 := Tryz.func154.trans (congrArg some (by kernel_rfl))
 t0 := Tryz.underlying0
 a0 := Tryz.isAgg0
 z0 := Tryz.sizeOf0
 v0 := Tryz.zeroValue0
 t3 := Tryz.underlying3
 a3 := Tryz.isAgg3
 z3 := Tryz.sizeOf3
 v3 := Tryz.zeroValue3
 t4 := Tryz.underlying4
 a4 := Tryz.isAgg4
 z4 := Tryz.sizeOf4
 v4 := Tryz.zeroValue4
 t9 := Tryz.underlying9
 a9 := Tryz.isAgg9
 z9 := Tryz.sizeOf9
 v9 := Tryz.zeroValue9
 t20 := Tryz.underlying20
 a20 := Tryz.isAgg20
 z20 := Tryz.sizeOf20
 v20 := Tryz.zeroValue20
 t31 := Tryz.underlying57
 a31 := Tryz.isAgg57
 z31 := Tryz.sizeOf57
 v31 := Tryz.zeroValue57
 t37 := Tryz.underlying92
 a37 := Tryz.isAgg92
 z37 := Tryz.sizeOf92
 v37 := Tryz.zeroValue92
 t70 := Tryz.underlying100
 a70 := Tryz.isAgg100
 z70 := Tryz.sizeOf100
 v70 := Tryz.zeroValue100
 t72 := Tryz.underlying102
 a72 := Tryz.isAgg102
 z72 := Tryz.sizeOf102
 v72 := Tryz.zeroValue102
 t75 := Tryz.underlying108
 a75 := Tryz.isAgg108
 z75 := Tryz.sizeOf108
 v75 := Tryz.zeroValue108
 t76 := Tryz.underlying109
 a76 := Tryz.isAgg109
 z76 := Tryz.sizeOf109
 v76 := Tryz.zeroValue109
 t127 := Tryz.underlying138
 a127 := Tryz.isAgg138
 z127 := Tryz.sizeOf138
 v127 := Tryz.zeroValue138
 t164 := Tryz.underlying168
 a164 := Tryz.isAgg168
 z164 := Tryz.sizeOf168
 v164 := Tryz.zeroValue168 }
theorem Tryz.Builder_Extra_156 : Builder.Extra Tryz.prog Tryz.lays156_ren := {
 sizeBuilder := by kernel_rfl
 liesBuilder := by kernel_rfl
 t5 := Tryz.underlying5
 a5 := Tryz.isAgg5
 z5 := Tryz.sizeOf5
 v5 := Tryz.zeroValue5
 infoByte := by kernel_rfl
 cellsByte := by kernel_rfl
 sizeByte := by kernel_rfl
 neB5 := by decide }
open Go.RowKit in
theorem Tryz.strings_Join_none (a : Option Addr) (c : Nat) (sep : ByteArray) (w : World) :
  Calls Tryz.prog 32 #[.slice a 0 c, .string sep] w fun e w' => e = .returned (.string ⟨#[]⟩) ∧ w' = w := Any.strings_Join_none Tryz.lays156 Tryz.Builder_Extra_156 a c sep w
open Go.RowKit in
theorem Tryz.strings_Join (bk o c : Nat) (xs : List ByteArray) (sep : ByteArray) (w : World) (hcells : ∀ (j : Nat) x, xs[j]? = some x → w.cell? ⟨bk, o + j, none⟩ = some (.string x)) (hbk : bk < w.heap.size) (hN : xs.length ≤ 140737488355328) (hcap : xs.length ≤ c) (hlen : (Lib.join (xs.map (·.data.toList)) sep.data.toList).length ≤ 140737488355328) :
  Calls Tryz.prog 32 #[.slice (some ⟨bk, o, none⟩) xs.length c, .string sep] w fun e w' => e = .returned (.string ⟨(Lib.join (xs.map (·.data.toList)) sep.data.toList).toArray⟩) ∧ Below w.heap.size w w' := Any.strings_Join Tryz.lays156 Tryz.Builder_Extra_156 bk o c xs sep w hcells hbk hN hcap hlen
def Tryz.lays137_ren : Go.Shelf.Ren := ⟨fun | 137 => 77 | 217 => 123 | 266 => 157 | n => n, fun | 9 => 9 | 5 => 5 | 3 => 3 | n => n, fun | n => n⟩
theorem Tryz.lays137 : Go.Proofs.Lays.n137 Tryz.prog Tryz.lays137_ren := {
 mixed := by kernel_rfl
 f137 := Tryz.func77.trans (congrArg some (by kernel_rfl))
 f217 := Tryz.func123.trans (congrArg some (by kernel_rfl))
 f266 := Tryz.func157.trans (congrArg some (by kernel_rfl))
 t3 := Tryz.underlying3
 a3 := Tryz.isAgg3
 z3 := Tryz.sizeOf3
 v3 := Tryz.zeroValue3
 t5 := Tryz.underlying5
 a5 := Tryz.isAgg5
 z5 := Tryz.sizeOf5
 v5 := Tryz.zeroValue5
 t9 := Tryz.underlying9
 a9 := Tryz.isAgg9
 z9 := Tryz.sizeOf9
 v9 := Tryz.zeroValue9 }
open Go.RowKit in
theorem Tryz.strings_IndexByte (s : ByteArray) (c : Int) (w : World) :
  Calls Tryz.prog 77 #[.string s, .int .u8 c] w fun e w' => e = .returned (.int .i64 (Lib.indexByte s.data.toList c.toNat.toUInt8)) ∧ w' = w := Any.strings_IndexByte Tryz.lays137 s c w
def Tryz.laysM171_ren : Go.Shelf.Ren := ⟨fun | 171 => 29 | 243 => 63 | 246 => 107 | 283 => 145 | 284 => 146 | 285 => 147 | 286 => 148 | 129 => 176 | 317 => 175 | 318 => 177 | 319 => 178 | 320 => 179 | 337 => 194 | 338 => 195 | n => n, fun | 3 => 3 | 9 => 9 | 2 => 2 | 4 => 4 | 171 => 162 | 0 => 0 | 53 => 141 | 37 => 92 | 5 => 5 | 173 => 165 | 212 => 192 | 51 => 193 | 20 => 20 | 213 => 194 | 46 => 167 | 232 => 216 | 233 => 217 | n => n, fun | 17 => 1 | 18 => 4 | 19 => 5 | n => n⟩
theorem Tryz.laysM171 : Go.Proofs.LaysM.n171 Tryz.prog Tryz.laysM171_ren := {
 mixed := by kernel_rfl
 f129 := Tryz.func176.trans (congrArg some (by kernel_rfl))
 f171 := Tryz.func29.trans (congrArg some (by kernel_rfl))
 f243 := Tryz.func63.trans (congrArg some (by kernel_rfl))
 f246 := Tryz.func107.trans (congrArg some (by kernel_rfl))
 f283 := Tryz.func145.trans (congrArg some (by kernel_rfl))
 f284 := Tryz.func146.trans (congrArg some (by kernel_rfl))
 f285 := Tryz.func147.trans (congrArg some (by kernel_rfl))
 f286 := Tryz.func148.trans (congrArg some (by kernel_rfl))
 f317 := Tryz.func175.trans (congrArg some (by kernel_rfl))
 f318 := Tryz.func177.trans (congrArg some (by kernel_rfl))
 f319 := Tryz.func178.trans (congrArg some (by kernel_rfl))
 f320 := Tryz.func179.trans (congrArg some (by kernel_rfl))
 f337 := Tryz.func194.trans (congrArg some (by kernel_rfl))
 f338 := Tryz.func195.trans (congrArg some (by kernel_rfl))
 t0 := Tryz.underlying0
 a0 := Tryz.isAgg0
 z0 := Tryz.sizeOf0
 v0 := Tryz.zeroValue0
 t2 := Tryz.underlying2
 a2 := Tryz.isAgg2
 z2 := Tryz.sizeOf2
 v2 := Tryz.zeroValue2
 t3 := Tryz.underlying3
 a3 := Tryz.isAgg3
 z3 := Tryz.sizeOf3
 v3 := Tryz.zeroValue3
 t4 := Tryz.underlying4
 a4 := Tryz.isAgg4
 z4 := Tryz.sizeOf4
 v4 := Tryz.zeroValue4
 t5 := Tryz.underlying5
 a5 := Tryz.isAgg5
 z5 := Tryz.sizeOf5
 v5 := Tryz.zeroValue5
 t9 := Tryz.underlying9
 a9 := Tryz.isAgg9
 z9 := Tryz.sizeOf9
 v9 := Tryz.zeroValue9
 t20 := Tryz.underlying20
 a20 := Tryz.isAgg20
 z20 := Tryz.sizeOf20
 v20 := Tryz.zeroValue20
 t37 := Tryz.underlying92
 a37 := Tryz.isAgg92
 z37 := Tryz.sizeOf92
 v37 := Tryz.zeroValue92
 t46 := Tryz.underlying167
 a46 := Tryz.isAgg167
 z46 := Tryz.sizeOf167
 v46 := Tryz.zeroValue167
 t51 := Tryz.underlying193
 a51 := Tryz.isAgg193
 z51 := Tryz.sizeOf193
 v51 := Tryz.zeroValue193
 t53 := Tryz.underlying141
 a53 := Tryz.isAgg141
 z53 := Tryz.sizeOf141
 v53 := Tryz.zeroValue141
 t171 := Tryz.underlying162
 a171 := Tryz.isAgg162
 z171 := Tryz.sizeOf162
 v171 := Tryz.zeroValue162
 t173 := Tryz.underlying165
 a173 := Tryz.isAgg165
 z173 := Tryz.sizeOf165
 v173 := Tryz.zeroValue165
 t212 := Tryz.underlying192
 a212 := Tryz.isAgg192
 z212 := Tryz.sizeOf192
 v212 := Tryz.zeroValue192
 t213 := Tryz.underlying194
 a213 := Tryz.isAgg194
 z213 := Tryz.sizeOf194
 t232 := Tryz.underlying216
 a232 := Tryz.isAgg216
 z232 := Tryz.sizeOf216
 v232 := Tryz.zeroValue216
 t233 := Tryz.underlying217
 a233 := Tryz.isAgg217
 z233 := Tryz.sizeOf217
 v233 := Tryz.zeroValue217
 g17 := by kernel_rfl
 g18 := by kernel_rfl
 g19 := by kernel_rfl
 i0 := by kernel_rfl
 i2 := by kernel_rfl
 i3 := by kernel_rfl
 i4 := by kernel_rfl
 i5 := by kernel_rfl
 i9 := by kernel_rfl
 i20 := by kernel_rfl
 i37 := by kernel_rfl
 i46 := by kernel_rfl
 i51 := by kernel_rfl
 i53 := by kernel_rfl
 i171 := by kernel_rfl
 i173 := by kernel_rfl
 i212 := by kernel_rfl
 i232 := by kernel_rfl
 i233 := by kernel_rfl
 m17 := by kernel_rfl
 m18 := by kernel_rfl
 m19 := by kernel_rfl }
open Go.RowKit Go.Sort Go.Lib in
theorem Tryz.strconv_Itoa (n : Int) (h0 : -9223372036854775808 ≤ n) (h1 : n ≤ 9223372036854775807) (w : World) (htab : Lib.TabIs Tryz.prog w "internal/strconv.uint64pow10" .u64 Lib.pow10Tab) :
  Calls Tryz.prog 29 #[.int .i64 n] w fun e w' => e = .returned (.string ⟨(Lib.itoa n).toArray⟩) ∧ ∃ k os, w' = grow (w.drewN k) os := Any.strconv_Itoa Tryz.laysM171 n h0 h1 w htab
def Tryz.laysPu14_ren : Go.Shelf.Ren := ⟨fun | 14 => 124 | 16 => 158 | 17 => 159 | 19 => 180 | 20 => 181 | 21 => 182 | 22 => 183 | 23 => 184 | 24 => 185 | 25 => 196 | 27 => 29 | 26 => 197 | 28 => 63 | 29 => 107 | 30 => 145 | 31 => 146 | 32 => 147 | 33 => 148 | 35 => 176 | 34 => 175 | 36 => 177 | 37 => 178 | 38 => 179 | 39 => 194 | 40 => 195 | n => n, fun | 9 => 9 | 3 => 3 | 22 => 141 | 24 => 108 | 25 => 142 | 4 => 4 | 34 => 196 | 5 => 5 | 36 => 167 | 37 => 92 | 0 => 0 | 39 => 198 | 21 => 21 | 44 => 210 | 47 => 138 | 50 => 220 | 48 => 218 | 2 => 2 | 52 => 162 | 55 => 165 | 59 => 192 | 60 => 193 | 20 => 20 | 61 => 194 | 65 => 216 | 66 => 217 | 67 => 105 | n => n, fun | 0 => 2 | 1 => 3 | 2 => 1 | 3 => 4 | 4 => 5 | n => n⟩
theorem Tryz.laysPu14 : Go.Proofs.LaysPu.n14 Tryz.prog Tryz.laysPu14_ren := {
 mixed := by kernel_rfl
 f14 := Tryz.func124.trans (congrArg some (by kernel_rfl))
 f16 := Tryz.func158.trans (congrArg some (by kernel_rfl))
 f17 := Tryz.func159.trans (congrArg some (by kernel_rfl))
 f19 := Tryz.func180.trans (congrArg some (by kernel_rfl))
 f20 := Tryz.func181.trans (congrArg some (by kernel_rfl))
 f21 := Tryz.func182.trans (congrArg some (by kernel_rfl))
 f22 := Tryz.func183.trans (congrArg some (by kernel_rfl))
 f23 := Tryz.func184.trans (congrArg some (by kernel_rfl))
 f24 := Tryz.func185.trans (congrArg some (by kernel_rfl))
 f25 := Tryz.func196.trans (congrArg some (by kernel_rfl))
 f26 := Tryz.func197.trans (congrArg some (by kernel_rfl))
 f27 := Tryz.func29.trans (congrArg some (by kernel_rfl))
 f28 := Tryz.func63.trans (congrArg some (by kernel_rfl))
 f29 := Tryz.func107.trans (congrArg some (by kernel_rfl))
 f30 := Tryz.func145.trans (congrArg some (by kernel_rfl))
 f31 := Tryz.func146.trans (congrArg some (by kernel_rfl))
 f32 := Tryz.func147.trans (congrArg some (by kernel_rfl))
 f33 := Tryz.func148.trans (congrArg some (by kernel_rfl))
 f34 := Tryz.func175.trans (congrArg some (by kernel_rfl))
 f35 := Tryz.func176.trans (congrArg some (by kernel_rfl))
 f36 := Tryz.func177.trans (congrArg some (by kernel_rfl))
 f37 := Tryz.func178.trans (congrArg some (by kernel_rfl))
 f38 := Tryz.func179.trans (congrArg some (by kernel_rfl))
 f39 := Tryz.func194.trans (congrArg some (by kernel_rfl))
 f40 := Tryz.func195.trans (congrArg some (by kernel_rfl))
 t0 := Tryz.underlying0
 a0 := Tryz.isAgg0
 z0 := Tryz.sizeOf0
 v0 := Tryz.zeroValue0
 i0 := by kernel_rfl
 t2 := Tryz.underlying2
 a2 := Tryz.isAgg2
 z2 := Tryz.sizeOf2
 v2 := Tryz.zeroValue2
 i2 := by kernel_rfl
 t3 := Tryz.underlying3
 a3 := Tryz.isAgg3
 z3 := Tryz.sizeOf3
 v3 := Tryz.zeroValue3
 i3 := by kernel_rfl
 t4 := Tryz.underlying4
 a4 := Tryz.isAgg4
 z4 := Tryz.sizeOf4
 v4 := Tryz.zeroValue4
 i4 := by kernel_rfl
 t5 := Tryz.underlying5
 a5 := Tryz.isAgg5
 z5 := Tryz.sizeOf5
 v5 := Tryz.zeroValue5
 i5 := by kernel_rfl
 t9 := Tryz.underlying9
 a9 := Tryz.isAgg9
 z9 := Tryz.sizeOf9
 v9 := Tryz.zeroValue9
 i9 := by kernel_rfl
 t20 := Tryz.underlying20
 a20 := Tryz.isAgg20
 z20 := Tryz.sizeOf20
 v20 := Tryz.zeroValue20
 i20 := by kernel_rfl
 t21 := Tryz.underlying21
 a21 := Tryz.isAgg21
 z21 := Tryz.sizeOf21
 v21 := Tryz.zeroValue21
 i21 := by kernel_rfl
 t22 := Tryz.underlying141
 a22 := Tryz.isAgg141
 z22 := Tryz.sizeOf141
 v22 := Tryz.zeroValue141
 i22 := by kernel_rfl
 t24 := Tryz.underlying108
 a24 := Tryz.isAgg108
 z24 := Tryz.sizeOf108
 v24 := Tryz.zeroValue108
 i24 := by kernel_rfl
 t25 := Tryz.underlying142
 a25 := Tryz.isAgg142
 z25 := Tryz.sizeOf142
 v25 := Tryz.zeroValue142
 i25 := by kernel_rfl
 t34 := Tryz.underlying196
 a34 := Tryz.isAgg196
 z34 := Tryz.sizeOf196
 v34 := Tryz.zeroValue196
 i34 := by kernel_rfl
 c34 := by kernel_rfl
 t36 := Tryz.underlying167
 a36 := Tryz.isAgg167
 z36 := Tryz.sizeOf167
 v36 := Tryz.zeroValue167
 i36 := by kernel_rfl
 t37 := Tryz.underlying92
 a37 := Tryz.isAgg92
 z37 := Tryz.sizeOf92
 v37 := Tryz.zeroValue92
 i37 := by kernel_rfl
 t39 := Tryz.underlying198
 a39 := Tryz.isAgg198
 z39 := Tryz.sizeOf198
 v39 := Tryz.zeroValue198
 i39 := by kernel_rfl
 t44 := Tryz.underlying210
 a44 := Tryz.isAgg210
 z44 := Tryz.sizeOf210
 v44 := Tryz.zeroValue210
 i44 := by kernel_rfl
 t47 := Tryz.underlying138
 a47 := Tryz.isAgg138
 z47 := Tryz.sizeOf138
 v47 := Tryz.zeroValue138
 i47 := by kernel_rfl
 t48 := Tryz.underlying218
 a48 := Tryz.isAgg218
 z48 := Tryz.sizeOf218
 v48 := Tryz.zeroValue218
 i48 := by kernel_rfl
 t50 := Tryz.underlying220
 a50 := Tryz.isAgg220
 z50 := Tryz.sizeOf220
 v50 := Tryz.zeroValue220
 i50 := by kernel_rfl
 t52 := Tryz.underlying162
 a52 := Tryz.isAgg162
 z52 := Tryz.sizeOf162
 v52 := Tryz.zeroValue162
 i52 := by kernel_rfl
 t55 := Tryz.underlying165
 a55 := Tryz.isAgg165
 z55 := Tryz.sizeOf165
 v55 := Tryz.zeroValue165
 i55 := by kernel_rfl
 t59 := Tryz.underlying192
 a59 := Tryz.isAgg192
 z59 := Tryz.sizeOf192
 v59 := Tryz.zeroValue192
 i59 := by kernel_rfl
 t60 := Tryz.underlying193
 a60 := Tryz.isAgg193
 z60 := Tryz.sizeOf193
 v60 := Tryz.zeroValue193
 i60 := by kernel_rfl
 t61 := Tryz.underlying194
 a61 := Tryz.isAgg194
 z61 := Tryz.sizeOf194
 t65 := Tryz.underlying216
 a65 := Tryz.isAgg216
 z65 := Tryz.sizeOf216
 v65 := Tryz.zeroValue216
 i65 := by kernel_rfl
 t66 := Tryz.underlying217
 a66 := Tryz.isAgg217
 z66 := Tryz.sizeOf217
 v66 := Tryz.zeroValue217
 i66 := by kernel_rfl
 t67 := Tryz.underlying105
 a67 := Tryz.isAgg105
 z67 := Tryz.sizeOf105
 v67 := Tryz.zeroValue105
 i67 := by kernel_rfl
 g0 := by kernel_rfl
 m0 := by kernel_rfl
 g1 := by kernel_rfl
 m1 := by kernel_rfl
 g2 := by kernel_rfl
 m2 := by kernel_rfl
 g3 := by kernel_rfl
 m3 := by kernel_rfl
 g4 := by kernel_rfl
 m4 := by kernel_rfl }
open Go.RowKit in
theorem Tryz.strconv_ParseUint_10_at64_ok (s : ByteArray) (hmax : s.size ≤ 9223372036854775806) (u : Nat) (h : Lib.parseUintB 64 s.data.toList = .ok u) (w : World) :
  Calls Tryz.prog 124 #[.string s, .int .i64 10, .int .i64 64] w fun e w' => e = .returned (.tuple #[.int .u64 u, .nilIface]) ∧ (w' = w ∨ w' = Lib.bytesWorld w 5 s) := Any.strconv_ParseUint_10_at64_ok Tryz.laysPu14 s hmax u h w
open Go.RowKit in
theorem Tryz.strconv_ParseUint_10_at64_syntax (s : ByteArray) (hlim : s.size ≤ 281474976710656) (h : Lib.parseUintB 64 s.data.toList = Go.Lib.NumEnd.syntax) (ev : Value) (w : World) (hv : w.cell? ⟨2, 0, none⟩ = some ev) (hev : ev = .nilIface ∨ ∃ te pe, ev = .iface te pe) :
  Calls Tryz.prog 124 #[.string s, .int .i64 10, .int .i64 64] w fun e w' => ∃ N, e = .returned (.tuple #[.int .u64 0, .iface 198 (.pointer (some ⟨N, 0, none⟩))]) ∧ w.heap.size ≤ N ∧ w'.heap[N]? = some (.cells #[.string ⟨#[80, 97, 114, 115, 101, 85, 105, 110, 116]⟩, .string s, ev] 210 (0, 0)) ∧ Below w.heap.size w w' := Any.strconv_ParseUint_10_at64_syntax Tryz.laysPu14 s hlim h ev w hv hev
open Go.RowKit in
theorem Tryz.strconv_ParseUint_10_at64_range (s : ByteArray) (hlim : s.size ≤ 281474976710656) (h : Lib.parseUintB 64 s.data.toList = .range) (ev : Value) (w : World) (hv : w.cell? ⟨3, 0, none⟩ = some ev) (hev : ev = .nilIface ∨ ∃ te pe, ev = .iface te pe) :
  Calls Tryz.prog 124 #[.string s, .int .i64 10, .int .i64 64] w fun e w' => ∃ N, e = .returned (.tuple #[.int .u64 18446744073709551615, .iface 198 (.pointer (some ⟨N, 0, none⟩))]) ∧ w.heap.size ≤ N ∧ w'.heap[N]? = some (.cells #[.string ⟨#[80, 97, 114, 115, 101, 85, 105, 110, 116]⟩, .string s, ev] 210 (0, 0)) ∧ Below w.heap.size w w' := Any.strconv_ParseUint_10_at64_range Tryz.laysPu14 s hlim h ev w hv hev
def Tryz.lays144_ren : Go.Shelf.Ren := ⟨fun | 144 => 59 | 143 => 105 | 219 => 144 | 217 => 123 | 225 => 172 | 224 => 173 | 267 => 174 | 266 => 157 | 314 => 193 | n => n, fun | 9 => 9 | 4 => 4 | 3 => 3 | 5 => 5 | 46 => 167 | 146 => 206 | 51 => 193 | n => n, fun | 1 => 0 | n => n⟩
theorem Tryz.lays144 : Go.Proofs.Lays.n144 Tryz.prog Tryz.lays144_ren := {
 mixed := by kernel_rfl
 f143 := Tryz.func105.trans (congrArg some (by kernel_rfl))
 f144 := Tryz.func59.trans (congrArg some (by kernel_rfl))
 f217 := Tryz.func123.trans (congrArg some (by kernel_rfl))
 f219 := Tryz.func144.trans (congrArg some (by kernel_rfl))
 f224 := Tryz.func173.trans (congrArg some (by kernel_rfl))
 f225 := Tryz.func172.trans (congrArg some (by kernel_rfl))
 f266 := Tryz.func157.trans (congrArg some (by kernel_rfl))
 f267 := Tryz.func174.trans (congrArg some (by kernel_rfl))
 f314 := Tryz.func193.trans (congrArg some (by kernel_rfl))
 t3 := Tryz.underlying3
 a3 := Tryz.isAgg3
 z3 := Tryz.sizeOf3
 v3 := Tryz.zeroValue3
 t4 := Tryz.underlying4
 a4 := Tryz.isAgg4
 z4 := Tryz.sizeOf4
 v4 := Tryz.zeroValue4
 t5 := Tryz.underlying5
 a5 := Tryz.isAgg5
 z5 := Tryz.sizeOf5
 v5 := Tryz.zeroValue5
 t9 := Tryz.underlying9
 a9 := Tryz.isAgg9
 z9 := Tryz.sizeOf9
 v9 := Tryz.zeroValue9
 t46 := Tryz.underlying167
 a46 := Tryz.isAgg167
 z46 := Tryz.sizeOf167
 v46 := Tryz.zeroValue167
 t51 := Tryz.underlying193
 a51 := Tryz.isAgg193
 z51 := Tryz.sizeOf193
 v51 := Tryz.zeroValue193
 t146 := Tryz.underlying206
 a146 := Tryz.isAgg206
 z146 := Tryz.sizeOf206
 v146 := Tryz.zeroValue206
 g1 := by kernel_rfl }
open Go.RowKit Go.Lib in
theorem Tryz.strings_Contains (s sub : ByteArray) (m : Int) (w : World) (hs : s.size < 4294967281) (hm : w.cell? ⟨0, 0, none⟩ = some (.int .i64 m)) :
  Calls Tryz.prog 59 #[.string s, .string sub] w fun e w' => e = .returned (.bool (Lib.contains s.data.toList sub.data.toList)) ∧ w' = w := Any.strings_Contains Tryz.lays144 s sub m w hs hm
def Tryz.laysM144_ren : Go.Shelf.Ren := ⟨fun | 144 => 59 | 143 => 105 | 219 => 144 | 217 => 123 | 225 => 172 | 224 => 173 | 267 => 174 | 266 => 157 | 314 => 193 | n => n, fun | 9 => 9 | 4 => 4 | 3 => 3 | 5 => 5 | 46 => 167 | 146 => 206 | 51 => 193 | n => n, fun | 1 => 0 | n => n⟩
theorem Tryz.laysM144 : Go.Proofs.LaysM.n144 Tryz.prog Tryz.laysM144_ren := {
 mixed := by kernel_rfl
 f143 := Tryz.func105.trans (congrArg some (by kernel_rfl))
 f144 := Tryz.func59.trans (congrArg some (by kernel_rfl))
 f217 := Tryz.func123.trans (congrArg some (by kernel_rfl))
 f219 := Tryz.func144.trans (congrArg some (by kernel_rfl))
 f224 := Tryz.func173.trans (congrArg some (by kernel_rfl))
 f225 := Tryz.func172.trans (congrArg some (by kernel_rfl))
 f266 := Tryz.func157.trans (congrArg some (by kernel_rfl))
 f267 := Tryz.func174.trans (congrArg some (by kernel_rfl))
 f314 := Tryz.func193.trans (congrArg some (by kernel_rfl))
 t3 := Tryz.underlying3
 a3 := Tryz.isAgg3
 z3 := Tryz.sizeOf3
 v3 := Tryz.zeroValue3
 t4 := Tryz.underlying4
 a4 := Tryz.isAgg4
 z4 := Tryz.sizeOf4
 v4 := Tryz.zeroValue4
 t5 := Tryz.underlying5
 a5 := Tryz.isAgg5
 z5 := Tryz.sizeOf5
 v5 := Tryz.zeroValue5
 t9 := Tryz.underlying9
 a9 := Tryz.isAgg9
 z9 := Tryz.sizeOf9
 v9 := Tryz.zeroValue9
 t46 := Tryz.underlying167
 a46 := Tryz.isAgg167
 z46 := Tryz.sizeOf167
 v46 := Tryz.zeroValue167
 t51 := Tryz.underlying193
 a51 := Tryz.isAgg193
 z51 := Tryz.sizeOf193
 v51 := Tryz.zeroValue193
 t146 := Tryz.underlying206
 a146 := Tryz.isAgg206
 z146 := Tryz.sizeOf206
 v146 := Tryz.zeroValue206
 g1 := by kernel_rfl
 i3 := by kernel_rfl
 i4 := by kernel_rfl
 i5 := by kernel_rfl
 i9 := by kernel_rfl
 i46 := by kernel_rfl
 i51 := by kernel_rfl
 i146 := by kernel_rfl
 m1 := by kernel_rfl
 s1_3 := fun w h => Go.Proofs.cell_of_shapedOpen_int (zero := #[.int .i64 0]) (t := 3) h (of_decide_eq_true (by kernel_rfl)) (by kernel_rfl) rfl (by kernel_rfl) (by kernel_rfl) Tryz.underlying3 }
end Go.Proofs
end
section
namespace Go.Proofs.YtnjonahoheopnaaGreatDoor
open Go.Av Go.RowKit
theorem vt {P : Program} {f : FuncId} {fn : Func} {c : Code} (hf : P.funcs[f]? = some fn) (hn : (fn.name == "runtime.NumGoroutine") = false) (hb : fn.body = some c) {vs : Array Value} {w : World} {Q : Value → World → Prop}
  (h : Calls P f vs w fun e w' => ∃ v, e = .returned v ∧ Q v w') : qL P (callFunc f vs) w Q := by
 unfold qL
 rw [qfu hf hn hb vs w]
 exact callsIn_wide.2 h
theorem qaS {vs : Array Value} (h : 2 = vs.size) : ∃ x y, vs = #[x, y] := by
 obtain ⟨l⟩ := vs
 match l, h with
 | [x, y], _ => exact ⟨x, y, rfl⟩
theorem qpE [Lent] {args : List AV} {H H' : AH} {r : AV} {C : qb} {μ : MMap} {w : World} {vs : Array Value} (hr : qdJ args H = some (r, H')) (ha : qj C μ args vs) (hw : Wld C μ H w) :
  qL Tryz.prog (callFunc 77 vs) w (qZ C μ H w r H') := by
 unfold qdJ at hr
 split at hr
 case h_2 => cases hr
 rename_i s c
 cases hr
 obtain ⟨hl, hv⟩ := ha
 obtain ⟨x, y, rfl⟩ := qaS hl
 have h0 := hv 0 _ _ rfl rfl
 have h1 := hv 1 _ _ rfl rfl
 cases h0
 cases h1
 refine vt Tryz.func77 (by rfl) rfl ((Tryz.strings_IndexByte ⟨s.toArray⟩ c w).mono fun e w' ⟨e1, e2⟩ => ⟨_, e1, ?_⟩)
 subst e2
 exact ⟨C, μ, .int _ _, hw, Ext.refl (qqo _)⟩
theorem qkv [Lent] (hm : ∃ m, Lent.l 0 0 = some (.int .i64 m)) {args : List AV} {H H' : AH} {r : AV} {C : qb} {μ : MMap} {w : World} {vs : Array Value} (hr : yZ args H = some (r, H')) (ha : qj C μ args vs) (hw : Wld C μ H w) :
  qL Tryz.prog (callFunc 59 vs) w (qZ C μ H w r H') := by
 unfold yZ at hr
 split at hr
 case h_2 => cases hr
 rename_i s t
 split at hr
 case isFalse => cases hr
 rename_i hlt
 cases hr
 obtain ⟨hl, hv⟩ := ha
 obtain ⟨x, y, rfl⟩ := qaS hl
 have h0 := hv 0 _ _ rfl rfl
 have h1 := hv 1 _ _ rfl rfl
 cases h0
 cases h1
 obtain ⟨m, hm⟩ := hm
 refine vt Tryz.func59 (by rfl) rfl ((Tryz.strings_Contains ⟨s.toArray⟩ ⟨t.toArray⟩ m w (by simpa [ByteArray.size] using hlt) (hw.lnt.1 0 0 _ hm).1).mono fun e w' ⟨e1, e2⟩ => ⟨_, e1, ?_⟩)
 subst e2
 exact ⟨C, μ, .bool _, hw, Ext.refl (qqo _)⟩
theorem qau [Lent] {H : AH} {r : AV} {C : qb} {μ : MMap} {w w' : World} {v : Value} (hw : Wld C μ H w) (hb : Below w.heap.size w w') (hr : Rep C μ r v) : qZ C μ H w r H v w' :=
 ⟨C, μ, hr, hw.world hb.size (fun b hlt => hb.block b hlt), ⟨hb.os, hb.tape, hb.output, hb.size, fun _ _ _ h => h, fun _ m _ h => ⟨m, h, .refl m⟩, fun b hlt hl => ⟨hb.block b hlt, hl, rfl⟩, qqo _⟩⟩
def qhZ [Lent] (g : Nat) : Prop := ∃ ev, Lent.l g 0 = some ev ∧ (ev = .nilIface ∨ ∃ te pe, ev = .iface te pe)
theorem qnK [Lent] (hS : qhZ 2) (hR : qhZ 3) {args : List AV} {H H' : AH} {r : AV} {C : qb} {μ : MMap} {w : World} {vs : Array Value} (hr : qjc args H = some (r, H')) (ha : qj C μ args vs) (hw : Wld C μ H w) :
  qL Tryz.prog (callFunc 124 vs) w (qZ C μ H w r H') := by
 unfold qjc at hr
 split at hr
 case h_2 => cases hr
 rename_i s
 split at hr
 case isFalse => cases hr
 rename_i hlt
 obtain ⟨hl, hv⟩ := ha
 obtain ⟨x, y, z, rfl⟩ : ∃ x y z, vs = #[x, y, z] := by
  obtain ⟨l⟩ := vs
  match l, hl with
  | [x, y, z], _ => exact ⟨x, y, z, rfl⟩
 have h0 := hv 0 _ _ rfl rfl
 have h1 := hv 1 _ _ rfl rfl
 have h2 := hv 2 _ _ rfl rfl
 cases h0
 cases h1
 cases h2
 have hsz : (⟨s.toArray⟩ : ByteArray).size ≤ 281474976710656 := by simpa [ByteArray.size] using hlt
 split at hr
 ·rename_i u hu
  cases hr
  refine vt Tryz.func124 (by rfl) rfl ((Tryz.strconv_ParseUint_10_at64_ok ⟨s.toArray⟩ (by omega) u hu w).mono fun e w' ⟨e1, e2⟩ => ⟨_, e1, ?_⟩)
  have hrep : Rep C μ (.tup [.int .u64 u, .nilI]) (.tuple #[.int .u64 u, .nilIface]) := Rep.tup _ [.int .u64 u, .nilIface] rfl fun i a v ha hv => by
   rcases i with _ | _ | i
   ·simp at ha hv; subst ha; subst hv; exact .int _ _
   ·simp at ha hv; subst ha; subst hv; exact .nilI
   ·simp at ha
  rcases e2 with rfl | rfl
  ·exact ⟨C, μ, hrep, hw, Ext.refl (qqo _)⟩
  ·exact qau hw (Lib.bytesWorld_below _ _ _) hrep
 all_goals
  rename_i hu
  cases hr
  obtain ⟨ev, hS, hS2⟩ := hS
  obtain ⟨er, hR, hR2⟩ := hR
  first
   | refine vt Tryz.func124 (by rfl) rfl ((Tryz.strconv_ParseUint_10_at64_syntax ⟨s.toArray⟩ hsz hu ev w (hw.lnt.1 _ _ _ hS).1 hS2).mono fun e w' ⟨N, e1, _, _, e2⟩ => ⟨_, e1, ?_⟩)
   | refine vt Tryz.func124 (by rfl) rfl ((Tryz.strconv_ParseUint_10_at64_range ⟨s.toArray⟩ hsz hu er w (hw.lnt.1 _ _ _ hR).1 hR2).mono fun e w' ⟨N, e1, _, _, e2⟩ => ⟨_, e1, ?_⟩)
  refine qau hw e2 (Rep.tup _ [_, _] rfl fun i a v ha hv => ?_)
  rcases i with _ | _ | i
  ·simp at ha hv; subst ha; subst hv; exact .int _ _
  ·simp at ha hv; subst ha; subst hv; exact .ifc _ _ _ (.junk _)
  ·simp at ha
end Go.Proofs.YtnjonahoheopnaaGreatDoor
end
section
namespace Go.Av
variable {P : Program} {C : qb} {μ : MMap} {H H' : AH} {w w' : World}
theorem Wld.grow [Lent] (h : Wld C μ H w) {id : Nat} {blk blk' : ABlk} {m m' : MI} (hi : H[id]? = some blk) (hl : blk.live = true) (hl' : blk'.live = true) (hm : μ id = some m) (hmm : m.le m') (hsz : w.heap.size ≤ w'.heap.size)
  (hnew : ∀ x, m'.has x → m.has x ∨ (w.heap.size ≤ x ∧ x < w'.heap.size)) (hb : ∀ k, k < w.heap.size → ¬ m.has k → w'.heap[k]? = w.heap[k]?) (hr : q4 C (upd μ id m') w' m' blk') (hfr : blk'.Free)
  (ho : w'.os = w.os) (ht : w'.tape = w.tape) (hu : w'.output = w.output) :
  Wld C (upd μ id m') (H.set id blk') w' ∧ Ext H.length C μ H w C (upd μ id m') (H.set id blk') w' := by
 have hlen : id < H.length := (qqj.1 hi).1
 have hself : upd μ id m' id = some m' := by unfold upd; rw [if_pos rfl]
 have hoth : ∀ j, j ≠ id → upd μ id m' j = μ j := fun j hj => by unfold upd; rw [if_neg hj]
 have hmu : MLe μ (upd μ id m') := by
  intro j mj hj
  by_cases e : j = id
  ·subst e; rw [hm] at hj; cases hj; exact ⟨m', hself, hmm⟩
  ·exact ⟨mj, by rw [hoth j e]; exact hj, .refl _⟩
 have hcell : ∀ b o v, w.cell? ⟨b, o, none⟩ = some v → ¬ m.has b → w'.cell? ⟨b, o, none⟩ = some v ∧ w'.frozen? ⟨b, o, none⟩ = w.frozen? ⟨b, o, none⟩ := by
  intro b o v hc hnb
  have hlt : b < w.heap.size := World.block_lt_of_cell? w _ hc
  have := hb b hlt hnb
  exact ⟨by simp only [World.cell?, this] at hc ⊢; exact hc, by simp only [World.frozen?, this]⟩
 have aux : ∀ (j : Nat) bj, (H.set id blk')[j]? = some bj → (j = id ∧ bj = blk') ∨ (j ≠ id ∧ H[j]? = some bj) := by
  intro j bj hj
  rw [qqu] at hj
  split at hj
  ·rename_i e; subst e
   try rw [if_pos hlen] at hj
   cases hj; exact .inl ⟨rfl, rfl⟩
  ·rename_i e; exact .inr ⟨fun e' => e e'.symm, hj⟩
 have apart : ∀ (j : Nat) bj mj, j ≠ id → H[j]? = some bj → bj.live = true → μ j = some mj → ∀ x, mj.has x → x < w.heap.size ∧ ¬ m.has x := by
  intro j bj mj hne e hbl f1 x hx
  exact ⟨(h.liveH e hbl f1 x hx).1, fun he => hne (h.inj j id bj _ mj m e hi hbl hl f1 hm x hx he)⟩
 refine ⟨⟨fun b o v hc => ?_, fun j mj hj => ?_, fun j hj => ?_, fun j b hj hbl => ?_, fun j d sz rs hj => ?_, fun i i' b b' m1 m2 e1 e2 e3 e4 e5 e6 x e7 e8 => ?_, h.free.set hfr, ?_⟩,
  ⟨ho, ht, hu, hsz, fun _ _ _ h => h, fun i mi _ hmi => hmu i mi hmi, fun b hlt hnl => ?_, by simp⟩⟩
 ·exact (hcell b o v (h.cl b o v hc) fun e => by rw [(h.liveH hi hl hm b e).2.1 o] at hc; cases hc).1
 ·simp only [List.length_set]
  by_cases e : j = id
  ·subst e; exact hlen
  ·rw [hoth j e] at hj; exact h.dom j mj hj
 ·rcases aux j _ hj with ⟨_, e⟩ | ⟨hne, e⟩
  ·rw [← e] at hl'; cases hl'
  ·rw [hoth j hne]; exact h.res j e
 ·rcases aux j b hj with ⟨rfl, rfl⟩ | ⟨hne, e⟩
  ·refine ⟨fun hn => (by rw [hself] at hn; cases hn), fun mj hmj => ?_⟩
   rw [hself] at hmj; cases hmj
   refine ⟨fun x hx => ?_, hr⟩
   rcases hnew x hx with hx | ⟨hx1, hx2⟩
   ·obtain ⟨q1, q2⟩ := h.liveH hi hl hm x hx
    exact ⟨Nat.lt_of_lt_of_le q1 hsz, q2⟩
   ·refine ⟨hx2, fun o => ?_, h.lent_none hx1⟩
    cases hc : C x o with
    | none => rfl
    | some v => exact absurd (h.block_lt hc) (by omega)
  ·rw [hoth j hne]
   refine ⟨(h.live j b e hbl).1, fun mj f1 => ?_⟩
   obtain ⟨f2, f4⟩ := (h.live j b e hbl).2 mj f1
   have q := fun x (hx : mj.has x) => apart j b mj hne e hbl f1 x hx
   exact ⟨fun x hx => ⟨Nat.lt_of_lt_of_le (f2 x hx).1 hsz, (f2 x hx).2⟩, f4.monoG (fun _ _ _ h => h) hmu (fun x hx => hb x (q x hx).1 (q x hx).2)⟩
 ·rcases aux j _ hj with ⟨_, e⟩ | ⟨hne, e⟩
  ·rw [← e] at hl'; cases hl'
  ·rw [hoth j hne]
   refine ⟨(h.froz j d sz rs e).1, fun mj f1 => ?_⟩
   exact ((h.froz j d sz rs e).2 mj f1).monoG (fun _ _ _ h => h) hmu (.refl _)
 ·have cross : ∀ (j : Nat) bj mj, j ≠ id → H[j]? = some bj → bj.live = true → μ j = some mj → ∀ x, m'.has x → ¬ mj.has x := by
   intro j bj mj hne e hbl f1 x hx0 hxj
   obtain ⟨f2, f3⟩ := apart j bj mj hne e hbl f1 x hxj
   rcases hnew x hx0 with hx | ⟨hx1, _⟩
   ·exact f3 hx
   ·omega
  rcases aux i b e1 with ⟨rfl, rfl⟩ | ⟨hne, e⟩ <;> rcases aux i' b' e2 with ⟨rfl, rfl⟩ | ⟨hne', e'⟩
  ·rfl
  ·rw [hself] at e5; cases e5; rw [hoth _ hne'] at e6
   exact (cross i' b' m2 hne' e' e4 e6 x e7 e8).elim
  ·rw [hoth _ hne] at e5; rw [hself] at e6; cases e6
   exact (cross i b m1 hne e e3 e5 x e8 e7).elim
  ·rw [hoth _ hne] at e5; rw [hoth _ hne'] at e6
   exact h.inj i i' b b' m1 m2 e e' e3 e4 e5 e6 x e7 e8
 ·refine ⟨fun b o v hc => ?_, fun hu' b o v hn hc => ?_, fun b hb' => h.lnt.2.2 b (Nat.le_trans hsz hb')⟩
  ·have hnm : ¬ m.has b := fun e => by rw [(h.liveH hi hl hm b e).2.2.1 o] at hc; cases hc
   refine ⟨(hcell b o v (h.lnt.1 b o v hc).1 hnm).1, fun ob hk => ?_⟩
   rw [hb b (World.block_lt_of_cell? w _ (h.lnt.1 b o v hc).1) hnm]
   exact (h.lnt.1 b o v hc).2 ob hk
  ·rw [(hcell b o v (h.cl b o v hc) fun e => by rw [(h.liveH hi hl hm b e).2.1 o] at hc; cases hc).2]
   exact h.lnt.2.1 hu' b o v hn hc
 ·have hnm : ¬ m.has b := fun e => hnl ⟨id, blk, m, hi, hl, hm, e⟩
  refine ⟨hb b hlt hnm, fun hl2 => ?_, rfl⟩
  obtain ⟨j, bj, mj, e1, e2, e3, e5⟩ := hl2
  rcases aux j bj e1 with ⟨rfl, rfl⟩ | ⟨hne, e⟩
  ·rw [hself] at e3; cases e3
   rcases hnew b e5 with hx | ⟨hx, _⟩
   ·exact hnm hx
   ·omega
  ·rw [hoth j hne] at e3
   exact hnl ⟨j, bj, mj, e, e2, e3, e5⟩
def MI.plus (m : MI) (g : Option Nat) : MI := { m with D := fun b o => match m.D b o with | some x => some x | none => if g = some b then some (.bool false) else none }
theorem MI.plus_le (m : MI) (g : Option Nat) : m.le (m.plus g) := ⟨rfl, rfl, rfl, rfl, fun b o v h => by simp only [MI.plus, h]⟩
theorem MI.plus_has {m : MI} {g : Option Nat} {x : Nat} (h : (m.plus g).has x) : m.has x ∨ g = some x := by
 rcases h with e | ⟨o, e⟩
 ·exact .inl (.inl e)
 ·simp only [MI.plus] at e
  split at e
  ·rename_i v hv; exact .inl (.inr ⟨o, by rw [hv]; exact fun h => by cases h⟩)
  ·split at e
   ·rename_i hg; exact .inr hg
   ·exact absurd rfl e
theorem MI.has_plus {m : MI} {g : Option Nat} {x : Nat} (h : g = some x) : (m.plus g).has x := by
 refine .inr ⟨0, ?_⟩
 simp only [MI.plus]
 split
 ·exact fun h => by cases h
 ·rw [if_pos h]; exact fun h => by cases h
end Go.Av
end
section
namespace Go.Proofs.YtnjonahoheopnaaGreatDoor
open Go.RowKit Go.Lib
def qbd (w : World) (v v' : Value) : Prop := v'.ownBlock = v.ownBlock ∨ ∃ g, v'.ownBlock = some g ∧ w.heap.size ≤ g
structure Kept2 (w w' : World) (b : Nat) (v : Value) : Prop where
 os : w'.os = w.os
 tape : w'.tape = w.tape
 output : w'.output = w.output
 size : w.heap.size ≤ w'.heap.size
 block : ∀ k, k < w.heap.size → k ≠ b → some k ≠ v.ownBlock → w'.heap[k]? = w.heap[k]?
theorem qkB {P : Program} (w : World) (t ty e : TypeId) (i : TypeInfo) (z : Value) (ht : P.underlying t = some (.slice e)) (hi : P.info? e = some i) (hz : i.zero = some z) (hsize : i.size = 1) (hby : i.bytes = 1) (hzs : z.cells.size = 1)
  (v : Value) (n : Nat) (xs : List Value) (hown : w.ownsRowF 0 e 1 v n xs) (a : Addr) (m c : Nat) (news : List Value) (hl : news.length = m * 1) (hnews : ∀ j u, news[j]? = some u → w.cell? (a.add j) = some u) (h1 : ∀ u ∈ news, u.oneCell' = true)
  (hb : n + m ≤ 140737488355328) :
  ∃ v' w', (Builtin.append_ #[t, t] ty #[v, .slice (some a) m c]).run P w = .ok v' w' ∧ w'.ownsRowF 0 e 1 v' (n + m) (xs ++ news) ∧ w.grownBy w' v.ownBlock ∧ qbd w v v' ∧ (v' = .slice none 0 0 ↔ v = .slice none 0 0 ∧ m = 0) := by
 obtain ⟨v', w', hr, h2, h3, h4⟩ := run_append_ownF (P := P) w 0 t ty e i z 1 1 ht hi hz hsize hby hzs (by decide) v n xs hown a m c news hl hnews h1 (by unfold maxLen; omega) (by omega) (Nat.zero_le _)
 refine ⟨v', w', hr, h2, h3, ?_, h4⟩
 rcases hown.2 with ⟨rfl, rfl⟩ | ⟨g, cap, cur, fz, rfl, _, hg, hfz, hnc, hcm, hcs, htake⟩
 ·obtain ⟨v2, w2, hr2, h22, _, _⟩ := run_append_ownF (P := P) w w.heap.size t ty e i z 1 1 ht hi hz hsize hby hzs (by decide) (.slice none 0 0) 0 xs ⟨hown.1, .inl ⟨rfl, rfl⟩⟩ a m c news hl hnews h1 (by unfold maxLen; omega) (by omega) (qqo _)
  rw [hr] at hr2
  cases hr2
  cases hv : v'.ownBlock with
  | none => exact .inl (by rw [hv]; rfl)
  | some g => exact .inr ⟨g, hv, (h22.lt g hv).1⟩
 ·by_cases hroom : n + m ≤ cap
  ·have hr2 := run_append_roomF (P := P) w t ty e i ht hi g n cap cur fz hg (by rw [hsize]; exact hfz) a m c news (by rw [hsize]; exact hl) hnews h1 hroom (by rw [hsize, hl, hcs]; omega)
   rw [hr] at hr2
   cases hr2
   exact .inl rfl
  ·have holds : ∀ j u, xs[j]? = some u → w.cell? ((⟨g, 0, none⟩ : Addr).add j) = some u := hown.cells (g := g) rfl
   have hr2 := run_append_grow (P := P) w t ty e i z ht hi hz ⟨g, 0, none⟩ n cap xs (by rw [hsize]; exact hown.1) holds a m c news (by rw [hsize]; exact hl) hnews (by omega) (by omega) (growslice_fits (by omega) (by rw [hby]; omega))
   rw [hr] at hr2
   cases hr2
   exact .inr ⟨_, rfl, qqo _⟩
theorem qjp {P : Program} (w : World) (t u ty e : TypeId) (i : TypeInfo) (ht : P.underlying t = some (.slice e)) (hu : P.underlying u = some .string) (hi : P.info? e = some i) (hz : i.zero = some (.int .u8 0)) (hsize : i.size = 1) (hby : i.bytes = 1)
  (v : Value) (n : Nat) (xs : List Value) (hown : w.ownsRowF 0 e 1 v n xs) (s : ByteArray) (hb : n + s.size ≤ 140737488355328) :
  ∃ v' w', (Builtin.append_ #[t, u] ty #[v, .string s]).run P w = .ok v' w' ∧ w'.ownsRowF 0 e 1 v' (n + s.size) (xs ++ strCells s) ∧ w.grownBy w' v.ownBlock ∧ qbd w v v' ∧ (v' = .slice none 0 0 ↔ v = .slice none 0 0 ∧ s.size = 0) := by
 obtain ⟨v', w', hr, h2, h3, h4⟩ := run_append_own_stringF (P := P) w 0 t u ty e i ht hu hi hz hsize hby v n xs hown s (by unfold maxLen; omega) hb (Nat.zero_le _)
 refine ⟨v', w', hr, h2, h3, ?_, h4⟩
 rcases hown.2 with ⟨rfl, rfl⟩ | ⟨g, cap, cur, fz, rfl, _, hg, hfz, hnc, hcm, hcs, htake⟩
 ·obtain ⟨v2, w2, hr2, h22, _, _⟩ := run_append_own_stringF (P := P) w w.heap.size t u ty e i ht hu hi hz hsize hby (.slice none 0 0) 0 xs ⟨hown.1, .inl ⟨rfl, rfl⟩⟩ s (by unfold maxLen; omega) hb (qqo _)
  rw [hr] at hr2
  cases hr2
  cases hv : v'.ownBlock with
  | none => exact .inl (by rw [hv]; rfl)
  | some g => exact .inr ⟨g, hv, (h22.lt g hv).1⟩
 ·by_cases hroom : n + s.size ≤ cap
  ·have hr2 := run_append_room_stringF (P := P) w t u ty e i ht hu hi hsize g n cap cur fz hg (by simpa using hfz) s hroom (by omega)
   rw [hr] at hr2
   cases hr2
   exact .inl rfl
  ·have holds : ∀ j u, xs[j]? = some u → w.cell? ((⟨g, 0, none⟩ : Addr).add j) = some u := hown.cells (g := g) rfl
   have hr2 := run_append_grow_string (P := P) w t u ty e i (.int .u8 0) ht hu hi hz ⟨g, 0, none⟩ n cap xs (by rw [hsize]; exact hown.1) holds s (by omega) (by omega) (growslice_fits (by omega) (by rw [hby]; omega))
   rw [hr] at hr2
   cases hr2
   exact .inr ⟨_, rfl, qqo _⟩
theorem qjD {P : Program} {w : World} {ops : Array Oper} {rest : List Oper} {o : Oper} {a : Act} {Q : Exit → Act → World → Prop} (hgd : o.guard = none) (s x : Operand) (t : TypeId)
  (ho : o.op = .call { callee := .builtin .append, args := #[s, x], argTypes := #[t, t] })
  (e : TypeId) (i : TypeInfo) (z : Value) (ht : P.underlying t = some (.slice e)) (hi : P.info? e = some i) (hz : i.zero = some z)
  (hsize : i.size = 1) (hby : i.bytes = 1) (hzs : z.cells.size = 1)
  (v : Value) (n : Nat) (xs : List Value) (hs : a.eval s = v) (hown : w.ownsRowF 0 e 1 v n xs)
  (ad : Addr) (m c : Nat) (news : List Value) (hx : a.eval x = .slice (some ad) m c) (hl : news.length = m * 1) (hnews : ∀ j u, news[j]? = some u → w.cell? (ad.add j) = some u) (h1 : ∀ u ∈ news, u.oneCell' = true)
  (hb : n + m ≤ 140737488355328)
  (h : ∀ v' w', w'.ownsRowF 0 e 1 v' (n + m) (xs ++ news) → w.grownBy w' v.ownBlock → qbd w v v' → (v' = .slice none 0 0 ↔ v = .slice none 0 0 ∧ m = 0) → wpList P ops Q rest (a.put o.dst v') w') : wpList P ops Q (o :: rest) a w := by
 refine wpList_plain hgd fun K hK => ?_
 obtain ⟨v', w', hr, h2, h3, h4, h5⟩ := qkB (P := P) w t o.type e i z ht hi hz hsize hby hzs v n xs hown ad m c news hl hnews h1 hb
 unfold Oper.wp execOp
 simp only [ho, resolve, invoke, builtin, Sem.run_bind, Sem.run_pure, Result.andThen_ok, List.map_toArray, List.map_cons, List.map_nil, hs, hx, hr]
 exact hK _ _ (h v' w' h2 h3 h4 h5)
theorem qia {P : Program} {w : World} {ops : Array Oper} {rest : List Oper} {o : Oper} {a : Act} {Q : Exit → Act → World → Prop} (hgd : o.guard = none) (sl x : Operand) (t u : TypeId)
  (ho : o.op = .call { callee := .builtin .append, args := #[sl, x], argTypes := #[t, u] })
  (e : TypeId) (i : TypeInfo) (ht : P.underlying t = some (.slice e)) (hu : P.underlying u = some .string) (hi : P.info? e = some i) (hz : i.zero = some (.int .u8 0))
  (hsize : i.size = 1) (hby : i.bytes = 1)
  (v : Value) (n : Nat) (xs : List Value) (hs : a.eval sl = v) (hown : w.ownsRowF 0 e 1 v n xs) (s : ByteArray) (hx : a.eval x = .string s)
  (hb : n + s.size ≤ 140737488355328)
  (h : ∀ v' w', w'.ownsRowF 0 e 1 v' (n + s.size) (xs ++ strCells s) → w.grownBy w' v.ownBlock → qbd w v v' → (v' = .slice none 0 0 ↔ v = .slice none 0 0 ∧ s.size = 0) → wpList P ops Q rest (a.put o.dst v') w') : wpList P ops Q (o :: rest) a w := by
 refine wpList_plain hgd fun K hK => ?_
 obtain ⟨v', w', hr, h2, h3, h4, h5⟩ := qjp (P := P) w t u o.type e i ht hu hi hz hsize hby v n xs hown s hb
 unfold Oper.wp execOp
 simp only [ho, resolve, invoke, builtin, Sem.run_bind, Sem.run_pure, Result.andThen_ok, List.map_toArray, List.map_cons, List.map_nil, hs, hx, hr]
 exact hK _ _ (h v' w' h2 h3 h4 h5)
structure BldTy (T : TypeId) : Prop where
 lies : liesAt Tryz.prog Tryz.prog.depth T (2 / Tryz.prog.cellsOf T) 0 102 1 = true
 ne : T ≠ 5
theorem qkA (b : Nat) (w : World) (h0 : w.cell? ⟨b, 0, none⟩ = some (.pointer (some ⟨b, 0, none⟩))) :
  Calls Tryz.prog 116 #[.pointer (some ⟨b, 0, none⟩)] w fun e w' => e = .returned (.tuple #[]) ∧ w' = w := by
 obtain ⟨j, hj, _⟩ := qql.1 (show (Tryz.prog.info? 102).map (·.size) = some 2 by kernel_rfl)
 go_enter Tryz.func116, Tryz.ntmps116
 go_wp2
 rw [Lib.run_neq_ptr_same w _ Tryz.underlying100 hj]
 go_wp2
 go_end0
 exact ⟨rfl, rfl⟩
theorem qjo {T : TypeId} (hT : BldTy T) (b : Nat) (w : World) (h0 : w.cell? ⟨b, 0, none⟩ = some (.pointer none)) (hsh : w.shape? b = some (T, 2)) (hfz : w.frozen? ⟨b, 0, none⟩ = false) :
  Calls Tryz.prog 116 #[.pointer (some ⟨b, 0, none⟩)] w fun e w' => e = .returned (.tuple #[]) ∧ w' = w.setCell ⟨b, 0, none⟩ (.pointer (some ⟨b, 0, none⟩)) := by
 obtain ⟨j, hj, hjs⟩ := qql.1 (show (Tryz.prog.info? 102).map (·.size) = some 2 by kernel_rfl)
 go_enter Tryz.func116, Tryz.ntmps116
 go_wp2
 rw [Lib.run_to_unsafe w ⟨b, 0, none⟩ Tryz.underlying100 Tryz.underlying168 hj (by rw [hjs]; decide) hsh (Nat.zero_lt_succ 1)]
 simp only [Result.andThen]
 rw [Oper.upon_value]
 go_wp2
 rw [run_callFunc_extern Tryz.func153 (by kernel_rfl) (by kernel_rfl) (by kernel_rfl) (e := Extern.AbiNoEscape.same) (by kernel_rfl)]
 rw [Lib.run_noEscape]
 simp only [Result.andThen]
 rw [Oper.upon_value]
 go_wp2
 rw [Lib.run_from_unsafe w ⟨b, 0, none⟩ Tryz.underlying168 Tryz.underlying100 hj hsh hT.lies]
 simp only [Result.andThen]
 rw [Oper.upon_value]
 go_wp2
 go_end0
 exact ⟨rfl, rfl⟩
structure Only1 (w w' : World) (b : Nat) : Prop where
 os : w'.os = w.os
 tape : w'.tape = w.tape
 output : w'.output = w.output
 size : w'.heap.size = w.heap.size
 block : ∀ k, k ≠ b → w'.heap[k]? = w.heap[k]?
theorem qnd {T : TypeId} (hT : BldTy T) (b : Nat) (p v : Value) (n : Nat) (bs : List Value) (w : World) (hbk : w.heap[b]? = some (.cells #[p, v] T (0, 0))) (hp : p = .pointer none ∨ p = .pointer (some ⟨b, 0, none⟩))
  (hown : w.ownsRowF 0 5 1 v n bs) (hne : v.ownBlock ≠ some b) :
  Calls Tryz.prog 116 #[.pointer (some ⟨b, 0, none⟩)] w fun e w' => e = .returned (.tuple #[]) ∧ w'.heap[b]? = some (.cells #[.pointer (some ⟨b, 0, none⟩), v] T (0, 0)) ∧ w'.ownsRowF 0 5 1 v n bs ∧
   Only1 w w' b := by
 have hc0 : w.cell? ⟨b, 0, none⟩ = some p := by rw [Lib.cell_of_heap hbk]; rfl
 rcases hp with rfl | rfl
 ·refine (qjo hT b w hc0 (by simp [World.shape?, hbk]) (Lib.frozen_of_heap hbk 0)).mono ?_
  rintro e w' ⟨rfl, rfl⟩
  have hk : ∀ k, k ≠ b → (w.setCell ⟨b, 0, none⟩ (.pointer (some ⟨b, 0, none⟩))).heap[k]? = w.heap[k]? := fun k hk => Below.heap_setCell _ _ _ _ hk
  refine ⟨rfl, by simp [World.setCell, Array.getElem?_modify, hbk], hown.kept (row := some b) ⟨rfl, rfl, rfl, by simp [World.setCell], fun k _ hk' => hk k (fun e => hk' (by rw [e]))⟩ (.inr hne), ⟨rfl, rfl, rfl, by simp [World.setCell], hk⟩⟩
 ·refine (qkA b w hc0).mono ?_
  rintro e w' ⟨rfl, rfl⟩
  exact ⟨rfl, hbk, hown, ⟨rfl, rfl, rfl, rfl, fun _ _ => rfl⟩⟩
theorem ql5 {T : TypeId} (hT : BldTy T) (b : Nat) (p v : Value) (bs : List Value) (c : Int) (w : World) (hbk0 : w.heap[b]? = some (.cells #[p, v] T (0, 0))) (hp : p = .pointer none ∨ p = .pointer (some ⟨b, 0, none⟩))
  (hown0 : w.ownsRowF 0 5 1 v bs.length bs) (hne : v.ownBlock ≠ some b) (hlen : bs.length + 1 ≤ 140737488355328) :
  Calls Tryz.prog 113 #[.pointer (some ⟨b, 0, none⟩), .int .u8 c] w fun e w' => e = .returned .nilIface ∧ ∃ v', w'.heap[b]? = some (.cells #[.pointer (some ⟨b, 0, none⟩), v'] T (0, 0)) ∧
   w'.ownsRowF 0 5 1 v' (bs.length + 1) (bs ++ [.int .u8 c]) ∧ v'.ownBlock ≠ some b ∧ Kept2 w w' b v ∧ qbd w v v' := by
 obtain ⟨i0, hi, hi2⟩ := qql.1 (show (Tryz.prog.info? 5).map (fun i => (i.zero, i.size, i.bytes)) = some (some (.int .u8 0), 1, 1) by kernel_rfl)
 simp only [Prod.mk.injEq] at hi2
 obtain ⟨hz0, hz1, hz2⟩ := hi2
 have hlt0 : b < w.heap.size := by
  rcases Nat.lt_or_ge b w.heap.size with h' | h'
  ·exact h'
  ·simp [Array.getElem?_eq_none h'] at hbk0
 go_enter Tryz.func113, Tryz.ntmps113
 go_wp2_with (go_at_call 116; refine (qnd hT b p v _ bs _ hbk0 hp hown0 hne).mono ?_)
 rintro e w1 ⟨rfl, hbk, hown, hk⟩
 have c0 : w1.cell? ⟨b, 0, none⟩ = some (.pointer (some ⟨b, 0, none⟩)) := by rw [Lib.cell_of_heap hbk]; rfl
 have c1 : w1.cell? ⟨b, 1, none⟩ = some v := by rw [Lib.cell_of_heap hbk]; rfl
 have hlt : b < w1.heap.size := by rw [hk.size]; exact hlt0
 go_wp2_with (at_builtin; go_loud (refine qjD rfl _ _ 92 rfl 5 i0 (.int .u8 0) Tryz.underlying92 hi hz0 hz1 hz2 rfl _ _ _ rfl (hown.alloc _) ⟨w1.heap.size, 0, none⟩ 1 1 [.int .u8 c] rfl rfl ?c1 ?c2 ?c3 ?_))
 case c1 =>
  intro j u hj
  match j, hj with
  | 0, hj => simp at hj; subst hj; simp [Addr.add]
 case c2 => intro u hu; simp at hu; subst hu; rfl
 case c3 => exact hlen
 intro v' w2 hown' hgrow hnew hnil
 have hb2 : w2.heap[b]? = some (.cells #[.pointer (some ⟨b, 0, none⟩), v] T (0, 0)) := by
  rw [hgrow.block b (by simp; omega) (fun e => hne e.symm), Lib.alloc_old w1 _ b hlt]
  exact hbk
 have d0 : w2.cell? ⟨b, 0, none⟩ = some (.pointer (some ⟨b, 0, none⟩)) := by rw [Lib.cell_of_heap hb2]; rfl
 have d1 : w2.cell? ⟨b, 1, none⟩ = some v := by rw [Lib.cell_of_heap hb2]; rfl
 have f1 : w2.frozen? ⟨b, 1, none⟩ = false := Lib.frozen_of_heap hb2 1
 obtain ⟨g, cap, rfl⟩ : ∃ g cap, v' = .slice (some ⟨g, 0, none⟩) (bs.length + 1) cap := by
  rcases hown'.2 with ⟨_, h0⟩ | ⟨g, cap, cur, fz, hv, _⟩
  ·omega
  ·exact ⟨g, cap, hv⟩
 go_wp2
 go_ret
 have hne' : (Value.slice (some ⟨g, 0, none⟩) (bs.length + 1) cap).ownBlock ≠ some b := by
  rcases hnew with h | ⟨g', h, hg'⟩
  ·rw [h]; exact hne
  ·rw [h]; intro e; cases e; simp at hg'; omega
 refine ⟨rfl, _, by simp [World.setCell, Array.getElem?_modify, hb2], hown'.kept (row := some b) ⟨rfl, rfl, rfl, by simp [World.setCell], fun k _ hk' => Below.heap_setCell _ _ _ _ (fun e => hk' (by simp [e]))⟩ (.inr hne'), hne', ?_, ?_⟩
 ·exact ⟨hgrow.os.trans hk.os, hgrow.tape.trans hk.tape, hgrow.output.trans hk.output, by have := hgrow.size; simp [World.setCell] at this ⊢; have := hk.size; omega, fun k hlt' hkb hkv => by
   rw [Below.heap_setCell _ _ _ _ hkb, hgrow.block k (by have := hk.size; simp; omega) hkv, Lib.alloc_old w1 _ k (by rw [hk.size]; exact hlt'), hk.block k hkb]⟩
 ·rcases hnew with h | ⟨g', h, hg'⟩
  ·exact .inl h
  ·exact .inr ⟨g', h, by have := hk.size; simp at hg'; omega⟩
theorem qjn {T : TypeId} (hT : BldTy T) (b : Nat) (p v : Value) (bs : List Value) (s : ByteArray) (w : World) (hbk0 : w.heap[b]? = some (.cells #[p, v] T (0, 0))) (hp : p = .pointer none ∨ p = .pointer (some ⟨b, 0, none⟩))
  (hown0 : w.ownsRowF 0 5 1 v bs.length bs) (hne : v.ownBlock ≠ some b) (hlen : bs.length + s.size ≤ 140737488355328) :
  Calls Tryz.prog 68 #[.pointer (some ⟨b, 0, none⟩), .string s] w fun e w' => e = .returned (.tuple #[.int .i64 s.size, .nilIface]) ∧ ∃ v', w'.heap[b]? = some (.cells #[.pointer (some ⟨b, 0, none⟩), v'] T (0, 0)) ∧
   w'.ownsRowF 0 5 1 v' (bs.length + s.size) (bs ++ strCells s) ∧ v'.ownBlock ≠ some b ∧ Kept2 w w' b v ∧ qbd w v v' ∧ (v' = .slice none 0 0 ↔ v = .slice none 0 0 ∧ s.size = 0) := by
 obtain ⟨i0, hi, hi2⟩ := qql.1 (show (Tryz.prog.info? 5).map (fun i => (i.zero, i.size, i.bytes)) = some (some (.int .u8 0), 1, 1) by kernel_rfl)
 simp only [Prod.mk.injEq] at hi2
 obtain ⟨hz0, hz1, hz2⟩ := hi2
 have hlt0 : b < w.heap.size := by
  rcases Nat.lt_or_ge b w.heap.size with h' | h'
  ·exact h'
  ·simp [Array.getElem?_eq_none h'] at hbk0
 go_enter Tryz.func68, Tryz.ntmps68
 go_wp2_with (go_at_call 116; refine (qnd hT b p v _ bs _ hbk0 hp hown0 hne).mono ?_)
 rintro e w1 ⟨rfl, hbk, hown, hk⟩
 have c0 : w1.cell? ⟨b, 0, none⟩ = some (.pointer (some ⟨b, 0, none⟩)) := by rw [Lib.cell_of_heap hbk]; rfl
 have c1 : w1.cell? ⟨b, 1, none⟩ = some v := by rw [Lib.cell_of_heap hbk]; rfl
 have hlt : b < w1.heap.size := by rw [hk.size]; exact hlt0
 go_wp2_with (at_builtin; go_loud (refine qia rfl _ _ 92 9 rfl 5 i0 Tryz.underlying92 Tryz.underlying9 hi hz0 hz1 hz2 _ _ _ rfl hown s rfl ?c3 ?_))
 case c3 => exact hlen
 intro v' w2 hown' hgrow hnew hnil
 have hb2 : w2.heap[b]? = some (.cells #[.pointer (some ⟨b, 0, none⟩), v] T (0, 0)) := by
  rw [hgrow.block b hlt (fun e => hne e.symm)]
  exact hbk
 have d0 : w2.cell? ⟨b, 0, none⟩ = some (.pointer (some ⟨b, 0, none⟩)) := by rw [Lib.cell_of_heap hb2]; rfl
 have d1 : w2.cell? ⟨b, 1, none⟩ = some v := by rw [Lib.cell_of_heap hb2]; rfl
 have f1 : w2.frozen? ⟨b, 1, none⟩ = false := Lib.frozen_of_heap hb2 1
 obtain ⟨ao, n', cap, rfl⟩ : ∃ ao n' cap, v' = .slice ao n' cap := by
  rcases hown'.2 with ⟨hv, _⟩ | ⟨g, cap, cur, fz, hv, _⟩
  ·exact ⟨_, _, _, hv⟩
  ·exact ⟨_, _, _, hv⟩
 go_wp2
 go_ret2
 have hne' : (Value.slice ao n' cap).ownBlock ≠ some b := by
  rcases hnew with h | ⟨g', h, hg'⟩
  ·rw [h]; exact hne
  ·rw [h]; intro e; cases e; omega
 refine ⟨rfl, _, by simp [World.setCell, Array.getElem?_modify, hb2], hown'.kept (row := some b) ⟨rfl, rfl, rfl, by simp [World.setCell], fun k _ hk' => Below.heap_setCell _ _ _ _ (fun e => hk' (by simp [e]))⟩ (.inr hne'), hne', ?_, ?_, by simpa using hnil⟩
 ·exact ⟨hgrow.os.trans hk.os, hgrow.tape.trans hk.tape, hgrow.output.trans hk.output, by have := hgrow.size; simp [World.setCell] at this ⊢; have := hk.size; omega, fun k hlt' hkb hkv => by
   rw [Below.heap_setCell _ _ _ _ hkb, hgrow.block k (by have := hk.size; omega) hkv, hk.block k hkb]⟩
 ·rcases hnew with h | ⟨g', h, hg'⟩
  ·exact .inl h
  ·exact .inr ⟨g', h, by have := hk.size; omega⟩
theorem qpb {T : TypeId} (b : Nat) (p v : Value) (l : List UInt8) (w : World) (hbk : w.heap[b]? = some (.cells #[p, v] T (0, 0)))
  (hown0 : w.ownsRowF 0 5 1 v l.length (byteCells l)) (hne : v.ownBlock ≠ some b) (hnil : l = [] → v = .slice none 0 0) :
  Calls Tryz.prog 66 #[.pointer (some ⟨b, 0, none⟩)] w fun e w' => e = .returned (.string ⟨l.toArray⟩) ∧ w'.heap[b]? = some (.cells #[p, v] T (0, 0)) ∧
   w'.ownsRowF 0 5 1 v l.length (byteCells l) ∧ Kept2 w w' b v := by
 have mixed : Tryz.prog.follows .mixedOrders = true := by kernel_rfl
 by_cases h0 : l = []
 ·obtain rfl := h0
  obtain rfl := hnil rfl
  have hUS : ∀ W : World, ∀ q, (Builtin.unsafeString_ #[138, 3] 9 #[.pointer q, .int .i64 0]).run Tryz.prog W = .ok (.string .empty) W := fun W q => Lib.run_unsafeString_none W _ _ _ q
  have c1 : w.drew.cell? ⟨b, 1, none⟩ = some (.slice none 0 0) := by
   have : w.drew.heap[b]? = some (.cells #[p, .slice none 0 0] T (0, 0)) := hbk
   rw [Lib.cell_of_heap this]; rfl
  have hSD : (Builtin.unsafeSliceData_ #[92] 138 #[.slice none 0 0]).run Tryz.prog w.drew = .ok (.pointer none) w.drew := rfl
  go_enter Tryz.func66, Tryz.ntmps66
  go_wp2
  go_region_o
  all_goals (go_wp2; go_ret; exact ⟨rfl, hbk, hown0, ⟨rfl, rfl, rfl, qqo _, fun _ _ _ _ => rfl⟩⟩)
 ·have hl0 : l.length ≠ 0 := by simpa using h0
  have hown := hown0
  obtain ⟨g, cap, cur, fz, rfl, hg, hfz, hnc, hcm, hcs, htake⟩ : ∃ g cap cur fz, v = .slice (some ⟨g, 0, none⟩) l.length cap ∧ w.heap[g]? = some (.cells cur 5 fz) ∧ fz.2 ≤ l.length * 1 ∧ l.length ≤ cap ∧ cap ≤ maxLen ∧ cur.size = cap * 1 ∧ cur.toList.take (l.length * 1) = Lib.byteCells l := by
   rcases hown.2 with ⟨_, hz⟩ | ⟨g, cap, cur, fz, hv, _, r⟩
   ·exact absurd hz hl0
   ·exact ⟨g, cap, cur, fz, hv, r⟩
  have hgb : g ≠ b := fun e => hne (by simp [Value.ownBlock, e])
  have c1 : w.drew.cell? ⟨b, 1, none⟩ = some (.slice (some ⟨g, 0, none⟩) l.length cap) := by
   have : w.drew.heap[b]? = some (.cells #[p, .slice (some ⟨g, 0, none⟩) l.length cap] T (0, 0)) := hbk
   rw [Lib.cell_of_heap this]; rfl
  have hSD : (Builtin.unsafeSliceData_ #[92] 138 #[.slice (some ⟨g, 0, none⟩) l.length cap]).run Tryz.prog w.drew = .ok (.pointer (some ⟨g, 0, none⟩)) w.drew :=
   Lib.run_unsafeSliceData_row _ _ _ _ _ _ (by omega)
  have hUS : (Builtin.unsafeString_ #[138, 3] 9 #[.pointer (some ⟨g, 0, none⟩), .int .i64 l.length]).run Tryz.prog w.drew = .ok (.string ⟨l.toArray⟩) (w.drew.freeze ⟨g, 0, none⟩ l.length) := by
   refine Lib.run_unsafeString_row w.drew 138 3 9 5 Tryz.underlying138 (by kernel_rfl) g cur.size (by have hg' : w.drew.heap[g]? = some (.cells cur 5 fz) := hg; simp [World.shape?, hg']) l h0 (by omega) (by unfold maxLen at hcm; omega) ?_
   intro j x hx
   exact hown.cells (g := g) rfl j (.int .u8 x.toNat) (by simp [Lib.byteCells, hx])
  have hA : Lib.BuilderAtF T 5 0 b p (Lib.byteCells l) w.drew := ⟨Nat.zero_le _, _, hbk, by rw [Lib.byteCells_length]; exact hown0, hne⟩
  have hF := hA.froze (g := g) (cap := cap) (by rw [Lib.byteCells_length]; exact c1)
  rw [Lib.byteCells_length] at hF
  have hfin : (w.drew.freeze ⟨g, 0, none⟩ l.length).heap[b]? = some (.cells #[p, .slice (some ⟨g, 0, none⟩) l.length cap] T (0, 0)) ∧
   (w.drew.freeze ⟨g, 0, none⟩ l.length).ownsRowF 0 5 1 (.slice (some ⟨g, 0, none⟩) l.length cap) l.length (byteCells l) ∧ Kept2 w (w.drew.freeze ⟨g, 0, none⟩ l.length) b (.slice (some ⟨g, 0, none⟩) l.length cap) := by
   have hfb : ∀ k, k ≠ g → (w.drew.freeze ⟨g, 0, none⟩ l.length).heap[k]? = w.heap[k]? := fun k hk => by
    unfold World.freeze
    split
    ·rfl
    ·simp [Array.getElem?_modify, hk.symm]
     rfl
   have hb' := (hfb b hgb.symm).trans hbk
   obtain ⟨_, v2, q1, q2, q3⟩ := hF
   rw [hb'] at q1
   simp only [Option.some.injEq, Obj.cells.injEq, Array.mk.injEq, List.cons.injEq] at q1
   obtain ⟨⟨_, rfl, _⟩, _⟩ := q1
   rw [Lib.byteCells_length] at q2
   refine ⟨hb', q2, ?_⟩
   have hs : (w.drew.freeze ⟨g, 0, none⟩ l.length).os = w.os ∧ (w.drew.freeze ⟨g, 0, none⟩ l.length).tape = w.tape ∧ (w.drew.freeze ⟨g, 0, none⟩ l.length).output = w.output ∧ (w.drew.freeze ⟨g, 0, none⟩ l.length).heap.size = w.heap.size := by
    unfold World.freeze
    split
    ·exact ⟨rfl, rfl, rfl, rfl⟩
    ·exact ⟨rfl, rfl, rfl, by simp⟩
   exact ⟨hs.1, hs.2.1, hs.2.2.1, by rw [hs.2.2.2]; exact qqo _, fun k _ _ hk => hfb k fun e => hk (by rw [e]; rfl)⟩
  clear hF hA
  go_enter Tryz.func66, Tryz.ntmps66
  go_wp2
  go_region_o
  all_goals (go_wp2; go_ret; exact ⟨rfl, hfin⟩)
end Go.Proofs.YtnjonahoheopnaaGreatDoor
end
section
namespace Go.Av
abbrev Rz := List (List AV)
abbrev Bz := List UInt8
inductive Tm where
 | mk (k n : Int) (s : List UInt8) (l : List Tm)
 deriving Inhabited
namespace Tm
def kind : Tm → Int | mk k _ _ _ => k
def num : Tm → Int | mk _ n _ _ => n
def str : Tm → List UInt8 | mk _ _ s _ => s
def subs : Tm → List Tm | mk _ _ _ l => l
end Tm
mutual
def Tm.cells : Tm → List AV
 | .mk k n s l => [.int .i64 k, .int .i64 n, .str s, .sl (qh l)]
def qh : List Tm → List (List AV)
 | [] => []
 | t :: l => t.cells :: qh l
end
def Tm.av (t : Tm) : AV := .agg t.cells
theorem Tm.cells_mk (k n : Int) (s : List UInt8) (l : List Tm) : (Tm.mk k n s l).cells = [.int .i64 k, .int .i64 n, .str s, .sl (qh l)] := by rw [Tm.cells]
theorem Tm.av_mk (k n : Int) (s : List UInt8) (l : List Tm) : (Tm.mk k n s l).av = .agg [.int .i64 k, .int .i64 n, .str s, .sl (qh l)] := by rw [Tm.av, Tm.cells_mk]
theorem yv : ∀ l : List Tm, qh l = l.map Tm.cells
 | [] => by rw [qh]; rfl
 | t :: l => by rw [qh, yv l]; rfl
@[simp] theorem qy (l : List Tm) : (qh l).length = l.length := by rw [yv]; simp
@[simp] theorem xr : qh [] = [] := by rw [qh]
theorem vA (t : Tm) (l : List Tm) : qh (t :: l) = t.cells :: qh l := by rw [qh]
theorem qaU (a b : List Tm) : qh (a ++ b) = qh a ++ qh b := by simp [yv]
theorem qlk (n : Nat) (a : List Tm) : (qh a).take n = qh (a.take n) := by simp [yv, List.map_take]
theorem qlm (n : Nat) (a : List Tm) : (qh a).drop n = qh (a.drop n) := by simp [yv, List.map_drop]
theorem qbk (l : List Tm) (i : Nat) : (qh l)[i]? = (l[i]?).map Tm.cells := by rw [yv]; simp
theorem qmC (l : List Tm) (i : Nat) (t : Tm) : (qh l).set i t.cells = qh (l.set i t) := by simp [yv, List.map_set]
theorem qgt (t : Tm) : qk 0 t.cells = true := by
 obtain ⟨k, n, s, l⟩ := t
 rw [Tm.cells_mk]; rfl
theorem qll (l : List Tm) : ql 0 (qh l) = true := by
 induction l with
 | nil => rw [qh]; rfl
 | cons t l ih => rw [qh, ql, ih, qgt]; rfl
mutual
/-- no list is longer than is counted here, no text -/
def Tm.Ok : Tm → Prop
 | .mk _ _ s l => s.length < 1099511627776 ∧ l.length < 1099511627776 ∧ OkL l
def OkL : List Tm → Prop
 | [] => True
 | t :: l => t.Ok ∧ OkL l
end
theorem qg6 {l : List Tm} : OkL l ↔ ∀ t ∈ l, t.Ok := by
 induction l with
 | nil => simp [OkL]
 | cons t l ih => simp [OkL, ih]
theorem Tm.Ok.str {k n : Int} {s : List UInt8} {l : List Tm} (h : (Tm.mk k n s l).Ok) : s.length < 1099511627776 := by rw [Tm.Ok] at h; exact h.1
theorem Tm.Ok.len {k n : Int} {s : List UInt8} {l : List Tm} (h : (Tm.mk k n s l).Ok) : l.length < 1099511627776 := by rw [Tm.Ok] at h; exact h.2.1
theorem Tm.Ok.sub {k n : Int} {s : List UInt8} {l : List Tm} (h : (Tm.mk k n s l).Ok) {t : Tm} (ht : t ∈ l) : t.Ok := by rw [Tm.Ok] at h; exact qg6.1 h.2.2 t ht
theorem OkL.get {l : List Tm} (h : OkL l) {t : Tm} (ht : t ∈ l) : t.Ok := qg6.1 h t ht
theorem Tm.ind {P : Tm → Prop} (h : ∀ k n s l, (∀ t ∈ l, P t) → P (.mk k n s l)) : ∀ t, P t
 | .mk k n s l => h k n s l (fun t _ => Tm.ind h t)
theorem vZ {x : Int} (h1 : -9223372036854775808 ≤ x) (h2 : x < 9223372036854775808) : IntKind.wrap .i64 x = x := by
 simp [IntKind.wrap, IntKind.bits, IntKind.signed]; omega
theorem q9 {i n : Nat} (h : i < n) (hn : n < 1099511627776) : IntKind.wrap .i64 ((i : Int) + 1) = ((i + 1 : Nat) : Int) := by
 rw [vZ (by omega) (by omega)]; rfl
theorem qP (i : Nat) : qg 0 (i : Int) = true := by simp [qg]
theorem xU (i n : Nat) : qz (i : Int) (n : Int) = decide (i < n) := by simp [qz]
def kTmC {α : Type} (l : List AV) (k : Int → Int → List UInt8 → List (List AV) → Option α) : Option α :=
 q8 l fun c cs => kInt .i64 c fun n => q8 cs fun c cs => kInt .i64 c fun m => q8 cs fun c cs => kStr c fun s => q8 cs fun c cs => kSl c fun A => kNil cs (k n m s A)
def kTmV {α : Type} (v : AV) (k : Int → Int → List UInt8 → List (List AV) → Option α) : Option α := kAgg v fun cs => kTmC cs k
theorem ze {α : Type} {l : List Tm} {i : Nat} {t : Tm} (h : l[i]? = some t) (k : List AV → Option α) : kOpt (qqy (qh l) (qqN (i : Int))) k = k t.cells := by
 rw [qB, Int.toNat_natCast, qbk, h]; rfl
mutual
def Tm.w : Tm → Nat
 | .mk _ _ s l => 1 + s.length + wL l
def wL : List Tm → Nat
 | [] => 0
 | t :: l => t.w + wL l
end
theorem Tm.w_mk (k n : Int) (s : List UInt8) (l : List Tm) : (Tm.mk k n s l).w = 1 + s.length + wL l := by rw [Tm.w]
theorem Tm.w_eq (t : Tm) : t.w = 1 + t.str.length + wL t.subs := by cases t; rw [Tm.w_mk]; rfl
@[simp] theorem qpw : wL [] = 0 := by rw [wL]
@[simp] theorem qkK (t : Tm) (l : List Tm) : wL (t :: l) = t.w + wL l := by rw [wL]
@[simp] theorem qc8 (a b : List Tm) : wL (a ++ b) = wL a + wL b := by
 induction a with
 | nil => simp
 | cons t l ih => simp [ih]; omega
theorem qp7 (t : Tm) : 1 ≤ t.w := by rw [Tm.w_eq]; omega
theorem qid {t : Tm} {l : List Tm} (h : t ∈ l) : t.w ≤ wL l := by
 induction l with
 | nil => cases h
 | cons x l ih =>
  rw [qkK]
  rcases qqH.1 h with rfl | h
  ·omega
  ·have := ih h; omega
theorem qbQ (l : List Tm) : l.length ≤ wL l := by
 induction l with
 | nil => simp
 | cons x l ih => have := qp7 x; simp; omega
theorem qoY (t : Tm) : t.w < 1099511627776 → t.Ok := by
 induction t using Tm.ind with
 | _ k n s l ih =>
  intro h
  rw [Tm.w_mk] at h
  rw [Tm.Ok]
  have := qbQ l
  exact ⟨by omega, by omega, qg6.2 fun t ht => ih t ht (by have := qid ht; omega)⟩
theorem qmm (l : List Tm) : wL l.reverse = wL l := by
 induction l with
 | nil => rfl
 | cons x l ih => simp [ih]; omega
end Go.Av
end
section
namespace Go.Proofs.YtnjonahoheopnaaGreatDoor
open Go.Av
def C0 (W : World) : qb := fun b o => W.cell? ⟨b, o, none⟩
def M0 : MMap := fun _ => none
structure TermTys (P : Program) (tT tL tI tS : TypeId) : Prop where
 uT : ∃ f0 f1 f2 f3 : Field, P.underlying tT = some (.struct #[f0, f1, f2, f3]) ∧ f0.type = tI ∧ f0.offset = 0 ∧ f1.type = tI ∧ f1.offset = 1 ∧ f2.type = tS ∧ f2.offset = 2 ∧ f3.type = tL ∧ f3.offset = 3
 uL : P.underlying tL = some (.slice tT)
 uI : P.underlying tI = some (.int .i64)
 uS : P.underlying tS = some .string
 cT : P.cellsOf tT = 4
 cL : P.cellsOf tL = 1
 cI : P.cellsOf tI = 1
 cS : P.cellsOf tS = 1
section
variable {H : Type} {enc : TypeId × Value → H} {P : Program} {W : World} {tT tL tI tS : TypeId}
theorem qeC {base : Nat} {a : Addr} {n : Nat} {cs : List Value} (h : W.cells? base a n = some cs) (hn : 0 < n) : a.spot = none ∧ cs.length = n ∧ ∀ (j : Nat) v, cs[j]? = some v → W.cell? ⟨a.block, a.off + j, none⟩ = some v := by
 unfold World.cells? at h
 split at h
 ·have hl : cs.length = n := by simpa using mapM_some_length h
  have hg : ∀ (j : Nat), j < n → W.cell? (a.add j) = cs[j]? := fun j hj => mapM_some_get h j j (by simp [hj])
  have hsp : a.spot = none := by
   have h0 := hg 0 hn
   rw [qqm (by omega)] at h0
   cases hs : a.spot with
   | none => rfl
   | some s =>
    simp only [World.cell?, Addr.add, if_pos, hs] at h0
    split at h0
    ·simp at h0
    ·cases h0
  refine ⟨hsp, hl, fun j v hv => ?_⟩
  have hj : j < n := by rw [← hl]; exact (qqj.1 hv).1
  have := hg j hj
  rw [hv] at this
  rw [xz _ _ hsp] at this
  exact this
 ·cases h
theorem qm9 {H : Type} {d : DataW H} {l : List (DataW H)} (h : d ∈ l) : Rows.uptoBulk d ≤ Rows.uptoBulkAll l := by
 induction l with
 | nil => cases h
 | cons x r ih =>
  simp only [Rows.uptoBulkAll]
  cases qqH.1 h with
  | inl e => subst e; omega
  | inr e => have := ih e; omega
end
end Go.Proofs.YtnjonahoheopnaaGreatDoor
end
section
namespace Go.Proofs.YtnjonahoheopnaaGreatDoor
open Go.Av Go.RowKit
theorem qeo : ∀ {rows : List (List AV)} {xs : List (List UInt8)}, qbT rows = some xs → rows = xs.map fun s => [.str s]
 | [], xs, h => by simp [qbT] at h; subst h; rfl
 | row :: l, xs, h => by
  unfold qbT at h
  split at h
  ·rename_i heq; cases heq
  ·rename_i s l' heq
   cases heq
   split at h
   ·rename_i q hq; cases h; rw [List.map_cons, ← qeo hq]
   ·cases h
  ·cases h
def OkU [Lent] (f : FuncId) (s : List AV → AH → Option (AV × AH)) : Prop :=
 ∀ args H r H', s args H = some (r, H') → ∀ C μ w vs, qj C μ args vs → Wld C μ H w → qL Tryz.prog (callFunc f vs) w (qZ C μ H w r H')
theorem qiH [Lent] {f : FuncId} {s : List AV → AH → Option (AV × AH)} : ∀ {l : List (Nat × (List AV → AH → Option (AV × AH)))}, (∀ p ∈ l, OkU p.1 p.2) → qaI f l = some s → OkU f s
 | [], _, h => by cases h
 | p :: l, hp, h => by
  rw [qaI] at h
  split at h
  ·rename_i e
   have e := qqn e
   cases h
   subst e
   exact hp p (by simp)
  ·exact qiH (fun q hq => hp q (by simp [hq])) h
theorem qeV {T e : TypeId} (h : yQ vw.look T e = true) : e = 5 ∧ BldTy T := by
 have ok : vw.All fun T e => e = 5 ∧ BldTy T := by
  unfold vw
  repeat (first | exact trivial | refine BT.all_node ⟨rfl, ⟨by kernel_rfl, by decide⟩⟩ ?_ ?_)
 unfold yQ at h
 split at h
 ·rename_i e' he
  obtain ⟨h1, h2⟩ := BT.all_look ok he
  exact ⟨by rw [← h1]; exact (qqn h).symm, h2⟩
 ·cases h
section
variable [Lent] {C : qb} {μ : MMap} {w w' : World}
theorem qg2 {T e : TypeId} {s : List UInt8} {l : AH} {x : Value} (hr : Rep C μ (.ptr 0 0 0) x) (hw : Wld C μ (.bld T e s :: l) w) : ∃ m, μ 0 = some m ∧ x = .pointer (some ⟨m.block, 0, none⟩) ∧ qbe w m T e s := by
 cases hr with
 | ptr _ _ _ m hm =>
  have hb : qbe w m T e s := (hw.liveM (id := 0) rfl rfl hm).2.2
  refine ⟨m, hm, ?_, hb⟩
  rw [hb.1]
  simp
theorem qe5 {T e : TypeId} {s s' : List UInt8} {l : AH} {m : MI} {v v' p' : Value} {r : AV} {rv : Value} (hw : Wld C μ (.bld T e s :: l) w) (hm : μ 0 = some m) (hb0 : m.base = 0) (hold : ∀ g, v.ownBlock = some g → m.has g)
  (hk : Kept2 w w' m.block v) (hnew : w'.heap[m.block]? = some (.cells #[p', v'] T (0, 0))) (hp' : p' = .pointer none ∨ p' = .pointer (some ⟨m.block, 0, none⟩)) (hown : w'.ownsRowF 0 e 1 v' s'.length (Lib.byteCells s')) (hne : v'.ownBlock ≠ some m.block)
  (hnil : s' = [] → v' = .slice none 0 0) (hbuf : qbd w v v') (hr : ∀ μ', Rep C μ' r rv) : qZ C μ (.bld T e s :: l) w r (.bld T e s' :: l) rv w' := by
 have hbl : ∀ x, v'.ownBlock = some x → m.has x ∨ (w.heap.size ≤ x ∧ x < w'.heap.size) := fun x hx => by
  rcases hbuf with h | ⟨g, h, hg⟩
  ·exact .inl (hold x (h ▸ hx))
  ·rw [hx] at h; cases h; exact .inr ⟨hg, (hown.lt x hx).2⟩
 obtain ⟨a1, a2⟩ := hw.grow (id := 0) (blk' := .bld T e s') (m' := m.plus v'.ownBlock) rfl rfl rfl hm (m.plus_le _) hk.size
  (fun x hx => by
   rcases MI.plus_has hx with h | h
   ·exact .inl h
   ·exact hbl x h)
  (fun k hk1 hk2 => hk.block k hk1 (fun e => hk2 (e ▸ m.has_block)) (fun e => hk2 (hold k e.symm)))
  ⟨hb0, p', v', hnew, hp', hown, hne, hnil, fun g hg => MI.has_plus hg⟩ trivial hk.os hk.tape hk.output
 exact ⟨C, _, hr _, a1, a2⟩
theorem qh8 : OkU 113 (yD vw.look) := fun args H r H' hr C μ w vs ha hw => by
 unfold yD at hr
 split at hr
 case h_2 => cases hr
 rename_i c T e s l
 split at hr
 case isFalse => cases hr
 rename_i hc
 cases hr
 obtain ⟨h1, h2, h3, h4⟩ := hc
 obtain ⟨rfl, hT⟩ := qeV h1
 obtain ⟨hl, hv⟩ := ha
 obtain ⟨x, y, rfl⟩ := qaS hl
 have q1 := hv 1 _ _ rfl rfl
 cases q1
 obtain ⟨m, hm, rfl, hb0, p, v, b1, b2, b3, b4, b5, b6⟩ := qg2 (hv 0 _ _ rfl rfl) hw
 rw [← Lib.byteCells_length s] at b3
 refine vt Tryz.func113 (by rfl) rfl ((ql5 hT m.block p v (Lib.byteCells s) c w b1 b2 b3 b4 (by rw [Lib.byteCells_length]; omega)).mono fun e' w' ⟨e1, v', e2, e3, e4, e5, e6⟩ => ⟨_, e1, ?_⟩)
 have hcat : Lib.byteCells s ++ [.int .u8 c] = Lib.byteCells (s ++ [c.toNat.toUInt8]) := by
  simp [Lib.byteCells]
  omega
 rw [hcat, Lib.byteCells_length] at e3
 refine qe5 hw hm hb0 b6 e5 e2 (.inr rfl) (by simpa using e3) e4 (fun h => by simp at h) e6 fun _ => .nilI
theorem qgF : OkU 68 (xR vw.look) := fun args H r H' hr C μ w vs ha hw => by
 unfold xR at hr
 split at hr
 case h_2 => cases hr
 rename_i t T e s l
 split at hr
 case isFalse => cases hr
 rename_i hc
 cases hr
 obtain ⟨h1, h2⟩ := hc
 obtain ⟨rfl, hT⟩ := qeV h1
 obtain ⟨hl, hv⟩ := ha
 obtain ⟨x, y, rfl⟩ := qaS hl
 have q1 := hv 1 _ _ rfl rfl
 cases q1
 obtain ⟨m, hm, rfl, hb0, p, v, b1, b2, b3, b4, b5, b6⟩ := qg2 (hv 0 _ _ rfl rfl) hw
 rw [← Lib.byteCells_length s] at b3
 have hts : (⟨t.toArray⟩ : ByteArray).size = t.length := by simp [ByteArray.size]
 refine vt Tryz.func68 (by rfl) rfl ((qjn hT m.block p v (Lib.byteCells s) ⟨t.toArray⟩ w b1 b2 b3 b4 (by rw [Lib.byteCells_length, hts]; omega)).mono fun e' w' ⟨e1, v', e2, e3, e4, e5, e6, e7⟩ => ⟨_, e1, ?_⟩)
 have hcat : Lib.byteCells s ++ Lib.strCells ⟨t.toArray⟩ = Lib.byteCells (s ++ t) := by
  simp [Lib.byteCells, Lib.strCells]
 rw [hcat, Lib.byteCells_length, hts] at e3
 refine qe5 hw hm hb0 b6 e5 e2 (.inr rfl) (by simpa using e3) e4 (fun h => ?_) e6 fun _ => ?_
 ·simp only [List.append_eq_nil_iff] at h
  exact e7.2 ⟨b5 h.1, by rw [hts, h.2]; rfl⟩
 ·rw [hts]
  exact Rep.tup [.int .i64 t.length, .nilI] [.int .i64 t.length, .nilIface] rfl fun i a u h1 h2 => by
   rcases i with _ | _ | i
   ·simp at h1 h2; subst h1; subst h2; exact .int _ _
   ·simp at h1 h2; subst h1; subst h2; exact .nilI
   ·simp at h1
theorem qmu : OkU 66 (qal vw.look) := fun args H r H' hr C μ w vs ha hw => by
 unfold qal at hr
 split at hr
 case h_2 => cases hr
 rename_i T e s l
 split at hr
 case isFalse => cases hr
 rename_i hc
 cases hr
 obtain ⟨h1, h2⟩ := hc
 obtain ⟨rfl, hT⟩ := qeV h1
 obtain ⟨hl, hv⟩ := ha
 obtain ⟨x, rfl⟩ : ∃ x, vs = #[x] := by
  obtain ⟨l⟩ := vs
  match l, hl with
  | [x], _ => exact ⟨x, rfl⟩
 obtain ⟨m, hm, rfl, hb0, p, v, b1, b2, b3, b4, b5, b6⟩ := qg2 (hv 0 _ _ rfl rfl) hw
 refine vt Tryz.func66 (by rfl) rfl ((qpb m.block p v s w b1 b3 b4 b5).mono fun e' w' ⟨e1, e2, e3, e4⟩ => ⟨_, e1, ?_⟩)
 exact qe5 hw hm hb0 b6 e4 e2 b2 e3 b4 b5 (.inl rfl) fun _ => .str _
end
section
variable [Lent] {C : qb} {μ : MMap} {w w' : World}
def qoP [Lent] (g : Nat) : Prop := ∃ v t fz, Lent.l g 0 = some v ∧ Lent.k g = some (.cells (Lib.pow10Tab.map fun z => Value.int .u64 z).toArray t fz)
theorem qo4 (hT : ∃ g, Tryz.prog.globalNamed "internal/strconv.uint64pow10" = some g ∧ qoP g) : OkU 29 qb5 := fun args H r H' hr C μ w vs ha hw => by
 unfold qb5 at hr
 split at hr
 case h_2 => cases hr
 rename_i n
 split at hr
 case isFalse => cases hr
 rename_i hc
 cases hr
 obtain ⟨hl, hv⟩ := ha
 obtain ⟨x, rfl⟩ : ∃ x, vs = #[x] := by
  obtain ⟨l⟩ := vs
  match l, hl with
  | [x], _ => exact ⟨x, rfl⟩
 have q0 := hv 0 _ _ rfl rfl
 cases q0
 obtain ⟨g, hg, v, t, fz, t1, t2⟩ := hT
 have htab : Lib.TabIs Tryz.prog w "internal/strconv.uint64pow10" .u64 Lib.pow10Tab := by
  have := (hw.lnt.1 g 0 v t1).2 _ t2
  unfold Lib.TabIs World.var?
  simp only [hg, qqt, this]
 refine vt Tryz.func29 (by rfl) rfl ((Tryz.strconv_Itoa n hc.1 hc.2 w htab).mono fun e w' ⟨e1, k, os, e2⟩ => ⟨_, e1, ?_⟩)
 subst e2
 rw [qa3 hc.1 hc.2]
 exact qau hw (Go.Lib.below_grow _ w (qqo _) k os) (.str _)
theorem qo3 : OkU 32 qkS := fun args H r H' hr C μ w vs ha hw => by
 unfold qkS at hr
 split at hr
 case h_2 => cases hr
 rename_i rows sep
 split at hr
 case h_2 => cases hr
 rename_i xs hxs
 split at hr
 case isFalse => cases hr
 rename_i hc
 cases hr
 obtain rfl := qeo hxs
 obtain ⟨hl, hv⟩ := ha
 obtain ⟨x, y, rfl⟩ := qaS hl
 have q0 := hv 0 _ _ rfl rfl
 have q1 := hv 1 _ _ rfl rfl
 cases q1
 generalize hrows : xs.map (fun s => [AV.str s]) = rows at q0
 by_cases hx : xs = []
 ·subst hx
  simp at hrows
  subst hrows
  have fin : ∀ a c, x = .slice a 0 c → qL Tryz.prog (callFunc 32 #[x, .string ⟨sep.toArray⟩]) w (qZ C μ H w (.str (Lib.join [] sep)) H) := fun a c hxx => by
   subst hxx
   refine vt Tryz.func32 (by rfl) rfl ((Tryz.strings_Join_none a c ⟨sep.toArray⟩ w).mono fun e w' ⟨e1, e2⟩ => ⟨_, e1, ?_⟩)
   subst e2
   exact ⟨C, μ, .str [], hw, Ext.refl (qqo _)⟩
  cases q0 with
  | slNil => exact fin _ _ rfl
  | sl _ a cap sz vals h1 h2 h3 h4 h5 h6 h7 => exact fin _ _ rfl
 ·cases q0 with
  | slNil => simp at hrows; exact absurd hrows hx
  | sl _ a cap sz vals h1 h2 h3 h4 h5 h6 h7 =>
   subst hrows
   have hne : xs.map (fun s => [AV.str s]) ≠ [] := by simpa using hx
   obtain ⟨bk, o, sp⟩ := a
   obtain rfl : sp = none := h1 hne
   have hsz : sz = 1 := by
    cases xs with
    | nil => exact absurd rfl hx
    | cons s l => exact (h2 0 [.str s] rfl).symm
   subst hsz
   have hcell : ∀ (j : Nat) s, xs[j]? = some s → w.cell? ⟨bk, o + j, none⟩ = some (.string ⟨s.toArray⟩) := fun j s hj => by
    have g1 : (xs.map (fun s => [AV.str s]))[j]? = some [.str s] := by simp [hj]
    have g2 := hw.cl _ _ _ (h3 j 0 _ (.str s) g1 rfl)
    have g3 := h4 j 0 _ (.str s) g1 rfl
    generalize vals j 0 = u at g2 g3
    cases g3
    simpa using g2
   have hbk : bk < w.heap.size := by
    cases xs with
    | nil => exact absurd rfl hx
    | cons s l => exact World.block_lt_of_cell? w _ (hcell 0 s rfl)
   have hlen : ((xs.map fun s => (⟨s.toArray⟩ : ByteArray)).map (·.data.toList)) = xs := by rw [List.map_map]; exact List.map_id xs
   have := Tryz.strings_Join bk o cap (xs.map fun s => ⟨s.toArray⟩) ⟨sep.toArray⟩ w (fun j x hj => by
    simp only [List.getElem?_map, qql] at hj
    obtain ⟨s, hs, rfl⟩ := hj
    exact hcell j s hs) hbk (by simpa using hc.1) (by simpa using h6) (by rw [hlen]; exact hc.2)
   rw [hlen] at this
   have hll : (xs.map fun s => [AV.str s]).length = (xs.map fun s => (⟨s.toArray⟩ : ByteArray)).length := by simp
   rw [hll]
   exact vt Tryz.func32 (by rfl) rfl (this.mono fun e w' ⟨e1, e2⟩ => ⟨_, e1, qau hw e2 (.str _)⟩)
end
structure Vars [Lent] : Prop where
 m : ∃ m, Lent.l 0 0 = some (.int .i64 m)
 e : (qaI 124 qb4).isSome = true → qhZ 2 ∧ qhZ 3
 t : ∃ g, Tryz.prog.globalNamed "internal/strconv.uint64pow10" = some g ∧ qoP g
theorem qmN (f : FuncId) (fn : Func) (h : Tryz.prog.funcs[f]? = some fn) : (fn.name == "runtime.NumGoroutine") = false := by
 have h1 := List.all_eq_true.1 qnO fn (by
  rw [← qqJ] at h
  exact qqx h)
 simpa using h1
theorem qo7 [Lent] {args : List AV} {H H' : AH} {r : AV} {C : qb} {μ : MMap} {w : World} {vs : Array Value} (hr : qgg args H = some (r, H')) (ha : qj C μ args vs) (hw : Wld C μ H w) : qL Tryz.prog (callFunc 219 vs) w (qZ C μ H w r H') := qjd (P := Tryz.prog) Tryz.func219 (by rfl) (by rfl) (by kernel_rfl) (by kernel_rfl) hr ha hw
theorem qo9 [Lent] (h : Vars) : CfgOk cfg where
 ty := ⟨fun t ti h => BT.all_look qpy h⟩
 mixed := qnP
 named := fun f fn _ h => qmN f fn h
 ext := fun f s hs => by
  have hs : qaI f qb4 = some s := hs
  refine qiH (l := qb4) ?_ hs
  unfold qb4
  rw [qgf]
  simp only [List.forall_mem_cons, List.not_mem_nil, false_implies, implies_true, and_true]
  and_intros
  all_goals first
   | exact qh8
   | exact qgF
   | exact qmu
   | exact qo3
   | exact qo4 h.t
   | exact fun _ _ _ _ hr _ _ _ _ ha hw => qpE hr ha hw
   | exact fun _ _ _ _ hr _ _ _ _ ha hw => qkv h.m hr ha hw
   | exact fun _ _ _ _ hr _ _ _ _ ha hw => qnK (h.e rfl).1 (h.e rfl).2 hr ha hw
   | exact fun _ _ _ _ hr _ _ _ _ ha hw => qo7 hr ha hw
@[instance_reducible] def zw (W : World) : Lent := ⟨fun b o => if (b = 0 ∨ b = 1 ∨ b = 2 ∨ b = 3) ∧ o = 0 then W.cell? ⟨b, o, none⟩ else none, False, fun _ => True, fun b => if b = 1 then W.heap[b]? else none⟩
theorem wldU (W : World) : @Wld (zw W) (C0 W) M0 [] W := by
 letI := zw W
 exact ⟨fun _ _ _ h => h, fun id m h => (by cases h), fun id h => (by simp at h), fun id b h => (by simp at h), fun id d sz rs h => (by simp at h), fun i i' b b' m m' h => (by simp at h), yT.nil, by
  refine ⟨fun b o v h => ?_, fun h => h.elim, fun _ _ => trivial⟩
  have h : (if (b = 0 ∨ b = 1 ∨ b = 2 ∨ b = 3) ∧ o = 0 then W.cell? ⟨b, o, none⟩ else none) = some v := h
  split at h
  ·refine ⟨h, fun ob hk => ?_⟩
   have hk : (if b = 1 then W.heap[b]? else none) = some ob := hk
   split at hk
   ·exact hk
   ·cases hk
  ·cases h⟩
end Go.Proofs.YtnjonahoheopnaaGreatDoor
end
section
namespace Go.Proofs.YtnjonahoheopnaaGreatDoor
open Go.Av Go.ChangeShapes Go.WideShapes Go.ChangeAt Go.RowKit
theorem qnL : ownKnob Tryz.prog.godebug = none := by kernel_rfl
theorem qnB : TermTys Tryz.prog 37 35 3 9 where
 uT := ⟨_, _, _, _, Tryz.underlying37, rfl, rfl, rfl, rfl, rfl, rfl, rfl, rfl⟩
 uL := Tryz.underlying35
 uI := Tryz.underlying3
 uS := Tryz.underlying9
 cT := by kernel_rfl
 cL := by kernel_rfl
 cI := by kernel_rfl
 cS := by kernel_rfl
section
variable {H : Type} {enc : TypeId × Value → H} {P : Program} {W W' : World}
theorem qmK {f : Func} {s : ChangeSpec} {apart fresh handsOn again : Bool} {args : Array Value} {v : Value} {ds gs : List (DataW H)} {before pa pv : List MemPlace}
  (hW : DataW.Whole enc P f.params.toList s.vars apart W args.toList ds gs before)
  (hres : ∀ (b : Nat) (sp : Nat → Bool) (hd : Bool), DataW.TrodAll enc P W' b sp hd f.resultTypes.toList (v.resultList f.resultTypes.size) (s.fn H (ds ++ gs)).results [])
  (hargs : ∀ sp : Nat → Bool, (∀ p ∈ before, sp p.block = true) → DataW.TrodAll enc P W' 0 sp true f.params.toList args.toList (s.fn H (ds ++ gs)).args pa)
  (hvars : ∀ sp : Nat → Bool, (∀ p ∈ before, sp p.block = true) → DataW.TrodVars enc P W' sp s.vars (s.fn H (ds ++ gs)).vars pv)
  (hps : before = pa ++ pv) (hk : W.keptBut W' (· ∈ before)) (hfz : ∀ b o, b < W.heap.size → W'.frozen? ⟨b, o, none⟩ = W.frozen? ⟨b, o, none⟩)
  (hok : ∀ (j : Nat) (t : TypeId) (r : Value), f.resultTypes[j]? = some t → (v.resultList f.resultTypes.size)[j]? = some r → Value.okWide P W' .any 0 t r) :
  s.post enc P f apart fresh handsOn again W args v W' := by
 have hlt := hW.lt
 have hold : ∀ p ∈ before, (fun b => decide (b < W.heap.size)) p.block = true := fun p hp => by simpa using hlt p hp
 refine ⟨ds, gs, before, [], pa, pv, hW, hres _ _ _, hargs _ hold, hvars _ hold, World.keptBut_mono (fun p hp => ⟨hp, ?_⟩) hk, fun _ => ?_⟩
 ·rw [hps, qqI] at hp
  exact Or.inr hp
 ·obtain ⟨_, _, _, _, _, hz, hn⟩ := hW
  refine ⟨hok, _, _, ([] ++ pa) ++ pv, ⟨[] ++ pa, pv, trodAll_append (hargs _ (fun _ _ => rfl)) (hres _ _ _), hvars _ (fun _ _ => rfl), rfl, ?_, ?_⟩, ?_⟩
  ·intro b off hp
   have hp' : MemPlace.cell b off ∈ before := by rw [hps]; simpa using hp
   rw [hfz b off (hlt _ hp')]
   exact hz b off hp'
  ·intro ha
   have := hn ha
   rw [hps] at this
   simpa using this
  ·intro p hp _
   rw [hps]
   simpa using hp
theorem qiO (h : ∀ b, b < W.heap.size → W'.heap[b]? = W.heap[b]?) (ho : W'.os = W.os) (hu : W'.output = W.output) (may : MemPlace → Prop) : W.keptBut W' may := by
 refine ⟨ho, hu, fun i hi => ?_⟩
 rw [h i hi]
 cases W.heap[i]? with
 | none => rfl
 | some o => cases o <;> simp
theorem qip (h : ∀ b, b < W.heap.size → W'.heap[b]? = W.heap[b]?) {p : MemPlace} (hp : p.block < W.heap.size) : W.sameAt W' p := by
 cases p with
 | cell b o => simp only [World.sameAt, World.cell?]; rw [h b hp]
 | map b => exact h b hp
theorem frozen_of_heap (h : ∀ b, b < W.heap.size → W'.heap[b]? = W.heap[b]?) (b o : Nat) (hb : b < W.heap.size) : W'.frozen? ⟨b, o, none⟩ = W.frozen? ⟨b, o, none⟩ := by
 simp only [World.frozen?]; rw [h b hb]
structure Opened (enc : TypeId × Value → H) (P : Program) (W : World) (t : TypeId) (v : Value) (d : DataW H) (ps : List MemPlace) (a : AV) : Prop where
 rep : Rep (C0 W) M0 a v
 back : ∀ (W' : World) (sp : Nat → Bool), (∀ p ∈ ps, W.sameAt W' p) → (∀ p ∈ ps, sp p.block = true) → DataW.Trod enc P W' 0 sp true t v d ps
end
theorem qpa {H : Type} {l : List (DataW H)} (hk : Rows.uptoSmall H l = true) {d : DataW H} (hd : d ∈ l) : Rows.uptoBulk d < 1099511627776 := by
 have h : Rows.uptoBulkAll l ≤ 1048576 := of_decide_eq_true hk
 have := qm9 hd
 omega
theorem qoU {C : qb} {a : AV} {x : Value} (h1 : Rep C M0 a x) : qj C M0 [a] #[x] := ⟨rfl, fun i c v hc hv => by
 match i, hc, hv with
 | 0, hc, hv => simp at hc hv; subst hc hv; exact h1
 | (i + 1), hc, hv => simp at hc⟩
structure VarsW (W : World) : Prop where
 m : ∃ m, W.cell? ⟨0, 0, none⟩ = some (.int .i64 m)
 s : ∃ ev, W.cell? ⟨2, 0, none⟩ = some ev ∧ (ev = .nilIface ∨ ∃ te pe, ev = .iface te pe)
 r : ∃ ev, W.cell? ⟨3, 0, none⟩ = some ev ∧ (ev = .nilIface ∨ ∃ te pe, ev = .iface te pe)
 t : Lib.TabIs Tryz.prog W "internal/strconv.uint64pow10" .u64 Lib.pow10Tab
theorem qoK (L : Lent) (C : qb) (hL : ∀ b, L.nw b) : @LC L C = C := by
 funext b o
 unfold LC
 rw [if_pos (hL b)]
theorem qmF {L : Lent} [L' : Lent] {C : qb} {μ : MMap} {a : AV} {v : Value} (e : @LC L' C = @LC L C) (h : @Rep L C μ a v) : @Rep L' C μ a v := by
 induction h with
 | int k n => exact .int k n
 | bool b => exact .bool b
 | str s => exact .str s
 | agg cs vs hl _ ih => exact .agg cs vs hl ih
 | tup cs vs hl _ ih => exact .tup cs vs hl ih
 | nilS => exact .nilS
 | slNil => exact .slNil
 | em a cap => exact .em a cap
 | sl rows a cap sz vals h1 h2 h3 _ h5 h6 h7 ih => exact .sl rows a cap sz vals h1 h2 h3 ih h5 h6 h7
 | ms id off len cap a m hm hl ha => exact .ms id off len cap a m hm hl ha
 | msN id off => exact .msN id off
 | nilP => exact .nilP
 | ptr id row off m hm => exact .ptr id row off m hm
 | cptr cells off b o vals hc _ ih => exact .cptr cells off b o vals hc ih
 | fn f first caps vf vc h1 h2 _ _ i1 i2 => exact .fn f first caps vf vc h1 h2 i1 i2
 | yld id m hm => exact .yld id m hm
 | nilF => exact .nilF
 | nilM => exact .nilM
 | mp id m hm => exact .mp id m hm
 | nilI => exact .nilI
 | ifc t a v _ ih => exact .ifc t a v ih
 | lsl rows v h => exact .lsl rows v (by rw [e]; exact h)
 | lpt cells off b o vals hc hr => exact .lpt cells off b o vals (by rw [e]; exact hc) (by rw [e]; exact hr)
 | rsl id rows v D hD h => exact .rsl id rows v D hD h
 | rpt id cells off b o vals m hm hc hr => exact .rpt id cells off b o vals m hm hc hr
 | alt l i a v ha _ ih => exact .alt l i a v ha ih
 | wr n a ad c hn _ ih => exact .wr n a ad c hn ih
 | junk v => exact .junk v
theorem qmE {W : World} {C : qb} {μ : MMap} {a : AV} {v : Value} (h : Rep C μ a v) : @Rep (zw W) C μ a v :=
 @qmF _ (zw W) _ _ _ _ (Eq.trans (qoK (zw W) C fun _ => trivial) (Eq.symm (qoK instLent C fun _ => trivial))) h
theorem qnX (W : World) {C : qb} {μ : MMap} {al : List AV} {vs : Array Value} (h : qj C μ al vs) : @qj (zw W) C μ al vs := ⟨h.1, fun i a v h1 h2 => qmE (h.2 i a v h1 h2)⟩
structure VarsC (W : World) : Prop where
 m : ∃ m, W.cell? ⟨0, 0, none⟩ = some (.int .i64 m)
 t : Lib.TabIs Tryz.prog W "internal/strconv.uint64pow10" .u64 Lib.pow10Tab
theorem qpx {W : World} (h : VarsC W) : @Vars (zw W) := by
 letI := zw W
 have g1 : Tryz.prog.globalNamed "internal/strconv.uint64pow10" = some 1 := by kernel_rfl
 have hl : ∀ b, (b = 0 ∨ b = 1 ∨ b = 2 ∨ b = 3) → (zw W).l b 0 = W.cell? ⟨b, 0, none⟩ := fun b hb => if_pos ⟨hb, rfl⟩
 refine ⟨?_, fun hx => ?_, _, g1, ?_⟩
 ·obtain ⟨m, hm⟩ := h.m
  exact ⟨m, (hl _ (.inl rfl)).trans hm⟩
 ·unfold qb4 at hx
  rw [qgf] at hx
  cases hx
 ·have ht := h.t
  have h0 := ht.cell g1 0 (by decide)
  unfold Lib.TabIs World.var? at ht
  rw [g1] at ht
  simp only [qqt] at ht
  split at ht
  ·rename_i cs t fz hw
   cases ht
   exact ⟨_, t, fz, (hl _ (.inr (.inl rfl))).trans h0, (if_pos rfl).trans hw⟩
  ·cases ht
theorem qln {f : FuncId} {args : List AV} {vs : Array Value} {W : World} (hx : cfg.ext f = none) (hv : VarsC W) (he : EVs (EV cfg) f args = some (.bool true)) (ha : @qj (zw W) (C0 W) M0 args vs) :
  Calls Tryz.prog f vs W fun e W' => e = .returned (.bool true) ∧ (∀ b, b < W.heap.size → W'.heap[b]? = W.heap[b]?) ∧ W.heap.size ≤ W'.heap.size ∧ W'.os = W.os ∧ W'.output = W.output := by
 letI := zw W
 unfold EVs at he
 obtain ⟨q, h1, h2⟩ := qql.1 he
 have := qov (qo9 (qpx hv)) hx (r := q.1) (H' := q.2) h1 ha (wldU W)
 refine this.mono fun e W' ⟨v, hv, C', μ', p1, p2, p3⟩ => ?_
 rw [h2] at p1
 cases p1
 refine ⟨hv, fun b hb => (p3.fr b hb xl).1, p3.size, p3.os, p3.output⟩
def qfO : List (String × DataW Unit) := [("math/bits.deBruijn32tab", Rows.laid_math_bits_deBruijn32tab), ("math/bits.deBruijn64tab", Rows.laid_math_bits_deBruijn64tab), ("internal/strconv.uint64pow10", Rows.laid_internal_strconv_uint64pow10)]
theorem qp8 {W : World} (hsh : W.ShapedOpen Tryz.prog) (h : laidMetH Tryz.prog qfO W) : VarsC W := by
 rw [MakeChecks.laidMetH_plain _ _ _ (by kernel_rfl)] at h
 have g1 : Tryz.prog.globalNamed "internal/strconv.uint64pow10" = some 1 := by kernel_rfl
 have etab : (Rows.laid_internal_strconv_uint64pow10 : DataW Unit) = Lib.tabData .u64 Lib.pow10Tab := by kernel_rfl
 exact ⟨Tryz.laysM144.s1_3 W hsh,
  Go.Lib.tabIs_of_head (t := 192) (e := 141) (n := 20) g1 (by kernel_rfl) Tryz.underlying192 Tryz.underlying141 (by kernel_rfl) (by kernel_rfl) (by rw [← etab]; exact h.tail.tail)⟩
theorem metC (os : Os) (args : Array Value) : laidMetH Tryz.prog qfO ((World.doorLaid Tryz.prog 400 os).forCall (fun _ _ => 0) ⟨#[], args, []⟩).memory :=
 laidMetH_of_parts3 (fuel := 8) (laidMet_of_run' 8 (by kernel_rfl) (by kernel_rfl)) (by kernel_rfl) (by kernel_rfl)
noncomputable abbrev za1 (s s_1 : Bz) : Option (AV) := kOpt (bif qqB (qqp s + qqp s_1) 9223372036854775807 then some (.str (qqE s s_1)) else none) fun v => kStr v fun s => some (.str s)
noncomputable abbrev za0 (v : AV) (s : Bz) : Option (AV) := kStr v fun s_1 => za1 s s_1
theorem qht (n : Int) {P : AV → Prop} (h : Gets (bif decide (n < 0) then bif decide (n > (- 10)) then kOpt (EVs (EV cfg) 42 [AV.int .i64 (IntKind.wrap .i64 (0 - n))]) fun v => kStr v fun s => kOpt (bif qqB (1 + qqp s) 9223372036854775807 then some (.str ((45 : UInt8) :: s)) else none) fun v => kStr v fun s => some (.str s) else kOpt (qt (Op.intDiv BinOp.quo .i64 n 10)) fun v => kInt .i64 v fun n_1 => kOpt (EVs (EV cfg) 42 [AV.int .i64 n_1]) fun v => kStr v fun s => kOpt (qt (Op.intDiv BinOp.rem .i64 n 10)) fun v => kInt .i64 v fun n => kOpt (EVs (EV cfg) 42 [AV.int .i64 (IntKind.wrap .i64 (0 - n))]) fun v => za0 v s else bif decide (n < 10) then bif qg 0 (IntKind.wrap .i64 (n + 1)) && qg (IntKind.wrap .i64 (n + 1)) 10 then bif qg 0 n && qg n (↑ (qqN (IntKind.wrap .i64 (n + 1))) : Int) then some (AV.str (qqM (qqN (IntKind.wrap .i64 (n + 1)) - n.toNat) (List.drop (n.toNat) [(48 : UInt8), (49 : UInt8), (50 : UInt8), (51 : UInt8), (52 : UInt8), (53 : UInt8), (54 : UInt8), (55 : UInt8), (56 : UInt8), (57 : UInt8)]))) else none else none else kOpt (qt (Op.intDiv BinOp.quo .i64 n 10)) fun v => kInt .i64 v fun n_1 => kOpt (EVs (EV cfg) 42 [AV.int .i64 n_1]) fun v => kStr v fun s => kOpt (qt (Op.intDiv BinOp.rem .i64 n 10)) fun v => kInt .i64 v fun n => kOpt (EVs (EV cfg) 42 [AV.int .i64 n]) fun v => za0 v s) P) : Gets (EVs (EV cfg) 42 [.int .i64 n]) P :=
  gE (fun _ => funS rfl rfl Tryz.func42 rfl) (by kernel_rfl) h
theorem ql4 (o a b k n : Int) (s : Bz) (l : Rz) {P : AV → Prop} (h : Gets (kOpt (EVs (EV cfg) 41 [AV.int .i64 o]) fun v => kStr v fun s_1 => kOpt (bif qqB (qqp s_1 + 1) 9223372036854775807 then some (.str (qqE s_1 [(32 : UInt8)])) else none) fun v => kStr v fun s_2 => kOpt (EVs (EV cfg) 42 [AV.int .i64 a]) fun v => kStr v fun s_3 => kOpt (bif qqB (qqp s_2 + qqp s_3) 9223372036854775807 then some (.str (qqE s_2 s_3)) else none) fun v => kStr v fun s_4 => kOpt (bif qqB (qqp s_4 + 1) 9223372036854775807 then some (.str (qqE s_4 [(32 : UInt8)])) else none) fun v => kStr v fun s_5 => kOpt (EVs (EV cfg) 42 [AV.int .i64 b]) fun v => kStr v fun s_6 => kOpt (bif qqB (qqp s_5 + qqp s_6) 9223372036854775807 then some (.str (qqE s_5 s_6)) else none) fun v => kStr v fun s_7 => kOpt (EVf (EV cfg) 43 [.agg [.int .i64 k, .int .i64 n, .str s, .sl l]]) fun v => kTup v fun cs => q8 cs fun c cs => kStr c fun s => q8 cs fun c cs => kInt .i64 c fun n => kNil cs (bif n == 0 then kOpt (bif qqB (qqp s_7 + 1) 9223372036854775807 then some (.str (qqE s_7 [(32 : UInt8)])) else none) fun v => kStr v fun s_8 => za1 s_8 s else some (.str s_7))) P) : Gets (EVs (EV cfg) 17 [.agg [.int .i64 o, .int .i64 a, .int .i64 b, .int .i64 k, .int .i64 n, .str s, .sl l]]) P :=
  gE (fun _ => funS rfl rfl Tryz.func17 rfl) (by kernel_rfl) h
noncomputable abbrev za11 (s s_7 : Bz) : Option (AV) := kOpt (bif qqB (1 + qqp s) 9223372036854775807 then some (.str ((32 : UInt8) :: s)) else none) fun v => za0 v s_7
noncomputable abbrev za10 (n : Int) (s s_7 : Bz) : Option (AV) := bif n == 0 then za11 s s_7 else some (.str s_7)
noncomputable abbrev za9 (cs : List AV) (n : Int) (s s_7 : Bz) : Option (AV) := kNil cs (za10 n s s_7)
noncomputable abbrev za8 (c : AV) (cs : List AV) (s s_7 : Bz) : Option (AV) := kInt .i64 c fun n => za9 cs n s s_7
noncomputable abbrev za7 (cs : List AV) (s s_7 : Bz) : Option (AV) := q8 cs fun c cs => za8 c cs s s_7
noncomputable abbrev za6 (c : AV) (cs : List AV) (s_7 : Bz) : Option (AV) := kStr c fun s => za7 cs s s_7
noncomputable abbrev za5 (cs : List AV) (s_7 : Bz) : Option (AV) := q8 cs fun c cs => za6 c cs s_7
noncomputable abbrev za4 (v : AV) (s_7 : Bz) : Option (AV) := kTup v fun cs => za5 cs s_7
noncomputable abbrev za3 (k n : Int) (s : Bz) (l : Rz) (s_7 : Bz) : Option (AV) := kOpt (EVf (EV cfg) 30 [.agg [.int .i64 k, .int .i64 n, .str s, .sl l]]) fun v => za4 v s_7
noncomputable abbrev za2 (v : AV) (k n : Int) (s : Bz) (l : Rz) : Option (AV) := kStr v fun s_7 => za3 k n s l s_7
noncomputable abbrev za22 (s_5 : Bz) (k n : Int) (s : Bz) (l : Rz) : Option (AV) := kOpt (bif qqB (1 + qqp s_5) 9223372036854775807 then some (.str ((63 : UInt8) :: s_5)) else none) fun v => za2 v k n s l
noncomputable abbrev za21 (v : AV) (k n : Int) (s : Bz) (l : Rz) : Option (AV) := kStr v fun s_5 => za22 s_5 k n s l
noncomputable abbrev za20 (s_3 s_4 : Bz) (k n : Int) (s : Bz) (l : Rz) : Option (AV) := kOpt (bif qqB (qqp s_3 + qqp s_4) 9223372036854775807 then some (.str (qqE s_3 s_4)) else none) fun v => za21 v k n s l
noncomputable abbrev za19 (v : AV) (s_3 : Bz) (k n : Int) (s : Bz) (l : Rz) : Option (AV) := kStr v fun s_4 => za20 s_3 s_4 k n s l
noncomputable abbrev za18 (b : Int) (s_3 : Bz) (k n : Int) (s : Bz) (l : Rz) : Option (AV) := kOpt (EVs (EV cfg) 29 [AV.int .i64 b]) fun v => za19 v s_3 k n s l
noncomputable abbrev za17 (v : AV) (b k n : Int) (s : Bz) (l : Rz) : Option (AV) := kStr v fun s_3 => za18 b s_3 k n s l
noncomputable abbrev za16 (s_2 : Bz) (b k n : Int) (s : Bz) (l : Rz) : Option (AV) := kOpt (bif qqB (qqp s_2 + 1) 9223372036854775807 then some (.str (qqE s_2 [(32 : UInt8)])) else none) fun v => za17 v b k n s l
noncomputable abbrev za15 (v : AV) (b k n : Int) (s : Bz) (l : Rz) : Option (AV) := kStr v fun s_2 => za16 s_2 b k n s l
noncomputable abbrev za14 (s_1 : Bz) (b k n : Int) (s : Bz) (l : Rz) : Option (AV) := kOpt (bif qqB (1 + qqp s_1) 9223372036854775807 then some (.str ((32 : UInt8) :: s_1)) else none) fun v => za15 v b k n s l
noncomputable abbrev za13 (v : AV) (b k n : Int) (s : Bz) (l : Rz) : Option (AV) := kStr v fun s_1 => za14 s_1 b k n s l
noncomputable abbrev za12 (a b k n : Int) (s : Bz) (l : Rz) : Option (AV) := kOpt (EVs (EV cfg) 29 [AV.int .i64 a]) fun v => za13 v b k n s l
theorem ql0 (o a b k n : Int) (s : Bz) (l : Rz) {P : AV → Prop} (h : Gets (kOpt (EVf (EV cfg) 40 []) fun v => kSl v fun rows => bif decide (o > 0) then bif decide (o < (rows.length : Int)) then bif qg 0 o && qz o (rows.length : Int) then kOpt (qqy rows (o.toNat)) fun row => bif qqz (qqp row) 1 then kOpt (qqy row 0) fun v => kStr v fun s_1 => kOpt (EVs (EV cfg) 29 [AV.int .i64 a]) fun v => kStr v fun s_2 => kOpt (bif qqB (1 + qqp s_2) 9223372036854775807 then some (.str ((32 : UInt8) :: s_2)) else none) fun v => kStr v fun s_3 => kOpt (bif qqB (qqp s_3 + 1) 9223372036854775807 then some (.str (qqE s_3 [(32 : UInt8)])) else none) fun v => kStr v fun s_4 => kOpt (EVs (EV cfg) 29 [AV.int .i64 b]) fun v => kStr v fun s_5 => kOpt (bif qqB (qqp s_4 + qqp s_5) 9223372036854775807 then some (.str (qqE s_4 s_5)) else none) fun v => kStr v fun s_6 => kOpt (bif qqB (qqp s_1 + qqp s_6) 9223372036854775807 then some (.str (qqE s_1 s_6)) else none) fun v => za2 v k n s l else none else none else za12 a b k n s l else za12 a b k n s l) P) : Gets (EVs (EV cfg) 16 [.agg [.int .i64 o, .int .i64 a, .int .i64 b, .int .i64 k, .int .i64 n, .str s, .sl l]]) P :=
  gE (fun _ => funS rfl rfl Tryz.func16 rfl) (by kernel_rfl) h
noncomputable def qnn : Den := evC cfg (EV cfg) 15 none 0 (sub (qn Tryz.f15) [1, 0, 1, 0, 0])
noncomputable def qnr : Ex × List AV × AH → Option AV := kAft (Cfg.keepOut cfg 15 2) (kRun cfg (EV cfg) (kfN cfg 6) 15 none 0 (x7 cfg (Cfg.lift cfg 15 0) Tryz.f15.results.toList) ([.block 0, .seq (sub (qn Tryz.f15) [1, 1])]))
noncomputable def qnj : List AV × AH → Option AV := fun p => kOpt (LOOP 0 (some [0, 3]) ([]) qnn p) qnr
noncomputable abbrev qbf (l : Rz) (v3 : Int) : Option (AV) := qnj  (((fx 15 [(0, .sl l), (3, .int .i64 v3)]) : List AV), ([] : AH))
theorem qiN (l : Rz) {P : AV → Prop} (h : Gets (qbf l 0) P) : Gets (EVs (EV cfg) 15 [.sl l]) P :=
  gE (fun _ => funS rfl rfl Tryz.func15 rfl) (by kernel_rfl) h
theorem qbM (l : Rz) (v3 : Int) {P : AV → Prop} (h : Gets (bif decide (v3 < (l.length : Int)) then bif qg 0 v3 && qz v3 (l.length : Int) then kOpt (qqy l (v3.toNat)) fun row => bif qqz (qqp row) 4 then bif qqB 4 (qqp row) then kTmC (qqM 4 row) fun n n_1 s rows => (kOpt (EVs (EV cfg) 39 [.agg [.int .i64 n, .int .i64 n_1, .str s, .sl rows], .int .i64 400]) fun v => q6 v fun b => bif b then some (.bool true) else qbf l (IntKind.wrap .i64 (v3 + 1))) else none else none else none else some (.bool false)) P) : Gets (qbf l v3) P :=
  gE (fun _ => qS (cfg := cfg) (f := 15) (rd := none) (bs := 0)) (by kernel_rfl) h
theorem qiM (o a b k n : Int) (s : Bz) (l : Rz) {P : AV → Prop} (h : Gets (kOpt (EVs (EV cfg) 15 [.sl [[AV.int .i64 k, .int .i64 n, .str s, .sl l]]]) fun v => q6 v fun b_1 => bif b_1 then some (.bool true) else kOpt (EVs (EV cfg) 16 [.agg [.int .i64 o, .int .i64 a, .int .i64 b, .int .i64 k, .int .i64 n, .str s, .sl l]]) fun v => kStr v fun s_1 => kOpt (EVs (EV cfg) 17 [.agg [.int .i64 o, .int .i64 a, .int .i64 b, .int .i64 k, .int .i64 n, .str s, .sl l]]) fun v => kStr v fun s => bif s_1 == s then kOpt (EVs (EV cfg) 18 []) fun v => q6 v fun b => some (.bool b) else some (.bool false)) P) : Gets (EVs (EV cfg) 5 [.agg [.int .i64 o, .int .i64 a, .int .i64 b, .int .i64 k, .int .i64 n, .str s, .sl l]]) P :=
  gE (fun _ => funS rfl rfl Tryz.func5 rfl) (by kernel_rfl) h
theorem ql3 (n : Int) {P : AV → Prop} (h : Gets (bif decide (n < 1) then some (.str [(63 : UInt8)]) else bif decide (n > 20) then some (.str [(63 : UInt8)]) else bif qg 0 (IntKind.wrap .i64 (n - 1)) && qz (IntKind.wrap .i64 (n - 1)) 20 then kOpt (qqy [[.str [(116 : UInt8), (117 : UInt8), (112 : UInt8), (108 : UInt8), (101 : UInt8)]], [.str [(99 : UInt8), (111 : UInt8), (110 : UInt8), (115 : UInt8)]], [.str [(98 : UInt8), (105 : UInt8), (110 : UInt8), (100 : UInt8)]], [.str [(118 : UInt8), (97 : UInt8), (114 : UInt8)]], [.str [(97 : UInt8), (110 : UInt8), (121 : UInt8)]], [.str [(115 : UInt8), (97 : UInt8), (109 : UInt8), (101 : UInt8)]], [.str [(99 : UInt8), (111 : UInt8), (110 : UInt8), (115 : UInt8), (116 : UInt8)]], [.str [(108 : UInt8), (111 : UInt8), (97 : UInt8), (100 : UInt8)]], [.str [(111 : UInt8), (98 : UInt8), (106 : UInt8), (101 : UInt8), (99 : UInt8), (116 : UInt8)]], [.str [(97 : UInt8), (108 : UInt8), (108 : UInt8)]], [.str [(109 : UInt8), (97 : UInt8), (107 : UInt8), (101 : UInt8)]], [.str [(106 : UInt8), (111 : UInt8), (105 : UInt8), (110 : UInt8)]], [.str [(99 : UInt8), (97 : UInt8), (108 : UInt8), (108 : UInt8)]], [.str [(116 : UInt8), (114 : UInt8), (117 : UInt8), (101 : UInt8)]], [.str [(97 : UInt8), (110 : UInt8), (100 : UInt8)]], [.str [(111 : UInt8), (114 : UInt8)]], [.str [(98 : UInt8), (111 : UInt8), (111 : UInt8), (108 : UInt8)]], [.str [(98 : UInt8), (111 : UInt8), (100 : UInt8), (121 : UInt8)]], [.str [(100 : UInt8), (114 : UInt8), (111 : UInt8), (112 : UInt8)]], [.str [(116 : UInt8), (101 : UInt8), (108 : UInt8), (108 : UInt8)]]] (0 + qqN (IntKind.wrap .i64 (n - 1)))) fun row => kOpt (qqy row 0) fun v => kStr v fun s => some (.str s) else none) P) : Gets (EVs (EV cfg) 41 [.int .i64 n]) P :=
  gE (fun _ => funS rfl rfl Tryz.func41 rfl) (by kernel_rfl) h
noncomputable def qom : Den := evC cfg (EV cfg) 156 none 0 (sub (qn Tryz.f156) [1, 1, 0, 1, 0, 0])
noncomputable def qox : Ex × List AV × AH → Option AV := kAft (Cfg.keepOut cfg 156 3) (kRun cfg (EV cfg) (kfN cfg 6) 156 none 0 (x7 cfg (Cfg.lift cfg 156 0) Tryz.f156.results.toList) ([.block 0, .seq (sub (qn Tryz.f156) [1, 1, 1])]))
noncomputable def qoe : List AV × AH → Option AV := fun p => kOpt (LOOP 0 (some [0, 3, 4]) ([]) qom p) qox
noncomputable def qop : Den := evC cfg (EV cfg) 120 none 0 (sub (qn Tryz.f120) [1, 1, 0, 1, 0, 0])
noncomputable def qoA : Ex × List AV × AH → Option AV := kAft (Cfg.keepOut cfg 120 4) (kRun cfg (EV cfg) (kfN cfg 6) 120 none 0 (x7 cfg (Cfg.lift cfg 120 0) Tryz.f120.results.toList) ([.block 0, .seq (sub (qn Tryz.f120) [1, 1, 1])]))
noncomputable def qoh : List AV × AH → Option AV := fun p => kOpt (LOOP 0 (some [0, 3]) ([]) qop p) qoA
noncomputable def qoo : Den := evC cfg (EV cfg) 121 none 0 (sub (qn Tryz.f121) [1, 1, 0, 1, 0, 0])
noncomputable def qoz : Ex × List AV × AH → Option AV := kAft (Cfg.keepOut cfg 121 3) (kRun cfg (EV cfg) (kfN cfg 6) 121 none 0 (x7 cfg (Cfg.lift cfg 121 0) Tryz.f121.results.toList) ([.block 0, .seq (sub (qn Tryz.f121) [1, 1, 1])]))
noncomputable def qog : List AV × AH → Option AV := fun p => kOpt (LOOP 0 (some [0, 3, 4]) ([]) qoo p) qoz
noncomputable def qon : Den := evC cfg (EV cfg) 122 none 0 (sub (qn Tryz.f122) [1, 1, 0, 1, 0, 0])
noncomputable def qoy : Ex × List AV × AH → Option AV := kAft (Cfg.keepOut cfg 122 3) (kRun cfg (EV cfg) (kfN cfg 6) 122 none 0 (x7 cfg (Cfg.lift cfg 122 0) Tryz.f122.results.toList) ([.block 0, .seq (sub (qn Tryz.f122) [1, 1, 1])]))
noncomputable def qof : List AV × AH → Option AV := fun p => kOpt (LOOP 0 (some [0, 3, 4]) ([]) qon p) qoy
noncomputable def qph : Den := evC cfg (EV cfg) 74 none 0 (sub (qn Tryz.f74) [1, 0, 1, 0, 1, 1, 1, 1, 1, 1, 1, 1, 1, 1, 1, 0, 1, 0, 1, 0, 0])
noncomputable def qpl : Ex × List AV × AH → Option AV := kAft (Cfg.keepOut cfg 74 17) (kRun cfg (EV cfg) (kfN cfg 6) 74 none 0 (x7 cfg (Cfg.lift cfg 74 0) Tryz.f74.results.toList) ([.block 1, .seq (sub (qn Tryz.f74) [1, 0, 1, 0, 1, 1, 1, 1, 1, 1, 1, 1, 1, 1, 1, 0, 1, 1]), .block 0, .seq (sub (qn Tryz.f74) [1, 1])]))
noncomputable def qpd : List AV × AH → Option AV := fun p => kOpt (LOOP 0 (some [1, 3, 4]) ([]) qph p) qpl
noncomputable def qpg : Den := evC cfg (EV cfg) 74 none 0 (sub (qn Tryz.f74) [1, 1, 1, 1, 0, 0, 0])
noncomputable def qpk : Ex × List AV × AH → Option AV := kAft (Cfg.keepOut cfg 74 27) (kRun cfg (EV cfg) (kfN cfg 6) 74 none 0 (x7 cfg (Cfg.lift cfg 74 0) Tryz.f74.results.toList) ([.block 3, .seq (sub (qn Tryz.f74) [1, 1, 1, 1, 1])]))
noncomputable def qpc : List AV × AH → Option AV := fun p => kOpt (LOOP 0 (some [1, 5]) ([]) qpg p) qpk
noncomputable abbrev qaO (s : Bz) (v4 : Int) (h0 : Rz) : Option (AV) := qoe  (((fx 18 [(0, .str s), (3, .ms 0 0 17), (4, .int .i64 v4)]) : List AV), ([.rows true 1 h0] : AH))
noncomputable abbrev xW (s : Bz) (v3 : Int) : Option (AV) := qoh  (((fx 57 [(0, .str s), (3, .int .i64 v3)]) : List AV), ([] : AH))
noncomputable abbrev zK (s v3 : Bz) (v4 : Int) : Option (AV) := qog  (((fx 54 [(0, .str s), (3, .str v3), (4, .int .i64 v4)]) : List AV), ([] : AH))
noncomputable abbrev qcj (l : Rz) (v3 : Bz) (v4 : Int) : Option (AV) := qof  (((fx 23 [(0, .sl l), (3, .str v3), (4, .int .i64 v4)]) : List AV), ([] : AH))
noncomputable abbrev qdW (v3 : Bz) (v4 c0_0 c0_1 : Int) (c0_2 : Bz) (c0_3 : Rz) : Option (AV) := qpd  (((fx 113 [(1, .ptr 0 0 0), (3, .str v3), (4, .int .i64 v4)]) : List AV), ([.rows false 4 [[.int .i64 c0_0, .int .i64 c0_1, .str c0_2, .sl c0_3]]] : AH))
noncomputable abbrev qdV (v5 : Bz) (c0_0 c0_1 : Int) (c0_2 : Bz) (c0_3 : Rz) : Option (AV) := qpc  (((fx 113 [(1, .ptr 0 0 0), (5, .str v5)]) : List AV), ([.rows false 4 [[.int .i64 c0_0, .int .i64 c0_1, .str c0_2, .sl c0_3]]] : AH))
theorem qif (c x y : Int) {P : AV → Prop} (h : Gets (bif decide (c ≥ x) then some (.bool (decide (c ≤ y))) else some (.bool false)) P) : Gets (EVs (EV cfg) 155 [.int .u8 c, .int .u8 x, .int .u8 y]) P :=
  gE (fun _ => funS rfl rfl Tryz.func155 rfl) (by kernel_rfl) h
theorem qk3 (s : Bz) {P : AV → Prop} (h : Gets (qaO s 0 [[.str [(97 : UInt8), (102 : UInt8), (116 : UInt8), (101 : UInt8), (114 : UInt8)]], [.str [(97 : UInt8), (110 : UInt8), (100 : UInt8)]], [.str [(97 : UInt8), (110 : UInt8), (100 : UInt8), (97 : UInt8), (108 : UInt8), (115 : UInt8), (111 : UInt8)]], [.str [(98 : UInt8), (101 : UInt8), (103 : UInt8), (105 : UInt8), (110 : UInt8)]], [.str [(99 : UInt8), (97 : UInt8), (115 : UInt8), (101 : UInt8)]], [.str [(99 : UInt8), (97 : UInt8), (116 : UInt8), (99 : UInt8), (104 : UInt8)]], [.str [(100 : UInt8), (105 : UInt8), (118 : UInt8)]], [.str [(101 : UInt8), (110 : UInt8), (100 : UInt8)]], [.str [(102 : UInt8), (117 : UInt8), (110 : UInt8)]], [.str [(110 : UInt8), (111 : UInt8), (116 : UInt8)]], [.str [(111 : UInt8), (102 : UInt8)]], [.str [(111 : UInt8), (114 : UInt8)]], [.str [(111 : UInt8), (114 : UInt8), (101 : UInt8), (108 : UInt8), (115 : UInt8), (101 : UInt8)]], [.str [(114 : UInt8), (101 : UInt8), (99 : UInt8), (101 : UInt8), (105 : UInt8), (118 : UInt8), (101 : UInt8)]], [.str [(114 : UInt8), (101 : UInt8), (109 : UInt8)]], [.str [(116 : UInt8), (114 : UInt8), (121 : UInt8)]], [.str [(119 : UInt8), (104 : UInt8), (101 : UInt8), (110 : UInt8)]]]) P) : Gets (EVs (EV cfg) 156 [.str s]) P :=
  gE (fun _ => funS rfl rfl Tryz.func156 rfl) (by kernel_rfl) h
theorem qjL (s : Bz) {P : AV → Prop} (h : Gets (bif s == [] then some (.bool false) else bif decide ((s.length : Int) > 64) then some (.bool false) else kOpt (qqy s 0) fun b => kOpt (EVs (EV cfg) 155 [AV.int .u8 (↑ (UInt8.toNat b) : Int), .int .u8 97, .int .u8 122]) fun v => q6 v fun b => bif ! b then some (.bool false) else xW s (0 : Int)) P) : Gets (EVs (EV cfg) 120 [.str s]) P :=
  gE (fun _ => funS rfl rfl Tryz.func120 rfl) (by kernel_rfl) h
theorem qha (n : Int) {P : AV → Prop} (h : Gets (bif decide (n < 0) then kOpt (EVs (EV cfg) 73 [AV.int .i64 (IntKind.wrap .i64 (0 - n))]) fun v => kStr v fun s => kOpt (bif qqB (1 + qqp s) 9223372036854775807 then some (.str ((45 : UInt8) :: s)) else none) fun v => kStr v fun s => some (.str s) else bif decide (n < 10) then bif qg (0 : Int) (IntKind.wrap .i64 (n + 1)) && qg (IntKind.wrap .i64 (n + 1)) 10 then bif qg 0 n && qg n (↑ (qqN (IntKind.wrap .i64 (n + 1))) : Int) then some (AV.str (qqM (qqN (IntKind.wrap .i64 (n + 1)) - n.toNat) (List.drop (n.toNat) [(48 : UInt8), (49 : UInt8), (50 : UInt8), (51 : UInt8), (52 : UInt8), (53 : UInt8), (54 : UInt8), (55 : UInt8), (56 : UInt8), (57 : UInt8)]))) else none else none else kOpt (qt (Op.intDiv BinOp.quo .i64 n 10)) fun v => kInt .i64 v fun n_1 => kOpt (EVs (EV cfg) 73 [AV.int .i64 n_1]) fun v => kStr v fun s => kOpt (qt (Op.intDiv BinOp.rem .i64 n 10)) fun v => kInt .i64 v fun n => kOpt (EVs (EV cfg) 73 [AV.int .i64 n]) fun v => kStr v fun s_1 => kOpt (bif qqB (qqp s + qqp s_1) 9223372036854775807 then some (.str (qqE s s_1)) else none) fun v => kStr v fun s => some (.str s)) P) : Gets (EVs (EV cfg) 73 [.int .i64 n]) P :=
  gE (fun _ => funS rfl rfl Tryz.func73 rfl) (by kernel_rfl) h
theorem qig (s : Bz) {P : AV → Prop} (h : Gets (zK s [(39 : UInt8)] 0) P) : Gets (EVs (EV cfg) 121 [.str s]) P :=
  gE (fun _ => funS rfl rfl Tryz.func121 rfl) (by kernel_rfl) h
theorem qmn (l : Rz) {P : AV → Prop} (h : Gets (qcj l [] 0) P) : Gets (EVs (EV cfg) 122 [.sl l]) P :=
  gE (fun _ => funS rfl rfl Tryz.func122 rfl) (by kernel_rfl) h
noncomputable abbrev zb1 (s : Bz) : Option (AV) := kOpt (bif qqB (qqp s + 1) 9223372036854775807 then some (.str (qqE s [(62 : UInt8)])) else none) fun v => kStr v fun s => some (.str s)
noncomputable abbrev zb0 (v : AV) : Option (AV) := kStr v fun s => zb1 s
theorem qk4 (k n : Int) (s : Bz) (l : Rz) {P : AV → Prop} (h : Gets (bif k == 1 then kOpt (EVs (EV cfg) 73 [AV.int .i64 n]) fun v => kStr v fun s => some (.str s) else bif k == 2 then kOpt (EVs (EV cfg) 120 [.str s]) fun v => q6 v fun b => bif b then some (.str s) else kOpt (EVs (EV cfg) 121 [.str s]) fun v => kStr v fun s => some (.str s) else bif k == (3 : Int) then kOpt (EVs (EV cfg) 73 [AV.int .i64 n]) fun v => kStr v fun s => kOpt (bif qqB (5 + qqp s) 9223372036854775807 then some (.str ((35 : UInt8) :: (82 : UInt8) :: (101 : UInt8) :: (102 : UInt8) :: (60 : UInt8) :: s)) else none) fun v => zb0 v else bif k == 4 then kOpt (EVs (EV cfg) 73 [AV.int .i64 n]) fun v => kStr v fun s => kOpt (bif qqB (5 + qqp s) 9223372036854775807 then some (.str ((35 : UInt8) :: (84 : UInt8) :: (105 : UInt8) :: (100 : UInt8) :: (60 : UInt8) :: s)) else none) fun v => zb0 v else bif k == 6 then kOpt (EVs (EV cfg) 73 [AV.int .i64 n]) fun v => kStr v fun s => kOpt (bif qqB (3 + qqp s) 9223372036854775807 then some (.str ((60 : UInt8) :: (48 : UInt8) :: (46 : UInt8) :: s)) else none) fun v => kStr v fun s => kOpt (bif qqB (qqp s + 3) 9223372036854775807 then some (.str (qqE s [(46 : UInt8), (48 : UInt8), (62 : UInt8)])) else none) fun v => kStr v fun s => some (.str s) else bif k == 5 then kOpt (EVs (EV cfg) 73 [AV.int .i64 n]) fun v => kStr v fun s_1 => kOpt (bif qqB (5 + qqp s_1) 9223372036854775807 then some (.str ((35 : UInt8) :: (70 : UInt8) :: (117 : UInt8) :: (110 : UInt8) :: (60 : UInt8) :: s_1)) else none) fun v => kStr v fun s_2 => qdW s_2 0 k n s l else bif k == 7 then kOpt (EVs (EV cfg) 122 [.sl l]) fun v => kStr v fun s => kOpt (bif qqB (1 + qqp s) 9223372036854775807 then some (.str ((123 : UInt8) :: s)) else none) fun v => kStr v fun s => kOpt (bif qqB (qqp s + 1) 9223372036854775807 then some (.str (qqE s [(125 : UInt8)])) else none) fun v => kStr v fun s => some (.str s) else bif k == 8 then some (.str [(91 : UInt8), (93 : UInt8)]) else bif qz (0 : Int) (l.length : Int) then kOpt (qqy l 0) fun row => bif qqz (qqp row) 4 then bif qqB 4 (qqp row) then kTmC (qqM 4 row) fun n n_1 s rows => (kOpt (EVs (EV cfg) 74 [.agg [.int .i64 n, .int .i64 n_1, .str s, .sl rows]]) fun v => kStr v fun s => kOpt (bif qqB (1 + qqp s) 9223372036854775807 then some (.str ((91 : UInt8) :: s)) else none) fun v => kStr v fun s => bif qz 1 (↑ (qqp l) : Int) then kOpt (qqy l 1) fun row => bif qqz (qqp row) 4 then bif qqB 4 (qqp row) then kTmC (qqM 4 row) fun n n_2 s_1 rows => (qdV s n n_2 s_1 rows) else none else none else none) else none else none else none) P) : Gets (EVs (EV cfg) 74 [.agg [.int .i64 k, .int .i64 n, .str s, .sl l]]) P :=
  gE (fun _ => funS rfl rfl Tryz.func74 rfl) (by kernel_rfl) h
theorem qjK (k n : Int) (s : Bz) (l : Rz) {P : AV → Prop} (h : Gets (kOpt (EVs (EV cfg) 87 [.agg [.int .i64 k, .int .i64 n, .str s, .sl l]]) fun v => kInt .i64 v fun n_1 => bif n_1 != 0 then some (AV.tup [.str [], .int .i64 n_1]) else kOpt (EVs (EV cfg) 74 [.agg [.int .i64 k, .int .i64 n, .str s, .sl l]]) fun v => kStr v fun s => some (AV.tup [.str s, .int .i64 0])) P) : Gets (EVf (EV cfg) 43 [.agg [.int .i64 k, .int .i64 n, .str s, .sl l]]) P :=
  gE (fun _ => funF rfl rfl Tryz.func43 rfl) (by kernel_rfl) h
theorem qcN (s : Bz) (v4 : Int) (h0 : Rz) {P : AV → Prop} (h : Gets (bif decide (v4 < 17) then bif qg 0 v4 && qz v4 17 then kOpt (qqy h0 (0 + v4.toNat)) fun row => kOpt (qqy row 0) fun v => kStr v fun s_1 => bif s_1 == s then some (.bool true) else qaO s (IntKind.wrap .i64 (v4 + 1)) h0 else none else some (.bool false)) P) : Gets (qaO s v4 h0) P :=
  gE (fun _ => qS (cfg := cfg) (f := 156) (rd := none) (bs := 0)) (by kernel_rfl) h
theorem qcQ (s : Bz) (v3 : Int) {P : AV → Prop} (h : Gets (bif decide (v3 < (s.length : Int)) then bif qg 0 v3 then kOpt (qqy s (v3.toNat)) fun b => kOpt (EVs (EV cfg) 155 [AV.int .u8 (↑ (UInt8.toNat b) : Int), .int .u8 97, .int .u8 122]) fun v => q6 v fun b => bif ! b then bif qg 0 v3 then kOpt (qqy s (v3.toNat)) fun b => kOpt (EVs (EV cfg) 155 [AV.int .u8 (↑ (UInt8.toNat b) : Int), .int .u8 65, .int .u8 90]) fun v => q6 v fun b => bif ! b then bif qg 0 v3 then kOpt (qqy s (v3.toNat)) fun b => kOpt (EVs (EV cfg) 155 [AV.int .u8 (↑ (UInt8.toNat b) : Int), .int .u8 48, .int .u8 57]) fun v => q6 v fun b => bif ! b then bif qg 0 v3 then kOpt (qqy s (v3.toNat)) fun b => bif (↑ (UInt8.toNat b) : Int) != (95 : Int) then bif qg 0 v3 then kOpt (qqy s (v3.toNat)) fun b => bif (↑ (UInt8.toNat b) : Int) != 64 then some (.bool false) else xW s (IntKind.wrap .i64 (v3 + 1)) else none else xW s (IntKind.wrap .i64 (v3 + 1)) else none else xW s (IntKind.wrap .i64 (v3 + 1)) else none else xW s (IntKind.wrap .i64 (v3 + 1)) else none else xW s (IntKind.wrap .i64 (v3 + 1)) else none else kOpt (EVs (EV cfg) 156 [.str s]) fun v => q6 v fun b => some (.bool ! b)) P) : Gets (xW s v3) P :=
  gE (fun _ => qS (cfg := cfg) (f := 120) (rd := none) (bs := 0)) (by kernel_rfl) h
noncomputable abbrev zb2 (v : AV) (s : Bz) (v4 : Int) : Option (AV) := kStr v fun s_3 => zK s s_3 (IntKind.wrap .i64 (v4 + 1))
noncomputable abbrev zb4 (s_1 : Bz) (v4 : Int) (s : Bz) : Option (AV) := kOpt (bif qqB (qqp s_1 + qqp (qqM (qqN (IntKind.wrap .i64 (v4 + 1)) - v4.toNat) (List.drop (v4.toNat) s))) 9223372036854775807 then some (.str (qqE s_1 (qqM (qqN (IntKind.wrap .i64 (v4 + 1)) - v4.toNat) (List.drop (v4.toNat) s)))) else none) fun v => zb2 v s v4
noncomputable abbrev zb3 (v4 : Int) (s_1 s : Bz) : Option (AV) := bif qg 0 v4 && qg v4 (↑ (qqN (IntKind.wrap .i64 (v4 + 1))) : Int) then zb4 s_1 v4 s else none
noncomputable abbrev zb5 (v4 : Int) (s s_1 : Bz) : Option (AV) := bif qg 0 (IntKind.wrap .i64 (v4 + 1)) && qg (IntKind.wrap .i64 (v4 + 1)) (s.length : Int) then zb3 v4 s_1 s else none
theorem qcP (s v3 : Bz) (v4 : Int) {P : AV → Prop} (h : Gets (bif decide (v4 < (s.length : Int)) then bif qg 0 v4 then kOpt (qqy s (v4.toNat)) fun b => bif decide ((↑ (UInt8.toNat b) : Int) < (32 : Int)) then kOpt (bif qqB (qqp v3 + 2) 9223372036854775807 then some (.str (qqE v3 [(92 : UInt8), (120 : UInt8)])) else none) fun v => kStr v fun s_1 => kOpt (qt (Op.intDiv BinOp.quo .u8 (↑ (UInt8.toNat b) : Int) 16)) fun v => kInt .u8 v fun n => kOpt (qt (Op.intDiv BinOp.quo .u8 (↑ (UInt8.toNat b) : Int) 16)) fun v => kInt .u8 v fun n_1 => bif qg 0 (IntKind.wrap .u8 (n_1 + 1)) && qg (IntKind.wrap .u8 (n_1 + 1)) 16 then bif qg 0 n && qg n (↑ (qqN (IntKind.wrap .u8 (n_1 + 1))) : Int) then kOpt (bif qqB (qqp s_1 + qqp (qqM (qqN (IntKind.wrap .u8 (n_1 + 1)) - n.toNat) (List.drop (n.toNat) [(48 : UInt8), (49 : UInt8), (50 : UInt8), (51 : UInt8), (52 : UInt8), (53 : UInt8), (54 : UInt8), (55 : UInt8), (56 : UInt8), (57 : UInt8), (97 : UInt8), (98 : UInt8), (99 : UInt8), (100 : UInt8), (101 : UInt8), (102 : UInt8)]))) 9223372036854775807 then some (AV.str (qqE s_1 (qqM (qqN (IntKind.wrap .u8 (n_1 + 1)) - n.toNat) (List.drop (n.toNat) [(48 : UInt8), (49 : UInt8), (50 : UInt8), (51 : UInt8), (52 : UInt8), (53 : UInt8), (54 : UInt8), (55 : UInt8), (56 : UInt8), (57 : UInt8), (97 : UInt8), (98 : UInt8), (99 : UInt8), (100 : UInt8), (101 : UInt8), (102 : UInt8)])))) else none) fun v => kStr v fun s_2 => kOpt (qt (Op.intDiv BinOp.rem .u8 (↑ (UInt8.toNat b) : Int) 16)) fun v => kInt .u8 v fun n => kOpt (qt (Op.intDiv BinOp.rem .u8 (↑ (UInt8.toNat b) : Int) 16)) fun v => kInt .u8 v fun n_2 => bif qg 0 (IntKind.wrap .u8 (n_2 + 1)) && qg (IntKind.wrap .u8 (n_2 + 1)) 16 then bif qg 0 n && qg n (↑ (qqN (IntKind.wrap .u8 (n_2 + 1))) : Int) then kOpt (bif qqB (qqp s_2 + qqp (qqM (qqN (IntKind.wrap .u8 (n_2 + 1)) - n.toNat) (List.drop (n.toNat) [(48 : UInt8), (49 : UInt8), (50 : UInt8), (51 : UInt8), (52 : UInt8), (53 : UInt8), (54 : UInt8), (55 : UInt8), (56 : UInt8), (57 : UInt8), (97 : UInt8), (98 : UInt8), (99 : UInt8), (100 : UInt8), (101 : UInt8), (102 : UInt8)]))) 9223372036854775807 then some (AV.str (qqE s_2 (qqM (qqN (IntKind.wrap .u8 (n_2 + 1)) - n.toNat) (List.drop (n.toNat) [(48 : UInt8), (49 : UInt8), (50 : UInt8), (51 : UInt8), (52 : UInt8), (53 : UInt8), (54 : UInt8), (55 : UInt8), (56 : UInt8), (57 : UInt8), (97 : UInt8), (98 : UInt8), (99 : UInt8), (100 : UInt8), (101 : UInt8), (102 : UInt8)])))) else none) fun v => zb2 v s v4 else none else none else none else none else bif decide ((↑ (UInt8.toNat b) : Int) > 126) then kOpt (bif qqB (qqp v3 + 2) 9223372036854775807 then some (.str (qqE v3 [(92 : UInt8), (120 : UInt8)])) else none) fun v => kStr v fun s_1 => kOpt (qt (Op.intDiv BinOp.quo .u8 (↑ (UInt8.toNat b) : Int) 16)) fun v => kInt .u8 v fun n => kOpt (qt (Op.intDiv BinOp.quo .u8 (↑ (UInt8.toNat b) : Int) 16)) fun v => kInt .u8 v fun n_1 => bif qg 0 (IntKind.wrap .u8 (n_1 + 1)) && qg (IntKind.wrap .u8 (n_1 + 1)) 16 then bif qg 0 n && qg n (↑ (qqN (IntKind.wrap .u8 (n_1 + 1))) : Int) then kOpt (bif qqB (qqp s_1 + qqp (qqM (qqN (IntKind.wrap .u8 (n_1 + 1)) - n.toNat) (List.drop (n.toNat) [(48 : UInt8), (49 : UInt8), (50 : UInt8), (51 : UInt8), (52 : UInt8), (53 : UInt8), (54 : UInt8), (55 : UInt8), (56 : UInt8), (57 : UInt8), (97 : UInt8), (98 : UInt8), (99 : UInt8), (100 : UInt8), (101 : UInt8), (102 : UInt8)]))) 9223372036854775807 then some (AV.str (qqE s_1 (qqM (qqN (IntKind.wrap .u8 (n_1 + 1)) - qqN n) (List.drop (n.toNat) [(48 : UInt8), (49 : UInt8), (50 : UInt8), (51 : UInt8), (52 : UInt8), (53 : UInt8), (54 : UInt8), (55 : UInt8), (56 : UInt8), (57 : UInt8), (97 : UInt8), (98 : UInt8), (99 : UInt8), (100 : UInt8), (101 : UInt8), (102 : UInt8)])))) else none) fun v => kStr v fun s_2 => kOpt (qt (Op.intDiv BinOp.rem .u8 (↑ (UInt8.toNat b) : Int) 16)) fun v => kInt .u8 v fun n => kOpt (qt (Op.intDiv BinOp.rem .u8 (↑ (UInt8.toNat b) : Int) 16)) fun v => kInt .u8 v fun n_2 => bif qg 0 (IntKind.wrap .u8 (n_2 + 1)) && qg (IntKind.wrap .u8 (n_2 + 1)) 16 then bif qg 0 n && qg n (↑ (qqN (IntKind.wrap .u8 (n_2 + 1))) : Int) then kOpt (bif qqB (qqp s_2 + qqp (qqM (qqN (IntKind.wrap .u8 (n_2 + 1)) - n.toNat) (List.drop (qqN n) [(48 : UInt8), (49 : UInt8), (50 : UInt8), (51 : UInt8), (52 : UInt8), (53 : UInt8), (54 : UInt8), (55 : UInt8), (56 : UInt8), (57 : UInt8), (97 : UInt8), (98 : UInt8), (99 : UInt8), (100 : UInt8), (101 : UInt8), (102 : UInt8)]))) 9223372036854775807 then some (AV.str (qqE s_2 (qqM (qqN (IntKind.wrap .u8 (n_2 + 1)) - n.toNat) (List.drop (n.toNat) [(48 : UInt8), (49 : UInt8), (50 : UInt8), (51 : UInt8), (52 : UInt8), (53 : UInt8), (54 : UInt8), (55 : UInt8), (56 : UInt8), (57 : UInt8), (97 : UInt8), (98 : UInt8), (99 : UInt8), (100 : UInt8), (101 : UInt8), (102 : UInt8)])))) else none) fun v => zb2 v s v4 else none else none else none else none else bif (↑ (UInt8.toNat b) : Int) == 39 then kOpt (bif qqB (qqp v3 + 1) 9223372036854775807 then some (.str (qqE v3 [(92 : UInt8)])) else none) fun v => kStr v fun s_1 => bif qg 0 (IntKind.wrap .i64 (v4 + 1)) && qg (IntKind.wrap .i64 (v4 + 1)) (↑ (qqp s) : Int) then zb3 v4 s_1 s else none else bif (↑ (UInt8.toNat b) : Int) == 92 then kOpt (bif qqB (qqp v3 + 1) 9223372036854775807 then some (.str (qqE v3 [(92 : UInt8)])) else none) fun v => kStr v fun s_1 => zb5 v4 s s_1 else zb5 v4 s v3 else none else kOpt (bif qqB (qqp v3 + 1) 9223372036854775807 then some (.str (qqE v3 [(39 : UInt8)])) else none) fun v => kStr v fun s => some (.str s)) P) : Gets (zK s v3 v4) P :=
  gE (fun _ => qS (cfg := cfg) (f := 121) (rd := none) (bs := 0)) (by kernel_rfl) h
noncomputable abbrev zb11 (n n_1 : Int) (s_1 : Bz) (rows : Rz) (s : Bz) (l : Rz) (v4 : Int) : Option (AV) := (kOpt (EVs (EV cfg) 74 [.agg [.int .i64 n, .int .i64 n_1, .str s_1, .sl rows]]) fun v => kStr v fun s_2 => kOpt (bif qqB (qqp s + qqp s_2) 9223372036854775807 then some (.str (qqE s s_2)) else none) fun v => kStr v fun s => qcj l s (IntKind.wrap .i64 (v4 + 1)))
noncomputable abbrev zb10 (row : List AV) (s : Bz) (l : Rz) (v4 : Int) : Option (AV) := kTmC (qqM 4 row) fun n n_1 s_1 rows => zb11 n n_1 s_1 rows s l v4
noncomputable abbrev zb9 (row : List AV) (s : Bz) (l : Rz) (v4 : Int) : Option (AV) := bif qqB 4 (qqp row) then zb10 row s l v4 else none
noncomputable abbrev zb8 (row : List AV) (s : Bz) (l : Rz) (v4 : Int) : Option (AV) := bif qqz (qqp row) 4 then zb9 row s l v4 else none
noncomputable abbrev zb7 (l : Rz) (v4 : Int) (s : Bz) : Option (AV) := kOpt (qqy l (v4.toNat)) fun row => zb8 row s l v4
noncomputable abbrev zb6 (v4 : Int) (l : Rz) (s : Bz) : Option (AV) := bif qg 0 v4 && qz v4 (l.length : Int) then zb7 l v4 s else none
theorem qcO (l : Rz) (v3 : Bz) (v4 : Int) {P : AV → Prop} (h : Gets (bif decide (v4 < (l.length : Int)) then bif decide (v4 > 0) then kOpt (bif qqB (qqp v3 + 1) 9223372036854775807 then some (.str (qqE v3 [(44 : UInt8)])) else none) fun v => kStr v fun s => zb6 v4 l s else zb6 v4 l v3 else some (.str v3)) P) : Gets (qcj l v3 v4) P :=
  gE (fun _ => qS (cfg := cfg) (f := 122) (rd := none) (bs := 0)) (by kernel_rfl) h
theorem qc3 (v3 : Bz) (v4 c0_0 c0_1 : Int) (c0_2 : Bz) (c0_3 : Rz) {P : AV → Prop} (h : Gets (bif decide (v4 < (c0_3.length : Int)) then kOpt (bif qqB (qqp v3 + 1) 9223372036854775807 then some (.str (qqE v3 [(44 : UInt8)])) else none) fun v => kStr v fun s => bif qg 0 v4 && qz v4 (c0_3.length : Int) then kOpt (qqy c0_3 (v4.toNat)) fun row => bif qqz (qqp row) 4 then bif qqB 4 (qqp row) then kTmC (qqM 4 row) fun n n_1 s_1 rows => (kOpt (EVs (EV cfg) 74 [.agg [.int .i64 n, .int .i64 n_1, .str s_1, .sl rows]]) fun v => kStr v fun s_2 => kOpt (bif qqB (qqp s + qqp s_2) 9223372036854775807 then some (.str (qqE s s_2)) else none) fun v => kStr v fun s => qdW s (IntKind.wrap .i64 (v4 + 1)) c0_0 c0_1 c0_2 c0_3) else none else none else none else zb1 v3) P) : Gets (qdW v3 v4 c0_0 c0_1 c0_2 c0_3) P :=
  gE (fun _ => qS (cfg := cfg) (f := 74) (rd := none) (bs := 0)) (by kernel_rfl) h
noncomputable abbrev zb12 (v5 : Bz) : Option (AV) := kOpt (bif qqB (qqp v5 + 1) 9223372036854775807 then some (.str (qqE v5 [(93 : UInt8)])) else none) fun v => kStr v fun s => some (.str s)
theorem qh6 (v5 : Bz) (c0_0 c0_1 : Int) (c0_2 : Bz) (c0_3 : Rz) {P : AV → Prop} (h : Gets (bif c0_0 == 9 then kOpt (bif qqB (qqp v5 + 1) 9223372036854775807 then some (.str (qqE v5 [(44 : UInt8)])) else none) fun v => kStr v fun s => bif qz 0 (c0_3.length : Int) then kOpt (qqy c0_3 0) fun row => bif qqz (qqp row) 4 then bif qqB 4 (qqp row) then kTmC (qqM 4 row) fun n n_1 s_1 rows => (kOpt (EVs (EV cfg) 74 [.agg [.int .i64 n, .int .i64 n_1, .str s_1, .sl rows]]) fun v => kStr v fun s_2 => kOpt (bif qqB (qqp s + qqp s_2) 9223372036854775807 then some (.str (qqE s s_2)) else none) fun v => kStr v fun s => bif qz 1 (c0_3.length : Int) then kOpt (qqy c0_3 1) fun row => bif qqz (qqp row) 4 then bif qqB 4 (qqp row) then kTmC (qqM 4 row) fun n n_2 s_3 rows => (qdV s n n_2 s_3 rows) else none else none else none) else none else none else none else bif c0_0 == 8 then zb12 v5 else kOpt (bif qqB (qqp v5 + 1) 9223372036854775807 then some (.str (qqE v5 [(124 : UInt8)])) else none) fun v => kStr v fun s => kOpt (EVs (EV cfg) 74 [.agg [.int .i64 c0_0, .int .i64 c0_1, .str c0_2, .sl c0_3]]) fun v => kStr v fun s_1 => kOpt (bif qqB (qqp s + qqp s_1) 9223372036854775807 then some (.str (qqE s s_1)) else none) fun v => kStr v fun s => zb12 s) P) : Gets (qdV v5 c0_0 c0_1 c0_2 c0_3) P :=
  gE (fun _ => qS (cfg := cfg) (f := 74) (rd := none) (bs := 0)) (by kernel_rfl) h
noncomputable def qos : Den := evC cfg (EV cfg) 112 none 0 (sub (qn Tryz.f112) [1, 1, 1, 0, 1, 0, 0])
noncomputable def qoD : Ex × List AV × AH → Option AV := kAft (Cfg.keepOut cfg 112 4) (kRun cfg (EV cfg) (kfN cfg 6) 112 none 0 (x7 cfg (Cfg.lift cfg 112 0) Tryz.f112.results.toList) ([.block 0, .seq (sub (qn Tryz.f112) [1, 1, 1, 1])]))
noncomputable def qok : List AV × AH → Option AV := fun p => kOpt (LOOP 0 (some [3, 8, 9, 10]) ([]) qos p) qoD
noncomputable def qor : Den := evC cfg (EV cfg) 114 none 1 (sub (qn Tryz.f114) [1, 0, 0])
noncomputable def qoC : Ex × List AV × AH → Option (AV × List UInt8) := kAft (Cfg.keepOut cfg 114 1) (kRun cfg (EV cfg) (kfN cfg 6) 114 none 1 (qea cfg 104 5 (Cfg.lift cfg 114 0) Tryz.f114.results.toList) ([.block 0]))
noncomputable def qoj : List AV × AH → Option (AV × List UInt8) := fun p => kOpt (LOOP 1 (some [0, 6, 7, 8]) ([]) qor p) qoC
noncomputable def qoq : Den := evC cfg (EV cfg) 115 none 1 (sub (qn Tryz.f115) [1, 0, 1, 1, 1, 0, 0, 0])
noncomputable def qoB : Ex × List AV × AH → Option (AV × List UInt8) := kAft (Cfg.keepOut cfg 115 (qe (sub (qn Tryz.f115) [1, 0, 1, 1, 1, 0, 0, 0]))) (yi 0 (kSeq (fun (fr : List AV) (H : AH) => qb1 (Cfg.cut cfg 115 (qe (sub (qn Tryz.f115) [1, 0, 1, 1, 1, 1]))) fr H fun (fr : List AV) (H : AH) => q5 cfg (EV cfg) (kfN cfg 6) 115 none 1 (sub (qn Tryz.f115) [1, 0, 1, 1, 1, 1]) fr H (qdw (qea cfg 104 5 (Cfg.lift cfg 115 0) (Array.toList (Func.results Tryz.f115))))) (qdw (qea cfg 104 5 (Cfg.lift cfg 115 0) (Array.toList (Func.results Tryz.f115))))))
noncomputable def qoi : List AV × AH → Option (AV × List UInt8) := fun (p : List AV × AH) => kOpt (LOOP 1 (some [0, 3, 4]) [] qoq p) qoB
noncomputable def qpi : Den := evC cfg (EV cfg) 65 none 1 (sub (qn Tryz.f65) [1, 1, 1, 0, 1, 1, 1, 1, 1, 1, 1, 1, 1, 1, 1, 0, 1, 0, 1, 0, 0])
noncomputable def qpm : Ex × List AV × AH → Option (AV × List UInt8) := kAft (Cfg.keepOut cfg 65 (qe (sub (qn Tryz.f65) [1, 1, 1, 0, 1, 1, 1, 1, 1, 1, 1, 1, 1, 1, 1, 0, 1, 0, 1, 0, 0]))) (yi 1 (kSeq (fun (fr : List AV) (H : AH) => qb1 (Cfg.cut cfg 65 (qe (sub (qn Tryz.f65) [1, 1, 1, 0, 1, 1, 1, 1, 1, 1, 1, 1, 1, 1, 1, 0, 1, 1]))) fr H fun (fr : List AV) (H : AH) => q5 cfg (EV cfg) (kfN cfg 6) 65 none 1 (sub (qn Tryz.f65) [1, 1, 1, 0, 1, 1, 1, 1, 1, 1, 1, 1, 1, 1, 1, 0, 1, 1]) fr H (yi 0 (qea cfg 104 5 (Cfg.lift cfg 65 0) (Array.toList (Func.results Tryz.f65))))) (yi 0 (qea cfg 104 5 (Cfg.lift cfg 65 0) (Array.toList (Func.results Tryz.f65))))))
noncomputable def qpe : List AV × AH → Option (AV × List UInt8) := fun (p : List AV × AH) => kOpt (LOOP 1 (some [0, 76, 77, 78]) [] qpi p) qpm
noncomputable abbrev zL (s : Bz) (q : AV × List UInt8) (v10 : Int) (h1 : Rz) : Option (AV) := qok  (((fx 51 [(3, .ptr 0 0 0), (8, .ms 1 0 (qqp s)), (9, .int .i64 (s.length : Int)), (10, .int .i64 v10)]) : List AV), ([.bld 102 5 q.2, .rows true 1 h1] : AH))
noncomputable abbrev qbO (l : Rz) (b : Bz) (v8 : Int) : Option (AV × List UInt8) := qoj  (((fx 23 [(0, .ptr 0 0 0), (6, .sl l), (7, .int .i64 (l.length : Int)), (8, .int .i64 v8)]) : List AV), ([.bld 104 5 b] : AH))
noncomputable abbrev qbN (q : AV × List UInt8) (v4 : Bz) (c1_0 c1_1 : Int) (c1_2 : Bz) (c1_3 : Rz) : Option (AV × List UInt8) := qoi  (((fx 41 [(0, .ptr 0 0 0), (3, .ptr 1 0 0), (4, .str v4)]) : List AV), ([.bld 104 5 q.2, .rows false 4 [[.int .i64 c1_0, .int .i64 c1_1, .str c1_2, .sl c1_3]]] : AH))
noncomputable abbrev qdX (l : Rz) (q : AV × List UInt8) (v78 : Int) : Option (AV × List UInt8) := qpe  (((fx 108 [(0, .ptr 0 0 0), (76, .sl l), (77, .int .i64 (l.length : Int)), (78, .int .i64 v78)]) : List AV), ([.bld 104 5 q.2] : AH))
theorem qjP (c : Int) {P : AV → Prop} (h : Gets (bif decide (c ≥ 97) then some (.bool (decide (c ≤ 122))) else some (.bool false)) P) : Gets (EVs (EV cfg) 150 [.int .u8 c]) P :=
  gE (fun _ => funS rfl rfl Tryz.func150 rfl) (by kernel_rfl) h
noncomputable abbrev zc2 (c : Int) : Option (AV) := bif c == 95 then some (.bool true) else some (.bool (c == 64))
noncomputable abbrev zc1 (c : Int) : Option (AV) := bif decide (c ≤ 57) then some (.bool true) else zc2 c
noncomputable abbrev zc0 (c : Int) : Option (AV) := bif decide (c ≥ 48) then zc1 c else zc2 c
theorem qii (c : Int) {P : AV → Prop} (h : Gets (kOpt (EVs (EV cfg) 150 [AV.int .u8 c]) fun v => q6 v fun b => bif b then some (.bool true) else bif decide (c ≥ 65) then bif decide (c ≤ 90) then some (.bool true) else zc0 c else zc0 c) P) : Gets (EVs (EV cfg) 152 [.int .u8 c]) P :=
  gE (fun _ => funS rfl rfl Tryz.func152 rfl) (by kernel_rfl) h
theorem qgI (c : Int) {P : AV → Prop} (h : Gets (kOpt (EVs (EV cfg) 152 [AV.int .u8 c]) fun v => q6 v fun b => some (.bool ! b)) P) : Gets (EVs (EV cfg) 151 [.int .u8 c]) P :=
  gE (fun _ => funS rfl rfl Tryz.func151 rfl) (by kernel_rfl) h
theorem qjQ (s : Bz) {P : AV → Prop} (h : Gets (bif s == [] then some (.bool false) else bif decide ((s.length : Int) > 64) then some (.bool false) else kOpt (qqy s 0) fun b => kOpt (EVs (EV cfg) 150 [AV.int .u8 (↑ (UInt8.toNat b) : Int)]) fun v => q6 v fun b => bif ! b then some (.bool false) else kOpt (bif qqB (1 + qqp s) 9223372036854775807 then some (.str ((32 : UInt8) :: s)) else none) fun v => kStr v fun s_1 => kOpt (bif qqB (qqp s_1 + 1) 9223372036854775807 then some (.str (qqE s_1 [(32 : UInt8)])) else none) fun v => kStr v fun s_2 => kOpt (EVs (EV cfg) 59 [AV.str [(32 : UInt8), (97 : UInt8), (102 : UInt8), (116 : UInt8), (101 : UInt8), (114 : UInt8), (32 : UInt8), (97 : UInt8), (110 : UInt8), (100 : UInt8), (32 : UInt8), (97 : UInt8), (110 : UInt8), (100 : UInt8), (97 : UInt8), (108 : UInt8), (115 : UInt8), (111 : UInt8), (32 : UInt8), (98 : UInt8), (101 : UInt8), (103 : UInt8), (105 : UInt8), (110 : UInt8), (32 : UInt8), (99 : UInt8), (97 : UInt8), (115 : UInt8), (101 : UInt8), (32 : UInt8), (99 : UInt8), (97 : UInt8), (116 : UInt8), (99 : UInt8), (104 : UInt8), (32 : UInt8), (100 : UInt8), (105 : UInt8), (118 : UInt8), (32 : UInt8), (101 : UInt8), (110 : UInt8), (100 : UInt8), (32 : UInt8), (102 : UInt8), (117 : UInt8), (110 : UInt8), (32 : UInt8), (110 : UInt8), (111 : UInt8), (116 : UInt8), (32 : UInt8), (111 : UInt8), (102 : UInt8), (32 : UInt8), (111 : UInt8), (114 : UInt8), (32 : UInt8), (111 : UInt8), (114 : UInt8), (101 : UInt8), (108 : UInt8), (115 : UInt8), (101 : UInt8), (32 : UInt8), (114 : UInt8), (101 : UInt8), (99 : UInt8), (101 : UInt8), (105 : UInt8), (118 : UInt8), (101 : UInt8), (32 : UInt8), (114 : UInt8), (101 : UInt8), (109 : UInt8), (32 : UInt8), (116 : UInt8), (114 : UInt8), (121 : UInt8), (32 : UInt8), (119 : UInt8), (104 : UInt8), (101 : UInt8), (110 : UInt8), (32 : UInt8)], .str s_2]) fun v => q6 v fun b => bif b then some (.bool false) else bif qqB (0 + qqp s) (qqp (List.map (fun b => [AV.int .u8 (↑ (UInt8.toNat b) : Int)]) s)) && true then kOpt (EVs (EV cfg) 56 [.sl (qqM (qqp s) (List.map (fun b => [AV.int .u8 (↑ (UInt8.toNat b) : Int)]) s)), AV.fn (Fn.func 151) [] []]) fun v => q6 v fun b => some (.bool ! b) else none) P) : Gets (EVs (EV cfg) 111 [.str s]) P :=
  gE (fun _ => funS rfl rfl Tryz.func111 rfl) (by kernel_rfl) h
theorem qih (s : Bz) {P : AV → Prop} (h : Gets (kOpt (EVb (EV cfg) 113 [.ptr 0 0 0, .int .u8 39] 102 5 []) fun q => zL s q 0 (List.map (fun b => [AV.int .u8 (↑ (UInt8.toNat b) : Int)]) s)) P) : Gets (EVs (EV cfg) 112 [.str s]) P :=
  gE (fun _ => funS rfl rfl Tryz.func112 rfl) (by kernel_rfl) h
theorem qmo (l : Rz) (b : Bz) {P : AV × List UInt8 → Prop} (h : Gets (qbO l b 0) P) : Gets (EVb (EV cfg) 114 [.ptr 0 0 0, .sl l] 104 5 b) P :=
  gE (fun _ => funB rfl rfl Tryz.func114 rfl) (by kernel_rfl) h
theorem qk8 (k n : Int) (s : Bz) (l : Rz) (b : Bz) {P : AV × List UInt8 → Prop} (h : Gets (kOpt (EVb (EV cfg) 113 [.ptr 0 0 0, .int .u8 91] 104 5 b) fun q => qbN q [] k n s l) P) : Gets (EVb (EV cfg) 115 [.ptr 0 0 0, .agg [.int .i64 k, .int .i64 n, .str s, .sl l]] 104 5 b) P :=
  gE (fun _ => funB rfl rfl Tryz.func115 rfl) (by kernel_rfl) h
noncomputable abbrev zc7 (cs : List AV) (q : AV × List UInt8) : Option (AV × List UInt8) := q8 cs fun c cs => kNil cs (some (AV.tup [], q.2))
noncomputable abbrev zc6 (c : AV) (cs : List AV) (q : AV × List UInt8) : Option (AV × List UInt8) := kInt .i64 c fun n => zc7 cs q
noncomputable abbrev zc5 (cs : List AV) (q : AV × List UInt8) : Option (AV × List UInt8) := q8 cs fun c cs => zc6 c cs q
noncomputable abbrev zc4 (q : AV × List UInt8) : Option (AV × List UInt8) := kTup q.1 fun cs => zc5 cs q
noncomputable abbrev zc3 (s_1 b : Bz) : Option (AV × List UInt8) := kOpt (EVb (EV cfg) 68 [.ptr 0 0 0, .str s_1] 104 5 b) fun q => zc4 q
noncomputable abbrev zc8 (v : AV) (b : Bz) : Option (AV × List UInt8) := kStr v fun s => zc3 s b
noncomputable abbrev zc10 (s b : Bz) : Option (AV × List UInt8) := kOpt (bif qqB (qqp s + 1) 9223372036854775807 then some (.str (qqE s [(62 : UInt8)])) else none) fun v => zc8 v b
noncomputable abbrev zc9 (v : AV) (b : Bz) : Option (AV × List UInt8) := kStr v fun s => zc10 s b
theorem qk7 (k n : Int) (s : Bz) (l : Rz) (b : Bz) {P : AV × List UInt8 → Prop} (h : Gets (kOpt (EVs (EV cfg) 29 [AV.int .i64 n]) fun v => kStr v fun s_1 => bif k == 1 then zc3 s_1 b else bif k == 2 then kOpt (EVs (EV cfg) 111 [.str s]) fun v => q6 v fun b_1 => bif b_1 then zc3 s b else kOpt (EVs (EV cfg) 112 [.str s]) fun v => zc8 v b else bif k == (3 : Int) then kOpt (bif qqB (5 + qqp s_1) 9223372036854775807 then some (.str ((35 : UInt8) :: (82 : UInt8) :: (101 : UInt8) :: (102 : UInt8) :: (60 : UInt8) :: s_1)) else none) fun v => zc9 v b else bif k == 4 then kOpt (bif qqB (5 + qqp s_1) 9223372036854775807 then some (.str ((35 : UInt8) :: (84 : UInt8) :: (105 : UInt8) :: (100 : UInt8) :: (60 : UInt8) :: s_1)) else none) fun v => zc9 v b else bif k == 6 then kOpt (bif qqB (3 + qqp s_1) 9223372036854775807 then some (.str ((60 : UInt8) :: (48 : UInt8) :: (46 : UInt8) :: s_1)) else none) fun v => kStr v fun s => kOpt (bif qqB (qqp s + 3) 9223372036854775807 then some (.str (qqE s [(46 : UInt8), (48 : UInt8), (62 : UInt8)])) else none) fun v => zc8 v b else bif k == 5 then kOpt (bif qqB (5 + qqp s_1) 9223372036854775807 then some (.str ((35 : UInt8) :: (70 : UInt8) :: (117 : UInt8) :: (110 : UInt8) :: (60 : UInt8) :: s_1)) else none) fun v => kStr v fun s => kOpt (EVb (EV cfg) 68 [.ptr 0 0 0, .str s] 104 5 b) fun q => kTup q.1 fun cs => q8 cs fun c cs => kInt .i64 c fun n => q8 cs fun c cs => kNil cs (qdX l q 0) else bif k == 7 then kOpt (EVb (EV cfg) 113 [.ptr 0 0 0, .int .u8 (123 : Int)] 104 5 b) fun q => kOpt (EVb (EV cfg) 114 [.ptr 0 0 0, .sl l] 104 5 q.2) fun q => kOpt (EVb (EV cfg) 113 [.ptr 0 0 0, .int .u8 125] 104 5 q.2) fun q => some (AV.tup [], q.2) else kOpt (EVb (EV cfg) 115 [.ptr 0 0 0, .agg [.int .i64 k, .int .i64 n, .str s, .sl l]] 104 5 b) fun q => some (AV.tup [], q.2)) P) : Gets (EVb (EV cfg) 65 [.ptr 0 0 0, .agg [.int .i64 k, .int .i64 n, .str s, .sl l]] 104 5 b) P :=
  gE (fun _ => funB rfl rfl Tryz.func65 rfl) (by kernel_rfl) h
theorem qjO (k n : Int) (s : Bz) (l : Rz) {P : AV → Prop} (h : Gets (kOpt (EVs (EV cfg) 64 [.agg [.int .i64 k, .int .i64 n, .str s, .sl l]]) fun v => kInt .i64 v fun n_1 => bif n_1 != 0 then some (AV.tup [.str [], .int .i64 n_1]) else kOpt (EVb (EV cfg) 65 [.ptr 0 0 0, .agg [.int .i64 k, .int .i64 n, .str s, .sl l]] 104 5 []) fun q => kOpt (EVb (EV cfg) 66 [.ptr 0 0 0] 104 5 q.2) fun q => kStr q.1 fun s => some (AV.tup [.str s, .int .i64 0])) P) : Gets (EVf (EV cfg) 30 [.agg [.int .i64 k, .int .i64 n, .str s, .sl l]]) P :=
  gE (fun _ => funF rfl rfl Tryz.func30 rfl) (by kernel_rfl) h
noncomputable abbrev zc11 (n : Int) (q : AV × List UInt8) (s : Bz) (v10 : Int) (h1 : Rz) : Option (AV) := kOpt (EVb (EV cfg) 113 [.ptr 0 0 0, .int .u8 n] 102 5 q.2) fun q => zL s q (IntKind.wrap .i64 (v10 + 1)) h1
noncomputable abbrev zc13 (s_2 : Bz) (q : AV × List UInt8) (s : Bz) (v10 : Int) (h1 : Rz) : Option (AV) := kOpt (EVb (EV cfg) 68 [.ptr 0 0 0, .str s_2] 102 5 q.2) fun q => kTup q.1 fun cs => q8 cs fun c cs => kInt .i64 c fun n => q8 cs fun c cs => kNil cs (zL s q (IntKind.wrap .i64 (v10 + 1)) h1)
noncomputable abbrev zc12 (v : AV) (q : AV × List UInt8) (s : Bz) (v10 : Int) (h1 : Rz) : Option (AV) := kStr v fun s_2 => zc13 s_2 q s v10 h1
theorem qc5 (s : Bz) (q : AV × List UInt8) (v10 : Int) (h1 : Rz) {P : AV → Prop} (h : Gets (bif decide (v10 < (s.length : Int)) then bif qg 0 v10 && qz v10 (s.length : Int) then kOpt (qqy h1 (0 + v10.toNat)) fun row => kOpt (qqy row 0) fun v => kInt .u8 v fun n => bif n == 39 then kOpt (EVb (EV cfg) 113 [.ptr 0 0 0, .int .u8 92] 102 5 q.2) fun q => zc11 n q s v10 h1 else bif n == 92 then kOpt (EVb (EV cfg) 113 [.ptr 0 0 0, .int .u8 92] 102 5 q.2) fun q => zc11 n q s v10 h1 else bif decide (n < 32) then kOpt (qt (Op.shift BinOp.shr .u8 n .u64 4)) fun v => kInt .u8 v fun n_1 => kOpt (qt (Op.shift BinOp.shr .u8 n .u64 4)) fun v => kInt .u8 v fun n_2 => bif qg 0 (IntKind.wrap .u8 (n_2 + 1)) && qg (IntKind.wrap .u8 (n_2 + 1)) 16 then bif qg 0 n_1 && qg n_1 (↑ (qqN (IntKind.wrap .u8 (n_2 + 1))) : Int) then kOpt (bif qqB (2 + qqp (qqM (qqN (IntKind.wrap .u8 (n_2 + 1)) - n_1.toNat) (List.drop (n_1.toNat) [(48 : UInt8), (49 : UInt8), (50 : UInt8), (51 : UInt8), (52 : UInt8), (53 : UInt8), (54 : UInt8), (55 : UInt8), (56 : UInt8), (57 : UInt8), (97 : UInt8), (98 : UInt8), (99 : UInt8), (100 : UInt8), (101 : UInt8), (102 : UInt8)]))) 9223372036854775807 then some (AV.str ((92 : UInt8) :: (120 : UInt8) :: qqM (qqN (IntKind.wrap .u8 (n_2 + 1)) - n_1.toNat) (List.drop (n_1.toNat) [(48 : UInt8), (49 : UInt8), (50 : UInt8), (51 : UInt8), (52 : UInt8), (53 : UInt8), (54 : UInt8), (55 : UInt8), (56 : UInt8), (57 : UInt8), (97 : UInt8), (98 : UInt8), (99 : UInt8), (100 : UInt8), (101 : UInt8), (102 : UInt8)]))) else none) fun v => kStr v fun s_1 => kOpt (qt (Op.intBits BinOp.and .u8 n 15)) fun v => kInt .u8 v fun n_3 => kOpt (qt (Op.intBits BinOp.and .u8 n 15)) fun v => kInt .u8 v fun n => bif qg 0 (IntKind.wrap .u8 (n + 1)) && qg (IntKind.wrap .u8 (n + 1)) 16 then bif qg 0 n_3 && qg n_3 (↑ (qqN (IntKind.wrap .u8 (n + 1))) : Int) then kOpt (bif qqB (qqp s_1 + qqp (qqM (qqN (IntKind.wrap .u8 (n + 1)) - n_3.toNat) (List.drop (n_3.toNat) [(48 : UInt8), (49 : UInt8), (50 : UInt8), (51 : UInt8), (52 : UInt8), (53 : UInt8), (54 : UInt8), (55 : UInt8), (56 : UInt8), (57 : UInt8), (97 : UInt8), (98 : UInt8), (99 : UInt8), (100 : UInt8), (101 : UInt8), (102 : UInt8)]))) 9223372036854775807 then some (AV.str (qqE s_1 (qqM (qqN (IntKind.wrap .u8 (n + 1)) - n_3.toNat) (List.drop (n_3.toNat) [(48 : UInt8), (49 : UInt8), (50 : UInt8), (51 : UInt8), (52 : UInt8), (53 : UInt8), (54 : UInt8), (55 : UInt8), (56 : UInt8), (57 : UInt8), (97 : UInt8), (98 : UInt8), (99 : UInt8), (100 : UInt8), (101 : UInt8), (102 : UInt8)])))) else none) fun v => zc12 v q s v10 h1 else none else none else none else none else bif decide (n > 126) then kOpt (qt (Op.shift BinOp.shr .u8 n .u64 4)) fun v => kInt .u8 v fun n_1 => kOpt (qt (Op.shift BinOp.shr .u8 n .u64 4)) fun v => kInt .u8 v fun n_2 => bif qg 0 (IntKind.wrap .u8 (n_2 + 1)) && qg (IntKind.wrap .u8 (n_2 + 1)) 16 then bif qg 0 n_1 && qg n_1 (↑ (qqN (IntKind.wrap .u8 (n_2 + 1))) : Int) then kOpt (bif qqB (2 + qqp (qqM (qqN (IntKind.wrap .u8 (n_2 + 1)) - n_1.toNat) (List.drop (n_1.toNat) [(48 : UInt8), (49 : UInt8), (50 : UInt8), (51 : UInt8), (52 : UInt8), (53 : UInt8), (54 : UInt8), (55 : UInt8), (56 : UInt8), (57 : UInt8), (97 : UInt8), (98 : UInt8), (99 : UInt8), (100 : UInt8), (101 : UInt8), (102 : UInt8)]))) 9223372036854775807 then some (AV.str ((92 : UInt8) :: (120 : UInt8) :: qqM (qqN (IntKind.wrap .u8 (n_2 + (1 : Int))) - n_1.toNat) (List.drop (n_1.toNat) [(48 : UInt8), (49 : UInt8), (50 : UInt8), (51 : UInt8), (52 : UInt8), (53 : UInt8), (54 : UInt8), (55 : UInt8), (56 : UInt8), (57 : UInt8), (97 : UInt8), (98 : UInt8), (99 : UInt8), (100 : UInt8), (101 : UInt8), (102 : UInt8)]))) else none) fun v => kStr v fun s_1 => kOpt (qt (Op.intBits BinOp.and .u8 n 15)) fun v => kInt .u8 v fun n_3 => kOpt (qt (Op.intBits BinOp.and .u8 n 15)) fun v => kInt .u8 v fun n => bif qg 0 (IntKind.wrap .u8 (n + 1)) && qg (IntKind.wrap .u8 (n + 1)) 16 then bif qg 0 n_3 && qg n_3 (↑ (qqN (IntKind.wrap .u8 (n + (1 : Int)))) : Int) then kOpt (bif qqB (qqp s_1 + qqp (qqM (qqN (IntKind.wrap .u8 (n + 1)) - n_3.toNat) (List.drop (n_3.toNat) [(48 : UInt8), (49 : UInt8), (50 : UInt8), (51 : UInt8), (52 : UInt8), (53 : UInt8), (54 : UInt8), (55 : UInt8), (56 : UInt8), (57 : UInt8), (97 : UInt8), (98 : UInt8), (99 : UInt8), (100 : UInt8), (101 : UInt8), (102 : UInt8)]))) 9223372036854775807 then some (AV.str (qqE s_1 (qqM (qqN (IntKind.wrap .u8 (n + 1)) - n_3.toNat) (List.drop (qqN n_3) [(48 : UInt8), (49 : UInt8), (50 : UInt8), (51 : UInt8), (52 : UInt8), (53 : UInt8), (54 : UInt8), (55 : UInt8), (56 : UInt8), (57 : UInt8), (97 : UInt8), (98 : UInt8), (99 : UInt8), (100 : UInt8), (101 : UInt8), (102 : UInt8)])))) else none) fun v => zc12 v q s v10 h1 else none else none else none else none else zc11 n q s v10 h1 else none else kOpt (EVb (EV cfg) 113 [.ptr 0 0 0, .int .u8 39] 102 5 q.2) fun q => kOpt (EVb (EV cfg) 66 [.ptr 0 0 0] 102 5 q.2) fun q => kStr q.1 fun s => some (.str s)) P) : Gets (zL s q v10 h1) P :=
  gE (fun _ => qS (cfg := cfg) (f := 112) (rd := none) (bs := 0)) (by kernel_rfl) h
theorem qc4 (l : Rz) (b : Bz) (v8 : Int) {P : AV × List UInt8 → Prop} (h : Gets (bif decide (v8 < (l.length : Int)) then bif qg 0 v8 && qz v8 (l.length : Int) then kOpt (qqy l (v8.toNat)) fun row => bif qqz (qqp row) 4 then bif qqB 4 (qqp row) then kTmC (qqM 4 row) fun n n_1 s rows => (bif decide (v8 > 0) then kOpt (EVb (EV cfg) 113 [.ptr 0 0 0, .int .u8 44] 104 5 b) fun q => kOpt (EVb (EV cfg) 65 [.ptr 0 0 0, .agg [.int .i64 n, .int .i64 n_1, .str s, .sl rows]] 104 5 q.2) fun q => qbO l q.2 (IntKind.wrap .i64 (v8 + 1)) else kOpt (EVb (EV cfg) 65 [.ptr 0 0 0, .agg [.int .i64 n, .int .i64 n_1, .str s, .sl rows]] 104 5 b) fun q => qbO l q.2 (IntKind.wrap .i64 (v8 + 1))) else none else none else none else some (AV.tup [], b)) P) : Gets (qbO l b v8) P :=
  gE (fun _ => qS (cfg := cfg) (f := 114) (rd := none) (bs := 1)) (by kernel_rfl) h
theorem qaP (q : AV × List UInt8) (v4 : Bz) (c1_0 c1_1 : Int) (c1_2 : Bz) (c1_3 : Rz) {P : AV × List UInt8 → Prop} (h : Gets (bif c1_0 == 9 then kOpt (EVb (EV cfg) 68 [.ptr 0 0 0, .str v4] 104 5 q.2) fun q => kTup q.1 fun cs => q8 cs fun c cs => kInt .i64 c fun n => q8 cs fun c cs => kNil cs (bif qz 0 (c1_3.length : Int) then kOpt (qqy c1_3 0) fun row => bif qqz (qqp row) 4 then bif qqB 4 (qqp row) then kTmC (qqM 4 row) fun n n_1 s rows => (kOpt (EVb (EV cfg) 65 [.ptr 0 0 0, .agg [.int .i64 n, .int .i64 n_1, .str s, .sl rows]] 104 5 q.2) fun q => bif qz 1 (c1_3.length : Int) then kOpt (qqy c1_3 1) fun row => bif qqz (qqp row) 4 then bif qqB 4 (qqp row) then kTmC (qqM 4 row) fun n n_2 s rows => (qbN q [(44 : UInt8)] n n_2 s rows) else none else none else none) else none else none else none) else bif c1_0 == 8 then kOpt (EVb (EV cfg) 113 [.ptr 0 0 0, .int .u8 93] 104 5 q.2) fun q => some (AV.tup [], q.2) else kOpt (EVb (EV cfg) 113 [.ptr 0 0 0, .int .u8 124] 104 5 q.2) fun q => kOpt (EVb (EV cfg) 65 [.ptr 0 0 0, .agg [.int .i64 c1_0, .int .i64 c1_1, .str c1_2, .sl c1_3]] 104 5 q.2) fun q => kOpt (EVb (EV cfg) 113 [.ptr 0 0 0, .int .u8 (93 : Int)] 104 5 q.2) fun q => some (AV.tup [], q.2)) P) : Gets (qbN q v4 c1_0 c1_1 c1_2 c1_3) P :=
  gE (fun _ => qS (cfg := cfg) (f := 115) (rd := none) (bs := 1)) (by kernel_rfl) h
theorem qc6 (l : Rz) (q : AV × List UInt8) (v78 : Int) {P : AV × List UInt8 → Prop} (h : Gets (bif decide (v78 < (l.length : Int)) then bif qg 0 v78 && qz v78 (l.length : Int) then kOpt (qqy l (v78.toNat)) fun row => bif qqz (qqp row) 4 then bif qqB 4 (qqp row) then kTmC (qqM 4 row) fun n n_1 s rows => (kOpt (EVb (EV cfg) 113 [.ptr 0 0 0, .int .u8 44] 104 5 q.2) fun q => kOpt (EVb (EV cfg) 65 [.ptr 0 0 0, .agg [.int .i64 n, .int .i64 n_1, .str s, .sl rows]] 104 5 q.2) fun q => qdX l q (IntKind.wrap .i64 (v78 + 1))) else none else none else none else kOpt (EVb (EV cfg) 113 [.ptr 0 0 0, .int .u8 62] 104 5 q.2) fun q => some (AV.tup [], q.2)) P) : Gets (qdX l q v78) P :=
  gE (fun _ => qS (cfg := cfg) (f := 65) (rd := none) (bs := 1)) (by kernel_rfl) h
end Go.Proofs.YtnjonahoheopnaaGreatDoor
end
section
namespace Go.Av
open Go.Lib (contains index)
theorem contains_cons (b : UInt8) (l t : List UInt8) : contains (b :: l) t = (t.isPrefixOf (b :: l) || contains l t) := by
 unfold contains
 have h := Go.Lib.index_ge l t
 conv => lhs; unfold index
 cases t.isPrefixOf (b :: l) with
 | true => simp
 | false =>
  simp only [qqq, if_false, Bool.false_or]
  by_cases e : index l t = -1
  ·simp [e]
  ·have : (index l t == -1) = false := by simpa using e
   simp only [this, qqq, if_false]
   simp only [decide_eq_decide]
   omega
def catW : List (List UInt8) → List UInt8
 | [] => [32]
 | w :: ws => 32 :: (w ++ catW ws)
theorem qm8 : ∀ ws : List (List UInt8), ∃ r, catW ws = 32 :: r
 | [] => ⟨[], rfl⟩
 | w :: ws => ⟨_, rfl⟩
theorem qcZ (u r : List UInt8) : ∀ w : List UInt8, (32 : UInt8) ∉ w → contains (w ++ r) (32 :: u) = contains r (32 :: u)
 | [], _ => rfl
 | c :: w, h => by
  simp only [qqH, not_or] at h
  rw [List.cons_append, contains_cons, qcZ u r w h.2]
  have : ((32 : UInt8) :: u).isPrefixOf (c :: (w ++ r)) = false := by simp [List.isPrefixOf, h.1]
  rw [this]; rfl
theorem qew (r : List UInt8) : ∀ (s w : List UInt8), (32 : UInt8) ∉ s → (32 : UInt8) ∉ w → (s ++ [32]).isPrefixOf (w ++ 32 :: r) = (s == w)
 | [], [], _, _ => by simp [List.isPrefixOf]
 | [], c :: w, _, h => by
  simp only [qqH, not_or] at h
  simp [List.isPrefixOf, h.1]
 | b :: s, [], h, _ => by
  simp only [qqH, not_or] at h
  have : (b == 32) = false := by simpa using fun e => h.1 e.symm
  simp [List.isPrefixOf, this]
 | b :: s, c :: w, h, h' => by
  simp only [qqH, not_or] at h h'
  have ih := qew r s w h.2 h'.2
  simp only [List.cons_append, List.isPrefixOf, ih, List.cons_beq_cons]
theorem qcY (s : List UInt8) (hs : (32 : UInt8) ∉ s) : ∀ ws : List (List UInt8), (∀ w ∈ ws, (32 : UInt8) ∉ w) → contains (catW ws) (32 :: (s ++ [32])) = ws.contains s
 | [], _ => by
  rw [show catW [] = [32] from rfl, contains_cons]
  have h1 : ((32 : UInt8) :: (s ++ [32])).isPrefixOf [32] = false := by cases s <;> simp [List.isPrefixOf]
  rw [h1]
  rfl
 | w :: ws, h => by
  obtain ⟨r, hr⟩ := qm8 ws
  rw [show catW (w :: ws) = 32 :: (w ++ catW ws) from rfl, contains_cons, qcZ _ _ w (h w (by simp)), qcY s hs ws (fun x hx => h x (by simp [hx]))]
  have : ((32 : UInt8) :: (s ++ [32])).isPrefixOf (32 :: (w ++ catW ws)) = (s == w) := by
   rw [hr, List.isPrefixOf]
   simp [qew r s w hs (h w (by simp))]
  rw [this, List.contains_cons]
def vD : List (List UInt8) := [[97, 102, 116, 101, 114], [97, 110, 100], [97, 110, 100, 97, 108, 115, 111], [98, 101, 103, 105, 110], [99, 97, 115, 101], [99, 97, 116, 99, 104], [100, 105, 118], [101, 110, 100], [102, 117, 110], [110, 111, 116], [111, 102], [111, 114], [111, 114, 101, 108, 115, 101], [114, 101, 99, 101, 105, 118, 101], [114, 101, 109], [116, 114, 121], [119, 104, 101, 110]]
def yU (c : UInt8) : Bool := decide (97 ≤ c.toNat) && decide (c.toNat ≤ 122)
def qN (c : UInt8) : Bool := yU c || (decide (65 ≤ c.toNat) && decide (c.toNat ≤ 90)) || (decide (48 ≤ c.toNat) && decide (c.toNat ≤ 57)) || c == 95 || c == 64
def qaf (s : List UInt8) : Bool := (match s with | c :: _ => yU c | [] => false) && decide (s.length ≤ 64) && s.all qN && !vD.contains s
def hexd (k : Nat) : UInt8 := ([48, 49, 50, 51, 52, 53, 54, 55, 56, 57, 97, 98, 99, 100, 101, 102] : List UInt8).getD k 0
def escB (b : UInt8) : List UInt8 := if b = 39 ∨ b = 92 then [92, b] else if b.toNat < 32 ∨ 126 < b.toNat then [92, 120, hexd (b.toNat / 16), hexd (b.toNat % 16)] else [b]
def zn (s : List UInt8) : List UInt8 := 39 :: (s.flatMap escB ++ [39])
theorem qnY (b : UInt8) : (escB b).length ≤ 4 := by unfold escB; split <;> (try split) <;> simp
theorem zT : ∀ s : List UInt8, (s.flatMap escB).length ≤ 4 * s.length
 | [] => by simp
 | b :: s => by
  have h1 := zT s
  have h2 := qnY b
  rw [List.flatMap_cons, qqv, qqr]
  omega
theorem qeR {s : List UInt8} (h : s.all qN = true) : (32 : UInt8) ∉ s := by
 intro hm
 have := List.all_eq_true.1 h 32 hm
 exact absurd this (by decide)
end Go.Av
end
section
namespace Go.Proofs.YtnjonahoheopnaaGreatDoor
open Go.Av
theorem bldB : yQ vw.look 102 5 = true := by kernel_rfl
theorem bldW : yQ vw.look 104 5 = true := by kernel_rfl
theorem qfk {T : TypeId} (hT : yQ vw.look T 5 = true) (b : UInt8) {s : List UInt8} (hl : s.length < 140737488355328) :
  EVb (EV cfg) 113 [.ptr 0 0 0, .int .u8 (b.toNat : Int)] T 5 s = some (.nilI, s ++ [b]) := by
 have hx : cfg.ext 113 = some (yD vw.look) := rfl
 have h1 : EV cfg (.f 113) [.ptr 0 0 0, .int .u8 (b.toNat : Int)] [.bld T 5 s] = some (.nilI, [.bld T 5 (s ++ [b])]) := by
  refine qbx ?_
  unfold vg
  simp only [hx]
  unfold yD
  have hb : (b.toNat : Int) ≤ 255 := by have := b.toNat_lt; omega
  simp only [if_pos (show yQ vw.look T 5 = true ∧ 0 ≤ (b.toNat : Int) ∧ (b.toNat : Int) ≤ 255 ∧ s.length < 140737488355328 from ⟨hT, by omega, hb, hl⟩)]
  simp
 unfold EVb
 rw [h1]
 simp [qbc, AV.refsLt]
theorem qkZ {T : TypeId} (hT : yQ vw.look T 5 = true) {s t : List UInt8} (hl : s.length + t.length ≤ 140737488355328) :
  EVb (EV cfg) 68 [.ptr 0 0 0, .str t] T 5 s = some (.tup [.int .i64 t.length, .nilI], s ++ t) := by
 have hx : cfg.ext 68 = some (xR vw.look) := rfl
 have h1 : EV cfg (.f 68) [.ptr 0 0 0, .str t] [.bld T 5 s] = some (.tup [.int .i64 t.length, .nilI], [.bld T 5 (s ++ t)]) := by
  refine qbx ?_
  unfold vg
  simp only [hx]
  unfold xR
  simp only [if_pos (show yQ vw.look T 5 = true ∧ s.length + t.length ≤ 140737488355328 from ⟨hT, hl⟩)]
 unfold EVb
 rw [h1]
 simp [qbc, AV.refsLt, qk]
theorem qmv {T : TypeId} (hT : yQ vw.look T 5 = true) {s : List UInt8} (hl : s.length < 140737488355328) :
  EVb (EV cfg) 66 [.ptr 0 0 0] T 5 s = some (.str s, s) := by
 have hx : cfg.ext 66 = some (qal vw.look) := rfl
 have h1 : EV cfg (.f 66) [.ptr 0 0 0] [.bld T 5 s] = some (.str s, [.bld T 5 s]) := by
  refine qbx ?_
  unfold vg
  simp only [hx]
  unfold qal
  simp only [if_pos (show yQ vw.look T 5 = true ∧ s.length < 140737488355328 from ⟨hT, hl⟩)]
 unfold EVb
 rw [h1]
 simp [qbc, AV.refsLt]
theorem qgX {n : Int} (h0 : -9223372036854775808 ≤ n) (h1 : n ≤ 9223372036854775807) : EVs (EV cfg) 29 [.int .i64 n] = some (.str (vC n)) := by
 refine qjz (H := []) (qbx ?_)
 have hx : cfg.ext 29 = some qb5 := rfl
 unfold vg
 simp only [hx]
 unfold qb5
 simp only [if_pos (And.intro h0 h1)]
theorem qn5 {s t : List UInt8} (h : s.length < 4294967281) : EVs (EV cfg) 59 [.str s, .str t] = some (.bool (Go.Lib.contains s t)) := by
 refine qjz (H := []) (qbx ?_)
 have hx : cfg.ext 59 = some yZ := rfl
 unfold vg
 simp only [hx]
 unfold yZ
 simp only [if_pos h]
theorem qfm (b : UInt8) : EVs (EV cfg) 150 [.int .u8 (b.toNat : Int)] = some (.bool (yU b)) := by
 apply Gets.get
 refine qjP _ ?_
 unfold yU
 by_cases h : 97 ≤ b.toNat
 ·rw [decide_eq_true (show (b.toNat : Int) ≥ 97 by omega), decide_eq_true h]
  simp only [cond_true, qW, Bool.true_and, AV.bool.injEq, decide_eq_decide]
  omega
 ·rw [decide_eq_false (show ¬ (b.toNat : Int) ≥ 97 by omega), decide_eq_false h]
  simp
theorem yG (b c : UInt8) : ((b.toNat : Int) == (c.toNat : Int)) = (b == c) := by
 by_cases h : b = c
 ·subst h; simp
 ·have h1 : b.toNat ≠ c.toNat := fun e => h (UInt8.toNat_inj.1 e)
  have h2 : ((b.toNat : Int) == (c.toNat : Int)) = false := by rw [beq_eq_false_iff_ne]; omega
  rw [h2]; symm; simpa using h
theorem qjN (b : UInt8) : EVs (EV cfg) 152 [.int .u8 (b.toNat : Int)] = some (.bool (qN b)) := by
 apply Gets.get
 refine qii _ ?_
 unfold zc0 zc1 zc2
 rw [qfm]
 have e1 : ((b.toNat : Int) == 95) = (b == 95) := yG b 95
 have e2 : ((b.toNat : Int) == 64) = (b == 64) := yG b 64
 have d1 : decide ((b.toNat : Int) ≥ 65) = decide (65 ≤ b.toNat) := by simp only [decide_eq_decide]; omega
 have d2 : decide ((b.toNat : Int) ≤ 90) = decide (b.toNat ≤ 90) := by simp only [decide_eq_decide]; omega
 have d3 : decide ((b.toNat : Int) ≥ 48) = decide (48 ≤ b.toNat) := by simp only [decide_eq_decide]; omega
 have d4 : decide ((b.toNat : Int) ≤ 57) = decide (b.toNat ≤ 57) := by simp only [decide_eq_decide]; omega
 rw [e1, e2, d1, d2, d3, d4]
 unfold qN
 simp only [qa, qY]
 cases yU b <;> cases decide (65 ≤ b.toNat) <;> cases decide (b.toNat ≤ 90) <;> cases decide (48 ≤ b.toNat) <;> cases decide (b.toNat ≤ 57) <;> cases b == 95 <;> cases b == 64 <;> simp
theorem qhx (b : UInt8) : EVs (EV cfg) 151 [.int .u8 (b.toNat : Int)] = some (.bool (!qN b)) := by
 apply Gets.get
 refine qgI _ ?_
 rw [qjN]
 simp
noncomputable def qol : Den := evC cfg (EV cfg) 104 none 0 (sub (qn Tryz.f104) [1, 0, 1, 0, 0])
noncomputable def qow : Ex × List AV × AH → Option AV := kAft (Cfg.keepOut cfg 104 2) (kRun cfg (EV cfg) (kfN cfg 6) 104 none 0 (x7 cfg (Cfg.lift cfg 104 0) Tryz.f104.results.toList) ([.block 0, .seq (sub (qn Tryz.f104) [1, 1])]))
noncomputable def qod : List AV × AH → Option AV := fun p => kOpt (LOOP 0 (some [0, 1, 7, 8]) ([]) qol p) qow
noncomputable abbrev qdU (l : Rz) (v8 : Int) : Option (AV) := qod  (((fx 19 [(0, .sl l), (1, .fn (Fn.func 151) [] []), (7, .int .i64 (l.length : Int)), (8, .int .i64 v8)]) : List AV), ([] : AH))
theorem qgH (l : Rz) {P : AV → Prop} (h : Gets (kOpt (EVs (EV cfg) 104 [.sl l, AV.fn (Fn.func 151) [] []]) fun v => kInt .i64 v fun n => some (.bool (decide (n ≥ 0)))) P) : Gets (EVs (EV cfg) 56 [.sl l, .fn (Fn.func 151) [] []]) P :=
  gE (fun _ => funS rfl rfl Tryz.func56 rfl) (by kernel_rfl) h
theorem qjJ (l : Rz) {P : AV → Prop} (h : Gets (qdU l 0) P) : Gets (EVs (EV cfg) 104 [.sl l, .fn (Fn.func 151) [] []]) P :=
  gE (fun _ => funS rfl rfl Tryz.func104 rfl) (by kernel_rfl) h
theorem qc2 (l : Rz) (v8 : Int) {P : AV → Prop} (h : Gets (bif decide (v8 < (l.length : Int)) then bif qg 0 v8 && qz v8 (l.length : Int) then kOpt (qqy l (v8.toNat)) fun row => bif qqz (qqp row) 1 then kOpt (qqy row 0) fun v => kInt .u8 v fun n => kOpt (EVs (EV cfg) 151 [AV.int .u8 n]) fun v => q6 v fun b => bif b then some (.int .i64 v8) else qdU l (IntKind.wrap .i64 (v8 + 1)) else none else none else some (.int .i64 (- 1))) P) : Gets (qdU l v8) P :=
  gE (fun _ => qS (cfg := cfg) (f := 104) (rd := none) (bs := 0)) (by kernel_rfl) h
abbrev bR (s : List UInt8) : List (List AV) := s.map fun b => [AV.int .u8 (b.toNat : Int)]
theorem qnc {s : List UInt8} {i : Nat} {b : UInt8} (h : s[i]? = some b) : (bR s)[i]? = some [AV.int .u8 (b.toNat : Int)] := by simp [bR, h]
theorem qk2 (s : List UInt8) (hl : s.length < 1099511627776) : Gets (EVs (EV cfg) 104 [.sl (bR s), .fn (.func 151) [] []]) (fun v => ∃ n : Int, v = .int .i64 n ∧ (decide (n ≥ 0) = !s.all qN)) := by
 refine qjJ _ ?_
 have key : ∀ (k i : Nat), s.length - i = k → i ≤ s.length → (s.take i).all qN = true → Gets (qdU (bR s) (i : Int)) (fun v => ∃ n : Int, v = .int .i64 n ∧ (decide (n ≥ 0) = !s.all qN)) := by
  intro k
  induction k with
  | zero =>
   intro i hk hi ha
   refine qc2 _ _ ?_
   have : i = s.length := by omega
   subst this
   simp only [List.length_map, decide_eq_false (show ¬ ((s.length : Int) < (s.length : Int)) by omega), cond_false, qW]
   rw [List.take_length] at ha
   exact ⟨-1, rfl, by rw [ha]; rfl⟩
  | succ k ih =>
   intro i hk hi ha
   refine qc2 _ _ ?_
   have hlt : i < s.length := by omega
   obtain ⟨b, hb⟩ : ∃ b, s[i]? = some b := ⟨s[i], qqm hlt⟩
   rw [List.length_map, decide_eq_true (show (i : Int) < (s.length : Int) by omega), qP, xU, decide_eq_true hlt]
   simp only [cond_true, Bool.and_true, qB, Int.toNat_natCast, qnc hb, qa, List.getElem?_cons_zero, qq, qhx, qY]
   cases hL : qN b with
   | false =>
    simp only [Bool.not_false, cond_true, qW]
    have : s.all qN = false := by
     rw [← qqK, List.all_eq_true]
     intro h
     have := h b (qqx hb)
     rw [hL] at this; cases this
    exact ⟨_, rfl, by rw [this]; simp⟩
   | true =>
    simp only [Bool.not_true, cond_false]
    rw [q9 hlt hl]
    refine ih (i + 1) (by omega) hlt ?_
    rw [List.take_add_one, List.all_append, ha, hb]
    simp [hL]
 exact key _ 0 rfl (by omega) rfl
theorem qiy : ([32, 97, 102, 116, 101, 114, 32, 97, 110, 100, 32, 97, 110, 100, 97, 108, 115, 111, 32, 98, 101, 103, 105, 110, 32, 99, 97, 115, 101, 32, 99, 97, 116, 99, 104, 32, 100, 105, 118, 32, 101, 110, 100, 32, 102, 117, 110, 32, 110, 111, 116, 32, 111, 102, 32, 111, 114, 32, 111, 114, 101, 108, 115, 101, 32, 114, 101, 99, 101, 105, 118, 101, 32, 114, 101, 109, 32, 116, 114, 121, 32, 119, 104, 101, 110, 32] : List UInt8) = catW vD := by decide
theorem qk6 (s : List UInt8) (hl : s.length < 4294967200) : EVs (EV cfg) 111 [.str s] = some (.bool (qaf s)) := by
 apply Gets.get
 refine qjQ _ ?_
 unfold qaf
 cases s with
 | nil => simp
 | cons b s =>
  have e0 : (b :: s == []) = false := rfl
  simp only [e0, cond_false]
  by_cases h64 : (b :: s).length ≤ 64
  ·rw [decide_eq_false (show ¬ (((b :: s).length : Int) > 64) by omega)]
   simp only [cond_false, qB, List.getElem?_cons_zero, qa, qfm, qY]
   cases hsm : yU b with
   | false => simp
   | true =>
    simp only [Bool.not_true, cond_false]
    rw [show qqB (1 + (b :: s).length) 9223372036854775807 = true by simp only [nble, decide_eq_true_eq]; omega]
    simp only [cond_true, qa, qd]
    rw [show qqB (((32 : UInt8) :: b :: s).length + 1) 9223372036854775807 = true by simp only [nble, decide_eq_true_eq, qqr] at *; omega]
    simp only [cond_true, qa, qd, qiy]
    rw [qn5 (by decide)]
    simp only [qa, qY, List.length_map, Nat.zero_add]
    rw [show qqB (b :: s).length (b :: s).length = true by simp, show qqM (b :: s).length ((b :: s).map fun b => [AV.int .u8 (b.toNat : Int)]) = bR (b :: s) from List.take_of_length_le (by simp)]
    simp only [Bool.and_self, cond_true]
    have hcf : EVs (EV cfg) 56 [.sl (bR (b :: s)), .fn (.func 151) [] []] = some (.bool (!(b :: s).all qN)) := by
     apply Gets.get
     refine qgH _ ?_
     refine (qk2 (b :: s) (by omega)).bind fun v ⟨n, hv, hn⟩ => ?_
     subst hv
     simp only [qq, qW, hn]
    rw [hcf]
    simp only [qa, qY, Bool.not_not, decide_eq_true h64, Bool.true_and, Bool.and_true]
    cases hL : (b :: s).all qN with
    | false => cases Go.Lib.contains (catW vD) (qqE (32 :: b :: s) [32]) <;> simp
    | true =>
     have := qcY (b :: s) (qeR hL) vD (by decide)
     rw [show qqE ((32 : UInt8) :: b :: s) [32] = 32 :: ((b :: s) ++ [32]) from rfl, this]
     cases vD.contains (b :: s) <;> simp
  ·rw [decide_eq_true (show (((b :: s).length : Int) > 64) by omega)]
   have : decide ((b :: s).length ≤ 64) = false := decide_eq_false h64
   rw [this]
   simp
def qb2 (o : Option AV) (x : Int) : Bool := match o with | some (.int .u8 y) => y == x | _ => false
theorem qbl {o : Option AV} {x : Int} (h : qb2 o x = true) : o = some (.int .u8 x) := by
 unfold qb2 at h
 split at h
 ·rw [beq_iff_eq] at h; subst h; rfl
 ·cases h
theorem shr4 (b : UInt8) : qt (Op.shift BinOp.shr .u8 (b.toNat : Int) .u64 4) = some (.int .u8 ((b.toNat / 16 : Nat) : Int)) := by
 have : ∀ n : Nat, n < 256 → qb2 (qt (Op.shift BinOp.shr .u8 (n : Int) .u64 4)) ((n / 16 : Nat) : Int) = true := by decide +kernel
 exact qbl (this _ b.toNat_lt)
theorem qqg (b : UInt8) : qt (Op.intBits BinOp.and .u8 (b.toNat : Int) 15) = some (.int .u8 ((b.toNat % 16 : Nat) : Int)) := by
 have : ∀ n : Nat, n < 256 → qb2 (qt (Op.intBits BinOp.and .u8 (n : Int) 15)) ((n % 16 : Nat) : Int) = true := by decide +kernel
 exact qbl (this _ b.toNat_lt)
theorem qhM {k : Nat} (h : k < 16) : IntKind.wrap .u8 ((k : Int) + 1) = ((k + 1 : Nat) : Int) := by
 simp [IntKind.wrap, IntKind.bits, IntKind.signed]; omega
theorem qab {k : Nat} (h : k < 16) : qqM (k + 1 - k) (List.drop k ([48, 49, 50, 51, 52, 53, 54, 55, 56, 57, 97, 98, 99, 100, 101, 102] : List UInt8)) = [hexd k] := by
 have : ∀ k : Nat, k < 16 → qqM (k + 1 - k) (List.drop k ([48, 49, 50, 51, 52, 53, 54, 55, 56, 57, 97, 98, 99, 100, 101, 102] : List UInt8)) = [hexd k] := by decide
 exact this k h
theorem le16 {k : Nat} (h : k < 16) : qg ((k + 1 : Nat) : Int) 16 = true := by simp [qg]; omega
theorem qds (k : Nat) : qg (k : Int) ((k + 1 : Nat) : Int) = true := by simp [qg]; omega
theorem qj4 {s acc : List UInt8} {v : AV} {i : Nat} {b : UInt8} (hb : s[i]? = some b) (hs : s.length < 1099511627776) (ha : acc.length < 100000000000000) {P : AV → Prop}
  (h : ∀ v', Gets (zL s (v', acc ++ escB b) ((i + 1 : Nat) : Int) (bR s)) P) : Gets (zL s (v, acc) (i : Int) (bR s)) P := by
 have hlt : i < s.length := (qqj.1 hb).1
 refine qc5 _ _ _ _ ?_
 unfold zc12 zc13 zc11
 rw [decide_eq_true (show (i : Int) < (s.length : Int) by omega), qP, xU, decide_eq_true hlt]
 simp only [cond_true, Bool.and_true, qB, Nat.zero_add, Int.toNat_natCast, qnc hb, qa, List.getElem?_cons_zero, qq]
 rw [q9 hlt hs]
 have e1 : ((b.toNat : Int) == 39) = (b == 39) := yG b 39
 have e2 : ((b.toNat : Int) == 92) = (b == 92) := yG b 92
 have w92 : EVb (EV cfg) 113 [.ptr 0 0 0, .int .u8 92] 102 5 acc = some (.nilI, acc ++ [92]) := qfk bldB 92 (by omega)
 have wb : ∀ a : List UInt8, a.length < 140737488355328 → EVb (EV cfg) 113 [.ptr 0 0 0, .int .u8 (b.toNat : Int)] 102 5 a = some (.nilI, a ++ [b]) := fun a h => qfk bldB b h
 rw [e1, e2]
 unfold escB at h
 cases h1 : b == 39 with
 | true =>
  have hb1 : b = 39 := by simpa using h1
  rw [if_pos (.inl hb1)] at h
  simp only [cond_true, w92, qa, wb (acc ++ [92]) (by simp; omega), List.append_assoc, List.cons_append, List.nil_append]
  exact h _
 | false =>
 cases h2 : b == 92 with
 | true =>
  have hb1 : b = 92 := by simpa using h2
  rw [if_pos (.inr hb1)] at h
  simp only [cond_true, cond_false, w92, qa, wb (acc ++ [92]) (by simp; omega), List.append_assoc, List.cons_append, List.nil_append]
  exact h _
 | false =>
  have hn : ¬ (b = 39 ∨ b = 92) := by simp at h1 h2; simp [h1, h2]
  rw [if_neg hn] at h
  have hq : b.toNat / 16 < 16 := by have := b.toNat_lt; omega
  have hr : b.toNat % 16 < 16 := by omega
  have hex : ∀ (t : List UInt8), qg 0 (((b.toNat / 16 + 1 : Nat) : Int)) = true := fun _ => qP _
  simp only [cond_false, shr4, qqg, qa, qq, qhM hq, qhM hr, qP, Bool.true_and, qab hq, qab hr, qqr, qqA, Int.toNat_natCast]
  by_cases h32 : b.toNat < 32
  ·rw [if_pos (.inl h32)] at h
   rw [decide_eq_true (show (b.toNat : Int) < 32 by omega)]
   simp only [cond_true, le16 hq, le16 hr, qds, qab hq, qab hr, qqr, qqA, qd, qa, qqO, List.cons_append, List.nil_append]
   rw [show qqB (2 + (0 + 1)) 9223372036854775807 = true by decide]
   simp only [cond_true, qa, qd, qqr, qqA]
   rw [show qqB (0 + 1 + 1 + 1 + (0 + 1)) 9223372036854775807 = true by decide]
   simp only [cond_true, qa, qd, qqO, List.cons_append, List.nil_append]
   rw [qkZ bldB (by simp; omega)]
   simp only [qa, kTup, qE, qq, qV]
   exact h _
  ·by_cases h126 : 126 < b.toNat
   ·rw [if_pos (.inr h126)] at h
    rw [decide_eq_false (show ¬ (b.toNat : Int) < 32 by omega), decide_eq_true (show (b.toNat : Int) > 126 by omega)]
    simp only [cond_true, cond_false, le16 hq, le16 hr, qds, qab hq, qab hr, qqr, qqA, qd, qa, qqO, List.cons_append, List.nil_append]
    rw [show qqB (2 + (0 + 1)) 9223372036854775807 = true by decide]
    simp only [cond_true, qa, qd, qqr, qqA]
    rw [show qqB (0 + 1 + 1 + 1 + (0 + 1)) 9223372036854775807 = true by decide]
    simp only [cond_true, qa, qd, qqO, List.cons_append, List.nil_append]
    rw [qkZ bldB (by simp; omega)]
    simp only [qa, kTup, qE, qq, qV]
    exact h _
   ·rw [if_neg (by omega)] at h
    rw [decide_eq_false (show ¬ (b.toNat : Int) < 32 by omega), decide_eq_false (show ¬ (b.toNat : Int) > 126 by omega)]
    simp only [cond_false, wb acc (by omega), qa]
    exact h _
theorem qjM (s : List UInt8) (hs : s.length < 1099511627776) : EVs (EV cfg) 112 [.str s] = some (.str (zn s)) := by
 apply Gets.get
 refine qih _ ?_
 have w0 : EVb (EV cfg) 113 [.ptr 0 0 0, .int .u8 39] 102 5 [] = some (.nilI, [] ++ [39]) := qfk bldB 39 (by simp)
 rw [w0]
 simp only [qa]
 have key : ∀ (k i : Nat) (v : AV) (acc : List UInt8), s.length - i = k → i ≤ s.length → acc = 39 :: (s.take i).flatMap escB → Gets (zL s (v, acc) (i : Int) (bR s)) (fun v => v = .str (zn s)) := by
  intro k
  induction k with
  | zero =>
   intro i v acc hk hi ha
   refine qc5 _ _ _ _ ?_
   unfold zc12 zc13 zc11
   have : i = s.length := by omega
   subst this
   rw [List.take_length] at ha
   have hl := zT s
   have hal : acc.length = (s.flatMap escB).length + 1 := by rw [ha]; simp
   have w39 : EVb (EV cfg) 113 [.ptr 0 0 0, .int .u8 39] 102 5 acc = some (.nilI, acc ++ [39]) := qfk bldB 39 (by omega)
   rw [decide_eq_false (show ¬ ((s.length : Int) < (s.length : Int)) by omega)]
   simp only [cond_false, w39, qa]
   rw [qmv bldB (by simp; omega)]
   simp only [qa, qd, qW, ha]
   rfl
  | succ k ih =>
   intro i v acc hk hi ha
   have hlt : i < s.length := by omega
   have hb : s[i]? = some s[i] := qqm hlt
   have hl := zT (s.take i)
   have hal : acc.length = ((s.take i).flatMap escB).length + 1 := by rw [ha]; simp
   have htl : (s.take i).length ≤ s.length := by simp; omega
   refine qj4 hb hs (by omega) fun v' => ih (i + 1) v' _ (by omega) hlt ?_
   rw [ha, List.take_add_one, hb]
   simp only [Option.toList, List.flatMap_append, List.flatMap_cons, List.flatMap_nil, List.append_nil, List.cons_append]
 exact key _ 0 _ _ rfl (by omega) rfl
end Go.Proofs.YtnjonahoheopnaaGreatDoor
end
section
namespace Go.Av
def bigA (b : UInt8) : Bool := (decide (65 ≤ b.toNat) && decide (b.toNat ≤ 90)) || b == 95
def qpB : List (List UInt8) := [[61, 58, 61], [61, 47, 61], [61, 61], [47, 61], [61, 60], [62, 61], [45, 62], [40], [41], [123], [125], [91], [93], [44], [59], [124], [61], [60], [62], [43], [45], [42], [33], [58]]
abbrev strR (l : List (List UInt8)) : List (List AV) := l.map fun s => [AV.str s]
def varA (s : List UInt8) : Bool := (match s with | c :: _ => bigA c | [] => false) && decide (s.length ≤ 64) && s.all qN
def mayA (k n : Int) (s : List UInt8) : Bool :=
 if k = 1 then decide (0 ≤ n) && (decide (n ≤ 576460752303423487) && s == [])
 else if k = 2 then n == 0 && decide (s.length ≤ 64)
 else if k = 3 then n == 0 && varA s
 else if k = 4 then n == 0 && vD.contains s
 else if k = 5 then n == 0 && qpB.contains s
 else if k = 6 then n == 0 && s == []
 else false
def tokA (k n : Int) (s : List UInt8) : List UInt8 := if k = 1 then vC n else if k = 2 then (if qaf s then s else zn s) else if k = 6 then [46] else s
structure TokA where
 k : Int
 n : Int
 a : Int
 s : List UInt8
def TokA.may (t : TokA) : Bool := mayA t.k t.n t.s
def TokA.text (t : TokA) : List UInt8 := tokA t.k t.n t.s
def TokA.cells (t : TokA) : List AV := [.int .i64 t.k, .int .i64 t.n, .int .i64 t.a, .str t.s]
def qoG (l : List TokA) : List (List AV) := l.map TokA.cells
@[simp] theorem rowsK_length (l : List TokA) : (qoG l).length = l.length := by simp [qoG]
end Go.Av
end
section
namespace Go.Proofs.YtnjonahoheopnaaGreatDoor
open Go.Av
theorem rquo {a b : Int} (h : b ≠ 0) : qt (Op.intDiv .quo .i64 a b) = some (.int .i64 (IntKind.wrap .i64 (a.tdiv b))) := by
 unfold Op.intDiv; rw [if_neg h]; rfl
theorem rrem {a b : Int} (h : b ≠ 0) : qt (Op.intDiv .rem .i64 a b) = some (.int .i64 (a.tmod b)) := by
 unfold Op.intDiv; rw [if_neg h]; rfl
theorem qfh (c x y : Int) : EVs (EV cfg) 155 [.int .u8 c, .int .u8 x, .int .u8 y] = some (.bool (decide (c ≥ x) && decide (c ≤ y))) := by
 apply Gets.get
 refine qif _ _ _ ?_
 cases decide (c ≥ x) <;> simp
theorem qmk (b : UInt8) : (decide ((b.toNat : Int) ≥ 97) && decide ((b.toNat : Int) ≤ 122)) = yU b := by
 unfold yU
 congr 1 <;> (simp only [decide_eq_decide]; omega)
theorem wbig (b : UInt8) : (decide ((b.toNat : Int) ≥ 65) && decide ((b.toNat : Int) ≤ 90)) = (decide (65 ≤ b.toNat) && decide (b.toNat ≤ 90)) := by
 congr 1 <;> (simp only [decide_eq_decide]; omega)
theorem qpv (b : UInt8) : (decide ((b.toNat : Int) ≥ 48) && decide ((b.toNat : Int) ≤ 57)) = (decide (48 ≤ b.toNat) && decide (b.toNat ≤ 57)) := by
 congr 1 <;> (simp only [decide_eq_decide]; omega)
theorem qhv (b c : UInt8) : ((b.toNat : Int) != (c.toNat : Int)) = !(b == c) := by rw [bne, yG]
theorem qnz (s : List UInt8) : EVs (EV cfg) 156 [.str s] = some (.bool (vD.contains s)) := by
 apply Gets.get
 refine qk3 _ ?_
 show Gets (qaO s 0 (strR vD)) _
 have key : ∀ (k i : Nat), 17 - i = k → i ≤ 17 → (vD.take i).contains s = false → Gets (qaO s (i : Int) (strR vD)) (fun v => v = .bool (vD.contains s)) := by
  intro k
  induction k with
  | zero =>
   intro i hk hi ha
   refine qcN _ _ _ ?_
   have : i = 17 := by omega
   subst this
   have h17 : vD.take 17 = vD := by decide
   rw [h17] at ha
   rw [decide_eq_false (show ¬ (((17 : Nat) : Int) < 17) by omega), ha]
   simp
  | succ k ih =>
   intro i hk hi ha
   refine qcN _ _ _ ?_
   have hlt : i < 17 := by omega
   have hlen : vD.length = 17 := by decide
   obtain ⟨b, hb⟩ : ∃ b, vD[i]? = some b := ⟨vD[i], qqm (by omega)⟩
   rw [decide_eq_true (show (i : Int) < 17 by omega), qP, show qz (i : Int) 17 = true by simp [qz]; omega]
   have hget : (strR vD)[i]? = some [AV.str b] := by simp [strR, hb]
   simp only [cond_true, Bool.and_true, qB, Nat.zero_add, Int.toNat_natCast, hget, qa, List.getElem?_cons_zero, qd]
   cases hL : b == s with
   | true =>
    have hsb : b = s := by simpa using hL
    have : vD.contains s = true := by
     simp only [List.contains_iff_mem]
     rw [← hsb]
     exact qqx hb
    rw [this]; simp
   | false =>
    simp only [cond_false]
    rw [q9 hlt (by omega)]
    refine ih (i + 1) (by omega) hlt ?_
    rw [List.take_add_one, hb]
    simp only [Option.toList, List.contains_eq_mem, qqI, qqH, List.not_mem_nil, or_false, decide_eq_false_iff_not] at ha ⊢
    have hne : ¬ b = s := by simpa using hL
    exact fun h => h.elim ha fun e => hne e.symm
 exact key _ 0 rfl (by omega) (by simp)
theorem qmL (s : List UInt8) (hl : s.length < 1099511627776) : EVs (EV cfg) 120 [.str s] = some (.bool (qaf s)) := by
 apply Gets.get
 refine qjL _ ?_
 unfold qaf
 cases s with
 | nil => simp
 | cons b s =>
  have e0 : (b :: s == []) = false := rfl
  simp only [e0, cond_false]
  by_cases h64 : (b :: s).length ≤ 64
  ·rw [decide_eq_false (show ¬ (((b :: s).length : Int) > 64) by omega)]
   simp only [cond_false, qB, List.getElem?_cons_zero, qa, qfh, qmk, qY]
   cases hsm : yU b with
   | false => simp
   | true =>
    simp only [Bool.not_true, cond_false, decide_eq_true h64, Bool.true_and]
    have key : ∀ (k i : Nat), (b :: s).length - i = k → i ≤ (b :: s).length → ((b :: s).take i).all qN = true → Gets (xW (b :: s) (i : Int)) (fun v => v = .bool ((b :: s).all qN && !vD.contains (b :: s))) := by
     generalize (b :: s) = s at *
     intro k
     induction k with
     | zero =>
      intro i hk hi ha
      refine qcQ _ _ ?_
      have : i = s.length := by omega
      subst this
      rw [List.take_length] at ha
      rw [decide_eq_false (show ¬ ((s.length : Int) < (s.length : Int)) by omega)]
      simp only [cond_false, qnz, qa, qY, qW, ha, Bool.true_and]
     | succ k ih =>
      intro i hk hi ha
      refine qcQ _ _ ?_
      have hlt : i < s.length := by omega
      obtain ⟨c, hc⟩ : ∃ c, s[i]? = some c := ⟨s[i], qqm hlt⟩
      rw [decide_eq_true (show (i : Int) < (s.length : Int) by omega), qP, q9 hlt hl]
      have e1 : ((c.toNat : Int) != 95) = !(c == 95) := qhv c 95
      have e2 : ((c.toNat : Int) != 64) = !(c == 64) := qhv c 64
      simp only [cond_true, qB, Int.toNat_natCast, hc, qa, qfh, qmk, wbig, qpv, qY, e1, e2]
      have hnext : qN c = true → Gets (xW s ((i + 1 : Nat) : Int)) (fun v => v = .bool (s.all qN && !vD.contains s)) := fun hL => ih (i + 1) (by omega) hlt (by
       rw [List.take_add_one, List.all_append, ha, hc]
       simp [hL])
      have hstop : qN c = false → s.all qN = false := fun hL => by
       rw [← qqK, List.all_eq_true]
       intro h
       have := h c (qqx hc)
       rw [hL] at this; cases this
      cases h1 : yU c with
      | true => simp only [Bool.not_true, cond_false]; exact hnext (by unfold qN; simp [h1])
      | false =>
      simp only [Bool.not_false, cond_true]
      cases h2 : (decide (65 ≤ c.toNat) && decide (c.toNat ≤ 90)) with
      | true => simp only [Bool.not_true, cond_false]; exact hnext (by unfold qN; simp [h1, h2])
      | false =>
      simp only [Bool.not_false, cond_true]
      cases h3 : (decide (48 ≤ c.toNat) && decide (c.toNat ≤ 57)) with
      | true => simp only [Bool.not_true, cond_false]; exact hnext (by unfold qN; simp [h1, h2, h3])
      | false =>
      simp only [Bool.not_false, cond_true]
      cases h4 : c == 95 with
      | true => simp only [Bool.not_true, cond_false]; exact hnext (by unfold qN; simp [h1, h2, h3, h4])
      | false =>
      simp only [Bool.not_false, cond_true]
      cases h5 : c == 64 with
      | true => simp only [Bool.not_true, cond_false]; exact hnext (by unfold qN; simp [h1, h2, h3, h4, h5])
      | false =>
       simp only [Bool.not_false, cond_true, qW]
       rw [hstop (by unfold qN; simp [h1, h2, h3, h4, h5])]
       simp
    exact key _ 0 rfl (by omega) rfl
  ·rw [decide_eq_true (show (((b :: s).length : Int) > 64) by omega)]
   have : decide ((b :: s).length ≤ 64) = false := decide_eq_false h64
   rw [this]
   simp
theorem qqa (b : UInt8) : qt (Op.intDiv BinOp.quo .u8 (b.toNat : Int) 16) = some (.int .u8 ((b.toNat / 16 : Nat) : Int)) := by
 have : ∀ n : Nat, n < 256 → qb2 (qt (Op.intDiv BinOp.quo .u8 (n : Int) 16)) ((n / 16 : Nat) : Int) = true := by decide +kernel
 exact qbl (this _ b.toNat_lt)
theorem qp9 (b : UInt8) : qt (Op.intDiv BinOp.rem .u8 (b.toNat : Int) 16) = some (.int .u8 ((b.toNat % 16 : Nat) : Int)) := by
 have : ∀ n : Nat, n < 256 → qb2 (qt (Op.intDiv BinOp.rem .u8 (n : Int) 16)) ((n % 16 : Nat) : Int) = true := by decide +kernel
 exact qbl (this _ b.toNat_lt)
theorem bleN {n : Nat} (h : n ≤ 9223372036854775807) : qqB n 9223372036854775807 = true := by simp only [nble, decide_eq_true_eq]; exact h
theorem qnD {s : List UInt8} {i : Nat} {b : UInt8} (hb : s[i]? = some b) : qqM (i + 1 - i) (List.drop i s) = [b] := by
 have hlt : i < s.length := (qqj.1 hb).1
 rw [List.drop_eq_getElem_cons hlt]
 rw [qqm hlt] at hb
 cases hb
 rw [show i + 1 - i = 1 by omega]
 rfl
theorem qiF {s acc : List UInt8} {i : Nat} {b : UInt8} (hb : s[i]? = some b) (hs : s.length < 1099511627776) (ha : acc.length < 100000000000000) {P : AV → Prop}
  (h : Gets (zK s (acc ++ escB b) ((i + 1 : Nat) : Int)) P) : Gets (zK s acc (i : Int)) P := by
 have hlt : i < s.length := (qqj.1 hb).1
 refine qcP _ _ _ ?_
 unfold zb5 zb3 zb4 zb2
 have e1 : ((b.toNat : Int) == 39) = (b == 39) := yG b 39
 have e2 : ((b.toNat : Int) == 92) = (b == 92) := yG b 92
 have hq : b.toNat / 16 < 16 := by have := b.toNat_lt; omega
 have hr : b.toNat % 16 < 16 := by omega
 have hle : qg ((i + 1 : Nat) : Int) (s.length : Int) = true := by simp [qg]; omega
 rw [decide_eq_true (show (i : Int) < (s.length : Int) by omega), qP, q9 hlt hs]
 simp only [cond_true, qB, Int.toNat_natCast, hb, qa, qqa, qp9, qq, qhM hq, qhM hr, qP, le16 hq, le16 hr, qds, hle, Bool.and_self, qab hq, qab hr, qnD hb, e1, e2]
 unfold escB at h
 by_cases h32 : b.toNat < 32
 ·rw [decide_eq_true (show (b.toNat : Int) < 32 by omega)]
  have hn : ¬ (b = 39 ∨ b = 92) := by rintro (rfl | rfl) <;> exact absurd h32 (by decide)
  rw [if_neg hn, if_pos (.inl h32)] at h
  simp only [cond_true]
  rw [bleN (by omega)]
  simp only [cond_true, qa, qd, qqO, qqv, qqr, qqA]
  rw [bleN (by omega)]
  simp only [cond_true, qa, qd, qqO, qqv, qqr, qqA]
  rw [bleN (by omega)]
  simp only [cond_true, qa, qd, List.append_assoc, List.cons_append, List.nil_append]
  exact h
 ·rw [decide_eq_false (show ¬ (b.toNat : Int) < 32 by omega)]
  simp only [cond_false]
  by_cases h126 : 126 < b.toNat
  ·rw [decide_eq_true (show (b.toNat : Int) > 126 by omega)]
   have hn : ¬ (b = 39 ∨ b = 92) := by rintro (rfl | rfl) <;> exact absurd h126 (by decide)
   rw [if_neg hn, if_pos (.inr h126)] at h
   simp only [cond_true]
   rw [bleN (by omega)]
   simp only [cond_true, qa, qd, qqO, qqv, qqr, qqA]
   rw [bleN (by omega)]
   simp only [cond_true, qa, qd, qqO, qqv, qqr, qqA]
   rw [bleN (by omega)]
   simp only [cond_true, qa, qd, List.append_assoc, List.cons_append, List.nil_append]
   exact h
  ·rw [decide_eq_false (show ¬ (b.toNat : Int) > 126 by omega)]
   simp only [cond_false]
   cases h1 : b == 39 with
   | true =>
    simp only [cond_true]
    rw [if_pos (.inl (by simpa using h1))] at h
    rw [bleN (by omega)]
    simp only [cond_true, qa, qd, qqO, qqv, qqr, qqA]
    rw [bleN (by omega)]
    simp only [cond_true, qa, qd, List.append_assoc, List.cons_append, List.nil_append]
    exact h
   | false =>
   cases h2 : b == 92 with
   | true =>
    simp only [cond_true, cond_false]
    rw [if_pos (.inr (by simpa using h2))] at h
    rw [bleN (by omega)]
    simp only [cond_true, qa, qd, qqO, qqv, qqr, qqA]
    rw [bleN (by omega)]
    simp only [cond_true, qa, qd, List.append_assoc, List.cons_append, List.nil_append]
    exact h
   | false =>
    have hn : ¬ (b = 39 ∨ b = 92) := by simp at h1 h2; simp [h1, h2]
    rw [if_neg hn, if_neg (by omega)] at h
    simp only [cond_false]
    rw [bleN (by simp; omega)]
    simp only [cond_true, qa, qd, qqO]
    exact h
theorem qlr (s : List UInt8) (hs : s.length < 1099511627776) : EVs (EV cfg) 121 [.str s] = some (.str (zn s)) := by
 apply Gets.get
 refine qig _ ?_
 have key : ∀ (k i : Nat) (acc : List UInt8), s.length - i = k → i ≤ s.length → acc = 39 :: (s.take i).flatMap escB → Gets (zK s acc (i : Int)) (fun v => v = .str (zn s)) := by
  intro k
  induction k with
  | zero =>
   intro i acc hk hi ha
   refine qcP _ _ _ ?_
   unfold zb5 zb3 zb4 zb2
   have : i = s.length := by omega
   subst this
   rw [List.take_length] at ha
   have hl := zT s
   have hal : acc.length = (s.flatMap escB).length + 1 := by rw [ha]; simp
   rw [decide_eq_false (show ¬ ((s.length : Int) < (s.length : Int)) by omega)]
   simp only [cond_false]
   rw [bleN (by omega)]
   simp only [cond_true, qa, qd, qW, ha]
   rfl
  | succ k ih =>
   intro i acc hk hi ha
   have hlt : i < s.length := by omega
   have hb : s[i]? = some s[i] := qqm hlt
   have hl := zT (s.take i)
   have hal : acc.length = ((s.take i).flatMap escB).length + 1 := by rw [ha]; simp
   have htl : (s.take i).length ≤ s.length := by simp; omega
   refine qiF hb hs (by omega) (ih (i + 1) _ (by omega) hlt ?_)
   rw [ha, List.take_add_one, hb]
   simp only [Option.toList, List.flatMap_append, List.flatMap_cons, List.flatMap_nil, List.append_nil, List.cons_append]
 exact key _ 0 _ rfl (by omega) rfl
theorem qkT {k : Nat} (h : k < 10) : qqM (k + 1 - k) (List.drop k ([48, 49, 50, 51, 52, 53, 54, 55, 56, 57] : List UInt8)) = [UInt8.ofNat (48 + k)] := by
 have : ∀ k : Nat, k < 10 → qqM (k + 1 - k) (List.drop k ([48, 49, 50, 51, 52, 53, 54, 55, 56, 57] : List UInt8)) = [UInt8.ofNat (48 + k)] := by decide
 exact this k h
theorem qkU (m : Nat) : m < 9223372036854775808 → EVs (EV cfg) 73 [.int .i64 (m : Int)] = some (.str (Go.Lib.decDigits m)) := by
 induction m using Nat.strongRecOn with
 | _ m ih =>
  intro hm
  apply Gets.get
  refine qha _ ?_
  rw [decide_eq_false (show ¬ (m : Int) < 0 by omega)]
  simp only [cond_false]
  by_cases h10 : m < 10
  ·rw [decide_eq_true (show (m : Int) < 10 by omega)]
   have hw : IntKind.wrap .i64 ((m : Int) + 1) = ((m + 1 : Nat) : Int) := by rw [vZ (by omega) (by omega)]; rfl
   have hle : qg ((m + 1 : Nat) : Int) 10 = true := by simp [qg]; omega
   simp only [cond_true, hw, qP, hle, Bool.true_and, qds, Int.toNat_natCast, qkT h10, qW]
   rw [Go.Lib.decDigits, dif_pos h10]
  ·rw [decide_eq_false (show ¬ (m : Int) < 10 by omega)]
   simp only [cond_false]
   rw [rquo (by decide), rrem (by decide)]
   have hd : IntKind.wrap .i64 ((m : Int).tdiv 10) = ((m / 10 : Nat) : Int) := by
    rw [Int.tdiv_eq_ediv_of_nonneg (by omega), vZ (by omega) (by omega)]; omega
   have hr : (m : Int).tmod 10 = ((m % 10 : Nat) : Int) := by
    rw [Int.tmod_eq_emod_of_nonneg (by omega)]; omega
   rw [hd, hr]
   have i1 := ih (m / 10) (by omega) (by omega)
   have i2 := ih (m % 10) (by omega) (by omega)
   simp only [qa, qq]
   rw [i1]
   simp only [qa, qd, qq]
   rw [i2]
   have hl : ∀ u, u < 10 ^ 19 → (Go.Lib.decDigits u).length ≤ 20 := fun u hu => by
    rw [← qb9 19 u (by omega)]
    have : ∀ (k u : Nat), (decF k u).length ≤ k := fun k => by
     induction k with
     | zero => intro u; simp [decF]
     | succ k ih => intro u; rw [decF]; split <;> simp; exact ih _
    exact this 20 u
   have l1 := hl (m / 10) (by omega)
   have l2 := hl (m % 10) (by omega)
   simp only [qa, qd]
   rw [bleN (by omega)]
   simp only [cond_true, qa, qd, qW, qqO]
   conv => rhs; rw [Go.Lib.decDigits, dif_neg h10]
   have h9 : m % 10 < 10 := by omega
   rw [show Go.Lib.decDigits (m % 10) = [UInt8.ofNat (48 + m % 10)] by rw [Go.Lib.decDigits, dif_pos h9]]
theorem qo6 {n : Int} (h0 : 0 ≤ n) (h1 : n ≤ 576460752303423487) : EVs (EV cfg) 73 [.int .i64 n] = some (.str (vC n)) := by
 obtain ⟨m, rfl⟩ := Int.eq_ofNat_of_zero_le h0
 rw [qkU m (by omega), qa3 (by omega) (by omega)]
 unfold Go.Lib.itoa
 rw [if_neg (by omega)]
 rfl
end Go.Proofs.YtnjonahoheopnaaGreatDoor
end
section
namespace Go.Av
@[simp] theorem Tm.kind_mk (k n : Int) (s : List UInt8) (l : List Tm) : (Tm.mk k n s l).kind = k := rfl
@[simp] theorem Tm.num_mk (k n : Int) (s : List UInt8) (l : List Tm) : (Tm.mk k n s l).num = n := rfl
@[simp] theorem Tm.str_mk (k n : Int) (s : List UInt8) (l : List Tm) : (Tm.mk k n s l).str = s := rfl
@[simp] theorem Tm.subs_mk (k n : Int) (s : List UInt8) (l : List Tm) : (Tm.mk k n s l).subs = l := rfl
@[simp] theorem Tm.eta (t : Tm) : Tm.mk t.kind t.num t.str t.subs = t := by cases t; rfl
theorem Tm.cells_eq (t : Tm) : t.cells = [.int .i64 t.kind, .int .i64 t.num, .str t.str, .sl (qh t.subs)] := by cases t; rw [Tm.cells_mk]; rfl
@[simp] theorem cells_fold (k n : Int) (s : List UInt8) (l : List Tm) : [AV.int .i64 k, AV.int .i64 n, AV.str s, AV.sl (qh l)] = (Tm.mk k n s l).cells := (Tm.cells_mk k n s l).symm
@[simp] theorem cells_fold0 (k n : Int) (s : List UInt8) : [AV.int .i64 k, AV.int .i64 n, AV.str s, AV.sl []] = (Tm.mk k n s []).cells := by rw [Tm.cells_mk, xr]
@[simp] theorem agg_cells (t : Tm) : AV.agg t.cells = t.av := rfl
@[simp] theorem qmD (t : Tm) : [t.cells] = qh [t] := by rw [vA, xr]
@[simp] theorem rowsT_cons' (t : Tm) (l : List Tm) : t.cells :: qh l = qh (t :: l) := (vA t l).symm
@[simp] theorem rowsT_append' (a b : List Tm) : qh a ++ qh b = qh (a ++ b) := (qaU a b).symm
@[simp] theorem rowsT_app (a b : List Tm) : qqE (qh a) (qh b) = qh (a ++ b) := (qaU a b).symm
@[simp] theorem rowsT_take' (n : Nat) (a : List Tm) : (qh a).take n = qh (a.take n) := qlk n a
@[simp] theorem rowsT_drop' (n : Nat) (a : List Tm) : (qh a).drop n = qh (a.drop n) := qlm n a
@[simp] theorem rowsT_set' (l : List Tm) (i : Nat) (t : Tm) : (qh l).set i t.cells = qh (l.set i t) := qmC l i t
@[simp] theorem rowsT_get' (l : List Tm) (i : Nat) : (qh l)[i]? = (l[i]?).map Tm.cells := qbk l i
@[simp] theorem rowsT_getElem (l : List Tm) (i : Nat) (h : i < (qh l).length) : (qh l)[i] = (l[i]'(by simpa using h)).cells := by
 have h1 := qbk l i
 rw [qqm h, qqm (by simpa using h)] at h1
 exact Option.some.inj h1
@[simp] theorem kOpt_map {α β γ : Type} (o : Option β) (g : β → γ) (k : γ → Option α) : kOpt (o.map g) k = kOpt o fun x => k (g x) := by cases o <;> rfl
@[simp] theorem zx (t : Tm) : t.cells.length = 4 := by rw [Tm.cells_eq]; rfl
@[simp] theorem qfp (t : Tm) : t.cells.take 4 = t.cells := by rw [Tm.cells_eq]; rfl
@[simp] theorem drop_cells (t : Tm) : t.cells.drop 4 = [] := by rw [Tm.cells_eq]; rfl
@[simp] theorem cells_0 (t : Tm) : t.cells[0]? = some (.int .i64 t.kind) := by rw [Tm.cells_eq]; rfl
@[simp] theorem cells_1 (t : Tm) : t.cells[1]? = some (.int .i64 t.num) := by rw [Tm.cells_eq]; rfl
@[simp] theorem cells_2 (t : Tm) : t.cells[2]? = some (.str t.str) := by rw [Tm.cells_eq]; rfl
@[simp] theorem cells_3 (t : Tm) : t.cells[3]? = some (.sl (qh t.subs)) := by rw [Tm.cells_eq]; rfl
@[simp] theorem refs_cells (n : Nat) (t : Tm) : qk n t.cells = true := by rw [Tm.cells_eq]; rfl
@[simp] theorem allCells_cells (t : Tm) : vh t.cells = true := by rw [Tm.cells_eq]; rfl
@[simp] theorem rowsT_free' (l : List Tm) : ql 0 (qh l) = true := qll l
@[simp] theorem rowsOk_rowsT (l : List Tm) : qad 4 (qh l) = true := by
 cases l with
 | nil => rw [xr]; rfl
 | cons t l => rw [vA, qad, zx]; rfl
@[simp] theorem qfR {α : Type} (t : Tm) (k : Int → Int → List UInt8 → List (List AV) → Option α) : kTmC t.cells k = k t.kind t.num t.str (qh t.subs) := by rw [Tm.cells_eq]; rfl
@[simp] theorem kTmV_av {α : Type} (t : Tm) (k : Int → Int → List UInt8 → List (List AV) → Option α) : kTmV t.av k = k t.kind t.num t.str (qh t.subs) := by rw [Tm.av, Tm.cells_eq]; rfl
@[simp] theorem cast_nn (q : Nat) : (0 ≤ (q : Int) + 1) = True := eq_true (by omega)
@[simp] theorem cast_le1 (q n : Nat) : ((q : Int) + 1 ≤ (n : Int)) = (q + 1 ≤ n) := propext (by omega)
@[simp] theorem cast_lt1 (q n : Nat) : ((q : Int) + 1 < (n : Int)) = (q + 1 < n) := propext (by omega)
@[simp] theorem cast_nn' (q : Nat) : (0 < (q : Int) + 1) = True := eq_true (by omega)
@[simp] theorem cast_ne0 (q : Nat) : ((q : Int) + 1 == 0) = false := by rw [beqD]; exact decide_eq_false (by omega)
@[simp] theorem cast_lt_s (q : Nat) : ((q : Int) < (q : Int) + 1) = True := eq_true (by omega)
@[simp] theorem cast_le_s (q : Nat) : ((q : Int) ≤ (q : Int) + 1) = True := eq_true (by omega)
theorem qp6 {n : Nat} (hn : n < 4398046511104) : IntKind.wrap .i64 (n : Int) = n := vZ (by omega) (by omega)
def C3 (p q r : Int) : Prop := (p ≤ 0 → q ≤ 0 → r ≤ 0) ∧ (p < 0 → q ≤ 0 → r < 0) ∧ (p ≤ 0 → q < 0 → r < 0) ∧ (0 ≤ p → 0 ≤ q → 0 ≤ r) ∧ (0 < p → 0 ≤ q → 0 < r) ∧ (0 ≤ p → 0 < q → 0 < r)
def q7 (k n : Int) (s : List UInt8) (m : Nat) : Bool :=
 if k = 1 then decide (-576460752303423488 ≤ n) && (decide (n ≤ 576460752303423487) && (decide (s = []) && decide (m = 0)))
 else if k = 2 then decide (n = 0) && (decide (s.length ≤ 64) && decide (m = 0))
 else if k = 3 then decide (0 ≤ n) && (decide (n ≤ 1073741824) && (decide (s = []) && decide (m = 0)))
 else if k = 4 then decide (0 ≤ n) && (decide (n ≤ 1073741824) && (decide (s = []) && decide (m = 0)))
 else if k = 6 then decide (0 ≤ n) && (decide (n ≤ 1073741824) && (decide (s = []) && decide (m = 0)))
 else if k = 5 then decide (0 ≤ n) && (decide (n ≤ 1073741824) && (decide (s = []) && decide (m ≤ 64)))
 else if k = 7 then decide (n = 0) && (decide (s = []) && decide (m ≤ 64))
 else if k = 8 then decide (n = 0) && (decide (s = []) && decide (m = 0))
 else if k = 9 then decide (n = 0) && (decide (s = []) && decide (m = 2))
 else false
def Tm.sound (t : Tm) : Bool := q7 t.kind t.num t.str t.subs.length
def Tm.own (t : Tm) : Nat := if t.kind = 7 ∨ t.kind = 5 then 2 else 1
theorem qQ (a b : Bool) : (bif a then some (AV.bool b) else some (AV.bool false)) = some (.bool (a && b)) := by cases a <;> rfl
theorem qnb (s : List UInt8) : (s == []) = decide (s = []) := by cases s <;> simp
theorem beqI (a b : Int) : (a == b) = decide (a = b) := by simp [beqD]
mutual
/-- may all parts of a term be? -/
def Tm.parts : Tm → Bool
 | .mk k n s l => q7 k n s l.length && qR l
def qR : List Tm → Bool
 | [] => true
 | t :: l => t.parts && qR l
end
mutual
/-- how many words all parts have -/
def Tm.words : Tm → Nat
 | .mk k n s l => (Tm.mk k n s l).own + qp l
def qp : List Tm → Nat
 | [] => 0
 | t :: l => t.words + qp l
end
theorem Tm.parts_eq (t : Tm) : t.parts = (t.sound && qR t.subs) := by cases t; rw [Tm.parts]; rfl
theorem Tm.words_eq (t : Tm) : t.words = t.own + qp t.subs := by cases t; rw [Tm.words]; rfl
theorem qao (a b : List Tm) : qR (a ++ b) = (qR a && qR b) := by
 induction a with
 | nil => simp [qR]
 | cons x l ih => simp [qR, ih, Bool.and_assoc]
theorem qcR (a b : List Tm) : qp (a ++ b) = qp a + qp b := by
 induction a with
 | nil => simp [qp]
 | cons x l ih => simp [qp, ih]; omega
theorem qlu (a : List Tm) : qR a.reverse = qR a := by
 induction a with
 | nil => rfl
 | cons x l ih => simp [qao, qR, ih, Bool.and_comm]
theorem qk1 (a : List Tm) : qp a.reverse = qp a := by
 induction a with
 | nil => rfl
 | cons x l ih => simp [qcR, qp, ih]; omega
theorem Tm.own_le (t : Tm) : t.own ≤ 2 ∧ 1 ≤ t.own := by unfold Tm.own; split <;> omega
theorem qnw (t : Tm) : t.words ≤ 2 * t.w := by
 induction t using Tm.ind with
 | _ k n s l ih =>
  have h1 : qp l ≤ 2 * wL l := by
   clear n s
   induction l with
   | nil => simp [qp]
   | cons x l ih2 =>
    have := ih x (by simp)
    have := ih2 (fun t ht => ih t (by simp [ht]))
    simp [qp]; omega
  have := (Tm.mk k n s l).own_le
  rw [Tm.words, Tm.w_mk]; omega
def chkS (R : List Tm) (wd : Nat) : Int := if qR R then (if 65536 < wd + qp R then 3 else 0) else 2
def Tm.chk (t : Tm) : Int := chkS [t] 0
theorem qn6 {R : List Tm} {x : Tm} {wd : Nat} (h : x.sound = false) : chkS (R ++ [x]) wd = 2 := by
 unfold chkS
 rw [qao]
 simp [qR, Tm.parts_eq, h]
theorem qhr {R : List Tm} {x : Tm} {wd : Nat} (h : x.sound = true) : chkS (R ++ x.subs.reverse) (wd + x.own) = chkS (R ++ [x]) wd := by
 unfold chkS
 simp only [qao, qlu, qcR, qk1, qR, qp, Tm.parts_eq, Tm.words_eq, h, Bool.true_and, Bool.and_true]
 have : wd + x.own + (qp R + qp x.subs) = wd + (qp R + (x.own + qp x.subs + 0)) := by omega
 rw [this]
theorem qhb {k n : Int} {s : Bz} {m : Nat} (h : q7 k n s m = true) : -576460752303423488 ≤ n ∧ n ≤ 576460752303423487 := by
 unfold q7 at h
 split at h
 ·simp only [qqi, decide_eq_true_eq] at h; omega
 split at h
 ·simp only [qqi, decide_eq_true_eq] at h; omega
 split at h
 ·simp only [qqi, decide_eq_true_eq] at h; omega
 split at h
 ·simp only [qqi, decide_eq_true_eq] at h; omega
 split at h
 ·simp only [qqi, decide_eq_true_eq] at h; omega
 split at h
 ·simp only [qqi, decide_eq_true_eq] at h; omega
 split at h
 ·simp only [qqi, decide_eq_true_eq] at h; omega
 split at h
 ·simp only [qqi, decide_eq_true_eq] at h; omega
 split at h
 ·simp only [qqi, decide_eq_true_eq] at h; omega
 ·cases h
def comL : List Bz → Bz
 | [] => []
 | x :: l => 44 :: (x ++ comL l)
def sepL : List Bz → Bz
 | [] => []
 | x :: l => x ++ comL l
def mkP (k n : Int) (s : Bz) (ps : List (Bz × Bz)) : Bz × Bz :=
 let tx : Bz :=
  if k = 1 then vC n
  else if k = 2 then (if qaf s then s else zn s)
  else if k = 3 then [35, 82, 101, 102, 60] ++ vC n ++ [62]
  else if k = 4 then [35, 84, 105, 100, 60] ++ vC n ++ [62]
  else if k = 6 then [60, 48, 46] ++ vC n ++ [46, 48, 62]
  else if k = 5 then [35, 70, 117, 110, 60] ++ vC n ++ comL (ps.map (·.1)) ++ [62]
  else if k = 7 then [123] ++ sepL (ps.map (·.1)) ++ [125]
  else if k = 9 then 91 :: ((ps.getD 0 ([], [])).1 ++ (ps.getD 1 ([], [])).2)
  else [91, 93]
 (tx, if k = 9 then 44 :: ((ps.getD 0 ([], [])).1 ++ (ps.getD 1 ([], [])).2) else if k = 8 then [93] else 124 :: (tx ++ [93]))
mutual
def yK : Tm → Bz × Bz
 | .mk k n s l => mkP k n s (qG l)
def qG : List Tm → List (Bz × Bz)
 | [] => []
 | t :: l => yK t :: qG l
end
def qK (t : Tm) : Bz := (yK t).1
def yo (t : Tm) : Bz := (yK t).2
theorem qcJ : ∀ (k u : Nat), (decF k u).length ≤ k
 | 0, _ => by simp [decF]
 | k + 1, u => by
  rw [decF]
  split
  ·simp
  ·have := qcJ k (u / 10); simp; omega
theorem xV (n : Int) : (vC n).length ≤ 21 := by
 unfold vC
 split
 ·have := qcJ 20 n.natAbs; simp; omega
 ·have := qcJ 20 n.toNat; omega
theorem qev (s : Bz) : (zn s).length ≤ 4 * s.length + 2 := by
 have := zT s
 simp [zn] at *
 omega
theorem qcK : ∀ (l : List Tm), (∀ t ∈ l, (qK t).length ≤ 290 * t.words) → (comL ((qG l).map (·.1))).length ≤ 290 * qp l + l.length
 | [], _ => by simp [qG, comL]
 | t :: l, h => by
  have h1 := qcK l fun x hx => h x (by simp [hx])
  have h2 := h t (by simp)
  unfold qK at h2
  simp only [qG, List.map_cons, comL, qqr, qqv, qp]
  omega
theorem qeM (l : List Bz) : (sepL l).length ≤ (comL l).length := by
 cases l <;> simp [sepL, comL]
theorem zM (t : Tm) : t.parts = true → (qK t).length ≤ 290 * t.words ∧ (yo t).length ≤ 290 * t.words + 10 := by
 induction t using Tm.ind with
 | _ k n s l ih =>
  intro hp
  rw [Tm.parts, qqi] at hp
  obtain ⟨a1, a2⟩ := hp
  have a3 : ∀ t ∈ l, t.parts = true := by
   clear ih a1
   induction l with
   | nil => simp
   | cons x l ih => simp only [qR, qqi] at a2; intro t ht; rcases qqH.1 ht with rfl | ht; exact a2.1; exact ih a2.2 t ht
  have ih1 : ∀ t ∈ l, (qK t).length ≤ 290 * t.words := fun t ht => (ih t ht (a3 t ht)).1
  have hc := qcK l ih1
  have hs := qeM ((qG l).map (·.1))
  have hi := xV n
  have hq := qev s
  rw [Tm.words]
  unfold qK yo Tm.own
  rw [yK]
  unfold mkP
  simp only [Tm.kind]
  by_cases k9 : k = 9
  ·subst k9
   simp [q7] at a1
   match l, a1.2.2, ih, a3 with
   | [a, d], _, ih, a3 =>
    have q1 := (ih a (by simp) (a3 a (by simp))).1
    have q2 := (ih d (by simp) (a3 d (by simp))).2
    unfold qK at q1
    unfold yo at q2
    simp [qG, qp]
    omega
  by_cases k8 : k = 8
  ·subst k8; simp; omega
  by_cases k7 : k = 7
  ·subst k7
   simp [q7] at a1
   simp
   omega
  by_cases k5 : k = 5
  ·subst k5
   simp [q7] at a1
   simp
   omega
  by_cases k2 : k = 2
  ·subst k2
   simp [q7] at a1
   simp
   split <;> constructor <;> omega
  by_cases k1 : k = 1
  ·subst k1; simp; omega
  by_cases k3 : k = 3
  ·subst k3; simp; omega
  by_cases k4 : k = 4
  ·subst k4; simp; omega
  by_cases k6 : k = 6
  ·subst k6; simp; omega
  ·simp [q7, k1, k2, k3, k4, k5, k6, k7, k8, k9] at a1
end Go.Av
end
section
namespace Go.Proofs.YtnjonahoheopnaaGreatDoor
open Go.Av
noncomputable def qno : Den := evC cfg (EV cfg) 149 none 5 (sub (qn Tryz.f149) [1, 0, 0])
noncomputable def qns : Ex × List AV × AH → Option AV := kAft (Cfg.keepOut cfg 149 (qe (sub (qn Tryz.f149) [1, 0, 0]))) (yi 0 (qay cfg (Cfg.lift cfg 149 0) (fun (v : AV) (H : AH) => (fun (r : AV × AH) => qbo 0 4 (fx 17 [(2, AV.ptr 1 0 0), (3, AV.ptr 2 0 0)]) (yi 0 (kSeq (fun (fr : List AV) (H : AH) => qb1 (Cfg.cut cfg 64 (qe (sub (qn Tryz.f64) [1, 1, 1]))) fr H fun (fr : List AV) (H : AH) => q5 cfg (EV cfg) (kfN cfg 6) 64 none 0 (sub (qn Tryz.f64) [1, 1, 1]) fr H (x7 cfg (Cfg.lift cfg 64 0) (Array.toList (Func.results Tryz.f64)))) (x7 cfg (Cfg.lift cfg 64 0) (Array.toList (Func.results Tryz.f64))))) (Prod.snd r)) (v, H)) (Array.toList (Func.results (Prod.snd (149, Tryz.f149))))))
noncomputable def qpQ : List AV × AH → Option AV := fun (p : List AV × AH) => kOpt (LOOP 5 (some [0, 3]) [(3, 4)] qno p) qns
noncomputable def qpU : Den := evC cfg (EV cfg) 166 none 10 (sub (qn Tryz.f166) [1, 0, 0])
noncomputable def qp0 : Ex × List AV × AH → Option AV := kAft (Cfg.keepOut cfg 166 (qe (sub (qn Tryz.f166) [1, 0, 0]))) (yi 0 (qay cfg (Cfg.lift cfg 166 0) (fun (v : AV) (H : AH) => (fun (r : AV × AH) => qbo 5 9 (fx 38 [(0, AV.yld 4), (3, AV.ptr 5 0 0)]) (yi 2 (yi 1 (kLp 5 (some [0, 3]) [(3, 4)] qno qns))) (Prod.snd r)) (v, H)) (Array.toList (Func.results (Prod.snd (166, Tryz.f166))))))
noncomputable def qnk : List AV × AH → Option AV := fun (p : List AV × AH) => kOpt (LOOP 10 (some [0, 1, 3]) [] qpU p) qp0
noncomputable abbrev qaQ (c0_0 c0_1 : Int) (c0_2 : Bz) (c0_3 : Rz) (c1_0 c2_0 c3_0 c3_1 : Int) (c3_2 : Bz) (c3_3 : Rz) (nc5_0 : Nat) (h6 : Rz) : Option (AV) := qpQ  (((fx 38 [(0, .yld 4), (3, .ptr 5 0 0)]) : List AV), ([.rows false 4 [[.int .i64 c0_0, .int .i64 c0_1, .str c0_2, .sl c0_3]], .rows false 1 [[.int .i64 c1_0]], .rows false 1 [[.int .i64 c2_0]], .rows false 4 [[.int .i64 c3_0, .int .i64 c3_1, .str c3_2, .sl c3_3]], rngB Tryz.f64 64 [1, 1, 0, 1, 0] (fx 17 [(2, .ptr 1 0 0), (3, .ptr 2 0 0)]) none LoopState.ready, .rows false 1 [[.ms 6 0 nc5_0]], .rows true 4 h6] : AH))
noncomputable abbrev qh9 (v3 c0_0 c0_1 : Int) (c0_2 : Bz) (c0_3 : Rz) (c1_0 c2_0 c3_0 c3_1 : Int) (c3_2 : Bz) (c3_3 : Rz) (nc5_0 : Nat) (h6 : Rz) (c7_0 c7_1 : Int) (c7_2 : Bz) (c7_3 c8_0 : Rz) : Option (AV) := qnk  (((fx 19 [(0, .yld 9), (1, .ptr 8 0 0), (3, .int .i64 v3)]) : List AV), ([.rows false 4 [[.int .i64 c0_0, .int .i64 c0_1, .str c0_2, .sl c0_3]], .rows false 1 [[.int .i64 c1_0]], .rows false 1 [[.int .i64 c2_0]], .rows false 4 [[.int .i64 c3_0, .int .i64 c3_1, .str c3_2, .sl c3_3]], rngB Tryz.f64 64 [1, 1, 0, 1, 0] (fx 17 [(2, .ptr 1 0 0), (3, .ptr 2 0 0)]) none LoopState.ready, .rows false 1 [[.ms 6 0 nc5_0]], .rows true 4 h6, .rows false 4 [[.int .i64 c7_0, .int .i64 c7_1, .str c7_2, .sl c7_3]], .rows false 1 [[.sl c8_0]], rngB Tryz.f149 149 [1, 0, 0, 1, 0, 1, 1, 1, 1, 0] (fx 38 [(3, .ptr 5 0 0)]) none LoopState.ready] : AH))
noncomputable abbrev qgG (v3 c0_0 c0_1 : Int) (c0_2 : Bz) (c0_3 : Rz) (c1_0 c2_0 c3_0 c3_1 : Int) (c3_2 : Bz) (c3_3 : Rz) (nc5_0 : Nat) (c7_0 c7_1 : Int) (c7_2 : Bz) (c7_3 c8_0 h10 : Rz) : Option (AV) := qnk  (((fx 19 [(0, .yld 9), (1, .ptr 8 0 0), (3, .int .i64 v3)]) : List AV), ([.rows false 4 [[.int .i64 c0_0, .int .i64 c0_1, .str c0_2, .sl c0_3]], .rows false 1 [[.int .i64 c1_0]], .rows false 1 [[.int .i64 c2_0]], .rows false 4 [[.int .i64 c3_0, .int .i64 c3_1, .str c3_2, .sl c3_3]], rngB Tryz.f64 64 [1, 1, 0, 1, 0] (fx 17 [(2, .ptr 1 0 0), (3, .ptr 2 0 0)]) none LoopState.ready, .rows false 1 [[.ms 10 0 nc5_0]], .dead, .rows false 4 [[.int .i64 c7_0, .int .i64 c7_1, .str c7_2, .sl c7_3]], .rows false 1 [[.sl c8_0]], rngB Tryz.f149 149 [1, 0, 0, 1, 0, 1, 1, 1, 1, 0] (fx 38 [(3, .ptr 5 0 0)]) none LoopState.ready, .rows true 4 h10] : AH))
noncomputable abbrev ze4 (kt : Int) (lt : Rz) : Option (AV) := bif kt == 5 then some (.bool (decide ((lt.length : Int) ≤ 64))) else some (.bool false)
noncomputable abbrev ze3 (lt : Rz) (kt : Int) : Option (AV) := bif (lt.length : Int) == 0 then some (.bool true) else ze4 kt lt
noncomputable abbrev ze2 (st : Bz) (lt : Rz) (kt : Int) : Option (AV) := bif st == [] then ze3 lt kt else some (.bool false)
noncomputable abbrev ze1 (nt : Int) (st : Bz) (lt : Rz) (kt : Int) : Option (AV) := bif decide (nt ≤ 1073741824) then ze2 st lt kt else some (.bool false)
noncomputable abbrev ze0 (nt : Int) (st : Bz) (lt : Rz) (kt : Int) : Option (AV) := bif decide (nt ≥ 0) then ze1 nt st lt kt else some (.bool false)
theorem qgJ (kt nt : Int) (st : Bz) (lt : Rz) {P : AV → Prop} (h : Gets (bif kt == 1 then bif decide (nt ≥ (- 576460752303423488)) then bif decide (nt ≤ 576460752303423487) then bif st == [] then some (.bool ((lt.length : Int) == 0)) else some (.bool false) else some (.bool false) else some (.bool false) else bif kt == 2 then bif nt == 0 then bif decide ((st.length : Int) ≤ 64) then some (.bool ((lt.length : Int) == 0)) else some (.bool false) else some (.bool false) else bif kt == 3 then bif decide (nt ≥ 0) then bif decide (nt ≤ 1073741824) then bif st == [] then bif (lt.length : Int) == 0 then some (.bool true) else bif kt == 5 then some (.bool (decide ((↑ (qqp lt) : Int) ≤ 64))) else some (.bool false) else some (.bool false) else some (.bool false) else some (.bool false) else bif kt == 4 then ze0 nt st lt kt else bif kt == 6 then ze0 nt st lt kt else bif kt == 5 then ze0 nt st lt kt else bif kt == 7 then bif nt == 0 then bif st == [] then some (.bool (decide ((lt.length : Int) ≤ 64))) else some (.bool false) else some (.bool false) else bif kt == 8 then bif nt == 0 then bif st == [] then some (.bool ((lt.length : Int) == 0)) else some (.bool false) else some (.bool false) else bif kt == 9 then bif nt == 0 then bif st == [] then some (.bool ((lt.length : Int) == 2)) else some (.bool false) else some (.bool false) else some (.bool false)) P) : Gets (EVs (EV cfg) 109 [.agg [.int .i64 kt, .int .i64 nt, .str st, .sl lt]]) P :=
  gE (fun _ => funS rfl rfl Tryz.func109 rfl) (by kernel_rfl) h
theorem qik (kt nt : Int) (st : Bz) (lt : Rz) {P : AV → Prop} (h : Gets (bif kt == 7 then some (.int .i64 2) else bif kt == 5 then some (.int .i64 2) else some (.int .i64 1)) P) : Gets (EVs (EV cfg) 110 [.agg [.int .i64 kt, .int .i64 nt, .str st, .sl lt]]) P :=
  gE (fun _ => funS rfl rfl Tryz.func110 rfl) (by kernel_rfl) h
theorem qgK (kt nt : Int) (st : Bz) (lt : Rz) {P : AV → Prop} (h : Gets (qaQ kt nt st lt 0 0 kt nt st lt 1 [[.int .i64 kt, .int .i64 nt, .str st, .sl lt]]) P) : Gets (EVs (EV cfg) 64 [.agg [.int .i64 kt, .int .i64 nt, .str st, .sl lt]]) P :=
  gE (fun _ => funS rfl rfl Tryz.func64 rfl) (by kernel_rfl) h
theorem qby (c0_0 c0_1 : Int) (c0_2 : Bz) (c0_3 : Rz) (c1_0 c2_0 c3_0 c3_1 : Int) (c3_2 : Bz) (c3_3 : Rz) (nc5_0 : Nat) (h6 : Rz) {P : AV → Prop} (h : Gets (bif decide ((↑ nc5_0 : Int) > 0) then bif qg 0 (IntKind.wrap .i64 ((↑ nc5_0 : Int) - 1)) && qz (IntKind.wrap .i64 ((↑ nc5_0 : Int) - 1)) (↑ nc5_0 : Int) then kOpt (qqy h6 (0 + qqN (IntKind.wrap .i64 ((↑ nc5_0 : Int) - 1)))) fun row => bif qqB 4 (qqp row) then kTmC (qqM 4 row) fun n n_1 s rows => (bif qg 0 (IntKind.wrap .i64 ((↑ nc5_0 : Int) - 1)) && qg (IntKind.wrap .i64 ((↑ nc5_0 : Int) - 1)) (↑ nc5_0 : Int) then kOpt (EVs (EV cfg) 109 [.agg [.int .i64 n, .int .i64 n_1, .str s, .sl rows]]) fun v => q6 v fun b => bif ! b then some (.int .i64 2) else kOpt (EVs (EV cfg) 110 [.agg [.int .i64 n, .int .i64 n_1, .str s, .sl rows]]) fun v => kInt .i64 v fun n_2 => qh9 (IntKind.wrap .i64 ((↑ (qqp rows) : Int) - 1)) c0_0 c0_1 c0_2 c0_3 c1_0 (IntKind.wrap .i64 (c2_0 + n_2)) c3_0 c3_1 c3_2 c3_3 (qqN (IntKind.wrap .i64 ((↑ nc5_0 : Int) - 1)) - 0) h6 n n_1 s rows rows else none) else none else none else bif decide (c2_0 > 65536) then some (.int .i64 3) else some (.int .i64 0)) P) : Gets (qaQ c0_0 c0_1 c0_2 c0_3 c1_0 c2_0 c3_0 c3_1 c3_2 c3_3 nc5_0 h6) P :=
  gE (fun _ => qS (cfg := cfg) (f := 149) (rd := none) (bs := 5)) (by kernel_rfl) h
noncomputable abbrev ze10 (row : List AV) (nc5_0 : Nat) (h6 : Rz) (v3 c0_0 c0_1 : Int) (c0_2 : Bz) (c0_3 : Rz) (c1_0 c2_0 c3_0 c3_1 : Int) (c3_2 : Bz) (c3_3 : Rz) (c7_0 c7_1 : Int) (c7_2 : Bz) (c7_3 c8_0 : Rz) : Option (AV) := kTmC (qqM 4 row) fun n n_1 s rows => (bif qqB (0 + nc5_0) (qqp h6) && yY (nc5_0 + 1) 56 then bif qg 0 (↑ nc5_0 : Int) && qz (↑ nc5_0 : Int) (↑ (nc5_0 + 1) : Int) then kOpt (qqy (qqE (qqM nc5_0 h6) [[.int .i64 0, .int .i64 0, .str [], .nilS]]) (0 + qqN (↑ nc5_0 : Int))) fun row => bif qqB 4 (qqp row) then qgG (IntKind.wrap .i64 (v3 - (1 : Int))) c0_0 c0_1 c0_2 c0_3 c1_0 c2_0 c3_0 c3_1 c3_2 c3_3 (nc5_0 + 1) c7_0 c7_1 c7_2 c7_3 c8_0 (List.set (qqE (qqM nc5_0 h6) [[.int .i64 0, .int .i64 0, .str [], .nilS]]) (0 + qqN (↑ nc5_0 : Int)) (.int .i64 n :: .int .i64 n_1 :: .str s :: .sl rows :: List.drop 4 row)) else none else none else none)
noncomputable abbrev ze9 (row : List AV) (nc5_0 : Nat) (h6 : Rz) (v3 c0_0 c0_1 : Int) (c0_2 : Bz) (c0_3 : Rz) (c1_0 c2_0 c3_0 c3_1 : Int) (c3_2 : Bz) (c3_3 : Rz) (c7_0 c7_1 : Int) (c7_2 : Bz) (c7_3 c8_0 : Rz) : Option (AV) := bif qqB 4 (qqp row) then ze10 row nc5_0 h6 v3 c0_0 c0_1 c0_2 c0_3 c1_0 c2_0 c3_0 c3_1 c3_2 c3_3 c7_0 c7_1 c7_2 c7_3 c8_0 else none
noncomputable abbrev ze8 (row : List AV) (nc5_0 : Nat) (h6 : Rz) (v3 c0_0 c0_1 : Int) (c0_2 : Bz) (c0_3 : Rz) (c1_0 c2_0 c3_0 c3_1 : Int) (c3_2 : Bz) (c3_3 : Rz) (c7_0 c7_1 : Int) (c7_2 : Bz) (c7_3 c8_0 : Rz) : Option (AV) := bif qqz (qqp row) 4 then ze9 row nc5_0 h6 v3 c0_0 c0_1 c0_2 c0_3 c1_0 c2_0 c3_0 c3_1 c3_2 c3_3 c7_0 c7_1 c7_2 c7_3 c8_0 else none
noncomputable abbrev ze7 (c8_0 : Rz) (v3 : Int) (nc5_0 : Nat) (h6 : Rz) (c0_0 c0_1 : Int) (c0_2 : Bz) (c0_3 : Rz) (c1_0 c2_0 c3_0 c3_1 : Int) (c3_2 : Bz) (c3_3 : Rz) (c7_0 c7_1 : Int) (c7_2 : Bz) (c7_3 : Rz) : Option (AV) := kOpt (qqy c8_0 (v3.toNat)) fun row => ze8 row nc5_0 h6 v3 c0_0 c0_1 c0_2 c0_3 c1_0 c2_0 c3_0 c3_1 c3_2 c3_3 c7_0 c7_1 c7_2 c7_3 c8_0
noncomputable abbrev ze6 (v3 : Int) (c8_0 : Rz) (nc5_0 : Nat) (h6 : Rz) (c0_0 c0_1 : Int) (c0_2 : Bz) (c0_3 : Rz) (c1_0 c2_0 c3_0 c3_1 : Int) (c3_2 : Bz) (c3_3 : Rz) (c7_0 c7_1 : Int) (c7_2 : Bz) (c7_3 : Rz) : Option (AV) := bif qg 0 v3 && qz v3 (c8_0.length : Int) then ze7 c8_0 v3 nc5_0 h6 c0_0 c0_1 c0_2 c0_3 c1_0 c2_0 c3_0 c3_1 c3_2 c3_3 c7_0 c7_1 c7_2 c7_3 else none
noncomputable abbrev ze5 (v3 : Int) (c8_0 : Rz) (nc5_0 : Nat) (h6 : Rz) (c0_0 c0_1 : Int) (c0_2 : Bz) (c0_3 : Rz) (c1_0 c2_0 c3_0 c3_1 : Int) (c3_2 : Bz) (c3_3 : Rz) (c7_0 c7_1 : Int) (c7_2 : Bz) (c7_3 : Rz) : Option (AV) := bif decide (v3 ≥ 0) then ze6 v3 c8_0 nc5_0 h6 c0_0 c0_1 c0_2 c0_3 c1_0 c2_0 c3_0 c3_1 c3_2 c3_3 c7_0 c7_1 c7_2 c7_3 else qaQ c0_0 c0_1 c0_2 c0_3 c1_0 c2_0 c3_0 c3_1 c3_2 c3_3 nc5_0 h6
theorem qjC (v3 c0_0 c0_1 : Int) (c0_2 : Bz) (c0_3 : Rz) (c1_0 c2_0 c3_0 c3_1 : Int) (c3_2 : Bz) (c3_3 : Rz) (nc5_0 : Nat) (h6 : Rz) (c7_0 c7_1 : Int) (c7_2 : Bz) (c7_3 c8_0 : Rz) {P : AV → Prop} (h : Gets (ze5 v3 c8_0 nc5_0 h6 c0_0 c0_1 c0_2 c0_3 c1_0 c2_0 c3_0 c3_1 c3_2 c3_3 c7_0 c7_1 c7_2 c7_3) P) : Gets (qh9 v3 c0_0 c0_1 c0_2 c0_3 c1_0 c2_0 c3_0 c3_1 c3_2 c3_3 nc5_0 h6 c7_0 c7_1 c7_2 c7_3 c8_0) P :=
  gE (fun _ => qS (cfg := cfg) (f := 166) (rd := none) (bs := 10)) (by kernel_rfl) h
theorem qc7 (v3 c0_0 c0_1 : Int) (c0_2 : Bz) (c0_3 : Rz) (c1_0 c2_0 c3_0 c3_1 : Int) (c3_2 : Bz) (c3_3 : Rz) (nc5_0 : Nat) (c7_0 c7_1 : Int) (c7_2 : Bz) (c7_3 c8_0 h10 : Rz) {P : AV → Prop} (h : Gets (ze5 v3 c8_0 nc5_0 h10 c0_0 c0_1 c0_2 c0_3 c1_0 c2_0 c3_0 c3_1 c3_2 c3_3 c7_0 c7_1 c7_2 c7_3) P) : Gets (qgG v3 c0_0 c0_1 c0_2 c0_3 c1_0 c2_0 c3_0 c3_1 c3_2 c3_3 nc5_0 c7_0 c7_1 c7_2 c7_3 c8_0 h10) P :=
  gE (fun _ => qS (cfg := cfg) (f := 166) (rd := none) (bs := 10)) (by kernel_rfl) h
end Go.Proofs.YtnjonahoheopnaaGreatDoor
end
section
namespace Go.Av
end Go.Av
namespace Go.Proofs.YtnjonahoheopnaaGreatDoor
open Go.Av
theorem qm4 {n : Nat} (h : n ≤ 1099511627776) : yY n 56 = true := by
 unfold yY
 rw [qqi, Nat.ble_eq, Nat.ble_eq]
 omega
theorem qne (t : Tm) : (AV.agg [.int .i64 t.kind, .int .i64 t.num, .str t.str, .sl (qh t.subs)]) = t.av := by rw [Tm.av, Tm.cells_eq]
theorem qnE (t : Tm) : EVs (EV cfg) 109 [t.av] = some (.bool t.sound) := by
 obtain ⟨k, n, s, l⟩ := t
 apply Gets.get
 rw [Tm.av_mk]
 refine qgJ _ _ _ _ ?_
 unfold ze0 ze1 ze2 ze3 ze4
 simp only [Tm.sound, Tm.kind_mk, Tm.num_mk, Tm.str_mk, Tm.subs_mk, qy, beqI, qnb, q7]
 by_cases h1 : k = 1
 ·subst h1; simp [qQ] <;> (try rw [Bool.eq_iff_iff]) <;> (try simp) <;> first | omega | grind
 by_cases h2 : k = 2
 ·subst h2; simp [qQ] <;> (try rw [Bool.eq_iff_iff]) <;> (try simp) <;> first | omega | grind
 by_cases h3 : k = 3
 ·subst h3; simp [qQ] <;> (try rw [Bool.eq_iff_iff]) <;> (try simp) <;> first | omega | grind
 by_cases h4 : k = 4
 ·subst h4; simp [qQ] <;> (try rw [Bool.eq_iff_iff]) <;> (try simp) <;> first | omega | grind
 by_cases h6 : k = 6
 ·subst h6; simp [qQ] <;> (try rw [Bool.eq_iff_iff]) <;> (try simp) <;> first | omega | grind
 by_cases h5 : k = 5
 ·subst h5
  cases l with
  | nil => simp [qQ] <;> (try rw [Bool.eq_iff_iff]) <;> (try simp) <;> first | omega | grind
  | cons x l =>
   have hx : ¬ ((l.length : Int) + 1 = 0) := by omega
   simp [hx, qQ] <;> (try rw [Bool.eq_iff_iff]) <;> (try simp) <;> first | omega | grind
 by_cases h7 : k = 7
 ·subst h7; simp [qQ] <;> (try rw [Bool.eq_iff_iff]) <;> (try simp) <;> first | omega | grind
 by_cases h8 : k = 8
 ·subst h8; simp [qQ] <;> (try rw [Bool.eq_iff_iff]) <;> (try simp) <;> first | omega | grind
 by_cases h9 : k = 9
 ·subst h9; simp [qQ] <;> (try rw [Bool.eq_iff_iff]) <;> (try simp) <;> first | omega | grind
 simp [h1, h2, h3, h4, h5, h6, h7, h8, h9]
theorem qpD (t : Tm) : EVs (EV cfg) 110 [t.av] = some (.int .i64 t.own) := by
 obtain ⟨k, n, s, l⟩ := t
 apply Gets.get
 rw [Tm.av_mk]
 refine qik _ _ _ _ ?_
 simp only [Tm.own, Tm.kind_mk, beqI]
 by_cases h7 : k = 7
 ·simp [h7]
 ·by_cases h5 : k = 5
  ·simp [h5]
  ·simp [h7, h5]
theorem qn9 (l : List (List AV)) (z : List AV) : (l ++ [z])[l.length]? = some z := by simp
theorem qn8 (l : List (List AV)) (z c : List AV) : (l ++ [z]).set l.length c = l ++ [c] := by simp
theorem qmI {t x : Tm} (hx : x.subs.length < 1099511627776) {wd : Int} {P : AV → Prop} : ∀ (j : Nat) (R : List Tm), j ≤ x.subs.length → R.length + j < 1099511627776 →
  Gets (qaQ t.kind t.num t.str (qh t.subs) 0 wd t.kind t.num t.str (qh t.subs) (R.length + j) (qh (R ++ (x.subs.take j).reverse))) P →
  Gets (qgG ((j : Int) - 1) t.kind t.num t.str (qh t.subs) 0 wd t.kind t.num t.str (qh t.subs) R.length x.kind x.num x.str (qh x.subs) (qh x.subs) (qh R)) P
 | 0, R, _, _, h => by
  refine qc7 _ _ _ _ _ _ _ _ _ _ _ _ _ _ _ _ _ _ ?_
  unfold ze5 ze6 ze7 ze8 ze9 ze10
  simpa using h
 | j + 1, R, hj, hR, h => by
  have ih := qmI (t := t) hx (wd := wd) (P := P) j (R ++ [x.subs[j]]) (by omega) (by simp; omega)
  have e1 : x.subs.take (j + 1) = x.subs.take j ++ [x.subs[j]] := by rw [List.take_add_one, qqm (by omega)]; rfl
  have e4 : R ++ (x.subs.take j ++ [x.subs[j]]).reverse = R ++ x.subs[j] :: (x.subs.take j).reverse := by rw [List.reverse_append]; rfl
  rw [e1, e4, show R.length + (j + 1) = R.length + 1 + j by omega] at h
  refine qc7 _ _ _ _ _ _ _ _ _ _ _ _ _ _ _ _ _ _ ?_
  unfold ze5 ze6 ze7 ze8 ze9 ze10
  have hw : IntKind.wrap .i64 ((j : Int) - 1) = (j : Int) - 1 := vZ (by omega) (by omega)
  have hjl : j < x.subs.length := by omega
  have e2 : ((j + 1 : Nat) : Int) - 1 = j := by omega
  rw [e2]
  have ht : qqM R.length (qh R) = qh R := List.take_of_length_le (by simp)
  have g0 := qn9 (qh R) [.int .i64 0, .int .i64 0, .str [], .nilS]
  have s0 := qn8 (qh R) [.int .i64 0, .int .i64 0, .str [], .nilS] x.subs[j].cells
  rw [qy] at g0 s0
  simp [hjl, hw, qm4 (show R.length + 1 ≤ 1099511627776 by omega), ht] at ih ⊢
  exact ih h
theorem qpC {t x : Tm} (hx : x.subs.length < 1099511627776) {wd : Int} {P : AV → Prop} {R : List Tm} {Z : List (List AV)} (hR : R.length + x.subs.length < 1099511627776)
  (h0 : x.subs = [] → Gets (qaQ t.kind t.num t.str (qh t.subs) 0 wd t.kind t.num t.str (qh t.subs) R.length (qh R ++ Z)) P)
  (h : x.subs ≠ [] → Gets (qaQ t.kind t.num t.str (qh t.subs) 0 wd t.kind t.num t.str (qh t.subs) (R ++ x.subs.reverse).length (qh (R ++ x.subs.reverse))) P) :
  Gets (qh9 ((x.subs.length : Int) - 1) t.kind t.num t.str (qh t.subs) 0 wd t.kind t.num t.str (qh t.subs) R.length (qh R ++ Z) x.kind x.num x.str (qh x.subs) (qh x.subs)) P := by
 refine qjC _ _ _ _ _ _ _ _ _ _ _ _ _ _ _ _ _ _ ?_
 unfold ze5 ze6 ze7 ze8 ze9 ze10
 rcases Nat.eq_zero_or_pos x.subs.length with hz | hp
 ·have hz' : x.subs = [] := List.length_eq_zero_iff.1 hz
  have := h0 hz'
  simpa [hz'] using this
 ·obtain ⟨j, hj⟩ : ∃ j, x.subs.length = j + 1 := ⟨x.subs.length - 1, by omega⟩
  have hne : x.subs ≠ [] := by intro e; rw [e] at hp; simp at hp
  have hjl : j < x.subs.length := by omega
  have e2 : (x.subs.length : Int) - 1 = j := by omega
  have hw : IntKind.wrap .i64 ((j : Int) - 1) = (j : Int) - 1 := vZ (by omega) (by omega)
  have ht : qqM R.length (qh R ++ Z) = qh R := by rw [List.take_append_of_le_length (by simp), List.take_of_length_le (by simp)]
  have e5 : x.subs = x.subs.take j ++ [x.subs[j]] := by
   have : x.subs.take (j + 1) = x.subs := List.take_of_length_le (by omega)
   rw [List.take_add_one, qqm hjl] at this
   exact this.symm
  have e6 : R ++ x.subs.reverse = R ++ [x.subs[j]] ++ (x.subs.take j).reverse := by
   conv => lhs; rw [e5]
   rw [List.reverse_append, List.append_assoc]; rfl
  have := qmI (t := t) hx (wd := wd) (P := P) j (R ++ [x.subs[j]]) (by omega) (by simp; omega) (by
   have h := h hne
   rw [e6] at h
   have e7 : (R ++ [x.subs[j]] ++ (x.subs.take j).reverse).length = (R ++ [x.subs[j]]).length + j := by
    rw [qqv, List.length_reverse, List.length_take]; omega
   rw [e7] at h
   exact h)
  rw [e2]
  simp at this
  simp [hjl, hw, qm4 (show R.length + 1 ≤ 1099511627776 by omega), ht]
  exact this
theorem qo8 {t : Tm} : ∀ (n : Nat) (R : List Tm) (Z : List (List AV)) (wd : Nat), wL R ≤ n → n < 1099511627776 → wd + 2 * wL R < 9007199254740992 →
  Gets (qaQ t.kind t.num t.str (qh t.subs) 0 (wd : Int) t.kind t.num t.str (qh t.subs) R.length (qh R ++ Z)) (· = .int .i64 (chkS R wd)) := by
 intro n
 induction n with
 | zero =>
  intro R Z wd hn _ _
  have : R = [] := by
   have := qbQ R
   exact List.length_eq_zero_iff.1 (by omega)
  subst this
  refine qby _ _ _ _ _ _ _ _ _ _ _ _ ?_
  by_cases h : 65536 < wd
  ·have h' : (65536 : Int) < wd := by omega
   simp [h, h', chkS, qR, qp]
  ·have h' : ¬ (65536 : Int) < wd := by omega
   simp [h, h', chkS, qR, qp]
 | succ n ih =>
  intro R Z wd hn hN hw
  rcases List.eq_nil_or_concat R with rfl | ⟨R0, x, rfl⟩
  ·refine qby _ _ _ _ _ _ _ _ _ _ _ _ ?_
   by_cases h : 65536 < wd
   ·have h' : (65536 : Int) < wd := by omega
    simp [h, h', chkS, qR, qp]
   ·have h' : ¬ (65536 : Int) < wd := by omega
    simp [h, h', chkS, qR, qp]
  ·rw [List.concat_eq_append] at *
   have hwx := x.w_eq
   have ho := x.own_le
   simp only [qc8, qkK, qpw] at hn hw
   have hl0 := qbQ R0
   have hls := qbQ x.subs
   have hsd := qnE x
   have how := qpD x
   refine qby _ _ _ _ _ _ _ _ _ _ _ _ ?_
   have e1 : (R0 ++ [x]).length = R0.length + 1 := by simp
   have hw1 : IntKind.wrap .i64 (R0.length : Int) = R0.length := qp6 (by omega)
   have hw2 : IntKind.wrap .i64 ((wd : Int) + x.own) = ((wd + x.own : Nat) : Int) := by rw [vZ (by omega) (by omega)]; omega
   have hw3 : IntKind.wrap .i64 ((x.subs.length : Int) - 1) = (x.subs.length : Int) - 1 := vZ (by omega) (by omega)
   have g : (qh (R0 ++ [x]) ++ Z)[R0.length]? = some x.cells := by
    rw [qqs (by simp), qbk]; simp
   cases hs : x.sound with
   | false =>
    rw [hs] at hsd
    simp [e1, hw1, g, hsd, qn6 hs]
   | true =>
    rw [hs] at hsd
    have e3 : qh (R0 ++ [x]) ++ Z = qh R0 ++ (x.cells :: Z) := by rw [qaU, List.append_assoc, vA, xr]; rfl
    have := qpC (t := t) (x := x) (R := R0) (Z := x.cells :: Z) (wd := ((wd + x.own : Nat) : Int)) (P := (· = .int .i64 (chkS (R0 ++ [x]) wd))) (by omega) (by omega)
     (fun hz => by
      have := ih R0 (x.cells :: Z) (wd + x.own) (by omega) (by omega) (by omega)
      rw [← qhr hs, hz, List.reverse_nil, List.append_nil]
      exact this)
     (fun hz => by
      have := ih (R0 ++ x.subs.reverse) [] (wd + x.own) (by rw [qc8, qmm]; omega) (by omega) (by rw [qc8, qmm]; omega)
      rw [← qhr hs]
      rw [List.append_nil] at this
      exact this)
    simp only [e1, e3] at g ⊢
    simp only [Int.natCast_add] at hw2 this
    simp [hw1, g, hsd, how, hw2, hw3]
    exact this
theorem qn7 {t : Tm} (h : t.w < 1099511627776) : EVs (EV cfg) 64 [t.av] = some (.int .i64 t.chk) := by
 have := qo8 (t := t) _ [t] [] 0 (qqo _) (by simpa using h) (by simp; omega)
 apply Gets.get
 rw [Tm.av, Tm.cells_eq]
 refine qgK _ _ _ _ ?_
 rw [← Tm.cells_eq, qmD, Tm.chk]
 simpa using this
abbrev tW : TypeId := 104
abbrev tE : TypeId := 5
theorem wbK {b : UInt8} {s : List UInt8} {n : Int} {α : Type} (hn : n = (b.toNat : Int)) (hl : s.length < 140737488355328) (k : AV × List UInt8 → Option α) :
  kOpt (EVb (EV cfg) 113 [.ptr 0 0 0, .int .u8 n] tW tE s) k = k (.nilI, s ++ [b]) := by
 subst hn
 rw [qfk bldW b hl]; rfl
theorem wsK {t s : List UInt8} {α : Type} (hl : s.length + t.length ≤ 140737488355328) (k : AV × List UInt8 → Option α) :
  kOpt (EVb (EV cfg) 68 [.ptr 0 0 0, .str t] tW tE s) k = k (.tup [.int .i64 t.length, .nilI], s ++ t) := by
 rw [qkZ bldW hl]; rfl
theorem qm {n : Nat} (h : n ≤ 9223372036854775807) : qqB n 9223372036854775807 = true := by simp only [nble, decide_eq_true_eq]; exact h
def qdS (t : Tm) : Prop := ∀ b : List UInt8, b.length + 290 * t.words + 40 ≤ 10000000000000 → EVb (EV cfg) 65 [.ptr 0 0 0, t.av] tW tE b = some (.tup [], b ++ qK t)
def qdY (sep : List UInt8) (t : Tm) : List UInt8 := if t.kind = 9 then sep ++ (((qG t.subs).getD 0 ([], [])).1 ++ ((qG t.subs).getD 1 ([], [])).2) else yo t
theorem qmr (t : Tm) : qdY [44] t = yo t := by
 obtain ⟨k, n, s, l⟩ := t
 unfold qdY
 split
 ·rename_i h
  have h : k = 9 := h
  unfold yo
  rw [yK]
  simp [mkP, h, Tm.subs]
 ·rfl
def qnl (t : Tm) : Prop := ∀ (k n : Int) (s : List UInt8) (l : List Tm), t = .mk k n s l → ∀ (v : AV) (b sep : List UInt8), sep.length ≤ 1 → b.length + 290 * t.words + 60 ≤ 10000000000000 →
 Gets (qbN (v, b) sep k n s (qh l)) (fun r => r = (.tup [], b ++ qdY sep t))
theorem qlt (l : List Tm) (hl : ∀ t ∈ l, qdS t) (hle : l.length < 1099511627776) (hp : ∀ t ∈ l, (qK t).length ≤ 290 * t.words) : ∀ (k i : Nat) (v : AV) (b : List UInt8), l.length - i = k → i ≤ l.length → b.length + 290 * qp (l.drop i) + (l.length - i) + 60 ≤ 10000000000000 →
  Gets (qdX (qh l) (v, b) (i : Int)) (fun r => r = (.tup [], b ++ comL ((qG (l.drop i)).map (·.1)) ++ [62])) := by
 intro k
 induction k with
 | zero =>
  intro i v b hk hi hb
  refine qc6 _ _ _ ?_
  have : i = l.length := by omega
  subst this
  rw [qy, decide_eq_false (show ¬ ((l.length : Int) < (l.length : Int)) by omega)]
  simp only [cond_false]
  rw [wbK (b := 62) (n := 62) rfl (by omega)]
  simp [qG, comL]
 | succ k ih =>
  intro i v b hk hi hb
  refine qc6 _ _ _ ?_
  have hlt : i < l.length := by omega
  obtain ⟨t, ht⟩ : ∃ t, l[i]? = some t := ⟨l[i], qqm hlt⟩
  have htm := qqx ht
  have hdrop : l.drop i = t :: l.drop (i + 1) := by
   rw [List.drop_eq_getElem_cons hlt]
   rw [qqm hlt] at ht
   cases ht; rfl
  rw [hdrop] at hb ⊢
  rw [qp] at hb
  rw [qy, decide_eq_true (show (i : Int) < (l.length : Int) by omega), qP, xU, decide_eq_true hlt]
  simp only [cond_true, Bool.and_true]
  rw [ze ht]
  obtain ⟨kt, nt, st, lt⟩ := t
  rw [Tm.cells_mk]
  simp only [qqr, qqA, nbeq, nble, decide_true, cond_true, qqM, kTmC, qE, qq, qd, zz, qV]
  rw [wbK (b := 44) (n := 44) rfl (by omega), ← Tm.av_mk]
  have h1 := hl _ htm (b ++ [44]) (by simp; omega)
  rw [h1]
  simp only [qa, q9 hlt hle]
  have h2 := hp _ htm
  refine (ih (i + 1) _ _ (by omega) hlt (by simp only [qqv, qqr, qqA]; omega)).mono fun r hr => ?_
  rw [hr]
  simp [qG, comL, qK]
theorem qob (l : List Tm) (hl : ∀ t ∈ l, qdS t) (hle : l.length < 1099511627776) (hp : ∀ t ∈ l, (qK t).length ≤ 290 * t.words) : ∀ (k i : Nat) (b : List UInt8), l.length - i = k → i ≤ l.length → b.length + 290 * qp (l.drop i) + (l.length - i) + 60 ≤ 10000000000000 →
  Gets (qbO (qh l) b (i : Int)) (fun r => r = (.tup [], b ++ (if i = 0 then sepL else comL) ((qG (l.drop i)).map (·.1)))) := by
 intro k
 induction k with
 | zero =>
  intro i b hk hi hb
  refine qc4 _ _ _ ?_
  have : i = l.length := by omega
  subst this
  rw [qy, decide_eq_false (show ¬ ((l.length : Int) < (l.length : Int)) by omega)]
  simp only [cond_false, qW, List.drop_length, qG, List.map_nil]
  split <;> simp [comL, sepL]
 | succ k ih =>
  intro i b hk hi hb
  refine qc4 _ _ _ ?_
  have hlt : i < l.length := by omega
  obtain ⟨t, ht⟩ : ∃ t, l[i]? = some t := ⟨l[i], qqm hlt⟩
  have htm := qqx ht
  have hdrop : l.drop i = t :: l.drop (i + 1) := by
   rw [List.drop_eq_getElem_cons hlt]
   rw [qqm hlt] at ht
   cases ht; rfl
  rw [hdrop] at hb ⊢
  rw [qp] at hb
  rw [qy, decide_eq_true (show (i : Int) < (l.length : Int) by omega), qP, xU, decide_eq_true hlt]
  simp only [cond_true, Bool.and_true]
  rw [ze ht]
  obtain ⟨kt, nt, st, lt⟩ := t
  rw [Tm.cells_mk]
  simp only [qqr, qqA, nbeq, nble, decide_true, cond_true, qqM, kTmC, qE, qq, qd, zz, qV]
  have h2 := hp _ htm
  rw [← Tm.av_mk]
  by_cases h0 : i = 0
  ·subst h0
   rw [decide_eq_false (show ¬ (((0 : Nat) : Int) > 0) by omega)]
   simp only [cond_false]
   have h1 := hl _ htm b (by omega)
   rw [h1]
   simp only [qa, q9 hlt hle]
   refine (ih (0 + 1) _ (by omega) hlt (by simp only [qqv, qqr, qqA]; omega)).mono fun r hr => ?_
   rw [hr]
   simp [qG, sepL, qK]
  ·rw [decide_eq_true (show ((i : Int) > 0) by omega)]
   simp only [cond_true]
   rw [wbK (b := 44) (n := 44) rfl (by omega)]
   have h1 := hl _ htm (b ++ [44]) (by simp; omega)
   rw [h1]
   simp only [qa, q9 hlt hle]
   refine (ih (i + 1) _ (by omega) hlt (by simp only [qqv, qqr, qqA]; omega)).mono fun r hr => ?_
   rw [hr, if_neg h0, if_neg (by omega)]
   simp [qG, comL, qK]
theorem qmp (t : Tm) : t.parts = true → qdS t ∧ qnl t := by
 induction t using Tm.ind with
 | _ k n s l ih =>
  intro hp
  have hp0 := hp
  rw [Tm.parts, qqi] at hp
  obtain ⟨a1, a2⟩ := hp
  have a3 : ∀ t ∈ l, t.parts = true := by
   clear ih a1 hp0
   induction l with
   | nil => simp
   | cons x l ih => simp only [qR, qqi] at a2; intro t ht; rcases qqH.1 ht with rfl | ht; exact a2.1; exact ih a2.2 t ht
  have i1 : ∀ t ∈ l, qdS t := fun t ht => (ih t ht (a3 t ht)).1
  have i2 : ∀ t ∈ l, qnl t := fun t ht => (ih t ht (a3 t ht)).2
  have i3 : ∀ t ∈ l, (qK t).length ≤ 290 * t.words := fun t ht => (zM t (a3 t ht)).1
  have hw : (Tm.mk k n s l).words = (Tm.mk k n s l).own + qp l := by rw [Tm.words]
  have ho := (Tm.mk k n s l).own_le
  -- a pair's two parts
  have pair : k = 9 → ∀ (v : AV) (b sep : List UInt8), sep.length ≤ 1 → b.length + 290 * (Tm.mk k n s l).words + 20 ≤ 10000000000000 →
    Gets (qbN (v, b) sep k n s (qh l)) (fun r => r = (.tup [], b ++ (sep ++ (((qG l).getD 0 ([], [])).1 ++ ((qG l).getD 1 ([], [])).2)))) := by
   intro h9 v b sep hsep hb
   subst h9
   simp [q7] at a1
   match l, a1.2.2, i1, i2, i3, hw with
   | [a, d], _, i1, i2, i3, hw =>
    rw [hw] at hb
    simp only [qp] at hb
    obtain ⟨ka, na, sa, la⟩ := a
    obtain ⟨kd, nd, sd, ld⟩ := d
    refine qaP _ _ _ _ _ _ ?_
    simp only [beq_self_eq_true, cond_true]
    rw [wsK (by omega)]
    simp only [kTup, qE, qq, qV]
    have r0 : (qh [Tm.mk ka na sa la, Tm.mk kd nd sd ld]) = [(Tm.mk ka na sa la).cells, (Tm.mk kd nd sd ld).cells] := by rw [vA, vA, xr]
    rw [r0, Tm.cells_mk, Tm.cells_mk]
    simp only [qqr, qqA, show qz 0 (((0 + 1 + 1 : Nat)) : Int) = true from rfl, show qz 1 (((0 + 1 + 1 : Nat)) : Int) = true from rfl, cond_true, qB, List.getElem?_cons_zero, qqF, qa, nbeq, nble, decide_true, qqM, kTmC, qq, qd, zz, qV, qE]
    have q1 := i3 _ (List.mem_cons_self ..)
    rw [← Tm.av_mk, i1 (.mk ka na sa la) (by simp) (b ++ sep) (by simp; omega)]
    simp only [qa]
    refine (i2 (.mk kd nd sd ld) (by simp) kd nd sd ld rfl _ _ [44] (by simp) (by simp; omega)).mono fun r hr => ?_
    rw [hr, qmr]
    simp [qG, qK, yo]
  have P : qdS (.mk k n s l) := by
   intro b hb
   rw [hw] at hb
   apply Gets.get
   rw [Tm.av_mk]
   refine qk7 _ _ _ _ _ ?_
   unfold zc9 zc10 zc8 zc3 zc4 zc5 zc6 zc7
   have hn := qhb a1
   rw [qgX (by omega) (by omega)]
   have hi := xV n
   unfold qK
   rw [yK]
   unfold mkP
   simp only [qa, qd]
   by_cases k1 : k = 1
   ·subst k1
    simp only [beq_self_eq_true, cond_true]
    rw [wsK (by omega)]
    simp only [kTup, qE, qq, qV]
    simp
   have b1 : (k == 1) = false := by simpa using k1
   by_cases k2 : k = 2
   ·subst k2
    simp [q7] at a1
    simp only [b1, cond_false, beq_self_eq_true, cond_true, qk6 s (by omega), qa, qY, qjM s (by omega), qd]
    have hq := qev s
    cases qaf s with
    | true =>
     simp only [cond_true]
     rw [wsK (by omega)]
     simp only [kTup, qE, qq, qV]
     simp
    | false =>
     simp only [cond_false]
     rw [wsK (by omega)]
     simp only [kTup, qE, qq, qV]
     simp
   have b2 : (k == 2) = false := by simpa using k2
   by_cases k3 : k = 3
   ·subst k3
    simp only [b1, b2, cond_false, beq_self_eq_true, cond_true]
    rw [qm (show 5 + (vC n).length ≤ 9223372036854775807 by omega)]
    simp only [cond_true, qa, qd, qqr]
    rw [qm (by omega)]
    simp only [cond_true, qa, qd, qqO]
    rw [wsK (by simp; omega)]
    simp only [kTup, qE, qq, qV]
    simp
   have b3 : (k == 3) = false := by simpa using k3
   by_cases k4 : k = 4
   ·subst k4
    simp only [b1, b2, b3, cond_false, beq_self_eq_true, cond_true]
    rw [qm (show 5 + (vC n).length ≤ 9223372036854775807 by omega)]
    simp only [cond_true, qa, qd, qqr]
    rw [qm (by omega)]
    simp only [cond_true, qa, qd, qqO]
    rw [wsK (by simp; omega)]
    simp only [kTup, qE, qq, qV]
    simp
   have b4 : (k == 4) = false := by simpa using k4
   by_cases k6 : k = 6
   ·subst k6
    simp only [b1, b2, b3, b4, cond_false, beq_self_eq_true, cond_true]
    rw [qm (show 3 + (vC n).length ≤ 9223372036854775807 by omega)]
    simp only [cond_true, qa, qd, qqr]
    rw [qm (by omega)]
    simp only [cond_true, qa, qd, qqO]
    rw [wsK (by simp; omega)]
    simp only [kTup, qE, qq, qV]
    simp
   have b6 : (k == 6) = false := by simpa using k6
   by_cases k5 : k = 5
   ·subst k5
    have how : (Tm.mk 5 n s l).own = 2 := by simp [Tm.own, Tm.kind]
    simp [q7] at a1
    simp only [b1, b2, b3, b4, b6, cond_false, beq_self_eq_true, cond_true]
    rw [qm (show 5 + (vC n).length ≤ 9223372036854775807 by omega)]
    simp only [cond_true, qa, qd]
    rw [wsK (by simp; omega)]
    simp only [kTup, qE, qq, qV]
    refine (qlt l i1 (by omega) i3 _ 0 _ _ rfl (by omega) (by simp; omega)).mono fun r hr => ?_
    rw [hr]
    simp
   have b5 : (k == 5) = false := by simpa using k5
   by_cases k7 : k = 7
   ·subst k7
    have how : (Tm.mk 7 n s l).own = 2 := by simp [Tm.own, Tm.kind]
    simp [q7] at a1
    have hcl := qcK l i3
    have hsl := qeM ((qG l).map (·.1))
    simp only [b1, b2, b3, b4, b5, b6, cond_false, beq_self_eq_true, cond_true]
    rw [wbK (b := 123) (n := 123) rfl (by omega)]
    have hall : EVb (EV cfg) 114 [.ptr 0 0 0, .sl (qh l)] tW tE (b ++ [123]) = some (.tup [], b ++ [123] ++ sepL ((qG l).map (·.1))) := by
     apply Gets.get
     refine qmo _ _ ?_
     refine (qob l i1 (by omega) i3 _ 0 _ rfl (by omega) (by simp; omega)).mono fun r hr => ?_
     rw [hr]
     simp
    rw [hall]
    simp only [qa]
    rw [wbK (b := 125) (n := 125) rfl (by simp; omega)]
    simp
   have b7 : (k == 7) = false := by simpa using k7
   simp only [b1, b2, b3, b4, b5, b6, b7, cond_false]
   have hlist : EVb (EV cfg) 115 [.ptr 0 0 0, .agg [.int .i64 k, .int .i64 n, .str s, .sl (qh l)]] tW tE b = some (.tup [], b ++ qK (.mk k n s l)) := by
    apply Gets.get
    refine qk8 _ _ _ _ _ ?_
    rw [wbK (b := 91) (n := 91) rfl (by omega)]
    unfold qK
    rw [yK]
    by_cases k9 : k = 9
    ·refine (pair k9 _ (b ++ [91]) [] (by simp) (by rw [hw]; simp; omega)).mono fun r hr => ?_
     rw [hr]
     subst k9
     simp [mkP]
    ·have k8 : k = 8 := by
      unfold q7 at a1
      rw [if_neg k1, if_neg k2, if_neg k3, if_neg k4, if_neg k6, if_neg k5, if_neg k7] at a1
      by_cases k8 : k = 8
      ·exact k8
      ·rw [if_neg k8, if_neg k9] at a1; cases a1
     subst k8
     refine qaP _ _ _ _ _ _ ?_
     simp only [show ((8 : Int) == 9) = false from rfl, cond_false, beq_self_eq_true, cond_true]
     rw [wbK (b := 93) (n := 93) rfl (by simp; omega)]
     simp [mkP]
   rw [hlist]
   simp [qK, yK, mkP, k1, k2, k3, k4, k5, k6, k7]
  refine ⟨P, ?_⟩
  intro k' n' s' l' he v b sep hsep hb
  cases he
  by_cases k9 : k = 9
  ·refine (pair k9 v b sep hsep (by omega)).mono fun r hr => ?_
   rw [hr]
   simp [qdY, Tm.kind, Tm.subs, k9]
  ·have hs : qdY sep (.mk k n s l) = yo (.mk k n s l) := by simp [qdY, Tm.kind, k9]
   rw [hs]
   have b9 : (k == 9) = false := by simpa using k9
   refine qaP _ _ _ _ _ _ ?_
   simp only [b9, cond_false]
   by_cases k8 : k = 8
   ·subst k8
    simp only [beq_self_eq_true, cond_true]
    rw [wbK (b := 93) (n := 93) rfl (by omega)]
    simp [yo, yK, mkP]
   ·have b8 : (k == 8) = false := by simpa using k8
    simp only [b8, cond_false]
    rw [wbK (b := 124) (n := 124) rfl (by omega)]
    have hP := P (b ++ [124]) (by simp; omega)
    rw [Tm.av_mk] at hP
    rw [hP]
    simp only [qa]
    have htl := (zM (.mk k n s l) hp0).1
    rw [wbK (b := 93) (n := 93) rfl (by simp; omega)]
    simp [yo, qK, yK, mkP, k8, k9]
def qbP (t : Tm) : AV := if t.chk = 0 then .tup [.str (qK t), .int .i64 0] else .tup [.str [], .int .i64 t.chk]
theorem qe2 {t : Tm} (h : t.chk = 0) : t.parts = true ∧ t.words ≤ 65536 := by
 have hp1 : qR [t] = t.parts := by simp [qR]
 have hw1 : qp [t] = t.words := by simp [qp]
 unfold Tm.chk chkS at h
 rw [hp1, hw1] at h
 by_cases hp : t.parts = true
 ·rw [if_pos hp] at h
  by_cases hw : 65536 < 0 + t.words
  ·rw [if_pos hw] at h; cases h
  ·exact ⟨hp, by omega⟩
 ·rw [if_neg hp] at h; cases h
theorem qij (t : Tm) (hw : t.w < 1099511627776) : EVf (EV cfg) 30 [t.av] = some (qbP t) := by
 have hc := qn7 hw
 obtain ⟨k, n, s, l⟩ := t
 rw [Tm.av_mk] at hc ⊢
 apply Gets.get
 refine qjO _ _ _ _ ?_
 rw [hc]
 simp only [qa, qq]
 unfold qbP
 by_cases h0 : (Tm.mk k n s l).chk = 0
 ·obtain ⟨hp, hwd⟩ := qe2 h0
  have hl := (zM _ hp).1
  have ht := (qmp _ hp).1 [] (by simp; omega)
  rw [Tm.av_mk] at ht
  rw [if_pos h0, h0]
  have e0 : ((0 : Int) != 0) = false := rfl
  rw [e0]
  simp only [cond_false]
  rw [ht]
  simp only [qa, List.nil_append]
  rw [qmv bldW (by omega)]
  simp
 ·rw [if_neg h0]
  have e0 : ((Tm.mk k n s l).chk != 0) = true := by simpa using h0
  rw [e0]
  simp
end Go.Proofs.YtnjonahoheopnaaGreatDoor
end
