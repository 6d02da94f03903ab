/-
  The configuration of the abstract evaluation for this seat, printed by a program of ours off the translation: types, modes of calls, slots kept at loops.
  What is proved: the types are those of the program; no condition.
-/
import Derived.Test.YtpbfmaodnihpeaaAvEval
import Derived.Test.YtpbfmaodnihpeaaAvExt
import Derived.Test.YtpbfmaodnihpeaaProg
import Derived.KernelRfl
namespace Go.Proofs.Ytpbfmaodnihpeaa
open Go.Av

def tyTab : List (Nat × TI) := [
  (1, { d := .func, sz := 1, bytes := 8, zero := [.nilF] }),
  (2, { d := .int .i64, sz := 1, bytes := 8, zero := [.int .i64 0] }),
  (3, { d := .int .i64, sz := 1, bytes := 8, zero := [.int .i64 0] }),
  (4, { d := .bool, sz := 1, bytes := 1, zero := [.bool false] }),
  (5, { d := .int .u8, sz := 1, bytes := 1, zero := [.int .u8 0] }),
  (6, { d := .int .u8, sz := 1, bytes := 1, zero := [.int .u8 0] }),
  (7, { d := .struct [(0, 2), (1, 3), (2, 4), (3, 6)], sz := 4, bytes := 24, zero := [.int .i64 0, .int .i64 0, .bool false, .int .u8 0] }),
  (9, { d := .str, sz := 1, bytes := 16, zero := [.str []] }),
  (12, { d := .int .u64, sz := 1, bytes := 8, zero := [.int .u64 0] }),
  (13, { d := .struct [(0, 9), (1, 12)], sz := 2, bytes := 24, zero := [.str [], .int .u64 0] }),
  (15, { d := .ptr 122, sz := 1, bytes := 8, zero := [.nilP] }),
  (16, { d := .ptr 125, sz := 1, bytes := 8, zero := [.nilP] }),
  (17, { d := .ptr 134, sz := 1, bytes := 8, zero := [.nilP] }),
  (18, { d := .struct [(0, 17)], sz := 1, bytes := 8, zero := [.nilP] }),
  (19, { d := .struct [(0, 17)], sz := 1, bytes := 8, zero := [.nilP] }),
  (21, { d := .int .i32, sz := 1, bytes := 4, zero := [.int .i32 0] }),
  (22, { d := .slice 24, sz := 1, bytes := 24, zero := [.nilS] }),
  (23, { d := .struct [(0, 3), (1, 3), (2, 9), (3, 22)], sz := 4, bytes := 56, zero := [.int .i64 0, .int .i64 0, .str [], .nilS] }),
  (24, { d := .struct [(0, 3), (1, 3), (2, 9), (3, 22)], sz := 4, bytes := 56, zero := [.int .i64 0, .int .i64 0, .str [], .nilS] }),
  (25, { d := .func, sz := 1, bytes := 8, zero := [.nilF] }),
  (26, { d := .func, sz := 1, bytes := 8, zero := [.nilF] }),
  (27, { d := .func, sz := 1, bytes := 8, zero := [.nilF] }),
  (28, { d := .func, sz := 1, bytes := 8, zero := [.nilF] }),
  (29, { d := .func, sz := 1, bytes := 8, zero := [.nilF] }),
  (30, { d := .func, sz := 1, bytes := 8, zero := [.nilF] }),
  (31, { d := .func, sz := 1, bytes := 8, zero := [.nilF] }),
  (32, { d := .func, sz := 1, bytes := 8, zero := [.nilF] }),
  (34, { d := .func, sz := 1, bytes := 8, zero := [.nilF] }),
  (35, { d := .func, sz := 1, bytes := 8, zero := [.nilF] }),
  (36, { d := .func, sz := 1, bytes := 8, zero := [.nilF] }),
  (37, { d := .func, sz := 1, bytes := 8, zero := [.nilF] }),
  (38, { d := .func, sz := 1, bytes := 8, zero := [.nilF] }),
  (39, { d := .func, sz := 1, bytes := 8, zero := [.nilF] }),
  (40, { d := .func, sz := 1, bytes := 8, zero := [.nilF] }),
  (41, { d := .int .i64, sz := 1, bytes := 8, zero := [.int .i64 0] }),
  (42, { d := .func, sz := 1, bytes := 8, zero := [.nilF] }),
  (43, { d := .func, sz := 1, bytes := 8, zero := [.nilF] }),
  (44, { d := .ptr 67, sz := 1, bytes := 8, zero := [.nilP] }),
  (46, { d := .func, sz := 1, bytes := 8, zero := [.nilF] }),
  (48, { d := .func, sz := 1, bytes := 8, zero := [.nilF] }),
  (49, { d := .func, sz := 1, bytes := 8, zero := [.nilF] }),
  (50, { d := .func, sz := 1, bytes := 8, zero := [.nilF] }),
  (51, { d := .func, sz := 1, bytes := 8, zero := [.nilF] }),
  (52, { d := .func, sz := 1, bytes := 8, zero := [.nilF] }),
  (53, { d := .slice 60, sz := 1, bytes := 24, zero := [.nilS] }),
  (54, { d := .func, sz := 1, bytes := 8, zero := [.nilF] }),
  (55, { d := .ptr 58, sz := 1, bytes := 8, zero := [.nilP] }),
  (56, { d := .slice 105, sz := 1, bytes := 24, zero := [.nilS] }),
  (57, { d := .struct [(0, 56)], sz := 1, bytes := 24, zero := [.nilS] }),
  (58, { d := .struct [(0, 56)], sz := 1, bytes := 24, zero := [.nilS] }),
  (59, { d := .struct [(0, 3), (1, 3), (2, 24)], sz := 6, bytes := 72, zero := [.int .i64 0, .int .i64 0, .int .i64 0, .int .i64 0, .str [], .nilS] }),
  (60, { d := .struct [(0, 3), (1, 3), (2, 24)], sz := 6, bytes := 72, zero := [.int .i64 0, .int .i64 0, .int .i64 0, .int .i64 0, .str [], .nilS] }),
  (61, { d := .func, sz := 1, bytes := 8, zero := [.nilF] }),
  (62, { d := .func, sz := 1, bytes := 8, zero := [.nilF] }),
  (63, { d := .func, sz := 1, bytes := 8, zero := [.nilF] }),
  (64, { d := .func, sz := 1, bytes := 8, zero := [.nilF] }),
  (65, { d := .ptr 99, sz := 1, bytes := 8, zero := [.nilP] }),
  (66, { d := .struct [(0, 4), (1, 65), (2, 3), (3, 3)], sz := 4, bytes := 32, zero := [.bool false, .nilP, .int .i64 0, .int .i64 0] }),
  (67, { d := .struct [(0, 4), (1, 65), (2, 3), (3, 3)], sz := 4, bytes := 32, zero := [.bool false, .nilP, .int .i64 0, .int .i64 0] }),
  (68, { d := .slice 44, sz := 1, bytes := 24, zero := [.nilS] }),
  (70, { d := .func, sz := 1, bytes := 8, zero := [.nilF] }),
  (71, { d := .func, sz := 1, bytes := 8, zero := [.nilF] }),
  (72, { d := .func, sz := 1, bytes := 8, zero := [.nilF] }),
  (73, { d := .func, sz := 1, bytes := 8, zero := [.nilF] }),
  (74, { d := .func, sz := 1, bytes := 8, zero := [.nilF] }),
  (75, { d := .func, sz := 1, bytes := 8, zero := [.nilF] }),
  (76, { d := .slice 4, sz := 1, bytes := 24, zero := [.nilS] }),
  (77, { d := .func, sz := 1, bytes := 8, zero := [.nilF] }),
  (78, { d := .func, sz := 1, bytes := 8, zero := [.nilF] }),
  (79, { d := .func, sz := 1, bytes := 8, zero := [.nilF] }),
  (80, { d := .func, sz := 1, bytes := 8, zero := [.nilF] }),
  (81, { d := .func, sz := 1, bytes := 8, zero := [.nilF] }),
  (82, { d := .func, sz := 1, bytes := 8, zero := [.nilF] }),
  (83, { d := .func, sz := 1, bytes := 8, zero := [.nilF] }),
  (84, { d := .func, sz := 1, bytes := 8, zero := [.nilF] }),
  (85, { d := .func, sz := 1, bytes := 8, zero := [.nilF] }),
  (86, { d := .func, sz := 1, bytes := 8, zero := [.nilF] }),
  (87, { d := .func, sz := 1, bytes := 8, zero := [.nilF] }),
  (88, { d := .func, sz := 1, bytes := 8, zero := [.nilF] }),
  (89, { d := .func, sz := 1, bytes := 8, zero := [.nilF] }),
  (90, { d := .struct [(0, 24), (4, 24)], sz := 8, bytes := 112, zero := [.int .i64 0, .int .i64 0, .str [], .nilS, .int .i64 0, .int .i64 0, .str [], .nilS] }),
  (91, { d := .struct [(0, 24), (4, 24)], sz := 8, bytes := 112, zero := [.int .i64 0, .int .i64 0, .str [], .nilS, .int .i64 0, .int .i64 0, .str [], .nilS] }),
  (92, { d := .slice 91, sz := 1, bytes := 24, zero := [.nilS] }),
  (93, { d := .func, sz := 1, bytes := 8, zero := [.nilF] }),
  (94, { d := .func, sz := 1, bytes := 8, zero := [.nilF] }),
  (95, { d := .slice 97, sz := 1, bytes := 24, zero := [.nilS] }),
  (96, { d := .func, sz := 1, bytes := 8, zero := [.nilF] }),
  (97, { d := .ptr 65, sz := 1, bytes := 8, zero := [.nilP] }),
  (98, { d := .struct [(0, 24), (4, 3), (5, 3), (6, 65), (7, 65)], sz := 8, bytes := 88, zero := [.int .i64 0, .int .i64 0, .str [], .nilS, .int .i64 0, .int .i64 0, .nilP, .nilP] }),
  (99, { d := .struct [(0, 24), (4, 3), (5, 3), (6, 65), (7, 65)], sz := 8, bytes := 88, zero := [.int .i64 0, .int .i64 0, .str [], .nilS, .int .i64 0, .int .i64 0, .nilP, .nilP] }),
  (100, { d := .func, sz := 1, bytes := 8, zero := [.nilF] }),
  (101, { d := .slice 65, sz := 1, bytes := 24, zero := [.nilS] }),
  (102, { d := .func, sz := 1, bytes := 8, zero := [.nilF] }),
  (103, { d := .func, sz := 1, bytes := 8, zero := [.nilF] }),
  (104, { d := .struct [(0, 24), (4, 3)], sz := 5, bytes := 64, zero := [.int .i64 0, .int .i64 0, .str [], .nilS, .int .i64 0] }),
  (105, { d := .struct [(0, 24), (4, 3)], sz := 5, bytes := 64, zero := [.int .i64 0, .int .i64 0, .str [], .nilS, .int .i64 0] }),
  (106, { d := .func, sz := 1, bytes := 8, zero := [.nilF] }),
  (107, { d := .slice 3, sz := 1, bytes := 24, zero := [.nilS] }),
  (108, { d := .func, sz := 1, bytes := 8, zero := [.nilF] }),
  (109, { d := .func, sz := 1, bytes := 8, zero := [.nilF] }),
  (110, { d := .func, sz := 1, bytes := 8, zero := [.nilF] }),
  (111, { d := .func, sz := 1, bytes := 8, zero := [.nilF] }),
  (112, { d := .func, sz := 1, bytes := 8, zero := [.nilF] }),
  (113, { d := .func, sz := 1, bytes := 8, zero := [.nilF] }),
  (114, { d := .func, sz := 1, bytes := 8, zero := [.nilF] }),
  (115, { d := .func, sz := 1, bytes := 8, zero := [.nilF] }),
  (116, { d := .func, sz := 1, bytes := 8, zero := [.nilF] }),
  (117, { d := .func, sz := 1, bytes := 8, zero := [.nilF] }),
  (118, { d := .func, sz := 1, bytes := 8, zero := [.nilF] }),
  (119, { d := .int .u64, sz := 1, bytes := 8, zero := [.int .u64 0] }),
  (120, { d := .func, sz := 1, bytes := 8, zero := [.nilF] }),
  (121, { d := .struct [(0, 17), (1, 17), (2, 17), (3, 9)], sz := 4, bytes := 40, zero := [.nilP, .nilP, .nilP, .str []] }),
  (123, { d := .array 0 16, sz := 0, bytes := 0, zero := [] }),
  (124, { d := .struct [(0, 123)], sz := 0, bytes := 0, zero := [] }),
  (126, { d := .int .u32, sz := 1, bytes := 4, zero := [.int .u32 0] }),
  (127, { d := .int .u8, sz := 1, bytes := 1, zero := [.int .u8 0] }),
  (128, { d := .int .u8, sz := 1, bytes := 1, zero := [.int .u8 0] }),
  (129, { d := .func, sz := 1, bytes := 8, zero := [.nilF] }),
  (130, { d := .ptr 5, sz := 1, bytes := 8, zero := [.nilP] }),
  (131, { d := .int .i32, sz := 1, bytes := 4, zero := [.int .i32 0] }),
  (132, { d := .int .i32, sz := 1, bytes := 4, zero := [.int .i32 0] }),
  (133, { d := .struct [(0, 12), (1, 12), (2, 126), (3, 127), (4, 5), (5, 5), (6, 128), (7, 129), (8, 130), (9, 131), (10, 132)], sz := 11, bytes := 48, zero := [.int .u64 0, .int .u64 0, .int .u32 0, .int .u8 0, .int .u8 0, .int .u8 0, .int .u8 0, .nilF, .nilP, .int .i32 0, .int .i32 0] }),
  (134, { d := .struct [(0, 12), (1, 12), (2, 126), (3, 127), (4, 5), (5, 5), (6, 128), (7, 129), (8, 130), (9, 131), (10, 132)], sz := 11, bytes := 48, zero := [.int .u64 0, .int .u64 0, .int .u32 0, .int .u8 0, .int .u8 0, .int .u8 0, .int .u8 0, .nilF, .nilP, .int .i32 0, .int .i32 0] })]

def tyLook (t : Nat) : List (Nat × TI) → Option TI
  | [] => none
  | p :: l => if Nat.beq p.1 t then some p.2 else tyLook t l

def modeTab : List (Nat × CMode) := [(3, .scal), (4, .scal), (5, .scal), (6, .scal), (7, .scal), (13, .scal), (14, .pfrz), (15, .scal), (16, .scal), (17, .scal), (18, .scal), (19, .scal), (20, .pfrz), (21, .pown), (22, .pown), (23, .scal), (24, .pfrz), (25, .pfrz), (26, .scal), (27, .scal), (28, .pfrz), (29, .pfrz), (30, .pfrz), (31, .pfrz), (32, .scal), (38, .pfrz), (57, .scal), (58, .scal), (59, .pfrz), (60, .scal), (61, .scal), (62, .scal), (63, .scal), (64, .scal), (65, .scal), (66, .scal), (67, .scal), (68, .pown), (72, .scal), (73, .pfrz), (74, .pfrz), (75, .pfrz), (95, .scal), (96, .scal), (97, .scal), (107, .scal)]
def modeLook (t : Nat) : List (Nat × CMode) → CMode
  | [] => .imp
  | p :: l => if Nat.beq p.1 t then p.2 else modeLook t l

def frzTab : List (Nat × Nat × Nat) := [(5, 1, 4), (5, 1, 8), (5, 1, 16), (5, 1, 20), (5, 1, 28), (5, 2, 5), (5, 3, 5), (18, 1, 7), (18, 1, 10), (18, 1, 18), (18, 1, 21), (73, 5, 6)]
def frzLook (f r k : Nat) : List (Nat × Nat × Nat) → Bool
  | [] => false
  | p :: l => (Nat.beq p.1 f && Nat.beq p.2.1 r && Nat.beq p.2.2 k) || frzLook f r k l

def maskTab : List (Nat × Nat × List Tmp × List Tmp) := [
  (6, 6, [0, 3, 4, 5, 6], [0, 2, 3, 4, 5]),
  (6, 11, [0, 3, 4, 5, 7], [0, 2, 3, 4, 5]),
  (6, 16, [0, 3, 4, 5, 8], [0, 2, 3, 4, 5]),
  (9, 7, [0, 3, 4, 5], [2, 3, 4]),
  (10, 3, [1, 3, 4], [2]),
  (11, 7, [0, 1, 2, 7, 8, 9], [0, 1, 6, 7, 8]),
  (12, 7, [0, 1, 5, 6, 7, 8], [1, 5, 6, 7]),
  (12, 15, [1, 5, 6, 12, 13, 14], [4, 5, 6, 12]),
  (12, 25, [5, 6, 12, 17], [4, 5]),
  (15, 1, [2, 3], [4]),
  (19, 3, [0, 1, 5, 6], [4]),
  (24, 3, [0, 3, 4], [3]),
  (24, 6, [0, 3, 4, 5], [0, 3, 4, 5]),
  (25, 4, [3, 4, 5], [4]),
  (26, 2, [0, 3, 9, 10, 11], [0, 4, 5]),
  (27, 2, [0, 3, 6], [0, 3, 6]),
  (32, 3, [0, 3, 5, 6], [5]),
  (33, 4, [2, 3], [2, 3]),
  (34, 2, [5], [4]),
  (34, 9, [5, 6, 70, 71], [5]),
  (40, 11, [0, 6, 8, 9], [0, 6, 8, 9]),
  (44, 6, [3, 4, 5], [3]),
  (50, 3, [0, 3, 4], [3]),
  (51, 1, [0, 2], []),
  (53, 4, [2, 5], [2, 5]),
  (54, 4, [2, 5], [2, 5]),
  (56, 2, [0, 3], [3]),
  (57, 3, [1, 2, 5, 6], [5]),
  (58, 4, [1, 3], [2]),
  (59, 3, [0, 3, 4], [3]),
  (62, 3, [3, 6, 7, 8], [2, 3]),
  (66, 3, [0, 1, 5, 6], [5]),
  (67, 4, [0, 1, 5], [4]),
  (71, 4, [0, 1, 5], [0, 4]),
  (71, 9, [0, 1, 5, 6, 7], [0, 5]),
  (73, 3, [0, 4, 5, 6], [4, 5]),
  (81, 3, [0, 2, 4, 7, 8], [7]),
  (82, 2, [0, 3, 5], [4]),
  (83, 1, [0, 2], []),
  (93, 2, [1, 2], []),
  (97, 2, [0, 1, 2, 11, 12, 13], [0, 1, 6]),
  (98, 2, [0, 1, 2, 6, 7, 8], [0, 1, 2, 6, 7]),
  (98, 7, [0, 1, 2, 6], []),
  (98, 9, [0, 1, 2, 6, 7, 8], [0, 1, 2, 6, 7]),
  (99, 1, [0, 3], []),
  (99, 7, [3], [0, 3]),
  (103, 6, [1, 2, 3, 4, 18, 19, 20], [2, 3, 4]),
  (105, 2, [0, 3, 6], [0, 3, 6]),
  (108, 1, [0, 1, 2, 3, 8], []),
  (108, 4, [0, 1, 2, 3, 8, 9], [0, 1, 2, 3, 8]),
  (109, 3, [0, 1, 4, 10, 11], [0, 1, 10]),
  (109, 9, [0, 10, 13], []),
  (109, 15, [0, 2, 4, 14, 15], [0, 2, 14]),
  (109, 21, [0, 14, 17], []),
  (109, 33, [0, 1, 2, 3, 4, 18, 19, 20, 21, 22], [0, 1, 2, 3, 4, 18, 19, 20]),
  (110, 1, [0, 1, 3], []),
  (114, 4, [1, 3], [2]),
  (115, 6, [1, 3, 4], [3]),
  (116, 2, [0, 2, 4, 10, 11], [0, 2, 4, 10]),
  (118, 1, [0, 1, 2, 3, 10], [])]
def maskLook (f r : Nat) : List (Nat × Nat × List Tmp × List Tmp) → Option (List Tmp × List Tmp)
  | [] => none
  | p :: l => if Nat.beq p.1 f && Nat.beq p.2.1 r then some p.2.2 else maskLook f r l

def extLook (f : Nat) : List (Nat × (List AV → AH → Option (AV × AH))) → Option (List AV → AH → Option (AV × AH))
  | [] => none
  | p :: l => if Nat.beq p.1 f then some p.2 else extLook f l
def extTab : List (Nat × (List AV → AH → Option (AV × AH))) := [(107, extCmp)]
def knownTab : List Nat := [2, 3, 4, 5, 6, 7, 8, 9, 10, 11, 12, 13, 14, 15, 16, 17, 18, 19, 20, 21, 22, 23, 24, 25, 26, 27, 28, 29, 30, 31, 32, 33, 34, 35, 36, 37, 38, 39, 40, 41, 42, 43, 44, 45, 46, 47, 48, 49, 50, 51, 52, 53, 54, 55, 56, 57, 58, 59, 60, 61, 62, 63, 64, 65, 66, 67, 68, 69, 70, 71, 72, 73, 74, 75, 76, 77, 78, 79, 80, 81, 82, 83, 84, 85, 86, 87, 88, 89, 90, 91, 92, 93, 94, 95, 96, 97, 98, 99, 100, 101, 102, 103, 104, 105, 106, 108, 109, 110, 111, 112, 113, 114, 115, 116, 117, 118, 119]
def knownLook (f : Nat) : List Nat → Bool
  | [] => false
  | p :: l => Nat.beq p f || knownLook f l
def datTab : List Nat := [22, 24]

noncomputable def cfg : Cfg := { P := Try.prog, ty := fun t => tyLook t tyTab, mode := fun f => modeLook f modeTab, frz := fun f r k => frzLook f r k frzTab, mask := fun f r => maskLook f r maskTab, ext := fun f => extLook f extTab, known := fun f => knownLook f knownTab, dat := fun t => knownLook t datTab }
end Go.Proofs.Ytpbfmaodnihpeaa
