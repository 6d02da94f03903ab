/-
  Parts of the proof of BoundMeetsUptoSaid, put together: the abstract evaluation and its contracts. Own work.
  What is proved: each lemma as it stands; no condition.
-/
import Derived.Test.YtkgkjngbfdnoiaaGreatProg
import Derived.KernelRfl
import Derived.Test.YtkgkjngbfdnoiaaGreatZBoundMeetsM4

section
namespace Go.Proofs.YtkgkjngbfdnoiaaGreat.K
open Go.Av
set_option maxRecDepth 100000

def tyTab : BT TI := .node 147 ({ d := .func, sz := 1, bytes := 8, zero := [.nilF] }) (.node 77 ({ d := .struct [(0, 4), (1, 22), (2, 75)], sz := 3, bytes := 56, zero := [.bool false, .nilS, .nilS] }) (.node 39 ({ d := .func, sz := 1, bytes := 8, zero := [.nilF] }) (.node 22 ({ d := .slice 24, sz := 1, bytes := 24, zero := [.nilS] }) (.node 12 ({ d := .int .u64, sz := 1, bytes := 8, zero := [.int .u64 0] }) (.node 5 ({ d := .int .u8, sz := 1, bytes := 1, zero := [.int .u8 0] }) (.node 3 ({ d := .int .i64, sz := 1, bytes := 8, zero := [.int .i64 0] }) (.node 2 ({ d := .int .i64, sz := 1, bytes := 8, zero := [.int .i64 0] }) (.node 1 ({ d := .func, sz := 1, bytes := 8, zero := [.nilF] }) .leaf .leaf) .leaf) (.node 4 ({ d := .bool, sz := 1, bytes := 1, zero := [.bool false] }) .leaf .leaf)) (.node 7 ({ d := .struct [(0, 2), (1, 3), (2, 4), (3, 6)], sz := 4, bytes := 24, zero := [.int .i64 0, .int .i64 0, .bool false, .int .u8 0] }) (.node 6 ({ d := .int .u8, sz := 1, bytes := 1, zero := [.int .u8 0] }) .leaf .leaf) (.node 9 ({ d := .str, sz := 1, bytes := 16, zero := [.str []] }) .leaf .leaf))) (.node 17 ({ d := .ptr 287, sz := 1, bytes := 8, zero := [.nilP] }) (.node 15 ({ d := .ptr 275, sz := 1, bytes := 8, zero := [.nilP] }) (.node 13 ({ d := .struct [(0, 9), (1, 12)], sz := 2, bytes := 24, zero := [.str [], .int .u64 0] }) .leaf .leaf) (.node 16 ({ d := .ptr 278, sz := 1, bytes := 8, zero := [.nilP] }) .leaf .leaf)) (.node 19 ({ d := .struct [(0, 17)], sz := 1, bytes := 8, zero := [.nilP] }) (.node 18 ({ d := .struct [(0, 17)], sz := 1, bytes := 8, zero := [.nilP] }) .leaf .leaf) (.node 21 ({ d := .int .i32, sz := 1, bytes := 4, zero := [.int .i32 0] }) .leaf .leaf)))) (.node 30 ({ d := .func, sz := 1, bytes := 8, zero := [.nilF] }) (.node 26 ({ d := .struct [(0, 24), (4, 25), (5, 3)], sz := 6, bytes := 88, zero := [.int .i64 0, .int .i64 0, .str [], .nilS, .nilS, .int .i64 0] }) (.node 24 ({ d := .struct [(0, 3), (1, 3), (2, 9), (3, 22)], sz := 4, bytes := 56, zero := [.int .i64 0, .int .i64 0, .str [], .nilS] }) (.node 23 ({ d := .struct [(0, 3), (1, 3), (2, 9), (3, 22)], sz := 4, bytes := 56, zero := [.int .i64 0, .int .i64 0, .str [], .nilS] }) .leaf .leaf) (.node 25 ({ d := .slice 91, sz := 1, bytes := 24, zero := [.nilS] }) .leaf .leaf)) (.node 28 ({ d := .func, sz := 1, bytes := 8, zero := [.nilF] }) (.node 27 ({ d := .struct [(0, 24), (4, 25), (5, 3)], sz := 6, bytes := 88, zero := [.int .i64 0, .int .i64 0, .str [], .nilS, .nilS, .int .i64 0] }) .leaf .leaf) (.node 29 ({ d := .func, sz := 1, bytes := 8, zero := [.nilF] }) .leaf .leaf))) (.node 35 ({ d := .func, sz := 1, bytes := 8, zero := [.nilF] }) (.node 33 ({ d := .func, sz := 1, bytes := 8, zero := [.nilF] }) (.node 31 ({ d := .int .i64, sz := 1, bytes := 8, zero := [.int .i64 0] }) .leaf .leaf) (.node 34 ({ d := .func, sz := 1, bytes := 8, zero := [.nilF] }) .leaf .leaf)) (.node 37 ({ d := .func, sz := 1, bytes := 8, zero := [.nilF] }) (.node 36 ({ d := .func, sz := 1, bytes := 8, zero := [.nilF] }) .leaf .leaf) (.node 38 ({ d := .func, sz := 1, bytes := 8, zero := [.nilF] }) .leaf .leaf))))) (.node 59 ({ d := .struct [(0, 3), (1, 3), (2, 3), (3, 24)], sz := 7, bytes := 80, zero := [.int .i64 0, .int .i64 0, .int .i64 0, .int .i64 0, .int .i64 0, .str [], .nilS] }) (.node 51 ({ d := .func, sz := 1, bytes := 8, zero := [.nilF] }) (.node 45 ({ d := .func, sz := 1, bytes := 8, zero := [.nilF] }) (.node 42 ({ d := .func, sz := 1, bytes := 8, zero := [.nilF] }) (.node 41 ({ d := .func, sz := 1, bytes := 8, zero := [.nilF] }) (.node 40 ({ d := .func, sz := 1, bytes := 8, zero := [.nilF] }) .leaf .leaf) .leaf) (.node 43 ({ d := .func, sz := 1, bytes := 8, zero := [.nilF] }) .leaf .leaf)) (.node 48 ({ d := .func, sz := 1, bytes := 8, zero := [.nilF] }) (.node 47 ({ d := .func, sz := 1, bytes := 8, zero := [.nilF] }) .leaf .leaf) (.node 49 ({ d := .slice 56, sz := 1, bytes := 24, zero := [.nilS] }) .leaf .leaf))) (.node 55 ({ d := .struct [(0, 24), (4, 22), (5, 22)], sz := 6, bytes := 104, zero := [.int .i64 0, .int .i64 0, .str [], .nilS, .nilS, .nilS] }) (.node 53 ({ d := .func, sz := 1, bytes := 8, zero := [.nilF] }) (.node 52 ({ d := .func, sz := 1, bytes := 8, zero := [.nilF] }) .leaf .leaf) (.node 54 ({ d := .func, sz := 1, bytes := 8, zero := [.nilF] }) .leaf .leaf)) (.node 57 ({ d := .slice 60, sz := 1, bytes := 24, zero := [.nilS] }) (.node 56 ({ d := .struct [(0, 24), (4, 22), (5, 22)], sz := 6, bytes := 104, zero := [.int .i64 0, .int .i64 0, .str [], .nilS, .nilS, .nilS] }) .leaf .leaf) (.node 58 ({ d := .func, sz := 1, bytes := 8, zero := [.nilF] }) .leaf .leaf)))) (.node 69 ({ d := .func, sz := 1, bytes := 8, zero := [.nilF] }) (.node 64 ({ d := .func, sz := 1, bytes := 8, zero := [.nilF] }) (.node 61 ({ d := .func, sz := 1, bytes := 8, zero := [.nilF] }) (.node 60 ({ d := .struct [(0, 3), (1, 3), (2, 3), (3, 24)], sz := 7, bytes := 80, zero := [.int .i64 0, .int .i64 0, .int .i64 0, .int .i64 0, .int .i64 0, .str [], .nilS] }) .leaf .leaf) (.node 63 ({ d := .func, sz := 1, bytes := 8, zero := [.nilF] }) .leaf .leaf)) (.node 66 ({ d := .slice 3, sz := 1, bytes := 24, zero := [.nilS] }) (.node 65 ({ d := .func, sz := 1, bytes := 8, zero := [.nilF] }) .leaf .leaf) (.node 67 ({ d := .func, sz := 1, bytes := 8, zero := [.nilF] }) .leaf .leaf))) (.node 73 ({ d := .func, sz := 1, bytes := 8, zero := [.nilF] }) (.node 71 ({ d := .func, sz := 1, bytes := 8, zero := [.nilF] }) (.node 70 ({ d := .func, sz := 1, bytes := 8, zero := [.nilF] }) .leaf .leaf) (.node 72 ({ d := .func, sz := 1, bytes := 8, zero := [.nilF] }) .leaf .leaf)) (.node 75 ({ d := .slice 82, sz := 1, bytes := 24, zero := [.nilS] }) (.node 74 ({ d := .func, sz := 1, bytes := 8, zero := [.nilF] }) .leaf .leaf) (.node 76 ({ d := .struct [(0, 4), (1, 22), (2, 75)], sz := 3, bytes := 56, zero := [.bool false, .nilS, .nilS] }) .leaf .leaf)))))) (.node 113 ({ d := .func, sz := 1, bytes := 8, zero := [.nilF] }) (.node 97 ({ d := .struct [(0, 27), (6, 4)], sz := 7, bytes := 96, zero := [.int .i64 0, .int .i64 0, .str [], .nilS, .nilS, .int .i64 0, .bool false] }) (.node 88 ({ d := .func, sz := 1, bytes := 8, zero := [.nilF] }) (.node 83 ({ d := .func, sz := 1, bytes := 8, zero := [.nilF] }) (.node 81 ({ d := .struct [(0, 3), (1, 22)], sz := 2, bytes := 32, zero := [.int .i64 0, .nilS] }) (.node 80 ({ d := .func, sz := 1, bytes := 8, zero := [.nilF] }) (.node 79 ({ d := .func, sz := 1, bytes := 8, zero := [.nilF] }) .leaf .leaf) .leaf) (.node 82 ({ d := .struct [(0, 3), (1, 22)], sz := 2, bytes := 32, zero := [.int .i64 0, .nilS] }) .leaf .leaf)) (.node 86 ({ d := .func, sz := 1, bytes := 8, zero := [.nilF] }) (.node 84 ({ d := .func, sz := 1, bytes := 8, zero := [.nilF] }) .leaf .leaf) (.node 87 ({ d := .func, sz := 1, bytes := 8, zero := [.nilF] }) .leaf .leaf))) (.node 93 ({ d := .func, sz := 1, bytes := 8, zero := [.nilF] }) (.node 90 ({ d := .struct [(0, 3), (1, 24)], sz := 5, bytes := 64, zero := [.int .i64 0, .int .i64 0, .int .i64 0, .str [], .nilS] }) (.node 89 ({ d := .func, sz := 1, bytes := 8, zero := [.nilF] }) .leaf .leaf) (.node 91 ({ d := .struct [(0, 3), (1, 24)], sz := 5, bytes := 64, zero := [.int .i64 0, .int .i64 0, .int .i64 0, .str [], .nilS] }) .leaf .leaf)) (.node 95 ({ d := .ptr 97, sz := 1, bytes := 8, zero := [.nilP] }) (.node 94 ({ d := .func, sz := 1, bytes := 8, zero := [.nilF] }) .leaf .leaf) (.node 96 ({ d := .struct [(0, 27), (6, 4)], sz := 7, bytes := 96, zero := [.int .i64 0, .int .i64 0, .str [], .nilS, .nilS, .int .i64 0, .bool false] }) .leaf .leaf)))) (.node 105 ({ d := .func, sz := 1, bytes := 8, zero := [.nilF] }) (.node 101 ({ d := .func, sz := 1, bytes := 8, zero := [.nilF] }) (.node 99 ({ d := .func, sz := 1, bytes := 8, zero := [.nilF] }) (.node 98 ({ d := .func, sz := 1, bytes := 8, zero := [.nilF] }) .leaf .leaf) (.node 100 ({ d := .func, sz := 1, bytes := 8, zero := [.nilF] }) .leaf .leaf)) (.node 103 ({ d := .func, sz := 1, bytes := 8, zero := [.nilF] }) (.node 102 ({ d := .func, sz := 1, bytes := 8, zero := [.nilF] }) .leaf .leaf) (.node 104 ({ d := .func, sz := 1, bytes := 8, zero := [.nilF] }) .leaf .leaf))) (.node 109 ({ d := .func, sz := 1, bytes := 8, zero := [.nilF] }) (.node 107 ({ d := .func, sz := 1, bytes := 8, zero := [.nilF] }) (.node 106 ({ d := .func, sz := 1, bytes := 8, zero := [.nilF] }) .leaf .leaf) (.node 108 ({ d := .func, sz := 1, bytes := 8, zero := [.nilF] }) .leaf .leaf)) (.node 111 ({ d := .func, sz := 1, bytes := 8, zero := [.nilF] }) (.node 110 ({ d := .func, sz := 1, bytes := 8, zero := [.nilF] }) .leaf .leaf) (.node 112 ({ d := .func, sz := 1, bytes := 8, zero := [.nilF] }) .leaf .leaf))))) (.node 131 ({ d := .struct [(0, 24), (4, 3), (5, 22), (6, 22), (7, 25), (8, 4)], sz := 9, bytes := 144, zero := [.int .i64 0, .int .i64 0, .str [], .nilS, .int .i64 0, .nilS, .nilS, .nilS, .bool false] }) (.node 123 ({ d := .ptr 126, sz := 1, bytes := 8, zero := [.nilP] }) (.node 119 ({ d := .func, sz := 1, bytes := 8, zero := [.nilF] }) (.node 116 ({ d := .func, sz := 1, bytes := 8, zero := [.nilF] }) (.node 115 ({ d := .func, sz := 1, bytes := 8, zero := [.nilF] }) .leaf .leaf) (.node 118 ({ d := .func, sz := 1, bytes := 8, zero := [.nilF] }) .leaf .leaf)) (.node 121 ({ d := .func, sz := 1, bytes := 8, zero := [.nilF] }) (.node 120 ({ d := .func, sz := 1, bytes := 8, zero := [.nilF] }) .leaf .leaf) (.node 122 ({ d := .func, sz := 1, bytes := 8, zero := [.nilF] }) .leaf .leaf))) (.node 127 ({ d := .int .i64, sz := 1, bytes := 8, zero := [.int .i64 0] }) (.node 125 ({ d := .struct [(0, 24), (4, 3), (5, 22), (6, 22), (7, 124), (8, 4)], sz := 9, bytes := 128, zero := [.int .i64 0, .int .i64 0, .str [], .nilS, .int .i64 0, .nilS, .nilS, .nilM, .bool false] }) (.node 124 ({ d := .map 3 24, sz := 1, bytes := 8, zero := [.nilM] }) .leaf .leaf) (.node 126 ({ d := .struct [(0, 24), (4, 3), (5, 22), (6, 22), (7, 124), (8, 4)], sz := 9, bytes := 128, zero := [.int .i64 0, .int .i64 0, .str [], .nilS, .int .i64 0, .nilS, .nilS, .nilM, .bool false] }) .leaf .leaf)) (.node 129 ({ d := .ptr 131, sz := 1, bytes := 8, zero := [.nilP] }) (.node 128 ({ d := .func, sz := 1, bytes := 8, zero := [.nilF] }) .leaf .leaf) (.node 130 ({ d := .struct [(0, 24), (4, 3), (5, 22), (6, 22), (7, 25), (8, 4)], sz := 9, bytes := 144, zero := [.int .i64 0, .int .i64 0, .str [], .nilS, .int .i64 0, .nilS, .nilS, .nilS, .bool false] }) .leaf .leaf)))) (.node 139 ({ d := .func, sz := 1, bytes := 8, zero := [.nilF] }) (.node 135 ({ d := .struct [(0, 57)], sz := 1, bytes := 24, zero := [.nilS] }) (.node 133 ({ d := .ptr 135, sz := 1, bytes := 8, zero := [.nilP] }) (.node 132 ({ d := .func, sz := 1, bytes := 8, zero := [.nilF] }) .leaf .leaf) (.node 134 ({ d := .struct [(0, 57)], sz := 1, bytes := 24, zero := [.nilS] }) .leaf .leaf)) (.node 137 ({ d := .func, sz := 1, bytes := 8, zero := [.nilF] }) (.node 136 ({ d := .func, sz := 1, bytes := 8, zero := [.nilF] }) .leaf .leaf) (.node 138 ({ d := .func, sz := 1, bytes := 8, zero := [.nilF] }) .leaf .leaf))) (.node 143 ({ d := .func, sz := 1, bytes := 8, zero := [.nilF] }) (.node 141 ({ d := .func, sz := 1, bytes := 8, zero := [.nilF] }) (.node 140 ({ d := .func, sz := 1, bytes := 8, zero := [.nilF] }) .leaf .leaf) (.node 142 ({ d := .func, sz := 1, bytes := 8, zero := [.nilF] }) .leaf .leaf)) (.node 145 ({ d := .func, sz := 1, bytes := 8, zero := [.nilF] }) (.node 144 ({ d := .func, sz := 1, bytes := 8, zero := [.nilF] }) .leaf .leaf) (.node 146 ({ d := .func, sz := 1, bytes := 8, zero := [.nilF] }) .leaf .leaf))))))) (.node 217 ({ d := .struct [(0, 215), (2, 216)], sz := 402, bytes := 5616, zero := [.int .u64 0, .int .u64 0, .int .i64 0, .int .i64 0, .str [], .nilS, .int .i64 0, .int .i64 0, .str [], .nilS, .int .i64 0, .int .i64 0, .str [], .nilS, .int .i64 0, .int .i64 0, .str [], .nilS, .int .i64 0, .int .i64 0, .str [], .nilS, .int .i64 0, .int .i64 0, .str [], .nilS, .int .i64 0, .int .i64 0, .str [], .nilS, .int .i64 0, .int .i64 0, .str [], .nilS, .int .i64 0, .int .i64 0, .str [], .nilS, .int .i64 0, .int .i64 0, .str [], .nilS, .int .i64 0, .int .i64 0, .str [], .nilS, .int .i64 0, .int .i64 0, .str [], .nilS, .int .i64 0, .int .i64 0, .str [], .nilS, .int .i64 0, .int .i64 0, .str [], .nilS, .int .i64 0, .int .i64 0, .str [], .nilS, .int .i64 0, .int .i64 0, .str [], .nilS, .int .i64 0, .int .i64 0, .str [], .nilS, .int .i64 0, .int .i64 0, .str [], .nilS, .int .i64 0, .int .i64 0, .str [], .nilS, .int .i64 0, .int .i64 0, .str [], .nilS, .int .i64 0, .int .i64 0, .str [], .nilS, .int .i64 0, .int .i64 0, .str [], .nilS, .int .i64 0, .int .i64 0, .str [], .nilS, .int .i64 0, .int .i64 0, .str [], .nilS, .int .i64 0, .int .i64 0, .str [], .nilS, .int .i64 0, .int .i64 0, .str [], .nilS, .int .i64 0, .int .i64 0, .str [], .nilS, .int .i64 0, .int .i64 0, .str [], .nilS, .int .i64 0, .int .i64 0, .str [], .nilS, .int .i64 0, .int .i64 0, .str [], .nilS, .int .i64 0, .int .i64 0, .str [], .nilS, .int .i64 0, .int .i64 0, .str [], .nilS, .int .i64 0, .int .i64 0, .str [], .nilS, .int .i64 0, .int .i64 0, .str [], .nilS, .int .i64 0, .int .i64 0, .str [], .nilS, .int .i64 0, .int .i64 0, .str [], .nilS, .int .i64 0, .int .i64 0, .str [], .nilS, .int .i64 0, .int .i64 0, .str [], .nilS, .int .i64 0, .int .i64 0, .str [], .nilS, .int .i64 0, .int .i64 0, .str [], .nilS, .int .i64 0, .int .i64 0, .str [], .nilS, .int .i64 0, .int .i64 0, .str [], .nilS, .int .i64 0, .int .i64 0, .str [], .nilS, .int .i64 0, .int .i64 0, .str [], .nilS, .int .i64 0, .int .i64 0, .str [], .nilS, .int .i64 0, .int .i64 0, .str [], .nilS, .int .i64 0, .int .i64 0, .str [], .nilS, .int .i64 0, .int .i64 0, .str [], .nilS, .int .i64 0, .int .i64 0, .str [], .nilS, .int .i64 0, .int .i64 0, .str [], .nilS, .int .i64 0, .int .i64 0, .str [], .nilS, .int .i64 0, .int .i64 0, .str [], .nilS, .int .i64 0, .int .i64 0, .str [], .nilS, .int .i64 0, .int .i64 0, .str [], .nilS, .int .i64 0, .int .i64 0, .str [], .nilS, .int .i64 0, .int .i64 0, .str [], .nilS, .int .i64 0, .int .i64 0, .str [], .nilS, .int .i64 0, .int .i64 0, .str [], .nilS, .int .i64 0, .int .i64 0, .str [], .nilS, .int .i64 0, .int .i64 0, .str [], .nilS, .int .i64 0, .int .i64 0, .str [], .nilS, .int .i64 0, .int .i64 0, .str [], .nilS, .int .i64 0, .int .i64 0, .str [], .nilS, .int .i64 0, .int .i64 0, .str [], .nilS, .int .i64 0, .int .i64 0, .str [], .nilS, .int .i64 0, .int .i64 0, .str [], .nilS, .int .i64 0, .int .i64 0, .str [], .nilS, .int .i64 0, .int .i64 0, .str [], .nilS, .int .i64 0, .int .i64 0, .str [], .nilS, .int .i64 0, .int .i64 0, .str [], .nilS, .int .i64 0, .int .i64 0, .str [], .nilS, .int .i64 0, .int .i64 0, .str [], .nilS, .int .i64 0, .int .i64 0, .str [], .nilS, .int .i64 0, .int .i64 0, .str [], .nilS, .int .i64 0, .int .i64 0, .str [], .nilS, .int .i64 0, .int .i64 0, .str [], .nilS, .int .i64 0, .int .i64 0, .str [], .nilS, .int .i64 0, .int .i64 0, .str [], .nilS, .int .i64 0, .int .i64 0, .str [], .nilS, .int .i64 0, .int .i64 0, .str [], .nilS, .int .i64 0, .int .i64 0, .str [], .nilS, .int .i64 0, .int .i64 0, .str [], .nilS, .int .i64 0, .int .i64 0, .str [], .nilS, .int .i64 0, .int .i64 0, .str [], .nilS, .int .i64 0, .int .i64 0, .str [], .nilS, .int .i64 0, .int .i64 0, .str [], .nilS, .int .i64 0, .int .i64 0, .str [], .nilS, .int .i64 0, .int .i64 0, .str [], .nilS, .int .i64 0, .int .i64 0, .str [], .nilS, .int .i64 0, .int .i64 0, .str [], .nilS, .int .i64 0, .int .i64 0, .str [], .nilS, .int .i64 0, .int .i64 0, .str [], .nilS, .int .i64 0, .int .i64 0, .str [], .nilS, .int .i64 0, .int .i64 0, .str [], .nilS, .int .i64 0, .int .i64 0, .str [], .nilS, .int .i64 0, .int .i64 0, .str [], .nilS, .int .i64 0, .int .i64 0, .str [], .nilS, .int .i64 0, .int .i64 0, .str [], .nilS, .int .i64 0, .int .i64 0, .str [], .nilS, .int .i64 0, .int .i64 0, .str [], .nilS] }) (.node 184 ({ d := .ptr 4, sz := 1, bytes := 8, zero := [.nilP] }) (.node 166 ({ d := .func, sz := 1, bytes := 8, zero := [.nilF] }) (.node 156 ({ d := .func, sz := 1, bytes := 8, zero := [.nilF] }) (.node 152 ({ d := .func, sz := 1, bytes := 8, zero := [.nilF] }) (.node 150 ({ d := .struct [(0, 4), (1, 4), (2, 4), (3, 24), (7, 82)], sz := 9, bytes := 96, zero := [.bool false, .bool false, .bool false, .int .i64 0, .int .i64 0, .str [], .nilS, .int .i64 0, .nilS] }) (.node 149 ({ d := .func, sz := 1, bytes := 8, zero := [.nilF] }) (.node 148 ({ d := .func, sz := 1, bytes := 8, zero := [.nilF] }) .leaf .leaf) .leaf) (.node 151 ({ d := .struct [(0, 4), (1, 4), (2, 4), (3, 24), (7, 82)], sz := 9, bytes := 96, zero := [.bool false, .bool false, .bool false, .int .i64 0, .int .i64 0, .str [], .nilS, .int .i64 0, .nilS] }) .leaf .leaf)) (.node 154 ({ d := .func, sz := 1, bytes := 8, zero := [.nilF] }) (.node 153 ({ d := .func, sz := 1, bytes := 8, zero := [.nilF] }) .leaf .leaf) (.node 155 ({ d := .func, sz := 1, bytes := 8, zero := [.nilF] }) .leaf .leaf))) (.node 161 ({ d := .func, sz := 1, bytes := 8, zero := [.nilF] }) (.node 158 ({ d := .func, sz := 1, bytes := 8, zero := [.nilF] }) (.node 157 ({ d := .func, sz := 1, bytes := 8, zero := [.nilF] }) .leaf .leaf) (.node 160 ({ d := .func, sz := 1, bytes := 8, zero := [.nilF] }) .leaf .leaf)) (.node 163 ({ d := .func, sz := 1, bytes := 8, zero := [.nilF] }) (.node 162 ({ d := .func, sz := 1, bytes := 8, zero := [.nilF] }) .leaf .leaf) (.node 165 ({ d := .func, sz := 1, bytes := 8, zero := [.nilF] }) .leaf .leaf)))) (.node 174 ({ d := .func, sz := 1, bytes := 8, zero := [.nilF] }) (.node 170 ({ d := .func, sz := 1, bytes := 8, zero := [.nilF] }) (.node 168 ({ d := .func, sz := 1, bytes := 8, zero := [.nilF] }) (.node 167 ({ d := .slice 5, sz := 1, bytes := 24, zero := [.nilS] }) .leaf .leaf) (.node 169 ({ d := .func, sz := 1, bytes := 8, zero := [.nilF] }) .leaf .leaf)) (.node 172 ({ d := .func, sz := 1, bytes := 8, zero := [.nilF] }) (.node 171 ({ d := .func, sz := 1, bytes := 8, zero := [.nilF] }) .leaf .leaf) (.node 173 ({ d := .func, sz := 1, bytes := 8, zero := [.nilF] }) .leaf .leaf))) (.node 179 ({ d := .func, sz := 1, bytes := 8, zero := [.nilF] }) (.node 176 ({ d := .func, sz := 1, bytes := 8, zero := [.nilF] }) (.node 175 ({ d := .func, sz := 1, bytes := 8, zero := [.nilF] }) .leaf .leaf) (.node 177 ({ d := .func, sz := 1, bytes := 8, zero := [.nilF] }) .leaf .leaf)) (.node 182 ({ d := .func, sz := 1, bytes := 8, zero := [.nilF] }) (.node 181 ({ d := .func, sz := 1, bytes := 8, zero := [.nilF] }) .leaf .leaf) (.node 183 ({ d := .func, sz := 1, bytes := 8, zero := [.nilF] }) .leaf .leaf))))) (.node 201 ({ d := .func, sz := 1, bytes := 8, zero := [.nilF] }) (.node 193 ({ d := .func, sz := 1, bytes := 8, zero := [.nilF] }) (.node 189 ({ d := .func, sz := 1, bytes := 8, zero := [.nilF] }) (.node 187 ({ d := .func, sz := 1, bytes := 8, zero := [.nilF] }) (.node 185 ({ d := .func, sz := 1, bytes := 8, zero := [.nilF] }) .leaf .leaf) (.node 188 ({ d := .func, sz := 1, bytes := 8, zero := [.nilF] }) .leaf .leaf)) (.node 191 ({ d := .func, sz := 1, bytes := 8, zero := [.nilF] }) (.node 190 ({ d := .func, sz := 1, bytes := 8, zero := [.nilF] }) .leaf .leaf) (.node 192 ({ d := .func, sz := 1, bytes := 8, zero := [.nilF] }) .leaf .leaf))) (.node 197 ({ d := .func, sz := 1, bytes := 8, zero := [.nilF] }) (.node 195 ({ d := .func, sz := 1, bytes := 8, zero := [.nilF] }) (.node 194 ({ d := .func, sz := 1, bytes := 8, zero := [.nilF] }) .leaf .leaf) (.node 196 ({ d := .func, sz := 1, bytes := 8, zero := [.nilF] }) .leaf .leaf)) (.node 199 ({ d := .func, sz := 1, bytes := 8, zero := [.nilF] }) (.node 198 ({ d := .func, sz := 1, bytes := 8, zero := [.nilF] }) .leaf .leaf) (.node 200 ({ d := .func, sz := 1, bytes := 8, zero := [.nilF] }) .leaf .leaf)))) (.node 209 ({ d := .slice 208, sz := 1, bytes := 24, zero := [.nilS] }) (.node 205 ({ d := .func, sz := 1, bytes := 8, zero := [.nilF] }) (.node 203 ({ d := .int .u64, sz := 1, bytes := 8, zero := [.int .u64 0] }) (.node 202 ({ d := .func, sz := 1, bytes := 8, zero := [.nilF] }) .leaf .leaf) (.node 204 ({ d := .func, sz := 1, bytes := 8, zero := [.nilF] }) .leaf .leaf)) (.node 207 ({ d := .struct [(0, 24), (4, 24)], sz := 8, bytes := 112, zero := [.int .i64 0, .int .i64 0, .str [], .nilS, .int .i64 0, .int .i64 0, .str [], .nilS] }) (.node 206 ({ d := .func, sz := 1, bytes := 8, zero := [.nilF] }) .leaf .leaf) (.node 208 ({ d := .struct [(0, 24), (4, 24)], sz := 8, bytes := 112, zero := [.int .i64 0, .int .i64 0, .str [], .nilS, .int .i64 0, .int .i64 0, .str [], .nilS] }) .leaf .leaf))) (.node 213 ({ d := .int .u64, sz := 1, bytes := 8, zero := [.int .u64 0] }) (.node 211 ({ d := .ptr 218, sz := 1, bytes := 8, zero := [.nilP] }) (.node 210 ({ d := .func, sz := 1, bytes := 8, zero := [.nilF] }) .leaf .leaf) (.node 212 ({ d := .func, sz := 1, bytes := 8, zero := [.nilF] }) .leaf .leaf)) (.node 215 ({ d := .struct [(0, 213), (1, 213)], sz := 2, bytes := 16, zero := [.int .u64 0, .int .u64 0] }) (.node 214 ({ d := .struct [(0, 213), (1, 213)], sz := 2, bytes := 16, zero := [.int .u64 0, .int .u64 0] }) .leaf .leaf) (.node 216 ({ d := .array 100 24, sz := 400, bytes := 5600, zero := [.int .i64 0, .int .i64 0, .str [], .nilS, .int .i64 0, .int .i64 0, .str [], .nilS, .int .i64 0, .int .i64 0, .str [], .nilS, .int .i64 0, .int .i64 0, .str [], .nilS, .int .i64 0, .int .i64 0, .str [], .nilS, .int .i64 0, .int .i64 0, .str [], .nilS, .int .i64 0, .int .i64 0, .str [], .nilS, .int .i64 0, .int .i64 0, .str [], .nilS, .int .i64 0, .int .i64 0, .str [], .nilS, .int .i64 0, .int .i64 0, .str [], .nilS, .int .i64 0, .int .i64 0, .str [], .nilS, .int .i64 0, .int .i64 0, .str [], .nilS, .int .i64 0, .int .i64 0, .str [], .nilS, .int .i64 0, .int .i64 0, .str [], .nilS, .int .i64 0, .int .i64 0, .str [], .nilS, .int .i64 0, .int .i64 0, .str [], .nilS, .int .i64 0, .int .i64 0, .str [], .nilS, .int .i64 0, .int .i64 0, .str [], .nilS, .int .i64 0, .int .i64 0, .str [], .nilS, .int .i64 0, .int .i64 0, .str [], .nilS, .int .i64 0, .int .i64 0, .str [], .nilS, .int .i64 0, .int .i64 0, .str [], .nilS, .int .i64 0, .int .i64 0, .str [], .nilS, .int .i64 0, .int .i64 0, .str [], .nilS, .int .i64 0, .int .i64 0, .str [], .nilS, .int .i64 0, .int .i64 0, .str [], .nilS, .int .i64 0, .int .i64 0, .str [], .nilS, .int .i64 0, .int .i64 0, .str [], .nilS, .int .i64 0, .int .i64 0, .str [], .nilS, .int .i64 0, .int .i64 0, .str [], .nilS, .int .i64 0, .int .i64 0, .str [], .nilS, .int .i64 0, .int .i64 0, .str [], .nilS, .int .i64 0, .int .i64 0, .str [], .nilS, .int .i64 0, .int .i64 0, .str [], .nilS, .int .i64 0, .int .i64 0, .str [], .nilS, .int .i64 0, .int .i64 0, .str [], .nilS, .int .i64 0, .int .i64 0, .str [], .nilS, .int .i64 0, .int .i64 0, .str [], .nilS, .int .i64 0, .int .i64 0, .str [], .nilS, .int .i64 0, .int .i64 0, .str [], .nilS, .int .i64 0, .int .i64 0, .str [], .nilS, .int .i64 0, .int .i64 0, .str [], .nilS, .int .i64 0, .int .i64 0, .str [], .nilS, .int .i64 0, .int .i64 0, .str [], .nilS, .int .i64 0, .int .i64 0, .str [], .nilS, .int .i64 0, .int .i64 0, .str [], .nilS, .int .i64 0, .int .i64 0, .str [], .nilS, .int .i64 0, .int .i64 0, .str [], .nilS, .int .i64 0, .int .i64 0, .str [], .nilS, .int .i64 0, .int .i64 0, .str [], .nilS, .int .i64 0, .int .i64 0, .str [], .nilS, .int .i64 0, .int .i64 0, .str [], .nilS, .int .i64 0, .int .i64 0, .str [], .nilS, .int .i64 0, .int .i64 0, .str [], .nilS, .int .i64 0, .int .i64 0, .str [], .nilS, .int .i64 0, .int .i64 0, .str [], .nilS, .int .i64 0, .int .i64 0, .str [], .nilS, .int .i64 0, .int .i64 0, .str [], .nilS, .int .i64 0, .int .i64 0, .str [], .nilS, .int .i64 0, .int .i64 0, .str [], .nilS, .int .i64 0, .int .i64 0, .str [], .nilS, .int .i64 0, .int .i64 0, .str [], .nilS, .int .i64 0, .int .i64 0, .str [], .nilS, .int .i64 0, .int .i64 0, .str [], .nilS, .int .i64 0, .int .i64 0, .str [], .nilS, .int .i64 0, .int .i64 0, .str [], .nilS, .int .i64 0, .int .i64 0, .str [], .nilS, .int .i64 0, .int .i64 0, .str [], .nilS, .int .i64 0, .int .i64 0, .str [], .nilS, .int .i64 0, .int .i64 0, .str [], .nilS, .int .i64 0, .int .i64 0, .str [], .nilS, .int .i64 0, .int .i64 0, .str [], .nilS, .int .i64 0, .int .i64 0, .str [], .nilS, .int .i64 0, .int .i64 0, .str [], .nilS, .int .i64 0, .int .i64 0, .str [], .nilS, .int .i64 0, .int .i64 0, .str [], .nilS, .int .i64 0, .int .i64 0, .str [], .nilS, .int .i64 0, .int .i64 0, .str [], .nilS, .int .i64 0, .int .i64 0, .str [], .nilS, .int .i64 0, .int .i64 0, .str [], .nilS, .int .i64 0, .int .i64 0, .str [], .nilS, .int .i64 0, .int .i64 0, .str [], .nilS, .int .i64 0, .int .i64 0, .str [], .nilS, .int .i64 0, .int .i64 0, .str [], .nilS, .int .i64 0, .int .i64 0, .str [], .nilS, .int .i64 0, .int .i64 0, .str [], .nilS, .int .i64 0, .int .i64 0, .str [], .nilS, .int .i64 0, .int .i64 0, .str [], .nilS, .int .i64 0, .int .i64 0, .str [], .nilS, .int .i64 0, .int .i64 0, .str [], .nilS, .int .i64 0, .int .i64 0, .str [], .nilS, .int .i64 0, .int .i64 0, .str [], .nilS, .int .i64 0, .int .i64 0, .str [], .nilS, .int .i64 0, .int .i64 0, .str [], .nilS, .int .i64 0, .int .i64 0, .str [], .nilS, .int .i64 0, .int .i64 0, .str [], .nilS, .int .i64 0, .int .i64 0, .str [], .nilS, .int .i64 0, .int .i64 0, .str [], .nilS, .int .i64 0, .int .i64 0, .str [], .nilS, .int .i64 0, .int .i64 0, .str [], .nilS] }) .leaf .leaf)))))) (.node 252 ({ d := .ptr 24, sz := 1, bytes := 8, zero := [.nilP] }) (.node 235 ({ d := .func, sz := 1, bytes := 8, zero := [.nilF] }) (.node 227 ({ d := .func, sz := 1, bytes := 8, zero := [.nilF] }) (.node 223 ({ d := .func, sz := 1, bytes := 8, zero := [.nilF] }) (.node 221 ({ d := .func, sz := 1, bytes := 8, zero := [.nilF] }) (.node 220 ({ d := .func, sz := 1, bytes := 8, zero := [.nilF] }) (.node 218 ({ d := .struct [(0, 215), (2, 216)], sz := 402, bytes := 5616, zero := [.int .u64 0, .int .u64 0, .int .i64 0, .int .i64 0, .str [], .nilS, .int .i64 0, .int .i64 0, .str [], .nilS, .int .i64 0, .int .i64 0, .str [], .nilS, .int .i64 0, .int .i64 0, .str [], .nilS, .int .i64 0, .int .i64 0, .str [], .nilS, .int .i64 0, .int .i64 0, .str [], .nilS, .int .i64 0, .int .i64 0, .str [], .nilS, .int .i64 0, .int .i64 0, .str [], .nilS, .int .i64 0, .int .i64 0, .str [], .nilS, .int .i64 0, .int .i64 0, .str [], .nilS, .int .i64 0, .int .i64 0, .str [], .nilS, .int .i64 0, .int .i64 0, .str [], .nilS, .int .i64 0, .int .i64 0, .str [], .nilS, .int .i64 0, .int .i64 0, .str [], .nilS, .int .i64 0, .int .i64 0, .str [], .nilS, .int .i64 0, .int .i64 0, .str [], .nilS, .int .i64 0, .int .i64 0, .str [], .nilS, .int .i64 0, .int .i64 0, .str [], .nilS, .int .i64 0, .int .i64 0, .str [], .nilS, .int .i64 0, .int .i64 0, .str [], .nilS, .int .i64 0, .int .i64 0, .str [], .nilS, .int .i64 0, .int .i64 0, .str [], .nilS, .int .i64 0, .int .i64 0, .str [], .nilS, .int .i64 0, .int .i64 0, .str [], .nilS, .int .i64 0, .int .i64 0, .str [], .nilS, .int .i64 0, .int .i64 0, .str [], .nilS, .int .i64 0, .int .i64 0, .str [], .nilS, .int .i64 0, .int .i64 0, .str [], .nilS, .int .i64 0, .int .i64 0, .str [], .nilS, .int .i64 0, .int .i64 0, .str [], .nilS, .int .i64 0, .int .i64 0, .str [], .nilS, .int .i64 0, .int .i64 0, .str [], .nilS, .int .i64 0, .int .i64 0, .str [], .nilS, .int .i64 0, .int .i64 0, .str [], .nilS, .int .i64 0, .int .i64 0, .str [], .nilS, .int .i64 0, .int .i64 0, .str [], .nilS, .int .i64 0, .int .i64 0, .str [], .nilS, .int .i64 0, .int .i64 0, .str [], .nilS, .int .i64 0, .int .i64 0, .str [], .nilS, .int .i64 0, .int .i64 0, .str [], .nilS, .int .i64 0, .int .i64 0, .str [], .nilS, .int .i64 0, .int .i64 0, .str [], .nilS, .int .i64 0, .int .i64 0, .str [], .nilS, .int .i64 0, .int .i64 0, .str [], .nilS, .int .i64 0, .int .i64 0, .str [], .nilS, .int .i64 0, .int .i64 0, .str [], .nilS, .int .i64 0, .int .i64 0, .str [], .nilS, .int .i64 0, .int .i64 0, .str [], .nilS, .int .i64 0, .int .i64 0, .str [], .nilS, .int .i64 0, .int .i64 0, .str [], .nilS, .int .i64 0, .int .i64 0, .str [], .nilS, .int .i64 0, .int .i64 0, .str [], .nilS, .int .i64 0, .int .i64 0, .str [], .nilS, .int .i64 0, .int .i64 0, .str [], .nilS, .int .i64 0, .int .i64 0, .str [], .nilS, .int .i64 0, .int .i64 0, .str [], .nilS, .int .i64 0, .int .i64 0, .str [], .nilS, .int .i64 0, .int .i64 0, .str [], .nilS, .int .i64 0, .int .i64 0, .str [], .nilS, .int .i64 0, .int .i64 0, .str [], .nilS, .int .i64 0, .int .i64 0, .str [], .nilS, .int .i64 0, .int .i64 0, .str [], .nilS, .int .i64 0, .int .i64 0, .str [], .nilS, .int .i64 0, .int .i64 0, .str [], .nilS, .int .i64 0, .int .i64 0, .str [], .nilS, .int .i64 0, .int .i64 0, .str [], .nilS, .int .i64 0, .int .i64 0, .str [], .nilS, .int .i64 0, .int .i64 0, .str [], .nilS, .int .i64 0, .int .i64 0, .str [], .nilS, .int .i64 0, .int .i64 0, .str [], .nilS, .int .i64 0, .int .i64 0, .str [], .nilS, .int .i64 0, .int .i64 0, .str [], .nilS, .int .i64 0, .int .i64 0, .str [], .nilS, .int .i64 0, .int .i64 0, .str [], .nilS, .int .i64 0, .int .i64 0, .str [], .nilS, .int .i64 0, .int .i64 0, .str [], .nilS, .int .i64 0, .int .i64 0, .str [], .nilS, .int .i64 0, .int .i64 0, .str [], .nilS, .int .i64 0, .int .i64 0, .str [], .nilS, .int .i64 0, .int .i64 0, .str [], .nilS, .int .i64 0, .int .i64 0, .str [], .nilS, .int .i64 0, .int .i64 0, .str [], .nilS, .int .i64 0, .int .i64 0, .str [], .nilS, .int .i64 0, .int .i64 0, .str [], .nilS, .int .i64 0, .int .i64 0, .str [], .nilS, .int .i64 0, .int .i64 0, .str [], .nilS, .int .i64 0, .int .i64 0, .str [], .nilS, .int .i64 0, .int .i64 0, .str [], .nilS, .int .i64 0, .int .i64 0, .str [], .nilS, .int .i64 0, .int .i64 0, .str [], .nilS, .int .i64 0, .int .i64 0, .str [], .nilS, .int .i64 0, .int .i64 0, .str [], .nilS, .int .i64 0, .int .i64 0, .str [], .nilS, .int .i64 0, .int .i64 0, .str [], .nilS, .int .i64 0, .int .i64 0, .str [], .nilS, .int .i64 0, .int .i64 0, .str [], .nilS, .int .i64 0, .int .i64 0, .str [], .nilS, .int .i64 0, .int .i64 0, .str [], .nilS, .int .i64 0, .int .i64 0, .str [], .nilS, .int .i64 0, .int .i64 0, .str [], .nilS] }) .leaf .leaf) .leaf) (.node 222 ({ d := .func, sz := 1, bytes := 8, zero := [.nilF] }) .leaf .leaf)) (.node 225 ({ d := .func, sz := 1, bytes := 8, zero := [.nilF] }) (.node 224 ({ d := .func, sz := 1, bytes := 8, zero := [.nilF] }) .leaf .leaf) (.node 226 ({ d := .func, sz := 1, bytes := 8, zero := [.nilF] }) .leaf .leaf))) (.node 231 ({ d := .func, sz := 1, bytes := 8, zero := [.nilF] }) (.node 229 ({ d := .array 2 22, sz := 2, bytes := 48, zero := [.nilS, .nilS] }) (.node 228 ({ d := .func, sz := 1, bytes := 8, zero := [.nilF] }) .leaf .leaf) (.node 230 ({ d := .func, sz := 1, bytes := 8, zero := [.nilF] }) .leaf .leaf)) (.node 233 ({ d := .func, sz := 1, bytes := 8, zero := [.nilF] }) (.node 232 ({ d := .func, sz := 1, bytes := 8, zero := [.nilF] }) .leaf .leaf) (.node 234 ({ d := .map 3 4, sz := 1, bytes := 8, zero := [.nilM] }) .leaf .leaf)))) (.node 244 ({ d := .func, sz := 1, bytes := 8, zero := [.nilF] }) (.node 239 ({ d := .int .i64, sz := 1, bytes := 8, zero := [.int .i64 0] }) (.node 237 ({ d := .func, sz := 1, bytes := 8, zero := [.nilF] }) (.node 236 ({ d := .func, sz := 1, bytes := 8, zero := [.nilF] }) .leaf .leaf) (.node 238 ({ d := .func, sz := 1, bytes := 8, zero := [.nilF] }) .leaf .leaf)) (.node 242 ({ d := .func, sz := 1, bytes := 8, zero := [.nilF] }) (.node 241 ({ d := .func, sz := 1, bytes := 8, zero := [.nilF] }) .leaf .leaf) (.node 243 ({ d := .func, sz := 1, bytes := 8, zero := [.nilF] }) .leaf .leaf))) (.node 248 ({ d := .func, sz := 1, bytes := 8, zero := [.nilF] }) (.node 246 ({ d := .int .u32, sz := 1, bytes := 4, zero := [.int .u32 0] }) (.node 245 ({ d := .func, sz := 1, bytes := 8, zero := [.nilF] }) .leaf .leaf) (.node 247 ({ d := .func, sz := 1, bytes := 8, zero := [.nilF] }) .leaf .leaf)) (.node 250 ({ d := .ptr 215, sz := 1, bytes := 8, zero := [.nilP] }) (.node 249 ({ d := .func, sz := 1, bytes := 8, zero := [.nilF] }) .leaf .leaf) (.node 251 ({ d := .func, sz := 1, bytes := 8, zero := [.nilF] }) .leaf .leaf))))) (.node 269 ({ d := .func, sz := 1, bytes := 8, zero := [.nilF] }) (.node 260 ({ d := .func, sz := 1, bytes := 8, zero := [.nilF] }) (.node 256 ({ d := .func, sz := 1, bytes := 8, zero := [.nilF] }) (.node 254 ({ d := .func, sz := 1, bytes := 8, zero := [.nilF] }) (.node 253 ({ d := .func, sz := 1, bytes := 8, zero := [.nilF] }) .leaf .leaf) (.node 255 ({ d := .func, sz := 1, bytes := 8, zero := [.nilF] }) .leaf .leaf)) (.node 258 ({ d := .int .u64, sz := 1, bytes := 8, zero := [.int .u64 0] }) (.node 257 ({ d := .func, sz := 1, bytes := 8, zero := [.nilF] }) .leaf .leaf) (.node 259 ({ d := .func, sz := 1, bytes := 8, zero := [.nilF] }) .leaf .leaf))) (.node 264 ({ d := .func, sz := 1, bytes := 8, zero := [.nilF] }) (.node 262 ({ d := .ptr 3, sz := 1, bytes := 8, zero := [.nilP] }) (.node 261 ({ d := .func, sz := 1, bytes := 8, zero := [.nilF] }) .leaf .leaf) (.node 263 ({ d := .func, sz := 1, bytes := 8, zero := [.nilF] }) .leaf .leaf)) (.node 267 ({ d := .func, sz := 1, bytes := 8, zero := [.nilF] }) (.node 265 ({ d := .func, sz := 1, bytes := 8, zero := [.nilF] }) .leaf .leaf) (.node 268 ({ d := .func, sz := 1, bytes := 8, zero := [.nilF] }) .leaf .leaf)))) (.node 280 ({ d := .int .u8, sz := 1, bytes := 1, zero := [.int .u8 0] }) (.node 274 ({ d := .struct [(0, 17), (1, 17), (2, 17), (3, 9)], sz := 4, bytes := 40, zero := [.nilP, .nilP, .nilP, .str []] }) (.node 272 ({ d := .func, sz := 1, bytes := 8, zero := [.nilF] }) (.node 270 ({ d := .ptr 258, sz := 1, bytes := 8, zero := [.nilP] }) .leaf .leaf) (.node 273 ({ d := .func, sz := 1, bytes := 8, zero := [.nilF] }) .leaf .leaf)) (.node 277 ({ d := .struct [(0, 276)], sz := 0, bytes := 0, zero := [] }) (.node 276 ({ d := .array 0 16, sz := 0, bytes := 0, zero := [] }) .leaf .leaf) (.node 279 ({ d := .func, sz := 1, bytes := 8, zero := [.nilF] }) .leaf .leaf))) (.node 284 ({ d := .int .i32, sz := 1, bytes := 4, zero := [.int .i32 0] }) (.node 282 ({ d := .func, sz := 1, bytes := 8, zero := [.nilF] }) (.node 281 ({ d := .int .u8, sz := 1, bytes := 1, zero := [.int .u8 0] }) .leaf .leaf) (.node 283 ({ d := .ptr 5, sz := 1, bytes := 8, zero := [.nilP] }) .leaf .leaf)) (.node 286 ({ d := .struct [(0, 12), (1, 12), (2, 246), (3, 280), (4, 5), (5, 5), (6, 281), (7, 282), (8, 283), (9, 284), (10, 285)], sz := 11, bytes := 48, zero := [.int .u64 0, .int .u64 0, .int .u32 0, .int .u8 0, .int .u8 0, .int .u8 0, .int .u8 0, .nilF, .nilP, .int .i32 0, .int .i32 0] }) (.node 285 ({ d := .int .i32, sz := 1, bytes := 4, zero := [.int .i32 0] }) .leaf .leaf) (.node 287 ({ d := .struct [(0, 12), (1, 12), (2, 246), (3, 280), (4, 5), (5, 5), (6, 281), (7, 282), (8, 283), (9, 284), (10, 285)], sz := 11, bytes := 48, zero := [.int .u64 0, .int .u64 0, .int .u32 0, .int .u8 0, .int .u8 0, .int .u8 0, .int .u8 0, .nilF, .nilP, .int .i32 0, .int .i32 0] }) .leaf .leaf)))))))
def modeTab : BT CMode := .node 152 (.scal) (.node 76 (.pfrz) (.node 36 (.scal) (.node 22 (.scal) (.node 14 (.scal) (.node 6 (.scal) (.node 4 (.scal) (.node 3 (.scal) .leaf .leaf) (.node 5 (.scal) .leaf .leaf)) (.node 11 (.scal) (.node 10 (.scal) .leaf .leaf) (.node 13 (.scal) .leaf .leaf))) (.node 18 (.pfrz) (.node 16 (.pfrz) (.node 15 (.pfrz) .leaf .leaf) (.node 17 (.pfrz) .leaf .leaf)) (.node 21 (.scal) (.node 19 (.scal) .leaf .leaf) .leaf))) (.node 29 (.pfrz) (.node 26 (.scal) (.node 24 (.pfrz) (.node 23 (.pown) .leaf .leaf) (.node 25 (.pfrz) .leaf .leaf)) (.node 28 (.pfrz) (.node 27 (.scal) .leaf .leaf) .leaf)) (.node 33 (.pfrz) (.node 31 (.scal) (.node 30 (.scal) .leaf .leaf) (.node 32 (.scal) .leaf .leaf)) (.node 35 (.scal) (.node 34 (.pfrz) .leaf .leaf) .leaf)))) (.node 62 (.pfrz) (.node 54 (.pfrz) (.node 41 (.scal) (.node 38 (.scal) (.node 37 (.scal) .leaf .leaf) (.node 39 (.scal) .leaf .leaf)) (.node 53 (.slf) (.node 47 (.pown) .leaf .leaf) .leaf)) (.node 59 (.scal) (.node 56 (.pfrz) (.node 55 (.scal) .leaf .leaf) (.node 58 (.scal) .leaf .leaf)) (.node 61 (.pfrz) (.node 60 (.scal) .leaf .leaf) .leaf))) (.node 69 (.scal) (.node 66 (.scal) (.node 64 (.scal) (.node 63 (.pfrz) .leaf .leaf) (.node 65 (.scal) .leaf .leaf)) (.node 68 (.pfrz) (.node 67 (.scal) .leaf .leaf) .leaf)) (.node 73 (.scal) (.node 71 (.pfrz) (.node 70 (.inpf) .leaf .leaf) (.node 72 (.scal) .leaf .leaf)) (.node 75 (.pfrz) (.node 74 (.pfrz) .leaf .leaf) .leaf))))) (.node 105 (.pfrz) (.node 91 (.scal) (.node 84 (.pfrz) (.node 80 (.pfrz) (.node 78 (.scal) (.node 77 (.scal) .leaf .leaf) (.node 79 (.pfrz) .leaf .leaf)) (.node 82 (.pfrz) (.node 81 (.pfrz) .leaf .leaf) (.node 83 (.scal) .leaf .leaf))) (.node 88 (.scal) (.node 86 (.scal) (.node 85 (.pfrz) .leaf .leaf) (.node 87 (.pfrz) .leaf .leaf)) (.node 90 (.scal) (.node 89 (.pfrz) .leaf .leaf) .leaf))) (.node 98 (.scal) (.node 95 (.scal) (.node 93 (.scal) (.node 92 (.inpf) .leaf .leaf) (.node 94 (.scal) .leaf .leaf)) (.node 97 (.pfrz) (.node 96 (.pfrz) .leaf .leaf) .leaf)) (.node 102 (.scal) (.node 100 (.pfrz) (.node 99 (.pown) .leaf .leaf) (.node 101 (.pfrz) .leaf .leaf)) (.node 104 (.pfrz) (.node 103 (.pown) .leaf .leaf) .leaf)))) (.node 136 (.scal) (.node 124 (.imp) (.node 121 (.pfrz) (.node 110 (.pfrz) (.node 106 (.scal) .leaf .leaf) (.node 120 (.scal) .leaf .leaf)) (.node 123 (.scal) (.node 122 (.pfrz) .leaf .leaf) .leaf)) (.node 132 (.scal) (.node 128 (.imp) (.node 126 (.pown) .leaf .leaf) (.node 130 (.imp) .leaf .leaf)) (.node 135 (.inpl) (.node 134 (.scal) .leaf .leaf) .leaf))) (.node 145 (.scal) (.node 142 (.scal) (.node 140 (.pfrz) (.node 137 (.pfrz) .leaf .leaf) (.node 141 (.pfrz) .leaf .leaf)) (.node 144 (.scal) (.node 143 (.imp) .leaf .leaf) .leaf)) (.node 149 (.scal) (.node 147 (.scal) (.node 146 (.scal) .leaf .leaf) (.node 148 (.scal) .leaf .leaf)) (.node 151 (.scal) (.node 150 (.scal) .leaf .leaf) .leaf)))))) (.node 233 (.inpf) (.node 182 (.pfrz) (.node 167 (.pfrz) (.node 160 (.scal) (.node 156 (.inpf) (.node 154 (.pfrz) (.node 153 (.scal) .leaf .leaf) (.node 155 (.inpf) .leaf .leaf)) (.node 158 (.inpl) (.node 157 (.inpf) .leaf .leaf) (.node 159 (.slf) .leaf .leaf))) (.node 164 (.pfrz) (.node 162 (.scal) (.node 161 (.scal) .leaf .leaf) (.node 163 (.pfrz) .leaf .leaf)) (.node 166 (.pfrz) (.node 165 (.pfrz) .leaf .leaf) .leaf))) (.node 175 (.scal) (.node 172 (.inpf) (.node 170 (.scal) (.node 168 (.scal) .leaf .leaf) (.node 171 (.scal) .leaf .leaf)) (.node 174 (.pfrz) (.node 173 (.inpf) .leaf .leaf) .leaf)) (.node 179 (.pfrz) (.node 177 (.pfrz) (.node 176 (.scal) .leaf .leaf) (.node 178 (.pfrz) .leaf .leaf)) (.node 181 (.pfrz) (.node 180 (.pfrz) .leaf .leaf) .leaf)))) (.node 218 (.scal) (.node 210 (.scal) (.node 187 (.pfrz) (.node 184 (.pfrz) (.node 183 (.scal) .leaf .leaf) (.node 185 (.pfrz) .leaf .leaf)) (.node 208 (.scal) (.node 200 (.pown) .leaf .leaf) .leaf)) (.node 214 (.imp) (.node 212 (.scal) (.node 211 (.inpl) .leaf .leaf) (.node 213 (.scal) .leaf .leaf)) (.node 217 (.scal) (.node 215 (.scal) .leaf .leaf) .leaf))) (.node 225 (.scal) (.node 222 (.scal) (.node 220 (.scal) (.node 219 (.scal) .leaf .leaf) (.node 221 (.scal) .leaf .leaf)) (.node 224 (.scal) (.node 223 (.scal) .leaf .leaf) .leaf)) (.node 229 (.scal) (.node 227 (.scal) (.node 226 (.scal) .leaf .leaf) (.node 228 (.scal) .leaf .leaf)) (.node 232 (.scal) (.node 230 (.scal) .leaf .leaf) .leaf))))) (.node 276 (.scal) (.node 248 (.scal) (.node 241 (.inpl) (.node 237 (.scal) (.node 235 (.scal) (.node 234 (.scal) .leaf .leaf) (.node 236 (.pfrz) .leaf .leaf)) (.node 240 (.inpf) (.node 239 (.pfrz) .leaf .leaf) .leaf)) (.node 245 (.pfrz) (.node 243 (.inpf) (.node 242 (.inpf) .leaf .leaf) (.node 244 (.scal) .leaf .leaf)) (.node 247 (.pfrz) (.node 246 (.scal) .leaf .leaf) .leaf))) (.node 255 (.scal) (.node 252 (.pfrz) (.node 250 (.scal) (.node 249 (.scal) .leaf .leaf) (.node 251 (.pfrz) .leaf .leaf)) (.node 254 (.pfrz) (.node 253 (.scal) .leaf .leaf) .leaf)) (.node 260 (.pfrz) (.node 258 (.scal) (.node 256 (.pfrz) .leaf .leaf) (.node 259 (.pfrz) .leaf .leaf)) (.node 275 (.inpl) (.node 271 (.scal) .leaf .leaf) .leaf)))) (.node 298 (.scal) (.node 290 (.scal) (.node 287 (.scal) (.node 285 (.scal) (.node 277 (.inpl) .leaf .leaf) (.node 286 (.scal) .leaf .leaf)) (.node 289 (.scal) (.node 288 (.pfrz) .leaf .leaf) .leaf)) (.node 295 (.scal) (.node 292 (.pfrz) (.node 291 (.inpl) .leaf .leaf) (.node 294 (.inpf) .leaf .leaf)) (.node 297 (.pfrz) (.node 296 (.pfrz) .leaf .leaf) .leaf))) (.node 310 (.pfrz) (.node 302 (.inpl) (.node 300 (.pfrz) (.node 299 (.pfrz) .leaf .leaf) (.node 301 (.inpl) .leaf .leaf)) (.node 309 (.pfrz) (.node 308 (.scal) .leaf .leaf) .leaf)) (.node 315 (.pfrz) (.node 313 (.inpl) (.node 312 (.scal) .leaf .leaf) (.node 314 (.inpf) .leaf .leaf)) (.node 318 (.inpl) (.node 316 (.inpl) .leaf .leaf) .leaf))))))
def frzTab : BT (BT (List Nat)) := .node 82 (.node 2 ([3, 9]) .leaf .leaf) (.node 56 (.node 25 ([3]) (.node 20 ([9]) .leaf .leaf) .leaf) (.node 32 (.node 3 ([8]) (.node 2 ([4]) .leaf .leaf) .leaf) (.node 22 (.node 1 ([3, 10, 23]) .leaf .leaf) (.node 11 (.node 1 ([5]) .leaf .leaf) .leaf .leaf) .leaf) (.node 54 (.node 8 ([2]) (.node 6 ([12]) .leaf .leaf) .leaf) (.node 46 (.node 6 ([4]) .leaf .leaf) .leaf .leaf) .leaf)) (.node 61 (.node 5 ([15]) (.node 1 ([5]) .leaf .leaf) .leaf) (.node 59 (.node 4 ([3, 6, 8]) (.node 2 ([3, 5]) .leaf .leaf) (.node 5 ([46]) .leaf .leaf)) (.node 57 (.node 19 ([4]) .leaf .leaf) .leaf .leaf) .leaf) (.node 79 (.node 1 ([5]) .leaf .leaf) (.node 75 (.node 12 ([1]) .leaf .leaf) .leaf .leaf) .leaf))) (.node 140 (.node 6 ([1]) (.node 5 ([8, 10]) .leaf .leaf) .leaf) (.node 113 (.node 1 ([3, 7, 9, 11]) .leaf .leaf) (.node 101 (.node 1 ([3, 8, 12]) .leaf .leaf) (.node 84 (.node 5 ([6]) .leaf .leaf) .leaf .leaf) .leaf) (.node 122 (.node 3 ([3]) .leaf .leaf) (.node 115 (.node 1 ([1]) .leaf .leaf) .leaf .leaf) .leaf)) (.node 184 (.node 1 ([6, 8]) .leaf .leaf) (.node 165 (.node 5 ([6]) .leaf .leaf) (.node 156 (.node 7 ([2]) .leaf .leaf) .leaf .leaf) .leaf) (.node 267 (.node 5 ([6]) .leaf .leaf) (.node 189 (.node 21 ([3]) .leaf .leaf) .leaf .leaf) .leaf)))
noncomputable def look2 {α : Type} (a b : Nat) (t : BT (BT α)) : Option α := match t.look a with | some u => u.look b | none => none
noncomputable def frzLook (f r k : Nat) : Bool := match look2 f r frzTab with | some l => hasId k l | none => false

def maskTab : BT (BT (List Tmp × List Tmp)) := .node 156 (.node 3 ([2, 3, 10, 11, 12], [2, 3]) .leaf .leaf) (.node 68 (.node 4 ([1, 4, 5, 9, 10, 11], [1, 2, 3, 4]) .leaf .leaf) (.node 40 (.node 2 ([0, 3], [2]) .leaf .leaf) (.node 24 (.node 4 ([0, 1, 2, 6, 24, 25, 26], [0, 1, 2, 6, 7]) .leaf .leaf) (.node 14 (.node 7 ([0, 3, 6], [0, 3, 4]) (.node 2 ([0, 3, 5], [0, 3, 4]) .leaf .leaf) .leaf) (.node 9 (.node 18 ([3, 4, 6, 12, 13], [3, 6, 12]) .leaf .leaf) (.node 7 (.node 4 ([0, 2, 4, 7], [0, 2, 4, 6]) .leaf .leaf) (.node 6 (.node 9 ([1, 3, 4, 8], [1, 3]) .leaf .leaf) .leaf .leaf) .leaf) (.node 10 (.node 13 ([2, 5, 6, 11], [2, 5]) (.node 9 ([2, 5, 6, 10], [2, 5, 6]) .leaf .leaf) (.node 16 ([2, 5, 6, 11, 12], [2, 5, 6, 11]) .leaf .leaf)) .leaf .leaf)) (.node 20 (.node 2 ([1, 2], []) .leaf .leaf) (.node 16 (.node 3 ([1, 2, 3, 4], [2, 3]) .leaf .leaf) .leaf .leaf) (.node 23 (.node 3 ([0, 3, 4], [3]) .leaf .leaf) .leaf .leaf))) (.node 31 (.node 6 ([2, 4, 9, 11], [6, 7]) .leaf .leaf) (.node 27 (.node 2 ([0, 3], [2]) .leaf .leaf) (.node 26 (.node 4 ([0, 1, 5], [4]) .leaf .leaf) (.node 25 (.node 4 ([0, 1, 2, 6, 8], [0, 1, 2, 6, 7]) .leaf .leaf) .leaf .leaf) .leaf) (.node 29 (.node 6 ([2, 4, 6, 10, 12], [6, 7, 8]) .leaf .leaf) .leaf .leaf)) (.node 34 (.node 6 ([5, 7], [5]) .leaf .leaf) (.node 33 (.node 5 ([4, 16, 17, 18], [4]) .leaf .leaf) .leaf .leaf) (.node 35 (.node 4 ([0, 1, 5], [4]) .leaf .leaf) .leaf .leaf)))) (.node 54 (.node 4 ([2, 4, 5, 11, 12, 13], [2, 4, 5]) .leaf .leaf) (.node 47 (.node 4 ([0, 3, 4], [0, 3]) .leaf .leaf) (.node 44 (.node 7 ([0, 6, 10, 11, 12], [6, 7, 8, 9, 11]) .leaf .leaf) (.node 43 (.node 6 ([0, 6, 10, 11, 12], [6, 7, 8, 9, 11]) .leaf .leaf) (.node 42 (.node 3 ([0, 3, 4], [3]) .leaf .leaf) .leaf .leaf) .leaf) (.node 45 (.node 4 ([0, 1, 5], [4]) .leaf .leaf) .leaf .leaf)) (.node 49 (.node 6 ([4, 6, 7], [6]) .leaf .leaf) (.node 48 (.node 6 ([6, 19, 20, 21], [6]) .leaf .leaf) .leaf .leaf) (.node 52 (.node 1 ([0, 2], []) .leaf .leaf) .leaf .leaf))) (.node 60 (.node 11 ([3, 5], [2]) (.node 5 ([1, 3, 4], [2, 3]) .leaf .leaf) .leaf) (.node 57 (.node 9 ([1, 4, 6, 8, 9, 10], [4, 5, 8, 9]) .leaf .leaf) (.node 56 (.node 9 ([1, 4, 8, 9, 32, 33, 34], [4, 5, 8, 9]) .leaf .leaf) (.node 55 (.node 2 ([0, 3], [2]) .leaf .leaf) .leaf .leaf) .leaf) (.node 58 (.node 4 ([2, 3, 5], [4]) .leaf .leaf) .leaf .leaf)) (.node 65 (.node 11 ([2, 3, 6], [4]) (.node 6 ([2, 3, 5], [2, 3, 4]) .leaf .leaf) .leaf) (.node 61 (.node 3 ([1, 2, 3, 4], [2, 3]) .leaf .leaf) .leaf .leaf) (.node 67 (.node 12 ([2, 3, 5], [4]) .leaf .leaf) .leaf .leaf))))) (.node 116 (.node 10 ([1, 2, 5, 8, 9], [1, 5, 8]) (.node 3 ([1, 2, 5, 7], [1, 2, 5]) .leaf .leaf) .leaf) (.node 97 (.node 7 ([2, 4, 7, 43, 44, 45], [6, 7, 8]) .leaf .leaf) (.node 84 (.node 3 ([0, 2, 3, 4], [2, 3]) .leaf .leaf) (.node 76 (.node 3 ([1, 2, 3, 4], [1, 2, 3]) .leaf .leaf) (.node 75 (.node 9 ([3, 4, 8, 9], [4, 8]) .leaf .leaf) (.node 74 (.node 3 ([0, 3, 4], [3]) .leaf .leaf) .leaf .leaf) .leaf) (.node 77 (.node 4 ([0, 1, 5], [4]) .leaf .leaf) .leaf .leaf)) (.node 91 (.node 4 ([2, 3], [2, 3]) .leaf .leaf) (.node 86 (.node 3 ([3, 6, 16, 17, 18], [4, 6]) .leaf .leaf) .leaf .leaf) (.node 93 (.node 3 ([1, 5, 6], [4]) .leaf .leaf) .leaf .leaf))) (.node 105 (.node 3 ([0, 3, 4], [3]) .leaf .leaf) (.node 103 (.node 7 ([2, 3, 4], [2, 3, 4, 5]) .leaf .leaf) (.node 100 (.node 7 ([3, 6, 10, 11, 12], [6, 7, 11]) .leaf .leaf) (.node 99 (.node 6 ([4, 6, 7], [2, 3, 6]) .leaf .leaf) .leaf .leaf) .leaf) (.node 104 (.node 3 ([3, 6, 7, 8], [3]) .leaf .leaf) .leaf .leaf)) (.node 114 (.node 11 ([0, 4, 7, 37, 38, 39], [0, 4, 7]) (.node 4 ([0, 3, 4, 20, 21, 22], [0, 3, 4]) .leaf .leaf) .leaf) (.node 106 (.node 5 ([1, 2, 5, 6], [5]) .leaf .leaf) .leaf .leaf) (.node 115 (.node 3 ([3, 8, 9], [3]) .leaf .leaf) .leaf .leaf)))) (.node 135 (.node 9 ([0, 1, 5, 6, 7], [0, 5]) (.node 4 ([0, 1, 5], [0, 4]) .leaf .leaf) .leaf) (.node 124 (.node 2 ([0, 1, 7, 8], [4]) .leaf .leaf) (.node 122 (.node 3 ([3], [3, 4]) .leaf .leaf) (.node 120 (.node 4 ([0, 1, 5], [4]) .leaf .leaf) (.node 117 (.node 3 ([0, 3, 4], [3]) .leaf .leaf) .leaf .leaf) .leaf) (.node 123 (.node 5 ([2], [2]) .leaf .leaf) .leaf .leaf)) (.node 128 (.node 5 ([0, 1, 5, 6], [0, 5]) .leaf .leaf) (.node 127 (.node 7 ([3, 5, 10, 11, 12, 16, 17, 18], [3, 5, 10, 11, 12]) (.node 4 ([3, 10, 11, 12], [3]) .leaf .leaf) .leaf) .leaf .leaf) (.node 134 (.node 1 ([2, 3], [4]) .leaf .leaf) .leaf .leaf))) (.node 140 (.node 3 ([0, 2, 3, 4], [2, 3]) .leaf .leaf) (.node 138 (.node 7 ([0, 3, 4, 5, 6], [0, 3, 4, 5]) (.node 3 ([0, 3, 4], [3]) .leaf .leaf) (.node 14 ([0, 3, 4, 8], [0, 3, 4, 8]) .leaf .leaf)) (.node 137 (.node 12 ([4, 5, 6, 7], [4, 6]) .leaf .leaf) (.node 136 (.node 9 ([5, 6, 70, 71], [5]) (.node 2 ([5], [4]) .leaf .leaf) .leaf) .leaf .leaf) .leaf) (.node 139 (.node 7 ([0, 1, 5, 6, 7, 8], [0, 1, 5, 6, 7]) (.node 3 ([0, 1, 5, 6], [5]) .leaf .leaf) (.node 11 ([0, 1, 5, 6, 7, 9], [0, 1, 5, 6, 7, 9]) .leaf .leaf)) .leaf .leaf)) (.node 147 (.node 2 ([0, 3], [2]) .leaf .leaf) (.node 146 (.node 4 ([2, 3, 5], [4]) .leaf .leaf) .leaf .leaf) (.node 150 (.node 2 ([0, 1, 2, 11, 12, 13], [0, 1, 6]) .leaf .leaf) .leaf .leaf)))))) (.node 246 (.node 2 ([1, 4], [1, 4]) .leaf .leaf) (.node 199 (.node 1 ([0, 1, 6, 7], []) .leaf .leaf) (.node 176 (.node 6 ([1, 3, 4], [3]) .leaf .leaf) (.node 165 (.node 3 ([0, 2, 3, 4], [2, 3]) .leaf .leaf) (.node 160 (.node 2 ([0, 3], [2]) .leaf .leaf) (.node 159 (.node 6 ([1, 2, 3, 4, 18, 19, 20], [2, 3, 4]) .leaf .leaf) (.node 157 (.node 3 ([0, 5, 8, 9, 10], [4, 5]) .leaf .leaf) .leaf .leaf) .leaf) (.node 162 (.node 5 ([1, 4, 5], [2, 3, 4]) .leaf .leaf) .leaf .leaf)) (.node 168 (.node 2 ([0, 1, 7, 8], [4]) .leaf .leaf) (.node 166 (.node 3 ([0, 3, 6, 7], [4, 5, 6]) .leaf .leaf) .leaf .leaf) (.node 175 (.node 4 ([1, 3], [2]) .leaf .leaf) .leaf .leaf))) (.node 188 (.node 15 ([2], []) .leaf .leaf) (.node 183 (.node 2 ([0, 3, 5], [3, 4]) .leaf .leaf) (.node 180 (.node 2 ([1, 4], [1, 4]) .leaf .leaf) (.node 179 (.node 7 ([6, 10, 11, 38, 39, 40], [6, 7, 11]) .leaf .leaf) .leaf .leaf) .leaf) (.node 187 (.node 14 ([2, 4, 5, 73, 74, 77, 78, 79], [2, 3, 4, 5, 73, 74]) (.node 11 ([2, 4, 5, 73, 74], [2, 3, 4]) .leaf .leaf) .leaf) .leaf .leaf)) (.node 192 (.node 10 ([0, 5, 7], []) .leaf .leaf) (.node 189 (.node 15 ([0, 7, 48], [0, 7]) .leaf .leaf) .leaf .leaf) (.node 193 (.node 11 ([0, 5, 6], [0, 5]) .leaf .leaf) .leaf .leaf)))) (.node 223 (.node 6 ([2, 3, 5], [4]) .leaf .leaf) (.node 210 (.node 5 ([4, 32, 33, 34], [2, 3, 4]) .leaf .leaf) (.node 203 (.node 1 ([0, 6, 7, 8], []) .leaf .leaf) (.node 202 (.node 2 ([0, 1, 5], [0]) .leaf .leaf) (.node 201 (.node 14 ([1, 2, 8, 9], [1, 8]) .leaf .leaf) .leaf .leaf) .leaf) (.node 205 (.node 3 ([0, 1, 5, 6], [5]) .leaf .leaf) .leaf .leaf)) (.node 216 (.node 2 ([0, 1, 2, 3, 4, 10, 11], []) .leaf .leaf) (.node 214 (.node 2 ([0, 1, 7, 8], [4]) .leaf .leaf) .leaf .leaf) (.node 219 (.node 3 ([3, 6, 7, 8], [2, 3]) .leaf .leaf) .leaf .leaf))) (.node 235 (.node 2 ([0, 1, 5], [4]) .leaf .leaf) (.node 231 (.node 4 ([3, 4, 9, 10, 11], [2, 3]) .leaf .leaf) (.node 229 (.node 3 ([0, 1, 5, 6], [5]) .leaf .leaf) (.node 225 (.node 4 ([0, 1, 5], [4]) .leaf .leaf) .leaf .leaf) .leaf) (.node 234 (.node 2 ([0, 1, 5], [4]) .leaf .leaf) .leaf .leaf)) (.node 238 (.node 7 ([3], [0, 3]) (.node 1 ([0, 3], []) .leaf .leaf) .leaf) (.node 236 (.node 2 ([0, 1, 4, 6], [4, 5]) .leaf .leaf) .leaf .leaf) (.node 242 (.node 4 ([7], [0, 5, 6, 7]) .leaf .leaf) .leaf .leaf))))) (.node 282 (.node 14 ([0, 1, 2, 3, 9, 10, 11], [0, 1, 2, 3, 9, 10]) (.node 5 ([0, 1, 2, 3, 9, 10], [0, 1, 2, 3, 9, 10]) (.node 3 ([0, 1, 2, 3, 9, 10], [8]) .leaf .leaf) .leaf) (.node 20 ([0, 1, 2, 3, 9, 10, 12], [0, 1, 2, 3, 9, 10]) .leaf .leaf)) (.node 272 (.node 2 ([0, 1, 5], [4]) .leaf .leaf) (.node 263 (.node 4 ([0, 1, 5, 6, 7, 8], [0, 1, 5, 6, 7]) .leaf .leaf) (.node 259 (.node 11 ([3, 7, 29], [7]) (.node 6 ([3], [3]) .leaf .leaf) .leaf) (.node 257 (.node 0 ([0, 1, 2], [1, 2]) .leaf .leaf) (.node 255 (.node 2 ([0, 1, 5], [4]) .leaf .leaf) .leaf .leaf) .leaf) (.node 260 (.node 5 ([4], [4, 5]) .leaf .leaf) .leaf .leaf)) (.node 267 (.node 3 ([0, 2, 3, 4], [2, 3]) .leaf .leaf) (.node 264 (.node 2 ([0, 1, 4, 6], [4, 5]) .leaf .leaf) .leaf .leaf) (.node 270 (.node 16 ([3, 69, 70, 71], []) .leaf .leaf) .leaf .leaf))) (.node 277 (.node 4 ([0, 1, 2, 3, 8, 9], [0, 1, 2, 3, 8]) (.node 1 ([0, 1, 2, 3, 8], []) .leaf .leaf) .leaf) (.node 275 (.node 7 ([0, 1, 2, 6], []) (.node 2 ([0, 1, 2, 6, 7, 8], [0, 1, 2, 6, 7]) .leaf .leaf) (.node 9 ([0, 1, 2, 6, 7, 8], [0, 1, 2, 6, 7]) .leaf .leaf)) (.node 274 (.node 1 ([0, 3], []) .leaf .leaf) (.node 273 (.node 1 ([0, 1, 3], []) .leaf .leaf) .leaf .leaf) .leaf) (.node 276 (.node 4 ([1, 2, 15, 16, 17], [6]) .leaf .leaf) .leaf .leaf)) (.node 279 (.node 5 ([0, 1, 8, 9, 10, 11], []) .leaf .leaf) (.node 278 (.node 8 ([0, 3, 8, 9, 12], []) (.node 4 ([0, 3, 8, 9, 10, 11], [0, 3, 8, 9, 10]) .leaf .leaf) .leaf) .leaf .leaf) (.node 281 (.node 2 ([0, 8, 9], []) .leaf .leaf) .leaf .leaf)))) (.node 303 (.node 1 ([0, 2, 3, 4, 10], []) .leaf .leaf) (.node 299 (.node 14 ([2, 3, 4, 12], [2, 6, 7]) .leaf .leaf) (.node 288 (.node 6 ([1, 7, 8], [1]) .leaf .leaf) (.node 284 (.node 13 ([0, 1, 4, 12, 13], [0, 1, 4, 12, 13]) (.node 5 ([0, 1, 4, 12, 13], [0, 1, 4, 12, 13]) (.node 3 ([0, 1, 4, 12, 13], [0, 1, 4, 12, 13]) .leaf .leaf) .leaf) (.node 15 ([0, 1, 4, 12, 13], [0, 1, 4, 12, 13]) .leaf .leaf)) (.node 283 (.node 5 ([0, 1, 4, 11, 12], [0, 1, 4, 11, 12]) (.node 3 ([0, 1, 4, 11, 12], [0, 1, 4, 11, 12]) .leaf .leaf) .leaf) .leaf .leaf) .leaf) (.node 289 (.node 5 ([3, 4], [2]) .leaf .leaf) .leaf .leaf)) (.node 301 (.node 4 ([0, 1, 2, 3, 8, 9], [0, 1, 2, 3, 8]) (.node 1 ([0, 1, 2, 3, 8], []) .leaf .leaf) .leaf) (.node 300 (.node 3 ([0, 3, 4], [3]) .leaf .leaf) .leaf .leaf) (.node 302 (.node 15 ([0, 2, 4, 14, 15], [0, 2, 14]) (.node 9 ([0, 10, 13], []) (.node 3 ([0, 1, 4, 10, 11], [0, 1, 10]) .leaf .leaf) .leaf) (.node 33 ([0, 1, 2, 3, 4, 18, 19, 20, 21, 22], [0, 1, 2, 3, 4, 18, 19, 20]) (.node 21 ([0, 14, 17], []) .leaf .leaf) .leaf)) .leaf .leaf))) (.node 314 (.node 3 ([0, 3, 5], [3]) .leaf .leaf) (.node 311 (.node 0 ([0, 1], []) .leaf .leaf) (.node 309 (.node 2 ([0, 1, 5], [0, 1, 5]) .leaf .leaf) .leaf .leaf) (.node 313 (.node 17 ([0, 4, 5, 70, 71], [6]) .leaf .leaf) .leaf .leaf)) (.node 316 (.node 2 ([0, 2, 4, 10, 11], [0, 2, 4, 10]) .leaf .leaf) (.node 315 (.node 2 ([0, 1, 5, 7], [0, 1, 5, 7]) .leaf .leaf) .leaf .leaf) (.node 318 (.node 1 ([0, 1, 2, 3, 10], []) .leaf .leaf) .leaf .leaf))))))
def cutTab : BT (BT (List Tmp)) := .node 315 (.node 6 ([0, 7, 8]) (.node 4 ([0, 1, 5, 7]) .leaf .leaf) .leaf) (.node 309 (.node 6 ([0, 1, 5]) (.node 4 ([0, 1, 5]) .leaf .leaf) .leaf) .leaf .leaf) .leaf
def liftTab : BT (BT (List (Tmp × Nat))) := .node 136 (.node 9 ([(5, 8)]) (.node 2 ([(5, 8)]) .leaf .leaf) .leaf) (.node 75 (.node 9 ([(8, 4)]) .leaf .leaf) (.node 56 (.node 9 ([(8, 4), (9, 2)]) .leaf .leaf) (.node 47 (.node 0 ([(2, 1)]) .leaf .leaf) (.node 42 (.node 3 ([(3, 7)]) .leaf .leaf) (.node 23 (.node 3 ([(3, 4)]) (.node 0 ([(2, 4)]) .leaf .leaf) .leaf) .leaf .leaf) .leaf) (.node 54 (.node 4 ([(5, 4)]) .leaf .leaf) (.node 49 (.node 6 ([(6, 7)]) .leaf .leaf) .leaf .leaf) .leaf)) (.node 68 (.node 4 ([(4, 1)]) .leaf .leaf) (.node 60 (.node 11 ([(3, 4)]) (.node 5 ([(3, 4)]) .leaf .leaf) .leaf) (.node 57 (.node 9 ([(8, 4), (9, 2)]) .leaf .leaf) .leaf .leaf) .leaf) (.node 74 (.node 3 ([(3, 1)]) .leaf .leaf) .leaf .leaf))) (.node 105 (.node 3 ([(3, 4)]) .leaf .leaf) (.node 103 (.node 7 ([(2, 6), (4, 6)]) (.node 0 ([(2, 6)]) .leaf .leaf) .leaf) (.node 99 (.node 6 ([(6, 6)]) (.node 0 ([(2, 6)]) .leaf .leaf) .leaf) (.node 76 (.node 3 ([(3, 4)]) .leaf .leaf) .leaf .leaf) .leaf) (.node 104 (.node 3 ([(3, 4)]) .leaf .leaf) .leaf .leaf)) (.node 126 (.node 0 ([(2, 4)]) .leaf .leaf) (.node 117 (.node 3 ([(3, 7)]) .leaf .leaf) (.node 116 (.node 10 ([(5, 7)]) (.node 3 ([(5, 7)]) .leaf .leaf) .leaf) .leaf .leaf) .leaf) (.node 127 (.node 7 ([(3, 2), (16, 2)]) (.node 4 ([(3, 2)]) .leaf .leaf) .leaf) .leaf .leaf)))) (.node 200 (.node 0 ([(2, 7)]) .leaf .leaf) (.node 157 (.node 3 ([(5, 4)]) .leaf .leaf) (.node 140 (.node 3 ([(3, 4)]) .leaf .leaf) (.node 139 (.node 7 ([(5, 4)]) (.node 3 ([(5, 4)]) .leaf .leaf) (.node 11 ([(5, 4)]) .leaf .leaf)) (.node 138 (.node 7 ([(3, 2)]) (.node 3 ([(3, 2)]) .leaf .leaf) (.node 14 ([(3, 2)]) .leaf .leaf)) .leaf .leaf) .leaf) (.node 156 (.node 3 ([(3, 4)]) .leaf .leaf) .leaf .leaf)) (.node 189 (.node 15 ([(7, 4)]) .leaf .leaf) (.node 180 (.node 2 ([(4, 4)]) .leaf .leaf) (.node 166 (.node 3 ([(6, 4)]) .leaf .leaf) .leaf .leaf) .leaf) (.node 193 (.node 11 ([(5, 4)]) .leaf .leaf) .leaf .leaf))) (.node 260 (.node 5 ([(4, 4)]) .leaf .leaf) (.node 238 (.node 7 ([(3, 4)]) (.node 1 ([(3, 4)]) .leaf .leaf) .leaf) (.node 205 (.node 3 ([(5, 7)]) .leaf .leaf) (.node 201 (.node 14 ([(8, 7)]) .leaf .leaf) .leaf .leaf) .leaf) (.node 259 (.node 11 ([(7, 1)]) .leaf .leaf) .leaf .leaf)) (.node 300 (.node 3 ([(3, 5)]) .leaf .leaf) (.node 274 (.node 1 ([(3, 4)]) .leaf .leaf) (.node 263 (.node 4 ([(6, 5)]) .leaf .leaf) .leaf .leaf) .leaf) (.node 314 (.node 3 ([(3, 5)]) .leaf .leaf) .leaf .leaf))))
def extLook (f : Nat) : List (Nat × (List AV → AH → Option (AV × AH))) → Option (List AV → AH → Option (AV × AH))
 | [] => none
 | p :: l => if Nat.beq p.1 f then some p.2 else extLook f l
noncomputable def extRest : List (Nat × (List AV → AH → Option (AV × AH))) := []
noncomputable def extTab : List (Nat × (List AV → AH → Option (AV × AH))) := (308, extCmp) :: extRest
theorem extRest_ok : extRest = [] := rfl
def knownTab : BT Unit := .node 160 (()) (.node 81 (()) (.node 41 (()) (.node 21 (()) (.node 11 (()) (.node 6 (()) (.node 4 (()) (.node 3 (()) (.node 2 (()) .leaf .leaf) .leaf) (.node 5 (()) .leaf .leaf)) (.node 9 (()) (.node 8 (()) (.node 7 (()) .leaf .leaf) .leaf) (.node 10 (()) .leaf .leaf))) (.node 16 (()) (.node 14 (()) (.node 13 (()) (.node 12 (()) .leaf .leaf) .leaf) (.node 15 (()) .leaf .leaf)) (.node 19 (()) (.node 18 (()) (.node 17 (()) .leaf .leaf) .leaf) (.node 20 (()) .leaf .leaf)))) (.node 31 (()) (.node 26 (()) (.node 24 (()) (.node 23 (()) (.node 22 (()) .leaf .leaf) .leaf) (.node 25 (()) .leaf .leaf)) (.node 29 (()) (.node 28 (()) (.node 27 (()) .leaf .leaf) .leaf) (.node 30 (()) .leaf .leaf))) (.node 36 (()) (.node 34 (()) (.node 33 (()) (.node 32 (()) .leaf .leaf) .leaf) (.node 35 (()) .leaf .leaf)) (.node 39 (()) (.node 38 (()) (.node 37 (()) .leaf .leaf) .leaf) (.node 40 (()) .leaf .leaf))))) (.node 61 (()) (.node 51 (()) (.node 46 (()) (.node 44 (()) (.node 43 (()) (.node 42 (()) .leaf .leaf) .leaf) (.node 45 (()) .leaf .leaf)) (.node 49 (()) (.node 48 (()) (.node 47 (()) .leaf .leaf) .leaf) (.node 50 (()) .leaf .leaf))) (.node 56 (()) (.node 54 (()) (.node 53 (()) (.node 52 (()) .leaf .leaf) .leaf) (.node 55 (()) .leaf .leaf)) (.node 59 (()) (.node 58 (()) (.node 57 (()) .leaf .leaf) .leaf) (.node 60 (()) .leaf .leaf)))) (.node 71 (()) (.node 66 (()) (.node 64 (()) (.node 63 (()) (.node 62 (()) .leaf .leaf) .leaf) (.node 65 (()) .leaf .leaf)) (.node 69 (()) (.node 68 (()) (.node 67 (()) .leaf .leaf) .leaf) (.node 70 (()) .leaf .leaf))) (.node 76 (()) (.node 74 (()) (.node 73 (()) (.node 72 (()) .leaf .leaf) .leaf) (.node 75 (()) .leaf .leaf)) (.node 79 (()) (.node 78 (()) (.node 77 (()) .leaf .leaf) .leaf) (.node 80 (()) .leaf .leaf)))))) (.node 121 (()) (.node 101 (()) (.node 91 (()) (.node 86 (()) (.node 84 (()) (.node 83 (()) (.node 82 (()) .leaf .leaf) .leaf) (.node 85 (()) .leaf .leaf)) (.node 89 (()) (.node 88 (()) (.node 87 (()) .leaf .leaf) .leaf) (.node 90 (()) .leaf .leaf))) (.node 96 (()) (.node 94 (()) (.node 93 (()) (.node 92 (()) .leaf .leaf) .leaf) (.node 95 (()) .leaf .leaf)) (.node 99 (()) (.node 98 (()) (.node 97 (()) .leaf .leaf) .leaf) (.node 100 (()) .leaf .leaf)))) (.node 111 (()) (.node 106 (()) (.node 104 (()) (.node 103 (()) (.node 102 (()) .leaf .leaf) .leaf) (.node 105 (()) .leaf .leaf)) (.node 109 (()) (.node 108 (()) (.node 107 (()) .leaf .leaf) .leaf) (.node 110 (()) .leaf .leaf))) (.node 116 (()) (.node 114 (()) (.node 113 (()) (.node 112 (()) .leaf .leaf) .leaf) (.node 115 (()) .leaf .leaf)) (.node 119 (()) (.node 118 (()) (.node 117 (()) .leaf .leaf) .leaf) (.node 120 (()) .leaf .leaf))))) (.node 141 (()) (.node 131 (()) (.node 126 (()) (.node 124 (()) (.node 123 (()) (.node 122 (()) .leaf .leaf) .leaf) (.node 125 (()) .leaf .leaf)) (.node 129 (()) (.node 128 (()) (.node 127 (()) .leaf .leaf) .leaf) (.node 130 (()) .leaf .leaf))) (.node 136 (()) (.node 134 (()) (.node 133 (()) (.node 132 (()) .leaf .leaf) .leaf) (.node 135 (()) .leaf .leaf)) (.node 139 (()) (.node 138 (()) (.node 137 (()) .leaf .leaf) .leaf) (.node 140 (()) .leaf .leaf)))) (.node 151 (()) (.node 146 (()) (.node 144 (()) (.node 143 (()) (.node 142 (()) .leaf .leaf) .leaf) (.node 145 (()) .leaf .leaf)) (.node 149 (()) (.node 148 (()) (.node 147 (()) .leaf .leaf) .leaf) (.node 150 (()) .leaf .leaf))) (.node 156 (()) (.node 154 (()) (.node 153 (()) (.node 152 (()) .leaf .leaf) .leaf) (.node 155 (()) .leaf .leaf)) (.node 158 (()) (.node 157 (()) .leaf .leaf) (.node 159 (()) .leaf .leaf))))))) (.node 239 (()) (.node 200 (()) (.node 180 (()) (.node 170 (()) (.node 165 (()) (.node 163 (()) (.node 162 (()) (.node 161 (()) .leaf .leaf) .leaf) (.node 164 (()) .leaf .leaf)) (.node 168 (()) (.node 167 (()) (.node 166 (()) .leaf .leaf) .leaf) (.node 169 (()) .leaf .leaf))) (.node 175 (()) (.node 173 (()) (.node 172 (()) (.node 171 (()) .leaf .leaf) .leaf) (.node 174 (()) .leaf .leaf)) (.node 178 (()) (.node 177 (()) (.node 176 (()) .leaf .leaf) .leaf) (.node 179 (()) .leaf .leaf)))) (.node 190 (()) (.node 185 (()) (.node 183 (()) (.node 182 (()) (.node 181 (()) .leaf .leaf) .leaf) (.node 184 (()) .leaf .leaf)) (.node 188 (()) (.node 187 (()) (.node 186 (()) .leaf .leaf) .leaf) (.node 189 (()) .leaf .leaf))) (.node 195 (()) (.node 193 (()) (.node 192 (()) (.node 191 (()) .leaf .leaf) .leaf) (.node 194 (()) .leaf .leaf)) (.node 198 (()) (.node 197 (()) (.node 196 (()) .leaf .leaf) .leaf) (.node 199 (()) .leaf .leaf))))) (.node 220 (()) (.node 210 (()) (.node 205 (()) (.node 203 (()) (.node 202 (()) (.node 201 (()) .leaf .leaf) .leaf) (.node 204 (()) .leaf .leaf)) (.node 208 (()) (.node 207 (()) (.node 206 (()) .leaf .leaf) .leaf) (.node 209 (()) .leaf .leaf))) (.node 215 (()) (.node 213 (()) (.node 212 (()) (.node 211 (()) .leaf .leaf) .leaf) (.node 214 (()) .leaf .leaf)) (.node 218 (()) (.node 217 (()) (.node 216 (()) .leaf .leaf) .leaf) (.node 219 (()) .leaf .leaf)))) (.node 230 (()) (.node 225 (()) (.node 223 (()) (.node 222 (()) (.node 221 (()) .leaf .leaf) .leaf) (.node 224 (()) .leaf .leaf)) (.node 228 (()) (.node 227 (()) (.node 226 (()) .leaf .leaf) .leaf) (.node 229 (()) .leaf .leaf))) (.node 235 (()) (.node 233 (()) (.node 232 (()) (.node 231 (()) .leaf .leaf) .leaf) (.node 234 (()) .leaf .leaf)) (.node 237 (()) (.node 236 (()) .leaf .leaf) (.node 238 (()) .leaf .leaf)))))) (.node 279 (()) (.node 259 (()) (.node 249 (()) (.node 244 (()) (.node 242 (()) (.node 241 (()) (.node 240 (()) .leaf .leaf) .leaf) (.node 243 (()) .leaf .leaf)) (.node 247 (()) (.node 246 (()) (.node 245 (()) .leaf .leaf) .leaf) (.node 248 (()) .leaf .leaf))) (.node 254 (()) (.node 252 (()) (.node 251 (()) (.node 250 (()) .leaf .leaf) .leaf) (.node 253 (()) .leaf .leaf)) (.node 257 (()) (.node 256 (()) (.node 255 (()) .leaf .leaf) .leaf) (.node 258 (()) .leaf .leaf)))) (.node 269 (()) (.node 264 (()) (.node 262 (()) (.node 261 (()) (.node 260 (()) .leaf .leaf) .leaf) (.node 263 (()) .leaf .leaf)) (.node 267 (()) (.node 266 (()) (.node 265 (()) .leaf .leaf) .leaf) (.node 268 (()) .leaf .leaf))) (.node 274 (()) (.node 272 (()) (.node 271 (()) (.node 270 (()) .leaf .leaf) .leaf) (.node 273 (()) .leaf .leaf)) (.node 277 (()) (.node 276 (()) (.node 275 (()) .leaf .leaf) .leaf) (.node 278 (()) .leaf .leaf))))) (.node 299 (()) (.node 289 (()) (.node 284 (()) (.node 282 (()) (.node 281 (()) (.node 280 (()) .leaf .leaf) .leaf) (.node 283 (()) .leaf .leaf)) (.node 287 (()) (.node 286 (()) (.node 285 (()) .leaf .leaf) .leaf) (.node 288 (()) .leaf .leaf))) (.node 294 (()) (.node 292 (()) (.node 291 (()) (.node 290 (()) .leaf .leaf) .leaf) (.node 293 (()) .leaf .leaf)) (.node 297 (()) (.node 296 (()) (.node 295 (()) .leaf .leaf) .leaf) (.node 298 (()) .leaf .leaf)))) (.node 310 (()) (.node 304 (()) (.node 302 (()) (.node 301 (()) (.node 300 (()) .leaf .leaf) .leaf) (.node 303 (()) .leaf .leaf)) (.node 307 (()) (.node 306 (()) (.node 305 (()) .leaf .leaf) .leaf) (.node 309 (()) .leaf .leaf))) (.node 315 (()) (.node 313 (()) (.node 312 (()) (.node 311 (()) .leaf .leaf) .leaf) (.node 314 (()) .leaf .leaf)) (.node 317 (()) (.node 316 (()) .leaf .leaf) (.node 318 (()) .leaf .leaf)))))))
def datTab : BT Unit := .node 56 (()) (.node 25 (()) (.node 24 (()) (.node 22 (()) .leaf .leaf) .leaf) (.node 49 (()) (.node 27 (()) .leaf .leaf) .leaf)) (.node 82 (()) (.node 77 (()) (.node 75 (()) .leaf .leaf) .leaf) (.node 97 (()) (.node 91 (()) .leaf .leaf) .leaf))
def aliTab : BT Unit := .node 77 (()) (.node 27 (()) .leaf .leaf) .leaf
def emsTab : BT Unit := .node 22 (()) .leaf .leaf
def tupTab : BT (List Nat) := .node 117 ([49, 4]) (.node 68 ([57, 31]) (.node 46 ([3, 31]) (.node 44 ([24, 4, 31]) (.node 32 ([24, 31]) .leaf .leaf) .leaf) (.node 62 ([24, 4, 3, 31]) (.node 50 ([49, 31]) .leaf .leaf) .leaf)) (.node 92 ([66, 4]) (.node 85 ([24, 4]) (.node 78 ([77, 31]) .leaf .leaf) .leaf) (.node 114 ([3, 24, 31]) .leaf .leaf))) (.node 186 ([57, 66]) (.node 178 ([56, 4]) (.node 164 ([22, 4]) (.node 159 ([3, 4]) .leaf .leaf) .leaf) (.node 180 ([25, 4]) .leaf .leaf)) (.node 266 ([213, 213]) (.node 240 ([3, 239]) (.node 219 ([4, 4]) .leaf .leaf) .leaf) (.node 271 ([3, 3]) .leaf .leaf)))
noncomputable def inlTab : List (Nat × Func) := [(169, Tryz.f169), (186, Tryz.f186), (207, Tryz.f207), (209, Tryz.f209), (231, Tryz.f231), (238, Tryz.f238), (257, Tryz.f257), (273, Tryz.f273), (274, Tryz.f274), (293, Tryz.f293), (311, Tryz.f311)]
noncomputable def fnTab : BT Func := .node 160 (Tryz.f160) (.node 81 (Tryz.f81) (.node 41 (Tryz.f41) (.node 21 (Tryz.f21) (.node 11 (Tryz.f11) (.node 6 (Tryz.f6) (.node 4 (Tryz.f4) (.node 3 (Tryz.f3) (.node 2 (Tryz.f2) .leaf .leaf) .leaf) (.node 5 (Tryz.f5) .leaf .leaf)) (.node 9 (Tryz.f9) (.node 8 (Tryz.f8) (.node 7 (Tryz.f7) .leaf .leaf) .leaf) (.node 10 (Tryz.f10) .leaf .leaf))) (.node 16 (Tryz.f16) (.node 14 (Tryz.f14) (.node 13 (Tryz.f13) (.node 12 (Tryz.f12) .leaf .leaf) .leaf) (.node 15 (Tryz.f15) .leaf .leaf)) (.node 19 (Tryz.f19) (.node 18 (Tryz.f18) (.node 17 (Tryz.f17) .leaf .leaf) .leaf) (.node 20 (Tryz.f20) .leaf .leaf)))) (.node 31 (Tryz.f31) (.node 26 (Tryz.f26) (.node 24 (Tryz.f24) (.node 23 (Tryz.f23) (.node 22 (Tryz.f22) .leaf .leaf) .leaf) (.node 25 (Tryz.f25) .leaf .leaf)) (.node 29 (Tryz.f29) (.node 28 (Tryz.f28) (.node 27 (Tryz.f27) .leaf .leaf) .leaf) (.node 30 (Tryz.f30) .leaf .leaf))) (.node 36 (Tryz.f36) (.node 34 (Tryz.f34) (.node 33 (Tryz.f33) (.node 32 (Tryz.f32) .leaf .leaf) .leaf) (.node 35 (Tryz.f35) .leaf .leaf)) (.node 39 (Tryz.f39) (.node 38 (Tryz.f38) (.node 37 (Tryz.f37) .leaf .leaf) .leaf) (.node 40 (Tryz.f40) .leaf .leaf))))) (.node 61 (Tryz.f61) (.node 51 (Tryz.f51) (.node 46 (Tryz.f46) (.node 44 (Tryz.f44) (.node 43 (Tryz.f43) (.node 42 (Tryz.f42) .leaf .leaf) .leaf) (.node 45 (Tryz.f45) .leaf .leaf)) (.node 49 (Tryz.f49) (.node 48 (Tryz.f48) (.node 47 (Tryz.f47) .leaf .leaf) .leaf) (.node 50 (Tryz.f50) .leaf .leaf))) (.node 56 (Tryz.f56) (.node 54 (Tryz.f54) (.node 53 (Tryz.f53) (.node 52 (Tryz.f52) .leaf .leaf) .leaf) (.node 55 (Tryz.f55) .leaf .leaf)) (.node 59 (Tryz.f59) (.node 58 (Tryz.f58) (.node 57 (Tryz.f57) .leaf .leaf) .leaf) (.node 60 (Tryz.f60) .leaf .leaf)))) (.node 71 (Tryz.f71) (.node 66 (Tryz.f66) (.node 64 (Tryz.f64) (.node 63 (Tryz.f63) (.node 62 (Tryz.f62) .leaf .leaf) .leaf) (.node 65 (Tryz.f65) .leaf .leaf)) (.node 69 (Tryz.f69) (.node 68 (Tryz.f68) (.node 67 (Tryz.f67) .leaf .leaf) .leaf) (.node 70 (Tryz.f70) .leaf .leaf))) (.node 76 (Tryz.f76) (.node 74 (Tryz.f74) (.node 73 (Tryz.f73) (.node 72 (Tryz.f72) .leaf .leaf) .leaf) (.node 75 (Tryz.f75) .leaf .leaf)) (.node 79 (Tryz.f79) (.node 78 (Tryz.f78) (.node 77 (Tryz.f77) .leaf .leaf) .leaf) (.node 80 (Tryz.f80) .leaf .leaf)))))) (.node 121 (Tryz.f121) (.node 101 (Tryz.f101) (.node 91 (Tryz.f91) (.node 86 (Tryz.f86) (.node 84 (Tryz.f84) (.node 83 (Tryz.f83) (.node 82 (Tryz.f82) .leaf .leaf) .leaf) (.node 85 (Tryz.f85) .leaf .leaf)) (.node 89 (Tryz.f89) (.node 88 (Tryz.f88) (.node 87 (Tryz.f87) .leaf .leaf) .leaf) (.node 90 (Tryz.f90) .leaf .leaf))) (.node 96 (Tryz.f96) (.node 94 (Tryz.f94) (.node 93 (Tryz.f93) (.node 92 (Tryz.f92) .leaf .leaf) .leaf) (.node 95 (Tryz.f95) .leaf .leaf)) (.node 99 (Tryz.f99) (.node 98 (Tryz.f98) (.node 97 (Tryz.f97) .leaf .leaf) .leaf) (.node 100 (Tryz.f100) .leaf .leaf)))) (.node 111 (Tryz.f111) (.node 106 (Tryz.f106) (.node 104 (Tryz.f104) (.node 103 (Tryz.f103) (.node 102 (Tryz.f102) .leaf .leaf) .leaf) (.node 105 (Tryz.f105) .leaf .leaf)) (.node 109 (Tryz.f109) (.node 108 (Tryz.f108) (.node 107 (Tryz.f107) .leaf .leaf) .leaf) (.node 110 (Tryz.f110) .leaf .leaf))) (.node 116 (Tryz.f116) (.node 114 (Tryz.f114) (.node 113 (Tryz.f113) (.node 112 (Tryz.f112) .leaf .leaf) .leaf) (.node 115 (Tryz.f115) .leaf .leaf)) (.node 119 (Tryz.f119) (.node 118 (Tryz.f118) (.node 117 (Tryz.f117) .leaf .leaf) .leaf) (.node 120 (Tryz.f120) .leaf .leaf))))) (.node 141 (Tryz.f141) (.node 131 (Tryz.f131) (.node 126 (Tryz.f126) (.node 124 (Tryz.f124) (.node 123 (Tryz.f123) (.node 122 (Tryz.f122) .leaf .leaf) .leaf) (.node 125 (Tryz.f125) .leaf .leaf)) (.node 129 (Tryz.f129) (.node 128 (Tryz.f128) (.node 127 (Tryz.f127) .leaf .leaf) .leaf) (.node 130 (Tryz.f130) .leaf .leaf))) (.node 136 (Tryz.f136) (.node 134 (Tryz.f134) (.node 133 (Tryz.f133) (.node 132 (Tryz.f132) .leaf .leaf) .leaf) (.node 135 (Tryz.f135) .leaf .leaf)) (.node 139 (Tryz.f139) (.node 138 (Tryz.f138) (.node 137 (Tryz.f137) .leaf .leaf) .leaf) (.node 140 (Tryz.f140) .leaf .leaf)))) (.node 151 (Tryz.f151) (.node 146 (Tryz.f146) (.node 144 (Tryz.f144) (.node 143 (Tryz.f143) (.node 142 (Tryz.f142) .leaf .leaf) .leaf) (.node 145 (Tryz.f145) .leaf .leaf)) (.node 149 (Tryz.f149) (.node 148 (Tryz.f148) (.node 147 (Tryz.f147) .leaf .leaf) .leaf) (.node 150 (Tryz.f150) .leaf .leaf))) (.node 156 (Tryz.f156) (.node 154 (Tryz.f154) (.node 153 (Tryz.f153) (.node 152 (Tryz.f152) .leaf .leaf) .leaf) (.node 155 (Tryz.f155) .leaf .leaf)) (.node 158 (Tryz.f158) (.node 157 (Tryz.f157) .leaf .leaf) (.node 159 (Tryz.f159) .leaf .leaf))))))) (.node 239 (Tryz.f239) (.node 200 (Tryz.f200) (.node 180 (Tryz.f180) (.node 170 (Tryz.f170) (.node 165 (Tryz.f165) (.node 163 (Tryz.f163) (.node 162 (Tryz.f162) (.node 161 (Tryz.f161) .leaf .leaf) .leaf) (.node 164 (Tryz.f164) .leaf .leaf)) (.node 168 (Tryz.f168) (.node 167 (Tryz.f167) (.node 166 (Tryz.f166) .leaf .leaf) .leaf) (.node 169 (Tryz.f169) .leaf .leaf))) (.node 175 (Tryz.f175) (.node 173 (Tryz.f173) (.node 172 (Tryz.f172) (.node 171 (Tryz.f171) .leaf .leaf) .leaf) (.node 174 (Tryz.f174) .leaf .leaf)) (.node 178 (Tryz.f178) (.node 177 (Tryz.f177) (.node 176 (Tryz.f176) .leaf .leaf) .leaf) (.node 179 (Tryz.f179) .leaf .leaf)))) (.node 190 (Tryz.f190) (.node 185 (Tryz.f185) (.node 183 (Tryz.f183) (.node 182 (Tryz.f182) (.node 181 (Tryz.f181) .leaf .leaf) .leaf) (.node 184 (Tryz.f184) .leaf .leaf)) (.node 188 (Tryz.f188) (.node 187 (Tryz.f187) (.node 186 (Tryz.f186) .leaf .leaf) .leaf) (.node 189 (Tryz.f189) .leaf .leaf))) (.node 195 (Tryz.f195) (.node 193 (Tryz.f193) (.node 192 (Tryz.f192) (.node 191 (Tryz.f191) .leaf .leaf) .leaf) (.node 194 (Tryz.f194) .leaf .leaf)) (.node 198 (Tryz.f198) (.node 197 (Tryz.f197) (.node 196 (Tryz.f196) .leaf .leaf) .leaf) (.node 199 (Tryz.f199) .leaf .leaf))))) (.node 220 (Tryz.f220) (.node 210 (Tryz.f210) (.node 205 (Tryz.f205) (.node 203 (Tryz.f203) (.node 202 (Tryz.f202) (.node 201 (Tryz.f201) .leaf .leaf) .leaf) (.node 204 (Tryz.f204) .leaf .leaf)) (.node 208 (Tryz.f208) (.node 207 (Tryz.f207) (.node 206 (Tryz.f206) .leaf .leaf) .leaf) (.node 209 (Tryz.f209) .leaf .leaf))) (.node 215 (Tryz.f215) (.node 213 (Tryz.f213) (.node 212 (Tryz.f212) (.node 211 (Tryz.f211) .leaf .leaf) .leaf) (.node 214 (Tryz.f214) .leaf .leaf)) (.node 218 (Tryz.f218) (.node 217 (Tryz.f217) (.node 216 (Tryz.f216) .leaf .leaf) .leaf) (.node 219 (Tryz.f219) .leaf .leaf)))) (.node 230 (Tryz.f230) (.node 225 (Tryz.f225) (.node 223 (Tryz.f223) (.node 222 (Tryz.f222) (.node 221 (Tryz.f221) .leaf .leaf) .leaf) (.node 224 (Tryz.f224) .leaf .leaf)) (.node 228 (Tryz.f228) (.node 227 (Tryz.f227) (.node 226 (Tryz.f226) .leaf .leaf) .leaf) (.node 229 (Tryz.f229) .leaf .leaf))) (.node 235 (Tryz.f235) (.node 233 (Tryz.f233) (.node 232 (Tryz.f232) (.node 231 (Tryz.f231) .leaf .leaf) .leaf) (.node 234 (Tryz.f234) .leaf .leaf)) (.node 237 (Tryz.f237) (.node 236 (Tryz.f236) .leaf .leaf) (.node 238 (Tryz.f238) .leaf .leaf)))))) (.node 279 (Tryz.f279) (.node 259 (Tryz.f259) (.node 249 (Tryz.f249) (.node 244 (Tryz.f244) (.node 242 (Tryz.f242) (.node 241 (Tryz.f241) (.node 240 (Tryz.f240) .leaf .leaf) .leaf) (.node 243 (Tryz.f243) .leaf .leaf)) (.node 247 (Tryz.f247) (.node 246 (Tryz.f246) (.node 245 (Tryz.f245) .leaf .leaf) .leaf) (.node 248 (Tryz.f248) .leaf .leaf))) (.node 254 (Tryz.f254) (.node 252 (Tryz.f252) (.node 251 (Tryz.f251) (.node 250 (Tryz.f250) .leaf .leaf) .leaf) (.node 253 (Tryz.f253) .leaf .leaf)) (.node 257 (Tryz.f257) (.node 256 (Tryz.f256) (.node 255 (Tryz.f255) .leaf .leaf) .leaf) (.node 258 (Tryz.f258) .leaf .leaf)))) (.node 269 (Tryz.f269) (.node 264 (Tryz.f264) (.node 262 (Tryz.f262) (.node 261 (Tryz.f261) (.node 260 (Tryz.f260) .leaf .leaf) .leaf) (.node 263 (Tryz.f263) .leaf .leaf)) (.node 267 (Tryz.f267) (.node 266 (Tryz.f266) (.node 265 (Tryz.f265) .leaf .leaf) .leaf) (.node 268 (Tryz.f268) .leaf .leaf))) (.node 274 (Tryz.f274) (.node 272 (Tryz.f272) (.node 271 (Tryz.f271) (.node 270 (Tryz.f270) .leaf .leaf) .leaf) (.node 273 (Tryz.f273) .leaf .leaf)) (.node 277 (Tryz.f277) (.node 276 (Tryz.f276) (.node 275 (Tryz.f275) .leaf .leaf) .leaf) (.node 278 (Tryz.f278) .leaf .leaf))))) (.node 299 (Tryz.f299) (.node 289 (Tryz.f289) (.node 284 (Tryz.f284) (.node 282 (Tryz.f282) (.node 281 (Tryz.f281) (.node 280 (Tryz.f280) .leaf .leaf) .leaf) (.node 283 (Tryz.f283) .leaf .leaf)) (.node 287 (Tryz.f287) (.node 286 (Tryz.f286) (.node 285 (Tryz.f285) .leaf .leaf) .leaf) (.node 288 (Tryz.f288) .leaf .leaf))) (.node 294 (Tryz.f294) (.node 292 (Tryz.f292) (.node 291 (Tryz.f291) (.node 290 (Tryz.f290) .leaf .leaf) .leaf) (.node 293 (Tryz.f293) .leaf .leaf)) (.node 297 (Tryz.f297) (.node 296 (Tryz.f296) (.node 295 (Tryz.f295) .leaf .leaf) .leaf) (.node 298 (Tryz.f298) .leaf .leaf)))) (.node 310 (Tryz.f310) (.node 304 (Tryz.f304) (.node 302 (Tryz.f302) (.node 301 (Tryz.f301) (.node 300 (Tryz.f300) .leaf .leaf) .leaf) (.node 303 (Tryz.f303) .leaf .leaf)) (.node 307 (Tryz.f307) (.node 306 (Tryz.f306) (.node 305 (Tryz.f305) .leaf .leaf) .leaf) (.node 309 (Tryz.f309) .leaf .leaf))) (.node 315 (Tryz.f315) (.node 313 (Tryz.f313) (.node 312 (Tryz.f312) (.node 311 (Tryz.f311) .leaf .leaf) .leaf) (.node 314 (Tryz.f314) .leaf .leaf)) (.node 317 (Tryz.f317) (.node 316 (Tryz.f316) .leaf .leaf) (.node 318 (Tryz.f318) .leaf .leaf)))))))
theorem fn_ok : fnTab.All fun f fn => Tryz.prog.funcs[f]? = some fn := (BT.all_node Tryz.func160 (BT.all_node Tryz.func81 (BT.all_node Tryz.func41 (BT.all_node Tryz.func21 (BT.all_node Tryz.func11 (BT.all_node Tryz.func6 (BT.all_node Tryz.func4 (BT.all_node Tryz.func3 (BT.all_node Tryz.func2 trivial trivial) trivial) (BT.all_node Tryz.func5 trivial trivial)) (BT.all_node Tryz.func9 (BT.all_node Tryz.func8 (BT.all_node Tryz.func7 trivial trivial) trivial) (BT.all_node Tryz.func10 trivial trivial))) (BT.all_node Tryz.func16 (BT.all_node Tryz.func14 (BT.all_node Tryz.func13 (BT.all_node Tryz.func12 trivial trivial) trivial) (BT.all_node Tryz.func15 trivial trivial)) (BT.all_node Tryz.func19 (BT.all_node Tryz.func18 (BT.all_node Tryz.func17 trivial trivial) trivial) (BT.all_node Tryz.func20 trivial trivial)))) (BT.all_node Tryz.func31 (BT.all_node Tryz.func26 (BT.all_node Tryz.func24 (BT.all_node Tryz.func23 (BT.all_node Tryz.func22 trivial trivial) trivial) (BT.all_node Tryz.func25 trivial trivial)) (BT.all_node Tryz.func29 (BT.all_node Tryz.func28 (BT.all_node Tryz.func27 trivial trivial) trivial) (BT.all_node Tryz.func30 trivial trivial))) (BT.all_node Tryz.func36 (BT.all_node Tryz.func34 (BT.all_node Tryz.func33 (BT.all_node Tryz.func32 trivial trivial) trivial) (BT.all_node Tryz.func35 trivial trivial)) (BT.all_node Tryz.func39 (BT.all_node Tryz.func38 (BT.all_node Tryz.func37 trivial trivial) trivial) (BT.all_node Tryz.func40 trivial trivial))))) (BT.all_node Tryz.func61 (BT.all_node Tryz.func51 (BT.all_node Tryz.func46 (BT.all_node Tryz.func44 (BT.all_node Tryz.func43 (BT.all_node Tryz.func42 trivial trivial) trivial) (BT.all_node Tryz.func45 trivial trivial)) (BT.all_node Tryz.func49 (BT.all_node Tryz.func48 (BT.all_node Tryz.func47 trivial trivial) trivial) (BT.all_node Tryz.func50 trivial trivial))) (BT.all_node Tryz.func56 (BT.all_node Tryz.func54 (BT.all_node Tryz.func53 (BT.all_node Tryz.func52 trivial trivial) trivial) (BT.all_node Tryz.func55 trivial trivial)) (BT.all_node Tryz.func59 (BT.all_node Tryz.func58 (BT.all_node Tryz.func57 trivial trivial) trivial) (BT.all_node Tryz.func60 trivial trivial)))) (BT.all_node Tryz.func71 (BT.all_node Tryz.func66 (BT.all_node Tryz.func64 (BT.all_node Tryz.func63 (BT.all_node Tryz.func62 trivial trivial) trivial) (BT.all_node Tryz.func65 trivial trivial)) (BT.all_node Tryz.func69 (BT.all_node Tryz.func68 (BT.all_node Tryz.func67 trivial trivial) trivial) (BT.all_node Tryz.func70 trivial trivial))) (BT.all_node Tryz.func76 (BT.all_node Tryz.func74 (BT.all_node Tryz.func73 (BT.all_node Tryz.func72 trivial trivial) trivial) (BT.all_node Tryz.func75 trivial trivial)) (BT.all_node Tryz.func79 (BT.all_node Tryz.func78 (BT.all_node Tryz.func77 trivial trivial) trivial) (BT.all_node Tryz.func80 trivial trivial)))))) (BT.all_node Tryz.func121 (BT.all_node Tryz.func101 (BT.all_node Tryz.func91 (BT.all_node Tryz.func86 (BT.all_node Tryz.func84 (BT.all_node Tryz.func83 (BT.all_node Tryz.func82 trivial trivial) trivial) (BT.all_node Tryz.func85 trivial trivial)) (BT.all_node Tryz.func89 (BT.all_node Tryz.func88 (BT.all_node Tryz.func87 trivial trivial) trivial) (BT.all_node Tryz.func90 trivial trivial))) (BT.all_node Tryz.func96 (BT.all_node Tryz.func94 (BT.all_node Tryz.func93 (BT.all_node Tryz.func92 trivial trivial) trivial) (BT.all_node Tryz.func95 trivial trivial)) (BT.all_node Tryz.func99 (BT.all_node Tryz.func98 (BT.all_node Tryz.func97 trivial trivial) trivial) (BT.all_node Tryz.func100 trivial trivial)))) (BT.all_node Tryz.func111 (BT.all_node Tryz.func106 (BT.all_node Tryz.func104 (BT.all_node Tryz.func103 (BT.all_node Tryz.func102 trivial trivial) trivial) (BT.all_node Tryz.func105 trivial trivial)) (BT.all_node Tryz.func109 (BT.all_node Tryz.func108 (BT.all_node Tryz.func107 trivial trivial) trivial) (BT.all_node Tryz.func110 trivial trivial))) (BT.all_node Tryz.func116 (BT.all_node Tryz.func114 (BT.all_node Tryz.func113 (BT.all_node Tryz.func112 trivial trivial) trivial) (BT.all_node Tryz.func115 trivial trivial)) (BT.all_node Tryz.func119 (BT.all_node Tryz.func118 (BT.all_node Tryz.func117 trivial trivial) trivial) (BT.all_node Tryz.func120 trivial trivial))))) (BT.all_node Tryz.func141 (BT.all_node Tryz.func131 (BT.all_node Tryz.func126 (BT.all_node Tryz.func124 (BT.all_node Tryz.func123 (BT.all_node Tryz.func122 trivial trivial) trivial) (BT.all_node Tryz.func125 trivial trivial)) (BT.all_node Tryz.func129 (BT.all_node Tryz.func128 (BT.all_node Tryz.func127 trivial trivial) trivial) (BT.all_node Tryz.func130 trivial trivial))) (BT.all_node Tryz.func136 (BT.all_node Tryz.func134 (BT.all_node Tryz.func133 (BT.all_node Tryz.func132 trivial trivial) trivial) (BT.all_node Tryz.func135 trivial trivial)) (BT.all_node Tryz.func139 (BT.all_node Tryz.func138 (BT.all_node Tryz.func137 trivial trivial) trivial) (BT.all_node Tryz.func140 trivial trivial)))) (BT.all_node Tryz.func151 (BT.all_node Tryz.func146 (BT.all_node Tryz.func144 (BT.all_node Tryz.func143 (BT.all_node Tryz.func142 trivial trivial) trivial) (BT.all_node Tryz.func145 trivial trivial)) (BT.all_node Tryz.func149 (BT.all_node Tryz.func148 (BT.all_node Tryz.func147 trivial trivial) trivial) (BT.all_node Tryz.func150 trivial trivial))) (BT.all_node Tryz.func156 (BT.all_node Tryz.func154 (BT.all_node Tryz.func153 (BT.all_node Tryz.func152 trivial trivial) trivial) (BT.all_node Tryz.func155 trivial trivial)) (BT.all_node Tryz.func158 (BT.all_node Tryz.func157 trivial trivial) (BT.all_node Tryz.func159 trivial trivial))))))) (BT.all_node Tryz.func239 (BT.all_node Tryz.func200 (BT.all_node Tryz.func180 (BT.all_node Tryz.func170 (BT.all_node Tryz.func165 (BT.all_node Tryz.func163 (BT.all_node Tryz.func162 (BT.all_node Tryz.func161 trivial trivial) trivial) (BT.all_node Tryz.func164 trivial trivial)) (BT.all_node Tryz.func168 (BT.all_node Tryz.func167 (BT.all_node Tryz.func166 trivial trivial) trivial) (BT.all_node Tryz.func169 trivial trivial))) (BT.all_node Tryz.func175 (BT.all_node Tryz.func173 (BT.all_node Tryz.func172 (BT.all_node Tryz.func171 trivial trivial) trivial) (BT.all_node Tryz.func174 trivial trivial)) (BT.all_node Tryz.func178 (BT.all_node Tryz.func177 (BT.all_node Tryz.func176 trivial trivial) trivial) (BT.all_node Tryz.func179 trivial trivial)))) (BT.all_node Tryz.func190 (BT.all_node Tryz.func185 (BT.all_node Tryz.func183 (BT.all_node Tryz.func182 (BT.all_node Tryz.func181 trivial trivial) trivial) (BT.all_node Tryz.func184 trivial trivial)) (BT.all_node Tryz.func188 (BT.all_node Tryz.func187 (BT.all_node Tryz.func186 trivial trivial) trivial) (BT.all_node Tryz.func189 trivial trivial))) (BT.all_node Tryz.func195 (BT.all_node Tryz.func193 (BT.all_node Tryz.func192 (BT.all_node Tryz.func191 trivial trivial) trivial) (BT.all_node Tryz.func194 trivial trivial)) (BT.all_node Tryz.func198 (BT.all_node Tryz.func197 (BT.all_node Tryz.func196 trivial trivial) trivial) (BT.all_node Tryz.func199 trivial trivial))))) (BT.all_node Tryz.func220 (BT.all_node Tryz.func210 (BT.all_node Tryz.func205 (BT.all_node Tryz.func203 (BT.all_node Tryz.func202 (BT.all_node Tryz.func201 trivial trivial) trivial) (BT.all_node Tryz.func204 trivial trivial)) (BT.all_node Tryz.func208 (BT.all_node Tryz.func207 (BT.all_node Tryz.func206 trivial trivial) trivial) (BT.all_node Tryz.func209 trivial trivial))) (BT.all_node Tryz.func215 (BT.all_node Tryz.func213 (BT.all_node Tryz.func212 (BT.all_node Tryz.func211 trivial trivial) trivial) (BT.all_node Tryz.func214 trivial trivial)) (BT.all_node Tryz.func218 (BT.all_node Tryz.func217 (BT.all_node Tryz.func216 trivial trivial) trivial) (BT.all_node Tryz.func219 trivial trivial)))) (BT.all_node Tryz.func230 (BT.all_node Tryz.func225 (BT.all_node Tryz.func223 (BT.all_node Tryz.func222 (BT.all_node Tryz.func221 trivial trivial) trivial) (BT.all_node Tryz.func224 trivial trivial)) (BT.all_node Tryz.func228 (BT.all_node Tryz.func227 (BT.all_node Tryz.func226 trivial trivial) trivial) (BT.all_node Tryz.func229 trivial trivial))) (BT.all_node Tryz.func235 (BT.all_node Tryz.func233 (BT.all_node Tryz.func232 (BT.all_node Tryz.func231 trivial trivial) trivial) (BT.all_node Tryz.func234 trivial trivial)) (BT.all_node Tryz.func237 (BT.all_node Tryz.func236 trivial trivial) (BT.all_node Tryz.func238 trivial trivial)))))) (BT.all_node Tryz.func279 (BT.all_node Tryz.func259 (BT.all_node Tryz.func249 (BT.all_node Tryz.func244 (BT.all_node Tryz.func242 (BT.all_node Tryz.func241 (BT.all_node Tryz.func240 trivial trivial) trivial) (BT.all_node Tryz.func243 trivial trivial)) (BT.all_node Tryz.func247 (BT.all_node Tryz.func246 (BT.all_node Tryz.func245 trivial trivial) trivial) (BT.all_node Tryz.func248 trivial trivial))) (BT.all_node Tryz.func254 (BT.all_node Tryz.func252 (BT.all_node Tryz.func251 (BT.all_node Tryz.func250 trivial trivial) trivial) (BT.all_node Tryz.func253 trivial trivial)) (BT.all_node Tryz.func257 (BT.all_node Tryz.func256 (BT.all_node Tryz.func255 trivial trivial) trivial) (BT.all_node Tryz.func258 trivial trivial)))) (BT.all_node Tryz.func269 (BT.all_node Tryz.func264 (BT.all_node Tryz.func262 (BT.all_node Tryz.func261 (BT.all_node Tryz.func260 trivial trivial) trivial) (BT.all_node Tryz.func263 trivial trivial)) (BT.all_node Tryz.func267 (BT.all_node Tryz.func266 (BT.all_node Tryz.func265 trivial trivial) trivial) (BT.all_node Tryz.func268 trivial trivial))) (BT.all_node Tryz.func274 (BT.all_node Tryz.func272 (BT.all_node Tryz.func271 (BT.all_node Tryz.func270 trivial trivial) trivial) (BT.all_node Tryz.func273 trivial trivial)) (BT.all_node Tryz.func277 (BT.all_node Tryz.func276 (BT.all_node Tryz.func275 trivial trivial) trivial) (BT.all_node Tryz.func278 trivial trivial))))) (BT.all_node Tryz.func299 (BT.all_node Tryz.func289 (BT.all_node Tryz.func284 (BT.all_node Tryz.func282 (BT.all_node Tryz.func281 (BT.all_node Tryz.func280 trivial trivial) trivial) (BT.all_node Tryz.func283 trivial trivial)) (BT.all_node Tryz.func287 (BT.all_node Tryz.func286 (BT.all_node Tryz.func285 trivial trivial) trivial) (BT.all_node Tryz.func288 trivial trivial))) (BT.all_node Tryz.func294 (BT.all_node Tryz.func292 (BT.all_node Tryz.func291 (BT.all_node Tryz.func290 trivial trivial) trivial) (BT.all_node Tryz.func293 trivial trivial)) (BT.all_node Tryz.func297 (BT.all_node Tryz.func296 (BT.all_node Tryz.func295 trivial trivial) trivial) (BT.all_node Tryz.func298 trivial trivial)))) (BT.all_node Tryz.func310 (BT.all_node Tryz.func304 (BT.all_node Tryz.func302 (BT.all_node Tryz.func301 (BT.all_node Tryz.func300 trivial trivial) trivial) (BT.all_node Tryz.func303 trivial trivial)) (BT.all_node Tryz.func307 (BT.all_node Tryz.func306 (BT.all_node Tryz.func305 trivial trivial) trivial) (BT.all_node Tryz.func309 trivial trivial))) (BT.all_node Tryz.func315 (BT.all_node Tryz.func313 (BT.all_node Tryz.func312 (BT.all_node Tryz.func311 trivial trivial) trivial) (BT.all_node Tryz.func314 trivial trivial)) (BT.all_node Tryz.func317 (BT.all_node Tryz.func316 trivial trivial) (BT.all_node Tryz.func318 trivial trivial))))))))

noncomputable def cfg : Cfg := { P := Tryz.prog, ty := fun t => tyTab.look t, mode := fun f => match modeTab.look f with | some m => m | none => .imp, frz := fun f r k => frzLook f r k, mask := fun f r => look2 f r maskTab, cut := fun f r => look2 f r cutTab, tup := fun t => tupTab.look t, ext := fun f => extLook f extTab, known := fun f => (knownTab.look f).isSome, dat := fun t => (datTab.look t).isSome, inl := fun f => inlLook f inlTab, lift := fun f r => match look2 f r liftTab with | some l => l | none => [], ems := fun t => (emsTab.look t).isSome, ali := fun t => (aliTab.look t).isSome }
theorem factS {fs : List Fact} (hfs : FactsOk cfg fs) {f : Nat} {args : List AV} {v : AV} (m d : Nat) (h : (match yF cfg (fun f => fnTab.look f) fs m d (.f f) args [] with | some r => some r.1 | none => none) = some v) : EVs (EV cfg) f args = some v := fact_S (fun _ _ h => BT.all_look fn_ok h) hfs m d h
theorem factF {fs : List Fact} (hfs : FactsOk cfg fs) {f : Nat} {args : List AV} {v : AV} (m d : Nat) (h : (match yF cfg (fun f => fnTab.look f) fs m d (.f f) args [] with | some r => gA (r.1.frz r.1.msIds r.2).fg some | none => none) = some v) : EVf (EV cfg) f args = some v := fact_F (fun _ _ h => BT.all_look fn_ok h) hfs m d h
instance inl_ok : InlOk cfg := InlOk.of inlTab (fun _ => rfl) ⟨⟨rfl, rfl, Tryz.func169, rfl⟩, ⟨⟨rfl, rfl, Tryz.func186, rfl⟩, ⟨⟨rfl, rfl, Tryz.func207, rfl⟩, ⟨⟨rfl, rfl, Tryz.func209, rfl⟩, ⟨⟨rfl, rfl, Tryz.func231, rfl⟩, ⟨⟨rfl, rfl, Tryz.func238, rfl⟩, ⟨⟨rfl, rfl, Tryz.func257, rfl⟩, ⟨⟨rfl, rfl, Tryz.func273, rfl⟩, ⟨⟨rfl, rfl, Tryz.func274, rfl⟩, ⟨⟨rfl, rfl, Tryz.func293, rfl⟩, ⟨⟨rfl, rfl, Tryz.func311, rfl⟩, trivial⟩⟩⟩⟩⟩⟩⟩⟩⟩⟩⟩
end Go.Proofs.YtkgkjngbfdnoiaaGreat.K
end

section
namespace Go.Proofs.YtkgkjngbfdnoiaaGreat.R
open Go.Av
set_option maxRecDepth 100000
def lookN {α : Type} (f : Nat) : List (Nat × α) → Option α
 | [] => none
 | p :: l => if Nat.beq p.1 f then some p.2 else lookN f l
theorem inlLook_mem {f : Nat} {fn : Func} : ∀ {l : List (Nat × Func)}, inlLook f l = some fn → ∃ p ∈ l, p.1 = f
 | [], h => by cases h
 | q :: l, h => by
  rw [inlLook] at h
  split at h
  ·rename_i e
   exact ⟨q, by simp, Nat.eq_of_beq_eq_true e⟩
  ·obtain ⟨p, h1, h2⟩ := inlLook_mem h
   exact ⟨p, by simp [h1], h2⟩
def modeL : List (Nat × CMode) := [(71, .rgn), (20, .over), (17, .rgn), (24, .rgn), (28, .rgn), (97, .rgn), (179, .rgn), (62, .rgn)]
def kL : List (Nat × Unit) := [(15, ()), (19, ()), (23, ()), (26, ()), (41, ()), (77, ()), (120, ()), (68, ()), (69, ()), (86, ()), (89, ()), (90, ()), (70, ()), (92, ()), (88, ()), (91, ()), (14, ()), (16, ()), (21, ()), (22, ()), (27, ()), (32, ()), (55, ()), (58, ()), (60, ()), (61, ()), (18, ()), (25, ()), (29, ()), (31, ()), (63, ()), (65, ()), (67, ()), (30, ()), (103, ()), (252, ()), (64, ()), (66, ())]
open Classical in
noncomputable def extCopy (args : List AV) (H : AH) : Option (AV × AH) :=
 match args, H with
 | [.agg [a, b, c, .sl rows]], [] => if ∃ t : Tm, t.Ok ∧ t.av = .agg [a, b, c, .sl rows] then some (.agg [a, b, c, .rsl 0 rows], [.reg]) else none
 | _, _ => none
noncomputable def xL : List (Nat × (List AV → AH → Option (AV × AH))) := [(71, extCopy), (59, EV K.cfg (.f 59))]
def frzL : List (Nat × Nat × Nat) := [(4, 4, 3)]
def frzIn (f r k : Nat) : List (Nat × Nat × Nat) → Bool
 | [] => false
 | p :: l => (Nat.beq p.1 f && (Nat.beq p.2.1 r && Nat.beq p.2.2 k)) || frzIn f r k l
noncomputable def ext (f : Nat) : Option (List AV → AH → Option (AV × AH)) :=
 match lookN f xL with
 | some s => some s
 | none => match lookN f kL with
  | some _ => some (EV Go.Proofs.YtkgkjngbfdnoiaaGreat.cfg (.f f))
  | none => Go.Proofs.YtkgkjngbfdnoiaaGreat.cfg.ext f
noncomputable def cfg : Cfg := { Go.Proofs.YtkgkjngbfdnoiaaGreat.cfg with mode := fun f => match lookN f modeL with | some m => m | none => Go.Proofs.YtkgkjngbfdnoiaaGreat.cfg.mode f, frz := fun f r k => frzIn f r k frzL || Go.Proofs.YtkgkjngbfdnoiaaGreat.cfg.frz f r k, ext := ext }
theorem inl_none : inlTab.all (fun p => (lookN p.1 xL).isNone && (lookN p.1 kL).isNone) = true := rfl
instance inl_ok : InlOk cfg where
 ok f fn h := by
  have h : inlLook f inlTab = some fn := h
  obtain ⟨h1, h2, h3, h4⟩ := Go.Proofs.YtkgkjngbfdnoiaaGreat.inl_ok.ok f fn h
  refine ⟨?_, h2, h3, h4⟩
  obtain ⟨p, hp, rfl⟩ := inlLook_mem h
  have := List.all_eq_true.1 inl_none p hp
  rw [Bool.and_eq_true, Option.isNone_iff_eq_none, Option.isNone_iff_eq_none] at this
  show ext p.1 = none
  unfold ext
  rw [this.1, this.2]
  exact h1
theorem ev_k {f : Nat} (hx : (lookN f xL).isNone = true) (hk : (lookN f kL).isSome = true) (args : List AV) (H : AH) : EV cfg (.f f) args H = EV Go.Proofs.YtkgkjngbfdnoiaaGreat.cfg (.f f) args H := by
 have he : cfg.ext f = some (EV Go.Proofs.YtkgkjngbfdnoiaaGreat.cfg (.f f)) := by
  show ext f = _
  unfold ext
  rw [Option.isNone_iff_eq_none] at hx
  obtain ⟨u, hu⟩ := Option.isSome_iff_exists.1 hk
  rw [hx, hu]
 have h1 : ∀ n, evF cfg (n + 1) (.f f) args H = EV Go.Proofs.YtkgkjngbfdnoiaaGreat.cfg (.f f) args H := fun n => by
  show evBody cfg (evF cfg n) (.f f) args H = _
  unfold evBody
  simp only [he]
 have h0 : evF cfg 0 (.f f) args H = none := rfl
 cases h : EV Go.Proofs.YtkgkjngbfdnoiaaGreat.cfg (.f f) args H with
 | some r => exact lim_eq (g := fun n => evF cfg n (.f f) args H) (fun n r h => evF_succ cfg n (.f f) args H r h) (n := 1) ((h1 0).trans h)
 | none =>
  have : ¬ ∃ (n : Nat) (r : AV × AH), evF cfg n (.f f) args H = some r := by
   rintro ⟨n, r, hr⟩
   cases n with
   | zero => rw [h0] at hr; cases hr
   | succ n => rw [h1, h] at hr; cases hr
  exact dif_neg this
theorem evs_k {f : Nat} (args : List AV) (hx : (lookN f xL).isNone = true) (hk : (lookN f kL).isSome = true) : EVs (EV cfg) f args = EVs (EV Go.Proofs.YtkgkjngbfdnoiaaGreat.cfg) f args := by unfold EVs; rw [ev_k hx hk]
theorem evf_k {f : Nat} (args : List AV) (hx : (lookN f xL).isNone = true) (hk : (lookN f kL).isSome = true) : EVf (EV cfg) f args = EVf (EV Go.Proofs.YtkgkjngbfdnoiaaGreat.cfg) f args := by unfold EVf; rw [ev_k hx hk]
end Go.Proofs.YtkgkjngbfdnoiaaGreat.R
end

section
namespace Go.Proofs.YtkgkjngbfdnoiaaGreat.R
open Go.Av
set_option maxRecDepth 100000
set_option maxHeartbeats 0

noncomputable abbrev zA0  : Option (AV) := some (AV.tup [.agg [AV.int .i64 0, .int .i64 0, .str [], .sl []], .bool false])
theorem boundOneR_run (all : Bool) (ks rs : List (List AV)) {P : AV → Prop} (h : Gets (bif all then zA0 else bif decide ((rs.length : Int) > 0) then zA0 else bif (ks.length : Int) != 1 then zA0 else bif ltInt 0 (ks.length : Int) then kOpt (List.get?Internal ks 0) fun row => bif Nat.beq (List.length row) 4 then bif Nat.ble 4 (List.length row) then kTmC (List.take 4 row) fun n n_1 s rows => (kOpt (EVg (EV cfg) 71 [.agg [AV.int .i64 n, .int .i64 n_1, .str s, .sl rows]]) fun V => kTmV V fun n n_2 s rows => (some (AV.tup [.agg [AV.int .i64 n, .int .i64 n_2, .str s, .sl rows], .bool true]))) else none else none else none) P) : Gets (EVg (EV cfg) 62 ([AV.agg [AV.bool all, AV.sl ks, AV.sl rs]] : List AV)) P :=
  Gets.ev (fun _ h => funR rfl rfl Tryz.func62 rfl h) (Gets.eq (by kernel_rfl) h)
theorem law21Meets_run (all : Bool) (ks rs : List (List AV)) (ar : Int) (fs : List (List AV)) (kk nk : Int) (sk : List UInt8) (lk : List (List AV)) {P : AV → Prop} (h : Gets (kOpt (EVs (EV cfg) 60 [.agg [.bool all, .sl ks, .sl rs]]) fun v => kBool v fun b => bif b then some (.bool true) else bif refsLtL 0 [.agg [.bool false, .sl [], .sl [[AV.int .i64 ar, .sl fs]]]] then kOpt (EVs (EV cfg) 60 [.agg [.bool false, .sl [], .sl [[AV.int .i64 ar, .sl fs]]]]) fun v => kBool v fun b => bif b then some (.bool true) else kOpt (EVs (EV cfg) 55 [.sl [[AV.int .i64 kk, .int .i64 nk, .str sk, .sl lk]]]) fun v => kBool v fun b => bif b then some (.bool true) else kOpt (EVf (EV cfg) 61 [.agg [.bool all, .sl ks, .sl rs]]) fun v => kAgg v fun cs => kCons cs fun c cs => kBool c fun b => kCons cs fun c cs => kSl c fun rows => kCons cs fun c cs => kSl c fun rows_1 => kNil cs (kOpt (EVf (EV cfg) 15 [.agg [AV.int .i64 kk, .int .i64 nk, .str sk, .sl lk]]) fun v => kTmV v fun n n_1 s rows_2 => (kOpt (EVg (EV cfg) 62 [.agg [.bool b, .sl rows, .sl rows_1]]) fun V => kTup V fun cs => kCons cs fun c cs => kAgg c fun cs_1 => kCons cs_1 fun c cs_2 => kInt .i64 c fun n_2 => kCons cs_2 fun c cs_3 => kInt .i64 c fun n_3 => kCons cs_3 fun c cs_4 => kStr c fun s_1 => kCons cs_4 fun c cs_5 => kSl c fun rows_3 => kNil cs_5 (kCons cs fun c cs => kBool c fun b_1 => kNil cs (kOpt (EVf (EV cfg) 63 [.agg [.bool all, .sl ks, .sl rs]]) fun v => kTup v fun cs => kCons cs fun c cs => kAgg c fun cs_6 => kCons cs_6 fun c cs_7 => kInt .i64 c fun n_4 => kCons cs_7 fun c cs_8 => kInt .i64 c fun n_5 => kCons cs_8 fun c cs_9 => kStr c fun s_2 => kCons cs_9 fun c cs_10 => kSl c fun rows_4 => kNil cs_10 (kCons cs fun c cs => kBool c fun b_2 => kNil cs (bif ! b_1 == b_2 then some (.bool false) else kOpt (EVs (EV cfg) 19 [AV.agg [AV.int .i64 n_2, .int .i64 n_3, .str s_1, .sl rows_3], AV.agg [AV.int .i64 n_4, .int .i64 n_5, .str s_2, .sl rows_4]]) fun v => kBool v fun b_3 => bif ! b_3 then some (.bool false) else kOpt (EVs (EV cfg) 64 [.agg [.bool b, .sl rows, .sl rows_1], AV.agg [AV.int .i64 n, .int .i64 n_1, .str s, .sl rows_2]]) fun v => kBool v fun b_4 => kOpt (EVs (EV cfg) 65 [.agg [.bool all, .sl ks, .sl rs], AV.agg [AV.int .i64 kk, .int .i64 nk, .str sk, .sl lk]]) fun v => kBool v fun b_5 => bif ! b_4 == b_5 then some (.bool false) else kOpt (EVs (EV cfg) 66 [.agg [AV.int .i64 ar, .sl fs], AV.agg [AV.int .i64 n, .int .i64 n_1, .str s, .sl rows_2]]) fun v => kInt .i64 v fun n_6 => kOpt (EVs (EV cfg) 67 [.agg [AV.int .i64 ar, .sl fs], AV.agg [AV.int .i64 kk, .int .i64 nk, .str sk, .sl lk]]) fun v => kInt .i64 v fun n_7 => bif n_6 != n_7 then some (.bool false) else kOpt (EVz (EV cfg) 20 (AV.agg [AV.int .i64 n_2, .int .i64 n_3, .str s_1, AV.rsl 0 rows_3])) fun x => kOpt (EVs (EV cfg) 58 [AV.agg [.bool b, .sl rows, .sl rows_1], AV.agg [.bool all, .sl ks, .sl rs]]) fun v => kBool v fun b => bif b then kOpt (EVs (EV cfg) 19 [AV.agg [AV.int .i64 n, .int .i64 n_1, .str s, .sl rows_2], AV.agg [AV.int .i64 kk, .int .i64 nk, .str sk, .sl lk]]) fun v => kBool v fun b => bif b then kOpt (EVs (EV cfg) 59 []) fun v => kBool v fun b => some (.bool b) else some (.bool false) else some (.bool false))))))) else none) P) : Gets (EVs (EV cfg) 11 ([AV.agg [AV.bool all, AV.sl ks, AV.sl rs], AV.agg [AV.int IntKind.i64 ar, AV.sl fs], AV.agg [AV.int IntKind.i64 kk, AV.int IntKind.i64 nk, AV.str sk, AV.sl lk]] : List AV)) P :=
  Gets.ev (fun _ h => funS rfl rfl Tryz.func11 rfl h) (Gets.eq (by kernel_rfl) h)
end Go.Proofs.YtkgkjngbfdnoiaaGreat.R
end

section
namespace Go.Proofs.YtkgkjngbfdnoiaaGreat.R
open Go.Av
set_option maxRecDepth 100000
set_option maxHeartbeats 0

noncomputable def Lra20_0 : Den := evC cfg (EV cfg) 20 none 1 (sub (bodyOf Tryz.f20) [1, 1, 0, 0])
noncomputable def Ara20_0 : Ex × List AV × AH → Option Unit := kAft (Cfg.keepOut cfg 20 2) (kRun cfg (EV cfg) (kfN cfg 6) 20 none 1 (kFinZ cfg (Cfg.lift cfg 20 0) Tryz.f20.results.toList) ([.block 0]))
noncomputable def Wra20_0 : List AV × AH → Option Unit := fun p => kOpt (LOOP 1 (some [1, 2]) ([]) Lra20_0 p) Ara20_0
noncomputable abbrev wra20_0 (l : List (List AV)) (v2 c1_0 c1_1 : Int) (c1_2 : List UInt8) : Option (Unit) := Wra20_0  (((fx 21 [(1, .ptr 1 0 0), (2, .int .i64 v2)]) : List AV), ([.spl, .rows false 4 [[.int .i64 c1_0, .int .i64 c1_1, .str c1_2, .rsl 0 l]]] : AH))
noncomputable abbrev wra20_0a (v2 c1_0 c1_1 : Int) (c1_2 : List UInt8) (c1_3 : List (List AV)) : Option (Unit) := Wra20_0  (((fx 21 [(1, .ptr 1 0 0), (2, .int .i64 v2)]) : List AV), ([.spl, .rows false 4 [[.int .i64 c1_0, .int .i64 c1_1, .str c1_2, .sl c1_3]]] : AH))
theorem overT_run (k n : Int) (s : List UInt8) (l : List (List AV)) {P : Unit → Prop} (h : Gets (wra20_0 l 0 k n s) P) : Gets (EVz (EV cfg) 20 (AV.agg [AV.int IntKind.i64 k, AV.int IntKind.i64 n, AV.str s, AV.rsl (0 : Nat) l])) P :=
  Gets.ev (fun _ h => funZ rfl rfl Tryz.func20 rfl h) (Gets.eq (by kernel_rfl) h)
theorem overE_run (k n : Int) (s : List UInt8) {P : Unit → Prop} (h : Gets (wra20_0a 0 k n s []) P) : Gets (EVz (EV cfg) 20 (AV.agg [AV.int IntKind.i64 k, AV.int IntKind.i64 n, AV.str s, AV.sl []])) P :=
  Gets.ev (fun _ h => funZ rfl rfl Tryz.func20 rfl h) (Gets.eq (by kernel_rfl) h)
theorem wra20_0_step (l : List (List AV)) (v2 c1_0 c1_1 : Int) (c1_2 : List UInt8) {P : Unit → Prop} (h : Gets (bif decide (v2 < (l.length : Int)) then bif leInt 0 v2 && ltInt v2 (l.length : Int) then kOpt (List.get?Internal l (v2.toNat)) fun row => bif Nat.beq (List.length row) 4 then kCons row fun c cs => kInt .i64 c fun n => kCons cs fun c cs => kInt .i64 c fun n_1 => kCons cs fun c cs => kStr c fun s => kCons cs fun c cs => kSl c fun rows => kNil cs (kOpt (EVz (EV cfg) 20 (.agg [AV.int .i64 n, .int .i64 n_1, .str s, AV.rsl 0 rows])) fun x => kOpt (EVz (EV cfg) 20 (.agg [AV.int .i64 77, .int .i64 0, .str [], .sl []])) fun x => bif leInt 0 v2 && ltInt v2 (l.length : Int) then kOpt (List.get?Internal l (v2.toNat)) fun row => bif Nat.beq (List.length row) 4 then bif termRow row && true then wra20_0 l (IntKind.wrap .i64 (v2 + 1)) c1_0 c1_1 c1_2 else none else none else none) else none else none else some PUnit.unit) P) : Gets (wra20_0 l v2 c1_0 c1_1 c1_2) P :=
  Gets.ev (fun _ h => loop_step (cfg := cfg) (f := 20) (rd := none) (bs := 1) h) (Gets.eq (by kernel_rfl) h)
theorem wra20_0a_step (v2 c1_0 c1_1 : Int) (c1_2 : List UInt8) (c1_3 : List (List AV)) {P : Unit → Prop} (h : Gets (bif decide (v2 < (c1_3.length : Int)) then bif leInt 0 v2 && ltInt v2 (c1_3.length : Int) then kOpt (List.get?Internal c1_3 (v2.toNat)) fun row => bif Nat.beq (List.length row) 4 then bif Nat.ble 4 (List.length row) then kTmC (List.take 4 row) fun n n s rows => none else none else none else none else some PUnit.unit) P) : Gets (wra20_0a v2 c1_0 c1_1 c1_2 c1_3) P :=
  Gets.ev (fun _ h => loop_step (cfg := cfg) (f := 20) (rd := none) (bs := 1) h) (Gets.eq (by kernel_rfl) h)
end Go.Proofs.YtkgkjngbfdnoiaaGreat.R
end

section
namespace Go.Proofs.YtkgkjngbfdnoiaaGreat
open Go.Av
set_option maxRecDepth 100000
set_option maxHeartbeats 0

noncomputable def Lhc63_0 : Den := evC cfg (EV cfg) 159 none 1 (sub (bodyOf Tryz.f159) [1, 1, 1, 0, 1, 0, 0])
noncomputable def Ahc63_0 : Ex × List AV × AH → Option (AV × List (List AV)) := kAft (Cfg.keepOut cfg 159 6) (kRun cfg (EV cfg) (kfN cfg 6) 159 none 1 (kFinX cfg 1 (Cfg.lift cfg 159 0) Tryz.f159.results.toList) ([.block 0, .seq (sub (bodyOf Tryz.f159) [1, 1, 1, 1])]))
noncomputable def Whc63_0 : List AV × AH → Option (AV × List (List AV)) := fun p => kOpt (LOOP 1 (some [1, 2, 3, 4, 18, 19, 20]) ([]) Lhc63_0 p) Ahc63_0
noncomputable abbrev whc63_0 (lt : List (List AV)) (v20 c1_0 c1_1 : Int) (c1_2 : List UInt8) (c2_0 c2_1 : Int) (c2_2 : List UInt8) (c2_3 h3 : List (List AV)) : Option (AV × List (List AV)) := Whc63_0  (((fx 35 [(1, .ptr 0 0 0), (2, .ptr 1 0 0), (3, .ptr 2 0 0), (4, .ms 3 0 (Int.toNat (lt.length : Int))), (18, .lsl lt), (19, .int .i64 (lt.length : Int)), (20, .int .i64 v20)]) : List AV), ([.rows false 1 [[.fn (Fn.func 159) [] [.ptr 0 0 0]]], .rows false 4 [[.int .i64 c1_0, .int .i64 c1_1, .str c1_2, .lsl lt]], .rows false 4 [[.int .i64 c2_0, .int .i64 c2_1, .str c2_2, .sl c2_3]], .rows true 4 h3] : AH))
theorem term_Copy_runL (kt : Int) (nt : Int) (st : List UInt8) (lt : List (List AV)) {P : AV → Prop} (h : Gets (kOpt (EVk (EV cfg) 159 [.agg [AV.int .i64 kt, .int .i64 nt, .str st, AV.lsl lt], .ptr 0 0 0] 1 [[AV.fn (Fn.func 159) [] [.ptr 0 0 0]]]) fun (q : AV) => kTmV q fun (n n_1 : Int) (s : List 
  UInt8) (rows : List (List AV)) => (some (.agg [AV.int .i64 n, .int .i64 n_1, .str s, .sl rows]))) P) : Gets (EVf (EV cfg) 71 ([AV.agg [AV.int IntKind.i64 kt, AV.int IntKind.i64 nt, AV.str st, AV.lsl lt]] : List AV)) P :=
  Gets.ev (fun _ h => funF rfl rfl Tryz.func71 rfl h) (Gets.eq (by kernel_rfl) h)
theorem copyInL_run (kt nt : Int) (st : List UInt8) (lt : List (List AV)) {P : AV × List (List AV) → Prop} (h : Gets (bif (lt.length : Int) == 0 then bif AV.refsLt 0 (.agg [AV.int .i64 kt, .int .i64 nt, .str st, .sl []]) then some (.agg [AV.int .i64 kt, .int .i64 nt, .str st, .sl []], [[AV.fn (Fn.func 159) [] [.ptr 0 0 0]]]) else none else bif leInt 0 (lt.length : Int) && leInt (lt.length : Int) (lt.length : Int) && leInt ((↑ (List.length lt) : Int) * 56) 140737488355328 && leInt (lt.length : Int) 9223372036854775807 then whc63_0 lt 0 kt nt st 0 0 [] [] (List.replicate (Int.toNat (lt.length : Int)) [AV.int .i64 0, .int .i64 0, .str [], .nilS]) else none) P) : Gets (EVx (EV cfg) 159 ([AV.agg [AV.int IntKind.i64 kt, AV.int IntKind.i64 nt, AV.str st, AV.lsl lt], AV.ptr (0 : Nat) (0 : Nat) (0 : Nat)] : List AV) 1 [[(AV.fn (Fn.func 159) [] [AV.ptr 0 0 0])]]) P :=
  Gets.ev (fun _ h => funX rfl rfl Tryz.func159 rfl h) (Gets.eq (by kernel_rfl) h)
theorem whc63_0_step (lt : List (List AV)) (v20 c1_0 c1_1 : Int) (c1_2 : List UInt8) (c2_0 c2_1 : Int) (c2_2 : List UInt8) (c2_3 h3 : List (List AV)) {P : AV × List (List AV) → Prop} (h : Gets (bif decide (v20 < (lt.length : Int)) then bif leInt 0 v20 && ltInt v20 (lt.length : Int) then kOpt (List.get?Internal lt (v20.toNat)) fun row => bif Nat.beq (List.length row) 4 then bif Nat.ble 4 (List.length row) then kTmC (List.take 4 row) fun n n_1 s rows => (kOpt (EVk (EV cfg) 159 [.agg [AV.int .i64 n, .int .i64 n_1, .str s, AV.lsl rows], .ptr 0 0 0] 1 [[AV.fn (Fn.func 159) [] [.ptr 0 0 0]]]) fun q => kTmV q fun n n_2 s rows => (bif leInt 0 v20 && ltInt v20 (↑ (Int.toNat (lt.length : Int)) : Int) then kOpt (List.get?Internal h3 (0 + v20.toNat)) fun row => bif Nat.ble 4 (List.length row) then whc63_0 lt (IntKind.wrap .i64 (v20 + 1)) c1_0 c1_1 c1_2 c2_0 c2_1 c2_2 c2_3 (List.set h3 (0 + v20.toNat) (.int .i64 n :: .int .i64 n_2 :: .str s :: .sl rows :: List.drop 4 row)) else none else none)) else none else none else none else bif Nat.ble (0 + Int.toNat (lt.length : Int)) (List.length h3) && true then some (.agg [AV.int .i64 c1_0, .int .i64 c1_1, .str c1_2, .sl (List.take (Int.toNat (lt.length : Int)) h3)], [[AV.fn (Fn.func 159) [] [.ptr 0 0 0]]]) else none) P) : Gets (whc63_0 lt v20 c1_0 c1_1 c1_2 c2_0 c2_1 c2_2 c2_3 h3) P :=
  Gets.ev (fun _ h => loop_step (cfg := cfg) (f := 159) (rd := none) (bs := 1) h) (Gets.eq (by kernel_rfl) h)
end Go.Proofs.YtkgkjngbfdnoiaaGreat
end

section
namespace Go.Proofs.YtkgkjngbfdnoiaaGreat
open Go.Av
def avL (t : Tm) : AV := .agg [.int .i64 t.kind, .int .i64 t.num, .str t.str, .lsl (rowsT t.subs)]
theorem avL_mk (k n : Int) (s : List UInt8) (l : List Tm) : avL (Tm.mk k n s l) = .agg [.int .i64 k, .int .i64 n, .str s, .lsl (rowsT l)] := rfl
theorem copyInL_ev (t : Tm) : t.Ok → EVx (EV cfg) 159 [avL t, .ptr 0 0 0] 1 copyCell = some (t.av, copyCell) := by
 induction t using Tm.ind with
 | _ k n s l ih =>
  intro hok
  have hlen := hok.len
  have loop : ∀ (d i : Nat), i + d = l.length → Gets (whc63_0 (rowsT l) i k n s 0 0 [] [] (rowsT (l.take i) ++ List.replicate d [.int .i64 0, .int .i64 0, .str [], .nilS])) (· = ((Tm.mk k n s l).av, copyCell)) := by
   intro d
   induction d with
   | zero =>
    intro i hi
    refine whc63_0_step _ _ _ _ _ _ _ _ _ _ ?_
    obtain rfl : i = l.length := by omega
    have e : l.take l.length = l := List.take_of_length_le (Nat.le_refl _)
    rw [e]
    simp
    rfl
   | succ d ihd =>
    intro i hi
    refine whc63_0_step _ _ _ _ _ _ _ _ _ _ ?_
    have hil : i < l.length := by omega
    have hx : l[i]? = some l[i] := List.getElem?_eq_getElem hil
    have hxl := List.mem_of_getElem? hx
    have hix := EVk_of (ih l[i] hxl (hok.sub hxl))
    have hih := ihd (i + 1) (by omega)
    have hw := wrap_s hil hlen
    have e1 : l.take (i + 1) = l.take i ++ [l[i]] := by rw [List.take_add_one, hx]; rfl
    have ht : (rowsT (l.take i)).length = i := by rw [rowsT_length, List.length_take]; omega
    have g : (rowsT (l.take i) ++ List.replicate (d + 1) [AV.int .i64 0, .int .i64 0, .str [], .nilS])[i]? = some [AV.int .i64 0, .int .i64 0, .str [], .nilS] := by
     rw [List.getElem?_append_right (by omega), ht, Nat.sub_self]; rfl
    have g2 : (rowsT (l.take i) ++ List.replicate (d + 1) [AV.int .i64 0, .int .i64 0, .str [], .nilS]).set i l[i].cells = rowsT (l.take (i + 1)) ++ List.replicate d [AV.int .i64 0, .int .i64 0, .str [], .nilS] := by
     rw [List.set_append_right _ _ (by omega), e1, rowsT_append, rowsT_cons, rowsT_nil]
     have e3 : i - (rowsT (l.take i)).length = 0 := by omega
     rw [e3, List.replicate_succ, List.set_cons_zero, List.append_assoc]; rfl
    simp only [copyCell, avL] at hix
    simp [hil, hx, hix, g, hw]
    rw [g2]
    simpa using hih
  apply Gets.get
  rw [Tm.av_mk, avL_mk]
  refine copyInL_run _ _ _ _ ?_
  rw [rowsT_length]
  by_cases hl : l.length = 0
  ·have : l = [] := List.length_eq_zero_iff.1 hl
   subst this
   simp [copyCell, AV.refsLt, refsLtL]
  ·have hl' : ((l.length : Int) == 0) = false := by rw [beqD]; exact decide_eq_false (by omega)
   have h56 : leInt ((l.length : Int) * 56) 140737488355328 = true := by simp [leInt]; omega
   have hm : leInt (l.length : Int) 9223372036854775807 = true := by simp [leInt]; omega
   have hz : leInt 0 (l.length : Int) = true := leInt_zero _
   have hs : leInt (l.length : Int) (l.length : Int) = true := by simp [leInt]
   rw [hl', h56, hm, hz, hs]
   have := loop l.length 0 (by omega)
   rw [Tm.av_mk] at this
   simpa using this
theorem copyL_ev {t : Tm} (h : t.Ok) : EVf (EV cfg) 71 [avL t] = some t.av := by
 have h1 := EVk_of (copyInL_ev t h)
 obtain ⟨k, n, s, l⟩ := t
 rw [Tm.av_mk, avL_mk] at h1 ⊢
 apply Gets.get
 refine term_Copy_runL _ _ _ _ ?_
 simp only [copyCell] at h1
 rw [h1]
 simp [← Tm.av_mk]
end Go.Proofs.YtkgkjngbfdnoiaaGreat
end

section
namespace Go.Proofs.YtkgkjngbfdnoiaaGreat
open Go.Av
set_option maxRecDepth 20000
def avR (id : Nat) (t : Tm) : AV := .agg [.int .i64 t.kind, .int .i64 t.num, .str t.str, .rsl id (rowsT t.subs)]

theorem rep0_rows {L : Lent} {C : Claims} {μ : MMap} (l : List Tm) (ih : ∀ t ∈ l, ∀ v, @Rep L C μ (.sl (rowsT t.subs)) v → Rep0 C (.sl (rowsT t.subs)) v) {v : Value} (h : @Rep L C μ (.sl (rowsT l)) v) : Rep0 C (.sl (rowsT l)) v := by
 generalize hR : rowsT l = R at h
 cases h with
 | slNil => exact .slNil
 | sl _ a cap sz vals hs hsz hc hr hcell hcap hfree =>
  refine .sl R a cap sz vals hs hsz hc (fun i j row x h1 h2 => ?_) hcell hcap hfree
  have hrep := hr i j row x h1 h2
  rw [← hR, rowsT_get] at h1
  cases hl : l[i]? with
  | none => rw [hl] at h1; cases h1
  | some t =>
   rw [hl] at h1
   cases h1
   obtain ⟨k, n, s, l'⟩ := t
   rw [Tm.cells_mk] at h2
   match j, h2 with
   | 0, h2 => cases h2; generalize vals i 0 = u at hrep ⊢; cases hrep; exact .int _ _
   | 1, h2 => cases h2; generalize vals i 1 = u at hrep ⊢; cases hrep; exact .int _ _
   | 2, h2 => cases h2; generalize vals i 2 = u at hrep ⊢; cases hrep; exact .str _
   | 3, h2 => cases h2; exact ih _ (List.mem_of_getElem? hl) _ hrep
   | j + 4, h2 => simp at h2
theorem rep0_tm {L : Lent} {C : Claims} {μ : MMap} (t : Tm) : ∀ v, @Rep L C μ (.sl (rowsT t.subs)) v → Rep0 C (.sl (rowsT t.subs)) v := by
 induction t using Tm.ind with
 | _ k n s l ih => exact fun v h => rep0_rows l ih h
theorem Rep0.claims {D D' : Claims} {a : AV} {v : Value} (hD : ∀ b o v, D b o = some v → D' b o = some v) (h : Rep0 D a v) : Rep0 D' a v := by
 induction h with
 | int k n => exact .int k n
 | bool b => exact .bool b
 | str s => exact .str s
 | nilS => exact .nilS
 | slNil => exact .slNil
 | em a cap => exact .em a cap
 | sl rows a cap sz vals hs hsz hc _ hcell hcap hfree ih => exact .sl rows a cap sz vals hs hsz (fun i j row x h1 h2 => hD _ _ _ (hc i j row x h1 h2)) ih hcell hcap hfree

@[reducible] def lentAll (L : Lent) (C : Claims) : Lent := ⟨fun b o => match C b o with | some v => some v | none => L.l b o, True⟩
theorem rows_claim {D : Claims} {l : List Tm} {v : Value} (h : Rep0 D (.sl (rowsT l)) v) (hl : rowsT l ≠ []) : ∃ b o, D b o ≠ none := by
 generalize hR : rowsT l = R at h
 cases h with
 | slNil => exact absurd hR hl
 | sl _ a cap sz vals hs hsz hc hr hcell hcap hfree =>
  cases l with
  | nil => exact absurd (by rw [rowsT]) hl
  | cons t l =>
   obtain ⟨k, n, s, l'⟩ := t
   have h1 : R[0]? = some [.int .i64 k, .int .i64 n, .str s, .sl (rowsT l')] := by rw [← hR, rowsT_get]; exact congrArg some (Tm.cells_mk k n s l')
   exact ⟨_, _, by rw [hc 0 0 _ _ h1 rfl]; simp⟩

theorem EVf_get {cf : Orac} {f : Nat} {al : List AV} {v : AV} (h : EVf cf f al = some v) : ∃ r H, cf (.f f) al [] = some (r, H) ∧ (r.frz r.msIds H).fg = v := by
 unfold EVf at h
 cases hc : cf (.f f) al [] with
 | none => rw [hc] at h; cases h
 | some q => rw [hc] at h; exact ⟨q.1, q.2, rfl, Option.some.inj h⟩
theorem lent_call [Lent] (hu : Lent.u) {f : FuncId} {al : List AV} {k n : Int} {s : List UInt8} {l : List Tm} (he : EVf (EV cfg) f al = some (Tm.mk k n s l).av) {w : World} {vs : Array Value} (hw : Wld (fun _ => fun _ => none) (fun _ => none) [] w) (ha : FrRep (fun _ => fun _ => none) (fun _ => none) al vs) :
  CallR Tryz.prog (callFunc f vs) w (fun v w1 => ∃ (D : Claims) (v3 : Value), v = .agg [.int .i64 k, .int .i64 n, .string ⟨s.toArray⟩, v3].toArray ∧ Rep0 D (.sl (rowsT l)) v3 ∧ (∀ b o u, D b o = some u → w1.cell? ⟨b, o, none⟩ = some u ∧ w1.frozen? ⟨b, o, none⟩ = false ∧ w.heap.size ≤ b) ∧
   (∀ b, b < w.heap.size → w1.heap[b]? = w.heap[b]?) ∧ w.heap.size ≤ w1.heap.size ∧ w1.os = w.os ∧ w1.tape = w.tape ∧ w1.output = w.output) := by
 have he2 := EVf_get he
 clear he
 obtain ⟨qr, qH, hq, hqe⟩ := he2
 have hO := EV_sound cfg_ok
 have hcall := hO.calls _ _ _ _ _ hq (fun _ => fun _ => none) (fun _ => none) w vs _ ha hw rfl
 refine hcall.mono fun v w1 ⟨C2, μ2, e1, e2, e3⟩ => ?_
 obtain ⟨C3, a1, a2, a3⟩ := frzBlks_sound qr.msIds e2
 have x := e3.trans (a3 0 (Nat.zero_le _)) (Nat.le_refl _)
 have r1 : Rep C3 μ2 (Tm.mk k n s l).av v := by
  rw [← hqe]
  exact ((e1.mono a1 (fun _ _ h => h)).frzA (AllFrz.of a2)).fgA
 rw [Tm.av_mk] at r1
 cases r1 with
 | agg _ us hl hh =>
 match us, hl, hh with
 | [u0, u1, u2, u3], _, hh =>
 have h0 : Rep0 C3 (.sl (rowsT l)) u3 := rep0_tm (.mk k n s l) u3 (hh 3 _ _ rfl rfl)
 have q0 := hh 0 _ _ rfl rfl
 have q1 := hh 1 _ _ rfl rfl
 have q2 := hh 2 _ _ rfl rfl
 cases q0; cases q1; cases q2
 refine ⟨C3, u3, rfl, h0, fun b o u h => ⟨a2.cl b o u h, a2.lnt.2 hu b o u h, ?_⟩, fun b hb => (x.fr b hb not_live_nil).1, x.size, x.os, x.tape, x.output⟩
 rcases Nat.lt_or_ge b w.heap.size with hb | hb
 ·have h5 := (x.fr b hb not_live_nil).2.2
  rw [h5] at h; cases h
 ·exact hb
theorem reg_call [L : Lent] {f : FuncId} {al : List AV} {t : Tm} (he : EVf (EV cfg) f al = some t.av) {C : Claims} {w : World} {vs : Array Value} (hw : Wld C (fun _ => none) [] w) (ha' : @FrRep (lentAll L C) (fun _ => fun _ => none) (fun _ => none) al vs) :
  CallR Tryz.prog (callFunc f vs) w (Post1 C (fun _ => none) [] w (avR 0 t) [.reg]) := by
 have hlent : ∀ b o v, (lentAll L C).l b o = some v → w.cell? ⟨b, o, none⟩ = some v := fun b o v h => by
  have h : (match C b o with | some v => some v | none => L.l b o) = some v := h
  split at h
  ·rename_i u hu; cases h; exact hw.cl _ _ _ hu
  ·exact hw.lnt.1 _ _ _ h
 have hw' : @Wld (lentAll L C) (fun _ => fun _ => none) (fun _ => none) [] w :=
  @Wld.mk (lentAll L C) _ _ _ _ (fun b o v h => (nomatch h)) (fun id m hm => (nomatch hm)) (fun id hi => rfl) (fun id blk h1 => (by simp at h1)) (fun id d sz rs h1 => (by simp at h1)) (fun i i' b b' m m' h1 => (by simp at h1)) FreeH.nil ⟨hlent, fun _ b o v h => (nomatch h)⟩
 obtain ⟨k, n, s, l⟩ := t
 refine (@lent_call (lentAll L C) trivial _ _ _ _ _ _ he _ _ hw' ha').mono fun v w1 ⟨C3, u3, hv, h0, hD, old, hsz, hos, htp, hou⟩ => ?_
 subst hv
 have hw1 : Wld C (fun _ => none) [] w1 := hw.world hsz old
 have fin : ∀ μ' : MMap, (rowsT l ≠ [] → ∃ m, μ' 0 = some m ∧ m.D = C3) → Rep C μ' (avR 0 (.mk k n s l)) (.agg [.int .i64 k, .int .i64 n, .string ⟨s.toArray⟩, u3].toArray) := by
  intro μ' hm
  refine Rep.agg _ [.int .i64 k, .int .i64 n, .string ⟨s.toArray⟩, u3] rfl (fun i a v h1 h2 => ?_)
  match i, h1, h2 with
  | 0, h1, h2 => cases h1; cases h2; exact .int _ _
  | 1, h1, h2 => cases h1; cases h2; exact .int _ _
  | 2, h1, h2 => cases h1; cases h2; exact .str _
  | 3, h1, h2 => cases h1; cases h2; exact .rsl 0 _ _ C3 hm h0
  | i + 4, h1, h2 => simp at h1
 by_cases hex : ∃ b o, C3 b o ≠ none
 ·obtain ⟨b0, o0, hb0⟩ := hex
  have hhas : ∀ b, (MI.mk b0 0 0 0 C3).has b → ∃ o u, C3 b o = some u := by
   rintro b (h | ⟨o, h⟩)
   ·have : b0 = b := h
    subst this
    cases hc : C3 b0 o0 with
    | none => exact absurd hc hb0
    | some u => exact ⟨o0, u, hc⟩
   ·cases hc : C3 b o with
    | none => exact absurd hc h
    | some u => exact ⟨o, u, hc⟩
  have hge : ∀ b, (MI.mk b0 0 0 0 C3).has b → w.heap.size ≤ b := fun b hb => by
   obtain ⟨o, u, hc⟩ := hhas b hb
   exact (hD b o u hc).2.2
  have hlt : ∀ b, (MI.mk b0 0 0 0 C3).has b → b < w1.heap.size := fun b hb => by
   obtain ⟨o, u, hc⟩ := hhas b hb
   exact World.block_lt_of_cell? w1 ⟨b, o, none⟩ ((hD b o u hc).1)
  obtain ⟨n1, n2, n3, n4, n5⟩ := hw1.new (nid := none) (k := 0) (H' := [.reg]) (blk := .reg) (m := MI.mk b0 0 0 0 C3) rfl (fun b hb => not_live_nil) hlt
   (fun b hb o => by
    cases hc : C b o with
    | none => rfl
    | some u => have h5 := hw.block_lt hc; have h6 := hge b hb; omega)
   (fun b hb => hw.lent_none (hge b hb)) rfl (fun b o u hd => ⟨(hD b o u hd).1, (hD b o u hd).2.1⟩)
  refine ⟨C, _, fin _ (fun _ => ⟨_, by unfold upd; rw [if_pos rfl], rfl⟩), n1, ⟨hos, htp, hou, hsz, fun _ _ _ h => h, fun id m _ hm => (nomatch hm), fun b hb hnl => ⟨old b hb, fun hl => ?_, rfl⟩, Nat.zero_le _⟩⟩
  rcases n4 b hl with h | h
  ·exact not_live_nil h
  ·have := hge b h; omega
 ·obtain ⟨n1, n2⟩ := hw1.newV (nid := none) (k := 0) (H' := [.reg]) (blk := .reg) rfl rfl rfl trivial
  have n3 := n2 0 (Nat.zero_le _)
  refine ⟨C, _, fin (fun _ => none) (fun hne => absurd (rows_claim h0 hne) hex), n1, ⟨hos, htp, hou, hsz, fun _ _ _ h => h, fun id m _ hm => (nomatch hm), fun b hb hnl => ⟨old b hb, fun hl => ?_, rfl⟩, Nat.zero_le _⟩⟩
  obtain ⟨i, bi, mi, h1, h2, h3, h4⟩ := hl
  cases h3
theorem copy_reg [L : Lent] {t : Tm} (hok : t.Ok) {C : Claims} {w : World} {vs : Array Value} (hw : Wld C (fun _ => none) [] w) (ha : FrRep C (fun _ => none) [t.av] vs) :
  CallR Tryz.prog (callFunc 71 vs) w (Post1 C (fun _ => none) [] w (avR 0 t) [.reg]) := by
 have ha' : @FrRep (lentAll L C) (fun _ => fun _ => none) (fun _ => none) [avL t] vs := by
  obtain ⟨h1, h2⟩ := ha
  refine ⟨by simpa using h1, fun i a v hi hv => ?_⟩
  match i, hi with
  | 0, hi =>
   cases hi
   have h3 := h2 0 t.av v rfl hv
   obtain ⟨k, n, s, l⟩ := t
   rw [Tm.av_mk] at h3
   rw [avL_mk]
   cases h3 with
   | agg _ us hl hh =>
    refine @Rep.agg (lentAll L C) _ _ _ us hl (fun i a v h1 h2 => ?_)
    match i, h1 with
    | 0, h1 => cases h1; have h4 := hh 0 _ v rfl h2; cases h4; exact @Rep.int (lentAll L C) _ _ _ _
    | 1, h1 => cases h1; have h4 := hh 1 _ v rfl h2; cases h4; exact @Rep.int (lentAll L C) _ _ _ _
    | 2, h1 => cases h1; have h4 := hh 2 _ v rfl h2; cases h4; exact @Rep.str (lentAll L C) _ _ _
    | 3, h1 =>
     cases h1
     have h4 := hh 3 _ v rfl h2
     exact @Rep.lsl (lentAll L C) _ _ _ _ (Rep0.claims (fun b o v h => by show (match C b o with | some v => some v | none => L.l b o) = some v; rw [h]) (rep0_tm (.mk k n s l) v h4))
    | i + 4, h1 => simp at h1
  | i + 1, hi => simp at hi
 exact reg_call (f := 71) (al := [avL t]) (copyL_ev hok) hw ha'
end Go.Proofs.YtkgkjngbfdnoiaaGreat
end

section
namespace Go.Av
theorem termRow_cells (t : Tm) : termRow t.cells = true := by obtain ⟨k, n, s, l⟩ := t; rw [Tm.cells_mk]; rfl
end Go.Av
namespace Go.Proofs.YtkgkjngbfdnoiaaGreat.R
open Go.Av
theorem overE_ev (k n : Int) (s : List UInt8) : EVz (EV cfg) 20 (.agg [.int .i64 k, .int .i64 n, .str s, .sl []]) = some () := by
 apply Gets.get
 refine overE_run k n s ?_
 refine wra20_0a_step _ _ _ _ _ ?_
 exact ⟨_, rfl, rfl⟩
theorem overT_ev (t : Tm) : t.Ok → EVz (EV cfg) 20 (avR 0 t) = some () := by
 induction t using Tm.ind with
 | _ k n s l ih =>
  intro hok
  have hlen := hok.len
  have loop : ∀ (d i : Nat), i + d = l.length → Gets (wra20_0 (rowsT l) i k n s) (· = ()) := by
   intro d
   induction d with
   | zero =>
    intro i hi
    refine wra20_0_step _ _ _ _ _ ?_
    rw [rowsT_length, decide_eq_false (by omega)]
    exact ⟨_, rfl, rfl⟩
   | succ d ihd =>
    intro i hi
    refine wra20_0_step _ _ _ _ _ ?_
    have hil : i < l.length := by omega
    have hx : l[i]? = some l[i] := List.getElem?_eq_getElem hil
    have h1 := ih l[i] (List.mem_of_getElem? hx) (hok.sub (List.mem_of_getElem? hx))
    unfold avR at h1
    have h := ihd (i + 1) (by omega)
    rw [rowsT_length, decide_eq_true (show (i : Int) < (l.length : Int) by omega), leInt_zero, ltInt_nat, decide_eq_true hil, rowsT_at hx, wrap_succ hil hlen]
    simp only [cond_true, Bool.and_self, length_cells, Nat.beq_refl, kChain, h1, overE_ev, kOptSome, rowsT_at hx, termRow_cells, Bool.and_true]
    exact h.mono fun _ _ => trivial
  apply Gets.get
  unfold avR
  exact overT_run k n s (rowsT l) (loop l.length 0 (by omega))
end Go.Proofs.YtkgkjngbfdnoiaaGreat.R
end

section
namespace Go.Proofs.YtkgkjngbfdnoiaaGreat.R
open Go.Av Go.ChangeShapes Go.WideShapes Go.ChangeAt Go.RowKit
set_option maxRecDepth 100000
theorem copy_ok [Lent] {args : List AV} {H H' : AH} {r : AV} {C : Claims} {μ : MMap} {w : World} {vs : Array Value} (hr : extCopy args H = some (r, H')) (ha : FrRep C μ args vs) (hw : Wld C μ H w) :
  CallR Tryz.prog (callFunc 71 vs) w (Post1 C μ H w r H') := by
 unfold extCopy at hr
 split at hr
 case h_2 => cases hr
 rename_i a b c rows
 split at hr
 case isFalse => cases hr
 rename_i hx
 obtain ⟨t, hok, ht⟩ := hx
 cases hr
 have hμ : μ = fun _ => none := by
  funext id
  cases hm : μ id with
  | none => rfl
  | some m => have := hw.dom id m hm; simp at this
 subst hμ
 have e2 : avR 0 t = .agg [a, b, c, .rsl 0 rows] := by
  obtain ⟨k, n, s, l⟩ := t
  rw [Tm.av_mk] at ht
  simp only [AV.agg.injEq, List.cons.injEq, AV.sl.injEq, and_true] at ht
  obtain ⟨rfl, rfl, rfl, rfl⟩ := ht
  rfl
 have h := copy_reg hok hw (by rw [ht]; exact ha)
 rw [e2] at h
 exact h
theorem cfg_ok [Lent] : CfgOk cfg where
  ty := ⟨fun t ti h => BT.all_look tys_ok h⟩
  mixed := mixed_ok
  named := fun f fn _ h => named_ok f fn h
  ext := fun f s h args H r H' hr C μ w vs ha hw => by
    have h : ext f = some s := h
    unfold ext at h
    split at h
    · rename_i s' hs
      cases h
      unfold xL at hs
      rw [lookN] at hs
      split at hs
      · rename_i e
        have e := Nat.eq_of_beq_eq_true e
        subst e
        cases hs
        exact copy_ok hr ha hw
      · first
          | (rw [lookN] at hs; cases hs; done)
          | (have okK : CfgOk K.cfg := {
               ty := ⟨fun t ti h => BT.all_look (show K.tyTab.All _ from tys_ok) h⟩
               mixed := mixed_ok
               named := fun f fn _ h => named_ok f fn h
               ext := fun f s h args H r H' hr C μ w vs ha hw => by
                 have h : K.extLook f K.extTab = some s := h
                 unfold K.extTab at h
                 rw [K.extLook] at h
                 split at h
                 · rename_i e
                   have e := Nat.eq_of_beq_eq_true e
                   subst e
                   cases h
                   exact cmp_ok hr ha hw
                 · rw [K.extRest_ok, K.extLook] at h
                   cases h }
             rw [lookN] at hs
             split at hs
             · rename_i e
               have e := Nat.eq_of_beq_eq_true e
               subst e
               cases hs
               exact (EV_sound okK).calls _ _ _ _ _ hr C μ w vs _ ha hw rfl
             · cases hs)
    · split at h
      · cases h
        exact (EV_sound Go.Proofs.YtkgkjngbfdnoiaaGreat.cfg_ok).calls _ _ _ _ _ hr C μ w vs _ ha hw rfl
      · exact Go.Proofs.YtkgkjngbfdnoiaaGreat.cfg_ok.ext f s h args H r H' hr C μ w vs ha hw
theorem row_calls {f : FuncId} {args : List AV} {vs : Array Value} {W : World} (hx : cfg.ext f = none) (he : EVs (EV cfg) f args = some (.bool true)) (ha : FrRep (C0 W) M0 args vs) :
  Calls Tryz.prog f vs W fun e W' => e = .returned (.bool true) ∧ (∀ b, b < W.heap.size → W'.heap[b]? = W.heap[b]?) ∧ W.heap.size ≤ W'.heap.size ∧ W'.os = W.os ∧ W'.output = W.output := by
 unfold EVs at he
 obtain ⟨q, h1, h2⟩ := Option.map_eq_some_iff.1 he
 have := EV_calls cfg_ok hx (r := q.1) (H' := q.2) h1 ha (wld0 W)
 refine this.mono fun e W' ⟨v, hv, C', μ', p1, p2, p3⟩ => ?_
 rw [h2] at p1
 cases p1
 refine ⟨hv, fun b hb => (p3.fr b hb not_live_nil).1, p3.size, p3.os, p3.output⟩
theorem copyR_ev {t : Tm} (h : t.Ok) : EVg (EV cfg) 71 [t.av] = some t.av := by
 obtain ⟨k, n, s, l⟩ := t
 have e : EV cfg (.f 71) [(Tm.mk k n s l).av] [] = some (avR 0 (.mk k n s l), [.reg]) := by
  refine EV_of ?_
  unfold evBody
  have hx : cfg.ext 71 = some extCopy := rfl
  simp only [hx]
  rw [Tm.av_mk]
  show extCopy [.agg [.int .i64 k, .int .i64 n, .str s, .sl (rowsT l)]] [] = _
  exact if_pos ⟨_, h, Tm.av_mk k n s l⟩
 unfold EVg
 rw [e, Tm.av_mk]
 rfl
end Go.Proofs.YtkgkjngbfdnoiaaGreat.R
end

section
namespace Go.Proofs.YtkgkjngbfdnoiaaGreat.K
open Go.Av
set_option maxRecDepth 1000000
theorem boundAwake_k4 : EVs (EV cfg) 153 [.agg [.int .i64 2, .int .i64 0, .str [36, 95], .sl []]] = some (.tup [.int .i64 0, .bool false]) := factS (.nil) 1000 1000 (by kernel_rfl)
theorem boundAwake_k9 : EVs (EV cfg) 123 [.agg [.int .i64 2, .int .i64 0, .str [36, 49], .sl []]] = some (.bool false) := factS (.nil) 1000 1000 (by kernel_rfl)
theorem boundAwake_k25 : EVs (EV cfg) 91 [.agg [.int .i64 7, .int .i64 0, .str [], .sl [[.int .i64 2, .int .i64 0, .str [116], .sl []], [.int .i64 2, .int .i64 0, .str [36, 49], .sl []]]]] = some (.int .i64 0) := factS (.nil) 1000 1000 (by kernel_rfl)
theorem boundAwake_k27 : EVs (EV cfg) 91 [.agg [.int .i64 7, .int .i64 0, .str [], .sl [[.int .i64 2, .int .i64 0, .str [116], .sl []], [.int .i64 1, .int .i64 9, .str [], .sl []]]]] = some (.int .i64 0) := factS (.nil) 1000 1000 (by kernel_rfl)
theorem boundAwake_k30 : EVs (EV cfg) 142 [.sl [[.int .i64 2, .int .i64 0, .str [116], .sl []]]] = some (.bool true) := factS (.nil) 1000 1000 (by kernel_rfl)
theorem boundAwake_k35 : EVs (EV cfg) 91 [.agg [.int .i64 9, .int .i64 0, .str [], .sl [[.int .i64 7, .int .i64 0, .str [], .sl [[.int .i64 7, .int .i64 0, .str [], .sl [[.int .i64 2, .int .i64 0, .str [97], .sl []], [.int .i64 2, .int .i64 0, .str [95], .sl []]]], [.int .i64 8, .int .i64 0, .str [], .sl []], [.int .i64 9, .int .i64 0, .str [], .sl [[.int .i64 2, .int .i64 0, .str [36, 95], .sl []], [.int .i64 8, .int .i64 0, .str [], .sl []]]]]], [.int .i64 8, .int .i64 0, .str [], .sl []]]]] = some (.int .i64 0) := factS (.nil) 1000 1000 (by kernel_rfl)
theorem boundAwake_k36 : EVs (EV cfg) 91 [.agg [.int .i64 7, .int .i64 0, .str [], .sl [[.int .i64 2, .int .i64 0, .str [97], .sl []], [.int .i64 2, .int .i64 0, .str [95], .sl []]]]] = some (.int .i64 0) := factS (.nil) 1000 1000 (by kernel_rfl)
theorem boundAwake_k37 : EVf (EV cfg) 259 [.agg [.int .i64 7, .int .i64 0, .str [], .sl [[.int .i64 2, .int .i64 0, .str [97], .sl []], [.int .i64 2, .int .i64 0, .str [95], .sl []]]]] = some (.sl []) := factF (.consS boundAwake_k36 (.nil)) 1000 1000 (by kernel_rfl)
theorem boundAwake_k38 : EVf (EV cfg) 187 [.agg [.int .i64 7, .int .i64 0, .str [], .sl [[.int .i64 7, .int .i64 0, .str [], .sl [[.int .i64 2, .int .i64 0, .str [97], .sl []], [.int .i64 2, .int .i64 0, .str [95], .sl []]]], [.int .i64 8, .int .i64 0, .str [], .sl []], [.int .i64 9, .int .i64 0, .str [], .sl [[.int .i64 2, .int .i64 0, .str [36, 95], .sl []], [.int .i64 8, .int .i64 0, .str [], .sl []]]]]]] = some (.tup [.agg [.int .i64 7, .int .i64 0, .str [], .sl [[.int .i64 2, .int .i64 0, .str [97], .sl []], [.int .i64 2, .int .i64 0, .str [95], .sl []]], .sl [], .sl [[.int .i64 2, .int .i64 0, .str [36, 95], .sl []]]], .bool true]) := factF (.consF boundAwake_k37 (.consS boundAwake_k4 (.nil))) 1000 1000 (by kernel_rfl)
theorem boundAwake_k39 : EVf (EV cfg) 33 [.agg [.int .i64 9, .int .i64 0, .str [], .sl [[.int .i64 7, .int .i64 0, .str [], .sl [[.int .i64 7, .int .i64 0, .str [], .sl [[.int .i64 2, .int .i64 0, .str [97], .sl []], [.int .i64 2, .int .i64 0, .str [95], .sl []]]], [.int .i64 8, .int .i64 0, .str [], .sl []], [.int .i64 9, .int .i64 0, .str [], .sl [[.int .i64 2, .int .i64 0, .str [36, 95], .sl []], [.int .i64 8, .int .i64 0, .str [], .sl []]]]]], [.int .i64 8, .int .i64 0, .str [], .sl []]]]] = some (.tup [.sl [[.int .i64 7, .int .i64 0, .str [], .sl [[.int .i64 2, .int .i64 0, .str [97], .sl []], [.int .i64 2, .int .i64 0, .str [95], .sl []]], .sl [], .sl [[.int .i64 2, .int .i64 0, .str [36, 95], .sl []]]]], .int .i64 0]) := factF (.consS boundAwake_k35 (.consF boundAwake_k38 (.nil))) 1000 1000 (by kernel_rfl)
theorem boundAwake_k40 : EVf (EV cfg) 56 [.agg [.int .i64 9, .int .i64 0, .str [], .sl [[.int .i64 7, .int .i64 0, .str [], .sl [[.int .i64 7, .int .i64 0, .str [], .sl [[.int .i64 2, .int .i64 0, .str [97], .sl []], [.int .i64 2, .int .i64 0, .str [95], .sl []]]], [.int .i64 8, .int .i64 0, .str [], .sl []], [.int .i64 9, .int .i64 0, .str [], .sl [[.int .i64 2, .int .i64 0, .str [36, 95], .sl []], [.int .i64 8, .int .i64 0, .str [], .sl []]]]]], [.int .i64 8, .int .i64 0, .str [], .sl []]]], .int .i64 1] = some (.tup [.agg [.bool false, .sl [[.int .i64 2, .int .i64 0, .str [97], .sl []]], .sl []], .int .i64 0]) := factF (.consF boundAwake_k39 (.nil)) 1000 1000 (by kernel_rfl)
theorem boundAwake_k41 : EVs (EV cfg) 91 [.agg [.int .i64 9, .int .i64 0, .str [], .sl [[.int .i64 7, .int .i64 0, .str [], .sl [[.int .i64 7, .int .i64 0, .str [], .sl [[.int .i64 7, .int .i64 0, .str [], .sl [[.int .i64 2, .int .i64 0, .str [116], .sl []], [.int .i64 2, .int .i64 0, .str [36, 49], .sl []]]], [.int .i64 2, .int .i64 0, .str [95], .sl []]]], [.int .i64 8, .int .i64 0, .str [], .sl []], [.int .i64 9, .int .i64 0, .str [], .sl [[.int .i64 2, .int .i64 0, .str [36, 95], .sl []], [.int .i64 8, .int .i64 0, .str [], .sl []]]]]], [.int .i64 8, .int .i64 0, .str [], .sl []]]]] = some (.int .i64 0) := factS (.nil) 1000 1000 (by kernel_rfl)
theorem boundAwake_k42 : EVs (EV cfg) 91 [.agg [.int .i64 7, .int .i64 0, .str [], .sl [[.int .i64 7, .int .i64 0, .str [], .sl [[.int .i64 2, .int .i64 0, .str [116], .sl []], [.int .i64 2, .int .i64 0, .str [36, 49], .sl []]]], [.int .i64 2, .int .i64 0, .str [95], .sl []]]]] = some (.int .i64 0) := factS (.nil) 1000 1000 (by kernel_rfl)
theorem boundAwake_k43 : EVf (EV cfg) 259 [.agg [.int .i64 7, .int .i64 0, .str [], .sl [[.int .i64 7, .int .i64 0, .str [], .sl [[.int .i64 2, .int .i64 0, .str [116], .sl []], [.int .i64 2, .int .i64 0, .str [36, 49], .sl []]]], [.int .i64 2, .int .i64 0, .str [95], .sl []]]]] = some (.sl [[.int .i64 1]]) := factF (.consS boundAwake_k42 (.nil)) 1000 1000 (by kernel_rfl)
theorem boundAwake_k44 : EVf (EV cfg) 187 [.agg [.int .i64 7, .int .i64 0, .str [], .sl [[.int .i64 7, .int .i64 0, .str [], .sl [[.int .i64 7, .int .i64 0, .str [], .sl [[.int .i64 2, .int .i64 0, .str [116], .sl []], [.int .i64 2, .int .i64 0, .str [36, 49], .sl []]]], [.int .i64 2, .int .i64 0, .str [95], .sl []]]], [.int .i64 8, .int .i64 0, .str [], .sl []], [.int .i64 9, .int .i64 0, .str [], .sl [[.int .i64 2, .int .i64 0, .str [36, 95], .sl []], [.int .i64 8, .int .i64 0, .str [], .sl []]]]]]] = some (.tup [.agg [.int .i64 7, .int .i64 0, .str [], .sl [[.int .i64 7, .int .i64 0, .str [], .sl [[.int .i64 2, .int .i64 0, .str [116], .sl []], [.int .i64 2, .int .i64 0, .str [36, 49], .sl []]]], [.int .i64 2, .int .i64 0, .str [95], .sl []]], .sl [], .sl [[.int .i64 2, .int .i64 0, .str [36, 95], .sl []]]], .bool true]) := factF (.consF boundAwake_k43 (.consS boundAwake_k4 (.nil))) 1000 1000 (by kernel_rfl)
theorem boundAwake_k45 : EVf (EV cfg) 33 [.agg [.int .i64 9, .int .i64 0, .str [], .sl [[.int .i64 7, .int .i64 0, .str [], .sl [[.int .i64 7, .int .i64 0, .str [], .sl [[.int .i64 7, .int .i64 0, .str [], .sl [[.int .i64 2, .int .i64 0, .str [116], .sl []], [.int .i64 2, .int .i64 0, .str [36, 49], .sl []]]], [.int .i64 2, .int .i64 0, .str [95], .sl []]]], [.int .i64 8, .int .i64 0, .str [], .sl []], [.int .i64 9, .int .i64 0, .str [], .sl [[.int .i64 2, .int .i64 0, .str [36, 95], .sl []], [.int .i64 8, .int .i64 0, .str [], .sl []]]]]], [.int .i64 8, .int .i64 0, .str [], .sl []]]]] = some (.tup [.sl [[.int .i64 7, .int .i64 0, .str [], .sl [[.int .i64 7, .int .i64 0, .str [], .sl [[.int .i64 2, .int .i64 0, .str [116], .sl []], [.int .i64 2, .int .i64 0, .str [36, 49], .sl []]]], [.int .i64 2, .int .i64 0, .str [95], .sl []]], .sl [], .sl [[.int .i64 2, .int .i64 0, .str [36, 95], .sl []]]]], .int .i64 0]) := factF (.consS boundAwake_k41 (.consF boundAwake_k44 (.nil))) 1000 1000 (by kernel_rfl)
theorem boundAwake_k46 : EVf (EV cfg) 56 [.agg [.int .i64 9, .int .i64 0, .str [], .sl [[.int .i64 7, .int .i64 0, .str [], .sl [[.int .i64 7, .int .i64 0, .str [], .sl [[.int .i64 7, .int .i64 0, .str [], .sl [[.int .i64 2, .int .i64 0, .str [116], .sl []], [.int .i64 2, .int .i64 0, .str [36, 49], .sl []]]], [.int .i64 2, .int .i64 0, .str [95], .sl []]]], [.int .i64 8, .int .i64 0, .str [], .sl []], [.int .i64 9, .int .i64 0, .str [], .sl [[.int .i64 2, .int .i64 0, .str [36, 95], .sl []], [.int .i64 8, .int .i64 0, .str [], .sl []]]]]], [.int .i64 8, .int .i64 0, .str [], .sl []]]], .int .i64 1] = some (.tup [.agg [.bool false, .sl [], .sl [[.int .i64 2, .sl [[.int .i64 2, .int .i64 0, .str [116], .sl []]]]]], .int .i64 0]) := factF (.consF boundAwake_k45 (.consS boundAwake_k25 (.consS boundAwake_k9 (.nil)))) 1000 1000 (by kernel_rfl)
theorem boundAwake_k47 : EVs (EV cfg) 66 [.agg [.int .i64 2, .sl [[.int .i64 2, .int .i64 0, .str [116], .sl []]]], .agg [.int .i64 7, .int .i64 0, .str [], .sl [[.int .i64 2, .int .i64 0, .str [116], .sl []], [.int .i64 1, .int .i64 9, .str [], .sl []]]]] = some (.int .i64 0) := factS (.consS boundAwake_k27 (.consS boundAwake_k30 (.nil))) 1000 1000 (by kernel_rfl)
theorem boundAwake_k48 : EVs (EV cfg) 59 [] = some (.bool true) := factS (.consF boundAwake_k40 (.consF boundAwake_k46 (.consS boundAwake_k47 (.consS boundAwake_k30 (.nil))))) 1000 1000 (by kernel_rfl)
end Go.Proofs.YtkgkjngbfdnoiaaGreat.K
end

section
namespace Go.Proofs.YtkgkjngbfdnoiaaGreat
open Go.Av
theorem copyTerms_of {l : List Tm} (hlen : l.length < 1099511627776) (ih : ∀ x ∈ l, EVf (EV cfg) 15 [x.av] = some x.av) :
  EVo (EV cfg) 23 [.sl (rowsT l)] = some (OV.own 4 (rowsT l) 0 l.length) := by
 have loop : ∀ d i : Nat, i + d = l.length → Gets (wq59_0 (rowsT l) i i (rowsT (l.take i))) (· = OV.own 4 (rowsT l) 0 l.length) := by
  intro d
  induction d with
  | zero =>
   intro i hi
   refine wq59_0_step _ _ _ _ ?_
   obtain rfl : i = l.length := by omega
   rw [rowsT_length, decide_eq_false (by omega), List.take_length]
   exact ⟨_, rfl, rfl⟩
  | succ d ihd =>
   intro i hi
   have hil : i < l.length := by omega
   refine wq59_0_step _ _ _ _ ?_
   have hx : l[i]? = some l[i] := List.getElem?_eq_getElem hil
   have h1 := ih l[i] (List.mem_of_getElem? hx)
   have h2 := ihd (i + 1) (by omega)
   have e1 : l.take (i + 1) = l.take i ++ [l[i]] := by rw [List.take_add_one, hx]; rfl
   have ht : (rowsT (l.take i)).length = i := by rw [rowsT_length, List.length_take]; omega
   have e2 : List.append (List.take i (rowsT (l.take i))) [l[i].cells] = rowsT (l.take (i + 1)) := by
    rw [List.take_of_length_le (by omega), e1, rowsT_append, rowsT_cons, rowsT_nil]; rfl
   have e3 : Nat.ble (0 + i) (rowsT (l.take i)).length = true := by rw [ht, Nat.ble_eq]; omega
   rw [rowsT_length, decide_eq_true (show (i : Int) < (l.length : Int) by omega), leInt_zero, ltInt_nat, decide_eq_true hil, rowsT_at hx, wrap_succ hil hlen, e3, fits56 (by omega)]
   simp only [cond_true, Bool.and_self, length_cells, Nat.beq_refl, take_cells, kTmC_cells, show Nat.ble 4 4 = true from rfl, av_unf, h1, kOptSome, kTmV_av]
   rw [← Tm.cells_eq, e2]
   exact h2
 apply Gets.get
 exact tenurekit_CopyTerms_run _ (by simpa [rowsT_nil] using loop l.length 0 (by omega))
theorem copyTerm_ev (t : Tm) : t.w < 1099511627776 → EVf (EV cfg) 15 [t.av] = some t.av := by
 induction t using Tm.ind with
 | _ k n s l ih =>
  intro hw
  rw [Tm.w_mk] at hw
  have hlen := wL_len l
  have h := copyTerms_of (l := l) (by omega) fun x hx => ih x hx (by have := wL_mem hx; omega)
  apply Gets.get
  rw [Tm.av_mk]
  refine tenurekit_CopyTerm_run _ _ _ _ ?_
  rw [h]
  have e : (Nat.ble (0 + l.length) (rowsT l).length && true) = true := by rw [Bool.and_true, Nat.ble_eq, rowsT_length]; omega
  have e2 : List.take l.length (List.drop 0 (rowsT l)) = rowsT l := List.take_of_length_le (by simp)
  show Gets (bif (Nat.ble (0 + l.length) (rowsT l).length && true) then some (AV.agg [.int .i64 k, .int .i64 n, .str s, .sl (List.take l.length (List.drop 0 (rowsT l)))]) else none) _
  rw [e, e2]
  exact ⟨_, rfl, rfl⟩
end Go.Proofs.YtkgkjngbfdnoiaaGreat
end

section
namespace Go.Av
theorem fits32 {n : Nat} (h : n ≤ 1099511627776) : fitsIn n 32 = true := by
 unfold fitsIn
 rw [Bool.and_eq_true, Nat.ble_eq, Nat.ble_eq]
 omega
structure BndW (b : Bnd) : Prop where
 kl : b.keys.length ≤ 1048576
 kw : ∀ x ∈ b.keys, x.w ≤ 1048576
 rl : b.rgs.length ≤ 1048576
 rw : ∀ r ∈ b.rgs, r.fst.length ≤ 1048576 ∧ ∀ x ∈ r.fst, x.w ≤ 1048576
theorem BndW.r {b : Bnd} (h : BndW b) : ∀ r ∈ b.rgs, RgW r := fun r hr => ⟨by have := (h.rw r hr).1; omega, fun x hx => by have := (h.rw r hr).2 x hx; omega⟩
theorem kBndR {α : Type} (b : Bnd) (K : Bool → List (List AV) → List (List AV) → Option α) : (kAgg b.av fun cs => kCons cs fun c cs => kBool c fun x => kCons cs fun c cs => kSl c fun r => kCons cs fun c cs => kSl c fun s => kNil cs (K x r s)) = K b.all (rowsT b.keys) (rowsG b.rgs) := rfl
end Go.Av
namespace Go.Proofs.YtkgkjngbfdnoiaaGreat
open Go.Av
set_option maxRecDepth 100000
theorem kFindR {α : Type} (o : Option Tm) (K : Int → Int → List UInt8 → List (List AV) → Bool → Option α) : (kTup (findR o) fun cs => kCons cs fun c cs => kAgg c fun cs_1 => kCons cs_1 fun c cs_2 => kInt .i64 c fun n => kCons cs_2 fun c cs_3 => kInt .i64 c fun n_1 => kCons cs_3 fun c cs_4 => kStr c fun s => kCons cs_4 fun c cs_5 => kSl c fun rows => kNil cs_5 (kCons cs fun c cs => kBool c fun b => kNil cs (K n n_1 s rows b))) = K (o.getD zeroT).kind (o.getD zeroT).num (o.getD zeroT).str (rowsT (o.getD zeroT).subs) o.isSome := by
 have : findR o = .tup [(o.getD zeroT).av, .bool o.isSome] := by cases o <;> rfl
 rw [this]
 obtain ⟨k, n, s, l⟩ := o.getD zeroT
 rw [Tm.av_mk]; rfl
theorem copyTs_ev {l : List Tm} (hlen : l.length ≤ 1048576) (hw : ∀ x ∈ l, x.w ≤ 1048576) : EVo (EV cfg) 23 [.sl (rowsT l)] = some (OV.own 4 (rowsT l) 0 l.length) :=
 copyTerms_of (by omega) fun x hx => copyTerm_ev x (by have := hw x hx; omega)
theorem own21_ev {b : Bnd} (hb : BndW b) : EVf (EV cfg) 61 [b.av] = some b.av := by
 have hk := copyTs_ev hb.kl hb.kw
 have hrl := hb.rl
 have row : ∀ (i : Nat) (h : i < b.rgs.length) (k : List AV → Option AV), kOpt (List.get?Internal (rowsG b.rgs) (Int.toNat (i : Int))) k = k [.int .i64 b.rgs[i].ar, .sl (rowsT b.rgs[i].fst)] := fun i h k => by
  rw [get?Internal_eq, Int.toNat_natCast, rowsG_get, List.getElem?_eq_getElem h]; rfl
 have tk : ∀ (l : List Tm), List.take l.length (List.drop 0 (rowsT l)) = rowsT l := fun l => List.take_of_length_le (by simp)
 have bl : ∀ (l : List Tm), Nat.ble (0 + l.length) (rowsT l).length = true := fun l => by rw [Nat.ble_eq, rowsT_length]; omega
 have e1 : ∀ {i : Nat} (h : i < b.rgs.length), b.rgs.take (i + 1) = b.rgs.take i ++ [b.rgs[i]] := fun {i} h => by rw [List.take_add_one, List.getElem?_eq_getElem h]; rfl
 have cp : ∀ (i : Nat) (h : i < b.rgs.length), EVo (EV cfg) 23 [.sl (rowsT b.rgs[i].fst)] = some (OV.own 4 (rowsT b.rgs[i].fst) 0 b.rgs[i].fst.length) := fun i h => by
  have := hb.rw _ (List.getElem_mem h)
  exact copyTs_ev this.1 this.2
 have loop : ∀ (d i : Nat), i + d = b.rgs.length → Gets (wrd61_0c i b.all (rowsT b.keys) (rowsG b.rgs) false b.all (rowsT b.keys) i (rowsG (b.rgs.take i))) (· = b.av) := by
  intro d
  induction d with
  | zero =>
   intro i hi
   obtain rfl : i = b.rgs.length := by omega
   refine wrd61_0c_step _ _ _ _ _ _ _ _ _ ?_
   have hb : Nat.ble (0 + b.rgs.length) (rowsG b.rgs).length = true := by rw [Nat.ble_eq, rowsG_len]; omega
   have ht : List.take b.rgs.length (rowsG b.rgs) = rowsG b.rgs := List.take_of_length_le (by rw [rowsG_len]; omega)
   rw [rowsG_len, decide_eq_false (by omega), List.take_length, hb, ht]
   exact ⟨_, rfl, rfl⟩
  | succ d ih =>
   intro i hi
   have hil : i < b.rgs.length := by omega
   have h := ih (i + 1) (by omega)
   refine wrd61_0c_step _ _ _ _ _ _ _ _ _ ?_
   have e3 : Nat.ble (0 + i) (rowsG (b.rgs.take i)).length = true := by rw [Nat.ble_eq, rowsG_len, List.length_take]; omega
   have e2 : List.append (List.take i (rowsG (b.rgs.take i))) [[AV.int .i64 b.rgs[i].ar, .sl (rowsT b.rgs[i].fst)]] = rowsG (b.rgs.take (i + 1)) := by
    rw [List.take_of_length_le (by rw [rowsG_len, List.length_take]; omega), e1 hil]; unfold rowsG; rw [List.map_append]; rfl
   rw [rowsG_len, decide_eq_true (show (i : Int) < (b.rgs.length : Int) by omega), leInt_zero, ltInt_nat, decide_eq_true hil, wrap_succ hil (by omega), e3, fits32 (show i + 1 ≤ 1099511627776 by omega)]
   simp only [row i hil]
   simp only [cond_true, Bool.and_self, List.length_cons, List.length_nil, show Nat.beq (0 + 1 + 1) 2 = true from rfl, get?Internal_eq, List.getElem?_cons_zero, List.getElem?_cons_succ, kOptSome, kInt_int, kSl_sl, cp i hil, kOwn_own, bl, tk, e2]
   exact h
 apply Gets.get
 refine own21_run _ _ _ ?_
 rw [hk]
 simp only [kOptSome, kOwn_own, bl, tk, Bool.and_self, cond_true]
 refine wrd61_0a_step _ _ _ _ _ _ _ ?_
 by_cases h0 : b.rgs = []
 ·rw [h0]
  refine ⟨_, rfl, ?_⟩
  unfold Bnd.av
  rw [h0]; rfl
 ·have hil : 0 < b.rgs.length := List.length_pos_iff.2 h0
  have h := loop (b.rgs.length - 1) 1 (by omega)
  have w1 : IntKind.wrap .i64 (0 + 1) = ((1 : Nat) : Int) := wrap64 (by omega) (by omega)
  have e6 : rowsG (b.rgs.take 1) = [[AV.int .i64 b.rgs[0].ar, .sl (rowsT b.rgs[0].fst)]] := by rw [e1 hil]; rfl
  have l0 : leInt 0 0 = true := rfl
  have l1 : ltInt 0 (b.rgs.length : Int) = true := decide_eq_true (by omega)
  have r0 : ∀ (k : List AV → Option AV), kOpt (List.get?Internal (rowsG b.rgs) (Int.toNat 0)) k = k [.int .i64 b.rgs[0].ar, .sl (rowsT b.rgs[0].fst)] := row 0 hil
  rw [rowsG_len, decide_eq_true (show (0 : Int) < (b.rgs.length : Int) by omega), l0, l1, w1, fits32 (show 1 ≤ 1099511627776 by omega)]
  simp only [r0]
  simp only [cond_true, Bool.and_self, List.length_cons, List.length_nil, show Nat.beq (0 + 1 + 1) 2 = true from rfl, get?Internal_eq, List.getElem?_cons_zero, List.getElem?_cons_succ, kOptSome, kInt_int, kSl_sl, cp 0 hil, kOwn_own, bl, tk]
  rw [← e6]
  exact h
theorem sameTs_true {l : List Tm} (hlen : l.length ≤ 1048576) (hw : ∀ x ∈ l, x.w ≤ 1048576) : EVs (EV cfg) 26 [.sl (rowsT l), .sl (rowsT l)] = some (.bool true) := by
 obtain ⟨_, h1, b, rfl, h2⟩ := sameL_ev (OkL_iff.2 fun x hx => okT_w (hw x hx)) (by omega) l
 rw [h1, h2.2 rfl]
theorem same21_ev {b : Bnd} (hb : BndW b) : EVs (EV cfg) 58 [b.av, b.av] = some (.bool true) := by
 have hrl := hb.rl
 have row : ∀ (i : Nat) (h : i < b.rgs.length) (k : List AV → Option AV), kOpt (List.get?Internal (rowsG b.rgs) (Int.toNat (i : Int))) k = k [.int .i64 b.rgs[i].ar, .sl (rowsT b.rgs[i].fst)] := fun i h k => by
  rw [get?Internal_eq, Int.toNat_natCast, rowsG_get, List.getElem?_eq_getElem h]; rfl
 have loop : ∀ (d i : Nat), i + d = b.rgs.length → Gets (wrd58_0 i b.all (rowsT b.keys) (rowsG b.rgs) b.all (rowsT b.keys) (rowsG b.rgs)) (· = .bool true) := by
  intro d
  induction d with
  | zero =>
   intro i hi
   refine wrd58_0_step _ _ _ _ _ _ _ ?_
   rw [rowsG_len, decide_eq_false (by omega)]
   exact ⟨_, rfl, rfl⟩
  | succ d ih =>
   intro i hi
   have hil : i < b.rgs.length := by omega
   have h := ih (i + 1) (by omega)
   have hr := hb.rw _ (List.getElem_mem hil)
   have hs := sameTs_true hr.1 hr.2
   refine wrd58_0_step _ _ _ _ _ _ _ ?_
   rw [rowsG_len, decide_eq_true (show (i : Int) < (b.rgs.length : Int) by omega), leInt_zero, ltInt_nat, decide_eq_true hil, wrap_succ hil (by omega)]
   simp only [row i hil]
   simp only [cond_true, Bool.and_self, List.length_cons, List.length_nil, show Nat.beq (0 + 1 + 1) 2 = true from rfl, get?Internal_eq, List.getElem?_cons_zero, List.getElem?_cons_succ, kOptSome, kInt_int, kSl_sl, bneD, decide_true, Bool.not_true, cond_false, hs, kBool_bool]
   exact h
 apply Gets.get
 refine same21_run _ _ _ _ _ _ ?_
 rw [sameTs_true hb.kl hb.kw]
 simp only [kOptSome, kBool_bool, bneD, decide_true, Bool.not_true, cond_false, beq_self_eq_true]
 exact loop b.rgs.length 0 (by omega)
theorem large21'_ev {l : List Tm} (hl : OkL l) (hlen : l.length < 1099511627776) : Gets (EVs (EV cfg) 55 [.sl (rowsT l)]) AV.IsBool := by
 have loop : ∀ (d i : Nat), i + d = l.length → Gets (wrc7_0 (rowsT l) i) AV.IsBool := by
  intro d
  induction d with
  | zero =>
   intro i hi
   refine wrc7_0_step _ _ ?_
   rw [rowsT_length, decide_eq_false (by omega)]
   exact ⟨_, rfl, _, rfl⟩
  | succ d ihd =>
   intro i hi
   refine wrc7_0_step _ _ ?_
   have hil : i < l.length := by omega
   have hxi : l[i]? = some l[i] := List.getElem?_eq_getElem hil
   have hb := bigV_ev (hl.get (List.mem_of_getElem? hxi)) (most := 400) (by omega) (by omega)
   rw [wrap_succ hil hlen]
   simp [hil, hxi]
   refine Gets.bind hb ?_
   rintro _ ⟨b, rfl, _⟩
   cases b with
   | true => exact ⟨_, rfl, _, rfl⟩
   | false => simpa using ihd (i + 1) (by omega)
 exact large21_run _ (loop l.length 0 (by omega))
theorem wideB_ev {b : Bnd} (hb : BndW b) : Gets (EVs (EV cfg) 60 [b.av]) AV.IsBool := by
 have hrl := hb.rl
 have hkl := hb.kl
 have inner : ∀ (all : List Tm), all.length ≤ 1099511627700 → (∀ x ∈ all, x.w ≤ 1048576) → ∀ (d i : Nat), i + d = all.length → Gets (wrc15_1 all.length i (rowsT all)) AV.IsBool := by
  intro all hal haw d
  induction d with
  | zero =>
   intro i hi
   refine wrc15_1_step _ _ _ ?_
   rw [decide_eq_false (by omega)]
   exact ⟨_, rfl, _, rfl⟩
  | succ d ihd =>
   intro i hi
   have hil : i < all.length := by omega
   have hxi : all[i]? = some all[i] := List.getElem?_eq_getElem hil
   have hb := bigV_ev (okT_w (haw _ (List.mem_of_getElem? hxi))) (most := 100) (by omega) (by omega)
   refine wrc15_1_step _ _ _ ?_
   rw [decide_eq_true (show (i : Int) < (all.length : Int) by omega), leInt_zero, ltInt_nat, decide_eq_true hil, Nat.zero_add, rowsT_at hxi, wrap_succ hil (by omega)]
   simp only [cond_true, Bool.and_self, length_cells, take_cells, kTmC_cells, show Nat.ble 4 4 = true from rfl, av_unf]
   refine Gets.bind hb ?_
   rintro _ ⟨b, rfl, _⟩
   cases b with
   | true => exact ⟨_, rfl, _, rfl⟩
   | false => exact ihd (i + 1) (by omega)
 have row : ∀ (i : Nat) (h : i < b.rgs.length) (k : List AV → Option AV), kOpt (List.get?Internal (rowsG b.rgs) (Int.toNat (i : Int))) k = k [.int .i64 b.rgs[i].ar, .sl (rowsT b.rgs[i].fst)] := fun i h k => by
  rw [get?Internal_eq, Int.toNat_natCast, rowsG_get, List.getElem?_eq_getElem h]; rfl
 have outer : ∀ (d i : Nat) (all : List Tm), i + d = b.rgs.length → all.length ≤ 1048576 + 70 * i → (∀ x ∈ all, x.w ≤ 1048576) → Gets (wrc15_0 all.length i b.all (rowsT b.keys) (rowsG b.rgs) (rowsT all)) AV.IsBool := by
  intro d
  induction d with
  | zero =>
   intro i all hi hal haw
   refine wrc15_0_step _ _ _ _ _ _ ?_
   rw [rowsG_len, decide_eq_false (by omega)]
   exact inner all (by omega) haw all.length 0 (by omega)
  | succ d ih =>
   intro i all hi hal haw
   have hil : i < b.rgs.length := by omega
   have hr := hb.rw _ (List.getElem_mem hil)
   refine wrc15_0_step _ _ _ _ _ _ ?_
   rw [rowsG_len, decide_eq_true (show (i : Int) < (b.rgs.length : Int) by omega), leInt_zero, ltInt_nat, decide_eq_true hil, wrap_succ hil (by omega)]
   simp only [row i hil]
   simp only [cond_true, Bool.and_self, List.length_cons, List.length_nil, show Nat.beq (0 + 1 + 1) 2 = true from rfl, get?Internal_eq, List.getElem?_cons_zero, List.getElem?_cons_succ, kOptSome, kSl_sl, rowsT_length]
   by_cases h70 : (b.rgs[i].fst.length : Int) > 70
   ·rw [decide_eq_true h70]; exact ⟨_, rfl, _, rfl⟩
   ·have r4 : rowsOk 4 (rowsT b.rgs[i].fst) = true := rowsOk_rowsT _
    have f1 : fitsIn (all.length + b.rgs[i].fst.length) 56 = true := fits56 (by omega)
    have e3 : Nat.ble (0 + all.length) all.length = true := by rw [Nat.ble_eq]; omega
    have ap : List.append (List.take all.length (rowsT all)) (rowsT b.rgs[i].fst) = rowsT (all ++ b.rgs[i].fst) := by
     rw [List.take_of_length_le (by simp), rowsT_append]; rfl
    rw [decide_eq_false h70]
    simp only [cond_false, r4, cond_true, f1, ap, e3, Bool.and_self]
    have := ih (i + 1) (all ++ b.rgs[i].fst) (by omega) (by rw [List.length_append]; omega) (fun x hx => (List.mem_append.1 hx).elim (haw x) (hr.2 x))
    rw [List.length_append] at this
    exact this
 refine wide21_run _ _ _ ?_
 rw [rowsT_length, rowsG_len]
 cases decide ((b.keys.length : Int) > 30) with
 | true => exact ⟨_, rfl, _, rfl⟩
 | false =>
 cases decide ((b.rgs.length : Int) > 30) with
 | true => exact ⟨_, rfl, _, rfl⟩
 | false =>
  have r4 : rowsOk 4 (rowsT b.keys) = true := rowsOk_rowsT _
  have f1 : fitsIn (0 + b.keys.length) 56 = true := fits56 (by omega)
  simp only [cond_false, r4, cond_true, f1]
  have := outer b.rgs.length 0 b.keys (by omega) (by omega) hb.kw
  rw [Nat.zero_add]
  exact this
end Go.Proofs.YtkgkjngbfdnoiaaGreat
namespace Go.Proofs.YtkgkjngbfdnoiaaGreat.R
open Go.Av
set_option maxRecDepth 100000
theorem boundAwake_ev : EVs (EV cfg) 59 [] = some (.bool true) := by
 have h := K.boundAwake_k48
 have hx : cfg.ext 59 = some (EV K.cfg (.f 59)) := rfl
 unfold EVs at h ⊢
 obtain ⟨q, h1, h2⟩ := Option.map_eq_some_iff.1 h
 have : EV cfg (.f 59) [] [] = some q := EV_of (by unfold evBody; simp only [hx]; exact h1)
 rw [this]; exact congrArg some h2
theorem boundOne_ev {b : Bnd} (hkw : ∀ x ∈ b.keys, x.w < 1099511627776) : EVg (EV cfg) 62 [b.av] = some (findR (oneG b)) := by
 apply Gets.get
 refine boundOneR_run _ _ _ ?_
 unfold zA0
 rw [rowsG_len, rowsT_length, bneD, ← zeroT_av]
 unfold oneG
 cases hb : b.all with
 | true => exact ⟨_, rfl, rfl⟩
 | false =>
 cases hr : b.rgs with
 | cons r l =>
  rw [if_pos (.inr (by simp)), decide_eq_true (show ((r :: l).length : Int) > 0 by simp)]
  exact ⟨_, rfl, rfl⟩
 | nil =>
 rw [if_neg (by simp)]
 match hk : b.keys with
 | [] => exact ⟨_, rfl, rfl⟩
 | [x] =>
  have h1 := copyR_ev (ok_of_w x (hkw x (by rw [hk]; simp)))
  have g0 : List.get?Internal (rowsT [x]) 0 = some x.cells := by rw [rowsT_cons]; rfl
  rw [g0]
  simp only [List.length_nil, List.length_cons, kOptSome, length_cells, Nat.beq_refl, take_cells, kTmC_cells, show Nat.ble 4 4 = true from rfl, cond_true, av_unf, h1, kTmV_av]
  exact ⟨_, rfl, rfl⟩
 | x :: y :: l =>
  rw [decide_eq_false (show ¬ ((x :: y :: l).length : Int) = 1 by simp; omega)]
  exact ⟨_, rfl, rfl⟩
theorem boundMeets_ev {b : Bnd} (hb : BndW b) {r : Rg} (hr : r.fst.length ≤ 1048576) (hrw : ∀ x ∈ r.fst, x.w ≤ 1048576) {k : Tm} (hk : k.w ≤ 1048576) : EVs (EV cfg) 11 [b.av, r.av, k.av] = some (.bool true) := by
 have wk : k.w < 1099511627776 := by omega
 have kw : ∀ x ∈ b.keys, x.w < 1099511627776 := fun x hx => by have := hb.kw x hx; omega
 have hkl := hb.kl
 have hrl := hb.rl
 have rg : RgW r := ⟨by omega, fun x hx => by have := hrw x hx; omega⟩
 have h1 := wideB_ev hb
 have h2 := wideB_ev (b := ⟨false, [], [r]⟩) ⟨by simp, by simp, by simp, by simpa using ⟨hr, hrw⟩⟩
 have h3 := large21'_ev (l := [k]) (okL_of_w (by rw [wL_cons, wL_nil]; omega)) (by simp)
 have h4 := own21_ev hb
 have h5 := copyTerm_ev k wk
 have h6 := boundOne_ev kw
 have h7 := r21One_ev kw
 have h8 := bMeets_ev (by omega) kw (by omega) hb.r wk
 have h9 := r21Meets_ev (by omega) kw (by omega) hb.r wk
 have h10 := bSide_ev rg wk
 have h11 := r21Side_ev rg wk
 have h12 := same21_ev hb
 have h13 : EVs (EV Go.Proofs.YtkgkjngbfdnoiaaGreat.cfg) 19 [k.av, k.av] = some (.bool true) := sameT_dec (ok_of_w _ wk) (by simp)
 have hv : ((oneG b).getD zeroT).Ok := by
  unfold oneG
  have hz : zeroT.Ok := ok_of_w _ (by unfold zeroT; rw [Tm.w_mk]; simp)
  split
  ·exact hz
  ·match hk : b.keys with
   | [] => exact hz
   | [x] => exact ok_of_w _ (kw x (by rw [hk]; simp))
   | x :: y :: l => exact hz
 have h14 : EVs (EV Go.Proofs.YtkgkjngbfdnoiaaGreat.cfg) 19 [((oneG b).getD zeroT).av, ((oneG b).getD zeroT).av] = some (.bool true) := sameT_dec hv (by simp)
 have h15 := overT_ev _ hv
 unfold avR at h15
 rw [← evs_k _ rfl rfl] at h1 h2 h3 h8 h9 h10 h11 h12 h13 h14
 rw [← evf_k _ rfl rfl] at h4 h5 h7
 have er : rowsT [k] = [[AV.int .i64 k.kind, .int .i64 k.num, .str k.str, .sl (rowsT k.subs)]] := by rw [rowsT_cons, rowsT_nil, Tm.cells_eq]
 rw [er] at h3
 apply Gets.get
 rw [agg_av k]
 refine law21Meets_run _ _ _ _ _ _ _ _ _ ?_
 refine Gets.bind h1 ?_
 rintro _ ⟨c1, rfl⟩
 cases c1 with
 | true => exact ⟨_, rfl, rfl⟩
 | false =>
 simp only [kBool_bool, cond_false]
 rw [show refsLtL 0 [.agg [.bool false, .sl [], .sl [[AV.int .i64 r.ar, .sl (rowsT r.fst)]]]] = true by simp [refsLtL, AV.refsLt], cond_true]
 refine Gets.bind h2 ?_
 rintro _ ⟨c2, rfl⟩
 cases c2 with
 | true => exact ⟨_, rfl, rfl⟩
 | false =>
 simp only [kBool_bool, cond_false]
 refine Gets.bind h3 ?_
 rintro _ ⟨c3, rfl⟩
 cases c3 with
 | true => exact ⟨_, rfl, rfl⟩
 | false =>
 simp only [kBool_bool, cond_false, av_unf]
 rw [h5]
 change Gets (kOpt (EVf (EV cfg) _ [b.av]) _) _
 rw [h4]
 simp only [kOptSome, kTmV_av, av_unf, kBndR]
 change Gets (kOpt (EVg (EV cfg) _ [b.av]) _) _
 rw [h6]
 simp only [kOptSome, kFindR]
 change Gets (kOpt (EVf (EV cfg) _ [b.av]) _) _
 rw [h7]
 simp only [kOptSome, kFindR]
 rw [agg_av ((oneG b).getD zeroT)] at h14
 unfold Bnd.av at h8 h9 h12
 unfold Rg.av Rg.cells at h10 h11
 simp only [h14, h15, h8, h9, h10, h11, h12, h13, boundAwake_ev, kOptSome, kBool_bool, kInt_int, bneD, decide_true, Bool.not_true, cond_false, cond_true, beq_self_eq_true]
 exact ⟨_, rfl, rfl⟩
end Go.Proofs.YtkgkjngbfdnoiaaGreat.R
end

section
namespace Go.Proofs.YtkgkjngbfdnoiaaGreat
open Go.Av
set_option maxRecDepth 100000
def bdTys : List TypeId := [77, 75, 82, 24, 22, 3, 9, 4]
theorem bdTys_good : ∀ t ∈ bdTys, goodTy Tryz.prog bdTys t = true := by
 have : bdTys.all (goodTy Tryz.prog bdTys) = true := by kernel_rfl
 exact List.all_eq_true.1 this
theorem lay_intB {n : Nat} {cz : List AV} (h : Lay Tryz.prog n 3 cz) : ∃ m, cz = [.int .i64 m] := by
 cases n with
 | zero => exact absurd h (by unfold Lay; exact id)
 | succ n =>
  unfold Lay at h
  rw [Tryz.underlying3] at h
  obtain ⟨m, h, _⟩ := h
  exact ⟨m, h⟩
theorem lay_boolB {n : Nat} {cz : List AV} (h : Lay Tryz.prog n 4 cz) : ∃ m, cz = [.bool m] := by
 cases n with
 | zero => exact absurd h (by unfold Lay; exact id)
 | succ n =>
  unfold Lay at h
  rw [Tryz.underlying4] at h
  obtain ⟨m, h⟩ := h
  exact ⟨m, h⟩
theorem lay_tlistB {n : Nat} {cz : List AV} (h : Lay Tryz.prog n 22 cz) : ∃ l : List Tm, cz = [.sl (rowsT l)] ∧ wL l < wtL cz := (lay_terms term_tys n).2 cz h
theorem lay_rangeB {n : Nat} {cz : List AV} (h : Lay Tryz.prog n 82 cz) : ∃ r : Rg, cz = r.cells ∧ wL r.fst < wtL cz := by
 cases n with
 | zero => exact absurd h (by unfold Lay; exact id)
 | succ n =>
  unfold Lay at h
  rw [Tryz.underlying82] at h
  obtain ⟨hl, hf⟩ := h
  have hl : cz.length = 2 := by rw [hl]; kernel_rfl
  match cz, hl with
  | [a, b], _ =>
   have h0 : Lay Tryz.prog n 3 ((([a, b] : List AV).drop 0).take (Tryz.prog.cellsOf 3)) := hf 0 _ rfl
   have h1 : Lay Tryz.prog n 22 ((([a, b] : List AV).drop 1).take (Tryz.prog.cellsOf 22)) := hf 1 _ rfl
   rw [show Tryz.prog.cellsOf 3 = 1 by kernel_rfl] at h0
   rw [show Tryz.prog.cellsOf 22 = 1 by kernel_rfl] at h1
   obtain ⟨m, e0⟩ := lay_intB h0
   obtain ⟨L, e1, w1⟩ := lay_tlistB h1
   simp at e0 e1 w1
   subst e0 e1
   refine ⟨⟨m, L⟩, rfl, ?_⟩
   simp at w1 ⊢
   omega
theorem lay_rangesB {n : Nat} {cz : List AV} (h : Lay Tryz.prog n 75 cz) : ∃ l : List Rg, cz = [.sl (rowsG l)] ∧ (∀ r ∈ l, wL r.fst < wtL cz) ∧ l.length < wtL cz := by
 cases n with
 | zero => exact absurd h (by unfold Lay; exact id)
 | succ n =>
  unfold Lay at h
  rw [Tryz.underlying75] at h
  obtain ⟨rows, rfl, hr⟩ := h
  obtain ⟨l, rfl, w1, w2⟩ := lay_rows (w := fun r : Rg => wL r.fst) (fun cz h => lay_rangeB h) rows hr
  refine ⟨l, rfl, fun r hr => ?_, ?_⟩
  ·have := w1 r hr; simp; omega
  ·simp; omega
theorem lay_boundB {n : Nat} {cz : List AV} (h : Lay Tryz.prog n 77 cz) : ∃ b : Bnd, .agg cz = b.av ∧ wL b.keys < wtL cz ∧ (∀ r ∈ b.rgs, wL r.fst < wtL cz) ∧ b.rgs.length < wtL cz := by
 cases n with
 | zero => exact absurd h (by unfold Lay; exact id)
 | succ n =>
  unfold Lay at h
  rw [Tryz.underlying77] at h
  obtain ⟨hl, hf⟩ := h
  have hl : cz.length = 3 := by rw [hl]; kernel_rfl
  match cz, hl with
  | [a, b, c], _ =>
   have h0 : Lay Tryz.prog n 4 ((([a, b, c] : List AV).drop 0).take (Tryz.prog.cellsOf 4)) := hf 0 _ rfl
   have h1 : Lay Tryz.prog n 22 ((([a, b, c] : List AV).drop 1).take (Tryz.prog.cellsOf 22)) := hf 1 _ rfl
   have h2 : Lay Tryz.prog n 75 ((([a, b, c] : List AV).drop 2).take (Tryz.prog.cellsOf 75)) := hf 2 _ rfl
   rw [show Tryz.prog.cellsOf 4 = 1 by kernel_rfl] at h0
   rw [show Tryz.prog.cellsOf 22 = 1 by kernel_rfl] at h1
   rw [show Tryz.prog.cellsOf 75 = 1 by kernel_rfl] at h2
   obtain ⟨m, e0⟩ := lay_boolB h0
   obtain ⟨L, e1, w1⟩ := lay_tlistB h1
   obtain ⟨R, e2, w2, w3⟩ := lay_rangesB h2
   simp at e0 e1 e2 w1 w2 w3
   subst e0 e1 e2
   refine ⟨⟨m, L, R⟩, rfl, ?_, fun r hr => ?_, ?_⟩
   ·simp at w1 ⊢; omega
   ·have := w2 r hr; simp at this ⊢; omega
   ·simp at w3 ⊢; omega
theorem open_boundB {H : Type} {enc : TypeId × Value → H} {W : World} {r : Reach} {b0 : Nat} {v : Value} {d : DataW H} {ps : List MemPlace} (hval : Value.okWide Tryz.prog W r b0 77 v) (hd : DataW.Trod enc Tryz.prog W 0 (fun _ => true) true 77 v d ps) :
  ∃ b : Bnd, Opened enc Tryz.prog W 77 v d ps b.av ∧ (Rows.uptoBulk d ≤ 1048576 → BndW b) := by
 obtain ⟨cz, n, h1, h2, h3⟩ := open_struct bdTys_good (by simp [bdTys]) Tryz.underlying77 hval hd
 obtain ⟨b, e, w0, w1, w2⟩ := lay_boundB h2
 rw [e] at h1
 refine ⟨b, h1, fun h => ⟨?_, fun x hx => ?_, by omega, fun q hq => ⟨?_, fun x hx => ?_⟩⟩⟩
 ·have := len_wL b.keys; omega
 ·have := wL_mem hx; omega
 ·have := len_wL q.fst; have := w1 q hq; omega
 ·have := wL_mem hx; have := w1 q hq; omega
theorem open_rangeB {H : Type} {enc : TypeId × Value → H} {W : World} {r : Reach} {b0 : Nat} {v : Value} {d : DataW H} {ps : List MemPlace} (hval : Value.okWide Tryz.prog W r b0 82 v) (hd : DataW.Trod enc Tryz.prog W 0 (fun _ => true) true 82 v d ps) :
  ∃ r : Rg, Opened enc Tryz.prog W 82 v d ps r.av ∧ wL r.fst ≤ Rows.uptoBulk d := by
 obtain ⟨cz, n, h1, h2, h3⟩ := open_struct bdTys_good (by simp [bdTys]) Tryz.underlying82 hval hd
 obtain ⟨r, rfl, w0⟩ := lay_rangeB h2
 exact ⟨r, h1, by omega⟩
end Go.Proofs.YtkgkjngbfdnoiaaGreat
end
