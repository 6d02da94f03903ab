/-
  Parts of the proof of SpecGuardedUptoSaid, put together: the abstract evaluation and its contracts. Own work.
  What is proved: each lemma as it stands; no condition.
-/
import Derived.Test.YtonmmmgffeoiiaaZSpecGuardedM5

section
namespace Go.Proofs.Ytonmmmgffeoiiaa
open Go.Av
set_option maxRecDepth 100000
set_option maxHeartbeats 0

noncomputable def Jn4_0 : List AV × AH → Option AV := fun p => kOpt (CUT p) fun p => kCode cfg (EV cfg) (kfN cfg 6) 4 none 0 (sub (bodyOf Try.f4) [1, 1, 1, 1, 1, 1, 1, 1, 1, 1]) p.1 p.2 (kRun cfg (EV cfg) (kfN cfg 6) 4 none 0 (kFinS cfg (Cfg.lift cfg 4 0) Try.f4.results.toList) ([]))
noncomputable def Jn4_1 : List AV × AH → Option AV := fun p => kOpt (CUT p) fun p => kCode cfg (EV cfg) (kfN cfg 6) 4 none 0 (sub (bodyOf Try.f4) [1, 1, 1, 1, 1, 1, 1, 1, 1, 1, 1]) p.1 p.2 (kRun cfg (EV cfg) (kfN cfg 6) 4 none 0 (kFinS cfg (Cfg.lift cfg 4 0) Try.f4.results.toList) ([]))
noncomputable def Jn4_2 : List AV × AH → Option AV := fun p => kOpt (CUT p) fun p => kCode cfg (EV cfg) (kfN cfg 6) 4 none 0 (sub (bodyOf Try.f4) [1, 1, 1, 1, 1, 1, 1, 1, 1, 1, 1, 1]) p.1 p.2 (kRun cfg (EV cfg) (kfN cfg 6) 4 none 0 (kFinS cfg (Cfg.lift cfg 4 0) Try.f4.results.toList) ([]))
noncomputable def Jn4_3 : List AV × AH → Option AV := fun p => kOpt (CUT p) fun p => kCode cfg (EV cfg) (kfN cfg 6) 4 none 0 (sub (bodyOf Try.f4) [1, 1, 1, 1, 1, 1, 1, 1, 1, 1, 1, 1, 1, 1]) p.1 p.2 (kRun cfg (EV cfg) (kfN cfg 6) 4 none 0 (kFinS cfg (Cfg.lift cfg 4 0) Try.f4.results.toList) ([]))
noncomputable def Jn4_4 : List AV × AH → Option AV := fun p => kOpt (CUT p) fun p => kCode cfg (EV cfg) (kfN cfg 6) 4 none 0 (sub (bodyOf Try.f4) [1, 1, 1, 1, 1, 1, 1, 1, 1, 1, 1, 1, 1, 1, 1]) p.1 p.2 (kRun cfg (EV cfg) (kfN cfg 6) 4 none 0 (kFinS cfg (Cfg.lift cfg 4 0) Try.f4.results.toList) ([]))
noncomputable abbrev jn4_0 (n : Int) (n' : Int) (s : List UInt8) (rows : List (List AV)) (rows' : List (List AV)) (rows'' : List (List AV)) (v3 : Int) (v9 : Bool) (v16 : Bool) (c0_0 : Int) (c0_1 : Int) (c0_2 : List UInt8) (c0_3 : List (List AV)) (c1_0 : Int) (c1_1 : Int) (c1_2 : List UInt8) (c1_3 : List (List AV)) (c2_0 : Int) (c2_1 : Int) (c2_2 : List UInt8) (c2_3 : List (List AV)) (h3 : List (List AV)) (c4_0 : Int) (c4_1 : Int) (c4_2 : List UInt8) (c4_3 : List (List AV)) (c4_4 : List (List AV)) (c4_5 : List (List AV)) (c6_0 : Int) (c6_1 : Int) (c6_2 : List UInt8) (c6_3 : List (List AV)) (c7_0 : Int) (c7_1 : Int) (c7_2 : List UInt8) (c7_3 : List (List AV)) : Option (AV) := Jn4_0  (((fx 194 [(3, AV.int IntKind.i64 v3), (5, AV.ptr (1 : Nat) (0 : Nat) (0 : Nat)), (6, AV.ptr (2 : Nat) (0 : Nat) (0 : Nat)), (9, AV.bool v9), (12, AV.ptr (4 : Nat) (0 : Nat) (0 : Nat)), (15, AV.ptr (7 : Nat) (0 : Nat) (0 : Nat)), (16, AV.bool v16)]) : List AV), ([ABlk.rows false (4 : Nat) [[AV.int IntKind.i64 c0_0, AV.int IntKind.i64 c0_1, AV.str c0_2, AV.sl c0_3]], ABlk.rows false (4 : Nat) [[AV.int IntKind.i64 c1_0, AV.int IntKind.i64 c1_1, AV.str c1_2, AV.sl c1_3]], ABlk.rows false (4 : Nat) [[AV.int IntKind.i64 c2_0, AV.int IntKind.i64 c2_1, AV.str c2_2, AV.sl c2_3]], ABlk.rows true (4 : Nat) h3, ABlk.rows false (6 : Nat) [[AV.int IntKind.i64 c4_0, AV.int IntKind.i64 c4_1, AV.str c4_2, AV.sl c4_3, AV.sl c4_4, AV.sl c4_5]], ABlk.froz true (6 : Nat) [[AV.int IntKind.i64 n, AV.int IntKind.i64 n', AV.str s, AV.sl rows, AV.sl rows', AV.sl rows'']], ABlk.rows false (4 : Nat) [[AV.int IntKind.i64 c6_0, AV.int IntKind.i64 c6_1, AV.str c6_2, AV.sl c6_3]], ABlk.rows false (4 : Nat) [[AV.int IntKind.i64 c7_0, AV.int IntKind.i64 c7_1, AV.str c7_2, AV.sl c7_3]]] : AH))
noncomputable abbrev jn4_1 (n : Int) (n' : Int) (s : List UInt8) (rows : List (List AV)) (rows' : List (List AV)) (rows'' : List (List AV)) (c4_0 : Int) (c4_1 : Int) (c4_2 : List UInt8) (c4_3 : List (List AV)) (c4_4 : List (List AV)) (c4_5 : List (List AV)) (n'' : Int) (n''' : Int) (s' : List UInt8) (rows''' : List (List AV)) (v3 : Int) (v9 : Bool) (v16 : Bool) (v19 : Int) (c0_0 : Int) (c0_1 : Int) (c0_2 : List UInt8) (c0_3 : List (List AV)) (c1_0 : Int) (c1_1 : Int) (c1_2 : List UInt8) (c1_3 : List (List AV)) (c2_0 : Int) (c2_1 : Int) (c2_2 : List UInt8) (c2_3 : List (List AV)) (h3 : List (List AV)) (c4_0' : Int) (c4_1' : Int) (c4_2' : List UInt8) (c4_3' : List (List AV)) (c4_4' : List (List AV)) (c4_5' : List (List AV)) (c6_0 : Int) (c6_1 : Int) (c6_2 : List UInt8) (c6_3 : List (List AV)) (c7_0 : Int) (c7_1 : Int) (c7_2 : List UInt8) (c7_3 : List (List AV)) (c11_0 : Int) (c11_1 : Int) (c11_2 : List UInt8) (c11_3 : List (List AV)) : Option (AV) := Jn4_1  (((fx 194 [(3, AV.int IntKind.i64 v3), (5, AV.ptr (1 : Nat) (0 : Nat) (0 : Nat)), (6, AV.ptr (2 : Nat) (0 : Nat) (0 : Nat)), (9, AV.bool v9), (12, AV.ptr (4 : Nat) (0 : Nat) (0 : Nat)), (15, AV.ptr (7 : Nat) (0 : Nat) (0 : Nat)), (16, AV.bool v16), (18, AV.ptr (11 : Nat) (0 : Nat) (0 : Nat)), (19, AV.int IntKind.i64 v19)]) : List AV), ([ABlk.rows false (4 : Nat) [[AV.int IntKind.i64 c0_0, AV.int IntKind.i64 c0_1, AV.str c0_2, AV.sl c0_3]], ABlk.rows false (4 : Nat) [[AV.int IntKind.i64 c1_0, AV.int IntKind.i64 c1_1, AV.str c1_2, AV.sl c1_3]], ABlk.rows false (4 : Nat) [[AV.int IntKind.i64 c2_0, AV.int IntKind.i64 c2_1, AV.str c2_2, AV.sl c2_3]], ABlk.rows true (4 : Nat) h3, ABlk.rows false (6 : Nat) [[AV.int IntKind.i64 c4_0', AV.int IntKind.i64 c4_1', AV.str c4_2', AV.sl c4_3', AV.sl c4_4', AV.sl c4_5']], ABlk.froz true (6 : Nat) [[AV.int IntKind.i64 n, AV.int IntKind.i64 n', AV.str s, AV.sl rows, AV.sl rows', AV.sl rows'']], ABlk.rows false (4 : Nat) [[AV.int IntKind.i64 c6_0, AV.int IntKind.i64 c6_1, AV.str c6_2, AV.sl c6_3]], ABlk.rows false (4 : Nat) [[AV.int IntKind.i64 c7_0, AV.int IntKind.i64 c7_1, AV.str c7_2, AV.sl c7_3]], ABlk.dead, ABlk.froz true (4 : Nat) ([AV.int IntKind.i64 n'', AV.int IntKind.i64 n''', AV.str s', AV.sl rows'''] :: c4_4), ABlk.froz true (6 : Nat) [[AV.int IntKind.i64 c4_0, AV.int IntKind.i64 c4_1, AV.str c4_2, AV.sl c4_3, AV.sl (List.take ((1 : Nat) + List.length c4_4) ([AV.int IntKind.i64 n'', AV.int IntKind.i64 n''', AV.str s', AV.sl rows'''] :: c4_4)), AV.sl c4_5]], ABlk.rows false (4 : Nat) [[AV.int IntKind.i64 c11_0, AV.int IntKind.i64 c11_1, AV.str c11_2, AV.sl c11_3]]] : AH))
noncomputable abbrev jn4_2 (n : Int) (n' : Int) (s : List UInt8) (rows : List (List AV)) (rows' : List (List AV)) (rows'' : List (List AV)) (c4_0 : Int) (c4_1 : Int) (c4_2 : List UInt8) (c4_3 : List (List AV)) (c4_4 : List (List AV)) (c4_5 : List (List AV)) (n'' : Int) (n''' : Int) (s' : List UInt8) (rows''' : List (List AV)) (c4_0' : Int) (c4_1' : Int) (c4_2' : List UInt8) (c4_3' : List (List AV)) (c4_4' : List (List AV)) (c4_5' : List (List AV)) (n'''' : Int) (n''''' : Int) (s'' : List UInt8) (rows'''' : List (List AV)) (n'''''' : Int) (n''''''' : Int) (s''' : List UInt8) (rows''''' : List (List AV)) (n'''''''' : Int) (n''''''''' : Int) (s'''' : List UInt8) (rows'''''' : List (List AV)) (v3 : Int) (v9 : Bool) (v16 : Bool) (v19 : Int) (v21 : Int) (c0_0 : Int) (c0_1 : Int) (c0_2 : List UInt8) (c0_3 : List (List AV)) (c1_0 : Int) (c1_1 : Int) (c1_2 : List UInt8) (c1_3 : List (List AV)) (c2_0 : Int) (c2_1 : Int) (c2_2 : List UInt8) (c2_3 : List (List AV)) (h3 : List (List AV)) (c4_0'' : Int) (c4_1'' : Int) (c4_2'' : List UInt8) (c4_3'' : List (List AV)) (c4_4'' : List (List AV)) (c4_5'' : List (List AV)) (c6_0 : Int) (c6_1 : Int) (c6_2 : List UInt8) (c6_3 : List (List AV)) (c7_0 : Int) (c7_1 : Int) (c7_2 : List UInt8) (c7_3 : List (List AV)) (c11_0 : Int) (c11_1 : Int) (c11_2 : List UInt8) (c11_3 : List (List AV)) (c16_0 : Int) (c16_1 : Int) (c16_2 : List UInt8) (c16_3 : List (List AV)) : Option (AV) := Jn4_2  (((fx 194 [(3, AV.int IntKind.i64 v3), (5, AV.ptr (1 : Nat) (0 : Nat) (0 : Nat)), (6, AV.ptr (2 : Nat) (0 : Nat) (0 : Nat)), (9, AV.bool v9), (12, AV.ptr (4 : Nat) (0 : Nat) (0 : Nat)), (15, AV.ptr (7 : Nat) (0 : Nat) (0 : Nat)), (16, AV.bool v16), (18, AV.ptr (11 : Nat) (0 : Nat) (0 : Nat)), (19, AV.int IntKind.i64 v19), (20, AV.ptr (16 : Nat) (0 : Nat) (0 : Nat)), (21, AV.int IntKind.i64 v21)]) : List AV), ([ABlk.rows false (4 : Nat) [[AV.int IntKind.i64 c0_0, AV.int IntKind.i64 c0_1, AV.str c0_2, AV.sl c0_3]], ABlk.rows false (4 : Nat) [[AV.int IntKind.i64 c1_0, AV.int IntKind.i64 c1_1, AV.str c1_2, AV.sl c1_3]], ABlk.rows false (4 : Nat) [[AV.int IntKind.i64 c2_0, AV.int IntKind.i64 c2_1, AV.str c2_2, AV.sl c2_3]], ABlk.rows true (4 : Nat) h3, ABlk.rows false (6 : Nat) [[AV.int IntKind.i64 c4_0'', AV.int IntKind.i64 c4_1'', AV.str c4_2'', AV.sl c4_3'', AV.sl c4_4'', AV.sl c4_5'']], ABlk.froz true (6 : Nat) [[AV.int IntKind.i64 n, AV.int IntKind.i64 n', AV.str s, AV.sl rows, AV.sl rows', AV.sl rows'']], ABlk.rows false (4 : Nat) [[AV.int IntKind.i64 c6_0, AV.int IntKind.i64 c6_1, AV.str c6_2, AV.sl c6_3]], ABlk.rows false (4 : Nat) [[AV.int IntKind.i64 c7_0, AV.int IntKind.i64 c7_1, AV.str c7_2, AV.sl c7_3]], ABlk.dead, ABlk.froz true (4 : Nat) ([AV.int IntKind.i64 n'', AV.int IntKind.i64 n''', AV.str s', AV.sl rows'''] :: c4_4), ABlk.froz true (6 : Nat) [[AV.int IntKind.i64 c4_0, AV.int IntKind.i64 c4_1, AV.str c4_2, AV.sl c4_3, AV.sl (List.take ((1 : Nat) + List.length c4_4) ([AV.int IntKind.i64 n'', AV.int IntKind.i64 n''', AV.str s', AV.sl rows'''] :: c4_4)), AV.sl c4_5]], ABlk.rows false (4 : Nat) [[AV.int IntKind.i64 c11_0, AV.int IntKind.i64 c11_1, AV.str c11_2, AV.sl c11_3]], ABlk.froz true (4 : Nat) [[AV.int IntKind.i64 n'''', AV.int IntKind.i64 n''''', AV.str s'', AV.sl rows''''], [AV.int IntKind.i64 n'''''', AV.int IntKind.i64 n''''''', AV.str s''', AV.sl rows''''']], ABlk.dead, ABlk.froz true (4 : Nat) ([AV.int IntKind.i64 n'''''''', AV.int IntKind.i64 n''''''''', AV.str s'''', AV.sl rows''''''] :: c4_4'), ABlk.froz true (6 : Nat) [[AV.int IntKind.i64 c4_0', AV.int IntKind.i64 c4_1', AV.str c4_2', AV.sl c4_3', AV.sl (List.take ((1 : Nat) + List.length c4_4') ([AV.int IntKind.i64 n'''''''', AV.int IntKind.i64 n''''''''', AV.str s'''', AV.sl rows''''''] :: c4_4')), AV.sl c4_5']], ABlk.rows false (4 : Nat) [[AV.int IntKind.i64 c16_0, AV.int IntKind.i64 c16_1, AV.str c16_2, AV.sl c16_3]]] : AH))
noncomputable abbrev jn4_3 (n : Int) (n' : Int) (s : List UInt8) (rows : List (List AV)) (rows' : List (List AV)) (rows'' : List (List AV)) (c4_0 : Int) (c4_1 : Int) (c4_2 : List UInt8) (c4_3 : List (List AV)) (c4_4 : List (List AV)) (c4_5 : List (List AV)) (n'' : Int) (n''' : Int) (s' : List UInt8) (rows''' : List (List AV)) (c4_0' : Int) (c4_1' : Int) (c4_2' : List UInt8) (c4_3' : List (List AV)) (c4_4' : List (List AV)) (c4_5' : List (List AV)) (n'''' : Int) (n''''' : Int) (s'' : List UInt8) (rows'''' : List (List AV)) (n'''''' : Int) (n''''''' : Int) (s''' : List UInt8) (rows''''' : List (List AV)) (n'''''''' : Int) (n''''''''' : Int) (s'''' : List UInt8) (rows'''''' : List (List AV)) (v3 : Int) (v9 : Bool) (v16 : Bool) (v19 : Int) (v21 : Int) (v23 : Bool) (v24 : Int) (v26 : Bool) (v27 : Int) (c0_0 : Int) (c0_1 : Int) (c0_2 : List UInt8) (c0_3 : List (List AV)) (c1_0 : Int) (c1_1 : Int) (c1_2 : List UInt8) (c1_3 : List (List AV)) (c2_0 : Int) (c2_1 : Int) (c2_2 : List UInt8) (c2_3 : List (List AV)) (h3 : List (List AV)) (c4_0'' : Int) (c4_1'' : Int) (c4_2'' : List UInt8) (c4_3'' : List (List AV)) (c4_4'' : List (List AV)) (c4_5'' : List (List AV)) (c6_0 : Int) (c6_1 : Int) (c6_2 : List UInt8) (c6_3 : List (List AV)) (c7_0 : Int) (c7_1 : Int) (c7_2 : List UInt8) (c7_3 : List (List AV)) (c11_0 : Int) (c11_1 : Int) (c11_2 : List UInt8) (c11_3 : List (List AV)) (c16_0 : Int) (c16_1 : Int) (c16_2 : List UInt8) (c16_3 : List (List AV)) (c17_0 : Int) (c17_1 : Int) (c17_2 : List UInt8) (c17_3 : List (List AV)) (c18_0 : Int) (c18_1 : Int) (c18_2 : List UInt8) (c18_3 : List (List AV)) : Option (AV) := Jn4_3  (((fx 194 [(3, AV.int IntKind.i64 v3), (5, AV.ptr (1 : Nat) (0 : Nat) (0 : Nat)), (6, AV.ptr (2 : Nat) (0 : Nat) (0 : Nat)), (9, AV.bool v9), (12, AV.ptr (4 : Nat) (0 : Nat) (0 : Nat)), (15, AV.ptr (7 : Nat) (0 : Nat) (0 : Nat)), (16, AV.bool v16), (19, AV.int IntKind.i64 v19), (21, AV.int IntKind.i64 v21), (22, AV.ptr (17 : Nat) (0 : Nat) (0 : Nat)), (23, AV.bool v23), (24, AV.int IntKind.i64 v24), (26, AV.bool v26), (27, AV.int IntKind.i64 v27)]) : List AV), ([ABlk.rows false (4 : Nat) [[AV.int IntKind.i64 c0_0, AV.int IntKind.i64 c0_1, AV.str c0_2, AV.sl c0_3]], ABlk.rows false (4 : Nat) [[AV.int IntKind.i64 c1_0, AV.int IntKind.i64 c1_1, AV.str c1_2, AV.sl c1_3]], ABlk.rows false (4 : Nat) [[AV.int IntKind.i64 c2_0, AV.int IntKind.i64 c2_1, AV.str c2_2, AV.sl c2_3]], ABlk.rows true (4 : Nat) h3, ABlk.rows false (6 : Nat) [[AV.int IntKind.i64 c4_0'', AV.int IntKind.i64 c4_1'', AV.str c4_2'', AV.sl c4_3'', AV.sl c4_4'', AV.sl c4_5'']], ABlk.froz true (6 : Nat) [[AV.int IntKind.i64 n, AV.int IntKind.i64 n', AV.str s, AV.sl rows, AV.sl rows', AV.sl rows'']], ABlk.rows false (4 : Nat) [[AV.int IntKind.i64 c6_0, AV.int IntKind.i64 c6_1, AV.str c6_2, AV.sl c6_3]], ABlk.rows false (4 : Nat) [[AV.int IntKind.i64 c7_0, AV.int IntKind.i64 c7_1, AV.str c7_2, AV.sl c7_3]], ABlk.dead, ABlk.froz true (4 : Nat) ([AV.int IntKind.i64 n'', AV.int IntKind.i64 n''', AV.str s', AV.sl rows'''] :: c4_4), ABlk.froz true (6 : Nat) [[AV.int IntKind.i64 c4_0, AV.int IntKind.i64 c4_1, AV.str c4_2, AV.sl c4_3, AV.sl (List.take ((1 : Nat) + List.length c4_4) ([AV.int IntKind.i64 n'', AV.int IntKind.i64 n''', AV.str s', AV.sl rows'''] :: c4_4)), AV.sl c4_5]], ABlk.rows false (4 : Nat) [[AV.int IntKind.i64 c11_0, AV.int IntKind.i64 c11_1, AV.str c11_2, AV.sl c11_3]], ABlk.froz true (4 : Nat) [[AV.int IntKind.i64 n'''', AV.int IntKind.i64 n''''', AV.str s'', AV.sl rows''''], [AV.int IntKind.i64 n'''''', AV.int IntKind.i64 n''''''', AV.str s''', AV.sl rows''''']], ABlk.dead, ABlk.froz true (4 : Nat) ([AV.int IntKind.i64 n'''''''', AV.int IntKind.i64 n''''''''', AV.str s'''', AV.sl rows''''''] :: c4_4'), ABlk.froz true (6 : Nat) [[AV.int IntKind.i64 c4_0', AV.int IntKind.i64 c4_1', AV.str c4_2', AV.sl c4_3', AV.sl (List.take ((1 : Nat) + List.length c4_4') ([AV.int IntKind.i64 n'''''''', AV.int IntKind.i64 n''''''''', AV.str s'''', AV.sl rows''''''] :: c4_4')), AV.sl c4_5']], ABlk.rows false (4 : Nat) [[AV.int IntKind.i64 c16_0, AV.int IntKind.i64 c16_1, AV.str c16_2, AV.sl c16_3]], ABlk.rows false (4 : Nat) [[AV.int IntKind.i64 c17_0, AV.int IntKind.i64 c17_1, AV.str c17_2, AV.sl c17_3]], ABlk.rows false (4 : Nat) [[AV.int IntKind.i64 c18_0, AV.int IntKind.i64 c18_1, AV.str c18_2, AV.sl c18_3]]] : AH))
noncomputable abbrev jn4_4 (n : Int) (n' : Int) (s : List UInt8) (rows : List (List AV)) (rows' : List (List AV)) (rows'' : List (List AV)) (c4_0 : Int) (c4_1 : Int) (c4_2 : List UInt8) (c4_3 : List (List AV)) (c4_4 : List (List AV)) (c4_5 : List (List AV)) (n'' : Int) (n''' : Int) (s' : List UInt8) (rows''' : List (List AV)) (c4_0' : Int) (c4_1' : Int) (c4_2' : List UInt8) (c4_3' : List (List AV)) (c4_4' : List (List AV)) (c4_5' : List (List AV)) (n'''' : Int) (n''''' : Int) (s'' : List UInt8) (rows'''' : List (List AV)) (n'''''' : Int) (n''''''' : Int) (s''' : List UInt8) (rows''''' : List (List AV)) (n'''''''' : Int) (n''''''''' : Int) (s'''' : List UInt8) (rows'''''' : List (List AV)) (v3 : Int) (v9 : Bool) (v16 : Bool) (c0_0 : Int) (c0_1 : Int) (c0_2 : List UInt8) (c0_3 : List (List AV)) (c1_0 : Int) (c1_1 : Int) (c1_2 : List UInt8) (c1_3 : List (List AV)) (c2_0 : Int) (c2_1 : Int) (c2_2 : List UInt8) (c2_3 : List (List AV)) (h3 : List (List AV)) (c4_0'' : Int) (c4_1'' : Int) (c4_2'' : List UInt8) (c4_3'' : List (List AV)) (c4_4'' : List (List AV)) (c4_5'' : List (List AV)) (c6_0 : Int) (c6_1 : Int) (c6_2 : List UInt8) (c6_3 : List (List AV)) (c7_0 : Int) (c7_1 : Int) (c7_2 : List UInt8) (c7_3 : List (List AV)) (c11_0 : Int) (c11_1 : Int) (c11_2 : List UInt8) (c11_3 : List (List AV)) (c16_0 : Int) (c16_1 : Int) (c16_2 : List UInt8) (c16_3 : List (List AV)) (c17_0 : Int) (c17_1 : Int) (c17_2 : List UInt8) (c17_3 : List (List AV)) (c18_0 : Int) (c18_1 : Int) (c18_2 : List UInt8) (c18_3 : List (List AV)) : Option (AV) := Jn4_4  (((fx 194 [(3, AV.int IntKind.i64 v3), (5, AV.ptr (1 : Nat) (0 : Nat) (0 : Nat)), (6, AV.ptr (2 : Nat) (0 : Nat) (0 : Nat)), (9, AV.bool v9), (12, AV.ptr (4 : Nat) (0 : Nat) (0 : Nat)), (15, AV.ptr (7 : Nat) (0 : Nat) (0 : Nat)), (16, AV.bool v16)]) : List AV), ([ABlk.rows false (4 : Nat) [[AV.int IntKind.i64 c0_0, AV.int IntKind.i64 c0_1, AV.str c0_2, AV.sl c0_3]], ABlk.rows false (4 : Nat) [[AV.int IntKind.i64 c1_0, AV.int IntKind.i64 c1_1, AV.str c1_2, AV.sl c1_3]], ABlk.rows false (4 : Nat) [[AV.int IntKind.i64 c2_0, AV.int IntKind.i64 c2_1, AV.str c2_2, AV.sl c2_3]], ABlk.rows true (4 : Nat) h3, ABlk.rows false (6 : Nat) [[AV.int IntKind.i64 c4_0'', AV.int IntKind.i64 c4_1'', AV.str c4_2'', AV.sl c4_3'', AV.sl c4_4'', AV.sl c4_5'']], ABlk.froz true (6 : Nat) [[AV.int IntKind.i64 n, AV.int IntKind.i64 n', AV.str s, AV.sl rows, AV.sl rows', AV.sl rows'']], ABlk.rows false (4 : Nat) [[AV.int IntKind.i64 c6_0, AV.int IntKind.i64 c6_1, AV.str c6_2, AV.sl c6_3]], ABlk.rows false (4 : Nat) [[AV.int IntKind.i64 c7_0, AV.int IntKind.i64 c7_1, AV.str c7_2, AV.sl c7_3]], ABlk.dead, ABlk.froz true (4 : Nat) ([AV.int IntKind.i64 n'', AV.int IntKind.i64 n''', AV.str s', AV.sl rows'''] :: c4_4), ABlk.froz true (6 : Nat) [[AV.int IntKind.i64 c4_0, AV.int IntKind.i64 c4_1, AV.str c4_2, AV.sl c4_3, AV.sl (List.take ((1 : Nat) + List.length c4_4) ([AV.int IntKind.i64 n'', AV.int IntKind.i64 n''', AV.str s', AV.sl rows'''] :: c4_4)), AV.sl c4_5]], ABlk.rows false (4 : Nat) [[AV.int IntKind.i64 c11_0, AV.int IntKind.i64 c11_1, AV.str c11_2, AV.sl c11_3]], ABlk.froz true (4 : Nat) [[AV.int IntKind.i64 n'''', AV.int IntKind.i64 n''''', AV.str s'', AV.sl rows''''], [AV.int IntKind.i64 n'''''', AV.int IntKind.i64 n''''''', AV.str s''', AV.sl rows''''']], ABlk.dead, ABlk.froz true (4 : Nat) ([AV.int IntKind.i64 n'''''''', AV.int IntKind.i64 n''''''''', AV.str s'''', AV.sl rows''''''] :: c4_4'), ABlk.froz true (6 : Nat) [[AV.int IntKind.i64 c4_0', AV.int IntKind.i64 c4_1', AV.str c4_2', AV.sl c4_3', AV.sl (List.take ((1 : Nat) + List.length c4_4') ([AV.int IntKind.i64 n'''''''', AV.int IntKind.i64 n''''''''', AV.str s'''', AV.sl rows''''''] :: c4_4')), AV.sl c4_5']], ABlk.rows false (4 : Nat) [[AV.int IntKind.i64 c16_0, AV.int IntKind.i64 c16_1, AV.str c16_2, AV.sl c16_3]], ABlk.rows false (4 : Nat) [[AV.int IntKind.i64 c17_0, AV.int IntKind.i64 c17_1, AV.str c17_2, AV.sl c17_3]], ABlk.rows false (4 : Nat) [[AV.int IntKind.i64 c18_0, AV.int IntKind.i64 c18_1, AV.str c18_2, AV.sl c18_3]]] : AH))
theorem specGuarded_run (kt : Int) (nt : Int) (st : List UInt8) (lt : List (List AV)) (ko : Int) (no : Int) (so : List UInt8) (lo : List (List AV)) (kg : Int) (ng : Int) (sg : List UInt8) (lg : List (List AV)) (self : Int) {P : AV → Prop} (h : Gets (kOpt (EVs (EV cfg) 6 []) fun (v : AV) => kBool v fun (b : Bool) => kOpt (EVs (EV cfg) 7 [.sl [[AV.int .i64 kt, .int .i64 nt, .str st, .sl lt], [AV.int .i64 ko, .int .i64 no, .str so, .sl 
  lo]]]) fun (v : AV) => kBool v fun (b_1 : Bool) => bif b_1 then some (.bool b) else kOpt (EVs (EV cfg) 12 [.agg [AV.int .i64 kg, .int .i64 ng, .str sg, .sl lg], .int .i64 (100 : Int)]) 
  fun (v : AV) => kBool v fun (b_2 : Bool) => bif b_2 then some (.bool b) else kOpt (EVf (EV cfg) 13 [.agg [AV.int .i64 kt, .int .i64 nt, .str st, .sl lt]]) fun (v : AV) => kTup v fun (cs 
  : List AV) => kCons cs fun (c : AV) (cs : List AV) => kSl c fun (rows : List (List AV)) => kCons cs fun (c : AV) (cs : List AV) => kInt .i64 c fun (n : Int) => kNil cs (bif n != (0 
  : Int) then some (.bool b) else bif (↑(List.length rows) : Int) == (0 : Int) then some (.bool false) else bif ltInt (0 : Int) (↑(List.length rows) : Int) then kOpt (List.get?Internal 
  rows 0) fun (row : List AV) => bif Nat.beq (List.length row) 6 then bif Nat.ble 6 (List.length row) then kCons (List.take 6 row) fun (c : AV) (cs : List AV) => kInt .i64 c fun (n : 
  Int) => kCons cs fun (c : AV) (cs : List AV) => kInt .i64 c fun (n_1 : Int) => kCons cs fun (c : AV) (cs : List AV) => kStr c fun (s : List UInt8) => kCons cs fun (c : AV) (cs : List 
  AV) => kSl c fun (rows : List (List AV)) => kCons cs fun (c : AV) (cs : List AV) => kSl c fun (rows_1 : List (List AV)) => kCons cs fun (c : AV) (cs : List AV) => kSl c fun (rows_2 
  : List (List AV)) => kNil cs (kOpt (EVf (EV cfg) 14 [.sl [[AV.int .i64 n, .int .i64 n_1, .str s, .sl rows, .sl rows_1, .sl rows_2]]]) fun (v : AV) => kTup v fun (cs : List AV) => kCons 
  cs fun (c : AV) (cs : List AV) => kAgg c fun (cs_1 : List AV) => kCons cs_1 fun (c : AV) (cs_2 : List AV) => kInt .i64 c fun (n_2 : Int) => kCons cs_2 fun (c : AV) (cs_3 : List AV) 
  => kInt .i64 c fun (n_3 : Int) => kCons cs_3 fun (c : AV) (cs_4 : List AV) => kStr c fun (s_1 : List UInt8) => kCons cs_4 fun (c : AV) (cs_5 : List AV) => kSl c fun (rows_3 : List (List 
  AV)) => kNil cs_5 (kCons cs fun (c : AV) (cs : List AV) => kInt .i64 c fun (n_4 : Int) => kNil cs (kOpt (EVf (EV cfg) 9 [.agg [AV.int .i64 n_2, .int .i64 n_3, .str s_1, .sl rows_3], .agg 
  [AV.int .i64 ko, .int .i64 no, .str so, .sl lo], .int .i64 self]) fun (v : AV) => kTup v fun (cs : List AV) => kCons cs fun (c : AV) (cs : List AV) => kAgg c fun (cs_6 : List AV) => kCons 
  cs_6 fun (c : AV) (cs_7 : List AV) => kInt .i64 c fun (n_5 : Int) => kCons cs_7 fun (c : AV) (cs_8 : List AV) => kInt .i64 c fun (n_6 : Int) => kCons cs_8 fun (c : AV) (cs_9 : List 
  AV) => kStr c fun (s_2 : List UInt8) => kCons cs_9 fun (c : AV) (cs_10 : List AV) => kSl c fun (rows_4 : List (List AV)) => kNil cs_10 (kCons cs fun (c : AV) (cs : List AV) => kBool 
  c fun (b_3 : Bool) => kCons cs fun (c : AV) (cs : List AV) => kInt .i64 c fun (n_7 : Int) => kNil cs (bif n_7 != (0 : Int) then some (.bool b) else jn4_0 n n_1 s rows rows_1 rows_2 
  self b b_3 kt nt st lt ko no so lo kg ng sg lg [[AV.int .i64 kt, .int .i64 nt, .str st, .sl lt], [AV.int .i64 ko, .int .i64 no, .str so, .sl lo]] n n_1 s rows rows_1 rows_2 n_2 n_3 s_1 
  rows_3 n_5 n_6 s_2 rows_4))))) else none else none else none)) P) : Gets (EVs (EV cfg) 4 ([AV.agg [AV.int IntKind.i64 kt, AV.int IntKind.i64 nt, AV.str st, AV.sl lt], AV.agg [AV.int IntKind.i64 ko, AV.int IntKind.i64 no, AV.str so, AV.sl lo], AV.agg [AV.int IntKind.i64 kg, AV.int IntKind.i64 ng, AV.str sg, AV.sl lg], AV.int IntKind.i64 self] : List AV)) P :=
  Gets.ev (fun _ h => funS rfl rfl Try.func4 rfl h) (Gets.eq (by kernel_rfl) h)
theorem jn4_0_step (n : Int) (n' : Int) (s : List UInt8) (rows : List (List AV)) (rows' : List (List AV)) (rows'' : List (List AV)) (v3 : Int) (v9 : Bool) (v16 : Bool) (c0_0 : Int) (c0_1 : Int) (c0_2 : List UInt8) (c0_3 : List (List AV)) (c1_0 : Int) (c1_1 : Int) (c1_2 : List UInt8) (c1_3 : List (List AV)) (c2_0 : Int) (c2_1 : Int) (c2_2 : List UInt8) (c2_3 : List (List AV)) (h3 : List (List AV)) (c4_0 : Int) (c4_1 : Int) (c4_2 : List UInt8) (c4_3 : List (List AV)) (c4_4 : List (List AV)) (c4_5 : List (List AV)) (c6_0 : Int) (c6_1 : Int) (c6_2 : List UInt8) (c6_3 : List (List AV)) (c7_0 : Int) (c7_1 : Int) (c7_2 : List UInt8) (c7_3 : List (List AV)) {P : AV → Prop} (h : Gets (kOpt (EVf (EV cfg) 15 [.str [(116 : UInt8), (114 : UInt8), (117 : UInt8), (101 : UInt8)]]) fun (v : AV) => kTmV v fun (n_1 n_2 : Int) (s_1 : List UInt8) (rows_1 : List (List AV)) => 
  (bif rowsOk 4 c4_4 then bif fitsIn (1 + List.length c4_4) 56 then bif Nat.ble (0 + (1 + List.length c4_4)) (List.length ([AV.int .i64 n_1, .int .i64 n_2, .str s_1, .sl rows_1] :: c4_4)) 
  && true then kOpt (EVf (EV cfg) 14 [AV.sl [[AV.int .i64 c4_0, .int .i64 c4_1, .str c4_2, .sl c4_3, .sl (List.take (1 + List.length c4_4) ([AV.int .i64 n_1, .int .i64 n_2, .str s_1, .sl 
  rows_1] :: c4_4)), .sl c4_5]]]) fun (v : AV) => kTup v fun (cs : List AV) => kCons cs fun (c : AV) (cs : List AV) => kAgg c fun (cs_1 : List AV) => kCons cs_1 fun (c : AV) (cs_2 : List 
  AV) => kInt .i64 c fun (n_3 : Int) => kCons cs_2 fun (c : AV) (cs_3 : List AV) => kInt .i64 c fun (n_4 : Int) => kCons cs_3 fun (c : AV) (cs_4 : List AV) => kStr c fun (s_2 : List UInt8) 
  => kCons cs_4 fun (c : AV) (cs_5 : List AV) => kSl c fun (rows_2 : List (List AV)) => kNil cs_5 (kCons cs fun (c : AV) (cs : List AV) => kInt .i64 c fun (n_5 : Int) => kNil cs (jn4_1 
  n n' s rows rows' rows'' c4_0 c4_1 c4_2 c4_3 c4_4 c4_5 n_1 n_2 s_1 rows_1 v3 v9 v16 n_5 c0_0 c0_1 c0_2 c0_3 c1_0 c1_1 c1_2 c1_3 c2_0 c2_1 c2_2 c2_3 h3 c4_0 c4_1 c4_2 c4_3 c4_4 c4_5 
  c6_0 c6_1 c6_2 c6_3 c7_0 c7_1 c7_2 c7_3 n_3 n_4 s_2 rows_2)) else none else none else none)) P) : Gets (jn4_0 n n' s rows rows' rows'' v3 v9 v16 c0_0 c0_1 c0_2 c0_3 c1_0 c1_1 c1_2 c1_3 c2_0 c2_1 c2_2 c2_3 h3 c4_0 c4_1 c4_2 c4_3 c4_4 c4_5 c6_0 c6_1 c6_2 c6_3 c7_0 c7_1 c7_2 c7_3) P :=
  Gets.ev (fun _ h => cut_step h) (Gets.eq (by kernel_rfl) h)
theorem jn4_1_step (n : Int) (n' : Int) (s : List UInt8) (rows : List (List AV)) (rows' : List (List AV)) (rows'' : List (List AV)) (c4_0 : Int) (c4_1 : Int) (c4_2 : List UInt8) (c4_3 : List (List AV)) (c4_4 : List (List AV)) (c4_5 : List (List AV)) (n'' : Int) (n''' : Int) (s' : List UInt8) (rows''' : List (List AV)) (v3 : Int) (v9 : Bool) (v16 : Bool) (v19 : Int) (c0_0 : Int) (c0_1 : Int) (c0_2 : List UInt8) (c0_3 : List (List AV)) (c1_0 : Int) (c1_1 : Int) (c1_2 : List UInt8) (c1_3 : List (List AV)) (c2_0 : Int) (c2_1 : Int) (c2_2 : List UInt8) (c2_3 : List (List AV)) (h3 : List (List AV)) (c4_0' : Int) (c4_1' : Int) (c4_2' : List UInt8) (c4_3' : List (List AV)) (c4_4' : List (List AV)) (c4_5' : List (List AV)) (c6_0 : Int) (c6_1 : Int) (c6_2 : List UInt8) (c6_3 : List (List AV)) (c7_0 : Int) (c7_1 : Int) (c7_2 : List UInt8) (c7_3 : List (List AV)) (c11_0 : Int) (c11_1 : Int) (c11_2 : List UInt8) (c11_3 : List (List AV)) {P : AV → Prop} (h : Gets (kOpt (EVf (EV cfg) 15 [.str [(104 : UInt8), (100 : UInt8)]]) fun (v : AV) => kTmV v fun (n_1 n_2 : Int) (s_1 : List UInt8) (rows_1 : List (List AV)) => (kOpt (EVf (EV cfg) 17 [.sl []]) 
  fun (v : AV) => kTmV v fun (n_3 n_4 : Int) (s_2 : List UInt8) (rows_2 : List (List AV)) => (kOpt (EVf (EV cfg) 16 [AV.sl [[AV.int .i64 n_1, .int .i64 n_2, .str s_1, .sl rows_1], [AV.int 
  .i64 n_3, .int .i64 n_4, .str s_2, .sl rows_2]]]) fun (v : AV) => kTmV v fun (n_5 n_6 : Int) (s_3 : List UInt8) (rows_3 : List (List AV)) => (bif rowsOk 4 c4_4' then bif fitsIn (1 + 
  List.length c4_4') 56 then bif Nat.ble (0 + (1 + List.length c4_4')) (List.length ([AV.int .i64 n_5, .int .i64 n_6, .str s_3, .sl rows_3] :: c4_4')) && true then kOpt (EVf (EV cfg) 14 
  [AV.sl [[AV.int .i64 c4_0', .int .i64 c4_1', .str c4_2', .sl c4_3', AV.sl (List.take (1 + List.length c4_4') ([AV.int .i64 n_5, .int .i64 n_6, .str s_3, .sl rows_3] :: c4_4')), .sl c4_5']]]) 
  fun (v : AV) => kTup v fun (cs : List AV) => kCons cs fun (c : AV) (cs : List AV) => kAgg c fun (cs_1 : List AV) => kCons cs_1 fun (c : AV) (cs_2 : List AV) => kInt .i64 c fun (n_7 
  : Int) => kCons cs_2 fun (c : AV) (cs_3 : List AV) => kInt .i64 c fun (n_8 : Int) => kCons cs_3 fun (c : AV) (cs_4 : List AV) => kStr c fun (s_4 : List UInt8) => kCons cs_4 fun (c : 
  AV) (cs_5 : List AV) => kSl c fun (rows_4 : List (List AV)) => kNil cs_5 (kCons cs fun (c : AV) (cs : List AV) => kInt .i64 c fun (n_9 : Int) => kNil cs (jn4_2 n n' s rows rows' rows'' 
  c4_0 c4_1 c4_2 c4_3 c4_4 c4_5 n'' n''' s' rows''' c4_0' c4_1' c4_2' c4_3' c4_4' c4_5' n_1 n_2 s_1 rows_1 n_3 n_4 s_2 rows_2 n_5 n_6 s_3 rows_3 v3 v9 v16 v19 n_9 c0_0 c0_1 c0_2 c0_3 
  c1_0 c1_1 c1_2 c1_3 c2_0 c2_1 c2_2 c2_3 h3 c4_0' c4_1' c4_2' c4_3' c4_4' c4_5' c6_0 c6_1 c6_2 c6_3 c7_0 c7_1 c7_2 c7_3 c11_0 c11_1 c11_2 c11_3 n_7 n_8 s_4 rows_4)) else none else none 
  else none)))) P) : Gets (jn4_1 n n' s rows rows' rows'' c4_0 c4_1 c4_2 c4_3 c4_4 c4_5 n'' n''' s' rows''' v3 v9 v16 v19 c0_0 c0_1 c0_2 c0_3 c1_0 c1_1 c1_2 c1_3 c2_0 c2_1 c2_2 c2_3 h3 c4_0' c4_1' c4_2' c4_3' c4_4' c4_5' c6_0 c6_1 c6_2 c6_3 c7_0 c7_1 c7_2 c7_3 c11_0 c11_1 c11_2 c11_3) P :=
  Gets.ev (fun _ h => cut_step h) (Gets.eq (by kernel_rfl) h)
theorem jn4_2_step (n : Int) (n' : Int) (s : List UInt8) (rows : List (List AV)) (rows' : List (List AV)) (rows'' : List (List AV)) (c4_0 : Int) (c4_1 : Int) (c4_2 : List UInt8) (c4_3 : List (List AV)) (c4_4 : List (List AV)) (c4_5 : List (List AV)) (n'' : Int) (n''' : Int) (s' : List UInt8) (rows''' : List (List AV)) (c4_0' : Int) (c4_1' : Int) (c4_2' : List UInt8) (c4_3' : List (List AV)) (c4_4' : List (List AV)) (c4_5' : List (List AV)) (n'''' : Int) (n''''' : Int) (s'' : List UInt8) (rows'''' : List (List AV)) (n'''''' : Int) (n''''''' : Int) (s''' : List UInt8) (rows''''' : List (List AV)) (n'''''''' : Int) (n''''''''' : Int) (s'''' : List UInt8) (rows'''''' : List (List AV)) (v3 : Int) (v9 : Bool) (v16 : Bool) (v19 : Int) (v21 : Int) (c0_0 : Int) (c0_1 : Int) (c0_2 : List UInt8) (c0_3 : List (List AV)) (c1_0 : Int) (c1_1 : Int) (c1_2 : List UInt8) (c1_3 : List (List AV)) (c2_0 : Int) (c2_1 : Int) (c2_2 : List UInt8) (c2_3 : List (List AV)) (h3 : List (List AV)) (c4_0'' : Int) (c4_1'' : Int) (c4_2'' : List UInt8) (c4_3'' : List (List AV)) (c4_4'' : List (List AV)) (c4_5'' : List (List AV)) (c6_0 : Int) (c6_1 : Int) (c6_2 : List UInt8) (c6_3 : List (List AV)) (c7_0 : Int) (c7_1 : Int) (c7_2 : List UInt8) (c7_3 : List (List AV)) (c11_0 : Int) (c11_1 : Int) (c11_2 : List UInt8) (c11_3 : List (List AV)) (c16_0 : Int) (c16_1 : Int) (c16_2 : List UInt8) (c16_3 : List (List AV)) {P : AV → Prop} (h : Gets (kOpt (EVf (EV cfg) 9 [.agg [AV.int .i64 c11_0, .int .i64 c11_1, .str c11_2, .sl c11_3], .agg [AV.int .i64 c1_0, .int .i64 c1_1, .str c1_2, .sl c1_3], .int .i64 v3]) fun (v : AV) => kTup 
  v fun (cs : List AV) => kCons cs fun (c : AV) (cs : List AV) => kAgg c fun (cs_1 : List AV) => kCons cs_1 fun (c : AV) (cs_2 : List AV) => kInt .i64 c fun (n_1 : Int) => kCons cs_2 
  fun (c : AV) (cs_3 : List AV) => kInt .i64 c fun (n_2 : Int) => kCons cs_3 fun (c : AV) (cs_4 : List AV) => kStr c fun (s_1 : List UInt8) => kCons cs_4 fun (c : AV) (cs_5 : List AV) 
  => kSl c fun (rows_1 : List (List AV)) => kNil cs_5 (kCons cs fun (c : AV) (cs : List AV) => kBool c fun (b : Bool) => kCons cs fun (c : AV) (cs : List AV) => kInt .i64 c fun (n_3 : 
  Int) => kNil cs (kOpt (EVf (EV cfg) 9 [.agg [AV.int .i64 c16_0, .int .i64 c16_1, .str c16_2, .sl c16_3], .agg [AV.int .i64 c1_0, .int .i64 c1_1, .str c1_2, .sl c1_3], .int .i64 v3]) fun 
  (v : AV) => kTup v fun (cs : List AV) => kCons cs fun (c : AV) (cs : List AV) => kAgg c fun (cs_6 : List AV) => kCons cs_6 fun (c : AV) (cs_7 : List AV) => kInt .i64 c fun (n_4 : Int) 
  => kCons cs_7 fun (c : AV) (cs_8 : List AV) => kInt .i64 c fun (n_5 : Int) => kCons cs_8 fun (c : AV) (cs_9 : List AV) => kStr c fun (s_2 : List UInt8) => kCons cs_9 fun (c : AV) (cs_10 
  : List AV) => kSl c fun (rows_2 : List (List AV)) => kNil cs_10 (kCons cs fun (c : AV) (cs : List AV) => kBool c fun (b_1 : Bool) => kCons cs fun (c : AV) (cs : List AV) => kInt .i64 
  c fun (n_6 : Int) => kNil cs (jn4_3 n n' s rows rows' rows'' c4_0 c4_1 c4_2 c4_3 c4_4 c4_5 n'' n''' s' rows''' c4_0' c4_1' c4_2' c4_3' c4_4' c4_5' n'''' n''''' s'' rows'''' n'''''' 
  n''''''' s''' rows''''' n'''''''' n''''''''' s'''' rows'''''' v3 v9 v16 v19 v21 b n_3 b_1 n_6 c0_0 c0_1 c0_2 c0_3 c1_0 c1_1 c1_2 c1_3 c2_0 c2_1 c2_2 c2_3 h3 c4_0'' c4_1'' c4_2'' c4_3'' 
  c4_4'' c4_5'' c6_0 c6_1 c6_2 c6_3 c7_0 c7_1 c7_2 c7_3 c11_0 c11_1 c11_2 c11_3 c16_0 c16_1 c16_2 c16_3 n_1 n_2 s_1 rows_1 n_4 n_5 s_2 rows_2))))) P) : Gets (jn4_2 n n' s rows rows' rows'' c4_0 c4_1 c4_2 c4_3 c4_4 c4_5 n'' n''' s' rows''' c4_0' c4_1' c4_2' c4_3' c4_4' c4_5' n'''' n''''' s'' rows'''' n'''''' n''''''' s''' rows''''' n'''''''' n''''''''' s'''' rows'''''' v3 v9 v16 v19 v21 c0_0 c0_1 c0_2 c0_3 c1_0 c1_1 c1_2 c1_3 c2_0 c2_1 c2_2 c2_3 h3 c4_0'' c4_1'' c4_2'' c4_3'' c4_4'' c4_5'' c6_0 c6_1 c6_2 c6_3 c7_0 c7_1 c7_2 c7_3 c11_0 c11_1 c11_2 c11_3 c16_0 c16_1 c16_2 c16_3) P :=
  Gets.ev (fun _ h => cut_step h) (Gets.eq (by kernel_rfl) h)
theorem jn4_3_step (n : Int) (n' : Int) (s : List UInt8) (rows : List (List AV)) (rows' : List (List AV)) (rows'' : List (List AV)) (c4_0 : Int) (c4_1 : Int) (c4_2 : List UInt8) (c4_3 : List (List AV)) (c4_4 : List (List AV)) (c4_5 : List (List AV)) (n'' : Int) (n''' : Int) (s' : List UInt8) (rows''' : List (List AV)) (c4_0' : Int) (c4_1' : Int) (c4_2' : List UInt8) (c4_3' : List (List AV)) (c4_4' : List (List AV)) (c4_5' : List (List AV)) (n'''' : Int) (n''''' : Int) (s'' : List UInt8) (rows'''' : List (List AV)) (n'''''' : Int) (n''''''' : Int) (s''' : List UInt8) (rows''''' : List (List AV)) (n'''''''' : Int) (n''''''''' : Int) (s'''' : List UInt8) (rows'''''' : List (List AV)) (v3 : Int) (v9 : Bool) (v16 : Bool) (v19 : Int) (v21 : Int) (v23 : Bool) (v24 : Int) (v26 : Bool) (v27 : Int) (c0_0 : Int) (c0_1 : Int) (c0_2 : List UInt8) (c0_3 : List (List AV)) (c1_0 : Int) (c1_1 : Int) (c1_2 : List UInt8) (c1_3 : List (List AV)) (c2_0 : Int) (c2_1 : Int) (c2_2 : List UInt8) (c2_3 : List (List AV)) (h3 : List (List AV)) (c4_0'' : Int) (c4_1'' : Int) (c4_2'' : List UInt8) (c4_3'' : List (List AV)) (c4_4'' : List (List AV)) (c4_5'' : List (List AV)) (c6_0 : Int) (c6_1 : Int) (c6_2 : List UInt8) (c6_3 : List (List AV)) (c7_0 : Int) (c7_1 : Int) (c7_2 : List UInt8) (c7_3 : List (List AV)) (c11_0 : Int) (c11_1 : Int) (c11_2 : List UInt8) (c11_3 : List (List AV)) (c16_0 : Int) (c16_1 : Int) (c16_2 : List UInt8) (c16_3 : List (List AV)) (c17_0 : Int) (c17_1 : Int) (c17_2 : List UInt8) (c17_3 : List (List AV)) (c18_0 : Int) (c18_1 : Int) (c18_2 : List UInt8) (c18_3 : List (List AV)) {P : AV → Prop} (h : Gets (bif v19 != (0 : Int) then some (.bool false) else bif v21 != (0 : Int) then some (.bool false) else bif v24 != (0 : Int) then some (.bool false) else bif v27 != (0 : Int) then some 
  (.bool false) else bif !v23 == v16 then some (.bool false) else kOpt (EVs (EV cfg) 11 [.agg [AV.int .i64 c7_0, .int .i64 c7_1, .str c7_2, .sl c7_3], .agg [AV.int .i64 c17_0, .int .i64 c17_1, 
  .str c17_2, .sl c17_3]]) fun (v : AV) => kBool v fun (b : Bool) => bif !b then some (.bool false) else bif v26 then some (.bool false) else jn4_4 n n' s rows rows' rows'' c4_0 c4_1 
  c4_2 c4_3 c4_4 c4_5 n'' n''' s' rows''' c4_0' c4_1' c4_2' c4_3' c4_4' c4_5' n'''' n''''' s'' rows'''' n'''''' n''''''' s''' rows''''' n'''''''' n''''''''' s'''' rows'''''' v3 v9 v16 
  c0_0 c0_1 c0_2 c0_3 c1_0 c1_1 c1_2 c1_3 c2_0 c2_1 c2_2 c2_3 h3 c4_0'' c4_1'' c4_2'' c4_3'' c4_4'' c4_5'' c6_0 c6_1 c6_2 c6_3 c7_0 c7_1 c7_2 c7_3 c11_0 c11_1 c11_2 c11_3 c16_0 c16_1 
  c16_2 c16_3 c17_0 c17_1 c17_2 c17_3 c18_0 c18_1 c18_2 c18_3) P) : Gets (jn4_3 n n' s rows rows' rows'' c4_0 c4_1 c4_2 c4_3 c4_4 c4_5 n'' n''' s' rows''' c4_0' c4_1' c4_2' c4_3' c4_4' c4_5' n'''' n''''' s'' rows'''' n'''''' n''''''' s''' rows''''' n'''''''' n''''''''' s'''' rows'''''' v3 v9 v16 v19 v21 v23 v24 v26 v27 c0_0 c0_1 c0_2 c0_3 c1_0 c1_1 c1_2 c1_3 c2_0 c2_1 c2_2 c2_3 h3 c4_0'' c4_1'' c4_2'' c4_3'' c4_4'' c4_5'' c6_0 c6_1 c6_2 c6_3 c7_0 c7_1 c7_2 c7_3 c11_0 c11_1 c11_2 c11_3 c16_0 c16_1 c16_2 c16_3 c17_0 c17_1 c17_2 c17_3 c18_0 c18_1 c18_2 c18_3) P :=
  Gets.ev (fun _ h => cut_step h) (Gets.eq (by kernel_rfl) h)
theorem jn4_4_step (n : Int) (n' : Int) (s : List UInt8) (rows : List (List AV)) (rows' : List (List AV)) (rows'' : List (List AV)) (c4_0 : Int) (c4_1 : Int) (c4_2 : List UInt8) (c4_3 : List (List AV)) (c4_4 : List (List AV)) (c4_5 : List (List AV)) (n'' : Int) (n''' : Int) (s' : List UInt8) (rows''' : List (List AV)) (c4_0' : Int) (c4_1' : Int) (c4_2' : List UInt8) (c4_3' : List (List AV)) (c4_4' : List (List AV)) (c4_5' : List (List AV)) (n'''' : Int) (n''''' : Int) (s'' : List UInt8) (rows'''' : List (List AV)) (n'''''' : Int) (n''''''' : Int) (s''' : List UInt8) (rows''''' : List (List AV)) (n'''''''' : Int) (n''''''''' : Int) (s'''' : List UInt8) (rows'''''' : List (List AV)) (v3 : Int) (v9 : Bool) (v16 : Bool) (c0_0 : Int) (c0_1 : Int) (c0_2 : List UInt8) (c0_3 : List (List AV)) (c1_0 : Int) (c1_1 : Int) (c1_2 : List UInt8) (c1_3 : List (List AV)) (c2_0 : Int) (c2_1 : Int) (c2_2 : List UInt8) (c2_3 : List (List AV)) (h3 : List (List AV)) (c4_0'' : Int) (c4_1'' : Int) (c4_2'' : List UInt8) (c4_3'' : List (List AV)) (c4_4'' : List (List AV)) (c4_5'' : List (List AV)) (c6_0 : Int) (c6_1 : Int) (c6_2 : List UInt8) (c6_3 : List (List AV)) (c7_0 : Int) (c7_1 : Int) (c7_2 : List UInt8) (c7_3 : List (List AV)) (c11_0 : Int) (c11_1 : Int) (c11_2 : List UInt8) (c11_3 : List (List AV)) (c16_0 : Int) (c16_1 : Int) (c16_2 : List UInt8) (c16_3 : List (List AV)) (c17_0 : Int) (c17_1 : Int) (c17_2 : List UInt8) (c17_3 : List (List AV)) (c18_0 : Int) (c18_1 : Int) (c18_2 : List UInt8) (c18_3 : List (List AV)) {P : AV → Prop} (h : Gets (bif rowsOk 4 c4_4'' then bif fitsIn (1 + List.length c4_4'') 56 then bif Nat.ble (0 + (1 + List.length c4_4'')) (List.length ([AV.int .i64 c2_0, .int .i64 c2_1, .str c2_2, .sl c2_3] :: 
  c4_4'')) && true then kOpt (EVf (EV cfg) 14 [AV.sl [[AV.int .i64 c4_0'', .int .i64 c4_1'', .str c4_2'', .sl c4_3'', .sl (List.take (1 + List.length c4_4'') ([AV.int .i64 c2_0, .int .i64 
  c2_1, .str c2_2, .sl c2_3] :: c4_4'')), .sl c4_5'']]]) fun (v : AV) => kTup v fun (cs : List AV) => kCons cs fun (c : AV) (cs : List AV) => kAgg c fun (cs_1 : List AV) => kCons cs_1 
  fun (c : AV) (cs_2 : List AV) => kInt .i64 c fun (n : Int) => kCons cs_2 fun (c : AV) (cs_3 : List AV) => kInt .i64 c fun (n_1 : Int) => kCons cs_3 fun (c : AV) (cs_4 : List AV) => 
  kStr c fun (s : List UInt8) => kCons cs_4 fun (c : AV) (cs_5 : List AV) => kSl c fun (rows : List (List AV)) => kNil cs_5 (kCons cs fun (c : AV) (cs : List AV) => kInt .i64 c fun (n_2 
  : Int) => kNil cs (bif n_2 != (0 : Int) then some (.bool v9) else kOpt (EVf (EV cfg) 9 [.agg [AV.int .i64 n, .int .i64 n_1, .str s, .sl rows], .agg [AV.int .i64 c1_0, .int .i64 c1_1, .str 
  c1_2, .sl c1_3], .int .i64 v3]) fun (v : AV) => kTup v fun (cs : List AV) => kCons cs fun (c : AV) (cs : List AV) => kAgg c fun (cs_6 : List AV) => kCons cs_6 fun (c : AV) (cs_7 : List 
  AV) => kInt .i64 c fun (n : Int) => kCons cs_7 fun (c : AV) (cs_8 : List AV) => kInt .i64 c fun (n_3 : Int) => kCons cs_8 fun (c : AV) (cs_9 : List AV) => kStr c fun (s : List UInt8) 
  => kCons cs_9 fun (c : AV) (cs_10 : List AV) => kSl c fun (rows : List (List AV)) => kNil cs_10 (kCons cs fun (c : AV) (cs : List AV) => kBool c fun (b : Bool) => kCons cs fun (c : 
  AV) (cs : List AV) => kInt .i64 c fun (n_4 : Int) => kNil cs (bif v9 then bif n_4 == (0 : Int) then bif !b then some (.bool true) else bif v16 then kOpt (EVs (EV cfg) 11 [.agg [AV.int 
  .i64 n, .int .i64 n_3, .str s, .sl rows], .agg [AV.int .i64 c7_0, .int .i64 c7_1, .str c7_2, .sl c7_3]]) fun (v : AV) => kBool v fun (b : Bool) => some (.bool b) else some (.bool false) 
  else some (.bool false) else some (.bool false))))) else none else none else none) P) : Gets (jn4_4 n n' s rows rows' rows'' c4_0 c4_1 c4_2 c4_3 c4_4 c4_5 n'' n''' s' rows''' c4_0' c4_1' c4_2' c4_3' c4_4' c4_5' n'''' n''''' s'' rows'''' n'''''' n''''''' s''' rows''''' n'''''''' n''''''''' s'''' rows'''''' v3 v9 v16 c0_0 c0_1 c0_2 c0_3 c1_0 c1_1 c1_2 c1_3 c2_0 c2_1 c2_2 c2_3 h3 c4_0'' c4_1'' c4_2'' c4_3'' c4_4'' c4_5'' c6_0 c6_1 c6_2 c6_3 c7_0 c7_1 c7_2 c7_3 c11_0 c11_1 c11_2 c11_3 c16_0 c16_1 c16_2 c16_3 c17_0 c17_1 c17_2 c17_3 c18_0 c18_1 c18_2 c18_3) P :=
  Gets.ev (fun _ h => cut_step h) (Gets.eq (by kernel_rfl) h)
end Go.Proofs.Ytonmmmgffeoiiaa
end

section
namespace Go.Av
theorem sel_words {cs : List Cl} {c : Cl} (h : c ∈ cs) : (selT [c]).words ≤ (selT cs).words := by
  have hm := List.mem_map_of_mem (f := clT) h
  have := wordsL_mem hm
  have hl : 1 ≤ cs.length := List.length_pos_of_mem h
  rw [selT, selT, listT_words, listT_words]
  simp only [List.length_map, List.length_cons, List.length_nil, List.map_cons, List.map_nil, wordsL]
  omega
def toldN (r : Option Tm) : Int := match r with | some _ => 1 | none => 0
def toldT (r : Option Tm) : Tm := match r with | some x => x | none => zeroT
theorem firstC_told (o : Tm) (self : Int) (c : Cl) : firstC o self [c] 0 = (toldN (tellG c o self), toldT (tellG c o self)) := by
  rw [firstC_one]
  cases tellG c o self <;> rfl
theorem toldT_ok {c : Cl} {o : Tm} {self : Int} : (toldT (tellG c o self)).Ok := by
  cases h : tellG c o self with
  | none => exact zeroT_ok
  | some x => exact tellG_ok h
theorem more_w {c : Cl} {x : Tm} {B : Nat} (h : SelOk [c]) (hx : x.w ≤ B) (hB : B ≤ 1048576) : (selT [c.more x]).w < 1099511627775 := by
  have h1 := sel1_w (c.more x)
  have h2 := selT_parts (cs := [c]) (c := c) (by simp)
  have h3 := h.w
  have e1 : (c.more x).head = c.head := rfl
  have e2 : (c.more x).gs = x :: c.gs := rfl
  have e3 : (c.more x).bs = c.bs := rfl
  rw [e1, e2, e3, wL_cons, List.length_cons] at h1
  omega
end Go.Av
namespace Go.Proofs.Ytonmmmgffeoiiaa
open Go.Av
set_option maxRecDepth 100000
theorem kitL0_ev : EVf (EV cfg) 17 [.sl []] = some (Tm.mk 8 0 [] []).av := by
  have h : EVf (EV cfg) 17 [.sl []] = some (.agg [.int .i64 8, .int .i64 0, .str [], .sl []]) := factF (.nil) 1000 1000 (by kernel_rfl)
  rw [h, Tm.av_mk]; rfl
theorem kitTl_ev (l : List Tm) : EVf (EV cfg) 16 [.sl (rowsT l)] = some (tupT l).av := by
  apply Gets.get
  refine kitT_run _ ?_
  rw [tupT, Tm.av_mk]
  exact ⟨_, rfl, rfl⟩
theorem takeMore (c : Cl) (x : Tm) : List.take (1 + (rowsT c.gs).length) ([AV.int .i64 x.kind, .int .i64 x.num, .str x.str, .sl (rowsT x.subs)] :: rowsT c.gs) = rowsT (x :: c.gs) := by
  rw [← Tm.cells_eq, ← rowsT_cons, List.take_of_length_le (by simp; omega)]
theorem specGuarded_ev {t o g : Tm} (wt : t.w ≤ 1048576) (wo : o.w ≤ 1048576) (wg : g.w ≤ 1048576) (self : Int) : EVs (EV cfg) 4 [t.av, o.av, g.av, .int .i64 self] = some (.bool true) := by
  have hl := large18_ev (l := [t, o]) ⟨okT_w wt, okT_w wo, trivial⟩ (by simp)
  have hb := bigV_ev (okT_w wg) (most := 100) (by omega) (by omega)
  have hcl := spClauses_ev (t := t) (by omega)
  apply Gets.get
  rw [agg_av t, agg_av o, agg_av g]
  refine specGuarded_run _ _ _ _ _ _ _ _ _ _ _ _ _ ?_
  rw [specAwake_k53, rows2]
  simp only [kOptSome, kBool_bool]
  refine Gets.bind hl ?_
  rintro _ ⟨b, rfl, hlw⟩
  cases b with
  | true => exact ⟨_, rfl, rfl⟩
  | false =>
    have htw := (hlw rfl t (by simp)).2
    simp only [kBool_bool, cond_false, av_unf]
    refine Gets.bind hb ?_
    rintro _ ⟨b, rfl, hgw⟩
    cases b with
    | true => exact ⟨_, rfl, rfl⟩
    | false =>
      have hgw := hgw rfl
      simp only [kBool_bool, cond_false, hcl, kOptSome]
      rw [kSlIntR]
      by_cases h0 : (clsG t).2 = 0
      · obtain ⟨l, rfl, hok, hc⟩ := clsG_both h0
        rw [hc]
        have hlok := (clsG_ok (selT l)).1
        rw [hc] at hlok
        cases l with
        | nil => exact absurd rfl hok.ne
        | cons c l =>
          have hs := hok.one (c := c) (by simp)
          have hcok := hlok c (by simp)
          have hsw := sel_words (cs := c :: l) (c := c) (by simp)
          clear hcl hl hlok hc h0
          have e0 : ((((rowsC (c :: l)).length : Nat) : Int) == 0) = false := by rw [rowsC_len, beqD]; exact decide_eq_false (by simp only [List.length_cons]; omega)
          have e1 : ltInt 0 (((rowsC (c :: l)).length : Nat) : Int) = true := by rw [rowsC_len]; simp only [ltInt]; exact decide_eq_true (by simp only [List.length_cons]; omega)
          have e2 : List.get?Internal (rowsC (c :: l)) 0 = some c.cells := rfl
          have hof := spOf_ev (cs := [c]) (by have := hs.w; omega)
          have hrun := spRun_ev product_ok (t := selT [c]) (o := o) (by have := hs.w; omega) (by omega) self
          have b6 : Nat.ble 6 c.cells.length = true := rfl
          have b66 : Nat.beq c.cells.length 6 = true := rfl
          have t6 : List.take 6 c.cells = c.cells := rfl
          simp only [bneD, decide_true, Bool.not_true, cond_false, e0, e1, e2, cond_true, kOptSome, b6, b66, t6]
          have er : [[AV.int .i64 c.head.kind, .int .i64 c.head.num, .str c.head.str, .sl (rowsT c.head.subs), .sl (rowsT c.gs), .sl (rowsT c.bs)]] = rowsC [c] := rfl
          have kcells : ∀ {α : Type} (K : Int → Int → List UInt8 → List (List AV) → List (List AV) → List (List AV) → Option α), (kCons c.cells fun v cs => kInt .i64 v fun n => kCons cs fun v cs => kInt .i64 v fun n_1 => kCons cs fun v cs => kStr v fun s => kCons cs fun v cs => kSl v fun rows => kCons cs fun v cs => kSl v fun rows_1 => kCons cs fun v cs => kSl v fun rows_2 => kNil cs (K n n_1 s rows rows_1 rows_2)) = K c.head.kind c.head.num c.head.str (rowsT c.head.subs) (rowsT c.gs) (rowsT c.bs) := fun K => rfl
          rw [kcells, er, hof, hs.of]
          simp only [kOptSome]
          rw [kEvalR]
          simp only [av_unf, hrun, kOptSome]
          rw [kRunR, firstG_sel hs]
          by_cases hbad : o.kind ≠ 7 ∨ o.chk ≠ 0 ∨ self < 1 ∨ self > 1073741824
          · rw [if_pos hbad]
            exact ⟨_, rfl, rfl⟩
          · rw [if_neg hbad, firstC_told]
            simp only [decide_true, Bool.not_true, cond_false]
            have s1 : 1 ≤ self := by omega
            have s2 : self ≤ 1073741824 := by omega
            -- a clause with one condition more
            have hrk : rowsOk 4 (rowsT c.gs) = true := rowsOk_rowsT _
            have hft : fitsIn (1 + (rowsT c.gs).length) 56 = true := by rw [rowsT_length]; exact fits56 (by have := hcok.2.2.2.1; omega)
            have hbl : ∀ x : Tm, Nat.ble (0 + (1 + (rowsT c.gs).length)) (List.length ([AV.int .i64 x.kind, .int .i64 x.num, .str x.str, .sl (rowsT x.subs)] :: rowsT c.gs)) = true := fun x => by rw [Nat.ble_eq, List.length_cons]; omega
            have erm : ∀ x : Tm, [[AV.int .i64 c.head.kind, .int .i64 c.head.num, .str c.head.str, .sl (rowsT c.head.subs), .sl (rowsT (x :: c.gs)), .sl (rowsT c.bs)]] = rowsC [c.more x] := fun x => rfl
            have hs1 := more_ok hs (tru_check _) (by have : (symT tru).words = 1 := by decide
                                                     omega)
            have hs2 := more_ok hs (hdN_check _) (by have : hdN.words = 4 := by decide
                                                     omega)
            have wtru : (symT tru).w ≤ 1048576 := by decide
            have whd : hdN.w ≤ 1048576 := by decide
            have tt := tell_true (c := c) (o := o) s1 s2
            have tn := tell_never (c := c) (o := o) (self := self)
            have hA := kitA_ev tru
            have hA2 := kitA_ev [104, 100]
            have of1 := spOf_ev (cs := [c.more (symT tru)]) (more_w hs wtru (by omega))
            have of2 := spOf_ev (cs := [c.more hdN]) (more_w hs whd (by omega))
            have of3 := spOf_ev (cs := [c.more g]) (more_w hs (B := 1048576) (by omega) (by omega))
            have r1 := spRun_ev product_ok (t := selT [c.more (symT tru)]) (o := o) (by have := hs1.w; omega) (by omega) self
            have r2 := spRun_ev product_ok (t := selT [c.more hdN]) (o := o) (by have := hs2.w; omega) (by omega) self
            -- with the condition 'true'
            apply jn4_0_step
            rw [show ([(116 : UInt8), 114, 117, 101] : List UInt8) = tru from rfl, hA]
            simp only [kOptSome, kTmV_av, hrk, hft, hbl, cond_true, Bool.and_true]
            rw [takeMore, erm, of1, hs1.of]
            simp only [kOptSome]
            rw [kEvalR]
            -- with one that raises
            apply jn4_1_step
            rw [hA2, kitL0_ev]
            simp only [kOptSome, kTmV_av]
            rw [rows2, kitTl_ev, show tupT [symT [104, 100], Tm.mk 8 0 [] []] = hdN from rfl]
            simp only [kOptSome, kTmV_av, hrk, hft, hbl, cond_true, Bool.and_true]
            rw [takeMore, erm, of2, hs2.of]
            simp only [kOptSome]
            rw [kEvalR]
            -- both are run
            apply jn4_2_step
            simp only [av_unf, r1, r2, kOptSome]
            rw [kRunR, kRunR, firstG_sel hs1, if_neg hbad, firstC_told, tt, firstG_sel hs2, if_neg hbad, firstC_told, tn]
            apply jn4_3_step
            have hsame := sameT_dec (toldT_ok (c := c) (o := o) (self := self)) (b := toldT (tellG c o self)) (c := true) (by simp)
            have hne : (!(decide (toldN (tellG c o self) > 0) == decide (toldN (tellG c o self) > 0))) = false := by
              cases decide (toldN (tellG c o self) > 0) <;> rfl
            simp only [bneD, decide_true, Bool.not_true, cond_false, hne, av_unf, hsame, kOptSome, kBool_bool]
            rw [show decide (toldN none > 0) = false from rfl, cond_false]
            -- with any condition
            apply jn4_4_step
            simp only [hrk, hft, hbl, cond_true, Bool.and_true]
            rw [takeMore, erm, of3]
            simp only [kOptSome]
            rw [kEvalR]
            by_cases h3 : (ofG [c.more g]).2 = 0
            · have hs3 := ofG_zero h3
              have r3 := spRun_ev product_ok (t := selT [c.more g]) (o := o) (by have := hs3.w; omega) (by omega) self
              rw [hs3.of]
              simp only [bneD, decide_true, Bool.not_true, cond_false, av_unf, r3, kOptSome]
              rw [kRunR, firstG_sel hs3, if_neg hbad, firstC_told]
              cases h5 : tellG (c.more g) o self with
              | none => exact ⟨_, rfl, rfl⟩
              | some y =>
                have h6 := tell_some h5
                have hsame := sameT_dec (tellG_ok h5) (b := y) (c := true) (by simp)
                rw [h6]
                simp only [toldN, toldT, av_unf, hsame]
                exact ⟨_, rfl, rfl⟩
            · simp only [bneD, decide_eq_false h3, Bool.not_false, cond_true]
              exact ⟨_, rfl, rfl⟩
      · simp only [bneD, decide_eq_false h0, Bool.not_false, cond_true]
        exact ⟨_, rfl, rfl⟩
end Go.Proofs.Ytonmmmgffeoiiaa
end
