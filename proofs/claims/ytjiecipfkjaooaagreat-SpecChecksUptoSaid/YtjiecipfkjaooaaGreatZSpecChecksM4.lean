/-
  Parts of the proof of SpecChecksUptoSaid, put together: the abstract evaluation and its contracts. Own work.
  What is proved: each lemma as it stands; no condition.
-/
import Derived.Test.YtjiecipfkjaooaaGreatZSpecChecksM3
open List renaming get?Internal → qsg, getElem?_eq_getElem → qsh, getElem?_eq_some_iff → qsi, length → qsk, take_of_length_le → qsp, getElem?_append_left → qsq, take → qsr, mem_of_getElem? → qss, getElem?_append_right → qst, getElem?_set → qsu, length_append → qsz, append → qsD, replicate → qsG, mem_cons → qsI, mem_append → qsK, range → qsM
open Option renaming bind_eq_some_iff → qsj, map_eq_some_iff → qsl, bind_some → qsv, map_some → qsB
open Bool renaming and_eq_true → qsm, false_eq_true → qsx, and_self → qsH, true_and → qsL
open Nat renaming eq_of_beq_eq_true → qsn, le_refl → qso, ble → qsw, beq → qsy, mul_le_mul_right → qsA, ble_eq → qsF, beq_refl → qsJ
open Int renaming toNat → qsC, toNat_natCast → qsE
set_option maxRecDepth 1000000
set_option maxHeartbeats 0
section
namespace Go.Proofs.YtjiecipfkjaooaaGreat
open Go.Av
noncomputable def qrj : Den := evC cfg (EV cfg) 205 none 0 (sub (qe Tryz.f205) [1, 0, 1, 0, 0])
noncomputable def qrG : Ex × List AV × AH → Option AV := kAft (Cfg.keepOut cfg 205 2) (kRun cfg (EV cfg) (kfN cfg 6) 205 none 0 (xu cfg (Cfg.lift cfg 205 0) Tryz.f205.results.toList) ([.block 0, .seq (sub (qe Tryz.f205) [1, 1])]))
noncomputable def qq5 : List AV × AH → Option AV := fun p => kOpt (LOOP 0 (some [0, 1, 5]) ([]) qrj p) qrG
noncomputable def qri : Den := evC cfg (EV cfg) 206 none 0 (sub (qe Tryz.f206) [1, 1, 0, 1, 0, 0])
noncomputable def qrF : Ex × List AV × AH → Option AV := kAft (Cfg.keepOut cfg 206 3) (kRun cfg (EV cfg) (kfN cfg 6) 206 none 0 (xu cfg (Cfg.lift cfg 206 0) Tryz.f206.results.toList) ([.block 0, .seq (sub (qe Tryz.f206) [1, 1, 1])]))
noncomputable def qq4 : List AV × AH → Option AV := fun p => kOpt (LOOP 0 (some [1, 5, 6]) ([]) qri p) qrF
noncomputable def qrk : Den := evC cfg (EV cfg) 204 none 0 (sub (qe Tryz.f204) [1, 0, 1, 0, 0])
noncomputable def qrH : Ex × List AV × AH → Option AV := kAft (Cfg.keepOut cfg 204 2) (kRun cfg (EV cfg) (kfN cfg 6) 204 none 0 (xu cfg (Cfg.lift cfg 204 0) Tryz.f204.results.toList) ([.block 0, .seq (sub (qe Tryz.f204) [1, 1])]))
noncomputable def qq6 : List AV × AH → Option AV := fun p => kOpt (LOOP 0 (some [0, 1, 5]) ([]) qrk p) qrH
noncomputable def qrl : Den := evC cfg (EV cfg) 152 none 0 (sub (qe Tryz.f152) [1, 1, 1, 0, 1, 0, 0])
noncomputable def qrI : Ex × List AV × AH → Option AV := kAft (Cfg.keepOut cfg 152 5) (kRun cfg (EV cfg) (kfN cfg 6) 152 none 0 (xu cfg (Cfg.lift cfg 152 0) Tryz.f152.results.toList) ([.block 0, .seq (sub (qe Tryz.f152) [1, 1, 1, 1])]))
noncomputable def qq7 : List AV × AH → Option AV := fun p => kOpt (LOOP 0 (some [1, 4, 5]) ([]) qrl p) qrI
noncomputable def qrn : Den := evC cfg (EV cfg) 111 none 0 (sub (qe Tryz.f111) [1, 1, 0, 1, 0, 0])
noncomputable def qrK : Ex × List AV × AH → Option AV := kAft (Cfg.keepOut cfg 111 4) (kRun cfg (EV cfg) (kfN cfg 6) 111 none 0 (xu cfg (Cfg.lift cfg 111 0) Tryz.f111.results.toList) ([.block 0, .seq (sub (qe Tryz.f111) [1, 1, 1])]))
noncomputable def qq9 : List AV × AH → Option AV := fun p => kOpt (LOOP 0 (some [1, 3]) ([]) qrn p) qrK
noncomputable def qrm : Den := evC cfg (EV cfg) 112 none 0 (sub (qe Tryz.f112) [1, 1, 1, 0, 1, 0, 1, 0, 0])
noncomputable def qrJ : Ex × List AV × AH → Option AV := kAft (Cfg.keepOut cfg 112 6) (kRun cfg (EV cfg) (kfN cfg 6) 112 none 0 (xu cfg (Cfg.lift cfg 112 0) Tryz.f112.results.toList) ([.block 0, .seq (sub (qe Tryz.f112) [1, 1, 1, 1])]))
noncomputable def qq8 : List AV × AH → Option AV := fun p => kOpt (LOOP 0 (some [1, 3, 4]) ([]) qrm p) qrJ
noncomputable abbrev qfy (L V : Rz) (v5 : Int) : Option (AV) := qq5  (((fx 19 [(0, .sl L), (1, .sl V), (5, .int .i64 v5)]) : List AV), ([] : AH))
noncomputable abbrev qfx (n : Int) (rows : Rz) (v6 : Int) : Option (AV) := qq4  (((fx 21 [(1, .int .i64 n), (5, .sl rows), (6, .int .i64 v6)]) : List AV), ([] : AH))
noncomputable abbrev qfz (L : Rz) (n v5 : Int) : Option (AV) := qq6  (((fx 18 [(0, .sl L), (1, .int .i64 n), (5, .int .i64 v5)]) : List AV), ([] : AH))
noncomputable abbrev z2 (v4 v5 c0_0 c0_1 : Int) (c0_2 : Bz) (c0_3 : Rz) : Option (AV) := qq7  (((fx 73 [(1, .ptr 0 0 0), (4, .int .i64 v4), (5, .int .i64 v5)]) : List AV), ([.rows false 4 [[.int .i64 c0_0, .int .i64 c0_1, .str c0_2, .sl c0_3]]] : AH))
noncomputable abbrev qfA (v3 c0_0 c0_1 : Int) (c0_2 : Bz) (c0_3 : Rz) : Option (AV) := qq9  (((fx 21 [(1, .ptr 0 0 0), (3, .int .i64 v3)]) : List AV), ([.rows false 4 [[.int .i64 c0_0, .int .i64 c0_1, .str c0_2, .sl c0_3]]] : AH))
noncomputable abbrev yk (v3 v4 c0_0 c0_1 : Int) (c0_2 : Bz) (c0_3 : Rz) : Option (AV) := qq8  (((fx 42 [(1, .ptr 0 0 0), (3, .int .i64 v3), (4, .int .i64 v4)]) : List AV), ([.rows false 4 [[.int .i64 c0_0, .int .i64 c0_1, .str c0_2, .sl c0_3]]] : AH))
theorem qjt (kt nt : Int) (st : Bz) (lt V : Rz) {P : AV → Prop} (h : Gets (kOpt (EVs (EV cfg) 52 [.agg [.int .i64 kt, .int .i64 nt, .str st, .sl lt]]) fun v => kInt .i64 v fun n => bif n != 0 then some (.int .i64 2) else kOpt (EVs (EV cfg) 151 [.agg [.int .i64 kt, .int .i64 nt, .str st, .sl lt], .sl V]) fun v => qv v fun b => bif ! b then some (.int .i64 10) else some (.int .i64 0)) P) : Gets (EVs (EV cfg) 92 [.agg [.int .i64 kt, .int .i64 nt, .str st, .sl lt], .sl V]) P :=
  gE (fun _ => funS rfl rfl Tryz.func92 rfl) (by kernel_rfl) h
theorem qnC (kt nt : Int) (st : Bz) (lt V : Rz) {P : AV → Prop} (h : Gets (kOpt (EVs (EV cfg) 152 [.agg [.int .i64 kt, .int .i64 nt, .str st, .sl lt]]) fun v => kTup v fun cs => qn cs fun c cs => kInt .i64 c fun n => qn cs fun c cs => qv c fun b => kNil cs (bif b then kOpt (EVs (EV cfg) 204 [.sl V, .int .i64 n]) fun v => qv v fun b => some (.bool b) else bif kt == 9 then kOpt (EVs (EV cfg) 205 [.sl lt, .sl V]) fun v => qv v fun b => some (.bool b) else bif kt != 7 then some (.bool true) else bif (lt.length : Int) == 0 then some (.bool false) else bif qo 0 (lt.length : Int) then kOpt (qsg lt 0) fun row => bif qsy (qsk row) 4 then bif qsw 4 (qsk row) then kTmC (qsr 4 row) fun n n_1 s rows => (bif (↑ (qsk lt) : Int) == 1 then bif n == 7 then kOpt (EVs (EV cfg) 205 [.sl rows, .sl V]) fun v => qv v fun b => some (.bool b) else bif n != 2 then some (.bool false) else bif s == [(99 : UInt8), (111 : UInt8), (110 : UInt8), (115 : UInt8), (116 : UInt8)] then some (.bool ((lt.length : Int) == 2)) else kOpt (EVs (EV cfg) 206 [.str s, .int .i64 (IntKind.wrap .i64 ((lt.length : Int) - 1))]) fun v => qv v fun b => bif b then bif qh 1 (↑ (qsk lt) : Int) then bif vE 4 lt then kOpt (EVs (EV cfg) 205 [.sl (qsr (qsk lt - 1) (List.drop 1 lt)), .sl V]) fun v => qv v fun b => some (.bool b) else none else none else some (.bool false) else bif n != 2 then some (.bool false) else bif s == [(99 : UInt8), (111 : UInt8), (110 : UInt8), (115 : UInt8), (116 : UInt8)] then some (.bool ((lt.length : Int) == 2)) else kOpt (EVs (EV cfg) 206 [.str s, .int .i64 (IntKind.wrap .i64 ((lt.length : Int) - 1))]) fun v => qv v fun b => bif b then bif qh 1 (lt.length : Int) then bif vE 4 lt then kOpt (EVs (EV cfg) 205 [.sl (qsr (qsk lt - 1) (List.drop 1 lt)), .sl V]) fun v => qv v fun b => some (.bool b) else none else none else some (.bool false)) else none else none else none)) P) : Gets (EVs (EV cfg) 151 [.agg [.int .i64 kt, .int .i64 nt, .str st, .sl lt], .sl V]) P :=
  gE (fun _ => funS rfl rfl Tryz.func151 rfl) (by kernel_rfl) h
theorem qme (L V : Rz) {P : AV → Prop} (h : Gets (qfy L V 0) P) : Gets (EVs (EV cfg) 205 [.sl L, .sl V]) P :=
  gE (fun _ => funS rfl rfl Tryz.func205 rfl) (by kernel_rfl) h
theorem qmd (op : Bz) (n : Int) {P : AV → Prop} (h : Gets (kOpt (EVf (EV cfg) 238 [.str op]) fun v => kSl v fun rows => qfx n rows 0) P) : Gets (EVs (EV cfg) 206 [.str op, .int .i64 n]) P :=
  gE (fun _ => funS rfl rfl Tryz.func206 rfl) (by kernel_rfl) h
theorem qnD (L : Rz) (n : Int) {P : AV → Prop} (h : Gets (qfz L n 0) P) : Gets (EVs (EV cfg) 204 [.sl L, .int .i64 n]) P :=
  gE (fun _ => funS rfl rfl Tryz.func204 rfl) (by kernel_rfl) h
theorem qmc (op : Bz) {P : AV → Prop} (h : Gets (bif op == [(115 : UInt8), (101 : UInt8), (108 : UInt8), (102 : UInt8)] then some (.sl [[.int .i64 0]]) else bif op == [(105 : UInt8), (115 : UInt8), (95 : UInt8), (97 : UInt8), (116 : UInt8), (111 : UInt8), (109 : UInt8)] then some (.sl [[.int .i64 1]]) else bif op == [(105 : UInt8), (115 : UInt8), (95 : UInt8), (105 : UInt8), (110 : UInt8), (116 : UInt8), (101 : UInt8), (103 : UInt8), (101 : UInt8), (114 : UInt8)] then some (.sl [[.int .i64 1]]) else bif op == [(105 : UInt8), (115 : UInt8), (95 : UInt8), (108 : UInt8), (105 : UInt8), (115 : UInt8), (116 : UInt8)] then some (.sl [[.int .i64 1]]) else bif op == [(105 : UInt8), (115 : UInt8), (95 : UInt8), (116 : UInt8), (117 : UInt8), (112 : UInt8), (108 : UInt8), (101 : UInt8)] then some (.sl [[.int .i64 1]]) else bif op == [(105 : UInt8), (115 : UInt8), (95 : UInt8), (112 : UInt8), (105 : UInt8), (100 : UInt8)] then some (.sl [[.int .i64 1]]) else bif op == [(105 : UInt8), (115 : UInt8), (95 : UInt8), (102 : UInt8), (117 : UInt8), (110 : UInt8), (99 : UInt8), (116 : UInt8), (105 : UInt8), (111 : UInt8), (110 : UInt8)] then some (.sl [[.int .i64 1]]) else bif op == [(105 : UInt8), (115 : UInt8), (95 : UInt8), (114 : UInt8), (101 : UInt8), (102 : UInt8), (101 : UInt8), (114 : UInt8), (101 : UInt8), (110 : UInt8), (99 : UInt8), (101 : UInt8)] then some (.sl [[.int .i64 1]]) else bif op == [(110 : UInt8), (111 : UInt8), (116 : UInt8)] then some (.sl [[.int .i64 1]]) else bif op == [(98 : UInt8), (110 : UInt8), (111 : UInt8), (116 : UInt8)] then some (.sl [[.int .i64 1]]) else bif op == [(97 : UInt8), (98 : UInt8), (115 : UInt8)] then some (.sl [[.int .i64 1]]) else bif op == [(116 : UInt8), (117 : UInt8), (112 : UInt8), (108 : UInt8), (101 : UInt8), (95 : UInt8), (115 : UInt8), (105 : UInt8), (122 : UInt8), (101 : UInt8)] then some (.sl [[.int .i64 1]]) else bif op == [(115 : UInt8), (105 : UInt8), (122 : UInt8), (101 : UInt8)] then some (.sl [[.int .i64 1]]) else bif op == [(104 : UInt8), (100 : UInt8)] then some (.sl [[.int .i64 1]]) else bif op == [(116 : UInt8), (108 : UInt8)] then some (.sl [[.int .i64 1]]) else bif op == [(108 : UInt8), (101 : UInt8), (110 : UInt8), (103 : UInt8), (116 : UInt8), (104 : UInt8)] then some (.sl [[.int .i64 1]]) else bif op == [(43 : UInt8)] then some (.sl [[.int .i64 1], [.int .i64 2]]) else bif op == [(45 : UInt8)] then some (.sl [[.int .i64 1], [.int .i64 2]]) else bif op == [(61 : UInt8), (61 : UInt8)] then some (.sl [[.int .i64 2]]) else bif op == [(61 : UInt8), (58 : UInt8), (61 : UInt8)] then some (.sl [[.int .i64 2]]) else bif op == [(47 : UInt8), (61 : UInt8)] then some (.sl [[.int .i64 2]]) else bif op == [(61 : UInt8), (47 : UInt8), (61 : UInt8)] then some (.sl [[.int .i64 2]]) else bif op == [(60 : UInt8)] then some (.sl [[.int .i64 2]]) else bif op == [(61 : UInt8), (60 : UInt8)] then some (.sl [[.int .i64 2]]) else bif op == [(62 : UInt8)] then some (.sl [[.int .i64 2]]) else bif op == [(62 : UInt8), (61 : UInt8)] then some (.sl [[.int .i64 2]]) else bif op == [(97 : UInt8), (110 : UInt8), (100 : UInt8)] then some (.sl [[.int .i64 2]]) else bif op == [(111 : UInt8), (114 : UInt8)] then some (.sl [[.int .i64 2]]) else bif op == [(120 : UInt8), (111 : UInt8), (114 : UInt8)] then some (.sl [[.int .i64 2]]) else bif op == [(97 : UInt8), (110 : UInt8), (100 : UInt8), (97 : UInt8), (108 : UInt8), (115 : UInt8), (111 : UInt8)] then some (.sl [[.int .i64 2]]) else bif op == [(111 : UInt8), (114 : UInt8), (101 : UInt8), (108 : UInt8), (115 : UInt8), (101 : UInt8)] then some (.sl [[.int .i64 2]]) else bif op == [(42 : UInt8)] then some (.sl [[.int .i64 2]]) else bif op == [(100 : UInt8), (105 : UInt8), (118 : UInt8)] then some (.sl [[.int .i64 2]]) else bif op == [(114 : UInt8), (101 : UInt8), (109 : UInt8)] then some (.sl [[.int .i64 2]]) else bif op == [(98 : UInt8), (97 : UInt8), (110 : UInt8), (100 : UInt8)] then some (.sl [[.int .i64 2]]) else bif op == [(98 : UInt8), (111 : UInt8), (114 : UInt8)] then some (.sl [[.int .i64 2]]) else bif op == [(98 : UInt8), (120 : UInt8), (111 : UInt8), (114 : UInt8)] then some (.sl [[.int .i64 2]]) else bif op == [(101 : UInt8), (108 : UInt8), (101 : UInt8), (109 : UInt8), (101 : UInt8), (110 : UInt8), (116 : UInt8)] then some (.sl [[.int .i64 2]]) else some (.sl [])) P) : Gets (EVf (EV cfg) 238 [.str op]) P :=
  gE (fun _ => funF rfl rfl Tryz.func238 rfl) (by kernel_rfl) h
theorem qmi (kt nt : Int) (st : Bz) (lt : Rz) {P : AV → Prop} (h : Gets (kOpt (EVs (EV cfg) 52 [.agg [.int .i64 kt, .int .i64 nt, .str st, .sl lt]]) fun v => kInt .i64 v fun n => bif n != 0 then some (AV.tup [.int .i64 0, .bool false]) else bif kt != 2 then some (AV.tup [.int .i64 0, .bool false]) else bif decide ((st.length : Int) < 2) then some (AV.tup [.int .i64 0, .bool false]) else bif decide ((st.length : Int) > 3) then some (AV.tup [.int .i64 0, .bool false]) else kOpt (qsg st 0) fun b => bif (↑ (UInt8.toNat b) : Int) != 36 then some (AV.tup [.int .i64 0, .bool false]) else bif (st.length : Int) == 3 then kOpt (qsg st 1) fun b => bif (↑ (UInt8.toNat b) : Int) == 48 then some (AV.tup [.int .i64 0, .bool false]) else z2 0 1 kt nt st lt else z2 0 1 kt nt st lt) P) : Gets (EVs (EV cfg) 152 [.agg [.int .i64 kt, .int .i64 nt, .str st, .sl lt]]) P :=
  gE (fun _ => funS rfl rfl Tryz.func152 rfl) (by kernel_rfl) h
theorem qjx (kt nt : Int) (st : Bz) (lt : Rz) {P : AV → Prop} (h : Gets (kOpt (EVs (EV cfg) 111 [.agg [.int .i64 kt, .int .i64 nt, .str st, .sl lt]]) fun v => qv v fun b => bif ! b then some (.int .i64 2) else kOpt (EVs (EV cfg) 112 [.agg [.int .i64 kt, .int .i64 nt, .str st, .sl lt]]) fun v => kInt .i64 v fun n => bif decide (n > 65536) then some (.int .i64 3) else some (.int .i64 0)) P) : Gets (EVs (EV cfg) 52 [.agg [.int .i64 kt, .int .i64 nt, .str st, .sl lt]]) P :=
  gE (fun _ => funS rfl rfl Tryz.func52 rfl) (by kernel_rfl) h
noncomputable abbrev zb0 (st : Bz) (lt : Rz) : Option (AV) := bif st == [] then some (.bool ((lt.length : Int) == 0)) else some (.bool false)
noncomputable abbrev zb1 (nt : Int) (st : Bz) (lt : Rz) : Option (AV) := kOpt (EVs (EV cfg) 222 [.int .i64 nt]) fun v => qv v fun b => bif b then zb0 st lt else some (.bool false)
theorem qmk (kt nt : Int) (st : Bz) (lt : Rz) {P : AV → Prop} (h : Gets (bif kt == 1 then bif decide (nt ≥ (- 576460752303423488)) then bif decide (nt ≤ 576460752303423487) then zb0 st lt else some (.bool false) else some (.bool false) else bif kt == 2 then bif nt == 0 then bif decide ((st.length : Int) ≤ 64) then some (.bool ((lt.length : Int) == 0)) else some (.bool false) else some (.bool false) else bif kt == 3 then zb1 nt st lt else bif kt == 4 then kOpt (EVs (EV cfg) 222 [.int .i64 nt]) fun v => qv v fun b => bif b then bif st == [] then some (.bool ((lt.length : Int) == (0 : Int))) else some (.bool false) else some (.bool false) else bif kt == 6 then zb1 nt st lt else bif kt == 5 then kOpt (EVs (EV cfg) 222 [.int .i64 nt]) fun v => qv v fun b => bif b then bif st == [] then some (.bool (decide ((lt.length : Int) ≤ 64))) else some (.bool false) else some (.bool false) else bif kt == 7 then bif nt == 0 then bif st == [] then some (.bool (decide ((lt.length : Int) ≤ 64))) else some (.bool false) else some (.bool false) else bif kt == 8 then bif nt == 0 then zb0 st lt else some (.bool false) else bif kt == 9 then bif nt == 0 then bif st == [] then some (.bool ((lt.length : Int) == 2)) else some (.bool false) else some (.bool false) else some (.bool false)) P) : Gets (EVs (EV cfg) 172 [.agg [.int .i64 kt, .int .i64 nt, .str st, .sl lt]]) P :=
  gE (fun _ => funS rfl rfl Tryz.func172 rfl) (by kernel_rfl) h
theorem qjw (kt nt : Int) (st : Bz) (lt : Rz) {P : AV → Prop} (h : Gets (kOpt (EVs (EV cfg) 172 [.agg [.int .i64 kt, .int .i64 nt, .str st, .sl lt]]) fun v => qv v fun b => bif ! b then some (.bool false) else qfA 0 kt nt st lt) P) : Gets (EVs (EV cfg) 111 [.agg [.int .i64 kt, .int .i64 nt, .str st, .sl lt]]) P :=
  gE (fun _ => funS rfl rfl Tryz.func111 rfl) (by kernel_rfl) h
theorem qjv (kt nt : Int) (st : Bz) (lt : Rz) {P : AV → Prop} (h : Gets (bif kt == 5 then bif kt == 5 then yk 2 0 kt nt st lt else bif kt == 7 then yk 2 0 kt nt st lt else bif kt == 9 then yk 2 0 kt nt st lt else some (.int .i64 2) else bif kt == 7 then bif kt == 5 then yk 2 0 kt nt st lt else bif kt == 7 then yk 2 0 kt nt st lt else bif kt == 9 then yk 2 0 kt nt st lt else some (.int .i64 2) else bif kt == 5 then yk 1 0 kt nt st lt else bif kt == 7 then yk 1 0 kt nt st lt else bif kt == 9 then yk 1 0 kt nt st lt else some (.int .i64 1)) P) : Gets (EVs (EV cfg) 112 [.agg [.int .i64 kt, .int .i64 nt, .str st, .sl lt]]) P :=
  gE (fun _ => funS rfl rfl Tryz.func112 rfl) (by kernel_rfl) h
theorem qep (L V : Rz) (v5 : Int) {P : AV → Prop} (h : Gets (bif decide (v5 < (L.length : Int)) then bif qh 0 v5 && qo v5 (L.length : Int) then kOpt (qsg L (v5.toNat)) fun row => bif qsy (qsk row) 4 then bif qsw 4 (qsk row) then kTmC (qsr 4 row) fun n n_1 s rows => (kOpt (EVs (EV cfg) 151 [.agg [.int .i64 n, .int .i64 n_1, .str s, .sl rows], .sl V]) fun v => qv v fun b => bif ! b then some (.bool false) else qfy L V (IntKind.wrap .i64 (v5 + 1))) else none else none else none else some (.bool true)) P) : Gets (qfy L V v5) P :=
  gE (fun _ => qt (cfg := cfg) (f := 205) (rd := none) (bs := 0)) (by kernel_rfl) h
theorem qeo (n : Int) (rows : Rz) (v6 : Int) {P : AV → Prop} (h : Gets (bif decide (v6 < (rows.length : Int)) then bif qh 0 v6 && qo v6 (rows.length : Int) then kOpt (qsg rows (v6.toNat)) fun row => bif qsy (qsk row) 1 then kOpt (qsg row 0) fun v => kInt .i64 v fun n_1 => bif n_1 == n then some (.bool true) else qfx n rows (IntKind.wrap .i64 (v6 + 1)) else none else none else some (.bool false)) P) : Gets (qfx n rows v6) P :=
  gE (fun _ => qt (cfg := cfg) (f := 206) (rd := none) (bs := 0)) (by kernel_rfl) h
theorem qeq (L : Rz) (n v5 : Int) {P : AV → Prop} (h : Gets (bif decide (v5 < (L.length : Int)) then bif qh 0 v5 && qo v5 (L.length : Int) then kOpt (qsg L (v5.toNat)) fun row => bif qsy (qsk row) 1 then kOpt (qsg row 0) fun v => kInt .i64 v fun n_1 => bif n_1 == n then some (.bool true) else qfz L n (IntKind.wrap .i64 (v5 + 1)) else none else none else some (.bool false)) P) : Gets (qfz L n v5) P :=
  gE (fun _ => qt (cfg := cfg) (f := 204) (rd := none) (bs := 0)) (by kernel_rfl) h
theorem qer (v4 v5 c0_0 c0_1 : Int) (c0_2 : Bz) (c0_3 : Rz) {P : AV → Prop} (h : Gets (bif decide (v5 < (c0_2.length : Int)) then bif qh 0 v5 then kOpt (qsg c0_2 (v5.toNat)) fun b => bif decide ((↑ (UInt8.toNat b) : Int) < 48) then some (AV.tup [.int .i64 0, .bool false]) else bif qh 0 v5 then kOpt (qsg c0_2 (v5.toNat)) fun b => bif decide ((↑ (UInt8.toNat b) : Int) > 57) then some (AV.tup [.int .i64 0, .bool false]) else bif qh 0 v5 then kOpt (qsg c0_2 (v5.toNat)) fun b => z2 (IntKind.wrap .i64 (IntKind.wrap .i64 (10 * v4) + IntKind.wrap .i64 (IntKind.wrap .u8 ((↑ (UInt8.toNat b) : Int) - 48)))) (IntKind.wrap .i64 (v5 + 1)) c0_0 c0_1 c0_2 c0_3 else none else none else none else some (AV.tup [.int .i64 v4, .bool true])) P) : Gets (z2 v4 v5 c0_0 c0_1 c0_2 c0_3) P :=
  gE (fun _ => qt (cfg := cfg) (f := 152) (rd := none) (bs := 0)) (by kernel_rfl) h
theorem qet (v3 c0_0 c0_1 : Int) (c0_2 : Bz) (c0_3 : Rz) {P : AV → Prop} (h : Gets (bif decide (v3 < (c0_3.length : Int)) then bif qh 0 v3 && qo v3 (c0_3.length : Int) then kOpt (qsg c0_3 (v3.toNat)) fun row => bif qsy (qsk row) 4 then bif qsw 4 (qsk row) then kTmC (qsr 4 row) fun n n_1 s rows => (kOpt (EVs (EV cfg) 111 [.agg [.int .i64 n, .int .i64 n_1, .str s, .sl rows]]) fun v => qv v fun b => bif ! b then some (.bool false) else qfA (IntKind.wrap .i64 (v3 + 1)) c0_0 c0_1 c0_2 c0_3) else none else none else none else some (.bool true)) P) : Gets (qfA v3 c0_0 c0_1 c0_2 c0_3) P :=
  gE (fun _ => qt (cfg := cfg) (f := 111) (rd := none) (bs := 0)) (by kernel_rfl) h
theorem qes (v3 v4 c0_0 c0_1 : Int) (c0_2 : Bz) (c0_3 : Rz) {P : AV → Prop} (h : Gets (bif decide (v4 < (c0_3.length : Int)) then bif qh 0 v4 && qo v4 (c0_3.length : Int) then kOpt (qsg c0_3 (v4.toNat)) fun row => bif qsy (qsk row) 4 then bif qsw 4 (qsk row) then kTmC (qsr 4 row) fun n n_1 s rows => (kOpt (EVs (EV cfg) 112 [.agg [.int .i64 n, .int .i64 n_1, .str s, .sl rows]]) fun v => kInt .i64 v fun n => yk (IntKind.wrap .i64 (v3 + n)) (IntKind.wrap .i64 (v4 + 1)) c0_0 c0_1 c0_2 c0_3) else none else none else none else some (.int .i64 v3)) P) : Gets (yk v3 v4 c0_0 c0_1 c0_2 c0_3) P :=
  gE (fun _ => qt (cfg := cfg) (f := 112) (rd := none) (bs := 0)) (by kernel_rfl) h
theorem qf0 (n : Int) {P : AV → Prop} (h : Gets (bif decide (n ≥ 0) then some (.bool (decide (n ≤ 1073741824))) else some (.bool false)) P) : Gets (EVs (EV cfg) 222 [.int .i64 n]) P :=
  gE (fun _ => funS rfl rfl Tryz.func222 rfl) (by kernel_rfl) h
noncomputable def qrs : Den := evC cfg (EV cfg) 120 none 0 (sub (qe Tryz.f120) [1, 1, 1, 0, 1, 0, 0])
noncomputable def qrP : Ex × List AV × AH → Option AV := kAft (Cfg.keepOut cfg 120 5) (kRun cfg (EV cfg) (kfN cfg 6) 120 none 0 (xu cfg (Cfg.lift cfg 120 0) Tryz.f120.results.toList) ([.block 0, .seq (sub (qe Tryz.f120) [1, 1, 1, 1])]))
noncomputable def qre : List AV × AH → Option AV := fun p => kOpt (LOOP 0 (some [4, 32, 33, 34]) ([]) qrs p) qrP
noncomputable abbrev qaQ (s : Bz) (v4 v34 : Int) (h0 : Rz) : Option (AV) := qre  (((fx 52 [(4, .int .i64 v4), (32, .ms 0 0 (qsk (qsr (qsk s - 1) (List.drop 1 s)))), (33, .int .i64 (↑(qsk (qsr (qsk s - 1) (List.drop 1 s))) : Int)), (34, .int .i64 v34)]) : List AV), ([.rows true 1 h0] : AH))
noncomputable abbrev zd1 (s : Bz) : Option (AV) := qaQ s 0 0 (List.map (fun b => [.int .u8 (↑ (UInt8.toNat b) : Int)]) (qsr (qsk s - 1) (List.drop 1 s)))
noncomputable abbrev zd0 (s : Bz) : Option (AV) := bif qh 1 (s.length : Int) then zd1 s else none
theorem qix (s : Bz) {P : AV → Prop} (h : Gets (bif decide ((s.length : Int) < 2) then some (AV.tup [.int .i64 0, .bool false]) else bif decide ((s.length : Int) > 3) then some (AV.tup [.int .i64 0, .bool false]) else kOpt (qsg s 0) fun b => bif (↑ (UInt8.toNat b) : Int) != 36 then some (AV.tup [.int .i64 0, .bool false]) else bif (s.length : Int) == 3 then kOpt (qsg s 1) fun b => bif (↑ (UInt8.toNat b) : Int) == 48 then some (AV.tup [.int .i64 0, .bool false]) else zd0 s else zd0 s) P) : Gets (EVs (EV cfg) 120 [.str s]) P :=
  gE (fun _ => funS rfl rfl Tryz.func120 rfl) (by kernel_rfl) h
theorem qmo (kt nt : Int) (st : Bz) (lt : Rz) {P : AV → Prop} (h : Gets (kOpt (EVs (EV cfg) 53 [.agg [.int .i64 kt, .int .i64 nt, .str st, .sl lt]]) fun v => kInt .i64 v fun n => some (.bool (n == 0))) P) : Gets (EVs (EV cfg) 118 [.agg [.int .i64 kt, .int .i64 nt, .str st, .sl lt]]) P :=
  gE (fun _ => funS rfl rfl Tryz.func118 rfl) (by kernel_rfl) h
theorem qmn (kt nt : Int) (st : Bz) (lt : Rz) {P : AV → Prop} (h : Gets (bif kt != 2 then some (AV.tup [.int .i64 0, .bool false]) else kOpt (EVs (EV cfg) 118 [.agg [.int .i64 kt, .int .i64 nt, .str st, .sl lt]]) fun v => qv v fun b => bif ! b then some (AV.tup [.int .i64 0, .bool false]) else kOpt (EVs (EV cfg) 120 [.str st]) fun v => kTup v fun cs => qn cs fun c cs => kInt .i64 c fun n => qn cs fun c cs => qv c fun b => kNil cs (some (AV.tup [.int .i64 n, .bool b]))) P) : Gets (EVs (EV cfg) 148 [.agg [.int .i64 kt, .int .i64 nt, .str st, .sl lt]]) P :=
  gE (fun _ => funS rfl rfl Tryz.func148 rfl) (by kernel_rfl) h
noncomputable abbrev zd2 (v : AV) : Option (AV) := kInt .u64 v fun n => kOpt (vt (Op.intBits BinOp.and .u64 n 1)) fun v => kInt .u64 v fun n => some (.bool (n == 1))
theorem ql0 (n : Int) (r : List AV) {P : AV → Prop} (h : Gets (bif decide (n < 64) then kOpt (qsg r 0) fun v => kInt .u64 v fun n_1 => kOpt (vt (Op.shift BinOp.shr .u64 n_1 .i64 n)) fun v => zd2 v else kOpt (qsg r 1) fun v => kInt .u64 v fun n_1 => kOpt (vt (Op.shift BinOp.shr .u64 n_1 .i64 (IntKind.wrap .i64 (n - 64)))) fun v => zd2 v) P) : Gets (EVs (EV cfg) 220 [.cptr r 0, .int .i64 n]) P :=
  gE (fun _ => funS rfl rfl Tryz.func220 rfl) (by kernel_rfl) h
theorem qex (s : Bz) (v4 v34 : Int) (h0 : Rz) {P : AV → Prop} (h : Gets (bif decide (v34 < (↑ (qsk (qsr (qsk s - 1) (List.drop 1 s))) : Int)) then bif qh 0 v34 && qo v34 (↑ (qsk (qsr (qsk s - 1) (List.drop 1 s))) : Int) then kOpt (qsg h0 (0 + v34.toNat)) fun row => kOpt (qsg row 0) fun v => kInt .u8 v fun n => bif decide (n < 48) then some (AV.tup [.int .i64 0, .bool false]) else bif decide (n > 57) then some (AV.tup [.int .i64 0, .bool false]) else qaQ s (IntKind.wrap .i64 (IntKind.wrap .i64 (v4 * 10) + IntKind.wrap .i64 (IntKind.wrap .u8 (n - 48)))) (IntKind.wrap .i64 (v34 + 1)) h0 else none else some (AV.tup [.int .i64 v4, .bool true])) P) : Gets (qaQ s v4 v34 h0) P :=
  gE (fun _ => qt (cfg := cfg) (f := 120) (rd := none) (bs := 0)) (by kernel_rfl) h
end Go.Proofs.YtjiecipfkjaooaaGreat
end
section
namespace Go.Av
@[simp] theorem Tm.kind_mk (k n : Int) (s : List UInt8) (l : List Tm) : (Tm.mk k n s l).kind = k := rfl
@[simp] theorem Tm.num_mk (k n : Int) (s : List UInt8) (l : List Tm) : (Tm.mk k n s l).num = n := rfl
@[simp] theorem Tm.str_mk (k n : Int) (s : List UInt8) (l : List Tm) : (Tm.mk k n s l).str = s := rfl
@[simp] theorem Tm.subs_mk (k n : Int) (s : List UInt8) (l : List Tm) : (Tm.mk k n s l).subs = l := rfl
@[simp] theorem Tm.eta (t : Tm) : Tm.mk t.kind t.num t.str t.subs = t := by cases t; rfl
theorem Tm.cells_eq (t : Tm) : t.cells = [.int .i64 t.kind, .int .i64 t.num, .str t.str, .sl (qa t.subs)] := by cases t; rw [Tm.cells_mk]; rfl
@[simp] theorem cells_fold (k n : Int) (s : List UInt8) (l : List Tm) : [AV.int .i64 k, AV.int .i64 n, AV.str s, AV.sl (qa l)] = (Tm.mk k n s l).cells := (Tm.cells_mk k n s l).symm
@[simp] theorem cells_fold0 (k n : Int) (s : List UInt8) : [AV.int .i64 k, AV.int .i64 n, AV.str s, AV.sl []] = (Tm.mk k n s []).cells := by rw [Tm.cells_mk, qT]
@[simp] theorem agg_cells (t : Tm) : AV.agg t.cells = t.av := rfl
@[simp] theorem qnv (t : Tm) : [t.cells] = qa [t] := by rw [qD, qT]
@[simp] theorem rowsT_cons' (t : Tm) (l : List Tm) : t.cells :: qa l = qa (t :: l) := (qD t l).symm
@[simp] theorem rowsT_append' (a b : List Tm) : qa a ++ qa b = qa (a ++ b) := (q8 a b).symm
@[simp] theorem rowsT_app (a b : List Tm) : qsD (qa a) (qa b) = qa (a ++ b) := (q8 a b).symm
@[simp] theorem rowsT_take' (n : Nat) (a : List Tm) : (qa a).take n = qa (a.take n) := ql4 n a
@[simp] theorem rowsT_drop' (n : Nat) (a : List Tm) : (qa a).drop n = qa (a.drop n) := ql5 n a
@[simp] theorem rowsT_set' (l : List Tm) (i : Nat) (t : Tm) : (qa l).set i t.cells = qa (l.set i t) := qnu l i t
@[simp] theorem rowsT_get' (l : List Tm) (i : Nat) : (qa l)[i]? = (l[i]?).map Tm.cells := xl l i
@[simp] theorem rowsT_getElem (l : List Tm) (i : Nat) (h : i < (qa l).length) : (qa l)[i] = (l[i]'(by simpa using h)).cells := by
 have h1 := xl l i
 rw [qsh h, qsh (by simpa using h)] at h1
 exact Option.some.inj h1
@[simp] theorem kOpt_map {α β γ : Type} (o : Option β) (g : β → γ) (k : γ → Option α) : kOpt (o.map g) k = kOpt o fun x => k (g x) := by cases o <;> rfl
@[simp] theorem qx (t : Tm) : t.cells.length = 4 := by rw [Tm.cells_eq]; rfl
@[simp] theorem qG (t : Tm) : t.cells.take 4 = t.cells := by rw [Tm.cells_eq]; rfl
@[simp] theorem drop_cells (t : Tm) : t.cells.drop 4 = [] := by rw [Tm.cells_eq]; rfl
@[simp] theorem cells_0 (t : Tm) : t.cells[0]? = some (.int .i64 t.kind) := by rw [Tm.cells_eq]; rfl
@[simp] theorem cells_1 (t : Tm) : t.cells[1]? = some (.int .i64 t.num) := by rw [Tm.cells_eq]; rfl
@[simp] theorem cells_2 (t : Tm) : t.cells[2]? = some (.str t.str) := by rw [Tm.cells_eq]; rfl
@[simp] theorem cells_3 (t : Tm) : t.cells[3]? = some (.sl (qa t.subs)) := by rw [Tm.cells_eq]; rfl
@[simp] theorem refs_cells (n : Nat) (t : Tm) : qp n t.cells = true := by rw [Tm.cells_eq]; rfl
@[simp] theorem allCells_cells (t : Tm) : vw t.cells = true := by rw [Tm.cells_eq]; rfl
@[simp] theorem rowsT_free' (l : List Tm) : qw 0 (qa l) = true := qfT l
@[simp] theorem qaT (l : List Tm) : vE 4 (qa l) = true := by
 cases l with
 | nil => rw [qT]; rfl
 | cons t l => rw [qD, vE, qx]; rfl
@[simp] theorem qB {α : Type} (t : Tm) (k : Int → Int → List UInt8 → List (List AV) → Option α) : kTmC t.cells k = k t.kind t.num t.str (qa t.subs) := by rw [Tm.cells_eq]; rfl
@[simp] theorem zL {α : Type} (t : Tm) (k : Int → Int → List UInt8 → List (List AV) → Option α) : kTmV t.av k = k t.kind t.num t.str (qa t.subs) := by rw [Tm.av, Tm.cells_eq]; rfl
theorem qqK {i n : Nat} (h : i < n) (hn : n < 1099511627776) : IntKind.wrap .i64 ((i : Int) + 1) = (i : Int) + 1 := vm (by omega) (by omega)
@[simp] theorem cast_nn (q : Nat) : (0 ≤ (q : Int) + 1) = True := eq_true (by omega)
@[simp] theorem cast_le1 (q n : Nat) : ((q : Int) + 1 ≤ (n : Int)) = (q + 1 ≤ n) := propext (by omega)
@[simp] theorem cast_lt1 (q n : Nat) : ((q : Int) + 1 < (n : Int)) = (q + 1 < n) := propext (by omega)
@[simp] theorem cast_nn' (q : Nat) : (0 < (q : Int) + 1) = True := eq_true (by omega)
@[simp] theorem cast_ne0 (q : Nat) : ((q : Int) + 1 == 0) = false := by rw [beqD]; exact decide_eq_false (by omega)
@[simp] theorem cast_lt_s (q : Nat) : ((q : Int) < (q : Int) + 1) = True := eq_true (by omega)
@[simp] theorem cast_le_s (q : Nat) : ((q : Int) ≤ (q : Int) + 1) = True := eq_true (by omega)
theorem qr1 {n : Nat} (hn : n < 4398046511104) : IntKind.wrap .i64 (n : Int) = n := vm (by omega) (by omega)
def C3 (p q r : Int) : Prop := (p ≤ 0 → q ≤ 0 → r ≤ 0) ∧ (p < 0 → q ≤ 0 → r < 0) ∧ (p ≤ 0 → q < 0 → r < 0) ∧ (0 ≤ p → 0 ≤ q → 0 ≤ r) ∧ (0 < p → 0 ≤ q → 0 < r) ∧ (0 ≤ p → 0 < q → 0 < r)
def yG (k n : Int) (s : List UInt8) (m : Nat) : Bool :=
 if k = 1 then decide (-576460752303423488 ≤ n) && (decide (n ≤ 576460752303423487) && (decide (s = []) && decide (m = 0)))
 else if k = 2 then decide (n = 0) && (decide (s.length ≤ 64) && decide (m = 0))
 else if k = 3 then decide (0 ≤ n) && (decide (n ≤ 1073741824) && (decide (s = []) && decide (m = 0)))
 else if k = 4 then decide (0 ≤ n) && (decide (n ≤ 1073741824) && (decide (s = []) && decide (m = 0)))
 else if k = 6 then decide (0 ≤ n) && (decide (n ≤ 1073741824) && (decide (s = []) && decide (m = 0)))
 else if k = 5 then decide (0 ≤ n) && (decide (n ≤ 1073741824) && (decide (s = []) && decide (m ≤ 64)))
 else if k = 7 then decide (n = 0) && (decide (s = []) && decide (m ≤ 64))
 else if k = 8 then decide (n = 0) && (decide (s = []) && decide (m = 0))
 else if k = 9 then decide (n = 0) && (decide (s = []) && decide (m = 2))
 else false
def Tm.sound (t : Tm) : Bool := yG t.kind t.num t.str t.subs.length
def Tm.own (t : Tm) : Nat := if t.kind = 7 ∨ t.kind = 5 then 2 else 1
theorem q9 (a b : Bool) : (bif a then some (AV.bool b) else some (AV.bool false)) = some (.bool (a && b)) := by cases a <;> rfl
theorem qoe (s : List UInt8) : (s == []) = decide (s = []) := by cases s <;> simp
theorem beqI (a b : Int) : (a == b) = decide (a = b) := by simp [beqD]
mutual
/-- may all parts of a term be? -/
def Tm.parts : Tm → Bool
 | .mk k n s l => yG k n s l.length && qU l
def qU : List Tm → Bool
 | [] => true
 | t :: l => t.parts && qU l
end
mutual
/-- how many words all parts have -/
def Tm.words : Tm → Nat
 | .mk k n s l => (Tm.mk k n s l).own + qF l
def qF : List Tm → Nat
 | [] => 0
 | t :: l => t.words + qF l
end
theorem Tm.parts_eq (t : Tm) : t.parts = (t.sound && qU t.subs) := by cases t; rw [Tm.parts]; rfl
theorem Tm.words_eq (t : Tm) : t.words = t.own + qF t.subs := by cases t; rw [Tm.words]; rfl
theorem qar (a b : List Tm) : qU (a ++ b) = (qU a && qU b) := by
 induction a with
 | nil => simp [qU]
 | cons x l ih => simp [qU, ih, Bool.and_assoc]
theorem qag (a b : List Tm) : qF (a ++ b) = qF a + qF b := by
 induction a with
 | nil => simp [qF]
 | cons x l ih => simp [qF, ih]; omega
theorem qmq (a : List Tm) : qU a.reverse = qU a := by
 induction a with
 | nil => rfl
 | cons x l ih => simp [qar, qU, ih, Bool.and_comm]
theorem qlQ (a : List Tm) : qF a.reverse = qF a := by
 induction a with
 | nil => rfl
 | cons x l ih => simp [qag, qF, ih]; omega
theorem Tm.own_le (t : Tm) : t.own ≤ 2 ∧ 1 ≤ t.own := by unfold Tm.own; split <;> omega
theorem qoA (t : Tm) : t.words ≤ 2 * t.w := by
 induction t using Tm.ind with
 | _ k n s l ih =>
  have h1 : qF l ≤ 2 * wL l := by
   clear n s
   induction l with
   | nil => simp [qF]
   | cons x l ih2 =>
    have := ih x (by simp)
    have := ih2 (fun t ht => ih t (by simp [ht]))
    simp [qF]; omega
  have := (Tm.mk k n s l).own_le
  rw [Tm.words, Tm.w_mk]; omega
def chkS (R : List Tm) (wd : Nat) : Int := if qU R then (if 65536 < wd + qF R then 3 else 0) else 2
def Tm.chk (t : Tm) : Int := chkS [t] 0
theorem qpj {R : List Tm} {x : Tm} {wd : Nat} (h : x.sound = false) : chkS (R ++ [x]) wd = 2 := by
 unfold chkS
 rw [qar]
 simp [qU, Tm.parts_eq, h]
theorem qh8 {R : List Tm} {x : Tm} {wd : Nat} (h : x.sound = true) : chkS (R ++ x.subs.reverse) (wd + x.own) = chkS (R ++ [x]) wd := by
 unfold chkS
 simp only [qar, qmq, qag, qlQ, qU, qF, Tm.parts_eq, Tm.words_eq, h, qsL, Bool.and_true]
 have : wd + x.own + (qF R + qF x.subs) = wd + (qF R + (x.own + qF x.subs + 0)) := by omega
 rw [this]
def tupT (l : List Tm) : Tm := .mk 7 0 [] l
def qps : Tm := .mk 0 0 [] []
def InB (a : Int) : Prop := -576460752303423488 ≤ a ∧ a ≤ 576460752303423487
instance (a : Int) : Decidable (InB a) := inferInstanceAs (Decidable (_ ∧ _))
theorem beqS (a b : List UInt8) : (a == b) = decide (a = b) := by by_cases h : a = b <;> simp [h]
structure Env where
 obj : Tm
 binds : List (Int × Tm)
 self : Int
def tru : List UInt8 := [116, 114, 117, 101]
def qbS : List (List UInt8 × List Int) := [
 ([115, 101, 108, 102], [0]),
 ([105, 115, 95, 97, 116, 111, 109], [1]),
 ([105, 115, 95, 105, 110, 116, 101, 103, 101, 114], [1]),
 ([105, 115, 95, 108, 105, 115, 116], [1]),
 ([105, 115, 95, 116, 117, 112, 108, 101], [1]),
 ([105, 115, 95, 112, 105, 100], [1]),
 ([105, 115, 95, 102, 117, 110, 99, 116, 105, 111, 110], [1]),
 ([105, 115, 95, 114, 101, 102, 101, 114, 101, 110, 99, 101], [1]),
 ([110, 111, 116], [1]),
 ([98, 110, 111, 116], [1]),
 ([97, 98, 115], [1]),
 ([116, 117, 112, 108, 101, 95, 115, 105, 122, 101], [1]),
 ([115, 105, 122, 101], [1]),
 ([104, 100], [1]),
 ([116, 108], [1]),
 ([108, 101, 110, 103, 116, 104], [1]),
 ([43], [1, 2]),
 ([45], [1, 2]),
 ([61, 61], [2]),
 ([61, 58, 61], [2]),
 ([47, 61], [2]),
 ([61, 47, 61], [2]),
 ([60], [2]),
 ([61, 60], [2]),
 ([62], [2]),
 ([62, 61], [2]),
 ([97, 110, 100], [2]),
 ([111, 114], [2]),
 ([120, 111, 114], [2]),
 ([97, 110, 100, 97, 108, 115, 111], [2]),
 ([111, 114, 101, 108, 115, 101], [2]),
 ([42], [2]),
 ([100, 105, 118], [2]),
 ([114, 101, 109], [2]),
 ([98, 97, 110, 100], [2]),
 ([98, 111, 114], [2]),
 ([98, 120, 111, 114], [2]),
 ([101, 108, 101, 109, 101, 110, 116], [2])]
def zu {β : Type} (op : List UInt8) (d : β) : List (List UInt8 × β) → β
 | [] => d
 | p :: l => bif op == p.1 then p.2 else zu op d l
theorem qdo {β γ : Type} (g : β → γ) (op : List UInt8) (d : β) : ∀ l : List (List UInt8 × β), zu op (g d) (l.map fun p => (p.1, g p.2)) = g (zu op d l)
 | [] => rfl
 | p :: l => by
  rw [List.map_cons, zu, zu, qdo g op d l]
  cases op == p.1 <;> rfl
def opsG (op : List UInt8) : List Int := zu op [] qbS
def qk (l : List Int) : List (List AV) := l.map fun n => [.int .i64 n]
theorem qX (l : List Int) : (qk l).length = l.length := by simp [qk]
theorem z8 (l : List Int) (i : Nat) : (qk l)[i]? = (l[i]?).map fun n => [AV.int .i64 n] := by simp [qk]
def qr2 (n : Int) : Bool := decide (1 ≤ n) && decide (n ≤ 1073741824)
theorem Tm.Ok.subs {t : Tm} (h : t.Ok) {x : Tm} (hx : x ∈ t.subs) : x.Ok := by
 obtain ⟨k, n, s, l⟩ := t
 exact h.sub hx
def vR (b : UInt8) : Option Int := if b.toNat < 48 then none else if b.toNat > 57 then none else some ((b.toNat : Int) - 48)
def varG : List UInt8 → Option Int
 | [a, b] => if a.toNat = 36 then vR b else none
 | [a, b, c] => if a.toNat = 36 ∧ b.toNat ≠ 48 then (vR b).bind fun x => (vR c).map fun y => x * 10 + y else none
 | _ => none
theorem qab {b : UInt8} {x : Int} (h : vR b = some x) : 0 ≤ x ∧ x ≤ 9 := by
 unfold vR at h
 split at h
 ·cases h
 ·split at h
  ·cases h
  ·cases h; omega
theorem qiN (a b : UInt8) : varG [a, b] = if a.toNat = 36 then vR b else none := rfl
theorem qd1 (a b c : UInt8) : varG [a, b, c] = if a.toNat = 36 ∧ b.toNat ≠ 48 then (vR b).bind fun x => (vR c).map fun y => x * 10 + y else none := rfl
theorem qhc {s : List UInt8} {x : Int} (h : varG s = some x) : 0 ≤ x ∧ x ≤ 99 := by
 unfold varG at h
 split at h
 ·split at h
  ·have := qab h; omega
  ·cases h
 ·split at h
  ·obtain ⟨a, h1, h2⟩ := qsj.1 h
   obtain ⟨b, h3, rfl⟩ := qsl.1 h2
   have := qab h1
   have := qab h3
   omega
  ·cases h
 ·cases h
def varT (t : Tm) : Option Int := if t.kind = 2 ∧ t.chk = 0 then varG t.str else none
theorem qlP {n : Nat} (h : n < 18446744073709551616) : IntKind.wrap .u64 (n : Int) = n := by
 simp [IntKind.wrap, IntKind.bits, IntKind.signed]; omega
theorem qlx {n : Nat} (h : n < 64) : vt (Op.shift .shl .u64 1 .i64 (n : Int)) = some (.int .u64 ((2 ^ n : Nat) : Int)) := by
 have hp : 2 ^ n < 18446744073709551616 := by
  have : 2 ^ n < 2 ^ 64 := Nat.pow_lt_pow_right (by omega) h
  simpa using this
 have : vt (Op.shift .shl .u64 1 .i64 (n : Int)) = some (.int .u64 (IntKind.wrap .u64 (1 * 2 ^ (min (n : Int).toNat 64)))) := by
  unfold Op.shift
  rw [if_neg (by omega)]; rfl
 rw [this, qsE, Nat.min_eq_left (by omega), Int.one_mul]
 have e : ((2 : Int) ^ n) = ((2 ^ n : Nat) : Int) := by simp
 rw [e, qlP hp]
theorem qlA {a b : Nat} (ha : a < 18446744073709551616) (hb : b < 18446744073709551616) : vt (Op.intBits .or .u64 (a : Int) (b : Int)) = some (.int .u64 ((a ||| b : Nat) : Int)) := by
 have : vt (Op.intBits .or .u64 (a : Int) (b : Int)) = some (.int .u64 (IntKind.wrap .u64 (BitVec.ofInt 64 (a : Int) ||| BitVec.ofInt 64 (b : Int)).toNat)) := rfl
 rw [this]
 have ea : (BitVec.ofInt 64 (a : Int)).toNat = a := by simp [BitVec.toNat_ofInt]; omega
 have eb : (BitVec.ofInt 64 (b : Int)).toNat = b := by simp [BitVec.toNat_ofInt]; omega
 have hlt := (BitVec.ofInt 64 (a : Int) ||| BitVec.ofInt 64 (b : Int)).isLt
 rw [qlP (by simpa using hlt), BitVec.toNat_or, ea, eb]
theorem qlw {a n : Nat} (ha : a < 18446744073709551616) (hn : n < 64) : vt (Op.shift .shr .u64 (a : Int) .i64 (n : Int)) = some (.int .u64 ((a / 2 ^ n : Nat) : Int)) := by
 have : vt (Op.shift .shr .u64 (a : Int) .i64 (n : Int)) = some (.int .u64 (Int.fdiv a (2 ^ (min (n : Int).toNat 64)))) := by
  unfold Op.shift
  rw [if_neg (by omega)]; rfl
 rw [this, qsE, Nat.min_eq_left (by omega)]
 have e : ((2 : Int) ^ n) = ((2 ^ n : Nat) : Int) := by simp
 rw [e, Int.fdiv_eq_ediv_of_nonneg _ (Int.natCast_nonneg _)]
 rfl
theorem qlJ {a : Nat} (ha : a < 18446744073709551616) : vt (Op.intBits .and .u64 (a : Int) 1) = some (.int .u64 ((a % 2 : Nat) : Int)) := by
 have : vt (Op.intBits .and .u64 (a : Int) 1) = some (.int .u64 (IntKind.wrap .u64 (BitVec.ofInt 64 (a : Int) &&& BitVec.ofInt 64 1).toNat)) := rfl
 rw [this]
 have ea : (BitVec.ofInt 64 (a : Int)).toNat = a := by simp [BitVec.toNat_ofInt]; omega
 have eb : (BitVec.ofInt 64 (1 : Int)).toNat = 1 := by decide
 rw [BitVec.toNat_and, ea, eb, Nat.and_one_is_mod, qlP (by omega)]
def qac (p : Nat → Bool) (r : List AV) : Prop := ∃ (lo hi : Nat) (l : List AV), r = .int .u64 lo :: .int .u64 hi :: l ∧ lo < 18446744073709551616 ∧ hi < 18446744073709551616 ∧ (∀ n, n < 64 → lo.testBit n = p n) ∧ ∀ n, n < 64 → hi.testBit n = p (n + 64)
theorem qno {r cs : List AV} {o k : Nat} (hc : cs.length = 4) (h : o + 4 ≤ r.length) (hk : k < o ∨ o + 4 ≤ k) : (qsD (qsD (r.take o) cs) (r.drop (o + 4)))[k]? = r[k]? := by
 show ((r.take o ++ cs) ++ r.drop (o + 4))[k]? = r[k]?
 have hl : (r.take o).length = o := by simp; omega
 rcases hk with hk | hk
 ·rw [qsq (by simp; omega), qsq (by omega), List.getElem?_take, if_pos hk]
 ·rw [qst (by simp; omega), List.getElem?_drop]
  congr 1
  simp [hc]
  omega
theorem qnn {r cs : List AV} {o : Nat} (hc : cs.length = 4) (h : o + 4 ≤ r.length) : (qsD (qsD (r.take o) cs) (r.drop (o + 4))).length = r.length := by
 show ((r.take o ++ cs) ++ r.drop (o + 4)).length = r.length
 simp [hc]; omega
theorem qlT {r cs : List AV} {o : Nat} (hc : cs.length = 4) (h : o + 4 ≤ r.length) : ((qsD (qsD (r.take o) cs) (r.drop (o + 4))).drop o).take 4 = cs := by
 show (((r.take o ++ cs) ++ r.drop (o + 4)).drop o).take 4 = cs
 have hl : (r.take o).length = o := by simp; omega
 rw [List.append_assoc, List.drop_append_of_le_length (by omega), List.drop_of_length_le (by omega), List.nil_append, List.take_append_of_le_length (by omega), qsp (by omega)]
theorem qkz {r cs : List AV} {o o' : Nat} (hc : cs.length = 4) (h : o + 4 ≤ r.length) (hd : o' + 4 ≤ o ∨ o + 4 ≤ o') : ((qsD (qsD (r.take o) cs) (r.drop (o + 4))).drop o').take 4 = (r.drop o').take 4 := by
 apply List.ext_getElem?
 intro j
 by_cases hj : j < 4
 ·rw [List.getElem?_take, List.getElem?_take, if_pos hj, if_pos hj, List.getElem?_drop, List.getElem?_drop, qno hc h (by omega)]
 ·rw [List.getElem?_take, List.getElem?_take, if_neg hj, if_neg hj]
def mayB : Int → List (Int × Tm) → Bool
 | _, [] => true
 | last, p :: l => decide (last < p.1) && (decide (p.1 ≤ 99) && (decide (p.2.chk = 0) && mayB p.1 l))
def yA (n : Int) : List (Int × Tm) → Option Tm
 | [] => none
 | p :: l => if p.1 = n then some p.2 else yA n l
structure BRow (m : List (Int × Tm)) (r : List AV) : Prop where
 len : r.length = 402
 set : qac (fun i => (yA i m).isSome) r
 cells : ∀ i : Nat, i < 100 → ∀ t, yA i m = some t → (r.drop (2 + i * 4)).take 4 = t.cells
 free : qp 0 r = true
theorem qco (n : Int) (p : Int × Tm) : ∀ m : List (Int × Tm), yA n (m ++ [p]) = match yA n m with | some t => some t | none => if p.1 = n then some p.2 else none
 | [] => by simp [yA]
 | q :: m => by
  rw [List.cons_append, yA, yA]
  by_cases h : q.1 = n
  ·rw [if_pos h, if_pos h]
  ·rw [if_neg h, if_neg h]; exact qco n p m
theorem BRow.add {m : List (Int × Tm)} {r r' : List AV} {n : Nat} {t : Tm} (h : BRow m r) (hn : n < 100) (hnew : yA n m = none)
  (h1 : qac (fun i => (fun i : Nat => (yA i m).isSome) i || decide (i = n)) r') (h2 : r'.drop 2 = r.drop 2) (h3 : r'.length = r.length) (h4 : qp 0 r = true → qp 0 r' = true) :
  BRow (m ++ [((n : Int), t)]) (qsD (qsD (r'.take (2 + n * 4)) t.cells) (r'.drop (2 + n * 4 + 4))) := by
 have hl : r'.length = 402 := by rw [h3, h.len]
 have hc : t.cells.length = 4 := qx t
 have ho : 2 + n * 4 + 4 ≤ r'.length := by omega
 have hd : ∀ j, (r'.drop (2 + j)) = r.drop (2 + j) := by
  intro j
  rw [← List.drop_drop, ← List.drop_drop, h2]
 refine ⟨by rw [qnn hc ho, hl], ?_, fun i hi t' ht' => ?_, ?_⟩
 ·obtain ⟨lo, hi, l, rfl, a1, a2, a3, a4⟩ := h1
  obtain ⟨o, ho'⟩ : ∃ o, 2 + n * 4 = o + 2 := ⟨n * 4, by omega⟩
  have lk : ∀ i : Nat, (yA i (m ++ [((n : Int), t)])).isSome = ((yA i m).isSome || decide (i = n)) := by
   intro i
   rw [qco]
   cases hx : yA (i : Int) m with
   | some x => rfl
   | none =>
    by_cases hi : i = n
    ·subst hi; simp
    ·have : ¬ ((n : Int) = (i : Int)) := by omega
     simp [this, hi]
  refine ⟨lo, hi, (l.take o ++ t.cells) ++ l.drop (o + 4), ?_, a1, a2, fun i hi => ?_, fun i hi => ?_⟩
  ·rw [ho']; rfl
  ·exact (a3 i hi).trans (lk i).symm
  ·exact (a4 i hi).trans (lk (i + 64)).symm
 ·rw [qco] at ht'
  by_cases hin : i = n
  ·subst hin
   rw [hnew] at ht'
   simp at ht'
   subst ht'
   exact qlT hc ho
  ·cases hx : yA (i : Int) m with
   | none =>
    rw [hx] at ht'
    have : ¬ ((n : Int) = (i : Int)) := by omega
    simp [this] at ht'
   | some x =>
    rw [hx] at ht'
    cases ht'
    rw [qkz hc ho (by omega), hd]
    exact h.cells i hi _ hx
 ·show qp 0 ((r'.take (2 + n * 4) ++ t.cells) ++ r'.drop (2 + n * 4 + 4)) = true
  have hf := h4 h.free
  exact zT (zT (qdc hf) (qgW t)) (qdd hf)
end Go.Av
end
section
namespace Go.Proofs.YtjiecipfkjaooaaGreat
open Go.Av
noncomputable def qop : Den := evC cfg (EV cfg) 173 none 5 (sub (qe Tryz.f173) [1, 0, 0])
noncomputable def qow : Ex × List AV × AH → Option AV := kAft (Cfg.keepOut cfg 173 (qj (sub (qe Tryz.f173) [1, 0, 0]))) (xe 0 (xg cfg (Cfg.lift cfg 173 0) (fun (v : AV) (H : AH) => (fun (r : AV × AH) => xA 0 4 (fx 17 [(2, AV.ptr 1 0 0), (3, AV.ptr 2 0 0)]) (xe 0 (kSeq (fun (fr : List AV) (H : AH) => yO (Cfg.cut cfg 53 (qj (sub (qe Tryz.f53) [1, 1, 1]))) fr H fun (fr : List AV) (H : AH) => q5 cfg (EV cfg) (kfN cfg 6) 53 none 0 (sub (qe Tryz.f53) [1, 1, 1]) fr H (xu cfg (Cfg.lift cfg 53 0) (Array.toList (Func.results Tryz.f53)))) (xu cfg (Cfg.lift cfg 53 0) (Array.toList (Func.results Tryz.f53))))) (Prod.snd r)) (v, H)) (Array.toList (Func.results (Prod.snd (173, Tryz.f173))))))
noncomputable def qrd : List AV × AH → Option AV := fun (p : List AV × AH) => kOpt (LOOP 5 (some [0, 3]) [(3, 4)] qop p) qow
noncomputable def qrr : Den := evC cfg (EV cfg) 218 none 10 (sub (qe Tryz.f218) [1, 0, 0])
noncomputable def qrO : Ex × List AV × AH → Option AV := kAft (Cfg.keepOut cfg 218 (qj (sub (qe Tryz.f218) [1, 0, 0]))) (xe 0 (xg cfg (Cfg.lift cfg 218 0) (fun (v : AV) (H : AH) => (fun (r : AV × AH) => xA 5 9 (fx 38 [(0, AV.yld 4), (3, AV.ptr 5 0 0)]) (xe 2 (xe 1 (kLp 5 (some [0, 3]) [(3, 4)] qop qow))) (Prod.snd r)) (v, H)) (Array.toList (Func.results (Prod.snd (218, Tryz.f218))))))
noncomputable def qoi : List AV × AH → Option AV := fun (p : List AV × AH) => kOpt (LOOP 10 (some [0, 1, 3]) [] qrr p) qrO
noncomputable abbrev qaP (c0_0 c0_1 : Int) (c0_2 : Bz) (c0_3 : Rz) (c1_0 c2_0 c3_0 c3_1 : Int) (c3_2 : Bz) (c3_3 : Rz) (nc5_0 : Nat) (h6 : Rz) : Option (AV) := qrd  (((fx 38 [(0, .yld 4), (3, .ptr 5 0 0)]) : List AV), ([.rows false 4 [[.int .i64 c0_0, .int .i64 c0_1, .str c0_2, .sl c0_3]], .rows false 1 [[.int .i64 c1_0]], .rows false 1 [[.int .i64 c2_0]], .rows false 4 [[.int .i64 c3_0, .int .i64 c3_1, .str c3_2, .sl c3_3]], rngB Tryz.f53 53 [1, 1, 0, 1, 0] (fx 17 [(2, .ptr 1 0 0), (3, .ptr 2 0 0)]) none LoopState.ready, .rows false 1 [[.ms 6 0 nc5_0]], .rows true 4 h6] : AH))
noncomputable abbrev qi1 (v3 c0_0 c0_1 : Int) (c0_2 : Bz) (c0_3 : Rz) (c1_0 c2_0 c3_0 c3_1 : Int) (c3_2 : Bz) (c3_3 : Rz) (nc5_0 : Nat) (h6 : Rz) (c7_0 c7_1 : Int) (c7_2 : Bz) (c7_3 c8_0 : Rz) : Option (AV) := qoi  (((fx 19 [(0, .yld 9), (1, .ptr 8 0 0), (3, .int .i64 v3)]) : List AV), ([.rows false 4 [[.int .i64 c0_0, .int .i64 c0_1, .str c0_2, .sl c0_3]], .rows false 1 [[.int .i64 c1_0]], .rows false 1 [[.int .i64 c2_0]], .rows false 4 [[.int .i64 c3_0, .int .i64 c3_1, .str c3_2, .sl c3_3]], rngB Tryz.f53 53 [1, 1, 0, 1, 0] (fx 17 [(2, .ptr 1 0 0), (3, .ptr 2 0 0)]) none LoopState.ready, .rows false 1 [[.ms 6 0 nc5_0]], .rows true 4 h6, .rows false 4 [[.int .i64 c7_0, .int .i64 c7_1, .str c7_2, .sl c7_3]], .rows false 1 [[.sl c8_0]], rngB Tryz.f173 173 [1, 0, 0, 1, 0, 1, 1, 1, 1, 0] (fx 38 [(3, .ptr 5 0 0)]) none LoopState.ready] : AH))
noncomputable abbrev qg9 (v3 c0_0 c0_1 : Int) (c0_2 : Bz) (c0_3 : Rz) (c1_0 c2_0 c3_0 c3_1 : Int) (c3_2 : Bz) (c3_3 : Rz) (nc5_0 : Nat) (c7_0 c7_1 : Int) (c7_2 : Bz) (c7_3 c8_0 h10 : Rz) : Option (AV) := qoi  (((fx 19 [(0, .yld 9), (1, .ptr 8 0 0), (3, .int .i64 v3)]) : List AV), ([.rows false 4 [[.int .i64 c0_0, .int .i64 c0_1, .str c0_2, .sl c0_3]], .rows false 1 [[.int .i64 c1_0]], .rows false 1 [[.int .i64 c2_0]], .rows false 4 [[.int .i64 c3_0, .int .i64 c3_1, .str c3_2, .sl c3_3]], rngB Tryz.f53 53 [1, 1, 0, 1, 0] (fx 17 [(2, .ptr 1 0 0), (3, .ptr 2 0 0)]) none LoopState.ready, .rows false 1 [[.ms 10 0 nc5_0]], .dead, .rows false 4 [[.int .i64 c7_0, .int .i64 c7_1, .str c7_2, .sl c7_3]], .rows false 1 [[.sl c8_0]], rngB Tryz.f173 173 [1, 0, 0, 1, 0, 1, 1, 1, 1, 0] (fx 38 [(3, .ptr 5 0 0)]) none LoopState.ready, .rows true 4 h10] : AH))
noncomputable abbrev ze4 (kt : Int) (lt : Rz) : Option (AV) := bif kt == 5 then some (.bool (decide ((lt.length : Int) ≤ 64))) else some (.bool false)
noncomputable abbrev ze3 (lt : Rz) (kt : Int) : Option (AV) := bif (lt.length : Int) == 0 then some (.bool true) else ze4 kt lt
noncomputable abbrev ze2 (st : Bz) (lt : Rz) (kt : Int) : Option (AV) := bif st == [] then ze3 lt kt else some (.bool false)
noncomputable abbrev ze1 (nt : Int) (st : Bz) (lt : Rz) (kt : Int) : Option (AV) := bif decide (nt ≤ 1073741824) then ze2 st lt kt else some (.bool false)
noncomputable abbrev ze0 (nt : Int) (st : Bz) (lt : Rz) (kt : Int) : Option (AV) := bif decide (nt ≥ 0) then ze1 nt st lt kt else some (.bool false)
theorem qhd (kt nt : Int) (st : Bz) (lt : Rz) {P : AV → Prop} (h : Gets (bif kt == 1 then bif decide (nt ≥ (- 576460752303423488)) then bif decide (nt ≤ 576460752303423487) then bif st == [] then some (.bool ((lt.length : Int) == 0)) else some (.bool false) else some (.bool false) else some (.bool false) else bif kt == 2 then bif nt == 0 then bif decide ((st.length : Int) ≤ 64) then some (.bool ((lt.length : Int) == 0)) else some (.bool false) else some (.bool false) else bif kt == 3 then bif decide (nt ≥ 0) then bif decide (nt ≤ 1073741824) then bif st == [] then bif (lt.length : Int) == 0 then some (.bool true) else bif kt == 5 then some (.bool (decide ((↑ (qsk lt) : Int) ≤ 64))) else some (.bool false) else some (.bool false) else some (.bool false) else some (.bool false) else bif kt == 4 then ze0 nt st lt kt else bif kt == 6 then ze0 nt st lt kt else bif kt == 5 then ze0 nt st lt kt else bif kt == 7 then bif nt == 0 then bif st == [] then some (.bool (decide ((lt.length : Int) ≤ 64))) else some (.bool false) else some (.bool false) else bif kt == 8 then bif nt == 0 then bif st == [] then some (.bool ((lt.length : Int) == 0)) else some (.bool false) else some (.bool false) else bif kt == 9 then bif nt == 0 then bif st == [] then some (.bool ((lt.length : Int) == 2)) else some (.bool false) else some (.bool false) else some (.bool false)) P) : Gets (EVs (EV cfg) 114 [.agg [.int .i64 kt, .int .i64 nt, .str st, .sl lt]]) P :=
  gE (fun _ => funS rfl rfl Tryz.func114 rfl) (by kernel_rfl) h
theorem qjd (kt nt : Int) (st : Bz) (lt : Rz) {P : AV → Prop} (h : Gets (bif kt == 7 then some (.int .i64 2) else bif kt == 5 then some (.int .i64 2) else some (.int .i64 1)) P) : Gets (EVs (EV cfg) 115 [.agg [.int .i64 kt, .int .i64 nt, .str st, .sl lt]]) P :=
  gE (fun _ => funS rfl rfl Tryz.func115 rfl) (by kernel_rfl) h
theorem qhf (kt nt : Int) (st : Bz) (lt : Rz) {P : AV → Prop} (h : Gets (qaP kt nt st lt 0 0 kt nt st lt 1 [[.int .i64 kt, .int .i64 nt, .str st, .sl lt]]) P) : Gets (EVs (EV cfg) 53 [.agg [.int .i64 kt, .int .i64 nt, .str st, .sl lt]]) P :=
  gE (fun _ => funS rfl rfl Tryz.func53 rfl) (by kernel_rfl) h
theorem qbr (c0_0 c0_1 : Int) (c0_2 : Bz) (c0_3 : Rz) (c1_0 c2_0 c3_0 c3_1 : Int) (c3_2 : Bz) (c3_3 : Rz) (nc5_0 : Nat) (h6 : Rz) {P : AV → Prop} (h : Gets (bif decide ((↑ nc5_0 : Int) > 0) then bif qh 0 (IntKind.wrap .i64 ((↑ nc5_0 : Int) - 1)) && qo (IntKind.wrap .i64 ((↑ nc5_0 : Int) - 1)) (↑ nc5_0 : Int) then kOpt (qsg h6 (0 + qsC (IntKind.wrap .i64 ((↑ nc5_0 : Int) - 1)))) fun row => bif qsw 4 (qsk row) then kTmC (qsr 4 row) fun n n_1 s rows => (bif qh 0 (IntKind.wrap .i64 ((↑ nc5_0 : Int) - 1)) && qh (IntKind.wrap .i64 ((↑ nc5_0 : Int) - 1)) (↑ nc5_0 : Int) then kOpt (EVs (EV cfg) 114 [.agg [.int .i64 n, .int .i64 n_1, .str s, .sl rows]]) fun v => qv v fun b => bif ! b then some (.int .i64 2) else kOpt (EVs (EV cfg) 115 [.agg [.int .i64 n, .int .i64 n_1, .str s, .sl rows]]) fun v => kInt .i64 v fun n_2 => qi1 (IntKind.wrap .i64 ((↑ (qsk rows) : Int) - 1)) c0_0 c0_1 c0_2 c0_3 c1_0 (IntKind.wrap .i64 (c2_0 + n_2)) c3_0 c3_1 c3_2 c3_3 (qsC (IntKind.wrap .i64 ((↑ nc5_0 : Int) - 1)) - 0) h6 n n_1 s rows rows else none) else none else none else bif decide (c2_0 > 65536) then some (.int .i64 3) else some (.int .i64 0)) P) : Gets (qaP c0_0 c0_1 c0_2 c0_3 c1_0 c2_0 c3_0 c3_1 c3_2 c3_3 nc5_0 h6) P :=
  gE (fun _ => qt (cfg := cfg) (f := 173) (rd := none) (bs := 5)) (by kernel_rfl) h
noncomputable abbrev ze10 (row : List AV) (nc5_0 : Nat) (h6 : Rz) (v3 c0_0 c0_1 : Int) (c0_2 : Bz) (c0_3 : Rz) (c1_0 c2_0 c3_0 c3_1 : Int) (c3_2 : Bz) (c3_3 : Rz) (c7_0 c7_1 : Int) (c7_2 : Bz) (c7_3 c8_0 : Rz) : Option (AV) := kTmC (qsr 4 row) fun n n_1 s rows => (bif qsw (0 + nc5_0) (qsk h6) && qO (nc5_0 + 1) 56 then bif qh 0 (↑ nc5_0 : Int) && qo (↑ nc5_0 : Int) (↑ (nc5_0 + 1) : Int) then kOpt (qsg (qsD (qsr nc5_0 h6) [[.int .i64 0, .int .i64 0, .str [], .nilS]]) (0 + qsC (↑ nc5_0 : Int))) fun row => bif qsw 4 (qsk row) then qg9 (IntKind.wrap .i64 (v3 - (1 : Int))) c0_0 c0_1 c0_2 c0_3 c1_0 c2_0 c3_0 c3_1 c3_2 c3_3 (nc5_0 + 1) c7_0 c7_1 c7_2 c7_3 c8_0 (List.set (qsD (qsr nc5_0 h6) [[.int .i64 0, .int .i64 0, .str [], .nilS]]) (0 + qsC (↑ nc5_0 : Int)) (.int .i64 n :: .int .i64 n_1 :: .str s :: .sl rows :: List.drop 4 row)) else none else none else none)
noncomputable abbrev ze9 (row : List AV) (nc5_0 : Nat) (h6 : Rz) (v3 c0_0 c0_1 : Int) (c0_2 : Bz) (c0_3 : Rz) (c1_0 c2_0 c3_0 c3_1 : Int) (c3_2 : Bz) (c3_3 : Rz) (c7_0 c7_1 : Int) (c7_2 : Bz) (c7_3 c8_0 : Rz) : Option (AV) := bif qsw 4 (qsk row) then ze10 row nc5_0 h6 v3 c0_0 c0_1 c0_2 c0_3 c1_0 c2_0 c3_0 c3_1 c3_2 c3_3 c7_0 c7_1 c7_2 c7_3 c8_0 else none
noncomputable abbrev ze8 (row : List AV) (nc5_0 : Nat) (h6 : Rz) (v3 c0_0 c0_1 : Int) (c0_2 : Bz) (c0_3 : Rz) (c1_0 c2_0 c3_0 c3_1 : Int) (c3_2 : Bz) (c3_3 : Rz) (c7_0 c7_1 : Int) (c7_2 : Bz) (c7_3 c8_0 : Rz) : Option (AV) := bif qsy (qsk row) 4 then ze9 row nc5_0 h6 v3 c0_0 c0_1 c0_2 c0_3 c1_0 c2_0 c3_0 c3_1 c3_2 c3_3 c7_0 c7_1 c7_2 c7_3 c8_0 else none
noncomputable abbrev ze7 (c8_0 : Rz) (v3 : Int) (nc5_0 : Nat) (h6 : Rz) (c0_0 c0_1 : Int) (c0_2 : Bz) (c0_3 : Rz) (c1_0 c2_0 c3_0 c3_1 : Int) (c3_2 : Bz) (c3_3 : Rz) (c7_0 c7_1 : Int) (c7_2 : Bz) (c7_3 : Rz) : Option (AV) := kOpt (qsg c8_0 (v3.toNat)) fun row => ze8 row nc5_0 h6 v3 c0_0 c0_1 c0_2 c0_3 c1_0 c2_0 c3_0 c3_1 c3_2 c3_3 c7_0 c7_1 c7_2 c7_3 c8_0
noncomputable abbrev ze6 (v3 : Int) (c8_0 : Rz) (nc5_0 : Nat) (h6 : Rz) (c0_0 c0_1 : Int) (c0_2 : Bz) (c0_3 : Rz) (c1_0 c2_0 c3_0 c3_1 : Int) (c3_2 : Bz) (c3_3 : Rz) (c7_0 c7_1 : Int) (c7_2 : Bz) (c7_3 : Rz) : Option (AV) := bif qh 0 v3 && qo v3 (c8_0.length : Int) then ze7 c8_0 v3 nc5_0 h6 c0_0 c0_1 c0_2 c0_3 c1_0 c2_0 c3_0 c3_1 c3_2 c3_3 c7_0 c7_1 c7_2 c7_3 else none
noncomputable abbrev ze5 (v3 : Int) (c8_0 : Rz) (nc5_0 : Nat) (h6 : Rz) (c0_0 c0_1 : Int) (c0_2 : Bz) (c0_3 : Rz) (c1_0 c2_0 c3_0 c3_1 : Int) (c3_2 : Bz) (c3_3 : Rz) (c7_0 c7_1 : Int) (c7_2 : Bz) (c7_3 : Rz) : Option (AV) := bif decide (v3 ≥ 0) then ze6 v3 c8_0 nc5_0 h6 c0_0 c0_1 c0_2 c0_3 c1_0 c2_0 c3_0 c3_1 c3_2 c3_3 c7_0 c7_1 c7_2 c7_3 else qaP c0_0 c0_1 c0_2 c0_3 c1_0 c2_0 c3_0 c3_1 c3_2 c3_3 nc5_0 h6
theorem qkp (v3 c0_0 c0_1 : Int) (c0_2 : Bz) (c0_3 : Rz) (c1_0 c2_0 c3_0 c3_1 : Int) (c3_2 : Bz) (c3_3 : Rz) (nc5_0 : Nat) (h6 : Rz) (c7_0 c7_1 : Int) (c7_2 : Bz) (c7_3 c8_0 : Rz) {P : AV → Prop} (h : Gets (ze5 v3 c8_0 nc5_0 h6 c0_0 c0_1 c0_2 c0_3 c1_0 c2_0 c3_0 c3_1 c3_2 c3_3 c7_0 c7_1 c7_2 c7_3) P) : Gets (qi1 v3 c0_0 c0_1 c0_2 c0_3 c1_0 c2_0 c3_0 c3_1 c3_2 c3_3 nc5_0 h6 c7_0 c7_1 c7_2 c7_3 c8_0) P :=
  gE (fun _ => qt (cfg := cfg) (f := 218) (rd := none) (bs := 10)) (by kernel_rfl) h
theorem qcW (v3 c0_0 c0_1 : Int) (c0_2 : Bz) (c0_3 : Rz) (c1_0 c2_0 c3_0 c3_1 : Int) (c3_2 : Bz) (c3_3 : Rz) (nc5_0 : Nat) (c7_0 c7_1 : Int) (c7_2 : Bz) (c7_3 c8_0 h10 : Rz) {P : AV → Prop} (h : Gets (ze5 v3 c8_0 nc5_0 h10 c0_0 c0_1 c0_2 c0_3 c1_0 c2_0 c3_0 c3_1 c3_2 c3_3 c7_0 c7_1 c7_2 c7_3) P) : Gets (qg9 v3 c0_0 c0_1 c0_2 c0_3 c1_0 c2_0 c3_0 c3_1 c3_2 c3_3 nc5_0 c7_0 c7_1 c7_2 c7_3 c8_0 h10) P :=
  gE (fun _ => qt (cfg := cfg) (f := 218) (rd := none) (bs := 10)) (by kernel_rfl) h
end Go.Proofs.YtjiecipfkjaooaaGreat
end
section
namespace Go.Av
def qei (p : Prop) (v : AV) : Prop := ∃ b : Bool, v = .bool b ∧ (b = true ↔ p)
theorem yd {p : Prop} {b : Bool} : qei p (.bool b) ↔ (b = true ↔ p) := ⟨fun ⟨_, h1, h2⟩ => by cases h1; exact h2, fun h => ⟨b, rfl, h⟩⟩
end Go.Av
namespace Go.Proofs.YtjiecipfkjaooaaGreat
open Go.Av
theorem x8 {n : Nat} (h : n ≤ 1099511627776) : qO n 56 = true := by
 unfold qO
 rw [qsm, qsF, qsF]
 omega
theorem vr (t : Tm) : (AV.agg [.int .i64 t.kind, .int .i64 t.num, .str t.str, .sl (qa t.subs)]) = t.av := by rw [Tm.av, Tm.cells_eq]
theorem qoG (t : Tm) : EVs (EV cfg) 114 [t.av] = some (.bool t.sound) := by
 obtain ⟨k, n, s, l⟩ := t
 apply Gets.get
 rw [Tm.av_mk]
 refine qhd _ _ _ _ ?_
 unfold ze0 ze1 ze2 ze3 ze4
 simp only [Tm.sound, Tm.kind_mk, Tm.num_mk, Tm.str_mk, Tm.subs_mk, qb, beqI, qoe, yG]
 by_cases h1 : k = 1
 ·subst h1; simp [q9] <;> (try rw [Bool.eq_iff_iff]) <;> (try simp) <;> first | omega | grind
 by_cases h2 : k = 2
 ·subst h2; simp [q9] <;> (try rw [Bool.eq_iff_iff]) <;> (try simp) <;> first | omega | grind
 by_cases h3 : k = 3
 ·subst h3; simp [q9] <;> (try rw [Bool.eq_iff_iff]) <;> (try simp) <;> first | omega | grind
 by_cases h4 : k = 4
 ·subst h4; simp [q9] <;> (try rw [Bool.eq_iff_iff]) <;> (try simp) <;> first | omega | grind
 by_cases h6 : k = 6
 ·subst h6; simp [q9] <;> (try rw [Bool.eq_iff_iff]) <;> (try simp) <;> first | omega | grind
 by_cases h5 : k = 5
 ·subst h5
  cases l with
  | nil => simp [q9] <;> (try rw [Bool.eq_iff_iff]) <;> (try simp) <;> first | omega | grind
  | cons x l =>
   have hx : ¬ ((l.length : Int) + 1 = 0) := by omega
   simp [hx, q9] <;> (try rw [Bool.eq_iff_iff]) <;> (try simp) <;> first | omega | grind
 by_cases h7 : k = 7
 ·subst h7; simp [q9] <;> (try rw [Bool.eq_iff_iff]) <;> (try simp) <;> first | omega | grind
 by_cases h8 : k = 8
 ·subst h8; simp [q9] <;> (try rw [Bool.eq_iff_iff]) <;> (try simp) <;> first | omega | grind
 by_cases h9 : k = 9
 ·subst h9; simp [q9] <;> (try rw [Bool.eq_iff_iff]) <;> (try simp) <;> first | omega | grind
 simp [h1, h2, h3, h4, h5, h6, h7, h8, h9]
theorem qqP (t : Tm) : EVs (EV cfg) 115 [t.av] = some (.int .i64 t.own) := by
 obtain ⟨k, n, s, l⟩ := t
 apply Gets.get
 rw [Tm.av_mk]
 refine qjd _ _ _ _ ?_
 simp only [Tm.own, Tm.kind_mk, beqI]
 by_cases h7 : k = 7
 ·simp [h7]
 ·by_cases h5 : k = 5
  ·simp [h5]
  ·simp [h7, h5]
theorem qfm (l : List (List AV)) (z : List AV) : (l ++ [z])[l.length]? = some z := by simp
theorem qfl (l : List (List AV)) (z c : List AV) : (l ++ [z]).set l.length c = l ++ [c] := by simp
theorem qnH {t x : Tm} (hx : x.subs.length < 1099511627776) {wd : Int} {P : AV → Prop} : ∀ (j : Nat) (R : List Tm), j ≤ x.subs.length → R.length + j < 1099511627776 →
  Gets (qaP t.kind t.num t.str (qa t.subs) 0 wd t.kind t.num t.str (qa t.subs) (R.length + j) (qa (R ++ (x.subs.take j).reverse))) P →
  Gets (qg9 ((j : Int) - 1) t.kind t.num t.str (qa t.subs) 0 wd t.kind t.num t.str (qa t.subs) R.length x.kind x.num x.str (qa x.subs) (qa x.subs) (qa R)) P
 | 0, R, _, _, h => by
  refine qcW _ _ _ _ _ _ _ _ _ _ _ _ _ _ _ _ _ _ ?_
  unfold ze5 ze6 ze7 ze8 ze9 ze10
  simpa using h
 | j + 1, R, hj, hR, h => by
  have ih := qnH (t := t) hx (wd := wd) (P := P) j (R ++ [x.subs[j]]) (by omega) (by simp; omega)
  have e1 : x.subs.take (j + 1) = x.subs.take j ++ [x.subs[j]] := by rw [List.take_add_one, qsh (by omega)]; rfl
  have e4 : R ++ (x.subs.take j ++ [x.subs[j]]).reverse = R ++ x.subs[j] :: (x.subs.take j).reverse := by rw [List.reverse_append]; rfl
  rw [e1, e4, show R.length + (j + 1) = R.length + 1 + j by omega] at h
  refine qcW _ _ _ _ _ _ _ _ _ _ _ _ _ _ _ _ _ _ ?_
  unfold ze5 ze6 ze7 ze8 ze9 ze10
  have hw : IntKind.wrap .i64 ((j : Int) - 1) = (j : Int) - 1 := vm (by omega) (by omega)
  have hjl : j < x.subs.length := by omega
  have e2 : ((j + 1 : Nat) : Int) - 1 = j := by omega
  rw [e2]
  have ht : qsr R.length (qa R) = qa R := qsp (by simp)
  have g0 := qfm (qa R) [.int .i64 0, .int .i64 0, .str [], .nilS]
  have s0 := qfl (qa R) [.int .i64 0, .int .i64 0, .str [], .nilS] x.subs[j].cells
  rw [qb] at g0 s0
  simp [hjl, hw, x8 (show R.length + 1 ≤ 1099511627776 by omega), ht] at ih ⊢
  exact ih h
theorem qqO {t x : Tm} (hx : x.subs.length < 1099511627776) {wd : Int} {P : AV → Prop} {R : List Tm} {Z : List (List AV)} (hR : R.length + x.subs.length < 1099511627776)
  (h0 : x.subs = [] → Gets (qaP t.kind t.num t.str (qa t.subs) 0 wd t.kind t.num t.str (qa t.subs) R.length (qa R ++ Z)) P)
  (h : x.subs ≠ [] → Gets (qaP t.kind t.num t.str (qa t.subs) 0 wd t.kind t.num t.str (qa t.subs) (R ++ x.subs.reverse).length (qa (R ++ x.subs.reverse))) P) :
  Gets (qi1 ((x.subs.length : Int) - 1) t.kind t.num t.str (qa t.subs) 0 wd t.kind t.num t.str (qa t.subs) R.length (qa R ++ Z) x.kind x.num x.str (qa x.subs) (qa x.subs)) P := by
 refine qkp _ _ _ _ _ _ _ _ _ _ _ _ _ _ _ _ _ _ ?_
 unfold ze5 ze6 ze7 ze8 ze9 ze10
 rcases Nat.eq_zero_or_pos x.subs.length with hz | hp
 ·have hz' : x.subs = [] := List.length_eq_zero_iff.1 hz
  have := h0 hz'
  simpa [hz'] using this
 ·obtain ⟨j, hj⟩ : ∃ j, x.subs.length = j + 1 := ⟨x.subs.length - 1, by omega⟩
  have hne : x.subs ≠ [] := by intro e; rw [e] at hp; simp at hp
  have hjl : j < x.subs.length := by omega
  have e2 : (x.subs.length : Int) - 1 = j := by omega
  have hw : IntKind.wrap .i64 ((j : Int) - 1) = (j : Int) - 1 := vm (by omega) (by omega)
  have ht : qsr R.length (qa R ++ Z) = qa R := by rw [List.take_append_of_le_length (by simp), qsp (by simp)]
  have e5 : x.subs = x.subs.take j ++ [x.subs[j]] := by
   have : x.subs.take (j + 1) = x.subs := qsp (by omega)
   rw [List.take_add_one, qsh hjl] at this
   exact this.symm
  have e6 : R ++ x.subs.reverse = R ++ [x.subs[j]] ++ (x.subs.take j).reverse := by
   conv => lhs; rw [e5]
   rw [List.reverse_append, List.append_assoc]; rfl
  have := qnH (t := t) hx (wd := wd) (P := P) j (R ++ [x.subs[j]]) (by omega) (by simp; omega) (by
   have h := h hne
   rw [e6] at h
   have e7 : (R ++ [x.subs[j]] ++ (x.subs.take j).reverse).length = (R ++ [x.subs[j]]).length + j := by
    rw [qsz, List.length_reverse, List.length_take]; omega
   rw [e7] at h
   exact h)
  rw [e2]
  simp at this
  simp [hjl, hw, x8 (show R.length + 1 ≤ 1099511627776 by omega), ht]
  exact this
theorem qp5 {t : Tm} : ∀ (n : Nat) (R : List Tm) (Z : List (List AV)) (wd : Nat), wL R ≤ n → n < 1099511627776 → wd + 2 * wL R < 9007199254740992 →
  Gets (qaP t.kind t.num t.str (qa t.subs) 0 (wd : Int) t.kind t.num t.str (qa t.subs) R.length (qa R ++ Z)) (· = .int .i64 (chkS R wd)) := by
 intro n
 induction n with
 | zero =>
  intro R Z wd hn _ _
  have : R = [] := by
   have := xT R
   exact List.length_eq_zero_iff.1 (by omega)
  subst this
  refine qbr _ _ _ _ _ _ _ _ _ _ _ _ ?_
  by_cases h : 65536 < wd
  ·have h' : (65536 : Int) < wd := by omega
   simp [h, h', chkS, qU, qF]
  ·have h' : ¬ (65536 : Int) < wd := by omega
   simp [h, h', chkS, qU, qF]
 | succ n ih =>
  intro R Z wd hn hN hw
  rcases List.eq_nil_or_concat R with rfl | ⟨R0, x, rfl⟩
  ·refine qbr _ _ _ _ _ _ _ _ _ _ _ _ ?_
   by_cases h : 65536 < wd
   ·have h' : (65536 : Int) < wd := by omega
    simp [h, h', chkS, qU, qF]
   ·have h' : ¬ (65536 : Int) < wd := by omega
    simp [h, h', chkS, qU, qF]
  ·rw [List.concat_eq_append] at *
   have hwx := x.w_eq
   have ho := x.own_le
   simp only [ya, qW, vP] at hn hw
   have hl0 := xT R0
   have hls := xT x.subs
   have hsd := qoG x
   have how := qqP x
   refine qbr _ _ _ _ _ _ _ _ _ _ _ _ ?_
   have e1 : (R0 ++ [x]).length = R0.length + 1 := by simp
   have hw1 : IntKind.wrap .i64 (R0.length : Int) = R0.length := qr1 (by omega)
   have hw2 : IntKind.wrap .i64 ((wd : Int) + x.own) = ((wd + x.own : Nat) : Int) := by rw [vm (by omega) (by omega)]; omega
   have hw3 : IntKind.wrap .i64 ((x.subs.length : Int) - 1) = (x.subs.length : Int) - 1 := vm (by omega) (by omega)
   have g : (qa (R0 ++ [x]) ++ Z)[R0.length]? = some x.cells := by
    rw [qsq (by simp), xl]; simp
   cases hs : x.sound with
   | false =>
    rw [hs] at hsd
    simp [e1, hw1, g, hsd, qpj hs]
   | true =>
    rw [hs] at hsd
    have e3 : qa (R0 ++ [x]) ++ Z = qa R0 ++ (x.cells :: Z) := by rw [q8, List.append_assoc, qD, qT]; rfl
    have := qqO (t := t) (x := x) (R := R0) (Z := x.cells :: Z) (wd := ((wd + x.own : Nat) : Int)) (P := (· = .int .i64 (chkS (R0 ++ [x]) wd))) (by omega) (by omega)
     (fun hz => by
      have := ih R0 (x.cells :: Z) (wd + x.own) (by omega) (by omega) (by omega)
      rw [← qh8 hs, hz, List.reverse_nil, List.append_nil]
      exact this)
     (fun hz => by
      have := ih (R0 ++ x.subs.reverse) [] (wd + x.own) (by rw [ya, qnh]; omega) (by omega) (by rw [ya, qnh]; omega)
      rw [← qh8 hs]
      rw [List.append_nil] at this
      exact this)
    simp only [e1, e3] at g ⊢
    simp only [Int.natCast_add] at hw2 this
    simp [hw1, g, hsd, how, hw2, hw3]
    exact this
theorem qcC {t : Tm} (h : t.w < 1099511627776) : EVs (EV cfg) 53 [t.av] = some (.int .i64 t.chk) := by
 have := qp5 (t := t) _ [t] [] 0 (qso _) (by simpa using h) (by simp; omega)
 apply Gets.get
 rw [Tm.av, Tm.cells_eq]
 refine qhf _ _ _ _ ?_
 rw [← Tm.cells_eq, qnv, Tm.chk]
 simpa using this
theorem qby {s h0 : List UInt8} {b : UInt8} {v : Int} {i : Nat} {P : AV → Prop} (hv : 0 ≤ v ∧ v ≤ 9) (hlen : (qsr (s.length - 1) (s.drop 1)).length = h0.length) (hl : h0.length ≤ 2) (hb : h0[i]? = some b)
  (h : Gets (match vR b with | none => some (AV.tup [.int .i64 0, .bool false]) | some x => qaQ s (v * 10 + x) ((i + 1 : Nat) : Int) (h0.map fun b => [.int .u8 (b.toNat : Int)])) P) : Gets (qaQ s v i (h0.map fun b => [.int .u8 (b.toNat : Int)])) P := by
 have hi : i < h0.length := (qsi.1 hb).1
 refine qex _ _ _ _ ?_
 have hbl := b.toNat_lt
 rw [hlen, decide_eq_true (show (i : Int) < (h0.length : Int) by omega), qA, qN, decide_eq_true hi]
 simp only [cond_true, qsH, qq, Nat.zero_add, qsE, List.getElem?_map, hb, qsB, qf, List.getElem?_cons_zero, qy]
 unfold vR at h
 by_cases h1 : b.toNat < 48
 ·rw [if_pos h1] at h
  rw [decide_eq_true (show (b.toNat : Int) < 48 by omega)]; exact h
 ·rw [if_neg h1] at h
  rw [decide_eq_false (show ¬ (b.toNat : Int) < 48 by omega), cond_false]
  by_cases h2 : b.toNat > 57
  ·rw [if_pos h2] at h
   rw [decide_eq_true (show (b.toNat : Int) > 57 by omega)]; exact h
  ·rw [if_neg h2] at h
   rw [decide_eq_false (show ¬ (b.toNat : Int) > 57 by omega), cond_false]
   have w1 : IntKind.wrap .i64 (v * 10) = v * 10 := vm (by omega) (by omega)
   have w2 : IntKind.wrap .u8 ((b.toNat : Int) - 48) = (b.toNat : Int) - 48 := by
    simp [IntKind.wrap, IntKind.bits, IntKind.signed]; omega
   have w3 : IntKind.wrap .i64 ((b.toNat : Int) - 48) = (b.toNat : Int) - 48 := vm (by omega) (by omega)
   have w4 : IntKind.wrap .i64 (v * 10 + ((b.toNat : Int) - 48)) = v * 10 + ((b.toNat : Int) - 48) := vm (by omega) (by omega)
   have w5 : IntKind.wrap .i64 ((i : Int) + 1) = ((i + 1 : Nat) : Int) := qI (n := 2) (by omega) (by omega)
   rw [w1, w2, w3, w4, w5]
   exact h
theorem qf8 {s h0 : List UInt8} {v : Int} {i : Nat} (hlen : (qsr (s.length - 1) (s.drop 1)).length = h0.length) (hi : i = h0.length) : Gets (qaQ s v i (h0.map fun b => [.int .u8 (b.toNat : Int)])) (· = .tup [.int .i64 v, .bool true]) := by
 refine qex _ _ _ _ ?_
 rw [hlen, decide_eq_false (by omega)]
 exact ⟨_, rfl, rfl⟩
def varR (o : Option Int) : AV := .tup [.int .i64 (o.getD 0), .bool o.isSome]
theorem qaZ (s : List UInt8) : EVs (EV cfg) 120 [.str s] = some (varR (varG s)) := by
 apply Gets.get
 refine qix _ ?_
 unfold zd0 zd1
 match s with
 | [] => exact ⟨_, rfl, rfl⟩
 | [a] => exact ⟨_, rfl, rfl⟩
 | a :: b :: c :: d :: l =>
  have h1 : ¬ ((a :: b :: c :: d :: l).length : Int) < 2 := by simp; omega
  have h2 : ((a :: b :: c :: d :: l).length : Int) > 3 := by simp; omega
  rw [decide_eq_false h1, decide_eq_true h2]
  exact ⟨_, rfl, rfl⟩
 | [a, b] =>
  by_cases h : a.toNat = 36
  ·have e : (((a.toNat : Int)) != 36) = false := by rw [h]; rfl
   have hs := qby (s := [a, b]) (h0 := [b]) (b := b) (v := 0) (i := 0) (P := (· = varR (varG [a, b]))) (by omega) rfl (by simp) rfl (by
    rw [qiN, if_pos h]
    cases hd : vR b with
    | none => exact ⟨_, rfl, rfl⟩
    | some x =>
     refine (qf8 (s := [a, b]) (h0 := [b]) rfl rfl).mono ?_
     rintro _ rfl
     show _ = varR (some x)
     simp [varR])
   show Gets (bif (((a.toNat : Int)) != 36) then _ else _) _
   rw [e]
   exact hs
  ·have e : (((a.toNat : Int)) != 36) = true := by simpa using fun h' => h (by omega)
   show Gets (bif (((a.toNat : Int)) != 36) then _ else _) _
   rw [e]
   refine ⟨_, rfl, ?_⟩
   rw [qiN, if_neg h]; rfl
 | [a, b, c] =>
  by_cases h : a.toNat = 36
  ·have e : (((a.toNat : Int)) != 36) = false := by rw [h]; rfl
   show Gets (bif (((a.toNat : Int)) != 36) then _ else bif (((b.toNat : Int)) == 48) then _ else _) _
   rw [e]
   by_cases hb : b.toNat = 48
   ·have e2 : (((b.toNat : Int)) == 48) = true := by rw [hb]; rfl
    rw [e2]
    refine ⟨_, rfl, ?_⟩
    rw [qd1, if_neg (fun h => h.2 hb)]; rfl
   ·have e2 : (((b.toNat : Int)) == 48) = false := by simpa using fun h' => hb (by omega)
    rw [e2]
    show Gets (qaQ [a, b, c] 0 0 ([b, c].map fun b => [.int .u8 (b.toNat : Int)])) _
    refine qby (s := [a, b, c]) (h0 := [b, c]) (b := b) (v := 0) (i := 0) (by omega) rfl (by simp) rfl ?_
    rw [qd1, if_pos ⟨h, hb⟩]
    cases hd : vR b with
    | none => exact ⟨_, rfl, rfl⟩
    | some x =>
     have hx := qab hd
     refine qby (s := [a, b, c]) (h0 := [b, c]) (b := c) (i := 1) (by omega) rfl (by simp) rfl ?_
     cases hd2 : vR c with
     | none => exact ⟨_, rfl, by simp [varR, hd2]⟩
     | some y =>
      refine (qf8 (s := [a, b, c]) (h0 := [b, c]) rfl rfl).mono ?_
      rintro _ rfl
      simp [varR, hd2]
  ·have e : (((a.toNat : Int)) != 36) = true := by simpa using fun h' => h (by omega)
   show Gets (bif (((a.toNat : Int)) != 36) then _ else _) _
   rw [e]
   refine ⟨_, rfl, ?_⟩
   rw [qd1, if_neg (fun h' => h h'.1)]; rfl
theorem qdi {t : Tm} (h : t.w < 1099511627776) : EVs (EV cfg) 118 [t.av] = some (.bool (decide (t.chk = 0))) := by
 have hc := qcC h
 apply Gets.get
 rw [Tm.av, Tm.cells_eq] at hc ⊢
 refine qmo _ _ _ _ ?_
 rw [hc]
 simp [beqI]
theorem qhT {t : Tm} (h : t.w < 1099511627776) : EVs (EV cfg) 148 [t.av] = some (varR (varT t)) := by
 have hc := qdi h
 apply Gets.get
 rw [Tm.av, Tm.cells_eq] at hc ⊢
 refine qmn _ _ _ _ ?_
 rw [hc, qaZ]
 unfold varT
 by_cases h1 : t.kind = 2
 ·by_cases h2 : t.chk = 0
  ·simp [h1, h2, varR, kTup, qn, kNil]
  ·simp [h1, h2, varR]
 ·have h1' : (t.kind != 2) = true := by simpa using h1
  rw [h1']
  simp [h1, varR]
noncomputable def qrw : Den := evC cfg (EV cfg) 236 none 0 (sub (qe Tryz.f236) [1, 0, 1, 0, 0])
noncomputable def qrT : Ex × List AV × AH → Option AV := kAft (Cfg.keepOut cfg 236 2) (kRun cfg (EV cfg) (kfN cfg 6) 236 none 0 (xu cfg (Cfg.lift cfg 236 0) Tryz.f236.results.toList) ([.block 0, .seq (sub (qe Tryz.f236) [1, 1])]))
noncomputable def qrg : List AV × AH → Option AV := fun p => kOpt (LOOP 0 (some [0, 1, 7, 8]) ([]) qrw p) qrT
noncomputable abbrev qfI (A : Rz) (n v8 : Int) : Option (AV) := qrg  (((fx 19 [(0, .sl A), (1, .int .i64 n), (7, .int .i64 (A.length : Int)), (8, .int .i64 v8)]) : List AV), ([] : AH))
theorem qiD (op : Bz) {P : AV → Prop} (h : Gets (bif op == [(115 : UInt8), (101 : UInt8), (108 : UInt8), (102 : UInt8)] then some (.sl [[.int .i64 0]]) else bif op == [(105 : UInt8), (115 : UInt8), (95 : UInt8), (97 : UInt8), (116 : UInt8), (111 : UInt8), (109 : UInt8)] then some (.sl [[.int .i64 1]]) else bif op == [(105 : UInt8), (115 : UInt8), (95 : UInt8), (105 : UInt8), (110 : UInt8), (116 : UInt8), (101 : UInt8), (103 : UInt8), (101 : UInt8), (114 : UInt8)] then some (.sl [[.int .i64 1]]) else bif op == [(105 : UInt8), (115 : UInt8), (95 : UInt8), (108 : UInt8), (105 : UInt8), (115 : UInt8), (116 : UInt8)] then some (.sl [[.int .i64 1]]) else bif op == [(105 : UInt8), (115 : UInt8), (95 : UInt8), (116 : UInt8), (117 : UInt8), (112 : UInt8), (108 : UInt8), (101 : UInt8)] then some (.sl [[.int .i64 1]]) else bif op == [(105 : UInt8), (115 : UInt8), (95 : UInt8), (112 : UInt8), (105 : UInt8), (100 : UInt8)] then some (.sl [[.int .i64 1]]) else bif op == [(105 : UInt8), (115 : UInt8), (95 : UInt8), (102 : UInt8), (117 : UInt8), (110 : UInt8), (99 : UInt8), (116 : UInt8), (105 : UInt8), (111 : UInt8), (110 : UInt8)] then some (.sl [[.int .i64 1]]) else bif op == [(105 : UInt8), (115 : UInt8), (95 : UInt8), (114 : UInt8), (101 : UInt8), (102 : UInt8), (101 : UInt8), (114 : UInt8), (101 : UInt8), (110 : UInt8), (99 : UInt8), (101 : UInt8)] then some (.sl [[.int .i64 1]]) else bif op == [(110 : UInt8), (111 : UInt8), (116 : UInt8)] then some (.sl [[.int .i64 1]]) else bif op == [(98 : UInt8), (110 : UInt8), (111 : UInt8), (116 : UInt8)] then some (.sl [[.int .i64 1]]) else bif op == [(97 : UInt8), (98 : UInt8), (115 : UInt8)] then some (.sl [[.int .i64 1]]) else bif op == [(116 : UInt8), (117 : UInt8), (112 : UInt8), (108 : UInt8), (101 : UInt8), (95 : UInt8), (115 : UInt8), (105 : UInt8), (122 : UInt8), (101 : UInt8)] then some (.sl [[.int .i64 1]]) else bif op == [(115 : UInt8), (105 : UInt8), (122 : UInt8), (101 : UInt8)] then some (.sl [[.int .i64 1]]) else bif op == [(104 : UInt8), (100 : UInt8)] then some (.sl [[.int .i64 1]]) else bif op == [(116 : UInt8), (108 : UInt8)] then some (.sl [[.int .i64 1]]) else bif op == [(108 : UInt8), (101 : UInt8), (110 : UInt8), (103 : UInt8), (116 : UInt8), (104 : UInt8)] then some (.sl [[.int .i64 1]]) else bif op == [(43 : UInt8)] then some (.sl [[.int .i64 1], [.int .i64 2]]) else bif op == [(45 : UInt8)] then some (.sl [[.int .i64 1], [.int .i64 2]]) else bif op == [(61 : UInt8), (61 : UInt8)] then some (.sl [[.int .i64 2]]) else bif op == [(61 : UInt8), (58 : UInt8), (61 : UInt8)] then some (.sl [[.int .i64 2]]) else bif op == [(47 : UInt8), (61 : UInt8)] then some (.sl [[.int .i64 2]]) else bif op == [(61 : UInt8), (47 : UInt8), (61 : UInt8)] then some (.sl [[.int .i64 2]]) else bif op == [(60 : UInt8)] then some (.sl [[.int .i64 2]]) else bif op == [(61 : UInt8), (60 : UInt8)] then some (.sl [[.int .i64 2]]) else bif op == [(62 : UInt8)] then some (.sl [[.int .i64 2]]) else bif op == [(62 : UInt8), (61 : UInt8)] then some (.sl [[.int .i64 2]]) else bif op == [(97 : UInt8), (110 : UInt8), (100 : UInt8)] then some (.sl [[.int .i64 2]]) else bif op == [(111 : UInt8), (114 : UInt8)] then some (.sl [[.int .i64 2]]) else bif op == [(120 : UInt8), (111 : UInt8), (114 : UInt8)] then some (.sl [[.int .i64 2]]) else bif op == [(97 : UInt8), (110 : UInt8), (100 : UInt8), (97 : UInt8), (108 : UInt8), (115 : UInt8), (111 : UInt8)] then some (.sl [[.int .i64 2]]) else bif op == [(111 : UInt8), (114 : UInt8), (101 : UInt8), (108 : UInt8), (115 : UInt8), (101 : UInt8)] then some (.sl [[.int .i64 2]]) else bif op == [(42 : UInt8)] then some (.sl [[.int .i64 2]]) else bif op == [(100 : UInt8), (105 : UInt8), (118 : UInt8)] then some (.sl [[.int .i64 2]]) else bif op == [(114 : UInt8), (101 : UInt8), (109 : UInt8)] then some (.sl [[.int .i64 2]]) else bif op == [(98 : UInt8), (97 : UInt8), (110 : UInt8), (100 : UInt8)] then some (.sl [[.int .i64 2]]) else bif op == [(98 : UInt8), (111 : UInt8), (114 : UInt8)] then some (.sl [[.int .i64 2]]) else bif op == [(98 : UInt8), (120 : UInt8), (111 : UInt8), (114 : UInt8)] then some (.sl [[.int .i64 2]]) else bif op == [(101 : UInt8), (108 : UInt8), (101 : UInt8), (109 : UInt8), (101 : UInt8), (110 : UInt8), (116 : UInt8)] then some (.sl [[.int .i64 2]]) else some (.sl [])) P) : Gets (EVf (EV cfg) 203 [.str op]) P :=
  gE (fun _ => funF rfl rfl Tryz.func203 rfl) (by kernel_rfl) h
theorem qiE (A : Rz) (n : Int) {P : AV → Prop} (h : Gets (kOpt (EVs (EV cfg) 236 [.sl A, .int .i64 n]) fun v => kInt .i64 v fun n => some (.bool (decide (n ≥ 0)))) P) : Gets (EVs (EV cfg) 201 [.sl A, .int .i64 n]) P :=
  gE (fun _ => funS rfl rfl Tryz.func201 rfl) (by kernel_rfl) h
theorem qmS (A : Rz) (n : Int) {P : AV → Prop} (h : Gets (qfI A n 0) P) : Gets (EVs (EV cfg) 236 [.sl A, .int .i64 n]) P :=
  gE (fun _ => funS rfl rfl Tryz.func236 rfl) (by kernel_rfl) h
theorem qeA (A : Rz) (n v8 : Int) {P : AV → Prop} (h : Gets (bif decide (v8 < (A.length : Int)) then bif qh 0 v8 && qo v8 (A.length : Int) then kOpt (qsg A (v8.toNat)) fun row => bif qsy (qsk row) 1 then kOpt (qsg row 0) fun v => kInt .i64 v fun n_1 => bif n == n_1 then some (.int .i64 v8) else qfI A n (IntKind.wrap .i64 (v8 + 1)) else none else none else some (.int .i64 (- 1))) P) : Gets (qfI A n v8) P :=
  gE (fun _ => qt (cfg := cfg) (f := 236) (rd := none) (bs := 0)) (by kernel_rfl) h
noncomputable def qrv : Den := evC cfg (EV cfg) 96 none 0 (sub (qe Tryz.f96) [1, 1, 1, 0, 1, 0, 0])
noncomputable def qrS : Ex × List AV × AH → Option AV := kAft (Cfg.keepOut cfg 96 5) (kRun cfg (EV cfg) (kfN cfg 6) 96 none 0 (xu cfg (Cfg.lift cfg 96 0) Tryz.f96.results.toList) ([.block 0, .seq (sub (qe Tryz.f96) [1, 1, 1, 1])]))
noncomputable def qrf : List AV × AH → Option AV := fun p => kOpt (LOOP 0 (some [1, 2, 5, 6]) ([]) qrv p) qrS
noncomputable abbrev qfH (most v5 v6 c0_0 c0_1 : Int) (c0_2 : Bz) (c0_3 : Rz) : Option (AV) := qrf  (((fx 43 [(1, .int .i64 most), (2, .ptr 0 0 0), (5, .int .i64 v5), (6, .int .i64 v6)]) : List AV), ([.rows false 4 [[.int .i64 c0_0, .int .i64 c0_1, .str c0_2, .sl c0_3]]] : AH))
theorem qmA (kt nt : Int) (st : Bz) (lt : Rz) (most : Int) {P : AV → Prop} (h : Gets (kOpt (EVs (EV cfg) 96 [.agg [.int .i64 kt, .int .i64 nt, .str st, .sl lt], .int .i64 (IntKind.wrap .i64 (most + 1))]) fun v => kInt .i64 v fun n => some (.bool (decide (n > most)))) P) : Gets (EVs (EV cfg) 39 [.agg [.int .i64 kt, .int .i64 nt, .str st, .sl lt], .int .i64 most]) P :=
  gE (fun _ => funS rfl rfl Tryz.func39 rfl) (by kernel_rfl) h
theorem qeR (kt nt : Int) (st : Bz) (lt : Rz) (most : Int) {P : AV → Prop} (h : Gets (bif decide ((st.length : Int) > 100) then some (.int .i64 most) else bif decide ((lt.length : Int) > most) then some (.int .i64 most) else qfH most 1 0 kt nt st lt) P) : Gets (EVs (EV cfg) 96 [.agg [.int .i64 kt, .int .i64 nt, .str st, .sl lt], .int .i64 most]) P :=
  gE (fun _ => funS rfl rfl Tryz.func96 rfl) (by kernel_rfl) h
theorem qez (most v5 v6 c0_0 c0_1 : Int) (c0_2 : Bz) (c0_3 : Rz) {P : AV → Prop} (h : Gets (bif decide (v6 < (c0_3.length : Int)) then bif decide (v5 < most) then bif qh 0 v6 && qo v6 (c0_3.length : Int) then kOpt (qsg c0_3 (qsC v6)) fun row => bif qsy (qsk row) 4 then bif qsw 4 (qsk row) then kTmC (qsr 4 row) fun n n_1 s rows => (kOpt (EVs (EV cfg) 96 [.agg [.int .i64 n, .int .i64 n_1, .str s, .sl rows], .int .i64 (IntKind.wrap .i64 (most - v5))]) fun v => kInt .i64 v fun n => qfH most (IntKind.wrap .i64 (v5 + n)) (IntKind.wrap .i64 (v6 + 1)) c0_0 c0_1 c0_2 c0_3) else none else none else none else some (.int .i64 v5) else some (.int .i64 v5)) P) : Gets (qfH most v5 v6 c0_0 c0_1 c0_2 c0_3) P :=
  gE (fun _ => qt (cfg := cfg) (f := 96) (rd := none) (bs := 0)) (by kernel_rfl) h
def zQ : List (List AV) := [[AV.fn (Fn.func 108) [] [AV.ptr 0 0 0]]]
theorem qqQ (op : List UInt8) : EVf (EV cfg) 203 [.str op] = some (.sl (qk (opsG op))) := by
 apply Gets.get
 refine qiD _ ?_
 have h := qdo (fun l => some (AV.sl (qk l))) op [] qbS
 have : Gets (zu op (some (AV.sl (qk []))) (qbS.map fun p => (p.1, some (AV.sl (qk p.2))))) (· = .sl (qk (opsG op))) := by
  rw [h]; exact ⟨_, rfl, rfl⟩
 exact this
theorem qo3 (l : List Int) (hl : l.length < 1099511627776) (n : Int) : ∀ d i : Nat, i + d = l.length → Gets (qfI (qk l) n i) (fun v => ∃ j : Int, v = .int .i64 j ∧ (0 ≤ j ↔ n ∈ l.drop i)) := by
 intro d
 induction d with
 | zero =>
  intro i hi
  refine qeA _ _ _ ?_
  rw [qX, decide_eq_false (by omega)]
  refine ⟨_, rfl, -1, rfl, ?_⟩
  rw [List.drop_eq_nil_of_le (by omega)]
  simp
 | succ d ih =>
  intro i hi
  have hil : i < l.length := by omega
  refine qeA _ _ _ ?_
  have hx : l[i]? = some l[i] := qsh hil
  have hd : l.drop i = l[i] :: l.drop (i + 1) := List.drop_eq_getElem_cons hil
  have h := ih (i + 1) (by omega)
  rw [qX, decide_eq_true (show (i : Int) < (l.length : Int) by omega), qA, qN, decide_eq_true hil, qq, qsE, z8, hx, qI hil hl]
  by_cases he : n = l[i]
  ·refine ⟨.int .i64 i, ?_, i, rfl, ?_⟩
   ·simp [he]
   ·rw [hd, he]; exact ⟨fun _ => List.mem_cons_self, fun _ => by omega⟩
  ·have hne : (n == l[i]) = false := by rw [beqI]; exact decide_eq_false he
   simp [hne]
   refine Gets.mono (by simpa using h) ?_
   rintro _ ⟨j, rfl, hj⟩
   exact ⟨j, rfl, by rw [hj, hd, qsI]; exact ⟨Or.inr, fun h => h.resolve_left he⟩⟩
theorem qeV (l : List Int) (hl : l.length < 1099511627776) (n : Int) : EVs (EV cfg) 201 [.sl (qk l), .int .i64 n] = some (.bool (decide (n ∈ l))) := by
 obtain ⟨_, h1, j, rfl, hj⟩ := qo3 l hl n l.length 0 (by omega)
 have h2 : EVs (EV cfg) 236 [.sl (qk l), .int .i64 n] = some (.int .i64 j) := by
  apply Gets.get
  exact qmS _ _ ⟨_, h1, rfl⟩
 apply Gets.get
 refine qiE _ _ ?_
 rw [h2]
 rw [List.drop_zero] at hj
 refine ⟨_, rfl, ?_⟩
 show AV.bool (decide (j ≥ 0)) = _
 congr 1
 exact decide_eq_decide.2 hj
end Go.Proofs.YtjiecipfkjaooaaGreat
end
section
namespace Go.Av
mutual
/-- is a term an expression over some variables? -/
def isG (V : List Int) : Tm → Bool
  | .mk k n s l =>
    if k = 2 then (match varT (.mk k n s l) with | none => true | some x => decide (x ∈ V))
    else if k = 9 then allG V l
    else if k = 7 then
      (match l with
       | [] => false
       | (.mk k1 _ s1 l1) :: rest =>
         if k1 = 7 then decide (rest.length = 0) && allG V l1
         else if k1 = 2 then (if s1 = [99, 111, 110, 115, 116] then decide (rest.length = 1) else decide ((rest.length : Int) ∈ opsG s1) && allG V rest)
         else false)
    else true
def allG (V : List Int) : List Tm → Bool
  | [] => true
  | t :: l => isG V t && allG V l
end
theorem qfe {V : List Int} {t : Tm} (h : t.kind = 2) : isG V t = (match varT t with | none => true | some x => decide (x ∈ V)) := by
 obtain ⟨k, n, s, l⟩ := t
 simp only [Tm.kind_mk] at h
 rw [isG.eq_def]; simp only []; rw [if_pos h]
theorem qjQ {V : List Int} {t : Tm} (h : t.kind = 9) : isG V t = allG V t.subs := by
 obtain ⟨k, n, s, l⟩ := t
 simp only [Tm.kind_mk] at h
 subst h
 rw [isG.eq_def]; simp only []; rw [if_neg (by omega), if_pos trivial]; rfl
theorem qlD {V : List Int} {t : Tm} (h : t.kind = 7) (hl : t.subs = []) : isG V t = false := by
 obtain ⟨k, n, s, l⟩ := t
 simp only [Tm.kind_mk, Tm.subs_mk] at h hl
 subst h hl
 rw [isG.eq_def]; simp only []; rw [if_neg (by omega), if_neg (by omega), if_pos trivial]
theorem qlC {V : List Int} {t f : Tm} {r : List Tm} (h : t.kind = 7) (hl : t.subs = f :: r) : isG V t =
  if f.kind = 7 then decide (r.length = 0) && allG V f.subs
  else if f.kind = 2 then (if f.str = [99, 111, 110, 115, 116] then decide (r.length = 1) else decide ((r.length : Int) ∈ opsG f.str) && allG V r) else false := by
 obtain ⟨k, n, s, l⟩ := t
 obtain ⟨k1, n1, s1, l1⟩ := f
 simp only [Tm.kind_mk, Tm.subs_mk] at h hl
 subst h hl
 rw [isG.eq_def]; simp only []; rw [if_neg (by omega), if_neg (by omega), if_pos trivial]; rfl
theorem qhZ {V : List Int} {t : Tm} (h2 : t.kind ≠ 2) (h9 : t.kind ≠ 9) (h7 : t.kind ≠ 7) : isG V t = true := by
 obtain ⟨k, n, s, l⟩ := t
 simp only [Tm.kind_mk] at h2 h9 h7
 rw [isG.eq_def]; simp only []; rw [if_neg h2, if_neg h9, if_neg h7]
def xq (V : List Int) (t : Tm) : Int := if t.chk = 0 then (if isG V t then 0 else 10) else 2
end Go.Av
end
section
namespace Go.Proofs.YtjiecipfkjaooaaGreat
open Go.Av
theorem qhn (n : Int) : EVs (EV cfg) 222 [.int .i64 n] = some (.bool (decide (0 ≤ n) && decide (n ≤ 1073741824))) := by
 apply Gets.get
 refine qf0 _ ?_
 by_cases h : 0 ≤ n <;> simp [h]
theorem qnG (t : Tm) : EVs (EV cfg) 172 [t.av] = some (.bool t.sound) := by
 obtain ⟨k, n, s, l⟩ := t
 apply Gets.get
 rw [Tm.av_mk]
 refine qmk _ _ _ _ ?_
 unfold zb1 zb0
 simp only [Tm.sound, Tm.kind_mk, Tm.num_mk, Tm.str_mk, Tm.subs_mk, qb, beqI, qoe, yG, qhn, qf, qu]
 by_cases h1 : k = 1
 ·subst h1; simp [q9] <;> (try rw [Bool.eq_iff_iff]) <;> (try simp) <;> first | omega | grind
 by_cases h2 : k = 2
 ·subst h2; simp [q9] <;> (try rw [Bool.eq_iff_iff]) <;> (try simp) <;> first | omega | grind
 by_cases h3 : k = 3
 ·subst h3; simp [q9] <;> (try rw [Bool.eq_iff_iff]) <;> (try simp) <;> first | omega | grind
 by_cases h4 : k = 4
 ·subst h4; simp [q9] <;> (try rw [Bool.eq_iff_iff]) <;> (try simp) <;> first | omega | grind
 by_cases h6 : k = 6
 ·subst h6; simp [q9] <;> (try rw [Bool.eq_iff_iff]) <;> (try simp) <;> first | omega | grind
 by_cases h5 : k = 5
 ·subst h5; simp [q9] <;> (try rw [Bool.eq_iff_iff]) <;> (try simp) <;> first | omega | grind
 by_cases h7 : k = 7
 ·subst h7; simp [q9] <;> (try rw [Bool.eq_iff_iff]) <;> (try simp) <;> first | omega | grind
 by_cases h8 : k = 8
 ·subst h8; simp [q9] <;> (try rw [Bool.eq_iff_iff]) <;> (try simp) <;> first | omega | grind
 by_cases h9 : k = 9
 ·subst h9; simp [q9] <;> (try rw [Bool.eq_iff_iff]) <;> (try simp) <;> first | omega | grind
 simp [h1, h2, h3, h4, h5, h6, h7, h8, h9]
theorem qkO (t : Tm) : t.w < 1099511627776 → EVs (EV cfg) 111 [t.av] = some (.bool t.parts) := by
 induction t using Tm.ind with
 | _ k n s l ih =>
  intro hw
  rw [Tm.w_mk] at hw
  have hlen := xT l
  have loop : ∀ d i : Nat, i + d = l.length → Gets (qfA i k n s (qa l)) (· = .bool (qU (l.drop i))) := by
   intro d
   induction d with
   | zero =>
    intro i hi
    refine qet _ _ _ _ _ ?_
    rw [qb, decide_eq_false (by omega), List.drop_eq_nil_of_le (by omega)]
    exact ⟨_, rfl, rfl⟩
   | succ d ihd =>
    intro i hi
    have hil : i < l.length := by omega
    refine qet _ _ _ _ _ ?_
    have hx : l[i]? = some l[i] := qsh hil
    have hm := qss hx
    have hd : l.drop i = l[i] :: l.drop (i + 1) := List.drop_eq_getElem_cons hil
    have h1 := ih l[i] hm (by have := xS hm; omega)
    have h2 := ihd (i + 1) (by omega)
    rw [qb, decide_eq_true (show (i : Int) < (l.length : Int) by omega), qA, qN, decide_eq_true hil, vS hx, qI hil (by omega), hd, qU]
    simp only [cond_true, qsH, qx, qsJ, qG, qB, show qsw 4 4 = true from rfl, vr, h1, qf, qu]
    cases hg : l[i].parts with
    | false => exact ⟨_, rfl, rfl⟩
    | true => rw [qsL]; exact h2
  have ho := qnG (.mk k n s l)
  have h0 := loop l.length 0 (by omega)
  apply Gets.get
  rw [Tm.parts_eq]
  rw [Tm.av_mk] at ho ⊢
  refine qjw _ _ _ _ ?_
  rw [ho]
  simp only [qf, qu, Tm.subs_mk]
  cases (Tm.mk k n s l).sound with
  | false => exact ⟨_, rfl, rfl⟩
  | true => rw [qsL]; exact h0
theorem qay {l : List Tm} (h : qU l = true) : ∀ x ∈ l, x.parts = true := by
 induction l with
 | nil => intro x hx; cases hx
 | cons y l ih =>
  rw [qU, qsm] at h
  intro x hx
  cases hx with
  | head => exact h.1
  | tail _ hx => exact ih h.2 x hx
theorem qkN (t : Tm) : t.w < 1099511627776 → t.parts = true → EVs (EV cfg) 112 [t.av] = some (.int .i64 (t.words : Int)) := by
 induction t using Tm.ind with
 | _ k n s l ih =>
  intro hw hp
  have hww := qoA (.mk k n s l)
  rw [Tm.w_mk] at hw hww
  have hlen := xT l
  rw [Tm.parts, qsm] at hp
  obtain ⟨hp, hpl⟩ := hp
  have loop : ∀ d i acc : Nat, i + d = l.length → acc + qF (l.drop i) < 9007199254740992 → Gets (yk acc i k n s (qa l)) (· = .int .i64 ((acc + qF (l.drop i) : Nat) : Int)) := by
   intro d
   induction d with
   | zero =>
    intro i acc hi _
    refine qes _ _ _ _ _ _ ?_
    rw [qb, decide_eq_false (by omega), List.drop_eq_nil_of_le (by omega)]
    exact ⟨_, rfl, rfl⟩
   | succ d ihd =>
    intro i acc hi hacc
    have hil : i < l.length := by omega
    refine qes _ _ _ _ _ _ ?_
    have hx : l[i]? = some l[i] := qsh hil
    have hm := qss hx
    have hd : l.drop i = l[i] :: l.drop (i + 1) := List.drop_eq_getElem_cons hil
    have h1 := ih l[i] hm (by have := xS hm; omega) (qay hpl _ hm)
    rw [hd, qF] at hacc
    have h2 := ihd (i + 1) (acc + (l[i]).words) (by omega) (by omega)
    have w1 : IntKind.wrap .i64 ((acc : Int) + ((l[i]).words : Int)) = ((acc + (l[i]).words : Nat) : Int) := by rw [vm (by omega) (by omega)]; omega
    rw [qb, decide_eq_true (show (i : Int) < (l.length : Int) by omega), qA, qN, decide_eq_true hil, vS hx, qI hil (by omega), hd, qF]
    simp only [cond_true, qsH, qx, qsJ, qG, qB, show qsw 4 4 = true from rfl, vr, h1, qf, qy, w1]
    rw [← Nat.add_assoc]
    exact h2
  have hwo : (Tm.mk k n s l).words = (Tm.mk k n s l).own + qF l := by rw [Tm.words]
  rw [hwo] at hww ⊢
  have ho := (Tm.mk k n s l).own_le
  have h0 := loop l.length 0 (Tm.mk k n s l).own (by omega) (by rw [List.drop_zero]; omega)
  rw [List.drop_zero] at h0
  apply Gets.get
  rw [Tm.av_mk]
  refine qjv _ _ _ _ ?_
  by_cases h5 : k = 5
  ·subst h5
   have o2 : (Tm.mk 5 n s l).own = 2 := by simp [Tm.own]
   rw [o2] at h0 ⊢; exact h0
  by_cases h7 : k = 7
  ·subst h7
   have o2 : (Tm.mk 7 n s l).own = 2 := by simp [Tm.own]
   rw [o2] at h0 ⊢; exact h0
  have o1 : (Tm.mk k n s l).own = 1 := by simp [Tm.own, h5, h7]
  rw [o1] at h0 ⊢
  by_cases h9 : k = 9
  ·subst h9; exact h0
  have e5 : (k == 5) = false := by simpa using h5
  have e7 : (k == 7) = false := by simpa using h7
  have e9 : (k == 9) = false := by simpa using h9
  have hl : l = [] := by
   have : yG k n s l.length = true → l.length = 0 := by
    unfold yG
    rw [if_neg h5, if_neg h7, if_neg h9]
    intro h
    repeat' split at h
    all_goals simp at h
    all_goals simp [h]
   exact List.length_eq_zero_iff.1 (this hp)
  subst hl
  rw [e5, e7, e9]
  exact ⟨_, rfl, rfl⟩
theorem ys {t : Tm} (h : t.w < 1099511627776) : EVs (EV cfg) 52 [t.av] = some (.int .i64 t.chk) := by
 have hp := qkO t h
 have hw := qkN t h
 apply Gets.get
 rw [Tm.av, Tm.cells_eq] at hp hw ⊢
 refine qjx _ _ _ _ ?_
 rw [hp]
 have hc : t.chk = if t.parts then (if 65536 < t.words then 3 else 0) else 2 := by
  unfold Tm.chk chkS
  simp [qU, qF]
 rw [hc]
 simp only [qf, qu]
 cases ht : t.parts with
 | false => exact ⟨_, rfl, rfl⟩
 | true =>
  rw [hw ht]
  simp only [qf, qy, Bool.not_true, cond_false, if_true]
  by_cases hg : 65536 < t.words
  ·rw [decide_eq_true (show ((t.words : Int) > 65536) by omega), if_pos hg]; exact ⟨_, rfl, rfl⟩
  ·rw [decide_eq_false (show ¬ ((t.words : Int) > 65536) by omega), if_neg hg]; exact ⟨_, rfl, rfl⟩
theorem qoO (l : List Int) (hl : l.length < 1099511627776) (n : Int) : EVs (EV cfg) 204 [.sl (qk l), .int .i64 n] = some (.bool (decide (n ∈ l))) := by
 have loop : ∀ d i : Nat, i + d = l.length → Gets (qfz (qk l) n i) (· = .bool (decide (n ∈ l.drop i))) := by
  intro d
  induction d with
  | zero =>
   intro i hi
   refine qeq _ _ _ ?_
   rw [qX, decide_eq_false (by omega), List.drop_eq_nil_of_le (by omega)]
   exact ⟨_, rfl, by simp⟩
  | succ d ih =>
   intro i hi
   have hil : i < l.length := by omega
   refine qeq _ _ _ ?_
   have hx : l[i]? = some l[i] := qsh hil
   have hd : l.drop i = l[i] :: l.drop (i + 1) := List.drop_eq_getElem_cons hil
   have h := ih (i + 1) (by omega)
   rw [qX, decide_eq_true (show (i : Int) < (l.length : Int) by omega), qA, qN, decide_eq_true hil, qq, qsE, z8, hx, qI hil hl, hd]
   by_cases he : l[i] = n
   ·refine ⟨.bool true, ?_, ?_⟩
    ·simp [he]
    ·rw [he]; simp
   ·have hne : (l[i] == n) = false := by rw [beqI]; exact decide_eq_false he
    have hm : decide (n ∈ l[i] :: l.drop (i + 1)) = decide (n ∈ l.drop (i + 1)) := decide_eq_decide.2 (by rw [qsI]; exact ⟨fun h => h.resolve_left (fun e => he e.symm), Or.inr⟩)
    rw [hm]
    simpa [hne] using h
 apply Gets.get
 exact qnD _ _ (by simpa using loop l.length 0 (by omega))
theorem qnA (op : List UInt8) : EVf (EV cfg) 238 [.str op] = some (.sl (qk (opsG op))) := by
 apply Gets.get
 refine qmc _ ?_
 have h := qdo (fun l => some (AV.sl (qk l))) op [] qbS
 have : Gets (zu op (some (AV.sl (qk []))) (qbS.map fun p => (p.1, some (AV.sl (qk p.2))))) (· = .sl (qk (opsG op))) := by
  rw [h]; exact ⟨_, rfl, rfl⟩
 exact this
theorem qk7 (kt nt : Int) (st : Bz) (lt V : Rz) {P : AV → Prop} (h : Gets (bif kt == 2 then kOpt (EVs (EV cfg) 148 [.agg [.int .i64 kt, .int .i64 nt, .str st, .sl lt]]) fun v => kTup v fun cs => qn cs fun c cs => kInt .i64 c fun n => qn cs fun c cs => qv c fun b => kNil cs (bif ! b then some (.bool true) else kOpt (EVs (EV cfg) 201 [.sl V, .int .i64 n]) fun v => qv v fun b => some (.bool b)) else bif kt == 9 then kOpt (EVs (EV cfg) 202 [.sl lt, .sl V]) fun v => qv v fun b => some (.bool b) else bif kt == 7 then bif (lt.length : Int) == 0 then some (.bool false) else bif qo 0 (lt.length : Int) then kOpt (qsg lt 0) fun row => bif qsy (qsk row) 4 then bif qsw 4 (qsk row) then kTmC (qsr 4 row) fun n n_1 s rows => (bif qh 1 (lt.length : Int) then bif vE 4 lt then bif n == 7 then bif (↑ (qsk (qsr (qsk lt - 1) (List.drop 1 lt))) : Int) == (0 : Int) then kOpt (EVs (EV cfg) 202 [.sl rows, .sl V]) fun v => qv v fun b => some (.bool b) else some (.bool false) else bif n != 2 then some (.bool false) else bif s == [(99 : UInt8), (111 : UInt8), (110 : UInt8), (115 : UInt8), (116 : UInt8)] then some (.bool ((↑ (qsk (qsr (qsk lt - 1) (List.drop 1 lt))) : Int) == 1)) else kOpt (EVf (EV cfg) 203 [.str s]) fun v => kSl v fun rows => kOpt (EVs (EV cfg) 201 [.sl rows, .int .i64 (↑ (qsk (qsr (qsk lt - 1) (List.drop 1 lt))) : Int)]) fun v => qv v fun b => bif b then kOpt (EVs (EV cfg) 202 [.sl (qsr (qsk lt - 1) (List.drop 1 lt)), .sl V]) fun v => qv v fun b => some (.bool b) else some (.bool false) else none else none) else none else none else none else some (.bool true)) P) : Gets (EVs (EV cfg) 147 [.agg [.int .i64 kt, .int .i64 nt, .str st, .sl lt], .sl V]) P :=
  gE (fun _ => funS rfl rfl Tryz.func147 rfl) (by kernel_rfl) h
theorem qjT (L V : Rz) {P : AV → Prop} (h : Gets (kOpt (EVs (EV cfg) 83 [.sl L, AV.fn (Fn.func 237) [] [AV.cptr [.sl V] 0]]) fun v => qv v fun b => some (.bool ! b)) P) : Gets (EVs (EV cfg) 202 [.sl L, .sl V]) P :=
  gE (fun _ => funS rfl rfl Tryz.func202 rfl) (by kernel_rfl) h
theorem qhu (kt nt : Int) (st : Bz) (lt V : Rz) {P : AV → Prop} (h : Gets (kOpt (EVs (EV cfg) 53 [.agg [.int .i64 kt, .int .i64 nt, .str st, .sl lt]]) fun v => kInt .i64 v fun n => bif n != 0 then some (.int .i64 2) else kOpt (EVs (EV cfg) 147 [.agg [.int .i64 kt, .int .i64 nt, .str st, .sl lt], .sl V]) fun v => qv v fun b => bif ! b then some (.int .i64 10) else some (.int .i64 0)) P) : Gets (EVs (EV cfg) 90 [.agg [.int .i64 kt, .int .i64 nt, .str st, .sl lt], .sl V]) P :=
  gE (fun _ => funS rfl rfl Tryz.func90 rfl) (by kernel_rfl) h
noncomputable def qro : Den := evC cfg (EV cfg) 61 none 0 (sub (qe Tryz.f61) [1, 0, 1, 0, 0])
noncomputable def qrL : Ex × List AV × AH → Option AV := kAft (Cfg.keepOut cfg 61 2) (kRun cfg (EV cfg) (kfN cfg 6) 61 none 0 (xu cfg (Cfg.lift cfg 61 0) Tryz.f61.results.toList) ([.block 0, .seq (sub (qe Tryz.f61) [1, 1])]))
noncomputable def qra : List AV × AH → Option AV := fun p => kOpt (LOOP 0 (some [0, 1, 7, 8]) ([]) qro p) qrL
noncomputable abbrev qfB (L V : Rz) (v8 : Int) : Option (AV) := qra  (((fx 19 [(0, .sl L), (1, .fn (Fn.func 237) [] [.cptr [.sl V] 0]), (7, .int .i64 (L.length : Int)), (8, .int .i64 v8)]) : List AV), ([] : AH))
theorem qj8 (L V : Rz) {P : AV → Prop} (h : Gets (kOpt (EVs (EV cfg) 61 [.sl L, AV.fn (Fn.func 237) [] [AV.cptr [.sl V] 0]]) fun v => kInt .i64 v fun n => some (.bool (decide (n ≥ 0)))) P) : Gets (EVs (EV cfg) 83 [.sl L, .fn (Fn.func 237) [] [.cptr [.sl V] 0]]) P :=
  gE (fun _ => funS rfl rfl Tryz.func83 rfl) (by kernel_rfl) h
theorem qk6 (L V : Rz) {P : AV → Prop} (h : Gets (qfB L V 0) P) : Gets (EVs (EV cfg) 61 [.sl L, .fn (Fn.func 237) [] [.cptr [.sl V] 0]]) P :=
  gE (fun _ => funS rfl rfl Tryz.func61 rfl) (by kernel_rfl) h
theorem qof (ke ne : Int) (se : Bz) (le V : Rz) {P : AV → Prop} (h : Gets (kOpt (EVs (EV cfg) 147 [.agg [.int .i64 ke, .int .i64 ne, .str se, .sl le], .sl V]) fun v => qv v fun b => some (.bool ! b)) P) : Gets (EVs (EV cfg) 237 [.agg [.int .i64 ke, .int .i64 ne, .str se, .sl le], .cptr [.sl V] 0]) P :=
  gE (fun _ => funS rfl rfl Tryz.func237 rfl) (by kernel_rfl) h
theorem qeu (L V : Rz) (v8 : Int) {P : AV → Prop} (h : Gets (bif decide (v8 < (L.length : Int)) then bif qh 0 v8 && qo v8 (L.length : Int) then kOpt (qsg L (v8.toNat)) fun row => bif qsy (qsk row) 4 then bif qsw 4 (qsk row) then kTmC (qsr 4 row) fun n n_1 s rows => (kOpt (EVs (EV cfg) 237 [.agg [.int .i64 n, .int .i64 n_1, .str s, .sl rows], AV.cptr [.sl V] 0]) fun v => qv v fun b => bif b then some (.int .i64 v8) else qfB L V (IntKind.wrap .i64 (v8 + 1))) else none else none else none else some (.int .i64 (- 1))) P) : Gets (qfB L V v8) P :=
  gE (fun _ => qt (cfg := cfg) (f := 61) (rd := none) (bs := 0)) (by kernel_rfl) h
theorem qjz (op : List UInt8) : (opsG op).length < 1099511627776 := by
 have : ∀ (l : List (List UInt8 × List Int)), (∀ p ∈ l, p.2.length ≤ 2) → (zu op [] l).length ≤ 2 := by
  intro l
  induction l with
  | nil => intro _; simp [zu]
  | cons p l ih =>
   intro h
   rw [zu]
   cases op == p.1
   ·exact ih fun q hq => h q (by simp [hq])
   ·exact h p (by simp)
 have := this qbS (by decide)
 unfold opsG
 omega
theorem qq0 {V : List Int} {l : List Tm} (hlen : l.length < 1099511627776) (ih : ∀ x ∈ l, EVs (EV cfg) 147 [x.av, .sl (qk V)] = some (.bool (isG V x))) :
  EVs (EV cfg) 202 [.sl (qa l), .sl (qk V)] = some (.bool (allG V l)) := by
 have hin : ∀ x ∈ l, EVs (EV cfg) 237 [x.av, .cptr [.sl (qk V)] 0] = some (.bool (!isG V x)) := by
  intro x hx
  have h := ih x hx
  apply Gets.get
  rw [Tm.av, Tm.cells_eq] at h ⊢
  refine qof _ _ _ _ _ ?_
  rw [h]; exact ⟨_, rfl, rfl⟩
 have loop : ∀ d i : Nat, i + d = l.length → Gets (qfB (qa l) (qk V) i) (fun v => ∃ j : Int, v = .int .i64 j ∧ (0 ≤ j ↔ allG V (l.drop i) = false)) := by
  intro d
  induction d with
  | zero =>
   intro i hi
   refine qeu _ _ _ ?_
   rw [qb, decide_eq_false (by omega)]
   refine ⟨_, rfl, -1, rfl, ?_⟩
   rw [List.drop_eq_nil_of_le (by omega)]
   simp [allG]
  | succ d ihd =>
   intro i hi
   have hil : i < l.length := by omega
   refine qeu _ _ _ ?_
   have hx : l[i]? = some l[i] := qsh hil
   have hd : l.drop i = l[i] :: l.drop (i + 1) := List.drop_eq_getElem_cons hil
   have h1 := hin l[i] (qss hx)
   have h2 := ihd (i + 1) (by omega)
   rw [qb, decide_eq_true (show (i : Int) < (l.length : Int) by omega), qA, qN, decide_eq_true hil, vS hx, qI hil hlen]
   simp only [cond_true, qsH, qx, qsJ, qG, qB, show qsw 4 4 = true from rfl, vr, h1, qf, qu]
   cases hg : isG V l[i] with
   | false =>
    refine ⟨_, rfl, i, rfl, ?_⟩
    rw [hd, allG, hg]
    exact ⟨fun _ => rfl, fun _ => by omega⟩
   | true =>
    refine h2.mono ?_
    rintro _ ⟨j, rfl, hj⟩
    refine ⟨j, rfl, ?_⟩
    rw [hd, allG, hg, qsL]; exact hj
 obtain ⟨_, h1, j, rfl, hj⟩ := loop l.length 0 (by omega)
 rw [List.drop_zero] at hj
 have h2 : EVs (EV cfg) 61 [.sl (qa l), .fn (.func 237) [] [.cptr [.sl (qk V)] 0]] = some (.int .i64 j) := by
  apply Gets.get
  exact qk6 _ _ ⟨_, h1, rfl⟩
 have h3 : EVs (EV cfg) 83 [.sl (qa l), .fn (.func 237) [] [.cptr [.sl (qk V)] 0]] = some (.bool (decide (j ≥ 0))) := by
  apply Gets.get
  refine qj8 _ _ ?_
  rw [h2]; exact ⟨_, rfl, rfl⟩
 apply Gets.get
 refine qjT _ _ ?_
 rw [h3]
 refine ⟨_, rfl, ?_⟩
 show AV.bool (!decide (j ≥ 0)) = _
 congr 1
 cases ha : allG V l with
 | false => rw [decide_eq_true (hj.2 ha)]; rfl
 | true =>
  have : ¬ j ≥ 0 := fun h => by have := hj.1 h; rw [ha] at this; cases this
  rw [decide_eq_false this]; rfl
theorem qr8 {V : List Int} (hV : V.length < 1099511627776) : ∀ (n : Nat) (t : Tm), t.w ≤ n → n < 1099511627776 → EVs (EV cfg) 147 [t.av, .sl (qk V)] = some (.bool (isG V t)) := by
 intro n
 induction n with
 | zero => intro t h; have := xf t; omega
 | succ n ih =>
  intro t hw hn
  have hwe := t.w_eq
  have hwl := xT t.subs
  have allOf : ∀ l : List Tm, wL l ≤ n → EVs (EV cfg) 202 [.sl (qa l), .sl (qk V)] = some (.bool (allG V l)) := fun l hl =>
   qq0 (by have := xT l; omega) fun x hx => ih x (by have := xS hx; omega) (by omega)
  have hvar := qhT (t := t) (by omega)
  have hsub := allOf t.subs (by omega)
  apply Gets.get
  rw [Tm.av, Tm.cells_eq] at hvar ⊢
  refine qk7 _ _ _ _ _ ?_
  rw [hvar, hsub]
  simp only [beqI, qf, qu]
  by_cases h2 : t.kind = 2
  ·rw [decide_eq_true h2, cond_true, qfe h2]
   simp only [varR, kTup, qn, qy, qu, kNil]
   cases hv : varT t with
   | none => exact ⟨_, rfl, rfl⟩
   | some x =>
    have hc := qeV V hV x
    simp only [Option.getD_some, Option.isSome_some, Bool.not_true, cond_false]
    rw [hc]; exact ⟨_, rfl, rfl⟩
  ·rw [decide_eq_false h2, cond_false]
   by_cases h9 : t.kind = 9
   ·rw [decide_eq_true h9, cond_true, qjQ h9]; exact ⟨_, rfl, rfl⟩
   ·rw [decide_eq_false h9, cond_false]
    by_cases h7 : t.kind = 7
    ·rw [decide_eq_true h7, cond_true]
     cases hl : t.subs with
     | nil => rw [qlD h7 hl]; exact ⟨_, rfl, rfl⟩
     | cons f r =>
      rw [qlC h7 hl]
      rw [hl] at hwl hwe
      rw [qW] at hwe
      have hfw := f.w_eq
      have hfs := allOf f.subs (by omega)
      have hr := allOf r (by omega)
      have c0 : (decide (((qa (f :: r)).length : Int) = 0)) = false := by rw [qb]; exact decide_eq_false (by simp; omega)
      have c1 : qo 0 ((qa (f :: r)).length : Int) = true := by rw [qb]; exact decide_eq_true (by simp)
      have c2 : qh 1 ((qa (f :: r)).length : Int) = true := by rw [qb]; exact decide_eq_true (by simp; omega)
      have g0 : (qa (f :: r))[(0 : Int).toNat]? = some f.cells := by rw [qD]; rfl
      have tk : qsr ((qa (f :: r)).length - 1) (List.drop 1 (qa (f :: r))) = qa r := by
       rw [qD, List.drop_succ_cons, List.drop_zero, List.length_cons, Nat.add_sub_cancel, List.take_length]
      have g0' : (qa (f :: r))[0]? = some f.cells := g0
      rw [c0, c1, c2, tk]
      simp only [cond_false, cond_true, qq, g0, g0', qf, qx, qsJ, show qsw 4 4 = true from rfl, qG, qB, qaT, qb, beqS]
      by_cases f7 : f.kind = 7
      ·rw [if_pos f7, decide_eq_true f7, cond_true, hfs]
       by_cases hrl : r.length = 0
       ·have : decide ((r.length : Int) = 0) = true := decide_eq_true (by omega)
        rw [this, decide_eq_true hrl]; exact ⟨_, rfl, rfl⟩
       ·have : decide ((r.length : Int) = 0) = false := decide_eq_false (by omega)
        rw [this, decide_eq_false hrl]; exact ⟨_, rfl, rfl⟩
      ·rw [if_neg f7, decide_eq_false f7, cond_false]
       by_cases f2 : f.kind = 2
       ·have : (f.kind != 2) = false := by rw [f2]; rfl
        rw [if_pos f2, this, cond_false]
        by_cases hc : f.str = [99, 111, 110, 115, 116]
        ·rw [if_pos hc, decide_eq_true hc]
         refine ⟨_, rfl, ?_⟩
         show AV.bool (decide ((r.length : Int) = 1)) = _
         congr 1
         exact decide_eq_decide.2 (by omega)
        ·rw [if_neg hc, decide_eq_false hc, cond_false, qqQ]
         have hcn := qeV (opsG f.str) (qjz f.str) (r.length : Int)
         simp only [qf, yn, hcn, qu, hr]
         cases decide ((r.length : Int) ∈ opsG f.str) <;> exact ⟨_, rfl, rfl⟩
       ·have : (f.kind != 2) = true := by simpa using f2
        rw [if_neg f2, this]; exact ⟨_, rfl, rfl⟩
    ·rw [decide_eq_false h7, qhZ h2 h9 h7]; exact ⟨_, rfl, rfl⟩
theorem qcO {V : List Int} (hV : V.length < 1099511627776) {t : Tm} (h : t.w < 1099511627776) : EVs (EV cfg) 90 [t.av, .sl (qk V)] = some (.int .i64 (xq V t)) := by
 have hc := qcC h
 have hi := qr8 hV t.w t (qso _) h
 apply Gets.get
 rw [Tm.av, Tm.cells_eq] at hc hi ⊢
 refine qhu _ _ _ _ _ ?_
 rw [hc, hi]
 unfold xq
 simp only [qf, qy, qu]
 by_cases h0 : t.chk = 0
 ·have : (t.chk != 0) = false := by rw [h0]; rfl
  rw [this, if_pos h0]
  cases isG V t <;> exact ⟨_, rfl, rfl⟩
 ·have : (t.chk != 0) = true := by simpa using h0
  rw [this, if_neg h0]; exact ⟨_, rfl, rfl⟩
theorem qnB (op : List UInt8) (n : Int) : EVs (EV cfg) 206 [.str op, .int .i64 n] = some (.bool (decide (n ∈ opsG op))) := by
 have hl := qjz op
 have loop : ∀ d i : Nat, i + d = (opsG op).length → Gets (qfx n (qk (opsG op)) i) (· = .bool (decide (n ∈ (opsG op).drop i))) := by
  generalize opsG op = l at hl
  intro d
  induction d with
  | zero =>
   intro i hi
   refine qeo _ _ _ ?_
   rw [qX, decide_eq_false (by omega), List.drop_eq_nil_of_le (by omega)]
   exact ⟨_, rfl, by simp⟩
  | succ d ih =>
   intro i hi
   have hil : i < l.length := by omega
   refine qeo _ _ _ ?_
   have hx : l[i]? = some l[i] := qsh hil
   have hd : l.drop i = l[i] :: l.drop (i + 1) := List.drop_eq_getElem_cons hil
   have h := ih (i + 1) (by omega)
   rw [qX, decide_eq_true (show (i : Int) < (l.length : Int) by omega), qA, qN, decide_eq_true hil, qq, qsE, z8, hx, qI hil hl, hd]
   by_cases he : l[i] = n
   ·refine ⟨.bool true, ?_, ?_⟩
    ·simp [he]
    ·rw [he]; simp
   ·have hne : (l[i] == n) = false := by rw [beqI]; exact decide_eq_false he
    have hm : decide (n ∈ l[i] :: l.drop (i + 1)) = decide (n ∈ l.drop (i + 1)) := decide_eq_decide.2 (by rw [qsI]; exact ⟨fun h => h.resolve_left (fun e => he e.symm), Or.inr⟩)
    rw [hm]
    simpa [hne] using h
 apply Gets.get
 refine qmd _ _ ?_
 rw [qnA]
 exact (by simpa using loop (opsG op).length 0 (by omega))
theorem qe1 {k n : Int} {s : List UInt8} {l : List (List AV)} {b : UInt8} {v : Int} {i : Nat} {P : AV → Prop} (hv : 0 ≤ v ∧ v ≤ 9) (hl : s.length ≤ 3) (hb : s[i]? = some b)
  (h : Gets (match vR b with | none => some (AV.tup [.int .i64 0, .bool false]) | some x => z2 (v * 10 + x) ((i + 1 : Nat) : Int) k n s l) P) : Gets (z2 v i k n s l) P := by
 have hi : i < s.length := (qsi.1 hb).1
 refine qer _ _ _ _ _ _ ?_
 have hbl := b.toNat_lt
 rw [decide_eq_true (show (i : Int) < (s.length : Int) by omega), qA]
 simp only [cond_true, qq, qsE, hb, qf]
 unfold vR at h
 by_cases h1 : b.toNat < 48
 ·rw [if_pos h1] at h
  rw [decide_eq_true (show (b.toNat : Int) < 48 by omega)]; exact h
 ·rw [if_neg h1] at h
  rw [decide_eq_false (show ¬ (b.toNat : Int) < 48 by omega), cond_false]
  by_cases h2 : b.toNat > 57
  ·rw [if_pos h2] at h
   rw [decide_eq_true (show (b.toNat : Int) > 57 by omega)]; exact h
  ·rw [if_neg h2] at h
   rw [decide_eq_false (show ¬ (b.toNat : Int) > 57 by omega), cond_false]
   have w1 : IntKind.wrap .i64 (10 * v) = v * 10 := by rw [vm (by omega) (by omega)]; omega
   have w2 : IntKind.wrap .u8 ((b.toNat : Int) - 48) = (b.toNat : Int) - 48 := by
    simp [IntKind.wrap, IntKind.bits, IntKind.signed]; omega
   have w3 : IntKind.wrap .i64 ((b.toNat : Int) - 48) = (b.toNat : Int) - 48 := vm (by omega) (by omega)
   have w4 : IntKind.wrap .i64 (v * 10 + ((b.toNat : Int) - 48)) = v * 10 + ((b.toNat : Int) - 48) := vm (by omega) (by omega)
   have w5 : IntKind.wrap .i64 ((i : Int) + 1) = ((i + 1 : Nat) : Int) := qI (n := 3) (by omega) (by omega)
   rw [w1, w2, w3, w4, w5]
   exact h
theorem qlu {k n : Int} {s : List UInt8} {l : List (List AV)} {v : Int} {i : Nat} (hi : i = s.length) : Gets (z2 v i k n s l) (· = .tup [.int .i64 v, .bool true]) := by
 refine qer _ _ _ _ _ _ ?_
 rw [decide_eq_false (by omega)]
 exact ⟨_, rfl, rfl⟩
theorem qdg {t : Tm} (h : t.w < 1099511627776) : EVs (EV cfg) 152 [t.av] = some (varR (varT t)) := by
 have hc := ys h
 apply Gets.get
 rw [Tm.av, Tm.cells_eq] at hc ⊢
 refine qmi _ _ _ _ ?_
 rw [hc]
 unfold varT
 simp only [qf, qy]
 by_cases h2 : t.chk = 0
 ·have e0 : (t.chk != 0) = false := by rw [h2]; rfl
  rw [e0, cond_false]
  by_cases h1 : t.kind = 2
  ·have e1 : (t.kind != 2) = false := by rw [h1]; rfl
   rw [e1, cond_false, if_pos ⟨h1, h2⟩]
   generalize t.str = s
   generalize t.kind = k
   generalize t.num = n
   generalize qa t.subs = l
   match s with
   | [] => exact ⟨_, rfl, rfl⟩
   | [a] => exact ⟨_, rfl, rfl⟩
   | a :: b :: c :: d :: l =>
    have h1 : ¬ ((a :: b :: c :: d :: l).length : Int) < 2 := by simp; omega
    have h2 : ((a :: b :: c :: d :: l).length : Int) > 3 := by simp; omega
    rw [decide_eq_false h1, decide_eq_true h2]
    exact ⟨_, rfl, rfl⟩
   | [a, b] =>
    by_cases h : a.toNat = 36
    ·have e : (((a.toNat : Int)) != 36) = false := by rw [h]; rfl
     have hs := qe1 (k := k) (n := n) (l := l) (s := [a, b]) (b := b) (v := 0) (i := 1) (P := (· = varR (varG [a, b]))) (by omega) (by simp) rfl (by
      rw [qiN, if_pos h]
      cases hd : vR b with
      | none => exact ⟨_, rfl, rfl⟩
      | some x =>
       refine (qlu (s := [a, b]) rfl).mono ?_
       rintro _ rfl
       show _ = varR (some x)
       simp [varR])
     show Gets (bif (((a.toNat : Int)) != 36) then _ else _) _
     rw [e]
     exact hs
    ·have e : (((a.toNat : Int)) != 36) = true := by simpa using fun h' => h (by omega)
     show Gets (bif (((a.toNat : Int)) != 36) then _ else _) _
     rw [e]
     refine ⟨_, rfl, ?_⟩
     rw [qiN, if_neg h]; rfl
   | [a, b, c] =>
    by_cases h : a.toNat = 36
    ·have e : (((a.toNat : Int)) != 36) = false := by rw [h]; rfl
     show Gets (bif (((a.toNat : Int)) != 36) then _ else bif (((b.toNat : Int)) == 48) then _ else _) _
     rw [e]
     by_cases hb : b.toNat = 48
     ·have e2 : (((b.toNat : Int)) == 48) = true := by rw [hb]; rfl
      rw [e2]
      refine ⟨_, rfl, ?_⟩
      rw [qd1, if_neg (fun h => h.2 hb)]; rfl
     ·have e2 : (((b.toNat : Int)) == 48) = false := by simpa using fun h' => hb (by omega)
      rw [e2]
      show Gets (z2 0 1 k n [a, b, c] l) _
      refine qe1 (s := [a, b, c]) (b := b) (v := 0) (i := 1) (by omega) (by simp) rfl ?_
      rw [qd1, if_pos ⟨h, hb⟩]
      cases hd : vR b with
      | none => exact ⟨_, rfl, rfl⟩
      | some x =>
       have hx := qab hd
       refine qe1 (s := [a, b, c]) (b := c) (i := 2) (by omega) (by simp) rfl ?_
       cases hd2 : vR c with
       | none => exact ⟨_, rfl, by simp [varR, hd2]⟩
       | some y =>
        refine (qlu (s := [a, b, c]) rfl).mono ?_
        rintro _ rfl
        simp [varR, hd2]
    ·have e : (((a.toNat : Int)) != 36) = true := by simpa using fun h' => h (by omega)
     show Gets (bif (((a.toNat : Int)) != 36) then _ else _) _
     rw [e]
     refine ⟨_, rfl, ?_⟩
     rw [qd1, if_neg (fun h' => h h'.1)]; rfl
  ·have e1 : (t.kind != 2) = true := by simpa using h1
   rw [e1, if_neg (fun h => h1 h.1)]
   exact ⟨_, rfl, rfl⟩
 ·have e0 : (t.chk != 0) = true := by simpa using h2
  rw [e0, if_neg (fun h => h2 h.2)]
  exact ⟨_, rfl, rfl⟩
theorem qnE {V : List Int} {l : List Tm} (hlen : l.length < 1099511627776) (ih : ∀ x ∈ l, EVs (EV cfg) 151 [x.av, .sl (qk V)] = some (.bool (isG V x))) :
  EVs (EV cfg) 205 [.sl (qa l), .sl (qk V)] = some (.bool (allG V l)) := by
 have loop : ∀ d i : Nat, i + d = l.length → Gets (qfy (qa l) (qk V) i) (· = .bool (allG V (l.drop i))) := by
  intro d
  induction d with
  | zero =>
   intro i hi
   refine qep _ _ _ ?_
   rw [qb, decide_eq_false (by omega), List.drop_eq_nil_of_le (by omega)]
   exact ⟨_, rfl, by rw [allG]⟩
  | succ d ihd =>
   intro i hi
   have hil : i < l.length := by omega
   refine qep _ _ _ ?_
   have hx : l[i]? = some l[i] := qsh hil
   have hd : l.drop i = l[i] :: l.drop (i + 1) := List.drop_eq_getElem_cons hil
   have h1 := ih l[i] (qss hx)
   have h2 := ihd (i + 1) (by omega)
   rw [qb, decide_eq_true (show (i : Int) < (l.length : Int) by omega), qA, qN, decide_eq_true hil, vS hx, qI hil hlen, hd, allG]
   simp only [cond_true, qsH, qx, qsJ, qG, qB, show qsw 4 4 = true from rfl, vr, h1, qf, qu]
   cases hg : isG V l[i] with
   | false => exact ⟨_, rfl, rfl⟩
   | true => rw [qsL]; exact h2
 apply Gets.get
 exact qme _ _ (by simpa using loop l.length 0 (by omega))
theorem qoN {V : List Int} (hV : V.length < 1099511627776) : ∀ (n : Nat) (t : Tm), t.w ≤ n → n < 1099511627776 → EVs (EV cfg) 151 [t.av, .sl (qk V)] = some (.bool (isG V t)) := by
 intro n
 induction n with
 | zero => intro t h; have := xf t; omega
 | succ n ih =>
  intro t hw hn
  have hwe := t.w_eq
  have hwl := xT t.subs
  have allOf : ∀ l : List Tm, wL l ≤ n → EVs (EV cfg) 205 [.sl (qa l), .sl (qk V)] = some (.bool (allG V l)) := fun l hl =>
   qnE (by have := xT l; omega) fun x hx => ih x (by have := xS hx; omega) (by omega)
  have hvar := qdg (t := t) (by omega)
  have hsub := allOf t.subs (by omega)
  apply Gets.get
  rw [Tm.av, Tm.cells_eq] at hvar ⊢
  refine qnC _ _ _ _ _ ?_
  rw [hvar, hsub]
  simp only [beqI, qf, qu]
  simp only [varR, kTup, qn, qy, qu, kNil]
  cases hv : varT t with
  | some x =>
   have h2 : t.kind = 2 := by
    unfold varT at hv
    split at hv
    ·rename_i h; exact h.1
    ·cases hv
   have hc := qoO V hV x
   simp only [Option.getD_some, Option.isSome_some, cond_true]
   rw [hc, qfe h2, hv]; exact ⟨_, rfl, rfl⟩
  | none =>
   simp only [Option.isSome_none, cond_false]
   by_cases h9 : t.kind = 9
   ·rw [decide_eq_true h9, cond_true, qjQ h9]; exact ⟨_, rfl, rfl⟩
   ·rw [decide_eq_false h9, cond_false]
    by_cases h7 : t.kind = 7
    ·have e7 : (t.kind != 7) = false := by rw [h7]; rfl
     rw [e7, cond_false]
     cases hl : t.subs with
     | nil => rw [qlD h7 hl]; exact ⟨_, rfl, rfl⟩
     | cons f r =>
      rw [qlC h7 hl]
      rw [hl] at hwl hwe
      rw [qW] at hwe
      have hfw := f.w_eq
      have hfs := allOf f.subs (by omega)
      have hr := allOf r (by omega)
      have hrl := xT r
      have c0 : (decide (((qa (f :: r)).length : Int) = 0)) = false := by rw [qb]; exact decide_eq_false (by simp; omega)
      have c1 : qo 0 ((qa (f :: r)).length : Int) = true := by rw [qb]; exact decide_eq_true (by simp)
      have c2 : qh 1 ((qa (f :: r)).length : Int) = true := by rw [qb]; exact decide_eq_true (by simp; omega)
      have c3 : IntKind.wrap .i64 (((qa (f :: r)).length : Int) - 1) = (r.length : Int) := by
       rw [qb, List.length_cons, vm (by omega) (by omega)]; omega
      have c4 : (decide (((qa (f :: r)).length : Int) = 1)) = decide (r.length = 0) := by rw [qb, List.length_cons]; exact decide_eq_decide.2 (by omega)
      have c5 : (decide (((qa (f :: r)).length : Int) = 2)) = decide (r.length = 1) := by rw [qb, List.length_cons]; exact decide_eq_decide.2 (by omega)
      have g0 : (qa (f :: r))[(0 : Int).toNat]? = some f.cells := by rw [qD]; rfl
      have g0' : (qa (f :: r))[0]? = some f.cells := g0
      have tk : qsr ((qa (f :: r)).length - 1) (List.drop 1 (qa (f :: r))) = qa r := by
       rw [qD, List.drop_succ_cons, List.drop_zero, List.length_cons, Nat.add_sub_cancel, List.take_length]
      have hm := qnB f.str (r.length : Int)
      rw [c0, c1, c2, c3, c4, c5, tk]
      simp only [cond_false, cond_true, qq, g0, g0', qf, qx, qsJ, show qsw 4 4 = true from rfl, qG, qB, qaT, beqS, hm, hfs, hr, qu]
      by_cases f7 : f.kind = 7
      ·have f2 : (f.kind != 2) = true := by rw [f7]; rfl
       rw [if_pos f7, decide_eq_true f7, f2]
       cases decide (r.length = 0) <;> exact ⟨_, rfl, rfl⟩
      ·rw [if_neg f7, decide_eq_false f7, cond_false]
       by_cases f2 : f.kind = 2
       ·have e2 : (f.kind != 2) = false := by rw [f2]; rfl
        rw [if_pos f2, e2, cond_false]
        by_cases hc : f.str = [99, 111, 110, 115, 116]
        ·rw [if_pos hc, decide_eq_true hc]
         cases decide (r.length = 0) <;> exact ⟨_, rfl, rfl⟩
        ·rw [if_neg hc, decide_eq_false hc, cond_false]
         cases decide (r.length = 0) <;> cases decide ((r.length : Int) ∈ opsG f.str) <;> exact ⟨_, rfl, rfl⟩
       ·have e2 : (f.kind != 2) = true := by simpa using f2
        rw [if_neg f2, e2]
        cases decide (r.length = 0) <;> exact ⟨_, rfl, rfl⟩
    ·have e7 : (t.kind != 7) = true := by simpa using h7
     rw [e7]
     by_cases h2 : t.kind = 2
     ·rw [qfe h2, hv]; exact ⟨_, rfl, rfl⟩
     ·rw [qhZ h2 h9 h7]; exact ⟨_, rfl, rfl⟩
theorem qkL {V : List Int} (hV : V.length < 1099511627776) {t : Tm} (h : t.w < 1099511627776) : EVs (EV cfg) 92 [t.av, .sl (qk V)] = some (.int .i64 (xq V t)) := by
 have hc := ys h
 have hi := qoN hV t.w t (qso _) h
 apply Gets.get
 rw [Tm.av, Tm.cells_eq] at hc hi ⊢
 refine qjt _ _ _ _ _ ?_
 rw [hc, hi]
 unfold xq
 simp only [qf, qy, qu]
 by_cases h0 : t.chk = 0
 ·have : (t.chk != 0) = false := by rw [h0]; rfl
  rw [this, if_pos h0]
  cases isG V t <;> exact ⟨_, rfl, rfl⟩
 ·have : (t.chk != 0) = true := by simpa using h0
  rw [this, if_neg h0]; exact ⟨_, rfl, rfl⟩
end Go.Proofs.YtjiecipfkjaooaaGreat
end
section
namespace Go.Av
theorem zh {t : Tm} : t.chk = 0 ↔ t.parts = true ∧ t.words ≤ 65536 := by
 unfold Tm.chk chkS
 simp only [qU, qF, Bool.and_true, Nat.zero_add, Nat.add_zero]
 cases h : t.parts with
 | false => simp
 | true =>
  simp
theorem qoB (l : List Tm) (h : ∀ x ∈ l, x.parts = true → x.w ≤ 65 * x.words) : qU l = true → wL l ≤ 65 * qF l := by
 induction l with
 | nil => intro _; simp
 | cons x l ih =>
  intro hp
  rw [qU, qsm] at hp
  have h1 := h x (by simp) hp.1
  have h2 := ih (fun y hy => h y (by simp [hy])) hp.2
  rw [qW, qF]; omega
theorem qhJ {k n : Int} {s : List UInt8} {m : Nat} (h : yG k n s m = true) : s.length ≤ 64 ∧ m ≤ 64 := by
 unfold yG at h
 repeat' split at h
 all_goals simp at h
 all_goals first | (obtain ⟨_, _, h3, h4⟩ := h; subst h3; simp; omega) | (obtain ⟨_, h3, h4⟩ := h; subst h3; simp; omega) | omega
theorem qpO (t : Tm) : t.parts = true → t.w ≤ 65 * t.words := by
 induction t using Tm.ind with
 | _ k n s l ih =>
  intro hp
  rw [Tm.parts, qsm] at hp
  have h1 := qhJ hp.1
  have h2 := qoB l ih hp.2
  have h3 := (Tm.mk k n s l).own_le
  rw [Tm.w_mk, Tm.words]; omega
theorem yy {t : Tm} (h : t.chk = 0) : t.w ≤ 4259840 := by
 obtain ⟨h1, h2⟩ := zh.1 h
 have := qpO t h1
 omega
theorem qoF {t : Tm} (h : t.chk = 0) : t.subs.length ≤ 64 := by
 obtain ⟨h1, _⟩ := zh.1 h
 rw [Tm.parts_eq, qsm] at h1
 exact (qhJ h1.1).2
theorem qfE {x : Tm} {l : List Tm} (h : x ∈ l) : x.words ≤ qF l := by
 induction l with
 | nil => cases h
 | cons y l ih =>
  rw [qF]
  rcases qsI.1 h with rfl | h
  ·omega
  ·have := ih h; omega
theorem qay {l : List Tm} (h : qU l = true) : ∀ x ∈ l, x.parts = true := by
 induction l with
 | nil => intro x hx; cases hx
 | cons y l ih =>
  intro x hx
  rw [qU, qsm] at h
  rcases qsI.1 hx with rfl | hx
  ·exact h.1
  ·exact ih h.2 x hx
theorem vB {t x : Tm} (h : t.chk = 0) (hx : x ∈ t.subs) : x.chk = 0 := by
 obtain ⟨h1, h2⟩ := zh.1 h
 rw [Tm.parts_eq, qsm] at h1
 have := qfE hx
 rw [Tm.words_eq] at h2
 exact zh.2 ⟨qay h1.2 x hx, by omega⟩
theorem zR {t : Tm} (h : t.chk = 0) (hk : t.kind = 9) : ∃ a b, t.subs = [a, b] := by
 obtain ⟨h1, _⟩ := zh.1 h
 rw [Tm.parts_eq, qsm] at h1
 have h2 : yG t.kind t.num t.str t.subs.length = true := h1.1
 rw [hk] at h2
 simp [yG] at h2
 match hl : t.subs, h2.2.2 with
 | [a, b], _ => exact ⟨a, b, rfl⟩
def vN (l : List Tm) : Tm := l.foldr (fun x e => .mk 9 0 [] [x, e]) (.mk 8 0 [] [])
structure EnvOk (e : Env) : Prop where
 obj : e.obj.chk = 0
 may : mayB (-1) e.binds = true
 self : qr2 e.self = true
theorem qjB : ∀ {l : List (Int × Tm)} {last : Int}, mayB last l = true → (l.length : Int) ≤ max 0 (99 - last)
 | [], _, _ => by simp; omega
 | p :: l, last, h => by
  simp only [mayB, qsm, decide_eq_true_eq] at h
  have := qjB h.2.2.2
  simp only [List.length_cons]
  omega
theorem EnvOk.len {e : Env} (h : EnvOk e) : e.binds.length ≤ 100 := by have := qjB h.may; omega
def zD : Nat → Tm → List Tm × Bool
 | 0, _ => ([], false)
 | n + 1, t => if t.kind = 9 then (match t.subs with | [a, b] => (a :: (zD n b).1, (zD n b).2) | _ => ([], false)) else ([], decide (t.kind = 8))
def qm (t : Tm) : List Tm × Bool := zD t.w t
theorem qk4 : ∀ (n m : Nat) (t : Tm), t.w ≤ n → t.w ≤ m → zD n t = zD m t := by
 intro n
 induction n with
 | zero => intro m t h; have := xf t; omega
 | succ n ih =>
  intro m t hn hm
  obtain ⟨m, rfl⟩ : ∃ k, m = k + 1 := ⟨m - 1, by have := xf t; omega⟩
  rw [zD, zD]
  by_cases h9 : t.kind = 9
  ·rw [if_pos h9, if_pos h9]
   have hw := t.w_eq
   cases hs : t.subs with
   | nil => rfl
   | cons a l =>
    cases l with
    | nil => rfl
    | cons b l =>
     cases l with
     | nil =>
      rw [hs] at hw
      simp only [qW, vP] at hw
      simp only []
      rw [ih m b (by omega) (by omega)]
     | cons c l => rfl
  ·rw [if_neg h9, if_neg h9]
theorem vK {t a b : Tm} (hk : t.kind = 9) (hs : t.subs = [a, b]) : qm t = (a :: (qm b).1, (qm b).2) := by
 have hw := t.w_eq
 rw [hs] at hw
 simp only [qW, vP] at hw
 unfold qm
 obtain ⟨n, hn⟩ : ∃ n, t.w = n + 1 := ⟨t.w - 1, by have := xf t; omega⟩
 rw [hn, zD, if_pos hk, hs]
 simp only []
 rw [qk4 n b.w b (by omega) (qso _)]
theorem xE {t : Tm} (hk : t.kind ≠ 9) : qm t = ([], decide (t.kind = 8)) := by
 unfold qm
 obtain ⟨n, hn⟩ : ∃ n, t.w = n + 1 := ⟨t.w - 1, by have := xf t; omega⟩
 rw [hn, zD, if_neg hk]
theorem zV : ∀ l : List Tm, qm (vN l) = (l, true)
 | [] => xE (by decide)
 | x :: l => by
  rw [vK (a := x) (b := vN l) rfl rfl, zV l]
theorem qpg {P : Tm → Prop} (h9 : ∀ t a b, t.kind = 9 → t.subs = [a, b] → t.chk = 0 → P b → P t) (h0 : ∀ t, t.kind ≠ 9 → t.chk = 0 → P t) : ∀ (n : Nat) (t : Tm), t.w ≤ n → t.chk = 0 → P t := by
 intro n
 induction n with
 | zero => intro t h; have := xf t; omega
 | succ n ih =>
  intro t hw hc
  by_cases hk : t.kind = 9
  ·obtain ⟨a, b, hs⟩ := zR hc hk
   have hwe := t.w_eq
   rw [hs] at hwe
   simp only [qW, vP] at hwe
   exact h9 t a b hk hs hc (ih b (by omega) (vB hc (by rw [hs]; simp)))
  ·exact h0 t hk hc
theorem qlH {P : Tm → Prop} (t : Tm) (hc : t.chk = 0) (h9 : ∀ t a b, t.kind = 9 → t.subs = [a, b] → t.chk = 0 → P b → P t) (h0 : ∀ t, t.kind ≠ 9 → t.chk = 0 → P t) : P t := qpg h9 h0 t.w t (qso _) hc
theorem qaE {t : Tm} (hc : t.chk = 0) : ∀ x ∈ (qm t).1, x.chk = 0 := by
 refine qlH (P := fun t => ∀ x ∈ (qm t).1, x.chk = 0) t hc (fun t a b hk hs hc ih => ?_) (fun t hk hc => ?_)
 ·rw [vK hk hs]
  intro x hx
  rcases qsI.1 hx with rfl | hx
  ·exact vB hc (by rw [hs]; simp)
  ·exact ih x hx
 ·rw [xE hk]
  intro x hx
  cases hx
theorem yf {t : Tm} (hc : t.chk = 0) : wL (qm t).1 + (qm t).1.length ≤ t.w := by
 refine qlH (P := fun t => wL (qm t).1 + (qm t).1.length ≤ t.w) t hc (fun t a b hk hs hc ih => ?_) (fun t hk hc => ?_)
 ·rw [vK hk hs, t.w_eq, hs]
  simp only [qW, vP, List.length_cons]
  omega
 ·rw [xE hk]
  simp
def anyT (p : Tm) : Bool := decide (p.kind = 2) && (decide (p.str = [95]) && decide (p.chk = 0))
def zE (p : Tm) : Bool := (varT p).isSome || (decide (p.kind = 7) || anyT p)
mutual
/-- does a variable stand in a pattern? -/
def vn (n : Int) : Tm → Bool
 | .mk k _ s l => if k = 7 ∨ k = 9 then qfM n l else decide (k = 2) && decide (varG s = some n)
def qfM (n : Int) : List Tm → Bool
 | [] => false
 | t :: l => vn n t || qfM n l
end
theorem qfL (n : Int) : ∀ l : List Tm, qfM n l = l.any (vn n)
 | [] => rfl
 | t :: l => by rw [qfM, qfL n l]; rfl
theorem yc (n : Int) (t : Tm) : vn n t = if t.kind = 7 ∨ t.kind = 9 then t.subs.any (vn n) else decide (t.kind = 2) && decide (varG t.str = some n) := by
 obtain ⟨k, m, s, l⟩ := t
 rw [vn, qfL]; rfl
def vU (p : Tm) : List Int := if p.chk = 0 then ((qsM 100).filter fun n => vn (n : Nat) p).map Int.ofNat else []
structure Cl where
 head : Tm
 gs : List Tm
 bs : List Tm
 deriving Inhabited
def Cl.cells (c : Cl) : List AV := [.int .i64 c.head.kind, .int .i64 c.head.num, .str c.head.str, .sl (qa c.head.subs), .sl (qa c.gs), .sl (qa c.bs)]
def Cl.av (c : Cl) : AV := .agg c.cells
def qz (l : List Cl) : List (List AV) := l.map Cl.cells
def qb7 : Cl := ⟨qps, [], []⟩
theorem vC (l : List Cl) : (qz l).length = l.length := by simp [qz]
theorem qda (l : List Cl) (i : Nat) : (qz l)[i]? = (l[i]?).map Cl.cells := by simp [qz]
theorem qaU (a b : List Cl) : qz (a ++ b) = qz a ++ qz b := by simp [qz]
theorem qnx (c : Cl) : qz [c] = [c.cells] := rfl
theorem qnw (l : List Cl) (i : Nat) (c : Cl) : (qz l).set i c.cells = qz (l.set i c) := by simp [qz, List.map_set]
def vj (t : Tm) : Option Cl :=
 if t.kind = 7 then (match t.subs with
  | [h, g, b] => if zE h && ((qm g).2 && ((qm b).2 && !(qm b).1.isEmpty)) && ((qm g).1.all (fun e => decide (xq (vU h) e = 0)) && (qm b).1.all (fun e => decide (xq (vU h) e = 0))) then some ⟨h, (qm g).1, (qm b).1⟩ else none
  | _ => none)
 else none
def seqC : List Tm → Option (List Cl)
 | [] => some []
 | t :: l => (vj t).bind fun c => (seqC l).map (c :: ·)
def clsG (t : Tm) : List Cl × Int :=
 if t.chk = 0 then (match seqC (qm t).1 with
  | some l => if (qm t).2 && !l.isEmpty then (l, 0) else ([], 10)
  | none => ([], 10))
 else ([], 2)
theorem qe4 : ∀ {l : List Tm} {cs : List Cl}, seqC l = some cs → cs.length = l.length
 | [], cs, h => by cases h; rfl
 | t :: l, cs, h => by
  rw [seqC] at h
  obtain ⟨c, _, h⟩ := qsj.1 h
  obtain ⟨r, hr, rfl⟩ := qsl.1 h
  simp [qe4 hr]
noncomputable instance tmEq : DecidableEq Tm := fun _ _ => Classical.propDecidable _
def clT (c : Cl) : Tm := tupT [c.head, vN c.gs, vN c.bs]
def selT (l : List Cl) : Tm := vN (l.map clT)
def ofG (l : List Cl) : Tm × Int := if (clsG (selT l)).2 = 0 then (selT l, 0) else (qps, (clsG (selT l)).2)
def setL (q : Nat → Bool) : List Int := ((qsM 100).filter q).map Int.ofNat
theorem qfR (q : Nat → Bool) : setL q = ((List.range' 0 100).filter q).map Int.ofNat := by unfold setL; rw [List.range_eq_range']
theorem qoJ (q : Nat → Bool) : (setL q).length ≤ 100 := by
 unfold setL
 rw [List.length_map]
 exact Nat.le_trans (List.length_filter_le _ _) (by simp)
theorem qnj (p : Tm) : vU p = if p.chk = 0 then setL (fun n => vn (n : Nat) p) else [] := rfl
def insL : List Int → Int → List Int
 | [], n => [n]
 | x :: l, n => if x < n then x :: insL l n else if x = n then x :: l else n :: x :: l
theorem qo2 (A : List Int) (B : List Int) (n : Int) (h : ∀ a ∈ A, a < n) : insL (A ++ B) n = A ++ insL B n := by
 induction A with
 | nil => rfl
 | cons a A ih =>
  rw [List.cons_append, insL, if_pos (h a (by simp)), ih (fun x hx => h x (by simp [hx]))]; rfl
theorem qp2 (B : List Int) (n : Int) (h : ∀ b ∈ B, n < b) : insL B n = n :: B := by
 cases B with
 | nil => rfl
 | cons b B =>
  have := h b (by simp)
  rw [insL, if_neg (by omega), if_neg (by omega)]
theorem qk5 (q : Nat → Bool) (n : Nat) : ∀ d a : Nat, a ≤ n → n < a + d → insL (((List.range' a d).filter q).map Int.ofNat) (n : Int) = ((List.range' a d).filter fun m => q m || decide (m = n)).map Int.ofNat := by
 intro d
 induction d with
 | zero => intro a h1 h2; omega
 | succ d ih =>
  intro a h1 h2
  rw [List.range'_succ]
  by_cases ha : a = n
  ·subst ha
   have hgt : ∀ b ∈ ((List.range' (a + 1) d).filter q).map Int.ofNat, (a : Int) < b := by
    intro b hb
    obtain ⟨m, hm, rfl⟩ := List.mem_map.1 hb
    have := (List.mem_range'_1.1 (List.mem_filter.1 hm).1).1
    show (a : Int) < (m : Int)
    omega
   have hc : (List.range' (a + 1) d).filter (fun m => q m || decide (m = a)) = (List.range' (a + 1) d).filter q := by
    refine List.filter_congr fun m hm => ?_
    have := (List.mem_range'_1.1 hm).1
    rw [decide_eq_false (by omega), Bool.or_false]
   rw [List.filter_cons_of_pos (p := fun m => q m || decide (m = a)) (by simp), hc]
   cases hq : q a with
   | true =>
    rw [List.filter_cons_of_pos hq, List.map_cons, insL, if_neg (by simp), if_pos (show Int.ofNat a = (a : Int) from rfl)]
   | false =>
    rw [List.filter_cons_of_neg (by simp [hq]), qp2 _ _ hgt]; rfl
  ·have h := ih (a + 1) (by omega) (by omega)
   cases hq : q a with
   | true =>
    rw [List.filter_cons_of_pos hq, List.filter_cons_of_pos (p := fun m => q m || decide (m = n)) (by simp [hq]), List.map_cons, List.map_cons, insL, if_pos (by show (a : Int) < (n : Int); omega), h]
   | false =>
    rw [List.filter_cons_of_neg (by simp [hq]), List.filter_cons_of_neg (p := fun m => q m || decide (m = n)) (by simp [hq, ha]), h]
theorem qo1 (q : Nat → Bool) {n : Nat} (h : n < 100) : insL (setL q) (n : Int) = setL fun m => q m || decide (m = n) := by
 rw [qfR, qfR]
 exact qk5 q n 100 0 (by omega) (by omega)
theorem qkE (l : List Int) : vE 1 (qk l) = true := by cases l <;> rfl
theorem qgx (l : List Int) (n : Nat) : (qk l).take n = qk (l.take n) := by simp [qk, List.map_take]
theorem qmR (l : List Int) (n : Nat) : (qk l).drop n = qk (l.drop n) := by simp [qk, List.map_drop]
theorem qh0 (a b : List Int) : qk a ++ qk b = qk (a ++ b) := by simp [qk]
theorem qgI {n : Nat} (h : n ≤ 1099511627776) : qO n 8 = true := by
 unfold qO; rw [qsm, qsF, qsF]; omega
end Go.Av
namespace Go.Proofs.YtjiecipfkjaooaaGreat
open Go.Av
theorem qmg {l : List Int} (hl : l.length < 1000000) (n : Int) : EVf (EV cfg) 231 [.sl (qk l), .int .i64 n] = some (.sl (qk (insL l n))) := by
 -- put in at a place
 have put : ∀ i : Nat, i ≤ l.length → Gets (qcy (qk l) n i) (· = .sl (qk (l.take i ++ n :: l.drop i))) := by
  intro i hi
  refine qiA _ _ _ ?_
  have e1 : (i : Int).toNat = i := qsE i
  have hli : qh (i : Int) (((qk l).length : Nat) : Int) = true := by rw [qX]; simp only [qh]; exact decide_eq_true (by omega)
  have e2 : (qk l).take (i - 0) = qk (l.take i) := by rw [Nat.sub_zero, qgx]
  have e3 : qsr ((qk l).length - i) (List.drop i (qk l)) = qk (l.drop i) := by
   rw [qX, qmR, qgx, qsp (by rw [List.length_drop]; exact qso _)]
  have e4 : (qk (l.take i)).length = i := by rw [qX, List.length_take]; omega
  have e5 : (qk (l.drop i)).length = l.length - i := by rw [qX, List.length_drop]
  have e6 : qsD (qsr (0 + i) (qk (l.take i))) [[AV.int .i64 n]] = qk (l.take i ++ [n]) := by
   rw [qsp (by omega), ← qh0]; rfl
  have e7 : (qk (l.take i ++ [n])).length = i + 1 := by rw [qX, qsz, List.length_take, List.length_singleton]; omega
  have e8 : qsD (qsr (0 + i + 1) (qk (l.take i ++ [n]))) (qk (l.drop i)) = qk (l.take i ++ n :: l.drop i) := by
   rw [qsp (by omega)]
   show qk _ ++ qk _ = _
   rw [qh0, List.append_assoc]; rfl
  have e9 : (qk (l.take i ++ n :: l.drop i)).length = i + 1 + (l.length - i) := by rw [qX, qsz, List.length_take, List.length_cons, List.length_drop]; omega
  have e10 : qsr (0 + i + 1 + (l.length - i)) (qk (l.take i ++ n :: l.drop i)) = qk (l.take i ++ n :: l.drop i) := qsp (by omega)
  have b1 : qsw (0 + (0 + i)) i = true := by rw [qsF]; omega
  have b2 : qsw (0 + (0 + i + 1)) (i + 1) = true := by rw [qsF]; omega
  have b3 : qsw (0 + (0 + i + 1 + (l.length - i))) (i + 1 + (l.length - i)) = true := by rw [qsF]; omega
  have f1 : qO (0 + i) 8 = true := qgI (by omega)
  have f2 : qO (0 + i + 1) 8 = true := qgI (by omega)
  have f3 : qO (0 + i + 1 + (l.length - i)) 8 = true := qgI (by omega)
  simp only [e1, qA, hli, qkE, e2, e3, e4, e5, e6, e7, e8, e9, e10, b1, b2, b3, f1, f2, f3, qsH, cond_true]
  exact ⟨_, rfl, rfl⟩
 -- where the numbers begin that are not below
 have here : ∀ i : Nat, i ≤ l.length → (∀ a ∈ l.take i, a < n) → (∀ x r, l.drop i = x :: r → ¬ x < n) → Gets (qcz (qk l) n i) (· = .sl (qk (insL l n))) := by
  intro i hi hlt hge
  have hsplit : insL l n = l.take i ++ insL (l.drop i) n := by
   have := qo2 (l.take i) (l.drop i) n hlt
   rwa [List.take_append_drop] at this
  refine qiB _ _ _ ?_
  by_cases hil : i < l.length
  ·have hx : l[i]? = some l[i] := qsh hil
   have hd : l.drop i = l[i] :: l.drop (i + 1) := List.drop_eq_getElem_cons hil
   have hnl := hge _ _ hd
   rw [qX, decide_eq_true (show (i : Int) < (l.length : Int) by omega), qA, qN, decide_eq_true hil, qq, qsE, z8, hx]
   simp only [qsH, cond_true, qsB, qf, List.length_singleton, qsJ, qq, List.getElem?_cons_zero, qy, beqI]
   by_cases he : l[i] = n
   ·rw [decide_eq_true he]
    refine ⟨_, rfl, ?_⟩
    rw [hsplit, hd, insL, if_neg hnl, if_pos he, ← hd, List.take_append_drop]
   ·rw [decide_eq_false he]
    have h := put i hi
    have e : insL (l.drop i) n = n :: l.drop i := by rw [hd, insL, if_neg hnl, if_neg he]
    rw [hsplit, e]
    exact h
  ·rw [qX, decide_eq_false (by omega)]
   have h := put i hi
   have e0 : l.drop i = [] := List.drop_eq_nil_of_le (by omega)
   have e : insL (l.drop i) n = n :: l.drop i := by rw [e0]; rfl
   rw [hsplit, e]
   exact h
 have loop : ∀ d i : Nat, i + d = l.length → (∀ a ∈ l.take i, a < n) → Gets (qcb (qk l) n i) (· = .sl (qk (insL l n))) := by
  intro d
  induction d with
  | zero =>
   intro i hi hlt
   refine qcH _ _ _ ?_
   rw [qX, decide_eq_false (by omega)]
   exact here i (by omega) hlt (fun x r h => by rw [List.drop_eq_nil_of_le (by omega)] at h; cases h)
  | succ d ih =>
   intro i hi hlt
   have hil : i < l.length := by omega
   refine qcH _ _ _ ?_
   have hx : l[i]? = some l[i] := qsh hil
   have hd : l.drop i = l[i] :: l.drop (i + 1) := List.drop_eq_getElem_cons hil
   rw [qX, decide_eq_true (show (i : Int) < (l.length : Int) by omega), qA, qN, decide_eq_true hil, qq, qsE, z8, hx, qI hil (by omega)]
   simp only [qsH, cond_true, qsB, qf, List.length_singleton, qsJ, qq, List.getElem?_cons_zero, qy]
   by_cases hlx : l[i] < n
   ·rw [decide_eq_true hlx]
    refine ih (i + 1) (by omega) (fun a ha => ?_)
    rw [List.take_add_one, hx, Option.toList_some, qsK] at ha
    rcases ha with h | h
    ·exact hlt a h
    ·simp at h; subst h; exact hlx
   ·rw [decide_eq_false hlx]
    refine here i (by omega) hlt (fun x r h => ?_)
    rw [hd] at h; cases h; exact hlx
 apply Gets.get
 exact qkM _ _ (loop l.length 0 (by omega) (by simp))
theorem qnF {t : Tm} (h : t.w < 1099511627776) : EVs (EV cfg) 221 [t.av] = some (.bool (anyT t)) := by
 have hm := ys h
 apply Gets.get
 rw [Tm.av, Tm.cells_eq] at hm ⊢
 refine qmj _ _ _ _ ?_
 rw [hm]
 simp only [beqI, beqS, qf, qy]
 unfold anyT
 cases decide (t.kind = 2) <;> cases decide (t.str = [95]) <;> cases decide (t.chk = 0) <;> exact ⟨_, rfl, rfl⟩
theorem qpP {t : Tm} {n : Int} (h : varT t = some n) : 0 ≤ n ∧ n < 100 := by
 unfold varT at h
 split at h
 ·have := qhc h; omega
 ·cases h
theorem qmf : ∀ (n : Nat) (p : Tm), p.w ≤ n → p.chk = 0 → ∀ q : Nat → Bool, EVf (EV cfg) 189 [p.av, .sl (qk (setL q))] = some (.sl (qk (setL fun m => q m || vn (m : Nat) p))) := by
 intro n
 induction n with
 | zero => intro p h; have := xf p; omega
 | succ n ih =>
  intro p hw hc q
  have hwe := p.w_eq
  have hwc := yy hc
  have hv := qdg (t := p) (by omega)
  have loop : ∀ (l : List Tm), wL l ≤ n → (∀ x ∈ l, x.chk = 0) → l.length < 1000000 → ∀ (d i : Nat) (q : Nat → Bool), i + d = l.length → Gets (qdQ (qa l) (qk (setL q)) i) (· = .sl (qk (setL fun m => q m || (l.drop i).any (vn (m : Nat))))) := by
   intro l hwl hcl hlen d
   induction d with
   | zero =>
    intro i q hi
    refine qcS _ _ _ ?_
    rw [qb, decide_eq_false (by omega), List.drop_eq_nil_of_le (by omega)]
    simp only [List.any_nil, Bool.or_false]
    exact ⟨_, rfl, rfl⟩
   | succ d ihd =>
    intro i q hi
    have hil : i < l.length := by omega
    have hx : l[i]? = some l[i] := qsh hil
    have hd : l.drop i = l[i] :: l.drop (i + 1) := List.drop_eq_getElem_cons hil
    have hm := qss hx
    refine qcS _ _ _ ?_
    have hi2 := ih l[i] (by have := xS hm; omega) (hcl _ hm) q
    have h2 := ihd (i + 1) (fun m => q m || vn (m : Nat) l[i]) (by omega)
    rw [qb, decide_eq_true (show (i : Int) < (l.length : Int) by omega), qA, qN, decide_eq_true hil, vS hx, qI hil (by omega)]
    simp only [cond_true, qsH, qx, qsJ, qG, qB, show qsw 4 4 = true from rfl, vr, hi2, qf, yn]
    rw [hd]
    simp only [List.any_cons, ← Bool.or_assoc]
    exact h2
  have hp : ∀ l : List Tm, EVf (EV cfg) 232 [p.av] = some (.sl (qa l)) → wL l ≤ n → (∀ x ∈ l, x.chk = 0) → l.length < 1000000 → (∀ m : Nat, vn (m : Nat) p = l.any (vn (m : Nat))) → varT p = none →
    EVf (EV cfg) 189 [p.av, .sl (qk (setL q))] = some (.sl (qk (setL fun m => q m || vn (m : Nat) p))) := by
   intro l hpl hwl hcl hlen heq hnone
   have h := loop l hwl hcl hlen l.length 0 q (by omega)
   apply Gets.get
   rw [Tm.av, Tm.cells_eq] at hpl hv ⊢
   refine qeL _ _ _ _ _ ?_
   rw [hv, hpl, hnone]
   simp only [varR, qf, kTup, qn, qy, kNil, Option.isSome_none, qu, cond_false, yn]
   rw [List.drop_zero] at h
   simp only [heq]
   exact h
  have parts : EVf (EV cfg) 232 [p.av] = some (.sl (qa (if p.kind = 7 ∨ p.kind = 9 then p.subs else []))) := by
   apply Gets.get
   rw [Tm.av, Tm.cells_eq]
   refine qju _ _ _ _ ?_
   rw [beqI, beqI]
   by_cases h7 : p.kind = 7
   ·rw [decide_eq_true h7, if_pos (.inl h7)]; exact ⟨_, rfl, rfl⟩
   ·by_cases h9 : p.kind = 9
    ·rw [decide_eq_false h7, decide_eq_true h9, if_pos (.inr h9)]; exact ⟨_, rfl, rfl⟩
    ·rw [decide_eq_false h7, decide_eq_false h9, if_neg (fun h => h.elim h7 h9), qT]; exact ⟨_, rfl, rfl⟩
  cases hvt : varT p with
  | some x =>
   obtain ⟨h0, h1⟩ := qpP hvt
   have hk : p.kind = 2 := by
    unfold varT at hvt
    split at hvt
    ·rename_i h; exact h.1
    ·cases hvt
   have hvg : varG p.str = some x := by
    unfold varT at hvt
    rw [if_pos ⟨hk, hc⟩] at hvt; exact hvt
   obtain ⟨k, rfl⟩ : ∃ k : Nat, x = k := ⟨x.toNat, by omega⟩
   have hw1 := qmg (l := setL q) (by have := qoJ q; omega) (k : Int)
   rw [qo1 q (by omega)] at hw1
   apply Gets.get
   rw [Tm.av, Tm.cells_eq] at hv ⊢
   refine qeL _ _ _ _ _ ?_
   rw [hv, hvt]
   simp only [varR, qf, kTup, qn, qy, kNil, Option.isSome_some, Option.getD_some, qu, cond_true, hw1, yn]
   refine ⟨_, rfl, ?_⟩
   congr 3
   funext m
   congr 1
   rw [yc, if_neg (by omega), decide_eq_true hk, hvg, qsL]
   exact decide_eq_decide.2 ⟨fun h => by rw [h], fun h => by cases h; rfl⟩
  | none =>
   rw [hvt] at hv
   by_cases h79 : p.kind = 7 ∨ p.kind = 9
   ·rw [if_pos h79] at parts
    exact hp p.subs parts (by omega) (fun x hx => vB hc hx) (by have := qoF hc; omega) (fun m => by rw [yc, if_pos h79]) hvt
   ·rw [if_neg h79] at parts
    refine hp [] parts (by simp) (by simp) (by simp) (fun m => ?_) hvt
    rw [yc, if_neg h79, List.any_nil]
    by_cases hk : p.kind = 2
    ·unfold varT at hvt
     rw [if_pos ⟨hk, hc⟩] at hvt
     rw [hvt]; simp
    ·rw [decide_eq_false hk]; rfl
theorem qmh {t : Tm} (h : t.w < 1099511627776) : EVf (EV cfg) 170 [t.av] = some (.sl (qk (vU t))) := by
 have hc := ys h
 rw [qnj]
 apply Gets.get
 by_cases h0 : t.chk = 0
 ·have hv := qmf t.w t (qso _) h0 (fun _ => false)
  have e0 : qk (setL fun _ => false) = [] := rfl
  rw [e0] at hv
  rw [Tm.av, Tm.cells_eq] at hv hc ⊢
  refine qeM _ _ _ _ ?_
  rw [hc, h0, if_pos rfl, hv]
  simp only [qf, qy, yn, Bool.false_or]
  exact ⟨_, rfl, rfl⟩
 ·rw [Tm.av, Tm.cells_eq] at hc ⊢
  refine qeM _ _ _ _ ?_
  rw [hc, if_neg h0]
  simp only [qf, qy, bneD, decide_eq_false h0]
  exact ⟨_, rfl, rfl⟩
noncomputable def qrh : Den := evC cfg (EV cfg) 49 none 0 (sub (qe Tryz.f49) [1, 1, 0, 1, 0, 0])
noncomputable def qrE : Ex × List AV × AH → Option AV := kAft (Cfg.keepOut cfg 49 3) (kRun cfg (EV cfg) (kfN cfg 6) 49 none 0 (xD cfg (Cfg.lift cfg 49 0) Tryz.f49.results.toList) ([.block 0, .seq (sub (qe Tryz.f49) [1, 1, 1])]))
noncomputable def qq3 : List AV × AH → Option AV := fun p => kOpt (LOOP 0 (some [1, 2, 3, 4]) ([(3, 4)]) qrh p) qrE
noncomputable abbrev qfw (nv3 : Nat) (v4 c0_0 c0_1 : Int) (c0_2 : Bz) (c0_3 : Rz) (c1_0 c1_1 : Int) (c1_2 : Bz) (c1_3 h2 : Rz) : Option (AV) := qq3  (((fx 24 [(1, .ptr 0 0 0), (2, .ptr 1 0 0), (3, .ms 2 0 nv3), (4, .int .i64 v4)]) : List AV), ([.rows false 4 [[.int .i64 c0_0, .int .i64 c0_1, .str c0_2, .sl c0_3]], .rows false 4 [[.int .i64 c1_0, .int .i64 c1_1, .str c1_2, .sl c1_3]], .rows true 4 h2] : AH))
theorem qkP (kt nt : Int) (st : Bz) (lt : Rz) {P : AV → Prop} (h : Gets (qfw 0 0 kt nt st lt 0 0 [] [] []) P) : Gets (EVf (EV cfg) 49 [.agg [.int .i64 kt, .int .i64 nt, .str st, .sl lt]]) P :=
  gE (fun _ => funF rfl rfl Tryz.func49 rfl) (by kernel_rfl) h
theorem qen (nv3 : Nat) (v4 c0_0 c0_1 : Int) (c0_2 : Bz) (c0_3 : Rz) (c1_0 c1_1 : Int) (c1_2 : Bz) (c1_3 h2 : Rz) {P : AV → Prop} (h : Gets (bif decide (v4 < (c0_3.length : Int)) then bif qh 0 v4 && qo v4 (c0_3.length : Int) then kOpt (qsg c0_3 (v4.toNat)) fun row => bif qsy (qsk row) 4 then bif qsw 4 (qsk row) then kTmC (qsr 4 row) fun n n_1 s rows => (kOpt (EVf (EV cfg) 49 [.agg [.int .i64 n, .int .i64 n_1, .str s, .sl rows]]) fun v => kTmV v fun n n_2 s rows => (bif qsw (0 + nv3) (qsk h2) && qO (nv3 + 1) 56 then qfw (nv3 + 1) (IntKind.wrap .i64 (v4 + 1)) c0_0 c0_1 c0_2 c0_3 c1_0 c1_1 c1_2 c1_3 (qsD (qsr nv3 h2) [[AV.int .i64 n, .int .i64 n_2, .str s, .sl rows]]) else none)) else none else none else none else bif qsw (0 + nv3) (qsk h2) && true then some (.agg [.int .i64 c0_0, .int .i64 c0_1, .str c0_2, .sl (qsr nv3 h2)]) else none) P) : Gets (qfw nv3 v4 c0_0 c0_1 c0_2 c0_3 c1_0 c1_1 c1_2 c1_3 h2) P :=
  gE (fun _ => qt (cfg := cfg) (f := 49) (rd := none) (bs := 0)) (by kernel_rfl) h
end Go.Proofs.YtjiecipfkjaooaaGreat
end
section
namespace Go.Av
theorem qgB (x : Tm) (l : List Tm) : qsg (qa (x :: l)) 0 = some x.cells := by rw [qq, qD]; rfl
theorem qgA (x y : Tm) (l : List Tm) : qsg (qa (x :: y :: l)) 1 = some y.cells := by rw [qq, qD, qD]; rfl
theorem lt0T (x : Tm) (l : List Tm) : qo 0 ((qa (x :: l)).length : Int) = true := by rw [qb]; exact decide_eq_true (by simp)
theorem lt1T (x y : Tm) (l : List Tm) : qo 1 ((qa (x :: y :: l)).length : Int) = true := by rw [qb]; exact decide_eq_true (by simp; omega)
theorem zf : qsw 4 4 = true := rfl
theorem qbU {t : Tm} (h : t.chk = 0) : t.Ok := qhp t (by have := yy h; omega)
end Go.Av
namespace Go.Proofs.YtjiecipfkjaooaaGreat
open Go.Av
theorem qhK {p : Nat → Bool} {r : List AV} (h : qac p r) {n : Nat} (hn : n < 100) : EVs (EV cfg) 220 [.cptr r 0, .int .i64 n] = some (.bool (p n)) := by
 obtain ⟨lo, hi, l, rfl, h1, h2, h3, h4⟩ := h
 have key : ∀ {a k : Nat}, a < 18446744073709551616 → k < 64 → ((((a / 2 ^ k % 2 : Nat) : Int)) == 1) = a.testBit k := by
  intro a k _ _
  rw [Nat.testBit_eq_decide_div_mod_eq]
  rw [beqI]
  exact decide_eq_decide.2 (by omega)
 apply Gets.get
 refine ql0 _ _ ?_
 unfold zd2
 by_cases hs : n < 64
 ·have e : p n = lo.testBit n := (h3 n hs).symm
  have hd := Nat.div_le_self lo (2 ^ n)
  rw [decide_eq_true (show (n : Int) < 64 by omega), e]
  simp only [cond_true, qq, List.getElem?_cons_zero, qf, qy, qlw h1 hs, qlJ (show lo / 2 ^ n < 18446744073709551616 by omega), key h1 hs]
  exact ⟨_, rfl, rfl⟩
 ·obtain ⟨k, rfl⟩ : ∃ k, n = k + 64 := ⟨n - 64, by omega⟩
  have hk : k < 64 := by omega
  have e : p (k + 64) = hi.testBit k := (h4 k hk).symm
  have hd := Nat.div_le_self hi (2 ^ k)
  have w : IntKind.wrap .i64 (((k + 64 : Nat) : Int) - 64) = (k : Int) := by rw [vm (by omega) (by omega)]; omega
  rw [decide_eq_false (show ¬ ((k + 64 : Nat) : Int) < 64 by omega), w, e]
  simp only [cond_false, qq, List.getElem?_cons_succ, List.getElem?_cons_zero, qf, qy, qlw h2 hk, qlJ (show hi / 2 ^ k < 18446744073709551616 by omega), key h2 hk]
  exact ⟨_, rfl, rfl⟩
theorem qgI {n : Nat} (h : n ≤ 1099511627776) : qO n 8 = true := by
 unfold qO
 rw [qsm, qsF, qsF]
 omega
end Go.Proofs.YtjiecipfkjaooaaGreat
end
section
namespace Go.Av
end Go.Av
namespace Go.Proofs.YtjiecipfkjaooaaGreat
open Go.Av
theorem qf1 (t : Tm) : t.w < 1099511627776 → EVf (EV cfg) 49 [t.av] = some t.av := by
 induction t using Tm.ind with
 | _ k n s l ih =>
  intro hw
  rw [Tm.w_mk] at hw
  have hlen := xT l
  have ih' : ∀ x ∈ l, EVf (EV cfg) 49 [x.av] = some x.av := fun x hx => ih x hx (by have := xS hx; omega)
  have loop : ∀ d i : Nat, i + d = l.length → Gets (qfw i i k n s (qa l) 0 0 [] [] (qa (l.take i))) (· = (Tm.mk k n s l).av) := by
   intro d
   induction d with
   | zero =>
    intro i hi
    refine qen _ _ _ _ _ _ _ _ _ _ _ ?_
    obtain rfl : i = l.length := by omega
    have hb : qsw (0 + l.length) (qa l).length = true := by rw [qsF, qb]; omega
    have ht : qsr l.length (qa l) = qa l := qsp (by rw [qb]; omega)
    rw [qb, decide_eq_false (by omega), List.take_length, hb, ht, Tm.av_mk]
    exact ⟨_, rfl, rfl⟩
   | succ d ihd =>
    intro i hi
    have hil : i < l.length := by omega
    refine qen _ _ _ _ _ _ _ _ _ _ _ ?_
    have hx : l[i]? = some l[i] := qsh hil
    have h1 := ih' l[i] (qss hx)
    have h2 := ihd (i + 1) (by omega)
    have e1 : l.take (i + 1) = l.take i ++ [l[i]] := by rw [List.take_add_one, hx]; rfl
    have ht : (qa (l.take i)).length = i := by rw [qb, List.length_take]; omega
    have e2 : qsD (qsr i (qa (l.take i))) [l[i].cells] = qa (l.take (i + 1)) := by
     rw [qsp (by omega), e1, q8, qD, qT]; rfl
    have e3 : qsw (0 + i) (qa (l.take i)).length = true := by rw [ht, qsF]; omega
    rw [qb, decide_eq_true (show (i : Int) < (l.length : Int) by omega), qA, qN, decide_eq_true hil, vS hx, qI (n := l.length) hil (by omega), e3, x8 (by omega)]
    simp only [cond_true, qsH, qx, qsJ, qG, qB, show qsw 4 4 = true from rfl, vr, h1, qf, zL]
    rw [← Tm.cells_eq, e2]
    exact h2
  apply Gets.get
  rw [Tm.av_mk]
  refine qkP _ _ _ _ ?_
  rw [← Tm.av_mk]
  exact (by simpa [qT] using loop l.length 0 (by omega))
noncomputable def qrz : Den := evC cfg (EV cfg) 165 none 7 (sub (qe Tryz.f165) [0, 0, 0])
noncomputable def qrW : Ex × List AV × AH → Option AV := kAft (Cfg.keepOut cfg 165 (qj (sub (qe Tryz.f165) [0, 0, 0]))) (xe 0 (kSeq (fun (fr : List AV) (H : AH) => yO (Cfg.cut cfg 165 (qj (sub (qe Tryz.f165) [1]))) fr H fun (fr : List AV) (H : AH) => q5 cfg (EV cfg) (kfN cfg (5)) 165 none 7 (sub (qe Tryz.f165) [1]) fr H (xg cfg (Cfg.lift cfg 165 0) (fun (v : AV) (H : AH) => (fun (r : AV × AH) => xA 0 6 (fx 18 [(4, AV.ptr 1 0 0), (5, AV.ptr 2 0 0)]) (xe 0 (kSeq (fun (fr : List AV) (H : AH) => yO (Cfg.cut cfg 168 (qj (sub (qe Tryz.f168) [1, 1, 1, 1]))) fr H fun (fr : List AV) (H : AH) => q5 cfg (EV cfg) (kfN cfg 6) 168 none 0 (sub (qe Tryz.f168) [1, 1, 1, 1]) fr H (xD cfg (Cfg.lift cfg 168 0) (Array.toList (Func.results Tryz.f168)))) (xD cfg (Cfg.lift cfg 168 0) (Array.toList (Func.results Tryz.f168))))) (Prod.snd r)) (v, H)) (Array.toList (Func.results (Prod.snd (165, Tryz.f165)))))) (xg cfg (Cfg.lift cfg 165 0) (fun (v : AV) (H : AH) => (fun (r : AV × AH) => xA 0 6 (fx 18 [(4, AV.ptr 1 0 0), (5, AV.ptr 2 0 0)]) (xe 0 (kSeq (fun (fr : List AV) (H : AH) => yO (Cfg.cut cfg 168 (qj (sub (qe Tryz.f168) [1, 1, 1, 1]))) fr H fun (fr : List AV) (H : AH) => q5 cfg (EV cfg) (kfN cfg 6) 168 none 0 (sub (qe Tryz.f168) [1, 1, 1, 1]) fr H (xD cfg (Cfg.lift cfg 168 0) (Array.toList (Func.results Tryz.f168)))) (xD cfg (Cfg.lift cfg 168 0) (Array.toList (Func.results Tryz.f168))))) (Prod.snd r)) (v, H)) (Array.toList (Func.results (Prod.snd (165, Tryz.f165)))))))
noncomputable def qon : List AV × AH → Option AV := fun (p : List AV × AH) => kOpt (LOOP 7 (some [0, 1, 2]) [] qrz p) qrW
noncomputable abbrev qi8 (c0_0 c0_1 : Int) (c0_2 : Bz) (c0_3 : Rz) (nc1_0 : Nat) (c2_0 : Bool) (c3_0 c3_1 : Int) (c3_2 : Bz) (c3_3 h5 : Rz) : Option (AV) := qon  (((fx 23 [(0, .yld 6), (1, .ptr 3 0 0), (2, .ptr 4 0 0)]) : List AV), ([.rows false 4 [[.int .i64 c0_0, .int .i64 c0_1, .str c0_2, .sl c0_3]], .rows false 1 [[.ms 5 0 nc1_0]], .rows false 1 [[.bool c2_0]], .rows false 4 [[.int .i64 c3_0, .int .i64 c3_1, .str c3_2, .sl c3_3]], .rows false 1 [[.ptr 2 0 0]], .rows true 4 h5, rngB Tryz.f168 168 [1, 1, 1, 0, 1, 0] (fx 18 [(4, .ptr 1 0 0)]) none LoopState.ready] : AH))
noncomputable abbrev qhb (c0_0 c0_1 : Int) (c0_2 : Bz) (c0_3 : Rz) (nc1_0 : Nat) (c2_0 : Bool) (c3_0 c3_1 : Int) (c3_2 : Bz) (c3_3 h7 : Rz) : Option (AV) := qon  (((fx 23 [(0, .yld 6), (1, .ptr 3 0 0), (2, .ptr 4 0 0)]) : List AV), ([.rows false 4 [[.int .i64 c0_0, .int .i64 c0_1, .str c0_2, .sl c0_3]], .rows false 1 [[.ms 7 0 nc1_0]], .rows false 1 [[.bool c2_0]], .rows false 4 [[.int .i64 c3_0, .int .i64 c3_1, .str c3_2, .sl c3_3]], .rows false 1 [[.ptr 2 0 0]], .dead, rngB Tryz.f168 168 [1, 1, 1, 0, 1, 0] (fx 18 [(4, .ptr 1 0 0)]) none LoopState.ready, .rows true 4 h7] : AH))
theorem qmp (kt nt : Int) (st : Bz) (lt : Rz) {P : AV → Prop} (h : Gets (bif kt == 2 then bif st == [(95 : UInt8)] then kOpt (EVs (EV cfg) 118 [.agg [.int .i64 kt, .int .i64 nt, .str st, .sl lt]]) fun v => qv v fun b => some (.bool b) else some (.bool false) else some (.bool false)) P) : Gets (EVs (EV cfg) 199 [.agg [.int .i64 kt, .int .i64 nt, .str st, .sl lt]]) P :=
  gE (fun _ => funS rfl rfl Tryz.func199 rfl) (by kernel_rfl) h
theorem qlY (kt nt : Int) (st : Bz) (lt : Rz) {P : AV → Prop} (h : Gets (kOpt (EVs (EV cfg) 148 [.agg [.int .i64 kt, .int .i64 nt, .str st, .sl lt]]) fun v => kTup v fun cs => qn cs fun c cs => kInt .i64 c fun n => qn cs fun c cs => qv c fun b => kNil cs (bif b then some (.bool true) else bif kt == 7 then some (.bool true) else kOpt (EVs (EV cfg) 199 [.agg [.int .i64 kt, .int .i64 nt, .str st, .sl lt]]) fun v => qv v fun b => some (.bool b))) P) : Gets (EVs (EV cfg) 166 [.agg [.int .i64 kt, .int .i64 nt, .str st, .sl lt]]) P :=
  gE (fun _ => funS rfl rfl Tryz.func166 rfl) (by kernel_rfl) h
theorem qlX (kt nt : Int) (st : Bz) (lt : Rz) {P : AV → Prop} (h : Gets (qi8 kt nt st lt 0 false kt nt st lt []) P) : Gets (EVf (EV cfg) 168 [.agg [.int .i64 kt, .int .i64 nt, .str st, .sl lt]]) P :=
  gE (fun _ => funF rfl rfl Tryz.func168 rfl) (by kernel_rfl) h
theorem qkD (kt nt : Int) (st : Bz) (lt : Rz) {P : AV → Prop} (h : Gets (kOpt (EVq (EV cfg) 45 [.agg [.int .i64 kt, .int .i64 nt, .str st, .sl lt]]) fun q => kInt .i64 q.2 fun n => kOwn q.1 (some (.int .i64 n)) fun sz rs off len => some (.int .i64 n)) P) : Gets (EVs (EV cfg) 15 [.agg [.int .i64 kt, .int .i64 nt, .str st, .sl lt]]) P :=
  gE (fun _ => funS rfl rfl Tryz.func15 rfl) (by kernel_rfl) h
noncomputable abbrev zn6 (nc1_0 : Nat) (h5 c3_3 : Rz) (c0_0 c0_1 : Int) (c0_2 : Bz) (c0_3 : Rz) (c2_0 : Bool) (n n_1 : Int) (s : Bz) (rows : Rz) : Option (AV) := (bif qsw (0 + nc1_0) (qsk h5) && qO (nc1_0 + 1) 56 then bif qh 0 (↑ nc1_0 : Int) && qo (↑ nc1_0 : Int) (↑ (nc1_0 + 1) : Int) then kOpt (qsg (qsD (qsr nc1_0 h5) [[AV.int .i64 0, .int .i64 (0 : Int), .str [], .nilS]]) (0 + qsC (↑ nc1_0 : Int))) fun row => bif qsw 4 (qsk row) then bif qo 1 (c3_3.length : Int) then kOpt (qsg c3_3 1) fun row_1 => bif qsy (qsk row_1) 4 then bif qsw 4 (qsk row_1) then kTmC (qsr 4 row_1) fun n_2 n_3 s_1 rows_1 => (qhb c0_0 c0_1 c0_2 c0_3 (nc1_0 + 1) c2_0 n_2 n_3 s_1 rows_1 (List.set (qsD (qsr nc1_0 h5) [[AV.int .i64 0, .int .i64 0, .str [], .nilS]]) (0 + qsC (↑ nc1_0 : Int)) (.int .i64 n :: .int .i64 n_1 :: .str s :: .sl rows :: List.drop 4 row))) else none else none else none else none else none else none)
noncomputable abbrev zn5 (row : List AV) (nc1_0 : Nat) (h5 c3_3 : Rz) (c0_0 c0_1 : Int) (c0_2 : Bz) (c0_3 : Rz) (c2_0 : Bool) : Option (AV) := kTmC (qsr 4 row) fun n n_1 s rows => zn6 nc1_0 h5 c3_3 c0_0 c0_1 c0_2 c0_3 c2_0 n n_1 s rows
noncomputable abbrev zn4 (row : List AV) (nc1_0 : Nat) (h5 c3_3 : Rz) (c0_0 c0_1 : Int) (c0_2 : Bz) (c0_3 : Rz) (c2_0 : Bool) : Option (AV) := bif qsw 4 (qsk row) then zn5 row nc1_0 h5 c3_3 c0_0 c0_1 c0_2 c0_3 c2_0 else none
noncomputable abbrev zn3 (row : List AV) (nc1_0 : Nat) (h5 c3_3 : Rz) (c0_0 c0_1 : Int) (c0_2 : Bz) (c0_3 : Rz) (c2_0 : Bool) : Option (AV) := bif qsy (qsk row) 4 then zn4 row nc1_0 h5 c3_3 c0_0 c0_1 c0_2 c0_3 c2_0 else none
noncomputable abbrev zn2 (c3_3 : Rz) (nc1_0 : Nat) (h5 : Rz) (c0_0 c0_1 : Int) (c0_2 : Bz) (c0_3 : Rz) (c2_0 : Bool) : Option (AV) := kOpt (qsg c3_3 0) fun row => zn3 row nc1_0 h5 c3_3 c0_0 c0_1 c0_2 c0_3 c2_0
noncomputable abbrev zn1 (c3_3 : Rz) (nc1_0 : Nat) (h5 : Rz) (c0_0 c0_1 : Int) (c0_2 : Bz) (c0_3 : Rz) (c2_0 : Bool) : Option (AV) := bif qo 0 (c3_3.length : Int) then zn2 c3_3 nc1_0 h5 c0_0 c0_1 c0_2 c0_3 c2_0 else none
noncomputable abbrev zn0 (c3_0 : Int) (c3_3 : Rz) (nc1_0 : Nat) (h5 : Rz) (c0_0 c0_1 : Int) (c0_2 : Bz) (c0_3 : Rz) (c2_0 : Bool) : Option (AV) := bif c3_0 == 9 then zn1 c3_3 nc1_0 h5 c0_0 c0_1 c0_2 c0_3 c2_0 else bif qsw (0 + nc1_0) (qsk h5) && true then some (AV.tup [.sl (qsr nc1_0 h5), .bool (c3_0 == 8)]) else none
theorem qkv (c0_0 c0_1 : Int) (c0_2 : Bz) (c0_3 : Rz) (nc1_0 : Nat) (c2_0 : Bool) (c3_0 c3_1 : Int) (c3_2 : Bz) (c3_3 h5 : Rz) {P : AV → Prop} (h : Gets (zn0 c3_0 c3_3 nc1_0 h5 c0_0 c0_1 c0_2 c0_3 c2_0) P) : Gets (qi8 c0_0 c0_1 c0_2 c0_3 nc1_0 c2_0 c3_0 c3_1 c3_2 c3_3 h5) P :=
  gE (fun _ => qt (cfg := cfg) (f := 165) (rd := none) (bs := 7)) (by kernel_rfl) h
theorem qi7 (c0_0 c0_1 : Int) (c0_2 : Bz) (c0_3 : Rz) (nc1_0 : Nat) (c2_0 : Bool) (c3_0 c3_1 : Int) (c3_2 : Bz) (c3_3 h7 : Rz) {P : AV → Prop} (h : Gets (zn0 c3_0 c3_3 nc1_0 h7 c0_0 c0_1 c0_2 c0_3 c2_0) P) : Gets (qhb c0_0 c0_1 c0_2 c0_3 nc1_0 c2_0 c3_0 c3_1 c3_2 c3_3 h7) P :=
  gE (fun _ => qt (cfg := cfg) (f := 165) (rd := none) (bs := 7)) (by kernel_rfl) h
end Go.Proofs.YtjiecipfkjaooaaGreat
end
section
namespace Go.Av
def lsR (r : List Tm × Bool) : AV := .tup [.sl (qa r.1), .bool r.2]
end Go.Av
namespace Go.Proofs.YtjiecipfkjaooaaGreat
open Go.Av
theorem qnK {t : Tm} (h : t.w < 1099511627776) : EVs (EV cfg) 199 [t.av] = some (.bool (anyT t)) := by
 have hm := qdi h
 apply Gets.get
 rw [Tm.av, Tm.cells_eq] at hm ⊢
 refine qmp _ _ _ _ ?_
 rw [hm]
 simp only [beqI, beqS, qf, qu]
 unfold anyT
 cases decide (t.kind = 2) <;> cases decide (t.str = [95]) <;> exact ⟨_, rfl, rfl⟩
theorem qnq {t : Tm} (h : t.w < 1099511627776) : EVs (EV cfg) 166 [t.av] = some (.bool (zE t)) := by
 have hv := qhT h
 have ha := qnK h
 apply Gets.get
 rw [Tm.av, Tm.cells_eq] at hv ha ⊢
 refine qlY _ _ _ _ ?_
 rw [hv, ha]
 unfold zE varR
 simp only [beqI, qf, qu, kTup, qn, qy, kNil]
 cases (varT t).isSome <;> cases decide (t.kind = 7) <;> exact ⟨_, rfl, rfl⟩
theorem qje {c : Tm} {b : Bool} : ∀ (n : Nat) (t : Tm) (acc : List Tm), t.w ≤ n → t.chk = 0 → acc.length + n < 1099511627776 → Gets (qhb c.kind c.num c.str (qa c.subs) acc.length b t.kind t.num t.str (qa t.subs) (qa acc)) (· = lsR (acc ++ (qm t).1, (qm t).2)) := by
 intro n
 induction n with
 | zero => intro t acc h; have := xf t; omega
 | succ n ih =>
  intro t acc hw hc hn
  refine qi7 _ _ _ _ _ _ _ _ _ _ _ ?_
  unfold zn0 zn1 zn2 zn3 zn4 zn5 zn6
  rw [beqI, beqI]
  by_cases h9 : t.kind = 9
  ·obtain ⟨x, y, hs⟩ := zR hc h9
   have hwe := t.w_eq
   rw [hs] at hwe
   simp only [qW, vP] at hwe
   have h := ih y (acc ++ [x]) (by omega) (vB hc (by rw [hs]; simp)) (by simp; omega)
   have e1 : qsw (0 + acc.length) (qa acc).length = true := by rw [qsF, qb]; omega
   have e2 : qsr acc.length (qa acc) = qa acc := qsp (by simp)
   have e3 : qo (acc.length : Int) ((acc.length + 1 : Nat) : Int) = true := decide_eq_true (by omega)
   have e4 : (qsD (qa acc) [[AV.int .i64 0, .int .i64 0, .str [], .nilS]])[0 + qsC (acc.length : Int)]? = some [AV.int .i64 0, .int .i64 0, .str [], .nilS] := by
    rw [qsE, Nat.zero_add]
    have := qfm (qa acc) [AV.int .i64 0, .int .i64 0, .str [], .nilS]
    rw [qb] at this
    exact this
   have e5 : List.set (qsD (qa acc) [[AV.int .i64 0, .int .i64 0, .str [], .nilS]]) (0 + qsC (acc.length : Int)) x.cells = qa (acc ++ [x]) := by
    rw [qsE, Nat.zero_add]
    have := qfl (qa acc) [AV.int .i64 0, .int .i64 0, .str [], .nilS] x.cells
    rw [qb] at this
    rw [q8, qD, qT]
    exact this
   rw [decide_eq_true h9, cond_true, hs, lt0T, qgB, lt1T, qgA, e1, e2, x8 (by omega), qA, e3, qq, e4]
   simp only [cond_true, qsH, qf, qx, qsJ, qG, qB, zf, List.length_cons, List.length_nil, show qsw 4 (0 + 1 + 1 + 1 + 1) = true from rfl, List.drop_succ_cons, List.drop_zero]
   rw [← Tm.cells_eq, e5, vK h9 hs]
   rw [qsz] at h
   refine Gets.mono h ?_
   rintro _ rfl
   simp [lsR]
  ·have e1 : qsw (0 + acc.length) (qa acc).length = true := by rw [qsF, qb]; omega
   have e2 : qsr acc.length (qa acc) = qa acc := qsp (by simp)
   rw [decide_eq_false h9, cond_false, e1, e2, xE h9]
   exact ⟨_, rfl, by simp [lsR]⟩
theorem qkC {c : Tm} {b : Bool} : ∀ (n : Nat) (t : Tm) (acc : List Tm), t.w ≤ n → t.chk = 0 → acc.length + n < 1099511627776 → Gets (qi8 c.kind c.num c.str (qa c.subs) acc.length b t.kind t.num t.str (qa t.subs) (qa acc)) (· = lsR (acc ++ (qm t).1, (qm t).2)) := by
 intro n
 induction n with
 | zero => intro t acc h; have := xf t; omega
 | succ n ih =>
  intro t acc hw hc hn
  refine qkv _ _ _ _ _ _ _ _ _ _ _ ?_
  unfold zn0 zn1 zn2 zn3 zn4 zn5 zn6
  rw [beqI, beqI]
  by_cases h9 : t.kind = 9
  ·obtain ⟨x, y, hs⟩ := zR hc h9
   have hwe := t.w_eq
   rw [hs] at hwe
   simp only [qW, vP] at hwe
   have h := qje (c := c) (b := b) n y (acc ++ [x]) (by omega) (vB hc (by rw [hs]; simp)) (by simp; omega)
   have e1 : qsw (0 + acc.length) (qa acc).length = true := by rw [qsF, qb]; omega
   have e2 : qsr acc.length (qa acc) = qa acc := qsp (by simp)
   have e3 : qo (acc.length : Int) ((acc.length + 1 : Nat) : Int) = true := decide_eq_true (by omega)
   have e4 : (qsD (qa acc) [[AV.int .i64 0, .int .i64 0, .str [], .nilS]])[0 + qsC (acc.length : Int)]? = some [AV.int .i64 0, .int .i64 0, .str [], .nilS] := by
    rw [qsE, Nat.zero_add]
    have := qfm (qa acc) [AV.int .i64 0, .int .i64 0, .str [], .nilS]
    rw [qb] at this
    exact this
   have e5 : List.set (qsD (qa acc) [[AV.int .i64 0, .int .i64 0, .str [], .nilS]]) (0 + qsC (acc.length : Int)) x.cells = qa (acc ++ [x]) := by
    rw [qsE, Nat.zero_add]
    have := qfl (qa acc) [AV.int .i64 0, .int .i64 0, .str [], .nilS] x.cells
    rw [qb] at this
    rw [q8, qD, qT]
    exact this
   rw [decide_eq_true h9, cond_true, hs, lt0T, qgB, lt1T, qgA, e1, e2, x8 (by omega), qA, e3, qq, e4]
   simp only [cond_true, qsH, qf, qx, qsJ, qG, qB, zf, List.length_cons, List.length_nil, show qsw 4 (0 + 1 + 1 + 1 + 1) = true from rfl, List.drop_succ_cons, List.drop_zero]
   rw [← Tm.cells_eq, e5, vK h9 hs]
   rw [qsz] at h
   refine Gets.mono h ?_
   rintro _ rfl
   simp [lsR]
  ·have e1 : qsw (0 + acc.length) (qa acc).length = true := by rw [qsF, qb]; omega
   have e2 : qsr acc.length (qa acc) = qa acc := qsp (by simp)
   rw [decide_eq_false h9, cond_false, e1, e2, xE h9]
   exact ⟨_, rfl, by simp [lsR]⟩
theorem qhI {t : Tm} (hc : t.chk = 0) : EVf (EV cfg) 168 [t.av] = some (lsR (qm t)) := by
 apply Gets.get
 rw [Tm.av, Tm.cells_eq]
 refine qlX _ _ _ _ ?_
 have hw := yy hc
 have h := qkC (c := t) (b := false) t.w t [] (qso _) hc (by simp; omega)
 rw [qT] at h
 exact h
noncomputable def qru : Den := evC cfg (EV cfg) 174 none 4 (sub (qe Tryz.f174) [0, 1, 1, 0, 0])
noncomputable def qrR : Ex × List AV × AH → Option AV := kAft (Cfg.keepOut cfg 174 (qj (sub (qe Tryz.f174) [0, 1, 1, 0, 0]))) (xe 0 (qgl (xg cfg (Cfg.lift cfg 174 0) (fun (v : AV) (H : AH) => (fun (r : AV × AH) => xA 0 3 (fx 40 [(3, AV.ptr 1 0 0)]) (xe 0 (kSeq (fun (fr : List AV) (H : AH) => yO (Cfg.cut cfg 167 (qj (sub (qe Tryz.f167) [1, 1, 1, 1]))) fr H fun (fr : List AV) (H : AH) => q5 cfg (EV cfg) (kfN cfg 6) 167 none 0 (sub (qe Tryz.f167) [1, 1, 1, 1]) fr H (xD cfg (Cfg.lift cfg 167 0) (Array.toList (Func.results Tryz.f167)))) (xD cfg (Cfg.lift cfg 167 0) (Array.toList (Func.results Tryz.f167))))) (Prod.snd r)) (v, H)) (Array.toList (Func.results (Prod.snd (174, Tryz.f174)))))))
noncomputable def qok : List AV × AH → Option AV := fun (p : List AV × AH) => kOpt (LOOP 4 (some [0, 3]) [(3, 4)] qru p) qrR
noncomputable def qrt : Den := evC cfg (EV cfg) 167 none 0 (sub (qe Tryz.f167) [1, 1, 1, 1, 1, 0, 1, 0, 0])
noncomputable def qrQ : Ex × List AV × AH → Option AV := kAft (Cfg.keepOut cfg 167 11) (kRun cfg (EV cfg) (kfN cfg 6) 167 none 0 (xD cfg (Cfg.lift cfg 167 0) Tryz.f167.results.toList) ([.block 2, .seq (sub (qe Tryz.f167) [1, 1, 1, 1, 1, 1])]))
noncomputable def qoj : List AV × AH → Option AV := fun p => kOpt (LOOP 0 (some [3, 7, 29]) ([(7, 1)]) qrt p) qrQ
noncomputable abbrev zn (nv3 : Nat) (c0_0 c0_1 : Int) (c0_2 : Bz) (c0_3 : Rz) (c1_0 c1_1 c2_0 c2_1 : Int) (c2_2 : Bz) (c2_3 h4 : Rz) : Option (AV) := qok  (((fx 37 [(0, .yld 3), (3, .ms 4 0 nv3)]) : List AV), ([.rows false 4 [[.int .i64 c0_0, .int .i64 c0_1, .str c0_2, .sl c0_3]], .rows false 2 [[.int .u64 c1_0, .int .u64 c1_1]], .rows false 4 [[.int .i64 c2_0, .int .i64 c2_1, .str c2_2, .sl c2_3]], rngB Tryz.f167 167 [1, 1, 1, 0, 1, 0] (fx 40 [(3, .ptr 1 0 0)]) none LoopState.ready, .rows true 4 h4] : AH))
noncomputable abbrev yq (nv3 : Nat) (c0_0 c0_1 : Int) (c0_2 : Bz) (c0_3 h1 : Rz) (c2_0 c2_1 : Int) (c2_2 : Bz) (c2_3 h4 : Rz) : Option (AV) := qok  (((fx 37 [(0, .yld 3), (3, .ms 4 0 nv3)]) : List AV), ([.rows false 4 [[.int .i64 c0_0, .int .i64 c0_1, .str c0_2, .sl c0_3]], .rows true 2 h1, .rows false 4 [[.int .i64 c2_0, .int .i64 c2_1, .str c2_2, .sl c2_3]], rngB Tryz.f167 167 [1, 1, 1, 0, 1, 0] (fx 40 [(3, .ptr 1 0 0)]) none LoopState.ready, .rows true 4 h4] : AH))
noncomputable abbrev qbK (nv7 : Nat) (v29 c0_0 c0_1 : Int) (h1 : Rz) : Option (AV) := qoj  (((fx 40 [(3, .ptr 0 0 0), (7, .ms 1 0 nv7), (29, .int .i64 v29)]) : List AV), ([.rows false 2 [[.int .u64 c0_0, .int .u64 c0_1]], .rows true 1 h1] : AH))
noncomputable abbrev qaI (nv7 : Nat) (v29 : Int) (h0 h1 : Rz) : Option (AV) := qoj  (((fx 40 [(3, .ptr 0 0 0), (7, .ms 1 0 nv7), (29, .int .i64 v29)]) : List AV), ([.rows true 2 h0, .rows true 1 h1] : AH))
theorem qeF (n : Int) (r : List AV) {P : MV × List (List AV) → Prop} (h : Gets (bif decide (n < 64) then kOpt (qsg r 0) fun v => kInt .u64 v fun n_1 => kOpt (vt (Op.shift BinOp.shl .u64 1 .i64 n)) fun v => kInt .u64 v fun n => kOpt (vt (Op.intBits BinOp.or .u64 n_1 n)) fun v => kInt .u64 v fun n => bif qsw 1 (qsk r) then some (MV.unit, [AV.int .u64 n :: List.drop 1 r]) else none else kOpt (qsg r 1) fun v => kInt .u64 v fun n_1 => kOpt (vt (Op.shift BinOp.shl .u64 1 .i64 (IntKind.wrap .i64 (n - 64)))) fun v => kInt .u64 v fun n => kOpt (vt (Op.intBits BinOp.or .u64 n_1 n)) fun v => kInt .u64 v fun n => bif qsw 2 (qsk r) then some (MV.unit, [qsD (qsD (qsr 1 r) [AV.int .u64 n]) (List.drop 2 r)]) else none) P) : Gets (EVm (EV cfg) 219 [.ptr 0 0 0, .int .i64 n] 2 [r]) P :=
  gE (fun _ => funM rfl rfl Tryz.func219 rfl) (by kernel_rfl) h
theorem qkQ (kp np : Int) (sp : Bz) (lp : Rz) {P : AV → Prop} (h : Gets (kOpt (EVs (EV cfg) 118 [.agg [.int .i64 kp, .int .i64 np, .str sp, .sl lp]]) fun v => qv v fun b => bif ! b then some (.sl []) else zn 1 kp np sp lp 0 (0 : Int) kp np sp lp [[AV.int .i64 kp, .int .i64 np, .str sp, .sl lp]]) P) : Gets (EVf (EV cfg) 167 [.agg [.int .i64 kp, .int .i64 np, .str sp, .sl lp]]) P :=
  gE (fun _ => funF rfl rfl Tryz.func167 rfl) (by kernel_rfl) h
theorem qbs (nv3 : Nat) (c0_0 c0_1 : Int) (c0_2 : Bz) (c0_3 : Rz) (c1_0 c1_1 c2_0 c2_1 : Int) (c2_2 : Bz) (c2_3 h4 : Rz) {P : AV → Prop} (h : Gets (bif decide ((↑ nv3 : Int) > 0) then bif qh 0 (IntKind.wrap .i64 ((↑ nv3 : Int) - 1)) && qo (IntKind.wrap .i64 ((↑ nv3 : Int) - 1)) (↑ nv3 : Int) then kOpt (qsg h4 (0 + qsC (IntKind.wrap .i64 ((↑ nv3 : Int) - 1)))) fun row => bif qsw 4 (qsk row) then kTmC (qsr 4 row) fun n n_1 s rows => (bif qh 0 (IntKind.wrap .i64 ((↑ nv3 : Int) - 1)) && qh (IntKind.wrap .i64 ((↑ nv3 : Int) - 1)) (↑ nv3 : Int) then bif n == 7 then bif vE 4 rows then bif qsw (0 + (qsC (IntKind.wrap .i64 ((↑ nv3 : Int) - 1)) - 0)) (qsk h4) && qO (qsC (IntKind.wrap .i64 ((↑ nv3 : Int) - 1)) - 0 + qsk rows) 56 then zn (qsC (IntKind.wrap .i64 ((↑ nv3 : Int) - 1)) - 0 + qsk rows) c0_0 c0_1 c0_2 c0_3 c1_0 c1_1 c2_0 c2_1 c2_2 c2_3 (qsD (qsr (qsC (IntKind.wrap .i64 ((↑ nv3 : Int) - 1)) - 0) h4) rows) else none else none else bif n == 9 then bif vE 4 rows then bif qsw (0 + (qsC (IntKind.wrap .i64 ((↑ nv3 : Int) - 1)) - 0)) (qsk h4) && qO (qsC (IntKind.wrap .i64 ((↑ nv3 : Int) - 1)) - 0 + qsk rows) 56 then zn (qsC (IntKind.wrap .i64 ((↑ nv3 : Int) - 1)) - 0 + qsk rows) c0_0 c0_1 c0_2 c0_3 c1_0 c1_1 c2_0 c2_1 c2_2 c2_3 (qsD (qsr (qsC (IntKind.wrap .i64 ((↑ nv3 : Int) - 1)) - 0) h4) rows) else none else none else kOpt (EVs (EV cfg) 120 [.str s]) fun v => kTup v fun cs => qn cs fun c cs => kInt .i64 c fun n_2 => qn cs fun c cs => qv c fun b => kNil cs (bif b then bif n == 2 then kOpt (EVm (EV cfg) 219 [.ptr 0 0 0, .int .i64 n_2] 2 [[AV.int .u64 c1_0, .int .u64 c1_1]]) fun q => qa5 q.1 (yq (qsC (IntKind.wrap .i64 ((↑ nv3 : Int) - 1)) - 0) c0_0 c0_1 c0_2 c0_3 q.2 c2_0 c2_1 c2_2 c2_3 h4) else zn (qsC (IntKind.wrap .i64 ((↑ nv3 : Int) - 1)) - 0) c0_0 c0_1 c0_2 c0_3 c1_0 c1_1 c2_0 c2_1 c2_2 c2_3 h4 else zn (qsC (IntKind.wrap .i64 ((↑ nv3 : Int) - 1)) - 0) c0_0 c0_1 c0_2 c0_3 c1_0 c1_1 c2_0 c2_1 c2_2 c2_3 h4) else none) else none else none else qbK 0 0 c1_0 c1_1 []) P) : Gets (zn nv3 c0_0 c0_1 c0_2 c0_3 c1_0 c1_1 c2_0 c2_1 c2_2 c2_3 h4) P :=
  gE (fun _ => qt (cfg := cfg) (f := 174) (rd := none) (bs := 4)) (by kernel_rfl) h
theorem qaR (nv3 : Nat) (c0_0 c0_1 : Int) (c0_2 : Bz) (c0_3 h1 : Rz) (c2_0 c2_1 : Int) (c2_2 : Bz) (c2_3 h4 : Rz) {P : AV → Prop} (h : Gets (bif decide ((↑ nv3 : Int) > 0) then bif qh 0 (IntKind.wrap .i64 ((↑ nv3 : Int) - 1)) && qo (IntKind.wrap .i64 ((↑ nv3 : Int) - 1)) (↑ nv3 : Int) then kOpt (qsg h4 (0 + qsC (IntKind.wrap .i64 ((↑ nv3 : Int) - 1)))) fun row => bif qsw 4 (qsk row) then kTmC (qsr 4 row) fun n n_1 s rows => (bif qh 0 (IntKind.wrap .i64 ((↑ nv3 : Int) - 1)) && qh (IntKind.wrap .i64 ((↑ nv3 : Int) - 1)) (↑ nv3 : Int) then bif n == 7 then bif vE 4 rows then bif qsw (0 + (qsC (IntKind.wrap .i64 ((↑ nv3 : Int) - 1)) - 0)) (qsk h4) && qO (qsC (IntKind.wrap .i64 ((↑ nv3 : Int) - 1)) - 0 + qsk rows) 56 then yq (qsC (IntKind.wrap .i64 ((↑ nv3 : Int) - 1)) - 0 + qsk rows) c0_0 c0_1 c0_2 c0_3 h1 c2_0 c2_1 c2_2 c2_3 (qsD (qsr (qsC (IntKind.wrap .i64 ((↑ nv3 : Int) - 1)) - 0) h4) rows) else none else none else bif n == 9 then bif vE 4 rows then bif qsw (0 + (qsC (IntKind.wrap .i64 ((↑ nv3 : Int) - 1)) - 0)) (qsk h4) && qO (qsC (IntKind.wrap .i64 ((↑ nv3 : Int) - 1)) - 0 + qsk rows) 56 then yq (qsC (IntKind.wrap .i64 ((↑ nv3 : Int) - 1)) - 0 + qsk rows) c0_0 c0_1 c0_2 c0_3 h1 c2_0 c2_1 c2_2 c2_3 (qsD (qsr (qsC (IntKind.wrap .i64 ((↑ nv3 : Int) - 1)) - 0) h4) rows) else none else none else kOpt (EVs (EV cfg) 120 [.str s]) fun v => kTup v fun cs => qn cs fun c cs => kInt .i64 c fun n_2 => qn cs fun c cs => qv c fun b => kNil cs (bif b then bif n == 2 then kOpt (EVm (EV cfg) 219 [.ptr 0 0 0, .int .i64 n_2] 2 h1) fun q => qa5 q.1 (yq (qsC (IntKind.wrap .i64 ((↑ nv3 : Int) - 1)) - 0) c0_0 c0_1 c0_2 c0_3 q.2 c2_0 c2_1 c2_2 c2_3 h4) else yq (qsC (IntKind.wrap .i64 ((↑ nv3 : Int) - 1)) - 0) c0_0 c0_1 c0_2 c0_3 h1 c2_0 c2_1 c2_2 c2_3 h4 else yq (qsC (IntKind.wrap .i64 ((↑ nv3 : Int) - 1)) - 0) c0_0 c0_1 c0_2 c0_3 h1 c2_0 c2_1 c2_2 c2_3 h4) else none) else none else none else qaI 0 0 h1 []) P) : Gets (yq nv3 c0_0 c0_1 c0_2 c0_3 h1 c2_0 c2_1 c2_2 c2_3 h4) P :=
  gE (fun _ => qt (cfg := cfg) (f := 174) (rd := none) (bs := 4)) (by kernel_rfl) h
theorem qey (nv7 : Nat) (v29 c0_0 c0_1 : Int) (h1 : Rz) {P : AV → Prop} (h : Gets (bif decide (v29 < 100) then kOpt (EVs (EV cfg) 220 [AV.cptr [AV.int .u64 c0_0, .int .u64 c0_1] 0, .int .i64 v29]) fun v => qv v fun b => bif b then bif qsw (0 + nv7) (qsk h1) && qO (nv7 + 1) 8 then qbK (nv7 + 1) (IntKind.wrap .i64 (v29 + 1)) c0_0 c0_1 (qsD (qsr nv7 h1) [[AV.int .i64 v29]]) else none else qbK nv7 (IntKind.wrap .i64 (v29 + 1)) c0_0 c0_1 h1 else bif qsw (0 + nv7) (qsk h1) && true then some (.sl (qsr nv7 h1)) else none) P) : Gets (qbK nv7 v29 c0_0 c0_1 h1) P :=
  gE (fun _ => qt (cfg := cfg) (f := 167) (rd := none) (bs := 0)) (by kernel_rfl) h
theorem qcX (nv7 : Nat) (v29 : Int) (h0 h1 : Rz) {P : AV → Prop} (h : Gets (bif decide (v29 < 100) then kOpt (qsg h0 0) fun row => bif qp 0 row then bif qp 0 [AV.cptr row 0, .int .i64 v29] then kOpt (EVs (EV cfg) 220 [AV.cptr row 0, .int .i64 v29]) fun v => qv v fun b => bif b then bif qsw (0 + nv7) (qsk h1) && qO (nv7 + 1) 8 then qaI (nv7 + 1) (IntKind.wrap .i64 (v29 + 1)) h0 (qsD (qsr nv7 h1) [[AV.int .i64 v29]]) else none else qaI nv7 (IntKind.wrap .i64 (v29 + 1)) h0 h1 else none else none else bif qsw (0 + nv7) (qsk h1) && true then some (.sl (qsr nv7 h1)) else none) P) : Gets (qaI nv7 v29 h0 h1) P :=
  gE (fun _ => qt (cfg := cfg) (f := 167) (rd := none) (bs := 0)) (by kernel_rfl) h
end Go.Proofs.YtjiecipfkjaooaaGreat
end
section
namespace Go.Av
def xz (q : Nat → Bool) : AV := .sl (qk (((qsM 100).filter q).map Int.ofNat))
theorem zv : ∀ l : List Tm, l.length ≤ wL l
 | [] => qso _
 | t :: l => by rw [qW, List.length_cons]; have := xf t; have := zv l; omega
theorem qly : qac (fun _ => false) [.int .u64 0, .int .u64 0] := ⟨0, 0, [], rfl, by decide, by decide, fun n _ => Nat.zero_testBit n, fun n _ => Nat.zero_testBit n⟩
theorem qbh (x : Tm) : vE 4 (qa x.subs) = true := qaT _
end Go.Av
namespace Go.Proofs.YtjiecipfkjaooaaGreat
open Go.Av
theorem qfS {p : Nat → Bool} {r : List AV} (h : qac p r) {n : Nat} (hn : n < 100) : ∃ r', EVm (EV cfg) 219 [.ptr 0 0 0, .int .i64 n] 2 [r] = some (.unit, [r']) ∧
  qac (fun i => p i || decide (i = n)) r' ∧ r'.drop 2 = r.drop 2 ∧ r'.length = r.length ∧ (qp 0 r = true → qp 0 r' = true) := by
 obtain ⟨lo, hi, l, rfl, h1, h2, h3, h4⟩ := h
 have pw : ∀ {k : Nat}, k < 64 → 2 ^ k < 18446744073709551616 := by
  intro k hk
  have : 2 ^ k < 2 ^ 64 := Nat.pow_lt_pow_right (by omega) hk
  simpa using this
 have orlt : ∀ {a b : Nat}, a < 18446744073709551616 → b < 18446744073709551616 → a ||| b < 18446744073709551616 := by
  intro a b ha hb
  have := Nat.or_lt_two_pow (n := 64) (by simpa using ha) (by simpa using hb)
  simpa using this
 have bit : ∀ {a k i : Nat}, (a ||| 2 ^ k).testBit i = (a.testBit i || decide (i = k)) := by
  intro a k i
  rw [Nat.testBit_or, Nat.testBit_two_pow]
  congr 1
  exact decide_eq_decide.2 ⟨fun h => h.symm, fun h => h.symm⟩
 by_cases hs : n < 64
 ·refine ⟨.int .u64 ((lo ||| 2 ^ n : Nat) : Int) :: .int .u64 hi :: l, ?_, ⟨_, hi, l, rfl, orlt h1 (pw hs), h2, fun i hi => ?_, fun i hi => ?_⟩, rfl, rfl, fun h => h⟩
  ·apply Gets.get
   refine qeF _ _ ?_
   rw [decide_eq_true (show (n : Int) < 64 by omega)]
   simp only [cond_true, qq, List.getElem?_cons_zero, qf, qy, qlx hs, qlA h1 (pw hs)]
   exact ⟨_, rfl, rfl⟩
  ·rw [bit, h3 i hi]
  ·have : decide (i + 64 = n) = false := decide_eq_false (by omega)
   rw [h4 i hi]
   show p (i + 64) = (p (i + 64) || decide (i + 64 = n))
   rw [this, Bool.or_false]
 ·obtain ⟨k, rfl⟩ : ∃ k, n = k + 64 := ⟨n - 64, by omega⟩
  have hk : k < 64 := by omega
  have w : IntKind.wrap .i64 (((k + 64 : Nat) : Int) - 64) = (k : Int) := by rw [vm (by omega) (by omega)]; omega
  refine ⟨.int .u64 lo :: .int .u64 ((hi ||| 2 ^ k : Nat) : Int) :: l, ?_, ⟨lo, _, l, rfl, h1, orlt h2 (pw hk), fun i hi => ?_, fun i hi => ?_⟩, rfl, rfl, fun h => h⟩
  ·apply Gets.get
   refine qeF _ _ ?_
   rw [decide_eq_false (show ¬ ((k + 64 : Nat) : Int) < 64 by omega), w]
   simp only [cond_false, qq, List.getElem?_cons_succ, List.getElem?_cons_zero, qf, qy, qlx hk, qlA h2 (pw hk)]
   exact ⟨_, rfl, rfl⟩
  ·have : decide (i = k + 64) = false := decide_eq_false (by omega)
   rw [h3 i hi]
   show p i = (p i || decide (i = k + 64))
   rw [this, Bool.or_false]
  ·rw [bit, h4 i hi]
   congr 1
   exact decide_eq_decide.2 (by omega)
theorem qjb {q : Nat → Bool} {s : List AV} (h : qac q s) (h2 : s.length = 2) : Gets (qaI 0 0 [s] []) (· = xz q) := by
 have hf : qp 0 s = true := by
  obtain ⟨lo, hi, l, rfl, _⟩ := h
  cases l with
  | nil => rfl
  | cons a l => simp at h2
 have hg : ∀ n : Int, qp 0 [AV.cptr s 0, .int .i64 n] = true := by
  intro n
  obtain ⟨lo, hi, l, rfl, _⟩ := h
  cases l with
  | nil => rfl
  | cons a l => simp at h2
 have loop : ∀ d i : Nat, i + d = 100 → Gets (qaI ((qsM i).filter q).length i [s] (qk (((qsM i).filter q).map Int.ofNat))) (· = xz q) := by
  intro d
  induction d with
  | zero =>
   intro i hi
   obtain rfl : i = 100 := by omega
   refine qcX _ _ _ _ ?_
   have e1 : qsw (0 + ((qsM 100).filter q).length) (qk (((qsM 100).filter q).map Int.ofNat)).length = true := by rw [qsF, qX, List.length_map]; omega
   have e2 : qsr ((qsM 100).filter q).length (qk (((qsM 100).filter q).map Int.ofNat)) = qk (((qsM 100).filter q).map Int.ofNat) := qsp (by rw [qX, List.length_map]; exact qso _)
   rw [show decide (((100 : Nat) : Int) < 100) = false from rfl, e1, e2]
   exact ⟨_, rfl, rfl⟩
  | succ d ih =>
   intro i hi
   have h1 := ih (i + 1) (by omega)
   rw [List.range_succ, List.filter_append] at h1
   refine qcX _ _ _ _ ?_
   have hle : ((qsM i).filter q).length ≤ i := by have := List.length_filter_le q (qsM i); rw [List.length_range] at this; exact this
   have e1 : qsw (0 + ((qsM i).filter q).length) (qk (((qsM i).filter q).map Int.ofNat)).length = true := by rw [qsF, qX, List.length_map]; omega
   have e2 : qsr ((qsM i).filter q).length (qk (((qsM i).filter q).map Int.ofNat)) = qk (((qsM i).filter q).map Int.ofNat) := qsp (by rw [qX, List.length_map]; exact qso _)
   have e3 : IntKind.wrap .i64 ((i : Int) + 1) = ((i + 1 : Nat) : Int) := by rw [vm (by omega) (by omega)]; omega
   rw [decide_eq_true (show (i : Int) < 100 by omega), qq, List.getElem?_cons_zero, e1, e2, e3, qgI (by omega)]
   simp only [cond_true, qf, qu, hf, hg, qsH, qhK h (show i < 100 by omega)]
   cases hq : q i with
   | true =>
    rw [List.filter_cons_of_pos hq, List.filter_nil, List.map_append, qsz] at h1
    rw [cond_true]
    have e4 : qk (((qsM i).filter q).map Int.ofNat ++ [i].map Int.ofNat) = qsD (qk (((qsM i).filter q).map Int.ofNat)) [[AV.int .i64 i]] := by
     unfold qk; rw [List.map_append]; rfl
    rw [e4] at h1
    exact h1
   | false =>
    rw [List.filter_cons_of_neg (by rw [hq]; decide), List.filter_nil, List.append_nil] at h1
    rw [cond_false]
    exact h1
 exact loop 100 0 rfl
theorem qhG : Gets (qbK 0 0 0 0 []) (· = xz fun i => ([] : List Tm).any (vn (i : Nat))) := by
 have loop : ∀ d i : Nat, i + d = 100 → Gets (qbK 0 i 0 0 []) (· = xz fun i => ([] : List Tm).any (vn (i : Nat))) := by
  intro d
  induction d with
  | zero =>
   intro i hi
   obtain rfl : i = 100 := by omega
   refine qey _ _ _ _ _ ?_
   rw [show decide (((100 : Nat) : Int) < 100) = false from rfl]
   exact ⟨_, rfl, rfl⟩
  | succ d ih =>
   intro i hi
   refine qey _ _ _ _ _ ?_
   have e3 : IntKind.wrap .i64 ((i : Int) + 1) = ((i + 1 : Nat) : Int) := by rw [vm (by omega) (by omega)]; omega
   rw [decide_eq_true (show (i : Int) < 100 by omega), qhK qly (show i < 100 by omega), e3]
   simp only [cond_true, qf, qu, cond_false]
   exact ih (i + 1) (by omega)
 exact loop 100 0 rfl
theorem qlR {p : Tm} : ∀ (n : Nat) (R : List Tm) (h4 : List (List AV)) (s : List AV) (q : Nat → Bool), wL R ≤ n → n < 1099511627776 → R.length ≤ h4.length → h4.take R.length = qa R → qac q s → s.length = 2 → 
  Gets (yq R.length p.kind p.num p.str (qa p.subs) [s] p.kind p.num p.str (qa p.subs) h4) (· = xz fun i => q i || R.any (vn (i : Nat))) := by
 intro n
 induction n with
 | zero =>
  intro R h4 s q hw hn hl ht hs hs2
  have hR : R = [] := by
   cases R with
   | nil => rfl
   | cons x l => rw [qW] at hw; have := xf x; omega
  subst hR
  refine qaR _ _ _ _ _ _ _ _ _ _ _ ?_
  have : decide (((([] : List Tm).length : Nat) : Int) > 0) = false := rfl
  rw [this, cond_false]
  exact qjb (by simpa using hs) hs2
 | succ n ih =>
  intro R h4 s q hw hn hl ht hs hs2
  rcases List.eq_nil_or_concat R with rfl | ⟨R', x, hR⟩
  ·refine qaR _ _ _ _ _ _ _ _ _ _ _ ?_
   have : decide (((([] : List Tm).length : Nat) : Int) > 0) = false := rfl
   rw [this, cond_false]
   exact qjb (by simpa using hs) hs2
  ·obtain rfl : R = R' ++ [x] := by rw [hR]; simp
   clear hR
   rw [ya, qW, vP] at hw
   have hx := xf x
   have hwe := x.w_eq
   have hRl := zv R'
   rw [qsz, List.length_singleton] at hl ht ⊢
   refine qaR _ _ _ _ _ _ _ _ _ _ _ ?_
   have g0 : decide (((R'.length + 1 : Nat) : Int) > 0) = true := decide_eq_true (by omega)
   have g1 : IntKind.wrap .i64 (((R'.length + 1 : Nat) : Int) - 1) = (R'.length : Int) := by rw [vm (by omega) (by omega)]; omega
   have g2 : qo (R'.length : Int) ((R'.length + 1 : Nat) : Int) = true := decide_eq_true (by omega)
   have g3 : qh (R'.length : Int) ((R'.length + 1 : Nat) : Int) = true := decide_eq_true (by omega)
   have g4 : h4[R'.length]? = some x.cells := by
    have : (h4.take (R'.length + 1))[R'.length]? = some x.cells := by
     rw [ht, xl]; simp
    rwa [List.getElem?_take, if_pos (by omega)] at this
   have g5 : h4.take R'.length = qa R' := by
    have : (h4.take (R'.length + 1)).take R'.length = qa R' := by
     rw [ht, q8]
     exact List.take_left' (qb R')
    rwa [List.take_take, Nat.min_eq_left (by omega)] at this
   have g6 : qsw (0 + R'.length) h4.length = true := by rw [qsF]; omega
   rw [g0, g1, qA, g2, g3, qq, qsE, Nat.zero_add, g4, Nat.sub_zero]
   simp only [cond_true, qsH, qf, qx, qG, qB, zf, qb, g5, qbh]
   have push : (x.kind = 7 ∨ x.kind = 9) → Gets (yq (R'.length + x.subs.length) p.kind p.num p.str (qa p.subs) [s] p.kind p.num p.str (qa p.subs) (qsD (qa R') (qa x.subs))) (· = xz fun i => q i || (R' ++ [x]).any (vn (i : Nat))) := by
    intro hk
    have hl := zv x.subs
    have h := ih (R' ++ x.subs) (qa (R' ++ x.subs)) s q (by rw [ya]; omega) (by omega) (by rw [qb]; exact qso _) (qsp (by simp)) hs hs2
    rw [qsz] at h
    rw [show qsD (qa R') (qa x.subs) = qa (R' ++ x.subs) from (q8 _ _).symm]
    refine Gets.mono h ?_
    rintro _ rfl
    apply congrArg xz
    funext i
    rw [List.any_append, List.any_append, List.any_cons, List.any_nil, Bool.or_false, yc _ x, if_pos hk]
   have drop : (¬ (x.kind = 7 ∨ x.kind = 9)) → ¬ (x.kind = 2 ∧ (varG x.str).isSome) → Gets (yq R'.length p.kind p.num p.str (qa p.subs) [s] p.kind p.num p.str (qa p.subs) h4) (· = xz fun i => q i || (R' ++ [x]).any (vn (i : Nat))) := by
    intro hk hv
    refine Gets.mono (ih R' h4 s q (by omega) (by omega) (by omega) g5 hs hs2) ?_
    rintro _ rfl
    apply congrArg xz
    funext i
    have : vn (i : Nat) x = false := by
     rw [yc, if_neg hk]
     by_cases h2 : x.kind = 2
     ·rw [decide_eq_true h2, qsL, decide_eq_false]
      intro h
      exact hv ⟨h2, by rw [h]; rfl⟩
     ·rw [decide_eq_false h2, Bool.false_and]
    rw [List.any_append, List.any_cons, List.any_nil, this, Bool.or_false, Bool.or_false]
   rw [beqI, beqI, beqI, qaZ, g6]
   by_cases h7 : x.kind = 7
   ·rw [decide_eq_true h7]
    simp only [cond_true, qsL, x8 (show R'.length + x.subs.length ≤ 1099511627776 by have := zv x.subs; omega)]
    exact push (.inl h7)
   rw [decide_eq_false h7, cond_false]
   by_cases h9 : x.kind = 9
   ·rw [decide_eq_true h9]
    simp only [cond_true, qsL, x8 (show R'.length + x.subs.length ≤ 1099511627776 by have := zv x.subs; omega)]
    exact push (.inr h9)
   rw [decide_eq_false h9, cond_false]
   have hk : ¬ (x.kind = 7 ∨ x.kind = 9) := by omega
   unfold varR
   simp only [qf, kTup, qn, qy, qu, kNil]
   cases hv : varG x.str with
   | none =>
    rw [hv] at drop
    exact drop hk (by simp)
   | some v =>
    by_cases h2 : x.kind = 2
    ·rw [decide_eq_true h2]
     obtain ⟨hv0, hv9⟩ := qhc hv
     obtain ⟨m, rfl⟩ : ∃ m : Nat, v = m := ⟨v.toNat, by omega⟩
     obtain ⟨r', hr1, hr2, hr3, hr4, hr5⟩ := qfS hs (n := m) (by omega)
     simp only [Option.getD_some, Option.isSome_some, cond_true, hr1, qf, qa5]
     refine Gets.mono (ih R' h4 r' _ (by omega) (by omega) (by omega) g5 hr2 (by rw [hr4]; exact hs2)) ?_
     rintro _ rfl
     apply congrArg xz
     funext i
     have : vn (i : Nat) x = decide (i = m) := by
      rw [yc, if_neg hk, decide_eq_true h2, qsL, hv]
      exact decide_eq_decide.2 ⟨fun h => by cases h; rfl, fun h => by rw [h]⟩
     rw [List.any_append, List.any_cons, List.any_nil, this, Bool.or_false]
     cases q i <;> cases decide (i = m) <;> cases R'.any (vn (i : Nat)) <;> rfl
    ·rw [decide_eq_false h2]
     exact drop hk (fun h => h2 h.1)
theorem qni {p : Tm} : ∀ (n : Nat) (R : List Tm) (h4 : List (List AV)) , wL R ≤ n → n < 1099511627776 → R.length ≤ h4.length → h4.take R.length = qa R → 
  Gets (zn R.length p.kind p.num p.str (qa p.subs) 0 0 p.kind p.num p.str (qa p.subs) h4) (· = xz fun i => R.any (vn (i : Nat))) := by
 intro n
 induction n with
 | zero =>
  intro R h4  hw hn hl ht 
  have hR : R = [] := by
   cases R with
   | nil => rfl
   | cons x l => rw [qW] at hw; have := xf x; omega
  subst hR
  refine qbs _ _ _ _ _ _ _ _ _ _ _ _ ?_
  have : decide (((([] : List Tm).length : Nat) : Int) > 0) = false := rfl
  rw [this, cond_false]
  exact qhG
 | succ n ih =>
  intro R h4  hw hn hl ht 
  rcases List.eq_nil_or_concat R with rfl | ⟨R', x, hR⟩
  ·refine qbs _ _ _ _ _ _ _ _ _ _ _ _ ?_
   have : decide (((([] : List Tm).length : Nat) : Int) > 0) = false := rfl
   rw [this, cond_false]
   exact qhG
  ·obtain rfl : R = R' ++ [x] := by rw [hR]; simp
   clear hR
   rw [ya, qW, vP] at hw
   have hx := xf x
   have hwe := x.w_eq
   have hRl := zv R'
   rw [qsz, List.length_singleton] at hl ht ⊢
   refine qbs _ _ _ _ _ _ _ _ _ _ _ _ ?_
   have g0 : decide (((R'.length + 1 : Nat) : Int) > 0) = true := decide_eq_true (by omega)
   have g1 : IntKind.wrap .i64 (((R'.length + 1 : Nat) : Int) - 1) = (R'.length : Int) := by rw [vm (by omega) (by omega)]; omega
   have g2 : qo (R'.length : Int) ((R'.length + 1 : Nat) : Int) = true := decide_eq_true (by omega)
   have g3 : qh (R'.length : Int) ((R'.length + 1 : Nat) : Int) = true := decide_eq_true (by omega)
   have g4 : h4[R'.length]? = some x.cells := by
    have : (h4.take (R'.length + 1))[R'.length]? = some x.cells := by
     rw [ht, xl]; simp
    rwa [List.getElem?_take, if_pos (by omega)] at this
   have g5 : h4.take R'.length = qa R' := by
    have : (h4.take (R'.length + 1)).take R'.length = qa R' := by
     rw [ht, q8]
     exact List.take_left' (qb R')
    rwa [List.take_take, Nat.min_eq_left (by omega)] at this
   have g6 : qsw (0 + R'.length) h4.length = true := by rw [qsF]; omega
   rw [g0, g1, qA, g2, g3, qq, qsE, Nat.zero_add, g4, Nat.sub_zero]
   simp only [cond_true, qsH, qf, qx, qG, qB, zf, qb, g5, qbh]
   have push : (x.kind = 7 ∨ x.kind = 9) → Gets (zn (R'.length + x.subs.length) p.kind p.num p.str (qa p.subs) 0 0 p.kind p.num p.str (qa p.subs) (qsD (qa R') (qa x.subs))) (· = xz fun i => (R' ++ [x]).any (vn (i : Nat))) := by
    intro hk
    have hl := zv x.subs
    have h := ih (R' ++ x.subs) (qa (R' ++ x.subs))  (by rw [ya]; omega) (by omega) (by rw [qb]; exact qso _) (qsp (by simp)) 
    rw [qsz] at h
    rw [show qsD (qa R') (qa x.subs) = qa (R' ++ x.subs) from (q8 _ _).symm]
    refine Gets.mono h ?_
    rintro _ rfl
    apply congrArg xz
    funext i
    rw [List.any_append, List.any_append, List.any_cons, List.any_nil, Bool.or_false, yc _ x, if_pos hk]
   have drop : (¬ (x.kind = 7 ∨ x.kind = 9)) → ¬ (x.kind = 2 ∧ (varG x.str).isSome) → Gets (zn R'.length p.kind p.num p.str (qa p.subs) 0 0 p.kind p.num p.str (qa p.subs) h4) (· = xz fun i => (R' ++ [x]).any (vn (i : Nat))) := by
    intro hk hv
    refine Gets.mono (ih R' h4  (by omega) (by omega) (by omega) g5 ) ?_
    rintro _ rfl
    apply congrArg xz
    funext i
    have : vn (i : Nat) x = false := by
     rw [yc, if_neg hk]
     by_cases h2 : x.kind = 2
     ·rw [decide_eq_true h2, qsL, decide_eq_false]
      intro h
      exact hv ⟨h2, by rw [h]; rfl⟩
     ·rw [decide_eq_false h2, Bool.false_and]
    rw [List.any_append, List.any_cons, List.any_nil, this, Bool.or_false, Bool.or_false]
   rw [beqI, beqI, beqI, qaZ, g6]
   by_cases h7 : x.kind = 7
   ·rw [decide_eq_true h7]
    simp only [cond_true, qsL, x8 (show R'.length + x.subs.length ≤ 1099511627776 by have := zv x.subs; omega)]
    exact push (.inl h7)
   rw [decide_eq_false h7, cond_false]
   by_cases h9 : x.kind = 9
   ·rw [decide_eq_true h9]
    simp only [cond_true, qsL, x8 (show R'.length + x.subs.length ≤ 1099511627776 by have := zv x.subs; omega)]
    exact push (.inr h9)
   rw [decide_eq_false h9, cond_false]
   have hk : ¬ (x.kind = 7 ∨ x.kind = 9) := by omega
   unfold varR
   simp only [qf, kTup, qn, qy, qu, kNil]
   cases hv : varG x.str with
   | none =>
    rw [hv] at drop
    exact drop hk (by simp)
   | some v =>
    by_cases h2 : x.kind = 2
    ·rw [decide_eq_true h2]
     obtain ⟨hv0, hv9⟩ := qhc hv
     obtain ⟨m, rfl⟩ : ∃ m : Nat, v = m := ⟨v.toNat, by omega⟩
     obtain ⟨r', hr1, hr2, hr3, hr4, hr5⟩ := qfS qly (n := m) (by omega)
     simp only [Option.getD_some, Option.isSome_some, cond_true, hr1, qf, qa5]
     refine Gets.mono (qlR n R' h4 r' _ (by omega) (by omega) (by omega) g5 hr2 (by rw [hr4]; rfl)) ?_
     rintro _ rfl
     apply congrArg xz
     funext i
     have : vn (i : Nat) x = decide (i = m) := by
      rw [yc, if_neg hk, decide_eq_true h2, qsL, hv]
      exact decide_eq_decide.2 ⟨fun h => by cases h; rfl, fun h => by rw [h]⟩
     rw [List.any_append, List.any_cons, List.any_nil, this, Bool.or_false]
     cases decide (i = m) <;> cases R'.any (vn (i : Nat)) <;> rfl
    ·rw [decide_eq_false h2]
     exact drop hk (fun h => h2 h.1)
theorem qmm {t : Tm} (h : t.w < 1099511627776) : EVf (EV cfg) 167 [t.av] = some (.sl (qk (vU t))) := by
 have hm := qdi h
 apply Gets.get
 rw [Tm.av, Tm.cells_eq] at hm ⊢
 refine qkQ _ _ _ _ ?_
 rw [hm]
 simp only [qf, qu]
 unfold vU
 by_cases hc : t.chk = 0
 ·rw [decide_eq_true hc, if_pos hc]
  have hl := qni (p := t) t.w [t] [t.cells] (by rw [qW, vP]; exact qso _) h (qso _) rfl
  rw [Tm.cells_eq] at hl
  refine Gets.mono hl ?_
  rintro _ rfl
  unfold xz
  have : (fun i : Nat => [t].any (vn (i : Nat))) = fun i : Nat => vn (i : Nat) t := by funext i; simp
  rw [this]
 ·rw [decide_eq_false hc, if_neg hc]
  exact ⟨_, rfl, rfl⟩
end Go.Proofs.YtjiecipfkjaooaaGreat
end
section
namespace Go.Av
theorem qhO {l : List Tm} {i : Nat} {t : Tm} (h : l[i]? = some t) : qsg (qa l) (qsC (i : Int)) = some t.cells := by
 rw [qq, qsE, xl, h]; rfl
def MOut (o : Option (List (Int × Tm))) (b : Bool) (r : List AV) : Prop := match o with
 | some m => b = true ∧ BRow m r ∧ ∀ q ∈ m, q.2.chk = 0
 | none => b = false
def QM (o : Option (List (Int × Tm))) (q : MV × List (List AV)) : Prop := ∃ b r, q = (MV.bool b, [r]) ∧ MOut o b r
theorem QM.same {p t : Tm} {m : List (Int × Tm)} {r : List AV} (h : BRow m r) (hm : ∀ q ∈ m, q.2.chk = 0) : QM (if p = t then some m else none) (MV.bool (decide (p = t)), [r]) := by
 refine ⟨_, r, rfl, ?_⟩
 by_cases h1 : p = t
 ·rw [if_pos h1, decide_eq_true h1]; exact ⟨rfl, h, hm⟩
 ·rw [if_neg h1, decide_eq_false h1]; exact rfl
end Go.Av
namespace Go.Proofs.YtjiecipfkjaooaaGreat
open Go.Av
noncomputable def qry : Den := evC cfg (EV cfg) 165 none 10 (sub (qe Tryz.f165) [0, 0, 0])
noncomputable def qrV : Ex × List AV × AH → Option (OV × AV) := kAft (Cfg.keepOut cfg 165 (qj (sub (qe Tryz.f165) [0, 0, 0]))) (xe 0 (kSeq (fun (fr : List AV) (H : AH) => yO (Cfg.cut cfg 165 (qj (sub (qe Tryz.f165) [1]))) fr H fun (fr : List AV) (H : AH) => q5 cfg (EV cfg) (kfN cfg (5)) 165 none 10 (sub (qe Tryz.f165) [1]) fr H (xg cfg (Cfg.lift cfg 165 0) (fun (v : AV) (H : AH) => (fun (r : AV × AH) => xA 0 9 (fx 34 [(2, AV.ptr 1 0 0), (3, AV.ptr 2 0 0), (4, AV.ptr 3 0 0), (5, AV.ptr 4 0 0)]) (xe 0 (kSeq (fun (fr : List AV) (H : AH) => yO (Cfg.cut cfg 45 (qj (sub (qe Tryz.f45) [1, 1, 1, 1, 1]))) fr H fun (fr : List AV) (H : AH) => q5 cfg (EV cfg) (kfN cfg 6) 45 none 0 (sub (qe Tryz.f45) [1, 1, 1, 1, 1]) fr H (qec cfg (Cfg.lift cfg 45 0) (Array.toList (Func.results Tryz.f45)))) (qec cfg (Cfg.lift cfg 45 0) (Array.toList (Func.results Tryz.f45))))) (Prod.snd r)) (v, H)) (Array.toList (Func.results (Prod.snd (165, Tryz.f165)))))) (xg cfg (Cfg.lift cfg 165 0) (fun (v : AV) (H : AH) => (fun (r : AV × AH) => xA 0 9 (fx 34 [(2, AV.ptr 1 0 0), (3, AV.ptr 2 0 0), (4, AV.ptr 3 0 0), (5, AV.ptr 4 0 0)]) (xe 0 (kSeq (fun (fr : List AV) (H : AH) => yO (Cfg.cut cfg 45 (qj (sub (qe Tryz.f45) [1, 1, 1, 1, 1]))) fr H fun (fr : List AV) (H : AH) => q5 cfg (EV cfg) (kfN cfg 6) 45 none 0 (sub (qe Tryz.f45) [1, 1, 1, 1, 1]) fr H (qec cfg (Cfg.lift cfg 45 0) (Array.toList (Func.results Tryz.f45)))) (qec cfg (Cfg.lift cfg 45 0) (Array.toList (Func.results Tryz.f45))))) (Prod.snd r)) (v, H)) (Array.toList (Func.results (Prod.snd (165, Tryz.f165)))))))
noncomputable def qom : List AV × AH → Option (OV × AV) := fun (p : List AV × AH) => kOpt (LOOP 10 (some [0, 1, 2]) [] qry p) qrV
noncomputable def qoq : Den := evC cfg (EV cfg) 107 none 0 (sub (qe Tryz.f107) [1, 1, 1, 1, 1, 1, 1, 1, 0, 1, 0, 0])
noncomputable def qox : Ex × List AV × AH → Option AV := kAft (Cfg.keepOut cfg 107 11) (kRun cfg (EV cfg) (kfN cfg 6) 107 none 0 (xD cfg (Cfg.lift cfg 107 0) Tryz.f107.results.toList) ([.block 0, .seq (sub (qe Tryz.f107) [1, 1, 1, 1, 1, 1, 1, 1, 1])]))
noncomputable def qkk : List AV × AH → Option AV := fun p => kOpt (LOOP 0 (some [2, 4, 5, 73, 74]) ([]) qoq p) qox
noncomputable def qrx : Den := evC cfg (EV cfg) 107 none 0 (sub (qe Tryz.f107) [1, 1, 1, 1, 1, 1, 1, 1, 0, 1, 0, 0, 1, 1, 0, 0, 1, 1, 0, 0])
noncomputable def qrU : Ex × List AV × AH → Option AV := kAft (Cfg.keepOut cfg 107 14) (kRun cfg (EV cfg) (kfN cfg 6) 107 none 0 (kLp 0 (some [2, 4, 5, 73, 74]) ([]) qoq qox) ([.block 2, .block 1, .seq (sub (qe Tryz.f107) [1, 1, 1, 1, 1, 1, 1, 1, 0, 1, 0, 0, 1, 1, 1])]))
noncomputable def qol : List AV × AH → Option AV := fun p => kOpt (LOOP 0 (some [2, 4, 5, 73, 74, 77, 78, 79]) ([]) qrx p) qrU
noncomputable abbrev qi6 (c0_0 c0_1 : Int) (c0_2 : Bz) (c0_3 : Rz) (nc1_0 : Nat) (c2_0 : Int) (nc3_0 : Nat) (c4_0 : Bool) (c5_0 c5_1 : Int) (c5_2 : Bz) (c5_3 h7 h8 : Rz) : Option (OV × AV) := qom  (((fx 23 [(0, .yld 9), (1, .ptr 5 0 0), (2, .ptr 6 0 0)]) : List AV), ([.rows false 4 [[.int .i64 c0_0, .int .i64 c0_1, .str c0_2, .sl c0_3]], .rows false 1 [[.ms 7 0 nc1_0]], .rows false 1 [[.int .i64 c2_0]], .rows false 1 [[.ms 8 0 nc3_0]], .rows false 1 [[.bool c4_0]], .rows false 4 [[.int .i64 c5_0, .int .i64 c5_1, .str c5_2, .sl c5_3]], .rows false 1 [[.ptr 4 0 0]], .rows true 6 h7, .rows true 6 h8, rngB Tryz.f45 45 [1, 1, 1, 1, 0, 1, 0] (fx 34 [(2, .ptr 1 0 0), (3, .ptr 2 0 0), (4, .ptr 3 0 0)]) none LoopState.ready] : AH))
noncomputable abbrev qng (n n' : Int) (s : Bz) (rows rows' rows'' rows''' : Rz) : Option (AV) := qkk  (((fx 91 [(2, .ptr 0 0 0), (4, .ptr 1 0 0), (5, .sl rows'), (73, .agg [.sl rows'', .sl rows''']), (74, .int .i64 (0 : Int))]) : List AV), ([.rows false 6 [[.int .i64 (0 : Int), .int .i64 (0 : Int), .str [], .sl [], .sl [], .sl []]], .rows false 6 [[.int .i64 n, .int .i64 n', .str s, .sl rows, .sl rows'', .sl rows''']]] : AH))
noncomputable abbrev qha (c0_0 c0_1 : Int) (c0_2 : Bz) (c0_3 : Rz) (nc1_0 : Nat) (c2_0 : Int) (nc3_0 : Nat) (c4_0 : Bool) (c5_0 c5_1 : Int) (c5_2 : Bz) (c5_3 h7 h10 : Rz) : Option (OV × AV) := qom  (((fx 23 [(0, .yld 9), (1, .ptr 5 0 0), (2, .ptr 6 0 0)]) : List AV), ([.rows false 4 [[.int .i64 c0_0, .int .i64 c0_1, .str c0_2, .sl c0_3]], .rows false 1 [[.ms 7 0 nc1_0]], .rows false 1 [[.int .i64 c2_0]], .rows false 1 [[.ms 10 0 nc3_0]], .rows false 1 [[.bool c4_0]], .rows false 4 [[.int .i64 c5_0, .int .i64 c5_1, .str c5_2, .sl c5_3]], .rows false 1 [[.ptr 4 0 0]], .rows true 6 h7, .dead, rngB Tryz.f45 45 [1, 1, 1, 1, 0, 1, 0] (fx 34 [(2, .ptr 1 0 0), (3, .ptr 2 0 0), (4, .ptr 3 0 0)]) none LoopState.ready, .rows true 6 h10] : AH))
noncomputable abbrev qfJ (rows' rows'' rows''' : Rz) (v79 c0_0 c0_1 : Int) (c0_2 : Bz) (c0_3 c0_4 c0_5 : Rz) (c1_0 c1_1 : Int) (c1_2 : Bz) (c1_3 c1_4 c1_5 : Rz) : Option (AV) := qol  (((fx 91 [(2, .ptr 0 0 0), (4, .ptr 1 0 0), (5, .sl rows'), (73, .agg [.sl rows'', .sl rows''']), (74, .int .i64 (0 : Int)), (77, .sl rows''), (78, .int .i64 (rows''.length : Int)), (79, .int .i64 v79)]) : List AV), ([.rows false 6 [[.int .i64 c0_0, .int .i64 c0_1, .str c0_2, .sl c0_3, .sl c0_4, .sl c0_5]], .rows false 6 [[.int .i64 c1_0, .int .i64 c1_1, .str c1_2, .sl c1_3, .sl c1_4, .sl c1_5]]] : AH))
noncomputable abbrev qlt (rows' rows'' rows''' : Rz) (c0_0 c0_1 : Int) (c0_2 : Bz) (c0_3 c0_4 c0_5 : Rz) (c1_0 c1_1 : Int) (c1_2 : Bz) (c1_3 c1_4 c1_5 : Rz) : Option (AV) := qkk  (((fx 91 [(2, .ptr 0 0 0), (4, .ptr 1 0 0), (5, .sl rows'), (73, .agg [.sl rows'', .sl rows''']), (74, .int .i64 (1 : Int))]) : List AV), ([.rows false 6 [[.int .i64 c0_0, .int .i64 c0_1, .str c0_2, .sl c0_3, .sl c0_4, .sl c0_5]], .rows false 6 [[.int .i64 c1_0, .int .i64 c1_1, .str c1_2, .sl c1_3, .sl c1_4, .sl c1_5]]] : AH))
noncomputable abbrev qdW (rows' rows'' rows''' : Rz) (v79 c0_0 c0_1 : Int) (c0_2 : Bz) (c0_3 c0_4 c0_5 : Rz) (c1_0 c1_1 : Int) (c1_2 : Bz) (c1_3 c1_4 c1_5 : Rz) : Option (AV) := qol  (((fx 91 [(2, .ptr 0 0 0), (4, .ptr 1 0 0), (5, .sl rows'), (73, .agg [.sl rows'', .sl rows''']), (74, .int .i64 (1 : Int)), (77, .sl rows'''), (78, .int .i64 (rows'''.length : Int)), (79, .int .i64 v79)]) : List AV), ([.rows false 6 [[.int .i64 c0_0, .int .i64 c0_1, .str c0_2, .sl c0_3, .sl c0_4, .sl c0_5]], .rows false 6 [[.int .i64 c1_0, .int .i64 c1_1, .str c1_2, .sl c1_3, .sl c1_4, .sl c1_5]]] : AH))
noncomputable abbrev qls (rows' rows'' rows''' : Rz) (c0_0 c0_1 : Int) (c0_2 : Bz) (c0_3 c0_4 c0_5 : Rz) (c1_0 c1_1 : Int) (c1_2 : Bz) (c1_3 c1_4 c1_5 : Rz) : Option (AV) := qkk  (((fx 91 [(2, .ptr 0 0 0), (4, .ptr 1 0 0), (5, .sl rows'), (73, .agg [.sl rows'', .sl rows''']), (74, .int .i64 (2 : Int))]) : List AV), ([.rows false 6 [[.int .i64 c0_0, .int .i64 c0_1, .str c0_2, .sl c0_3, .sl c0_4, .sl c0_5]], .rows false 6 [[.int .i64 c1_0, .int .i64 c1_1, .str c1_2, .sl c1_3, .sl c1_4, .sl c1_5]]] : AH))
theorem qhk (kt nt : Int) (st : Bz) (lt : Rz) {P : OV × AV → Prop} (h : Gets (kOpt (EVs (EV cfg) 53 [.agg [.int .i64 kt, .int .i64 nt, .str st, .sl lt]]) fun v => kInt .i64 v fun n => bif n != 0 then some (OV.own 6 [] 0 0, .int .i64 (2 : Int)) else qi6 kt nt st lt 0 0 0 false kt nt st lt [] []) P) : Gets (EVq (EV cfg) 45 [.agg [.int .i64 kt, .int .i64 nt, .str st, .sl lt]]) P :=
  gE (fun _ => funQ rfl rfl Tryz.func45 rfl) (by kernel_rfl) h
noncomputable abbrev zt0  : Option (AV) := some (AV.tup [.agg [.int .i64 0, .int .i64 0, .str [], .sl [], .sl [], .sl []], .bool false])
noncomputable abbrev zt1  : Option (AV) := some (AV.tup [AV.agg [.int .i64 0, .int .i64 0, .str [], .sl [], .sl [], .sl []], .bool false])
theorem qjg (kt nt : Int) (st : Bz) (lt : Rz) {P : AV → Prop} (h : Gets (bif kt != 7 then zt0 else bif (lt.length : Int) != 3 then zt0 else bif qo 0 (lt.length : Int) then kOpt (qsg lt 0) fun row => bif qsy (qsk row) 4 then bif qsw 4 (qsk row) then kTmC (qsr 4 row) fun n n_1 s rows => (kOpt (EVs (EV cfg) 166 [.agg [.int .i64 n, .int .i64 n_1, .str s, .sl rows]]) fun v => qv v fun b => bif ! b then some (AV.tup [.agg [.int .i64 0, .int .i64 0, .str [], .sl [], .sl [], .sl []], .bool false]) else bif qo 0 (lt.length : Int) then kOpt (qsg lt 0) fun row => bif qsy (qsk row) 4 then bif qsw 4 (qsk row) then kTmC (qsr 4 row) fun n n_2 s rows => (kOpt (EVf (EV cfg) 167 [.agg [.int .i64 n, .int .i64 n_2, .str s, .sl rows]]) fun v => kSl v fun rows_1 => bif qo 1 (lt.length : Int) then kOpt (qsg lt 1) fun row => bif qsy (qsk row) 4 then bif qsw 4 (qsk row) then kTmC (qsr 4 row) fun n_3 n_4 s_1 rows_2 => (kOpt (EVf (EV cfg) 168 [.agg [.int .i64 n_3, .int .i64 n_4, .str s_1, .sl rows_2]]) fun v => kTup v fun cs => qn cs fun c cs => kSl c fun rows_3 => qn cs fun c cs => qv c fun b => kNil cs (bif qo 2 (lt.length : Int) then kOpt (qsg lt 2) fun row => bif qsy (qsk row) 4 then bif qsw 4 (qsk row) then kTmC (qsr 4 row) fun n_5 n_6 s_2 rows_4 => (kOpt (EVf (EV cfg) 168 [AV.agg [.int .i64 n_5, .int .i64 n_6, .str s_2, .sl rows_4]]) fun v => kTup v fun cs => qn cs fun c cs => kSl c fun rows_5 => qn cs fun c cs => qv c fun b_1 => kNil cs (bif ! b then some (AV.tup [AV.agg [.int .i64 0, .int .i64 (0 : Int), .str [], .sl [], .sl [], .sl []], .bool false]) else bif ! b_1 then zt1 else bif (rows_5.length : Int) == 0 then zt1 else qng n n_2 s rows rows_1 rows_3 rows_5)) else none else none else none)) else none else none else none) else none else none else none) else none else none else none) P) : Gets (EVf (EV cfg) 107 [.agg [.int .i64 kt, .int .i64 nt, .str st, .sl lt]]) P :=
  gE (fun _ => funF rfl rfl Tryz.func107 rfl) (by kernel_rfl) h
noncomputable abbrev zt9 (cs : List AV) (nc3_0 : Nat) (h8 c5_3 : Rz) (c0_0 c0_1 : Int) (c0_2 : Bz) (c0_3 : Rz) (nc1_0 : Nat) (c2_0 : Int) (c4_0 : Bool) (h7 : Rz) (n n_2 : Int) (s : Bz) (rows rows_1 rows_2 : Rz) : Option (OV × AV) := qn cs fun c cs => qv c fun b => kNil cs (bif ! b then some (OV.own 6 [] 0 0, .int .i64 10) else bif qsw (0 + nc3_0) (qsk h8) && qO (nc3_0 + 1) 104 then bif qo 1 (c5_3.length : Int) then kOpt (qsg c5_3 1) fun row => bif qsy (qsk row) 4 then bif qsw 4 (qsk row) then kTmC (qsr 4 row) fun n_3 n_4 s_1 rows_3 => (qha c0_0 c0_1 c0_2 c0_3 nc1_0 c2_0 (nc3_0 + 1) c4_0 n_3 n_4 s_1 rows_3 h7 (qsD (qsr nc3_0 h8) [[AV.int .i64 n, .int .i64 n_2, .str s, .sl rows, .sl rows_1, .sl rows_2]])) else none else none else none else none)
noncomputable abbrev zt8 (n n_1 : Int) (s : Bz) (rows : Rz) (nc3_0 : Nat) (h8 c5_3 : Rz) (c0_0 c0_1 : Int) (c0_2 : Bz) (c0_3 : Rz) (nc1_0 : Nat) (c2_0 : Int) (c4_0 : Bool) (h7 : Rz) : Option (OV × AV) := (kOpt (EVf (EV cfg) 107 [.agg [.int .i64 n, .int .i64 n_1, .str s, .sl rows]]) fun v => kTup v fun cs => qn cs fun c cs => kAgg c fun cs_1 => qn cs_1 fun c cs_2 => kInt .i64 c fun n => qn cs_2 fun c cs_3 => kInt .i64 c fun n_2 => qn cs_3 fun c cs_4 => kStr c fun s => qn cs_4 fun c cs_5 => kSl c fun rows => qn cs_5 fun c cs_6 => kSl c fun rows_1 => qn cs_6 fun c cs_7 => kSl c fun rows_2 => kNil cs_7 (zt9 cs nc3_0 h8 c5_3 c0_0 c0_1 c0_2 c0_3 nc1_0 c2_0 c4_0 h7 n n_2 s rows rows_1 rows_2))
noncomputable abbrev zt7 (row : List AV) (nc3_0 : Nat) (h8 c5_3 : Rz) (c0_0 c0_1 : Int) (c0_2 : Bz) (c0_3 : Rz) (nc1_0 : Nat) (c2_0 : Int) (c4_0 : Bool) (h7 : Rz) : Option (OV × AV) := kTmC (qsr 4 row) fun n n_1 s rows => zt8 n n_1 s rows nc3_0 h8 c5_3 c0_0 c0_1 c0_2 c0_3 nc1_0 c2_0 c4_0 h7
noncomputable abbrev zt6 (row : List AV) (nc3_0 : Nat) (h8 c5_3 : Rz) (c0_0 c0_1 : Int) (c0_2 : Bz) (c0_3 : Rz) (nc1_0 : Nat) (c2_0 : Int) (c4_0 : Bool) (h7 : Rz) : Option (OV × AV) := bif qsw 4 (qsk row) then zt7 row nc3_0 h8 c5_3 c0_0 c0_1 c0_2 c0_3 nc1_0 c2_0 c4_0 h7 else none
noncomputable abbrev zt5 (row : List AV) (nc3_0 : Nat) (h8 c5_3 : Rz) (c0_0 c0_1 : Int) (c0_2 : Bz) (c0_3 : Rz) (nc1_0 : Nat) (c2_0 : Int) (c4_0 : Bool) (h7 : Rz) : Option (OV × AV) := bif qsy (qsk row) 4 then zt6 row nc3_0 h8 c5_3 c0_0 c0_1 c0_2 c0_3 nc1_0 c2_0 c4_0 h7 else none
noncomputable abbrev zt4 (c5_3 : Rz) (nc3_0 : Nat) (h8 : Rz) (c0_0 c0_1 : Int) (c0_2 : Bz) (c0_3 : Rz) (nc1_0 : Nat) (c2_0 : Int) (c4_0 : Bool) (h7 : Rz) : Option (OV × AV) := kOpt (qsg c5_3 0) fun row => zt5 row nc3_0 h8 c5_3 c0_0 c0_1 c0_2 c0_3 nc1_0 c2_0 c4_0 h7
noncomputable abbrev zt3 (c5_3 : Rz) (nc3_0 : Nat) (h8 : Rz) (c0_0 c0_1 : Int) (c0_2 : Bz) (c0_3 : Rz) (nc1_0 : Nat) (c2_0 : Int) (c4_0 : Bool) (h7 : Rz) : Option (OV × AV) := bif qo 0 (c5_3.length : Int) then zt4 c5_3 nc3_0 h8 c0_0 c0_1 c0_2 c0_3 nc1_0 c2_0 c4_0 h7 else none
noncomputable abbrev zt2 (c5_0 : Int) (c5_3 : Rz) (nc3_0 : Nat) (h8 : Rz) (c0_0 c0_1 : Int) (c0_2 : Bz) (c0_3 : Rz) (nc1_0 : Nat) (c2_0 : Int) (c4_0 : Bool) (h7 : Rz) : Option (OV × AV) := bif c5_0 == 9 then zt3 c5_3 nc3_0 h8 c0_0 c0_1 c0_2 c0_3 nc1_0 c2_0 c4_0 h7 else bif ! c5_0 == 8 then some (OV.own 6 [] 0 0, .int .i64 10) else bif (↑ nc3_0 : Int) == 0 then some (OV.own 6 [] 0 0, .int .i64 10) else some (OV.own 6 h8 0 nc3_0, .int .i64 0)
theorem qku (c0_0 c0_1 : Int) (c0_2 : Bz) (c0_3 : Rz) (nc1_0 : Nat) (c2_0 : Int) (nc3_0 : Nat) (c4_0 : Bool) (c5_0 c5_1 : Int) (c5_2 : Bz) (c5_3 h7 h8 : Rz) {P : OV × AV → Prop} (h : Gets (zt2 c5_0 c5_3 nc3_0 h8 c0_0 c0_1 c0_2 c0_3 nc1_0 c2_0 c4_0 h7) P) : Gets (qi6 c0_0 c0_1 c0_2 c0_3 nc1_0 c2_0 nc3_0 c4_0 c5_0 c5_1 c5_2 c5_3 h7 h8) P :=
  gE (fun _ => qt (cfg := cfg) (f := 165) (rd := none) (bs := 10)) (by kernel_rfl) h
theorem qkt (n n' : Int) (s : Bz) (rows rows' rows'' rows''' : Rz) {P : AV → Prop} (h : Gets (qfJ rows' rows'' rows''' 0 0 0 [] [] [] [] n n' s rows rows'' rows''') P) : Gets (qng n n' s rows rows' rows'' rows''') P :=
  gE (fun _ => qt (cfg := cfg) (f := 107) (rd := none) (bs := 0)) (by kernel_rfl) h
theorem qi5 (c0_0 c0_1 : Int) (c0_2 : Bz) (c0_3 : Rz) (nc1_0 : Nat) (c2_0 : Int) (nc3_0 : Nat) (c4_0 : Bool) (c5_0 c5_1 : Int) (c5_2 : Bz) (c5_3 h7 h10 : Rz) {P : OV × AV → Prop} (h : Gets (zt2 c5_0 c5_3 nc3_0 h10 c0_0 c0_1 c0_2 c0_3 nc1_0 c2_0 c4_0 h7) P) : Gets (qha c0_0 c0_1 c0_2 c0_3 nc1_0 c2_0 nc3_0 c4_0 c5_0 c5_1 c5_2 c5_3 h7 h10) P :=
  gE (fun _ => qt (cfg := cfg) (f := 165) (rd := none) (bs := 10)) (by kernel_rfl) h
theorem qeB (rows' rows'' rows''' : Rz) (v79 c0_0 c0_1 : Int) (c0_2 : Bz) (c0_3 c0_4 c0_5 : Rz) (c1_0 c1_1 : Int) (c1_2 : Bz) (c1_3 c1_4 c1_5 : Rz) {P : AV → Prop} (h : Gets (bif decide (v79 < (rows''.length : Int)) then bif qh 0 v79 && qo v79 (rows''.length : Int) then kOpt (qsg rows'' (v79.toNat)) fun row => bif qsy (qsk row) 4 then bif qsw 4 (qsk row) then kTmC (qsr 4 row) fun n n_1 s rows => (kOpt (EVs (EV cfg) 90 [.agg [.int .i64 n, .int .i64 n_1, .str s, .sl rows], .sl rows']) fun v => kInt .i64 v fun n => bif n != 0 then some (AV.tup [.agg [.int .i64 (0 : Int), .int .i64 0, .str [], .sl [], .sl [], .sl []], .bool false]) else qfJ rows' rows'' rows''' (IntKind.wrap .i64 (v79 + 1)) c0_0 c0_1 c0_2 c0_3 c0_4 c0_5 c1_0 c1_1 c1_2 c1_3 c1_4 c1_5) else none else none else none else qlt rows' rows'' rows''' c0_0 c0_1 c0_2 c0_3 c0_4 c0_5 c1_0 c1_1 c1_2 c1_3 c1_4 c1_5) P) : Gets (qfJ rows' rows'' rows''' v79 c0_0 c0_1 c0_2 c0_3 c0_4 c0_5 c1_0 c1_1 c1_2 c1_3 c1_4 c1_5) P :=
  gE (fun _ => qt (cfg := cfg) (f := 107) (rd := none) (bs := 0)) (by kernel_rfl) h
theorem qi4 (rows' rows'' rows''' : Rz) (c0_0 c0_1 : Int) (c0_2 : Bz) (c0_3 c0_4 c0_5 : Rz) (c1_0 c1_1 : Int) (c1_2 : Bz) (c1_3 c1_4 c1_5 : Rz) {P : AV → Prop} (h : Gets (qdW rows' rows'' rows''' 0 c0_0 c0_1 c0_2 c0_3 c0_4 c0_5 c1_0 c1_1 c1_2 c1_3 c1_4 c1_5) P) : Gets (qlt rows' rows'' rows''' c0_0 c0_1 c0_2 c0_3 c0_4 c0_5 c1_0 c1_1 c1_2 c1_3 c1_4 c1_5) P :=
  gE (fun _ => qt (cfg := cfg) (f := 107) (rd := none) (bs := 0)) (by kernel_rfl) h
theorem qcZ (rows' rows'' rows''' : Rz) (v79 c0_0 c0_1 : Int) (c0_2 : Bz) (c0_3 c0_4 c0_5 : Rz) (c1_0 c1_1 : Int) (c1_2 : Bz) (c1_3 c1_4 c1_5 : Rz) {P : AV → Prop} (h : Gets (bif decide (v79 < (rows'''.length : Int)) then bif qh 0 v79 && qo v79 (rows'''.length : Int) then kOpt (qsg rows''' (v79.toNat)) fun row => bif qsy (qsk row) 4 then bif qsw 4 (qsk row) then kTmC (qsr 4 row) fun n n_1 s rows => (kOpt (EVs (EV cfg) 90 [.agg [.int .i64 n, .int .i64 n_1, .str s, .sl rows], .sl rows']) fun v => kInt .i64 v fun n => bif n != 0 then some (AV.tup [.agg [.int .i64 0, .int .i64 0, .str [], .sl [], .sl [], .sl []], .bool false]) else qdW rows' rows'' rows''' (IntKind.wrap .i64 (v79 + 1)) c0_0 c0_1 c0_2 c0_3 c0_4 c0_5 c1_0 c1_1 c1_2 c1_3 c1_4 c1_5) else none else none else none else qls rows' rows'' rows''' c0_0 c0_1 c0_2 c0_3 c0_4 c0_5 c1_0 c1_1 c1_2 c1_3 c1_4 c1_5) P) : Gets (qdW rows' rows'' rows''' v79 c0_0 c0_1 c0_2 c0_3 c0_4 c0_5 c1_0 c1_1 c1_2 c1_3 c1_4 c1_5) P :=
  gE (fun _ => qt (cfg := cfg) (f := 107) (rd := none) (bs := 0)) (by kernel_rfl) h
theorem qi3 (rows' rows'' rows''' : Rz) (c0_0 c0_1 : Int) (c0_2 : Bz) (c0_3 c0_4 c0_5 : Rz) (c1_0 c1_1 : Int) (c1_2 : Bz) (c1_3 c1_4 c1_5 : Rz) {P : AV → Prop} (h : Gets (some (AV.tup [.agg [.int .i64 c1_0, .int .i64 c1_1, .str c1_2, .sl c1_3, .sl c1_4, .sl c1_5], .bool true])) P) : Gets (qls rows' rows'' rows''' c0_0 c0_1 c0_2 c0_3 c0_4 c0_5 c1_0 c1_1 c1_2 c1_3 c1_4 c1_5) P :=
  gE (fun _ => qt (cfg := cfg) (f := 107) (rd := none) (bs := 0)) (by kernel_rfl) h
end Go.Proofs.YtjiecipfkjaooaaGreat
end
section
namespace Go.Av
def clR (o : Option Cl) : AV := match o with
 | some c => .tup [c.av, .bool true]
 | none => .tup [qb7.av, .bool false]
def clsQ (r : List Cl × Int) : OV × AV := (.own 6 (qz r.1) 0 r.1.length, .int .i64 r.2)
def clsA (acc : List Cl) (t : Tm) : List Cl × Int := match seqC (qm t).1 with
 | some l => if (qm t).2 && !(acc ++ l).isEmpty then (acc ++ l, 0) else ([], 10)
 | none => ([], 10)
def okV (V : List Int) (l : List Tm) : Bool := l.all fun e => decide (xq V e = 0)
theorem qe7 (V : List Int) (x : Tm) (l : List Tm) : okV V (x :: l) = (decide (xq V x = 0) && okV V l) := rfl
theorem qc5 (p : Tm) : (vU p).length ≤ 100 := by
 unfold vU
 by_cases h : p.chk = 0
 ·rw [if_pos h, List.length_map]
  have := List.length_filter_le (fun n : Nat => vn (n : Nat) p) (qsM 100)
  rw [List.length_range] at this
  exact this
 ·rw [if_neg h]; exact Nat.zero_le _
theorem qhx {n : Nat} (h : n ≤ 1099511627776) : qO n 104 = true := by
 unfold qO; rw [qsm, qsF, qsF]; omega
def ClOk (c : Cl) : Prop := c.head.chk = 0 ∧ (∀ x ∈ c.gs, x.chk = 0) ∧ (∀ x ∈ c.bs, x.chk = 0) ∧ c.gs.length ≤ 8388608 ∧ c.bs.length ≤ 8388608
theorem qm4 {t : Tm} (h : t.chk = 0) {c : Cl} (hc : vj t = some c) : ClOk c := by
 unfold vj at hc
 by_cases h7 : t.kind = 7
 ·rw [if_pos h7] at hc
  have hw := yy h
  have hwe := t.w_eq
  cases hs : t.subs with
  | nil => rw [hs] at hc; cases hc
  | cons a l => cases l with
   | nil => rw [hs] at hc; cases hc
   | cons b l => cases l with
    | nil => rw [hs] at hc; cases hc
    | cons d l => cases l with
     | nil =>
      rw [hs] at hc hwe
      simp only [qW, vP] at hwe
      simp only [] at hc
      split at hc
      ·cases hc
       have ha : a.chk = 0 := vB h (by rw [hs]; simp)
       have hb : b.chk = 0 := vB h (by rw [hs]; simp)
       have hd : d.chk = 0 := vB h (by rw [hs]; simp)
       have lb := yf hb
       have ld := yf hd
       exact ⟨ha, qaE hb, qaE hd, by show (qm b).1.length ≤ _; omega, by show (qm d).1.length ≤ _; omega⟩
      ·cases hc
     | cons e l => rw [hs] at hc; cases hc
 ·rw [if_neg h7] at hc; cases hc
theorem qlz : ∀ {l : List Tm} {cs : List Cl}, (∀ x ∈ l, x.chk = 0) → seqC l = some cs → ∀ c ∈ cs, ClOk c
 | [], cs, _, h => by cases h; intro c hc; cases hc
 | t :: l, cs, ho, h => by
  rw [seqC] at h
  obtain ⟨c, hc, h⟩ := qsj.1 h
  obtain ⟨r, hr, rfl⟩ := qsl.1 h
  intro d hd
  rcases qsI.1 hd with rfl | hd
  ·exact qm4 (ho t List.mem_cons_self) hc
  ·exact qlz (fun x hx => ho x (List.mem_cons_of_mem _ hx)) hr d hd
theorem qhA (t : Tm) : (∀ c ∈ (clsG t).1, ClOk c) ∧ (clsG t).1.length ≤ 8388608 := by
 unfold clsG
 by_cases hc : t.chk = 0
 ·rw [if_pos hc]
  have hw := yy hc
  have hl := yf hc
  cases hs : seqC (qm t).1 with
  | none => exact ⟨fun c hc => (by cases hc), Nat.zero_le _⟩
  | some l =>
   simp only []
   have hn := qe4 hs
   split
   ·exact ⟨qlz (qaE hc) hs, by show l.length ≤ _; omega⟩
   ·exact ⟨fun c hc => (by cases hc), Nat.zero_le _⟩
 ·rw [if_neg hc]; exact ⟨fun c hc => (by cases hc), Nat.zero_le _⟩
end Go.Av
namespace Go.Proofs.YtjiecipfkjaooaaGreat
open Go.Av
theorem qkb {V : List Int} {h : Tm} {G B : List Tm} (hV : V.length < 1099511627776) (hB : B.length < 1099511627776) (wB : ∀ x ∈ B, x.w < 1099511627776) : ∀ d i : Nat, i + d = B.length →
  Gets (qdW (qk V) (qa G) (qa B) i 0 0 [] [] [] [] h.kind h.num h.str (qa h.subs) (qa G) (qa B)) (· = clR (if okV V (B.drop i) then some ⟨h, G, B⟩ else none)) := by
 intro d
 induction d with
 | zero =>
  intro i hi
  obtain rfl : i = B.length := by omega
  refine qcZ _ _ _ _ _ _ _ _ _ _ _ _ _ _ _ _ ?_
  rw [qb, decide_eq_false (by omega), cond_false, List.drop_eq_nil_of_le (qso _)]
  refine qi3 _ _ _ _ _ _ _ _ _ _ _ _ _ _ _ ?_
  exact ⟨_, rfl, rfl⟩
 | succ d ih =>
  intro i hi
  have hil : i < B.length := by omega
  have hx : B[i]? = some B[i] := qsh hil
  have hg := qcO hV (wB _ (qss hx))
  have h1 := ih (i + 1) (by omega)
  rw [List.drop_eq_getElem_cons hil, qe7]
  refine qcZ _ _ _ _ _ _ _ _ _ _ _ _ _ _ _ _ ?_
  have gx : qsg (qa B) (qsC (i : Int)) = some B[i].cells := qhO hx
  rw [qb, decide_eq_true (show (i : Int) < (B.length : Int) by omega), qA, qN, decide_eq_true hil, gx, qI hil hB]
  simp only [cond_true, qsH, qf, qx, qsJ, qG, qB, zf, vr, hg, qy, bneD]
  by_cases h0 : xq V B[i] = 0
  ·rw [decide_eq_true h0, qsL]
   exact h1
  ·rw [decide_eq_false h0]
   exact ⟨_, rfl, rfl⟩
theorem qkc {V : List Int} {h : Tm} {G B : List Tm} (hV : V.length < 1099511627776) (hG : G.length < 1099511627776) (wG : ∀ x ∈ G, x.w < 1099511627776) (hB : B.length < 1099511627776) (wB : ∀ x ∈ B, x.w < 1099511627776) : ∀ d i : Nat, i + d = G.length →
  Gets (qfJ (qk V) (qa G) (qa B) i 0 0 [] [] [] [] h.kind h.num h.str (qa h.subs) (qa G) (qa B)) (· = clR (if okV V (G.drop i) && okV V B then some ⟨h, G, B⟩ else none)) := by
 intro d
 induction d with
 | zero =>
  intro i hi
  obtain rfl : i = G.length := by omega
  refine qeB _ _ _ _ _ _ _ _ _ _ _ _ _ _ _ _ ?_
  rw [qb, decide_eq_false (by omega), cond_false, List.drop_eq_nil_of_le (qso _)]
  refine qi4 _ _ _ _ _ _ _ _ _ _ _ _ _ _ _ ?_
  exact qkb (h := h) (G := G) hV hB wB B.length 0 (by omega)
 | succ d ih =>
  intro i hi
  have hil : i < G.length := by omega
  have hx : G[i]? = some G[i] := qsh hil
  have hg := qcO hV (wG _ (qss hx))
  have h1 := ih (i + 1) (by omega)
  rw [List.drop_eq_getElem_cons hil, qe7]
  refine qeB _ _ _ _ _ _ _ _ _ _ _ _ _ _ _ _ ?_
  have gx : qsg (qa G) (qsC (i : Int)) = some G[i].cells := qhO hx
  rw [qb, decide_eq_true (show (i : Int) < (G.length : Int) by omega), qA, qN, decide_eq_true hil, gx, qI hil hG]
  simp only [cond_true, qsH, qf, qx, qsJ, qG, qB, zf, vr, hg, qy, bneD]
  by_cases h0 : xq V G[i] = 0
  ·rw [decide_eq_true h0, qsL]
   exact h1
  ·rw [decide_eq_false h0]
   exact ⟨_, rfl, rfl⟩
theorem qh7 {t : Tm} (hc : t.chk = 0) : EVf (EV cfg) 107 [t.av] = some (clR (vj t)) := by
 have hw := yy hc
 have hwe := t.w_eq
 have hz : AV.tup [.agg [AV.int .i64 (0 : Int), .int .i64 (0 : Int), .str [], .sl [], .sl [], .sl []], .bool false] = clR none := rfl
 apply Gets.get
 rw [Tm.av, Tm.cells_eq]
 refine qjg _ _ _ _ ?_
 unfold zt1 zt0
 rw [bneD, bneD, hz, qb]
 by_cases h7 : t.kind = 7
 ·rw [decide_eq_true h7]
  by_cases h3 : t.subs.length = 3
  ·obtain ⟨h, g, b, hs⟩ : ∃ h g b, t.subs = [h, g, b] := by
    cases hs : t.subs with
    | nil => rw [hs] at h3; simp at h3
    | cons a l => cases l with
     | nil => rw [hs] at h3; simp at h3
     | cons b l => cases l with
      | nil => rw [hs] at h3; simp at h3
      | cons d l => cases l with
       | nil => exact ⟨a, b, d, rfl⟩
       | cons e l => rw [hs] at h3; simp at h3
   have ch : h.chk = 0 := vB hc (by rw [hs]; simp)
   have cg : g.chk = 0 := vB hc (by rw [hs]; simp)
   have cb : b.chk = 0 := vB hc (by rw [hs]; simp)
   rw [hs] at hwe
   simp only [qW, vP] at hwe
   have lg := yf cg
   have lb := yf cb
   have hh := qnq (t := h) (by omega)
   have hv := qmm (t := h) (by omega)
   have e1 := qhI cg
   have e2 := qhI cb
   have hl := qkc (V := vU h) (h := h) (G := (qm g).1) (B := (qm b).1) (by have := qc5 h; omega) (by omega) (fun x hx => by have := xS hx; omega) (by omega) (fun x hx => by have := xS hx; omega) (qm g).1.length 0 (by omega)
   have gh : vj t = if zE h && ((qm g).2 && ((qm b).2 && !(qm b).1.isEmpty)) && (okV (vU h) (qm g).1 && okV (vU h) (qm b).1) then some ⟨h, (qm g).1, (qm b).1⟩ else none := by
    unfold vj; rw [if_pos h7, hs]; rfl
   rw [decide_eq_true (show (t.subs.length : Int) = 3 by omega), hs, qD, qD, qD, qT, gh]
   have g0 : qsg [h.cells, g.cells, b.cells] 0 = some h.cells := rfl
   have g1 : qsg [h.cells, g.cells, b.cells] 1 = some g.cells := rfl
   have g2 : qsg [h.cells, g.cells, b.cells] 2 = some b.cells := rfl
   have l0 : qo 0 (([h, g, b].length : Nat) : Int) = true := rfl
   have l1 : qo 1 (([h, g, b].length : Nat) : Int) = true := rfl
   have l2 : qo 2 (([h, g, b].length : Nat) : Int) = true := rfl
   rw [g0, g1, g2]
   simp only [l0, l1, l2, Bool.not_true, cond_false, cond_true, qsH, qf, qx, qsJ, qG, qB, zf, vr, hh, qu]
   cases zE h with
   | false => exact ⟨_, rfl, rfl⟩
   | true =>
    simp only [Bool.not_true, cond_false, qsL, hv, e1, e2, lsR, qf, kTup, qn, yn, qu, kNil, qb, beqI]
    cases (qm g).2 with
    | false => exact ⟨_, rfl, rfl⟩
    | true =>
     cases (qm b).2 with
     | false => exact ⟨_, rfl, rfl⟩
     | true =>
      simp only [Bool.not_true, cond_false, qsL]
      cases hb : (qm b).1 with
      | nil => exact ⟨_, rfl, rfl⟩
      | cons x l =>
       rw [hb] at hl
       rw [decide_eq_false (show ¬ (((x :: l).length : Nat) : Int) = 0 by simp; omega)]
       refine qkt _ _ _ _ _ _ _ ?_
       exact hl
  ·have : vj t = none := by
    unfold vj
    rw [if_pos h7]
    cases hs : t.subs with
    | nil => rfl
    | cons a l => cases l with
     | nil => rfl
     | cons b l => cases l with
      | nil => rfl
      | cons d l => cases l with
       | nil => rw [hs] at h3; simp at h3
       | cons e l => rfl
   rw [decide_eq_false (show ¬ (t.subs.length : Int) = 3 by omega), this]
   exact ⟨_, rfl, rfl⟩
 ·have : vj t = none := by unfold vj; rw [if_neg h7]
  rw [decide_eq_false h7, this]
  exact ⟨_, rfl, rfl⟩
theorem qiF {c : Tm} : ∀ (n : Nat) (t : Tm) (acc : List Cl), t.w ≤ n → t.chk = 0 → acc.length + n < 1099511627776 →
  Gets (qha c.kind c.num c.str (qa c.subs) 0 0 acc.length false t.kind t.num t.str (qa t.subs) [] (qz acc)) (· = clsQ (clsA acc t)) := by
 intro n
 induction n with
 | zero => intro t acc h; have := xf t; omega
 | succ n ih =>
  intro t acc hw hc hn
  refine qi5 _ _ _ _ _ _ _ _ _ _ _ _ _ _ ?_
  unfold zt2 zt3 zt4 zt5 zt6 zt7 zt8 zt9
  rw [beqI, beqI, beqI]
  by_cases h9 : t.kind = 9
  ·obtain ⟨x, y, hs⟩ := zR hc h9
   have hwe := t.w_eq
   rw [hs] at hwe
   simp only [qW, vP] at hwe
   have hxc : x.chk = 0 := vB hc (by rw [hs]; simp)
   have hyc : y.chk = 0 := vB hc (by rw [hs]; simp)
   have hce := qh7 hxc
   have e1 : qsw (0 + acc.length) (qz acc).length = true := by rw [qsF, vC]; omega
   have e2 : qsr acc.length (qz acc) = qz acc := qsp (by rw [vC]; exact qso _)
   rw [decide_eq_true h9, cond_true, hs, lt0T, qgB, lt1T, qgA, e1, e2, qhx (by omega)]
   simp only [cond_true, qsH, qf, qx, qsJ, qG, qB, zf, vr, hce]
   cases hcl : vj x with
   | none =>
    have : clsA acc t = ([], 10) := by unfold clsA; rw [vK h9 hs, seqC, hcl]; rfl
    rw [this]
    exact ⟨_, rfl, rfl⟩
   | some d =>
    have : clsA acc t = clsA (acc ++ [d]) y := by
     unfold clsA
     rw [vK h9 hs, seqC, hcl]
     cases seqC (qm y).1 with
     | none => rfl
     | some l => simp
    rw [this]
    have h := ih y (acc ++ [d]) (by omega) hyc (by rw [qsz, List.length_singleton]; omega)
    rw [qsz, List.length_singleton] at h
    have e3 : qsD (qz acc) [[AV.int .i64 d.head.kind, .int .i64 d.head.num, .str d.head.str, .sl (qa d.head.subs), .sl (qa d.gs), .sl (qa d.bs)]] = qz (acc ++ [d]) := (qaU acc [d]).symm
    simp only [clR, Cl.av, Cl.cells, kTup, qn, kAgg, qy, qfc, yn, kNil, qu, Bool.not_true, cond_false, e3]
    exact h
  ·rw [decide_eq_false h9, cond_false]
   have hi : clsA acc t = if t.kind = 8 ∧ acc ≠ [] then (acc, 0) else ([], 10) := by
    unfold clsA
    rw [xE h9, seqC]
    by_cases h8 : t.kind = 8
    ·cases acc <;> simp [h8]
    ·simp [h8]
   rw [hi]
   by_cases h8 : t.kind = 8
   ·rw [decide_eq_true h8]
    cases acc with
    | nil => rw [if_neg (fun h => h.2 rfl)]; exact ⟨_, rfl, rfl⟩
    | cons a l =>
     rw [decide_eq_false (show ¬ (((a :: l).length : Nat) : Int) = 0 by simp; omega), if_pos ⟨h8, by simp⟩]
     exact ⟨_, rfl, rfl⟩
   ·rw [decide_eq_false h8, if_neg (fun h => h8 h.1)]
    exact ⟨_, rfl, rfl⟩
theorem qka {c : Tm} : ∀ (n : Nat) (t : Tm) (acc : List Cl), t.w ≤ n → t.chk = 0 → acc.length + n < 1099511627776 →
  Gets (qi6 c.kind c.num c.str (qa c.subs) 0 0 acc.length false t.kind t.num t.str (qa t.subs) [] (qz acc)) (· = clsQ (clsA acc t)) := by
 intro n
 induction n with
 | zero => intro t acc h; have := xf t; omega
 | succ n ih =>
  intro t acc hw hc hn
  refine qku _ _ _ _ _ _ _ _ _ _ _ _ _ _ ?_
  unfold zt2 zt3 zt4 zt5 zt6 zt7 zt8 zt9
  rw [beqI, beqI, beqI]
  by_cases h9 : t.kind = 9
  ·obtain ⟨x, y, hs⟩ := zR hc h9
   have hwe := t.w_eq
   rw [hs] at hwe
   simp only [qW, vP] at hwe
   have hxc : x.chk = 0 := vB hc (by rw [hs]; simp)
   have hyc : y.chk = 0 := vB hc (by rw [hs]; simp)
   have hce := qh7 hxc
   have e1 : qsw (0 + acc.length) (qz acc).length = true := by rw [qsF, vC]; omega
   have e2 : qsr acc.length (qz acc) = qz acc := qsp (by rw [vC]; exact qso _)
   rw [decide_eq_true h9, cond_true, hs, lt0T, qgB, lt1T, qgA, e1, e2, qhx (by omega)]
   simp only [cond_true, qsH, qf, qx, qsJ, qG, qB, zf, vr, hce]
   cases hcl : vj x with
   | none =>
    have : clsA acc t = ([], 10) := by unfold clsA; rw [vK h9 hs, seqC, hcl]; rfl
    rw [this]
    exact ⟨_, rfl, rfl⟩
   | some d =>
    have : clsA acc t = clsA (acc ++ [d]) y := by
     unfold clsA
     rw [vK h9 hs, seqC, hcl]
     cases seqC (qm y).1 with
     | none => rfl
     | some l => simp
    rw [this]
    have h := qiF (c := c) n y (acc ++ [d]) (by omega) hyc (by rw [qsz, List.length_singleton]; omega)
    rw [qsz, List.length_singleton] at h
    have e3 : qsD (qz acc) [[AV.int .i64 d.head.kind, .int .i64 d.head.num, .str d.head.str, .sl (qa d.head.subs), .sl (qa d.gs), .sl (qa d.bs)]] = qz (acc ++ [d]) := (qaU acc [d]).symm
    simp only [clR, Cl.av, Cl.cells, kTup, qn, kAgg, qy, qfc, yn, kNil, qu, Bool.not_true, cond_false, e3]
    exact h
  ·rw [decide_eq_false h9, cond_false]
   have hi : clsA acc t = if t.kind = 8 ∧ acc ≠ [] then (acc, 0) else ([], 10) := by
    unfold clsA
    rw [xE h9, seqC]
    by_cases h8 : t.kind = 8
    ·cases acc <;> simp [h8]
    ·simp [h8]
   rw [hi]
   by_cases h8 : t.kind = 8
   ·rw [decide_eq_true h8]
    cases acc with
    | nil => rw [if_neg (fun h => h.2 rfl)]; exact ⟨_, rfl, rfl⟩
    | cons a l =>
     rw [decide_eq_false (show ¬ (((a :: l).length : Nat) : Int) = 0 by simp; omega), if_pos ⟨h8, by simp⟩]
     exact ⟨_, rfl, rfl⟩
   ·rw [decide_eq_false h8, if_neg (fun h => h8 h.1)]
    exact ⟨_, rfl, rfl⟩
theorem qgV {t : Tm} (hw : t.w < 1099511627776) : EVq (EV cfg) 45 [t.av] = some (clsQ (clsG t)) := by
 have hk := qcC hw
 apply Gets.get
 rw [Tm.av, Tm.cells_eq] at hk ⊢
 refine qhk _ _ _ _ ?_
 rw [hk]
 simp only [qf, qy, bneD]
 unfold clsG
 by_cases hc : t.chk = 0
 ·rw [decide_eq_true hc, if_pos hc]
  exact qka (c := t) t.w t [] (qso _) hc (by have := yy hc; simp; omega)
 ·rw [decide_eq_false hc, if_neg hc]
  exact ⟨_, rfl, rfl⟩
theorem qlZ {t : Tm} (hw : t.w < 1099511627776) : EVs (EV cfg) 15 [t.av] = some (.int .i64 (clsG t).2) := by
 have hk := qgV hw
 apply Gets.get
 rw [Tm.av, Tm.cells_eq] at hk ⊢
 refine qkD _ _ _ _ ?_
 rw [hk]
 exact ⟨_, rfl, rfl⟩
end Go.Proofs.YtjiecipfkjaooaaGreat
end
section
namespace Go.Av
structure EnvW (e : Env) : Prop where
 obj : e.obj.w < 1099511627776
 len : e.binds.length < 1099511627776
 binds : ∀ p ∈ e.binds, p.2.w < 1099511627776
end Go.Av
namespace Go.Proofs.YtjiecipfkjaooaaGreat
open Go.Av
end Go.Proofs.YtjiecipfkjaooaaGreat
end
section
namespace Go.Av
end Go.Av
namespace Go.Proofs.YtjiecipfkjaooaaGreat
open Go.Av
theorem qq2 (t : Tm) : t.av = .agg [.int .i64 t.kind, .int .i64 t.num, .str t.str, .sl (qa t.subs)] := by rw [Tm.av, Tm.cells_eq]
end Go.Proofs.YtjiecipfkjaooaaGreat
end
section
namespace Go.Av
def okC (c : Cl) : Bool := zE c.head && !c.bs.isEmpty && (c.gs.all (fun e => decide (xq (vU c.head) e = 0)) && c.bs.all (fun e => decide (xq (vU c.head) e = 0)))
theorem qlj (c : Cl) : vj (clT c) = if okC c then some c else none := by
 unfold vj clT
 rw [if_pos (show (tupT [c.head, vN c.gs, vN c.bs]).kind = 7 from rfl)]
 show (if zE c.head && ((qm (vN c.gs)).2 && ((qm (vN c.bs)).2 && !(qm (vN c.bs)).1.isEmpty)) && ((qm (vN c.gs)).1.all (fun e => decide (xq (vU c.head) e = 0)) && (qm (vN c.bs)).1.all (fun e => decide (xq (vU c.head) e = 0))) then some (Cl.mk c.head (qm (vN c.gs)).1 (qm (vN c.bs)).1) else none) = _
 rw [zV, zV]
 simp only [qsL]
 rfl
theorem qjh : ∀ cs : List Cl, seqC (cs.map clT) = if cs.all okC then some cs else none
 | [] => rfl
 | c :: cs => by
  rw [List.map_cons, seqC, qlj, qjh cs, List.all_cons]
  cases okC c <;> cases cs.all okC <;> rfl
theorem qoa (cs : List Cl) : clsG (selT cs) = if (selT cs).chk = 0 then (if cs.all okC && !cs.isEmpty then (cs, 0) else ([], 10)) else ([], 2) := by
 unfold clsG
 have h : qm (selT cs) = (cs.map clT, true) := zV _
 rw [h]
 simp only [qjh, qsL]
 cases h1 : cs.all okC <;> cases cs <;> simp
structure SelOk (cs : List Cl) : Prop where
 chk : (selT cs).chk = 0
 ok : ∀ c ∈ cs, okC c = true
 ne : cs ≠ []
theorem qn9 {cs : List Cl} : (clsG (selT cs)).2 = 0 ↔ SelOk cs := by
 rw [qoa]
 by_cases h : (selT cs).chk = 0
 ·rw [if_pos h]
  cases h1 : cs.all okC && !cs.isEmpty with
  | true =>
   rw [qsm, List.all_eq_true] at h1
   exact ⟨fun _ => ⟨h, h1.1, by rintro rfl; exact absurd h1.2 (by simp)⟩, fun _ => rfl⟩
  | false =>
   refine ⟨fun h => (by cases h), fun g => ?_⟩
   rw [List.all_eq_true.2 g.ok, qsL] at h1
   exact absurd (List.isEmpty_iff.1 (by simpa using h1)) g.ne
 ·rw [if_neg h]
  exact ⟨fun h => (by cases h), fun g => absurd g.chk h⟩
theorem SelOk.of {cs : List Cl} (h : SelOk cs) : ofG cs = (selT cs, 0) := by
 unfold ofG
 rw [if_pos (qn9.2 h)]
theorem qbz : ∀ l : List Tm, (vN l).words = 1 + l.length + qF l
 | [] => by decide
 | x :: l => by
  have h : (vN (x :: l)).words = 1 + (x.words + ((vN l).words + 0)) := by
   show (Tm.mk 9 0 [] [x, vN l]).words = _
   rw [Tm.words]; simp [qF, Tm.own]
  rw [h, qbz l, qF, List.length_cons]; omega
theorem qbA : ∀ l : List Tm, (vN l).parts = qU l
 | [] => by decide
 | x :: l => by
  have h : (vN (x :: l)).parts = (x.parts && ((vN l).parts && true)) := by
   show (Tm.mk 9 0 [] [x, vN l]).parts = _
   rw [Tm.parts]; simp [qU, yG]
  rw [h, qbA l, qU, Bool.and_true]
theorem qpS {c : Cl} : (selT [c]).chk = 0 ↔ (clT c).parts = true ∧ 2 + (clT c).words ≤ 65536 := by
 rw [zh, selT, qbz, qbA]
 simp [qU, qF]
theorem SelOk.one {cs : List Cl} (h : SelOk cs) {c : Cl} (hc : c ∈ cs) : SelOk [c] := by
 obtain ⟨h1, h2⟩ := zh.1 h.chk
 rw [selT, qbA] at h1
 rw [selT, qbz] at h2
 have hm := List.mem_map_of_mem (f := clT) hc
 have := qfE hm
 have hl : 1 ≤ cs.length := List.length_pos_of_mem hc
 rw [List.length_map] at h2
 exact ⟨qpS.2 ⟨qay h1 _ hm, by omega⟩, by simpa using h.ok c hc, by simp⟩
end Go.Av
end
section
namespace Go.Proofs.YtjiecipfkjaooaaGreat
open Go.Av
def qpL (t : Tm) (most : Int) (v : AV) : Prop := ∃ n : Int, v = .int .i64 n ∧ 1 ≤ n ∧ n ≤ most ∧ (n < most → t.w ≤ 101 * n ∧ t.words ≤ 2 * n)
theorem qoI (t : Tm) : t.Ok → ∀ most : Int, 1 ≤ most → most ≤ 1073741824 → Gets (EVs (EV cfg) 96 [t.av, .int .i64 most]) (qpL t most) := by
 induction t using Tm.ind with
 | _ k n s l ih =>
  intro hok most h1 hmx
  by_cases hs : s.length ≤ 100
  ·have loop : ∀ (d i : Nat) (m : Int), i + d = l.length → 1 ≤ m → m ≤ most → (m < most → (1 + s.length : Nat) + wL (l.take i) ≤ 101 * m ∧ 2 + qF (l.take i) ≤ 2 * m) → Gets (qfH most m i k n s (qa l)) (qpL (.mk k n s l) most) := by
    intro d
    induction d with
    | zero =>
     intro i m hi hm1 hm2 hmw
     refine qez _ _ _ _ _ _ _ ?_
     rw [qb, decide_eq_false (by omega)]
     refine ⟨_, rfl, m, rfl, hm1, hm2, fun hlt => ?_⟩
     have hmw := hmw hlt
     rw [qsp (by omega)] at hmw
     have := (Tm.mk k n s l).own_le
     rw [Tm.w_mk, Tm.words]
     omega
    | succ d ihd =>
     intro i m hi hm1 hm2 hmw
     refine qez _ _ _ _ _ _ _ ?_
     have hil : i < l.length := by omega
     have hx : l[i]? = some l[i] := qsh hil
     have hxl := qss hx
     have hix := ih l[i] hxl (hok.sub hxl)
     by_cases hm : m < most
     ·have hmw := hmw hm
      rw [qI hil hok.len, vm (x := most - m) (by omega) (by omega)]
      simp [hil, hx, hm]
      refine Gets.bind (hix (most - m) (by omega) (by omega)) ?_
      rintro _ ⟨n'', rfl, q1, q2, q3⟩
      have hg := ihd (i + 1) (m + n'') (by omega) (by omega) (by omega) (fun hlt => by
       have := q3 (by omega)
       rw [List.take_add_one, hx, Option.toList_some, ya, qag, qW, vP, qF, qF]
       omega)
      simp only [qy]
      rw [vm (x := m + n'') (by omega) (by omega)]
      simpa using hg
     ·simp [hil, hm]
      exact ⟨m, rfl, hm1, hm2, fun h => absurd h hm⟩
   rw [Tm.av_mk]
   refine qeR _ _ _ _ _ ?_
   rw [decide_eq_false (by omega)]
   by_cases h2 : (l.length : Int) > most
   ·rw [qb, decide_eq_true h2]
    exact ⟨_, rfl, most, rfl, h1, Int.le_refl _, fun h => absurd h (by omega)⟩
   ·rw [qb, decide_eq_false h2]
    exact loop l.length 0 1 (by omega) (by omega) (by omega) (fun _ => by simp [qF]; omega)
  ·rw [Tm.av_mk]
   refine qeR _ _ _ _ _ ?_
   rw [decide_eq_true (by omega)]
   exact ⟨_, rfl, most, rfl, h1, Int.le_refl _, fun h => absurd h (by omega)⟩
def BigP (t : Tm) (most : Int) (v : AV) : Prop := ∃ b : Bool, v = .bool b ∧ (b = false → t.w ≤ 101 * most ∧ t.words ≤ 2 * most)
theorem qp7 {t : Tm} (h : t.Ok) {most : Int} (h1 : 1 ≤ most) (h2 : most ≤ 1000000000) : Gets (EVs (EV cfg) 39 [t.av, .int .i64 most]) (BigP t most) := by
 have h1 := qoI t h (most + 1) (by omega) (by omega)
 rw [Tm.av, Tm.cells_eq] at h1 ⊢
 refine qmA _ _ _ _ _ ?_
 rw [vm (by omega) (by omega)]
 refine Gets.bind h1 ?_
 rintro _ ⟨n, rfl, q1, q2, q3⟩
 simp only [qy]
 refine ⟨_, rfl, _, rfl, fun hb => ?_⟩
 have hb : ¬ n > most := of_decide_eq_false hb
 have := q3 (by omega)
 omega
noncomputable def qrp : Den := evC cfg (EV cfg) 51 none 0 (sub (qe Tryz.f51) [1, 1, 0, 1, 0, 0])
noncomputable def qrM : Ex × List AV × AH → Option AV := kAft (Cfg.keepOut cfg 51 4) (kRun cfg (EV cfg) (kfN cfg 6) 51 none 0 (xu cfg (Cfg.lift cfg 51 0) Tryz.f51.results.toList) ([.block 0, .seq (sub (qe Tryz.f51) [1, 1, 1])]))
noncomputable def qrb : List AV × AH → Option AV := fun p => kOpt (LOOP 0 (some [0, 1, 5]) ([]) qrp p) qrM
noncomputable def qrq : Den := evC cfg (EV cfg) 44 none 0 (sub (qe Tryz.f44) [1, 1, 0, 1, 0, 0])
noncomputable def qrN : Ex × List AV × AH → Option OV := kAft (Cfg.keepOut cfg 44 3) (kRun cfg (EV cfg) (kfN cfg 6) 44 none 0 (qpy cfg (Cfg.lift cfg 44 0) Tryz.f44.results.toList) ([.block 0, .seq (sub (qe Tryz.f44) [1, 1, 1])]))
noncomputable def qrc : List AV × AH → Option OV := fun p => kOpt (LOOP 0 (some [0, 3, 4]) ([(3, 4)]) qrq p) qrN
noncomputable abbrev qfC (A B : Rz) (v5 : Int) : Option (AV) := qrb  (((fx 27 [(0, .sl A), (1, .sl B), (5, .int .i64 v5)]) : List AV), ([] : AH))
noncomputable abbrev qfD (A : Rz) (nv3 : Nat) (v4 : Int) (h0 : Rz) : Option (OV) := qrc  (((fx 20 [(0, .sl A), (3, .ms 0 0 nv3), (4, .int .i64 v4)]) : List AV), ([.rows true 4 h0] : AH))
theorem qbt (ka na : Int) (sa : Bz) (la : Rz) (kb nb : Int) (sb : Bz) (lb : Rz) {P : AV → Prop} (h : Gets (bif ka == kb then bif na == nb then bif sa == sb then kOpt (EVs (EV cfg) 51 [.sl la, .sl lb]) fun v => qv v fun b => some (.bool b) else some (.bool false) else some (.bool false) else some (.bool false)) P) : Gets (EVs (EV cfg) 20 [.agg [.int .i64 ka, .int .i64 na, .str sa, .sl la], .agg [.int .i64 kb, .int .i64 nb, .str sb, .sl lb]]) P :=
  gE (fun _ => funS rfl rfl Tryz.func20 rfl) (by kernel_rfl) h
theorem qbd (A B : Rz) {P : AV → Prop} (h : Gets (bif (A.length : Int) != (B.length : Int) then some (.bool false) else qfC A B 0) P) : Gets (EVs (EV cfg) 51 [.sl A, .sl B]) P :=
  gE (fun _ => funS rfl rfl Tryz.func51 rfl) (by kernel_rfl) h
theorem qbu (kt nt : Int) (st : Bz) (lt : Rz) {P : AV → Prop} (h : Gets (kOpt (EVo (EV cfg) 44 [.sl lt]) fun o => kOwn o (some (.agg [.int .i64 kt, .int .i64 nt, .str st, .sl []])) fun sz rs off len => bif qsw (off + len) (qsk rs) && true then some (.agg [.int .i64 kt, .int .i64 nt, .str st, .sl (qsr len (List.drop off rs))]) else none) P) : Gets (EVf (EV cfg) 11 [.agg [.int .i64 kt, .int .i64 nt, .str st, .sl lt]]) P :=
  gE (fun _ => funF rfl rfl Tryz.func11 rfl) (by kernel_rfl) h
theorem qbe (A : Rz) {P : OV → Prop} (h : Gets (qfD A 0 0 []) P) : Gets (EVo (EV cfg) 44 [.sl A]) P :=
  gE (fun _ => funO rfl rfl Tryz.func44 rfl) (by kernel_rfl) h
theorem qev (A B : Rz) (v5 : Int) {P : AV → Prop} (h : Gets (bif decide (v5 < (A.length : Int)) then bif qh 0 v5 && qo v5 (A.length : Int) then kOpt (qsg A (v5.toNat)) fun row => bif qsy (qsk row) 4 then bif qsw 4 (qsk row) then kTmC (qsr 4 row) fun n n_1 s rows => (bif qh 0 v5 && qo v5 (B.length : Int) then kOpt (qsg B (v5.toNat)) fun row => bif qsy (qsk row) 4 then bif qsw 4 (qsk row) then kTmC (qsr 4 row) fun n_2 n_3 s_1 rows_1 => (kOpt (EVs (EV cfg) 20 [.agg [.int .i64 n, .int .i64 n_1, .str s, .sl rows], .agg [.int .i64 n_2, .int .i64 n_3, .str s_1, .sl rows_1]]) fun v => qv v fun b => bif ! b then some (.bool false) else qfC A B (IntKind.wrap .i64 (v5 + 1))) else none else none else none) else none else none else none else some (.bool true)) P) : Gets (qfC A B v5) P :=
  gE (fun _ => qt (cfg := cfg) (f := 51) (rd := none) (bs := 0)) (by kernel_rfl) h
theorem qew (A : Rz) (nv3 : Nat) (v4 : Int) (h0 : Rz) {P : OV → Prop} (h : Gets (bif decide (v4 < (A.length : Int)) then bif qh 0 v4 && qo v4 (A.length : Int) then kOpt (qsg A (v4.toNat)) fun row => bif qsy (qsk row) 4 then bif qsw 4 (qsk row) then kTmC (qsr 4 row) fun n n_1 s rows => (kOpt (EVf (EV cfg) 11 [.agg [.int .i64 n, .int .i64 n_1, .str s, .sl rows]]) fun v => kTmV v fun n n_2 s rows => (bif qsw (0 + nv3) (qsk h0) && qO (nv3 + 1) 56 then qfD A (nv3 + 1) (IntKind.wrap .i64 (v4 + 1)) (qsD (qsr nv3 h0) [[.int .i64 n, .int .i64 n_2, .str s, .sl rows]]) else none)) else none else none else none else some (OV.own 4 h0 0 nv3)) P) : Gets (qfD A nv3 v4 h0) P :=
  gE (fun _ => qt (cfg := cfg) (f := 44) (rd := none) (bs := 0)) (by kernel_rfl) h
theorem qjl (la lb : List Tm) (hlen : la.length < 1099511627776) (ih : ∀ a ∈ la, ∀ b, Gets (EVs (EV cfg) 20 [a.av, b.av]) (qei (a = b))) : Gets (EVs (EV cfg) 51 [.sl (qa la), .sl (qa lb)]) (qei (la = lb)) := by
 have loop : la.length = lb.length → ∀ (d i : Nat), i + d = la.length → la.take i = lb.take i → Gets (qfC (qa la) (qa lb) i) (qei (la = lb)) := by
  intro hl d
  induction d with
  | zero =>
   intro i hi ht
   refine qev _ _ _ ?_
   rw [qsp (by omega), qsp (by omega)] at ht
   have h1 : ¬ i < la.length := by omega
   simp [h1, yd]
   exact ht
  | succ d ihd =>
   intro i hi ht
   refine qev _ _ _ ?_
   have hlt1 : i < la.length := by omega
   have hlt2 : i < lb.length := by omega
   have hx : la[i]? = some la[i] := qsh hlt1
   have hy : lb[i]? = some lb[i] := qsh hlt2
   have hix := ih la[i] (qss hx) lb[i]
   have hta : la.take (i + 1) = la.take i ++ [la[i]] := by rw [List.take_add_one, hx]; rfl
   have htb : lb.take (i + 1) = lb.take i ++ [lb[i]] := by rw [List.take_add_one, hy]; rfl
   have hih := ihd (i + 1) (by omega)
   have hne : la[i] ≠ lb[i] → la ≠ lb := by intro h e; subst e; exact h rfl
   rw [hta, htb, ht] at hih
   rw [qI (n := la.length) (by omega) hlen]
   simp [hlt1, hlt2, hx, hy]
   refine Gets.bind hix ?_
   rintro _ ⟨b, rfl, hb⟩
   cases b with
   | true => simp; exact hih (by rw [hb.1 rfl])
   | false =>
    have : la ≠ lb := hne (fun e => by cases hb.2 e)
    simp [yd, this]
 refine qbd _ _ ?_
 by_cases hl : la.length = lb.length
 ·simp [hl]
  exact loop hl la.length 0 (by omega) (by simp)
 ·have : la ≠ lb := fun e => hl (by rw [e])
  have hl' : ¬ ((la.length : Int) = lb.length) := by omega
  simp [bneD, hl', yd, this]
theorem qjj (a : Tm) : a.Ok → ∀ b : Tm, Gets (EVs (EV cfg) 20 [a.av, b.av]) (qei (a = b)) := by
 induction a using Tm.ind with
 | _ k n s l ih =>
  intro hok b
  obtain ⟨k', n', s', l'⟩ := b
  have hl := qjl l l' hok.len (fun a ha b => ih a ha (hok.sub ha) b)
  rw [Tm.av_mk, Tm.av_mk]
  refine qbt _ _ _ _ _ _ _ _ ?_
  by_cases h1 : k = k'
  ·by_cases h2 : n = n'
   ·by_cases h3 : s = s'
    ·subst h1 h2 h3
     simp
     refine Gets.bind hl ?_
     rintro _ ⟨b, rfl, hb⟩
     simp [yd, hb]
    ·simp [h1, h2, beqD, h3, yd]
   ·simp [h1, beqD, h2, yd]
  ·simp [beqD, h1, yd]
theorem qoK {la : List Tm} (h : OkL la) (hlen : la.length < 1099511627776) (lb : List Tm) : Gets (EVs (EV cfg) 51 [.sl (qa la), .sl (qa lb)]) (qei (la = lb)) := qjl la lb hlen (fun a ha b => qjj a (h.get ha) b)
theorem qhL {a b : Tm} (h : a.Ok) {c : Bool} (hc : c = true ↔ a = b) : EVs (EV cfg) 20 [a.av, b.av] = some (.bool c) := by
 obtain ⟨_, h1, b', rfl, h2⟩ := qjj a h b
 rw [h1]
 have : b' = c := by rw [Bool.eq_iff_iff]; exact h2.trans hc.symm
 rw [this]
noncomputable def qsd : Den := evC cfg (EV cfg) 10 none 0 (sub (qe Tryz.f10) [1, 0, 1, 0, 0])
noncomputable def qsf : Ex × List AV × AH → Option AV := kAft (Cfg.keepOut cfg 10 2) (kRun cfg (EV cfg) (kfN cfg 6) 10 none 0 (xu cfg (Cfg.lift cfg 10 0) Tryz.f10.results.toList) ([.block 0, .seq (sub (qe Tryz.f10) [1, 1])]))
noncomputable def qsc : List AV × AH → Option AV := fun p => kOpt (LOOP 0 (some [0, 3]) ([]) qsd p) qsf
noncomputable abbrev qiM (L : Rz) (v3 : Int) : Option (AV) := qsc  (((fx 15 [(0, .sl L), (3, .int .i64 v3)]) : List AV), ([] : AH))
theorem qkW (L : Rz) {P : AV → Prop} (h : Gets (qiM L 0) P) : Gets (EVs (EV cfg) 10 [.sl L]) P :=
  gE (fun _ => funS rfl rfl Tryz.func10 rfl) (by kernel_rfl) h
theorem qfF (L : Rz) (v3 : Int) {P : AV → Prop} (h : Gets (bif decide (v3 < (L.length : Int)) then bif qh 0 v3 && qo v3 (L.length : Int) then kOpt (qsg L (v3.toNat)) fun row => bif qsy (qsk row) 4 then bif qsw 4 (qsk row) then kTmC (qsr 4 row) fun n n_1 s rows => (kOpt (EVs (EV cfg) 39 [.agg [.int .i64 n, .int .i64 n_1, .str s, .sl rows], .int .i64 400]) fun v => qv v fun b => bif b then some (.bool true) else qiM L (IntKind.wrap .i64 (v3 + 1))) else none else none else none else some (.bool false)) P) : Gets (qiM L v3) P :=
  gE (fun _ => qt (cfg := cfg) (f := 10) (rd := none) (bs := 0)) (by kernel_rfl) h
def qor (l : List Tm) (v : AV) : Prop := ∃ b : Bool, v = .bool b ∧ (b = false → ∀ x ∈ l, x.w ≤ 40400 ∧ x.words ≤ 800)
theorem qmz {l : List Tm} (hl : OkL l) (hlen : l.length < 1099511627776) : Gets (EVs (EV cfg) 10 [.sl (qa l)]) (qor l) := by
 have loop : ∀ (d i : Nat), i + d = l.length → (∀ x ∈ l.take i, x.w ≤ 40400 ∧ x.words ≤ 800) → Gets (qiM (qa l) i) (qor l) := by
  intro d
  induction d with
  | zero =>
   intro i hi hx
   refine qfF _ _ ?_
   rw [qb, decide_eq_false (by omega)]
   rw [qsp (by omega)] at hx
   exact ⟨_, rfl, _, rfl, fun _ => hx⟩
  | succ d ihd =>
   intro i hi hx
   refine qfF _ _ ?_
   have hil : i < l.length := by omega
   have hxi : l[i]? = some l[i] := qsh hil
   have hb := qp7 (hl.get (qss hxi)) (most := 400) (by omega) (by omega)
   rw [qI hil hlen]
   simp [hil, hxi]
   refine Gets.bind hb ?_
   rintro _ ⟨b, rfl, hbw⟩
   cases b with
   | true => exact ⟨_, rfl, _, rfl, fun h => by cases h⟩
   | false =>
    have := hbw rfl
    have hg := ihd (i + 1) (by omega) (fun x hxx => by
     rw [List.take_add_one, hxi, Option.toList_some, qsK] at hxx
     rcases hxx with h | h
     ·exact hx x h
     ·simp at h; subst h; omega)
    simpa using hg
 exact qkW _ (loop l.length 0 (by omega) (by simp))
theorem qoZ {α : Type} (r : List (List AV)) (x : Bool) (K : List (List AV) → Bool → Option α) : (kTup (.tup [.sl r, .bool x]) fun cs => qn cs fun c cs => kSl c fun rows => qn cs fun c cs => qv c fun n => kNil cs (K rows n)) = K r x := rfl
theorem qbx {t : Tm} (hc : t.chk = 0) : EVf (EV cfg) 109 [t.av] = some (lsR (qm t)) := by
 have loop : ∀ (n : Nat) (t : Tm) (acc : List Tm), t.w ≤ n → t.chk = 0 → acc.length + n < 1099511627776 → Gets (qdS acc.length t.kind t.num t.str (qa t.subs) (qa acc)) (· = lsR (acc ++ (qm t).1, (qm t).2)) := by
  intro n
  induction n with
  | zero => intro t acc h; have := xf t; omega
  | succ n ih =>
   intro t acc hw hc hn
   refine qi0 _ _ _ _ _ _ ?_
   rw [beqI, beqI]
   have e1 : qsw (0 + acc.length) (qa acc).length = true := by rw [qsF, qb]; omega
   have e2 : qsr acc.length (qa acc) = qa acc := qsp (by simp)
   by_cases h9 : t.kind = 9
   ·obtain ⟨x, y, hs⟩ := zR hc h9
    have hwe := t.w_eq
    rw [hs] at hwe
    simp only [qW, vP] at hwe
    have h := ih y (acc ++ [x]) (by omega) (vB hc (by rw [hs]; simp)) (by simp; omega)
    rw [decide_eq_true h9, cond_true, hs, lt0T, qgB, lt1T, qgA, e1, e2, x8 (by omega)]
    simp only [cond_true, qsH, qf, qx, qsJ, qG, qB, zf]
    have e5 : qsD (qa acc) [[AV.int .i64 x.kind, .int .i64 x.num, .str x.str, .sl (qa x.subs)]] = qa (acc ++ [x]) := by
     rw [q8, qD, qT, Tm.cells_eq]; rfl
    rw [e5, vK h9 hs]
    rw [qsz] at h
    refine Gets.mono h ?_
    rintro _ rfl
    simp [lsR]
   ·rw [decide_eq_false h9, cond_false, e1, e2, xE h9]
    exact ⟨_, rfl, by simp [lsR]⟩
 have hw := yy hc
 have h := loop t.w t [] (qso _) hc (by simp; omega)
 apply Gets.get
 rw [Tm.av, Tm.cells_eq]
 refine qjq _ _ _ _ ?_
 rw [qT] at h
 simpa using h
theorem qmb {t : Tm} (h : t.w < 1099511627776) : EVs (EV cfg) 169 [t.av] = some (.bool (zE t)) := by
 have hv := qdg h
 have ha := qnF h
 apply Gets.get
 rw [Tm.av, Tm.cells_eq] at hv ha ⊢
 refine qkK _ _ _ _ ?_
 rw [hv, ha]
 unfold zE varR
 simp only [beqI, qf, qu, kTup, qn, qy, kNil]
 cases (varT t).isSome <;> cases decide (t.kind = 7) <;> cases anyT t <;> exact ⟨_, rfl, rfl⟩
theorem qeJ {V : List Int} (hV : V.length < 1099511627776) {l : List Tm} (hlen : l.length < 1099511627776) (hw : ∀ x ∈ l, x.w < 1099511627776) : EVs (EV cfg) 171 [.sl (qa l), .sl (qk V)] = some (.bool (okV V l)) := by
 have loop : ∀ d i : Nat, i + d = l.length → Gets (qdR (qa l) (qk V) i) (· = .bool (okV V (l.drop i))) := by
  intro d
  induction d with
  | zero =>
   intro i hi
   refine qcT _ _ _ ?_
   rw [qb, decide_eq_false (by omega), List.drop_eq_nil_of_le (by omega)]
   exact ⟨_, rfl, rfl⟩
  | succ d ih =>
   intro i hi
   have hil : i < l.length := by omega
   have hx : l[i]? = some l[i] := qsh hil
   have hd : l.drop i = l[i] :: l.drop (i + 1) := List.drop_eq_getElem_cons hil
   have hc := qkL hV (hw _ (qss hx))
   have h1 := ih (i + 1) (by omega)
   refine qcT _ _ _ ?_
   rw [qb, decide_eq_true (show (i : Int) < (l.length : Int) by omega), qA, qN, decide_eq_true hil, vS hx, qI hil hlen, hd, qe7]
   simp only [cond_true, qsH, qx, qsJ, qG, qB, show qsw 4 4 = true from rfl, vr, hc, qf, qy, bneD]
   by_cases h0 : xq V l[i] = 0
   ·rw [decide_eq_true h0]
    exact h1
   ·rw [decide_eq_false h0]
    exact ⟨_, rfl, rfl⟩
 apply Gets.get
 exact qjr _ _ (by simpa using loop l.length 0 (by omega))
theorem qjs {t : Tm} (hc : t.chk = 0) : EVf (EV cfg) 110 [t.av] = some (clR (vj t)) := by
 have hw := yy hc
 have hwe := t.w_eq
 have hz : AV.tup [.agg [AV.int .i64 (0 : Int), .int .i64 (0 : Int), .str [], .sl [], .sl [], .sl []], .bool false] = clR none := rfl
 apply Gets.get
 rw [Tm.av, Tm.cells_eq]
 refine qiw _ _ _ _ ?_
 unfold za0
 rw [bneD, bneD, hz, qb]
 by_cases h7 : t.kind = 7
 ·rw [decide_eq_true h7]
  by_cases h3 : t.subs.length = 3
  ·obtain ⟨h, g, b, hs⟩ : ∃ h g b, t.subs = [h, g, b] := by
    cases hs : t.subs with
    | nil => rw [hs] at h3; simp at h3
    | cons a l => cases l with
     | nil => rw [hs] at h3; simp at h3
     | cons b l => cases l with
      | nil => rw [hs] at h3; simp at h3
      | cons d l => cases l with
       | nil => exact ⟨a, b, d, rfl⟩
       | cons e l => rw [hs] at h3; simp at h3
   have ch : h.chk = 0 := vB hc (by rw [hs]; simp)
   have cg : g.chk = 0 := vB hc (by rw [hs]; simp)
   have cb : b.chk = 0 := vB hc (by rw [hs]; simp)
   rw [hs] at hwe
   simp only [qW, vP] at hwe
   have lg := yf cg
   have lb := yf cb
   have hh := qmb (t := h) (by omega)
   have hv := qmh (t := h) (by omega)
   have e1 := qbx cg
   have e2 := qbx cb
   have x1 := qeJ (V := vU h) (l := (qm g).1) (by have := qc5 h; omega) (by omega) (fun x hx => by have := xS hx; omega)
   have x2 := qeJ (V := vU h) (l := (qm b).1) (by have := qc5 h; omega) (by omega) (fun x hx => by have := xS hx; omega)
   have gh : vj t = if zE h && ((qm g).2 && ((qm b).2 && !(qm b).1.isEmpty)) && (okV (vU h) (qm g).1 && okV (vU h) (qm b).1) then some ⟨h, (qm g).1, (qm b).1⟩ else none := by
    unfold vj; rw [if_pos h7, hs]; rfl
   rw [decide_eq_true (show (t.subs.length : Int) = 3 by omega), hs, qD, qD, qD, qT, gh]
   have g0 : qsg [h.cells, g.cells, b.cells] 0 = some h.cells := rfl
   have g1 : qsg [h.cells, g.cells, b.cells] 1 = some g.cells := rfl
   have g2 : qsg [h.cells, g.cells, b.cells] 2 = some b.cells := rfl
   have l0 : qo 0 (([h, g, b].length : Nat) : Int) = true := rfl
   have l1 : qo 1 (([h, g, b].length : Nat) : Int) = true := rfl
   have l2 : qo 2 (([h, g, b].length : Nat) : Int) = true := rfl
   rw [g0, g1, g2]
   simp only [l0, l1, l2, Bool.not_true, cond_false, cond_true, qsH, qf, qx, qsJ, qG, qB, zf, vr, hh, qu]
   cases zE h with
   | false => exact ⟨_, rfl, rfl⟩
   | true =>
    simp only [Bool.not_true, cond_false, qsL, hv, e1, e2, lsR, qf, kTup, qn, yn, qu, kNil, qb, beqI]
    cases (qm g).2 with
    | false => exact ⟨_, rfl, rfl⟩
    | true =>
     cases (qm b).2 with
     | false => exact ⟨_, rfl, rfl⟩
     | true =>
      simp only [Bool.not_true, cond_false, qsL]
      cases hb : (qm b).1 with
      | nil => exact ⟨_, rfl, rfl⟩
      | cons x l =>
       rw [hb] at x2
       rw [decide_eq_false (show ¬ (((x :: l).length : Nat) : Int) = 0 by simp; omega)]
       simp only [cond_false, x1, x2, qf, qu]
       cases okV (vU h) (qm g).1 with
       | false => exact ⟨_, rfl, rfl⟩
       | true =>
        cases okV (vU h) (x :: l) with
        | false => exact ⟨_, rfl, rfl⟩
        | true => exact ⟨_, rfl, rfl⟩
  ·have : vj t = none := by
    unfold vj
    rw [if_pos h7]
    cases hs : t.subs with
    | nil => rfl
    | cons a l => cases l with
     | nil => rfl
     | cons b l => cases l with
      | nil => rfl
      | cons d l => cases l with
       | nil => rw [hs] at h3; simp at h3
       | cons e l => rfl
   rw [decide_eq_false (show ¬ (t.subs.length : Int) = 3 by omega), this]
   exact ⟨_, rfl, rfl⟩
 ·have : vj t = none := by unfold vj; rw [if_neg h7]
  rw [decide_eq_false h7, this]
  exact ⟨_, rfl, rfl⟩
end Go.Proofs.YtjiecipfkjaooaaGreat
end
section
namespace Go.Av
theorem qh6 (t : Tm) (hc : t.chk = 0) : clsG t = match seqC (qm t).1 with
  | some l => if (qm t).2 && !l.isEmpty then (l, 0) else ([], 10)
  | none => ([], 10) := by
 unfold clsG; rw [if_pos hc]; try rfl
theorem qmO {t : Tm} (hc : t.chk = 0) : (qm t).1.length ≤ 4259840 := by
 have := yf hc
 have := yy hc
 omega
theorem kClR {α : Type} (o : Option Cl) (K : Int → Int → List UInt8 → List (List AV) → List (List AV) → List (List AV) → Bool → Option α) : (kTup (clR o) fun cs => qn cs fun c cs => kAgg c fun cs_1 => qn cs_1 fun c cs_2 => kInt .i64 c fun n => qn cs_2 fun c cs_3 => kInt .i64 c fun n_2 => qn cs_3 fun c cs_4 => kStr c fun s => qn cs_4 fun c cs_5 => kSl c fun rows_2 => qn cs_5 fun c cs_6 => kSl c fun rows_3 => qn cs_6 fun c cs_7 => kSl c fun rows_4 => kNil cs_7 (qn cs fun c cs => qv c fun b => kNil cs (K n n_2 s rows_2 rows_3 rows_4 b))) =
  K (o.getD qb7).head.kind (o.getD qb7).head.num (o.getD qb7).head.str (qa (o.getD qb7).head.subs) (qa (o.getD qb7).gs) (qa (o.getD qb7).bs) o.isSome := by
 cases o <;> rfl
end Go.Av
namespace Go.Proofs.YtjiecipfkjaooaaGreat
open Go.Av
def clsB (r : List Cl × Int) : OV × AV := (.own 6 (qz r.1) 0 r.1.length, .bool (decide (r.2 = 0)))
theorem qbQ {t : Tm} (hc : t.chk = 0) : EVq (EV cfg) 48 [t.av] = some (clsB (clsG t)) := by
 have hi := qbx hc
 have hw := yy hc
 have hlen := qmO hc
 have hic := qaE hc
 have hlw := yf hc
 rw [qh6 t hc]
 have loop : ∀ (l : List Tm), (∀ x ∈ l, x.chk = 0) → l.length ≤ 4259840 → ∀ (d i : Nat) (acc : List Cl), i + d = l.length → acc.length = i → Gets (qdU (qa l) i i (qz acc)) (· = match seqC (l.drop i) with | some cs => (OV.own 6 (qz (acc ++ cs)) 0 (acc ++ cs).length, AV.bool true) | none => (OV.own 6 [] 0 0, AV.bool false)) := by
  intro l hl hln d
  induction d with
  | zero =>
   intro i acc hd ha
   refine qcV _ _ _ _ ?_
   rw [qb, decide_eq_false (by omega), List.drop_eq_nil_of_le (by omega)]
   refine ⟨_, rfl, ?_⟩
   show _ = (OV.own 6 (qz (acc ++ [])) 0 (acc ++ []).length, AV.bool true)
   rw [List.append_nil, ha]
  | succ d ih =>
   intro i acc hd ha
   have hil : i < l.length := by omega
   have hx : l[i]? = some l[i] := qsh hil
   have hdr : l.drop i = l[i] :: l.drop (i + 1) := List.drop_eq_getElem_cons hil
   have hcl := qjs (hl _ (qss hx))
   refine qcV _ _ _ _ ?_
   rw [qb, decide_eq_true (show (i : Int) < (l.length : Int) by omega), qA, qN, decide_eq_true hil, vS hx, qI hil (by omega), hdr, seqC]
   simp only [cond_true, qsH, qx, qsJ, qG, qB, show qsw 4 4 = true from rfl, vr, hcl, qf]
   rw [kClR]
   cases hg : vj l[i] with
   | none => exact ⟨_, rfl, rfl⟩
   | some c =>
    have e1 : qsw (0 + i) (qz acc).length = true := by rw [qsF, vC]; omega
    have e2 : qsD (qsr i (qz acc)) [c.cells] = qz (acc ++ [c]) := by
     rw [qsp (by rw [vC]; omega), qaU, qnx]; rfl
    have h2 := ih (i + 1) (acc ++ [c]) (by omega) (by rw [qsz, ha]; rfl)
    simp only [Option.isSome_some, Bool.not_true, cond_false, e1, qhx (show i + 1 ≤ 1099511627776 by omega), qsH, cond_true, Option.getD_some]
    have e3 : [AV.int .i64 c.head.kind, .int .i64 c.head.num, .str c.head.str, .sl (qa c.head.subs), .sl (qa c.gs), .sl (qa c.bs)] = c.cells := rfl
    rw [e3, e2]
    refine Gets.mono h2 ?_
    rintro _ rfl
    cases seqC (l.drop (i + 1)) with
    | none => rfl
    | some cs =>
     simp only [qsv, qsB, List.append_assoc, List.singleton_append]
 apply Gets.get
 rw [Tm.av, Tm.cells_eq] at hi ⊢
 refine qfZ _ _ _ _ ?_
 rw [hi]
 simp only [lsR, qf]
 rw [qoZ]
 cases (qm t).2 with
 | false =>
  refine ⟨_, rfl, ?_⟩
  cases seqC (qm t).1 <;> rfl
 | true =>
  rw [Bool.not_true, cond_false, qb, beqI]
  cases hl : (qm t).1 with
  | nil => exact ⟨_, rfl, rfl⟩
  | cons x l =>
   rw [decide_eq_false (show ¬ (((x :: l).length : Nat) : Int) = 0 by simp; omega), cond_false]
   have h := loop (x :: l) (by rw [← hl]; exact hic) (by rw [← hl]; exact hlen) (x :: l).length 0 [] (by omega) rfl
   refine Gets.mono h ?_
   rintro _ rfl
   rw [List.drop_zero]
   cases hs : seqC (x :: l) with
   | none => rfl
   | some cs =>
    have : cs.isEmpty = false := by
     have := qe4 hs
     cases cs with
     | nil => simp at this
     | cons => rfl
    simp only [this, List.nil_append, qsL, Bool.not_false, if_true]
    rfl
theorem qj9 {t : Tm} (hc : t.chk ≠ 0) : clsG t = ([], 2) := by unfold clsG; rw [if_neg hc]
theorem qph (t : Tm) (hc : t.chk = 0) : (clsG t).2 = if (clsG t).2 = 0 then 0 else 10 := by
 rw [qh6 t hc]
 cases seqC (qm t).1 with
 | none => rfl
 | some l => simp only []; split <;> rfl
theorem qeK {t : Tm} (h : t.w < 1099511627776) : EVs (EV cfg) 16 [t.av] = some (.int .i64 (clsG t).2) := by
 have hm := ys h
 by_cases hc : t.chk = 0
 ·have hk := qbQ hc
  have he := qph t hc
  apply Gets.get
  rw [Tm.av, Tm.cells_eq] at hm hk ⊢
  refine qdf _ _ _ _ ?_
  rw [hm, hk, hc]
  simp only [qf, qy, bneD, decide_true, Bool.not_true, cond_false, clsB, qu]
  by_cases h0 : (clsG t).2 = 0
  ·rw [h0]; exact ⟨_, rfl, rfl⟩
  ·rw [if_neg h0] at he
   rw [decide_eq_false h0, he]; exact ⟨_, rfl, rfl⟩
 ·apply Gets.get
  rw [Tm.av, Tm.cells_eq] at hm ⊢
  refine qdf _ _ _ _ ?_
  rw [hm, qj9 hc]
  simp only [qf, qy, bneD, decide_eq_false hc]
  exact ⟨_, rfl, rfl⟩
theorem qde {l : List Tm} (hlen : l.length < 1099511627775) (hw : ∀ x ∈ l, x.w < 1099511627776) : EVf (EV cfg) 50 [.sl (qa l)] = some (.sl (qa l)) := by
 have loop : ∀ d i : Nat, i + d = l.length → Gets (qdT (qa l) i i (qa (l.take i))) (· = .sl (qa l)) := by
  intro d
  induction d with
  | zero =>
   intro i hi
   obtain rfl : i = l.length := by omega
   refine qcU _ _ _ _ ?_
   have hb : qsw (0 + l.length) (qa l).length = true := by rw [qsF, qb]; omega
   have ht : qsr l.length (qa l) = qa l := qsp (by rw [qb]; exact qso _)
   rw [List.take_length, hb, ht, qb, decide_eq_false (by omega)]
   exact ⟨_, rfl, rfl⟩
  | succ d ih =>
   intro i hi
   have hil : i < l.length := by omega
   have hx : l[i]? = some l[i] := qsh hil
   have hcp := qf1 l[i] (hw _ (qss hx))
   have h1 := ih (i + 1) (by omega)
   have e1 : l.take (i + 1) = l.take i ++ [l[i]] := by rw [List.take_add_one, hx]; rfl
   rw [e1, q8, qD, qT] at h1
   have hl : (qa (l.take i)).length = i := by rw [qb, List.length_take]; omega
   have hb : qsw (0 + i) (qa (l.take i)).length = true := by rw [qsF, hl]; omega
   have ht : qsr i (qa (l.take i)) = qa (l.take i) := qsp (by omega)
   refine qcU _ _ _ _ ?_
   rw [qb, decide_eq_true (show (i : Int) < (l.length : Int) by omega), qA, qN, decide_eq_true hil, vS hx, qI hil (by omega), hb, ht, x8 (by omega)]
   simp only [cond_true, qsH, qx, qsJ, qG, qB, show qsw 4 4 = true from rfl, vr, hcp, qf, zL]
   rw [← Tm.cells_eq]
   exact h1
 apply Gets.get
 refine qiu _ ?_
 have := loop l.length 0 (by omega)
 rw [List.take_zero, qT] at this
 exact this
noncomputable def qqp : Den := evC cfg (EV cfg) 14 none 0 (sub (qe Tryz.f14) [1, 1, 0, 1, 0, 0])
noncomputable def qqC : Ex × List AV × AH → Option AV := kAft (Cfg.keepOut cfg 14 4) (kRun cfg (EV cfg) (kfN cfg 6) 14 none 0 (xu cfg (Cfg.lift cfg 14 0) Tryz.f14.results.toList) ([.block 0, .seq (sub (qe Tryz.f14) [1, 1, 1])]))
noncomputable def qqe : List AV × AH → Option AV := fun p => kOpt (LOOP 0 (some [0, 1, 5]) ([]) qqp p) qqC
noncomputable abbrev qdZ (A B : Rz) (v5 : Int) : Option (AV) := qqe  (((fx 57 [(0, .sl A), (1, .sl B), (5, .int .i64 v5)]) : List AV), ([] : AH))
theorem qlW (kt nt : Int) (st : Bz) (lt : Rz) {P : AV → Prop} (h : Gets (bif kt == 2 then bif st == [(116 : UInt8), (114 : UInt8), (117 : UInt8), (101 : UInt8)] then kOpt (EVs (EV cfg) 53 [.agg [.int .i64 kt, .int .i64 nt, .str st, .sl lt]]) fun v => kInt .i64 v fun n => some (.bool (n == 0)) else some (.bool false) else some (.bool false)) P) : Gets (EVs (EV cfg) 17 [.agg [.int .i64 kt, .int .i64 nt, .str st, .sl lt]]) P :=
  gE (fun _ => funS rfl rfl Tryz.func17 rfl) (by kernel_rfl) h
theorem qfa (A B : Rz) {P : AV → Prop} (h : Gets (bif (A.length : Int) != (B.length : Int) then some (.bool false) else qdZ A B 0) P) : Gets (EVs (EV cfg) 14 [.sl A, .sl B]) P :=
  gE (fun _ => funS rfl rfl Tryz.func14 rfl) (by kernel_rfl) h
theorem qc2 (A B : Rz) (v5 : Int) {P : AV → Prop} (h : Gets (bif decide (v5 < (A.length : Int)) then bif qh 0 v5 && qo v5 (A.length : Int) then kOpt (qsg A (v5.toNat)) fun row => bif qsy (qsk row) 6 then bif qsw 4 (qsk row) then kTmC (qsr 4 row) fun n n_1 s rows => (bif qh 0 v5 && qo v5 (B.length : Int) then kOpt (qsg B (v5.toNat)) fun row => bif qsy (qsk row) 6 then bif qsw 4 (qsk row) then kTmC (qsr 4 row) fun n_2 n_3 s_1 rows_1 => (kOpt (EVs (EV cfg) 20 [.agg [.int .i64 n, .int .i64 n_1, .str s, .sl rows], .agg [.int .i64 n_2, .int .i64 n_3, .str s_1, .sl rows_1]]) fun v => qv v fun b => bif ! b then some (.bool false) else bif qh 0 v5 && qo v5 (A.length : Int) then kOpt (qsg A (v5.toNat)) fun row => bif qsy (qsk row) 6 then kOpt (qsg row 4) fun v => kSl v fun rows => bif qh 0 v5 && qo v5 (B.length : Int) then kOpt (qsg B (v5.toNat)) fun row => bif qsy (qsk row) 6 then kOpt (qsg row 4) fun v => kSl v fun rows_2 => kOpt (EVs (EV cfg) 51 [.sl rows, .sl rows_2]) fun v => qv v fun b => bif ! b then some (.bool false) else bif qh 0 v5 && qo v5 (A.length : Int) then kOpt (qsg A (v5.toNat)) fun row => bif qsy (qsk row) 6 then kOpt (qsg row 5) fun v => kSl v fun rows => bif qh 0 v5 && qo v5 (B.length : Int) then kOpt (qsg B (v5.toNat)) fun row => bif qsy (qsk row) 6 then kOpt (qsg row 5) fun v => kSl v fun rows_3 => kOpt (EVs (EV cfg) 51 [.sl rows, .sl rows_3]) fun v => qv v fun b => bif ! b then some (.bool false) else qdZ A B (IntKind.wrap .i64 (v5 + 1)) else none else none else none else none else none else none else none else none) else none else none else none) else none else none else none else some (.bool true)) P) : Gets (qdZ A B v5) P :=
  gE (fun _ => qt (cfg := cfg) (f := 14) (rd := none) (bs := 0)) (by kernel_rfl) h
theorem qob {t : Tm} (h : (clsG t).2 ≠ 0) : (clsG t).1 = [] := by
 revert h
 unfold clsG
 by_cases hc : t.chk = 0
 ·rw [if_pos hc]
  cases seqC (qm t).1 with
  | none => intro _; rfl
  | some l =>
   simp only []
   split
   ·intro h; exact absurd rfl h
   ·intro _; rfl
 ·rw [if_neg hc]; intro _; rfl
theorem qiv {t : Tm} (h : t.w < 1099511627776) : EVf (EV cfg) 13 [t.av] = some (.tup [.sl (qz (clsG t).1), .int .i64 (clsG t).2]) := by
 have hm := qeK h
 obtain ⟨ho, hn⟩ := qhA t
 by_cases h0 : (clsG t).2 = 0
 ·have hc : t.chk = 0 := by
   apply Classical.byContradiction
   intro hc
   rw [qj9 hc] at h0; simp at h0
  have hk := qbQ hc
  apply Gets.get
  rw [Tm.av, Tm.cells_eq] at hm hk ⊢
  refine qbP _ _ _ _ ?_
  rw [hm, hk]
  simp only [qf, qy, bneD, clsB, qu]
  rw [h0]
  simp only [decide_true, Bool.not_true, cond_false, qjI]
  generalize (clsG t).1 = l at *
  have loop : ∀ d i : Nat, i + d = l.length → Gets (qca 6 0 l.length i (qz l)) (· = .tup [.sl (qz l), .int .i64 0]) := by
   intro d
   induction d with
   | zero =>
    intro i hi
    obtain rfl : i = l.length := by omega
    refine qcG _ _ _ _ _ ?_
    have hb : qsw (0 + l.length) (qz l).length = true := by rw [qsF, vC]; omega
    have ht : qsr l.length (List.drop 0 (qz l)) = qz l := qsp (by rw [List.drop_zero, vC]; exact qso _)
    rw [decide_eq_false (by omega), hb, ht]
    exact ⟨_, rfl, rfl⟩
   | succ d ih =>
    intro i hi
    have hil : i < l.length := by omega
    have hx : l[i]? = some l[i] := qsh hil
    obtain ⟨c1, c2, c3, c4, c5⟩ := ho _ (qss hx)
    have k1 := qf1 l[i].head (by have := yy c1; omega)
    have k2 := qde (l := l[i].gs) (by omega) (fun x hx => by have := yy (c2 x hx); omega)
    have k3 := qde (l := l[i].bs) (by omega) (fun x hx => by have := yy (c3 x hx); omega)
    have gx : qsg (qz l) (0 + qsC (i : Int)) = some l[i].cells := by
     rw [Nat.zero_add, qq, qsE, qda, hx]; rfl
    have gs : List.set (qz l) (0 + qsC (i : Int)) l[i].cells = qz l := by
     rw [Nat.zero_add, qsE, qnw, List.set_getElem_self]
    have h1 := ih (i + 1) (by omega)
    refine qcG _ _ _ _ _ ?_
    rw [decide_eq_true (show (i : Int) < (l.length : Int) by omega), qA, qN, decide_eq_true hil, gx, qI hil (show l.length < 1099511627776 by omega)]
    have b6 : qsw 6 l[i].cells.length = true := rfl
    have b4 : qsw 4 l[i].cells.length = true := rfl
    have l6 : qsy l[i].cells.length 6 = true := rfl
    have t6 : qsr 6 l[i].cells = l[i].cells := rfl
    have t4 : qsr 4 l[i].cells = l[i].head.cells := by rw [Tm.cells_eq]; rfl
    have d6 : List.drop 6 l[i].cells = [] := rfl
    have g4 : qsg l[i].cells 4 = some (.sl (qa l[i].gs)) := rfl
    have g5 : qsg l[i].cells 5 = some (.sl (qa l[i].bs)) := rfl
    simp only [show qsy 6 6 = true from rfl, cond_true, qsH, qf, b6, b4, l6, t6, t4, d6, g4, g5, qB, vr, k1, k2, k3, zL, yn, gx]
    unfold Cl.cells at gs
    simp only [gs]
    exact h1
  exact loop l.length 0 (by omega)
 ·apply Gets.get
  rw [Tm.av, Tm.cells_eq] at hm ⊢
  refine qbP _ _ _ _ ?_
  rw [hm, qob h0]
  simp only [qf, qy, bneD]
  rw [decide_eq_false h0]
  exact ⟨_, rfl, rfl⟩
def qfO (t : Tm) : Bool := decide (t.chk = 0) && (decide (t.kind = 2) && decide (t.str = tru))
theorem qnp {t : Tm} (h : t.w < 1099511627776) : EVs (EV cfg) 17 [t.av] = some (.bool (qfO t)) := by
 have hm := qcC h
 apply Gets.get
 rw [Tm.av, Tm.cells_eq] at hm ⊢
 refine qlW _ _ _ _ ?_
 unfold qfO
 rw [hm]
 simp only [beqI, beqS, show ([116, 114, 117, 101] : List UInt8) = tru from rfl, qf, qy]
 by_cases h1 : t.kind = 2
 ·rw [decide_eq_true h1]
  by_cases h2 : t.str = tru
  ·rw [decide_eq_true h2, Bool.and_true, Bool.and_true]; exact ⟨_, rfl, rfl⟩
  ·rw [decide_eq_false h2, Bool.and_false, Bool.and_false]; exact ⟨_, rfl, rfl⟩
 ·rw [decide_eq_false h1, Bool.false_and, Bool.and_false]; exact ⟨_, rfl, rfl⟩
theorem qma {t : Tm} (h : t.w < 1099511627776) : EVs (EV cfg) 18 [t.av] = some (.bool (qfO t)) := by
 have hm := ys h
 apply Gets.get
 rw [Tm.av, Tm.cells_eq] at hm ⊢
 refine qkJ _ _ _ _ ?_
 unfold qfO
 rw [hm]
 simp only [beqI, beqS, show ([116, 114, 117, 101] : List UInt8) = tru from rfl, qf, qy]
 by_cases h1 : t.chk = 0
 ·rw [decide_eq_true h1, qsL]
  by_cases h2 : t.kind = 2
  ·rw [decide_eq_true h2, qsL]; exact ⟨_, rfl, rfl⟩
  ·rw [decide_eq_false h2, Bool.false_and]; exact ⟨_, rfl, rfl⟩
 ·rw [decide_eq_false h1, Bool.false_and]; exact ⟨_, rfl, rfl⟩
theorem qgh {l : List Cl} (hl : ∀ c ∈ l, ClOk c) (hlen : l.length < 1099511627776) : EVs (EV cfg) 14 [.sl (qz l), .sl (qz l)] = some (.bool true) := by
 have qav : ∀ {r : List Tm}, r.length ≤ 8388608 → (∀ x ∈ r, x.chk = 0) → EVs (EV cfg) 51 [.sl (qa r), .sl (qa r)] = some (.bool true) := fun {r} h1 h2 => by
  have hg := qoK (la := r) (qb4.2 fun x hx => qbU (h2 x hx)) (by omega) r
  obtain ⟨v, hv, c, rfl, hc⟩ := hg
  rw [hv, hc.2 rfl]
 have loop : ∀ d i : Nat, i + d = l.length → Gets (qdZ (qz l) (qz l) i) (· = .bool true) := by
  intro d
  induction d with
  | zero =>
   intro i hi
   refine qc2 _ _ _ ?_
   rw [vC, decide_eq_false (by omega)]
   exact ⟨_, rfl, rfl⟩
  | succ d ih =>
   intro i hi
   have hil : i < l.length := by omega
   have hx : l[i]? = some l[i] := qsh hil
   obtain ⟨c1, c2, c3, c4, c5⟩ := hl _ (qss hx)
   have k1 : EVs (EV cfg) 20 [l[i].head.av, l[i].head.av] = some (.bool true) := qhL (qbU c1) (by simp)
   have k2 := qav c4 c2
   have k3 := qav c5 c3
   have gx : qsg (qz l) (qsC (i : Int)) = some l[i].cells := by
    rw [qq, qsE, qda, hx]; rfl
   have h1 := ih (i + 1) (by omega)
   have b4 : qsw 4 l[i].cells.length = true := rfl
   have l6 : qsy l[i].cells.length 6 = true := rfl
   have t4 : qsr 4 l[i].cells = l[i].head.cells := by rw [Tm.cells_eq]; rfl
   have g4 : qsg l[i].cells 4 = some (.sl (qa l[i].gs)) := rfl
   have g5 : qsg l[i].cells 5 = some (.sl (qa l[i].bs)) := rfl
   refine qc2 _ _ _ ?_
   rw [vC, decide_eq_true (show (i : Int) < (l.length : Int) by omega), qA, qN, decide_eq_true hil, gx, qI hil hlen]
   simp only [cond_true, qsH, qf, b4, l6, t4, g4, g5, qB, vr, k1, k2, k3, yn, qu, Bool.not_true, cond_false, gx]
   exact h1
 apply Gets.get
 refine qfa _ _ ?_
 simpa using loop l.length 0 (by omega)
end Go.Proofs.YtjiecipfkjaooaaGreat
end
section
namespace Go.Proofs.YtjiecipfkjaooaaGreat.N
open Go.Av
def q4 {α : Type} (f : Nat) : List (Nat × α) → Option α
 | [] => none
 | p :: l => if qsy p.1 f then some p.2 else q4 f l
theorem qbk {α : Type} {p : Nat → α → Prop} {f : Nat} {x : α} : ∀ {l : List (Nat × α)}, (∀ q ∈ l, p q.1 q.2) → q4 f l = some x → p f x
 | [], _, h => by cases h
 | q :: l, ha, h => by
  rw [q4] at h
  split at h
  ·rename_i e
   cases h
   rw [← qsn e]
   exact ha q (by simp)
  ·exact qbk (fun q hq => ha q (by simp [hq])) h
theorem y4 {f : Nat} {fn : Func} : ∀ {l : List (Nat × Func)}, yv f l = some fn → ∃ p ∈ l, p.1 = f
 | [], h => by cases h
 | q :: l, h => by
  rw [yv] at h
  split at h
  ·rename_i e
   exact ⟨q, by simp, qsn e⟩
  ·obtain ⟨p, h1, h2⟩ := y4 h
   exact ⟨p, by simp [h1], h2⟩
def qmu : List (Nat × CMode) := [(46, .nfrz), (12, .nfrz), (47, .nfrz)]
def kL : List (Nat × Unit) := [(45, ()), (90, ())]
open Classical in
noncomputable def yx (args : List AV) (H : AH) : Option (AV × AH) :=
 match args, H with
 | [.agg [a, b, c, .sl rows]], [] => if ∃ t : Tm, t.Ok ∧ t.av = .agg [a, b, c, .sl rows] then some (.agg [a, b, c, .lsl rows], []) else none
 | _, _ => none
noncomputable def xL : List (Nat × (List AV → AH → Option (AV × AH))) := [(46, yx)]
def frzL : List (Nat × Nat × Nat) := []
def qgE (f r k : Nat) : List (Nat × Nat × Nat) → Bool
 | [] => false
 | p :: l => (qsy p.1 f && (qsy p.2.1 r && qsy p.2.2 k)) || qgE f r k l
noncomputable def ext (f : Nat) : Option (List AV → AH → Option (AV × AH)) :=
 match q4 f xL with
 | some s => some s
 | none => match q4 f kL with
  | some _ => some (EV Go.Proofs.YtjiecipfkjaooaaGreat.cfg (.f f))
  | none => Go.Proofs.YtjiecipfkjaooaaGreat.cfg.ext f
noncomputable def cfg : Cfg := { Go.Proofs.YtjiecipfkjaooaaGreat.cfg with mode := fun f => match q4 f qmu with | some m => m | none => Go.Proofs.YtjiecipfkjaooaaGreat.cfg.mode f, frz := fun f r k => qgE f r k frzL || Go.Proofs.YtjiecipfkjaooaaGreat.cfg.frz f r k, ext := ext }
theorem qff : qbW.all (fun p => (q4 p.1 xL).isNone && (q4 p.1 kL).isNone) = true := rfl
instance inl_ok : InlOk cfg where
 ok f fn h := by
  have h : yv f qbW = some fn := h
  obtain ⟨h1, h2, h3, h4⟩ := Go.Proofs.YtjiecipfkjaooaaGreat.inl_ok.ok f fn h
  refine ⟨?_, h2, h3, h4⟩
  obtain ⟨p, hp, rfl⟩ := y4 h
  have := List.all_eq_true.1 qff p hp
  rw [qsm, Option.isNone_iff_eq_none, Option.isNone_iff_eq_none] at this
  show ext p.1 = none
  unfold ext
  rw [this.1, this.2]
  exact h1
theorem ev_k {f : Nat} (hx : (q4 f xL).isNone = true) (hk : (q4 f kL).isSome = true) (args : List AV) (H : AH) : EV cfg (.f f) args H = EV Go.Proofs.YtjiecipfkjaooaaGreat.cfg (.f f) args H := by
 have he : cfg.ext f = some (EV Go.Proofs.YtjiecipfkjaooaaGreat.cfg (.f f)) := by
  show ext f = _
  unfold ext
  rw [Option.isNone_iff_eq_none] at hx
  obtain ⟨u, hu⟩ := Option.isSome_iff_exists.1 hk
  rw [hx, hu]
 have h1 : ∀ n, evF cfg (n + 1) (.f f) args H = EV Go.Proofs.YtjiecipfkjaooaaGreat.cfg (.f f) args H := fun n => by
  show vq cfg (evF cfg n) (.f f) args H = _
  unfold vq
  simp only [he]
 have h0 : evF cfg 0 (.f f) args H = none := rfl
 cases h : EV Go.Proofs.YtjiecipfkjaooaaGreat.cfg (.f f) args H with
 | some r => exact qgf (g := fun n => evF cfg n (.f f) args H) (fun n r h => qa8 cfg n (.f f) args H r h) (n := 1) ((h1 0).trans h)
 | none =>
  have : ¬ ∃ (n : Nat) (r : AV × AH), evF cfg n (.f f) args H = some r := by
   rintro ⟨n, r, hr⟩
   cases n with
   | zero => rw [h0] at hr; cases hr
   | succ n => rw [h1, h] at hr; cases hr
  exact dif_neg this
theorem qpE {f : Nat} (args : List AV) (hx : (q4 f xL).isNone = true) (hk : (q4 f kL).isSome = true) : EVs (EV cfg) f args = EVs (EV Go.Proofs.YtjiecipfkjaooaaGreat.cfg) f args := by unfold EVs; rw [ev_k hx hk]
theorem qpG {f : Nat} (args : List AV) (hx : (q4 f xL).isNone = true) (hk : (q4 f kL).isSome = true) : EVf (EV cfg) f args = EVf (EV Go.Proofs.YtjiecipfkjaooaaGreat.cfg) f args := by unfold EVf; rw [ev_k hx hk]
theorem qpF {f : Nat} (args : List AV) (hx : (q4 f xL).isNone = true) (hk : (q4 f kL).isSome = true) : EVq (EV cfg) f args = EVq (EV Go.Proofs.YtjiecipfkjaooaaGreat.cfg) f args := by unfold EVq; rw [ev_k hx hk]
end Go.Proofs.YtjiecipfkjaooaaGreat.N
end
section
namespace Go.Av
def yj (a : AV) : Prop := ∀ (L L' : Lent) (C : qc) (μ : MMap) (v : Value), @Rep L C μ a v → @Rep L' C μ a v
theorem yj.int (k : IntKind) (n : Int) : yj (.int k n) := fun L L' C μ v h => by cases h; exact @Rep.int L' _ _ _ _
theorem yj.bool (b : Bool) : yj (.bool b) := fun L L' C μ v h => by cases h; exact @Rep.bool L' _ _ _
theorem yj.str (s : List UInt8) : yj (.str s) := fun L L' C μ v h => by cases h; exact @Rep.str L' _ _ _
theorem yj.sl {rows : List (List AV)} (h0 : ∀ (L : Lent) (C : qc) (μ : MMap) (v : Value), @Rep L C μ (.sl rows) v → Rep0 C (.sl rows) v) : yj (.sl rows) := fun L L' C μ v h => @Rep0.rep C μ L' C _ _ (fun _ _ _ h => h) (h0 L C μ v h)
theorem yj.agg {cs : List AV} (h : ∀ a ∈ cs, yj a) : yj (.agg cs) := fun L L' C μ v hr => by
 cases hr with
 | agg _ us hl hh => exact @Rep.agg L' _ _ _ us hl fun i a v h1 h2 => h a (qss h1) L L' C μ v (hh i a v h1 h2)
def neR : List (List AV) → Bool
 | r :: _ => !r.isEmpty
 | [] => true
def AV.neT0 : AV → Bool
 | .sl rows => neR rows
 | .int _ _ | .bool _ | .str _ => true
 | _ => false
def AV.neT1 : AV → Bool
 | .agg cs => cs.all AV.neT0
 | a => a.neT0
def AV.neT : AV → Bool
 | .tup cs => cs.all AV.neT1
 | a => a.neT1
theorem qpi {D : qc} {rows : List (List AV)} {v : Value} (h : Rep0 D (.sl rows) v) (hn : neR rows = true) (hne : rows ≠ []) : ∃ b o, D b o ≠ none := by
 generalize hR : rows = R at h
 cases h with
 | slNil => exact absurd hR hne
 | sl _ a cap sz vals hs hsz hc hr hcell hcap hfree =>
  subst hR
  match rows, hne, hn, hc with
  | [] :: l, _, hn, _ => cases hn
  | (x :: r) :: l, _, _, hc => exact ⟨_, _, by rw [hc 0 0 _ _ rfl rfl]; simp⟩
@[reducible] def qV (w : World) : Lent := ⟨fun _ _ => none, True, fun b => w.heap.size ≤ b⟩
section
variable {L : Lent} {C C3 : qc} {μ μ' : MMap} {w0 : World} {D : qc}
theorem qpJ (hD : D = @LC (qV w0) C3) (hm : (∃ b o, D b o ≠ none) → ∃ m, μ' 0 = some m ∧ m.D = D) {x : AV} {v : Value} (hn : x.neT0 = true) (h : @Rep (qV w0) C3 μ x.lend v) : @Rep L C μ' (x.regn 0) v := by
 cases x <;> simp [AV.neT0] at hn
 ·cases h; exact @Rep.int L _ _ _ _
 ·cases h; exact @Rep.bool L _ _ _
 ·cases h; exact @Rep.str L _ _ _
 ·rename_i rows
  have h : @Rep (qV w0) C3 μ (.lsl rows) v := h
  cases h with
  | lsl _ _ h0 =>
   rw [← hD] at h0
   exact @Rep.rsl L _ _ 0 rows v D (fun hne => hm (qpi h0 hn hne)) h0
theorem qoT {x : AV} (hn : x.neT0 = true) : x.rgA 0 = x.regn 0 := by cases x <;> simp [AV.neT0] at hn <;> rfl
theorem qnT {x : AV} (hn : x.neT0 = true) : x.lend1 = x.lend := by cases x <;> simp [AV.neT0] at hn <;> rfl
theorem qpI (hD : D = @LC (qV w0) C3) (hm : (∃ b o, D b o ≠ none) → ∃ m, μ' 0 = some m ∧ m.D = D) {x : AV} {v : Value} (hn : x.neT1 = true) (h : @Rep (qV w0) C3 μ x.lend1 v) : @Rep L C μ' (x.rgA 0) v := by
 by_cases hx : ∃ cs, x = .agg cs
 ·obtain ⟨cs, rfl⟩ := hx
  have hn : cs.all AV.neT0 = true := hn
  have h : @Rep (qV w0) C3 μ (.agg (cs.map AV.lend)) v := h
  cases h with
  | agg _ us hl hh =>
   refine @Rep.agg L _ _ _ us (by simpa using hl) (fun i a v h1 h2 => ?_)
   obtain ⟨y, hy, rfl⟩ := qg h1
   exact qpJ hD hm (List.all_eq_true.1 hn y (qss hy)) (hh i _ v (by rw [List.getElem?_map, hy]; rfl) h2)
 ·have hn0 : x.neT0 = true := by cases x <;> first | exact absurd ⟨_, rfl⟩ hx | exact hn
  rw [qoT hn0]
  rw [qnT hn0] at h
  exact qpJ hD hm hn0 h
theorem qnS {x : AV} (hn : x.neT1 = true) : rgIn 0 x = x.rgA 0 := by cases x <;> first | rfl | (simp [AV.neT1, AV.neT0] at hn)
theorem qmt {x : AV} (hn : x.neT1 = true) : x.lendT = x.lend1 := by cases x <;> first | rfl | (simp [AV.neT1, AV.neT0] at hn)
theorem qpH (hD : D = @LC (qV w0) C3) (hm : (∃ b o, D b o ≠ none) → ∃ m, μ' 0 = some m ∧ m.D = D) {x : AV} {v : Value} (hn : x.neT = true) (h : @Rep (qV w0) C3 μ x.lendT v) : @Rep L C μ' (rgIn 0 x) v := by
 by_cases hx : ∃ cs, x = .tup cs
 ·obtain ⟨cs, rfl⟩ := hx
  have hn : cs.all AV.neT1 = true := hn
  have h : @Rep (qV w0) C3 μ (.tup (cs.map AV.lend1)) v := h
  cases h with
  | tup _ us hl hh =>
   refine @Rep.tup L _ _ _ us (by simpa using hl) (fun i a v h1 h2 => ?_)
   obtain ⟨y, hy, rfl⟩ := qg h1
   exact qpI hD hm (List.all_eq_true.1 hn y (qss hy)) (hh i _ v (by rw [List.getElem?_map, hy]; rfl) h2)
 ·have hn1 : x.neT1 = true := by cases x <;> first | exact absurd ⟨_, rfl⟩ hx | exact hn
  rw [qnS hn1]
  rw [qmt hn1] at h
  exact qpI hD hm hn1 h
end
theorem qqR {L : Lent} {C : qc} {w : World} (hw : @Wld L C (fun _ => none) [] w) : @Wld (qV w) C (fun _ => none) [] w :=
 @Wld.mk (qV w) _ _ _ _ hw.cl (fun id m hm => (nomatch hm)) (fun id hi => rfl) (fun id blk h1 => (by simp at h1)) (fun id d sz rs h1 => (by simp at h1)) (fun i i' b b' m m' h1 => (by simp at h1)) xI.nil
  ⟨fun b o v h => (by cases h), fun _ b o v hn h => absurd (hw.block_lt h) (Nat.not_lt.2 hn), fun b hb => hb⟩
theorem qnR {L : Lent} {P : Program} {s : Sem Next} {C : qc} {w : World} {r V : AV} {G : AH} (hw : @Wld L C (fun _ => none) [] w) (hcall : qQ P s w (@ve (qV w) C (fun _ => none) [] w r G)) (hV : qck G r = some V) (hne : V.neT = true) :
  qQ P s w (@ve L C (fun _ => none) [] w (rgIn 0 V) [.reg]) := by
 refine hcall.mono fun v w1 ⟨C2, μ2, e1, e2, e3⟩ => ?_
 obtain ⟨C3, a1, a2, a3, a4⟩ := @qf9 _ _ (qV w) _ _ e2
 have x := e3.trans (a3 0 (Nat.zero_le _)) (qso _)
 have hv := (@qeP _ _ (qV w) G (fun _ => none) r V v a4 (@Rep.mono (qV w) _ _ _ _ a1 (fun _ _ h => h) _ _ e1) hV).1
 have old : ∀ b, b < w.heap.size → w1.heap[b]? = w.heap[b]? := fun b hb => (x.fr b hb qR).1
 have hw1 : @Wld L C (fun _ => none) [] w1 := hw.world x.size old
 have hD : ∀ b o u, @LC (qV w) C3 b o = some u → w.heap.size ≤ b ∧ C3 b o = some u := fun b o u h => by
  unfold LC at h
  split at h
  ·rename_i hn; exact ⟨hn, h⟩
  ·cases h
 have cell : ∀ b o u, @LC (qV w) C3 b o = some u → w1.cell? ⟨b, o, none⟩ = some u ∧ w1.frozen? ⟨b, o, none⟩ = false := fun b o u h => by
  obtain ⟨h1, h2⟩ := hD b o u h
  exact ⟨@Wld.cl (qV w) _ _ _ _ a2 b o u h2, (@Wld.lnt (qV w) _ _ _ _ a2).2.1 trivial b o u h1 h2⟩
 by_cases hex : ∃ b o, @LC (qV w) C3 b o ≠ none
 ·obtain ⟨b0, o0, hb0⟩ := hex
  have hhas : ∀ b, (MI.mk b0 0 0 0 (@LC (qV w) C3)).has b → ∃ o u, @LC (qV w) C3 b o = some u := by
   rintro b (h | ⟨o, h⟩)
   ·have : b0 = b := h
    subst this
    cases hc : @LC (qV w) C3 b0 o0 with
    | none => exact absurd hc hb0
    | some u => exact ⟨o0, u, hc⟩
   ·cases hc : @LC (qV w) C3 b o with
    | none => exact absurd hc h
    | some u => exact ⟨o, u, hc⟩
  have hge : ∀ b, (MI.mk b0 0 0 0 (@LC (qV w) C3)).has b → w.heap.size ≤ b := fun b hb => by
   obtain ⟨o, u, hc⟩ := hhas b hb
   exact (hD b o u hc).1
  have hlt : ∀ b, (MI.mk b0 0 0 0 (@LC (qV w) C3)).has b → b < w1.heap.size := fun b hb => by
   obtain ⟨o, u, hc⟩ := hhas b hb
   exact World.block_lt_of_cell? w1 ⟨b, o, none⟩ ((cell b o u hc).1)
  obtain ⟨n1, n2, n3, n4, n5⟩ := hw1.new (nid := none) (k := 0) (H' := [.reg]) (blk := .reg) (m := MI.mk b0 0 0 0 (@LC (qV w) C3)) rfl (fun b hb => qR) hlt
   (fun b hb o => by
    cases hc : C b o with
    | none => rfl
    | some u => have h5 := hw.block_lt hc; have h6 := hge b hb; omega)
   (fun b hb => hw.lent_none (hge b hb)) rfl (fun b o u hd => cell b o u hd)
  refine ⟨C, _, qpH rfl (fun _ => ⟨_, by unfold upd; rw [if_pos rfl], rfl⟩) hne hv, n1, ⟨x.os, x.tape, x.output, x.size, fun _ _ _ h => h, fun id m _ hm => (nomatch hm), fun b hb hnl => ⟨old b hb, fun hl => ?_, rfl⟩, Nat.zero_le _⟩⟩
  rcases n4 b hl with h | h
  ·exact qR h
  ·have := hge b h; omega
 ·obtain ⟨n1, n2⟩ := hw1.newV (nid := none) (k := 0) (H' := [.reg]) (blk := .reg) rfl rfl rfl trivial
  refine ⟨C, _, qpH (μ' := fun _ => none) rfl (fun h => absurd h hex) hne hv, n1, ⟨x.os, x.tape, x.output, x.size, fun _ _ _ h => h, fun id m _ hm => (nomatch hm), fun b hb hnl => ⟨old b hb, fun hl => ?_, rfl⟩, Nat.zero_le _⟩⟩
  obtain ⟨i, bi, mi, h1, h2, h3, h4⟩ := hl
  cases h3
end Go.Av
end
