/-
  Parts of the proof of GuardChecksUptoSaid, put together: the abstract evaluation and its contracts. Own work.
  What is proved: each lemma as it stands; no condition.
-/
import Derived.Test.YtjiecipfkjaooaaZGuardChecksM3
open List renaming getElem?_eq_some_iff → qnj, getElem?_eq_getElem → qnm, getElem?_append_left → qnq, getElem?_set → qnr, getElem?_append_right → qns, get?Internal → qnv, length → qnw, replicate → qnz, mem_of_getElem? → qnA, mem_append → qnC, mem_cons → qnE, take → qnH
open Option renaming bind_eq_some_iff → qnk, map_eq_some_iff → qnl, bind_some → qnt, map_some → qny
open Bool renaming and_eq_true → qnn, false_eq_true → qnu
open Nat renaming eq_of_beq_eq_true → qno, le_refl → qnp, mul_le_mul_right → qnx, beq → qnB, add_assoc → qnD, ble → qnF, add_mul → qnG
set_option maxRecDepth 1000000
set_option maxHeartbeats 0
section
namespace Go.Proofs.Ytjiecipfkjaooaa
open Go.Av
noncomputable def qkB : Den := evC cfg (EV cfg) 47 none 5 (sub (qm Try.f47) [1, 0, 0])
noncomputable def qkE : Ex × List AV × AH → Option AV := kAft (Cfg.keepOut cfg 47 (qh (sub (qm Try.f47) [1, 0, 0]))) (zi 0 (y5 cfg (Cfg.lift cfg 47 0) (fun (v : AV) (H : AH) => (fun (r : AV × AH) => qad 0 4 (fx 17 [(2, AV.ptr 1 0 0), (3, AV.ptr 2 0 0)]) (zi 0 (kSeq (fun (fr : List AV) (H : AH) => qej (Cfg.cut cfg 17 (qh (sub (qm Try.f17) [1, 1, 1]))) fr H fun (fr : List AV) (H : AH) => qX cfg (EV cfg) (kfN cfg 6) 17 none 0 (sub (qm Try.f17) [1, 1, 1]) fr H (vV cfg (Cfg.lift cfg 17 0) (Array.toList (Func.results Try.f17)))) (vV cfg (Cfg.lift cfg 17 0) (Array.toList (Func.results Try.f17))))) (Prod.snd r)) (v, H)) (Array.toList (Func.results (Prod.snd (47, Try.f47))))))
noncomputable def qmp : List AV × AH → Option AV := fun (p : List AV × AH) => kOpt (LOOP 5 (some [0, 3]) [(3, 4)] qkB p) qkE
noncomputable def qmE : Den := evC cfg (EV cfg) 58 none 10 (sub (qm Try.f58) [1, 0, 0])
noncomputable def qmX : Ex × List AV × AH → Option AV := kAft (Cfg.keepOut cfg 58 (qh (sub (qm Try.f58) [1, 0, 0]))) (zi 0 (y5 cfg (Cfg.lift cfg 58 0) (fun (v : AV) (H : AH) => (fun (r : AV × AH) => qad 5 9 (fx 38 [(0, AV.yld 4), (3, AV.ptr 5 0 0)]) (zi 2 (zi 1 (kLp 5 (some [0, 3]) [(3, 4)] qkB qkE))) (Prod.snd r)) (v, H)) (Array.toList (Func.results (Prod.snd (58, Try.f58))))))
noncomputable def qkz : List AV × AH → Option AV := fun (p : List AV × AH) => kOpt (LOOP 10 (some [0, 1, 3]) [] qmE p) qmX
noncomputable abbrev zL (c0_0 c0_1 : Int) (c0_2 : Bz) (c0_3 : Rz) (c1_0 c2_0 c3_0 c3_1 : Int) (c3_2 : Bz) (c3_3 : Rz) (nc5_0 : Nat) (h6 : Rz) : Option (AV) := qmp  (((fx 38 [(0, .yld 4), (3, .ptr 5 0 0)]) : List AV), ([.rows false 4 [[.int .i64 c0_0, .int .i64 c0_1, .str c0_2, .sl c0_3]], .rows false 1 [[.int .i64 c1_0]], .rows false 1 [[.int .i64 c2_0]], .rows false 4 [[.int .i64 c3_0, .int .i64 c3_1, .str c3_2, .sl c3_3]], rngB Try.f17 17 [1, 1, 0, 1, 0] (fx 17 [(2, .ptr 1 0 0), (3, .ptr 2 0 0)]) none LoopState.ready, .rows false 1 [[.ms 6 0 nc5_0]], .rows true 4 h6] : AH))
noncomputable abbrev qgm (v3 c0_0 c0_1 : Int) (c0_2 : Bz) (c0_3 : Rz) (c1_0 c2_0 c3_0 c3_1 : Int) (c3_2 : Bz) (c3_3 : Rz) (nc5_0 : Nat) (h6 : Rz) (c7_0 c7_1 : Int) (c7_2 : Bz) (c7_3 c8_0 : Rz) : Option (AV) := qkz  (((fx 19 [(0, .yld 9), (1, .ptr 8 0 0), (3, .int .i64 v3)]) : List AV), ([.rows false 4 [[.int .i64 c0_0, .int .i64 c0_1, .str c0_2, .sl c0_3]], .rows false 1 [[.int .i64 c1_0]], .rows false 1 [[.int .i64 c2_0]], .rows false 4 [[.int .i64 c3_0, .int .i64 c3_1, .str c3_2, .sl c3_3]], rngB Try.f17 17 [1, 1, 0, 1, 0] (fx 17 [(2, .ptr 1 0 0), (3, .ptr 2 0 0)]) none LoopState.ready, .rows false 1 [[.ms 6 0 nc5_0]], .rows true 4 h6, .rows false 4 [[.int .i64 c7_0, .int .i64 c7_1, .str c7_2, .sl c7_3]], .rows false 1 [[.sl c8_0]], rngB Try.f47 47 [1, 0, 0, 1, 0, 1, 1, 1, 1, 0] (fx 38 [(3, .ptr 5 0 0)]) none LoopState.ready] : AH))
noncomputable abbrev qeT (v3 c0_0 c0_1 : Int) (c0_2 : Bz) (c0_3 : Rz) (c1_0 c2_0 c3_0 c3_1 : Int) (c3_2 : Bz) (c3_3 : Rz) (nc5_0 : Nat) (c7_0 c7_1 : Int) (c7_2 : Bz) (c7_3 c8_0 h10 : Rz) : Option (AV) := qkz  (((fx 19 [(0, .yld 9), (1, .ptr 8 0 0), (3, .int .i64 v3)]) : List AV), ([.rows false 4 [[.int .i64 c0_0, .int .i64 c0_1, .str c0_2, .sl c0_3]], .rows false 1 [[.int .i64 c1_0]], .rows false 1 [[.int .i64 c2_0]], .rows false 4 [[.int .i64 c3_0, .int .i64 c3_1, .str c3_2, .sl c3_3]], rngB Try.f17 17 [1, 1, 0, 1, 0] (fx 17 [(2, .ptr 1 0 0), (3, .ptr 2 0 0)]) none LoopState.ready, .rows false 1 [[.ms 10 0 nc5_0]], .dead, .rows false 4 [[.int .i64 c7_0, .int .i64 c7_1, .str c7_2, .sl c7_3]], .rows false 1 [[.sl c8_0]], rngB Try.f47 47 [1, 0, 0, 1, 0, 1, 1, 1, 1, 0] (fx 38 [(3, .ptr 5 0 0)]) none LoopState.ready, .rows true 4 h10] : AH))
noncomputable abbrev zd4 (kt : Int) (lt : Rz) : Option (AV) := bif kt == 5 then some (.bool (decide ((lt.length : Int) ≤ 64))) else some (.bool false)
noncomputable abbrev zd3 (lt : Rz) (kt : Int) : Option (AV) := bif (lt.length : Int) == 0 then some (.bool true) else zd4 kt lt
noncomputable abbrev zd2 (st : Bz) (lt : Rz) (kt : Int) : Option (AV) := bif st == [] then zd3 lt kt else some (.bool false)
noncomputable abbrev zd1 (nt : Int) (st : Bz) (lt : Rz) (kt : Int) : Option (AV) := bif decide (nt ≤ 1073741824) then zd2 st lt kt else some (.bool false)
noncomputable abbrev zd0 (nt : Int) (st : Bz) (lt : Rz) (kt : Int) : Option (AV) := bif decide (nt ≥ 0) then zd1 nt st lt kt else some (.bool false)
theorem qeU (kt nt : Int) (st : Bz) (lt : Rz) {P : AV → Prop} (h : Gets (bif kt == 1 then bif decide (nt ≥ (- 576460752303423488)) then bif decide (nt ≤ 576460752303423487) then bif st == [] then some (.bool ((lt.length : Int) == 0)) else some (.bool false) else some (.bool false) else some (.bool false) else bif kt == 2 then bif nt == 0 then bif decide ((st.length : Int) ≤ 64) then some (.bool ((lt.length : Int) == 0)) else some (.bool false) else some (.bool false) else bif kt == 3 then bif decide (nt ≥ 0) then bif decide (nt ≤ 1073741824) then bif st == [] then bif (lt.length : Int) == 0 then some (.bool true) else bif kt == 5 then some (.bool (decide ((↑ (qnw lt) : Int) ≤ 64))) else some (.bool false) else some (.bool false) else some (.bool false) else some (.bool false) else bif kt == 4 then zd0 nt st lt kt else bif kt == 6 then zd0 nt st lt kt else bif kt == 5 then zd0 nt st lt kt else bif kt == 7 then bif nt == 0 then bif st == [] then some (.bool (decide ((lt.length : Int) ≤ 64))) else some (.bool false) else some (.bool false) else bif kt == 8 then bif nt == 0 then bif st == [] then some (.bool ((lt.length : Int) == 0)) else some (.bool false) else some (.bool false) else bif kt == 9 then bif nt == 0 then bif st == [] then some (.bool ((lt.length : Int) == 2)) else some (.bool false) else some (.bool false) else some (.bool false)) P) : Gets (EVs (EV cfg) 34 [.agg [.int .i64 kt, .int .i64 nt, .str st, .sl lt]]) P :=
  gE (fun _ => funS rfl rfl Try.func34 rfl) (by kernel_rfl) h
theorem qgp (kt nt : Int) (st : Bz) (lt : Rz) {P : AV → Prop} (h : Gets (bif kt == 7 then some (.int .i64 2) else bif kt == 5 then some (.int .i64 2) else some (.int .i64 1)) P) : Gets (EVs (EV cfg) 35 [.agg [.int .i64 kt, .int .i64 nt, .str st, .sl lt]]) P :=
  gE (fun _ => funS rfl rfl Try.func35 rfl) (by kernel_rfl) h
theorem qeV (kt nt : Int) (st : Bz) (lt : Rz) {P : AV → Prop} (h : Gets (zL kt nt st lt 0 0 kt nt st lt 1 [[.int .i64 kt, .int .i64 nt, .str st, .sl lt]]) P) : Gets (EVs (EV cfg) 17 [.agg [.int .i64 kt, .int .i64 nt, .str st, .sl lt]]) P :=
  gE (fun _ => funS rfl rfl Try.func17 rfl) (by kernel_rfl) h
theorem qaj (c0_0 c0_1 : Int) (c0_2 : Bz) (c0_3 : Rz) (c1_0 c2_0 c3_0 c3_1 : Int) (c3_2 : Bz) (c3_3 : Rz) (nc5_0 : Nat) (h6 : Rz) {P : AV → Prop} (h : Gets (bif decide ((↑ nc5_0 : Int) > 0) then bif ql 0 (IntKind.wrap .i64 ((↑ nc5_0 : Int) - 1)) && qA (IntKind.wrap .i64 ((↑ nc5_0 : Int) - 1)) (↑ nc5_0 : Int) then kOpt (qnv h6 (0 + Int.toNat (IntKind.wrap .i64 ((↑ nc5_0 : Int) - 1)))) fun row => bif qnF 4 (qnw row) then kTmC (qnH 4 row) fun n n_1 s rows => (bif ql 0 (IntKind.wrap .i64 ((↑ nc5_0 : Int) - 1)) && ql (IntKind.wrap .i64 ((↑ nc5_0 : Int) - 1)) (↑ nc5_0 : Int) then kOpt (EVs (EV cfg) 34 [.agg [.int .i64 n, .int .i64 n_1, .str s, .sl rows]]) fun v => qq v fun b => bif ! b then some (.int .i64 2) else kOpt (EVs (EV cfg) 35 [.agg [.int .i64 n, .int .i64 n_1, .str s, .sl rows]]) fun v => kInt .i64 v fun n_2 => qgm (IntKind.wrap .i64 ((↑ (qnw rows) : Int) - 1)) c0_0 c0_1 c0_2 c0_3 c1_0 (IntKind.wrap .i64 (c2_0 + n_2)) c3_0 c3_1 c3_2 c3_3 (Int.toNat (IntKind.wrap .i64 ((↑ nc5_0 : Int) - 1)) - 0) h6 n n_1 s rows rows else none) else none else none else bif decide (c2_0 > 65536) then some (.int .i64 3) else some (.int .i64 0)) P) : Gets (zL c0_0 c0_1 c0_2 c0_3 c1_0 c2_0 c3_0 c3_1 c3_2 c3_3 nc5_0 h6) P :=
  gE (fun _ => qG (cfg := cfg) (f := 47) (rd := none) (bs := 5)) (by kernel_rfl) h
noncomputable abbrev zd10 (row : List AV) (nc5_0 : Nat) (h6 : Rz) (v3 c0_0 c0_1 : Int) (c0_2 : Bz) (c0_3 : Rz) (c1_0 c2_0 c3_0 c3_1 : Int) (c3_2 : Bz) (c3_3 : Rz) (c7_0 c7_1 : Int) (c7_2 : Bz) (c7_3 c8_0 : Rz) : Option (AV) := kTmC (qnH 4 row) fun n n_1 s rows => (bif qnF (0 + nc5_0) (qnw h6) && xT (nc5_0 + 1) 56 then bif ql 0 (↑ nc5_0 : Int) && qA (↑ nc5_0 : Int) (↑ (nc5_0 + 1) : Int) then kOpt (qnv (List.append (qnH nc5_0 h6) [[.int .i64 0, .int .i64 0, .str [], .nilS]]) (0 + Int.toNat (↑ nc5_0 : Int))) fun row => bif qnF 4 (qnw row) then qeT (IntKind.wrap .i64 (v3 - (1 : Int))) c0_0 c0_1 c0_2 c0_3 c1_0 c2_0 c3_0 c3_1 c3_2 c3_3 (nc5_0 + 1) c7_0 c7_1 c7_2 c7_3 c8_0 (List.set (List.append (qnH nc5_0 h6) [[.int .i64 0, .int .i64 0, .str [], .nilS]]) (0 + Int.toNat (↑ nc5_0 : Int)) (.int .i64 n :: .int .i64 n_1 :: .str s :: .sl rows :: List.drop 4 row)) else none else none else none)
noncomputable abbrev zd9 (row : List AV) (nc5_0 : Nat) (h6 : Rz) (v3 c0_0 c0_1 : Int) (c0_2 : Bz) (c0_3 : Rz) (c1_0 c2_0 c3_0 c3_1 : Int) (c3_2 : Bz) (c3_3 : Rz) (c7_0 c7_1 : Int) (c7_2 : Bz) (c7_3 c8_0 : Rz) : Option (AV) := bif qnF 4 (qnw row) then zd10 row nc5_0 h6 v3 c0_0 c0_1 c0_2 c0_3 c1_0 c2_0 c3_0 c3_1 c3_2 c3_3 c7_0 c7_1 c7_2 c7_3 c8_0 else none
noncomputable abbrev zd8 (row : List AV) (nc5_0 : Nat) (h6 : Rz) (v3 c0_0 c0_1 : Int) (c0_2 : Bz) (c0_3 : Rz) (c1_0 c2_0 c3_0 c3_1 : Int) (c3_2 : Bz) (c3_3 : Rz) (c7_0 c7_1 : Int) (c7_2 : Bz) (c7_3 c8_0 : Rz) : Option (AV) := bif qnB (qnw row) 4 then zd9 row nc5_0 h6 v3 c0_0 c0_1 c0_2 c0_3 c1_0 c2_0 c3_0 c3_1 c3_2 c3_3 c7_0 c7_1 c7_2 c7_3 c8_0 else none
noncomputable abbrev zd7 (c8_0 : Rz) (v3 : Int) (nc5_0 : Nat) (h6 : Rz) (c0_0 c0_1 : Int) (c0_2 : Bz) (c0_3 : Rz) (c1_0 c2_0 c3_0 c3_1 : Int) (c3_2 : Bz) (c3_3 : Rz) (c7_0 c7_1 : Int) (c7_2 : Bz) (c7_3 : Rz) : Option (AV) := kOpt (qnv c8_0 (v3.toNat)) fun row => zd8 row nc5_0 h6 v3 c0_0 c0_1 c0_2 c0_3 c1_0 c2_0 c3_0 c3_1 c3_2 c3_3 c7_0 c7_1 c7_2 c7_3 c8_0
noncomputable abbrev zd6 (v3 : Int) (c8_0 : Rz) (nc5_0 : Nat) (h6 : Rz) (c0_0 c0_1 : Int) (c0_2 : Bz) (c0_3 : Rz) (c1_0 c2_0 c3_0 c3_1 : Int) (c3_2 : Bz) (c3_3 : Rz) (c7_0 c7_1 : Int) (c7_2 : Bz) (c7_3 : Rz) : Option (AV) := bif ql 0 v3 && qA v3 (c8_0.length : Int) then zd7 c8_0 v3 nc5_0 h6 c0_0 c0_1 c0_2 c0_3 c1_0 c2_0 c3_0 c3_1 c3_2 c3_3 c7_0 c7_1 c7_2 c7_3 else none
noncomputable abbrev zd5 (v3 : Int) (c8_0 : Rz) (nc5_0 : Nat) (h6 : Rz) (c0_0 c0_1 : Int) (c0_2 : Bz) (c0_3 : Rz) (c1_0 c2_0 c3_0 c3_1 : Int) (c3_2 : Bz) (c3_3 : Rz) (c7_0 c7_1 : Int) (c7_2 : Bz) (c7_3 : Rz) : Option (AV) := bif decide (v3 ≥ 0) then zd6 v3 c8_0 nc5_0 h6 c0_0 c0_1 c0_2 c0_3 c1_0 c2_0 c3_0 c3_1 c3_2 c3_3 c7_0 c7_1 c7_2 c7_3 else zL c0_0 c0_1 c0_2 c0_3 c1_0 c2_0 c3_0 c3_1 c3_2 c3_3 nc5_0 h6
theorem qhw (v3 c0_0 c0_1 : Int) (c0_2 : Bz) (c0_3 : Rz) (c1_0 c2_0 c3_0 c3_1 : Int) (c3_2 : Bz) (c3_3 : Rz) (nc5_0 : Nat) (h6 : Rz) (c7_0 c7_1 : Int) (c7_2 : Bz) (c7_3 c8_0 : Rz) {P : AV → Prop} (h : Gets (zd5 v3 c8_0 nc5_0 h6 c0_0 c0_1 c0_2 c0_3 c1_0 c2_0 c3_0 c3_1 c3_2 c3_3 c7_0 c7_1 c7_2 c7_3) P) : Gets (qgm v3 c0_0 c0_1 c0_2 c0_3 c1_0 c2_0 c3_0 c3_1 c3_2 c3_3 nc5_0 h6 c7_0 c7_1 c7_2 c7_3 c8_0) P :=
  gE (fun _ => qG (cfg := cfg) (f := 58) (rd := none) (bs := 10)) (by kernel_rfl) h
theorem qbq (v3 c0_0 c0_1 : Int) (c0_2 : Bz) (c0_3 : Rz) (c1_0 c2_0 c3_0 c3_1 : Int) (c3_2 : Bz) (c3_3 : Rz) (nc5_0 : Nat) (c7_0 c7_1 : Int) (c7_2 : Bz) (c7_3 c8_0 h10 : Rz) {P : AV → Prop} (h : Gets (zd5 v3 c8_0 nc5_0 h10 c0_0 c0_1 c0_2 c0_3 c1_0 c2_0 c3_0 c3_1 c3_2 c3_3 c7_0 c7_1 c7_2 c7_3) P) : Gets (qeT v3 c0_0 c0_1 c0_2 c0_3 c1_0 c2_0 c3_0 c3_1 c3_2 c3_3 nc5_0 c7_0 c7_1 c7_2 c7_3 c8_0 h10) P :=
  gE (fun _ => qG (cfg := cfg) (f := 58) (rd := none) (bs := 10)) (by kernel_rfl) h
end Go.Proofs.Ytjiecipfkjaooaa
end
section
namespace Go.Av
def qeP (p : Prop) (v : AV) : Prop := ∃ b : Bool, v = .bool b ∧ (b = true ↔ p)
theorem xp {p : Prop} {b : Bool} : qeP p (.bool b) ↔ (b = true ↔ p) := ⟨fun ⟨_, h1, h2⟩ => by cases h1; exact h2, fun h => ⟨b, rfl, h⟩⟩
end Go.Av
namespace Go.Proofs.Ytjiecipfkjaooaa
open Go.Av
theorem qg9 {n : Nat} (h : n ≤ 1099511627776) : xT n 56 = true := by
 unfold xT
 rw [qnn, Nat.ble_eq, Nat.ble_eq]
 omega
theorem xV (t : Tm) : (AV.agg [.int .i64 t.kind, .int .i64 t.num, .str t.str, .sl (qa t.subs)]) = t.av := by rw [Tm.av, Tm.cells_eq]
theorem qkN (t : Tm) : EVs (EV cfg) 34 [t.av] = some (.bool t.sound) := by
 obtain ⟨k, n, s, l⟩ := t
 apply Gets.get
 rw [Tm.av_mk]
 refine qeU _ _ _ _ ?_
 unfold zd0 zd1 zd2 zd3 zd4
 simp only [Tm.sound, Tm.kind_mk, Tm.num_mk, Tm.str_mk, Tm.subs_mk, qj, beqI, qkv, qaB]
 by_cases h1 : k = 1
 ·subst h1; simp [qJ] <;> (try rw [Bool.eq_iff_iff]) <;> (try simp) <;> first | omega | grind
 by_cases h2 : k = 2
 ·subst h2; simp [qJ] <;> (try rw [Bool.eq_iff_iff]) <;> (try simp) <;> first | omega | grind
 by_cases h3 : k = 3
 ·subst h3; simp [qJ] <;> (try rw [Bool.eq_iff_iff]) <;> (try simp) <;> first | omega | grind
 by_cases h4 : k = 4
 ·subst h4; simp [qJ] <;> (try rw [Bool.eq_iff_iff]) <;> (try simp) <;> first | omega | grind
 by_cases h6 : k = 6
 ·subst h6; simp [qJ] <;> (try rw [Bool.eq_iff_iff]) <;> (try simp) <;> first | omega | grind
 by_cases h5 : k = 5
 ·subst h5
  cases l with
  | nil => simp [qJ] <;> (try rw [Bool.eq_iff_iff]) <;> (try simp) <;> first | omega | grind
  | cons x l =>
   have hx : ¬ ((l.length : Int) + 1 = 0) := by omega
   simp [hx, qJ] <;> (try rw [Bool.eq_iff_iff]) <;> (try simp) <;> first | omega | grind
 by_cases h7 : k = 7
 ·subst h7; simp [qJ] <;> (try rw [Bool.eq_iff_iff]) <;> (try simp) <;> first | omega | grind
 by_cases h8 : k = 8
 ·subst h8; simp [qJ] <;> (try rw [Bool.eq_iff_iff]) <;> (try simp) <;> first | omega | grind
 by_cases h9 : k = 9
 ·subst h9; simp [qJ] <;> (try rw [Bool.eq_iff_iff]) <;> (try simp) <;> first | omega | grind
 simp [h1, h2, h3, h4, h5, h6, h7, h8, h9]
theorem ql5 (t : Tm) : EVs (EV cfg) 35 [t.av] = some (.int .i64 t.own) := by
 obtain ⟨k, n, s, l⟩ := t
 apply Gets.get
 rw [Tm.av_mk]
 refine qgp _ _ _ _ ?_
 simp only [Tm.own, Tm.kind_mk, beqI]
 by_cases h7 : k = 7
 ·simp [h7]
 ·by_cases h5 : k = 5
  ·simp [h5]
  ·simp [h7, h5]
theorem qlj (l : List (List AV)) (z : List AV) : (l ++ [z])[l.length]? = some z := by simp
theorem qli (l : List (List AV)) (z c : List AV) : (l ++ [z]).set l.length c = l ++ [c] := by simp
theorem qjZ {t x : Tm} (hx : x.subs.length < 1099511627776) {wd : Int} {P : AV → Prop} : ∀ (j : Nat) (R : List Tm), j ≤ x.subs.length → R.length + j < 1099511627776 →
  Gets (zL t.kind t.num t.str (qa t.subs) 0 wd t.kind t.num t.str (qa t.subs) (R.length + j) (qa (R ++ (x.subs.take j).reverse))) P →
  Gets (qeT ((j : Int) - 1) t.kind t.num t.str (qa t.subs) 0 wd t.kind t.num t.str (qa t.subs) R.length x.kind x.num x.str (qa x.subs) (qa x.subs) (qa R)) P
 | 0, R, _, _, h => by
  refine qbq _ _ _ _ _ _ _ _ _ _ _ _ _ _ _ _ _ _ ?_
  unfold zd5 zd6 zd7 zd8 zd9 zd10
  simpa using h
 | j + 1, R, hj, hR, h => by
  have ih := qjZ (t := t) hx (wd := wd) (P := P) j (R ++ [x.subs[j]]) (by omega) (by simp; omega)
  have e1 : x.subs.take (j + 1) = x.subs.take j ++ [x.subs[j]] := by rw [List.take_add_one, qnm (by omega)]; rfl
  have e4 : R ++ (x.subs.take j ++ [x.subs[j]]).reverse = R ++ x.subs[j] :: (x.subs.take j).reverse := by rw [List.reverse_append]; rfl
  rw [e1, e4, show R.length + (j + 1) = R.length + 1 + j by omega] at h
  refine qbq _ _ _ _ _ _ _ _ _ _ _ _ _ _ _ _ _ _ ?_
  unfold zd5 zd6 zd7 zd8 zd9 zd10
  have hw : IntKind.wrap .i64 ((j : Int) - 1) = (j : Int) - 1 := vS (by omega) (by omega)
  have hjl : j < x.subs.length := by omega
  have e2 : ((j + 1 : Nat) : Int) - 1 = j := by omega
  rw [e2]
  have ht : qnH R.length (qa R) = qa R := List.take_of_length_le (by simp)
  have g0 := qlj (qa R) [.int .i64 0, .int .i64 0, .str [], .nilS]
  have s0 := qli (qa R) [.int .i64 0, .int .i64 0, .str [], .nilS] x.subs[j].cells
  rw [qj] at g0 s0
  simp [hjl, hw, qg9 (show R.length + 1 ≤ 1099511627776 by omega), ht] at ih ⊢
  exact ih h
theorem ql4 {t x : Tm} (hx : x.subs.length < 1099511627776) {wd : Int} {P : AV → Prop} {R : List Tm} {Z : List (List AV)} (hR : R.length + x.subs.length < 1099511627776)
  (h0 : x.subs = [] → Gets (zL t.kind t.num t.str (qa t.subs) 0 wd t.kind t.num t.str (qa t.subs) R.length (qa R ++ Z)) P)
  (h : x.subs ≠ [] → Gets (zL t.kind t.num t.str (qa t.subs) 0 wd t.kind t.num t.str (qa t.subs) (R ++ x.subs.reverse).length (qa (R ++ x.subs.reverse))) P) :
  Gets (qgm ((x.subs.length : Int) - 1) t.kind t.num t.str (qa t.subs) 0 wd t.kind t.num t.str (qa t.subs) R.length (qa R ++ Z) x.kind x.num x.str (qa x.subs) (qa x.subs)) P := by
 refine qhw _ _ _ _ _ _ _ _ _ _ _ _ _ _ _ _ _ _ ?_
 unfold zd5 zd6 zd7 zd8 zd9 zd10
 rcases Nat.eq_zero_or_pos x.subs.length with hz | hp
 ·have hz' : x.subs = [] := List.length_eq_zero_iff.1 hz
  have := h0 hz'
  simpa [hz'] using this
 ·obtain ⟨j, hj⟩ : ∃ j, x.subs.length = j + 1 := ⟨x.subs.length - 1, by omega⟩
  have hne : x.subs ≠ [] := by intro e; rw [e] at hp; simp at hp
  have hjl : j < x.subs.length := by omega
  have e2 : (x.subs.length : Int) - 1 = j := by omega
  have hw : IntKind.wrap .i64 ((j : Int) - 1) = (j : Int) - 1 := vS (by omega) (by omega)
  have ht : qnH R.length (qa R ++ Z) = qa R := by rw [List.take_append_of_le_length (by simp), List.take_of_length_le (by simp)]
  have e5 : x.subs = x.subs.take j ++ [x.subs[j]] := by
   have : x.subs.take (j + 1) = x.subs := List.take_of_length_le (by omega)
   rw [List.take_add_one, qnm hjl] at this
   exact this.symm
  have e6 : R ++ x.subs.reverse = R ++ [x.subs[j]] ++ (x.subs.take j).reverse := by
   conv => lhs; rw [e5]
   rw [List.reverse_append, List.append_assoc]; rfl
  have := qjZ (t := t) hx (wd := wd) (P := P) j (R ++ [x.subs[j]]) (by omega) (by simp; omega) (by
   have h := h hne
   rw [e6] at h
   have e7 : (R ++ [x.subs[j]] ++ (x.subs.take j).reverse).length = (R ++ [x.subs[j]]).length + j := by
    rw [List.length_append, List.length_reverse, List.length_take]; omega
   rw [e7] at h
   exact h)
  rw [e2]
  simp at this
  simp [hjl, hw, qg9 (show R.length + 1 ≤ 1099511627776 by omega), ht]
  exact this
theorem qlS {t : Tm} : ∀ (n : Nat) (R : List Tm) (Z : List (List AV)) (wd : Nat), wL R ≤ n → n < 1099511627776 → wd + 2 * wL R < 9007199254740992 →
  Gets (zL t.kind t.num t.str (qa t.subs) 0 (wd : Int) t.kind t.num t.str (qa t.subs) R.length (qa R ++ Z)) (· = .int .i64 (chkS R wd)) := by
 intro n
 induction n with
 | zero =>
  intro R Z wd hn _ _
  have : R = [] := by
   have := xy R
   exact List.length_eq_zero_iff.1 (by omega)
  subst this
  refine qaj _ _ _ _ _ _ _ _ _ _ _ _ ?_
  by_cases h : 65536 < wd
  ·have h' : (65536 : Int) < wd := by omega
   simp [h, h', chkS, qO, qE]
  ·have h' : ¬ (65536 : Int) < wd := by omega
   simp [h, h', chkS, qO, qE]
 | succ n ih =>
  intro R Z wd hn hN hw
  rcases List.eq_nil_or_concat R with rfl | ⟨R0, x, rfl⟩
  ·refine qaj _ _ _ _ _ _ _ _ _ _ _ _ ?_
   by_cases h : 65536 < wd
   ·have h' : (65536 : Int) < wd := by omega
    simp [h, h', chkS, qO, qE]
   ·have h' : ¬ (65536 : Int) < wd := by omega
    simp [h, h', chkS, qO, qE]
  ·rw [List.concat_eq_append] at *
   have hwx := x.w_eq
   have ho := x.own_le
   simp only [qbs, zG, qjF] at hn hw
   have hl0 := xy R0
   have hls := xy x.subs
   have hsd := qkN x
   have how := ql5 x
   refine qaj _ _ _ _ _ _ _ _ _ _ _ _ ?_
   have e1 : (R0 ++ [x]).length = R0.length + 1 := by simp
   have hw1 : IntKind.wrap .i64 (R0.length : Int) = R0.length := qm5 (by omega)
   have hw2 : IntKind.wrap .i64 ((wd : Int) + x.own) = ((wd + x.own : Nat) : Int) := by rw [vS (by omega) (by omega)]; omega
   have hw3 : IntKind.wrap .i64 ((x.subs.length : Int) - 1) = (x.subs.length : Int) - 1 := vS (by omega) (by omega)
   have g : (qa (R0 ++ [x]) ++ Z)[R0.length]? = some x.cells := by
    rw [qnq (by simp), ze]; simp
   cases hs : x.sound with
   | false =>
    rw [hs] at hsd
    simp [e1, hw1, g, hsd, qlh hs]
   | true =>
    rw [hs] at hsd
    have e3 : qa (R0 ++ [x]) ++ Z = qa R0 ++ (x.cells :: Z) := by rw [yD, List.append_assoc, vp, vT]; rfl
    have := ql4 (t := t) (x := x) (R := R0) (Z := x.cells :: Z) (wd := ((wd + x.own : Nat) : Int)) (P := (· = .int .i64 (chkS (R0 ++ [x]) wd))) (by omega) (by omega)
     (fun hz => by
      have := ih R0 (x.cells :: Z) (wd + x.own) (by omega) (by omega) (by omega)
      rw [← qfJ hs, hz, List.reverse_nil, List.append_nil]
      exact this)
     (fun hz => by
      have := ih (R0 ++ x.subs.reverse) [] (wd + x.own) (by rw [qbs, qjE]; omega) (by omega) (by rw [qbs, qjE]; omega)
      rw [← qfJ hs]
      rw [List.append_nil] at this
      exact this)
    simp only [e1, e3] at g ⊢
    simp only [Int.natCast_add] at hw2 this
    simp [hw1, g, hsd, how, hw2, hw3]
    exact this
theorem qhh {t : Tm} (h : t.w < 1099511627776) : EVs (EV cfg) 17 [t.av] = some (.int .i64 t.chk) := by
 have := qlS (t := t) _ [t] [] 0 (qnp _) (by simpa using h) (by simp; omega)
 apply Gets.get
 rw [Tm.av, Tm.cells_eq]
 refine qeV _ _ _ _ ?_
 rw [← Tm.cells_eq, qjP, Tm.chk]
 simpa using this
theorem qao {s h0 : List UInt8} {b : UInt8} {v : Int} {i : Nat} {P : AV → Prop} (hv : 0 ≤ v ∧ v ≤ 9) (hlen : (qnH (s.length - 1) (s.drop 1)).length = h0.length) (hl : h0.length ≤ 2) (hb : h0[i]? = some b)
  (h : Gets (match vh b with | none => some (AV.tup [.int .i64 0, .bool false]) | some x => zM s (v * 10 + x) ((i + 1 : Nat) : Int) (h0.map fun b => [.int .u8 (b.toNat : Int)])) P) : Gets (zM s v i (h0.map fun b => [.int .u8 (b.toNat : Int)])) P := by
 have hi : i < h0.length := (qnj.1 hb).1
 refine qcD _ _ _ _ ?_
 have hbl := b.toNat_lt
 rw [hlen, decide_eq_true (show (i : Int) < (h0.length : Int) by omega), qH, q5, decide_eq_true hi]
 simp only [cond_true, Bool.and_self, qB, Nat.zero_add, Int.toNat_natCast, List.getElem?_map, hb, qny, qz, List.getElem?_cons_zero, xr]
 unfold vh at h
 by_cases h1 : b.toNat < 48
 ·rw [if_pos h1] at h
  rw [decide_eq_true (show (b.toNat : Int) < 48 by omega)]; exact h
 ·rw [if_neg h1] at h
  rw [decide_eq_false (show ¬ (b.toNat : Int) < 48 by omega), cond_false]
  by_cases h2 : b.toNat > 57
  ·rw [if_pos h2] at h
   rw [decide_eq_true (show (b.toNat : Int) > 57 by omega)]; exact h
  ·rw [if_neg h2] at h
   rw [decide_eq_false (show ¬ (b.toNat : Int) > 57 by omega), cond_false]
   have w1 : IntKind.wrap .i64 (v * 10) = v * 10 := vS (by omega) (by omega)
   have w2 : IntKind.wrap .u8 ((b.toNat : Int) - 48) = (b.toNat : Int) - 48 := by
    simp [IntKind.wrap, IntKind.bits, IntKind.signed]; omega
   have w3 : IntKind.wrap .i64 ((b.toNat : Int) - 48) = (b.toNat : Int) - 48 := vS (by omega) (by omega)
   have w4 : IntKind.wrap .i64 (v * 10 + ((b.toNat : Int) - 48)) = v * 10 + ((b.toNat : Int) - 48) := vS (by omega) (by omega)
   have w5 : IntKind.wrap .i64 ((i : Int) + 1) = ((i + 1 : Nat) : Int) := qS (n := 2) (by omega) (by omega)
   rw [w1, w2, w3, w4, w5]
   exact h
theorem qd0 {s h0 : List UInt8} {v : Int} {i : Nat} (hlen : (qnH (s.length - 1) (s.drop 1)).length = h0.length) (hi : i = h0.length) : Gets (zM s v i (h0.map fun b => [.int .u8 (b.toNat : Int)])) (· = .tup [.int .i64 v, .bool true]) := by
 refine qcD _ _ _ _ ?_
 rw [hlen, decide_eq_false (by omega)]
 exact ⟨_, rfl, rfl⟩
def varR (o : Option Int) : AV := .tup [.int .i64 (o.getD 0), .bool o.isSome]
theorem qgC (s : List UInt8) : EVs (EV cfg) 50 [.str s] = some (varR (varG s)) := by
 apply Gets.get
 refine qfP _ ?_
 unfold zc0 zc1
 match s with
 | [] => exact ⟨_, rfl, rfl⟩
 | [a] => exact ⟨_, rfl, rfl⟩
 | a :: b :: c :: d :: l =>
  have h1 : ¬ ((a :: b :: c :: d :: l).length : Int) < 2 := by simp; omega
  have h2 : ((a :: b :: c :: d :: l).length : Int) > 3 := by simp; omega
  rw [decide_eq_false h1, decide_eq_true h2]
  exact ⟨_, rfl, rfl⟩
 | [a, b] =>
  by_cases h : a.toNat = 36
  ·have e : (((a.toNat : Int)) != 36) = false := by rw [h]; rfl
   have hs := qao (s := [a, b]) (h0 := [b]) (b := b) (v := 0) (i := 0) (P := (· = varR (varG [a, b]))) (by omega) rfl (by simp) rfl (by
    rw [qf6, if_pos h]
    cases hd : vh b with
    | none => exact ⟨_, rfl, rfl⟩
    | some x =>
     refine (qd0 (s := [a, b]) (h0 := [b]) rfl rfl).mono ?_
     rintro _ rfl
     show _ = varR (some x)
     simp [varR])
   show Gets (bif (((a.toNat : Int)) != 36) then _ else _) _
   rw [e]
   exact hs
  ·have e : (((a.toNat : Int)) != 36) = true := by simpa using fun h' => h (by omega)
   show Gets (bif (((a.toNat : Int)) != 36) then _ else _) _
   rw [e]
   refine ⟨_, rfl, ?_⟩
   rw [qf6, if_neg h]; rfl
 | [a, b, c] =>
  by_cases h : a.toNat = 36
  ·have e : (((a.toNat : Int)) != 36) = false := by rw [h]; rfl
   show Gets (bif (((a.toNat : Int)) != 36) then _ else bif (((b.toNat : Int)) == 48) then _ else _) _
   rw [e]
   by_cases hb : b.toNat = 48
   ·have e2 : (((b.toNat : Int)) == 48) = true := by rw [hb]; rfl
    rw [e2]
    refine ⟨_, rfl, ?_⟩
    rw [qb5, if_neg (fun h => h.2 hb)]; rfl
   ·have e2 : (((b.toNat : Int)) == 48) = false := by simpa using fun h' => hb (by omega)
    rw [e2]
    show Gets (zM [a, b, c] 0 0 ([b, c].map fun b => [.int .u8 (b.toNat : Int)])) _
    refine qao (s := [a, b, c]) (h0 := [b, c]) (b := b) (v := 0) (i := 0) (by omega) rfl (by simp) rfl ?_
    rw [qb5, if_pos ⟨h, hb⟩]
    cases hd : vh b with
    | none => exact ⟨_, rfl, rfl⟩
    | some x =>
     have hx := qfH hd
     refine qao (s := [a, b, c]) (h0 := [b, c]) (b := c) (i := 1) (by omega) rfl (by simp) rfl ?_
     cases hd2 : vh c with
     | none => exact ⟨_, rfl, by simp [varR, hd2]⟩
     | some y =>
      refine (qd0 (s := [a, b, c]) (h0 := [b, c]) rfl rfl).mono ?_
      rintro _ rfl
      simp [varR, hd2]
  ·have e : (((a.toNat : Int)) != 36) = true := by simpa using fun h' => h (by omega)
   show Gets (bif (((a.toNat : Int)) != 36) then _ else _) _
   rw [e]
   refine ⟨_, rfl, ?_⟩
   rw [qb5, if_neg (fun h' => h h'.1)]; rfl
theorem qj3 {t : Tm} (h : t.w < 1099511627776) : EVs (EV cfg) 49 [t.av] = some (.bool (decide (t.chk = 0))) := by
 have hc := qhh h
 apply Gets.get
 rw [Tm.av, Tm.cells_eq] at hc ⊢
 refine qiT _ _ _ _ ?_
 rw [hc]
 simp [beqI]
theorem qj2 {t : Tm} (h : t.w < 1099511627776) : EVs (EV cfg) 36 [t.av] = some (varR (varT t)) := by
 have hc := qj3 h
 apply Gets.get
 rw [Tm.av, Tm.cells_eq] at hc ⊢
 refine qiS _ _ _ _ ?_
 rw [hc, qgC]
 unfold varT
 by_cases h1 : t.kind = 2
 ·by_cases h2 : t.chk = 0
  ·simp [h1, h2, varR, kTup, qM, kNil]
  ·simp [h1, h2, varR]
 ·have h1' : (t.kind != 2) = true := by simpa using h1
  rw [h1']
  simp [h1, varR]
noncomputable def qmH : Den := evC cfg (EV cfg) 51 none 0 (sub (qm Try.f51) [1, 0, 1, 0, 0])
noncomputable def qm0 : Ex × List AV × AH → Option AV := kAft (Cfg.keepOut cfg 51 2) (kRun cfg (EV cfg) (kfN cfg 6) 51 none 0 (vV cfg (Cfg.lift cfg 51 0) Try.f51.results.toList) ([.block 0, .seq (sub (qm Try.f51) [1, 1])]))
noncomputable def qms : List AV × AH → Option AV := fun p => kOpt (LOOP 0 (some [0, 1, 7, 8]) ([]) qmH p) qm0
noncomputable abbrev qdH (A : Rz) (n v8 : Int) : Option (AV) := qms  (((fx 19 [(0, .sl A), (1, .int .i64 n), (7, .int .i64 (A.length : Int)), (8, .int .i64 v8)]) : List AV), ([] : AH))
theorem qfT (op : Bz) {P : AV → Prop} (h : Gets (bif op == [(115 : UInt8), (101 : UInt8), (108 : UInt8), (102 : UInt8)] then some (.sl [[.int .i64 0]]) else bif op == [(105 : UInt8), (115 : UInt8), (95 : UInt8), (97 : UInt8), (116 : UInt8), (111 : UInt8), (109 : UInt8)] then some (.sl [[.int .i64 1]]) else bif op == [(105 : UInt8), (115 : UInt8), (95 : UInt8), (105 : UInt8), (110 : UInt8), (116 : UInt8), (101 : UInt8), (103 : UInt8), (101 : UInt8), (114 : UInt8)] then some (.sl [[.int .i64 1]]) else bif op == [(105 : UInt8), (115 : UInt8), (95 : UInt8), (108 : UInt8), (105 : UInt8), (115 : UInt8), (116 : UInt8)] then some (.sl [[.int .i64 1]]) else bif op == [(105 : UInt8), (115 : UInt8), (95 : UInt8), (116 : UInt8), (117 : UInt8), (112 : UInt8), (108 : UInt8), (101 : UInt8)] then some (.sl [[.int .i64 1]]) else bif op == [(105 : UInt8), (115 : UInt8), (95 : UInt8), (112 : UInt8), (105 : UInt8), (100 : UInt8)] then some (.sl [[.int .i64 1]]) else bif op == [(105 : UInt8), (115 : UInt8), (95 : UInt8), (102 : UInt8), (117 : UInt8), (110 : UInt8), (99 : UInt8), (116 : UInt8), (105 : UInt8), (111 : UInt8), (110 : UInt8)] then some (.sl [[.int .i64 1]]) else bif op == [(105 : UInt8), (115 : UInt8), (95 : UInt8), (114 : UInt8), (101 : UInt8), (102 : UInt8), (101 : UInt8), (114 : UInt8), (101 : UInt8), (110 : UInt8), (99 : UInt8), (101 : UInt8)] then some (.sl [[.int .i64 1]]) else bif op == [(110 : UInt8), (111 : UInt8), (116 : UInt8)] then some (.sl [[.int .i64 1]]) else bif op == [(98 : UInt8), (110 : UInt8), (111 : UInt8), (116 : UInt8)] then some (.sl [[.int .i64 1]]) else bif op == [(97 : UInt8), (98 : UInt8), (115 : UInt8)] then some (.sl [[.int .i64 1]]) else bif op == [(116 : UInt8), (117 : UInt8), (112 : UInt8), (108 : UInt8), (101 : UInt8), (95 : UInt8), (115 : UInt8), (105 : UInt8), (122 : UInt8), (101 : UInt8)] then some (.sl [[.int .i64 1]]) else bif op == [(115 : UInt8), (105 : UInt8), (122 : UInt8), (101 : UInt8)] then some (.sl [[.int .i64 1]]) else bif op == [(104 : UInt8), (100 : UInt8)] then some (.sl [[.int .i64 1]]) else bif op == [(116 : UInt8), (108 : UInt8)] then some (.sl [[.int .i64 1]]) else bif op == [(108 : UInt8), (101 : UInt8), (110 : UInt8), (103 : UInt8), (116 : UInt8), (104 : UInt8)] then some (.sl [[.int .i64 1]]) else bif op == [(43 : UInt8)] then some (.sl [[.int .i64 1], [.int .i64 2]]) else bif op == [(45 : UInt8)] then some (.sl [[.int .i64 1], [.int .i64 2]]) else bif op == [(61 : UInt8), (61 : UInt8)] then some (.sl [[.int .i64 2]]) else bif op == [(61 : UInt8), (58 : UInt8), (61 : UInt8)] then some (.sl [[.int .i64 2]]) else bif op == [(47 : UInt8), (61 : UInt8)] then some (.sl [[.int .i64 2]]) else bif op == [(61 : UInt8), (47 : UInt8), (61 : UInt8)] then some (.sl [[.int .i64 2]]) else bif op == [(60 : UInt8)] then some (.sl [[.int .i64 2]]) else bif op == [(61 : UInt8), (60 : UInt8)] then some (.sl [[.int .i64 2]]) else bif op == [(62 : UInt8)] then some (.sl [[.int .i64 2]]) else bif op == [(62 : UInt8), (61 : UInt8)] then some (.sl [[.int .i64 2]]) else bif op == [(97 : UInt8), (110 : UInt8), (100 : UInt8)] then some (.sl [[.int .i64 2]]) else bif op == [(111 : UInt8), (114 : UInt8)] then some (.sl [[.int .i64 2]]) else bif op == [(120 : UInt8), (111 : UInt8), (114 : UInt8)] then some (.sl [[.int .i64 2]]) else bif op == [(97 : UInt8), (110 : UInt8), (100 : UInt8), (97 : UInt8), (108 : UInt8), (115 : UInt8), (111 : UInt8)] then some (.sl [[.int .i64 2]]) else bif op == [(111 : UInt8), (114 : UInt8), (101 : UInt8), (108 : UInt8), (115 : UInt8), (101 : UInt8)] then some (.sl [[.int .i64 2]]) else bif op == [(42 : UInt8)] then some (.sl [[.int .i64 2]]) else bif op == [(100 : UInt8), (105 : UInt8), (118 : UInt8)] then some (.sl [[.int .i64 2]]) else bif op == [(114 : UInt8), (101 : UInt8), (109 : UInt8)] then some (.sl [[.int .i64 2]]) else bif op == [(98 : UInt8), (97 : UInt8), (110 : UInt8), (100 : UInt8)] then some (.sl [[.int .i64 2]]) else bif op == [(98 : UInt8), (111 : UInt8), (114 : UInt8)] then some (.sl [[.int .i64 2]]) else bif op == [(98 : UInt8), (120 : UInt8), (111 : UInt8), (114 : UInt8)] then some (.sl [[.int .i64 2]]) else bif op == [(101 : UInt8), (108 : UInt8), (101 : UInt8), (109 : UInt8), (101 : UInt8), (110 : UInt8), (116 : UInt8)] then some (.sl [[.int .i64 2]]) else some (.sl [])) P) : Gets (EVf (EV cfg) 10 [.str op]) P :=
  gE (fun _ => funF rfl rfl Try.func10 rfl) (by kernel_rfl) h
theorem qfY (A : Rz) (n : Int) {P : AV → Prop} (h : Gets (kOpt (EVs (EV cfg) 51 [.sl A, .int .i64 n]) fun v => kInt .i64 v fun n => some (.bool (decide (n ≥ 0)))) P) : Gets (EVs (EV cfg) 37 [.sl A, .int .i64 n]) P :=
  gE (fun _ => funS rfl rfl Try.func37 rfl) (by kernel_rfl) h
theorem qje (A : Rz) (n : Int) {P : AV → Prop} (h : Gets (qdH A n 0) P) : Gets (EVs (EV cfg) 51 [.sl A, .int .i64 n]) P :=
  gE (fun _ => funS rfl rfl Try.func51 rfl) (by kernel_rfl) h
theorem qcF (A : Rz) (n v8 : Int) {P : AV → Prop} (h : Gets (bif decide (v8 < (A.length : Int)) then bif ql 0 v8 && qA v8 (A.length : Int) then kOpt (qnv A (v8.toNat)) fun row => bif qnB (qnw row) 1 then kOpt (qnv row 0) fun v => kInt .i64 v fun n_1 => bif n == n_1 then some (.int .i64 v8) else qdH A n (IntKind.wrap .i64 (v8 + 1)) else none else none else some (.int .i64 (- 1))) P) : Gets (qdH A n v8) P :=
  gE (fun _ => qG (cfg := cfg) (f := 51) (rd := none) (bs := 0)) (by kernel_rfl) h
noncomputable def qmG : Den := evC cfg (EV cfg) 32 none 0 (sub (qm Try.f32) [1, 1, 1, 0, 1, 0, 0])
noncomputable def qmZ : Ex × List AV × AH → Option AV := kAft (Cfg.keepOut cfg 32 5) (kRun cfg (EV cfg) (kfN cfg 6) 32 none 0 (vV cfg (Cfg.lift cfg 32 0) Try.f32.results.toList) ([.block 0, .seq (sub (qm Try.f32) [1, 1, 1, 1])]))
noncomputable def qmr : List AV × AH → Option AV := fun p => kOpt (LOOP 0 (some [1, 2, 5, 6]) ([]) qmG p) qmZ
noncomputable abbrev qdG (most v5 v6 c0_0 c0_1 : Int) (c0_2 : Bz) (c0_3 : Rz) : Option (AV) := qmr  (((fx 43 [(1, .int .i64 most), (2, .ptr 0 0 0), (5, .int .i64 v5), (6, .int .i64 v6)]) : List AV), ([.rows false 4 [[.int .i64 c0_0, .int .i64 c0_1, .str c0_2, .sl c0_3]]] : AH))
theorem qi1 (kt nt : Int) (st : Bz) (lt : Rz) (most : Int) {P : AV → Prop} (h : Gets (kOpt (EVs (EV cfg) 32 [.agg [.int .i64 kt, .int .i64 nt, .str st, .sl lt], .int .i64 (IntKind.wrap .i64 (most + 1))]) fun v => kInt .i64 v fun n => some (.bool (decide (n > most)))) P) : Gets (EVs (EV cfg) 15 [.agg [.int .i64 kt, .int .i64 nt, .str st, .sl lt], .int .i64 most]) P :=
  gE (fun _ => funS rfl rfl Try.func15 rfl) (by kernel_rfl) h
theorem qhT (kt nt : Int) (st : Bz) (lt : Rz) (most : Int) {P : AV → Prop} (h : Gets (bif decide ((st.length : Int) > 100) then some (.int .i64 most) else bif decide ((lt.length : Int) > most) then some (.int .i64 most) else qdG most 1 0 kt nt st lt) P) : Gets (EVs (EV cfg) 32 [.agg [.int .i64 kt, .int .i64 nt, .str st, .sl lt], .int .i64 most]) P :=
  gE (fun _ => funS rfl rfl Try.func32 rfl) (by kernel_rfl) h
theorem qcE (most v5 v6 c0_0 c0_1 : Int) (c0_2 : Bz) (c0_3 : Rz) {P : AV → Prop} (h : Gets (bif decide (v6 < (c0_3.length : Int)) then bif decide (v5 < most) then bif ql 0 v6 && qA v6 (c0_3.length : Int) then kOpt (qnv c0_3 (Int.toNat v6)) fun row => bif qnB (qnw row) 4 then bif qnF 4 (qnw row) then kTmC (qnH 4 row) fun n n_1 s rows => (kOpt (EVs (EV cfg) 32 [.agg [.int .i64 n, .int .i64 n_1, .str s, .sl rows], .int .i64 (IntKind.wrap .i64 (most - v5))]) fun v => kInt .i64 v fun n => qdG most (IntKind.wrap .i64 (v5 + n)) (IntKind.wrap .i64 (v6 + 1)) c0_0 c0_1 c0_2 c0_3) else none else none else none else some (.int .i64 v5) else some (.int .i64 v5)) P) : Gets (qdG most v5 v6 c0_0 c0_1 c0_2 c0_3) P :=
  gE (fun _ => qG (cfg := cfg) (f := 32) (rd := none) (bs := 0)) (by kernel_rfl) h
theorem qj5 (op : List UInt8) : EVf (EV cfg) 10 [.str op] = some (.sl (qk (opsG op))) := by
 apply Gets.get
 refine qfT _ ?_
 have h := qbE (fun l => some (AV.sl (qk l))) op [] qaE
 have : Gets (yJ op (some (AV.sl (qk []))) (qaE.map fun p => (p.1, some (AV.sl (qk p.2))))) (· = .sl (qk (opsG op))) := by
  rw [h]; exact ⟨_, rfl, rfl⟩
 exact this
theorem qk6 (l : List Int) (hl : l.length < 1099511627776) (n : Int) : ∀ d i : Nat, i + d = l.length → Gets (qdH (qk l) n i) (fun v => ∃ j : Int, v = .int .i64 j ∧ (0 ≤ j ↔ n ∈ l.drop i)) := by
 intro d
 induction d with
 | zero =>
  intro i hi
  refine qcF _ _ _ ?_
  rw [qw, decide_eq_false (by omega)]
  refine ⟨_, rfl, -1, rfl, ?_⟩
  rw [List.drop_eq_nil_of_le (by omega)]
  simp
 | succ d ih =>
  intro i hi
  have hil : i < l.length := by omega
  refine qcF _ _ _ ?_
  have hx : l[i]? = some l[i] := qnm hil
  have hd : l.drop i = l[i] :: l.drop (i + 1) := List.drop_eq_getElem_cons hil
  have h := ih (i + 1) (by omega)
  rw [qw, decide_eq_true (show (i : Int) < (l.length : Int) by omega), qH, q5, decide_eq_true hil, qB, Int.toNat_natCast, zj, hx, qS hil hl]
  by_cases he : n = l[i]
  ·refine ⟨.int .i64 i, ?_, i, rfl, ?_⟩
   ·simp [he]
   ·rw [hd, he]; exact ⟨fun _ => List.mem_cons_self, fun _ => by omega⟩
  ·have hne : (n == l[i]) = false := by rw [beqI]; exact decide_eq_false he
   simp [hne]
   refine Gets.mono (by simpa using h) ?_
   rintro _ ⟨j, rfl, hj⟩
   exact ⟨j, rfl, by rw [hj, hd, qnE]; exact ⟨Or.inr, fun h => h.resolve_left he⟩⟩
theorem qcW (l : List Int) (hl : l.length < 1099511627776) (n : Int) : EVs (EV cfg) 37 [.sl (qk l), .int .i64 n] = some (.bool (decide (n ∈ l))) := by
 obtain ⟨_, h1, j, rfl, hj⟩ := qk6 l hl n l.length 0 (by omega)
 have h2 : EVs (EV cfg) 51 [.sl (qk l), .int .i64 n] = some (.int .i64 j) := by
  apply Gets.get
  exact qje _ _ ⟨_, h1, rfl⟩
 apply Gets.get
 refine qfY _ _ ?_
 rw [h2]
 rw [List.drop_zero] at hj
 refine ⟨_, rfl, ?_⟩
 show AV.bool (decide (j ≥ 0)) = _
 congr 1
 exact decide_eq_decide.2 hj
end Go.Proofs.Ytjiecipfkjaooaa
end
section
namespace Go.Av
mutual
/-- is a term an expression over some variables? -/
def isG (V : List Int) : Tm → Bool
  | .mk k n s l =>
    if k = 2 then (match varT (.mk k n s l) with | none => true | some x => decide (x ∈ V))
    else if k = 9 then allG V l
    else if k = 7 then
      (match l with
       | [] => false
       | (.mk k1 _ s1 l1) :: rest =>
         if k1 = 7 then decide (rest.length = 0) && allG V l1
         else if k1 = 2 then (if s1 = [99, 111, 110, 115, 116] then decide (rest.length = 1) else decide ((rest.length : Int) ∈ opsG s1) && allG V rest)
         else false)
    else true
def allG (V : List Int) : List Tm → Bool
  | [] => true
  | t :: l => isG V t && allG V l
end
theorem qdd {V : List Int} {t : Tm} (h : t.kind = 2) : isG V t = (match varT t with | none => true | some x => decide (x ∈ V)) := by
 obtain ⟨k, n, s, l⟩ := t
 simp only [Tm.kind_mk] at h
 rw [isG.eq_def]; simp only []; rw [if_pos h]
theorem qgZ {V : List Int} {t : Tm} (h : t.kind = 9) : isG V t = allG V t.subs := by
 obtain ⟨k, n, s, l⟩ := t
 simp only [Tm.kind_mk] at h
 subst h
 rw [isG.eq_def]; simp only []; rw [if_neg (by omega), if_pos trivial]; rfl
theorem qip {V : List Int} {t : Tm} (h : t.kind = 7) (hl : t.subs = []) : isG V t = false := by
 obtain ⟨k, n, s, l⟩ := t
 simp only [Tm.kind_mk, Tm.subs_mk] at h hl
 subst h hl
 rw [isG.eq_def]; simp only []; rw [if_neg (by omega), if_neg (by omega), if_pos trivial]
theorem qio {V : List Int} {t f : Tm} {r : List Tm} (h : t.kind = 7) (hl : t.subs = f :: r) : isG V t =
  if f.kind = 7 then decide (r.length = 0) && allG V f.subs
  else if f.kind = 2 then (if f.str = [99, 111, 110, 115, 116] then decide (r.length = 1) else decide ((r.length : Int) ∈ opsG f.str) && allG V r) else false := by
 obtain ⟨k, n, s, l⟩ := t
 obtain ⟨k1, n1, s1, l1⟩ := f
 simp only [Tm.kind_mk, Tm.subs_mk] at h hl
 subst h hl
 rw [isG.eq_def]; simp only []; rw [if_neg (by omega), if_neg (by omega), if_pos trivial]; rfl
theorem qfD {V : List Int} {t : Tm} (h2 : t.kind ≠ 2) (h9 : t.kind ≠ 9) (h7 : t.kind ≠ 7) : isG V t = true := by
 obtain ⟨k, n, s, l⟩ := t
 simp only [Tm.kind_mk] at h2 h9 h7
 rw [isG.eq_def]; simp only []; rw [if_neg h2, if_neg h9, if_neg h7]
def qeG (V : List Int) (t : Tm) : Int := if t.chk = 0 then (if isG V t then 0 else 10) else 2
end Go.Av
end
section
namespace Go.Proofs.Ytjiecipfkjaooaa
open Go.Av
theorem qe0 (n : Int) : EVs (EV cfg) 60 [.int .i64 n] = some (.bool (decide (0 ≤ n) && decide (n ≤ 1073741824))) := by
 apply Gets.get
 refine qdS _ ?_
 by_cases h : 0 ≤ n <;> simp [h]
theorem qjY (t : Tm) : EVs (EV cfg) 54 [t.av] = some (.bool t.sound) := by
 obtain ⟨k, n, s, l⟩ := t
 apply Gets.get
 rw [Tm.av_mk]
 refine qiQ _ _ _ _ ?_
 unfold za1 za0
 simp only [Tm.sound, Tm.kind_mk, Tm.num_mk, Tm.str_mk, Tm.subs_mk, qj, beqI, qkv, qaB, qe0, qz, qI]
 by_cases h1 : k = 1
 ·subst h1; simp [qJ] <;> (try rw [Bool.eq_iff_iff]) <;> (try simp) <;> first | omega | grind
 by_cases h2 : k = 2
 ·subst h2; simp [qJ] <;> (try rw [Bool.eq_iff_iff]) <;> (try simp) <;> first | omega | grind
 by_cases h3 : k = 3
 ·subst h3; simp [qJ] <;> (try rw [Bool.eq_iff_iff]) <;> (try simp) <;> first | omega | grind
 by_cases h4 : k = 4
 ·subst h4; simp [qJ] <;> (try rw [Bool.eq_iff_iff]) <;> (try simp) <;> first | omega | grind
 by_cases h6 : k = 6
 ·subst h6; simp [qJ] <;> (try rw [Bool.eq_iff_iff]) <;> (try simp) <;> first | omega | grind
 by_cases h5 : k = 5
 ·subst h5; simp [qJ] <;> (try rw [Bool.eq_iff_iff]) <;> (try simp) <;> first | omega | grind
 by_cases h7 : k = 7
 ·subst h7; simp [qJ] <;> (try rw [Bool.eq_iff_iff]) <;> (try simp) <;> first | omega | grind
 by_cases h8 : k = 8
 ·subst h8; simp [qJ] <;> (try rw [Bool.eq_iff_iff]) <;> (try simp) <;> first | omega | grind
 by_cases h9 : k = 9
 ·subst h9; simp [qJ] <;> (try rw [Bool.eq_iff_iff]) <;> (try simp) <;> first | omega | grind
 simp [h1, h2, h3, h4, h5, h6, h7, h8, h9]
theorem qhL (t : Tm) : t.w < 1099511627776 → EVs (EV cfg) 39 [t.av] = some (.bool t.parts) := by
 induction t using Tm.ind with
 | _ k n s l ih =>
  intro hw
  rw [Tm.w_mk] at hw
  have hlen := xy l
  have loop : ∀ d i : Nat, i + d = l.length → Gets (qdz i k n s (qa l)) (· = .bool (qO (l.drop i))) := by
   intro d
   induction d with
   | zero =>
    intro i hi
    refine qcy _ _ _ _ _ ?_
    rw [qj, decide_eq_false (by omega), List.drop_eq_nil_of_le (by omega)]
    exact ⟨_, rfl, rfl⟩
   | succ d ihd =>
    intro i hi
    have hil : i < l.length := by omega
    refine qcy _ _ _ _ _ ?_
    have hx : l[i]? = some l[i] := qnm hil
    have hm := qnA hx
    have hd : l.drop i = l[i] :: l.drop (i + 1) := List.drop_eq_getElem_cons hil
    have h1 := ih l[i] hm (by have := zN hm; omega)
    have h2 := ihd (i + 1) (by omega)
    rw [qj, decide_eq_true (show (i : Int) < (l.length : Int) by omega), qH, q5, decide_eq_true hil, yV hx, qS hil (by omega), hd, qO]
    simp only [cond_true, Bool.and_self, qU, Nat.beq_refl, vC, vD, show qnF 4 4 = true from rfl, xV, h1, qz, qI]
    cases hg : l[i].parts with
    | false => exact ⟨_, rfl, rfl⟩
    | true => rw [Bool.true_and]; exact h2
  have ho := qjY (.mk k n s l)
  have h0 := loop l.length 0 (by omega)
  apply Gets.get
  rw [Tm.parts_eq]
  rw [Tm.av_mk] at ho ⊢
  refine qgA _ _ _ _ ?_
  rw [ho]
  simp only [qz, qI, Tm.subs_mk]
  cases (Tm.mk k n s l).sound with
  | false => exact ⟨_, rfl, rfl⟩
  | true => rw [Bool.true_and]; exact h0
theorem qdW {l : List Tm} (h : qO l = true) : ∀ x ∈ l, x.parts = true := by
 induction l with
 | nil => intro x hx; cases hx
 | cons y l ih =>
  rw [qO, qnn] at h
  intro x hx
  cases hx with
  | head => exact h.1
  | tail _ hx => exact ih h.2 x hx
theorem qhK (t : Tm) : t.w < 1099511627776 → t.parts = true → EVs (EV cfg) 40 [t.av] = some (.int .i64 (t.words : Int)) := by
 induction t using Tm.ind with
 | _ k n s l ih =>
  intro hw hp
  have hww := qkJ (.mk k n s l)
  rw [Tm.w_mk] at hw hww
  have hlen := xy l
  rw [Tm.parts, qnn] at hp
  obtain ⟨hp, hpl⟩ := hp
  have loop : ∀ d i acc : Nat, i + d = l.length → acc + qE (l.drop i) < 9007199254740992 → Gets (xx acc i k n s (qa l)) (· = .int .i64 ((acc + qE (l.drop i) : Nat) : Int)) := by
   intro d
   induction d with
   | zero =>
    intro i acc hi _
    refine qcx _ _ _ _ _ _ ?_
    rw [qj, decide_eq_false (by omega), List.drop_eq_nil_of_le (by omega)]
    exact ⟨_, rfl, rfl⟩
   | succ d ihd =>
    intro i acc hi hacc
    have hil : i < l.length := by omega
    refine qcx _ _ _ _ _ _ ?_
    have hx : l[i]? = some l[i] := qnm hil
    have hm := qnA hx
    have hd : l.drop i = l[i] :: l.drop (i + 1) := List.drop_eq_getElem_cons hil
    have h1 := ih l[i] hm (by have := zN hm; omega) (qdW hpl _ hm)
    rw [hd, qE] at hacc
    have h2 := ihd (i + 1) (acc + (l[i]).words) (by omega) (by omega)
    have w1 : IntKind.wrap .i64 ((acc : Int) + ((l[i]).words : Int)) = ((acc + (l[i]).words : Nat) : Int) := by rw [vS (by omega) (by omega)]; omega
    rw [qj, decide_eq_true (show (i : Int) < (l.length : Int) by omega), qH, q5, decide_eq_true hil, yV hx, qS hil (by omega), hd, qE]
    simp only [cond_true, Bool.and_self, qU, Nat.beq_refl, vC, vD, show qnF 4 4 = true from rfl, xV, h1, qz, xr, w1]
    rw [← qnD]
    exact h2
  have hwo : (Tm.mk k n s l).words = (Tm.mk k n s l).own + qE l := by rw [Tm.words]
  rw [hwo] at hww ⊢
  have ho := (Tm.mk k n s l).own_le
  have h0 := loop l.length 0 (Tm.mk k n s l).own (by omega) (by rw [List.drop_zero]; omega)
  rw [List.drop_zero] at h0
  apply Gets.get
  rw [Tm.av_mk]
  refine qgz _ _ _ _ ?_
  by_cases h5 : k = 5
  ·subst h5
   have o2 : (Tm.mk 5 n s l).own = 2 := by simp [Tm.own]
   rw [o2] at h0 ⊢; exact h0
  by_cases h7 : k = 7
  ·subst h7
   have o2 : (Tm.mk 7 n s l).own = 2 := by simp [Tm.own]
   rw [o2] at h0 ⊢; exact h0
  have o1 : (Tm.mk k n s l).own = 1 := by simp [Tm.own, h5, h7]
  rw [o1] at h0 ⊢
  by_cases h9 : k = 9
  ·subst h9; exact h0
  have e5 : (k == 5) = false := by simpa using h5
  have e7 : (k == 7) = false := by simpa using h7
  have e9 : (k == 9) = false := by simpa using h9
  have hl : l = [] := by
   have : qaB k n s l.length = true → l.length = 0 := by
    unfold qaB
    rw [if_neg h5, if_neg h7, if_neg h9]
    intro h
    repeat' split at h
    all_goals simp at h
    all_goals simp [h]
   exact List.length_eq_zero_iff.1 (this hp)
  subst hl
  rw [e5, e7, e9]
  exact ⟨_, rfl, rfl⟩
theorem qcO {t : Tm} (h : t.w < 1099511627776) : EVs (EV cfg) 19 [t.av] = some (.int .i64 t.chk) := by
 have hp := qhL t h
 have hw := qhK t h
 apply Gets.get
 rw [Tm.av, Tm.cells_eq] at hp hw ⊢
 refine qgB _ _ _ _ ?_
 rw [hp]
 have hc : t.chk = if t.parts then (if 65536 < t.words then 3 else 0) else 2 := by
  unfold Tm.chk chkS
  simp [qO, qE]
 rw [hc]
 simp only [qz, qI]
 cases ht : t.parts with
 | false => exact ⟨_, rfl, rfl⟩
 | true =>
  rw [hw ht]
  simp only [qz, xr, Bool.not_true, cond_false, if_true]
  by_cases hg : 65536 < t.words
  ·rw [decide_eq_true (show ((t.words : Int) > 65536) by omega), if_pos hg]; exact ⟨_, rfl, rfl⟩
  ·rw [decide_eq_false (show ¬ ((t.words : Int) > 65536) by omega), if_neg hg]; exact ⟨_, rfl, rfl⟩
theorem qkT (l : List Int) (hl : l.length < 1099511627776) (n : Int) : EVs (EV cfg) 42 [.sl (qk l), .int .i64 n] = some (.bool (decide (n ∈ l))) := by
 have loop : ∀ d i : Nat, i + d = l.length → Gets (qdy (qk l) n i) (· = .bool (decide (n ∈ l.drop i))) := by
  intro d
  induction d with
  | zero =>
   intro i hi
   refine qcv _ _ _ ?_
   rw [qw, decide_eq_false (by omega), List.drop_eq_nil_of_le (by omega)]
   exact ⟨_, rfl, by simp⟩
  | succ d ih =>
   intro i hi
   have hil : i < l.length := by omega
   refine qcv _ _ _ ?_
   have hx : l[i]? = some l[i] := qnm hil
   have hd : l.drop i = l[i] :: l.drop (i + 1) := List.drop_eq_getElem_cons hil
   have h := ih (i + 1) (by omega)
   rw [qw, decide_eq_true (show (i : Int) < (l.length : Int) by omega), qH, q5, decide_eq_true hil, qB, Int.toNat_natCast, zj, hx, qS hil hl, hd]
   by_cases he : l[i] = n
   ·refine ⟨.bool true, ?_, ?_⟩
    ·simp [he]
    ·rw [he]; simp
   ·have hne : (l[i] == n) = false := by rw [beqI]; exact decide_eq_false he
    have hm : decide (n ∈ l[i] :: l.drop (i + 1)) = decide (n ∈ l.drop (i + 1)) := decide_eq_decide.2 (by rw [qnE]; exact ⟨fun h => h.resolve_left (fun e => he e.symm), Or.inr⟩)
    rw [hm]
    simpa [hne] using h
 apply Gets.get
 exact qjV _ _ (by simpa using loop l.length 0 (by omega))
theorem qfw (op : List UInt8) : EVf (EV cfg) 11 [.str op] = some (.sl (qk (opsG op))) := by
 apply Gets.get
 refine qiM _ ?_
 have h := qbE (fun l => some (AV.sl (qk l))) op [] qaE
 have : Gets (yJ op (some (AV.sl (qk []))) (qaE.map fun p => (p.1, some (AV.sl (qk p.2))))) (· = .sl (qk (opsG op))) := by
  rw [h]; exact ⟨_, rfl, rfl⟩
 exact this
theorem qh3 (kt nt : Int) (st : Bz) (lt V : Rz) {P : AV → Prop} (h : Gets (bif kt == 2 then kOpt (EVs (EV cfg) 36 [.agg [.int .i64 kt, .int .i64 nt, .str st, .sl lt]]) fun v => kTup v fun cs => qM cs fun c cs => kInt .i64 c fun n => qM cs fun c cs => qq c fun b => kNil cs (bif ! b then some (.bool true) else kOpt (EVs (EV cfg) 37 [.sl V, .int .i64 n]) fun v => qq v fun b => some (.bool b)) else bif kt == 9 then kOpt (EVs (EV cfg) 38 [.sl lt, .sl V]) fun v => qq v fun b => some (.bool b) else bif kt == 7 then bif (lt.length : Int) == 0 then some (.bool false) else bif qA 0 (lt.length : Int) then kOpt (qnv lt 0) fun row => bif qnB (qnw row) 4 then bif qnF 4 (qnw row) then kTmC (qnH 4 row) fun n n_1 s rows => (bif ql 1 (lt.length : Int) then bif xj 4 lt then bif n == 7 then bif (↑ (qnw (qnH (qnw lt - 1) (List.drop 1 lt))) : Int) == (0 : Int) then kOpt (EVs (EV cfg) 38 [.sl rows, .sl V]) fun v => qq v fun b => some (.bool b) else some (.bool false) else bif n != 2 then some (.bool false) else bif s == [(99 : UInt8), (111 : UInt8), (110 : UInt8), (115 : UInt8), (116 : UInt8)] then some (.bool ((↑ (qnw (qnH (qnw lt - 1) (List.drop 1 lt))) : Int) == 1)) else kOpt (EVf (EV cfg) 10 [.str s]) fun v => kSl v fun rows => kOpt (EVs (EV cfg) 37 [.sl rows, .int .i64 (↑ (qnw (qnH (qnw lt - 1) (List.drop 1 lt))) : Int)]) fun v => qq v fun b => bif b then kOpt (EVs (EV cfg) 38 [.sl (qnH (qnw lt - 1) (List.drop 1 lt)), .sl V]) fun v => qq v fun b => some (.bool b) else some (.bool false) else none else none) else none else none else none else some (.bool true)) P) : Gets (EVs (EV cfg) 18 [.agg [.int .i64 kt, .int .i64 nt, .str st, .sl lt], .sl V]) P :=
  gE (fun _ => funS rfl rfl Try.func18 rfl) (by kernel_rfl) h
theorem qg3 (L V : Rz) {P : AV → Prop} (h : Gets (kOpt (EVs (EV cfg) 52 [.sl L, AV.fn (Fn.func 53) [] [AV.cptr [.sl V] 0]]) fun v => qq v fun b => some (.bool ! b)) P) : Gets (EVs (EV cfg) 38 [.sl L, .sl V]) P :=
  gE (fun _ => funS rfl rfl Try.func38 rfl) (by kernel_rfl) h
theorem qfi (kt nt : Int) (st : Bz) (lt V : Rz) {P : AV → Prop} (h : Gets (kOpt (EVs (EV cfg) 17 [.agg [.int .i64 kt, .int .i64 nt, .str st, .sl lt]]) fun v => kInt .i64 v fun n => bif n != 0 then some (.int .i64 2) else kOpt (EVs (EV cfg) 18 [.agg [.int .i64 kt, .int .i64 nt, .str st, .sl lt], .sl V]) fun v => qq v fun b => bif ! b then some (.int .i64 10) else some (.int .i64 0)) P) : Gets (EVs (EV cfg) 7 [.agg [.int .i64 kt, .int .i64 nt, .str st, .sl lt], .sl V]) P :=
  gE (fun _ => funS rfl rfl Try.func7 rfl) (by kernel_rfl) h
noncomputable def qmB : Den := evC cfg (EV cfg) 59 none 0 (sub (qm Try.f59) [1, 0, 1, 0, 0])
noncomputable def qmU : Ex × List AV × AH → Option AV := kAft (Cfg.keepOut cfg 59 2) (kRun cfg (EV cfg) (kfN cfg 6) 59 none 0 (vV cfg (Cfg.lift cfg 59 0) Try.f59.results.toList) ([.block 0, .seq (sub (qm Try.f59) [1, 1])]))
noncomputable def qmm : List AV × AH → Option AV := fun p => kOpt (LOOP 0 (some [0, 1, 7, 8]) ([]) qmB p) qmU
noncomputable abbrev qdB (L V : Rz) (v8 : Int) : Option (AV) := qmm  (((fx 19 [(0, .sl L), (1, .fn (Fn.func 53) [] [.cptr [.sl V] 0]), (7, .int .i64 (L.length : Int)), (8, .int .i64 v8)]) : List AV), ([] : AH))
theorem qhg (L V : Rz) {P : AV → Prop} (h : Gets (kOpt (EVs (EV cfg) 59 [.sl L, AV.fn (Fn.func 53) [] [AV.cptr [.sl V] 0]]) fun v => kInt .i64 v fun n => some (.bool (decide (n ≥ 0)))) P) : Gets (EVs (EV cfg) 52 [.sl L, .fn (Fn.func 53) [] [.cptr [.sl V] 0]]) P :=
  gE (fun _ => funS rfl rfl Try.func52 rfl) (by kernel_rfl) h
theorem qh2 (L V : Rz) {P : AV → Prop} (h : Gets (qdB L V 0) P) : Gets (EVs (EV cfg) 59 [.sl L, .fn (Fn.func 53) [] [.cptr [.sl V] 0]]) P :=
  gE (fun _ => funS rfl rfl Try.func59 rfl) (by kernel_rfl) h
theorem qkw (ke ne : Int) (se : Bz) (le V : Rz) {P : AV → Prop} (h : Gets (kOpt (EVs (EV cfg) 18 [.agg [.int .i64 ke, .int .i64 ne, .str se, .sl le], .sl V]) fun v => qq v fun b => some (.bool ! b)) P) : Gets (EVs (EV cfg) 53 [.agg [.int .i64 ke, .int .i64 ne, .str se, .sl le], .cptr [.sl V] 0]) P :=
  gE (fun _ => funS rfl rfl Try.func53 rfl) (by kernel_rfl) h
theorem qcA (L V : Rz) (v8 : Int) {P : AV → Prop} (h : Gets (bif decide (v8 < (L.length : Int)) then bif ql 0 v8 && qA v8 (L.length : Int) then kOpt (qnv L (v8.toNat)) fun row => bif qnB (qnw row) 4 then bif qnF 4 (qnw row) then kTmC (qnH 4 row) fun n n_1 s rows => (kOpt (EVs (EV cfg) 53 [.agg [.int .i64 n, .int .i64 n_1, .str s, .sl rows], AV.cptr [.sl V] 0]) fun v => qq v fun b => bif b then some (.int .i64 v8) else qdB L V (IntKind.wrap .i64 (v8 + 1))) else none else none else none else some (.int .i64 (- 1))) P) : Gets (qdB L V v8) P :=
  gE (fun _ => qG (cfg := cfg) (f := 59) (rd := none) (bs := 0)) (by kernel_rfl) h
theorem qc8 (op : List UInt8) : (opsG op).length < 1099511627776 := by
 have : ∀ (l : List (List UInt8 × List Int)), (∀ p ∈ l, p.2.length ≤ 2) → (yJ op [] l).length ≤ 2 := by
  intro l
  induction l with
  | nil => intro _; simp [yJ]
  | cons p l ih =>
   intro h
   rw [yJ]
   cases op == p.1
   ·exact ih fun q hq => h q (by simp [hq])
   ·exact h p (by simp)
 have := this qaE (by decide)
 unfold opsG
 omega
theorem qmd {V : List Int} {l : List Tm} (hlen : l.length < 1099511627776) (ih : ∀ x ∈ l, EVs (EV cfg) 18 [x.av, .sl (qk V)] = some (.bool (isG V x))) :
  EVs (EV cfg) 38 [.sl (qa l), .sl (qk V)] = some (.bool (allG V l)) := by
 have hin : ∀ x ∈ l, EVs (EV cfg) 53 [x.av, .cptr [.sl (qk V)] 0] = some (.bool (!isG V x)) := by
  intro x hx
  have h := ih x hx
  apply Gets.get
  rw [Tm.av, Tm.cells_eq] at h ⊢
  refine qkw _ _ _ _ _ ?_
  rw [h]; exact ⟨_, rfl, rfl⟩
 have loop : ∀ d i : Nat, i + d = l.length → Gets (qdB (qa l) (qk V) i) (fun v => ∃ j : Int, v = .int .i64 j ∧ (0 ≤ j ↔ allG V (l.drop i) = false)) := by
  intro d
  induction d with
  | zero =>
   intro i hi
   refine qcA _ _ _ ?_
   rw [qj, decide_eq_false (by omega)]
   refine ⟨_, rfl, -1, rfl, ?_⟩
   rw [List.drop_eq_nil_of_le (by omega)]
   simp [allG]
  | succ d ihd =>
   intro i hi
   have hil : i < l.length := by omega
   refine qcA _ _ _ ?_
   have hx : l[i]? = some l[i] := qnm hil
   have hd : l.drop i = l[i] :: l.drop (i + 1) := List.drop_eq_getElem_cons hil
   have h1 := hin l[i] (qnA hx)
   have h2 := ihd (i + 1) (by omega)
   rw [qj, decide_eq_true (show (i : Int) < (l.length : Int) by omega), qH, q5, decide_eq_true hil, yV hx, qS hil hlen]
   simp only [cond_true, Bool.and_self, qU, Nat.beq_refl, vC, vD, show qnF 4 4 = true from rfl, xV, h1, qz, qI]
   cases hg : isG V l[i] with
   | false =>
    refine ⟨_, rfl, i, rfl, ?_⟩
    rw [hd, allG, hg]
    exact ⟨fun _ => rfl, fun _ => by omega⟩
   | true =>
    refine h2.mono ?_
    rintro _ ⟨j, rfl, hj⟩
    refine ⟨j, rfl, ?_⟩
    rw [hd, allG, hg, Bool.true_and]; exact hj
 obtain ⟨_, h1, j, rfl, hj⟩ := loop l.length 0 (by omega)
 rw [List.drop_zero] at hj
 have h2 : EVs (EV cfg) 59 [.sl (qa l), .fn (.func 53) [] [.cptr [.sl (qk V)] 0]] = some (.int .i64 j) := by
  apply Gets.get
  exact qh2 _ _ ⟨_, h1, rfl⟩
 have h3 : EVs (EV cfg) 52 [.sl (qa l), .fn (.func 53) [] [.cptr [.sl (qk V)] 0]] = some (.bool (decide (j ≥ 0))) := by
  apply Gets.get
  refine qhg _ _ ?_
  rw [h2]; exact ⟨_, rfl, rfl⟩
 apply Gets.get
 refine qg3 _ _ ?_
 rw [h3]
 refine ⟨_, rfl, ?_⟩
 show AV.bool (!decide (j ≥ 0)) = _
 congr 1
 cases ha : allG V l with
 | false => rw [decide_eq_true (hj.2 ha)]; rfl
 | true =>
  have : ¬ j ≥ 0 := fun h => by have := hj.1 h; rw [ha] at this; cases this
  rw [decide_eq_false this]; rfl
theorem qm9 {V : List Int} (hV : V.length < 1099511627776) : ∀ (n : Nat) (t : Tm), t.w ≤ n → n < 1099511627776 → EVs (EV cfg) 18 [t.av, .sl (qk V)] = some (.bool (isG V t)) := by
 intro n
 induction n with
 | zero => intro t h; have := qiB t; omega
 | succ n ih =>
  intro t hw hn
  have hwe := t.w_eq
  have hwl := xy t.subs
  have allOf : ∀ l : List Tm, wL l ≤ n → EVs (EV cfg) 38 [.sl (qa l), .sl (qk V)] = some (.bool (allG V l)) := fun l hl =>
   qmd (by have := xy l; omega) fun x hx => ih x (by have := zN hx; omega) (by omega)
  have hvar := qj2 (t := t) (by omega)
  have hsub := allOf t.subs (by omega)
  apply Gets.get
  rw [Tm.av, Tm.cells_eq] at hvar ⊢
  refine qh3 _ _ _ _ _ ?_
  rw [hvar, hsub]
  simp only [beqI, qz, qI]
  by_cases h2 : t.kind = 2
  ·rw [decide_eq_true h2, cond_true, qdd h2]
   simp only [varR, kTup, qM, xr, qI, kNil]
   cases hv : varT t with
   | none => exact ⟨_, rfl, rfl⟩
   | some x =>
    have hc := qcW V hV x
    simp only [Option.getD_some, Option.isSome_some, Bool.not_true, cond_false]
    rw [hc]; exact ⟨_, rfl, rfl⟩
  ·rw [decide_eq_false h2, cond_false]
   by_cases h9 : t.kind = 9
   ·rw [decide_eq_true h9, cond_true, qgZ h9]; exact ⟨_, rfl, rfl⟩
   ·rw [decide_eq_false h9, cond_false]
    by_cases h7 : t.kind = 7
    ·rw [decide_eq_true h7, cond_true]
     cases hl : t.subs with
     | nil => rw [qip h7 hl]; exact ⟨_, rfl, rfl⟩
     | cons f r =>
      rw [qio h7 hl]
      rw [hl] at hwl hwe
      rw [zG] at hwe
      have hfw := f.w_eq
      have hfs := allOf f.subs (by omega)
      have hr := allOf r (by omega)
      have c0 : (decide (((qa (f :: r)).length : Int) = 0)) = false := by rw [qj]; exact decide_eq_false (by simp; omega)
      have c1 : qA 0 ((qa (f :: r)).length : Int) = true := by rw [qj]; exact decide_eq_true (by simp)
      have c2 : ql 1 ((qa (f :: r)).length : Int) = true := by rw [qj]; exact decide_eq_true (by simp; omega)
      have g0 : (qa (f :: r))[(0 : Int).toNat]? = some f.cells := by rw [vp]; rfl
      have tk : qnH ((qa (f :: r)).length - 1) (List.drop 1 (qa (f :: r))) = qa r := by
       rw [vp, List.drop_succ_cons, List.drop_zero, List.length_cons, Nat.add_sub_cancel, List.take_length]
      have g0' : (qa (f :: r))[0]? = some f.cells := g0
      rw [c0, c1, c2, tk]
      simp only [cond_false, cond_true, qB, g0, g0', qz, qU, Nat.beq_refl, show qnF 4 4 = true from rfl, vC, vD, qbv, qj, beqS]
      by_cases f7 : f.kind = 7
      ·rw [if_pos f7, decide_eq_true f7, cond_true, hfs]
       by_cases hrl : r.length = 0
       ·have : decide ((r.length : Int) = 0) = true := decide_eq_true (by omega)
        rw [this, decide_eq_true hrl]; exact ⟨_, rfl, rfl⟩
       ·have : decide ((r.length : Int) = 0) = false := decide_eq_false (by omega)
        rw [this, decide_eq_false hrl]; exact ⟨_, rfl, rfl⟩
      ·rw [if_neg f7, decide_eq_false f7, cond_false]
       by_cases f2 : f.kind = 2
       ·have : (f.kind != 2) = false := by rw [f2]; rfl
        rw [if_pos f2, this, cond_false]
        by_cases hc : f.str = [99, 111, 110, 115, 116]
        ·rw [if_pos hc, decide_eq_true hc]
         refine ⟨_, rfl, ?_⟩
         show AV.bool (decide ((r.length : Int) = 1)) = _
         congr 1
         exact decide_eq_decide.2 (by omega)
        ·rw [if_neg hc, decide_eq_false hc, cond_false, qj5]
         have hcn := qcW (opsG f.str) (qc8 f.str) (r.length : Int)
         simp only [qz, qkf, hcn, qI, hr]
         cases decide ((r.length : Int) ∈ opsG f.str) <;> exact ⟨_, rfl, rfl⟩
       ·have : (f.kind != 2) = true := by simpa using f2
        rw [if_neg f2, this]; exact ⟨_, rfl, rfl⟩
    ·rw [decide_eq_false h7, qfD h2 h9 h7]; exact ⟨_, rfl, rfl⟩
theorem qfX {V : List Int} (hV : V.length < 1099511627776) {t : Tm} (h : t.w < 1099511627776) : EVs (EV cfg) 7 [t.av, .sl (qk V)] = some (.int .i64 (qeG V t)) := by
 have hc := qhh h
 have hi := qm9 hV t.w t (qnp _) h
 apply Gets.get
 rw [Tm.av, Tm.cells_eq] at hc hi ⊢
 refine qfi _ _ _ _ _ ?_
 rw [hc, hi]
 unfold qeG
 simp only [qz, xr, qI]
 by_cases h0 : t.chk = 0
 ·have : (t.chk != 0) = false := by rw [h0]; rfl
  rw [this, if_pos h0]
  cases isG V t <;> exact ⟨_, rfl, rfl⟩
 ·have : (t.chk != 0) = true := by simpa using h0
  rw [this, if_neg h0]; exact ⟨_, rfl, rfl⟩
theorem qjT (op : List UInt8) (n : Int) : EVs (EV cfg) 44 [.str op, .int .i64 n] = some (.bool (decide (n ∈ opsG op))) := by
 have hl := qc8 op
 have loop : ∀ d i : Nat, i + d = (opsG op).length → Gets (qdw n (qk (opsG op)) i) (· = .bool (decide (n ∈ (opsG op).drop i))) := by
  generalize opsG op = l at hl
  intro d
  induction d with
  | zero =>
   intro i hi
   refine qct _ _ _ ?_
   rw [qw, decide_eq_false (by omega), List.drop_eq_nil_of_le (by omega)]
   exact ⟨_, rfl, by simp⟩
  | succ d ih =>
   intro i hi
   have hil : i < l.length := by omega
   refine qct _ _ _ ?_
   have hx : l[i]? = some l[i] := qnm hil
   have hd : l.drop i = l[i] :: l.drop (i + 1) := List.drop_eq_getElem_cons hil
   have h := ih (i + 1) (by omega)
   rw [qw, decide_eq_true (show (i : Int) < (l.length : Int) by omega), qH, q5, decide_eq_true hil, qB, Int.toNat_natCast, zj, hx, qS hil hl, hd]
   by_cases he : l[i] = n
   ·refine ⟨.bool true, ?_, ?_⟩
    ·simp [he]
    ·rw [he]; simp
   ·have hne : (l[i] == n) = false := by rw [beqI]; exact decide_eq_false he
    have hm : decide (n ∈ l[i] :: l.drop (i + 1)) = decide (n ∈ l.drop (i + 1)) := decide_eq_decide.2 (by rw [qnE]; exact ⟨fun h => h.resolve_left (fun e => he e.symm), Or.inr⟩)
    rw [hm]
    simpa [hne] using h
 apply Gets.get
 refine qiN _ _ ?_
 rw [qfw]
 exact (by simpa using loop (opsG op).length 0 (by omega))
theorem qc3 {k n : Int} {s : List UInt8} {l : List (List AV)} {b : UInt8} {v : Int} {i : Nat} {P : AV → Prop} (hv : 0 ≤ v ∧ v ≤ 9) (hl : s.length ≤ 3) (hb : s[i]? = some b)
  (h : Gets (match vh b with | none => some (AV.tup [.int .i64 0, .bool false]) | some x => zb (v * 10 + x) ((i + 1 : Nat) : Int) k n s l) P) : Gets (zb v i k n s l) P := by
 have hi : i < s.length := (qnj.1 hb).1
 refine qcw _ _ _ _ _ _ ?_
 have hbl := b.toNat_lt
 rw [decide_eq_true (show (i : Int) < (s.length : Int) by omega), qH]
 simp only [cond_true, qB, Int.toNat_natCast, hb, qz]
 unfold vh at h
 by_cases h1 : b.toNat < 48
 ·rw [if_pos h1] at h
  rw [decide_eq_true (show (b.toNat : Int) < 48 by omega)]; exact h
 ·rw [if_neg h1] at h
  rw [decide_eq_false (show ¬ (b.toNat : Int) < 48 by omega), cond_false]
  by_cases h2 : b.toNat > 57
  ·rw [if_pos h2] at h
   rw [decide_eq_true (show (b.toNat : Int) > 57 by omega)]; exact h
  ·rw [if_neg h2] at h
   rw [decide_eq_false (show ¬ (b.toNat : Int) > 57 by omega), cond_false]
   have w1 : IntKind.wrap .i64 (10 * v) = v * 10 := by rw [vS (by omega) (by omega)]; omega
   have w2 : IntKind.wrap .u8 ((b.toNat : Int) - 48) = (b.toNat : Int) - 48 := by
    simp [IntKind.wrap, IntKind.bits, IntKind.signed]; omega
   have w3 : IntKind.wrap .i64 ((b.toNat : Int) - 48) = (b.toNat : Int) - 48 := vS (by omega) (by omega)
   have w4 : IntKind.wrap .i64 (v * 10 + ((b.toNat : Int) - 48)) = v * 10 + ((b.toNat : Int) - 48) := vS (by omega) (by omega)
   have w5 : IntKind.wrap .i64 ((i : Int) + 1) = ((i + 1 : Nat) : Int) := qS (n := 3) (by omega) (by omega)
   rw [w1, w2, w3, w4, w5]
   exact h
theorem qik {k n : Int} {s : List UInt8} {l : List (List AV)} {v : Int} {i : Nat} (hi : i = s.length) : Gets (zb v i k n s l) (· = .tup [.int .i64 v, .bool true]) := by
 refine qcw _ _ _ _ _ _ ?_
 rw [decide_eq_false (by omega)]
 exact ⟨_, rfl, rfl⟩
theorem qjX {t : Tm} (h : t.w < 1099511627776) : EVs (EV cfg) 41 [t.av] = some (varR (varT t)) := by
 have hc := qcO h
 apply Gets.get
 rw [Tm.av, Tm.cells_eq] at hc ⊢
 refine qiP _ _ _ _ ?_
 rw [hc]
 unfold varT
 simp only [qz, xr]
 by_cases h2 : t.chk = 0
 ·have e0 : (t.chk != 0) = false := by rw [h2]; rfl
  rw [e0, cond_false]
  by_cases h1 : t.kind = 2
  ·have e1 : (t.kind != 2) = false := by rw [h1]; rfl
   rw [e1, cond_false, if_pos ⟨h1, h2⟩]
   generalize t.str = s
   generalize t.kind = k
   generalize t.num = n
   generalize qa t.subs = l
   match s with
   | [] => exact ⟨_, rfl, rfl⟩
   | [a] => exact ⟨_, rfl, rfl⟩
   | a :: b :: c :: d :: l =>
    have h1 : ¬ ((a :: b :: c :: d :: l).length : Int) < 2 := by simp; omega
    have h2 : ((a :: b :: c :: d :: l).length : Int) > 3 := by simp; omega
    rw [decide_eq_false h1, decide_eq_true h2]
    exact ⟨_, rfl, rfl⟩
   | [a, b] =>
    by_cases h : a.toNat = 36
    ·have e : (((a.toNat : Int)) != 36) = false := by rw [h]; rfl
     have hs := qc3 (k := k) (n := n) (l := l) (s := [a, b]) (b := b) (v := 0) (i := 1) (P := (· = varR (varG [a, b]))) (by omega) (by simp) rfl (by
      rw [qf6, if_pos h]
      cases hd : vh b with
      | none => exact ⟨_, rfl, rfl⟩
      | some x =>
       refine (qik (s := [a, b]) rfl).mono ?_
       rintro _ rfl
       show _ = varR (some x)
       simp [varR])
     show Gets (bif (((a.toNat : Int)) != 36) then _ else _) _
     rw [e]
     exact hs
    ·have e : (((a.toNat : Int)) != 36) = true := by simpa using fun h' => h (by omega)
     show Gets (bif (((a.toNat : Int)) != 36) then _ else _) _
     rw [e]
     refine ⟨_, rfl, ?_⟩
     rw [qf6, if_neg h]; rfl
   | [a, b, c] =>
    by_cases h : a.toNat = 36
    ·have e : (((a.toNat : Int)) != 36) = false := by rw [h]; rfl
     show Gets (bif (((a.toNat : Int)) != 36) then _ else bif (((b.toNat : Int)) == 48) then _ else _) _
     rw [e]
     by_cases hb : b.toNat = 48
     ·have e2 : (((b.toNat : Int)) == 48) = true := by rw [hb]; rfl
      rw [e2]
      refine ⟨_, rfl, ?_⟩
      rw [qb5, if_neg (fun h => h.2 hb)]; rfl
     ·have e2 : (((b.toNat : Int)) == 48) = false := by simpa using fun h' => hb (by omega)
      rw [e2]
      show Gets (zb 0 1 k n [a, b, c] l) _
      refine qc3 (s := [a, b, c]) (b := b) (v := 0) (i := 1) (by omega) (by simp) rfl ?_
      rw [qb5, if_pos ⟨h, hb⟩]
      cases hd : vh b with
      | none => exact ⟨_, rfl, rfl⟩
      | some x =>
       have hx := qfH hd
       refine qc3 (s := [a, b, c]) (b := c) (i := 2) (by omega) (by simp) rfl ?_
       cases hd2 : vh c with
       | none => exact ⟨_, rfl, by simp [varR, hd2]⟩
       | some y =>
        refine (qik (s := [a, b, c]) rfl).mono ?_
        rintro _ rfl
        simp [varR, hd2]
    ·have e : (((a.toNat : Int)) != 36) = true := by simpa using fun h' => h (by omega)
     show Gets (bif (((a.toNat : Int)) != 36) then _ else _) _
     rw [e]
     refine ⟨_, rfl, ?_⟩
     rw [qb5, if_neg (fun h' => h h'.1)]; rfl
  ·have e1 : (t.kind != 2) = true := by simpa using h1
   rw [e1, if_neg (fun h => h1 h.1)]
   exact ⟨_, rfl, rfl⟩
 ·have e0 : (t.chk != 0) = true := by simpa using h2
  rw [e0, if_neg (fun h => h2 h.2)]
  exact ⟨_, rfl, rfl⟩
theorem qjW {V : List Int} {l : List Tm} (hlen : l.length < 1099511627776) (ih : ∀ x ∈ l, EVs (EV cfg) 20 [x.av, .sl (qk V)] = some (.bool (isG V x))) :
  EVs (EV cfg) 43 [.sl (qa l), .sl (qk V)] = some (.bool (allG V l)) := by
 have loop : ∀ d i : Nat, i + d = l.length → Gets (qdx (qa l) (qk V) i) (· = .bool (allG V (l.drop i))) := by
  intro d
  induction d with
  | zero =>
   intro i hi
   refine qcu _ _ _ ?_
   rw [qj, decide_eq_false (by omega), List.drop_eq_nil_of_le (by omega)]
   exact ⟨_, rfl, by rw [allG]⟩
  | succ d ihd =>
   intro i hi
   have hil : i < l.length := by omega
   refine qcu _ _ _ ?_
   have hx : l[i]? = some l[i] := qnm hil
   have hd : l.drop i = l[i] :: l.drop (i + 1) := List.drop_eq_getElem_cons hil
   have h1 := ih l[i] (qnA hx)
   have h2 := ihd (i + 1) (by omega)
   rw [qj, decide_eq_true (show (i : Int) < (l.length : Int) by omega), qH, q5, decide_eq_true hil, yV hx, qS hil hlen, hd, allG]
   simp only [cond_true, Bool.and_self, qU, Nat.beq_refl, vC, vD, show qnF 4 4 = true from rfl, xV, h1, qz, qI]
   cases hg : isG V l[i] with
   | false => exact ⟨_, rfl, rfl⟩
   | true => rw [Bool.true_and]; exact h2
 apply Gets.get
 exact qiO _ _ (by simpa using loop l.length 0 (by omega))
theorem qkS {V : List Int} (hV : V.length < 1099511627776) : ∀ (n : Nat) (t : Tm), t.w ≤ n → n < 1099511627776 → EVs (EV cfg) 20 [t.av, .sl (qk V)] = some (.bool (isG V t)) := by
 intro n
 induction n with
 | zero => intro t h; have := qiB t; omega
 | succ n ih =>
  intro t hw hn
  have hwe := t.w_eq
  have hwl := xy t.subs
  have allOf : ∀ l : List Tm, wL l ≤ n → EVs (EV cfg) 43 [.sl (qa l), .sl (qk V)] = some (.bool (allG V l)) := fun l hl =>
   qjW (by have := xy l; omega) fun x hx => ih x (by have := zN hx; omega) (by omega)
  have hvar := qjX (t := t) (by omega)
  have hsub := allOf t.subs (by omega)
  apply Gets.get
  rw [Tm.av, Tm.cells_eq] at hvar ⊢
  refine qjU _ _ _ _ _ ?_
  rw [hvar, hsub]
  simp only [beqI, qz, qI]
  simp only [varR, kTup, qM, xr, qI, kNil]
  cases hv : varT t with
  | some x =>
   have h2 : t.kind = 2 := by
    unfold varT at hv
    split at hv
    ·rename_i h; exact h.1
    ·cases hv
   have hc := qkT V hV x
   simp only [Option.getD_some, Option.isSome_some, cond_true]
   rw [hc, qdd h2, hv]; exact ⟨_, rfl, rfl⟩
  | none =>
   simp only [Option.isSome_none, cond_false]
   by_cases h9 : t.kind = 9
   ·rw [decide_eq_true h9, cond_true, qgZ h9]; exact ⟨_, rfl, rfl⟩
   ·rw [decide_eq_false h9, cond_false]
    by_cases h7 : t.kind = 7
    ·have e7 : (t.kind != 7) = false := by rw [h7]; rfl
     rw [e7, cond_false]
     cases hl : t.subs with
     | nil => rw [qip h7 hl]; exact ⟨_, rfl, rfl⟩
     | cons f r =>
      rw [qio h7 hl]
      rw [hl] at hwl hwe
      rw [zG] at hwe
      have hfw := f.w_eq
      have hfs := allOf f.subs (by omega)
      have hr := allOf r (by omega)
      have hrl := xy r
      have c0 : (decide (((qa (f :: r)).length : Int) = 0)) = false := by rw [qj]; exact decide_eq_false (by simp; omega)
      have c1 : qA 0 ((qa (f :: r)).length : Int) = true := by rw [qj]; exact decide_eq_true (by simp)
      have c2 : ql 1 ((qa (f :: r)).length : Int) = true := by rw [qj]; exact decide_eq_true (by simp; omega)
      have c3 : IntKind.wrap .i64 (((qa (f :: r)).length : Int) - 1) = (r.length : Int) := by
       rw [qj, List.length_cons, vS (by omega) (by omega)]; omega
      have c4 : (decide (((qa (f :: r)).length : Int) = 1)) = decide (r.length = 0) := by rw [qj, List.length_cons]; exact decide_eq_decide.2 (by omega)
      have c5 : (decide (((qa (f :: r)).length : Int) = 2)) = decide (r.length = 1) := by rw [qj, List.length_cons]; exact decide_eq_decide.2 (by omega)
      have g0 : (qa (f :: r))[(0 : Int).toNat]? = some f.cells := by rw [vp]; rfl
      have g0' : (qa (f :: r))[0]? = some f.cells := g0
      have tk : qnH ((qa (f :: r)).length - 1) (List.drop 1 (qa (f :: r))) = qa r := by
       rw [vp, List.drop_succ_cons, List.drop_zero, List.length_cons, Nat.add_sub_cancel, List.take_length]
      have hm := qjT f.str (r.length : Int)
      rw [c0, c1, c2, c3, c4, c5, tk]
      simp only [cond_false, cond_true, qB, g0, g0', qz, qU, Nat.beq_refl, show qnF 4 4 = true from rfl, vC, vD, qbv, beqS, hm, hfs, hr, qI]
      by_cases f7 : f.kind = 7
      ·have f2 : (f.kind != 2) = true := by rw [f7]; rfl
       rw [if_pos f7, decide_eq_true f7, f2]
       cases decide (r.length = 0) <;> exact ⟨_, rfl, rfl⟩
      ·rw [if_neg f7, decide_eq_false f7, cond_false]
       by_cases f2 : f.kind = 2
       ·have e2 : (f.kind != 2) = false := by rw [f2]; rfl
        rw [if_pos f2, e2, cond_false]
        by_cases hc : f.str = [99, 111, 110, 115, 116]
        ·rw [if_pos hc, decide_eq_true hc]
         cases decide (r.length = 0) <;> exact ⟨_, rfl, rfl⟩
        ·rw [if_neg hc, decide_eq_false hc, cond_false]
         cases decide (r.length = 0) <;> cases decide ((r.length : Int) ∈ opsG f.str) <;> exact ⟨_, rfl, rfl⟩
       ·have e2 : (f.kind != 2) = true := by simpa using f2
        rw [if_neg f2, e2]
        cases decide (r.length = 0) <;> exact ⟨_, rfl, rfl⟩
    ·have e7 : (t.kind != 7) = true := by simpa using h7
     rw [e7]
     by_cases h2 : t.kind = 2
     ·rw [qdd h2, hv]; exact ⟨_, rfl, rfl⟩
     ·rw [qfD h2 h9 h7]; exact ⟨_, rfl, rfl⟩
theorem qhJ {V : List Int} (hV : V.length < 1099511627776) {t : Tm} (h : t.w < 1099511627776) : EVs (EV cfg) 8 [t.av, .sl (qk V)] = some (.int .i64 (qeG V t)) := by
 have hc := qcO h
 have hi := qkS hV t.w t (qnp _) h
 apply Gets.get
 rw [Tm.av, Tm.cells_eq] at hc hi ⊢
 refine qgy _ _ _ _ _ ?_
 rw [hc, hi]
 unfold qeG
 simp only [qz, xr, qI]
 by_cases h0 : t.chk = 0
 ·have : (t.chk != 0) = false := by rw [h0]; rfl
  rw [this, if_pos h0]
  cases isG V t <;> exact ⟨_, rfl, rfl⟩
 ·have : (t.chk != 0) = true := by simpa using h0
  rw [this, if_neg h0]; exact ⟨_, rfl, rfl⟩
noncomputable def qmA : Den := evC cfg (EV cfg) 9 none 0 (sub (qm Try.f9) [1, 1, 0, 1, 0, 0])
noncomputable def qmT : Ex × List AV × AH → Option AV := kAft (Cfg.keepOut cfg 9 4) (kRun cfg (EV cfg) (kfN cfg 6) 9 none 0 (vV cfg (Cfg.lift cfg 9 0) Try.f9.results.toList) ([.block 0, .seq (sub (qm Try.f9) [1, 1, 1])]))
noncomputable def qml : List AV × AH → Option AV := fun p => kOpt (LOOP 0 (some [0, 1, 5]) ([]) qmA p) qmT
noncomputable abbrev qdA (L M : Rz) (v5 : Int) : Option (AV) := qml  (((fx 26 [(0, .sl L), (1, .sl M), (5, .int .i64 v5)]) : List AV), ([] : AH))
theorem qgt (L M : Rz) {P : AV → Prop} (h : Gets (bif (L.length : Int) != (M.length : Int) then some (.bool false) else qdA L M 0) P) : Gets (EVs (EV cfg) 9 [.sl L, .sl M]) P :=
  gE (fun _ => funS rfl rfl Try.func9 rfl) (by kernel_rfl) h
theorem qcz (L M : Rz) (v5 : Int) {P : AV → Prop} (h : Gets (bif decide (v5 < (L.length : Int)) then bif ql 0 v5 && qA v5 (L.length : Int) then kOpt (qnv L (v5.toNat)) fun row => bif qnB (qnw row) 1 then kOpt (qnv row 0) fun v => kInt .i64 v fun n => bif ql 0 v5 && qA v5 (M.length : Int) then kOpt (qnv M (v5.toNat)) fun row => bif qnB (qnw row) 1 then kOpt (qnv row 0) fun v => kInt .i64 v fun n_1 => bif n != n_1 then some (.bool false) else qdA L M (IntKind.wrap .i64 (v5 + 1)) else none else none else none else none else some (.bool true)) P) : Gets (qdA L M v5) P :=
  gE (fun _ => qG (cfg := cfg) (f := 9) (rd := none) (bs := 0)) (by kernel_rfl) h
theorem qcL {l m : List Int} (hl : l.length < 1099511627776) : EVs (EV cfg) 9 [.sl (qk l), .sl (qk m)] = some (.bool (decide (l = m))) := by
 apply Gets.get
 refine qgt _ _ ?_
 rw [qw, qw]
 by_cases hlm : l.length = m.length
 ·have e : ((l.length : Int) != (m.length : Int)) = false := by rw [hlm]; simp
  rw [e, cond_false]
  have loop : ∀ d i : Nat, i + d = l.length → Gets (qdA (qk l) (qk m) i) (· = .bool (decide (l.drop i = m.drop i))) := by
   intro d
   induction d with
   | zero =>
    intro i hi
    refine qcz _ _ _ ?_
    rw [qw, decide_eq_false (by omega), List.drop_eq_nil_of_le (by omega), List.drop_eq_nil_of_le (by omega)]
    exact ⟨_, rfl, by simp⟩
   | succ d ih =>
    intro i hi
    have hil : i < l.length := by omega
    have him : i < m.length := by omega
    refine qcz _ _ _ ?_
    have hx : l[i]? = some l[i] := qnm hil
    have hy : m[i]? = some m[i] := qnm him
    have hd : l.drop i = l[i] :: l.drop (i + 1) := List.drop_eq_getElem_cons hil
    have hd2 : m.drop i = m[i] :: m.drop (i + 1) := List.drop_eq_getElem_cons him
    have h := ih (i + 1) (by omega)
    rw [qw, qw, decide_eq_true (show (i : Int) < (l.length : Int) by omega), qH, q5, q5, decide_eq_true hil, decide_eq_true him, qB, qB, Int.toNat_natCast, zj, zj, hx, hy, qS hil hl, hd, hd2]
    by_cases he : l[i] = m[i]
    ·have hm : decide (l[i] :: l.drop (i + 1) = m[i] :: m.drop (i + 1)) = decide (l.drop (i + 1) = m.drop (i + 1)) := decide_eq_decide.2 (by rw [List.cons_eq_cons]; exact ⟨fun h => h.2, fun h => ⟨he, h⟩⟩)
     rw [hm]
     simpa [he] using h
    ·have hm : decide (l[i] :: l.drop (i + 1) = m[i] :: m.drop (i + 1)) = false := decide_eq_false (by rw [List.cons_eq_cons]; exact fun h => he h.1)
     rw [hm]
     have hne : (l[i] != m[i]) = true := by simpa using he
     simp [hne, Gets]
  simpa using loop l.length 0 (by omega)
 ·have e : ((l.length : Int) != (m.length : Int)) = true := by simp; omega
  rw [e, decide_eq_false (fun h => hlm (by rw [h]))]
  exact ⟨_, rfl, rfl⟩
noncomputable def qmI : Den := evC cfg (EV cfg) 6 none 0 (sub (qm Try.f6) [1, 1, 1, 0, 1, 0, 0])
noncomputable def qm1 : Ex × List AV × AH → Option AV := kAft (Cfg.keepOut cfg 6 4) (kRun cfg (EV cfg) (kfN cfg 6) 6 none 0 (qls cfg (Cfg.lift cfg 6 0) Try.f6.results.toList) ([.block 0, .seq (sub (qm Try.f6) [1, 1, 1, 1])]))
noncomputable def qmt : List AV × AH → Option AV := fun p => kOpt (LOOP 0 (some [0, 3, 4]) ([]) qmI p) qm1
noncomputable abbrev qax (V : Rz) (v4 : Int) (h0 : Rz) : Option (AV) := qmt  (((fx 29 [(0, .sl V), (3, .wr (Int.toNat (IntKind.wrap .i64 ((V.length : Int) + (3 : Int)))) (.ms 0 0 (Int.toNat (IntKind.wrap .i64 ((V.length : Int) + (3 : Int)))))), (4, .int .i64 v4)]) : List AV), ([.rows true 1 h0] : AH))
theorem qgJ (V : Rz) {P : AV → Prop} (h : Gets (bif decide (IntKind.wrap .i64 ((V.length : Int) + 3) = IntKind.wrap .i64 ((V.length : Int) + 3)) then bif ql 0 (IntKind.wrap .i64 ((↑ (qnw V) : Int) + 3)) && ql (IntKind.wrap .i64 ((V.length : Int) + 3)) (IntKind.wrap .i64 ((V.length : Int) + 3)) && ql (IntKind.wrap .i64 ((↑ (qnw V) : Int) + 3) * 8) 140737488355328 && ql (IntKind.wrap .i64 ((V.length : Int) + 3)) 9223372036854775807 then bif xj 1 V then bif qnF (0 + Int.toNat (IntKind.wrap .i64 ((V.length : Int) + 3))) (qnw (qnz (Int.toNat (IntKind.wrap .i64 ((V.length : Int) + 3))) [AV.int .i64 0])) && true then qax V (V.length : Int) (List.append (qnH (Int.toNat (IntKind.wrap .i64 ((V.length : Int) + 3))) V) (List.drop (0 + qnw (qnH (Int.toNat (IntKind.wrap .i64 ((V.length : Int) + 3))) V)) (qnz (Int.toNat (IntKind.wrap .i64 ((V.length : Int) + 3))) [AV.int .i64 0]))) else none else none else none else none) P) : Gets (EVw (EV cfg) 6 [.sl V]) P :=
  gE (fun _ => funW rfl rfl Try.func6 rfl) (by kernel_rfl) h
theorem qgL (n : Nat) (A V : Rz) {P : AV → Prop} (h : Gets (bif (↑ (qnw (qnH n A)) : Int) == (V.length : Int) then bif ql 0 (A.length : Int) && ql (A.length : Int) (A.length : Int) then kOpt (EVw (EV cfg) 6 [.sl V]) fun v => kWr v fun n rows => bif ql 0 (IntKind.wrap .i64 ((V.length : Int) + 3)) && ql (IntKind.wrap .i64 ((V.length : Int) + 3)) (rows.length : Int) then bif qe 0 [.sl (qnH (Int.toNat (A.length : Int)) A), .sl (qnH (Int.toNat (IntKind.wrap .i64 ((V.length : Int) + 3))) rows)] then kOpt (EVs (EV cfg) 9 [.sl (qnH (Int.toNat (A.length : Int)) A), .sl (qnH (Int.toNat (IntKind.wrap .i64 ((V.length : Int) + 3))) rows)]) fun v => qq v fun b => some (.bool b) else none else none else none else some (.bool false)) P) : Gets (EVw (EV cfg) 13 [.wr n (.sl A), .sl V]) P :=
  gE (fun _ => funW rfl rfl Try.func13 rfl) (by kernel_rfl) h
theorem qd7 (kt nt : Int) (st : Bz) (lt V : Rz) (op : Bz) {P : AV → Prop} (h : Gets (bif qe 0 [.sl [[AV.int .i64 kt, .int .i64 nt, .str st, .sl lt]], .agg [.int .i64 0, .int .i64 0, .str [], .sl [], .sl [], .int .i64 0]] then kOpt (EVs (EV cfg) 4 [.sl [[AV.int .i64 kt, .int .i64 nt, .str st, .sl lt]], .agg [.int .i64 0, .int .i64 0, .str [], .sl [], .sl [], .int .i64 0]]) fun v => qq v fun b => bif b then some (.bool true) else bif decide ((V.length : Int) > 200) then some (.bool true) else kOpt (EVf (EV cfg) 5 [.agg [.int .i64 kt, .int .i64 nt, .str st, .sl lt]]) fun v => kTmV v fun n n_1 s rows => (kOpt (EVw (EV cfg) 6 [.sl V]) fun v => kWr v fun n_2 rows_1 => bif qe 0 [.agg [.int .i64 n, .int .i64 n_1, .str s, .sl rows], .sl (qnH n_2 rows_1)] then kOpt (EVs (EV cfg) 7 [.agg [.int .i64 n, .int .i64 n_1, .str s, .sl rows], .sl (qnH n_2 rows_1)]) fun v => kInt .i64 v fun n_3 => kOpt (EVs (EV cfg) 8 [.agg [.int .i64 kt, .int .i64 nt, .str st, .sl lt], .sl V]) fun v => kInt .i64 v fun n_4 => bif n_3 == n_4 then kOpt (EVf (EV cfg) 10 [.str op]) fun v => kSl v fun rows_2 => kOpt (EVf (EV cfg) 11 [.str op]) fun v => kSl v fun rows_3 => kOpt (EVs (EV cfg) 9 [.sl rows_2, .sl rows_3]) fun v => qq v fun b => bif b then kOpt (EVs (EV cfg) 12 [.agg [.int .i64 n, .int .i64 n_1, .str s, .sl rows], .agg [.int .i64 kt, .int .i64 nt, .str st, .sl lt]]) fun v => qq v fun b => bif b then kOpt (EVw (EV cfg) 13 [AV.wr n_2 (.sl rows_1), .sl V]) fun v => qq v fun b => bif b then kOpt (EVs (EV cfg) 14 []) fun v => qq v fun b => some (.bool b) else some (.bool false) else some (.bool false) else some (.bool false) else some (.bool false) else none) else none) P) : Gets (EVs (EV cfg) 3 [.agg [.int .i64 kt, .int .i64 nt, .str st, .sl lt], .sl V, .str op]) P :=
  gE (fun _ => funS rfl rfl Try.func3 rfl) (by kernel_rfl) h
theorem qcG (V : Rz) (v4 : Int) (h0 : Rz) {P : AV → Prop} (h : Gets (bif decide (v4 < (↑ (Int.toNat (IntKind.wrap .i64 ((V.length : Int) + 3))) : Int)) then bif ql 0 v4 && qA v4 (↑ (Int.toNat (IntKind.wrap .i64 ((↑ (qnw V) : Int) + 3))) : Int) then kOpt (qnv h0 (0 + v4.toNat)) fun row => bif qnF 1 (qnw row) then qax V (IntKind.wrap .i64 (v4 + (1 : Int))) (List.set h0 (0 + v4.toNat) (.int .i64 (IntKind.wrap .i64 ((- 77) - v4)) :: List.drop 1 row)) else none else none else bif ql 0 (V.length : Int) && ql (V.length : Int) (↑ (Int.toNat (IntKind.wrap .i64 ((V.length : Int) + 3))) : Int) then bif qnF (0 + Int.toNat (IntKind.wrap .i64 ((↑ (qnw V) : Int) + 3))) (qnw h0) && true then some (AV.wr (Int.toNat (V.length : Int)) (.sl (qnH (Int.toNat (IntKind.wrap .i64 ((V.length : Int) + (3 : Int)))) h0))) else none else none) P) : Gets (qax V v4 h0) P :=
  gE (fun _ => qG (cfg := cfg) (f := 6) (rd := none) (bs := 0)) (by kernel_rfl) h
end Go.Proofs.Ytjiecipfkjaooaa
end
section
namespace Go.Av
def yl (n : Nat) : List Int := [-77 - ((n : Int) + 0), -77 - ((n : Int) + 1), -77 - ((n : Int) + 2)]
def qd5 (V : List Int) : AV := .wr V.length (.sl (qk (V ++ yl V.length)))
theorem qkk (a b : List Int) : qk (a ++ b) = qk a ++ qk b := by simp [qk]
theorem qlP {α : Type} (A B : List α) (x : α) {k : Nat} (h : A.length = k) : (A ++ x :: B)[k]? = some x := by rw [qns (by omega), h, Nat.sub_self]; rfl
theorem qlF {α : Type} (A B : List α) (x y : α) {k : Nat} (h : A.length = k) : (A ++ x :: B).set k y = A ++ y :: B := by rw [List.set_append_right _ _ (by omega), h, Nat.sub_self]; rfl
theorem qdC {x : Int} (h0 : -9223372036854775808 ≤ x) (h1 : x ≤ 9223372036854775807) : IntKind.wrap .i64 x = x := by
 simp [IntKind.wrap, IntKind.bits, IntKind.signed]; omega
end Go.Av
namespace Go.Proofs.Ytjiecipfkjaooaa
open Go.Av
theorem qbF {V T : List Int} {m : Nat} (hV : V.length < 1099511627776) (hT : T.length + (m + 1) = 3) {P : AV → Prop}
  (h : Gets (qax (qk V) ((V.length + T.length + 1 : Nat) : Int) (qk (V ++ (T ++ [-77 - ((V.length : Int) + T.length)])) ++ qnz m [AV.int .i64 0])) P) :
  Gets (qax (qk V) ((V.length + T.length : Nat) : Int) (qk (V ++ T) ++ qnz (m + 1) [AV.int .i64 0])) P := by
 have w3 : IntKind.wrap .i64 ((V.length : Int) + 3) = ((V.length + 3 : Nat) : Int) := by rw [qdC (by omega) (by omega)]; omega
 have w1 : IntKind.wrap .i64 (((V.length + T.length : Nat) : Int) + 1) = ((V.length + T.length + 1 : Nat) : Int) := by rw [qdC (by omega) (by omega)]; omega
 have w2 : IntKind.wrap .i64 (-77 - ((V.length + T.length : Nat) : Int)) = -77 - ((V.length : Int) + T.length) := by rw [qdC (by omega) (by omega)]; omega
 have hl : (qk (V ++ T)).length = V.length + T.length := by rw [qw, List.length_append]
 refine qcG _ _ _ ?_
 rw [qw, w3, Int.toNat_natCast, decide_eq_true (show ((V.length + T.length : Nat) : Int) < ((V.length + 3 : Nat) : Int) by omega), qH, show qA ((V.length + T.length : Nat) : Int) ((V.length + 3 : Nat) : Int) = true from decide_eq_true (by omega),
  qB, Nat.zero_add, Int.toNat_natCast, List.replicate_succ, qlP _ _ _ hl, w1, w2]
 have e : qk (V ++ T) ++ [AV.int .i64 (-77 - ((V.length : Int) + T.length))] :: qnz m [AV.int .i64 0] = qk (V ++ (T ++ [-77 - ((V.length : Int) + T.length)])) ++ qnz m [AV.int .i64 0] := by
  rw [← List.append_assoc, qkk (V ++ T), List.append_assoc]; rfl
 simp only [cond_true, Bool.and_self, qz, show qnF 1 [AV.int .i64 0].length = true from rfl, show List.drop 1 [AV.int .i64 0] = [] from rfl]
 rw [qlF _ _ _ _ hl, e]
 exact h
theorem qcS {V : List Int} (hV : V.length < 1099511627776) : EVw (EV cfg) 6 [.sl (qk V)] = some (qd5 V) := by
 have w3 : IntKind.wrap .i64 ((V.length : Int) + 3) = ((V.length + 3 : Nat) : Int) := by rw [qdC (by omega) (by omega)]; omega
 apply Gets.get
 refine qgJ _ ?_
 have e0 : List.append (qnH (V.length + 3) (qk V)) (List.drop (0 + (qnH (V.length + 3) (qk V)).length) (qnz (V.length + 3) [AV.int .i64 0])) = qk (V ++ []) ++ qnz (2 + 1) [AV.int .i64 0] := by
  rw [List.take_of_length_le (by rw [qw]; omega), qw, Nat.zero_add, List.drop_replicate, List.append_nil, show V.length + 3 - V.length = 2 + 1 by omega]; rfl
 rw [qw, w3, Int.toNat_natCast, decide_eq_true rfl, qH, show ql ((V.length + 3 : Nat) : Int) ((V.length + 3 : Nat) : Int) = true from decide_eq_true (Int.le_refl _), show ql (((V.length + 3 : Nat) : Int) * 8) 140737488355328 = true from decide_eq_true (by omega),
  show ql ((V.length + 3 : Nat) : Int) 9223372036854775807 = true from decide_eq_true (by omega), show xj 1 (qk V) = true by cases V <;> rfl, show qnF (0 + (V.length + 3)) (qnz (V.length + 3) [AV.int .i64 0]).length = true by rw [Nat.ble_eq, List.length_replicate]; omega, e0]
 simp only [cond_true, Bool.and_self]
 have l0 := fun P h => qbF (V := V) (T := []) (m := 2) (P := P) hV rfl h
 have l1 := fun P h => qbF (V := V) (T := [-77 - ((V.length : Int) + 0)]) (m := 1) (P := P) hV rfl h
 have l2 := fun P h => qbF (V := V) (T := [-77 - ((V.length : Int) + 0), -77 - ((V.length : Int) + 1)]) (m := 0) (P := P) hV rfl h
 have hl : (qk (V ++ yl V.length)).length = V.length + 3 := by rw [qw, List.length_append]; rfl
 have fin : Gets (qax (qk V) ((V.length + 3 : Nat) : Int) (qk (V ++ yl V.length) ++ qnz 0 [AV.int .i64 0])) (· = qd5 V) := by
  rw [List.replicate_zero, List.append_nil]
  refine qcG _ _ _ ?_
  rw [qw, w3, Int.toNat_natCast, decide_eq_false (by omega), qH, show ql ((V.length : Nat) : Int) ((V.length + 3 : Nat) : Int) = true from decide_eq_true (by omega), hl, Int.toNat_natCast,
   show qnF (0 + (V.length + 3)) (V.length + 3) = true by rw [Nat.ble_eq]; omega, List.take_of_length_le (by rw [hl]; exact qnp _)]
  exact ⟨_, rfl, rfl⟩
 exact l0 _ (l1 _ (l2 _ fin))
theorem qhU {V : List Int} (hV : V.length < 1000000) : EVw (EV cfg) 13 [qd5 V, .sl (qk V)] = some (.bool true) := by
 have w3 : IntKind.wrap .i64 ((V.length : Int) + 3) = ((V.length + 3 : Nat) : Int) := by rw [qdC (by omega) (by omega)]; omega
 have hl : (qk (V ++ yl V.length)).length = V.length + 3 := by rw [qw, List.length_append]; rfl
 have hs := qcL (l := V ++ yl V.length) (m := V ++ yl V.length) (by rw [← qw, hl]; omega)
 have hk := qcS (V := V) (by omega)
 apply Gets.get
 unfold qd5 at hk ⊢
 refine qgL _ _ _ ?_
 rw [hk]
 have ht : qnH (V.length + 3) (qk (V ++ yl V.length)) = qk (V ++ yl V.length) := List.take_of_length_le (by rw [hl]; exact qnp _)
 have hn : (qnH V.length (qk (V ++ yl V.length))).length = V.length := by rw [List.length_take, hl]; omega
 rw [hn, hl, qw, w3, Int.toNat_natCast, beq_self_eq_true, qH, show ql ((V.length + 3 : Nat) : Int) ((V.length + 3 : Nat) : Int) = true from decide_eq_true (Int.le_refl _)]
 simp only [cond_true, Bool.and_self, qz, kWr, hl, show ql ((V.length + 3 : Nat) : Int) ((V.length + 3 : Nat) : Int) = true from decide_eq_true (Int.le_refl _), ht, hs, decide_true, qI]
 rw [show qe 0 [AV.sl (qk (V ++ yl V.length)), .sl (qk (V ++ yl V.length))] = true from rfl]
 exact ⟨_, rfl, rfl⟩
theorem qlE (t : Tm) : t.Ok → ∀ most : Int, Gets (EVs (EV cfg) 32 [t.av, .int .i64 most]) AV.IsInt := by
 induction t using Tm.ind with
 | _ k n s l ih =>
  intro hok most
  have loop : ∀ (d i : Nat) (m : Int), i + d = l.length → Gets (qdG most m i k n s (qa l)) AV.IsInt := by
   intro d
   induction d with
   | zero =>
    intro i m hi
    refine qcE _ _ _ _ _ _ _ ?_
    rw [qj, decide_eq_false (by omega)]
    simp
   | succ d ihd =>
    intro i m hi
    refine qcE _ _ _ _ _ _ _ ?_
    have hil : i < l.length := by omega
    have hx : l[i]? = some l[i] := qnm hil
    have hxl := qnA hx
    have hix := ih l[i] hxl (hok.sub hxl)
    by_cases hm : m < most
    ·rw [qS hil hok.len]
     simp [hil, hx, hm]
     refine Gets.bind (hix _) ?_
     rintro _ ⟨n'', rfl⟩
     simpa using ihd (i + 1) _ (by omega)
    ·simp [hil, hm]
  rw [Tm.av_mk]
  refine qhT _ _ _ _ _ ?_
  by_cases h1 : (s.length : Int) > 100
  ·rw [decide_eq_true h1]; simp
  ·rw [decide_eq_false h1]
   by_cases h2 : (l.length : Int) > most
   ·rw [qj, decide_eq_true h2]; simp
   ·rw [qj, decide_eq_false h2]
    exact loop l.length 0 1 (by omega)
theorem qhj {t : Tm} (h : t.Ok) (most : Int) : Gets (EVs (EV cfg) 15 [t.av, .int .i64 most]) AV.IsBool := by
 have h1 := qlE t h (IntKind.wrap .i64 (most + 1))
 rw [Tm.av, Tm.cells_eq] at h1 ⊢
 refine qi1 _ _ _ _ _ ?_
 refine Gets.bind h1 ?_
 rintro _ ⟨n, rfl⟩
 simp
end Go.Proofs.Ytjiecipfkjaooaa
end
section
namespace Go.Av
theorem qdW {l : List Tm} (h : qO l = true) : ∀ x ∈ l, x.parts = true := by
 induction l with
 | nil => intro x hx; cases hx
 | cons y l ih =>
  intro x hx
  rw [qO, qnn] at h
  rcases qnE.1 hx with rfl | hx
  ·exact h.1
  ·exact ih h.2 x hx
structure EnvOk (e : Env) : Prop where
 obj : e.obj.chk = 0
 may : mayB (-1) e.binds = true
 self : qm6 e.self = true
theorem qgH : ∀ {l : List (Int × Tm)} {last : Int}, mayB last l = true → (l.length : Int) ≤ max 0 (99 - last)
 | [], _, _ => by simp; omega
 | p :: l, last, h => by
  simp only [mayB, qnn, decide_eq_true_eq] at h
  have := qgH h.2.2.2
  simp only [List.length_cons]
  omega
theorem EnvOk.len {e : Env} (h : EnvOk e) : e.binds.length ≤ 100 := by have := qgH h.may; omega
end Go.Av
end
section
namespace Go.Proofs.Ytjiecipfkjaooaa
open Go.Av
noncomputable def qnf : Den := evC cfg (EV cfg) 4 none 0 (sub (qm Try.f4) [1, 0, 1, 0, 0])
noncomputable def qni : Ex × List AV × AH → Option AV := kAft (Cfg.keepOut cfg 4 2) (kRun cfg (EV cfg) (kfN cfg 6) 4 none 0 (vV cfg (Cfg.lift cfg 4 0) Try.f4.results.toList) ([.block 0, .seq (sub (qm Try.f4) [1, 1])]))
noncomputable def qnd : List AV × AH → Option AV := fun p => kOpt (LOOP 0 (some [0, 3, 5]) ([]) qnf p) qni
noncomputable def qne : Den := evC cfg (EV cfg) 4 none 0 (sub (qm Try.f4) [1, 1, 0, 1, 0, 0])
noncomputable def qnh : Ex × List AV × AH → Option AV := kAft (Cfg.keepOut cfg 4 7) (kRun cfg (EV cfg) (kfN cfg 6) 4 none 0 (vV cfg (Cfg.lift cfg 4 0) Try.f4.results.toList) ([.block 2, .seq (sub (qm Try.f4) [1, 1, 1])]))
noncomputable def qnc : List AV × AH → Option AV := fun p => kOpt (LOOP 0 (some [0, 3, 6]) ([]) qne p) qnh
noncomputable abbrev qf5 (L : Rz) (v5 c0_0 c0_1 : Int) (c0_2 : Bz) (c0_3 c0_4 : Rz) (c0_5 : Int) : Option (AV) := qnd  (((fx 54 [(0, .sl L), (3, .ptr 0 0 0), (5, .int .i64 v5)]) : List AV), ([.rows false 6 [[.int .i64 c0_0, .int .i64 c0_1, .str c0_2, .sl c0_3, .sl c0_4, .int .i64 c0_5]]] : AH))
noncomputable abbrev qdu (L : Rz) (v6 c0_0 c0_1 : Int) (c0_2 : Bz) (c0_3 c0_4 : Rz) (c0_5 : Int) : Option (AV) := qnc  (((fx 54 [(0, .sl L), (3, .ptr 0 0 0), (6, .int .i64 v6)]) : List AV), ([.rows false 6 [[.int .i64 c0_0, .int .i64 c0_1, .str c0_2, .sl c0_3, .sl c0_4, .int .i64 c0_5]]] : AH))
theorem qe4 (L : Rz) (ke ne : Int) (se : Bz) (le bd : Rz) (self : Int) {P : AV → Prop} (h : Gets (qf5 L 0 ke ne se le bd self) P) : Gets (EVs (EV cfg) 4 [.sl L, .agg [.int .i64 ke, .int .i64 ne, .str se, .sl le, .sl bd, .int .i64 self]]) P :=
  gE (fun _ => funS rfl rfl Try.func4 rfl) (by kernel_rfl) h
theorem qdv (L : Rz) (v5 c0_0 c0_1 : Int) (c0_2 : Bz) (c0_3 c0_4 : Rz) (c0_5 : Int) {P : AV → Prop} (h : Gets (bif decide (v5 < (L.length : Int)) then bif decide (v5 < 101) then bif ql 0 v5 && qA v5 (L.length : Int) then kOpt (qnv L (Int.toNat v5)) fun row => bif qnB (qnw row) 4 then bif qnF 4 (qnw row) then kTmC (qnH 4 row) fun n n_1 s rows => (kOpt (EVs (EV cfg) 15 [.agg [.int .i64 n, .int .i64 n_1, .str s, .sl rows], .int .i64 300]) fun v => qq v fun b => bif b then some (.bool true) else qf5 L (IntKind.wrap .i64 (v5 + 1)) c0_0 c0_1 c0_2 c0_3 c0_4 c0_5) else none else none else none else qdu L 0 c0_0 c0_1 c0_2 c0_3 c0_4 c0_5 else qdu L 0 c0_0 c0_1 c0_2 c0_3 c0_4 c0_5) P) : Gets (qf5 L v5 c0_0 c0_1 c0_2 c0_3 c0_4 c0_5) P :=
  gE (fun _ => qG (cfg := cfg) (f := 4) (rd := none) (bs := 0)) (by kernel_rfl) h
theorem qdt (L : Rz) (v6 c0_0 c0_1 : Int) (c0_2 : Bz) (c0_3 c0_4 : Rz) (c0_5 : Int) {P : AV → Prop} (h : Gets (bif decide (v6 < (c0_4.length : Int)) then bif decide (v6 < 61) then bif ql 0 v6 && qA v6 (c0_4.length : Int) then kOpt (qnv c0_4 (v6.toNat)) fun row => bif qnB (qnw row) 5 then bif qnF 5 (qnw row) then qM (qnH 4 (List.drop 1 row)) fun c cs => kInt .i64 c fun n => qM cs fun c cs => kInt .i64 c fun n_1 => qM cs fun c cs => kStr c fun s => qM cs fun c cs => kSl c fun rows => kNil cs (kOpt (EVs (EV cfg) 15 [.agg [.int .i64 n, .int .i64 n_1, .str s, .sl rows], .int .i64 100]) fun v => qq v fun b => bif b then some (.bool true) else qdu L (IntKind.wrap .i64 (v6 + 1)) c0_0 c0_1 c0_2 c0_3 c0_4 c0_5) else none else none else none else bif decide ((L.length : Int) > 100) then some (.bool true) else bif decide ((c0_4.length : Int) > 60) then some (.bool true) else kOpt (EVs (EV cfg) 15 [.agg [.int .i64 c0_0, .int .i64 c0_1, .str c0_2, .sl c0_3], .int .i64 300]) fun v => qq v fun b => some (.bool b) else bif decide ((L.length : Int) > (100 : Int)) then some (.bool true) else bif decide ((c0_4.length : Int) > 60) then some (.bool true) else kOpt (EVs (EV cfg) 15 [.agg [.int .i64 c0_0, .int .i64 c0_1, .str c0_2, .sl c0_3], .int .i64 300]) fun v => qq v fun b => some (.bool b)) P) : Gets (qdu L v6 c0_0 c0_1 c0_2 c0_3 c0_4 c0_5) P :=
  gE (fun _ => qG (cfg := cfg) (f := 4) (rd := none) (bs := 0)) (by kernel_rfl) h
end Go.Proofs.Ytjiecipfkjaooaa
end
section
namespace Go.Av
theorem qnb : qnF 4 4 = true := rfl
end Go.Av
namespace Go.Proofs.Ytjiecipfkjaooaa
open Go.Av
def envR (o : Tm) (L : List (Int × Tm)) (self : Int) : AV := .agg [.int .i64 o.kind, .int .i64 o.num, .str o.str, .sl (qa o.subs), .sl (xC L), .int .i64 self]
end Go.Proofs.Ytjiecipfkjaooaa
end
section
namespace Go.Av
structure EnvW (e : Env) : Prop where
 obj : e.obj.w < 1099511627776
 len : e.binds.length < 1099511627776
 binds : ∀ p ∈ e.binds, p.2.w < 1099511627776
end Go.Av
namespace Go.Proofs.Ytjiecipfkjaooaa
open Go.Av
end Go.Proofs.Ytjiecipfkjaooaa
end
section
namespace Go.Av
theorem qlO {α : Type} (t : Tm) (K : Int → Int → List UInt8 → List (List AV) → Option α) : (qM t.cells fun (c : AV) (cs : List AV) => kInt .i64 c fun (n : Int) => qM cs fun (c : AV) (cs : List AV) => kInt .i64 c fun (n_1 : Int) => qM cs fun (c : AV) (cs : List AV) => kStr c fun (s : List UInt8) => qM cs fun (c : AV) (cs : List AV) => kSl c fun (rows : List (List AV)) => kNil cs (K n n_1 s rows)) = K t.kind t.num t.str (qa t.subs) := vD t K
end Go.Av
namespace Go.Proofs.Ytjiecipfkjaooaa
open Go.Av
theorem qkd {l : List Tm} (hl : OkL l) (hlen : l.length < 1099511627776) {e : Env} (he : EnvW e) : Gets (EVs (EV cfg) 4 [.sl (qa l), envR e.obj e.binds e.self]) AV.IsBool := by
 have hb := qhj (qcd _ he.obj) 300
 have fin : Gets (bif decide (((qa l).length : Int) > 100) then some (.bool true) else bif decide (((xC e.binds).length : Int) > 60) then some (.bool true) else kOpt (EVs (EV cfg) 15 [e.obj.av, .int .i64 300]) fun (v : AV) => qq v fun (b : Bool) => some (.bool b)) AV.IsBool := by
  cases decide (((qa l).length : Int) > 100) with
  | true => exact ⟨_, rfl, _, rfl⟩
  | false =>
   cases decide (((xC e.binds).length : Int) > 60) with
   | true => exact ⟨_, rfl, _, rfl⟩
   | false =>
    refine Gets.bind hb ?_
    rintro _ ⟨b, rfl⟩
    exact ⟨_, rfl, _, rfl⟩
 have loop1 : ∀ (d i : Nat), i + d = e.binds.length → Gets (qdu (qa l) i e.obj.kind e.obj.num e.obj.str (qa e.obj.subs) (xC e.binds) e.self) AV.IsBool := by
  intro d
  induction d with
  | zero =>
   intro i hi
   refine qdt _ _ _ _ _ _ _ _ ?_
   rw [decide_eq_false (show ¬ (i : Int) < ((xC e.binds).length : Int) by rw [qbc]; omega), cond_false, xV]
   exact fin
  | succ d ih =>
   intro i hi
   refine qdt _ _ _ _ _ _ _ _ ?_
   have hil : i < e.binds.length := by omega
   have h := ih (i + 1) (by omega)
   rw [decide_eq_true (show (i : Int) < ((xC e.binds).length : Int) by rw [qbc]; omega), cond_true, xV]
   cases decide ((i : Int) < 61) with
   | false => exact fin
   | true =>
    rw [show qA (i : Int) ((xC e.binds).length : Int) = true by rw [qbc, q5]; exact decide_eq_true hil, qH, qS hil he.len]
    simp only [qB, Int.toNat_natCast, qjq, qnm hil, qny, cond_true, Bool.and_self, List.length_cons, qU, show qnB (4 + 1) 5 = true from rfl, show qnF 5 (4 + 1) = true from rfl, qz, List.drop_succ_cons, List.drop_zero, vC, qlO, xV]
    refine Gets.bind (qhj (qcd _ (he.binds _ (List.getElem_mem hil))) 100) ?_
    rintro _ ⟨b, rfl⟩
    cases b with
    | true => exact ⟨_, rfl, _, rfl⟩
    | false => exact h
 have loop0 : ∀ (d i : Nat), i + d = l.length → Gets (qf5 (qa l) i e.obj.kind e.obj.num e.obj.str (qa e.obj.subs) (xC e.binds) e.self) AV.IsBool := by
  intro d
  induction d with
  | zero =>
   intro i hi
   refine qdv _ _ _ _ _ _ _ _ ?_
   rw [qj, decide_eq_false (by omega)]
   exact loop1 e.binds.length 0 (by omega)
  | succ d ih =>
   intro i hi
   refine qdv _ _ _ _ _ _ _ _ ?_
   have hil : i < l.length := by omega
   have hx : l[i]? = some l[i] := qnm hil
   have h := ih (i + 1) (by omega)
   rw [qj, decide_eq_true (show (i : Int) < (l.length : Int) by omega), cond_true]
   cases decide ((i : Int) < 101) with
   | false => exact loop1 e.binds.length 0 (by omega)
   | true =>
    rw [qH, q5, decide_eq_true hil, yV hx, qS hil hlen]
    simp only [cond_true, Bool.and_self, qU, Nat.beq_refl, vC, vD, qnb, xV]
    refine Gets.bind (qhj (hl.get (qnA hx)) 300) ?_
    rintro _ ⟨b, rfl⟩
    cases b with
    | true => exact ⟨_, rfl, _, rfl⟩
    | false => exact h
 unfold envR
 exact qe4 _ _ _ _ _ _ _ (loop0 l.length 0 (by omega))
noncomputable def qmC : Den := evC cfg (EV cfg) 21 none 0 (sub (qm Try.f21) [1, 1, 0, 1, 0, 0])
noncomputable def qmV : Ex × List AV × AH → Option AV := kAft (Cfg.keepOut cfg 21 4) (kRun cfg (EV cfg) (kfN cfg 6) 21 none 0 (vV cfg (Cfg.lift cfg 21 0) Try.f21.results.toList) ([.block 0, .seq (sub (qm Try.f21) [1, 1, 1])]))
noncomputable def qmn : List AV × AH → Option AV := fun p => kOpt (LOOP 0 (some [0, 1, 5]) ([]) qmC p) qmV
noncomputable def qmD : Den := evC cfg (EV cfg) 16 none 0 (sub (qm Try.f16) [1, 1, 0, 1, 0, 0])
noncomputable def qmW : Ex × List AV × AH → Option OV := kAft (Cfg.keepOut cfg 16 3) (kRun cfg (EV cfg) (kfN cfg 6) 16 none 0 (qlt cfg (Cfg.lift cfg 16 0) Try.f16.results.toList) ([.block 0, .seq (sub (qm Try.f16) [1, 1, 1])]))
noncomputable def qmo : List AV × AH → Option OV := fun p => kOpt (LOOP 0 (some [0, 3, 4]) ([(3, 4)]) qmD p) qmW
noncomputable abbrev qdD (A B : Rz) (v5 : Int) : Option (AV) := qmn  (((fx 27 [(0, .sl A), (1, .sl B), (5, .int .i64 v5)]) : List AV), ([] : AH))
noncomputable abbrev qdE (A : Rz) (nv3 : Nat) (v4 : Int) (h0 : Rz) : Option (OV) := qmo  (((fx 20 [(0, .sl A), (3, .ms 0 0 nv3), (4, .int .i64 v4)]) : List AV), ([.rows true 4 h0] : AH))
theorem qak (ka na : Int) (sa : Bz) (la : Rz) (kb nb : Int) (sb : Bz) (lb : Rz) {P : AV → Prop} (h : Gets (bif ka == kb then bif na == nb then bif sa == sb then kOpt (EVs (EV cfg) 21 [.sl la, .sl lb]) fun v => qq v fun b => some (.bool b) else some (.bool false) else some (.bool false) else some (.bool false)) P) : Gets (EVs (EV cfg) 12 [.agg [.int .i64 ka, .int .i64 na, .str sa, .sl la], .agg [.int .i64 kb, .int .i64 nb, .str sb, .sl lb]]) P :=
  gE (fun _ => funS rfl rfl Try.func12 rfl) (by kernel_rfl) h
theorem z6 (A B : Rz) {P : AV → Prop} (h : Gets (bif (A.length : Int) != (B.length : Int) then some (.bool false) else qdD A B 0) P) : Gets (EVs (EV cfg) 21 [.sl A, .sl B]) P :=
  gE (fun _ => funS rfl rfl Try.func21 rfl) (by kernel_rfl) h
theorem qal (kt nt : Int) (st : Bz) (lt : Rz) {P : AV → Prop} (h : Gets (kOpt (EVo (EV cfg) 16 [.sl lt]) fun o => kOwn o (some (.agg [.int .i64 kt, .int .i64 nt, .str st, .sl []])) fun sz rs off len => bif qnF (off + len) (qnw rs) && true then some (.agg [.int .i64 kt, .int .i64 nt, .str st, .sl (qnH len (List.drop off rs))]) else none) P) : Gets (EVf (EV cfg) 5 [.agg [.int .i64 kt, .int .i64 nt, .str st, .sl lt]]) P :=
  gE (fun _ => funF rfl rfl Try.func5 rfl) (by kernel_rfl) h
theorem z7 (A : Rz) {P : OV → Prop} (h : Gets (qdE A 0 0 []) P) : Gets (EVo (EV cfg) 16 [.sl A]) P :=
  gE (fun _ => funO rfl rfl Try.func16 rfl) (by kernel_rfl) h
theorem qcB (A B : Rz) (v5 : Int) {P : AV → Prop} (h : Gets (bif decide (v5 < (A.length : Int)) then bif ql 0 v5 && qA v5 (A.length : Int) then kOpt (qnv A (v5.toNat)) fun row => bif qnB (qnw row) 4 then bif qnF 4 (qnw row) then kTmC (qnH 4 row) fun n n_1 s rows => (bif ql 0 v5 && qA v5 (B.length : Int) then kOpt (qnv B (v5.toNat)) fun row => bif qnB (qnw row) 4 then bif qnF 4 (qnw row) then kTmC (qnH 4 row) fun n_2 n_3 s_1 rows_1 => (kOpt (EVs (EV cfg) 12 [.agg [.int .i64 n, .int .i64 n_1, .str s, .sl rows], .agg [.int .i64 n_2, .int .i64 n_3, .str s_1, .sl rows_1]]) fun v => qq v fun b => bif ! b then some (.bool false) else qdD A B (IntKind.wrap .i64 (v5 + 1))) else none else none else none) else none else none else none else some (.bool true)) P) : Gets (qdD A B v5) P :=
  gE (fun _ => qG (cfg := cfg) (f := 21) (rd := none) (bs := 0)) (by kernel_rfl) h
theorem qcC (A : Rz) (nv3 : Nat) (v4 : Int) (h0 : Rz) {P : OV → Prop} (h : Gets (bif decide (v4 < (A.length : Int)) then bif ql 0 v4 && qA v4 (A.length : Int) then kOpt (qnv A (v4.toNat)) fun row => bif qnB (qnw row) 4 then bif qnF 4 (qnw row) then kTmC (qnH 4 row) fun n n_1 s rows => (kOpt (EVf (EV cfg) 5 [.agg [.int .i64 n, .int .i64 n_1, .str s, .sl rows]]) fun v => kTmV v fun n n_2 s rows => (bif qnF (0 + nv3) (qnw h0) && xT (nv3 + 1) 56 then qdE A (nv3 + 1) (IntKind.wrap .i64 (v4 + 1)) (List.append (qnH nv3 h0) [[.int .i64 n, .int .i64 n_2, .str s, .sl rows]]) else none)) else none else none else none else some (OV.own 4 h0 0 nv3)) P) : Gets (qdE A nv3 v4 h0) P :=
  gE (fun _ => qG (cfg := cfg) (f := 16) (rd := none) (bs := 0)) (by kernel_rfl) h
theorem qhf {l : List Tm} (hlen : l.length < 1099511627776) (ih : ∀ x ∈ l, EVf (EV cfg) 5 [x.av] = some x.av) :
  EVo (EV cfg) 16 [.sl (qa l)] = some (OV.own 4 (qa l) 0 l.length) := by
 have loop : ∀ d i : Nat, i + d = l.length → Gets (qdE (qa l) i i (qa (l.take i))) (· = OV.own 4 (qa l) 0 l.length) := by
  intro d
  induction d with
  | zero =>
   intro i hi
   refine qcC _ _ _ _ ?_
   obtain rfl : i = l.length := by omega
   rw [qj, decide_eq_false (by omega), List.take_length]
   exact ⟨_, rfl, rfl⟩
  | succ d ihd =>
   intro i hi
   have hil : i < l.length := by omega
   refine qcC _ _ _ _ ?_
   have hx : l[i]? = some l[i] := qnm hil
   have h1 := ih l[i] (qnA hx)
   have h2 := ihd (i + 1) (by omega)
   have e1 : l.take (i + 1) = l.take i ++ [l[i]] := by rw [List.take_add_one, hx]; rfl
   have ht : (qa (l.take i)).length = i := by rw [qj, List.length_take]; omega
   have e2 : List.append (qnH i (qa (l.take i))) [l[i].cells] = qa (l.take (i + 1)) := by
    rw [List.take_of_length_le (by omega), e1, yD, vp, vT]; rfl
   have e3 : qnF (0 + i) (qa (l.take i)).length = true := by rw [ht, Nat.ble_eq]; omega
   rw [qj, decide_eq_true (show (i : Int) < (l.length : Int) by omega), qH, q5, decide_eq_true hil, yV hx, qS hil hlen, e3, qg9 (by omega)]
   simp only [cond_true, Bool.and_self, qU, Nat.beq_refl, vC, vD, show qnF 4 4 = true from rfl, xV, h1, qz, qim]
   rw [← Tm.cells_eq, e2]
   exact h2
 apply Gets.get
 exact z7 _ (by simpa [vT] using loop l.length 0 (by omega))
theorem qic (t : Tm) : t.w < 1099511627776 → EVf (EV cfg) 5 [t.av] = some t.av := by
 induction t using Tm.ind with
 | _ k n s l ih =>
  intro hw
  rw [Tm.w_mk] at hw
  have hlen := xy l
  have h := qhf (l := l) (by omega) fun x hx => ih x hx (by have := zN hx; omega)
  apply Gets.get
  rw [Tm.av_mk]
  refine qal _ _ _ _ ?_
  rw [h]
  have e : (qnF (0 + l.length) (qa l).length && true) = true := by rw [Bool.and_true, Nat.ble_eq, qj]; omega
  have e2 : qnH l.length (List.drop 0 (qa l)) = qa l := List.take_of_length_le (by simp)
  show Gets (bif (qnF (0 + l.length) (qa l).length && true) then some (AV.agg [.int .i64 k, .int .i64 n, .str s, .sl (qnH l.length (List.drop 0 (qa l)))]) else none) _
  rw [e, e2]
  exact ⟨_, rfl, rfl⟩
theorem qkQ (la lb : List Tm) (hlen : la.length < 1099511627776) (ih : ∀ a ∈ la, ∀ b, Gets (EVs (EV cfg) 12 [a.av, b.av]) (qeP (a = b))) : Gets (EVs (EV cfg) 21 [.sl (qa la), .sl (qa lb)]) (qeP (la = lb)) := by
 have loop : la.length = lb.length → ∀ (d i : Nat), i + d = la.length → la.take i = lb.take i → Gets (qdD (qa la) (qa lb) i) (qeP (la = lb)) := by
  intro hl d
  induction d with
  | zero =>
   intro i hi ht
   refine qcB _ _ _ ?_
   rw [List.take_of_length_le (by omega), List.take_of_length_le (by omega)] at ht
   have h1 : ¬ i < la.length := by omega
   simp [h1, xp]
   exact ht
  | succ d ihd =>
   intro i hi ht
   refine qcB _ _ _ ?_
   have hlt1 : i < la.length := by omega
   have hlt2 : i < lb.length := by omega
   have hx : la[i]? = some la[i] := qnm hlt1
   have hy : lb[i]? = some lb[i] := qnm hlt2
   have hix := ih la[i] (qnA hx) lb[i]
   have hta : la.take (i + 1) = la.take i ++ [la[i]] := by rw [List.take_add_one, hx]; rfl
   have htb : lb.take (i + 1) = lb.take i ++ [lb[i]] := by rw [List.take_add_one, hy]; rfl
   have hih := ihd (i + 1) (by omega)
   have hne : la[i] ≠ lb[i] → la ≠ lb := by intro h e; subst e; exact h rfl
   rw [hta, htb, ht] at hih
   rw [qS (n := la.length) (by omega) hlen]
   simp [hlt1, hlt2, hx, hy]
   refine Gets.bind hix ?_
   rintro _ ⟨b, rfl, hb⟩
   cases b with
   | true => simp; exact hih (by rw [hb.1 rfl])
   | false =>
    have : la ≠ lb := hne (fun e => by cases hb.2 e)
    simp [xp, this]
 refine z6 _ _ ?_
 by_cases hl : la.length = lb.length
 ·simp [hl]
  exact loop hl la.length 0 (by omega) (by simp)
 ·have : la ≠ lb := fun e => hl (by rw [e])
  have hl' : ¬ ((la.length : Int) = lb.length) := by omega
  simp [bneD, hl', xp, this]
theorem qkP (a : Tm) : a.Ok → ∀ b : Tm, Gets (EVs (EV cfg) 12 [a.av, b.av]) (qeP (a = b)) := by
 induction a using Tm.ind with
 | _ k n s l ih =>
  intro hok b
  obtain ⟨k', n', s', l'⟩ := b
  have hl := qkQ l l' hok.len (fun a ha b => ih a ha (hok.sub ha) b)
  rw [Tm.av_mk, Tm.av_mk]
  refine qak _ _ _ _ _ _ _ _ ?_
  by_cases h1 : k = k'
  ·by_cases h2 : n = n'
   ·by_cases h3 : s = s'
    ·subst h1 h2 h3
     simp
     refine Gets.bind hl ?_
     rintro _ ⟨b, rfl, hb⟩
     simp [xp, hb]
    ·simp [h1, h2, beqD, h3, xp]
   ·simp [h1, beqD, h2, xp]
  ·simp [beqD, h1, xp]
theorem qjL {a b : Tm} (h : a.Ok) {c : Bool} (hc : c = true ↔ a = b) : EVs (EV cfg) 12 [a.av, b.av] = some (.bool c) := by
 obtain ⟨_, h1, b', rfl, h2⟩ := qkP a h b
 rw [h1]
 have : b' = c := by rw [Bool.eq_iff_iff]; exact h2.trans hc.symm
 rw [this]
theorem qfW : EVs (EV cfg) 17 [.agg [.int .i64 7, .int .i64 0, .str [], .sl [[.int .i64 2, .int .i64 0, .str [107], .sl []], [.int .i64 1, .int .i64 3, .str [], .sl []]]]] = some (.int .i64 0) := zD (.nil) 1000 1000 (by kernel_rfl)
theorem yq : EVf (EV cfg) 46 [.agg [.int .i64 7, .int .i64 0, .str [], .sl [[.int .i64 2, .int .i64 0, .str [107], .sl []], [.int .i64 1, .int .i64 3, .str [], .sl []]], .sl [[.int .i64 1, .int .i64 2, .int .i64 0, .str [107], .sl []], [.int .i64 2, .int .i64 1, .int .i64 3, .str [], .sl []]], .int .i64 1]] = some (.tup [.sl [[.int .i64 1], [.int .i64 2]], .bool true]) := qcl (.consS qfW (.nil)) 1000 1000 (by kernel_rfl)
theorem qbm : EVs (EV cfg) 36 [.agg [.int .i64 2, .int .i64 0, .str [36, 49], .sl []]] = some (.tup [.int .i64 1, .bool true]) := zD (.nil) 1000 1000 (by kernel_rfl)
theorem qbl : EVs (EV cfg) 36 [.agg [.int .i64 2, .int .i64 0, .str [36, 50], .sl []]] = some (.tup [.int .i64 2, .bool true]) := zD (.nil) 1000 1000 (by kernel_rfl)
theorem qfV : EVf (EV cfg) 61 [.sl [[.int .i64 1, .int .i64 2, .int .i64 0, .str [107], .sl []], [.int .i64 2, .int .i64 1, .int .i64 3, .str [], .sl []]], .int .i64 1] = some (.tup [.agg [.int .i64 2, .int .i64 0, .str [107], .sl []], .bool true]) := qcl (.nil) 1000 1000 (by kernel_rfl)
theorem qfU : EVf (EV cfg) 61 [.sl [[.int .i64 1, .int .i64 2, .int .i64 0, .str [107], .sl []], [.int .i64 2, .int .i64 1, .int .i64 3, .str [], .sl []]], .int .i64 2] = some (.tup [.agg [.int .i64 1, .int .i64 3, .str [], .sl []], .bool true]) := qcl (.nil) 1000 1000 (by kernel_rfl)
theorem qfg : EVs (EV cfg) 17 [.agg [.int .i64 7, .int .i64 0, .str [], .sl [[.int .i64 2, .int .i64 0, .str [61, 61], .sl []], [.int .i64 2, .int .i64 0, .str [36, 49], .sl []], [.int .i64 2, .int .i64 0, .str [107], .sl []]]]] = some (.int .i64 0) := zD (.nil) 1000 1000 (by kernel_rfl)
theorem qff : EVs (EV cfg) 59 [.sl [[.int .i64 2, .int .i64 0, .str [36, 49], .sl []], [.int .i64 2, .int .i64 0, .str [107], .sl []]], .fn (.func 53) [] [.cptr [.sl [[.int .i64 1], [.int .i64 2]]] 0]] = some (.int .i64 (-1)) := zD (.consS qbm (.nil)) 1000 1000 (by kernel_rfl)
theorem qfe : EVf (EV cfg) 45 [.agg [.int .i64 7, .int .i64 0, .str [], .sl [[.int .i64 2, .int .i64 0, .str [61, 61], .sl []], [.int .i64 2, .int .i64 0, .str [36, 49], .sl []], [.int .i64 2, .int .i64 0, .str [107], .sl []]]], .agg [.int .i64 7, .int .i64 0, .str [], .sl [[.int .i64 2, .int .i64 0, .str [107], .sl []], [.int .i64 1, .int .i64 3, .str [], .sl []]], .sl [[.int .i64 1, .int .i64 2, .int .i64 0, .str [107], .sl []], [.int .i64 2, .int .i64 1, .int .i64 3, .str [], .sl []]], .int .i64 1]] = some (.tup [.agg [.int .i64 2, .int .i64 0, .str [116, 114, 117, 101], .sl []], .int .i64 0]) := qcl (.consF yq (.consS qfg (.consS qff (.consS qbm (.consF qfV (.nil)))))) 1000 1000 (by kernel_rfl)
theorem qfd : EVs (EV cfg) 17 [.agg [.int .i64 7, .int .i64 0, .str [], .sl [[.int .i64 2, .int .i64 0, .str [43], .sl []], [.int .i64 2, .int .i64 0, .str [36, 50], .sl []], [.int .i64 1, .int .i64 4, .str [], .sl []]]]] = some (.int .i64 0) := zD (.nil) 1000 1000 (by kernel_rfl)
theorem qfc : EVs (EV cfg) 18 [.agg [.int .i64 7, .int .i64 0, .str [], .sl [[.int .i64 2, .int .i64 0, .str [43], .sl []], [.int .i64 2, .int .i64 0, .str [36, 50], .sl []], [.int .i64 1, .int .i64 4, .str [], .sl []]]], .sl [[.int .i64 1], [.int .i64 2]]] = some (.bool true) := zD (.consS qbl (.nil)) 1000 1000 (by kernel_rfl)
theorem qfb : EVf (EV cfg) 45 [.agg [.int .i64 7, .int .i64 0, .str [], .sl [[.int .i64 2, .int .i64 0, .str [43], .sl []], [.int .i64 2, .int .i64 0, .str [36, 50], .sl []], [.int .i64 1, .int .i64 4, .str [], .sl []]]], .agg [.int .i64 7, .int .i64 0, .str [], .sl [[.int .i64 2, .int .i64 0, .str [107], .sl []], [.int .i64 1, .int .i64 3, .str [], .sl []]], .sl [[.int .i64 1, .int .i64 2, .int .i64 0, .str [107], .sl []], [.int .i64 2, .int .i64 1, .int .i64 3, .str [], .sl []]], .int .i64 1]] = some (.tup [.agg [.int .i64 1, .int .i64 7, .str [], .sl []], .int .i64 0]) := qcl (.consF yq (.consS qfd (.consS qfc (.consS qbl (.consF qfU (.nil)))))) 1000 1000 (by kernel_rfl)
theorem qfa : EVs (EV cfg) 17 [.agg [.int .i64 7, .int .i64 0, .str [], .sl [[.int .i64 2, .int .i64 0, .str [104, 100], .sl []], [.int .i64 8, .int .i64 0, .str [], .sl []]]]] = some (.int .i64 0) := zD (.nil) 1000 1000 (by kernel_rfl)
theorem qe9 : EVf (EV cfg) 45 [.agg [.int .i64 7, .int .i64 0, .str [], .sl [[.int .i64 2, .int .i64 0, .str [104, 100], .sl []], [.int .i64 8, .int .i64 0, .str [], .sl []]]], .agg [.int .i64 7, .int .i64 0, .str [], .sl [[.int .i64 2, .int .i64 0, .str [107], .sl []], [.int .i64 1, .int .i64 3, .str [], .sl []]], .sl [[.int .i64 1, .int .i64 2, .int .i64 0, .str [107], .sl []], [.int .i64 2, .int .i64 1, .int .i64 3, .str [], .sl []]], .int .i64 1]] = some (.tup [.agg [.int .i64 0, .int .i64 0, .str [], .sl []], .int .i64 10]) := qcl (.consF yq (.consS qfa (.nil))) 1000 1000 (by kernel_rfl)
theorem qe8 : EVs (EV cfg) 14 [] = some (.bool true) := zD (.consF qfb (.consF qe9 (.consF yq (.consF qfe (.nil))))) 1000 1000 (by kernel_rfl)
theorem qfh {t : Tm} (ht : t.w ≤ 1048576) (V : List Int) (hV : V.length ≤ 1048576) (op : List UInt8) : EVs (EV cfg) 3 [t.av, .sl (qk V), .str op] = some (.bool true) := by
 have wt : t.w < 1099511627776 := by omega
 have he : EnvW ⟨qiv, [], 0⟩ := ⟨by decide, by decide, fun q hq => by cases hq⟩
 have h1 := qkd (l := [t]) (qkX (by rw [zG, qjF]; omega)) (by simp) he
 have h2 := qic t wt
 have h3 := qcS (V := V) (by omega)
 have h4 := qfX (V := V) (by omega) wt
 have h5 := qhJ (V := V) (by omega) wt
 have h6 := qj5 op
 have h7 := qfw op
 have h8 := qcL (l := opsG op) (m := opsG op) (by have := qc8 op; omega)
 have h9 : EVs (EV cfg) 12 [t.av, t.av] = some (.bool true) := qjL (qcd _ wt) (by simp)
 have h10 := qe8
 have hr : qa [t] = [[AV.int .i64 t.kind, .int .i64 t.num, .str t.str, .sl (qa t.subs)]] := by rw [vp, vT, Tm.cells_eq]
 have hz : envR qiv [] 0 = .agg [.int .i64 0, .int .i64 0, .str [], .sl [], .sl [], .int .i64 0] := by
  unfold envR qiv; rw [show (Tm.mk 0 0 [] []).subs = [] from rfl, vT]; rfl
 rw [hr, hz] at h1
 apply Gets.get
 rw [Tm.av, Tm.cells_eq]
 refine qd7 _ _ _ _ _ _ ?_
 rw [show qe 0 [AV.sl [[AV.int .i64 t.kind, .int .i64 t.num, .str t.str, .sl (qa t.subs)]], .agg [.int .i64 0, .int .i64 0, .str [], .sl [], .sl [], .int .i64 0]] = true from rfl, cond_true]
 refine Gets.bind h1 ?_
 rintro _ ⟨b, rfl⟩
 cases b with
 | true => exact ⟨_, rfl, rfl⟩
 | false =>
  simp only [qI, cond_false, xV, qw]
  by_cases hv : (V.length : Int) > 200
  ·rw [decide_eq_true hv]; exact ⟨_, rfl, rfl⟩
  ·rw [decide_eq_false hv, cond_false, h2]
   have hk := qhU (V := V) (by omega)
   have htk : qnH V.length (qk (V ++ yl V.length)) = qk V := by
    rw [qkk, List.take_append_of_le_length (by rw [qw]; exact qnp _), List.take_of_length_le (by rw [qw]; exact qnp _)]
   unfold qd5 at h3 hk
   simp only [qz, qim, xV, h3, kWr, htk]
   rw [show qe 0 [t.av, AV.sl (qk V)] = true by rw [Tm.av, Tm.cells_eq]; rfl]
   simp only [cond_true, h4, h5, qz, xr, beq_self_eq_true, h6, h7, qkf, h8, decide_true, qI, h9, hk, h10]
   exact ⟨_, rfl, rfl⟩
end Go.Proofs.Ytjiecipfkjaooaa
end
section
namespace Go.Av
mutual
def AV.wt : AV → Nat
 | .str s => s.length + 1
 | .sl rows => wtR rows + 1
 | _ => 1
def wtL : List AV → Nat
 | [] => 0
 | a :: l => a.wt + wtL l
def wtR : List (List AV) → Nat
 | [] => 0
 | a :: l => wtL a + wtR l
end
@[simp] theorem qlB : wtL [] = 0 := by rw [wtL]
@[simp] theorem qkI (a : AV) (l : List AV) : wtL (a :: l) = a.wt + wtL l := by rw [wtL]
@[simp] theorem wtR_nil : wtR [] = 0 := by rw [wtR]
@[simp] theorem qkH (a : List AV) (l : List (List AV)) : wtR (a :: l) = wtL a + wtR l := by rw [wtR]
@[simp] theorem wt_int (k : IntKind) (n : Int) : (AV.int k n).wt = 1 := by rw [AV.wt] <;> simp
@[simp] theorem wt_bool (b : Bool) : (AV.bool b).wt = 1 := by rw [AV.wt] <;> simp
@[simp] theorem wt_str (s : List UInt8) : (AV.str s).wt = s.length + 1 := by rw [AV.wt]
@[simp] theorem qm4 (r : List (List AV)) : (AV.sl r).wt = wtR r + 1 := by rw [AV.wt]
theorem qiy (a b : List AV) : wtL (a ++ b) = wtL a + wtL b := by
 induction a with
 | nil => simp
 | cons x l ih => simp [ih]; omega
end Go.Av
namespace Go.Proofs.Ytjiecipfkjaooaa
open Go.Av Go.WideShapes
def qdJ (P : Program) : Nat → List Field → Option Nat
 | off, [] => some off
 | off, f :: fs => if f.offset = off then qdJ P (off + P.cellsOf f.type) fs else none
def qbS (P : Program) (ts : List TypeId) (t : TypeId) : Bool :=
 match P.underlying t with
 | some (.int _) | some .bool | some .string => decide (P.cellsOf t = 1)
 | some (.struct fs) => decide (qdJ P 0 fs.toList = some (P.cellsOf t)) && fs.toList.all (fun f => decide (f.type ∈ ts))
 | some (.slice e) => decide (P.cellsOf t = 1) && (decide (e ∈ ts) && decide (0 < P.cellsOf e))
 | _ => false
def Lay (P : Program) : Nat → TypeId → List AV → Prop
 | 0, _, _ => False
 | n + 1, t, cz =>
  match P.underlying t with
  | some (.int k) => ∃ m, cz = [.int k m] ∧ (Lit.int k m).wf = true
  | some .bool => ∃ b, cz = [.bool b]
  | some .string => ∃ s, cz = [.str s]
  | some (.struct fs) => cz.length = P.cellsOf t ∧ ∀ (i : Nat) f, fs[i]? = some f → Lay P n f.type ((cz.drop f.offset).take (P.cellsOf f.type))
  | some (.slice e) => ∃ rows, cz = [.sl rows] ∧ ∀ row ∈ rows, row.length = P.cellsOf e ∧ Lay P n e row
  | _ => False
def vj (W : World) (cs : List Value) (cz : List AV) : Prop := cz.length = cs.length ∧ ∀ (j : Nat) a v, cz[j]? = some a → cs[j]? = some v → a.isCell = true ∧ Rep (C0 W) M0 a v
theorem vj.nil {W : World} : vj W [] [] := ⟨rfl, fun j a v h => by simp at h⟩
theorem vj.one {W : World} {a : AV} {v : Value} (h1 : a.isCell = true) (h2 : Rep (C0 W) M0 a v) : vj W [v] [a] := ⟨rfl, fun j a' v' ha hv => by
 match j, ha, hv with
 | 0, ha, hv => simp at ha hv; subst ha hv; exact ⟨h1, h2⟩
 | j + 1, ha, hv => simp at ha⟩
theorem vj.append {W : World} {cs cs' : List Value} {cz cz' : List AV} (h : vj W cs cz) (h' : vj W cs' cz') : vj W (cs ++ cs') (cz ++ cz') := by
 refine ⟨by simp [h.1, h'.1], fun j a v ha hv => ?_⟩
 by_cases hj : j < cz.length
 ·rw [qnq hj] at ha
  rw [qnq (by rw [← h.1]; exact hj)] at hv
  exact h.2 j a v ha hv
 ·rw [qns (by omega)] at ha
  rw [qns (by rw [← h.1]; omega), ← h.1] at hv
  exact h'.2 _ a v ha hv
section
variable {H : Type} {enc : TypeId × Value → H} {P : Program} {W : World}
def qlA (enc : TypeId × Value → H) (P : Program) (W : World) (n : Nat) (t : TypeId) : Prop :=
 ∀ cs x, DataW.trod enc P W 0 (fun _ => true) true n t cs = some x → ∃ cz, vj W cs cz ∧ cs.length = P.cellsOf t ∧ Lay P n t cz ∧ wtL cz ≤ Rows.uptoBulk x.1 ∧ qe 0 cz = true ∧
  ∀ (W' : World) (sp : Nat → Bool), (∀ p ∈ x.2, W.sameAt W' p) → (∀ p ∈ x.2, sp p.block = true) → DataW.trod enc P W' 0 sp true n t cs = some x
theorem qhM {n : Nat} {ts : List TypeId} (ih : ∀ t ∈ ts, qlA enc P W n t) {cs : List Value} : ∀ (fs : List Field) (off : Nat), qdJ P off fs = some cs.length → (∀ f ∈ fs, f.type ∈ ts) →
  ∀ xs, (fs.mapM fun f => DataW.trod enc P W 0 (fun _ => true) true n f.type ((cs.drop f.offset).take (P.cellsOf f.type))) = some xs →
  ∃ cz, vj W (cs.drop off) cz ∧ (∀ f ∈ fs, off ≤ f.offset ∧ Lay P n f.type ((cz.drop (f.offset - off)).take (P.cellsOf f.type))) ∧ wtL cz ≤ Rows.uptoBulkAll (xs.map (·.1)) ∧ qe 0 cz = true ∧
   ∀ (W' : World) (sp : Nat → Bool), (∀ p ∈ xs.flatMap (·.2), W.sameAt W' p) → (∀ p ∈ xs.flatMap (·.2), sp p.block = true) →
    (fs.mapM fun f => DataW.trod enc P W' 0 sp true n f.type ((cs.drop f.offset).take (P.cellsOf f.type))) = some xs := by
 intro fs
 induction fs with
 | nil =>
  intro off ht _ xs hx
  rw [qdJ] at ht
  cases ht
  simp at hx
  subst hx
  refine ⟨[], ?_, fun f hf => by simp at hf, by simp, rfl, fun W' sp _ _ => by simp⟩
  rw [List.drop_length]; exact vj.nil
 | cons f fs ihf =>
  intro off ht hin xs hx
  rw [qdJ] at ht
  split at ht
  ·rename_i ho
   rw [List.mapM_cons] at hx
   obtain ⟨x, h1, hx⟩ := qnk.1 hx
   obtain ⟨ys, h2, hx⟩ := qnk.1 hx
   cases hx
   obtain ⟨a1, c1, l1, y1, w1, r1, b1⟩ := ih f.type (hin f (by simp)) _ _ h1
   obtain ⟨a2, c2, y2, w2, r2, b2⟩ := ihf (off + P.cellsOf f.type) ht (fun g hg => hin g (by simp [hg])) ys h2
   have hlen : a1.length = P.cellsOf f.type := by rw [c1.1, l1]
   refine ⟨a1 ++ a2, ?_, fun g hg => ?_, ?_, ye r1 r2, fun W' sp hs hp => ?_⟩
   ·have := c1.append c2
    rw [ho, ← List.drop_drop, List.take_append_drop] at this
    exact this
   ·rcases qnE.1 hg with rfl | hg
    ·refine ⟨by omega, ?_⟩
     rw [ho, Nat.sub_self, List.drop_zero, ← hlen, List.take_append_of_le_length (qnp _), List.take_length]
     exact y1
    ·obtain ⟨g1, g2⟩ := y2 g hg
     refine ⟨by omega, ?_⟩
     have : List.drop (g.offset - off) (a1 ++ a2) = List.drop (g.offset - (off + P.cellsOf f.type)) a2 := by
      have e : g.offset - off = a1.length + (g.offset - (off + P.cellsOf f.type)) := by omega
      rw [e, ← List.drop_drop, List.drop_left]
     rw [this]
     exact g2
   ·rw [qiy]
    simp only [List.map_cons, Rows.uptoBulkAll]
    omega
   ·rw [List.mapM_cons, b1 W' sp (fun p hpp => hs p (by simp [hpp])) (fun p hpp => hp p (by simp [hpp]))]
    have b3 := b2 W' sp (fun p hpp => hs p (by rw [List.flatMap_cons]; exact List.mem_append_right _ hpp)) (fun p hpp => hp p (by rw [List.flatMap_cons]; exact List.mem_append_right _ hpp))
    show Option.bind _ _ = _
    rw [qnt]
    show Option.bind _ _ = _
    rw [b3]; rfl
  ·cases ht
theorem qfL {e : Nat} : ∀ (rows : List (List AV)) (ds : List (DataW H)), rows.length = ds.length → (∀ (i : Nat) row d, rows[i]? = some row → ds[i]? = some d → wtL row ≤ Rows.uptoBulk d) → wtR rows ≤ Rows.uptoBulkAll ds
 | [], [], _, _ => by simp [Rows.uptoBulkAll]
 | t :: l, d :: ds, hl, h => by
  have h0 := h 0 t d rfl rfl
  have := qfL (e := e) l ds (by simpa using hl) (fun i t d ht hd => h (i + 1) t d (by simpa using ht) (by simpa using hd))
  simp only [qkH, Rows.uptoBulkAll]
  omega
theorem qkW {ts : List TypeId} (hts : ∀ t ∈ ts, qbS P ts t = true) : ∀ (n : Nat), ∀ t ∈ ts, qlA enc P W n t := by
 intro n
 induction n with
 | zero => intro t _ cs x h; simp [DataW.trod] at h
 | succ n ih =>
  intro t ht cs x h
  have hg := hts t ht
  unfold qbS at hg
  split at hg
  ·rename_i k hu
   obtain ⟨m, rfl, rfl, hw⟩ := DataW.trod_int hu h
   refine ⟨[.int k m], vj.one rfl (.int _ _), (of_decide_eq_true hg).symm, by unfold Lay; rw [hu]; exact ⟨m, rfl, hw⟩, by simp [Rows.uptoBulk], rfl, fun W' sp _ _ => ?_⟩
   simp [DataW.trod, hu, hw]
  ·rename_i hu
   obtain ⟨b, rfl, rfl⟩ := DataW.trod_bool hu h
   refine ⟨[.bool b], vj.one rfl (.bool _), (of_decide_eq_true hg).symm, by unfold Lay; rw [hu]; exact ⟨b, rfl⟩, by simp [Rows.uptoBulk], rfl, fun W' sp _ _ => ?_⟩
   simp [DataW.trod, hu]
  ·rename_i hu
   obtain ⟨s, rfl, rfl, hw⟩ := DataW.trod_string hu h
   refine ⟨[.str s.data.toList], vj.one rfl ?_, (of_decide_eq_true hg).symm, by unfold Lay; rw [hu]; exact ⟨_, rfl⟩, by simp [Rows.uptoBulk], rfl, fun W' sp _ _ => ?_⟩
   ·have := Rep.str (C := C0 W) (μ := M0) s.data.toList
    simpa using this
   ·simp [DataW.trod, hu, hw]
  ·rename_i fs hu
   rw [qnn, decide_eq_true_eq, List.all_eq_true] at hg
   have h' := h
   unfold DataW.trod at h'
   rw [hu] at h'
   simp only [] at h'
   split at h'
   ·rename_i hl
    obtain ⟨xs, hx, rfl⟩ := qnl.1 h'
    rw [← hl] at hg
    obtain ⟨cz, c, y, w, r, b⟩ := qhM ih fs.toList 0 hg.1 (fun f hf => of_decide_eq_true (hg.2 f hf)) xs hx
    rw [List.drop_zero] at c
    refine ⟨cz, c, hl, ?_, ?_, r, fun W' sp hs hp => ?_⟩
    ·unfold Lay
     rw [hu]
     refine ⟨by rw [c.1, hl], fun i f hf => ?_⟩
     have := y f (by rw [← Array.getElem?_toList] at hf; exact qnA hf)
     rw [Nat.sub_zero] at this
     exact this.2
    ·simp only [Rows.uptoBulk]; omega
    ·unfold DataW.trod
     rw [hu]
     simp only []
     rw [if_pos hl, b W' sp hs hp]; rfl
   ·cases h'
  ·rename_i e hu
   rw [qnn, qnn, decide_eq_true_eq, decide_eq_true_eq, decide_eq_true_eq] at hg
   obtain ⟨hc1, he, hpos⟩ := hg
   rcases DataW.trod_slice hu h with ⟨rfl, rfl⟩ | ⟨a, len, cap, elems, rest, n', e', rfl, rfl, hb, hlc, hmx, hel, hg, hsp, _⟩
   ·refine ⟨[.sl []], vj.one rfl .slNil, hc1.symm, by unfold Lay; rw [hu]; exact ⟨[], rfl, fun r hr => by simp at hr⟩, by simp [Rows.uptoBulk], rfl, fun W' sp _ _ => ?_⟩
    simp [DataW.trod, hu]
   ·obtain rfl : n' = n := by omega
    obtain ⟨hrl, hrg⟩ := hsp rfl
    have ihe := ih e he
    have tms : ∃ f : Nat → List AV, ∀ (i : Nat) y, elems[i]? = some y → ∃ cs', W.cells? 0 (a.add (i * P.cellsOf e)) (P.cellsOf e) = some cs' ∧ vj W cs' (f i) ∧ cs'.length = P.cellsOf e ∧ Lay P n' e (f i) ∧ wtL (f i) ≤ Rows.uptoBulk y.1 ∧ qe 0 (f i) = true := by
     have : ∀ i : Nat, ∃ t : List AV, ∀ y, elems[i]? = some y → ∃ cs', W.cells? 0 (a.add (i * P.cellsOf e)) (P.cellsOf e) = some cs' ∧ vj W cs' t ∧ cs'.length = P.cellsOf e ∧ Lay P n' e t ∧ wtL t ≤ Rows.uptoBulk y.1 ∧ qe 0 t = true := by
      intro i
      cases hy : elems[i]? with
      | none => exact ⟨default, fun y h => by cases h⟩
      | some y =>
       have hi : i < len := by rw [← hel]; exact (qnj.1 hy).1
       obtain ⟨cs', h1, h2⟩ := qnk.1 ((hg i hi).trans hy)
       obtain ⟨t, h3, h4, h5, h6, h7, _⟩ := ihe _ _ h2
       exact ⟨t, fun y' hy' => by cases hy'; exact ⟨cs', h1, h3, h4, h5, h6, h7⟩⟩
     exact ⟨fun i => Classical.choose (this i), fun i => Classical.choose_spec (this i)⟩
    obtain ⟨f, hf⟩ := tms
    have hget : ∀ (i : Nat) (row : List AV), ((List.range len).map f)[i]? = some row → i < len ∧ row = f i := by
     intro i row hi
     have hil : i < len := by have := (qnj.1 hi).1; simpa using this
     refine ⟨hil, ?_⟩
     rw [List.getElem?_map, List.getElem?_range hil] at hi
     simpa using hi.symm
    have hrow : ∀ (i : Nat) (row : List AV), ((List.range len).map f)[i]? = some row → row.length = P.cellsOf e ∧ Lay P n' e row ∧ qe 0 row = true := by
     intro i row hi
     obtain ⟨hil, rfl⟩ := hget i row hi
     obtain ⟨cs', h1, h2, h3, h4, h5, h6⟩ := hf i _ (qnm (by omega))
     exact ⟨by rw [h2.1, h3], h4, h6⟩
    have hspot : ((List.range len).map f) ≠ [] → a.spot = none := by
     intro hne
     have hl0 : 0 < len := by
      rcases Nat.eq_zero_or_pos len with h0 | h0
      ·subst h0; exact absurd (by simp) hne
      ·exact h0
     obtain ⟨cs0, q1, _⟩ := hf 0 _ (qnm (by omega))
     have := (yh q1 (by omega)).1
     simpa [Addr.add] using this
    have hcell : ∀ (i j : Nat) (row : List AV) x, ((List.range len).map f)[i]? = some row → row[j]? = some x → x.isCell = true ∧ ∃ v, W.cell? ⟨a.block, a.off + i * P.cellsOf e + j, none⟩ = some v ∧ Rep (C0 W) M0 x v := by
     intro i j row x hi hj
     have hs := hspot (by intro h0; rw [h0] at hi; simp at hi)
     obtain ⟨hil, rfl⟩ := hget i row hi
     obtain ⟨cs', h1, h2, h3, _⟩ := hf i _ (qnm (by omega))
     obtain ⟨s1, s2, s3⟩ := yh h1 (by omega)
     have hjl : j < cs'.length := by
      rw [← h2.1]
      exact (qnj.1 hj).1
     have h4 := h2.2 j x _ hj (qnm hjl)
     refine ⟨h4.1, _, ?_, h4.2⟩
     have := s3 j _ (qnm hjl)
     rw [vK _ _ hs] at this
     exact this
    have hfree : qi 0 ((List.range len).map f) = true := by
     have : ∀ l : List (List AV), (∀ r ∈ l, qe 0 r = true) → qi 0 l = true := by
      intro l
      induction l with
      | nil => intro _; rfl
      | cons r l ih => intro h; rw [qi, h r (by simp), ih fun q hq => h q (by simp [hq])]; rfl
     refine this _ fun r hr => ?_
     obtain ⟨i, hi⟩ := List.getElem?_of_mem hr
     exact (hrow i r hi).2.2
    refine ⟨[.sl ((List.range len).map f)], vj.one rfl ?_, hc1.symm, ?_, ?_, rfl, fun W' sp hs hp => ?_⟩
    ·have := Rep.sl (C := C0 W) (μ := M0) ((List.range len).map f) a cap (P.cellsOf e) (fun i j => (W.cell? ⟨a.block, a.off + i * P.cellsOf e + j, none⟩).getD undef) hspot (fun i row hi => (hrow i row hi).1) (fun i j row x hi hj => ?_) (fun i j row x hi hj => ?_) (fun i j row x hi hj => ?_) (by simpa using hlc) hfree
     ·simpa using this
     ·obtain ⟨_, v, h1, _⟩ := hcell i j row x hi hj
      show W.cell? _ = _
      rw [h1]; rfl
     ·obtain ⟨_, v, h1, h2⟩ := hcell i j row x hi hj
      rw [h1]; exact h2
     ·exact (hcell i j row x hi hj).1
    ·unfold Lay
     rw [hu]
     refine ⟨_, rfl, fun row hr => ?_⟩
     obtain ⟨i, hi⟩ := List.getElem?_of_mem hr
     exact ⟨(hrow i row hi).1, (hrow i row hi).2.1⟩
    ·simp only [Rows.uptoBulk, qkI, qlB, qm4]
     have := qfL (e := 0) ((List.range len).map f) (elems.map (·.1)) (by simp [hel]) (fun i t d ht hd => by
      rw [List.getElem?_map] at ht hd
      obtain ⟨j, hj, rfl⟩ := qnl.1 ht
      obtain ⟨y, hy, rfl⟩ := qnl.1 hd
      have hil : i < len := by have := (qnj.1 hj).1; simpa using this
      rw [List.getElem?_range hil] at hj
      cases hj
      obtain ⟨_, _, _, _, _, h5, _⟩ := hf i y hy
      exact h5)
     omega
    ·have hrow' : 0 < (elems.length + rest.length) → sp a.block = true := fun hps => hp (.cell a.block (a.off + 0)) (by
      rw [qnC]
      exact .inl (MemPlace.mem_row.2 ⟨0, Nat.mul_pos hps hpos, rfl⟩))
     unfold DataW.trod at h ⊢
     rw [hu] at h ⊢
     simp only [if_true] at h ⊢
     rw [if_pos ⟨hb, hlc, hmx⟩] at h ⊢
     simp only [qnl, qnk] at h ⊢
     obtain ⟨elems', he, rest', hr, hx⟩ := h
     have hlen : elems'.length = len := by simpa using mapM_some_length he
     have hrl' : rest'.length = cap - len := by simpa using mapM_some_length hr
     simp only [Prod.mk.injEq, DataW.slice.injEq] at hx
     have one' : ∀ (i : Nat) (y : DataW H × List MemPlace), i < elems'.length + rest'.length → y ∈ elems' ++ rest' →
       (W.cells? 0 (a.add (i * P.cellsOf e)) (P.cellsOf e)).bind (DataW.trod enc P W 0 (fun _ => true) true n' e) = some y → (W'.cells? 0 (a.add (i * P.cellsOf e)) (P.cellsOf e)).bind (DataW.trod enc P W' 0 sp true n' e) = some y := by
      intro i y hi hy hv
      simp only [qnk] at hv ⊢
      obtain ⟨cs', hc', hy'⟩ := hv
      obtain ⟨_, _, _, _, _, _, hbk⟩ := ihe _ _ hy'
      refine ⟨cs', World.cells?_carry hc' (fun p hpp => hs p ?_), hbk W' sp (fun p hpp => hs p ?_) (fun p hpp => hp p ?_)⟩
      ·rw [← hx.2]
       obtain ⟨j, hj, rfl⟩ := MemPlace.mem_row.1 hpp
       simp only [qnC]
       left
       refine MemPlace.mem_row.2 ⟨i * P.cellsOf e + j, ?_, ?_⟩
       ·calc i * P.cellsOf e + j < i * P.cellsOf e + P.cellsOf e := by omega
         _ = (i + 1) * P.cellsOf e := by rw [qnG, Nat.one_mul]
         _ ≤ (elems'.length + rest'.length) * P.cellsOf e := qnx _ hi
       ·unfold Addr.add
        split
        ·rename_i h0
         simp [h0]
        ·simp [qnD]
      ·rw [← hx.2]
       simp only [qnC, List.mem_flatMap]
       right
       exact ⟨y, by simpa using hy, hpp⟩
      ·rw [← hx.2]
       simp only [qnC, List.mem_flatMap]
       right
       exact ⟨y, by simpa using hy, hpp⟩
     refine ⟨elems', mapM_carry he (fun i y hi hy => one' i y (by have : i < len := (by simpa using hi); omega) (by simp [hy])), rest', ?_, by simp only [Prod.mk.injEq, DataW.slice.injEq]; exact hx⟩
     by_cases h0 : 0 < elems.length + rest.length
     ·rw [if_pos (hrow' h0)]
      exact mapM_carry hr (fun j y hj hy => one' (len + j) y (by have : j < cap - len := (by simpa using hj); omega) (by simp [hy]))
     ·have hc0 : cap - len = 0 := by omega
      rw [hc0] at hr ⊢
      simp at hr
      subst hr
      split <;> rfl
  ·cases hg
theorem qiV {ts : List TypeId} (hts : ∀ t ∈ ts, qbS P ts t = true) {t e : TypeId} (ht : t ∈ ts) (hu : P.underlying t = some (.slice e)) {r : Reach} {b0 : Nat} {v : Value} {d : DataW H} {ps : List MemPlace}
  (hval : Value.okWide P W r b0 t v) (hd : DataW.Trod enc P W 0 (fun _ => true) true t v d ps) :
  ∃ (rows : List (List AV)) (n : Nat), Opened enc P W t v d ps (.sl rows) ∧ (∀ row ∈ rows, row.length = P.cellsOf e ∧ Lay P n e row) ∧ wtR rows < Rows.uptoBulk d := by
 obtain ⟨a, len, cap, rfl⟩ := okWide_slice hu hval
 obtain ⟨n, hn⟩ := hd
 obtain ⟨cz, h1, h2, h3, h4, h5, h6⟩ := qkW hts n t ht _ _ hn
 cases n with
 | zero => exact absurd h3 (by unfold Lay; exact id)
 | succ n =>
  unfold Lay at h3
  rw [hu] at h3
  obtain ⟨rows, rfl, h3⟩ := h3
  refine ⟨rows, n, ⟨?_, fun W' sp hs hp => ⟨n + 1, h6 W' sp hs hp⟩⟩, h3, ?_⟩
  ·exact (h1.2 0 _ _ rfl (by simp [Value.cells])).2
  ·simp at h4; exact h4
end
theorem qk1 {α : Type} {P : Program} {n : Nat} {e : TypeId} {f : α → List AV} {w : α → Nat} (h : ∀ cz, Lay P n e cz → ∃ x : α, cz = f x ∧ w x < wtL cz) : ∀ rows : List (List AV), (∀ row ∈ rows, row.length = P.cellsOf e ∧ Lay P n e row) →
  ∃ l : List α, rows = l.map f ∧ (∀ x ∈ l, w x < wtR rows) ∧ l.length ≤ wtR rows := by
 intro rows
 induction rows with
 | nil => intro _; exact ⟨[], rfl, fun x hx => by simp at hx, by simp⟩
 | cons r rows ih =>
  intro hr
  obtain ⟨x, e1, w1⟩ := h r (hr r (by simp)).2
  obtain ⟨l, e2, w2, w3⟩ := ih fun q hq => hr q (by simp [hq])
  refine ⟨x :: l, by rw [List.map_cons, ← e1, ← e2], fun y hy => ?_, by simp; omega⟩
  rcases qnE.1 hy with rfl | hy
  ·simp; omega
  ·have := w2 y hy; simp; omega
theorem qiu {H : Type} {l : List (DataW H)} (hk : Rows.uptoSmall H l = true) {d : DataW H} (hd : d ∈ l) : Rows.uptoBulk d ≤ 1048576 := by
 have h : Rows.uptoBulkAll l ≤ 1048576 := of_decide_eq_true hk
 have := qfM hd
 omega
def qen : List TypeId := [25, 3]
theorem qjf : ∀ t ∈ qen, qbS Try.prog qen t = true := by
 have : qen.all (qbS Try.prog qen) = true := by kernel_rfl
 exact List.all_eq_true.1 this
theorem qlN {n : Nat} {cz : List AV} (h : Lay Try.prog n 3 cz) : ∃ k : Int, cz = [.int .i64 k] ∧ 0 < wtL cz := by
 cases n with
 | zero => exact absurd h (by unfold Lay; exact id)
 | succ n =>
  unfold Lay at h
  rw [Try.underlying3] at h
  obtain ⟨k, rfl, _⟩ := h
  exact ⟨k, rfl, by simp⟩
theorem qj7 {H : Type} {enc : TypeId × Value → H} {W : World} {r : Reach} {b0 : Nat} {v : Value} {d : DataW H} {ps : List MemPlace} (hval : Value.okWide Try.prog W r b0 25 v) (hd : DataW.Trod enc Try.prog W 0 (fun _ => true) true 25 v d ps) :
  ∃ l : List Int, Opened enc Try.prog W 25 v d ps (.sl (qk l)) ∧ l.length ≤ Rows.uptoBulk d := by
 obtain ⟨rows, n, h1, h2, h3⟩ := qiV qjf (by simp [qen]) Try.underlying25 hval hd
 obtain ⟨l, rfl, w1, w2⟩ := qk1 (f := fun k : Int => [AV.int .i64 k]) (w := fun _ => 0) (fun cz h => qlN h) rows h2
 exact ⟨l, h1, by omega⟩
end Go.Proofs.Ytjiecipfkjaooaa
end
